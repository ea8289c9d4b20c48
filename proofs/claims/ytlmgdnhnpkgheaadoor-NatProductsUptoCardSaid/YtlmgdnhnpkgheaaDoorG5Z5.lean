/- Plain law: texts and the program's numbers: Read and Text. -/
import Derived.Test.YtlmgdnhnpkgheaaDoorG4Z5
import Derived.Test.YtlmgdnhnpkgheaaDoorG2Z5
import Derived.Test.YtlmgdnhnpkgheaaDoorRows
namespace Go.Am.Tryd
open Go Go.Am Go.Proofs
set_option linter.unusedSimpArgs false
set_option linter.unusedVariables false
variable {K : Nat}
/-- The number of decimal digits given as bytes. -/
def numB (l : List Int) : Int := valB 10 ((l.map (· - 48)).reverse)
theorem numT_B (s : ByteArray) : numT s = numB (bytesOf s) := rfl
theorem numB_nil : numB [] = 0 := rfl
theorem numB_snoc (l : List Int) (c : Int) : numB (l ++ [c]) = numB l * 10 + (c - 48) := by
  unfold numB
  simp [valB]
  omega
theorem numB_app (l m : List Int) : numB (l ++ m) = numB m + 10 ^ m.length * numB l := by
  unfold numB
  rw [List.map_append, List.reverse_append, valB_app]
  simp
theorem numB_cons (c : Int) (l : List Int) : numB (c :: l) = numB l + 10 ^ l.length * (c - 48) := by
  have := numB_app [c] l
  simpa [numB, valB] using this
theorem numB_dig {l : List Int} (h : l.all digT = true) : DigB 10 ((l.map (· - 48)).reverse) := by
  intro d hd
  rw [List.mem_reverse, List.mem_map] at hd
  obtain ⟨c, hc, rfl⟩ := hd
  have := List.all_eq_true.1 h c hc
  simp only [digT, Bool.and_eq_true, decide_eq_true_eq] at this
  omega
theorem numB_nonneg {l : List Int} (h : l.all digT = true) : 0 ≤ numB l := valB_nonneg (by omega) _ (numB_dig h)
theorem numB_lt {l : List Int} (h : l.all digT = true) : numB l < 10 ^ l.length := by
  have := valB_lt (B := 10) (by omega) _ (numB_dig h)
  simpa [numB] using this
theorem digT_iff {c : Int} : digT c = true ↔ 48 ≤ c ∧ c ≤ 57 := by simp [digT]
theorem all_take {l : List Int} (h : l.all digT = true) (k : Nat) : (l.take k).all digT = true := List.all_eq_true.2 fun x hx => List.all_eq_true.1 h x (List.mem_of_mem_take hx)
theorem all_drop {l : List Int} (h : l.all digT = true) (k : Nat) : (l.drop k).all digT = true := List.all_eq_true.2 fun x hx => List.all_eq_true.1 h x (List.mem_of_mem_drop hx)
theorem take_snoc {l : List Int} {i : Nat} (h : i < l.length) : l.take (i + 1) = l.take i ++ [l.getD i 0] := by
  rw [List.take_add_one, List.getElem?_eq_getElem h, List.getD_eq_getElem?_getD, List.getElem?_eq_getElem h]; rfl
theorem getD_digT {l : List Int} (h : l.all digT = true) {i : Nat} (hi : i < l.length) : 48 ≤ l.getD i 0 ∧ l.getD i 0 ≤ 57 := by
  rw [List.getD_eq_getElem?_getD, List.getElem?_eq_getElem hi]
  exact digT_iff.1 (List.all_eq_true.1 h _ (List.getElem_mem hi))
theorem read_part {t : ByteArray} (ht : t.size ≤ 9) (hK : 2000000000 < K) (hd : (bytesOf t).all digT = true) : g_nat_Read_l2 K t K 0 0 = some (numT t) := by
  suffices h : ∃ r, g_nat_Read_l2 K t K 0 0 = some r ∧ r = numT t by obtain ⟨r, h1, rfl⟩ := h; exact h1
  have hn := bytesOf_length t
  refine loopW (fun k (s : Int × Int) => g_nat_Read_l2 K t k s.1 s.2) (fun s => ∃ i : Nat, s.2 = i ∧ i ≤ t.size ∧ s.1 = numB ((bytesOf t).take i)) (fun s => (t.size - s.2 : Int).toNat) _ ?_ ((0, 0) : Int × Int) (by simp; omega) ⟨0, rfl, by omega, by simp [numB_nil]⟩
  rintro k ⟨_, _⟩ ⟨i, rfl, h0, rfl⟩
  dsimp only
  by_cases hi : i < t.size
  · right
    have b1 := numB_nonneg (all_take hd i)
    have b2 := numB_lt (all_take hd i)
    have b3 : (10 : Int) ^ (List.take i (bytesOf t)).length ≤ 10 ^ 8 := by
      rw [List.length_take, hn, Nat.min_eq_left (by omega)]
      exact ipow_le (by omega) (by omega)
    have hc := getD_digT hd (i := i) (by omega)
    have hs := take_snoc (l := bytesOf t) (i := i) (by omega)
    have b4 : (10 : Int) ^ 8 = 100000000 := by decide
    refine ⟨(numB ((bytesOf t).take (i + 1)), (i : Int) + 1), ?_, by dsimp only; omega, i + 1, rfl, by omega, rfl⟩
    rw [g_nat_Read_l2, hs, numB_snoc]
    generalize numB ((bytesOf t).take i) = d at *
    rw [hn]
    have hi' : (i : Int) < ((bytesOf t).length : Int) := by omega
    simp (discharger := omega) only [decide_eq_true_eq, if_pos, if_neg, if_true, if_false, bsome, beq_iff, bne_iff, idxI, bidxI, sslI, lslI, k64, ku64, ku32, ku8, i64w, u64w, u32w, u8w, tdivI, tmodI, tu0a, tu1a, tu2a, tu3a, tu4a, tu5a, lta, bindSl, bindSr, outSl, outSr, Int.toNat_natCast, List.length_cons, List.length_nil, List.length_set, Int.toNat_zero, List.replicate_zero]
  · left
    have : i = t.size := by omega
    subst this
    refine ⟨numB ((bytesOf t).take t.size), by rw [g_nat_Read_l2, hn]; simp (discharger := omega) only [decide_eq_true_eq, if_pos, if_neg, if_true, if_false, bsome, beq_iff, bne_iff, idxI, bidxI, sslI, lslI, k64, ku64, ku32, ku8, i64w, u64w, u32w, u8w, tdivI, tmodI, tu0a, tu1a, tu2a, tu3a, tu4a, tu5a, lta, bindSl, bindSr, outSl, outSr, Int.toNat_natCast, List.length_cons, List.length_nil, List.length_set, Int.toNat_zero, List.replicate_zero], ?_⟩
    rw [List.take_of_length_le (by omega)]
    rfl
theorem read_loop {s : ByteArray} (hs : s.size ≤ 8000000) (hK : 2000000000 < K) (hd : (bytesOf s).all digT = true) :
    ∃ r : List Int, g_nat_Read_l0 K s K [] (s.size : Int) = some r ∧ 9 * r.length < s.size + 9 ∧ DigB 1000000000 r ∧ valB 1000000000 r = numT s := by
  have hn := bytesOf_length s
  refine loopW (fun k (q : List Int × Int) => g_nat_Read_l0 K s k q.1 q.2) (fun q => q.2 = (s.size : Int) - 9 * q.1.length ∧ 9 * q.1.length < s.size + 9 ∧ DigB 1000000000 q.1 ∧ valB 1000000000 q.1 + 1000000000 ^ q.1.length * numB ((bytesOf s).take q.2.toNat) = numT s) (fun q => (q.2 + 9).toNat) _ ?_ (([], (s.size : Int)) : List Int × Int) (by dsimp only; omega) ⟨by simp, by simp, .nil _, by simp [valB]; rw [List.take_of_length_le (by omega)]; rfl⟩
  rintro k ⟨out, e⟩ ⟨h1, h2, h3, h4⟩
  dsimp only at h1 h2 h3 h4 ⊢
  by_cases he : e > 0
  · right
    obtain ⟨lo, hlo, hm⟩ : ∃ lo : Nat, imax 0 (kwrap .i64 (e - 9)) = lo ∧ ((lo : Int) = e - 9 ∨ ((lo = 0) ∧ e < 9)) := by
      rw [k64 (by omega) (by omega)]
      unfold imax
      by_cases h9 : e - 9 > 0
      · exact ⟨(e - 9).toNat, by rw [if_pos h9]; omega, .inl (by omega)⟩
      · exact ⟨0, by rw [if_neg h9]; rfl, by omega⟩
    have hb : bytesOf (s.extract lo e.toNat) = ((bytesOf s).drop lo).take (e.toNat - lo) := bytesOf_extract _ _ _
    have hsz : (s.extract lo e.toNat).size = e.toNat - lo := by rw [← bytesOf_length, hb, List.length_take, List.length_drop]; omega
    have hdp : (bytesOf (s.extract lo e.toNat)).all digT = true := by rw [hb]; exact all_take (all_drop hd _) _
    have hp := read_part (K := K) (t := s.extract lo e.toNat) (by omega) hK hdp
    have hv0 := numB_nonneg hdp
    have hv1 := numB_lt hdp
    have hsplit : (bytesOf s).take e.toNat = (bytesOf s).take lo ++ bytesOf (s.extract lo e.toNat) := by
      rw [hb, show e.toNat = lo + (e.toNat - lo) by omega, List.take_add]; simp
    have hlen : (bytesOf (s.extract lo e.toNat)).length = e.toNat - lo := by rw [bytesOf_length]; exact hsz
    have hBv : numB (bytesOf (s.extract lo e.toNat)) < 1000000000 := by
      have : (10 : Int) ^ (bytesOf (s.extract lo e.toNat)).length ≤ 10 ^ 9 := ipow_le (by omega) (by omega)
      have e9 : (10 : Int) ^ 9 = 1000000000 := by decide
      omega
    refine ⟨(out ++ [numT (s.extract lo e.toNat)], e - 9), ?_, by dsimp only; omega, by simp; omega, by simp; omega, h3.snoc ⟨hv0, hBv⟩, ?_⟩
    · rw [g_nat_Read_l0, hlo]
      simp (discharger := omega) only [decide_eq_true_eq, if_pos, if_neg, if_true, if_false, bsome, beq_iff, bne_iff, idxI, bidxI, sslI, lslI, k64, ku64, ku32, ku8, i64w, u64w, u32w, u8w, tdivI, tmodI, tu0a, tu1a, tu2a, tu3a, tu4a, tu5a, lta, bindSl, bindSr, outSl, outSr, Int.toNat_natCast, List.length_cons, List.length_nil, List.length_set, Int.toNat_zero, List.replicate_zero, hp]
    · dsimp only
      rw [valB_snoc, List.length_append, List.length_singleton, Int.pow_succ, numT_B]
      rw [hsplit, numB_app, hlen] at h4
      rcases hm with hm | ⟨hm, h9⟩
      · have e9 : e.toNat - lo = 9 := by omega
        have e10 : (10 : Int) ^ 9 = 1000000000 := by decide
        have el : (e - 9).toNat = lo := by omega
        rw [e9, e10] at h4
        rw [el]
        grind
      · subst hm
        have el : (e - 9).toNat = 0 := by omega
        rw [el, List.take_zero, numB_nil] at *
        grind
  · left
    have el : e.toNat = 0 := by omega
    rw [el, List.take_zero, numB_nil] at h4
    exact ⟨out, by rw [g_nat_Read_l0]; simp (discharger := omega) only [decide_eq_true_eq, if_pos, if_neg, if_true, if_false, bsome, beq_iff, bne_iff, idxI, bidxI, sslI, lslI, k64, ku64, ku32, ku8, i64w, u64w, u32w, u8w, tdivI, tmodI, tu0a, tu1a, tu2a, tu3a, tu4a, tu5a, lta, bindSl, bindSr, outSl, outSr, Int.toNat_natCast, List.length_cons, List.length_nil, List.length_set, Int.toNat_zero, List.replicate_zero], h2, h3, by omega⟩
theorem read_ok {s : ByteArray} (hs : s.size ≤ 8000000) (hK : 2000000000 < K) (hd : (bytesOf s).all digT = true) : ∃ z, g_nat_Read K s = some z ∧ NumN (numT s) z ∧ 9 * z.length < s.size + 9 := by
  obtain ⟨r, h1, h2, h3, h4⟩ := read_loop hs hK hd
  obtain ⟨t, t1, t2, t3, t4⟩ := trim_ok (K := K) (B := 1000000000) (l := r) (by omega) hK h3
  exact ⟨t, by unfold g_nat_Read; simp (discharger := omega) only [decide_eq_true_eq, if_pos, if_neg, if_true, if_false, bsome, beq_iff, bne_iff, idxI, bidxI, sslI, lslI, k64, ku64, ku32, ku8, i64w, u64w, u32w, u8w, tdivI, tmodI, tu0a, tu1a, tu2a, tu3a, tu4a, tu5a, lta, bindSl, bindSr, outSl, outSr, Int.toNat_natCast, List.length_cons, List.length_nil, List.length_set, Int.toNat_zero, List.replicate_zero, h1, t1], ⟨t2, by rw [t3, h4]⟩, by omega⟩
theorem text_part {d : Int} (hd : 0 ≤ d ∧ d < 1000000000) (hK : 2000000000 < K) : ∃ p, g_nat_N_Text_l2 K K (List.replicate 9 0) d 8 = some p ∧ p.length = 9 ∧ p.all digT = true ∧ numB p = d := by
  refine loopW (fun k (s : List Int × Int × Int) => g_nat_N_Text_l2 K k s.1 s.2.1 s.2.2) (fun s => ∃ j : Nat, s.2.2 = (j : Int) - 1 ∧ j ≤ 9 ∧ s.1.length = 9 ∧ (s.1.drop j).all digT = true ∧ (0 ≤ s.2.1 ∧ s.2.1 ≤ d) ∧ d = s.2.1 * 10 ^ (9 - j) + numB (s.1.drop j)) (fun s => (s.2.2 + 1).toNat) _ ?_ ((List.replicate 9 0, d, 8) : List Int × Int × Int) (by simp; omega) ⟨9, rfl, by omega, by simp, by simp, by dsimp only; omega, by simp [numB_nil]⟩
  rintro k ⟨p, c, _⟩ ⟨j, rfl, hj, h1, h2, h3, h4⟩
  dsimp only at h1 h2 h3 h4 ⊢
  by_cases h0 : j = 0
  · subst h0
    left
    rw [List.drop_zero] at h2 h4
    have e9 : (10 : Int) ^ (9 - 0) = 1000000000 := by decide
    have := numB_nonneg h2
    rw [e9] at h4
    exact ⟨p, by rw [g_nat_N_Text_l2]; simp (discharger := omega) only [decide_eq_true_eq, if_pos, if_neg, if_true, if_false, bsome, beq_iff, bne_iff, idxI, bidxI, sslI, lslI, k64, ku64, ku32, ku8, i64w, u64w, u32w, u8w, tdivI, tmodI, tu0a, tu1a, tu2a, tu3a, tu4a, tu5a, lta, bindSl, bindSr, outSl, outSr, Int.toNat_natCast, List.length_cons, List.length_nil, List.length_set, Int.toNat_zero, List.replicate_zero], h1, h2, by omega⟩
  · right
    obtain ⟨i, rfl⟩ : ∃ i, j = i + 1 := ⟨j - 1, by omega⟩
    have e1 : ((i + 1 : Nat) : Int) - 1 = i := by omega
    rw [e1]
    have hx : (p.set i (48 + c % 10)).drop i = (48 + c % 10) :: p.drop (i + 1) := by
      rw [List.drop_eq_getElem_cons (by simp; omega), List.drop_set_of_lt (by omega)]
      simp
    have e2 : (10 : Int) ^ (9 - i) = 10 ^ (9 - (i + 1)) * 10 := by rw [← Int.pow_succ]; congr 1; omega
    have e3 : (p.drop (i + 1)).length = 9 - (i + 1) := by rw [List.length_drop, h1]
    have hdm := Int.emod_add_mul_ediv c 10
    refine ⟨(p.set i (48 + c % 10), c / 10, (i : Int) - 1), ?_, by dsimp only; omega, i, rfl, by omega, by simp [h1], ?_, by dsimp only; omega, ?_⟩
    · rw [g_nat_N_Text_l2]
      simp (discharger := omega) only [decide_eq_true_eq, if_pos, if_neg, if_true, if_false, bsome, beq_iff, bne_iff, idxI, bidxI, sslI, lslI, k64, ku64, ku32, ku8, i64w, u64w, u32w, u8w, tdivI, tmodI, tu0a, tu1a, tu2a, tu3a, tu4a, tu5a, lta, bindSl, bindSr, outSl, outSr, Int.toNat_natCast, List.length_cons, List.length_nil, List.length_set, Int.toNat_zero, List.replicate_zero]
    · dsimp only
      rw [hx, List.all_cons, h2, Bool.and_true]
      exact digT_iff.2 (by omega)
    · dsimp only
      rw [hx, numB_cons, e2, e3]
      generalize (10 : Int) ^ (9 - (i + 1)) = P at *
      grind
theorem text_loop' {x : List Int} (hx : x.length ≤ 1000000) (hK : 2000000000 < K) (dx : DigB 1000000000 x) : ∃ b, g_nat_N_Text_l0 K x K [] ((x.length : Int) - 1) = some b ∧ b.length = 9 * x.length ∧ b.all digT = true ∧ numB b = valB 1000000000 x := by
  refine loopW (fun k (s : List Int × Int) => g_nat_N_Text_l0 K x k s.1 s.2) (fun s => ∃ j : Nat, s.2 = (j : Int) - 1 ∧ j ≤ x.length ∧ s.1.length = 9 * (x.length - j) ∧ s.1.all digT = true ∧ numB s.1 = valB 1000000000 (x.drop j)) (fun s => (s.2 + 1).toNat) _ ?_ (([], (x.length : Int) - 1) : List Int × Int) (by dsimp only; omega) ⟨x.length, rfl, Nat.le_refl _, by simp, by simp, by simp [valB, numB_nil]⟩
  rintro k ⟨b, _⟩ ⟨j, rfl, hj, h1, h2, h4⟩
  dsimp only at h1 h2 h4 ⊢
  by_cases h0 : j = 0
  · subst h0
    left
    exact ⟨b, by rw [g_nat_N_Text_l0]; simp (discharger := omega) only [decide_eq_true_eq, if_pos, if_neg, if_true, if_false, bsome, beq_iff, bne_iff, idxI, bidxI, sslI, lslI, k64, ku64, ku32, ku8, i64w, u64w, u32w, u8w, tdivI, tmodI, tu0a, tu1a, tu2a, tu3a, tu4a, tu5a, lta, bindSl, bindSr, outSl, outSr, Int.toNat_natCast, List.length_cons, List.length_nil, List.length_set, Int.toNat_zero, List.replicate_zero], h1, h2, h4⟩
  · right
    obtain ⟨i, rfl⟩ : ∃ i, j = i + 1 := ⟨j - 1, by omega⟩
    have e1 : ((i + 1 : Nat) : Int) - 1 = i := by omega
    rw [e1]
    have ex := getD_dig (by omega) dx i
    obtain ⟨p, p1, p2, p3, p4⟩ := text_part (K := K) (d := x.getD i 0) ex hK
    have e9 : (10 : Int) ^ 9 = 1000000000 := by decide
    refine ⟨(b ++ p, (i : Int) - 1), ?_, by dsimp only; omega, i, rfl, by omega, by simp; omega, ?_, ?_⟩
    · rw [g_nat_N_Text_l0]
      simp (discharger := omega) only [decide_eq_true_eq, if_pos, if_neg, if_true, if_false, bsome, beq_iff, bne_iff, idxI, bidxI, sslI, lslI, k64, ku64, ku32, ku8, i64w, u64w, u32w, u8w, tdivI, tmodI, tu0a, tu1a, tu2a, tu3a, tu4a, tu5a, lta, bindSl, bindSr, outSl, outSr, Int.toNat_natCast, List.length_cons, List.length_nil, List.length_set, Int.toNat_zero, List.replicate_zero, p1]
    · dsimp only
      rw [List.all_append, h2, p3]; rfl
    · dsimp only
      rw [numB_app, p2, p4, h4, drop_val x i, e9]
theorem trimLeft_loop {n : Int} : ∀ k (s : ByteArray), s.size < k → s.size ≤ 16777216 → (bytesOf s).all digT = true → numT s = n → ∃ t, g_strings_trimLeftByte_l0 K 48 k s = some t ∧ (bytesOf t).all digT = true ∧ numT t = n ∧ (bytesOf t).head? ≠ some 48 ∧ t.size ≤ s.size := by
  intro k
  induction k with
  | zero => intro s h; omega
  | succ k ih =>
    intro s hk hb hd hn
    have hl := bytesOf_length s
    by_cases h0 : s.size > 0
    · cases hc : bytesOf s with
      | nil => rw [hc] at hl; simp at hl; omega
      | cons c l =>
        obtain ⟨t, t1, t2, t3⟩ := ssl_tail hc
        rw [hc] at hd hl
        simp only [List.all_cons, Bool.and_eq_true, List.length_cons] at hd hl
        have hcc : bidx s 0 = some c := by rw [bidx_eq, hc]; rfl
        by_cases h1 : c = 48
        · subst h1
          obtain ⟨r, r1, r2, r3, r4, r5⟩ := ih t (by omega) (by omega) (by rw [t2]; exact hd.2) (by rw [← hn, numT_B, numT_B, t2, hc, numB_cons]; simp)
          refine ⟨r, ?_, r2, r3, r4, by omega⟩
          rw [g_strings_trimLeftByte_l0, hcc, t1]
          simp (discharger := omega) only [decide_eq_true_eq, if_pos, if_neg, if_true, if_false, bsome, beq_iff, bne_iff, idxI, bidxI, sslI, lslI, k64, ku64, ku32, ku8, i64w, u64w, u32w, u8w, tdivI, tmodI, tu0a, tu1a, tu2a, tu3a, tu4a, tu5a, lta, bindSl, bindSr, outSl, outSr, Int.toNat_natCast, List.length_cons, List.length_nil, List.length_set, Int.toNat_zero, List.replicate_zero, r1]
        · refine ⟨s, ?_, by rw [hc]; simp [hd], hn, by rw [hc]; simp; omega, Nat.le_refl _⟩
          rw [g_strings_trimLeftByte_l0, hcc]
          simp (discharger := omega) only [decide_eq_true_eq, if_pos, if_neg, if_true, if_false, bsome, beq_iff, bne_iff, idxI, bidxI, sslI, lslI, k64, ku64, ku32, ku8, i64w, u64w, u32w, u8w, tdivI, tmodI, tu0a, tu1a, tu2a, tu3a, tu4a, tu5a, lta, bindSl, bindSr, outSl, outSr, Int.toNat_natCast, List.length_cons, List.length_nil, List.length_set, Int.toNat_zero, List.replicate_zero]
    · refine ⟨s, ?_, hd, hn, ?_, Nat.le_refl _⟩
      · rw [g_strings_trimLeftByte_l0]
        have e : (decide ((s.size : Int) > 0)) = false := decide_eq_false (by omega)
        rw [e]
        simp (discharger := omega) only [decide_eq_true_eq, if_pos, if_neg, if_true, if_false, bsome, beq_iff, bne_iff, idxI, bidxI, sslI, lslI, k64, ku64, ku32, ku8, i64w, u64w, u32w, u8w, tdivI, tmodI, tu0a, tu1a, tu2a, tu3a, tu4a, tu5a, lta, bindSl, bindSr, outSl, outSr, Int.toNat_natCast, List.length_cons, List.length_nil, List.length_set, Int.toNat_zero, List.replicate_zero, Bool.false_eq_true]
      · have : bytesOf s = [] := List.length_eq_zero_iff.1 (by omega)
        rw [this]; simp
theorem sEq_ne {s t : ByteArray} (h : s.size ≠ t.size) : sEq s t = false := by
  cases e : sEq s t with
  | false => rfl
  | true => rw [sEq_iff] at e; subst e; exact absurd rfl h
theorem trimLeft_ok {s : ByteArray} (hs : s.size ≤ 16777216) (hK : 2000000000 < K) (hp : 0 < numT s) (hd : (bytesOf s).all digT = true) : ∃ t, g_strings_TrimLeft K s ⟨#[48]⟩ = some t ∧ CanT t ∧ numT t = numT s ∧ t.size ≤ s.size := by
  obtain ⟨t, t1, t2, t3, t4, t5⟩ := trimLeft_loop (K := K) K s (by omega) hs hd rfl
  have ne : ∀ u : ByteArray, 0 < numT u → u.size ≠ 0 := fun u hu e => by
    have : bytesOf u = [] := List.length_eq_zero_iff.1 (by rw [bytesOf_length]; exact e)
    rw [numT_B, this, numB_nil] at hu; omega
  refine ⟨t, ?_, ⟨ne t (by omega), t2, fun h => absurd h t4⟩, t3, t5⟩
  unfold g_strings_TrimLeft g_strings_trimLeftByte
  have e1 : sEq s ⟨#[]⟩ = false := sEq_ne (ne s hp)
  have e2 : sEq ⟨#[48]⟩ ⟨#[]⟩ = false := sEq_ne (by decide)
  have e3 : bidx (⟨#[48]⟩ : ByteArray) 0 = some 48 := rfl
  have e4 : (((⟨#[48]⟩ : ByteArray).size : Int) == 1) = true := rfl
  rw [e1, e2, e3, e4]
  simp (discharger := omega) only [decide_eq_true_eq, if_pos, if_neg, if_true, if_false, bsome, beq_iff, bne_iff, idxI, bidxI, sslI, lslI, k64, ku64, ku32, ku8, i64w, u64w, u32w, u8w, tdivI, tmodI, tu0a, tu1a, tu2a, tu3a, tu4a, tu5a, lta, bindSl, bindSr, outSl, outSr, Int.toNat_natCast, List.length_cons, List.length_nil, List.length_set, Int.toNat_zero, List.replicate_zero, Bool.false_eq_true, t1]
theorem text_ok {x : List Int} {n : Int} (hx : x.length ≤ 1000000) (hK : 2000000000 < K) (nx : NumN n x) : ∃ t, g_nat_N_Text K x = some t ∧ CanT t ∧ numT t = n ∧ t.size ≤ 9 * x.length + 1 := by
  unfold g_nat_N_Text
  by_cases h0 : x = []
  · subst h0
    have e : n = 0 := nx.nil_iff.1 rfl
    subst e
    exact ⟨⟨#[48]⟩, rfl, ⟨by decide, rfl, fun _ => rfl⟩, rfl, by decide⟩
  · have hl : x.length ≠ 0 := fun e => h0 (List.length_eq_zero_iff.1 e)
    obtain ⟨b, b1, b2, b3, b4⟩ := text_loop' hx hK nx.1.1
    rw [nx.2] at b4
    have hr : ∀ c ∈ b, 0 ≤ c ∧ c ≤ 255 := fun c hc => by have := digT_iff.1 (List.all_eq_true.1 b3 c hc); omega
    have hb := bytesOf_str b hr
    have hsz : (strOfNums b).size = b.length := by rw [← bytesOf_length, hb]
    obtain ⟨t, t1, t2, t3, t4⟩ := trimLeft_ok (K := K) (s := strOfNums b) (by omega) hK (by rw [numT_B, hb, b4]; exact nx.pos h0) (by rw [hb]; exact b3)
    refine ⟨t, ?_, t2, by rw [t3, numT_B, hb, b4], by omega⟩
    have e : ((x.length : Int) == 0) = false := by simp; omega
    rw [e]
    simp (discharger := omega) only [decide_eq_true_eq, if_pos, if_neg, if_true, if_false, bsome, beq_iff, bne_iff, idxI, bidxI, sslI, lslI, k64, ku64, ku32, ku8, i64w, u64w, u32w, u8w, tdivI, tmodI, tu0a, tu1a, tu2a, tu3a, tu4a, tu5a, lta, bindSl, bindSr, outSl, outSr, Int.toNat_natCast, List.length_cons, List.length_nil, List.length_set, Int.toNat_zero, List.replicate_zero, Bool.false_eq_true, b1, t1]
end Go.Am.Tryd
/- Plain law: the reference's texts of digits. -/
namespace Go.Am.Tryd
open Go Go.Am Go.Proofs
set_option linter.unusedSimpArgs false
set_option linter.unusedVariables false
variable {K : Nat}
theorem head_bidx {s : ByteArray} {c : Int} {l : List Int} (h : bytesOf s = c :: l) : bidx s 0 = some c := by rw [bidx_eq, h]; rfl
theorem strip_loop : ∀ n k (s : ByteArray), s.size = n → n < k → 0 < n → (bytesOf s).all digT = true → ∃ t, g_R_strip_l0 K k s = some t ∧ CanT t ∧ numT t = numT s := by
  intro n
  induction n with
  | zero => intro k s _ _ h; omega
  | succ n ih =>
    intro k s hs hk _ hd
    obtain ⟨k, rfl⟩ : ∃ m, k = m + 1 := ⟨k - 1, by omega⟩
    have hn := bytesOf_length s
    cases hb : bytesOf s with
    | nil => rw [hb] at hn; simp at hn; omega
    | cons c l =>
      rw [g_R_strip_l0, head_bidx hb]
      by_cases h1 : (s.size : Int) > 1
      · by_cases h2 : c = 48
        · obtain ⟨t, h3, h4, h5⟩ := ssl_tail hb
          have hl : l.length = n := by rw [hb] at hn; simp at hn; omega
          obtain ⟨r, h6, h7, h8⟩ := ih k t (by omega) (by omega) (by omega) (by rw [h4]; rw [hb] at hd; simp only [List.all_cons, Bool.and_eq_true] at hd; exact hd.2)
          refine ⟨r, ?_, h7, ?_⟩
          · simp [h1, h2, h3, h6, tu1]
          · rw [h8, numT_cons (s := s) (t := t) (c := c) (by rw [hb, h4]), h2]; simp
        · refine ⟨s, by simp [h1, h2, tu1], ⟨by omega, hd, fun e => ?_⟩, rfl⟩
          rw [hb] at e; simp at e; exact absurd e h2
      · exact ⟨s, by simp [h1, tu1], ⟨by omega, hd, fun e => by omega⟩, rfl⟩
theorem strip_ref {s : ByteArray} (hs : s.size ≤ 1048576) (h0 : 0 < s.size) (hK : s.size < K) (hd : (bytesOf s).all digT = true) : ∃ t, g_R_strip K s = some t ∧ CanT t ∧ numT t = numT s := by
  obtain ⟨t, h1, h2⟩ := strip_loop (K := K) s.size K s rfl hK h0 hd
  exact ⟨t, by unfold g_R_strip; rw [h1]; rfl, h2⟩
theorem digit_ref {s : ByteArray} (hs : s.size ≤ 1048576) (hd : (bytesOf s).all digT = true) (k : Nat) (hk : k ≤ 1048577) : g_R_digit K s k = some ((digsT s).getD k 0) := by
  have hn := bytesOf_length s
  unfold g_R_digit
  by_cases h : k < s.size
  · have h' : ((k : Int) < (s.size : Int)) := by omega
    have hi : s.size - 1 - k < (bytesOf s).length := by omega
    have e1 : kwrap .i64 (kwrap .i64 ((s.size : Int) - 1) - (k : Int)) = ((s.size - 1 - k : Nat) : Int) := by
      rw [kw (a := (s.size : Int) - 1) (by omega) (by omega), kw (by omega) (by omega)]; omega
    have hx : (bytesOf s)[s.size - 1 - k]? = some (bytesOf s)[s.size - 1 - k] := List.getElem?_eq_getElem hi
    have hc := List.all_eq_true.1 hd _ (List.getElem_mem hi)
    simp only [digT, Bool.and_eq_true, decide_eq_true_eq] at hc
    rw [decide_eq_true h', if_pos rfl, e1, bidx_eq, idx_nat hx]
    have hg : (digsT s).getD k 0 = (bytesOf s)[s.size - 1 - k] - 48 := by
      unfold digsT
      rw [List.getD_eq_getElem?_getD, List.getElem?_reverse (by simp; omega), List.length_map, hn, List.getElem?_map, hx]
      rfl
    rw [hg]
    generalize (bytesOf s)[s.size - 1 - k] = c at hc
    have e2 : kwrap .u8 (c - 48) = c - 48 := kwrap_in (by simp [krange]; omega)
    have e3 : IntKind.wrap .i64 (c - 48) = c - 48 := by rw [← kwrap_eq]; exact kw (by omega) (by omega)
    simp [e2, e3]
  · have h' : ¬ ((k : Int) < (s.size : Int)) := by omega
    rw [decide_eq_false h', if_neg (by simp)]
    congr 1
    rw [List.getD_eq_getElem?_getD, List.getElem?_eq_none (by rw [digsT_len]; omega)]
    rfl
theorem u8_in {x : Int} (h : 0 ≤ x) (h' : x ≤ 255) : kwrap .u8 x = x := kwrap_in (by simp [krange]; omega)
theorem text_loop {l : List Int} (hl : l.length ≤ 1048577) (hK : l.length < K) (hd : DigB 10 l) : g_R_text_l0 K l K (List.replicate l.length 0) 0 = some (l.map (48 + ·)).reverse := by
  suffices h : ∃ r, g_R_text_l0 K l K (List.replicate l.length 0) 0 = some r ∧ r = (l.map (48 + ·)).reverse by
    obtain ⟨r, h1, rfl⟩ := h; exact h1
  refine loop_inv (S := List Int) l.length (fun k s i => g_R_text_l0 K l k s i) (fun b i => b.length = l.length ∧ ∀ j < l.length, b.getD j 0 = if l.length - 1 - j < i then 48 + l.getD (l.length - 1 - j) 0 else 0) _ ?_ ?_ K _ hK ⟨by simp, fun j hj => by simp [List.getD_eq_getElem?_getD, hj]⟩
  · rintro k b i hi ⟨hb, hj⟩
    right
    have hp : l.length - 1 - i < b.length := by omega
    have e1 : kwrap .i64 (kwrap .i64 ((l.length : Int) - 1) - (i : Int)) = ((l.length - 1 - i : Nat) : Int) := by
      rw [kw (a := (l.length : Int) - 1) (by omega) (by omega), kw (by omega) (by omega)]; omega
    have hx := hd (l.getD i 0) (by rw [List.getD_eq_getElem?_getD, List.getElem?_eq_getElem hi]; simp)
    have e2 : IntKind.wrap .u8 (kwrap .i64 (48 + l.getD i 0)) = 48 + l.getD i 0 := by
      rw [kw (a := 48 + l.getD i 0) (by omega) (by omega), ← kwrap_eq]; exact u8_in (by omega) (by omega)
    refine ⟨b.set (l.length - 1 - i) (48 + l.getD i 0), ⟨by simp [hb], fun j hjl => ?_⟩, ?_⟩
    · have hg : (b.set (l.length - 1 - i) (48 + l.getD i 0)).getD j 0 = if j = l.length - 1 - i then 48 + l.getD i 0 else b.getD j 0 := getD_set hp
      rw [hg, hj j hjl]
      by_cases e : j = l.length - 1 - i
      · have e3 : l.length - 1 - j = i := by omega
        rw [if_pos e, e3, if_pos (Nat.lt_succ_self i)]
      · rw [if_neg e]
        by_cases e3 : l.length - 1 - j < i
        · rw [if_pos e3, if_pos (by omega)]
        · rw [if_neg e3, if_neg (by omega)]
    · show g_R_text_l0 K l (k + 1) b i = _
      rw [g_R_text_l0, lt_nat hi, if_pos rfl, idx_getD hi]
      simp only [Option.bind_some, e1, idx_getD hp, e2, Int.toNat_natCast, kw1 hi (by omega)]
  · rintro k b i rfl ⟨hb, hj⟩
    refine ⟨b, ?_, ?_⟩
    · show g_R_text_l0 K l (k + 1) b l.length = _
      rw [g_R_text_l0, nlt_nat (Nat.le_refl _)]; simp
    · apply List.ext_getElem (by simp [hb])
      intro j h1 h2
      have h3 := hj j (by omega)
      rw [if_pos (by omega), List.getD_eq_getElem?_getD, List.getElem?_eq_getElem h1, List.getD_eq_getElem?_getD, List.getElem?_eq_getElem (show l.length - 1 - j < l.length by omega)] at h3
      simp at h3
      simp [h3]
/-- The text of digits. -/
theorem text_ref {l : List Int} (hl : l.length ≤ 1048575) (h0 : l ≠ []) (hK : l.length + 1 < K) (hd : DigB 10 l) : ∃ t, g_R_text K l = some t ∧ CanT t ∧ numT t = valB 10 l := by
  have hlen : 0 < l.length := by cases l with | nil => exact absurd rfl h0 | cons _ _ => simp
  have hrange : ∀ x ∈ (l.map (48 + ·)).reverse, 0 ≤ x ∧ x ≤ 255 := fun x hx => by
    rw [List.mem_reverse, List.mem_map] at hx
    obtain ⟨d, h1, rfl⟩ := hx
    have := hd d h1
    omega
  have hb := bytesOf_str _ hrange
  have hz : bytesOf ((⟨#[48]⟩ : ByteArray) ++ strOfNums (l.map (48 + ·)).reverse) = 48 :: (l.map (48 + ·)).reverse := by
    rw [bytesOf_append, hb]; rfl
  have hsz : ((⟨#[48]⟩ : ByteArray) ++ strOfNums (l.map (48 + ·)).reverse).size = l.length + 1 := by
    rw [← bytesOf_length, hz]; simp
  have hdg : (bytesOf ((⟨#[48]⟩ : ByteArray) ++ strOfNums (l.map (48 + ·)).reverse)).all digT = true := by
    rw [hz, List.all_eq_true]
    intro x hx
    rcases List.mem_cons.1 hx with rfl | hx
    · rfl
    · rw [List.mem_reverse, List.mem_map] at hx
      obtain ⟨d, h1, rfl⟩ := hx
      have := hd d h1
      simp [digT]; omega
  obtain ⟨t, h1, h2, h3⟩ := strip_ref (K := K) (s := (⟨#[48]⟩ : ByteArray) ++ strOfNums (l.map (48 + ·)).reverse) (by omega) (by omega) (by omega) hdg
  refine ⟨t, ?_, h2, ?_⟩
  · unfold g_R_text
    rw [if_pos (by omega), Int.toNat_natCast, text_loop (by omega) (by omega) hd]
    have e1 : (⟨#[48]⟩ : ByteArray).size = 1 := rfl
    simp only [Option.bind_some, tu1, List.length_reverse, List.length_map, strOfNums_size, e1]
    rw [if_pos hlen, if_pos (by omega), h1]
    rfl
  · rw [h3]
    unfold numT digsT
    rw [hz, List.map_cons, List.reverse_cons, valB_app, List.map_reverse, List.reverse_reverse, List.map_map]
    have : l.map ((fun x => x - 48) ∘ (fun x => 48 + x)) = l := by
      conv => rhs; rw [← List.map_id l]
      apply List.map_congr_left
      intro x _
      show 48 + x - 48 = x
      omega
    rw [this]
    simp [valB]
end Go.Am.Tryd
/- Plain law: the reference's sum and difference of texts. -/
namespace Go.Am.Tryd
open Go Go.Am Go.Proofs
set_option linter.unusedSimpArgs false
set_option linter.unusedVariables false
variable {K : Nat}
end Go.Am.Tryd
/- Plain law: the reference's comparison, product, quotient and divisor of texts. -/
namespace Go.Am.Tryd
open Go Go.Am Go.Proofs
set_option linter.unusedSimpArgs false
set_option linter.unusedVariables false
variable {K : Nat}
/-! ### Canonical texts -/
theorem numT_nonneg {s : ByteArray} (h : (bytesOf s).all digT = true) : 0 ≤ numT s := numB_nonneg h
theorem numT_lt {s : ByteArray} (h : (bytesOf s).all digT = true) : numT s < 10 ^ s.size := by
  have := numB_lt h
  rwa [bytesOf_length] at this
/-! ### Products -/
theorem rmul_in {b : ByteArray} {out : List Int} {u : Int} {i : Nat} (hb : b.size ≤ 1000000) (hl : i + b.size < out.length) (ho : out.length ≤ 8000000) (hK : 2000000000 < K) (hu : 0 ≤ u ∧ u ≤ 9) (db : (bytesOf b).all digT = true) (d0 : DigB 10 out) :
    ∃ r : List Int, g_R_NatMul_l2 K b (i : Int) u K out 0 = some r ∧ r.length = out.length ∧ (∀ j, 0 ≤ r.getD j 0 ∧ r.getD j 0 ≤ 90) ∧ valB 10 r = valB 10 out + 10 ^ i * (u * numT b) := by
  have dx := digsT_dig db
  have lx := digsT_len b
  refine loopW (fun k (s : List Int × Int) => g_R_NatMul_l2 K b (i : Int) u k s.1 s.2) (fun s => ∃ q : Nat, s.2 = q ∧ q ≤ b.size ∧ s.1.length = out.length ∧ (∀ j, 0 ≤ s.1.getD j 0 ∧ s.1.getD j 0 ≤ 90) ∧ (∀ j, i + q ≤ j → s.1.getD j 0 ≤ 9) ∧ valB 10 s.1 = valB 10 out + 10 ^ i * (u * valB 10 ((digsT b).take q))) (fun s => (b.size - s.2 : Int).toNat) _ ?_ ((out, 0) : List Int × Int) (by simp; omega) ⟨0, rfl, by omega, rfl, fun j => by have := getD_dig (by omega) d0 j; dsimp only; omega, fun j _ => by have := getD_dig (by omega) d0 j; dsimp only; omega, by simp [valB]⟩
  rintro k ⟨o, _⟩ ⟨q, rfl, h0, h1, h2, h3, h4⟩
  dsimp only at h1 h2 h3 h4 ⊢
  by_cases hq : q < b.size
  · right
    have ey := getD_dig (by omega) dx q
    have eo := h2 (i + q)
    have eo9 := h3 (i + q) (Nat.le_refl _)
    have ty := valB_take 10 (digsT b) q
    have hdg := digit_ref (K := K) (s := b) (by omega) db q (by omega)
    have hm : 0 ≤ u * (digsT b).getD q 0 ∧ u * (digsT b).getD q 0 ≤ 81 := by
      have := mul_le hu.1 (show (digsT b).getD q 0 ≤ 9 by omega)
      exact ⟨mul_nn hu.1 ey.1, by omega⟩
    have hset := fun d => valB_set 10 o (i + q) d (by omega)
    have hgs := fun d j => getD_set (cs := o) (i := i + q) (j := j) (v := d) (by omega)
    have e1 : ((i : Int) + (q : Int)) = ((i + q : Nat) : Int) := by omega
    generalize hw : u * (digsT b).getD q 0 = w at hm
    generalize ho : o.getD (i + q) 0 = z at eo eo9 hset
    refine ⟨(o.set (i + q) (z + w), (q : Int) + 1), ?_, by dsimp only; omega, q + 1, rfl, by omega, by simp [h1], fun j => ?_, fun j hj => ?_, ?_⟩
    · rw [g_R_NatMul_l2, hdg]
      simp (discharger := omega) only [decide_eq_true_eq, if_pos, if_neg, if_true, if_false, bsome, beq_iff, bne_iff, idxI, bidxI, sslI, lslI, k64, ku64, ku32, ku8, i64w, u64w, u32w, u8w, tdivI, tmodI, tu0a, tu1a, tu2a, tu3a, tu4a, tu5a, lta, bindSl, bindSr, outSl, outSr, Int.toNat_natCast, List.length_cons, List.length_nil, List.length_set, Int.toNat_zero, List.replicate_zero, e1, hw, ho]
    · dsimp only; rw [hgs]; split
      · omega
      · exact h2 j
    · dsimp only; rw [hgs, if_neg (by omega)]; exact h3 j (by omega)
    · dsimp only
      rw [hset, h4, ty, ← hw, Int.pow_add]
      grind
  · left
    have : q = b.size := by omega
    subst this
    rw [List.take_of_length_le (by omega)] at h4
    exact ⟨o, by rw [g_R_NatMul_l2]; simp (discharger := omega) only [decide_eq_true_eq, if_pos, if_neg, if_true, if_false, bsome, beq_iff, bne_iff, idxI, bidxI, sslI, lslI, k64, ku64, ku32, ku8, i64w, u64w, u32w, u8w, tdivI, tmodI, tu0a, tu1a, tu2a, tu3a, tu4a, tu5a, lta, bindSl, bindSr, outSl, outSr, Int.toNat_natCast, List.length_cons, List.length_nil, List.length_set, Int.toNat_zero, List.replicate_zero], h1, h2, h4⟩
theorem rmul_carry {c v : List Int} (hv : v.length + 1 = c.length) (hl : c.length ≤ 8000000) (hK : 2000000000 < K) (hc : ∀ j, 0 ≤ c.getD j 0 ∧ c.getD j 0 ≤ 90) :
    ∃ r : List Int, g_R_NatMul_l4 K v K c 0 = some r ∧ r.length = c.length ∧ (∀ j, 0 ≤ r.getD j 0) ∧ (∀ j < v.length, r.getD j 0 ≤ 9) ∧ valB 10 r = valB 10 c := by
  refine loopW (fun k (s : List Int × Int) => g_R_NatMul_l4 K v k s.1 s.2) (fun s => ∃ i : Nat, s.2 = i ∧ i ≤ v.length ∧ s.1.length = c.length ∧ (∀ j, 0 ≤ s.1.getD j 0 ∧ s.1.getD j 0 ≤ 100) ∧ (∀ j, i < j → s.1.getD j 0 ≤ 90) ∧ (∀ j < i, s.1.getD j 0 ≤ 9) ∧ valB 10 s.1 = valB 10 c) (fun s => (v.length - s.2 : Int).toNat) _ ?_ ((c, 0) : List Int × Int) (by simp; omega) ⟨0, rfl, by omega, rfl, fun j => by have := hc j; dsimp only; omega, fun j _ => by have := hc j; dsimp only; omega, fun j hj => by omega, rfl⟩
  rintro k ⟨o, _⟩ ⟨i, rfl, h0, h1, h2, h3, h4, h5⟩
  dsimp only at h1 h2 h3 h4 h5 ⊢
  by_cases hi : i < v.length
  · right
    have e1 : ((i : Int) + 1).toNat = i + 1 := by omega
    have b1 := h2 i
    have b2 := h2 (i + 1)
    have b3 := h3 (i + 1) (by omega)
    by_cases h9 : o.getD i 0 > 9
    · generalize hz : o.getD i 0 = z at *
      generalize hz1 : o.getD (i + 1) 0 = z1 at *
      have hdm := Int.emod_add_mul_ediv z 10
      have hset := fun d => valB_set 10 o (i + 1) d (by omega)
      have hset2 := fun d e => valB_set 10 (o.set (i + 1) d) i e (by simp; omega)
      have hgs := fun d j => getD_set (cs := o) (i := i + 1) (j := j) (v := d) (by omega)
      have hgs2 := fun d e j => getD_set (cs := o.set (i + 1) d) (i := i) (j := j) (v := e) (by simp; omega)
      have hgi := fun d => hgs d i
      simp only [show ¬ i = i + 1 by omega, if_false, hz] at hgi
      have hsi : ∀ d, idx (o.set (i + 1) d) (i : Int) = some z := fun d => by rw [idxI (by omega) (by simp; omega), Int.toNat_natCast, hgi]
      refine ⟨((o.set (i + 1) (z1 + z / 10)).set i (z % 10), (i : Int) + 1), ?_, by dsimp only; omega, i + 1, rfl, by omega, by simp [h1], fun j => ?_, fun j hj => ?_, fun j hj => ?_, ?_⟩
      · rw [g_R_NatMul_l4]
        simp (discharger := omega) only [decide_eq_true_eq, if_pos, if_neg, if_true, if_false, bsome, beq_iff, bne_iff, idxI, bidxI, sslI, lslI, k64, ku64, ku32, ku8, i64w, u64w, u32w, u8w, tdivI, tmodI, tu0a, tu1a, tu2a, tu3a, tu4a, tu5a, lta, bindSl, bindSr, outSl, outSr, Int.toNat_natCast, List.length_cons, List.length_nil, List.length_set, Int.toNat_zero, List.replicate_zero, e1, hz, hz1, hsi]
      · dsimp only; rw [hgs2, hgs]
        have := h2 j
        split
        · omega
        · split <;> omega
      · dsimp only; rw [hgs2, hgs, if_neg (by omega), if_neg (by omega)]; exact h3 j (by omega)
      · dsimp only; rw [hgs2]
        split
        · omega
        · rw [hgs, if_neg (by omega)]; exact h4 j (by omega)
      · dsimp only
        rw [hset2, hset, hgi, hz1, h5, Int.pow_succ]
        grind
    · refine ⟨(o, (i : Int) + 1), ?_, by dsimp only; omega, i + 1, rfl, by omega, h1, h2, fun j hj => h3 j (by omega), fun j hj => ?_, h5⟩
      · have e : decide (o.getD i 0 > 9) = false := decide_eq_false h9
        rw [g_R_NatMul_l4]
        simp (discharger := omega) only [decide_eq_true_eq, if_pos, if_neg, if_true, if_false, bsome, beq_iff, bne_iff, idxI, bidxI, sslI, lslI, k64, ku64, ku32, ku8, i64w, u64w, u32w, u8w, tdivI, tmodI, tu0a, tu1a, tu2a, tu3a, tu4a, tu5a, lta, bindSl, bindSr, outSl, outSr, Int.toNat_natCast, List.length_cons, List.length_nil, List.length_set, Int.toNat_zero, List.replicate_zero, e, Bool.false_eq_true]
      · by_cases hj2 : j = i
        · subst hj2; dsimp only; omega
        · exact h4 j (by omega)
  · left
    have : i = v.length := by omega
    subst this
    exact ⟨o, by rw [g_R_NatMul_l4]; simp (discharger := omega) only [decide_eq_true_eq, if_pos, if_neg, if_true, if_false, bsome, beq_iff, bne_iff, idxI, bidxI, sslI, lslI, k64, ku64, ku32, ku8, i64w, u64w, u32w, u8w, tdivI, tmodI, tu0a, tu1a, tu2a, tu3a, tu4a, tu5a, lta, bindSl, bindSr, outSl, outSr, Int.toNat_natCast, List.length_cons, List.length_nil, List.length_set, Int.toNat_zero, List.replicate_zero], h1, fun j => (h2 j).1, h4, h5⟩
theorem kr1 {A B p q X : Int} : A * B + p * (q * B) = (A + p * q) * B := by grind
theorem rmul_loop {a b : ByteArray} (ha : a.size ≤ 500000) (hb : b.size ≤ 500000) (hK : 2000000000 < K) (da : (bytesOf a).all digT = true) (db : (bytesOf b).all digT = true) :
    ∃ r : List Int, g_R_NatMul_l0 K a b K (List.replicate (a.size + b.size + 1) 0) 0 = some r ∧ r.length = a.size + b.size + 1 ∧ DigB 10 r ∧ valB 10 r = numT a * numT b := by
  have dx := digsT_dig da
  have lx := digsT_len a
  refine loopW (fun k (s : List Int × Int) => g_R_NatMul_l0 K a b k s.1 s.2) (fun s => ∃ i : Nat, s.2 = i ∧ i ≤ a.size ∧ s.1.length = a.size + b.size + 1 ∧ DigB 10 s.1 ∧ valB 10 s.1 = valB 10 ((digsT a).take i) * numT b) (fun s => (a.size - s.2 : Int).toNat) _ ?_ ((List.replicate (a.size + b.size + 1) 0, 0) : List Int × Int) (by simp; omega) ⟨0, rfl, by omega, by simp, .zeros (by omega) _, by simp [valB, valB_zeros]⟩
  rintro k ⟨o, _⟩ ⟨i, rfl, h0, h1, h2, h4⟩
  dsimp only at h1 h2 h4 ⊢
  by_cases hi : i < a.size
  · right
    have ex := getD_dig (by omega) dx i
    have tx := valB_take 10 (digsT a) i
    have hdg := digit_ref (K := K) (s := a) (by omega) da i (by omega)
    obtain ⟨c, c1, c2, c3, c4⟩ := rmul_in (K := K) (b := b) (out := o) (u := (digsT a).getD i 0) (i := i) (by omega) (by omega) (by omega) hK ⟨ex.1, by omega⟩ db h2
    obtain ⟨v, hv⟩ : ∃ v, lsl c 0 ((c.length : Int) - 1) = some v := ⟨_, lslI (by omega) (by omega) (by omega)⟩
    have hvl : v.length + 1 = c.length := by
      rw [lslI (by omega) (by omega) (by omega)] at hv
      cases hv
      rw [List.length_take, List.length_drop]
      omega
    obtain ⟨r, r1, r2, r3, r4, r5⟩ := rmul_carry (K := K) (c := c) (v := v) hvl (by omega) hK c3
    have hval : valB 10 r = valB 10 ((digsT a).take (i + 1)) * numT b := by
      rw [r5, c4, h4, tx, kr1 (X := 0)]
    -- no digit is left over
    have htop : r.getD v.length 0 = 0 := by
      have s1 := valB_split 10 r v.length (by omega)
      have dlow : DigB 10 (r.take v.length) := fun d hd => by
        obtain ⟨j, hj, rfl⟩ := List.mem_iff_getElem.1 hd
        rw [List.length_take] at hj
        have q1 := r3 j
        have q2 := r4 j (by omega)
        rw [List.getElem_take]
        rw [List.getD_eq_getElem?_getD, List.getElem?_eq_getElem (by omega)] at q1 q2
        simp at q1 q2
        omega
      have s2 := valB_nonneg (B := 10) (by omega) _ dlow
      have s3 : r.drop v.length = [r.getD v.length 0] := by
        rw [List.drop_eq_getElem_cons (by omega), List.drop_eq_nil_of_le (by omega), List.getD_eq_getElem?_getD, List.getElem?_eq_getElem (by omega)]; rfl
      rw [s3] at s1
      simp only [valB, Int.mul_zero, Int.add_zero] at s1
      have t1 := valB_lt (B := 10) (by omega) _ (dx.take (i + 1))
      have t2 := numT_lt db
      have t3 := numT_nonneg db
      have t4 := valB_nonneg (B := 10) (by omega) _ (dx.take (i + 1))
      have t5 : (10 : Int) ^ ((digsT a).take (i + 1)).length ≤ 10 ^ a.size := ipow_le (by omega) (by rw [List.length_take]; omega)
      have t6 : valB 10 r < 10 ^ v.length := by
        rw [hval, show v.length = a.size + b.size by omega, Int.pow_add]
        have p0 : (0 : Int) < 10 ^ b.size := Int.pow_pos (by omega)
        have m1 := mul_le t4 (show numT b ≤ 10 ^ b.size by omega)
        have m2 := Int.mul_lt_mul_of_pos_right (show valB 10 ((digsT a).take (i + 1)) < 10 ^ a.size by omega) p0
        omega
      refine Int.le_antisymm (Int.not_lt.1 fun hlt => ?_) (r3 _)
      have p0 : (0 : Int) < 10 ^ v.length := Int.pow_pos (by omega)
      have := mul_le (Int.le_of_lt p0) (show 1 ≤ r.getD v.length 0 by omega)
      omega
    have dr : DigB 10 r := fun d hd => by
      obtain ⟨j, hj, rfl⟩ := List.mem_iff_getElem.1 hd
      have q1 := r3 j
      have q2 : r.getD j 0 ≤ 9 := by
        by_cases hjv : j < v.length
        · exact r4 j hjv
        · have : j = v.length := by omega
          subst this; omega
      rw [List.getD_eq_getElem?_getD, List.getElem?_eq_getElem hj] at q1 q2
      simp at q1 q2
      omega
    refine ⟨(r, (i : Int) + 1), ?_, by dsimp only; omega, i + 1, rfl, by omega, by dsimp only; omega, dr, hval⟩
    have hcl : (c.length : Int) - 1 = c.length - 1 := rfl
    rw [g_R_NatMul_l0, hdg, if_pos (decide_eq_true (by omega)), bsome, c1, bsome, tu1a, k64 (by omega) (by omega), hv, bsome, r1, bsome, tu1a, k64 (by omega) (by omega)]
  · left
    have : i = a.size := by omega
    subst this
    rw [List.take_of_length_le (by omega)] at h4
    exact ⟨o, by rw [g_R_NatMul_l0]; simp (discharger := omega) only [decide_eq_true_eq, if_pos, if_neg, if_true, if_false, bsome, beq_iff, bne_iff, idxI, bidxI, sslI, lslI, k64, ku64, ku32, ku8, i64w, u64w, u32w, u8w, tdivI, tmodI, tu0a, tu1a, tu2a, tu3a, tu4a, tu5a, lta, bindSl, bindSr, outSl, outSr, Int.toNat_natCast, List.length_cons, List.length_nil, List.length_set, Int.toNat_zero, List.replicate_zero], h1, h2, h4⟩
theorem mul_ref {a b : ByteArray} (ha : a.size ≤ 500000) (hb : b.size ≤ 500000) (hK : 2000000000 < K) (da : (bytesOf a).all digT = true) (db : (bytesOf b).all digT = true) : ∃ t, g_R_NatMul K a b = some t ∧ CanT t ∧ numT t = numT a * numT b := by
  obtain ⟨r, h1, h2, h3, h4⟩ := rmul_loop ha hb hK da db
  obtain ⟨t, t1, t2, t3⟩ := text_ref (K := K) (l := r) (by omega) (by intro e; rw [e] at h2; simp at h2) (by omega) h3
  refine ⟨t, ?_, t2, by rw [t3, h4]⟩
  unfold g_R_NatMul
  have e1 : ((a.size : Int) + (b.size : Int) + 1) = ((a.size + b.size + 1 : Nat) : Int) := by omega
  simp (discharger := omega) only [decide_eq_true_eq, if_pos, if_neg, if_true, if_false, bsome, beq_iff, bne_iff, idxI, bidxI, sslI, lslI, k64, ku64, ku32, ku8, i64w, u64w, u32w, u8w, tdivI, tmodI, tu0a, tu1a, tu2a, tu3a, tu4a, tu5a, lta, bindSl, bindSr, outSl, outSr, Int.toNat_natCast, List.length_cons, List.length_nil, List.length_set, Int.toNat_zero, List.replicate_zero, e1, h1, t1]
end Go.Am.Tryd
/- Plain law: long division of the program's numbers. -/
namespace Go.Am.Tryd
open Go Go.Am Go.Proofs
set_option linter.unusedSimpArgs false
set_option linter.unusedVariables false
variable {K : Nat}
end Go.Am.Tryd
/- Plain law: quotient and remainder, greatest common divisor of the program's numbers. -/
namespace Go.Am.Tryd
open Go Go.Am Go.Proofs
set_option linter.unusedSimpArgs false
set_option linter.unusedVariables false
variable {K : Nat}
section
variable {p X Y V M HI LO U g q b c rr M1 M2 U1 U2 P v1 v2 vl t1 t2 t3 ul top : Int}
end
end Go.Am.Tryd
/- Plain law: Div and Gcd of the program's numbers. -/
namespace Go.Am.Tryd
open Go Go.Am Go.Proofs
set_option linter.unusedSimpArgs false
set_option linter.unusedVariables false
variable {K : Nat}
/-! ### The greatest common divisor -/
end Go.Am.Tryd
/- Plain law: the reference's quotient and divisor of texts. -/
namespace Go.Am.Tryd
open Go Go.Am Go.Proofs
set_option linter.unusedSimpArgs false
set_option linter.unusedVariables false
variable {K : Nat}
end Go.Am.Tryd
/- Plain law: NatChecks answers true. -/
namespace Go.Am.Tryd
open Go Go.Am Go.Proofs
set_option linter.unusedSimpArgs false
set_option linter.unusedVariables false
set_option maxRecDepth 100000
theorem natFact_true : g_law_natFact 2000000001 = some true := by kernel_rfl
def digB (c : Int) : Bool := decide (48 ≤ c) && decide (c ≤ 57)
theorem runS_dig : ∀ (l : List Int), runS (fun c (_ : Unit) => if digB c then .inr () else .inl (5 : Int)) l () = if l.all digB then .inr () else .inl 5
  | [] => rfl
  | x :: l => by
    simp only [runS, List.all_cons]
    by_cases hp : digB x = true
    · simp only [hp, if_true, Bool.true_and, Sum.elim_inr]; exact runS_dig l
    · simp [hp]
theorem dig_if {α : Type} (c : Int) (A B : Option α) : Option.bind (if (decide (c < 48)) = true then some true else some (decide (c > 57))) (tu1 fun x => if x = true then A else B) = if digB c = true then B else A := by
  unfold digB
  by_cases h1 : c < 48 <;> by_cases h2 : c > 57 <;> simp [h1, h2, tu1, show ¬ (48 : Int) ≤ c ↔ c < 48 by omega] <;> (try split) <;> (try omega) <;> rfl
variable {K : Nat} {s : ByteArray}
theorem digits_prog (hs : s.size ≤ 1048576) (hK : s.size < K) : g_nat_Check_l0 K s K 0 = some (if (bytesOf s).all digB then .inr () else .inl 5) := by
  have hn := bytesOf_length s
  have h : g_nat_Check_l0 K s K 0 = _ := loop_sum0 (bytesOf s) (fun k (_ : Unit) i => g_nat_Check_l0 K s k i) (fun c (_ : Unit) => if digB c then .inr () else .inl (5 : Int)) (fun _ _ => True)
    (fun k _ i x hx _ => by
      have hi := (List.getElem?_eq_some_iff.1 hx).1
      show g_nat_Check_l0 K s (k + 1) i = _
      rw [g_nat_Check_l0, lt_nat hi, if_pos rfl, idx_nat hx]
      simp only [Option.bind_some, dig_if, kw1 hi (by omega)]
      cases digB x <;> simp)
    (fun _ _ _ _ _ _ _ => trivial)
    (fun k _ i hi => by
      show g_nat_Check_l0 K s (k + 1) i = _
      rw [g_nat_Check_l0, nlt_nat hi]; simp) K () (by omega) trivial
  rw [h, runS_dig]
theorem digits_ref (hs : s.size ≤ 1048576) (hK : s.size < K) : g_R_NatError_l0 K s K 0 = some (if (bytesOf s).all digB then .inr () else .inl 5) := by
  have hn := bytesOf_length s
  have h : g_R_NatError_l0 K s K 0 = _ := loop_sum0 (bytesOf s) (fun k (_ : Unit) i => g_R_NatError_l0 K s k i) (fun c (_ : Unit) => if digB c then .inr () else .inl (5 : Int)) (fun _ _ => True)
    (fun k _ i x hx _ => by
      have hi := (List.getElem?_eq_some_iff.1 hx).1
      show g_R_NatError_l0 K s (k + 1) i = _
      rw [g_R_NatError_l0, ← hn, lt_nat hi, if_pos rfl, bidx_eq, idx_nat hx]
      simp only [Option.bind_some, dig_if, kw1 hi (by omega)]
      cases digB x <;> simp)
    (fun _ _ _ _ _ _ _ => trivial)
    (fun k _ i hi => by
      show g_R_NatError_l0 K s (k + 1) i = _
      rw [g_R_NatError_l0, ← hn, nlt_nat hi]; simp) K () (by omega) trivial
  rw [h, runS_dig]
def natE (s : ByteArray) : Int := if s.size = 0 then 5 else if (bytesOf s).head? = some 48 ∧ s.size > 1 then 5 else if !(bytesOf s).all digB then 5 else if s.size > 2000 then 2 else 0
theorem sEq_nil : sEq s ⟨#[]⟩ = (s.size == 0) := by
  cases hq : sEq s ⟨#[]⟩ with
  | true => rw [sEq_iff] at hq; subst hq; rfl
  | false =>
    have : s.size ≠ 0 := fun h => by
      have : s = ⟨#[]⟩ := by
        cases s with
        | mk d => congr 1; exact Array.eq_empty_of_size_eq_zero h
      rw [sEq_iff.2 this] at hq; cases hq
    simp [this]
theorem first_at (h : s.size ≠ 0) : ∃ c, bidx s 0 = some c ∧ (bytesOf s).head? = some c := by
  have hn := bytesOf_length s
  cases hb : bytesOf s with
  | nil => rw [hb] at hn; simp at hn; omega
  | cons c l => exact ⟨c, by rw [bidx_eq, hb]; rfl, rfl⟩
theorem check_prog (hs : s.size ≤ 1048576) (hK : s.size < K) : g_nat_Check K s = some (natE s) := by
  unfold g_nat_Check natE
  rw [digits_prog hs hK, sEq_nil]
  by_cases h0 : s.size = 0
  · simp [h0, tu1]
  · obtain ⟨c, h1, h2⟩ := first_at h0
    rw [h1, h2]
    have h0' : (s.size == 0) = false := by simpa using h0
    by_cases hc : c = 48 <;> by_cases h3 : s.size > 1 <;> by_cases h4 : s.size > 2000 <;> cases h5 : (bytesOf s).all digB <;>
      simp [h0, h0', hc, h3, h4, h5, tu1, tu0, bindS, show ((s.size : Int) > 1) ↔ s.size > 1 by omega, show ((s.size : Int) > 2000) ↔ s.size > 2000 by omega] <;> omega
theorem error_ref (hs : s.size ≤ 1048576) (hK : s.size < K) : g_R_NatError K s = some (natE s) := by
  unfold g_R_NatError natE
  rw [digits_ref hs hK]
  by_cases h0 : s.size = 0
  · simp [h0, tu1]
  · obtain ⟨c, h1, h2⟩ := first_at h0
    rw [h1, h2]
    have h0' : ((s.size : Int) == 0) = false := by rw [beq_eq_false_iff_ne]; omega
    by_cases hc : c = 48 <;> by_cases h3 : s.size > 1 <;> by_cases h4 : s.size > 2000 <;> cases h5 : (bytesOf s).all digB <;>
      simp [h0, h0', hc, h3, h4, h5, tu1, tu0, bindS, show ((s.size : Int) > 1) ↔ s.size > 1 by omega, show ((s.size : Int) > 2000) ↔ s.size > 2000 by omega] <;> omega
/-- The error of a number is none: it is a canonical text of at most 2000 digits. -/
theorem digB_eq : digB = digT := rfl
theorem natE_ok (s : ByteArray) : natE s = 0 ↔ CanT s ∧ s.size ≤ 2000 := by
  unfold natE CanT
  rw [digB_eq]
  by_cases h0 : s.size = 0
  · simp [h0]
  · by_cases h1 : (bytesOf s).head? = some 48 ∧ s.size > 1
    · rw [if_neg h0, if_pos h1]
      constructor
      · intro h; cases h
      · rintro ⟨⟨_, _, h⟩, _⟩; have := h h1.1; omega
    · rw [if_neg h0, if_neg h1]
      cases h2 : (bytesOf s).all digT with
      | false => simp
      | true =>
        simp only [Bool.not_true, Bool.false_eq_true, if_false]
        by_cases h3 : s.size > 2000
        · rw [if_pos h3]; constructor
          · intro h; cases h
          · rintro ⟨_, h⟩; omega
        · rw [if_neg h3]
          exact ⟨fun _ => ⟨⟨h0, trivial, fun e => by
            refine Nat.le_antisymm (Nat.not_lt.1 fun h => h1 ⟨e, h⟩) (by omega)⟩, by omega⟩, fun _ => rfl⟩
theorem first_two (K : Nat) (a b : Int) (hK : 2 < K) : g_law_first K [a, b] = some (if a ≠ 0 then a else b) := by
  obtain ⟨k, rfl⟩ : ∃ k, K = k + 3 := ⟨K - 3, by omega⟩
  unfold g_law_first
  have i0 : idx [a, b] 0 = some a := rfl
  have i1 : idx [a, b] (kwrap .i64 (0 + 1)) = some b := rfl
  have w2 : kwrap .i64 (kwrap .i64 (0 + 1) + 1) = 2 := rfl
  have l0 : decide ((0 : Int) < (([a, b] : List Int).length : Int)) = true := rfl
  have l1 : decide (kwrap .i64 (0 + 1) < (([a, b] : List Int).length : Int)) = true := rfl
  have l2 : decide ((2 : Int) < (([a, b] : List Int).length : Int)) = false := rfl
  by_cases ha : a = 0
  · by_cases hb : b = 0
    · subst ha hb
      rw [g_law_first_l0, l0, if_pos rfl, i0, bsome, if_neg (by simp), g_law_first_l0, l1, if_pos rfl, i1, bsome, if_neg (by simp), g_law_first_l0, w2, l2, if_neg (by simp)]
      rfl
    · subst ha
      rw [g_law_first_l0, l0, if_pos rfl, i0, bsome, if_neg (by simp), g_law_first_l0, l1, if_pos rfl, i1, bsome, if_pos (by simpa using hb)]
      rfl
  · rw [g_law_first_l0, l0, if_pos rfl, i0, bsome, if_pos (by simpa using ha), if_pos ha]
    rfl
theorem both_ok {a b : ByteArray} (ha : a.size ≤ 1048576) (hb : b.size ≤ 1048576) (hK : 2000000000 < K) :
    (natE a ≠ 0 → g_nat_both K a b = some ([], [], natE a)) ∧ (natE a = 0 → natE b ≠ 0 → g_nat_both K a b = some ([], [], natE b)) ∧
    (natE a = 0 → natE b = 0 → ∃ x y, g_nat_both K a b = some (x, y, 0) ∧ NumN (numT a) x ∧ NumN (numT b) y ∧ 9 * x.length < a.size + 9 ∧ 9 * y.length < b.size + 9) := by
  unfold g_nat_both
  rw [check_prog ha (by omega), check_prog hb (by omega), bsome]
  refine ⟨fun h => ?_, fun h h2 => ?_, fun h h2 => ?_⟩
  · rw [if_pos (by simpa using h)]
  · rw [if_neg (by simpa using h), bsome, if_pos (by simpa using h2)]
  · obtain ⟨x, x1, x2, x3⟩ := read_ok (K := K) (s := a) (by omega) hK ((natE_ok a).1 h).1.2.1
    obtain ⟨y, y1, y2, y3⟩ := read_ok (K := K) (s := b) (by omega) hK ((natE_ok b).1 h2).1.2.1
    exact ⟨x, y, by rw [if_neg (by simpa using h), bsome, if_neg (by simpa using h2), x1, bsome, y1, bsome], x2, y2, x3, y3⟩
theorem told_ok {x : List Int} {n : Int} (hx : x.length ≤ 1000000) (hK : 2000000000 < K) (nx : NumN n x) : ∃ t, CanT t ∧ numT t = n ∧ g_nat_told K x = some (if t.size > 2000 then (⟨#[]⟩, 2) else (t, 0)) := by
  obtain ⟨t, t1, t2, t3, t4⟩ := text_ok hx hK nx
  refine ⟨t, t2, t3, ?_⟩
  unfold g_nat_told
  rw [t1, bsome]
  by_cases h : t.size > 2000
  · rw [if_pos h, if_pos (decide_eq_true (by omega))]
  · rw [if_neg h, if_neg (by simp; omega)]
theorem natural_ok (K : Nat) (s : ByteArray) : g_law_natural K s = some (if s.size > 2000 then (⟨#[]⟩, 2) else (s, 0)) := by
  unfold g_law_natural
  by_cases h : s.size > 2000
  · rw [if_pos h, if_pos (decide_eq_true (by omega))]
  · rw [if_neg h, if_neg (by simp; omega)]
theorem sEq_self (s : ByteArray) : sEq s s = true := sEq_iff.2 rfl
end Go.Am.Tryd
/- Plain law: NatProducts, NatDivides and NatPowers answer true. -/
namespace Go.Am.Tryd
open Go Go.Am Go.Proofs
set_option linter.unusedSimpArgs false
set_option linter.unusedVariables false
set_option maxRecDepth 100000
variable {K : Nat}
theorem contains_str {l : List ByteArray} {F : ByteArray → Option Bool} {p : ByteArray → Bool} (hl : l.length ≤ 1048576) (hK : 2000000000 < K) (hp : ∀ x ∈ l, F x = some (p x)) : g_slices_ContainsFunc_string_string K l F = some (l.any p) := by
  have key : ∃ r : Int ⊕ Unit, g_slices_IndexFunc_string_string_l0 K l F K 0 = some r ∧ ((r = .inr () ∧ l.any p = false) ∨ ∃ i : Int, 0 ≤ i ∧ r = .inl i ∧ l.any p = true) := by
    refine loopW (fun k (s : Int) => g_slices_IndexFunc_string_string_l0 K l F k s) (fun s => ∃ i : Nat, s = i ∧ i ≤ l.length ∧ (l.take i).any p = false) (fun s => (l.length - s : Int).toNat) _ ?_ (0 : Int) (by omega) ⟨0, rfl, by omega, by simp⟩
    rintro k _ ⟨i, rfl, h0, h1⟩
    by_cases hi : i < l.length
    · have hx : idx l (i : Int) = some l[i] := idx_nat (List.getElem?_eq_getElem hi)
      have hpi := hp l[i] (List.getElem_mem hi)
      have hsn : l.take (i + 1) = l.take i ++ [l[i]] := by rw [List.take_add_one, List.getElem?_eq_getElem hi]; rfl
      cases hc : p l[i] with
      | true =>
        left
        refine ⟨.inl i, ?_, .inr ⟨i, by omega, rfl, List.any_eq_true.2 ⟨l[i], List.getElem_mem hi, hc⟩⟩⟩
        rw [g_slices_IndexFunc_string_string_l0, if_pos (decide_eq_true (by omega)), hx, bsome, hpi, bsome, hc, if_pos rfl]
      | false =>
        right
        refine ⟨(i : Int) + 1, ?_, by omega, i + 1, rfl, by omega, by rw [hsn, List.any_append, h1]; simp [hc]⟩
        rw [g_slices_IndexFunc_string_string_l0, if_pos (decide_eq_true (by omega)), hx, bsome, hpi, bsome, hc, if_neg (by simp), k64 (by omega) (by omega)]
    · left
      have : i = l.length := by omega
      subst this
      rw [List.take_of_length_le (Nat.le_refl _)] at h1
      refine ⟨.inr (), ?_, .inl ⟨rfl, h1⟩⟩
      rw [g_slices_IndexFunc_string_string_l0, if_neg (by simp)]
  obtain ⟨r, h1, h2⟩ := key
  unfold g_slices_ContainsFunc_string_string g_slices_IndexFunc_string_string
  rw [h1]
  rcases h2 with ⟨rfl, h3⟩ | ⟨i, h4, rfl, h3⟩
  · rw [h3]; rfl
  · rw [h3, bindSl, tu1a, bsome, decide_eq_true (by omega)]
theorem long_two {a b : ByteArray} {n : Int} (hK : 2000000000 < K) : g_law_long K n [a, b] = some (decide ((a.size : Int) > n) || decide ((b.size : Int) > n)) := by
  unfold g_law_long
  rw [contains_str (F := fun x => g_law_long_1 K x n) (p := fun x => decide ((x.size : Int) > n)) (by simp) hK (fun x _ => rfl), bsome]
  simp
theorem natProducts_true {a b : ByteArray} (ha : a.size ≤ 1048576) (hb : b.size ≤ 1048576) : ∃ K, g_law_NatProducts K a b = some true := by
  refine ⟨2000000001, ?_⟩
  have hK : 2000000000 < 2000000001 := by omega
  unfold g_law_NatProducts g_nat_Mul
  rw [natFact_true, error_ref ha (by omega), error_ref hb (by omega), bsome]
  simp only [Bool.not_true, Bool.false_eq_true, if_false, bsome]
  rw [first_two _ _ _ (by omega)]
  obtain ⟨b1, b2, b3⟩ := both_ok (K := 2000000001) ha hb hK
  by_cases e1 : natE a = 0
  · by_cases e2 : natE b = 0
    · obtain ⟨x, y, h1, h2, h3, h4, h5⟩ := b3 e1 e2
      obtain ⟨ca, la⟩ := (natE_ok a).1 e1
      obtain ⟨cb, lb⟩ := (natE_ok b).1 e2
      obtain ⟨z, z1, z2, z3⟩ := nmul_ok (K := 2000000001) (x := x) (y := y) (by omega) hK h2 h3
      obtain ⟨t, t1, t2, t3⟩ := told_ok (K := 2000000001) (x := z) (by omega) hK z2
      obtain ⟨u, u1, u2, u3⟩ := mul_ref (K := 2000000001) (a := a) (b := b) (by omega) (by omega) (by omega) ca.2.1 cb.2.1
      have htu : u = t := numT_inj u2 t1 (by rw [u3, t2])
      subst htu
      rw [h1, bsome, e1, e2]
      simp only [bne_self_eq_false, Bool.false_eq_true, if_false, bsome, z1, t3, ne_eq, not_true, ite_self, u1, natural_ok, long_two hK]
      cases (decide ((a.size : Int) > 300) || decide ((b.size : Int) > 300)) <;> by_cases c1 : (a.size : Int) < 5 <;> by_cases c2 : (b.size : Int) < 5 <;> by_cases h2000 : u.size > 2000 <;> simp [c1, c2, h2000, bsome, tu1a, sEq_self]
    · rw [b2 e1 e2]
      simp [e1, e2, bsome, tu1a, sEq_self]
  · rw [b1 e1]
    simp [e1, bsome, tu1a, sEq_self]
/-! ### Powers -/
end Go.Am.Tryd
/- From a statement's arguments, read as data, to typed data. -/
namespace Go.Am
open Go Go.Proofs.YtlmgdnhnpkgheaaDoor
set_option linter.unusedSimpArgs false
set_option linter.unusedVariables false
section
variable {H : Type} {P : Program} {G : GM} {n B : Nat} {t e : TypeId} {α β S : Type} {r : RT α} {s : RT β} {I : α → Prop} {J : β → Prop}
theorem bulk_pos {H : Type} (d : DataW H) : 1 ≤ Rows.uptoBulk d := by
  cases d with
  | lit l => cases l <;> simp [Rows.uptoBulk]
  | _ => simp [Rows.uptoBulk]
theorem bulk_len {H : Type} : ∀ (ds : List (DataW H)), ds.length ≤ Rows.uptoBulkAll ds
  | [] => Nat.zero_le _
  | d :: r => by
    have := bulk_len r
    have := bulk_pos d
    simp only [Rows.uptoBulkAll, List.length_cons]; omega
def Arg (H : Type) (P : Program) (G : GM) (n : Nat) (t : TypeId) (r : RT α) (B : Nat) (I : α → Prop) : Prop := ∀ (cs : List Value) (d : DataW H), AData P G n t cs d → Rows.uptoBulk d ≤ B → ∃ x, r.rep G cs x ∧ I x
def ArgS (H : Type) (P : Program) (G : GM) (n : Nat) (ts : List TypeId) (r : RT α) (B : Nat) (I : α → Prop) : Prop :=
  ∀ (css : List (List Value)) (ds : List (DataW H)), AllD (AData P G n) P.cellsOf ts css ds → Rows.uptoBulkAll ds ≤ B → ∃ x, r.rep G css.flatten x ∧ I x
theorem wf_range {k : IntKind} {x : Int} (h : (Lit.int k x).wf = true) : krange k x = true := by
  cases k <;> simp [Lit.wf, IntKind.min, IntKind.max, IntKind.signed, IntKind.bits] at h <;> simp [krange] <;> omega
theorem Arg.mono {I J : α → Prop} (h : Arg H P G n t r B I) (k : ∀ x, I x → J x) : Arg H P G n t r B J := fun cs d hd hb => by
  obtain ⟨x, h1, h2⟩ := h cs d hd hb
  exact ⟨x, h1, k x h2⟩
theorem Arg.int {k : IntKind} (hu : P.underlying t = some (.int k)) : Arg H P G (n + 1) t (rI k) B (fun x => krange k x = true) := fun cs d h _ => by
  unfold AData at h
  simp only [hu] at h
  obtain ⟨x, h1, h2, h3⟩ := h
  exact ⟨x, h1, wf_range h3⟩
theorem Arg.bool (hu : P.underlying t = some .bool) : Arg H P G (n + 1) t rB B (fun _ => True) := fun cs d h _ => by
  unfold AData at h
  simp only [hu] at h
  obtain ⟨x, h1, _⟩ := h
  exact ⟨x, h1, trivial⟩
theorem Arg.str (hu : P.underlying t = some .string) : Arg H P G (n + 1) t rS B (fun x => x.size ≤ B) := fun cs d h hb => by
  unfold AData at h
  simp only [hu] at h
  obtain ⟨x, h1, h2, _⟩ := h
  refine ⟨x, h1, ?_⟩
  rw [h2] at hb
  simp only [Rows.uptoBulk, Array.length_toList] at hb
  have : x.data.size = x.size := rfl
  omega
theorem allD_reps (h : Arg H P G n e r B I) : ∀ (k : Nat) (css : List (List Value)) (ds : List (DataW H)), AllD (AData P G n) P.cellsOf (List.replicate k e) css ds → Rows.uptoBulkAll ds ≤ B → ∃ xs : List α, All2 (r.rep G) css xs ∧ (∀ x ∈ xs, I x) ∧ xs.length = k
  | 0, [], [], _, _ => ⟨[], .nil, by simp, rfl⟩
  | 0, _ :: _, _, h, _ => by simp [List.replicate, AllD] at h
  | 0, [], _ :: _, h, _ => by simp [List.replicate, AllD] at h
  | k + 1, [], _, h, _ => by simp [List.replicate, AllD] at h
  | k + 1, _ :: _, [], h, _ => by simp [List.replicate, AllD] at h
  | k + 1, c :: css, d :: ds, hA, hb => by
    simp only [List.replicate, AllD] at hA
    simp only [Rows.uptoBulkAll] at hb
    obtain ⟨x, h1, h2⟩ := h _ _ hA.1.1 (by omega)
    obtain ⟨xs, h3, h4, h5⟩ := allD_reps h k css ds hA.2 (by omega)
    refine ⟨x :: xs, .cons h1 h3, fun y hy => ?_, by simp [h5]⟩
    rcases List.mem_cons.1 hy with rfl | hy
    · exact h2
    · exact h4 y hy
theorem allD_take {R : TypeId → List Value → DataW H → Prop} {sz : TypeId → Nat} : ∀ (k : Nat) {ts : List TypeId} {cs : List (List Value)} {ds : List (DataW H)}, AllD R sz ts cs ds → AllD R sz (ts.take k) (cs.take k) (ds.take k)
  | 0, _, _, _, _ => by simp [AllD]
  | k + 1, [], [], [], _ => by simp [AllD]
  | k + 1, _ :: _, _ :: _, _ :: _, h => by simp only [List.take_succ_cons]; exact ⟨h.1, allD_take k h.2⟩
theorem allD_len {R : TypeId → List Value → DataW H → Prop} {sz : TypeId → Nat} {e : TypeId} : ∀ (k : Nat) (css : List (List Value)) (ds : List (DataW H)), AllD R sz (List.replicate k e) css ds → ∀ c ∈ css, c.length = sz e
  | 0, [], [], _, c, hc => by simp at hc
  | 0, _ :: _, _, h, _, _ => by simp [List.replicate, AllD] at h
  | 0, [], _ :: _, h, _, _ => by simp [List.replicate, AllD] at h
  | k + 1, [], _, h, _, _ => by simp [List.replicate, AllD] at h
  | k + 1, _ :: _, [], h, _, _ => by simp [List.replicate, AllD] at h
  | k + 1, c :: css, d :: ds, hA, u, hu => by
    simp only [List.replicate, AllD] at hA
    rcases List.mem_cons.1 hu with rfl | hu
    · exact hA.1.2
    · exact allD_len k css ds hA.2 u hu
theorem Arg.sl (hu : P.underlying t = some (.slice e)) (h : Arg H P G n e r B I) : Arg H P G (n + 1) t (rSl r) B (fun xs => xs.length ≤ B ∧ ∀ x ∈ xs, I x) := fun cs d hA hb => by
  unfold AData at hA
  simp only [hu] at hA
  rcases hA with ⟨h1, h2⟩ | ⟨b, len, cap, elems, spare, css, h1, h2, h3, h4, _, h6, h7⟩
  · subst h1
    exact ⟨[], sl_nil, Nat.zero_le _, by simp⟩
  · subst h2
    simp only [Rows.uptoBulk] at hb
    have hlen := bulk_len elems
    have h8 := allD_take len h7
    rw [List.take_replicate, show min len cap = len by omega, ← h3, List.take_left] at h8
    obtain ⟨xs, k1, k2, k3⟩ := allD_reps h elems.length (css.take elems.length) elems h8 (by omega)
    refine ⟨xs, ?_, by omega, k2⟩
    have hcl := allD_len _ _ _ h7
    have hel := k1.length
    by_cases hz : elems.length = 0
    · have hx : xs = [] := List.length_eq_zero_iff.1 (by omega)
      subst hx
      refine ⟨_, [], h1, ⟨by simp, .inr (.inr ⟨b, 0, some 0, cap, by rw [← h3, hz], rfl, .inr rfl⟩)⟩, .nil⟩
    · rcases h6 with h6 | ⟨x, g1, _, g3⟩
      · omega
      · refine ⟨_, css.take elems.length, h1, ⟨k1.each, .inr (.inl ⟨b, 0, some 0, cap, x, by rw [hel, k3, ← h3], g1, ?_, ?_, by rw [hel, k3]; omega, .inr rfl⟩)⟩, k1⟩
        · rw [g3]
          have h9 : css.flatten = (css.take elems.length).flatten ++ (css.drop elems.length).flatten := by rw [← List.flatten_append, List.take_append_drop]
          rw [h9, List.length_append, k1.flatLen, hel]; omega
        · rw [g3, List.drop_zero]
          have h9 : css.flatten = (css.take elems.length).flatten ++ (css.drop elems.length).flatten := by rw [← List.flatten_append, List.take_append_drop]
          have h10 : (css.take elems.length).length * r.sz = (css.take elems.length).flatten.length := by rw [k1.flatLen, hel]
          rw [h9, h10, List.take_left]
theorem Arg.arr {k : Nat} (hu : P.underlying t = some (.array k e)) (h : Arg H P G n e r B I) : Arg H P G (n + 1) t (rArr k r) B (fun xs => xs.length = k ∧ ∀ x ∈ xs, I x) := fun cs d hA hb => by
  unfold AData at hA
  simp only [hu] at hA
  obtain ⟨css, parts, h1, h2, h3⟩ := hA
  subst h2
  simp only [Rows.uptoBulk] at hb
  obtain ⟨xs, k1, k2, k3⟩ := allD_reps h k css parts h3 (by omega)
  exact ⟨xs, ⟨k3, css, h1, k1⟩, k3, k2⟩
theorem ArgS.one (h : Arg H P G n t r B I) : ArgS H P G n [t] r B I := fun css ds hA hb => by
  match css, ds, hA with
  | [c], [d], hA =>
    simp only [Rows.uptoBulkAll] at hb
    obtain ⟨x, h1, h2⟩ := h c d hA.1.1 (by omega)
    exact ⟨x, by simpa using h1, h2⟩
  | [], _, hA => simp [AllD] at hA
  | _ :: _ :: _, [], hA => simp [AllD] at hA
  | _ :: _ :: _, [_], hA => simp [AllD] at hA
  | _ :: _ :: _, _ :: _ :: _, hA => simp [AllD] at hA
  | [_], [], hA => simp [AllD] at hA
  | [_], _ :: _ :: _, hA => simp [AllD] at hA
theorem ArgS.cons {ts : List TypeId} (h : Arg H P G n t r B I) (k : ArgS H P G n ts s B J) : ArgS H P G n (t :: ts) (rP r s) B (fun x => I x.1 ∧ J x.2) := fun css ds hA hb => by
  match css, ds, hA with
  | c :: css, d :: ds, hA =>
    simp only [Rows.uptoBulkAll] at hb
    obtain ⟨x, h1, h2⟩ := h c d hA.1.1 (by omega)
    obtain ⟨y, h3, h4⟩ := k css ds hA.2 (by omega)
    exact ⟨(x, y), ⟨c, css.flatten, by simp, h1, h3⟩, h2, h4⟩
  | [], _, hA => simp [AllD] at hA
  | _ :: _, [], hA => simp [AllD] at hA
theorem Arg.struct {fs : Array Field} {ts : List TypeId} (hu : P.underlying t = some (.struct fs)) (hts : fs.toList.map (·.type) = ts) (h : ArgS H P G n ts r B I) (f : S → α) (g : α → S) (hg : ∀ p, f (g p) = p) : Arg H P G (n + 1) t (rIso r f) B (fun x => I (f x)) := fun cs d hA hb => by
  unfold AData at hA
  simp only [hu] at hA
  obtain ⟨css, parts, h1, h2, h3⟩ := hA
  subst h2
  simp only [Rows.uptoBulk] at hb
  rw [hts] at h3
  obtain ⟨p, k1, k2⟩ := h css parts h3 (by omega)
  exact ⟨g p, by rw [h1]; show r.rep G css.flatten (f (g p)); rw [hg]; exact k1, by show I (f (g p)); rw [hg]; exact k2⟩
theorem AArgs.cons_inv {ts : List TypeId} {avs : List Value} {ds : List (DataW H)} (h : AArgs P G n (t :: ts) avs ds) : ∃ v vs d dr, avs = v :: vs ∧ ds = d :: dr ∧ AVal P G n t v d ∧ AArgs P G n ts vs dr := by
  match avs, ds, h with
  | v :: vs, d :: dr, h => exact ⟨v, vs, d, dr, rfl, rfl, h.1, h.2⟩
  | [], _, h => simp [AArgs] at h
  | _ :: _, [], h => simp [AArgs] at h
theorem AArgs.nil_inv {avs : List Value} {ds : List (DataW H)} (h : AArgs P G n [] avs ds) : avs = [] ∧ ds = [] := by
  match avs, ds, h with
  | [], [], h => exact ⟨rfl, rfl⟩
  | [], _ :: _, h => simp [AArgs] at h
  | _ :: _, _, h => simp [AArgs] at h
/-- A single cell's value. -/
theorem AVal.one {v : Value} {d : DataW H} (hu : isAggT P t = some false) (h : AVal P G n t v d) : AData P G n t [v] d := by
  unfold AVal at h
  unfold isAggT at hu
  split at h
  · rename_i q; rw [q] at hu; cases hu
  · rename_i q; rw [q] at hu; cases hu
  · exact h
theorem AVal.agg {v : Value} {d : DataW H} (hu : isAggT P t = some true) (h : AVal P G n t v d) : ∃ cs, v = .agg (List.toArray cs) ∧ AData P G n t cs d := by
  unfold AVal at h
  unfold isAggT at hu
  split at h
  · exact h
  · exact h
  · rename_i q1 q2
    split at hu
    · rename_i q; exact absurd q (q1 _)
    · rename_i q; exact absurd q (q2 _ _)
    · cases hu
    · cases hu
theorem Ow.empty (A : AH) : Ow A.get A [] := ⟨fun _ _ h => h, fun i e h => by simp at h, fun i j e e' _ h => by simp at h, fun i e h => by simp at h⟩
theorem CR.done {f : FuncId} {args : List Value} {A : AH} {b : Value} (h : CR P f args A.get A [] fun v _ _ => v = b) : ∃ A', ACalls P f args A b A' := by
  obtain ⟨v, H', G', h1, _, _, rfl⟩ := h
  exact ⟨H', h1⟩
end
end Go.Am
/- NatProducts over the statement's reading of its arguments. -/
namespace Go.Am.Tryd
open Go Go.Am Go.Proofs Go.Proofs.YtlmgdnhnpkgheaaDoor
set_option linter.unusedVariables false
set_option linter.unusedSimpArgs false
set_option maxRecDepth 20000
theorem natProducts {H : Type} (A : AH) (avs : List Value) (ds : List (DataW H)) (hb : Rows.uptoBulkAll ds ≤ 1048576) (ha : AArgs Tryd.prog A.get 1 [9, 9] avs ds) : ∃ A', ACalls Tryd.prog 5 avs A (.bool true) A' := by
  obtain ⟨v0, vs0, d0, ds0, rfl, rfl, a0, ha⟩ := AArgs.cons_inv ha
  obtain ⟨v1, vs1, d1, ds1, rfl, rfl, a1, ha⟩ := AArgs.cons_inv ha
  obtain ⟨rfl, rfl⟩ := AArgs.nil_inv ha
  simp only [Rows.uptoBulkAll] at hb
  obtain ⟨x0, r0, i0⟩ := ((Arg.str (t := 9) (by kernel_rfl)) : Arg H Tryd.prog A.get 1 9 _ 1048576 _) [v0] d0 (AVal.one (by kernel_rfl) a0) (by omega)
  obtain rfl := (List.cons.inj r0).1
  obtain ⟨x1, r1, i1⟩ := ((Arg.str (t := 9) (by kernel_rfl)) : Arg H Tryd.prog A.get 1 9 _ 1048576 _) [v1] d1 (AVal.one (by kernel_rfl) a1) (by omega)
  obtain rfl := (List.cons.inj r1).1
  obtain ⟨K, hK⟩ := natProducts_true i0 i1
  exact CR.done (g_law_NatProducts_ok K x0 x1 (Ow.empty A) true hK)
end Go.Am.Tryd
