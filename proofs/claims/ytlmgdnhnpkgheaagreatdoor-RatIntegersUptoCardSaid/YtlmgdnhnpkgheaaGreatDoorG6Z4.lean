/- Plain law: quotient and remainder, greatest common divisor of the program's numbers. -/
import Derived.Test.YtlmgdnhnpkgheaaGreatDoorG5Z4
import Derived.Test.YtlmgdnhnpkgheaaGreatDoorG2Z4
import Derived.Test.YtlmgdnhnpkgheaaGreatDoorRows
namespace Go.Am.Tryz
open Go Go.Am Go.Proofs
set_option linter.unusedSimpArgs false
set_option linter.unusedVariables false
variable {K : Nat}
theorem getD_drop' (u : List Int) (i j : Nat) : (u.drop i).getD j 0 = u.getD (i + j) 0 := by
  rw [List.getD_eq_getElem?_getD, List.getElem?_drop, List.getD_eq_getElem?_getD]
section
variable {p X Y V M HI LO U g q b c rr M1 M2 U1 U2 P v1 v2 vl t1 t2 t3 ul top : Int}
theorem kd1 : vl + P * v2 + P * 1000000000 * v1 = P * (1000000000 * v1 + v2) + vl := by grind
theorem kd2 : ul + P * t3 + P * 1000000000 * t2 + P * 1000000000 * 1000000000 * t1 = P * (1000000000 * (t1 * 1000000000 + t2) + t3) + ul := by grind
theorem kd3 (hu : U < p * 1000000000 * V) (hm : U = LO + p * (M + Y * 1000000000 * HI)) (h0 : 0 ≤ LO) (p0 : 0 < p) (Y0 : 0 < Y) (hV : V < Y) (hM : 0 ≤ M) (hH : 0 ≤ HI) : HI = 0 := by
  refine Int.le_antisymm (Int.not_lt.1 fun hlt => ?_) hH
  have a1 := mul_le (Int.le_of_lt Y0) (show 1 ≤ HI by omega)
  have a2 := mul_le (Int.le_of_lt p0) (show V + 1 ≤ Y by omega)
  have a3 := mul_le (Int.le_of_lt p0) (show Y * 1000000000 ≤ M + Y * 1000000000 * HI by grind)
  grind
theorem kd4 (hu : U < p * 1000000000 * V) (hm : U = LO + p * (M + X * 0)) (h0 : 0 ≤ LO) (p0 : 0 < p) : M < 1000000000 * V := by
  refine Int.not_le.1 fun hle => ?_
  have a1 := mul_le (Int.le_of_lt p0) hle
  grind
theorem kd5 (h : rr + V * q = M) (h0 : 0 ≤ rr) : q * V ≤ M := by grind
theorem kd5' (h : rr + V * q = M) (h0 : rr < V) : M < (q + 1) * V := by grind
theorem kd6 (hM : M = P * (1000000000 * top + t3) + ul) (hV : V = P * (1000000000 * v1 + v2) + vl) (h : M < 1000000000 * V) (P0 : 0 < P) (b2 : v2 < 1000000000) (b3 : 0 ≤ t3) (u0 : 0 ≤ ul) (vb : vl < P) : top < 1000000000 * v1 + 1000000000 := by
  refine Int.not_le.1 fun hle => ?_
  have a1 := mul_le (Int.le_of_lt P0) (mul_le (show (0:Int) ≤ 1000000000 by omega) hle)
  have a2 := mul_le (Int.le_of_lt P0) (show v2 ≤ 999999999 by omega)
  have a3 := mul_nn (Int.le_of_lt P0) b3
  subst hM hV
  grind
theorem kd7 (p0 : 0 < p) (h1 : U1 = LO + p * (M1 + X * 0)) (h2 : U1 = U - p * (g * V) + p * X * b) (h3 : U = LO + p * (M + X * 0)) : M1 = M - g * V + X * b := by
  have : p * M1 = p * (M - g * V + X * b) := by grind
  exact Int.eq_of_mul_eq_mul_left (by omega) this
theorem kd8 (h : rr + V * q = M) (h1 : rr < V) (hV : 0 < V) (hm : M1 = M - g * V + X * 0) (h0 : 0 ≤ M1) (hq : q ≤ g) : g = q := by
  refine Int.le_antisymm (Int.not_lt.1 fun hlt => ?_) hq
  have a1 := mul_le (Int.le_of_lt hV) (show q + 1 ≤ g by omega)
  grind
theorem kd9 (h : rr + V * q = M) (h0 : 0 ≤ rr) (hm : M1 = M - g * V + X * 1) (h1 : M1 < X) (hq : q ≤ g) (hq1 : g ≤ q + 1) : g = q + 1 := by
  refine Int.le_antisymm hq1 (Int.not_lt.1 fun hlt => ?_)
  have : g = q := by omega
  subst this
  grind
theorem kd10 (p0 : 0 < p) (h1 : U2 = LO + p * (M2 + X * 0)) (h2 : U2 + p * X * c = U1 + p * V) (h3 : U1 = LO + p * (M1 + X * 0)) (h4 : M1 = M - (q + 1) * V + X * 1) : M2 = M - q * V + X * (1 - c) := by
  have : p * M2 = p * (M - q * V + X * (1 - c)) := by grind
  exact Int.eq_of_mul_eq_mul_left (by omega) this
theorem kd11 (h : rr + V * q = M) (h0 : 0 ≤ rr) (hm : M2 = M - q * V + X * (1 - c)) (h1 : M2 < X) (hc : c = 0 ∨ c = 1) : c = 1 := by
  rcases hc with rfl | rfl
  · grind
  · rfl
theorem kd12 (h1 : U1 = LO + p * (M1 + X * 0)) (hm : M1 = M - q * V) (h3 : U = LO + p * (M + X * 0)) : U1 + p * (q * V) = U := by grind
theorem kd13 (p0 : 0 < p) (h1 : U1 = LO + p * (M1 + X * 0)) (hm : M1 = M - q * V) (h : rr + V * q = M) (hr : rr < V) (hl : LO < p) : U1 < p * V := by
  have a1 := mul_le (Int.le_of_lt p0) (show M1 + 1 ≤ V by grind)
  grind
end
/-- One digit of the quotient. -/
theorem digit_step {u v : List Int} {i : Nat} (hn : 2 ≤ v.length) (hk : i + v.length + 1 ≤ u.length) (hl : u.length ≤ 8000000) (hK : 2000000000 < K) (du : DigB 1000000000 u) (cv : CanB 1000000000 v) (hu : valB 1000000000 u < 1000000000 ^ (i + 1) * valB 1000000000 v) :
    ∃ g b u1 u2 q, g_nat_N_Div_l4 K v u i K ((u.getD (i + v.length) 0 * 1000000000 + u.getD (i + v.length - 1) 0) / v.getD (v.length - 1) 0) ((u.getD (i + v.length) 0 * 1000000000 + u.getD (i + v.length - 1) 0) % v.getD (v.length - 1) 0) = some g ∧ 0 ≤ g ∧ g < 1000000000 ∧
      g_nat_N_minus K u v i g = some (b, u1) ∧ (b = true → g_nat_N_plus K u1 v i = some u2 ∧ q = g - 1) ∧ (b = false → u2 = u1 ∧ q = g) ∧ 0 ≤ q ∧ q < 1000000000 ∧ u2.length = u.length ∧ DigB 1000000000 u2 ∧
      valB 1000000000 u2 + 1000000000 ^ i * (q * valB 1000000000 v) = valB 1000000000 u ∧ valB 1000000000 u2 < 1000000000 ^ i * valB 1000000000 v ∧ 1 ≤ v.getD (v.length - 1) 0 ∧ v.getD (v.length - 1) 0 < 1000000000 := by
  obtain ⟨n, hnv⟩ : ∃ n, v.length = n + 2 := ⟨v.length - 2, by omega⟩
  have dv := cv.1
  have ev1 := getD_dig (by omega) dv (n + 1)
  have ev2 := getD_dig (by omega) dv n
  have et1 := getD_dig (by omega) du (i + n + 2)
  have et2 := getD_dig (by omega) du (i + n + 1)
  have et3 := getD_dig (by omega) du (i + n)
  -- the divisor's leading digits
  have hv1 : 1 ≤ v.getD (n + 1) 0 := by
    have : v.getD (n + 1) 0 ≠ 0 := fun e => cv.2 (by
      rw [List.getLast?_eq_getElem?, hnv]
      have hi : n + 2 - 1 < v.length := by omega
      rw [List.getD_eq_getElem?_getD, List.getElem?_eq_getElem (by omega)] at e
      rw [List.getElem?_eq_getElem hi]
      simp at e ⊢
      exact e)
    omega
  have hV : valB 1000000000 v = 1000000000 ^ n * (1000000000 * v.getD (n + 1) 0 + v.getD n 0) + valB 1000000000 (v.take n) := by
    have h1 := valB_take 1000000000 v n
    have h2 := valB_take 1000000000 v (n + 1)
    rw [List.take_of_length_le (by omega)] at h2
    rw [h2, h1, Int.pow_succ, kd1]
  have hVn : valB 1000000000 v < 1000000000 ^ (n + 2) := by rw [← hnv]; exact valB_lt (by omega) v dv
  -- the middle of what is divided
  have hmid := mid_val u i (n + 3) (by omega)
  have hM : valB 1000000000 ((u.drop i).take (n + 3)) = 1000000000 ^ n * (1000000000 * (u.getD (i + n + 2) 0 * 1000000000 + u.getD (i + n + 1) 0) + u.getD (i + n) 0) + valB 1000000000 ((u.drop i).take n) := by
    have h1 := valB_take 1000000000 (u.drop i) n
    have h2 := valB_take 1000000000 (u.drop i) (n + 1)
    have h3 := valB_take 1000000000 (u.drop i) (n + 2)
    rw [getD_drop'] at h1 h2 h3
    rw [h3, h2, h1, Int.pow_succ 1000000000 (n + 1), Int.pow_succ 1000000000 n, ← Nat.add_assoc, ← Nat.add_assoc, kd2]
  have dlo := du.take i
  have lo0 := valB_nonneg (B := 1000000000) (by omega) _ dlo
  have lo1 := valB_lt (B := 1000000000) (by omega) _ dlo
  rw [List.length_take, Nat.min_eq_left (by omega)] at lo1
  have dmi := (du.drop i).take (n + 3)
  have mi0 := valB_nonneg (B := 1000000000) (by omega) _ dmi
  have dhi := du.drop (i + (n + 3))
  have hi0 := valB_nonneg (B := 1000000000) (by omega) _ dhi
  have p0 : 0 < (1000000000 : Int) ^ i := Int.pow_pos (by omega)
  have pn0 : 0 < (1000000000 : Int) ^ n := Int.pow_pos (by omega)
  have pn3 : 0 < (1000000000 : Int) ^ (n + 3) := Int.pow_pos (by omega)
  have ep1 : (1000000000 : Int) ^ (i + 1) = 1000000000 ^ i * 1000000000 := Int.pow_succ _ _
  have ep3 : (1000000000 : Int) ^ (n + 3) = 1000000000 ^ (n + 2) * 1000000000 := Int.pow_succ _ _
  have dul := (du.drop i).take n
  have ul0 := valB_nonneg (B := 1000000000) (by omega) _ dul
  have ul1 := valB_lt (B := 1000000000) (by omega) _ dul
  rw [List.length_take, List.length_drop, Nat.min_eq_left (by omega)] at ul1
  have dvl := dv.take n
  have vl0 := valB_nonneg (B := 1000000000) (by omega) _ dvl
  have vl1 := valB_lt (B := 1000000000) (by omega) _ dvl
  rw [List.length_take, Nat.min_eq_left (by omega)] at vl1
  have hmin := fun (g : Int) (hg : 0 ≤ g ∧ g < 1000000000) => minus_ok (K := K) (u := u) (v := v) (k := i) (q := g) hk hl hK hg du dv
  have hplu := fun (u1 : List Int) (h1 : u1.length = u.length) (d1 : DigB 1000000000 u1) => plus_ok (K := K) (u := u1) (v := v) (k := i) (by omega) (by omega) hK d1 dv
  rw [show i + v.length = i + n + 2 by omega, show i + n + 2 - 1 = i + n + 1 by omega, show v.length - 1 = n + 1 by omega]
  generalize hVV : valB 1000000000 v = V at *
  generalize hMM : valB 1000000000 ((u.drop i).take (n + 3)) = M at *
  generalize hLL : valB 1000000000 (u.take i) = LO at *
  generalize hHH : valB 1000000000 (u.drop (i + (n + 3))) = HI at *
  have hV0 : 0 < V := by
    have := mul_le (Int.le_of_lt pn0) (show 1 ≤ 1000000000 * v.getD (n + 1) 0 + v.getD n 0 by omega)
    omega
  have hHI : HI = 0 := by
    rw [ep3] at hmid
    rw [ep1] at hu
    exact kd3 hu hmid lo0 p0 (Int.pow_pos (by omega)) hVn mi0 hi0
  rw [hHI] at hmid
  have hMV : M < 1000000000 * V := by
    rw [ep1] at hu
    exact kd4 hu hmid lo0 p0
  -- the true digit
  have q0 : 0 ≤ M / V := Int.ediv_nonneg mi0 (by omega)
  have qB : M / V < 1000000000 := Int.ediv_lt_of_lt_mul hV0 hMV
  have hdm := Int.emod_add_mul_ediv M V
  have r0 := Int.emod_nonneg M (show V ≠ 0 by omega)
  have r1 := Int.emod_lt_of_pos M hV0
  generalize hq : M / V = q at *
  generalize M % V = rr at *
  have hkn : Kn 1000000000 (1000000000 ^ n) (v.getD (n + 1) 0) (v.getD n 0) (valB 1000000000 (v.take n)) (u.getD (i + n + 2) 0 * 1000000000 + u.getD (i + n + 1) 0) (u.getD (i + n) 0) (valB 1000000000 ((u.drop i).take n)) q := by
    refine ⟨by omega, pn0, hv1, ev2.1, ev2.2, vl0, vl1, by omega, et3.1, et3.2, ul0, ul1, q0, qB, ?_, ?_⟩
    · rw [← hM, ← hV]; exact kd5 hdm r0
    · rw [← hM, ← hV]; exact kd5' hdm r1
  have ht : u.getD (i + n + 2) 0 * 1000000000 + u.getD (i + n + 1) 0 < 1000000000 * v.getD (n + 1) 0 + 1000000000 := kd6 hM hV hMV pn0 ev2.2 et3.1 ul0 vl1
  generalize htop : u.getD (i + n + 2) 0 * 1000000000 + u.getD (i + n + 1) 0 = top at *
  have htd := Int.emod_add_mul_ediv top (v.getD (n + 1) 0)
  have hfirst := hkn.first
  have g2 : top / v.getD (n + 1) 0 < 2000000000 := Int.ediv_lt_of_lt_mul (by omega) (by omega)
  have rt0 := Int.emod_nonneg top (show v.getD (n + 1) 0 ≠ 0 by omega)
  have rt1 := Int.emod_lt_of_pos top (show 0 < v.getD (n + 1) 0 by omega)
  obtain ⟨g, w1, w2, w3, w4⟩ := guess_ok (K := K) (u := u) (v := v) (k := i) (P := 1000000000 ^ n) (vl := valB 1000000000 (v.take n)) (top := top) (ul := valB 1000000000 ((u.drop i).take n)) (q := q) (g := top / v.getD (n + 1) 0) (r := top % v.getD (n + 1) 0) hn hk hl hK
    (by rw [hnv, show n + 2 - 1 = n + 1 by omega, show n + 2 - 2 = n by omega, show i + (n + 2) - 2 = i + n by omega]; exact hkn) (by rw [hnv, show n + 2 - 1 = n + 1 by omega]; omega) (by rw [hnv, show n + 2 - 1 = n + 1 by omega]; omega) (by rw [hnv, show n + 2 - 1 = n + 1 by omega, Int.mul_comm]; omega) hfirst g2 (by omega)
  obtain ⟨b, u1, m1, m2, m3, m4, m5, m6, m7⟩ := hmin g (by omega)
  have hmid1 := mid_val u1 i (n + 3) (by omega)
  have dm1 := (m4.drop i).take (n + 3)
  have m10 := valB_nonneg (B := 1000000000) (by omega) _ dm1
  have m11 := valB_lt (B := 1000000000) (by omega) _ dm1
  rw [List.length_take, List.length_drop, Nat.min_eq_left (by omega)] at m11
  rw [show i + (n + 3) = i + (v.length + 1) by omega, m6, show i + (v.length + 1) = i + (n + 3) by omega, hHH, hHI, m5, hLL] at hmid1
  rw [show i + (v.length + 1) = i + (n + 3) by omega, Int.pow_add] at m7
  generalize hM1 : valB 1000000000 ((u1.drop i).take (n + 3)) = M1 at *
  have hM1e : M1 = M - g * V + 1000000000 ^ (n + 3) * b := kd7 p0 hmid1 m7 hmid
  rcases m2 with rfl | rfl
  · -- no borrow: the guess was right
    have hgq : g = q := kd8 hdm r1 hV0 hM1e m10 w2
    subst hgq
    have hM1f : M1 = M - g * V := by rw [hM1e]; omega
    exact ⟨g, false, u1, u1, g, w1, q0, w4, by simpa using m1, by simp, by simp, q0, qB, m3, m4, kd12 hmid1 hM1f hmid, kd13 p0 hmid1 hM1f hdm r1 lo1, hv1, ev1.2⟩
  · have hgq : g = q + 1 := kd9 hdm r0 hM1e m11 w2 w3
    subst hgq
    obtain ⟨u2, c, s1, s2, s3, s4, s5, s6, s7⟩ := hplu u1 m3 m4
    have hmid2 := mid_val u2 i (n + 3) (by omega)
    have dm2 := (s4.drop i).take (n + 3)
    have m20 := valB_nonneg (B := 1000000000) (by omega) _ dm2
    have m21 := valB_lt (B := 1000000000) (by omega) _ dm2
    rw [List.length_take, List.length_drop, Nat.min_eq_left (by omega)] at m21
    rw [show i + (n + 3) = i + (v.length + 1) by omega, s6, m6, show i + (v.length + 1) = i + (n + 3) by omega, hHH, hHI, s5, m5, hLL] at hmid2
    rw [show i + (v.length + 1) = i + (n + 3) by omega, Int.pow_add] at s7
    generalize hM2 : valB 1000000000 ((u2.drop i).take (n + 3)) = M2 at *
    have hM2e : M2 = M - q * V + 1000000000 ^ (n + 3) * (1 - c) := kd10 p0 hmid2 s7 hmid1 hM1e
    have hc : c = 1 := kd11 hdm r0 hM2e m21 s2
    subst hc
    have hM2f : M2 = M - q * V := by rw [hM2e]; omega
    exact ⟨q + 1, true, u1, u2, q, w1, by omega, w4, by simpa using m1, fun _ => ⟨s1, by omega⟩, by simp, q0, qB, by omega, s4, kd12 hmid2 hM2f hmid, kd13 p0 hmid2 hM2f hdm r1 lo1, hv1, ev1.2⟩
end Go.Am.Tryz
/- Plain law: Div and Gcd of the program's numbers. -/
namespace Go.Am.Tryz
open Go Go.Am Go.Proofs
set_option linter.unusedSimpArgs false
set_option linter.unusedVariables false
variable {K : Nat}
theorem kf1 {Y p Z V U U2 O q : Int} (h : U + O * V = Z) (h2 : U2 + p * (q * V) = U) : U2 + (O + p * (q - 0)) * V = Z := by grind
theorem div_l2_step {o w v u1 u2 : List Int} {i m : Nat} {g q a1 a2 v1 : Int} {b : Bool} (hn : 2 ≤ v.length) (hk : i + v.length + 1 ≤ w.length) (hl : w.length ≤ 8000000) (ho : i < o.length) (h1 : w.getD (i + v.length) 0 = a1) (h2 : w.getD (i + v.length - 1) 0 = a2) (h3 : v.getD (v.length - 1) 0 = v1)
    (b1 : 0 ≤ a1 ∧ a1 < 1000000000) (b2 : 0 ≤ a2 ∧ a2 < 1000000000) (b3 : 1 ≤ v1 ∧ v1 < 1000000000) (hg : 0 ≤ g ∧ g < 1000000000) (hq : 0 ≤ q ∧ q < 1000000000) (d1 : g_nat_N_Div_l4 K v w i K ((a1 * 1000000000 + a2) / v1) ((a1 * 1000000000 + a2) % v1) = some g) (d4 : g_nat_N_minus K w v i g = some (b, u1)) (d5 : b = true → g_nat_N_plus K u1 v i = some u2 ∧ q = g - 1) (d6 : b = false → u2 = u1 ∧ q = g) :
    g_nat_N_Div_l2 K v (m + 1) o w i = g_nat_N_Div_l2 K v m (o.set i q) u2 ((i : Int) - 1) := by
  have t1 : ((i : Int) + (v.length : Int)).toNat = i + v.length := by omega
  have t2 : ((i : Int) + (v.length : Int) - 1).toNat = i + v.length - 1 := by omega
  have t3 : ((v.length : Int) - 1).toNat = v.length - 1 := by omega
  have hq1 : 0 ≤ (a1 * 1000000000 + a2) / v1 := Int.ediv_nonneg (by omega) (by omega)
  have hq2 : (a1 * 1000000000 + a2) / v1 ≤ a1 * 1000000000 + a2 := Int.ediv_le_self _ (by omega)
  rw [g_nat_N_Div_l2]
  cases b with
  | true =>
    obtain ⟨p1, p2⟩ := d5 rfl
    subst p2
    clear d5 d6
    simp (discharger := omega) only [decide_eq_true_eq, if_pos, if_neg, if_true, if_false, bsome, beq_iff, bne_iff, idxI, bidxI, sslI, lslI, k64, ku64, ku32, ku8, i64w, u64w, u32w, u8w, tdivI, tmodI, tu0a, tu1a, tu2a, tu3a, tu4a, tu5a, lta, bindSl, bindSr, outSl, outSr, Int.toNat_natCast, List.length_cons, List.length_nil, List.length_set, Int.toNat_zero, List.replicate_zero, t1, t2, t3, h1, h2, h3, d1, d4, p1]
  | false =>
    obtain ⟨p1, p2⟩ := d6 rfl
    subst p1 p2
    clear d5 d6
    simp (discharger := omega) only [decide_eq_true_eq, if_pos, if_neg, if_true, if_false, bsome, beq_iff, bne_iff, idxI, bidxI, sslI, lslI, k64, ku64, ku32, ku8, i64w, u64w, u32w, u8w, tdivI, tmodI, tu0a, tu1a, tu2a, tu3a, tu4a, tu5a, lta, bindSl, bindSr, outSl, outSr, Int.toNat_natCast, List.length_cons, List.length_nil, List.length_set, Int.toNat_zero, List.replicate_zero, t1, t2, t3, h1, h2, h3, d1, d4, Bool.false_eq_true]
theorem div_loop {u v : List Int} {J : Nat} (hn : 2 ≤ v.length) (hJ : J + v.length = u.length) (hJ1 : 1 ≤ J) (hl : u.length ≤ 8000000) (hK : 2000000000 < K) (du : DigB 1000000000 u) (cv : CanB 1000000000 v) (hu : valB 1000000000 u < 1000000000 ^ J * valB 1000000000 v) :
    ∃ r : List Int × List Int, g_nat_N_Div_l2 K v K (List.replicate J 0) u ((J : Int) - 1) = some r ∧ r.1.length = J ∧ r.2.length = u.length ∧ DigB 1000000000 r.1 ∧ DigB 1000000000 r.2 ∧ valB 1000000000 r.2 + valB 1000000000 r.1 * valB 1000000000 v = valB 1000000000 u ∧ valB 1000000000 r.2 < valB 1000000000 v := by
  refine loopW (fun m (s : List Int × List Int × Int) => g_nat_N_Div_l2 K v m s.1 s.2.1 s.2.2) (fun s => ∃ j : Nat, s.2.2 = (j : Int) - 1 ∧ j ≤ J ∧ s.1.length = J ∧ s.2.1.length = u.length ∧ DigB 1000000000 s.1 ∧ DigB 1000000000 s.2.1 ∧ (∀ i < j, s.1.getD i 0 = 0) ∧ valB 1000000000 s.2.1 + valB 1000000000 s.1 * valB 1000000000 v = valB 1000000000 u ∧ valB 1000000000 s.2.1 < 1000000000 ^ j * valB 1000000000 v) (fun s => (s.2.2 + 1).toNat) _ ?_ ((List.replicate J 0, u, (J : Int) - 1) : List Int × List Int × Int) (by dsimp only; omega) ⟨J, rfl, Nat.le_refl _, by simp, rfl, .zeros (by omega) _, du, fun i hi => by simp [List.getD_eq_getElem?_getD, hi], by simp [valB_zeros], hu⟩
  rintro m ⟨o, w, _⟩ ⟨j, rfl, hj, h1, h2, h3, h4, h5, h6, h7⟩
  dsimp only at h1 h2 h3 h4 h5 h6 h7 ⊢
  by_cases h0 : j = 0
  · subst h0
    left
    rw [Int.pow_zero, Int.one_mul] at h7
    exact ⟨(o, w), by rw [g_nat_N_Div_l2]; simp (discharger := omega) only [decide_eq_true_eq, if_pos, if_neg, if_true, if_false, bsome, beq_iff, bne_iff, idxI, bidxI, sslI, lslI, k64, ku64, ku32, ku8, i64w, u64w, u32w, u8w, tdivI, tmodI, tu0a, tu1a, tu2a, tu3a, tu4a, tu5a, lta, bindSl, bindSr, outSl, outSr, Int.toNat_natCast, List.length_cons, List.length_nil, List.length_set, Int.toNat_zero, List.replicate_zero], h1, h2, h3, h4, h6, h7⟩
  · right
    obtain ⟨i, rfl⟩ : ∃ i, j = i + 1 := ⟨j - 1, by omega⟩
    have e1 : ((i + 1 : Nat) : Int) - 1 = i := by omega
    rw [e1]
    obtain ⟨g, b, u1, u2, q, d1, d2, d3, d4, d5, d6, d7, d8, d9, d10, d11, d12, d13, d14⟩ := digit_step (K := K) (u := w) (v := v) (i := i) hn (by omega) (by omega) hK h4 cv h7
    have hz := h5 i (by omega)
    have hset := valB_set 1000000000 o i q (by omega)
    rw [hz] at hset
    have et1 := getD_dig (by omega) h4 (i + v.length)
    have et2 := getD_dig (by omega) h4 (i + v.length - 1)
    have hrun := div_l2_step (m := m) (o := o) (a1 := w.getD (i + v.length) 0) (a2 := w.getD (i + v.length - 1) 0) (v1 := v.getD (v.length - 1) 0) hn (show i + v.length + 1 ≤ w.length by omega) (by omega) (by omega) rfl rfl rfl et1 et2 ⟨d13, d14⟩ ⟨d2, d3⟩ ⟨d7, d8⟩ d1 d4 d5 d6
    refine ⟨(o.set i q, u2, (i : Int) - 1), hrun, by dsimp only; omega, i, rfl, by omega, by simp [h1], by dsimp only; omega, h3.set _ ⟨d7, d8⟩, d10, fun k hk => by dsimp only; rw [getD_set (by omega), if_neg (by omega)]; exact h5 k (by omega), ?_, d12⟩
    dsimp only
    rw [hset]
    exact kf1 (Y := 0) h6 d11
theorem len_mono {m n : Int} {x y : List Int} (hx : NumN m x) (hy : NumN n y) (h : m ≤ n) : x.length ≤ y.length := can_len_le (B := 1000000000) (by omega) hx.1 hy.1.1 (by rw [hx.2, hy.2]; exact h)
theorem kf2 {a b c : Int} (hc : 0 < c) (hb : 0 < b) : (a * c) / (b * c) = a / b ∧ (a * c) % (b * c) = (a % b) * c := by
  refine ⟨Int.mul_ediv_mul_of_pos_left a b hc, ?_⟩
  rw [Int.mul_comm a c, Int.mul_comm b c, Int.mul_emod_mul_of_pos a b hc, Int.mul_comm]
theorem ndiv_ok {x y : List Int} {a b : Int} (hx : x.length ≤ 3000000) (hy : y.length ≤ 3000000) (hK : 2000000000 < K) (nx : NumN a x) (ny : NumN b y) (hb : 0 < b) :
    ∃ q r, g_nat_N_Div K x y = some (q, r) ∧ NumN (a / b) q ∧ NumN (a % b) r ∧ q.length ≤ x.length ∧ r.length ≤ y.length := by
  have a0 := nx.nonneg
  suffices h : ∃ q r, g_nat_N_Div K x y = some (q, r) ∧ NumN (a / b) q ∧ NumN (a % b) r by
    obtain ⟨q, r, h1, h2, h3⟩ := h
    have e1 := Int.emod_lt_of_pos a hb
    exact ⟨q, r, h1, h2, h3, len_mono h2 nx (Int.ediv_le_self _ a0), len_mono h3 ny (by omega)⟩
  have hcmp := ncmp_ok (K := K) (by omega) (by omega) hK nx ny
  unfold g_nat_N_Div
  rw [hcmp, bsome]
  by_cases hab : a < b
  · refine ⟨[], x, ?_, by rw [Int.ediv_eq_zero_of_lt a0 hab]; exact .nil, by rw [Int.emod_eq_of_lt a0 hab]; exact nx⟩
    simp (discharger := omega) only [decide_eq_true_eq, if_pos, if_neg, if_true, if_false, bsome, beq_iff, bne_iff, idxI, bidxI, sslI, lslI, k64, ku64, ku32, ku8, i64w, u64w, u32w, u8w, tdivI, tmodI, tu0a, tu1a, tu2a, tu3a, tu4a, tu5a, lta, bindSl, bindSr, outSl, outSr, Int.toNat_natCast, List.length_cons, List.length_nil, List.length_set, Int.toNat_zero, List.replicate_zero]
  · have hcond : decide ((if a < b then (-1 : Int) else if a = b then 0 else 1) < 0) = false := by
      rw [if_neg hab]; split <;> rfl
    rw [hcond]
    simp only [Bool.false_eq_true, if_false]
    have hy0 : y.length ≠ 0 := fun e => by have := ny.len0.1 e; omega
    by_cases h1 : y.length = 1
    · obtain ⟨d, rfl⟩ := List.length_eq_one_iff.1 h1
      have hd := ny.1.1 d (by simp)
      have hbd : b = d := by rw [← ny.2]; simp [valB]
      subst hbd
      obtain ⟨q, r, s1, s2, s3, s4, s5⟩ := nshort_ok (K := K) (x := x) (a := a) (d := b) (by omega) hK nx (by omega)
      refine ⟨q, r, ?_, s2, s3⟩
      have e0 : idx [b] 0 = some b := rfl
      rw [if_pos (by simp), e0, bsome, s1, bsome]
    · rw [if_neg (by simp; omega)]
      obtain ⟨yr, d, hyd⟩ := last_split y (by rintro rfl; exact hy0 rfl)
      have hd := ny.1.1 d (by rw [hyd]; simp)
      have hidx : idx y (kwrap .i64 ((y.length : Int) - 1)) = some d := by
        rw [k64 (by omega) (by omega), idxI (by omega) (by omega)]
        congr 1
        subst hyd
        rw [show ((((yr ++ [d]).length : Nat) : Int) - 1).toNat = yr.length by simp, List.getD_eq_getElem?_getD]
        simp
      have hby1 : 1 ≤ 1000000000 / (d + 1) := by
        rw [Int.le_ediv_iff_mul_le (by omega)]; omega
      have hby2 : 1000000000 / (d + 1) ≤ 1000000000 := Int.ediv_le_self _ (by omega)
      have hd1 : d ≠ 0 := fun e => ny.1.2 (by rw [hyd, e]; simp)
      have hby3 : 1000000000 / (d + 1) < 1000000000 := Int.ediv_lt_of_lt_mul (by omega) (by omega)
      rw [hidx, bsome, u64w (a := d) (by omega) (by omega), ku64 (a := d + 1) (by omega) (by omega), if_pos (by omega), tdivI (by omega), ku64 (by omega) (by omega), lta]
      rw [u32w (by omega) (by omega)]
      generalize 1000000000 / (d + 1) = c at hby1 hby2 hby3
      have nc : NumN c [c] := .one (by omega) hby3
      obtain ⟨u0, m1, m2, m3⟩ := nmul_ok (K := K) (x := x) (y := [c]) (by simp; omega) hK nx nc
      obtain ⟨v, w1, w2, w3⟩ := nmul_ok (K := K) (x := y) (y := [c]) (by simp; omega) hK ny nc
      simp only [List.length_singleton] at m3 w3
      have ac : a ≤ a * c := by have := mul_le a0 hby1; omega
      have bc : b ≤ b * c := by have := mul_le (show 0 ≤ b by omega) hby1; omega
      have abc : b * c ≤ a * c := Int.mul_le_mul_of_nonneg_right (by omega) (by omega)
      have lx := len_mono nx m2 ac
      have ly := len_mono ny w2 bc
      have hy2 : 2 ≤ y.length := by omega
      have hv2 : 2 ≤ v.length := by omega
      have lv := len_mono w2 m2 abc
      have hl0 : g_nat_N_Div_l0 K x K (u0 ++ [0]) = some (u0 ++ [0]) := by
        obtain ⟨k, rfl⟩ : ∃ k, K = k + 1 := ⟨K - 1, by omega⟩
        rw [g_nat_N_Div_l0]
        have e : decide (((u0 ++ [0]).length : Int) ≤ (x.length : Int)) = false := decide_eq_false (by simp; omega)
        rw [e]; rfl
      have du : DigB 1000000000 (u0 ++ [0]) := m2.1.1.snoc (by omega)
      have hvu : valB 1000000000 (u0 ++ [0]) = a * c := by rw [valB_snoc, m2.2]; omega
      have hlen : (u0 ++ [(0 : Int)]).length = u0.length + 1 := by simp
      obtain ⟨J, hJ⟩ : ∃ J, J + v.length = u0.length + 1 := ⟨u0.length + 1 - v.length, by omega⟩
      have hbound : a * c < 1000000000 ^ J * (b * c) := by
        have b1 := valB_lt (B := 1000000000) (by omega) u0 m2.1.1
        have b2 := can_ge (B := 1000000000) (by omega) w2.1 (by intro e; rw [e] at hv2; simp at hv2)
        rw [m2.2] at b1
        rw [w2.2] at b2
        have pJ : (0 : Int) < 1000000000 ^ J := Int.pow_pos (by omega)
        have b3 := mul_le (Int.le_of_lt pJ) b2
        rw [← Int.pow_add, show J + (v.length - 1) = u0.length by omega] at b3
        omega
      obtain ⟨⟨o, w⟩, l1, l2, l3, l4, l5, l6, l7⟩ := div_loop (K := K) (u := u0 ++ [0]) (v := v) (J := J) (by omega) (by omega) (by omega) (by omega) hK du w2.1 (by rw [hvu, w2.2]; exact hbound)
      dsimp only at l2 l3 l4 l5 l6 l7
      rw [hvu, w2.2] at l6
      rw [w2.2] at l7
      have o0 := valB_nonneg (B := 1000000000) (by omega) o l4
      have w0 := valB_nonneg (B := 1000000000) (by omega) w l5
      have hbc0 : 0 < b * c := Int.mul_pos hb (by omega)
      obtain ⟨q1, q2⟩ := div_mod_of (n := a * c) (d := b * c) (q := valB 1000000000 o) (r := valB 1000000000 w) hbc0 (by rw [Int.mul_comm (b * c)]; omega) w0 l7
      obtain ⟨k1, k2⟩ := kf2 (a := a) (b := b) (c := c) (by omega) hb
      rw [k1] at q1
      rw [k2] at q2
      obtain ⟨t, t1, t2, t3, t4⟩ := trim_ok (K := K) (B := 1000000000) (l := w) (by omega) hK l5
      obtain ⟨z, z1, z2, z3, z4⟩ := trim_ok (K := K) (B := 1000000000) (l := o) (by omega) hK l4
      obtain ⟨rq, rr, s1, s2, s3, s4, s5⟩ := nshort_ok (K := K) (x := t) (a := a % b * c) (d := c) (by omega) hK ⟨t2, by rw [t3]; exact q2⟩ (by omega)
      rw [Int.mul_ediv_cancel _ (by omega)] at s2
      refine ⟨z, rq, ?_, ⟨z2, by rw [z3]; exact q1⟩, s2⟩
      rw [m1, bsome, if_pos (by simp; omega), w1, bsome, hl0, bsome, tu1a, lta, hlen]
      have e1 : (((u0.length + 1 : Nat) : Int) - (v.length : Int)) = (J : Int) := by omega
      rw [e1, k64 (by omega) (by omega), if_pos (by omega), lta, k64 (by omega) (by omega), Int.toNat_natCast, l1, bsome, tu2a, t1, bsome, s1, bsome, z1, bsome]
/-! ### The greatest common divisor -/
theorem gcd_step (a b : Nat) (hb : 0 < b) : Nat.gcd b (a % b) = Nat.gcd a b := by
  rw [Nat.gcd_comm a b, Nat.gcd_rec b a, Nat.gcd_comm]
theorem ngcd_loop : ∀ (n k : Nat) {x y : List Int} {a b : Nat}, a * b < 2 ^ n → b ≤ a → n + 2 < k → x.length ≤ 3000000 → y.length ≤ 3000000 → 2000000000 < K → NumN a x → NumN b y → ∃ z, g_nat_N_Gcd_l0 K k x y = some z ∧ NumN (Nat.gcd a b : Nat) z := by
  intro n
  induction n with
  | zero =>
    intro k x y a b hab hba hk hx hy hK nx ny
    have hb : b = 0 := by
      rcases Nat.eq_zero_or_pos b with h | h
      · exact h
      · have := Nat.mul_pos (show 0 < a by omega) h; omega
    subst hb
    obtain ⟨k, rfl⟩ : ∃ m, k = m + 1 := ⟨k - 1, by omega⟩
    have : y = [] := ny.nil_iff.2 rfl
    subst this
    exact ⟨x, by rw [g_nat_N_Gcd_l0]; rfl, by rw [Nat.gcd_zero_right]; exact nx⟩
  | succ n ih =>
    intro k x y a b hab hba hk hx hy hK nx ny
    obtain ⟨k, rfl⟩ : ∃ m, k = m + 1 := ⟨k - 1, by omega⟩
    by_cases hb : b = 0
    · subst hb
      have : y = [] := ny.nil_iff.2 rfl
      subst this
      exact ⟨x, by rw [g_nat_N_Gcd_l0]; rfl, by rw [Nat.gcd_zero_right]; exact nx⟩
    · obtain ⟨q, r, d1, d2, d3, d4, d5⟩ := ndiv_ok (K := K) hx hy hK nx ny (by omega)
      have e : ((a : Int) % (b : Int)) = ((a % b : Nat) : Int) := by simp
      rw [e] at d3
      have hr := Nat.mod_lt a (show 0 < b by omega)
      have hprod : b * (a % b) < 2 ^ n := by
        have h1 : b + a % b ≤ a := by
          have h2 := Nat.div_add_mod a b
          have h3 : 1 ≤ a / b := (Nat.le_div_iff_mul_le (by omega)).2 (by omega)
          have h4 := Nat.mul_le_mul_left b h3
          omega
        have h5 := Nat.mul_le_mul_left b (show 2 * (a % b) ≤ a by omega)
        rw [Nat.pow_succ] at hab
        have h6 : b * (2 * (a % b)) = 2 * (b * (a % b)) := by grind
        rw [Nat.mul_comm a b] at hab
        omega
      obtain ⟨z, z1, z2⟩ := ih k hprod (by omega) (by omega) hy (by omega) hK ny d3
      refine ⟨z, ?_, by rw [← gcd_step a b (by omega)]; exact z2⟩
      have hy0 : y.length ≠ 0 := fun e => by have := ny.len0.1 e; omega
      rw [g_nat_N_Gcd_l0, if_pos (decide_eq_true (by omega)), d1, bsome, z1]
theorem num_lt_pow {n : Nat} {x : List Int} (h : NumN n x) : n < 2 ^ (30 * x.length) := by
  have h1 := valB_lt (B := 1000000000) (by omega) x h.1.1
  rw [h.2] at h1
  have h2 : ((1000000000 : Nat) : Int) ^ x.length = ((1000000000 ^ x.length : Nat) : Int) := by simp
  have h3 : n < 1000000000 ^ x.length := by
    have h4 : (1000000000 : Int) = ((1000000000 : Nat) : Int) := rfl
    rw [h4, h2] at h1
    omega
  have h5 : (1000000000 : Nat) ^ x.length ≤ (2 ^ 30) ^ x.length := Nat.pow_le_pow_left (by decide) _
  rw [← Nat.pow_mul] at h5
  omega
theorem ngcd_ok {x y : List Int} {a b : Nat} (hx : x.length ≤ 3000000) (hy : y.length ≤ 3000000) (hK : 2000000000 < K) (nx : NumN a x) (ny : NumN b y) : ∃ z, g_nat_N_Gcd K x y = some z ∧ NumN (Nat.gcd a b : Nat) z := by
  have hp : a * b < 2 ^ (30 * x.length + 30 * y.length) := by
    rw [Nat.pow_add]
    have h1 := num_lt_pow nx
    have h2 := num_lt_pow ny
    exact Nat.mul_lt_mul_of_lt_of_le h1 (Nat.le_of_lt h2) (Nat.pow_pos (by omega))
  have key : ∃ z, g_nat_N_Gcd_l0 K K x y = some z ∧ NumN (Nat.gcd a b : Nat) z := by
    by_cases hba : b ≤ a
    · exact ngcd_loop _ K hp hba (by omega) hx hy hK nx ny
    · obtain ⟨k, hk⟩ : ∃ k, K = k + 1 := ⟨K - 1, by omega⟩
      obtain ⟨q, r, d1, d2, d3, d4, d5⟩ := ndiv_ok (K := K) hx hy hK nx ny (by omega)
      rw [Int.emod_eq_of_lt (by omega) (by omega)] at d3
      have hrx : r = x := d3.inj nx
      subst hrx
      obtain ⟨z, z1, z2⟩ := ngcd_loop (K := K) _ k (by rw [Nat.mul_comm]; exact hp) (by omega) (by omega) hy hx hK ny nx
      refine ⟨z, ?_, by rw [Nat.gcd_comm]; exact z2⟩
      have hy0 : y.length ≠ 0 := fun e => by have := ny.len0.1 e; omega
      have : g_nat_N_Gcd_l0 K K r y = g_nat_N_Gcd_l0 K (k + 1) r y := by rw [← hk]
      rw [this, g_nat_N_Gcd_l0, if_pos (decide_eq_true (by omega)), d1, bsome, z1]
  obtain ⟨z, z1, z2⟩ := key
  exact ⟨z, by unfold g_nat_N_Gcd; rw [z1]; rfl, z2⟩
end Go.Am.Tryz
/- Plain law: the reference's quotient and divisor of texts. -/
namespace Go.Am.Tryz
open Go Go.Am Go.Proofs
set_option linter.unusedSimpArgs false
set_option linter.unusedVariables false
variable {K : Nat}
theorem encode_dig {c : Int} (h : 48 ≤ c ∧ c ≤ 57) : bytesOf (Utf8.encode c) = [c] ∧ (Utf8.encode c).size = 1 := by
  obtain ⟨n, rfl⟩ : ∃ n : Nat, c = n := ⟨c.toNat, by omega⟩
  have hn : n = 48 ∨ n = 49 ∨ n = 50 ∨ n = 51 ∨ n = 52 ∨ n = 53 ∨ n = 54 ∨ n = 55 ∨ n = 56 ∨ n = 57 := by omega
  rcases hn with rfl | rfl | rfl | rfl | rfl | rfl | rfl | rfl | rfl | rfl <;> exact ⟨by decide +kernel, by decide +kernel⟩
theorem ks1 {R b d R0 : Int} (h : R + (d - 48) * b = R0) : R - b + (d + 1 - 48) * b = R0 := by grind
theorem rdiv_in {b : ByteArray} {r0 : ByteArray} (hb : b.size ≤ 500000) (hr : r0.size ≤ 1000000) (hK : 2000000000 < K) (cb : CanT b) (c0 : CanT r0) (hb0 : 0 < numT b) (hlt : numT r0 < 10 * numT b) :
    ∃ r : ByteArray × Int, g_R_NatDiv_l2 K b K r0 48 = some r ∧ CanT r.1 ∧ (48 ≤ r.2 ∧ r.2 ≤ 57) ∧ numT r.1 + (r.2 - 48) * numT b = numT r0 ∧ numT r.1 < numT b := by
  refine loopW (fun k (s : ByteArray × Int) => g_R_NatDiv_l2 K b k s.1 s.2) (fun s => CanT s.1 ∧ s.1.size ≤ 1000000 ∧ (48 ≤ s.2 ∧ s.2 ≤ 57) ∧ numT s.1 + (s.2 - 48) * numT b = numT r0) (fun s => (57 - s.2).toNat) _ ?_ ((r0, 48) : ByteArray × Int) (by dsimp only; omega) ⟨c0, hr, by dsimp only; omega, by dsimp only; omega⟩
  rintro k ⟨r, d⟩ ⟨h1, h2, h3, h4⟩
  dsimp only at h1 h2 h3 h4 ⊢
  have hcmp := cmp_ref (K := K) h1 cb
  have r0' := numT_nonneg h1.2.1
  by_cases hge : numT b ≤ numT r
  · right
    obtain ⟨t, t1, t2, t3⟩ := sub_ref (K := K) (a := r) (b := b) h2 (canT_size h1 cb hge) (by have := h1.1; omega) (by omega) h1.2.1 cb.2.1 hge
    have hd : d ≤ 56 := by
      refine Int.not_lt.1 fun hlt2 => ?_
      have : d = 57 := by omega
      subst this
      omega
    refine ⟨(t, d + 1), ?_, by dsimp only; omega, t2, ?_, by dsimp only; omega, by dsimp only; rw [t3]; exact ks1 h4⟩
    · rw [g_R_NatDiv_l2, hcmp, bsome]
      rw [if_pos (decide_eq_true (by rw [if_neg (by omega)]; split <;> omega)), t1, bsome, ku8 (by omega) (by omega)]
    · dsimp only
      have := canT_size h1 t2 (by rw [t3]; omega)
      omega
  · left
    refine ⟨(r, d), ?_, h1, h3, h4, by dsimp only; omega⟩
    rw [g_R_NatDiv_l2, hcmp, bsome]
    have e : decide ((if numT r < numT b then (-1 : Int) else if numT r = numT b then 0 else 1) ≥ 0) = false := by
      rw [if_pos (by omega)]; rfl
    rw [e]; rfl
theorem ks3 {Q b R R2 A c d : Int} (h : Q * b + R = A) (h2 : R2 + d * b = R * 10 + c) : (Q * 10 + d) * b + R2 = A * 10 + c := by grind
theorem rdiv_loop {a b r0 : ByteArray} {f : Nat} (ha : a.size ≤ 500000) (hb : b.size ≤ 500000) (hK : 2000000000 < K) (da : (bytesOf a).all digT = true) (cb : CanT b) (hb0 : 0 < numT b) (hf : f ≤ a.size) (c0 : CanT r0) (hs0 : r0.size ≤ 500000) (h0 : numT r0 = numB ((bytesOf a).take f)) (hlt : numT r0 < numT b) :
    ∃ r : ByteArray × ByteArray, g_R_NatDiv_l0 K a b K ⟨#[48]⟩ r0 f = some r ∧ r.1.size ≤ a.size + 1 ∧ 0 < r.1.size ∧ (bytesOf r.1).all digT = true ∧ CanT r.2 ∧ numT r.1 * numT b + numT r.2 = numT a ∧ numT r.2 < numT b := by
  have hn := bytesOf_length a
  refine loopW (fun k (s : ByteArray × ByteArray × Int) => g_R_NatDiv_l0 K a b k s.1 s.2.1 s.2.2) (fun s => ∃ i : Nat, s.2.2 = i ∧ i ≤ a.size ∧ 0 < s.1.size ∧ s.1.size ≤ i + 1 ∧ (bytesOf s.1).all digT = true ∧ CanT s.2.1 ∧ numT s.1 * numT b + numT s.2.1 = numB ((bytesOf a).take i) ∧ numT s.2.1 < numT b ∧ s.2.1.size ≤ 500000) (fun s => (a.size - s.2.2 : Int).toNat) _ ?_ ((⟨#[48]⟩, r0, (f : Int)) : ByteArray × ByteArray × Int) (by dsimp only; omega) ⟨f, rfl, hf, by show 0 < 1; omega, by show 1 ≤ f + 1; omega, rfl, c0, by rw [← h0]; show numT ⟨#[48]⟩ * numT b + numT r0 = numT r0; rw [numT_zero]; omega, hlt, hs0⟩
  rintro k ⟨q, r, _⟩ ⟨i, rfl, h1, h2, h3, h4, h5, h6, h7, h8⟩
  dsimp only at h2 h3 h4 h5 h6 h7 h8 ⊢
  by_cases hi : i < a.size
  · right
    have hc := getD_digT da (i := i) (by omega)
    have hsn := take_snoc (l := bytesOf a) (i := i) (by omega)
    generalize hcc : (bytesOf a).getD i 0 = c at hc hsn
    obtain ⟨e, he1, he2, he3⟩ : ∃ e, ssl a i ((i : Int) + 1) = some e ∧ bytesOf e = [c] ∧ e.size = 1 := by
      refine ⟨_, sslI (by omega) (by omega) (by omega), ?_, ?_⟩
      · rw [bytesOf_extract, Int.toNat_natCast, show ((i : Int) + 1).toNat - i = 1 by omega, List.drop_eq_getElem_cons (by omega), List.take_succ_cons, List.take_zero]
        rw [List.getD_eq_getElem?_getD, List.getElem?_eq_getElem (by omega)] at hcc
        simpa using hcc
      · rw [← bytesOf_length, bytesOf_extract, List.length_take, List.length_drop]; omega
    have hbr : bytesOf (r ++ e) = bytesOf r ++ [c] := by rw [bytesOf_append, he2]
    have hdr : (bytesOf (r ++ e)).all digT = true := by rw [hbr, List.all_append, h5.2.1]; simpa using digT_iff.2 hc
    have hsr : (r ++ e).size = r.size + 1 := by rw [← bytesOf_length, hbr, List.length_append, bytesOf_length]; rfl
    obtain ⟨t, t1, t2, t3⟩ := strip_ref (K := K) (s := r ++ e) (by omega) (by omega) (by omega) hdr
    have hnr : numT (r ++ e) = numT r * 10 + (c - 48) := by rw [numT_B, hbr, numB_snoc]; rfl
    have htl : numT t < 10 * numT b := by rw [t3, hnr]; omega
    have hts : t.size ≤ 1000000 := by
      have := canT_size (b := t) (a := t) t2 t2 (Int.le_refl _)
      refine Nat.not_lt.1 fun hlt2 => ?_
      have g1 := canT_ge t2 (by omega)
      have g2 := numT_lt hdr
      have g3 : (10 : Int) ^ (r ++ e).size ≤ 10 ^ (t.size - 1) := ipow_le (by omega) (by omega)
      omega
    obtain ⟨⟨r2, d⟩, s1, s2, s3, s4, s5⟩ := rdiv_in (K := K) (b := b) (r0 := t) hb hts hK cb t2 hb0 htl
    dsimp only at s2 s3 s4 s5
    obtain ⟨n1, n2⟩ := encode_dig s3
    have hbq : bytesOf (q ++ Utf8.encode d) = bytesOf q ++ [d] := by rw [bytesOf_append, n1]
    have hsq : (q ++ Utf8.encode d).size = q.size + 1 := by rw [← bytesOf_length, hbq, List.length_append, bytesOf_length]; rfl
    have hr2s : r2.size ≤ 500000 := by
      have := canT_size cb s2 (by omega)
      omega
    refine ⟨(q ++ Utf8.encode d, r2, (i : Int) + 1), ?_, by dsimp only; omega, i + 1, rfl, by omega, by dsimp only; omega, by dsimp only; omega, ?_, s2, ?_, s5, hr2s⟩
    · rw [g_R_NatDiv_l0, if_pos (decide_eq_true (by omega)), k64 (by omega) (by omega), he1, bsome, if_pos (by omega), t1, bsome, s1, bsome, tu2a, if_pos (by dsimp only; omega)]
    · dsimp only; rw [hbq, List.all_append, h4]; simpa using digT_iff.2 s3
    · dsimp only
      rw [hsn, numB_snoc, numT_B (q ++ Utf8.encode d), hbq, numB_snoc]
      refine ks3 h6 ?_
      rw [s4, t3, hnr]
  · left
    have : i = a.size := by omega
    subst this
    rw [List.take_of_length_le (by omega)] at h6
    exact ⟨(q, r), by rw [g_R_NatDiv_l0]; simp (discharger := omega) only [decide_eq_true_eq, if_pos, if_neg, if_true, if_false, bsome, beq_iff, bne_iff, idxI, bidxI, sslI, lslI, k64, ku64, ku32, ku8, i64w, u64w, u32w, u8w, tdivI, tmodI, tu0a, tu1a, tu2a, tu3a, tu4a, tu5a, lta, bindSl, bindSr, outSl, outSr, Int.toNat_natCast, List.length_cons, List.length_nil, List.length_set, Int.toNat_zero, List.replicate_zero], h3, h2, h4, h5, h6, h7⟩
theorem div_ref {a b : ByteArray} (ha : a.size ≤ 400000) (hb : b.size ≤ 400000) (hK : 2000000000 < K) (ca : CanT a) (cb : CanT b) (hb0 : 0 < numT b) :
    ∃ q r, g_R_NatDiv K a b = some (q, r) ∧ CanT q ∧ CanT r ∧ numT q = numT a / numT b ∧ numT r = numT a % numT b := by
  have hn := bytesOf_length a
  have hcb := cb.1
  obtain ⟨f, hf1, hf2, hf3⟩ : ∃ f : Nat, imin (a.size : Int) (kwrap .i64 ((b.size : Int) - 1)) = f ∧ f ≤ a.size ∧ f ≤ b.size - 1 := by
    rw [k64 (by omega) (by omega)]
    unfold imin
    by_cases h : (b.size : Int) - 1 < a.size
    · exact ⟨b.size - 1, by rw [if_pos h]; omega, by omega, by omega⟩
    · exact ⟨a.size, by rw [if_neg h], by omega, by omega⟩
  have hx : ssl a 0 (f : Int) = some (a.extract 0 f) := by rw [sslI (by omega) (by omega) (by omega)]; rfl
  have hxb : bytesOf (a.extract 0 f) = (bytesOf a).take f := by rw [bytesOf_extract]; simp
  have hxs : (a.extract 0 f).size = f := by rw [← bytesOf_length, hxb, List.length_take]; omega
  have hzb : bytesOf ((⟨#[48]⟩ : ByteArray) ++ a.extract 0 f) = 48 :: (bytesOf a).take f := by rw [bytesOf_append, hxb]; rfl
  have hzs : ((⟨#[48]⟩ : ByteArray) ++ a.extract 0 f).size = f + 1 := by rw [← bytesOf_length, hzb, List.length_cons, List.length_take]; omega
  have hzd : (bytesOf ((⟨#[48]⟩ : ByteArray) ++ a.extract 0 f)).all digT = true := by rw [hzb, List.all_cons, all_take ca.2.1]; rfl
  obtain ⟨t, t1, t2, t3⟩ := strip_ref (K := K) (s := (⟨#[48]⟩ : ByteArray) ++ a.extract 0 f) (by omega) (by omega) (by omega) hzd
  have hv : numT t = numB ((bytesOf a).take f) := by rw [t3, numT_B, hzb, numB_cons]; simp
  have hlt : numT t < numT b := by
    have d1 := numB_lt (all_take ca.2.1 f)
    rw [List.length_take, Nat.min_eq_left (by omega)] at d1
    rw [hv]
    by_cases h2 : 2 ≤ b.size
    · have d2 := canT_ge cb h2
      have d3 : (10 : Int) ^ f ≤ 10 ^ (b.size - 1) := ipow_le (by omega) hf3
      omega
    · have : f = 0 := by omega
      subst this
      rw [List.take_zero, numB_nil]; exact hb0
  have hts : t.size ≤ 500000 := by
    have := canT_size cb t2 (by omega)
    omega
  obtain ⟨⟨q, r⟩, s1, s2, s3, s4, s5, s6, s7⟩ := rdiv_loop (K := K) (a := a) (b := b) (r0 := t) (f := f) (by omega) (by omega) hK ca.2.1 cb hb0 hf2 t2 hts hv hlt
  dsimp only at s2 s3 s4 s5 s6 s7
  obtain ⟨u, u1, u2, u3⟩ := strip_ref (K := K) (s := q) (by omega) s3 (by omega) s4
  obtain ⟨e1, e2⟩ := div_mod_of (n := numT a) (d := numT b) (q := numT q) (r := numT r) hb0 (by rw [Int.mul_comm]; omega) (numT_nonneg s5.2.1) s7
  refine ⟨u, r, ?_, u2, s5, by rw [u3, e1], e2⟩
  unfold g_R_NatDiv
  rw [hf1, hx, bsome, if_pos (by rw [hxs]; show 1 + f ≤ _; omega), t1, bsome, s1, bsome, tu2a, u1, bsome]
theorem rgcd_loop : ∀ (n k : Nat) {x y : ByteArray} {a b : Nat}, a * b < 2 ^ n → b ≤ a → n + 2 < k → x.size ≤ 400000 → y.size ≤ 400000 → 2000000000 < K → CanT x → CanT y → numT x = a → numT y = b → ∃ z, g_R_NatGcd_l0 K k x y = some z ∧ CanT z ∧ numT z = (Nat.gcd a b : Nat) := by
  intro n
  have hend : ∀ (k : Nat) {x y : ByteArray} {a : Nat}, 0 < k → CanT x → CanT y → numT x = a → numT y = (0 : Nat) → ∃ z, g_R_NatGcd_l0 K k x y = some z ∧ CanT z ∧ numT z = (Nat.gcd a 0 : Nat) := by
    intro k x y a hk cx cy nx ny
    obtain ⟨k, rfl⟩ : ∃ m, k = m + 1 := ⟨k - 1, by omega⟩
    have : y = ⟨#[48]⟩ := (canT_eq0 cy).1 (by simpa using ny)
    subst this
    have e : sEq (⟨#[48]⟩ : ByteArray) ⟨#[48]⟩ = true := sEq_iff.2 rfl
    exact ⟨x, by rw [g_R_NatGcd_l0, e]; rfl, cx, by rw [Nat.gcd_zero_right]; exact nx⟩
  induction n with
  | zero =>
    intro k x y a b hab hba hk hx hy hK cx cy nx ny
    have hb : b = 0 := by
      rcases Nat.eq_zero_or_pos b with h | h
      · exact h
      · have := Nat.mul_pos (show 0 < a by omega) h; omega
    subst hb
    exact hend k (by omega) cx cy nx ny
  | succ n ih =>
    intro k x y a b hab hba hk hx hy hK cx cy nx ny
    by_cases hb : b = 0
    · subst hb; exact hend k (by omega) cx cy nx ny
    · obtain ⟨k, rfl⟩ : ∃ m, k = m + 1 := ⟨k - 1, by omega⟩
      obtain ⟨q, r, d1, d2, d3, d4, d5⟩ := div_ref (K := K) hx hy hK cx cy (by omega)
      rw [nx, ny] at d5
      have e : ((a : Int) % (b : Int)) = ((a % b : Nat) : Int) := by simp
      rw [e] at d5
      have hr := Nat.mod_lt a (show 0 < b by omega)
      have hprod : b * (a % b) < 2 ^ n := by
        have h1 : b + a % b ≤ a := by
          have h2 := Nat.div_add_mod a b
          have h3 : 1 ≤ a / b := (Nat.le_div_iff_mul_le (by omega)).2 (by omega)
          have h4 := Nat.mul_le_mul_left b h3
          omega
        have h5 := Nat.mul_le_mul_left b (show 2 * (a % b) ≤ a by omega)
        rw [Nat.pow_succ] at hab
        have h6 : b * (2 * (a % b)) = 2 * (b * (a % b)) := by grind
        rw [Nat.mul_comm a b] at hab
        omega
      have hrs := canT_size cy d3 (by rw [ny, d5]; omega)
      obtain ⟨z, z1, z2, z3⟩ := ih k hprod (by omega) (by omega) hy (by omega) hK cy d3 ny d5
      refine ⟨z, ?_, z2, by rw [← gcd_step a b (by omega)]; exact z3⟩
      have e0 : sEq y ⟨#[48]⟩ = false := by
        cases e : sEq y ⟨#[48]⟩ with
        | false => rfl
        | true => rw [sEq_iff] at e; subst e; rw [numT_zero] at ny; omega
      rw [g_R_NatGcd_l0, e0]
      simp only [Bool.not_false, if_true]
      rw [d1, bsome, z1]
theorem canT_lt_pow {n : Nat} {x : ByteArray} (h : (bytesOf x).all digT = true) (hn : numT x = n) : n < 2 ^ (4 * x.size) := by
  have h1 := numT_lt h
  rw [hn] at h1
  have h2 : ((10 : Nat) : Int) ^ x.size = ((10 ^ x.size : Nat) : Int) := by simp
  have h3 : n < 10 ^ x.size := by
    have h4 : (10 : Int) = ((10 : Nat) : Int) := rfl
    rw [h4, h2] at h1
    omega
  have h5 : (10 : Nat) ^ x.size ≤ (2 ^ 4) ^ x.size := Nat.pow_le_pow_left (by decide) _
  rw [← Nat.pow_mul] at h5
  omega
theorem gcd_ref {x y : ByteArray} {a b : Nat} (hx : x.size ≤ 400000) (hy : y.size ≤ 400000) (hK : 2000000000 < K) (cx : CanT x) (cy : CanT y) (nx : numT x = a) (ny : numT y = b) : ∃ z, g_R_NatGcd K x y = some z ∧ CanT z ∧ numT z = (Nat.gcd a b : Nat) := by
  have hp : a * b < 2 ^ (4 * x.size + 4 * y.size) := by
    rw [Nat.pow_add]
    exact Nat.mul_lt_mul_of_lt_of_le (canT_lt_pow cx.2.1 nx) (Nat.le_of_lt (canT_lt_pow cy.2.1 ny)) (Nat.pow_pos (by omega))
  have key : ∃ z, g_R_NatGcd_l0 K K x y = some z ∧ CanT z ∧ numT z = (Nat.gcd a b : Nat) := by
    by_cases hba : b ≤ a
    · exact rgcd_loop _ K hp hba (by omega) hx hy hK cx cy nx ny
    · obtain ⟨k, hk⟩ : ∃ k, K = k + 1 := ⟨K - 1, by omega⟩
      obtain ⟨q, r, d1, d2, d3, d4, d5⟩ := div_ref (K := K) hx hy hK cx cy (by omega)
      rw [Int.emod_eq_of_lt (numT_nonneg cx.2.1) (by omega)] at d5
      have hrx : r = x := numT_inj d3 cx d5
      subst hrx
      obtain ⟨z, z1, z2, z3⟩ := rgcd_loop (K := K) _ k (by rw [Nat.mul_comm]; exact hp) (by omega) (by omega) hy hx hK cy cx ny nx
      refine ⟨z, ?_, z2, by rw [Nat.gcd_comm]; exact z3⟩
      have e0 : sEq y ⟨#[48]⟩ = false := by
        cases e : sEq y ⟨#[48]⟩ with
        | false => rfl
        | true => rw [sEq_iff] at e; subst e; rw [numT_zero] at ny; omega
      have : g_R_NatGcd_l0 K K r y = g_R_NatGcd_l0 K (k + 1) r y := by rw [← hk]
      rw [this, g_R_NatGcd_l0, e0]
      simp only [Bool.not_false, if_true]
      rw [d1, bsome, z1]
  obtain ⟨z, z1, z2⟩ := key
  exact ⟨z, by unfold g_R_NatGcd; rw [z1]; rfl, z2⟩
end Go.Am.Tryz
/- Plain law: a number's error. -/
namespace Go.Am.Tryz
open Go Go.Am Go.Proofs
set_option linter.unusedSimpArgs false
set_option linter.unusedVariables false
set_option maxRecDepth 100000
variable {K : Nat} {s : ByteArray}
def digB (c : Int) : Bool := decide (48 ≤ c) && decide (c ≤ 57)
theorem runS_dig : ∀ (l : List Int), runS (fun c (_ : Unit) => if digB c then .inr () else .inl (5 : Int)) l () = if l.all digB then .inr () else .inl 5
  | [] => rfl
  | x :: l => by
    simp only [runS, List.all_cons]
    by_cases hp : digB x = true
    · simp only [hp, if_true, Bool.true_and, Sum.elim_inr]; exact runS_dig l
    · simp [hp]
theorem dig_if {α : Type} (c : Int) (A B : Option α) : Option.bind (if (decide (c < 48)) = true then some true else some (decide (c > 57))) (tu1 fun x => if x = true then A else B) = if digB c = true then B else A := by
  unfold digB
  by_cases h1 : c < 48 <;> by_cases h2 : c > 57 <;> simp [h1, h2, tu1, show ¬ (48 : Int) ≤ c ↔ c < 48 by omega] <;> (try split) <;> (try omega) <;> rfl
theorem digits_prog (hs : s.size ≤ 1048576) (hK : s.size < K) : g_nat_Check_l0 K s K 0 = some (if (bytesOf s).all digB then .inr () else .inl 5) := by
  have hn := bytesOf_length s
  have h : g_nat_Check_l0 K s K 0 = _ := loop_sum0 (bytesOf s) (fun k (_ : Unit) i => g_nat_Check_l0 K s k i) (fun c (_ : Unit) => if digB c then .inr () else .inl (5 : Int)) (fun _ _ => True)
    (fun k _ i x hx _ => by
      have hi := (List.getElem?_eq_some_iff.1 hx).1
      show g_nat_Check_l0 K s (k + 1) i = _
      rw [g_nat_Check_l0, lt_nat hi, if_pos rfl, idx_nat hx]
      simp only [Option.bind_some, dig_if, kw1 hi (by omega)]
      cases digB x <;> simp)
    (fun _ _ _ _ _ _ _ => trivial)
    (fun k _ i hi => by
      show g_nat_Check_l0 K s (k + 1) i = _
      rw [g_nat_Check_l0, nlt_nat hi]; simp) K () (by omega) trivial
  rw [h, runS_dig]
theorem digits_ref (hs : s.size ≤ 1048576) (hK : s.size < K) : g_R_NatError_l0 K s K 0 = some (if (bytesOf s).all digB then .inr () else .inl 5) := by
  have hn := bytesOf_length s
  have h : g_R_NatError_l0 K s K 0 = _ := loop_sum0 (bytesOf s) (fun k (_ : Unit) i => g_R_NatError_l0 K s k i) (fun c (_ : Unit) => if digB c then .inr () else .inl (5 : Int)) (fun _ _ => True)
    (fun k _ i x hx _ => by
      have hi := (List.getElem?_eq_some_iff.1 hx).1
      show g_R_NatError_l0 K s (k + 1) i = _
      rw [g_R_NatError_l0, ← hn, lt_nat hi, if_pos rfl, bidx_eq, idx_nat hx]
      simp only [Option.bind_some, dig_if, kw1 hi (by omega)]
      cases digB x <;> simp)
    (fun _ _ _ _ _ _ _ => trivial)
    (fun k _ i hi => by
      show g_R_NatError_l0 K s (k + 1) i = _
      rw [g_R_NatError_l0, ← hn, nlt_nat hi]; simp) K () (by omega) trivial
  rw [h, runS_dig]
def natE (s : ByteArray) : Int := if s.size = 0 then 5 else if (bytesOf s).head? = some 48 ∧ s.size > 1 then 5 else if !(bytesOf s).all digB then 5 else if s.size > 2000 then 2 else 0
theorem sEq_nil : sEq s ⟨#[]⟩ = (s.size == 0) := by
  cases hq : sEq s ⟨#[]⟩ with
  | true => rw [sEq_iff] at hq; subst hq; rfl
  | false =>
    have : s.size ≠ 0 := fun h => by
      have : s = ⟨#[]⟩ := by
        cases s with
        | mk d => congr 1; exact Array.eq_empty_of_size_eq_zero h
      rw [sEq_iff.2 this] at hq; cases hq
    simp [this]
theorem first_at (h : s.size ≠ 0) : ∃ c, bidx s 0 = some c ∧ (bytesOf s).head? = some c := by
  have hn := bytesOf_length s
  cases hb : bytesOf s with
  | nil => rw [hb] at hn; simp at hn; omega
  | cons c l => exact ⟨c, by rw [bidx_eq, hb]; rfl, rfl⟩
theorem check_prog (hs : s.size ≤ 1048576) (hK : s.size < K) : g_nat_Check K s = some (natE s) := by
  unfold g_nat_Check natE
  rw [digits_prog hs hK, sEq_nil]
  by_cases h0 : s.size = 0
  · simp [h0, tu1]
  · obtain ⟨c, h1, h2⟩ := first_at h0
    rw [h1, h2]
    have h0' : (s.size == 0) = false := by simpa using h0
    by_cases hc : c = 48 <;> by_cases h3 : s.size > 1 <;> by_cases h4 : s.size > 2000 <;> cases h5 : (bytesOf s).all digB <;>
      simp [h0, h0', hc, h3, h4, h5, tu1, tu0, bindS, show ((s.size : Int) > 1) ↔ s.size > 1 by omega, show ((s.size : Int) > 2000) ↔ s.size > 2000 by omega] <;> omega
theorem error_ref (hs : s.size ≤ 1048576) (hK : s.size < K) : g_R_NatError K s = some (natE s) := by
  unfold g_R_NatError natE
  rw [digits_ref hs hK]
  by_cases h0 : s.size = 0
  · simp [h0, tu1]
  · obtain ⟨c, h1, h2⟩ := first_at h0
    rw [h1, h2]
    have h0' : ((s.size : Int) == 0) = false := by rw [beq_eq_false_iff_ne]; omega
    by_cases hc : c = 48 <;> by_cases h3 : s.size > 1 <;> by_cases h4 : s.size > 2000 <;> cases h5 : (bytesOf s).all digB <;>
      simp [h0, h0', hc, h3, h4, h5, tu1, tu0, bindS, show ((s.size : Int) > 1) ↔ s.size > 1 by omega, show ((s.size : Int) > 2000) ↔ s.size > 2000 by omega] <;> omega
/-- The error of a number is none: it is a canonical text of at most 2000 digits. -/
theorem digB_eq : digB = digT := rfl
theorem natE_ok (s : ByteArray) : natE s = 0 ↔ CanT s ∧ s.size ≤ 2000 := by
  unfold natE CanT
  rw [digB_eq]
  by_cases h0 : s.size = 0
  · simp [h0]
  · by_cases h1 : (bytesOf s).head? = some 48 ∧ s.size > 1
    · rw [if_neg h0, if_pos h1]
      constructor
      · intro h; cases h
      · rintro ⟨⟨_, _, h⟩, _⟩; have := h h1.1; omega
    · rw [if_neg h0, if_neg h1]
      cases h2 : (bytesOf s).all digT with
      | false => simp
      | true =>
        simp only [Bool.not_true, Bool.false_eq_true, if_false]
        by_cases h3 : s.size > 2000
        · rw [if_pos h3]; constructor
          · intro h; cases h
          · rintro ⟨_, h⟩; omega
        · rw [if_neg h3]
          exact ⟨fun _ => ⟨⟨h0, trivial, fun e => by
            refine Nat.le_antisymm (Nat.not_lt.1 fun h => h1 ⟨e, h⟩) (by omega)⟩, by omega⟩, fun _ => rfl⟩
theorem sEq_self (s : ByteArray) : sEq s s = true := sEq_iff.2 rfl
end Go.Am.Tryz
/- Plain law: lists of texts; one. -/
namespace Go.Am.Tryz
open Go Go.Am Go.Proofs
set_option linter.unusedSimpArgs false
set_option linter.unusedVariables false
set_option maxRecDepth 100000
variable {K : Nat}
theorem contains_str {l : List ByteArray} {F : ByteArray → Option Bool} {p : ByteArray → Bool} (hl : l.length ≤ 1048576) (hK : 2000000000 < K) (hp : ∀ x ∈ l, F x = some (p x)) : g_slices_ContainsFunc_string_string K l F = some (l.any p) := by
  have key : ∃ r : Int ⊕ Unit, g_slices_IndexFunc_string_string_l0 K l F K 0 = some r ∧ ((r = .inr () ∧ l.any p = false) ∨ ∃ i : Int, 0 ≤ i ∧ r = .inl i ∧ l.any p = true) := by
    refine loopW (fun k (s : Int) => g_slices_IndexFunc_string_string_l0 K l F k s) (fun s => ∃ i : Nat, s = i ∧ i ≤ l.length ∧ (l.take i).any p = false) (fun s => (l.length - s : Int).toNat) _ ?_ (0 : Int) (by omega) ⟨0, rfl, by omega, by simp⟩
    rintro k _ ⟨i, rfl, h0, h1⟩
    by_cases hi : i < l.length
    · have hx : idx l (i : Int) = some l[i] := idx_nat (List.getElem?_eq_getElem hi)
      have hpi := hp l[i] (List.getElem_mem hi)
      have hsn : l.take (i + 1) = l.take i ++ [l[i]] := by rw [List.take_add_one, List.getElem?_eq_getElem hi]; rfl
      cases hc : p l[i] with
      | true =>
        left
        refine ⟨.inl i, ?_, .inr ⟨i, by omega, rfl, List.any_eq_true.2 ⟨l[i], List.getElem_mem hi, hc⟩⟩⟩
        rw [g_slices_IndexFunc_string_string_l0, if_pos (decide_eq_true (by omega)), hx, bsome, hpi, bsome, hc, if_pos rfl]
      | false =>
        right
        refine ⟨(i : Int) + 1, ?_, by omega, i + 1, rfl, by omega, by rw [hsn, List.any_append, h1]; simp [hc]⟩
        rw [g_slices_IndexFunc_string_string_l0, if_pos (decide_eq_true (by omega)), hx, bsome, hpi, bsome, hc, if_neg (by simp), k64 (by omega) (by omega)]
    · left
      have : i = l.length := by omega
      subst this
      rw [List.take_of_length_le (Nat.le_refl _)] at h1
      refine ⟨.inr (), ?_, .inl ⟨rfl, h1⟩⟩
      rw [g_slices_IndexFunc_string_string_l0, if_neg (by simp)]
  obtain ⟨r, h1, h2⟩ := key
  unfold g_slices_ContainsFunc_string_string g_slices_IndexFunc_string_string
  rw [h1]
  rcases h2 with ⟨rfl, h3⟩ | ⟨i, h4, rfl, h3⟩
  · rw [h3]; rfl
  · rw [h3, bindSl, tu1a, bsome, decide_eq_true (by omega)]
theorem sEq_f {s t : ByteArray} (h : s ≠ t) : sEq s t = false := by
  cases e : sEq s t with
  | false => rfl
  | true => exact absurd (sEq_iff.1 e) h
/-! ### Powers -/
theorem one_num (hK : 2000000000 < K) : g_nat_Of K 1 = some [1] := by
  obtain ⟨k, rfl⟩ : ∃ k, K = k + 2 := ⟨K - 2, by omega⟩
  unfold g_nat_Of
  have e1 : decide ((1 : Int) > 0) = true := rfl
  have e2 : IntKind.wrap .u32 (Int.tmod 1 1000000000) = 1 := rfl
  have e3 : kwrap .i64 (Int.tdiv 1 1000000000) = 0 := rfl
  have e4 : decide ((0 : Int) > 0) = false := rfl
  rw [g_nat_Of_l0, e1, if_pos rfl, e2, e3, if_pos (by decide), g_nat_Of_l0, e4]
  rfl
end Go.Am.Tryz
/- Plain lemmas: rational numbers, their signs, parts and sizes. -/
namespace Go.Am
set_option linter.unusedSimpArgs false
set_option linter.unusedVariables false
/-- A sign and a size. -/
def sgn (neg : Bool) (n : Nat) : Int := if neg then -(n : Int) else n
theorem sgn_abs (neg : Bool) (n : Nat) : (sgn neg n).natAbs = n := by unfold sgn; split <;> omega
theorem sgn_num (x : Rat) : sgn (decide (x.num < 0)) x.num.natAbs = x.num := by unfold sgn; by_cases h : x.num < 0 <;> simp [h] <;> omega
theorem mk_num (neg : Bool) (n d : Nat) (hd : d ≠ 0) : (mkRat (sgn neg n) d).num.natAbs = n / Nat.gcd n d := by
  rw [Rat.num_mkRat, if_neg hd, sgn_abs, Nat.gcd_comm]
  unfold sgn
  cases neg with
  | false => simp; rfl
  | true =>
    simp only [if_true]
    have h : (Nat.gcd n d : Int) ∣ (n : Int) := Int.natCast_dvd_natCast.2 (Nat.gcd_dvd_left n d)
    rw [Int.neg_ediv_of_dvd h, Int.natAbs_neg]
    rfl
theorem mk_den (neg : Bool) (n d : Nat) (hd : d ≠ 0) : (mkRat (sgn neg n) d).den = d / Nat.gcd n d := by
  rw [Rat.den_mkRat, if_neg hd, sgn_abs, Nat.gcd_comm]
theorem mk_neg (neg : Bool) (n d : Nat) (hd : d ≠ 0) (hn : n ≠ 0) : decide ((mkRat (sgn neg n) d).num < 0) = neg := by
  have h0 : n / Nat.gcd n d ≠ 0 := by
    have := Nat.gcd_pos_of_pos_left d (show 0 < n by omega)
    have h2 := Nat.le_of_dvd (by omega) (Nat.gcd_dvd_left n d)
    have := Nat.div_pos h2 this
    omega
  rw [Rat.num_mkRat, if_neg hd, sgn_abs, Nat.gcd_comm]
  have h : (Nat.gcd n d : Int) ∣ (n : Int) := Int.natCast_dvd_natCast.2 (Nat.gcd_dvd_left n d)
  obtain ⟨q, hq, hq0⟩ : ∃ q : Nat, (n : Int) / (Nat.gcd n d : Int) = (q : Int) ∧ q ≠ 0 := ⟨n / Nat.gcd n d, by simp, h0⟩
  unfold sgn
  cases neg with
  | false => simp only [Bool.false_eq_true, if_false, hq]; exact decide_eq_false (by omega)
  | true => simp only [if_true]; rw [Int.neg_ediv_of_dvd h, hq]; exact decide_eq_true (by omega)
theorem rat_mul (x y : Rat) : x * y = mkRat (sgn (decide (x.num < 0) != decide (y.num < 0)) (x.num.natAbs * y.num.natAbs)) (x.den * y.den) := by
  rw [Rat.mul_def']
  congr 1
  conv => lhs; rw [← sgn_num x, ← sgn_num y]
  generalize x.num.natAbs = a
  generalize y.num.natAbs = b
  unfold sgn
  cases decide (x.num < 0) <;> cases decide (y.num < 0) <;> simp [Int.mul_neg, Int.neg_mul]
/-! ### Sizes -/
/-- A number's numerator and denominator have at most N digits. -/
def Dl (x : Rat) (N : Nat) : Prop := x.num.natAbs < 10 ^ N ∧ x.den < 10 ^ N
theorem Dl.mono {x : Rat} {N M : Nat} (h : Dl x N) (hN : N ≤ M) : Dl x M := ⟨Nat.lt_of_lt_of_le h.1 (Nat.pow_le_pow_right (by omega) hN), Nat.lt_of_lt_of_le h.2 (Nat.pow_le_pow_right (by omega) hN)⟩
theorem Dl.mk (neg : Bool) {n d N : Nat} (hd : d ≠ 0) (hn : n < 10 ^ N) (hd2 : d < 10 ^ N) : Dl (mkRat (sgn neg n) d) N := by
  refine ⟨?_, ?_⟩
  · rw [mk_num neg n d hd]; exact Nat.lt_of_le_of_lt (Nat.div_le_self _ _) hn
  · rw [mk_den neg n d hd]; exact Nat.lt_of_le_of_lt (Nat.div_le_self _ _) hd2
theorem mul_lt_pow {a b N M : Nat} (h : a < 10 ^ N) (k : b < 10 ^ M) : a * b < 10 ^ (N + M) := by
  rw [Nat.pow_add]
  exact Nat.mul_lt_mul_of_lt_of_le h (Nat.le_of_lt k) (Nat.pow_pos (by omega))
theorem Dl.mul {x y : Rat} {N M : Nat} (h : Dl x N) (k : Dl y M) : Dl (x * y) (N + M) := by
  rw [rat_mul]
  exact .mk _ (Nat.mul_ne_zero x.den_nz y.den_nz) (mul_lt_pow h.1 k.1) (mul_lt_pow h.2 k.2)
theorem Dl.zero : Dl 0 1 := ⟨by decide, by decide⟩
theorem Dl.one : Dl 1 1 := ⟨by decide, by decide⟩
theorem int_sgn (a : Int) : a = sgn (decide (a < 0)) a.natAbs := by unfold sgn; by_cases h : a < 0 <;> simp [h] <;> omega
theorem Dl.add {x y : Rat} {N M : Nat} (h : Dl x N) (k : Dl y M) : Dl (x + y) (N + M + 1) := by
  rw [Rat.add_def']
  rw [int_sgn (x.num * y.den + y.num * x.den)]
  have h1 := mul_lt_pow h.1 k.2
  have h2 := mul_lt_pow k.1 h.2
  have h3 : (x.num * (y.den : Int) + y.num * (x.den : Int)).natAbs ≤ x.num.natAbs * y.den + y.num.natAbs * x.den := by
    refine Nat.le_trans (Int.natAbs_add_le _ _) ?_
    rw [Int.natAbs_mul, Int.natAbs_mul]; simp
  rw [Nat.add_comm M N] at h2
  refine .mk _ (Nat.mul_ne_zero x.den_nz y.den_nz) ?_ ?_
  · rw [Nat.pow_succ]; omega
  · have := mul_lt_pow h.2 k.2
    rw [Nat.pow_succ]; omega
theorem Dl.neg {x : Rat} {N : Nat} (h : Dl x N) : Dl (-x) N := ⟨by rw [Rat.neg_num, Int.natAbs_neg]; exact h.1, by rw [Rat.neg_den]; exact h.2⟩
theorem Dl.sub {x y : Rat} {N M : Nat} (h : Dl x N) (k : Dl y M) : Dl (x - y) (N + M + 1) := by
  rw [Rat.sub_eq_add_neg]; exact h.add k.neg
theorem Dl.pos {x : Rat} {N : Nat} (h : Dl x N) : 1 ≤ N := by
  refine Nat.not_lt.1 fun hlt => ?_
  have : N = 0 := by omega
  subst this
  have := h.2
  have := x.den_pos
  simp at *; omega
end Go.Am
/- Plain law: the parts of a rational number's text; its error. -/
namespace Go.Am.Tryz
open Go Go.Am Go.Proofs
set_option linter.unusedSimpArgs false
set_option linter.unusedVariables false
variable {K : Nat}
/-- The parts of a text: a sign, what stands ahead of the first stroke, what stands behind it. -/
structure Sp (s : ByteArray) (neg : Bool) (n : ByteArray) (many : Bool) (d : ByteArray) : Prop where
  eq : bytesOf s = (if neg then [45] else []) ++ (bytesOf n ++ (if many then 47 :: bytesOf d else []))
  no : 47 ∉ bytesOf n
  hd : neg = false → (bytesOf s).head? ≠ some 45
theorem split_uniq {x : Int} : ∀ {l1 l2 r1 r2 : List Int}, l1 ++ r1 = l2 ++ r2 → x ∉ l1 → x ∉ l2 → (r1 = [] ∨ r1.head? = some x) → (r2 = [] ∨ r2.head? = some x) → l1 = l2 ∧ r1 = r2
  | [], [], _, _, h, _, _, _, _ => ⟨rfl, by simpa using h⟩
  | [], b :: l2, r1, r2, h, _, h2, h3, _ => by
    simp only [List.nil_append, List.cons_append] at h
    subst h
    simp at h3
    subst h3
    simp at h2
  | a :: l1, [], r1, r2, h, h1, _, _, h4 => by
    simp only [List.nil_append, List.cons_append] at h
    subst h
    simp at h4
    subst h4
    simp at h1
  | a :: l1, b :: l2, r1, r2, h, h1, h2, h3, h4 => by
    simp only [List.cons_append, List.cons.injEq] at h
    obtain ⟨rfl, h⟩ := h
    obtain ⟨e1, e2⟩ := split_uniq h (fun hx => h1 (by simp [hx])) (fun hx => h2 (by simp [hx])) h3 h4
    exact ⟨by rw [e1], e2⟩
theorem Sp.uniq {s n d n' d' : ByteArray} {neg neg' many many' : Bool} (h : Sp s neg n many d) (k : Sp s neg' n' many' d') : neg = neg' ∧ n = n' ∧ many = many' ∧ (many = true → d = d') := by
  have e1 : neg = neg' := by
    cases neg <;> cases neg'
    · rfl
    · have := h.hd rfl; rw [k.eq] at this; simp at this
    · have := k.hd rfl; rw [h.eq] at this; simp at this
    · rfl
  subst e1
  have e2 := List.append_cancel_left (h.eq.symm.trans k.eq)
  obtain ⟨e3, e4⟩ := split_uniq e2 h.no k.no (by cases many <;> simp) (by cases many' <;> simp)
  refine ⟨rfl, bytesOf_inj e3, ?_⟩
  cases many <;> cases many'
  · exact ⟨rfl, fun h => by cases h⟩
  · simp at e4
  · simp at e4
  · simp at e4; exact ⟨rfl, fun _ => bytesOf_inj e4⟩
theorem Sp.size {s n d : ByteArray} {neg many : Bool} (h : Sp s neg n many d) : n.size ≤ s.size ∧ (many = true → d.size ≤ s.size) := by
  have := congrArg List.length h.eq
  simp only [List.length_append, bytesOf_length] at this
  refine ⟨by omega, fun hm => ?_⟩
  subst hm
  simp only [if_true, List.length_cons, bytesOf_length] at this
  omega
theorem extract_bytes (s : ByteArray) {i j : Nat} (h : i ≤ j) (hj : j ≤ s.size) : bytesOf (s.extract i j) = ((bytesOf s).drop i).take (j - i) ∧ (s.extract i j).size = j - i := by
  have h1 := bytesOf_extract s i j
  refine ⟨h1, ?_⟩
  rw [← bytesOf_length, h1, List.length_take, List.length_drop, bytesOf_length]; omega
theorem cutPrefix_ok (K : Nat) (s : ByteArray) : ∃ s1 neg, g_strings_CutPrefix K s ⟨#[45]⟩ = some (s1, neg) ∧ bytesOf s = (if neg then [45] else []) ++ bytesOf s1 ∧ (neg = false → (bytesOf s).head? ≠ some 45) ∧ s1.size ≤ s.size := by
  unfold g_strings_CutPrefix g_internal_stringslite_CutPrefix g_internal_stringslite_HasPrefix
  have hn := bytesOf_length s
  have e1 : ((⟨#[45]⟩ : ByteArray).size : Int) = 1 := rfl
  rw [e1]
  by_cases h0 : s.size = 0
  · have hb : bytesOf s = [] := List.length_eq_zero_iff.1 (by omega)
    refine ⟨s, false, ?_, by simp, fun _ => by rw [hb]; simp, Nat.le_refl _⟩
    rw [h0]
    rfl
  · obtain ⟨c, l, hc⟩ : ∃ c l, bytesOf s = c :: l := by
      cases hb : bytesOf s with
      | nil => rw [hb] at hn; simp at hn; omega
      | cons c l => exact ⟨c, l, rfl⟩
    have hx : ssl s 0 1 = some (s.extract 0 1) := by rw [sslI (by omega) (by omega) (by omega)]; rfl
    have hxb : bytesOf (s.extract 0 1) = [c] := by rw [(extract_bytes s (by omega) (by omega)).1, hc]; rfl
    rw [decide_eq_true (by omega), if_pos rfl, hx, bsome, bsome, tu1a, bsome]
    by_cases h45 : c = 45
    · have he : sEq (s.extract 0 1) ⟨#[45]⟩ = true := sEq_iff.2 (bytesOf_inj (by rw [hxb, h45]; rfl))
      obtain ⟨t, t1, t2, t3⟩ := ssl_tail hc
      refine ⟨t, true, ?_, by rw [hc, t2, h45]; rfl, fun h => by (cases h), by rw [hc] at hn; simp at hn; omega⟩
      rw [he]
      simp only [Bool.not_true, Bool.false_eq_true, if_false]
      rw [t1, bsome, bsome]
    · have he : sEq (s.extract 0 1) ⟨#[45]⟩ = false := sEq_f (fun e => by
        have := congrArg bytesOf e
        rw [hxb] at this
        have e2 : bytesOf (⟨#[45]⟩ : ByteArray) = [45] := rfl
        rw [e2] at this
        simp at this; exact h45 this)
      refine ⟨s, false, ?_, by simp, fun _ => by rw [hc]; simpa using h45, Nat.le_refl _⟩
      rw [he]
      rfl
theorem indexByte_spec (c : UInt8) : ∀ (l : List UInt8), (Lib.indexByte l c = -1 ∧ c ∉ l) ∨ ∃ i : Nat, Lib.indexByte l c = i ∧ i < l.length ∧ l[i]? = some c ∧ c ∉ l.take i
  | [] => .inl ⟨rfl, by simp⟩
  | b :: l => by
    rw [Lib.indexByte]
    by_cases hb : b = c
    · subst hb; exact .inr ⟨0, by simp, by simp, by simp, by simp⟩
    · have hb' : (b == c) = false := by simpa using hb
      rw [hb']
      rcases indexByte_spec c l with ⟨h1, h2⟩ | ⟨i, h1, h2, h3, h4⟩
      · refine .inl ⟨by rw [h1]; rfl, ?_⟩
        simp only [List.mem_cons, not_or]
        exact ⟨fun e => hb e.symm, h2⟩
      · refine .inr ⟨i + 1, ?_, by simp; omega, by simpa using h3, ?_⟩
        · rw [h1]
          have : ((i : Int) == -1) = false := by rw [beq_eq_false_iff_ne]; omega
          rw [this]
          simp
        · rw [List.take_succ_cons]
          simp only [List.mem_cons, not_or]
          exact ⟨fun e => hb e.symm, h4⟩
theorem mem_bytes {c : UInt8} {l : List UInt8} (h : ((c.toNat : Nat) : Int) ∈ l.map (fun b => (b.toNat : Int))) : c ∈ l := by
  rw [List.mem_map] at h
  obtain ⟨b, hb, he⟩ := h
  have : b = c := UInt8.toNat_inj.1 (by omega)
  subst this; exact hb
theorem cut_ok {s : ByteArray} (hs : s.size ≤ 1048576) : ∃ n d many, g_strings_Cut K s ⟨#[47]⟩ = some (n, d, many) ∧ bytesOf s = bytesOf n ++ (if many then 47 :: bytesOf d else []) ∧ 47 ∉ bytesOf n ∧ (many = false → d = ⟨#[]⟩) := by
  have hn := bytesOf_length s
  have hx : g_internal_stringslite_Index K s ⟨#[47]⟩ = some (Lib.indexByte s.data.toList 47) := by
    unfold g_internal_stringslite_Index g_internal_stringslite_IndexByte
    have e1 : (((⟨#[47]⟩ : ByteArray).size : Int) == 0) = false := rfl
    have e2 : (((⟨#[47]⟩ : ByteArray).size : Int) == 1) = true := rfl
    have e3 : bidx (⟨#[47]⟩ : ByteArray) 0 = some 47 := rfl
    rw [e1, e2, e3]
    simp only [Bool.false_eq_true, if_false, bsome, tu1a, if_true]
    by_cases he : sEq ⟨#[47]⟩ s = true
    · rw [he, if_pos rfl]
      rw [sEq_iff] at he
      subst he
      rfl
    · rw [if_neg he]
      rfl
  unfold g_strings_Cut g_internal_stringslite_Cut
  rw [hx, bsome]
  rcases indexByte_spec 47 s.data.toList with ⟨h1, h2⟩ | ⟨i, h1, h2, h3, h4⟩
  · refine ⟨s, ⟨#[]⟩, false, by rw [h1]; rfl, by simp, fun h => h2 (mem_bytes h), fun _ => rfl⟩
  · rw [Array.length_toList] at h2
    have h2' : i < s.size := h2
    have ea := extract_bytes s (i := 0) (j := i) (by omega) (by omega)
    have eb := extract_bytes s (i := i + 1) (j := s.size) (by omega) (by omega)
    refine ⟨s.extract 0 i, s.extract (i + 1) s.size, true, ?_, ?_, ?_, fun h => by cases h⟩
    · have e1 : ((⟨#[47]⟩ : ByteArray).size : Int) = 1 := rfl
      have t0 : Int.toNat 0 = 0 := rfl
      have t1 : ((i : Int) + 1).toNat = i + 1 := by omega
      rw [h1, if_pos (decide_eq_true (by omega)), sslI (by omega) (by omega) (by omega), bsome, e1, k64 (by omega) (by omega), sslI (by omega) (by omega) (by omega), bsome, bsome, t1]
      rfl
    · rw [ea.1, eb.1]
      have h5 : (bytesOf s)[i]? = some 47 := by unfold bytesOf; rw [List.getElem?_map, h3]; rfl
      have h6 : i < (bytesOf s).length := by omega
      rw [List.getElem?_eq_getElem h6] at h5
      simp only [if_true, List.drop_zero, Nat.sub_zero]
      rw [List.take_of_length_le (l := (bytesOf s).drop (i + 1)) (by rw [List.length_drop]; omega)]
      conv => lhs; rw [← List.take_append_drop i (bytesOf s), List.drop_eq_getElem_cons h6]
      rw [Option.some.inj h5]
    · rw [ea.1, List.drop_zero, Nat.sub_zero]
      intro h
      unfold bytesOf at h
      rw [← List.map_take] at h
      exact h4 (mem_bytes h)
/-- Every text has parts. -/
theorem parts_of (K : Nat) {s : ByteArray} (hs : s.size ≤ 1048576) : ∃ s1 neg n d many, g_strings_CutPrefix K s ⟨#[45]⟩ = some (s1, neg) ∧ g_strings_Cut K s1 ⟨#[47]⟩ = some (n, d, many) ∧ Sp s neg n many d ∧ bytesOf s = (if neg then [45] else []) ++ bytesOf s1 ∧ (many = false → d = ⟨#[]⟩) := by
  obtain ⟨s1, neg, h1, h2, h3, h4⟩ := cutPrefix_ok K s
  obtain ⟨n, d, many, c1, c2, c3, c4⟩ := cut_ok (K := K) (s := s1) (by omega)
  exact ⟨s1, neg, n, d, many, h1, c1, ⟨by rw [h2, c2], c3, h3⟩, h2, c4⟩
/-- The error of a rational number's text, by its parts. -/
def ratS (neg : Bool) (n : ByteArray) (many : Bool) (d : ByteArray) : Int :=
  if natE n = 5 ∨ (many = true ∧ natE d = 5) ∨ (neg = true ∧ n = ⟨#[48]⟩) then 5 else if natE n ≠ 0 ∨ (many = true ∧ natE d ≠ 0) then 2 else
  if many = true ∧ (d = ⟨#[48]⟩ ∨ d = ⟨#[49]⟩ ∨ Nat.gcd (numT n).toNat (numT d).toNat ≠ 1) then 3 else 0
theorem sEq_dec (a b : ByteArray) : sEq a b = decide (a = b) := by
  by_cases h : a = b
  · rw [decide_eq_true h]; exact sEq_iff.2 h
  · rw [decide_eq_false h]; exact sEq_f h
theorem cmp1_ne (G : Nat) : ((if (G : Int) < 1 then (-1 : Int) else if (G : Int) = 1 then 0 else 1) != 0) = decide (G ≠ 1) := by
  by_cases hG : G = 1
  · subst hG; rfl
  · rw [decide_eq_true hG]
    by_cases h0 : (G : Int) < 1
    · rw [if_pos h0]; rfl
    · rw [if_neg h0, if_neg (by omega)]; rfl
theorem natE48 : natE ⟨#[48]⟩ = 0 := (natE_ok _).2 ⟨canT_zero, by decide⟩
theorem check_rat {s n d : ByteArray} {neg many : Bool} (hs : s.size ≤ 1048576) (hK : 2000000000 < K) (h : Sp s neg n many d) : g_rat_Check K s = some (ratS neg n many d) := by
  obtain ⟨s1, neg', n', d', many', c1, c2, c3, c4, c5⟩ := parts_of K hs
  obtain ⟨rfl, rfl, rfl, hd⟩ := h.uniq c3
  have hsz := h.size
  unfold g_rat_Check ratS
  rw [c1, bsome, c2, bsome]
  dsimp only
  rw [check_prog (by omega) (by omega), bsome]
  cases many with
  | false =>
    simp only [Bool.false_eq_true, if_false, bsome, tu1a, false_and, false_or, or_false]
    by_cases e5 : natE n = 5
    · simp [e5, bsome, tu1a]
    · have e5' : (natE n == 5) = false := by rw [beq_eq_false_iff_ne]; exact e5
      have e05 : ((0 : Int) == 5) = false := rfl
      rw [e5', e05]
      cases neg <;> by_cases e0 : natE n = 0 <;> by_cases en : n = ⟨#[48]⟩ <;> simp [e0, e5, en, sEq_dec, bsome, tu1a, natE48]
  | true =>
    have hdd := hd rfl
    subst hdd
    simp only [if_true, true_and]
    rw [check_prog (by have := hsz.2 rfl; omega) (by have := hsz.2 rfl; omega)]
    simp only [bsome, tu1a]
    by_cases e5 : natE n = 5
    · simp [e5, bsome, tu1a]
    · have e5' : (natE n == 5) = false := by rw [beq_eq_false_iff_ne]; exact e5
      by_cases f5 : natE d = 5
      · simp [e5, f5, bsome, tu1a]
      · have f5' : (natE d == 5) = false := by rw [beq_eq_false_iff_ne]; exact f5
        have hneg : (if neg = true then some (sEq n (⟨#[48]⟩ : ByteArray)) else some false) = some (decide (neg = true ∧ n = ⟨#[48]⟩)) := by
          cases neg <;> simp [sEq_dec]
        rw [e5', f5', hneg]
        simp only [Bool.false_eq_true, if_false, bsome, tu1a, e5, f5, false_or]
        by_cases hz : neg = true ∧ n = ⟨#[48]⟩
        · rw [decide_eq_true hz, if_pos rfl, if_pos hz]
        · rw [decide_eq_false hz, if_neg (by simp), if_neg hz]
          by_cases e0 : natE n = 0
          · by_cases f0 : natE d = 0
            · obtain ⟨cn, ln⟩ := (natE_ok n).1 e0
              obtain ⟨cd, ld⟩ := (natE_ok d).1 f0
              obtain ⟨x, x1, x2, x3⟩ := read_ok (K := K) (s := n) (by omega) hK cn.2.1
              obtain ⟨y, y1, y2, y3⟩ := read_ok (K := K) (s := d) (by omega) hK cd.2.1
              have nn := numT_nonneg cn.2.1
              have nd := numT_nonneg cd.2.1
              obtain ⟨g, g1, g2⟩ := ngcd_ok (K := K) (x := x) (y := y) (a := (numT n).toNat) (b := (numT d).toNat) (by omega) (by omega) hK (by rw [Int.toNat_of_nonneg nn]; exact x2) (by rw [Int.toNat_of_nonneg nd]; exact y2)
              have gl : g.length ≤ 1000000 := by
                by_cases h0 : (numT d).toNat = 0
                · rw [h0, Nat.gcd_zero_right, Int.toNat_of_nonneg nn] at g2
                  rw [g2.inj x2]; omega
                · have := len_mono g2 y2 (by have := Nat.gcd_le_right (n := (numT d).toNat) (numT n).toNat (by omega); omega)
                  omega
              have hc := ncmp_ok (K := K) (x := g) (y := [1]) (by omega) (by simp) hK g2 (.one (by omega) (by omega))
              have hcv : ((if ((Nat.gcd (numT n).toNat (numT d).toNat : Nat) : Int) < 1 then (-1 : Int) else if ((Nat.gcd (numT n).toNat (numT d).toNat : Nat) : Int) = 1 then 0 else 1) != 0) = decide (Nat.gcd (numT n).toNat (numT d).toNat ≠ 1) := by
                exact cmp1_ne _
              rw [e0, f0]
              simp only [bne_self_eq_false, Bool.false_eq_true, if_false, bsome, tu1a, ne_eq, not_true, or_self, x1, y1, g1, one_num hK, hc, hcv, sEq_dec]
              by_cases d0 : d = ⟨#[48]⟩
              · simp [d0, bsome, tu1a]
              · by_cases d1 : d = ⟨#[49]⟩
                · simp [d1, bsome, tu1a]
                · by_cases hG : Nat.gcd (numT n).toNat (numT d).toNat = 1 <;> simp [d0, d1, hG, bsome, tu1a]
            · simp [e0, f0, bsome, tu1a]
          · simp [e0, bsome, tu1a]
end Go.Am.Tryz
/- Plain law: the reference's parts of a rational number's text and its error. -/
namespace Go.Am.Tryz
open Go Go.Am Go.Proofs
set_option linter.unusedSimpArgs false
set_option linter.unusedVariables false
variable {K : Nat}
theorem getD_app_l {l r : List Int} {i : Nat} (h : i < l.length) : (l ++ r).getD i 0 = l.getD i 0 := by
  rw [List.getD_eq_getElem?_getD, List.getElem?_append_left h, List.getD_eq_getElem?_getD]
theorem getD_mem {l : List Int} {i : Nat} (h : i < l.length) : l.getD i 0 ∈ l := by
  rw [List.getD_eq_getElem?_getD, List.getElem?_eq_getElem h]; exact List.getElem_mem h
theorem ext_left {s n : ByteArray} {r : List Int} (h : bytesOf s = bytesOf n ++ r) : s.extract 0 n.size = n := by
  have hl := congrArg List.length h
  rw [List.length_append, bytesOf_length, bytesOf_length] at hl
  apply bytesOf_inj
  rw [(extract_bytes s (by omega) (by omega)).1, h, List.drop_zero, Nat.sub_zero, List.take_append_of_le_length (by rw [bytesOf_length]; omega), List.take_of_length_le (by rw [bytesOf_length]; omega)]
theorem ext_right {s n d : ByteArray} (h : bytesOf s = bytesOf n ++ 47 :: bytesOf d) : s.extract (n.size + 1) s.size = d := by
  have hl := congrArg List.length h
  rw [List.length_append, List.length_cons, bytesOf_length, bytesOf_length, bytesOf_length] at hl
  apply bytesOf_inj
  rw [(extract_bytes s (by omega) (by omega)).1, h, List.drop_append, bytesOf_length]
  rw [List.drop_eq_nil_of_le (by rw [bytesOf_length]; omega), show n.size + 1 - n.size = 1 by omega]
  simp only [List.nil_append, List.drop_succ_cons, List.drop_zero]
  rw [List.take_of_length_le (by rw [bytesOf_length]; omega)]
/-- The text without its sign. -/
theorem tail_sign {s : ByteArray} {neg : Bool} {r : List Int} (h : bytesOf s = (if neg then [45] else []) ++ r) (hd : neg = false → (bytesOf s).head? ≠ some 45) (K : Nat) :
    ∃ s1, (Option.bind ((if (decide ((s.size : Int) > 0)) = true then ((bidx s 0).bind fun x7 => some (x7 == 45)) else some false)) (tu1 fun x11 => ((if x11 = true then ((ssl s 1 (s.size : Int)).bind fun x26 => some (x26, true)) else some (s, false))))) = some (s1, neg) ∧ bytesOf s1 = r ∧ s1.size ≤ s.size := by
  have hn := bytesOf_length s
  cases neg with
  | true =>
    simp only [if_true, List.cons_append, List.nil_append] at h
    obtain ⟨t, t1, t2, t3⟩ := ssl_tail h
    have hb : bidx s 0 = some 45 := by rw [bidx_eq, h]; rfl
    have hs : 0 < s.size := by rw [h] at hn; simp at hn; omega
    refine ⟨t, ?_, t2, by rw [h] at hn; simp at hn; omega⟩
    rw [decide_eq_true (by omega), if_pos rfl, hb, bsome, bsome, tu1a]
    simp only [beq_self_eq_true, if_true, t1, bsome]
  | false =>
    simp only [Bool.false_eq_true, if_false, List.nil_append] at h
    refine ⟨s, ?_, h, Nat.le_refl _⟩
    by_cases h0 : 0 < s.size
    · cases hb : bytesOf s with
      | nil => rw [hb] at hn; simp at hn; omega
      | cons c l =>
        have hc : c ≠ 45 := fun e => hd rfl (by rw [hb, e]; rfl)
        have hx : bidx s 0 = some c := by rw [bidx_eq, hb]; rfl
        have e : (c == 45) = false := by rw [beq_eq_false_iff_ne]; exact hc
        rw [decide_eq_true (by omega), if_pos rfl, hx, bsome, e, bsome, tu1a]
        rfl
    · rw [decide_eq_false (by omega)]
      rfl
theorem raterr_loop {s n d : ByteArray} {many : Bool} (hs : s.size ≤ 1048576) (hK : 2000000000 < K) (h : bytesOf s = bytesOf n ++ (if many then 47 :: bytesOf d else [])) (hno : 47 ∉ bytesOf n) :
    ∃ r : Int × ByteArray × ByteArray, g_R_RatError_l0 K s K 1 s ⟨#[50]⟩ 0 = some r ∧ r = (if many then (2, n, d) else (1, s, ⟨#[50]⟩)) := by
  have hn := bytesOf_length s
  have hln : n.size ≤ s.size := by
    have := congrArg List.length h
    rw [List.length_append, bytesOf_length, bytesOf_length] at this; omega
  have hlt : many = true → n.size < s.size := fun hm => by
    subst hm
    have := congrArg List.length h
    rw [List.length_append, bytesOf_length, bytesOf_length] at this
    simp at this; omega
  refine loopW (fun k (q : Int × ByteArray × ByteArray × Int) => g_R_RatError_l0 K s k q.1 q.2.1 q.2.2.1 q.2.2.2) (fun q => ∃ i : Nat, q.2.2.2 = i ∧ i ≤ s.size ∧ (q.1, q.2.1, q.2.2.1) = (if many = true ∧ n.size < i then (2, n, d) else (1, s, ⟨#[50]⟩))) (fun q => (s.size - q.2.2.2 : Int).toNat) _ ?_ ((1, s, ⟨#[50]⟩, 0) : Int × ByteArray × ByteArray × Int) (by dsimp only; omega) ⟨0, rfl, by omega, by rw [if_neg (by omega)]⟩
  rintro k ⟨m, a, b, _⟩ ⟨i, rfl, h0, h1⟩
  dsimp only at h1 ⊢
  by_cases hi : i < s.size
  · right
    have hb : bidx s i = some ((bytesOf s).getD i 0) := by rw [bidxI (by omega) (by omega), Int.toNat_natCast]
    by_cases c : many = true ∧ n.size < i
    · rw [if_pos c] at h1
      simp only [Prod.mk.injEq] at h1
      obtain ⟨rfl, rfl, rfl⟩ := h1
      refine ⟨(2, a, b, (i : Int) + 1), ?_, by dsimp only; omega, i + 1, rfl, by omega, by rw [if_pos ⟨c.1, by omega⟩]⟩
      rw [g_R_RatError_l0, if_pos (decide_eq_true (by omega)), hb, bsome, k64 (by omega) (by omega)]
      have e : ((2 : Int) == 1) = false := rfl
      rw [e]
      by_cases c2 : (bytesOf s).getD i 0 == 47 <;> simp [c2, bsome, tu1a, tu3a]
    · rw [if_neg c] at h1
      simp only [Prod.mk.injEq] at h1
      obtain ⟨rfl, rfl, rfl⟩ := h1
      by_cases c3 : many = true ∧ i = n.size
      · obtain ⟨hm, rfl⟩ := c3
        subst hm
        simp only [if_true] at h
        have hch : (bytesOf a).getD n.size 0 = 47 := by
          rw [h, List.getD_eq_getElem?_getD, List.getElem?_append_right (by rw [bytesOf_length]; omega), bytesOf_length]
          simp
        refine ⟨(2, n, d, (n.size : Int) + 1), ?_, by dsimp only; omega, n.size + 1, rfl, by omega, by rw [if_pos ⟨rfl, by omega⟩]⟩
        have t0 : Int.toNat 0 = 0 := rfl
        have t1 : ((n.size : Int) + 1).toNat = n.size + 1 := by omega
        rw [g_R_RatError_l0, if_pos (decide_eq_true (by omega)), hb, bsome, hch, k64 (by omega) (by omega), sslI (l := 0) (by omega) (by omega) (by omega), sslI (by omega) (by omega) (by omega), t0, t1, Int.toNat_natCast, Int.toNat_natCast, ext_left h, ext_right h]
        rfl
      · have hin : i < n.size := by
          cases many with
          | true => simp at c c3; omega
          | false =>
            simp only [Bool.false_eq_true, if_false, List.append_nil] at h
            have := congrArg List.length h
            rw [bytesOf_length, bytesOf_length] at this; omega
        have hch : (bytesOf a).getD i 0 ≠ 47 := fun e => by
          rw [h, getD_app_l (by rw [bytesOf_length]; omega)] at e
          exact hno (e ▸ getD_mem (by rw [bytesOf_length]; omega))
        have e : ((bytesOf a).getD i 0 == 47) = false := by rw [beq_eq_false_iff_ne]; exact hch
        refine ⟨(1, a, ⟨#[50]⟩, (i : Int) + 1), ?_, by dsimp only; omega, i + 1, rfl, by omega, by rw [if_neg (by omega)]⟩
        rw [g_R_RatError_l0, if_pos (decide_eq_true (by omega)), hb, bsome, e, k64 (by omega) (by omega)]
        rfl
  · left
    have : i = s.size := by omega
    subst this
    refine ⟨(m, a, b), by rw [g_R_RatError_l0, if_neg (by simp)], ?_⟩
    cases many with
    | true => have := hlt rfl; simp only [true_and, if_pos this] at h1; exact h1
    | false => simpa using h1
theorem error_rat {s n d : ByteArray} {neg many : Bool} (hs : s.size ≤ 1048576) (hK : 2000000000 < K) (h : Sp s neg n many d) : g_R_RatError K s = some (ratS neg n many d) := by
  have hsz := h.size
  obtain ⟨s1, h1, h2, h3⟩ := tail_sign h.eq h.hd K
  obtain ⟨r, r1, rfl⟩ := raterr_loop (K := K) (s := s1) (n := n) (d := d) (many := many) (by omega) hK h2 h.no
  unfold g_R_RatError ratS
  -- the sign
  have hsplit : ∀ {α : Type} (F : ByteArray × Bool → Option α), (Option.bind ((if (decide ((s.size : Int) > 0)) = true then ((bidx s 0).bind fun x7 => some (x7 == 45)) else some false)) (tu1 fun x11 => (Option.bind ((if x11 = true then ((ssl s 1 (s.size : Int)).bind fun x26 => some (x26, true)) else some (s, false))) F))) = F (s1, neg) := by
    intro α F
    have : ∀ (m : Option Bool) (f : Bool → Option (ByteArray × Bool)), (Option.bind m (tu1 fun x => Option.bind (f x) F)) = Option.bind (Option.bind m (tu1 f)) F := by
      intro m f; cases m <;> rfl
    rw [this, h1]; rfl
  rw [hsplit, tu2a, r1, bsome, tu3a]
  cases many with
  | false =>
    have hs1 : s1 = n := bytesOf_inj (by simpa using h2)
    subst hs1
    have e2 : natE ⟨#[50]⟩ = 0 := (natE_ok _).2 ⟨⟨by decide, rfl, fun h => by simp [bytesOf] at h⟩, by decide⟩
    simp only [Bool.false_eq_true, if_false, false_and, false_or, or_false]
    rw [error_ref (by omega) (by omega), error_ref (s := ⟨#[50]⟩) (by decide) (by show 1 < K; omega), bsome, bsome, e2]
    by_cases e5 : natE s1 = 5
    · simp [e5, bsome, tu1a]
    · have e5' : (natE s1 == 5) = false := by rw [beq_eq_false_iff_ne]; exact e5
      have e05 : ((0 : Int) == 5) = false := rfl
      rw [e5', e05]
      cases neg <;> by_cases e0 : natE s1 = 0 <;> by_cases en : s1 = ⟨#[48]⟩ <;> simp [e0, e5, en, sEq_dec, bsome, tu1a, natE48]
  | true =>
    have hd := hsz.2 rfl
    simp only [if_true, true_and]
    rw [error_ref (by omega) (by omega), error_ref (s := d) (by omega) (by omega), bsome, bsome]
    by_cases e5 : natE n = 5
    · simp [e5, bsome, tu1a]
    · have e5' : (natE n == 5) = false := by rw [beq_eq_false_iff_ne]; exact e5
      by_cases f5 : natE d = 5
      · simp [e5, f5, bsome, tu1a]
      · have f5' : (natE d == 5) = false := by rw [beq_eq_false_iff_ne]; exact f5
        have hneg : (if neg = true then some (sEq n (⟨#[48]⟩ : ByteArray)) else some false) = some (decide (neg = true ∧ n = ⟨#[48]⟩)) := by
          cases neg <;> simp [sEq_dec]
        rw [e5', f5', hneg]
        simp only [Bool.false_eq_true, if_false, bsome, tu1a, e5, f5, false_or]
        by_cases hz : neg = true ∧ n = ⟨#[48]⟩
        · rw [decide_eq_true hz, if_pos rfl, if_pos hz]
        · rw [decide_eq_false hz, if_neg (by simp), if_neg hz]
          by_cases e0 : natE n = 0
          · by_cases f0 : natE d = 0
            · obtain ⟨cn, ln⟩ := (natE_ok n).1 e0
              obtain ⟨cd, ld⟩ := (natE_ok d).1 f0
              have nn := numT_nonneg cn.2.1
              have nd := numT_nonneg cd.2.1
              obtain ⟨g, g1, g2, g3⟩ := gcd_ref (K := K) (x := n) (y := d) (a := (numT n).toNat) (b := (numT d).toNat) (by omega) (by omega) hK cn cd (by omega) (by omega)
              have hg : (!(decide (g = ⟨#[49]⟩))) = decide (Nat.gcd (numT n).toNat (numT d).toNat ≠ 1) := by
                by_cases hG : Nat.gcd (numT n).toNat (numT d).toNat = 1
                · have : g = ⟨#[49]⟩ := numT_inj g2 canT_one (by rw [g3, numT_one, hG]; rfl)
                  simp [this, hG]
                · have : g ≠ ⟨#[49]⟩ := fun e => hG (by rw [e, numT_one] at g3; omega)
                  simp [this, hG]
              have e22 : ((2 : Int) == 2) = true := rfl
              rw [e0, f0, e22]
              simp only [bne_self_eq_false, Bool.false_eq_true, if_false, bsome, tu1a, ne_eq, not_true, or_self, g1, hg, sEq_dec, if_true]
              by_cases d0 : d = ⟨#[48]⟩
              · simp [d0, bsome, tu1a]
              · by_cases d1 : d = ⟨#[49]⟩
                · simp [d1, bsome, tu1a]
                · by_cases hG : Nat.gcd (numT n).toNat (numT d).toNat = 1 <;> simp [d0, d1, hG, bsome, tu1a]
            · simp [e0, f0, bsome, tu1a]
          · simp [e0, bsome, tu1a]
theorem parts_loop {s n d : ByteArray} {many : Bool} {x1 : Int} (hs : s.size ≤ 1048576) (hK : 2000000000 < K) (h : bytesOf s = bytesOf n ++ (if many then 47 :: bytesOf d else [])) (hno : 47 ∉ bytesOf n) :
    ∃ r : (Bool × ByteArray × ByteArray) ⊕ Unit, g_R_parts_l0 K x1 s K 0 = some r ∧ r = (if many then .inl (x1 == 45, n, d) else .inr ()) := by
  have hn := bytesOf_length s
  have hln : n.size ≤ s.size := by
    have := congrArg List.length h
    rw [List.length_append, bytesOf_length, bytesOf_length] at this; omega
  refine loopW (fun k (q : Int) => g_R_parts_l0 K x1 s k q) (fun q => ∃ i : Nat, q = i ∧ i ≤ n.size) (fun q => (s.size - q : Int).toNat) _ ?_ (0 : Int) (by omega) ⟨0, rfl, by omega⟩
  rintro k _ ⟨i, rfl, h0⟩
  by_cases hi : i < n.size
  · right
    have hb : bidx s i = some ((bytesOf s).getD i 0) := by rw [bidxI (by omega) (by omega), Int.toNat_natCast]
    have hch : (bytesOf s).getD i 0 ≠ 47 := fun e => by
      rw [h, getD_app_l (by rw [bytesOf_length]; omega)] at e
      exact hno (e ▸ getD_mem (by rw [bytesOf_length]; omega))
    have e : ((bytesOf s).getD i 0 == 47) = false := by rw [beq_eq_false_iff_ne]; exact hch
    refine ⟨(i : Int) + 1, ?_, by omega, i + 1, rfl, by omega⟩
    rw [g_R_parts_l0, if_pos (decide_eq_true (by omega)), hb, bsome, e, k64 (by omega) (by omega)]
    rfl
  · left
    have : i = n.size := by omega
    subst this
    cases many with
    | true =>
      simp only [if_true] at h
      have hlt : n.size < s.size := by
        have := congrArg List.length h
        rw [List.length_append, bytesOf_length, bytesOf_length] at this
        simp at this; omega
      have hb : bidx s n.size = some ((bytesOf s).getD n.size 0) := by rw [bidxI (by omega) (by omega), Int.toNat_natCast]
      have hch : (bytesOf s).getD n.size 0 = 47 := by
        rw [h, List.getD_eq_getElem?_getD, List.getElem?_append_right (by rw [bytesOf_length]; omega), bytesOf_length]
        simp
      have t0 : Int.toNat 0 = 0 := rfl
      have t1 : ((n.size : Int) + 1).toNat = n.size + 1 := by omega
      refine ⟨_, ?_, rfl⟩
      rw [g_R_parts_l0, if_pos (decide_eq_true (by omega)), hb, bsome, hch, k64 (by omega) (by omega), sslI (l := 0) (by omega) (by omega) (by omega), sslI (by omega) (by omega) (by omega), t0, t1, Int.toNat_natCast, Int.toNat_natCast, ext_left h, ext_right h]
      rfl
    | false =>
      simp only [Bool.false_eq_true, if_false, List.append_nil] at h
      have : n.size = s.size := by
        have := congrArg List.length h
        rw [bytesOf_length, bytesOf_length] at this; omega
      exact ⟨.inr (), by rw [g_R_parts_l0, if_neg (by simp; omega)], rfl⟩
theorem parts_rat {s n d : ByteArray} {neg many : Bool} (hs : s.size ≤ 1048576) (h0 : s.size ≠ 0) (hK : 2000000000 < K) (h : Sp s neg n many d) : g_R_parts K s = some (neg, n, if many then d else ⟨#[49]⟩) := by
  have hn := bytesOf_length s
  obtain ⟨c, l, hc⟩ : ∃ c l, bytesOf s = c :: l := by
    cases hb : bytesOf s with
    | nil => rw [hb] at hn; simp at hn; omega
    | cons c l => exact ⟨c, l, rfl⟩
  have hx : bidx s 0 = some c := by rw [bidx_eq, hc]; rfl
  have hneg : (c == 45) = neg := by
    cases neg with
    | true => have := h.eq; rw [hc] at this; simp at this; rw [this.1]; rfl
    | false => have := h.hd rfl; rw [hc] at this; simpa using this
  obtain ⟨s1, e1, e2, e3⟩ : ∃ s1, (if neg = true then ((ssl s 1 (s.size : Int)).bind fun x9 => some x9) else some s) = some s1 ∧ bytesOf s1 = bytesOf n ++ (if many then 47 :: bytesOf d else []) ∧ s1.size ≤ s.size := by
    cases neg with
    | true =>
      have he := h.eq
      simp only [if_true, List.cons_append, List.nil_append] at he
      obtain ⟨t, t1, t2, t3⟩ := ssl_tail he
      exact ⟨t, by rw [if_pos rfl, t1]; rfl, t2, by rw [he] at hn; rw [List.length_cons] at hn; omega⟩
    | false => exact ⟨s, rfl, by simpa using h.eq, Nat.le_refl _⟩
  obtain ⟨r, r1, rfl⟩ := parts_loop (K := K) (s := s1) (n := n) (d := d) (many := many) (x1 := c) (by omega) hK e2 h.no
  unfold g_R_parts
  rw [hx, bsome, hneg, e1, bsome, tu1a, r1]
  cases many with
  | true => simp only [if_true, bindSl, tu3a, hneg]
  | false =>
    have hs1 : s1 = n := bytesOf_inj (by simpa using e2)
    subst hs1
    simp only [Bool.false_eq_true, if_false, bindSr, tu0a]
end Go.Am.Tryz
/- Plain law: the program's rational numbers and their texts. -/
namespace Go.Am.Tryz
open Go Go.Am Go.Proofs
set_option linter.unusedSimpArgs false
set_option linter.unusedVariables false
variable {K : Nat}
/-- A text is the canonical text of a rational number. -/
def RTx (s : ByteArray) (x : Rat) : Prop := ∃ n d, CanT n ∧ CanT d ∧ numT n = (x.num.natAbs : Nat) ∧ numT d = (x.den : Nat) ∧ Sp s (decide (x.num < 0)) n (decide (x.den ≠ 1)) d
theorem RTx.inj {s t : ByteArray} {x : Rat} (h : RTx s x) (k : RTx t x) : s = t := by
  obtain ⟨n, d, h1, h2, h3, h4, h5⟩ := h
  obtain ⟨n', d', k1, k2, k3, k4, k5⟩ := k
  have e1 : n = n' := numT_inj h1 k1 (by rw [h3, k3])
  have e2 : d = d' := numT_inj h2 k2 (by rw [h4, k4])
  subst e1 e2
  exact bytesOf_inj (by rw [h5.eq, k5.eq])
theorem RTx.val {s : ByteArray} {x y : Rat} (h : RTx s x) (k : RTx s y) : x = y := by
  obtain ⟨n, d, h1, h2, h3, h4, h5⟩ := h
  obtain ⟨n', d', k1, k2, k3, k4, k5⟩ := k
  obtain ⟨e1, rfl, e3, e4⟩ := h5.uniq k5
  have e5 : x.num = y.num := by
    rw [← sgn_num x, ← sgn_num y, e1]
    congr 1
    omega
  have e6 : x.den = y.den := by
    by_cases c : x.den ≠ 1
    · have := e4 (decide_eq_true c)
      subst this; omega
    · have c2 : ¬ y.den ≠ 1 := fun c2 => by
        rw [decide_eq_false c, decide_eq_true c2] at e3; cases e3
      omega
  exact Rat.ext e5 e6
/-- The program's number. -/
def QV (a : Q) (x : Rat) : Prop := a.neg = decide (x.num < 0) ∧ NumN (x.num.natAbs : Nat) a.num ∧ (NumN (x.den : Nat) a.den ∨ (a.den = [] ∧ x.den = 1))
theorem ten_le (N : Nat) : (10 : Int) ^ N ≤ 1000000000 ^ N := by
  have g5 : (1000000000 : Int) = 10 ^ 9 := by decide
  rw [g5, ← Int.pow_mul]
  exact ipow_le (by omega) (by omega)
theorem nat_pow_cast (N : Nat) : ((10 ^ N : Nat) : Int) = (10 : Int) ^ N := by simp
theorem num_len {n N : Nat} {l : List Int} (h : NumN n l) (hn : n < 10 ^ N) : l.length ≤ N := by
  refine Nat.not_lt.1 fun hlt => ?_
  have g1 := can_ge (B := 1000000000) (by omega) h.1 (by rintro rfl; simp at hlt)
  rw [h.2] at g1
  have g2 : (1000000000 : Int) ^ N ≤ 1000000000 ^ (l.length - 1) := ipow_le (by omega) (by omega)
  have g3 := ten_le N
  have g4 : (n : Int) < (10 : Int) ^ N := by rw [← nat_pow_cast]; omega
  omega
theorem txt_len {n N : Nat} {t : ByteArray} (h : CanT t) (ht : numT t = n) (hn : n < 10 ^ N) : t.size ≤ N + 1 := by
  refine Nat.not_lt.1 fun hlt => ?_
  have g1 := canT_ge h (by omega)
  have g2 : (10 : Int) ^ N ≤ 10 ^ (t.size - 1) := ipow_le (by omega) (by omega)
  have g4 : (n : Int) < (10 : Int) ^ N := by rw [← nat_pow_cast]; omega
  omega
theorem len_txt {n N : Nat} {t : ByteArray} (h : (bytesOf t).all digT = true) (ht : numT t = n) (hN : t.size ≤ N) : n < 10 ^ N := by
  have g1 := numT_lt h
  have g2 : (10 : Int) ^ t.size ≤ 10 ^ N := ipow_le (by omega) hN
  have g4 : (n : Int) < (10 : Int) ^ N := by omega
  rw [← nat_pow_cast] at g4
  omega
theorem QV.lens {a : Q} {x : Rat} {N : Nat} (h : QV a x) (hx : Dl x N) : a.num.length ≤ N ∧ a.den.length ≤ N := by
  refine ⟨num_len h.2.1 hx.1, ?_⟩
  rcases h.2.2 with h2 | ⟨h2, _⟩
  · exact num_len h2 hx.2
  · rw [h2]; exact Nat.zero_le _
theorem QV.zero : QV ⟨false, [], []⟩ 0 := ⟨rfl, .nil, .inr ⟨rfl, rfl⟩⟩
theorem whole_ok {a : Q} {x : Rat} (h : QV a x) (hK : 2000000000 < K) : ∃ w, g_rat_Q_whole K a = some w ∧ NumN (x.den : Nat) w ∧ w.length ≤ max a.den.length 1 := by
  unfold g_rat_Q_whole
  rcases h.2.2 with h2 | ⟨h2, h3⟩
  · have hp := x.den_pos
    have h0 : a.den.length ≠ 0 := fun e => by have := h2.len0.1 e; omega
    refine ⟨a.den, ?_, h2, by omega⟩
    rw [if_neg (by rw [beq_iff_eq]; omega)]
  · refine ⟨[1], ?_, by rw [h3]; exact .one (by omega) (by omega), by simp; omega⟩
    rw [h2, if_pos (by rfl), one_num hK, bsome]
theorem sgn_add (p : Bool) (X Y : Nat) : sgn p (X + Y) = sgn p X + sgn p Y := by unfold sgn; cases p <;> simp <;> omega
theorem sgn_sub (p q : Bool) (h : p ≠ q) {X Y : Nat} (hXY : Y ≤ X) : sgn p (X - Y) = sgn p X + sgn q Y := by
  unfold sgn; cases p <;> cases q <;> simp at h ⊢ <;> omega
theorem sgn_mul (p : Bool) (a b : Nat) : sgn p (a * b) = sgn p a * b := by unfold sgn; cases p <;> simp [Int.neg_mul]
theorem add_form (x y : Rat) : x + y = mkRat (sgn (decide (x.num < 0)) (x.num.natAbs * y.den) + sgn (decide (y.num < 0)) (y.num.natAbs * x.den)) (x.den * y.den) := by
  rw [sgn_mul, sgn_mul, sgn_num, sgn_num, Rat.add_def']
end Go.Am.Tryz
/- Plain law: texts in and out of the program's rational numbers; the reference's sums and products. -/
namespace Go.Am.Tryz
open Go Go.Am Go.Proofs
set_option linter.unusedSimpArgs false
set_option linter.unusedVariables false
variable {K : Nat}
theorem ten_two {d : ByteArray} (h : CanT d) : d = ⟨#[49]⟩ ↔ numT d = 1 := ⟨fun e => by rw [e, numT_one], fun e => numT_inj h canT_one (by rw [e, numT_one])⟩
theorem one_lt_ten (N : Nat) (h : N ≠ 0) : 1 < 10 ^ N := Nat.one_lt_pow h (by omega)
/-- A text without error is the text of a number. -/
theorem rt_of {s n d : ByteArray} {neg many : Bool} (h : Sp s neg n many d) (h0 : ratS neg n many d = 0) : ∃ x, RTx s x ∧ Dl x 2000 := by
  unfold ratS at h0
  by_cases c1 : natE n = 5 ∨ (many = true ∧ natE d = 5) ∨ (neg = true ∧ n = ⟨#[48]⟩)
  · rw [if_pos c1] at h0; cases h0
  · rw [if_neg c1] at h0
    by_cases c2 : natE n ≠ 0 ∨ (many = true ∧ natE d ≠ 0)
    · rw [if_pos c2] at h0; cases h0
    · rw [if_neg c2] at h0
      by_cases c3 : many = true ∧ (d = ⟨#[48]⟩ ∨ d = ⟨#[49]⟩ ∨ Nat.gcd (numT n).toNat (numT d).toNat ≠ 1)
      · rw [if_pos c3] at h0; cases h0
      · have en : natE n = 0 := by
          by_cases e : natE n = 0
          · exact e
          · exact absurd (.inl e) c2
        obtain ⟨cn, ln⟩ := (natE_ok n).1 en
        have nn := numT_nonneg cn.2.1
        have hNN : numT n = ((numT n).toNat : Int) := by omega
        have hneg : neg = true → (numT n).toNat ≠ 0 := fun e hz => c1 (.inr (.inr ⟨e, (canT_eq0 cn).1 (by omega)⟩))
        have lN := len_txt (N := 2000) cn.2.1 hNN ln
        -- the number whose parts these are
        have key : ∀ (D : Nat) (d' : ByteArray), CanT d' → numT d' = D → D ≠ 0 → Nat.gcd (numT n).toNat D = 1 → D < 10 ^ 2000 → (many = true ↔ D ≠ 1) → Sp s neg n many d' → ∃ x, RTx s x ∧ Dl x 2000 := by
          intro D d' cd hD hD0 hg hD2 hm hsp
          have m1 := mk_num neg (numT n).toNat D hD0
          have m2 := mk_den neg (numT n).toNat D hD0
          rw [hg, Nat.div_one] at m1 m2
          have m3 : decide ((mkRat (sgn neg (numT n).toNat) D).num < 0) = neg := by
            by_cases hz : (numT n).toNat = 0
            · have : neg = false := by
                cases hne : neg with
                | false => rfl
                | true => exact absurd hz (hneg hne)
              subst this
              rw [hz]
              have : mkRat (sgn false 0) D = 0 := by have : sgn false 0 = 0 := rfl; rw [this, Rat.zero_mkRat]
              rw [this]; rfl
            · exact mk_neg neg _ D hD0 hz
          refine ⟨mkRat (sgn neg (numT n).toNat) D, ⟨n, d', cn, cd, by rw [m1]; exact hNN, by rw [m2]; exact hD, ?_⟩, Dl.mk _ hD0 lN hD2⟩
          rw [m3, m2]
          have : decide (D ≠ 1) = many := by
            cases hmm : many with
            | false => exact decide_eq_false (fun h => by rw [hmm] at hm; have := hm.2 h; cases this)
            | true => exact decide_eq_true (hm.1 hmm)
          rw [this]
          exact hsp
        cases many with
        | false =>
          refine key 1 ⟨#[49]⟩ canT_one numT_one (by omega) (Nat.gcd_one_right _) (one_lt_ten 2000 (by omega)) (by simp) ⟨by simpa using h.eq, h.no, h.hd⟩
        | true =>
          have ed : natE d = 0 := by
            by_cases e : natE d = 0
            · exact e
            · exact absurd (.inr ⟨rfl, e⟩) c2
          obtain ⟨cd, ld⟩ := (natE_ok d).1 ed
          have nd := numT_nonneg cd.2.1
          have hDD : numT d = ((numT d).toNat : Int) := by omega
          have d0 : d ≠ ⟨#[48]⟩ := fun e => c3 ⟨rfl, .inl e⟩
          have d1 : d ≠ ⟨#[49]⟩ := fun e => c3 ⟨rfl, .inr (.inl e)⟩
          have hg : Nat.gcd (numT n).toNat (numT d).toNat = 1 := by
            by_cases e : Nat.gcd (numT n).toNat (numT d).toNat = 1
            · exact e
            · exact absurd ⟨rfl, .inr (.inr e)⟩ c3
          exact key (numT d).toNat d cd hDD (fun e => d0 ((canT_eq0 cd).1 (by omega))) hg (len_txt (N := 2000) cd.2.1 hDD ld) (by
            simp only [true_iff]
            exact fun e => d1 ((ten_two cd).2 (by omega))) h
theorem RTx.size {s : ByteArray} {x : Rat} {N : Nat} (h : RTx s x) (dx : Dl x N) : s.size ≤ 2 * N + 4 := by
  obtain ⟨n, d, h1, h2, h3, h4, h5⟩ := h
  have l1 := txt_len h1 h3 dx.1
  have l2 := txt_len h2 h4 dx.2
  have := congrArg List.length h5.eq
  rw [bytesOf_length, List.length_append, List.length_append, bytesOf_length] at this
  have e1 : (if decide (x.num < 0) = true then ([45] : List Int) else []).length ≤ 1 := by split <;> simp
  have e2 : (if decide (x.den ≠ 1) = true then (47 :: bytesOf d : List Int) else []).length ≤ d.size + 1 := by
    split
    · rw [List.length_cons, bytesOf_length]; omega
    · simp
  omega
/-- From the text's size to the size of the number. -/
theorem RTx.dl {s : ByteArray} {x : Rat} {N : Nat} (h : RTx s x) (hs : s.size ≤ N) : Dl x (N + 1) := by
  obtain ⟨n, d, h1, h2, h3, h4, h5⟩ := h
  have hsz := h5.size
  refine ⟨Nat.lt_of_lt_of_le (len_txt h1.2.1 h3 (Nat.le_trans hsz.1 hs)) (Nat.pow_le_pow_right (by omega) (by omega)), ?_⟩
  by_cases c : x.den ≠ 1
  · exact Nat.lt_of_lt_of_le (len_txt h2.2.1 h4 (Nat.le_trans (hsz.2 (decide_eq_true c)) hs)) (Nat.pow_le_pow_right (by omega) (by omega))
  · have : x.den = 1 := by omega
    rw [this]
    exact Nat.one_lt_pow (by omega) (by omega)
theorem RTx.pos {s : ByteArray} {x : Rat} (h : RTx s x) : s.size ≠ 0 := by
  obtain ⟨n, d, h1, h2, h3, h4, h5⟩ := h
  have := h5.size.1
  have := h1.1
  omega
theorem rin_ok {s : ByteArray} {x : Rat} (h : RTx s x) (hs : s.size ≤ 1048576) (hK : 2000000000 < K) : ∃ q, g_rat_In K s = some q ∧ QV q x := by
  obtain ⟨n, d, h1, h2, h3, h4, h5⟩ := h
  obtain ⟨s1, neg', n', d', many', c1, c2, c3, c4, c5⟩ := parts_of K hs
  obtain ⟨rfl, rfl, rfl, hd⟩ := h5.uniq c3
  have hsz := h5.size
  obtain ⟨a, a1, a2, a3⟩ := read_ok (K := K) (s := n) (by omega) hK h1.2.1
  rw [h3] at a2
  unfold g_rat_In
  rw [c1, bsome, c2, bsome]
  dsimp only
  rw [a1, bsome, one_num hK, bsome]
  by_cases c : x.den ≠ 1
  · have := hd (decide_eq_true c)
    subst this
    obtain ⟨b, b1, b2, b3⟩ := read_ok (K := K) (s := d) (by have := hsz.2 (decide_eq_true c); omega) hK h2.2.1
    rw [h4] at b2
    exact ⟨⟨decide (x.num < 0), a, b⟩, by rw [decide_eq_true c, if_pos rfl, b1, bsome, bsome, tu1a], rfl, a2, .inl b2⟩
  · have e : x.den = 1 := by omega
    exact ⟨⟨decide (x.num < 0), a, [1]⟩, by rw [decide_eq_false c]; rfl, rfl, a2, .inl (by rw [e]; exact .one (by omega) (by omega))⟩
theorem not_stroke {n : ByteArray} (h : (bytesOf n).all digT = true) : (47 : Int) ∉ bytesOf n := fun hm => by
  have := digT_iff.1 (List.all_eq_true.1 h _ hm); omega
/-- The text that is laid together of its parts. -/
theorem rt_mk {s n d : ByteArray} {x : Rat} (h1 : CanT n) (h2 : CanT d) (h3 : numT n = (x.num.natAbs : Nat)) (h4 : numT d = (x.den : Nat)) (h : bytesOf s = (if decide (x.num < 0) then [45] else []) ++ (bytesOf n ++ (if decide (x.den ≠ 1) then 47 :: bytesOf d else []))) : RTx s x := by
  refine ⟨n, d, h1, h2, h3, h4, h, not_stroke h1.2.1, fun hn => ?_⟩
  rw [h, hn]
  have hl := bytesOf_length n
  cases hb : bytesOf n with
  | nil => rw [hb] at hl; simp at hl; exact absurd hl.symm h1.1
  | cons c l =>
    have := digT_iff.1 (List.all_eq_true.1 h1.2.1 c (by rw [hb]; simp))
    simp only [Bool.false_eq_true, if_false, List.nil_append, List.cons_append, List.head?_cons]
    intro e; cases e; omega
/-! ### The reference -/
theorem canon_ok {neg : Bool} {n d : ByteArray} {N D : Nat} (hD : D ≠ 0) (cn : CanT n) (cd : CanT d) (hn : numT n = N) (hd : numT d = D) (ln : n.size ≤ 400000) (ld : d.size ≤ 400000) (hK : 2000000000 < K) :
    ∃ s, g_R_Canon K neg n d = some s ∧ RTx s (mkRat (sgn neg N) D) := by
  unfold g_R_Canon
  by_cases h0 : N = 0
  · subst h0
    have : n = ⟨#[48]⟩ := (canT_eq0 cn).1 (by omega)
    subst this
    have e : mkRat (sgn neg 0) D = 0 := by
      have : sgn neg 0 = 0 := by cases neg <;> rfl
      rw [this, Rat.zero_mkRat]
    refine ⟨⟨#[48]⟩, by rw [sEq_self]; rfl, ?_⟩
    rw [e]
    exact rt_mk canT_zero canT_one numT_zero numT_one rfl
  · have e0 : sEq n ⟨#[48]⟩ = false := sEq_f (fun e => by rw [e, numT_zero] at hn; omega)
    obtain ⟨g, g1, g2, g3⟩ := gcd_ref (K := K) (x := n) (y := d) ln ld hK cn cd hn hd
    have gp : 0 < Nat.gcd N D := Nat.gcd_pos_of_pos_left D (by omega)
    have gl := canT_size cn g2 (by rw [g3, hn]; have := Nat.gcd_le_left (m := N) D (by omega); omega)
    obtain ⟨q1, r1, a1, a2, a3, a4, a5⟩ := div_ref (K := K) (a := n) (b := g) ln (by omega) hK cn g2 (by omega)
    obtain ⟨q2, r2, b1, b2, b3, b4, b5⟩ := div_ref (K := K) (a := d) (b := g) ld (by omega) hK cd g2 (by omega)
    rw [hn, g3] at a4
    rw [hd, g3] at b4
    have m1 := mk_num neg N D hD
    have m2 := mk_den neg N D hD
    have m3 := mk_neg neg N D hD h0
    have f1 : numT q1 = ((mkRat (sgn neg N) D).num.natAbs : Nat) := by rw [m1, a4]; simp
    have f2 : numT q2 = ((mkRat (sgn neg N) D).den : Nat) := by rw [m2, b4]; simp
    generalize mkRat (sgn neg N) D = x at *
    rw [e0]
    simp only [Bool.false_eq_true, if_false]
    rw [g1, bsome, a1, bsome, b1, bsome]
    have hm : sEq q2 ⟨#[49]⟩ = decide (x.den = 1) := by
      rw [sEq_dec]
      congr 1
      rw [ten_two b2, f2, eq_iff_iff]; omega
    have l1 := canT_size cn a2 (by rw [a4, hn]; exact Int.ediv_le_self _ (by omega))
    have l2 := canT_size cd b2 (by rw [b4, hd]; exact Int.ediv_le_self _ (by omega))
    have e45 : ((⟨#[45]⟩ : ByteArray)).size = 1 := rfl
    have e47 : ((⟨#[47]⟩ : ByteArray)).size = 1 := rfl
    have b45 : bytesOf (⟨#[45]⟩ : ByteArray) = [45] := rfl
    have b47 : bytesOf (⟨#[47]⟩ : ByteArray) = [47] := rfl
    obtain ⟨m, k1, k2, k3⟩ : ∃ m, (if neg = true then (if ((⟨#[45]⟩ : ByteArray)).size + (q1).size ≤ 4611686018427387904 then some ((⟨#[45]⟩ : ByteArray) ++ q1) else none) else some q1) = some m ∧ bytesOf m = (if decide (x.num < 0) = true then [45] else []) ++ bytesOf q1 ∧ m.size ≤ q1.size + 1 := by
      rw [m3]
      cases neg with
      | true =>
        refine ⟨(⟨#[45]⟩ : ByteArray) ++ q1, ?_, ?_, ?_⟩
        · rw [if_pos rfl, if_pos (by omega)]
        · rw [bytesOf_append, b45]; rfl
        · rw [← bytesOf_length, bytesOf_append, b45, List.length_append, bytesOf_length]; simp; omega
      | false => exact ⟨q1, rfl, rfl, by omega⟩
    dsimp only
    rw [k1, bsome, tu1a, hm]
    by_cases c : x.den = 1
    · refine ⟨m, by rw [decide_eq_true c]; rfl, rt_mk a2 b2 f1 f2 ?_⟩
      have hdd : decide (x.den ≠ 1) = false := decide_eq_false (fun h => h c)
      rw [k2, hdd]; simp
    · have hsm : (m ++ (⟨#[47]⟩ : ByteArray)).size = m.size + 1 := by rw [← bytesOf_length, bytesOf_append, b47, List.length_append, bytesOf_length]; simp
      refine ⟨(m ++ (⟨#[47]⟩ : ByteArray)) ++ q2, ?_, rt_mk a2 b2 f1 f2 ?_⟩
      · rw [decide_eq_false c]
        simp only [Bool.false_eq_true, if_false]
        rw [if_pos (by omega), if_pos (by omega)]
      · have hdd : decide (x.den ≠ 1) = true := decide_eq_true c
        rw [bytesOf_append, bytesOf_append, k2, b47, hdd]; simp
theorem rparts_ok {a : ByteArray} {x : Rat} {N : Nat} (h : RTx a x) (dx : Dl x N) (hN : N ≤ 100000) (hK : 2000000000 < K) : ∃ n d, g_R_parts K a = some (decide (x.num < 0), n, d) ∧ CanT n ∧ CanT d ∧ numT n = (x.num.natAbs : Nat) ∧ numT d = (x.den : Nat) ∧ n.size ≤ N + 1 ∧ d.size ≤ N + 1 := by
  have hs := h.size dx
  have h0 := h.pos
  obtain ⟨n, d, h1, h2, h3, h4, h5⟩ := h
  have hp := parts_rat (K := K) (by omega) h0 hK h5
  have l1 := txt_len h1 h3 dx.1
  have l2 := txt_len h2 h4 dx.2
  by_cases c : x.den ≠ 1
  · rw [decide_eq_true c] at hp
    exact ⟨n, d, hp, h1, h2, h3, h4, l1, l2⟩
  · rw [decide_eq_false c] at hp
    have e : x.den = 1 := by omega
    exact ⟨n, ⟨#[49]⟩, hp, h1, canT_one, h3, by rw [e]; rfl, l1, by show 1 ≤ N + 1; omega⟩
theorem radd_ok {a b : ByteArray} {x y : Rat} {N : Nat} (ha : RTx a x) (hb : RTx b y) (dx : Dl x N) (dy : Dl y N) (hN : N ≤ 100000) (hK : 2000000000 < K) : ∃ c, g_R_RatAdd K a b = some c ∧ RTx c (x + y) := by
  obtain ⟨n, d, p1, p2, p3, p4, p5, p6, p7⟩ := rparts_ok (K := K) ha dx hN hK
  obtain ⟨m, e, q1, q2, q3, q4, q5, q6, q7⟩ := rparts_ok (K := K) hb dy hN hK
  obtain ⟨X, X1, X2, X3⟩ := mul_ref (K := K) (a := n) (b := e) (by omega) (by omega) hK p2.2.1 q3.2.1
  obtain ⟨Y, Y1, Y2, Y3⟩ := mul_ref (K := K) (a := m) (b := d) (by omega) (by omega) hK q2.2.1 p3.2.1
  obtain ⟨D, D1, D2, D3⟩ := mul_ref (K := K) (a := d) (b := e) (by omega) (by omega) hK p3.2.1 q3.2.1
  rw [p4, q5, ← Int.natCast_mul] at X3
  rw [q4, p5, ← Int.natCast_mul] at Y3
  rw [p5, q5, ← Int.natCast_mul] at D3
  have hD : x.den * y.den ≠ 0 := Nat.mul_ne_zero x.den_nz y.den_nz
  have lX := txt_len X2 X3 (mul_lt_pow dx.1 dy.2)
  have lY := txt_len Y2 Y3 (mul_lt_pow dy.1 dx.2)
  have lD := txt_len D2 D3 (mul_lt_pow dx.2 dy.2)
  unfold g_R_RatAdd
  rw [p1, bsome, q1, bsome]
  dsimp only
  rw [X1, bsome, Y1, bsome, D1, bsome, add_form]
  generalize x.num.natAbs * y.den = u at X3 ⊢
  generalize y.num.natAbs * x.den = v at Y3 ⊢
  generalize decide (x.num < 0) = p
  generalize decide (y.num < 0) = q
  by_cases hs : p = q
  · obtain ⟨Z, Z1, Z2, Z3⟩ := add_ref (K := K) (a := X) (b := Y) (by omega) (by omega) (by have := X2.1; omega) (by omega) X2.2.1 Y2.2.1
    rw [X3, Y3, ← Int.natCast_add] at Z3
    have lZ : Z.size ≤ 400000 := by
      refine Nat.not_lt.1 fun hlt => ?_
      have g1 := canT_ge Z2 (by omega)
      have g2 := numT_lt X2.2.1
      have g3 := numT_lt Y2.2.1
      have g4 : (10 : Int) ^ X.size ≤ 10 ^ (Z.size - 2) := ipow_le (by omega) (by omega)
      have g5 : (10 : Int) ^ Y.size ≤ 10 ^ (Z.size - 2) := ipow_le (by omega) (by omega)
      have g6 : (10 : Int) ^ (Z.size - 1) = 10 ^ (Z.size - 2) * 10 := by rw [← Int.pow_succ]; congr 1; omega
      rw [X3] at g2
      rw [Y3] at g3
      have g7 : (0 : Int) < 10 ^ (Z.size - 2) := Int.pow_pos (by omega)
      generalize (10 : Int) ^ (Z.size - 2) = P at *
      omega
    obtain ⟨s, s1, s2⟩ := canon_ok (K := K) (neg := p) (n := Z) (d := D) hD Z2 D2 Z3 D3 lZ (by omega) hK
    refine ⟨s, ?_, by rw [← hs, ← sgn_add]; exact s2⟩
    rw [if_pos (by simpa using hs), Z1, bsome, s1, bsome]
  · have hc := cmp_ref (K := K) X2 Y2
    rw [if_neg (by simpa using hs), hc, bsome, X3, Y3]
    by_cases hle : v ≤ u
    · obtain ⟨Z, Z1, Z2, Z3⟩ := sub_ref (K := K) (a := X) (b := Y) (by omega) (canT_size X2 Y2 (by omega)) (by have := X2.1; omega) (by omega) X2.2.1 Y2.2.1 (by omega)
      rw [X3, Y3, ← Int.natCast_sub hle] at Z3
      have lZ := canT_size X2 Z2 (by omega)
      obtain ⟨s, s1, s2⟩ := canon_ok (K := K) (neg := p) (n := Z) (d := D) hD Z2 D2 Z3 D3 (by omega) (by omega) hK
      refine ⟨s, ?_, by rw [← sgn_sub _ _ hs hle]; exact s2⟩
      have e : decide ((if ((u : Nat) : Int) < (v : Nat) then (-1 : Int) else if ((u : Nat) : Int) = (v : Nat) then 0 else 1) < 0) = false := by
        rw [if_neg (by omega)]; split <;> rfl
      rw [e]
      simp only [Bool.false_eq_true, if_false, bsome, tu3a, Z1, s1]
    · obtain ⟨Z, Z1, Z2, Z3⟩ := sub_ref (K := K) (a := Y) (b := X) (by omega) (canT_size Y2 X2 (by omega)) (by have := Y2.1; omega) (by omega) Y2.2.1 X2.2.1 (by omega)
      rw [X3, Y3, ← Int.natCast_sub (show u ≤ v by omega)] at Z3
      have lZ := canT_size Y2 Z2 (by omega)
      obtain ⟨s, s1, s2⟩ := canon_ok (K := K) (neg := q) (n := Z) (d := D) hD Z2 D2 Z3 D3 (by omega) (by omega) hK
      refine ⟨s, ?_, by rw [Int.add_comm, ← sgn_sub _ _ (fun e => hs e.symm) (by omega)]; exact s2⟩
      have e : decide ((if ((u : Nat) : Int) < (v : Nat) then (-1 : Int) else if ((u : Nat) : Int) = (v : Nat) then 0 else 1) < 0) = true := by
        rw [if_pos (by omega)]; rfl
      rw [e]
      simp only [if_true, bsome, tu3a, Z1, s1]
theorem rneg_ok {a : ByteArray} {x : Rat} {N : Nat} (ha : RTx a x) (dx : Dl x N) (hN : N ≤ 100000) (hK : 2000000000 < K) : ∃ c, g_R_RatNeg K a = some c ∧ RTx c (-x) := by
  obtain ⟨n, d, p1, p2, p3, p4, p5, p6, p7⟩ := rparts_ok (K := K) ha dx hN hK
  obtain ⟨s, s1, s2⟩ := canon_ok (K := K) (neg := !decide (x.num < 0)) (n := n) (d := d) x.den_nz p2 p3 p4 p5 (by omega) (by omega) hK
  refine ⟨s, by unfold g_R_RatNeg; rw [p1, bsome, s1, bsome], ?_⟩
  have e : mkRat (sgn (!decide (x.num < 0)) x.num.natAbs) x.den = -x := by
    have e1 : sgn (!decide (x.num < 0)) x.num.natAbs = -x.num := by
      unfold sgn; by_cases h : x.num < 0 <;> simp [h] <;> omega
    rw [e1, ← Rat.neg_mkRat, Rat.mkRat_self]
  rw [← e]; exact s2
theorem rsub_ok {a b : ByteArray} {x y : Rat} {N : Nat} (ha : RTx a x) (hb : RTx b y) (dx : Dl x N) (dy : Dl y N) (hN : N ≤ 100000) (hK : 2000000000 < K) : ∃ c, g_R_RatSub K a b = some c ∧ RTx c (x - y) := by
  obtain ⟨m, m1, m2⟩ := rneg_ok (K := K) hb dy hN hK
  obtain ⟨c, c1, c2⟩ := radd_ok (K := K) ha m2 dx dy.neg hN hK
  exact ⟨c, by unfold g_R_RatSub; rw [m1, bsome, c1, bsome], by rw [Rat.sub_eq_add_neg]; exact c2⟩
theorem rsign_ok {a : ByteArray} {x : Rat} {N : Nat} (ha : RTx a x) (dx : Dl x N) (hN : N ≤ 100000) (hK : 2000000000 < K) : g_R_RatSign K a = some (if x = 0 then 0 else if x.num < 0 then -1 else 1) := by
  obtain ⟨n, d, p1, p2, p3, p4, p5, p6, p7⟩ := rparts_ok (K := K) ha dx hN hK
  have e : sEq n ⟨#[48]⟩ = decide (x = 0) := by
    rw [sEq_dec]
    congr 1
    rw [← canT_eq0 p2, p4, ← Rat.num_eq_zero, eq_iff_iff]; omega
  unfold g_R_RatSign
  rw [p1, bsome]
  dsimp only
  rw [e]
  by_cases c : x = 0
  · simp [c]
  · by_cases c2 : x.num < 0 <;> simp [c, c2]
end Go.Am.Tryz
/- Plain law: errors of lists; operations on two texts. -/
namespace Go.Am.Tryz
open Go Go.Am Go.Proofs
set_option linter.unusedSimpArgs false
set_option linter.unusedVariables false
set_option maxRecDepth 100000
variable {K : Nat}
/-- The error of a rational number's text. -/
noncomputable def ratE (s : ByteArray) : Int := @dite Int (∃ e, ∃ neg n many d, Sp s neg n many d ∧ ratS neg n many d = e) (Classical.propDecidable _) (fun h => h.choose) fun _ => 0
theorem ratE_eq {s n d : ByteArray} {neg many : Bool} (h : Sp s neg n many d) : ratE s = ratS neg n many d := by
  have hex : ∃ e, ∃ neg n many d, Sp s neg n many d ∧ ratS neg n many d = e := ⟨_, _, _, _, _, h, rfl⟩
  unfold ratE
  rw [dif_pos hex]
  obtain ⟨neg', n', many', d', h1, h2⟩ := hex.choose_spec
  rw [← h2]
  obtain ⟨rfl, rfl, rfl, h3⟩ := h.uniq h1
  cases many with
  | true => rw [h3 rfl]
  | false => unfold ratS; simp
theorem ratcheck_ok {s : ByteArray} (hs : s.size ≤ 1048576) (hK : 2000000000 < K) : g_rat_Check K s = some (ratE s) := by
  obtain ⟨s1, neg, n, d, many, _, _, h, _⟩ := parts_of K hs
  rw [ratE_eq h]; exact check_rat hs hK h
theorem raterr_ok {s : ByteArray} (hs : s.size ≤ 1048576) (hK : 2000000000 < K) : g_R_RatError K s = some (ratE s) := by
  obtain ⟨s1, neg, n, d, many, _, _, h, _⟩ := parts_of K hs
  rw [ratE_eq h]; exact error_rat hs hK h
theorem ratE_zero {s : ByteArray} (hs : s.size ≤ 1048576) (h : ratE s = 0) : ∃ x, RTx s x ∧ Dl x 2000 := by
  obtain ⟨s1, neg, n, d, many, _, _, hp, _⟩ := parts_of 0 hs
  rw [ratE_eq hp] at h
  exact rt_of hp h
end Go.Am.Tryz
/- Plain law: whole numbers and their texts. -/
namespace Go.Am.Tryz
open Go Go.Am Go.Proofs
set_option linter.unusedSimpArgs false
set_option linter.unusedVariables false
set_option maxRecDepth 100000
variable {K : Nat}
theorem rat_lt (x y : Rat) : (x - y).num < 0 ↔ x < y := by
  rw [← Int.not_le, Rat.num_nonneg]
  grind
theorem rat_eq (x y : Rat) : x - y = 0 ↔ x = y := by grind
theorem pow27 : (1000000000 : Int) ^ 3 = 1000000000000000000000000000 := by decide
theorem kq1 {p V n m q r : Int} (h : V + p * m = n) (hm : r + 1000000000 * q = m) : V + p * r + p * 1000000000 * q = n := by subst hm; grind
theorem natOf_ok {n : Int} (h0 : 0 ≤ n) (h1 : n ≤ 9223372036854775808) (hK : 2000000000 < K) (h2 : n ≤ 9223372036854775807) : ∃ l, g_nat_Of K n = some l ∧ NumN n l ∧ l.length ≤ 3 := by
  have key : ∃ l, g_nat_Of_l0 K K [] n = some l ∧ NumN n l ∧ l.length ≤ 3 := by
    obtain ⟨f, hf⟩ : ∃ f : Nat, f = 4 := ⟨4, rfl⟩
    refine loopW (fun k (s : List Int × Int) => g_nat_Of_l0 K k s.1 s.2) (fun s => DigB 1000000000 s.1 ∧ 0 ≤ s.2 ∧ s.2 ≤ n ∧ valB 1000000000 s.1 + 1000000000 ^ s.1.length * s.2 = n ∧ (s.2 > 0 ∨ CanB 1000000000 s.1) ∧ s.1.length ≤ 3) (fun s => 4 - s.1.length) _ ?_ (([], n) : List Int × Int) (by simp; omega) ⟨.nil _, h0, Int.le_refl _, by simp [valB], .inr ⟨.nil _, by simp⟩, by simp⟩
    rintro k ⟨o, m⟩ ⟨a1, a2, a3, a4, a5, a6⟩
    dsimp only at a1 a2 a3 a4 a5 a6 ⊢
    by_cases hm : m > 0
    · right
      have hv := valB_nonneg (B := 1000000000) (by omega) o a1
      have hlen : o.length ≤ 2 := by
        refine Nat.not_lt.1 fun hlt => ?_
        have g1 : (1000000000 : Int) ^ 3 ≤ 1000000000 ^ o.length := ipow_le (by omega) (by omega)
        have g2 := mul_le (show (0:Int) ≤ 1000000000 ^ o.length from Int.le_of_lt (Int.pow_pos (by omega))) (show 1 ≤ m by omega)
        rw [pow27] at g1
        omega
      have hdm := Int.emod_add_mul_ediv m 1000000000
      refine ⟨(o ++ [m % 1000000000], m / 1000000000), ?_, by simp; omega, a1.snoc (by omega), by dsimp only; omega, by dsimp only; omega, ?_, ?_, by simp; omega⟩
      · rw [g_nat_Of_l0]
        simp (discharger := omega) only [decide_eq_true_eq, if_pos, if_neg, if_true, if_false, bsome, beq_iff, bne_iff, idxI, bidxI, sslI, lslI, k64, ku64, ku32, ku8, i64w, u64w, u32w, u8w, tdivI, tmodI, tu0a, tu1a, tu2a, tu3a, tu4a, tu5a, lta, bindSl, bindSr, outSl, outSr, Int.toNat_natCast, List.length_cons, List.length_nil, List.length_set, Int.toNat_zero, List.replicate_zero]
      · dsimp only
        rw [valB_snoc, List.length_append, List.length_singleton, Int.pow_succ]
        exact kq1 a4 hdm
      · dsimp only
        by_cases hq : m / 1000000000 > 0
        · exact .inl hq
        · refine .inr ⟨a1.snoc (by omega), ?_⟩
          rw [List.getLast?_append]
          simp; omega
    · left
      have : m = 0 := by omega
      subst this
      rw [Int.mul_zero, Int.add_zero] at a4
      refine ⟨o, by rw [g_nat_Of_l0]; simp (discharger := omega) only [decide_eq_true_eq, if_pos, if_neg, if_true, if_false, bsome, beq_iff, bne_iff, idxI, bidxI, sslI, lslI, k64, ku64, ku32, ku8, i64w, u64w, u32w, u8w, tdivI, tmodI, tu0a, tu1a, tu2a, tu3a, tu4a, tu5a, lta, bindSl, bindSr, outSl, outSr, Int.toNat_natCast, List.length_cons, List.length_nil, List.length_set, Int.toNat_zero, List.replicate_zero], ⟨a5.resolve_left (by omega), a4⟩, a6⟩
  obtain ⟨l, l1, l2⟩ := key
  exact ⟨l, by unfold g_nat_Of; rw [l1]; rfl, l2⟩
theorem digit_txt {j : Int} (h : 0 ≤ j ∧ j ≤ 9) : ∃ t, ssl (⟨#[48, 49, 50, 51, 52, 53, 54, 55, 56, 57]⟩ : ByteArray) j (kwrap .i64 (j + 1)) = some t ∧ bytesOf t = [48 + j] ∧ t.size = 1 := by
  obtain ⟨n, rfl⟩ : ∃ n : Nat, j = n := ⟨j.toNat, by omega⟩
  have hn : n = 0 ∨ n = 1 ∨ n = 2 ∨ n = 3 ∨ n = 4 ∨ n = 5 ∨ n = 6 ∨ n = 7 ∨ n = 8 ∨ n = 9 := by omega
  rcases hn with rfl | rfl | rfl | rfl | rfl | rfl | rfl | rfl | rfl | rfl
  · exact ⟨⟨#[48]⟩, by rfl, by rfl, by rfl⟩
  · exact ⟨⟨#[49]⟩, by rfl, by rfl, by rfl⟩
  · exact ⟨⟨#[50]⟩, by rfl, by rfl, by rfl⟩
  · exact ⟨⟨#[51]⟩, by rfl, by rfl, by rfl⟩
  · exact ⟨⟨#[52]⟩, by rfl, by rfl, by rfl⟩
  · exact ⟨⟨#[53]⟩, by rfl, by rfl, by rfl⟩
  · exact ⟨⟨#[54]⟩, by rfl, by rfl, by rfl⟩
  · exact ⟨⟨#[55]⟩, by rfl, by rfl, by rfl⟩
  · exact ⟨⟨#[56]⟩, by rfl, by rfl, by rfl⟩
  · exact ⟨⟨#[57]⟩, by rfl, by rfl, by rfl⟩
theorem kq2 {p V n m q r : Int} (h : V + p * m = n) (hm : r + 10 * q = m) : V + p * (48 + r - 48) + 10 * p * q = n := by subst hm; grind
theorem rint_loop {n : Int} (h0 : 0 ≤ n) (h1 : n ≤ 9223372036854775807) (hK : 2000000000 < K) : ∃ s, g_R_RatInt_l0 K K n ⟨#[]⟩ = some s ∧ CanT s ∧ numT s = n ∧ s.size ≤ 20 := by
  have he : bytesOf (⟨#[]⟩ : ByteArray) = [] := rfl
  have p19 : (10 : Int) ^ 19 = 10000000000000000000 := by decide
  refine loopW (fun k (s : Int × ByteArray) => g_R_RatInt_l0 K k s.1 s.2) (fun s => (bytesOf s.2).all digT = true ∧ (0 ≤ s.1 ∧ s.1 ≤ n) ∧ numB (bytesOf s.2) + 10 ^ s.2.size * s.1 = n ∧ (s.2 = ⟨#[]⟩ ∨ s.1 > 0 ∨ CanT s.2) ∧ s.2.size ≤ 20) (fun s => 21 - s.2.size) _ ?_ ((n, ⟨#[]⟩) : Int × ByteArray) (by dsimp only; omega) ⟨rfl, ⟨h0, Int.le_refl _⟩, by rw [he, numB_nil]; show 0 + 10 ^ 0 * n = n; simp, .inl rfl, by show 0 ≤ 20; omega⟩
  rintro k ⟨m, s⟩ ⟨a1, a2, a3, a4, a5⟩
  dsimp only at a1 a2 a3 a4 a5 ⊢
  have hv := numB_nonneg a1
  have hcond : (if (decide (m > 0)) = true then some true else some (sEq s (⟨#[]⟩ : ByteArray))) = some (decide (m > 0 ∨ s = ⟨#[]⟩)) := by
    rw [sEq_dec]
    by_cases c : m > 0 <;> simp [c]
  by_cases hc : m > 0 ∨ s = ⟨#[]⟩
  · right
    have hlen : s.size ≤ 19 := by
      rcases hc with hc | rfl
      · refine Nat.not_lt.1 fun hlt => ?_
        have g1 : (10 : Int) ^ 19 ≤ 10 ^ s.size := ipow_le (by omega) (by omega)
        have g2 := mul_le (show (0:Int) ≤ 10 ^ s.size from Int.le_of_lt (Int.pow_pos (by omega))) (show 1 ≤ m by omega)
        rw [p19] at g1
        omega
      · show 0 ≤ 19; omega
    obtain ⟨t, t1, t2, t3⟩ := digit_txt (j := m % 10) (by omega)
    have hb : bytesOf (t ++ s) = (48 + m % 10) :: bytesOf s := by rw [bytesOf_append, t2]; rfl
    have hsz : (t ++ s).size = s.size + 1 := by rw [← bytesOf_length, hb, List.length_cons, bytesOf_length]
    have hdm := Int.emod_add_mul_ediv m 10
    refine ⟨(m / 10, t ++ s), ?_, by dsimp only; omega, ?_, by dsimp only; omega, ?_, ?_, by dsimp only; omega⟩
    · rw [g_R_RatInt_l0, hcond, decide_eq_true hc, bsome, tu1a, if_pos rfl, tmodI a2.1, t1, bsome, if_pos (by omega), tdivI a2.1, k64 (by omega) (by omega)]
    · dsimp only; rw [hb, List.all_cons, a1, Bool.and_true]; exact digT_iff.2 (by omega)
    · dsimp only
      rw [hb, numB_cons, hsz, bytesOf_length, Int.pow_succ, Int.mul_comm ((10:Int) ^ s.size) 10]
      exact kq2 a3 hdm
    · dsimp only
      by_cases hq : m / 10 > 0
      · exact .inr (.inl hq)
      · refine .inr (.inr ⟨by omega, ?_, fun e => ?_⟩)
        · rw [hb, List.all_cons, a1, Bool.and_true]; exact digT_iff.2 (by omega)
        · rw [hb] at e
          simp at e
          have hm0 : m = 0 := by omega
          rcases hc with hc | rfl
          · omega
          · have : (⟨#[]⟩ : ByteArray).size = 0 := rfl
            omega
  · left
    have hm : m = 0 := by omega
    subst hm
    have hs : s ≠ ⟨#[]⟩ := fun e => hc (.inr e)
    rw [Int.mul_zero, Int.add_zero] at a3
    refine ⟨s, ?_, ?_, a3, a5⟩
    · rw [g_R_RatInt_l0, hcond, decide_eq_false hc, bsome, tu1a]; rfl
    · rcases a4 with h | h | h
      · exact absurd h hs
      · omega
      · exact h
theorem rint_ok {n : Int} (hn : krange .i64 n = true) (hK : 2000000000 < K) : ∃ s, g_R_RatInt K K n = some s ∧ RTx s (n : Rat) := by
  have hr : -9223372036854775808 ≤ n ∧ n ≤ 9223372036854775807 := by simpa [krange] using hn
  have hnn : ((n : Rat)).num = n := rfl
  have hdd : ((n : Rat)).den = 1 := rfl
  have hpos : ∀ (m : Int) (D : Nat), 0 ≤ m → m ≤ 9223372036854775807 → ∃ s, g_R_RatInt K (D + 1) m = some s ∧ CanT s ∧ numT s = m ∧ s.size ≤ 20 := fun m D h0 h1 => by
    obtain ⟨s, s1, s2⟩ := rint_loop (K := K) h0 h1 hK
    exact ⟨s, by rw [g_R_RatInt, if_pos (decide_eq_true h0), s1]; rfl, s2⟩
  obtain ⟨D, hD⟩ : ∃ D, K = D + 2 := ⟨K - 2, by omega⟩
  have hKD : g_R_RatInt K K n = g_R_RatInt K (D + 1 + 1) n := by
    have : ∀ J, J = D + 2 → g_R_RatInt K J n = g_R_RatInt K (D + 1 + 1) n := fun J h => by rw [h]
    exact this K hD
  rw [hKD]
  by_cases h : n ≥ 0
  · obtain ⟨s, s1, s2, s3, s4⟩ := hpos n (D + 1) h hr.2
    refine ⟨s, s1, rt_mk s2 canT_one (by rw [s3, hnn]; omega) (by rw [hdd]; rfl) ?_⟩
    rw [hnn, hdd, decide_eq_false (by omega)]
    simp
  · by_cases hmin : n = -9223372036854775808
    · subst hmin
      refine ⟨⟨#[45, 57, 50, 50, 51, 51, 55, 50, 48, 51, 54, 56, 53, 52, 55, 55, 53, 56, 48, 56]⟩, by rw [g_R_RatInt]; rfl, ?_⟩
      exact rt_mk (n := ⟨#[57, 50, 50, 51, 51, 55, 50, 48, 51, 54, 56, 53, 52, 55, 55, 53, 56, 48, 56]⟩) ⟨by decide, by rfl, fun h => by simp [bytesOf] at h⟩ canT_one (by rw [hnn]; rfl) (by rw [hdd]; rfl) (by rw [hnn, hdd]; rfl)
    · obtain ⟨s, s1, s2, s3, s4⟩ := hpos (-n) D (by omega) (by omega)
      have b45 : bytesOf (⟨#[45]⟩ : ByteArray) = [45] := rfl
      have e45 : ((⟨#[45]⟩ : ByteArray)).size = 1 := rfl
      refine ⟨(⟨#[45]⟩ : ByteArray) ++ s, ?_, rt_mk s2 canT_one (by rw [s3, hnn]; omega) (by rw [hdd]; rfl) ?_⟩
      · have e1 : (n == -9223372036854775808) = false := by rw [beq_eq_false_iff_ne]; exact hmin
        rw [g_R_RatInt, if_neg (by simpa using h), e1]
        simp only [Bool.false_eq_true, if_false]
        rw [k64 (by omega) (by omega), s1, bsome, if_pos (by omega)]
      · rw [hnn, hdd, decide_eq_true (by omega), bytesOf_append, b45]
        simp
end Go.Am.Tryz
/- Plain law: comparisons of rational numbers. -/
namespace Go.Am.Tryz
open Go Go.Am Go.Proofs
set_option linter.unusedSimpArgs false
set_option linter.unusedVariables false
set_option maxRecDepth 100000
variable {K : Nat}
theorem rcmp_ok {a b : ByteArray} {x y : Rat} {N : Nat} (ha : RTx a x) (hb : RTx b y) (dx : Dl x N) (dy : Dl y N) (hN : N ≤ 40000) (hK : 2000000000 < K) : g_R_RatCmp K a b = some (if x = y then 0 else if x < y then -1 else 1) := by
  obtain ⟨c, c1, c2⟩ := rsub_ok (K := K) ha hb dx dy (by omega) hK
  have := rsign_ok (K := K) c2 (dx.sub dy) (by omega) hK
  unfold g_R_RatCmp
  rw [c1, bsome, this, bsome]
  simp only [rat_eq, rat_lt]
end Go.Am.Tryz
/- The closed rational fact holds. -/
namespace Go.Am.Tryz
open Go Go.Am Go.Proofs
set_option maxRecDepth 100000
theorem ratFact_true : g_law_ratFact 2000000001 = some true := by kernel_rfl
end Go.Am.Tryz
/- Plain law: RatCompares and RatIntegers answer true. -/
namespace Go.Am.Tryz
open Go Go.Am Go.Proofs
set_option linter.unusedSimpArgs false
set_option linter.unusedVariables false
set_option maxRecDepth 100000
variable {K : Nat}
theorem int_loop {q : Q} {n : Int} (hq : NumN n q.num) (hl : q.num.length ≤ 1000000) (hn : n ≤ 9223372036854775807) (hK : 2000000000 < K) : g_rat_Integer_l0 K q K 0 ((q.num.length : Int) - 1) = some n := by
  obtain ⟨⟨dg, _⟩, hv⟩ := hq
  have key : ∃ r : Int, g_rat_Integer_l0 K q K 0 ((q.num.length : Int) - 1) = some r ∧ r = n := by
    refine loopW (fun k (s : Int × Int) => g_rat_Integer_l0 K q k s.1 s.2) (fun s => ∃ j : Nat, s.2 = (j : Int) - 1 ∧ j ≤ q.num.length ∧ s.1 = valB 1000000000 (q.num.drop j)) (fun s => (s.2 + 1).toNat) _ ?_ ((0, (q.num.length : Int) - 1) : Int × Int) (by dsimp only; omega) ⟨q.num.length, rfl, Nat.le_refl _, by rw [List.drop_length]; rfl⟩
    rintro k ⟨_, _⟩ ⟨j, rfl, h0, rfl⟩
    dsimp only
    by_cases hj : j = 0
    · subst hj
      left
      exact ⟨_, by rw [g_rat_Integer_l0, if_neg (by simp)], by rw [List.drop_zero]; exact hv⟩
    · right
      obtain ⟨i, rfl⟩ : ∃ i, j = i + 1 := ⟨j - 1, by omega⟩
      have hx : idx q.num (((i + 1 : Nat) : Int) - 1) = some q.num[i] := by
        have : ((i + 1 : Nat) : Int) - 1 = i := by omega
        rw [this]; exact idx_nat (List.getElem?_eq_getElem (by omega))
      have hd := dg q.num[i] (List.getElem_mem (by omega))
      have hc : q.num.drop i = q.num[i] :: q.num.drop (i + 1) := List.drop_eq_getElem_cons (by omega)
      have hvc : valB 1000000000 (q.num.drop i) = q.num[i] + 1000000000 * valB 1000000000 (q.num.drop (i + 1)) := by rw [hc]; rfl
      have hs := valB_split 1000000000 q.num i (by omega)
      have h1 := valB_nonneg (B := 1000000000) (by omega) (q.num.take i) (fun d hd => dg d (List.mem_of_mem_take hd))
      have h2 := valB_nonneg (B := 1000000000) (by omega) (q.num.drop (i + 1)) (fun d hd => dg d (List.mem_of_mem_drop hd))
      have h3 : valB 1000000000 (q.num.drop i) ≤ n := by
        have hp : (1 : Int) ≤ 1000000000 ^ i := Int.pow_pos (by omega)
        have h4 := valB_nonneg (B := 1000000000) (by omega) (q.num.drop i) (fun d hd => dg d (List.mem_of_mem_drop hd))
        have := Int.mul_le_mul_of_nonneg_right hp h4
        omega
      have hw : IntKind.wrap .i64 q.num[i] = q.num[i] := i64w (by omega) (by omega)
      refine ⟨(valB 1000000000 (q.num.drop i), (i : Int) - 1), ?_, by dsimp only; omega, i, rfl, by omega, rfl⟩
      rw [g_rat_Integer_l0, if_pos (decide_eq_true (by omega)), hx, bsome, hw, k64 (a := _ * 1000000000) (by omega) (by omega), k64 (a := _ + q.num[i]) (by omega) (by omega), k64 (by omega) (by omega), hvc]
      show g_rat_Integer_l0 K q k _ _ = g_rat_Integer_l0 K q k _ _
      congr 1
      · omega
      · omega
  obtain ⟨r, r1, rfl⟩ := key
  exact r1
theorem icmp_zero (a b : Int) : ((if a < b then (-1 : Int) else if a = b then 0 else 1) == 0) = decide (a = b) := by
  by_cases c : a < b
  · rw [if_pos c, decide_eq_false (by omega)]; rfl
  · rw [if_neg c]
    by_cases d : a = b
    · rw [if_pos d, decide_eq_true d]; rfl
    · rw [if_neg d, decide_eq_false d]; rfl
theorem icmp_pos (a b : Int) : decide ((if a < b then (-1 : Int) else if a = b then 0 else 1) > 0) = decide (b < a) := by
  by_cases c : a < b
  · rw [if_pos c, decide_eq_false (p := b < a) (by omega)]; rfl
  · rw [if_neg c]
    by_cases d : a = b
    · rw [if_pos d, decide_eq_false (p := b < a) (by omega)]; rfl
    · rw [if_neg d, decide_eq_true (p := b < a) (by omega)]; rfl
theorem integer_ok {s : ByteArray} {x : Rat} (hs : s.size ≤ 1048576) (h0 : ratE s = 0) (hx : RTx s x) (dx : Dl x 2000) (hK : 2000000000 < K) :
    g_rat_Integer K s = some (if x.den ≠ 1 then (0, 3) else if -9223372036854775808 ≤ x.num ∧ x.num ≤ 9223372036854775807 then (x.num, 0) else (0, 4)) := by
  obtain ⟨q, q1, q2⟩ := rin_ok (K := K) hx hs hK
  obtain ⟨w, w1, w2, w3⟩ := whole_ok (K := K) q2 hK
  obtain ⟨m1, m2⟩ := q2.lens dx
  obtain ⟨l, l1, l2, l3⟩ := natOf_ok (K := K) (n := 9223372036854775807) (by omega) (by omega) hK (by omega)
  obtain ⟨z, z1, z2, z3⟩ := nadd_ok (K := K) (x := l) (y := [1]) (by omega) (by simp) hK l2 (.one (by omega) (by omega))
  rw [show (9223372036854775807 + 1 : Int) = 9223372036854775808 by omega] at z2
  have c1 := ncmp_ok (K := K) (x := w) (y := [1]) (by omega) (by simp) hK w2 (.one (by omega) (by omega))
  simp only [List.length_singleton] at z3
  have c2 := ncmp_ok (K := K) (x := q.num) (y := z) (by omega) (by omega) hK q2.2.1 z2
  have c3 := ncmp_ok (K := K) (x := q.num) (y := l) (by omega) (by omega) hK q2.2.1 l2
  unfold g_rat_Integer
  rw [ratcheck_ok hs hK, h0, bsome, if_neg (by simp), q1, bsome, w1, bsome, one_num hK, bsome, c1, bsome]
  have hp := x.den_pos
  by_cases hd : x.den = 1
  · rw [hd, if_neg (by simp), if_neg (by simp), l1, bsome]
    have hneg := q2.1
    have hin : x.num.natAbs ≤ 9223372036854775807 → g_rat_Integer_l0 K q K 0 (kwrap .i64 ((q.num.length : Int) - 1)) = some (x.num.natAbs : Int) := fun h => by
      rw [k64 (by omega) (by omega)]
      exact int_loop q2.2.1 (by omega) (by omega) hK
    by_cases hm : x.num < 0
    · rw [hneg, decide_eq_true hm, if_pos rfl, bsome, z1, bsome, c2, bsome, bsome, tu2a, icmp_zero]
      by_cases he : x.num = -9223372036854775808
      · rw [decide_eq_true (by omega), if_pos rfl, if_pos (by omega), he]
      · rw [decide_eq_false (by omega), if_neg (by simp), c3, bsome, icmp_pos]
        by_cases hg : x.num.natAbs ≤ 9223372036854775807
        · rw [decide_eq_false (by omega), if_neg (by simp), hin hg, bsome, tu1a, if_pos rfl, k64 (by omega) (by omega), bsome, tu1a, if_pos (by omega), show -((x.num.natAbs : Nat) : Int) = x.num by omega]
        · rw [decide_eq_true (by omega), if_pos rfl, if_neg (by omega)]
    · rw [hneg, decide_eq_false hm, if_neg (by simp), bsome, tu2a, if_neg (by simp), c3, bsome, icmp_pos]
      by_cases hg : x.num.natAbs ≤ 9223372036854775807
      · rw [decide_eq_false (by omega), if_neg (by simp), hin hg, bsome, tu1a, if_neg (by simp), bsome, tu1a, if_pos (by omega), show ((x.num.natAbs : Nat) : Int) = x.num by omega]
      · rw [decide_eq_true (by omega), if_pos rfl, if_neg (by omega)]
  · rw [if_pos (by simp; omega), if_pos hd]
theorem integer_err {s : ByteArray} (hs : s.size ≤ 1048576) (h0 : ratE s ≠ 0) (hK : 2000000000 < K) : g_rat_Integer K s = some (0, ratE s) := by
  unfold g_rat_Integer
  rw [ratcheck_ok hs hK, bsome, if_pos (by simpa using h0)]
theorem mk_one (n : Int) : mkRat n 1 = (n : Rat) := by
  have := Rat.mkRat_self (n : Rat)
  exact this
theorem rfloor_ok {a : ByteArray} {x : Rat} {N : Nat} (ha : RTx a x) (dx : Dl x N) (hN : N ≤ 90000) (hK : 2000000000 < K) : ∃ t, g_R_RatFloor K a = some t ∧ ∃ m : Int, RTx t (m : Rat) ∧ (x.den = 1 → m = x.num) := by
  obtain ⟨n, d, p1, n1, d1, n2, d2, n3, d3⟩ := rparts_ok (K := K) ha dx (by omega) hK
  have hp := x.den_pos
  obtain ⟨q, r, f1, cq, cr, f2, f3⟩ := div_ref (K := K) (a := n) (b := d) (by omega) (by omega) hK n1 d1 (by omega)
  have hb := canT_size n1 cq (by
    rw [f2, n2, d2]
    exact Int.ediv_le_self _ (by omega))
  unfold g_R_RatFloor
  rw [p1, bsome, f1, bsome]
  dsimp only
  have hq0 : 0 ≤ numT q := by rw [f2, n2, d2]; exact Int.ediv_nonneg (by omega) (by omega)
  have hrz : x.den = 1 → r = ⟨#[48]⟩ := fun h => by
    refine (canT_eq0 cr).1 ?_
    rw [f3, d2, h]
    omega
  have hqd : x.den = 1 → numT q = x.num.natAbs := fun h => by
    rw [f2, d2, h, n2]
    omega
  have hs1 : numT q < 10 ^ (N + 1) := by
    have h := len_txt (n := (numT q).toNat) (N := N + 1) cq.2.1 (by omega) (by omega)
    have h2 : ((10 ^ (N + 1) : Nat) : Int) = (10 : Int) ^ (N + 1) := nat_pow_cast _
    omega
  have hcond : (if decide (x.num < 0) = true then some (!(sEq r (⟨#[48]⟩ : ByteArray))) else some false) = some (decide (x.num < 0 ∧ r ≠ ⟨#[48]⟩)) := by
    rw [sEq_dec]
    by_cases c1 : x.num < 0 <;> by_cases c2 : r = ⟨#[48]⟩ <;> simp [c1, c2]
  rw [hcond, bsome, tu1a]
  by_cases c : x.num < 0 ∧ r ≠ ⟨#[48]⟩
  · obtain ⟨t, t1, t2, t3⟩ := add_ref (K := K) (a := q) (b := ⟨#[49]⟩) (by omega) (by show 1 ≤ 1000000; omega) (by have := cq.1; omega) (by omega) cq.2.1 canT_one.2.1
    rw [numT_one] at t3
    have ts := txt_len (N := N + 2) (n := (numT t).toNat) t2 (by omega) (by
      have h2 : ((10 ^ (N + 2) : Nat) : Int) = (10 : Int) ^ (N + 1 + 1) := nat_pow_cast _
      rw [Int.pow_succ] at h2
      have h3 : (0 : Int) < 10 ^ (N + 1) := Int.pow_pos (by omega)
      omega)
    obtain ⟨s, s1, s2⟩ := canon_ok (K := K) (neg := true) (N := (numT t).toNat) (D := 1) (by omega) t2 canT_one (by omega) (by rw [numT_one]; rfl) (by omega) (by show 1 ≤ 400000; omega) hK
    refine ⟨s, ?_, sgn true (numT t).toNat, by rw [← mk_one]; exact s2, fun h => absurd (hrz h) c.2⟩
    rw [decide_eq_true c, if_pos rfl, t1, bsome, bsome, tu1a, decide_eq_true c.1, s1, bsome]
  · obtain ⟨s, s1, s2⟩ := canon_ok (K := K) (neg := decide (x.num < 0)) (N := (numT q).toNat) (D := 1) (by omega) cq canT_one (by omega) (by rw [numT_one]; rfl) (by omega) (by show 1 ≤ 400000; omega) hK
    refine ⟨s, ?_, sgn (decide (x.num < 0)) (numT q).toNat, by rw [← mk_one]; exact s2, fun h => ?_⟩
    · rw [decide_eq_false c, if_neg (by simp), bsome, tu1a, s1, bsome]
    · rw [hqd h]
      unfold sgn
      by_cases c1 : x.num < 0
      · rw [decide_eq_true c1, if_pos rfl]; omega
      · rw [decide_eq_false c1, if_neg (by simp)]; omega
theorem long_one {a : ByteArray} {n : Int} (hK : 2000000000 < K) : g_law_long K n [a] = some (decide ((a.size : Int) > n)) := by
  unfold g_law_long
  rw [contains_str (p := fun x => decide ((x.size : Int) > n)) (by simp) hK (fun x _ => by unfold g_law_long_1; rfl)]
  simp [bsome]
theorem rt_int {t : ByteArray} {m : Int} (h1 : CanT t) (h2 : numT t = m) (h0 : 0 ≤ m) : RTx t (m : Rat) := by
  have hnn : ((m : Rat)).num = m := rfl
  have hdd : ((m : Rat)).den = 1 := rfl
  refine rt_mk h1 canT_one (by rw [h2, hnn]; omega) (by rw [hdd]; rfl) ?_
  rw [hnn, hdd, decide_eq_false (by omega)]
  simp
theorem top_txt : RTx (⟨#[57, 50, 50, 51, 51, 55, 50, 48, 51, 54, 56, 53, 52, 55, 55, 53, 56, 48, 55]⟩ : ByteArray) ((9223372036854775807 : Int) : Rat) :=
  rt_int ⟨by decide, by rfl, fun h => by simp [bytesOf] at h⟩ (by rfl) (by omega)
theorem bot_txt : RTx (⟨#[45, 57, 50, 50, 51, 51, 55, 50, 48, 51, 54, 56, 53, 52, 55, 55, 53, 56, 48, 56]⟩ : ByteArray) ((-9223372036854775808 : Int) : Rat) := by
  have hnn : (((-9223372036854775808 : Int) : Rat)).num = -9223372036854775808 := rfl
  have hdd : (((-9223372036854775808 : Int) : Rat)).den = 1 := rfl
  exact rt_mk (n := ⟨#[57, 50, 50, 51, 51, 55, 50, 48, 51, 54, 56, 53, 52, 55, 55, 53, 56, 48, 56]⟩) ⟨by decide, by rfl, fun h => by simp [bytesOf] at h⟩ canT_one (by rw [hnn]; rfl) (by rw [hdd]; rfl) (by rw [hnn, hdd]; rfl)
theorem int_dl {m : Int} (h1 : -9223372036854775808 ≤ m) (h2 : m ≤ 9223372036854775807) : Dl (m : Rat) 19 := by
  have p19 : (10 : Nat) ^ 19 = 10000000000000000000 := by decide
  exact ⟨by show m.natAbs < 10 ^ 19; omega, by show 1 < 10 ^ 19; omega⟩
theorem int_of_den {x : Rat} (h : x.den = 1) : x = (x.num : Rat) := by
  have := Rat.mkRat_self x
  rw [h, mk_one] at this
  exact this.symm
theorem cmp_pos (x y : Rat) : (decide ((if x = y then (0 : Int) else if x < y then -1 else 1) > 0)) = decide (y < x) := by
  by_cases c : x = y
  · subst c; rw [if_pos rfl, decide_eq_false (by omega), decide_eq_false (by grind)]
  · rw [if_neg c]
    by_cases d : x < y
    · rw [if_pos d, decide_eq_false (by omega), decide_eq_false (by grind)]
    · rw [if_neg d, decide_eq_true (by omega), decide_eq_true (by grind)]
theorem cmp_neg (x y : Rat) : (decide ((if x = y then (0 : Int) else if x < y then -1 else 1) < 0)) = decide (x < y) := by
  by_cases c : x = y
  · subst c; rw [if_pos rfl, decide_eq_false (by omega), decide_eq_false (by grind)]
  · rw [if_neg c]
    by_cases d : x < y
    · rw [if_pos d, decide_eq_true (by omega), decide_eq_true d]
    · rw [if_neg d, decide_eq_false (by omega), decide_eq_false d]
theorem cast_lt (m n : Int) : ((m : Rat) < (n : Rat)) ↔ m < n := by
  rw [← rat_lt, ← Rat.intCast_sub]
  show m - n < 0 ↔ m < n
  omega
theorem ratIntegers_true {a : ByteArray} (ha : a.size ≤ 1048576) : ∃ K, g_law_RatIntegers K a = some true := by
  refine ⟨2000000001, ?_⟩
  have hK : 2000000000 < 2000000001 := by omega
  unfold g_law_RatIntegers
  rw [ratFact_true, raterr_ok ha hK, long_one hK]
  simp only [Bool.not_true, Bool.false_eq_true, if_false, bsome]
  by_cases e1 : ratE a = 0
  · obtain ⟨x, hx, dx⟩ := ratE_zero ha e1
    have hI := integer_ok ha e1 hx dx hK
    rw [e1]
    simp only [beq_self_eq_true, if_true]
    by_cases hl : (a.size : Int) > 100
    · rw [decide_eq_true hl]
      simp only [Bool.not_true, bsome, tu1a, Bool.false_eq_true, if_false]
      by_cases hd : x.den = 1
      · have hno : ¬ (-9223372036854775808 ≤ x.num ∧ x.num ≤ 9223372036854775807) := fun h => by
          have h2 := int_dl h.1 h.2
          rw [← int_of_den hd] at h2
          have := hx.size h2
          omega
        rw [if_neg (by simpa using hd), if_neg hno] at hI
        rw [hI]
        rfl
      · rw [if_pos hd] at hI
        rw [hI]; rfl
    · have la : a.size ≤ 100 := by omega
      have dx2 := hx.dl la
      obtain ⟨t, t1, m, t2, t3⟩ := rfloor_ok (K := 2000000001) hx dx2 (by omega) hK
      rw [decide_eq_false hl, t1, rcmp_ok hx top_txt dx2 ((int_dl (by omega) (by omega)).mono (by omega)) (by omega) hK, rcmp_ok hx bot_txt dx2 ((int_dl (by omega) (by omega)).mono (by omega)) (by omega) hK]
      simp only [Bool.not_false, if_true, bsome, tu1a, sEq_dec, cmp_pos, cmp_neg]
      by_cases hd : x.den = 1
      · have hm := t3 hd
        subst hm
        have hxe := int_of_den hd
        rw [← hxe] at t2
        rw [if_neg (by simpa using hd)] at hI
        rw [decide_eq_true (t2.inj hx)]
        have k1 : decide (((9223372036854775807 : Int) : Rat) < x) = decide (9223372036854775807 < x.num) := by
          rw [decide_eq_decide]
          conv => lhs; rw [hxe]
          exact cast_lt _ _
        have k2 : decide (x < ((-9223372036854775808 : Int) : Rat)) = decide (x.num < -9223372036854775808) := by
          rw [decide_eq_decide]
          conv => lhs; rw [hxe]
          exact cast_lt _ _
        rw [k1, k2]
        simp only [Bool.not_true, Bool.false_eq_true, if_false]
        by_cases g1 : 9223372036854775807 < x.num
        · rw [if_neg (by omega)] at hI
          rw [decide_eq_true g1, hI]
          rfl
        · rw [decide_eq_false g1]
          by_cases g2 : x.num < -9223372036854775808
          · rw [if_neg (by omega)] at hI
            rw [decide_eq_true g2, hI]
            rfl
          · rw [if_pos (by omega)] at hI
            rw [decide_eq_false g2, hI]
            have hr : krange .i64 x.num = true := by simp [krange]; omega
            obtain ⟨u, u1, u2⟩ := rint_ok (K := 2000000001) hr hK
            rw [← hxe] at u2
            simp only [Bool.false_eq_true, if_false, bsome, tu1a, bindSr, bne_self_eq_false, beq_self_eq_true, if_true, u1, decide_eq_true (u2.inj hx)]
      · have hne : t ≠ a := fun h => by
          subst h
          have := t2.val hx
          rw [← this] at hd
          exact hd rfl
        rw [if_pos hd] at hI
        rw [decide_eq_false hne, hI]
        rfl
  · rw [integer_err ha e1 hK]
    have e2 : (ratE a == 0) = false := by rw [beq_eq_false_iff_ne]; exact e1
    simp only [e2, bsome, Bool.false_eq_true, if_false, tu1a, bindSr, bne_iff_ne, ne_eq, e1, not_false_iff, if_true, beq_self_eq_true]
end Go.Am.Tryz
/- From a statement's arguments, read as data, to typed data. -/
namespace Go.Am
open Go Go.Proofs.YtlmgdnhnpkgheaaGreatDoor
set_option linter.unusedSimpArgs false
set_option linter.unusedVariables false
section
variable {H : Type} {P : Program} {G : GM} {n B : Nat} {t e : TypeId} {α β S : Type} {r : RT α} {s : RT β} {I : α → Prop} {J : β → Prop}
theorem bulk_pos {H : Type} (d : DataW H) : 1 ≤ Rows.uptoBulk d := by
  cases d with
  | lit l => cases l <;> simp [Rows.uptoBulk]
  | _ => simp [Rows.uptoBulk]
theorem bulk_len {H : Type} : ∀ (ds : List (DataW H)), ds.length ≤ Rows.uptoBulkAll ds
  | [] => Nat.zero_le _
  | d :: r => by
    have := bulk_len r
    have := bulk_pos d
    simp only [Rows.uptoBulkAll, List.length_cons]; omega
def Arg (H : Type) (P : Program) (G : GM) (n : Nat) (t : TypeId) (r : RT α) (B : Nat) (I : α → Prop) : Prop := ∀ (cs : List Value) (d : DataW H), AData P G n t cs d → Rows.uptoBulk d ≤ B → ∃ x, r.rep G cs x ∧ I x
def ArgS (H : Type) (P : Program) (G : GM) (n : Nat) (ts : List TypeId) (r : RT α) (B : Nat) (I : α → Prop) : Prop :=
  ∀ (css : List (List Value)) (ds : List (DataW H)), AllD (AData P G n) P.cellsOf ts css ds → Rows.uptoBulkAll ds ≤ B → ∃ x, r.rep G css.flatten x ∧ I x
theorem wf_range {k : IntKind} {x : Int} (h : (Lit.int k x).wf = true) : krange k x = true := by
  cases k <;> simp [Lit.wf, IntKind.min, IntKind.max, IntKind.signed, IntKind.bits] at h <;> simp [krange] <;> omega
theorem Arg.mono {I J : α → Prop} (h : Arg H P G n t r B I) (k : ∀ x, I x → J x) : Arg H P G n t r B J := fun cs d hd hb => by
  obtain ⟨x, h1, h2⟩ := h cs d hd hb
  exact ⟨x, h1, k x h2⟩
theorem Arg.int {k : IntKind} (hu : P.underlying t = some (.int k)) : Arg H P G (n + 1) t (rI k) B (fun x => krange k x = true) := fun cs d h _ => by
  unfold AData at h
  simp only [hu] at h
  obtain ⟨x, h1, h2, h3⟩ := h
  exact ⟨x, h1, wf_range h3⟩
theorem Arg.bool (hu : P.underlying t = some .bool) : Arg H P G (n + 1) t rB B (fun _ => True) := fun cs d h _ => by
  unfold AData at h
  simp only [hu] at h
  obtain ⟨x, h1, _⟩ := h
  exact ⟨x, h1, trivial⟩
theorem Arg.str (hu : P.underlying t = some .string) : Arg H P G (n + 1) t rS B (fun x => x.size ≤ B) := fun cs d h hb => by
  unfold AData at h
  simp only [hu] at h
  obtain ⟨x, h1, h2, _⟩ := h
  refine ⟨x, h1, ?_⟩
  rw [h2] at hb
  simp only [Rows.uptoBulk, Array.length_toList] at hb
  have : x.data.size = x.size := rfl
  omega
theorem allD_reps (h : Arg H P G n e r B I) : ∀ (k : Nat) (css : List (List Value)) (ds : List (DataW H)), AllD (AData P G n) P.cellsOf (List.replicate k e) css ds → Rows.uptoBulkAll ds ≤ B → ∃ xs : List α, All2 (r.rep G) css xs ∧ (∀ x ∈ xs, I x) ∧ xs.length = k
  | 0, [], [], _, _ => ⟨[], .nil, by simp, rfl⟩
  | 0, _ :: _, _, h, _ => by simp [List.replicate, AllD] at h
  | 0, [], _ :: _, h, _ => by simp [List.replicate, AllD] at h
  | k + 1, [], _, h, _ => by simp [List.replicate, AllD] at h
  | k + 1, _ :: _, [], h, _ => by simp [List.replicate, AllD] at h
  | k + 1, c :: css, d :: ds, hA, hb => by
    simp only [List.replicate, AllD] at hA
    simp only [Rows.uptoBulkAll] at hb
    obtain ⟨x, h1, h2⟩ := h _ _ hA.1.1 (by omega)
    obtain ⟨xs, h3, h4, h5⟩ := allD_reps h k css ds hA.2 (by omega)
    refine ⟨x :: xs, .cons h1 h3, fun y hy => ?_, by simp [h5]⟩
    rcases List.mem_cons.1 hy with rfl | hy
    · exact h2
    · exact h4 y hy
theorem allD_take {R : TypeId → List Value → DataW H → Prop} {sz : TypeId → Nat} : ∀ (k : Nat) {ts : List TypeId} {cs : List (List Value)} {ds : List (DataW H)}, AllD R sz ts cs ds → AllD R sz (ts.take k) (cs.take k) (ds.take k)
  | 0, _, _, _, _ => by simp [AllD]
  | k + 1, [], [], [], _ => by simp [AllD]
  | k + 1, _ :: _, _ :: _, _ :: _, h => by simp only [List.take_succ_cons]; exact ⟨h.1, allD_take k h.2⟩
theorem allD_len {R : TypeId → List Value → DataW H → Prop} {sz : TypeId → Nat} {e : TypeId} : ∀ (k : Nat) (css : List (List Value)) (ds : List (DataW H)), AllD R sz (List.replicate k e) css ds → ∀ c ∈ css, c.length = sz e
  | 0, [], [], _, c, hc => by simp at hc
  | 0, _ :: _, _, h, _, _ => by simp [List.replicate, AllD] at h
  | 0, [], _ :: _, h, _, _ => by simp [List.replicate, AllD] at h
  | k + 1, [], _, h, _, _ => by simp [List.replicate, AllD] at h
  | k + 1, _ :: _, [], h, _, _ => by simp [List.replicate, AllD] at h
  | k + 1, c :: css, d :: ds, hA, u, hu => by
    simp only [List.replicate, AllD] at hA
    rcases List.mem_cons.1 hu with rfl | hu
    · exact hA.1.2
    · exact allD_len k css ds hA.2 u hu
theorem Arg.sl (hu : P.underlying t = some (.slice e)) (h : Arg H P G n e r B I) : Arg H P G (n + 1) t (rSl r) B (fun xs => xs.length ≤ B ∧ ∀ x ∈ xs, I x) := fun cs d hA hb => by
  unfold AData at hA
  simp only [hu] at hA
  rcases hA with ⟨h1, h2⟩ | ⟨b, len, cap, elems, spare, css, h1, h2, h3, h4, _, h6, h7⟩
  · subst h1
    exact ⟨[], sl_nil, Nat.zero_le _, by simp⟩
  · subst h2
    simp only [Rows.uptoBulk] at hb
    have hlen := bulk_len elems
    have h8 := allD_take len h7
    rw [List.take_replicate, show min len cap = len by omega, ← h3, List.take_left] at h8
    obtain ⟨xs, k1, k2, k3⟩ := allD_reps h elems.length (css.take elems.length) elems h8 (by omega)
    refine ⟨xs, ?_, by omega, k2⟩
    have hcl := allD_len _ _ _ h7
    have hel := k1.length
    by_cases hz : elems.length = 0
    · have hx : xs = [] := List.length_eq_zero_iff.1 (by omega)
      subst hx
      refine ⟨_, [], h1, ⟨by simp, .inr (.inr ⟨b, 0, some 0, cap, by rw [← h3, hz], rfl, .inr rfl⟩)⟩, .nil⟩
    · rcases h6 with h6 | ⟨x, g1, _, g3⟩
      · omega
      · refine ⟨_, css.take elems.length, h1, ⟨k1.each, .inr (.inl ⟨b, 0, some 0, cap, x, by rw [hel, k3, ← h3], g1, ?_, ?_, by rw [hel, k3]; omega, .inr rfl⟩)⟩, k1⟩
        · rw [g3]
          have h9 : css.flatten = (css.take elems.length).flatten ++ (css.drop elems.length).flatten := by rw [← List.flatten_append, List.take_append_drop]
          rw [h9, List.length_append, k1.flatLen, hel]; omega
        · rw [g3, List.drop_zero]
          have h9 : css.flatten = (css.take elems.length).flatten ++ (css.drop elems.length).flatten := by rw [← List.flatten_append, List.take_append_drop]
          have h10 : (css.take elems.length).length * r.sz = (css.take elems.length).flatten.length := by rw [k1.flatLen, hel]
          rw [h9, h10, List.take_left]
theorem Arg.arr {k : Nat} (hu : P.underlying t = some (.array k e)) (h : Arg H P G n e r B I) : Arg H P G (n + 1) t (rArr k r) B (fun xs => xs.length = k ∧ ∀ x ∈ xs, I x) := fun cs d hA hb => by
  unfold AData at hA
  simp only [hu] at hA
  obtain ⟨css, parts, h1, h2, h3⟩ := hA
  subst h2
  simp only [Rows.uptoBulk] at hb
  obtain ⟨xs, k1, k2, k3⟩ := allD_reps h k css parts h3 (by omega)
  exact ⟨xs, ⟨k3, css, h1, k1⟩, k3, k2⟩
theorem ArgS.one (h : Arg H P G n t r B I) : ArgS H P G n [t] r B I := fun css ds hA hb => by
  match css, ds, hA with
  | [c], [d], hA =>
    simp only [Rows.uptoBulkAll] at hb
    obtain ⟨x, h1, h2⟩ := h c d hA.1.1 (by omega)
    exact ⟨x, by simpa using h1, h2⟩
  | [], _, hA => simp [AllD] at hA
  | _ :: _ :: _, [], hA => simp [AllD] at hA
  | _ :: _ :: _, [_], hA => simp [AllD] at hA
  | _ :: _ :: _, _ :: _ :: _, hA => simp [AllD] at hA
  | [_], [], hA => simp [AllD] at hA
  | [_], _ :: _ :: _, hA => simp [AllD] at hA
theorem ArgS.cons {ts : List TypeId} (h : Arg H P G n t r B I) (k : ArgS H P G n ts s B J) : ArgS H P G n (t :: ts) (rP r s) B (fun x => I x.1 ∧ J x.2) := fun css ds hA hb => by
  match css, ds, hA with
  | c :: css, d :: ds, hA =>
    simp only [Rows.uptoBulkAll] at hb
    obtain ⟨x, h1, h2⟩ := h c d hA.1.1 (by omega)
    obtain ⟨y, h3, h4⟩ := k css ds hA.2 (by omega)
    exact ⟨(x, y), ⟨c, css.flatten, by simp, h1, h3⟩, h2, h4⟩
  | [], _, hA => simp [AllD] at hA
  | _ :: _, [], hA => simp [AllD] at hA
theorem Arg.struct {fs : Array Field} {ts : List TypeId} (hu : P.underlying t = some (.struct fs)) (hts : fs.toList.map (·.type) = ts) (h : ArgS H P G n ts r B I) (f : S → α) (g : α → S) (hg : ∀ p, f (g p) = p) : Arg H P G (n + 1) t (rIso r f) B (fun x => I (f x)) := fun cs d hA hb => by
  unfold AData at hA
  simp only [hu] at hA
  obtain ⟨css, parts, h1, h2, h3⟩ := hA
  subst h2
  simp only [Rows.uptoBulk] at hb
  rw [hts] at h3
  obtain ⟨p, k1, k2⟩ := h css parts h3 (by omega)
  exact ⟨g p, by rw [h1]; show r.rep G css.flatten (f (g p)); rw [hg]; exact k1, by show I (f (g p)); rw [hg]; exact k2⟩
theorem AArgs.cons_inv {ts : List TypeId} {avs : List Value} {ds : List (DataW H)} (h : AArgs P G n (t :: ts) avs ds) : ∃ v vs d dr, avs = v :: vs ∧ ds = d :: dr ∧ AVal P G n t v d ∧ AArgs P G n ts vs dr := by
  match avs, ds, h with
  | v :: vs, d :: dr, h => exact ⟨v, vs, d, dr, rfl, rfl, h.1, h.2⟩
  | [], _, h => simp [AArgs] at h
  | _ :: _, [], h => simp [AArgs] at h
theorem AArgs.nil_inv {avs : List Value} {ds : List (DataW H)} (h : AArgs P G n [] avs ds) : avs = [] ∧ ds = [] := by
  match avs, ds, h with
  | [], [], h => exact ⟨rfl, rfl⟩
  | [], _ :: _, h => simp [AArgs] at h
  | _ :: _, _, h => simp [AArgs] at h
/-- A single cell's value. -/
theorem AVal.one {v : Value} {d : DataW H} (hu : isAggT P t = some false) (h : AVal P G n t v d) : AData P G n t [v] d := by
  unfold AVal at h
  unfold isAggT at hu
  split at h
  · rename_i q; rw [q] at hu; cases hu
  · rename_i q; rw [q] at hu; cases hu
  · exact h
theorem AVal.agg {v : Value} {d : DataW H} (hu : isAggT P t = some true) (h : AVal P G n t v d) : ∃ cs, v = .agg (List.toArray cs) ∧ AData P G n t cs d := by
  unfold AVal at h
  unfold isAggT at hu
  split at h
  · exact h
  · exact h
  · rename_i q1 q2
    split at hu
    · rename_i q; exact absurd q (q1 _)
    · rename_i q; exact absurd q (q2 _ _)
    · cases hu
    · cases hu
theorem Ow.empty (A : AH) : Ow A.get A [] := ⟨fun _ _ h => h, fun i e h => by simp at h, fun i j e e' _ h => by simp at h, fun i e h => by simp at h⟩
theorem CR.done {f : FuncId} {args : List Value} {A : AH} {b : Value} (h : CR P f args A.get A [] fun v _ _ => v = b) : ∃ A', ACalls P f args A b A' := by
  obtain ⟨v, H', G', h1, _, _, rfl⟩ := h
  exact ⟨H', h1⟩
end
end Go.Am
/- RatIntegers over the statement's reading of its arguments. -/
namespace Go.Am.Tryz
open Go Go.Am Go.Proofs Go.Proofs.YtlmgdnhnpkgheaaGreatDoor
set_option linter.unusedVariables false
set_option linter.unusedSimpArgs false
set_option maxRecDepth 20000
theorem ratIntegers {H : Type} (A : AH) (avs : List Value) (ds : List (DataW H)) (hb : Rows.uptoBulkAll ds ≤ 1048576) (ha : AArgs Tryz.prog A.get 1 [22] avs ds) : ∃ A', ACalls Tryz.prog 4 avs A (.bool true) A' := by
  obtain ⟨v0, vs0, d0, ds0, rfl, rfl, a0, ha⟩ := AArgs.cons_inv ha
  obtain ⟨rfl, rfl⟩ := AArgs.nil_inv ha
  simp only [Rows.uptoBulkAll] at hb
  obtain ⟨x0, r0, i0⟩ := ((Arg.str (t := 22) (by kernel_rfl)) : Arg H Tryz.prog A.get 1 22 _ 1048576 _) [v0] d0 (AVal.one (by kernel_rfl) a0) (by omega)
  obtain rfl := (List.cons.inj r0).1
  obtain ⟨K, hK⟩ := ratIntegers_true i0
  exact CR.done (g_law_RatIntegers_ok K x0 (Ow.empty A) true hK)
end Go.Am.Tryz
