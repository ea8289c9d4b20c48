/- Plain law: quotient and remainder, greatest common divisor of the program's numbers. -/
import Derived.Test.YtdogeclnbdldaaaDoorG5Z3
import Derived.Test.YtdogeclnbdldaaaDoorG2Z3
import Derived.Test.YtdogeclnbdldaaaDoorG1Z3
import Derived.Test.YtdogeclnbdldaaaDoorRows
set_option maxRecDepth 100000
set_option maxHeartbeats 8000000
set_option linter.unusedVariables false
set_option linter.unusedSimpArgs false
namespace Go.Am.Tryd
open Go Go.Am Go.Proofs
variable {K : Nat}
theorem zhj (u : List Int) (i j : Nat) : (u.drop i).getD j 0 = u.getD (i + j) 0 := by
 rw [zAb, List.getElem?_drop, zAb]
section
variable {p X Y V M HI LO U g q b c rr M1 M2 U1 U2 P v1 v2 vl t1 t2 t3 ul top : Int}
theorem kd1 : vl + P * v2 + P * 1000000000 * v1 = P * (1000000000 * v1 + v2) + vl := by grind
theorem kd2 : ul + P * t3 + P * 1000000000 * t2 + P * 1000000000 * 1000000000 * t1 = P * (1000000000 * (t1 * 1000000000 + t2) + t3) + ul := by grind
theorem kd3 (hu : U < p * 1000000000 * V) (hm : U = LO + p * (M + Y * 1000000000 * HI)) (h0 : 0 <= LO) (p0 : 0 < p) (Y0 : 0 < Y) (hV : V < Y) (hM : 0 <= M) (hH : 0 <= HI) : HI = 0 := by
 refine Int.le_antisymm (Int.not_lt.1 fun hlt => ?_) hH
 have a1 := z3a (Int.le_of_lt Y0) (show 1 <= HI by omega)
 have a2 := z3a (Int.le_of_lt p0) (show V + 1 <= Y by omega)
 have a3 := z3a (Int.le_of_lt p0) (show Y * 1000000000 <= M + Y * 1000000000 * HI by grind)
 grind
theorem kd4 (hu : U < p * 1000000000 * V) (hm : U = LO + p * (M + X * 0)) (h0 : 0 <= LO) (p0 : 0 < p) : M < 1000000000 * V := by
 refine Int.not_le.1 fun hle => ?_
 have a1 := z3a (Int.le_of_lt p0) hle
 grind
theorem kd5 (h : rr + V * q = M) (h0 : 0 <= rr) : q * V <= M := by grind
theorem kd5' (h : rr + V * q = M) (h0 : rr < V) : M < (q + 1) * V := by grind
theorem kd6 (hM : M = P * (1000000000 * top + t3) + ul) (hV : V = P * (1000000000 * v1 + v2) + vl) (h : M < 1000000000 * V) (P0 : 0 < P) (b2 : v2 < 1000000000) (b3 : 0 <= t3) (u0 : 0 <= ul) (vb : vl < P) : top < 1000000000 * v1 + 1000000000 := by
 refine Int.not_le.1 fun hle => ?_
 have a1 := z3a (Int.le_of_lt P0) (z3a (show (0:Int) <= 1000000000 by omega) hle)
 have a2 := z3a (Int.le_of_lt P0) (show v2 <= 999999999 by omega)
 have a3 := z8d (Int.le_of_lt P0) b3
 subst hM hV
 grind
theorem kd7 (p0 : 0 < p) (h1 : U1 = LO + p * (M1 + X * 0)) (h2 : U1 = U - p * (g * V) + p * X * b) (h3 : U = LO + p * (M + X * 0)) : M1 = M - g * V + X * b := by
 have : p * M1 = p * (M - g * V + X * b) := by grind
 exact Int.eq_of_mul_eq_mul_left (by omega) this
theorem kd8 (h : rr + V * q = M) (h1 : rr < V) (hV : 0 < V) (hm : M1 = M - g * V + X * 0) (h0 : 0 <= M1) (hq : q <= g) : g = q := by
 refine Int.le_antisymm (Int.not_lt.1 fun hlt => ?_) hq
 have a1 := z3a (Int.le_of_lt hV) (show q + 1 <= g by omega)
 grind
theorem kd9 (h : rr + V * q = M) (h0 : 0 <= rr) (hm : M1 = M - g * V + X * 1) (h1 : M1 < X) (hq : q <= g) (hq1 : g <= q + 1) : g = q + 1 := by
 refine Int.le_antisymm hq1 (Int.not_lt.1 fun hlt => ?_)
 have : g = q := by omega
 subst this
 grind
theorem kd10 (p0 : 0 < p) (h1 : U2 = LO + p * (M2 + X * 0)) (h2 : U2 + p * X * c = U1 + p * V) (h3 : U1 = LO + p * (M1 + X * 0)) (h4 : M1 = M - (q + 1) * V + X * 1) : M2 = M - q * V + X * (1 - c) := by
 have : p * M2 = p * (M - q * V + X * (1 - c)) := by grind
 exact Int.eq_of_mul_eq_mul_left (by omega) this
theorem kd11 (h : rr + V * q = M) (h0 : 0 <= rr) (hm : M2 = M - q * V + X * (1 - c)) (h1 : M2 < X) (hc : c = 0 \/ c = 1) : c = 1 := by
 rcases hc with rfl | rfl
 ·grind
 ·rfl
theorem kd12 (h1 : U1 = LO + p * (M1 + X * 0)) (hm : M1 = M - q * V) (h3 : U = LO + p * (M + X * 0)) : U1 + p * (q * V) = U := by grind
theorem kd13 (p0 : 0 < p) (h1 : U1 = LO + p * (M1 + X * 0)) (hm : M1 = M - q * V) (h : rr + V * q = M) (hr : rr < V) (hl : LO < p) : U1 < p * V := by
 have a1 := z3a (Int.le_of_lt p0) (show M1 + 1 <= V by grind)
 grind
end
theorem zhk {u v : List Int} {i : Nat} (hn : 2 <= v.length) (hk : i + v.length + 1 <= u.length) (hl : u.length <= 8000000) (hK : 2000000000 < K) (du : DigB 1000000000 u) (cv : CanB 1000000000 v) (hu : valB 1000000000 u < 1000000000 ^ (i + 1) * valB 1000000000 v) :
  ∃ g b u1 u2 q, z1x K v u i K ((u.getD (i + v.length) 0 * 1000000000 + u.getD (i + v.length - 1) 0) / v.getD (v.length - 1) 0) ((u.getD (i + v.length) 0 * 1000000000 + u.getD (i + v.length - 1) 0) % v.getD (v.length - 1) 0) = some g /\ 0 <= g /\ g < 1000000000 ∧
   z3f K u v i g = some (b, u1) /\ (b = true -> z3x K u1 v i = some u2 /\ q = g - 1) /\ (b = false -> u2 = u1 /\ q = g) /\ 0 <= q /\ q < 1000000000 /\ u2.length = u.length /\ DigB 1000000000 u2 ∧
   valB 1000000000 u2 + 1000000000 ^ i * (q * valB 1000000000 v) = valB 1000000000 u /\ valB 1000000000 u2 < 1000000000 ^ i * valB 1000000000 v /\ 1 <= v.getD (v.length - 1) 0 /\ v.getD (v.length - 1) 0 < 1000000000 := by
 obtain ⟨n, hnv⟩ : ∃ n, v.length = n + 2 := ⟨v.length - 2, by omega⟩
 have dv := cv.1
 have ev1 := z1s (by omega) dv (n + 1)
 have ev2 := z1s (by omega) dv n
 have et1 := z1s (by omega) du (i + n + 2)
 have et2 := z1s (by omega) du (i + n + 1)
 have et3 := z1s (by omega) du (i + n)
 -- the divisor's leading digits
 have hv1 : 1 <= v.getD (n + 1) 0 := by
  have : v.getD (n + 1) 0 ≠ 0 := fun e => cv.2 (by
   rw [List.getLast?_eq_getElem?, hnv]
   have hi : n + 2 - 1 < v.length := by omega
   rw [zAb, zAh (by omega)] at e
   rw [zAh hi]
   simp at e ⊢
   exact e)
  omega
 have hV : valB 1000000000 v = 1000000000 ^ n * (1000000000 * v.getD (n + 1) 0 + v.getD n 0) + valB 1000000000 (v.take n) := by
  have h1 := z36 1000000000 v n
  have h2 := z36 1000000000 v (n + 1)
  rw [List.take_of_length_le (by omega)] at h2
  rw [h2, h1, Int.pow_succ, kd1]
 have hVn : valB 1000000000 v < 1000000000 ^ (n + 2) := by rw [<- hnv]; exact z4j (by omega) v dv
 -- the middle of what is divided
 have hmid := zhi u i (n + 3) (by omega)
 have hM : valB 1000000000 ((u.drop i).take (n + 3)) = 1000000000 ^ n * (1000000000 * (u.getD (i + n + 2) 0 * 1000000000 + u.getD (i + n + 1) 0) + u.getD (i + n) 0) + valB 1000000000 ((u.drop i).take n) := by
  have h1 := z36 1000000000 (u.drop i) n
  have h2 := z36 1000000000 (u.drop i) (n + 1)
  have h3 := z36 1000000000 (u.drop i) (n + 2)
  rw [zhj] at h1 h2 h3
  rw [h3, h2, h1, Int.pow_succ 1000000000 (n + 1), Int.pow_succ 1000000000 n, <- Nat.add_assoc, <- Nat.add_assoc, kd2]
 have dlo := du.take i
 have lo0 := z12 (B := 1000000000) (by omega) _ dlo
 have lo1 := z4j (B := 1000000000) (by omega) _ dlo
 rw [List.length_take, Nat.min_eq_left (by omega)] at lo1
 have dmi := (du.drop i).take (n + 3)
 have mi0 := z12 (B := 1000000000) (by omega) _ dmi
 have dhi := du.drop (i + (n + 3))
 have hi0 := z12 (B := 1000000000) (by omega) _ dhi
 have p0 : 0 < (1000000000 : Int) ^ i := Int.pow_pos (by omega)
 have pn0 : 0 < (1000000000 : Int) ^ n := Int.pow_pos (by omega)
 have pn3 : 0 < (1000000000 : Int) ^ (n + 3) := Int.pow_pos (by omega)
 have ep1 : (1000000000 : Int) ^ (i + 1) = 1000000000 ^ i * 1000000000 := Int.pow_succ _ _
 have ep3 : (1000000000 : Int) ^ (n + 3) = 1000000000 ^ (n + 2) * 1000000000 := Int.pow_succ _ _
 have dul := (du.drop i).take n
 have ul0 := z12 (B := 1000000000) (by omega) _ dul
 have ul1 := z4j (B := 1000000000) (by omega) _ dul
 rw [List.length_take, List.length_drop, Nat.min_eq_left (by omega)] at ul1
 have dvl := dv.take n
 have vl0 := z12 (B := 1000000000) (by omega) _ dvl
 have vl1 := z4j (B := 1000000000) (by omega) _ dvl
 rw [List.length_take, Nat.min_eq_left (by omega)] at vl1
 have hmin := fun (g : Int) (hg : 0 <= g /\ g < 1000000000) => zkj (K := K) (u := u) (v := v) (k := i) (q := g) hk hl hK hg du dv
 have hplu := fun (u1 : List Int) (h1 : u1.length = u.length) (d1 : DigB 1000000000 u1) => zlk (K := K) (u := u1) (v := v) (k := i) (by omega) (by omega) hK d1 dv
 rw [show i + v.length = i + n + 2 by omega, show i + n + 2 - 1 = i + n + 1 by omega, show v.length - 1 = n + 1 by omega]
 generalize hVV : valB 1000000000 v = V at *
 generalize hMM : valB 1000000000 ((u.drop i).take (n + 3)) = M at *
 generalize hLL : valB 1000000000 (u.take i) = LO at *
 generalize hHH : valB 1000000000 (u.drop (i + (n + 3))) = HI at *
 have hV0 : 0 < V := by
  have := z3a (Int.le_of_lt pn0) (show 1 <= 1000000000 * v.getD (n + 1) 0 + v.getD n 0 by omega)
  omega
 have hHI : HI = 0 := by
  rw [ep3] at hmid
  rw [ep1] at hu
  exact kd3 hu hmid lo0 p0 (Int.pow_pos (by omega)) hVn mi0 hi0
 rw [hHI] at hmid
 have hMV : M < 1000000000 * V := by
  rw [ep1] at hu
  exact kd4 hu hmid lo0 p0
 -- the true digit
 have q0 : 0 <= M / V := Int.ediv_nonneg mi0 (by omega)
 have qB : M / V < 1000000000 := Int.ediv_lt_of_lt_mul hV0 hMV
 have hdm := Int.emod_add_mul_ediv M V
 have r0 := Int.emod_nonneg M (show V ≠ 0 by omega)
 have r1 := Int.emod_lt_of_pos M hV0
 generalize hq : M / V = q at *
 generalize M % V = rr at *
 have hkn : Kn 1000000000 (1000000000 ^ n) (v.getD (n + 1) 0) (v.getD n 0) (valB 1000000000 (v.take n)) (u.getD (i + n + 2) 0 * 1000000000 + u.getD (i + n + 1) 0) (u.getD (i + n) 0) (valB 1000000000 ((u.drop i).take n)) q := by
  refine ⟨by omega, pn0, hv1, ev2.1, ev2.2, vl0, vl1, by omega, et3.1, et3.2, ul0, ul1, q0, qB, ?_, ?_⟩
  ·rw [<- hM, <- hV]; exact kd5 hdm r0
  ·rw [<- hM, <- hV]; exact kd5' hdm r1
 have ht : u.getD (i + n + 2) 0 * 1000000000 + u.getD (i + n + 1) 0 < 1000000000 * v.getD (n + 1) 0 + 1000000000 := kd6 hM hV hMV pn0 ev2.2 et3.1 ul0 vl1
 generalize htop : u.getD (i + n + 2) 0 * 1000000000 + u.getD (i + n + 1) 0 = top at *
 have htd := Int.emod_add_mul_ediv top (v.getD (n + 1) 0)
 have hfirst := hkn.first
 have g2 : top / v.getD (n + 1) 0 < 2000000000 := Int.ediv_lt_of_lt_mul (by omega) (by omega)
 have rt0 := Int.emod_nonneg top (show v.getD (n + 1) 0 ≠ 0 by omega)
 have rt1 := Int.emod_lt_of_pos top (show 0 < v.getD (n + 1) 0 by omega)
 obtain ⟨g, w1, w2, w3, w4⟩ := zkk (K := K) (u := u) (v := v) (k := i) (P := 1000000000 ^ n) (vl := valB 1000000000 (v.take n)) (top := top) (ul := valB 1000000000 ((u.drop i).take n)) (q := q) (g := top / v.getD (n + 1) 0) (r := top % v.getD (n + 1) 0) hn hk hl hK
  (by rw [hnv, show n + 2 - 1 = n + 1 by omega, show n + 2 - 2 = n by omega, show i + (n + 2) - 2 = i + n by omega]; exact hkn) (by rw [hnv, show n + 2 - 1 = n + 1 by omega]; omega) (by rw [hnv, show n + 2 - 1 = n + 1 by omega]; omega) (by rw [hnv, show n + 2 - 1 = n + 1 by omega, Int.mul_comm]; omega) hfirst g2 (by omega)
 obtain ⟨b, u1, m1, m2, m3, m4, m5, m6, m7⟩ := hmin g (by omega)
 have hmid1 := zhi u1 i (n + 3) (by omega)
 have dm1 := (m4.drop i).take (n + 3)
 have m10 := z12 (B := 1000000000) (by omega) _ dm1
 have m11 := z4j (B := 1000000000) (by omega) _ dm1
 rw [List.length_take, List.length_drop, Nat.min_eq_left (by omega)] at m11
 rw [show i + (n + 3) = i + (v.length + 1) by omega, m6, show i + (v.length + 1) = i + (n + 3) by omega, hHH, hHI, m5, hLL] at hmid1
 rw [show i + (v.length + 1) = i + (n + 3) by omega, Int.pow_add] at m7
 generalize hM1 : valB 1000000000 ((u1.drop i).take (n + 3)) = M1 at *
 have hM1e : M1 = M - g * V + 1000000000 ^ (n + 3) * b := kd7 p0 hmid1 m7 hmid
 rcases m2 with rfl | rfl
 ·-- no borrow: the guess was right
  have hgq : g = q := kd8 hdm r1 hV0 hM1e m10 w2
  subst hgq
  have hM1f : M1 = M - g * V := by rw [hM1e]; omega
  exact ⟨g, false, u1, u1, g, w1, q0, w4, by simpa using m1, by simp, by simp, q0, qB, m3, m4, kd12 hmid1 hM1f hmid, kd13 p0 hmid1 hM1f hdm r1 lo1, hv1, ev1.2⟩
 ·have hgq : g = q + 1 := kd9 hdm r0 hM1e m11 w2 w3
  subst hgq
  obtain ⟨u2, c, s1, s2, s3, s4, s5, s6, s7⟩ := hplu u1 m3 m4
  have hmid2 := zhi u2 i (n + 3) (by omega)
  have dm2 := (s4.drop i).take (n + 3)
  have m20 := z12 (B := 1000000000) (by omega) _ dm2
  have m21 := z4j (B := 1000000000) (by omega) _ dm2
  rw [List.length_take, List.length_drop, Nat.min_eq_left (by omega)] at m21
  rw [show i + (n + 3) = i + (v.length + 1) by omega, s6, m6, show i + (v.length + 1) = i + (n + 3) by omega, hHH, hHI, s5, m5, hLL] at hmid2
  rw [show i + (v.length + 1) = i + (n + 3) by omega, Int.pow_add] at s7
  generalize hM2 : valB 1000000000 ((u2.drop i).take (n + 3)) = M2 at *
  have hM2e : M2 = M - q * V + 1000000000 ^ (n + 3) * (1 - c) := kd10 p0 hmid2 s7 hmid1 hM1e
  have hc : c = 1 := kd11 hdm r0 hM2e m21 s2
  subst hc
  have hM2f : M2 = M - q * V := by rw [hM2e]; omega
  exact ⟨q + 1, true, u1, u2, q, w1, by omega, w4, by simpa using m1, fun _ => ⟨s1, by omega⟩, by simp, q0, qB, by omega, s4, kd12 hmid2 hM2f hmid, kd13 p0 hmid2 hM2f hdm r1 lo1, hv1, ev1.2⟩
end Go.Am.Tryd
/- Plain law: Div and Gcd of the program's numbers. -/
namespace Go.Am.Tryd
open Go Go.Am Go.Proofs
variable {K : Nat}
theorem kf1 {Y p Z V U U2 O q : Int} (h : U + O * V = Z) (h2 : U2 + p * (q * V) = U) : U2 + (O + p * (q - 0)) * V = Z := by grind
theorem zft {o w v u1 u2 : List Int} {i m : Nat} {g q a1 a2 v1 : Int} {b : Bool} (hn : 2 <= v.length) (hk : i + v.length + 1 <= w.length) (hl : w.length <= 8000000) (ho : i < o.length) (h1 : w.getD (i + v.length) 0 = a1) (h2 : w.getD (i + v.length - 1) 0 = a2) (h3 : v.getD (v.length - 1) 0 = v1)
  (b1 : 0 <= a1 /\ a1 < 1000000000) (b2 : 0 <= a2 /\ a2 < 1000000000) (b3 : 1 <= v1 /\ v1 < 1000000000) (hg : 0 <= g /\ g < 1000000000) (hq : 0 <= q /\ q < 1000000000) (d1 : z1x K v w i K ((a1 * 1000000000 + a2) / v1) ((a1 * 1000000000 + a2) % v1) = some g) (d4 : z3f K w v i g = some (b, u1)) (d5 : b = true -> z3x K u1 v i = some u2 /\ q = g - 1) (d6 : b = false -> u2 = u1 /\ q = g) :
  z1p K v (m + 1) o w i = z1p K v m (o.set i q) u2 ((i : Int) - 1) := by
 have t1 : ((i : Int) + (v.length : Int)).toNat = i + v.length := by omega
 have t2 : ((i : Int) + (v.length : Int) - 1).toNat = i + v.length - 1 := by omega
 have t3 : ((v.length : Int) - 1).toNat = v.length - 1 := by omega
 have hq1 : 0 <= (a1 * 1000000000 + a2) / v1 := Int.ediv_nonneg (by omega) (by omega)
 have hq2 : (a1 * 1000000000 + a2) / v1 <= a1 * 1000000000 + a2 := Int.ediv_le_self _ (by omega)
 rw [z1p]
 cases b with
 | true =>
  obtain ⟨p1, p2⟩ := d5 rfl
  subst p2
  clear d5 d6
  simp (discharger := omega) only [runL, t1, t2, t3, h1, h2, h3, d1, d4, p1]
 | false =>
  obtain ⟨p1, p2⟩ := d6 rfl
  subst p1 p2
  clear d5 d6
  simp (discharger := omega) only [runL, t1, t2, t3, h1, h2, h3, d1, d4, Bool.false_eq_true]
theorem zkl {u v : List Int} {J : Nat} (hn : 2 <= v.length) (hJ : J + v.length = u.length) (hJ1 : 1 <= J) (hl : u.length <= 8000000) (hK : 2000000000 < K) (du : DigB 1000000000 u) (cv : CanB 1000000000 v) (hu : valB 1000000000 u < 1000000000 ^ J * valB 1000000000 v) :
  ∃ r : List Int × List Int, z1p K v K (List.replicate J 0) u ((J : Int) - 1) = some r /\ r.1.length = J /\ r.2.length = u.length /\ DigB 1000000000 r.1 /\ DigB 1000000000 r.2 /\ valB 1000000000 r.2 + valB 1000000000 r.1 * valB 1000000000 v = valB 1000000000 u /\ valB 1000000000 r.2 < valB 1000000000 v := by
 refine za1 (fun m (s : List Int × List Int × Int) => z1p K v m s.1 s.2.1 s.2.2) (fun s => ∃ j : Nat, s.2.2 = (j : Int) - 1 /\ j <= J /\ s.1.length = J /\ s.2.1.length = u.length /\ DigB 1000000000 s.1 /\ DigB 1000000000 s.2.1 /\ (∀ i < j, s.1.getD i 0 = 0) /\ valB 1000000000 s.2.1 + valB 1000000000 s.1 * valB 1000000000 v = valB 1000000000 u /\ valB 1000000000 s.2.1 < 1000000000 ^ j * valB 1000000000 v) (fun s => (s.2.2 + 1).toNat) _ ?_ ((List.replicate J 0, u, (J : Int) - 1) : List Int × List Int × Int) (by dsimp only; omega) ⟨J, rfl, Nat.le_refl _, by simp, rfl, .zeros (by omega) _, du, fun i hi => by simp [zAb, hi], by simp [z9d], hu⟩
 rintro m ⟨o, w, _⟩ ⟨j, rfl, hj, h1, h2, h3, h4, h5, h6, h7⟩
 dsimp only at h1 h2 h3 h4 h5 h6 h7 ⊢
 by_cases h0 : j = 0
 ·subst h0
  left
  rw [Int.pow_zero, Int.one_mul] at h7
  exact ⟨(o, w), by rw [z1p]; simp (discharger := omega) only [runL], h1, h2, h3, h4, h6, h7⟩
 ·right
  obtain ⟨i, rfl⟩ : ∃ i, j = i + 1 := ⟨j - 1, by omega⟩
  have e1 : ((i + 1 : Nat) : Int) - 1 = i := by omega
  rw [e1]
  obtain ⟨g, b, u1, u2, q, d1, d2, d3, d4, d5, d6, d7, d8, d9, d10, d11, d12, d13, d14⟩ := zhk (K := K) (u := w) (v := v) (i := i) hn (by omega) (by omega) hK h4 cv h7
  have hz := h5 i (by omega)
  have hset := z6f 1000000000 o i q (by omega)
  rw [hz] at hset
  have et1 := z1s (by omega) h4 (i + v.length)
  have et2 := z1s (by omega) h4 (i + v.length - 1)
  have hrun := zft (m := m) (o := o) (a1 := w.getD (i + v.length) 0) (a2 := w.getD (i + v.length - 1) 0) (v1 := v.getD (v.length - 1) 0) hn (show i + v.length + 1 <= w.length by omega) (by omega) (by omega) rfl rfl rfl et1 et2 ⟨d13, d14⟩ ⟨d2, d3⟩ ⟨d7, d8⟩ d1 d4 d5 d6
  refine ⟨(o.set i q, u2, (i : Int) - 1), hrun, by dsimp only; omega, i, rfl, by omega, by simp [h1], by dsimp only; omega, h3.set _ ⟨d7, d8⟩, d10, fun k hk => by dsimp only; rw [z7c (by omega), if_neg (by omega)]; exact h5 k (by omega), ?_, d12⟩
  dsimp only
  rw [hset]
  exact kf1 (Y := 0) h6 d11
theorem z8t {m n : Int} {x y : List Int} (hx : NumN m x) (hy : NumN n y) (h : m <= n) : x.length <= y.length := zdi (B := 1000000000) (by omega) hx.1 hy.1.1 (by rw [hx.2, hy.2]; exact h)
theorem kf2 {a b c : Int} (hc : 0 < c) (hb : 0 < b) : (a * c) / (b * c) = a / b /\ (a * c) % (b * c) = (a % b) * c := by
 refine ⟨Int.mul_ediv_mul_of_pos_left a b hc, ?_⟩
 rw [Int.mul_comm a c, Int.mul_comm b c, Int.mul_emod_mul_of_pos a b hc, Int.mul_comm]
theorem zf2 {x y : List Int} {a b : Int} (hx : x.length <= 3000000) (hy : y.length <= 3000000) (hK : 2000000000 < K) (nx : NumN a x) (ny : NumN b y) (hb : 0 < b) :
  ∃ q r, z43 K x y = some (q, r) /\ NumN (a / b) q /\ NumN (a % b) r /\ q.length <= x.length /\ r.length <= y.length := by
 have a0 := nx.nonneg
 suffices h : ∃ q r, z43 K x y = some (q, r) /\ NumN (a / b) q /\ NumN (a % b) r by
  obtain ⟨q, r, h1, h2, h3⟩ := h
  have e1 := Int.emod_lt_of_pos a hb
  exact ⟨q, r, h1, h2, h3, z8t h2 nx (Int.ediv_le_self _ a0), z8t h3 ny (by omega)⟩
 have hcmp := zey (K := K) (by omega) (by omega) hK nx ny
 unfold z43
 rw [hcmp, z0i]
 by_cases hab : a < b
 ·refine ⟨[], x, ?_, by rw [Int.ediv_eq_zero_of_lt a0 hab]; exact .nil, by rw [Int.emod_eq_of_lt a0 hab]; exact nx⟩
  simp (discharger := omega) only [runL]
 ·have hcond : decide ((if a < b then (-1 : Int) else if a = b then 0 else 1) < 0) = false := by
   rw [if_neg hab]; split <;> rfl
  rw [hcond]
  simp only [Bool.false_eq_true, if_false]
  have hy0 : y.length ≠ 0 := fun e => by have := ny.len0.1 e; omega
  by_cases h1 : y.length = 1
  ·obtain ⟨d, rfl⟩ := List.length_eq_one_iff.1 h1
   have hd := ny.1.1 d (by simp)
   have hbd : b = d := by rw [<- ny.2]; simp [valB]
   subst hbd
   obtain ⟨q, r, s1, s2, s3, s4, s5⟩ := zez (K := K) (x := x) (a := a) (d := b) (by omega) hK nx (by omega)
   refine ⟨q, r, ?_, s2, s3⟩
   have e0 : idx [b] 0 = some b := rfl
   rw [if_pos (by simp), e0, z0i, s1, z0i]
  ·rw [if_neg (by simp; omega)]
   obtain ⟨yr, d, hyd⟩ := z9e y (by rintro rfl; exact hy0 rfl)
   have hd := ny.1.1 d (by rw [hyd]; simp)
   have hidx : idx y (z05 .i64 ((y.length : Int) - 1)) = some d := by
    rw [k64 (by omega) (by omega), idxI (by omega) (by omega)]
    congr 1
    subst hyd
    rw [show ((((yr ++ [d]).length : Nat) : Int) - 1).toNat = yr.length by simp, zAb]
    simp
   have hby1 : 1 <= 1000000000 / (d + 1) := by
    rw [Int.le_ediv_iff_mul_le (by omega)]; omega
   have hby2 : 1000000000 / (d + 1) <= 1000000000 := Int.ediv_le_self _ (by omega)
   have hd1 : d ≠ 0 := fun e => ny.1.2 (by rw [hyd, e]; simp)
   have hby3 : 1000000000 / (d + 1) < 1000000000 := Int.ediv_lt_of_lt_mul (by omega) (by omega)
   rw [hidx, z0i, u64w (a := d) (by omega) (by omega), ku64 (a := d + 1) (by omega) (by omega), if_pos (by omega), zmm (by omega), ku64 (by omega) (by omega), lta]
   rw [u32w (by omega) (by omega)]
   generalize 1000000000 / (d + 1) = c at hby1 hby2 hby3
   have nc : NumN c [c] := .one (by omega) hby3
   obtain ⟨u0, m1, m2, m3⟩ := zb3 (K := K) (x := x) (y := [c]) (by simp; omega) hK nx nc
   obtain ⟨v, w1, w2, w3⟩ := zb3 (K := K) (x := y) (y := [c]) (by simp; omega) hK ny nc
   simp only [List.length_singleton] at m3 w3
   have ac : a <= a * c := by have := z3a a0 hby1; omega
   have bc : b <= b * c := by have := z3a (show 0 <= b by omega) hby1; omega
   have abc : b * c <= a * c := Int.mul_le_mul_of_nonneg_right (by omega) (by omega)
   have lx := z8t nx m2 ac
   have ly := z8t ny w2 bc
   have hy2 : 2 <= y.length := by omega
   have hv2 : 2 <= v.length := by omega
   have lv := z8t w2 m2 abc
   have hl0 : z3j K x K (u0 ++ [0]) = some (u0 ++ [0]) := by
    obtain ⟨k, rfl⟩ : ∃ k, K = k + 1 := ⟨K - 1, by omega⟩
    rw [z3j]
    have e : decide (((u0 ++ [0]).length : Int) <= (x.length : Int)) = false := decide_eq_false (by simp; omega)
    rw [e]; rfl
   have du : DigB 1000000000 (u0 ++ [0]) := m2.1.1.snoc (by omega)
   have hvu : valB 1000000000 (u0 ++ [0]) = a * c := by rw [z88, m2.2]; omega
   have hlen : (u0 ++ [(0 : Int)]).length = u0.length + 1 := by simp
   obtain ⟨J, hJ⟩ : ∃ J, J + v.length = u0.length + 1 := ⟨u0.length + 1 - v.length, by omega⟩
   have hbound : a * c < 1000000000 ^ J * (b * c) := by
    have b1 := z4j (B := 1000000000) (by omega) u0 m2.1.1
    have b2 := zh8 (B := 1000000000) (by omega) w2.1 (by intro e; rw [e] at hv2; simp at hv2)
    rw [m2.2] at b1
    rw [w2.2] at b2
    have pJ : (0 : Int) < 1000000000 ^ J := Int.pow_pos (by omega)
    have b3 := z3a (Int.le_of_lt pJ) b2
    rw [<- Int.pow_add, show J + (v.length - 1) = u0.length by omega] at b3
    omega
   obtain ⟨⟨o, w⟩, l1, l2, l3, l4, l5, l6, l7⟩ := zkl (K := K) (u := u0 ++ [0]) (v := v) (J := J) (by omega) (by omega) (by omega) (by omega) hK du w2.1 (by rw [hvu, w2.2]; exact hbound)
   dsimp only at l2 l3 l4 l5 l6 l7
   rw [hvu, w2.2] at l6
   rw [w2.2] at l7
   have o0 := z12 (B := 1000000000) (by omega) o l4
   have w0 := z12 (B := 1000000000) (by omega) w l5
   have hbc0 : 0 < b * c := Int.mul_pos hb (by omega)
   obtain ⟨q1, q2⟩ := zb4 (n := a * c) (d := b * c) (q := valB 1000000000 o) (r := valB 1000000000 w) hbc0 (by rw [Int.mul_comm (b * c)]; omega) w0 l7
   obtain ⟨k1, k2⟩ := kf2 (a := a) (b := b) (c := c) (by omega) hb
   rw [k1] at q1
   rw [k2] at q2
   obtain ⟨t, t1, t2, t3, t4⟩ := zb2 (K := K) (B := 1000000000) (l := w) (by omega) hK l5
   obtain ⟨z, z1, z2, z3, z4⟩ := zb2 (K := K) (B := 1000000000) (l := o) (by omega) hK l4
   obtain ⟨rq, rr, s1, s2, s3, s4, s5⟩ := zez (K := K) (x := t) (a := a % b * c) (d := c) (by omega) hK ⟨t2, by rw [t3]; exact q2⟩ (by omega)
   rw [Int.mul_ediv_cancel _ (by omega)] at s2
   refine ⟨z, rq, ?_, ⟨z2, by rw [z3]; exact q1⟩, s2⟩
   rw [m1, z0i, if_pos (by simp; omega), w1, z0i, hl0, z0i, tu1a, lta, hlen]
   have e1 : (((u0.length + 1 : Nat) : Int) - (v.length : Int)) = (J : Int) := by omega
   rw [e1, k64 (by omega) (by omega), if_pos (by omega), lta, k64 (by omega) (by omega), Int.toNat_natCast, l1, z0i, tu2a, t1, z0i, s1, z0i, z1, z0i]
theorem zhl (a b : Nat) (hb : 0 < b) : Nat.gcd b (a % b) = Nat.gcd a b := by
 rw [Nat.gcd_comm a b, Nat.gcd_rec b a, Nat.gcd_comm]
theorem zf3 : ∀ (n k : Nat) {x y : List Int} {a b : Nat}, a * b < 2 ^ n -> b <= a -> n + 2 < k -> x.length <= 3000000 -> y.length <= 3000000 -> 2000000000 < K -> NumN a x -> NumN b y -> ∃ z, z14 K k x y = some z /\ NumN (Nat.gcd a b : Nat) z := by
 intro n
 induction n with
 | zero =>
  intro k x y a b hab hba hk hx hy hK nx ny
  have hb : b = 0 := by
   rcases Nat.eq_zero_or_pos b with h | h
   ·exact h
   ·have := Nat.mul_pos (show 0 < a by omega) h; omega
  subst hb
  obtain ⟨k, rfl⟩ : ∃ m, k = m + 1 := ⟨k - 1, by omega⟩
  have : y = [] := ny.nil_iff.2 rfl
  subst this
  exact ⟨x, by rw [z14]; rfl, by rw [Nat.gcd_zero_right]; exact nx⟩
 | succ n ih =>
  intro k x y a b hab hba hk hx hy hK nx ny
  obtain ⟨k, rfl⟩ : ∃ m, k = m + 1 := ⟨k - 1, by omega⟩
  by_cases hb : b = 0
  ·subst hb
   have : y = [] := ny.nil_iff.2 rfl
   subst this
   exact ⟨x, by rw [z14]; rfl, by rw [Nat.gcd_zero_right]; exact nx⟩
  ·obtain ⟨q, r, d1, d2, d3, d4, d5⟩ := zf2 (K := K) hx hy hK nx ny (by omega)
   have e : ((a : Int) % (b : Int)) = ((a % b : Nat) : Int) := by simp
   rw [e] at d3
   have hr := Nat.mod_lt a (show 0 < b by omega)
   have hprod : b * (a % b) < 2 ^ n := by
    have h1 : b + a % b <= a := by
     have h2 := Nat.div_add_mod a b
     have h3 : 1 <= a / b := (Nat.le_div_iff_mul_le (by omega)).2 (by omega)
     have h4 := Nat.mul_le_mul_left b h3
     omega
    have h5 := Nat.mul_le_mul_left b (show 2 * (a % b) <= a by omega)
    rw [Nat.pow_succ] at hab
    have h6 : b * (2 * (a % b)) = 2 * (b * (a % b)) := by grind
    rw [Nat.mul_comm a b] at hab
    omega
   obtain ⟨z, z1, z2⟩ := ih k hprod (by omega) (by omega) hy (by omega) hK ny d3
   refine ⟨z, ?_, by rw [<- zhl a b (by omega)]; exact z2⟩
   have hy0 : y.length ≠ 0 := fun e => by have := ny.len0.1 e; omega
   rw [z14, if_pos (decide_eq_true (by omega)), d1, z0i, z1]
theorem zdl {n : Nat} {x : List Int} (h : NumN n x) : n < 2 ^ (30 * x.length) := by
 have h1 := z4j (B := 1000000000) (by omega) x h.1.1
 rw [h.2] at h1
 have h2 : ((1000000000 : Nat) : Int) ^ x.length = ((1000000000 ^ x.length : Nat) : Int) := by simp
 have h3 : n < 1000000000 ^ x.length := by
  have h4 : (1000000000 : Int) = ((1000000000 : Nat) : Int) := rfl
  rw [h4, h2] at h1
  omega
 have h5 : (1000000000 : Nat) ^ x.length <= (2 ^ 30) ^ x.length := Nat.pow_le_pow_left (by decide) _
 rw [<- Nat.pow_mul] at h5
 omega
theorem zju {x y : List Int} {a b : Nat} (hx : x.length <= 3000000) (hy : y.length <= 3000000) (hK : 2000000000 < K) (nx : NumN a x) (ny : NumN b y) : ∃ z, z5p K x y = some z /\ NumN (Nat.gcd a b : Nat) z := by
 have hp : a * b < 2 ^ (30 * x.length + 30 * y.length) := by
  rw [Nat.pow_add]
  have h1 := zdl nx
  have h2 := zdl ny
  exact Nat.mul_lt_mul_of_lt_of_le h1 (Nat.le_of_lt h2) (Nat.pow_pos (by omega))
 have key : ∃ z, z14 K K x y = some z /\ NumN (Nat.gcd a b : Nat) z := by
  by_cases hba : b <= a
  ·exact zf3 _ K hp hba (by omega) hx hy hK nx ny
  ·obtain ⟨k, hk⟩ : ∃ k, K = k + 1 := ⟨K - 1, by omega⟩
   obtain ⟨q, r, d1, d2, d3, d4, d5⟩ := zf2 (K := K) hx hy hK nx ny (by omega)
   rw [Int.emod_eq_of_lt (by omega) (by omega)] at d3
   have hrx : r = x := d3.inj nx
   subst hrx
   obtain ⟨z, z1, z2⟩ := zf3 (K := K) _ k (by rw [Nat.mul_comm]; exact hp) (by omega) (by omega) hy hx hK ny nx
   refine ⟨z, ?_, by rw [Nat.gcd_comm]; exact z2⟩
   have hy0 : y.length ≠ 0 := fun e => by have := ny.len0.1 e; omega
   have : z14 K K r y = z14 K (k + 1) r y := by rw [<- hk]
   rw [this, z14, if_pos (decide_eq_true (by omega)), d1, z0i, z1]
 obtain ⟨z, z1, z2⟩ := key
 exact ⟨z, by unfold z5p; rw [z1]; rfl, z2⟩
end Go.Am.Tryd
/- Plain law: the reference's quotient and divisor of texts. -/
namespace Go.Am.Tryd
open Go Go.Am Go.Proofs
variable {K : Nat}
theorem zhm {c : Int} (h : 48 <= c /\ c <= 57) : z04 (Utf8.encode c) = [c] /\ (Utf8.encode c).size = 1 := by
 obtain ⟨n, rfl⟩ : ∃ n : Nat, c = n := ⟨c.toNat, by omega⟩
 have hn : n = 48 \/ n = 49 \/ n = 50 \/ n = 51 \/ n = 52 \/ n = 53 \/ n = 54 \/ n = 55 \/ n = 56 \/ n = 57 := by omega
 rcases hn with rfl | rfl | rfl | rfl | rfl | rfl | rfl | rfl | rfl | rfl <;> exact ⟨by decide +kernel, by decide +kernel⟩
theorem ks1 {R b d R0 : Int} (h : R + (d - 48) * b = R0) : R - b + (d + 1 - 48) * b = R0 := by grind
theorem zll {b : zAd} {r0 : zAd} (hb : b.size <= 500000) (hr : r0.size <= 1000000) (hK : 2000000000 < K) (cb : CanT b) (c0 : CanT r0) (hb0 : 0 < numT b) (hlt : numT r0 < 10 * numT b) :
  ∃ r : zAd × Int, z2v K b K r0 48 = some r /\ CanT r.1 /\ (48 <= r.2 /\ r.2 <= 57) /\ numT r.1 + (r.2 - 48) * numT b = numT r0 /\ numT r.1 < numT b := by
 refine za1 (fun k (s : zAd × Int) => z2v K b k s.1 s.2) (fun s => CanT s.1 /\ s.1.size <= 1000000 /\ (48 <= s.2 /\ s.2 <= 57) /\ numT s.1 + (s.2 - 48) * numT b = numT r0) (fun s => (57 - s.2).toNat) _ ?_ ((r0, 48) : zAd × Int) (by dsimp only; omega) ⟨c0, hr, by dsimp only; omega, by dsimp only; omega⟩
 rintro k ⟨r, d⟩ ⟨h1, h2, h3, h4⟩
 dsimp only at h1 h2 h3 h4 ⊢
 have hcmp := zjs (K := K) h1 cb
 have r0' := z37 h1.2.1
 by_cases hge : numT b <= numT r
 ·right
  obtain ⟨t, t1, t2, t3⟩ := zhg (K := K) (a := r) (b := b) h2 (z3o h1 cb hge) (by have := h1.1; omega) (by omega) h1.2.1 cb.2.1 hge
  have hd : d <= 56 := by
   refine Int.not_lt.1 fun hlt2 => ?_
   have : d = 57 := by omega
   subst this
   omega
  refine ⟨(t, d + 1), ?_, by dsimp only; omega, t2, ?_, by dsimp only; omega, by dsimp only; rw [t3]; exact ks1 h4⟩
  ·rw [z2v, hcmp, z0i]
   rw [if_pos (decide_eq_true (by rw [if_neg (by omega)]; split <;> omega)), t1, z0i, ku8 (by omega) (by omega)]
  ·dsimp only
   have := z3o h1 t2 (by rw [t3]; omega)
   omega
 ·left
  refine ⟨(r, d), ?_, h1, h3, h4, by dsimp only; omega⟩
  rw [z2v, hcmp, z0i]
  have e : decide ((if numT r < numT b then (-1 : Int) else if numT r = numT b then 0 else 1) >= 0) = false := by
   rw [if_pos (by omega)]; rfl
  rw [e]; rfl
theorem ks3 {Q b R R2 A c d : Int} (h : Q * b + R = A) (h2 : R2 + d * b = R * 10 + c) : (Q * 10 + d) * b + R2 = A * 10 + c := by grind
theorem zjc {a b r0 : zAd} {f : Nat} (ha : a.size <= 500000) (hb : b.size <= 500000) (hK : 2000000000 < K) (da : (z04 a).all digT = true) (cb : CanT b) (hb0 : 0 < numT b) (hf : f <= a.size) (c0 : CanT r0) (hs0 : r0.size <= 500000) (h0 : numT r0 = numB ((z04 a).take f)) (hlt : numT r0 < numT b) :
  ∃ r : zAd × zAd, z2w K a b K ⟨#[48]⟩ r0 f = some r /\ r.1.size <= a.size + 1 /\ 0 < r.1.size /\ (z04 r.1).all digT = true /\ CanT r.2 /\ numT r.1 * numT b + numT r.2 = numT a /\ numT r.2 < numT b := by
 have hn := z01 a
 refine za1 (fun k (s : zAd × zAd × Int) => z2w K a b k s.1 s.2.1 s.2.2) (fun s => ∃ i : Nat, s.2.2 = i /\ i <= a.size /\ 0 < s.1.size /\ s.1.size <= i + 1 /\ (z04 s.1).all digT = true /\ CanT s.2.1 /\ numT s.1 * numT b + numT s.2.1 = numB ((z04 a).take i) /\ numT s.2.1 < numT b /\ s.2.1.size <= 500000) (fun s => (a.size - s.2.2 : Int).toNat) _ ?_ ((⟨#[48]⟩, r0, (f : Int)) : zAd × zAd × Int) (by dsimp only; omega) ⟨f, rfl, hf, by show 0 < 1; omega, by show 1 <= f + 1; omega, rfl, c0, by rw [<- h0]; show numT ⟨#[48]⟩ * numT b + numT r0 = numT r0; rw [z5l]; omega, hlt, hs0⟩
 rintro k ⟨q, r, _⟩ ⟨i, rfl, h1, h2, h3, h4, h5, h6, h7, h8⟩
 dsimp only at h2 h3 h4 h5 h6 h7 h8 ⊢
 by_cases hi : i < a.size
 ·right
  have hc := zf1 da (i := i) (by omega)
  have hsn := zf0 (l := z04 a) (i := i) (by omega)
  generalize hcc : (z04 a).getD i 0 = c at hc hsn
  obtain ⟨e, he1, he2, he3⟩ : ∃ e, ssl a i ((i : Int) + 1) = some e /\ z04 e = [c] /\ e.size = 1 := by
   refine ⟨_, sslI (by omega) (by omega) (by omega), ?_, ?_⟩
   ·rw [z2o, Int.toNat_natCast, show ((i : Int) + 1).toNat - i = 1 by omega, List.drop_eq_getElem_cons (by omega), List.take_succ_cons, List.take_zero]
    rw [zAb, zAh (by omega)] at hcc
    simpa using hcc
   ·rw [<- z01, z2o, List.length_take, List.length_drop]; omega
  have hbr : z04 (r ++ e) = z04 r ++ [c] := by rw [z0u, he2]
  have hdr : (z04 (r ++ e)).all digT = true := by rw [hbr, List.all_append, h5.2.1]; simpa using digT_iff.2 hc
  have hsr : (r ++ e).size = r.size + 1 := by rw [<- z01, hbr, List.length_append, z01]; rfl
  obtain ⟨t, t1, t2, t3⟩ := zah (K := K) (s := r ++ e) (by omega) (by omega) (by omega) hdr
  have hnr : numT (r ++ e) = numT r * 10 + (c - 48) := by rw [zcn, hbr, zaf]; rfl
  have htl : numT t < 10 * numT b := by rw [t3, hnr]; omega
  have hts : t.size <= 1000000 := by
   have := z3o (b := t) (a := t) t2 t2 (Int.le_refl _)
   refine Nat.not_lt.1 fun hlt2 => ?_
   have g1 := zbv t2 (by omega)
   have g2 := zb6 hdr
   have g3 : (10 : Int) ^ (r ++ e).size <= 10 ^ (t.size - 1) := z6x (by omega) (by omega)
   omega
  obtain ⟨⟨r2, d⟩, s1, s2, s3, s4, s5⟩ := zll (K := K) (b := b) (r0 := t) hb hts hK cb t2 hb0 htl
  dsimp only at s2 s3 s4 s5
  obtain ⟨n1, n2⟩ := zhm s3
  have hbq : z04 (q ++ Utf8.encode d) = z04 q ++ [d] := by rw [z0u, n1]
  have hsq : (q ++ Utf8.encode d).size = q.size + 1 := by rw [<- z01, hbq, List.length_append, z01]; rfl
  have hr2s : r2.size <= 500000 := by
   have := z3o cb s2 (by omega)
   omega
  refine ⟨(q ++ Utf8.encode d, r2, (i : Int) + 1), ?_, by dsimp only; omega, i + 1, rfl, by omega, by dsimp only; omega, by dsimp only; omega, ?_, s2, ?_, s5, hr2s⟩
  ·rw [z2w, if_pos (decide_eq_true (by omega)), k64 (by omega) (by omega), he1, z0i, if_pos (by omega), t1, z0i, s1, z0i, tu2a, if_pos (by dsimp only; omega)]
  ·dsimp only; rw [hbq, List.all_append, h4]; simpa using digT_iff.2 s3
  ·dsimp only
   rw [hsn, zaf, zcn (q ++ Utf8.encode d), hbq, zaf]
   refine ks3 h6 ?_
   rw [s4, t3, hnr]
 ·left
  have : i = a.size := by omega
  subst this
  rw [List.take_of_length_le (by omega)] at h6
  exact ⟨(q, r), by rw [z2w]; simp (discharger := omega) only [runL], h3, h2, h4, h5, h6, h7⟩
theorem zf4 {a b : zAd} (ha : a.size <= 400000) (hb : b.size <= 400000) (hK : 2000000000 < K) (ca : CanT a) (cb : CanT b) (hb0 : 0 < numT b) :
  ∃ q r, z61 K a b = some (q, r) /\ CanT q /\ CanT r /\ numT q = numT a / numT b /\ numT r = numT a % numT b := by
 have hn := z01 a
 have hcb := cb.1
 obtain ⟨f, hf1, hf2, hf3⟩ : ∃ f : Nat, imin (a.size : Int) (z05 .i64 ((b.size : Int) - 1)) = f /\ f <= a.size /\ f <= b.size - 1 := by
  rw [k64 (by omega) (by omega)]
  unfold imin
  by_cases h : (b.size : Int) - 1 < a.size
  ·exact ⟨b.size - 1, by rw [if_pos h]; omega, by omega, by omega⟩
  ·exact ⟨a.size, by rw [if_neg h], by omega, by omega⟩
 have hx : ssl a 0 (f : Int) = some (a.extract 0 f) := by rw [sslI (by omega) (by omega) (by omega)]; rfl
 have hxb : z04 (a.extract 0 f) = (z04 a).take f := by rw [z2o]; simp
 have hxs : (a.extract 0 f).size = f := by rw [<- z01, hxb, List.length_take]; omega
 have hzb : z04 ((⟨#[48]⟩ : zAd) ++ a.extract 0 f) = 48 :: (z04 a).take f := by rw [z0u, hxb]; rfl
 have hzs : ((⟨#[48]⟩ : zAd) ++ a.extract 0 f).size = f + 1 := by rw [<- z01, hzb, List.length_cons, List.length_take]; omega
 have hzd : (z04 ((⟨#[48]⟩ : zAd) ++ a.extract 0 f)).all digT = true := by rw [hzb, List.all_cons, zb5 ca.2.1]; rfl
 obtain ⟨t, t1, t2, t3⟩ := zah (K := K) (s := (⟨#[48]⟩ : zAd) ++ a.extract 0 f) (by omega) (by omega) (by omega) hzd
 have hv : numT t = numB ((z04 a).take f) := by rw [t3, zcn, hzb, zag]; simp
 have hlt : numT t < numT b := by
  have d1 := zbu (zb5 ca.2.1 f)
  rw [List.length_take, Nat.min_eq_left (by omega)] at d1
  rw [hv]
  by_cases h2 : 2 <= b.size
  ·have d2 := zbv cb h2
   have d3 : (10 : Int) ^ f <= 10 ^ (b.size - 1) := z6x (by omega) hf3
   omega
  ·have : f = 0 := by omega
   subst this
   rw [List.take_zero, z8r]; exact hb0
 have hts : t.size <= 500000 := by
  have := z3o cb t2 (by omega)
  omega
 obtain ⟨⟨q, r⟩, s1, s2, s3, s4, s5, s6, s7⟩ := zjc (K := K) (a := a) (b := b) (r0 := t) (f := f) (by omega) (by omega) hK ca.2.1 cb hb0 hf2 t2 hts hv hlt
 dsimp only at s2 s3 s4 s5 s6 s7
 obtain ⟨u, u1, u2, u3⟩ := zah (K := K) (s := q) (by omega) s3 (by omega) s4
 obtain ⟨e1, e2⟩ := zb4 (n := numT a) (d := numT b) (q := numT q) (r := numT r) hb0 (by rw [Int.mul_comm]; omega) (z37 s5.2.1) s7
 refine ⟨u, r, ?_, u2, s5, by rw [u3, e1], e2⟩
 unfold z61
 rw [hf1, hx, z0i, if_pos (by rw [hxs]; show 1 + f <= _; omega), t1, z0i, s1, z0i, tu2a, u1, z0i]
theorem zf5 : ∀ (n k : Nat) {x y : zAd} {a b : Nat}, a * b < 2 ^ n -> b <= a -> n + 2 < k -> x.size <= 400000 -> y.size <= 400000 -> 2000000000 < K -> CanT x -> CanT y -> numT x = a -> numT y = b -> ∃ z, z1i K k x y = some z /\ CanT z /\ numT z = (Nat.gcd a b : Nat) := by
 intro n
 have hend : ∀ (k : Nat) {x y : zAd} {a : Nat}, 0 < k -> CanT x -> CanT y -> numT x = a -> numT y = (0 : Nat) -> ∃ z, z1i K k x y = some z /\ CanT z /\ numT z = (Nat.gcd a 0 : Nat) := by
  intro k x y a hk cx cy nx ny
  obtain ⟨k, rfl⟩ : ∃ m, k = m + 1 := ⟨k - 1, by omega⟩
  have : y = ⟨#[48]⟩ := (zb8 cy).1 (by simpa using ny)
  subst this
  have e : sEq (⟨#[48]⟩ : zAd) ⟨#[48]⟩ = true := sEq_iff.2 rfl
  exact ⟨x, by rw [z1i, e]; rfl, cx, by rw [Nat.gcd_zero_right]; exact nx⟩
 induction n with
 | zero =>
  intro k x y a b hab hba hk hx hy hK cx cy nx ny
  have hb : b = 0 := by
   rcases Nat.eq_zero_or_pos b with h | h
   ·exact h
   ·have := Nat.mul_pos (show 0 < a by omega) h; omega
  subst hb
  exact hend k (by omega) cx cy nx ny
 | succ n ih =>
  intro k x y a b hab hba hk hx hy hK cx cy nx ny
  by_cases hb : b = 0
  ·subst hb; exact hend k (by omega) cx cy nx ny
  ·obtain ⟨k, rfl⟩ : ∃ m, k = m + 1 := ⟨k - 1, by omega⟩
   obtain ⟨q, r, d1, d2, d3, d4, d5⟩ := zf4 (K := K) hx hy hK cx cy (by omega)
   rw [nx, ny] at d5
   have e : ((a : Int) % (b : Int)) = ((a % b : Nat) : Int) := by simp
   rw [e] at d5
   have hr := Nat.mod_lt a (show 0 < b by omega)
   have hprod : b * (a % b) < 2 ^ n := by
    have h1 : b + a % b <= a := by
     have h2 := Nat.div_add_mod a b
     have h3 : 1 <= a / b := (Nat.le_div_iff_mul_le (by omega)).2 (by omega)
     have h4 := Nat.mul_le_mul_left b h3
     omega
    have h5 := Nat.mul_le_mul_left b (show 2 * (a % b) <= a by omega)
    rw [Nat.pow_succ] at hab
    have h6 : b * (2 * (a % b)) = 2 * (b * (a % b)) := by grind
    rw [Nat.mul_comm a b] at hab
    omega
   have hrs := z3o cy d3 (by rw [ny, d5]; omega)
   obtain ⟨z, z1, z2, z3⟩ := ih k hprod (by omega) (by omega) hy (by omega) hK cy d3 ny d5
   refine ⟨z, ?_, z2, by rw [<- zhl a b (by omega)]; exact z3⟩
   have e0 : sEq y ⟨#[48]⟩ = false := by
    cases e : sEq y ⟨#[48]⟩ with
    | false => rfl
    | true => rw [sEq_iff] at e; subst e; rw [z5l] at ny; omega
   rw [z1i, e0]
   simp only [Bool.not_false, if_true]
   rw [d1, z0i, z1]
theorem zbw {n : Nat} {x : zAd} (h : (z04 x).all digT = true) (hn : numT x = n) : n < 2 ^ (4 * x.size) := by
 have h1 := zb6 h
 rw [hn] at h1
 have h2 : ((10 : Nat) : Int) ^ x.size = ((10 ^ x.size : Nat) : Int) := by simp
 have h3 : n < 10 ^ x.size := by
  have h4 : (10 : Int) = ((10 : Nat) : Int) := rfl
  rw [h4, h2] at h1
  omega
 have h5 : (10 : Nat) ^ x.size <= (2 ^ 4) ^ x.size := Nat.pow_le_pow_left (by decide) _
 rw [<- Nat.pow_mul] at h5
 omega
theorem zjv {x y : zAd} {a b : Nat} (hx : x.size <= 400000) (hy : y.size <= 400000) (hK : 2000000000 < K) (cx : CanT x) (cy : CanT y) (nx : numT x = a) (ny : numT y = b) : ∃ z, z6t K x y = some z /\ CanT z /\ numT z = (Nat.gcd a b : Nat) := by
 have hp : a * b < 2 ^ (4 * x.size + 4 * y.size) := by
  rw [Nat.pow_add]
  exact Nat.mul_lt_mul_of_lt_of_le (zbw cx.2.1 nx) (Nat.le_of_lt (zbw cy.2.1 ny)) (Nat.pow_pos (by omega))
 have key : ∃ z, z1i K K x y = some z /\ CanT z /\ numT z = (Nat.gcd a b : Nat) := by
  by_cases hba : b <= a
  ·exact zf5 _ K hp hba (by omega) hx hy hK cx cy nx ny
  ·obtain ⟨k, hk⟩ : ∃ k, K = k + 1 := ⟨K - 1, by omega⟩
   obtain ⟨q, r, d1, d2, d3, d4, d5⟩ := zf4 (K := K) hx hy hK cx cy (by omega)
   rw [Int.emod_eq_of_lt (z37 cx.2.1) (by omega)] at d5
   have hrx : r = x := z8q d3 cx d5
   subst hrx
   obtain ⟨z, z1, z2, z3⟩ := zf5 (K := K) _ k (by rw [Nat.mul_comm]; exact hp) (by omega) (by omega) hy hx hK cy cx ny nx
   refine ⟨z, ?_, z2, by rw [Nat.gcd_comm]; exact z3⟩
   have e0 : sEq y ⟨#[48]⟩ = false := by
    cases e : sEq y ⟨#[48]⟩ with
    | false => rfl
    | true => rw [sEq_iff] at e; subst e; rw [z5l] at ny; omega
   have : z1i K K r y = z1i K (k + 1) r y := by rw [<- hk]
   rw [this, z1i, e0]
   simp only [Bool.not_false, if_true]
   rw [d1, z0i, z1]
 obtain ⟨z, z1, z2⟩ := key
 exact ⟨z, by unfold z6t; rw [z1]; rfl, z2⟩
end Go.Am.Tryd
/- Plain law: a number's error. -/
namespace Go.Am.Tryd
open Go Go.Am Go.Proofs
variable {K : Nat} {s : zAd}
def digB (c : Int) : Bool := decide (48 <= c) && decide (c <= 57)
theorem zec : ∀ (l : List Int), runS (fun c (_ : Unit) => if digB c then .inr () else .inl (5 : Int)) l () = if l.all digB then .inr () else .inl 5
 | [] => rfl
 | x :: l => by
  simp only [runS, List.all_cons]
  by_cases hp : digB x = true
  ·simp only [hp, if_true, Bool.true_and, Sum.elim_inr]; exact zec l
  ·simp [hp]
theorem zlm {α : Type} (c : Int) (A B : Option α) : Option.bind (if (decide (c < 48)) = true then some true else some (decide (c > 57))) (tu1 fun x => if x = true then A else B) = if digB c = true then B else A := by
 unfold digB
 by_cases h1 : c < 48 <;> by_cases h2 : c > 57 <;> simp [h1, h2, tu1, show ¬ (48 : Int) <= c ↔ c < 48 by omega] <;> (try split) <;> (try omega) <;> rfl
theorem zfu (hs : s.size <= 1048576) (hK : s.size < K) : z1c K s K 0 = some (if (z04 s).all digB then .inr () else .inl 5) := by
 have hn := z01 s
 have h : z1c K s K 0 = _ := zev (z04 s) (fun k (_ : Unit) i => z1c K s k i) (fun c (_ : Unit) => if digB c then .inr () else .inl (5 : Int)) (fun _ _ => True)
  (fun k _ i x hx _ => by
   have hi := (zAi hx).1
   show z1c K s (k + 1) i = _
   rw [z1c, ziw hi, if_pos rfl, z5e hx]
   simp only [Option.bind_some, zlm, kw1 hi (by omega)]
   cases digB x <;> simp)
  (fun _ _ _ _ _ _ _ => trivial)
  (fun k _ i hi => by
   show z1c K s (k + 1) i = _
   rw [z1c, zeu hi]; simp) K () (by omega) trivial
 rw [h, zec]
theorem zhn (hs : s.size <= 1048576) (hK : s.size < K) : z13 K s K 0 = some (if (z04 s).all digB then .inr () else .inl 5) := by
 have hn := z01 s
 have h : z13 K s K 0 = _ := zev (z04 s) (fun k (_ : Unit) i => z13 K s k i) (fun c (_ : Unit) => if digB c then .inr () else .inl (5 : Int)) (fun _ _ => True)
  (fun k _ i x hx _ => by
   have hi := (zAi hx).1
   show z13 K s (k + 1) i = _
   rw [z13, <- hn, ziw hi, if_pos rfl, z95, z5e hx]
   simp only [Option.bind_some, zlm, kw1 hi (by omega)]
   cases digB x <;> simp)
  (fun _ _ _ _ _ _ _ => trivial)
  (fun k _ i hi => by
   show z13 K s (k + 1) i = _
   rw [z13, <- hn, zeu hi]; simp) K () (by omega) trivial
 rw [h, zec]
def natE (s : zAd) : Int := if s.size = 0 then 5 else if (z04 s).head? = some 48 /\ s.size > 1 then 5 else if !(z04 s).all digB then 5 else if s.size > 2000 then 2 else 0
theorem zln : sEq s ⟨#[]⟩ = (s.size == 0) := by
 cases hq : sEq s ⟨#[]⟩ with
 | true => rw [sEq_iff] at hq; subst hq; rfl
 | false =>
  have : s.size ≠ 0 := fun h => by
   have : s = ⟨#[]⟩ := by
    cases s with
    | mk d => congr 1; exact Array.eq_empty_of_size_eq_zero h
   rw [sEq_iff.2 this] at hq; cases hq
  simp [this]
theorem zho (h : s.size ≠ 0) : ∃ c, bidx s 0 = some c /\ (z04 s).head? = some c := by
 have hn := z01 s
 cases hb : z04 s with
 | nil => rw [hb] at hn; simp at hn; omega
 | cons c l => exact ⟨c, by rw [z95, hb]; rfl, rfl⟩
theorem zdm (hs : s.size <= 1048576) (hK : s.size < K) : z5o K s = some (natE s) := by
 unfold z5o natE
 rw [zfu hs hK, zln]
 by_cases h0 : s.size = 0
 ·simp [h0, tu1]
 ·obtain ⟨c, h1, h2⟩ := zho h0
  rw [h1, h2]
  have h0' : (s.size == 0) = false := by simpa using h0
  by_cases hc : c = 48 <;> by_cases h3 : s.size > 1 <;> by_cases h4 : s.size > 2000 <;> cases h5 : (z04 s).all digB <;>
   simp [h0, h0', hc, h3, h4, h5, tu1, tu0, zae, show ((s.size : Int) > 1) ↔ s.size > 1 by omega, show ((s.size : Int) > 2000) ↔ s.size > 2000 by omega] <;> omega
theorem zai (hs : s.size <= 1048576) (hK : s.size < K) : z4q K s = some (natE s) := by
 unfold z4q natE
 rw [zhn hs hK]
 by_cases h0 : s.size = 0
 ·simp [h0, tu1]
 ·obtain ⟨c, h1, h2⟩ := zho h0
  rw [h1, h2]
  have h0' : ((s.size : Int) == 0) = false := by rw [beq_eq_false_iff_ne]; omega
  by_cases hc : c = 48 <;> by_cases h3 : s.size > 1 <;> by_cases h4 : s.size > 2000 <;> cases h5 : (z04 s).all digB <;>
   simp [h0, h0', hc, h3, h4, h5, tu1, tu0, zae, show ((s.size : Int) > 1) ↔ s.size > 1 by omega, show ((s.size : Int) > 2000) ↔ s.size > 2000 by omega] <;> omega
theorem zlo : digB = digT := rfl
theorem za3 (s : zAd) : natE s = 0 ↔ CanT s /\ s.size <= 2000 := by
 unfold natE CanT
 rw [zlo]
 by_cases h0 : s.size = 0
 ·simp [h0]
 ·by_cases h1 : (z04 s).head? = some 48 /\ s.size > 1
  ·rw [if_neg h0, if_pos h1]
   constructor
   ·intro h; cases h
   ·rintro ⟨⟨_, _, h⟩, _⟩; have := h h1.1; omega
  ·rw [if_neg h0, if_neg h1]
   cases h2 : (z04 s).all digT with
   | false => simp
   | true =>
    simp only [Bool.not_true, Bool.false_eq_true, if_false]
    by_cases h3 : s.size > 2000
    ·rw [if_pos h3]; constructor
     ·intro h; cases h
     ·rintro ⟨_, h⟩; omega
    ·rw [if_neg h3]
     exact ⟨fun _ => ⟨⟨h0, trivial, fun e => by
      refine Nat.le_antisymm (Nat.not_lt.1 fun h => h1 ⟨e, h⟩) (by omega)⟩, by omega⟩, fun _ => rfl⟩
theorem z8u (s : zAd) : sEq s s = true := sEq_iff.2 rfl
end Go.Am.Tryd
/- Plain law: lists of texts; one. -/
namespace Go.Am.Tryd
open Go Go.Am Go.Proofs
variable {K : Nat}
theorem zmg {s t : zAd} (h : s ≠ t) : sEq s t = false := by
 cases e : sEq s t with
 | false => rfl
 | true => exact absurd (sEq_iff.1 e) h
theorem zf6 (hK : 2000000000 < K) : z5a K 1 = some [1] := by
 obtain ⟨k, rfl⟩ : ∃ k, K = k + 2 := ⟨K - 2, by omega⟩
 unfold z5a
 have e1 : decide ((1 : Int) > 0) = true := rfl
 have e2 : IntKind.wrap .u32 (Int.tmod 1 1000000000) = 1 := rfl
 have e3 : z05 .i64 (Int.tdiv 1 1000000000) = 0 := rfl
 have e4 : decide ((0 : Int) > 0) = false := rfl
 rw [z5q, e1, if_pos rfl, e2, e3, if_pos (by decide), z5q, e4]
 rfl
end Go.Am.Tryd
/- Plain lemmas: rational numbers, their signs, parts and sizes. -/
namespace Go.Am
def sgn (neg : Bool) (n : Nat) : Int := if neg then -(n : Int) else n
theorem zhp (neg : Bool) (n : Nat) : (sgn neg n).natAbs = n := by unfold sgn; split <;> omega
theorem zbx (x : Rat) : sgn (decide (x.num < 0)) x.num.natAbs = x.num := by unfold sgn; by_cases h : x.num < 0 <;> simp [h] <;> omega
theorem zjd (neg : Bool) (n d : Nat) (hd : d ≠ 0) : (mkRat (sgn neg n) d).num.natAbs = n / Nat.gcd n d := by
 rw [Rat.num_mkRat, if_neg hd, zhp, Nat.gcd_comm]
 unfold sgn
 cases neg with
 | false => simp; rfl
 | true =>
  simp only [if_true]
  have h : (Nat.gcd n d : Int) ∣ (n : Int) := Int.natCast_dvd_natCast.2 (Nat.gcd_dvd_left n d)
  rw [Int.neg_ediv_of_dvd h, Int.natAbs_neg]
  rfl
theorem zje (neg : Bool) (n d : Nat) (hd : d ≠ 0) : (mkRat (sgn neg n) d).den = d / Nat.gcd n d := by
 rw [Rat.den_mkRat, if_neg hd, zhp, Nat.gcd_comm]
theorem zkm (neg : Bool) (n d : Nat) (hd : d ≠ 0) (hn : n ≠ 0) : decide ((mkRat (sgn neg n) d).num < 0) = neg := by
 have h0 : n / Nat.gcd n d ≠ 0 := by
  have := Nat.gcd_pos_of_pos_left d (show 0 < n by omega)
  have h2 := Nat.le_of_dvd (by omega) (Nat.gcd_dvd_left n d)
  have := Nat.div_pos h2 this
  omega
 rw [Rat.num_mkRat, if_neg hd, zhp, Nat.gcd_comm]
 have h : (Nat.gcd n d : Int) ∣ (n : Int) := Int.natCast_dvd_natCast.2 (Nat.gcd_dvd_left n d)
 obtain ⟨q, hq, hq0⟩ : ∃ q : Nat, (n : Int) / (Nat.gcd n d : Int) = (q : Int) /\ q ≠ 0 := ⟨n / Nat.gcd n d, by simp, h0⟩
 unfold sgn
 cases neg with
 | false => simp only [Bool.false_eq_true, if_false, hq]; exact decide_eq_false (by omega)
 | true => simp only [if_true]; rw [Int.neg_ediv_of_dvd h, hq]; exact decide_eq_true (by omega)
theorem zhq (x y : Rat) : x * y = mkRat (sgn (decide (x.num < 0) != decide (y.num < 0)) (x.num.natAbs * y.num.natAbs)) (x.den * y.den) := by
 rw [Rat.mul_def']
 congr 1
 conv => lhs; rw [<- zbx x, <- zbx y]
 generalize x.num.natAbs = a
 generalize y.num.natAbs = b
 unfold sgn
 cases decide (x.num < 0) <;> cases decide (y.num < 0) <;> simp [Int.mul_neg, Int.neg_mul]
def Dl (x : Rat) (N : Nat) : Prop := x.num.natAbs < 10 ^ N /\ x.den < 10 ^ N
theorem Dl.mono {x : Rat} {N M : Nat} (h : Dl x N) (hN : N <= M) : Dl x M := ⟨Nat.lt_of_lt_of_le h.1 (Nat.pow_le_pow_right (by omega) hN), Nat.lt_of_lt_of_le h.2 (Nat.pow_le_pow_right (by omega) hN)⟩
theorem Dl.mk (neg : Bool) {n d N : Nat} (hd : d ≠ 0) (hn : n < 10 ^ N) (hd2 : d < 10 ^ N) : Dl (mkRat (sgn neg n) d) N := by
 refine ⟨?_, ?_⟩
 ·rw [zjd neg n d hd]; exact Nat.lt_of_le_of_lt (Nat.div_le_self _ _) hn
 ·rw [zje neg n d hd]; exact Nat.lt_of_le_of_lt (Nat.div_le_self _ _) hd2
theorem z3u {a b N M : Nat} (h : a < 10 ^ N) (k : b < 10 ^ M) : a * b < 10 ^ (N + M) := by
 rw [Nat.pow_add]
 exact Nat.mul_lt_mul_of_lt_of_le h (Nat.le_of_lt k) (Nat.pow_pos (by omega))
theorem Dl.mul {x y : Rat} {N M : Nat} (h : Dl x N) (k : Dl y M) : Dl (x * y) (N + M) := by
 rw [zhq]
 exact .mk _ (Nat.mul_ne_zero x.den_nz y.den_nz) (z3u h.1 k.1) (z3u h.2 k.2)
theorem Dl.zero : Dl 0 1 := ⟨by decide, by decide⟩
theorem Dl.one : Dl 1 1 := ⟨by decide, by decide⟩
theorem zlp (a : Int) : a = sgn (decide (a < 0)) a.natAbs := by unfold sgn; by_cases h : a < 0 <;> simp [h] <;> omega
theorem Dl.add {x y : Rat} {N M : Nat} (h : Dl x N) (k : Dl y M) : Dl (x + y) (N + M + 1) := by
 rw [Rat.add_def']
 rw [zlp (x.num * y.den + y.num * x.den)]
 have h1 := z3u h.1 k.2
 have h2 := z3u k.1 h.2
 have h3 : (x.num * (y.den : Int) + y.num * (x.den : Int)).natAbs <= x.num.natAbs * y.den + y.num.natAbs * x.den := by
  refine Nat.le_trans (Int.natAbs_add_le _ _) ?_
  rw [Int.natAbs_mul, Int.natAbs_mul]; simp
 rw [Nat.add_comm M N] at h2
 refine .mk _ (Nat.mul_ne_zero x.den_nz y.den_nz) ?_ ?_
 ·rw [Nat.pow_succ]; omega
 ·have := z3u h.2 k.2
  rw [Nat.pow_succ]; omega
theorem Dl.neg {x : Rat} {N : Nat} (h : Dl x N) : Dl (-x) N := ⟨by rw [Rat.neg_num, Int.natAbs_neg]; exact h.1, by rw [Rat.neg_den]; exact h.2⟩
theorem Dl.sub {x y : Rat} {N M : Nat} (h : Dl x N) (k : Dl y M) : Dl (x - y) (N + M + 1) := by
 rw [Rat.sub_eq_add_neg]; exact h.add k.neg
theorem Dl.pos {x : Rat} {N : Nat} (h : Dl x N) : 1 <= N := by
 refine Nat.not_lt.1 fun hlt => ?_
 have : N = 0 := by omega
 subst this
 have := h.2
 have := x.den_pos
 simp at *; omega
end Go.Am
/- Plain law: the parts of a rational number's text; its error. -/
namespace Go.Am.Tryd
open Go Go.Am Go.Proofs
variable {K : Nat}
structure Sp (s : zAd) (neg : Bool) (n : zAd) (many : Bool) (d : zAd) : Prop where
 eq : z04 s = (if neg then [45] else []) ++ (z04 n ++ (if many then 47 :: z04 d else []))
 no : 47 ∉ z04 n
 hd : neg = false -> (z04 s).head? ≠ some 45
theorem zdn {x : Int} : ∀ {l1 l2 r1 r2 : List Int}, l1 ++ r1 = l2 ++ r2 -> x ∉ l1 -> x ∉ l2 -> (r1 = [] \/ r1.head? = some x) -> (r2 = [] \/ r2.head? = some x) -> l1 = l2 /\ r1 = r2
 | [], [], _, _, h, _, _, _, _ => ⟨rfl, by simpa using h⟩
 | [], b :: l2, r1, r2, h, _, h2, h3, _ => by
  simp only [List.nil_append, List.cons_append] at h
  subst h
  simp at h3
  subst h3
  simp at h2
 | a :: l1, [], r1, r2, h, h1, _, _, h4 => by
  simp only [List.nil_append, List.cons_append] at h
  subst h
  simp at h4
  subst h4
  simp at h1
 | a :: l1, b :: l2, r1, r2, h, h1, h2, h3, h4 => by
  simp only [List.cons_append, List.cons.injEq] at h
  obtain ⟨rfl, h⟩ := h
  obtain ⟨e1, e2⟩ := zdn h (fun hx => h1 (by simp [hx])) (fun hx => h2 (by simp [hx])) h3 h4
  exact ⟨by rw [e1], e2⟩
theorem Sp.uniq {s n d n' d' : zAd} {neg neg' many many' : Bool} (h : Sp s neg n many d) (k : Sp s neg' n' many' d') : neg = neg' /\ n = n' /\ many = many' /\ (many = true -> d = d') := by
 have e1 : neg = neg' := by
  cases neg <;> cases neg'
  ·rfl
  ·have := h.hd rfl; rw [k.eq] at this; simp at this
  ·have := k.hd rfl; rw [h.eq] at this; simp at this
  ·rfl
 subst e1
 have e2 := List.append_cancel_left (h.eq.symm.trans k.eq)
 obtain ⟨e3, e4⟩ := zdn e2 h.no k.no (by cases many <;> simp) (by cases many' <;> simp)
 refine ⟨rfl, z3n e3, ?_⟩
 cases many <;> cases many'
 ·exact ⟨rfl, fun h => by cases h⟩
 ·simp at e4
 ·simp at e4
 ·simp at e4; exact ⟨rfl, fun _ => z3n e4⟩
theorem Sp.size {s n d : zAd} {neg many : Bool} (h : Sp s neg n many d) : n.size <= s.size /\ (many = true -> d.size <= s.size) := by
 have := congrArg List.length h.eq
 simp only [List.length_append, z01] at this
 refine ⟨by omega, fun hm => ?_⟩
 subst hm
 simp only [if_true, List.length_cons, z01] at this
 omega
theorem z57 (s : zAd) {i j : Nat} (h : i <= j) (hj : j <= s.size) : z04 (s.extract i j) = ((z04 s).drop i).take (j - i) /\ (s.extract i j).size = j - i := by
 have h1 := z2o s i j
 refine ⟨h1, ?_⟩
 rw [<- z01, h1, List.length_take, List.length_drop, z01]; omega
theorem zed (K : Nat) (s : zAd) : ∃ s1 neg, z1b K s ⟨#[45]⟩ = some (s1, neg) /\ z04 s = (if neg then [45] else []) ++ z04 s1 /\ (neg = false -> (z04 s).head? ≠ some 45) /\ s1.size <= s.size := by
 unfold z1b z10 z0z
 have hn := z01 s
 have e1 : ((⟨#[45]⟩ : zAd).size : Int) = 1 := rfl
 rw [e1]
 by_cases h0 : s.size = 0
 ·have hb : z04 s = [] := List.length_eq_zero_iff.1 (by omega)
  refine ⟨s, false, ?_, by simp, fun _ => by rw [hb]; simp, Nat.le_refl _⟩
  rw [h0]
  rfl
 ·obtain ⟨c, l, hc⟩ : ∃ c l, z04 s = c :: l := by
   cases hb : z04 s with
   | nil => rw [hb] at hn; simp at hn; omega
   | cons c l => exact ⟨c, l, rfl⟩
  have hx : ssl s 0 1 = some (s.extract 0 1) := by rw [sslI (by omega) (by omega) (by omega)]; rfl
  have hxb : z04 (s.extract 0 1) = [c] := by rw [(z57 s (by omega) (by omega)).1, hc]; rfl
  rw [decide_eq_true (by omega), if_pos rfl, hx, z0i, z0i, tu1a, z0i]
  by_cases h45 : c = 45
  ·have he : sEq (s.extract 0 1) ⟨#[45]⟩ = true := sEq_iff.2 (z3n (by rw [hxb, h45]; rfl))
   obtain ⟨t, t1, t2, t3⟩ := zb1 hc
   refine ⟨t, true, ?_, by rw [hc, t2, h45]; rfl, fun h => by (cases h), by rw [hc] at hn; simp at hn; omega⟩
   rw [he]
   simp only [Bool.not_true, Bool.false_eq_true, if_false]
   rw [t1, z0i, z0i]
  ·have he : sEq (s.extract 0 1) ⟨#[45]⟩ = false := zmg (fun e => by
    have := congrArg z04 e
    rw [hxb] at this
    have e2 : z04 (⟨#[45]⟩ : zAd) = [45] := rfl
    rw [e2] at this
    simp at this; exact h45 this)
   refine ⟨s, false, ?_, by simp, fun _ => by rw [hc]; simpa using h45, Nat.le_refl _⟩
   rw [he]
   rfl
theorem z9g (c : UInt8) : ∀ (l : List UInt8), (Lib.indexByte l c = -1 /\ c ∉ l) \/ ∃ i : Nat, Lib.indexByte l c = i /\ i < l.length /\ l[i]? = some c /\ c ∉ l.take i
 | [] => .inl ⟨rfl, by simp⟩
 | b :: l => by
  rw [Lib.indexByte]
  by_cases hb : b = c
  ·subst hb; exact .inr ⟨0, by simp, by simp, by simp, by simp⟩
  ·have hb' : (b == c) = false := by simpa using hb
   rw [hb']
   rcases z9g c l with ⟨h1, h2⟩ | ⟨i, h1, h2, h3, h4⟩
   ·refine .inl ⟨by rw [h1]; rfl, ?_⟩
    simp only [List.mem_cons, not_or]
    exact ⟨fun e => hb e.symm, h2⟩
   ·refine .inr ⟨i + 1, ?_, by simp; omega, by simpa using h3, ?_⟩
    ·rw [h1]
     have : ((i : Int) == -1) = false := by rw [beq_eq_false_iff_ne]; omega
     rw [this]
     simp
    ·rw [List.take_succ_cons]
     simp only [List.mem_cons, not_or]
     exact ⟨fun e => hb e.symm, h4⟩
theorem zf7 {c : UInt8} {l : List UInt8} (h : ((c.toNat : Nat) : Int) ∈ l.map (fun b => (b.toNat : Int))) : c ∈ l := by
 rw [List.mem_map] at h
 obtain ⟨b, hb, he⟩ := h
 have : b = c := UInt8.toNat_inj.1 (by omega)
 subst this; exact hb
theorem zmh {s : zAd} (hs : s.size <= 1048576) : ∃ n d many, z3e K s ⟨#[47]⟩ = some (n, d, many) /\ z04 s = z04 n ++ (if many then 47 :: z04 d else []) /\ 47 ∉ z04 n /\ (many = false -> d = ⟨#[]⟩) := by
 have hn := z01 s
 have hx : z0y K s ⟨#[47]⟩ = some (Lib.indexByte s.data.toList 47) := by
  unfold z0y z1l
  have e1 : (((⟨#[47]⟩ : zAd).size : Int) == 0) = false := rfl
  have e2 : (((⟨#[47]⟩ : zAd).size : Int) == 1) = true := rfl
  have e3 : bidx (⟨#[47]⟩ : zAd) 0 = some 47 := rfl
  rw [e1, e2, e3]
  simp only [Bool.false_eq_true, if_false, z0i, tu1a, if_true]
  by_cases he : sEq ⟨#[47]⟩ s = true
  ·rw [he, if_pos rfl]
   rw [sEq_iff] at he
   subst he
   rfl
  ·rw [if_neg he]
   rfl
 unfold z3e z1n
 rw [hx, z0i]
 rcases z9g 47 s.data.toList with ⟨h1, h2⟩ | ⟨i, h1, h2, h3, h4⟩
 ·refine ⟨s, ⟨#[]⟩, false, by rw [h1]; rfl, by simp, fun h => h2 (zf7 h), fun _ => rfl⟩
 ·rw [Array.length_toList] at h2
  have h2' : i < s.size := h2
  have ea := z57 s (i := 0) (j := i) (by omega) (by omega)
  have eb := z57 s (i := i + 1) (j := s.size) (by omega) (by omega)
  refine ⟨s.extract 0 i, s.extract (i + 1) s.size, true, ?_, ?_, ?_, fun h => by cases h⟩
  ·have e1 : ((⟨#[47]⟩ : zAd).size : Int) = 1 := rfl
   have t0 : Int.toNat 0 = 0 := rfl
   have t1 : ((i : Int) + 1).toNat = i + 1 := by omega
   rw [h1, if_pos (decide_eq_true (by omega)), sslI (by omega) (by omega) (by omega), z0i, e1, k64 (by omega) (by omega), sslI (by omega) (by omega) (by omega), z0i, z0i, t1]
   rfl
  ·rw [ea.1, eb.1]
   have h5 : (z04 s)[i]? = some 47 := by unfold z04; rw [List.getElem?_map, h3]; rfl
   have h6 : i < (z04 s).length := by omega
   rw [zAh h6] at h5
   simp only [if_true, List.drop_zero, Nat.sub_zero]
   rw [List.take_of_length_le (l := (z04 s).drop (i + 1)) (by rw [List.length_drop]; omega)]
   conv => lhs; rw [<- List.take_append_drop i (z04 s), List.drop_eq_getElem_cons h6]
   rw [zAa h5]
  ·rw [ea.1, List.drop_zero, Nat.sub_zero]
   intro h
   unfold z04 at h
   rw [<- List.map_take] at h
   exact h4 (zf7 h)
theorem zb9 (K : Nat) {s : zAd} (hs : s.size <= 1048576) : ∃ s1 neg n d many, z1b K s ⟨#[45]⟩ = some (s1, neg) /\ z3e K s1 ⟨#[47]⟩ = some (n, d, many) /\ Sp s neg n many d /\ z04 s = (if neg then [45] else []) ++ z04 s1 /\ (many = false -> d = ⟨#[]⟩) := by
 obtain ⟨s1, neg, h1, h2, h3, h4⟩ := zed K s
 obtain ⟨n, d, many, c1, c2, c3, c4⟩ := zmh (K := K) (s := s1) (by omega)
 exact ⟨s1, neg, n, d, many, h1, c1, ⟨by rw [h2, c2], c3, h3⟩, h2, c4⟩
def ratS (neg : Bool) (n : zAd) (many : Bool) (d : zAd) : Int :=
 if natE n = 5 \/ (many = true /\ natE d = 5) \/ (neg = true /\ n = ⟨#[48]⟩) then 5 else if natE n ≠ 0 \/ (many = true /\ natE d ≠ 0) then 2 else
 if many = true /\ (d = ⟨#[48]⟩ \/ d = ⟨#[49]⟩ \/ Nat.gcd (numT n).toNat (numT d).toNat ≠ 1) then 3 else 0
theorem z9h (a b : zAd) : sEq a b = decide (a = b) := by
 by_cases h : a = b
 ·rw [decide_eq_true h]; exact sEq_iff.2 h
 ·rw [decide_eq_false h]; exact zmg h
theorem zlq (G : Nat) : ((if (G : Int) < 1 then (-1 : Int) else if (G : Int) = 1 then 0 else 1) != 0) = decide (G ≠ 1) := by
 by_cases hG : G = 1
 ·subst hG; rfl
 ·rw [decide_eq_true hG]
  by_cases h0 : (G : Int) < 1
  ·rw [if_pos h0]; rfl
  ·rw [if_neg h0, if_neg (by omega)]; rfl
theorem zlr : natE ⟨#[48]⟩ = 0 := (za3 _).2 ⟨z9f, by decide⟩
theorem zjf {s n d : zAd} {neg many : Bool} (hs : s.size <= 1048576) (hK : 2000000000 < K) (h : Sp s neg n many d) : z3k K s = some (ratS neg n many d) := by
 obtain ⟨s1, neg', n', d', many', c1, c2, c3, c4, c5⟩ := zb9 K hs
 obtain ⟨rfl, rfl, rfl, hd⟩ := h.uniq c3
 have hsz := h.size
 unfold z3k ratS
 rw [c1, z0i, c2, z0i]
 dsimp only
 rw [zdm (by omega) (by omega), z0i]
 cases many with
 | false =>
  simp only [Bool.false_eq_true, if_false, z0i, tu1a, false_and, false_or, or_false]
  by_cases e5 : natE n = 5
  ·simp [e5, z0i, tu1a]
  ·have e5' : (natE n == 5) = false := by rw [beq_eq_false_iff_ne]; exact e5
   have e05 : ((0 : Int) == 5) = false := rfl
   rw [e5', e05]
   cases neg <;> by_cases e0 : natE n = 0 <;> by_cases en : n = ⟨#[48]⟩ <;> simp [e0, e5, en, z9h, z0i, tu1a, zlr]
 | true =>
  have hdd := hd rfl
  subst hdd
  simp only [if_true, true_and]
  rw [zdm (by have := hsz.2 rfl; omega) (by have := hsz.2 rfl; omega)]
  simp only [z0i, tu1a]
  by_cases e5 : natE n = 5
  ·simp [e5, z0i, tu1a]
  ·have e5' : (natE n == 5) = false := by rw [beq_eq_false_iff_ne]; exact e5
   by_cases f5 : natE d = 5
   ·simp [e5, f5, z0i, tu1a]
   ·have f5' : (natE d == 5) = false := by rw [beq_eq_false_iff_ne]; exact f5
    have hneg : (if neg = true then some (sEq n (⟨#[48]⟩ : zAd)) else some false) = some (decide (neg = true /\ n = ⟨#[48]⟩)) := by
     cases neg <;> simp [z9h]
    rw [e5', f5', hneg]
    simp only [Bool.false_eq_true, if_false, z0i, tu1a, e5, f5, false_or]
    by_cases hz : neg = true /\ n = ⟨#[48]⟩
    ·rw [decide_eq_true hz, if_pos rfl, if_pos hz]
    ·rw [decide_eq_false hz, if_neg (by simp), if_neg hz]
     by_cases e0 : natE n = 0
     ·by_cases f0 : natE d = 0
      ·obtain ⟨cn, ln⟩ := (za3 n).1 e0
       obtain ⟨cd, ld⟩ := (za3 d).1 f0
       obtain ⟨x, x1, x2, x3⟩ := z9u (K := K) (s := n) (by omega) hK cn.2.1
       obtain ⟨y, y1, y2, y3⟩ := z9u (K := K) (s := d) (by omega) hK cd.2.1
       have nn := z37 cn.2.1
       have nd := z37 cd.2.1
       obtain ⟨g, g1, g2⟩ := zju (K := K) (x := x) (y := y) (a := (numT n).toNat) (b := (numT d).toNat) (by omega) (by omega) hK (by rw [Int.toNat_of_nonneg nn]; exact x2) (by rw [Int.toNat_of_nonneg nd]; exact y2)
       have gl : g.length <= 1000000 := by
        by_cases h0 : (numT d).toNat = 0
        ·rw [h0, Nat.gcd_zero_right, Int.toNat_of_nonneg nn] at g2
         rw [g2.inj x2]; omega
        ·have := z8t g2 y2 (by have := Nat.gcd_le_right (n := (numT d).toNat) (numT n).toNat (by omega); omega)
         omega
       have hc := zey (K := K) (x := g) (y := [1]) (by omega) (by simp) hK g2 (.one (by omega) (by omega))
       have hcv : ((if ((Nat.gcd (numT n).toNat (numT d).toNat : Nat) : Int) < 1 then (-1 : Int) else if ((Nat.gcd (numT n).toNat (numT d).toNat : Nat) : Int) = 1 then 0 else 1) != 0) = decide (Nat.gcd (numT n).toNat (numT d).toNat ≠ 1) := by
        exact zlq _
       rw [e0, f0]
       simp only [bne_self_eq_false, Bool.false_eq_true, if_false, z0i, tu1a, ne_eq, not_true, or_self, x1, y1, g1, zf6 hK, hc, hcv, z9h]
       by_cases d0 : d = ⟨#[48]⟩
       ·simp [d0, z0i, tu1a]
       ·by_cases d1 : d = ⟨#[49]⟩
        ·simp [d1, z0i, tu1a]
        ·by_cases hG : Nat.gcd (numT n).toNat (numT d).toNat = 1 <;> simp [d0, d1, hG, z0i, tu1a]
      ·simp [e0, f0, z0i, tu1a]
     ·simp [e0, z0i, tu1a]
end Go.Am.Tryd
/- Plain law: the reference's parts of a rational number's text and its error. -/
namespace Go.Am.Tryd
open Go Go.Am Go.Proofs
variable {K : Nat}
theorem zdo {l r : List Int} {i : Nat} (h : i < l.length) : (l ++ r).getD i 0 = l.getD i 0 := by
 rw [zAb, List.getElem?_append_left h, zAb]
theorem zhr {l : List Int} {i : Nat} (h : i < l.length) : l.getD i 0 ∈ l := by
 rw [zAb, zAh h]; exact List.getElem_mem h
theorem zhs {s n : zAd} {r : List Int} (h : z04 s = z04 n ++ r) : s.extract 0 n.size = n := by
 have hl := congrArg List.length h
 rw [List.length_append, z01, z01] at hl
 apply z3n
 rw [(z57 s (by omega) (by omega)).1, h, List.drop_zero, Nat.sub_zero, List.take_append_of_le_length (by rw [z01]; omega), List.take_of_length_le (by rw [z01]; omega)]
theorem zf8 {s n d : zAd} (h : z04 s = z04 n ++ 47 :: z04 d) : s.extract (n.size + 1) s.size = d := by
 have hl := congrArg List.length h
 rw [List.length_append, List.length_cons, z01, z01, z01] at hl
 apply z3n
 rw [(z57 s (by omega) (by omega)).1, h, List.drop_append, z01]
 rw [List.drop_eq_nil_of_le (by rw [z01]; omega), show n.size + 1 - n.size = 1 by omega]
 simp only [List.nil_append, List.drop_succ_cons, List.drop_zero]
 rw [List.take_of_length_le (by rw [z01]; omega)]
theorem zjg {s : zAd} {neg : Bool} {r : List Int} (h : z04 s = (if neg then [45] else []) ++ r) (hd : neg = false -> (z04 s).head? ≠ some 45) (K : Nat) :
  ∃ s1, (Option.bind ((if (decide ((s.size : Int) > 0)) = true then ((bidx s 0).bind fun x7 => some (x7 == 45)) else some false)) (tu1 fun x11 => ((if x11 = true then ((ssl s 1 (s.size : Int)).bind fun x26 => some (x26, true)) else some (s, false))))) = some (s1, neg) /\ z04 s1 = r /\ s1.size <= s.size := by
 have hn := z01 s
 cases neg with
 | true =>
  simp only [if_true, List.cons_append, List.nil_append] at h
  obtain ⟨t, t1, t2, t3⟩ := zb1 h
  have hb : bidx s 0 = some 45 := by rw [z95, h]; rfl
  have hs : 0 < s.size := by rw [h] at hn; simp at hn; omega
  refine ⟨t, ?_, t2, by rw [h] at hn; simp at hn; omega⟩
  rw [decide_eq_true (by omega), if_pos rfl, hb, z0i, z0i, tu1a]
  simp only [beq_self_eq_true, if_true, t1, z0i]
 | false =>
  simp only [Bool.false_eq_true, if_false, List.nil_append] at h
  refine ⟨s, ?_, h, Nat.le_refl _⟩
  by_cases h0 : 0 < s.size
  ·cases hb : z04 s with
   | nil => rw [hb] at hn; simp at hn; omega
   | cons c l =>
    have hc : c ≠ 45 := fun e => hd rfl (by rw [hb, e]; rfl)
    have hx : bidx s 0 = some c := by rw [z95, hb]; rfl
    have e : (c == 45) = false := by rw [beq_eq_false_iff_ne]; exact hc
    rw [decide_eq_true (by omega), if_pos rfl, hx, z0i, e, z0i, tu1a]
    rfl
  ·rw [decide_eq_false (by omega)]
   rfl
theorem zfv {s n d : zAd} {many : Bool} (hs : s.size <= 1048576) (hK : 2000000000 < K) (h : z04 s = z04 n ++ (if many then 47 :: z04 d else [])) (hno : 47 ∉ z04 n) :
  ∃ r : Int × zAd × zAd, z1a K s K 1 s ⟨#[50]⟩ 0 = some r /\ r = (if many then (2, n, d) else (1, s, ⟨#[50]⟩)) := by
 have hn := z01 s
 have hln : n.size <= s.size := by
  have := congrArg List.length h
  rw [List.length_append, z01, z01] at this; omega
 have hlt : many = true -> n.size < s.size := fun hm => by
  subst hm
  have := congrArg List.length h
  rw [List.length_append, z01, z01] at this
  simp at this; omega
 refine za1 (fun k (q : Int × zAd × zAd × Int) => z1a K s k q.1 q.2.1 q.2.2.1 q.2.2.2) (fun q => ∃ i : Nat, q.2.2.2 = i /\ i <= s.size /\ (q.1, q.2.1, q.2.2.1) = (if many = true /\ n.size < i then (2, n, d) else (1, s, ⟨#[50]⟩))) (fun q => (s.size - q.2.2.2 : Int).toNat) _ ?_ ((1, s, ⟨#[50]⟩, 0) : Int × zAd × zAd × Int) (by dsimp only; omega) ⟨0, rfl, by omega, by rw [if_neg (by omega)]⟩
 rintro k ⟨m, a, b, _⟩ ⟨i, rfl, h0, h1⟩
 dsimp only at h1 ⊢
 by_cases hi : i < s.size
 ·right
  have hb : bidx s i = some ((z04 s).getD i 0) := by rw [zm2 (by omega) (by omega), Int.toNat_natCast]
  by_cases c : many = true /\ n.size < i
  ·rw [if_pos c] at h1
   simp only [Prod.mk.injEq] at h1
   obtain ⟨rfl, rfl, rfl⟩ := h1
   refine ⟨(2, a, b, (i : Int) + 1), ?_, by dsimp only; omega, i + 1, rfl, by omega, by rw [if_pos ⟨c.1, by omega⟩]⟩
   rw [z1a, if_pos (decide_eq_true (by omega)), hb, z0i, k64 (by omega) (by omega)]
   have e : ((2 : Int) == 1) = false := rfl
   rw [e]
   by_cases c2 : (z04 s).getD i 0 == 47 <;> simp [c2, z0i, tu1a, tu3a]
  ·rw [if_neg c] at h1
   simp only [Prod.mk.injEq] at h1
   obtain ⟨rfl, rfl, rfl⟩ := h1
   by_cases c3 : many = true /\ i = n.size
   ·obtain ⟨hm, rfl⟩ := c3
    subst hm
    simp only [if_true] at h
    have hch : (z04 a).getD n.size 0 = 47 := by
     rw [h, zAb, List.getElem?_append_right (by rw [z01]; omega), z01]
     simp
    refine ⟨(2, n, d, (n.size : Int) + 1), ?_, by dsimp only; omega, n.size + 1, rfl, by omega, by rw [if_pos ⟨rfl, by omega⟩]⟩
    have t0 : Int.toNat 0 = 0 := rfl
    have t1 : ((n.size : Int) + 1).toNat = n.size + 1 := by omega
    rw [z1a, if_pos (decide_eq_true (by omega)), hb, z0i, hch, k64 (by omega) (by omega), sslI (l := 0) (by omega) (by omega) (by omega), sslI (by omega) (by omega) (by omega), t0, t1, Int.toNat_natCast, Int.toNat_natCast, zhs h, zf8 h]
    rfl
   ·have hin : i < n.size := by
     cases many with
     | true => simp at c c3; omega
     | false =>
      simp only [Bool.false_eq_true, if_false, List.append_nil] at h
      have := congrArg List.length h
      rw [z01, z01] at this; omega
    have hch : (z04 a).getD i 0 ≠ 47 := fun e => by
     rw [h, zdo (by rw [z01]; omega)] at e
     exact hno (e ▸ zhr (by rw [z01]; omega))
    have e : ((z04 a).getD i 0 == 47) = false := by rw [beq_eq_false_iff_ne]; exact hch
    refine ⟨(1, a, ⟨#[50]⟩, (i : Int) + 1), ?_, by dsimp only; omega, i + 1, rfl, by omega, by rw [if_neg (by omega)]⟩
    rw [z1a, if_pos (decide_eq_true (by omega)), hb, z0i, e, k64 (by omega) (by omega)]
    rfl
 ·left
  have : i = s.size := by omega
  subst this
  refine ⟨(m, a, b), by rw [z1a, if_neg (by simp)], ?_⟩
  cases many with
  | true => have := hlt rfl; simp only [true_and, if_pos this] at h1; exact h1
  | false => simpa using h1
theorem zjh {s n d : zAd} {neg many : Bool} (hs : s.size <= 1048576) (hK : 2000000000 < K) (h : Sp s neg n many d) : z4t K s = some (ratS neg n many d) := by
 have hsz := h.size
 obtain ⟨s1, h1, h2, h3⟩ := zjg h.eq h.hd K
 obtain ⟨r, r1, rfl⟩ := zfv (K := K) (s := s1) (n := n) (d := d) (many := many) (by omega) hK h2 h.no
 unfold z4t ratS
 -- the sign
 have hsplit : ∀ {α : Type} (F : zAd × Bool -> Option α), (Option.bind ((if (decide ((s.size : Int) > 0)) = true then ((bidx s 0).bind fun x7 => some (x7 == 45)) else some false)) (tu1 fun x11 => (Option.bind ((if x11 = true then ((ssl s 1 (s.size : Int)).bind fun x26 => some (x26, true)) else some (s, false))) F))) = F (s1, neg) := by
  intro α F
  have : ∀ (m : Option Bool) (f : Bool -> Option (zAd × Bool)), (Option.bind m (tu1 fun x => Option.bind (f x) F)) = Option.bind (Option.bind m (tu1 f)) F := by
   intro m f; cases m <;> rfl
  rw [this, h1]; rfl
 rw [hsplit, tu2a, r1, z0i, tu3a]
 cases many with
 | false =>
  have hs1 : s1 = n := z3n (by simpa using h2)
  subst hs1
  have e2 : natE ⟨#[50]⟩ = 0 := (za3 _).2 ⟨⟨by decide, rfl, fun h => by simp [z04] at h⟩, by decide⟩
  simp only [Bool.false_eq_true, if_false, false_and, false_or, or_false]
  rw [zai (by omega) (by omega), zai (s := ⟨#[50]⟩) (by decide) (by show 1 < K; omega), z0i, z0i, e2]
  by_cases e5 : natE s1 = 5
  ·simp [e5, z0i, tu1a]
  ·have e5' : (natE s1 == 5) = false := by rw [beq_eq_false_iff_ne]; exact e5
   have e05 : ((0 : Int) == 5) = false := rfl
   rw [e5', e05]
   cases neg <;> by_cases e0 : natE s1 = 0 <;> by_cases en : s1 = ⟨#[48]⟩ <;> simp [e0, e5, en, z9h, z0i, tu1a, zlr]
 | true =>
  have hd := hsz.2 rfl
  simp only [if_true, true_and]
  rw [zai (by omega) (by omega), zai (s := d) (by omega) (by omega), z0i, z0i]
  by_cases e5 : natE n = 5
  ·simp [e5, z0i, tu1a]
  ·have e5' : (natE n == 5) = false := by rw [beq_eq_false_iff_ne]; exact e5
   by_cases f5 : natE d = 5
   ·simp [e5, f5, z0i, tu1a]
   ·have f5' : (natE d == 5) = false := by rw [beq_eq_false_iff_ne]; exact f5
    have hneg : (if neg = true then some (sEq n (⟨#[48]⟩ : zAd)) else some false) = some (decide (neg = true /\ n = ⟨#[48]⟩)) := by
     cases neg <;> simp [z9h]
    rw [e5', f5', hneg]
    simp only [Bool.false_eq_true, if_false, z0i, tu1a, e5, f5, false_or]
    by_cases hz : neg = true /\ n = ⟨#[48]⟩
    ·rw [decide_eq_true hz, if_pos rfl, if_pos hz]
    ·rw [decide_eq_false hz, if_neg (by simp), if_neg hz]
     by_cases e0 : natE n = 0
     ·by_cases f0 : natE d = 0
      ·obtain ⟨cn, ln⟩ := (za3 n).1 e0
       obtain ⟨cd, ld⟩ := (za3 d).1 f0
       have nn := z37 cn.2.1
       have nd := z37 cd.2.1
       obtain ⟨g, g1, g2, g3⟩ := zjv (K := K) (x := n) (y := d) (a := (numT n).toNat) (b := (numT d).toNat) (by omega) (by omega) hK cn cd (by omega) (by omega)
       have hg : (!(decide (g = ⟨#[49]⟩))) = decide (Nat.gcd (numT n).toNat (numT d).toNat ≠ 1) := by
        by_cases hG : Nat.gcd (numT n).toNat (numT d).toNat = 1
        ·have : g = ⟨#[49]⟩ := z8q g2 z8s (by rw [g3, z82, hG]; rfl)
         simp [this, hG]
        ·have : g ≠ ⟨#[49]⟩ := fun e => hG (by rw [e, z82] at g3; omega)
         simp [this, hG]
       have e22 : ((2 : Int) == 2) = true := rfl
       rw [e0, f0, e22]
       simp only [bne_self_eq_false, Bool.false_eq_true, if_false, z0i, tu1a, ne_eq, not_true, or_self, g1, hg, z9h, if_true]
       by_cases d0 : d = ⟨#[48]⟩
       ·simp [d0, z0i, tu1a]
       ·by_cases d1 : d = ⟨#[49]⟩
        ·simp [d1, z0i, tu1a]
        ·by_cases hG : Nat.gcd (numT n).toNat (numT d).toNat = 1 <;> simp [d0, d1, hG, z0i, tu1a]
      ·simp [e0, f0, z0i, tu1a]
     ·simp [e0, z0i, tu1a]
theorem zht {s n d : zAd} {many : Bool} {x1 : Int} (hs : s.size <= 1048576) (hK : 2000000000 < K) (h : z04 s = z04 n ++ (if many then 47 :: z04 d else [])) (hno : 47 ∉ z04 n) :
  ∃ r : (Bool × zAd × zAd) ⊕ Unit, z35 K x1 s K 0 = some r /\ r = (if many then .inl (x1 == 45, n, d) else .inr ()) := by
 have hn := z01 s
 have hln : n.size <= s.size := by
  have := congrArg List.length h
  rw [List.length_append, z01, z01] at this; omega
 refine za1 (fun k (q : Int) => z35 K x1 s k q) (fun q => ∃ i : Nat, q = i /\ i <= n.size) (fun q => (s.size - q : Int).toNat) _ ?_ (0 : Int) (by omega) ⟨0, rfl, by omega⟩
 rintro k _ ⟨i, rfl, h0⟩
 by_cases hi : i < n.size
 ·right
  have hb : bidx s i = some ((z04 s).getD i 0) := by rw [zm2 (by omega) (by omega), Int.toNat_natCast]
  have hch : (z04 s).getD i 0 ≠ 47 := fun e => by
   rw [h, zdo (by rw [z01]; omega)] at e
   exact hno (e ▸ zhr (by rw [z01]; omega))
  have e : ((z04 s).getD i 0 == 47) = false := by rw [beq_eq_false_iff_ne]; exact hch
  refine ⟨(i : Int) + 1, ?_, by omega, i + 1, rfl, by omega⟩
  rw [z35, if_pos (decide_eq_true (by omega)), hb, z0i, e, k64 (by omega) (by omega)]
  rfl
 ·left
  have : i = n.size := by omega
  subst this
  cases many with
  | true =>
   simp only [if_true] at h
   have hlt : n.size < s.size := by
    have := congrArg List.length h
    rw [List.length_append, z01, z01] at this
    simp at this; omega
   have hb : bidx s n.size = some ((z04 s).getD n.size 0) := by rw [zm2 (by omega) (by omega), Int.toNat_natCast]
   have hch : (z04 s).getD n.size 0 = 47 := by
    rw [h, zAb, List.getElem?_append_right (by rw [z01]; omega), z01]
    simp
   have t0 : Int.toNat 0 = 0 := rfl
   have t1 : ((n.size : Int) + 1).toNat = n.size + 1 := by omega
   refine ⟨_, ?_, rfl⟩
   rw [z35, if_pos (decide_eq_true (by omega)), hb, z0i, hch, k64 (by omega) (by omega), sslI (l := 0) (by omega) (by omega) (by omega), sslI (by omega) (by omega) (by omega), t0, t1, Int.toNat_natCast, Int.toNat_natCast, zhs h, zf8 h]
   rfl
  | false =>
   simp only [Bool.false_eq_true, if_false, List.append_nil] at h
   have : n.size = s.size := by
    have := congrArg List.length h
    rw [z01, z01] at this; omega
   exact ⟨.inr (), by rw [z35, if_neg (by simp; omega)], rfl⟩
theorem zji {s n d : zAd} {neg many : Bool} (hs : s.size <= 1048576) (h0 : s.size ≠ 0) (hK : 2000000000 < K) (h : Sp s neg n many d) : z4x K s = some (neg, n, if many then d else ⟨#[49]⟩) := by
 have hn := z01 s
 obtain ⟨c, l, hc⟩ : ∃ c l, z04 s = c :: l := by
  cases hb : z04 s with
  | nil => rw [hb] at hn; simp at hn; omega
  | cons c l => exact ⟨c, l, rfl⟩
 have hx : bidx s 0 = some c := by rw [z95, hc]; rfl
 have hneg : (c == 45) = neg := by
  cases neg with
  | true => have := h.eq; rw [hc] at this; simp at this; rw [this.1]; rfl
  | false => have := h.hd rfl; rw [hc] at this; simpa using this
 obtain ⟨s1, e1, e2, e3⟩ : ∃ s1, (if neg = true then ((ssl s 1 (s.size : Int)).bind fun x9 => some x9) else some s) = some s1 /\ z04 s1 = z04 n ++ (if many then 47 :: z04 d else []) /\ s1.size <= s.size := by
  cases neg with
  | true =>
   have he := h.eq
   simp only [if_true, List.cons_append, List.nil_append] at he
   obtain ⟨t, t1, t2, t3⟩ := zb1 he
   exact ⟨t, by rw [if_pos rfl, t1]; rfl, t2, by rw [he] at hn; rw [List.length_cons] at hn; omega⟩
  | false => exact ⟨s, rfl, by simpa using h.eq, Nat.le_refl _⟩
 obtain ⟨r, r1, rfl⟩ := zht (K := K) (s := s1) (n := n) (d := d) (many := many) (x1 := c) (by omega) hK e2 h.no
 unfold z4x
 rw [hx, z0i, hneg, e1, z0i, tu1a, r1]
 cases many with
 | true => simp only [if_true, zfq, tu3a, hneg]
 | false =>
  have hs1 : s1 = n := z3n (by simpa using e2)
  subst hs1
  simp only [Bool.false_eq_true, if_false, ze8, tu0a]
end Go.Am.Tryd
/- Plain law: the program's rational numbers and their texts. -/
namespace Go.Am.Tryd
open Go Go.Am Go.Proofs
variable {K : Nat}
def RTx (s : zAd) (x : Rat) : Prop := ∃ n d, CanT n /\ CanT d /\ numT n = (x.num.natAbs : Nat) /\ numT d = (x.den : Nat) /\ Sp s (decide (x.num < 0)) n (decide (x.den ≠ 1)) d
theorem RTx.inj {s t : zAd} {x : Rat} (h : RTx s x) (k : RTx t x) : s = t := by
 obtain ⟨n, d, h1, h2, h3, h4, h5⟩ := h
 obtain ⟨n', d', k1, k2, k3, k4, k5⟩ := k
 have e1 : n = n' := z8q h1 k1 (by rw [h3, k3])
 have e2 : d = d' := z8q h2 k2 (by rw [h4, k4])
 subst e1 e2
 exact z3n (by rw [h5.eq, k5.eq])
theorem RTx.val {s : zAd} {x y : Rat} (h : RTx s x) (k : RTx s y) : x = y := by
 obtain ⟨n, d, h1, h2, h3, h4, h5⟩ := h
 obtain ⟨n', d', k1, k2, k3, k4, k5⟩ := k
 obtain ⟨e1, rfl, e3, e4⟩ := h5.uniq k5
 have e5 : x.num = y.num := by
  rw [<- zbx x, <- zbx y, e1]
  congr 1
  omega
 have e6 : x.den = y.den := by
  by_cases c : x.den ≠ 1
  ·have := e4 (decide_eq_true c)
   subst this; omega
  ·have c2 : ¬ y.den ≠ 1 := fun c2 => by
    rw [decide_eq_false c, decide_eq_true c2] at e3; cases e3
   omega
 exact Rat.ext e5 e6
def QV (a : Q) (x : Rat) : Prop := a.neg = decide (x.num < 0) /\ NumN (x.num.natAbs : Nat) a.num /\ (NumN (x.den : Nat) a.den \/ (a.den = [] /\ x.den = 1))
theorem zmi (N : Nat) : (10 : Int) ^ N <= 1000000000 ^ N := by
 have g5 : (1000000000 : Int) = 10 ^ 9 := by decide
 rw [g5, <- Int.pow_mul]
 exact z6x (by omega) (by omega)
theorem z7d (N : Nat) : ((10 ^ N : Nat) : Int) = (10 : Int) ^ N := by simp
theorem zjw {n N : Nat} {l : List Int} (h : NumN n l) (hn : n < 10 ^ N) : l.length <= N := by
 refine Nat.not_lt.1 fun hlt => ?_
 have g1 := zh8 (B := 1000000000) (by omega) h.1 (by rintro rfl; simp at hlt)
 rw [h.2] at g1
 have g2 : (1000000000 : Int) ^ N <= 1000000000 ^ (l.length - 1) := z6x (by omega) (by omega)
 have g3 := zmi N
 have g4 : (n : Int) < (10 : Int) ^ N := by rw [<- z7d]; omega
 omega
theorem z9i {n N : Nat} {t : zAd} (h : CanT t) (ht : numT t = n) (hn : n < 10 ^ N) : t.size <= N + 1 := by
 refine Nat.not_lt.1 fun hlt => ?_
 have g1 := zbv h (by omega)
 have g2 : (10 : Int) ^ N <= 10 ^ (t.size - 1) := z6x (by omega) (by omega)
 have g4 : (n : Int) < (10 : Int) ^ N := by rw [<- z7d]; omega
 omega
theorem zdp {n N : Nat} {t : zAd} (h : (z04 t).all digT = true) (ht : numT t = n) (hN : t.size <= N) : n < 10 ^ N := by
 have g1 := zb6 h
 have g2 : (10 : Int) ^ t.size <= 10 ^ N := z6x (by omega) hN
 have g4 : (n : Int) < (10 : Int) ^ N := by omega
 rw [<- z7d] at g4
 omega
theorem QV.lens {a : Q} {x : Rat} {N : Nat} (h : QV a x) (hx : Dl x N) : a.num.length <= N /\ a.den.length <= N := by
 refine ⟨zjw h.2.1 hx.1, ?_⟩
 rcases h.2.2 with h2 | ⟨h2, _⟩
 ·exact zjw h2 hx.2
 ·rw [h2]; exact Nat.zero_le _
theorem QV.zero : QV ⟨false, [], []⟩ 0 := ⟨rfl, .nil, .inr ⟨rfl, rfl⟩⟩
theorem QV.num0 {a : Q} {x : Rat} (h : QV a x) : a.num.length = 0 ↔ x = 0 := by
 rw [h.2.1.len0, <- Rat.num_eq_zero]; omega
theorem zba {a : Q} {x : Rat} (h : QV a x) (hK : 2000000000 < K) : ∃ w, z17 K a = some w /\ NumN (x.den : Nat) w /\ w.length <= max a.den.length 1 := by
 unfold z17
 rcases h.2.2 with h2 | ⟨h2, h3⟩
 ·have hp := x.den_pos
  have h0 : a.den.length ≠ 0 := fun e => by have := h2.len0.1 e; omega
  refine ⟨a.den, ?_, h2, by omega⟩
  rw [if_neg (by rw [beq_iff_eq]; omega)]
 ·refine ⟨[1], ?_, by rw [h3]; exact .one (by omega) (by omega), by simp; omega⟩
  rw [h2, if_pos (by rfl), zf6 hK, z0i]
theorem zjj {neg : Bool} {n d : Nat} {num den : List Int} (hd : d ≠ 0) (hn : NumN n num) (hdn : NumN d den) (l1 : num.length <= 1000000) (l2 : den.length <= 1000000) (hK : 2000000000 < K) :
  ∃ q, z5i K neg num den = some q /\ QV q (mkRat (sgn neg n) d) := by
 unfold z5i
 by_cases h0 : num.length = 0
 ·have e := hn.len0.1 h0
  have e' : n = 0 := by omega
  subst e'
  refine ⟨⟨false, [], []⟩, by rw [if_pos (by rw [beq_iff_eq]; omega)], ?_⟩
  have : mkRat (sgn neg 0) d = 0 := by
   have : sgn neg 0 = 0 := by cases neg <;> rfl
   rw [this, Rat.zero_mkRat]
  rw [this]; exact QV.zero
 ·have hn0 : n ≠ 0 := fun e => h0 (hn.len0.2 (by omega))
  obtain ⟨g, g1, g2⟩ := zju (K := K) (by omega) (by omega) hK hn hdn
  have gp : 0 < Nat.gcd n d := Nat.gcd_pos_of_pos_left d (by omega)
  have gl := z8t g2 hn (by have := Nat.gcd_le_left (m := n) d (by omega); omega)
  have hc := zey (K := K) (x := g) (y := [1]) (by omega) (by simp) hK g2 (.one (by omega) (by omega))
  rw [if_neg (by rw [beq_iff_eq]; omega), g1, z0i, zf6 hK, z0i, hc, z0i]
  have m1 := zjd neg n d hd
  have m2 := zje neg n d hd
  have m3 := zkm neg n d hd hn0
  by_cases h1 : Nat.gcd n d = 1
  ·refine ⟨⟨neg, num, den⟩, ?_, m3.symm, ?_, .inl ?_⟩
   ·rw [h1]; rfl
   ·rw [m1, h1, Nat.div_one]; exact hn
   ·rw [m2, h1, Nat.div_one]; exact hdn
  ·obtain ⟨q1, r1, a1, a2, a3, a4, a5⟩ := zf2 (K := K) (x := num) (y := g) (by omega) (by omega) hK hn g2 (by omega)
   obtain ⟨q2, r2, b1, b2, b3, b4, b5⟩ := zf2 (K := K) (x := den) (y := g) (by omega) (by omega) hK hdn g2 (by omega)
   refine ⟨⟨neg, q1, q2⟩, ?_, m3.symm, ?_, .inl ?_⟩
   ·have e : decide ((if ((Nat.gcd n d : Nat) : Int) < 1 then (-1 : Int) else if ((Nat.gcd n d : Nat) : Int) = 1 then 0 else 1) > 0) = true := by
     rw [if_neg (by omega), if_neg (by omega)]; rfl
    rw [e, if_pos rfl, a1, z0i, b1, z0i, z0i, tu2a]
   ·rw [m1]
    have e : ((n : Int) / ((Nat.gcd n d : Nat) : Int)) = ((n / Nat.gcd n d : Nat) : Int) := by simp
    rw [e] at a2; exact a2
   ·rw [m2]
    have e : ((d : Int) / ((Nat.gcd n d : Nat) : Int)) = ((d / Nat.gcd n d : Nat) : Int) := by simp
    rw [e] at b2; exact b2
theorem zjx (p : Bool) (X Y : Nat) : sgn p (X + Y) = sgn p X + sgn p Y := by unfold sgn; cases p <;> simp <;> omega
theorem zf9 (p q : Bool) (h : p ≠ q) {X Y : Nat} (hXY : Y <= X) : sgn p (X - Y) = sgn p X + sgn q Y := by
 unfold sgn; cases p <;> cases q <;> simp at h ⊢ <;> omega
theorem zjy (p : Bool) (a b : Nat) : sgn p (a * b) = sgn p a * b := by unfold sgn; cases p <;> simp [Int.neg_mul]
theorem zhu (x y : Rat) : x + y = mkRat (sgn (decide (x.num < 0)) (x.num.natAbs * y.den) + sgn (decide (y.num < 0)) (y.num.natAbs * x.den)) (x.den * y.den) := by
 rw [zjy, zjy, zbx, zbx, Rat.add_def']
theorem zls {a b : Q} {x y : Rat} {N : Nat} (ha : QV a x) (hb : QV b y) (dx : Dl x N) (dy : Dl y N) (hN : N <= 300000) (hK : 2000000000 < K) : ∃ q, z45 K a b = some q /\ QV q (x + y) := by
 have la := ha.lens dx
 have lb := hb.lens dy
 have hN1 := dx.pos
 unfold z45
 by_cases hx : x = 0
 ·subst hx
  refine ⟨b, ?_, by rw [Rat.zero_add]; exact hb⟩
  rw [if_pos (by rw [beq_iff_eq]; have := ha.num0.2 rfl; omega)]
 ·have hx0 : a.num.length ≠ 0 := fun e => hx (ha.num0.1 e)
  rw [if_neg (by rw [beq_iff_eq]; omega)]
  by_cases hy : y = 0
  ·subst hy
   refine ⟨a, ?_, by rw [Rat.add_zero]; exact ha⟩
   rw [if_pos (by rw [beq_iff_eq]; have := hb.num0.2 rfl; omega)]
  ·have hy0 : b.num.length ≠ 0 := fun e => hy (hb.num0.1 e)
   rw [if_neg (by rw [beq_iff_eq]; omega)]
   obtain ⟨wa, wa1, wa2, wa3⟩ := zba (K := K) ha hK
   obtain ⟨wb, wb1, wb2, wb3⟩ := zba (K := K) hb hK
   obtain ⟨X, X1, X2, X3⟩ := zb3 (K := K) (x := a.num) (y := wb) (by omega) hK ha.2.1 wb2
   obtain ⟨Y, Y1, Y2, Y3⟩ := zb3 (K := K) (x := b.num) (y := wa) (by omega) hK hb.2.1 wa2
   obtain ⟨D, D1, D2, D3⟩ := zb3 (K := K) (x := wa) (y := wb) (by omega) hK wa2 wb2
   rw [wa1, wb1, z0i, X1, z0i, z0i, Y1, z0i, z0i, z0i, D1, z0i]
   rw [<- Int.natCast_mul] at X2 Y2 D2
   have hD : x.den * y.den ≠ 0 := Nat.mul_ne_zero x.den_nz y.den_nz
   rw [zhu, <- ha.1, <- hb.1]
   generalize x.num.natAbs * y.den = m at X2 ⊢
   generalize y.num.natAbs * x.den = n at Y2 ⊢
   by_cases hs : a.neg = b.neg
   ·obtain ⟨Z, Z1, Z2, Z3⟩ := zle (K := K) (x := X) (y := Y) (by omega) (by omega) hK X2 Y2
    rw [<- Int.natCast_add] at Z2
    obtain ⟨q, q1, q2⟩ := zjj (K := K) (neg := a.neg) hD Z2 D2 (by omega) (by omega) hK
    refine ⟨q, ?_, by rw [<- hs, <- zjx]; exact q2⟩
    rw [if_pos (by simpa using hs), Z1, z0i, q1, z0i]
   ·have hc := zey (K := K) (x := X) (y := Y) (by omega) (by omega) hK X2 Y2
    rw [if_neg (by simpa using hs), hc, z0i]
    by_cases hle : n <= m
    ·obtain ⟨Z, Z1, Z2, Z3⟩ := zjq (K := K) (x := X) (y := Y) (by omega) hK X2 Y2 (by omega)
     rw [<- Int.natCast_sub hle] at Z2
     obtain ⟨q, q1, q2⟩ := zjj (K := K) (neg := a.neg) hD Z2 D2 (by omega) (by omega) hK
     refine ⟨q, ?_, by rw [<- zf9 _ _ hs hle]; exact q2⟩
     rw [if_pos (decide_eq_true (by rw [if_neg (by omega)]; split <;> omega)), Z1, z0i, q1, z0i]
    ·obtain ⟨Z, Z1, Z2, Z3⟩ := zjq (K := K) (x := Y) (y := X) (by omega) hK Y2 X2 (by omega)
     rw [<- Int.natCast_sub (show m <= n by omega)] at Z2
     obtain ⟨q, q1, q2⟩ := zjj (K := K) (neg := b.neg) hD Z2 D2 (by omega) (by omega) hK
     refine ⟨q, ?_, by rw [Int.add_comm, <- zf9 _ _ (fun e => hs e.symm) (by omega)]; exact q2⟩
     have e : decide ((if ((m : Nat) : Int) < (n : Nat) then (-1 : Int) else if ((m : Nat) : Int) = (n : Nat) then 0 else 1) >= 0) = false := by
      rw [if_pos (by omega)]; rfl
     rw [e]
     simp only [Bool.false_eq_true, if_false]
     rw [Z1, z0i, q1, z0i]
theorem zjz {a b : Q} {x y : Rat} {N : Nat} (ha : QV a x) (hb : QV b y) (dx : Dl x N) (dy : Dl y N) (hN : N <= 300000) (hK : 2000000000 < K) : ∃ q, z28 K a b = some q /\ QV q (x * y) := by
 have la := ha.lens dx
 have lb := hb.lens dy
 have hN1 := dx.pos
 unfold z28
 by_cases hz : x = 0 \/ y = 0
 ·refine ⟨⟨false, [], []⟩, ?_, ?_⟩
  ·rcases hz with rfl | rfl
   ·have := ha.num0.2 rfl
    rw [if_pos (by rw [beq_iff_eq]; omega)]
    rfl
   ·have := hb.num0.2 rfl
    have e : ((b.num.length : Int) == 0) = true := by rw [beq_iff_eq]; omega
    rw [e]
    by_cases c : ((a.num.length : Int) == 0) = true
    ·rw [if_pos c]; rfl
    ·rw [if_neg c]; rfl
  ·have : x * y = 0 := by rcases hz with rfl | rfl <;> simp
   rw [this]; exact QV.zero
 ·have hx0 : a.num.length ≠ 0 := fun e => hz (.inl (ha.num0.1 e))
  have hy0 : b.num.length ≠ 0 := fun e => hz (.inr (hb.num0.1 e))
  have e1 : ((a.num.length : Int) == 0) = false := by rw [beq_eq_false_iff_ne]; omega
  have e2 : ((b.num.length : Int) == 0) = false := by rw [beq_eq_false_iff_ne]; omega
  obtain ⟨wa, wa1, wa2, wa3⟩ := zba (K := K) ha hK
  obtain ⟨wb, wb1, wb2, wb3⟩ := zba (K := K) hb hK
  obtain ⟨X, X1, X2, X3⟩ := zb3 (K := K) (x := a.num) (y := b.num) (by omega) hK ha.2.1 hb.2.1
  obtain ⟨D, D1, D2, D3⟩ := zb3 (K := K) (x := wa) (y := wb) (by omega) hK wa2 wb2
  rw [<- Int.natCast_mul] at X2 D2
  have hD : x.den * y.den ≠ 0 := Nat.mul_ne_zero x.den_nz y.den_nz
  obtain ⟨q, q1, q2⟩ := zjj (K := K) (neg := !(a.neg == b.neg)) hD X2 D2 (by omega) (by omega) hK
  refine ⟨q, ?_, ?_⟩
  ·rw [e1, e2]
   simp only [Bool.false_eq_true, if_false, z0i, tu1a, X1, wa1, wb1, D1, q1]
  ·rw [zhq, <- ha.1, <- hb.1]
   exact q2
theorem zkn {a : Q} {x : Rat} (ha : QV a x) : z4n K a = some (if x = 0 then 0 else if x.num < 0 then -1 else 1) := by
 unfold z4n
 by_cases hx : x = 0
 ·have := ha.num0.2 hx
  rw [if_pos (by rw [beq_iff_eq]; omega), if_pos hx]
 ·have hx0 : a.num.length ≠ 0 := fun e => hx (ha.num0.1 e)
  rw [if_neg (by rw [beq_iff_eq]; omega), if_neg hx, ha.1]
  by_cases c : x.num < 0 <;> simp [c]
end Go.Am.Tryd
/- Plain law: texts in and out of the program's rational numbers; the reference's sums and products. -/
namespace Go.Am.Tryd
open Go Go.Am Go.Proofs
variable {K : Nat}
theorem zhv {d : zAd} (h : CanT d) : d = ⟨#[49]⟩ ↔ numT d = 1 := ⟨fun e => by rw [e, z82], fun e => z8q h z8s (by rw [e, z82])⟩
theorem zdq (N : Nat) (h : N ≠ 0) : 1 < 10 ^ N := Nat.one_lt_pow h (by omega)
theorem zna {s n d : zAd} {neg many : Bool} (h : Sp s neg n many d) (h0 : ratS neg n many d = 0) : ∃ x, RTx s x /\ Dl x 2000 := by
 unfold ratS at h0
 by_cases c1 : natE n = 5 \/ (many = true /\ natE d = 5) \/ (neg = true /\ n = ⟨#[48]⟩)
 ·rw [if_pos c1] at h0; cases h0
 ·rw [if_neg c1] at h0
  by_cases c2 : natE n ≠ 0 \/ (many = true /\ natE d ≠ 0)
  ·rw [if_pos c2] at h0; cases h0
  ·rw [if_neg c2] at h0
   by_cases c3 : many = true /\ (d = ⟨#[48]⟩ \/ d = ⟨#[49]⟩ \/ Nat.gcd (numT n).toNat (numT d).toNat ≠ 1)
   ·rw [if_pos c3] at h0; cases h0
   ·have en : natE n = 0 := by
     by_cases e : natE n = 0
     ·exact e
     ·exact absurd (.inl e) c2
    obtain ⟨cn, ln⟩ := (za3 n).1 en
    have nn := z37 cn.2.1
    have hNN : numT n = ((numT n).toNat : Int) := by omega
    have hneg : neg = true -> (numT n).toNat ≠ 0 := fun e hz => c1 (.inr (.inr ⟨e, (zb8 cn).1 (by omega)⟩))
    have lN := zdp (N := 2000) cn.2.1 hNN ln
    -- the number whose parts these are
    have key : ∀ (D : Nat) (d' : zAd), CanT d' -> numT d' = D -> D ≠ 0 -> Nat.gcd (numT n).toNat D = 1 -> D < 10 ^ 2000 -> (many = true ↔ D ≠ 1) -> Sp s neg n many d' -> ∃ x, RTx s x /\ Dl x 2000 := by
     intro D d' cd hD hD0 hg hD2 hm hsp
     have m1 := zjd neg (numT n).toNat D hD0
     have m2 := zje neg (numT n).toNat D hD0
     rw [hg, Nat.div_one] at m1 m2
     have m3 : decide ((mkRat (sgn neg (numT n).toNat) D).num < 0) = neg := by
      by_cases hz : (numT n).toNat = 0
      ·have : neg = false := by
        cases hne : neg with
        | false => rfl
        | true => exact absurd hz (hneg hne)
       subst this
       rw [hz]
       have : mkRat (sgn false 0) D = 0 := by have : sgn false 0 = 0 := rfl; rw [this, Rat.zero_mkRat]
       rw [this]; rfl
      ·exact zkm neg _ D hD0 hz
     refine ⟨mkRat (sgn neg (numT n).toNat) D, ⟨n, d', cn, cd, by rw [m1]; exact hNN, by rw [m2]; exact hD, ?_⟩, Dl.mk _ hD0 lN hD2⟩
     rw [m3, m2]
     have : decide (D ≠ 1) = many := by
      cases hmm : many with
      | false => exact decide_eq_false (fun h => by rw [hmm] at hm; have := hm.2 h; cases this)
      | true => exact decide_eq_true (hm.1 hmm)
     rw [this]
     exact hsp
    cases many with
    | false =>
     refine key 1 ⟨#[49]⟩ z8s z82 (by omega) (Nat.gcd_one_right _) (zdq 2000 (by omega)) (by simp) ⟨by simpa using h.eq, h.no, h.hd⟩
    | true =>
     have ed : natE d = 0 := by
      by_cases e : natE d = 0
      ·exact e
      ·exact absurd (.inr ⟨rfl, e⟩) c2
     obtain ⟨cd, ld⟩ := (za3 d).1 ed
     have nd := z37 cd.2.1
     have hDD : numT d = ((numT d).toNat : Int) := by omega
     have d0 : d ≠ ⟨#[48]⟩ := fun e => c3 ⟨rfl, .inl e⟩
     have d1 : d ≠ ⟨#[49]⟩ := fun e => c3 ⟨rfl, .inr (.inl e)⟩
     have hg : Nat.gcd (numT n).toNat (numT d).toNat = 1 := by
      by_cases e : Nat.gcd (numT n).toNat (numT d).toNat = 1
      ·exact e
      ·exact absurd ⟨rfl, .inr (.inr e)⟩ c3
     exact key (numT d).toNat d cd hDD (fun e => d0 ((zb8 cd).1 (by omega))) hg (zdp (N := 2000) cd.2.1 hDD ld) (by
      simp only [true_iff]
      exact fun e => d1 ((zhv cd).2 (by omega))) h
theorem RTx.size {s : zAd} {x : Rat} {N : Nat} (h : RTx s x) (dx : Dl x N) : s.size <= 2 * N + 4 := by
 obtain ⟨n, d, h1, h2, h3, h4, h5⟩ := h
 have l1 := z9i h1 h3 dx.1
 have l2 := z9i h2 h4 dx.2
 have := congrArg List.length h5.eq
 rw [z01, List.length_append, List.length_append, z01] at this
 have e1 : (if decide (x.num < 0) = true then ([45] : List Int) else []).length <= 1 := by split <;> simp
 have e2 : (if decide (x.den ≠ 1) = true then (47 :: z04 d : List Int) else []).length <= d.size + 1 := by
  split
  ·rw [List.length_cons, z01]; omega
  ·simp
 omega
theorem RTx.dl {s : zAd} {x : Rat} {N : Nat} (h : RTx s x) (hs : s.size <= N) : Dl x (N + 1) := by
 obtain ⟨n, d, h1, h2, h3, h4, h5⟩ := h
 have hsz := h5.size
 refine ⟨Nat.lt_of_lt_of_le (zdp h1.2.1 h3 (Nat.le_trans hsz.1 hs)) (Nat.pow_le_pow_right (by omega) (by omega)), ?_⟩
 by_cases c : x.den ≠ 1
 ·exact Nat.lt_of_lt_of_le (zdp h2.2.1 h4 (Nat.le_trans (hsz.2 (decide_eq_true c)) hs)) (Nat.pow_le_pow_right (by omega) (by omega))
 ·have : x.den = 1 := by omega
  rw [this]
  exact Nat.one_lt_pow (by omega) (by omega)
theorem RTx.pos {s : zAd} {x : Rat} (h : RTx s x) : s.size ≠ 0 := by
 obtain ⟨n, d, h1, h2, h3, h4, h5⟩ := h
 have := h5.size.1
 have := h1.1
 omega
theorem zhw {s : zAd} {x : Rat} (h : RTx s x) (hs : s.size <= 1048576) (hK : 2000000000 < K) : ∃ q, z1y K s = some q /\ QV q x := by
 obtain ⟨n, d, h1, h2, h3, h4, h5⟩ := h
 obtain ⟨s1, neg', n', d', many', c1, c2, c3, c4, c5⟩ := zb9 K hs
 obtain ⟨rfl, rfl, rfl, hd⟩ := h5.uniq c3
 have hsz := h5.size
 obtain ⟨a, a1, a2, a3⟩ := z9u (K := K) (s := n) (by omega) hK h1.2.1
 rw [h3] at a2
 unfold z1y
 rw [c1, z0i, c2, z0i]
 dsimp only
 rw [a1, z0i, zf6 hK, z0i]
 by_cases c : x.den ≠ 1
 ·have := hd (decide_eq_true c)
  subst this
  obtain ⟨b, b1, b2, b3⟩ := z9u (K := K) (s := d) (by have := hsz.2 (decide_eq_true c); omega) hK h2.2.1
  rw [h4] at b2
  exact ⟨⟨decide (x.num < 0), a, b⟩, by rw [decide_eq_true c, if_pos rfl, b1, z0i, z0i, tu1a], rfl, a2, .inl b2⟩
 ·have e : x.den = 1 := by omega
  exact ⟨⟨decide (x.num < 0), a, [1]⟩, by rw [decide_eq_false c]; rfl, rfl, a2, .inl (by rw [e]; exact .one (by omega) (by omega))⟩
theorem zhx {n : zAd} (h : (z04 n).all digT = true) : (47 : Int) ∉ z04 n := fun hm => by
 have := digT_iff.1 (List.all_eq_true.1 h _ hm); omega
theorem zko {s n d : zAd} {x : Rat} (h1 : CanT n) (h2 : CanT d) (h3 : numT n = (x.num.natAbs : Nat)) (h4 : numT d = (x.den : Nat)) (h : z04 s = (if decide (x.num < 0) then [45] else []) ++ (z04 n ++ (if decide (x.den ≠ 1) then 47 :: z04 d else []))) : RTx s x := by
 refine ⟨n, d, h1, h2, h3, h4, h, zhx h1.2.1, fun hn => ?_⟩
 rw [h, hn]
 have hl := z01 n
 cases hb : z04 n with
 | nil => rw [hb] at hl; simp at hl; exact absurd hl.symm h1.1
 | cons c l =>
  have := digT_iff.1 (List.all_eq_true.1 h1.2.1 c (by rw [hb]; simp))
  simp only [Bool.false_eq_true, if_false, List.nil_append, List.cons_append, List.head?_cons]
  intro e; cases e; omega
theorem zlt {a : Q} {x : Rat} {N : Nat} (ha : QV a x) (dx : Dl x N) (hN : N <= 900000) (hK : 2000000000 < K) : ∃ s, z6m K a = some s /\ RTx s x := by
 have la := ha.lens dx
 have hN1 := dx.pos
 unfold z6m
 by_cases hx : x = 0
 ·subst hx
  have := ha.num0.2 rfl
  refine ⟨⟨#[48]⟩, by rw [if_pos (by rw [beq_iff_eq]; omega)], zko z9f z8s z5l z82 rfl⟩
 ·have hx0 : a.num.length ≠ 0 := fun e => hx (ha.num0.1 e)
  obtain ⟨w, w1, w2, w3⟩ := zba (K := K) ha hK
  obtain ⟨n, n1, n2, n3, n4⟩ := zhd (K := K) (x := a.num) (by omega) hK ha.2.1
  obtain ⟨d, d1, d2, d3, d4⟩ := zhd (K := K) (x := w) (by omega) hK w2
  rw [if_neg (by rw [beq_iff_eq]; omega), n1, z0i, ha.1]
  have hm : sEq d ⟨#[49]⟩ = decide (x.den = 1) := by
   rw [z9h]
   congr 1
   rw [zhv d2, d3, eq_iff_iff]; omega
  have e45 : ((⟨#[45]⟩ : zAd)).size = 1 := rfl
  have e47 : ((⟨#[47]⟩ : zAd)).size = 1 := rfl
  have b45 : z04 (⟨#[45]⟩ : zAd) = [45] := rfl
  have b47 : z04 (⟨#[47]⟩ : zAd) = [47] := rfl
  obtain ⟨m, m1, m2, m3⟩ : ∃ m, (if decide (x.num < 0) = true then (if ((⟨#[45]⟩ : zAd)).size + (n).size <= 4611686018427387904 then some ((⟨#[45]⟩ : zAd) ++ n) else none) else some n) = some m /\ z04 m = (if decide (x.num < 0) = true then [45] else []) ++ z04 n /\ m.size <= n.size + 1 := by
   by_cases c : x.num < 0
   ·refine ⟨(⟨#[45]⟩ : zAd) ++ n, ?_, ?_, ?_⟩
    ·rw [decide_eq_true c, if_pos rfl, if_pos (by omega)]
    ·rw [decide_eq_true c, z0u, b45]; rfl
    ·rw [<- z01, z0u, b45, List.length_append, z01]; simp; omega
   ·exact ⟨n, by rw [decide_eq_false c]; rfl, by rw [decide_eq_false c]; rfl, by omega⟩
  rw [m1, z0i, tu1a, w1, z0i, d1, z0i, hm]
  by_cases c : x.den = 1
  ·refine ⟨m, by rw [decide_eq_true c]; rfl, zko n2 d2 n3 d3 ?_⟩
   have hdd : decide (x.den ≠ 1) = false := decide_eq_false (fun h => h c)
   rw [m2, hdd]; simp
  ·have hsd : ((⟨#[47]⟩ : zAd) ++ d).size = d.size + 1 := by rw [<- z01, z0u, b47, List.length_append, z01]; simp; omega
   refine ⟨m ++ ((⟨#[47]⟩ : zAd) ++ d), ?_, zko n2 d2 n3 d3 ?_⟩
   ·rw [decide_eq_false c]
    simp only [Bool.not_false, if_true]
    rw [if_pos (by omega), if_pos (by omega), z0i, tu1a]
   ·have hdd : decide (x.den ≠ 1) = true := decide_eq_true c
    rw [z0u, z0u, m2, b47, hdd]; simp
theorem zfa {l : List Int} {n : Nat} (hl : l.length <= 1000000) (hK : 2000000000 < K) (h : NumN n l) : ∃ k : Nat, z30 K l = some (k : Int) /\ (k <= 2000 ↔ n < 10 ^ 2000) := by
 obtain ⟨t, t1, t2, t3, t4⟩ := zhd hl hK h
 refine ⟨t.size, by unfold z30; rw [t1, z0i], fun h => zdp (N := 2000) t2.2.1 t3 h, fun h => ?_⟩
 refine Nat.not_lt.1 fun hlt => ?_
 have g1 := zbv t2 (by omega)
 rw [t3] at g1
 have g2 : (10 : Int) ^ 2000 <= 10 ^ (t.size - 1) := z6x (by omega) (by omega)
 have g3 := z7d 2000
 have g4 : (n : Int) < ((10 ^ 2000 : Nat) : Int) := Int.ofNat_lt.2 h
 rw [g3] at g4
 exact absurd (Int.lt_of_lt_of_le g4 (Int.le_trans g2 g1)) (Int.lt_irrefl _)
theorem zlu {a : Q} {x : Rat} {N : Nat} (ha : QV a x) (dx : Dl x N) (hN : N <= 900000) (hK : 2000000000 < K) : (Dl x 2000 -> z6l K a = some 0) /\ (¬ Dl x 2000 -> z6l K a = some 2) := by
 have la := ha.lens dx
 obtain ⟨k, k1, k2⟩ := zfa (K := K) (l := a.num) (by omega) hK ha.2.1
 obtain ⟨m, m1, m2⟩ : ∃ m : Nat, z30 K a.den = some (m : Int) /\ (m <= 2000 ↔ x.den < 10 ^ 2000) := by
  rcases ha.2.2 with h | ⟨h, h2⟩
  ·exact zfa (by omega) hK h
  ·refine ⟨1, ?_, ?_⟩
   ·rw [h]; rfl
   ·rw [h2]; exact ⟨fun _ => zdq 2000 (by omega), fun _ => by decide⟩
 unfold z6l
 rw [k1, m1]
 by_cases c1 : k <= 2000
 ·by_cases c2 : m <= 2000
  ·have hd : Dl x 2000 := ⟨k2.1 c1, m2.1 c2⟩
   refine ⟨fun _ => ?_, fun h => absurd hd h⟩
   have e1 : decide ((k : Int) > 2000) = false := decide_eq_false (by omega)
   have e2 : decide ((m : Int) > 2000) = false := decide_eq_false (by omega)
   rw [z0i, e1]
   simp only [Bool.false_eq_true, if_false, z0i, e2, tu1a]
  ·refine ⟨fun h => absurd (m2.2 h.2) c2, fun _ => ?_⟩
   have e1 : decide ((k : Int) > 2000) = false := decide_eq_false (by omega)
   have e2 : decide ((m : Int) > 2000) = true := decide_eq_true (by omega)
   rw [z0i, e1]
   simp only [Bool.false_eq_true, if_false, z0i, e2, tu1a, if_true]
 ·refine ⟨fun h => absurd (k2.2 h.1) c1, fun _ => ?_⟩
  have e1 : decide ((k : Int) > 2000) = true := decide_eq_true (by omega)
  rw [z0i, e1]
  simp only [z0i, tu1a, if_true]
theorem zcp {neg : Bool} {n d : zAd} {N D : Nat} (hD : D ≠ 0) (cn : CanT n) (cd : CanT d) (hn : numT n = N) (hd : numT d = D) (ln : n.size <= 400000) (ld : d.size <= 400000) (hK : 2000000000 < K) :
  ∃ s, z7a K neg n d = some s /\ RTx s (mkRat (sgn neg N) D) := by
 unfold z7a
 by_cases h0 : N = 0
 ·subst h0
  have : n = ⟨#[48]⟩ := (zb8 cn).1 (by omega)
  subst this
  have e : mkRat (sgn neg 0) D = 0 := by
   have : sgn neg 0 = 0 := by cases neg <;> rfl
   rw [this, Rat.zero_mkRat]
  refine ⟨⟨#[48]⟩, by rw [z8u]; rfl, ?_⟩
  rw [e]
  exact zko z9f z8s z5l z82 rfl
 ·have e0 : sEq n ⟨#[48]⟩ = false := zmg (fun e => by rw [e, z5l] at hn; omega)
  obtain ⟨g, g1, g2, g3⟩ := zjv (K := K) (x := n) (y := d) ln ld hK cn cd hn hd
  have gp : 0 < Nat.gcd N D := Nat.gcd_pos_of_pos_left D (by omega)
  have gl := z3o cn g2 (by rw [g3, hn]; have := Nat.gcd_le_left (m := N) D (by omega); omega)
  obtain ⟨q1, r1, a1, a2, a3, a4, a5⟩ := zf4 (K := K) (a := n) (b := g) ln (by omega) hK cn g2 (by omega)
  obtain ⟨q2, r2, b1, b2, b3, b4, b5⟩ := zf4 (K := K) (a := d) (b := g) ld (by omega) hK cd g2 (by omega)
  rw [hn, g3] at a4
  rw [hd, g3] at b4
  have m1 := zjd neg N D hD
  have m2 := zje neg N D hD
  have m3 := zkm neg N D hD h0
  have f1 : numT q1 = ((mkRat (sgn neg N) D).num.natAbs : Nat) := by rw [m1, a4]; simp
  have f2 : numT q2 = ((mkRat (sgn neg N) D).den : Nat) := by rw [m2, b4]; simp
  generalize mkRat (sgn neg N) D = x at *
  rw [e0]
  simp only [Bool.false_eq_true, if_false]
  rw [g1, z0i, a1, z0i, b1, z0i]
  have hm : sEq q2 ⟨#[49]⟩ = decide (x.den = 1) := by
   rw [z9h]
   congr 1
   rw [zhv b2, f2, eq_iff_iff]; omega
  have l1 := z3o cn a2 (by rw [a4, hn]; exact Int.ediv_le_self _ (by omega))
  have l2 := z3o cd b2 (by rw [b4, hd]; exact Int.ediv_le_self _ (by omega))
  have e45 : ((⟨#[45]⟩ : zAd)).size = 1 := rfl
  have e47 : ((⟨#[47]⟩ : zAd)).size = 1 := rfl
  have b45 : z04 (⟨#[45]⟩ : zAd) = [45] := rfl
  have b47 : z04 (⟨#[47]⟩ : zAd) = [47] := rfl
  obtain ⟨m, k1, k2, k3⟩ : ∃ m, (if neg = true then (if ((⟨#[45]⟩ : zAd)).size + (q1).size <= 4611686018427387904 then some ((⟨#[45]⟩ : zAd) ++ q1) else none) else some q1) = some m /\ z04 m = (if decide (x.num < 0) = true then [45] else []) ++ z04 q1 /\ m.size <= q1.size + 1 := by
   rw [m3]
   cases neg with
   | true =>
    refine ⟨(⟨#[45]⟩ : zAd) ++ q1, ?_, ?_, ?_⟩
    ·rw [if_pos rfl, if_pos (by omega)]
    ·rw [z0u, b45]; rfl
    ·rw [<- z01, z0u, b45, List.length_append, z01]; simp; omega
   | false => exact ⟨q1, rfl, rfl, by omega⟩
  dsimp only
  rw [k1, z0i, tu1a, hm]
  by_cases c : x.den = 1
  ·refine ⟨m, by rw [decide_eq_true c]; rfl, zko a2 b2 f1 f2 ?_⟩
   have hdd : decide (x.den ≠ 1) = false := decide_eq_false (fun h => h c)
   rw [k2, hdd]; simp
  ·have hsm : (m ++ (⟨#[47]⟩ : zAd)).size = m.size + 1 := by rw [<- z01, z0u, b47, List.length_append, z01]; simp
   refine ⟨(m ++ (⟨#[47]⟩ : zAd)) ++ q2, ?_, zko a2 b2 f1 f2 ?_⟩
   ·rw [decide_eq_false c]
    simp only [Bool.false_eq_true, if_false]
    rw [if_pos (by omega), if_pos (by omega)]
   ·have hdd : decide (x.den ≠ 1) = true := decide_eq_true c
    rw [z0u, z0u, k2, b47, hdd]; simp
theorem z9j {a : zAd} {x : Rat} {N : Nat} (h : RTx a x) (dx : Dl x N) (hN : N <= 100000) (hK : 2000000000 < K) : ∃ n d, z4x K a = some (decide (x.num < 0), n, d) /\ CanT n /\ CanT d /\ numT n = (x.num.natAbs : Nat) /\ numT d = (x.den : Nat) /\ n.size <= N + 1 /\ d.size <= N + 1 := by
 have hs := h.size dx
 have h0 := h.pos
 obtain ⟨n, d, h1, h2, h3, h4, h5⟩ := h
 have hp := zji (K := K) (by omega) h0 hK h5
 have l1 := z9i h1 h3 dx.1
 have l2 := z9i h2 h4 dx.2
 by_cases c : x.den ≠ 1
 ·rw [decide_eq_true c] at hp
  exact ⟨n, d, hp, h1, h2, h3, h4, l1, l2⟩
 ·rw [decide_eq_false c] at hp
  have e : x.den = 1 := by omega
  exact ⟨n, ⟨#[49]⟩, hp, h1, z8s, h3, by rw [e]; rfl, l1, by show 1 <= N + 1; omega⟩
theorem zlv {a b : zAd} {x y : Rat} {N : Nat} (ha : RTx a x) (hb : RTx b y) (dx : Dl x N) (dy : Dl y N) (hN : N <= 100000) (hK : 2000000000 < K) : ∃ c, z80 K a b = some c /\ RTx c (x + y) := by
 obtain ⟨n, d, p1, p2, p3, p4, p5, p6, p7⟩ := z9j (K := K) ha dx hN hK
 obtain ⟨m, e, q1, q2, q3, q4, q5, q6, q7⟩ := z9j (K := K) hb dy hN hK
 obtain ⟨X, X1, X2, X3⟩ := zdk (K := K) (a := n) (b := e) (by omega) (by omega) hK p2.2.1 q3.2.1
 obtain ⟨Y, Y1, Y2, Y3⟩ := zdk (K := K) (a := m) (b := d) (by omega) (by omega) hK q2.2.1 p3.2.1
 obtain ⟨D, D1, D2, D3⟩ := zdk (K := K) (a := d) (b := e) (by omega) (by omega) hK p3.2.1 q3.2.1
 rw [p4, q5, <- Int.natCast_mul] at X3
 rw [q4, p5, <- Int.natCast_mul] at Y3
 rw [p5, q5, <- Int.natCast_mul] at D3
 have hD : x.den * y.den ≠ 0 := Nat.mul_ne_zero x.den_nz y.den_nz
 have lX := z9i X2 X3 (z3u dx.1 dy.2)
 have lY := z9i Y2 Y3 (z3u dy.1 dx.2)
 have lD := z9i D2 D3 (z3u dx.2 dy.2)
 unfold z80
 rw [p1, z0i, q1, z0i]
 dsimp only
 rw [X1, z0i, Y1, z0i, D1, z0i, zhu]
 generalize x.num.natAbs * y.den = u at X3 ⊢
 generalize y.num.natAbs * x.den = v at Y3 ⊢
 generalize decide (x.num < 0) = p
 generalize decide (y.num < 0) = q
 by_cases hs : p = q
 ·obtain ⟨Z, Z1, Z2, Z3⟩ := zlh (K := K) (a := X) (b := Y) (by omega) (by omega) (by have := X2.1; omega) (by omega) X2.2.1 Y2.2.1
  rw [X3, Y3, <- Int.natCast_add] at Z3
  have lZ : Z.size <= 400000 := by
   refine Nat.not_lt.1 fun hlt => ?_
   have g1 := zbv Z2 (by omega)
   have g2 := zb6 X2.2.1
   have g3 := zb6 Y2.2.1
   have g4 : (10 : Int) ^ X.size <= 10 ^ (Z.size - 2) := z6x (by omega) (by omega)
   have g5 : (10 : Int) ^ Y.size <= 10 ^ (Z.size - 2) := z6x (by omega) (by omega)
   have g6 : (10 : Int) ^ (Z.size - 1) = 10 ^ (Z.size - 2) * 10 := by rw [<- Int.pow_succ]; congr 1; omega
   rw [X3] at g2
   rw [Y3] at g3
   have g7 : (0 : Int) < 10 ^ (Z.size - 2) := Int.pow_pos (by omega)
   generalize (10 : Int) ^ (Z.size - 2) = P at *
   omega
  obtain ⟨s, s1, s2⟩ := zcp (K := K) (neg := p) (n := Z) (d := D) hD Z2 D2 Z3 D3 lZ (by omega) hK
  refine ⟨s, ?_, by rw [<- hs, <- zjx]; exact s2⟩
  rw [if_pos (by simpa using hs), Z1, z0i, s1, z0i]
 ·have hc := zjs (K := K) X2 Y2
  rw [if_neg (by simpa using hs), hc, z0i, X3, Y3]
  by_cases hle : v <= u
  ·obtain ⟨Z, Z1, Z2, Z3⟩ := zhg (K := K) (a := X) (b := Y) (by omega) (z3o X2 Y2 (by omega)) (by have := X2.1; omega) (by omega) X2.2.1 Y2.2.1 (by omega)
   rw [X3, Y3, <- Int.natCast_sub hle] at Z3
   have lZ := z3o X2 Z2 (by omega)
   obtain ⟨s, s1, s2⟩ := zcp (K := K) (neg := p) (n := Z) (d := D) hD Z2 D2 Z3 D3 (by omega) (by omega) hK
   refine ⟨s, ?_, by rw [<- zf9 _ _ hs hle]; exact s2⟩
   have e : decide ((if ((u : Nat) : Int) < (v : Nat) then (-1 : Int) else if ((u : Nat) : Int) = (v : Nat) then 0 else 1) < 0) = false := by
    rw [if_neg (by omega)]; split <;> rfl
   rw [e]
   simp only [Bool.false_eq_true, if_false, z0i, tu3a, Z1, s1]
  ·obtain ⟨Z, Z1, Z2, Z3⟩ := zhg (K := K) (a := Y) (b := X) (by omega) (z3o Y2 X2 (by omega)) (by have := Y2.1; omega) (by omega) Y2.2.1 X2.2.1 (by omega)
   rw [X3, Y3, <- Int.natCast_sub (show u <= v by omega)] at Z3
   have lZ := z3o Y2 Z2 (by omega)
   obtain ⟨s, s1, s2⟩ := zcp (K := K) (neg := q) (n := Z) (d := D) hD Z2 D2 Z3 D3 (by omega) (by omega) hK
   refine ⟨s, ?_, by rw [Int.add_comm, <- zf9 _ _ (fun e => hs e.symm) (by omega)]; exact s2⟩
   have e : decide ((if ((u : Nat) : Int) < (v : Nat) then (-1 : Int) else if ((u : Nat) : Int) = (v : Nat) then 0 else 1) < 0) = true := by
    rw [if_pos (by omega)]; rfl
   rw [e]
   simp only [if_true, z0i, tu3a, Z1, s1]
theorem zk0 {a b : zAd} {x y : Rat} {N : Nat} (ha : RTx a x) (hb : RTx b y) (dx : Dl x N) (dy : Dl y N) (hN : N <= 100000) (hK : 2000000000 < K) : ∃ c, z6w K a b = some c /\ RTx c (x * y) := by
 obtain ⟨n, d, p1, p2, p3, p4, p5, p6, p7⟩ := z9j (K := K) ha dx hN hK
 obtain ⟨m, e, q1, q2, q3, q4, q5, q6, q7⟩ := z9j (K := K) hb dy hN hK
 obtain ⟨X, X1, X2, X3⟩ := zdk (K := K) (a := n) (b := m) (by omega) (by omega) hK p2.2.1 q2.2.1
 obtain ⟨D, D1, D2, D3⟩ := zdk (K := K) (a := d) (b := e) (by omega) (by omega) hK p3.2.1 q3.2.1
 rw [p4, q4, <- Int.natCast_mul] at X3
 rw [p5, q5, <- Int.natCast_mul] at D3
 have hD : x.den * y.den ≠ 0 := Nat.mul_ne_zero x.den_nz y.den_nz
 have lX := z9i X2 X3 (z3u dx.1 dy.1)
 have lD := z9i D2 D3 (z3u dx.2 dy.2)
 obtain ⟨s, s1, s2⟩ := zcp (K := K) (neg := !(decide (x.num < 0) == decide (y.num < 0))) (n := X) (d := D) hD X2 D2 X3 D3 (by omega) (by omega) hK
 refine ⟨s, ?_, by rw [zhq]; exact s2⟩
 unfold z6w
 rw [p1, z0i, q1, z0i]
 dsimp only
 rw [X1, z0i, D1, z0i, s1, z0i]
theorem zkp {a : zAd} {x : Rat} {N : Nat} (ha : RTx a x) (dx : Dl x N) (hN : N <= 100000) (hK : 2000000000 < K) : z6u K a = some (if x = 0 then 0 else if x.num < 0 then -1 else 1) := by
 obtain ⟨n, d, p1, p2, p3, p4, p5, p6, p7⟩ := z9j (K := K) ha dx hN hK
 have e : sEq n ⟨#[48]⟩ = decide (x = 0) := by
  rw [z9h]
  congr 1
  rw [<- zb8 p2, p4, <- Rat.num_eq_zero, eq_iff_iff]; omega
 unfold z6u
 rw [p1, z0i]
 dsimp only
 rw [e]
 by_cases c : x = 0
 ·simp [c]
 ·by_cases c2 : x.num < 0 <;> simp [c, c2]
end Go.Am.Tryd
/- Plain law: errors of lists; operations on two texts. -/
namespace Go.Am.Tryd
open Go Go.Am Go.Proofs
variable {K : Nat}
noncomputable def ratE (s : zAd) : Int := @dite Int (∃ e, ∃ neg n many d, Sp s neg n many d /\ ratS neg n many d = e) (Classical.propDecidable _) (fun h => h.choose) fun _ => 0
theorem zhy {s n d : zAd} {neg many : Bool} (h : Sp s neg n many d) : ratE s = ratS neg n many d := by
 have hex : ∃ e, ∃ neg n many d, Sp s neg n many d /\ ratS neg n many d = e := ⟨_, _, _, _, _, h, rfl⟩
 unfold ratE
 rw [dif_pos hex]
 obtain ⟨neg', n', many', d', h1, h2⟩ := hex.choose_spec
 rw [<- h2]
 obtain ⟨rfl, rfl, rfl, h3⟩ := h.uniq h1
 cases many with
 | true => rw [h3 rfl]
 | false => unfold ratS; simp
theorem z9s {s : zAd} (hs : s.size <= 1048576) (hK : 2000000000 < K) : z3k K s = some (ratE s) := by
 obtain ⟨s1, neg, n, d, many, _, _, h, _⟩ := zb9 K hs
 rw [zhy h]; exact zjf hs hK h
theorem zjk {s : zAd} (hs : s.size <= 1048576) (hK : 2000000000 < K) : z4t K s = some (ratE s) := by
 obtain ⟨s1, neg, n, d, many, _, _, h, _⟩ := zb9 K hs
 rw [zhy h]; exact zjh hs hK h
theorem zfb {s : zAd} (hs : s.size <= 1048576) (h : ratE s = 0) : ∃ x, RTx s x /\ Dl x 2000 := by
 obtain ⟨s1, neg, n, d, many, _, _, hp, _⟩ := zb9 0 hs
 rw [zhy hp] at h
 exact zna hp h
noncomputable def z7e : List zAd -> Int
 | [] => 0
 | s :: l => if ratE s ≠ 0 then ratE s else z7e l
theorem z6y : ∀ {l : List zAd}, z7e l = 0 -> ∀ s ∈ l, ratE s = 0
 | [], _, s, hs => by simp at hs
 | t :: l, h, s, hs => by
  rw [z7e] at h
  by_cases c : ratE t = 0
  ·rw [if_neg (by simpa using c)] at h
   rcases List.mem_cons.1 hs with rfl | hs
   ·exact c
   ·exact z6y h s hs
  ·rw [if_pos c] at h; exact absurd h c
theorem zby {l : List zAd} {i : Nat} (h : i < l.length) : z7e (l.drop i) = if ratE l[i] ≠ 0 then ratE l[i] else z7e (l.drop (i + 1)) := by
 rw [List.drop_eq_getElem_cons h, z7e]
theorem zfw {l : List zAd} (hl : l.length <= 1048576) (hs : ∀ s ∈ l, s.size <= 1048576) (hK : 2000000000 < K) : z3l K l = some (z7e l) := by
 have key : ∃ r : Int ⊕ Unit, z15 K l K 0 = some r /\ ((r = .inr () /\ z7e l = 0) \/ r = .inl (z7e l)) := by
  refine za1 (fun k (s : Int) => z15 K l k s) (fun s => ∃ i : Nat, s = i /\ i <= l.length /\ z7e l = z7e (l.drop i)) (fun s => (l.length - s : Int).toNat) _ ?_ (0 : Int) (by omega) ⟨0, rfl, by omega, by simp⟩
  rintro k _ ⟨i, rfl, h0, h1⟩
  by_cases hi : i < l.length
  ·have hx : idx l (i : Int) = some l[i] := z5e (zAh hi)
   have hc := z9s (K := K) (s := l[i]) (hs _ (List.getElem_mem hi)) hK
   rw [zby hi] at h1
   by_cases c : ratE l[i] = 0
   ·right
    rw [if_neg (by simpa using c)] at h1
    refine ⟨(i : Int) + 1, ?_, by omega, i + 1, rfl, by omega, h1⟩
    rw [z15, if_pos (decide_eq_true (by omega)), hx, z0i, hc, z0i, if_neg (by simpa using c), k64 (by omega) (by omega)]
   ·left
    rw [if_pos c] at h1
    refine ⟨.inl (ratE l[i]), ?_, .inr (by rw [h1])⟩
    rw [z15, if_pos (decide_eq_true (by omega)), hx, z0i, hc, z0i, if_pos (by simpa using c)]
  ·left
   have : i = l.length := by omega
   subst this
   rw [List.drop_eq_nil_of_le (Nat.le_refl _)] at h1
   exact ⟨.inr (), by rw [z15, if_neg (by simp)], .inl ⟨rfl, h1⟩⟩
 obtain ⟨r, h1, h2⟩ := key
 unfold z3l
 rw [h1]
 rcases h2 with ⟨rfl, h2⟩ | rfl
 ·rw [ze8, tu0a, h2]
 ·rw [zfq, tu1a]
theorem zjl {l : List zAd} (hl : l.length <= 1048576) (hs : ∀ s ∈ l, s.size <= 1048576) (hK : 2000000000 < K) : z55 K l = some (z7e l) := by
 have key : ∃ r : Int ⊕ Unit, z1f K l K 0 = some r /\ ((r = .inr () /\ z7e l = 0) \/ r = .inl (z7e l)) := by
  refine za1 (fun k (s : Int) => z1f K l k s) (fun s => ∃ i : Nat, s = i /\ i <= l.length /\ z7e l = z7e (l.drop i)) (fun s => (l.length - s : Int).toNat) _ ?_ (0 : Int) (by omega) ⟨0, rfl, by omega, by simp⟩
  rintro k _ ⟨i, rfl, h0, h1⟩
  by_cases hi : i < l.length
  ·have hx : idx l (i : Int) = some l[i] := z5e (zAh hi)
   have hc := zjk (K := K) (s := l[i]) (hs _ (List.getElem_mem hi)) hK
   rw [zby hi] at h1
   by_cases c : ratE l[i] = 0
   ·right
    rw [if_neg (by simpa using c)] at h1
    refine ⟨(i : Int) + 1, ?_, by omega, i + 1, rfl, by omega, h1⟩
    rw [z1f, if_pos (decide_eq_true (by omega)), hx, z0i, hc, z0i, if_neg (by simpa using c), k64 (by omega) (by omega)]
   ·left
    rw [if_pos c] at h1
    refine ⟨.inl (ratE l[i]), ?_, .inr (by rw [h1])⟩
    rw [z1f, if_pos (decide_eq_true (by omega)), hx, z0i, hc, z0i, if_pos (by simpa using c)]
  ·left
   have : i = l.length := by omega
   subst this
   rw [List.drop_eq_nil_of_le (Nat.le_refl _)] at h1
   exact ⟨.inr (), by rw [z1f, if_neg (by simp)], .inl ⟨rfl, h1⟩⟩
 obtain ⟨r, h1, h2⟩ := key
 unfold z55
 rw [h1]
 rcases h2 with ⟨rfl, h2⟩ | rfl
 ·rw [ze8, tu0a, h2]
 ·rw [zfq, tu1a]
end Go.Am.Tryd
/- Plain law: whole numbers and their texts. -/
namespace Go.Am.Tryd
open Go Go.Am Go.Proofs
variable {K : Nat}
end Go.Am.Tryd
/- Plain law: comparisons of rational numbers. -/
namespace Go.Am.Tryd
open Go Go.Am Go.Proofs
variable {K : Nat}
def RTs (l : List zAd) (f : Nat -> Rat) : Prop := ∀ i (h : i < l.length), RTx l[i] (f i)
theorem zlw {l : List zAd} (hs : ∀ s ∈ l, s.size <= 1048576) (h0 : z7e l = 0) : ∃ f, RTs l f /\ ∀ i, i < l.length -> Dl (f i) 2000 := by
 classical
 have hz := z6y h0
 have hex : ∀ i (h : i < l.length), ∃ x, RTx l[i] x /\ Dl x 2000 := fun i h => zfb (hs _ (List.getElem_mem h)) (hz _ (List.getElem_mem h))
 refine ⟨fun i => if h : i < l.length then (hex i h).choose else 0, fun i h => ?_, fun i h => ?_⟩
 ·dsimp only; rw [dif_pos h]; exact (hex i h).choose_spec.1
 ·dsimp only; rw [dif_pos h]; exact (hex i h).choose_spec.2
def sumF (f : Nat -> Rat) : Nat -> Rat
 | 0 => 0
 | i + 1 => sumF f i + f i
theorem zk1 {f : Nat -> Rat} {M : Nat} : ∀ {n : Nat}, (∀ i, i < n -> Dl (f i) M) -> Dl (sumF f n) ((M + 1) * n + 1)
 | 0, _ => Dl.zero.mono (by omega)
 | n + 1, h => by
  have h1 := zk1 (n := n) (fun i hi => h i (by omega))
  have h2 := h1.add (h n (by omega))
  exact h2.mono (by rw [Nat.mul_add]; omega)
end Go.Am.Tryd
/- Plain law: vectors and matrices of rational texts: their checks, their numbers, products and sums. -/
namespace Go.Am.Tryd
open Go Go.Am Go.Proofs
variable {K : Nat}
def resF {R : Type} : Option R -> R ⊕ Unit
 | some r => .inl r
 | none => .inr ()
theorem zee {α R : Type} {l : List α} {L : Nat -> Int -> Option (R ⊕ Unit)} (p : α -> Option R) (h0 : ∀ k, L (k + 1) (l.length : Int) = some (.inr ()))
  (h1 : ∀ k i (hi : i < l.length), L (k + 1) (i : Int) = match p l[i] with | some r => some (.inl r) | none => L k ((i + 1 : Nat) : Int)) (hK : l.length < K) :
  L K 0 = some (resF (l.findSome? p)) := by
 have key : ∀ n i k, i + n = l.length -> n < k -> L k (i : Int) = some (resF ((l.drop i).findSome? p)) := by
  intro n
  induction n with
  | zero =>
   intro i k hi hk
   obtain ⟨k, rfl⟩ : ∃ m, k = m + 1 := ⟨k - 1, by omega⟩
   obtain rfl : i = l.length := by omega
   rw [h0, List.drop_length]
   rfl
  | succ n ih =>
   intro i k hi hk
   obtain ⟨k, rfl⟩ : ∃ m, k = m + 1 := ⟨k - 1, by omega⟩
   rw [h1 k i (by omega), List.drop_eq_getElem_cons (by omega), List.findSome?_cons]
   cases hp : p l[i] with
   | some r => rfl
   | none => exact ih (i + 1) k (by omega) (by omega)
 have := key l.length 0 K (by omega) hK
 simpa using this
def Fam {α : Type} (P : Nat -> α -> Prop) (n : Nat) (l : List α) : Prop := l.length = n /\ ∀ j (h : j < l.length), P j l[j]
theorem Fam.nil {α : Type} {P : Nat -> α -> Prop} : Fam P 0 [] := ⟨rfl, fun j h => by simp at h⟩
theorem Fam.snoc {α : Type} {P : Nat -> α -> Prop} {n : Nat} {l : List α} {y : α} (h : Fam P n l) (hy : P n y) : Fam P (n + 1) (l ++ [y]) := by
 refine ⟨by simp [h.1], fun j hj => ?_⟩
 by_cases c : j < l.length
 ·rw [List.getElem_append_left c]; exact h.2 j c
 ·have : j = l.length := by simp at hj; omega
  subst this
  rw [List.getElem_append_right (by omega)]
  simp only [Nat.sub_self, List.getElem_cons_zero]
  rw [h.1]; exact hy
theorem Fam.idx {α : Type} {P : Nat -> α -> Prop} {n j : Nat} {l : List α} (h : Fam P n l) (hj : j < n) : ∃ y, idx l (j : Int) = some y /\ P j y := by
 have hl : j < l.length := by rw [h.1]; exact hj
 exact ⟨l[j], z5e (zAh hl), h.2 j hl⟩
theorem Fam.mono {α : Type} {P Q : Nat -> α -> Prop} {n : Nat} {l : List α} (h : Fam P n l) (hPQ : ∀ j y, j < n -> P j y -> Q j y) : Fam Q n l :=
 ⟨h.1, fun j hj => hPQ j _ (by rw [<- h.1]; exact hj) (h.2 j hj)⟩
theorem Fam.uniq {α : Type} {P : Nat -> α -> Prop} {n : Nat} {l m : List α} (hu : ∀ j x y, P j x -> P j y -> x = y) (h : Fam P n l) (k : Fam P n m) : l = m :=
 List.ext_getElem (by rw [h.1, k.1]) fun j h1 h2 => hu j _ _ (h.2 j h1) (k.2 j h2)
theorem k1 {i : Nat} (h : i <= 1048576) : z05 .i64 ((i : Int) + 1) = ((i + 1 : Nat) : Int) := by rw [k64 (by omega) (by omega)]; omega
theorem lt_d {i n : Nat} (h : i < n) : decide ((i : Int) < (n : Int)) = true := decide_eq_true (by omega)
noncomputable def vecE (l : List zAd) : Int := if l.length > 40 then 2 else z7e l
theorem zlx {n : Nat} {α : Type} (a b : α) : (if decide ((n : Int) > 40) = true then a else b) = if n > 40 then a else b := by
 by_cases h : n > 40
 ·rw [if_pos h, if_pos (decide_eq_true (by omega))]
 ·rw [if_neg h, if_neg (by simp; omega)]
theorem zbz {l : List zAd} (hl : l.length <= 1048576) (hs : ∀ s ∈ l, s.size <= 1048576) (hK : 2000000000 < K) : z2e K l = some (vecE l) := by
 unfold z2e vecE
 rw [zlx, zfw hl hs hK, z0i]
 split <;> rfl
theorem zfc {l : List zAd} (hl : l.length <= 1048576) (hs : ∀ s ∈ l, s.size <= 1048576) (hK : 2000000000 < K) : z4u K l = some (vecE l) := by
 unfold z4u vecE
 rw [zlx, zjl hl hs hK, z0i]
 split <;> rfl
theorem zfd {l : List zAd} (h : vecE l = 0) : l.length <= 40 /\ z7e l = 0 := by
 unfold vecE at h
 split at h
 ·cases h
 ·exact ⟨by omega, h⟩
def MOk (m : List (List zAd)) : Prop := m.length <= 1048576 /\ ∀ row ∈ m, row.length <= 1048576 /\ ∀ s ∈ row, s.size <= 1048576
theorem ne_len {a b : Nat} : (((a : Int) != (b : Int)) = true) ↔ a ≠ b := by rw [bne_iff_ne]; omega
theorem zkq {l : List Int} (hl : l.length <= 1048576) (hK : 2000000000 < K) : z5s K l = some ((l.findSome? fun x => if x ≠ 0 then some x else none).getD 0) := by
 unfold z5s
 rw [zee (K := K) (l := l) (L := z34 K l) (fun x => if x ≠ 0 then some x else none) (fun k => by rw [z34, if_neg (by simp)]) (fun k i hi => ?_) (by omega)]
 ·cases List.findSome? (fun x => if x ≠ 0 then some x else none) l <;> rfl
 ·have hx : idx l (i : Int) = some l[i] := z5e (zAh hi)
  rw [z34, if_pos (lt_d hi), hx, z0i, k1 (by omega)]
  by_cases c : l[i] ≠ 0
  ·rw [if_pos (by simpa using c), if_pos c]
  ·rw [if_neg (by simpa using c), if_neg c]
theorem zjm {a b : Int} (hK : 2000000000 < K) : z5s K [a, b] = some (if a ≠ 0 then a else b) := by
 rw [zkq (by simp) hK]
 by_cases ha : a = 0 <;> by_cases hb : b = 0 <;> simp [ha, hb]
def zkw (n : Int) (m : List (List (List zAd))) : Bool := m.any fun x => decide ((x.length : Int) > n) || x.any fun v => decide ((v.length : Int) > n) || v.any fun r => decide ((r.size : Int) > 12)
theorem zhz {α : Type} (l : List α) (p : α -> Bool) : l.any p = (l.findSome? fun x => if p x then some () else none).isSome := by
 induction l with
 | nil => rfl
 | cons x l ih =>
  rw [List.any_cons, List.findSome?_cons, ih]
  cases h : p x <;> simp
theorem zbb {l : List zAd} {F : zAd -> Option Bool} {p : zAd -> Bool} (hl : l.length <= 1048576) (hK : 2000000000 < K) (hp : ∀ x ∈ l, F x = some (p x)) : z0e K l F = some (l.any p) := by
 have key : ∃ r : Int ⊕ Unit, z0b K l F K 0 = some r /\ ((r = .inr () /\ l.any p = false) \/ ∃ i : Int, 0 <= i /\ r = .inl i /\ l.any p = true) := by
  refine za1 (fun k (s : Int) => z0b K l F k s) (fun s => ∃ i : Nat, s = i /\ i <= l.length /\ (l.take i).any p = false) (fun s => (l.length - s : Int).toNat) _ ?_ (0 : Int) (by omega) ⟨0, rfl, by omega, by simp⟩
  rintro k _ ⟨i, rfl, h0, h1⟩
  by_cases hi : i < l.length
  ·have hx : idx l (i : Int) = some l[i] := z5e (zAh hi)
   have hpi := hp l[i] (List.getElem_mem hi)
   have hsn : l.take (i + 1) = l.take i ++ [l[i]] := by rw [List.take_add_one, zAh hi]; rfl
   cases hc : p l[i] with
   | true =>
    left
    refine ⟨.inl i, ?_, .inr ⟨i, by omega, rfl, List.any_eq_true.2 ⟨l[i], List.getElem_mem hi, hc⟩⟩⟩
    rw [z0b, if_pos (decide_eq_true (by omega)), hx, z0i, hpi, z0i, hc, if_pos rfl]
   | false =>
    right
    refine ⟨(i : Int) + 1, ?_, by omega, i + 1, rfl, by omega, by rw [hsn, List.any_append, h1]; simp [hc]⟩
    rw [z0b, if_pos (decide_eq_true (by omega)), hx, z0i, hpi, z0i, hc, if_neg (by simp), k64 (by omega) (by omega)]
  ·left
   have : i = l.length := by omega
   subst this
   rw [List.take_of_length_le (Nat.le_refl _)] at h1
   refine ⟨.inr (), ?_, .inl ⟨rfl, h1⟩⟩
   rw [z0b, if_neg (by simp)]
 obtain ⟨r, h1, h2⟩ := key
 unfold z0e z0s
 rw [h1]
 rcases h2 with ⟨rfl, h3⟩ | ⟨i, h4, rfl, h3⟩
 ·rw [h3]; rfl
 ·rw [h3, zfq, tu1a, z0i, decide_eq_true (by omega)]
theorem zly {n : Int} {m : List (List (List zAd))} (hm : m.length <= 1048576) (hr : ∀ x ∈ m, MOk x) (hK : 2000000000 < K) : z6v K n m = some (zkw n m) := by
 have hv : ∀ x ∈ m, z2x K n x K 0 = some (resF (x.findSome? (fun v => if (decide ((v.length : Int) > n) || v.any fun r => decide ((r.size : Int) > 12)) then some true else none))) := fun x hx => by
  obtain ⟨x1, x2⟩ := hr x hx
  refine zee (K := K) (l := x) (L := z2x K n x) (fun v => if (decide ((v.length : Int) > n) || v.any fun r => decide ((r.size : Int) > 12)) then some true else none) (fun k => by rw [z2x, if_neg (by simp)]) (fun k i hi => ?_) (by omega)
  have hxi : idx x (i : Int) = some x[i] := z5e (zAh hi)
  obtain ⟨r1, r2⟩ := x2 x[i] (List.getElem_mem hi)
  rw [z2x, if_pos (lt_d hi), hxi, z0i, k1 (by omega), zbb (F := fun x => z63 K x) (p := fun r => decide ((r.size : Int) > 12)) r1 hK (fun r _ => rfl), z0i]
  cases c1 : decide ((x[i].length : Int) > n) <;> cases c2 : x[i].any (fun r => decide ((r.size : Int) > 12)) <;> simp [tu1a]
 unfold z6v zkw
 rw [zhz]
 rw [zee (K := K) (l := m) (L := z3i K n m) (fun x => if (decide ((x.length : Int) > n) || x.any fun v => decide ((v.length : Int) > n) || v.any fun r => decide ((r.size : Int) > 12)) then some true else none) (fun k => by rw [z3i, if_neg (by simp)]) (fun k i hi => ?_) (by omega)]
 ·have : ∀ l : List (List (List zAd)), ∀ q : List (List zAd) -> Bool, zae (some (resF (l.findSome? (fun x => if q x then some true else none)))) (tu1 fun a => some a) (tu0 (some false)) = some (l.findSome? fun x => if q x then some () else none).isSome := by
   intro l q
   induction l with
   | nil => rfl
   | cons x l ih =>
    rw [List.findSome?_cons, List.findSome?_cons]
    cases h : q x
    ·simpa [h] using ih
    ·rfl
  exact this m _
 ·have hx : idx m (i : Int) = some m[i] := z5e (zAh hi)
  rw [z3i, if_pos (lt_d hi), hx, z0i, k1 (by omega), hv m[i] (List.getElem_mem hi)]
  cases c1 : decide ((m[i].length : Int) > n)
  ·rw [if_neg (by simp)]
   rw [zhz m[i]]
   generalize hq : (fun v : List zAd => (decide ((v.length : Int) > n) || v.any fun r => decide ((r.size : Int) > 12))) = q
   have : ∀ l : List (List zAd), (l.findSome? (fun v => if q v then some true else none)) = ((l.findSome? fun v => if q v then some () else none).map fun _ => true) := by
    intro l
    induction l with
    | nil => rfl
    | cons x l ih =>
     rw [List.findSome?_cons, List.findSome?_cons, ih]
     cases q x <;> rfl
   subst hq
   rw [this]
   cases List.findSome? _ m[i] <;> rfl
  ·rw [if_pos rfl]; rfl
end Go.Am.Tryd
/- The closed matrix fact holds. -/
namespace Go.Am.Tryd
open Go Go.Am Go.Proofs
end Go.Am.Tryd
/- Plain law: rows and scalar products; MatrixDots answers true. -/
namespace Go.Am.Tryd
open Go Go.Am Go.Proofs
variable {K : Nat}
abbrev FT (f : Nat -> Rat) (n : Nat) (l : List zAd) : Prop := Fam (fun j s => RTx s (f j)) n l
theorem FT.uniq {f : Nat -> Rat} {n : Nat} {l m : List zAd} (h : FT f n l) (k : FT f n m) : l = m := Fam.uniq (fun _ _ _ h1 h2 => h1.inj h2) h k
theorem zi0 {n : Int} {m : List (List (List zAd))} (h : zkw n m = false) : ∀ x ∈ m, (x.length : Int) <= n /\ ∀ v ∈ x, (v.length : Int) <= n /\ ∀ r ∈ v, r.size <= 12 := by
 intro x hx
 unfold zkw at h
 rw [List.any_eq_false] at h
 have h1 := h x hx
 simp only [Bool.not_eq_true, Bool.or_eq_false_iff, decide_eq_false_iff_not, List.any_eq_false, decide_eq_true_eq] at h1
 refine ⟨by omega, fun v hv => ?_⟩
 have h2 := h1.2 v hv
 exact ⟨by omega, fun r hr => by have := h2.2 r hr; omega⟩
end Go.Am.Tryd
/- Plain law: parts of the losses' laws: resistances, points, texts told. -/
namespace Go.Am.Tryd
open Go Go.Am Go.Proofs
variable {K : Nat}
theorem zi1 {a : Q} {x : Rat} {N : Nat} (ha : QV a x) (dx : Dl x N) (hN : N <= 900000) (hK : 2000000000 < K) : (Dl x 2000 -> ∃ s, z29 K a = some (s, 0) /\ RTx s x) /\ (¬ Dl x 2000 -> z29 K a = some (⟨#[]⟩, 2)) := by
 obtain ⟨f1, f2⟩ := zlu ha dx hN hK
 unfold z29
 refine ⟨fun h => ?_, fun h => ?_⟩
 ·obtain ⟨s, s1, s2⟩ := zlt ha dx hN hK
  exact ⟨s, by rw [f1 h, z0i, if_neg (by simp), s1, z0i], s2⟩
 ·rw [f2 h, z0i]; rfl
theorem zmn {x : Rat} : decide ((if x = 0 then (0 : Int) else if x.num < 0 then -1 else 1) < 0) = decide (x.num < 0) := by
 by_cases c : x = 0
 ·subst c; rw [if_pos rfl]; rfl
 ·rw [if_neg c]
  by_cases d : x.num < 0
  ·rw [if_pos d, decide_eq_true (by omega), decide_eq_true d]
  ·rw [if_neg d, decide_eq_false (by omega), decide_eq_false d]
theorem zfe {r : zAd} (sr : r.size <= 1048576) (hK : 2000000000 < K) : ∃ fe, z3g K r = some fe /\ (ratE r ≠ 0 -> fe = ratE r) /\ (ratE r = 0 -> ∃ x, RTx r x /\ Dl x 2000 /\ fe = if x.num < 0 then 4 else 0) := by
 unfold z3g
 rw [z9s sr hK, z0i]
 by_cases h : ratE r = 0
 ·obtain ⟨x, x1, x2⟩ := zfb sr h
  obtain ⟨q, q1, q2⟩ := zhw (K := K) x1 sr hK
  rw [if_neg (by simpa using h), q1, z0i, zkn q2, z0i, zmn]
  refine ⟨if x.num < 0 then 4 else 0, ?_, fun k => absurd h k, fun _ => ⟨x, x1, x2, rfl⟩⟩
  by_cases c : x.num < 0
  ·rw [if_pos (decide_eq_true c), if_pos c]
  ·rw [if_neg (by simpa using c), if_neg c]
 ·exact ⟨ratE r, by rw [if_pos (by simpa using h)], fun _ => rfl, fun k => absurd k h⟩
theorem zff {a b : Q} {x y : Rat} (ha : QV a x) (hb : QV b y) {N : Nat} (dx : Dl x N) (dy : Dl y N) (hN : N <= 100000) (hK : 2000000000 < K) : ∃ q, z3h K a b = some q /\ QV q (x * y * y) := by
 obtain ⟨q, q1, q2⟩ := zjz (K := K) ha hb dx dy (by omega) hK
 obtain ⟨p, p1, p2⟩ := zjz (K := K) (N := N + N) q2 hb (dx.mul dy) (dy.mono (by omega)) (by omega) hK
 exact ⟨p, by unfold z3h; rw [q1, z0i, p1, z0i], p2⟩
theorem zkr {r f : zAd} {x y : Rat} {N : Nat} (sr : r.size <= 1048576) (sf : f.size <= 1048576) (er : ratE r = 0) (ef : ratE f = 0) (hx : RTx r x) (hy : RTx f y) (h0 : ¬ x.num < 0) (dx : Dl x N) (dy : Dl y N) (hN : N <= 600) (hK : 2000000000 < K) : ∃ s, z4o K r f = some (s, 0) /\ RTx s (x * y * y) := by
 obtain ⟨fe, f1, f2, f3⟩ := zfe (K := K) sr hK
 obtain ⟨x', x1, x2, x3⟩ := f3 er
 have e := hx.val x1
 subst e
 rw [if_neg h0] at x3
 subst x3
 obtain ⟨p, p1, p2⟩ := zhw (K := K) hx sr hK
 obtain ⟨q, q1, q2⟩ := zhw (K := K) hy sf hK
 obtain ⟨m, m1, m2⟩ := zff (K := K) p2 q2 dx dy (by omega) hK
 have dm := (dx.mul dy).mul dy
 obtain ⟨s, s1, s2⟩ := (zi1 (K := K) m2 dm (by omega) hK).1 (dm.mono (by omega))
 refine ⟨s, ?_, s2⟩
 unfold z4o
 rw [f1, z0i, if_neg (by simp), z9s sf hK, ef, z0i, if_neg (by simp), p1, z0i, q1, z0i, m1, z0i, s1, z0i]
end Go.Am.Tryd
/- Closed fact: lossFact, by evaluation of the typed functions. -/
namespace Go.Am.Tryd
open Go Go.Am Go.Proofs
theorem zdr : z5k 2000000001 = some true := by kernel_rfl
end Go.Am.Tryd
/- Plain law: LossTotals answers true. -/
namespace Go.Am.Tryd
open Go Go.Am Go.Proofs
variable {K : Nat}
noncomputable def negT (s : zAd) : Bool := @decide (∃ y, RTx s y /\ y.num < 0) (Classical.propDecidable _)
theorem zi2 {s : zAd} {x : Rat} (h : RTx s x) : negT s = decide (x.num < 0) := by
 unfold negT
 by_cases c : x.num < 0
 ·rw [decide_eq_true c]; exact @decide_eq_true _ (Classical.propDecidable _) ⟨x, h, c⟩
 ·rw [decide_eq_false c]
  refine @decide_eq_false _ (Classical.propDecidable _) ?_
  rintro ⟨y, y1, y2⟩
  have e := h.val y1
  subst e
  exact c y2
theorem zm3 {f g : Nat -> Rat} {n M : Nat} (df : ∀ j, j < n -> Dl (f j) M) (dg : ∀ j, j < n -> Dl (g j) M) : ∀ m, m <= n -> Dl (sumF (fun j => f j * g j * g j) m) ((3 * M + 1) * m + 1) := fun m hm => by
 have := zk1 (f := fun j => f j * g j * g j) (M := 3 * M) (n := m) (fun i hi => (((df i (by omega)).mul (dg i (by omega))).mul (dg i (by omega))).mono (by omega))
 exact this
theorem zi3 {a b : List zAd} {f g : Nat -> Rat} (hl : a.length = b.length) (ha : a.length <= 40) (sa : ∀ s ∈ a, s.size <= 1048576) (sb : ∀ s ∈ b, s.size <= 1048576) (ea : ∀ s ∈ a, ratE s = 0) (hf : RTs a f) (hg : RTs b g) (df : ∀ i, i < a.length -> Dl (f i) 2000) (dg : ∀ i, i < a.length -> Dl (g i) 2000) (hK : 2000000000 < K) :
  ∃ r : (zAd × Int) ⊕ Q, z19 K a b K (Q.mk false ([] : List Int) ([] : List Int)) 0 = some r /\ ((r = .inl (⟨#[]⟩, 4) /\ ∃ i, i < a.length /\ (f i).num < 0) \/ ∃ q, r = .inr q /\ QV q (sumF (fun j => f j * g j * g j) a.length) /\ ∀ i, i < a.length -> ¬ (f i).num < 0) := by
 refine za1 (fun k (s : Q × Int) => z19 K a b k s.1 s.2) (fun s => ∃ i : Nat, s.2 = i /\ i <= a.length /\ QV s.1 (sumF (fun j => f j * g j * g j) i) /\ ∀ j, j < i -> ¬ (f j).num < 0) (fun s => (a.length + 1 - s.2 : Int).toNat) _ ?_ ((⟨false, [], []⟩, 0) : Q × Int) (by dsimp only; omega) ⟨0, rfl, by omega, QV.zero, fun j hj => by omega⟩
 rintro k ⟨q, _⟩ ⟨i, rfl, h0, h1, h2⟩
 dsimp only at h1 ⊢
 by_cases hi : i < a.length
 ·have hx : idx a (i : Int) = some a[i] := z5e (zAh hi)
  have hy : idx b (i : Int) = some b[i] := z5e (zAh (by omega))
  have s1 := sa a[i] (List.getElem_mem hi)
  have s2 := sb b[i] (List.getElem_mem (by omega))
  obtain ⟨fe, f1, _, f3⟩ := zfe (K := K) s1 hK
  obtain ⟨x, x1, _, x3⟩ := f3 (ea _ (List.getElem_mem hi))
  have e := (hf i hi).val x1
  subst e
  by_cases c : (f i).num < 0
  ·left
   rw [if_pos c] at x3
   subst x3
   exact ⟨.inl (⟨#[]⟩, 4), by rw [z19, if_pos (lt_d hi), hx, z0i, f1, z0i, if_pos (by simp)], .inl ⟨rfl, i, hi, c⟩⟩
  ·right
   rw [if_neg c] at x3
   subst x3
   obtain ⟨p, p1, p2⟩ := zhw (K := K) (hf i hi) s1 hK
   obtain ⟨o, o1, o2⟩ := zhw (K := K) (hg i (by omega)) s2 hK
   obtain ⟨m, m1, m2⟩ := zff (K := K) p2 o2 (df i hi) (dg i hi) (by omega) hK
   have d1 := (zm3 df dg i (by omega)).mono (show (3 * 2000 + 1) * i + 1 <= 250000 by omega)
   have d2 := (((df i hi).mul (dg i hi)).mul (dg i hi)).mono (show 2000 + 2000 + 2000 <= 250000 by omega)
   obtain ⟨t, t1, t2⟩ := zls (K := K) h1 m2 d1 d2 (by omega) hK
   refine ⟨(t, (i : Int) + 1), ?_, by dsimp only; omega, i + 1, rfl, by omega, t2, fun j hj => ?_⟩
   ·rw [z19, if_pos (lt_d hi), hx, z0i, f1, z0i, if_neg (by simp), p1, z0i, hy, z0i, o1, z0i, m1, z0i, t1, z0i, k64 (by omega) (by omega)]
   ·by_cases e : j = i
    ·subst e; exact c
    ·exact h2 j (by omega)
 ·left
  have : i = a.length := by omega
  subst this
  exact ⟨.inr q, by rw [z19, if_neg (by simp)], .inr ⟨q, rfl, h1, h2⟩⟩
theorem zks {a b : List zAd} {f g : Nat -> Rat} (hl : a.length = b.length) (ha : a.length <= 40) (sa : ∀ s ∈ a, s.size <= 12) (sb : ∀ s ∈ b, s.size <= 12) (ea : ∀ s ∈ a, ratE s = 0) (eb : ∀ s ∈ b, ratE s = 0) (hf : RTs a f) (hg : RTs b g) (hn : ∀ i, i < a.length -> ¬ (f i).num < 0) (hK : 2000000000 < K) :
  ∃ t, z0t K a b K ⟨#[48]⟩ 0 = some (.inr t) /\ RTx t (sumF (fun j => f j * g j * g j) a.length) := by
 have hz : RTx ⟨#[48]⟩ 0 := zko z9f z8s z5l z82 rfl
 have df : ∀ j, j < a.length -> Dl (f j) 13 := fun j hj => (hf j hj).dl (sa _ (List.getElem_mem hj))
 have dg : ∀ j, j < a.length -> Dl (g j) 13 := fun j hj => (hg j (by omega)).dl (sb _ (List.getElem_mem (by omega)))
 have key : ∃ r : Bool ⊕ zAd, z0t K a b K ⟨#[48]⟩ 0 = some r /\ ∃ t, r = .inr t /\ RTx t (sumF (fun j => f j * g j * g j) a.length) := by
  refine za1 (fun k (s : zAd × Int) => z0t K a b k s.1 s.2) (fun s => ∃ i : Nat, s.2 = i /\ i <= a.length /\ RTx s.1 (sumF (fun j => f j * g j * g j) i)) (fun s => (a.length + 1 - s.2 : Int).toNat) _ ?_ ((⟨#[48]⟩, 0) : zAd × Int) (by dsimp only; omega) ⟨0, rfl, by omega, hz⟩
  rintro k ⟨t, _⟩ ⟨i, rfl, h0, h1⟩
  dsimp only at h1 ⊢
  by_cases hi : i < a.length
  ·right
   have hx : idx a (i : Int) = some a[i] := z5e (zAh hi)
   have hy : idx b (i : Int) = some b[i] := z5e (zAh (by omega))
   have s1 := sa a[i] (List.getElem_mem hi)
   have s2 := sb b[i] (List.getElem_mem (by omega))
   obtain ⟨q, q1, q2⟩ := zkr (K := K) (N := 13) (by omega) (by omega) (ea _ (List.getElem_mem hi)) (eb _ (List.getElem_mem (by omega))) (hf i hi) (hg i (by omega)) (hn i hi) (df i hi) (dg i hi) (by omega) hK
   obtain ⟨m, m1, m2⟩ := zk0 (K := K) (N := 13) (hg i (by omega)) (hg i (by omega)) (dg i hi) (dg i hi) (by omega) hK
   obtain ⟨o, o1, o2⟩ := zk0 (K := K) (N := 26) (hf i hi) m2 ((df i hi).mono (by omega)) ((dg i hi).mul (dg i hi)) (by omega) hK
   have e : f i * (g i * g i) = f i * g i * g i := by grind
   rw [e] at o2
   have eq : q = o := RTx.inj q2 o2
   subst eq
   have d1 := (zm3 df dg i (by omega)).mono (show (3 * 13 + 1) * i + 1 <= 2000 by omega)
   have d2 := (((df i hi).mul (dg i hi)).mul (dg i hi)).mono (show 13 + 13 + 13 <= 2000 by omega)
   obtain ⟨u, u1, u2⟩ := zlv (K := K) h1 q2 d1 d2 (by omega) hK
   refine ⟨(u, (i : Int) + 1), ?_, by dsimp only; omega, i + 1, rfl, by omega, u2⟩
   rw [z0t, if_pos (lt_d hi), hx, z0i, hy, z0i, q1, z0i, z0i, z0i, m1, z0i, o1, z0i, if_neg (by simp), z8u, z0i, tu1a, if_neg (by simp), u1, z0i, k64 (by omega) (by omega)]
  ·left
   have : i = a.length := by omega
   subst this
   exact ⟨.inr t, by rw [z0t, if_neg (by simp)], t, rfl, h1⟩
 obtain ⟨_, r1, t, rfl, t1⟩ := key
 exact ⟨t, r1, t1⟩
theorem zbm {a b : List zAd} (ha : a.length <= 1048576 /\ ∀ s ∈ a, s.size <= 1048576) (hb : b.length <= 1048576 /\ ∀ s ∈ b, s.size <= 1048576) : ∃ K, z4i K a b = some true := by
 obtain ⟨la, sa⟩ := ha
 obtain ⟨lb, sb⟩ := hb
 refine ⟨2000000001, ?_⟩
 have hK : 2000000000 < 2000000001 := by omega
 have hv : z6v 2000000001 40 [[a, b]] = some (zkw 40 [[a, b]]) := zly (by simp) (fun x hx => by
  simp at hx; subst hx
  refine ⟨by simp, fun row hr => ?_⟩
  simp at hr
  rcases hr with rfl | rfl
  ·exact ⟨la, sa⟩
  ·exact ⟨lb, sb⟩) hK
 unfold z4i
 rw [zdr, zfc la sa hK, zfc lb sb hK, hv]
 simp only [z0i, Bool.not_true, Bool.false_eq_true, if_false, zjm hK]
 have hT : z4p 2000000001 a b = (if vecE a ≠ 0 then some (⟨#[]⟩, vecE a) else if vecE b ≠ 0 then some (⟨#[]⟩, vecE b) else if a.length ≠ b.length then some (⟨#[]⟩, 3) else zae (z19 2000000001 a b 2000000001 (Q.mk false ([] : List Int) ([] : List Int)) 0) (tu2 fun a166 a167 => some (a166, a167)) (tu1 fun x142 => ((z29 2000000001 x142).bind fun x154 => some (x154.1, x154.2)))) := by
  unfold z4p
  rw [zbz la sa hK, zbz lb sb hK, z0i, z0i]
  by_cases ea : vecE a = 0
  ·by_cases eb : vecE b = 0
   ·by_cases hl : a.length = b.length
    ·rw [if_neg (by simpa using ea), if_neg (by simpa using eb), if_neg (fun e => ne_len.1 e hl), if_neg (by simpa using ea), if_neg (by simpa using eb), if_neg (by simpa using hl)]
    ·rw [if_neg (by simpa using ea), if_neg (by simpa using eb), if_pos (ne_len.2 hl), if_neg (by simpa using ea), if_neg (by simpa using eb), if_pos hl]
   ·rw [if_neg (by simpa using ea), if_pos (by simpa using eb), if_neg (by simpa using ea), if_pos eb]
  ·rw [if_pos (by simpa using ea), if_pos ea]
 rw [hT]
 by_cases ea : vecE a = 0
 ·by_cases eb : vecE b = 0
  ·by_cases hl : a.length = b.length
   ·have hne : ((a.length : Int) != (b.length : Int)) = false := by rw [hl]; simp
    obtain ⟨a40, a0⟩ := zfd ea
    obtain ⟨b40, b0⟩ := zfd eb
    obtain ⟨f, f1, f2⟩ := zlw sa a0
    obtain ⟨g, g1, g2⟩ := zlw sb b0
    obtain ⟨r, r1, r2⟩ := zi3 (K := 2000000001) hl a40 sa sb (z6y a0) f1 g1 f2 (fun i hi => g2 i (by omega)) hK
    have hc : z0e 2000000001 a (fun x => z2a 2000000001 x) = some (a.any negT) := zbb la hK (fun x hx => by
     obtain ⟨i, hi, rfl⟩ := List.getElem_of_mem hx
     unfold z2a
     rw [zkp (K := 2000000001) (f1 i hi) (f2 i hi) (by omega) hK, z0i, zmn, zi2 (f1 i hi)])
    rw [if_neg (by simpa using ea), if_neg (by simpa using eb), if_neg (by simpa using hl), r1]
    rcases r2 with ⟨rfl, i, hi, h4⟩ | ⟨q, rfl, q1, q2⟩
    ·have hany : a.any negT = true := List.any_eq_true.2 ⟨a[i], List.getElem_mem hi, by rw [zi2 (f1 i hi), decide_eq_true h4]⟩
     simp [ea, eb, hne, z0i, tu1a, tu2a, hc, hany, zfq, z8u]
    ·have hany : a.any negT = false := by
      rw [List.any_eq_false]
      intro x hx
      obtain ⟨i, hi, rfl⟩ := List.getElem_of_mem hx
      rw [zi2 (f1 i hi), decide_eq_false (q2 i hi)]
      simp
     have hd := (zm3 (n := a.length) f2 (fun i hi => g2 i (by omega)) a.length (Nat.le_refl _)).mono (show (3 * 2000 + 1) * a.length + 1 <= 250000 by omega)
     obtain ⟨t1, t2⟩ := zi1 (K := 2000000001) q1 hd (by omega) hK
     cases hvc : zkw 40 [[a, b]] with
     | true =>
      by_cases hd2 : Dl (sumF (fun j => f j * g j * g j) a.length) 2000
      ·obtain ⟨s, s1, _⟩ := t1 hd2
       simp [ea, eb, hne, z0i, tu1a, hc, hany, ze8, s1]
      ·simp [ea, eb, hne, z0i, tu1a, hc, hany, ze8, t2 hd2]
     | false =>
      have hsm := zi0 hvc [a, b] (by simp)
      have s1 := (hsm.2 a (by simp)).2
      have s2 := (hsm.2 b (by simp)).2
      have df : ∀ j, j < a.length -> Dl (f j) 13 := fun j hj => (f1 j hj).dl (s1 _ (List.getElem_mem hj))
      have dg : ∀ j, j < a.length -> Dl (g j) 13 := fun j hj => (g1 j (by omega)).dl (s2 _ (List.getElem_mem (by omega)))
      have hd2 := (zm3 (n := a.length) df dg a.length (Nat.le_refl _)).mono (show (3 * 13 + 1) * a.length + 1 <= 2000 by omega)
      obtain ⟨s, s3, s4⟩ := t1 hd2
      obtain ⟨t, u1, u2⟩ := zks (K := 2000000001) hl a40 s1 s2 (z6y a0) (z6y b0) f1 g1 q2 hK
      have e : s = t := RTx.inj s4 u2
      subst e
      simp [ea, eb, hne, z0i, tu1a, hc, hany, ze8, s3, u1, z8u]
   ·have hne : ((a.length : Int) != (b.length : Int)) = true := ne_len.2 hl
    simp [ea, eb, hne, hl, z0i, tu1a, z8u]
  ·simp [ea, eb, z0i, tu1a, z8u]
 ·simp [ea, z0i, tu1a, z8u]
end Go.Am.Tryd
/- From a statement's arguments, read as data, to typed data. -/
namespace Go.Am
open Go Go.Proofs.YtdogeclnbdldaaaDoor
section
variable {H : Type} {P : Program} {G : GM} {n B : Nat} {t e : TypeId} {α β S : Type} {r : RT α} {s : RT β} {I : α -> Prop} {J : β -> Prop}
theorem zkt {H : Type} (d : DataW H) : 1 <= Rows.uptoBulk d := by
 cases d with
 | lit l => cases l <;> simp [Rows.uptoBulk]
 | _ => simp [Rows.uptoBulk]
theorem zi4 {H : Type} : ∀ (ds : List (DataW H)), ds.length <= Rows.uptoBulkAll ds
 | [] => Nat.zero_le _
 | d :: r => by
  have := zi4 r
  have := zkt d
  simp only [Rows.uptoBulkAll, List.length_cons]; omega
def Arg (H : Type) (P : Program) (G : GM) (n : Nat) (t : TypeId) (r : RT α) (B : Nat) (I : α -> Prop) : Prop := ∀ (cs : List Value) (d : DataW H), AData P G n t cs d -> Rows.uptoBulk d <= B -> ∃ x, r.rep G cs x /\ I x
def ArgS (H : Type) (P : Program) (G : GM) (n : Nat) (ts : List TypeId) (r : RT α) (B : Nat) (I : α -> Prop) : Prop :=
 ∀ (css : List (List Value)) (ds : List (DataW H)), AllD (AData P G n) P.cellsOf ts css ds -> Rows.uptoBulkAll ds <= B -> ∃ x, r.rep G css.flatten x /\ I x
theorem zku {k : IntKind} {x : Int} (h : (Lit.int k x).wf = true) : z8w k x = true := by
 cases k <;> simp [Lit.wf, IntKind.min, IntKind.max, IntKind.signed, IntKind.bits] at h <;> simp [z8w] <;> omega
theorem Arg.mono {I J : α -> Prop} (h : Arg H P G n t r B I) (k : ∀ x, I x -> J x) : Arg H P G n t r B J := fun cs d hd hb => by
 obtain ⟨x, h1, h2⟩ := h cs d hd hb
 exact ⟨x, h1, k x h2⟩
theorem Arg.int {k : IntKind} (hu : P.underlying t = some (.int k)) : Arg H P G (n + 1) t (rI k) B (fun x => z8w k x = true) := fun cs d h _ => by
 unfold AData at h
 simp only [hu] at h
 obtain ⟨x, h1, h2, h3⟩ := h
 exact ⟨x, h1, zku h3⟩
theorem Arg.bool (hu : P.underlying t = some .bool) : Arg H P G (n + 1) t rB B (fun _ => True) := fun cs d h _ => by
 unfold AData at h
 simp only [hu] at h
 obtain ⟨x, h1, _⟩ := h
 exact ⟨x, h1, trivial⟩
theorem Arg.str (hu : P.underlying t = some .string) : Arg H P G (n + 1) t rS B (fun x => x.size <= B) := fun cs d h hb => by
 unfold AData at h
 simp only [hu] at h
 obtain ⟨x, h1, h2, _⟩ := h
 refine ⟨x, h1, ?_⟩
 rw [h2] at hb
 simp only [Rows.uptoBulk, Array.length_toList] at hb
 have : x.data.size = x.size := rfl
 omega
theorem zcq (h : Arg H P G n e r B I) : ∀ (k : Nat) (css : List (List Value)) (ds : List (DataW H)), AllD (AData P G n) P.cellsOf (List.replicate k e) css ds -> Rows.uptoBulkAll ds <= B -> ∃ xs : List α, All2 (r.rep G) css xs /\ (∀ x ∈ xs, I x) /\ xs.length = k
 | 0, [], [], _, _ => ⟨[], .nil, by simp, rfl⟩
 | 0, _ :: _, _, h, _ => by simp [List.replicate, AllD] at h
 | 0, [], _ :: _, h, _ => by simp [List.replicate, AllD] at h
 | k + 1, [], _, h, _ => by simp [List.replicate, AllD] at h
 | k + 1, _ :: _, [], h, _ => by simp [List.replicate, AllD] at h
 | k + 1, c :: css, d :: ds, hA, hb => by
  simp only [List.replicate, AllD] at hA
  simp only [Rows.uptoBulkAll] at hb
  obtain ⟨x, h1, h2⟩ := h _ _ hA.1.1 (by omega)
  obtain ⟨xs, h3, h4, h5⟩ := zcq h k css ds hA.2 (by omega)
  refine ⟨x :: xs, .cons h1 h3, fun y hy => ?_, by simp [h5]⟩
  rcases List.mem_cons.1 hy with rfl | hy
  ·exact h2
  ·exact h4 y hy
theorem zfg {R : TypeId -> List Value -> DataW H -> Prop} {sz : TypeId -> Nat} : ∀ (k : Nat) {ts : List TypeId} {cs : List (List Value)} {ds : List (DataW H)}, AllD R sz ts cs ds -> AllD R sz (ts.take k) (cs.take k) (ds.take k)
 | 0, _, _, _, _ => by simp [AllD]
 | k + 1, [], [], [], _ => by simp [AllD]
 | k + 1, _ :: _, _ :: _, _ :: _, h => by simp only [List.take_succ_cons]; exact ⟨h.1, zfg k h.2⟩
theorem zi5 {R : TypeId -> List Value -> DataW H -> Prop} {sz : TypeId -> Nat} {e : TypeId} : ∀ (k : Nat) (css : List (List Value)) (ds : List (DataW H)), AllD R sz (List.replicate k e) css ds -> ∀ c ∈ css, c.length = sz e
 | 0, [], [], _, c, hc => by simp at hc
 | 0, _ :: _, _, h, _, _ => by simp [List.replicate, AllD] at h
 | 0, [], _ :: _, h, _, _ => by simp [List.replicate, AllD] at h
 | k + 1, [], _, h, _, _ => by simp [List.replicate, AllD] at h
 | k + 1, _ :: _, [], h, _, _ => by simp [List.replicate, AllD] at h
 | k + 1, c :: css, d :: ds, hA, u, hu => by
  simp only [List.replicate, AllD] at hA
  rcases List.mem_cons.1 hu with rfl | hu
  ·exact hA.1.2
  ·exact zi5 k css ds hA.2 u hu
theorem Arg.sl (hu : P.underlying t = some (.slice e)) (h : Arg H P G n e r B I) : Arg H P G (n + 1) t (rSl r) B (fun xs => xs.length <= B /\ ∀ x ∈ xs, I x) := fun cs d hA hb => by
 unfold AData at hA
 simp only [hu] at hA
 rcases hA with ⟨h1, h2⟩ | ⟨b, len, cap, elems, spare, css, h1, h2, h3, h4, _, h6, h7⟩
 ·subst h1
  exact ⟨[], zit, Nat.zero_le _, by simp⟩
 ·subst h2
  simp only [Rows.uptoBulk] at hb
  have hlen := zi4 elems
  have h8 := zfg len h7
  rw [List.take_replicate, show min len cap = len by omega, <- h3, List.take_left] at h8
  obtain ⟨xs, k1, k2, k3⟩ := zcq h elems.length (css.take elems.length) elems h8 (by omega)
  refine ⟨xs, ?_, by omega, k2⟩
  have hcl := zi5 _ _ _ h7
  have hel := k1.length
  by_cases hz : elems.length = 0
  ·have hx : xs = [] := List.length_eq_zero_iff.1 (by omega)
   subst hx
   refine ⟨_, [], h1, ⟨by simp, .inr (.inr ⟨b, 0, some 0, cap, by rw [<- h3, hz], rfl, .inr rfl⟩)⟩, .nil⟩
  ·rcases h6 with h6 | ⟨x, g1, _, g3⟩
   ·omega
   ·refine ⟨_, css.take elems.length, h1, ⟨k1.each, .inr (.inl ⟨b, 0, some 0, cap, x, by rw [hel, k3, <- h3], g1, ?_, ?_, by rw [hel, k3]; omega, .inr rfl⟩)⟩, k1⟩
    ·rw [g3]
     have h9 : css.flatten = (css.take elems.length).flatten ++ (css.drop elems.length).flatten := by rw [<- List.flatten_append, List.take_append_drop]
     rw [h9, List.length_append, k1.flatLen, hel]; omega
    ·rw [g3, List.drop_zero]
     have h9 : css.flatten = (css.take elems.length).flatten ++ (css.drop elems.length).flatten := by rw [<- List.flatten_append, List.take_append_drop]
     have h10 : (css.take elems.length).length * r.sz = (css.take elems.length).flatten.length := by rw [k1.flatLen, hel]
     rw [h9, h10, List.take_left]
theorem Arg.arr {k : Nat} (hu : P.underlying t = some (.array k e)) (h : Arg H P G n e r B I) : Arg H P G (n + 1) t (rArr k r) B (fun xs => xs.length = k /\ ∀ x ∈ xs, I x) := fun cs d hA hb => by
 unfold AData at hA
 simp only [hu] at hA
 obtain ⟨css, parts, h1, h2, h3⟩ := hA
 subst h2
 simp only [Rows.uptoBulk] at hb
 obtain ⟨xs, k1, k2, k3⟩ := zcq h k css parts h3 (by omega)
 exact ⟨xs, ⟨k3, css, h1, k1⟩, k3, k2⟩
theorem ArgS.one (h : Arg H P G n t r B I) : ArgS H P G n [t] r B I := fun css ds hA hb => by
 match css, ds, hA with
 | [c], [d], hA =>
  simp only [Rows.uptoBulkAll] at hb
  obtain ⟨x, h1, h2⟩ := h c d hA.1.1 (by omega)
  exact ⟨x, by simpa using h1, h2⟩
 | [], _, hA => simp [AllD] at hA
 | _ :: _ :: _, [], hA => simp [AllD] at hA
 | _ :: _ :: _, [_], hA => simp [AllD] at hA
 | _ :: _ :: _, _ :: _ :: _, hA => simp [AllD] at hA
 | [_], [], hA => simp [AllD] at hA
 | [_], _ :: _ :: _, hA => simp [AllD] at hA
theorem ArgS.cons {ts : List TypeId} (h : Arg H P G n t r B I) (k : ArgS H P G n ts s B J) : ArgS H P G n (t :: ts) (rP r s) B (fun x => I x.1 /\ J x.2) := fun css ds hA hb => by
 match css, ds, hA with
 | c :: css, d :: ds, hA =>
  simp only [Rows.uptoBulkAll] at hb
  obtain ⟨x, h1, h2⟩ := h c d hA.1.1 (by omega)
  obtain ⟨y, h3, h4⟩ := k css ds hA.2 (by omega)
  exact ⟨(x, y), ⟨c, css.flatten, by simp, h1, h3⟩, h2, h4⟩
 | [], _, hA => simp [AllD] at hA
 | _ :: _, [], hA => simp [AllD] at hA
theorem Arg.struct {fs : Array Field} {ts : List TypeId} (hu : P.underlying t = some (.struct fs)) (hts : fs.toList.map (·.type) = ts) (h : ArgS H P G n ts r B I) (f : S -> α) (g : α -> S) (hg : ∀ p, f (g p) = p) : Arg H P G (n + 1) t (rIso r f) B (fun x => I (f x)) := fun cs d hA hb => by
 unfold AData at hA
 simp only [hu] at hA
 obtain ⟨css, parts, h1, h2, h3⟩ := hA
 subst h2
 simp only [Rows.uptoBulk] at hb
 rw [hts] at h3
 obtain ⟨p, k1, k2⟩ := h css parts h3 (by omega)
 exact ⟨g p, by rw [h1]; show r.rep G css.flatten (f (g p)); rw [hg]; exact k1, by show I (f (g p)); rw [hg]; exact k2⟩
theorem AArgs.cons_inv {ts : List TypeId} {avs : List Value} {ds : List (DataW H)} (h : AArgs P G n (t :: ts) avs ds) : ∃ v vs d dr, avs = v :: vs /\ ds = d :: dr /\ AVal P G n t v d /\ AArgs P G n ts vs dr := by
 match avs, ds, h with
 | v :: vs, d :: dr, h => exact ⟨v, vs, d, dr, rfl, rfl, h.1, h.2⟩
 | [], _, h => simp [AArgs] at h
 | _ :: _, [], h => simp [AArgs] at h
theorem AArgs.nil_inv {avs : List Value} {ds : List (DataW H)} (h : AArgs P G n [] avs ds) : avs = [] /\ ds = [] := by
 match avs, ds, h with
 | [], [], h => exact ⟨rfl, rfl⟩
 | [], _ :: _, h => simp [AArgs] at h
 | _ :: _, _, h => simp [AArgs] at h
theorem AVal.one {v : Value} {d : DataW H} (hu : z3q P t = some false) (h : AVal P G n t v d) : AData P G n t [v] d := by
 unfold AVal at h
 unfold z3q at hu
 split at h
 ·rename_i q; rw [q] at hu; cases hu
 ·rename_i q; rw [q] at hu; cases hu
 ·exact h
theorem AVal.agg {v : Value} {d : DataW H} (hu : z3q P t = some true) (h : AVal P G n t v d) : ∃ cs, v = .agg (List.toArray cs) /\ AData P G n t cs d := by
 unfold AVal at h
 unfold z3q at hu
 split at h
 ·exact h
 ·exact h
 ·rename_i q1 q2
  split at hu
  ·rename_i q; exact absurd q (q1 _)
  ·rename_i q; exact absurd q (q2 _ _)
  ·cases hu
  ·cases hu
theorem Ow.empty (A : AH) : Ow A.get A [] := ⟨fun _ _ h => h, fun i e h => by simp at h, fun i j e e' _ h => by simp at h, fun i e h => by simp at h⟩
theorem CR.done {f : FuncId} {args : List Value} {A : AH} {b : Value} (h : CR P f args A.get A [] fun v _ _ => v = b) : ∃ A', ACalls P f args A b A' := by
 obtain ⟨v, H', G', h1, _, _, rfl⟩ := h
 exact ⟨H', h1⟩
end
end Go.Am
/- LossTotals over the statement's reading of its arguments. -/
namespace Go.Am.Tryd
open Go Go.Am Go.Proofs Go.Proofs.YtdogeclnbdldaaaDoor
theorem lossTotals {H : Type} (A : AH) (avs : List Value) (ds : List (DataW H)) (hb : Rows.uptoBulkAll ds <= 1048576) (ha : AArgs Tryd.prog A.get 2 [23, 23] avs ds) : ∃ A', ACalls Tryd.prog 3 avs A (.bool true) A' := by
 obtain ⟨v0, vs0, d0, ds0, rfl, rfl, a0, ha⟩ := AArgs.cons_inv ha
 obtain ⟨v1, vs1, d1, ds1, rfl, rfl, a1, ha⟩ := AArgs.cons_inv ha
 obtain ⟨rfl, rfl⟩ := AArgs.nil_inv ha
 simp only [Rows.uptoBulkAll] at hb
 obtain ⟨x0, r0, i0⟩ := ((Arg.sl (t := 23) (e := 25) (by kernel_rfl) (Arg.str (t := 25) (by kernel_rfl))) : Arg H Tryd.prog A.get 2 23 _ 1048576 _) [v0] d0 (AVal.one (by kernel_rfl) a0) (by omega)
 obtain ⟨x1, r1, i1⟩ := ((Arg.sl (t := 23) (e := 25) (by kernel_rfl) (Arg.str (t := 25) (by kernel_rfl))) : Arg H Tryd.prog A.get 2 23 _ 1048576 _) [v1] d1 (AVal.one (by kernel_rfl) a1) (by omega)
 obtain ⟨K, hK⟩ := zbm i0 i1
 exact CR.done (z9c K v0 x0 r0 v1 x1 r1 (Ow.empty A) true hK)
end Go.Am.Tryd
