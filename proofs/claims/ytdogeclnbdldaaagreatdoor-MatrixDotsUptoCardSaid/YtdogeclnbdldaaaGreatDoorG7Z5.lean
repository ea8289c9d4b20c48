/- Plain law: quotient and remainder, greatest common divisor of the program's numbers. -/
import Derived.Test.YtdogeclnbdldaaaGreatDoorG6Z5
import Derived.Test.YtdogeclnbdldaaaGreatDoorG2Z5
import Derived.Test.YtdogeclnbdldaaaGreatDoorRows
set_option maxRecDepth 100000
set_option maxHeartbeats 4000000
set_option linter.unusedVariables false
set_option linter.unusedSimpArgs false
namespace Go.Am.Tryz
open Go Go.Am Go.Proofs
variable {K : Nat}
theorem zia (u : List Int) (i j : Nat) : (u.drop i).getD j 0 = u.getD (i + j) 0 := by
  rw [zAb, List.getElem?_drop, zAb]
section
variable {p X Y V M HI LO U g q b c rr M1 M2 U1 U2 P v1 v2 vl t1 t2 t3 ul top : Int}
theorem kd1 : vl + P * v2 + P * 1000000000 * v1 = P * (1000000000 * v1 + v2) + vl := by grind
theorem kd2 : ul + P * t3 + P * 1000000000 * t2 + P * 1000000000 * 1000000000 * t1 = P * (1000000000 * (t1 * 1000000000 + t2) + t3) + ul := by grind
theorem kd3 (hu : U < p * 1000000000 * V) (hm : U = LO + p * (M + Y * 1000000000 * HI)) (h0 : 0 <= LO) (p0 : 0 < p) (Y0 : 0 < Y) (hV : V < Y) (hM : 0 <= M) (hH : 0 <= HI) : HI = 0 := by
  refine Int.le_antisymm (Int.not_lt.1 fun hlt => ?_) hH
  have a1 := z3l (Int.le_of_lt Y0) (show 1 <= HI by omega)
  have a2 := z3l (Int.le_of_lt p0) (show V + 1 <= Y by omega)
  have a3 := z3l (Int.le_of_lt p0) (show Y * 1000000000 <= M + Y * 1000000000 * HI by grind)
  grind
theorem kd4 (hu : U < p * 1000000000 * V) (hm : U = LO + p * (M + X * 0)) (h0 : 0 <= LO) (p0 : 0 < p) : M < 1000000000 * V := by
  refine Int.not_le.1 fun hle => ?_
  have a1 := z3l (Int.le_of_lt p0) hle
  grind
theorem kd5 (h : rr + V * q = M) (h0 : 0 <= rr) : q * V <= M := by grind
theorem kd5' (h : rr + V * q = M) (h0 : rr < V) : M < (q + 1) * V := by grind
theorem kd6 (hM : M = P * (1000000000 * top + t3) + ul) (hV : V = P * (1000000000 * v1 + v2) + vl) (h : M < 1000000000 * V) (P0 : 0 < P) (b2 : v2 < 1000000000) (b3 : 0 <= t3) (u0 : 0 <= ul) (vb : vl < P) : top < 1000000000 * v1 + 1000000000 := by
  refine Int.not_le.1 fun hle => ?_
  have a1 := z3l (Int.le_of_lt P0) (z3l (show (0:Int) <= 1000000000 by omega) hle)
  have a2 := z3l (Int.le_of_lt P0) (show v2 <= 999999999 by omega)
  have a3 := z8s (Int.le_of_lt P0) b3
  subst hM hV
  grind
theorem kd7 (p0 : 0 < p) (h1 : U1 = LO + p * (M1 + X * 0)) (h2 : U1 = U - p * (g * V) + p * X * b) (h3 : U = LO + p * (M + X * 0)) : M1 = M - g * V + X * b := by
  have : p * M1 = p * (M - g * V + X * b) := by grind
  exact Int.eq_of_mul_eq_mul_left (by omega) this
theorem kd8 (h : rr + V * q = M) (h1 : rr < V) (hV : 0 < V) (hm : M1 = M - g * V + X * 0) (h0 : 0 <= M1) (hq : q <= g) : g = q := by
  refine Int.le_antisymm (Int.not_lt.1 fun hlt => ?_) hq
  have a1 := z3l (Int.le_of_lt hV) (show q + 1 <= g by omega)
  grind
theorem kd9 (h : rr + V * q = M) (h0 : 0 <= rr) (hm : M1 = M - g * V + X * 1) (h1 : M1 < X) (hq : q <= g) (hq1 : g <= q + 1) : g = q + 1 := by
  refine Int.le_antisymm hq1 (Int.not_lt.1 fun hlt => ?_)
  have : g = q := by omega
  subst this
  grind
theorem kd10 (p0 : 0 < p) (h1 : U2 = LO + p * (M2 + X * 0)) (h2 : U2 + p * X * c = U1 + p * V) (h3 : U1 = LO + p * (M1 + X * 0)) (h4 : M1 = M - (q + 1) * V + X * 1) : M2 = M - q * V + X * (1 - c) := by
  have : p * M2 = p * (M - q * V + X * (1 - c)) := by grind
  exact Int.eq_of_mul_eq_mul_left (by omega) this
theorem kd11 (h : rr + V * q = M) (h0 : 0 <= rr) (hm : M2 = M - q * V + X * (1 - c)) (h1 : M2 < X) (hc : c = 0 \/ c = 1) : c = 1 := by
  rcases hc with rfl | rfl
  . grind
  . rfl
theorem kd12 (h1 : U1 = LO + p * (M1 + X * 0)) (hm : M1 = M - q * V) (h3 : U = LO + p * (M + X * 0)) : U1 + p * (q * V) = U := by grind
theorem kd13 (p0 : 0 < p) (h1 : U1 = LO + p * (M1 + X * 0)) (hm : M1 = M - q * V) (h : rr + V * q = M) (hr : rr < V) (hl : LO < p) : U1 < p * V := by
  have a1 := z3l (Int.le_of_lt p0) (show M1 + 1 <= V by grind)
  grind
end
theorem zib {u v : List Int} {i : Nat} (hn : 2 <= v.length) (hk : i + v.length + 1 <= u.length) (hl : u.length <= 8000000) (hK : 2000000000 < K) (du : DigB 1000000000 u) (cv : CanB 1000000000 v) (hu : valB 1000000000 u < 1000000000 ^ (i + 1) * valB 1000000000 v) :
    ∃ g b u1 u2 q, z22 K v u i K ((u.getD (i + v.length) 0 * 1000000000 + u.getD (i + v.length - 1) 0) / v.getD (v.length - 1) 0) ((u.getD (i + v.length) 0 * 1000000000 + u.getD (i + v.length - 1) 0) % v.getD (v.length - 1) 0) = some g /\ 0 <= g /\ g < 1000000000 ∧
      z3n K u v i g = some (b, u1) /\ (b = true -> z4g K u1 v i = some u2 /\ q = g - 1) /\ (b = false -> u2 = u1 /\ q = g) /\ 0 <= q /\ q < 1000000000 /\ u2.length = u.length /\ DigB 1000000000 u2 ∧
      valB 1000000000 u2 + 1000000000 ^ i * (q * valB 1000000000 v) = valB 1000000000 u /\ valB 1000000000 u2 < 1000000000 ^ i * valB 1000000000 v /\ 1 <= v.getD (v.length - 1) 0 /\ v.getD (v.length - 1) 0 < 1000000000 := by
  obtain ⟨n, hnv⟩ : ∃ n, v.length = n + 2 := ⟨v.length - 2, by omega⟩
  have dv := cv.1
  have ev1 := z1w (by omega) dv (n + 1)
  have ev2 := z1w (by omega) dv n
  have et1 := z1w (by omega) du (i + n + 2)
  have et2 := z1w (by omega) du (i + n + 1)
  have et3 := z1w (by omega) du (i + n)
  -- the divisor's leading digits
  have hv1 : 1 <= v.getD (n + 1) 0 := by
    have : v.getD (n + 1) 0 ≠ 0 := fun e => cv.2 (by
      rw [List.getLast?_eq_getElem?, hnv]
      have hi : n + 2 - 1 < v.length := by omega
      rw [zAb, zAh (by omega)] at e
      rw [zAh hi]
      simp at e ⊢
      exact e)
    omega
  have hV : valB 1000000000 v = 1000000000 ^ n * (1000000000 * v.getD (n + 1) 0 + v.getD n 0) + valB 1000000000 (v.take n) := by
    have h1 := z3f 1000000000 v n
    have h2 := z3f 1000000000 v (n + 1)
    rw [List.take_of_length_le (by omega)] at h2
    rw [h2, h1, Int.pow_succ, kd1]
  have hVn : valB 1000000000 v < 1000000000 ^ (n + 2) := by rw [<- hnv]; exact z4z (by omega) v dv
  -- the middle of what is divided
  have hmid := zi9 u i (n + 3) (by omega)
  have hM : valB 1000000000 ((u.drop i).take (n + 3)) = 1000000000 ^ n * (1000000000 * (u.getD (i + n + 2) 0 * 1000000000 + u.getD (i + n + 1) 0) + u.getD (i + n) 0) + valB 1000000000 ((u.drop i).take n) := by
    have h1 := z3f 1000000000 (u.drop i) n
    have h2 := z3f 1000000000 (u.drop i) (n + 1)
    have h3 := z3f 1000000000 (u.drop i) (n + 2)
    rw [zia] at h1 h2 h3
    rw [h3, h2, h1, Int.pow_succ 1000000000 (n + 1), Int.pow_succ 1000000000 n, <- Nat.add_assoc, <- Nat.add_assoc, kd2]
  have dlo := du.take i
  have lo0 := z10 (B := 1000000000) (by omega) _ dlo
  have lo1 := z4z (B := 1000000000) (by omega) _ dlo
  rw [List.length_take, Nat.min_eq_left (by omega)] at lo1
  have dmi := (du.drop i).take (n + 3)
  have mi0 := z10 (B := 1000000000) (by omega) _ dmi
  have dhi := du.drop (i + (n + 3))
  have hi0 := z10 (B := 1000000000) (by omega) _ dhi
  have p0 : 0 < (1000000000 : Int) ^ i := Int.pow_pos (by omega)
  have pn0 : 0 < (1000000000 : Int) ^ n := Int.pow_pos (by omega)
  have pn3 : 0 < (1000000000 : Int) ^ (n + 3) := Int.pow_pos (by omega)
  have ep1 : (1000000000 : Int) ^ (i + 1) = 1000000000 ^ i * 1000000000 := Int.pow_succ _ _
  have ep3 : (1000000000 : Int) ^ (n + 3) = 1000000000 ^ (n + 2) * 1000000000 := Int.pow_succ _ _
  have dul := (du.drop i).take n
  have ul0 := z10 (B := 1000000000) (by omega) _ dul
  have ul1 := z4z (B := 1000000000) (by omega) _ dul
  rw [List.length_take, List.length_drop, Nat.min_eq_left (by omega)] at ul1
  have dvl := dv.take n
  have vl0 := z10 (B := 1000000000) (by omega) _ dvl
  have vl1 := z4z (B := 1000000000) (by omega) _ dvl
  rw [List.length_take, Nat.min_eq_left (by omega)] at vl1
  have hmin := fun (g : Int) (hg : 0 <= g /\ g < 1000000000) => zlj (K := K) (u := u) (v := v) (k := i) (q := g) hk hl hK hg du dv
  have hplu := fun (u1 : List Int) (h1 : u1.length = u.length) (d1 : DigB 1000000000 u1) => zmo (K := K) (u := u1) (v := v) (k := i) (by omega) (by omega) hK d1 dv
  rw [show i + v.length = i + n + 2 by omega, show i + n + 2 - 1 = i + n + 1 by omega, show v.length - 1 = n + 1 by omega]
  generalize hVV : valB 1000000000 v = V at *
  generalize hMM : valB 1000000000 ((u.drop i).take (n + 3)) = M at *
  generalize hLL : valB 1000000000 (u.take i) = LO at *
  generalize hHH : valB 1000000000 (u.drop (i + (n + 3))) = HI at *
  have hV0 : 0 < V := by
    have := z3l (Int.le_of_lt pn0) (show 1 <= 1000000000 * v.getD (n + 1) 0 + v.getD n 0 by omega)
    omega
  have hHI : HI = 0 := by
    rw [ep3] at hmid
    rw [ep1] at hu
    exact kd3 hu hmid lo0 p0 (Int.pow_pos (by omega)) hVn mi0 hi0
  rw [hHI] at hmid
  have hMV : M < 1000000000 * V := by
    rw [ep1] at hu
    exact kd4 hu hmid lo0 p0
  -- the true digit
  have q0 : 0 <= M / V := Int.ediv_nonneg mi0 (by omega)
  have qB : M / V < 1000000000 := Int.ediv_lt_of_lt_mul hV0 hMV
  have hdm := Int.emod_add_mul_ediv M V
  have r0 := Int.emod_nonneg M (show V ≠ 0 by omega)
  have r1 := Int.emod_lt_of_pos M hV0
  generalize hq : M / V = q at *
  generalize M % V = rr at *
  have hkn : Kn 1000000000 (1000000000 ^ n) (v.getD (n + 1) 0) (v.getD n 0) (valB 1000000000 (v.take n)) (u.getD (i + n + 2) 0 * 1000000000 + u.getD (i + n + 1) 0) (u.getD (i + n) 0) (valB 1000000000 ((u.drop i).take n)) q := by
    refine ⟨by omega, pn0, hv1, ev2.1, ev2.2, vl0, vl1, by omega, et3.1, et3.2, ul0, ul1, q0, qB, ?_, ?_⟩
    . rw [<- hM, <- hV]; exact kd5 hdm r0
    . rw [<- hM, <- hV]; exact kd5' hdm r1
  have ht : u.getD (i + n + 2) 0 * 1000000000 + u.getD (i + n + 1) 0 < 1000000000 * v.getD (n + 1) 0 + 1000000000 := kd6 hM hV hMV pn0 ev2.2 et3.1 ul0 vl1
  generalize htop : u.getD (i + n + 2) 0 * 1000000000 + u.getD (i + n + 1) 0 = top at *
  have htd := Int.emod_add_mul_ediv top (v.getD (n + 1) 0)
  have hfirst := hkn.first
  have g2 : top / v.getD (n + 1) 0 < 2000000000 := Int.ediv_lt_of_lt_mul (by omega) (by omega)
  have rt0 := Int.emod_nonneg top (show v.getD (n + 1) 0 ≠ 0 by omega)
  have rt1 := Int.emod_lt_of_pos top (show 0 < v.getD (n + 1) 0 by omega)
  obtain ⟨g, w1, w2, w3, w4⟩ := zlk (K := K) (u := u) (v := v) (k := i) (P := 1000000000 ^ n) (vl := valB 1000000000 (v.take n)) (top := top) (ul := valB 1000000000 ((u.drop i).take n)) (q := q) (g := top / v.getD (n + 1) 0) (r := top % v.getD (n + 1) 0) hn hk hl hK
    (by rw [hnv, show n + 2 - 1 = n + 1 by omega, show n + 2 - 2 = n by omega, show i + (n + 2) - 2 = i + n by omega]; exact hkn) (by rw [hnv, show n + 2 - 1 = n + 1 by omega]; omega) (by rw [hnv, show n + 2 - 1 = n + 1 by omega]; omega) (by rw [hnv, show n + 2 - 1 = n + 1 by omega, Int.mul_comm]; omega) hfirst g2 (by omega)
  obtain ⟨b, u1, m1, m2, m3, m4, m5, m6, m7⟩ := hmin g (by omega)
  have hmid1 := zi9 u1 i (n + 3) (by omega)
  have dm1 := (m4.drop i).take (n + 3)
  have m10 := z10 (B := 1000000000) (by omega) _ dm1
  have m11 := z4z (B := 1000000000) (by omega) _ dm1
  rw [List.length_take, List.length_drop, Nat.min_eq_left (by omega)] at m11
  rw [show i + (n + 3) = i + (v.length + 1) by omega, m6, show i + (v.length + 1) = i + (n + 3) by omega, hHH, hHI, m5, hLL] at hmid1
  rw [show i + (v.length + 1) = i + (n + 3) by omega, Int.pow_add] at m7
  generalize hM1 : valB 1000000000 ((u1.drop i).take (n + 3)) = M1 at *
  have hM1e : M1 = M - g * V + 1000000000 ^ (n + 3) * b := kd7 p0 hmid1 m7 hmid
  rcases m2 with rfl | rfl
  . -- no borrow: the guess was right
    have hgq : g = q := kd8 hdm r1 hV0 hM1e m10 w2
    subst hgq
    have hM1f : M1 = M - g * V := by rw [hM1e]; omega
    exact ⟨g, false, u1, u1, g, w1, q0, w4, by simpa using m1, by simp, by simp, q0, qB, m3, m4, kd12 hmid1 hM1f hmid, kd13 p0 hmid1 hM1f hdm r1 lo1, hv1, ev1.2⟩
  . have hgq : g = q + 1 := kd9 hdm r0 hM1e m11 w2 w3
    subst hgq
    obtain ⟨u2, c, s1, s2, s3, s4, s5, s6, s7⟩ := hplu u1 m3 m4
    have hmid2 := zi9 u2 i (n + 3) (by omega)
    have dm2 := (s4.drop i).take (n + 3)
    have m20 := z10 (B := 1000000000) (by omega) _ dm2
    have m21 := z4z (B := 1000000000) (by omega) _ dm2
    rw [List.length_take, List.length_drop, Nat.min_eq_left (by omega)] at m21
    rw [show i + (n + 3) = i + (v.length + 1) by omega, s6, m6, show i + (v.length + 1) = i + (n + 3) by omega, hHH, hHI, s5, m5, hLL] at hmid2
    rw [show i + (v.length + 1) = i + (n + 3) by omega, Int.pow_add] at s7
    generalize hM2 : valB 1000000000 ((u2.drop i).take (n + 3)) = M2 at *
    have hM2e : M2 = M - q * V + 1000000000 ^ (n + 3) * (1 - c) := kd10 p0 hmid2 s7 hmid1 hM1e
    have hc : c = 1 := kd11 hdm r0 hM2e m21 s2
    subst hc
    have hM2f : M2 = M - q * V := by rw [hM2e]; omega
    exact ⟨q + 1, true, u1, u2, q, w1, by omega, w4, by simpa using m1, fun _ => ⟨s1, by omega⟩, by simp, q0, qB, by omega, s4, kd12 hmid2 hM2f hmid, kd13 p0 hmid2 hM2f hdm r1 lo1, hv1, ev1.2⟩
end Go.Am.Tryz
/- Plain law: Div and Gcd of the program's numbers. -/
namespace Go.Am.Tryz
open Go Go.Am Go.Proofs
variable {K : Nat}
theorem kf1 {Y p Z V U U2 O q : Int} (h : U + O * V = Z) (h2 : U2 + p * (q * V) = U) : U2 + (O + p * (q - 0)) * V = Z := by grind
theorem zg7 {o w v u1 u2 : List Int} {i m : Nat} {g q a1 a2 v1 : Int} {b : Bool} (hn : 2 <= v.length) (hk : i + v.length + 1 <= w.length) (hl : w.length <= 8000000) (ho : i < o.length) (h1 : w.getD (i + v.length) 0 = a1) (h2 : w.getD (i + v.length - 1) 0 = a2) (h3 : v.getD (v.length - 1) 0 = v1)
    (b1 : 0 <= a1 /\ a1 < 1000000000) (b2 : 0 <= a2 /\ a2 < 1000000000) (b3 : 1 <= v1 /\ v1 < 1000000000) (hg : 0 <= g /\ g < 1000000000) (hq : 0 <= q /\ q < 1000000000) (d1 : z22 K v w i K ((a1 * 1000000000 + a2) / v1) ((a1 * 1000000000 + a2) % v1) = some g) (d4 : z3n K w v i g = some (b, u1)) (d5 : b = true -> z4g K u1 v i = some u2 /\ q = g - 1) (d6 : b = false -> u2 = u1 /\ q = g) :
    z1p K v (m + 1) o w i = z1p K v m (o.set i q) u2 ((i : Int) - 1) := by
  have t1 : ((i : Int) + (v.length : Int)).toNat = i + v.length := by omega
  have t2 : ((i : Int) + (v.length : Int) - 1).toNat = i + v.length - 1 := by omega
  have t3 : ((v.length : Int) - 1).toNat = v.length - 1 := by omega
  have hq1 : 0 <= (a1 * 1000000000 + a2) / v1 := Int.ediv_nonneg (by omega) (by omega)
  have hq2 : (a1 * 1000000000 + a2) / v1 <= a1 * 1000000000 + a2 := Int.ediv_le_self _ (by omega)
  rw [z1p]
  cases b with
  | true =>
    obtain ⟨p1, p2⟩ := d5 rfl
    subst p2
    clear d5 d6
    simp (discharger := omega) only [runL, t1, t2, t3, h1, h2, h3, d1, d4, p1]
  | false =>
    obtain ⟨p1, p2⟩ := d6 rfl
    subst p1 p2
    clear d5 d6
    simp (discharger := omega) only [runL, t1, t2, t3, h1, h2, h3, d1, d4, Bool.false_eq_true]
theorem zll {u v : List Int} {J : Nat} (hn : 2 <= v.length) (hJ : J + v.length = u.length) (hJ1 : 1 <= J) (hl : u.length <= 8000000) (hK : 2000000000 < K) (du : DigB 1000000000 u) (cv : CanB 1000000000 v) (hu : valB 1000000000 u < 1000000000 ^ J * valB 1000000000 v) :
    ∃ r : List Int × List Int, z1p K v K (List.replicate J 0) u ((J : Int) - 1) = some r /\ r.1.length = J /\ r.2.length = u.length /\ DigB 1000000000 r.1 /\ DigB 1000000000 r.2 /\ valB 1000000000 r.2 + valB 1000000000 r.1 * valB 1000000000 v = valB 1000000000 u /\ valB 1000000000 r.2 < valB 1000000000 v := by
  refine zai (fun m (s : List Int × List Int × Int) => z1p K v m s.1 s.2.1 s.2.2) (fun s => ∃ j : Nat, s.2.2 = (j : Int) - 1 /\ j <= J /\ s.1.length = J /\ s.2.1.length = u.length /\ DigB 1000000000 s.1 /\ DigB 1000000000 s.2.1 /\ (∀ i < j, s.1.getD i 0 = 0) /\ valB 1000000000 s.2.1 + valB 1000000000 s.1 * valB 1000000000 v = valB 1000000000 u /\ valB 1000000000 s.2.1 < 1000000000 ^ j * valB 1000000000 v) (fun s => (s.2.2 + 1).toNat) _ ?_ ((List.replicate J 0, u, (J : Int) - 1) : List Int × List Int × Int) (by dsimp only; omega) ⟨J, rfl, Nat.le_refl _, by simp, rfl, .zeros (by omega) _, du, fun i hi => by simp [zAb, hi], by simp [z9s], hu⟩
  rintro m ⟨o, w, _⟩ ⟨j, rfl, hj, h1, h2, h3, h4, h5, h6, h7⟩
  dsimp only at h1 h2 h3 h4 h5 h6 h7 ⊢
  by_cases h0 : j = 0
  . subst h0
    left
    rw [Int.pow_zero, Int.one_mul] at h7
    exact ⟨(o, w), by rw [z1p]; simp (discharger := omega) only [runL], h1, h2, h3, h4, h6, h7⟩
  . right
    obtain ⟨i, rfl⟩ : ∃ i, j = i + 1 := ⟨j - 1, by omega⟩
    have e1 : ((i + 1 : Nat) : Int) - 1 = i := by omega
    rw [e1]
    obtain ⟨g, b, u1, u2, q, d1, d2, d3, d4, d5, d6, d7, d8, d9, d10, d11, d12, d13, d14⟩ := zib (K := K) (u := w) (v := v) (i := i) hn (by omega) (by omega) hK h4 cv h7
    have hz := h5 i (by omega)
    have hset := z72 1000000000 o i q (by omega)
    rw [hz] at hset
    have et1 := z1w (by omega) h4 (i + v.length)
    have et2 := z1w (by omega) h4 (i + v.length - 1)
    have hrun := zg7 (m := m) (o := o) (a1 := w.getD (i + v.length) 0) (a2 := w.getD (i + v.length - 1) 0) (v1 := v.getD (v.length - 1) 0) hn (show i + v.length + 1 <= w.length by omega) (by omega) (by omega) rfl rfl rfl et1 et2 ⟨d13, d14⟩ ⟨d2, d3⟩ ⟨d7, d8⟩ d1 d4 d5 d6
    refine ⟨(o.set i q, u2, (i : Int) - 1), hrun, by dsimp only; omega, i, rfl, by omega, by simp [h1], by dsimp only; omega, h3.set _ ⟨d7, d8⟩, d10, fun k hk => by dsimp only; rw [z7q (by omega), if_neg (by omega)]; exact h5 k (by omega), ?_, d12⟩
    dsimp only
    rw [hset]
    exact kf1 (Y := 0) h6 d11
theorem z99 {m n : Int} {x y : List Int} (hx : NumN m x) (hy : NumN n y) (h : m <= n) : x.length <= y.length := ze2 (B := 1000000000) (by omega) hx.1 hy.1.1 (by rw [hx.2, hy.2]; exact h)
theorem kf2 {a b c : Int} (hc : 0 < c) (hb : 0 < b) : (a * c) / (b * c) = a / b /\ (a * c) % (b * c) = (a % b) * c := by
  refine ⟨Int.mul_ediv_mul_of_pos_left a b hc, ?_⟩
  rw [Int.mul_comm a c, Int.mul_comm b c, Int.mul_emod_mul_of_pos a b hc, Int.mul_comm]
theorem zfl {x y : List Int} {a b : Int} (hx : x.length <= 3000000) (hy : y.length <= 3000000) (hK : 2000000000 < K) (nx : NumN a x) (ny : NumN b y) (hb : 0 < b) :
    ∃ q r, z4m K x y = some (q, r) /\ NumN (a / b) q /\ NumN (a % b) r /\ q.length <= x.length /\ r.length <= y.length := by
  have a0 := nx.nonneg
  suffices h : ∃ q r, z4m K x y = some (q, r) /\ NumN (a / b) q /\ NumN (a % b) r by
    obtain ⟨q, r, h1, h2, h3⟩ := h
    have e1 := Int.emod_lt_of_pos a hb
    exact ⟨q, r, h1, h2, h3, z99 h2 nx (Int.ediv_le_self _ a0), z99 h3 ny (by omega)⟩
  have hcmp := zfh (K := K) (by omega) (by omega) hK nx ny
  unfold z4m
  rw [hcmp, z0m]
  by_cases hab : a < b
  . refine ⟨[], x, ?_, by rw [Int.ediv_eq_zero_of_lt a0 hab]; exact .nil, by rw [Int.emod_eq_of_lt a0 hab]; exact nx⟩
    simp (discharger := omega) only [runL]
  . have hcond : decide ((if a < b then (-1 : Int) else if a = b then 0 else 1) < 0) = false := by
      rw [if_neg hab]; split <;> rfl
    rw [hcond]
    simp only [Bool.false_eq_true, if_false]
    have hy0 : y.length ≠ 0 := fun e => by have := ny.len0.1 e; omega
    by_cases h1 : y.length = 1
    . obtain ⟨d, rfl⟩ := List.length_eq_one_iff.1 h1
      have hd := ny.1.1 d (by simp)
      have hbd : b = d := by rw [<- ny.2]; simp [valB]
      subst hbd
      obtain ⟨q, r, s1, s2, s3, s4, s5⟩ := zfi (K := K) (x := x) (a := a) (d := b) (by omega) hK nx (by omega)
      refine ⟨q, r, ?_, s2, s3⟩
      have e0 : idx [b] 0 = some b := rfl
      rw [if_pos (by simp), e0, z0m, s1, z0m]
    . rw [if_neg (by simp; omega)]
      obtain ⟨yr, d, hyd⟩ := z9t y (by rintro rfl; exact hy0 rfl)
      have hd := ny.1.1 d (by rw [hyd]; simp)
      have hidx : idx y (z02 .i64 ((y.length : Int) - 1)) = some d := by
        rw [k64 (by omega) (by omega), idxI (by omega) (by omega)]
        congr 1
        subst hyd
        rw [show ((((yr ++ [d]).length : Nat) : Int) - 1).toNat = yr.length by simp, zAb]
        simp
      have hby1 : 1 <= 1000000000 / (d + 1) := by
        rw [Int.le_ediv_iff_mul_le (by omega)]; omega
      have hby2 : 1000000000 / (d + 1) <= 1000000000 := Int.ediv_le_self _ (by omega)
      have hd1 : d ≠ 0 := fun e => ny.1.2 (by rw [hyd, e]; simp)
      have hby3 : 1000000000 / (d + 1) < 1000000000 := Int.ediv_lt_of_lt_mul (by omega) (by omega)
      rw [hidx, z0m, u64w (a := d) (by omega) (by omega), ku64 (a := d + 1) (by omega) (by omega), if_pos (by omega), zo6 (by omega), ku64 (by omega) (by omega), lta]
      rw [u32w (by omega) (by omega)]
      generalize 1000000000 / (d + 1) = c at hby1 hby2 hby3
      have nc : NumN c [c] := .one (by omega) hby3
      obtain ⟨u0, m1, m2, m3⟩ := zbj (K := K) (x := x) (y := [c]) (by simp; omega) hK nx nc
      obtain ⟨v, w1, w2, w3⟩ := zbj (K := K) (x := y) (y := [c]) (by simp; omega) hK ny nc
      simp only [List.length_singleton] at m3 w3
      have ac : a <= a * c := by have := z3l a0 hby1; omega
      have bc : b <= b * c := by have := z3l (show 0 <= b by omega) hby1; omega
      have abc : b * c <= a * c := Int.mul_le_mul_of_nonneg_right (by omega) (by omega)
      have lx := z99 nx m2 ac
      have ly := z99 ny w2 bc
      have hy2 : 2 <= y.length := by omega
      have hv2 : 2 <= v.length := by omega
      have lv := z99 w2 m2 abc
      have hl0 : z3t K x K (u0 ++ [0]) = some (u0 ++ [0]) := by
        obtain ⟨k, rfl⟩ : ∃ k, K = k + 1 := ⟨K - 1, by omega⟩
        rw [z3t]
        have e : decide (((u0 ++ [0]).length : Int) <= (x.length : Int)) = false := decide_eq_false (by simp; omega)
        rw [e]; rfl
      have du : DigB 1000000000 (u0 ++ [0]) := m2.1.1.snoc (by omega)
      have hvu : valB 1000000000 (u0 ++ [0]) = a * c := by rw [z8l, m2.2]; omega
      have hlen : (u0 ++ [(0 : Int)]).length = u0.length + 1 := by simp
      obtain ⟨J, hJ⟩ : ∃ J, J + v.length = u0.length + 1 := ⟨u0.length + 1 - v.length, by omega⟩
      have hbound : a * c < 1000000000 ^ J * (b * c) := by
        have b1 := z4z (B := 1000000000) (by omega) u0 m2.1.1
        have b2 := zhz (B := 1000000000) (by omega) w2.1 (by intro e; rw [e] at hv2; simp at hv2)
        rw [m2.2] at b1
        rw [w2.2] at b2
        have pJ : (0 : Int) < 1000000000 ^ J := Int.pow_pos (by omega)
        have b3 := z3l (Int.le_of_lt pJ) b2
        rw [<- Int.pow_add, show J + (v.length - 1) = u0.length by omega] at b3
        omega
      obtain ⟨⟨o, w⟩, l1, l2, l3, l4, l5, l6, l7⟩ := zll (K := K) (u := u0 ++ [0]) (v := v) (J := J) (by omega) (by omega) (by omega) (by omega) hK du w2.1 (by rw [hvu, w2.2]; exact hbound)
      dsimp only at l2 l3 l4 l5 l6 l7
      rw [hvu, w2.2] at l6
      rw [w2.2] at l7
      have o0 := z10 (B := 1000000000) (by omega) o l4
      have w0 := z10 (B := 1000000000) (by omega) w l5
      have hbc0 : 0 < b * c := Int.mul_pos hb (by omega)
      obtain ⟨q1, q2⟩ := zbk (n := a * c) (d := b * c) (q := valB 1000000000 o) (r := valB 1000000000 w) hbc0 (by rw [Int.mul_comm (b * c)]; omega) w0 l7
      obtain ⟨k1, k2⟩ := kf2 (a := a) (b := b) (c := c) (by omega) hb
      rw [k1] at q1
      rw [k2] at q2
      obtain ⟨t, t1, t2, t3, t4⟩ := zbi (K := K) (B := 1000000000) (l := w) (by omega) hK l5
      obtain ⟨z, z1, z2, z3, z4⟩ := zbi (K := K) (B := 1000000000) (l := o) (by omega) hK l4
      obtain ⟨rq, rr, s1, s2, s3, s4, s5⟩ := zfi (K := K) (x := t) (a := a % b * c) (d := c) (by omega) hK ⟨t2, by rw [t3]; exact q2⟩ (by omega)
      rw [Int.mul_ediv_cancel _ (by omega)] at s2
      refine ⟨z, rq, ?_, ⟨z2, by rw [z3]; exact q1⟩, s2⟩
      rw [m1, z0m, if_pos (by simp; omega), w1, z0m, hl0, z0m, tu1a, lta, hlen]
      have e1 : (((u0.length + 1 : Nat) : Int) - (v.length : Int)) = (J : Int) := by omega
      rw [e1, k64 (by omega) (by omega), if_pos (by omega), lta, k64 (by omega) (by omega), Int.toNat_natCast, l1, z0m, tu2a, t1, z0m, s1, z0m, z1, z0m]
theorem zic (a b : Nat) (hb : 0 < b) : Nat.gcd b (a % b) = Nat.gcd a b := by
  rw [Nat.gcd_comm a b, Nat.gcd_rec b a, Nat.gcd_comm]
theorem zfm : ∀ (n k : Nat) {x y : List Int} {a b : Nat}, a * b < 2 ^ n -> b <= a -> n + 2 < k -> x.length <= 3000000 -> y.length <= 3000000 -> 2000000000 < K -> NumN a x -> NumN b y -> ∃ z, z12 K k x y = some z /\ NumN (Nat.gcd a b : Nat) z := by
  intro n
  induction n with
  | zero =>
    intro k x y a b hab hba hk hx hy hK nx ny
    have hb : b = 0 := by
      rcases Nat.eq_zero_or_pos b with h | h
      . exact h
      . have := Nat.mul_pos (show 0 < a by omega) h; omega
    subst hb
    obtain ⟨k, rfl⟩ : ∃ m, k = m + 1 := ⟨k - 1, by omega⟩
    have : y = [] := ny.nil_iff.2 rfl
    subst this
    exact ⟨x, by rw [z12]; rfl, by rw [Nat.gcd_zero_right]; exact nx⟩
  | succ n ih =>
    intro k x y a b hab hba hk hx hy hK nx ny
    obtain ⟨k, rfl⟩ : ∃ m, k = m + 1 := ⟨k - 1, by omega⟩
    by_cases hb : b = 0
    . subst hb
      have : y = [] := ny.nil_iff.2 rfl
      subst this
      exact ⟨x, by rw [z12]; rfl, by rw [Nat.gcd_zero_right]; exact nx⟩
    . obtain ⟨q, r, d1, d2, d3, d4, d5⟩ := zfl (K := K) hx hy hK nx ny (by omega)
      have e : ((a : Int) % (b : Int)) = ((a % b : Nat) : Int) := by simp
      rw [e] at d3
      have hr := Nat.mod_lt a (show 0 < b by omega)
      have hprod : b * (a % b) < 2 ^ n := by
        have h1 : b + a % b <= a := by
          have h2 := Nat.div_add_mod a b
          have h3 : 1 <= a / b := (Nat.le_div_iff_mul_le (by omega)).2 (by omega)
          have h4 := Nat.mul_le_mul_left b h3
          omega
        have h5 := Nat.mul_le_mul_left b (show 2 * (a % b) <= a by omega)
        rw [Nat.pow_succ] at hab
        have h6 : b * (2 * (a % b)) = 2 * (b * (a % b)) := by grind
        rw [Nat.mul_comm a b] at hab
        omega
      obtain ⟨z, z1, z2⟩ := ih k hprod (by omega) (by omega) hy (by omega) hK ny d3
      refine ⟨z, ?_, by rw [<- zic a b (by omega)]; exact z2⟩
      have hy0 : y.length ≠ 0 := fun e => by have := ny.len0.1 e; omega
      rw [z12, if_pos (decide_eq_true (by omega)), d1, z0m, z1]
theorem ze7 {n : Nat} {x : List Int} (h : NumN n x) : n < 2 ^ (30 * x.length) := by
  have h1 := z4z (B := 1000000000) (by omega) x h.1.1
  rw [h.2] at h1
  have h2 : ((1000000000 : Nat) : Int) ^ x.length = ((1000000000 ^ x.length : Nat) : Int) := by simp
  have h3 : n < 1000000000 ^ x.length := by
    have h4 : (1000000000 : Int) = ((1000000000 : Nat) : Int) := rfl
    rw [h4, h2] at h1
    omega
  have h5 : (1000000000 : Nat) ^ x.length <= (2 ^ 30) ^ x.length := Nat.pow_le_pow_left (by decide) _
  rw [<- Nat.pow_mul] at h5
  omega
theorem zks {x y : List Int} {a b : Nat} (hx : x.length <= 3000000) (hy : y.length <= 3000000) (hK : 2000000000 < K) (nx : NumN a x) (ny : NumN b y) : ∃ z, z6a K x y = some z /\ NumN (Nat.gcd a b : Nat) z := by
  have hp : a * b < 2 ^ (30 * x.length + 30 * y.length) := by
    rw [Nat.pow_add]
    have h1 := ze7 nx
    have h2 := ze7 ny
    exact Nat.mul_lt_mul_of_lt_of_le h1 (Nat.le_of_lt h2) (Nat.pow_pos (by omega))
  have key : ∃ z, z12 K K x y = some z /\ NumN (Nat.gcd a b : Nat) z := by
    by_cases hba : b <= a
    . exact zfm _ K hp hba (by omega) hx hy hK nx ny
    . obtain ⟨k, hk⟩ : ∃ k, K = k + 1 := ⟨K - 1, by omega⟩
      obtain ⟨q, r, d1, d2, d3, d4, d5⟩ := zfl (K := K) hx hy hK nx ny (by omega)
      rw [Int.emod_eq_of_lt (by omega) (by omega)] at d3
      have hrx : r = x := d3.inj nx
      subst hrx
      obtain ⟨z, z1, z2⟩ := zfm (K := K) _ k (by rw [Nat.mul_comm]; exact hp) (by omega) (by omega) hy hx hK ny nx
      refine ⟨z, ?_, by rw [Nat.gcd_comm]; exact z2⟩
      have hy0 : y.length ≠ 0 := fun e => by have := ny.len0.1 e; omega
      have : z12 K K r y = z12 K (k + 1) r y := by rw [<- hk]
      rw [this, z12, if_pos (decide_eq_true (by omega)), d1, z0m, z1]
  obtain ⟨z, z1, z2⟩ := key
  exact ⟨z, by unfold z6a; rw [z1]; rfl, z2⟩
end Go.Am.Tryz
/- Plain law: the reference's quotient and divisor of texts. -/
namespace Go.Am.Tryz
open Go Go.Am Go.Proofs
variable {K : Nat}
theorem zid {c : Int} (h : 48 <= c /\ c <= 57) : z05 (Utf8.encode c) = [c] /\ (Utf8.encode c).size = 1 := by
  obtain ⟨n, rfl⟩ : ∃ n : Nat, c = n := ⟨c.toNat, by omega⟩
  have hn : n = 48 \/ n = 49 \/ n = 50 \/ n = 51 \/ n = 52 \/ n = 53 \/ n = 54 \/ n = 55 \/ n = 56 \/ n = 57 := by omega
  rcases hn with rfl | rfl | rfl | rfl | rfl | rfl | rfl | rfl | rfl | rfl <;> exact ⟨by decide +kernel, by decide +kernel⟩
theorem ks1 {R b d R0 : Int} (h : R + (d - 48) * b = R0) : R - b + (d + 1 - 48) * b = R0 := by grind
theorem zmp {b : zAd} {r0 : zAd} (hb : b.size <= 500000) (hr : r0.size <= 1000000) (hK : 2000000000 < K) (cb : CanT b) (c0 : CanT r0) (hb0 : 0 < numT b) (hlt : numT r0 < 10 * numT b) :
    ∃ r : zAd × Int, z32 K b K r0 48 = some r /\ CanT r.1 /\ (48 <= r.2 /\ r.2 <= 57) /\ numT r.1 + (r.2 - 48) * numT b = numT r0 /\ numT r.1 < numT b := by
  refine zai (fun k (s : zAd × Int) => z32 K b k s.1 s.2) (fun s => CanT s.1 /\ s.1.size <= 1000000 /\ (48 <= s.2 /\ s.2 <= 57) /\ numT s.1 + (s.2 - 48) * numT b = numT r0) (fun s => (57 - s.2).toNat) _ ?_ ((r0, 48) : zAd × Int) (by dsimp only; omega) ⟨c0, hr, by dsimp only; omega, by dsimp only; omega⟩
  rintro k ⟨r, d⟩ ⟨h1, h2, h3, h4⟩
  dsimp only at h1 h2 h3 h4 ⊢
  have hcmp := zkq (K := K) h1 cb
  have r0' := z3h h1.2.1
  by_cases hge : numT b <= numT r
  . right
    obtain ⟨t, t1, t2, t3⟩ := zi7 (K := K) (a := r) (b := b) h2 (z3z h1 cb hge) (by have := h1.1; omega) (by omega) h1.2.1 cb.2.1 hge
    have hd : d <= 56 := by
      refine Int.not_lt.1 fun hlt2 => ?_
      have : d = 57 := by omega
      subst this
      omega
    refine ⟨(t, d + 1), ?_, by dsimp only; omega, t2, ?_, by dsimp only; omega, by dsimp only; rw [t3]; exact ks1 h4⟩
    . rw [z32, hcmp, z0m]
      rw [if_pos (decide_eq_true (by rw [if_neg (by omega)]; split <;> omega)), t1, z0m, ku8 (by omega) (by omega)]
    . dsimp only
      have := z3z h1 t2 (by rw [t3]; omega)
      omega
  . left
    refine ⟨(r, d), ?_, h1, h3, h4, by dsimp only; omega⟩
    rw [z32, hcmp, z0m]
    have e : decide ((if numT r < numT b then (-1 : Int) else if numT r = numT b then 0 else 1) >= 0) = false := by
      rw [if_pos (by omega)]; rfl
    rw [e]; rfl
theorem ks3 {Q b R R2 A c d : Int} (h : Q * b + R = A) (h2 : R2 + d * b = R * 10 + c) : (Q * 10 + d) * b + R2 = A * 10 + c := by grind
theorem zk7 {a b r0 : zAd} {f : Nat} (ha : a.size <= 500000) (hb : b.size <= 500000) (hK : 2000000000 < K) (da : (z05 a).all digT = true) (cb : CanT b) (hb0 : 0 < numT b) (hf : f <= a.size) (c0 : CanT r0) (hs0 : r0.size <= 500000) (h0 : numT r0 = numB ((z05 a).take f)) (hlt : numT r0 < numT b) :
    ∃ r : zAd × zAd, z33 K a b K ⟨#[48]⟩ r0 f = some r /\ r.1.size <= a.size + 1 /\ 0 < r.1.size /\ (z05 r.1).all digT = true /\ CanT r.2 /\ numT r.1 * numT b + numT r.2 = numT a /\ numT r.2 < numT b := by
  have hn := z01 a
  refine zai (fun k (s : zAd × zAd × Int) => z33 K a b k s.1 s.2.1 s.2.2) (fun s => ∃ i : Nat, s.2.2 = i /\ i <= a.size /\ 0 < s.1.size /\ s.1.size <= i + 1 /\ (z05 s.1).all digT = true /\ CanT s.2.1 /\ numT s.1 * numT b + numT s.2.1 = numB ((z05 a).take i) /\ numT s.2.1 < numT b /\ s.2.1.size <= 500000) (fun s => (a.size - s.2.2 : Int).toNat) _ ?_ ((⟨#[48]⟩, r0, (f : Int)) : zAd × zAd × Int) (by dsimp only; omega) ⟨f, rfl, hf, by show 0 < 1; omega, by show 1 <= f + 1; omega, rfl, c0, by rw [<- h0]; show numT ⟨#[48]⟩ * numT b + numT r0 = numT r0; rw [z67]; omega, hlt, hs0⟩
  rintro k ⟨q, r, _⟩ ⟨i, rfl, h1, h2, h3, h4, h5, h6, h7, h8⟩
  dsimp only at h2 h3 h4 h5 h6 h7 h8 ⊢
  by_cases hi : i < a.size
  . right
    have hc := zfk da (i := i) (by omega)
    have hsn := zfj (l := z05 a) (i := i) (by omega)
    generalize hcc : (z05 a).getD i 0 = c at hc hsn
    obtain ⟨e, he1, he2, he3⟩ : ∃ e, ssl a i ((i : Int) + 1) = some e /\ z05 e = [c] /\ e.size = 1 := by
      refine ⟨_, sslI (by omega) (by omega) (by omega), ?_, ?_⟩
      . rw [z2q, Int.toNat_natCast, show ((i : Int) + 1).toNat - i = 1 by omega, List.drop_eq_getElem_cons (by omega), List.take_succ_cons, List.take_zero]
        rw [zAb, zAh (by omega)] at hcc
        simpa using hcc
      . rw [<- z01, z2q, List.length_take, List.length_drop]; omega
    have hbr : z05 (r ++ e) = z05 r ++ [c] := by rw [z0q, he2]
    have hdr : (z05 (r ++ e)).all digT = true := by rw [hbr, List.all_append, h5.2.1]; simpa using digT_iff.2 hc
    have hsr : (r ++ e).size = r.size + 1 := by rw [<- z01, hbr, List.length_append, z01]; rfl
    obtain ⟨t, t1, t2, t3⟩ := zau (K := K) (s := r ++ e) (by omega) (by omega) (by omega) hdr
    have hnr : numT (r ++ e) = numT r * 10 + (c - 48) := by rw [zd6, hbr, zas]; rfl
    have htl : numT t < 10 * numT b := by rw [t3, hnr]; omega
    have hts : t.size <= 1000000 := by
      have := z3z (b := t) (a := t) t2 t2 (Int.le_refl _)
      refine Nat.not_lt.1 fun hlt2 => ?_
      have g1 := zch t2 (by omega)
      have g2 := zbm hdr
      have g3 : (10 : Int) ^ (r ++ e).size <= 10 ^ (t.size - 1) := z7c (by omega) (by omega)
      omega
    obtain ⟨⟨r2, d⟩, s1, s2, s3, s4, s5⟩ := zmp (K := K) (b := b) (r0 := t) hb hts hK cb t2 hb0 htl
    dsimp only at s2 s3 s4 s5
    obtain ⟨n1, n2⟩ := zid s3
    have hbq : z05 (q ++ Utf8.encode d) = z05 q ++ [d] := by rw [z0q, n1]
    have hsq : (q ++ Utf8.encode d).size = q.size + 1 := by rw [<- z01, hbq, List.length_append, z01]; rfl
    have hr2s : r2.size <= 500000 := by
      have := z3z cb s2 (by omega)
      omega
    refine ⟨(q ++ Utf8.encode d, r2, (i : Int) + 1), ?_, by dsimp only; omega, i + 1, rfl, by omega, by dsimp only; omega, by dsimp only; omega, ?_, s2, ?_, s5, hr2s⟩
    . rw [z33, if_pos (decide_eq_true (by omega)), k64 (by omega) (by omega), he1, z0m, if_pos (by omega), t1, z0m, s1, z0m, tu2a, if_pos (by dsimp only; omega)]
    . dsimp only; rw [hbq, List.all_append, h4]; simpa using digT_iff.2 s3
    . dsimp only
      rw [hsn, zas, zd6 (q ++ Utf8.encode d), hbq, zas]
      refine ks3 h6 ?_
      rw [s4, t3, hnr]
  . left
    have : i = a.size := by omega
    subst this
    rw [List.take_of_length_le (by omega)] at h6
    exact ⟨(q, r), by rw [z33]; simp (discharger := omega) only [runL], h3, h2, h4, h5, h6, h7⟩
theorem zfn {a b : zAd} (ha : a.size <= 400000) (hb : b.size <= 400000) (hK : 2000000000 < K) (ca : CanT a) (cb : CanT b) (hb0 : 0 < numT b) :
    ∃ q r, z6n K a b = some (q, r) /\ CanT q /\ CanT r /\ numT q = numT a / numT b /\ numT r = numT a % numT b := by
  have hn := z01 a
  have hcb := cb.1
  obtain ⟨f, hf1, hf2, hf3⟩ : ∃ f : Nat, imin (a.size : Int) (z02 .i64 ((b.size : Int) - 1)) = f /\ f <= a.size /\ f <= b.size - 1 := by
    rw [k64 (by omega) (by omega)]
    unfold imin
    by_cases h : (b.size : Int) - 1 < a.size
    . exact ⟨b.size - 1, by rw [if_pos h]; omega, by omega, by omega⟩
    . exact ⟨a.size, by rw [if_neg h], by omega, by omega⟩
  have hx : ssl a 0 (f : Int) = some (a.extract 0 f) := by rw [sslI (by omega) (by omega) (by omega)]; rfl
  have hxb : z05 (a.extract 0 f) = (z05 a).take f := by rw [z2q]; simp
  have hxs : (a.extract 0 f).size = f := by rw [<- z01, hxb, List.length_take]; omega
  have hzb : z05 ((⟨#[48]⟩ : zAd) ++ a.extract 0 f) = 48 :: (z05 a).take f := by rw [z0q, hxb]; rfl
  have hzs : ((⟨#[48]⟩ : zAd) ++ a.extract 0 f).size = f + 1 := by rw [<- z01, hzb, List.length_cons, List.length_take]; omega
  have hzd : (z05 ((⟨#[48]⟩ : zAd) ++ a.extract 0 f)).all digT = true := by rw [hzb, List.all_cons, zbl ca.2.1]; rfl
  obtain ⟨t, t1, t2, t3⟩ := zau (K := K) (s := (⟨#[48]⟩ : zAd) ++ a.extract 0 f) (by omega) (by omega) (by omega) hzd
  have hv : numT t = numB ((z05 a).take f) := by rw [t3, zd6, hzb, zat]; simp
  have hlt : numT t < numT b := by
    have d1 := zcg (zbl ca.2.1 f)
    rw [List.length_take, Nat.min_eq_left (by omega)] at d1
    rw [hv]
    by_cases h2 : 2 <= b.size
    . have d2 := zch cb h2
      have d3 : (10 : Int) ^ f <= 10 ^ (b.size - 1) := z7c (by omega) hf3
      omega
    . have : f = 0 := by omega
      subst this
      rw [List.take_zero, z97]; exact hb0
  have hts : t.size <= 500000 := by
    have := z3z cb t2 (by omega)
    omega
  obtain ⟨⟨q, r⟩, s1, s2, s3, s4, s5, s6, s7⟩ := zk7 (K := K) (a := a) (b := b) (r0 := t) (f := f) (by omega) (by omega) hK ca.2.1 cb hb0 hf2 t2 hts hv hlt
  dsimp only at s2 s3 s4 s5 s6 s7
  obtain ⟨u, u1, u2, u3⟩ := zau (K := K) (s := q) (by omega) s3 (by omega) s4
  obtain ⟨e1, e2⟩ := zbk (n := numT a) (d := numT b) (q := numT q) (r := numT r) hb0 (by rw [Int.mul_comm]; omega) (z3h s5.2.1) s7
  refine ⟨u, r, ?_, u2, s5, by rw [u3, e1], e2⟩
  unfold z6n
  rw [hf1, hx, z0m, if_pos (by rw [hxs]; show 1 + f <= _; omega), t1, z0m, s1, z0m, tu2a, u1, z0m]
theorem zfo : ∀ (n k : Nat) {x y : zAd} {a b : Nat}, a * b < 2 ^ n -> b <= a -> n + 2 < k -> x.size <= 400000 -> y.size <= 400000 -> 2000000000 < K -> CanT x -> CanT y -> numT x = a -> numT y = b -> ∃ z, z1j K k x y = some z /\ CanT z /\ numT z = (Nat.gcd a b : Nat) := by
  intro n
  have hend : ∀ (k : Nat) {x y : zAd} {a : Nat}, 0 < k -> CanT x -> CanT y -> numT x = a -> numT y = (0 : Nat) -> ∃ z, z1j K k x y = some z /\ CanT z /\ numT z = (Nat.gcd a 0 : Nat) := by
    intro k x y a hk cx cy nx ny
    obtain ⟨k, rfl⟩ : ∃ m, k = m + 1 := ⟨k - 1, by omega⟩
    have : y = ⟨#[48]⟩ := (zd8 cy).1 (by simpa using ny)
    subst this
    have e : sEq (⟨#[48]⟩ : zAd) ⟨#[48]⟩ = true := sEq_iff.2 rfl
    exact ⟨x, by rw [z1j, e]; rfl, cx, by rw [Nat.gcd_zero_right]; exact nx⟩
  induction n with
  | zero =>
    intro k x y a b hab hba hk hx hy hK cx cy nx ny
    have hb : b = 0 := by
      rcases Nat.eq_zero_or_pos b with h | h
      . exact h
      . have := Nat.mul_pos (show 0 < a by omega) h; omega
    subst hb
    exact hend k (by omega) cx cy nx ny
  | succ n ih =>
    intro k x y a b hab hba hk hx hy hK cx cy nx ny
    by_cases hb : b = 0
    . subst hb; exact hend k (by omega) cx cy nx ny
    . obtain ⟨k, rfl⟩ : ∃ m, k = m + 1 := ⟨k - 1, by omega⟩
      obtain ⟨q, r, d1, d2, d3, d4, d5⟩ := zfn (K := K) hx hy hK cx cy (by omega)
      rw [nx, ny] at d5
      have e : ((a : Int) % (b : Int)) = ((a % b : Nat) : Int) := by simp
      rw [e] at d5
      have hr := Nat.mod_lt a (show 0 < b by omega)
      have hprod : b * (a % b) < 2 ^ n := by
        have h1 : b + a % b <= a := by
          have h2 := Nat.div_add_mod a b
          have h3 : 1 <= a / b := (Nat.le_div_iff_mul_le (by omega)).2 (by omega)
          have h4 := Nat.mul_le_mul_left b h3
          omega
        have h5 := Nat.mul_le_mul_left b (show 2 * (a % b) <= a by omega)
        rw [Nat.pow_succ] at hab
        have h6 : b * (2 * (a % b)) = 2 * (b * (a % b)) := by grind
        rw [Nat.mul_comm a b] at hab
        omega
      have hrs := z3z cy d3 (by rw [ny, d5]; omega)
      obtain ⟨z, z1, z2, z3⟩ := ih k hprod (by omega) (by omega) hy (by omega) hK cy d3 ny d5
      refine ⟨z, ?_, z2, by rw [<- zic a b (by omega)]; exact z3⟩
      have e0 : sEq y ⟨#[48]⟩ = false := by
        cases e : sEq y ⟨#[48]⟩ with
        | false => rfl
        | true => rw [sEq_iff] at e; subst e; rw [z67] at ny; omega
      rw [z1j, e0]
      simp only [Bool.not_false, if_true]
      rw [d1, z0m, z1]
theorem zci {n : Nat} {x : zAd} (h : (z05 x).all digT = true) (hn : numT x = n) : n < 2 ^ (4 * x.size) := by
  have h1 := zbm h
  rw [hn] at h1
  have h2 : ((10 : Nat) : Int) ^ x.size = ((10 ^ x.size : Nat) : Int) := by simp
  have h3 : n < 10 ^ x.size := by
    have h4 : (10 : Int) = ((10 : Nat) : Int) := rfl
    rw [h4, h2] at h1
    omega
  have h5 : (10 : Nat) ^ x.size <= (2 ^ 4) ^ x.size := Nat.pow_le_pow_left (by decide) _
  rw [<- Nat.pow_mul] at h5
  omega
theorem zkt {x y : zAd} {a b : Nat} (hx : x.size <= 400000) (hy : y.size <= 400000) (hK : 2000000000 < K) (cx : CanT x) (cy : CanT y) (nx : numT x = a) (ny : numT y = b) : ∃ z, z7a K x y = some z /\ CanT z /\ numT z = (Nat.gcd a b : Nat) := by
  have hp : a * b < 2 ^ (4 * x.size + 4 * y.size) := by
    rw [Nat.pow_add]
    exact Nat.mul_lt_mul_of_lt_of_le (zci cx.2.1 nx) (Nat.le_of_lt (zci cy.2.1 ny)) (Nat.pow_pos (by omega))
  have key : ∃ z, z1j K K x y = some z /\ CanT z /\ numT z = (Nat.gcd a b : Nat) := by
    by_cases hba : b <= a
    . exact zfo _ K hp hba (by omega) hx hy hK cx cy nx ny
    . obtain ⟨k, hk⟩ : ∃ k, K = k + 1 := ⟨K - 1, by omega⟩
      obtain ⟨q, r, d1, d2, d3, d4, d5⟩ := zfn (K := K) hx hy hK cx cy (by omega)
      rw [Int.emod_eq_of_lt (z3h cx.2.1) (by omega)] at d5
      have hrx : r = x := z96 d3 cx d5
      subst hrx
      obtain ⟨z, z1, z2, z3⟩ := zfo (K := K) _ k (by rw [Nat.mul_comm]; exact hp) (by omega) (by omega) hy hx hK cy cx ny nx
      refine ⟨z, ?_, z2, by rw [Nat.gcd_comm]; exact z3⟩
      have e0 : sEq y ⟨#[48]⟩ = false := by
        cases e : sEq y ⟨#[48]⟩ with
        | false => rfl
        | true => rw [sEq_iff] at e; subst e; rw [z67] at ny; omega
      have : z1j K K r y = z1j K (k + 1) r y := by rw [<- hk]
      rw [this, z1j, e0]
      simp only [Bool.not_false, if_true]
      rw [d1, z0m, z1]
  obtain ⟨z, z1, z2⟩ := key
  exact ⟨z, by unfold z7a; rw [z1]; rfl, z2⟩
end Go.Am.Tryz
/- Plain law: a number's error. -/
namespace Go.Am.Tryz
open Go Go.Am Go.Proofs
variable {K : Nat} {s : zAd}
def digB (c : Int) : Bool := decide (48 <= c) && decide (c <= 57)
theorem zet : ∀ (l : List Int), runS (fun c (_ : Unit) => if digB c then .inr () else .inl (5 : Int)) l () = if l.all digB then .inr () else .inl 5
  | [] => rfl
  | x :: l => by
    simp only [runS, List.all_cons]
    by_cases hp : digB x = true
    . simp only [hp, if_true, Bool.true_and, Sum.elim_inr]; exact zet l
    . simp [hp]
theorem zmq {α : Type} (c : Int) (A B : Option α) : Option.bind (if (decide (c < 48)) = true then some true else some (decide (c > 57))) (tu1 fun x => if x = true then A else B) = if digB c = true then B else A := by
  unfold digB
  by_cases h1 : c < 48 <;> by_cases h2 : c > 57 <;> simp [h1, h2, tu1, show ¬ (48 : Int) <= c ↔ c < 48 by omega] <;> (try split) <;> (try omega) <;> rfl
theorem zg8 (hs : s.size <= 1048576) (hK : s.size < K) : z1d K s K 0 = some (if (z05 s).all digB then .inr () else .inl 5) := by
  have hn := z01 s
  have h : z1d K s K 0 = _ := zff (z05 s) (fun k (_ : Unit) i => z1d K s k i) (fun c (_ : Unit) => if digB c then .inr () else .inl (5 : Int)) (fun _ _ => True)
    (fun k _ i x hx _ => by
      have hi := (zAi hx).1
      show z1d K s (k + 1) i = _
      rw [z1d, zjq hi, if_pos rfl, z5v hx]
      simp only [Option.bind_some, zmq, kw1 hi (by omega)]
      cases digB x <;> simp)
    (fun _ _ _ _ _ _ _ => trivial)
    (fun k _ i hi => by
      show z1d K s (k + 1) i = _
      rw [z1d, zfe hi]; simp) K () (by omega) trivial
  rw [h, zet]
theorem zie (hs : s.size <= 1048576) (hK : s.size < K) : z11 K s K 0 = some (if (z05 s).all digB then .inr () else .inl 5) := by
  have hn := z01 s
  have h : z11 K s K 0 = _ := zff (z05 s) (fun k (_ : Unit) i => z11 K s k i) (fun c (_ : Unit) => if digB c then .inr () else .inl (5 : Int)) (fun _ _ => True)
    (fun k _ i x hx _ => by
      have hi := (zAi hx).1
      show z11 K s (k + 1) i = _
      rw [z11, <- hn, zjq hi, if_pos rfl, z9r, z5v hx]
      simp only [Option.bind_some, zmq, kw1 hi (by omega)]
      cases digB x <;> simp)
    (fun _ _ _ _ _ _ _ => trivial)
    (fun k _ i hi => by
      show z11 K s (k + 1) i = _
      rw [z11, <- hn, zfe hi]; simp) K () (by omega) trivial
  rw [h, zet]
def natE (s : zAd) : Int := if s.size = 0 then 5 else if (z05 s).head? = some 48 /\ s.size > 1 then 5 else if !(z05 s).all digB then 5 else if s.size > 2000 then 2 else 0
theorem zmr : sEq s ⟨#[]⟩ = (s.size == 0) := by
  cases hq : sEq s ⟨#[]⟩ with
  | true => rw [sEq_iff] at hq; subst hq; rfl
  | false =>
    have : s.size ≠ 0 := fun h => by
      have : s = ⟨#[]⟩ := by
        cases s with
        | mk d => congr 1; exact Array.eq_empty_of_size_eq_zero h
      rw [sEq_iff.2 this] at hq; cases hq
    simp [this]
theorem zif (h : s.size ≠ 0) : ∃ c, bidx s 0 = some c /\ (z05 s).head? = some c := by
  have hn := z01 s
  cases hb : z05 s with
  | nil => rw [hb] at hn; simp at hn; omega
  | cons c l => exact ⟨c, by rw [z9r, hb]; rfl, rfl⟩
theorem ze8 (hs : s.size <= 1048576) (hK : s.size < K) : z69 K s = some (natE s) := by
  unfold z69 natE
  rw [zg8 hs hK, zmr]
  by_cases h0 : s.size = 0
  . simp [h0, tu1]
  . obtain ⟨c, h1, h2⟩ := zif h0
    rw [h1, h2]
    have h0' : (s.size == 0) = false := by simpa using h0
    by_cases hc : c = 48 <;> by_cases h3 : s.size > 1 <;> by_cases h4 : s.size > 2000 <;> cases h5 : (z05 s).all digB <;>
      simp [h0, h0', hc, h3, h4, h5, tu1, tu0, zb9, show ((s.size : Int) > 1) ↔ s.size > 1 by omega, show ((s.size : Int) > 2000) ↔ s.size > 2000 by omega] <;> omega
theorem zav (hs : s.size <= 1048576) (hK : s.size < K) : z57 K s = some (natE s) := by
  unfold z57 natE
  rw [zie hs hK]
  by_cases h0 : s.size = 0
  . simp [h0, tu1]
  . obtain ⟨c, h1, h2⟩ := zif h0
    rw [h1, h2]
    have h0' : ((s.size : Int) == 0) = false := by rw [beq_eq_false_iff_ne]; omega
    by_cases hc : c = 48 <;> by_cases h3 : s.size > 1 <;> by_cases h4 : s.size > 2000 <;> cases h5 : (z05 s).all digB <;>
      simp [h0, h0', hc, h3, h4, h5, tu1, tu0, zb9, show ((s.size : Int) > 1) ↔ s.size > 1 by omega, show ((s.size : Int) > 2000) ↔ s.size > 2000 by omega] <;> omega
theorem zms : digB = digT := rfl
theorem zak (s : zAd) : natE s = 0 ↔ CanT s /\ s.size <= 2000 := by
  unfold natE CanT
  rw [zms]
  by_cases h0 : s.size = 0
  . simp [h0]
  . by_cases h1 : (z05 s).head? = some 48 /\ s.size > 1
    . rw [if_neg h0, if_pos h1]
      constructor
      . intro h; cases h
      . rintro ⟨⟨_, _, h⟩, _⟩; have := h h1.1; omega
    . rw [if_neg h0, if_neg h1]
      cases h2 : (z05 s).all digT with
      | false => simp
      | true =>
        simp only [Bool.not_true, Bool.false_eq_true, if_false]
        by_cases h3 : s.size > 2000
        . rw [if_pos h3]; constructor
          . intro h; cases h
          . rintro ⟨_, h⟩; omega
        . rw [if_neg h3]
          exact ⟨fun _ => ⟨⟨h0, trivial, fun e => by
            refine Nat.le_antisymm (Nat.not_lt.1 fun h => h1 ⟨e, h⟩) (by omega)⟩, by omega⟩, fun _ => rfl⟩
theorem zbo (s : zAd) : sEq s s = true := sEq_iff.2 rfl
end Go.Am.Tryz
/- Plain law: lists of texts; one. -/
namespace Go.Am.Tryz
open Go Go.Am Go.Proofs
variable {K : Nat}
theorem znu {s t : zAd} (h : s ≠ t) : sEq s t = false := by
  cases e : sEq s t with
  | false => rfl
  | true => exact absurd (sEq_iff.1 e) h
theorem zfp (hK : 2000000000 < K) : z87 K 1 = some [1] := by
  obtain ⟨k, rfl⟩ : ∃ k, K = k + 2 := ⟨K - 2, by omega⟩
  unfold z87
  have e1 : decide ((1 : Int) > 0) = true := rfl
  have e2 : IntKind.wrap .u32 (Int.tmod 1 1000000000) = 1 := rfl
  have e3 : z02 .i64 (Int.tdiv 1 1000000000) = 0 := rfl
  have e4 : decide ((0 : Int) > 0) = false := rfl
  rw [z6b, e1, if_pos rfl, e2, e3, if_pos (by decide), z6b, e4]
  rfl
end Go.Am.Tryz
/- Plain lemmas: rational numbers, their signs, parts and sizes. -/
namespace Go.Am
def sgn (neg : Bool) (n : Nat) : Int := if neg then -(n : Int) else n
theorem zig (neg : Bool) (n : Nat) : (sgn neg n).natAbs = n := by unfold sgn; split <;> omega
theorem zcj (x : Rat) : sgn (decide (x.num < 0)) x.num.natAbs = x.num := by unfold sgn; by_cases h : x.num < 0 <;> simp [h] <;> omega
theorem zk8 (neg : Bool) (n d : Nat) (hd : d ≠ 0) : (mkRat (sgn neg n) d).num.natAbs = n / Nat.gcd n d := by
  rw [Rat.num_mkRat, if_neg hd, zig, Nat.gcd_comm]
  unfold sgn
  cases neg with
  | false => simp; rfl
  | true =>
    simp only [if_true]
    have h : (Nat.gcd n d : Int) ∣ (n : Int) := Int.natCast_dvd_natCast.2 (Nat.gcd_dvd_left n d)
    rw [Int.neg_ediv_of_dvd h, Int.natAbs_neg]
    rfl
theorem zk9 (neg : Bool) (n d : Nat) (hd : d ≠ 0) : (mkRat (sgn neg n) d).den = d / Nat.gcd n d := by
  rw [Rat.den_mkRat, if_neg hd, zig, Nat.gcd_comm]
theorem zlm (neg : Bool) (n d : Nat) (hd : d ≠ 0) (hn : n ≠ 0) : decide ((mkRat (sgn neg n) d).num < 0) = neg := by
  have h0 : n / Nat.gcd n d ≠ 0 := by
    have := Nat.gcd_pos_of_pos_left d (show 0 < n by omega)
    have h2 := Nat.le_of_dvd (by omega) (Nat.gcd_dvd_left n d)
    have := Nat.div_pos h2 this
    omega
  rw [Rat.num_mkRat, if_neg hd, zig, Nat.gcd_comm]
  have h : (Nat.gcd n d : Int) ∣ (n : Int) := Int.natCast_dvd_natCast.2 (Nat.gcd_dvd_left n d)
  obtain ⟨q, hq, hq0⟩ : ∃ q : Nat, (n : Int) / (Nat.gcd n d : Int) = (q : Int) /\ q ≠ 0 := ⟨n / Nat.gcd n d, by simp, h0⟩
  unfold sgn
  cases neg with
  | false => simp only [Bool.false_eq_true, if_false, hq]; exact decide_eq_false (by omega)
  | true => simp only [if_true]; rw [Int.neg_ediv_of_dvd h, hq]; exact decide_eq_true (by omega)
theorem zih (x y : Rat) : x * y = mkRat (sgn (decide (x.num < 0) != decide (y.num < 0)) (x.num.natAbs * y.num.natAbs)) (x.den * y.den) := by
  rw [Rat.mul_def']
  congr 1
  conv => lhs; rw [<- zcj x, <- zcj y]
  generalize x.num.natAbs = a
  generalize y.num.natAbs = b
  unfold sgn
  cases decide (x.num < 0) <;> cases decide (y.num < 0) <;> simp [Int.mul_neg, Int.neg_mul]
def Dl (x : Rat) (N : Nat) : Prop := x.num.natAbs < 10 ^ N /\ x.den < 10 ^ N
theorem Dl.mono {x : Rat} {N M : Nat} (h : Dl x N) (hN : N <= M) : Dl x M := ⟨Nat.lt_of_lt_of_le h.1 (Nat.pow_le_pow_right (by omega) hN), Nat.lt_of_lt_of_le h.2 (Nat.pow_le_pow_right (by omega) hN)⟩
theorem Dl.mk (neg : Bool) {n d N : Nat} (hd : d ≠ 0) (hn : n < 10 ^ N) (hd2 : d < 10 ^ N) : Dl (mkRat (sgn neg n) d) N := by
  refine ⟨?_, ?_⟩
  . rw [zk8 neg n d hd]; exact Nat.lt_of_le_of_lt (Nat.div_le_self _ _) hn
  . rw [zk9 neg n d hd]; exact Nat.lt_of_le_of_lt (Nat.div_le_self _ _) hd2
theorem z48 {a b N M : Nat} (h : a < 10 ^ N) (k : b < 10 ^ M) : a * b < 10 ^ (N + M) := by
  rw [Nat.pow_add]
  exact Nat.mul_lt_mul_of_lt_of_le h (Nat.le_of_lt k) (Nat.pow_pos (by omega))
theorem Dl.mul {x y : Rat} {N M : Nat} (h : Dl x N) (k : Dl y M) : Dl (x * y) (N + M) := by
  rw [zih]
  exact .mk _ (Nat.mul_ne_zero x.den_nz y.den_nz) (z48 h.1 k.1) (z48 h.2 k.2)
theorem Dl.zero : Dl 0 1 := ⟨by decide, by decide⟩
theorem Dl.one : Dl 1 1 := ⟨by decide, by decide⟩
theorem zmt (a : Int) : a = sgn (decide (a < 0)) a.natAbs := by unfold sgn; by_cases h : a < 0 <;> simp [h] <;> omega
theorem Dl.add {x y : Rat} {N M : Nat} (h : Dl x N) (k : Dl y M) : Dl (x + y) (N + M + 1) := by
  rw [Rat.add_def']
  rw [zmt (x.num * y.den + y.num * x.den)]
  have h1 := z48 h.1 k.2
  have h2 := z48 k.1 h.2
  have h3 : (x.num * (y.den : Int) + y.num * (x.den : Int)).natAbs <= x.num.natAbs * y.den + y.num.natAbs * x.den := by
    refine Nat.le_trans (Int.natAbs_add_le _ _) ?_
    rw [Int.natAbs_mul, Int.natAbs_mul]; simp
  rw [Nat.add_comm M N] at h2
  refine .mk _ (Nat.mul_ne_zero x.den_nz y.den_nz) ?_ ?_
  . rw [Nat.pow_succ]; omega
  . have := z48 h.2 k.2
    rw [Nat.pow_succ]; omega
theorem Dl.neg {x : Rat} {N : Nat} (h : Dl x N) : Dl (-x) N := ⟨by rw [Rat.neg_num, Int.natAbs_neg]; exact h.1, by rw [Rat.neg_den]; exact h.2⟩
theorem Dl.sub {x y : Rat} {N M : Nat} (h : Dl x N) (k : Dl y M) : Dl (x - y) (N + M + 1) := by
  rw [Rat.sub_eq_add_neg]; exact h.add k.neg
theorem Dl.pos {x : Rat} {N : Nat} (h : Dl x N) : 1 <= N := by
  refine Nat.not_lt.1 fun hlt => ?_
  have : N = 0 := by omega
  subst this
  have := h.2
  have := x.den_pos
  simp at *; omega
end Go.Am
/- Plain law: the parts of a rational number's text; its error. -/
namespace Go.Am.Tryz
open Go Go.Am Go.Proofs
variable {K : Nat}
structure Sp (s : zAd) (neg : Bool) (n : zAd) (many : Bool) (d : zAd) : Prop where
  eq : z05 s = (if neg then [45] else []) ++ (z05 n ++ (if many then 47 :: z05 d else []))
  no : 47 ∉ z05 n
  hd : neg = false -> (z05 s).head? ≠ some 45
theorem ze9 {x : Int} : ∀ {l1 l2 r1 r2 : List Int}, l1 ++ r1 = l2 ++ r2 -> x ∉ l1 -> x ∉ l2 -> (r1 = [] \/ r1.head? = some x) -> (r2 = [] \/ r2.head? = some x) -> l1 = l2 /\ r1 = r2
  | [], [], _, _, h, _, _, _, _ => ⟨rfl, by simpa using h⟩
  | [], b :: l2, r1, r2, h, _, h2, h3, _ => by
    simp only [List.nil_append, List.cons_append] at h
    subst h
    simp at h3
    subst h3
    simp at h2
  | a :: l1, [], r1, r2, h, h1, _, _, h4 => by
    simp only [List.nil_append, List.cons_append] at h
    subst h
    simp at h4
    subst h4
    simp at h1
  | a :: l1, b :: l2, r1, r2, h, h1, h2, h3, h4 => by
    simp only [List.cons_append, List.cons.injEq] at h
    obtain ⟨rfl, h⟩ := h
    obtain ⟨e1, e2⟩ := ze9 h (fun hx => h1 (by simp [hx])) (fun hx => h2 (by simp [hx])) h3 h4
    exact ⟨by rw [e1], e2⟩
theorem Sp.uniq {s n d n' d' : zAd} {neg neg' many many' : Bool} (h : Sp s neg n many d) (k : Sp s neg' n' many' d') : neg = neg' /\ n = n' /\ many = many' /\ (many = true -> d = d') := by
  have e1 : neg = neg' := by
    cases neg <;> cases neg'
    . rfl
    . have := h.hd rfl; rw [k.eq] at this; simp at this
    . have := k.hd rfl; rw [h.eq] at this; simp at this
    . rfl
  subst e1
  have e2 := List.append_cancel_left (h.eq.symm.trans k.eq)
  obtain ⟨e3, e4⟩ := ze9 e2 h.no k.no (by cases many <;> simp) (by cases many' <;> simp)
  refine ⟨rfl, z3y e3, ?_⟩
  cases many <;> cases many'
  . exact ⟨rfl, fun h => by cases h⟩
  . simp at e4
  . simp at e4
  . simp at e4; exact ⟨rfl, fun _ => z3y e4⟩
theorem Sp.size {s n d : zAd} {neg many : Bool} (h : Sp s neg n many d) : n.size <= s.size /\ (many = true -> d.size <= s.size) := by
  have := congrArg List.length h.eq
  simp only [List.length_append, z01] at this
  refine ⟨by omega, fun hm => ?_⟩
  subst hm
  simp only [if_true, List.length_cons, z01] at this
  omega
theorem z5w (s : zAd) {i j : Nat} (h : i <= j) (hj : j <= s.size) : z05 (s.extract i j) = ((z05 s).drop i).take (j - i) /\ (s.extract i j).size = j - i := by
  have h1 := z2q s i j
  refine ⟨h1, ?_⟩
  rw [<- z01, h1, List.length_take, List.length_drop, z01]; omega
theorem zeu (K : Nat) (s : zAd) : ∃ s1 neg, z1c K s ⟨#[45]⟩ = some (s1, neg) /\ z05 s = (if neg then [45] else []) ++ z05 s1 /\ (neg = false -> (z05 s).head? ≠ some 45) /\ s1.size <= s.size := by
  unfold z1c z0w z0v
  have hn := z01 s
  have e1 : ((⟨#[45]⟩ : zAd).size : Int) = 1 := rfl
  rw [e1]
  by_cases h0 : s.size = 0
  . have hb : z05 s = [] := List.length_eq_zero_iff.1 (by omega)
    refine ⟨s, false, ?_, by simp, fun _ => by rw [hb]; simp, Nat.le_refl _⟩
    rw [h0]
    rfl
  . obtain ⟨c, l, hc⟩ : ∃ c l, z05 s = c :: l := by
      cases hb : z05 s with
      | nil => rw [hb] at hn; simp at hn; omega
      | cons c l => exact ⟨c, l, rfl⟩
    have hx : ssl s 0 1 = some (s.extract 0 1) := by rw [sslI (by omega) (by omega) (by omega)]; rfl
    have hxb : z05 (s.extract 0 1) = [c] := by rw [(z5w s (by omega) (by omega)).1, hc]; rfl
    rw [decide_eq_true (by omega), if_pos rfl, hx, z0m, z0m, tu1a, z0m]
    by_cases h45 : c = 45
    . have he : sEq (s.extract 0 1) ⟨#[45]⟩ = true := sEq_iff.2 (z3y (by rw [hxb, h45]; rfl))
      obtain ⟨t, t1, t2, t3⟩ := zbh hc
      refine ⟨t, true, ?_, by rw [hc, t2, h45]; rfl, fun h => by (cases h), by rw [hc] at hn; simp at hn; omega⟩
      rw [he]
      simp only [Bool.not_true, Bool.false_eq_true, if_false]
      rw [t1, z0m, z0m]
    . have he : sEq (s.extract 0 1) ⟨#[45]⟩ = false := znu (fun e => by
        have := congrArg z05 e
        rw [hxb] at this
        have e2 : z05 (⟨#[45]⟩ : zAd) = [45] := rfl
        rw [e2] at this
        simp at this; exact h45 this)
      refine ⟨s, false, ?_, by simp, fun _ => by rw [hc]; simpa using h45, Nat.le_refl _⟩
      rw [he]
      rfl
theorem z9v (c : UInt8) : ∀ (l : List UInt8), (Lib.indexByte l c = -1 /\ c ∉ l) \/ ∃ i : Nat, Lib.indexByte l c = i /\ i < l.length /\ l[i]? = some c /\ c ∉ l.take i
  | [] => .inl ⟨rfl, by simp⟩
  | b :: l => by
    rw [Lib.indexByte]
    by_cases hb : b = c
    . subst hb; exact .inr ⟨0, by simp, by simp, by simp, by simp⟩
    . have hb' : (b == c) = false := by simpa using hb
      rw [hb']
      rcases z9v c l with ⟨h1, h2⟩ | ⟨i, h1, h2, h3, h4⟩
      . refine .inl ⟨by rw [h1]; rfl, ?_⟩
        simp only [List.mem_cons, not_or]
        exact ⟨fun e => hb e.symm, h2⟩
      . refine .inr ⟨i + 1, ?_, by simp; omega, by simpa using h3, ?_⟩
        . rw [h1]
          have : ((i : Int) == -1) = false := by rw [beq_eq_false_iff_ne]; omega
          rw [this]
          simp
        . rw [List.take_succ_cons]
          simp only [List.mem_cons, not_or]
          exact ⟨fun e => hb e.symm, h4⟩
theorem zfq {c : UInt8} {l : List UInt8} (h : ((c.toNat : Nat) : Int) ∈ l.map (fun b => (b.toNat : Int))) : c ∈ l := by
  rw [List.mem_map] at h
  obtain ⟨b, hb, he⟩ := h
  have : b = c := UInt8.toNat_inj.1 (by omega)
  subst this; exact hb
theorem znv {s : zAd} (hs : s.size <= 1048576) : ∃ n d many, z3m K s ⟨#[47]⟩ = some (n, d, many) /\ z05 s = z05 n ++ (if many then 47 :: z05 d else []) /\ 47 ∉ z05 n /\ (many = false -> d = ⟨#[]⟩) := by
  have hn := z01 s
  have hx : z0u K s ⟨#[47]⟩ = some (Lib.indexByte s.data.toList 47) := by
    unfold z0u z1m
    have e1 : (((⟨#[47]⟩ : zAd).size : Int) == 0) = false := rfl
    have e2 : (((⟨#[47]⟩ : zAd).size : Int) == 1) = true := rfl
    have e3 : bidx (⟨#[47]⟩ : zAd) 0 = some 47 := rfl
    rw [e1, e2, e3]
    simp only [Bool.false_eq_true, if_false, z0m, tu1a, if_true]
    by_cases he : sEq ⟨#[47]⟩ s = true
    . rw [he, if_pos rfl]
      rw [sEq_iff] at he
      subst he
      rfl
    . rw [if_neg he]
      rfl
  unfold z3m z1n
  rw [hx, z0m]
  rcases z9v 47 s.data.toList with ⟨h1, h2⟩ | ⟨i, h1, h2, h3, h4⟩
  . refine ⟨s, ⟨#[]⟩, false, by rw [h1]; rfl, by simp, fun h => h2 (zfq h), fun _ => rfl⟩
  . rw [Array.length_toList] at h2
    have h2' : i < s.size := h2
    have ea := z5w s (i := 0) (j := i) (by omega) (by omega)
    have eb := z5w s (i := i + 1) (j := s.size) (by omega) (by omega)
    refine ⟨s.extract 0 i, s.extract (i + 1) s.size, true, ?_, ?_, ?_, fun h => by cases h⟩
    . have e1 : ((⟨#[47]⟩ : zAd).size : Int) = 1 := rfl
      have t0 : Int.toNat 0 = 0 := rfl
      have t1 : ((i : Int) + 1).toNat = i + 1 := by omega
      rw [h1, if_pos (decide_eq_true (by omega)), sslI (by omega) (by omega) (by omega), z0m, e1, k64 (by omega) (by omega), sslI (by omega) (by omega) (by omega), z0m, z0m, t1]
      rfl
    . rw [ea.1, eb.1]
      have h5 : (z05 s)[i]? = some 47 := by unfold z05; rw [List.getElem?_map, h3]; rfl
      have h6 : i < (z05 s).length := by omega
      rw [zAh h6] at h5
      simp only [if_true, List.drop_zero, Nat.sub_zero]
      rw [List.take_of_length_le (l := (z05 s).drop (i + 1)) (by rw [List.length_drop]; omega)]
      conv => lhs; rw [<- List.take_append_drop i (z05 s), List.drop_eq_getElem_cons h6]
      rw [zAa h5]
    . rw [ea.1, List.drop_zero, Nat.sub_zero]
      intro h
      unfold z05 at h
      rw [<- List.map_take] at h
      exact h4 (zfq h)
theorem zbp (K : Nat) {s : zAd} (hs : s.size <= 1048576) : ∃ s1 neg n d many, z1c K s ⟨#[45]⟩ = some (s1, neg) /\ z3m K s1 ⟨#[47]⟩ = some (n, d, many) /\ Sp s neg n many d /\ z05 s = (if neg then [45] else []) ++ z05 s1 /\ (many = false -> d = ⟨#[]⟩) := by
  obtain ⟨s1, neg, h1, h2, h3, h4⟩ := zeu K s
  obtain ⟨n, d, many, c1, c2, c3, c4⟩ := znv (K := K) (s := s1) (by omega)
  exact ⟨s1, neg, n, d, many, h1, c1, ⟨by rw [h2, c2], c3, h3⟩, h2, c4⟩
def ratS (neg : Bool) (n : zAd) (many : Bool) (d : zAd) : Int :=
  if natE n = 5 \/ (many = true /\ natE d = 5) \/ (neg = true /\ n = ⟨#[48]⟩) then 5 else if natE n ≠ 0 \/ (many = true /\ natE d ≠ 0) then 2 else
  if many = true /\ (d = ⟨#[48]⟩ \/ d = ⟨#[49]⟩ \/ Nat.gcd (numT n).toNat (numT d).toNat ≠ 1) then 3 else 0
theorem zal (a b : zAd) : sEq a b = decide (a = b) := by
  by_cases h : a = b
  . rw [decide_eq_true h]; exact sEq_iff.2 h
  . rw [decide_eq_false h]; exact znu h
theorem zmu (G : Nat) : ((if (G : Int) < 1 then (-1 : Int) else if (G : Int) = 1 then 0 else 1) != 0) = decide (G ≠ 1) := by
  by_cases hG : G = 1
  . subst hG; rfl
  . rw [decide_eq_true hG]
    by_cases h0 : (G : Int) < 1
    . rw [if_pos h0]; rfl
    . rw [if_neg h0, if_neg (by omega)]; rfl
theorem zmv : natE ⟨#[48]⟩ = 0 := (zak _).2 ⟨z9u, by decide⟩
theorem zka {s n d : zAd} {neg many : Bool} (hs : s.size <= 1048576) (hK : 2000000000 < K) (h : Sp s neg n many d) : z54 K s = some (ratS neg n many d) := by
  obtain ⟨s1, neg', n', d', many', c1, c2, c3, c4, c5⟩ := zbp K hs
  obtain ⟨rfl, rfl, rfl, hd⟩ := h.uniq c3
  have hsz := h.size
  unfold z54 ratS
  rw [c1, z0m, c2, z0m]
  dsimp only
  rw [ze8 (by omega) (by omega), z0m]
  cases many with
  | false =>
    simp only [Bool.false_eq_true, if_false, z0m, tu1a, false_and, false_or, or_false]
    by_cases e5 : natE n = 5
    . simp [e5, z0m, tu1a]
    . have e5' : (natE n == 5) = false := by rw [beq_eq_false_iff_ne]; exact e5
      have e05 : ((0 : Int) == 5) = false := rfl
      rw [e5', e05]
      cases neg <;> by_cases e0 : natE n = 0 <;> by_cases en : n = ⟨#[48]⟩ <;> simp [e0, e5, en, zal, z0m, tu1a, zmv]
  | true =>
    have hdd := hd rfl
    subst hdd
    simp only [if_true, true_and]
    rw [ze8 (by have := hsz.2 rfl; omega) (by have := hsz.2 rfl; omega)]
    simp only [z0m, tu1a]
    by_cases e5 : natE n = 5
    . simp [e5, z0m, tu1a]
    . have e5' : (natE n == 5) = false := by rw [beq_eq_false_iff_ne]; exact e5
      by_cases f5 : natE d = 5
      . simp [e5, f5, z0m, tu1a]
      . have f5' : (natE d == 5) = false := by rw [beq_eq_false_iff_ne]; exact f5
        have hneg : (if neg = true then some (sEq n (⟨#[48]⟩ : zAd)) else some false) = some (decide (neg = true /\ n = ⟨#[48]⟩)) := by
          cases neg <;> simp [zal]
        rw [e5', f5', hneg]
        simp only [Bool.false_eq_true, if_false, z0m, tu1a, e5, f5, false_or]
        by_cases hz : neg = true /\ n = ⟨#[48]⟩
        . rw [decide_eq_true hz, if_pos rfl, if_pos hz]
        . rw [decide_eq_false hz, if_neg (by simp), if_neg hz]
          by_cases e0 : natE n = 0
          . by_cases f0 : natE d = 0
            . obtain ⟨cn, ln⟩ := (zak n).1 e0
              obtain ⟨cd, ld⟩ := (zak d).1 f0
              obtain ⟨x, x1, x2, x3⟩ := zaa (K := K) (s := n) (by omega) hK cn.2.1
              obtain ⟨y, y1, y2, y3⟩ := zaa (K := K) (s := d) (by omega) hK cd.2.1
              have nn := z3h cn.2.1
              have nd := z3h cd.2.1
              obtain ⟨g, g1, g2⟩ := zks (K := K) (x := x) (y := y) (a := (numT n).toNat) (b := (numT d).toNat) (by omega) (by omega) hK (by rw [Int.toNat_of_nonneg nn]; exact x2) (by rw [Int.toNat_of_nonneg nd]; exact y2)
              have gl : g.length <= 1000000 := by
                by_cases h0 : (numT d).toNat = 0
                . rw [h0, Nat.gcd_zero_right, Int.toNat_of_nonneg nn] at g2
                  rw [g2.inj x2]; omega
                . have := z99 g2 y2 (by have := Nat.gcd_le_right (n := (numT d).toNat) (numT n).toNat (by omega); omega)
                  omega
              have hc := zfh (K := K) (x := g) (y := [1]) (by omega) (by simp) hK g2 (.one (by omega) (by omega))
              have hcv : ((if ((Nat.gcd (numT n).toNat (numT d).toNat : Nat) : Int) < 1 then (-1 : Int) else if ((Nat.gcd (numT n).toNat (numT d).toNat : Nat) : Int) = 1 then 0 else 1) != 0) = decide (Nat.gcd (numT n).toNat (numT d).toNat ≠ 1) := by
                exact zmu _
              rw [e0, f0]
              simp only [bne_self_eq_false, Bool.false_eq_true, if_false, z0m, tu1a, ne_eq, not_true, or_self, x1, y1, g1, zfp hK, hc, hcv, zal]
              by_cases d0 : d = ⟨#[48]⟩
              . simp [d0, z0m, tu1a]
              . by_cases d1 : d = ⟨#[49]⟩
                . simp [d1, z0m, tu1a]
                . by_cases hG : Nat.gcd (numT n).toNat (numT d).toNat = 1 <;> simp [d0, d1, hG, z0m, tu1a]
            . simp [e0, f0, z0m, tu1a]
          . simp [e0, z0m, tu1a]
end Go.Am.Tryz
/- Plain law: the reference's parts of a rational number's text and its error. -/
namespace Go.Am.Tryz
open Go Go.Am Go.Proofs
variable {K : Nat}
theorem zea {l r : List Int} {i : Nat} (h : i < l.length) : (l ++ r).getD i 0 = l.getD i 0 := by
  rw [zAb, List.getElem?_append_left h, zAb]
theorem zii {l : List Int} {i : Nat} (h : i < l.length) : l.getD i 0 ∈ l := by
  rw [zAb, zAh h]; exact List.getElem_mem h
theorem zij {s n : zAd} {r : List Int} (h : z05 s = z05 n ++ r) : s.extract 0 n.size = n := by
  have hl := congrArg List.length h
  rw [List.length_append, z01, z01] at hl
  apply z3y
  rw [(z5w s (by omega) (by omega)).1, h, List.drop_zero, Nat.sub_zero, List.take_append_of_le_length (by rw [z01]; omega), List.take_of_length_le (by rw [z01]; omega)]
theorem zfr {s n d : zAd} (h : z05 s = z05 n ++ 47 :: z05 d) : s.extract (n.size + 1) s.size = d := by
  have hl := congrArg List.length h
  rw [List.length_append, List.length_cons, z01, z01, z01] at hl
  apply z3y
  rw [(z5w s (by omega) (by omega)).1, h, List.drop_append, z01]
  rw [List.drop_eq_nil_of_le (by rw [z01]; omega), show n.size + 1 - n.size = 1 by omega]
  simp only [List.nil_append, List.drop_succ_cons, List.drop_zero]
  rw [List.take_of_length_le (by rw [z01]; omega)]
theorem zkb {s : zAd} {neg : Bool} {r : List Int} (h : z05 s = (if neg then [45] else []) ++ r) (hd : neg = false -> (z05 s).head? ≠ some 45) (K : Nat) :
    ∃ s1, (Option.bind ((if (decide ((s.size : Int) > 0)) = true then ((bidx s 0).bind fun x7 => some (x7 == 45)) else some false)) (tu1 fun x11 => ((if x11 = true then ((ssl s 1 (s.size : Int)).bind fun x26 => some (x26, true)) else some (s, false))))) = some (s1, neg) /\ z05 s1 = r /\ s1.size <= s.size := by
  have hn := z01 s
  cases neg with
  | true =>
    simp only [if_true, List.cons_append, List.nil_append] at h
    obtain ⟨t, t1, t2, t3⟩ := zbh h
    have hb : bidx s 0 = some 45 := by rw [z9r, h]; rfl
    have hs : 0 < s.size := by rw [h] at hn; simp at hn; omega
    refine ⟨t, ?_, t2, by rw [h] at hn; simp at hn; omega⟩
    rw [decide_eq_true (by omega), if_pos rfl, hb, z0m, z0m, tu1a]
    simp only [beq_self_eq_true, if_true, t1, z0m]
  | false =>
    simp only [Bool.false_eq_true, if_false, List.nil_append] at h
    refine ⟨s, ?_, h, Nat.le_refl _⟩
    by_cases h0 : 0 < s.size
    . cases hb : z05 s with
      | nil => rw [hb] at hn; simp at hn; omega
      | cons c l =>
        have hc : c ≠ 45 := fun e => hd rfl (by rw [hb, e]; rfl)
        have hx : bidx s 0 = some c := by rw [z9r, hb]; rfl
        have e : (c == 45) = false := by rw [beq_eq_false_iff_ne]; exact hc
        rw [decide_eq_true (by omega), if_pos rfl, hx, z0m, e, z0m, tu1a]
        rfl
    . rw [decide_eq_false (by omega)]
      rfl
theorem zg9 {s n d : zAd} {many : Bool} (hs : s.size <= 1048576) (hK : 2000000000 < K) (h : z05 s = z05 n ++ (if many then 47 :: z05 d else [])) (hno : 47 ∉ z05 n) :
    ∃ r : Int × zAd × zAd, z1b K s K 1 s ⟨#[50]⟩ 0 = some r /\ r = (if many then (2, n, d) else (1, s, ⟨#[50]⟩)) := by
  have hn := z01 s
  have hln : n.size <= s.size := by
    have := congrArg List.length h
    rw [List.length_append, z01, z01] at this; omega
  have hlt : many = true -> n.size < s.size := fun hm => by
    subst hm
    have := congrArg List.length h
    rw [List.length_append, z01, z01] at this
    simp at this; omega
  refine zai (fun k (q : Int × zAd × zAd × Int) => z1b K s k q.1 q.2.1 q.2.2.1 q.2.2.2) (fun q => ∃ i : Nat, q.2.2.2 = i /\ i <= s.size /\ (q.1, q.2.1, q.2.2.1) = (if many = true /\ n.size < i then (2, n, d) else (1, s, ⟨#[50]⟩))) (fun q => (s.size - q.2.2.2 : Int).toNat) _ ?_ ((1, s, ⟨#[50]⟩, 0) : Int × zAd × zAd × Int) (by dsimp only; omega) ⟨0, rfl, by omega, by rw [if_neg (by omega)]⟩
  rintro k ⟨m, a, b, _⟩ ⟨i, rfl, h0, h1⟩
  dsimp only at h1 ⊢
  by_cases hi : i < s.size
  . right
    have hb : bidx s i = some ((z05 s).getD i 0) := by rw [znc (by omega) (by omega), Int.toNat_natCast]
    by_cases c : many = true /\ n.size < i
    . rw [if_pos c] at h1
      simp only [Prod.mk.injEq] at h1
      obtain ⟨rfl, rfl, rfl⟩ := h1
      refine ⟨(2, a, b, (i : Int) + 1), ?_, by dsimp only; omega, i + 1, rfl, by omega, by rw [if_pos ⟨c.1, by omega⟩]⟩
      rw [z1b, if_pos (decide_eq_true (by omega)), hb, z0m, k64 (by omega) (by omega)]
      have e : ((2 : Int) == 1) = false := rfl
      rw [e]
      by_cases c2 : (z05 s).getD i 0 == 47 <;> simp [c2, z0m, tu1a, tu3a]
    . rw [if_neg c] at h1
      simp only [Prod.mk.injEq] at h1
      obtain ⟨rfl, rfl, rfl⟩ := h1
      by_cases c3 : many = true /\ i = n.size
      . obtain ⟨hm, rfl⟩ := c3
        subst hm
        simp only [if_true] at h
        have hch : (z05 a).getD n.size 0 = 47 := by
          rw [h, zAb, List.getElem?_append_right (by rw [z01]; omega), z01]
          simp
        refine ⟨(2, n, d, (n.size : Int) + 1), ?_, by dsimp only; omega, n.size + 1, rfl, by omega, by rw [if_pos ⟨rfl, by omega⟩]⟩
        have t0 : Int.toNat 0 = 0 := rfl
        have t1 : ((n.size : Int) + 1).toNat = n.size + 1 := by omega
        rw [z1b, if_pos (decide_eq_true (by omega)), hb, z0m, hch, k64 (by omega) (by omega), sslI (l := 0) (by omega) (by omega) (by omega), sslI (by omega) (by omega) (by omega), t0, t1, Int.toNat_natCast, Int.toNat_natCast, zij h, zfr h]
        rfl
      . have hin : i < n.size := by
          cases many with
          | true => simp at c c3; omega
          | false =>
            simp only [Bool.false_eq_true, if_false, List.append_nil] at h
            have := congrArg List.length h
            rw [z01, z01] at this; omega
        have hch : (z05 a).getD i 0 ≠ 47 := fun e => by
          rw [h, zea (by rw [z01]; omega)] at e
          exact hno (e ▸ zii (by rw [z01]; omega))
        have e : ((z05 a).getD i 0 == 47) = false := by rw [beq_eq_false_iff_ne]; exact hch
        refine ⟨(1, a, ⟨#[50]⟩, (i : Int) + 1), ?_, by dsimp only; omega, i + 1, rfl, by omega, by rw [if_neg (by omega)]⟩
        rw [z1b, if_pos (decide_eq_true (by omega)), hb, z0m, e, k64 (by omega) (by omega)]
        rfl
  . left
    have : i = s.size := by omega
    subst this
    refine ⟨(m, a, b), by rw [z1b, if_neg (by simp)], ?_⟩
    cases many with
    | true => have := hlt rfl; simp only [true_and, if_pos this] at h1; exact h1
    | false => simpa using h1
theorem zkc {s n d : zAd} {neg many : Bool} (hs : s.size <= 1048576) (hK : 2000000000 < K) (h : Sp s neg n many d) : z5a K s = some (ratS neg n many d) := by
  have hsz := h.size
  obtain ⟨s1, h1, h2, h3⟩ := zkb h.eq h.hd K
  obtain ⟨r, r1, rfl⟩ := zg9 (K := K) (s := s1) (n := n) (d := d) (many := many) (by omega) hK h2 h.no
  unfold z5a ratS
  -- the sign
  have hsplit : ∀ {α : Type} (F : zAd × Bool -> Option α), (Option.bind ((if (decide ((s.size : Int) > 0)) = true then ((bidx s 0).bind fun x7 => some (x7 == 45)) else some false)) (tu1 fun x11 => (Option.bind ((if x11 = true then ((ssl s 1 (s.size : Int)).bind fun x26 => some (x26, true)) else some (s, false))) F))) = F (s1, neg) := by
    intro α F
    have : ∀ (m : Option Bool) (f : Bool -> Option (zAd × Bool)), (Option.bind m (tu1 fun x => Option.bind (f x) F)) = Option.bind (Option.bind m (tu1 f)) F := by
      intro m f; cases m <;> rfl
    rw [this, h1]; rfl
  rw [hsplit, tu2a, r1, z0m, tu3a]
  cases many with
  | false =>
    have hs1 : s1 = n := z3y (by simpa using h2)
    subst hs1
    have e2 : natE ⟨#[50]⟩ = 0 := (zak _).2 ⟨⟨by decide, rfl, fun h => by simp [z05] at h⟩, by decide⟩
    simp only [Bool.false_eq_true, if_false, false_and, false_or, or_false]
    rw [zav (by omega) (by omega), zav (s := ⟨#[50]⟩) (by decide) (by show 1 < K; omega), z0m, z0m, e2]
    by_cases e5 : natE s1 = 5
    . simp [e5, z0m, tu1a]
    . have e5' : (natE s1 == 5) = false := by rw [beq_eq_false_iff_ne]; exact e5
      have e05 : ((0 : Int) == 5) = false := rfl
      rw [e5', e05]
      cases neg <;> by_cases e0 : natE s1 = 0 <;> by_cases en : s1 = ⟨#[48]⟩ <;> simp [e0, e5, en, zal, z0m, tu1a, zmv]
  | true =>
    have hd := hsz.2 rfl
    simp only [if_true, true_and]
    rw [zav (by omega) (by omega), zav (s := d) (by omega) (by omega), z0m, z0m]
    by_cases e5 : natE n = 5
    . simp [e5, z0m, tu1a]
    . have e5' : (natE n == 5) = false := by rw [beq_eq_false_iff_ne]; exact e5
      by_cases f5 : natE d = 5
      . simp [e5, f5, z0m, tu1a]
      . have f5' : (natE d == 5) = false := by rw [beq_eq_false_iff_ne]; exact f5
        have hneg : (if neg = true then some (sEq n (⟨#[48]⟩ : zAd)) else some false) = some (decide (neg = true /\ n = ⟨#[48]⟩)) := by
          cases neg <;> simp [zal]
        rw [e5', f5', hneg]
        simp only [Bool.false_eq_true, if_false, z0m, tu1a, e5, f5, false_or]
        by_cases hz : neg = true /\ n = ⟨#[48]⟩
        . rw [decide_eq_true hz, if_pos rfl, if_pos hz]
        . rw [decide_eq_false hz, if_neg (by simp), if_neg hz]
          by_cases e0 : natE n = 0
          . by_cases f0 : natE d = 0
            . obtain ⟨cn, ln⟩ := (zak n).1 e0
              obtain ⟨cd, ld⟩ := (zak d).1 f0
              have nn := z3h cn.2.1
              have nd := z3h cd.2.1
              obtain ⟨g, g1, g2, g3⟩ := zkt (K := K) (x := n) (y := d) (a := (numT n).toNat) (b := (numT d).toNat) (by omega) (by omega) hK cn cd (by omega) (by omega)
              have hg : (!(decide (g = ⟨#[49]⟩))) = decide (Nat.gcd (numT n).toNat (numT d).toNat ≠ 1) := by
                by_cases hG : Nat.gcd (numT n).toNat (numT d).toNat = 1
                . have : g = ⟨#[49]⟩ := z96 g2 z98 (by rw [g3, z8e, hG]; rfl)
                  simp [this, hG]
                . have : g ≠ ⟨#[49]⟩ := fun e => hG (by rw [e, z8e] at g3; omega)
                  simp [this, hG]
              have e22 : ((2 : Int) == 2) = true := rfl
              rw [e0, f0, e22]
              simp only [bne_self_eq_false, Bool.false_eq_true, if_false, z0m, tu1a, ne_eq, not_true, or_self, g1, hg, zal, if_true]
              by_cases d0 : d = ⟨#[48]⟩
              . simp [d0, z0m, tu1a]
              . by_cases d1 : d = ⟨#[49]⟩
                . simp [d1, z0m, tu1a]
                . by_cases hG : Nat.gcd (numT n).toNat (numT d).toNat = 1 <;> simp [d0, d1, hG, z0m, tu1a]
            . simp [e0, f0, z0m, tu1a]
          . simp [e0, z0m, tu1a]
theorem zik {s n d : zAd} {many : Bool} {x1 : Int} (hs : s.size <= 1048576) (hK : 2000000000 < K) (h : z05 s = z05 n ++ (if many then 47 :: z05 d else [])) (hno : 47 ∉ z05 n) :
    ∃ r : (Bool × zAd × zAd) ⊕ Unit, z3e K x1 s K 0 = some r /\ r = (if many then .inl (x1 == 45, n, d) else .inr ()) := by
  have hn := z01 s
  have hln : n.size <= s.size := by
    have := congrArg List.length h
    rw [List.length_append, z01, z01] at this; omega
  refine zai (fun k (q : Int) => z3e K x1 s k q) (fun q => ∃ i : Nat, q = i /\ i <= n.size) (fun q => (s.size - q : Int).toNat) _ ?_ (0 : Int) (by omega) ⟨0, rfl, by omega⟩
  rintro k _ ⟨i, rfl, h0⟩
  by_cases hi : i < n.size
  . right
    have hb : bidx s i = some ((z05 s).getD i 0) := by rw [znc (by omega) (by omega), Int.toNat_natCast]
    have hch : (z05 s).getD i 0 ≠ 47 := fun e => by
      rw [h, zea (by rw [z01]; omega)] at e
      exact hno (e ▸ zii (by rw [z01]; omega))
    have e : ((z05 s).getD i 0 == 47) = false := by rw [beq_eq_false_iff_ne]; exact hch
    refine ⟨(i : Int) + 1, ?_, by omega, i + 1, rfl, by omega⟩
    rw [z3e, if_pos (decide_eq_true (by omega)), hb, z0m, e, k64 (by omega) (by omega)]
    rfl
  . left
    have : i = n.size := by omega
    subst this
    cases many with
    | true =>
      simp only [if_true] at h
      have hlt : n.size < s.size := by
        have := congrArg List.length h
        rw [List.length_append, z01, z01] at this
        simp at this; omega
      have hb : bidx s n.size = some ((z05 s).getD n.size 0) := by rw [znc (by omega) (by omega), Int.toNat_natCast]
      have hch : (z05 s).getD n.size 0 = 47 := by
        rw [h, zAb, List.getElem?_append_right (by rw [z01]; omega), z01]
        simp
      have t0 : Int.toNat 0 = 0 := rfl
      have t1 : ((n.size : Int) + 1).toNat = n.size + 1 := by omega
      refine ⟨_, ?_, rfl⟩
      rw [z3e, if_pos (decide_eq_true (by omega)), hb, z0m, hch, k64 (by omega) (by omega), sslI (l := 0) (by omega) (by omega) (by omega), sslI (by omega) (by omega) (by omega), t0, t1, Int.toNat_natCast, Int.toNat_natCast, zij h, zfr h]
      rfl
    | false =>
      simp only [Bool.false_eq_true, if_false, List.append_nil] at h
      have : n.size = s.size := by
        have := congrArg List.length h
        rw [z01, z01] at this; omega
      exact ⟨.inr (), by rw [z3e, if_neg (by simp; omega)], rfl⟩
theorem zkd {s n d : zAd} {neg many : Bool} (hs : s.size <= 1048576) (h0 : s.size ≠ 0) (hK : 2000000000 < K) (h : Sp s neg n many d) : z66 K s = some (neg, n, if many then d else ⟨#[49]⟩) := by
  have hn := z01 s
  obtain ⟨c, l, hc⟩ : ∃ c l, z05 s = c :: l := by
    cases hb : z05 s with
    | nil => rw [hb] at hn; simp at hn; omega
    | cons c l => exact ⟨c, l, rfl⟩
  have hx : bidx s 0 = some c := by rw [z9r, hc]; rfl
  have hneg : (c == 45) = neg := by
    cases neg with
    | true => have := h.eq; rw [hc] at this; simp at this; rw [this.1]; rfl
    | false => have := h.hd rfl; rw [hc] at this; simpa using this
  obtain ⟨s1, e1, e2, e3⟩ : ∃ s1, (if neg = true then ((ssl s 1 (s.size : Int)).bind fun x9 => some x9) else some s) = some s1 /\ z05 s1 = z05 n ++ (if many then 47 :: z05 d else []) /\ s1.size <= s.size := by
    cases neg with
    | true =>
      have he := h.eq
      simp only [if_true, List.cons_append, List.nil_append] at he
      obtain ⟨t, t1, t2, t3⟩ := zbh he
      exact ⟨t, by rw [if_pos rfl, t1]; rfl, t2, by rw [he] at hn; rw [List.length_cons] at hn; omega⟩
    | false => exact ⟨s, rfl, by simpa using h.eq, Nat.le_refl _⟩
  obtain ⟨r, r1, rfl⟩ := zik (K := K) (s := s1) (n := n) (d := d) (many := many) (x1 := c) (by omega) hK e2 h.no
  unfold z66
  rw [hx, z0m, hneg, e1, z0m, tu1a, r1]
  cases many with
  | true => simp only [if_true, zhy, tu3a, hneg]
  | false =>
    have hs1 : s1 = n := z3y (by simpa using e2)
    subst hs1
    simp only [Bool.false_eq_true, if_false, zjs, tu0a]
end Go.Am.Tryz
/- Plain law: the program's rational numbers and their texts. -/
namespace Go.Am.Tryz
open Go Go.Am Go.Proofs
variable {K : Nat}
def RTx (s : zAd) (x : Rat) : Prop := ∃ n d, CanT n /\ CanT d /\ numT n = (x.num.natAbs : Nat) /\ numT d = (x.den : Nat) /\ Sp s (decide (x.num < 0)) n (decide (x.den ≠ 1)) d
theorem RTx.inj {s t : zAd} {x : Rat} (h : RTx s x) (k : RTx t x) : s = t := by
  obtain ⟨n, d, h1, h2, h3, h4, h5⟩ := h
  obtain ⟨n', d', k1, k2, k3, k4, k5⟩ := k
  have e1 : n = n' := z96 h1 k1 (by rw [h3, k3])
  have e2 : d = d' := z96 h2 k2 (by rw [h4, k4])
  subst e1 e2
  exact z3y (by rw [h5.eq, k5.eq])
theorem RTx.val {s : zAd} {x y : Rat} (h : RTx s x) (k : RTx s y) : x = y := by
  obtain ⟨n, d, h1, h2, h3, h4, h5⟩ := h
  obtain ⟨n', d', k1, k2, k3, k4, k5⟩ := k
  obtain ⟨e1, rfl, e3, e4⟩ := h5.uniq k5
  have e5 : x.num = y.num := by
    rw [<- zcj x, <- zcj y, e1]
    congr 1
    omega
  have e6 : x.den = y.den := by
    by_cases c : x.den ≠ 1
    . have := e4 (decide_eq_true c)
      subst this; omega
    . have c2 : ¬ y.den ≠ 1 := fun c2 => by
        rw [decide_eq_false c, decide_eq_true c2] at e3; cases e3
      omega
  exact Rat.ext e5 e6
def QV (a : Q) (x : Rat) : Prop := a.neg = decide (x.num < 0) /\ NumN (x.num.natAbs : Nat) a.num /\ (NumN (x.den : Nat) a.den \/ (a.den = [] /\ x.den = 1))
theorem znw (N : Nat) : (10 : Int) ^ N <= 1000000000 ^ N := by
  have g5 : (1000000000 : Int) = 10 ^ 9 := by decide
  rw [g5, <- Int.pow_mul]
  exact z7c (by omega) (by omega)
theorem z7r (N : Nat) : ((10 ^ N : Nat) : Int) = (10 : Int) ^ N := by simp
theorem zku {n N : Nat} {l : List Int} (h : NumN n l) (hn : n < 10 ^ N) : l.length <= N := by
  refine Nat.not_lt.1 fun hlt => ?_
  have g1 := zhz (B := 1000000000) (by omega) h.1 (by rintro rfl; simp at hlt)
  rw [h.2] at g1
  have g2 : (1000000000 : Int) ^ N <= 1000000000 ^ (l.length - 1) := z7c (by omega) (by omega)
  have g3 := znw N
  have g4 : (n : Int) < (10 : Int) ^ N := by rw [<- z7r]; omega
  omega
theorem z9w {n N : Nat} {t : zAd} (h : CanT t) (ht : numT t = n) (hn : n < 10 ^ N) : t.size <= N + 1 := by
  refine Nat.not_lt.1 fun hlt => ?_
  have g1 := zch h (by omega)
  have g2 : (10 : Int) ^ N <= 10 ^ (t.size - 1) := z7c (by omega) (by omega)
  have g4 : (n : Int) < (10 : Int) ^ N := by rw [<- z7r]; omega
  omega
theorem zeb {n N : Nat} {t : zAd} (h : (z05 t).all digT = true) (ht : numT t = n) (hN : t.size <= N) : n < 10 ^ N := by
  have g1 := zbm h
  have g2 : (10 : Int) ^ t.size <= 10 ^ N := z7c (by omega) hN
  have g4 : (n : Int) < (10 : Int) ^ N := by omega
  rw [<- z7r] at g4
  omega
theorem QV.lens {a : Q} {x : Rat} {N : Nat} (h : QV a x) (hx : Dl x N) : a.num.length <= N /\ a.den.length <= N := by
  refine ⟨zku h.2.1 hx.1, ?_⟩
  rcases h.2.2 with h2 | ⟨h2, _⟩
  . exact zku h2 hx.2
  . rw [h2]; exact Nat.zero_le _
theorem QV.zero : QV ⟨false, [], []⟩ 0 := ⟨rfl, .nil, .inr ⟨rfl, rfl⟩⟩
theorem QV.num0 {a : Q} {x : Rat} (h : QV a x) : a.num.length = 0 ↔ x = 0 := by
  rw [h.2.1.len0, <- Rat.num_eq_zero]; omega
theorem zbq {a : Q} {x : Rat} (h : QV a x) (hK : 2000000000 < K) : ∃ w, z1v K a = some w /\ NumN (x.den : Nat) w /\ w.length <= max a.den.length 1 := by
  unfold z1v
  rcases h.2.2 with h2 | ⟨h2, h3⟩
  . have hp := x.den_pos
    have h0 : a.den.length ≠ 0 := fun e => by have := h2.len0.1 e; omega
    refine ⟨a.den, ?_, h2, by omega⟩
    rw [if_neg (by rw [beq_iff_eq]; omega)]
  . refine ⟨[1], ?_, by rw [h3]; exact .one (by omega) (by omega), by simp; omega⟩
    rw [h2, if_pos (by rfl), zfp hK, z0m]
theorem zke {neg : Bool} {n d : Nat} {num den : List Int} (hd : d ≠ 0) (hn : NumN n num) (hdn : NumN d den) (l1 : num.length <= 1000000) (l2 : den.length <= 1000000) (hK : 2000000000 < K) :
    ∃ q, z6s K neg num den = some q /\ QV q (mkRat (sgn neg n) d) := by
  unfold z6s
  by_cases h0 : num.length = 0
  . have e := hn.len0.1 h0
    have e' : n = 0 := by omega
    subst e'
    refine ⟨⟨false, [], []⟩, by rw [if_pos (by rw [beq_iff_eq]; omega)], ?_⟩
    have : mkRat (sgn neg 0) d = 0 := by
      have : sgn neg 0 = 0 := by cases neg <;> rfl
      rw [this, Rat.zero_mkRat]
    rw [this]; exact QV.zero
  . have hn0 : n ≠ 0 := fun e => h0 (hn.len0.2 (by omega))
    obtain ⟨g, g1, g2⟩ := zks (K := K) (by omega) (by omega) hK hn hdn
    have gp : 0 < Nat.gcd n d := Nat.gcd_pos_of_pos_left d (by omega)
    have gl := z99 g2 hn (by have := Nat.gcd_le_left (m := n) d (by omega); omega)
    have hc := zfh (K := K) (x := g) (y := [1]) (by omega) (by simp) hK g2 (.one (by omega) (by omega))
    rw [if_neg (by rw [beq_iff_eq]; omega), g1, z0m, zfp hK, z0m, hc, z0m]
    have m1 := zk8 neg n d hd
    have m2 := zk9 neg n d hd
    have m3 := zlm neg n d hd hn0
    by_cases h1 : Nat.gcd n d = 1
    . refine ⟨⟨neg, num, den⟩, ?_, m3.symm, ?_, .inl ?_⟩
      . rw [h1]; rfl
      . rw [m1, h1, Nat.div_one]; exact hn
      . rw [m2, h1, Nat.div_one]; exact hdn
    . obtain ⟨q1, r1, a1, a2, a3, a4, a5⟩ := zfl (K := K) (x := num) (y := g) (by omega) (by omega) hK hn g2 (by omega)
      obtain ⟨q2, r2, b1, b2, b3, b4, b5⟩ := zfl (K := K) (x := den) (y := g) (by omega) (by omega) hK hdn g2 (by omega)
      refine ⟨⟨neg, q1, q2⟩, ?_, m3.symm, ?_, .inl ?_⟩
      . have e : decide ((if ((Nat.gcd n d : Nat) : Int) < 1 then (-1 : Int) else if ((Nat.gcd n d : Nat) : Int) = 1 then 0 else 1) > 0) = true := by
          rw [if_neg (by omega), if_neg (by omega)]; rfl
        rw [e, if_pos rfl, a1, z0m, b1, z0m, z0m, tu2a]
      . rw [m1]
        have e : ((n : Int) / ((Nat.gcd n d : Nat) : Int)) = ((n / Nat.gcd n d : Nat) : Int) := by simp
        rw [e] at a2; exact a2
      . rw [m2]
        have e : ((d : Int) / ((Nat.gcd n d : Nat) : Int)) = ((d / Nat.gcd n d : Nat) : Int) := by simp
        rw [e] at b2; exact b2
theorem zkv (p : Bool) (X Y : Nat) : sgn p (X + Y) = sgn p X + sgn p Y := by unfold sgn; cases p <;> simp <;> omega
theorem zfs (p q : Bool) (h : p ≠ q) {X Y : Nat} (hXY : Y <= X) : sgn p (X - Y) = sgn p X + sgn q Y := by
  unfold sgn; cases p <;> cases q <;> simp at h ⊢ <;> omega
theorem zkw (p : Bool) (a b : Nat) : sgn p (a * b) = sgn p a * b := by unfold sgn; cases p <;> simp [Int.neg_mul]
theorem zil (x y : Rat) : x + y = mkRat (sgn (decide (x.num < 0)) (x.num.natAbs * y.den) + sgn (decide (y.num < 0)) (y.num.natAbs * x.den)) (x.den * y.den) := by
  rw [zkw, zkw, zcj, zcj, Rat.add_def']
theorem zmw {a b : Q} {x y : Rat} {N : Nat} (ha : QV a x) (hb : QV b y) (dx : Dl x N) (dy : Dl y N) (hN : N <= 300000) (hK : 2000000000 < K) : ∃ q, z6e K a b = some q /\ QV q (x + y) := by
  have la := ha.lens dx
  have lb := hb.lens dy
  have hN1 := dx.pos
  unfold z6e
  by_cases hx : x = 0
  . subst hx
    refine ⟨b, ?_, by rw [Rat.zero_add]; exact hb⟩
    rw [if_pos (by rw [beq_iff_eq]; have := ha.num0.2 rfl; omega)]
  . have hx0 : a.num.length ≠ 0 := fun e => hx (ha.num0.1 e)
    rw [if_neg (by rw [beq_iff_eq]; omega)]
    by_cases hy : y = 0
    . subst hy
      refine ⟨a, ?_, by rw [Rat.add_zero]; exact ha⟩
      rw [if_pos (by rw [beq_iff_eq]; have := hb.num0.2 rfl; omega)]
    . have hy0 : b.num.length ≠ 0 := fun e => hy (hb.num0.1 e)
      rw [if_neg (by rw [beq_iff_eq]; omega)]
      obtain ⟨wa, wa1, wa2, wa3⟩ := zbq (K := K) ha hK
      obtain ⟨wb, wb1, wb2, wb3⟩ := zbq (K := K) hb hK
      obtain ⟨X, X1, X2, X3⟩ := zbj (K := K) (x := a.num) (y := wb) (by omega) hK ha.2.1 wb2
      obtain ⟨Y, Y1, Y2, Y3⟩ := zbj (K := K) (x := b.num) (y := wa) (by omega) hK hb.2.1 wa2
      obtain ⟨D, D1, D2, D3⟩ := zbj (K := K) (x := wa) (y := wb) (by omega) hK wa2 wb2
      rw [wa1, wb1, z0m, X1, z0m, z0m, Y1, z0m, z0m, z0m, D1, z0m]
      rw [<- Int.natCast_mul] at X2 Y2 D2
      have hD : x.den * y.den ≠ 0 := Nat.mul_ne_zero x.den_nz y.den_nz
      rw [zil, <- ha.1, <- hb.1]
      generalize x.num.natAbs * y.den = m at X2 ⊢
      generalize y.num.natAbs * x.den = n at Y2 ⊢
      by_cases hs : a.neg = b.neg
      . obtain ⟨Z, Z1, Z2, Z3⟩ := zmi (K := K) (x := X) (y := Y) (by omega) (by omega) hK X2 Y2
        rw [<- Int.natCast_add] at Z2
        obtain ⟨q, q1, q2⟩ := zke (K := K) (neg := a.neg) hD Z2 D2 (by omega) (by omega) hK
        refine ⟨q, ?_, by rw [<- hs, <- zkv]; exact q2⟩
        rw [if_pos (by simpa using hs), Z1, z0m, q1, z0m]
      . have hc := zfh (K := K) (x := X) (y := Y) (by omega) (by omega) hK X2 Y2
        rw [if_neg (by simpa using hs), hc, z0m]
        by_cases hle : n <= m
        . obtain ⟨Z, Z1, Z2, Z3⟩ := zko (K := K) (x := X) (y := Y) (by omega) hK X2 Y2 (by omega)
          rw [<- Int.natCast_sub hle] at Z2
          obtain ⟨q, q1, q2⟩ := zke (K := K) (neg := a.neg) hD Z2 D2 (by omega) (by omega) hK
          refine ⟨q, ?_, by rw [<- zfs _ _ hs hle]; exact q2⟩
          rw [if_pos (decide_eq_true (by rw [if_neg (by omega)]; split <;> omega)), Z1, z0m, q1, z0m]
        . obtain ⟨Z, Z1, Z2, Z3⟩ := zko (K := K) (x := Y) (y := X) (by omega) hK Y2 X2 (by omega)
          rw [<- Int.natCast_sub (show m <= n by omega)] at Z2
          obtain ⟨q, q1, q2⟩ := zke (K := K) (neg := b.neg) hD Z2 D2 (by omega) (by omega) hK
          refine ⟨q, ?_, by rw [Int.add_comm, <- zfs _ _ (fun e => hs e.symm) (by omega)]; exact q2⟩
          have e : decide ((if ((m : Nat) : Int) < (n : Nat) then (-1 : Int) else if ((m : Nat) : Int) = (n : Nat) then 0 else 1) >= 0) = false := by
            rw [if_pos (by omega)]; rfl
          rw [e]
          simp only [Bool.false_eq_true, if_false]
          rw [Z1, z0m, q1, z0m]
theorem zmx {a b : Q} {x y : Rat} {N : Nat} (ha : QV a x) (hb : QV b y) (dx : Dl x N) (dy : Dl y N) (hN : N <= 300000) (hK : 2000000000 < K) : ∃ q, z6c K a b = some q /\ QV q (x * y) := by
  have la := ha.lens dx
  have lb := hb.lens dy
  have hN1 := dx.pos
  unfold z6c
  by_cases hz : x = 0 \/ y = 0
  . refine ⟨⟨false, [], []⟩, ?_, ?_⟩
    . rcases hz with rfl | rfl
      . have := ha.num0.2 rfl
        rw [if_pos (by rw [beq_iff_eq]; omega)]
        rfl
      . have := hb.num0.2 rfl
        have e : ((b.num.length : Int) == 0) = true := by rw [beq_iff_eq]; omega
        rw [e]
        by_cases c : ((a.num.length : Int) == 0) = true
        . rw [if_pos c]; rfl
        . rw [if_neg c]; rfl
    . have : x * y = 0 := by rcases hz with rfl | rfl <;> simp
      rw [this]; exact QV.zero
  . have hx0 : a.num.length ≠ 0 := fun e => hz (.inl (ha.num0.1 e))
    have hy0 : b.num.length ≠ 0 := fun e => hz (.inr (hb.num0.1 e))
    have e1 : ((a.num.length : Int) == 0) = false := by rw [beq_eq_false_iff_ne]; omega
    have e2 : ((b.num.length : Int) == 0) = false := by rw [beq_eq_false_iff_ne]; omega
    obtain ⟨wa, wa1, wa2, wa3⟩ := zbq (K := K) ha hK
    obtain ⟨wb, wb1, wb2, wb3⟩ := zbq (K := K) hb hK
    obtain ⟨X, X1, X2, X3⟩ := zbj (K := K) (x := a.num) (y := b.num) (by omega) hK ha.2.1 hb.2.1
    obtain ⟨D, D1, D2, D3⟩ := zbj (K := K) (x := wa) (y := wb) (by omega) hK wa2 wb2
    rw [<- Int.natCast_mul] at X2 D2
    have hD : x.den * y.den ≠ 0 := Nat.mul_ne_zero x.den_nz y.den_nz
    obtain ⟨q, q1, q2⟩ := zke (K := K) (neg := !(a.neg == b.neg)) hD X2 D2 (by omega) (by omega) hK
    refine ⟨q, ?_, ?_⟩
    . rw [e1, e2]
      simp only [Bool.false_eq_true, if_false, z0m, tu1a, X1, wa1, wb1, D1, q1]
    . rw [zih, <- ha.1, <- hb.1]
      exact q2
end Go.Am.Tryz
/- Plain law: texts in and out of the program's rational numbers; the reference's sums and products. -/
namespace Go.Am.Tryz
open Go Go.Am Go.Proofs
variable {K : Nat}
theorem zim {d : zAd} (h : CanT d) : d = ⟨#[49]⟩ ↔ numT d = 1 := ⟨fun e => by rw [e, z8e], fun e => z96 h z98 (by rw [e, z8e])⟩
theorem zec (N : Nat) (h : N ≠ 0) : 1 < 10 ^ N := Nat.one_lt_pow h (by omega)
theorem zom {s n d : zAd} {neg many : Bool} (h : Sp s neg n many d) (h0 : ratS neg n many d = 0) : ∃ x, RTx s x /\ Dl x 2000 := by
  unfold ratS at h0
  by_cases c1 : natE n = 5 \/ (many = true /\ natE d = 5) \/ (neg = true /\ n = ⟨#[48]⟩)
  . rw [if_pos c1] at h0; cases h0
  . rw [if_neg c1] at h0
    by_cases c2 : natE n ≠ 0 \/ (many = true /\ natE d ≠ 0)
    . rw [if_pos c2] at h0; cases h0
    . rw [if_neg c2] at h0
      by_cases c3 : many = true /\ (d = ⟨#[48]⟩ \/ d = ⟨#[49]⟩ \/ Nat.gcd (numT n).toNat (numT d).toNat ≠ 1)
      . rw [if_pos c3] at h0; cases h0
      . have en : natE n = 0 := by
          by_cases e : natE n = 0
          . exact e
          . exact absurd (.inl e) c2
        obtain ⟨cn, ln⟩ := (zak n).1 en
        have nn := z3h cn.2.1
        have hNN : numT n = ((numT n).toNat : Int) := by omega
        have hneg : neg = true -> (numT n).toNat ≠ 0 := fun e hz => c1 (.inr (.inr ⟨e, (zd8 cn).1 (by omega)⟩))
        have lN := zeb (N := 2000) cn.2.1 hNN ln
        -- the number whose parts these are
        have key : ∀ (D : Nat) (d' : zAd), CanT d' -> numT d' = D -> D ≠ 0 -> Nat.gcd (numT n).toNat D = 1 -> D < 10 ^ 2000 -> (many = true ↔ D ≠ 1) -> Sp s neg n many d' -> ∃ x, RTx s x /\ Dl x 2000 := by
          intro D d' cd hD hD0 hg hD2 hm hsp
          have m1 := zk8 neg (numT n).toNat D hD0
          have m2 := zk9 neg (numT n).toNat D hD0
          rw [hg, Nat.div_one] at m1 m2
          have m3 : decide ((mkRat (sgn neg (numT n).toNat) D).num < 0) = neg := by
            by_cases hz : (numT n).toNat = 0
            . have : neg = false := by
                cases hne : neg with
                | false => rfl
                | true => exact absurd hz (hneg hne)
              subst this
              rw [hz]
              have : mkRat (sgn false 0) D = 0 := by have : sgn false 0 = 0 := rfl; rw [this, Rat.zero_mkRat]
              rw [this]; rfl
            . exact zlm neg _ D hD0 hz
          refine ⟨mkRat (sgn neg (numT n).toNat) D, ⟨n, d', cn, cd, by rw [m1]; exact hNN, by rw [m2]; exact hD, ?_⟩, Dl.mk _ hD0 lN hD2⟩
          rw [m3, m2]
          have : decide (D ≠ 1) = many := by
            cases hmm : many with
            | false => exact decide_eq_false (fun h => by rw [hmm] at hm; have := hm.2 h; cases this)
            | true => exact decide_eq_true (hm.1 hmm)
          rw [this]
          exact hsp
        cases many with
        | false =>
          refine key 1 ⟨#[49]⟩ z98 z8e (by omega) (Nat.gcd_one_right _) (zec 2000 (by omega)) (by simp) ⟨by simpa using h.eq, h.no, h.hd⟩
        | true =>
          have ed : natE d = 0 := by
            by_cases e : natE d = 0
            . exact e
            . exact absurd (.inr ⟨rfl, e⟩) c2
          obtain ⟨cd, ld⟩ := (zak d).1 ed
          have nd := z3h cd.2.1
          have hDD : numT d = ((numT d).toNat : Int) := by omega
          have d0 : d ≠ ⟨#[48]⟩ := fun e => c3 ⟨rfl, .inl e⟩
          have d1 : d ≠ ⟨#[49]⟩ := fun e => c3 ⟨rfl, .inr (.inl e)⟩
          have hg : Nat.gcd (numT n).toNat (numT d).toNat = 1 := by
            by_cases e : Nat.gcd (numT n).toNat (numT d).toNat = 1
            . exact e
            . exact absurd ⟨rfl, .inr (.inr e)⟩ c3
          exact key (numT d).toNat d cd hDD (fun e => d0 ((zd8 cd).1 (by omega))) hg (zeb (N := 2000) cd.2.1 hDD ld) (by
            simp only [true_iff]
            exact fun e => d1 ((zim cd).2 (by omega))) h
theorem RTx.size {s : zAd} {x : Rat} {N : Nat} (h : RTx s x) (dx : Dl x N) : s.size <= 2 * N + 4 := by
  obtain ⟨n, d, h1, h2, h3, h4, h5⟩ := h
  have l1 := z9w h1 h3 dx.1
  have l2 := z9w h2 h4 dx.2
  have := congrArg List.length h5.eq
  rw [z01, List.length_append, List.length_append, z01] at this
  have e1 : (if decide (x.num < 0) = true then ([45] : List Int) else []).length <= 1 := by split <;> simp
  have e2 : (if decide (x.den ≠ 1) = true then (47 :: z05 d : List Int) else []).length <= d.size + 1 := by
    split
    . rw [List.length_cons, z01]; omega
    . simp
  omega
theorem RTx.dl {s : zAd} {x : Rat} {N : Nat} (h : RTx s x) (hs : s.size <= N) : Dl x (N + 1) := by
  obtain ⟨n, d, h1, h2, h3, h4, h5⟩ := h
  have hsz := h5.size
  refine ⟨Nat.lt_of_lt_of_le (zeb h1.2.1 h3 (Nat.le_trans hsz.1 hs)) (Nat.pow_le_pow_right (by omega) (by omega)), ?_⟩
  by_cases c : x.den ≠ 1
  . exact Nat.lt_of_lt_of_le (zeb h2.2.1 h4 (Nat.le_trans (hsz.2 (decide_eq_true c)) hs)) (Nat.pow_le_pow_right (by omega) (by omega))
  . have : x.den = 1 := by omega
    rw [this]
    exact Nat.one_lt_pow (by omega) (by omega)
theorem RTx.pos {s : zAd} {x : Rat} (h : RTx s x) : s.size ≠ 0 := by
  obtain ⟨n, d, h1, h2, h3, h4, h5⟩ := h
  have := h5.size.1
  have := h1.1
  omega
theorem znx {s : zAd} {x : Rat} (h : RTx s x) (hs : s.size <= 1048576) (hK : 2000000000 < K) : ∃ q, za6 K s = some q /\ QV q x := by
  obtain ⟨n, d, h1, h2, h3, h4, h5⟩ := h
  obtain ⟨s1, neg', n', d', many', c1, c2, c3, c4, c5⟩ := zbp K hs
  obtain ⟨rfl, rfl, rfl, hd⟩ := h5.uniq c3
  have hsz := h5.size
  obtain ⟨a, a1, a2, a3⟩ := zaa (K := K) (s := n) (by omega) hK h1.2.1
  rw [h3] at a2
  unfold za6
  rw [c1, z0m, c2, z0m]
  dsimp only
  rw [a1, z0m, zfp hK, z0m]
  by_cases c : x.den ≠ 1
  . have := hd (decide_eq_true c)
    subst this
    obtain ⟨b, b1, b2, b3⟩ := zaa (K := K) (s := d) (by have := hsz.2 (decide_eq_true c); omega) hK h2.2.1
    rw [h4] at b2
    exact ⟨⟨decide (x.num < 0), a, b⟩, by rw [decide_eq_true c, if_pos rfl, b1, z0m, z0m, tu1a], rfl, a2, .inl b2⟩
  . have e : x.den = 1 := by omega
    exact ⟨⟨decide (x.num < 0), a, [1]⟩, by rw [decide_eq_false c]; rfl, rfl, a2, .inl (by rw [e]; exact .one (by omega) (by omega))⟩
theorem zin {n : zAd} (h : (z05 n).all digT = true) : (47 : Int) ∉ z05 n := fun hm => by
  have := digT_iff.1 (List.all_eq_true.1 h _ hm); omega
theorem zln {s n d : zAd} {x : Rat} (h1 : CanT n) (h2 : CanT d) (h3 : numT n = (x.num.natAbs : Nat)) (h4 : numT d = (x.den : Nat)) (h : z05 s = (if decide (x.num < 0) then [45] else []) ++ (z05 n ++ (if decide (x.den ≠ 1) then 47 :: z05 d else []))) : RTx s x := by
  refine ⟨n, d, h1, h2, h3, h4, h, zin h1.2.1, fun hn => ?_⟩
  rw [h, hn]
  have hl := z01 n
  cases hb : z05 n with
  | nil => rw [hb] at hl; simp at hl; exact absurd hl.symm h1.1
  | cons c l =>
    have := digT_iff.1 (List.all_eq_true.1 h1.2.1 c (by rw [hb]; simp))
    simp only [Bool.false_eq_true, if_false, List.nil_append, List.cons_append, List.head?_cons]
    intro e; cases e; omega
theorem zmy {a : Q} {x : Rat} {N : Nat} (ha : QV a x) (dx : Dl x N) (hN : N <= 900000) (hK : 2000000000 < K) : ∃ s, z6f K a = some s /\ RTx s x := by
  have la := ha.lens dx
  have hN1 := dx.pos
  unfold z6f
  by_cases hx : x = 0
  . subst hx
    have := ha.num0.2 rfl
    refine ⟨⟨#[48]⟩, by rw [if_pos (by rw [beq_iff_eq]; omega)], zln z9u z98 z67 z8e rfl⟩
  . have hx0 : a.num.length ≠ 0 := fun e => hx (ha.num0.1 e)
    obtain ⟨w, w1, w2, w3⟩ := zbq (K := K) ha hK
    obtain ⟨n, n1, n2, n3, n4⟩ := zi4 (K := K) (x := a.num) (by omega) hK ha.2.1
    obtain ⟨d, d1, d2, d3, d4⟩ := zi4 (K := K) (x := w) (by omega) hK w2
    rw [if_neg (by rw [beq_iff_eq]; omega), n1, z0m, ha.1]
    have hm : sEq d ⟨#[49]⟩ = decide (x.den = 1) := by
      rw [zal]
      congr 1
      rw [zim d2, d3, eq_iff_iff]; omega
    have e45 : ((⟨#[45]⟩ : zAd)).size = 1 := rfl
    have e47 : ((⟨#[47]⟩ : zAd)).size = 1 := rfl
    have b45 : z05 (⟨#[45]⟩ : zAd) = [45] := rfl
    have b47 : z05 (⟨#[47]⟩ : zAd) = [47] := rfl
    obtain ⟨m, m1, m2, m3⟩ : ∃ m, (if decide (x.num < 0) = true then (if ((⟨#[45]⟩ : zAd)).size + (n).size <= 4611686018427387904 then some ((⟨#[45]⟩ : zAd) ++ n) else none) else some n) = some m /\ z05 m = (if decide (x.num < 0) = true then [45] else []) ++ z05 n /\ m.size <= n.size + 1 := by
      by_cases c : x.num < 0
      . refine ⟨(⟨#[45]⟩ : zAd) ++ n, ?_, ?_, ?_⟩
        . rw [decide_eq_true c, if_pos rfl, if_pos (by omega)]
        . rw [decide_eq_true c, z0q, b45]; rfl
        . rw [<- z01, z0q, b45, List.length_append, z01]; simp; omega
      . exact ⟨n, by rw [decide_eq_false c]; rfl, by rw [decide_eq_false c]; rfl, by omega⟩
    rw [m1, z0m, tu1a, w1, z0m, d1, z0m, hm]
    by_cases c : x.den = 1
    . refine ⟨m, by rw [decide_eq_true c]; rfl, zln n2 d2 n3 d3 ?_⟩
      have hdd : decide (x.den ≠ 1) = false := decide_eq_false (fun h => h c)
      rw [m2, hdd]; simp
    . have hsd : ((⟨#[47]⟩ : zAd) ++ d).size = d.size + 1 := by rw [<- z01, z0q, b47, List.length_append, z01]; simp; omega
      refine ⟨m ++ ((⟨#[47]⟩ : zAd) ++ d), ?_, zln n2 d2 n3 d3 ?_⟩
      . rw [decide_eq_false c]
        simp only [Bool.not_false, if_true]
        rw [if_pos (by omega), if_pos (by omega), z0m, tu1a]
      . have hdd : decide (x.den ≠ 1) = true := decide_eq_true c
        rw [z0q, z0q, m2, b47, hdd]; simp
theorem zft {l : List Int} {n : Nat} (hl : l.length <= 1000000) (hK : 2000000000 < K) (h : NumN n l) : ∃ k : Nat, z38 K l = some (k : Int) /\ (k <= 2000 ↔ n < 10 ^ 2000) := by
  obtain ⟨t, t1, t2, t3, t4⟩ := zi4 hl hK h
  refine ⟨t.size, by unfold z38; rw [t1, z0m], fun h => zeb (N := 2000) t2.2.1 t3 h, fun h => ?_⟩
  refine Nat.not_lt.1 fun hlt => ?_
  have g1 := zch t2 (by omega)
  rw [t3] at g1
  have g2 : (10 : Int) ^ 2000 <= 10 ^ (t.size - 1) := z7c (by omega) (by omega)
  have g3 := z7r 2000
  have g4 : (n : Int) < ((10 ^ 2000 : Nat) : Int) := Int.ofNat_lt.2 h
  rw [g3] at g4
  exact absurd (Int.lt_of_lt_of_le g4 (Int.le_trans g2 g1)) (Int.lt_irrefl _)
theorem zmz {a : Q} {x : Rat} {N : Nat} (ha : QV a x) (dx : Dl x N) (hN : N <= 900000) (hK : 2000000000 < K) : (Dl x 2000 -> z6m K a = some 0) /\ (¬ Dl x 2000 -> z6m K a = some 2) := by
  have la := ha.lens dx
  obtain ⟨k, k1, k2⟩ := zft (K := K) (l := a.num) (by omega) hK ha.2.1
  obtain ⟨m, m1, m2⟩ : ∃ m : Nat, z38 K a.den = some (m : Int) /\ (m <= 2000 ↔ x.den < 10 ^ 2000) := by
    rcases ha.2.2 with h | ⟨h, h2⟩
    . exact zft (by omega) hK h
    . refine ⟨1, ?_, ?_⟩
      . rw [h]; rfl
      . rw [h2]; exact ⟨fun _ => zec 2000 (by omega), fun _ => by decide⟩
  unfold z6m
  rw [k1, m1]
  by_cases c1 : k <= 2000
  . by_cases c2 : m <= 2000
    . have hd : Dl x 2000 := ⟨k2.1 c1, m2.1 c2⟩
      refine ⟨fun _ => ?_, fun h => absurd hd h⟩
      have e1 : decide ((k : Int) > 2000) = false := decide_eq_false (by omega)
      have e2 : decide ((m : Int) > 2000) = false := decide_eq_false (by omega)
      rw [z0m, e1]
      simp only [Bool.false_eq_true, if_false, z0m, e2, tu1a]
    . refine ⟨fun h => absurd (m2.2 h.2) c2, fun _ => ?_⟩
      have e1 : decide ((k : Int) > 2000) = false := decide_eq_false (by omega)
      have e2 : decide ((m : Int) > 2000) = true := decide_eq_true (by omega)
      rw [z0m, e1]
      simp only [Bool.false_eq_true, if_false, z0m, e2, tu1a, if_true]
  . refine ⟨fun h => absurd (k2.2 h.1) c1, fun _ => ?_⟩
    have e1 : decide ((k : Int) > 2000) = true := decide_eq_true (by omega)
    rw [z0m, e1]
    simp only [z0m, tu1a, if_true]
theorem zd9 {neg : Bool} {n d : zAd} {N D : Nat} (hD : D ≠ 0) (cn : CanT n) (cd : CanT d) (hn : numT n = N) (hd : numT d = D) (ln : n.size <= 400000) (ld : d.size <= 400000) (hK : 2000000000 < K) :
    ∃ s, z7o K neg n d = some s /\ RTx s (mkRat (sgn neg N) D) := by
  unfold z7o
  by_cases h0 : N = 0
  . subst h0
    have : n = ⟨#[48]⟩ := (zd8 cn).1 (by omega)
    subst this
    have e : mkRat (sgn neg 0) D = 0 := by
      have : sgn neg 0 = 0 := by cases neg <;> rfl
      rw [this, Rat.zero_mkRat]
    refine ⟨⟨#[48]⟩, by rw [zbo]; rfl, ?_⟩
    rw [e]
    exact zln z9u z98 z67 z8e rfl
  . have e0 : sEq n ⟨#[48]⟩ = false := znu (fun e => by rw [e, z67] at hn; omega)
    obtain ⟨g, g1, g2, g3⟩ := zkt (K := K) (x := n) (y := d) ln ld hK cn cd hn hd
    have gp : 0 < Nat.gcd N D := Nat.gcd_pos_of_pos_left D (by omega)
    have gl := z3z cn g2 (by rw [g3, hn]; have := Nat.gcd_le_left (m := N) D (by omega); omega)
    obtain ⟨q1, r1, a1, a2, a3, a4, a5⟩ := zfn (K := K) (a := n) (b := g) ln (by omega) hK cn g2 (by omega)
    obtain ⟨q2, r2, b1, b2, b3, b4, b5⟩ := zfn (K := K) (a := d) (b := g) ld (by omega) hK cd g2 (by omega)
    rw [hn, g3] at a4
    rw [hd, g3] at b4
    have m1 := zk8 neg N D hD
    have m2 := zk9 neg N D hD
    have m3 := zlm neg N D hD h0
    have f1 : numT q1 = ((mkRat (sgn neg N) D).num.natAbs : Nat) := by rw [m1, a4]; simp
    have f2 : numT q2 = ((mkRat (sgn neg N) D).den : Nat) := by rw [m2, b4]; simp
    generalize mkRat (sgn neg N) D = x at *
    rw [e0]
    simp only [Bool.false_eq_true, if_false]
    rw [g1, z0m, a1, z0m, b1, z0m]
    have hm : sEq q2 ⟨#[49]⟩ = decide (x.den = 1) := by
      rw [zal]
      congr 1
      rw [zim b2, f2, eq_iff_iff]; omega
    have l1 := z3z cn a2 (by rw [a4, hn]; exact Int.ediv_le_self _ (by omega))
    have l2 := z3z cd b2 (by rw [b4, hd]; exact Int.ediv_le_self _ (by omega))
    have e45 : ((⟨#[45]⟩ : zAd)).size = 1 := rfl
    have e47 : ((⟨#[47]⟩ : zAd)).size = 1 := rfl
    have b45 : z05 (⟨#[45]⟩ : zAd) = [45] := rfl
    have b47 : z05 (⟨#[47]⟩ : zAd) = [47] := rfl
    obtain ⟨m, k1, k2, k3⟩ : ∃ m, (if neg = true then (if ((⟨#[45]⟩ : zAd)).size + (q1).size <= 4611686018427387904 then some ((⟨#[45]⟩ : zAd) ++ q1) else none) else some q1) = some m /\ z05 m = (if decide (x.num < 0) = true then [45] else []) ++ z05 q1 /\ m.size <= q1.size + 1 := by
      rw [m3]
      cases neg with
      | true =>
        refine ⟨(⟨#[45]⟩ : zAd) ++ q1, ?_, ?_, ?_⟩
        . rw [if_pos rfl, if_pos (by omega)]
        . rw [z0q, b45]; rfl
        . rw [<- z01, z0q, b45, List.length_append, z01]; simp; omega
      | false => exact ⟨q1, rfl, rfl, by omega⟩
    dsimp only
    rw [k1, z0m, tu1a, hm]
    by_cases c : x.den = 1
    . refine ⟨m, by rw [decide_eq_true c]; rfl, zln a2 b2 f1 f2 ?_⟩
      have hdd : decide (x.den ≠ 1) = false := decide_eq_false (fun h => h c)
      rw [k2, hdd]; simp
    . have hsm : (m ++ (⟨#[47]⟩ : zAd)).size = m.size + 1 := by rw [<- z01, z0q, b47, List.length_append, z01]; simp
      refine ⟨(m ++ (⟨#[47]⟩ : zAd)) ++ q2, ?_, zln a2 b2 f1 f2 ?_⟩
      . rw [decide_eq_false c]
        simp only [Bool.false_eq_true, if_false]
        rw [if_pos (by omega), if_pos (by omega)]
      . have hdd : decide (x.den ≠ 1) = true := decide_eq_true c
        rw [z0q, z0q, k2, b47, hdd]; simp
theorem zaw {a : zAd} {x : Rat} {N : Nat} (h : RTx a x) (dx : Dl x N) (hN : N <= 100000) (hK : 2000000000 < K) : ∃ n d, z66 K a = some (decide (x.num < 0), n, d) /\ CanT n /\ CanT d /\ numT n = (x.num.natAbs : Nat) /\ numT d = (x.den : Nat) /\ n.size <= N + 1 /\ d.size <= N + 1 := by
  have hs := h.size dx
  have h0 := h.pos
  obtain ⟨n, d, h1, h2, h3, h4, h5⟩ := h
  have hp := zkd (K := K) (by omega) h0 hK h5
  have l1 := z9w h1 h3 dx.1
  have l2 := z9w h2 h4 dx.2
  by_cases c : x.den ≠ 1
  . rw [decide_eq_true c] at hp
    exact ⟨n, d, hp, h1, h2, h3, h4, l1, l2⟩
  . rw [decide_eq_false c] at hp
    have e : x.den = 1 := by omega
    exact ⟨n, ⟨#[49]⟩, hp, h1, z98, h3, by rw [e]; rfl, l1, by show 1 <= N + 1; omega⟩
theorem zn0 {a b : zAd} {x y : Rat} {N : Nat} (ha : RTx a x) (hb : RTx b y) (dx : Dl x N) (dy : Dl y N) (hN : N <= 100000) (hK : 2000000000 < K) : ∃ c, z8b K a b = some c /\ RTx c (x + y) := by
  obtain ⟨n, d, p1, p2, p3, p4, p5, p6, p7⟩ := zaw (K := K) ha dx hN hK
  obtain ⟨m, e, q1, q2, q3, q4, q5, q6, q7⟩ := zaw (K := K) hb dy hN hK
  obtain ⟨X, X1, X2, X3⟩ := ze6 (K := K) (a := n) (b := e) (by omega) (by omega) hK p2.2.1 q3.2.1
  obtain ⟨Y, Y1, Y2, Y3⟩ := ze6 (K := K) (a := m) (b := d) (by omega) (by omega) hK q2.2.1 p3.2.1
  obtain ⟨D, D1, D2, D3⟩ := ze6 (K := K) (a := d) (b := e) (by omega) (by omega) hK p3.2.1 q3.2.1
  rw [p4, q5, <- Int.natCast_mul] at X3
  rw [q4, p5, <- Int.natCast_mul] at Y3
  rw [p5, q5, <- Int.natCast_mul] at D3
  have hD : x.den * y.den ≠ 0 := Nat.mul_ne_zero x.den_nz y.den_nz
  have lX := z9w X2 X3 (z48 dx.1 dy.2)
  have lY := z9w Y2 Y3 (z48 dy.1 dx.2)
  have lD := z9w D2 D3 (z48 dx.2 dy.2)
  unfold z8b
  rw [p1, z0m, q1, z0m]
  dsimp only
  rw [X1, z0m, Y1, z0m, D1, z0m, zil]
  generalize x.num.natAbs * y.den = u at X3 ⊢
  generalize y.num.natAbs * x.den = v at Y3 ⊢
  generalize decide (x.num < 0) = p
  generalize decide (y.num < 0) = q
  by_cases hs : p = q
  . obtain ⟨Z, Z1, Z2, Z3⟩ := zml (K := K) (a := X) (b := Y) (by omega) (by omega) (by have := X2.1; omega) (by omega) X2.2.1 Y2.2.1
    rw [X3, Y3, <- Int.natCast_add] at Z3
    have lZ : Z.size <= 400000 := by
      refine Nat.not_lt.1 fun hlt => ?_
      have g1 := zch Z2 (by omega)
      have g2 := zbm X2.2.1
      have g3 := zbm Y2.2.1
      have g4 : (10 : Int) ^ X.size <= 10 ^ (Z.size - 2) := z7c (by omega) (by omega)
      have g5 : (10 : Int) ^ Y.size <= 10 ^ (Z.size - 2) := z7c (by omega) (by omega)
      have g6 : (10 : Int) ^ (Z.size - 1) = 10 ^ (Z.size - 2) * 10 := by rw [<- Int.pow_succ]; congr 1; omega
      rw [X3] at g2
      rw [Y3] at g3
      have g7 : (0 : Int) < 10 ^ (Z.size - 2) := Int.pow_pos (by omega)
      generalize (10 : Int) ^ (Z.size - 2) = P at *
      omega
    obtain ⟨s, s1, s2⟩ := zd9 (K := K) (neg := p) (n := Z) (d := D) hD Z2 D2 Z3 D3 lZ (by omega) hK
    refine ⟨s, ?_, by rw [<- hs, <- zkv]; exact s2⟩
    rw [if_pos (by simpa using hs), Z1, z0m, s1, z0m]
  . have hc := zkq (K := K) X2 Y2
    rw [if_neg (by simpa using hs), hc, z0m, X3, Y3]
    by_cases hle : v <= u
    . obtain ⟨Z, Z1, Z2, Z3⟩ := zi7 (K := K) (a := X) (b := Y) (by omega) (z3z X2 Y2 (by omega)) (by have := X2.1; omega) (by omega) X2.2.1 Y2.2.1 (by omega)
      rw [X3, Y3, <- Int.natCast_sub hle] at Z3
      have lZ := z3z X2 Z2 (by omega)
      obtain ⟨s, s1, s2⟩ := zd9 (K := K) (neg := p) (n := Z) (d := D) hD Z2 D2 Z3 D3 (by omega) (by omega) hK
      refine ⟨s, ?_, by rw [<- zfs _ _ hs hle]; exact s2⟩
      have e : decide ((if ((u : Nat) : Int) < (v : Nat) then (-1 : Int) else if ((u : Nat) : Int) = (v : Nat) then 0 else 1) < 0) = false := by
        rw [if_neg (by omega)]; split <;> rfl
      rw [e]
      simp only [Bool.false_eq_true, if_false, z0m, tu3a, Z1, s1]
    . obtain ⟨Z, Z1, Z2, Z3⟩ := zi7 (K := K) (a := Y) (b := X) (by omega) (z3z Y2 X2 (by omega)) (by have := Y2.1; omega) (by omega) Y2.2.1 X2.2.1 (by omega)
      rw [X3, Y3, <- Int.natCast_sub (show u <= v by omega)] at Z3
      have lZ := z3z Y2 Z2 (by omega)
      obtain ⟨s, s1, s2⟩ := zd9 (K := K) (neg := q) (n := Z) (d := D) hD Z2 D2 Z3 D3 (by omega) (by omega) hK
      refine ⟨s, ?_, by rw [Int.add_comm, <- zfs _ _ (fun e => hs e.symm) (by omega)]; exact s2⟩
      have e : decide ((if ((u : Nat) : Int) < (v : Nat) then (-1 : Int) else if ((u : Nat) : Int) = (v : Nat) then 0 else 1) < 0) = true := by
        rw [if_pos (by omega)]; rfl
      rw [e]
      simp only [if_true, z0m, tu3a, Z1, s1]
theorem zn1 {a b : zAd} {x y : Rat} {N : Nat} (ha : RTx a x) (hb : RTx b y) (dx : Dl x N) (dy : Dl y N) (hN : N <= 100000) (hK : 2000000000 < K) : ∃ c, z8c K a b = some c /\ RTx c (x * y) := by
  obtain ⟨n, d, p1, p2, p3, p4, p5, p6, p7⟩ := zaw (K := K) ha dx hN hK
  obtain ⟨m, e, q1, q2, q3, q4, q5, q6, q7⟩ := zaw (K := K) hb dy hN hK
  obtain ⟨X, X1, X2, X3⟩ := ze6 (K := K) (a := n) (b := m) (by omega) (by omega) hK p2.2.1 q2.2.1
  obtain ⟨D, D1, D2, D3⟩ := ze6 (K := K) (a := d) (b := e) (by omega) (by omega) hK p3.2.1 q3.2.1
  rw [p4, q4, <- Int.natCast_mul] at X3
  rw [p5, q5, <- Int.natCast_mul] at D3
  have hD : x.den * y.den ≠ 0 := Nat.mul_ne_zero x.den_nz y.den_nz
  have lX := z9w X2 X3 (z48 dx.1 dy.1)
  have lD := z9w D2 D3 (z48 dx.2 dy.2)
  obtain ⟨s, s1, s2⟩ := zd9 (K := K) (neg := !(decide (x.num < 0) == decide (y.num < 0))) (n := X) (d := D) hD X2 D2 X3 D3 (by omega) (by omega) hK
  refine ⟨s, ?_, by rw [zih]; exact s2⟩
  unfold z8c
  rw [p1, z0m, q1, z0m]
  dsimp only
  rw [X1, z0m, D1, z0m, s1, z0m]
end Go.Am.Tryz
/- Plain law: errors of lists; operations on two texts. -/
namespace Go.Am.Tryz
open Go Go.Am Go.Proofs
variable {K : Nat}
noncomputable def ratE (s : zAd) : Int := @dite Int (∃ e, ∃ neg n many d, Sp s neg n many d /\ ratS neg n many d = e) (Classical.propDecidable _) (fun h => h.choose) fun _ => 0
theorem zio {s n d : zAd} {neg many : Bool} (h : Sp s neg n many d) : ratE s = ratS neg n many d := by
  have hex : ∃ e, ∃ neg n many d, Sp s neg n many d /\ ratS neg n many d = e := ⟨_, _, _, _, _, h, rfl⟩
  unfold ratE
  rw [dif_pos hex]
  obtain ⟨neg', n', many', d', h1, h2⟩ := hex.choose_spec
  rw [<- h2]
  obtain ⟨rfl, rfl, rfl, h3⟩ := h.uniq h1
  cases many with
  | true => rw [h3 rfl]
  | false => unfold ratS; simp
theorem zga {s : zAd} (hs : s.size <= 1048576) (hK : 2000000000 < K) : z54 K s = some (ratE s) := by
  obtain ⟨s1, neg, n, d, many, _, _, h, _⟩ := zbp K hs
  rw [zio h]; exact zka hs hK h
theorem zkf {s : zAd} (hs : s.size <= 1048576) (hK : 2000000000 < K) : z5a K s = some (ratE s) := by
  obtain ⟨s1, neg, n, d, many, _, _, h, _⟩ := zbp K hs
  rw [zio h]; exact zkc hs hK h
theorem zkg {s : zAd} (hs : s.size <= 1048576) (h : ratE s = 0) : ∃ x, RTx s x /\ Dl x 2000 := by
  obtain ⟨s1, neg, n, d, many, _, _, hp, _⟩ := zbp 0 hs
  rw [zio hp] at h
  exact zom hp h
noncomputable def z7s : List zAd -> Int
  | [] => 0
  | s :: l => if ratE s ≠ 0 then ratE s else z7s l
theorem zck : ∀ {l : List zAd}, z7s l = 0 -> ∀ s ∈ l, ratE s = 0
  | [], _, s, hs => by simp at hs
  | t :: l, h, s, hs => by
    rw [z7s] at h
    by_cases c : ratE t = 0
    . rw [if_neg (by simpa using c)] at h
      rcases List.mem_cons.1 hs with rfl | hs
      . exact c
      . exact zck h s hs
    . rw [if_pos c] at h; exact absurd h c
theorem zcl {l : List zAd} {i : Nat} (h : i < l.length) : z7s (l.drop i) = if ratE l[i] ≠ 0 then ratE l[i] else z7s (l.drop (i + 1)) := by
  rw [List.drop_eq_getElem_cons h, z7s]
theorem zgb {l : List zAd} (hl : l.length <= 1048576) (hs : ∀ s ∈ l, s.size <= 1048576) (hK : 2000000000 < K) : z4u K l = some (z7s l) := by
  have key : ∃ r : Int ⊕ Unit, z13 K l K 0 = some r /\ ((r = .inr () /\ z7s l = 0) \/ r = .inl (z7s l)) := by
    refine zai (fun k (s : Int) => z13 K l k s) (fun s => ∃ i : Nat, s = i /\ i <= l.length /\ z7s l = z7s (l.drop i)) (fun s => (l.length - s : Int).toNat) _ ?_ (0 : Int) (by omega) ⟨0, rfl, by omega, by simp⟩
    rintro k _ ⟨i, rfl, h0, h1⟩
    by_cases hi : i < l.length
    . have hx : idx l (i : Int) = some l[i] := z5v (zAh hi)
      have hc := zga (K := K) (s := l[i]) (hs _ (List.getElem_mem hi)) hK
      rw [zcl hi] at h1
      by_cases c : ratE l[i] = 0
      . right
        rw [if_neg (by simpa using c)] at h1
        refine ⟨(i : Int) + 1, ?_, by omega, i + 1, rfl, by omega, h1⟩
        rw [z13, if_pos (decide_eq_true (by omega)), hx, z0m, hc, z0m, if_neg (by simpa using c), k64 (by omega) (by omega)]
      . left
        rw [if_pos c] at h1
        refine ⟨.inl (ratE l[i]), ?_, .inr (by rw [h1])⟩
        rw [z13, if_pos (decide_eq_true (by omega)), hx, z0m, hc, z0m, if_pos (by simpa using c)]
    . left
      have : i = l.length := by omega
      subst this
      rw [List.drop_eq_nil_of_le (Nat.le_refl _)] at h1
      exact ⟨.inr (), by rw [z13, if_neg (by simp)], .inl ⟨rfl, h1⟩⟩
  obtain ⟨r, h1, h2⟩ := key
  unfold z4u
  rw [h1]
  rcases h2 with ⟨rfl, h2⟩ | rfl
  . rw [zjs, tu0a, h2]
  . rw [zhy, tu1a]
theorem zkh {l : List zAd} (hl : l.length <= 1048576) (hs : ∀ s ∈ l, s.size <= 1048576) (hK : 2000000000 < K) : z5s K l = some (z7s l) := by
  have key : ∃ r : Int ⊕ Unit, z1f K l K 0 = some r /\ ((r = .inr () /\ z7s l = 0) \/ r = .inl (z7s l)) := by
    refine zai (fun k (s : Int) => z1f K l k s) (fun s => ∃ i : Nat, s = i /\ i <= l.length /\ z7s l = z7s (l.drop i)) (fun s => (l.length - s : Int).toNat) _ ?_ (0 : Int) (by omega) ⟨0, rfl, by omega, by simp⟩
    rintro k _ ⟨i, rfl, h0, h1⟩
    by_cases hi : i < l.length
    . have hx : idx l (i : Int) = some l[i] := z5v (zAh hi)
      have hc := zkf (K := K) (s := l[i]) (hs _ (List.getElem_mem hi)) hK
      rw [zcl hi] at h1
      by_cases c : ratE l[i] = 0
      . right
        rw [if_neg (by simpa using c)] at h1
        refine ⟨(i : Int) + 1, ?_, by omega, i + 1, rfl, by omega, h1⟩
        rw [z1f, if_pos (decide_eq_true (by omega)), hx, z0m, hc, z0m, if_neg (by simpa using c), k64 (by omega) (by omega)]
      . left
        rw [if_pos c] at h1
        refine ⟨.inl (ratE l[i]), ?_, .inr (by rw [h1])⟩
        rw [z1f, if_pos (decide_eq_true (by omega)), hx, z0m, hc, z0m, if_pos (by simpa using c)]
    . left
      have : i = l.length := by omega
      subst this
      rw [List.drop_eq_nil_of_le (Nat.le_refl _)] at h1
      exact ⟨.inr (), by rw [z1f, if_neg (by simp)], .inl ⟨rfl, h1⟩⟩
  obtain ⟨r, h1, h2⟩ := key
  unfold z5s
  rw [h1]
  rcases h2 with ⟨rfl, h2⟩ | rfl
  . rw [zjs, tu0a, h2]
  . rw [zhy, tu1a]
end Go.Am.Tryz
/- Plain law: whole numbers and their texts. -/
namespace Go.Am.Tryz
open Go Go.Am Go.Proofs
variable {K : Nat}
end Go.Am.Tryz
/- Plain law: comparisons of rational numbers. -/
namespace Go.Am.Tryz
open Go Go.Am Go.Proofs
variable {K : Nat}
def RTs (l : List zAd) (f : Nat -> Rat) : Prop := ∀ i (h : i < l.length), RTx l[i] (f i)
theorem zny {l : List zAd} (hs : ∀ s ∈ l, s.size <= 1048576) (h0 : z7s l = 0) : ∃ f, RTs l f /\ ∀ i, i < l.length -> Dl (f i) 2000 := by
  classical
  have hz := zck h0
  have hex : ∀ i (h : i < l.length), ∃ x, RTx l[i] x /\ Dl x 2000 := fun i h => zkg (hs _ (List.getElem_mem h)) (hz _ (List.getElem_mem h))
  refine ⟨fun i => if h : i < l.length then (hex i h).choose else 0, fun i h => ?_, fun i h => ?_⟩
  . dsimp only; rw [dif_pos h]; exact (hex i h).choose_spec.1
  . dsimp only; rw [dif_pos h]; exact (hex i h).choose_spec.2
def sumF (f : Nat -> Rat) : Nat -> Rat
  | 0 => 0
  | i + 1 => sumF f i + f i
theorem zfu {f : Nat -> Rat} {M : Nat} : ∀ {n : Nat}, (∀ i, i < n -> Dl (f i) M) -> Dl (sumF f n) ((M + 1) * n + 1)
  | 0, _ => Dl.zero.mono (by omega)
  | n + 1, h => by
    have h1 := zfu (n := n) (fun i hi => h i (by omega))
    have h2 := h1.add (h n (by omega))
    exact h2.mono (by rw [Nat.mul_add]; omega)
end Go.Am.Tryz
/- Plain law: vectors and matrices of rational texts: their checks, their numbers, products and sums. -/
namespace Go.Am.Tryz
open Go Go.Am Go.Proofs
variable {K : Nat}
def resF {R : Type} : Option R -> R ⊕ Unit
  | some r => .inl r
  | none => .inr ()
theorem zev {α R : Type} {l : List α} {L : Nat -> Int -> Option (R ⊕ Unit)} (p : α -> Option R) (h0 : ∀ k, L (k + 1) (l.length : Int) = some (.inr ()))
    (h1 : ∀ k i (hi : i < l.length), L (k + 1) (i : Int) = match p l[i] with | some r => some (.inl r) | none => L k ((i + 1 : Nat) : Int)) (hK : l.length < K) :
    L K 0 = some (resF (l.findSome? p)) := by
  have key : ∀ n i k, i + n = l.length -> n < k -> L k (i : Int) = some (resF ((l.drop i).findSome? p)) := by
    intro n
    induction n with
    | zero =>
      intro i k hi hk
      obtain ⟨k, rfl⟩ : ∃ m, k = m + 1 := ⟨k - 1, by omega⟩
      obtain rfl : i = l.length := by omega
      rw [h0, List.drop_length]
      rfl
    | succ n ih =>
      intro i k hi hk
      obtain ⟨k, rfl⟩ : ∃ m, k = m + 1 := ⟨k - 1, by omega⟩
      rw [h1 k i (by omega), List.drop_eq_getElem_cons (by omega), List.findSome?_cons]
      cases hp : p l[i] with
      | some r => rfl
      | none => exact ih (i + 1) k (by omega) (by omega)
  have := key l.length 0 K (by omega) hK
  simpa using this
def Fam {α : Type} (P : Nat -> α -> Prop) (n : Nat) (l : List α) : Prop := l.length = n /\ ∀ j (h : j < l.length), P j l[j]
theorem Fam.nil {α : Type} {P : Nat -> α -> Prop} : Fam P 0 [] := ⟨rfl, fun j h => by simp at h⟩
theorem Fam.snoc {α : Type} {P : Nat -> α -> Prop} {n : Nat} {l : List α} {y : α} (h : Fam P n l) (hy : P n y) : Fam P (n + 1) (l ++ [y]) := by
  refine ⟨by simp [h.1], fun j hj => ?_⟩
  by_cases c : j < l.length
  . rw [List.getElem_append_left c]; exact h.2 j c
  . have : j = l.length := by simp at hj; omega
    subst this
    rw [List.getElem_append_right (by omega)]
    simp only [Nat.sub_self, List.getElem_cons_zero]
    rw [h.1]; exact hy
theorem Fam.idx {α : Type} {P : Nat -> α -> Prop} {n j : Nat} {l : List α} (h : Fam P n l) (hj : j < n) : ∃ y, idx l (j : Int) = some y /\ P j y := by
  have hl : j < l.length := by rw [h.1]; exact hj
  exact ⟨l[j], z5v (zAh hl), h.2 j hl⟩
theorem Fam.mono {α : Type} {P Q : Nat -> α -> Prop} {n : Nat} {l : List α} (h : Fam P n l) (hPQ : ∀ j y, j < n -> P j y -> Q j y) : Fam Q n l :=
  ⟨h.1, fun j hj => hPQ j _ (by rw [<- h.1]; exact hj) (h.2 j hj)⟩
theorem Fam.uniq {α : Type} {P : Nat -> α -> Prop} {n : Nat} {l m : List α} (hu : ∀ j x y, P j x -> P j y -> x = y) (h : Fam P n l) (k : Fam P n m) : l = m :=
  List.ext_getElem (by rw [h.1, k.1]) fun j h1 h2 => hu j _ _ (h.2 j h1) (k.2 j h2)
theorem zki {β R : Type} (n : Nat) (L : Nat -> List β -> Int -> Option R) (P : Nat -> β -> Prop) (Q : R -> Prop) (hn : n < K)
    (hend : ∀ k acc, Fam P n acc -> ∃ r, L (k + 1) acc (n : Int) = some r /\ Q r)
    (hstep : ∀ k i acc, i < n -> Fam P i acc -> (∃ r, L (k + 1) acc (i : Int) = some r /\ Q r) \/ ∃ y, P i y /\ L (k + 1) acc (i : Int) = L k (acc ++ [y]) ((i + 1 : Nat) : Int)) :
    ∃ r, L K [] 0 = some r /\ Q r := by
  have key : ∀ m i k acc, i + m = n -> m < k -> Fam P i acc -> ∃ r, L k acc (i : Int) = some r /\ Q r := by
    intro m
    induction m with
    | zero =>
      intro i k acc hi hk ha
      obtain ⟨k, rfl⟩ : ∃ m, k = m + 1 := ⟨k - 1, by omega⟩
      obtain rfl : i = n := by omega
      exact hend k acc ha
    | succ m ih =>
      intro i k acc hi hk ha
      obtain ⟨k, rfl⟩ : ∃ m, k = m + 1 := ⟨k - 1, by omega⟩
      rcases hstep k i acc (by omega) ha with h | ⟨y, hy, h⟩
      . exact h
      . rw [h]; exact ih (i + 1) k _ (by omega) (by omega) (ha.snoc hy)
  exact key n 0 K [] (by omega) hn .nil
theorem k1 {i : Nat} (h : i <= 1048576) : z02 .i64 ((i : Int) + 1) = ((i + 1 : Nat) : Int) := by rw [k64 (by omega) (by omega)]; omega
theorem lt_d {i n : Nat} (h : i < n) : decide ((i : Int) < (n : Int)) = true := decide_eq_true (by omega)
noncomputable def vecE (l : List zAd) : Int := if l.length > 40 then 2 else z7s l
theorem zn2 {n : Nat} {α : Type} (a b : α) : (if decide ((n : Int) > 40) = true then a else b) = if n > 40 then a else b := by
  by_cases h : n > 40
  . rw [if_pos h, if_pos (decide_eq_true (by omega))]
  . rw [if_neg h, if_neg (by simp; omega)]
theorem z5c {l : List zAd} (hl : l.length <= 1048576) (hs : ∀ s ∈ l, s.size <= 1048576) (hK : 2000000000 < K) : z14 K l = some (vecE l) := by
  unfold z14 vecE
  rw [zn2, zgb hl hs hK, z0m]
  split <;> rfl
theorem zfv {l : List zAd} (hl : l.length <= 1048576) (hs : ∀ s ∈ l, s.size <= 1048576) (hK : 2000000000 < K) : z5b K l = some (vecE l) := by
  unfold z5b vecE
  rw [zn2, zkh hl hs hK, z0m]
  split <;> rfl
theorem zkj {l : List zAd} (h : vecE l = 0) : l.length <= 40 /\ z7s l = 0 := by
  unfold vecE at h
  split at h
  . cases h
  . exact ⟨by omega, h⟩
def MOk (m : List (List zAd)) : Prop := m.length <= 1048576 /\ ∀ row ∈ m, row.length <= 1048576 /\ ∀ s ∈ row, s.size <= 1048576
theorem ne_len {a b : Nat} : (((a : Int) != (b : Int)) = true) ↔ a ≠ b := by rw [bne_iff_ne]; omega
theorem zlo {l : List Int} (hl : l.length <= 1048576) (hK : 2000000000 < K) : z6g K l = some ((l.findSome? fun x => if x ≠ 0 then some x else none).getD 0) := by
  unfold z6g
  rw [zev (K := K) (l := l) (L := z3d K l) (fun x => if x ≠ 0 then some x else none) (fun k => by rw [z3d, if_neg (by simp)]) (fun k i hi => ?_) (by omega)]
  . cases List.findSome? (fun x => if x ≠ 0 then some x else none) l <;> rfl
  . have hx : idx l (i : Int) = some l[i] := z5v (zAh hi)
    rw [z3d, if_pos (lt_d hi), hx, z0m, k1 (by omega)]
    by_cases c : l[i] ≠ 0
    . rw [if_pos (by simpa using c), if_pos c]
    . rw [if_neg (by simpa using c), if_neg c]
theorem z9x {a b : Int} (hK : 2000000000 < K) : z6g K [a, b] = some (if a ≠ 0 then a else b) := by
  rw [zlo (by simp) hK]
  by_cases ha : a = 0 <;> by_cases hb : b = 0 <;> simp [ha, hb]
def zlx (n : Int) (m : List (List (List zAd))) : Bool := m.any fun x => decide ((x.length : Int) > n) || x.any fun v => decide ((v.length : Int) > n) || v.any fun r => decide ((r.size : Int) > 12)
theorem zip {α : Type} (l : List α) (p : α -> Bool) : l.any p = (l.findSome? fun x => if p x then some () else none).isSome := by
  induction l with
  | nil => rfl
  | cons x l ih =>
    rw [List.any_cons, List.findSome?_cons, ih]
    cases h : p x <;> simp
theorem zew {l : List zAd} {F : zAd -> Option Bool} {p : zAd -> Bool} (hl : l.length <= 1048576) (hK : 2000000000 < K) (hp : ∀ x ∈ l, F x = some (p x)) : z0k K l F = some (l.any p) := by
  have key : ∃ r : Int ⊕ Unit, z0a K l F K 0 = some r /\ ((r = .inr () /\ l.any p = false) \/ ∃ i : Int, 0 <= i /\ r = .inl i /\ l.any p = true) := by
    refine zai (fun k (s : Int) => z0a K l F k s) (fun s => ∃ i : Nat, s = i /\ i <= l.length /\ (l.take i).any p = false) (fun s => (l.length - s : Int).toNat) _ ?_ (0 : Int) (by omega) ⟨0, rfl, by omega, by simp⟩
    rintro k _ ⟨i, rfl, h0, h1⟩
    by_cases hi : i < l.length
    . have hx : idx l (i : Int) = some l[i] := z5v (zAh hi)
      have hpi := hp l[i] (List.getElem_mem hi)
      have hsn : l.take (i + 1) = l.take i ++ [l[i]] := by rw [List.take_add_one, zAh hi]; rfl
      cases hc : p l[i] with
      | true =>
        left
        refine ⟨.inl i, ?_, .inr ⟨i, by omega, rfl, List.any_eq_true.2 ⟨l[i], List.getElem_mem hi, hc⟩⟩⟩
        rw [z0a, if_pos (decide_eq_true (by omega)), hx, z0m, hpi, z0m, hc, if_pos rfl]
      | false =>
        right
        refine ⟨(i : Int) + 1, ?_, by omega, i + 1, rfl, by omega, by rw [hsn, List.any_append, h1]; simp [hc]⟩
        rw [z0a, if_pos (decide_eq_true (by omega)), hx, z0m, hpi, z0m, hc, if_neg (by simp), k64 (by omega) (by omega)]
    . left
      have : i = l.length := by omega
      subst this
      rw [List.take_of_length_le (Nat.le_refl _)] at h1
      refine ⟨.inr (), ?_, .inl ⟨rfl, h1⟩⟩
      rw [z0a, if_neg (by simp)]
  obtain ⟨r, h1, h2⟩ := key
  unfold z0k z0p
  rw [h1]
  rcases h2 with ⟨rfl, h3⟩ | ⟨i, h4, rfl, h3⟩
  . rw [h3]; rfl
  . rw [h3, zhy, tu1a, z0m, decide_eq_true (by omega)]
theorem zn3 {n : Int} {m : List (List (List zAd))} (hm : m.length <= 1048576) (hr : ∀ x ∈ m, MOk x) (hK : 2000000000 < K) : z7b K n m = some (zlx n m) := by
  have hv : ∀ x ∈ m, z34 K n x K 0 = some (resF (x.findSome? (fun v => if (decide ((v.length : Int) > n) || v.any fun r => decide ((r.size : Int) > 12)) then some true else none))) := fun x hx => by
    obtain ⟨x1, x2⟩ := hr x hx
    refine zev (K := K) (l := x) (L := z34 K n x) (fun v => if (decide ((v.length : Int) > n) || v.any fun r => decide ((r.size : Int) > 12)) then some true else none) (fun k => by rw [z34, if_neg (by simp)]) (fun k i hi => ?_) (by omega)
    have hxi : idx x (i : Int) = some x[i] := z5v (zAh hi)
    obtain ⟨r1, r2⟩ := x2 x[i] (List.getElem_mem hi)
    rw [z34, if_pos (lt_d hi), hxi, z0m, k1 (by omega), zew (F := fun x => z6o K x) (p := fun r => decide ((r.size : Int) > 12)) r1 hK (fun r _ => rfl), z0m]
    cases c1 : decide ((x[i].length : Int) > n) <;> cases c2 : x[i].any (fun r => decide ((r.size : Int) > 12)) <;> simp [tu1a]
  unfold z7b zlx
  rw [zip]
  rw [zev (K := K) (l := m) (L := z3s K n m) (fun x => if (decide ((x.length : Int) > n) || x.any fun v => decide ((v.length : Int) > n) || v.any fun r => decide ((r.size : Int) > 12)) then some true else none) (fun k => by rw [z3s, if_neg (by simp)]) (fun k i hi => ?_) (by omega)]
  . have : ∀ l : List (List (List zAd)), ∀ q : List (List zAd) -> Bool, zb9 (some (resF (l.findSome? (fun x => if q x then some true else none)))) (tu1 fun a => some a) (tu0 (some false)) = some (l.findSome? fun x => if q x then some () else none).isSome := by
      intro l q
      induction l with
      | nil => rfl
      | cons x l ih =>
        rw [List.findSome?_cons, List.findSome?_cons]
        cases h : q x
        . simpa [h] using ih
        . rfl
    exact this m _
  . have hx : idx m (i : Int) = some m[i] := z5v (zAh hi)
    rw [z3s, if_pos (lt_d hi), hx, z0m, k1 (by omega), hv m[i] (List.getElem_mem hi)]
    cases c1 : decide ((m[i].length : Int) > n)
    . rw [if_neg (by simp)]
      rw [zip m[i]]
      generalize hq : (fun v : List zAd => (decide ((v.length : Int) > n) || v.any fun r => decide ((r.size : Int) > 12))) = q
      have : ∀ l : List (List zAd), (l.findSome? (fun v => if q v then some true else none)) = ((l.findSome? fun v => if q v then some () else none).map fun _ => true) := by
        intro l
        induction l with
        | nil => rfl
        | cons x l ih =>
          rw [List.findSome?_cons, List.findSome?_cons, ih]
          cases q x <;> rfl
      subst hq
      rw [this]
      cases List.findSome? _ m[i] <;> rfl
    . rw [if_pos rfl]; rfl
end Go.Am.Tryz
/- The closed matrix fact holds. -/
namespace Go.Am.Tryz
open Go Go.Am Go.Proofs
theorem zc2 : z4w 2000000001 = some true := by kernel_rfl
end Go.Am.Tryz
/- Plain law: rows and scalar products; MatrixDots answers true. -/
namespace Go.Am.Tryz
open Go Go.Am Go.Proofs
variable {K : Nat}
abbrev FT (f : Nat -> Rat) (n : Nat) (l : List zAd) : Prop := Fam (fun j s => RTx s (f j)) n l
abbrev FQ (f : Nat -> Rat) (n : Nat) (l : List Q) : Prop := Fam (fun j q => QV q (f j)) n l
theorem FT.uniq {f : Nat -> Rat} {n : Nat} {l m : List zAd} (h : FT f n l) (k : FT f n m) : l = m := Fam.uniq (fun _ _ _ h1 h2 => h1.inj h2) h k
theorem zn4 {f : Nat -> Rat} {n : Nat} {l : List zAd} (h : FT f n l) (hs : ∀ s ∈ l, s.size <= 1048576) (hn : n <= 1048576) (hK : 2000000000 < K) : ∃ q, z3o K l = some q /\ FQ f n q := by
  have hl := h.1
  obtain ⟨q, q1, q2⟩ := zki (K := K) n (z2p K l) (fun j q => QV q (f j)) (fun q => FQ f n q) (by omega)
    (fun k acc ha => ⟨acc, by rw [z2p, hl, if_neg (by simp)], ha⟩)
    (fun k i acc hi ha => by
      right
      have hx : idx l (i : Int) = some l[i] := z5v (zAh (by omega))
      obtain ⟨q, q1, q2⟩ := znx (K := K) (h.2 i (by omega)) (hs _ (List.getElem_mem (by omega))) hK
      have hal := ha.1
      exact ⟨q, q2, by rw [z2p, hl, if_pos (lt_d hi), hx, z0m, q1, z0m, if_pos (by simp; omega), k1 (by omega)]⟩)
  exact ⟨q, by unfold z3o; rw [q1]; rfl, q2⟩
theorem ziq {f g : Nat -> Rat} {n M : Nat} {a b : List Q} (ha : FQ f n a) (hb : Fam (fun j q => j < n -> QV q (g j)) b.length b) (hnb : n <= b.length) (hn : n <= 40) (hM : M <= 2001) (df : ∀ j, j < n -> Dl (f j) M) (dg : ∀ j, j < n -> Dl (g j) M) (hK : 2000000000 < K) :
    ∃ q, z2e K a b = some q /\ QV q (sumF (fun j => f j * g j) n) := by
  have hl := ha.1
  have hsd : ∀ m, m <= n -> Dl (sumF (fun j => f j * g j) m) 160121 := fun m hm => by
    have := zfu (f := fun j => f j * g j) (M := M + M) (n := m) (fun i hi => (df i (by omega)).mul (dg i (by omega)))
    refine this.mono ?_
    have h1 : (M + M + 1) * m <= 4003 * 40 := Nat.mul_le_mul (by omega) (by omega)
    omega
  have key : ∃ q : Q, z0z K a b K (Q.mk false ([] : List Int) ([] : List Int)) 0 = some q /\ QV q (sumF (fun j => f j * g j) n) := by
    refine zai (fun k (s : Q × Int) => z0z K a b k s.1 s.2) (fun s => ∃ i : Nat, s.2 = i /\ i <= n /\ QV s.1 (sumF (fun j => f j * g j) i)) (fun s => (n - s.2 : Int).toNat) _ ?_ ((⟨false, [], []⟩, 0) : Q × Int) (by dsimp only; omega) ⟨0, rfl, by omega, QV.zero⟩
    rintro k ⟨q, _⟩ ⟨i, rfl, h0, h1⟩
    dsimp only at h1 ⊢
    by_cases hi : i < n
    . right
      have hx : idx a (i : Int) = some a[i] := z5v (zAh (by omega))
      have hy : idx b (i : Int) = some b[i] := z5v (zAh (by omega))
      obtain ⟨p, p1, p2⟩ := zmx (K := K) (ha.2 i (by omega)) (hb.2 i (by omega) hi) (df i hi) (dg i hi) (by omega) hK
      obtain ⟨m, m1, m2⟩ := zmw (K := K) h1 p2 (hsd i (by omega)) (((df i hi).mul (dg i hi)).mono (by omega)) (by omega) hK
      refine ⟨(m, (i : Int) + 1), ?_, by dsimp only; omega, i + 1, rfl, by omega, m2⟩
      rw [z0z, hl, if_pos (lt_d hi), hx, z0m, hy, z0m, p1, z0m, m1, z0m, k64 (by omega) (by omega)]
    . left
      have : i = n := by omega
      subst this
      exact ⟨q, by rw [z0z, hl, if_neg (by simp)], h1⟩
  obtain ⟨q, q1, q2⟩ := key
  exact ⟨q, by unfold z2e; rw [q1]; rfl, q2⟩
theorem zn5 {f g : Nat -> Rat} {n : Nat} {a b : List zAd} (ha : FT f n a) (hb : FT g n b) (hn : n <= 40) (df : ∀ j, j < n -> Dl (f j) 13) (dg : ∀ j, j < n -> Dl (g j) 13) (hK : 2000000000 < K) :
    ∃ d, ze1 K a b = some d /\ RTx d (sumF (fun j => f j * g j) n) := by
  have hl := ha.1
  have hl2 := hb.1
  have hz : RTx ⟨#[48]⟩ 0 := zln z9u z98 z67 z8e rfl
  generalize hF : (fun j => f j * g j) = F
  have hFi : ∀ i, F i = f i * g i := fun i => by rw [<- hF]
  have key : ∃ t : zAd, z5u K a b K ⟨#[48]⟩ ((n : Int) - 1) = some t /\ RTx t (sumF F n) := by
    refine zai (fun k (s : zAd × Int) => z5u K a b k s.1 s.2) (fun s => ∃ j : Nat, s.2 = (j : Int) - 1 /\ j <= n /\ RTx s.1 (sumF F n - sumF F j) /\ Dl (sumF F n - sumF F j) (27 * (n - j) + 1)) (fun s => (s.2 + 1).toNat) _ ?_ ((⟨#[48]⟩, (n : Int) - 1) : zAd × Int) (by dsimp only; omega)
      ⟨n, rfl, Nat.le_refl _, by
        have : sumF F n - sumF F n = 0 := by grind
        rw [this]; exact hz, by
        have : sumF F n - sumF F n = 0 := by grind
        rw [this]; exact Dl.zero.mono (by omega)⟩
    rintro k ⟨t, _⟩ ⟨j, rfl, h0, h1, h2⟩
    dsimp only at h1 h2 ⊢
    by_cases hj : j = 0
    . subst hj
      left
      refine ⟨t, by rw [z5u, if_neg (by simp)], ?_⟩
      have : sumF F n - sumF F 0 = sumF F n := by show sumF F n - 0 = _; grind
      rw [this] at h1; exact h1
    . right
      obtain ⟨i, rfl⟩ : ∃ i, j = i + 1 := ⟨j - 1, by omega⟩
      have e1 : ((i + 1 : Nat) : Int) - 1 = i := by omega
      have hx : idx a (i : Int) = some a[i] := z5v (zAh (by omega))
      have hy : idx b (i : Int) = some b[i] := z5v (zAh (by omega))
      obtain ⟨p, p1, p2⟩ := zn1 (K := K) (ha.2 i (by omega)) (hb.2 i (by omega)) (df i (by omega)) (dg i (by omega)) (by omega) hK
      have dm := (df i (by omega)).mul (dg i (by omega))
      obtain ⟨c, c1, c2⟩ := zn0 (K := K) (N := 27 * (n - (i + 1)) + 27) p2 h1 (dm.mono (by omega)) (h2.mono (by omega)) (by omega) hK
      have ev : f i * g i + (sumF F n - sumF F (i + 1)) = sumF F n - sumF F i := by
        have : sumF F (i + 1) = sumF F i + F i := rfl
        have := hFi i
        grind
      have hd := dm.add h2
      rw [ev] at c2 hd
      refine ⟨(c, (i : Int) - 1), ?_, by dsimp only; omega, i, rfl, by omega, c2, hd.mono (by omega)⟩
      rw [e1, z5u, if_pos (decide_eq_true (by omega)), hx, z0m, hy, z0m, p1, z0m, c1, z0m, k64 (by omega) (by omega)]
  obtain ⟨t, t1, t2⟩ := key
  refine ⟨t, ?_, t2⟩
  unfold ze1
  rw [hl, k64 (by omega) (by omega), t1]
  rfl
theorem zn6 {l : List zAd} (hs : ∀ s ∈ l, s.size <= 1048576) (h : vecE l = 0) : ∃ f, FT f l.length l /\ l.length <= 40 /\ ∀ i, i < l.length -> Dl (f i) 2000 := by
  obtain ⟨h1, h2⟩ := zkj h
  obtain ⟨f, f1, f2⟩ := zny hs h2
  exact ⟨f, ⟨rfl, f1⟩, h1, f2⟩
theorem zir {f : Nat -> Rat} {n : Nat} {l : List zAd} (h : FT f n l) (hs : ∀ s ∈ l, s.size <= 12) : ∀ j, j < n -> Dl (f j) 13 := fun j hj => by
  have hl := h.1
  exact (h.2 j (by omega)).dl (hs _ (List.getElem_mem (by omega)))
theorem znz {f g : Nat -> Rat} {n : Nat} {a b : List zAd} (sa : ∀ s ∈ a, s.size <= 1048576) (sb : ∀ s ∈ b, s.size <= 1048576) (ea : vecE a = 0) (eb : vecE b = 0) (ha : FT f n a) (hb : FT g n b) (hn : n <= 40) (df : ∀ j, j < n -> Dl (f j) 2000) (dg : ∀ j, j < n -> Dl (g j) 2000) (hK : 2000000000 < K) :
    ∃ s e, z39 K a b = some (s, e) /\ (Dl (sumF (fun j => f j * g j) n) 2000 -> e = 0 /\ RTx s (sumF (fun j => f j * g j) n)) := by
  obtain ⟨x, x1, x2⟩ := zn4 (K := K) ha sa (by omega) hK
  obtain ⟨y, y1, y2⟩ := zn4 (K := K) hb sb (by omega) hK
  obtain ⟨q, q1, q2⟩ := ziq (K := K) (M := 2000) x2 ⟨rfl, fun j hj _ => y2.2 j hj⟩ (by rw [y2.1]; exact Nat.le_refl _) hn (by omega) df dg hK
  have hd : Dl (sumF (fun j => f j * g j) n) 160121 := by
    have := zfu (f := fun j => f j * g j) (M := 2000 + 2000) (n := n) (fun i hi => (df i hi).mul (dg i hi))
    exact this.mono (by omega)
  obtain ⟨f1, f2⟩ := zmz (K := K) q2 hd (by omega) hK
  have la := ha.1
  have lb := hb.1
  unfold z39
  rw [z5c (by omega) sa hK, ea, z0m, if_neg (by simp), z5c (by omega) sb hK, eb, z0m, if_neg (by simp), if_neg (by rw [la, lb]; simp), x1, z0m, y1, z0m, q1, z0m]
  by_cases c : Dl (sumF (fun j => f j * g j) n) 2000
  . obtain ⟨s, s1, s2⟩ := zmy (K := K) q2 c (by omega) hK
    exact ⟨s, 0, by rw [f1 c, z0m, if_neg (by simp), s1, z0m], fun _ => ⟨rfl, s2⟩⟩
  . exact ⟨⟨#[]⟩, 2, by rw [f2 c, z0m, if_pos (by simp)], fun h => absurd h c⟩
theorem zis {n : Int} {m : List (List (List zAd))} (h : zlx n m = false) : ∀ x ∈ m, (x.length : Int) <= n /\ ∀ v ∈ x, (v.length : Int) <= n /\ ∀ r ∈ v, r.size <= 12 := by
  intro x hx
  unfold zlx at h
  rw [List.any_eq_false] at h
  have h1 := h x hx
  simp only [Bool.not_eq_true, Bool.or_eq_false_iff, decide_eq_false_iff_not, List.any_eq_false, decide_eq_true_eq] at h1
  refine ⟨by omega, fun v hv => ?_⟩
  have h2 := h1.2 v hv
  exact ⟨by omega, fun r hr => by have := h2.2 r hr; omega⟩
theorem zc3 {a b : List zAd} (ha : a.length <= 1048576 /\ ∀ s ∈ a, s.size <= 1048576) (hb : b.length <= 1048576 /\ ∀ s ∈ b, s.size <= 1048576) : ∃ K, z4y K a b = some true := by
  obtain ⟨la, sa⟩ := ha
  obtain ⟨lb, sb⟩ := hb
  refine ⟨2000000001, ?_⟩
  have hK : 2000000000 < 2000000001 := by omega
  have hv : z7b 2000000001 40 [[a, b]] = some (zlx 40 [[a, b]]) := zn3 (by simp) (fun x hx => by
    simp at hx; subst hx
    refine ⟨by simp, fun row hr => ?_⟩
    simp at hr
    rcases hr with rfl | rfl
    . exact ⟨la, sa⟩
    . exact ⟨lb, sb⟩) hK
  unfold z4y
  rw [zc2, zfv la sa hK, zfv lb sb hK, hv]
  simp only [z0m, Bool.not_true, Bool.false_eq_true, if_false]
  by_cases ea : vecE a = 0
  . by_cases eb : vecE b = 0
    . obtain ⟨f, f1, f2, f3⟩ := zn6 sa ea
      obtain ⟨g, g1, g2, g3⟩ := zn6 sb eb
      by_cases hl : a.length = b.length
      . rw [<- hl] at g1 g3
        obtain ⟨s, e, d1, d2⟩ := znz (K := 2000000001) sa sb ea eb f1 g1 f2 f3 g3 hK
        rw [d1]
        have hne : ((a.length : Int) != (b.length : Int)) = false := by rw [hl]; simp
        cases hc : zlx 40 [[a, b]] with
        | true => simp [ea, eb, hne, z0m, tu1a, z9x hK]
        | false =>
          have hsm := zis hc [a, b] (by simp)
          have s1 := (hsm.2 a (by simp)).2
          have s2 := (hsm.2 b (by simp)).2
          have d13 := zir f1 s1
          have e13 := zir g1 s2
          have hd : Dl (sumF (fun j => f j * g j) a.length) 2000 := by
            have := zfu (f := fun j => f j * g j) (M := 13 + 13) (n := a.length) (fun i hi => (d13 i hi).mul (e13 i hi))
            exact this.mono (by omega)
          obtain ⟨rfl, d3⟩ := d2 hd
          obtain ⟨t, t1, t2⟩ := zn5 (K := 2000000001) f1 g1 f2 d13 e13 hK
          rw [t1, d3.inj t2]
          simp [ea, eb, hne, z0m, tu1a, zbo, z9x hK]
      . have hne : ((a.length : Int) != (b.length : Int)) = true := ne_len.2 hl
        unfold z39
        rw [z5c la sa hK, z5c lb sb hK]
        simp [ea, eb, hne, z0m, tu1a, zbo, z9x hK]
    . unfold z39
      rw [z5c la sa hK, z5c lb sb hK]
      simp [ea, eb, z0m, tu1a, zbo, z9x hK]
  . unfold z39
    rw [z5c la sa hK]
    simp [ea, z0m, tu1a, zbo, z9x hK]
end Go.Am.Tryz
/- From a statement's arguments, read as data, to typed data. -/
namespace Go.Am
open Go Go.Proofs.YtdogeclnbdldaaaGreatDoor
section
variable {H : Type} {P : Program} {G : GM} {n B : Nat} {t e : TypeId} {α β S : Type} {r : RT α} {s : RT β} {I : α -> Prop} {J : β -> Prop}
theorem zlp {H : Type} (d : DataW H) : 1 <= Rows.uptoBulk d := by
  cases d with
  | lit l => cases l <;> simp [Rows.uptoBulk]
  | _ => simp [Rows.uptoBulk]
theorem zit {H : Type} : ∀ (ds : List (DataW H)), ds.length <= Rows.uptoBulkAll ds
  | [] => Nat.zero_le _
  | d :: r => by
    have := zit r
    have := zlp d
    simp only [Rows.uptoBulkAll, List.length_cons]; omega
def Arg (H : Type) (P : Program) (G : GM) (n : Nat) (t : TypeId) (r : RT α) (B : Nat) (I : α -> Prop) : Prop := ∀ (cs : List Value) (d : DataW H), AData P G n t cs d -> Rows.uptoBulk d <= B -> ∃ x, r.rep G cs x /\ I x
def ArgS (H : Type) (P : Program) (G : GM) (n : Nat) (ts : List TypeId) (r : RT α) (B : Nat) (I : α -> Prop) : Prop :=
  ∀ (css : List (List Value)) (ds : List (DataW H)), AllD (AData P G n) P.cellsOf ts css ds -> Rows.uptoBulkAll ds <= B -> ∃ x, r.rep G css.flatten x /\ I x
theorem zlq {k : IntKind} {x : Int} (h : (Lit.int k x).wf = true) : z9b k x = true := by
  cases k <;> simp [Lit.wf, IntKind.min, IntKind.max, IntKind.signed, IntKind.bits] at h <;> simp [z9b] <;> omega
theorem Arg.mono {I J : α -> Prop} (h : Arg H P G n t r B I) (k : ∀ x, I x -> J x) : Arg H P G n t r B J := fun cs d hd hb => by
  obtain ⟨x, h1, h2⟩ := h cs d hd hb
  exact ⟨x, h1, k x h2⟩
theorem Arg.int {k : IntKind} (hu : P.underlying t = some (.int k)) : Arg H P G (n + 1) t (rI k) B (fun x => z9b k x = true) := fun cs d h _ => by
  unfold AData at h
  simp only [hu] at h
  obtain ⟨x, h1, h2, h3⟩ := h
  exact ⟨x, h1, zlq h3⟩
theorem Arg.bool (hu : P.underlying t = some .bool) : Arg H P G (n + 1) t rB B (fun _ => True) := fun cs d h _ => by
  unfold AData at h
  simp only [hu] at h
  obtain ⟨x, h1, _⟩ := h
  exact ⟨x, h1, trivial⟩
theorem Arg.str (hu : P.underlying t = some .string) : Arg H P G (n + 1) t rS B (fun x => x.size <= B) := fun cs d h hb => by
  unfold AData at h
  simp only [hu] at h
  obtain ⟨x, h1, h2, _⟩ := h
  refine ⟨x, h1, ?_⟩
  rw [h2] at hb
  simp only [Rows.uptoBulk, Array.length_toList] at hb
  have : x.data.size = x.size := rfl
  omega
theorem zda (h : Arg H P G n e r B I) : ∀ (k : Nat) (css : List (List Value)) (ds : List (DataW H)), AllD (AData P G n) P.cellsOf (List.replicate k e) css ds -> Rows.uptoBulkAll ds <= B -> ∃ xs : List α, All2 (r.rep G) css xs /\ (∀ x ∈ xs, I x) /\ xs.length = k
  | 0, [], [], _, _ => ⟨[], .nil, by simp, rfl⟩
  | 0, _ :: _, _, h, _ => by simp [List.replicate, AllD] at h
  | 0, [], _ :: _, h, _ => by simp [List.replicate, AllD] at h
  | k + 1, [], _, h, _ => by simp [List.replicate, AllD] at h
  | k + 1, _ :: _, [], h, _ => by simp [List.replicate, AllD] at h
  | k + 1, c :: css, d :: ds, hA, hb => by
    simp only [List.replicate, AllD] at hA
    simp only [Rows.uptoBulkAll] at hb
    obtain ⟨x, h1, h2⟩ := h _ _ hA.1.1 (by omega)
    obtain ⟨xs, h3, h4, h5⟩ := zda h k css ds hA.2 (by omega)
    refine ⟨x :: xs, .cons h1 h3, fun y hy => ?_, by simp [h5]⟩
    rcases List.mem_cons.1 hy with rfl | hy
    . exact h2
    . exact h4 y hy
theorem zfw {R : TypeId -> List Value -> DataW H -> Prop} {sz : TypeId -> Nat} : ∀ (k : Nat) {ts : List TypeId} {cs : List (List Value)} {ds : List (DataW H)}, AllD R sz ts cs ds -> AllD R sz (ts.take k) (cs.take k) (ds.take k)
  | 0, _, _, _, _ => by simp [AllD]
  | k + 1, [], [], [], _ => by simp [AllD]
  | k + 1, _ :: _, _ :: _, _ :: _, h => by simp only [List.take_succ_cons]; exact ⟨h.1, zfw k h.2⟩
theorem ziu {R : TypeId -> List Value -> DataW H -> Prop} {sz : TypeId -> Nat} {e : TypeId} : ∀ (k : Nat) (css : List (List Value)) (ds : List (DataW H)), AllD R sz (List.replicate k e) css ds -> ∀ c ∈ css, c.length = sz e
  | 0, [], [], _, c, hc => by simp at hc
  | 0, _ :: _, _, h, _, _ => by simp [List.replicate, AllD] at h
  | 0, [], _ :: _, h, _, _ => by simp [List.replicate, AllD] at h
  | k + 1, [], _, h, _, _ => by simp [List.replicate, AllD] at h
  | k + 1, _ :: _, [], h, _, _ => by simp [List.replicate, AllD] at h
  | k + 1, c :: css, d :: ds, hA, u, hu => by
    simp only [List.replicate, AllD] at hA
    rcases List.mem_cons.1 hu with rfl | hu
    . exact hA.1.2
    . exact ziu k css ds hA.2 u hu
theorem Arg.sl (hu : P.underlying t = some (.slice e)) (h : Arg H P G n e r B I) : Arg H P G (n + 1) t (rSl r) B (fun xs => xs.length <= B /\ ∀ x ∈ xs, I x) := fun cs d hA hb => by
  unfold AData at hA
  simp only [hu] at hA
  rcases hA with ⟨h1, h2⟩ | ⟨b, len, cap, elems, spare, css, h1, h2, h3, h4, _, h6, h7⟩
  . subst h1
    exact ⟨[], zjl, Nat.zero_le _, by simp⟩
  . subst h2
    simp only [Rows.uptoBulk] at hb
    have hlen := zit elems
    have h8 := zfw len h7
    rw [List.take_replicate, show min len cap = len by omega, <- h3, List.take_left] at h8
    obtain ⟨xs, k1, k2, k3⟩ := zda h elems.length (css.take elems.length) elems h8 (by omega)
    refine ⟨xs, ?_, by omega, k2⟩
    have hcl := ziu _ _ _ h7
    have hel := k1.length
    by_cases hz : elems.length = 0
    . have hx : xs = [] := List.length_eq_zero_iff.1 (by omega)
      subst hx
      refine ⟨_, [], h1, ⟨by simp, .inr (.inr ⟨b, 0, some 0, cap, by rw [<- h3, hz], rfl, .inr rfl⟩)⟩, .nil⟩
    . rcases h6 with h6 | ⟨x, g1, _, g3⟩
      . omega
      . refine ⟨_, css.take elems.length, h1, ⟨k1.each, .inr (.inl ⟨b, 0, some 0, cap, x, by rw [hel, k3, <- h3], g1, ?_, ?_, by rw [hel, k3]; omega, .inr rfl⟩)⟩, k1⟩
        . rw [g3]
          have h9 : css.flatten = (css.take elems.length).flatten ++ (css.drop elems.length).flatten := by rw [<- List.flatten_append, List.take_append_drop]
          rw [h9, List.length_append, k1.flatLen, hel]; omega
        . rw [g3, List.drop_zero]
          have h9 : css.flatten = (css.take elems.length).flatten ++ (css.drop elems.length).flatten := by rw [<- List.flatten_append, List.take_append_drop]
          have h10 : (css.take elems.length).length * r.sz = (css.take elems.length).flatten.length := by rw [k1.flatLen, hel]
          rw [h9, h10, List.take_left]
theorem Arg.arr {k : Nat} (hu : P.underlying t = some (.array k e)) (h : Arg H P G n e r B I) : Arg H P G (n + 1) t (rArr k r) B (fun xs => xs.length = k /\ ∀ x ∈ xs, I x) := fun cs d hA hb => by
  unfold AData at hA
  simp only [hu] at hA
  obtain ⟨css, parts, h1, h2, h3⟩ := hA
  subst h2
  simp only [Rows.uptoBulk] at hb
  obtain ⟨xs, k1, k2, k3⟩ := zda h k css parts h3 (by omega)
  exact ⟨xs, ⟨k3, css, h1, k1⟩, k3, k2⟩
theorem ArgS.one (h : Arg H P G n t r B I) : ArgS H P G n [t] r B I := fun css ds hA hb => by
  match css, ds, hA with
  | [c], [d], hA =>
    simp only [Rows.uptoBulkAll] at hb
    obtain ⟨x, h1, h2⟩ := h c d hA.1.1 (by omega)
    exact ⟨x, by simpa using h1, h2⟩
  | [], _, hA => simp [AllD] at hA
  | _ :: _ :: _, [], hA => simp [AllD] at hA
  | _ :: _ :: _, [_], hA => simp [AllD] at hA
  | _ :: _ :: _, _ :: _ :: _, hA => simp [AllD] at hA
  | [_], [], hA => simp [AllD] at hA
  | [_], _ :: _ :: _, hA => simp [AllD] at hA
theorem ArgS.cons {ts : List TypeId} (h : Arg H P G n t r B I) (k : ArgS H P G n ts s B J) : ArgS H P G n (t :: ts) (rP r s) B (fun x => I x.1 /\ J x.2) := fun css ds hA hb => by
  match css, ds, hA with
  | c :: css, d :: ds, hA =>
    simp only [Rows.uptoBulkAll] at hb
    obtain ⟨x, h1, h2⟩ := h c d hA.1.1 (by omega)
    obtain ⟨y, h3, h4⟩ := k css ds hA.2 (by omega)
    exact ⟨(x, y), ⟨c, css.flatten, by simp, h1, h3⟩, h2, h4⟩
  | [], _, hA => simp [AllD] at hA
  | _ :: _, [], hA => simp [AllD] at hA
theorem Arg.struct {fs : Array Field} {ts : List TypeId} (hu : P.underlying t = some (.struct fs)) (hts : fs.toList.map (·.type) = ts) (h : ArgS H P G n ts r B I) (f : S -> α) (g : α -> S) (hg : ∀ p, f (g p) = p) : Arg H P G (n + 1) t (rIso r f) B (fun x => I (f x)) := fun cs d hA hb => by
  unfold AData at hA
  simp only [hu] at hA
  obtain ⟨css, parts, h1, h2, h3⟩ := hA
  subst h2
  simp only [Rows.uptoBulk] at hb
  rw [hts] at h3
  obtain ⟨p, k1, k2⟩ := h css parts h3 (by omega)
  exact ⟨g p, by rw [h1]; show r.rep G css.flatten (f (g p)); rw [hg]; exact k1, by show I (f (g p)); rw [hg]; exact k2⟩
theorem AArgs.cons_inv {ts : List TypeId} {avs : List Value} {ds : List (DataW H)} (h : AArgs P G n (t :: ts) avs ds) : ∃ v vs d dr, avs = v :: vs /\ ds = d :: dr /\ AVal P G n t v d /\ AArgs P G n ts vs dr := by
  match avs, ds, h with
  | v :: vs, d :: dr, h => exact ⟨v, vs, d, dr, rfl, rfl, h.1, h.2⟩
  | [], _, h => simp [AArgs] at h
  | _ :: _, [], h => simp [AArgs] at h
theorem AArgs.nil_inv {avs : List Value} {ds : List (DataW H)} (h : AArgs P G n [] avs ds) : avs = [] /\ ds = [] := by
  match avs, ds, h with
  | [], [], h => exact ⟨rfl, rfl⟩
  | [], _ :: _, h => simp [AArgs] at h
  | _ :: _, _, h => simp [AArgs] at h
theorem AVal.one {v : Value} {d : DataW H} (hu : z43 P t = some false) (h : AVal P G n t v d) : AData P G n t [v] d := by
  unfold AVal at h
  unfold z43 at hu
  split at h
  . rename_i q; rw [q] at hu; cases hu
  . rename_i q; rw [q] at hu; cases hu
  . exact h
theorem AVal.agg {v : Value} {d : DataW H} (hu : z43 P t = some true) (h : AVal P G n t v d) : ∃ cs, v = .agg (List.toArray cs) /\ AData P G n t cs d := by
  unfold AVal at h
  unfold z43 at hu
  split at h
  . exact h
  . exact h
  . rename_i q1 q2
    split at hu
    . rename_i q; exact absurd q (q1 _)
    . rename_i q; exact absurd q (q2 _ _)
    . cases hu
    . cases hu
theorem Ow.empty (A : AH) : Ow A.get A [] := ⟨fun _ _ h => h, fun i e h => by simp at h, fun i j e e' _ h => by simp at h, fun i e h => by simp at h⟩
theorem CR.done {f : FuncId} {args : List Value} {A : AH} {b : Value} (h : CR P f args A.get A [] fun v _ _ => v = b) : ∃ A', ACalls P f args A b A' := by
  obtain ⟨v, H', G', h1, _, _, rfl⟩ := h
  exact ⟨H', h1⟩
end
end Go.Am
/- MatrixDots over the statement's reading of its arguments. -/
namespace Go.Am.Tryz
open Go Go.Am Go.Proofs Go.Proofs.YtdogeclnbdldaaaGreatDoor
theorem matrixDots {H : Type} (A : AH) (avs : List Value) (ds : List (DataW H)) (hb : Rows.uptoBulkAll ds <= 1048576) (ha : AArgs Tryz.prog A.get 2 [45, 45] avs ds) : ∃ A', ACalls Tryz.prog 5 avs A (.bool true) A' := by
  obtain ⟨v0, vs0, d0, ds0, rfl, rfl, a0, ha⟩ := AArgs.cons_inv ha
  obtain ⟨v1, vs1, d1, ds1, rfl, rfl, a1, ha⟩ := AArgs.cons_inv ha
  obtain ⟨rfl, rfl⟩ := AArgs.nil_inv ha
  simp only [Rows.uptoBulkAll] at hb
  obtain ⟨x0, r0, i0⟩ := ((Arg.sl (t := 45) (e := 22) (by kernel_rfl) (Arg.str (t := 22) (by kernel_rfl))) : Arg H Tryz.prog A.get 2 45 _ 1048576 _) [v0] d0 (AVal.one (by kernel_rfl) a0) (by omega)
  obtain ⟨x1, r1, i1⟩ := ((Arg.sl (t := 45) (e := 22) (by kernel_rfl) (Arg.str (t := 22) (by kernel_rfl))) : Arg H Tryz.prog A.get 2 45 _ 1048576 _) [v1] d1 (AVal.one (by kernel_rfl) a1) (by omega)
  obtain ⟨K, hK⟩ := zc3 i0 i1
  exact CR.done (z9q K v0 x0 r0 v1 x1 r1 (Ow.empty A) true hK)
end Go.Am.Tryz
