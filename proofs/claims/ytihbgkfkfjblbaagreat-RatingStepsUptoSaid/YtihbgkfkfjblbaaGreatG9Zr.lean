/- Plain law: Div and Gcd of the program's numbers. -/
import Derived.Test.YtihbgkfkfjblbaaGreatG8Zr
import Derived.Test.YtihbgkfkfjblbaaGreatG2Zr
import Derived.Test.YtihbgkfkfjblbaaGreatRows
set_option maxRecDepth 100000
set_option maxHeartbeats 8000000
set_option linter.unusedVariables false
set_option linter.unusedSimpArgs false
namespace Go.Am.Tryz
open Go Go.Am Go.Proofs
variable {K : Nat}
theorem kf1 {Y p Z V U U2 O q : Int} (h : U + O * V = Z) (h2 : U2 + p * (q * V) = U) : U2 + (O + p * (q - 0)) * V = Z := by grind
theorem zju {o w v u1 u2 : List Int} {i m : Nat} {g q a1 a2 v1 : Int} {b : Bool} (hn : 2 <= v.length) (hk : i + v.length + 1 <= w.length) (hl : w.length <= 8000000) (ho : i < o.length) (h1 : w.getD (i + v.length) 0 = a1) (h2 : w.getD (i + v.length - 1) 0 = a2) (h3 : v.getD (v.length - 1) 0 = v1)
  (b1 : 0 <= a1 /\ a1 < 1000000000) (b2 : 0 <= a2 /\ a2 < 1000000000) (b3 : 1 <= v1 /\ v1 < 1000000000) (hg : 0 <= g /\ g < 1000000000) (hq : 0 <= q /\ q < 1000000000) (d1 : z2y K v w i K ((a1 * 1000000000 + a2) / v1) ((a1 * 1000000000 + a2) % v1) = some g) (d4 : z4u K w v i g = some (b, u1)) (d5 : b = true -> z5i K u1 v i = some u2 /\ q = g - 1) (d6 : b = false -> u2 = u1 /\ q = g) :
  z2o K v (m + 1) o w i = z2o K v m (o.set i q) u2 ((i : Int) - 1) := by
 have t1 : ((i : Int) + (v.length : Int)).toNat = i + v.length := by omega
 have t2 : ((i : Int) + (v.length : Int) - 1).toNat = i + v.length - 1 := by omega
 have t3 : ((v.length : Int) - 1).toNat = v.length - 1 := by omega
 have hq1 : 0 <= (a1 * 1000000000 + a2) / v1 := Int.ediv_nonneg (by omega) (by omega)
 have hq2 : (a1 * 1000000000 + a2) / v1 <= a1 * 1000000000 + a2 := Int.ediv_le_self _ (by omega)
 rw [z2o]
 cases b with
 | true =>
  obtain ⟨p1, p2⟩ := d5 rfl
  subst p2
  clear d5 d6
  simp (discharger := omega) only [runL, t1, t2, t3, h1, h2, h3, d1, d4, p1]
 | false =>
  obtain ⟨p1, p2⟩ := d6 rfl
  subst p1 p2
  clear d5 d6
  simp (discharger := omega) only [runL, t1, t2, t3, h1, h2, h3, d1, d4, Bool.false_eq_true]
theorem zqs {u v : List Int} {J : Nat} (hn : 2 <= v.length) (hJ : J + v.length = u.length) (hJ1 : 1 <= J) (hl : u.length <= 8000000) (hK : 2000000000 < K) (du : DigB 1000000000 u) (cv : CanB 1000000000 v) (hu : valB 1000000000 u < 1000000000 ^ J * valB 1000000000 v) :
  ∃ r : List Int × List Int, z2o K v K (List.replicate J 0) u ((J : Int) - 1) = some r /\ r.1.length = J /\ r.2.length = u.length /\ DigB 1000000000 r.1 /\ DigB 1000000000 r.2 /\ valB 1000000000 r.2 + valB 1000000000 r.1 * valB 1000000000 v = valB 1000000000 u /\ valB 1000000000 r.2 < valB 1000000000 v := by
 refine zav (fun m (s : List Int × List Int × Int) => z2o K v m s.1 s.2.1 s.2.2) (fun s => ∃ j : Nat, s.2.2 = (j : Int) - 1 /\ j <= J /\ s.1.length = J /\ s.2.1.length = u.length /\ DigB 1000000000 s.1 /\ DigB 1000000000 s.2.1 /\ (∀ i < j, s.1.getD i 0 = 0) /\ valB 1000000000 s.2.1 + valB 1000000000 s.1 * valB 1000000000 v = valB 1000000000 u /\ valB 1000000000 s.2.1 < 1000000000 ^ j * valB 1000000000 v) (fun s => (s.2.2 + 1).toNat) _ ?_ ((List.replicate J 0, u, (J : Int) - 1) : List Int × List Int × Int) (by dsimp only; omega) ⟨J, rfl, Nat.le_refl _, by simp, rfl, .zeros (by omega) _, du, fun i hi => by simp [zAb, hi], by simp [zbj], hu⟩
 rintro m ⟨o, w, _⟩ ⟨j, rfl, hj, h1, h2, h3, h4, h5, h6, h7⟩
 dsimp only at h1 h2 h3 h4 h5 h6 h7 ⊢
 by_cases h0 : j = 0
 ·subst h0
  left
  rw [Int.pow_zero, Int.one_mul] at h7
  exact ⟨(o, w), by rw [z2o]; simp (discharger := omega) only [runL], h1, h2, h3, h4, h6, h7⟩
 ·right
  obtain ⟨i, rfl⟩ : ∃ i, j = i + 1 := ⟨j - 1, by omega⟩
  have e1 : ((i + 1 : Nat) : Int) - 1 = i := by omega
  rw [e1]
  obtain ⟨g, b, u1, u2, q, d1, d2, d3, d4, d5, d6, d7, d8, d9, d10, d11, d12, d13, d14⟩ := zm9 (K := K) (u := w) (v := v) (i := i) hn (by omega) (by omega) hK h4 cv h7
  have hz := h5 i (by omega)
  have hset := z7y 1000000000 o i q (by omega)
  rw [hz] at hset
  have et1 := z2u (by omega) h4 (i + v.length)
  have et2 := z2u (by omega) h4 (i + v.length - 1)
  have hrun := zju (m := m) (o := o) (a1 := w.getD (i + v.length) 0) (a2 := w.getD (i + v.length - 1) 0) (v1 := v.getD (v.length - 1) 0) hn (show i + v.length + 1 <= w.length by omega) (by omega) (by omega) rfl rfl rfl et1 et2 ⟨d13, d14⟩ ⟨d2, d3⟩ ⟨d7, d8⟩ d1 d4 d5 d6
  refine ⟨(o.set i q, u2, (i : Int) - 1), hrun, by dsimp only; omega, i, rfl, by omega, by simp [h1], by dsimp only; omega, h3.set _ ⟨d7, d8⟩, d10, fun k hk => by dsimp only; rw [z8o (by omega), if_neg (by omega)]; exact h5 k (by omega), ?_, d12⟩
  dsimp only
  rw [hset]
  exact kf1 (Y := 0) h6 d11
theorem zas {m n : Int} {x y : List Int} (hx : NumN m x) (hy : NumN n y) (h : m <= n) : x.length <= y.length := zh3 (B := 1000000000) (by omega) hx.1 hy.1.1 (by rw [hx.2, hy.2]; exact h)
theorem kf2 {a b c : Int} (hc : 0 < c) (hb : 0 < b) : (a * c) / (b * c) = a / b /\ (a * c) % (b * c) = (a % b) * c := by
 refine ⟨Int.mul_ediv_mul_of_pos_left a b hc, ?_⟩
 rw [Int.mul_comm a c, Int.mul_comm b c, Int.mul_emod_mul_of_pos a b hc, Int.mul_comm]
theorem zis {x y : List Int} {a b : Int} (hx : x.length <= 3000000) (hy : y.length <= 3000000) (hK : 2000000000 < K) (nx : NumN a x) (ny : NumN b y) (hb : 0 < b) :
  ∃ q r, z5q K x y = some (q, r) /\ NumN (a / b) q /\ NumN (a % b) r /\ q.length <= x.length /\ r.length <= y.length := by
 have a0 := nx.nonneg
 suffices h : ∃ q r, z5q K x y = some (q, r) /\ NumN (a / b) q /\ NumN (a % b) r by
  obtain ⟨q, r, h1, h2, h3⟩ := h
  have e1 := Int.emod_lt_of_pos a hb
  exact ⟨q, r, h1, h2, h3, zas h2 nx (Int.ediv_le_self _ a0), zas h3 ny (by omega)⟩
 have hcmp := zio (K := K) (by omega) (by omega) hK nx ny
 unfold z5q
 rw [hcmp, z0n]
 by_cases hab : a < b
 ·refine ⟨[], x, ?_, by rw [Int.ediv_eq_zero_of_lt a0 hab]; exact .nil, by rw [Int.emod_eq_of_lt a0 hab]; exact nx⟩
  simp (discharger := omega) only [runL]
 ·have hcond : decide ((if a < b then (-1 : Int) else if a = b then 0 else 1) < 0) = false := by
   rw [if_neg hab]; split <;> rfl
  rw [hcond]
  simp only [Bool.false_eq_true, if_false]
  have hy0 : y.length ≠ 0 := fun e => by have := ny.len0.1 e; omega
  by_cases h1 : y.length = 1
  ·obtain ⟨d, rfl⟩ := List.length_eq_one_iff.1 h1
   have hd := ny.1.1 d (by simp)
   have hbd : b = d := by rw [<- ny.2]; simp [valB]
   subst hbd
   obtain ⟨q, r, s1, s2, s3, s4, s5⟩ := zip (K := K) (x := x) (a := a) (d := b) (by omega) hK nx (by omega)
   refine ⟨q, r, ?_, s2, s3⟩
   have e0 : idx [b] 0 = some b := rfl
   rw [if_pos (by simp), e0, z0n, s1, z0n]
  ·rw [if_neg (by simp; omega)]
   obtain ⟨yr, d, hyd⟩ := zbk y (by rintro rfl; exact hy0 rfl)
   have hd := ny.1.1 d (by rw [hyd]; simp)
   have hidx : idx y (z03 .i64 ((y.length : Int) - 1)) = some d := by
    rw [k64 (by omega) (by omega), idxI (by omega) (by omega)]
    congr 1
    subst hyd
    rw [show ((((yr ++ [d]).length : Nat) : Int) - 1).toNat = yr.length by simp, zAb]
    simp
   have hby1 : 1 <= 1000000000 / (d + 1) := by
    rw [Int.le_ediv_iff_mul_le (by omega)]; omega
   have hby2 : 1000000000 / (d + 1) <= 1000000000 := Int.ediv_le_self _ (by omega)
   have hd1 : d ≠ 0 := fun e => ny.1.2 (by rw [hyd, e]; simp)
   have hby3 : 1000000000 / (d + 1) < 1000000000 := Int.ediv_lt_of_lt_mul (by omega) (by omega)
   rw [hidx, z0n, u64w (a := d) (by omega) (by omega), ku64 (a := d + 1) (by omega) (by omega), if_pos (by omega), zu5 (by omega), ku64 (by omega) (by omega), lta]
   rw [u32w (by omega) (by omega)]
   generalize 1000000000 / (d + 1) = c at hby1 hby2 hby3
   have nc : NumN c [c] := .one (by omega) hby3
   obtain ⟨u0, m1, m2, m3⟩ := zh4 (K := K) (x := x) (y := [c]) (by simp; omega) hK nx nc
   obtain ⟨v, w1, w2, w3⟩ := zh4 (K := K) (x := y) (y := [c]) (by simp; omega) hK ny nc
   simp only [List.length_singleton] at m3 w3
   have ac : a <= a * c := by have := z4e a0 hby1; omega
   have bc : b <= b * c := by have := z4e (show 0 <= b by omega) hby1; omega
   have abc : b * c <= a * c := Int.mul_le_mul_of_nonneg_right (by omega) (by omega)
   have lx := zas nx m2 ac
   have ly := zas ny w2 bc
   have hy2 : 2 <= y.length := by omega
   have hv2 : 2 <= v.length := by omega
   have lv := zas w2 m2 abc
   have hl0 : z51 K x K (u0 ++ [0]) = some (u0 ++ [0]) := by
    obtain ⟨k, rfl⟩ : ∃ k, K = k + 1 := ⟨K - 1, by omega⟩
    rw [z51]
    have e : decide (((u0 ++ [0]).length : Int) <= (x.length : Int)) = false := decide_eq_false (by simp; omega)
    rw [e]; rfl
   have du : DigB 1000000000 (u0 ++ [0]) := m2.1.1.snoc (by omega)
   have hvu : valB 1000000000 (u0 ++ [0]) = a * c := by rw [z8p, m2.2]; omega
   have hlen : (u0 ++ [(0 : Int)]).length = u0.length + 1 := by simp
   obtain ⟨J, hJ⟩ : ∃ J, J + v.length = u0.length + 1 := ⟨u0.length + 1 - v.length, by omega⟩
   have hbound : a * c < 1000000000 ^ J * (b * c) := by
    have b1 := z65 (B := 1000000000) (by omega) u0 m2.1.1
    have b2 := zlw (B := 1000000000) (by omega) w2.1 (by intro e; rw [e] at hv2; simp at hv2)
    rw [m2.2] at b1
    rw [w2.2] at b2
    have pJ : (0 : Int) < 1000000000 ^ J := Int.pow_pos (by omega)
    have b3 := z4e (Int.le_of_lt pJ) b2
    rw [<- Int.pow_add, show J + (v.length - 1) = u0.length by omega] at b3
    omega
   obtain ⟨⟨o, w⟩, l1, l2, l3, l4, l5, l6, l7⟩ := zqs (K := K) (u := u0 ++ [0]) (v := v) (J := J) (by omega) (by omega) (by omega) (by omega) hK du w2.1 (by rw [hvu, w2.2]; exact hbound)
   dsimp only at l2 l3 l4 l5 l6 l7
   rw [hvu, w2.2] at l6
   rw [w2.2] at l7
   have o0 := z1l (B := 1000000000) (by omega) o l4
   have w0 := z1l (B := 1000000000) (by omega) w l5
   have hbc0 : 0 < b * c := Int.mul_pos hb (by omega)
   obtain ⟨q1, q2⟩ := zdx (n := a * c) (d := b * c) (q := valB 1000000000 o) (r := valB 1000000000 w) hbc0 (by rw [Int.mul_comm (b * c)]; omega) w0 l7
   obtain ⟨k1, k2⟩ := kf2 (a := a) (b := b) (c := c) (by omega) hb
   rw [k1] at q1
   rw [k2] at q2
   obtain ⟨t, t1, t2, t3, t4⟩ := zdw (K := K) (B := 1000000000) (l := w) (by omega) hK l5
   obtain ⟨z, z1, z2, z3, z4⟩ := zdw (K := K) (B := 1000000000) (l := o) (by omega) hK l4
   obtain ⟨rq, rr, s1, s2, s3, s4, s5⟩ := zip (K := K) (x := t) (a := a % b * c) (d := c) (by omega) hK ⟨t2, by rw [t3]; exact q2⟩ (by omega)
   rw [Int.mul_ediv_cancel _ (by omega)] at s2
   refine ⟨z, rq, ?_, ⟨z2, by rw [z3]; exact q1⟩, s2⟩
   rw [m1, z0n, if_pos (by simp; omega), w1, z0n, hl0, z0n, tu1a, lta, hlen]
   have e1 : (((u0.length + 1 : Nat) : Int) - (v.length : Int)) = (J : Int) := by omega
   rw [e1, k64 (by omega) (by omega), if_pos (by omega), lta, k64 (by omega) (by omega), Int.toNat_natCast, l1, z0n, tu2a, t1, z0n, s1, z0n, z1, z0n]
theorem zma (a b : Nat) (hb : 0 < b) : Nat.gcd b (a % b) = Nat.gcd a b := by
 rw [Nat.gcd_comm a b, Nat.gcd_rec b a, Nat.gcd_comm]
theorem zit : ∀ (n k : Nat) {x y : List Int} {a b : Nat}, a * b < 2 ^ n -> b <= a -> n + 2 < k -> x.length <= 3000000 -> y.length <= 3000000 -> 2000000000 < K -> NumN a x -> NumN b y -> ∃ z, z1t K k x y = some z /\ NumN (Nat.gcd a b : Nat) z := by
 intro n
 induction n with
 | zero =>
  intro k x y a b hab hba hk hx hy hK nx ny
  have hb : b = 0 := by
   rcases Nat.eq_zero_or_pos b with h | h
   ·exact h
   ·have := Nat.mul_pos (show 0 < a by omega) h; omega
  subst hb
  obtain ⟨k, rfl⟩ : ∃ m, k = m + 1 := ⟨k - 1, by omega⟩
  have : y = [] := ny.nil_iff.2 rfl
  subst this
  exact ⟨x, by rw [z1t]; rfl, by rw [Nat.gcd_zero_right]; exact nx⟩
 | succ n ih =>
  intro k x y a b hab hba hk hx hy hK nx ny
  obtain ⟨k, rfl⟩ : ∃ m, k = m + 1 := ⟨k - 1, by omega⟩
  by_cases hb : b = 0
  ·subst hb
   have : y = [] := ny.nil_iff.2 rfl
   subst this
   exact ⟨x, by rw [z1t]; rfl, by rw [Nat.gcd_zero_right]; exact nx⟩
  ·obtain ⟨q, r, d1, d2, d3, d4, d5⟩ := zis (K := K) hx hy hK nx ny (by omega)
   have e : ((a : Int) % (b : Int)) = ((a % b : Nat) : Int) := by simp
   rw [e] at d3
   have hr := Nat.mod_lt a (show 0 < b by omega)
   have hprod : b * (a % b) < 2 ^ n := by
    have h1 : b + a % b <= a := by
     have h2 := Nat.div_add_mod a b
     have h3 : 1 <= a / b := (Nat.le_div_iff_mul_le (by omega)).2 (by omega)
     have h4 := Nat.mul_le_mul_left b h3
     omega
    have h5 := Nat.mul_le_mul_left b (show 2 * (a % b) <= a by omega)
    rw [Nat.pow_succ] at hab
    have h6 : b * (2 * (a % b)) = 2 * (b * (a % b)) := by grind
    rw [Nat.mul_comm a b] at hab
    omega
   obtain ⟨z, z1, z2⟩ := ih k hprod (by omega) (by omega) hy (by omega) hK ny d3
   refine ⟨z, ?_, by rw [<- zma a b (by omega)]; exact z2⟩
   have hy0 : y.length ≠ 0 := fun e => by have := ny.len0.1 e; omega
   rw [z1t, if_pos (decide_eq_true (by omega)), d1, z0n, z1]
theorem zh6 {n : Nat} {x : List Int} (h : NumN n x) : n < 2 ^ (30 * x.length) := by
 have h1 := z65 (B := 1000000000) (by omega) x h.1.1
 rw [h.2] at h1
 have h2 : ((1000000000 : Nat) : Int) ^ x.length = ((1000000000 ^ x.length : Nat) : Int) := by simp
 have h3 : n < 1000000000 ^ x.length := by
  have h4 : (1000000000 : Int) = ((1000000000 : Nat) : Int) := rfl
  rw [h4, h2] at h1
  omega
 have h5 : (1000000000 : Nat) ^ x.length <= (2 ^ 30) ^ x.length := Nat.pow_le_pow_left (by decide) _
 rw [<- Nat.pow_mul] at h5
 omega
theorem zpd {x y : List Int} {a b : Nat} (hx : x.length <= 3000000) (hy : y.length <= 3000000) (hK : 2000000000 < K) (nx : NumN a x) (ny : NumN b y) : ∃ z, z79 K x y = some z /\ NumN (Nat.gcd a b : Nat) z := by
 have hp : a * b < 2 ^ (30 * x.length + 30 * y.length) := by
  rw [Nat.pow_add]
  have h1 := zh6 nx
  have h2 := zh6 ny
  exact Nat.mul_lt_mul_of_lt_of_le h1 (Nat.le_of_lt h2) (Nat.pow_pos (by omega))
 have key : ∃ z, z1t K K x y = some z /\ NumN (Nat.gcd a b : Nat) z := by
  by_cases hba : b <= a
  ·exact zit _ K hp hba (by omega) hx hy hK nx ny
  ·obtain ⟨k, hk⟩ : ∃ k, K = k + 1 := ⟨K - 1, by omega⟩
   obtain ⟨q, r, d1, d2, d3, d4, d5⟩ := zis (K := K) hx hy hK nx ny (by omega)
   rw [Int.emod_eq_of_lt (by omega) (by omega)] at d3
   have hrx : r = x := d3.inj nx
   subst hrx
   obtain ⟨z, z1, z2⟩ := zit (K := K) _ k (by rw [Nat.mul_comm]; exact hp) (by omega) (by omega) hy hx hK ny nx
   refine ⟨z, ?_, by rw [Nat.gcd_comm]; exact z2⟩
   have hy0 : y.length ≠ 0 := fun e => by have := ny.len0.1 e; omega
   have : z1t K K r y = z1t K (k + 1) r y := by rw [<- hk]
   rw [this, z1t, if_pos (decide_eq_true (by omega)), d1, z0n, z1]
 obtain ⟨z, z1, z2⟩ := key
 exact ⟨z, by unfold z79; rw [z1]; rfl, z2⟩
end Go.Am.Tryz
/- Plain law: the reference's quotient and divisor of texts. -/
namespace Go.Am.Tryz
open Go Go.Am Go.Proofs
variable {K : Nat}
theorem zmb {c : Int} (h : 48 <= c /\ c <= 57) : z04 (Utf8.encode c) = [c] /\ (Utf8.encode c).size = 1 := by
 obtain ⟨n, rfl⟩ : ∃ n : Nat, c = n := ⟨c.toNat, by omega⟩
 have hn : n = 48 \/ n = 49 \/ n = 50 \/ n = 51 \/ n = 52 \/ n = 53 \/ n = 54 \/ n = 55 \/ n = 56 \/ n = 57 := by omega
 rcases hn with rfl | rfl | rfl | rfl | rfl | rfl | rfl | rfl | rfl | rfl <;> exact ⟨by decide +kernel, by decide +kernel⟩
theorem ks1 {R b d R0 : Int} (h : R + (d - 48) * b = R0) : R - b + (d + 1 - 48) * b = R0 := by grind
theorem zsf {b : zAd} {r0 : zAd} (hb : b.size <= 500000) (hr : r0.size <= 1000000) (hK : 2000000000 < K) (cb : CanT b) (c0 : CanT r0) (hb0 : 0 < numT b) (hlt : numT r0 < 10 * numT b) :
  ∃ r : zAd × Int, z42 K b K r0 48 = some r /\ CanT r.1 /\ (48 <= r.2 /\ r.2 <= 57) /\ numT r.1 + (r.2 - 48) * numT b = numT r0 /\ numT r.1 < numT b := by
 refine zav (fun k (s : zAd × Int) => z42 K b k s.1 s.2) (fun s => CanT s.1 /\ s.1.size <= 1000000 /\ (48 <= s.2 /\ s.2 <= 57) /\ numT s.1 + (s.2 - 48) * numT b = numT r0) (fun s => (57 - s.2).toNat) _ ?_ ((r0, 48) : zAd × Int) (by dsimp only; omega) ⟨c0, hr, by dsimp only; omega, by dsimp only; omega⟩
 rintro k ⟨r, d⟩ ⟨h1, h2, h3, h4⟩
 dsimp only at h1 h2 h3 h4 ⊢
 have hcmp := zpb (K := K) h1 cb
 have r0' := z4g h1.2.1
 by_cases hge : numT b <= numT r
 ·right
  obtain ⟨t, t1, t2, t3⟩ := zm4 (K := K) (a := r) (b := b) h2 (z53 h1 cb hge) (by have := h1.1; omega) (by omega) h1.2.1 cb.2.1 hge
  have hd : d <= 56 := by
   refine Int.not_lt.1 fun hlt2 => ?_
   have : d = 57 := by omega
   subst this
   omega
  refine ⟨(t, d + 1), ?_, by dsimp only; omega, t2, ?_, by dsimp only; omega, by dsimp only; rw [t3]; exact ks1 h4⟩
  ·rw [z42, hcmp, z0n]
   rw [if_pos (decide_eq_true (by rw [if_neg (by omega)]; split <;> omega)), t1, z0n, ku8 (by omega) (by omega)]
  ·dsimp only
   have := z53 h1 t2 (by rw [t3]; omega)
   omega
 ·left
  refine ⟨(r, d), ?_, h1, h3, h4, by dsimp only; omega⟩
  rw [z42, hcmp, z0n]
  have e : decide ((if numT r < numT b then (-1 : Int) else if numT r = numT b then 0 else 1) >= 0) = false := by
   rw [if_pos (by omega)]; rfl
  rw [e]; rfl
theorem ks3 {Q b R R2 A c d : Int} (h : Q * b + R = A) (h2 : R2 + d * b = R * 10 + c) : (Q * 10 + d) * b + R2 = A * 10 + c := by grind
theorem zod {a b r0 : zAd} {f : Nat} (ha : a.size <= 500000) (hb : b.size <= 500000) (hK : 2000000000 < K) (da : (z04 a).all digT = true) (cb : CanT b) (hb0 : 0 < numT b) (hf : f <= a.size) (c0 : CanT r0) (hs0 : r0.size <= 500000) (h0 : numT r0 = numB ((z04 a).take f)) (hlt : numT r0 < numT b) :
  ∃ r : zAd × zAd, z43 K a b K ⟨#[48]⟩ r0 f = some r /\ r.1.size <= a.size + 1 /\ 0 < r.1.size /\ (z04 r.1).all digT = true /\ CanT r.2 /\ numT r.1 * numT b + numT r.2 = numT a /\ numT r.2 < numT b := by
 have hn := z02 a
 refine zav (fun k (s : zAd × zAd × Int) => z43 K a b k s.1 s.2.1 s.2.2) (fun s => ∃ i : Nat, s.2.2 = i /\ i <= a.size /\ 0 < s.1.size /\ s.1.size <= i + 1 /\ (z04 s.1).all digT = true /\ CanT s.2.1 /\ numT s.1 * numT b + numT s.2.1 = numB ((z04 a).take i) /\ numT s.2.1 < numT b /\ s.2.1.size <= 500000) (fun s => (a.size - s.2.2 : Int).toNat) _ ?_ ((⟨#[48]⟩, r0, (f : Int)) : zAd × zAd × Int) (by dsimp only; omega) ⟨f, rfl, hf, by show 0 < 1; omega, by show 1 <= f + 1; omega, rfl, c0, by rw [<- h0]; show numT ⟨#[48]⟩ * numT b + numT r0 = numT r0; rw [z8r]; omega, hlt, hs0⟩
 rintro k ⟨q, r, _⟩ ⟨i, rfl, h1, h2, h3, h4, h5, h6, h7, h8⟩
 dsimp only at h2 h3 h4 h5 h6 h7 h8 ⊢
 by_cases hi : i < a.size
 ·right
  have hc := zir da (i := i) (by omega)
  have hsn := ziq (l := z04 a) (i := i) (by omega)
  generalize hcc : (z04 a).getD i 0 = c at hc hsn
  obtain ⟨e, he1, he2, he3⟩ : ∃ e, ssl a i ((i : Int) + 1) = some e /\ z04 e = [c] /\ e.size = 1 := by
   refine ⟨_, sslI (by omega) (by omega) (by omega), ?_, ?_⟩
   ·rw [z3u, Int.toNat_natCast, show ((i : Int) + 1).toNat - i = 1 by omega, List.drop_eq_getElem_cons (by omega), List.take_succ_cons, List.take_zero]
    rw [zAb, zAh (by omega)] at hcc
    simpa using hcc
   ·rw [<- z02, z3u, List.length_take, List.length_drop]; omega
  have hbr : z04 (r ++ e) = z04 r ++ [c] := by rw [z28, he2]
  have hdr : (z04 (r ++ e)).all digT = true := by rw [hbr, List.all_append, h5.2.1]; simpa using z8q.2 hc
  have hsr : (r ++ e).size = r.size + 1 := by rw [<- z02, hbr, List.length_append, z02]; rfl
  obtain ⟨t, t1, t2, t3⟩ := zcs (K := K) (s := r ++ e) (by omega) (by omega) (by omega) hdr
  have hnr : numT (r ++ e) = numT r * 10 + (c - 48) := by rw [zo5, hbr, zcr]; rfl
  have htl : numT t < 10 * numT b := by rw [t3, hnr]; omega
  have hts : t.size <= 1000000 := by
   have := z53 (b := t) (a := t) t2 t2 (Int.le_refl _)
   refine Nat.not_lt.1 fun hlt2 => ?_
   have g1 := zh5 t2 (by omega)
   have g2 := ze0 hdr
   have g3 : (10 : Int) ^ (r ++ e).size <= 10 ^ (t.size - 1) := z8a (by omega) (by omega)
   omega
  obtain ⟨⟨r2, d⟩, s1, s2, s3, s4, s5⟩ := zsf (K := K) (b := b) (r0 := t) hb hts hK cb t2 hb0 htl
  dsimp only at s2 s3 s4 s5
  obtain ⟨n1, n2⟩ := zmb s3
  have hbq : z04 (q ++ Utf8.encode d) = z04 q ++ [d] := by rw [z28, n1]
  have hsq : (q ++ Utf8.encode d).size = q.size + 1 := by rw [<- z02, hbq, List.length_append, z02]; rfl
  have hr2s : r2.size <= 500000 := by
   have := z53 cb s2 (by omega)
   omega
  refine ⟨(q ++ Utf8.encode d, r2, (i : Int) + 1), ?_, by dsimp only; omega, i + 1, rfl, by omega, by dsimp only; omega, by dsimp only; omega, ?_, s2, ?_, s5, hr2s⟩
  ·rw [z43, if_pos (decide_eq_true (by omega)), k64 (by omega) (by omega), he1, z0n, if_pos (by omega), t1, z0n, s1, z0n, tu2a, if_pos (by dsimp only; omega)]
  ·dsimp only; rw [hbq, List.all_append, h4]; simpa using z8q.2 s3
  ·dsimp only
   rw [hsn, zcr, zo5 (q ++ Utf8.encode d), hbq, zcr]
   refine ks3 h6 ?_
   rw [s4, t3, hnr]
 ·left
  have : i = a.size := by omega
  subst this
  rw [List.take_of_length_le (by omega)] at h6
  exact ⟨(q, r), by rw [z43]; simp (discharger := omega) only [runL], h3, h2, h4, h5, h6, h7⟩
theorem ziu {a b : zAd} (ha : a.size <= 400000) (hb : b.size <= 400000) (hK : 2000000000 < K) (ca : CanT a) (cb : CanT b) (hb0 : 0 < numT b) :
  ∃ q r, z7m K a b = some (q, r) /\ CanT q /\ CanT r /\ numT q = numT a / numT b /\ numT r = numT a % numT b := by
 have hn := z02 a
 have hcb := cb.1
 obtain ⟨f, hf1, hf2, hf3⟩ : ∃ f : Nat, imin (a.size : Int) (z03 .i64 ((b.size : Int) - 1)) = f /\ f <= a.size /\ f <= b.size - 1 := by
  rw [k64 (by omega) (by omega)]
  unfold imin
  by_cases h : (b.size : Int) - 1 < a.size
  ·exact ⟨b.size - 1, by rw [if_pos h]; omega, by omega, by omega⟩
  ·exact ⟨a.size, by rw [if_neg h], by omega, by omega⟩
 have hx : ssl a 0 (f : Int) = some (a.extract 0 f) := by rw [sslI (by omega) (by omega) (by omega)]; rfl
 have hxb : z04 (a.extract 0 f) = (z04 a).take f := by rw [z3u]; simp
 have hxs : (a.extract 0 f).size = f := by rw [<- z02, hxb, List.length_take]; omega
 have hzb : z04 ((⟨#[48]⟩ : zAd) ++ a.extract 0 f) = 48 :: (z04 a).take f := by rw [z28, hxb]; rfl
 have hzs : ((⟨#[48]⟩ : zAd) ++ a.extract 0 f).size = f + 1 := by rw [<- z02, hzb, List.length_cons, List.length_take]; omega
 have hzd : (z04 ((⟨#[48]⟩ : zAd) ++ a.extract 0 f)).all digT = true := by rw [hzb, List.all_cons, zdz ca.2.1]; rfl
 obtain ⟨t, t1, t2, t3⟩ := zcs (K := K) (s := (⟨#[48]⟩ : zAd) ++ a.extract 0 f) (by omega) (by omega) (by omega) hzd
 have hv : numT t = numB ((z04 a).take f) := by rw [t3, zo5, hzb, zg2]; simp
 have hlt : numT t < numT b := by
  have d1 := zev (zdz ca.2.1 f)
  rw [List.length_take, Nat.min_eq_left (by omega)] at d1
  rw [hv]
  by_cases h2 : 2 <= b.size
  ·have d2 := zh5 cb h2
   have d3 : (10 : Int) ^ f <= 10 ^ (b.size - 1) := z8a (by omega) hf3
   omega
  ·have : f = 0 := by omega
   subst this
   rw [List.take_zero, zdy]; exact hb0
 have hts : t.size <= 500000 := by
  have := z53 cb t2 (by omega)
  omega
 obtain ⟨⟨q, r⟩, s1, s2, s3, s4, s5, s6, s7⟩ := zod (K := K) (a := a) (b := b) (r0 := t) (f := f) (by omega) (by omega) hK ca.2.1 cb hb0 hf2 t2 hts hv hlt
 dsimp only at s2 s3 s4 s5 s6 s7
 obtain ⟨u, u1, u2, u3⟩ := zcs (K := K) (s := q) (by omega) s3 (by omega) s4
 obtain ⟨e1, e2⟩ := zdx (n := numT a) (d := numT b) (q := numT q) (r := numT r) hb0 (by rw [Int.mul_comm]; omega) (z4g s5.2.1) s7
 refine ⟨u, r, ?_, u2, s5, by rw [u3, e1], e2⟩
 unfold z7m
 rw [hf1, hx, z0n, if_pos (by rw [hxs]; show 1 + f <= _; omega), t1, z0n, s1, z0n, tu2a, u1, z0n]
theorem ziv : ∀ (n k : Nat) {x y : zAd} {a b : Nat}, a * b < 2 ^ n -> b <= a -> n + 2 < k -> x.size <= 400000 -> y.size <= 400000 -> 2000000000 < K -> CanT x -> CanT y -> numT x = a -> numT y = b -> ∃ z, z2e K k x y = some z /\ CanT z /\ numT z = (Nat.gcd a b : Nat) := by
 intro n
 have hend : ∀ (k : Nat) {x y : zAd} {a : Nat}, 0 < k -> CanT x -> CanT y -> numT x = a -> numT y = (0 : Nat) -> ∃ z, z2e K k x y = some z /\ CanT z /\ numT z = (Nat.gcd a 0 : Nat) := by
  intro k x y a hk cx cy nx ny
  obtain ⟨k, rfl⟩ : ∃ m, k = m + 1 := ⟨k - 1, by omega⟩
  have : y = ⟨#[48]⟩ := (ze2 cy).1 (by simpa using ny)
  subst this
  have e : sEq (⟨#[48]⟩ : zAd) ⟨#[48]⟩ = true := z5z.2 rfl
  exact ⟨x, by rw [z2e, e]; rfl, cx, by rw [Nat.gcd_zero_right]; exact nx⟩
 induction n with
 | zero =>
  intro k x y a b hab hba hk hx hy hK cx cy nx ny
  have hb : b = 0 := by
   rcases Nat.eq_zero_or_pos b with h | h
   ·exact h
   ·have := Nat.mul_pos (show 0 < a by omega) h; omega
  subst hb
  exact hend k (by omega) cx cy nx ny
 | succ n ih =>
  intro k x y a b hab hba hk hx hy hK cx cy nx ny
  by_cases hb : b = 0
  ·subst hb; exact hend k (by omega) cx cy nx ny
  ·obtain ⟨k, rfl⟩ : ∃ m, k = m + 1 := ⟨k - 1, by omega⟩
   obtain ⟨q, r, d1, d2, d3, d4, d5⟩ := ziu (K := K) hx hy hK cx cy (by omega)
   rw [nx, ny] at d5
   have e : ((a : Int) % (b : Int)) = ((a % b : Nat) : Int) := by simp
   rw [e] at d5
   have hr := Nat.mod_lt a (show 0 < b by omega)
   have hprod : b * (a % b) < 2 ^ n := by
    have h1 : b + a % b <= a := by
     have h2 := Nat.div_add_mod a b
     have h3 : 1 <= a / b := (Nat.le_div_iff_mul_le (by omega)).2 (by omega)
     have h4 := Nat.mul_le_mul_left b h3
     omega
    have h5 := Nat.mul_le_mul_left b (show 2 * (a % b) <= a by omega)
    rw [Nat.pow_succ] at hab
    have h6 : b * (2 * (a % b)) = 2 * (b * (a % b)) := by grind
    rw [Nat.mul_comm a b] at hab
    omega
   have hrs := z53 cy d3 (by rw [ny, d5]; omega)
   obtain ⟨z, z1, z2, z3⟩ := ih k hprod (by omega) (by omega) hy (by omega) hK cy d3 ny d5
   refine ⟨z, ?_, z2, by rw [<- zma a b (by omega)]; exact z3⟩
   have e0 : sEq y ⟨#[48]⟩ = false := by
    cases e : sEq y ⟨#[48]⟩ with
    | false => rfl
    | true => rw [z5z] at e; subst e; rw [z8r] at ny; omega
   rw [z2e, e0]
   simp only [Bool.not_false, if_true]
   rw [d1, z0n, z1]
theorem zew {n : Nat} {x : zAd} (h : (z04 x).all digT = true) (hn : numT x = n) : n < 2 ^ (4 * x.size) := by
 have h1 := ze0 h
 rw [hn] at h1
 have h2 : ((10 : Nat) : Int) ^ x.size = ((10 ^ x.size : Nat) : Int) := by simp
 have h3 : n < 10 ^ x.size := by
  have h4 : (10 : Int) = ((10 : Nat) : Int) := rfl
  rw [h4, h2] at h1
  omega
 have h5 : (10 : Nat) ^ x.size <= (2 ^ 4) ^ x.size := Nat.pow_le_pow_left (by decide) _
 rw [<- Nat.pow_mul] at h5
 omega
theorem zpe {x y : zAd} {a b : Nat} (hx : x.size <= 400000) (hy : y.size <= 400000) (hK : 2000000000 < K) (cx : CanT x) (cy : CanT y) (nx : numT x = a) (ny : numT y = b) : ∃ z, z88 K x y = some z /\ CanT z /\ numT z = (Nat.gcd a b : Nat) := by
 have hp : a * b < 2 ^ (4 * x.size + 4 * y.size) := by
  rw [Nat.pow_add]
  exact Nat.mul_lt_mul_of_lt_of_le (zew cx.2.1 nx) (Nat.le_of_lt (zew cy.2.1 ny)) (Nat.pow_pos (by omega))
 have key : ∃ z, z2e K K x y = some z /\ CanT z /\ numT z = (Nat.gcd a b : Nat) := by
  by_cases hba : b <= a
  ·exact ziv _ K hp hba (by omega) hx hy hK cx cy nx ny
  ·obtain ⟨k, hk⟩ : ∃ k, K = k + 1 := ⟨K - 1, by omega⟩
   obtain ⟨q, r, d1, d2, d3, d4, d5⟩ := ziu (K := K) hx hy hK cx cy (by omega)
   rw [Int.emod_eq_of_lt (z4g cx.2.1) (by omega)] at d5
   have hrx : r = x := zar d3 cx d5
   subst hrx
   obtain ⟨z, z1, z2, z3⟩ := ziv (K := K) _ k (by rw [Nat.mul_comm]; exact hp) (by omega) (by omega) hy hx hK cy cx ny nx
   refine ⟨z, ?_, z2, by rw [Nat.gcd_comm]; exact z3⟩
   have e0 : sEq y ⟨#[48]⟩ = false := by
    cases e : sEq y ⟨#[48]⟩ with
    | false => rfl
    | true => rw [z5z] at e; subst e; rw [z8r] at ny; omega
   have : z2e K K r y = z2e K (k + 1) r y := by rw [<- hk]
   rw [this, z2e, e0]
   simp only [Bool.not_false, if_true]
   rw [d1, z0n, z1]
 obtain ⟨z, z1, z2⟩ := key
 exact ⟨z, by unfold z88; rw [z1]; rfl, z2⟩
end Go.Am.Tryz
/- Plain law: a number's error. -/
namespace Go.Am.Tryz
open Go Go.Am Go.Proofs
variable {K : Nat} {s : zAd}
def digB (c : Int) : Bool := decide (48 <= c) && decide (c <= 57)
theorem zi0 : ∀ (l : List Int), runS (fun c (_ : Unit) => if digB c then .inr () else .inl (5 : Int)) l () = if l.all digB then .inr () else .inl 5
 | [] => rfl
 | x :: l => by
  simp only [runS, List.all_cons]
  by_cases hp : digB x = true
  ·simp only [hp, if_true, Bool.true_and, Sum.elim_inr]; exact zi0 l
  ·simp [hp]
theorem zsg {α : Type} (c : Int) (A B : Option α) : Option.bind (if (decide (c < 48)) = true then some true else some (decide (c > 57))) (tu1 fun x => if x = true then A else B) = if digB c = true then B else A := by
 unfold digB
 by_cases h1 : c < 48 <;> by_cases h2 : c > 57 <;> simp [h1, h2, tu1, show ¬ (48 : Int) <= c ↔ c < 48 by omega] <;> (try split) <;> (try omega) <;> rfl
theorem zjv (hs : s.size <= 1048576) (hK : s.size < K) : z25 K s K 0 = some (if (z04 s).all digB then .inr () else .inl 5) := by
 have hn := z02 s
 have h : z25 K s K 0 = _ := z7r (z04 s) (fun k (_ : Unit) i => z25 K s k i) (fun c (_ : Unit) => if digB c then .inr () else .inl (5 : Int)) (fun _ _ => True)
  (fun k _ i x hx _ => by
   have hi := (zAi hx).1
   show z25 K s (k + 1) i = _
   rw [z25, z7j hi, if_pos rfl, z2v hx]
   simp only [Option.bind_some, zsg, kw1 hi (by omega)]
   cases digB x <;> simp)
  (fun _ _ _ _ _ _ _ => trivial)
  (fun k _ i hi => by
   show z25 K s (k + 1) i = _
   rw [z25, z4m hi]; simp) K () (by omega) trivial
 rw [h, zi0]
theorem zmc (hs : s.size <= 1048576) (hK : s.size < K) : z1q K s K 0 = some (if (z04 s).all digB then .inr () else .inl 5) := by
 have hn := z02 s
 have h : z1q K s K 0 = _ := z7r (z04 s) (fun k (_ : Unit) i => z1q K s k i) (fun c (_ : Unit) => if digB c then .inr () else .inl (5 : Int)) (fun _ _ => True)
  (fun k _ i x hx _ => by
   have hi := (zAi hx).1
   show z1q K s (k + 1) i = _
   rw [z1q, <- hn, z7j hi, if_pos rfl, zab, z2v hx]
   simp only [Option.bind_some, zsg, kw1 hi (by omega)]
   cases digB x <;> simp)
  (fun _ _ _ _ _ _ _ => trivial)
  (fun k _ i hi => by
   show z1q K s (k + 1) i = _
   rw [z1q, <- hn, z4m hi]; simp) K () (by omega) trivial
 rw [h, zi0]
def natE (s : zAd) : Int := if s.size = 0 then 5 else if (z04 s).head? = some 48 /\ s.size > 1 then 5 else if !(z04 s).all digB then 5 else if s.size > 2000 then 2 else 0
theorem zsh : sEq s ⟨#[]⟩ = (s.size == 0) := by
 cases hq : sEq s ⟨#[]⟩ with
 | true => rw [z5z] at hq; subst hq; rfl
 | false =>
  have : s.size ≠ 0 := fun h => by
   have : s = ⟨#[]⟩ := by
    cases s with
    | mk d => congr 1; exact Array.eq_empty_of_size_eq_zero h
   rw [z5z.2 this] at hq; cases hq
  simp [this]
theorem zmd (h : s.size ≠ 0) : ∃ c, bidx s 0 = some c /\ (z04 s).head? = some c := by
 have hn := z02 s
 cases hb : z04 s with
 | nil => rw [hb] at hn; simp at hn; omega
 | cons c l => exact ⟨c, by rw [zab, hb]; rfl, rfl⟩
theorem zh7 (hs : s.size <= 1048576) (hK : s.size < K) : z78 K s = some (natE s) := by
 unfold z78 natE
 rw [zjv hs hK, zsh]
 by_cases h0 : s.size = 0
 ·simp [h0, tu1]
 ·obtain ⟨c, h1, h2⟩ := zmd h0
  rw [h1, h2]
  have h0' : (s.size == 0) = false := by simpa using h0
  by_cases hc : c = 48 <;> by_cases h3 : s.size > 1 <;> by_cases h4 : s.size > 2000 <;> cases h5 : (z04 s).all digB <;>
   simp [h0, h0', hc, h3, h4, h5, tu1, tu0, z70, show ((s.size : Int) > 1) ↔ s.size > 1 by omega, show ((s.size : Int) > 2000) ↔ s.size > 2000 by omega] <;> omega
theorem zct (hs : s.size <= 1048576) (hK : s.size < K) : z6e K s = some (natE s) := by
 unfold z6e natE
 rw [zmc hs hK]
 by_cases h0 : s.size = 0
 ·simp [h0, tu1]
 ·obtain ⟨c, h1, h2⟩ := zmd h0
  rw [h1, h2]
  have h0' : ((s.size : Int) == 0) = false := by rw [beq_eq_false_iff_ne]; omega
  by_cases hc : c = 48 <;> by_cases h3 : s.size > 1 <;> by_cases h4 : s.size > 2000 <;> cases h5 : (z04 s).all digB <;>
   simp [h0, h0', hc, h3, h4, h5, tu1, tu0, z70, show ((s.size : Int) > 1) ↔ s.size > 1 by omega, show ((s.size : Int) > 2000) ↔ s.size > 2000 by omega] <;> omega
theorem zsi : digB = digT := rfl
theorem zch (s : zAd) : natE s = 0 ↔ CanT s /\ s.size <= 2000 := by
 unfold natE CanT
 rw [zsi]
 by_cases h0 : s.size = 0
 ·simp [h0]
 ·by_cases h1 : (z04 s).head? = some 48 /\ s.size > 1
  ·rw [if_neg h0, if_pos h1]
   constructor
   ·intro h; cases h
   ·rintro ⟨⟨_, _, h⟩, _⟩; have := h h1.1; omega
  ·rw [if_neg h0, if_neg h1]
   cases h2 : (z04 s).all digT with
   | false => simp
   | true =>
    simp only [Bool.not_true, Bool.false_eq_true, if_false]
    by_cases h3 : s.size > 2000
    ·rw [if_pos h3]; constructor
     ·intro h; cases h
     ·rintro ⟨_, h⟩; omega
    ·rw [if_neg h3]
     exact ⟨fun _ => ⟨⟨h0, trivial, fun e => by
      refine Nat.le_antisymm (Nat.not_lt.1 fun h => h1 ⟨e, h⟩) (by omega)⟩, by omega⟩, fun _ => rfl⟩
theorem zg5 (s : zAd) : sEq s s = true := z5z.2 rfl
end Go.Am.Tryz
/- Plain law: lists of texts; one. -/
namespace Go.Am.Tryz
open Go Go.Am Go.Proofs
variable {K : Nat}
theorem zu7 {s t : zAd} (h : s ≠ t) : sEq s t = false := by
 cases e : sEq s t with
 | false => rfl
 | true => exact absurd (z5z.1 e) h
theorem ziw (hK : 2000000000 < K) : z62 K 1 = some [1] := by
 obtain ⟨k, rfl⟩ : ∃ k, K = k + 2 := ⟨K - 2, by omega⟩
 unfold z62
 have e1 : decide ((1 : Int) > 0) = true := rfl
 have e2 : IntKind.wrap .u32 (Int.tmod 1 1000000000) = 1 := rfl
 have e3 : z03 .i64 (Int.tdiv 1 1000000000) = 0 := rfl
 have e4 : decide ((0 : Int) > 0) = false := rfl
 rw [z4f, e1, if_pos rfl, e2, e3, if_pos (by decide), z4f, e4]
 rfl
end Go.Am.Tryz
/- Plain lemmas: rational numbers, their signs, parts and sizes. -/
namespace Go.Am
def sgn (neg : Bool) (n : Nat) : Int := if neg then -(n : Int) else n
theorem zme (neg : Bool) (n : Nat) : (sgn neg n).natAbs = n := by unfold sgn; split <;> omega
theorem zex (x : Rat) : sgn (decide (x.num < 0)) x.num.natAbs = x.num := by unfold sgn; by_cases h : x.num < 0 <;> simp [h] <;> omega
theorem zoe (neg : Bool) (n d : Nat) (hd : d ≠ 0) : (mkRat (sgn neg n) d).num.natAbs = n / Nat.gcd n d := by
 rw [Rat.num_mkRat, if_neg hd, zme, Nat.gcd_comm]
 unfold sgn
 cases neg with
 | false => simp; rfl
 | true =>
  simp only [if_true]
  have h : (Nat.gcd n d : Int) ∣ (n : Int) := Int.natCast_dvd_natCast.2 (Nat.gcd_dvd_left n d)
  rw [Int.neg_ediv_of_dvd h, Int.natAbs_neg]
  rfl
theorem zof (neg : Bool) (n d : Nat) (hd : d ≠ 0) : (mkRat (sgn neg n) d).den = d / Nat.gcd n d := by
 rw [Rat.den_mkRat, if_neg hd, zme, Nat.gcd_comm]
theorem zqt (neg : Bool) (n d : Nat) (hd : d ≠ 0) (hn : n ≠ 0) : decide ((mkRat (sgn neg n) d).num < 0) = neg := by
 have h0 : n / Nat.gcd n d ≠ 0 := by
  have := Nat.gcd_pos_of_pos_left d (show 0 < n by omega)
  have h2 := Nat.le_of_dvd (by omega) (Nat.gcd_dvd_left n d)
  have := Nat.div_pos h2 this
  omega
 rw [Rat.num_mkRat, if_neg hd, zme, Nat.gcd_comm]
 have h : (Nat.gcd n d : Int) ∣ (n : Int) := Int.natCast_dvd_natCast.2 (Nat.gcd_dvd_left n d)
 obtain ⟨q, hq, hq0⟩ : ∃ q : Nat, (n : Int) / (Nat.gcd n d : Int) = (q : Int) /\ q ≠ 0 := ⟨n / Nat.gcd n d, by simp, h0⟩
 unfold sgn
 cases neg with
 | false => simp only [Bool.false_eq_true, if_false, hq]; exact decide_eq_false (by omega)
 | true => simp only [if_true]; rw [Int.neg_ediv_of_dvd h, hq]; exact decide_eq_true (by omega)
theorem zsj (x y : Rat) : x * y = mkRat (sgn (decide (x.num < 0) != decide (y.num < 0)) (x.num.natAbs * y.num.natAbs)) (x.den * y.den) := by
 rw [Rat.mul_def']
 congr 1
 conv => lhs; rw [<- zex x, <- zex y]
 generalize x.num.natAbs = a
 generalize y.num.natAbs = b
 unfold sgn
 cases decide (x.num < 0) <;> cases decide (y.num < 0) <;> simp [Int.mul_neg, Int.neg_mul]
def Dl (x : Rat) (N : Nat) : Prop := x.num.natAbs < 10 ^ N /\ x.den < 10 ^ N
theorem Dl.mono {x : Rat} {N M : Nat} (h : Dl x N) (hN : N <= M) : Dl x M := ⟨Nat.lt_of_lt_of_le h.1 (Nat.pow_le_pow_right (by omega) hN), Nat.lt_of_lt_of_le h.2 (Nat.pow_le_pow_right (by omega) hN)⟩
theorem Dl.mk (neg : Bool) {n d N : Nat} (hd : d ≠ 0) (hn : n < 10 ^ N) (hd2 : d < 10 ^ N) : Dl (mkRat (sgn neg n) d) N := by
 refine ⟨?_, ?_⟩
 ·rw [zoe neg n d hd]; exact Nat.lt_of_le_of_lt (Nat.div_le_self _ _) hn
 ·rw [zof neg n d hd]; exact Nat.lt_of_le_of_lt (Nat.div_le_self _ _) hd2
theorem z6u {a b N M : Nat} (h : a < 10 ^ N) (k : b < 10 ^ M) : a * b < 10 ^ (N + M) := by
 rw [Nat.pow_add]
 exact Nat.mul_lt_mul_of_lt_of_le h (Nat.le_of_lt k) (Nat.pow_pos (by omega))
theorem Dl.mul {x y : Rat} {N M : Nat} (h : Dl x N) (k : Dl y M) : Dl (x * y) (N + M) := by
 rw [zsj]
 exact .mk _ (Nat.mul_ne_zero x.den_nz y.den_nz) (z6u h.1 k.1) (z6u h.2 k.2)
theorem Dl.zero : Dl 0 1 := ⟨by decide, by decide⟩
theorem Dl.one : Dl 1 1 := ⟨by decide, by decide⟩
theorem zsk (a : Int) : a = sgn (decide (a < 0)) a.natAbs := by unfold sgn; by_cases h : a < 0 <;> simp [h] <;> omega
theorem Dl.add {x y : Rat} {N M : Nat} (h : Dl x N) (k : Dl y M) : Dl (x + y) (N + M + 1) := by
 rw [Rat.add_def']
 rw [zsk (x.num * y.den + y.num * x.den)]
 have h1 := z6u h.1 k.2
 have h2 := z6u k.1 h.2
 have h3 : (x.num * (y.den : Int) + y.num * (x.den : Int)).natAbs <= x.num.natAbs * y.den + y.num.natAbs * x.den := by
  refine Nat.le_trans (Int.natAbs_add_le _ _) ?_
  rw [Int.natAbs_mul, Int.natAbs_mul]; simp
 rw [Nat.add_comm M N] at h2
 refine .mk _ (Nat.mul_ne_zero x.den_nz y.den_nz) ?_ ?_
 ·rw [Nat.pow_succ]; omega
 ·have := z6u h.2 k.2
  rw [Nat.pow_succ]; omega
theorem Dl.neg {x : Rat} {N : Nat} (h : Dl x N) : Dl (-x) N := ⟨by rw [Rat.neg_num, Int.natAbs_neg]; exact h.1, by rw [Rat.neg_den]; exact h.2⟩
theorem Dl.sub {x y : Rat} {N M : Nat} (h : Dl x N) (k : Dl y M) : Dl (x - y) (N + M + 1) := by
 rw [Rat.sub_eq_add_neg]; exact h.add k.neg
theorem Dl.pos {x : Rat} {N : Nat} (h : Dl x N) : 1 <= N := by
 refine Nat.not_lt.1 fun hlt => ?_
 have : N = 0 := by omega
 subst this
 have := h.2
 have := x.den_pos
 simp at *; omega
end Go.Am
/- Plain law: the parts of a rational number's text; its error. -/
namespace Go.Am.Tryz
open Go Go.Am Go.Proofs
variable {K : Nat}
structure Sp (s : zAd) (neg : Bool) (n : zAd) (many : Bool) (d : zAd) : Prop where
 eq : z04 s = (if neg then [45] else []) ++ (z04 n ++ (if many then 47 :: z04 d else []))
 no : 47 ∉ z04 n
 hd : neg = false -> (z04 s).head? ≠ some 45
theorem zh8 {x : Int} : ∀ {l1 l2 r1 r2 : List Int}, l1 ++ r1 = l2 ++ r2 -> x ∉ l1 -> x ∉ l2 -> (r1 = [] \/ r1.head? = some x) -> (r2 = [] \/ r2.head? = some x) -> l1 = l2 /\ r1 = r2
 | [], [], _, _, h, _, _, _, _ => ⟨rfl, by simpa using h⟩
 | [], b :: l2, r1, r2, h, _, h2, h3, _ => by
  simp only [List.nil_append, List.cons_append] at h
  subst h
  simp at h3
  subst h3
  simp at h2
 | a :: l1, [], r1, r2, h, h1, _, _, h4 => by
  simp only [List.nil_append, List.cons_append] at h
  subst h
  simp at h4
  subst h4
  simp at h1
 | a :: l1, b :: l2, r1, r2, h, h1, h2, h3, h4 => by
  simp only [List.cons_append, List.cons.injEq] at h
  obtain ⟨rfl, h⟩ := h
  obtain ⟨e1, e2⟩ := zh8 h (fun hx => h1 (by simp [hx])) (fun hx => h2 (by simp [hx])) h3 h4
  exact ⟨by rw [e1], e2⟩
theorem Sp.uniq {s n d n' d' : zAd} {neg neg' many many' : Bool} (h : Sp s neg n many d) (k : Sp s neg' n' many' d') : neg = neg' /\ n = n' /\ many = many' /\ (many = true -> d = d') := by
 have e1 : neg = neg' := by
  cases neg <;> cases neg'
  ·rfl
  ·have := h.hd rfl; rw [k.eq] at this; simp at this
  ·have := k.hd rfl; rw [h.eq] at this; simp at this
  ·rfl
 subst e1
 have e2 := List.append_cancel_left (h.eq.symm.trans k.eq)
 obtain ⟨e3, e4⟩ := zh8 e2 h.no k.no (by cases many <;> simp) (by cases many' <;> simp)
 refine ⟨rfl, z52 e3, ?_⟩
 cases many <;> cases many'
 ·exact ⟨rfl, fun h => by cases h⟩
 ·simp at e4
 ·simp at e4
 ·simp at e4; exact ⟨rfl, fun _ => z52 e4⟩
theorem Sp.size {s n d : zAd} {neg many : Bool} (h : Sp s neg n many d) : n.size <= s.size /\ (many = true -> d.size <= s.size) := by
 have := congrArg List.length h.eq
 simp only [List.length_append, z02] at this
 refine ⟨by omega, fun hm => ?_⟩
 subst hm
 simp only [if_true, List.length_cons, z02] at this
 omega
theorem z6v (s : zAd) {i j : Nat} (h : i <= j) (hj : j <= s.size) : z04 (s.extract i j) = ((z04 s).drop i).take (j - i) /\ (s.extract i j).size = j - i := by
 have h1 := z3u s i j
 refine ⟨h1, ?_⟩
 rw [<- z02, h1, List.length_take, List.length_drop, z02]; omega
theorem zi1 (K : Nat) (s : zAd) : ∃ s1 neg, z24 K s ⟨#[45]⟩ = some (s1, neg) /\ z04 s = (if neg then [45] else []) ++ z04 s1 /\ (neg = false -> (z04 s).head? ≠ some 45) /\ s1.size <= s.size := by
 unfold z24 z1k z1j
 have hn := z02 s
 have e1 : ((⟨#[45]⟩ : zAd).size : Int) = 1 := rfl
 rw [e1]
 by_cases h0 : s.size = 0
 ·have hb : z04 s = [] := List.length_eq_zero_iff.1 (by omega)
  refine ⟨s, false, ?_, by simp, fun _ => by rw [hb]; simp, Nat.le_refl _⟩
  rw [h0]
  rfl
 ·obtain ⟨c, l, hc⟩ : ∃ c l, z04 s = c :: l := by
   cases hb : z04 s with
   | nil => rw [hb] at hn; simp at hn; omega
   | cons c l => exact ⟨c, l, rfl⟩
  have hx : ssl s 0 1 = some (s.extract 0 1) := by rw [sslI (by omega) (by omega) (by omega)]; rfl
  have hxb : z04 (s.extract 0 1) = [c] := by rw [(z6v s (by omega) (by omega)).1, hc]; rfl
  rw [decide_eq_true (by omega), if_pos rfl, hx, z0n, z0n, tu1a, z0n]
  by_cases h45 : c = 45
  ·have he : sEq (s.extract 0 1) ⟨#[45]⟩ = true := z5z.2 (z52 (by rw [hxb, h45]; rfl))
   obtain ⟨t, t1, t2, t3⟩ := zg0 hc
   refine ⟨t, true, ?_, by rw [hc, t2, h45]; rfl, fun h => by (cases h), by rw [hc] at hn; simp at hn; omega⟩
   rw [he]
   simp only [Bool.not_true, Bool.false_eq_true, if_false]
   rw [t1, z0n, z0n]
  ·have he : sEq (s.extract 0 1) ⟨#[45]⟩ = false := zu7 (fun e => by
    have := congrArg z04 e
    rw [hxb] at this
    have e2 : z04 (⟨#[45]⟩ : zAd) = [45] := rfl
    rw [e2] at this
    simp at this; exact h45 this)
   refine ⟨s, false, ?_, by simp, fun _ => by rw [hc]; simpa using h45, Nat.le_refl _⟩
   rw [he]
   rfl
theorem zbl (c : UInt8) : ∀ (l : List UInt8), (Lib.indexByte l c = -1 /\ c ∉ l) \/ ∃ i : Nat, Lib.indexByte l c = i /\ i < l.length /\ l[i]? = some c /\ c ∉ l.take i
 | [] => .inl ⟨rfl, by simp⟩
 | b :: l => by
  rw [Lib.indexByte]
  by_cases hb : b = c
  ·subst hb; exact .inr ⟨0, by simp, by simp, by simp, by simp⟩
  ·have hb' : (b == c) = false := by simpa using hb
   rw [hb']
   rcases zbl c l with ⟨h1, h2⟩ | ⟨i, h1, h2, h3, h4⟩
   ·refine .inl ⟨by rw [h1]; rfl, ?_⟩
    simp only [List.mem_cons, not_or]
    exact ⟨fun e => hb e.symm, h2⟩
   ·refine .inr ⟨i + 1, ?_, by simp; omega, by simpa using h3, ?_⟩
    ·rw [h1]
     have : ((i : Int) == -1) = false := by rw [beq_eq_false_iff_ne]; omega
     rw [this]
     simp
    ·rw [List.take_succ_cons]
     simp only [List.mem_cons, not_or]
     exact ⟨fun e => hb e.symm, h4⟩
theorem zix {c : UInt8} {l : List UInt8} (h : ((c.toNat : Nat) : Int) ∈ l.map (fun b => (b.toNat : Int))) : c ∈ l := by
 rw [List.mem_map] at h
 obtain ⟨b, hb, he⟩ := h
 have : b = c := UInt8.toNat_inj.1 (by omega)
 subst this; exact hb
theorem zu8 {s : zAd} (hs : s.size <= 1048576) : ∃ n d many, z4t K s ⟨#[47]⟩ = some (n, d, many) /\ z04 s = z04 n ++ (if many then 47 :: z04 d else []) /\ 47 ∉ z04 n /\ (many = false -> d = ⟨#[]⟩) := by
 have hn := z02 s
 have hx : z1e K s ⟨#[47]⟩ = some (Lib.indexByte s.data.toList 47) := by
  unfold z1e z2h
  have e1 : (((⟨#[47]⟩ : zAd).size : Int) == 0) = false := rfl
  have e2 : (((⟨#[47]⟩ : zAd).size : Int) == 1) = true := rfl
  have e3 : bidx (⟨#[47]⟩ : zAd) 0 = some 47 := rfl
  rw [e1, e2, e3]
  simp only [Bool.false_eq_true, if_false, z0n, tu1a, if_true]
  by_cases he : sEq ⟨#[47]⟩ s = true
  ·rw [he, if_pos rfl]
   rw [z5z] at he
   subst he
   rfl
  ·rw [if_neg he]
   rfl
 unfold z4t z2m
 rw [hx, z0n]
 rcases zbl 47 s.data.toList with ⟨h1, h2⟩ | ⟨i, h1, h2, h3, h4⟩
 ·refine ⟨s, ⟨#[]⟩, false, by rw [h1]; rfl, by simp, fun h => h2 (zix h), fun _ => rfl⟩
 ·rw [Array.length_toList] at h2
  have h2' : i < s.size := h2
  have ea := z6v s (i := 0) (j := i) (by omega) (by omega)
  have eb := z6v s (i := i + 1) (j := s.size) (by omega) (by omega)
  refine ⟨s.extract 0 i, s.extract (i + 1) s.size, true, ?_, ?_, ?_, fun h => by cases h⟩
  ·have e1 : ((⟨#[47]⟩ : zAd).size : Int) = 1 := rfl
   have t0 : Int.toNat 0 = 0 := rfl
   have t1 : ((i : Int) + 1).toNat = i + 1 := by omega
   rw [h1, if_pos (decide_eq_true (by omega)), sslI (by omega) (by omega) (by omega), z0n, e1, k64 (by omega) (by omega), sslI (by omega) (by omega) (by omega), z0n, z0n, t1]
   rfl
  ·rw [ea.1, eb.1]
   have h5 : (z04 s)[i]? = some 47 := by unfold z04; rw [List.getElem?_map, h3]; rfl
   have h6 : i < (z04 s).length := by omega
   rw [zAh h6] at h5
   simp only [if_true, List.drop_zero, Nat.sub_zero]
   rw [List.take_of_length_le (l := (z04 s).drop (i + 1)) (by rw [List.length_drop]; omega)]
   conv => lhs; rw [<- List.take_append_drop i (z04 s), List.drop_eq_getElem_cons h6]
   rw [zAa h5]
  ·rw [ea.1, List.drop_zero, Nat.sub_zero]
   intro h
   unfold z04 at h
   rw [<- List.map_take] at h
   exact h4 (zix h)
theorem ze6 (K : Nat) {s : zAd} (hs : s.size <= 1048576) : ∃ s1 neg n d many, z24 K s ⟨#[45]⟩ = some (s1, neg) /\ z4t K s1 ⟨#[47]⟩ = some (n, d, many) /\ Sp s neg n many d /\ z04 s = (if neg then [45] else []) ++ z04 s1 /\ (many = false -> d = ⟨#[]⟩) := by
 obtain ⟨s1, neg, h1, h2, h3, h4⟩ := zi1 K s
 obtain ⟨n, d, many, c1, c2, c3, c4⟩ := zu8 (K := K) (s := s1) (by omega)
 exact ⟨s1, neg, n, d, many, h1, c1, ⟨by rw [h2, c2], c3, h3⟩, h2, c4⟩
def ratS (neg : Bool) (n : zAd) (many : Bool) (d : zAd) : Int :=
 if natE n = 5 \/ (many = true /\ natE d = 5) \/ (neg = true /\ n = ⟨#[48]⟩) then 5 else if natE n ≠ 0 \/ (many = true /\ natE d ≠ 0) then 2 else
 if many = true /\ (d = ⟨#[48]⟩ \/ d = ⟨#[49]⟩ \/ Nat.gcd (numT n).toNat (numT d).toNat ≠ 1) then 3 else 0
theorem zbm (a b : zAd) : sEq a b = decide (a = b) := by
 by_cases h : a = b
 ·rw [decide_eq_true h]; exact z5z.2 h
 ·rw [decide_eq_false h]; exact zu7 h
theorem zsl (G : Nat) : ((if (G : Int) < 1 then (-1 : Int) else if (G : Int) = 1 then 0 else 1) != 0) = decide (G ≠ 1) := by
 by_cases hG : G = 1
 ·subst hG; rfl
 ·rw [decide_eq_true hG]
  by_cases h0 : (G : Int) < 1
  ·rw [if_pos h0]; rfl
  ·rw [if_neg h0, if_neg (by omega)]; rfl
theorem zsm : natE ⟨#[48]⟩ = 0 := (zch _).2 ⟨zg4, by decide⟩
theorem zog {s n d : zAd} {neg many : Bool} (hs : s.size <= 1048576) (hK : 2000000000 < K) (h : Sp s neg n many d) : z7a K s = some (ratS neg n many d) := by
 obtain ⟨s1, neg', n', d', many', c1, c2, c3, c4, c5⟩ := ze6 K hs
 obtain ⟨rfl, rfl, rfl, hd⟩ := h.uniq c3
 have hsz := h.size
 unfold z7a ratS
 rw [c1, z0n, c2, z0n]
 dsimp only
 rw [zh7 (by omega) (by omega), z0n]
 cases many with
 | false =>
  simp only [Bool.false_eq_true, if_false, z0n, tu1a, false_and, false_or, or_false]
  by_cases e5 : natE n = 5
  ·simp [e5, z0n, tu1a]
  ·have e5' : (natE n == 5) = false := by rw [beq_eq_false_iff_ne]; exact e5
   have e05 : ((0 : Int) == 5) = false := rfl
   rw [e5', e05]
   cases neg <;> by_cases e0 : natE n = 0 <;> by_cases en : n = ⟨#[48]⟩ <;> simp [e0, e5, en, zbm, z0n, tu1a, zsm]
 | true =>
  have hdd := hd rfl
  subst hdd
  simp only [if_true, true_and]
  rw [zh7 (by have := hsz.2 rfl; omega) (by have := hsz.2 rfl; omega)]
  simp only [z0n, tu1a]
  by_cases e5 : natE n = 5
  ·simp [e5, z0n, tu1a]
  ·have e5' : (natE n == 5) = false := by rw [beq_eq_false_iff_ne]; exact e5
   by_cases f5 : natE d = 5
   ·simp [e5, f5, z0n, tu1a]
   ·have f5' : (natE d == 5) = false := by rw [beq_eq_false_iff_ne]; exact f5
    have hneg : (if neg = true then some (sEq n (⟨#[48]⟩ : zAd)) else some false) = some (decide (neg = true /\ n = ⟨#[48]⟩)) := by
     cases neg <;> simp [zbm]
    rw [e5', f5', hneg]
    simp only [Bool.false_eq_true, if_false, z0n, tu1a, e5, f5, false_or]
    by_cases hz : neg = true /\ n = ⟨#[48]⟩
    ·rw [decide_eq_true hz, if_pos rfl, if_pos hz]
    ·rw [decide_eq_false hz, if_neg (by simp), if_neg hz]
     by_cases e0 : natE n = 0
     ·by_cases f0 : natE d = 0
      ·obtain ⟨cn, ln⟩ := (zch n).1 e0
       obtain ⟨cd, ld⟩ := (zch d).1 f0
       obtain ⟨x, x1, x2, x3⟩ := zc5 (K := K) (s := n) (by omega) hK cn.2.1
       obtain ⟨y, y1, y2, y3⟩ := zc5 (K := K) (s := d) (by omega) hK cd.2.1
       have nn := z4g cn.2.1
       have nd := z4g cd.2.1
       obtain ⟨g, g1, g2⟩ := zpd (K := K) (x := x) (y := y) (a := (numT n).toNat) (b := (numT d).toNat) (by omega) (by omega) hK (by rw [Int.toNat_of_nonneg nn]; exact x2) (by rw [Int.toNat_of_nonneg nd]; exact y2)
       have gl : g.length <= 1000000 := by
        by_cases h0 : (numT d).toNat = 0
        ·rw [h0, Nat.gcd_zero_right, Int.toNat_of_nonneg nn] at g2
         rw [g2.inj x2]; omega
        ·have := zas g2 y2 (by have := Nat.gcd_le_right (n := (numT d).toNat) (numT n).toNat (by omega); omega)
         omega
       have hc := zio (K := K) (x := g) (y := [1]) (by omega) (by simp) hK g2 (.one (by omega) (by omega))
       have hcv : ((if ((Nat.gcd (numT n).toNat (numT d).toNat : Nat) : Int) < 1 then (-1 : Int) else if ((Nat.gcd (numT n).toNat (numT d).toNat : Nat) : Int) = 1 then 0 else 1) != 0) = decide (Nat.gcd (numT n).toNat (numT d).toNat ≠ 1) := by
        exact zsl _
       rw [e0, f0]
       simp only [bne_self_eq_false, Bool.false_eq_true, if_false, z0n, tu1a, ne_eq, not_true, or_self, x1, y1, g1, ziw hK, hc, hcv, zbm]
       by_cases d0 : d = ⟨#[48]⟩
       ·simp [d0, z0n, tu1a]
       ·by_cases d1 : d = ⟨#[49]⟩
        ·simp [d1, z0n, tu1a]
        ·by_cases hG : Nat.gcd (numT n).toNat (numT d).toNat = 1 <;> simp [d0, d1, hG, z0n, tu1a]
      ·simp [e0, f0, z0n, tu1a]
     ·simp [e0, z0n, tu1a]
end Go.Am.Tryz
/- Plain law: the reference's parts of a rational number's text and its error. -/
namespace Go.Am.Tryz
open Go Go.Am Go.Proofs
variable {K : Nat}
theorem zh9 {l r : List Int} {i : Nat} (h : i < l.length) : (l ++ r).getD i 0 = l.getD i 0 := by
 rw [zAb, List.getElem?_append_left h, zAb]
theorem zmf {l : List Int} {i : Nat} (h : i < l.length) : l.getD i 0 ∈ l := by
 rw [zAb, zAh h]; exact List.getElem_mem h
theorem zmg {s n : zAd} {r : List Int} (h : z04 s = z04 n ++ r) : s.extract 0 n.size = n := by
 have hl := congrArg List.length h
 rw [List.length_append, z02, z02] at hl
 apply z52
 rw [(z6v s (by omega) (by omega)).1, h, List.drop_zero, Nat.sub_zero, List.take_append_of_le_length (by rw [z02]; omega), List.take_of_length_le (by rw [z02]; omega)]
theorem ziy {s n d : zAd} (h : z04 s = z04 n ++ 47 :: z04 d) : s.extract (n.size + 1) s.size = d := by
 have hl := congrArg List.length h
 rw [List.length_append, List.length_cons, z02, z02, z02] at hl
 apply z52
 rw [(z6v s (by omega) (by omega)).1, h, List.drop_append, z02]
 rw [List.drop_eq_nil_of_le (by rw [z02]; omega), show n.size + 1 - n.size = 1 by omega]
 simp only [List.nil_append, List.drop_succ_cons, List.drop_zero]
 rw [List.take_of_length_le (by rw [z02]; omega)]
theorem zoh {s : zAd} {neg : Bool} {r : List Int} (h : z04 s = (if neg then [45] else []) ++ r) (hd : neg = false -> (z04 s).head? ≠ some 45) (K : Nat) :
  ∃ s1, (Option.bind ((if (decide ((s.size : Int) > 0)) = true then ((bidx s 0).bind fun x7 => some (x7 == 45)) else some false)) (tu1 fun x11 => ((if x11 = true then ((ssl s 1 (s.size : Int)).bind fun x26 => some (x26, true)) else some (s, false))))) = some (s1, neg) /\ z04 s1 = r /\ s1.size <= s.size := by
 have hn := z02 s
 cases neg with
 | true =>
  simp only [if_true, List.cons_append, List.nil_append] at h
  obtain ⟨t, t1, t2, t3⟩ := zg0 h
  have hb : bidx s 0 = some 45 := by rw [zab, h]; rfl
  have hs : 0 < s.size := by rw [h] at hn; simp at hn; omega
  refine ⟨t, ?_, t2, by rw [h] at hn; simp at hn; omega⟩
  rw [decide_eq_true (by omega), if_pos rfl, hb, z0n, z0n, tu1a]
  simp only [beq_self_eq_true, if_true, t1, z0n]
 | false =>
  simp only [Bool.false_eq_true, if_false, List.nil_append] at h
  refine ⟨s, ?_, h, Nat.le_refl _⟩
  by_cases h0 : 0 < s.size
  ·cases hb : z04 s with
   | nil => rw [hb] at hn; simp at hn; omega
   | cons c l =>
    have hc : c ≠ 45 := fun e => hd rfl (by rw [hb, e]; rfl)
    have hx : bidx s 0 = some c := by rw [zab, hb]; rfl
    have e : (c == 45) = false := by rw [beq_eq_false_iff_ne]; exact hc
    rw [decide_eq_true (by omega), if_pos rfl, hx, z0n, e, z0n, tu1a]
    rfl
  ·rw [decide_eq_false (by omega)]
   rfl
theorem zjw {s n d : zAd} {many : Bool} (hs : s.size <= 1048576) (hK : 2000000000 < K) (h : z04 s = z04 n ++ (if many then 47 :: z04 d else [])) (hno : 47 ∉ z04 n) :
  ∃ r : Int × zAd × zAd, z21 K s K 1 s ⟨#[50]⟩ 0 = some r /\ r = (if many then (2, n, d) else (1, s, ⟨#[50]⟩)) := by
 have hn := z02 s
 have hln : n.size <= s.size := by
  have := congrArg List.length h
  rw [List.length_append, z02, z02] at this; omega
 have hlt : many = true -> n.size < s.size := fun hm => by
  subst hm
  have := congrArg List.length h
  rw [List.length_append, z02, z02] at this
  simp at this; omega
 refine zav (fun k (q : Int × zAd × zAd × Int) => z21 K s k q.1 q.2.1 q.2.2.1 q.2.2.2) (fun q => ∃ i : Nat, q.2.2.2 = i /\ i <= s.size /\ (q.1, q.2.1, q.2.2.1) = (if many = true /\ n.size < i then (2, n, d) else (1, s, ⟨#[50]⟩))) (fun q => (s.size - q.2.2.2 : Int).toNat) _ ?_ ((1, s, ⟨#[50]⟩, 0) : Int × zAd × zAd × Int) (by dsimp only; omega) ⟨0, rfl, by omega, by rw [if_neg (by omega)]⟩
 rintro k ⟨m, a, b, _⟩ ⟨i, rfl, h0, h1⟩
 dsimp only at h1 ⊢
 by_cases hi : i < s.size
 ·right
  have hb : bidx s i = some ((z04 s).getD i 0) := by rw [ztd (by omega) (by omega), Int.toNat_natCast]
  by_cases c : many = true /\ n.size < i
  ·rw [if_pos c] at h1
   simp only [Prod.mk.injEq] at h1
   obtain ⟨rfl, rfl, rfl⟩ := h1
   refine ⟨(2, a, b, (i : Int) + 1), ?_, by dsimp only; omega, i + 1, rfl, by omega, by rw [if_pos ⟨c.1, by omega⟩]⟩
   rw [z21, if_pos (decide_eq_true (by omega)), hb, z0n, k64 (by omega) (by omega)]
   have e : ((2 : Int) == 1) = false := rfl
   rw [e]
   by_cases c2 : (z04 s).getD i 0 == 47 <;> simp [c2, z0n, tu1a, tu3a]
  ·rw [if_neg c] at h1
   simp only [Prod.mk.injEq] at h1
   obtain ⟨rfl, rfl, rfl⟩ := h1
   by_cases c3 : many = true /\ i = n.size
   ·obtain ⟨hm, rfl⟩ := c3
    subst hm
    simp only [if_true] at h
    have hch : (z04 a).getD n.size 0 = 47 := by
     rw [h, zAb, List.getElem?_append_right (by rw [z02]; omega), z02]
     simp
    refine ⟨(2, n, d, (n.size : Int) + 1), ?_, by dsimp only; omega, n.size + 1, rfl, by omega, by rw [if_pos ⟨rfl, by omega⟩]⟩
    have t0 : Int.toNat 0 = 0 := rfl
    have t1 : ((n.size : Int) + 1).toNat = n.size + 1 := by omega
    rw [z21, if_pos (decide_eq_true (by omega)), hb, z0n, hch, k64 (by omega) (by omega), sslI (l := 0) (by omega) (by omega) (by omega), sslI (by omega) (by omega) (by omega), t0, t1, Int.toNat_natCast, Int.toNat_natCast, zmg h, ziy h]
    rfl
   ·have hin : i < n.size := by
     cases many with
     | true => simp at c c3; omega
     | false =>
      simp only [Bool.false_eq_true, if_false, List.append_nil] at h
      have := congrArg List.length h
      rw [z02, z02] at this; omega
    have hch : (z04 a).getD i 0 ≠ 47 := fun e => by
     rw [h, zh9 (by rw [z02]; omega)] at e
     exact hno (e ▸ zmf (by rw [z02]; omega))
    have e : ((z04 a).getD i 0 == 47) = false := by rw [beq_eq_false_iff_ne]; exact hch
    refine ⟨(1, a, ⟨#[50]⟩, (i : Int) + 1), ?_, by dsimp only; omega, i + 1, rfl, by omega, by rw [if_neg (by omega)]⟩
    rw [z21, if_pos (decide_eq_true (by omega)), hb, z0n, e, k64 (by omega) (by omega)]
    rfl
 ·left
  have : i = s.size := by omega
  subst this
  refine ⟨(m, a, b), by rw [z21, if_neg (by simp)], ?_⟩
  cases many with
  | true => have := hlt rfl; simp only [true_and, if_pos this] at h1; exact h1
  | false => simpa using h1
theorem zoi {s n d : zAd} {neg many : Bool} (hs : s.size <= 1048576) (hK : 2000000000 < K) (h : Sp s neg n many d) : z6h K s = some (ratS neg n many d) := by
 have hsz := h.size
 obtain ⟨s1, h1, h2, h3⟩ := zoh h.eq h.hd K
 obtain ⟨r, r1, rfl⟩ := zjw (K := K) (s := s1) (n := n) (d := d) (many := many) (by omega) hK h2 h.no
 unfold z6h ratS
 -- the sign
 have hsplit : ∀ {α : Type} (F : zAd × Bool -> Option α), (Option.bind ((if (decide ((s.size : Int) > 0)) = true then ((bidx s 0).bind fun x7 => some (x7 == 45)) else some false)) (tu1 fun x11 => (Option.bind ((if x11 = true then ((ssl s 1 (s.size : Int)).bind fun x26 => some (x26, true)) else some (s, false))) F))) = F (s1, neg) := by
  intro α F
  have : ∀ (m : Option Bool) (f : Bool -> Option (zAd × Bool)), (Option.bind m (tu1 fun x => Option.bind (f x) F)) = Option.bind (Option.bind m (tu1 f)) F := by
   intro m f; cases m <;> rfl
  rw [this, h1]; rfl
 rw [hsplit, tu2a, r1, z0n, tu3a]
 cases many with
 | false =>
  have hs1 : s1 = n := z52 (by simpa using h2)
  subst hs1
  have e2 : natE ⟨#[50]⟩ = 0 := (zch _).2 ⟨⟨by decide, rfl, fun h => by simp [z04] at h⟩, by decide⟩
  simp only [Bool.false_eq_true, if_false, false_and, false_or, or_false]
  rw [zct (by omega) (by omega), zct (s := ⟨#[50]⟩) (by decide) (by show 1 < K; omega), z0n, z0n, e2]
  by_cases e5 : natE s1 = 5
  ·simp [e5, z0n, tu1a]
  ·have e5' : (natE s1 == 5) = false := by rw [beq_eq_false_iff_ne]; exact e5
   have e05 : ((0 : Int) == 5) = false := rfl
   rw [e5', e05]
   cases neg <;> by_cases e0 : natE s1 = 0 <;> by_cases en : s1 = ⟨#[48]⟩ <;> simp [e0, e5, en, zbm, z0n, tu1a, zsm]
 | true =>
  have hd := hsz.2 rfl
  simp only [if_true, true_and]
  rw [zct (by omega) (by omega), zct (s := d) (by omega) (by omega), z0n, z0n]
  by_cases e5 : natE n = 5
  ·simp [e5, z0n, tu1a]
  ·have e5' : (natE n == 5) = false := by rw [beq_eq_false_iff_ne]; exact e5
   by_cases f5 : natE d = 5
   ·simp [e5, f5, z0n, tu1a]
   ·have f5' : (natE d == 5) = false := by rw [beq_eq_false_iff_ne]; exact f5
    have hneg : (if neg = true then some (sEq n (⟨#[48]⟩ : zAd)) else some false) = some (decide (neg = true /\ n = ⟨#[48]⟩)) := by
     cases neg <;> simp [zbm]
    rw [e5', f5', hneg]
    simp only [Bool.false_eq_true, if_false, z0n, tu1a, e5, f5, false_or]
    by_cases hz : neg = true /\ n = ⟨#[48]⟩
    ·rw [decide_eq_true hz, if_pos rfl, if_pos hz]
    ·rw [decide_eq_false hz, if_neg (by simp), if_neg hz]
     by_cases e0 : natE n = 0
     ·by_cases f0 : natE d = 0
      ·obtain ⟨cn, ln⟩ := (zch n).1 e0
       obtain ⟨cd, ld⟩ := (zch d).1 f0
       have nn := z4g cn.2.1
       have nd := z4g cd.2.1
       obtain ⟨g, g1, g2, g3⟩ := zpe (K := K) (x := n) (y := d) (a := (numT n).toNat) (b := (numT d).toNat) (by omega) (by omega) hK cn cd (by omega) (by omega)
       have hg : (!(decide (g = ⟨#[49]⟩))) = decide (Nat.gcd (numT n).toNat (numT d).toNat ≠ 1) := by
        by_cases hG : Nat.gcd (numT n).toNat (numT d).toNat = 1
        ·have : g = ⟨#[49]⟩ := zar g2 z9v (by rw [g3, zc2, hG]; rfl)
         simp [this, hG]
        ·have : g ≠ ⟨#[49]⟩ := fun e => hG (by rw [e, zc2] at g3; omega)
         simp [this, hG]
       have e22 : ((2 : Int) == 2) = true := rfl
       rw [e0, f0, e22]
       simp only [bne_self_eq_false, Bool.false_eq_true, if_false, z0n, tu1a, ne_eq, not_true, or_self, g1, hg, zbm, if_true]
       by_cases d0 : d = ⟨#[48]⟩
       ·simp [d0, z0n, tu1a]
       ·by_cases d1 : d = ⟨#[49]⟩
        ·simp [d1, z0n, tu1a]
        ·by_cases hG : Nat.gcd (numT n).toNat (numT d).toNat = 1 <;> simp [d0, d1, hG, z0n, tu1a]
      ·simp [e0, f0, z0n, tu1a]
     ·simp [e0, z0n, tu1a]
theorem zmh {s n d : zAd} {many : Bool} {x1 : Int} (hs : s.size <= 1048576) (hK : 2000000000 < K) (h : z04 s = z04 n ++ (if many then 47 :: z04 d else [])) (hno : 47 ∉ z04 n) :
  ∃ r : (Bool × zAd × zAd) ⊕ Unit, z48 K x1 s K 0 = some r /\ r = (if many then .inl (x1 == 45, n, d) else .inr ()) := by
 have hn := z02 s
 have hln : n.size <= s.size := by
  have := congrArg List.length h
  rw [List.length_append, z02, z02] at this; omega
 refine zav (fun k (q : Int) => z48 K x1 s k q) (fun q => ∃ i : Nat, q = i /\ i <= n.size) (fun q => (s.size - q : Int).toNat) _ ?_ (0 : Int) (by omega) ⟨0, rfl, by omega⟩
 rintro k _ ⟨i, rfl, h0⟩
 by_cases hi : i < n.size
 ·right
  have hb : bidx s i = some ((z04 s).getD i 0) := by rw [ztd (by omega) (by omega), Int.toNat_natCast]
  have hch : (z04 s).getD i 0 ≠ 47 := fun e => by
   rw [h, zh9 (by rw [z02]; omega)] at e
   exact hno (e ▸ zmf (by rw [z02]; omega))
  have e : ((z04 s).getD i 0 == 47) = false := by rw [beq_eq_false_iff_ne]; exact hch
  refine ⟨(i : Int) + 1, ?_, by omega, i + 1, rfl, by omega⟩
  rw [z48, if_pos (decide_eq_true (by omega)), hb, z0n, e, k64 (by omega) (by omega)]
  rfl
 ·left
  have : i = n.size := by omega
  subst this
  cases many with
  | true =>
   simp only [if_true] at h
   have hlt : n.size < s.size := by
    have := congrArg List.length h
    rw [List.length_append, z02, z02] at this
    simp at this; omega
   have hb : bidx s n.size = some ((z04 s).getD n.size 0) := by rw [ztd (by omega) (by omega), Int.toNat_natCast]
   have hch : (z04 s).getD n.size 0 = 47 := by
    rw [h, zAb, List.getElem?_append_right (by rw [z02]; omega), z02]
    simp
   have t0 : Int.toNat 0 = 0 := rfl
   have t1 : ((n.size : Int) + 1).toNat = n.size + 1 := by omega
   refine ⟨_, ?_, rfl⟩
   rw [z48, if_pos (decide_eq_true (by omega)), hb, z0n, hch, k64 (by omega) (by omega), sslI (l := 0) (by omega) (by omega) (by omega), sslI (by omega) (by omega) (by omega), t0, t1, Int.toNat_natCast, Int.toNat_natCast, zmg h, ziy h]
   rfl
  | false =>
   simp only [Bool.false_eq_true, if_false, List.append_nil] at h
   have : n.size = s.size := by
    have := congrArg List.length h
    rw [z02, z02] at this; omega
   exact ⟨.inr (), by rw [z48, if_neg (by simp; omega)], rfl⟩
theorem zoj {s n d : zAd} {neg many : Bool} (hs : s.size <= 1048576) (h0 : s.size ≠ 0) (hK : 2000000000 < K) (h : Sp s neg n many d) : z76 K s = some (neg, n, if many then d else ⟨#[49]⟩) := by
 have hn := z02 s
 obtain ⟨c, l, hc⟩ : ∃ c l, z04 s = c :: l := by
  cases hb : z04 s with
  | nil => rw [hb] at hn; simp at hn; omega
  | cons c l => exact ⟨c, l, rfl⟩
 have hx : bidx s 0 = some c := by rw [zab, hc]; rfl
 have hneg : (c == 45) = neg := by
  cases neg with
  | true => have := h.eq; rw [hc] at this; simp at this; rw [this.1]; rfl
  | false => have := h.hd rfl; rw [hc] at this; simpa using this
 obtain ⟨s1, e1, e2, e3⟩ : ∃ s1, (if neg = true then ((ssl s 1 (s.size : Int)).bind fun x9 => some x9) else some s) = some s1 /\ z04 s1 = z04 n ++ (if many then 47 :: z04 d else []) /\ s1.size <= s.size := by
  cases neg with
  | true =>
   have he := h.eq
   simp only [if_true, List.cons_append, List.nil_append] at he
   obtain ⟨t, t1, t2, t3⟩ := zg0 he
   exact ⟨t, by rw [if_pos rfl, t1]; rfl, t2, by rw [he] at hn; rw [List.length_cons] at hn; omega⟩
  | false => exact ⟨s, rfl, by simpa using h.eq, Nat.le_refl _⟩
 obtain ⟨r, r1, rfl⟩ := zmh (K := K) (s := s1) (n := n) (d := d) (many := many) (x1 := c) (by omega) hK e2 h.no
 unfold z76
 rw [hx, z0n, hneg, e1, z0n, tu1a, r1]
 cases many with
 | true => simp only [if_true, zny, tu3a, hneg]
 | false =>
  have hs1 : s1 = n := z52 (by simpa using e2)
  subst hs1
  simp only [Bool.false_eq_true, if_false, zg1, tu0a]
end Go.Am.Tryz
/- Plain law: the program's rational numbers and their texts. -/
namespace Go.Am.Tryz
open Go Go.Am Go.Proofs
variable {K : Nat}
def RTx (s : zAd) (x : Rat) : Prop := ∃ n d, CanT n /\ CanT d /\ numT n = (x.num.natAbs : Nat) /\ numT d = (x.den : Nat) /\ Sp s (decide (x.num < 0)) n (decide (x.den ≠ 1)) d
theorem RTx.inj {s t : zAd} {x : Rat} (h : RTx s x) (k : RTx t x) : s = t := by
 obtain ⟨n, d, h1, h2, h3, h4, h5⟩ := h
 obtain ⟨n', d', k1, k2, k3, k4, k5⟩ := k
 have e1 : n = n' := zar h1 k1 (by rw [h3, k3])
 have e2 : d = d' := zar h2 k2 (by rw [h4, k4])
 subst e1 e2
 exact z52 (by rw [h5.eq, k5.eq])
theorem RTx.val {s : zAd} {x y : Rat} (h : RTx s x) (k : RTx s y) : x = y := by
 obtain ⟨n, d, h1, h2, h3, h4, h5⟩ := h
 obtain ⟨n', d', k1, k2, k3, k4, k5⟩ := k
 obtain ⟨e1, rfl, e3, e4⟩ := h5.uniq k5
 have e5 : x.num = y.num := by
  rw [<- zex x, <- zex y, e1]
  congr 1
  omega
 have e6 : x.den = y.den := by
  by_cases c : x.den ≠ 1
  ·have := e4 (decide_eq_true c)
   subst this; omega
  ·have c2 : ¬ y.den ≠ 1 := fun c2 => by
    rw [decide_eq_false c, decide_eq_true c2] at e3; cases e3
   omega
 exact Rat.ext e5 e6
def QV (a : Q) (x : Rat) : Prop := a.neg = decide (x.num < 0) /\ NumN (x.num.natAbs : Nat) a.num /\ (NumN (x.den : Nat) a.den \/ (a.den = [] /\ x.den = 1))
theorem zat (N : Nat) : ((10 ^ N : Nat) : Int) = (10 : Int) ^ N := by simp
theorem zmi {n N : Nat} {l : List Int} (h : NumN n l) (hn : n < 10 ^ N) : l.length <= N / 9 + 1 := by
 refine Nat.not_lt.1 fun hlt => ?_
 have g1 := zlw (B := 1000000000) (by omega) h.1 (by rintro rfl; simp at hlt)
 rw [h.2] at g1
 have g5 : (1000000000 : Int) = 10 ^ 9 := by decide
 rw [g5, <- Int.pow_mul] at g1
 have g2 : (10 : Int) ^ N <= 10 ^ (9 * (l.length - 1)) := z8a (by omega) (by omega)
 have g4 : (n : Int) < (10 : Int) ^ N := by rw [<- zat]; omega
 omega
theorem ze7 {n N : Nat} {t : zAd} (h : CanT t) (ht : numT t = n) (hn : n < 10 ^ N) : t.size <= N + 1 := by
 refine Nat.not_lt.1 fun hlt => ?_
 have g1 := zh5 h (by omega)
 have g2 : (10 : Int) ^ N <= 10 ^ (t.size - 1) := z8a (by omega) (by omega)
 have g4 : (n : Int) < (10 : Int) ^ N := by rw [<- zat]; omega
 omega
theorem ziz {n N : Nat} {t : zAd} (h : (z04 t).all digT = true) (ht : numT t = n) (hN : t.size <= N) : n < 10 ^ N := by
 have g1 := ze0 h
 have g2 : (10 : Int) ^ t.size <= 10 ^ N := z8a (by omega) hN
 have g4 : (n : Int) < (10 : Int) ^ N := by omega
 rw [<- zat] at g4
 omega
theorem QV.lens9 {a : Q} {x : Rat} {N : Nat} (h : QV a x) (hx : Dl x N) : a.num.length <= N / 9 + 1 /\ a.den.length <= N / 9 + 1 := by
 refine ⟨zmi h.2.1 hx.1, ?_⟩
 rcases h.2.2 with h2 | ⟨h2, _⟩
 ·exact zmi h2 hx.2
 ·rw [h2]; exact Nat.zero_le _
theorem QV.zero : QV ⟨false, [], []⟩ 0 := ⟨rfl, .nil, .inr ⟨rfl, rfl⟩⟩
theorem QV.num0 {a : Q} {x : Rat} (h : QV a x) : a.num.length = 0 ↔ x = 0 := by
 rw [h.2.1.len0, <- Rat.num_eq_zero]; omega
theorem zmj {a : Q} {x : Rat} (h : QV a x) (hK : 2000000000 < K) : ∃ w, z41 K a = some w /\ NumN (x.den : Nat) w /\ w.length <= max a.den.length 1 := by
 unfold z41
 rcases h.2.2 with h2 | ⟨h2, h3⟩
 ·have hp := x.den_pos
  have h0 : a.den.length ≠ 0 := fun e => by have := h2.len0.1 e; omega
  refine ⟨a.den, ?_, h2, by omega⟩
  rw [if_neg (by rw [beq_iff_eq]; omega)]
 ·refine ⟨[1], ?_, by rw [h3]; exact .one (by omega) (by omega), by simp; omega⟩
  rw [h2, if_pos (by rfl), ziw hK, z0n]
theorem zqu {neg : Bool} {n d : Nat} {num den : List Int} (hd : d ≠ 0) (hn : NumN n num) (hdn : NumN d den) (l1 : num.length <= 3000000) (l2 : den.length <= 3000000) (hK : 2000000000 < K) :
  ∃ q, z8j K neg num den = some q /\ QV q (mkRat (sgn neg n) d) := by
 unfold z8j
 by_cases h0 : num.length = 0
 ·have e := hn.len0.1 h0
  have e' : n = 0 := by omega
  subst e'
  refine ⟨⟨false, [], []⟩, by rw [if_pos (by rw [beq_iff_eq]; omega)], ?_⟩
  have : mkRat (sgn neg 0) d = 0 := by
   have : sgn neg 0 = 0 := by cases neg <;> rfl
   rw [this, Rat.zero_mkRat]
  rw [this]; exact QV.zero
 ·have hn0 : n ≠ 0 := fun e => h0 (hn.len0.2 (by omega))
  obtain ⟨g, g1, g2⟩ := zpd (K := K) (by omega) (by omega) hK hn hdn
  have gp : 0 < Nat.gcd n d := Nat.gcd_pos_of_pos_left d (by omega)
  have gl := zas g2 hn (by have := Nat.gcd_le_left (m := n) d (by omega); omega)
  have hc := zio (K := K) (x := g) (y := [1]) (by omega) (by simp) hK g2 (.one (by omega) (by omega))
  rw [if_neg (by rw [beq_iff_eq]; omega), g1, z0n, ziw hK, z0n, hc, z0n]
  have m1 := zoe neg n d hd
  have m2 := zof neg n d hd
  have m3 := zqt neg n d hd hn0
  by_cases h1 : Nat.gcd n d = 1
  ·refine ⟨⟨neg, num, den⟩, ?_, m3.symm, ?_, .inl ?_⟩
   ·rw [h1]; rfl
   ·rw [m1, h1, Nat.div_one]; exact hn
   ·rw [m2, h1, Nat.div_one]; exact hdn
  ·obtain ⟨q1, r1, a1, a2, a3, a4, a5⟩ := zis (K := K) (x := num) (y := g) (by omega) (by omega) hK hn g2 (by omega)
   obtain ⟨q2, r2, b1, b2, b3, b4, b5⟩ := zis (K := K) (x := den) (y := g) (by omega) (by omega) hK hdn g2 (by omega)
   refine ⟨⟨neg, q1, q2⟩, ?_, m3.symm, ?_, .inl ?_⟩
   ·have e : decide ((if ((Nat.gcd n d : Nat) : Int) < 1 then (-1 : Int) else if ((Nat.gcd n d : Nat) : Int) = 1 then 0 else 1) > 0) = true := by
     rw [if_neg (by omega), if_neg (by omega)]; rfl
    rw [e, if_pos rfl, a1, z0n, b1, z0n, z0n, tu2a]
   ·rw [m1]
    have e : ((n : Int) / ((Nat.gcd n d : Nat) : Int)) = ((n / Nat.gcd n d : Nat) : Int) := by simp
    rw [e] at a2; exact a2
   ·rw [m2]
    have e : ((d : Int) / ((Nat.gcd n d : Nat) : Int)) = ((d / Nat.gcd n d : Nat) : Int) := by simp
    rw [e] at b2; exact b2
theorem zpf (p : Bool) (X Y : Nat) : sgn p (X + Y) = sgn p X + sgn p Y := by unfold sgn; cases p <;> simp <;> omega
theorem zj0 (p q : Bool) (h : p ≠ q) {X Y : Nat} (hXY : Y <= X) : sgn p (X - Y) = sgn p X + sgn q Y := by
 unfold sgn; cases p <;> cases q <;> simp at h ⊢ <;> omega
theorem zpg (p : Bool) (a b : Nat) : sgn p (a * b) = sgn p a * b := by unfold sgn; cases p <;> simp [Int.neg_mul]
theorem zmk (x y : Rat) : x + y = mkRat (sgn (decide (x.num < 0)) (x.num.natAbs * y.den) + sgn (decide (y.num < 0)) (y.num.natAbs * x.den)) (x.den * y.den) := by
 rw [zpg, zpg, zex, zex, Rat.add_def']
theorem zsn {a b : Q} {x y : Rat} {N : Nat} (ha : QV a x) (hb : QV b y) (dx : Dl x N) (dy : Dl y N) (hN : N <= 7000000) (hK : 2000000000 < K) : ∃ q, z84 K a b = some q /\ QV q (x + y) := by
 have la := ha.lens9 dx
 have lb := hb.lens9 dy
 have hN1 := dx.pos
 unfold z84
 by_cases hx : x = 0
 ·subst hx
  refine ⟨b, ?_, by rw [Rat.zero_add]; exact hb⟩
  rw [if_pos (by rw [beq_iff_eq]; have := ha.num0.2 rfl; omega)]
 ·have hx0 : a.num.length ≠ 0 := fun e => hx (ha.num0.1 e)
  rw [if_neg (by rw [beq_iff_eq]; omega)]
  by_cases hy : y = 0
  ·subst hy
   refine ⟨a, ?_, by rw [Rat.add_zero]; exact ha⟩
   rw [if_pos (by rw [beq_iff_eq]; have := hb.num0.2 rfl; omega)]
  ·have hy0 : b.num.length ≠ 0 := fun e => hy (hb.num0.1 e)
   rw [if_neg (by rw [beq_iff_eq]; omega)]
   obtain ⟨wa, wa1, wa2, wa3⟩ := zmj (K := K) ha hK
   obtain ⟨wb, wb1, wb2, wb3⟩ := zmj (K := K) hb hK
   obtain ⟨X, X1, X2, X3⟩ := zh4 (K := K) (x := a.num) (y := wb) (by omega) hK ha.2.1 wb2
   obtain ⟨Y, Y1, Y2, Y3⟩ := zh4 (K := K) (x := b.num) (y := wa) (by omega) hK hb.2.1 wa2
   obtain ⟨D, D1, D2, D3⟩ := zh4 (K := K) (x := wa) (y := wb) (by omega) hK wa2 wb2
   rw [wa1, wb1, z0n, X1, z0n, z0n, Y1, z0n, z0n, z0n, D1, z0n]
   rw [<- Int.natCast_mul] at X2 Y2 D2
   have hD : x.den * y.den ≠ 0 := Nat.mul_ne_zero x.den_nz y.den_nz
   rw [zmk, <- ha.1, <- hb.1]
   generalize x.num.natAbs * y.den = m at X2 ⊢
   generalize y.num.natAbs * x.den = n at Y2 ⊢
   by_cases hs : a.neg = b.neg
   ·obtain ⟨Z, Z1, Z2, Z3⟩ := zs9 (K := K) (x := X) (y := Y) (by omega) (by omega) hK X2 Y2
    rw [<- Int.natCast_add] at Z2
    obtain ⟨q, q1, q2⟩ := zqu (K := K) (neg := a.neg) hD Z2 D2 (by omega) (by omega) hK
    refine ⟨q, ?_, by rw [<- hs, <- zpf]; exact q2⟩
    rw [if_pos (by simpa using hs), Z1, z0n, q1, z0n]
   ·have hc := zio (K := K) (x := X) (y := Y) (by omega) (by omega) hK X2 Y2
    rw [if_neg (by simpa using hs), hc, z0n]
    by_cases hle : n <= m
    ·obtain ⟨Z, Z1, Z2, Z3⟩ := zp9 (K := K) (x := X) (y := Y) (by omega) hK X2 Y2 (by omega)
     rw [<- Int.natCast_sub hle] at Z2
     obtain ⟨q, q1, q2⟩ := zqu (K := K) (neg := a.neg) hD Z2 D2 (by omega) (by omega) hK
     refine ⟨q, ?_, by rw [<- zj0 _ _ hs hle]; exact q2⟩
     rw [if_pos (decide_eq_true (by rw [if_neg (by omega)]; split <;> omega)), Z1, z0n, q1, z0n]
    ·obtain ⟨Z, Z1, Z2, Z3⟩ := zp9 (K := K) (x := Y) (y := X) (by omega) hK Y2 X2 (by omega)
     rw [<- Int.natCast_sub (show m <= n by omega)] at Z2
     obtain ⟨q, q1, q2⟩ := zqu (K := K) (neg := b.neg) hD Z2 D2 (by omega) (by omega) hK
     refine ⟨q, ?_, by rw [Int.add_comm, <- zj0 _ _ (fun e => hs e.symm) (by omega)]; exact q2⟩
     have e : decide ((if ((m : Nat) : Int) < (n : Nat) then (-1 : Int) else if ((m : Nat) : Int) = (n : Nat) then 0 else 1) >= 0) = false := by
      rw [if_pos (by omega)]; rfl
     rw [e]
     simp only [Bool.false_eq_true, if_false]
     rw [Z1, z0n, q1, z0n]
theorem zso {a : Q} {x : Rat} (ha : QV a x) : ∃ q, z82 K a = some q /\ QV q (-x) := by
 unfold z82
 by_cases hx : x = 0
 ·subst hx
  refine ⟨a, ?_, by rw [Rat.neg_zero]; exact ha⟩
  rw [if_pos (by rw [beq_iff_eq]; have := ha.num0.2 rfl; omega)]
 ·have hx0 : a.num.length ≠ 0 := fun e => hx (ha.num0.1 e)
  refine ⟨⟨!a.neg, a.num, a.den⟩, by rw [if_neg (by rw [beq_iff_eq]; omega)], ?_, ?_, ?_⟩
  ·dsimp only
   rw [ha.1, Rat.neg_num]
   have : x.num ≠ 0 := fun e => hx (Rat.num_eq_zero.1 e)
   by_cases c : x.num < 0
   ·rw [decide_eq_true c, decide_eq_false (by omega)]; rfl
   ·rw [decide_eq_false c, decide_eq_true (by omega)]; rfl
  ·dsimp only
   rw [Rat.neg_num, Int.natAbs_neg]; exact ha.2.1
  ·dsimp only
   rw [Rat.neg_den]; exact ha.2.2
theorem zsp {a b : Q} {x y : Rat} {N : Nat} (ha : QV a x) (hb : QV b y) (dx : Dl x N) (dy : Dl y N) (hN : N <= 7000000) (hK : 2000000000 < K) : ∃ q, z85 K a b = some q /\ QV q (x - y) := by
 obtain ⟨m, m1, m2⟩ := zso (K := K) hb
 obtain ⟨q, q1, q2⟩ := zsn (K := K) ha m2 dx dy.neg hN hK
 exact ⟨q, by unfold z85; rw [m1, z0n, q1, z0n], by rw [Rat.sub_eq_add_neg]; exact q2⟩
theorem zqv {a : Q} {x : Rat} (ha : QV a x) : z7l K a = some (if x = 0 then 0 else if x.num < 0 then -1 else 1) := by
 unfold z7l
 by_cases hx : x = 0
 ·have := ha.num0.2 hx
  rw [if_pos (by rw [beq_iff_eq]; omega), if_pos hx]
 ·have hx0 : a.num.length ≠ 0 := fun e => hx (ha.num0.1 e)
  rw [if_neg (by rw [beq_iff_eq]; omega), if_neg hx, ha.1]
  by_cases c : x.num < 0 <;> simp [c]
end Go.Am.Tryz
/- Plain law: texts in and out of the program's rational numbers; the reference's sums and products. -/
namespace Go.Am.Tryz
open Go Go.Am Go.Proofs
variable {K : Nat}
theorem zph {d : zAd} (h : CanT d) : d = ⟨#[49]⟩ ↔ numT d = 1 := ⟨fun e => by rw [e, zc2], fun e => zar h z9v (by rw [e, zc2])⟩
theorem zml (N : Nat) (h : N ≠ 0) : 1 < 10 ^ N := Nat.one_lt_pow h (by omega)
theorem zuz {s n d : zAd} {neg many : Bool} (h : Sp s neg n many d) (h0 : ratS neg n many d = 0) : ∃ x, RTx s x /\ Dl x 2000 := by
 unfold ratS at h0
 by_cases c1 : natE n = 5 \/ (many = true /\ natE d = 5) \/ (neg = true /\ n = ⟨#[48]⟩)
 ·rw [if_pos c1] at h0; cases h0
 ·rw [if_neg c1] at h0
  by_cases c2 : natE n ≠ 0 \/ (many = true /\ natE d ≠ 0)
  ·rw [if_pos c2] at h0; cases h0
  ·rw [if_neg c2] at h0
   by_cases c3 : many = true /\ (d = ⟨#[48]⟩ \/ d = ⟨#[49]⟩ \/ Nat.gcd (numT n).toNat (numT d).toNat ≠ 1)
   ·rw [if_pos c3] at h0; cases h0
   ·have en : natE n = 0 := by
     by_cases e : natE n = 0
     ·exact e
     ·exact absurd (.inl e) c2
    obtain ⟨cn, ln⟩ := (zch n).1 en
    have nn := z4g cn.2.1
    have hNN : numT n = ((numT n).toNat : Int) := by omega
    have hneg : neg = true -> (numT n).toNat ≠ 0 := fun e hz => c1 (.inr (.inr ⟨e, (ze2 cn).1 (by omega)⟩))
    have lN := ziz (N := 2000) cn.2.1 hNN ln
    -- the number whose parts these are
    have key : ∀ (D : Nat) (d' : zAd), CanT d' -> numT d' = D -> D ≠ 0 -> Nat.gcd (numT n).toNat D = 1 -> D < 10 ^ 2000 -> (many = true ↔ D ≠ 1) -> Sp s neg n many d' -> ∃ x, RTx s x /\ Dl x 2000 := by
     intro D d' cd hD hD0 hg hD2 hm hsp
     have m1 := zoe neg (numT n).toNat D hD0
     have m2 := zof neg (numT n).toNat D hD0
     rw [hg, Nat.div_one] at m1 m2
     have m3 : decide ((mkRat (sgn neg (numT n).toNat) D).num < 0) = neg := by
      by_cases hz : (numT n).toNat = 0
      ·have : neg = false := by
        cases hne : neg with
        | false => rfl
        | true => exact absurd hz (hneg hne)
       subst this
       rw [hz]
       have : mkRat (sgn false 0) D = 0 := by have : sgn false 0 = 0 := rfl; rw [this, Rat.zero_mkRat]
       rw [this]; rfl
      ·exact zqt neg _ D hD0 hz
     refine ⟨mkRat (sgn neg (numT n).toNat) D, ⟨n, d', cn, cd, by rw [m1]; exact hNN, by rw [m2]; exact hD, ?_⟩, Dl.mk _ hD0 lN hD2⟩
     rw [m3, m2]
     have : decide (D ≠ 1) = many := by
      cases hmm : many with
      | false => exact decide_eq_false (fun h => by rw [hmm] at hm; have := hm.2 h; cases this)
      | true => exact decide_eq_true (hm.1 hmm)
     rw [this]
     exact hsp
    cases many with
    | false =>
     refine key 1 ⟨#[49]⟩ z9v zc2 (by omega) (Nat.gcd_one_right _) (zml 2000 (by omega)) (by simp) ⟨by simpa using h.eq, h.no, h.hd⟩
    | true =>
     have ed : natE d = 0 := by
      by_cases e : natE d = 0
      ·exact e
      ·exact absurd (.inr ⟨rfl, e⟩) c2
     obtain ⟨cd, ld⟩ := (zch d).1 ed
     have nd := z4g cd.2.1
     have hDD : numT d = ((numT d).toNat : Int) := by omega
     have d0 : d ≠ ⟨#[48]⟩ := fun e => c3 ⟨rfl, .inl e⟩
     have d1 : d ≠ ⟨#[49]⟩ := fun e => c3 ⟨rfl, .inr (.inl e)⟩
     have hg : Nat.gcd (numT n).toNat (numT d).toNat = 1 := by
      by_cases e : Nat.gcd (numT n).toNat (numT d).toNat = 1
      ·exact e
      ·exact absurd ⟨rfl, .inr (.inr e)⟩ c3
     exact key (numT d).toNat d cd hDD (fun e => d0 ((ze2 cd).1 (by omega))) hg (ziz (N := 2000) cd.2.1 hDD ld) (by
      simp only [true_iff]
      exact fun e => d1 ((zph cd).2 (by omega))) h
theorem RTx.size {s : zAd} {x : Rat} {N : Nat} (h : RTx s x) (dx : Dl x N) : s.size <= 2 * N + 4 := by
 obtain ⟨n, d, h1, h2, h3, h4, h5⟩ := h
 have l1 := ze7 h1 h3 dx.1
 have l2 := ze7 h2 h4 dx.2
 have := congrArg List.length h5.eq
 rw [z02, List.length_append, List.length_append, z02] at this
 have e1 : (if decide (x.num < 0) = true then ([45] : List Int) else []).length <= 1 := by split <;> simp
 have e2 : (if decide (x.den ≠ 1) = true then (47 :: z04 d : List Int) else []).length <= d.size + 1 := by
  split
  ·rw [List.length_cons, z02]; omega
  ·simp
 omega
theorem RTx.dl {s : zAd} {x : Rat} {N : Nat} (h : RTx s x) (hs : s.size <= N) : Dl x (N + 1) := by
 obtain ⟨n, d, h1, h2, h3, h4, h5⟩ := h
 have hsz := h5.size
 refine ⟨Nat.lt_of_lt_of_le (ziz h1.2.1 h3 (Nat.le_trans hsz.1 hs)) (Nat.pow_le_pow_right (by omega) (by omega)), ?_⟩
 by_cases c : x.den ≠ 1
 ·exact Nat.lt_of_lt_of_le (ziz h2.2.1 h4 (Nat.le_trans (hsz.2 (decide_eq_true c)) hs)) (Nat.pow_le_pow_right (by omega) (by omega))
 ·have : x.den = 1 := by omega
  rw [this]
  exact Nat.one_lt_pow (by omega) (by omega)
theorem RTx.pos {s : zAd} {x : Rat} (h : RTx s x) : s.size ≠ 0 := by
 obtain ⟨n, d, h1, h2, h3, h4, h5⟩ := h
 have := h5.size.1
 have := h1.1
 omega
theorem zu9 {s : zAd} {x : Rat} (h : RTx s x) (hs : s.size <= 1048576) (hK : 2000000000 < K) : ∃ q, zdk K s = some q /\ QV q x := by
 obtain ⟨n, d, h1, h2, h3, h4, h5⟩ := h
 obtain ⟨s1, neg', n', d', many', c1, c2, c3, c4, c5⟩ := ze6 K hs
 obtain ⟨rfl, rfl, rfl, hd⟩ := h5.uniq c3
 have hsz := h5.size
 obtain ⟨a, a1, a2, a3⟩ := zc5 (K := K) (s := n) (by omega) hK h1.2.1
 rw [h3] at a2
 unfold zdk
 rw [c1, z0n, c2, z0n]
 dsimp only
 rw [a1, z0n, ziw hK, z0n]
 by_cases c : x.den ≠ 1
 ·have := hd (decide_eq_true c)
  subst this
  obtain ⟨b, b1, b2, b3⟩ := zc5 (K := K) (s := d) (by have := hsz.2 (decide_eq_true c); omega) hK h2.2.1
  rw [h4] at b2
  exact ⟨⟨decide (x.num < 0), a, b⟩, by rw [decide_eq_true c, if_pos rfl, b1, z0n, z0n, tu1a], rfl, a2, .inl b2⟩
 ·have e : x.den = 1 := by omega
  exact ⟨⟨decide (x.num < 0), a, [1]⟩, by rw [decide_eq_false c]; rfl, rfl, a2, .inl (by rw [e]; exact .one (by omega) (by omega))⟩
theorem zmm {n : zAd} (h : (z04 n).all digT = true) : (47 : Int) ∉ z04 n := fun hm => by
 have := z8q.1 (List.all_eq_true.1 h _ hm); omega
theorem zrc {s n d : zAd} {x : Rat} (h1 : CanT n) (h2 : CanT d) (h3 : numT n = (x.num.natAbs : Nat)) (h4 : numT d = (x.den : Nat)) (h : z04 s = (if decide (x.num < 0) then [45] else []) ++ (z04 n ++ (if decide (x.den ≠ 1) then 47 :: z04 d else []))) : RTx s x := by
 refine ⟨n, d, h1, h2, h3, h4, h, zmm h1.2.1, fun hn => ?_⟩
 rw [h, hn]
 have hl := z02 n
 cases hb : z04 n with
 | nil => rw [hb] at hl; simp at hl; exact absurd hl.symm h1.1
 | cons c l =>
  have := z8q.1 (List.all_eq_true.1 h1.2.1 c (by rw [hb]; simp))
  simp only [Bool.false_eq_true, if_false, List.nil_append, List.cons_append, List.head?_cons]
  intro e; cases e; omega
theorem zg6 {neg : Bool} {n d : zAd} {N D : Nat} (hD : D ≠ 0) (cn : CanT n) (cd : CanT d) (hn : numT n = N) (hd : numT d = D) (ln : n.size <= 400000) (ld : d.size <= 400000) (hK : 2000000000 < K) :
  ∃ s, z8m K neg n d = some s /\ RTx s (mkRat (sgn neg N) D) := by
 unfold z8m
 by_cases h0 : N = 0
 ·subst h0
  have : n = ⟨#[48]⟩ := (ze2 cn).1 (by omega)
  subst this
  have e : mkRat (sgn neg 0) D = 0 := by
   have : sgn neg 0 = 0 := by cases neg <;> rfl
   rw [this, Rat.zero_mkRat]
  refine ⟨⟨#[48]⟩, by rw [zg5]; rfl, ?_⟩
  rw [e]
  exact zrc zg4 z9v z8r zc2 rfl
 ·have e0 : sEq n ⟨#[48]⟩ = false := zu7 (fun e => by rw [e, z8r] at hn; omega)
  obtain ⟨g, g1, g2, g3⟩ := zpe (K := K) (x := n) (y := d) ln ld hK cn cd hn hd
  have gp : 0 < Nat.gcd N D := Nat.gcd_pos_of_pos_left D (by omega)
  have gl := z53 cn g2 (by rw [g3, hn]; have := Nat.gcd_le_left (m := N) D (by omega); omega)
  obtain ⟨q1, r1, a1, a2, a3, a4, a5⟩ := ziu (K := K) (a := n) (b := g) ln (by omega) hK cn g2 (by omega)
  obtain ⟨q2, r2, b1, b2, b3, b4, b5⟩ := ziu (K := K) (a := d) (b := g) ld (by omega) hK cd g2 (by omega)
  rw [hn, g3] at a4
  rw [hd, g3] at b4
  have m1 := zoe neg N D hD
  have m2 := zof neg N D hD
  have m3 := zqt neg N D hD h0
  have f1 : numT q1 = ((mkRat (sgn neg N) D).num.natAbs : Nat) := by rw [m1, a4]; simp
  have f2 : numT q2 = ((mkRat (sgn neg N) D).den : Nat) := by rw [m2, b4]; simp
  generalize mkRat (sgn neg N) D = x at *
  rw [e0]
  simp only [Bool.false_eq_true, if_false]
  rw [g1, z0n, a1, z0n, b1, z0n]
  have hm : sEq q2 ⟨#[49]⟩ = decide (x.den = 1) := by
   rw [zbm]
   congr 1
   rw [zph b2, f2, eq_iff_iff]; omega
  have l1 := z53 cn a2 (by rw [a4, hn]; exact Int.ediv_le_self _ (by omega))
  have l2 := z53 cd b2 (by rw [b4, hd]; exact Int.ediv_le_self _ (by omega))
  have e45 : ((⟨#[45]⟩ : zAd)).size = 1 := rfl
  have e47 : ((⟨#[47]⟩ : zAd)).size = 1 := rfl
  have b45 : z04 (⟨#[45]⟩ : zAd) = [45] := rfl
  have b47 : z04 (⟨#[47]⟩ : zAd) = [47] := rfl
  obtain ⟨m, k1, k2, k3⟩ : ∃ m, (if neg = true then (if ((⟨#[45]⟩ : zAd)).size + (q1).size <= 4611686018427387904 then some ((⟨#[45]⟩ : zAd) ++ q1) else none) else some q1) = some m /\ z04 m = (if decide (x.num < 0) = true then [45] else []) ++ z04 q1 /\ m.size <= q1.size + 1 := by
   rw [m3]
   cases neg with
   | true =>
    refine ⟨(⟨#[45]⟩ : zAd) ++ q1, ?_, ?_, ?_⟩
    ·rw [if_pos rfl, if_pos (by omega)]
    ·rw [z28, b45]; rfl
    ·rw [<- z02, z28, b45, List.length_append, z02]; simp; omega
   | false => exact ⟨q1, rfl, rfl, by omega⟩
  dsimp only
  rw [k1, z0n, tu1a, hm]
  by_cases c : x.den = 1
  ·refine ⟨m, by rw [decide_eq_true c]; rfl, zrc a2 b2 f1 f2 ?_⟩
   have hdd : decide (x.den ≠ 1) = false := decide_eq_false (fun h => h c)
   rw [k2, hdd]; simp
  ·have hsm : (m ++ (⟨#[47]⟩ : zAd)).size = m.size + 1 := by rw [<- z02, z28, b47, List.length_append, z02]; simp
   refine ⟨(m ++ (⟨#[47]⟩ : zAd)) ++ q2, ?_, zrc a2 b2 f1 f2 ?_⟩
   ·rw [decide_eq_false c]
    simp only [Bool.false_eq_true, if_false]
    rw [if_pos (by omega), if_pos (by omega)]
   ·have hdd : decide (x.den ≠ 1) = true := decide_eq_true c
    rw [z28, z28, k2, b47, hdd]; simp
theorem zcu {a : zAd} {x : Rat} {N : Nat} (h : RTx a x) (dx : Dl x N) (hN : N <= 100000) (hK : 2000000000 < K) : ∃ n d, z76 K a = some (decide (x.num < 0), n, d) /\ CanT n /\ CanT d /\ numT n = (x.num.natAbs : Nat) /\ numT d = (x.den : Nat) /\ n.size <= N + 1 /\ d.size <= N + 1 := by
 have hs := h.size dx
 have h0 := h.pos
 obtain ⟨n, d, h1, h2, h3, h4, h5⟩ := h
 have hp := zoj (K := K) (by omega) h0 hK h5
 have l1 := ze7 h1 h3 dx.1
 have l2 := ze7 h2 h4 dx.2
 by_cases c : x.den ≠ 1
 ·rw [decide_eq_true c] at hp
  exact ⟨n, d, hp, h1, h2, h3, h4, l1, l2⟩
 ·rw [decide_eq_false c] at hp
  have e : x.den = 1 := by omega
  exact ⟨n, ⟨#[49]⟩, hp, h1, z9v, h3, by rw [e]; rfl, l1, by show 1 <= N + 1; omega⟩
theorem zsq {a b : zAd} {x y : Rat} {N : Nat} (ha : RTx a x) (hb : RTx b y) (dx : Dl x N) (dy : Dl y N) (hN : N <= 100000) (hK : 2000000000 < K) : ∃ c, z9o K a b = some c /\ RTx c (x + y) := by
 obtain ⟨n, d, p1, p2, p3, p4, p5, p6, p7⟩ := zcu (K := K) ha dx hN hK
 obtain ⟨m, e, q1, q2, q3, q4, q5, q6, q7⟩ := zcu (K := K) hb dy hN hK
 obtain ⟨X, X1, X2, X3⟩ := zm6 (K := K) (a := n) (b := e) (by omega) (by omega) hK p2.2.1 q3.2.1
 obtain ⟨Y, Y1, Y2, Y3⟩ := zm6 (K := K) (a := m) (b := d) (by omega) (by omega) hK q2.2.1 p3.2.1
 obtain ⟨D, D1, D2, D3⟩ := zm6 (K := K) (a := d) (b := e) (by omega) (by omega) hK p3.2.1 q3.2.1
 rw [p4, q5, <- Int.natCast_mul] at X3
 rw [q4, p5, <- Int.natCast_mul] at Y3
 rw [p5, q5, <- Int.natCast_mul] at D3
 have hD : x.den * y.den ≠ 0 := Nat.mul_ne_zero x.den_nz y.den_nz
 have lX := ze7 X2 X3 (z6u dx.1 dy.2)
 have lY := ze7 Y2 Y3 (z6u dy.1 dx.2)
 have lD := ze7 D2 D3 (z6u dx.2 dy.2)
 unfold z9o
 rw [p1, z0n, q1, z0n]
 dsimp only
 rw [X1, z0n, Y1, z0n, D1, z0n, zmk]
 generalize x.num.natAbs * y.den = u at X3 ⊢
 generalize y.num.natAbs * x.den = v at Y3 ⊢
 generalize decide (x.num < 0) = p
 generalize decide (y.num < 0) = q
 by_cases hs : p = q
 ·obtain ⟨Z, Z1, Z2, Z3⟩ := zsb (K := K) (a := X) (b := Y) (by omega) (by omega) (by have := X2.1; omega) (by omega) X2.2.1 Y2.2.1
  rw [X3, Y3, <- Int.natCast_add] at Z3
  have lZ : Z.size <= 400000 := by
   refine Nat.not_lt.1 fun hlt => ?_
   have g1 := zh5 Z2 (by omega)
   have g2 := ze0 X2.2.1
   have g3 := ze0 Y2.2.1
   have g4 : (10 : Int) ^ X.size <= 10 ^ (Z.size - 2) := z8a (by omega) (by omega)
   have g5 : (10 : Int) ^ Y.size <= 10 ^ (Z.size - 2) := z8a (by omega) (by omega)
   have g6 : (10 : Int) ^ (Z.size - 1) = 10 ^ (Z.size - 2) * 10 := by rw [<- Int.pow_succ]; congr 1; omega
   rw [X3] at g2
   rw [Y3] at g3
   have g7 : (0 : Int) < 10 ^ (Z.size - 2) := Int.pow_pos (by omega)
   generalize (10 : Int) ^ (Z.size - 2) = P at *
   omega
  obtain ⟨s, s1, s2⟩ := zg6 (K := K) (neg := p) (n := Z) (d := D) hD Z2 D2 Z3 D3 lZ (by omega) hK
  refine ⟨s, ?_, by rw [<- hs, <- zpf]; exact s2⟩
  rw [if_pos (by simpa using hs), Z1, z0n, s1, z0n]
 ·have hc := zpb (K := K) X2 Y2
  rw [if_neg (by simpa using hs), hc, z0n, X3, Y3]
  by_cases hle : v <= u
  ·obtain ⟨Z, Z1, Z2, Z3⟩ := zm4 (K := K) (a := X) (b := Y) (by omega) (z53 X2 Y2 (by omega)) (by have := X2.1; omega) (by omega) X2.2.1 Y2.2.1 (by omega)
   rw [X3, Y3, <- Int.natCast_sub hle] at Z3
   have lZ := z53 X2 Z2 (by omega)
   obtain ⟨s, s1, s2⟩ := zg6 (K := K) (neg := p) (n := Z) (d := D) hD Z2 D2 Z3 D3 (by omega) (by omega) hK
   refine ⟨s, ?_, by rw [<- zj0 _ _ hs hle]; exact s2⟩
   have e : decide ((if ((u : Nat) : Int) < (v : Nat) then (-1 : Int) else if ((u : Nat) : Int) = (v : Nat) then 0 else 1) < 0) = false := by
    rw [if_neg (by omega)]; split <;> rfl
   rw [e]
   simp only [Bool.false_eq_true, if_false, z0n, tu3a, Z1, s1]
  ·obtain ⟨Z, Z1, Z2, Z3⟩ := zm4 (K := K) (a := Y) (b := X) (by omega) (z53 Y2 X2 (by omega)) (by have := Y2.1; omega) (by omega) Y2.2.1 X2.2.1 (by omega)
   rw [X3, Y3, <- Int.natCast_sub (show u <= v by omega)] at Z3
   have lZ := z53 Y2 Z2 (by omega)
   obtain ⟨s, s1, s2⟩ := zg6 (K := K) (neg := q) (n := Z) (d := D) hD Z2 D2 Z3 D3 (by omega) (by omega) hK
   refine ⟨s, ?_, by rw [Int.add_comm, <- zj0 _ _ (fun e => hs e.symm) (by omega)]; exact s2⟩
   have e : decide ((if ((u : Nat) : Int) < (v : Nat) then (-1 : Int) else if ((u : Nat) : Int) = (v : Nat) then 0 else 1) < 0) = true := by
    rw [if_pos (by omega)]; rfl
   rw [e]
   simp only [if_true, z0n, tu3a, Z1, s1]
theorem zpi {a : zAd} {x : Rat} {N : Nat} (ha : RTx a x) (dx : Dl x N) (hN : N <= 100000) (hK : 2000000000 < K) : ∃ c, z89 K a = some c /\ RTx c (-x) := by
 obtain ⟨n, d, p1, p2, p3, p4, p5, p6, p7⟩ := zcu (K := K) ha dx hN hK
 obtain ⟨s, s1, s2⟩ := zg6 (K := K) (neg := !decide (x.num < 0)) (n := n) (d := d) x.den_nz p2 p3 p4 p5 (by omega) (by omega) hK
 refine ⟨s, by unfold z89; rw [p1, z0n, s1, z0n], ?_⟩
 have e : mkRat (sgn (!decide (x.num < 0)) x.num.natAbs) x.den = -x := by
  have e1 : sgn (!decide (x.num < 0)) x.num.natAbs = -x.num := by
   unfold sgn; by_cases h : x.num < 0 <;> simp [h] <;> omega
  rw [e1, <- Rat.neg_mkRat, Rat.mkRat_self]
 rw [<- e]; exact s2
theorem zsr {a b : zAd} {x y : Rat} {N : Nat} (ha : RTx a x) (hb : RTx b y) (dx : Dl x N) (dy : Dl y N) (hN : N <= 100000) (hK : 2000000000 < K) : ∃ c, z9p K a b = some c /\ RTx c (x - y) := by
 obtain ⟨m, m1, m2⟩ := zpi (K := K) hb dy hN hK
 obtain ⟨c, c1, c2⟩ := zsq (K := K) ha m2 dx dy.neg hN hK
 exact ⟨c, by unfold z9p; rw [m1, z0n, c1, z0n], by rw [Rat.sub_eq_add_neg]; exact c2⟩
theorem zmn {a : zAd} {x : Rat} {N : Nat} (ha : RTx a x) (dx : Dl x N) (hN : N <= 100000) (hK : 2000000000 < K) : z7c K a = some (if x = 0 then 0 else if x.num < 0 then -1 else 1) := by
 obtain ⟨n, d, p1, p2, p3, p4, p5, p6, p7⟩ := zcu (K := K) ha dx hN hK
 have e : sEq n ⟨#[48]⟩ = decide (x = 0) := by
  rw [zbm]
  congr 1
  rw [<- ze2 p2, p4, <- Rat.num_eq_zero, eq_iff_iff]; omega
 unfold z7c
 rw [p1, z0n]
 dsimp only
 rw [e]
 by_cases c : x = 0
 ·simp [c]
 ·by_cases c2 : x.num < 0 <;> simp [c, c2]
end Go.Am.Tryz
/- Plain law: errors of lists; operations on two texts. -/
namespace Go.Am.Tryz
open Go Go.Am Go.Proofs
variable {K : Nat}
noncomputable def ratE (s : zAd) : Int := @dite Int (∃ e, ∃ neg n many d, Sp s neg n many d /\ ratS neg n many d = e) (Classical.propDecidable _) (fun h => h.choose) fun _ => 0
theorem zmo {s n d : zAd} {neg many : Bool} (h : Sp s neg n many d) : ratE s = ratS neg n many d := by
 have hex : ∃ e, ∃ neg n many d, Sp s neg n many d /\ ratS neg n many d = e := ⟨_, _, _, _, _, h, rfl⟩
 unfold ratE
 rw [dif_pos hex]
 obtain ⟨neg', n', many', d', h1, h2⟩ := hex.choose_spec
 rw [<- h2]
 obtain ⟨rfl, rfl, rfl, h3⟩ := h.uniq h1
 cases many with
 | true => rw [h3 rfl]
 | false => unfold ratS; simp
theorem zjx {s : zAd} (hs : s.size <= 1048576) (hK : 2000000000 < K) : z7a K s = some (ratE s) := by
 obtain ⟨s1, neg, n, d, many, _, _, h, _⟩ := ze6 K hs
 rw [zmo h]; exact zog hs hK h
theorem zok {s : zAd} (hs : s.size <= 1048576) (hK : 2000000000 < K) : z6h K s = some (ratE s) := by
 obtain ⟨s1, neg, n, d, many, _, _, h, _⟩ := ze6 K hs
 rw [zmo h]; exact zoi hs hK h
theorem zol {s : zAd} (hs : s.size <= 1048576) (h : ratE s = 0) : ∃ x, RTx s x /\ Dl x 2000 := by
 obtain ⟨s1, neg, n, d, many, _, _, hp, _⟩ := ze6 0 hs
 rw [zmo hp] at h
 exact zuz hp h
noncomputable def z8s : List zAd -> Int
 | [] => 0
 | s :: l => if ratE s ≠ 0 then ratE s else z8s l
theorem zey : ∀ {l : List zAd}, z8s l = 0 -> ∀ s ∈ l, ratE s = 0
 | [], _, s, hs => by simp at hs
 | t :: l, h, s, hs => by
  rw [z8s] at h
  by_cases c : ratE t = 0
  ·rw [if_neg (by simpa using c)] at h
   rcases List.mem_cons.1 hs with rfl | hs
   ·exact c
   ·exact zey h s hs
  ·rw [if_pos c] at h; exact absurd h c
theorem zez {l : List zAd} {i : Nat} (h : i < l.length) : z8s (l.drop i) = if ratE l[i] ≠ 0 then ratE l[i] else z8s (l.drop (i + 1)) := by
 rw [List.drop_eq_getElem_cons h, z8s]
theorem zjy {l : List zAd} (hl : l.length <= 1048576) (hs : ∀ s ∈ l, s.size <= 1048576) (hK : 2000000000 < K) : z63 K l = some (z8s l) := by
 have key : ∃ r : Int ⊕ Unit, z1u K l K 0 = some r /\ ((r = .inr () /\ z8s l = 0) \/ r = .inl (z8s l)) := by
  refine zav (fun k (s : Int) => z1u K l k s) (fun s => ∃ i : Nat, s = i /\ i <= l.length /\ z8s l = z8s (l.drop i)) (fun s => (l.length - s : Int).toNat) _ ?_ (0 : Int) (by omega) ⟨0, rfl, by omega, by simp⟩
  rintro k _ ⟨i, rfl, h0, h1⟩
  by_cases hi : i < l.length
  ·have hx : idx l (i : Int) = some l[i] := z2v (zAh hi)
   have hc := zjx (K := K) (s := l[i]) (hs _ (List.getElem_mem hi)) hK
   rw [zez hi] at h1
   by_cases c : ratE l[i] = 0
   ·right
    rw [if_neg (by simpa using c)] at h1
    refine ⟨(i : Int) + 1, ?_, by omega, i + 1, rfl, by omega, h1⟩
    rw [z1u, if_pos (decide_eq_true (by omega)), hx, z0n, hc, z0n, if_neg (by simpa using c), k64 (by omega) (by omega)]
   ·left
    rw [if_pos c] at h1
    refine ⟨.inl (ratE l[i]), ?_, .inr (by rw [h1])⟩
    rw [z1u, if_pos (decide_eq_true (by omega)), hx, z0n, hc, z0n, if_pos (by simpa using c)]
  ·left
   have : i = l.length := by omega
   subst this
   rw [List.drop_eq_nil_of_le (Nat.le_refl _)] at h1
   exact ⟨.inr (), by rw [z1u, if_neg (by simp)], .inl ⟨rfl, h1⟩⟩
 obtain ⟨r, h1, h2⟩ := key
 unfold z63
 rw [h1]
 rcases h2 with ⟨rfl, h2⟩ | rfl
 ·rw [zg1, tu0a, h2]
 ·rw [zny, tu1a]
theorem zom {l : List zAd} (hl : l.length <= 1048576) (hs : ∀ s ∈ l, s.size <= 1048576) (hK : 2000000000 < K) : z6t K l = some (z8s l) := by
 have key : ∃ r : Int ⊕ Unit, z27 K l K 0 = some r /\ ((r = .inr () /\ z8s l = 0) \/ r = .inl (z8s l)) := by
  refine zav (fun k (s : Int) => z27 K l k s) (fun s => ∃ i : Nat, s = i /\ i <= l.length /\ z8s l = z8s (l.drop i)) (fun s => (l.length - s : Int).toNat) _ ?_ (0 : Int) (by omega) ⟨0, rfl, by omega, by simp⟩
  rintro k _ ⟨i, rfl, h0, h1⟩
  by_cases hi : i < l.length
  ·have hx : idx l (i : Int) = some l[i] := z2v (zAh hi)
   have hc := zok (K := K) (s := l[i]) (hs _ (List.getElem_mem hi)) hK
   rw [zez hi] at h1
   by_cases c : ratE l[i] = 0
   ·right
    rw [if_neg (by simpa using c)] at h1
    refine ⟨(i : Int) + 1, ?_, by omega, i + 1, rfl, by omega, h1⟩
    rw [z27, if_pos (decide_eq_true (by omega)), hx, z0n, hc, z0n, if_neg (by simpa using c), k64 (by omega) (by omega)]
   ·left
    rw [if_pos c] at h1
    refine ⟨.inl (ratE l[i]), ?_, .inr (by rw [h1])⟩
    rw [z27, if_pos (decide_eq_true (by omega)), hx, z0n, hc, z0n, if_pos (by simpa using c)]
  ·left
   have : i = l.length := by omega
   subst this
   rw [List.drop_eq_nil_of_le (Nat.le_refl _)] at h1
   exact ⟨.inr (), by rw [z27, if_neg (by simp)], .inl ⟨rfl, h1⟩⟩
 obtain ⟨r, h1, h2⟩ := key
 unfold z6t
 rw [h1]
 rcases h2 with ⟨rfl, h2⟩ | rfl
 ·rw [zg1, tu0a, h2]
 ·rw [zny, tu1a]
end Go.Am.Tryz
/- Plain law: whole numbers and their texts. -/
namespace Go.Am.Tryz
open Go Go.Am Go.Proofs
variable {K : Nat}
theorem zss (x y : Rat) : (x - y).num < 0 ↔ x < y := by
 rw [<- Int.not_le, Rat.num_nonneg]
 grind
theorem zst (x y : Rat) : x - y = 0 ↔ x = y := by grind
theorem zv0 : (1000000000 : Int) ^ 3 = 1000000000000000000000000000 := by decide
theorem kq1 {p V n m q r : Int} (h : V + p * m = n) (hm : r + 1000000000 * q = m) : V + p * r + p * 1000000000 * q = n := by subst hm; grind
theorem zmp {n : Int} (h0 : 0 <= n) (h1 : n <= 9223372036854775808) (hK : 2000000000 < K) (h2 : n <= 9223372036854775807) : ∃ l, z62 K n = some l /\ NumN n l /\ l.length <= 3 := by
 have key : ∃ l, z4f K K [] n = some l /\ NumN n l /\ l.length <= 3 := by
  obtain ⟨f, hf⟩ : ∃ f : Nat, f = 4 := ⟨4, rfl⟩
  refine zav (fun k (s : List Int × Int) => z4f K k s.1 s.2) (fun s => DigB 1000000000 s.1 /\ 0 <= s.2 /\ s.2 <= n /\ valB 1000000000 s.1 + 1000000000 ^ s.1.length * s.2 = n /\ (s.2 > 0 \/ CanB 1000000000 s.1) /\ s.1.length <= 3) (fun s => 4 - s.1.length) _ ?_ (([], n) : List Int × Int) (by simp; omega) ⟨.nil _, h0, Int.le_refl _, by simp [valB], .inr ⟨.nil _, by simp⟩, by simp⟩
  rintro k ⟨o, m⟩ ⟨a1, a2, a3, a4, a5, a6⟩
  dsimp only at a1 a2 a3 a4 a5 a6 ⊢
  by_cases hm : m > 0
  ·right
   have hv := z1l (B := 1000000000) (by omega) o a1
   have hlen : o.length <= 2 := by
    refine Nat.not_lt.1 fun hlt => ?_
    have g1 : (1000000000 : Int) ^ 3 <= 1000000000 ^ o.length := z8a (by omega) (by omega)
    have g2 := z4e (show (0:Int) <= 1000000000 ^ o.length from Int.le_of_lt (Int.pow_pos (by omega))) (show 1 <= m by omega)
    rw [zv0] at g1
    omega
   have hdm := Int.emod_add_mul_ediv m 1000000000
   refine ⟨(o ++ [m % 1000000000], m / 1000000000), ?_, by simp; omega, a1.snoc (by omega), by dsimp only; omega, by dsimp only; omega, ?_, ?_, by simp; omega⟩
   ·rw [z4f]
    simp (discharger := omega) only [runL]
   ·dsimp only
    rw [z8p, List.length_append, List.length_singleton, Int.pow_succ]
    exact kq1 a4 hdm
   ·dsimp only
    by_cases hq : m / 1000000000 > 0
    ·exact .inl hq
    ·refine .inr ⟨a1.snoc (by omega), ?_⟩
     rw [List.getLast?_append]
     simp; omega
  ·left
   have : m = 0 := by omega
   subst this
   rw [Int.mul_zero, Int.add_zero] at a4
   refine ⟨o, by rw [z4f]; simp (discharger := omega) only [runL], ⟨a5.resolve_left (by omega), a4⟩, a6⟩
 obtain ⟨l, l1, l2⟩ := key
 exact ⟨l, by unfold z62; rw [l1]; rfl, l2⟩
theorem zon {j : Int} (h : 0 <= j /\ j <= 9) : ∃ t, ssl (⟨#[48, 49, 50, 51, 52, 53, 54, 55, 56, 57]⟩ : zAd) j (z03 .i64 (j + 1)) = some t /\ z04 t = [48 + j] /\ t.size = 1 := by
 obtain ⟨n, rfl⟩ : ∃ n : Nat, j = n := ⟨j.toNat, by omega⟩
 have hn : n = 0 \/ n = 1 \/ n = 2 \/ n = 3 \/ n = 4 \/ n = 5 \/ n = 6 \/ n = 7 \/ n = 8 \/ n = 9 := by omega
 rcases hn with rfl | rfl | rfl | rfl | rfl | rfl | rfl | rfl | rfl | rfl
 ·exact ⟨⟨#[48]⟩, by rfl, by rfl, by rfl⟩
 ·exact ⟨⟨#[49]⟩, by rfl, by rfl, by rfl⟩
 ·exact ⟨⟨#[50]⟩, by rfl, by rfl, by rfl⟩
 ·exact ⟨⟨#[51]⟩, by rfl, by rfl, by rfl⟩
 ·exact ⟨⟨#[52]⟩, by rfl, by rfl, by rfl⟩
 ·exact ⟨⟨#[53]⟩, by rfl, by rfl, by rfl⟩
 ·exact ⟨⟨#[54]⟩, by rfl, by rfl, by rfl⟩
 ·exact ⟨⟨#[55]⟩, by rfl, by rfl, by rfl⟩
 ·exact ⟨⟨#[56]⟩, by rfl, by rfl, by rfl⟩
 ·exact ⟨⟨#[57]⟩, by rfl, by rfl, by rfl⟩
theorem kq2 {p V n m q r : Int} (h : V + p * m = n) (hm : r + 10 * q = m) : V + p * (48 + r - 48) + 10 * p * q = n := by subst hm; grind
theorem zoo {n : Int} (h0 : 0 <= n) (h1 : n <= 9223372036854775807) (hK : 2000000000 < K) : ∃ s, z44 K K n ⟨#[]⟩ = some s /\ CanT s /\ numT s = n /\ s.size <= 20 := by
 have he : z04 (⟨#[]⟩ : zAd) = [] := rfl
 have p19 : (10 : Int) ^ 19 = 10000000000000000000 := by decide
 refine zav (fun k (s : Int × zAd) => z44 K k s.1 s.2) (fun s => (z04 s.2).all digT = true /\ (0 <= s.1 /\ s.1 <= n) /\ numB (z04 s.2) + 10 ^ s.2.size * s.1 = n /\ (s.2 = ⟨#[]⟩ \/ s.1 > 0 \/ CanT s.2) /\ s.2.size <= 20) (fun s => 21 - s.2.size) _ ?_ ((n, ⟨#[]⟩) : Int × zAd) (by dsimp only; omega) ⟨rfl, ⟨h0, Int.le_refl _⟩, by rw [he, zdy]; show 0 + 10 ^ 0 * n = n; simp, .inl rfl, by show 0 <= 20; omega⟩
 rintro k ⟨m, s⟩ ⟨a1, a2, a3, a4, a5⟩
 dsimp only at a1 a2 a3 a4 a5 ⊢
 have hv := z7e a1
 have hcond : (if (decide (m > 0)) = true then some true else some (sEq s (⟨#[]⟩ : zAd))) = some (decide (m > 0 \/ s = ⟨#[]⟩)) := by
  rw [zbm]
  by_cases c : m > 0 <;> simp [c]
 by_cases hc : m > 0 \/ s = ⟨#[]⟩
 ·right
  have hlen : s.size <= 19 := by
   rcases hc with hc | rfl
   ·refine Nat.not_lt.1 fun hlt => ?_
    have g1 : (10 : Int) ^ 19 <= 10 ^ s.size := z8a (by omega) (by omega)
    have g2 := z4e (show (0:Int) <= 10 ^ s.size from Int.le_of_lt (Int.pow_pos (by omega))) (show 1 <= m by omega)
    rw [p19] at g1
    omega
   ·show 0 <= 19; omega
  obtain ⟨t, t1, t2, t3⟩ := zon (j := m % 10) (by omega)
  have hb : z04 (t ++ s) = (48 + m % 10) :: z04 s := by rw [z28, t2]; rfl
  have hsz : (t ++ s).size = s.size + 1 := by rw [<- z02, hb, List.length_cons, z02]
  have hdm := Int.emod_add_mul_ediv m 10
  refine ⟨(m / 10, t ++ s), ?_, by dsimp only; omega, ?_, by dsimp only; omega, ?_, ?_, by dsimp only; omega⟩
  ·rw [z44, hcond, decide_eq_true hc, z0n, tu1a, if_pos rfl, zul a2.1, t1, z0n, if_pos (by omega), zu5 a2.1, k64 (by omega) (by omega)]
  ·dsimp only; rw [hb, List.all_cons, a1, Bool.and_true]; exact z8q.2 (by omega)
  ·dsimp only
   rw [hb, zg2, hsz, z02, Int.pow_succ, Int.mul_comm ((10:Int) ^ s.size) 10]
   exact kq2 a3 hdm
  ·dsimp only
   by_cases hq : m / 10 > 0
   ·exact .inr (.inl hq)
   ·refine .inr (.inr ⟨by omega, ?_, fun e => ?_⟩)
    ·rw [hb, List.all_cons, a1, Bool.and_true]; exact z8q.2 (by omega)
    ·rw [hb] at e
     simp at e
     have hm0 : m = 0 := by omega
     rcases hc with hc | rfl
     ·omega
     ·have : (⟨#[]⟩ : zAd).size = 0 := rfl
      omega
 ·left
  have hm : m = 0 := by omega
  subst hm
  have hs : s ≠ ⟨#[]⟩ := fun e => hc (.inr e)
  rw [Int.mul_zero, Int.add_zero] at a3
  refine ⟨s, ?_, ?_, a3, a5⟩
  ·rw [z44, hcond, decide_eq_false hc, z0n, tu1a]; rfl
  ·rcases a4 with h | h | h
   ·exact absurd h hs
   ·omega
   ·exact h
theorem zsu {n : Int} (hn : z56 .i64 n = true) (hK : 2000000000 < K) : ∃ s, z39 K K n = some s /\ RTx s (n : Rat) := by
 have hr : -9223372036854775808 <= n /\ n <= 9223372036854775807 := by simpa [z56] using hn
 have hnn : ((n : Rat)).num = n := rfl
 have hdd : ((n : Rat)).den = 1 := rfl
 have hpos : ∀ (m : Int) (D : Nat), 0 <= m -> m <= 9223372036854775807 -> ∃ s, z39 K (D + 1) m = some s /\ CanT s /\ numT s = m /\ s.size <= 20 := fun m D h0 h1 => by
  obtain ⟨s, s1, s2⟩ := zoo (K := K) h0 h1 hK
  exact ⟨s, by rw [z39, if_pos (decide_eq_true h0), s1]; rfl, s2⟩
 obtain ⟨D, hD⟩ : ∃ D, K = D + 2 := ⟨K - 2, by omega⟩
 have hKD : z39 K K n = z39 K (D + 1 + 1) n := by
  have : ∀ J, J = D + 2 -> z39 K J n = z39 K (D + 1 + 1) n := fun J h => by rw [h]
  exact this K hD
 rw [hKD]
 by_cases h : n >= 0
 ·obtain ⟨s, s1, s2, s3, s4⟩ := hpos n (D + 1) h hr.2
  refine ⟨s, s1, zrc s2 z9v (by rw [s3, hnn]; omega) (by rw [hdd]; rfl) ?_⟩
  rw [hnn, hdd, decide_eq_false (by omega)]
  simp
 ·by_cases hmin : n = -9223372036854775808
  ·subst hmin
   refine ⟨⟨#[45, 57, 50, 50, 51, 51, 55, 50, 48, 51, 54, 56, 53, 52, 55, 55, 53, 56, 48, 56]⟩, by rw [z39]; rfl, ?_⟩
   exact zrc (n := ⟨#[57, 50, 50, 51, 51, 55, 50, 48, 51, 54, 56, 53, 52, 55, 55, 53, 56, 48, 56]⟩) ⟨by decide, by rfl, fun h => by simp [z04] at h⟩ z9v (by rw [hnn]; rfl) (by rw [hdd]; rfl) (by rw [hnn, hdd]; rfl)
  ·obtain ⟨s, s1, s2, s3, s4⟩ := hpos (-n) D (by omega) (by omega)
   have b45 : z04 (⟨#[45]⟩ : zAd) = [45] := rfl
   have e45 : ((⟨#[45]⟩ : zAd)).size = 1 := rfl
   refine ⟨(⟨#[45]⟩ : zAd) ++ s, ?_, zrc s2 z9v (by rw [s3, hnn]; omega) (by rw [hdd]; rfl) ?_⟩
   ·have e1 : (n == -9223372036854775808) = false := by rw [beq_eq_false_iff_ne]; exact hmin
    rw [z39, if_neg (by simpa using h), e1]
    simp only [Bool.false_eq_true, if_false]
    rw [k64 (by omega) (by omega), s1, z0n, if_pos (by omega)]
   ·rw [hnn, hdd, decide_eq_true (by omega), z28, b45]
    simp
end Go.Am.Tryz
/- Plain law: comparisons of rational numbers. -/
namespace Go.Am.Tryz
open Go Go.Am Go.Proofs
variable {K : Nat}
theorem zsv {a b : Q} {x y : Rat} {N : Nat} (ha : QV a x) (hb : QV b y) (dx : Dl x N) (dy : Dl y N) (hN : N <= 7000000) (hK : 2000000000 < K) : z6d K a b = some (if x = y then 0 else if x < y then -1 else 1) := by
 obtain ⟨d, d1, d2⟩ := zsp (K := K) ha hb dx dy hN hK
 unfold z6d
 rw [d1, z0n, zqv d2, z0n]
 simp only [zst, zss]
theorem zsw {a b : zAd} {x y : Rat} {N : Nat} (ha : RTx a x) (hb : RTx b y) (dx : Dl x N) (dy : Dl y N) (hN : N <= 40000) (hK : 2000000000 < K) : z7p K a b = some (if x = y then 0 else if x < y then -1 else 1) := by
 obtain ⟨c, c1, c2⟩ := zsr (K := K) ha hb dx dy (by omega) hK
 have := zmn (K := K) c2 (dx.sub dy) (by omega) hK
 unfold z7p
 rw [c1, z0n, this, z0n]
 simp only [zst, zss]
def RTs (l : List zAd) (f : Nat -> Rat) : Prop := ∀ i (h : i < l.length), RTx l[i] (f i)
theorem zua {l : List zAd} (hs : ∀ s ∈ l, s.size <= 1048576) (h0 : z8s l = 0) : ∃ f, RTs l f /\ ∀ i, i < l.length -> Dl (f i) 2000 := by
 classical
 have hz := zey h0
 have hex : ∀ i (h : i < l.length), ∃ x, RTx l[i] x /\ Dl x 2000 := fun i h => zol (hs _ (List.getElem_mem h)) (hz _ (List.getElem_mem h))
 refine ⟨fun i => if h : i < l.length then (hex i h).choose else 0, fun i h => ?_, fun i h => ?_⟩
 ·dsimp only; rw [dif_pos h]; exact (hex i h).choose_spec.1
 ·dsimp only; rw [dif_pos h]; exact (hex i h).choose_spec.2
end Go.Am.Tryz
/- Plain law: vectors and matrices of rational texts: their checks, their numbers, products and sums. -/
namespace Go.Am.Tryz
open Go Go.Am Go.Proofs
variable {K : Nat}
def resF {R : Type} : Option R -> R ⊕ Unit
 | some r => .inl r
 | none => .inr ()
theorem zqw {α R : Type} {l : List α} {L : Nat -> Int -> Option (R ⊕ Unit)} (p : α -> Option R) (h0 : ∀ k, L (k + 1) (l.length : Int) = some (.inr ()))
  (h1 : ∀ k i (hi : i < l.length), L (k + 1) (i : Int) = match p l[i] with | some r => some (.inl r) | none => L k ((i + 1 : Nat) : Int)) (hK : l.length < K) :
  L K 0 = some (resF (l.findSome? p)) := by
 have key : ∀ n i k, i + n = l.length -> n < k -> L k (i : Int) = some (resF ((l.drop i).findSome? p)) := by
  intro n
  induction n with
  | zero =>
   intro i k hi hk
   obtain ⟨k, rfl⟩ : ∃ m, k = m + 1 := ⟨k - 1, by omega⟩
   obtain rfl : i = l.length := by omega
   rw [h0, List.drop_length]
   rfl
  | succ n ih =>
   intro i k hi hk
   obtain ⟨k, rfl⟩ : ∃ m, k = m + 1 := ⟨k - 1, by omega⟩
   rw [h1 k i (by omega), List.drop_eq_getElem_cons (by omega), List.findSome?_cons]
   cases hp : p l[i] with
   | some r => rfl
   | none => exact ih (i + 1) k (by omega) (by omega)
 have := key l.length 0 K (by omega) hK
 simpa using this
def Fam {α : Type} (P : Nat -> α -> Prop) (n : Nat) (l : List α) : Prop := l.length = n /\ ∀ j (h : j < l.length), P j l[j]
theorem Fam.nil {α : Type} {P : Nat -> α -> Prop} : Fam P 0 [] := ⟨rfl, fun j h => by simp at h⟩
theorem Fam.snoc {α : Type} {P : Nat -> α -> Prop} {n : Nat} {l : List α} {y : α} (h : Fam P n l) (hy : P n y) : Fam P (n + 1) (l ++ [y]) := by
 refine ⟨by simp [h.1], fun j hj => ?_⟩
 by_cases c : j < l.length
 ·rw [List.getElem_append_left c]; exact h.2 j c
 ·have : j = l.length := by simp at hj; omega
  subst this
  rw [List.getElem_append_right (by omega)]
  simp only [Nat.sub_self, List.getElem_cons_zero]
  rw [h.1]; exact hy
theorem Fam.idx {α : Type} {P : Nat -> α -> Prop} {n j : Nat} {l : List α} (h : Fam P n l) (hj : j < n) : ∃ y, idx l (j : Int) = some y /\ P j y := by
 have hl : j < l.length := by rw [h.1]; exact hj
 exact ⟨l[j], z2v (zAh hl), h.2 j hl⟩
theorem Fam.mono {α : Type} {P Q : Nat -> α -> Prop} {n : Nat} {l : List α} (h : Fam P n l) (hPQ : ∀ j y, j < n -> P j y -> Q j y) : Fam Q n l :=
 ⟨h.1, fun j hj => hPQ j _ (by rw [<- h.1]; exact hj) (h.2 j hj)⟩
theorem Fam.uniq {α : Type} {P : Nat -> α -> Prop} {n : Nat} {l m : List α} (hu : ∀ j x y, P j x -> P j y -> x = y) (h : Fam P n l) (k : Fam P n m) : l = m :=
 List.ext_getElem (by rw [h.1, k.1]) fun j h1 h2 => hu j _ _ (h.2 j h1) (k.2 j h2)
theorem zop {β R : Type} (n : Nat) (L : Nat -> List β -> Int -> Option R) (P : Nat -> β -> Prop) (Q : R -> Prop) (hn : n < K)
  (hend : ∀ k acc, Fam P n acc -> ∃ r, L (k + 1) acc (n : Int) = some r /\ Q r)
  (hstep : ∀ k i acc, i < n -> Fam P i acc -> (∃ r, L (k + 1) acc (i : Int) = some r /\ Q r) \/ ∃ y, P i y /\ L (k + 1) acc (i : Int) = L k (acc ++ [y]) ((i + 1 : Nat) : Int)) :
  ∃ r, L K [] 0 = some r /\ Q r := by
 have key : ∀ m i k acc, i + m = n -> m < k -> Fam P i acc -> ∃ r, L k acc (i : Int) = some r /\ Q r := by
  intro m
  induction m with
  | zero =>
   intro i k acc hi hk ha
   obtain ⟨k, rfl⟩ : ∃ m, k = m + 1 := ⟨k - 1, by omega⟩
   obtain rfl : i = n := by omega
   exact hend k acc ha
  | succ m ih =>
   intro i k acc hi hk ha
   obtain ⟨k, rfl⟩ : ∃ m, k = m + 1 := ⟨k - 1, by omega⟩
   rcases hstep k i acc (by omega) ha with h | ⟨y, hy, h⟩
   ·exact h
   ·rw [h]; exact ih (i + 1) k _ (by omega) (by omega) (ha.snoc hy)
 exact key n 0 K [] (by omega) hn .nil
theorem k1 {i : Nat} (h : i <= 1048576) : z03 .i64 ((i : Int) + 1) = ((i + 1 : Nat) : Int) := by rw [k64 (by omega) (by omega)]; omega
theorem lt_d {i n : Nat} (h : i < n) : decide ((i : Int) < (n : Int)) = true := decide_eq_true (by omega)
theorem zv1 {n : Nat} : decide ((n : Int) < (n : Int)) = false := decide_eq_false (by omega)
noncomputable def vecE (l : List zAd) : Int := if l.length > 40 then 2 else z8s l
theorem zsx {n : Nat} {α : Type} (a b : α) : (if decide ((n : Int) > 40) = true then a else b) = if n > 40 then a else b := by
 by_cases h : n > 40
 ·rw [if_pos h, if_pos (decide_eq_true (by omega))]
 ·rw [if_neg h, if_neg (by simp; omega)]
theorem za5 {l : List zAd} (hl : l.length <= 1048576) (hs : ∀ s ∈ l, s.size <= 1048576) (hK : 2000000000 < K) : z4c K l = some (vecE l) := by
 unfold z4c vecE
 rw [zsx, zjy hl hs hK, z0n]
 split <;> rfl
theorem zj1 {l : List zAd} (hl : l.length <= 1048576) (hs : ∀ s ∈ l, s.size <= 1048576) (hK : 2000000000 < K) : z7n K l = some (vecE l) := by
 unfold z7n vecE
 rw [zsx, zom hl hs hK, z0n]
 split <;> rfl
theorem zoq {l : List zAd} (h : vecE l = 0) : l.length <= 40 /\ z8s l = 0 := by
 unfold vecE at h
 split at h
 ·cases h
 ·exact ⟨by omega, h⟩
theorem zsy {a b : Nat} : (((a : Int) != (b : Int)) = true) ↔ a ≠ b := by rw [bne_iff_ne]; omega
end Go.Am.Tryz
/- The closed matrix fact holds. -/
namespace Go.Am.Tryz
open Go Go.Am Go.Proofs
end Go.Am.Tryz
/- Plain law: rows and scalar products; MatrixDots answers true. -/
namespace Go.Am.Tryz
open Go Go.Am Go.Proofs
variable {K : Nat}
abbrev FT (f : Nat -> Rat) (n : Nat) (l : List zAd) : Prop := Fam (fun j s => RTx s (f j)) n l
theorem FT.uniq {f : Nat -> Rat} {n : Nat} {l m : List zAd} (h : FT f n l) (k : FT f n m) : l = m := Fam.uniq (fun _ _ _ h1 h2 => h1.inj h2) h k
theorem zub {l : List zAd} (hs : ∀ s ∈ l, s.size <= 1048576) (h : vecE l = 0) : ∃ f, FT f l.length l /\ l.length <= 40 /\ ∀ i, i < l.length -> Dl (f i) 2000 := by
 obtain ⟨h1, h2⟩ := zoq h
 obtain ⟨f, f1, f2⟩ := zua hs h2
 exact ⟨f, ⟨rfl, f1⟩, h1, f2⟩
end Go.Am.Tryz
/- Plain law: RatingSteps: what an accepted network says about its branches; comparisons with integers. -/
namespace Go.Am.Tryz
open Go Go.Am Go.Proofs
section
variable {K : Nat} {n : Network}
theorem zj2 : ∀ (xs : List Item) (m m' : List zAd), runS (chkI n) xs m = .inr m' -> ∀ x ∈ xs, x.bad = false
 | [], _, _, _, x, hx => by simp at hx
 | y :: xs, m, m', h, x, hx => by
  rw [runS] at h
  cases hc : chkI n y m with
  | inl e => rw [hc] at h; cases h
  | inr m1 =>
   rw [hc] at h
   have hy : y.bad = false := by
    unfold chkI at hc
    split at hc
    ·cases hc
    ·split at hc
     ·cases hc
     ·split at hc
      ·cases hc
      ·rename_i hb; simpa using hb
   rcases List.mem_cons.1 hx with rfl | h1
   ·exact hy
   ·exact zj2 xs m1 m' h x h1
structure GoodB (n : Network) : Prop where
 nodes : n.Nodes.length <= 24
 sws : n.Switches.length <= 32
 brs : n.Branches.length <= 24
 gens : n.Gens.length <= 10
 loads : n.Loads.length <= 12
 stores : n.Stores.length <= 4
 br : ∀ b ∈ n.Branches, 0 <= b.Limit /\ b.Limit <= 100000 /\ b.Limit <= b.Short /\ b.Short <= 100000 /\ 0 <= b.Hold /\ b.Hold <= 200000
theorem zv2 (h : netS n = 0) : GoodB n := by
 unfold netS at h
 split at h
 ·cases h
 ·rename_i hb
  have hb : bigS n = false := by simpa using hb
  unfold bigS at hb
  simp only [Bool.or_eq_false_iff, decide_eq_false_iff_not] at hb
  cases hr : runS chkN n.Nodes [] with
  | inl e =>
   rw [hr] at h
   exfalso
   have : e = 0 := h
   subst this
   have key : ∀ (xs : List zAd) (m : List zAd), runS chkN xs m ≠ .inl 0 := by
    intro xs
    induction xs with
    | nil => intro m e; cases e
    | cons x xs ih =>
     intro m e
     rw [runS] at e
     unfold chkN at e
     split at e
     ·rename_i hq
      simp only [Sum.elim_inl, Sum.inl.injEq] at e
      rw [e] at hq; simp at hq
     ·exact ih _ e
   exact key _ _ hr
  | inr met =>
   rw [hr] at h
   simp only [Sum.elim_inr] at h
   cases hi : runS (chkI n) (z9s n) met with
   | inl e =>
    rw [hi] at h
    exfalso
    have : e = 0 := h
    subst this
    have key : ∀ (xs : List Item) (m : List zAd), runS (chkI n) xs m ≠ .inl 0 := by
     intro xs
     induction xs with
     | nil => intro m e; cases e
     | cons x xs ih =>
      intro m e
      rw [runS] at e
      unfold chkI at e
      split at e
      ·rename_i hq
       simp only [Sum.elim_inl, Sum.inl.injEq] at e
       rw [e] at hq; simp at hq
      ·split at e
       ·simp at e
       ·split at e
        ·simp at e
        ·exact ih _ e
    exact key _ _ hi
   | inr m' =>
    have good := zj2 _ _ _ hi
    refine ⟨by omega, by omega, by omega, by omega, by omega, by omega, fun b hg => ?_⟩
    have := good (iBr b) (by unfold z9s; simp only [List.mem_append, List.mem_map]; exact .inl (.inl (.inl (.inr ⟨b, hg, rfl⟩))))
    simp only [iBr, brS, inS, Bool.not_eq_false', Bool.and_eq_true, decide_eq_true_eq] at this
    omega
theorem zsz (G : GoodB n) : ∃ c, z5b K n = some c /\ c.Branches = n.Branches := by
 have h1 := G.nodes; have h2 := G.sws; have h3 := G.brs; have h4 := G.gens; have h5 := G.loads; have h6 := G.stores
 refine ⟨⟨n.Nodes, n.Switches, n.Branches, n.Gens, n.Loads, n.Stores⟩, ?_, rfl⟩
 unfold z5b z23 z17 z18 z1s z1i z1a
 simp only [List.length_nil, Nat.zero_add, List.nil_append]
 rw [if_pos (by omega), z0n, if_pos (by omega), z0n, if_pos (by omega), z0n, if_pos (by omega), z0n, if_pos (by omega), z0n, if_pos (by omega), z0n]
end
variable {K : Nat}
def rabs (x : Rat) : Rat := if x.num < 0 then -x else x
theorem zmq {x : Rat} {N : Nat} (h : Dl x N) : Dl (rabs x) N := by
 unfold rabs
 split
 ·exact h.neg
 ·exact h
theorem zt0 {a : Q} {x : Rat} (h : QV a x) : QV ⟨false, a.num, a.den⟩ (rabs x) := by
 obtain ⟨h1, h2, h3⟩ := h
 unfold rabs
 split
 ·rename_i hn
  refine ⟨?_, ?_, ?_⟩
  ·rw [Rat.neg_num]; exact (decide_eq_false (by omega)).symm
  ·rw [Rat.neg_num, Int.natAbs_neg]; exact h2
  ·rw [Rat.neg_den]; exact h3
 ·rename_i hn
  exact ⟨(decide_eq_false hn).symm, h2, h3⟩
theorem zt1 {m : Int} (h0 : 0 <= m) (h1 : m <= 200000) : Dl (m : Rat) 6 := by
 refine ⟨?_, ?_⟩
 ·rw [Rat.num_intCast]; omega
 ·rw [Rat.den_intCast]; decide
theorem intQ {m : Int} (h0 : 0 <= m) (h1 : m <= 200000) (hK : 2000000000 < K) : ∃ q, z8i K m = some q /\ QV q (m : Rat) := by
 obtain ⟨a, a1, a2, _⟩ := zmp (K := K) (n := m) h0 (by omega) hK (by omega)
 obtain ⟨b, b1, b2, _⟩ := zmp (K := K) (n := 1) (by omega) (by omega) hK (by omega)
 refine ⟨⟨false, a, b⟩, by unfold z8i; rw [if_neg (by simp; omega), a1, z0n, b1, z0n], ?_, ?_, ?_⟩
 ·rw [Rat.num_intCast]; exact (decide_eq_false (by omega)).symm
 ·rw [Rat.num_intCast, Int.natAbs_of_nonneg h0]; exact a2
 ·rw [Rat.den_intCast]; exact .inl b2
theorem zt2 (x y : Rat) : decide ((if x = y then 0 else if x < y then -1 else 1 : Int) > 0) = decide (y < x) := by
 by_cases h1 : x = y
 ·rw [if_pos h1]
  have : ¬ y < x := by rw [h1]; exact Rat.lt_irrefl
  rw [decide_eq_false this]; rfl
 ·rw [if_neg h1]
  by_cases h2 : x < y
  ·have : ¬ y < x := by grind
   rw [if_pos h2, decide_eq_false this]; rfl
  ·have : y < x := by grind
   rw [if_neg h2, decide_eq_true this]; rfl
theorem cmpI {a : Q} {x : Rat} {m : Int} (h : QV a x) (dx : Dl x 2000) (h0 : 0 <= m) (h1 : m <= 200000) (hK : 2000000000 < K) : ∃ p c, z8i K m = some p /\ z6d K a p = some c /\ decide (c > 0) = decide ((m : Rat) < x) := by
 obtain ⟨p, p1, p2⟩ := intQ (K := K) h0 h1 hK
 exact ⟨p, _, p1, zsv (K := K) (N := 2000) h p2 dx ((zt1 h0 h1).mono (by omega)) (by omega) hK, zt2 x m⟩
theorem zum {s : zAd} {x : Rat} {m : Int} (h : RTx s x) (dx : Dl x 2000) (h0 : 0 <= m) (h1 : m <= 200000) (hK : 2000000000 < K) : ∃ t c, z39 K K m = some t /\ z7p K s t = some c /\ decide (c > 0) = decide ((m : Rat) < x) := by
 obtain ⟨p, p1, p2⟩ := zsu (K := K) (n := m) (by simp [z56]; omega) hK
 exact ⟨p, _, p1, zsw (K := K) (N := 2000) h p2 dx ((zt1 h0 h1).mono (by omega)) (by omega) hK, zt2 x m⟩
theorem zt3 {s : zAd} {x : Rat} (h : RTx s x) (dx : Dl x 2000) (hK : 2000000000 < K) : ∃ t, z9l K s = some t /\ RTx t (rabs x) := by
 unfold z9l rabs
 rw [zmn (K := K) (N := 2000) h dx (by omega) hK, z0n]
 by_cases h1 : x = 0
 ·subst h1
  rw [if_pos rfl, if_neg (by simp), if_neg (by decide)]
  exact ⟨s, rfl, h⟩
 ·rw [if_neg h1]
  by_cases h2 : x.num < 0
  ·obtain ⟨t, t1, t2⟩ := zpi (K := K) (N := 2000) h dx (by omega) hK
   rw [if_pos h2, if_pos (by decide), t1, z0n, if_pos h2]
   exact ⟨t, rfl, t2⟩
  ·rw [if_neg h2, if_neg (by decide), if_neg h2]
   exact ⟨s, rfl, h⟩
def zc3 (b : Branch) (x : Rat) (s : Int) (p : Int × Bool × Bool) : Int × Bool × Bool :=
 if (b.Limit : Rat) < rabs x then (p.1 + s, true, p.2.2 || decide (p.1 + s > b.Hold) || decide ((b.Short : Rat) < rabs x)) else (0, false, false)
theorem zg7 {α : Type} {F : Nat -> α} {m i : Nat} {l : List α} {v : α} (h : Fam (fun j y => y = F j) m l) : Fam (fun j y => y = if j = i then v else F j) m (l.set i v) := by
 refine ⟨by simp [h.1], fun j hj => ?_⟩
 simp only [List.length_set] at hj
 rw [List.getElem_set]
 by_cases c : i = j
 ·subst c; rw [if_pos rfl, if_pos rfl]
 ·rw [if_neg c, if_neg (fun e => c e.symm)]; exact h.2 j hj
theorem z93 {α : Type} {F : Nat -> α} {m i : Nat} {l : List α} (h : Fam (fun j y => y = F j) m l) (hi : i < m) : idx l (i : Int) = some (F i) := by
 obtain ⟨y, h1, rfl⟩ := h.idx hi
 exact h1
theorem famc {α : Type} {F G : Nat -> α} {m : Nat} {l : List α} (h : Fam (fun j y => y = F j) m l) (e : ∀ j, j < m -> F j = G j) : Fam (fun j y => y = G j) m l :=
 h.mono fun j y hj hy => by rw [hy, e j hj]
structure WS (m : Nat) (S : Nat -> Int × Bool × Bool) (U : List Int) (A O : List Bool) : Prop where
 u : Fam (fun j y => y = (S j).1) m U
 a : Fam (fun j y => y = (S j).2.1) m A
 o : Fam (fun j y => y = (S j).2.2) m O
theorem WS.set {m i : Nat} {S : Nat -> Int × Bool × Bool} {U : List Int} {A O : List Bool} (h : WS m S U A O) (p : Int × Bool × Bool) : WS m (fun j => if j = i then p else S j) (U.set i p.1) (A.set i p.2.1) (O.set i p.2.2) :=
 ⟨famc (zg7 h.u) fun j _ => by split <;> rfl, famc (zg7 h.a) fun j _ => by split <;> rfl, famc (zg7 h.o) fun j _ => by split <;> rfl⟩
theorem WS.congr {m : Nat} {S T : Nat -> Int × Bool × Bool} {U : List Int} {A O : List Bool} (h : WS m S U A O) (e : ∀ j, j < m -> S j = T j) : WS m T U A O :=
 ⟨famc h.u fun j hj => by rw [e j hj], famc h.a fun j hj => by rw [e j hj], famc h.o fun j hj => by rw [e j hj]⟩
theorem WS.uniq {m : Nat} {S : Nat -> Int × Bool × Bool} {U U' : List Int} {A A' O O' : List Bool} (h : WS m S U A O) (k : WS m S U' A' O') : U = U' /\ A = A' /\ O = O' :=
 ⟨Fam.uniq (fun _ _ _ a b => a.trans b.symm) h.u k.u, Fam.uniq (fun _ _ _ a b => a.trans b.symm) h.a k.a, Fam.uniq (fun _ _ _ a b => a.trans b.symm) h.o k.o⟩
end Go.Am.Tryz
/- Plain law: RatingSteps: what Step, Over and Left compute. -/
namespace Go.Am.Tryz
open Go Go.Am Go.Proofs
variable {K : Nat}
theorem kadd {u s : Int} (hu : 0 <= u /\ u <= 100000) (hs : 0 <= s /\ s <= 100000) : z03 .i64 (u + s) = u + s := k64 (by omega) (by omega)
def bAt (l : List Branch) (i : Nat) : Branch := l.getD i ⟨⟨#[]⟩, ⟨#[]⟩, ⟨#[]⟩, 0, 0, 0, 0, 0, 0⟩
theorem bIdx {l : List Branch} {i : Nat} (h : i < l.length) : idx l (i : Int) = some (bAt l i) /\ bAt l i ∈ l := by
 unfold bAt
 rw [zAb, zAh h]
 exact ⟨z2v (zAh h), List.getElem_mem h⟩
def GB (l : List Branch) : Prop := l.length <= 24 /\ ∀ b ∈ l, 0 <= b.Limit /\ b.Limit <= 100000 /\ b.Limit <= b.Short /\ b.Short <= 100000 /\ 0 <= b.Hold /\ b.Hold <= 200000
theorem zor {w : Rating_Watch} {S : Nat -> Int × Bool × Bool} {f : Nat -> Rat} {l : List zAd} {s : Int} (hB : GB w.branches) (hW : WS w.branches.length S w.used w.above w.over) (hl : FT f w.branches.length l) (hs : ∀ x ∈ l, x.size <= 1048576) (df : ∀ i, i < w.branches.length -> Dl (f i) 2000) (hu : ∀ i, i < w.branches.length -> 0 <= (S i).1 /\ (S i).1 <= 100000) (h1 : 1 <= s) (h2 : s <= 200) (hK : 2000000000 < K) :
  ∃ U A O, z0w K w l s K w.used w.above w.over 0 = some (U, A, O) /\ WS w.branches.length (fun i => zc3 (bAt w.branches i) (f i) s (S i)) U A O := by
 obtain ⟨hB1, hB2⟩ := hB
 have key : ∃ o : List Int × List Bool × List Bool, z0w K w l s K w.used w.above w.over 0 = some o /\ WS w.branches.length (fun i => zc3 (bAt w.branches i) (f i) s (S i)) o.1 o.2.1 o.2.2 := by
  refine zav (fun k (q : List Int × List Bool × List Bool × Int) => z0w K w l s k q.1 q.2.1 q.2.2.1 q.2.2.2) (fun q => ∃ i : Nat, q.2.2.2 = i /\ i <= w.branches.length /\ WS w.branches.length (fun j => if j < i then zc3 (bAt w.branches j) (f j) s (S j) else S j) q.1 q.2.1 q.2.2.1) (fun q => (w.branches.length - q.2.2.2 : Int).toNat) _ ?_ ((w.used, w.above, w.over, 0) : List Int × List Bool × List Bool × Int) (by dsimp only; omega) ⟨0, rfl, by omega, hW.congr fun j _ => by rw [if_neg (by omega)]⟩
  rintro k ⟨U, A, O, _⟩ ⟨i, rfl, i1, i2⟩
  dsimp only at i2 ⊢
  by_cases hi : i < w.branches.length
  ·right
   obtain ⟨b1, b2⟩ := bIdx hi
   have hb := hB2 _ b2
   obtain ⟨x, x1, x2⟩ := Fam.idx hl hi
   have hxs : x.size <= 1048576 := hs _ (by
    have := (z0c x1).2.2
    exact List.mem_of_getElem? this)
   obtain ⟨q, q1, q2⟩ := zu9 (K := K) x2 hxs hK
   have q3 := zt0 q2
   have d3 := zmq (df i hi)
   obtain ⟨p, c, c1, c2, c3⟩ := cmpI (K := K) q3 d3 hb.1 (by omega) hK
   obtain ⟨p', c', e1, e2, e3⟩ := cmpI (K := K) (m := (bAt w.branches i).Short) q3 d3 (by omega) (by omega) hK
   have hui := z93 i2.u hi
   have hai := z93 i2.a hi
   have hoi := z93 i2.o hi
   rw [if_neg (by omega)] at hui hai hoi
   have hA2 := zg7 (v := decide (c > 0)) (i := i) i2.a
   have ha2 := z93 hA2 hi
   rw [if_pos rfl] at ha2
   have hnx : ∀ (P : Int × Bool × Bool), P = zc3 (bAt w.branches i) (f i) s (S i) -> WS w.branches.length (fun j => if j < i + 1 then zc3 (bAt w.branches j) (f j) s (S j) else S j) (U.set i P.1) (A.set i P.2.1) (O.set i P.2.2) := fun P hP => (i2.set (i := i) P).congr fun j _ => by
    by_cases c : j = i
    ·subst c; rw [if_pos rfl, if_pos (by omega)]; exact hP
    ·rw [if_neg c]
     by_cases c2 : j < i
     ·rw [if_pos c2, if_pos (by omega)]
     ·rw [if_neg c2, if_neg (by omega)]
   have hU2 := zg7 (v := (S i).1 + s) (i := i) i2.u
   have hu2 := z93 hU2 hi
   rw [if_pos rfl] at hu2
   have hk : z03 .i64 ((S i).1 + s) = (S i).1 + s := kadd (hu i hi) (by omega)
   have hqa : za1 K q = some ⟨false, q.num, q.den⟩ := rfl
   by_cases hab : ((bAt w.branches i).Limit : Rat) < rabs (f i)
   ·have hc : decide (c > 0) = true := by rw [c3]; exact decide_eq_true hab
    have hP : zc3 (bAt w.branches i) (f i) s (S i) = ((S i).1 + s, true, (S i).2.2 || decide ((S i).1 + s > (bAt w.branches i).Hold) || decide (((bAt w.branches i).Short : Rat) < rabs (f i))) := by unfold zc3; rw [if_pos hab]
    rw [hc] at ha2
    refine ⟨(U.set i (zc3 (bAt w.branches i) (f i) s (S i)).1, A.set i (zc3 (bAt w.branches i) (f i) s (S i)).2.1, O.set i (zc3 (bAt w.branches i) (f i) s (S i)).2.2, ((i + 1 : Nat) : Int)), ?_, by dsimp only; omega, i + 1, rfl, by omega, hnx _ rfl⟩
    rw [hP]
    dsimp only
    rw [z0w]
    unfold lt
    simp only [lt_d hi, if_true, b1, x1, q1, hqa, c1, c2, hai, hc, Int.toNat_natCast, ha2, Bool.not_true, Bool.false_eq_true, if_false, hui, hoi, hk, z0n]
    cases ho : (S i).2.2 with
    | true => simp only [if_true, z0n, tu3a, Bool.true_or, k1 (show i <= 1048576 by omega)]
    | false =>
     simp only [Bool.false_eq_true, if_false, hu2, z0n]
     by_cases hh : (S i).1 + s > (bAt w.branches i).Hold
     ·simp only [hh, decide_true, if_true, z0n, tu3a, Bool.false_or, Bool.true_or, k1 (show i <= 1048576 by omega)]
     ·simp only [hh, decide_false, Bool.false_eq_true, if_false, e1, e2, e3, z0n, tu3a, Bool.false_or, k1 (show i <= 1048576 by omega)]
   ·have hc : decide (c > 0) = false := by rw [c3]; exact decide_eq_false hab
    have hP : zc3 (bAt w.branches i) (f i) s (S i) = (0, false, false) := by unfold zc3; rw [if_neg hab]
    rw [hc] at ha2
    refine ⟨(U.set i (zc3 (bAt w.branches i) (f i) s (S i)).1, A.set i (zc3 (bAt w.branches i) (f i) s (S i)).2.1, O.set i (zc3 (bAt w.branches i) (f i) s (S i)).2.2, ((i + 1 : Nat) : Int)), ?_, by dsimp only; omega, i + 1, rfl, by omega, hnx _ rfl⟩
    rw [hP]
    dsimp only
    rw [z0w]
    unfold lt
    simp only [lt_d hi, if_true, b1, x1, q1, hqa, c1, c2, hai, hc, Int.toNat_natCast, ha2, Bool.not_false, hui, hoi, z0n, tu3a, k1 (show i <= 1048576 by omega)]
  ·left
   have : i = w.branches.length := by omega
   subst this
   refine ⟨(U, A, O), ?_, i2.congr fun j hj => by rw [if_pos hj]⟩
   rw [z0w]
   unfold lt
   simp only [zv1, Bool.false_eq_true, if_false]
 obtain ⟨⟨U, A, O⟩, o1, o2⟩ := key
 exact ⟨U, A, O, o1, o2⟩
def nmS (l : List Branch) (S : Nat -> Int × Bool × Bool) : Nat -> List zAd
 | 0 => []
 | i + 1 => nmS l S i ++ if (S i).2.2 then [(bAt l i).Name] else []
theorem zj3 (l : List Branch) (S : Nat -> Int × Bool × Bool) : ∀ i, (nmS l S i).length <= i
 | 0 => by simp [nmS]
 | i + 1 => by
  have := zj3 l S i
  rw [nmS, List.length_append]
  split <;> simp <;> omega
theorem zpj {w : Rating_Watch} {S : Nat -> Int × Bool × Bool} (hB : GB w.branches) (hO : Fam (fun j y => y = (S j).2.2) w.branches.length w.over) (hK : 2000000000 < K) : z1n K w = some (nmS w.branches S w.branches.length, w) := by
 obtain ⟨hB1, hB2⟩ := hB
 have key : ∃ o : List zAd, z16 K w K [] 0 = some o /\ o = nmS w.branches S w.branches.length := by
  refine zav (fun k (q : List zAd × Int) => z16 K w k q.1 q.2) (fun q => ∃ i : Nat, q.2 = i /\ i <= w.branches.length /\ q.1 = nmS w.branches S i) (fun q => (w.branches.length - q.2 : Int).toNat) _ ?_ (([], 0) : List zAd × Int) (by dsimp only; omega) ⟨0, rfl, by omega, rfl⟩
  rintro k ⟨_, _⟩ ⟨i, rfl, i1, rfl⟩
  dsimp only
  by_cases hi : i < w.branches.length
  ·right
   obtain ⟨b1, b2⟩ := bIdx hi
   have hoi := z93 hO hi
   have hnl := zj3 w.branches S i
   refine ⟨(nmS w.branches S (i + 1), ((i + 1 : Nat) : Int)), ?_, by dsimp only; omega, i + 1, rfl, by omega, rfl⟩
   rw [z16, if_pos (lt_d hi)]
   simp only [b1, hoi, z0n, nmS, k1 (show i <= 1048576 by omega)]
   cases (S i).2.2 with
   | true => rw [if_pos rfl, if_pos (by simp; omega), z0n, tu1a, if_pos rfl]
   | false => rw [if_neg (by simp), z0n, tu1a, if_neg (by simp), List.append_nil]
  ·left
   have : i = w.branches.length := by omega
   subst this
   exact ⟨_, by rw [z16, if_neg (by simp)], rfl⟩
 obtain ⟨o, o1, rfl⟩ := key
 unfold z1n
 rw [o1]; rfl
def zqx (b : Branch) (p : Int × Bool × Bool) : Int := if p.2.2 then 0 else if p.2.1 then imax 0 (z03 .i64 (b.Hold - p.1)) else -1
theorem zt4 {w : Rating_Watch} {S : Nat -> Int × Bool × Bool} (hB : GB w.branches) (hW : WS w.branches.length S w.used w.above w.over) (hK : 2000000000 < K) : ∃ l, z2s K w = some (l, w) /\ Fam (fun i y => y = RatingLeft.mk (bAt w.branches i).Name (zqx (bAt w.branches i) (S i))) w.branches.length l := by
 obtain ⟨hB1, hB2⟩ := hB
 obtain ⟨l, l1, l2⟩ := zop (K := K) w.branches.length (z1f K w) (fun i y => y = RatingLeft.mk (bAt w.branches i).Name (zqx (bAt w.branches i) (S i))) (fun l => Fam (fun i y => y = RatingLeft.mk (bAt w.branches i).Name (zqx (bAt w.branches i) (S i))) w.branches.length l) (by omega)
  (fun k acc ha => ⟨acc, by rw [z1f, if_neg (by simp)], ha⟩)
  (fun k i acc hi ha => by
   right
   obtain ⟨b1, b2⟩ := bIdx hi
   have hui := z93 hW.u hi
   have hai := z93 hW.a hi
   have hoi := z93 hW.o hi
   have hal := ha.1
   refine ⟨_, rfl, ?_⟩
   rw [z1f, if_pos (lt_d hi)]
   simp only [b1, hai, hoi, hui, z0n, k1 (show i <= 1048576 by omega)]
   unfold zqx
   cases (S i).2.1 <;> cases (S i).2.2 <;> simp only [if_true, if_false, Bool.false_eq_true, z0n, tu1a] <;> rw [if_pos (by simp; omega)])
 exact ⟨l, by unfold z2s; rw [l1]; rfl, l2⟩
end Go.Am.Tryz
/- Plain law: RatingSteps: what the reference's Ratings computes. -/
namespace Go.Am.Tryz
open Go Go.Am Go.Proofs
variable {K : Nat}
def secT (ab sh : Bool) (hold u : Int) (o : Bool) (t : Nat) : Int × Bool := if t = 0 then (u, o) else if ab then (u + t, o || decide (u + t > hold) || sh) else (0, false)
theorem zos {ab sh : Bool} {hold u : Int} {o : Bool} {t : Nat} : secT ab sh hold u o (t + 1) = if ab then ((secT ab sh hold u o t).1 + 1, (secT ab sh hold u o t).2 || decide ((secT ab sh hold u o t).1 + 1 > hold) || sh) else (0, false) := by
 unfold secT
 rw [if_neg (by omega)]
 cases ab with
 | false => rfl
 | true =>
  by_cases h : t = 0
  ·subst h
   simp
  ·simp only [if_neg h, if_true]
   refine Prod.ext (by dsimp only; omega) ?_
   dsimp only
   have e : u + ((t + 1 : Nat) : Int) = u + t + 1 := by omega
   rw [e]
   by_cases c : u + (t : Int) > hold
   ·rw [decide_eq_true c, decide_eq_true (show u + (t : Int) + 1 > hold by omega)]; cases o <;> cases sh <;> rfl
   ·rw [decide_eq_false c]
    cases o <;> cases sh <;> cases decide (u + (t : Int) + 1 > hold) <;> rfl
theorem zqy {m i : Nat} {S : Nat -> Int × Bool × Bool} {U : List Int} {A O : List Bool} {b : Branch} {x : Rat} {t : zAd} {c s : Int} (hi : i < m) (hm : m <= 24) (hW : WS m S U A O) (hb : 0 <= b.Short /\ b.Short <= 100000) (ht : RTx t (rabs x)) (dx : Dl x 2000) (hc : decide (c > 0) = decide ((b.Limit : Rat) < rabs x)) (hu : 0 <= (S i).1 /\ (S i).1 <= 99000) (h1 : 1 <= s) (h2 : s <= 200) (hK : 2000000000 < K) :
  ∃ O' U', z31 K (i : Int) b A t c s K O U 0 = some (O', U') /\ WS m (fun j => if j = i then zc3 b x s (S i) else S j) U' (A.set i (decide (c > 0))) O' := by
 obtain ⟨p, c', e1, e2, e3⟩ := zum (K := K) (m := b.Short) ht (zmq dx) hb.1 (by omega) hK
 obtain ⟨ab, hab⟩ : ∃ ab, ab = decide (c > 0) := ⟨_, rfl⟩
 obtain ⟨sh, hsh⟩ : ∃ sh, sh = decide ((b.Short : Rat) < rabs x) := ⟨_, rfl⟩
 rw [<- hsh] at e3
 have hA2 := zg7 (v := ab) (i := i) hW.a
 have ha2 := z93 hA2 hi
 rw [if_pos rfl] at ha2
 obtain ⟨T, hT⟩ : ∃ T : Nat, s = T := ⟨s.toNat, by omega⟩
 have key : ∃ o : List Bool × List Int, z31 K (i : Int) b A t c s K O U 0 = some o /\ Fam (fun j y => y = if j = i then (secT ab sh b.Hold (S i).1 (S i).2.2 T).2 else (S j).2.2) m o.1 /\ Fam (fun j y => y = if j = i then (secT ab sh b.Hold (S i).1 (S i).2.2 T).1 else (S j).1) m o.2 := by
  refine zav (fun k (q : List Bool × List Int × Int) => z31 K (i : Int) b A t c s k q.1 q.2.1 q.2.2) (fun q => ∃ n : Nat, q.2.2 = n /\ n <= T /\ Fam (fun j y => y = if j = i then (secT ab sh b.Hold (S i).1 (S i).2.2 n).2 else (S j).2.2) m q.1 /\ Fam (fun j y => y = if j = i then (secT ab sh b.Hold (S i).1 (S i).2.2 n).1 else (S j).1) m q.2.1) (fun q => (T - q.2.2 : Int).toNat) _ ?_ ((O, U, 0) : List Bool × List Int × Int) (by dsimp only; omega) ⟨0, rfl, by omega, famc hW.o fun j _ => by
   by_cases c : j = i
   ·subst c; rw [if_pos rfl]; rfl
   ·rw [if_neg c], famc hW.u fun j _ => by
   by_cases c : j = i
   ·subst c; rw [if_pos rfl]; rfl
   ·rw [if_neg c]⟩
  rintro k ⟨O1, U1, _⟩ ⟨n, rfl, n1, n2, n3⟩
  dsimp only at n2 n3 ⊢
  by_cases hn : n < T
  ·right
   have ho := z93 n2 hi
   have hu1 := z93 n3 hi
   rw [if_pos rfl] at ho hu1
   have hst := zos (ab := ab) (sh := sh) (hold := b.Hold) (u := (S i).1) (o := (S i).2.2) (t := n)
   have hbd : 0 <= (secT ab sh b.Hold (S i).1 (S i).2.2 n).1 /\ (secT ab sh b.Hold (S i).1 (S i).2.2 n).1 <= 100000 := by
    unfold secT
    split
    ·exact ⟨hu.1, by dsimp only; omega⟩
    ·split
     ·dsimp only; omega
     ·simp
   generalize hP : secT ab sh b.Hold (S i).1 (S i).2.2 n = P at ho hu1 hst hbd n2 n3
   have fin : ∀ P', P' = secT ab sh b.Hold (S i).1 (S i).2.2 (n + 1) -> Fam (fun j y => y = if j = i then (secT ab sh b.Hold (S i).1 (S i).2.2 (n + 1)).2 else (S j).2.2) m (O1.set i P'.2) /\ Fam (fun j y => y = if j = i then (secT ab sh b.Hold (S i).1 (S i).2.2 (n + 1)).1 else (S j).1) m (U1.set i P'.1) := fun P' hP' => by
    rw [<- hP']
    exact ⟨famc (zg7 n2) fun j _ => by by_cases c : j = i <;> simp [c], famc (zg7 n3) fun j _ => by by_cases c : j = i <;> simp [c]⟩
   refine ⟨(O1.set i (secT ab sh b.Hold (S i).1 (S i).2.2 (n + 1)).2, U1.set i (secT ab sh b.Hold (S i).1 (S i).2.2 (n + 1)).1, ((n + 1 : Nat) : Int)), ?_, by dsimp only; omega, n + 1, rfl, by omega, fin _ rfl⟩
   have hk : z03 .i64 (P.1 + 1) = P.1 + 1 := kadd hbd (by omega)
   have hlt : decide ((n : Int) < s) = true := decide_eq_true (by omega)
   rw [hst]
   dsimp only
   rw [z31, hlt, if_pos rfl, <- hab]
   cases hb2 : ab with
   | false =>
    rw [hb2] at ha2
    simp only [Int.toNat_natCast, ha2, z0n, Bool.false_eq_true, if_false, hu1, tu1a, ho, tu2a, k1 (show n <= 1048576 by omega)]
   | true =>
    rw [hb2] at ha2
    have hU2 := zg7 (v := P.1 + 1) (i := i) n3
    have hu2 := z93 hU2 hi
    rw [if_pos rfl] at hu2
    simp only [Int.toNat_natCast, ha2, z0n, if_true, hu1, hk, tu1a, ho, k1 (show n <= 1048576 by omega)]
    cases ho2 : P.2 with
    | true => simp only [if_true, z0n, tu2a, Bool.true_or]
    | false =>
     simp only [Bool.false_eq_true, if_false, hu2, z0n]
     by_cases hh : P.1 + 1 > b.Hold
     ·simp only [hh, decide_true, if_true, z0n, tu2a, Bool.false_or, Bool.true_or]
     ·simp only [hh, decide_false, Bool.false_eq_true, if_false, e1, e2, e3, z0n, tu2a, Bool.false_or]
  ·left
   have : n = T := by omega
   subst this
   exact ⟨(O1, U1), by rw [z31, decide_eq_false (by omega), if_neg (by simp)], n2, n3⟩
 obtain ⟨⟨O1, U1⟩, o1, o2, o3⟩ := key
 have hfin : secT ab sh b.Hold (S i).1 (S i).2.2 T = ((zc3 b x s (S i)).1, (zc3 b x s (S i)).2.2) /\ ab = (zc3 b x s (S i)).2.1 := by
  unfold secT zc3
  rw [if_neg (by omega), hT]
  by_cases c2 : (b.Limit : Rat) < rabs x
  ·have : ab = true := by rw [hab, hc]; exact decide_eq_true c2
   rw [if_pos c2, this, if_pos rfl, hsh]
   exact ⟨rfl, rfl⟩
  ·have : ab = false := by rw [hab, hc]; exact decide_eq_false c2
   rw [if_neg c2, this, if_neg (by simp)]
   exact ⟨rfl, rfl⟩
 obtain ⟨f1, f2⟩ := hfin
 rw [f1] at o2 o3
 rw [f2] at hA2
 refine ⟨O1, U1, o1, famc o3 fun j _ => by split <;> rfl, ?_, famc o2 fun j _ => by split <;> rfl⟩
 rw [<- hab, f2]
 exact famc hA2 fun j _ => by split <;> rfl
abbrev GsT := List ((Nat -> Rat) × Int)
def RS (l : List Branch) (gs : GsT) (i : Nat) : Int × Bool × Bool := gs.foldl (fun p g => zc3 (bAt l i) (g.1 i) g.2 p) (0, false, false)
theorem zj4 (l : List Branch) (gs : GsT) (g : (Nat -> Rat) × Int) (i : Nat) : RS l (gs ++ [g]) i = zc3 (bAt l i) (g.1 i) g.2 (RS l gs i) := by
 unfold RS; rw [List.foldl_append]; rfl
def GsOk (m : Nat) (gs : GsT) (good : List (List zAd)) (times : List Int) : Prop :=
 gs.length <= 6 /\ times = gs.map (·.2) /\ good.length = gs.length /\ (∀ k (h : k < gs.length), 1 <= gs[k].2 /\ gs[k].2 <= 200 /\ (∀ i, i < m -> Dl (gs[k].1 i) 2000) /\ ∃ row, good[k]? = some row /\ FT gs[k].1 m row)
theorem zuc {m : Nat} {l : List Branch} {good : List (List zAd)} {times : List Int} {gs : GsT} (h : GsOk m gs good times) (i : Nat) : ∀ k, k <= gs.length -> 0 <= (RS l (gs.take k) i).1 /\ (RS l (gs.take k) i).1 <= 200 * k
 | 0, _ => by simp [RS]
 | k + 1, hk => by
  obtain ⟨h1, h2⟩ := zuc (l := l) h i k (by omega)
  have ht : gs.take (k + 1) = gs.take k ++ [gs[k]] := by rw [List.take_add_one, zAh (by omega)]; rfl
  obtain ⟨g1, g2, _⟩ := h.2.2.2 k (by omega)
  rw [ht, zj4]
  unfold zc3
  split
  ·dsimp only; omega
  ·dsimp only; omega
theorem zmr {m i : Nat} {l : List Branch} {gs : GsT} {good : List (List zAd)} {times : List Int} {S : Nat -> Int × Bool × Bool} {U : List Int} {A O : List Bool} (hB : GB l) (hm : l.length = m) (hG : GsOk m gs good times) (hi : i < m) (hW : WS m S U A O) (h0 : S i = (0, false, false)) (hK : 2000000000 < K) :
  ∃ A' O' U', z32 K good times (i : Int) (bAt l i) K A O U 0 = some (A', O', U') /\ WS m (fun j => if j = i then RS l gs i else S j) U' A' O' := by
 obtain ⟨hB1, hB2⟩ := hB
 obtain ⟨b1, b2⟩ := bIdx (show i < l.length by omega)
 have hb := hB2 _ b2
 obtain ⟨g1, g2, g3, g4⟩ := hG
 have key : ∃ o : List Bool × List Bool × List Int, z32 K good times (i : Int) (bAt l i) K A O U 0 = some o /\ WS m (fun j => if j = i then RS l gs i else S j) o.2.2 o.1 o.2.1 := by
  refine zav (fun k (q : List Bool × List Bool × List Int × Int) => z32 K good times (i : Int) (bAt l i) k q.1 q.2.1 q.2.2.1 q.2.2.2) (fun q => ∃ n : Nat, q.2.2.2 = n /\ n <= gs.length /\ WS m (fun j => if j = i then RS l (gs.take n) i else S j) q.2.2.1 q.1 q.2.1) (fun q => (gs.length - q.2.2.2 : Int).toNat) _ ?_ ((A, O, U, 0) : List Bool × List Bool × List Int × Int) (by dsimp only; omega) ⟨0, rfl, by omega, hW.congr fun j _ => by
   by_cases c : j = i
   ·subst c; rw [if_pos rfl, h0]; rfl
   ·rw [if_neg c]⟩
  rintro k ⟨A1, O1, U1, _⟩ ⟨n, rfl, n1, n2⟩
  dsimp only at n2 ⊢
  by_cases hn : n < gs.length
  ·right
   obtain ⟨q1, q2, q3, row, q4, q5⟩ := g4 n hn
   have hr : idx good (n : Int) = some row := z2v q4
   have hs : idx times (n : Int) = some gs[n].2 := z2v (by rw [g2, List.getElem?_map, zAh hn]; rfl)
   obtain ⟨x, x1, x2⟩ := Fam.idx q5 hi
   obtain ⟨t, t1, t2⟩ := zt3 (K := K) x2 (q3 i hi) hK
   obtain ⟨p, c, c1, c2, c3⟩ := zum (K := K) (m := (bAt l i).Limit) t2 (zmq (q3 i hi)) hb.1 (by omega) hK
   have hbd := zuc (l := l) (m := m) ⟨g1, g2, g3, g4⟩ i n (by omega)
   have hA := z93 n2.a hi
   obtain ⟨O', U', s1, s2⟩ := zqy (K := K) (S := fun j => if j = i then RS l (gs.take n) i else S j) (b := bAt l i) (x := gs[n].1 i) (s := gs[n].2) hi (by omega) n2 (by omega) t2 (q3 i hi) c3 (by rw [if_pos rfl]; omega) q1 q2 hK
   refine ⟨(A1.set i (decide (c > 0)), O', U', ((n + 1 : Nat) : Int)), ?_, by dsimp only; omega, n + 1, rfl, by omega, s2.congr fun j _ => ?_⟩
   ·rw [z32, g3, if_pos (lt_d hn)]
    simp only [hr, x1, t1, c1, c2, hA, hs, s1, z0n, tu2a, Int.toNat_natCast, k1 (show n <= 1048576 by omega)]
   ·by_cases e : j = i
    ·subst e
     rw [if_pos rfl, if_pos rfl, if_pos rfl]
     have ht : gs.take (n + 1) = gs.take n ++ [gs[n]] := by rw [List.take_add_one, zAh (by omega)]; rfl
     rw [ht, zj4]
    ·rw [if_neg e, if_neg e, if_neg e]
  ·left
   have : n = gs.length := by omega
   subst this
   rw [List.take_of_length_le (Nat.le_refl _)] at n2
   exact ⟨(A1, O1, U1), by rw [z32, g3, if_neg (by simp)], n2⟩
 obtain ⟨⟨A', O', U'⟩, o1, o2⟩ := key
 exact ⟨A', O', U', o1, o2⟩
theorem za6 {α : Type} {m : Nat} {v : α} : Fam (fun _ y => y = v) m (List.replicate m v) := by
 refine ⟨by simp, fun j hj => ?_⟩
 rw [List.getElem_replicate]
theorem zms {n : Network} {gs : GsT} {good : List (List zAd)} {times : List Int} (hB : GB n.Branches) (hG : GsOk n.Branches.length gs good times) (hK : 2000000000 < K) :
  ∃ U A O, z7d K n good times = some (U, O, A, good, times) /\ WS n.Branches.length (RS n.Branches gs) U A O := by
 have hB1 := hB.1
 have key : ∃ o : List Bool × List Bool × List Int, z3j K n good times K (List.replicate n.Branches.length false) (List.replicate n.Branches.length false) (List.replicate n.Branches.length 0) 0 = some o /\ WS n.Branches.length (RS n.Branches gs) o.2.2 o.1 o.2.1 := by
  refine zav (fun k (q : List Bool × List Bool × List Int × Int) => z3j K n good times k q.1 q.2.1 q.2.2.1 q.2.2.2) (fun q => ∃ i : Nat, q.2.2.2 = i /\ i <= n.Branches.length /\ WS n.Branches.length (fun j => if j < i then RS n.Branches gs j else (0, false, false)) q.2.2.1 q.1 q.2.1) (fun q => (n.Branches.length - q.2.2.2 : Int).toNat) _ ?_ ((List.replicate n.Branches.length false, List.replicate n.Branches.length false, List.replicate n.Branches.length 0, 0) : List Bool × List Bool × List Int × Int) (by dsimp only; omega) ⟨0, rfl, by omega, ⟨famc za6 fun j _ => by rw [if_neg (by omega)], famc za6 fun j _ => by rw [if_neg (by omega)], famc za6 fun j _ => by rw [if_neg (by omega)]⟩⟩
  rintro k ⟨A1, O1, U1, _⟩ ⟨i, rfl, i1, i2⟩
  dsimp only at i2 ⊢
  by_cases hi : i < n.Branches.length
  ·right
   obtain ⟨b1, b2⟩ := bIdx hi
   obtain ⟨A', O', U', s1, s2⟩ := zmr (K := K) hB rfl hG hi i2 (by rw [if_neg (by omega)]) hK
   refine ⟨(A', O', U', ((i + 1 : Nat) : Int)), ?_, by dsimp only; omega, i + 1, rfl, by omega, s2.congr fun j _ => ?_⟩
   ·rw [z3j, if_pos (lt_d hi)]
    simp only [b1, s1, z0n, tu3a, k1 (show i <= 1048576 by omega)]
   ·by_cases c : j = i
    ·subst c; rw [if_pos rfl, if_pos (by omega)]
    ·rw [if_neg c]
     by_cases c2 : j < i
     ·rw [if_pos c2, if_pos (by omega)]
     ·rw [if_neg c2, if_neg (by omega)]
  ·left
   have : i = n.Branches.length := by omega
   subst this
   exact ⟨(A1, O1, U1), by rw [z3j, if_neg (by simp)], i2.congr fun j hj => by rw [if_pos hj]⟩
 obtain ⟨⟨A', O', U'⟩, o1, o2⟩ := key
 refine ⟨U', A', O', ?_, o2⟩
 unfold z7d
 rw [if_pos (by omega), if_pos (by omega), if_pos (by omega), Int.toNat_natCast, o1, z0n, tu3a]
end Go.Am.Tryz
/- Plain law: RatingSteps answers true. -/
namespace Go.Am.Tryz
open Go Go.Am Go.Proofs
variable {K : Nat}
theorem zek : z7k 2000000001 = some true := by kernel_rfl
theorem zmt {l : List zAd} (hl : l.length <= 1048576) (hK : 2000000000 < K) : z0k K l l = some true := by
 unfold z0k
 rw [if_neg (by simp), zqw (K := K) (l := l) (L := z0p K l l) (fun _ => none) (fun k => by rw [z0p, if_neg (by simp)]) (fun k i hi => ?_) (by omega)]
 ·have : l.findSome? (fun _ => (none : Option Bool)) = none := by simp
  rw [this]; rfl
 ·have hx : idx l (i : Int) = some l[i] := z2v (zAh hi)
  rw [z0p, if_pos (lt_d hi), hx, z0n, z0n, zg5, k1 (by omega)]
  rfl
noncomputable def zot (m : Nat) (l : List zAd) (s : Int) : Int := if vecE l ≠ 0 then vecE l else if l.length ≠ m then 3 else if s < 1 \/ s > 200000 then 12 else 0
theorem zqz {w : Rating_Watch} {S : Nat -> Int × Bool × Bool} {l : List zAd} {s : Int} (hB : GB w.branches) (hW : WS w.branches.length S w.used w.above w.over) (hl : l.length <= 1048576) (hs : ∀ x ∈ l, x.size <= 1048576) (hu : ∀ i, i < w.branches.length -> 0 <= (S i).1 /\ (S i).1 <= 100000) (hT : 0 <= w.time /\ w.time <= 1200) (hsec : ¬ (s > 200 /\ s <= 200000)) (hsr : -9223372036854775808 <= s /\ s <= 9223372036854775807) (hK : 2000000000 < K) :
  (zot w.branches.length l s ≠ 0 /\ z1b K w l s = some ([], zot w.branches.length l s, w)) ∨
  (zot w.branches.length l s = 0 /\ 1 <= s /\ s <= 200 /\ ∃ f w', FT f w.branches.length l /\ (∀ i, i < w.branches.length -> Dl (f i) 2000) /\ w'.branches = w.branches /\ w'.time = w.time + s /\ WS w.branches.length (fun i => zc3 (bAt w.branches i) (f i) s (S i)) w'.used w'.above w'.over ∧
   z1b K w l s = some (nmS w.branches (fun i => zc3 (bAt w.branches i) (f i) s (S i)) w.branches.length, 0, w')) := by
 have hk : z03 .i64 ((200000 : Int) - w.time) = 200000 - w.time := k64 (by omega) (by omega)
 unfold zot
 by_cases ev : vecE l = 0
 ·rw [if_neg (by simpa using ev)]
  by_cases el : l.length = w.branches.length
  ·rw [if_neg (by simpa using el)]
   have hne : ((l.length : Int) != (w.branches.length : Int)) = false := by rw [el]; simp
   by_cases es : s < 1 \/ s > 200000
   ·left
    rw [if_pos es]
    refine ⟨by decide, ?_⟩
    unfold z1b
    rw [za5 hl hs hK, ev, z0n, if_neg (by simp), hne, if_neg (by simp), hk]
    by_cases e1 : s < 1
    ·rw [if_pos (decide_eq_true e1), z0n, tu1a, if_pos rfl]
    ·rw [if_neg (by simpa using e1), z0n, tu1a, decide_eq_true (by omega), if_pos rfl]
   ·right
    rw [if_neg es]
    obtain ⟨f, f1, f2, f3⟩ := zub hs ev
    rw [el] at f1 f3
    obtain ⟨U, A, O, u1, u2⟩ := zor (K := K) (s := s) hB hW f1 hs f3 hu (by omega) (by omega) hK
    refine ⟨rfl, by omega, by omega, f, ⟨w.branches, U, A, O, w.time + s⟩, f1, f3, rfl, rfl, u2, ?_⟩
    have ho := zpj (K := K) (w := ⟨w.branches, U, A, O, w.time + s⟩) (S := fun i => zc3 (bAt w.branches i) (f i) s (S i)) hB u2.o hK
    unfold z1b
    rw [za5 hl hs hK, ev, z0n, if_neg (by simp), hne, if_neg (by simp), hk, if_neg (by simp; omega), z0n, tu1a, show decide (s > 200000 - w.time) = false from decide_eq_false (by omega), if_neg (by simp), u1, z0n, tu3a, k64 (by omega) (by omega)]
    dsimp only at ho ⊢
    rw [ho, z0n]
  ·left
   rw [if_pos el]
   refine ⟨by decide, ?_⟩
   have hne : ((l.length : Int) != (w.branches.length : Int)) = true := zsy.2 el
   unfold z1b
   rw [za5 hl hs hK, ev, z0n, if_neg (by simp), if_pos hne]
 ·left
  rw [if_pos ev]
  refine ⟨ev, ?_⟩
  unfold z1b
  rw [za5 hl hs hK, z0n, if_pos (by simpa using ev)]
theorem zmu {n : Network} {S : Nat -> Int × Bool × Bool} {U : List Int} {A O : List Bool} {good : List (List zAd)} {times : List Int} {lf : List RatingLeft} {w : Rating_Watch} (hB : GB n.Branches) (hW : WS n.Branches.length S U A O) (hl : Fam (fun i y => y = RatingLeft.mk (bAt n.Branches i).Name (zqx (bAt n.Branches i) (S i))) n.Branches.length lf) (hK : 2000000000 < K) :
  z14 K n (U, O, A, good, times) (lf, w) K [] 0 = some (.inr (nmS n.Branches S n.Branches.length)) := by
 have hB1 := hB.1
 have key : ∃ o : Bool ⊕ List zAd, z14 K n (U, O, A, good, times) (lf, w) K [] 0 = some o /\ o = .inr (nmS n.Branches S n.Branches.length) := by
  refine zav (fun k (q : List zAd × Int) => z14 K n (U, O, A, good, times) (lf, w) k q.1 q.2) (fun q => ∃ i : Nat, q.2 = i /\ i <= n.Branches.length /\ q.1 = nmS n.Branches S i) (fun q => (n.Branches.length - q.2 : Int).toNat) _ ?_ (([], 0) : List zAd × Int) (by dsimp only; omega) ⟨0, rfl, by omega, rfl⟩
  rintro k ⟨_, _⟩ ⟨i, rfl, i1, rfl⟩
  dsimp only
  by_cases hi : i < n.Branches.length
  ·right
   obtain ⟨b1, b2⟩ := bIdx hi
   have hui := z93 hW.u hi
   have hai := z93 hW.a hi
   have hoi := z93 hW.o hi
   have hli := z93 (F := fun i => RatingLeft.mk (bAt n.Branches i).Name (zqx (bAt n.Branches i) (S i))) hl hi
   have hnl := zj3 n.Branches S i
   refine ⟨(nmS n.Branches S (i + 1), ((i + 1 : Nat) : Int)), ?_, by dsimp only; omega, i + 1, rfl, by omega, rfl⟩
   rw [z14, if_pos (lt_d hi)]
   unfold zqx at hli
   simp only [b1, hui, hai, hoi, hli, z0n, nmS, k1 (show i <= 1048576 by omega)]
   unfold lt
   cases (S i).2.1 <;> cases (S i).2.2 <;> simp only [if_true, if_false, Bool.false_eq_true, z0n, tu1a, tu2a, zg5, beq_self_eq_true, Bool.and_self, Bool.not_true, List.append_nil]
   all_goals first | rfl | (rw [if_pos (by simp; omega)]; simp only [z0n, tu2a, zg5, beq_self_eq_true, Bool.and_self, Bool.not_true, Bool.false_eq_true, if_false])
  ·left
   have : i = n.Branches.length := by omega
   subst this
   exact ⟨_, by rw [z14, if_neg (by simp)], rfl⟩
 obtain ⟨o, o1, rfl⟩ := key
 exact o1
theorem GsOk.snoc {m : Nat} {gs : GsT} {good : List (List zAd)} {times : List Int} {f : Nat -> Rat} {row : List zAd} {s : Int} (h : GsOk m gs good times) (h6 : gs.length < 6) (h1 : 1 <= s) (h2 : s <= 200) (hd : ∀ i, i < m -> Dl (f i) 2000) (hf : FT f m row) : GsOk m (gs ++ [(f, s)]) (good ++ [row]) (times ++ [s]) := by
 obtain ⟨g1, g2, g3, g4⟩ := h
 refine ⟨by simp; omega, by rw [g2]; simp, by simp [g3], fun k hk => ?_⟩
 simp only [List.length_append, List.length_cons, List.length_nil] at hk
 by_cases c : k < gs.length
 ·rw [List.getElem_append_left c]
  obtain ⟨q1, q2, q3, r, q4, q5⟩ := g4 k c
  exact ⟨q1, q2, q3, r, by rw [List.getElem?_append_left (by omega)]; exact q4, q5⟩
 ·have : k = gs.length := by omega
  subst this
  rw [List.getElem_append_right (Nat.le_refl _)]
  simp only [Nat.sub_self, List.getElem_cons_zero]
  exact ⟨h1, h2, hd, row, by rw [<- g3, List.getElem?_append_right (Nat.le_refl _)]; simp, hf⟩
def sumS (gs : GsT) : Int := (gs.map (·.2)).sum
theorem zg8 (gs : GsT) (f : Nat -> Rat) (s : Int) : sumS (gs ++ [(f, s)]) = sumS gs + s := by unfold sumS; simp
theorem zt5 {m : Nat} {gs : GsT} {good : List (List zAd)} {times : List Int} (h : GsOk m gs good times) : 0 <= sumS gs /\ sumS gs <= 1200 := by
 have key : ∀ k, k <= gs.length -> 0 <= sumS (gs.take k) /\ sumS (gs.take k) <= 200 * k := by
  intro k
  induction k with
  | zero => intro _; simp [sumS]
  | succ k ih =>
   intro hk
   obtain ⟨i1, i2⟩ := ih (by omega)
   obtain ⟨g1, g2, _⟩ := h.2.2.2 k (by omega)
   have ht : gs.take (k + 1) = gs.take k ++ [(gs[k].1, gs[k].2)] := by rw [List.take_add_one, zAh (by omega)]; rfl
   rw [ht, zg8]; omega
 have := key gs.length (Nat.le_refl _)
 rw [List.take_of_length_le (Nat.le_refl _)] at this
 have := h.1
 omega
theorem tu5b {α1 α2 α3 α4 α5 β : Type} (g : α1 -> α2 -> α3 -> α4 -> α5 -> Option β) (p : α1 × α2 × α3 × α4 × α5) : tu5 g p = g p.1 p.2.1 p.2.2.1 p.2.2.2.1 p.2.2.2.2 := (rfl)
theorem tu7b {α1 α2 α3 α4 α5 α6 α7 β : Type} (g : α1 -> α2 -> α3 -> α4 -> α5 -> α6 -> α7 -> Option β) (p : α1 × α2 × α3 × α4 × α5 × α6 × α7) : tu7 g p = g p.1 p.2.1 p.2.2.1 p.2.2.2.1 p.2.2.2.2.1 p.2.2.2.2.2.1 p.2.2.2.2.2.2 := (rfl)
theorem zpk {n : Network} {gs : GsT} {gd : List (List zAd)} {ts : List Int} {w : Rating_Watch} {ov : List zAd} {cd sm : Int} (hB : GB n.Branches) (hG : GsOk n.Branches.length gs gd ts) (hwb : w.branches = n.Branches) (hwt : w.time = sm) (hW : WS n.Branches.length (RS n.Branches gs) w.used w.above w.over) (ho : cd = 0 -> ov = nmS n.Branches (RS n.Branches gs) n.Branches.length) (hK : 2000000000 < K) :
  ((z7d K n gd ts).bind fun x452 => ((z2s K w).bind fun x477 => (Option.bind ((lt ((List.length x477.1 : Int) != (List.length n.Branches : Int)) fun x496 => (if x496 = true then some (x477.2, x477.2.used, x477.2.above, x477.2.over, true) else ((z3k K x477.2).bind fun x512 => some (x512.2, x512.2.used, x512.2.above, x512.2.over, (x512.1 != sm)))))) (tu5 fun x532 x533 x534 x535 x536 => (if x536 = true then some (.inl false) else (z70 (z14 K n x452 x477 K [] 0) (tu1 fun a844 => some (.inl a844)) (tu1 fun x707 => (Option.bind (((z1n K ({ x532 with used := x533, above := x534, over := x535 })).bind fun x729 => ((z0k K x729.1 x707).bind fun x750 => (if (!x750) = true then some (x729.2, x729.2.used, x729.2.above, x729.2.over, true) else (if (cd == 0) = true then ((z0k K ov x707).bind fun x777 => some (x729.2, x729.2.used, x729.2.above, x729.2.over, (!x777))) else some (x729.2, x729.2.used, x729.2.above, x729.2.over, false)))))) (tu5 fun x807 x808 x809 x810 x811 => (if x811 = true then some (.inl false) else some (.inr (x452.2.2.2.2, x452.2.2.2.1, x807, x808, x809, x810, sm)))))))))))) =
   (some (.inr (ts, gd, w, w.used, w.above, w.over, sm)) : Option (Bool ⊕ (List Int × List (List zAd) × Rating_Watch × List Int × List Bool × List Bool × Int))) := by
 have hB1 := hB.1
 subst hwt
 obtain ⟨U, A, O, u1, u2⟩ := zms (K := K) hB hG hK
 obtain ⟨e1, e2, e3⟩ := u2.uniq hW
 subst e1; subst e2; subst e3
 have hBw : GB w.branches := by rw [hwb]; exact hB
 have hWw : WS w.branches.length (RS n.Branches gs) w.used w.above w.over := by rw [hwb]; exact hW
 obtain ⟨lf, l1, l2⟩ := zt4 (K := K) hBw hWw hK
 have hov := zpj (K := K) (S := RS n.Branches gs) hBw hWw.o hK
 rw [hwb] at l2 hov
 have hnm := zmu (K := K) (good := gd) (times := ts) (w := w) hB hW l2 hK
 have hlen := l2.1
 have hne : ((lf.length : Int) != (n.Branches.length : Int)) = false := by rw [hlen]; simp
 have hns := zj3 n.Branches (RS n.Branches gs) n.Branches.length
 have hsl : z0k K (nmS n.Branches (RS n.Branches gs) n.Branches.length) (nmS n.Branches (RS n.Branches gs) n.Branches.length) = some true := zmt (by omega) hK
 have htm : z3k K w = some (w.time, w) := rfl
 have hov' : z1n K ⟨w.branches, w.used, w.above, w.over, w.time⟩ = some (nmS n.Branches (RS n.Branches gs) n.Branches.length, w) := hov
 unfold lt
 simp only [u1, l1, z0n, hne, Bool.false_eq_true, if_false, htm, tu5b, bne_self_eq_false, hnm, zg1, tu1a, hov', hsl, Bool.not_true]
 by_cases c : cd = 0
 ·subst c
  rw [ho rfl]
  simp only [beq_self_eq_true, if_true, hsl, z0n, Bool.not_true, tu5b, Bool.false_eq_true, if_false]
 ·have hc : (cd == 0) = false := by simpa using c
  simp only [hc, Bool.false_eq_true, if_false, z0n, tu5b]
theorem zr0 {n : Network} {p1 : List (List zAd)} {p2 : List Int} {c : Nat} {w0 : Rating_Watch} (hB : GB n.Branches) (hc1 : c <= p1.length) (hc2 : c <= p2.length) (hc6 : c <= 6) (hp1 : ∀ row ∈ p1, row.length <= 1048576 /\ ∀ x ∈ row, x.size <= 1048576) (hp2 : ∀ s ∈ p2, -9223372036854775808 <= s /\ s <= 9223372036854775807)
  (hw : w0.branches = n.Branches) (ht : w0.time = 0) (hW : WS n.Branches.length (fun _ => (0, false, false)) w0.used w0.above w0.over) (hK : 2000000000 < K) :
  ∃ r, z0r K n p2 (p1.take c) K [] [] w0 w0.used w0.above w0.over 0 0 = some (.inr r) := by
 have hB1 := hB.1
 have hcl : (p1.take c).length = c := by rw [List.length_take]; omega
 have key : ∃ o : Bool ⊕ (Rating_Watch × List Int × List Bool × List Bool), z0r K n p2 (p1.take c) K [] [] w0 w0.used w0.above w0.over 0 0 = some o /\ ∃ r, o = .inr r := by
  refine zav (fun k (q : List Int × List (List zAd) × Rating_Watch × List Int × List Bool × List Bool × Int × Int) => z0r K n p2 (p1.take c) k q.1 q.2.1 q.2.2.1 q.2.2.2.1 q.2.2.2.2.1 q.2.2.2.2.2.1 q.2.2.2.2.2.2.1 q.2.2.2.2.2.2.2)
   (fun q => ∃ (i : Nat) (gs : GsT), q.2.2.2.2.2.2.2 = i /\ i <= c /\ gs.length <= i /\ GsOk n.Branches.length gs q.2.1 q.1 /\ q.2.2.1.branches = n.Branches /\ q.2.2.1.time = sumS gs /\ q.2.2.2.2.2.2.1 = sumS gs /\ WS n.Branches.length (RS n.Branches gs) q.2.2.2.1 q.2.2.2.2.1 q.2.2.2.2.2.1)
   (fun q => (c - q.2.2.2.2.2.2.2 : Int).toNat) _ ?_ (([], [], w0, w0.used, w0.above, w0.over, 0, 0) : List Int × List (List zAd) × Rating_Watch × List Int × List Bool × List Bool × Int × Int) (by dsimp only; omega)
   ⟨0, [], rfl, by omega, by simp, ⟨by simp, rfl, rfl, fun k h => by simp at h⟩, hw, by rw [ht]; rfl, rfl, hW⟩
  rintro k ⟨ts, gd, w, U, A, O, sm, _⟩ ⟨i, gs, rfl, i1, i2, hG, hwb, hwt, rfl, hS⟩
  dsimp only at hG hwb hwt hS ⊢
  by_cases hi : i < c
  ·right
   have hgi : i < (p1.take c).length := by omega
   have hrow : (p1.take c)[i]? = some p1[i] := by rw [List.getElem?_take, if_pos hi, zAh (by omega)]
   have hr : idx (p1.take c) (i : Int) = some p1[i] := z2v hrow
   have hs : idx p2 (i : Int) = some p2[i] := z2v (zAh (by omega))
   obtain ⟨r1, r2⟩ := hp1 p1[i] (List.getElem_mem (by omega))
   have hsr := hp2 p2[i] (List.getElem_mem (by omega))
   generalize p1[i] = row at hr r1 r2
   generalize p2[i] = s at hs hsr
   by_cases hsk : s > 200 /\ s <= 200000
   ·refine ⟨(ts, gd, w, U, A, O, sumS gs, ((i + 1 : Nat) : Int)), ?_, by dsimp only; omega, i + 1, gs, rfl, by omega, by omega, hG, hwb, hwt, rfl, hS⟩
    rw [z0r, hcl, if_pos (lt_d hi)]
    simp only [hr, hs, z0n, hsk.1, hsk.2, decide_true, if_true, tu1a, zg1, tu7b, k1 (show i <= 1048576 by omega)]
   ·have hskip : (Option.bind ((if (decide (s > 200)) = true then ((idx p2 (i : Int)).bind fun x205 => some (decide (x205 <= 200000))) else some false)) fun x => some x) = some false := by
     by_cases h : s > 200
     ·rw [if_pos (decide_eq_true h), hs, z0n, z0n, decide_eq_false (by omega)]
     ·rw [if_neg (by simpa using h), z0n]
    have hskip2 : (if (decide (s > 200)) = true then some (decide (s <= 200000)) else some false) = some false := by
     by_cases h : s > 200
     ·rw [if_pos (decide_eq_true h), decide_eq_false (by omega)]
     ·rw [if_neg (by simpa using h)]
    have hsb := zt5 hG
    have hrb := fun j => zuc (l := n.Branches) hG j gs.length (Nat.le_refl _)
    simp only [List.take_length] at hrb
    have hg6 := hG.1
    have hst := zqz (K := K) (w := ⟨w.branches, U, A, O, w.time⟩) (S := RS n.Branches gs) (l := row) (s := s) (by rw [hwb]; exact hB) (by rw [hwb]; exact hS) r1 r2 (fun j _ => by have := hrb j; omega) (by dsimp only; omega) hsk hsr hK
    dsimp only at hst
    rw [hwb] at hst
    have hwant : ∀ {R : Type} (F : Int -> Option R), Option.bind ((if (vecE row == 0) = true then (lt ((row.length : Int) != (n.Branches.length : Int)) fun x267 => some x267) else some false)) (tu1 fun x271 => Option.bind ((if x271 = true then some 3 else some (vecE row))) (tu1 fun x287 => Option.bind ((if (x287 == 0) = true then (if (decide (s < 1)) = true then some true else some (decide (s > 200000))) else some false)) (tu1 fun x316 => Option.bind ((if x316 = true then some 12 else some x287)) (tu1 F)))) = F (zot n.Branches.length row s) := fun F => by
     unfold zot lt
     by_cases ev : vecE row = 0
     ·rw [if_neg (show ¬ vecE row ≠ 0 by simpa using ev), ev]
      by_cases el : row.length = n.Branches.length
      ·have hne : ((row.length : Int) != (n.Branches.length : Int)) = false := by rw [el]; simp
       rw [if_neg (show ¬ row.length ≠ n.Branches.length by simpa using el)]
       simp only [beq_self_eq_true, if_true, hne, z0n, tu1a, Bool.false_eq_true, if_false]
       by_cases e1 : s < 1
       ·rw [if_pos (decide_eq_true e1), if_pos (.inl e1)]; rfl
       ·rw [if_neg (by simpa using e1)]
        by_cases e2 : s > 200000
        ·rw [decide_eq_true e2, if_pos (.inr e2)]; rfl
        ·rw [decide_eq_false e2, if_neg (by omega)]; rfl
      ·have hne : ((row.length : Int) != (n.Branches.length : Int)) = true := zsy.2 el
       rw [if_pos el]
       simp only [beq_self_eq_true, if_true, hne, z0n, tu1a]
       rfl
     ·have h0 : (vecE row == 0) = false := by simpa using ev
      rw [if_pos ev, h0]
      simp only [Bool.false_eq_true, if_false, z0n, tu1a, h0]
    rcases hst with ⟨he, hst⟩ | ⟨he, q1, q2, f, w', f1, f2, wb, wt, wW, hst⟩
    ·refine ⟨(ts, gd, ⟨n.Branches, U, A, O, w.time⟩, U, A, O, sumS gs, ((i + 1 : Nat) : Int)), ?_, by dsimp only; omega, i + 1, gs, rfl, by omega, by omega, hG, rfl, hwt, rfl, hS⟩
     have ht := zpk (K := K) (gs := gs) (w := ⟨n.Branches, U, A, O, w.time⟩) (ov := []) (cd := zot n.Branches.length row s) (sm := sumS gs) hB hG rfl hwt hS (fun h => absurd h he) hK
     have hz : (zot n.Branches.length row s != 0) = true := by simpa using he
     have hz2 : (zot n.Branches.length row s == 0) = false := by simpa using he
     rw [z0r, hcl, if_pos (lt_d hi)]
     simp only [hr, hs, z0n, hwb, hskip2, tu1a, Bool.false_eq_true, if_false, hst, zj1 r1 r2 hK]
     rw [hwant]
     have h00 : decide (((0 : Nat) : Int) > 0) = false := rfl
     simp only [hz2, Bool.false_eq_true, if_false] at ht
     simp only [bne_self_eq_false, Bool.false_eq_true, if_false, hz, hz2, if_true, List.length_nil, h00, z0n, tu1a, tu3a]
     refine Eq.trans (congrArg (fun z => z70 z _ _) ht) ?_
     rw [zg1, tu7b, k1 (by omega)]
    ·have hGn := hG.snoc (f := f) (row := row) (s := s) (by omega) q1 q2 f2 f1
     have hWn : WS n.Branches.length (RS n.Branches (gs ++ [(f, s)])) w'.used w'.above w'.over := wW.congr fun j _ => by rw [zj4]
     have hSn : (fun i => zc3 (bAt n.Branches i) (f i) s (RS n.Branches gs i)) = RS n.Branches (gs ++ [(f, s)]) := by funext j; rw [zj4]
     rw [hSn] at hst
     have hsum : w'.time = sumS (gs ++ [(f, s)]) := by rw [wt, zg8, hwt]
     refine ⟨(ts ++ [s], gd ++ [row], w', w'.used, w'.above, w'.over, sumS (gs ++ [(f, s)]), ((i + 1 : Nat) : Int)), ?_, by dsimp only; omega, i + 1, gs ++ [(f, s)], rfl, by omega, by simp; omega, hGn, wb, hsum, rfl, hWn⟩
     have ht := zpk (K := K) (gs := gs ++ [(f, s)]) (w := w') (ov := nmS n.Branches (RS n.Branches (gs ++ [(f, s)])) n.Branches.length) (cd := 0) (sm := sumS (gs ++ [(f, s)])) hB hGn wb hsum hWn (fun _ => rfl) hK
     have hksum : z03 .i64 (sumS gs + s) = sumS (gs ++ [(f, s)]) := by rw [zg8]; exact kadd (by omega) (by omega)
     have g3 := hG.2.2.1
     have g2 : ts.length = gs.length := by rw [hG.2.1]; simp
     rw [z0r, hcl, if_pos (lt_d hi)]
     simp only [hr, hs, z0n, hwb, hskip2, tu1a, Bool.false_eq_true, if_false, hst, zj1 r1 r2 hK]
     rw [hwant, he]
     simp only [bne_self_eq_false, Bool.false_eq_true, if_false, beq_self_eq_true, if_true, z0n, tu1a]
     rw [if_pos (by simp; omega), if_pos (by simp; omega), hksum]
     simp only [z0n, tu3a]
     refine Eq.trans (congrArg (fun z => z70 z _ _) ht) ?_
     rw [zg1, tu7b, k1 (by omega)]
  ·left
   have : i = c := by omega
   subst this
   exact ⟨_, by rw [z0r, hcl, if_neg (by simp)], _, rfl⟩
 obtain ⟨o, o1, r, rfl⟩ := key
 exact ⟨r, o1⟩
theorem ze8 {n : Network} {p1 : List (List zAd)} {p2 : List Int} (F : Fits 2000000001 n) (h1 : p1.length <= 1048576) (h2 : p2.length <= 1048576) (hp1 : ∀ row ∈ p1, row.length <= 1048576 /\ ∀ x ∈ row, x.size <= 1048576) (hp2 : ∀ s ∈ p2, -9223372036854775808 <= s /\ s <= 9223372036854775807) : z4d 2000000001 n p1 p2 = some true := by
 have hK : 2000000000 < 2000000001 := by omega
 unfold z4d
 rw [zek, z0n, if_neg (by simp), zs5 F]
 by_cases h0 : netS n = 0
 ·have G := zv2 h0
  have hB : GB n.Branches := ⟨G.brs, G.br⟩
  have hbl := G.brs
  obtain ⟨c, c1, c2⟩ := zsz (K := 2000000001) G
  obtain ⟨w0, hw0⟩ : ∃ w0 : Rating_Watch, w0 = ⟨n.Branches, List.replicate n.Branches.length 0, List.replicate n.Branches.length false, List.replicate n.Branches.length false, 0⟩ := ⟨_, rfl⟩
  have hN : z5g 2000000001 n = some (some w0, 0) := by
   unfold z5g
   rw [zim F, h0, z0n, if_neg (by simp), c1, z0n, if_pos (by omega), if_pos (by omega), if_pos (by omega), c2, Int.toNat_natCast, hw0]
  obtain ⟨q, hq⟩ : ∃ q : Nat, q = min (min p1.length p2.length) 6 := ⟨_, rfl⟩
  have hm : imin (imin (p1.length : Int) (p2.length : Int)) 6 = (q : Int) := by unfold imin; split <;> split <;> omega
  have hls : lsl p1 0 (q : Int) = some (p1.take q) := by
   rw [lslI (by omega) (by omega) (by omega)]; simp
  obtain ⟨r, hr⟩ := zr0 (K := 2000000001) (n := n) (p1 := p1) (p2 := p2) (c := q) (w0 := w0) hB (by omega) (by omega) (by omega) hp1 hp2 (by rw [hw0]) (by rw [hw0]) (by rw [hw0]; exact ⟨za6, za6, za6⟩) hK
  rw [hN, h0]
  simp only [z0n, optE, hm, hls, bne_self_eq_false, Bool.false_eq_true, if_false, tu1a, hr, zg1, tu4]
 ·have hN : z5g 2000000001 n = some (none, netS n) := by
   unfold z5g
   rw [zim F, z0n, if_pos (by simpa using h0)]
  have hz : (netS n != 0) = true := by simpa using h0
  rw [hN]
  simp only [z0n, optE, hz, if_true, beq_self_eq_true, tu1a]
end Go.Am.Tryz
/- Plain law: RatingSteps answers true for arguments of an argument's size. -/
namespace Go.Am.Tryz
open Go Go.Am Go.Proofs
def zmv (B : Nat) (x : Switch) : Prop := x.Name.size <= B /\ x.A.size <= B /\ x.B.size <= B /\ True /\ True
def zmw (B : Nat) (x : Branch) : Prop := x.Name.size <= B /\ x.From.size <= B /\ x.To.size <= B /\ z56 .i64 x.X = true /\ z56 .i64 x.Tap = true /\ z56 .i64 x.Shift = true /\ z56 .i64 x.Limit = true /\ z56 .i64 x.Short = true /\ z56 .i64 x.Hold = true
def zun (B : Nat) (x : Gen) : Prop := x.Name.size <= B /\ x.Node.size <= B /\ z56 .i64 x.Least = true /\ z56 .i64 x.Most = true /\ z56 .i64 x.Ramp = true
def zpl (B : Nat) (x : Load_) : Prop := x.Name.size <= B /\ x.Node.size <= B /\ z56 .i64 x.Demand = true
def zpm (B : Nat) (x : Store) : Prop := x.Name.size <= B /\ x.Node.size <= B /\ z56 .i64 x.Charge = true /\ z56 .i64 x.Discharge = true /\ z56 .i64 x.Capacity = true
def zj5 (B : Nat) (x : Network) : Prop := (x.Nodes.length <= B /\ ∀ y ∈ x.Nodes, y.size <= B) /\ (x.Switches.length <= B /\ ∀ y ∈ x.Switches, zmv B y) /\ (x.Branches.length <= B /\ ∀ y ∈ x.Branches, zmw B y) /\ (x.Gens.length <= B /\ ∀ y ∈ x.Gens, zun B y) /\ (x.Loads.length <= B /\ ∀ y ∈ x.Loads, zpl B y) /\ (x.Stores.length <= B /\ ∀ y ∈ x.Stores, zpm B y)
theorem zea {n : Network} {p1 : List (List zAd)} {p2 : List Int} (h : zj5 1048576 n) (h1 : p1.length <= 1048576 /\ ∀ row ∈ p1, row.length <= 1048576 /\ ∀ x ∈ row, x.size <= 1048576) (h2 : p2.length <= 1048576 /\ ∀ y ∈ p2, z56 .i64 y = true) : ∃ K, z4d K n p1 p2 = some true := by
 obtain ⟨q1, q2, q3, q4, q5, q6⟩ := h
 have sh : ∀ s : zAd, s.size <= 1048576 -> Sh 2000000001 s := fun s h => ⟨by omega, h⟩
 have F : Fits 2000000001 n := ⟨by omega, fun s q => sh s (q1.2 s q), fun x q => sh _ (q2.2 x q).1, fun x q => sh _ (q3.2 x q).1, fun x q => sh _ (q4.2 x q).1, fun x q => sh _ (q5.2 x q).1, fun x q => sh _ (q6.2 x q).1⟩
 exact ⟨2000000001, ze8 F h1.1 h2.1 h1.2 fun s hs => by simpa [z56] using h2.2 s hs⟩
end Go.Am.Tryz
/- From a statement's arguments, read as data, to typed data. -/
namespace Go.Am
open Go Go.Proofs.YtihbgkfkfjblbaaGreat
section
variable {H : Type} {P : Program} {G : GM} {n B : Nat} {t e : TypeId} {α β S : Type} {r : RT α} {s : RT β} {I : α -> Prop} {J : β -> Prop}
theorem zr1 {H : Type} (d : DataW H) : 1 <= Rows.uptoBulk d := by
 cases d with
 | lit l => cases l <;> simp [Rows.uptoBulk]
 | _ => simp [Rows.uptoBulk]
theorem zmx {H : Type} : ∀ (ds : List (DataW H)), ds.length <= Rows.uptoBulkAll ds
 | [] => Nat.zero_le _
 | d :: r => by
  have := zmx r
  have := zr1 d
  simp only [Rows.uptoBulkAll, List.length_cons]; omega
def Arg (H : Type) (P : Program) (G : GM) (n : Nat) (t : TypeId) (r : RT α) (B : Nat) (I : α -> Prop) : Prop := ∀ (cs : List Value) (d : DataW H), AData P G n t cs d -> Rows.uptoBulk d <= B -> ∃ x, r.rep G cs x /\ I x
def ArgS (H : Type) (P : Program) (G : GM) (n : Nat) (ts : List TypeId) (r : RT α) (B : Nat) (I : α -> Prop) : Prop :=
 ∀ (css : List (List Value)) (ds : List (DataW H)), AllD (AData P G n) P.cellsOf ts css ds -> Rows.uptoBulkAll ds <= B -> ∃ x, r.rep G css.flatten x /\ I x
theorem zr2 {k : IntKind} {x : Int} (h : (Lit.int k x).wf = true) : z56 k x = true := by
 cases k <;> simp [Lit.wf, IntKind.min, IntKind.max, IntKind.signed, IntKind.bits] at h <;> simp [z56] <;> omega
theorem Arg.mono {I J : α -> Prop} (h : Arg H P G n t r B I) (k : ∀ x, I x -> J x) : Arg H P G n t r B J := fun cs d hd hb => by
 obtain ⟨x, h1, h2⟩ := h cs d hd hb
 exact ⟨x, h1, k x h2⟩
theorem Arg.int {k : IntKind} (hu : P.underlying t = some (.int k)) : Arg H P G (n + 1) t (rI k) B (fun x => z56 k x = true) := fun cs d h _ => by
 unfold AData at h
 simp only [hu] at h
 obtain ⟨x, h1, h2, h3⟩ := h
 exact ⟨x, h1, zr2 h3⟩
theorem Arg.bool (hu : P.underlying t = some .bool) : Arg H P G (n + 1) t rB B (fun _ => True) := fun cs d h _ => by
 unfold AData at h
 simp only [hu] at h
 obtain ⟨x, h1, _⟩ := h
 exact ⟨x, h1, trivial⟩
theorem Arg.str (hu : P.underlying t = some .string) : Arg H P G (n + 1) t rS B (fun x => x.size <= B) := fun cs d h hb => by
 unfold AData at h
 simp only [hu] at h
 obtain ⟨x, h1, h2, _⟩ := h
 refine ⟨x, h1, ?_⟩
 rw [h2] at hb
 simp only [Rows.uptoBulk, Array.length_toList] at hb
 have : x.data.size = x.size := rfl
 omega
theorem zg9 (h : Arg H P G n e r B I) : ∀ (k : Nat) (css : List (List Value)) (ds : List (DataW H)), AllD (AData P G n) P.cellsOf (List.replicate k e) css ds -> Rows.uptoBulkAll ds <= B -> ∃ xs : List α, All2 (r.rep G) css xs /\ (∀ x ∈ xs, I x) /\ xs.length = k
 | 0, [], [], _, _ => ⟨[], .nil, by simp, rfl⟩
 | 0, _ :: _, _, h, _ => by simp [List.replicate, AllD] at h
 | 0, [], _ :: _, h, _ => by simp [List.replicate, AllD] at h
 | k + 1, [], _, h, _ => by simp [List.replicate, AllD] at h
 | k + 1, _ :: _, [], h, _ => by simp [List.replicate, AllD] at h
 | k + 1, c :: css, d :: ds, hA, hb => by
  simp only [List.replicate, AllD] at hA
  simp only [Rows.uptoBulkAll] at hb
  obtain ⟨x, h1, h2⟩ := h _ _ hA.1.1 (by omega)
  obtain ⟨xs, h3, h4, h5⟩ := zg9 h k css ds hA.2 (by omega)
  refine ⟨x :: xs, .cons h1 h3, fun y hy => ?_, by simp [h5]⟩
  rcases List.mem_cons.1 hy with rfl | hy
  ·exact h2
  ·exact h4 y hy
theorem zj6 {R : TypeId -> List Value -> DataW H -> Prop} {sz : TypeId -> Nat} : ∀ (k : Nat) {ts : List TypeId} {cs : List (List Value)} {ds : List (DataW H)}, AllD R sz ts cs ds -> AllD R sz (ts.take k) (cs.take k) (ds.take k)
 | 0, _, _, _, _ => by simp [AllD]
 | k + 1, [], [], [], _ => by simp [AllD]
 | k + 1, _ :: _, _ :: _, _ :: _, h => by simp only [List.take_succ_cons]; exact ⟨h.1, zj6 k h.2⟩
theorem zmy {R : TypeId -> List Value -> DataW H -> Prop} {sz : TypeId -> Nat} {e : TypeId} : ∀ (k : Nat) (css : List (List Value)) (ds : List (DataW H)), AllD R sz (List.replicate k e) css ds -> ∀ c ∈ css, c.length = sz e
 | 0, [], [], _, c, hc => by simp at hc
 | 0, _ :: _, _, h, _, _ => by simp [List.replicate, AllD] at h
 | 0, [], _ :: _, h, _, _ => by simp [List.replicate, AllD] at h
 | k + 1, [], _, h, _, _ => by simp [List.replicate, AllD] at h
 | k + 1, _ :: _, [], h, _, _ => by simp [List.replicate, AllD] at h
 | k + 1, c :: css, d :: ds, hA, u, hu => by
  simp only [List.replicate, AllD] at hA
  rcases List.mem_cons.1 hu with rfl | hu
  ·exact hA.1.2
  ·exact zmy k css ds hA.2 u hu
theorem Arg.sl (hu : P.underlying t = some (.slice e)) (h : Arg H P G n e r B I) : Arg H P G (n + 1) t (rSl r) B (fun xs => xs.length <= B /\ ∀ x ∈ xs, I x) := fun cs d hA hb => by
 unfold AData at hA
 simp only [hu] at hA
 rcases hA with ⟨h1, h2⟩ | ⟨b, len, cap, elems, spare, css, h1, h2, h3, h4, _, h6, h7⟩
 ·subst h1
  exact ⟨[], znl, Nat.zero_le _, by simp⟩
 ·subst h2
  simp only [Rows.uptoBulk] at hb
  have hlen := zmx elems
  have h8 := zj6 len h7
  rw [List.take_replicate, show min len cap = len by omega, <- h3, List.take_left] at h8
  obtain ⟨xs, k1, k2, k3⟩ := zg9 h elems.length (css.take elems.length) elems h8 (by omega)
  refine ⟨xs, ?_, by omega, k2⟩
  have hcl := zmy _ _ _ h7
  have hel := k1.length
  by_cases hz : elems.length = 0
  ·have hx : xs = [] := List.length_eq_zero_iff.1 (by omega)
   subst hx
   refine ⟨_, [], h1, ⟨by simp, .inr (.inr ⟨b, 0, some 0, cap, by rw [<- h3, hz], rfl, .inr rfl⟩)⟩, .nil⟩
  ·rcases h6 with h6 | ⟨x, g1, _, g3⟩
   ·omega
   ·refine ⟨_, css.take elems.length, h1, ⟨k1.each, .inr (.inl ⟨b, 0, some 0, cap, x, by rw [hel, k3, <- h3], g1, ?_, ?_, by rw [hel, k3]; omega, .inr rfl⟩)⟩, k1⟩
    ·rw [g3]
     have h9 : css.flatten = (css.take elems.length).flatten ++ (css.drop elems.length).flatten := by rw [<- List.flatten_append, List.take_append_drop]
     rw [h9, List.length_append, k1.flatLen, hel]; omega
    ·rw [g3, List.drop_zero]
     have h9 : css.flatten = (css.take elems.length).flatten ++ (css.drop elems.length).flatten := by rw [<- List.flatten_append, List.take_append_drop]
     have h10 : (css.take elems.length).length * r.sz = (css.take elems.length).flatten.length := by rw [k1.flatLen, hel]
     rw [h9, h10, List.take_left]
theorem Arg.arr {k : Nat} (hu : P.underlying t = some (.array k e)) (h : Arg H P G n e r B I) : Arg H P G (n + 1) t (rArr k r) B (fun xs => xs.length = k /\ ∀ x ∈ xs, I x) := fun cs d hA hb => by
 unfold AData at hA
 simp only [hu] at hA
 obtain ⟨css, parts, h1, h2, h3⟩ := hA
 subst h2
 simp only [Rows.uptoBulk] at hb
 obtain ⟨xs, k1, k2, k3⟩ := zg9 h k css parts h3 (by omega)
 exact ⟨xs, ⟨k3, css, h1, k1⟩, k3, k2⟩
theorem ArgS.one (h : Arg H P G n t r B I) : ArgS H P G n [t] r B I := fun css ds hA hb => by
 match css, ds, hA with
 | [c], [d], hA =>
  simp only [Rows.uptoBulkAll] at hb
  obtain ⟨x, h1, h2⟩ := h c d hA.1.1 (by omega)
  exact ⟨x, by simpa using h1, h2⟩
 | [], _, hA => simp [AllD] at hA
 | _ :: _ :: _, [], hA => simp [AllD] at hA
 | _ :: _ :: _, [_], hA => simp [AllD] at hA
 | _ :: _ :: _, _ :: _ :: _, hA => simp [AllD] at hA
 | [_], [], hA => simp [AllD] at hA
 | [_], _ :: _ :: _, hA => simp [AllD] at hA
theorem ArgS.cons {ts : List TypeId} (h : Arg H P G n t r B I) (k : ArgS H P G n ts s B J) : ArgS H P G n (t :: ts) (rP r s) B (fun x => I x.1 /\ J x.2) := fun css ds hA hb => by
 match css, ds, hA with
 | c :: css, d :: ds, hA =>
  simp only [Rows.uptoBulkAll] at hb
  obtain ⟨x, h1, h2⟩ := h c d hA.1.1 (by omega)
  obtain ⟨y, h3, h4⟩ := k css ds hA.2 (by omega)
  exact ⟨(x, y), ⟨c, css.flatten, by simp, h1, h3⟩, h2, h4⟩
 | [], _, hA => simp [AllD] at hA
 | _ :: _, [], hA => simp [AllD] at hA
theorem Arg.struct {fs : Array Field} {ts : List TypeId} (hu : P.underlying t = some (.struct fs)) (hts : fs.toList.map (·.type) = ts) (h : ArgS H P G n ts r B I) (f : S -> α) (g : α -> S) (hg : ∀ p, f (g p) = p) : Arg H P G (n + 1) t (rIso r f) B (fun x => I (f x)) := fun cs d hA hb => by
 unfold AData at hA
 simp only [hu] at hA
 obtain ⟨css, parts, h1, h2, h3⟩ := hA
 subst h2
 simp only [Rows.uptoBulk] at hb
 rw [hts] at h3
 obtain ⟨p, k1, k2⟩ := h css parts h3 (by omega)
 exact ⟨g p, by rw [h1]; show r.rep G css.flatten (f (g p)); rw [hg]; exact k1, by show I (f (g p)); rw [hg]; exact k2⟩
theorem AArgs.cons_inv {ts : List TypeId} {avs : List Value} {ds : List (DataW H)} (h : AArgs P G n (t :: ts) avs ds) : ∃ v vs d dr, avs = v :: vs /\ ds = d :: dr /\ AVal P G n t v d /\ AArgs P G n ts vs dr := by
 match avs, ds, h with
 | v :: vs, d :: dr, h => exact ⟨v, vs, d, dr, rfl, rfl, h.1, h.2⟩
 | [], _, h => simp [AArgs] at h
 | _ :: _, [], h => simp [AArgs] at h
theorem AArgs.nil_inv {avs : List Value} {ds : List (DataW H)} (h : AArgs P G n [] avs ds) : avs = [] /\ ds = [] := by
 match avs, ds, h with
 | [], [], h => exact ⟨rfl, rfl⟩
 | [], _ :: _, h => simp [AArgs] at h
 | _ :: _, _, h => simp [AArgs] at h
theorem AVal.one {v : Value} {d : DataW H} (hu : z2w P t = some false) (h : AVal P G n t v d) : AData P G n t [v] d := by
 unfold AVal at h
 unfold z2w at hu
 split at h
 ·rename_i q; rw [q] at hu; cases hu
 ·rename_i q; rw [q] at hu; cases hu
 ·exact h
theorem AVal.agg {v : Value} {d : DataW H} (hu : z2w P t = some true) (h : AVal P G n t v d) : ∃ cs, v = .agg (List.toArray cs) /\ AData P G n t cs d := by
 unfold AVal at h
 unfold z2w at hu
 split at h
 ·exact h
 ·exact h
 ·rename_i q1 q2
  split at hu
  ·rename_i q; exact absurd q (q1 _)
  ·rename_i q; exact absurd q (q2 _ _)
  ·cases hu
  ·cases hu
theorem Ow.empty (A : AH) : Ow A.get A [] := ⟨fun _ _ h => h, fun i e h => by simp at h, fun i j e e' _ h => by simp at h, fun i e h => by simp at h⟩
theorem CR.done {f : FuncId} {args : List Value} {A : AH} {b : Value} (h : CR P f args A.get A [] fun v _ _ => v = b) : ∃ A', ACalls P f args A b A' := by
 obtain ⟨v, H', G', h1, _, _, rfl⟩ := h
 exact ⟨H', h1⟩
end
end Go.Am
/- RatingSteps over the statement's reading of its arguments. -/
namespace Go.Am.Tryz
open Go Go.Am Go.Proofs Go.Proofs.YtihbgkfkfjblbaaGreat
theorem zr3 {H : Type} {G : GM} {B n : Nat} : Arg H Tryz.prog G (n + 2) 83 z1d B (zmv B) := by
 have h : ArgS H Tryz.prog G (n + 1) [9, 9, 9, 4, 4] _ B _ := (ArgS.cons (Arg.str (t := 9) (by kernel_rfl)) (ArgS.cons (Arg.str (t := 9) (by kernel_rfl)) (ArgS.cons (Arg.str (t := 9) (by kernel_rfl)) (ArgS.cons (Arg.bool (t := 4) (by kernel_rfl)) (ArgS.one (Arg.bool (t := 4) (by kernel_rfl)))))))
 exact Arg.mono (Arg.struct (fs := #[{ name := "Name", type := 9, offset := 0, embedded := false, tag := "", pkgPath := "", byteOffset := 0 }, { name := "A", type := 9, offset := 1, embedded := false, tag := "", pkgPath := "", byteOffset := 16 }, { name := "B", type := 9, offset := 2, embedded := false, tag := "", pkgPath := "", byteOffset := 32 }, { name := "Breaker", type := 4, offset := 3, embedded := false, tag := "", pkgPath := "", byteOffset := 48 }, { name := "Open", type := 4, offset := 4, embedded := false, tag := "", pkgPath := "", byteOffset := 49 }]) (by kernel_rfl) rfl h _ (fun p : zAd × zAd × zAd × Bool × Bool => Switch.mk p.1 p.2.1 p.2.2.1 p.2.2.2.1 p.2.2.2.2) (fun _ => rfl)) fun _ h => h
theorem zr4 {H : Type} {G : GM} {B n : Nat} : Arg H Tryz.prog G (n + 2) 50 z0d B (zmw B) := by
 have h : ArgS H Tryz.prog G (n + 1) [9, 9, 9, 3, 3, 3, 3, 3, 3] _ B _ := (ArgS.cons (Arg.str (t := 9) (by kernel_rfl)) (ArgS.cons (Arg.str (t := 9) (by kernel_rfl)) (ArgS.cons (Arg.str (t := 9) (by kernel_rfl)) (ArgS.cons (Arg.int (t := 3) (k := .i64) (by kernel_rfl)) (ArgS.cons (Arg.int (t := 3) (k := .i64) (by kernel_rfl)) (ArgS.cons (Arg.int (t := 3) (k := .i64) (by kernel_rfl)) (ArgS.cons (Arg.int (t := 3) (k := .i64) (by kernel_rfl)) (ArgS.cons (Arg.int (t := 3) (k := .i64) (by kernel_rfl)) (ArgS.one (Arg.int (t := 3) (k := .i64) (by kernel_rfl)))))))))))
 exact Arg.mono (Arg.struct (fs := #[{ name := "Name", type := 9, offset := 0, embedded := false, tag := "", pkgPath := "", byteOffset := 0 }, { name := "From", type := 9, offset := 1, embedded := false, tag := "", pkgPath := "", byteOffset := 16 }, { name := "To", type := 9, offset := 2, embedded := false, tag := "", pkgPath := "", byteOffset := 32 }, { name := "X", type := 3, offset := 3, embedded := false, tag := "", pkgPath := "", byteOffset := 48 }, { name := "Tap", type := 3, offset := 4, embedded := false, tag := "", pkgPath := "", byteOffset := 56 }, { name := "Shift", type := 3, offset := 5, embedded := false, tag := "", pkgPath := "", byteOffset := 64 }, { name := "Limit", type := 3, offset := 6, embedded := false, tag := "", pkgPath := "", byteOffset := 72 }, { name := "Short", type := 3, offset := 7, embedded := false, tag := "", pkgPath := "", byteOffset := 80 }, { name := "Hold", type := 3, offset := 8, embedded := false, tag := "", pkgPath := "", byteOffset := 88 }]) (by kernel_rfl) rfl h _ (fun p : zAd × zAd × zAd × Int × Int × Int × Int × Int × Int => Branch.mk p.1 p.2.1 p.2.2.1 p.2.2.2.1 p.2.2.2.2.1 p.2.2.2.2.2.1 p.2.2.2.2.2.2.1 p.2.2.2.2.2.2.2.1 p.2.2.2.2.2.2.2.2) (fun _ => rfl)) fun _ h => h
theorem zv3 {H : Type} {G : GM} {B n : Nat} : Arg H Tryz.prog G (n + 2) 85 z8v B (zun B) := by
 have h : ArgS H Tryz.prog G (n + 1) [9, 9, 3, 3, 3] _ B _ := (ArgS.cons (Arg.str (t := 9) (by kernel_rfl)) (ArgS.cons (Arg.str (t := 9) (by kernel_rfl)) (ArgS.cons (Arg.int (t := 3) (k := .i64) (by kernel_rfl)) (ArgS.cons (Arg.int (t := 3) (k := .i64) (by kernel_rfl)) (ArgS.one (Arg.int (t := 3) (k := .i64) (by kernel_rfl)))))))
 exact Arg.mono (Arg.struct (fs := #[{ name := "Name", type := 9, offset := 0, embedded := false, tag := "", pkgPath := "", byteOffset := 0 }, { name := "Node", type := 9, offset := 1, embedded := false, tag := "", pkgPath := "", byteOffset := 16 }, { name := "Least", type := 3, offset := 2, embedded := false, tag := "", pkgPath := "", byteOffset := 32 }, { name := "Most", type := 3, offset := 3, embedded := false, tag := "", pkgPath := "", byteOffset := 40 }, { name := "Ramp", type := 3, offset := 4, embedded := false, tag := "", pkgPath := "", byteOffset := 48 }]) (by kernel_rfl) rfl h _ (fun p : zAd × zAd × Int × Int × Int => Gen.mk p.1 p.2.1 p.2.2.1 p.2.2.2.1 p.2.2.2.2) (fun _ => rfl)) fun _ h => h
theorem zt6 {H : Type} {G : GM} {B n : Nat} : Arg H Tryz.prog G (n + 2) 87 z2p B (zpl B) := by
 have h : ArgS H Tryz.prog G (n + 1) [9, 9, 3] _ B _ := (ArgS.cons (Arg.str (t := 9) (by kernel_rfl)) (ArgS.cons (Arg.str (t := 9) (by kernel_rfl)) (ArgS.one (Arg.int (t := 3) (k := .i64) (by kernel_rfl)))))
 exact Arg.mono (Arg.struct (fs := #[{ name := "Name", type := 9, offset := 0, embedded := false, tag := "", pkgPath := "", byteOffset := 0 }, { name := "Node", type := 9, offset := 1, embedded := false, tag := "", pkgPath := "", byteOffset := 16 }, { name := "Demand", type := 3, offset := 2, embedded := false, tag := "", pkgPath := "", byteOffset := 32 }]) (by kernel_rfl) rfl h _ (fun p : zAd × zAd × Int => Load_.mk p.1 p.2.1 p.2.2) (fun _ => rfl)) fun _ h => h
theorem zt7 {H : Type} {G : GM} {B n : Nat} : Arg H Tryz.prog G (n + 2) 104 z2d B (zpm B) := by
 have h : ArgS H Tryz.prog G (n + 1) [9, 9, 3, 3, 3] _ B _ := (ArgS.cons (Arg.str (t := 9) (by kernel_rfl)) (ArgS.cons (Arg.str (t := 9) (by kernel_rfl)) (ArgS.cons (Arg.int (t := 3) (k := .i64) (by kernel_rfl)) (ArgS.cons (Arg.int (t := 3) (k := .i64) (by kernel_rfl)) (ArgS.one (Arg.int (t := 3) (k := .i64) (by kernel_rfl)))))))
 exact Arg.mono (Arg.struct (fs := #[{ name := "Name", type := 9, offset := 0, embedded := false, tag := "", pkgPath := "", byteOffset := 0 }, { name := "Node", type := 9, offset := 1, embedded := false, tag := "", pkgPath := "", byteOffset := 16 }, { name := "Charge", type := 3, offset := 2, embedded := false, tag := "", pkgPath := "", byteOffset := 32 }, { name := "Discharge", type := 3, offset := 3, embedded := false, tag := "", pkgPath := "", byteOffset := 40 }, { name := "Capacity", type := 3, offset := 4, embedded := false, tag := "", pkgPath := "", byteOffset := 48 }]) (by kernel_rfl) rfl h _ (fun p : zAd × zAd × Int × Int × Int => Store.mk p.1 p.2.1 p.2.2.1 p.2.2.2.1 p.2.2.2.2) (fun _ => rfl)) fun _ h => h
theorem zou {H : Type} {G : GM} {B n : Nat} : Arg H Tryz.prog G (n + 4) 29 z07 B (zj5 B) := by
 have h : ArgS H Tryz.prog G (n + 3) [22, 23, 24, 25, 26, 27] _ B _ := (ArgS.cons (Arg.sl (t := 22) (e := 9) (by kernel_rfl) (Arg.str (t := 9) (by kernel_rfl))) (ArgS.cons (Arg.sl (t := 23) (e := 83) (by kernel_rfl) zr3) (ArgS.cons (Arg.sl (t := 24) (e := 50) (by kernel_rfl) zr4) (ArgS.cons (Arg.sl (t := 25) (e := 85) (by kernel_rfl) zv3) (ArgS.cons (Arg.sl (t := 26) (e := 87) (by kernel_rfl) zt6) (ArgS.one (Arg.sl (t := 27) (e := 104) (by kernel_rfl) zt7)))))))
 exact Arg.mono (Arg.struct (fs := #[{ name := "Nodes", type := 22, offset := 0, embedded := false, tag := "", pkgPath := "", byteOffset := 0 }, { name := "Switches", type := 23, offset := 1, embedded := false, tag := "", pkgPath := "", byteOffset := 24 }, { name := "Branches", type := 24, offset := 2, embedded := false, tag := "", pkgPath := "", byteOffset := 48 }, { name := "Gens", type := 25, offset := 3, embedded := false, tag := "", pkgPath := "", byteOffset := 72 }, { name := "Loads", type := 26, offset := 4, embedded := false, tag := "", pkgPath := "", byteOffset := 96 }, { name := "Stores", type := 27, offset := 5, embedded := false, tag := "", pkgPath := "", byteOffset := 120 }]) (by kernel_rfl) rfl h _ (fun p : List zAd × List Switch × List Branch × List Gen × List Load_ × List Store => Network.mk p.1 p.2.1 p.2.2.1 p.2.2.2.1 p.2.2.2.2.1 p.2.2.2.2.2) (fun _ => rfl)) fun _ h => h
theorem ratingSteps {H : Type} (A : AH) (avs : List Value) (ds : List (DataW H)) (hb : Rows.uptoBulkAll ds <= 1048576) (ha : AArgs Tryz.prog A.get 4 [29, 30, 31] avs ds) : ∃ A', ACalls Tryz.prog 3 avs A (.bool true) A' := by
 obtain ⟨v0, vs0, d0, ds0, rfl, rfl, a0, ha⟩ := AArgs.cons_inv ha
 obtain ⟨v1, vs1, d1, ds1, rfl, rfl, a1, ha⟩ := AArgs.cons_inv ha
 obtain ⟨v2, vs2, d2, ds2, rfl, rfl, a2, ha⟩ := AArgs.cons_inv ha
 obtain ⟨rfl, rfl⟩ := AArgs.nil_inv ha
 simp only [Rows.uptoBulkAll] at hb
 obtain ⟨c0, e0, b0⟩ := AVal.agg (by kernel_rfl) a0
 obtain ⟨x0, r0, i0⟩ := (zou : Arg H Tryz.prog A.get 4 29 _ 1048576 _) c0 d0 b0 (by omega)
 subst e0
 obtain ⟨x1, r1, i1⟩ := ((Arg.sl (t := 30) (e := 39) (by kernel_rfl) (Arg.sl (t := 39) (e := 57) (by kernel_rfl) (Arg.str (t := 57) (by kernel_rfl)))) : Arg H Tryz.prog A.get 4 30 _ 1048576 _) [v1] d1 (AVal.one (by kernel_rfl) a1) (by omega)
 obtain ⟨x2, r2, i2⟩ := ((Arg.sl (t := 31) (e := 3) (by kernel_rfl) (Arg.int (t := 3) (k := .i64) (by kernel_rfl))) : Arg H Tryz.prog A.get 4 31 _ 1048576 _) [v2] d2 (AVal.one (by kernel_rfl) a2) (by omega)
 obtain ⟨K, hK⟩ := zea i0 i1 i2
 exact CR.done (zap K c0 x0 r0 v1 x1 r1 v2 x2 r2 (Ow.empty A) true hK)
end Go.Am.Tryz
