/- Plain law: Div and Gcd of the program's numbers. -/
import Derived.Test.YtdogeclnbdldaaaGreatDoorG5Z3
import Derived.Test.YtdogeclnbdldaaaGreatDoorG2Z3
import Derived.Test.YtdogeclnbdldaaaGreatDoorG1Z3
import Derived.Test.YtdogeclnbdldaaaGreatDoorRows
set_option maxRecDepth 100000
set_option maxHeartbeats 8000000
set_option linter.unusedVariables false
set_option linter.unusedSimpArgs false
namespace Go.Am.Tryz
open Go Go.Am Go.Proofs
variable {K : Nat}
theorem kf1 {Y p Z V U U2 O q : Int} (h : U + O * V = Z) (h2 : U2 + p * (q * V) = U) : U2 + (O + p * (q - 0)) * V = Z := by grind
theorem zfv {o w v u1 u2 : List Int} {i m : Nat} {g q a1 a2 v1 : Int} {b : Bool} (hn : 2 <= v.length) (hk : i + v.length + 1 <= w.length) (hl : w.length <= 8000000) (ho : i < o.length) (h1 : w.getD (i + v.length) 0 = a1) (h2 : w.getD (i + v.length - 1) 0 = a2) (h3 : v.getD (v.length - 1) 0 = v1)
  (b1 : 0 <= a1 /\ a1 < 1000000000) (b2 : 0 <= a2 /\ a2 < 1000000000) (b3 : 1 <= v1 /\ v1 < 1000000000) (hg : 0 <= g /\ g < 1000000000) (hq : 0 <= q /\ q < 1000000000) (d1 : z23 K v w i K ((a1 * 1000000000 + a2) / v1) ((a1 * 1000000000 + a2) % v1) = some g) (d4 : z3p K w v i g = some (b, u1)) (d5 : b = true -> z47 K u1 v i = some u2 /\ q = g - 1) (d6 : b = false -> u2 = u1 /\ q = g) :
  z1t K v (m + 1) o w i = z1t K v m (o.set i q) u2 ((i : Int) - 1) := by
 have t1 : ((i : Int) + (v.length : Int)).toNat = i + v.length := by omega
 have t2 : ((i : Int) + (v.length : Int) - 1).toNat = i + v.length - 1 := by omega
 have t3 : ((v.length : Int) - 1).toNat = v.length - 1 := by omega
 have hq1 : 0 <= (a1 * 1000000000 + a2) / v1 := Int.ediv_nonneg (by omega) (by omega)
 have hq2 : (a1 * 1000000000 + a2) / v1 <= a1 * 1000000000 + a2 := Int.ediv_le_self _ (by omega)
 rw [z1t]
 cases b with
 | true =>
  obtain ⟨p1, p2⟩ := d5 rfl
  subst p2
  clear d5 d6
  simp (discharger := omega) only [runL, t1, t2, t3, h1, h2, h3, d1, d4, p1]
 | false =>
  obtain ⟨p1, p2⟩ := d6 rfl
  subst p1 p2
  clear d5 d6
  simp (discharger := omega) only [runL, t1, t2, t3, h1, h2, h3, d1, d4, Bool.false_eq_true]
theorem zl0 {u v : List Int} {J : Nat} (hn : 2 <= v.length) (hJ : J + v.length = u.length) (hJ1 : 1 <= J) (hl : u.length <= 8000000) (hK : 2000000000 < K) (du : DigB 1000000000 u) (cv : CanB 1000000000 v) (hu : valB 1000000000 u < 1000000000 ^ J * valB 1000000000 v) :
  ∃ r : List Int × List Int, z1t K v K (List.replicate J 0) u ((J : Int) - 1) = some r /\ r.1.length = J /\ r.2.length = u.length /\ DigB 1000000000 r.1 /\ DigB 1000000000 r.2 /\ valB 1000000000 r.2 + valB 1000000000 r.1 * valB 1000000000 v = valB 1000000000 u /\ valB 1000000000 r.2 < valB 1000000000 v := by
 refine z9t (fun m (s : List Int × List Int × Int) => z1t K v m s.1 s.2.1 s.2.2) (fun s => ∃ j : Nat, s.2.2 = (j : Int) - 1 /\ j <= J /\ s.1.length = J /\ s.2.1.length = u.length /\ DigB 1000000000 s.1 /\ DigB 1000000000 s.2.1 /\ (∀ i < j, s.1.getD i 0 = 0) /\ valB 1000000000 s.2.1 + valB 1000000000 s.1 * valB 1000000000 v = valB 1000000000 u /\ valB 1000000000 s.2.1 < 1000000000 ^ j * valB 1000000000 v) (fun s => (s.2.2 + 1).toNat) _ ?_ ((List.replicate J 0, u, (J : Int) - 1) : List Int × List Int × Int) (by dsimp only; omega) ⟨J, rfl, Nat.le_refl _, by simp, rfl, .zeros (by omega) _, du, fun i hi => by simp [zAb, hi], by simp [z9n], hu⟩
 rintro m ⟨o, w, _⟩ ⟨j, rfl, hj, h1, h2, h3, h4, h5, h6, h7⟩
 dsimp only at h1 h2 h3 h4 h5 h6 h7 ⊢
 by_cases h0 : j = 0
 ·subst h0
  left
  rw [Int.pow_zero, Int.one_mul] at h7
  exact ⟨(o, w), by rw [z1t]; simp (discharger := omega) only [runL], h1, h2, h3, h4, h6, h7⟩
 ·right
  obtain ⟨i, rfl⟩ : ∃ i, j = i + 1 := ⟨j - 1, by omega⟩
  have e1 : ((i + 1 : Nat) : Int) - 1 = i := by omega
  rw [e1]
  obtain ⟨g, b, u1, u2, q, d1, d2, d3, d4, d5, d6, d7, d8, d9, d10, d11, d12, d13, d14⟩ := zhv (K := K) (u := w) (v := v) (i := i) hn (by omega) (by omega) hK h4 cv h7
  have hz := h5 i (by omega)
  have hset := z6n 1000000000 o i q (by omega)
  rw [hz] at hset
  have et1 := z1x (by omega) h4 (i + v.length)
  have et2 := z1x (by omega) h4 (i + v.length - 1)
  have hrun := zfv (m := m) (o := o) (a1 := w.getD (i + v.length) 0) (a2 := w.getD (i + v.length - 1) 0) (v1 := v.getD (v.length - 1) 0) hn (show i + v.length + 1 <= w.length by omega) (by omega) (by omega) rfl rfl rfl et1 et2 ⟨d13, d14⟩ ⟨d2, d3⟩ ⟨d7, d8⟩ d1 d4 d5 d6
  refine ⟨(o.set i q, u2, (i : Int) - 1), hrun, by dsimp only; omega, i, rfl, by omega, by simp [h1], by dsimp only; omega, h3.set _ ⟨d7, d8⟩, d10, fun k hk => by dsimp only; rw [z7j (by omega), if_neg (by omega)]; exact h5 k (by omega), ?_, d12⟩
  dsimp only
  rw [hset]
  exact kf1 (Y := 0) h6 d11
theorem z8z {m n : Int} {x y : List Int} (hx : NumN m x) (hy : NumN n y) (h : m <= n) : x.length <= y.length := zdo (B := 1000000000) (by omega) hx.1 hy.1.1 (by rw [hx.2, hy.2]; exact h)
theorem kf2 {a b c : Int} (hc : 0 < c) (hb : 0 < b) : (a * c) / (b * c) = a / b /\ (a * c) % (b * c) = (a % b) * c := by
 refine ⟨Int.mul_ediv_mul_of_pos_left a b hc, ?_⟩
 rw [Int.mul_comm a c, Int.mul_comm b c, Int.mul_emod_mul_of_pos a b hc, Int.mul_comm]
theorem zf8 {x y : List Int} {a b : Int} (hx : x.length <= 3000000) (hy : y.length <= 3000000) (hK : 2000000000 < K) (nx : NumN a x) (ny : NumN b y) (hb : 0 < b) :
  ∃ q r, z4d K x y = some (q, r) /\ NumN (a / b) q /\ NumN (a % b) r /\ q.length <= x.length /\ r.length <= y.length := by
 have a0 := nx.nonneg
 suffices h : ∃ q r, z4d K x y = some (q, r) /\ NumN (a / b) q /\ NumN (a % b) r by
  obtain ⟨q, r, h1, h2, h3⟩ := h
  have e1 := Int.emod_lt_of_pos a hb
  exact ⟨q, r, h1, h2, h3, z8z h2 nx (Int.ediv_le_self _ a0), z8z h3 ny (by omega)⟩
 have hcmp := zf4 (K := K) (by omega) (by omega) hK nx ny
 unfold z4d
 rw [hcmp, z0d]
 by_cases hab : a < b
 ·refine ⟨[], x, ?_, by rw [Int.ediv_eq_zero_of_lt a0 hab]; exact .nil, by rw [Int.emod_eq_of_lt a0 hab]; exact nx⟩
  simp (discharger := omega) only [runL]
 ·have hcond : decide ((if a < b then (-1 : Int) else if a = b then 0 else 1) < 0) = false := by
   rw [if_neg hab]; split <;> rfl
  rw [hcond]
  simp only [Bool.false_eq_true, if_false]
  have hy0 : y.length ≠ 0 := fun e => by have := ny.len0.1 e; omega
  by_cases h1 : y.length = 1
  ·obtain ⟨d, rfl⟩ := List.length_eq_one_iff.1 h1
   have hd := ny.1.1 d (by simp)
   have hbd : b = d := by rw [<- ny.2]; simp [valB]
   subst hbd
   obtain ⟨q, r, s1, s2, s3, s4, s5⟩ := zf5 (K := K) (x := x) (a := a) (d := b) (by omega) hK nx (by omega)
   refine ⟨q, r, ?_, s2, s3⟩
   have e0 : idx [b] 0 = some b := rfl
   rw [if_pos (by simp), e0, z0d, s1, z0d]
  ·rw [if_neg (by simp; omega)]
   obtain ⟨yr, d, hyd⟩ := z9o y (by rintro rfl; exact hy0 rfl)
   have hd := ny.1.1 d (by rw [hyd]; simp)
   have hidx : idx y (z04 .i64 ((y.length : Int) - 1)) = some d := by
    rw [k64 (by omega) (by omega), idxI (by omega) (by omega)]
    congr 1
    subst hyd
    rw [show ((((yr ++ [d]).length : Nat) : Int) - 1).toNat = yr.length by simp, zAb]
    simp
   have hby1 : 1 <= 1000000000 / (d + 1) := by
    rw [Int.le_ediv_iff_mul_le (by omega)]; omega
   have hby2 : 1000000000 / (d + 1) <= 1000000000 := Int.ediv_le_self _ (by omega)
   have hd1 : d ≠ 0 := fun e => ny.1.2 (by rw [hyd, e]; simp)
   have hby3 : 1000000000 / (d + 1) < 1000000000 := Int.ediv_lt_of_lt_mul (by omega) (by omega)
   rw [hidx, z0d, u64w (a := d) (by omega) (by omega), ku64 (a := d + 1) (by omega) (by omega), if_pos (by omega), zn6 (by omega), ku64 (by omega) (by omega), lta]
   rw [u32w (by omega) (by omega)]
   generalize 1000000000 / (d + 1) = c at hby1 hby2 hby3
   have nc : NumN c [c] := .one (by omega) hby3
   obtain ⟨u0, m1, m2, m3⟩ := z9p (K := K) (x := x) (y := [c]) (by simp; omega) hK nx nc
   obtain ⟨v, w1, w2, w3⟩ := z9p (K := K) (x := y) (y := [c]) (by simp; omega) hK ny nc
   simp only [List.length_singleton] at m3 w3
   have ac : a <= a * c := by have := z3j a0 hby1; omega
   have bc : b <= b * c := by have := z3j (show 0 <= b by omega) hby1; omega
   have abc : b * c <= a * c := Int.mul_le_mul_of_nonneg_right (by omega) (by omega)
   have lx := z8z nx m2 ac
   have ly := z8z ny w2 bc
   have hy2 : 2 <= y.length := by omega
   have hv2 : 2 <= v.length := by omega
   have lv := z8z w2 m2 abc
   have hl0 : z3t K x K (u0 ++ [0]) = some (u0 ++ [0]) := by
    obtain ⟨k, rfl⟩ : ∃ k, K = k + 1 := ⟨K - 1, by omega⟩
    rw [z3t]
    have e : decide (((u0 ++ [0]).length : Int) <= (x.length : Int)) = false := decide_eq_false (by simp; omega)
    rw [e]; rfl
   have du : DigB 1000000000 (u0 ++ [0]) := m2.1.1.snoc (by omega)
   have hvu : valB 1000000000 (u0 ++ [0]) = a * c := by rw [z7k, m2.2]; omega
   have hlen : (u0 ++ [(0 : Int)]).length = u0.length + 1 := by simp
   obtain ⟨J, hJ⟩ : ∃ J, J + v.length = u0.length + 1 := ⟨u0.length + 1 - v.length, by omega⟩
   have hbound : a * c < 1000000000 ^ J * (b * c) := by
    have b1 := z4t (B := 1000000000) (by omega) u0 m2.1.1
    have b2 := zhi (B := 1000000000) (by omega) w2.1 (by intro e; rw [e] at hv2; simp at hv2)
    rw [m2.2] at b1
    rw [w2.2] at b2
    have pJ : (0 : Int) < 1000000000 ^ J := Int.pow_pos (by omega)
    have b3 := z3j (Int.le_of_lt pJ) b2
    rw [<- Int.pow_add, show J + (v.length - 1) = u0.length by omega] at b3
    omega
   obtain ⟨⟨o, w⟩, l1, l2, l3, l4, l5, l6, l7⟩ := zl0 (K := K) (u := u0 ++ [0]) (v := v) (J := J) (by omega) (by omega) (by omega) (by omega) hK du w2.1 (by rw [hvu, w2.2]; exact hbound)
   dsimp only at l2 l3 l4 l5 l6 l7
   rw [hvu, w2.2] at l6
   rw [w2.2] at l7
   have o0 := z13 (B := 1000000000) (by omega) o l4
   have w0 := z13 (B := 1000000000) (by omega) w l5
   have hbc0 : 0 < b * c := Int.mul_pos hb (by omega)
   obtain ⟨q1, q2⟩ := zb9 (n := a * c) (d := b * c) (q := valB 1000000000 o) (r := valB 1000000000 w) hbc0 (by rw [Int.mul_comm (b * c)]; omega) w0 l7
   obtain ⟨k1, k2⟩ := kf2 (a := a) (b := b) (c := c) (by omega) hb
   rw [k1] at q1
   rw [k2] at q2
   obtain ⟨t, t1, t2, t3, t4⟩ := zb8 (K := K) (B := 1000000000) (l := w) (by omega) hK l5
   obtain ⟨z, z1, z2, z3, z4⟩ := zb8 (K := K) (B := 1000000000) (l := o) (by omega) hK l4
   obtain ⟨rq, rr, s1, s2, s3, s4, s5⟩ := zf5 (K := K) (x := t) (a := a % b * c) (d := c) (by omega) hK ⟨t2, by rw [t3]; exact q2⟩ (by omega)
   rw [Int.mul_ediv_cancel _ (by omega)] at s2
   refine ⟨z, rq, ?_, ⟨z2, by rw [z3]; exact q1⟩, s2⟩
   rw [m1, z0d, if_pos (by simp; omega), w1, z0d, hl0, z0d, tu1a, lta, hlen]
   have e1 : (((u0.length + 1 : Nat) : Int) - (v.length : Int)) = (J : Int) := by omega
   rw [e1, k64 (by omega) (by omega), if_pos (by omega), lta, k64 (by omega) (by omega), Int.toNat_natCast, l1, z0d, tu2a, t1, z0d, s1, z0d, z1, z0d]
theorem zhw (a b : Nat) (hb : 0 < b) : Nat.gcd b (a % b) = Nat.gcd a b := by
 rw [Nat.gcd_comm a b, Nat.gcd_rec b a, Nat.gcd_comm]
theorem zf9 : ∀ (n k : Nat) {x y : List Int} {a b : Nat}, a * b < 2 ^ n -> b <= a -> n + 2 < k -> x.length <= 3000000 -> y.length <= 3000000 -> 2000000000 < K -> NumN a x -> NumN b y -> ∃ z, z17 K k x y = some z /\ NumN (Nat.gcd a b : Nat) z := by
 intro n
 induction n with
 | zero =>
  intro k x y a b hab hba hk hx hy hK nx ny
  have hb : b = 0 := by
   rcases Nat.eq_zero_or_pos b with h | h
   ·exact h
   ·have := Nat.mul_pos (show 0 < a by omega) h; omega
  subst hb
  obtain ⟨k, rfl⟩ : ∃ m, k = m + 1 := ⟨k - 1, by omega⟩
  have : y = [] := ny.nil_iff.2 rfl
  subst this
  exact ⟨x, by rw [z17]; rfl, by rw [Nat.gcd_zero_right]; exact nx⟩
 | succ n ih =>
  intro k x y a b hab hba hk hx hy hK nx ny
  obtain ⟨k, rfl⟩ : ∃ m, k = m + 1 := ⟨k - 1, by omega⟩
  by_cases hb : b = 0
  ·subst hb
   have : y = [] := ny.nil_iff.2 rfl
   subst this
   exact ⟨x, by rw [z17]; rfl, by rw [Nat.gcd_zero_right]; exact nx⟩
  ·obtain ⟨q, r, d1, d2, d3, d4, d5⟩ := zf8 (K := K) hx hy hK nx ny (by omega)
   have e : ((a : Int) % (b : Int)) = ((a % b : Nat) : Int) := by simp
   rw [e] at d3
   have hr := Nat.mod_lt a (show 0 < b by omega)
   have hprod : b * (a % b) < 2 ^ n := by
    have h1 : b + a % b <= a := by
     have h2 := Nat.div_add_mod a b
     have h3 : 1 <= a / b := (Nat.le_div_iff_mul_le (by omega)).2 (by omega)
     have h4 := Nat.mul_le_mul_left b h3
     omega
    have h5 := Nat.mul_le_mul_left b (show 2 * (a % b) <= a by omega)
    rw [Nat.pow_succ] at hab
    have h6 : b * (2 * (a % b)) = 2 * (b * (a % b)) := by grind
    rw [Nat.mul_comm a b] at hab
    omega
   obtain ⟨z, z1, z2⟩ := ih k hprod (by omega) (by omega) hy (by omega) hK ny d3
   refine ⟨z, ?_, by rw [<- zhw a b (by omega)]; exact z2⟩
   have hy0 : y.length ≠ 0 := fun e => by have := ny.len0.1 e; omega
   rw [z17, if_pos (decide_eq_true (by omega)), d1, z0d, z1]
theorem zdq {n : Nat} {x : List Int} (h : NumN n x) : n < 2 ^ (30 * x.length) := by
 have h1 := z4t (B := 1000000000) (by omega) x h.1.1
 rw [h.2] at h1
 have h2 : ((1000000000 : Nat) : Int) ^ x.length = ((1000000000 ^ x.length : Nat) : Int) := by simp
 have h3 : n < 1000000000 ^ x.length := by
  have h4 : (1000000000 : Int) = ((1000000000 : Nat) : Int) := rfl
  rw [h4, h2] at h1
  omega
 have h5 : (1000000000 : Nat) ^ x.length <= (2 ^ 30) ^ x.length := Nat.pow_le_pow_left (by decide) _
 rw [<- Nat.pow_mul] at h5
 omega
theorem zk7 {x y : List Int} {a b : Nat} (hx : x.length <= 3000000) (hy : y.length <= 3000000) (hK : 2000000000 < K) (nx : NumN a x) (ny : NumN b y) : ∃ z, z5x K x y = some z /\ NumN (Nat.gcd a b : Nat) z := by
 have hp : a * b < 2 ^ (30 * x.length + 30 * y.length) := by
  rw [Nat.pow_add]
  have h1 := zdq nx
  have h2 := zdq ny
  exact Nat.mul_lt_mul_of_lt_of_le h1 (Nat.le_of_lt h2) (Nat.pow_pos (by omega))
 have key : ∃ z, z17 K K x y = some z /\ NumN (Nat.gcd a b : Nat) z := by
  by_cases hba : b <= a
  ·exact zf9 _ K hp hba (by omega) hx hy hK nx ny
  ·obtain ⟨k, hk⟩ : ∃ k, K = k + 1 := ⟨K - 1, by omega⟩
   obtain ⟨q, r, d1, d2, d3, d4, d5⟩ := zf8 (K := K) hx hy hK nx ny (by omega)
   rw [Int.emod_eq_of_lt (by omega) (by omega)] at d3
   have hrx : r = x := d3.inj nx
   subst hrx
   obtain ⟨z, z1, z2⟩ := zf9 (K := K) _ k (by rw [Nat.mul_comm]; exact hp) (by omega) (by omega) hy hx hK ny nx
   refine ⟨z, ?_, by rw [Nat.gcd_comm]; exact z2⟩
   have hy0 : y.length ≠ 0 := fun e => by have := ny.len0.1 e; omega
   have : z17 K K r y = z17 K (k + 1) r y := by rw [<- hk]
   rw [this, z17, if_pos (decide_eq_true (by omega)), d1, z0d, z1]
 obtain ⟨z, z1, z2⟩ := key
 exact ⟨z, by unfold z5x; rw [z1]; rfl, z2⟩
end Go.Am.Tryz
/- Plain law: the reference's quotient and divisor of texts. -/
namespace Go.Am.Tryz
open Go Go.Am Go.Proofs
variable {K : Nat}
theorem zhx {c : Int} (h : 48 <= c /\ c <= 57) : z05 (Utf8.encode c) = [c] /\ (Utf8.encode c).size = 1 := by
 obtain ⟨n, rfl⟩ : ∃ n : Nat, c = n := ⟨c.toNat, by omega⟩
 have hn : n = 48 \/ n = 49 \/ n = 50 \/ n = 51 \/ n = 52 \/ n = 53 \/ n = 54 \/ n = 55 \/ n = 56 \/ n = 57 := by omega
 rcases hn with rfl | rfl | rfl | rfl | rfl | rfl | rfl | rfl | rfl | rfl <;> exact ⟨by decide +kernel, by decide +kernel⟩
theorem ks1 {R b d R0 : Int} (h : R + (d - 48) * b = R0) : R - b + (d + 1 - 48) * b = R0 := by grind
theorem zlz {b : zAd} {r0 : zAd} (hb : b.size <= 500000) (hr : r0.size <= 1000000) (hK : 2000000000 < K) (cb : CanT b) (c0 : CanT r0) (hb0 : 0 < numT b) (hlt : numT r0 < 10 * numT b) :
  ∃ r : zAd × Int, z31 K b K r0 48 = some r /\ CanT r.1 /\ (48 <= r.2 /\ r.2 <= 57) /\ numT r.1 + (r.2 - 48) * numT b = numT r0 /\ numT r.1 < numT b := by
 refine z9t (fun k (s : zAd × Int) => z31 K b k s.1 s.2) (fun s => CanT s.1 /\ s.1.size <= 1000000 /\ (48 <= s.2 /\ s.2 <= 57) /\ numT s.1 + (s.2 - 48) * numT b = numT r0) (fun s => (57 - s.2).toNat) _ ?_ ((r0, 48) : zAd × Int) (by dsimp only; omega) ⟨c0, hr, by dsimp only; omega, by dsimp only; omega⟩
 rintro k ⟨r, d⟩ ⟨h1, h2, h3, h4⟩
 dsimp only at h1 h2 h3 h4 ⊢
 have hcmp := zk5 (K := K) h1 cb
 have r0' := z3h h1.2.1
 by_cases hge : numT b <= numT r
 ·right
  obtain ⟨t, t1, t2, t3⟩ := zhq (K := K) (a := r) (b := b) h2 (z3x h1 cb hge) (by have := h1.1; omega) (by omega) h1.2.1 cb.2.1 hge
  have hd : d <= 56 := by
   refine Int.not_lt.1 fun hlt2 => ?_
   have : d = 57 := by omega
   subst this
   omega
  refine ⟨(t, d + 1), ?_, by dsimp only; omega, t2, ?_, by dsimp only; omega, by dsimp only; rw [t3]; exact ks1 h4⟩
  ·rw [z31, hcmp, z0d]
   rw [if_pos (decide_eq_true (by rw [if_neg (by omega)]; split <;> omega)), t1, z0d, ku8 (by omega) (by omega)]
  ·dsimp only
   have := z3x h1 t2 (by rw [t3]; omega)
   omega
 ·left
  refine ⟨(r, d), ?_, h1, h3, h4, by dsimp only; omega⟩
  rw [z31, hcmp, z0d]
  have e : decide ((if numT r < numT b then (-1 : Int) else if numT r = numT b then 0 else 1) >= 0) = false := by
   rw [if_pos (by omega)]; rfl
  rw [e]; rfl
theorem ks3 {Q b R R2 A c d : Int} (h : Q * b + R = A) (h2 : R2 + d * b = R * 10 + c) : (Q * 10 + d) * b + R2 = A * 10 + c := by grind
theorem zjq {a b r0 : zAd} {f : Nat} (ha : a.size <= 500000) (hb : b.size <= 500000) (hK : 2000000000 < K) (da : (z05 a).all digT = true) (cb : CanT b) (hb0 : 0 < numT b) (hf : f <= a.size) (c0 : CanT r0) (hs0 : r0.size <= 500000) (h0 : numT r0 = numB ((z05 a).take f)) (hlt : numT r0 < numT b) :
  ∃ r : zAd × zAd, z32 K a b K ⟨#[48]⟩ r0 f = some r /\ r.1.size <= a.size + 1 /\ 0 < r.1.size /\ (z05 r.1).all digT = true /\ CanT r.2 /\ numT r.1 * numT b + numT r.2 = numT a /\ numT r.2 < numT b := by
 have hn := z01 a
 refine z9t (fun k (s : zAd × zAd × Int) => z32 K a b k s.1 s.2.1 s.2.2) (fun s => ∃ i : Nat, s.2.2 = i /\ i <= a.size /\ 0 < s.1.size /\ s.1.size <= i + 1 /\ (z05 s.1).all digT = true /\ CanT s.2.1 /\ numT s.1 * numT b + numT s.2.1 = numB ((z05 a).take i) /\ numT s.2.1 < numT b /\ s.2.1.size <= 500000) (fun s => (a.size - s.2.2 : Int).toNat) _ ?_ ((⟨#[48]⟩, r0, (f : Int)) : zAd × zAd × Int) (by dsimp only; omega) ⟨f, rfl, hf, by show 0 < 1; omega, by show 1 <= f + 1; omega, rfl, c0, by rw [<- h0]; show numT ⟨#[48]⟩ * numT b + numT r0 = numT r0; rw [z6i]; omega, hlt, hs0⟩
 rintro k ⟨q, r, _⟩ ⟨i, rfl, h1, h2, h3, h4, h5, h6, h7, h8⟩
 dsimp only at h2 h3 h4 h5 h6 h7 h8 ⊢
 by_cases hi : i < a.size
 ·right
  have hc := zf7 da (i := i) (by omega)
  have hsn := zf6 (l := z05 a) (i := i) (by omega)
  generalize hcc : (z05 a).getD i 0 = c at hc hsn
  obtain ⟨e, he1, he2, he3⟩ : ∃ e, ssl a i ((i : Int) + 1) = some e /\ z05 e = [c] /\ e.size = 1 := by
   refine ⟨_, sslI (by omega) (by omega) (by omega), ?_, ?_⟩
   ·rw [z2r, Int.toNat_natCast, show ((i : Int) + 1).toNat - i = 1 by omega, List.drop_eq_getElem_cons (by omega), List.take_succ_cons, List.take_zero]
    rw [zAb, zAh (by omega)] at hcc
    simpa using hcc
   ·rw [<- z01, z2r, List.length_take, List.length_drop]; omega
  have hbr : z05 (r ++ e) = z05 r ++ [c] := by rw [z0u, he2]
  have hdr : (z05 (r ++ e)).all digT = true := by rw [hbr, List.all_append, h5.2.1]; simpa using digT_iff.2 hc
  have hsr : (r ++ e).size = r.size + 1 := by rw [<- z01, hbr, List.length_append, z01]; rfl
  obtain ⟨t, t1, t2, t3⟩ := zam (K := K) (s := r ++ e) (by omega) (by omega) (by omega) hdr
  have hnr : numT (r ++ e) = numT r * 10 + (c - 48) := by rw [zcp, hbr, zak]; rfl
  have htl : numT t < 10 * numT b := by rw [t3, hnr]; omega
  have hts : t.size <= 1000000 := by
   have := z3x (b := t) (a := t) t2 t2 (Int.le_refl _)
   refine Nat.not_lt.1 fun hlt2 => ?_
   have g1 := zc2 t2 (by omega)
   have g2 := zbb hdr
   have g3 : (10 : Int) ^ (r ++ e).size <= 10 ^ (t.size - 1) := z6h (by omega) (by omega)
   omega
  obtain ⟨⟨r2, d⟩, s1, s2, s3, s4, s5⟩ := zlz (K := K) (b := b) (r0 := t) hb hts hK cb t2 hb0 htl
  dsimp only at s2 s3 s4 s5
  obtain ⟨n1, n2⟩ := zhx s3
  have hbq : z05 (q ++ Utf8.encode d) = z05 q ++ [d] := by rw [z0u, n1]
  have hsq : (q ++ Utf8.encode d).size = q.size + 1 := by rw [<- z01, hbq, List.length_append, z01]; rfl
  have hr2s : r2.size <= 500000 := by
   have := z3x cb s2 (by omega)
   omega
  refine ⟨(q ++ Utf8.encode d, r2, (i : Int) + 1), ?_, by dsimp only; omega, i + 1, rfl, by omega, by dsimp only; omega, by dsimp only; omega, ?_, s2, ?_, s5, hr2s⟩
  ·rw [z32, if_pos (decide_eq_true (by omega)), k64 (by omega) (by omega), he1, z0d, if_pos (by omega), t1, z0d, s1, z0d, tu2a, if_pos (by dsimp only; omega)]
  ·dsimp only; rw [hbq, List.all_append, h4]; simpa using digT_iff.2 s3
  ·dsimp only
   rw [hsn, zak, zcp (q ++ Utf8.encode d), hbq, zak]
   refine ks3 h6 ?_
   rw [s4, t3, hnr]
 ·left
  have : i = a.size := by omega
  subst this
  rw [List.take_of_length_le (by omega)] at h6
  exact ⟨(q, r), by rw [z32]; simp (discharger := omega) only [runL], h3, h2, h4, h5, h6, h7⟩
theorem zfa {a b : zAd} (ha : a.size <= 400000) (hb : b.size <= 400000) (hK : 2000000000 < K) (ca : CanT a) (cb : CanT b) (hb0 : 0 < numT b) :
  ∃ q r, z6d K a b = some (q, r) /\ CanT q /\ CanT r /\ numT q = numT a / numT b /\ numT r = numT a % numT b := by
 have hn := z01 a
 have hcb := cb.1
 obtain ⟨f, hf1, hf2, hf3⟩ : ∃ f : Nat, imin (a.size : Int) (z04 .i64 ((b.size : Int) - 1)) = f /\ f <= a.size /\ f <= b.size - 1 := by
  rw [k64 (by omega) (by omega)]
  unfold imin
  by_cases h : (b.size : Int) - 1 < a.size
  ·exact ⟨b.size - 1, by rw [if_pos h]; omega, by omega, by omega⟩
  ·exact ⟨a.size, by rw [if_neg h], by omega, by omega⟩
 have hx : ssl a 0 (f : Int) = some (a.extract 0 f) := by rw [sslI (by omega) (by omega) (by omega)]; rfl
 have hxb : z05 (a.extract 0 f) = (z05 a).take f := by rw [z2r]; simp
 have hxs : (a.extract 0 f).size = f := by rw [<- z01, hxb, List.length_take]; omega
 have hzb : z05 ((⟨#[48]⟩ : zAd) ++ a.extract 0 f) = 48 :: (z05 a).take f := by rw [z0u, hxb]; rfl
 have hzs : ((⟨#[48]⟩ : zAd) ++ a.extract 0 f).size = f + 1 := by rw [<- z01, hzb, List.length_cons, List.length_take]; omega
 have hzd : (z05 ((⟨#[48]⟩ : zAd) ++ a.extract 0 f)).all digT = true := by rw [hzb, List.all_cons, zba ca.2.1]; rfl
 obtain ⟨t, t1, t2, t3⟩ := zam (K := K) (s := (⟨#[48]⟩ : zAd) ++ a.extract 0 f) (by omega) (by omega) (by omega) hzd
 have hv : numT t = numB ((z05 a).take f) := by rw [t3, zcp, hzb, zal]; simp
 have hlt : numT t < numT b := by
  have d1 := zc1 (zba ca.2.1 f)
  rw [List.length_take, Nat.min_eq_left (by omega)] at d1
  rw [hv]
  by_cases h2 : 2 <= b.size
  ·have d2 := zc2 cb h2
   have d3 : (10 : Int) ^ f <= 10 ^ (b.size - 1) := z6h (by omega) hf3
   omega
  ·have : f = 0 := by omega
   subst this
   rw [List.take_zero, z8x]; exact hb0
 have hts : t.size <= 500000 := by
  have := z3x cb t2 (by omega)
  omega
 obtain ⟨⟨q, r⟩, s1, s2, s3, s4, s5, s6, s7⟩ := zjq (K := K) (a := a) (b := b) (r0 := t) (f := f) (by omega) (by omega) hK ca.2.1 cb hb0 hf2 t2 hts hv hlt
 dsimp only at s2 s3 s4 s5 s6 s7
 obtain ⟨u, u1, u2, u3⟩ := zam (K := K) (s := q) (by omega) s3 (by omega) s4
 obtain ⟨e1, e2⟩ := zb9 (n := numT a) (d := numT b) (q := numT q) (r := numT r) hb0 (by rw [Int.mul_comm]; omega) (z3h s5.2.1) s7
 refine ⟨u, r, ?_, u2, s5, by rw [u3, e1], e2⟩
 unfold z6d
 rw [hf1, hx, z0d, if_pos (by rw [hxs]; show 1 + f <= _; omega), t1, z0d, s1, z0d, tu2a, u1, z0d]
theorem zfb : ∀ (n k : Nat) {x y : zAd} {a b : Nat}, a * b < 2 ^ n -> b <= a -> n + 2 < k -> x.size <= 400000 -> y.size <= 400000 -> 2000000000 < K -> CanT x -> CanT y -> numT x = a -> numT y = b -> ∃ z, z1m K k x y = some z /\ CanT z /\ numT z = (Nat.gcd a b : Nat) := by
 intro n
 have hend : ∀ (k : Nat) {x y : zAd} {a : Nat}, 0 < k -> CanT x -> CanT y -> numT x = a -> numT y = (0 : Nat) -> ∃ z, z1m K k x y = some z /\ CanT z /\ numT z = (Nat.gcd a 0 : Nat) := by
  intro k x y a hk cx cy nx ny
  obtain ⟨k, rfl⟩ : ∃ m, k = m + 1 := ⟨k - 1, by omega⟩
  have : y = ⟨#[48]⟩ := (zbd cy).1 (by simpa using ny)
  subst this
  have e : sEq (⟨#[48]⟩ : zAd) ⟨#[48]⟩ = true := sEq_iff.2 rfl
  exact ⟨x, by rw [z1m, e]; rfl, cx, by rw [Nat.gcd_zero_right]; exact nx⟩
 induction n with
 | zero =>
  intro k x y a b hab hba hk hx hy hK cx cy nx ny
  have hb : b = 0 := by
   rcases Nat.eq_zero_or_pos b with h | h
   ·exact h
   ·have := Nat.mul_pos (show 0 < a by omega) h; omega
  subst hb
  exact hend k (by omega) cx cy nx ny
 | succ n ih =>
  intro k x y a b hab hba hk hx hy hK cx cy nx ny
  by_cases hb : b = 0
  ·subst hb; exact hend k (by omega) cx cy nx ny
  ·obtain ⟨k, rfl⟩ : ∃ m, k = m + 1 := ⟨k - 1, by omega⟩
   obtain ⟨q, r, d1, d2, d3, d4, d5⟩ := zfa (K := K) hx hy hK cx cy (by omega)
   rw [nx, ny] at d5
   have e : ((a : Int) % (b : Int)) = ((a % b : Nat) : Int) := by simp
   rw [e] at d5
   have hr := Nat.mod_lt a (show 0 < b by omega)
   have hprod : b * (a % b) < 2 ^ n := by
    have h1 : b + a % b <= a := by
     have h2 := Nat.div_add_mod a b
     have h3 : 1 <= a / b := (Nat.le_div_iff_mul_le (by omega)).2 (by omega)
     have h4 := Nat.mul_le_mul_left b h3
     omega
    have h5 := Nat.mul_le_mul_left b (show 2 * (a % b) <= a by omega)
    rw [Nat.pow_succ] at hab
    have h6 : b * (2 * (a % b)) = 2 * (b * (a % b)) := by grind
    rw [Nat.mul_comm a b] at hab
    omega
   have hrs := z3x cy d3 (by rw [ny, d5]; omega)
   obtain ⟨z, z1, z2, z3⟩ := ih k hprod (by omega) (by omega) hy (by omega) hK cy d3 ny d5
   refine ⟨z, ?_, z2, by rw [<- zhw a b (by omega)]; exact z3⟩
   have e0 : sEq y ⟨#[48]⟩ = false := by
    cases e : sEq y ⟨#[48]⟩ with
    | false => rfl
    | true => rw [sEq_iff] at e; subst e; rw [z6i] at ny; omega
   rw [z1m, e0]
   simp only [Bool.not_false, if_true]
   rw [d1, z0d, z1]
theorem zc3 {n : Nat} {x : zAd} (h : (z05 x).all digT = true) (hn : numT x = n) : n < 2 ^ (4 * x.size) := by
 have h1 := zbb h
 rw [hn] at h1
 have h2 : ((10 : Nat) : Int) ^ x.size = ((10 ^ x.size : Nat) : Int) := by simp
 have h3 : n < 10 ^ x.size := by
  have h4 : (10 : Int) = ((10 : Nat) : Int) := rfl
  rw [h4, h2] at h1
  omega
 have h5 : (10 : Nat) ^ x.size <= (2 ^ 4) ^ x.size := Nat.pow_le_pow_left (by decide) _
 rw [<- Nat.pow_mul] at h5
 omega
theorem zk8 {x y : zAd} {a b : Nat} (hx : x.size <= 400000) (hy : y.size <= 400000) (hK : 2000000000 < K) (cx : CanT x) (cy : CanT y) (nx : numT x = a) (ny : numT y = b) : ∃ z, z71 K x y = some z /\ CanT z /\ numT z = (Nat.gcd a b : Nat) := by
 have hp : a * b < 2 ^ (4 * x.size + 4 * y.size) := by
  rw [Nat.pow_add]
  exact Nat.mul_lt_mul_of_lt_of_le (zc3 cx.2.1 nx) (Nat.le_of_lt (zc3 cy.2.1 ny)) (Nat.pow_pos (by omega))
 have key : ∃ z, z1m K K x y = some z /\ CanT z /\ numT z = (Nat.gcd a b : Nat) := by
  by_cases hba : b <= a
  ·exact zfb _ K hp hba (by omega) hx hy hK cx cy nx ny
  ·obtain ⟨k, hk⟩ : ∃ k, K = k + 1 := ⟨K - 1, by omega⟩
   obtain ⟨q, r, d1, d2, d3, d4, d5⟩ := zfa (K := K) hx hy hK cx cy (by omega)
   rw [Int.emod_eq_of_lt (z3h cx.2.1) (by omega)] at d5
   have hrx : r = x := z8w d3 cx d5
   subst hrx
   obtain ⟨z, z1, z2, z3⟩ := zfb (K := K) _ k (by rw [Nat.mul_comm]; exact hp) (by omega) (by omega) hy hx hK cy cx ny nx
   refine ⟨z, ?_, z2, by rw [Nat.gcd_comm]; exact z3⟩
   have e0 : sEq y ⟨#[48]⟩ = false := by
    cases e : sEq y ⟨#[48]⟩ with
    | false => rfl
    | true => rw [sEq_iff] at e; subst e; rw [z6i] at ny; omega
   have : z1m K K r y = z1m K (k + 1) r y := by rw [<- hk]
   rw [this, z1m, e0]
   simp only [Bool.not_false, if_true]
   rw [d1, z0d, z1]
 obtain ⟨z, z1, z2⟩ := key
 exact ⟨z, by unfold z71; rw [z1]; rfl, z2⟩
end Go.Am.Tryz
/- Plain law: a number's error. -/
namespace Go.Am.Tryz
open Go Go.Am Go.Proofs
variable {K : Nat} {s : zAd}
def digB (c : Int) : Bool := decide (48 <= c) && decide (c <= 57)
theorem zeg : ∀ (l : List Int), runS (fun c (_ : Unit) => if digB c then .inr () else .inl (5 : Int)) l () = if l.all digB then .inr () else .inl 5
 | [] => rfl
 | x :: l => by
  simp only [runS, List.all_cons]
  by_cases hp : digB x = true
  ·simp only [hp, if_true, Bool.true_and, Sum.elim_inr]; exact zeg l
  ·simp [hp]
theorem zm0 {α : Type} (c : Int) (A B : Option α) : Option.bind (if (decide (c < 48)) = true then some true else some (decide (c > 57))) (tu1 fun x => if x = true then A else B) = if digB c = true then B else A := by
 unfold digB
 by_cases h1 : c < 48 <;> by_cases h2 : c > 57 <;> simp [h1, h2, tu1, show ¬ (48 : Int) <= c ↔ c < 48 by omega] <;> (try split) <;> (try omega) <;> rfl
theorem zfw (hs : s.size <= 1048576) (hK : s.size < K) : z1f K s K 0 = some (if (z05 s).all digB then .inr () else .inl 5) := by
 have hn := z01 s
 have h : z1f K s K 0 = _ := zf1 (z05 s) (fun k (_ : Unit) i => z1f K s k i) (fun c (_ : Unit) => if digB c then .inr () else .inl (5 : Int)) (fun _ _ => True)
  (fun k _ i x hx _ => by
   have hi := (zAi hx).1
   show z1f K s (k + 1) i = _
   rw [z1f, zj9 hi, if_pos rfl, z3y hx]
   simp only [Option.bind_some, zm0, kw1 hi (by omega)]
   cases digB x <;> simp)
  (fun _ _ _ _ _ _ _ => trivial)
  (fun k _ i hi => by
   show z1f K s (k + 1) i = _
   rw [z1f, zf0 hi]; simp) K () (by omega) trivial
 rw [h, zeg]
theorem zhy (hs : s.size <= 1048576) (hK : s.size < K) : z16 K s K 0 = some (if (z05 s).all digB then .inr () else .inl 5) := by
 have hn := z01 s
 have h : z16 K s K 0 = _ := zf1 (z05 s) (fun k (_ : Unit) i => z16 K s k i) (fun c (_ : Unit) => if digB c then .inr () else .inl (5 : Int)) (fun _ _ => True)
  (fun k _ i x hx _ => by
   have hi := (zAi hx).1
   show z16 K s (k + 1) i = _
   rw [z16, <- hn, zj9 hi, if_pos rfl, z9d, z3y hx]
   simp only [Option.bind_some, zm0, kw1 hi (by omega)]
   cases digB x <;> simp)
  (fun _ _ _ _ _ _ _ => trivial)
  (fun k _ i hi => by
   show z16 K s (k + 1) i = _
   rw [z16, <- hn, zf0 hi]; simp) K () (by omega) trivial
 rw [h, zeg]
def natE (s : zAd) : Int := if s.size = 0 then 5 else if (z05 s).head? = some 48 /\ s.size > 1 then 5 else if !(z05 s).all digB then 5 else if s.size > 2000 then 2 else 0
theorem zm1 : sEq s ⟨#[]⟩ = (s.size == 0) := by
 cases hq : sEq s ⟨#[]⟩ with
 | true => rw [sEq_iff] at hq; subst hq; rfl
 | false =>
  have : s.size ≠ 0 := fun h => by
   have : s = ⟨#[]⟩ := by
    cases s with
    | mk d => congr 1; exact Array.eq_empty_of_size_eq_zero h
   rw [sEq_iff.2 this] at hq; cases hq
  simp [this]
theorem zhz (h : s.size ≠ 0) : ∃ c, bidx s 0 = some c /\ (z05 s).head? = some c := by
 have hn := z01 s
 cases hb : z05 s with
 | nil => rw [hb] at hn; simp at hn; omega
 | cons c l => exact ⟨c, by rw [z9d, hb]; rfl, rfl⟩
theorem zdr (hs : s.size <= 1048576) (hK : s.size < K) : z5w K s = some (natE s) := by
 unfold z5w natE
 rw [zfw hs hK, zm1]
 by_cases h0 : s.size = 0
 ·simp [h0, tu1]
 ·obtain ⟨c, h1, h2⟩ := zhz h0
  rw [h1, h2]
  have h0' : (s.size == 0) = false := by simpa using h0
  by_cases hc : c = 48 <;> by_cases h3 : s.size > 1 <;> by_cases h4 : s.size > 2000 <;> cases h5 : (z05 s).all digB <;>
   simp [h0, h0', hc, h3, h4, h5, tu1, tu0, zbk, show ((s.size : Int) > 1) ↔ s.size > 1 by omega, show ((s.size : Int) > 2000) ↔ s.size > 2000 by omega] <;> omega
theorem zao (hs : s.size <= 1048576) (hK : s.size < K) : z51 K s = some (natE s) := by
 unfold z51 natE
 rw [zhy hs hK]
 by_cases h0 : s.size = 0
 ·simp [h0, tu1]
 ·obtain ⟨c, h1, h2⟩ := zhz h0
  rw [h1, h2]
  have h0' : ((s.size : Int) == 0) = false := by rw [beq_eq_false_iff_ne]; omega
  by_cases hc : c = 48 <;> by_cases h3 : s.size > 1 <;> by_cases h4 : s.size > 2000 <;> cases h5 : (z05 s).all digB <;>
   simp [h0, h0', hc, h3, h4, h5, tu1, tu0, zbk, show ((s.size : Int) > 1) ↔ s.size > 1 by omega, show ((s.size : Int) > 2000) ↔ s.size > 2000 by omega] <;> omega
theorem zm2 : digB = digT := rfl
theorem zab (s : zAd) : natE s = 0 ↔ CanT s /\ s.size <= 2000 := by
 unfold natE CanT
 rw [zm2]
 by_cases h0 : s.size = 0
 ·simp [h0]
 ·by_cases h1 : (z05 s).head? = some 48 /\ s.size > 1
  ·rw [if_neg h0, if_pos h1]
   constructor
   ·intro h; cases h
   ·rintro ⟨⟨_, _, h⟩, _⟩; have := h h1.1; omega
  ·rw [if_neg h0, if_neg h1]
   cases h2 : (z05 s).all digT with
   | false => simp
   | true =>
    simp only [Bool.not_true, Bool.false_eq_true, if_false]
    by_cases h3 : s.size > 2000
    ·rw [if_pos h3]; constructor
     ·intro h; cases h
     ·rintro ⟨_, h⟩; omega
    ·rw [if_neg h3]
     exact ⟨fun _ => ⟨⟨h0, trivial, fun e => by
      refine Nat.le_antisymm (Nat.not_lt.1 fun h => h1 ⟨e, h⟩) (by omega)⟩, by omega⟩, fun _ => rfl⟩
theorem zl1 (s : zAd) : sEq s s = true := sEq_iff.2 rfl
end Go.Am.Tryz
/- Plain law: lists of texts; one. -/
namespace Go.Am.Tryz
open Go Go.Am Go.Proofs
variable {K : Nat}
theorem zmx {s t : zAd} (h : s ≠ t) : sEq s t = false := by
 cases e : sEq s t with
 | false => rfl
 | true => exact absurd (sEq_iff.1 e) h
theorem zfc (hK : 2000000000 < K) : z4q K 1 = some [1] := by
 obtain ⟨k, rfl⟩ : ∃ k, K = k + 2 := ⟨K - 2, by omega⟩
 unfold z4q
 have e1 : decide ((1 : Int) > 0) = true := rfl
 have e2 : IntKind.wrap .u32 (Int.tmod 1 1000000000) = 1 := rfl
 have e3 : z04 .i64 (Int.tdiv 1 1000000000) = 0 := rfl
 have e4 : decide ((0 : Int) > 0) = false := rfl
 rw [z3f, e1, if_pos rfl, e2, e3, if_pos (by decide), z3f, e4]
 rfl
end Go.Am.Tryz
/- Plain lemmas: rational numbers, their signs, parts and sizes. -/
namespace Go.Am
def sgn (neg : Bool) (n : Nat) : Int := if neg then -(n : Int) else n
theorem zi0 (neg : Bool) (n : Nat) : (sgn neg n).natAbs = n := by unfold sgn; split <;> omega
theorem zbe (x : Rat) : sgn (decide (x.num < 0)) x.num.natAbs = x.num := by unfold sgn; by_cases h : x.num < 0 <;> simp [h] <;> omega
theorem zjr (neg : Bool) (n d : Nat) (hd : d ≠ 0) : (mkRat (sgn neg n) d).num.natAbs = n / Nat.gcd n d := by
 rw [Rat.num_mkRat, if_neg hd, zi0, Nat.gcd_comm]
 unfold sgn
 cases neg with
 | false => simp; rfl
 | true =>
  simp only [if_true]
  have h : (Nat.gcd n d : Int) ∣ (n : Int) := Int.natCast_dvd_natCast.2 (Nat.gcd_dvd_left n d)
  rw [Int.neg_ediv_of_dvd h, Int.natAbs_neg]
  rfl
theorem zjs (neg : Bool) (n d : Nat) (hd : d ≠ 0) : (mkRat (sgn neg n) d).den = d / Nat.gcd n d := by
 rw [Rat.den_mkRat, if_neg hd, zi0, Nat.gcd_comm]
theorem zl2 (neg : Bool) (n d : Nat) (hd : d ≠ 0) (hn : n ≠ 0) : decide ((mkRat (sgn neg n) d).num < 0) = neg := by
 have h0 : n / Nat.gcd n d ≠ 0 := by
  have := Nat.gcd_pos_of_pos_left d (show 0 < n by omega)
  have h2 := Nat.le_of_dvd (by omega) (Nat.gcd_dvd_left n d)
  have := Nat.div_pos h2 this
  omega
 rw [Rat.num_mkRat, if_neg hd, zi0, Nat.gcd_comm]
 have h : (Nat.gcd n d : Int) ∣ (n : Int) := Int.natCast_dvd_natCast.2 (Nat.gcd_dvd_left n d)
 obtain ⟨q, hq, hq0⟩ : ∃ q : Nat, (n : Int) / (Nat.gcd n d : Int) = (q : Int) /\ q ≠ 0 := ⟨n / Nat.gcd n d, by simp, h0⟩
 unfold sgn
 cases neg with
 | false => simp only [Bool.false_eq_true, if_false, hq]; exact decide_eq_false (by omega)
 | true => simp only [if_true]; rw [Int.neg_ediv_of_dvd h, hq]; exact decide_eq_true (by omega)
theorem zk9 (x y : Rat) : x * y = mkRat (sgn (decide (x.num < 0) != decide (y.num < 0)) (x.num.natAbs * y.num.natAbs)) (x.den * y.den) := by
 rw [Rat.mul_def']
 congr 1
 conv => lhs; rw [<- zbe x, <- zbe y]
 generalize x.num.natAbs = a
 generalize y.num.natAbs = b
 unfold sgn
 cases decide (x.num < 0) <;> cases decide (y.num < 0) <;> simp [Int.mul_neg, Int.neg_mul]
theorem zeh (neg : Bool) (n : Nat) : ((sgn neg n : Int) : Rat) = if neg then -(n : Rat) else n := by
 unfold sgn
 cases neg with
 | false => rfl
 | true => simp only [if_true]; rw [Rat.intCast_neg]; rfl
theorem zfx (a b : Bool) (p q r s : Rat) (e1 : q ≠ 0) (e2 : r ≠ 0) (e3 : s ≠ 0) : (if a then -p else p) / q / ((if b then -r else r) / s) = (if a != b then -(p * s) else p * s) / (q * r) := by
 cases a <;> cases b <;> simp <;> grind
theorem zi1 (x : Rat) : x = ((sgn (decide (x.num < 0)) x.num.natAbs : Int) : Rat) / (x.den : Rat) := by
 rw [zbe, <- Rat.mkRat_eq_div, Rat.mkRat_self]
theorem zka (x y : Rat) (hy : y ≠ 0) : x / y = mkRat (sgn (decide (x.num < 0) != decide (y.num < 0)) (x.num.natAbs * y.den)) (x.den * y.num.natAbs) := by
 have hyn : y.num ≠ 0 := fun e => hy (Rat.num_eq_zero.1 e)
 rw [Rat.mkRat_eq_div, zeh]
 conv => lhs; rw [zi1 x, zi1 y, zeh, zeh]
 rw [Rat.natCast_mul, Rat.natCast_mul]
 exact zfx _ _ _ _ _ _ (by simp [x.den_nz]) (by simp; omega) (by simp [y.den_nz])
def Dl (x : Rat) (N : Nat) : Prop := x.num.natAbs < 10 ^ N /\ x.den < 10 ^ N
theorem Dl.mono {x : Rat} {N M : Nat} (h : Dl x N) (hN : N <= M) : Dl x M := ⟨Nat.lt_of_lt_of_le h.1 (Nat.pow_le_pow_right (by omega) hN), Nat.lt_of_lt_of_le h.2 (Nat.pow_le_pow_right (by omega) hN)⟩
theorem Dl.mk (neg : Bool) {n d N : Nat} (hd : d ≠ 0) (hn : n < 10 ^ N) (hd2 : d < 10 ^ N) : Dl (mkRat (sgn neg n) d) N := by
 refine ⟨?_, ?_⟩
 ·rw [zjr neg n d hd]; exact Nat.lt_of_le_of_lt (Nat.div_le_self _ _) hn
 ·rw [zjs neg n d hd]; exact Nat.lt_of_le_of_lt (Nat.div_le_self _ _) hd2
theorem z43 {a b N M : Nat} (h : a < 10 ^ N) (k : b < 10 ^ M) : a * b < 10 ^ (N + M) := by
 rw [Nat.pow_add]
 exact Nat.mul_lt_mul_of_lt_of_le h (Nat.le_of_lt k) (Nat.pow_pos (by omega))
theorem Dl.mul {x y : Rat} {N M : Nat} (h : Dl x N) (k : Dl y M) : Dl (x * y) (N + M) := by
 rw [zk9]
 exact .mk _ (Nat.mul_ne_zero x.den_nz y.den_nz) (z43 h.1 k.1) (z43 h.2 k.2)
theorem Dl.zero : Dl 0 1 := ⟨by decide, by decide⟩
theorem Dl.one : Dl 1 1 := ⟨by decide, by decide⟩
theorem Dl.div {x y : Rat} {N M : Nat} (h : Dl x N) (k : Dl y M) : Dl (x / y) (N + M + 1) := by
 by_cases hy : y = 0
 ·subst hy
  have : x / 0 = 0 := by grind
  rw [this]; exact Dl.zero.mono (by omega)
 ·rw [zka x y hy]
  have hyn : y.num ≠ 0 := fun e => hy (Rat.num_eq_zero.1 e)
  refine (Dl.mk _ (Nat.mul_ne_zero x.den_nz (by omega)) (z43 h.1 k.2) (z43 h.2 k.1)).mono (by omega)
theorem zm3 (a : Int) : a = sgn (decide (a < 0)) a.natAbs := by unfold sgn; by_cases h : a < 0 <;> simp [h] <;> omega
theorem Dl.add {x y : Rat} {N M : Nat} (h : Dl x N) (k : Dl y M) : Dl (x + y) (N + M + 1) := by
 rw [Rat.add_def']
 rw [zm3 (x.num * y.den + y.num * x.den)]
 have h1 := z43 h.1 k.2
 have h2 := z43 k.1 h.2
 have h3 : (x.num * (y.den : Int) + y.num * (x.den : Int)).natAbs <= x.num.natAbs * y.den + y.num.natAbs * x.den := by
  refine Nat.le_trans (Int.natAbs_add_le _ _) ?_
  rw [Int.natAbs_mul, Int.natAbs_mul]; simp
 rw [Nat.add_comm M N] at h2
 refine .mk _ (Nat.mul_ne_zero x.den_nz y.den_nz) ?_ ?_
 ·rw [Nat.pow_succ]; omega
 ·have := z43 h.2 k.2
  rw [Nat.pow_succ]; omega
theorem Dl.neg {x : Rat} {N : Nat} (h : Dl x N) : Dl (-x) N := ⟨by rw [Rat.neg_num, Int.natAbs_neg]; exact h.1, by rw [Rat.neg_den]; exact h.2⟩
theorem Dl.sub {x y : Rat} {N M : Nat} (h : Dl x N) (k : Dl y M) : Dl (x - y) (N + M + 1) := by
 rw [Rat.sub_eq_add_neg]; exact h.add k.neg
theorem Dl.pos {x : Rat} {N : Nat} (h : Dl x N) : 1 <= N := by
 refine Nat.not_lt.1 fun hlt => ?_
 have : N = 0 := by omega
 subst this
 have := h.2
 have := x.den_pos
 simp at *; omega
end Go.Am
/- Plain law: the parts of a rational number's text; its error. -/
namespace Go.Am.Tryz
open Go Go.Am Go.Proofs
variable {K : Nat}
structure Sp (s : zAd) (neg : Bool) (n : zAd) (many : Bool) (d : zAd) : Prop where
 eq : z05 s = (if neg then [45] else []) ++ (z05 n ++ (if many then 47 :: z05 d else []))
 no : 47 ∉ z05 n
 hd : neg = false -> (z05 s).head? ≠ some 45
theorem zds {x : Int} : ∀ {l1 l2 r1 r2 : List Int}, l1 ++ r1 = l2 ++ r2 -> x ∉ l1 -> x ∉ l2 -> (r1 = [] \/ r1.head? = some x) -> (r2 = [] \/ r2.head? = some x) -> l1 = l2 /\ r1 = r2
 | [], [], _, _, h, _, _, _, _ => ⟨rfl, by simpa using h⟩
 | [], b :: l2, r1, r2, h, _, h2, h3, _ => by
  simp only [List.nil_append, List.cons_append] at h
  subst h
  simp at h3
  subst h3
  simp at h2
 | a :: l1, [], r1, r2, h, h1, _, _, h4 => by
  simp only [List.nil_append, List.cons_append] at h
  subst h
  simp at h4
  subst h4
  simp at h1
 | a :: l1, b :: l2, r1, r2, h, h1, h2, h3, h4 => by
  simp only [List.cons_append, List.cons.injEq] at h
  obtain ⟨rfl, h⟩ := h
  obtain ⟨e1, e2⟩ := zds h (fun hx => h1 (by simp [hx])) (fun hx => h2 (by simp [hx])) h3 h4
  exact ⟨by rw [e1], e2⟩
theorem Sp.uniq {s n d n' d' : zAd} {neg neg' many many' : Bool} (h : Sp s neg n many d) (k : Sp s neg' n' many' d') : neg = neg' /\ n = n' /\ many = many' /\ (many = true -> d = d') := by
 have e1 : neg = neg' := by
  cases neg <;> cases neg'
  ·rfl
  ·have := h.hd rfl; rw [k.eq] at this; simp at this
  ·have := k.hd rfl; rw [h.eq] at this; simp at this
  ·rfl
 subst e1
 have e2 := List.append_cancel_left (h.eq.symm.trans k.eq)
 obtain ⟨e3, e4⟩ := zds e2 h.no k.no (by cases many <;> simp) (by cases many' <;> simp)
 refine ⟨rfl, z3w e3, ?_⟩
 cases many <;> cases many'
 ·exact ⟨rfl, fun h => by cases h⟩
 ·simp at e4
 ·simp at e4
 ·simp at e4; exact ⟨rfl, fun _ => z3w e4⟩
theorem Sp.size {s n d : zAd} {neg many : Bool} (h : Sp s neg n many d) : n.size <= s.size /\ (many = true -> d.size <= s.size) := by
 have := congrArg List.length h.eq
 simp only [List.length_append, z01] at this
 refine ⟨by omega, fun hm => ?_⟩
 subst hm
 simp only [if_true, List.length_cons, z01] at this
 omega
theorem z5h (s : zAd) {i j : Nat} (h : i <= j) (hj : j <= s.size) : z05 (s.extract i j) = ((z05 s).drop i).take (j - i) /\ (s.extract i j).size = j - i := by
 have h1 := z2r s i j
 refine ⟨h1, ?_⟩
 rw [<- z01, h1, List.length_take, List.length_drop, z01]; omega
theorem zei (K : Nat) (s : zAd) : ∃ s1 neg, z1e K s ⟨#[45]⟩ = some (s1, neg) /\ z05 s = (if neg then [45] else []) ++ z05 s1 /\ (neg = false -> (z05 s).head? ≠ some 45) /\ s1.size <= s.size := by
 unfold z1e z11 z10
 have hn := z01 s
 have e1 : ((⟨#[45]⟩ : zAd).size : Int) = 1 := rfl
 rw [e1]
 by_cases h0 : s.size = 0
 ·have hb : z05 s = [] := List.length_eq_zero_iff.1 (by omega)
  refine ⟨s, false, ?_, by simp, fun _ => by rw [hb]; simp, Nat.le_refl _⟩
  rw [h0]
  rfl
 ·obtain ⟨c, l, hc⟩ : ∃ c l, z05 s = c :: l := by
   cases hb : z05 s with
   | nil => rw [hb] at hn; simp at hn; omega
   | cons c l => exact ⟨c, l, rfl⟩
  have hx : ssl s 0 1 = some (s.extract 0 1) := by rw [sslI (by omega) (by omega) (by omega)]; rfl
  have hxb : z05 (s.extract 0 1) = [c] := by rw [(z5h s (by omega) (by omega)).1, hc]; rfl
  rw [decide_eq_true (by omega), if_pos rfl, hx, z0d, z0d, tu1a, z0d]
  by_cases h45 : c = 45
  ·have he : sEq (s.extract 0 1) ⟨#[45]⟩ = true := sEq_iff.2 (z3w (by rw [hxb, h45]; rfl))
   obtain ⟨t, t1, t2, t3⟩ := zb7 hc
   refine ⟨t, true, ?_, by rw [hc, t2, h45]; rfl, fun h => by (cases h), by rw [hc] at hn; simp at hn; omega⟩
   rw [he]
   simp only [Bool.not_true, Bool.false_eq_true, if_false]
   rw [t1, z0d, z0d]
  ·have he : sEq (s.extract 0 1) ⟨#[45]⟩ = false := zmx (fun e => by
    have := congrArg z05 e
    rw [hxb] at this
    have e2 : z05 (⟨#[45]⟩ : zAd) = [45] := rfl
    rw [e2] at this
    simp at this; exact h45 this)
   refine ⟨s, false, ?_, by simp, fun _ => by rw [hc]; simpa using h45, Nat.le_refl _⟩
   rw [he]
   rfl
theorem z9q (c : UInt8) : ∀ (l : List UInt8), (Lib.indexByte l c = -1 /\ c ∉ l) \/ ∃ i : Nat, Lib.indexByte l c = i /\ i < l.length /\ l[i]? = some c /\ c ∉ l.take i
 | [] => .inl ⟨rfl, by simp⟩
 | b :: l => by
  rw [Lib.indexByte]
  by_cases hb : b = c
  ·subst hb; exact .inr ⟨0, by simp, by simp, by simp, by simp⟩
  ·have hb' : (b == c) = false := by simpa using hb
   rw [hb']
   rcases z9q c l with ⟨h1, h2⟩ | ⟨i, h1, h2, h3, h4⟩
   ·refine .inl ⟨by rw [h1]; rfl, ?_⟩
    simp only [List.mem_cons, not_or]
    exact ⟨fun e => hb e.symm, h2⟩
   ·refine .inr ⟨i + 1, ?_, by simp; omega, by simpa using h3, ?_⟩
    ·rw [h1]
     have : ((i : Int) == -1) = false := by rw [beq_eq_false_iff_ne]; omega
     rw [this]
     simp
    ·rw [List.take_succ_cons]
     simp only [List.mem_cons, not_or]
     exact ⟨fun e => hb e.symm, h4⟩
theorem zfd {c : UInt8} {l : List UInt8} (h : ((c.toNat : Nat) : Int) ∈ l.map (fun b => (b.toNat : Int))) : c ∈ l := by
 rw [List.mem_map] at h
 obtain ⟨b, hb, he⟩ := h
 have : b = c := UInt8.toNat_inj.1 (by omega)
 subst this; exact hb
theorem zmy {s : zAd} (hs : s.size <= 1048576) : ∃ n d many, z3o K s ⟨#[47]⟩ = some (n, d, many) /\ z05 s = z05 n ++ (if many then 47 :: z05 d else []) /\ 47 ∉ z05 n /\ (many = false -> d = ⟨#[]⟩) := by
 have hn := z01 s
 have hx : z0y K s ⟨#[47]⟩ = some (Lib.indexByte s.data.toList 47) := by
  unfold z0y z1p
  have e1 : (((⟨#[47]⟩ : zAd).size : Int) == 0) = false := rfl
  have e2 : (((⟨#[47]⟩ : zAd).size : Int) == 1) = true := rfl
  have e3 : bidx (⟨#[47]⟩ : zAd) 0 = some 47 := rfl
  rw [e1, e2, e3]
  simp only [Bool.false_eq_true, if_false, z0d, tu1a, if_true]
  by_cases he : sEq ⟨#[47]⟩ s = true
  ·rw [he, if_pos rfl]
   rw [sEq_iff] at he
   subst he
   rfl
  ·rw [if_neg he]
   rfl
 unfold z3o z1r
 rw [hx, z0d]
 rcases z9q 47 s.data.toList with ⟨h1, h2⟩ | ⟨i, h1, h2, h3, h4⟩
 ·refine ⟨s, ⟨#[]⟩, false, by rw [h1]; rfl, by simp, fun h => h2 (zfd h), fun _ => rfl⟩
 ·rw [Array.length_toList] at h2
  have h2' : i < s.size := h2
  have ea := z5h s (i := 0) (j := i) (by omega) (by omega)
  have eb := z5h s (i := i + 1) (j := s.size) (by omega) (by omega)
  refine ⟨s.extract 0 i, s.extract (i + 1) s.size, true, ?_, ?_, ?_, fun h => by cases h⟩
  ·have e1 : ((⟨#[47]⟩ : zAd).size : Int) = 1 := rfl
   have t0 : Int.toNat 0 = 0 := rfl
   have t1 : ((i : Int) + 1).toNat = i + 1 := by omega
   rw [h1, if_pos (decide_eq_true (by omega)), sslI (by omega) (by omega) (by omega), z0d, e1, k64 (by omega) (by omega), sslI (by omega) (by omega) (by omega), z0d, z0d, t1]
   rfl
  ·rw [ea.1, eb.1]
   have h5 : (z05 s)[i]? = some 47 := by unfold z05; rw [List.getElem?_map, h3]; rfl
   have h6 : i < (z05 s).length := by omega
   rw [zAh h6] at h5
   simp only [if_true, List.drop_zero, Nat.sub_zero]
   rw [List.take_of_length_le (l := (z05 s).drop (i + 1)) (by rw [List.length_drop]; omega)]
   conv => lhs; rw [<- List.take_append_drop i (z05 s), List.drop_eq_getElem_cons h6]
   rw [zAa h5]
  ·rw [ea.1, List.drop_zero, Nat.sub_zero]
   intro h
   unfold z05 at h
   rw [<- List.map_take] at h
   exact h4 (zfd h)
theorem zbf (K : Nat) {s : zAd} (hs : s.size <= 1048576) : ∃ s1 neg n d many, z1e K s ⟨#[45]⟩ = some (s1, neg) /\ z3o K s1 ⟨#[47]⟩ = some (n, d, many) /\ Sp s neg n many d /\ z05 s = (if neg then [45] else []) ++ z05 s1 /\ (many = false -> d = ⟨#[]⟩) := by
 obtain ⟨s1, neg, h1, h2, h3, h4⟩ := zei K s
 obtain ⟨n, d, many, c1, c2, c3, c4⟩ := zmy (K := K) (s := s1) (by omega)
 exact ⟨s1, neg, n, d, many, h1, c1, ⟨by rw [h2, c2], c3, h3⟩, h2, c4⟩
def ratS (neg : Bool) (n : zAd) (many : Bool) (d : zAd) : Int :=
 if natE n = 5 \/ (many = true /\ natE d = 5) \/ (neg = true /\ n = ⟨#[48]⟩) then 5 else if natE n ≠ 0 \/ (many = true /\ natE d ≠ 0) then 2 else
 if many = true /\ (d = ⟨#[48]⟩ \/ d = ⟨#[49]⟩ \/ Nat.gcd (numT n).toNat (numT d).toNat ≠ 1) then 3 else 0
theorem z9r (a b : zAd) : sEq a b = decide (a = b) := by
 by_cases h : a = b
 ·rw [decide_eq_true h]; exact sEq_iff.2 h
 ·rw [decide_eq_false h]; exact zmx h
theorem zm4 (G : Nat) : ((if (G : Int) < 1 then (-1 : Int) else if (G : Int) = 1 then 0 else 1) != 0) = decide (G ≠ 1) := by
 by_cases hG : G = 1
 ·subst hG; rfl
 ·rw [decide_eq_true hG]
  by_cases h0 : (G : Int) < 1
  ·rw [if_pos h0]; rfl
  ·rw [if_neg h0, if_neg (by omega)]; rfl
theorem zm5 : natE ⟨#[48]⟩ = 0 := (zab _).2 ⟨zan, by decide⟩
theorem zjt {s n d : zAd} {neg many : Bool} (hs : s.size <= 1048576) (hK : 2000000000 < K) (h : Sp s neg n many d) : z3u K s = some (ratS neg n many d) := by
 obtain ⟨s1, neg', n', d', many', c1, c2, c3, c4, c5⟩ := zbf K hs
 obtain ⟨rfl, rfl, rfl, hd⟩ := h.uniq c3
 have hsz := h.size
 unfold z3u ratS
 rw [c1, z0d, c2, z0d]
 dsimp only
 rw [zdr (by omega) (by omega), z0d]
 cases many with
 | false =>
  simp only [Bool.false_eq_true, if_false, z0d, tu1a, false_and, false_or, or_false]
  by_cases e5 : natE n = 5
  ·simp [e5, z0d, tu1a]
  ·have e5' : (natE n == 5) = false := by rw [beq_eq_false_iff_ne]; exact e5
   have e05 : ((0 : Int) == 5) = false := rfl
   rw [e5', e05]
   cases neg <;> by_cases e0 : natE n = 0 <;> by_cases en : n = ⟨#[48]⟩ <;> simp [e0, e5, en, z9r, z0d, tu1a, zm5]
 | true =>
  have hdd := hd rfl
  subst hdd
  simp only [if_true, true_and]
  rw [zdr (by have := hsz.2 rfl; omega) (by have := hsz.2 rfl; omega)]
  simp only [z0d, tu1a]
  by_cases e5 : natE n = 5
  ·simp [e5, z0d, tu1a]
  ·have e5' : (natE n == 5) = false := by rw [beq_eq_false_iff_ne]; exact e5
   by_cases f5 : natE d = 5
   ·simp [e5, f5, z0d, tu1a]
   ·have f5' : (natE d == 5) = false := by rw [beq_eq_false_iff_ne]; exact f5
    have hneg : (if neg = true then some (sEq n (⟨#[48]⟩ : zAd)) else some false) = some (decide (neg = true /\ n = ⟨#[48]⟩)) := by
     cases neg <;> simp [z9r]
    rw [e5', f5', hneg]
    simp only [Bool.false_eq_true, if_false, z0d, tu1a, e5, f5, false_or]
    by_cases hz : neg = true /\ n = ⟨#[48]⟩
    ·rw [decide_eq_true hz, if_pos rfl, if_pos hz]
    ·rw [decide_eq_false hz, if_neg (by simp), if_neg hz]
     by_cases e0 : natE n = 0
     ·by_cases f0 : natE d = 0
      ·obtain ⟨cn, ln⟩ := (zab n).1 e0
       obtain ⟨cd, ld⟩ := (zab d).1 f0
       obtain ⟨x, x1, x2, x3⟩ := za3 (K := K) (s := n) (by omega) hK cn.2.1
       obtain ⟨y, y1, y2, y3⟩ := za3 (K := K) (s := d) (by omega) hK cd.2.1
       have nn := z3h cn.2.1
       have nd := z3h cd.2.1
       obtain ⟨g, g1, g2⟩ := zk7 (K := K) (x := x) (y := y) (a := (numT n).toNat) (b := (numT d).toNat) (by omega) (by omega) hK (by rw [Int.toNat_of_nonneg nn]; exact x2) (by rw [Int.toNat_of_nonneg nd]; exact y2)
       have gl : g.length <= 1000000 := by
        by_cases h0 : (numT d).toNat = 0
        ·rw [h0, Nat.gcd_zero_right, Int.toNat_of_nonneg nn] at g2
         rw [g2.inj x2]; omega
        ·have := z8z g2 y2 (by have := Nat.gcd_le_right (n := (numT d).toNat) (numT n).toNat (by omega); omega)
         omega
       have hc := zf4 (K := K) (x := g) (y := [1]) (by omega) (by simp) hK g2 (.one (by omega) (by omega))
       have hcv : ((if ((Nat.gcd (numT n).toNat (numT d).toNat : Nat) : Int) < 1 then (-1 : Int) else if ((Nat.gcd (numT n).toNat (numT d).toNat : Nat) : Int) = 1 then 0 else 1) != 0) = decide (Nat.gcd (numT n).toNat (numT d).toNat ≠ 1) := by
        exact zm4 _
       rw [e0, f0]
       simp only [bne_self_eq_false, Bool.false_eq_true, if_false, z0d, tu1a, ne_eq, not_true, or_self, x1, y1, g1, zfc hK, hc, hcv, z9r]
       by_cases d0 : d = ⟨#[48]⟩
       ·simp [d0, z0d, tu1a]
       ·by_cases d1 : d = ⟨#[49]⟩
        ·simp [d1, z0d, tu1a]
        ·by_cases hG : Nat.gcd (numT n).toNat (numT d).toNat = 1 <;> simp [d0, d1, hG, z0d, tu1a]
      ·simp [e0, f0, z0d, tu1a]
     ·simp [e0, z0d, tu1a]
end Go.Am.Tryz
/- Plain law: the reference's parts of a rational number's text and its error. -/
namespace Go.Am.Tryz
open Go Go.Am Go.Proofs
variable {K : Nat}
theorem zdt {l r : List Int} {i : Nat} (h : i < l.length) : (l ++ r).getD i 0 = l.getD i 0 := by
 rw [zAb, List.getElem?_append_left h, zAb]
theorem zi2 {l : List Int} {i : Nat} (h : i < l.length) : l.getD i 0 ∈ l := by
 rw [zAb, zAh h]; exact List.getElem_mem h
theorem zi3 {s n : zAd} {r : List Int} (h : z05 s = z05 n ++ r) : s.extract 0 n.size = n := by
 have hl := congrArg List.length h
 rw [List.length_append, z01, z01] at hl
 apply z3w
 rw [(z5h s (by omega) (by omega)).1, h, List.drop_zero, Nat.sub_zero, List.take_append_of_le_length (by rw [z01]; omega), List.take_of_length_le (by rw [z01]; omega)]
theorem zfe {s n d : zAd} (h : z05 s = z05 n ++ 47 :: z05 d) : s.extract (n.size + 1) s.size = d := by
 have hl := congrArg List.length h
 rw [List.length_append, List.length_cons, z01, z01, z01] at hl
 apply z3w
 rw [(z5h s (by omega) (by omega)).1, h, List.drop_append, z01]
 rw [List.drop_eq_nil_of_le (by rw [z01]; omega), show n.size + 1 - n.size = 1 by omega]
 simp only [List.nil_append, List.drop_succ_cons, List.drop_zero]
 rw [List.take_of_length_le (by rw [z01]; omega)]
theorem zju {s : zAd} {neg : Bool} {r : List Int} (h : z05 s = (if neg then [45] else []) ++ r) (hd : neg = false -> (z05 s).head? ≠ some 45) (K : Nat) :
  ∃ s1, (Option.bind ((if (decide ((s.size : Int) > 0)) = true then ((bidx s 0).bind fun x7 => some (x7 == 45)) else some false)) (tu1 fun x11 => ((if x11 = true then ((ssl s 1 (s.size : Int)).bind fun x26 => some (x26, true)) else some (s, false))))) = some (s1, neg) /\ z05 s1 = r /\ s1.size <= s.size := by
 have hn := z01 s
 cases neg with
 | true =>
  simp only [if_true, List.cons_append, List.nil_append] at h
  obtain ⟨t, t1, t2, t3⟩ := zb7 h
  have hb : bidx s 0 = some 45 := by rw [z9d, h]; rfl
  have hs : 0 < s.size := by rw [h] at hn; simp at hn; omega
  refine ⟨t, ?_, t2, by rw [h] at hn; simp at hn; omega⟩
  rw [decide_eq_true (by omega), if_pos rfl, hb, z0d, z0d, tu1a]
  simp only [beq_self_eq_true, if_true, t1, z0d]
 | false =>
  simp only [Bool.false_eq_true, if_false, List.nil_append] at h
  refine ⟨s, ?_, h, Nat.le_refl _⟩
  by_cases h0 : 0 < s.size
  ·cases hb : z05 s with
   | nil => rw [hb] at hn; simp at hn; omega
   | cons c l =>
    have hc : c ≠ 45 := fun e => hd rfl (by rw [hb, e]; rfl)
    have hx : bidx s 0 = some c := by rw [z9d, hb]; rfl
    have e : (c == 45) = false := by rw [beq_eq_false_iff_ne]; exact hc
    rw [decide_eq_true (by omega), if_pos rfl, hx, z0d, e, z0d, tu1a]
    rfl
  ·rw [decide_eq_false (by omega)]
   rfl
theorem zfy {s n d : zAd} {many : Bool} (hs : s.size <= 1048576) (hK : 2000000000 < K) (h : z05 s = z05 n ++ (if many then 47 :: z05 d else [])) (hno : 47 ∉ z05 n) :
  ∃ r : Int × zAd × zAd, z1d K s K 1 s ⟨#[50]⟩ 0 = some r /\ r = (if many then (2, n, d) else (1, s, ⟨#[50]⟩)) := by
 have hn := z01 s
 have hln : n.size <= s.size := by
  have := congrArg List.length h
  rw [List.length_append, z01, z01] at this; omega
 have hlt : many = true -> n.size < s.size := fun hm => by
  subst hm
  have := congrArg List.length h
  rw [List.length_append, z01, z01] at this
  simp at this; omega
 refine z9t (fun k (q : Int × zAd × zAd × Int) => z1d K s k q.1 q.2.1 q.2.2.1 q.2.2.2) (fun q => ∃ i : Nat, q.2.2.2 = i /\ i <= s.size /\ (q.1, q.2.1, q.2.2.1) = (if many = true /\ n.size < i then (2, n, d) else (1, s, ⟨#[50]⟩))) (fun q => (s.size - q.2.2.2 : Int).toNat) _ ?_ ((1, s, ⟨#[50]⟩, 0) : Int × zAd × zAd × Int) (by dsimp only; omega) ⟨0, rfl, by omega, by rw [if_neg (by omega)]⟩
 rintro k ⟨m, a, b, _⟩ ⟨i, rfl, h0, h1⟩
 dsimp only at h1 ⊢
 by_cases hi : i < s.size
 ·right
  have hb : bidx s i = some ((z05 s).getD i 0) := by rw [zmi (by omega) (by omega), Int.toNat_natCast]
  by_cases c : many = true /\ n.size < i
  ·rw [if_pos c] at h1
   simp only [Prod.mk.injEq] at h1
   obtain ⟨rfl, rfl, rfl⟩ := h1
   refine ⟨(2, a, b, (i : Int) + 1), ?_, by dsimp only; omega, i + 1, rfl, by omega, by rw [if_pos ⟨c.1, by omega⟩]⟩
   rw [z1d, if_pos (decide_eq_true (by omega)), hb, z0d, k64 (by omega) (by omega)]
   have e : ((2 : Int) == 1) = false := rfl
   rw [e]
   by_cases c2 : (z05 s).getD i 0 == 47 <;> simp [c2, z0d, tu1a, tu3a]
  ·rw [if_neg c] at h1
   simp only [Prod.mk.injEq] at h1
   obtain ⟨rfl, rfl, rfl⟩ := h1
   by_cases c3 : many = true /\ i = n.size
   ·obtain ⟨hm, rfl⟩ := c3
    subst hm
    simp only [if_true] at h
    have hch : (z05 a).getD n.size 0 = 47 := by
     rw [h, zAb, List.getElem?_append_right (by rw [z01]; omega), z01]
     simp
    refine ⟨(2, n, d, (n.size : Int) + 1), ?_, by dsimp only; omega, n.size + 1, rfl, by omega, by rw [if_pos ⟨rfl, by omega⟩]⟩
    have t0 : Int.toNat 0 = 0 := rfl
    have t1 : ((n.size : Int) + 1).toNat = n.size + 1 := by omega
    rw [z1d, if_pos (decide_eq_true (by omega)), hb, z0d, hch, k64 (by omega) (by omega), sslI (l := 0) (by omega) (by omega) (by omega), sslI (by omega) (by omega) (by omega), t0, t1, Int.toNat_natCast, Int.toNat_natCast, zi3 h, zfe h]
    rfl
   ·have hin : i < n.size := by
     cases many with
     | true => simp at c c3; omega
     | false =>
      simp only [Bool.false_eq_true, if_false, List.append_nil] at h
      have := congrArg List.length h
      rw [z01, z01] at this; omega
    have hch : (z05 a).getD i 0 ≠ 47 := fun e => by
     rw [h, zdt (by rw [z01]; omega)] at e
     exact hno (e ▸ zi2 (by rw [z01]; omega))
    have e : ((z05 a).getD i 0 == 47) = false := by rw [beq_eq_false_iff_ne]; exact hch
    refine ⟨(1, a, ⟨#[50]⟩, (i : Int) + 1), ?_, by dsimp only; omega, i + 1, rfl, by omega, by rw [if_neg (by omega)]⟩
    rw [z1d, if_pos (decide_eq_true (by omega)), hb, z0d, e, k64 (by omega) (by omega)]
    rfl
 ·left
  have : i = s.size := by omega
  subst this
  refine ⟨(m, a, b), by rw [z1d, if_neg (by simp)], ?_⟩
  cases many with
  | true => have := hlt rfl; simp only [true_and, if_pos this] at h1; exact h1
  | false => simpa using h1
theorem zjv {s n d : zAd} {neg many : Bool} (hs : s.size <= 1048576) (hK : 2000000000 < K) (h : Sp s neg n many d) : z3a K s = some (ratS neg n many d) := by
 have hsz := h.size
 obtain ⟨s1, h1, h2, h3⟩ := zju h.eq h.hd K
 obtain ⟨r, r1, rfl⟩ := zfy (K := K) (s := s1) (n := n) (d := d) (many := many) (by omega) hK h2 h.no
 unfold z3a ratS
 -- the sign
 have hsplit : ∀ {α : Type} (F : zAd × Bool -> Option α), (Option.bind ((if (decide ((s.size : Int) > 0)) = true then ((bidx s 0).bind fun x7 => some (x7 == 45)) else some false)) (tu1 fun x11 => (Option.bind ((if x11 = true then ((ssl s 1 (s.size : Int)).bind fun x26 => some (x26, true)) else some (s, false))) F))) = F (s1, neg) := by
  intro α F
  have : ∀ (m : Option Bool) (f : Bool -> Option (zAd × Bool)), (Option.bind m (tu1 fun x => Option.bind (f x) F)) = Option.bind (Option.bind m (tu1 f)) F := by
   intro m f; cases m <;> rfl
  rw [this, h1]; rfl
 rw [hsplit, tu2a, r1, z0d, tu3a]
 cases many with
 | false =>
  have hs1 : s1 = n := z3w (by simpa using h2)
  subst hs1
  have e2 : natE ⟨#[50]⟩ = 0 := (zab _).2 ⟨⟨by decide, rfl, fun h => by simp [z05] at h⟩, by decide⟩
  simp only [Bool.false_eq_true, if_false, false_and, false_or, or_false]
  rw [zao (by omega) (by omega), zao (s := ⟨#[50]⟩) (by decide) (by show 1 < K; omega), z0d, z0d, e2]
  by_cases e5 : natE s1 = 5
  ·simp [e5, z0d, tu1a]
  ·have e5' : (natE s1 == 5) = false := by rw [beq_eq_false_iff_ne]; exact e5
   have e05 : ((0 : Int) == 5) = false := rfl
   rw [e5', e05]
   cases neg <;> by_cases e0 : natE s1 = 0 <;> by_cases en : s1 = ⟨#[48]⟩ <;> simp [e0, e5, en, z9r, z0d, tu1a, zm5]
 | true =>
  have hd := hsz.2 rfl
  simp only [if_true, true_and]
  rw [zao (by omega) (by omega), zao (s := d) (by omega) (by omega), z0d, z0d]
  by_cases e5 : natE n = 5
  ·simp [e5, z0d, tu1a]
  ·have e5' : (natE n == 5) = false := by rw [beq_eq_false_iff_ne]; exact e5
   by_cases f5 : natE d = 5
   ·simp [e5, f5, z0d, tu1a]
   ·have f5' : (natE d == 5) = false := by rw [beq_eq_false_iff_ne]; exact f5
    have hneg : (if neg = true then some (sEq n (⟨#[48]⟩ : zAd)) else some false) = some (decide (neg = true /\ n = ⟨#[48]⟩)) := by
     cases neg <;> simp [z9r]
    rw [e5', f5', hneg]
    simp only [Bool.false_eq_true, if_false, z0d, tu1a, e5, f5, false_or]
    by_cases hz : neg = true /\ n = ⟨#[48]⟩
    ·rw [decide_eq_true hz, if_pos rfl, if_pos hz]
    ·rw [decide_eq_false hz, if_neg (by simp), if_neg hz]
     by_cases e0 : natE n = 0
     ·by_cases f0 : natE d = 0
      ·obtain ⟨cn, ln⟩ := (zab n).1 e0
       obtain ⟨cd, ld⟩ := (zab d).1 f0
       have nn := z3h cn.2.1
       have nd := z3h cd.2.1
       obtain ⟨g, g1, g2, g3⟩ := zk8 (K := K) (x := n) (y := d) (a := (numT n).toNat) (b := (numT d).toNat) (by omega) (by omega) hK cn cd (by omega) (by omega)
       have hg : (!(decide (g = ⟨#[49]⟩))) = decide (Nat.gcd (numT n).toNat (numT d).toNat ≠ 1) := by
        by_cases hG : Nat.gcd (numT n).toNat (numT d).toNat = 1
        ·have : g = ⟨#[49]⟩ := z8w g2 za1 (by rw [g3, z8y, hG]; rfl)
         simp [this, hG]
        ·have : g ≠ ⟨#[49]⟩ := fun e => hG (by rw [e, z8y] at g3; omega)
         simp [this, hG]
       have e22 : ((2 : Int) == 2) = true := rfl
       rw [e0, f0, e22]
       simp only [bne_self_eq_false, Bool.false_eq_true, if_false, z0d, tu1a, ne_eq, not_true, or_self, g1, hg, z9r, if_true]
       by_cases d0 : d = ⟨#[48]⟩
       ·simp [d0, z0d, tu1a]
       ·by_cases d1 : d = ⟨#[49]⟩
        ·simp [d1, z0d, tu1a]
        ·by_cases hG : Nat.gcd (numT n).toNat (numT d).toNat = 1 <;> simp [d0, d1, hG, z0d, tu1a]
      ·simp [e0, f0, z0d, tu1a]
     ·simp [e0, z0d, tu1a]
theorem zi4 {s n d : zAd} {many : Bool} {x1 : Int} (hs : s.size <= 1048576) (hK : 2000000000 < K) (h : z05 s = z05 n ++ (if many then 47 :: z05 d else [])) (hno : 47 ∉ z05 n) :
  ∃ r : (Bool × zAd × zAd) ⊕ Unit, z3b K x1 s K 0 = some r /\ r = (if many then .inl (x1 == 45, n, d) else .inr ()) := by
 have hn := z01 s
 have hln : n.size <= s.size := by
  have := congrArg List.length h
  rw [List.length_append, z01, z01] at this; omega
 refine z9t (fun k (q : Int) => z3b K x1 s k q) (fun q => ∃ i : Nat, q = i /\ i <= n.size) (fun q => (s.size - q : Int).toNat) _ ?_ (0 : Int) (by omega) ⟨0, rfl, by omega⟩
 rintro k _ ⟨i, rfl, h0⟩
 by_cases hi : i < n.size
 ·right
  have hb : bidx s i = some ((z05 s).getD i 0) := by rw [zmi (by omega) (by omega), Int.toNat_natCast]
  have hch : (z05 s).getD i 0 ≠ 47 := fun e => by
   rw [h, zdt (by rw [z01]; omega)] at e
   exact hno (e ▸ zi2 (by rw [z01]; omega))
  have e : ((z05 s).getD i 0 == 47) = false := by rw [beq_eq_false_iff_ne]; exact hch
  refine ⟨(i : Int) + 1, ?_, by omega, i + 1, rfl, by omega⟩
  rw [z3b, if_pos (decide_eq_true (by omega)), hb, z0d, e, k64 (by omega) (by omega)]
  rfl
 ·left
  have : i = n.size := by omega
  subst this
  cases many with
  | true =>
   simp only [if_true] at h
   have hlt : n.size < s.size := by
    have := congrArg List.length h
    rw [List.length_append, z01, z01] at this
    simp at this; omega
   have hb : bidx s n.size = some ((z05 s).getD n.size 0) := by rw [zmi (by omega) (by omega), Int.toNat_natCast]
   have hch : (z05 s).getD n.size 0 = 47 := by
    rw [h, zAb, List.getElem?_append_right (by rw [z01]; omega), z01]
    simp
   have t0 : Int.toNat 0 = 0 := rfl
   have t1 : ((n.size : Int) + 1).toNat = n.size + 1 := by omega
   refine ⟨_, ?_, rfl⟩
   rw [z3b, if_pos (decide_eq_true (by omega)), hb, z0d, hch, k64 (by omega) (by omega), sslI (l := 0) (by omega) (by omega) (by omega), sslI (by omega) (by omega) (by omega), t0, t1, Int.toNat_natCast, Int.toNat_natCast, zi3 h, zfe h]
   rfl
  | false =>
   simp only [Bool.false_eq_true, if_false, List.append_nil] at h
   have : n.size = s.size := by
    have := congrArg List.length h
    rw [z01, z01] at this; omega
   exact ⟨.inr (), by rw [z3b, if_neg (by simp; omega)], rfl⟩
theorem zjw {s n d : zAd} {neg many : Bool} (hs : s.size <= 1048576) (h0 : s.size ≠ 0) (hK : 2000000000 < K) (h : Sp s neg n many d) : z5t K s = some (neg, n, if many then d else ⟨#[49]⟩) := by
 have hn := z01 s
 obtain ⟨c, l, hc⟩ : ∃ c l, z05 s = c :: l := by
  cases hb : z05 s with
  | nil => rw [hb] at hn; simp at hn; omega
  | cons c l => exact ⟨c, l, rfl⟩
 have hx : bidx s 0 = some c := by rw [z9d, hc]; rfl
 have hneg : (c == 45) = neg := by
  cases neg with
  | true => have := h.eq; rw [hc] at this; simp at this; rw [this.1]; rfl
  | false => have := h.hd rfl; rw [hc] at this; simpa using this
 obtain ⟨s1, e1, e2, e3⟩ : ∃ s1, (if neg = true then ((ssl s 1 (s.size : Int)).bind fun x9 => some x9) else some s) = some s1 /\ z05 s1 = z05 n ++ (if many then 47 :: z05 d else []) /\ s1.size <= s.size := by
  cases neg with
  | true =>
   have he := h.eq
   simp only [if_true, List.cons_append, List.nil_append] at he
   obtain ⟨t, t1, t2, t3⟩ := zb7 he
   exact ⟨t, by rw [if_pos rfl, t1]; rfl, t2, by rw [he] at hn; rw [List.length_cons] at hn; omega⟩
  | false => exact ⟨s, rfl, by simpa using h.eq, Nat.le_refl _⟩
 obtain ⟨r, r1, rfl⟩ := zi4 (K := K) (s := s1) (n := n) (d := d) (many := many) (x1 := c) (by omega) hK e2 h.no
 unfold z5t
 rw [hx, z0d, hneg, e1, z0d, tu1a, r1]
 cases many with
 | true => simp only [if_true, zhh, tu3a, hneg]
 | false =>
  have hs1 : s1 = n := z3w (by simpa using e2)
  subst hs1
  simp only [Bool.false_eq_true, if_false, zjb, tu0a]
end Go.Am.Tryz
/- Plain law: the program's rational numbers and their texts. -/
namespace Go.Am.Tryz
open Go Go.Am Go.Proofs
variable {K : Nat}
def RTx (s : zAd) (x : Rat) : Prop := ∃ n d, CanT n /\ CanT d /\ numT n = (x.num.natAbs : Nat) /\ numT d = (x.den : Nat) /\ Sp s (decide (x.num < 0)) n (decide (x.den ≠ 1)) d
theorem RTx.inj {s t : zAd} {x : Rat} (h : RTx s x) (k : RTx t x) : s = t := by
 obtain ⟨n, d, h1, h2, h3, h4, h5⟩ := h
 obtain ⟨n', d', k1, k2, k3, k4, k5⟩ := k
 have e1 : n = n' := z8w h1 k1 (by rw [h3, k3])
 have e2 : d = d' := z8w h2 k2 (by rw [h4, k4])
 subst e1 e2
 exact z3w (by rw [h5.eq, k5.eq])
theorem RTx.val {s : zAd} {x y : Rat} (h : RTx s x) (k : RTx s y) : x = y := by
 obtain ⟨n, d, h1, h2, h3, h4, h5⟩ := h
 obtain ⟨n', d', k1, k2, k3, k4, k5⟩ := k
 obtain ⟨e1, rfl, e3, e4⟩ := h5.uniq k5
 have e5 : x.num = y.num := by
  rw [<- zbe x, <- zbe y, e1]
  congr 1
  omega
 have e6 : x.den = y.den := by
  by_cases c : x.den ≠ 1
  ·have := e4 (decide_eq_true c)
   subst this; omega
  ·have c2 : ¬ y.den ≠ 1 := fun c2 => by
    rw [decide_eq_false c, decide_eq_true c2] at e3; cases e3
   omega
 exact Rat.ext e5 e6
def QV (a : Q) (x : Rat) : Prop := a.neg = decide (x.num < 0) /\ NumN (x.num.natAbs : Nat) a.num /\ (NumN (x.den : Nat) a.den \/ (a.den = [] /\ x.den = 1))
theorem zmz (N : Nat) : (10 : Int) ^ N <= 1000000000 ^ N := by
 have g5 : (1000000000 : Int) = 10 ^ 9 := by decide
 rw [g5, <- Int.pow_mul]
 exact z6h (by omega) (by omega)
theorem z7l (N : Nat) : ((10 ^ N : Nat) : Int) = (10 : Int) ^ N := by simp
theorem zkb {n N : Nat} {l : List Int} (h : NumN n l) (hn : n < 10 ^ N) : l.length <= N := by
 refine Nat.not_lt.1 fun hlt => ?_
 have g1 := zhi (B := 1000000000) (by omega) h.1 (by rintro rfl; simp at hlt)
 rw [h.2] at g1
 have g2 : (1000000000 : Int) ^ N <= 1000000000 ^ (l.length - 1) := z6h (by omega) (by omega)
 have g3 := zmz N
 have g4 : (n : Int) < (10 : Int) ^ N := by rw [<- z7l]; omega
 omega
theorem zbg {n N : Nat} {t : zAd} (h : CanT t) (ht : numT t = n) (hn : n < 10 ^ N) : t.size <= N + 1 := by
 refine Nat.not_lt.1 fun hlt => ?_
 have g1 := zc2 h (by omega)
 have g2 : (10 : Int) ^ N <= 10 ^ (t.size - 1) := z6h (by omega) (by omega)
 have g4 : (n : Int) < (10 : Int) ^ N := by rw [<- z7l]; omega
 omega
theorem zdu {n N : Nat} {t : zAd} (h : (z05 t).all digT = true) (ht : numT t = n) (hN : t.size <= N) : n < 10 ^ N := by
 have g1 := zbb h
 have g2 : (10 : Int) ^ t.size <= 10 ^ N := z6h (by omega) hN
 have g4 : (n : Int) < (10 : Int) ^ N := by omega
 rw [<- z7l] at g4
 omega
theorem QV.lens {a : Q} {x : Rat} {N : Nat} (h : QV a x) (hx : Dl x N) : a.num.length <= N /\ a.den.length <= N := by
 refine ⟨zkb h.2.1 hx.1, ?_⟩
 rcases h.2.2 with h2 | ⟨h2, _⟩
 ·exact zkb h2 hx.2
 ·rw [h2]; exact Nat.zero_le _
theorem QV.zero : QV ⟨false, [], []⟩ 0 := ⟨rfl, .nil, .inr ⟨rfl, rfl⟩⟩
theorem QV.num0 {a : Q} {x : Rat} (h : QV a x) : a.num.length = 0 ↔ x = 0 := by
 rw [h.2.1.len0, <- Rat.num_eq_zero]; omega
theorem z90 {a : Q} {x : Rat} (h : QV a x) (hK : 2000000000 < K) : ∃ w, z1b K a = some w /\ NumN (x.den : Nat) w /\ w.length <= max a.den.length 1 := by
 unfold z1b
 rcases h.2.2 with h2 | ⟨h2, h3⟩
 ·have hp := x.den_pos
  have h0 : a.den.length ≠ 0 := fun e => by have := h2.len0.1 e; omega
  refine ⟨a.den, ?_, h2, by omega⟩
  rw [if_neg (by rw [beq_iff_eq]; omega)]
 ·refine ⟨[1], ?_, by rw [h3]; exact .one (by omega) (by omega), by simp; omega⟩
  rw [h2, if_pos (by rfl), zfc hK, z0d]
theorem zi5 {neg : Bool} {n d : Nat} {num den : List Int} (hd : d ≠ 0) (hn : NumN n num) (hdn : NumN d den) (l1 : num.length <= 1000000) (l2 : den.length <= 1000000) (hK : 2000000000 < K) :
  ∃ q, z5q K neg num den = some q /\ QV q (mkRat (sgn neg n) d) := by
 unfold z5q
 by_cases h0 : num.length = 0
 ·have e := hn.len0.1 h0
  have e' : n = 0 := by omega
  subst e'
  refine ⟨⟨false, [], []⟩, by rw [if_pos (by rw [beq_iff_eq]; omega)], ?_⟩
  have : mkRat (sgn neg 0) d = 0 := by
   have : sgn neg 0 = 0 := by cases neg <;> rfl
   rw [this, Rat.zero_mkRat]
  rw [this]; exact QV.zero
 ·have hn0 : n ≠ 0 := fun e => h0 (hn.len0.2 (by omega))
  obtain ⟨g, g1, g2⟩ := zk7 (K := K) (by omega) (by omega) hK hn hdn
  have gp : 0 < Nat.gcd n d := Nat.gcd_pos_of_pos_left d (by omega)
  have gl := z8z g2 hn (by have := Nat.gcd_le_left (m := n) d (by omega); omega)
  have hc := zf4 (K := K) (x := g) (y := [1]) (by omega) (by simp) hK g2 (.one (by omega) (by omega))
  rw [if_neg (by rw [beq_iff_eq]; omega), g1, z0d, zfc hK, z0d, hc, z0d]
  have m1 := zjr neg n d hd
  have m2 := zjs neg n d hd
  have m3 := zl2 neg n d hd hn0
  by_cases h1 : Nat.gcd n d = 1
  ·refine ⟨⟨neg, num, den⟩, ?_, m3.symm, ?_, .inl ?_⟩
   ·rw [h1]; rfl
   ·rw [m1, h1, Nat.div_one]; exact hn
   ·rw [m2, h1, Nat.div_one]; exact hdn
  ·obtain ⟨q1, r1, a1, a2, a3, a4, a5⟩ := zf8 (K := K) (x := num) (y := g) (by omega) (by omega) hK hn g2 (by omega)
   obtain ⟨q2, r2, b1, b2, b3, b4, b5⟩ := zf8 (K := K) (x := den) (y := g) (by omega) (by omega) hK hdn g2 (by omega)
   refine ⟨⟨neg, q1, q2⟩, ?_, m3.symm, ?_, .inl ?_⟩
   ·have e : decide ((if ((Nat.gcd n d : Nat) : Int) < 1 then (-1 : Int) else if ((Nat.gcd n d : Nat) : Int) = 1 then 0 else 1) > 0) = true := by
     rw [if_neg (by omega), if_neg (by omega)]; rfl
    rw [e, if_pos rfl, a1, z0d, b1, z0d, z0d, tu2a]
   ·rw [m1]
    have e : ((n : Int) / ((Nat.gcd n d : Nat) : Int)) = ((n / Nat.gcd n d : Nat) : Int) := by simp
    rw [e] at a2; exact a2
   ·rw [m2]
    have e : ((d : Int) / ((Nat.gcd n d : Nat) : Int)) = ((d / Nat.gcd n d : Nat) : Int) := by simp
    rw [e] at b2; exact b2
theorem zkc (p : Bool) (X Y : Nat) : sgn p (X + Y) = sgn p X + sgn p Y := by unfold sgn; cases p <;> simp <;> omega
theorem zff (p q : Bool) (h : p ≠ q) {X Y : Nat} (hXY : Y <= X) : sgn p (X - Y) = sgn p X + sgn q Y := by
 unfold sgn; cases p <;> cases q <;> simp at h ⊢ <;> omega
theorem zkd (p : Bool) (a b : Nat) : sgn p (a * b) = sgn p a * b := by unfold sgn; cases p <;> simp [Int.neg_mul]
theorem zi6 (x y : Rat) : x + y = mkRat (sgn (decide (x.num < 0)) (x.num.natAbs * y.den) + sgn (decide (y.num < 0)) (y.num.natAbs * x.den)) (x.den * y.den) := by
 rw [zkd, zkd, zbe, zbe, Rat.add_def']
theorem zi7 {a b : Q} {x y : Rat} {N : Nat} (ha : QV a x) (hb : QV b y) (dx : Dl x N) (dy : Dl y N) (hN : N <= 300000) (hK : 2000000000 < K) : ∃ q, z4f K a b = some q /\ QV q (x + y) := by
 have la := ha.lens dx
 have lb := hb.lens dy
 have hN1 := dx.pos
 unfold z4f
 by_cases hx : x = 0
 ·subst hx
  refine ⟨b, ?_, by rw [Rat.zero_add]; exact hb⟩
  rw [if_pos (by rw [beq_iff_eq]; have := ha.num0.2 rfl; omega)]
 ·have hx0 : a.num.length ≠ 0 := fun e => hx (ha.num0.1 e)
  rw [if_neg (by rw [beq_iff_eq]; omega)]
  by_cases hy : y = 0
  ·subst hy
   refine ⟨a, ?_, by rw [Rat.add_zero]; exact ha⟩
   rw [if_pos (by rw [beq_iff_eq]; have := hb.num0.2 rfl; omega)]
  ·have hy0 : b.num.length ≠ 0 := fun e => hy (hb.num0.1 e)
   rw [if_neg (by rw [beq_iff_eq]; omega)]
   obtain ⟨wa, wa1, wa2, wa3⟩ := z90 (K := K) ha hK
   obtain ⟨wb, wb1, wb2, wb3⟩ := z90 (K := K) hb hK
   obtain ⟨X, X1, X2, X3⟩ := z9p (K := K) (x := a.num) (y := wb) (by omega) hK ha.2.1 wb2
   obtain ⟨Y, Y1, Y2, Y3⟩ := z9p (K := K) (x := b.num) (y := wa) (by omega) hK hb.2.1 wa2
   obtain ⟨D, D1, D2, D3⟩ := z9p (K := K) (x := wa) (y := wb) (by omega) hK wa2 wb2
   rw [wa1, wb1, z0d, X1, z0d, z0d, Y1, z0d, z0d, z0d, D1, z0d]
   rw [<- Int.natCast_mul] at X2 Y2 D2
   have hD : x.den * y.den ≠ 0 := Nat.mul_ne_zero x.den_nz y.den_nz
   rw [zi6, <- ha.1, <- hb.1]
   generalize x.num.natAbs * y.den = m at X2 ⊢
   generalize y.num.natAbs * x.den = n at Y2 ⊢
   by_cases hs : a.neg = b.neg
   ·obtain ⟨Z, Z1, Z2, Z3⟩ := zls (K := K) (x := X) (y := Y) (by omega) (by omega) hK X2 Y2
    rw [<- Int.natCast_add] at Z2
    obtain ⟨q, q1, q2⟩ := zi5 (K := K) (neg := a.neg) hD Z2 D2 (by omega) (by omega) hK
    refine ⟨q, ?_, by rw [<- hs, <- zkc]; exact q2⟩
    rw [if_pos (by simpa using hs), Z1, z0d, q1, z0d]
   ·have hc := zf4 (K := K) (x := X) (y := Y) (by omega) (by omega) hK X2 Y2
    rw [if_neg (by simpa using hs), hc, z0d]
    by_cases hle : n <= m
    ·obtain ⟨Z, Z1, Z2, Z3⟩ := zk3 (K := K) (x := X) (y := Y) (by omega) hK X2 Y2 (by omega)
     rw [<- Int.natCast_sub hle] at Z2
     obtain ⟨q, q1, q2⟩ := zi5 (K := K) (neg := a.neg) hD Z2 D2 (by omega) (by omega) hK
     refine ⟨q, ?_, by rw [<- zff _ _ hs hle]; exact q2⟩
     rw [if_pos (decide_eq_true (by rw [if_neg (by omega)]; split <;> omega)), Z1, z0d, q1, z0d]
    ·obtain ⟨Z, Z1, Z2, Z3⟩ := zk3 (K := K) (x := Y) (y := X) (by omega) hK Y2 X2 (by omega)
     rw [<- Int.natCast_sub (show m <= n by omega)] at Z2
     obtain ⟨q, q1, q2⟩ := zi5 (K := K) (neg := b.neg) hD Z2 D2 (by omega) (by omega) hK
     refine ⟨q, ?_, by rw [Int.add_comm, <- zff _ _ (fun e => hs e.symm) (by omega)]; exact q2⟩
     have e : decide ((if ((m : Nat) : Int) < (n : Nat) then (-1 : Int) else if ((m : Nat) : Int) = (n : Nat) then 0 else 1) >= 0) = false := by
      rw [if_pos (by omega)]; rfl
     rw [e]
     simp only [Bool.false_eq_true, if_false]
     rw [Z1, z0d, q1, z0d]
theorem zke {a : Q} {x : Rat} (ha : QV a x) : ∃ q, z5z K a = some q /\ QV q (-x) := by
 unfold z5z
 by_cases hx : x = 0
 ·subst hx
  refine ⟨a, ?_, by rw [Rat.neg_zero]; exact ha⟩
  rw [if_pos (by rw [beq_iff_eq]; have := ha.num0.2 rfl; omega)]
 ·have hx0 : a.num.length ≠ 0 := fun e => hx (ha.num0.1 e)
  refine ⟨⟨!a.neg, a.num, a.den⟩, by rw [if_neg (by rw [beq_iff_eq]; omega)], ?_, ?_, ?_⟩
  ·dsimp only
   rw [ha.1, Rat.neg_num]
   have : x.num ≠ 0 := fun e => hx (Rat.num_eq_zero.1 e)
   by_cases c : x.num < 0
   ·rw [decide_eq_true c, decide_eq_false (by omega)]; rfl
   ·rw [decide_eq_false c, decide_eq_true (by omega)]; rfl
  ·dsimp only
   rw [Rat.neg_num, Int.natAbs_neg]; exact ha.2.1
  ·dsimp only
   rw [Rat.neg_den]; exact ha.2.2
theorem zi8 {a b : Q} {x y : Rat} {N : Nat} (ha : QV a x) (hb : QV b y) (dx : Dl x N) (dy : Dl y N) (hN : N <= 300000) (hK : 2000000000 < K) : ∃ q, z4z K a b = some q /\ QV q (x - y) := by
 obtain ⟨m, m1, m2⟩ := zke (K := K) hb
 obtain ⟨q, q1, q2⟩ := zi7 (K := K) ha m2 dx dy.neg hN hK
 exact ⟨q, by unfold z4z; rw [m1, z0d, q1, z0d], by rw [Rat.sub_eq_add_neg]; exact q2⟩
theorem z9s {a b : Q} {x y : Rat} {N : Nat} (ha : QV a x) (hb : QV b y) (dx : Dl x N) (dy : Dl y N) (hN : N <= 300000) (hK : 2000000000 < K) : ∃ q, z2d K a b = some q /\ QV q (x * y) := by
 have la := ha.lens dx
 have lb := hb.lens dy
 have hN1 := dx.pos
 unfold z2d
 by_cases hz : x = 0 \/ y = 0
 ·refine ⟨⟨false, [], []⟩, ?_, ?_⟩
  ·rcases hz with rfl | rfl
   ·have := ha.num0.2 rfl
    rw [if_pos (by rw [beq_iff_eq]; omega)]
    rfl
   ·have := hb.num0.2 rfl
    have e : ((b.num.length : Int) == 0) = true := by rw [beq_iff_eq]; omega
    rw [e]
    by_cases c : ((a.num.length : Int) == 0) = true
    ·rw [if_pos c]; rfl
    ·rw [if_neg c]; rfl
  ·have : x * y = 0 := by rcases hz with rfl | rfl <;> simp
   rw [this]; exact QV.zero
 ·have hx0 : a.num.length ≠ 0 := fun e => hz (.inl (ha.num0.1 e))
  have hy0 : b.num.length ≠ 0 := fun e => hz (.inr (hb.num0.1 e))
  have e1 : ((a.num.length : Int) == 0) = false := by rw [beq_eq_false_iff_ne]; omega
  have e2 : ((b.num.length : Int) == 0) = false := by rw [beq_eq_false_iff_ne]; omega
  obtain ⟨wa, wa1, wa2, wa3⟩ := z90 (K := K) ha hK
  obtain ⟨wb, wb1, wb2, wb3⟩ := z90 (K := K) hb hK
  obtain ⟨X, X1, X2, X3⟩ := z9p (K := K) (x := a.num) (y := b.num) (by omega) hK ha.2.1 hb.2.1
  obtain ⟨D, D1, D2, D3⟩ := z9p (K := K) (x := wa) (y := wb) (by omega) hK wa2 wb2
  rw [<- Int.natCast_mul] at X2 D2
  have hD : x.den * y.den ≠ 0 := Nat.mul_ne_zero x.den_nz y.den_nz
  obtain ⟨q, q1, q2⟩ := zi5 (K := K) (neg := !(a.neg == b.neg)) hD X2 D2 (by omega) (by omega) hK
  refine ⟨q, ?_, ?_⟩
  ·rw [e1, e2]
   simp only [Bool.false_eq_true, if_false, z0d, tu1a, X1, wa1, wb1, D1, q1]
  ·rw [zk9, <- ha.1, <- hb.1]
   exact q2
theorem zm6 {a b : Q} {x y : Rat} {N : Nat} (ha : QV a x) (hb : QV b y) (dx : Dl x N) (dy : Dl y N) (hN : N <= 300000) (hK : 2000000000 < K) : ∃ q, z6x K a b = some q /\ QV q (x / y) := by
 have la := ha.lens dx
 have lb := hb.lens dy
 have hN1 := dx.pos
 unfold z6x
 by_cases hz : x = 0 \/ y = 0
 ·refine ⟨⟨false, [], []⟩, ?_, ?_⟩
  ·rcases hz with rfl | rfl
   ·have := ha.num0.2 rfl
    rw [if_pos (by rw [beq_iff_eq]; omega)]
    rfl
   ·have := hb.num0.2 rfl
    have e : ((b.num.length : Int) == 0) = true := by rw [beq_iff_eq]; omega
    rw [e]
    by_cases c : ((a.num.length : Int) == 0) = true
    ·rw [if_pos c]; rfl
    ·rw [if_neg c]; rfl
  ·have : x / y = 0 := by rcases hz with rfl | rfl <;> grind
   rw [this]; exact QV.zero
 ·have hx0 : a.num.length ≠ 0 := fun e => hz (.inl (ha.num0.1 e))
  have hy0 : b.num.length ≠ 0 := fun e => hz (.inr (hb.num0.1 e))
  have e1 : ((a.num.length : Int) == 0) = false := by rw [beq_eq_false_iff_ne]; omega
  have e2 : ((b.num.length : Int) == 0) = false := by rw [beq_eq_false_iff_ne]; omega
  obtain ⟨wa, wa1, wa2, wa3⟩ := z90 (K := K) ha hK
  obtain ⟨wb, wb1, wb2, wb3⟩ := z90 (K := K) hb hK
  obtain ⟨X, X1, X2, X3⟩ := z9p (K := K) (x := a.num) (y := wb) (by omega) hK ha.2.1 wb2
  obtain ⟨D, D1, D2, D3⟩ := z9p (K := K) (x := wa) (y := b.num) (by omega) hK wa2 hb.2.1
  rw [<- Int.natCast_mul] at X2 D2
  have hyn : y.num ≠ 0 := fun e => hz (.inr (Rat.num_eq_zero.1 e))
  have hD : x.den * y.num.natAbs ≠ 0 := Nat.mul_ne_zero x.den_nz (by omega)
  obtain ⟨q, q1, q2⟩ := zi5 (K := K) (neg := !(a.neg == b.neg)) hD X2 D2 (by omega) (by omega) hK
  refine ⟨q, ?_, ?_⟩
  ·rw [e1, e2]
   simp only [Bool.false_eq_true, if_false, z0d, tu1a, X1, wa1, wb1, D1, q1]
  ·rw [zka x y (fun e => hz (.inr e)), <- ha.1, <- hb.1]
   exact q2
theorem zi9 {a : Q} {x : Rat} (ha : QV a x) : z4y K a = some (if x = 0 then 0 else if x.num < 0 then -1 else 1) := by
 unfold z4y
 by_cases hx : x = 0
 ·have := ha.num0.2 hx
  rw [if_pos (by rw [beq_iff_eq]; omega), if_pos hx]
 ·have hx0 : a.num.length ≠ 0 := fun e => hx (ha.num0.1 e)
  rw [if_neg (by rw [beq_iff_eq]; omega), if_neg hx, ha.1]
  by_cases c : x.num < 0 <;> simp [c]
end Go.Am.Tryz
/- Plain law: texts in and out of the program's rational numbers; the reference's sums and products. -/
namespace Go.Am.Tryz
open Go Go.Am Go.Proofs
variable {K : Nat}
theorem zia {d : zAd} (h : CanT d) : d = ⟨#[49]⟩ ↔ numT d = 1 := ⟨fun e => by rw [e, z8y], fun e => z8w h za1 (by rw [e, z8y])⟩
theorem zdv (N : Nat) (h : N ≠ 0) : 1 < 10 ^ N := Nat.one_lt_pow h (by omega)
theorem znx {s n d : zAd} {neg many : Bool} (h : Sp s neg n many d) (h0 : ratS neg n many d = 0) : ∃ x, RTx s x /\ Dl x 2000 := by
 unfold ratS at h0
 by_cases c1 : natE n = 5 \/ (many = true /\ natE d = 5) \/ (neg = true /\ n = ⟨#[48]⟩)
 ·rw [if_pos c1] at h0; cases h0
 ·rw [if_neg c1] at h0
  by_cases c2 : natE n ≠ 0 \/ (many = true /\ natE d ≠ 0)
  ·rw [if_pos c2] at h0; cases h0
  ·rw [if_neg c2] at h0
   by_cases c3 : many = true /\ (d = ⟨#[48]⟩ \/ d = ⟨#[49]⟩ \/ Nat.gcd (numT n).toNat (numT d).toNat ≠ 1)
   ·rw [if_pos c3] at h0; cases h0
   ·have en : natE n = 0 := by
     by_cases e : natE n = 0
     ·exact e
     ·exact absurd (.inl e) c2
    obtain ⟨cn, ln⟩ := (zab n).1 en
    have nn := z3h cn.2.1
    have hNN : numT n = ((numT n).toNat : Int) := by omega
    have hneg : neg = true -> (numT n).toNat ≠ 0 := fun e hz => c1 (.inr (.inr ⟨e, (zbd cn).1 (by omega)⟩))
    have lN := zdu (N := 2000) cn.2.1 hNN ln
    -- the number whose parts these are
    have key : ∀ (D : Nat) (d' : zAd), CanT d' -> numT d' = D -> D ≠ 0 -> Nat.gcd (numT n).toNat D = 1 -> D < 10 ^ 2000 -> (many = true ↔ D ≠ 1) -> Sp s neg n many d' -> ∃ x, RTx s x /\ Dl x 2000 := by
     intro D d' cd hD hD0 hg hD2 hm hsp
     have m1 := zjr neg (numT n).toNat D hD0
     have m2 := zjs neg (numT n).toNat D hD0
     rw [hg, Nat.div_one] at m1 m2
     have m3 : decide ((mkRat (sgn neg (numT n).toNat) D).num < 0) = neg := by
      by_cases hz : (numT n).toNat = 0
      ·have : neg = false := by
        cases hne : neg with
        | false => rfl
        | true => exact absurd hz (hneg hne)
       subst this
       rw [hz]
       have : mkRat (sgn false 0) D = 0 := by have : sgn false 0 = 0 := rfl; rw [this, Rat.zero_mkRat]
       rw [this]; rfl
      ·exact zl2 neg _ D hD0 hz
     refine ⟨mkRat (sgn neg (numT n).toNat) D, ⟨n, d', cn, cd, by rw [m1]; exact hNN, by rw [m2]; exact hD, ?_⟩, Dl.mk _ hD0 lN hD2⟩
     rw [m3, m2]
     have : decide (D ≠ 1) = many := by
      cases hmm : many with
      | false => exact decide_eq_false (fun h => by rw [hmm] at hm; have := hm.2 h; cases this)
      | true => exact decide_eq_true (hm.1 hmm)
     rw [this]
     exact hsp
    cases many with
    | false =>
     refine key 1 ⟨#[49]⟩ za1 z8y (by omega) (Nat.gcd_one_right _) (zdv 2000 (by omega)) (by simp) ⟨by simpa using h.eq, h.no, h.hd⟩
    | true =>
     have ed : natE d = 0 := by
      by_cases e : natE d = 0
      ·exact e
      ·exact absurd (.inr ⟨rfl, e⟩) c2
     obtain ⟨cd, ld⟩ := (zab d).1 ed
     have nd := z3h cd.2.1
     have hDD : numT d = ((numT d).toNat : Int) := by omega
     have d0 : d ≠ ⟨#[48]⟩ := fun e => c3 ⟨rfl, .inl e⟩
     have d1 : d ≠ ⟨#[49]⟩ := fun e => c3 ⟨rfl, .inr (.inl e)⟩
     have hg : Nat.gcd (numT n).toNat (numT d).toNat = 1 := by
      by_cases e : Nat.gcd (numT n).toNat (numT d).toNat = 1
      ·exact e
      ·exact absurd ⟨rfl, .inr (.inr e)⟩ c3
     exact key (numT d).toNat d cd hDD (fun e => d0 ((zbd cd).1 (by omega))) hg (zdu (N := 2000) cd.2.1 hDD ld) (by
      simp only [true_iff]
      exact fun e => d1 ((zia cd).2 (by omega))) h
theorem RTx.size {s : zAd} {x : Rat} {N : Nat} (h : RTx s x) (dx : Dl x N) : s.size <= 2 * N + 4 := by
 obtain ⟨n, d, h1, h2, h3, h4, h5⟩ := h
 have l1 := zbg h1 h3 dx.1
 have l2 := zbg h2 h4 dx.2
 have := congrArg List.length h5.eq
 rw [z01, List.length_append, List.length_append, z01] at this
 have e1 : (if decide (x.num < 0) = true then ([45] : List Int) else []).length <= 1 := by split <;> simp
 have e2 : (if decide (x.den ≠ 1) = true then (47 :: z05 d : List Int) else []).length <= d.size + 1 := by
  split
  ·rw [List.length_cons, z01]; omega
  ·simp
 omega
theorem RTx.dl {s : zAd} {x : Rat} {N : Nat} (h : RTx s x) (hs : s.size <= N) : Dl x (N + 1) := by
 obtain ⟨n, d, h1, h2, h3, h4, h5⟩ := h
 have hsz := h5.size
 refine ⟨Nat.lt_of_lt_of_le (zdu h1.2.1 h3 (Nat.le_trans hsz.1 hs)) (Nat.pow_le_pow_right (by omega) (by omega)), ?_⟩
 by_cases c : x.den ≠ 1
 ·exact Nat.lt_of_lt_of_le (zdu h2.2.1 h4 (Nat.le_trans (hsz.2 (decide_eq_true c)) hs)) (Nat.pow_le_pow_right (by omega) (by omega))
 ·have : x.den = 1 := by omega
  rw [this]
  exact Nat.one_lt_pow (by omega) (by omega)
theorem RTx.pos {s : zAd} {x : Rat} (h : RTx s x) : s.size ≠ 0 := by
 obtain ⟨n, d, h1, h2, h3, h4, h5⟩ := h
 have := h5.size.1
 have := h1.1
 omega
theorem z8c {s : zAd} {x : Rat} (h : RTx s x) (hs : s.size <= 1048576) (hK : 2000000000 < K) : ∃ q, z20 K s = some q /\ QV q x := by
 obtain ⟨n, d, h1, h2, h3, h4, h5⟩ := h
 obtain ⟨s1, neg', n', d', many', c1, c2, c3, c4, c5⟩ := zbf K hs
 obtain ⟨rfl, rfl, rfl, hd⟩ := h5.uniq c3
 have hsz := h5.size
 obtain ⟨a, a1, a2, a3⟩ := za3 (K := K) (s := n) (by omega) hK h1.2.1
 rw [h3] at a2
 unfold z20
 rw [c1, z0d, c2, z0d]
 dsimp only
 rw [a1, z0d, zfc hK, z0d]
 by_cases c : x.den ≠ 1
 ·have := hd (decide_eq_true c)
  subst this
  obtain ⟨b, b1, b2, b3⟩ := za3 (K := K) (s := d) (by have := hsz.2 (decide_eq_true c); omega) hK h2.2.1
  rw [h4] at b2
  exact ⟨⟨decide (x.num < 0), a, b⟩, by rw [decide_eq_true c, if_pos rfl, b1, z0d, z0d, tu1a], rfl, a2, .inl b2⟩
 ·have e : x.den = 1 := by omega
  exact ⟨⟨decide (x.num < 0), a, [1]⟩, by rw [decide_eq_false c]; rfl, rfl, a2, .inl (by rw [e]; exact .one (by omega) (by omega))⟩
theorem zib {n : zAd} (h : (z05 n).all digT = true) : (47 : Int) ∉ z05 n := fun hm => by
 have := digT_iff.1 (List.all_eq_true.1 h _ hm); omega
theorem zla {s n d : zAd} {x : Rat} (h1 : CanT n) (h2 : CanT d) (h3 : numT n = (x.num.natAbs : Nat)) (h4 : numT d = (x.den : Nat)) (h : z05 s = (if decide (x.num < 0) then [45] else []) ++ (z05 n ++ (if decide (x.den ≠ 1) then 47 :: z05 d else []))) : RTx s x := by
 refine ⟨n, d, h1, h2, h3, h4, h, zib h1.2.1, fun hn => ?_⟩
 rw [h, hn]
 have hl := z01 n
 cases hb : z05 n with
 | nil => rw [hb] at hl; simp at hl; exact absurd hl.symm h1.1
 | cons c l =>
  have := digT_iff.1 (List.all_eq_true.1 h1.2.1 c (by rw [hb]; simp))
  simp only [Bool.false_eq_true, if_false, List.nil_append, List.cons_append, List.head?_cons]
  intro e; cases e; omega
theorem zm7 {a : Q} {x : Rat} {N : Nat} (ha : QV a x) (dx : Dl x N) (hN : N <= 900000) (hK : 2000000000 < K) : ∃ s, z6t K a = some s /\ RTx s x := by
 have la := ha.lens dx
 have hN1 := dx.pos
 unfold z6t
 by_cases hx : x = 0
 ·subst hx
  have := ha.num0.2 rfl
  refine ⟨⟨#[48]⟩, by rw [if_pos (by rw [beq_iff_eq]; omega)], zla zan za1 z6i z8y rfl⟩
 ·have hx0 : a.num.length ≠ 0 := fun e => hx (ha.num0.1 e)
  obtain ⟨w, w1, w2, w3⟩ := z90 (K := K) ha hK
  obtain ⟨n, n1, n2, n3, n4⟩ := zhn (K := K) (x := a.num) (by omega) hK ha.2.1
  obtain ⟨d, d1, d2, d3, d4⟩ := zhn (K := K) (x := w) (by omega) hK w2
  rw [if_neg (by rw [beq_iff_eq]; omega), n1, z0d, ha.1]
  have hm : sEq d ⟨#[49]⟩ = decide (x.den = 1) := by
   rw [z9r]
   congr 1
   rw [zia d2, d3, eq_iff_iff]; omega
  have e45 : ((⟨#[45]⟩ : zAd)).size = 1 := rfl
  have e47 : ((⟨#[47]⟩ : zAd)).size = 1 := rfl
  have b45 : z05 (⟨#[45]⟩ : zAd) = [45] := rfl
  have b47 : z05 (⟨#[47]⟩ : zAd) = [47] := rfl
  obtain ⟨m, m1, m2, m3⟩ : ∃ m, (if decide (x.num < 0) = true then (if ((⟨#[45]⟩ : zAd)).size + (n).size <= 4611686018427387904 then some ((⟨#[45]⟩ : zAd) ++ n) else none) else some n) = some m /\ z05 m = (if decide (x.num < 0) = true then [45] else []) ++ z05 n /\ m.size <= n.size + 1 := by
   by_cases c : x.num < 0
   ·refine ⟨(⟨#[45]⟩ : zAd) ++ n, ?_, ?_, ?_⟩
    ·rw [decide_eq_true c, if_pos rfl, if_pos (by omega)]
    ·rw [decide_eq_true c, z0u, b45]; rfl
    ·rw [<- z01, z0u, b45, List.length_append, z01]; simp; omega
   ·exact ⟨n, by rw [decide_eq_false c]; rfl, by rw [decide_eq_false c]; rfl, by omega⟩
  rw [m1, z0d, tu1a, w1, z0d, d1, z0d, hm]
  by_cases c : x.den = 1
  ·refine ⟨m, by rw [decide_eq_true c]; rfl, zla n2 d2 n3 d3 ?_⟩
   have hdd : decide (x.den ≠ 1) = false := decide_eq_false (fun h => h c)
   rw [m2, hdd]; simp
  ·have hsd : ((⟨#[47]⟩ : zAd) ++ d).size = d.size + 1 := by rw [<- z01, z0u, b47, List.length_append, z01]; simp; omega
   refine ⟨m ++ ((⟨#[47]⟩ : zAd) ++ d), ?_, zla n2 d2 n3 d3 ?_⟩
   ·rw [decide_eq_false c]
    simp only [Bool.not_false, if_true]
    rw [if_pos (by omega), if_pos (by omega), z0d, tu1a]
   ·have hdd : decide (x.den ≠ 1) = true := decide_eq_true c
    rw [z0u, z0u, m2, b47, hdd]; simp
theorem zfg {l : List Int} {n : Nat} (hl : l.length <= 1000000) (hK : 2000000000 < K) (h : NumN n l) : ∃ k : Nat, z35 K l = some (k : Int) /\ (k <= 2000 ↔ n < 10 ^ 2000) := by
 obtain ⟨t, t1, t2, t3, t4⟩ := zhn hl hK h
 refine ⟨t.size, by unfold z35; rw [t1, z0d], fun h => zdu (N := 2000) t2.2.1 t3 h, fun h => ?_⟩
 refine Nat.not_lt.1 fun hlt => ?_
 have g1 := zc2 t2 (by omega)
 rw [t3] at g1
 have g2 : (10 : Int) ^ 2000 <= 10 ^ (t.size - 1) := z6h (by omega) (by omega)
 have g3 := z7l 2000
 have g4 : (n : Int) < ((10 ^ 2000 : Nat) : Int) := Int.ofNat_lt.2 h
 rw [g3] at g4
 exact absurd (Int.lt_of_lt_of_le g4 (Int.le_trans g2 g1)) (Int.lt_irrefl _)
theorem zm8 {a : Q} {x : Rat} {N : Nat} (ha : QV a x) (dx : Dl x N) (hN : N <= 900000) (hK : 2000000000 < K) : (Dl x 2000 -> z6s K a = some 0) /\ (¬ Dl x 2000 -> z6s K a = some 2) := by
 have la := ha.lens dx
 obtain ⟨k, k1, k2⟩ := zfg (K := K) (l := a.num) (by omega) hK ha.2.1
 obtain ⟨m, m1, m2⟩ : ∃ m : Nat, z35 K a.den = some (m : Int) /\ (m <= 2000 ↔ x.den < 10 ^ 2000) := by
  rcases ha.2.2 with h | ⟨h, h2⟩
  ·exact zfg (by omega) hK h
  ·refine ⟨1, ?_, ?_⟩
   ·rw [h]; rfl
   ·rw [h2]; exact ⟨fun _ => zdv 2000 (by omega), fun _ => by decide⟩
 unfold z6s
 rw [k1, m1]
 by_cases c1 : k <= 2000
 ·by_cases c2 : m <= 2000
  ·have hd : Dl x 2000 := ⟨k2.1 c1, m2.1 c2⟩
   refine ⟨fun _ => ?_, fun h => absurd hd h⟩
   have e1 : decide ((k : Int) > 2000) = false := decide_eq_false (by omega)
   have e2 : decide ((m : Int) > 2000) = false := decide_eq_false (by omega)
   rw [z0d, e1]
   simp only [Bool.false_eq_true, if_false, z0d, e2, tu1a]
  ·refine ⟨fun h => absurd (m2.2 h.2) c2, fun _ => ?_⟩
   have e1 : decide ((k : Int) > 2000) = false := decide_eq_false (by omega)
   have e2 : decide ((m : Int) > 2000) = true := decide_eq_true (by omega)
   rw [z0d, e1]
   simp only [Bool.false_eq_true, if_false, z0d, e2, tu1a, if_true]
 ·refine ⟨fun h => absurd (k2.2 h.1) c1, fun _ => ?_⟩
  have e1 : decide ((k : Int) > 2000) = true := decide_eq_true (by omega)
  rw [z0d, e1]
  simp only [z0d, tu1a, if_true]
theorem zcr {neg : Bool} {n d : zAd} {N D : Nat} (hD : D ≠ 0) (cn : CanT n) (cd : CanT d) (hn : numT n = N) (hd : numT d = D) (ln : n.size <= 400000) (ld : d.size <= 400000) (hK : 2000000000 < K) :
  ∃ s, z7g K neg n d = some s /\ RTx s (mkRat (sgn neg N) D) := by
 unfold z7g
 by_cases h0 : N = 0
 ·subst h0
  have : n = ⟨#[48]⟩ := (zbd cn).1 (by omega)
  subst this
  have e : mkRat (sgn neg 0) D = 0 := by
   have : sgn neg 0 = 0 := by cases neg <;> rfl
   rw [this, Rat.zero_mkRat]
  refine ⟨⟨#[48]⟩, by rw [zl1]; rfl, ?_⟩
  rw [e]
  exact zla zan za1 z6i z8y rfl
 ·have e0 : sEq n ⟨#[48]⟩ = false := zmx (fun e => by rw [e, z6i] at hn; omega)
  obtain ⟨g, g1, g2, g3⟩ := zk8 (K := K) (x := n) (y := d) ln ld hK cn cd hn hd
  have gp : 0 < Nat.gcd N D := Nat.gcd_pos_of_pos_left D (by omega)
  have gl := z3x cn g2 (by rw [g3, hn]; have := Nat.gcd_le_left (m := N) D (by omega); omega)
  obtain ⟨q1, r1, a1, a2, a3, a4, a5⟩ := zfa (K := K) (a := n) (b := g) ln (by omega) hK cn g2 (by omega)
  obtain ⟨q2, r2, b1, b2, b3, b4, b5⟩ := zfa (K := K) (a := d) (b := g) ld (by omega) hK cd g2 (by omega)
  rw [hn, g3] at a4
  rw [hd, g3] at b4
  have m1 := zjr neg N D hD
  have m2 := zjs neg N D hD
  have m3 := zl2 neg N D hD h0
  have f1 : numT q1 = ((mkRat (sgn neg N) D).num.natAbs : Nat) := by rw [m1, a4]; simp
  have f2 : numT q2 = ((mkRat (sgn neg N) D).den : Nat) := by rw [m2, b4]; simp
  generalize mkRat (sgn neg N) D = x at *
  rw [e0]
  simp only [Bool.false_eq_true, if_false]
  rw [g1, z0d, a1, z0d, b1, z0d]
  have hm : sEq q2 ⟨#[49]⟩ = decide (x.den = 1) := by
   rw [z9r]
   congr 1
   rw [zia b2, f2, eq_iff_iff]; omega
  have l1 := z3x cn a2 (by rw [a4, hn]; exact Int.ediv_le_self _ (by omega))
  have l2 := z3x cd b2 (by rw [b4, hd]; exact Int.ediv_le_self _ (by omega))
  have e45 : ((⟨#[45]⟩ : zAd)).size = 1 := rfl
  have e47 : ((⟨#[47]⟩ : zAd)).size = 1 := rfl
  have b45 : z05 (⟨#[45]⟩ : zAd) = [45] := rfl
  have b47 : z05 (⟨#[47]⟩ : zAd) = [47] := rfl
  obtain ⟨m, k1, k2, k3⟩ : ∃ m, (if neg = true then (if ((⟨#[45]⟩ : zAd)).size + (q1).size <= 4611686018427387904 then some ((⟨#[45]⟩ : zAd) ++ q1) else none) else some q1) = some m /\ z05 m = (if decide (x.num < 0) = true then [45] else []) ++ z05 q1 /\ m.size <= q1.size + 1 := by
   rw [m3]
   cases neg with
   | true =>
    refine ⟨(⟨#[45]⟩ : zAd) ++ q1, ?_, ?_, ?_⟩
    ·rw [if_pos rfl, if_pos (by omega)]
    ·rw [z0u, b45]; rfl
    ·rw [<- z01, z0u, b45, List.length_append, z01]; simp; omega
   | false => exact ⟨q1, rfl, rfl, by omega⟩
  dsimp only
  rw [k1, z0d, tu1a, hm]
  by_cases c : x.den = 1
  ·refine ⟨m, by rw [decide_eq_true c]; rfl, zla a2 b2 f1 f2 ?_⟩
   have hdd : decide (x.den ≠ 1) = false := decide_eq_false (fun h => h c)
   rw [k2, hdd]; simp
  ·have hsm : (m ++ (⟨#[47]⟩ : zAd)).size = m.size + 1 := by rw [<- z01, z0u, b47, List.length_append, z01]; simp
   refine ⟨(m ++ (⟨#[47]⟩ : zAd)) ++ q2, ?_, zla a2 b2 f1 f2 ?_⟩
   ·rw [decide_eq_false c]
    simp only [Bool.false_eq_true, if_false]
    rw [if_pos (by omega), if_pos (by omega)]
   ·have hdd : decide (x.den ≠ 1) = true := decide_eq_true c
    rw [z0u, z0u, k2, b47, hdd]; simp
theorem zap {a : zAd} {x : Rat} {N : Nat} (h : RTx a x) (dx : Dl x N) (hN : N <= 100000) (hK : 2000000000 < K) : ∃ n d, z5t K a = some (decide (x.num < 0), n, d) /\ CanT n /\ CanT d /\ numT n = (x.num.natAbs : Nat) /\ numT d = (x.den : Nat) /\ n.size <= N + 1 /\ d.size <= N + 1 := by
 have hs := h.size dx
 have h0 := h.pos
 obtain ⟨n, d, h1, h2, h3, h4, h5⟩ := h
 have hp := zjw (K := K) (by omega) h0 hK h5
 have l1 := zbg h1 h3 dx.1
 have l2 := zbg h2 h4 dx.2
 by_cases c : x.den ≠ 1
 ·rw [decide_eq_true c] at hp
  exact ⟨n, d, hp, h1, h2, h3, h4, l1, l2⟩
 ·rw [decide_eq_false c] at hp
  have e : x.den = 1 := by omega
  exact ⟨n, ⟨#[49]⟩, hp, h1, za1, h3, by rw [e]; rfl, l1, by show 1 <= N + 1; omega⟩
theorem zm9 {a b : zAd} {x y : Rat} {N : Nat} (ha : RTx a x) (hb : RTx b y) (dx : Dl x N) (dy : Dl y N) (hN : N <= 100000) (hK : 2000000000 < K) : ∃ c, z88 K a b = some c /\ RTx c (x + y) := by
 obtain ⟨n, d, p1, p2, p3, p4, p5, p6, p7⟩ := zap (K := K) ha dx hN hK
 obtain ⟨m, e, q1, q2, q3, q4, q5, q6, q7⟩ := zap (K := K) hb dy hN hK
 obtain ⟨X, X1, X2, X3⟩ := zhs (K := K) (a := n) (b := e) (by omega) (by omega) hK p2.2.1 q3.2.1
 obtain ⟨Y, Y1, Y2, Y3⟩ := zhs (K := K) (a := m) (b := d) (by omega) (by omega) hK q2.2.1 p3.2.1
 obtain ⟨D, D1, D2, D3⟩ := zhs (K := K) (a := d) (b := e) (by omega) (by omega) hK p3.2.1 q3.2.1
 rw [p4, q5, <- Int.natCast_mul] at X3
 rw [q4, p5, <- Int.natCast_mul] at Y3
 rw [p5, q5, <- Int.natCast_mul] at D3
 have hD : x.den * y.den ≠ 0 := Nat.mul_ne_zero x.den_nz y.den_nz
 have lX := zbg X2 X3 (z43 dx.1 dy.2)
 have lY := zbg Y2 Y3 (z43 dy.1 dx.2)
 have lD := zbg D2 D3 (z43 dx.2 dy.2)
 unfold z88
 rw [p1, z0d, q1, z0d]
 dsimp only
 rw [X1, z0d, Y1, z0d, D1, z0d, zi6]
 generalize x.num.natAbs * y.den = u at X3 ⊢
 generalize y.num.natAbs * x.den = v at Y3 ⊢
 generalize decide (x.num < 0) = p
 generalize decide (y.num < 0) = q
 by_cases hs : p = q
 ·obtain ⟨Z, Z1, Z2, Z3⟩ := zlv (K := K) (a := X) (b := Y) (by omega) (by omega) (by have := X2.1; omega) (by omega) X2.2.1 Y2.2.1
  rw [X3, Y3, <- Int.natCast_add] at Z3
  have lZ : Z.size <= 400000 := by
   refine Nat.not_lt.1 fun hlt => ?_
   have g1 := zc2 Z2 (by omega)
   have g2 := zbb X2.2.1
   have g3 := zbb Y2.2.1
   have g4 : (10 : Int) ^ X.size <= 10 ^ (Z.size - 2) := z6h (by omega) (by omega)
   have g5 : (10 : Int) ^ Y.size <= 10 ^ (Z.size - 2) := z6h (by omega) (by omega)
   have g6 : (10 : Int) ^ (Z.size - 1) = 10 ^ (Z.size - 2) * 10 := by rw [<- Int.pow_succ]; congr 1; omega
   rw [X3] at g2
   rw [Y3] at g3
   have g7 : (0 : Int) < 10 ^ (Z.size - 2) := Int.pow_pos (by omega)
   generalize (10 : Int) ^ (Z.size - 2) = P at *
   omega
  obtain ⟨s, s1, s2⟩ := zcr (K := K) (neg := p) (n := Z) (d := D) hD Z2 D2 Z3 D3 lZ (by omega) hK
  refine ⟨s, ?_, by rw [<- hs, <- zkc]; exact s2⟩
  rw [if_pos (by simpa using hs), Z1, z0d, s1, z0d]
 ·have hc := zk5 (K := K) X2 Y2
  rw [if_neg (by simpa using hs), hc, z0d, X3, Y3]
  by_cases hle : v <= u
  ·obtain ⟨Z, Z1, Z2, Z3⟩ := zhq (K := K) (a := X) (b := Y) (by omega) (z3x X2 Y2 (by omega)) (by have := X2.1; omega) (by omega) X2.2.1 Y2.2.1 (by omega)
   rw [X3, Y3, <- Int.natCast_sub hle] at Z3
   have lZ := z3x X2 Z2 (by omega)
   obtain ⟨s, s1, s2⟩ := zcr (K := K) (neg := p) (n := Z) (d := D) hD Z2 D2 Z3 D3 (by omega) (by omega) hK
   refine ⟨s, ?_, by rw [<- zff _ _ hs hle]; exact s2⟩
   have e : decide ((if ((u : Nat) : Int) < (v : Nat) then (-1 : Int) else if ((u : Nat) : Int) = (v : Nat) then 0 else 1) < 0) = false := by
    rw [if_neg (by omega)]; split <;> rfl
   rw [e]
   simp only [Bool.false_eq_true, if_false, z0d, tu3a, Z1, s1]
  ·obtain ⟨Z, Z1, Z2, Z3⟩ := zhq (K := K) (a := Y) (b := X) (by omega) (z3x Y2 X2 (by omega)) (by have := Y2.1; omega) (by omega) Y2.2.1 X2.2.1 (by omega)
   rw [X3, Y3, <- Int.natCast_sub (show u <= v by omega)] at Z3
   have lZ := z3x Y2 Z2 (by omega)
   obtain ⟨s, s1, s2⟩ := zcr (K := K) (neg := q) (n := Z) (d := D) hD Z2 D2 Z3 D3 (by omega) (by omega) hK
   refine ⟨s, ?_, by rw [Int.add_comm, <- zff _ _ (fun e => hs e.symm) (by omega)]; exact s2⟩
   have e : decide ((if ((u : Nat) : Int) < (v : Nat) then (-1 : Int) else if ((u : Nat) : Int) = (v : Nat) then 0 else 1) < 0) = true := by
    rw [if_pos (by omega)]; rfl
   rw [e]
   simp only [if_true, z0d, tu3a, Z1, s1]
theorem zma {a : zAd} {x : Rat} {N : Nat} (ha : RTx a x) (dx : Dl x N) (hN : N <= 100000) (hK : 2000000000 < K) : ∃ c, z85 K a = some c /\ RTx c (-x) := by
 obtain ⟨n, d, p1, p2, p3, p4, p5, p6, p7⟩ := zap (K := K) ha dx hN hK
 obtain ⟨s, s1, s2⟩ := zcr (K := K) (neg := !decide (x.num < 0)) (n := n) (d := d) x.den_nz p2 p3 p4 p5 (by omega) (by omega) hK
 refine ⟨s, by unfold z85; rw [p1, z0d, s1, z0d], ?_⟩
 have e : mkRat (sgn (!decide (x.num < 0)) x.num.natAbs) x.den = -x := by
  have e1 : sgn (!decide (x.num < 0)) x.num.natAbs = -x.num := by
   unfold sgn; by_cases h : x.num < 0 <;> simp [h] <;> omega
  rw [e1, <- Rat.neg_mkRat, Rat.mkRat_self]
 rw [<- e]; exact s2
theorem zmb {a b : zAd} {x y : Rat} {N : Nat} (ha : RTx a x) (hb : RTx b y) (dx : Dl x N) (dy : Dl y N) (hN : N <= 100000) (hK : 2000000000 < K) : ∃ c, z89 K a b = some c /\ RTx c (x - y) := by
 obtain ⟨m, m1, m2⟩ := zma (K := K) hb dy hN hK
 obtain ⟨c, c1, c2⟩ := zm9 (K := K) ha m2 dx dy.neg hN hK
 exact ⟨c, by unfold z89; rw [m1, z0d, c1, z0d], by rw [Rat.sub_eq_add_neg]; exact c2⟩
theorem zic {a : zAd} {x : Rat} {N : Nat} (ha : RTx a x) (dx : Dl x N) (hN : N <= 100000) (hK : 2000000000 < K) : z54 K a = some (if x = 0 then 0 else if x.num < 0 then -1 else 1) := by
 obtain ⟨n, d, p1, p2, p3, p4, p5, p6, p7⟩ := zap (K := K) ha dx hN hK
 have e : sEq n ⟨#[48]⟩ = decide (x = 0) := by
  rw [z9r]
  congr 1
  rw [<- zbd p2, p4, <- Rat.num_eq_zero, eq_iff_iff]; omega
 unfold z54
 rw [p1, z0d]
 dsimp only
 rw [e]
 by_cases c : x = 0
 ·simp [c]
 ·by_cases c2 : x.num < 0 <;> simp [c, c2]
end Go.Am.Tryz
/- Plain law: errors of lists; operations on two texts. -/
namespace Go.Am.Tryz
open Go Go.Am Go.Proofs
variable {K : Nat}
noncomputable def ratE (s : zAd) : Int := @dite Int (∃ e, ∃ neg n many d, Sp s neg n many d /\ ratS neg n many d = e) (Classical.propDecidable _) (fun h => h.choose) fun _ => 0
theorem zid {s n d : zAd} {neg many : Bool} (h : Sp s neg n many d) : ratE s = ratS neg n many d := by
 have hex : ∃ e, ∃ neg n many d, Sp s neg n many d /\ ratS neg n many d = e := ⟨_, _, _, _, _, h, rfl⟩
 unfold ratE
 rw [dif_pos hex]
 obtain ⟨neg', n', many', d', h1, h2⟩ := hex.choose_spec
 rw [<- h2]
 obtain ⟨rfl, rfl, rfl, h3⟩ := h.uniq h1
 cases many with
 | true => rw [h3 rfl]
 | false => unfold ratS; simp
theorem z62 {s : zAd} (hs : s.size <= 1048576) (hK : 2000000000 < K) : z3u K s = some (ratE s) := by
 obtain ⟨s1, neg, n, d, many, _, _, h, _⟩ := zbf K hs
 rw [zid h]; exact zjt hs hK h
theorem zcs {s : zAd} (hs : s.size <= 1048576) (hK : 2000000000 < K) : z3a K s = some (ratE s) := by
 obtain ⟨s1, neg, n, d, many, _, _, h, _⟩ := zbf K hs
 rw [zid h]; exact zjv hs hK h
theorem zaq {s : zAd} (hs : s.size <= 1048576) (h : ratE s = 0) : ∃ x, RTx s x /\ Dl x 2000 := by
 obtain ⟨s1, neg, n, d, many, _, _, hp, _⟩ := zbf 0 hs
 rw [zid hp] at h
 exact znx hp h
noncomputable def z72 : List zAd -> Int
 | [] => 0
 | s :: l => if ratE s ≠ 0 then ratE s else z72 l
theorem zc4 : ∀ {l : List zAd}, z72 l = 0 -> ∀ s ∈ l, ratE s = 0
 | [], _, s, hs => by simp at hs
 | t :: l, h, s, hs => by
  rw [z72] at h
  by_cases c : ratE t = 0
  ·rw [if_neg (by simpa using c)] at h
   rcases List.mem_cons.1 hs with rfl | hs
   ·exact c
   ·exact zc4 h s hs
  ·rw [if_pos c] at h; exact absurd h c
theorem zc5 {l : List zAd} {i : Nat} (h : i < l.length) : z72 (l.drop i) = if ratE l[i] ≠ 0 then ratE l[i] else z72 (l.drop (i + 1)) := by
 rw [List.drop_eq_getElem_cons h, z72]
theorem zfz {l : List zAd} (hl : l.length <= 1048576) (hs : ∀ s ∈ l, s.size <= 1048576) (hK : 2000000000 < K) : z3v K l = some (z72 l) := by
 have key : ∃ r : Int ⊕ Unit, z18 K l K 0 = some r /\ ((r = .inr () /\ z72 l = 0) \/ r = .inl (z72 l)) := by
  refine z9t (fun k (s : Int) => z18 K l k s) (fun s => ∃ i : Nat, s = i /\ i <= l.length /\ z72 l = z72 (l.drop i)) (fun s => (l.length - s : Int).toNat) _ ?_ (0 : Int) (by omega) ⟨0, rfl, by omega, by simp⟩
  rintro k _ ⟨i, rfl, h0, h1⟩
  by_cases hi : i < l.length
  ·have hx : idx l (i : Int) = some l[i] := z3y (zAh hi)
   have hc := z62 (K := K) (s := l[i]) (hs _ (List.getElem_mem hi)) hK
   rw [zc5 hi] at h1
   by_cases c : ratE l[i] = 0
   ·right
    rw [if_neg (by simpa using c)] at h1
    refine ⟨(i : Int) + 1, ?_, by omega, i + 1, rfl, by omega, h1⟩
    rw [z18, if_pos (decide_eq_true (by omega)), hx, z0d, hc, z0d, if_neg (by simpa using c), k64 (by omega) (by omega)]
   ·left
    rw [if_pos c] at h1
    refine ⟨.inl (ratE l[i]), ?_, .inr (by rw [h1])⟩
    rw [z18, if_pos (decide_eq_true (by omega)), hx, z0d, hc, z0d, if_pos (by simpa using c)]
  ·left
   have : i = l.length := by omega
   subst this
   rw [List.drop_eq_nil_of_le (Nat.le_refl _)] at h1
   exact ⟨.inr (), by rw [z18, if_neg (by simp)], .inl ⟨rfl, h1⟩⟩
 obtain ⟨r, h1, h2⟩ := key
 unfold z3v
 rw [h1]
 rcases h2 with ⟨rfl, h2⟩ | rfl
 ·rw [zjb, tu0a, h2]
 ·rw [zhh, tu1a]
theorem zjx {l : List zAd} (hl : l.length <= 1048576) (hs : ∀ s ∈ l, s.size <= 1048576) (hK : 2000000000 < K) : z5g K l = some (z72 l) := by
 have key : ∃ r : Int ⊕ Unit, z1j K l K 0 = some r /\ ((r = .inr () /\ z72 l = 0) \/ r = .inl (z72 l)) := by
  refine z9t (fun k (s : Int) => z1j K l k s) (fun s => ∃ i : Nat, s = i /\ i <= l.length /\ z72 l = z72 (l.drop i)) (fun s => (l.length - s : Int).toNat) _ ?_ (0 : Int) (by omega) ⟨0, rfl, by omega, by simp⟩
  rintro k _ ⟨i, rfl, h0, h1⟩
  by_cases hi : i < l.length
  ·have hx : idx l (i : Int) = some l[i] := z3y (zAh hi)
   have hc := zcs (K := K) (s := l[i]) (hs _ (List.getElem_mem hi)) hK
   rw [zc5 hi] at h1
   by_cases c : ratE l[i] = 0
   ·right
    rw [if_neg (by simpa using c)] at h1
    refine ⟨(i : Int) + 1, ?_, by omega, i + 1, rfl, by omega, h1⟩
    rw [z1j, if_pos (decide_eq_true (by omega)), hx, z0d, hc, z0d, if_neg (by simpa using c), k64 (by omega) (by omega)]
   ·left
    rw [if_pos c] at h1
    refine ⟨.inl (ratE l[i]), ?_, .inr (by rw [h1])⟩
    rw [z1j, if_pos (decide_eq_true (by omega)), hx, z0d, hc, z0d, if_pos (by simpa using c)]
  ·left
   have : i = l.length := by omega
   subst this
   rw [List.drop_eq_nil_of_le (Nat.le_refl _)] at h1
   exact ⟨.inr (), by rw [z1j, if_neg (by simp)], .inl ⟨rfl, h1⟩⟩
 obtain ⟨r, h1, h2⟩ := key
 unfold z5g
 rw [h1]
 rcases h2 with ⟨rfl, h2⟩ | rfl
 ·rw [zjb, tu0a, h2]
 ·rw [zhh, tu1a]
end Go.Am.Tryz
/- Plain law: whole numbers and their texts. -/
namespace Go.Am.Tryz
open Go Go.Am Go.Proofs
variable {K : Nat}
theorem zmc (x y : Rat) : (x - y).num < 0 ↔ x < y := by
 rw [<- Int.not_le, Rat.num_nonneg]
 grind
theorem zmd (x y : Rat) : x - y = 0 ↔ x = y := by grind
theorem zny : (1000000000 : Int) ^ 3 = 1000000000000000000000000000 := by decide
theorem kq1 {p V n m q r : Int} (h : V + p * m = n) (hm : r + 1000000000 * q = m) : V + p * r + p * 1000000000 * q = n := by subst hm; grind
theorem zie {n : Int} (h0 : 0 <= n) (h1 : n <= 9223372036854775808) (hK : 2000000000 < K) (h2 : n <= 9223372036854775807) : ∃ l, z4q K n = some l /\ NumN n l /\ l.length <= 3 := by
 have key : ∃ l, z3f K K [] n = some l /\ NumN n l /\ l.length <= 3 := by
  obtain ⟨f, hf⟩ : ∃ f : Nat, f = 4 := ⟨4, rfl⟩
  refine z9t (fun k (s : List Int × Int) => z3f K k s.1 s.2) (fun s => DigB 1000000000 s.1 /\ 0 <= s.2 /\ s.2 <= n /\ valB 1000000000 s.1 + 1000000000 ^ s.1.length * s.2 = n /\ (s.2 > 0 \/ CanB 1000000000 s.1) /\ s.1.length <= 3) (fun s => 4 - s.1.length) _ ?_ (([], n) : List Int × Int) (by simp; omega) ⟨.nil _, h0, Int.le_refl _, by simp [valB], .inr ⟨.nil _, by simp⟩, by simp⟩
  rintro k ⟨o, m⟩ ⟨a1, a2, a3, a4, a5, a6⟩
  dsimp only at a1 a2 a3 a4 a5 a6 ⊢
  by_cases hm : m > 0
  ·right
   have hv := z13 (B := 1000000000) (by omega) o a1
   have hlen : o.length <= 2 := by
    refine Nat.not_lt.1 fun hlt => ?_
    have g1 : (1000000000 : Int) ^ 3 <= 1000000000 ^ o.length := z6h (by omega) (by omega)
    have g2 := z3j (show (0:Int) <= 1000000000 ^ o.length from Int.le_of_lt (Int.pow_pos (by omega))) (show 1 <= m by omega)
    rw [zny] at g1
    omega
   have hdm := Int.emod_add_mul_ediv m 1000000000
   refine ⟨(o ++ [m % 1000000000], m / 1000000000), ?_, by simp; omega, a1.snoc (by omega), by dsimp only; omega, by dsimp only; omega, ?_, ?_, by simp; omega⟩
   ·rw [z3f]
    simp (discharger := omega) only [runL]
   ·dsimp only
    rw [z7k, List.length_append, List.length_singleton, Int.pow_succ]
    exact kq1 a4 hdm
   ·dsimp only
    by_cases hq : m / 1000000000 > 0
    ·exact .inl hq
    ·refine .inr ⟨a1.snoc (by omega), ?_⟩
     rw [List.getLast?_append]
     simp; omega
  ·left
   have : m = 0 := by omega
   subst this
   rw [Int.mul_zero, Int.add_zero] at a4
   refine ⟨o, by rw [z3f]; simp (discharger := omega) only [runL], ⟨a5.resolve_left (by omega), a4⟩, a6⟩
 obtain ⟨l, l1, l2⟩ := key
 exact ⟨l, by unfold z4q; rw [l1]; rfl, l2⟩
end Go.Am.Tryz
/- Plain law: comparisons of rational numbers. -/
namespace Go.Am.Tryz
open Go Go.Am Go.Proofs
variable {K : Nat}
theorem zdw {a b : Q} {x y : Rat} {N : Nat} (ha : QV a x) (hb : QV b y) (dx : Dl x N) (dy : Dl y N) (hN : N <= 300000) (hK : 2000000000 < K) : z12 K a b = some (if x = y then 0 else if x < y then -1 else 1) := by
 obtain ⟨d, d1, d2⟩ := zi8 (K := K) ha hb dx dy hN hK
 unfold z12
 rw [d1, z0d, zi9 d2, z0d]
 simp only [zmd, zmc]
theorem zif {a b : zAd} {x y : Rat} {N : Nat} (ha : RTx a x) (hb : RTx b y) (dx : Dl x N) (dy : Dl y N) (hN : N <= 40000) (hK : 2000000000 < K) : z2w K a b = some (if x = y then 0 else if x < y then -1 else 1) := by
 obtain ⟨c, c1, c2⟩ := zmb (K := K) ha hb dx dy (by omega) hK
 have := zic (K := K) c2 (dx.sub dy) (by omega) hK
 unfold z2w
 rw [c1, z0d, this, z0d]
 simp only [zmd, zmc]
def RTs (l : List zAd) (f : Nat -> Rat) : Prop := ∀ i (h : i < l.length), RTx l[i] (f i)
theorem zn0 {l : List zAd} (hs : ∀ s ∈ l, s.size <= 1048576) (h0 : z72 l = 0) : ∃ f, RTs l f /\ ∀ i, i < l.length -> Dl (f i) 2000 := by
 classical
 have hz := zc4 h0
 have hex : ∀ i (h : i < l.length), ∃ x, RTx l[i] x /\ Dl x 2000 := fun i h => zaq (hs _ (List.getElem_mem h)) (hz _ (List.getElem_mem h))
 refine ⟨fun i => if h : i < l.length then (hex i h).choose else 0, fun i h => ?_, fun i h => ?_⟩
 ·dsimp only; rw [dif_pos h]; exact (hex i h).choose_spec.1
 ·dsimp only; rw [dif_pos h]; exact (hex i h).choose_spec.2
end Go.Am.Tryz
/- Plain law: vectors and matrices of rational texts: their checks, their numbers, products and sums. -/
namespace Go.Am.Tryz
open Go Go.Am Go.Proofs
variable {K : Nat}
def resF {R : Type} : Option R -> R ⊕ Unit
 | some r => .inl r
 | none => .inr ()
theorem zej {α R : Type} {l : List α} {L : Nat -> Int -> Option (R ⊕ Unit)} (p : α -> Option R) (h0 : ∀ k, L (k + 1) (l.length : Int) = some (.inr ()))
  (h1 : ∀ k i (hi : i < l.length), L (k + 1) (i : Int) = match p l[i] with | some r => some (.inl r) | none => L k ((i + 1 : Nat) : Int)) (hK : l.length < K) :
  L K 0 = some (resF (l.findSome? p)) := by
 have key : ∀ n i k, i + n = l.length -> n < k -> L k (i : Int) = some (resF ((l.drop i).findSome? p)) := by
  intro n
  induction n with
  | zero =>
   intro i k hi hk
   obtain ⟨k, rfl⟩ : ∃ m, k = m + 1 := ⟨k - 1, by omega⟩
   obtain rfl : i = l.length := by omega
   rw [h0, List.drop_length]
   rfl
  | succ n ih =>
   intro i k hi hk
   obtain ⟨k, rfl⟩ : ∃ m, k = m + 1 := ⟨k - 1, by omega⟩
   rw [h1 k i (by omega), List.drop_eq_getElem_cons (by omega), List.findSome?_cons]
   cases hp : p l[i] with
   | some r => rfl
   | none => exact ih (i + 1) k (by omega) (by omega)
 have := key l.length 0 K (by omega) hK
 simpa using this
def Fam {α : Type} (P : Nat -> α -> Prop) (n : Nat) (l : List α) : Prop := l.length = n /\ ∀ j (h : j < l.length), P j l[j]
theorem Fam.nil {α : Type} {P : Nat -> α -> Prop} : Fam P 0 [] := ⟨rfl, fun j h => by simp at h⟩
theorem Fam.snoc {α : Type} {P : Nat -> α -> Prop} {n : Nat} {l : List α} {y : α} (h : Fam P n l) (hy : P n y) : Fam P (n + 1) (l ++ [y]) := by
 refine ⟨by simp [h.1], fun j hj => ?_⟩
 by_cases c : j < l.length
 ·rw [List.getElem_append_left c]; exact h.2 j c
 ·have : j = l.length := by simp at hj; omega
  subst this
  rw [List.getElem_append_right (by omega)]
  simp only [Nat.sub_self, List.getElem_cons_zero]
  rw [h.1]; exact hy
theorem Fam.idx {α : Type} {P : Nat -> α -> Prop} {n j : Nat} {l : List α} (h : Fam P n l) (hj : j < n) : ∃ y, idx l (j : Int) = some y /\ P j y := by
 have hl : j < l.length := by rw [h.1]; exact hj
 exact ⟨l[j], z3y (zAh hl), h.2 j hl⟩
theorem Fam.mono {α : Type} {P Q : Nat -> α -> Prop} {n : Nat} {l : List α} (h : Fam P n l) (hPQ : ∀ j y, j < n -> P j y -> Q j y) : Fam Q n l :=
 ⟨h.1, fun j hj => hPQ j _ (by rw [<- h.1]; exact hj) (h.2 j hj)⟩
theorem Fam.uniq {α : Type} {P : Nat -> α -> Prop} {n : Nat} {l m : List α} (hu : ∀ j x y, P j x -> P j y -> x = y) (h : Fam P n l) (k : Fam P n m) : l = m :=
 List.ext_getElem (by rw [h.1, k.1]) fun j h1 h2 => hu j _ _ (h.2 j h1) (k.2 j h2)
theorem k1 {i : Nat} (h : i <= 1048576) : z04 .i64 ((i : Int) + 1) = ((i + 1 : Nat) : Int) := by rw [k64 (by omega) (by omega)]; omega
theorem lt_d {i n : Nat} (h : i < n) : decide ((i : Int) < (n : Int)) = true := decide_eq_true (by omega)
theorem zig {R : Type} (o : Option Int) : (zbk (some (resF o)) (tu1 fun a => some a) (tu0 (some (0 : Int)))) = some (o.getD 0) := by cases o <;> rfl
theorem zl3 {l : List Int} (hl : l.length <= 1048576) (hK : 2000000000 < K) : z4i K l = some ((l.findSome? fun x => if x ≠ 0 then some x else none).getD 0) := by
 unfold z4i
 rw [zej (K := K) (l := l) (L := z3c K l) (fun x => if x ≠ 0 then some x else none) (fun k => by rw [z3c, if_neg (by simp)]) (fun k i hi => ?_) (by omega)]
 ·cases List.findSome? (fun x => if x ≠ 0 then some x else none) l <;> rfl
 ·have hx : idx l (i : Int) = some l[i] := z3y (zAh hi)
  rw [z3c, if_pos (lt_d hi), hx, z0d, k1 (by omega)]
  by_cases c : l[i] ≠ 0
  ·rw [if_pos (by simpa using c), if_pos c]
  ·rw [if_neg (by simpa using c), if_neg c]
theorem zct {a b : Int} (hK : 2000000000 < K) : z4i K [a, b] = some (if a ≠ 0 then a else b) := by
 rw [zl3 (by simp) hK]
 by_cases ha : a = 0 <;> by_cases hb : b = 0 <;> simp [ha, hb]
end Go.Am.Tryz
/- Plain law: parts of the losses' laws: resistances, points, texts told. -/
namespace Go.Am.Tryz
open Go Go.Am Go.Proofs
variable {K : Nat}
theorem zn7 {x y : Rat} : decide ((if x = y then (0 : Int) else if x < y then -1 else 1) <= 0) = decide (x <= y) := by
 by_cases c : x = y
 ·rw [if_pos c, decide_eq_true (by omega), decide_eq_true (by grind)]
 ·rw [if_neg c]
  by_cases d : x < y
  ·rw [if_pos d, decide_eq_true (by omega), decide_eq_true (by grind)]
  ·rw [if_neg d, decide_eq_false (by omega), decide_eq_false (by grind)]
theorem zn8 {x y : Rat} : decide ((if x = y then (0 : Int) else if x < y then -1 else 1) < 0) = decide (x < y) := by
 by_cases c : x = y
 ·rw [if_pos c, decide_eq_false (by omega), decide_eq_false (by grind)]
 ·rw [if_neg c]
  by_cases d : x < y
  ·rw [if_pos d, decide_eq_true (by omega), decide_eq_true d]
  ·rw [if_neg d, decide_eq_false (by omega), decide_eq_false d]
theorem zn9 {x y : Rat} : decide ((if x = y then (0 : Int) else if x < y then -1 else 1) > 0) = decide (y < x) := by
 by_cases c : x = y
 ·rw [if_pos c, decide_eq_false (by omega), decide_eq_false (by grind)]
 ·rw [if_neg c]
  by_cases d : x < y
  ·rw [if_pos d, decide_eq_false (by omega), decide_eq_false (by grind)]
  ·rw [if_neg d, decide_eq_true (by omega), decide_eq_true (by grind)]
theorem zbh {a : Q} {x : Rat} {N : Nat} (ha : QV a x) (dx : Dl x N) (hN : N <= 900000) (hK : 2000000000 < K) : (Dl x 2000 -> ∃ s, z2e K a = some (s, 0) /\ RTx s x) /\ (¬ Dl x 2000 -> z2e K a = some (⟨#[]⟩, 2)) := by
 obtain ⟨f1, f2⟩ := zm8 ha dx hN hK
 unfold z2e
 refine ⟨fun h => ?_, fun h => ?_⟩
 ·obtain ⟨s, s1, s2⟩ := zm7 ha dx hN hK
  exact ⟨s, by rw [f1 h, z0d, if_neg (by simp), s1, z0d], s2⟩
 ·rw [f2 h, z0d]; rfl
theorem zna {x : Rat} : decide ((if x = 0 then (0 : Int) else if x.num < 0 then -1 else 1) < 0) = decide (x.num < 0) := by
 by_cases c : x = 0
 ·subst c; rw [if_pos rfl]; rfl
 ·rw [if_neg c]
  by_cases d : x.num < 0
  ·rw [if_pos d, decide_eq_true (by omega), decide_eq_true d]
  ·rw [if_neg d, decide_eq_false (by omega), decide_eq_false d]
theorem zfh {r : zAd} (sr : r.size <= 1048576) (hK : 2000000000 < K) : ∃ fe, z1a K r = some fe /\ (ratE r ≠ 0 -> fe = ratE r) /\ (ratE r = 0 -> ∃ x, RTx r x /\ Dl x 2000 /\ fe = if x.num < 0 then 4 else 0) := by
 unfold z1a
 rw [z62 sr hK, z0d]
 by_cases h : ratE r = 0
 ·obtain ⟨x, x1, x2⟩ := zaq sr h
  obtain ⟨q, q1, q2⟩ := z8c (K := K) x1 sr hK
  rw [if_neg (by simpa using h), q1, z0d, zi9 q2, z0d, zna]
  refine ⟨if x.num < 0 then 4 else 0, ?_, fun k => absurd h k, fun _ => ⟨x, x1, x2, rfl⟩⟩
  by_cases c : x.num < 0
  ·rw [if_pos (decide_eq_true c), if_pos c]
  ·rw [if_neg (by simpa using c), if_neg c]
 ·exact ⟨ratE r, by rw [if_pos (by simpa using h)], fun _ => rfl, fun k => absurd k h⟩
theorem zfi {a b : Q} {x y : Rat} (ha : QV a x) (hb : QV b y) {N : Nat} (dx : Dl x N) (dy : Dl y N) (hN : N <= 100000) (hK : 2000000000 < K) : ∃ q, z3q K a b = some q /\ QV q (x * y * y) := by
 obtain ⟨q, q1, q2⟩ := z9s (K := K) ha hb dx dy (by omega) hK
 obtain ⟨p, p1, p2⟩ := z9s (K := K) (N := N + N) q2 hb (dx.mul dy) (dy.mono (by omega)) (by omega) hK
 exact ⟨p, by unfold z3q; rw [q1, z0d, p1, z0d], p2⟩
theorem zl4 {r f : zAd} {x y : Rat} {N : Nat} (sr : r.size <= 1048576) (sf : f.size <= 1048576) (er : ratE r = 0) (ef : ratE f = 0) (hx : RTx r x) (hy : RTx f y) (h0 : ¬ x.num < 0) (dx : Dl x N) (dy : Dl y N) (hN : N <= 600) (hK : 2000000000 < K) : ∃ s, z37 K r f = some (s, 0) /\ RTx s (x * y * y) := by
 obtain ⟨fe, f1, f2, f3⟩ := zfh (K := K) sr hK
 obtain ⟨x', x1, x2, x3⟩ := f3 er
 have e := hx.val x1
 subst e
 rw [if_neg h0] at x3
 subst x3
 obtain ⟨p, p1, p2⟩ := z8c (K := K) hx sr hK
 obtain ⟨q, q1, q2⟩ := z8c (K := K) hy sf hK
 obtain ⟨m, m1, m2⟩ := zfi (K := K) p2 q2 dx dy (by omega) hK
 have dm := (dx.mul dy).mul dy
 obtain ⟨s, s1, s2⟩ := (zbh (K := K) m2 dm (by omega) hK).1 (dm.mono (by omega))
 refine ⟨s, ?_, s2⟩
 unfold z37
 rw [f1, z0d, if_neg (by simp), z62 sf hK, ef, z0d, if_neg (by simp), p1, z0d, q1, z0d, m1, z0d, s1, z0d]
theorem zjy {r f : zAd} {fe : Int} (sf : f.size <= 1048576) (hf : z1a K r = some fe) (h : fe ≠ 0 \/ ratE f ≠ 0) (hK : 2000000000 < K) : z37 K r f = some (⟨#[]⟩, if fe ≠ 0 then fe else ratE f) := by
 unfold z37
 rw [hf, z0d]
 by_cases c : fe = 0
 ·have hq : ratE f ≠ 0 := h.resolve_left (fun k => k c)
  rw [if_neg (by simpa using c), z62 sf hK, z0d, if_pos (by simpa using hq), if_neg (by simpa using c)]
 ·rw [if_pos (by simpa using c), if_pos c]
end Go.Am.Tryz
/- Plain law: points of a bound; pieces. -/
namespace Go.Am.Tryz
open Go Go.Am Go.Proofs
variable {K : Nat}
theorem zg0 {l : List zAd} (hl : l.length <= 1048576) (hs : ∀ s ∈ l, s.size <= 12) (hK : 2000000000 < K) :
  ∃ pe, z1w K l = some pe /\ z3e K l = some pe /\ (pe = 0 -> 2 <= l.length /\ l.length <= 16 /\ ∃ f, RTs l f /\ ∀ i, i < l.length -> Dl (f i) 13) := by
 have hs' : ∀ s ∈ l, s.size <= 1048576 := fun s h => by have := hs s h; omega
 unfold z1w z3e
 by_cases h1 : l.length > 16
 ·exact ⟨2, by rw [if_pos (decide_eq_true (by omega))], by rw [if_pos (decide_eq_true (by omega))], fun h => by omega⟩
 have d1 : decide ((l.length : Int) > 16) = false := decide_eq_false (by omega)
 simp only [d1, Bool.false_eq_true, if_false]
 by_cases h2 : l.length < 2
 ·exact ⟨8, by rw [if_pos (decide_eq_true (by omega))], by rw [if_pos (decide_eq_true (by omega))], fun h => by omega⟩
 have d2 : decide ((l.length : Int) < 2) = false := decide_eq_false (by omega)
 simp only [d2, Bool.false_eq_true, if_false, zfz hl hs' hK, zjx hl hs' hK, z0d]
 by_cases h3 : z72 l = 0
 ·obtain ⟨f, f1, f2⟩ := zn0 hs' h3
  have f3 : ∀ i, i < l.length -> Dl (f i) 13 := fun i hi => (f1 i hi).dl (hs _ (List.getElem_mem hi))
  have d3 : (z72 l != 0) = false := by simpa using h3
  simp only [d3, Bool.false_eq_true, if_false]
  have A : z1v K l K 1 = some (resF ((List.range (l.length - 1)).findSome? fun i => if f (i + 1) <= f i then some (3 : Int) else none)) := by
   have := zej (K := K) (l := List.range (l.length - 1)) (L := fun k i => z1v K l k (i + 1)) (fun i => if f (i + 1) <= f i then some (3 : Int) else none)
    (fun k => by rw [List.length_range, show (((l.length - 1 : Nat) : Int) + 1) = (l.length : Int) by omega, z1v, if_neg (by simp)])
    (fun k i hi => by
     rw [List.length_range] at hi
     have hx : idx l ((i + 1 : Nat) : Int) = some l[i + 1] := z3y (zAh (by omega))
     have hy : idx l (i : Int) = some l[i] := z3y (zAh (by omega))
     obtain ⟨p, p1, p2⟩ := z8c (K := K) (f1 (i + 1) (by omega)) (hs' _ (List.getElem_mem _)) hK
     obtain ⟨q, q1, q2⟩ := z8c (K := K) (f1 i (by omega)) (hs' _ (List.getElem_mem _)) hK
     have hc := zdw (K := K) p2 q2 (f3 (i + 1) (by omega)) (f3 i (by omega)) (by omega) hK
     rw [show ((i : Int) + 1) = ((i + 1 : Nat) : Int) by omega, z1v, if_pos (lt_d (by omega)), hx, z0d, p1, z0d, show z04 .i64 (((i + 1 : Nat) : Int) - 1) = (i : Int) by rw [k64 (by omega) (by omega)]; omega, hy, z0d, q1, z0d, hc, z0d, zn7, k64 (by omega) (by omega), List.getElem_range]
     by_cases c : f (i + 1) <= f i
     ·rw [if_pos (decide_eq_true c), if_pos c]
     ·rw [if_neg (by simpa using c), if_neg c])
    (by simp; omega)
   exact this
  have hd : lsl l 1 (l.length : Int) = some (l.drop 1) := by
   rw [lslI (by omega) (by omega) (by omega)]
   congr 1
   show (l.drop 1).take ((l.length : Int).toNat - 1) = l.drop 1
   rw [List.take_of_length_le (by simp)]
  have B : z0z K l (l.drop 1) K 0 = some (resF ((List.range (l.length - 1)).findSome? fun i => if f (i + 1) <= f i then some (3 : Int) else none)) := by
   refine zej (K := K) (l := List.range (l.length - 1)) (L := z0z K l (l.drop 1)) (fun i => if f (i + 1) <= f i then some (3 : Int) else none)
    (fun k => by rw [List.length_range, z0z, List.length_drop, if_neg (by simp)])
    (fun k i hi => ?_) (by simp; omega)
   rw [List.length_range] at hi
   have hx : idx (l.drop 1) (i : Int) = some l[i + 1] := z3y (by rw [List.getElem?_drop, zAh (by omega)]; simp [Nat.add_comm])
   have hy : idx l (i : Int) = some l[i] := z3y (zAh (by omega))
   have hc := zif (K := K) (f1 (i + 1) (by omega)) (f1 i (by omega)) (f3 (i + 1) (by omega)) (f3 i (by omega)) (by omega) hK
   rw [z0z, List.length_drop, if_pos (lt_d (by omega)), hx, z0d, hy, z0d, hc, z0d, zn7, k1 (by omega), List.getElem_range]
   by_cases c : f (i + 1) <= f i
   ·rw [if_pos (decide_eq_true c), if_pos c]
   ·rw [if_neg (by simpa using c), if_neg c]
  simp only [A, hd, z0d, B]
  exact ⟨_, zig (R := Int) _, zig (R := Int) _, fun _ => ⟨by omega, by omega, f, f1, f3⟩⟩
 ·exact ⟨z72 l, by rw [if_pos (by simpa using h3)], by rw [if_pos (by simpa using h3)], fun h => absurd h h3⟩
theorem zih {r : zAd} {l : List zAd} {fe pe : Int} (hf : z1a K r = some fe) (hp : z1w K l = some pe) : z50 K r l = some (if fe ≠ 0 then fe else pe) := by
 unfold z50
 rw [hf, z0d, hp, z0d]
 by_cases c : fe = 0
 ·rw [if_neg (by simpa using c), if_neg (by simpa using c)]
 ·rw [if_pos (by simpa using c), if_pos c]
theorem zl5 {a b : Q} {x y : Rat} (ha : QV a x) (hb : QV b y) (dx : Dl x 200) (dy : Dl y 200) (hK : 2000000000 < K) : ∃ p, z6c K a b = some (p, 0) := by
 obtain ⟨s, s1, s2⟩ := (zbh (K := K) ha dx (by omega) hK).1 (dx.mono (by omega))
 obtain ⟨t, t1, t2⟩ := (zbh (K := K) hb dy (by omega) hK).1 (dy.mono (by omega))
 exact ⟨⟨s, t⟩, by unfold z6c; rw [s1, z0d, if_neg (by simp), t1, z0d, if_neg (by simp)]⟩
theorem zg1 {l : List zAd} {f : Nat -> Rat} {by_ : Q} {x : Rat} {d : Nat} (hl : l.length <= 16) (hd : d <= 1) (hs : ∀ s ∈ l, s.size <= 12) (hf : RTs l f) (df : ∀ i, i < l.length -> Dl (f i) 13) (hb : QV by_ x) (dx : Dl x 13) (hK : 2000000000 < K) : ∃ r, z1i K l (d : Int) by_ K [] 0 = some (.inr r) := by
 have hs' : ∀ s ∈ l, s.size <= 1048576 := fun s h => by have := hs s h; omega
 have key : ∃ r : (List LossPiece × Int) ⊕ (List LossPiece), z1i K l (d : Int) by_ K [] 0 = some r /\ ∃ q, r = .inr q := by
  refine z9t (fun k (s : List LossPiece × Int) => z1i K l (d : Int) by_ k s.1 s.2) (fun s => ∃ i : Nat, s.2 = i /\ i <= l.length /\ s.1.length = i) (fun s => (l.length + 1 - s.2 : Int).toNat) _ ?_ (([], 0) : List LossPiece × Int) (by dsimp only; omega) ⟨0, rfl, by omega, rfl⟩
  rintro k ⟨out, _⟩ ⟨i, rfl, h0, h1⟩
  dsimp only at h1 ⊢
  have e1 : z04 .i64 ((i : Int) + (d : Int)) = ((i + d : Nat) : Int) := by rw [k64 (by omega) (by omega)]; omega
  by_cases hi : i + d < l.length
  ·right
   have hx : idx l (i : Int) = some l[i] := z3y (zAh (by omega))
   have hy : idx l ((i + d : Nat) : Int) = some l[i + d] := z3y (zAh (by omega))
   obtain ⟨p, p1, p2⟩ := z8c (K := K) (hf i (by omega)) (hs' _ (List.getElem_mem _)) hK
   obtain ⟨q, q1, q2⟩ := z8c (K := K) (hf (i + d) (by omega)) (hs' _ (List.getElem_mem _)) hK
   have dp := df i (by omega)
   have dq := df (i + d) (by omega)
   obtain ⟨a, a1, a2⟩ := z9s (K := K) hb p2 dx dp (by omega) hK
   obtain ⟨b, b1, b2⟩ := z9s (K := K) (N := 26) a2 q2 (dx.mul dp) (dq.mono (by omega)) (by omega) hK
   obtain ⟨c, c1, c2⟩ := zke (K := K) b2
   obtain ⟨e, e1', e2⟩ := zi7 (K := K) p2 q2 dp dq (by omega) hK
   obtain ⟨g, g1, g2⟩ := z9s (K := K) (N := 27) hb e2 (dx.mono (by omega)) (dp.add dq) (by omega) hK
   obtain ⟨t, t1⟩ := zl5 (K := K) c2 g2 (((dx.mul dp).mul dq).neg.mono (by omega)) ((dx.mul (dp.add dq)).mono (by omega)) hK
   refine ⟨(out ++ [t], (i : Int) + 1), ?_, by dsimp only; omega, i + 1, rfl, by omega, by simp [h1]⟩
   rw [z1i, e1, if_pos (lt_d hi), hx, z0d, p1, z0d, hy, z0d, q1, z0d, a1, z0d, b1, z0d, c1, z0d, e1', z0d, g1, z0d, t1, z0d, if_neg (by simp), if_pos (by simp; omega), k64 (by omega) (by omega)]
  ·left
   exact ⟨.inr out, by rw [z1i, e1, if_neg (by simp; omega)], out, rfl⟩
 obtain ⟨_, r1, q, rfl⟩ := key
 exact ⟨q, r1⟩
theorem zfj {r : zAd} {l : List zAd} {fe pe : Int} {d : Nat} (hd : d <= 1) (sr : r.size <= 12) (hs : ∀ s ∈ l, s.size <= 12) (hf : z1a K r = some fe) (hp : z1w K l = some pe) (h0 : fe = 0 -> pe = 0 -> (∃ x, RTx r x /\ Dl x 13) /\ l.length <= 16 /\ ∃ f, RTs l f /\ ∀ i, i < l.length -> Dl (f i) 13) (hK : 2000000000 < K) :
  ∃ q, z2z K r l (d : Int) = some (q, if fe ≠ 0 then fe else pe) := by
 unfold z2z
 rw [zih hf hp, z0d]
 by_cases c : (if fe ≠ 0 then fe else pe) = 0
 ·have cf : fe = 0 := by
   by_cases k : fe = 0
   ·exact k
   ·rw [if_pos k] at c; exact absurd c k
  have cp : pe = 0 := by rw [if_neg (by simpa using cf)] at c; exact c
  obtain ⟨⟨x, x1, x2⟩, l1, f, f1, f2⟩ := h0 cf cp
  obtain ⟨b, b1, b2⟩ := z8c (K := K) x1 (by omega) hK
  obtain ⟨q, q1⟩ := zg1 (K := K) l1 hd hs f1 f2 b2 x2 hK
  rw [c, if_neg (by simp), b1, z0d, q1]
  exact ⟨q, rfl⟩
 ·exact ⟨[], by rw [if_pos (by simpa using c)]⟩
end Go.Am.Tryz
/- Plain law: the gap and the bounds. -/
namespace Go.Am.Tryz
open Go Go.Am Go.Proofs
variable {K : Nat}
def Fine (q : Q) : Prop := ∃ x, QV q x /\ Dl x 100
theorem Fine.zero : Fine (Q.mk false ([] : List Int) ([] : List Int)) := ⟨0, QV.zero, Dl.zero.mono (by omega)⟩
theorem Fine.cmp {a b : Q} (h : Fine a) (k : Fine b) (hK : 2000000000 < K) : ∃ c, z12 K a b = some c := by
 obtain ⟨x, x1, x2⟩ := h
 obtain ⟨y, y1, y2⟩ := k
 exact ⟨_, zdw (K := K) x1 y1 x2 y2 (by omega) hK⟩
theorem Fine.told {a : Q} (h : Fine a) (hK : 2000000000 < K) : ∃ s, z2e K a = some (s, 0) := by
 obtain ⟨x, x1, x2⟩ := h
 obtain ⟨s, s1, _⟩ := (zbh (K := K) x1 x2 (by omega) hK).1 (x2.mono (by omega))
 exact ⟨s, s1⟩
theorem zl6 {l : List zAd} {f : Nat -> Rat} (hl : l.length <= 16) (h1 : 1 <= l.length) (hs : ∀ s ∈ l, s.size <= 12) (hf : RTs l f) (df : ∀ i, i < l.length -> Dl (f i) 13) (hK : 2000000000 < K) : ∃ q, z30 K l K (Q.mk false ([] : List Int) ([] : List Int)) 1 = some q /\ ∃ m, QV q m /\ Dl m 30 := by
 have hs' : ∀ s ∈ l, s.size <= 1048576 := fun s h => by have := hs s h; omega
 refine z9t (fun k (s : Q × Int) => z30 K l k s.1 s.2) (fun s => ∃ i : Nat, s.2 = i /\ 1 <= i /\ i <= l.length /\ ∃ m, QV s.1 m /\ Dl m 30) (fun s => (l.length + 1 - s.2 : Int).toNat) _ ?_ ((⟨false, [], []⟩, 1) : Q × Int) (by dsimp only; omega) ⟨1, rfl, by omega, h1, 0, QV.zero, Dl.zero.mono (by omega)⟩
 rintro k ⟨q, _⟩ ⟨i, rfl, h2, h3, m, m1, m2⟩
 dsimp only at m1 ⊢
 by_cases hi : i < l.length
 ·right
  have hx : idx l (i : Int) = some l[i] := z3y (zAh (by omega))
  have hy : idx l ((i - 1 : Nat) : Int) = some l[i - 1] := z3y (zAh (by omega))
  have e1 : z04 .i64 ((i : Int) - 1) = ((i - 1 : Nat) : Int) := by rw [k64 (by omega) (by omega)]; omega
  obtain ⟨a, a1, a2⟩ := z8c (K := K) (hf i (by omega)) (hs' _ (List.getElem_mem _)) hK
  obtain ⟨b, b1, b2⟩ := z8c (K := K) (hf (i - 1) (by omega)) (hs' _ (List.getElem_mem _)) hK
  have da := df i (by omega)
  have db := df (i - 1) (by omega)
  obtain ⟨d, d1, d2⟩ := zi8 (K := K) a2 b2 da db (by omega) hK
  have dd := (da.sub db).mono (show 13 + 13 + 1 <= 30 by omega)
  obtain ⟨c, hc⟩ : ∃ c, z12 K d q = some c := ⟨_, zdw (K := K) d2 m1 dd m2 (by omega) hK⟩
  refine ⟨(if decide (c > 0) = true then d else q, (i : Int) + 1), ?_, by dsimp only; omega, i + 1, by dsimp only; omega, by omega, by omega, ?_⟩
  ·rw [z30, if_pos (lt_d hi), hx, z0d, a1, z0d, e1, hy, z0d, b1, z0d, d1, z0d, hc, z0d, k64 (by omega) (by omega)]
   cases decide (c > 0) <;> rfl
  ·dsimp only
   cases decide (c > 0)
   ·exact ⟨m, m1, m2⟩
   ·exact ⟨_, d2, dd⟩
 ·left
  exact ⟨q, by rw [z30, if_neg (by simp; omega)], m, m1, m2⟩
theorem zme (hK : 2000000000 < K) : ∃ q, z9k K 4 = some q /\ QV q 4 := by
 obtain ⟨a, a1, a2, _⟩ := zie (K := K) (n := 4) (by omega) (by omega) hK (by omega)
 obtain ⟨b, b1, b2, _⟩ := zie (K := K) (n := 1) (by omega) (by omega) hK (by omega)
 exact ⟨⟨false, a, b⟩, by unfold z9k; rw [if_neg (by simp), a1, z0d, b1, z0d], rfl, a2, .inl b2⟩
theorem zn1 {r : zAd} {l : List zAd} {fe pe : Int} (sr : r.size <= 12) (hs : ∀ s ∈ l, s.size <= 12) (hf : z1a K r = some fe) (hp : z1w K l = some pe) (h0 : fe = 0 -> pe = 0 -> (∃ x, RTx r x /\ Dl x 13) /\ 2 <= l.length /\ l.length <= 16 /\ ∃ f, RTs l f /\ ∀ i, i < l.length -> Dl (f i) 13) (hK : 2000000000 < K) :
  ∃ s, z6y K r l = some (s, if fe ≠ 0 then fe else pe) := by
 unfold z6y
 rw [zih hf hp, z0d]
 by_cases c : (if fe ≠ 0 then fe else pe) = 0
 ·have cf : fe = 0 := by
   by_cases k : fe = 0
   ·exact k
   ·rw [if_pos k] at c; exact absurd c k
  have cp : pe = 0 := by rw [if_neg (by simpa using cf)] at c; exact c
  obtain ⟨⟨x, x1, x2⟩, l0, l1, f, f1, f2⟩ := h0 cf cp
  obtain ⟨b, b1, b2⟩ := z8c (K := K) x1 (by omega) hK
  obtain ⟨q, q1, m, m1, m2⟩ := zl6 (K := K) l1 (by omega) hs f1 f2 hK
  obtain ⟨s, s1, s2⟩ := zfi (K := K) b2 m1 (x2.mono (show 13 <= 30 by omega)) m2 (by omega) hK
  obtain ⟨v, v1, v2⟩ := zme (K := K) hK
  have d4 : Dl (4 : Rat) 100 := ⟨by decide, by decide⟩
  have ds := ((x2.mul m2).mul m2).mono (show 13 + 30 + 30 <= 100 by omega)
  obtain ⟨w, w1, w2⟩ := zm6 (K := K) s2 v2 ds d4 (by omega) hK
  obtain ⟨t, t1, _⟩ := (zbh (K := K) w2 (ds.div d4) (by omega) hK).1 ((ds.div d4).mono (by omega))
  rw [c, if_neg (by simp), q1, z0d, tu1a, b1, z0d, s1, z0d, v1, z0d, w1, z0d, t1, z0d]
  exact ⟨t, rfl⟩
 ·exact ⟨⟨#[]⟩, by rw [if_pos (by simpa using c)]⟩
theorem zkf {a p q f : Q} {xa xp xq xf : Rat} (ha : QV a xa) (hp : QV p xp) (hq : QV q xq) (hf : QV f xf) (da : Dl xa 13) (dp : Dl xp 13) (dq : Dl xq 13) (df : Dl xf 13) (hK : 2000000000 < K) : ∃ t, z60 K a p q f = some t /\ Fine t := by
 obtain ⟨b, b1, b2⟩ := zi7 (K := K) hp hq dp dq (by omega) hK
 have db := dp.add dq
 obtain ⟨c, c1, c2⟩ := z9s (K := K) (N := 27) ha b2 (da.mono (by omega)) db (by omega) hK
 have dc := da.mul db
 obtain ⟨d, d1, d2⟩ := z9s (K := K) (N := 40) c2 hf dc (df.mono (by omega)) (by omega) hK
 have dd := dc.mul df
 obtain ⟨e, e1, e2⟩ := z9s (K := K) (N := 13) ha hp da dp (by omega) hK
 have de := da.mul dp
 obtain ⟨g, g1, g2⟩ := z9s (K := K) (N := 26) e2 hq de (dq.mono (by omega)) (by omega) hK
 have dg := de.mul dq
 obtain ⟨h, h1, h2⟩ := zi8 (K := K) (N := 60) d2 g2 (dd.mono (by omega)) (dg.mono (by omega)) (by omega) hK
 exact ⟨h, by unfold z60; rw [b1, z0d, c1, z0d, d1, z0d, e1, z0d, g1, z0d, h1, z0d], _, h2, (dd.sub dg).mono (by omega)⟩
theorem zg2 {l : List zAd} {f : Nat -> Rat} {b y : Q} {xb xy : Rat} (hl : l.length <= 16) (hs : ∀ s ∈ l, s.size <= 12) (hf : RTs l f) (df : ∀ i, i < l.length -> Dl (f i) 13) (hb : QV b xb) (hy : QV y xy) (db : Dl xb 13) (dy : Dl xy 13) (hK : 2000000000 < K) : ∃ r : Q × Q, z15 K l b y K (Q.mk false ([] : List Int) ([] : List Int)) (Q.mk false ([] : List Int) ([] : List Int)) 0 = some r /\ Fine r.1 /\ Fine r.2 := by
 have hs' : ∀ s ∈ l, s.size <= 1048576 := fun s h => by have := hs s h; omega
 have fy : Fine y := ⟨xy, hy, dy.mono (by omega)⟩
 refine z9t (fun k (s : Q × Q × Int) => z15 K l b y k s.1 s.2.1 s.2.2) (fun s => ∃ i : Nat, s.2.2 = i /\ i <= l.length /\ Fine s.1 /\ Fine s.2.1) (fun s => (l.length + 1 - s.2.2 : Int).toNat) _ ?_ ((⟨false, [], []⟩, ⟨false, [], []⟩, 0) : Q × Q × Int) (by dsimp only; omega) ⟨0, rfl, by omega, Fine.zero, Fine.zero⟩
 rintro k ⟨hi_, lo, _⟩ ⟨i, rfl, h0, h1, h2⟩
 dsimp only at h1 h2 ⊢
 by_cases hi : i < l.length
 ·right
  have hx : idx l (i : Int) = some l[i] := z3y (zAh (by omega))
  obtain ⟨p, p1, p2⟩ := z8c (K := K) (hf i (by omega)) (hs' _ (List.getElem_mem _)) hK
  have dp := df i (by omega)
  obtain ⟨t, t1, t2⟩ := zkf (K := K) hb p2 p2 hy db dp dp dy hK
  obtain ⟨c, hc⟩ := t2.cmp h2 hK
  have fp : Fine p := ⟨_, p2, dp.mono (by omega)⟩
  have hM : Fine (if decide (c > 0) = true then t else lo) := by
   by_cases g : decide (c > 0) = true
   ·rw [if_pos g]; exact t2
   ·rw [if_neg g]; exact h2
  have hM1 : (if decide (c > 0) = true then some t else some lo) = some (if decide (c > 0) = true then t else lo) := by
   by_cases g : decide (c > 0) = true
   ·rw [if_pos g, if_pos g]
   ·rw [if_neg g, if_neg g]
  generalize (if decide (c > 0) = true then t else lo) = M at hM hM1
  by_cases hz : i = 0
  ·subst hz
   refine ⟨(hi_, M, ((0 + 1 : Nat) : Int)), ?_, by dsimp only; omega, 1, rfl, by omega, h1, hM⟩
   rw [z15, if_pos (lt_d hi), hx, z0d, p1, z0d, t1, z0d, hc, z0d, hM1, z0d, tu1a, if_neg (by simp), z0d, tu1a, if_neg (by simp), z0d, tu2a, k1 (by omega)]
  ·have hy2 : idx l ((i - 1 : Nat) : Int) = some l[i - 1] := z3y (zAh (by omega))
   have e1 : z04 .i64 ((i : Int) - 1) = ((i - 1 : Nat) : Int) := by rw [k64 (by omega) (by omega)]; omega
   obtain ⟨o, o1, o2⟩ := z8c (K := K) (hf (i - 1) (by omega)) (hs' _ (List.getElem_mem _)) hK
   have do_ := df (i - 1) (by omega)
   have fo : Fine o := ⟨_, o2, do_.mono (by omega)⟩
   obtain ⟨u, hu⟩ := fy.cmp fo hK
   obtain ⟨v, hv⟩ := fy.cmp fp hK
   obtain ⟨w, w1, w2⟩ := zkf (K := K) hb o2 p2 hy db do_ dp dy hK
   have hcond : (if decide ((i : Int) > 0) = true then ((idx l (z04 .i64 ((i : Int) - 1))).bind fun x339 => ((z20 K x339).bind fun x343 => ((z12 K y x343).bind fun x356 => (if (decide (x356 >= 0)) = true then ((z12 K y p).bind fun x376 => some (decide (x376 <= 0))) else some false)))) else some false) = some (decide (u >= 0) && decide (v <= 0)) := by
    rw [if_pos (decide_eq_true (by omega)), e1, hy2, z0d, o1, z0d, hu, z0d]
    cases decide (u >= 0)
    ·rfl
    ·rw [if_pos rfl, hv, z0d, Bool.true_and]
   cases hcc : (decide (u >= 0) && decide (v <= 0))
   ·refine ⟨(hi_, M, ((i + 1 : Nat) : Int)), ?_, by dsimp only; omega, i + 1, rfl, by omega, h1, hM⟩
    rw [z15, if_pos (lt_d hi), hx, z0d, p1, z0d, t1, z0d, hc, z0d, hM1, z0d, tu1a, hcond, hcc, z0d, tu1a, if_neg (by simp), z0d, tu2a, k1 (by omega)]
   ·refine ⟨(w, M, ((i + 1 : Nat) : Int)), ?_, by dsimp only; omega, i + 1, rfl, by omega, w2, hM⟩
    rw [z15, if_pos (lt_d hi), hx, z0d, p1, z0d, t1, z0d, hc, z0d, hM1, z0d, tu1a, hcond, hcc, z0d, tu1a, if_pos rfl, e1, hy2, z0d, o1, z0d, w1, z0d, z0d, tu2a, k1 (by omega)]
 ·left
  exact ⟨(hi_, lo), by rw [z15, if_neg (by simp; omega)], h1, h2⟩
end Go.Am.Tryz
/- Closed fact: lossFact, by evaluation of the typed functions. -/
namespace Go.Am.Tryz
open Go Go.Am Go.Proofs
theorem zdx : z5s 2000000001 = some true := by kernel_rfl
end Go.Am.Tryz
/- Plain law: LossChecks answers true. -/
namespace Go.Am.Tryz
open Go Go.Am Go.Proofs
variable {K : Nat}
theorem zg3 {r f : zAd} {l : List zAd} {fe pe : Int} (sr : r.size <= 12) (sf : f.size <= 12) (hs : ∀ s ∈ l, s.size <= 12) (hf : z1a K r = some fe) (hp : z1w K l = some pe) (h0 : fe = 0 -> pe = 0 -> (∃ x, RTx r x /\ Dl x 13) /\ 2 <= l.length /\ l.length <= 16 /\ ∃ g, RTs l g /\ ∀ i, i < l.length -> Dl (g i) 13) (hK : 2000000000 < K) :
  ∃ a b e, z4h K r l f = some (a, b, e) /\ ∀ {β : Type} (R : Int -> Option β), (Option.bind (if ((if (if fe ≠ 0 then fe else pe) ≠ 0 then (if fe ≠ 0 then fe else pe) else ratE f) == 0) = true then ((idx l 0).bind fun x258 => ((z2w K f x258).bind fun x262 => (if (decide (x262 < 0)) = true then some true else ((idx l (z04 .i64 ((List.length l : Int) - 1))).bind fun x277 => ((z2w K f x277).bind fun x281 => some (decide (x281 > 0))))))) else some false) (tu1 fun x293 => (Option.bind ((if x293 = true then some 4 else some (if (if fe ≠ 0 then fe else pe) ≠ 0 then (if fe ≠ 0 then fe else pe) else ratE f))) (tu1 R)))) = R e := by
 have sf' : f.size <= 1048576 := by omega
 have hs' : ∀ s ∈ l, s.size <= 1048576 := fun s h => by have := hs s h; omega
 have hb := zih hf hp
 unfold z4h
 rw [hb, z0d]
 by_cases c : (if fe ≠ 0 then fe else pe) = 0
 ·have cf : fe = 0 := by
   by_cases k : fe = 0
   ·exact k
   ·rw [if_pos k] at c; exact absurd c k
  have cp : pe = 0 := by rw [if_neg (by simpa using cf)] at c; exact c
  rw [c]
  by_cases ef : ratE f = 0
  ·obtain ⟨⟨x, x1, x2⟩, l0, l1, g, g1, g2⟩ := h0 cf cp
   obtain ⟨y, y1, _⟩ := zaq sf' ef
   have y2 : Dl y 13 := y1.dl sf
   obtain ⟨b, b1, b2⟩ := z8c (K := K) x1 (by omega) hK
   obtain ⟨q, q1, q2⟩ := z8c (K := K) y1 sf' hK
   have hx0 : idx l 0 = some l[0] := z3y (i := 0) (zAh (by omega))
   have e1 : z04 .i64 ((l.length : Int) - 1) = ((l.length - 1 : Nat) : Int) := by rw [k64 (by omega) (by omega)]; omega
   have hxn : idx l ((l.length - 1 : Nat) : Int) = some l[l.length - 1] := z3y (zAh (by omega))
   obtain ⟨u, u1, u2⟩ := z8c (K := K) (g1 0 (by omega)) (hs' _ (List.getElem_mem _)) hK
   obtain ⟨v, v1, v2⟩ := z8c (K := K) (g1 (l.length - 1) (by omega)) (hs' _ (List.getElem_mem _)) hK
   have hc1 := zdw (K := K) q2 u2 y2 (g2 0 (by omega)) (by omega) hK
   have hc2 := zdw (K := K) q2 v2 y2 (g2 (l.length - 1) (by omega)) (by omega) hK
   have hd1 := zif (K := K) y1 (g1 0 (by omega)) y2 (g2 0 (by omega)) (by omega) hK
   have hd2 := zif (K := K) y1 (g1 (l.length - 1) (by omega)) y2 (g2 (l.length - 1) (by omega)) (by omega) hK
   have h1 : ((z12 K q u).bind fun x147 => (if (decide (x147 < 0)) = true then some true else ((z12 K q v).bind fun x168 => some (decide (x168 > 0))))) = some (decide (y < g 0) || decide (g (l.length - 1) < y)) := by
    rw [hc1, z0d, zn8, hc2, z0d, zn9]
    cases decide (y < g 0) <;> rfl
   have h2 : ((idx l 0).bind fun x258 => ((z2w K f x258).bind fun x262 => (if (decide (x262 < 0)) = true then some true else ((idx l (z04 .i64 ((List.length l : Int) - 1))).bind fun x277 => ((z2w K f x277).bind fun x281 => some (decide (x281 > 0))))))) = some (decide (y < g 0) || decide (g (l.length - 1) < y)) := by
    rw [hx0, z0d, hd1, z0d, zn8, e1, hxn, z0d, hd2, z0d, zn9]
    cases decide (y < g 0) <;> rfl
   have hlaw : ∀ {β : Type} (R : Int -> Option β), (Option.bind (if ((if (0 : Int) ≠ 0 then (0 : Int) else (0 : Int)) == 0) = true then ((idx l 0).bind fun x258 => ((z2w K f x258).bind fun x262 => (if (decide (x262 < 0)) = true then some true else ((idx l (z04 .i64 ((List.length l : Int) - 1))).bind fun x277 => ((z2w K f x277).bind fun x281 => some (decide (x281 > 0))))))) else some false) (tu1 fun x293 => (Option.bind ((if x293 = true then some 4 else some (if (0 : Int) ≠ 0 then (0 : Int) else (0 : Int)))) (tu1 R)))) = R (if (decide (y < g 0) || decide (g (l.length - 1) < y)) = true then 4 else 0) := by
    intro β R
    rw [show (if (0 : Int) ≠ 0 then (0 : Int) else (0 : Int)) = 0 from by simp, h2]
    cases (decide (y < g 0) || decide (g (l.length - 1) < y)) <;> rfl
   have hpre : ∀ {β : Type} (A B : Option β), (Option.bind (((z12 K q u).bind fun x147 => (if (decide (x147 < 0)) = true then some true else ((z12 K q v).bind fun x168 => some (decide (x168 > 0)))))) (tu1 fun x179 => (if x179 = true then A else B))) = if (decide (y < g 0) || decide (g (l.length - 1) < y)) = true then A else B := by
    intro β A B; rw [h1, z0d, tu1a]
   rw [if_neg (by simp), z62 sf' hK, ef, z0d, if_neg (by simp), b1, z0d, q1, z0d, hx0, z0d, u1, z0d, e1, hxn, z0d, v1, z0d, hpre]
   cases hcc : (decide (y < g 0) || decide (g (l.length - 1) < y))
   ·obtain ⟨⟨hi, lo⟩, r1, r2, r3⟩ := zg2 (K := K) l1 hs g1 g2 b2 q2 x2 y2 hK
    obtain ⟨s, s1⟩ := r2.told hK
    obtain ⟨t, t1⟩ := r3.told hK
    refine ⟨t, s, 0, ?_, fun R => ?_⟩
    ·rw [if_neg (by simp), r1, z0d, tu2a, t1, z0d, if_neg (by simp), s1, z0d, if_neg (by simp)]
    ·have := hlaw R
     rw [hcc, hx0, e1, hxn] at this
     exact this
   ·refine ⟨_, _, 4, if_pos rfl, fun R => ?_⟩
    have := hlaw R
    rw [hcc, hx0, e1, hxn] at this
    exact this
  ·refine ⟨⟨#[]⟩, ⟨#[]⟩, ratE f, ?_, fun R => ?_⟩
   ·rw [if_neg (by simp), z62 sf' hK, z0d, if_pos (by simpa using ef)]
   ·simp [ef, z0d, tu1a]
 ·refine ⟨⟨#[]⟩, ⟨#[]⟩, (if fe ≠ 0 then fe else pe), ?_, fun R => ?_⟩
  ·rw [if_pos (by simpa using c)]
  ·generalize (if fe ≠ 0 then fe else pe) = z at c
   simp [c, z0d, tu1a]
theorem zek {l : List zAd} {F : zAd -> Option Bool} {p : zAd -> Bool} (hl : l.length <= 2000000) (hK : 2000000000 < K) (hp : ∀ x ∈ l, F x = some (p x)) : z0g K l F = some (l.any p) := by
 have key : ∃ r : Int ⊕ Unit, z0a K l F K 0 = some r /\ ((r = .inr () /\ l.any p = false) \/ ∃ i : Int, 0 <= i /\ r = .inl i /\ l.any p = true) := by
  refine z9t (fun k (s : Int) => z0a K l F k s) (fun s => ∃ i : Nat, s = i /\ i <= l.length /\ (l.take i).any p = false) (fun s => (l.length - s : Int).toNat) _ ?_ (0 : Int) (by omega) ⟨0, rfl, by omega, by simp⟩
  rintro k _ ⟨i, rfl, h0, h1⟩
  by_cases hi : i < l.length
  ·have hx : idx l (i : Int) = some l[i] := z3y (zAh hi)
   have hpi := hp l[i] (List.getElem_mem hi)
   have hsn : l.take (i + 1) = l.take i ++ [l[i]] := by rw [List.take_add_one, zAh hi]; rfl
   cases hc : p l[i] with
   | true =>
    left
    refine ⟨.inl i, ?_, .inr ⟨i, by omega, rfl, List.any_eq_true.2 ⟨l[i], List.getElem_mem hi, hc⟩⟩⟩
    rw [z0a, if_pos (decide_eq_true (by omega)), hx, z0d, hpi, z0d, hc, if_pos rfl]
   | false =>
    right
    refine ⟨(i : Int) + 1, ?_, by omega, i + 1, rfl, by omega, by rw [hsn, List.any_append, h1]; simp [hc]⟩
    rw [z0a, if_pos (decide_eq_true (by omega)), hx, z0d, hpi, z0d, hc, if_neg (by simp), k64 (by omega) (by omega)]
  ·left
   have : i = l.length := by omega
   subst this
   rw [List.take_of_length_le (Nat.le_refl _)] at h1
   refine ⟨.inr (), ?_, .inl ⟨rfl, h1⟩⟩
   rw [z0a, if_neg (by simp)]
 obtain ⟨r, h1, h2⟩ := key
 unfold z0g z0t
 rw [h1]
 rcases h2 with ⟨rfl, h3⟩ | ⟨i, h4, rfl, h3⟩
 ·rw [h3]; rfl
 ·rw [h3, zhh, tu1a, z0d, decide_eq_true (by omega)]
theorem zii {r : zAd} (sr : r.size <= 12) (hK : 2000000000 < K) : ∃ fe, z1a K r = some fe /\ (fe = 0 -> ratE r = 0 /\ ∃ x, RTx r x /\ Dl x 13 /\ ¬ x.num < 0) ∧
  ∀ {β : Type} (R : Int -> Option β), (Option.bind (if (ratE r == 0) = true then ((z54 K r).bind fun x88 => some (decide (x88 < 0))) else some false) (tu1 fun x100 => Option.bind (if x100 = true then some 4 else some (ratE r)) (tu1 R))) = R fe := by
 obtain ⟨fe, f1, f2, f3⟩ := zfh (K := K) (r := r) (by omega) hK
 by_cases h : ratE r = 0
 ·obtain ⟨x, x1, _, x3⟩ := f3 h
  have x2 := x1.dl sr
  have hs := zic (K := K) x1 x2 (by omega) hK
  refine ⟨fe, f1, fun k => ⟨h, x, x1, x2, fun q => ?_⟩, fun R => ?_⟩
  ·rw [x3, if_pos q] at k; cases k
  ·rw [h, if_pos (show ((0 : Int) == 0) = true from rfl), hs, z0d, zna, z0d, tu1a, x3]
   by_cases q : x.num < 0
   ·rw [decide_eq_true q, if_pos rfl, if_pos q]; rfl
   ·rw [decide_eq_false q, if_neg (by simp), if_neg q]; rfl
 ·have := f2 h
  subst this
  refine ⟨ratE r, f1, fun k => absurd k h, fun R => ?_⟩
  rw [if_neg (by simpa using h), z0d, tu1a, if_neg (by simp)]; rfl
theorem zbs {r : zAd} {l : List zAd} {f : zAd} (sr : r.size <= 1048576) (hl : l.length <= 1048576 /\ ∀ s ∈ l, s.size <= 1048576) (sf : f.size <= 1048576) : ∃ K, z4s K r l f = some true := by
 obtain ⟨ll, sl⟩ := hl
 refine ⟨2000000001, ?_⟩
 have hK : 2000000000 < 2000000001 := by omega
 have hcl : z0s 2000000001 l = some l := by unfold z0s; rw [if_pos (by simp; omega)]; rfl
 have hco : z0g 2000000001 (l ++ [r, f]) (fun x => z2u 2000000001 x) = some ((l ++ [r, f]).any fun x => decide ((x.size : Int) > 12)) := zek (by simp; omega) hK (fun x _ => rfl)
 unfold z4s
 rw [zdx, z0d, if_neg (by simp), hcl, z0d, if_pos (by simp; omega), hco, z0d]
 cases hb : (l ++ [r, f]).any fun x => decide ((x.size : Int) > 12) with
 | true => rw [if_pos rfl]
 | false =>
  rw [if_neg (by simp)]
  rw [List.any_eq_false] at hb
  have hsz : ∀ s ∈ l ++ [r, f], s.size <= 12 := fun s h => by have := hb s h; simp at this; omega
  have s1 : r.size <= 12 := hsz r (by simp)
  have s2 : f.size <= 12 := hsz f (by simp)
  have s3 : ∀ s ∈ l, s.size <= 12 := fun s h => hsz s (by simp [h])
  obtain ⟨pe, p1, p2, p3⟩ := zg0 (K := 2000000001) ll s3 hK
  obtain ⟨fe, f1, f2, f3⟩ := zii (K := 2000000001) s1 hK
  have h0 : fe = 0 -> pe = 0 -> (∃ x, RTx r x /\ Dl x 13) /\ 2 <= l.length /\ l.length <= 16 /\ ∃ f, RTs l f /\ ∀ i, i < l.length -> Dl (f i) 13 := fun a b => by
   obtain ⟨_, x, x1, x2, _⟩ := f2 a
   exact ⟨⟨x, x1, x2⟩, p3 b⟩
  have h0' : fe = 0 -> pe = 0 -> (∃ x, RTx r x /\ Dl x 13) /\ l.length <= 16 /\ ∃ f, RTs l f /\ ∀ i, i < l.length -> Dl (f i) 13 := fun a b => ⟨(h0 a b).1, (h0 a b).2.2⟩
  obtain ⟨q0, t0⟩ := zfj (K := 2000000001) (d := 0) (by omega) s1 s3 f1 p1 h0' hK
  obtain ⟨q1, t1⟩ := zfj (K := 2000000001) (d := 1) (by omega) s1 s3 f1 p1 h0' hK
  obtain ⟨g, g1⟩ := zn1 (K := 2000000001) s1 s3 f1 p1 h0 hK
  obtain ⟨b1, b2, be, b3, b4⟩ := zg3 (K := 2000000001) s1 s2 s3 f1 p1 h0 hK
  have hex : ∃ s, z37 2000000001 r f = some (s, if fe ≠ 0 then fe else ratE f) := by
   by_cases c : fe ≠ 0 \/ ratE f ≠ 0
   ·exact ⟨_, zjy sf f1 c hK⟩
   ·have cf : fe = 0 := Decidable.byContradiction fun k => c (.inl k)
    have ef : ratE f = 0 := Decidable.byContradiction fun k => c (.inr k)
    obtain ⟨er, x, x1, x2, x3⟩ := f2 cf
    obtain ⟨y, y1, _⟩ := zaq sf ef
    obtain ⟨s, e1, _⟩ := zl4 (K := 2000000001) sr sf er ef x1 y1 x3 x2 (y1.dl s2) (by omega) hK
    exact ⟨s, by rw [e1, if_neg (by simpa using cf), ef]⟩
  obtain ⟨s, e1⟩ := hex
  have t0' : z3g 2000000001 r l = some (q0, if fe ≠ 0 then fe else pe) := by
   have e : z2z 2000000001 r l 0 = some (q0, if fe ≠ 0 then fe else pe) := t0
   unfold z3g; rw [e, z0d]
  have t1' : z4g 2000000001 r l = some (q1, if fe ≠ 0 then fe else pe) := by
   have e : z2z 2000000001 r l 1 = some (q1, if fe ≠ 0 then fe else pe) := t1
   unfold z4g; rw [e, z0d]
  rw [p2, z0d, zcs sr hK, z0d, f3, zcs sf hK, z0d, zct hK, z0d, e1, z0d, zct hK, z0d, t0', z0d, t1', z0d, g1, z0d, b3, z0d, z0d, zct hK, z0d, b4, p1, z0d]
  simp [z0d, tu1a]
end Go.Am.Tryz
/- From a statement's arguments, read as data, to typed data. -/
namespace Go.Am
open Go Go.Proofs.YtdogeclnbdldaaaGreatDoor
section
variable {H : Type} {P : Program} {G : GM} {n B : Nat} {t e : TypeId} {α β S : Type} {r : RT α} {s : RT β} {I : α -> Prop} {J : β -> Prop}
theorem zl7 {H : Type} (d : DataW H) : 1 <= Rows.uptoBulk d := by
 cases d with
 | lit l => cases l <;> simp [Rows.uptoBulk]
 | _ => simp [Rows.uptoBulk]
theorem zij {H : Type} : ∀ (ds : List (DataW H)), ds.length <= Rows.uptoBulkAll ds
 | [] => Nat.zero_le _
 | d :: r => by
  have := zij r
  have := zl7 d
  simp only [Rows.uptoBulkAll, List.length_cons]; omega
def Arg (H : Type) (P : Program) (G : GM) (n : Nat) (t : TypeId) (r : RT α) (B : Nat) (I : α -> Prop) : Prop := ∀ (cs : List Value) (d : DataW H), AData P G n t cs d -> Rows.uptoBulk d <= B -> ∃ x, r.rep G cs x /\ I x
def ArgS (H : Type) (P : Program) (G : GM) (n : Nat) (ts : List TypeId) (r : RT α) (B : Nat) (I : α -> Prop) : Prop :=
 ∀ (css : List (List Value)) (ds : List (DataW H)), AllD (AData P G n) P.cellsOf ts css ds -> Rows.uptoBulkAll ds <= B -> ∃ x, r.rep G css.flatten x /\ I x
theorem zl8 {k : IntKind} {x : Int} (h : (Lit.int k x).wf = true) : z94 k x = true := by
 cases k <;> simp [Lit.wf, IntKind.min, IntKind.max, IntKind.signed, IntKind.bits] at h <;> simp [z94] <;> omega
theorem Arg.mono {I J : α -> Prop} (h : Arg H P G n t r B I) (k : ∀ x, I x -> J x) : Arg H P G n t r B J := fun cs d hd hb => by
 obtain ⟨x, h1, h2⟩ := h cs d hd hb
 exact ⟨x, h1, k x h2⟩
theorem Arg.int {k : IntKind} (hu : P.underlying t = some (.int k)) : Arg H P G (n + 1) t (rI k) B (fun x => z94 k x = true) := fun cs d h _ => by
 unfold AData at h
 simp only [hu] at h
 obtain ⟨x, h1, h2, h3⟩ := h
 exact ⟨x, h1, zl8 h3⟩
theorem Arg.bool (hu : P.underlying t = some .bool) : Arg H P G (n + 1) t rB B (fun _ => True) := fun cs d h _ => by
 unfold AData at h
 simp only [hu] at h
 obtain ⟨x, h1, _⟩ := h
 exact ⟨x, h1, trivial⟩
theorem Arg.str (hu : P.underlying t = some .string) : Arg H P G (n + 1) t rS B (fun x => x.size <= B) := fun cs d h hb => by
 unfold AData at h
 simp only [hu] at h
 obtain ⟨x, h1, h2, _⟩ := h
 refine ⟨x, h1, ?_⟩
 rw [h2] at hb
 simp only [Rows.uptoBulk, Array.length_toList] at hb
 have : x.data.size = x.size := rfl
 omega
theorem zcu (h : Arg H P G n e r B I) : ∀ (k : Nat) (css : List (List Value)) (ds : List (DataW H)), AllD (AData P G n) P.cellsOf (List.replicate k e) css ds -> Rows.uptoBulkAll ds <= B -> ∃ xs : List α, All2 (r.rep G) css xs /\ (∀ x ∈ xs, I x) /\ xs.length = k
 | 0, [], [], _, _ => ⟨[], .nil, by simp, rfl⟩
 | 0, _ :: _, _, h, _ => by simp [List.replicate, AllD] at h
 | 0, [], _ :: _, h, _ => by simp [List.replicate, AllD] at h
 | k + 1, [], _, h, _ => by simp [List.replicate, AllD] at h
 | k + 1, _ :: _, [], h, _ => by simp [List.replicate, AllD] at h
 | k + 1, c :: css, d :: ds, hA, hb => by
  simp only [List.replicate, AllD] at hA
  simp only [Rows.uptoBulkAll] at hb
  obtain ⟨x, h1, h2⟩ := h _ _ hA.1.1 (by omega)
  obtain ⟨xs, h3, h4, h5⟩ := zcu h k css ds hA.2 (by omega)
  refine ⟨x :: xs, .cons h1 h3, fun y hy => ?_, by simp [h5]⟩
  rcases List.mem_cons.1 hy with rfl | hy
  ·exact h2
  ·exact h4 y hy
theorem zfk {R : TypeId -> List Value -> DataW H -> Prop} {sz : TypeId -> Nat} : ∀ (k : Nat) {ts : List TypeId} {cs : List (List Value)} {ds : List (DataW H)}, AllD R sz ts cs ds -> AllD R sz (ts.take k) (cs.take k) (ds.take k)
 | 0, _, _, _, _ => by simp [AllD]
 | k + 1, [], [], [], _ => by simp [AllD]
 | k + 1, _ :: _, _ :: _, _ :: _, h => by simp only [List.take_succ_cons]; exact ⟨h.1, zfk k h.2⟩
theorem zik {R : TypeId -> List Value -> DataW H -> Prop} {sz : TypeId -> Nat} {e : TypeId} : ∀ (k : Nat) (css : List (List Value)) (ds : List (DataW H)), AllD R sz (List.replicate k e) css ds -> ∀ c ∈ css, c.length = sz e
 | 0, [], [], _, c, hc => by simp at hc
 | 0, _ :: _, _, h, _, _ => by simp [List.replicate, AllD] at h
 | 0, [], _ :: _, h, _, _ => by simp [List.replicate, AllD] at h
 | k + 1, [], _, h, _, _ => by simp [List.replicate, AllD] at h
 | k + 1, _ :: _, [], h, _, _ => by simp [List.replicate, AllD] at h
 | k + 1, c :: css, d :: ds, hA, u, hu => by
  simp only [List.replicate, AllD] at hA
  rcases List.mem_cons.1 hu with rfl | hu
  ·exact hA.1.2
  ·exact zik k css ds hA.2 u hu
theorem Arg.sl (hu : P.underlying t = some (.slice e)) (h : Arg H P G n e r B I) : Arg H P G (n + 1) t (rSl r) B (fun xs => xs.length <= B /\ ∀ x ∈ xs, I x) := fun cs d hA hb => by
 unfold AData at hA
 simp only [hu] at hA
 rcases hA with ⟨h1, h2⟩ | ⟨b, len, cap, elems, spare, css, h1, h2, h3, h4, _, h6, h7⟩
 ·subst h1
  exact ⟨[], zj7, Nat.zero_le _, by simp⟩
 ·subst h2
  simp only [Rows.uptoBulk] at hb
  have hlen := zij elems
  have h8 := zfk len h7
  rw [List.take_replicate, show min len cap = len by omega, <- h3, List.take_left] at h8
  obtain ⟨xs, k1, k2, k3⟩ := zcu h elems.length (css.take elems.length) elems h8 (by omega)
  refine ⟨xs, ?_, by omega, k2⟩
  have hcl := zik _ _ _ h7
  have hel := k1.length
  by_cases hz : elems.length = 0
  ·have hx : xs = [] := List.length_eq_zero_iff.1 (by omega)
   subst hx
   refine ⟨_, [], h1, ⟨by simp, .inr (.inr ⟨b, 0, some 0, cap, by rw [<- h3, hz], rfl, .inr rfl⟩)⟩, .nil⟩
  ·rcases h6 with h6 | ⟨x, g1, _, g3⟩
   ·omega
   ·refine ⟨_, css.take elems.length, h1, ⟨k1.each, .inr (.inl ⟨b, 0, some 0, cap, x, by rw [hel, k3, <- h3], g1, ?_, ?_, by rw [hel, k3]; omega, .inr rfl⟩)⟩, k1⟩
    ·rw [g3]
     have h9 : css.flatten = (css.take elems.length).flatten ++ (css.drop elems.length).flatten := by rw [<- List.flatten_append, List.take_append_drop]
     rw [h9, List.length_append, k1.flatLen, hel]; omega
    ·rw [g3, List.drop_zero]
     have h9 : css.flatten = (css.take elems.length).flatten ++ (css.drop elems.length).flatten := by rw [<- List.flatten_append, List.take_append_drop]
     have h10 : (css.take elems.length).length * r.sz = (css.take elems.length).flatten.length := by rw [k1.flatLen, hel]
     rw [h9, h10, List.take_left]
theorem Arg.arr {k : Nat} (hu : P.underlying t = some (.array k e)) (h : Arg H P G n e r B I) : Arg H P G (n + 1) t (rArr k r) B (fun xs => xs.length = k /\ ∀ x ∈ xs, I x) := fun cs d hA hb => by
 unfold AData at hA
 simp only [hu] at hA
 obtain ⟨css, parts, h1, h2, h3⟩ := hA
 subst h2
 simp only [Rows.uptoBulk] at hb
 obtain ⟨xs, k1, k2, k3⟩ := zcu h k css parts h3 (by omega)
 exact ⟨xs, ⟨k3, css, h1, k1⟩, k3, k2⟩
theorem ArgS.one (h : Arg H P G n t r B I) : ArgS H P G n [t] r B I := fun css ds hA hb => by
 match css, ds, hA with
 | [c], [d], hA =>
  simp only [Rows.uptoBulkAll] at hb
  obtain ⟨x, h1, h2⟩ := h c d hA.1.1 (by omega)
  exact ⟨x, by simpa using h1, h2⟩
 | [], _, hA => simp [AllD] at hA
 | _ :: _ :: _, [], hA => simp [AllD] at hA
 | _ :: _ :: _, [_], hA => simp [AllD] at hA
 | _ :: _ :: _, _ :: _ :: _, hA => simp [AllD] at hA
 | [_], [], hA => simp [AllD] at hA
 | [_], _ :: _ :: _, hA => simp [AllD] at hA
theorem ArgS.cons {ts : List TypeId} (h : Arg H P G n t r B I) (k : ArgS H P G n ts s B J) : ArgS H P G n (t :: ts) (rP r s) B (fun x => I x.1 /\ J x.2) := fun css ds hA hb => by
 match css, ds, hA with
 | c :: css, d :: ds, hA =>
  simp only [Rows.uptoBulkAll] at hb
  obtain ⟨x, h1, h2⟩ := h c d hA.1.1 (by omega)
  obtain ⟨y, h3, h4⟩ := k css ds hA.2 (by omega)
  exact ⟨(x, y), ⟨c, css.flatten, by simp, h1, h3⟩, h2, h4⟩
 | [], _, hA => simp [AllD] at hA
 | _ :: _, [], hA => simp [AllD] at hA
theorem Arg.struct {fs : Array Field} {ts : List TypeId} (hu : P.underlying t = some (.struct fs)) (hts : fs.toList.map (·.type) = ts) (h : ArgS H P G n ts r B I) (f : S -> α) (g : α -> S) (hg : ∀ p, f (g p) = p) : Arg H P G (n + 1) t (rIso r f) B (fun x => I (f x)) := fun cs d hA hb => by
 unfold AData at hA
 simp only [hu] at hA
 obtain ⟨css, parts, h1, h2, h3⟩ := hA
 subst h2
 simp only [Rows.uptoBulk] at hb
 rw [hts] at h3
 obtain ⟨p, k1, k2⟩ := h css parts h3 (by omega)
 exact ⟨g p, by rw [h1]; show r.rep G css.flatten (f (g p)); rw [hg]; exact k1, by show I (f (g p)); rw [hg]; exact k2⟩
theorem AArgs.cons_inv {ts : List TypeId} {avs : List Value} {ds : List (DataW H)} (h : AArgs P G n (t :: ts) avs ds) : ∃ v vs d dr, avs = v :: vs /\ ds = d :: dr /\ AVal P G n t v d /\ AArgs P G n ts vs dr := by
 match avs, ds, h with
 | v :: vs, d :: dr, h => exact ⟨v, vs, d, dr, rfl, rfl, h.1, h.2⟩
 | [], _, h => simp [AArgs] at h
 | _ :: _, [], h => simp [AArgs] at h
theorem AArgs.nil_inv {avs : List Value} {ds : List (DataW H)} (h : AArgs P G n [] avs ds) : avs = [] /\ ds = [] := by
 match avs, ds, h with
 | [], [], h => exact ⟨rfl, rfl⟩
 | [], _ :: _, h => simp [AArgs] at h
 | _ :: _, _, h => simp [AArgs] at h
theorem AVal.one {v : Value} {d : DataW H} (hu : z4j P t = some false) (h : AVal P G n t v d) : AData P G n t [v] d := by
 unfold AVal at h
 unfold z4j at hu
 split at h
 ·rename_i q; rw [q] at hu; cases hu
 ·rename_i q; rw [q] at hu; cases hu
 ·exact h
theorem AVal.agg {v : Value} {d : DataW H} (hu : z4j P t = some true) (h : AVal P G n t v d) : ∃ cs, v = .agg (List.toArray cs) /\ AData P G n t cs d := by
 unfold AVal at h
 unfold z4j at hu
 split at h
 ·exact h
 ·exact h
 ·rename_i q1 q2
  split at hu
  ·rename_i q; exact absurd q (q1 _)
  ·rename_i q; exact absurd q (q2 _ _)
  ·cases hu
  ·cases hu
theorem Ow.empty (A : AH) : Ow A.get A [] := ⟨fun _ _ h => h, fun i e h => by simp at h, fun i j e e' _ h => by simp at h, fun i e h => by simp at h⟩
theorem CR.done {f : FuncId} {args : List Value} {A : AH} {b : Value} (h : CR P f args A.get A [] fun v _ _ => v = b) : ∃ A', ACalls P f args A b A' := by
 obtain ⟨v, H', G', h1, _, _, rfl⟩ := h
 exact ⟨H', h1⟩
end
end Go.Am
/- LossChecks over the statement's reading of its arguments. -/
namespace Go.Am.Tryz
open Go Go.Am Go.Proofs Go.Proofs.YtdogeclnbdldaaaGreatDoor
theorem lossChecks {H : Type} (A : AH) (avs : List Value) (ds : List (DataW H)) (hb : Rows.uptoBulkAll ds <= 1048576) (ha : AArgs Tryz.prog A.get 2 [22, 23, 22] avs ds) : ∃ A', ACalls Tryz.prog 3 avs A (.bool true) A' := by
 obtain ⟨v0, vs0, d0, ds0, rfl, rfl, a0, ha⟩ := AArgs.cons_inv ha
 obtain ⟨v1, vs1, d1, ds1, rfl, rfl, a1, ha⟩ := AArgs.cons_inv ha
 obtain ⟨v2, vs2, d2, ds2, rfl, rfl, a2, ha⟩ := AArgs.cons_inv ha
 obtain ⟨rfl, rfl⟩ := AArgs.nil_inv ha
 simp only [Rows.uptoBulkAll] at hb
 obtain ⟨x0, r0, i0⟩ := ((Arg.str (t := 22) (by kernel_rfl)) : Arg H Tryz.prog A.get 2 22 _ 1048576 _) [v0] d0 (AVal.one (by kernel_rfl) a0) (by omega)
 obtain rfl := (List.cons.inj r0).1
 obtain ⟨x1, r1, i1⟩ := ((Arg.sl (t := 23) (e := 22) (by kernel_rfl) (Arg.str (t := 22) (by kernel_rfl))) : Arg H Tryz.prog A.get 2 23 _ 1048576 _) [v1] d1 (AVal.one (by kernel_rfl) a1) (by omega)
 obtain ⟨x2, r2, i2⟩ := ((Arg.str (t := 22) (by kernel_rfl)) : Arg H Tryz.prog A.get 2 22 _ 1048576 _) [v2] d2 (AVal.one (by kernel_rfl) a2) (by omega)
 obtain rfl := (List.cons.inj r2).1
 obtain ⟨K, hK⟩ := zbs i0 i1 i2
 exact CR.done (z9m K x0 v1 x1 r1 x2 (Ow.empty A) true hK)
end Go.Am.Tryz
