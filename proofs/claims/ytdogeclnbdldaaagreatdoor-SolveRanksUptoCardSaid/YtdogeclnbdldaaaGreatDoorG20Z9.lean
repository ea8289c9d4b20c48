/- Plain law: long division of the program's numbers. -/
import Derived.Test.YtdogeclnbdldaaaGreatDoorG19Z9
import Derived.Test.YtdogeclnbdldaaaGreatDoorG2Z9
set_option maxRecDepth 100000
set_option maxHeartbeats 8000000
set_option linter.unusedVariables false
set_option linter.unusedSimpArgs false
namespace Go.Am.Tryz
open Go Go.Am Go.Proofs
variable {K : Nat}
theorem zht (u : List Int) (i n : Nat) (h : i + n <= u.length) : valB 1000000000 u = valB 1000000000 (u.take i) + 1000000000 ^ i * (valB 1000000000 ((u.drop i).take n) + 1000000000 ^ n * valB 1000000000 (u.drop (i + n))) := by
 have h1 := z7h 1000000000 u i (by omega)
 have h2 := z7h 1000000000 (u.drop i) n (by rw [List.length_drop]; omega)
 rw [h1, h2, List.drop_drop]
theorem zl0 {l : List Int} {i : Nat} (h : l.length <= i) : l.getD i 0 = 0 := by rw [zAb, List.getElem?_eq_none h]; rfl
theorem zlz {u v : List Int} {k : Nat} {q : Int} (hk : k + v.length + 1 <= u.length) (hl : u.length <= 8000000) (hK : 2000000000 < K) (hq : 0 <= q /\ q < 1000000000) (du : DigB 1000000000 u) (dv : DigB 1000000000 v) :
  ∃ (b : Int) (u' : List Int), z36 K u v k q = some (decide (b > 0), u') /\ (b = 0 \/ b = 1) /\ u'.length = u.length /\ DigB 1000000000 u' /\ u'.take k = u.take k /\ u'.drop (k + (v.length + 1)) = u.drop (k + (v.length + 1)) ∧
   valB 1000000000 u' = valB 1000000000 u - 1000000000 ^ k * (q * valB 1000000000 v) + 1000000000 ^ (k + (v.length + 1)) * b := by
 have key : ∃ r : List Int × Int, z16 K v k q K u 0 0 0 = some r /\ (r.2 = 0 \/ r.2 = 1) /\ r.1.length = u.length /\ DigB 1000000000 r.1 /\ r.1.take k = u.take k /\ r.1.drop (k + (v.length + 1)) = u.drop (k + (v.length + 1)) ∧
   valB 1000000000 r.1 = valB 1000000000 u - 1000000000 ^ k * (q * valB 1000000000 v) + 1000000000 ^ (k + (v.length + 1)) * r.2 := by
  refine z87 (fun m (s : List Int × Int × Int × Int) => z16 K v k q m s.1 s.2.1 s.2.2.1 s.2.2.2) (fun s => ∃ i : Nat, s.2.2.2 = i /\ i <= v.length + 1 /\ s.1.length = u.length /\ DigB 1000000000 s.1 /\ (s.2.1 = 0 \/ s.2.1 = 1) /\ (0 <= s.2.2.1 /\ s.2.2.1 < 1000000000) /\ (i = v.length + 1 -> s.2.2.1 = 0) /\ s.1.take k = u.take k /\ s.1.drop (k + (v.length + 1)) = u.drop (k + (v.length + 1)) ∧
   valB 1000000000 s.1 = valB 1000000000 u - 1000000000 ^ k * (q * valB 1000000000 (v.take i)) + 1000000000 ^ (k + i) * (s.2.1 + s.2.2.1)) (fun s => (v.length + 1 - s.2.2.2 : Int).toNat) _ ?_ ((u, 0, 0, 0) : List Int × Int × Int × Int) (by simp; omega) ⟨0, rfl, by omega, rfl, du, .inl rfl, by simp, by simp, rfl, rfl, by simp [valB]⟩
  rintro m ⟨o, b, c, _⟩ ⟨i, rfl, h0, h1, h2, h3, h4, h5, h6, h7, h8⟩
  dsimp only at h1 h2 h3 h4 h5 h6 h7 h8 ⊢
  by_cases hi : i < v.length + 1
  ·right
   have ev := z1p (by omega) dv i
   have eo := z1p (by omega) h2 (k + i)
   have hm := zky hq ev
   have tv := z2x 1000000000 v i
   have e1 : ((k : Int) + (i : Int)) = ((k + i : Nat) : Int) := by omega
   have e2 : (1000000000 : Int) ^ (k + (i + 1)) = 1000000000 ^ k * 1000000000 ^ i * 1000000000 := by rw [<- Nat.add_assoc, Int.pow_succ, Int.pow_add]
   have hset := fun d => z62 1000000000 o (k + i) d (by omega)
   have hz : ¬ i < v.length -> q * v.getD i 0 = 0 := fun h => by rw [zl0 (by omega)]; simp
   generalize hw : q * v.getD i 0 = w at hm hz
   generalize ho : o.getD (k + i) 0 = z at eo hset
   have hdm := Int.emod_add_mul_ediv (c + w) 1000000000
   have htk : ∀ d, (o.set (k + i) d).take k = u.take k := fun d => by rw [List.take_set_of_le (by omega), h6]
   have hdr : ∀ d, (o.set (k + i) d).drop (k + (v.length + 1)) = u.drop (k + (v.length + 1)) := fun d => by rw [List.drop_set_of_lt (by omega), h7]
   have hc0 : i + 1 = v.length + 1 -> (c + w) / 1000000000 = 0 := fun h => by rw [hz (by omega)]; omega
   have hb2 : 0 <= b /\ b <= 1 := by rcases h3 with rfl | rfl <;> omega
   by_cases hn : z - (c + w) % 1000000000 - b < 0
   ·refine ⟨(o.set (k + i) (z - (c + w) % 1000000000 - b + 1000000000), 1, (c + w) / 1000000000, (i : Int) + 1), ?_, by dsimp only; omega, i + 1, rfl, by omega, by simp [h1], h2.set _ (by omega), .inr rfl, by dsimp only; omega, hc0, htk _, hdr _, ?_⟩
    ·rw [z16]
     by_cases h : i < v.length
     ·simp (discharger := omega) only [runL, e1, hw, ho]
     ·have e := hz h
      subst e
      simp only [Int.add_zero] at hn ⊢
      simp (discharger := omega) only [runL, e1, ho]
    ·dsimp only
     rw [hset, tv, e2]
     rw [Int.pow_add] at h8 ⊢
     subst hw
     generalize (c + q * v.getD i 0) / 1000000000 = Q at *
     generalize (c + q * v.getD i 0) % 1000000000 = R at *
     grind
   ·refine ⟨(o.set (k + i) (z - (c + w) % 1000000000 - b), 0, (c + w) / 1000000000, (i : Int) + 1), ?_, by dsimp only; omega, i + 1, rfl, by omega, by simp [h1], h2.set _ (by omega), .inl rfl, by dsimp only; omega, hc0, htk _, hdr _, ?_⟩
    ·rw [z16]
     by_cases h : i < v.length
     ·simp (discharger := omega) only [runL, e1, hw, ho]
     ·have e := hz h
      subst e
      simp only [Int.add_zero] at hn ⊢
      simp (discharger := omega) only [runL, e1, ho]
    ·dsimp only
     rw [hset, tv, e2]
     rw [Int.pow_add] at h8 ⊢
     subst hw
     generalize (c + q * v.getD i 0) / 1000000000 = Q at *
     generalize (c + q * v.getD i 0) % 1000000000 = R at *
     grind
  ·left
   have : i = v.length + 1 := by omega
   subst this
   have hc := h5 rfl
   subst hc
   rw [List.take_of_length_le (by omega), Int.add_zero] at h8
   exact ⟨(o, b), by rw [z16]; simp (discharger := omega) only [runL], h3, h1, h2, h6, h7, h8⟩
 obtain ⟨⟨u', b⟩, h1, h2⟩ := key
 exact ⟨b, u', by unfold z36; rw [h1]; rfl, h2⟩
theorem znm {u v : List Int} {k : Nat} (hk : k + v.length + 1 <= u.length) (hl : u.length <= 8000000) (hK : 2000000000 < K) (du : DigB 1000000000 u) (dv : DigB 1000000000 v) :
  ∃ (u' : List Int) (b : Int), z3p K u v k = some u' /\ (b = 0 \/ b = 1) /\ u'.length = u.length /\ DigB 1000000000 u' /\ u'.take k = u.take k /\ u'.drop (k + (v.length + 1)) = u.drop (k + (v.length + 1)) ∧
   valB 1000000000 u' + 1000000000 ^ (k + (v.length + 1)) * b = valB 1000000000 u + 1000000000 ^ k * valB 1000000000 v := by
 have key : ∃ r : List Int, z1z K v k K u 0 0 = some r /\ ∃ b : Int, (b = 0 \/ b = 1) /\ r.length = u.length /\ DigB 1000000000 r /\ r.take k = u.take k /\ r.drop (k + (v.length + 1)) = u.drop (k + (v.length + 1)) ∧
   valB 1000000000 r + 1000000000 ^ (k + (v.length + 1)) * b = valB 1000000000 u + 1000000000 ^ k * valB 1000000000 v := by
  refine z87 (fun m (s : List Int × Int × Int) => z1z K v k m s.1 s.2.1 s.2.2) (fun s => ∃ i : Nat, s.2.2 = i /\ i <= v.length + 1 /\ s.1.length = u.length /\ DigB 1000000000 s.1 /\ (s.2.1 = 0 \/ s.2.1 = 1) /\ s.1.take k = u.take k /\ s.1.drop (k + (v.length + 1)) = u.drop (k + (v.length + 1)) ∧
   valB 1000000000 s.1 + 1000000000 ^ (k + i) * s.2.1 = valB 1000000000 u + 1000000000 ^ k * valB 1000000000 (v.take i)) (fun s => (v.length + 1 - s.2.2 : Int).toNat) _ ?_ ((u, 0, 0) : List Int × Int × Int) (by simp; omega) ⟨0, rfl, by omega, rfl, du, .inl rfl, rfl, rfl, by simp [valB]⟩
  rintro m ⟨o, b, _⟩ ⟨i, rfl, h0, h1, h2, h3, h6, h7, h8⟩
  dsimp only at h1 h2 h3 h6 h7 h8 ⊢
  by_cases hi : i < v.length + 1
  ·right
   have ev := z1p (by omega) dv i
   have eo := z1p (by omega) h2 (k + i)
   have tv := z2x 1000000000 v i
   have e1 : ((k : Int) + (i : Int)) = ((k + i : Nat) : Int) := by omega
   have e2 : (1000000000 : Int) ^ (k + (i + 1)) = 1000000000 ^ k * 1000000000 ^ i * 1000000000 := by rw [<- Nat.add_assoc, Int.pow_succ, Int.pow_add]
   have hset := fun d => z62 1000000000 o (k + i) d (by omega)
   have hz : ¬ i < v.length -> v.getD i 0 = 0 := fun h => zl0 (by omega)
   generalize hw : v.getD i 0 = w at ev hz tv
   generalize ho : o.getD (k + i) 0 = z at eo hset
   have hdm := Int.emod_add_mul_ediv (z + b + w) 1000000000
   have htk : ∀ d, (o.set (k + i) d).take k = u.take k := fun d => by rw [List.take_set_of_le (by omega), h6]
   have hdr : ∀ d, (o.set (k + i) d).drop (k + (v.length + 1)) = u.drop (k + (v.length + 1)) := fun d => by rw [List.drop_set_of_lt (by omega), h7]
   have hb2 : 0 <= b /\ b <= 1 := by rcases h3 with rfl | rfl <;> omega
   refine ⟨(o.set (k + i) ((z + b + w) % 1000000000), (z + b + w) / 1000000000, (i : Int) + 1), ?_, by dsimp only; omega, i + 1, rfl, by omega, by simp [h1], h2.set _ (by omega), by dsimp only; omega, htk _, hdr _, ?_⟩
   ·rw [z1z]
    by_cases h : i < v.length
    ·simp (discharger := omega) only [runL, e1, hw, ho]
    ·have e := hz h
     subst e
     simp only [Int.add_zero] at hdm ⊢
     simp (discharger := omega) only [runL, e1, ho]
   ·dsimp only
    rw [hset, tv, e2]
    rw [Int.pow_add] at h8
    generalize (z + b + w) / 1000000000 = Q at *
    generalize (z + b + w) % 1000000000 = R at *
    grind
  ·left
   have : i = v.length + 1 := by omega
   subst this
   rw [List.take_of_length_le (by omega)] at h8
   exact ⟨o, by rw [z1z]; simp (discharger := omega) only [runL], b, h3, h1, h2, h6, h7, h8⟩
 obtain ⟨u', h1, b, h2⟩ := key
 exact ⟨u', b, by unfold z3p; rw [h1]; rfl, h2⟩
theorem zm0 {u v : List Int} {k : Nat} {P vl top ul q g r : Int} (hn : 2 <= v.length) (hk : k + v.length + 1 <= u.length) (hl : u.length <= 8000000) (hK : 2000000000 < K)
  (h : Kn 1000000000 P (v.getD (v.length - 1) 0) (v.getD (v.length - 2) 0) vl top (u.getD (k + v.length - 2) 0) ul q) (hv : v.getD (v.length - 1) 0 < 1000000000) (ht : top < 1000000000 * v.getD (v.length - 1) 0 + 1000000000) (hr : top = g * v.getD (v.length - 1) 0 + r) (hg : q <= g) (hg2 : g < 2000000000) (hr0 : 0 <= r /\ r < 1000000000) :
  ∃ g', z1v K v u k K g r = some g' /\ q <= g' /\ g' <= q + 1 /\ g' < 1000000000 := by
 generalize hv1 : v.getD (v.length - 1) 0 = v1 at *
 generalize hv2 : v.getD (v.length - 2) 0 = v2 at *
 generalize hu3 : u.getD (k + v.length - 2) 0 = u3 at *
 have a1 := h.v1p
 have a2 := h.v2p
 have a3 := h.v2b
 have a4 := h.u3p
 have a5 := h.u3b
 have a6 := h.q0
 have a7 := h.qB
 refine z87 (fun m (s : Int × Int) => z1v K v u k m s.1 s.2) (fun s => top = s.1 * v1 + s.2 /\ q <= s.1 /\ s.1 < 2000000000 /\ 0 <= s.2 /\ s.2 < 1000000000) (fun s => (1000000000 - s.2).toNat) _ ?_ ((g, r) : Int × Int) ?_ ⟨hr, hg, hg2, hr0.1, hr0.2⟩
 ·rintro m ⟨g, r⟩ ⟨b1, b2, b3, b4, b5⟩
  dsimp only at b1 b2 b3 b4 b5 ⊢
  have f1 : idx v (z02 .i64 ((v.length : Int) - 1)) = some v1 := by
   rw [k64 (by omega) (by omega), idxI (by omega) (by omega), <- hv1]; congr 2; omega
  have f2 : idx v (z02 .i64 ((v.length : Int) - 2)) = some v2 := by
   rw [k64 (by omega) (by omega), idxI (by omega) (by omega), <- hv2]; congr 2; omega
  have f3 : idx u (z02 .i64 (z02 .i64 ((k : Int) + (v.length : Int)) - 2)) = some u3 := by
   rw [k64 (a := (k : Int) + (v.length : Int)) (by omega) (by omega), k64 (by omega) (by omega), idxI (by omega) (by omega), <- hu3]; congr 2; omega
  have m1 : 0 <= g * v2 := z7u (by omega) a2
  have m2 := z33 (show 0 <= g by omega) (show v2 <= 999999999 by omega)
  rw [z1v, f1, f2]
  generalize hw : g * v2 = w at m1 m2
  by_cases c : g >= 1000000000 \/ w > r * 1000000000 + u3
  ·have hqg : q < g := by
    rcases c with c | c
    ·omega
    ·exact h.down b1 (by omega) (by omega)
   have hc : (if (decide (g >= 1000000000)) = true then some true else ((some v2).bind fun x235 => (lt (z02 .i64 ((z02 .i64 ((k : Int) + (v.length : Int))) - 2)) fun x239 => ((idx u x239).bind fun x242 => (lt (z02 .u64 ((z02 .u64 (r * 1000000000)) + (IntKind.wrap .u64 x242))) fun x246 => (lt (decide ((z02 .u64 (g * (IntKind.wrap .u64 x235))) > x246)) fun x249 => some x249)))))) = some true := by
    by_cases c1 : g >= 1000000000
    ·rw [decide_eq_true c1]; rfl
    ·rw [decide_eq_false c1]
     simp only [z0e, lta, Bool.false_eq_true, if_false, f3]
     rw [u64w (a := v2) (by omega) (by omega), hw, u64w (a := u3) (by omega) (by omega), ku64 (a := w) (by omega) (by omega), ku64 (a := r * 1000000000) (by omega) (by omega), ku64 (a := r * 1000000000 + u3) (by omega) (by omega), decide_eq_true (by omega)]
   rw [hc]
   by_cases c2 : r + v1 >= 1000000000
   ·left
    have hgB : g <= 1000000000 := by
     refine Int.not_lt.1 fun hlt => ?_
     have := z33 (show 0 <= v1 by omega) (show 1000000001 <= g by omega)
     rw [Int.mul_comm v1 g] at this
     omega
    have hx := h.exitB (g := g - 1) (r := r + v1) (by rw [Int.sub_mul]; omega) (by omega) (by omega) c2
    refine ⟨g - 1, ?_, by omega, by omega, by omega⟩
    simp (discharger := omega) only [runL]
   ·right
    refine ⟨(g - 1, r + v1), ?_, by dsimp only; omega, by dsimp only; rw [Int.sub_mul]; omega, by dsimp only; omega, by dsimp only; omega, by dsimp only; omega, by dsimp only; omega⟩
    have e : decide (r + v1 >= 1000000000) = false := decide_eq_false c2
    simp (discharger := omega) only [runL, e, Bool.false_eq_true]
  ·left
   have c1 : ¬ g >= 1000000000 := fun x => c (.inl x)
   have c3 : ¬ w > r * 1000000000 + u3 := fun x => c (.inr x)
   have hx := h.exitA b1 (by omega) (by omega) (by omega)
   refine ⟨g, ?_, b2, hx, by omega⟩
   rw [decide_eq_false c1]
   simp only [z0e, lta, Bool.false_eq_true, if_false, f3]
   rw [u64w (a := v2) (by omega) (by omega), hw, u64w (a := u3) (by omega) (by omega), ku64 (a := w) (by omega) (by omega), ku64 (a := r * 1000000000) (by omega) (by omega), ku64 (a := r * 1000000000 + u3) (by omega) (by omega), decide_eq_false c3]
   simp only [z0e, tu1a, Bool.false_eq_true, if_false]
 ·dsimp only; omega
end Go.Am.Tryz
/- Plain law: quotient and remainder, greatest common divisor of the program's numbers. -/
namespace Go.Am.Tryz
open Go Go.Am Go.Proofs
variable {K : Nat}
theorem zhu (u : List Int) (i j : Nat) : (u.drop i).getD j 0 = u.getD (i + j) 0 := by
 rw [zAb, List.getElem?_drop, zAb]
section
variable {p X Y V M HI LO U g q b c rr M1 M2 U1 U2 P v1 v2 vl t1 t2 t3 ul top : Int}
theorem kd1 : vl + P * v2 + P * 1000000000 * v1 = P * (1000000000 * v1 + v2) + vl := by grind
theorem kd2 : ul + P * t3 + P * 1000000000 * t2 + P * 1000000000 * 1000000000 * t1 = P * (1000000000 * (t1 * 1000000000 + t2) + t3) + ul := by grind
theorem kd3 (hu : U < p * 1000000000 * V) (hm : U = LO + p * (M + Y * 1000000000 * HI)) (h0 : 0 <= LO) (p0 : 0 < p) (Y0 : 0 < Y) (hV : V < Y) (hM : 0 <= M) (hH : 0 <= HI) : HI = 0 := by
 refine Int.le_antisymm (Int.not_lt.1 fun hlt => ?_) hH
 have a1 := z33 (Int.le_of_lt Y0) (show 1 <= HI by omega)
 have a2 := z33 (Int.le_of_lt p0) (show V + 1 <= Y by omega)
 have a3 := z33 (Int.le_of_lt p0) (show Y * 1000000000 <= M + Y * 1000000000 * HI by grind)
 grind
theorem kd4 (hu : U < p * 1000000000 * V) (hm : U = LO + p * (M + X * 0)) (h0 : 0 <= LO) (p0 : 0 < p) : M < 1000000000 * V := by
 refine Int.not_le.1 fun hle => ?_
 have a1 := z33 (Int.le_of_lt p0) hle
 grind
theorem kd5 (h : rr + V * q = M) (h0 : 0 <= rr) : q * V <= M := by grind
theorem kd5' (h : rr + V * q = M) (h0 : rr < V) : M < (q + 1) * V := by grind
theorem kd6 (hM : M = P * (1000000000 * top + t3) + ul) (hV : V = P * (1000000000 * v1 + v2) + vl) (h : M < 1000000000 * V) (P0 : 0 < P) (b2 : v2 < 1000000000) (b3 : 0 <= t3) (u0 : 0 <= ul) (vb : vl < P) : top < 1000000000 * v1 + 1000000000 := by
 refine Int.not_le.1 fun hle => ?_
 have a1 := z33 (Int.le_of_lt P0) (z33 (show (0:Int) <= 1000000000 by omega) hle)
 have a2 := z33 (Int.le_of_lt P0) (show v2 <= 999999999 by omega)
 have a3 := z7u (Int.le_of_lt P0) b3
 subst hM hV
 grind
theorem kd7 (p0 : 0 < p) (h1 : U1 = LO + p * (M1 + X * 0)) (h2 : U1 = U - p * (g * V) + p * X * b) (h3 : U = LO + p * (M + X * 0)) : M1 = M - g * V + X * b := by
 have : p * M1 = p * (M - g * V + X * b) := by grind
 exact Int.eq_of_mul_eq_mul_left (by omega) this
theorem kd8 (h : rr + V * q = M) (h1 : rr < V) (hV : 0 < V) (hm : M1 = M - g * V + X * 0) (h0 : 0 <= M1) (hq : q <= g) : g = q := by
 refine Int.le_antisymm (Int.not_lt.1 fun hlt => ?_) hq
 have a1 := z33 (Int.le_of_lt hV) (show q + 1 <= g by omega)
 grind
theorem kd9 (h : rr + V * q = M) (h0 : 0 <= rr) (hm : M1 = M - g * V + X * 1) (h1 : M1 < X) (hq : q <= g) (hq1 : g <= q + 1) : g = q + 1 := by
 refine Int.le_antisymm hq1 (Int.not_lt.1 fun hlt => ?_)
 have : g = q := by omega
 subst this
 grind
theorem kd10 (p0 : 0 < p) (h1 : U2 = LO + p * (M2 + X * 0)) (h2 : U2 + p * X * c = U1 + p * V) (h3 : U1 = LO + p * (M1 + X * 0)) (h4 : M1 = M - (q + 1) * V + X * 1) : M2 = M - q * V + X * (1 - c) := by
 have : p * M2 = p * (M - q * V + X * (1 - c)) := by grind
 exact Int.eq_of_mul_eq_mul_left (by omega) this
theorem kd11 (h : rr + V * q = M) (h0 : 0 <= rr) (hm : M2 = M - q * V + X * (1 - c)) (h1 : M2 < X) (hc : c = 0 \/ c = 1) : c = 1 := by
 rcases hc with rfl | rfl
 ·grind
 ·rfl
theorem kd12 (h1 : U1 = LO + p * (M1 + X * 0)) (hm : M1 = M - q * V) (h3 : U = LO + p * (M + X * 0)) : U1 + p * (q * V) = U := by grind
theorem kd13 (p0 : 0 < p) (h1 : U1 = LO + p * (M1 + X * 0)) (hm : M1 = M - q * V) (h : rr + V * q = M) (hr : rr < V) (hl : LO < p) : U1 < p * V := by
 have a1 := z33 (Int.le_of_lt p0) (show M1 + 1 <= V by grind)
 grind
end
theorem zhv {u v : List Int} {i : Nat} (hn : 2 <= v.length) (hk : i + v.length + 1 <= u.length) (hl : u.length <= 8000000) (hK : 2000000000 < K) (du : DigB 1000000000 u) (cv : CanB 1000000000 v) (hu : valB 1000000000 u < 1000000000 ^ (i + 1) * valB 1000000000 v) :
  ∃ g b u1 u2 q, z1v K v u i K ((u.getD (i + v.length) 0 * 1000000000 + u.getD (i + v.length - 1) 0) / v.getD (v.length - 1) 0) ((u.getD (i + v.length) 0 * 1000000000 + u.getD (i + v.length - 1) 0) % v.getD (v.length - 1) 0) = some g /\ 0 <= g /\ g < 1000000000 ∧
   z36 K u v i g = some (b, u1) /\ (b = true -> z3p K u1 v i = some u2 /\ q = g - 1) /\ (b = false -> u2 = u1 /\ q = g) /\ 0 <= q /\ q < 1000000000 /\ u2.length = u.length /\ DigB 1000000000 u2 ∧
   valB 1000000000 u2 + 1000000000 ^ i * (q * valB 1000000000 v) = valB 1000000000 u /\ valB 1000000000 u2 < 1000000000 ^ i * valB 1000000000 v /\ 1 <= v.getD (v.length - 1) 0 /\ v.getD (v.length - 1) 0 < 1000000000 := by
 obtain ⟨n, hnv⟩ : ∃ n, v.length = n + 2 := ⟨v.length - 2, by omega⟩
 have dv := cv.1
 have ev1 := z1p (by omega) dv (n + 1)
 have ev2 := z1p (by omega) dv n
 have et1 := z1p (by omega) du (i + n + 2)
 have et2 := z1p (by omega) du (i + n + 1)
 have et3 := z1p (by omega) du (i + n)
 -- the divisor's leading digits
 have hv1 : 1 <= v.getD (n + 1) 0 := by
  have : v.getD (n + 1) 0 ≠ 0 := fun e => cv.2 (by
   rw [List.getLast?_eq_getElem?, hnv]
   have hi : n + 2 - 1 < v.length := by omega
   rw [zAb, zAh (by omega)] at e
   rw [zAh hi]
   simp at e ⊢
   exact e)
  omega
 have hV : valB 1000000000 v = 1000000000 ^ n * (1000000000 * v.getD (n + 1) 0 + v.getD n 0) + valB 1000000000 (v.take n) := by
  have h1 := z2x 1000000000 v n
  have h2 := z2x 1000000000 v (n + 1)
  rw [List.take_of_length_le (by omega)] at h2
  rw [h2, h1, Int.pow_succ, kd1]
 have hVn : valB 1000000000 v < 1000000000 ^ (n + 2) := by rw [<- hnv]; exact z4a (by omega) v dv
 -- the middle of what is divided
 have hmid := zht u i (n + 3) (by omega)
 have hM : valB 1000000000 ((u.drop i).take (n + 3)) = 1000000000 ^ n * (1000000000 * (u.getD (i + n + 2) 0 * 1000000000 + u.getD (i + n + 1) 0) + u.getD (i + n) 0) + valB 1000000000 ((u.drop i).take n) := by
  have h1 := z2x 1000000000 (u.drop i) n
  have h2 := z2x 1000000000 (u.drop i) (n + 1)
  have h3 := z2x 1000000000 (u.drop i) (n + 2)
  rw [zhu] at h1 h2 h3
  rw [h3, h2, h1, Int.pow_succ 1000000000 (n + 1), Int.pow_succ 1000000000 n, <- Nat.add_assoc, <- Nat.add_assoc, kd2]
 have dlo := du.take i
 have lo0 := z0w (B := 1000000000) (by omega) _ dlo
 have lo1 := z4a (B := 1000000000) (by omega) _ dlo
 rw [List.length_take, Nat.min_eq_left (by omega)] at lo1
 have dmi := (du.drop i).take (n + 3)
 have mi0 := z0w (B := 1000000000) (by omega) _ dmi
 have dhi := du.drop (i + (n + 3))
 have hi0 := z0w (B := 1000000000) (by omega) _ dhi
 have p0 : 0 < (1000000000 : Int) ^ i := Int.pow_pos (by omega)
 have pn0 : 0 < (1000000000 : Int) ^ n := Int.pow_pos (by omega)
 have pn3 : 0 < (1000000000 : Int) ^ (n + 3) := Int.pow_pos (by omega)
 have ep1 : (1000000000 : Int) ^ (i + 1) = 1000000000 ^ i * 1000000000 := Int.pow_succ _ _
 have ep3 : (1000000000 : Int) ^ (n + 3) = 1000000000 ^ (n + 2) * 1000000000 := Int.pow_succ _ _
 have dul := (du.drop i).take n
 have ul0 := z0w (B := 1000000000) (by omega) _ dul
 have ul1 := z4a (B := 1000000000) (by omega) _ dul
 rw [List.length_take, List.length_drop, Nat.min_eq_left (by omega)] at ul1
 have dvl := dv.take n
 have vl0 := z0w (B := 1000000000) (by omega) _ dvl
 have vl1 := z4a (B := 1000000000) (by omega) _ dvl
 rw [List.length_take, Nat.min_eq_left (by omega)] at vl1
 have hmin := fun (g : Int) (hg : 0 <= g /\ g < 1000000000) => zlz (K := K) (u := u) (v := v) (k := i) (q := g) hk hl hK hg du dv
 have hplu := fun (u1 : List Int) (h1 : u1.length = u.length) (d1 : DigB 1000000000 u1) => znm (K := K) (u := u1) (v := v) (k := i) (by omega) (by omega) hK d1 dv
 rw [show i + v.length = i + n + 2 by omega, show i + n + 2 - 1 = i + n + 1 by omega, show v.length - 1 = n + 1 by omega]
 generalize hVV : valB 1000000000 v = V at *
 generalize hMM : valB 1000000000 ((u.drop i).take (n + 3)) = M at *
 generalize hLL : valB 1000000000 (u.take i) = LO at *
 generalize hHH : valB 1000000000 (u.drop (i + (n + 3))) = HI at *
 have hV0 : 0 < V := by
  have := z33 (Int.le_of_lt pn0) (show 1 <= 1000000000 * v.getD (n + 1) 0 + v.getD n 0 by omega)
  omega
 have hHI : HI = 0 := by
  rw [ep3] at hmid
  rw [ep1] at hu
  exact kd3 hu hmid lo0 p0 (Int.pow_pos (by omega)) hVn mi0 hi0
 rw [hHI] at hmid
 have hMV : M < 1000000000 * V := by
  rw [ep1] at hu
  exact kd4 hu hmid lo0 p0
 -- the true digit
 have q0 : 0 <= M / V := Int.ediv_nonneg mi0 (by omega)
 have qB : M / V < 1000000000 := Int.ediv_lt_of_lt_mul hV0 hMV
 have hdm := Int.emod_add_mul_ediv M V
 have r0 := Int.emod_nonneg M (show V ≠ 0 by omega)
 have r1 := Int.emod_lt_of_pos M hV0
 generalize hq : M / V = q at *
 generalize M % V = rr at *
 have hkn : Kn 1000000000 (1000000000 ^ n) (v.getD (n + 1) 0) (v.getD n 0) (valB 1000000000 (v.take n)) (u.getD (i + n + 2) 0 * 1000000000 + u.getD (i + n + 1) 0) (u.getD (i + n) 0) (valB 1000000000 ((u.drop i).take n)) q := by
  refine ⟨by omega, pn0, hv1, ev2.1, ev2.2, vl0, vl1, by omega, et3.1, et3.2, ul0, ul1, q0, qB, ?_, ?_⟩
  ·rw [<- hM, <- hV]; exact kd5 hdm r0
  ·rw [<- hM, <- hV]; exact kd5' hdm r1
 have ht : u.getD (i + n + 2) 0 * 1000000000 + u.getD (i + n + 1) 0 < 1000000000 * v.getD (n + 1) 0 + 1000000000 := kd6 hM hV hMV pn0 ev2.2 et3.1 ul0 vl1
 generalize htop : u.getD (i + n + 2) 0 * 1000000000 + u.getD (i + n + 1) 0 = top at *
 have htd := Int.emod_add_mul_ediv top (v.getD (n + 1) 0)
 have hfirst := hkn.first
 have g2 : top / v.getD (n + 1) 0 < 2000000000 := Int.ediv_lt_of_lt_mul (by omega) (by omega)
 have rt0 := Int.emod_nonneg top (show v.getD (n + 1) 0 ≠ 0 by omega)
 have rt1 := Int.emod_lt_of_pos top (show 0 < v.getD (n + 1) 0 by omega)
 obtain ⟨g, w1, w2, w3, w4⟩ := zm0 (K := K) (u := u) (v := v) (k := i) (P := 1000000000 ^ n) (vl := valB 1000000000 (v.take n)) (top := top) (ul := valB 1000000000 ((u.drop i).take n)) (q := q) (g := top / v.getD (n + 1) 0) (r := top % v.getD (n + 1) 0) hn hk hl hK
  (by rw [hnv, show n + 2 - 1 = n + 1 by omega, show n + 2 - 2 = n by omega, show i + (n + 2) - 2 = i + n by omega]; exact hkn) (by rw [hnv, show n + 2 - 1 = n + 1 by omega]; omega) (by rw [hnv, show n + 2 - 1 = n + 1 by omega]; omega) (by rw [hnv, show n + 2 - 1 = n + 1 by omega, Int.mul_comm]; omega) hfirst g2 (by omega)
 obtain ⟨b, u1, m1, m2, m3, m4, m5, m6, m7⟩ := hmin g (by omega)
 have hmid1 := zht u1 i (n + 3) (by omega)
 have dm1 := (m4.drop i).take (n + 3)
 have m10 := z0w (B := 1000000000) (by omega) _ dm1
 have m11 := z4a (B := 1000000000) (by omega) _ dm1
 rw [List.length_take, List.length_drop, Nat.min_eq_left (by omega)] at m11
 rw [show i + (n + 3) = i + (v.length + 1) by omega, m6, show i + (v.length + 1) = i + (n + 3) by omega, hHH, hHI, m5, hLL] at hmid1
 rw [show i + (v.length + 1) = i + (n + 3) by omega, Int.pow_add] at m7
 generalize hM1 : valB 1000000000 ((u1.drop i).take (n + 3)) = M1 at *
 have hM1e : M1 = M - g * V + 1000000000 ^ (n + 3) * b := kd7 p0 hmid1 m7 hmid
 rcases m2 with rfl | rfl
 ·-- no borrow: the guess was right
  have hgq : g = q := kd8 hdm r1 hV0 hM1e m10 w2
  subst hgq
  have hM1f : M1 = M - g * V := by rw [hM1e]; omega
  exact ⟨g, false, u1, u1, g, w1, q0, w4, by simpa using m1, by simp, by simp, q0, qB, m3, m4, kd12 hmid1 hM1f hmid, kd13 p0 hmid1 hM1f hdm r1 lo1, hv1, ev1.2⟩
 ·have hgq : g = q + 1 := kd9 hdm r0 hM1e m11 w2 w3
  subst hgq
  obtain ⟨u2, c, s1, s2, s3, s4, s5, s6, s7⟩ := hplu u1 m3 m4
  have hmid2 := zht u2 i (n + 3) (by omega)
  have dm2 := (s4.drop i).take (n + 3)
  have m20 := z0w (B := 1000000000) (by omega) _ dm2
  have m21 := z4a (B := 1000000000) (by omega) _ dm2
  rw [List.length_take, List.length_drop, Nat.min_eq_left (by omega)] at m21
  rw [show i + (n + 3) = i + (v.length + 1) by omega, s6, m6, show i + (v.length + 1) = i + (n + 3) by omega, hHH, hHI, s5, m5, hLL] at hmid2
  rw [show i + (v.length + 1) = i + (n + 3) by omega, Int.pow_add] at s7
  generalize hM2 : valB 1000000000 ((u2.drop i).take (n + 3)) = M2 at *
  have hM2e : M2 = M - q * V + 1000000000 ^ (n + 3) * (1 - c) := kd10 p0 hmid2 s7 hmid1 hM1e
  have hc : c = 1 := kd11 hdm r0 hM2e m21 s2
  subst hc
  have hM2f : M2 = M - q * V := by rw [hM2e]; omega
  exact ⟨q + 1, true, u1, u2, q, w1, by omega, w4, by simpa using m1, fun _ => ⟨s1, by omega⟩, by simp, q0, qB, by omega, s4, kd12 hmid2 hM2f hmid, kd13 p0 hmid2 hM2f hdm r1 lo1, hv1, ev1.2⟩
end Go.Am.Tryz
/- Plain law: Div and Gcd of the program's numbers. -/
namespace Go.Am.Tryz
open Go Go.Am Go.Proofs
variable {K : Nat}
theorem kf1 {Y p Z V U U2 O q : Int} (h : U + O * V = Z) (h2 : U2 + p * (q * V) = U) : U2 + (O + p * (q - 0)) * V = Z := by grind
theorem zfs {o w v u1 u2 : List Int} {i m : Nat} {g q a1 a2 v1 : Int} {b : Bool} (hn : 2 <= v.length) (hk : i + v.length + 1 <= w.length) (hl : w.length <= 8000000) (ho : i < o.length) (h1 : w.getD (i + v.length) 0 = a1) (h2 : w.getD (i + v.length - 1) 0 = a2) (h3 : v.getD (v.length - 1) 0 = v1)
  (b1 : 0 <= a1 /\ a1 < 1000000000) (b2 : 0 <= a2 /\ a2 < 1000000000) (b3 : 1 <= v1 /\ v1 < 1000000000) (hg : 0 <= g /\ g < 1000000000) (hq : 0 <= q /\ q < 1000000000) (d1 : z1v K v w i K ((a1 * 1000000000 + a2) / v1) ((a1 * 1000000000 + a2) % v1) = some g) (d4 : z36 K w v i g = some (b, u1)) (d5 : b = true -> z3p K u1 v i = some u2 /\ q = g - 1) (d6 : b = false -> u2 = u1 /\ q = g) :
  z1g K v (m + 1) o w i = z1g K v m (o.set i q) u2 ((i : Int) - 1) := by
 have t1 : ((i : Int) + (v.length : Int)).toNat = i + v.length := by omega
 have t2 : ((i : Int) + (v.length : Int) - 1).toNat = i + v.length - 1 := by omega
 have t3 : ((v.length : Int) - 1).toNat = v.length - 1 := by omega
 have hq1 : 0 <= (a1 * 1000000000 + a2) / v1 := Int.ediv_nonneg (by omega) (by omega)
 have hq2 : (a1 * 1000000000 + a2) / v1 <= a1 * 1000000000 + a2 := Int.ediv_le_self _ (by omega)
 rw [z1g]
 cases b with
 | true =>
  obtain ⟨p1, p2⟩ := d5 rfl
  subst p2
  clear d5 d6
  simp (discharger := omega) only [runL, t1, t2, t3, h1, h2, h3, d1, d4, p1]
 | false =>
  obtain ⟨p1, p2⟩ := d6 rfl
  subst p1 p2
  clear d5 d6
  simp (discharger := omega) only [runL, t1, t2, t3, h1, h2, h3, d1, d4, Bool.false_eq_true]
theorem zm1 {u v : List Int} {J : Nat} (hn : 2 <= v.length) (hJ : J + v.length = u.length) (hJ1 : 1 <= J) (hl : u.length <= 8000000) (hK : 2000000000 < K) (du : DigB 1000000000 u) (cv : CanB 1000000000 v) (hu : valB 1000000000 u < 1000000000 ^ J * valB 1000000000 v) :
  ∃ r : List Int × List Int, z1g K v K (List.replicate J 0) u ((J : Int) - 1) = some r /\ r.1.length = J /\ r.2.length = u.length /\ DigB 1000000000 r.1 /\ DigB 1000000000 r.2 /\ valB 1000000000 r.2 + valB 1000000000 r.1 * valB 1000000000 v = valB 1000000000 u /\ valB 1000000000 r.2 < valB 1000000000 v := by
 refine z87 (fun m (s : List Int × List Int × Int) => z1g K v m s.1 s.2.1 s.2.2) (fun s => ∃ j : Nat, s.2.2 = (j : Int) - 1 /\ j <= J /\ s.1.length = J /\ s.2.1.length = u.length /\ DigB 1000000000 s.1 /\ DigB 1000000000 s.2.1 /\ (∀ i < j, s.1.getD i 0 = 0) /\ valB 1000000000 s.2.1 + valB 1000000000 s.1 * valB 1000000000 v = valB 1000000000 u /\ valB 1000000000 s.2.1 < 1000000000 ^ j * valB 1000000000 v) (fun s => (s.2.2 + 1).toNat) _ ?_ ((List.replicate J 0, u, (J : Int) - 1) : List Int × List Int × Int) (by dsimp only; omega) ⟨J, rfl, Nat.le_refl _, by simp, rfl, .zeros (by omega) _, du, fun i hi => by simp [zAb, hi], by simp [z8n], hu⟩
 rintro m ⟨o, w, _⟩ ⟨j, rfl, hj, h1, h2, h3, h4, h5, h6, h7⟩
 dsimp only at h1 h2 h3 h4 h5 h6 h7 ⊢
 by_cases h0 : j = 0
 ·subst h0
  left
  rw [Int.pow_zero, Int.one_mul] at h7
  exact ⟨(o, w), by rw [z1g]; simp (discharger := omega) only [runL], h1, h2, h3, h4, h6, h7⟩
 ·right
  obtain ⟨i, rfl⟩ : ∃ i, j = i + 1 := ⟨j - 1, by omega⟩
  have e1 : ((i + 1 : Nat) : Int) - 1 = i := by omega
  rw [e1]
  obtain ⟨g, b, u1, u2, q, d1, d2, d3, d4, d5, d6, d7, d8, d9, d10, d11, d12, d13, d14⟩ := zhv (K := K) (u := w) (v := v) (i := i) hn (by omega) (by omega) hK h4 cv h7
  have hz := h5 i (by omega)
  have hset := z62 1000000000 o i q (by omega)
  rw [hz] at hset
  have et1 := z1p (by omega) h4 (i + v.length)
  have et2 := z1p (by omega) h4 (i + v.length - 1)
  have hrun := zfs (m := m) (o := o) (a1 := w.getD (i + v.length) 0) (a2 := w.getD (i + v.length - 1) 0) (v1 := v.getD (v.length - 1) 0) hn (show i + v.length + 1 <= w.length by omega) (by omega) (by omega) rfl rfl rfl et1 et2 ⟨d13, d14⟩ ⟨d2, d3⟩ ⟨d7, d8⟩ d1 d4 d5 d6
  refine ⟨(o.set i q, u2, (i : Int) - 1), hrun, by dsimp only; omega, i, rfl, by omega, by simp [h1], by dsimp only; omega, h3.set _ ⟨d7, d8⟩, d10, fun k hk => by dsimp only; rw [z6u (by omega), if_neg (by omega)]; exact h5 k (by omega), ?_, d12⟩
  dsimp only
  rw [hset]
  exact kf1 (Y := 0) h6 d11
theorem z88 {m n : Int} {x y : List Int} (hx : NumN m x) (hy : NumN n y) (h : m <= n) : x.length <= y.length := zd5 (B := 1000000000) (by omega) hx.1 hy.1.1 (by rw [hx.2, hy.2]; exact h)
theorem kf2 {a b c : Int} (hc : 0 < c) (hb : 0 < b) : (a * c) / (b * c) = a / b /\ (a * c) % (b * c) = (a % b) * c := by
 refine ⟨Int.mul_ediv_mul_of_pos_left a b hc, ?_⟩
 rw [Int.mul_comm a c, Int.mul_comm b c, Int.mul_emod_mul_of_pos a b hc, Int.mul_comm]
theorem zey {x y : List Int} {a b : Int} (hx : x.length <= 3000000) (hy : y.length <= 3000000) (hK : 2000000000 < K) (nx : NumN a x) (ny : NumN b y) (hb : 0 < b) :
  ∃ q r, z3v K x y = some (q, r) /\ NumN (a / b) q /\ NumN (a % b) r /\ q.length <= x.length /\ r.length <= y.length := by
 have a0 := nx.nonneg
 suffices h : ∃ q r, z3v K x y = some (q, r) /\ NumN (a / b) q /\ NumN (a % b) r by
  obtain ⟨q, r, h1, h2, h3⟩ := h
  have e1 := Int.emod_lt_of_pos a hb
  exact ⟨q, r, h1, h2, h3, z88 h2 nx (Int.ediv_le_self _ a0), z88 h3 ny (by omega)⟩
 have hcmp := zet (K := K) (by omega) (by omega) hK nx ny
 unfold z3v
 rw [hcmp, z0e]
 by_cases hab : a < b
 ·refine ⟨[], x, ?_, by rw [Int.ediv_eq_zero_of_lt a0 hab]; exact .nil, by rw [Int.emod_eq_of_lt a0 hab]; exact nx⟩
  simp (discharger := omega) only [runL]
 ·have hcond : decide ((if a < b then (-1 : Int) else if a = b then 0 else 1) < 0) = false := by
   rw [if_neg hab]; split <;> rfl
  rw [hcond]
  simp only [Bool.false_eq_true, if_false]
  have hy0 : y.length ≠ 0 := fun e => by have := ny.len0.1 e; omega
  by_cases h1 : y.length = 1
  ·obtain ⟨d, rfl⟩ := List.length_eq_one_iff.1 h1
   have hd := ny.1.1 d (by simp)
   have hbd : b = d := by rw [<- ny.2]; simp [valB]
   subst hbd
   obtain ⟨q, r, s1, s2, s3, s4, s5⟩ := zeu (K := K) (x := x) (a := a) (d := b) (by omega) hK nx (by omega)
   refine ⟨q, r, ?_, s2, s3⟩
   have e0 : idx [b] 0 = some b := rfl
   rw [if_pos (by simp), e0, z0e, s1, z0e]
  ·rw [if_neg (by simp; omega)]
   obtain ⟨yr, d, hyd⟩ := z8o y (by rintro rfl; exact hy0 rfl)
   have hd := ny.1.1 d (by rw [hyd]; simp)
   have hidx : idx y (z02 .i64 ((y.length : Int) - 1)) = some d := by
    rw [k64 (by omega) (by omega), idxI (by omega) (by omega)]
    congr 1
    subst hyd
    rw [show ((((yr ++ [d]).length : Nat) : Int) - 1).toNat = yr.length by simp, zAb]
    simp
   have hby1 : 1 <= 1000000000 / (d + 1) := by
    rw [Int.le_ediv_iff_mul_le (by omega)]; omega
   have hby2 : 1000000000 / (d + 1) <= 1000000000 := Int.ediv_le_self _ (by omega)
   have hd1 : d ≠ 0 := fun e => ny.1.2 (by rw [hyd, e]; simp)
   have hby3 : 1000000000 / (d + 1) < 1000000000 := Int.ediv_lt_of_lt_mul (by omega) (by omega)
   rw [hidx, z0e, u64w (a := d) (by omega) (by omega), ku64 (a := d + 1) (by omega) (by omega), if_pos (by omega), zq3 (by omega), ku64 (by omega) (by omega), lta]
   rw [u32w (by omega) (by omega)]
   generalize 1000000000 / (d + 1) = c at hby1 hby2 hby3
   have nc : NumN c [c] := .one (by omega) hby3
   obtain ⟨u0, m1, m2, m3⟩ := z8p (K := K) (x := x) (y := [c]) (by simp; omega) hK nx nc
   obtain ⟨v, w1, w2, w3⟩ := z8p (K := K) (x := y) (y := [c]) (by simp; omega) hK ny nc
   simp only [List.length_singleton] at m3 w3
   have ac : a <= a * c := by have := z33 a0 hby1; omega
   have bc : b <= b * c := by have := z33 (show 0 <= b by omega) hby1; omega
   have abc : b * c <= a * c := Int.mul_le_mul_of_nonneg_right (by omega) (by omega)
   have lx := z88 nx m2 ac
   have ly := z88 ny w2 bc
   have hy2 : 2 <= y.length := by omega
   have hv2 : 2 <= v.length := by omega
   have lv := z88 w2 m2 abc
   have hl0 : z3a K x K (u0 ++ [0]) = some (u0 ++ [0]) := by
    obtain ⟨k, rfl⟩ : ∃ k, K = k + 1 := ⟨K - 1, by omega⟩
    rw [z3a]
    have e : decide (((u0 ++ [0]).length : Int) <= (x.length : Int)) = false := decide_eq_false (by simp; omega)
    rw [e]; rfl
   have du : DigB 1000000000 (u0 ++ [0]) := m2.1.1.snoc (by omega)
   have hvu : valB 1000000000 (u0 ++ [0]) = a * c := by rw [z7q, m2.2]; omega
   have hlen : (u0 ++ [(0 : Int)]).length = u0.length + 1 := by simp
   obtain ⟨J, hJ⟩ : ∃ J, J + v.length = u0.length + 1 := ⟨u0.length + 1 - v.length, by omega⟩
   have hbound : a * c < 1000000000 ^ J * (b * c) := by
    have b1 := z4a (B := 1000000000) (by omega) u0 m2.1.1
    have b2 := zhj (B := 1000000000) (by omega) w2.1 (by intro e; rw [e] at hv2; simp at hv2)
    rw [m2.2] at b1
    rw [w2.2] at b2
    have pJ : (0 : Int) < 1000000000 ^ J := Int.pow_pos (by omega)
    have b3 := z33 (Int.le_of_lt pJ) b2
    rw [<- Int.pow_add, show J + (v.length - 1) = u0.length by omega] at b3
    omega
   obtain ⟨⟨o, w⟩, l1, l2, l3, l4, l5, l6, l7⟩ := zm1 (K := K) (u := u0 ++ [0]) (v := v) (J := J) (by omega) (by omega) (by omega) (by omega) hK du w2.1 (by rw [hvu, w2.2]; exact hbound)
   dsimp only at l2 l3 l4 l5 l6 l7
   rw [hvu, w2.2] at l6
   rw [w2.2] at l7
   have o0 := z0w (B := 1000000000) (by omega) o l4
   have w0 := z0w (B := 1000000000) (by omega) w l5
   have hbc0 : 0 < b * c := Int.mul_pos hb (by omega)
   obtain ⟨q1, q2⟩ := zaj (n := a * c) (d := b * c) (q := valB 1000000000 o) (r := valB 1000000000 w) hbc0 (by rw [Int.mul_comm (b * c)]; omega) w0 l7
   obtain ⟨k1, k2⟩ := kf2 (a := a) (b := b) (c := c) (by omega) hb
   rw [k1] at q1
   rw [k2] at q2
   obtain ⟨t, t1, t2, t3, t4⟩ := zai (K := K) (B := 1000000000) (l := w) (by omega) hK l5
   obtain ⟨z, z1, z2, z3, z4⟩ := zai (K := K) (B := 1000000000) (l := o) (by omega) hK l4
   obtain ⟨rq, rr, s1, s2, s3, s4, s5⟩ := zeu (K := K) (x := t) (a := a % b * c) (d := c) (by omega) hK ⟨t2, by rw [t3]; exact q2⟩ (by omega)
   rw [Int.mul_ediv_cancel _ (by omega)] at s2
   refine ⟨z, rq, ?_, ⟨z2, by rw [z3]; exact q1⟩, s2⟩
   rw [m1, z0e, if_pos (by simp; omega), w1, z0e, hl0, z0e, tu1a, lta, hlen]
   have e1 : (((u0.length + 1 : Nat) : Int) - (v.length : Int)) = (J : Int) := by omega
   rw [e1, k64 (by omega) (by omega), if_pos (by omega), lta, k64 (by omega) (by omega), Int.toNat_natCast, l1, z0e, tu2a, t1, z0e, s1, z0e, z1, z0e]
theorem zhw (a b : Nat) (hb : 0 < b) : Nat.gcd b (a % b) = Nat.gcd a b := by
 rw [Nat.gcd_comm a b, Nat.gcd_rec b a, Nat.gcd_comm]
theorem zez : ∀ (n k : Nat) {x y : List Int} {a b : Nat}, a * b < 2 ^ n -> b <= a -> n + 2 < k -> x.length <= 3000000 -> y.length <= 3000000 -> 2000000000 < K -> NumN a x -> NumN b y -> ∃ z, z0z K k x y = some z /\ NumN (Nat.gcd a b : Nat) z := by
 intro n
 induction n with
 | zero =>
  intro k x y a b hab hba hk hx hy hK nx ny
  have hb : b = 0 := by
   rcases Nat.eq_zero_or_pos b with h | h
   ·exact h
   ·have := Nat.mul_pos (show 0 < a by omega) h; omega
  subst hb
  obtain ⟨k, rfl⟩ : ∃ m, k = m + 1 := ⟨k - 1, by omega⟩
  have : y = [] := ny.nil_iff.2 rfl
  subst this
  exact ⟨x, by rw [z0z]; rfl, by rw [Nat.gcd_zero_right]; exact nx⟩
 | succ n ih =>
  intro k x y a b hab hba hk hx hy hK nx ny
  obtain ⟨k, rfl⟩ : ∃ m, k = m + 1 := ⟨k - 1, by omega⟩
  by_cases hb : b = 0
  ·subst hb
   have : y = [] := ny.nil_iff.2 rfl
   subst this
   exact ⟨x, by rw [z0z]; rfl, by rw [Nat.gcd_zero_right]; exact nx⟩
  ·obtain ⟨q, r, d1, d2, d3, d4, d5⟩ := zey (K := K) hx hy hK nx ny (by omega)
   have e : ((a : Int) % (b : Int)) = ((a % b : Nat) : Int) := by simp
   rw [e] at d3
   have hr := Nat.mod_lt a (show 0 < b by omega)
   have hprod : b * (a % b) < 2 ^ n := by
    have h1 : b + a % b <= a := by
     have h2 := Nat.div_add_mod a b
     have h3 : 1 <= a / b := (Nat.le_div_iff_mul_le (by omega)).2 (by omega)
     have h4 := Nat.mul_le_mul_left b h3
     omega
    have h5 := Nat.mul_le_mul_left b (show 2 * (a % b) <= a by omega)
    rw [Nat.pow_succ] at hab
    have h6 : b * (2 * (a % b)) = 2 * (b * (a % b)) := by grind
    rw [Nat.mul_comm a b] at hab
    omega
   obtain ⟨z, z1, z2⟩ := ih k hprod (by omega) (by omega) hy (by omega) hK ny d3
   refine ⟨z, ?_, by rw [<- zhw a b (by omega)]; exact z2⟩
   have hy0 : y.length ≠ 0 := fun e => by have := ny.len0.1 e; omega
   rw [z0z, if_pos (decide_eq_true (by omega)), d1, z0e, z1]
theorem zd8 {n : Nat} {x : List Int} (h : NumN n x) : n < 2 ^ (30 * x.length) := by
 have h1 := z4a (B := 1000000000) (by omega) x h.1.1
 rw [h.2] at h1
 have h2 : ((1000000000 : Nat) : Int) ^ x.length = ((1000000000 ^ x.length : Nat) : Int) := by simp
 have h3 : n < 1000000000 ^ x.length := by
  have h4 : (1000000000 : Int) = ((1000000000 : Nat) : Int) := rfl
  rw [h4, h2] at h1
  omega
 have h5 : (1000000000 : Nat) ^ x.length <= (2 ^ 30) ^ x.length := Nat.pow_le_pow_left (by decide) _
 rw [<- Nat.pow_mul] at h5
 omega
theorem zl1 {x y : List Int} {a b : Nat} (hx : x.length <= 3000000) (hy : y.length <= 3000000) (hK : 2000000000 < K) (nx : NumN a x) (ny : NumN b y) : ∃ z, z5b K x y = some z /\ NumN (Nat.gcd a b : Nat) z := by
 have hp : a * b < 2 ^ (30 * x.length + 30 * y.length) := by
  rw [Nat.pow_add]
  have h1 := zd8 nx
  have h2 := zd8 ny
  exact Nat.mul_lt_mul_of_lt_of_le h1 (Nat.le_of_lt h2) (Nat.pow_pos (by omega))
 have key : ∃ z, z0z K K x y = some z /\ NumN (Nat.gcd a b : Nat) z := by
  by_cases hba : b <= a
  ·exact zez _ K hp hba (by omega) hx hy hK nx ny
  ·obtain ⟨k, hk⟩ : ∃ k, K = k + 1 := ⟨K - 1, by omega⟩
   obtain ⟨q, r, d1, d2, d3, d4, d5⟩ := zey (K := K) hx hy hK nx ny (by omega)
   rw [Int.emod_eq_of_lt (by omega) (by omega)] at d3
   have hrx : r = x := d3.inj nx
   subst hrx
   obtain ⟨z, z1, z2⟩ := zez (K := K) _ k (by rw [Nat.mul_comm]; exact hp) (by omega) (by omega) hy hx hK ny nx
   refine ⟨z, ?_, by rw [Nat.gcd_comm]; exact z2⟩
   have hy0 : y.length ≠ 0 := fun e => by have := ny.len0.1 e; omega
   have : z0z K K r y = z0z K (k + 1) r y := by rw [<- hk]
   rw [this, z0z, if_pos (decide_eq_true (by omega)), d1, z0e, z1]
 obtain ⟨z, z1, z2⟩ := key
 exact ⟨z, by unfold z5b; rw [z1]; rfl, z2⟩
end Go.Am.Tryz
/- Plain law: the reference's quotient and divisor of texts. -/
namespace Go.Am.Tryz
open Go Go.Am Go.Proofs
variable {K : Nat}
theorem zhx {c : Int} (h : 48 <= c /\ c <= 57) : z03 (Utf8.encode c) = [c] /\ (Utf8.encode c).size = 1 := by
 obtain ⟨n, rfl⟩ : ∃ n : Nat, c = n := ⟨c.toNat, by omega⟩
 have hn : n = 48 \/ n = 49 \/ n = 50 \/ n = 51 \/ n = 52 \/ n = 53 \/ n = 54 \/ n = 55 \/ n = 56 \/ n = 57 := by omega
 rcases hn with rfl | rfl | rfl | rfl | rfl | rfl | rfl | rfl | rfl | rfl <;> exact ⟨by decide +kernel, by decide +kernel⟩
theorem ks1 {R b d R0 : Int} (h : R + (d - 48) * b = R0) : R - b + (d + 1 - 48) * b = R0 := by grind
theorem znn {b : zAd} {r0 : zAd} (hb : b.size <= 500000) (hr : r0.size <= 1000000) (hK : 2000000000 < K) (cb : CanT b) (c0 : CanT r0) (hb0 : 0 < numT b) (hlt : numT r0 < 10 * numT b) :
  ∃ r : zAd × Int, z2p K b K r0 48 = some r /\ CanT r.1 /\ (48 <= r.2 /\ r.2 <= 57) /\ numT r.1 + (r.2 - 48) * numT b = numT r0 /\ numT r.1 < numT b := by
 refine z87 (fun k (s : zAd × Int) => z2p K b k s.1 s.2) (fun s => CanT s.1 /\ s.1.size <= 1000000 /\ (48 <= s.2 /\ s.2 <= 57) /\ numT s.1 + (s.2 - 48) * numT b = numT r0) (fun s => (57 - s.2).toNat) _ ?_ ((r0, 48) : zAd × Int) (by dsimp only; omega) ⟨c0, hr, by dsimp only; omega, by dsimp only; omega⟩
 rintro k ⟨r, d⟩ ⟨h1, h2, h3, h4⟩
 dsimp only at h1 h2 h3 h4 ⊢
 have hcmp := zkz (K := K) h1 cb
 have r0' := z31 h1.2.1
 by_cases hge : numT b <= numT r
 ·right
  obtain ⟨t, t1, t2, t3⟩ := zhr (K := K) (a := r) (b := b) h2 (z3d h1 cb hge) (by have := h1.1; omega) (by omega) h1.2.1 cb.2.1 hge
  have hd : d <= 56 := by
   refine Int.not_lt.1 fun hlt2 => ?_
   have : d = 57 := by omega
   subst this
   omega
  refine ⟨(t, d + 1), ?_, by dsimp only; omega, t2, ?_, by dsimp only; omega, by dsimp only; rw [t3]; exact ks1 h4⟩
  ·rw [z2p, hcmp, z0e]
   rw [if_pos (decide_eq_true (by rw [if_neg (by omega)]; split <;> omega)), t1, z0e, ku8 (by omega) (by omega)]
  ·dsimp only
   have := z3d h1 t2 (by rw [t3]; omega)
   omega
 ·left
  refine ⟨(r, d), ?_, h1, h3, h4, by dsimp only; omega⟩
  rw [z2p, hcmp, z0e]
  have e : decide ((if numT r < numT b then (-1 : Int) else if numT r = numT b then 0 else 1) >= 0) = false := by
   rw [if_pos (by omega)]; rfl
  rw [e]; rfl
theorem ks3 {Q b R R2 A c d : Int} (h : Q * b + R = A) (h2 : R2 + d * b = R * 10 + c) : (Q * 10 + d) * b + R2 = A * 10 + c := by grind
theorem zk6 {a b r0 : zAd} {f : Nat} (ha : a.size <= 500000) (hb : b.size <= 500000) (hK : 2000000000 < K) (da : (z03 a).all digT = true) (cb : CanT b) (hb0 : 0 < numT b) (hf : f <= a.size) (c0 : CanT r0) (hs0 : r0.size <= 500000) (h0 : numT r0 = numB ((z03 a).take f)) (hlt : numT r0 < numT b) :
  ∃ r : zAd × zAd, z2q K a b K ⟨#[48]⟩ r0 f = some r /\ r.1.size <= a.size + 1 /\ 0 < r.1.size /\ (z03 r.1).all digT = true /\ CanT r.2 /\ numT r.1 * numT b + numT r.2 = numT a /\ numT r.2 < numT b := by
 have hn := z00 a
 refine z87 (fun k (s : zAd × zAd × Int) => z2q K a b k s.1 s.2.1 s.2.2) (fun s => ∃ i : Nat, s.2.2 = i /\ i <= a.size /\ 0 < s.1.size /\ s.1.size <= i + 1 /\ (z03 s.1).all digT = true /\ CanT s.2.1 /\ numT s.1 * numT b + numT s.2.1 = numB ((z03 a).take i) /\ numT s.2.1 < numT b /\ s.2.1.size <= 500000) (fun s => (a.size - s.2.2 : Int).toNat) _ ?_ ((⟨#[48]⟩, r0, (f : Int)) : zAd × zAd × Int) (by dsimp only; omega) ⟨f, rfl, hf, by show 0 < 1; omega, by show 1 <= f + 1; omega, rfl, c0, by rw [<- h0]; show numT ⟨#[48]⟩ * numT b + numT r0 = numT r0; rw [z56]; omega, hlt, hs0⟩
 rintro k ⟨q, r, _⟩ ⟨i, rfl, h1, h2, h3, h4, h5, h6, h7, h8⟩
 dsimp only at h2 h3 h4 h5 h6 h7 h8 ⊢
 by_cases hi : i < a.size
 ·right
  have hc := zex da (i := i) (by omega)
  have hsn := zew (l := z03 a) (i := i) (by omega)
  generalize hcc : (z03 a).getD i 0 = c at hc hsn
  obtain ⟨e, he1, he2, he3⟩ : ∃ e, ssl a i ((i : Int) + 1) = some e /\ z03 e = [c] /\ e.size = 1 := by
   refine ⟨_, sslI (by omega) (by omega) (by omega), ?_, ?_⟩
   ·rw [z2k, Int.toNat_natCast, show ((i : Int) + 1).toNat - i = 1 by omega, List.drop_eq_getElem_cons (by omega), List.take_succ_cons, List.take_zero]
    rw [zAb, zAh (by omega)] at hcc
    simpa using hcc
   ·rw [<- z00, z2k, List.length_take, List.length_drop]; omega
  have hbr : z03 (r ++ e) = z03 r ++ [c] := by rw [z1y, he2]
  have hdr : (z03 (r ++ e)).all digT = true := by rw [hbr, List.all_append, h5.2.1]; simpa using digT_iff.2 hc
  have hsr : (r ++ e).size = r.size + 1 := by rw [<- z00, hbr, List.length_append, z00]; rfl
  obtain ⟨t, t1, t2, t3⟩ := z9s (K := K) (s := r ++ e) (by omega) (by omega) (by omega) hdr
  have hnr : numT (r ++ e) = numT r * 10 + (c - 48) := by rw [zjy, hbr, z9r]; rfl
  have htl : numT t < 10 * numT b := by rw [t3, hnr]; omega
  have hts : t.size <= 1000000 := by
   have := z3d (b := t) (a := t) t2 t2 (Int.le_refl _)
   refine Nat.not_lt.1 fun hlt2 => ?_
   have g1 := zd6 t2 (by omega)
   have g2 := zal hdr
   have g3 : (10 : Int) ^ (r ++ e).size <= 10 ^ (t.size - 1) := z7i (by omega) (by omega)
   omega
  obtain ⟨⟨r2, d⟩, s1, s2, s3, s4, s5⟩ := znn (K := K) (b := b) (r0 := t) hb hts hK cb t2 hb0 htl
  dsimp only at s2 s3 s4 s5
  obtain ⟨n1, n2⟩ := zhx s3
  have hbq : z03 (q ++ Utf8.encode d) = z03 q ++ [d] := by rw [z1y, n1]
  have hsq : (q ++ Utf8.encode d).size = q.size + 1 := by rw [<- z00, hbq, List.length_append, z00]; rfl
  have hr2s : r2.size <= 500000 := by
   have := z3d cb s2 (by omega)
   omega
  refine ⟨(q ++ Utf8.encode d, r2, (i : Int) + 1), ?_, by dsimp only; omega, i + 1, rfl, by omega, by dsimp only; omega, by dsimp only; omega, ?_, s2, ?_, s5, hr2s⟩
  ·rw [z2q, if_pos (decide_eq_true (by omega)), k64 (by omega) (by omega), he1, z0e, if_pos (by omega), t1, z0e, s1, z0e, tu2a, if_pos (by dsimp only; omega)]
  ·dsimp only; rw [hbq, List.all_append, h4]; simpa using digT_iff.2 s3
  ·dsimp only
   rw [hsn, z9r, zjy (q ++ Utf8.encode d), hbq, z9r]
   refine ks3 h6 ?_
   rw [s4, t3, hnr]
 ·left
  have : i = a.size := by omega
  subst this
  rw [List.take_of_length_le (by omega)] at h6
  exact ⟨(q, r), by rw [z2q]; simp (discharger := omega) only [runL], h3, h2, h4, h5, h6, h7⟩
theorem zf0 {a b : zAd} (ha : a.size <= 400000) (hb : b.size <= 400000) (hK : 2000000000 < K) (ca : CanT a) (cb : CanT b) (hb0 : 0 < numT b) :
  ∃ q r, z5l K a b = some (q, r) /\ CanT q /\ CanT r /\ numT q = numT a / numT b /\ numT r = numT a % numT b := by
 have hn := z00 a
 have hcb := cb.1
 obtain ⟨f, hf1, hf2, hf3⟩ : ∃ f : Nat, imin (a.size : Int) (z02 .i64 ((b.size : Int) - 1)) = f /\ f <= a.size /\ f <= b.size - 1 := by
  rw [k64 (by omega) (by omega)]
  unfold imin
  by_cases h : (b.size : Int) - 1 < a.size
  ·exact ⟨b.size - 1, by rw [if_pos h]; omega, by omega, by omega⟩
  ·exact ⟨a.size, by rw [if_neg h], by omega, by omega⟩
 have hx : ssl a 0 (f : Int) = some (a.extract 0 f) := by rw [sslI (by omega) (by omega) (by omega)]; rfl
 have hxb : z03 (a.extract 0 f) = (z03 a).take f := by rw [z2k]; simp
 have hxs : (a.extract 0 f).size = f := by rw [<- z00, hxb, List.length_take]; omega
 have hzb : z03 ((⟨#[48]⟩ : zAd) ++ a.extract 0 f) = 48 :: (z03 a).take f := by rw [z1y, hxb]; rfl
 have hzs : ((⟨#[48]⟩ : zAd) ++ a.extract 0 f).size = f + 1 := by rw [<- z00, hzb, List.length_cons, List.length_take]; omega
 have hzd : (z03 ((⟨#[48]⟩ : zAd) ++ a.extract 0 f)).all digT = true := by rw [hzb, List.all_cons, zak ca.2.1]; rfl
 obtain ⟨t, t1, t2, t3⟩ := z9s (K := K) (s := (⟨#[48]⟩ : zAd) ++ a.extract 0 f) (by omega) (by omega) (by omega) hzd
 have hv : numT t = numB ((z03 a).take f) := by rw [t3, zjy, hzb, zev]; simp
 have hlt : numT t < numT b := by
  have d1 := zba (zak ca.2.1 f)
  rw [List.length_take, Nat.min_eq_left (by omega)] at d1
  rw [hv]
  by_cases h2 : 2 <= b.size
  ·have d2 := zd6 cb h2
   have d3 : (10 : Int) ^ f <= 10 ^ (b.size - 1) := z7i (by omega) hf3
   omega
  ·have : f = 0 := by omega
   subst this
   rw [List.take_zero, zc8]; exact hb0
 have hts : t.size <= 500000 := by
  have := z3d cb t2 (by omega)
  omega
 obtain ⟨⟨q, r⟩, s1, s2, s3, s4, s5, s6, s7⟩ := zk6 (K := K) (a := a) (b := b) (r0 := t) (f := f) (by omega) (by omega) hK ca.2.1 cb hb0 hf2 t2 hts hv hlt
 dsimp only at s2 s3 s4 s5 s6 s7
 obtain ⟨u, u1, u2, u3⟩ := z9s (K := K) (s := q) (by omega) s3 (by omega) s4
 obtain ⟨e1, e2⟩ := zaj (n := numT a) (d := numT b) (q := numT q) (r := numT r) hb0 (by rw [Int.mul_comm]; omega) (z31 s5.2.1) s7
 refine ⟨u, r, ?_, u2, s5, by rw [u3, e1], e2⟩
 unfold z5l
 rw [hf1, hx, z0e, if_pos (by rw [hxs]; show 1 + f <= _; omega), t1, z0e, s1, z0e, tu2a, u1, z0e]
theorem zf1 : ∀ (n k : Nat) {x y : zAd} {a b : Nat}, a * b < 2 ^ n -> b <= a -> n + 2 < k -> x.size <= 400000 -> y.size <= 400000 -> 2000000000 < K -> CanT x -> CanT y -> numT x = a -> numT y = b -> ∃ z, z19 K k x y = some z /\ CanT z /\ numT z = (Nat.gcd a b : Nat) := by
 intro n
 have hend : ∀ (k : Nat) {x y : zAd} {a : Nat}, 0 < k -> CanT x -> CanT y -> numT x = a -> numT y = (0 : Nat) -> ∃ z, z19 K k x y = some z /\ CanT z /\ numT z = (Nat.gcd a 0 : Nat) := by
  intro k x y a hk cx cy nx ny
  obtain ⟨k, rfl⟩ : ∃ m, k = m + 1 := ⟨k - 1, by omega⟩
  have : y = ⟨#[48]⟩ := (zca cy).1 (by simpa using ny)
  subst this
  have e : sEq (⟨#[48]⟩ : zAd) ⟨#[48]⟩ = true := sEq_iff.2 rfl
  exact ⟨x, by rw [z19, e]; rfl, cx, by rw [Nat.gcd_zero_right]; exact nx⟩
 induction n with
 | zero =>
  intro k x y a b hab hba hk hx hy hK cx cy nx ny
  have hb : b = 0 := by
   rcases Nat.eq_zero_or_pos b with h | h
   ·exact h
   ·have := Nat.mul_pos (show 0 < a by omega) h; omega
  subst hb
  exact hend k (by omega) cx cy nx ny
 | succ n ih =>
  intro k x y a b hab hba hk hx hy hK cx cy nx ny
  by_cases hb : b = 0
  ·subst hb; exact hend k (by omega) cx cy nx ny
  ·obtain ⟨k, rfl⟩ : ∃ m, k = m + 1 := ⟨k - 1, by omega⟩
   obtain ⟨q, r, d1, d2, d3, d4, d5⟩ := zf0 (K := K) hx hy hK cx cy (by omega)
   rw [nx, ny] at d5
   have e : ((a : Int) % (b : Int)) = ((a % b : Nat) : Int) := by simp
   rw [e] at d5
   have hr := Nat.mod_lt a (show 0 < b by omega)
   have hprod : b * (a % b) < 2 ^ n := by
    have h1 : b + a % b <= a := by
     have h2 := Nat.div_add_mod a b
     have h3 : 1 <= a / b := (Nat.le_div_iff_mul_le (by omega)).2 (by omega)
     have h4 := Nat.mul_le_mul_left b h3
     omega
    have h5 := Nat.mul_le_mul_left b (show 2 * (a % b) <= a by omega)
    rw [Nat.pow_succ] at hab
    have h6 : b * (2 * (a % b)) = 2 * (b * (a % b)) := by grind
    rw [Nat.mul_comm a b] at hab
    omega
   have hrs := z3d cy d3 (by rw [ny, d5]; omega)
   obtain ⟨z, z1, z2, z3⟩ := ih k hprod (by omega) (by omega) hy (by omega) hK cy d3 ny d5
   refine ⟨z, ?_, z2, by rw [<- zhw a b (by omega)]; exact z3⟩
   have e0 : sEq y ⟨#[48]⟩ = false := by
    cases e : sEq y ⟨#[48]⟩ with
    | false => rfl
    | true => rw [sEq_iff] at e; subst e; rw [z56] at ny; omega
   rw [z19, e0]
   simp only [Bool.not_false, if_true]
   rw [d1, z0e, z1]
theorem zbb {n : Nat} {x : zAd} (h : (z03 x).all digT = true) (hn : numT x = n) : n < 2 ^ (4 * x.size) := by
 have h1 := zal h
 rw [hn] at h1
 have h2 : ((10 : Nat) : Int) ^ x.size = ((10 ^ x.size : Nat) : Int) := by simp
 have h3 : n < 10 ^ x.size := by
  have h4 : (10 : Int) = ((10 : Nat) : Int) := rfl
  rw [h4, h2] at h1
  omega
 have h5 : (10 : Nat) ^ x.size <= (2 ^ 4) ^ x.size := Nat.pow_le_pow_left (by decide) _
 rw [<- Nat.pow_mul] at h5
 omega
theorem zl2 {x y : zAd} {a b : Nat} (hx : x.size <= 400000) (hy : y.size <= 400000) (hK : 2000000000 < K) (cx : CanT x) (cy : CanT y) (nx : numT x = a) (ny : numT y = b) : ∃ z, z6h K x y = some z /\ CanT z /\ numT z = (Nat.gcd a b : Nat) := by
 have hp : a * b < 2 ^ (4 * x.size + 4 * y.size) := by
  rw [Nat.pow_add]
  exact Nat.mul_lt_mul_of_lt_of_le (zbb cx.2.1 nx) (Nat.le_of_lt (zbb cy.2.1 ny)) (Nat.pow_pos (by omega))
 have key : ∃ z, z19 K K x y = some z /\ CanT z /\ numT z = (Nat.gcd a b : Nat) := by
  by_cases hba : b <= a
  ·exact zf1 _ K hp hba (by omega) hx hy hK cx cy nx ny
  ·obtain ⟨k, hk⟩ : ∃ k, K = k + 1 := ⟨K - 1, by omega⟩
   obtain ⟨q, r, d1, d2, d3, d4, d5⟩ := zf0 (K := K) hx hy hK cx cy (by omega)
   rw [Int.emod_eq_of_lt (z31 cx.2.1) (by omega)] at d5
   have hrx : r = x := z86 d3 cx d5
   subst hrx
   obtain ⟨z, z1, z2, z3⟩ := zf1 (K := K) _ k (by rw [Nat.mul_comm]; exact hp) (by omega) (by omega) hy hx hK cy cx ny nx
   refine ⟨z, ?_, z2, by rw [Nat.gcd_comm]; exact z3⟩
   have e0 : sEq y ⟨#[48]⟩ = false := by
    cases e : sEq y ⟨#[48]⟩ with
    | false => rfl
    | true => rw [sEq_iff] at e; subst e; rw [z56] at ny; omega
   have : z19 K K r y = z19 K (k + 1) r y := by rw [<- hk]
   rw [this, z19, e0]
   simp only [Bool.not_false, if_true]
   rw [d1, z0e, z1]
 obtain ⟨z, z1, z2⟩ := key
 exact ⟨z, by unfold z6h; rw [z1]; rfl, z2⟩
end Go.Am.Tryz
/- Plain law: a number's error. -/
namespace Go.Am.Tryz
open Go Go.Am Go.Proofs
variable {K : Nat} {s : zAd}
def digB (c : Int) : Bool := decide (48 <= c) && decide (c <= 57)
theorem zdv : ∀ (l : List Int), runS (fun c (_ : Unit) => if digB c then .inr () else .inl (5 : Int)) l () = if l.all digB then .inr () else .inl 5
 | [] => rfl
 | x :: l => by
  simp only [runS, List.all_cons]
  by_cases hp : digB x = true
  ·simp only [hp, if_true, Bool.true_and, Sum.elim_inr]; exact zdv l
  ·simp [hp]
theorem zno {α : Type} (c : Int) (A B : Option α) : Option.bind (if (decide (c < 48)) = true then some true else some (decide (c > 57))) (tu1 fun x => if x = true then A else B) = if digB c = true then B else A := by
 unfold digB
 by_cases h1 : c < 48 <;> by_cases h2 : c > 57 <;> simp [h1, h2, tu1, show ¬ (48 : Int) <= c ↔ c < 48 by omega] <;> (try split) <;> (try omega) <;> rfl
theorem zft (hs : s.size <= 1048576) (hK : s.size < K) : z15 K s K 0 = some (if (z03 s).all digB then .inr () else .inl 5) := by
 have hn := z00 s
 have h : z15 K s K 0 = _ := zeq (z03 s) (fun k (_ : Unit) i => z15 K s k i) (fun c (_ : Unit) => if digB c then .inr () else .inl (5 : Int)) (fun _ _ => True)
  (fun k _ i x hx _ => by
   have hi := (zAi hx).1
   show z15 K s (k + 1) i = _
   rw [z15, zjo hi, if_pos rfl, z4q hx]
   simp only [Option.bind_some, zno, kw1 hi (by omega)]
   cases digB x <;> simp)
  (fun _ _ _ _ _ _ _ => trivial)
  (fun k _ i hi => by
   show z15 K s (k + 1) i = _
   rw [z15, zep hi]; simp) K () (by omega) trivial
 rw [h, zdv]
theorem zhy (hs : s.size <= 1048576) (hK : s.size < K) : z0y K s K 0 = some (if (z03 s).all digB then .inr () else .inl 5) := by
 have hn := z00 s
 have h : z0y K s K 0 = _ := zeq (z03 s) (fun k (_ : Unit) i => z0y K s k i) (fun c (_ : Unit) => if digB c then .inr () else .inl (5 : Int)) (fun _ _ => True)
  (fun k _ i x hx _ => by
   have hi := (zAi hx).1
   show z0y K s (k + 1) i = _
   rw [z0y, <- hn, zjo hi, if_pos rfl, z99, z4q hx]
   simp only [Option.bind_some, zno, kw1 hi (by omega)]
   cases digB x <;> simp)
  (fun _ _ _ _ _ _ _ => trivial)
  (fun k _ i hi => by
   show z0y K s (k + 1) i = _
   rw [z0y, <- hn, zep hi]; simp) K () (by omega) trivial
 rw [h, zdv]
def natE (s : zAd) : Int := if s.size = 0 then 5 else if (z03 s).head? = some 48 /\ s.size > 1 then 5 else if !(z03 s).all digB then 5 else if s.size > 2000 then 2 else 0
theorem znp : sEq s ⟨#[]⟩ = (s.size == 0) := by
 cases hq : sEq s ⟨#[]⟩ with
 | true => rw [sEq_iff] at hq; subst hq; rfl
 | false =>
  have : s.size ≠ 0 := fun h => by
   have : s = ⟨#[]⟩ := by
    cases s with
    | mk d => congr 1; exact Array.eq_empty_of_size_eq_zero h
   rw [sEq_iff.2 this] at hq; cases hq
  simp [this]
theorem zhz (h : s.size ≠ 0) : ∃ c, bidx s 0 = some c /\ (z03 s).head? = some c := by
 have hn := z00 s
 cases hb : z03 s with
 | nil => rw [hb] at hn; simp at hn; omega
 | cons c l => exact ⟨c, by rw [z99, hb]; rfl, rfl⟩
theorem zd9 (hs : s.size <= 1048576) (hK : s.size < K) : z5a K s = some (natE s) := by
 unfold z5a natE
 rw [zft hs hK, znp]
 by_cases h0 : s.size = 0
 ·simp [h0, tu1]
 ·obtain ⟨c, h1, h2⟩ := zhz h0
  rw [h1, h2]
  have h0' : (s.size == 0) = false := by simpa using h0
  by_cases hc : c = 48 <;> by_cases h3 : s.size > 1 <;> by_cases h4 : s.size > 2000 <;> cases h5 : (z03 s).all digB <;>
   simp [h0, h0', hc, h3, h4, h5, tu1, tu0, zbw, show ((s.size : Int) > 1) ↔ s.size > 1 by omega, show ((s.size : Int) > 2000) ↔ s.size > 2000 by omega] <;> omega
theorem z9t (hs : s.size <= 1048576) (hK : s.size < K) : z4d K s = some (natE s) := by
 unfold z4d natE
 rw [zhy hs hK]
 by_cases h0 : s.size = 0
 ·simp [h0, tu1]
 ·obtain ⟨c, h1, h2⟩ := zhz h0
  rw [h1, h2]
  have h0' : ((s.size : Int) == 0) = false := by rw [beq_eq_false_iff_ne]; omega
  by_cases hc : c = 48 <;> by_cases h3 : s.size > 1 <;> by_cases h4 : s.size > 2000 <;> cases h5 : (z03 s).all digB <;>
   simp [h0, h0', hc, h3, h4, h5, tu1, tu0, zbw, show ((s.size : Int) > 1) ↔ s.size > 1 by omega, show ((s.size : Int) > 2000) ↔ s.size > 2000 by omega] <;> omega
theorem znq : digB = digT := rfl
theorem z9e (s : zAd) : natE s = 0 ↔ CanT s /\ s.size <= 2000 := by
 unfold natE CanT
 rw [znq]
 by_cases h0 : s.size = 0
 ·simp [h0]
 ·by_cases h1 : (z03 s).head? = some 48 /\ s.size > 1
  ·rw [if_neg h0, if_pos h1]
   constructor
   ·intro h; cases h
   ·rintro ⟨⟨_, _, h⟩, _⟩; have := h h1.1; omega
  ·rw [if_neg h0, if_neg h1]
   cases h2 : (z03 s).all digT with
   | false => simp
   | true =>
    simp only [Bool.not_true, Bool.false_eq_true, if_false]
    by_cases h3 : s.size > 2000
    ·rw [if_pos h3]; constructor
     ·intro h; cases h
     ·rintro ⟨_, h⟩; omega
    ·rw [if_neg h3]
     exact ⟨fun _ => ⟨⟨h0, trivial, fun e => by
      refine Nat.le_antisymm (Nat.not_lt.1 fun h => h1 ⟨e, h⟩) (by omega)⟩, by omega⟩, fun _ => rfl⟩
theorem zm2 (s : zAd) : sEq s s = true := sEq_iff.2 rfl
end Go.Am.Tryz
/- Plain law: lists of texts; one. -/
namespace Go.Am.Tryz
open Go Go.Am Go.Proofs
variable {K : Nat}
theorem zpg {s t : zAd} (h : s ≠ t) : sEq s t = false := by
 cases e : sEq s t with
 | false => rfl
 | true => exact absurd (sEq_iff.1 e) h
theorem zf2 (hK : 2000000000 < K) : z7c K 1 = some [1] := by
 obtain ⟨k, rfl⟩ : ∃ k, K = k + 2 := ⟨K - 2, by omega⟩
 unfold z7c
 have e1 : decide ((1 : Int) > 0) = true := rfl
 have e2 : IntKind.wrap .u32 (Int.tmod 1 1000000000) = 1 := rfl
 have e3 : z02 .i64 (Int.tdiv 1 1000000000) = 0 := rfl
 have e4 : decide ((0 : Int) > 0) = false := rfl
 rw [z5c, e1, if_pos rfl, e2, e3, if_pos (by decide), z5c, e4]
 rfl
end Go.Am.Tryz
/- Plain lemmas: rational numbers, their signs, parts and sizes. -/
namespace Go.Am
def sgn (neg : Bool) (n : Nat) : Int := if neg then -(n : Int) else n
theorem zi0 (neg : Bool) (n : Nat) : (sgn neg n).natAbs = n := by unfold sgn; split <;> omega
theorem z9f (x : Rat) : sgn (decide (x.num < 0)) x.num.natAbs = x.num := by unfold sgn; by_cases h : x.num < 0 <;> simp [h] <;> omega
theorem zk7 (neg : Bool) (n d : Nat) (hd : d ≠ 0) : (mkRat (sgn neg n) d).num.natAbs = n / Nat.gcd n d := by
 rw [Rat.num_mkRat, if_neg hd, zi0, Nat.gcd_comm]
 unfold sgn
 cases neg with
 | false => simp; rfl
 | true =>
  simp only [if_true]
  have h : (Nat.gcd n d : Int) ∣ (n : Int) := Int.natCast_dvd_natCast.2 (Nat.gcd_dvd_left n d)
  rw [Int.neg_ediv_of_dvd h, Int.natAbs_neg]
  rfl
theorem zk8 (neg : Bool) (n d : Nat) (hd : d ≠ 0) : (mkRat (sgn neg n) d).den = d / Nat.gcd n d := by
 rw [Rat.den_mkRat, if_neg hd, zi0, Nat.gcd_comm]
theorem zm3 (neg : Bool) (n d : Nat) (hd : d ≠ 0) (hn : n ≠ 0) : decide ((mkRat (sgn neg n) d).num < 0) = neg := by
 have h0 : n / Nat.gcd n d ≠ 0 := by
  have := Nat.gcd_pos_of_pos_left d (show 0 < n by omega)
  have h2 := Nat.le_of_dvd (by omega) (Nat.gcd_dvd_left n d)
  have := Nat.div_pos h2 this
  omega
 rw [Rat.num_mkRat, if_neg hd, zi0, Nat.gcd_comm]
 have h : (Nat.gcd n d : Int) ∣ (n : Int) := Int.natCast_dvd_natCast.2 (Nat.gcd_dvd_left n d)
 obtain ⟨q, hq, hq0⟩ : ∃ q : Nat, (n : Int) / (Nat.gcd n d : Int) = (q : Int) /\ q ≠ 0 := ⟨n / Nat.gcd n d, by simp, h0⟩
 unfold sgn
 cases neg with
 | false => simp only [Bool.false_eq_true, if_false, hq]; exact decide_eq_false (by omega)
 | true => simp only [if_true]; rw [Int.neg_ediv_of_dvd h, hq]; exact decide_eq_true (by omega)
theorem zi1 (x y : Rat) : x * y = mkRat (sgn (decide (x.num < 0) != decide (y.num < 0)) (x.num.natAbs * y.num.natAbs)) (x.den * y.den) := by
 rw [Rat.mul_def']
 congr 1
 conv => lhs; rw [<- z9f x, <- z9f y]
 generalize x.num.natAbs = a
 generalize y.num.natAbs = b
 unfold sgn
 cases decide (x.num < 0) <;> cases decide (y.num < 0) <;> simp [Int.mul_neg, Int.neg_mul]
theorem zdw (neg : Bool) (n : Nat) : ((sgn neg n : Int) : Rat) = if neg then -(n : Rat) else n := by
 unfold sgn
 cases neg with
 | false => rfl
 | true => simp only [if_true]; rw [Rat.intCast_neg]; rfl
theorem zfu (a b : Bool) (p q r s : Rat) (e1 : q ≠ 0) (e2 : r ≠ 0) (e3 : s ≠ 0) : (if a then -p else p) / q / ((if b then -r else r) / s) = (if a != b then -(p * s) else p * s) / (q * r) := by
 cases a <;> cases b <;> simp <;> grind
theorem zdx (x : Rat) : x = ((sgn (decide (x.num < 0)) x.num.natAbs : Int) : Rat) / (x.den : Rat) := by
 rw [z9f, <- Rat.mkRat_eq_div, Rat.mkRat_self]
theorem zi2 (x y : Rat) (hy : y ≠ 0) : x / y = mkRat (sgn (decide (x.num < 0) != decide (y.num < 0)) (x.num.natAbs * y.den)) (x.den * y.num.natAbs) := by
 have hyn : y.num ≠ 0 := fun e => hy (Rat.num_eq_zero.1 e)
 rw [Rat.mkRat_eq_div, zdw]
 conv => lhs; rw [zdx x, zdx y, zdw, zdw]
 rw [Rat.natCast_mul, Rat.natCast_mul]
 exact zfu _ _ _ _ _ _ (by simp [x.den_nz]) (by simp; omega) (by simp [y.den_nz])
def Dl (x : Rat) (N : Nat) : Prop := x.num.natAbs < 10 ^ N /\ x.den < 10 ^ N
theorem Dl.mono {x : Rat} {N M : Nat} (h : Dl x N) (hN : N <= M) : Dl x M := ⟨Nat.lt_of_lt_of_le h.1 (Nat.pow_le_pow_right (by omega) hN), Nat.lt_of_lt_of_le h.2 (Nat.pow_le_pow_right (by omega) hN)⟩
theorem Dl.mk (neg : Bool) {n d N : Nat} (hd : d ≠ 0) (hn : n < 10 ^ N) (hd2 : d < 10 ^ N) : Dl (mkRat (sgn neg n) d) N := by
 refine ⟨?_, ?_⟩
 ·rw [zk7 neg n d hd]; exact Nat.lt_of_le_of_lt (Nat.div_le_self _ _) hn
 ·rw [zk8 neg n d hd]; exact Nat.lt_of_le_of_lt (Nat.div_le_self _ _) hd2
theorem z30 {a b N M : Nat} (h : a < 10 ^ N) (k : b < 10 ^ M) : a * b < 10 ^ (N + M) := by
 rw [Nat.pow_add]
 exact Nat.mul_lt_mul_of_lt_of_le h (Nat.le_of_lt k) (Nat.pow_pos (by omega))
theorem Dl.mul {x y : Rat} {N M : Nat} (h : Dl x N) (k : Dl y M) : Dl (x * y) (N + M) := by
 rw [zi1]
 exact .mk _ (Nat.mul_ne_zero x.den_nz y.den_nz) (z30 h.1 k.1) (z30 h.2 k.2)
theorem Dl.zero : Dl 0 1 := ⟨by decide, by decide⟩
theorem Dl.one : Dl 1 1 := ⟨by decide, by decide⟩
theorem Dl.div {x y : Rat} {N M : Nat} (h : Dl x N) (k : Dl y M) : Dl (x / y) (N + M + 1) := by
 by_cases hy : y = 0
 ·subst hy
  have : x / 0 = 0 := by grind
  rw [this]; exact Dl.zero.mono (by omega)
 ·rw [zi2 x y hy]
  have hyn : y.num ≠ 0 := fun e => hy (Rat.num_eq_zero.1 e)
  refine (Dl.mk _ (Nat.mul_ne_zero x.den_nz (by omega)) (z30 h.1 k.2) (z30 h.2 k.1)).mono (by omega)
theorem znr (a : Int) : a = sgn (decide (a < 0)) a.natAbs := by unfold sgn; by_cases h : a < 0 <;> simp [h] <;> omega
theorem Dl.add {x y : Rat} {N M : Nat} (h : Dl x N) (k : Dl y M) : Dl (x + y) (N + M + 1) := by
 rw [Rat.add_def']
 rw [znr (x.num * y.den + y.num * x.den)]
 have h1 := z30 h.1 k.2
 have h2 := z30 k.1 h.2
 have h3 : (x.num * (y.den : Int) + y.num * (x.den : Int)).natAbs <= x.num.natAbs * y.den + y.num.natAbs * x.den := by
  refine Nat.le_trans (Int.natAbs_add_le _ _) ?_
  rw [Int.natAbs_mul, Int.natAbs_mul]; simp
 rw [Nat.add_comm M N] at h2
 refine .mk _ (Nat.mul_ne_zero x.den_nz y.den_nz) ?_ ?_
 ·rw [Nat.pow_succ]; omega
 ·have := z30 h.2 k.2
  rw [Nat.pow_succ]; omega
theorem Dl.neg {x : Rat} {N : Nat} (h : Dl x N) : Dl (-x) N := ⟨by rw [Rat.neg_num, Int.natAbs_neg]; exact h.1, by rw [Rat.neg_den]; exact h.2⟩
theorem Dl.sub {x y : Rat} {N M : Nat} (h : Dl x N) (k : Dl y M) : Dl (x - y) (N + M + 1) := by
 rw [Rat.sub_eq_add_neg]; exact h.add k.neg
theorem Dl.pos {x : Rat} {N : Nat} (h : Dl x N) : 1 <= N := by
 refine Nat.not_lt.1 fun hlt => ?_
 have : N = 0 := by omega
 subst this
 have := h.2
 have := x.den_pos
 simp at *; omega
end Go.Am
/- Plain law: the parts of a rational number's text; its error. -/
namespace Go.Am.Tryz
open Go Go.Am Go.Proofs
variable {K : Nat}
structure Sp (s : zAd) (neg : Bool) (n : zAd) (many : Bool) (d : zAd) : Prop where
 eq : z03 s = (if neg then [45] else []) ++ (z03 n ++ (if many then 47 :: z03 d else []))
 no : 47 ∉ z03 n
 hd : neg = false -> (z03 s).head? ≠ some 45
theorem zda {x : Int} : ∀ {l1 l2 r1 r2 : List Int}, l1 ++ r1 = l2 ++ r2 -> x ∉ l1 -> x ∉ l2 -> (r1 = [] \/ r1.head? = some x) -> (r2 = [] \/ r2.head? = some x) -> l1 = l2 /\ r1 = r2
 | [], [], _, _, h, _, _, _, _ => ⟨rfl, by simpa using h⟩
 | [], b :: l2, r1, r2, h, _, h2, h3, _ => by
  simp only [List.nil_append, List.cons_append] at h
  subst h
  simp at h3
  subst h3
  simp at h2
 | a :: l1, [], r1, r2, h, h1, _, _, h4 => by
  simp only [List.nil_append, List.cons_append] at h
  subst h
  simp at h4
  subst h4
  simp at h1
 | a :: l1, b :: l2, r1, r2, h, h1, h2, h3, h4 => by
  simp only [List.cons_append, List.cons.injEq] at h
  obtain ⟨rfl, h⟩ := h
  obtain ⟨e1, e2⟩ := zda h (fun hx => h1 (by simp [hx])) (fun hx => h2 (by simp [hx])) h3 h4
  exact ⟨by rw [e1], e2⟩
theorem Sp.uniq {s n d n' d' : zAd} {neg neg' many many' : Bool} (h : Sp s neg n many d) (k : Sp s neg' n' many' d') : neg = neg' /\ n = n' /\ many = many' /\ (many = true -> d = d') := by
 have e1 : neg = neg' := by
  cases neg <;> cases neg'
  ·rfl
  ·have := h.hd rfl; rw [k.eq] at this; simp at this
  ·have := k.hd rfl; rw [h.eq] at this; simp at this
  ·rfl
 subst e1
 have e2 := List.append_cancel_left (h.eq.symm.trans k.eq)
 obtain ⟨e3, e4⟩ := zda e2 h.no k.no (by cases many <;> simp) (by cases many' <;> simp)
 refine ⟨rfl, z3c e3, ?_⟩
 cases many <;> cases many'
 ·exact ⟨rfl, fun h => by cases h⟩
 ·simp at e4
 ·simp at e4
 ·simp at e4; exact ⟨rfl, fun _ => z3c e4⟩
theorem Sp.size {s n d : zAd} {neg many : Bool} (h : Sp s neg n many d) : n.size <= s.size /\ (many = true -> d.size <= s.size) := by
 have := congrArg List.length h.eq
 simp only [List.length_append, z00] at this
 refine ⟨by omega, fun hm => ?_⟩
 subst hm
 simp only [if_true, List.length_cons, z00] at this
 omega
theorem z4x (s : zAd) {i j : Nat} (h : i <= j) (hj : j <= s.size) : z03 (s.extract i j) = ((z03 s).drop i).take (j - i) /\ (s.extract i j).size = j - i := by
 have h1 := z2k s i j
 refine ⟨h1, ?_⟩
 rw [<- z00, h1, List.length_take, List.length_drop, z00]; omega
theorem zdy (K : Nat) (s : zAd) : ∃ s1 neg, z14 K s ⟨#[45]⟩ = some (s1, neg) /\ z03 s = (if neg then [45] else []) ++ z03 s1 /\ (neg = false -> (z03 s).head? ≠ some 45) /\ s1.size <= s.size := by
 unfold z14 z0r z0q
 have hn := z00 s
 have e1 : ((⟨#[45]⟩ : zAd).size : Int) = 1 := rfl
 rw [e1]
 by_cases h0 : s.size = 0
 ·have hb : z03 s = [] := List.length_eq_zero_iff.1 (by omega)
  refine ⟨s, false, ?_, by simp, fun _ => by rw [hb]; simp, Nat.le_refl _⟩
  rw [h0]
  rfl
 ·obtain ⟨c, l, hc⟩ : ∃ c l, z03 s = c :: l := by
   cases hb : z03 s with
   | nil => rw [hb] at hn; simp at hn; omega
   | cons c l => exact ⟨c, l, rfl⟩
  have hx : ssl s 0 1 = some (s.extract 0 1) := by rw [sslI (by omega) (by omega) (by omega)]; rfl
  have hxb : z03 (s.extract 0 1) = [c] := by rw [(z4x s (by omega) (by omega)).1, hc]; rfl
  rw [decide_eq_true (by omega), if_pos rfl, hx, z0e, z0e, tu1a, z0e]
  by_cases h45 : c = 45
  ·have he : sEq (s.extract 0 1) ⟨#[45]⟩ = true := sEq_iff.2 (z3c (by rw [hxb, h45]; rfl))
   obtain ⟨t, t1, t2, t3⟩ := zc7 hc
   refine ⟨t, true, ?_, by rw [hc, t2, h45]; rfl, fun h => by (cases h), by rw [hc] at hn; simp at hn; omega⟩
   rw [he]
   simp only [Bool.not_true, Bool.false_eq_true, if_false]
   rw [t1, z0e, z0e]
  ·have he : sEq (s.extract 0 1) ⟨#[45]⟩ = false := zpg (fun e => by
    have := congrArg z03 e
    rw [hxb] at this
    have e2 : z03 (⟨#[45]⟩ : zAd) = [45] := rfl
    rw [e2] at this
    simp at this; exact h45 this)
   refine ⟨s, false, ?_, by simp, fun _ => by rw [hc]; simpa using h45, Nat.le_refl _⟩
   rw [he]
   rfl
theorem z8r (c : UInt8) : ∀ (l : List UInt8), (Lib.indexByte l c = -1 /\ c ∉ l) \/ ∃ i : Nat, Lib.indexByte l c = i /\ i < l.length /\ l[i]? = some c /\ c ∉ l.take i
 | [] => .inl ⟨rfl, by simp⟩
 | b :: l => by
  rw [Lib.indexByte]
  by_cases hb : b = c
  ·subst hb; exact .inr ⟨0, by simp, by simp, by simp, by simp⟩
  ·have hb' : (b == c) = false := by simpa using hb
   rw [hb']
   rcases z8r c l with ⟨h1, h2⟩ | ⟨i, h1, h2, h3, h4⟩
   ·refine .inl ⟨by rw [h1]; rfl, ?_⟩
    simp only [List.mem_cons, not_or]
    exact ⟨fun e => hb e.symm, h2⟩
   ·refine .inr ⟨i + 1, ?_, by simp; omega, by simpa using h3, ?_⟩
    ·rw [h1]
     have : ((i : Int) == -1) = false := by rw [beq_eq_false_iff_ne]; omega
     rw [this]
     simp
    ·rw [List.take_succ_cons]
     simp only [List.mem_cons, not_or]
     exact ⟨fun e => hb e.symm, h4⟩
theorem zf3 {c : UInt8} {l : List UInt8} (h : ((c.toNat : Nat) : Int) ∈ l.map (fun b => (b.toNat : Int))) : c ∈ l := by
 rw [List.mem_map] at h
 obtain ⟨b, hb, he⟩ := h
 have : b = c := UInt8.toNat_inj.1 (by omega)
 subst this; exact hb
theorem zph {s : zAd} (hs : s.size <= 1048576) : ∃ n d many, z35 K s ⟨#[47]⟩ = some (n, d, many) /\ z03 s = z03 n ++ (if many then 47 :: z03 d else []) /\ 47 ∉ z03 n /\ (many = false -> d = ⟨#[]⟩) := by
 have hn := z00 s
 have hx : z0p K s ⟨#[47]⟩ = some (Lib.indexByte s.data.toList 47) := by
  unfold z0p z1c
  have e1 : (((⟨#[47]⟩ : zAd).size : Int) == 0) = false := rfl
  have e2 : (((⟨#[47]⟩ : zAd).size : Int) == 1) = true := rfl
  have e3 : bidx (⟨#[47]⟩ : zAd) 0 = some 47 := rfl
  rw [e1, e2, e3]
  simp only [Bool.false_eq_true, if_false, z0e, tu1a, if_true]
  by_cases he : sEq ⟨#[47]⟩ s = true
  ·rw [he, if_pos rfl]
   rw [sEq_iff] at he
   subst he
   rfl
  ·rw [if_neg he]
   rfl
 unfold z35 z1e
 rw [hx, z0e]
 rcases z8r 47 s.data.toList with ⟨h1, h2⟩ | ⟨i, h1, h2, h3, h4⟩
 ·refine ⟨s, ⟨#[]⟩, false, by rw [h1]; rfl, by simp, fun h => h2 (zf3 h), fun _ => rfl⟩
 ·rw [Array.length_toList] at h2
  have h2' : i < s.size := h2
  have ea := z4x s (i := 0) (j := i) (by omega) (by omega)
  have eb := z4x s (i := i + 1) (j := s.size) (by omega) (by omega)
  refine ⟨s.extract 0 i, s.extract (i + 1) s.size, true, ?_, ?_, ?_, fun h => by cases h⟩
  ·have e1 : ((⟨#[47]⟩ : zAd).size : Int) = 1 := rfl
   have t0 : Int.toNat 0 = 0 := rfl
   have t1 : ((i : Int) + 1).toNat = i + 1 := by omega
   rw [h1, if_pos (decide_eq_true (by omega)), sslI (by omega) (by omega) (by omega), z0e, e1, k64 (by omega) (by omega), sslI (by omega) (by omega) (by omega), z0e, z0e, t1]
   rfl
  ·rw [ea.1, eb.1]
   have h5 : (z03 s)[i]? = some 47 := by unfold z03; rw [List.getElem?_map, h3]; rfl
   have h6 : i < (z03 s).length := by omega
   rw [zAh h6] at h5
   simp only [if_true, List.drop_zero, Nat.sub_zero]
   rw [List.take_of_length_le (l := (z03 s).drop (i + 1)) (by rw [List.length_drop]; omega)]
   conv => lhs; rw [<- List.take_append_drop i (z03 s), List.drop_eq_getElem_cons h6]
   rw [zAa h5]
  ·rw [ea.1, List.drop_zero, Nat.sub_zero]
   intro h
   unfold z03 at h
   rw [<- List.map_take] at h
   exact h4 (zf3 h)
theorem zan (K : Nat) {s : zAd} (hs : s.size <= 1048576) : ∃ s1 neg n d many, z14 K s ⟨#[45]⟩ = some (s1, neg) /\ z35 K s1 ⟨#[47]⟩ = some (n, d, many) /\ Sp s neg n many d /\ z03 s = (if neg then [45] else []) ++ z03 s1 /\ (many = false -> d = ⟨#[]⟩) := by
 obtain ⟨s1, neg, h1, h2, h3, h4⟩ := zdy K s
 obtain ⟨n, d, many, c1, c2, c3, c4⟩ := zph (K := K) (s := s1) (by omega)
 exact ⟨s1, neg, n, d, many, h1, c1, ⟨by rw [h2, c2], c3, h3⟩, h2, c4⟩
def ratS (neg : Bool) (n : zAd) (many : Bool) (d : zAd) : Int :=
 if natE n = 5 \/ (many = true /\ natE d = 5) \/ (neg = true /\ n = ⟨#[48]⟩) then 5 else if natE n ≠ 0 \/ (many = true /\ natE d ≠ 0) then 2 else
 if many = true /\ (d = ⟨#[48]⟩ \/ d = ⟨#[49]⟩ \/ Nat.gcd (numT n).toNat (numT d).toNat ≠ 1) then 3 else 0
theorem z9g (a b : zAd) : sEq a b = decide (a = b) := by
 by_cases h : a = b
 ·rw [decide_eq_true h]; exact sEq_iff.2 h
 ·rw [decide_eq_false h]; exact zpg h
theorem zns (G : Nat) : ((if (G : Int) < 1 then (-1 : Int) else if (G : Int) = 1 then 0 else 1) != 0) = decide (G ≠ 1) := by
 by_cases hG : G = 1
 ·subst hG; rfl
 ·rw [decide_eq_true hG]
  by_cases h0 : (G : Int) < 1
  ·rw [if_pos h0]; rfl
  ·rw [if_neg h0, if_neg (by omega)]; rfl
theorem znt : natE ⟨#[48]⟩ = 0 := (z9e _).2 ⟨z8q, by decide⟩
theorem zk9 {s n d : zAd} {neg many : Bool} (hs : s.size <= 1048576) (hK : 2000000000 < K) (h : Sp s neg n many d) : z5d K s = some (ratS neg n many d) := by
 obtain ⟨s1, neg', n', d', many', c1, c2, c3, c4, c5⟩ := zan K hs
 obtain ⟨rfl, rfl, rfl, hd⟩ := h.uniq c3
 have hsz := h.size
 unfold z5d ratS
 rw [c1, z0e, c2, z0e]
 dsimp only
 rw [zd9 (by omega) (by omega), z0e]
 cases many with
 | false =>
  simp only [Bool.false_eq_true, if_false, z0e, tu1a, false_and, false_or, or_false]
  by_cases e5 : natE n = 5
  ·simp [e5, z0e, tu1a]
  ·have e5' : (natE n == 5) = false := by rw [beq_eq_false_iff_ne]; exact e5
   have e05 : ((0 : Int) == 5) = false := rfl
   rw [e5', e05]
   cases neg <;> by_cases e0 : natE n = 0 <;> by_cases en : n = ⟨#[48]⟩ <;> simp [e0, e5, en, z9g, z0e, tu1a, znt]
 | true =>
  have hdd := hd rfl
  subst hdd
  simp only [if_true, true_and]
  rw [zd9 (by have := hsz.2 rfl; omega) (by have := hsz.2 rfl; omega)]
  simp only [z0e, tu1a]
  by_cases e5 : natE n = 5
  ·simp [e5, z0e, tu1a]
  ·have e5' : (natE n == 5) = false := by rw [beq_eq_false_iff_ne]; exact e5
   by_cases f5 : natE d = 5
   ·simp [e5, f5, z0e, tu1a]
   ·have f5' : (natE d == 5) = false := by rw [beq_eq_false_iff_ne]; exact f5
    have hneg : (if neg = true then some (sEq n (⟨#[48]⟩ : zAd)) else some false) = some (decide (neg = true /\ n = ⟨#[48]⟩)) := by
     cases neg <;> simp [z9g]
    rw [e5', f5', hneg]
    simp only [Bool.false_eq_true, if_false, z0e, tu1a, e5, f5, false_or]
    by_cases hz : neg = true /\ n = ⟨#[48]⟩
    ·rw [decide_eq_true hz, if_pos rfl, if_pos hz]
    ·rw [decide_eq_false hz, if_neg (by simp), if_neg hz]
     by_cases e0 : natE n = 0
     ·by_cases f0 : natE d = 0
      ·obtain ⟨cn, ln⟩ := (z9e n).1 e0
       obtain ⟨cd, ld⟩ := (z9e d).1 f0
       obtain ⟨x, x1, x2, x3⟩ := z97 (K := K) (s := n) (by omega) hK cn.2.1
       obtain ⟨y, y1, y2, y3⟩ := z97 (K := K) (s := d) (by omega) hK cd.2.1
       have nn := z31 cn.2.1
       have nd := z31 cd.2.1
       obtain ⟨g, g1, g2⟩ := zl1 (K := K) (x := x) (y := y) (a := (numT n).toNat) (b := (numT d).toNat) (by omega) (by omega) hK (by rw [Int.toNat_of_nonneg nn]; exact x2) (by rw [Int.toNat_of_nonneg nd]; exact y2)
       have gl : g.length <= 1000000 := by
        by_cases h0 : (numT d).toNat = 0
        ·rw [h0, Nat.gcd_zero_right, Int.toNat_of_nonneg nn] at g2
         rw [g2.inj x2]; omega
        ·have := z88 g2 y2 (by have := Nat.gcd_le_right (n := (numT d).toNat) (numT n).toNat (by omega); omega)
         omega
       have hc := zet (K := K) (x := g) (y := [1]) (by omega) (by simp) hK g2 (.one (by omega) (by omega))
       have hcv : ((if ((Nat.gcd (numT n).toNat (numT d).toNat : Nat) : Int) < 1 then (-1 : Int) else if ((Nat.gcd (numT n).toNat (numT d).toNat : Nat) : Int) = 1 then 0 else 1) != 0) = decide (Nat.gcd (numT n).toNat (numT d).toNat ≠ 1) := by
        exact zns _
       rw [e0, f0]
       simp only [bne_self_eq_false, Bool.false_eq_true, if_false, z0e, tu1a, ne_eq, not_true, or_self, x1, y1, g1, zf2 hK, hc, hcv, z9g]
       by_cases d0 : d = ⟨#[48]⟩
       ·simp [d0, z0e, tu1a]
       ·by_cases d1 : d = ⟨#[49]⟩
        ·simp [d1, z0e, tu1a]
        ·by_cases hG : Nat.gcd (numT n).toNat (numT d).toNat = 1 <;> simp [d0, d1, hG, z0e, tu1a]
      ·simp [e0, f0, z0e, tu1a]
     ·simp [e0, z0e, tu1a]
end Go.Am.Tryz
/- Plain law: the reference's parts of a rational number's text and its error. -/
namespace Go.Am.Tryz
open Go Go.Am Go.Proofs
variable {K : Nat}
theorem zdb {l r : List Int} {i : Nat} (h : i < l.length) : (l ++ r).getD i 0 = l.getD i 0 := by
 rw [zAb, List.getElem?_append_left h, zAb]
theorem zi3 {l : List Int} {i : Nat} (h : i < l.length) : l.getD i 0 ∈ l := by
 rw [zAb, zAh h]; exact List.getElem_mem h
theorem zi4 {s n : zAd} {r : List Int} (h : z03 s = z03 n ++ r) : s.extract 0 n.size = n := by
 have hl := congrArg List.length h
 rw [List.length_append, z00, z00] at hl
 apply z3c
 rw [(z4x s (by omega) (by omega)).1, h, List.drop_zero, Nat.sub_zero, List.take_append_of_le_length (by rw [z00]; omega), List.take_of_length_le (by rw [z00]; omega)]
theorem zf4 {s n d : zAd} (h : z03 s = z03 n ++ 47 :: z03 d) : s.extract (n.size + 1) s.size = d := by
 have hl := congrArg List.length h
 rw [List.length_append, List.length_cons, z00, z00, z00] at hl
 apply z3c
 rw [(z4x s (by omega) (by omega)).1, h, List.drop_append, z00]
 rw [List.drop_eq_nil_of_le (by rw [z00]; omega), show n.size + 1 - n.size = 1 by omega]
 simp only [List.nil_append, List.drop_succ_cons, List.drop_zero]
 rw [List.take_of_length_le (by rw [z00]; omega)]
theorem zka {s : zAd} {neg : Bool} {r : List Int} (h : z03 s = (if neg then [45] else []) ++ r) (hd : neg = false -> (z03 s).head? ≠ some 45) (K : Nat) :
  ∃ s1, (Option.bind ((if (decide ((s.size : Int) > 0)) = true then ((bidx s 0).bind fun x7 => some (x7 == 45)) else some false)) (tu1 fun x11 => ((if x11 = true then ((ssl s 1 (s.size : Int)).bind fun x26 => some (x26, true)) else some (s, false))))) = some (s1, neg) /\ z03 s1 = r /\ s1.size <= s.size := by
 have hn := z00 s
 cases neg with
 | true =>
  simp only [if_true, List.cons_append, List.nil_append] at h
  obtain ⟨t, t1, t2, t3⟩ := zc7 h
  have hb : bidx s 0 = some 45 := by rw [z99, h]; rfl
  have hs : 0 < s.size := by rw [h] at hn; simp at hn; omega
  refine ⟨t, ?_, t2, by rw [h] at hn; simp at hn; omega⟩
  rw [decide_eq_true (by omega), if_pos rfl, hb, z0e, z0e, tu1a]
  simp only [beq_self_eq_true, if_true, t1, z0e]
 | false =>
  simp only [Bool.false_eq_true, if_false, List.nil_append] at h
  refine ⟨s, ?_, h, Nat.le_refl _⟩
  by_cases h0 : 0 < s.size
  ·cases hb : z03 s with
   | nil => rw [hb] at hn; simp at hn; omega
   | cons c l =>
    have hc : c ≠ 45 := fun e => hd rfl (by rw [hb, e]; rfl)
    have hx : bidx s 0 = some c := by rw [z99, hb]; rfl
    have e : (c == 45) = false := by rw [beq_eq_false_iff_ne]; exact hc
    rw [decide_eq_true (by omega), if_pos rfl, hx, z0e, e, z0e, tu1a]
    rfl
  ·rw [decide_eq_false (by omega)]
   rfl
theorem zfv {s n d : zAd} {many : Bool} (hs : s.size <= 1048576) (hK : 2000000000 < K) (h : z03 s = z03 n ++ (if many then 47 :: z03 d else [])) (hno : 47 ∉ z03 n) :
  ∃ r : Int × zAd × zAd, z12 K s K 1 s ⟨#[50]⟩ 0 = some r /\ r = (if many then (2, n, d) else (1, s, ⟨#[50]⟩)) := by
 have hn := z00 s
 have hln : n.size <= s.size := by
  have := congrArg List.length h
  rw [List.length_append, z00, z00] at this; omega
 have hlt : many = true -> n.size < s.size := fun hm => by
  subst hm
  have := congrArg List.length h
  rw [List.length_append, z00, z00] at this
  simp at this; omega
 refine z87 (fun k (q : Int × zAd × zAd × Int) => z12 K s k q.1 q.2.1 q.2.2.1 q.2.2.2) (fun q => ∃ i : Nat, q.2.2.2 = i /\ i <= s.size /\ (q.1, q.2.1, q.2.2.1) = (if many = true /\ n.size < i then (2, n, d) else (1, s, ⟨#[50]⟩))) (fun q => (s.size - q.2.2.2 : Int).toNat) _ ?_ ((1, s, ⟨#[50]⟩, 0) : Int × zAd × zAd × Int) (by dsimp only; omega) ⟨0, rfl, by omega, by rw [if_neg (by omega)]⟩
 rintro k ⟨m, a, b, _⟩ ⟨i, rfl, h0, h1⟩
 dsimp only at h1 ⊢
 by_cases hi : i < s.size
 ·right
  have hb : bidx s i = some ((z03 s).getD i 0) := by rw [zoy (by omega) (by omega), Int.toNat_natCast]
  by_cases c : many = true /\ n.size < i
  ·rw [if_pos c] at h1
   simp only [Prod.mk.injEq] at h1
   obtain ⟨rfl, rfl, rfl⟩ := h1
   refine ⟨(2, a, b, (i : Int) + 1), ?_, by dsimp only; omega, i + 1, rfl, by omega, by rw [if_pos ⟨c.1, by omega⟩]⟩
   rw [z12, if_pos (decide_eq_true (by omega)), hb, z0e, k64 (by omega) (by omega)]
   have e : ((2 : Int) == 1) = false := rfl
   rw [e]
   by_cases c2 : (z03 s).getD i 0 == 47 <;> simp [c2, z0e, tu1a, tu3a]
  ·rw [if_neg c] at h1
   simp only [Prod.mk.injEq] at h1
   obtain ⟨rfl, rfl, rfl⟩ := h1
   by_cases c3 : many = true /\ i = n.size
   ·obtain ⟨hm, rfl⟩ := c3
    subst hm
    simp only [if_true] at h
    have hch : (z03 a).getD n.size 0 = 47 := by
     rw [h, zAb, List.getElem?_append_right (by rw [z00]; omega), z00]
     simp
    refine ⟨(2, n, d, (n.size : Int) + 1), ?_, by dsimp only; omega, n.size + 1, rfl, by omega, by rw [if_pos ⟨rfl, by omega⟩]⟩
    have t0 : Int.toNat 0 = 0 := rfl
    have t1 : ((n.size : Int) + 1).toNat = n.size + 1 := by omega
    rw [z12, if_pos (decide_eq_true (by omega)), hb, z0e, hch, k64 (by omega) (by omega), sslI (l := 0) (by omega) (by omega) (by omega), sslI (by omega) (by omega) (by omega), t0, t1, Int.toNat_natCast, Int.toNat_natCast, zi4 h, zf4 h]
    rfl
   ·have hin : i < n.size := by
     cases many with
     | true => simp at c c3; omega
     | false =>
      simp only [Bool.false_eq_true, if_false, List.append_nil] at h
      have := congrArg List.length h
      rw [z00, z00] at this; omega
    have hch : (z03 a).getD i 0 ≠ 47 := fun e => by
     rw [h, zdb (by rw [z00]; omega)] at e
     exact hno (e ▸ zi3 (by rw [z00]; omega))
    have e : ((z03 a).getD i 0 == 47) = false := by rw [beq_eq_false_iff_ne]; exact hch
    refine ⟨(1, a, ⟨#[50]⟩, (i : Int) + 1), ?_, by dsimp only; omega, i + 1, rfl, by omega, by rw [if_neg (by omega)]⟩
    rw [z12, if_pos (decide_eq_true (by omega)), hb, z0e, e, k64 (by omega) (by omega)]
    rfl
 ·left
  have : i = s.size := by omega
  subst this
  refine ⟨(m, a, b), by rw [z12, if_neg (by simp)], ?_⟩
  cases many with
  | true => have := hlt rfl; simp only [true_and, if_pos this] at h1; exact h1
  | false => simpa using h1
theorem zkb {s n d : zAd} {neg many : Bool} (hs : s.size <= 1048576) (hK : 2000000000 < K) (h : Sp s neg n many d) : z4g K s = some (ratS neg n many d) := by
 have hsz := h.size
 obtain ⟨s1, h1, h2, h3⟩ := zka h.eq h.hd K
 obtain ⟨r, r1, rfl⟩ := zfv (K := K) (s := s1) (n := n) (d := d) (many := many) (by omega) hK h2 h.no
 unfold z4g ratS
 -- the sign
 have hsplit : ∀ {α : Type} (F : zAd × Bool -> Option α), (Option.bind ((if (decide ((s.size : Int) > 0)) = true then ((bidx s 0).bind fun x7 => some (x7 == 45)) else some false)) (tu1 fun x11 => (Option.bind ((if x11 = true then ((ssl s 1 (s.size : Int)).bind fun x26 => some (x26, true)) else some (s, false))) F))) = F (s1, neg) := by
  intro α F
  have : ∀ (m : Option Bool) (f : Bool -> Option (zAd × Bool)), (Option.bind m (tu1 fun x => Option.bind (f x) F)) = Option.bind (Option.bind m (tu1 f)) F := by
   intro m f; cases m <;> rfl
  rw [this, h1]; rfl
 rw [hsplit, tu2a, r1, z0e, tu3a]
 cases many with
 | false =>
  have hs1 : s1 = n := z3c (by simpa using h2)
  subst hs1
  have e2 : natE ⟨#[50]⟩ = 0 := (z9e _).2 ⟨⟨by decide, rfl, fun h => by simp [z03] at h⟩, by decide⟩
  simp only [Bool.false_eq_true, if_false, false_and, false_or, or_false]
  rw [z9t (by omega) (by omega), z9t (s := ⟨#[50]⟩) (by decide) (by show 1 < K; omega), z0e, z0e, e2]
  by_cases e5 : natE s1 = 5
  ·simp [e5, z0e, tu1a]
  ·have e5' : (natE s1 == 5) = false := by rw [beq_eq_false_iff_ne]; exact e5
   have e05 : ((0 : Int) == 5) = false := rfl
   rw [e5', e05]
   cases neg <;> by_cases e0 : natE s1 = 0 <;> by_cases en : s1 = ⟨#[48]⟩ <;> simp [e0, e5, en, z9g, z0e, tu1a, znt]
 | true =>
  have hd := hsz.2 rfl
  simp only [if_true, true_and]
  rw [z9t (by omega) (by omega), z9t (s := d) (by omega) (by omega), z0e, z0e]
  by_cases e5 : natE n = 5
  ·simp [e5, z0e, tu1a]
  ·have e5' : (natE n == 5) = false := by rw [beq_eq_false_iff_ne]; exact e5
   by_cases f5 : natE d = 5
   ·simp [e5, f5, z0e, tu1a]
   ·have f5' : (natE d == 5) = false := by rw [beq_eq_false_iff_ne]; exact f5
    have hneg : (if neg = true then some (sEq n (⟨#[48]⟩ : zAd)) else some false) = some (decide (neg = true /\ n = ⟨#[48]⟩)) := by
     cases neg <;> simp [z9g]
    rw [e5', f5', hneg]
    simp only [Bool.false_eq_true, if_false, z0e, tu1a, e5, f5, false_or]
    by_cases hz : neg = true /\ n = ⟨#[48]⟩
    ·rw [decide_eq_true hz, if_pos rfl, if_pos hz]
    ·rw [decide_eq_false hz, if_neg (by simp), if_neg hz]
     by_cases e0 : natE n = 0
     ·by_cases f0 : natE d = 0
      ·obtain ⟨cn, ln⟩ := (z9e n).1 e0
       obtain ⟨cd, ld⟩ := (z9e d).1 f0
       have nn := z31 cn.2.1
       have nd := z31 cd.2.1
       obtain ⟨g, g1, g2, g3⟩ := zl2 (K := K) (x := n) (y := d) (a := (numT n).toNat) (b := (numT d).toNat) (by omega) (by omega) hK cn cd (by omega) (by omega)
       have hg : (!(decide (g = ⟨#[49]⟩))) = decide (Nat.gcd (numT n).toNat (numT d).toNat ≠ 1) := by
        by_cases hG : Nat.gcd (numT n).toNat (numT d).toNat = 1
        ·have : g = ⟨#[49]⟩ := z86 g2 z6v (by rw [g3, z63, hG]; rfl)
         simp [this, hG]
        ·have : g ≠ ⟨#[49]⟩ := fun e => hG (by rw [e, z63] at g3; omega)
         simp [this, hG]
       have e22 : ((2 : Int) == 2) = true := rfl
       rw [e0, f0, e22]
       simp only [bne_self_eq_false, Bool.false_eq_true, if_false, z0e, tu1a, ne_eq, not_true, or_self, g1, hg, z9g, if_true]
       by_cases d0 : d = ⟨#[48]⟩
       ·simp [d0, z0e, tu1a]
       ·by_cases d1 : d = ⟨#[49]⟩
        ·simp [d1, z0e, tu1a]
        ·by_cases hG : Nat.gcd (numT n).toNat (numT d).toNat = 1 <;> simp [d0, d1, hG, z0e, tu1a]
      ·simp [e0, f0, z0e, tu1a]
     ·simp [e0, z0e, tu1a]
theorem zi5 {s n d : zAd} {many : Bool} {x1 : Int} (hs : s.size <= 1048576) (hK : 2000000000 < K) (h : z03 s = z03 n ++ (if many then 47 :: z03 d else [])) (hno : 47 ∉ z03 n) :
  ∃ r : (Bool × zAd × zAd) ⊕ Unit, z2w K x1 s K 0 = some r /\ r = (if many then .inl (x1 == 45, n, d) else .inr ()) := by
 have hn := z00 s
 have hln : n.size <= s.size := by
  have := congrArg List.length h
  rw [List.length_append, z00, z00] at this; omega
 refine z87 (fun k (q : Int) => z2w K x1 s k q) (fun q => ∃ i : Nat, q = i /\ i <= n.size) (fun q => (s.size - q : Int).toNat) _ ?_ (0 : Int) (by omega) ⟨0, rfl, by omega⟩
 rintro k _ ⟨i, rfl, h0⟩
 by_cases hi : i < n.size
 ·right
  have hb : bidx s i = some ((z03 s).getD i 0) := by rw [zoy (by omega) (by omega), Int.toNat_natCast]
  have hch : (z03 s).getD i 0 ≠ 47 := fun e => by
   rw [h, zdb (by rw [z00]; omega)] at e
   exact hno (e ▸ zi3 (by rw [z00]; omega))
  have e : ((z03 s).getD i 0 == 47) = false := by rw [beq_eq_false_iff_ne]; exact hch
  refine ⟨(i : Int) + 1, ?_, by omega, i + 1, rfl, by omega⟩
  rw [z2w, if_pos (decide_eq_true (by omega)), hb, z0e, e, k64 (by omega) (by omega)]
  rfl
 ·left
  have : i = n.size := by omega
  subst this
  cases many with
  | true =>
   simp only [if_true] at h
   have hlt : n.size < s.size := by
    have := congrArg List.length h
    rw [List.length_append, z00, z00] at this
    simp at this; omega
   have hb : bidx s n.size = some ((z03 s).getD n.size 0) := by rw [zoy (by omega) (by omega), Int.toNat_natCast]
   have hch : (z03 s).getD n.size 0 = 47 := by
    rw [h, zAb, List.getElem?_append_right (by rw [z00]; omega), z00]
    simp
   have t0 : Int.toNat 0 = 0 := rfl
   have t1 : ((n.size : Int) + 1).toNat = n.size + 1 := by omega
   refine ⟨_, ?_, rfl⟩
   rw [z2w, if_pos (decide_eq_true (by omega)), hb, z0e, hch, k64 (by omega) (by omega), sslI (l := 0) (by omega) (by omega) (by omega), sslI (by omega) (by omega) (by omega), t0, t1, Int.toNat_natCast, Int.toNat_natCast, zi4 h, zf4 h]
   rfl
  | false =>
   simp only [Bool.false_eq_true, if_false, List.append_nil] at h
   have : n.size = s.size := by
    have := congrArg List.length h
    rw [z00, z00] at this; omega
   exact ⟨.inr (), by rw [z2w, if_neg (by simp; omega)], rfl⟩
theorem zkc {s n d : zAd} {neg many : Bool} (hs : s.size <= 1048576) (h0 : s.size ≠ 0) (hK : 2000000000 < K) (h : Sp s neg n many d) : z4l K s = some (neg, n, if many then d else ⟨#[49]⟩) := by
 have hn := z00 s
 obtain ⟨c, l, hc⟩ : ∃ c l, z03 s = c :: l := by
  cases hb : z03 s with
  | nil => rw [hb] at hn; simp at hn; omega
  | cons c l => exact ⟨c, l, rfl⟩
 have hx : bidx s 0 = some c := by rw [z99, hc]; rfl
 have hneg : (c == 45) = neg := by
  cases neg with
  | true => have := h.eq; rw [hc] at this; simp at this; rw [this.1]; rfl
  | false => have := h.hd rfl; rw [hc] at this; simpa using this
 obtain ⟨s1, e1, e2, e3⟩ : ∃ s1, (if neg = true then ((ssl s 1 (s.size : Int)).bind fun x9 => some x9) else some s) = some s1 /\ z03 s1 = z03 n ++ (if many then 47 :: z03 d else []) /\ s1.size <= s.size := by
  cases neg with
  | true =>
   have he := h.eq
   simp only [if_true, List.cons_append, List.nil_append] at he
   obtain ⟨t, t1, t2, t3⟩ := zc7 he
   exact ⟨t, by rw [if_pos rfl, t1]; rfl, t2, by rw [he] at hn; rw [List.length_cons] at hn; omega⟩
  | false => exact ⟨s, rfl, by simpa using h.eq, Nat.le_refl _⟩
 obtain ⟨r, r1, rfl⟩ := zi5 (K := K) (s := s1) (n := n) (d := d) (many := many) (x1 := c) (by omega) hK e2 h.no
 unfold z4l
 rw [hx, z0e, hneg, e1, z0e, tu1a, r1]
 cases many with
 | true => simp only [if_true, zhi, tu3a, hneg]
 | false =>
  have hs1 : s1 = n := z3c (by simpa using e2)
  subst hs1
  simp only [Bool.false_eq_true, if_false, zjr, tu0a]
end Go.Am.Tryz
/- Plain law: the program's rational numbers and their texts. -/
namespace Go.Am.Tryz
open Go Go.Am Go.Proofs
variable {K : Nat}
def RTx (s : zAd) (x : Rat) : Prop := ∃ n d, CanT n /\ CanT d /\ numT n = (x.num.natAbs : Nat) /\ numT d = (x.den : Nat) /\ Sp s (decide (x.num < 0)) n (decide (x.den ≠ 1)) d
theorem RTx.inj {s t : zAd} {x : Rat} (h : RTx s x) (k : RTx t x) : s = t := by
 obtain ⟨n, d, h1, h2, h3, h4, h5⟩ := h
 obtain ⟨n', d', k1, k2, k3, k4, k5⟩ := k
 have e1 : n = n' := z86 h1 k1 (by rw [h3, k3])
 have e2 : d = d' := z86 h2 k2 (by rw [h4, k4])
 subst e1 e2
 exact z3c (by rw [h5.eq, k5.eq])
theorem RTx.val {s : zAd} {x y : Rat} (h : RTx s x) (k : RTx s y) : x = y := by
 obtain ⟨n, d, h1, h2, h3, h4, h5⟩ := h
 obtain ⟨n', d', k1, k2, k3, k4, k5⟩ := k
 obtain ⟨e1, rfl, e3, e4⟩ := h5.uniq k5
 have e5 : x.num = y.num := by
  rw [<- z9f x, <- z9f y, e1]
  congr 1
  omega
 have e6 : x.den = y.den := by
  by_cases c : x.den ≠ 1
  ·have := e4 (decide_eq_true c)
   subst this; omega
  ·have c2 : ¬ y.den ≠ 1 := fun c2 => by
    rw [decide_eq_false c, decide_eq_true c2] at e3; cases e3
   omega
 exact Rat.ext e5 e6
def QV (a : Q) (x : Rat) : Prop := a.neg = decide (x.num < 0) /\ NumN (x.num.natAbs : Nat) a.num /\ (NumN (x.den : Nat) a.den \/ (a.den = [] /\ x.den = 1))
theorem z89 (N : Nat) : ((10 ^ N : Nat) : Int) = (10 : Int) ^ N := by simp
theorem zi6 {n N : Nat} {l : List Int} (h : NumN n l) (hn : n < 10 ^ N) : l.length <= N / 9 + 1 := by
 refine Nat.not_lt.1 fun hlt => ?_
 have g1 := zhj (B := 1000000000) (by omega) h.1 (by rintro rfl; simp at hlt)
 rw [h.2] at g1
 have g5 : (1000000000 : Int) = 10 ^ 9 := by decide
 rw [g5, <- Int.pow_mul] at g1
 have g2 : (10 : Int) ^ N <= 10 ^ (9 * (l.length - 1)) := z7i (by omega) (by omega)
 have g4 : (n : Int) < (10 : Int) ^ N := by rw [<- z89]; omega
 omega
theorem z8s {n N : Nat} {t : zAd} (h : CanT t) (ht : numT t = n) (hn : n < 10 ^ N) : t.size <= N + 1 := by
 refine Nat.not_lt.1 fun hlt => ?_
 have g1 := zd6 h (by omega)
 have g2 : (10 : Int) ^ N <= 10 ^ (t.size - 1) := z7i (by omega) (by omega)
 have g4 : (n : Int) < (10 : Int) ^ N := by rw [<- z89]; omega
 omega
theorem zf5 {n N : Nat} {t : zAd} (h : (z03 t).all digT = true) (ht : numT t = n) (hN : t.size <= N) : n < 10 ^ N := by
 have g1 := zal h
 have g2 : (10 : Int) ^ t.size <= 10 ^ N := z7i (by omega) hN
 have g4 : (n : Int) < (10 : Int) ^ N := by omega
 rw [<- z89] at g4
 omega
theorem QV.lens9 {a : Q} {x : Rat} {N : Nat} (h : QV a x) (hx : Dl x N) : a.num.length <= N / 9 + 1 /\ a.den.length <= N / 9 + 1 := by
 refine ⟨zi6 h.2.1 hx.1, ?_⟩
 rcases h.2.2 with h2 | ⟨h2, _⟩
 ·exact zi6 h2 hx.2
 ·rw [h2]; exact Nat.zero_le _
theorem QV.zero : QV ⟨false, [], []⟩ 0 := ⟨rfl, .nil, .inr ⟨rfl, rfl⟩⟩
theorem QV.num0 {a : Q} {x : Rat} (h : QV a x) : a.num.length = 0 ↔ x = 0 := by
 rw [h.2.1.len0, <- Rat.num_eq_zero]; omega
theorem z95 {a : Q} {x : Rat} (h : QV a x) (hK : 2000000000 < K) : ∃ w, z18 K a = some w /\ NumN (x.den : Nat) w /\ w.length <= max a.den.length 1 := by
 unfold z18
 rcases h.2.2 with h2 | ⟨h2, h3⟩
 ·have hp := x.den_pos
  have h0 : a.den.length ≠ 0 := fun e => by have := h2.len0.1 e; omega
  refine ⟨a.den, ?_, h2, by omega⟩
  rw [if_neg (by rw [beq_iff_eq]; omega)]
 ·refine ⟨[1], ?_, by rw [h3]; exact .one (by omega) (by omega), by simp; omega⟩
  rw [h2, if_pos (by rfl), zf2 hK, z0e]
theorem zi7 {neg : Bool} {n d : Nat} {num den : List Int} (hd : d ≠ 0) (hn : NumN n num) (hdn : NumN d den) (l1 : num.length <= 3000000) (l2 : den.length <= 3000000) (hK : 2000000000 < K) :
  ∃ q, z55 K neg num den = some q /\ QV q (mkRat (sgn neg n) d) := by
 unfold z55
 by_cases h0 : num.length = 0
 ·have e := hn.len0.1 h0
  have e' : n = 0 := by omega
  subst e'
  refine ⟨⟨false, [], []⟩, by rw [if_pos (by rw [beq_iff_eq]; omega)], ?_⟩
  have : mkRat (sgn neg 0) d = 0 := by
   have : sgn neg 0 = 0 := by cases neg <;> rfl
   rw [this, Rat.zero_mkRat]
  rw [this]; exact QV.zero
 ·have hn0 : n ≠ 0 := fun e => h0 (hn.len0.2 (by omega))
  obtain ⟨g, g1, g2⟩ := zl1 (K := K) (by omega) (by omega) hK hn hdn
  have gp : 0 < Nat.gcd n d := Nat.gcd_pos_of_pos_left d (by omega)
  have gl := z88 g2 hn (by have := Nat.gcd_le_left (m := n) d (by omega); omega)
  have hc := zet (K := K) (x := g) (y := [1]) (by omega) (by simp) hK g2 (.one (by omega) (by omega))
  rw [if_neg (by rw [beq_iff_eq]; omega), g1, z0e, zf2 hK, z0e, hc, z0e]
  have m1 := zk7 neg n d hd
  have m2 := zk8 neg n d hd
  have m3 := zm3 neg n d hd hn0
  by_cases h1 : Nat.gcd n d = 1
  ·refine ⟨⟨neg, num, den⟩, ?_, m3.symm, ?_, .inl ?_⟩
   ·rw [h1]; rfl
   ·rw [m1, h1, Nat.div_one]; exact hn
   ·rw [m2, h1, Nat.div_one]; exact hdn
  ·obtain ⟨q1, r1, a1, a2, a3, a4, a5⟩ := zey (K := K) (x := num) (y := g) (by omega) (by omega) hK hn g2 (by omega)
   obtain ⟨q2, r2, b1, b2, b3, b4, b5⟩ := zey (K := K) (x := den) (y := g) (by omega) (by omega) hK hdn g2 (by omega)
   refine ⟨⟨neg, q1, q2⟩, ?_, m3.symm, ?_, .inl ?_⟩
   ·have e : decide ((if ((Nat.gcd n d : Nat) : Int) < 1 then (-1 : Int) else if ((Nat.gcd n d : Nat) : Int) = 1 then 0 else 1) > 0) = true := by
     rw [if_neg (by omega), if_neg (by omega)]; rfl
    rw [e, if_pos rfl, a1, z0e, b1, z0e, z0e, tu2a]
   ·rw [m1]
    have e : ((n : Int) / ((Nat.gcd n d : Nat) : Int)) = ((n / Nat.gcd n d : Nat) : Int) := by simp
    rw [e] at a2; exact a2
   ·rw [m2]
    have e : ((d : Int) / ((Nat.gcd n d : Nat) : Int)) = ((d / Nat.gcd n d : Nat) : Int) := by simp
    rw [e] at b2; exact b2
theorem zl3 (p : Bool) (X Y : Nat) : sgn p (X + Y) = sgn p X + sgn p Y := by unfold sgn; cases p <;> simp <;> omega
theorem zf6 (p q : Bool) (h : p ≠ q) {X Y : Nat} (hXY : Y <= X) : sgn p (X - Y) = sgn p X + sgn q Y := by
 unfold sgn; cases p <;> cases q <;> simp at h ⊢ <;> omega
theorem zl4 (p : Bool) (a b : Nat) : sgn p (a * b) = sgn p a * b := by unfold sgn; cases p <;> simp [Int.neg_mul]
theorem zi8 (x y : Rat) : x + y = mkRat (sgn (decide (x.num < 0)) (x.num.natAbs * y.den) + sgn (decide (y.num < 0)) (y.num.natAbs * x.den)) (x.den * y.den) := by
 rw [zl4, zl4, z9f, z9f, Rat.add_def']
theorem znu {a b : Q} {x y : Rat} {N : Nat} (ha : QV a x) (hb : QV b y) (dx : Dl x N) (dy : Dl y N) (hN : N <= 7000000) (hK : 2000000000 < K) : ∃ q, z6d K a b = some q /\ QV q (x + y) := by
 have la := ha.lens9 dx
 have lb := hb.lens9 dy
 have hN1 := dx.pos
 unfold z6d
 by_cases hx : x = 0
 ·subst hx
  refine ⟨b, ?_, by rw [Rat.zero_add]; exact hb⟩
  rw [if_pos (by rw [beq_iff_eq]; have := ha.num0.2 rfl; omega)]
 ·have hx0 : a.num.length ≠ 0 := fun e => hx (ha.num0.1 e)
  rw [if_neg (by rw [beq_iff_eq]; omega)]
  by_cases hy : y = 0
  ·subst hy
   refine ⟨a, ?_, by rw [Rat.add_zero]; exact ha⟩
   rw [if_pos (by rw [beq_iff_eq]; have := hb.num0.2 rfl; omega)]
  ·have hy0 : b.num.length ≠ 0 := fun e => hy (hb.num0.1 e)
   rw [if_neg (by rw [beq_iff_eq]; omega)]
   obtain ⟨wa, wa1, wa2, wa3⟩ := z95 (K := K) ha hK
   obtain ⟨wb, wb1, wb2, wb3⟩ := z95 (K := K) hb hK
   obtain ⟨X, X1, X2, X3⟩ := z8p (K := K) (x := a.num) (y := wb) (by omega) hK ha.2.1 wb2
   obtain ⟨Y, Y1, Y2, Y3⟩ := z8p (K := K) (x := b.num) (y := wa) (by omega) hK hb.2.1 wa2
   obtain ⟨D, D1, D2, D3⟩ := z8p (K := K) (x := wa) (y := wb) (by omega) hK wa2 wb2
   rw [wa1, wb1, z0e, X1, z0e, z0e, Y1, z0e, z0e, z0e, D1, z0e]
   rw [<- Int.natCast_mul] at X2 Y2 D2
   have hD : x.den * y.den ≠ 0 := Nat.mul_ne_zero x.den_nz y.den_nz
   rw [zi8, <- ha.1, <- hb.1]
   generalize x.num.natAbs * y.den = m at X2 ⊢
   generalize y.num.natAbs * x.den = n at Y2 ⊢
   by_cases hs : a.neg = b.neg
   ·obtain ⟨Z, Z1, Z2, Z3⟩ := znh (K := K) (x := X) (y := Y) (by omega) (by omega) hK X2 Y2
    rw [<- Int.natCast_add] at Z2
    obtain ⟨q, q1, q2⟩ := zi7 (K := K) (neg := a.neg) hD Z2 D2 (by omega) (by omega) hK
    refine ⟨q, ?_, by rw [<- hs, <- zl3]; exact q2⟩
    rw [if_pos (by simpa using hs), Z1, z0e, q1, z0e]
   ·have hc := zet (K := K) (x := X) (y := Y) (by omega) (by omega) hK X2 Y2
    rw [if_neg (by simpa using hs), hc, z0e]
    by_cases hle : n <= m
    ·obtain ⟨Z, Z1, Z2, Z3⟩ := zkx (K := K) (x := X) (y := Y) (by omega) hK X2 Y2 (by omega)
     rw [<- Int.natCast_sub hle] at Z2
     obtain ⟨q, q1, q2⟩ := zi7 (K := K) (neg := a.neg) hD Z2 D2 (by omega) (by omega) hK
     refine ⟨q, ?_, by rw [<- zf6 _ _ hs hle]; exact q2⟩
     rw [if_pos (decide_eq_true (by rw [if_neg (by omega)]; split <;> omega)), Z1, z0e, q1, z0e]
    ·obtain ⟨Z, Z1, Z2, Z3⟩ := zkx (K := K) (x := Y) (y := X) (by omega) hK Y2 X2 (by omega)
     rw [<- Int.natCast_sub (show m <= n by omega)] at Z2
     obtain ⟨q, q1, q2⟩ := zi7 (K := K) (neg := b.neg) hD Z2 D2 (by omega) (by omega) hK
     refine ⟨q, ?_, by rw [Int.add_comm, <- zf6 _ _ (fun e => hs e.symm) (by omega)]; exact q2⟩
     have e : decide ((if ((m : Nat) : Int) < (n : Nat) then (-1 : Int) else if ((m : Nat) : Int) = (n : Nat) then 0 else 1) >= 0) = false := by
      rw [if_pos (by omega)]; rfl
     rw [e]
     simp only [Bool.false_eq_true, if_false]
     rw [Z1, z0e, q1, z0e]
theorem znv {a : Q} {x : Rat} (ha : QV a x) : ∃ q, z6b K a = some q /\ QV q (-x) := by
 unfold z6b
 by_cases hx : x = 0
 ·subst hx
  refine ⟨a, ?_, by rw [Rat.neg_zero]; exact ha⟩
  rw [if_pos (by rw [beq_iff_eq]; have := ha.num0.2 rfl; omega)]
 ·have hx0 : a.num.length ≠ 0 := fun e => hx (ha.num0.1 e)
  refine ⟨⟨!a.neg, a.num, a.den⟩, by rw [if_neg (by rw [beq_iff_eq]; omega)], ?_, ?_, ?_⟩
  ·dsimp only
   rw [ha.1, Rat.neg_num]
   have : x.num ≠ 0 := fun e => hx (Rat.num_eq_zero.1 e)
   by_cases c : x.num < 0
   ·rw [decide_eq_true c, decide_eq_false (by omega)]; rfl
   ·rw [decide_eq_false c, decide_eq_true (by omega)]; rfl
  ·dsimp only
   rw [Rat.neg_num, Int.natAbs_neg]; exact ha.2.1
  ·dsimp only
   rw [Rat.neg_den]; exact ha.2.2
theorem znw {a b : Q} {x y : Rat} {N : Nat} (ha : QV a x) (hb : QV b y) (dx : Dl x N) (dy : Dl y N) (hN : N <= 7000000) (hK : 2000000000 < K) : ∃ q, z6e K a b = some q /\ QV q (x - y) := by
 obtain ⟨m, m1, m2⟩ := znv (K := K) hb
 obtain ⟨q, q1, q2⟩ := znu (K := K) ha m2 dx dy.neg hN hK
 exact ⟨q, by unfold z6e; rw [m1, z0e, q1, z0e], by rw [Rat.sub_eq_add_neg]; exact q2⟩
theorem znx {a b : Q} {x y : Rat} {N : Nat} (ha : QV a x) (hb : QV b y) (dx : Dl x N) (dy : Dl y N) (hN : N <= 7000000) (hK : 2000000000 < K) : ∃ q, z6a K a b = some q /\ QV q (x * y) := by
 have la := ha.lens9 dx
 have lb := hb.lens9 dy
 have hN1 := dx.pos
 unfold z6a
 by_cases hz : x = 0 \/ y = 0
 ·refine ⟨⟨false, [], []⟩, ?_, ?_⟩
  ·rcases hz with rfl | rfl
   ·have := ha.num0.2 rfl
    rw [if_pos (by rw [beq_iff_eq]; omega)]
    rfl
   ·have := hb.num0.2 rfl
    have e : ((b.num.length : Int) == 0) = true := by rw [beq_iff_eq]; omega
    rw [e]
    by_cases c : ((a.num.length : Int) == 0) = true
    ·rw [if_pos c]; rfl
    ·rw [if_neg c]; rfl
  ·have : x * y = 0 := by rcases hz with rfl | rfl <;> simp
   rw [this]; exact QV.zero
 ·have hx0 : a.num.length ≠ 0 := fun e => hz (.inl (ha.num0.1 e))
  have hy0 : b.num.length ≠ 0 := fun e => hz (.inr (hb.num0.1 e))
  have e1 : ((a.num.length : Int) == 0) = false := by rw [beq_eq_false_iff_ne]; omega
  have e2 : ((b.num.length : Int) == 0) = false := by rw [beq_eq_false_iff_ne]; omega
  obtain ⟨wa, wa1, wa2, wa3⟩ := z95 (K := K) ha hK
  obtain ⟨wb, wb1, wb2, wb3⟩ := z95 (K := K) hb hK
  obtain ⟨X, X1, X2, X3⟩ := z8p (K := K) (x := a.num) (y := b.num) (by omega) hK ha.2.1 hb.2.1
  obtain ⟨D, D1, D2, D3⟩ := z8p (K := K) (x := wa) (y := wb) (by omega) hK wa2 wb2
  rw [<- Int.natCast_mul] at X2 D2
  have hD : x.den * y.den ≠ 0 := Nat.mul_ne_zero x.den_nz y.den_nz
  obtain ⟨q, q1, q2⟩ := zi7 (K := K) (neg := !(a.neg == b.neg)) hD X2 D2 (by omega) (by omega) hK
  refine ⟨q, ?_, ?_⟩
  ·rw [e1, e2]
   simp only [Bool.false_eq_true, if_false, z0e, tu1a, X1, wa1, wb1, D1, q1]
  ·rw [zi1, <- ha.1, <- hb.1]
   exact q2
theorem zny {a b : Q} {x y : Rat} {N : Nat} (ha : QV a x) (hb : QV b y) (dx : Dl x N) (dy : Dl y N) (hN : N <= 7000000) (hK : 2000000000 < K) : ∃ q, z69 K a b = some q /\ QV q (x / y) := by
 have la := ha.lens9 dx
 have lb := hb.lens9 dy
 have hN1 := dx.pos
 unfold z69
 by_cases hz : x = 0 \/ y = 0
 ·refine ⟨⟨false, [], []⟩, ?_, ?_⟩
  ·rcases hz with rfl | rfl
   ·have := ha.num0.2 rfl
    rw [if_pos (by rw [beq_iff_eq]; omega)]
    rfl
   ·have := hb.num0.2 rfl
    have e : ((b.num.length : Int) == 0) = true := by rw [beq_iff_eq]; omega
    rw [e]
    by_cases c : ((a.num.length : Int) == 0) = true
    ·rw [if_pos c]; rfl
    ·rw [if_neg c]; rfl
  ·have : x / y = 0 := by rcases hz with rfl | rfl <;> grind
   rw [this]; exact QV.zero
 ·have hx0 : a.num.length ≠ 0 := fun e => hz (.inl (ha.num0.1 e))
  have hy0 : b.num.length ≠ 0 := fun e => hz (.inr (hb.num0.1 e))
  have e1 : ((a.num.length : Int) == 0) = false := by rw [beq_eq_false_iff_ne]; omega
  have e2 : ((b.num.length : Int) == 0) = false := by rw [beq_eq_false_iff_ne]; omega
  obtain ⟨wa, wa1, wa2, wa3⟩ := z95 (K := K) ha hK
  obtain ⟨wb, wb1, wb2, wb3⟩ := z95 (K := K) hb hK
  obtain ⟨X, X1, X2, X3⟩ := z8p (K := K) (x := a.num) (y := wb) (by omega) hK ha.2.1 wb2
  obtain ⟨D, D1, D2, D3⟩ := z8p (K := K) (x := wa) (y := b.num) (by omega) hK wa2 hb.2.1
  rw [<- Int.natCast_mul] at X2 D2
  have hyn : y.num ≠ 0 := fun e => hz (.inr (Rat.num_eq_zero.1 e))
  have hD : x.den * y.num.natAbs ≠ 0 := Nat.mul_ne_zero x.den_nz (by omega)
  obtain ⟨q, q1, q2⟩ := zi7 (K := K) (neg := !(a.neg == b.neg)) hD X2 D2 (by omega) (by omega) hK
  refine ⟨q, ?_, ?_⟩
  ·rw [e1, e2]
   simp only [Bool.false_eq_true, if_false, z0e, tu1a, X1, wa1, wb1, D1, q1]
  ·rw [zi2 x y (fun e => hz (.inr e)), <- ha.1, <- hb.1]
   exact q2
theorem zm4 {a : Q} {x : Rat} (ha : QV a x) : z37 K a = some (if x = 0 then 0 else if x.num < 0 then -1 else 1) := by
 unfold z37
 by_cases hx : x = 0
 ·have := ha.num0.2 hx
  rw [if_pos (by rw [beq_iff_eq]; omega), if_pos hx]
 ·have hx0 : a.num.length ≠ 0 := fun e => hx (ha.num0.1 e)
  rw [if_neg (by rw [beq_iff_eq]; omega), if_neg hx, ha.1]
  by_cases c : x.num < 0 <;> simp [c]
end Go.Am.Tryz
/- Plain law: texts in and out of the program's rational numbers; the reference's sums and products. -/
namespace Go.Am.Tryz
open Go Go.Am Go.Proofs
variable {K : Nat}
theorem zl5 {d : zAd} (h : CanT d) : d = ⟨#[49]⟩ ↔ numT d = 1 := ⟨fun e => by rw [e, z63], fun e => z86 h z6v (by rw [e, z63])⟩
theorem zi9 (N : Nat) (h : N ≠ 0) : 1 < 10 ^ N := Nat.one_lt_pow h (by omega)
theorem zqj {s n d : zAd} {neg many : Bool} (h : Sp s neg n many d) (h0 : ratS neg n many d = 0) : ∃ x, RTx s x /\ Dl x 2000 := by
 unfold ratS at h0
 by_cases c1 : natE n = 5 \/ (many = true /\ natE d = 5) \/ (neg = true /\ n = ⟨#[48]⟩)
 ·rw [if_pos c1] at h0; cases h0
 ·rw [if_neg c1] at h0
  by_cases c2 : natE n ≠ 0 \/ (many = true /\ natE d ≠ 0)
  ·rw [if_pos c2] at h0; cases h0
  ·rw [if_neg c2] at h0
   by_cases c3 : many = true /\ (d = ⟨#[48]⟩ \/ d = ⟨#[49]⟩ \/ Nat.gcd (numT n).toNat (numT d).toNat ≠ 1)
   ·rw [if_pos c3] at h0; cases h0
   ·have en : natE n = 0 := by
     by_cases e : natE n = 0
     ·exact e
     ·exact absurd (.inl e) c2
    obtain ⟨cn, ln⟩ := (z9e n).1 en
    have nn := z31 cn.2.1
    have hNN : numT n = ((numT n).toNat : Int) := by omega
    have hneg : neg = true -> (numT n).toNat ≠ 0 := fun e hz => c1 (.inr (.inr ⟨e, (zca cn).1 (by omega)⟩))
    have lN := zf5 (N := 2000) cn.2.1 hNN ln
    -- the number whose parts these are
    have key : ∀ (D : Nat) (d' : zAd), CanT d' -> numT d' = D -> D ≠ 0 -> Nat.gcd (numT n).toNat D = 1 -> D < 10 ^ 2000 -> (many = true ↔ D ≠ 1) -> Sp s neg n many d' -> ∃ x, RTx s x /\ Dl x 2000 := by
     intro D d' cd hD hD0 hg hD2 hm hsp
     have m1 := zk7 neg (numT n).toNat D hD0
     have m2 := zk8 neg (numT n).toNat D hD0
     rw [hg, Nat.div_one] at m1 m2
     have m3 : decide ((mkRat (sgn neg (numT n).toNat) D).num < 0) = neg := by
      by_cases hz : (numT n).toNat = 0
      ·have : neg = false := by
        cases hne : neg with
        | false => rfl
        | true => exact absurd hz (hneg hne)
       subst this
       rw [hz]
       have : mkRat (sgn false 0) D = 0 := by have : sgn false 0 = 0 := rfl; rw [this, Rat.zero_mkRat]
       rw [this]; rfl
      ·exact zm3 neg _ D hD0 hz
     refine ⟨mkRat (sgn neg (numT n).toNat) D, ⟨n, d', cn, cd, by rw [m1]; exact hNN, by rw [m2]; exact hD, ?_⟩, Dl.mk _ hD0 lN hD2⟩
     rw [m3, m2]
     have : decide (D ≠ 1) = many := by
      cases hmm : many with
      | false => exact decide_eq_false (fun h => by rw [hmm] at hm; have := hm.2 h; cases this)
      | true => exact decide_eq_true (hm.1 hmm)
     rw [this]
     exact hsp
    cases many with
    | false =>
     refine key 1 ⟨#[49]⟩ z6v z63 (by omega) (Nat.gcd_one_right _) (zi9 2000 (by omega)) (by simp) ⟨by simpa using h.eq, h.no, h.hd⟩
    | true =>
     have ed : natE d = 0 := by
      by_cases e : natE d = 0
      ·exact e
      ·exact absurd (.inr ⟨rfl, e⟩) c2
     obtain ⟨cd, ld⟩ := (z9e d).1 ed
     have nd := z31 cd.2.1
     have hDD : numT d = ((numT d).toNat : Int) := by omega
     have d0 : d ≠ ⟨#[48]⟩ := fun e => c3 ⟨rfl, .inl e⟩
     have d1 : d ≠ ⟨#[49]⟩ := fun e => c3 ⟨rfl, .inr (.inl e)⟩
     have hg : Nat.gcd (numT n).toNat (numT d).toNat = 1 := by
      by_cases e : Nat.gcd (numT n).toNat (numT d).toNat = 1
      ·exact e
      ·exact absurd ⟨rfl, .inr (.inr e)⟩ c3
     exact key (numT d).toNat d cd hDD (fun e => d0 ((zca cd).1 (by omega))) hg (zf5 (N := 2000) cd.2.1 hDD ld) (by
      simp only [true_iff]
      exact fun e => d1 ((zl5 cd).2 (by omega))) h
theorem RTx.size {s : zAd} {x : Rat} {N : Nat} (h : RTx s x) (dx : Dl x N) : s.size <= 2 * N + 4 := by
 obtain ⟨n, d, h1, h2, h3, h4, h5⟩ := h
 have l1 := z8s h1 h3 dx.1
 have l2 := z8s h2 h4 dx.2
 have := congrArg List.length h5.eq
 rw [z00, List.length_append, List.length_append, z00] at this
 have e1 : (if decide (x.num < 0) = true then ([45] : List Int) else []).length <= 1 := by split <;> simp
 have e2 : (if decide (x.den ≠ 1) = true then (47 :: z03 d : List Int) else []).length <= d.size + 1 := by
  split
  ·rw [List.length_cons, z00]; omega
  ·simp
 omega
theorem RTx.dl {s : zAd} {x : Rat} {N : Nat} (h : RTx s x) (hs : s.size <= N) : Dl x (N + 1) := by
 obtain ⟨n, d, h1, h2, h3, h4, h5⟩ := h
 have hsz := h5.size
 refine ⟨Nat.lt_of_lt_of_le (zf5 h1.2.1 h3 (Nat.le_trans hsz.1 hs)) (Nat.pow_le_pow_right (by omega) (by omega)), ?_⟩
 by_cases c : x.den ≠ 1
 ·exact Nat.lt_of_lt_of_le (zf5 h2.2.1 h4 (Nat.le_trans (hsz.2 (decide_eq_true c)) hs)) (Nat.pow_le_pow_right (by omega) (by omega))
 ·have : x.den = 1 := by omega
  rw [this]
  exact Nat.one_lt_pow (by omega) (by omega)
theorem RTx.pos {s : zAd} {x : Rat} (h : RTx s x) : s.size ≠ 0 := by
 obtain ⟨n, d, h1, h2, h3, h4, h5⟩ := h
 have := h5.size.1
 have := h1.1
 omega
theorem zpi {s : zAd} {x : Rat} (h : RTx s x) (hs : s.size <= 1048576) (hK : 2000000000 < K) : ∃ q, zac K s = some q /\ QV q x := by
 obtain ⟨n, d, h1, h2, h3, h4, h5⟩ := h
 obtain ⟨s1, neg', n', d', many', c1, c2, c3, c4, c5⟩ := zan K hs
 obtain ⟨rfl, rfl, rfl, hd⟩ := h5.uniq c3
 have hsz := h5.size
 obtain ⟨a, a1, a2, a3⟩ := z97 (K := K) (s := n) (by omega) hK h1.2.1
 rw [h3] at a2
 unfold zac
 rw [c1, z0e, c2, z0e]
 dsimp only
 rw [a1, z0e, zf2 hK, z0e]
 by_cases c : x.den ≠ 1
 ·have := hd (decide_eq_true c)
  subst this
  obtain ⟨b, b1, b2, b3⟩ := z97 (K := K) (s := d) (by have := hsz.2 (decide_eq_true c); omega) hK h2.2.1
  rw [h4] at b2
  exact ⟨⟨decide (x.num < 0), a, b⟩, by rw [decide_eq_true c, if_pos rfl, b1, z0e, z0e, tu1a], rfl, a2, .inl b2⟩
 ·have e : x.den = 1 := by omega
  exact ⟨⟨decide (x.num < 0), a, [1]⟩, by rw [decide_eq_false c]; rfl, rfl, a2, .inl (by rw [e]; exact .one (by omega) (by omega))⟩
theorem zia {n : zAd} (h : (z03 n).all digT = true) : (47 : Int) ∉ z03 n := fun hm => by
 have := digT_iff.1 (List.all_eq_true.1 h _ hm); omega
theorem zmo {s n d : zAd} {x : Rat} (h1 : CanT n) (h2 : CanT d) (h3 : numT n = (x.num.natAbs : Nat)) (h4 : numT d = (x.den : Nat)) (h : z03 s = (if decide (x.num < 0) then [45] else []) ++ (z03 n ++ (if decide (x.den ≠ 1) then 47 :: z03 d else []))) : RTx s x := by
 refine ⟨n, d, h1, h2, h3, h4, h, zia h1.2.1, fun hn => ?_⟩
 rw [h, hn]
 have hl := z00 n
 cases hb : z03 n with
 | nil => rw [hb] at hl; simp at hl; exact absurd hl.symm h1.1
 | cons c l =>
  have := digT_iff.1 (List.all_eq_true.1 h1.2.1 c (by rw [hb]; simp))
  simp only [Bool.false_eq_true, if_false, List.nil_append, List.cons_append, List.head?_cons]
  intro e; cases e; omega
theorem zao {neg : Bool} {n d : zAd} {N D : Nat} (hD : D ≠ 0) (cn : CanT n) (cd : CanT d) (hn : numT n = N) (hd : numT d = D) (ln : n.size <= 400000) (ld : d.size <= 400000) (hK : 2000000000 < K) :
  ∃ s, z5u K neg n d = some s /\ RTx s (mkRat (sgn neg N) D) := by
 unfold z5u
 by_cases h0 : N = 0
 ·subst h0
  have : n = ⟨#[48]⟩ := (zca cn).1 (by omega)
  subst this
  have e : mkRat (sgn neg 0) D = 0 := by
   have : sgn neg 0 = 0 := by cases neg <;> rfl
   rw [this, Rat.zero_mkRat]
  refine ⟨⟨#[48]⟩, by rw [zm2]; rfl, ?_⟩
  rw [e]
  exact zmo z8q z6v z56 z63 rfl
 ·have e0 : sEq n ⟨#[48]⟩ = false := zpg (fun e => by rw [e, z56] at hn; omega)
  obtain ⟨g, g1, g2, g3⟩ := zl2 (K := K) (x := n) (y := d) ln ld hK cn cd hn hd
  have gp : 0 < Nat.gcd N D := Nat.gcd_pos_of_pos_left D (by omega)
  have gl := z3d cn g2 (by rw [g3, hn]; have := Nat.gcd_le_left (m := N) D (by omega); omega)
  obtain ⟨q1, r1, a1, a2, a3, a4, a5⟩ := zf0 (K := K) (a := n) (b := g) ln (by omega) hK cn g2 (by omega)
  obtain ⟨q2, r2, b1, b2, b3, b4, b5⟩ := zf0 (K := K) (a := d) (b := g) ld (by omega) hK cd g2 (by omega)
  rw [hn, g3] at a4
  rw [hd, g3] at b4
  have m1 := zk7 neg N D hD
  have m2 := zk8 neg N D hD
  have m3 := zm3 neg N D hD h0
  have f1 : numT q1 = ((mkRat (sgn neg N) D).num.natAbs : Nat) := by rw [m1, a4]; simp
  have f2 : numT q2 = ((mkRat (sgn neg N) D).den : Nat) := by rw [m2, b4]; simp
  generalize mkRat (sgn neg N) D = x at *
  rw [e0]
  simp only [Bool.false_eq_true, if_false]
  rw [g1, z0e, a1, z0e, b1, z0e]
  have hm : sEq q2 ⟨#[49]⟩ = decide (x.den = 1) := by
   rw [z9g]
   congr 1
   rw [zl5 b2, f2, eq_iff_iff]; omega
  have l1 := z3d cn a2 (by rw [a4, hn]; exact Int.ediv_le_self _ (by omega))
  have l2 := z3d cd b2 (by rw [b4, hd]; exact Int.ediv_le_self _ (by omega))
  have e45 : ((⟨#[45]⟩ : zAd)).size = 1 := rfl
  have e47 : ((⟨#[47]⟩ : zAd)).size = 1 := rfl
  have b45 : z03 (⟨#[45]⟩ : zAd) = [45] := rfl
  have b47 : z03 (⟨#[47]⟩ : zAd) = [47] := rfl
  obtain ⟨m, k1, k2, k3⟩ : ∃ m, (if neg = true then (if ((⟨#[45]⟩ : zAd)).size + (q1).size <= 4611686018427387904 then some ((⟨#[45]⟩ : zAd) ++ q1) else none) else some q1) = some m /\ z03 m = (if decide (x.num < 0) = true then [45] else []) ++ z03 q1 /\ m.size <= q1.size + 1 := by
   rw [m3]
   cases neg with
   | true =>
    refine ⟨(⟨#[45]⟩ : zAd) ++ q1, ?_, ?_, ?_⟩
    ·rw [if_pos rfl, if_pos (by omega)]
    ·rw [z1y, b45]; rfl
    ·rw [<- z00, z1y, b45, List.length_append, z00]; simp; omega
   | false => exact ⟨q1, rfl, rfl, by omega⟩
  dsimp only
  rw [k1, z0e, tu1a, hm]
  by_cases c : x.den = 1
  ·refine ⟨m, by rw [decide_eq_true c]; rfl, zmo a2 b2 f1 f2 ?_⟩
   have hdd : decide (x.den ≠ 1) = false := decide_eq_false (fun h => h c)
   rw [k2, hdd]; simp
  ·have hsm : (m ++ (⟨#[47]⟩ : zAd)).size = m.size + 1 := by rw [<- z00, z1y, b47, List.length_append, z00]; simp
   refine ⟨(m ++ (⟨#[47]⟩ : zAd)) ++ q2, ?_, zmo a2 b2 f1 f2 ?_⟩
   ·rw [decide_eq_false c]
    simp only [Bool.false_eq_true, if_false]
    rw [if_pos (by omega), if_pos (by omega)]
   ·have hdd : decide (x.den ≠ 1) = true := decide_eq_true c
    rw [z1y, z1y, k2, b47, hdd]; simp
theorem z8t {a : zAd} {x : Rat} {N : Nat} (h : RTx a x) (dx : Dl x N) (hN : N <= 100000) (hK : 2000000000 < K) : ∃ n d, z4l K a = some (decide (x.num < 0), n, d) /\ CanT n /\ CanT d /\ numT n = (x.num.natAbs : Nat) /\ numT d = (x.den : Nat) /\ n.size <= N + 1 /\ d.size <= N + 1 := by
 have hs := h.size dx
 have h0 := h.pos
 obtain ⟨n, d, h1, h2, h3, h4, h5⟩ := h
 have hp := zkc (K := K) (by omega) h0 hK h5
 have l1 := z8s h1 h3 dx.1
 have l2 := z8s h2 h4 dx.2
 by_cases c : x.den ≠ 1
 ·rw [decide_eq_true c] at hp
  exact ⟨n, d, hp, h1, h2, h3, h4, l1, l2⟩
 ·rw [decide_eq_false c] at hp
  have e : x.den = 1 := by omega
  exact ⟨n, ⟨#[49]⟩, hp, h1, z6v, h3, by rw [e]; rfl, l1, by show 1 <= N + 1; omega⟩
theorem zl6 {a b : zAd} {x y : Rat} {N : Nat} (ha : RTx a x) (hb : RTx b y) (dx : Dl x N) (dy : Dl y N) (hN : N <= 100000) (hK : 2000000000 < K) : ∃ c, z5q K a b = some c /\ RTx c (x + y) := by
 obtain ⟨n, d, p1, p2, p3, p4, p5, p6, p7⟩ := z8t (K := K) ha dx hN hK
 obtain ⟨m, e, q1, q2, q3, q4, q5, q6, q7⟩ := z8t (K := K) hb dy hN hK
 obtain ⟨X, X1, X2, X3⟩ := zd7 (K := K) (a := n) (b := e) (by omega) (by omega) hK p2.2.1 q3.2.1
 obtain ⟨Y, Y1, Y2, Y3⟩ := zd7 (K := K) (a := m) (b := d) (by omega) (by omega) hK q2.2.1 p3.2.1
 obtain ⟨D, D1, D2, D3⟩ := zd7 (K := K) (a := d) (b := e) (by omega) (by omega) hK p3.2.1 q3.2.1
 rw [p4, q5, <- Int.natCast_mul] at X3
 rw [q4, p5, <- Int.natCast_mul] at Y3
 rw [p5, q5, <- Int.natCast_mul] at D3
 have hD : x.den * y.den ≠ 0 := Nat.mul_ne_zero x.den_nz y.den_nz
 have lX := z8s X2 X3 (z30 dx.1 dy.2)
 have lY := z8s Y2 Y3 (z30 dy.1 dx.2)
 have lD := z8s D2 D3 (z30 dx.2 dy.2)
 unfold z5q
 rw [p1, z0e, q1, z0e]
 dsimp only
 rw [X1, z0e, Y1, z0e, D1, z0e, zi8]
 generalize x.num.natAbs * y.den = u at X3 ⊢
 generalize y.num.natAbs * x.den = v at Y3 ⊢
 generalize decide (x.num < 0) = p
 generalize decide (y.num < 0) = q
 by_cases hs : p = q
 ·obtain ⟨Z, Z1, Z2, Z3⟩ := znj (K := K) (a := X) (b := Y) (by omega) (by omega) (by have := X2.1; omega) (by omega) X2.2.1 Y2.2.1
  rw [X3, Y3, <- Int.natCast_add] at Z3
  have lZ : Z.size <= 400000 := by
   refine Nat.not_lt.1 fun hlt => ?_
   have g1 := zd6 Z2 (by omega)
   have g2 := zal X2.2.1
   have g3 := zal Y2.2.1
   have g4 : (10 : Int) ^ X.size <= 10 ^ (Z.size - 2) := z7i (by omega) (by omega)
   have g5 : (10 : Int) ^ Y.size <= 10 ^ (Z.size - 2) := z7i (by omega) (by omega)
   have g6 : (10 : Int) ^ (Z.size - 1) = 10 ^ (Z.size - 2) * 10 := by rw [<- Int.pow_succ]; congr 1; omega
   rw [X3] at g2
   rw [Y3] at g3
   have g7 : (0 : Int) < 10 ^ (Z.size - 2) := Int.pow_pos (by omega)
   generalize (10 : Int) ^ (Z.size - 2) = P at *
   omega
  obtain ⟨s, s1, s2⟩ := zao (K := K) (neg := p) (n := Z) (d := D) hD Z2 D2 Z3 D3 lZ (by omega) hK
  refine ⟨s, ?_, by rw [<- hs, <- zl3]; exact s2⟩
  rw [if_pos (by simpa using hs), Z1, z0e, s1, z0e]
 ·have hc := zkz (K := K) X2 Y2
  rw [if_neg (by simpa using hs), hc, z0e, X3, Y3]
  by_cases hle : v <= u
  ·obtain ⟨Z, Z1, Z2, Z3⟩ := zhr (K := K) (a := X) (b := Y) (by omega) (z3d X2 Y2 (by omega)) (by have := X2.1; omega) (by omega) X2.2.1 Y2.2.1 (by omega)
   rw [X3, Y3, <- Int.natCast_sub hle] at Z3
   have lZ := z3d X2 Z2 (by omega)
   obtain ⟨s, s1, s2⟩ := zao (K := K) (neg := p) (n := Z) (d := D) hD Z2 D2 Z3 D3 (by omega) (by omega) hK
   refine ⟨s, ?_, by rw [<- zf6 _ _ hs hle]; exact s2⟩
   have e : decide ((if ((u : Nat) : Int) < (v : Nat) then (-1 : Int) else if ((u : Nat) : Int) = (v : Nat) then 0 else 1) < 0) = false := by
    rw [if_neg (by omega)]; split <;> rfl
   rw [e]
   simp only [Bool.false_eq_true, if_false, z0e, tu3a, Z1, s1]
  ·obtain ⟨Z, Z1, Z2, Z3⟩ := zhr (K := K) (a := Y) (b := X) (by omega) (z3d Y2 X2 (by omega)) (by have := Y2.1; omega) (by omega) Y2.2.1 X2.2.1 (by omega)
   rw [X3, Y3, <- Int.natCast_sub (show u <= v by omega)] at Z3
   have lZ := z3d Y2 Z2 (by omega)
   obtain ⟨s, s1, s2⟩ := zao (K := K) (neg := q) (n := Z) (d := D) hD Z2 D2 Z3 D3 (by omega) (by omega) hK
   refine ⟨s, ?_, by rw [Int.add_comm, <- zf6 _ _ (fun e => hs e.symm) (by omega)]; exact s2⟩
   have e : decide ((if ((u : Nat) : Int) < (v : Nat) then (-1 : Int) else if ((u : Nat) : Int) = (v : Nat) then 0 else 1) < 0) = true := by
    rw [if_pos (by omega)]; rfl
   rw [e]
   simp only [if_true, z0e, tu3a, Z1, s1]
theorem znz {a b : zAd} {x y : Rat} {N : Nat} (ha : RTx a x) (hb : RTx b y) (dx : Dl x N) (dy : Dl y N) (hN : N <= 100000) (hK : 2000000000 < K) : ∃ c, z7f K a b = some c /\ RTx c (x * y) := by
 obtain ⟨n, d, p1, p2, p3, p4, p5, p6, p7⟩ := z8t (K := K) ha dx hN hK
 obtain ⟨m, e, q1, q2, q3, q4, q5, q6, q7⟩ := z8t (K := K) hb dy hN hK
 obtain ⟨X, X1, X2, X3⟩ := zd7 (K := K) (a := n) (b := m) (by omega) (by omega) hK p2.2.1 q2.2.1
 obtain ⟨D, D1, D2, D3⟩ := zd7 (K := K) (a := d) (b := e) (by omega) (by omega) hK p3.2.1 q3.2.1
 rw [p4, q4, <- Int.natCast_mul] at X3
 rw [p5, q5, <- Int.natCast_mul] at D3
 have hD : x.den * y.den ≠ 0 := Nat.mul_ne_zero x.den_nz y.den_nz
 have lX := z8s X2 X3 (z30 dx.1 dy.1)
 have lD := z8s D2 D3 (z30 dx.2 dy.2)
 obtain ⟨s, s1, s2⟩ := zao (K := K) (neg := !(decide (x.num < 0) == decide (y.num < 0))) (n := X) (d := D) hD X2 D2 X3 D3 (by omega) (by omega) hK
 refine ⟨s, ?_, by rw [zi1]; exact s2⟩
 unfold z7f
 rw [p1, z0e, q1, z0e]
 dsimp only
 rw [X1, z0e, D1, z0e, s1, z0e]
theorem zo0 {a : zAd} {x : Rat} {N : Nat} (ha : RTx a x) (dx : Dl x N) (hN : N <= 100000) (hK : 2000000000 < K) : ∃ c, z5p K a = some c /\ RTx c (-x) := by
 obtain ⟨n, d, p1, p2, p3, p4, p5, p6, p7⟩ := z8t (K := K) ha dx hN hK
 obtain ⟨s, s1, s2⟩ := zao (K := K) (neg := !decide (x.num < 0)) (n := n) (d := d) x.den_nz p2 p3 p4 p5 (by omega) (by omega) hK
 refine ⟨s, by unfold z5p; rw [p1, z0e, s1, z0e], ?_⟩
 have e : mkRat (sgn (!decide (x.num < 0)) x.num.natAbs) x.den = -x := by
  have e1 : sgn (!decide (x.num < 0)) x.num.natAbs = -x.num := by
   unfold sgn; by_cases h : x.num < 0 <;> simp [h] <;> omega
  rw [e1, <- Rat.neg_mkRat, Rat.mkRat_self]
 rw [<- e]; exact s2
end Go.Am.Tryz
/- Plain law: errors of lists; operations on two texts. -/
namespace Go.Am.Tryz
open Go Go.Am Go.Proofs
variable {K : Nat}
noncomputable def ratE (s : zAd) : Int := @dite Int (∃ e, ∃ neg n many d, Sp s neg n many d /\ ratS neg n many d = e) (Classical.propDecidable _) (fun h => h.choose) fun _ => 0
theorem zib {s n d : zAd} {neg many : Bool} (h : Sp s neg n many d) : ratE s = ratS neg n many d := by
 have hex : ∃ e, ∃ neg n many d, Sp s neg n many d /\ ratS neg n many d = e := ⟨_, _, _, _, _, h, rfl⟩
 unfold ratE
 rw [dif_pos hex]
 obtain ⟨neg', n', many', d', h1, h2⟩ := hex.choose_spec
 rw [<- h2]
 obtain ⟨rfl, rfl, rfl, h3⟩ := h.uniq h1
 cases many with
 | true => rw [h3 rfl]
 | false => unfold ratS; simp
theorem zfw {s : zAd} (hs : s.size <= 1048576) (hK : 2000000000 < K) : z5d K s = some (ratE s) := by
 obtain ⟨s1, neg, n, d, many, _, _, h, _⟩ := zan K hs
 rw [zib h]; exact zk9 hs hK h
theorem zkd {s : zAd} (hs : s.size <= 1048576) (hK : 2000000000 < K) : z4g K s = some (ratE s) := by
 obtain ⟨s1, neg, n, d, many, _, _, h, _⟩ := zan K hs
 rw [zib h]; exact zkb hs hK h
theorem zke {s : zAd} (hs : s.size <= 1048576) (h : ratE s = 0) : ∃ x, RTx s x /\ Dl x 2000 := by
 obtain ⟨s1, neg, n, d, many, _, _, hp, _⟩ := zan 0 hs
 rw [zib hp] at h
 exact zqj hp h
noncomputable def z6w : List zAd -> Int
 | [] => 0
 | s :: l => if ratE s ≠ 0 then ratE s else z6w l
theorem zbc : ∀ {l : List zAd}, z6w l = 0 -> ∀ s ∈ l, ratE s = 0
 | [], _, s, hs => by simp at hs
 | t :: l, h, s, hs => by
  rw [z6w] at h
  by_cases c : ratE t = 0
  ·rw [if_neg (by simpa using c)] at h
   rcases List.mem_cons.1 hs with rfl | hs
   ·exact c
   ·exact zbc h s hs
  ·rw [if_pos c] at h; exact absurd h c
theorem zbd {l : List zAd} {i : Nat} (h : i < l.length) : z6w (l.drop i) = if ratE l[i] ≠ 0 then ratE l[i] else z6w (l.drop (i + 1)) := by
 rw [List.drop_eq_getElem_cons h, z6w]
theorem zfx {l : List zAd} (hl : l.length <= 1048576) (hs : ∀ s ∈ l, s.size <= 1048576) (hK : 2000000000 < K) : z44 K l = some (z6w l) := by
 have key : ∃ r : Int ⊕ Unit, z10 K l K 0 = some r /\ ((r = .inr () /\ z6w l = 0) \/ r = .inl (z6w l)) := by
  refine z87 (fun k (s : Int) => z10 K l k s) (fun s => ∃ i : Nat, s = i /\ i <= l.length /\ z6w l = z6w (l.drop i)) (fun s => (l.length - s : Int).toNat) _ ?_ (0 : Int) (by omega) ⟨0, rfl, by omega, by simp⟩
  rintro k _ ⟨i, rfl, h0, h1⟩
  by_cases hi : i < l.length
  ·have hx : idx l (i : Int) = some l[i] := z4q (zAh hi)
   have hc := zfw (K := K) (s := l[i]) (hs _ (List.getElem_mem hi)) hK
   rw [zbd hi] at h1
   by_cases c : ratE l[i] = 0
   ·right
    rw [if_neg (by simpa using c)] at h1
    refine ⟨(i : Int) + 1, ?_, by omega, i + 1, rfl, by omega, h1⟩
    rw [z10, if_pos (decide_eq_true (by omega)), hx, z0e, hc, z0e, if_neg (by simpa using c), k64 (by omega) (by omega)]
   ·left
    rw [if_pos c] at h1
    refine ⟨.inl (ratE l[i]), ?_, .inr (by rw [h1])⟩
    rw [z10, if_pos (decide_eq_true (by omega)), hx, z0e, hc, z0e, if_pos (by simpa using c)]
  ·left
   have : i = l.length := by omega
   subst this
   rw [List.drop_eq_nil_of_le (Nat.le_refl _)] at h1
   exact ⟨.inr (), by rw [z10, if_neg (by simp)], .inl ⟨rfl, h1⟩⟩
 obtain ⟨r, h1, h2⟩ := key
 unfold z44
 rw [h1]
 rcases h2 with ⟨rfl, h2⟩ | rfl
 ·rw [zjr, tu0a, h2]
 ·rw [zhi, tu1a]
theorem zkf {l : List zAd} (hl : l.length <= 1048576) (hs : ∀ s ∈ l, s.size <= 1048576) (hK : 2000000000 < K) : z4v K l = some (z6w l) := by
 have key : ∃ r : Int ⊕ Unit, z17 K l K 0 = some r /\ ((r = .inr () /\ z6w l = 0) \/ r = .inl (z6w l)) := by
  refine z87 (fun k (s : Int) => z17 K l k s) (fun s => ∃ i : Nat, s = i /\ i <= l.length /\ z6w l = z6w (l.drop i)) (fun s => (l.length - s : Int).toNat) _ ?_ (0 : Int) (by omega) ⟨0, rfl, by omega, by simp⟩
  rintro k _ ⟨i, rfl, h0, h1⟩
  by_cases hi : i < l.length
  ·have hx : idx l (i : Int) = some l[i] := z4q (zAh hi)
   have hc := zkd (K := K) (s := l[i]) (hs _ (List.getElem_mem hi)) hK
   rw [zbd hi] at h1
   by_cases c : ratE l[i] = 0
   ·right
    rw [if_neg (by simpa using c)] at h1
    refine ⟨(i : Int) + 1, ?_, by omega, i + 1, rfl, by omega, h1⟩
    rw [z17, if_pos (decide_eq_true (by omega)), hx, z0e, hc, z0e, if_neg (by simpa using c), k64 (by omega) (by omega)]
   ·left
    rw [if_pos c] at h1
    refine ⟨.inl (ratE l[i]), ?_, .inr (by rw [h1])⟩
    rw [z17, if_pos (decide_eq_true (by omega)), hx, z0e, hc, z0e, if_pos (by simpa using c)]
  ·left
   have : i = l.length := by omega
   subst this
   rw [List.drop_eq_nil_of_le (Nat.le_refl _)] at h1
   exact ⟨.inr (), by rw [z17, if_neg (by simp)], .inl ⟨rfl, h1⟩⟩
 obtain ⟨r, h1, h2⟩ := key
 unfold z4v
 rw [h1]
 rcases h2 with ⟨rfl, h2⟩ | rfl
 ·rw [zjr, tu0a, h2]
 ·rw [zhi, tu1a]
theorem RTx.zero_iff {s : zAd} {x : Rat} (h : RTx s x) : s = ⟨#[48]⟩ ↔ x = 0 := by
 have hz : RTx ⟨#[48]⟩ 0 := zmo z8q z6v z56 z63 rfl
 constructor
 ·rintro rfl; exact h.val hz
 ·rintro rfl; exact h.inj hz
end Go.Am.Tryz
/- Plain law: whole numbers and their texts. -/
namespace Go.Am.Tryz
open Go Go.Am Go.Proofs
variable {K : Nat}
end Go.Am.Tryz
/- Plain law: comparisons of rational numbers. -/
namespace Go.Am.Tryz
open Go Go.Am Go.Proofs
variable {K : Nat}
def RTs (l : List zAd) (f : Nat -> Rat) : Prop := ∀ i (h : i < l.length), RTx l[i] (f i)
theorem zpj {l : List zAd} (hs : ∀ s ∈ l, s.size <= 1048576) (h0 : z6w l = 0) : ∃ f, RTs l f /\ ∀ i, i < l.length -> Dl (f i) 2000 := by
 classical
 have hz := zbc h0
 have hex : ∀ i (h : i < l.length), ∃ x, RTx l[i] x /\ Dl x 2000 := fun i h => zke (hs _ (List.getElem_mem h)) (hz _ (List.getElem_mem h))
 refine ⟨fun i => if h : i < l.length then (hex i h).choose else 0, fun i h => ?_, fun i h => ?_⟩
 ·dsimp only; rw [dif_pos h]; exact (hex i h).choose_spec.1
 ·dsimp only; rw [dif_pos h]; exact (hex i h).choose_spec.2
end Go.Am.Tryz
/- Plain law: vectors and matrices of rational texts: their checks, their numbers, products and sums. -/
namespace Go.Am.Tryz
open Go Go.Am Go.Proofs
variable {K : Nat}
def resF {R : Type} : Option R -> R ⊕ Unit
 | some r => .inl r
 | none => .inr ()
theorem zcb {α R : Type} {l : List α} {L : Nat -> Int -> Option (R ⊕ Unit)} (p : α -> Option R) (h0 : ∀ k, L (k + 1) (l.length : Int) = some (.inr ()))
  (h1 : ∀ k i (hi : i < l.length), L (k + 1) (i : Int) = match p l[i] with | some r => some (.inl r) | none => L k ((i + 1 : Nat) : Int)) (hK : l.length < K) :
  L K 0 = some (resF (l.findSome? p)) := by
 have key : ∀ n i k, i + n = l.length -> n < k -> L k (i : Int) = some (resF ((l.drop i).findSome? p)) := by
  intro n
  induction n with
  | zero =>
   intro i k hi hk
   obtain ⟨k, rfl⟩ : ∃ m, k = m + 1 := ⟨k - 1, by omega⟩
   obtain rfl : i = l.length := by omega
   rw [h0, List.drop_length]
   rfl
  | succ n ih =>
   intro i k hi hk
   obtain ⟨k, rfl⟩ : ∃ m, k = m + 1 := ⟨k - 1, by omega⟩
   rw [h1 k i (by omega), List.drop_eq_getElem_cons (by omega), List.findSome?_cons]
   cases hp : p l[i] with
   | some r => rfl
   | none => exact ih (i + 1) k (by omega) (by omega)
 have := key l.length 0 K (by omega) hK
 simpa using this
def Fam {α : Type} (P : Nat -> α -> Prop) (n : Nat) (l : List α) : Prop := l.length = n /\ ∀ j (h : j < l.length), P j l[j]
theorem Fam.nil {α : Type} {P : Nat -> α -> Prop} : Fam P 0 [] := ⟨rfl, fun j h => by simp at h⟩
theorem Fam.snoc {α : Type} {P : Nat -> α -> Prop} {n : Nat} {l : List α} {y : α} (h : Fam P n l) (hy : P n y) : Fam P (n + 1) (l ++ [y]) := by
 refine ⟨by simp [h.1], fun j hj => ?_⟩
 by_cases c : j < l.length
 ·rw [List.getElem_append_left c]; exact h.2 j c
 ·have : j = l.length := by simp at hj; omega
  subst this
  rw [List.getElem_append_right (by omega)]
  simp only [Nat.sub_self, List.getElem_cons_zero]
  rw [h.1]; exact hy
theorem Fam.idx {α : Type} {P : Nat -> α -> Prop} {n j : Nat} {l : List α} (h : Fam P n l) (hj : j < n) : ∃ y, idx l (j : Int) = some y /\ P j y := by
 have hl : j < l.length := by rw [h.1]; exact hj
 exact ⟨l[j], z4q (zAh hl), h.2 j hl⟩
theorem Fam.mono {α : Type} {P Q : Nat -> α -> Prop} {n : Nat} {l : List α} (h : Fam P n l) (hPQ : ∀ j y, j < n -> P j y -> Q j y) : Fam Q n l :=
 ⟨h.1, fun j hj => hPQ j _ (by rw [<- h.1]; exact hj) (h.2 j hj)⟩
theorem Fam.uniq {α : Type} {P : Nat -> α -> Prop} {n : Nat} {l m : List α} (hu : ∀ j x y, P j x -> P j y -> x = y) (h : Fam P n l) (k : Fam P n m) : l = m :=
 List.ext_getElem (by rw [h.1, k.1]) fun j h1 h2 => hu j _ _ (h.2 j h1) (k.2 j h2)
theorem z9u {β R : Type} (n : Nat) (L : Nat -> List β -> Int -> Option R) (P : Nat -> β -> Prop) (Q : R -> Prop) (hn : n < K)
  (hend : ∀ k acc, Fam P n acc -> ∃ r, L (k + 1) acc (n : Int) = some r /\ Q r)
  (hstep : ∀ k i acc, i < n -> Fam P i acc -> (∃ r, L (k + 1) acc (i : Int) = some r /\ Q r) \/ ∃ y, P i y /\ L (k + 1) acc (i : Int) = L k (acc ++ [y]) ((i + 1 : Nat) : Int)) :
  ∃ r, L K [] 0 = some r /\ Q r := by
 have key : ∀ m i k acc, i + m = n -> m < k -> Fam P i acc -> ∃ r, L k acc (i : Int) = some r /\ Q r := by
  intro m
  induction m with
  | zero =>
   intro i k acc hi hk ha
   obtain ⟨k, rfl⟩ : ∃ m, k = m + 1 := ⟨k - 1, by omega⟩
   obtain rfl : i = n := by omega
   exact hend k acc ha
  | succ m ih =>
   intro i k acc hi hk ha
   obtain ⟨k, rfl⟩ : ∃ m, k = m + 1 := ⟨k - 1, by omega⟩
   rcases hstep k i acc (by omega) ha with h | ⟨y, hy, h⟩
   ·exact h
   ·rw [h]; exact ih (i + 1) k _ (by omega) (by omega) (ha.snoc hy)
 exact key n 0 K [] (by omega) hn .nil
theorem k1 {i : Nat} (h : i <= 1048576) : z02 .i64 ((i : Int) + 1) = ((i + 1 : Nat) : Int) := by rw [k64 (by omega) (by omega)]; omega
theorem lt_d {i n : Nat} (h : i < n) : decide ((i : Int) < (n : Int)) = true := decide_eq_true (by omega)
noncomputable def vecE (l : List zAd) : Int := if l.length > 40 then 2 else z6w l
theorem zkg {n : Nat} {α : Type} (a b : α) : (if decide ((n : Int) > 40) = true then a else b) = if n > 40 then a else b := by
 by_cases h : n > 40
 ·rw [if_pos h, if_pos (decide_eq_true (by omega))]
 ·rw [if_neg h, if_neg (by simp; omega)]
theorem zfy {l : List zAd} (hl : l.length <= 1048576) (hs : ∀ s ∈ l, s.size <= 1048576) (hK : 2000000000 < K) : z2z K l = some (vecE l) := by
 unfold z2z vecE
 rw [zkg, zfx hl hs hK, z0e]
 split <;> rfl
theorem zkh {l : List zAd} (hl : l.length <= 1048576) (hs : ∀ s ∈ l, s.size <= 1048576) (hK : 2000000000 < K) : z5m K l = some (vecE l) := by
 unfold z5m vecE
 rw [zkg, zkf hl hs hK, z0e]
 split <;> rfl
theorem zf7 {l : List zAd} (h : vecE l = 0) : l.length <= 40 /\ z6w l = 0 := by
 unfold vecE at h
 split at h
 ·cases h
 ·exact ⟨by omega, h⟩
noncomputable def rowE (w : Nat) (row : List zAd) : Option Int := if row.length ≠ w then some 3 else if vecE row ≠ 0 then some (vecE row) else none
noncomputable def matE (m : List (List zAd)) : Int := if m.length > 40 then 2 else (m.findSome? (rowE (m.getD 0 []).length)).getD 0
def MOk (m : List (List zAd)) : Prop := m.length <= 1048576 /\ ∀ row ∈ m, row.length <= 1048576 /\ ∀ s ∈ row, s.size <= 1048576
theorem idx0 {m : List (List zAd)} (h : 0 < m.length) : idx m 0 = some (m.getD 0 []) := by
 have : idx m ((0 : Nat) : Int) = some m[0] := z4q (zAh h)
 rw [zAb, zAh h]
 exact this
theorem ne_len {a b : Nat} : (((a : Int) != (b : Int)) = true) ↔ a ≠ b := by rw [bne_iff_ne]; omega
theorem zic {m : List (List zAd)} (hm : MOk m) (hK : 2000000000 < K) : z45 K m = some (matE m) := by
 obtain ⟨hl, hr⟩ := hm
 unfold z45 matE
 rw [zkg]
 by_cases h : m.length > 40
 ·rw [if_pos h, if_pos h]
 ·rw [if_neg h, if_neg h]
  rw [zcb (K := K) (l := m) (L := z1o K m) (rowE (m.getD 0 []).length) (fun k => by rw [z1o, if_neg (by simp)]) (fun k i hi => ?_) (by omega)]
  ·cases List.findSome? (rowE (m.getD 0 []).length) m <;> rfl
  ·have hx : idx m (i : Int) = some m[i] := z4q (zAh hi)
   obtain ⟨r1, r2⟩ := hr m[i] (List.getElem_mem hi)
   rw [z1o, if_pos (lt_d hi), hx, z0e, idx0 (by omega), z0e, zfy r1 r2 hK, z0e, k1 (by omega)]
   unfold rowE
   by_cases c : m[i].length ≠ (m.getD 0 []).length
   ·rw [if_pos (ne_len.2 c), if_pos c]
   ·rw [if_neg (fun e => c (ne_len.1 e)), if_neg c]
    by_cases d : vecE m[i] ≠ 0
    ·rw [if_pos (by simpa using d), if_pos d]
    ·rw [if_neg (by simpa using d), if_neg d]
theorem zf8 {m : List (List zAd)} (hm : MOk m) (hK : 2000000000 < K) : z3k K m = some (matE m) := by
 obtain ⟨hl, hr⟩ := hm
 unfold z3k matE
 rw [zkg]
 by_cases h : m.length > 40
 ·rw [if_pos h, if_pos h]
 ·rw [if_neg h, if_neg h]
  rw [zcb (K := K) (l := m) (L := z1d K m) (rowE (m.getD 0 []).length) (fun k => by rw [z1d, if_neg (by simp)]) (fun k i hi => ?_) (by omega)]
  ·cases List.findSome? (rowE (m.getD 0 []).length) m <;> rfl
  ·have hx : idx m (i : Int) = some m[i] := z4q (zAh hi)
   obtain ⟨r1, r2⟩ := hr m[i] (List.getElem_mem hi)
   rw [z1d, if_pos (lt_d hi), hx, z0e, idx0 (by omega), z0e]
   simp only [z0e, zkh r1 r2 hK, k1 (show i <= 1048576 by omega)]
   unfold rowE
   by_cases c : m[i].length ≠ (m.getD 0 []).length
   ·rw [if_pos (ne_len.2 c), if_pos c]
   ·rw [if_neg (fun e => c (ne_len.1 e)), if_neg c]
    by_cases d : vecE m[i] ≠ 0
    ·rw [if_pos (by simpa using d), if_pos d]
    ·rw [if_neg (by simpa using d), if_neg d]
def zmp (n : Int) (m : List (List (List zAd))) : Bool := m.any fun x => decide ((x.length : Int) > n) || x.any fun v => decide ((v.length : Int) > n) || v.any fun r => decide ((r.size : Int) > 12)
theorem zid {α : Type} (l : List α) (p : α -> Bool) : l.any p = (l.findSome? fun x => if p x then some () else none).isSome := by
 induction l with
 | nil => rfl
 | cons x l ih =>
  rw [List.any_cons, List.findSome?_cons, ih]
  cases h : p x <;> simp
theorem zdz {l : List zAd} {F : zAd -> Option Bool} {p : zAd -> Bool} (hl : l.length <= 1048576) (hK : 2000000000 < K) (hp : ∀ x ∈ l, F x = some (p x)) : z0g K l F = some (l.any p) := by
 have key : ∃ r : Int ⊕ Unit, z08 K l F K 0 = some r /\ ((r = .inr () /\ l.any p = false) \/ ∃ i : Int, 0 <= i /\ r = .inl i /\ l.any p = true) := by
  refine z87 (fun k (s : Int) => z08 K l F k s) (fun s => ∃ i : Nat, s = i /\ i <= l.length /\ (l.take i).any p = false) (fun s => (l.length - s : Int).toNat) _ ?_ (0 : Int) (by omega) ⟨0, rfl, by omega, by simp⟩
  rintro k _ ⟨i, rfl, h0, h1⟩
  by_cases hi : i < l.length
  ·have hx : idx l (i : Int) = some l[i] := z4q (zAh hi)
   have hpi := hp l[i] (List.getElem_mem hi)
   have hsn : l.take (i + 1) = l.take i ++ [l[i]] := by rw [List.take_add_one, zAh hi]; rfl
   cases hc : p l[i] with
   | true =>
    left
    refine ⟨.inl i, ?_, .inr ⟨i, by omega, rfl, List.any_eq_true.2 ⟨l[i], List.getElem_mem hi, hc⟩⟩⟩
    rw [z08, if_pos (decide_eq_true (by omega)), hx, z0e, hpi, z0e, hc, if_pos rfl]
   | false =>
    right
    refine ⟨(i : Int) + 1, ?_, by omega, i + 1, rfl, by omega, by rw [hsn, List.any_append, h1]; simp [hc]⟩
    rw [z08, if_pos (decide_eq_true (by omega)), hx, z0e, hpi, z0e, hc, if_neg (by simp), k64 (by omega) (by omega)]
  ·left
   have : i = l.length := by omega
   subst this
   rw [List.take_of_length_le (Nat.le_refl _)] at h1
   refine ⟨.inr (), ?_, .inl ⟨rfl, h1⟩⟩
   rw [z08, if_neg (by simp)]
 obtain ⟨r, h1, h2⟩ := key
 unfold z0g z0l
 rw [h1]
 rcases h2 with ⟨rfl, h3⟩ | ⟨i, h4, rfl, h3⟩
 ·rw [h3]; rfl
 ·rw [h3, zhi, tu1a, z0e, decide_eq_true (by omega)]
theorem zo1 {n : Int} {m : List (List (List zAd))} (hm : m.length <= 1048576) (hr : ∀ x ∈ m, MOk x) (hK : 2000000000 < K) : z6i K n m = some (zmp n m) := by
 have hv : ∀ x ∈ m, z2r K n x K 0 = some (resF (x.findSome? (fun v => if (decide ((v.length : Int) > n) || v.any fun r => decide ((r.size : Int) > 12)) then some true else none))) := fun x hx => by
  obtain ⟨x1, x2⟩ := hr x hx
  refine zcb (K := K) (l := x) (L := z2r K n x) (fun v => if (decide ((v.length : Int) > n) || v.any fun r => decide ((r.size : Int) > 12)) then some true else none) (fun k => by rw [z2r, if_neg (by simp)]) (fun k i hi => ?_) (by omega)
  have hxi : idx x (i : Int) = some x[i] := z4q (zAh hi)
  obtain ⟨r1, r2⟩ := x2 x[i] (List.getElem_mem hi)
  rw [z2r, if_pos (lt_d hi), hxi, z0e, k1 (by omega), zdz (F := fun x => z5n K x) (p := fun r => decide ((r.size : Int) > 12)) r1 hK (fun r _ => rfl), z0e]
  cases c1 : decide ((x[i].length : Int) > n) <;> cases c2 : x[i].any (fun r => decide ((r.size : Int) > 12)) <;> simp [tu1a]
 unfold z6i zmp
 rw [zid]
 rw [zcb (K := K) (l := m) (L := z39 K n m) (fun x => if (decide ((x.length : Int) > n) || x.any fun v => decide ((v.length : Int) > n) || v.any fun r => decide ((r.size : Int) > 12)) then some true else none) (fun k => by rw [z39, if_neg (by simp)]) (fun k i hi => ?_) (by omega)]
 ·have : ∀ l : List (List (List zAd)), ∀ q : List (List zAd) -> Bool, zbw (some (resF (l.findSome? (fun x => if q x then some true else none)))) (tu1 fun a => some a) (tu0 (some false)) = some (l.findSome? fun x => if q x then some () else none).isSome := by
   intro l q
   induction l with
   | nil => rfl
   | cons x l ih =>
    rw [List.findSome?_cons, List.findSome?_cons]
    cases h : q x
    ·simpa [h] using ih
    ·rfl
  exact this m _
 ·have hx : idx m (i : Int) = some m[i] := z4q (zAh hi)
  rw [z39, if_pos (lt_d hi), hx, z0e, k1 (by omega), hv m[i] (List.getElem_mem hi)]
  cases c1 : decide ((m[i].length : Int) > n)
  ·rw [if_neg (by simp)]
   rw [zid m[i]]
   generalize hq : (fun v : List zAd => (decide ((v.length : Int) > n) || v.any fun r => decide ((r.size : Int) > 12))) = q
   have : ∀ l : List (List zAd), (l.findSome? (fun v => if q v then some true else none)) = ((l.findSome? fun v => if q v then some () else none).map fun _ => true) := by
    intro l
    induction l with
    | nil => rfl
    | cons x l ih =>
     rw [List.findSome?_cons, List.findSome?_cons, ih]
     cases q x <;> rfl
   subst hq
   rw [this]
   cases List.findSome? _ m[i] <;> rfl
  ·rw [if_pos rfl]; rfl
end Go.Am.Tryz
/- The closed matrix fact holds. -/
namespace Go.Am.Tryz
open Go Go.Am Go.Proofs
theorem zcc : z61 2000000001 = some true := by kernel_rfl
end Go.Am.Tryz
/- Plain law: rows and scalar products; MatrixDots answers true. -/
namespace Go.Am.Tryz
open Go Go.Am Go.Proofs
variable {K : Nat}
abbrev FT (f : Nat -> Rat) (n : Nat) (l : List zAd) : Prop := Fam (fun j s => RTx s (f j)) n l
abbrev FQ (f : Nat -> Rat) (n : Nat) (l : List Q) : Prop := Fam (fun j q => QV q (f j)) n l
theorem FT.uniq {f : Nat -> Rat} {n : Nat} {l m : List zAd} (h : FT f n l) (k : FT f n m) : l = m := Fam.uniq (fun _ _ _ h1 h2 => h1.inj h2) h k
theorem zpk {f : Nat -> Rat} {n : Nat} {l : List zAd} (h : FT f n l) (hs : ∀ s ∈ l, s.size <= 1048576) (hn : n <= 1048576) (hK : 2000000000 < K) : ∃ q, z5j K l = some q /\ FQ f n q := by
 have hl := h.1
 obtain ⟨q, q1, q2⟩ := z9u (K := K) n (z2i K l) (fun j q => QV q (f j)) (fun q => FQ f n q) (by omega)
  (fun k acc ha => ⟨acc, by rw [z2i, hl, if_neg (by simp)], ha⟩)
  (fun k i acc hi ha => by
   right
   have hx : idx l (i : Int) = some l[i] := z4q (zAh (by omega))
   obtain ⟨q, q1, q2⟩ := zpi (K := K) (h.2 i (by omega)) (hs _ (List.getElem_mem (by omega))) hK
   have hal := ha.1
   exact ⟨q, q2, by rw [z2i, hl, if_pos (lt_d hi), hx, z0e, q1, z0e, if_pos (by simp; omega), k1 (by omega)]⟩)
 exact ⟨q, by unfold z5j; rw [q1]; rfl, q2⟩
theorem zpl {l : List zAd} (hs : ∀ s ∈ l, s.size <= 1048576) (h : vecE l = 0) : ∃ f, FT f l.length l /\ l.length <= 40 /\ ∀ i, i < l.length -> Dl (f i) 2000 := by
 obtain ⟨h1, h2⟩ := zf7 h
 obtain ⟨f, f1, f2⟩ := zpj hs h2
 exact ⟨f, ⟨rfl, f1⟩, h1, f2⟩
theorem zm5 {f : Nat -> Rat} {n : Nat} {l : List zAd} (h : FT f n l) (hs : ∀ s ∈ l, s.size <= 12) : ∀ j, j < n -> Dl (f j) 13 := fun j hj => by
 have hl := h.1
 exact (h.2 j (by omega)).dl (hs _ (List.getElem_mem (by omega)))
theorem zie {n : Int} {m : List (List (List zAd))} (h : zmp n m = false) : ∀ x ∈ m, (x.length : Int) <= n /\ ∀ v ∈ x, (v.length : Int) <= n /\ ∀ r ∈ v, r.size <= 12 := by
 intro x hx
 unfold zmp at h
 rw [List.any_eq_false] at h
 have h1 := h x hx
 simp only [Bool.not_eq_true, Bool.or_eq_false_iff, decide_eq_false_iff_not, List.any_eq_false, decide_eq_true_eq] at h1
 refine ⟨by omega, fun v hv => ?_⟩
 have h2 := h1.2 v hv
 exact ⟨by omega, fun r hr => by have := h2.2 r hr; omega⟩
end Go.Am.Tryz
/- Plain law: matrices of numbers: rows, columns, products. -/
namespace Go.Am.Tryz
open Go Go.Am Go.Proofs
variable {K : Nat}
abbrev MT (f : Nat -> Nat -> Rat) (h w : Nat) (m : List (List zAd)) : Prop := Fam (fun i row => FT (f i) w row) h m
abbrev MQ (f : Nat -> Nat -> Rat) (h w : Nat) (m : List (List Q)) : Prop := Fam (fun i row => FQ (f i) w row) h m
theorem MT.uniq {f : Nat -> Nat -> Rat} {h w : Nat} {l m : List (List zAd)} (a : MT f h w l) (b : MT f h w m) : l = m := Fam.uniq (fun _ _ _ h1 h2 => h1.uniq h2) a b
def wid (m : List (List zAd)) : Nat := (m.getD 0 []).length
theorem zki {m : List (List zAd)} (h : matE m = 0) : m.length <= 40 /\ ∀ row ∈ m, row.length = wid m /\ vecE row = 0 := by
 unfold matE at h
 split at h
 ·cases h
 ·refine ⟨by omega, ?_⟩
  have hn : m.findSome? (rowE (m.getD 0 []).length) = none := by
   cases hf : m.findSome? (rowE (m.getD 0 []).length) with
   | none => rfl
   | some r =>
    rw [hf] at h
    obtain ⟨row, _, hr⟩ := List.exists_of_findSome?_eq_some hf
    unfold rowE at hr
    split at hr
    ·cases hr; cases h
    ·split at hr
     ·cases hr; exact absurd h (by assumption)
     ·cases hr
  intro row hrow
  have := List.findSome?_eq_none_iff.1 hn row hrow
  unfold rowE at this
  split at this
  ·cases this
  ·split at this
   ·cases this
   ·exact ⟨by unfold wid; omega, by omega⟩
theorem zpm {m : List (List zAd)} (hm : MOk m) (h : matE m = 0) : ∃ f, MT f m.length (wid m) m /\ m.length <= 40 /\ wid m <= 40 /\ ∀ i j, i < m.length -> j < wid m -> Dl (f i j) 2000 := by
 classical
 obtain ⟨h1, h2⟩ := zki h
 have hex : ∀ i (hi : i < m.length), ∃ f, FT f (wid m) m[i] /\ ∀ j, j < wid m -> Dl (f j) 2000 := fun i hi => by
  obtain ⟨r1, r2⟩ := h2 m[i] (List.getElem_mem hi)
  obtain ⟨f, f1, f2, f3⟩ := zpl (hm.2 m[i] (List.getElem_mem hi)).2 r2
  rw [r1] at f1 f3
  exact ⟨f, f1, f3⟩
 have hw : wid m <= 40 := by
  by_cases hl : 0 < m.length
  ·obtain ⟨r1, r2⟩ := h2 m[0] (List.getElem_mem hl)
   have := (zf7 r2).1
   omega
  ·have : m = [] := List.length_eq_zero_iff.1 (by omega)
   subst this
   show 0 <= 40
   omega
 refine ⟨fun i => if hi : i < m.length then (hex i hi).choose else fun _ => 0, ⟨rfl, fun i hi => ?_⟩, h1, hw, fun i j hi hj => ?_⟩
 ·dsimp only; rw [dif_pos hi]; exact (hex i hi).choose_spec.1
 ·dsimp only; rw [dif_pos hi]; exact (hex i hi).choose_spec.2 j hj
theorem zf9 {m : List (List zAd)} : z7o K m = some ((wid m : Nat) : Int) := by
 unfold z7o wid
 by_cases h : 0 < m.length
 ·rw [if_pos (decide_eq_true (by omega)), idx0 h, z0e]
 ·have : m = [] := List.length_eq_zero_iff.1 (by omega)
  subst this
  rfl
theorem zm6 {m : List (List zAd)} : z46 K m = some ((wid m : Nat) : Int) := by
 unfold z46 wid
 by_cases h : 0 < m.length
 ·rw [if_neg (by rw [beq_iff_eq]; omega), idx0 h, z0e]
 ·have : m = [] := List.length_eq_zero_iff.1 (by omega)
  subst this
  rfl
theorem zqk {f : Nat -> Nat -> Rat} {h w : Nat} {m : List (List zAd)} (hm : MT f h w m) (hs : MOk m) (hw : w <= 1048576) (hK : 2000000000 < K) : ∃ q, z68 K m = some q /\ MQ f h w q := by
 have hl := hm.1
 obtain ⟨s1, s2⟩ := hs
 obtain ⟨q, q1, q2⟩ := z9u (K := K) h (z2u K m) (fun i row => FQ (f i) w row) (fun q => MQ f h w q) (by omega)
  (fun k acc ha => ⟨acc, by rw [z2u, hl, if_neg (by simp)], ha⟩)
  (fun k i acc hi ha => by
   right
   have hx : idx m (i : Int) = some m[i] := z4q (zAh (by omega))
   obtain ⟨q, q1, q2⟩ := zpk (K := K) (hm.2 i (by omega)) (s2 _ (List.getElem_mem (by omega))).2 hw hK
   have hal := ha.1
   exact ⟨q, q2, by rw [z2u, hl, if_pos (lt_d hi), hx, z0e, q1, z0e, if_pos (by simp; omega), k1 (by omega)]⟩)
 exact ⟨q, by unfold z68; rw [q1]; rfl, q2⟩
end Go.Am.Tryz
/- Plain: few equations have small integer solutions (boxes and pigeons). -/
namespace Go.Am
open Go
theorem zkj : ∀ (n m : Nat) (f : Nat -> Nat), n < m -> (∀ i, i < m -> f i < n) -> ∃ i j, i < j /\ j < m /\ f i = f j
 | 0, m, f, h, hf => absurd (hf 0 h) (Nat.not_lt_zero _)
 | n + 1, m, f, h, hf => by
  classical
  refine Classical.byContradiction fun hno => ?_
  have hinj : ∀ i j, i < j -> j < m -> f i ≠ f j := fun i j hi hj e => hno ⟨i, j, hi, hj, e⟩
  by_cases hx : ∃ t, t < m /\ f t = n
  ·obtain ⟨t, ht, hft⟩ := hx
   obtain ⟨i, j, hij, hj, he⟩ := zkj n (m - 1) (fun i => f (if i < t then i else i + 1)) (by omega) (fun i hi => by
    have h1 := hf (if i < t then i else i + 1) (by split <;> omega)
    have h2 : f (if i < t then i else i + 1) ≠ n := by
     intro e
     rw [<- hft] at e
     by_cases c : i < t
     ·rw [if_pos c] at e; exact hinj i t c ht e
     ·rw [if_neg c] at e; exact hinj t (i + 1) (by omega) (by omega) e.symm
    omega)
   refine hinj _ _ ?_ ?_ he
   ·split <;> split <;> omega
   ·split <;> omega
  ·obtain ⟨i, j, hij, hj, he⟩ := zkj n m f (by omega) (fun i hi => by
    have h1 := hf i hi
    have h2 : f i ≠ n := fun e => hx ⟨i, hi, e⟩
    omega)
   exact hinj i j hij hj he
def enc (W : Nat) (v : Nat -> Nat) : Nat -> Nat
 | 0 => 0
 | n + 1 => enc W v n + v n * W ^ n
theorem zkk {W : Nat} {v : Nat -> Nat} : ∀ {n : Nat}, (∀ i, i < n -> v i < W) -> enc W v n < W ^ n
 | 0, _ => by simp [enc]
 | n + 1, h => by
  have h1 := zkk (n := n) fun i hi => h i (by omega)
  have h2 := h n (by omega)
  have h3 : (v n + 1) * W ^ n <= W * W ^ n := Nat.mul_le_mul_right _ h2
  rw [Nat.add_mul, Nat.one_mul] at h3
  rw [enc, Nat.pow_succ, Nat.mul_comm (W ^ n) W]
  omega
theorem zl7 {W : Nat} {v u : Nat -> Nat} : ∀ {n : Nat}, (∀ i, i < n -> v i < W) -> (∀ i, i < n -> u i < W) -> enc W v n = enc W u n -> ∀ i, i < n -> v i = u i
 | 0, _, _, _, i, hi => by omega
 | n + 1, hv, hu, he, i, hi => by
  have h1 := zkk (n := n) fun i hi => hv i (by omega)
  have h2 := zkk (n := n) fun i hi => hu i (by omega)
  have hP : 0 < W ^ n := by omega
  rw [enc, enc] at he
  have e1 : v n = u n := by
   have := congrArg (· / W ^ n) he
   simp only [Nat.add_mul_div_right _ _ hP, Nat.div_eq_of_lt h1, Nat.div_eq_of_lt h2] at this
   omega
  rw [e1] at he
  have e2 : enc W v n = enc W u n := by omega
  by_cases hin : i = n
  ·rw [hin]; exact e1
  ·exact zl7 (fun i hi => hv i (by omega)) (fun i hi => hu i (by omega)) e2 i (by omega)
theorem zfa {W : Nat} {v u : Nat -> Nat} : ∀ {n : Nat}, (∀ i, i < n -> v i = u i) -> enc W v n = enc W u n
 | 0, _ => rfl
 | n + 1, h => by rw [enc, enc, zfa (fun i hi => h i (by omega)), h n (by omega)]
def dg (b idx l : Nat) : Nat := idx / b ^ l % b
theorem zm7 (b idx : Nat) : ∀ n, enc b (dg b idx) n = idx % b ^ n
 | 0 => by rw [enc, Nat.pow_zero, Nat.mod_one]
 | n + 1 => by rw [enc, zm7 b idx n, Nat.pow_succ, Nat.mod_mul, dg, Nat.mul_comm (idx / b ^ n % b)]
def si (f : Nat -> Int) : Nat -> Int
 | 0 => 0
 | n + 1 => si f n + f n
theorem zq4 {f : Nat -> Int} {M : Int} : ∀ {n : Nat}, (∀ i, i < n -> 0 <= f i /\ f i <= M) -> 0 <= si f n /\ si f n <= n * M
 | 0, _ => by simp [si]
 | n + 1, h => by
  obtain ⟨h1, h2⟩ := zq4 (n := n) fun i hi => h i (by omega)
  obtain ⟨h3, h4⟩ := h n (by omega)
  rw [si]
  have : ((n + 1 : Nat) : Int) * M = n * M + M := by
   rw [show ((n + 1 : Nat) : Int) = (n : Int) + 1 by omega, Int.add_mul, Int.one_mul]
  rw [this]
  omega
theorem zo2 (f g : Nat -> Int) : ∀ n, si f n - si g n = si (fun i => f i - g i) n
 | 0 => by simp [si]
 | n + 1 => by rw [si, si, si, <- zo2 f g n]; omega
theorem zif {f g : Nat -> Int} : ∀ {n : Nat}, (∀ i, i < n -> f i = g i) -> si f n = si g n
 | 0, _ => rfl
 | n + 1, h => by rw [si, si, zif (fun i hi => h i (by omega)), h n (by omega)]
theorem zo3 {f : Nat -> Int} {M : Nat} : ∀ {n : Nat}, (∀ i, i < n -> (f i).natAbs <= M) -> (si f n).natAbs <= n * M
 | 0, _ => by simp [si]
 | n + 1, h => by
  have h1 := zo3 (n := n) fun i hi => h i (by omega)
  have h3 := h n (by omega)
  rw [si, Nat.add_mul, Nat.one_mul]
  omega
def ngt (a : Int) : Int := if a < 0 then -a else 0
theorem zo4 {a y : Int} {B Y : Nat} (ha : a.natAbs <= B) (h0 : 0 <= y) (hy : y <= Y) : 0 <= a * y + ngt a * Y /\ a * y + ngt a * Y <= ((B * Y : Nat) : Int) := by
 unfold ngt
 rw [Int.natCast_mul]
 by_cases c : a < 0
 ·rw [if_pos c]
  have e : a * y + -a * (Y : Int) = (-a) * ((Y : Int) - y) := by rw [Int.mul_sub, Int.neg_mul, Int.neg_mul]; omega
  rw [e]
  refine ⟨Int.mul_nonneg (by omega) (by omega), Int.le_trans (Int.mul_le_mul_of_nonneg_right (show -a <= (B : Int) by omega) (by omega)) (Int.mul_le_mul_of_nonneg_left (by omega) (by omega))⟩
 ·rw [if_neg c, Int.zero_mul, Int.add_zero]
  exact ⟨Int.mul_nonneg (by omega) h0, Int.le_trans (Int.mul_le_mul_of_nonneg_right (show a <= (B : Int) by omega) h0) (Int.mul_le_mul_of_nonneg_left hy (by omega))⟩
theorem zo5 {r B : Nat} (hB : 1 <= B) {a : Nat -> Nat -> Int} (ha : ∀ i l, i < r -> l < r + 1 -> (a i l).natAbs <= B) :
  ∃ z : Nat -> Int, (∃ l, l < r + 1 /\ z l ≠ 0) /\ (∀ l, (z l).natAbs <= ((r + 1) * B) ^ r) /\ ∀ i, i < r -> si (fun l => a i l * z l) (r + 1) = 0 := by
 generalize hC : (r + 1) * B = C
 generalize hY : C ^ r = Y
 have hC1 : 1 <= C := by rw [<- hC]; exact Nat.mul_pos (by omega) hB
 have hY1 : 1 <= Y := by rw [<- hY]; exact Nat.pow_pos hC1
 have dgle : ∀ idx l, dg (Y + 1) idx l <= Y := fun idx l => by have := Nat.mod_lt (idx / (Y + 1) ^ l) (show 0 < Y + 1 by omega); unfold dg; omega
 let u : Nat -> Nat -> Int := fun idx i => si (fun l => a i l * (dg (Y + 1) idx l : Int) + ngt (a i l) * Y) (r + 1)
 have ub : ∀ idx i, i < r -> 0 <= u idx i /\ u idx i <= ((C * Y : Nat) : Int) := fun idx i hi => by
  have h := zq4 (f := fun l => a i l * (dg (Y + 1) idx l : Int) + ngt (a i l) * Y) (M := ((B * Y : Nat) : Int)) (n := r + 1) fun l hl => zo4 (ha i l hi hl) (by omega) (by have := dgle idx l; omega)
  refine ⟨h.1, Int.le_trans h.2 (Int.le_of_eq ?_)⟩
  rw [<- hC, <- Int.natCast_mul, Nat.mul_assoc]
 have hlt : (C * Y + 1) ^ r < (Y + 1) ^ (r + 1) := by
  have h1 : C * Y + 1 <= C * (Y + 1) := by rw [Nat.mul_add, Nat.mul_one]; omega
  have h2 : (C * Y + 1) ^ r <= (C * (Y + 1)) ^ r := Nat.pow_le_pow_left h1 r
  rw [Nat.mul_pow, hY] at h2
  have h3 : 0 < (Y + 1) ^ r := Nat.pow_pos (by omega)
  rw [Nat.pow_succ, Nat.mul_add, Nat.mul_one, Nat.mul_comm ((Y + 1) ^ r) Y]
  omega
 obtain ⟨i1, i2, h12, h2m, he⟩ := zkj ((C * Y + 1) ^ r) ((Y + 1) ^ (r + 1)) (fun idx => enc (C * Y + 1) (fun i => (u idx i).toNat) r) hlt (fun idx _ => zkk fun i hi => by
  have := ub idx i hi; omega)
 have hu := zl7 (fun i hi => by have := ub i1 i hi; omega) (fun i hi => by have := ub i2 i hi; omega) he
 refine ⟨fun l => (dg (Y + 1) i1 l : Int) - (dg (Y + 1) i2 l : Int), ?_, fun l => ?_, fun i hi => ?_⟩
 ·refine Classical.byContradiction fun hno => ?_
  have hall : ∀ l, l < r + 1 -> dg (Y + 1) i1 l = dg (Y + 1) i2 l := fun l hl => Classical.byContradiction fun hne => hno ⟨l, hl, fun h0 => hne (by have h1 : (dg (Y + 1) i1 l : Int) - (dg (Y + 1) i2 l : Int) = 0 := h0; omega)⟩
  have e := zfa (W := Y + 1) hall
  rw [zm7, zm7, Nat.mod_eq_of_lt (by omega), Nat.mod_eq_of_lt h2m] at e
  omega
 ·have := dgle i1 l; have := dgle i2 l
  show ((dg (Y + 1) i1 l : Int) - (dg (Y + 1) i2 l : Int)).natAbs <= Y
  omega
 ·have e1 : u i1 i = u i2 i := by
   have h := hu i hi
   have := ub i1 i hi; have := ub i2 i hi
   omega
  have e2 := zo2 (fun l => a i l * (dg (Y + 1) i1 l : Int) + ngt (a i l) * Y) (fun l => a i l * (dg (Y + 1) i2 l : Int) + ngt (a i l) * Y) (r + 1)
  have e3 : si (fun l => a i l * (dg (Y + 1) i1 l : Int) + ngt (a i l) * Y) (r + 1) - si (fun l => a i l * (dg (Y + 1) i2 l : Int) + ngt (a i l) * Y) (r + 1) = 0 := by
   show u i1 i - u i2 i = 0
   omega
  rw [e3] at e2
  rw [e2]
  exact zif fun l hl => by rw [Int.mul_sub]; omega
end Go.Am
/- Plain: eliminations of rows: what they keep, and how large their numbers are. -/
namespace Go.Am
open Go
theorem zfb {x : Rat} (h : x ≠ 0) : x / x = 1 := by rw [Rat.div_def, Rat.mul_inv_cancel x h]
theorem z57 (x : Rat) : 0 / x = 0 := by rw [Rat.div_def, Rat.zero_mul]
def sr (f : Nat -> Rat) : Nat -> Rat
 | 0 => 0
 | n + 1 => sr f n + f n
theorem z3g {f g : Nat -> Rat} : ∀ {n : Nat}, (∀ i, i < n -> f i = g i) -> sr f n = sr g n
 | 0, _ => rfl
 | n + 1, h => by rw [sr, sr, z3g (fun i hi => h i (by omega)), h n (by omega)]
theorem z5v {f : Nat -> Rat} : ∀ {n : Nat}, (∀ i, i < n -> f i = 0) -> sr f n = 0
 | 0, _ => rfl
 | n + 1, h => by rw [sr, z5v (fun i hi => h i (by omega)), h n (by omega)]; grind
theorem z7j (f g : Nat -> Rat) (a : Rat) : ∀ n, sr (fun i => f i - a * g i) n = sr f n - a * sr g n
 | 0 => by simp only [sr]; grind
 | n + 1 => by simp only [sr]; rw [z7j f g a n]; grind
theorem zo6 (f : Nat -> Rat) (b : Rat) : ∀ n, sr (fun i => f i / b) n = sr f n / b
 | 0 => by simp only [sr]; rw [z57]
 | n + 1 => by simp only [sr]; rw [zo6 f b n, Rat.div_def, Rat.div_def, Rat.div_def]; grind
theorem zkl (f g : Nat -> Rat) : ∀ n, sr (fun i => f i + g i) n = sr f n + sr g n
 | 0 => by simp only [sr]; grind
 | n + 1 => by simp only [sr]; rw [zkl f g n]; grind
theorem z58 {f : Nat -> Rat} {j : Nat} : ∀ {n : Nat}, j < n -> (∀ i, i < n -> i ≠ j -> f i = 0) -> sr f n = f j
 | 0, h, _ => by omega
 | n + 1, h, hz => by
  rw [sr]
  by_cases e : n = j
  ·subst e
   rw [z5v fun i hi => hz i (by omega) (by omega)]; grind
  ·rw [z58 (j := j) (by omega) (fun i hi => hz i (by omega)), hz n (by omega) e]; grind
structure Lin (φ : (Nat -> Rat) -> Rat) : Prop where
 sub : ∀ (f g : Nat -> Rat) (a : Rat), φ (fun c => f c - a * g c) = φ f - a * φ g
 div : ∀ (f : Nat -> Rat) (b : Rat), φ (fun c => f c / b) = φ f / b
theorem Lin.rest {φ : (Nat -> Rat) -> Rat} (hφ : Lin φ) (F a : Nat -> Rat) (g : Nat -> Nat -> Rat) : ∀ r, φ (fun c => F c - sr (fun j => a j * g j c) r) = φ F - sr (fun j => a j * φ (g j)) r
 | 0 => by
  have e : (fun c => F c - sr (fun j => a j * g j c) 0) = F := by funext c; simp only [sr]; grind
  rw [e]; simp only [sr]; grind
 | r + 1 => by
  have e : (fun c => F c - sr (fun j => a j * g j c) (r + 1)) = fun c => (F c - sr (fun j => a j * g j c) r) - a r * g r c := by funext c; simp only [sr]; grind
  rw [e, hφ.sub (fun c => F c - sr (fun j => a j * g j c) r) (g r) (a r), hφ.rest F a g r]
  simp only [sr]; grind
theorem zdc (S : Nat -> Nat) (z : Nat -> Rat) (n : Nat) : Lin (fun f => sr (fun l => f (S l) * z l) n) := by
 refine ⟨fun f g a => ?_, fun f b => ?_⟩
 ·show sr (fun l => (f (S l) - a * g (S l)) * z l) n = _
  rw [<- z7j]
  exact z3g fun l _ => by grind
 ·show sr (fun l => f (S l) / b * z l) n = _
  rw [<- zo6]
  exact z3g fun l _ => by rw [Rat.div_def, Rat.div_def]; grind
theorem zo7 (x : Nat -> Rat) (n : Nat) : Lin (fun f => sr (fun c => f c * x c) n - f n) := by
 have h := zdc (fun l => l) x n
 refine ⟨fun f g a => ?_, fun f b => ?_⟩
 ·have := h.sub f g a
  show sr (fun c => (f c - a * g c) * x c) n - (f n - a * g n) = _
  simp only at this
  rw [this]; grind
 ·have := h.div f b
  show sr (fun c => f c / b * x c) n - f n / b = _
  simp only at this
  rw [this, Rat.div_def, Rat.div_def, Rat.div_def]; grind
def swp {α : Type} (f : Nat -> α) (a b : Nat) : Nat -> α := fun i => if i = a then f b else if i = b then f a else f i
def clr (f : Nat -> Nat -> Rat) (r k : Nat) : Nat -> Nat -> Rat := fun i c => if i = r then f r c / f r k else f i c - f i k * (f r c / f r k)
structure Ech (h : Nat) (f0 : Nat -> Nat -> Rat) (piv : List Nat) (f : Nat -> Nat -> Rat) (k : Nat) : Prop where
 inc : ∀ j j', j < j' -> j' < piv.length -> piv.getD j 0 < piv.getD j' 0
 lt : ∀ j, j < piv.length -> piv.getD j 0 < k
 rh : piv.length <= h
 unit : ∀ j i, j < piv.length -> i < h -> f i (piv.getD j 0) = if i = j then 1 else 0
 low : ∀ i c, piv.length <= i -> i < h -> c < k -> f i c = 0
 org : ∃ F : Nat -> Nat -> Rat, (∀ i, i < h -> ∃ i', i' < h /\ F i = f0 i') /\ (∀ φ, Lin φ -> (∀ i, i < piv.length -> φ (F i) = 0) -> ∀ j, j < piv.length -> φ (f j) = 0) /\ (∀ i c, piv.length <= i -> i < h -> f i c = F i c - sr (fun j => F i (piv.getD j 0) * f j c) piv.length)
 eqv : ∀ φ, Lin φ -> ((∀ i, i < h -> φ (f i) = 0) ↔ ∀ i, i < h -> φ (f0 i) = 0)
theorem Ech.start (h : Nat) (f : Nat -> Nat -> Rat) : Ech h f [] f 0 :=
 ⟨fun j j' _ hj => by simp at hj, fun j hj => by simp at hj, Nat.zero_le _, fun j i hj => by simp at hj, fun i c _ _ hc => by omega,
  ⟨f, fun i hi => ⟨i, hi, rfl⟩, fun φ _ _ j hj => by simp at hj, fun i c _ _ => by simp only [List.length_nil, sr]; grind⟩, fun φ _ => Iff.rfl⟩
section
variable {h k i0 : Nat} {f0 f : Nat -> Nat -> Rat} {piv : List Nat}
theorem Ech.skip (E : Ech h f0 piv f k) (hz : ∀ i, piv.length <= i -> i < h -> f i k = 0) : Ech h f0 piv f (k + 1) :=
 ⟨E.inc, fun j hj => Nat.lt_succ_of_lt (E.lt j hj), E.rh, E.unit, fun i c hi hh hc => by
  by_cases e : c = k
  ·rw [e]; exact hz i hi hh
  ·exact E.low i c hi hh (by omega), E.org, E.eqv⟩
theorem zfz {l : List Nat} {k j : Nat} (hj : j < l.length) : (l ++ [k]).getD j 0 = l.getD j 0 := by
 rw [zAb, zAb, List.getElem?_append_left hj]
theorem zkm {l : List Nat} {k : Nat} : (l ++ [k]).getD l.length 0 = k := by
 rw [zAb, List.getElem?_append_right (Nat.le_refl _)]; simp
theorem zmq {α : Type} {f : Nat -> α} {a b : Nat} : swp f a b a = f b := by simp [swp]
theorem zg0 {α : Type} {f : Nat -> α} {a b i : Nat} (h1 : i ≠ a) (h2 : i ≠ b) : swp f a b i = f i := by simp [swp, h1, h2]
theorem zig {α β : Type} {r b h : Nat} (hr : r <= b) (hb : b < h) (f : Nat -> α) (F : Nat -> β) {i : Nat} (hi : r <= i) (hh : i < h) : ∃ i', r <= i' /\ i' < h /\ swp f r b i = f i' /\ swp F r b i = F i' := by
 by_cases e : i = r
 ·subst e; exact ⟨b, hr, hb, by simp [swp], by simp [swp]⟩
 ·by_cases e2 : i = b
  ·subst e2; exact ⟨r, Nat.le_refl _, by omega, by simp [swp, e], by simp [swp, e]⟩
  ·exact ⟨i, hi, hh, by simp [swp, e, e2], by simp [swp, e, e2]⟩
theorem ze0 {g : Nat -> Nat -> Rat} {r k : Nat} : clr g r k r = fun c => g r c / g r k := by funext c; simp [clr]
theorem zap {g : Nat -> Nat -> Rat} {r k i : Nat} (h : i ≠ r) : clr g r k i = fun c => g i c - g i k * (g r c / g r k) := by funext c; simp [clr, h]
theorem Ech.step (E : Ech h f0 piv f k) (hi : piv.length <= i0) (hih : i0 < h) (hk : f i0 k ≠ 0) : Ech h f0 (piv ++ [k]) (clr (swp f piv.length i0) piv.length k) (k + 1) := by
 have hlen : (piv ++ [k]).length = piv.length + 1 := by simp
 generalize hg : swp f piv.length i0 = g
 have gr : g piv.length = f i0 := by rw [<- hg]; exact zmq
 have gl : ∀ i, i < piv.length -> g i = f i := fun i hi' => by rw [<- hg]; exact zg0 (by omega) (by omega)
 have grow : ∀ i, piv.length <= i -> i < h -> ∃ i', piv.length <= i' /\ i' < h /\ g i = f i' := fun i h1 h2 => by
  obtain ⟨i', q1, q2, q3, _⟩ := zig hi hih f f h1 h2
  exact ⟨i', q1, q2, by rw [<- hg]; exact q3⟩
 have hrk : g piv.length k ≠ 0 := by rw [gr]; exact hk
 have lowr : ∀ c, c < k -> g piv.length c = 0 := fun c hc => by rw [gr]; exact E.low i0 c hi hih hc
 have low1 : ∀ i c, piv.length <= i -> i < h -> c < k -> g i c = 0 := fun i c h1 h2 hc => by
  obtain ⟨i', q1, q2, q3⟩ := grow i h1 h2
  rw [q3]; exact E.low i' c q1 q2 hc
 have colk : ∀ i, clr g piv.length k i k = if i = piv.length then 1 else 0 := fun i => by
  by_cases e : i = piv.length
  ·subst e; rw [ze0, if_pos rfl]; exact zfb hrk
  ·rw [zap e, if_neg e]
   show g i k - g i k * (g piv.length k / g piv.length k) = 0
   rw [zfb hrk]; grind
 refine ⟨fun j j' hj hj' => ?_, fun j hj => ?_, by rw [hlen]; omega, fun j i hj hh => ?_, fun i c h1 h2 hc => ?_, ?_, fun φ hφ => ?_⟩
 ·rw [hlen] at hj'
  by_cases e : j' = piv.length
  ·subst e; rw [zkm, zfz hj]; exact E.lt j hj
  ·rw [zfz (show j' < piv.length by omega), zfz (show j < piv.length by omega)]; exact E.inc j j' hj (by omega)
 ·rw [hlen] at hj
  by_cases e : j = piv.length
  ·subst e; rw [zkm]; omega
  ·rw [zfz (show j < piv.length by omega)]; have := E.lt j (by omega); omega
 ·rw [hlen] at hj
  by_cases e : j = piv.length
  ·subst e; rw [zkm]; exact colk i
  ·have hj2 : j < piv.length := by omega
   rw [zfz hj2]
   have z : g piv.length (piv.getD j 0) = 0 := lowr _ (E.lt j hj2)
   by_cases e2 : i = piv.length
   ·subst e2
    rw [ze0, if_neg (by omega)]
    show g piv.length (piv.getD j 0) / _ = 0
    rw [z, z57]
   ·rw [zap e2]
    show g i (piv.getD j 0) - g i k * (g piv.length (piv.getD j 0) / _) = _
    rw [z, z57]
    have e3 : g i (piv.getD j 0) = if i = j then 1 else 0 := by
     by_cases c : i < piv.length
     ·rw [gl i c]; exact E.unit j i hj2 hh
     ·rw [low1 i _ (by omega) hh (E.lt j hj2), if_neg (by omega)]
    rw [e3]; grind
 ·rw [hlen] at h1
  by_cases e : c = k
  ·subst e; rw [colk, if_neg (by omega)]
  ·have e2 : i ≠ piv.length := by omega
   rw [zap e2]
   show g i c - g i k * (g piv.length c / _) = 0
   rw [low1 i c (by omega) h2 (by omega), lowr c (by omega), z57]; grind
 ·obtain ⟨F, o1, o2, o3⟩ := E.org
  have grow2 : ∀ i, piv.length <= i -> i < h -> ∀ c, g i c = swp F piv.length i0 i c - sr (fun j => swp F piv.length i0 i (piv.getD j 0) * f j c) piv.length := fun i h1 h2 c => by
   obtain ⟨i', q1, q2, q3, q4⟩ := zig hi hih f F h1 h2
   rw [<- hg, q3, q4]; exact o3 i' c q1 q2
  have fz : ∀ φ, Lin φ -> (∀ j, j < piv.length -> φ (f j) = 0) -> φ (f i0) = φ (F i0) := fun φ hφ hz => by
   have e : f i0 = fun c => F i0 c - sr (fun j => F i0 (piv.getD j 0) * f j c) piv.length := by funext c; exact o3 i0 c hi hih
   have e2 := hφ.rest (F i0) (fun j => F i0 (piv.getD j 0)) f piv.length
   rw [<- e] at e2
   rw [e2, z5v fun j hj => by rw [hz j hj]; grind]; grind
  refine ⟨swp F piv.length i0, fun i hh => ?_, fun φ hφ hz j hj => ?_, fun i c h1 h2 => ?_⟩
  ·unfold swp
   split
   ·exact o1 i0 hih
   ·split
    ·exact o1 _ (by omega)
    ·exact o1 i hh
  ·rw [hlen] at hz hj
   have hz1 : ∀ j, j < piv.length -> φ (f j) = 0 := o2 φ hφ fun i hi' => by
    have := hz i (by omega)
    rwa [zg0 (by omega) (by omega)] at this
   have hz2 : φ (g piv.length) = 0 := by
    have := hz piv.length (by omega)
    rw [zmq] at this
    rw [gr, fz φ hφ hz1, this]
   by_cases e : j = piv.length
   ·subst e
    rw [ze0, hφ.div, hz2, z57]
   ·rw [zap e, hφ.sub (g j) (fun c => g piv.length c / g piv.length k), hφ.div, hz2, z57, gl j (by omega), hz1 j (by omega)]; grind
  ·rw [hlen] at h1
   have e2 : i ≠ piv.length := by omega
   rw [hlen, zap e2]
   simp only [sr]
   rw [zkm, ze0]
   generalize hq : (fun c => g piv.length c / g piv.length k) = q
   have hqc : ∀ c, g piv.length c / g piv.length k = q c := fun c => by rw [<- hq]
   simp only [hqc]
   have e3 : sr (fun j => swp F piv.length i0 i ((piv ++ [k]).getD j 0) * clr g piv.length k j c) piv.length = sr (fun j => swp F piv.length i0 i (piv.getD j 0) * f j c) piv.length - q c * sr (fun j => swp F piv.length i0 i (piv.getD j 0) * f j k) piv.length := by
    rw [<- z7j]
    refine z3g fun j hj => ?_
    rw [zfz hj, zap (by omega), gl j hj]
    simp only [hqc]; grind
   rw [e3, grow2 i (by omega) h2 c, grow2 i (by omega) h2 k]
   grind
 ·rw [<- E.eqv φ hφ]
  have s1 : (∀ i, i < h -> φ (g i) = 0) ↔ ∀ i, i < h -> φ (f i) = 0 := by
   constructor
   ·intro hz i hh
    by_cases e : i = i0
    ·subst e; rw [<- gr]; exact hz _ (by omega)
    ·by_cases e2 : i = piv.length
     ·have h3 := hz i0 hih
      rw [<- hg] at h3
      have : swp f piv.length i0 i0 = f piv.length := by
       unfold swp
       split
       ·rename_i h4; rw [h4]
       ·rw [if_pos rfl]
      rw [this] at h3; rw [e2]; exact h3
     ·have h3 := hz i hh
      rw [<- hg, zg0 e2 e] at h3; exact h3
   ·intro hz i hh
    rw [<- hg]
    unfold swp
    split
    ·exact hz i0 hih
    ·split
     ·exact hz _ (by omega)
     ·exact hz i hh
  rw [<- s1]
  constructor
  ·intro hz i hh
   have h1 := hz piv.length (by omega)
   rw [ze0, hφ.div] at h1
   have h2 : φ (g piv.length) = 0 := by
    have e : φ (g piv.length) = φ (g piv.length) / g piv.length k * g piv.length k := by rw [Rat.div_def]; have := Rat.inv_mul_cancel _ hrk; grind
    rw [e, h1]; grind
   by_cases e : i = piv.length
   ·rw [e]; exact h2
   ·have h3 := hz i hh
    rw [zap e, hφ.sub (g i) (fun c => g piv.length c / g piv.length k), hφ.div, h2, z57] at h3
    grind
  ·intro hz i hh
   have h2 := hz piv.length (by omega)
   by_cases e : i = piv.length
   ·rw [e, ze0, hφ.div, h2, z57]
   ·rw [zap e, hφ.sub (g i) (fun c => g piv.length c / g piv.length k), hφ.div, h2, z57, hz i hh]; grind
end
end Go.Am
/- Plain: how large the numbers of an elimination are; what it says about solutions. -/
namespace Go.Am
open Go
theorem zo8 (x : Rat) : x * (x.den : Rat) = (x.num : Rat) := by
 have e := zdx x
 rw [z9f] at e
 have h0 : (x.den : Rat) ≠ 0 := by simp [x.den_nz]
 have e2 : (x.num : Rat) / (x.den : Rat) * (x.den : Rat) = (x.num : Rat) := by rw [Rat.div_def]; have := Rat.inv_mul_cancel _ h0; grind
 rw [<- e] at e2; exact e2
theorem zih (x : Rat) (D : Nat) (h : x.den ∣ D) : x * (D : Rat) = ((x.num * ((D / x.den : Nat) : Int) : Int) : Rat) := by
 obtain ⟨q, rfl⟩ := h
 rw [Nat.mul_div_cancel_left q x.den_pos, Rat.intCast_mul, Rat.natCast_mul]
 have := zo8 x
 have e : (((q : Nat) : Int) : Rat) = (q : Rat) := rfl
 rw [e]
 grind
theorem Dl.quo {p q : Int} {N : Nat} (hq : q ≠ 0) (h1 : p.natAbs < 10 ^ N) (h2 : q.natAbs < 10 ^ N) : Dl ((p : Rat) / (q : Rat)) N := by
 have hq' : (q : Rat) ≠ 0 := by simpa using hq
 rw [zi2 _ _ hq']
 refine Dl.mk _ ?_ ?_ ?_
 ·rw [Rat.num_intCast, Rat.den_intCast]; omega
 ·rw [Rat.num_intCast, Rat.den_intCast]; omega
 ·rw [Rat.num_intCast, Rat.den_intCast]; omega
def dens (g : Nat -> Rat) : Nat -> Nat
 | 0 => 1
 | n + 1 => dens g n * (g n).den
theorem ze1 (g : Nat -> Rat) {c : Nat} : ∀ {n : Nat}, c < n -> (g c).den ∣ dens g n
 | 0, h => by omega
 | n + 1, h => by
  rw [dens]
  by_cases e : c = n
  ·rw [e]; exact Nat.dvd_mul_left _ _
  ·exact Nat.dvd_trans (ze1 g (by omega)) (Nat.dvd_mul_right _ _)
theorem zcd (g : Nat -> Rat) : ∀ n, 0 < dens g n
 | 0 => by simp [dens]
 | n + 1 => Nat.mul_pos (zcd g n) (g n).den_pos
theorem zii {g : Nat -> Rat} {M : Nat} : ∀ {n : Nat}, (∀ c, c < n -> Dl (g c) M) -> dens g n <= 10 ^ (M * n)
 | 0, _ => by simp [dens]
 | n + 1, h => by
  rw [dens, Nat.mul_succ, Nat.pow_add]
  exact Nat.mul_le_mul (zii fun c hc => h c (by omega)) (Nat.le_of_lt (h n (by omega)).2)
theorem zpn {g : Nat -> Rat} {Z z : Nat -> Int} {D : Rat} : ∀ {n : Nat}, (∀ l, l < n -> g l * D = (Z l : Rat)) -> sr (fun l => g l * (z l : Rat)) n * D = ((si (fun l => Z l * z l) n : Int) : Rat)
 | 0, _ => by simp only [sr, si]; simp
 | n + 1, h => by
  simp only [sr, si]
  have h1 := zpn (z := z) (n := n) fun l hl => h l (by omega)
  have h2 := h n (by omega)
  rw [Rat.intCast_add, Rat.intCast_mul, <- h1, <- h2]
  grind
section
variable {h k : Nat} {f0 f : Nat -> Nat -> Rat} {piv : List Nat}
theorem zpo {r B R E : Nat} (h1 : r + 1 <= R) (h2 : R <= 100) (hB : B <= 10 ^ E) : ((r + 1) * B) ^ (r + 1) < 10 ^ (R * (E + 2) + 1) := by
 have h3 : (r + 1) * B <= 10 ^ (E + 2) := by
  rw [Nat.pow_add, Nat.mul_comm]
  exact Nat.mul_le_mul hB (by omega)
 have h4 : ((r + 1) * B) ^ (r + 1) <= (10 ^ (E + 2)) ^ (r + 1) := Nat.pow_le_pow_left h3 _
 rw [<- Nat.pow_mul] at h4
 have h5 : (E + 2) * (r + 1) <= R * (E + 2) := by rw [Nat.mul_comm]; exact Nat.mul_le_mul_right _ h1
 exact Nat.lt_of_le_of_lt h4 (Nat.pow_lt_pow_right (by omega) (by omega))
theorem Ech.dl {M w R : Nat} (E : Ech h f0 piv f k) (hd : ∀ i c, i < h -> c < w -> Dl (f0 i c) M) (hkw : k <= w) (hR : piv.length + 1 <= R) (hR2 : R <= 100) : ∀ i c, i < h -> c < w -> Dl (f i c) (R * (M * (w + 1) + 2) + 1) := by
 intro i c hi hc
 obtain ⟨F, o1, o2, o3⟩ := E.org
 have dF : ∀ i, i < h -> ∀ c, c < w -> Dl (F i c) M := fun i hi c hc => by
  obtain ⟨i', q1, q2⟩ := o1 i hi
  rw [q2]; exact hd i' c q1 hc
 generalize hr : piv.length = r at *
 have hS : ∀ l, (if l < r then piv.getD l 0 else c) < w := fun l => by
  split
  ·rename_i hl; have := E.lt l (by omega); omega
  ·exact hc
 generalize hSd : (fun l => if l < r then piv.getD l 0 else c) = S
 have S1 : ∀ l, l < r -> S l = piv.getD l 0 := fun l hl => by rw [<- hSd]; simp [hl]
 have S2 : S r = c := by rw [<- hSd]; simp
 have hS : ∀ l, S l < w := fun l => by rw [<- hSd]; exact hS l
 let Z : Nat -> Nat -> Int := fun i l => (F i (S l)).num * ((dens (F i) w / (F i (S l)).den : Nat) : Int)
 have hZ : ∀ i l, i < h -> F i (S l) * (dens (F i) w : Rat) = (Z i l : Rat) := fun i l hi => zih _ _ (ze1 _ (hS l))
 have hZb : ∀ i l, i < h -> (Z i l).natAbs <= 10 ^ (M * (w + 1)) := fun i l hi => by
  show ((F i (S l)).num * ((dens (F i) w / (F i (S l)).den : Nat) : Int)).natAbs <= _
  rw [Int.natAbs_mul, Int.natAbs_natCast, Nat.mul_succ, Nat.add_comm (M * w) M, Nat.pow_add]
  exact Nat.mul_le_mul (Nat.le_of_lt (dF i hi _ (hS l)).1) (Nat.le_trans (Nat.div_le_self _ _) (zii (dF i hi)))
 have hrh : r <= h := by rw [<- hr]; exact E.rh
 obtain ⟨z, ⟨l0, hl0, hz0⟩, zb, zk⟩ := zo5 (r := r) (B := 10 ^ (M * (w + 1))) (Nat.pow_pos (by omega)) (a := Z) (fun i l hi hl => hZb i l (by omega))
 have hφ := zdc S (fun l => (z l : Rat)) (r + 1)
 generalize hφd : (fun f : Nat -> Rat => sr (fun l => f (S l) * (z l : Rat)) (r + 1)) = φ at hφ
 have φd : ∀ f, φ f = sr (fun l => f (S l) * (z l : Rat)) (r + 1) := fun f => by rw [<- hφd]
 have hD : ∀ i, ((dens (F i) w : Nat) : Rat) ≠ 0 := fun i => by have := zcd (F i) w; simp; omega
 have hT : ∀ i, i < h -> φ (F i) * (dens (F i) w : Rat) = ((si (fun l => Z i l * z l) (r + 1) : Int) : Rat) := fun i hi => by
  rw [φd]; exact zpn fun l _ => hZ i l hi
 have hF0 : ∀ i, i < r -> φ (F i) = 0 := fun i hi => by
  have h1 := hT i (by omega)
  rw [zk i hi] at h1
  have h2 := hD i
  have h3 : φ (F i) * (dens (F i) w : Rat) = 0 := by rw [h1]; rfl
  rcases Rat.mul_eq_zero.1 h3 with h | h
  ·exact h
  ·exact absurd h h2
 have hf0 : ∀ j, j < r -> φ (f j) = 0 := fun j hj => o2 φ hφ hF0 j hj
 have hrow : ∀ j, j < h -> φ (f j) = (if j < r then (z j : Rat) else 0) + f j c * (z r : Rat) := fun j hj => by
  rw [φd]
  simp only [sr]
  rw [S2]
  congr 1
  by_cases hjr : j < r
  ·rw [if_pos hjr, z58 (j := j) hjr fun l hl hne => ?_]
   ·rw [S1 j hjr, E.unit j j (by omega) hj, if_pos rfl]; grind
   ·rw [S1 l hl, E.unit l j (by omega) hj, if_neg (fun e => hne e.symm)]; grind
  ·rw [if_neg hjr]
   exact z5v fun l hl => by rw [S1 l hl, E.unit l j (by omega) hj, if_neg (by omega)]; grind
 have hzr : z r ≠ 0 := fun e => by
  have hall : ∀ j, j < r -> z j = 0 := fun j hj => by
   have h1 := hrow j (by omega)
   rw [hf0 j hj, if_pos hj, e] at h1
   have h2 : (z j : Rat) = 0 := by
    have : ((0 : Int) : Rat) = 0 := rfl
    rw [this] at h1; grind
   simpa using h2
  by_cases c1 : l0 < r
  ·exact hz0 (hall l0 c1)
  ·have : l0 = r := by omega
   rw [this] at hz0; exact hz0 e
 have hzr' : (z r : Rat) ≠ 0 := by simpa using hzr
 have bY : ((r + 1) * 10 ^ (M * (w + 1))) ^ (r + 1) < 10 ^ (R * (M * (w + 1) + 2) + 1) := zpo hR hR2 (Nat.le_refl _)
 generalize hC : (r + 1) * 10 ^ (M * (w + 1)) = C at zb bY
 have hC1 : 10 ^ (M * (w + 1)) <= C := by rw [<- hC]; exact Nat.le_mul_of_pos_left _ (by omega)
 have hCp : 0 < C := Nat.lt_of_lt_of_le (Nat.pow_pos (by omega)) hC1
 rw [Nat.pow_succ] at bY
 have hle : C ^ r <= C ^ r * C := Nat.le_mul_of_pos_right _ hCp
 by_cases hir : i < r
 ·have h1 := hrow i hi
  rw [hf0 i hir, if_pos hir] at h1
  have h2 : f i c = ((-(z i) : Int) : Rat) / ((z r : Int) : Rat) := by
   rw [Rat.div_def, Rat.intCast_neg]
   have h3 := Rat.mul_inv_cancel _ hzr'
   have : f i c * (z r : Rat) * (z r : Rat)⁻¹ = f i c := by rw [Rat.mul_assoc, h3, Rat.mul_one]
   rw [<- this]
   have : f i c * (z r : Rat) = -(z i : Rat) := by grind
   rw [this]
  rw [h2]
  have := zb i; have := zb r
  exact Dl.quo hzr (by rw [Int.natAbs_neg]; omega) (by omega)
 ·have h1 := hrow i hi
  rw [if_neg hir] at h1
  have e : f i = fun c => F i c - sr (fun j => F i (piv.getD j 0) * f j c) r := by funext c; exact o3 i c (by omega) hi
  have e2 := hφ.rest (F i) (fun j => F i (piv.getD j 0)) f r
  rw [<- e, z5v (f := fun j => F i (piv.getD j 0) * φ (f j)) fun j hj => by rw [hf0 j hj]; grind] at e2
  have h3 := hT i hi
  generalize hTd : si (fun l => Z i l * z l) (r + 1) = T at h3
  have hTb : T.natAbs <= (r + 1) * (10 ^ (M * (w + 1)) * C ^ r) := by
   rw [<- hTd]
   exact zo3 fun l hl => by rw [Int.natAbs_mul]; exact Nat.mul_le_mul (hZb i l hi) (zb l)
  have hTb : T.natAbs <= C ^ r * C := by rw [<- Nat.mul_assoc, hC, Nat.mul_comm] at hTb; exact hTb
  have h4 : f i c = (T : Rat) / (((dens (F i) w : Int) * z r : Int) : Rat) := by
   have hd := hD i
   have hne : (((dens (F i) w : Int) * z r : Int) : Rat) ≠ 0 := by
    rw [Rat.intCast_mul]
    intro h0
    rcases Rat.mul_eq_zero.1 h0 with h | h
    ·exact hd h
    ·exact hzr' h
   have h5 : f i c * (((dens (F i) w : Int) * z r : Int) : Rat) = T := by
    rw [<- h3, Rat.intCast_mul]
    have : (((dens (F i) w : Nat) : Int) : Rat) = (dens (F i) w : Rat) := rfl
    rw [this]
    have h6 : φ (F i) = f i c * (z r : Rat) := by grind
    rw [h6]; grind
   rw [Rat.div_def, <- h5, Rat.mul_assoc, Rat.mul_inv_cancel _ hne, Rat.mul_one]
  have hden : dens (F i) w <= 10 ^ (M * (w + 1)) := Nat.le_trans (zii (dF i hi)) (Nat.pow_le_pow_right (by omega) (Nat.mul_le_mul_left _ (by omega)))
  rw [h4]
  refine Dl.quo ?_ (by omega) ?_
  ·refine Int.mul_ne_zero ?_ hzr
   have := zcd (F i) w; omega
  ·rw [Int.natAbs_mul, Int.natAbs_natCast]
   have : dens (F i) w * (z r).natAbs <= C * C ^ r := Nat.mul_le_mul (Nat.le_trans hden hC1) (zb r)
   rw [Nat.mul_comm C] at this
   omega
def Sol (f : Nat -> Nat -> Rat) (h n : Nat) (x : Nat -> Rat) : Prop := ∀ i, i < h -> sr (fun c => f i c * x c) n = f i n
theorem Sol.lin {h n : Nat} {f : Nat -> Nat -> Rat} {x : Nat -> Rat} : Sol f h n x ↔ ∀ i, i < h -> (fun f => sr (fun c => f c * x c) n - f n) (f i) = 0 := by
 refine forall_congr' fun i => forall_congr' fun _ => ?_
 show _ ↔ sr (fun c => f i c * x c) n - f i n = 0
 constructor <;> intro h <;> grind
theorem Ech.sol (E : Ech h f0 piv f k) (n : Nat) (x : Nat -> Rat) : Sol f h n x ↔ Sol f0 h n x := by
 rw [Sol.lin, Sol.lin]; exact E.eqv _ (zo7 x n)
theorem Ech.none {n i : Nat} (E : Ech h f0 piv f k) (hk : k <= n) (hend : k = n \/ piv.length = h) (hi : piv.length <= i) (hh : i < h) (hne : f i n ≠ 0) (x : Nat -> Rat) : ¬ Sol f0 h n x := fun hs => by
 have h1 := (E.sol n x).2 hs i hh
 rw [z5v fun c hc => by rw [E.low i c hi hh (by omega)]; grind] at h1
 exact hne h1.symm
theorem zm8 {piv : List Nat} (inc : ∀ j j', j < j' -> j' < piv.length -> piv.getD j 0 < piv.getD j' 0) : ∀ j, j < piv.length -> j <= piv.getD j 0
 | 0, _ => Nat.zero_le _
 | j + 1, h => by have := zm8 inc j (by omega); have := inc j (j + 1) (by omega) h; omega
theorem zo9 {piv : List Nat} {n : Nat} (inc : ∀ j j', j < j' -> j' < piv.length -> piv.getD j 0 < piv.getD j' 0) (lt : ∀ j, j < piv.length -> piv.getD j 0 < n) (hn : piv.length = n) : ∀ j, j < n -> piv.getD j 0 = j := by
 have key : ∀ m j, j + m + 1 = n -> piv.getD j 0 + m < n := by
  intro m
  induction m with
  | zero => intro j hj; exact lt j (by omega)
  | succ m ih => intro j hj; have h1 := ih (j + 1) (by omega); have h2 := inc j (j + 1) (by omega) (by omega); omega
 intro j hj
 have h1 := zm8 inc j (by omega)
 have h2 := key (n - j - 1) j (by omega)
 omega
theorem Ech.one {n : Nat} (E : Ech h f0 piv f k) (hk : k <= n) (hend : k = n \/ piv.length = h) (hz : ∀ i, piv.length <= i -> i < h -> f i n = 0) (hn : piv.length = n) (x : Nat -> Rat) : Sol f0 h n x ↔ ∀ c, c < n -> x c = f c n := by
 have hrh := E.rh
 have hp := zo9 E.inc (fun j hj => Nat.lt_of_lt_of_le (E.lt j hj) hk) hn
 have hrow : ∀ i, i < n -> sr (fun c => f i c * x c) n = x i := fun i hi => by
  rw [z58 (j := i) hi fun c hc hne => ?_]
  ·have := E.unit i i (by omega) (by omega); rw [hp i hi, if_pos rfl] at this; rw [this]; grind
  ·have := E.unit c i (by omega) (by omega); rw [hp c hc, if_neg (fun e => hne e.symm)] at this; rw [this]; grind
 rw [<- E.sol n x]
 constructor
 ·intro hs c hc
  rw [<- hs c (by omega), hrow c hc]
 ·intro hx i hi
  by_cases c : i < n
  ·rw [hrow i c, hx i c]
  ·rw [z5v fun c' hc' => by rw [E.low i c' (by omega) hi (by omega)]; grind, hz i (by omega) hi]
theorem zoa {f : Nat -> Rat} {a b n : Nat} (ha : a < n) (hb : b < n) (hab : a ≠ b) (hz : ∀ i, i < n -> i ≠ a -> i ≠ b -> f i = 0) : sr f n = f a + f b := by
 have e : ∀ i, i < n -> f i = (if i = a then f a else 0) + (if i = b then f b else 0) := fun i hi => by
  by_cases c : i = a
  ·subst c; rw [if_pos rfl, if_neg hab]; grind
  ·by_cases c2 : i = b
   ·subst c2; rw [if_pos rfl, if_neg c]; grind
   ·rw [if_neg c, if_neg c2, hz i hi c c2]; grind
 rw [z3g e, zkl, z58 (j := a) ha (fun i _ hne => if_neg hne), z58 (j := b) hb (fun i _ hne => if_neg hne), if_pos rfl, if_pos rfl]
theorem Ech.free {n : Nat} (E : Ech h f0 piv f k) (hk : k <= n) (hend : k = n \/ piv.length = h) (hn : piv.length < n) (x : Nat -> Rat) (hs : Sol f0 h n x) : ∃ y, Sol f0 h n y /\ ∃ c, c < n /\ y c ≠ x c := by
 classical
 obtain ⟨c0, hc0, hnp⟩ : ∃ c, c < n /\ ∀ j, j < piv.length -> piv.getD j 0 ≠ c := by
  refine Classical.byContradiction fun hno => ?_
  have hall : ∀ c, c < n -> ∃ j, j < piv.length /\ piv.getD j 0 = c := fun c hc => Classical.byContradiction fun hne => hno ⟨c, hc, fun j hj e => hne ⟨j, hj, e⟩⟩
  obtain ⟨i, j, hij, hj, he⟩ := zkj piv.length n (fun c => if hc : c < n then (hall c hc).choose else 0) hn (fun c hc => by
   rw [dif_pos hc]; exact (hall c hc).choose_spec.1)
  simp only [dif_pos hj, dif_pos (show i < n by omega)] at he
  have h1 := (hall i (by omega)).choose_spec.2
  have h2 := (hall j hj).choose_spec.2
  rw [he] at h1
  omega
 let d : Nat -> Rat := fun c => if c = c0 then 1 else if hc : ∃ j, j < piv.length /\ piv.getD j 0 = c then - f hc.choose c0 else 0
 have dc0 : d c0 = 1 := by simp [d]
 have dp : ∀ j, j < piv.length -> d (piv.getD j 0) = - f j c0 := fun j hj => by
  have hc : ∃ j', j' < piv.length /\ piv.getD j' 0 = piv.getD j 0 := ⟨j, hj, rfl⟩
  have e : hc.choose = j := by
   have h1 := hc.choose_spec
   have h2 := E.inc hc.choose j
   have h3 := E.inc j hc.choose
   rcases Nat.lt_trichotomy hc.choose j with h | h | h
   ·have := h2 h hj; omega
   ·exact h
   ·have := h3 h h1.1; omega
  show (if piv.getD j 0 = c0 then (1 : Rat) else if hc : ∃ j', j' < piv.length /\ piv.getD j' 0 = piv.getD j 0 then - f hc.choose c0 else 0) = _
  rw [if_neg (hnp j hj), dif_pos hc, e]
 have hrow : ∀ i, i < h -> sr (fun c => f i c * d c) n = 0 := fun i hi => by
  by_cases c : i < piv.length
  ·have hpl := E.lt i c
   rw [zoa (a := c0) (b := piv.getD i 0) hc0 (by omega) (fun e => hnp i c e.symm) fun c' hc' h1 h2 => ?_]
   ·rw [dc0, dp i c, E.unit i i c hi, if_pos rfl]; grind
   ·by_cases hc2 : ∃ j, j < piv.length /\ piv.getD j 0 = c'
    ·obtain ⟨j, hj, rfl⟩ := hc2
     rw [E.unit j i hj hi, if_neg (fun e => h2 (by rw [e]))]; grind
    ·have : d c' = 0 := by
      show (if c' = c0 then (1 : Rat) else if hc : ∃ j, j < piv.length /\ piv.getD j 0 = c' then - f hc.choose c0 else 0) = 0
      rw [if_neg h1, dif_neg hc2]
     rw [this]; grind
  ·exact z5v fun c' hc' => by rw [E.low i c' (by omega) hi (by have := E.rh; omega)]; grind
 refine ⟨fun c => x c + d c, (E.sol n _).1 fun i hi => ?_, c0, hc0, ?_⟩
 ·have h1 := (E.sol n x).2 hs i hi
  have h2 := hrow i hi
  have e : sr (fun c => f i c * (x c + d c)) n = sr (fun c => f i c * x c) n + sr (fun c => f i c * d c) n := by
   rw [<- zkl]; exact z3g fun c _ => by grind
  rw [e, h1, h2]; grind
 ·show x c0 + d c0 ≠ x c0
  rw [dc0]; intro e
  have : (1 : Rat) = 0 := by grind
  exact absurd this (by decide)
end
end Go.Am
/- Plain: determinants by the first row: rows that change places, rows taken from rows, triangles, sizes; eliminations that keep them. -/
namespace Go.Am
open Go
def skp (k c : Nat) : Nat := if c < k then c else c + 1
def sg (k : Nat) : Rat := if k % 2 = 1 then -1 else 1
def dt : Nat -> (Nat -> Nat -> Rat) -> Rat
 | 0, _ => 1
 | n + 1, f => sr (fun k => sg k * f 0 k * dt n (fun r c => f (r + 1) (skp k c))) (n + 1)
theorem zob {k c n : Nat} (h : c < n) : skp k c < n + 1 := by unfold skp; split <;> omega
theorem zce : ∀ {n : Nat} {f g : Nat -> Nat -> Rat}, (∀ i c, i < n -> c < n -> f i c = g i c) -> dt n f = dt n g
 | 0, _, _, _ => rfl
 | n + 1, f, g, h => by
  rw [dt, dt]
  refine z3g fun k hk => ?_
  rw [h 0 k (by omega) hk, zce (n := n) (fun r c hr hc => h (r + 1) (skp k c) (by omega) (zob hc))]
theorem zkn (a : Rat) (f : Nat -> Rat) : ∀ n, sr (fun i => a * f i) n = a * sr f n
 | 0 => by simp only [sr]; grind
 | n + 1 => by simp only [sr]; rw [zkn a f n]; grind
theorem zm9 (f : Nat -> Rat) : ∀ n, sr (fun i => - f i) n = - sr f n
 | 0 => by simp only [sr]; grind
 | n + 1 => by simp only [sr]; rw [zm9 f n]; grind
def z2y (f : Nat -> Nat -> Rat) (i : Nat) (v : Nat -> Rat) : Nat -> Nat -> Rat := fun r => if r = i then v else f r
theorem ze2 : ∀ {n i : Nat} (f : Nat -> Nat -> Rat) (u v : Nat -> Rat) (a : Rat), i < n -> dt n (z2y f i (fun c => u c - a * v c)) = dt n (z2y f i u) - a * dt n (z2y f i v)
 | 0, i, _, _, _, _, h => absurd h (Nat.not_lt_zero _)
 | n + 1, 0, f, u, v, a, _ => by
  have e : ∀ w k, (fun r c => z2y f 0 w (r + 1) (skp k c)) = fun r c => f (r + 1) (skp k c) := fun w k => by funext r c; simp [z2y]
  have e0 : ∀ w, z2y f 0 w 0 = w := fun w => by simp [z2y]
  rw [dt, dt, dt, <- z7j]
  refine z3g fun k hk => ?_
  rw [e, e, e, e0, e0, e0]; grind
 | n + 1, i + 1, f, u, v, a, h => by
  have e : ∀ w k, (fun r c => z2y f (i + 1) w (r + 1) (skp k c)) = z2y (fun r c => f (r + 1) (skp k c)) i (fun c => w (skp k c)) := fun w k => by funext r c; by_cases hr : r = i <;> simp [z2y, hr]
  have e0 : ∀ w, z2y f (i + 1) w 0 = f 0 := fun w => by simp [z2y]
  rw [dt, dt, dt, <- z7j]
  refine z3g fun k hk => ?_
  rw [e, e, e, e0, e0, e0, ze2 (fun r c => f (r + 1) (skp k c)) (fun c => u (skp k c)) (fun c => v (skp k c)) a (by omega)]
  grind
theorem zij (f : Nat -> Nat -> Rat) (m : Nat) : ∀ n, sr (fun i => sr (fun j => f i j) m) n = sr (fun j => sr (fun i => f i j) n) m
 | 0 => by simp only [sr]; exact (z5v fun _ _ => rfl).symm
 | n + 1 => by simp only [sr]; rw [zij f m n, zkl]
theorem zoc (g : Nat -> Rat) (k : Nat) : ∀ n, k <= n -> sr (fun l => g (skp k l)) n = sr (fun j => if j = k then 0 else g j) (n + 1)
 | 0, h => by
  have : k = 0 := by omega
  subst this
  simp only [sr, if_pos]; grind
 | n + 1, h => by
  by_cases hk : k = n + 1
  ·subst hk
   have e : sr (fun l => g (skp (n + 1) l)) (n + 1) = sr (fun j => if j = n + 1 then 0 else g j) (n + 1) := z3g fun l hl => by rw [if_neg (by omega)]; unfold skp; rw [if_pos hl]
   rw [e]
   conv => rhs; rw [sr]
   rw [if_pos rfl]; grind
  ·have h1 := zoc g k n (by omega)
   rw [sr, sr, <- h1, if_neg (fun e => hk e.symm)]
   have : skp k n = n + 1 := by unfold skp; rw [if_neg (by omega)]
   rw [this]
def sk2 (k j c : Nat) : Nat := if c < min k j then c else if c + 1 < max k j then c + 1 else c + 2
theorem skp2 (k l c : Nat) : skp k (skp l c) = sk2 k (skp k l) c := by
 unfold sk2 skp
 repeat' split
 all_goals omega
theorem zod (k : Nat) : sg (k + 1) = - sg k := by
 unfold sg
 by_cases h : k % 2 = 1
 ·rw [if_pos h, if_neg (by omega)]; grind
 ·rw [if_neg h, if_pos (by omega)]
theorem zoe {n : Nat} {f : Nat -> Nat -> Rat} (h : f 0 = f 1) : dt (n + 2) f = 0 := by
 have e : dt (n + 2) f = sr (fun k => sr (fun j => sg k * f 0 k * (if j = k then 0 else (if j < k then sg j else - sg j) * f 0 j * dt n (fun r c => f (r + 2) (sk2 k j c)))) (n + 2)) (n + 2) := by
  rw [dt]
  refine z3g fun k hk => ?_
  rw [zkn, dt]
  congr 1
  rw [<- zoc (fun j => (if j < k then sg j else - sg j) * f 0 j * dt n (fun r c => f (r + 2) (sk2 k j c))) k (n + 1) (by omega)]
  refine z3g fun l hl => ?_
  have e1 : (fun r c => f (r + 1 + 1) (skp k (skp l c))) = fun r c => f (r + 2) (sk2 k (skp k l) c) := by funext r c; rw [skp2]
  rw [e1, h]
  congr 2
  unfold skp
  by_cases c : l < k
  ·rw [if_pos c, if_pos c]
  ·rw [if_neg c, if_neg (by omega), zod]; grind
 have t : dt (n + 2) f = - dt (n + 2) f := by
  conv => lhs; rw [e, zij]
  rw [e, <- zm9]
  refine z3g fun k hk => ?_
  rw [<- zm9]
  refine z3g fun j hj => ?_
  have es : (fun r c => f (r + 2) (sk2 j k c)) = fun r c => f (r + 2) (sk2 k j c) := by funext r c; unfold sk2; rw [Nat.min_comm, Nat.max_comm]
  rw [es]
  rcases Nat.lt_trichotomy j k with c | c | c
  ·have h1 : ¬ k = j := by omega
   have h2 : ¬ j = k := by omega
   have h3 : ¬ k < j := by omega
   simp only [if_neg h1, if_neg h2, if_neg h3, if_pos c]; grind
  ·subst c; simp only [if_pos]; grind
  ·have h1 : ¬ k = j := by omega
   have h2 : ¬ j = k := by omega
   have h3 : ¬ j < k := by omega
   simp only [if_neg h1, if_neg h2, if_neg h3, if_pos c]; grind
 grind
theorem zma : ∀ {n i : Nat} {f : Nat -> Nat -> Rat}, i + 1 < n -> f i = f (i + 1) -> dt n f = 0
 | 0, i, _, h, _ => absurd h (Nat.not_lt_zero _)
 | 1, i, _, h, _ => by omega
 | n + 2, 0, f, _, h => zoe h
 | n + 2, i + 1, f, hi, h => by
  rw [dt]
  refine z5v fun k hk => ?_
  rw [zma (n := n + 1) (i := i) (by omega) (by funext c; show f (i + 1) (skp k c) = f (i + 1 + 1) (skp k c); rw [h])]; grind
theorem z7s (f : Nat -> Nat -> Rat) (i : Nat) : z2y f i (f i) = f := by funext r; by_cases h : r = i <;> simp [z2y, h]
theorem zdd {n a b : Nat} (hab : a ≠ b) (ha : a < n) (hb : b < n) (hz : ∀ g : Nat -> Nat -> Rat, g a = g b -> dt n g = 0) (f : Nat -> Nat -> Rat) : dt n (swp f a b) = - dt n f := by
 have hba : b ≠ a := fun e => hab e.symm
 have comm : ∀ u v, z2y (z2y f a u) b v = z2y (z2y f b v) a u := fun u v => by
  funext r
  by_cases h1 : r = a <;> by_cases h2 : r = b <;> simp [z2y, h1, h2, hab, hba]
 have z : ∀ u, dt n (z2y (z2y f a u) b u) = 0 := fun u => hz _ (by simp [z2y, hab])
 have z3 := z (fun c => f a c - 1 * f b c)
 rw [ze2 _ (f a) (f b) 1 hb, comm, comm, ze2 _ (f a) (f b) 1 ha, ze2 _ (f a) (f b) 1 ha, <- comm, <- comm, <- comm, <- comm, z, z] at z3
 have e1 : z2y (z2y f a (f a)) b (f b) = f := by rw [z7s, z7s]
 have e2 : z2y (z2y f a (f b)) b (f a) = swp f a b := by
  funext r
  by_cases h1 : r = a
  ·subst h1; simp [z2y, swp, hab]
  ·by_cases h2 : r = b <;> simp [z2y, swp, h1, h2, hba]
 rw [e1, e2] at z3
 grind
theorem zmb : ∀ (d : Nat) {n a : Nat} {f : Nat -> Nat -> Rat}, a + d + 1 < n -> f a = f (a + d + 1) -> dt n f = 0
 | 0, n, a, f, h, e => zma h e
 | d + 1, n, a, f, h, e => by
  have h1 := zdd (n := n) (a := a + d + 1) (b := a + d + 2) (by omega) (by omega) (by omega) (fun g hg => zma (i := a + d + 1) (by omega) hg) f
  have h2 : dt n (swp f (a + d + 1) (a + d + 2)) = 0 := zmb (a := a) d (by omega) (by rw [zg0 (by omega) (by omega), zmq]; exact e)
  rw [h2] at h1; grind
theorem zfc {n a b : Nat} {f : Nat -> Nat -> Rat} (hab : a ≠ b) (ha : a < n) (hb : b < n) (h : f a = f b) : dt n f = 0 := by
 rcases Nat.lt_or_gt_of_ne hab with c | c
 ·obtain ⟨d, rfl⟩ : ∃ d, b = a + d + 1 := ⟨b - a - 1, by omega⟩
  exact zmb d hb h
 ·obtain ⟨d, rfl⟩ : ∃ d, a = b + d + 1 := ⟨a - b - 1, by omega⟩
  exact zmb d ha h.symm
theorem zof {n a b : Nat} (hab : a ≠ b) (ha : a < n) (hb : b < n) (f : Nat -> Nat -> Rat) : dt n (swp f a b) = - dt n f :=
 zdd hab ha hb (fun g hg => zfc hab ha hb hg) f
theorem zpp {n r k : Nat} (hrk : r ≠ k) (hr : r < n) (hk : k < n) (f : Nat -> Nat -> Rat) (a : Rat) : dt n (z2y f r (fun c => f r c - a * f k c)) = dt n f := by
 rw [ze2 f (f r) (f k) a hr, z7s, zfc hrk hr hk (f := z2y f r (f k)) (by simp [z2y, fun e : k = r => hrk e.symm])]; grind
theorem zog (f : Nat -> Nat -> Rat) (a : Nat -> Rat) (k m : Nat) : dt m (fun i => if k < i then (fun c => f i c - a i * f k c) else f i) = dt m f := by
 have key : ∀ p, p <= m -> dt m (fun i => if k < i /\ i < p then (fun c => f i c - a i * f k c) else f i) = dt m f := by
  intro p
  induction p with
  | zero => intro _; congr 1; funext i; rw [if_neg (by omega)]
  | succ p ih =>
   intro hp
   by_cases c : k < p
   ·rw [<- ih (by omega), <- zpp (n := m) (r := p) (k := k) (by omega) (by omega) (by omega) (fun i => if k < i /\ i < p then (fun c => f i c - a i * f k c) else f i) (a p)]
    congr 1
    funext i
    unfold z2y
    by_cases e : i = p
    ·subst e
     have h1 : k < i /\ i < i + 1 := by omega
     have h2 : ¬ (k < i /\ i < i) := by omega
     have h3 : ¬ (k < k /\ k < i + 1) := by omega
     have h4 : ¬ (k < k /\ k < i) := by omega
     simp only [if_pos h1, if_neg h2, if_neg h3, if_neg h4, if_true]
    ·by_cases c2 : k < i /\ i < p
     ·have h1 : k < i /\ i < p + 1 := by omega
      simp only [if_pos h1, if_neg e, if_pos c2]
     ·have h1 : ¬ (k < i /\ i < p + 1) := by omega
      simp only [if_neg h1, if_neg e, if_neg c2]
   ·rw [<- ih (by omega)]
    congr 1
    funext i
    by_cases c2 : k < i /\ i < p
    ·rw [if_pos (by omega), if_pos c2]
    ·rw [if_neg (by omega), if_neg c2]
 rw [<- key m (Nat.le_refl _)]
 refine zce fun i c hi _ => ?_
 by_cases h : k < i
 ·rw [if_pos h, if_pos (by omega)]
 ·rw [if_neg h, if_neg (by omega)]
theorem zik : ∀ {n : Nat} {f : Nat -> Nat -> Rat}, 0 < n -> (∀ i, i < n -> f i 0 = 0) -> dt n f = 0
 | 0, _, h, _ => absurd h (Nat.not_lt_zero _)
 | n + 1, f, _, h => by
  rw [dt]
  refine z5v fun k hk => ?_
  by_cases c : k = 0
  ·subst c; rw [h 0 (by omega)]; grind
  ·rw [zik (n := n) (by omega) fun i hi => by unfold skp; rw [if_pos (by omega)]; exact h _ (by omega)]; grind
theorem zl8 {n : Nat} {f : Nat -> Nat -> Rat} (h : ∀ i, 0 < i -> i < n + 1 -> f i 0 = 0) : dt (n + 1) f = f 0 0 * dt n (fun r c => f (r + 1) (c + 1)) := by
 rw [dt, z58 (j := 0) (by omega) fun k hk hne => ?_]
 ·have e : (fun r c => f (r + 1) (skp 0 c)) = fun r c => f (r + 1) (c + 1) := by funext r c; simp [skp]
  have e2 : sg 0 = 1 := by simp [sg]
  rw [e, e2]; grind
 ·rw [zik (n := n) (by omega) fun i hi => by unfold skp; rw [if_pos (by omega)]; exact h _ (by omega) (by omega)]; grind
theorem zl9 : ∀ {k n : Nat} {f : Nat -> Nat -> Rat}, k < n -> (∀ i c, c < k -> c < i -> i < n -> f i c = 0) -> (∀ i, k <= i -> i < n -> f i k = 0) -> dt n f = 0
 | 0, n, f, h, _, hz => zik h fun i hi => hz i (by omega) hi
 | k + 1, 0, f, h, _, _ => absurd h (Nat.not_lt_zero _)
 | k + 1, n + 1, f, h, hl, hz => by
  rw [zl8 fun i h0 hi => hl i 0 (by omega) h0 hi, zl9 (k := k) (n := n) (f := fun r c => f (r + 1) (c + 1)) (by omega) (fun i c h1 h2 h3 => hl _ _ (by omega) (by omega) (by omega)) (fun i h1 h2 => hz _ (by omega) (by omega))]; grind
def pr (d : Nat -> Rat) : Nat -> Rat
 | 0 => 1
 | n + 1 => pr d n * d n
theorem zil {d e : Nat -> Rat} : ∀ {n : Nat}, (∀ i, i < n -> d i = e i) -> pr d n = pr e n
 | 0, _ => rfl
 | n + 1, h => by rw [pr, pr, zil fun i hi => h i (by omega), h n (by omega)]
theorem zla (d : Nat -> Rat) : ∀ n, pr d (n + 1) = d 0 * pr (fun i => d (i + 1)) n
 | 0 => by simp only [pr]; grind
 | n + 1 => by
  have h := zla d n
  have e : pr (fun i => d (i + 1)) (n + 1) = pr (fun i => d (i + 1)) n * d (n + 1) := rfl
  rw [pr, h, e]; grind
theorem zoh : ∀ {n : Nat} {f : Nat -> Nat -> Rat}, (∀ i c, c < i -> i < n -> f i c = 0) -> dt n f = pr (fun i => f i i) n
 | 0, _, _ => rfl
 | n + 1, f, h => by
  rw [zl8 fun i h0 hi => h i 0 h0 hi, zla, zoh fun i c h1 h2 => h _ _ (by omega) (by omega)]
def gel (g : Nat -> Nat -> Rat) (k : Nat) : Nat -> Nat -> Rat := fun i => if k < i then (fun c => g i c - g i k / g k k * g k c) else g i
def tau (a b i : Nat) : Nat := if i = a then b else if i = b then a else i
theorem zim {α : Type} (f : Nat -> α) (a b : Nat) : swp f a b = fun i => f (tau a b i) := by
 funext i
 unfold swp tau
 split
 ·rfl
 ·split <;> rfl
structure Gs (n : Nat) (f0 : Nat -> Nat -> Rat) (k : Nat) (g : Nat -> Nat -> Rat) (d : Rat) (N : Nat) : Prop where
 ech : ∃ fJ piv, piv.length = k /\ Ech n f0 piv fJ k /\ ∀ i c, k <= i -> i < n -> g i c = fJ i c
 top : ∀ i c, i < k -> c < n -> Dl (g i c) N
 tri : ∀ i c, c < k -> c < i -> i < n -> g i c = 0
 perm : ∃ F s, (∀ i, i < n -> ∃ i', i' < n /\ F i = f0 i') /\ (∀ σ : Nat -> Nat, (∀ j, j < k -> σ j = j) -> (∀ j, k <= j -> k <= σ j) -> ∀ m, dt m (fun i => g (σ i)) = dt m (fun i => F (σ i))) /\ (s = 1 \/ s = -1) /\ dt n f0 = s * dt n F /\ d = s * pr (fun i => g i i) k
section
variable {n k i0 N R M : Nat} {f0 g : Nat -> Nat -> Rat} {d : Rat}
theorem Gs.start (n : Nat) (f : Nat -> Nat -> Rat) (N : Nat) : Gs n f 0 f 1 N :=
 ⟨⟨f, [], rfl, .start n f, fun _ _ _ _ => rfl⟩, fun i c h => by omega, fun i c h => by omega, f, 1, fun i hi => ⟨i, hi, rfl⟩, fun _ _ _ _ => rfl, .inl rfl, by grind, by simp only [pr]; grind⟩
theorem Gs.dl (G : Gs n f0 k g d N) (hd : ∀ i c, i < n -> c < n -> Dl (f0 i c) M) (hk : k <= n) (hn : n + 1 <= R) (hR : R <= 100) (hN : R * (M * (n + 1) + 2) + 1 <= N) : ∀ i c, i < n -> c < n -> Dl (g i c) N := by
 obtain ⟨fJ, piv, p1, p2, p3⟩ := G.ech
 intro i c hi hc
 by_cases h : i < k
 ·exact G.top i c h hc
 ·rw [p3 i c (by omega) hi]
  exact (p2.dl hd hk (by omega) hR i c hi hc).mono hN
theorem Gs.lead (G : Gs n f0 k g d N) (hk : k <= n) : ∃ F s, (∀ i, i < n -> ∃ i', i' < n /\ F i = f0 i') /\ (s = 1 \/ s = -1) /\ dt n f0 = s * dt n F /\ d = s * dt k F /\ dt n g = dt n F := by
 obtain ⟨F, s, h1, h2, h3, h4, h5⟩ := G.perm
 refine ⟨F, s, h1, h3, h4, ?_, h2 (fun i => i) (fun _ _ => rfl) (fun _ h => h) n⟩
 rw [<- h2 (fun i => i) (fun _ _ => rfl) (fun _ h => h) k, zoh fun i c h6 h7 => G.tri i c (by omega) h6 (by omega)]
 exact h5
theorem Gs.zero (G : Gs n f0 k g d N) (hk : k < n) (hz : ∀ i, k <= i -> i < n -> g i k = 0) : dt n f0 = 0 := by
 obtain ⟨F, s, h1, h2, h3, h4, h5⟩ := G.lead (by omega)
 rw [h3, <- h5, zl9 hk G.tri hz]; grind
theorem Gs.fin (G : Gs n f0 n g d N) : d = dt n f0 := by
 obtain ⟨F, s, h1, h2, h3, h4, h5⟩ := G.lead (Nat.le_refl _)
 rw [h3, h4]
theorem zoi {k i0 j : Nat} (h : k <= i0) (hj : k <= j) : k <= tau k i0 j := by
 unfold tau
 split
 ·exact h
 ·split <;> omega
theorem Gs.step (G : Gs n f0 k g d N) (hd : ∀ c, c < n -> Dl (g i0 c) N) (h1 : k <= i0) (h2 : i0 < n) (hne : g i0 k ≠ 0) : Gs n f0 (k + 1) (gel (swp g k i0) k) ((if i0 ≠ k then -d else d) * g i0 k) N := by
 obtain ⟨⟨fJ, piv, p1, p2, p3⟩, G2, G3, F, s, q1, q2, q3, q4, q5⟩ := G
 have sk : swp g k i0 k = g i0 := zmq
 have slt : ∀ i, i < k -> swp g k i0 i = g i := fun i hi => zg0 (by omega) (by omega)
 have glt : ∀ i, i < k -> gel (swp g k i0) k i = g i := fun i hi => by unfold gel; rw [if_neg (by omega), slt i hi]
 have gk : gel (swp g k i0) k k = g i0 := by unfold gel; rw [if_neg (by omega), sk]
 have ggt : ∀ i, k < i -> gel (swp g k i0) k i = fun c => swp g k i0 i c - swp g k i0 i k / g i0 k * g i0 c := fun i hi => by unfold gel; rw [if_pos hi, sk]
 have srow : ∀ i, k <= i -> i < n -> ∃ i', k <= i' /\ i' < n /\ swp g k i0 i = g i' /\ swp fJ k i0 i = fJ i' := fun i hi hh => zig h1 h2 g fJ hi hh
 refine ⟨⟨clr (swp fJ k i0) k k, piv ++ [k], by simp [p1], ?_, fun i c hi hh => ?_⟩, fun i c hi hc => ?_, fun i c hc hi hh => ?_, ?_⟩
 ·have := p2.step (i0 := i0) (by omega) h2 (by rw [<- p3 i0 k h1 h2]; exact hne)
  rw [p1] at this; exact this
 ·obtain ⟨i', r1, r2, r3, r4⟩ := srow i (by omega) hh
  rw [ggt i (by omega), zap (by omega), r3, r4, zmq]
  show g i' c - g i' k / g i0 k * g i0 c = fJ i' c - fJ i' k * (fJ i0 c / fJ i0 k)
  rw [p3 i' c r1 r2, p3 i' k r1 r2, p3 i0 k h1 h2, p3 i0 c h1 h2, Rat.div_def, Rat.div_def]; grind
 ·by_cases e : i = k
  ·subst e; rw [gk]; exact hd c hc
  ·rw [glt i (by omega)]; exact G2 i c (by omega) hc
 ·by_cases e : i <= k
  ·by_cases e2 : i = k
   ·subst e2; rw [gk]; exact G3 i0 c hi (by omega) h2
   ·rw [glt i (by omega)]; exact G3 i c (by omega) hi hh
  ·obtain ⟨i', r1, r2, r3, _⟩ := srow i (by omega) hh
   rw [ggt i (by omega), r3]
   show g i' c - g i' k / g i0 k * g i0 c = 0
   by_cases e3 : c = k
   ·subst e3
    rw [Rat.div_def]
    have := Rat.inv_mul_cancel _ hne
    have e4 : g i' c * (g i0 c)⁻¹ * g i0 c = g i' c := by rw [Rat.mul_assoc, this, Rat.mul_one]
    rw [e4]; grind
   ·rw [G3 i' c (by omega) (by omega) r2, G3 i0 c (by omega) (by omega) h2]; grind
 ·refine ⟨swp F k i0, if i0 ≠ k then -s else s, fun i hh => ?_, fun σ s1 s2 m => ?_, ?_, ?_, ?_⟩
  ·unfold swp
   split
   ·exact q1 i0 h2
   ·split
    ·exact q1 k (by omega)
    ·exact q1 i hh
  ·have e1 : dt m (fun i => gel (swp g k i0) k (σ i)) = dt m (fun i => swp g k i0 (σ i)) := by
    rw [<- zog (fun i => swp g k i0 (σ i)) (fun i => swp g k i0 (σ i) k / g i0 k) k m]
    congr 1
    funext i
    rw [s1 k (by omega), sk]
    by_cases c : k < i
    ·rw [if_pos c, ggt _ (s2 i (by omega))]
    ·rw [if_neg c, s1 i (by omega)]
     by_cases e : i = k
     ·rw [e, gk, sk]
     ·rw [glt i (by omega), slt i (by omega)]
   rw [e1, zim, zim]
   refine q2 (fun i => tau k i0 (σ i)) (fun j hj => ?_) (fun j hj => ?_) m
   ·rw [s1 j (by omega)]; unfold tau; rw [if_neg (by omega), if_neg (by omega)]
   ·by_cases e : j = k
    ·rw [e, s1 k (by omega)]; exact zoi h1 (Nat.le_refl _)
    ·have := s2 j (by omega)
     exact zoi h1 (by omega)
  ·by_cases e : i0 ≠ k
   ·rw [if_pos e]
    rcases q3 with rfl | rfl
    ·right; rfl
    ·left; grind
   ·rw [if_neg e]; exact q3
  ·rw [q4]
   by_cases e : i0 ≠ k
   ·rw [if_pos e, zof (fun h => e h.symm) (by omega) h2]; grind
   ·have : i0 = k := by omega
    subst this
    rw [if_neg e]
    congr 2
    funext i
    unfold swp
    split
    ·rename_i h; rw [h]
    ·rfl
  ·rw [pr, gk, zil (e := fun i => g i i) fun i hi => by rw [glt i hi], q5]
   by_cases e : i0 ≠ k
   ·rw [if_pos e, if_pos e]; grind
   ·rw [if_neg e, if_neg e]; grind
end
end Go.Am
/- Plain law: eliminations of rows of numbers: one row's loop, clear, the search for a row. -/
namespace Go.Am.Tryz
open Go Go.Am Go.Proofs
variable {K : Nat}
theorem Fam.set {α : Type} {P : Nat -> α -> Prop} {n j : Nat} {l : List α} {y : α} (h : Fam (fun i x => i ≠ j -> P i x) n l) (hy : P j y) : Fam P n (l.set j y) := by
 refine ⟨by simp [h.1], fun i hi => ?_⟩
 simp only [List.length_set] at hi
 rw [List.getElem_set]
 by_cases c : j = i
 ·subst c; rw [if_pos rfl]; exact hy
 ·rw [if_neg c]; exact h.2 i hi (fun e => c e.symm)
theorem MQ.congr {f g : Nat -> Nat -> Rat} {h w : Nat} {x : List (List Q)} (hx : MQ f h w x) (e : ∀ i c, i < h -> c < w -> f i c = g i c) : MQ g h w x :=
 Fam.mono hx fun i row hi hr => Fam.mono hr fun c q hc hq => by rw [<- e i c hi hc]; exact hq
def rmix (f : Nat -> Nat -> Rat) (G : Nat -> Rat) (i c0 j a b : Nat) : Rat := if a = i /\ c0 <= b /\ b < j then G b else f a b
theorem zlb {f : Nat -> Nat -> Rat} {G : Nat -> Rat} {h w i c0 : Nat} {x : List (List Q)} (hx : MQ f h w x) (hi : i < h) (hc0 : c0 <= w) (hw : w <= 1048576) (hK : 2000000000 < K) (L : Nat -> List (List Q) -> Int -> Option (List (List Q)))
  (e : ∀ k acc, acc.length = h -> L (k + 1) acc (w : Int) = some acc)
  (s : ∀ k acc (c : Nat) row q, c0 <= c -> c < w -> MQ (rmix f G i c0 c) h w acc -> idx acc (i : Int) = some row -> idx row (c : Int) = some q -> QV q (f i c) -> ∃ q', QV q' (G c) /\ L (k + 1) acc (c : Int) = L k (acc.set i (row.set c q')) ((c + 1 : Nat) : Int)) :
  ∃ t, L K x (c0 : Int) = some t /\ MQ (rmix f G i c0 w) h w t := by
 refine z87 (fun k (s : List (List Q) × Int) => L k s.1 s.2) (fun s => ∃ j : Nat, s.2 = j /\ c0 <= j /\ j <= w /\ MQ (rmix f G i c0 j) h w s.1) (fun s => (w - s.2 : Int).toNat) _ ?_ ((x, (c0 : Int)) : List (List Q) × Int) (by dsimp only; omega) ⟨c0, rfl, Nat.le_refl _, hc0, hx.congr fun a b _ _ => by unfold rmix; rw [if_neg (by omega)]⟩
 rintro k ⟨o, _⟩ ⟨j, rfl, h0, h1, h2⟩
 dsimp only at h2 ⊢
 by_cases hj : j < w
 ·right
  obtain ⟨row, r1, r2⟩ := h2.idx hi
  obtain ⟨q, q1, q2⟩ := Fam.idx r2 hj
  have hq : QV q (f i j) := by
   have : rmix f G i c0 j i j = f i j := by unfold rmix; rw [if_neg (by omega)]
   rwa [this] at q2
  obtain ⟨q', q3, q4⟩ := s k o j row q h0 hj h2 r1 q1 hq
  refine ⟨(o.set i (row.set j q'), ((j + 1 : Nat) : Int)), q4, by dsimp only; omega, j + 1, rfl, by omega, by omega, ?_⟩
  have mc : ∀ r c, (r ≠ i \/ c ≠ j) -> rmix f G i c0 (j + 1) r c = rmix f G i c0 j r c := fun r c hne => by
   unfold rmix
   by_cases k : r = i /\ c0 <= c /\ c < j
   ·rw [if_pos k, if_pos (by omega)]
   ·rw [if_neg k, if_neg (by omega)]
  refine Fam.set (j := i) (h2.mono fun r y hr hy hne => ?_) ?_
  ·exact Fam.mono hy fun c q hc hq => by rw [mc r c (.inl hne)]; exact hq
  ·refine Fam.set (j := j) (Fam.mono r2 fun c q hc hq hne => ?_) ?_
   ·rw [mc i c (.inr hne)]; exact hq
   ·have : rmix f G i c0 (j + 1) i j = G j := by unfold rmix; rw [if_pos (by omega)]
    rw [this]; exact q3
 ·left
  have : j = w := by omega
  subst this
  exact ⟨o, e k o h2.1, h2⟩
theorem MQ.at {f : Nat -> Nat -> Rat} {h w i c : Nat} {x : List (List Q)} (hx : MQ f h w x) (hi : i < h) (hc : c < w) : ∃ row q, idx x (i : Int) = some row /\ row.length = w /\ idx row (c : Int) = some q /\ QV q (f i c) := by
 obtain ⟨row, r1, r2⟩ := hx.idx hi
 obtain ⟨q, q1, q2⟩ := Fam.idx r2 hc
 exact ⟨row, q, r1, r2.1, q1, q2⟩
theorem zq5 {q : Q} {x : Rat} (h : QV q x) : ∃ s : Int, z37 K q = some s /\ (s = 0 ↔ x = 0) := by
 refine ⟨_, zm4 h, ?_⟩
 by_cases c : x = 0
 ·simp [c]
 ·rw [if_neg c]; split <;> simp [c]
theorem zmc {f : Nat -> Nat -> Rat} {h w r k N : Nat} {x : List (List Q)} (hx : MQ f h w x) (hr : r < h) (hk : k < w) (hh : h <= 40) (hw : w <= 1048576) (hN : 2 * N <= 7000000) (df : ∀ i c, i < h -> c < w -> Dl (f i c) N) (dq : ∀ c, c < w -> Dl (f r c / f r k) N) (hK : 2000000000 < K) :
  ∃ t, z4u K x (r : Int) (k : Int) = some t /\ MQ (clr f r k) h w t := by
 obtain ⟨row, by', r1, r2, r3, r4⟩ := hx.at hr hk
 obtain ⟨t, t1, t2⟩ := zlb (K := K) (G := fun c => f r c / f r k) hx hr (Nat.zero_le w) (by omega) hK (z1k K (r : Int) by' row)
  (fun k acc _ => by rw [z1k, r2, if_neg (by simp)])
  (fun k' acc c row' q _ hc ha i1 i2 hq => by
   obtain ⟨p, p1, p2⟩ := zny (K := K) hq r4 (df r c hr hc) (df r k hr hk) (by omega) hK
   exact ⟨p, p2, by rw [z1k, r2, if_pos (lt_d hc)]; simp only [i1, i2, p1, z0e, Int.toNat_natCast, k1 (show c <= 1048576 by omega)]⟩)
 have t3 : MQ (fun i c => if i = r then f r c / f r k else f i c) h w t := t2.congr fun i c _ hc => by
  unfold rmix
  by_cases e : i = r
  ·rw [if_pos (by omega), if_pos e]
  ·rw [if_neg (by omega), if_neg e]
 have htl := t3.1
 have key : ∃ u : List (List Q), z0x K (r : Int) (k : Int) t K t 0 = some u /\ MQ (clr f r k) h w u := by
  refine z87 (fun n (s : List (List Q) × Int) => z0x K (r : Int) (k : Int) t n s.1 s.2) (fun s => ∃ i : Nat, s.2 = i /\ i <= h /\ MQ (fun a c => if a < i \/ a = r then clr f r k a c else f a c) h w s.1) (fun s => (h - s.2 : Int).toNat) _ ?_ ((t, 0) : List (List Q) × Int) (by dsimp only; omega) ⟨0, rfl, by omega, t3.congr fun a c _ _ => by
   by_cases e : a = r
   ·subst e; rw [if_pos rfl, if_pos (by omega)]; simp [clr]
   ·rw [if_neg e, if_neg (by omega)]⟩
  rintro n ⟨o, _⟩ ⟨i, rfl, h1, h2⟩
  dsimp only at h2 ⊢
  by_cases hi : i < h
  ·right
   obtain ⟨rw1, q, i1, i2, i3, i4⟩ := h2.at hi hk
   by_cases e : i = r
   ·refine ⟨(o, ((i + 1 : Nat) : Int)), ?_, by dsimp only; omega, i + 1, rfl, by omega, h2.congr fun a c _ _ => ?_⟩
    ·rw [z0x, htl, if_pos (lt_d hi)]
     have heq : ((i : Int) == (r : Int)) = true := by simp [e]
     simp only [i1, i3, z0e, heq, if_true, tu1a, k1 (show i <= 1048576 by omega)]
    ·by_cases c1 : a < i \/ a = r
     ·rw [if_pos c1, if_pos (by omega)]
     ·rw [if_neg c1, if_neg (by omega)]
   ·have hne : ((i : Int) == (r : Int)) = false := by simp; omega
    rw [if_neg (by omega)] at i4
    obtain ⟨s, s1, s2⟩ := zq5 (K := K) i4
    by_cases z : f i k = 0
    ·have hs : s = 0 := s2.2 z
     subst hs
     refine ⟨(o, ((i + 1 : Nat) : Int)), ?_, by dsimp only; omega, i + 1, rfl, by omega, h2.congr fun a c _ _ => ?_⟩
     ·rw [z0x, htl, if_pos (lt_d hi)]
      simp only [i1, i3, z0e, hne, s1, beq_self_eq_true, if_true, Bool.false_eq_true, if_false, tu1a, k1 (show i <= 1048576 by omega)]
     ·by_cases c1 : a < i \/ a = r
      ·rw [if_pos c1, if_pos (by omega)]
      ·rw [if_neg c1]
       by_cases c2 : a = i
       ·subst c2; rw [if_pos (by omega), zap e, z]; grind
       ·rw [if_neg (by omega)]
    ·have hs : (s == 0) = false := by simp; exact fun e => z (s2.1 e)
     obtain ⟨u, u1, u2⟩ := zlb (K := K) (G := fun c => f i c - f i k * (f r c / f r k)) h2 hi (Nat.zero_le w) (by omega) hK (z1l K (r : Int) (i : Int) q rw1)
      (fun k acc _ => by rw [z1l, i2, if_neg (by simp)])
      (fun k' acc c row' q' _ hc ha j1 j2 hq => by
       rw [if_neg (by omega)] at hq
       obtain ⟨rr, qr, a1, a2, a3, a4⟩ := ha.at hr hc
       have er : rmix (fun a c => if a < i \/ a = r then clr f r k a c else f a c) (fun c => f i c - f i k * (f r c / f r k)) i 0 c r c = f r c / f r k := by
        unfold rmix
        rw [if_neg (by omega)]
        dsimp only
        rw [if_pos (by omega)]
        simp [clr]
       rw [er] at a4
       obtain ⟨p, p1, p2⟩ := znx (K := K) i4 a4 (df i k hi hk) (dq c hc) (by omega) hK
       obtain ⟨m, m1, m2⟩ := znw (K := K) (N := 2 * N) hq p2 ((df i c hi hc).mono (by omega)) (((df i k hi hk).mul (dq c hc)).mono (by omega)) (by omega) hK
       exact ⟨m, m2, by rw [z1l, i2, if_pos (lt_d hc)]; simp only [j1, j2, a1, a3, p1, m1, z0e, Int.toNat_natCast, k1 (show c <= 1048576 by omega)]⟩)
     refine ⟨(u, ((i + 1 : Nat) : Int)), ?_, by dsimp only; omega, i + 1, rfl, by omega, u2.congr fun a c _ hc => ?_⟩
     ·have u1' : z1l K (r : Int) (i : Int) q rw1 K o 0 = some u := u1
      rw [z0x, htl, if_pos (lt_d hi)]
      simp only [i1, i3, z0e, hne, s1, hs, u1', Bool.false_eq_true, if_false, tu1a, k1 (show i <= 1048576 by omega)]
     ·unfold rmix
      by_cases c2 : a = i
      ·subst c2; rw [if_pos (by omega), if_pos (by omega), zap e]
      ·rw [if_neg (by omega)]
       dsimp only
       by_cases c1 : a < i \/ a = r
       ·rw [if_pos c1, if_pos (by omega)]
       ·rw [if_neg c1, if_neg (by omega)]
  ·left
   have : i = h := by omega
   subst this
   refine ⟨o, by rw [z0x, htl, if_neg (by simp)], h2.congr fun a c ha _ => ?_⟩
   rw [if_pos (by omega)]
 obtain ⟨u, u1, u2⟩ := key
 refine ⟨u, ?_, u2⟩
 have t1' : z1k K (r : Int) by' row K x 0 = some t := t1
 unfold z4u
 simp only [r1, r3, z0e, t1', tu1a, u1]
theorem zoj {f : Nat -> Nat -> Rat} {h w k a : Nat} {x : List (List Q)} (hx : MQ f h w x) (hk : k < w) (ha : a <= h) (hh : h <= 40) (hK : 2000000000 < K) (L : Nat -> Int -> Option Int)
  (e : ∀ n i, L (n + 1) i = (Option.bind ((if (decide (i < (List.length x : Int))) = true then ((idx x i).bind fun x59 => ((idx x59 (k : Int)).bind fun x68 => ((z37 K x68).bind fun x75 => some (x75 == 0)))) else some false)) (tu1 fun x88 => (if x88 = true then L n (z02 .i64 (i + 1)) else some i)))) :
  ∃ i : Nat, L K (a : Int) = some (i : Int) /\ a <= i /\ i <= h /\ (∀ j, a <= j -> j < i -> f j k = 0) /\ (i < h -> f i k ≠ 0) := by
 have hl := hx.1
 have key : ∃ o : Int, L K (a : Int) = some o /\ ∃ i : Nat, o = i /\ a <= i /\ i <= h /\ (∀ j, a <= j -> j < i -> f j k = 0) /\ (i < h -> f i k ≠ 0) := by
  refine z87 L (fun s => ∃ i : Nat, s = i /\ a <= i /\ i <= h /\ ∀ j, a <= j -> j < i -> f j k = 0) (fun s => (h - s : Int).toNat) _ ?_ (a : Int) (by omega) ⟨a, rfl, Nat.le_refl _, ha, fun j _ _ => by omega⟩
  rintro n _ ⟨i, rfl, h0, h1, h2⟩
  by_cases hi : i < h
  ·obtain ⟨row, q, i1, i2, i3, i4⟩ := hx.at hi hk
   obtain ⟨s, s1, s2⟩ := zq5 (K := K) i4
   by_cases z : f i k = 0
   ·right
    have hs : s = 0 := s2.2 z
    subst hs
    refine ⟨((i + 1 : Nat) : Int), ?_, by omega, i + 1, rfl, by omega, by omega, fun j q1 q2 => ?_⟩
    ·rw [e, hl, if_pos (lt_d hi)]
     simp only [i1, i3, z0e, s1, beq_self_eq_true, if_true, tu1a, k1 (show i <= 1048576 by omega)]
    ·by_cases c : j = i
     ·rw [c]; exact z
     ·exact h2 j q1 (by omega)
   ·left
    have hs : (s == 0) = false := by simp; exact fun e => z (s2.1 e)
    refine ⟨_, ?_, i, rfl, h0, h1, h2, fun _ => z⟩
    rw [e, hl, if_pos (lt_d hi)]
    simp only [i1, i3, z0e, s1, hs, Bool.false_eq_true, if_false, tu1a]
  ·left
   have : i = h := by omega
   subst this
   refine ⟨_, ?_, i, rfl, h0, h1, h2, fun h => by omega⟩
   rw [e, hl, if_neg (by simp)]
   simp only [z0e, tu1a, Bool.false_eq_true, if_false]
 obtain ⟨o, o1, i, rfl, o2⟩ := key
 exact ⟨i, o1, o2⟩
theorem zpq {f : Nat -> Nat -> Rat} {h w a b : Nat} {x : List (List Q)} {ra rb : List Q} (hx : MQ f h w x) (ha : a < h) (hb : b < h) (h1 : idx x (a : Int) = some ra) (h2 : idx x (b : Int) = some rb) : MQ (swp f a b) h w ((x.set a rb).set b ra) := by
 obtain ⟨ra', q1, q2⟩ := hx.idx ha
 obtain ⟨rb', q3, q4⟩ := hx.idx hb
 obtain rfl : ra = ra' := zAa (h1.symm.trans q1)
 obtain rfl : rb = rb' := zAa (h2.symm.trans q3)
 refine Fam.set (j := b) (Fam.mono (P := fun i row => i ≠ b -> FQ (swp f a b i) w row) (Fam.set (j := a) (hx.mono fun i row hi hr hne hnb => ?_) fun hne => ?_) fun i row hi hr => hr) ?_
 ·rw [zg0 hne hnb]; exact hr
 ·rw [zmq]; exact q4
 ·have : swp f a b b = f a := by unfold swp; by_cases c : b = a <;> simp [c]
  rw [this]; exact q2
end Go.Am.Tryz
/- Plain law: what Echelon, Unique and Solve return. -/
namespace Go.Am.Tryz
open Go Go.Am Go.Proofs
variable {K : Nat}
theorem zaq {piv : List Nat} : (piv.map Int.ofNat).length = piv.length := by simp
theorem zok {h w k : Nat} {f0 f : Nat -> Nat -> Rat} {piv : List Nat} (E : Ech h f0 piv f k) (hd : ∀ i c, i < h -> c < w -> Dl (f0 i c) 2000) (hk : k <= w) (hh : h <= 40) (hw : w <= 41) : ∀ i c, i < h -> c < w -> Dl (f i c) 3444083 := fun i c hi hc => by
 have := E.rh
 refine (E.dl (R := 41) hd hk (by omega) (by omega) i c hi hc).mono ?_
 have : 2000 * (w + 1) <= 2000 * 42 := Nat.mul_le_mul_left _ (by omega)
 omega
theorem zin {f : Nat -> Nat -> Rat} {h w n : Nat} {x : List (List Q)} (hx : MQ f h w x) (hh : h <= 40) (hw : w <= 41) (hn : n <= w) (hd : ∀ i c, i < h -> c < w -> Dl (f i c) 2000) (hK : 2000000000 < K) :
  ∃ piv t f' k, z3j K x (n : Int) = some (piv.map Int.ofNat, t) /\ MQ f' h w t /\ Ech h f piv f' k /\ k <= n /\ (k = n \/ piv.length = h) := by
 have key : ∃ o : List (List Q) × List Int, z0k K (n : Int) K [] x 0 = some o /\ ∃ piv f' k, o.2 = piv.map Int.ofNat /\ MQ f' h w o.1 /\ Ech h f piv f' k /\ k <= n /\ (k = n \/ piv.length = h) := by
  refine z87 (fun m (s : List Int × List (List Q) × Int) => z0k K (n : Int) m s.1 s.2.1 s.2.2) (fun s => ∃ piv f' k, s.1 = piv.map Int.ofNat /\ s.2.2 = ((k : Nat) : Int) /\ MQ f' h w s.2.1 /\ Ech h f piv f' k /\ k <= n) (fun s => (n - s.2.2 : Int).toNat) _ ?_ (([], x, 0) : List Int × List (List Q) × Int) (by dsimp only; omega) ⟨[], f, 0, rfl, rfl, hx, .start h f, by omega⟩
  rintro m ⟨_, o, _⟩ ⟨piv, f', k, rfl, rfl, ho, E, hkn⟩
  dsimp only at ho ⊢
  have hol := ho.1
  have hrh := E.rh
  by_cases hk : k < n
  ·by_cases hp : piv.length < h
   ·right
    obtain ⟨i, i1, i2, i3, i4, i5⟩ := zoj (K := K) (k := k) (a := piv.length) ho (by omega) (by omega) hh hK (z24 K o (k : Int)) (fun n i => by rw [z24])
    have hc : (if (decide ((k : Int) < (n : Int))) = true then some (decide (((piv.map Int.ofNat).length : Int) < (o.length : Int))) else some false) = some true := by
     rw [zaq, hol, if_pos (lt_d hk), lt_d hp]
    by_cases hi : i < h
    ·obtain ⟨ra, a1, _⟩ := ho.idx hp
     obtain ⟨rb, b1, _⟩ := ho.idx hi
     have E2 := E.step i2 hi (i5 hi)
     have d1 := zok E hd (by omega) hh hw
     have d2 := zok E2 hd (by omega) hh hw
     have sw := zpq ho hp hi a1 b1
     obtain ⟨t, t1, t2⟩ := zmc (K := K) (N := 3444083) sw hp (show k < w by omega) hh (by omega) (by omega) (fun j c hj hc => by
       unfold swp
       split
       ·exact d1 i c hi hc
       ·split
        ·exact d1 piv.length c hp hc
        ·exact d1 j c hj hc) (fun c hc => by
       have := d2 piv.length c hp hc
       rw [ze0] at this; exact this) hK
     refine ⟨((piv ++ [k]).map Int.ofNat, t, ((k + 1 : Nat) : Int)), ?_, by dsimp only; omega, piv ++ [k], _, k + 1, rfl, rfl, t2, E2, by omega⟩
     have hne : ((i : Int) == (o.length : Int)) = false := by rw [hol]; simp; omega
     rw [z0k, hc]
     simp only [z0e, tu1a, tu2a, if_true, zaq, i1, hne, Bool.false_eq_true, if_false, a1, b1, Int.toNat_natCast, t1, k1 (show k <= 1048576 by omega)]
     rw [if_pos (by simp; omega), z0e, tu2a]
     simp
    ·have : i = h := by omega
     subst this
     refine ⟨(piv.map Int.ofNat, o, ((k + 1 : Nat) : Int)), ?_, by dsimp only; omega, piv, f', k + 1, rfl, rfl, ho, E.skip (fun j h1 h2 => i4 j h1 h2), by omega⟩
     have heq : ((i : Int) == (o.length : Int)) = true := by rw [hol]; simp
     rw [z0k, hc]
     simp only [z0e, tu1a, tu2a, if_true, zaq, i1, heq, k1 (show k <= 1048576 by omega)]
   ·left
    refine ⟨(o, piv.map Int.ofNat), ?_, piv, f', k, rfl, ho, E, hkn, .inr (by omega)⟩
    rw [z0k, zaq, hol, if_pos (lt_d hk), z0e, tu1a, if_neg (by simp; omega)]
  ·left
   have : k = n := by omega
   subst this
   refine ⟨(o, piv.map Int.ofNat), ?_, piv, f', k, rfl, ho, E, hkn, .inl rfl⟩
   rw [z0k, if_neg (by simp), z0e, tu1a, if_neg (by simp)]
 obtain ⟨⟨t, p⟩, o1, piv, f', k, rfl, o2, o3, o4, o5⟩ := key
 refine ⟨piv, t, f', k, ?_, o2, o3, o4, o5⟩
 unfold z3j
 rw [o1]; rfl
end Go.Am.Tryz
/- Plain law: determinants: what the program's Det and the reference's Det return; SolveDets answers true. -/
namespace Go.Am.Tryz
open Go Go.Am Go.Proofs
variable {K : Nat}
theorem rt0 : RTx ⟨#[48]⟩ 0 := zmo z8q z6v z56 z63 rfl
theorem rt1 : RTx ⟨#[49]⟩ 1 := zmo z6v z6v z63 z63 rfl
theorem zol {α : Type} {P : Nat -> α -> Prop} {n k : Nat} {l : List α} (h : Fam P (n + 1) l) (hk : k < n + 1) : Fam (fun c => P (skp k c)) n (l.take k ++ l.drop (k + 1)) := by
 obtain ⟨hl, hp⟩ := h
 refine ⟨by simp [hl]; omega, fun j hj => ?_⟩
 by_cases c : j < k
 ·have e : skp k j = j := by unfold skp; rw [if_pos c]
  show P (skp k j) _
  rw [e, List.getElem_append_left (by simp [hl]; omega), List.getElem_take]
  exact hp j (by omega)
 ·have e : skp k j = j + 1 := by unfold skp; rw [if_neg c]
  have hlen : (l.take k).length = k := by simp [hl]; omega
  simp only [List.length_append, hlen, List.length_drop, hl] at hj
  show P (skp k j) _
  rw [e, List.getElem_append_right (by omega), List.getElem_drop]
  have e2 : k + 1 + (j - (l.take k).length) = j + 1 := by omega
  have := hp (j + 1) (by omega)
  simp only [e2]
  exact this
theorem zmd {f : Nat -> Nat -> Rat} {n k : Nat} {m : List (List zAd)} (hm : MT f (n + 1) (n + 1) m) (hk : k < n + 1) (hn : n <= 40) (hK : 2000000000 < K) : ∃ t, z8l K m 0 (k : Int) = some t /\ MT (fun r c => f (r + 1) (skp k c)) n n t := by
 have hml := hm.1
 have key : ∃ t : List (List zAd), z2v K m 0 (k : Int) K [] 0 = some t /\ MT (fun r c => f (r + 1) (skp k c)) n n t := by
  refine z87 (fun q (s : List (List zAd) × Int) => z2v K m 0 (k : Int) q s.1 s.2) (fun s => ∃ i : Nat, s.2 = i /\ i <= n + 1 /\ MT (fun r c => f (r + 1) (skp k c)) (i - 1) n s.1) (fun s => ((n + 1 : Nat) - s.2 : Int).toNat) _ ?_ (([], 0) : List (List zAd) × Int) (by dsimp only; omega) ⟨0, rfl, by omega, .nil⟩
  rintro q ⟨o, _⟩ ⟨i, rfl, i1, i2⟩
  dsimp only at i2 ⊢
  by_cases hi : i < n + 1
  ·right
   obtain ⟨row, r1, r2⟩ := Fam.idx hm hi
   have hrl := r2.1
   have hol := i2.1
   by_cases e : i = 0
   ·subst e
    refine ⟨(o, ((0 + 1 : Nat) : Int)), ?_, by dsimp only; omega, 1, rfl, by omega, i2⟩
    have hne : (((0 : Nat) : Int) != 0) = false := rfl
    rw [z2v, hml, if_pos (lt_d hi)]
    simp only [r1, z0e, hne, Bool.false_eq_true, if_false, tu1a, k1 (show 0 <= 1048576 by omega)]
   ·have hne : ((i : Int) != 0) = true := by simp; omega
    have l1 : lsl row 0 (k : Int) = some (row.take k) := by
     rw [lslI (by omega) (by omega) (by omega)]; simp
    have l2 : lsl row ((k + 1 : Nat) : Int) (row.length : Int) = some (row.drop (k + 1)) := by
     rw [lslI (by omega) (by omega) (by omega), Int.toNat_natCast, Int.toNat_natCast, List.take_of_length_le (by simp)]
    have hc := zol r2 hk
    have hcl := hc.1
    obtain ⟨j, rfl⟩ : ∃ j, i = j + 1 := ⟨i - 1, by omega⟩
    refine ⟨(o ++ [row.take k ++ row.drop (k + 1)], ((j + 1 + 1 : Nat) : Int)), ?_, by dsimp only; omega, j + 1 + 1, rfl, by omega, Fam.snoc i2 hc⟩
    rw [z2v, hml, if_pos (lt_d hi)]
    simp only [r1, z0e, hne, if_true, l1, k1 (show k <= 1048576 by omega), l2]
    rw [if_pos (by simp [hrl]; omega), if_pos (by simp [hrl]; omega), if_pos (by simp [hol]; omega), z0e, tu1a, List.nil_append, k1 (by omega)]
  ·left
   have : i = n + 1 := by omega
   subst this
   exact ⟨o, by rw [z2v, hml, if_neg (by simp)], i2⟩
 obtain ⟨t, t1, t2⟩ := key
 exact ⟨t, by unfold z8l; rw [t1]; rfl, t2⟩
theorem MT.at {f : Nat -> Nat -> Rat} {h w i c : Nat} {x : List (List zAd)} (hx : MT f h w x) (hi : i < h) (hc : c < w) : ∃ row q, idx x (i : Int) = some row /\ row.length = w /\ idx row (c : Int) = some q /\ RTx q (f i c) := by
 obtain ⟨row, r1, r2⟩ := Fam.idx hx hi
 obtain ⟨q, q1, q2⟩ := Fam.idx r2 hc
 exact ⟨row, q, r1, r2.1, q1, q2⟩
theorem zpr {q : zAd} {x : Rat} (h : RTx q x) : sEq q ⟨#[48]⟩ = decide (x = 0) := by
 rw [z9g]
 exact decide_eq_decide.2 h.zero_iff
theorem zql (k : Nat) : (Int.tmod (k : Int) 2 == 1) = decide (k % 2 = 1) := by
 have e : Int.tmod (k : Int) 2 = ((k % 2 : Nat) : Int) := rfl
 rw [e]
 by_cases h : k % 2 = 1
 ·rw [h]; rfl
 ·have : k % 2 = 0 := by omega
  rw [this]; rfl
def ds : Nat -> Nat
 | 0 => 1
 | n + 1 => (13 + ds n + 1) * (n + 1) + 1
theorem zqm : ∀ n, n < 5 -> ds n <= 1000 := by decide
theorem zom : ∀ (n D : Nat) {f : Nat -> Nat -> Rat} {m : List (List zAd)}, n <= 5 -> n < D -> MT f n n m -> (∀ i c, i < n -> c < n -> Dl (f i c) 13) -> 2000000000 < K -> ∃ t, z7y K D m = some t /\ RTx t (dt n f) /\ Dl (dt n f) (ds n) := by
 intro n
 induction n with
 | zero =>
  intro D f m _ hD hm hd hK
  obtain ⟨D, rfl⟩ : ∃ d, D = d + 1 := ⟨D - 1, by omega⟩
  have hml := hm.1
  exact ⟨_, by rw [z7y, hml, if_pos (by rfl)], rt1, Dl.one⟩
 | succ n ih =>
  intro D f m hn hD hm hd hK
  obtain ⟨D, rfl⟩ : ∃ d, D = d + 1 := ⟨D - 1, by omega⟩
  have hml := hm.1
  obtain ⟨row, r1, r2⟩ := Fam.idx hm (show 0 < n + 1 by omega)
  have r1 : idx m 0 = some row := r1
  have hrl := r2.1
  have hb := zqm n (by omega)
  obtain ⟨T, hT⟩ : ∃ T : Nat -> Rat, T = fun k => sg k * f 0 k * dt n (fun r c => f (r + 1) (skp k c)) := ⟨_, rfl⟩
  have eT : dt (n + 1) f = sr T (n + 1) := by rw [hT]; rfl
  have key : ∃ t : zAd, z48 K (z7y K D) m row K ⟨#[48]⟩ 0 = some t /\ RTx t (sr T (n + 1)) /\ Dl (sr T (n + 1)) (ds (n + 1)) := by
   refine z87 (fun q (s : zAd × Int) => z48 K (z7y K D) m row q s.1 s.2) (fun s => ∃ i : Nat, s.2 = i /\ i <= n + 1 /\ RTx s.1 (sr T i) /\ Dl (sr T i) ((13 + ds n + 1) * i + 1)) (fun s => ((n + 1 : Nat) - s.2 : Int).toNat) _ ?_ ((⟨#[48]⟩, 0) : zAd × Int) (by dsimp only; omega) ⟨0, rfl, by omega, rt0, Dl.zero.mono (by omega)⟩
   rintro q ⟨o, _⟩ ⟨i, rfl, i1, i2, i3⟩
   dsimp only at i2 i3 ⊢
   by_cases hi : i < n + 1
   ·right
    obtain ⟨x, x1, x2⟩ := Fam.idx r2 hi
    have hmul : (13 + ds n + 1) * i <= (13 + ds n + 1) * 5 := Nat.mul_le_mul_left _ (by omega)
    have hms : (13 + ds n + 1) * (i + 1) = (13 + ds n + 1) * i + (13 + ds n + 1) := Nat.mul_succ _ _
    have eS : sr T (i + 1) = sr T i + T i := rfl
    by_cases z : f 0 i = 0
    ·have eTi : T i = 0 := by rw [hT]; dsimp only; rw [z]; grind
     have eS2 : sr T (i + 1) = sr T i := by rw [eS, eTi]; grind
     refine ⟨(o, ((i + 1 : Nat) : Int)), ?_, by dsimp only; omega, i + 1, rfl, by omega, by rw [eS2]; exact i2, by rw [eS2]; exact i3.mono (by omega)⟩
     rw [z48, hrl, if_pos (lt_d hi)]
     simp only [x1, z0e, zpr x2, z, decide_true, if_true, tu1a, k1 (show i <= 1048576 by omega)]
    ·obtain ⟨t, t1, t2⟩ := zmd (K := K) hm hi (by omega) hK
     obtain ⟨d, d1, d2, d3⟩ := ih D (by omega) (by omega) t2 (fun r c hr hc => hd (r + 1) (skp i c) (by omega) (zob hc)) hK
     have dx := hd 0 i (by omega) hi
     obtain ⟨p, p1, p2⟩ := znz (K := K) (N := 1013) x2 d2 (dx.mono (by omega)) (d3.mono (by omega)) (by omega) hK
     have dp := dx.mul d3
     obtain ⟨w, w1, w2, w3⟩ : ∃ w, (Option.bind ((if (decide (i % 2 = 1)) = true then ((z5p K p).bind fun x78 => some x78) else some p)) fun x90 => (z5q K o x90).bind fun x100 => some x100) = some w /\ RTx w (sr T (i + 1)) /\ Dl (sr T (i + 1)) ((13 + ds n + 1) * (i + 1) + 1) := by
      by_cases odd : i % 2 = 1
      ·obtain ⟨u, u1, u2⟩ := zo0 (K := K) (N := 1013) p2 (dp.mono (by omega)) (by omega) hK
       have eTi : T i = -(f 0 i * dt n (fun r c => f (r + 1) (skp i c))) := by rw [hT]; dsimp only; unfold sg; rw [if_pos odd]; grind
       rw [eS, eTi]
       obtain ⟨w, w1, w2⟩ := zl6 (K := K) (N := 10000) i2 u2 (i3.mono (by omega)) (dp.neg.mono (by omega)) (by omega) hK
       exact ⟨w, by rw [if_pos (decide_eq_true odd), u1, z0e, z0e, w1, z0e], w2, (i3.add dp.neg).mono (by omega)⟩
      ·have eTi : T i = f 0 i * dt n (fun r c => f (r + 1) (skp i c)) := by rw [hT]; dsimp only; unfold sg; rw [if_neg odd]; grind
       rw [eS, eTi]
       obtain ⟨w, w1, w2⟩ := zl6 (K := K) (N := 10000) i2 p2 (i3.mono (by omega)) (dp.mono (by omega)) (by omega) hK
       exact ⟨w, by rw [if_neg (by simpa using odd), z0e, w1, z0e], w2, (i3.add dp).mono (by omega)⟩
     refine ⟨(w, ((i + 1 : Nat) : Int)), ?_, by dsimp only; omega, i + 1, rfl, by omega, w2, w3⟩
     have w1' : (Option.bind ((if (decide (i % 2 = 1)) = true then ((z5p K p).bind fun x78 => some x78) else some p)) (tu1 fun x90 => (z5q K o x90).bind fun x100 => some x100)) = some w := w1
     rw [z48, hrl, if_pos (lt_d hi)]
     simp only [x1, z0e, zpr x2, z, decide_false, Bool.false_eq_true, if_false, t1, d1, p1, zql]
     rw [w1', z0e, tu1a, k1 (by omega)]
   ·left
    have : i = n + 1 := by omega
    subst this
    exact ⟨o, by rw [z48, hrl, if_neg (by simp)], i2, i3⟩
  obtain ⟨t, t1, t2, t3⟩ := key
  rw [eT]
  refine ⟨t, ?_, t2, t3⟩
  rw [z7y, hml, if_neg (by simp; omega), r1, z0e, t1, z0e, tu1a]
end Go.Am.Tryz
