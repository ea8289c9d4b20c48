/- Plain: the rank: a regular part as large as the number of pivots, none larger; choices of places. -/
import Derived.Test.YtdogeclnbdldaaaGreatDoorG20Z9
import Derived.Test.YtdogeclnbdldaaaGreatDoorG2Z9
import Derived.Test.YtdogeclnbdldaaaGreatDoorRows
set_option maxRecDepth 100000
set_option maxHeartbeats 8000000
set_option linter.unusedVariables false
set_option linter.unusedSimpArgs false
namespace Go.Am
open Go
theorem zlc {n i : Nat} (f : Nat -> Nat -> Rat) (hi : i < n) : dt n (z2y f i (fun _ => 0)) = 0 := by
 have h := ze2 f (fun _ => 0) (fun _ => 0) 1 hi
 have e : (fun c : Nat => (0 : Rat) - 1 * 0) = fun _ => 0 := by funext c; grind
 rw [e] at h; grind
theorem zon {n i : Nat} (f A : Nat -> Nat -> Rat) (z : Nat -> Rat) (hi : i < n) : ∀ p, dt n (z2y f i (fun c => sr (fun l => z l * A l c) p)) = sr (fun l => z l * dt n (z2y f i (A l))) p
 | 0 => by simp only [sr]; exact zlc f hi
 | p + 1 => by
  have h := ze2 f (fun c => sr (fun l => z l * A l c) p) (A p) (-z p) hi
  have e : (fun c => sr (fun l => z l * A l c) p - -z p * A p c) = fun c => sr (fun l => z l * A l c) (p + 1) := by funext c; simp only [sr]; grind
  rw [e, zon f A z hi p] at h
  rw [h]; simp only [sr]; grind
theorem zps {m p l0 : Nat} {A : Nat -> Nat -> Rat} {z : Nat -> Rat} (hp : p <= m) (hl : l0 < p) (hz : z l0 ≠ 0) (h : ∀ c, c < m -> sr (fun l => z l * A l c) p = 0) : dt m A = 0 := by
 have h1 := zon (n := m) A A z (show l0 < m by omega) p
 have h2 : dt m (z2y A l0 (fun c => sr (fun l => z l * A l c) p)) = dt m (z2y A l0 (fun _ => 0)) := zce fun i c hi hc => by
  unfold z2y
  split
  ·exact h c hc
  ·rfl
 rw [h2, zlc A (show l0 < m by omega), z58 (j := l0) hl fun l hl2 hne => ?_, z7s] at h1
 ·have h3 : z l0 * dt m A = 0 := h1.symm
  rcases Rat.mul_eq_zero.1 h3 with h | h
  ·exact absurd h hz
  ·exact h
 ·rw [zfc (a := l0) (b := l) (fun e => hne e.symm) (by omega) (by omega) (by simp [z2y, hne])]; grind
theorem bdd1 (a : Nat -> Int) : ∀ n, ∃ B, 1 <= B /\ ∀ l, l < n -> (a l).natAbs <= B
 | 0 => ⟨1, by omega, fun l h => by omega⟩
 | n + 1 => by
  obtain ⟨B, h1, h2⟩ := bdd1 a n
  refine ⟨B + (a n).natAbs, by omega, fun l hl => ?_⟩
  by_cases c : l = n
  ·rw [c]; omega
  ·have := h2 l (by omega); omega
theorem bdd2 (a : Nat -> Nat -> Int) (m : Nat) : ∀ n, ∃ B, 1 <= B /\ ∀ i l, i < n -> l < m -> (a i l).natAbs <= B
 | 0 => ⟨1, by omega, fun i l h => by omega⟩
 | n + 1 => by
  obtain ⟨B, h1, h2⟩ := bdd2 a m n
  obtain ⟨C, h3, h4⟩ := bdd1 (a n) m
  refine ⟨B + C, by omega, fun i l hi hl => ?_⟩
  by_cases c : i = n
  ·rw [c]; have := h4 l hl; omega
  ·have := h2 i l (by omega) hl; omega
theorem zqn {r : Nat} (a : Nat -> Nat -> Rat) : ∃ z : Nat -> Rat, (∃ l, l < r + 1 /\ z l ≠ 0) /\ ∀ i, i < r -> sr (fun l => a i l * z l) (r + 1) = 0 := by
 let Z : Nat -> Nat -> Int := fun i l => (a i l).num * ((dens (a i) (r + 1) / (a i l).den : Nat) : Int)
 have hZ : ∀ i l, l < r + 1 -> a i l * (dens (a i) (r + 1) : Rat) = (Z i l : Rat) := fun i l hl => zih _ _ (ze1 _ hl)
 obtain ⟨B, b1, b2⟩ := bdd2 Z (r + 1) r
 obtain ⟨z, ⟨l0, hl0, hz0⟩, _, zk⟩ := zo5 (r := r) b1 b2
 refine ⟨fun l => (z l : Rat), ⟨l0, hl0, by simpa using hz0⟩, fun i hi => ?_⟩
 have h1 := zpn (z := z) (n := r + 1) fun l hl => hZ i l hl
 rw [zk i hi] at h1
 have hD : ((dens (a i) (r + 1) : Nat) : Rat) ≠ 0 := by have := zcd (a i) (r + 1); simp; omega
 have h3 : sr (fun l => a i l * (z l : Rat)) (r + 1) * (dens (a i) (r + 1) : Rat) = 0 := by rw [h1]; rfl
 rcases Rat.mul_eq_zero.1 h3 with h | h
 ·exact h
 ·exact absurd h hD
section
variable {h k n : Nat} {f0 f : Nat -> Nat -> Rat} {piv : List Nat}
theorem Ech.comb (E : Ech h f0 piv f k) (hk : k <= n) (hend : k = n \/ piv.length = h) {i c : Nat} (hi : i < h) (hc : c < n) : f0 i c = sr (fun j => f0 i (piv.getD j 0) * f j c) piv.length := by
 have hL : Lin (fun g => g c - sr (fun j => g (piv.getD j 0) * f j c) piv.length) := by
  have h1 := zdc (fun j => piv.getD j 0) (fun j => f j c) piv.length
  refine ⟨fun g g' a => ?_, fun g b => ?_⟩
  ·have := h1.sub g g' a
   simp only at this ⊢
   rw [this]; grind
  ·have := h1.div g b
   simp only at this ⊢
   rw [this, Rat.div_def, Rat.div_def, Rat.div_def]; grind
 have key := (E.eqv _ hL).1 (fun i hi => ?_) i hi
 ·have : f0 i c - sr (fun j => f0 i (piv.getD j 0) * f j c) piv.length = 0 := key
  grind
 ·show f i c - sr (fun j => f i (piv.getD j 0) * f j c) piv.length = 0
  by_cases c1 : i < piv.length
  ·rw [z58 (j := i) c1 fun j hj hne => ?_]
   ·rw [E.unit i i c1 hi, if_pos rfl]; grind
   ·rw [E.unit j i hj hi, if_neg (fun e => hne e.symm)]; grind
  ·rw [z5v fun j hj => ?_, E.low i c (by omega) hi (by omega)]
   ·grind
   ·rw [E.unit j i hj hi, if_neg (by omega)]; grind
theorem Ech.small (E : Ech h f0 piv f k) (hk : k <= n) (hend : k = n \/ piv.length = h) {m : Nat} (hm : piv.length < m) {ρ S : Nat -> Nat} (hρ : ∀ i, i < m -> ρ i < h) (hS : ∀ c, c < m -> S c < n) : dt m (fun i c => f0 (ρ i) (S c)) = 0 := by
 obtain ⟨z, ⟨l0, hl0, hz⟩, hk2⟩ := zqn (r := piv.length) (fun j l => f0 (ρ l) (piv.getD j 0))
 refine zps (z := z) (l0 := l0) (p := piv.length + 1) (by omega) hl0 hz fun c hc => ?_
 have e : sr (fun l => z l * f0 (ρ l) (S c)) (piv.length + 1) = sr (fun l => sr (fun j => z l * (f0 (ρ l) (piv.getD j 0) * f j (S c))) piv.length) (piv.length + 1) := z3g fun l hl => by
  rw [zkn, <- E.comb hk hend (hρ l (by omega)) (hS c hc)]
 rw [e, zij]
 refine z5v fun j hj => ?_
 have e2 : sr (fun l => z l * (f0 (ρ l) (piv.getD j 0) * f j (S c))) (piv.length + 1) = f j (S c) * sr (fun l => f0 (ρ l) (piv.getD j 0) * z l) (piv.length + 1) := by
  rw [<- zkn]; exact z3g fun l _ => by grind
 rw [e2, hk2 j hj]; grind
end
theorem zoo {n R M : Nat} {f : Nat -> Nat -> Rat} (hd : ∀ i c, i < n -> c < n -> Dl (f i c) M) (hn : n + 1 <= R) (hR : R <= 100) : dt n f ≠ 0 \/ ∃ z : Nat -> Rat, (∃ c, c < n /\ z c ≠ 0) /\ ∀ i, i < n -> sr (fun c => f i c * z c) n = 0 := by
 classical
 refine Classical.or_iff_not_imp_right.2 fun hno => ?_
 have key : ∀ k, k <= n -> ∃ g d, Gs n f k g d (R * (M * (n + 1) + 2) + 1) /\ d ≠ 0 := by
  intro k
  induction k with
  | zero => intro _; exact ⟨f, 1, .start n f _, by decide⟩
  | succ k ih =>
   intro hk
   obtain ⟨g, d, G, hd0⟩ := ih (by omega)
   by_cases hex : ∃ i0, k <= i0 /\ i0 < n /\ g i0 k ≠ 0
   ·obtain ⟨i0, h1, h2, h3⟩ := hex
    have dl := G.dl hd (by omega) hn hR (Nat.le_refl _)
    refine ⟨_, _, G.step (fun c hc => dl i0 c h2 hc) h1 h2 h3, ?_⟩
    intro h0
    rcases Rat.mul_eq_zero.1 h0 with h | h
    ·split at h
     ·exact hd0 (by grind)
     ·exact hd0 h
    ·exact h3 h
   ·exfalso
    obtain ⟨fJ, piv, p1, E, p3⟩ := G.ech
    have hz : ∀ i, k <= i -> i < n -> fJ i k = 0 := fun i h1 h2 => by
     rw [<- p3 i k h1 h2]
     exact Classical.byContradiction fun h => hex ⟨i, h1, h2, h⟩
    have hid := zo9 E.inc E.lt p1
    refine hno ⟨fun c => if c < k then - fJ c k else if c = k then 1 else 0, ⟨k, by omega, by dsimp only; rw [if_neg (by omega), if_pos rfl]; decide⟩, ?_⟩
    refine (E.eqv _ (zdc (fun c => c) _ n)).1 fun i hi => ?_
    show sr (fun c => fJ i c * (if c < k then - fJ c k else if c = k then 1 else 0)) n = 0
    by_cases c1 : i < k
    ·rw [zoa (a := i) (b := k) (by omega) (by omega) (by omega) fun c hc h1 h2 => ?_]
     ·rw [if_pos c1, if_neg (by omega), if_pos rfl]
      have := E.unit i i (by omega) hi
      rw [hid i c1, if_pos rfl] at this
      rw [this]; grind
     ·by_cases c2 : c < k
      ·have := E.unit c i (by omega) hi
       rw [hid c c2, if_neg (fun e => h1 e.symm)] at this
       rw [this]; grind
      ·rw [if_neg c2, if_neg h2]; grind
    ·refine z5v fun c hc => ?_
     by_cases c2 : c < k
     ·rw [E.low i c (by omega) hi c2]; grind
     ·by_cases c3 : c = k
      ·rw [c3, hz i (by omega) hi]; grind
      ·rw [if_neg c2, if_neg c3]; grind
 obtain ⟨g, d, G, h0⟩ := key n (Nat.le_refl _)
 rw [<- G.fin]; exact h0
theorem zop (ρ : Nat -> Nat) : ∀ p, ∃ j, j <= p /\ ∀ i, i <= p -> ρ i <= ρ j
 | 0 => by
  refine ⟨0, Nat.le_refl _, fun i hi => ?_⟩
  have : i = 0 := by omega
  rw [this]; exact Nat.le_refl _
 | p + 1 => by
  obtain ⟨j, h1, h2⟩ := zop ρ p
  by_cases c : ρ (p + 1) <= ρ j
  ·refine ⟨j, by omega, fun i hi => ?_⟩
   by_cases e : i = p + 1
   ·rw [e]; exact c
   ·exact h2 i (by omega)
  ·refine ⟨p + 1, Nat.le_refl _, fun i hi => ?_⟩
   by_cases e : i = p + 1
   ·rw [e]; exact Nat.le_refl _
   ·have := h2 i (by omega); omega
theorem zpt {a b i m : Nat} (ha : a < m) (hb : b < m) (hi : i < m) : tau a b i < m := by
 unfold tau
 split
 ·exact hb
 ·split
  ·exact ha
  ·exact hi
theorem zoq {m h : Nat} (g : Nat -> Nat -> Rat) (ρ : Nat -> Nat) (hρ : ∀ i, i < m -> ρ i < h) (hd : dt m (fun i => g (ρ i)) ≠ 0) : ∃ ρ' : Nat -> Nat, (∀ i, i < m -> ρ' i < h) /\ (∀ i, i + 1 < m -> ρ' i < ρ' (i + 1)) /\ dt m (fun i => g (ρ' i)) ≠ 0 := by
 have key : ∀ q, q <= m -> ∃ ρ' : Nat -> Nat, (∀ i, i < m -> ρ' i < h) /\ dt m (fun i => g (ρ' i)) ≠ 0 /\ (∀ i, m - q <= i -> i + 1 < m -> ρ' i < ρ' (i + 1)) /\ ∀ i j, i < m - q -> m - q <= j -> j < m -> ρ' i < ρ' j := by
  intro q
  induction q with
  | zero => intro _; exact ⟨ρ, hρ, hd, fun i h1 h2 => by omega, fun i j h1 h2 h3 => by omega⟩
  | succ q ih =>
   intro hq
   obtain ⟨s, s1, s2, s3, s4⟩ := ih (by omega)
   obtain ⟨p, hp⟩ : ∃ p, m - q = p + 1 := ⟨m - q - 1, by omega⟩
   have hp2 : m - (q + 1) = p := by omega
   rw [hp] at s3 s4
   rw [hp2]
   obtain ⟨j, j1, j2⟩ := zop s p
   have inj : ∀ a b, a < m -> b < m -> a ≠ b -> s a ≠ s b := fun a b ha hb hab e => s2 (zfc (f := fun i => g (s i)) hab ha hb (by show g (s a) = g (s b); rw [e]))
   have htp : tau j p p = j := by unfold tau; split <;> simp_all
   have htl : ∀ i, i < p -> tau j p i < p + 1 /\ tau j p i ≠ j := fun i hi => by
    unfold tau
    split
    ·omega
    ·split <;> omega
   have htg : ∀ i, p < i -> tau j p i = i := fun i hi => by unfold tau; rw [if_neg (by omega), if_neg (by omega)]
   refine ⟨fun i => s (tau j p i), fun i hi => s1 _ (zpt (by omega) (by omega) hi), ?_, fun i h1 h2 => ?_, fun i l h1 h2 h3 => ?_⟩
   ·by_cases e : j = p
    ·subst e
     have : (fun i => g (s (tau j j i))) = fun i => g (s i) := by
      funext i
      have : tau j j i = i := by unfold tau; split <;> simp_all
      rw [this]
     rw [this]; exact s2
    ·have := zof (n := m) e (by omega) (by omega) (fun i => g (s i))
     rw [zim] at this
     rw [this]
     intro h0
     exact s2 (by grind)
   ·dsimp only
    by_cases e : i = p
    ·subst e
     rw [htp, htg (i + 1) (by omega)]
     exact s4 j (i + 1) (by omega) (by omega) h2
    ·rw [htg i (by omega), htg (i + 1) (by omega)]
     exact s3 i (by omega) h2
   ·dsimp only
    obtain ⟨t1, t2⟩ := htl i h1
    by_cases e : l = p
    ·subst e
     rw [htp]
     have := j2 (tau j l i) (by omega)
     have := inj _ _ (show tau j l i < m by omega) (show j < m by omega) t2
     omega
    ·rw [htg l (by omega)]
     exact s4 _ l t1 (by omega) h3
 obtain ⟨s, s1, s2, s3, s4⟩ := key m (Nat.le_refl _)
 exact ⟨s, s1, fun i hi => s3 i (by omega) hi, s2⟩
section
variable {h k n : Nat} {f0 f : Nat -> Nat -> Rat} {piv : List Nat}
theorem Ech.large {M : Nat} (E : Ech h f0 piv f k) (hk : k <= n) (hn : n <= 40) (hh : h <= 40) (hd : ∀ i c, i < h -> c < n -> Dl (f0 i c) M) : ∃ ρ S : Nat -> Nat, (∀ i, i < piv.length -> ρ i < h) /\ (∀ i, i + 1 < piv.length -> ρ i < ρ (i + 1)) /\ (∀ c, c < piv.length -> S c < n) /\ (∀ c, c + 1 < piv.length -> S c < S (c + 1)) /\ dt piv.length (fun i c => f0 (ρ i) (S c)) ≠ 0 := by
 classical
 obtain ⟨F, o1, o2, _⟩ := E.org
 have hrh := E.rh
 have hS : ∀ c, c < piv.length -> piv.getD c 0 < n := fun c hc => by have := E.lt c hc; omega
 obtain ⟨ρ0, r1⟩ : ∃ ρ0 : Nat -> Nat, ∀ i, i < piv.length -> ρ0 i < h /\ F i = f0 (ρ0 i) := ⟨fun i => if hi : i < piv.length then (o1 i (by omega)).choose else 0, fun i hi => by
  dsimp only
  rw [dif_pos hi]; exact (o1 i (by omega)).choose_spec⟩
 have hne : dt piv.length (fun i c => f0 (ρ0 i) (piv.getD c 0)) ≠ 0 := by
  rcases zoo (n := piv.length) (R := 41) (M := M) (f := fun i c => f0 (ρ0 i) (piv.getD c 0)) (fun i c hi hc => hd _ _ (r1 i hi).1 (hS c hc)) (by omega) (by omega) with h | ⟨z, ⟨c0, hc0, hz⟩, hk2⟩
  ·exact h
  ·exfalso
   have hφ := zdc (fun c => piv.getD c 0) z piv.length
   have h1 := o2 _ hφ (fun i hi => by
    show sr (fun l => F i (piv.getD l 0) * z l) piv.length = 0
    rw [(r1 i hi).2]; exact hk2 i hi) c0 hc0
   have h2 : sr (fun l => f c0 (piv.getD l 0) * z l) piv.length = 0 := h1
   rw [z58 (j := c0) hc0 fun l hl hne => ?_, E.unit c0 c0 hc0 (by omega), if_pos rfl] at h2
   ·exact hz (by grind)
   ·rw [E.unit l c0 hl (by omega), if_neg (fun e => hne e.symm)]; grind
 obtain ⟨ρ, q1, q2, q3⟩ := zoq (fun i c => f0 i (piv.getD c 0)) ρ0 (fun i hi => (r1 i hi).1) hne
 exact ⟨ρ, fun c => piv.getD c 0, q1, q2, hS, fun c hc => E.inc c (c + 1) (by omega) hc, q3⟩
end
def ml (n s : Nat) : List Nat := (List.range n).filter (Nat.testBit s)
theorem zio (n s : Nat) : ml (n + 1) s = ml n s ++ if Nat.testBit s n then [n] else [] := by
 unfold ml
 rw [List.range_succ, List.filter_append]
 congr 1
 by_cases h : Nat.testBit s n <;> simp [h]
theorem zoz {n s i : Nat} (h : i ∈ ml n s) : i < n := by
 unfold ml at h
 simpa using (List.mem_filter.1 h).1
theorem zp0 : ∀ (n k : Nat) (ρ : Nat -> Nat), (∀ i, i < k -> ρ i < n) -> (∀ i, i + 1 < k -> ρ i < ρ (i + 1)) -> ∃ s, s < 2 ^ n /\ ml n s = (List.range k).map ρ
 | 0, k, ρ, h1, h2 => by
  have : k = 0 := by
   by_cases c : k = 0
   ·exact c
   ·have := h1 0 (by omega); omega
  subst this
  exact ⟨0, by decide, rfl⟩
 | n + 1, k, ρ, h1, h2 => by
  have mono : ∀ d i, i + d < k -> ρ i + d <= ρ (i + d) := by
   intro d
   induction d with
   | zero => intro i _; exact Nat.le_refl _
   | succ d ih => intro i hi; have := ih i (by omega); have := h2 (i + d) (by omega); rw [show i + (d + 1) = i + d + 1 by omega]; omega
  by_cases c : ∃ j, k = j + 1 /\ ρ j = n
  ·obtain ⟨j, rfl, hj⟩ := c
   obtain ⟨s, s1, s2⟩ := zp0 n j ρ (fun i hi => by have := mono (j - i) i (by omega); rw [show i + (j - i) = j by omega] at this; omega) (fun i hi => h2 i (by omega))
   refine ⟨2 ^ n + s, by rw [Nat.pow_succ]; omega, ?_⟩
   rw [zio]
   have t1 : Nat.testBit (2 ^ n + s) n = true := by rw [Nat.testBit_two_pow_add_eq, Nat.testBit_lt_two_pow s1]; rfl
   have t2 : ml n (2 ^ n + s) = ml n s := by
    unfold ml
    refine List.filter_congr fun i hi => ?_
    exact Nat.testBit_two_pow_add_gt (by simpa using hi) s
   rw [t1, t2, s2, List.range_succ, List.map_append]
   simp [hj]
  ·obtain ⟨s, s1, s2⟩ := zp0 n k ρ (fun i hi => by
    have h3 := mono (k - 1 - i) i (by omega)
    rw [show i + (k - 1 - i) = k - 1 by omega] at h3
    have h4 := h1 (k - 1) (by omega)
    have h5 : ρ (k - 1) ≠ n := fun e => c ⟨k - 1, by omega, e⟩
    omega) h2
   refine ⟨s, by rw [Nat.pow_succ]; omega, ?_⟩
   rw [zio, Nat.testBit_lt_two_pow s1, s2]
   simp
end Go.Am
/- Plain law: ranks: what the program's Rank and the reference's Rank return; SolveRanks answers true. -/
namespace Go.Am.Tryz
open Go Go.Am Go.Proofs
variable {K : Nat}
def bitB : Bool := (List.range 16).all fun s => (List.range 4).all fun i => (iand .i64 (ishr .i64 (s : Int) (i : Int)) 1 == 1) == Nat.testBit s i
theorem zko : bitB = true := by kernel_rfl
theorem zpu {s i : Nat} (hs : s < 16) (hi : i < 4) : (iand .i64 (ishr .i64 (s : Int) (i : Int)) 1 == 1) = Nat.testBit s i := by
 have h := zko
 unfold bitB at h
 have h1 := List.all_eq_true.1 h s (List.mem_range.2 hs)
 have h2 := List.all_eq_true.1 h1 i (List.mem_range.2 hi)
 exact beq_iff_eq.1 h2
theorem zpv : ∀ n, n < 5 -> ishl .i64 1 ((n : Nat) : Int) = ((2 ^ n : Nat) : Int) := by decide
theorem zpw {n : Nat} (hn : n <= 4) : 2 ^ n <= 16 := Nat.pow_le_pow_right (n := 2) (by omega) hn
theorem zg1 {n s : Nat} (hn : n <= 4) (hs : s < 16) (hK : 2000000000 < K) (L : Nat -> List Int -> Int -> Option (List Int))
  (e : ∀ k acc x, L (k + 1) acc x = (if (decide (x < (n : Int))) = true then (Option.bind ((if 0 <= x then (if ((iand .i64 (ishr .i64 (s : Int) x) 1) == 1) = true then (if List.length acc + List.length [x] <= 16777216 then some (acc ++ [x]) else none) else some acc) else none)) (tu1 fun x61 => L k x61 (z02 .i64 (x + 1)))) else some acc)) :
  L K [] 0 = some ((ml n s).map Int.ofNat) := by
 have key : ∃ o : List Int, L K [] 0 = some o /\ o = (ml n s).map Int.ofNat := by
  refine z87 (fun m (q : List Int × Int) => L m q.1 q.2) (fun q => ∃ i : Nat, q.2 = i /\ i <= n /\ q.1 = (ml i s).map Int.ofNat) (fun q => (n - q.2 : Int).toNat) _ ?_ (([], 0) : List Int × Int) (by dsimp only; omega) ⟨0, rfl, by omega, rfl⟩
  rintro m ⟨_, _⟩ ⟨i, rfl, i1, rfl⟩
  dsimp only
  by_cases hi : i < n
  ·right
   refine ⟨((ml (i + 1) s).map Int.ofNat, ((i + 1 : Nat) : Int)), ?_, by dsimp only; omega, i + 1, rfl, by omega, rfl⟩
   have hle : (ml i s).length <= i := by unfold ml; have := List.length_filter_le (Nat.testBit s) (List.range i); simpa using this
   rw [e, if_pos (lt_d hi), if_pos (by omega), zpu hs (by omega), zio]
   cases h : Nat.testBit s i with
   | true =>
    rw [if_pos rfl, if_pos (by simp; omega), z0e, tu1a, k1 (by omega), if_pos rfl, List.map_append]
    rfl
   | false =>
    rw [if_neg (by simp), z0e, tu1a, k1 (by omega), if_neg (by simp), List.append_nil]
  ·left
   have : i = n := by omega
   subst this
   exact ⟨_, by rw [e, if_neg (by simp)], rfl⟩
 obtain ⟨o, o1, rfl⟩ := key
 exact o1
theorem zfd {n k : Nat} (hn : n <= 4) (hK : 2000000000 < K) (Gf : List Int -> Bool -> Option Bool) (P : List Nat -> Bool) (hG : ∀ s, s < 2 ^ n -> (ml n s).length = k -> ∀ b, Gf ((ml n s).map Int.ofNat) b = some (b || P (ml n s)))
  (L2 : Int -> Nat -> List Int -> Int -> Option (List Int))
  (e2 : ∀ z k acc x, L2 z (k + 1) acc x = (if (decide (x < (n : Int))) = true then (Option.bind ((if 0 <= x then (if ((iand .i64 (ishr .i64 z x) 1) == 1) = true then (if List.length acc + List.length [x] <= 16777216 then some (acc ++ [x]) else none) else some acc) else none)) (tu1 fun x61 => L2 z k x61 (z02 .i64 (x + 1)))) else some acc))
  (L : Nat -> Bool -> Int -> Option Bool)
  (e : ∀ m b x, L (m + 1) b x = (if (decide (x < (ishl .i64 (1 : Int) (n : Int)))) = true then (Option.bind ((Option.bind (L2 x K [] 0) (tu1 fun x73 => (if ((List.length x73 : Int) == (k : Int)) = true then ((Gf x73 b).bind fun x88 => some x88) else some b)))) (tu1 fun x101 => L m x101 (z02 .i64 (x + 1)))) else some b)) (b0 : Bool) :
  L K b0 0 = some (b0 || (List.range (2 ^ n)).any fun s => (ml n s).length == k && P (ml n s)) := by
 have h16 := zpw hn
 have hsh := zpv n (by omega)
 generalize 2 ^ n = T at *
 have key : ∃ o : Bool, L K b0 0 = some o /\ o = (b0 || (List.range T).any fun s => (ml n s).length == k && P (ml n s)) := by
  refine z87 (fun m (q : Bool × Int) => L m q.1 q.2) (fun q => ∃ s : Nat, q.2 = s /\ s <= T /\ q.1 = (b0 || (List.range s).any fun s => (ml n s).length == k && P (ml n s))) (fun q => ((T : Int) - q.2 : Int).toNat) _ ?_ ((b0, 0) : Bool × Int) (by dsimp only; omega) ⟨0, rfl, by omega, by simp⟩
  rintro m ⟨b, _⟩ ⟨s, rfl, s1, s2⟩
  dsimp only at s2 ⊢
  by_cases hs : s < T
  ·right
   have hl := zg1 (K := K) hn (show s < 16 by omega) hK (L2 (s : Int)) (fun k acc x => e2 _ _ _ _)
   have ha : (List.range (s + 1)).any (fun s => (ml n s).length == k && P (ml n s)) = ((List.range s).any (fun s => (ml n s).length == k && P (ml n s)) || ((ml n s).length == k && P (ml n s))) := by
    rw [List.range_succ, List.any_append]; simp
   refine ⟨(b || ((ml n s).length == k && P (ml n s)), ((s + 1 : Nat) : Int)), ?_, by dsimp only; omega, s + 1, rfl, by omega, ?_⟩
   ·rw [e, hsh, if_pos (lt_d hs), hl, z0e, tu1a]
    by_cases hlen : (ml n s).length = k
    ·have hf : ((ml n s).length == k) = true := by simp [hlen]
     rw [if_pos (by simp [hlen]), hG s hs hlen, z0e, z0e, tu1a, k1 (by omega), hf, Bool.true_and]
    ·have hf : ((ml n s).length == k) = false := by simp [hlen]
     rw [if_neg (by simp; omega), z0e, tu1a, k1 (by omega), hf, Bool.false_and, Bool.or_false]
   ·dsimp only
    rw [ha, s2, Bool.or_assoc]
  ·left
   have : s = T := by omega
   refine ⟨b, by rw [e, hsh, if_neg (by simp; omega)], ?_⟩
   rw [s2, this]
 obtain ⟨o, o1, rfl⟩ := key
 exact o1
def sub (f : Nat -> Nat -> Rat) (rows cols : List Nat) (i c : Nat) : Rat := f (rows.getD i 0) (cols.getD c 0)
theorem zld {l : List Nat} {i : Nat} (h : i < l.length) : idx (l.map Int.ofNat) (i : Int) = some ((l.getD i 0 : Nat) : Int) := by
 refine z4q ?_
 rw [List.getElem?_map, zAh h, zAb, zAh h]
 rfl
theorem zor {f : Nat -> Nat -> Rat} {h w k : Nat} {rows cols : List Nat} {m : List (List zAd)} (hm : MT f h w m) (hr : rows.length = k) (hc : cols.length = k) (hr2 : ∀ i ∈ rows, i < h) (hc2 : ∀ i ∈ cols, i < w) (hk : k <= 4) (hK : 2000000000 < K) :
  ∃ t, z22 K (rows.map Int.ofNat) (cols.map Int.ofNat) m K [] 0 = some t /\ MT (sub f rows cols) k k t := by
 have getL : ∀ (l : List Nat) (n : Nat), (∀ i ∈ l, i < n) -> ∀ i, i < l.length -> l.getD i 0 < n := fun l n hl i hi => by
  rw [zAb, zAh hi]
  exact hl _ (List.getElem_mem hi)
 have hrl : (rows.map Int.ofNat).length = k := by simp [hr]
 have hcl : (cols.map Int.ofNat).length = k := by simp [hc]
 exact z9u (K := K) k (z22 K (rows.map Int.ofNat) (cols.map Int.ofNat) m) (fun i row => FT (sub f rows cols i) k row) (fun t => MT (sub f rows cols) k k t) (by omega)
  (fun n acc ha => ⟨acc, by rw [z22, hrl, if_neg (by simp)], ha⟩)
  (fun n i acc hi ha => by
   right
   have hri := getL rows h hr2 i (by omega)
   obtain ⟨v, v1, v2⟩ := z9u (K := K) k (z2j K (cols.map Int.ofNat) m ((rows.getD i 0 : Nat) : Int)) (fun c s => RTx s (sub f rows cols i c)) (fun v => FT (sub f rows cols i) k v) (by omega)
    (fun n acc ha => ⟨acc, by rw [z2j, hcl, if_neg (by simp)], ha⟩)
    (fun n c acc hc' hacc => by
     right
     have hci := getL cols w hc2 c (by omega)
     obtain ⟨row, q, a1, a2, a3, a4⟩ := hm.at hri hci
     have hal := hacc.1
     refine ⟨q, a4, ?_⟩
     rw [z2j, hcl, if_pos (lt_d hc'), zld (by omega), z0e]
     simp only [a1, a3, z0e]
     rw [if_pos (by simp; omega), k1 (by omega)])
   have hal := ha.1
   refine ⟨v, v2, ?_⟩
   rw [z22, hrl, if_pos (lt_d hi), zld (by omega), z0e, v1, z0e, tu1a, if_pos (by simp; omega), k1 (by omega)])
theorem zme {f : Nat -> Nat -> Rat} {h w k : Nat} {rows cols : List Nat} {m : List (List zAd)} (hm : MT f h w m) (hr : rows.length = k) (hc : cols.length = k) (hr2 : ∀ i ∈ rows, i < h) (hc2 : ∀ i ∈ cols, i < w) (hk : k <= 4) (hd : ∀ i c, i < h -> c < w -> Dl (f i c) 13) (b : Bool) (hK : 2000000000 < K) :
  z4h K (cols.map Int.ofNat) b (rows.map Int.ofNat) m = some (b || !decide (dt k (sub f rows cols) = 0)) := by
 unfold z4h
 cases b with
 | true => rw [if_pos rfl]; rfl
 | false =>
  obtain ⟨t, t1, t2⟩ := zor (K := K) hm hr hc hr2 hc2 hk hK
  have dsub : ∀ i c, i < k -> c < k -> Dl (sub f rows cols i c) 13 := fun i c hi hc' => by
   unfold sub
   refine hd _ _ ?_ ?_
   ·rw [zAb, zAh (by omega)]; exact hr2 _ (List.getElem_mem (by omega))
   ·rw [zAb, zAh (by omega)]; exact hc2 _ (List.getElem_mem (by omega))
  obtain ⟨d, d1, d2, _⟩ := zom (K := K) k K (by omega) (by omega) t2 dsub hK
  rw [if_neg (by simp), t1, z0e, tu1a, d1, z0e, zpr d2]
  rfl
def anyC (f : Nat -> Nat -> Rat) (w k : Nat) (rows : List Nat) : Bool := (List.range (2 ^ w)).any fun s => (ml w s).length == k && !decide (dt k (sub f rows (ml w s)) = 0)
def anyR (f : Nat -> Nat -> Rat) (h w k : Nat) : Bool := (List.range (2 ^ h)).any fun s => (ml h s).length == k && anyC f w k (ml h s)
theorem zos {f : Nat -> Nat -> Rat} {h w k : Nat} {rows : List Nat} {m : List (List zAd)} (hm : MT f h w m) (hw : wid m = w) (hr : rows.length = k) (hr2 : ∀ i ∈ rows, i < h) (hk : k <= 4) (hw4 : w <= 4) (hd : ∀ i c, i < h -> c < w -> Dl (f i c) 13) (b : Bool) (hK : 2000000000 < K) :
  z6k K (rows.map Int.ofNat) m (k : Int) b = some (b || anyC f w k rows) := by
 have h1 := zfd (K := K) (n := w) (k := k) hw4 hK (fun l b => z4h K l b (rows.map Int.ofNat) m) (fun cols => !decide (dt k (sub f rows cols) = 0))
  (fun s hs hl b => zme (K := K) hm hr hl hr2 (fun i hi => zoz hi) hk hd b hK)
  (fun z => z0m K (w : Int) z) (fun z k acc x => by rw [z0m])
  (z0n K (w : Int) (k : Int) (rows.map Int.ofNat) m) (fun q b x => by rw [z0n]) b
 unfold z6k z2d
 rw [zf9, hw, z0e, if_pos (by omega), h1]
 rfl
theorem zot {f : Nat -> Nat -> Rat} {h w k : Nat} {m : List (List zAd)} (hm : MT f h w m) (hw : wid m = w) (hk : k <= 4) (hh4 : h <= 4) (hw4 : w <= 4) (hd : ∀ i c, i < h -> c < w -> Dl (f i c) 13) (hK : 2000000000 < K) :
  z26 K (h : Int) (k : Int) m (k : Int) false = some (anyR f h w k) := by
 have h1 := zfd (K := K) (n := h) (k := k) hh4 hK (fun l b => z6k K l m (k : Int) b) (fun rows => anyC f w k rows)
  (fun s hs hl b => zos (K := K) hm hw hl (fun i hi => zoz hi) hk hw4 hd b hK)
  (fun z => z0u K (h : Int) z) (fun z k acc x => by rw [z0u])
  (z0v K (h : Int) (k : Int) m (k : Int)) (fun q b x => by rw [z0v]) false
 unfold z26
 rw [if_pos (by omega), h1]
 rfl
theorem anyR_iff {f : Nat -> Nat -> Rat} {h w k : Nat} : anyR f h w k = true ↔ ∃ s t, s < 2 ^ h /\ t < 2 ^ w /\ (ml h s).length = k /\ (ml w t).length = k /\ dt k (sub f (ml h s) (ml w t)) ≠ 0 := by
 unfold anyR anyC
 simp only [List.any_eq_true, List.mem_range, Bool.and_eq_true, beq_iff_eq, Bool.not_eq_true', decide_eq_false_iff_not]
 constructor
 ·rintro ⟨s, s1, s2, t, t1, t2, t3⟩
  exact ⟨s, t, s1, t1, s2, t2, t3⟩
 ·rintro ⟨s, t, s1, t1, s2, t2, t3⟩
  exact ⟨s, s1, s2, t, t1, t2, t3⟩
theorem zip {k i : Nat} (ρ : Nat -> Nat) (hi : i < k) : ((List.range k).map ρ).getD i 0 = ρ i := by
 rw [zAb, List.getElem?_map, List.getElem?_range hi]; rfl
theorem zou {f f' : Nat -> Nat -> Rat} {h w k : Nat} {piv : List Nat} {m : List (List zAd)} (hm : MT f h w m) (hw : wid m = w) (hh4 : h <= 4) (hw4 : w <= 4) (hd : ∀ i c, i < h -> c < w -> Dl (f i c) 13) (E : Ech h f piv f' k) (hk : k <= w) (hend : k = w \/ piv.length = h) (hK : 2000000000 < K) : zag K m = some ((piv.length : Nat) : Int) := by
 have hml := hm.1
 have hrh := E.rh
 have hpw : piv.length <= w := by
  by_cases c : 0 < piv.length
  ·have h5 := zm8 E.inc (piv.length - 1) (by omega)
   have h6 := E.lt (piv.length - 1) (by omega)
   omega
  ·omega
 have big : ∀ q, piv.length < q -> anyR f h w q = false := fun q hq => by
  rw [Bool.eq_false_iff]
  intro ha
  obtain ⟨s, t, s1, t1, s2, t2, t3⟩ := anyR_iff.1 ha
  refine t3 (E.small hk hend hq (fun i hi => ?_) (fun c hc => ?_))
  ·rw [zAb, zAh (by omega)]; exact zoz (List.getElem_mem (by omega))
  ·rw [zAb, zAh (by omega)]; exact zoz (List.getElem_mem (by omega))
 have good : anyR f h w piv.length = true := by
  obtain ⟨ρ, S, r1, r2, r3, r4, r5⟩ := E.large hk (by omega) (by omega) hd
  obtain ⟨s, s1, s2⟩ := zp0 h piv.length ρ r1 r2
  obtain ⟨t, t1, t2⟩ := zp0 w piv.length S r3 r4
  refine anyR_iff.2 ⟨s, t, s1, t1, by rw [s2]; simp, by rw [t2]; simp, ?_⟩
  rw [s2, t2]
  rw [zce (g := fun i c => f (ρ i) (S c)) fun i c hi hc => by unfold sub; rw [zip ρ hi, zip S hc]]
  exact r5
 have key : ∃ o : Int ⊕ Unit, z3b K m K ((min h w : Nat) : Int) = some o /\ ((o = .inl (piv.length : Int)) \/ (o = .inr () /\ piv.length = 0)) := by
  refine z87 (fun n (x : Int) => z3b K m n x) (fun x => ∃ q : Nat, x = q /\ piv.length <= q /\ q <= 4) (fun x => x.toNat) _ ?_ ((min h w : Nat) : Int) (by omega) ⟨min h w, rfl, by omega, by omega⟩
  rintro n _ ⟨q, rfl, q1, q2⟩
  by_cases h0 : q = 0
  ·left
   subst h0
   exact ⟨.inr (), by rw [z3b, if_neg (by simp)], .inr ⟨rfl, by omega⟩⟩
  ·have hr := zot (K := K) (k := q) hm hw q2 hh4 hw4 hd hK
   by_cases he : piv.length = q
   ·left
    refine ⟨.inl (q : Int), ?_, .inl (by rw [he])⟩
    rw [z3b, hml, if_pos (decide_eq_true (by omega)), hr, z0e, <- he, good, if_pos rfl]
   ·right
    refine ⟨((q - 1 : Nat) : Int), ?_, by omega, q - 1, rfl, by omega, by omega⟩
    rw [z3b, hml, if_pos (decide_eq_true (by omega)), hr, z0e, big q (by omega), if_neg (by simp), k64 (by omega) (by omega)]
    congr 1
    omega
 obtain ⟨o, o1, o2⟩ := key
 have hmin : imin (h : Int) (w : Int) = ((min h w : Nat) : Int) := by unfold imin; split <;> omega
 unfold zag
 rw [zf9, hw, z0e, hml, hmin, o1]
 rcases o2 with rfl | ⟨rfl, h0⟩
 ·rfl
 ·rw [h0]; rfl
theorem zb1 {m : List (List zAd)} (sm : MOk m) : ∃ K, z49 K m = some true := by
 refine ⟨2000000001, ?_⟩
 have hK : 2000000000 < 2000000001 := by omega
 unfold z49
 rw [zcc, z0e, if_neg (by simp)]
 by_cases em : matE m = 0
 ·obtain ⟨f, f1, f2, f3, f4⟩ := zpm sm em
  obtain ⟨x, x1, x2⟩ := zqk (K := 2000000001) f1 sm (by omega) hK
  obtain ⟨piv, t, f', k, e1, e2, e3, e4, e5⟩ := zin (K := 2000000001) x2 f2 (by omega) (Nat.le_refl _) f4 hK
  have hs : z3q 2000000001 m = some ((piv.length : Int), 0) := by
   unfold z3q
   rw [zic sm hK, em, z0e, if_neg (by simp), x1, z0e, zm6, z0e, e1, z0e]
   dsimp only
   rw [zaq]
  have hv : z6i 2000000001 4 [m] = some (zmp 4 [m]) := zo1 (by simp) (fun x hx => by simp at hx; subst hx; exact sm) hK
  rw [hs, zf8 sm hK, em, z0e, z0e, if_neg (by simp), hv, z0e]
  cases hc : zmp 4 [m] with
  | true => rfl
  | false =>
   have v1 := zie hc m (by simp)
   have wm : wid m <= 4 := by
    by_cases h0 : 0 < m.length
    ·have := (v1.2 m[0] (List.getElem_mem h0)).1
     have e0 : wid m = m[0].length := by unfold wid; rw [zAb, zAh h0]; rfl
     omega
    ·have : m = [] := List.length_eq_zero_iff.1 (by omega)
     subst this
     show 0 <= 4
     omega
   have d13 : ∀ i c, i < m.length -> c < wid m -> Dl (f i c) 13 := fun i c hi hc => zm5 (f1.2 i hi) (fun s hs => (v1.2 _ (List.getElem_mem hi)).2 s hs) c hc
   rw [if_neg (by simp), if_pos (by simp), zou (K := 2000000001) f1 rfl (by omega) wm d13 e3 e4 e5 hK]
   simp [z0e, tu1a]
 ·have hs : z3q 2000000001 m = some (0, matE m) := by
   unfold z3q
   rw [zic sm hK, z0e, if_pos (by simpa using em)]
  rw [hs, zf8 sm hK]
  simp [em, z0e, tu1a]
end Go.Am.Tryz
/- From a statement's arguments, read as data, to typed data. -/
namespace Go.Am
open Go Go.Proofs.YtdogeclnbdldaaaGreatDoor
section
variable {H : Type} {P : Program} {G : GM} {n B : Nat} {t e : TypeId} {α β S : Type} {r : RT α} {s : RT β} {I : α -> Prop} {J : β -> Prop}
theorem zmf {H : Type} (d : DataW H) : 1 <= Rows.uptoBulk d := by
 cases d with
 | lit l => cases l <;> simp [Rows.uptoBulk]
 | _ => simp [Rows.uptoBulk]
theorem ziq {H : Type} : ∀ (ds : List (DataW H)), ds.length <= Rows.uptoBulkAll ds
 | [] => Nat.zero_le _
 | d :: r => by
  have := ziq r
  have := zmf d
  simp only [Rows.uptoBulkAll, List.length_cons]; omega
def Arg (H : Type) (P : Program) (G : GM) (n : Nat) (t : TypeId) (r : RT α) (B : Nat) (I : α -> Prop) : Prop := ∀ (cs : List Value) (d : DataW H), AData P G n t cs d -> Rows.uptoBulk d <= B -> ∃ x, r.rep G cs x /\ I x
def ArgS (H : Type) (P : Program) (G : GM) (n : Nat) (ts : List TypeId) (r : RT α) (B : Nat) (I : α -> Prop) : Prop :=
 ∀ (css : List (List Value)) (ds : List (DataW H)), AllD (AData P G n) P.cellsOf ts css ds -> Rows.uptoBulkAll ds <= B -> ∃ x, r.rep G css.flatten x /\ I x
theorem zmg {k : IntKind} {x : Int} (h : (Lit.int k x).wf = true) : z8c k x = true := by
 cases k <;> simp [Lit.wf, IntKind.min, IntKind.max, IntKind.signed, IntKind.bits] at h <;> simp [z8c] <;> omega
theorem Arg.mono {I J : α -> Prop} (h : Arg H P G n t r B I) (k : ∀ x, I x -> J x) : Arg H P G n t r B J := fun cs d hd hb => by
 obtain ⟨x, h1, h2⟩ := h cs d hd hb
 exact ⟨x, h1, k x h2⟩
theorem Arg.int {k : IntKind} (hu : P.underlying t = some (.int k)) : Arg H P G (n + 1) t (rI k) B (fun x => z8c k x = true) := fun cs d h _ => by
 unfold AData at h
 simp only [hu] at h
 obtain ⟨x, h1, h2, h3⟩ := h
 exact ⟨x, h1, zmg h3⟩
theorem Arg.bool (hu : P.underlying t = some .bool) : Arg H P G (n + 1) t rB B (fun _ => True) := fun cs d h _ => by
 unfold AData at h
 simp only [hu] at h
 obtain ⟨x, h1, _⟩ := h
 exact ⟨x, h1, trivial⟩
theorem Arg.str (hu : P.underlying t = some .string) : Arg H P G (n + 1) t rS B (fun x => x.size <= B) := fun cs d h hb => by
 unfold AData at h
 simp only [hu] at h
 obtain ⟨x, h1, h2, _⟩ := h
 refine ⟨x, h1, ?_⟩
 rw [h2] at hb
 simp only [Rows.uptoBulk, Array.length_toList] at hb
 have : x.data.size = x.size := rfl
 omega
theorem zcf (h : Arg H P G n e r B I) : ∀ (k : Nat) (css : List (List Value)) (ds : List (DataW H)), AllD (AData P G n) P.cellsOf (List.replicate k e) css ds -> Rows.uptoBulkAll ds <= B -> ∃ xs : List α, All2 (r.rep G) css xs /\ (∀ x ∈ xs, I x) /\ xs.length = k
 | 0, [], [], _, _ => ⟨[], .nil, by simp, rfl⟩
 | 0, _ :: _, _, h, _ => by simp [List.replicate, AllD] at h
 | 0, [], _ :: _, h, _ => by simp [List.replicate, AllD] at h
 | k + 1, [], _, h, _ => by simp [List.replicate, AllD] at h
 | k + 1, _ :: _, [], h, _ => by simp [List.replicate, AllD] at h
 | k + 1, c :: css, d :: ds, hA, hb => by
  simp only [List.replicate, AllD] at hA
  simp only [Rows.uptoBulkAll] at hb
  obtain ⟨x, h1, h2⟩ := h _ _ hA.1.1 (by omega)
  obtain ⟨xs, h3, h4, h5⟩ := zcf h k css ds hA.2 (by omega)
  refine ⟨x :: xs, .cons h1 h3, fun y hy => ?_, by simp [h5]⟩
  rcases List.mem_cons.1 hy with rfl | hy
  ·exact h2
  ·exact h4 y hy
theorem zfe {R : TypeId -> List Value -> DataW H -> Prop} {sz : TypeId -> Nat} : ∀ (k : Nat) {ts : List TypeId} {cs : List (List Value)} {ds : List (DataW H)}, AllD R sz ts cs ds -> AllD R sz (ts.take k) (cs.take k) (ds.take k)
 | 0, _, _, _, _ => by simp [AllD]
 | k + 1, [], [], [], _ => by simp [AllD]
 | k + 1, _ :: _, _ :: _, _ :: _, h => by simp only [List.take_succ_cons]; exact ⟨h.1, zfe k h.2⟩
theorem zir {R : TypeId -> List Value -> DataW H -> Prop} {sz : TypeId -> Nat} {e : TypeId} : ∀ (k : Nat) (css : List (List Value)) (ds : List (DataW H)), AllD R sz (List.replicate k e) css ds -> ∀ c ∈ css, c.length = sz e
 | 0, [], [], _, c, hc => by simp at hc
 | 0, _ :: _, _, h, _, _ => by simp [List.replicate, AllD] at h
 | 0, [], _ :: _, h, _, _ => by simp [List.replicate, AllD] at h
 | k + 1, [], _, h, _, _ => by simp [List.replicate, AllD] at h
 | k + 1, _ :: _, [], h, _, _ => by simp [List.replicate, AllD] at h
 | k + 1, c :: css, d :: ds, hA, u, hu => by
  simp only [List.replicate, AllD] at hA
  rcases List.mem_cons.1 hu with rfl | hu
  ·exact hA.1.2
  ·exact zir k css ds hA.2 u hu
theorem Arg.sl (hu : P.underlying t = some (.slice e)) (h : Arg H P G n e r B I) : Arg H P G (n + 1) t (rSl r) B (fun xs => xs.length <= B /\ ∀ x ∈ xs, I x) := fun cs d hA hb => by
 unfold AData at hA
 simp only [hu] at hA
 rcases hA with ⟨h1, h2⟩ | ⟨b, len, cap, elems, spare, css, h1, h2, h3, h4, _, h6, h7⟩
 ·subst h1
  exact ⟨[], zjj, Nat.zero_le _, by simp⟩
 ·subst h2
  simp only [Rows.uptoBulk] at hb
  have hlen := ziq elems
  have h8 := zfe len h7
  rw [List.take_replicate, show min len cap = len by omega, <- h3, List.take_left] at h8
  obtain ⟨xs, k1, k2, k3⟩ := zcf h elems.length (css.take elems.length) elems h8 (by omega)
  refine ⟨xs, ?_, by omega, k2⟩
  have hcl := zir _ _ _ h7
  have hel := k1.length
  by_cases hz : elems.length = 0
  ·have hx : xs = [] := List.length_eq_zero_iff.1 (by omega)
   subst hx
   refine ⟨_, [], h1, ⟨by simp, .inr (.inr ⟨b, 0, some 0, cap, by rw [<- h3, hz], rfl, .inr rfl⟩)⟩, .nil⟩
  ·rcases h6 with h6 | ⟨x, g1, _, g3⟩
   ·omega
   ·refine ⟨_, css.take elems.length, h1, ⟨k1.each, .inr (.inl ⟨b, 0, some 0, cap, x, by rw [hel, k3, <- h3], g1, ?_, ?_, by rw [hel, k3]; omega, .inr rfl⟩)⟩, k1⟩
    ·rw [g3]
     have h9 : css.flatten = (css.take elems.length).flatten ++ (css.drop elems.length).flatten := by rw [<- List.flatten_append, List.take_append_drop]
     rw [h9, List.length_append, k1.flatLen, hel]; omega
    ·rw [g3, List.drop_zero]
     have h9 : css.flatten = (css.take elems.length).flatten ++ (css.drop elems.length).flatten := by rw [<- List.flatten_append, List.take_append_drop]
     have h10 : (css.take elems.length).length * r.sz = (css.take elems.length).flatten.length := by rw [k1.flatLen, hel]
     rw [h9, h10, List.take_left]
theorem Arg.arr {k : Nat} (hu : P.underlying t = some (.array k e)) (h : Arg H P G n e r B I) : Arg H P G (n + 1) t (rArr k r) B (fun xs => xs.length = k /\ ∀ x ∈ xs, I x) := fun cs d hA hb => by
 unfold AData at hA
 simp only [hu] at hA
 obtain ⟨css, parts, h1, h2, h3⟩ := hA
 subst h2
 simp only [Rows.uptoBulk] at hb
 obtain ⟨xs, k1, k2, k3⟩ := zcf h k css parts h3 (by omega)
 exact ⟨xs, ⟨k3, css, h1, k1⟩, k3, k2⟩
theorem ArgS.one (h : Arg H P G n t r B I) : ArgS H P G n [t] r B I := fun css ds hA hb => by
 match css, ds, hA with
 | [c], [d], hA =>
  simp only [Rows.uptoBulkAll] at hb
  obtain ⟨x, h1, h2⟩ := h c d hA.1.1 (by omega)
  exact ⟨x, by simpa using h1, h2⟩
 | [], _, hA => simp [AllD] at hA
 | _ :: _ :: _, [], hA => simp [AllD] at hA
 | _ :: _ :: _, [_], hA => simp [AllD] at hA
 | _ :: _ :: _, _ :: _ :: _, hA => simp [AllD] at hA
 | [_], [], hA => simp [AllD] at hA
 | [_], _ :: _ :: _, hA => simp [AllD] at hA
theorem ArgS.cons {ts : List TypeId} (h : Arg H P G n t r B I) (k : ArgS H P G n ts s B J) : ArgS H P G n (t :: ts) (rP r s) B (fun x => I x.1 /\ J x.2) := fun css ds hA hb => by
 match css, ds, hA with
 | c :: css, d :: ds, hA =>
  simp only [Rows.uptoBulkAll] at hb
  obtain ⟨x, h1, h2⟩ := h c d hA.1.1 (by omega)
  obtain ⟨y, h3, h4⟩ := k css ds hA.2 (by omega)
  exact ⟨(x, y), ⟨c, css.flatten, by simp, h1, h3⟩, h2, h4⟩
 | [], _, hA => simp [AllD] at hA
 | _ :: _, [], hA => simp [AllD] at hA
theorem Arg.struct {fs : Array Field} {ts : List TypeId} (hu : P.underlying t = some (.struct fs)) (hts : fs.toList.map (·.type) = ts) (h : ArgS H P G n ts r B I) (f : S -> α) (g : α -> S) (hg : ∀ p, f (g p) = p) : Arg H P G (n + 1) t (rIso r f) B (fun x => I (f x)) := fun cs d hA hb => by
 unfold AData at hA
 simp only [hu] at hA
 obtain ⟨css, parts, h1, h2, h3⟩ := hA
 subst h2
 simp only [Rows.uptoBulk] at hb
 rw [hts] at h3
 obtain ⟨p, k1, k2⟩ := h css parts h3 (by omega)
 exact ⟨g p, by rw [h1]; show r.rep G css.flatten (f (g p)); rw [hg]; exact k1, by show I (f (g p)); rw [hg]; exact k2⟩
theorem AArgs.cons_inv {ts : List TypeId} {avs : List Value} {ds : List (DataW H)} (h : AArgs P G n (t :: ts) avs ds) : ∃ v vs d dr, avs = v :: vs /\ ds = d :: dr /\ AVal P G n t v d /\ AArgs P G n ts vs dr := by
 match avs, ds, h with
 | v :: vs, d :: dr, h => exact ⟨v, vs, d, dr, rfl, rfl, h.1, h.2⟩
 | [], _, h => simp [AArgs] at h
 | _ :: _, [], h => simp [AArgs] at h
theorem AArgs.nil_inv {avs : List Value} {ds : List (DataW H)} (h : AArgs P G n [] avs ds) : avs = [] /\ ds = [] := by
 match avs, ds, h with
 | [], [], h => exact ⟨rfl, rfl⟩
 | [], _ :: _, h => simp [AArgs] at h
 | _ :: _, _, h => simp [AArgs] at h
theorem AVal.one {v : Value} {d : DataW H} (hu : z3h P t = some false) (h : AVal P G n t v d) : AData P G n t [v] d := by
 unfold AVal at h
 unfold z3h at hu
 split at h
 ·rename_i q; rw [q] at hu; cases hu
 ·rename_i q; rw [q] at hu; cases hu
 ·exact h
theorem AVal.agg {v : Value} {d : DataW H} (hu : z3h P t = some true) (h : AVal P G n t v d) : ∃ cs, v = .agg (List.toArray cs) /\ AData P G n t cs d := by
 unfold AVal at h
 unfold z3h at hu
 split at h
 ·exact h
 ·exact h
 ·rename_i q1 q2
  split at hu
  ·rename_i q; exact absurd q (q1 _)
  ·rename_i q; exact absurd q (q2 _ _)
  ·cases hu
  ·cases hu
theorem Ow.empty (A : AH) : Ow A.get A [] := ⟨fun _ _ h => h, fun i e h => by simp at h, fun i j e e' _ h => by simp at h, fun i e h => by simp at h⟩
theorem CR.done {f : FuncId} {args : List Value} {A : AH} {b : Value} (h : CR P f args A.get A [] fun v _ _ => v = b) : ∃ A', ACalls P f args A b A' := by
 obtain ⟨v, H', G', h1, _, _, rfl⟩ := h
 exact ⟨H', h1⟩
end
end Go.Am
/- SolveRanks over the statement's reading of its arguments. -/
namespace Go.Am.Tryz
open Go Go.Am Go.Proofs Go.Proofs.YtdogeclnbdldaaaGreatDoor
theorem solveRanks {H : Type} (A : AH) (avs : List Value) (ds : List (DataW H)) (hb : Rows.uptoBulkAll ds <= 1048576) (ha : AArgs Tryz.prog A.get 3 [44] avs ds) : ∃ A', ACalls Tryz.prog 7 avs A (.bool true) A' := by
 obtain ⟨v0, vs0, d0, ds0, rfl, rfl, a0, ha⟩ := AArgs.cons_inv ha
 obtain ⟨rfl, rfl⟩ := AArgs.nil_inv ha
 simp only [Rows.uptoBulkAll] at hb
 obtain ⟨x0, r0, i0⟩ := ((Arg.sl (t := 44) (e := 45) (by kernel_rfl) (Arg.sl (t := 45) (e := 22) (by kernel_rfl) (Arg.str (t := 22) (by kernel_rfl)))) : Arg H Tryz.prog A.get 3 44 _ 1048576 _) [v0] d0 (AVal.one (by kernel_rfl) a0) (by omega)
 obtain ⟨K, hK⟩ := zb1 i0
 exact CR.done (z8m K v0 x0 r0 (Ow.empty A) true hK)
end Go.Am.Tryz
