/- Plain: few equations have small integer solutions (boxes and pigeons). -/
import Derived.Test.YtdogeclnbdldaaaGreatDoorG20Z7
import Derived.Test.YtdogeclnbdldaaaGreatDoorG2Z7
import Derived.Test.YtdogeclnbdldaaaGreatDoorRows
set_option maxRecDepth 100000
set_option maxHeartbeats 8000000
set_option linter.unusedVariables false
set_option linter.unusedSimpArgs false
namespace Go.Am
open Go
theorem zla : ∀ (n m : Nat) (f : Nat -> Nat), n < m -> (∀ i, i < m -> f i < n) -> ∃ i j, i < j /\ j < m /\ f i = f j
 | 0, m, f, h, hf => absurd (hf 0 h) (Nat.not_lt_zero _)
 | n + 1, m, f, h, hf => by
  classical
  refine Classical.byContradiction fun hno => ?_
  have hinj : ∀ i j, i < j -> j < m -> f i ≠ f j := fun i j hi hj e => hno ⟨i, j, hi, hj, e⟩
  by_cases hx : ∃ t, t < m /\ f t = n
  ·obtain ⟨t, ht, hft⟩ := hx
   obtain ⟨i, j, hij, hj, he⟩ := zla n (m - 1) (fun i => f (if i < t then i else i + 1)) (by omega) (fun i hi => by
    have h1 := hf (if i < t then i else i + 1) (by split <;> omega)
    have h2 : f (if i < t then i else i + 1) ≠ n := by
     intro e
     rw [<- hft] at e
     by_cases c : i < t
     ·rw [if_pos c] at e; exact hinj i t c ht e
     ·rw [if_neg c] at e; exact hinj t (i + 1) (by omega) (by omega) e.symm
    omega)
   refine hinj _ _ ?_ ?_ he
   ·split <;> split <;> omega
   ·split <;> omega
  ·obtain ⟨i, j, hij, hj, he⟩ := zla n m f (by omega) (fun i hi => by
    have h1 := hf i hi
    have h2 : f i ≠ n := fun e => hx ⟨i, hi, e⟩
    omega)
   exact hinj i j hij hj he
def enc (W : Nat) (v : Nat -> Nat) : Nat -> Nat
 | 0 => 0
 | n + 1 => enc W v n + v n * W ^ n
theorem zlb {W : Nat} {v : Nat -> Nat} : ∀ {n : Nat}, (∀ i, i < n -> v i < W) -> enc W v n < W ^ n
 | 0, _ => by simp [enc]
 | n + 1, h => by
  have h1 := zlb (n := n) fun i hi => h i (by omega)
  have h2 := h n (by omega)
  have h3 : (v n + 1) * W ^ n <= W * W ^ n := Nat.mul_le_mul_right _ h2
  rw [Nat.add_mul, Nat.one_mul] at h3
  rw [enc, Nat.pow_succ, Nat.mul_comm (W ^ n) W]
  omega
theorem zlx {W : Nat} {v u : Nat -> Nat} : ∀ {n : Nat}, (∀ i, i < n -> v i < W) -> (∀ i, i < n -> u i < W) -> enc W v n = enc W u n -> ∀ i, i < n -> v i = u i
 | 0, _, _, _, i, hi => by omega
 | n + 1, hv, hu, he, i, hi => by
  have h1 := zlb (n := n) fun i hi => hv i (by omega)
  have h2 := zlb (n := n) fun i hi => hu i (by omega)
  have hP : 0 < W ^ n := by omega
  rw [enc, enc] at he
  have e1 : v n = u n := by
   have := congrArg (· / W ^ n) he
   simp only [Nat.add_mul_div_right _ _ hP, Nat.div_eq_of_lt h1, Nat.div_eq_of_lt h2] at this
   omega
  rw [e1] at he
  have e2 : enc W v n = enc W u n := by omega
  by_cases hin : i = n
  ·rw [hin]; exact e1
  ·exact zlx (fun i hi => hv i (by omega)) (fun i hi => hu i (by omega)) e2 i (by omega)
theorem zg4 {W : Nat} {v u : Nat -> Nat} : ∀ {n : Nat}, (∀ i, i < n -> v i = u i) -> enc W v n = enc W u n
 | 0, _ => rfl
 | n + 1, h => by rw [enc, enc, zg4 (fun i hi => h i (by omega)), h n (by omega)]
def dg (b idx l : Nat) : Nat := idx / b ^ l % b
theorem zn1 (b idx : Nat) : ∀ n, enc b (dg b idx) n = idx % b ^ n
 | 0 => by rw [enc, Nat.pow_zero, Nat.mod_one]
 | n + 1 => by rw [enc, zn1 b idx n, Nat.pow_succ, Nat.mod_mul, dg, Nat.mul_comm (idx / b ^ n % b)]
def si (f : Nat -> Int) : Nat -> Int
 | 0 => 0
 | n + 1 => si f n + f n
theorem zqv {f : Nat -> Int} {M : Int} : ∀ {n : Nat}, (∀ i, i < n -> 0 <= f i /\ f i <= M) -> 0 <= si f n /\ si f n <= n * M
 | 0, _ => by simp [si]
 | n + 1, h => by
  obtain ⟨h1, h2⟩ := zqv (n := n) fun i hi => h i (by omega)
  obtain ⟨h3, h4⟩ := h n (by omega)
  rw [si]
  have : ((n + 1 : Nat) : Int) * M = n * M + M := by
   rw [show ((n + 1 : Nat) : Int) = (n : Int) + 1 by omega, Int.add_mul, Int.one_mul]
  rw [this]
  omega
theorem zp2 (f g : Nat -> Int) : ∀ n, si f n - si g n = si (fun i => f i - g i) n
 | 0 => by simp [si]
 | n + 1 => by rw [si, si, si, <- zp2 f g n]; omega
theorem zja {f g : Nat -> Int} : ∀ {n : Nat}, (∀ i, i < n -> f i = g i) -> si f n = si g n
 | 0, _ => rfl
 | n + 1, h => by rw [si, si, zja (fun i hi => h i (by omega)), h n (by omega)]
theorem zp3 {f : Nat -> Int} {M : Nat} : ∀ {n : Nat}, (∀ i, i < n -> (f i).natAbs <= M) -> (si f n).natAbs <= n * M
 | 0, _ => by simp [si]
 | n + 1, h => by
  have h1 := zp3 (n := n) fun i hi => h i (by omega)
  have h3 := h n (by omega)
  rw [si, Nat.add_mul, Nat.one_mul]
  omega
def ngt (a : Int) : Int := if a < 0 then -a else 0
theorem zp4 {a y : Int} {B Y : Nat} (ha : a.natAbs <= B) (h0 : 0 <= y) (hy : y <= Y) : 0 <= a * y + ngt a * Y /\ a * y + ngt a * Y <= ((B * Y : Nat) : Int) := by
 unfold ngt
 rw [Int.natCast_mul]
 by_cases c : a < 0
 ·rw [if_pos c]
  have e : a * y + -a * (Y : Int) = (-a) * ((Y : Int) - y) := by rw [Int.mul_sub, Int.neg_mul, Int.neg_mul]; omega
  rw [e]
  refine ⟨Int.mul_nonneg (by omega) (by omega), Int.le_trans (Int.mul_le_mul_of_nonneg_right (show -a <= (B : Int) by omega) (by omega)) (Int.mul_le_mul_of_nonneg_left (by omega) (by omega))⟩
 ·rw [if_neg c, Int.zero_mul, Int.add_zero]
  exact ⟨Int.mul_nonneg (by omega) h0, Int.le_trans (Int.mul_le_mul_of_nonneg_right (show a <= (B : Int) by omega) h0) (Int.mul_le_mul_of_nonneg_left hy (by omega))⟩
theorem zqe {r B : Nat} (hB : 1 <= B) {a : Nat -> Nat -> Int} (ha : ∀ i l, i < r -> l < r + 1 -> (a i l).natAbs <= B) :
  ∃ z : Nat -> Int, (∃ l, l < r + 1 /\ z l ≠ 0) /\ (∀ l, (z l).natAbs <= ((r + 1) * B) ^ r) /\ ∀ i, i < r -> si (fun l => a i l * z l) (r + 1) = 0 := by
 generalize hC : (r + 1) * B = C
 generalize hY : C ^ r = Y
 have hC1 : 1 <= C := by rw [<- hC]; exact Nat.mul_pos (by omega) hB
 have hY1 : 1 <= Y := by rw [<- hY]; exact Nat.pow_pos hC1
 have dgle : ∀ idx l, dg (Y + 1) idx l <= Y := fun idx l => by have := Nat.mod_lt (idx / (Y + 1) ^ l) (show 0 < Y + 1 by omega); unfold dg; omega
 let u : Nat -> Nat -> Int := fun idx i => si (fun l => a i l * (dg (Y + 1) idx l : Int) + ngt (a i l) * Y) (r + 1)
 have ub : ∀ idx i, i < r -> 0 <= u idx i /\ u idx i <= ((C * Y : Nat) : Int) := fun idx i hi => by
  have h := zqv (f := fun l => a i l * (dg (Y + 1) idx l : Int) + ngt (a i l) * Y) (M := ((B * Y : Nat) : Int)) (n := r + 1) fun l hl => zp4 (ha i l hi hl) (by omega) (by have := dgle idx l; omega)
  refine ⟨h.1, Int.le_trans h.2 (Int.le_of_eq ?_)⟩
  rw [<- hC, <- Int.natCast_mul, Nat.mul_assoc]
 have hlt : (C * Y + 1) ^ r < (Y + 1) ^ (r + 1) := by
  have h1 : C * Y + 1 <= C * (Y + 1) := by rw [Nat.mul_add, Nat.mul_one]; omega
  have h2 : (C * Y + 1) ^ r <= (C * (Y + 1)) ^ r := Nat.pow_le_pow_left h1 r
  rw [Nat.mul_pow, hY] at h2
  have h3 : 0 < (Y + 1) ^ r := Nat.pow_pos (by omega)
  rw [Nat.pow_succ, Nat.mul_add, Nat.mul_one, Nat.mul_comm ((Y + 1) ^ r) Y]
  omega
 obtain ⟨i1, i2, h12, h2m, he⟩ := zla ((C * Y + 1) ^ r) ((Y + 1) ^ (r + 1)) (fun idx => enc (C * Y + 1) (fun i => (u idx i).toNat) r) hlt (fun idx _ => zlb fun i hi => by
  have := ub idx i hi; omega)
 have hu := zlx (fun i hi => by have := ub i1 i hi; omega) (fun i hi => by have := ub i2 i hi; omega) he
 refine ⟨fun l => (dg (Y + 1) i1 l : Int) - (dg (Y + 1) i2 l : Int), ?_, fun l => ?_, fun i hi => ?_⟩
 ·refine Classical.byContradiction fun hno => ?_
  have hall : ∀ l, l < r + 1 -> dg (Y + 1) i1 l = dg (Y + 1) i2 l := fun l hl => Classical.byContradiction fun hne => hno ⟨l, hl, fun h0 => hne (by have h1 : (dg (Y + 1) i1 l : Int) - (dg (Y + 1) i2 l : Int) = 0 := h0; omega)⟩
  have e := zg4 (W := Y + 1) hall
  rw [zn1, zn1, Nat.mod_eq_of_lt (by omega), Nat.mod_eq_of_lt h2m] at e
  omega
 ·have := dgle i1 l; have := dgle i2 l
  show ((dg (Y + 1) i1 l : Int) - (dg (Y + 1) i2 l : Int)).natAbs <= Y
  omega
 ·have e1 : u i1 i = u i2 i := by
   have h := hu i hi
   have := ub i1 i hi; have := ub i2 i hi
   omega
  have e2 := zp2 (fun l => a i l * (dg (Y + 1) i1 l : Int) + ngt (a i l) * Y) (fun l => a i l * (dg (Y + 1) i2 l : Int) + ngt (a i l) * Y) (r + 1)
  have e3 : si (fun l => a i l * (dg (Y + 1) i1 l : Int) + ngt (a i l) * Y) (r + 1) - si (fun l => a i l * (dg (Y + 1) i2 l : Int) + ngt (a i l) * Y) (r + 1) = 0 := by
   show u i1 i - u i2 i = 0
   omega
  rw [e3] at e2
  rw [e2]
  exact zja fun l hl => by rw [Int.mul_sub]; omega
end Go.Am
/- Plain: eliminations of rows: what they keep, and how large their numbers are. -/
namespace Go.Am
open Go
theorem zg5 {x : Rat} (h : x ≠ 0) : x / x = 1 := by rw [Rat.div_def, Rat.mul_inv_cancel x h]
theorem z5q (x : Rat) : 0 / x = 0 := by rw [Rat.div_def, Rat.zero_mul]
def sr (f : Nat -> Rat) : Nat -> Rat
 | 0 => 0
 | n + 1 => sr f n + f n
theorem z2y {f g : Nat -> Rat} : ∀ {n : Nat}, (∀ i, i < n -> f i = g i) -> sr f n = sr g n
 | 0, _ => rfl
 | n + 1, h => by rw [sr, sr, z2y (fun i hi => h i (by omega)), h n (by omega)]
theorem z89 {f : Nat -> Rat} : ∀ {n : Nat}, (∀ i, i < n -> f i = 0) -> sr f n = 0
 | 0, _ => rfl
 | n + 1, h => by rw [sr, z89 (fun i hi => h i (by omega)), h n (by omega)]; grind
theorem z75 (f g : Nat -> Rat) (a : Rat) : ∀ n, sr (fun i => f i - a * g i) n = sr f n - a * sr g n
 | 0 => by simp only [sr]; grind
 | n + 1 => by simp only [sr]; rw [z75 f g a n]; grind
theorem zp5 (f : Nat -> Rat) (b : Rat) : ∀ n, sr (fun i => f i / b) n = sr f n / b
 | 0 => by simp only [sr]; rw [z5q]
 | n + 1 => by simp only [sr]; rw [zp5 f b n, Rat.div_def, Rat.div_def, Rat.div_def]; grind
theorem zlc (f g : Nat -> Rat) : ∀ n, sr (fun i => f i + g i) n = sr f n + sr g n
 | 0 => by simp only [sr]; grind
 | n + 1 => by simp only [sr]; rw [zlc f g n]; grind
theorem z8k {f : Nat -> Rat} {j : Nat} : ∀ {n : Nat}, j < n -> (∀ i, i < n -> i ≠ j -> f i = 0) -> sr f n = f j
 | 0, h, _ => by omega
 | n + 1, h, hz => by
  rw [sr]
  by_cases e : n = j
  ·subst e
   rw [z89 fun i hi => hz i (by omega) (by omega)]; grind
  ·rw [z8k (j := j) (by omega) (fun i hi => hz i (by omega)), hz n (by omega) e]; grind
structure Lin (φ : (Nat -> Rat) -> Rat) : Prop where
 sub : ∀ (f g : Nat -> Rat) (a : Rat), φ (fun c => f c - a * g c) = φ f - a * φ g
 div : ∀ (f : Nat -> Rat) (b : Rat), φ (fun c => f c / b) = φ f / b
theorem Lin.rest {φ : (Nat -> Rat) -> Rat} (hφ : Lin φ) (F a : Nat -> Rat) (g : Nat -> Nat -> Rat) : ∀ r, φ (fun c => F c - sr (fun j => a j * g j c) r) = φ F - sr (fun j => a j * φ (g j)) r
 | 0 => by
  have e : (fun c => F c - sr (fun j => a j * g j c) 0) = F := by funext c; simp only [sr]; grind
  rw [e]; simp only [sr]; grind
 | r + 1 => by
  have e : (fun c => F c - sr (fun j => a j * g j c) (r + 1)) = fun c => (F c - sr (fun j => a j * g j c) r) - a r * g r c := by funext c; simp only [sr]; grind
  rw [e, hφ.sub (fun c => F c - sr (fun j => a j * g j c) r) (g r) (a r), hφ.rest F a g r]
  simp only [sr]; grind
theorem zly (S : Nat -> Nat) (z : Nat -> Rat) (n : Nat) : Lin (fun f => sr (fun l => f (S l) * z l) n) := by
 refine ⟨fun f g a => ?_, fun f b => ?_⟩
 ·show sr (fun l => (f (S l) - a * g (S l)) * z l) n = _
  rw [<- z75]
  exact z2y fun l _ => by grind
 ·show sr (fun l => f (S l) / b * z l) n = _
  rw [<- zp5]
  exact z2y fun l _ => by rw [Rat.div_def, Rat.div_def]; grind
theorem zp6 (x : Nat -> Rat) (n : Nat) : Lin (fun f => sr (fun c => f c * x c) n - f n) := by
 have h := zly (fun l => l) x n
 refine ⟨fun f g a => ?_, fun f b => ?_⟩
 ·have := h.sub f g a
  show sr (fun c => (f c - a * g c) * x c) n - (f n - a * g n) = _
  simp only at this
  rw [this]; grind
 ·have := h.div f b
  show sr (fun c => f c / b * x c) n - f n / b = _
  simp only at this
  rw [this, Rat.div_def, Rat.div_def, Rat.div_def]; grind
def swp {α : Type} (f : Nat -> α) (a b : Nat) : Nat -> α := fun i => if i = a then f b else if i = b then f a else f i
def clr (f : Nat -> Nat -> Rat) (r k : Nat) : Nat -> Nat -> Rat := fun i c => if i = r then f r c / f r k else f i c - f i k * (f r c / f r k)
structure Ech (h : Nat) (f0 : Nat -> Nat -> Rat) (piv : List Nat) (f : Nat -> Nat -> Rat) (k : Nat) : Prop where
 inc : ∀ j j', j < j' -> j' < piv.length -> piv.getD j 0 < piv.getD j' 0
 lt : ∀ j, j < piv.length -> piv.getD j 0 < k
 rh : piv.length <= h
 unit : ∀ j i, j < piv.length -> i < h -> f i (piv.getD j 0) = if i = j then 1 else 0
 low : ∀ i c, piv.length <= i -> i < h -> c < k -> f i c = 0
 org : ∃ F : Nat -> Nat -> Rat, (∀ i, i < h -> ∃ i', i' < h /\ F i = f0 i') /\ (∀ φ, Lin φ -> (∀ i, i < piv.length -> φ (F i) = 0) -> ∀ j, j < piv.length -> φ (f j) = 0) /\ (∀ i c, piv.length <= i -> i < h -> f i c = F i c - sr (fun j => F i (piv.getD j 0) * f j c) piv.length)
 eqv : ∀ φ, Lin φ -> ((∀ i, i < h -> φ (f i) = 0) ↔ ∀ i, i < h -> φ (f0 i) = 0)
theorem Ech.start (h : Nat) (f : Nat -> Nat -> Rat) : Ech h f [] f 0 :=
 ⟨fun j j' _ hj => by simp at hj, fun j hj => by simp at hj, Nat.zero_le _, fun j i hj => by simp at hj, fun i c _ _ hc => by omega,
  ⟨f, fun i hi => ⟨i, hi, rfl⟩, fun φ _ _ j hj => by simp at hj, fun i c _ _ => by simp only [List.length_nil, sr]; grind⟩, fun φ _ => Iff.rfl⟩
section
variable {h k i0 : Nat} {f0 f : Nat -> Nat -> Rat} {piv : List Nat}
theorem Ech.skip (E : Ech h f0 piv f k) (hz : ∀ i, piv.length <= i -> i < h -> f i k = 0) : Ech h f0 piv f (k + 1) :=
 ⟨E.inc, fun j hj => Nat.lt_succ_of_lt (E.lt j hj), E.rh, E.unit, fun i c hi hh hc => by
  by_cases e : c = k
  ·rw [e]; exact hz i hi hh
  ·exact E.low i c hi hh (by omega), E.org, E.eqv⟩
theorem zgs {l : List Nat} {k j : Nat} (hj : j < l.length) : (l ++ [k]).getD j 0 = l.getD j 0 := by
 rw [zAb, zAb, List.getElem?_append_left hj]
theorem zld {l : List Nat} {k : Nat} : (l ++ [k]).getD l.length 0 = k := by
 rw [zAb, List.getElem?_append_right (Nat.le_refl _)]; simp
theorem znl {α : Type} {f : Nat -> α} {a b : Nat} : swp f a b a = f b := by simp [swp]
theorem zgt {α : Type} {f : Nat -> α} {a b i : Nat} (h1 : i ≠ a) (h2 : i ≠ b) : swp f a b i = f i := by simp [swp, h1, h2]
theorem zjb {α β : Type} {r b h : Nat} (hr : r <= b) (hb : b < h) (f : Nat -> α) (F : Nat -> β) {i : Nat} (hi : r <= i) (hh : i < h) : ∃ i', r <= i' /\ i' < h /\ swp f r b i = f i' /\ swp F r b i = F i' := by
 by_cases e : i = r
 ·subst e; exact ⟨b, hr, hb, by simp [swp], by simp [swp]⟩
 ·by_cases e2 : i = b
  ·subst e2; exact ⟨r, Nat.le_refl _, by omega, by simp [swp, e], by simp [swp, e]⟩
  ·exact ⟨i, hi, hh, by simp [swp, e, e2], by simp [swp, e, e2]⟩
theorem zez {g : Nat -> Nat -> Rat} {r k : Nat} : clr g r k r = fun c => g r c / g r k := by funext c; simp [clr]
theorem zbr {g : Nat -> Nat -> Rat} {r k i : Nat} (h : i ≠ r) : clr g r k i = fun c => g i c - g i k * (g r c / g r k) := by funext c; simp [clr, h]
theorem Ech.step (E : Ech h f0 piv f k) (hi : piv.length <= i0) (hih : i0 < h) (hk : f i0 k ≠ 0) : Ech h f0 (piv ++ [k]) (clr (swp f piv.length i0) piv.length k) (k + 1) := by
 have hlen : (piv ++ [k]).length = piv.length + 1 := by simp
 generalize hg : swp f piv.length i0 = g
 have gr : g piv.length = f i0 := by rw [<- hg]; exact znl
 have gl : ∀ i, i < piv.length -> g i = f i := fun i hi' => by rw [<- hg]; exact zgt (by omega) (by omega)
 have grow : ∀ i, piv.length <= i -> i < h -> ∃ i', piv.length <= i' /\ i' < h /\ g i = f i' := fun i h1 h2 => by
  obtain ⟨i', q1, q2, q3, _⟩ := zjb hi hih f f h1 h2
  exact ⟨i', q1, q2, by rw [<- hg]; exact q3⟩
 have hrk : g piv.length k ≠ 0 := by rw [gr]; exact hk
 have lowr : ∀ c, c < k -> g piv.length c = 0 := fun c hc => by rw [gr]; exact E.low i0 c hi hih hc
 have low1 : ∀ i c, piv.length <= i -> i < h -> c < k -> g i c = 0 := fun i c h1 h2 hc => by
  obtain ⟨i', q1, q2, q3⟩ := grow i h1 h2
  rw [q3]; exact E.low i' c q1 q2 hc
 have colk : ∀ i, clr g piv.length k i k = if i = piv.length then 1 else 0 := fun i => by
  by_cases e : i = piv.length
  ·subst e; rw [zez, if_pos rfl]; exact zg5 hrk
  ·rw [zbr e, if_neg e]
   show g i k - g i k * (g piv.length k / g piv.length k) = 0
   rw [zg5 hrk]; grind
 refine ⟨fun j j' hj hj' => ?_, fun j hj => ?_, by rw [hlen]; omega, fun j i hj hh => ?_, fun i c h1 h2 hc => ?_, ?_, fun φ hφ => ?_⟩
 ·rw [hlen] at hj'
  by_cases e : j' = piv.length
  ·subst e; rw [zld, zgs hj]; exact E.lt j hj
  ·rw [zgs (show j' < piv.length by omega), zgs (show j < piv.length by omega)]; exact E.inc j j' hj (by omega)
 ·rw [hlen] at hj
  by_cases e : j = piv.length
  ·subst e; rw [zld]; omega
  ·rw [zgs (show j < piv.length by omega)]; have := E.lt j (by omega); omega
 ·rw [hlen] at hj
  by_cases e : j = piv.length
  ·subst e; rw [zld]; exact colk i
  ·have hj2 : j < piv.length := by omega
   rw [zgs hj2]
   have z : g piv.length (piv.getD j 0) = 0 := lowr _ (E.lt j hj2)
   by_cases e2 : i = piv.length
   ·subst e2
    rw [zez, if_neg (by omega)]
    show g piv.length (piv.getD j 0) / _ = 0
    rw [z, z5q]
   ·rw [zbr e2]
    show g i (piv.getD j 0) - g i k * (g piv.length (piv.getD j 0) / _) = _
    rw [z, z5q]
    have e3 : g i (piv.getD j 0) = if i = j then 1 else 0 := by
     by_cases c : i < piv.length
     ·rw [gl i c]; exact E.unit j i hj2 hh
     ·rw [low1 i _ (by omega) hh (E.lt j hj2), if_neg (by omega)]
    rw [e3]; grind
 ·rw [hlen] at h1
  by_cases e : c = k
  ·subst e; rw [colk, if_neg (by omega)]
  ·have e2 : i ≠ piv.length := by omega
   rw [zbr e2]
   show g i c - g i k * (g piv.length c / _) = 0
   rw [low1 i c (by omega) h2 (by omega), lowr c (by omega), z5q]; grind
 ·obtain ⟨F, o1, o2, o3⟩ := E.org
  have grow2 : ∀ i, piv.length <= i -> i < h -> ∀ c, g i c = swp F piv.length i0 i c - sr (fun j => swp F piv.length i0 i (piv.getD j 0) * f j c) piv.length := fun i h1 h2 c => by
   obtain ⟨i', q1, q2, q3, q4⟩ := zjb hi hih f F h1 h2
   rw [<- hg, q3, q4]; exact o3 i' c q1 q2
  have fz : ∀ φ, Lin φ -> (∀ j, j < piv.length -> φ (f j) = 0) -> φ (f i0) = φ (F i0) := fun φ hφ hz => by
   have e : f i0 = fun c => F i0 c - sr (fun j => F i0 (piv.getD j 0) * f j c) piv.length := by funext c; exact o3 i0 c hi hih
   have e2 := hφ.rest (F i0) (fun j => F i0 (piv.getD j 0)) f piv.length
   rw [<- e] at e2
   rw [e2, z89 fun j hj => by rw [hz j hj]; grind]; grind
  refine ⟨swp F piv.length i0, fun i hh => ?_, fun φ hφ hz j hj => ?_, fun i c h1 h2 => ?_⟩
  ·unfold swp
   split
   ·exact o1 i0 hih
   ·split
    ·exact o1 _ (by omega)
    ·exact o1 i hh
  ·rw [hlen] at hz hj
   have hz1 : ∀ j, j < piv.length -> φ (f j) = 0 := o2 φ hφ fun i hi' => by
    have := hz i (by omega)
    rwa [zgt (by omega) (by omega)] at this
   have hz2 : φ (g piv.length) = 0 := by
    have := hz piv.length (by omega)
    rw [znl] at this
    rw [gr, fz φ hφ hz1, this]
   by_cases e : j = piv.length
   ·subst e
    rw [zez, hφ.div, hz2, z5q]
   ·rw [zbr e, hφ.sub (g j) (fun c => g piv.length c / g piv.length k), hφ.div, hz2, z5q, gl j (by omega), hz1 j (by omega)]; grind
  ·rw [hlen] at h1
   have e2 : i ≠ piv.length := by omega
   rw [hlen, zbr e2]
   simp only [sr]
   rw [zld, zez]
   generalize hq : (fun c => g piv.length c / g piv.length k) = q
   have hqc : ∀ c, g piv.length c / g piv.length k = q c := fun c => by rw [<- hq]
   simp only [hqc]
   have e3 : sr (fun j => swp F piv.length i0 i ((piv ++ [k]).getD j 0) * clr g piv.length k j c) piv.length = sr (fun j => swp F piv.length i0 i (piv.getD j 0) * f j c) piv.length - q c * sr (fun j => swp F piv.length i0 i (piv.getD j 0) * f j k) piv.length := by
    rw [<- z75]
    refine z2y fun j hj => ?_
    rw [zgs hj, zbr (by omega), gl j hj]
    simp only [hqc]; grind
   rw [e3, grow2 i (by omega) h2 c, grow2 i (by omega) h2 k]
   grind
 ·rw [<- E.eqv φ hφ]
  have s1 : (∀ i, i < h -> φ (g i) = 0) ↔ ∀ i, i < h -> φ (f i) = 0 := by
   constructor
   ·intro hz i hh
    by_cases e : i = i0
    ·subst e; rw [<- gr]; exact hz _ (by omega)
    ·by_cases e2 : i = piv.length
     ·have h3 := hz i0 hih
      rw [<- hg] at h3
      have : swp f piv.length i0 i0 = f piv.length := by
       unfold swp
       split
       ·rename_i h4; rw [h4]
       ·rw [if_pos rfl]
      rw [this] at h3; rw [e2]; exact h3
     ·have h3 := hz i hh
      rw [<- hg, zgt e2 e] at h3; exact h3
   ·intro hz i hh
    rw [<- hg]
    unfold swp
    split
    ·exact hz i0 hih
    ·split
     ·exact hz _ (by omega)
     ·exact hz i hh
  rw [<- s1]
  constructor
  ·intro hz i hh
   have h1 := hz piv.length (by omega)
   rw [zez, hφ.div] at h1
   have h2 : φ (g piv.length) = 0 := by
    have e : φ (g piv.length) = φ (g piv.length) / g piv.length k * g piv.length k := by rw [Rat.div_def]; have := Rat.inv_mul_cancel _ hrk; grind
    rw [e, h1]; grind
   by_cases e : i = piv.length
   ·rw [e]; exact h2
   ·have h3 := hz i hh
    rw [zbr e, hφ.sub (g i) (fun c => g piv.length c / g piv.length k), hφ.div, h2, z5q] at h3
    grind
  ·intro hz i hh
   have h2 := hz piv.length (by omega)
   by_cases e : i = piv.length
   ·rw [e, zez, hφ.div, h2, z5q]
   ·rw [zbr e, hφ.sub (g i) (fun c => g piv.length c / g piv.length k), hφ.div, h2, z5q, hz i hh]; grind
end
end Go.Am
/- Plain: how large the numbers of an elimination are; what it says about solutions. -/
namespace Go.Am
open Go
theorem zp7 (x : Rat) : x * (x.den : Rat) = (x.num : Rat) := by
 have e := zew x
 rw [zab] at e
 have h0 : (x.den : Rat) ≠ 0 := by simp [x.den_nz]
 have e2 : (x.num : Rat) / (x.den : Rat) * (x.den : Rat) = (x.num : Rat) := by rw [Rat.div_def]; have := Rat.inv_mul_cancel _ h0; grind
 rw [<- e] at e2; exact e2
theorem zn2 (x : Rat) (D : Nat) (h : x.den ∣ D) : x * (D : Rat) = ((x.num * ((D / x.den : Nat) : Int) : Int) : Rat) := by
 obtain ⟨q, rfl⟩ := h
 rw [Nat.mul_div_cancel_left q x.den_pos, Rat.intCast_mul, Rat.natCast_mul]
 have := zp7 x
 have e : (((q : Nat) : Int) : Rat) = (q : Rat) := rfl
 rw [e]
 grind
theorem Dl.quo {p q : Int} {N : Nat} (hq : q ≠ 0) (h1 : p.natAbs < 10 ^ N) (h2 : q.natAbs < 10 ^ N) : Dl ((p : Rat) / (q : Rat)) N := by
 have hq' : (q : Rat) ≠ 0 := by simpa using hq
 rw [zfy _ _ hq']
 refine Dl.mk _ ?_ ?_ ?_
 ·rw [Rat.num_intCast, Rat.den_intCast]; omega
 ·rw [Rat.num_intCast, Rat.den_intCast]; omega
 ·rw [Rat.num_intCast, Rat.den_intCast]; omega
def dens (g : Nat -> Rat) : Nat -> Nat
 | 0 => 1
 | n + 1 => dens g n * (g n).den
theorem zjc (g : Nat -> Rat) {c : Nat} : ∀ {n : Nat}, c < n -> (g c).den ∣ dens g n
 | 0, h => by omega
 | n + 1, h => by
  rw [dens]
  by_cases e : c = n
  ·rw [e]; exact Nat.dvd_mul_left _ _
  ·exact Nat.dvd_trans (zjc g (by omega)) (Nat.dvd_mul_right _ _)
theorem zf0 (g : Nat -> Rat) : ∀ n, 0 < dens g n
 | 0 => by simp [dens]
 | n + 1 => Nat.mul_pos (zf0 g n) (g n).den_pos
theorem zjd {g : Nat -> Rat} {M : Nat} : ∀ {n : Nat}, (∀ c, c < n -> Dl (g c) M) -> dens g n <= 10 ^ (M * n)
 | 0, _ => by simp [dens]
 | n + 1, h => by
  rw [dens, Nat.mul_succ, Nat.pow_add]
  exact Nat.mul_le_mul (zjd fun c hc => h c (by omega)) (Nat.le_of_lt (h n (by omega)).2)
theorem zqw {g : Nat -> Rat} {Z z : Nat -> Int} {D : Rat} : ∀ {n : Nat}, (∀ l, l < n -> g l * D = (Z l : Rat)) -> sr (fun l => g l * (z l : Rat)) n * D = ((si (fun l => Z l * z l) n : Int) : Rat)
 | 0, _ => by simp only [sr, si]; simp
 | n + 1, h => by
  simp only [sr, si]
  have h1 := zqw (z := z) (n := n) fun l hl => h l (by omega)
  have h2 := h n (by omega)
  rw [Rat.intCast_add, Rat.intCast_mul, <- h1, <- h2]
  grind
section
variable {h k : Nat} {f0 f : Nat -> Nat -> Rat} {piv : List Nat}
theorem zqf {r B R E : Nat} (h1 : r + 1 <= R) (h2 : R <= 100) (hB : B <= 10 ^ E) : ((r + 1) * B) ^ (r + 1) < 10 ^ (R * (E + 2) + 1) := by
 have h3 : (r + 1) * B <= 10 ^ (E + 2) := by
  rw [Nat.pow_add, Nat.mul_comm]
  exact Nat.mul_le_mul hB (by omega)
 have h4 : ((r + 1) * B) ^ (r + 1) <= (10 ^ (E + 2)) ^ (r + 1) := Nat.pow_le_pow_left h3 _
 rw [<- Nat.pow_mul] at h4
 have h5 : (E + 2) * (r + 1) <= R * (E + 2) := by rw [Nat.mul_comm]; exact Nat.mul_le_mul_right _ h1
 exact Nat.lt_of_le_of_lt h4 (Nat.pow_lt_pow_right (by omega) (by omega))
theorem Ech.dl {M w R : Nat} (E : Ech h f0 piv f k) (hd : ∀ i c, i < h -> c < w -> Dl (f0 i c) M) (hkw : k <= w) (hR : piv.length + 1 <= R) (hR2 : R <= 100) : ∀ i c, i < h -> c < w -> Dl (f i c) (R * (M * (w + 1) + 2) + 1) := by
 intro i c hi hc
 obtain ⟨F, o1, o2, o3⟩ := E.org
 have dF : ∀ i, i < h -> ∀ c, c < w -> Dl (F i c) M := fun i hi c hc => by
  obtain ⟨i', q1, q2⟩ := o1 i hi
  rw [q2]; exact hd i' c q1 hc
 generalize hr : piv.length = r at *
 have hS : ∀ l, (if l < r then piv.getD l 0 else c) < w := fun l => by
  split
  ·rename_i hl; have := E.lt l (by omega); omega
  ·exact hc
 generalize hSd : (fun l => if l < r then piv.getD l 0 else c) = S
 have S1 : ∀ l, l < r -> S l = piv.getD l 0 := fun l hl => by rw [<- hSd]; simp [hl]
 have S2 : S r = c := by rw [<- hSd]; simp
 have hS : ∀ l, S l < w := fun l => by rw [<- hSd]; exact hS l
 let Z : Nat -> Nat -> Int := fun i l => (F i (S l)).num * ((dens (F i) w / (F i (S l)).den : Nat) : Int)
 have hZ : ∀ i l, i < h -> F i (S l) * (dens (F i) w : Rat) = (Z i l : Rat) := fun i l hi => zn2 _ _ (zjc _ (hS l))
 have hZb : ∀ i l, i < h -> (Z i l).natAbs <= 10 ^ (M * (w + 1)) := fun i l hi => by
  show ((F i (S l)).num * ((dens (F i) w / (F i (S l)).den : Nat) : Int)).natAbs <= _
  rw [Int.natAbs_mul, Int.natAbs_natCast, Nat.mul_succ, Nat.add_comm (M * w) M, Nat.pow_add]
  exact Nat.mul_le_mul (Nat.le_of_lt (dF i hi _ (hS l)).1) (Nat.le_trans (Nat.div_le_self _ _) (zjd (dF i hi)))
 have hrh : r <= h := by rw [<- hr]; exact E.rh
 obtain ⟨z, ⟨l0, hl0, hz0⟩, zb, zk⟩ := zqe (r := r) (B := 10 ^ (M * (w + 1))) (Nat.pow_pos (by omega)) (a := Z) (fun i l hi hl => hZb i l (by omega))
 have hφ := zly S (fun l => (z l : Rat)) (r + 1)
 generalize hφd : (fun f : Nat -> Rat => sr (fun l => f (S l) * (z l : Rat)) (r + 1)) = φ at hφ
 have φd : ∀ f, φ f = sr (fun l => f (S l) * (z l : Rat)) (r + 1) := fun f => by rw [<- hφd]
 have hD : ∀ i, ((dens (F i) w : Nat) : Rat) ≠ 0 := fun i => by have := zf0 (F i) w; simp; omega
 have hT : ∀ i, i < h -> φ (F i) * (dens (F i) w : Rat) = ((si (fun l => Z i l * z l) (r + 1) : Int) : Rat) := fun i hi => by
  rw [φd]; exact zqw fun l _ => hZ i l hi
 have hF0 : ∀ i, i < r -> φ (F i) = 0 := fun i hi => by
  have h1 := hT i (by omega)
  rw [zk i hi] at h1
  have h2 := hD i
  have h3 : φ (F i) * (dens (F i) w : Rat) = 0 := by rw [h1]; rfl
  rcases Rat.mul_eq_zero.1 h3 with h | h
  ·exact h
  ·exact absurd h h2
 have hf0 : ∀ j, j < r -> φ (f j) = 0 := fun j hj => o2 φ hφ hF0 j hj
 have hrow : ∀ j, j < h -> φ (f j) = (if j < r then (z j : Rat) else 0) + f j c * (z r : Rat) := fun j hj => by
  rw [φd]
  simp only [sr]
  rw [S2]
  congr 1
  by_cases hjr : j < r
  ·rw [if_pos hjr, z8k (j := j) hjr fun l hl hne => ?_]
   ·rw [S1 j hjr, E.unit j j (by omega) hj, if_pos rfl]; grind
   ·rw [S1 l hl, E.unit l j (by omega) hj, if_neg (fun e => hne e.symm)]; grind
  ·rw [if_neg hjr]
   exact z89 fun l hl => by rw [S1 l hl, E.unit l j (by omega) hj, if_neg (by omega)]; grind
 have hzr : z r ≠ 0 := fun e => by
  have hall : ∀ j, j < r -> z j = 0 := fun j hj => by
   have h1 := hrow j (by omega)
   rw [hf0 j hj, if_pos hj, e] at h1
   have h2 : (z j : Rat) = 0 := by
    have : ((0 : Int) : Rat) = 0 := rfl
    rw [this] at h1; grind
   simpa using h2
  by_cases c1 : l0 < r
  ·exact hz0 (hall l0 c1)
  ·have : l0 = r := by omega
   rw [this] at hz0; exact hz0 e
 have hzr' : (z r : Rat) ≠ 0 := by simpa using hzr
 have bY : ((r + 1) * 10 ^ (M * (w + 1))) ^ (r + 1) < 10 ^ (R * (M * (w + 1) + 2) + 1) := zqf hR hR2 (Nat.le_refl _)
 generalize hC : (r + 1) * 10 ^ (M * (w + 1)) = C at zb bY
 have hC1 : 10 ^ (M * (w + 1)) <= C := by rw [<- hC]; exact Nat.le_mul_of_pos_left _ (by omega)
 have hCp : 0 < C := Nat.lt_of_lt_of_le (Nat.pow_pos (by omega)) hC1
 rw [Nat.pow_succ] at bY
 have hle : C ^ r <= C ^ r * C := Nat.le_mul_of_pos_right _ hCp
 by_cases hir : i < r
 ·have h1 := hrow i hi
  rw [hf0 i hir, if_pos hir] at h1
  have h2 : f i c = ((-(z i) : Int) : Rat) / ((z r : Int) : Rat) := by
   rw [Rat.div_def, Rat.intCast_neg]
   have h3 := Rat.mul_inv_cancel _ hzr'
   have : f i c * (z r : Rat) * (z r : Rat)⁻¹ = f i c := by rw [Rat.mul_assoc, h3, Rat.mul_one]
   rw [<- this]
   have : f i c * (z r : Rat) = -(z i : Rat) := by grind
   rw [this]
  rw [h2]
  have := zb i; have := zb r
  exact Dl.quo hzr (by rw [Int.natAbs_neg]; omega) (by omega)
 ·have h1 := hrow i hi
  rw [if_neg hir] at h1
  have e : f i = fun c => F i c - sr (fun j => F i (piv.getD j 0) * f j c) r := by funext c; exact o3 i c (by omega) hi
  have e2 := hφ.rest (F i) (fun j => F i (piv.getD j 0)) f r
  rw [<- e, z89 (f := fun j => F i (piv.getD j 0) * φ (f j)) fun j hj => by rw [hf0 j hj]; grind] at e2
  have h3 := hT i hi
  generalize hTd : si (fun l => Z i l * z l) (r + 1) = T at h3
  have hTb : T.natAbs <= (r + 1) * (10 ^ (M * (w + 1)) * C ^ r) := by
   rw [<- hTd]
   exact zp3 fun l hl => by rw [Int.natAbs_mul]; exact Nat.mul_le_mul (hZb i l hi) (zb l)
  have hTb : T.natAbs <= C ^ r * C := by rw [<- Nat.mul_assoc, hC, Nat.mul_comm] at hTb; exact hTb
  have h4 : f i c = (T : Rat) / (((dens (F i) w : Int) * z r : Int) : Rat) := by
   have hd := hD i
   have hne : (((dens (F i) w : Int) * z r : Int) : Rat) ≠ 0 := by
    rw [Rat.intCast_mul]
    intro h0
    rcases Rat.mul_eq_zero.1 h0 with h | h
    ·exact hd h
    ·exact hzr' h
   have h5 : f i c * (((dens (F i) w : Int) * z r : Int) : Rat) = T := by
    rw [<- h3, Rat.intCast_mul]
    have : (((dens (F i) w : Nat) : Int) : Rat) = (dens (F i) w : Rat) := rfl
    rw [this]
    have h6 : φ (F i) = f i c * (z r : Rat) := by grind
    rw [h6]; grind
   rw [Rat.div_def, <- h5, Rat.mul_assoc, Rat.mul_inv_cancel _ hne, Rat.mul_one]
  have hden : dens (F i) w <= 10 ^ (M * (w + 1)) := Nat.le_trans (zjd (dF i hi)) (Nat.pow_le_pow_right (by omega) (Nat.mul_le_mul_left _ (by omega)))
  rw [h4]
  refine Dl.quo ?_ (by omega) ?_
  ·refine Int.mul_ne_zero ?_ hzr
   have := zf0 (F i) w; omega
  ·rw [Int.natAbs_mul, Int.natAbs_natCast]
   have : dens (F i) w * (z r).natAbs <= C * C ^ r := Nat.mul_le_mul (Nat.le_trans hden hC1) (zb r)
   rw [Nat.mul_comm C] at this
   omega
def Sol (f : Nat -> Nat -> Rat) (h n : Nat) (x : Nat -> Rat) : Prop := ∀ i, i < h -> sr (fun c => f i c * x c) n = f i n
theorem Sol.lin {h n : Nat} {f : Nat -> Nat -> Rat} {x : Nat -> Rat} : Sol f h n x ↔ ∀ i, i < h -> (fun f => sr (fun c => f c * x c) n - f n) (f i) = 0 := by
 refine forall_congr' fun i => forall_congr' fun _ => ?_
 show _ ↔ sr (fun c => f i c * x c) n - f i n = 0
 constructor <;> intro h <;> grind
theorem Ech.sol (E : Ech h f0 piv f k) (n : Nat) (x : Nat -> Rat) : Sol f h n x ↔ Sol f0 h n x := by
 rw [Sol.lin, Sol.lin]; exact E.eqv _ (zp6 x n)
theorem Ech.none {n i : Nat} (E : Ech h f0 piv f k) (hk : k <= n) (hend : k = n \/ piv.length = h) (hi : piv.length <= i) (hh : i < h) (hne : f i n ≠ 0) (x : Nat -> Rat) : ¬ Sol f0 h n x := fun hs => by
 have h1 := (E.sol n x).2 hs i hh
 rw [z89 fun c hc => by rw [E.low i c hi hh (by omega)]; grind] at h1
 exact hne h1.symm
theorem zn3 {piv : List Nat} (inc : ∀ j j', j < j' -> j' < piv.length -> piv.getD j 0 < piv.getD j' 0) : ∀ j, j < piv.length -> j <= piv.getD j 0
 | 0, _ => Nat.zero_le _
 | j + 1, h => by have := zn3 inc j (by omega); have := inc j (j + 1) (by omega) h; omega
theorem zqg {piv : List Nat} {n : Nat} (inc : ∀ j j', j < j' -> j' < piv.length -> piv.getD j 0 < piv.getD j' 0) (lt : ∀ j, j < piv.length -> piv.getD j 0 < n) (hn : piv.length = n) : ∀ j, j < n -> piv.getD j 0 = j := by
 have key : ∀ m j, j + m + 1 = n -> piv.getD j 0 + m < n := by
  intro m
  induction m with
  | zero => intro j hj; exact lt j (by omega)
  | succ m ih => intro j hj; have h1 := ih (j + 1) (by omega); have h2 := inc j (j + 1) (by omega) (by omega); omega
 intro j hj
 have h1 := zn3 inc j (by omega)
 have h2 := key (n - j - 1) j (by omega)
 omega
theorem Ech.one {n : Nat} (E : Ech h f0 piv f k) (hk : k <= n) (hend : k = n \/ piv.length = h) (hz : ∀ i, piv.length <= i -> i < h -> f i n = 0) (hn : piv.length = n) (x : Nat -> Rat) : Sol f0 h n x ↔ ∀ c, c < n -> x c = f c n := by
 have hrh := E.rh
 have hp := zqg E.inc (fun j hj => Nat.lt_of_lt_of_le (E.lt j hj) hk) hn
 have hrow : ∀ i, i < n -> sr (fun c => f i c * x c) n = x i := fun i hi => by
  rw [z8k (j := i) hi fun c hc hne => ?_]
  ·have := E.unit i i (by omega) (by omega); rw [hp i hi, if_pos rfl] at this; rw [this]; grind
  ·have := E.unit c i (by omega) (by omega); rw [hp c hc, if_neg (fun e => hne e.symm)] at this; rw [this]; grind
 rw [<- E.sol n x]
 constructor
 ·intro hs c hc
  rw [<- hs c (by omega), hrow c hc]
 ·intro hx i hi
  by_cases c : i < n
  ·rw [hrow i c, hx i c]
  ·rw [z89 fun c' hc' => by rw [E.low i c' (by omega) hi (by omega)]; grind, hz i (by omega) hi]
theorem zqh {f : Nat -> Rat} {a b n : Nat} (ha : a < n) (hb : b < n) (hab : a ≠ b) (hz : ∀ i, i < n -> i ≠ a -> i ≠ b -> f i = 0) : sr f n = f a + f b := by
 have e : ∀ i, i < n -> f i = (if i = a then f a else 0) + (if i = b then f b else 0) := fun i hi => by
  by_cases c : i = a
  ·subst c; rw [if_pos rfl, if_neg hab]; grind
  ·by_cases c2 : i = b
   ·subst c2; rw [if_pos rfl, if_neg c]; grind
   ·rw [if_neg c, if_neg c2, hz i hi c c2]; grind
 rw [z2y e, zlc, z8k (j := a) ha (fun i _ hne => if_neg hne), z8k (j := b) hb (fun i _ hne => if_neg hne), if_pos rfl, if_pos rfl]
theorem Ech.free {n : Nat} (E : Ech h f0 piv f k) (hk : k <= n) (hend : k = n \/ piv.length = h) (hn : piv.length < n) (x : Nat -> Rat) (hs : Sol f0 h n x) : ∃ y, Sol f0 h n y /\ ∃ c, c < n /\ y c ≠ x c := by
 classical
 obtain ⟨c0, hc0, hnp⟩ : ∃ c, c < n /\ ∀ j, j < piv.length -> piv.getD j 0 ≠ c := by
  refine Classical.byContradiction fun hno => ?_
  have hall : ∀ c, c < n -> ∃ j, j < piv.length /\ piv.getD j 0 = c := fun c hc => Classical.byContradiction fun hne => hno ⟨c, hc, fun j hj e => hne ⟨j, hj, e⟩⟩
  obtain ⟨i, j, hij, hj, he⟩ := zla piv.length n (fun c => if hc : c < n then (hall c hc).choose else 0) hn (fun c hc => by
   rw [dif_pos hc]; exact (hall c hc).choose_spec.1)
  simp only [dif_pos hj, dif_pos (show i < n by omega)] at he
  have h1 := (hall i (by omega)).choose_spec.2
  have h2 := (hall j hj).choose_spec.2
  rw [he] at h1
  omega
 let d : Nat -> Rat := fun c => if c = c0 then 1 else if hc : ∃ j, j < piv.length /\ piv.getD j 0 = c then - f hc.choose c0 else 0
 have dc0 : d c0 = 1 := by simp [d]
 have dp : ∀ j, j < piv.length -> d (piv.getD j 0) = - f j c0 := fun j hj => by
  have hc : ∃ j', j' < piv.length /\ piv.getD j' 0 = piv.getD j 0 := ⟨j, hj, rfl⟩
  have e : hc.choose = j := by
   have h1 := hc.choose_spec
   have h2 := E.inc hc.choose j
   have h3 := E.inc j hc.choose
   rcases Nat.lt_trichotomy hc.choose j with h | h | h
   ·have := h2 h hj; omega
   ·exact h
   ·have := h3 h h1.1; omega
  show (if piv.getD j 0 = c0 then (1 : Rat) else if hc : ∃ j', j' < piv.length /\ piv.getD j' 0 = piv.getD j 0 then - f hc.choose c0 else 0) = _
  rw [if_neg (hnp j hj), dif_pos hc, e]
 have hrow : ∀ i, i < h -> sr (fun c => f i c * d c) n = 0 := fun i hi => by
  by_cases c : i < piv.length
  ·have hpl := E.lt i c
   rw [zqh (a := c0) (b := piv.getD i 0) hc0 (by omega) (fun e => hnp i c e.symm) fun c' hc' h1 h2 => ?_]
   ·rw [dc0, dp i c, E.unit i i c hi, if_pos rfl]; grind
   ·by_cases hc2 : ∃ j, j < piv.length /\ piv.getD j 0 = c'
    ·obtain ⟨j, hj, rfl⟩ := hc2
     rw [E.unit j i hj hi, if_neg (fun e => h2 (by rw [e]))]; grind
    ·have : d c' = 0 := by
      show (if c' = c0 then (1 : Rat) else if hc : ∃ j, j < piv.length /\ piv.getD j 0 = c' then - f hc.choose c0 else 0) = 0
      rw [if_neg h1, dif_neg hc2]
     rw [this]; grind
  ·exact z89 fun c' hc' => by rw [E.low i c' (by omega) hi (by have := E.rh; omega)]; grind
 refine ⟨fun c => x c + d c, (E.sol n _).1 fun i hi => ?_, c0, hc0, ?_⟩
 ·have h1 := (E.sol n x).2 hs i hi
  have h2 := hrow i hi
  have e : sr (fun c => f i c * (x c + d c)) n = sr (fun c => f i c * x c) n + sr (fun c => f i c * d c) n := by
   rw [<- zlc]; exact z2y fun c _ => by grind
  rw [e, h1, h2]; grind
 ·show x c0 + d c0 ≠ x c0
  rw [dc0]; intro e
  have : (1 : Rat) = 0 := by grind
  exact absurd this (by decide)
end
end Go.Am
/- Plain: determinants by the first row: rows that change places, rows taken from rows, triangles, sizes; eliminations that keep them. -/
namespace Go.Am
open Go
def skp (k c : Nat) : Nat := if c < k then c else c + 1
def sg (k : Nat) : Rat := if k % 2 = 1 then -1 else 1
def dt : Nat -> (Nat -> Nat -> Rat) -> Rat
 | 0, _ => 1
 | n + 1, f => sr (fun k => sg k * f 0 k * dt n (fun r c => f (r + 1) (skp k c))) (n + 1)
theorem zn4 {k c n : Nat} (h : c < n) : skp k c < n + 1 := by unfold skp; split <;> omega
theorem zje : ∀ {n : Nat} {f g : Nat -> Nat -> Rat}, (∀ i c, i < n -> c < n -> f i c = g i c) -> dt n f = dt n g
 | 0, _, _, _ => rfl
 | n + 1, f, g, h => by
  rw [dt, dt]
  refine z2y fun k hk => ?_
  rw [h 0 k (by omega) hk, zje (n := n) (fun r c hr hc => h (r + 1) (skp k c) (by omega) (zn4 hc))]
theorem zp8 (a : Rat) (f : Nat -> Rat) : ∀ n, sr (fun i => a * f i) n = a * sr f n
 | 0 => by simp only [sr]; grind
 | n + 1 => by simp only [sr]; rw [zp8 a f n]; grind
theorem zn5 (f : Nat -> Rat) : ∀ n, sr (fun i => - f i) n = - sr f n
 | 0 => by simp only [sr]; grind
 | n + 1 => by simp only [sr]; rw [zn5 f n]; grind
def z44 (f : Nat -> Nat -> Rat) (i : Nat) (v : Nat -> Rat) : Nat -> Nat -> Rat := fun r => if r = i then v else f r
theorem zjf : ∀ {n i : Nat} (f : Nat -> Nat -> Rat) (u v : Nat -> Rat) (a : Rat), i < n -> dt n (z44 f i (fun c => u c - a * v c)) = dt n (z44 f i u) - a * dt n (z44 f i v)
 | 0, i, _, _, _, _, h => absurd h (Nat.not_lt_zero _)
 | n + 1, 0, f, u, v, a, _ => by
  have e : ∀ w k, (fun r c => z44 f 0 w (r + 1) (skp k c)) = fun r c => f (r + 1) (skp k c) := fun w k => by funext r c; simp [z44]
  have e0 : ∀ w, z44 f 0 w 0 = w := fun w => by simp [z44]
  rw [dt, dt, dt, <- z75]
  refine z2y fun k hk => ?_
  rw [e, e, e, e0, e0, e0]; grind
 | n + 1, i + 1, f, u, v, a, h => by
  have e : ∀ w k, (fun r c => z44 f (i + 1) w (r + 1) (skp k c)) = z44 (fun r c => f (r + 1) (skp k c)) i (fun c => w (skp k c)) := fun w k => by funext r c; by_cases hr : r = i <;> simp [z44, hr]
  have e0 : ∀ w, z44 f (i + 1) w 0 = f 0 := fun w => by simp [z44]
  rw [dt, dt, dt, <- z75]
  refine z2y fun k hk => ?_
  rw [e, e, e, e0, e0, e0, zjf (fun r c => f (r + 1) (skp k c)) (fun c => u (skp k c)) (fun c => v (skp k c)) a (by omega)]
  grind
theorem zlz (f : Nat -> Nat -> Rat) (m : Nat) : ∀ n, sr (fun i => sr (fun j => f i j) m) n = sr (fun j => sr (fun i => f i j) n) m
 | 0 => by simp only [sr]; exact (z89 fun _ _ => rfl).symm
 | n + 1 => by simp only [sr]; rw [zlz f m n, zlc]
theorem zp9 (g : Nat -> Rat) (k : Nat) : ∀ n, k <= n -> sr (fun l => g (skp k l)) n = sr (fun j => if j = k then 0 else g j) (n + 1)
 | 0, h => by
  have : k = 0 := by omega
  subst this
  simp only [sr, if_pos]; grind
 | n + 1, h => by
  by_cases hk : k = n + 1
  ·subst hk
   have e : sr (fun l => g (skp (n + 1) l)) (n + 1) = sr (fun j => if j = n + 1 then 0 else g j) (n + 1) := z2y fun l hl => by rw [if_neg (by omega)]; unfold skp; rw [if_pos hl]
   rw [e]
   conv => rhs; rw [sr]
   rw [if_pos rfl]; grind
  ·have h1 := zp9 g k n (by omega)
   rw [sr, sr, <- h1, if_neg (fun e => hk e.symm)]
   have : skp k n = n + 1 := by unfold skp; rw [if_neg (by omega)]
   rw [this]
def sk2 (k j c : Nat) : Nat := if c < min k j then c else if c + 1 < max k j then c + 1 else c + 2
theorem skp2 (k l c : Nat) : skp k (skp l c) = sk2 k (skp k l) c := by
 unfold sk2 skp
 repeat' split
 all_goals omega
theorem zpa (k : Nat) : sg (k + 1) = - sg k := by
 unfold sg
 by_cases h : k % 2 = 1
 ·rw [if_pos h, if_neg (by omega)]; grind
 ·rw [if_neg h, if_pos (by omega)]
theorem zpb {n : Nat} {f : Nat -> Nat -> Rat} (h : f 0 = f 1) : dt (n + 2) f = 0 := by
 have e : dt (n + 2) f = sr (fun k => sr (fun j => sg k * f 0 k * (if j = k then 0 else (if j < k then sg j else - sg j) * f 0 j * dt n (fun r c => f (r + 2) (sk2 k j c)))) (n + 2)) (n + 2) := by
  rw [dt]
  refine z2y fun k hk => ?_
  rw [zp8, dt]
  congr 1
  rw [<- zp9 (fun j => (if j < k then sg j else - sg j) * f 0 j * dt n (fun r c => f (r + 2) (sk2 k j c))) k (n + 1) (by omega)]
  refine z2y fun l hl => ?_
  have e1 : (fun r c => f (r + 1 + 1) (skp k (skp l c))) = fun r c => f (r + 2) (sk2 k (skp k l) c) := by funext r c; rw [skp2]
  rw [e1, h]
  congr 2
  unfold skp
  by_cases c : l < k
  ·rw [if_pos c, if_pos c]
  ·rw [if_neg c, if_neg (by omega), zpa]; grind
 have t : dt (n + 2) f = - dt (n + 2) f := by
  conv => lhs; rw [e, zlz]
  rw [e, <- zn5]
  refine z2y fun k hk => ?_
  rw [<- zn5]
  refine z2y fun j hj => ?_
  have es : (fun r c => f (r + 2) (sk2 j k c)) = fun r c => f (r + 2) (sk2 k j c) := by funext r c; unfold sk2; rw [Nat.min_comm, Nat.max_comm]
  rw [es]
  rcases Nat.lt_trichotomy j k with c | c | c
  ·have h1 : ¬ k = j := by omega
   have h2 : ¬ j = k := by omega
   have h3 : ¬ k < j := by omega
   simp only [if_neg h1, if_neg h2, if_neg h3, if_pos c]; grind
  ·subst c; simp only [if_pos]; grind
  ·have h1 : ¬ k = j := by omega
   have h2 : ¬ j = k := by omega
   have h3 : ¬ j < k := by omega
   simp only [if_neg h1, if_neg h2, if_neg h3, if_pos c]; grind
 grind
theorem zn6 : ∀ {n i : Nat} {f : Nat -> Nat -> Rat}, i + 1 < n -> f i = f (i + 1) -> dt n f = 0
 | 0, i, _, h, _ => absurd h (Nat.not_lt_zero _)
 | 1, i, _, h, _ => by omega
 | n + 2, 0, f, _, h => zpb h
 | n + 2, i + 1, f, hi, h => by
  rw [dt]
  refine z89 fun k hk => ?_
  rw [zn6 (n := n + 1) (i := i) (by omega) (by funext c; show f (i + 1) (skp k c) = f (i + 1 + 1) (skp k c); rw [h])]; grind
theorem za1 (f : Nat -> Nat -> Rat) (i : Nat) : z44 f i (f i) = f := by funext r; by_cases h : r = i <;> simp [z44, h]
theorem zeb {n a b : Nat} (hab : a ≠ b) (ha : a < n) (hb : b < n) (hz : ∀ g : Nat -> Nat -> Rat, g a = g b -> dt n g = 0) (f : Nat -> Nat -> Rat) : dt n (swp f a b) = - dt n f := by
 have hba : b ≠ a := fun e => hab e.symm
 have comm : ∀ u v, z44 (z44 f a u) b v = z44 (z44 f b v) a u := fun u v => by
  funext r
  by_cases h1 : r = a <;> by_cases h2 : r = b <;> simp [z44, h1, h2, hab, hba]
 have z : ∀ u, dt n (z44 (z44 f a u) b u) = 0 := fun u => hz _ (by simp [z44, hab])
 have z3 := z (fun c => f a c - 1 * f b c)
 rw [zjf _ (f a) (f b) 1 hb, comm, comm, zjf _ (f a) (f b) 1 ha, zjf _ (f a) (f b) 1 ha, <- comm, <- comm, <- comm, <- comm, z, z] at z3
 have e1 : z44 (z44 f a (f a)) b (f b) = f := by rw [za1, za1]
 have e2 : z44 (z44 f a (f b)) b (f a) = swp f a b := by
  funext r
  by_cases h1 : r = a
  ·subst h1; simp [z44, swp, hab]
  ·by_cases h2 : r = b <;> simp [z44, swp, h1, h2, hba]
 rw [e1, e2] at z3
 grind
theorem zn7 : ∀ (d : Nat) {n a : Nat} {f : Nat -> Nat -> Rat}, a + d + 1 < n -> f a = f (a + d + 1) -> dt n f = 0
 | 0, n, a, f, h, e => zn6 h e
 | d + 1, n, a, f, h, e => by
  have h1 := zeb (n := n) (a := a + d + 1) (b := a + d + 2) (by omega) (by omega) (by omega) (fun g hg => zn6 (i := a + d + 1) (by omega) hg) f
  have h2 : dt n (swp f (a + d + 1) (a + d + 2)) = 0 := zn7 (a := a) d (by omega) (by rw [zgt (by omega) (by omega), znl]; exact e)
  rw [h2] at h1; grind
theorem zm0 {n a b : Nat} {f : Nat -> Nat -> Rat} (hab : a ≠ b) (ha : a < n) (hb : b < n) (h : f a = f b) : dt n f = 0 := by
 rcases Nat.lt_or_gt_of_ne hab with c | c
 ·obtain ⟨d, rfl⟩ : ∃ d, b = a + d + 1 := ⟨b - a - 1, by omega⟩
  exact zn7 d hb h
 ·obtain ⟨d, rfl⟩ : ∃ d, a = b + d + 1 := ⟨a - b - 1, by omega⟩
  exact zn7 d ha h.symm
theorem zqi {n a b : Nat} (hab : a ≠ b) (ha : a < n) (hb : b < n) (f : Nat -> Nat -> Rat) : dt n (swp f a b) = - dt n f :=
 zeb hab ha hb (fun g hg => zm0 hab ha hb hg) f
theorem zqj {n r k : Nat} (hrk : r ≠ k) (hr : r < n) (hk : k < n) (f : Nat -> Nat -> Rat) (a : Rat) : dt n (z44 f r (fun c => f r c - a * f k c)) = dt n f := by
 rw [zjf f (f r) (f k) a hr, za1, zm0 hrk hr hk (f := z44 f r (f k)) (by simp [z44, fun e : k = r => hrk e.symm])]; grind
theorem zpc (f : Nat -> Nat -> Rat) (a : Nat -> Rat) (k m : Nat) : dt m (fun i => if k < i then (fun c => f i c - a i * f k c) else f i) = dt m f := by
 have key : ∀ p, p <= m -> dt m (fun i => if k < i /\ i < p then (fun c => f i c - a i * f k c) else f i) = dt m f := by
  intro p
  induction p with
  | zero => intro _; congr 1; funext i; rw [if_neg (by omega)]
  | succ p ih =>
   intro hp
   by_cases c : k < p
   ·rw [<- ih (by omega), <- zqj (n := m) (r := p) (k := k) (by omega) (by omega) (by omega) (fun i => if k < i /\ i < p then (fun c => f i c - a i * f k c) else f i) (a p)]
    congr 1
    funext i
    unfold z44
    by_cases e : i = p
    ·subst e
     have h1 : k < i /\ i < i + 1 := by omega
     have h2 : ¬ (k < i /\ i < i) := by omega
     have h3 : ¬ (k < k /\ k < i + 1) := by omega
     have h4 : ¬ (k < k /\ k < i) := by omega
     simp only [if_pos h1, if_neg h2, if_neg h3, if_neg h4, if_true]
    ·by_cases c2 : k < i /\ i < p
     ·have h1 : k < i /\ i < p + 1 := by omega
      simp only [if_pos h1, if_neg e, if_pos c2]
     ·have h1 : ¬ (k < i /\ i < p + 1) := by omega
      simp only [if_neg h1, if_neg e, if_neg c2]
   ·rw [<- ih (by omega)]
    congr 1
    funext i
    by_cases c2 : k < i /\ i < p
    ·rw [if_pos (by omega), if_pos c2]
    ·rw [if_neg (by omega), if_neg c2]
 rw [<- key m (Nat.le_refl _)]
 refine zje fun i c hi _ => ?_
 by_cases h : k < i
 ·rw [if_pos h, if_pos (by omega)]
 ·rw [if_neg h, if_neg (by omega)]
theorem zjg : ∀ {n : Nat} {f : Nat -> Nat -> Rat}, 0 < n -> (∀ i, i < n -> f i 0 = 0) -> dt n f = 0
 | 0, _, h, _ => absurd h (Nat.not_lt_zero _)
 | n + 1, f, _, h => by
  rw [dt]
  refine z89 fun k hk => ?_
  by_cases c : k = 0
  ·subst c; rw [h 0 (by omega)]; grind
  ·rw [zjg (n := n) (by omega) fun i hi => by unfold skp; rw [if_pos (by omega)]; exact h _ (by omega)]; grind
theorem zm1 {n : Nat} {f : Nat -> Nat -> Rat} (h : ∀ i, 0 < i -> i < n + 1 -> f i 0 = 0) : dt (n + 1) f = f 0 0 * dt n (fun r c => f (r + 1) (c + 1)) := by
 rw [dt, z8k (j := 0) (by omega) fun k hk hne => ?_]
 ·have e : (fun r c => f (r + 1) (skp 0 c)) = fun r c => f (r + 1) (c + 1) := by funext r c; simp [skp]
  have e2 : sg 0 = 1 := by simp [sg]
  rw [e, e2]; grind
 ·rw [zjg (n := n) (by omega) fun i hi => by unfold skp; rw [if_pos (by omega)]; exact h _ (by omega) (by omega)]; grind
theorem zm2 : ∀ {k n : Nat} {f : Nat -> Nat -> Rat}, k < n -> (∀ i c, c < k -> c < i -> i < n -> f i c = 0) -> (∀ i, k <= i -> i < n -> f i k = 0) -> dt n f = 0
 | 0, n, f, h, _, hz => zjg h fun i hi => hz i (by omega) hi
 | k + 1, 0, f, h, _, _ => absurd h (Nat.not_lt_zero _)
 | k + 1, n + 1, f, h, hl, hz => by
  rw [zm1 fun i h0 hi => hl i 0 (by omega) h0 hi, zm2 (k := k) (n := n) (f := fun r c => f (r + 1) (c + 1)) (by omega) (fun i c h1 h2 h3 => hl _ _ (by omega) (by omega) (by omega)) (fun i h1 h2 => hz _ (by omega) (by omega))]; grind
def pr (d : Nat -> Rat) : Nat -> Rat
 | 0 => 1
 | n + 1 => pr d n * d n
theorem zjh {d e : Nat -> Rat} : ∀ {n : Nat}, (∀ i, i < n -> d i = e i) -> pr d n = pr e n
 | 0, _ => rfl
 | n + 1, h => by rw [pr, pr, zjh fun i hi => h i (by omega), h n (by omega)]
theorem zm3 (d : Nat -> Rat) : ∀ n, pr d (n + 1) = d 0 * pr (fun i => d (i + 1)) n
 | 0 => by simp only [pr]; grind
 | n + 1 => by
  have h := zm3 d n
  have e : pr (fun i => d (i + 1)) (n + 1) = pr (fun i => d (i + 1)) n * d (n + 1) := rfl
  rw [pr, h, e]; grind
theorem zpd : ∀ {n : Nat} {f : Nat -> Nat -> Rat}, (∀ i c, c < i -> i < n -> f i c = 0) -> dt n f = pr (fun i => f i i) n
 | 0, _, _ => rfl
 | n + 1, f, h => by
  rw [zm1 fun i h0 hi => h i 0 h0 hi, zm3, zpd fun i c h1 h2 => h _ _ (by omega) (by omega)]
def gel (g : Nat -> Nat -> Rat) (k : Nat) : Nat -> Nat -> Rat := fun i => if k < i then (fun c => g i c - g i k / g k k * g k c) else g i
def tau (a b i : Nat) : Nat := if i = a then b else if i = b then a else i
theorem zm4 {α : Type} (f : Nat -> α) (a b : Nat) : swp f a b = fun i => f (tau a b i) := by
 funext i
 unfold swp tau
 split
 ·rfl
 ·split <;> rfl
structure Gs (n : Nat) (f0 : Nat -> Nat -> Rat) (k : Nat) (g : Nat -> Nat -> Rat) (d : Rat) (N : Nat) : Prop where
 ech : ∃ fJ piv, piv.length = k /\ Ech n f0 piv fJ k /\ ∀ i c, k <= i -> i < n -> g i c = fJ i c
 top : ∀ i c, i < k -> c < n -> Dl (g i c) N
 tri : ∀ i c, c < k -> c < i -> i < n -> g i c = 0
 perm : ∃ F s, (∀ i, i < n -> ∃ i', i' < n /\ F i = f0 i') /\ (∀ σ : Nat -> Nat, (∀ j, j < k -> σ j = j) -> (∀ j, k <= j -> k <= σ j) -> ∀ m, dt m (fun i => g (σ i)) = dt m (fun i => F (σ i))) /\ (s = 1 \/ s = -1) /\ dt n f0 = s * dt n F /\ d = s * pr (fun i => g i i) k
section
variable {n k i0 N R M : Nat} {f0 g : Nat -> Nat -> Rat} {d : Rat}
theorem Gs.start (n : Nat) (f : Nat -> Nat -> Rat) (N : Nat) : Gs n f 0 f 1 N :=
 ⟨⟨f, [], rfl, .start n f, fun _ _ _ _ => rfl⟩, fun i c h => by omega, fun i c h => by omega, f, 1, fun i hi => ⟨i, hi, rfl⟩, fun _ _ _ _ => rfl, .inl rfl, by grind, by simp only [pr]; grind⟩
theorem Gs.dl (G : Gs n f0 k g d N) (hd : ∀ i c, i < n -> c < n -> Dl (f0 i c) M) (hk : k <= n) (hn : n + 1 <= R) (hR : R <= 100) (hN : R * (M * (n + 1) + 2) + 1 <= N) : ∀ i c, i < n -> c < n -> Dl (g i c) N := by
 obtain ⟨fJ, piv, p1, p2, p3⟩ := G.ech
 intro i c hi hc
 by_cases h : i < k
 ·exact G.top i c h hc
 ·rw [p3 i c (by omega) hi]
  exact (p2.dl hd hk (by omega) hR i c hi hc).mono hN
theorem Gs.lead (G : Gs n f0 k g d N) (hk : k <= n) : ∃ F s, (∀ i, i < n -> ∃ i', i' < n /\ F i = f0 i') /\ (s = 1 \/ s = -1) /\ dt n f0 = s * dt n F /\ d = s * dt k F /\ dt n g = dt n F := by
 obtain ⟨F, s, h1, h2, h3, h4, h5⟩ := G.perm
 refine ⟨F, s, h1, h3, h4, ?_, h2 (fun i => i) (fun _ _ => rfl) (fun _ h => h) n⟩
 rw [<- h2 (fun i => i) (fun _ _ => rfl) (fun _ h => h) k, zpd fun i c h6 h7 => G.tri i c (by omega) h6 (by omega)]
 exact h5
theorem Gs.zero (G : Gs n f0 k g d N) (hk : k < n) (hz : ∀ i, k <= i -> i < n -> g i k = 0) : dt n f0 = 0 := by
 obtain ⟨F, s, h1, h2, h3, h4, h5⟩ := G.lead (by omega)
 rw [h3, <- h5, zm2 hk G.tri hz]; grind
theorem zpe {k i0 j : Nat} (h : k <= i0) (hj : k <= j) : k <= tau k i0 j := by
 unfold tau
 split
 ·exact h
 ·split <;> omega
theorem Gs.step (G : Gs n f0 k g d N) (hd : ∀ c, c < n -> Dl (g i0 c) N) (h1 : k <= i0) (h2 : i0 < n) (hne : g i0 k ≠ 0) : Gs n f0 (k + 1) (gel (swp g k i0) k) ((if i0 ≠ k then -d else d) * g i0 k) N := by
 obtain ⟨⟨fJ, piv, p1, p2, p3⟩, G2, G3, F, s, q1, q2, q3, q4, q5⟩ := G
 have sk : swp g k i0 k = g i0 := znl
 have slt : ∀ i, i < k -> swp g k i0 i = g i := fun i hi => zgt (by omega) (by omega)
 have glt : ∀ i, i < k -> gel (swp g k i0) k i = g i := fun i hi => by unfold gel; rw [if_neg (by omega), slt i hi]
 have gk : gel (swp g k i0) k k = g i0 := by unfold gel; rw [if_neg (by omega), sk]
 have ggt : ∀ i, k < i -> gel (swp g k i0) k i = fun c => swp g k i0 i c - swp g k i0 i k / g i0 k * g i0 c := fun i hi => by unfold gel; rw [if_pos hi, sk]
 have srow : ∀ i, k <= i -> i < n -> ∃ i', k <= i' /\ i' < n /\ swp g k i0 i = g i' /\ swp fJ k i0 i = fJ i' := fun i hi hh => zjb h1 h2 g fJ hi hh
 refine ⟨⟨clr (swp fJ k i0) k k, piv ++ [k], by simp [p1], ?_, fun i c hi hh => ?_⟩, fun i c hi hc => ?_, fun i c hc hi hh => ?_, ?_⟩
 ·have := p2.step (i0 := i0) (by omega) h2 (by rw [<- p3 i0 k h1 h2]; exact hne)
  rw [p1] at this; exact this
 ·obtain ⟨i', r1, r2, r3, r4⟩ := srow i (by omega) hh
  rw [ggt i (by omega), zbr (by omega), r3, r4, znl]
  show g i' c - g i' k / g i0 k * g i0 c = fJ i' c - fJ i' k * (fJ i0 c / fJ i0 k)
  rw [p3 i' c r1 r2, p3 i' k r1 r2, p3 i0 k h1 h2, p3 i0 c h1 h2, Rat.div_def, Rat.div_def]; grind
 ·by_cases e : i = k
  ·subst e; rw [gk]; exact hd c hc
  ·rw [glt i (by omega)]; exact G2 i c (by omega) hc
 ·by_cases e : i <= k
  ·by_cases e2 : i = k
   ·subst e2; rw [gk]; exact G3 i0 c hi (by omega) h2
   ·rw [glt i (by omega)]; exact G3 i c (by omega) hi hh
  ·obtain ⟨i', r1, r2, r3, _⟩ := srow i (by omega) hh
   rw [ggt i (by omega), r3]
   show g i' c - g i' k / g i0 k * g i0 c = 0
   by_cases e3 : c = k
   ·subst e3
    rw [Rat.div_def]
    have := Rat.inv_mul_cancel _ hne
    have e4 : g i' c * (g i0 c)⁻¹ * g i0 c = g i' c := by rw [Rat.mul_assoc, this, Rat.mul_one]
    rw [e4]; grind
   ·rw [G3 i' c (by omega) (by omega) r2, G3 i0 c (by omega) (by omega) h2]; grind
 ·refine ⟨swp F k i0, if i0 ≠ k then -s else s, fun i hh => ?_, fun σ s1 s2 m => ?_, ?_, ?_, ?_⟩
  ·unfold swp
   split
   ·exact q1 i0 h2
   ·split
    ·exact q1 k (by omega)
    ·exact q1 i hh
  ·have e1 : dt m (fun i => gel (swp g k i0) k (σ i)) = dt m (fun i => swp g k i0 (σ i)) := by
    rw [<- zpc (fun i => swp g k i0 (σ i)) (fun i => swp g k i0 (σ i) k / g i0 k) k m]
    congr 1
    funext i
    rw [s1 k (by omega), sk]
    by_cases c : k < i
    ·rw [if_pos c, ggt _ (s2 i (by omega))]
    ·rw [if_neg c, s1 i (by omega)]
     by_cases e : i = k
     ·rw [e, gk, sk]
     ·rw [glt i (by omega), slt i (by omega)]
   rw [e1, zm4, zm4]
   refine q2 (fun i => tau k i0 (σ i)) (fun j hj => ?_) (fun j hj => ?_) m
   ·rw [s1 j (by omega)]; unfold tau; rw [if_neg (by omega), if_neg (by omega)]
   ·by_cases e : j = k
    ·rw [e, s1 k (by omega)]; exact zpe h1 (Nat.le_refl _)
    ·have := s2 j (by omega)
     exact zpe h1 (by omega)
  ·by_cases e : i0 ≠ k
   ·rw [if_pos e]
    rcases q3 with rfl | rfl
    ·right; rfl
    ·left; grind
   ·rw [if_neg e]; exact q3
  ·rw [q4]
   by_cases e : i0 ≠ k
   ·rw [if_pos e, zqi (fun h => e h.symm) (by omega) h2]; grind
   ·have : i0 = k := by omega
    subst this
    rw [if_neg e]
    congr 2
    funext i
    unfold swp
    split
    ·rename_i h; rw [h]
    ·rfl
  ·rw [pr, gk, zjh (e := fun i => g i i) fun i hi => by rw [glt i hi], q5]
   by_cases e : i0 ≠ k
   ·rw [if_pos e, if_pos e]; grind
   ·rw [if_neg e, if_neg e]; grind
end
end Go.Am
/- Plain law: eliminations of rows of numbers: one row's loop, clear, the search for a row. -/
namespace Go.Am.Tryz
open Go Go.Am Go.Proofs
variable {K : Nat}
theorem Fam.set {α : Type} {P : Nat -> α -> Prop} {n j : Nat} {l : List α} {y : α} (h : Fam (fun i x => i ≠ j -> P i x) n l) (hy : P j y) : Fam P n (l.set j y) := by
 refine ⟨by simp [h.1], fun i hi => ?_⟩
 simp only [List.length_set] at hi
 rw [List.getElem_set]
 by_cases c : j = i
 ·subst c; rw [if_pos rfl]; exact hy
 ·rw [if_neg c]; exact h.2 i hi (fun e => c e.symm)
theorem MQ.congr {f g : Nat -> Nat -> Rat} {h w : Nat} {x : List (List Q)} (hx : MQ f h w x) (e : ∀ i c, i < h -> c < w -> f i c = g i c) : MQ g h w x :=
 Fam.mono hx fun i row hi hr => Fam.mono hr fun c q hc hq => by rw [<- e i c hi hc]; exact hq
def rmix (f : Nat -> Nat -> Rat) (G : Nat -> Rat) (i c0 j a b : Nat) : Rat := if a = i /\ c0 <= b /\ b < j then G b else f a b
theorem zm5 {f : Nat -> Nat -> Rat} {G : Nat -> Rat} {h w i c0 : Nat} {x : List (List Q)} (hx : MQ f h w x) (hi : i < h) (hc0 : c0 <= w) (hw : w <= 1048576) (hK : 2000000000 < K) (L : Nat -> List (List Q) -> Int -> Option (List (List Q)))
  (e : ∀ k acc, acc.length = h -> L (k + 1) acc (w : Int) = some acc)
  (s : ∀ k acc (c : Nat) row q, c0 <= c -> c < w -> MQ (rmix f G i c0 c) h w acc -> idx acc (i : Int) = some row -> idx row (c : Int) = some q -> QV q (f i c) -> ∃ q', QV q' (G c) /\ L (k + 1) acc (c : Int) = L k (acc.set i (row.set c q')) ((c + 1 : Nat) : Int)) :
  ∃ t, L K x (c0 : Int) = some t /\ MQ (rmix f G i c0 w) h w t := by
 refine z8f (fun k (s : List (List Q) × Int) => L k s.1 s.2) (fun s => ∃ j : Nat, s.2 = j /\ c0 <= j /\ j <= w /\ MQ (rmix f G i c0 j) h w s.1) (fun s => (w - s.2 : Int).toNat) _ ?_ ((x, (c0 : Int)) : List (List Q) × Int) (by dsimp only; omega) ⟨c0, rfl, Nat.le_refl _, hc0, hx.congr fun a b _ _ => by unfold rmix; rw [if_neg (by omega)]⟩
 rintro k ⟨o, _⟩ ⟨j, rfl, h0, h1, h2⟩
 dsimp only at h2 ⊢
 by_cases hj : j < w
 ·right
  obtain ⟨row, r1, r2⟩ := h2.idx hi
  obtain ⟨q, q1, q2⟩ := Fam.idx r2 hj
  have hq : QV q (f i j) := by
   have : rmix f G i c0 j i j = f i j := by unfold rmix; rw [if_neg (by omega)]
   rwa [this] at q2
  obtain ⟨q', q3, q4⟩ := s k o j row q h0 hj h2 r1 q1 hq
  refine ⟨(o.set i (row.set j q'), ((j + 1 : Nat) : Int)), q4, by dsimp only; omega, j + 1, rfl, by omega, by omega, ?_⟩
  have mc : ∀ r c, (r ≠ i \/ c ≠ j) -> rmix f G i c0 (j + 1) r c = rmix f G i c0 j r c := fun r c hne => by
   unfold rmix
   by_cases k : r = i /\ c0 <= c /\ c < j
   ·rw [if_pos k, if_pos (by omega)]
   ·rw [if_neg k, if_neg (by omega)]
  refine Fam.set (j := i) (h2.mono fun r y hr hy hne => ?_) ?_
  ·exact Fam.mono hy fun c q hc hq => by rw [mc r c (.inl hne)]; exact hq
  ·refine Fam.set (j := j) (Fam.mono r2 fun c q hc hq hne => ?_) ?_
   ·rw [mc i c (.inr hne)]; exact hq
   ·have : rmix f G i c0 (j + 1) i j = G j := by unfold rmix; rw [if_pos (by omega)]
    rw [this]; exact q3
 ·left
  have : j = w := by omega
  subst this
  exact ⟨o, e k o h2.1, h2⟩
theorem MQ.at {f : Nat -> Nat -> Rat} {h w i c : Nat} {x : List (List Q)} (hx : MQ f h w x) (hi : i < h) (hc : c < w) : ∃ row q, idx x (i : Int) = some row /\ row.length = w /\ idx row (c : Int) = some q /\ QV q (f i c) := by
 obtain ⟨row, r1, r2⟩ := hx.idx hi
 obtain ⟨q, q1, q2⟩ := Fam.idx r2 hc
 exact ⟨row, q, r1, r2.1, q1, q2⟩
theorem zqk {q : Q} {x : Rat} (h : QV q x) : ∃ s : Int, z39 K q = some s /\ (s = 0 ↔ x = 0) := by
 refine ⟨_, zmx h, ?_⟩
 by_cases c : x = 0
 ·simp [c]
 ·rw [if_neg c]; split <;> simp [c]
theorem zn8 {f : Nat -> Nat -> Rat} {h w r k N : Nat} {x : List (List Q)} (hx : MQ f h w x) (hr : r < h) (hk : k < w) (hh : h <= 40) (hw : w <= 1048576) (hN : 2 * N <= 7000000) (df : ∀ i c, i < h -> c < w -> Dl (f i c) N) (dq : ∀ c, c < w -> Dl (f r c / f r k) N) (hK : 2000000000 < K) :
  ∃ t, z5c K x (r : Int) (k : Int) = some t /\ MQ (clr f r k) h w t := by
 obtain ⟨row, by', r1, r2, r3, r4⟩ := hx.at hr hk
 obtain ⟨t, t1, t2⟩ := zm5 (K := K) (G := fun c => f r c / f r k) hx hr (Nat.zero_le w) (by omega) hK (z1r K (r : Int) by' row)
  (fun k acc _ => by rw [z1r, r2, if_neg (by simp)])
  (fun k' acc c row' q _ hc ha i1 i2 hq => by
   obtain ⟨p, p1, p2⟩ := zou (K := K) hq r4 (df r c hr hc) (df r k hr hk) (by omega) hK
   exact ⟨p, p2, by rw [z1r, r2, if_pos (lt_d hc)]; simp only [i1, i2, p1, z0d, Int.toNat_natCast, k1 (show c <= 1048576 by omega)]⟩)
 have t3 : MQ (fun i c => if i = r then f r c / f r k else f i c) h w t := t2.congr fun i c _ hc => by
  unfold rmix
  by_cases e : i = r
  ·rw [if_pos (by omega), if_pos e]
  ·rw [if_neg (by omega), if_neg e]
 have htl := t3.1
 have key : ∃ u : List (List Q), z10 K (r : Int) (k : Int) t K t 0 = some u /\ MQ (clr f r k) h w u := by
  refine z8f (fun n (s : List (List Q) × Int) => z10 K (r : Int) (k : Int) t n s.1 s.2) (fun s => ∃ i : Nat, s.2 = i /\ i <= h /\ MQ (fun a c => if a < i \/ a = r then clr f r k a c else f a c) h w s.1) (fun s => (h - s.2 : Int).toNat) _ ?_ ((t, 0) : List (List Q) × Int) (by dsimp only; omega) ⟨0, rfl, by omega, t3.congr fun a c _ _ => by
   by_cases e : a = r
   ·subst e; rw [if_pos rfl, if_pos (by omega)]; simp [clr]
   ·rw [if_neg e, if_neg (by omega)]⟩
  rintro n ⟨o, _⟩ ⟨i, rfl, h1, h2⟩
  dsimp only at h2 ⊢
  by_cases hi : i < h
  ·right
   obtain ⟨rw1, q, i1, i2, i3, i4⟩ := h2.at hi hk
   by_cases e : i = r
   ·refine ⟨(o, ((i + 1 : Nat) : Int)), ?_, by dsimp only; omega, i + 1, rfl, by omega, h2.congr fun a c _ _ => ?_⟩
    ·rw [z10, htl, if_pos (lt_d hi)]
     have heq : ((i : Int) == (r : Int)) = true := by simp [e]
     simp only [i1, i3, z0d, heq, if_true, tu1a, k1 (show i <= 1048576 by omega)]
    ·by_cases c1 : a < i \/ a = r
     ·rw [if_pos c1, if_pos (by omega)]
     ·rw [if_neg c1, if_neg (by omega)]
   ·have hne : ((i : Int) == (r : Int)) = false := by simp; omega
    rw [if_neg (by omega)] at i4
    obtain ⟨s, s1, s2⟩ := zqk (K := K) i4
    by_cases z : f i k = 0
    ·have hs : s = 0 := s2.2 z
     subst hs
     refine ⟨(o, ((i + 1 : Nat) : Int)), ?_, by dsimp only; omega, i + 1, rfl, by omega, h2.congr fun a c _ _ => ?_⟩
     ·rw [z10, htl, if_pos (lt_d hi)]
      simp only [i1, i3, z0d, hne, s1, beq_self_eq_true, if_true, Bool.false_eq_true, if_false, tu1a, k1 (show i <= 1048576 by omega)]
     ·by_cases c1 : a < i \/ a = r
      ·rw [if_pos c1, if_pos (by omega)]
      ·rw [if_neg c1]
       by_cases c2 : a = i
       ·subst c2; rw [if_pos (by omega), zbr e, z]; grind
       ·rw [if_neg (by omega)]
    ·have hs : (s == 0) = false := by simp; exact fun e => z (s2.1 e)
     obtain ⟨u, u1, u2⟩ := zm5 (K := K) (G := fun c => f i c - f i k * (f r c / f r k)) h2 hi (Nat.zero_le w) (by omega) hK (z1s K (r : Int) (i : Int) q rw1)
      (fun k acc _ => by rw [z1s, i2, if_neg (by simp)])
      (fun k' acc c row' q' _ hc ha j1 j2 hq => by
       rw [if_neg (by omega)] at hq
       obtain ⟨rr, qr, a1, a2, a3, a4⟩ := ha.at hr hc
       have er : rmix (fun a c => if a < i \/ a = r then clr f r k a c else f a c) (fun c => f i c - f i k * (f r c / f r k)) i 0 c r c = f r c / f r k := by
        unfold rmix
        rw [if_neg (by omega)]
        dsimp only
        rw [if_pos (by omega)]
        simp [clr]
       rw [er] at a4
       obtain ⟨p, p1, p2⟩ := zot (K := K) i4 a4 (df i k hi hk) (dq c hc) (by omega) hK
       obtain ⟨m, m1, m2⟩ := zos (K := K) (N := 2 * N) hq p2 ((df i c hi hc).mono (by omega)) (((df i k hi hk).mul (dq c hc)).mono (by omega)) (by omega) hK
       exact ⟨m, m2, by rw [z1s, i2, if_pos (lt_d hc)]; simp only [j1, j2, a1, a3, p1, m1, z0d, Int.toNat_natCast, k1 (show c <= 1048576 by omega)]⟩)
     refine ⟨(u, ((i + 1 : Nat) : Int)), ?_, by dsimp only; omega, i + 1, rfl, by omega, u2.congr fun a c _ hc => ?_⟩
     ·have u1' : z1s K (r : Int) (i : Int) q rw1 K o 0 = some u := u1
      rw [z10, htl, if_pos (lt_d hi)]
      simp only [i1, i3, z0d, hne, s1, hs, u1', Bool.false_eq_true, if_false, tu1a, k1 (show i <= 1048576 by omega)]
     ·unfold rmix
      by_cases c2 : a = i
      ·subst c2; rw [if_pos (by omega), if_pos (by omega), zbr e]
      ·rw [if_neg (by omega)]
       dsimp only
       by_cases c1 : a < i \/ a = r
       ·rw [if_pos c1, if_pos (by omega)]
       ·rw [if_neg c1, if_neg (by omega)]
  ·left
   have : i = h := by omega
   subst this
   refine ⟨o, by rw [z10, htl, if_neg (by simp)], h2.congr fun a c ha _ => ?_⟩
   rw [if_pos (by omega)]
 obtain ⟨u, u1, u2⟩ := key
 refine ⟨u, ?_, u2⟩
 have t1' : z1r K (r : Int) by' row K x 0 = some t := t1
 unfold z5c
 simp only [r1, r3, z0d, t1', tu1a, u1]
theorem zpf {f : Nat -> Nat -> Rat} {h w k a : Nat} {x : List (List Q)} (hx : MQ f h w x) (hk : k < w) (ha : a <= h) (hh : h <= 40) (hK : 2000000000 < K) (L : Nat -> Int -> Option Int)
  (e : ∀ n i, L (n + 1) i = (Option.bind ((if (decide (i < (List.length x : Int))) = true then ((idx x i).bind fun x59 => ((idx x59 (k : Int)).bind fun x68 => ((z39 K x68).bind fun x75 => some (x75 == 0)))) else some false)) (tu1 fun x88 => (if x88 = true then L n (z03 .i64 (i + 1)) else some i)))) :
  ∃ i : Nat, L K (a : Int) = some (i : Int) /\ a <= i /\ i <= h /\ (∀ j, a <= j -> j < i -> f j k = 0) /\ (i < h -> f i k ≠ 0) := by
 have hl := hx.1
 have key : ∃ o : Int, L K (a : Int) = some o /\ ∃ i : Nat, o = i /\ a <= i /\ i <= h /\ (∀ j, a <= j -> j < i -> f j k = 0) /\ (i < h -> f i k ≠ 0) := by
  refine z8f L (fun s => ∃ i : Nat, s = i /\ a <= i /\ i <= h /\ ∀ j, a <= j -> j < i -> f j k = 0) (fun s => (h - s : Int).toNat) _ ?_ (a : Int) (by omega) ⟨a, rfl, Nat.le_refl _, ha, fun j _ _ => by omega⟩
  rintro n _ ⟨i, rfl, h0, h1, h2⟩
  by_cases hi : i < h
  ·obtain ⟨row, q, i1, i2, i3, i4⟩ := hx.at hi hk
   obtain ⟨s, s1, s2⟩ := zqk (K := K) i4
   by_cases z : f i k = 0
   ·right
    have hs : s = 0 := s2.2 z
    subst hs
    refine ⟨((i + 1 : Nat) : Int), ?_, by omega, i + 1, rfl, by omega, by omega, fun j q1 q2 => ?_⟩
    ·rw [e, hl, if_pos (lt_d hi)]
     simp only [i1, i3, z0d, s1, beq_self_eq_true, if_true, tu1a, k1 (show i <= 1048576 by omega)]
    ·by_cases c : j = i
     ·rw [c]; exact z
     ·exact h2 j q1 (by omega)
   ·left
    have hs : (s == 0) = false := by simp; exact fun e => z (s2.1 e)
    refine ⟨_, ?_, i, rfl, h0, h1, h2, fun _ => z⟩
    rw [e, hl, if_pos (lt_d hi)]
    simp only [i1, i3, z0d, s1, hs, Bool.false_eq_true, if_false, tu1a]
  ·left
   have : i = h := by omega
   subst this
   refine ⟨_, ?_, i, rfl, h0, h1, h2, fun h => by omega⟩
   rw [e, hl, if_neg (by simp)]
   simp only [z0d, tu1a, Bool.false_eq_true, if_false]
 obtain ⟨o, o1, i, rfl, o2⟩ := key
 exact ⟨i, o1, o2⟩
theorem zql {f : Nat -> Nat -> Rat} {h w a b : Nat} {x : List (List Q)} {ra rb : List Q} (hx : MQ f h w x) (ha : a < h) (hb : b < h) (h1 : idx x (a : Int) = some ra) (h2 : idx x (b : Int) = some rb) : MQ (swp f a b) h w ((x.set a rb).set b ra) := by
 obtain ⟨ra', q1, q2⟩ := hx.idx ha
 obtain ⟨rb', q3, q4⟩ := hx.idx hb
 obtain rfl : ra = ra' := zAa (h1.symm.trans q1)
 obtain rfl : rb = rb' := zAa (h2.symm.trans q3)
 refine Fam.set (j := b) (Fam.mono (P := fun i row => i ≠ b -> FQ (swp f a b i) w row) (Fam.set (j := a) (hx.mono fun i row hi hr hne hnb => ?_) fun hne => ?_) fun i row hi hr => hr) ?_
 ·rw [zgt hne hnb]; exact hr
 ·rw [znl]; exact q4
 ·have : swp f a b b = f a := by unfold swp; by_cases c : b = a <;> simp [c]
  rw [this]; exact q2
end Go.Am.Tryz
/- Plain law: what Echelon, Unique and Solve return. -/
namespace Go.Am.Tryz
open Go Go.Am Go.Proofs
variable {K : Nat}
theorem zbs {piv : List Nat} : (piv.map Int.ofNat).length = piv.length := by simp
theorem zn9 {h w k : Nat} {f0 f : Nat -> Nat -> Rat} {piv : List Nat} (E : Ech h f0 piv f k) (hd : ∀ i c, i < h -> c < w -> Dl (f0 i c) 2000) (hk : k <= w) (hh : h <= 40) (hw : w <= 41) : ∀ i c, i < h -> c < w -> Dl (f i c) 3444083 := fun i c hi hc => by
 have := E.rh
 refine (E.dl (R := 41) hd hk (by omega) (by omega) i c hi hc).mono ?_
 have : 2000 * (w + 1) <= 2000 * 42 := Nat.mul_le_mul_left _ (by omega)
 omega
theorem zji {f : Nat -> Nat -> Rat} {h w n : Nat} {x : List (List Q)} (hx : MQ f h w x) (hh : h <= 40) (hw : w <= 41) (hn : n <= w) (hd : ∀ i c, i < h -> c < w -> Dl (f i c) 2000) (hK : 2000000000 < K) :
  ∃ piv t f' k, z41 K x (n : Int) = some (piv.map Int.ofNat, t) /\ MQ f' h w t /\ Ech h f piv f' k /\ k <= n /\ (k = n \/ piv.length = h) := by
 have key : ∃ o : List (List Q) × List Int, z0p K (n : Int) K [] x 0 = some o /\ ∃ piv f' k, o.2 = piv.map Int.ofNat /\ MQ f' h w o.1 /\ Ech h f piv f' k /\ k <= n /\ (k = n \/ piv.length = h) := by
  refine z8f (fun m (s : List Int × List (List Q) × Int) => z0p K (n : Int) m s.1 s.2.1 s.2.2) (fun s => ∃ piv f' k, s.1 = piv.map Int.ofNat /\ s.2.2 = ((k : Nat) : Int) /\ MQ f' h w s.2.1 /\ Ech h f piv f' k /\ k <= n) (fun s => (n - s.2.2 : Int).toNat) _ ?_ (([], x, 0) : List Int × List (List Q) × Int) (by dsimp only; omega) ⟨[], f, 0, rfl, rfl, hx, .start h f, by omega⟩
  rintro m ⟨_, o, _⟩ ⟨piv, f', k, rfl, rfl, ho, E, hkn⟩
  dsimp only at ho ⊢
  have hol := ho.1
  have hrh := E.rh
  by_cases hk : k < n
  ·by_cases hp : piv.length < h
   ·right
    obtain ⟨i, i1, i2, i3, i4, i5⟩ := zpf (K := K) (k := k) (a := piv.length) ho (by omega) (by omega) hh hK (z2e K o (k : Int)) (fun n i => by rw [z2e])
    have hc : (if (decide ((k : Int) < (n : Int))) = true then some (decide (((piv.map Int.ofNat).length : Int) < (o.length : Int))) else some false) = some true := by
     rw [zbs, hol, if_pos (lt_d hk), lt_d hp]
    by_cases hi : i < h
    ·obtain ⟨ra, a1, _⟩ := ho.idx hp
     obtain ⟨rb, b1, _⟩ := ho.idx hi
     have E2 := E.step i2 hi (i5 hi)
     have d1 := zn9 E hd (by omega) hh hw
     have d2 := zn9 E2 hd (by omega) hh hw
     have sw := zql ho hp hi a1 b1
     obtain ⟨t, t1, t2⟩ := zn8 (K := K) (N := 3444083) sw hp (show k < w by omega) hh (by omega) (by omega) (fun j c hj hc => by
       unfold swp
       split
       ·exact d1 i c hi hc
       ·split
        ·exact d1 piv.length c hp hc
        ·exact d1 j c hj hc) (fun c hc => by
       have := d2 piv.length c hp hc
       rw [zez] at this; exact this) hK
     refine ⟨((piv ++ [k]).map Int.ofNat, t, ((k + 1 : Nat) : Int)), ?_, by dsimp only; omega, piv ++ [k], _, k + 1, rfl, rfl, t2, E2, by omega⟩
     have hne : ((i : Int) == (o.length : Int)) = false := by rw [hol]; simp; omega
     rw [z0p, hc]
     simp only [z0d, tu1a, tu2a, if_true, zbs, i1, hne, Bool.false_eq_true, if_false, a1, b1, Int.toNat_natCast, t1, k1 (show k <= 1048576 by omega)]
     rw [if_pos (by simp; omega), z0d, tu2a]
     simp
    ·have : i = h := by omega
     subst this
     refine ⟨(piv.map Int.ofNat, o, ((k + 1 : Nat) : Int)), ?_, by dsimp only; omega, piv, f', k + 1, rfl, rfl, ho, E.skip (fun j h1 h2 => i4 j h1 h2), by omega⟩
     have heq : ((i : Int) == (o.length : Int)) = true := by rw [hol]; simp
     rw [z0p, hc]
     simp only [z0d, tu1a, tu2a, if_true, zbs, i1, heq, k1 (show k <= 1048576 by omega)]
   ·left
    refine ⟨(o, piv.map Int.ofNat), ?_, piv, f', k, rfl, ho, E, hkn, .inr (by omega)⟩
    rw [z0p, zbs, hol, if_pos (lt_d hk), z0d, tu1a, if_neg (by simp; omega)]
  ·left
   have : k = n := by omega
   subst this
   refine ⟨(o, piv.map Int.ofNat), ?_, piv, f', k, rfl, ho, E, hkn, .inl rfl⟩
   rw [z0p, if_neg (by simp), z0d, tu1a, if_neg (by simp)]
 obtain ⟨⟨t, p⟩, o1, piv, f', k, rfl, o2, o3, o4, o5⟩ := key
 refine ⟨piv, t, f', k, ?_, o2, o3, o4, o5⟩
 unfold z41
 rw [o1]; rfl
theorem zna {α : Type} {P : Nat -> α -> Prop} {n r : Nat} {l : List α} (h : Fam P n l) (hr : r <= n) : Fam (fun i => P (r + i)) (n - r) (l.drop r) := by
 refine ⟨by rw [List.length_drop, h.1], fun j hj => ?_⟩
 rw [List.getElem_drop]
 exact h.2 _ _
theorem znb {α : Type} {P : Nat -> α -> Prop} {n : Nat} {y : α} (h : ∀ i, i < n -> P i y) : Fam P n (List.replicate n y) := by
 refine ⟨by simp, fun j hj => ?_⟩
 rw [List.getElem_replicate]
 exact h j (by simpa using hj)
theorem zle {f : Nat -> Nat -> Rat} {h n : Nat} {g : List (List Q)} {b : List Q} (hg : MQ f h n g) (hb : FQ (fun i => f i n) h b) (hh : h <= 40) (hn : n <= 40) (hd : ∀ i c, i < h -> c < n + 1 -> Dl (f i c) 2000) (hK : 2000000000 < K) :
  ∃ l code, z4p K g b (n : Int) = some (l, code) /\ ((code = 0 /\ l = [] /\ ∀ x, ¬ Sol f h n x) \/ (code = 2 /\ l = [] /\ ∀ x, Sol f h n x -> ∃ y, Sol f h n y /\ ∃ c, c < n /\ y c ≠ x c) ∨
   (code = 1 /\ ∃ f' piv k, FQ (fun c => f' c n) n l /\ Ech h f piv f' k /\ k <= n /\ n <= h /\ ∀ y, Sol f h n y ↔ ∀ c, c < n -> y c = f' c n)) := by
 have hgl := hg.1
 have hbl := hb.1
 obtain ⟨x, x1, x2⟩ := z8i (K := K) h (z1w K g b) (fun i row => FQ (f i) (n + 1) row) (fun x => MQ f h (n + 1) x) (by omega)
  (fun k acc ha => ⟨acc, by rw [z1w, hgl, if_neg (by simp)], ha⟩)
  (fun k i acc hi ha => by
   right
   obtain ⟨row, r1, r2⟩ := hg.idx hi
   obtain ⟨q, q1, q2⟩ := Fam.idx hb hi
   have hrl := r2.1
   have hal := ha.1
   refine ⟨row ++ [q], r2.snoc q2, ?_⟩
   rw [z1w, hgl, if_pos (lt_d hi), r1, z0d, if_pos (by simp [hrl]; omega), q1, z0d, if_pos (by simp [hrl]; omega), if_pos (by simp [hal]; omega), List.nil_append, k1 (by omega)])
 obtain ⟨piv, t, f', k, e1, e2, e3, e4, e5⟩ := zji (K := K) x2 hh (by omega) (Nat.le_succ n) hd hK
 have hrh := e3.rh
 have htl := e2.1
 have hpl : ((piv.map Int.ofNat).length : Int) = (piv.length : Int) := by rw [zbs]
 have hls : lsl t (piv.length : Int) (t.length : Int) = some (t.drop piv.length) := by
  rw [lslI (by omega) (by omega) (by omega), Int.toNat_natCast, Int.toNat_natCast, List.take_of_length_le (by simp)]
 have hdr := zna e2 hrh
 have hdl := hdr.1
 have h2 : z0m K (n : Int) (t.drop piv.length) K 0 = some (.inl ([], 0)) /\ (∃ i, piv.length <= i /\ i < h /\ f' i n ≠ 0) \/ z0m K (n : Int) (t.drop piv.length) K 0 = some (.inr ()) /\ ∀ i, piv.length <= i -> i < h -> f' i n = 0 := by
  have key : ∃ o : (List Q × Int) ⊕ Unit, z0m K (n : Int) (t.drop piv.length) K 0 = some o /\ ((o = .inl ([], 0) /\ ∃ i, piv.length <= i /\ i < h /\ f' i n ≠ 0) \/ (o = .inr () /\ ∀ i, piv.length <= i -> i < h -> f' i n = 0)) := by
   refine z8f (z0m K (n : Int) (t.drop piv.length)) (fun s => ∃ i : Nat, s = i /\ i <= h - piv.length /\ ∀ j, j < i -> f' (piv.length + j) n = 0) (fun s => ((h - piv.length : Nat) - s : Int).toNat) _ ?_ (0 : Int) (by omega) ⟨0, rfl, by omega, fun j hj => by omega⟩
   rintro m _ ⟨i, rfl, i1, i2⟩
   by_cases hi : i < h - piv.length
   ·obtain ⟨row, q, a1, a2, a3, a4⟩ := MQ.at (f := fun i => f' (piv.length + i)) hdr hi (show n < n + 1 by omega)
    obtain ⟨s, s1, s2⟩ := zqk (K := K) a4
    by_cases z : f' (piv.length + i) n = 0
    ·right
     have hs : s = 0 := s2.2 z
     subst hs
     refine ⟨((i + 1 : Nat) : Int), ?_, by omega, i + 1, rfl, by omega, fun j hj => ?_⟩
     ·rw [z0m, hdl, if_pos (lt_d hi)]
      simp only [a1, a3, s1, z0d, k1 (show i <= 1048576 by omega)]
      rw [if_neg (by simp)]
     ·by_cases c : j = i
      ·rw [c]; exact z
      ·exact i2 j (by omega)
    ·left
     have hs : (s != 0) = true := by simp; exact fun e => z (s2.1 e)
     refine ⟨_, ?_, .inl ⟨rfl, piv.length + i, by omega, by omega, z⟩⟩
     rw [z0m, hdl, if_pos (lt_d hi)]
     simp only [a1, a3, s1, z0d, hs, if_true]
   ·left
    have : i = h - piv.length := by omega
    subst this
    refine ⟨.inr (), by rw [z0m, hdl, if_neg (by simp)], .inr ⟨rfl, fun j h1 h2 => ?_⟩⟩
    have := i2 (j - piv.length) (by omega)
    rwa [show piv.length + (j - piv.length) = j by omega] at this
  obtain ⟨o, o1, ⟨rfl, o2⟩ | ⟨rfl, o2⟩⟩ := key
  ·exact .inl ⟨o1, o2⟩
  ·exact .inr ⟨o1, o2⟩
 unfold z4p
 rw [x1, z0d, tu1a, e1, z0d]
 dsimp only
 rw [hpl, hls, z0d]
 rcases h2 with ⟨h3, i, i1, i2, i3⟩ | ⟨h3, h4⟩
 ·rw [h3]
  exact ⟨[], 0, rfl, .inl ⟨rfl, rfl, e3.none e4 e5 i1 i2 i3⟩⟩
 ·rw [h3, zid, tu0a]
  by_cases hp : piv.length < n
  ·rw [if_pos (lt_d hp)]
   exact ⟨[], 2, rfl, .inr (.inl ⟨rfl, rfl, e3.free e4 e5 hp⟩)⟩
  ·have hpn : piv.length = n := by
    by_cases c : 0 < piv.length
    ·have h5 := zn3 e3.inc (piv.length - 1) (by omega)
     have h6 := e3.lt (piv.length - 1) (by omega)
     omega
    ·omega
   have one := e3.one e4 e5 h4 hpn
   rw [if_neg (by simp; omega), if_pos (by omega), Int.toNat_natCast]
   have key : ∃ o : List Q, z1g K (n : Int) (piv.map Int.ofNat, t) K (List.replicate n (Q.mk false ([] : List Int) ([] : List Int))) 0 = some o /\ FQ (fun c => f' c n) n o := by
    refine z8f (fun m (s : List Q × Int) => z1g K (n : Int) (piv.map Int.ofNat, t) m s.1 s.2) (fun s => ∃ i : Nat, s.2 = i /\ i <= n /\ FQ (fun c => if c < i then f' c n else 0) n s.1) (fun s => (n - s.2 : Int).toNat) _ ?_ ((List.replicate n (Q.mk false ([] : List Int) ([] : List Int)), 0) : List Q × Int) (by dsimp only; omega) ⟨0, rfl, by omega, znb fun i _ => by dsimp only; rw [if_neg (by omega)]; exact QV.zero⟩
    rintro m ⟨o, _⟩ ⟨i, rfl, i1, i2⟩
    dsimp only at i2 ⊢
    have hol := i2.1
    by_cases hi : i < n
    ·right
     obtain ⟨row, q, a1, a2, a3, a4⟩ := e2.at (show i < h by omega) (show n < n + 1 by omega)
     obtain ⟨q0, q1, q2⟩ := Fam.idx i2 hi
     refine ⟨(o.set i q, ((i + 1 : Nat) : Int)), ?_, by dsimp only; omega, i + 1, rfl, by omega, Fam.set (j := i) (Fam.mono i2 fun c p hc hp hne => ?_) ?_⟩
     ·rw [z1g, Int.toNat_natCast, List.length_replicate]
      unfold lt
      simp only [lt_d hi, if_true, a1, a3, q1, z0d, Int.toNat_natCast, k1 (show i <= 1048576 by omega)]
     ·dsimp only at hp ⊢
      by_cases c1 : c < i
      ·rw [if_pos c1] at hp; rw [if_pos (by omega)]; exact hp
      ·rw [if_neg c1] at hp; rw [if_neg (by omega)]; exact hp
     ·dsimp only; rw [if_pos (by omega)]; exact a4
    ·left
     have : i = n := by omega
     subst this
     refine ⟨o, ?_, Fam.mono i2 fun c p hc hp => by dsimp only at hp; rw [if_pos hc] at hp; exact hp⟩
     rw [z1g, Int.toNat_natCast, List.length_replicate]
     unfold lt
     simp only [zr9, Bool.false_eq_true, if_false]
   obtain ⟨o, o1, o2⟩ := key
   rw [o1]
   exact ⟨o, 1, rfl, .inr (.inr ⟨rfl, f', piv, k, o2, e3, e4, by omega, one⟩)⟩
theorem znc {f : Nat -> Nat -> Rat} {m : List (List zAd)} {b : List zAd} {n : Nat} (sm : MOk m) (sb : b.length <= 1048576 /\ ∀ s ∈ b, s.size <= 1048576) (em : matE m = 0) (eb : vecE b = 0) (hl : m.length = b.length) (hw : wid m = n) (hm : MT f m.length n m) (hb : FT (fun i => f i n) m.length b) (hh : m.length <= 40) (hn : n <= 40) (hd : ∀ i c, i < m.length -> c < n + 1 -> Dl (f i c) 2000) (hK : 2000000000 < K) :
  ∃ s e, z30 K m b = some (s, e) /\ ((e = 8 /\ s = [] /\ ∀ x, ¬ Sol f m.length n x) \/ (e = 10 /\ s = [] /\ ∀ x, Sol f m.length n x -> ∃ y, Sol f m.length n y /\ ∃ c, c < n /\ y c ≠ x c) ∨
   (∃ f' piv k, Ech m.length f piv f' k /\ k <= n /\ n <= m.length /\ (∀ y, Sol f m.length n y ↔ ∀ c, c < n -> y c = f' c n) /\ ((∀ c, c < n -> Dl (f' c n) 2000) -> e = 0 /\ FT (fun c => f' c n) n s))) := by
 obtain ⟨g, g1, g2⟩ := zra (K := K) hm sm (by omega) hK
 obtain ⟨q, q1, q2⟩ := zp0 (K := K) hb sb.2 (by omega) hK
 obtain ⟨l, code, u1, u2⟩ := zle (K := K) g2 q2 hh hn hd hK
 unfold z30
 rw [zdc sm hK, em, z0d, if_neg (by simp), z8j sb.1 sb.2 hK, eb, z0d, if_neg (by simp), if_neg (by rw [hl]; simp), g1, z0d, q1, z0d, zn0, hw, z0d, u1, z0d]
 dsimp only
 rcases u2 with ⟨rfl, rfl, u3⟩ | ⟨rfl, rfl, u3⟩ | ⟨rfl, f', piv, k, u3, u4, u5, u6, u7⟩
 ·exact ⟨[], 8, rfl, .inl ⟨rfl, rfl, u3⟩⟩
 ·exact ⟨[], 10, rfl, .inr (.inl ⟨rfl, rfl, u3⟩)⟩
 ·have d := zn9 u4 hd (by omega) hh (by omega)
  obtain ⟨s, e, s1, s2⟩ := zqd (K := K) (N := 3444083) u3 (by omega) (by omega) (fun c hc => d c n (by omega) (by omega)) hK
  refine ⟨s, e, ?_, .inr (.inr ⟨f', piv, k, u4, u5, u6, u7, s2⟩)⟩
  rw [if_neg (by simp), if_neg (by simp), s1, z0d]
end Go.Am.Tryz
/- Plain law: what the reference's System returns; SolveSystems answers true. -/
namespace Go.Am.Tryz
open Go Go.Am Go.Proofs
variable {K : Nat}
def red (f : Nat -> Nat -> Rat) (a n j c : Nat) : Rat :=
 f (skp a j) (if c < n then c else n + 1) - f (skp a j) n / f a n * f a (if c < n then c else n + 1)
def zjj (f : Nat -> Nat -> Rat) (a n : Nat) (z : Nat -> Rat) : Rat := (f a (n + 1) - sr (fun c => f a c * z c) n) / f a n
theorem zm6 {f : Nat -> Nat -> Rat} {a n j : Nat} {z : Nat -> Rat} : sr (fun c => red f a n j c * z c) n = sr (fun c => f (skp a j) c * z c) n - f (skp a j) n / f a n * sr (fun c => f a c * z c) n := by
 rw [<- z75]
 refine z2y fun c hc => ?_
 unfold red
 rw [if_pos hc]; grind
theorem zjk {x y : Rat} (h : y ≠ 0) : x / y * y = x := by
 rw [Rat.div_def, Rat.mul_assoc, Rat.inv_mul_cancel _ h, Rat.mul_one]
theorem zjl {f : Nat -> Nat -> Rat} {a n h : Nat} (ha : a < h) (hne : f a n ≠ 0) (z : Nat -> Rat) : Sol f h (n + 1) z ↔ Sol (red f a n) (h - 1) n z /\ z n = zjj f a n z := by
 have e1 : ∀ i, sr (fun c => f i c * z c) (n + 1) = sr (fun c => f i c * z c) n + f i n * z n := fun i => rfl
 have ered : ∀ j, red f a n j n = f (skp a j) (n + 1) - f (skp a j) n / f a n * f a (n + 1) := fun j => by unfold red; rw [if_neg (by omega)]
 constructor
 ·intro hs
  have h1 := hs a ha
  rw [e1] at h1
  refine ⟨fun j hj => ?_, ?_⟩
  ·have hi : skp a j < h := by have := zn4 (k := a) hj; omega
   have h2 := hs _ hi
   rw [e1] at h2
   rw [zm6, ered]
   have h3 := zjk (x := f (skp a j) n) hne
   generalize f (skp a j) n / f a n = t at h3
   have h4 : sr (fun c => f (skp a j) c * z c) n = f (skp a j) (n + 1) - t * f a n * z n := by rw [h3]; grind
   have h5 : sr (fun c => f a c * z c) n = f a (n + 1) - f a n * z n := by grind
   rw [h4, h5]; grind
  ·unfold zjj
   have h5 : f a (n + 1) - sr (fun c => f a c * z c) n = z n * f a n := by grind
   rw [h5, Rat.div_def, Rat.mul_assoc, Rat.mul_inv_cancel _ hne, Rat.mul_one]
 ·rintro ⟨hs, hz⟩ i hi
  have h1 : f a n * z n = f a (n + 1) - sr (fun c => f a c * z c) n := by
   rw [hz]; unfold zjj; rw [Rat.mul_comm, zjk hne]
  rw [e1]
  by_cases c : i = a
  ·rw [c]; grind
  ·obtain ⟨j, hj, rfl⟩ : ∃ j, j < h - 1 /\ i = skp a j := by
    by_cases c2 : i < a
    ·exact ⟨i, by omega, by unfold skp; rw [if_pos c2]⟩
    ·exact ⟨i - 1, by omega, by unfold skp; rw [if_neg (by omega)]; omega⟩
   have h2 := hs j hj
   rw [zm6, ered] at h2
   have h3 := zjk (x := f (skp a j) n) hne
   generalize f (skp a j) n / f a n = t at h2 h3
   rw [<- h3]
   have h4 : t * f a n * z n = t * (f a n * z n) := by grind
   rw [h4, h1]; grind
def mf (l : Nat) : Nat := [13994, 3498, 874, 218, 54, 13].getD l 0
def vf (l : Nat) : Nat := [6997, 9621, 17493, 34385, 68579].getD l 0
def rb (n : Nat) : Nat -> Nat
 | 0 => mf n
 | j + 1 => rb n j + (mf n + vf j) + 1
theorem zpg : ∀ n, n < 5 -> 4 * mf (n + 1) + 2 = mf n /\ mf n <= 100000 /\ rb (n + 1) n + mf (n + 1) + 1 = vf n /\ rb (n + 1) n <= 99999 := by decide
theorem zrb : ∀ n, n < 5 -> ∀ j, j < n -> mf (n + 1) + vf j + rb (n + 1) j <= 99999 := by decide
theorem MT.at {f : Nat -> Nat -> Rat} {h w i c : Nat} {x : List (List zAd)} (hx : MT f h w x) (hi : i < h) (hc : c < w) : ∃ row q, idx x (i : Int) = some row /\ row.length = w /\ idx row (c : Int) = some q /\ RTx q (f i c) := by
 obtain ⟨row, r1, r2⟩ := Fam.idx hx hi
 obtain ⟨q, q1, q2⟩ := Fam.idx r2 hc
 exact ⟨row, q, r1, r2.1, q1, q2⟩
theorem zph {q : zAd} {x : Rat} (h : RTx q x) : sEq q ⟨#[48]⟩ = decide (x = 0) := by
 rw [z9k]
 exact decide_eq_decide.2 h.zero_iff
theorem znd {f : Nat -> Nat -> Rat} {h n : Nat} {x : List (List zAd)} (hx : MT f h (n + 2) x) (hh : h <= 5) (hn : n < 5) (hK : 2000000000 < K) :
  (z1i K ((n + 1 : Nat) : Int) x K (-1) 0 = some (-1) /\ ∀ i, i < h -> f i n = 0) \/ ∃ a : Nat, z1i K ((n + 1 : Nat) : Int) x K (-1) 0 = some (a : Int) /\ a < h /\ f a n ≠ 0 := by
 have hl := hx.1
 have hk : z03 .i64 (((n + 1 : Nat) : Int) - 1) = (n : Int) := by rw [k64 (by omega) (by omega)]; omega
 have key : ∃ o : Int, z1i K ((n + 1 : Nat) : Int) x K (-1) 0 = some o /\ ((o = -1 /\ ∀ i, i < h -> f i n = 0) \/ ∃ a : Nat, o = a /\ a < h /\ f a n ≠ 0) := by
  refine z8f (fun m (s : Int × Int) => z1i K ((n + 1 : Nat) : Int) x m s.1 s.2) (fun s => ∃ i : Nat, s.2 = i /\ i <= h /\ ((s.1 = -1 /\ ∀ j, j < i -> f j n = 0) \/ ∃ a : Nat, s.1 = a /\ a < h /\ f a n ≠ 0)) (fun s => (h - s.2 : Int).toNat) _ ?_ ((-1, 0) : Int × Int) (by dsimp only; omega) ⟨0, rfl, by omega, .inl ⟨rfl, fun j hj => by omega⟩⟩
  rintro m ⟨o, _⟩ ⟨i, rfl, i1, i2⟩
  dsimp only at i2 ⊢
  by_cases hi : i < h
  ·right
   obtain ⟨row, q, a1, a2, a3, a4⟩ := hx.at hi (show n < n + 2 by omega)
   by_cases z : f i n = 0
   ·refine ⟨(o, ((i + 1 : Nat) : Int)), ?_, by dsimp only; omega, i + 1, rfl, by omega, ?_⟩
    ·rw [z1i, hl, if_pos (lt_d hi)]
     simp only [a1, hk, a3, z0d, zph a4, z, decide_true, Bool.not_true, Bool.false_eq_true, if_false, tu1a, k1 (show i <= 1048576 by omega)]
    ·rcases i2 with ⟨i3, i4⟩ | i3
     ·refine .inl ⟨i3, fun j hj => ?_⟩
      by_cases c : j = i
      ·rw [c]; exact z
      ·exact i4 j (by omega)
     ·exact .inr i3
   ·rcases i2 with ⟨rfl, i4⟩ | ⟨a, rfl, i3, i4⟩
    ·refine ⟨((i : Int), ((i + 1 : Nat) : Int)), ?_, by dsimp only; omega, i + 1, rfl, by omega, .inr ⟨i, rfl, hi, z⟩⟩
     rw [z1i, hl, if_pos (lt_d hi)]
     simp only [a1, hk, a3, z0d, zph a4, z, decide_false, Bool.not_false, if_true, tu1a, k1 (show i <= 1048576 by omega)]
     rw [if_pos (by decide), z0d, tu1a]
    ·refine ⟨((a : Int), ((i + 1 : Nat) : Int)), ?_, by dsimp only; omega, i + 1, rfl, by omega, .inr ⟨a, rfl, i3, i4⟩⟩
     rw [z1i, hl, if_pos (lt_d hi)]
     have hlt : decide ((a : Int) < 0) = false := decide_eq_false (by omega)
     simp only [a1, hk, a3, z0d, zph a4, z, decide_false, Bool.not_false, if_true, tu1a, hlt, Bool.false_eq_true, if_false, k1 (show i <= 1048576 by omega)]
  ·left
   have : i = h := by omega
   subst this
   exact ⟨o, by rw [z1i, hl, if_neg (by simp)], i2⟩
 obtain ⟨o, o1, ⟨rfl, o2⟩ | ⟨a, rfl, o2⟩⟩ := key
 ·exact .inl ⟨o1, o2⟩
 ·exact .inr ⟨a, o1, o2⟩
theorem zpi {α : Type} {P : Nat -> α -> Prop} {n j : Nat} {l : List α} {y : α} (h : Fam P n l) (hj : j < n) (e : idx l (j : Int) = some y) : P j y := by
 obtain ⟨z, z1, z2⟩ := h.idx hj
 obtain rfl := zAa (e.symm.trans z1)
 exact z2
theorem zpj {f : Nat -> Nat -> Rat} {h n a : Nat} {x : List (List zAd)} (hx : MT f h (n + 2) x) (hh : h <= 5) (hn : n < 5) (ha : a < h) (hne : f a n ≠ 0) (hd : ∀ i c, i < h -> c < n + 2 -> Dl (f i c) (mf (n + 1))) (hK : 2000000000 < K) :
  ∃ r l, z2c K ((n + 1 : Nat) : Int) x (a : Int) K [] [] 0 = some (r, l) /\ MT (red f a n) (h - 1) n l /\ FT (fun j => red f a n j n) (h - 1) r := by
 have hl := hx.1
 have hk : z03 .i64 (((n + 1 : Nat) : Int) - 1) = (n : Int) := by rw [k64 (by omega) (by omega)]; omega
 obtain ⟨b1, b2, b3, b4⟩ := zpg n hn
 have key : ∃ o : List zAd × List (List zAd), z2c K ((n + 1 : Nat) : Int) x (a : Int) K [] [] 0 = some o /\ (MT (red f a n) (h - 1) n o.2 /\ FT (fun j => red f a n j n) (h - 1) o.1) := by
  refine z8f (fun m (s : List zAd × List (List zAd) × Int) => z2c K ((n + 1 : Nat) : Int) x (a : Int) m s.1 s.2.1 s.2.2) (fun s => ∃ i : Nat, s.2.2 = i /\ i <= h /\ MT (red f a n) (if i <= a then i else i - 1) n s.2.1 /\ FT (fun j => red f a n j n) (if i <= a then i else i - 1) s.1) (fun s => (h - s.2.2 : Int).toNat) _ ?_ (([], [], 0) : List zAd × List (List zAd) × Int) (by dsimp only; omega) ⟨0, rfl, by omega, by rw [if_pos (by omega)]; exact .nil, by rw [if_pos (by omega)]; exact .nil⟩
  rintro m ⟨r, l, _⟩ ⟨i, rfl, i1, i2, i3⟩
  dsimp only at i2 i3 ⊢
  by_cases hi : i < h
  ·right
   obtain ⟨row, q, a1, a2, a3, a4⟩ := hx.at hi (show n < n + 2 by omega)
   by_cases e : i = a
   ·refine ⟨(r, l, ((i + 1 : Nat) : Int)), ?_, by dsimp only; omega, i + 1, rfl, by omega, ?_⟩
    ·rw [z2c, hl, if_pos (lt_d hi)]
     have heq : ((i : Int) == (a : Int)) = true := by simp [e]
     simp only [a1, z0d, heq, if_true, tu2a, k1 (show i <= 1048576 by omega)]
    ·dsimp only
     rw [if_pos (by omega)] at i2 i3
     rw [if_neg (by omega)]
     exact ⟨i2, i3⟩
   ·have hne2 : ((i : Int) == (a : Int)) = false := by simp; omega
    obtain ⟨rowa, qa, c1, c2, c3, c4⟩ := hx.at ha (show n < n + 2 by omega)
    obtain ⟨by', t1, t2⟩ := zj6 (K := K) a4 c4 (hd i n hi (by omega)) (hd a n ha (by omega)) hne (by omega) hK
    have dby : Dl (f i n / f a n) (2 * mf (n + 1) + 1) := ((hd i n hi (by omega)).div (hd a n ha (by omega))).mono (by omega)
    have one : ∀ c s sa, c < n + 2 -> idx row (c : Int) = some s -> idx rowa (c : Int) = some sa -> ∃ p o, z5e K by' sa = some p /\ z5f K s p = some o /\ RTx o (f i c - f i n / f a n * f a c) := fun c s sa hc hs hsa => by
     have hsr : RTx s (f i c) := by
      obtain ⟨row', w1, w2⟩ := Fam.idx hx hi
      obtain rfl := zAa (a1.symm.trans w1)
      exact zpi w2 hc hs
     have hsa' : RTx sa (f a c) := by
      obtain ⟨row', w1, w2⟩ := Fam.idx hx ha
      obtain rfl := zAa (c1.symm.trans w1)
      exact zpi w2 hc hsa
     obtain ⟨p, p1, p2⟩ := zlv (K := K) (N := 2 * mf (n + 1) + 1) t2 hsa' dby ((hd a c ha hc).mono (by omega)) (by omega) hK
     obtain ⟨o, o1, o2⟩ := zlw (K := K) (N := 3 * mf (n + 1) + 1) hsr p2 ((hd i c hi hc).mono (by omega)) ((dby.mul (hd a c ha hc)).mono (by omega)) (by omega) hK
     exact ⟨p, o, p1, o1, o2⟩
    have getR : ∀ c, c < n + 2 -> ∃ s, idx row (c : Int) = some s := fun c hc => ⟨row[c], z3v (zAh (by omega))⟩
    have getA : ∀ c, c < n + 2 -> ∃ s, idx rowa (c : Int) = some s := fun c hc => ⟨rowa[c], z3v (zAh (by omega))⟩
    obtain ⟨v, v1, v2⟩ := z8i (K := K) n (z3q K ((n + 1 : Nat) : Int) x (a : Int) row by') (fun c s => RTx s (f i c - f i n / f a n * f a c)) (fun v => FT (fun c => f i c - f i n / f a n * f a c) n v) (by omega)
     (fun k acc ha => ⟨acc, by rw [z3q, hk, if_neg (by simp)], ha⟩)
     (fun k c acc hc hacc => by
      right
      obtain ⟨s, s1⟩ := getR c (by omega)
      obtain ⟨sa, s2⟩ := getA c (by omega)
      obtain ⟨p, o, p1, o1, o2⟩ := one c s sa (by omega) s1 s2
      have hal := hacc.1
      refine ⟨o, o2, ?_⟩
      rw [z3q, hk, if_pos (lt_d hc)]
      simp only [s1, c1, s2, p1, o1, z0d, k1 (show c <= 1048576 by omega)]
      rw [if_pos (by simp; omega)])
    obtain ⟨s, s1⟩ := getR (n + 1) (by omega)
    obtain ⟨sa, s2⟩ := getA (n + 1) (by omega)
    obtain ⟨p, o, p1, o1, o2⟩ := one (n + 1) s sa (by omega) s1 s2
    have hsk : skp a (if i <= a then i else i - 1) = i := by
     unfold skp
     by_cases c : i <= a
     ·rw [if_pos c, if_pos (by omega)]
     ·rw [if_neg c, if_neg (by omega)]; omega
    have hlen : (if i + 1 <= a then i + 1 else i + 1 - 1) = (if i <= a then i else i - 1) + 1 := by split <;> split <;> omega
    have hj : (if i <= a then i else i - 1) <= 5 := by split <;> omega
    have i2l := i2.1
    have i3l := i3.1
    refine ⟨(r ++ [o], l ++ [v], ((i + 1 : Nat) : Int)), ?_, by dsimp only; omega, i + 1, rfl, by omega, ?_⟩
    ·rw [z2c, hl, if_pos (lt_d hi)]
     simp only [a1, z0d, hne2, Bool.false_eq_true, if_false, hk, a3, c1, c3, t1, v1, tu1a]
     rw [if_pos (by rw [i2l]; simp; omega)]
     simp only [s1, s2, p1, o1, z0d]
     rw [if_pos (by rw [i3l]; simp; omega), z0d, tu2a, k1 (by omega)]
    ·dsimp only
     rw [hlen]
     refine ⟨Fam.snoc i2 (Fam.mono v2 fun c s hc hs => ?_), Fam.snoc i3 ?_⟩
     ·unfold red
      rw [hsk, if_pos hc]; exact hs
     ·show RTx o (red f a n (if i <= a then i else i - 1) n)
      unfold red
      rw [hsk, if_neg (by omega)]; exact o2
  ·left
   have : i = h := by omega
   subst this
   rw [if_neg (by omega)] at i2 i3
   exact ⟨(r, l), by rw [z2c, hl, if_neg (by simp)], i2, i3⟩
 obtain ⟨⟨r, l⟩, o1, o2, o3⟩ := key
 exact ⟨r, l, o1, o2, o3⟩
theorem zpk {f : Nat -> Nat -> Rat} {y : Nat -> Rat} {h n a : Nat} {x : List (List zAd)} {t : List zAd} {s0 : zAd} {is : Bool} (hx : MT f h (n + 2) x) (hn : n < 5) (ha : a < h) (hd : ∀ i c, i < h -> c < n + 2 -> Dl (f i c) (mf (n + 1))) (ht : FT y n t) (dy : ∀ c, c < n -> Dl (y c) (vf c)) (h0 : RTx s0 (f a (n + 1))) (hK : 2000000000 < K) :
  ∃ s, z2o K x (a : Int) (t, is) K s0 0 = some s /\ RTx s (f a (n + 1) - sr (fun c => f a c * y c) n) /\ Dl (f a (n + 1) - sr (fun c => f a c * y c) n) (rb (n + 1) n) := by
 have htl := ht.1
 refine z8f (fun m (s : zAd × Int) => z2o K x (a : Int) (t, is) m s.1 s.2) (fun s => ∃ i : Nat, s.2 = i /\ i <= n /\ RTx s.1 (f a (n + 1) - sr (fun c => f a c * y c) i) /\ Dl (f a (n + 1) - sr (fun c => f a c * y c) i) (rb (n + 1) i)) (fun s => (n - s.2 : Int).toNat) _ ?_ ((s0, 0) : zAd × Int) (by dsimp only; omega) ⟨0, rfl, by omega, by
   have e : f a (n + 1) - sr (fun c => f a c * y c) 0 = f a (n + 1) := by simp only [sr]; grind
   rw [e]; exact ⟨h0, hd a (n + 1) ha (by omega)⟩⟩
 rintro m ⟨o, _⟩ ⟨i, rfl, i1, i2, i3⟩
 dsimp only at i2 i3 ⊢
 by_cases hi : i < n
 ·right
  obtain ⟨row, q, a1, a2, a3, a4⟩ := hx.at ha (show i < n + 2 by omega)
  obtain ⟨u, u1, u2⟩ := Fam.idx ht hi
  have hb := zrb n hn i hi
  have dm := (hd a i ha (by omega)).mul (dy i hi)
  obtain ⟨p, p1, p2⟩ := zlv (K := K) (N := mf (n + 1) + vf i) a4 u2 ((hd a i ha (by omega)).mono (by omega)) ((dy i hi).mono (by omega)) (by omega) hK
  obtain ⟨w, w1, w2⟩ := zlw (K := K) (N := mf (n + 1) + vf i + rb (n + 1) i) i2 p2 (i3.mono (by omega)) (dm.mono (by omega)) (by omega) hK
  have e : f a (n + 1) - sr (fun c => f a c * y c) (i + 1) = f a (n + 1) - sr (fun c => f a c * y c) i - f a i * y i := by simp only [sr]; grind
  refine ⟨(w, ((i + 1 : Nat) : Int)), ?_, by dsimp only; omega, i + 1, rfl, by omega, by rw [e]; exact w2, by rw [e]; exact (i3.sub dm).mono (by simp only [rb]; omega)⟩
  rw [z2o, htl, if_pos (lt_d hi)]
  simp only [u1, a1, a3, p1, w1, z0d, k1 (show i <= 1048576 by omega)]
 ·left
  have : i = n := by omega
  subst this
  exact ⟨o, by rw [z2o, htl, if_neg (by simp)], i2, i3⟩
theorem zm7 {f : Nat -> Nat -> Rat} {h n : Nat} {m : List (List zAd)} {b : List zAd} (hm : MT f h n m) (hb : FT (fun i => f i n) h b) (hh : h <= 5) (hn : n <= 40) (hK : 2000000000 < K) : ∃ x, z36 K m b K [] 0 = some x /\ MT f h (n + 1) x := by
 have hml := hm.1
 exact z8i (K := K) h (z36 K m b) (fun i row => FT (f i) (n + 1) row) (fun x => MT f h (n + 1) x) (by omega)
  (fun k acc ha => ⟨acc, by rw [z36, hml, if_neg (by simp)], ha⟩)
  (fun k i acc hi ha => by
   right
   obtain ⟨row, r1, r2⟩ := Fam.idx hm hi
   obtain ⟨q, q1, q2⟩ := Fam.idx hb hi
   have hrl := r2.1
   have hal := ha.1
   refine ⟨row ++ [q], r2.snoc q2, ?_⟩
   rw [z36, hml, if_pos (lt_d hi), r1, z0d, if_pos (by simp [hrl]; omega), q1, z0d, if_pos (by simp [hrl]; omega), if_pos (by simp [hal]; omega), List.nil_append, k1 (by omega)])
theorem zlf : ∀ (n D : Nat) {f : Nat -> Nat -> Rat} {h : Nat} {m : List (List zAd)} {b : List zAd}, n <= 5 -> n < D -> h <= 5 -> MT f h n m -> FT (fun i => f i n) h b -> (∀ i c, i < h -> c < n + 1 -> Dl (f i c) (mf n)) -> 2000000000 < K ->
  ∃ y is, z67 K D m b (n : Int) = some (y, is) /\ ((is = true /\ ∃ x, FT x n y /\ (∀ c, c < n -> Dl (x c) (vf c)) /\ ∀ z, Sol f h n z ↔ ∀ c, c < n -> z c = x c) ∨
   (is = false /\ y = [] /\ ∀ z, Sol f h n z -> ∃ z', Sol f h n z' /\ ∃ c, c < n /\ z' c ≠ z c)) := by
 intro n
 induction n with
 | zero =>
  intro D f h m b _ hD hh hm hb hd hK
  obtain ⟨D, rfl⟩ : ∃ d, D = d + 1 := ⟨D - 1, by omega⟩
  obtain ⟨x, x1, x2⟩ := zm7 (K := K) hm hb hh (by omega) hK
  have hxl := x2.1
  rw [z67, x1, z0d, tu1a, if_pos (by omega), if_pos (by simp)]
  have key : ∃ o : (List zAd × Bool) ⊕ Unit, z2n K x K 0 = some o /\ ((o = .inl ([], false) /\ ∃ i, i < h /\ f i 0 ≠ 0) \/ (o = .inr () /\ ∀ i, i < h -> f i 0 = 0)) := by
   refine z8f (z2n K x) (fun s => ∃ i : Nat, s = i /\ i <= h /\ ∀ j, j < i -> f j 0 = 0) (fun s => (h - s : Int).toNat) _ ?_ (0 : Int) (by omega) ⟨0, rfl, by omega, fun j hj => by omega⟩
   rintro m _ ⟨i, rfl, i1, i2⟩
   by_cases hi : i < h
   ·obtain ⟨row, q, a1, a2, a3, a4⟩ := x2.at hi (show 0 < 0 + 1 by omega)
    have a3 : idx row 0 = some q := a3
    by_cases z : f i 0 = 0
    ·right
     refine ⟨((i + 1 : Nat) : Int), ?_, by omega, i + 1, rfl, by omega, fun j hj => ?_⟩
     ·rw [z2n, hxl, if_pos (lt_d hi)]
      simp only [a1, a3, z0d, zph a4, z, decide_true, Bool.not_true, Bool.false_eq_true, if_false, k1 (show i <= 1048576 by omega)]
     ·by_cases c : j = i
      ·rw [c]; exact z
      ·exact i2 j (by omega)
    ·left
     refine ⟨_, ?_, .inl ⟨rfl, i, hi, z⟩⟩
     rw [z2n, hxl, if_pos (lt_d hi)]
     simp only [a1, a3, z0d, zph a4, z, decide_false, Bool.not_false, if_true]
   ·left
    have : i = h := by omega
    subst this
    exact ⟨_, by rw [z2n, hxl, if_neg (by simp)], .inr ⟨rfl, i2⟩⟩
  obtain ⟨o, o1, ⟨rfl, i, i1, i2⟩ | ⟨rfl, o2⟩⟩ := key
  ·rw [o1]
   refine ⟨[], false, rfl, .inr ⟨rfl, rfl, fun z hz => ?_⟩⟩
   have := hz i i1
   simp only [sr] at this
   exact absurd this.symm i2
  ·rw [o1]
   refine ⟨[], true, rfl, .inl ⟨rfl, fun _ => 0, .nil, fun c hc => by omega, fun z => ⟨fun _ c hc => by omega, fun _ i hi => ?_⟩⟩⟩
   simp only [sr]
   exact (o2 i hi).symm
 | succ n ih =>
  intro D f h m b hn hD hh hm hb hd hK
  obtain ⟨D, rfl⟩ : ∃ d, D = d + 1 := ⟨D - 1, by omega⟩
  obtain ⟨b1, b2, b3, b4⟩ := zpg n (by omega)
  obtain ⟨x, x1, x2⟩ := zm7 (K := K) hm hb hh (by omega) hK
  have hxl := x2.1
  have hk : z03 .i64 (((n + 1 : Nat) : Int) - 1) = (n : Int) := by rw [k64 (by omega) (by omega)]; omega
  rw [z67, x1, z0d, tu1a, if_pos (by omega), if_neg (by simp; omega)]
  rcases znd (K := K) x2 hh (by omega) hK with ⟨p1, p2⟩ | ⟨a, p1, p2, p3⟩
  ·rw [p1, z0d, tu1a, if_pos (by decide)]
   refine ⟨[], false, rfl, .inr ⟨rfl, rfl, fun z hz => ⟨fun c => if c = n then z c + 1 else z c, fun i hi => ?_, n, by omega, ?_⟩⟩⟩
   ·have h1 := hz i hi
    rw [<- h1]
    simp only [sr]
    rw [p2 i hi, z2y (g := fun c => f i c * z c) fun c hc => by rw [if_neg (by omega)]]
    grind
   ·dsimp only; rw [if_pos rfl]; grind
  ·obtain ⟨r, l, l1, l2, l3⟩ := zpj (K := K) x2 hh (by omega) p2 p3 hd hK
   have dr : ∀ j c, j < h - 1 -> c < n + 1 -> Dl (red f a n j c) (mf n) := fun j c hj hc => by
    have hs : skp a j < h := by have := zn4 (k := a) hj; omega
    unfold red
    generalize hc2 : (if c < n then c else n + 1) = c2
    have hc3 : c2 < n + 1 + 1 := by rw [<- hc2]; split <;> omega
    exact ((hd _ c2 hs hc3).sub (((hd _ n hs (by omega)).div (hd a n p2 (by omega))).mul (hd a c2 p2 hc3))).mono (by omega)
   obtain ⟨y, is, y1, y2⟩ := ih D (by omega) (by omega) (by omega) l2 l3 dr hK
   have hlt : decide ((a : Int) < 0) = false := decide_eq_false (by omega)
   rw [p1, z0d, tu1a, hlt, if_neg (by simp), l1, z0d, tu2a, hk]
   dsimp only
   rw [y1, z0d]
   rcases y2 with ⟨rfl, u, u1, u2, u3⟩ | ⟨rfl, rfl, u3⟩
   ·obtain ⟨row, q, a1, a2, a3, a4⟩ := x2.at p2 (show n + 1 < n + 2 by omega)
    obtain ⟨s, s1, s2, s3⟩ := zpk (K := K) (is := true) x2 (by omega) p2 hd u1 u2 a4 hK
    obtain ⟨row', q', e1, e2, e3, e4⟩ := x2.at p2 (show n < n + 2 by omega)
    obtain ⟨w, w1, w2⟩ := zj6 (K := K) (N := 100000) s2 e4 (s3.mono (by omega)) ((hd a n p2 (by omega)).mono (by omega)) p3 (by omega) hK
    have hul := u1.1
    have hcp : cpy (List.replicate (n + 1) ByteArray.empty) y = y ++ [ByteArray.empty] := by
     unfold cpy
     rw [List.length_replicate, List.take_of_length_le (by omega), hul, List.drop_replicate]
     congr 1
     rw [show n + 1 - n = 1 by omega]; rfl
    have hlast : idx (y ++ [ByteArray.empty]) (n : Int) = some ByteArray.empty := z3v (by rw [<- hul, List.getElem?_append_right (Nat.le_refl _)]; simp)
    have hset : (y ++ [ByteArray.empty]).set n w = y ++ [w] := by rw [<- hul, List.set_append_right _ _ (Nat.le_refl _)]; simp
    obtain ⟨X, X1, X2⟩ : ∃ X : Nat -> Rat, (∀ c, c < n -> X c = u c) /\ X n = zjj f a n u := ⟨fun c => if c < n then u c else zjj f a n u, fun c hc => if_pos hc, if_neg (by omega)⟩
    obtain rfl := zAa (a1.symm.trans e1)
    refine ⟨y ++ [w], true, ?_, .inl ⟨rfl, X, ?_, fun c hc => ?_, fun z => ?_⟩⟩
    ·rw [if_neg (by simp), if_pos (by rw [Int.toNat_natCast]; simp), a1, z0d, a3, z0d]
     simp only [s1, z0d, tu1a, e3, w1, Int.toNat_natCast, hcp, hlast, hset]
    ·refine Fam.snoc (Fam.mono u1 fun c s hc hs => by rw [X1 c hc]; exact hs) ?_
     rw [X2]; exact w2
    ·by_cases c1 : c < n
     ·rw [X1 c c1]; exact u2 c c1
     ·have : c = n := by omega
      subst this
      rw [X2]
      unfold zjj
      exact (s3.div (hd a c p2 (by omega))).mono (by omega)
    ·rw [zjl p2 p3 z, u3 z]
     constructor
     ·rintro ⟨h1, h2⟩ c hc
      by_cases c1 : c < n
      ·rw [X1 c c1]; exact h1 c c1
      ·have : c = n := by omega
       subst this
       rw [X2, h2]
       unfold zjj
       rw [z2y fun i hi => by rw [h1 i hi]]
     ·intro h1
      have h2 : ∀ c, c < n -> z c = u c := fun c hc => by rw [h1 c (by omega), X1 c hc]
      refine ⟨h2, ?_⟩
      rw [h1 n (by omega), X2]
      unfold zjj
      rw [z2y (f := fun c => f a c * z c) fun i hi => by rw [h2 i hi]]
   ·rw [if_pos (by simp)]
    refine ⟨[], false, rfl, .inr ⟨rfl, rfl, fun z hz => ?_⟩⟩
    obtain ⟨h1, h2⟩ := (zjl p2 p3 z).1 hz
    obtain ⟨z', z1, c, c1, c2⟩ := u3 z h1
    obtain ⟨X, X1, X2⟩ : ∃ X : Nat -> Rat, (∀ c, c < n -> X c = z' c) /\ X n = zjj f a n z' := ⟨fun c => if c < n then z' c else zjj f a n z', fun c hc => if_pos hc, if_neg (by omega)⟩
    refine ⟨X, (zjl p2 p3 _).2 ⟨fun j hj => ?_, ?_⟩, c, by omega, ?_⟩
    ·have := z1 j hj
     rw [<- this]
     exact z2y fun c hc => by rw [X1 c hc]
    ·rw [X2]
     unfold zjj
     rw [z2y (f := fun c => f a c * X c) fun c hc => by rw [X1 c hc]]
    ·rw [X1 c c1]; exact c2
theorem zak {m : List (List zAd)} {b : List zAd} (sm : MOk m) (sb : b.length <= 1048576 /\ ∀ s ∈ b, s.size <= 1048576) : ∃ K, z3s K m b = some true := by
 refine ⟨2000000001, ?_⟩
 have hK : 2000000000 < 2000000001 := by omega
 unfold z3s
 rw [zdd, z0d, if_neg (by simp)]
 by_cases em : matE m = 0
 ·by_cases eb : vecE b = 0
  ·by_cases hl : m.length = b.length
   ·obtain ⟨f, f1, f2, f3, f4⟩ := zqc sm em
    obtain ⟨g, g1, g2, g3⟩ := zp1 sb.2 eb
    obtain ⟨F, F1, F2⟩ : ∃ F : Nat -> Nat -> Rat, (∀ i c, c < wid m -> F i c = f i c) /\ ∀ i, F i (wid m) = g i := ⟨fun i c => if c < wid m then f i c else g i, fun i c hc => if_pos hc, fun i => if_neg (by omega)⟩
    have m1 : MT F m.length (wid m) m := Fam.mono f1 fun i row hi hr => Fam.mono hr fun c s hc hs => by rw [F1 i c hc]; exact hs
    have m2 : FT (fun i => F i (wid m)) m.length b := by rw [hl]; exact Fam.mono g1 fun i s hi hs => by dsimp only; rw [F2 i]; exact hs
    have m3 : ∀ i c, i < m.length -> c < wid m + 1 -> Dl (F i c) 2000 := fun i c hi hc => by
     by_cases c1 : c < wid m
     ·rw [F1 i c c1]; exact f4 i c hi c1
     ·have : c = wid m := by omega
      rw [this, F2]; exact g3 i (by omega)
    obtain ⟨s, e, s1, s2⟩ := znc (K := 2000000001) sm sb em eb hl rfl m1 m2 f2 f3 m3 hK
    have hv : z73 2000000001 5 [m, [b]] = some (znk 5 [m, [b]]) := zoz (by simp) (fun x hx => by
     simp at hx
     rcases hx with rfl | rfl
     ·exact sm
     ·exact ⟨by simp, fun row hr => by simp at hr; subst hr; exact sb⟩) hK
    have hne : ((m.length : Int) != (b.length : Int)) = false := by rw [hl]; simp
    have ft : z52 2000000001 [0, 0] = some 0 := by rw [zav hK]; rfl
    rw [s1, zau sm hK, z9l sb.1 sb.2 hK, em, eb, z0d, z0d, z0d, ft, z0d, if_pos (by decide), z0d, tu1a, hne, if_neg (by simp), z0d, tu1a, if_neg (by simp), hv, z0d]
    cases hc : znk 5 [m, [b]] with
    | true => rfl
    | false =>
     rw [if_neg (by simp), zl8, z0d]
     have v1 := zea hc m (by simp)
     have v2 := (zea hc [b] (by simp)).2 b (by simp)
     have wm : wid m <= 5 := by
      by_cases h0 : 0 < m.length
      ·have := (v1.2 m[0] (List.getElem_mem h0)).1
       have e0 : wid m = m[0].length := by unfold wid; rw [zAb, zAh h0]; rfl
       omega
      ·have : m = [] := List.length_eq_zero_iff.1 (by omega)
       subst this
       show 0 <= 5
       omega
     have d13 : ∀ i c, i < m.length -> c < wid m + 1 -> Dl (F i c) 13 := fun i c hi hc => by
      by_cases c1 : c < wid m
      ·rw [F1 i c c1]; exact zj9 (f1.2 i hi) (fun s hs => (v1.2 _ (List.getElem_mem hi)).2 s hs) c c1
      ·have : c = wid m := by omega
       rw [this, F2]; exact zj9 g1 v2.2 i (by omega)
     have h5 : m.length <= 5 := by omega
     obtain ⟨y, is, y1, y2⟩ := zlf (K := 2000000001) (wid m) 2000000001 wm (by omega) h5 m1 m2 (fun i c hi hc => (d13 i c hi hc).mono (by
      have : ∀ n, n < 6 -> 13 <= mf n := by decide
      exact this _ (by omega))) hK
     rw [y1, z0d]
     rcases y2 with ⟨rfl, x, x1, x2, x3⟩ | ⟨rfl, rfl, x3⟩
     ·have hx : Sol F m.length (wid m) x := (x3 x).2 fun _ _ => rfl
      rcases s2 with ⟨rfl, rfl, s3⟩ | ⟨rfl, rfl, s3⟩ | ⟨f', piv, k, s3, s4, s5, s6, s7⟩
      ·exact absurd hx (s3 x)
      ·obtain ⟨z, z1, c, c1, c2⟩ := s3 x hx
       exact absurd ((x3 z).1 z1 c c1) c2
      ·have hxf := (s6 x).1 hx
       obtain ⟨rfl, s8⟩ := s7 fun c hc => by
        refine (s3.dl (R := 6) (M := 13) (w := wid m + 1) d13 (by omega) (by have := s3.rh; omega) (by omega) c (wid m) (by omega) (by omega)).mono ?_
        have : 13 * (wid m + 1 + 1) <= 13 * 7 := Nat.mul_le_mul_left _ (by omega)
        omega
       have hsx : FT x (wid m) s := Fam.mono s8 fun c t hc ht => by rw [hxf c hc]; exact ht
       have hsy : s = y := FT.uniq hsx x1
       subst hsy
       have hsl : s.length = wid m := hsx.1
       rw [if_neg (by simp), if_pos (by simp), zl9 (l := s) (by omega) hK]
       rfl
     ·rw [if_pos (by simp)]
      rcases s2 with ⟨rfl, rfl, s3⟩ | ⟨rfl, rfl, s3⟩ | ⟨f', piv, k, s3, s4, s5, s6, s7⟩
      ·rfl
      ·rfl
      ·exfalso
       obtain ⟨z, z1, c, c1, c2⟩ := x3 (fun c => f' c (wid m)) ((s6 _).2 fun _ _ => rfl)
       exact c2 ((s6 z).1 z1 c c1)
   ·have hne : ((m.length : Int) != (b.length : Int)) = true := ne_len.2 hl
    unfold z30
    rw [zdc sm hK, z8j sb.1 sb.2 hK, zau sm hK, z9l sb.1 sb.2 hK]
    simp [em, eb, hne, z0d, tu1a, zav hK]
  ·unfold z30
   rw [zdc sm hK, z8j sb.1 sb.2 hK, zau sm hK, z9l sb.1 sb.2 hK]
   simp [em, eb, z0d, tu1a, zav hK]
 ·unfold z30
  rw [zdc sm hK, zau sm hK, z9l sb.1 sb.2 hK]
  simp [em, z0d, tu1a, zav hK]
end Go.Am.Tryz
/- From a statement's arguments, read as data, to typed data. -/
namespace Go.Am
open Go Go.Proofs.YtdogeclnbdldaaaGreatDoor
section
variable {H : Type} {P : Program} {G : GM} {n B : Nat} {t e : TypeId} {α β S : Type} {r : RT α} {s : RT β} {I : α -> Prop} {J : β -> Prop}
theorem zne {H : Type} (d : DataW H) : 1 <= Rows.uptoBulk d := by
 cases d with
 | lit l => cases l <;> simp [Rows.uptoBulk]
 | _ => simp [Rows.uptoBulk]
theorem zjm {H : Type} : ∀ (ds : List (DataW H)), ds.length <= Rows.uptoBulkAll ds
 | [] => Nat.zero_le _
 | d :: r => by
  have := zjm r
  have := zne d
  simp only [Rows.uptoBulkAll, List.length_cons]; omega
def Arg (H : Type) (P : Program) (G : GM) (n : Nat) (t : TypeId) (r : RT α) (B : Nat) (I : α -> Prop) : Prop := ∀ (cs : List Value) (d : DataW H), AData P G n t cs d -> Rows.uptoBulk d <= B -> ∃ x, r.rep G cs x /\ I x
def ArgS (H : Type) (P : Program) (G : GM) (n : Nat) (ts : List TypeId) (r : RT α) (B : Nat) (I : α -> Prop) : Prop :=
 ∀ (css : List (List Value)) (ds : List (DataW H)), AllD (AData P G n) P.cellsOf ts css ds -> Rows.uptoBulkAll ds <= B -> ∃ x, r.rep G css.flatten x /\ I x
theorem znf {k : IntKind} {x : Int} (h : (Lit.int k x).wf = true) : z93 k x = true := by
 cases k <;> simp [Lit.wf, IntKind.min, IntKind.max, IntKind.signed, IntKind.bits] at h <;> simp [z93] <;> omega
theorem Arg.mono {I J : α -> Prop} (h : Arg H P G n t r B I) (k : ∀ x, I x -> J x) : Arg H P G n t r B J := fun cs d hd hb => by
 obtain ⟨x, h1, h2⟩ := h cs d hd hb
 exact ⟨x, h1, k x h2⟩
theorem Arg.int {k : IntKind} (hu : P.underlying t = some (.int k)) : Arg H P G (n + 1) t (rI k) B (fun x => z93 k x = true) := fun cs d h _ => by
 unfold AData at h
 simp only [hu] at h
 obtain ⟨x, h1, h2, h3⟩ := h
 exact ⟨x, h1, znf h3⟩
theorem Arg.bool (hu : P.underlying t = some .bool) : Arg H P G (n + 1) t rB B (fun _ => True) := fun cs d h _ => by
 unfold AData at h
 simp only [hu] at h
 obtain ⟨x, h1, _⟩ := h
 exact ⟨x, h1, trivial⟩
theorem Arg.str (hu : P.underlying t = some .string) : Arg H P G (n + 1) t rS B (fun x => x.size <= B) := fun cs d h hb => by
 unfold AData at h
 simp only [hu] at h
 obtain ⟨x, h1, h2, _⟩ := h
 refine ⟨x, h1, ?_⟩
 rw [h2] at hb
 simp only [Rows.uptoBulk, Array.length_toList] at hb
 have : x.data.size = x.size := rfl
 omega
theorem zde (h : Arg H P G n e r B I) : ∀ (k : Nat) (css : List (List Value)) (ds : List (DataW H)), AllD (AData P G n) P.cellsOf (List.replicate k e) css ds -> Rows.uptoBulkAll ds <= B -> ∃ xs : List α, All2 (r.rep G) css xs /\ (∀ x ∈ xs, I x) /\ xs.length = k
 | 0, [], [], _, _ => ⟨[], .nil, by simp, rfl⟩
 | 0, _ :: _, _, h, _ => by simp [List.replicate, AllD] at h
 | 0, [], _ :: _, h, _ => by simp [List.replicate, AllD] at h
 | k + 1, [], _, h, _ => by simp [List.replicate, AllD] at h
 | k + 1, _ :: _, [], h, _ => by simp [List.replicate, AllD] at h
 | k + 1, c :: css, d :: ds, hA, hb => by
  simp only [List.replicate, AllD] at hA
  simp only [Rows.uptoBulkAll] at hb
  obtain ⟨x, h1, h2⟩ := h _ _ hA.1.1 (by omega)
  obtain ⟨xs, h3, h4, h5⟩ := zde h k css ds hA.2 (by omega)
  refine ⟨x :: xs, .cons h1 h3, fun y hy => ?_, by simp [h5]⟩
  rcases List.mem_cons.1 hy with rfl | hy
  ·exact h2
  ·exact h4 y hy
theorem zg6 {R : TypeId -> List Value -> DataW H -> Prop} {sz : TypeId -> Nat} : ∀ (k : Nat) {ts : List TypeId} {cs : List (List Value)} {ds : List (DataW H)}, AllD R sz ts cs ds -> AllD R sz (ts.take k) (cs.take k) (ds.take k)
 | 0, _, _, _, _ => by simp [AllD]
 | k + 1, [], [], [], _ => by simp [AllD]
 | k + 1, _ :: _, _ :: _, _ :: _, h => by simp only [List.take_succ_cons]; exact ⟨h.1, zg6 k h.2⟩
theorem zjn {R : TypeId -> List Value -> DataW H -> Prop} {sz : TypeId -> Nat} {e : TypeId} : ∀ (k : Nat) (css : List (List Value)) (ds : List (DataW H)), AllD R sz (List.replicate k e) css ds -> ∀ c ∈ css, c.length = sz e
 | 0, [], [], _, c, hc => by simp at hc
 | 0, _ :: _, _, h, _, _ => by simp [List.replicate, AllD] at h
 | 0, [], _ :: _, h, _, _ => by simp [List.replicate, AllD] at h
 | k + 1, [], _, h, _, _ => by simp [List.replicate, AllD] at h
 | k + 1, _ :: _, [], h, _, _ => by simp [List.replicate, AllD] at h
 | k + 1, c :: css, d :: ds, hA, u, hu => by
  simp only [List.replicate, AllD] at hA
  rcases List.mem_cons.1 hu with rfl | hu
  ·exact hA.1.2
  ·exact zjn k css ds hA.2 u hu
theorem Arg.sl (hu : P.underlying t = some (.slice e)) (h : Arg H P G n e r B I) : Arg H P G (n + 1) t (rSl r) B (fun xs => xs.length <= B /\ ∀ x ∈ xs, I x) := fun cs d hA hb => by
 unfold AData at hA
 simp only [hu] at hA
 rcases hA with ⟨h1, h2⟩ | ⟨b, len, cap, elems, spare, css, h1, h2, h3, h4, _, h6, h7⟩
 ·subst h1
  exact ⟨[], zem, Nat.zero_le _, by simp⟩
 ·subst h2
  simp only [Rows.uptoBulk] at hb
  have hlen := zjm elems
  have h8 := zg6 len h7
  rw [List.take_replicate, show min len cap = len by omega, <- h3, List.take_left] at h8
  obtain ⟨xs, k1, k2, k3⟩ := zde h elems.length (css.take elems.length) elems h8 (by omega)
  refine ⟨xs, ?_, by omega, k2⟩
  have hcl := zjn _ _ _ h7
  have hel := k1.length
  by_cases hz : elems.length = 0
  ·have hx : xs = [] := List.length_eq_zero_iff.1 (by omega)
   subst hx
   refine ⟨_, [], h1, ⟨by simp, .inr (.inr ⟨b, 0, some 0, cap, by rw [<- h3, hz], rfl, .inr rfl⟩)⟩, .nil⟩
  ·rcases h6 with h6 | ⟨x, g1, _, g3⟩
   ·omega
   ·refine ⟨_, css.take elems.length, h1, ⟨k1.each, .inr (.inl ⟨b, 0, some 0, cap, x, by rw [hel, k3, <- h3], g1, ?_, ?_, by rw [hel, k3]; omega, .inr rfl⟩)⟩, k1⟩
    ·rw [g3]
     have h9 : css.flatten = (css.take elems.length).flatten ++ (css.drop elems.length).flatten := by rw [<- List.flatten_append, List.take_append_drop]
     rw [h9, List.length_append, k1.flatLen, hel]; omega
    ·rw [g3, List.drop_zero]
     have h9 : css.flatten = (css.take elems.length).flatten ++ (css.drop elems.length).flatten := by rw [<- List.flatten_append, List.take_append_drop]
     have h10 : (css.take elems.length).length * r.sz = (css.take elems.length).flatten.length := by rw [k1.flatLen, hel]
     rw [h9, h10, List.take_left]
theorem Arg.arr {k : Nat} (hu : P.underlying t = some (.array k e)) (h : Arg H P G n e r B I) : Arg H P G (n + 1) t (rArr k r) B (fun xs => xs.length = k /\ ∀ x ∈ xs, I x) := fun cs d hA hb => by
 unfold AData at hA
 simp only [hu] at hA
 obtain ⟨css, parts, h1, h2, h3⟩ := hA
 subst h2
 simp only [Rows.uptoBulk] at hb
 obtain ⟨xs, k1, k2, k3⟩ := zde h k css parts h3 (by omega)
 exact ⟨xs, ⟨k3, css, h1, k1⟩, k3, k2⟩
theorem ArgS.one (h : Arg H P G n t r B I) : ArgS H P G n [t] r B I := fun css ds hA hb => by
 match css, ds, hA with
 | [c], [d], hA =>
  simp only [Rows.uptoBulkAll] at hb
  obtain ⟨x, h1, h2⟩ := h c d hA.1.1 (by omega)
  exact ⟨x, by simpa using h1, h2⟩
 | [], _, hA => simp [AllD] at hA
 | _ :: _ :: _, [], hA => simp [AllD] at hA
 | _ :: _ :: _, [_], hA => simp [AllD] at hA
 | _ :: _ :: _, _ :: _ :: _, hA => simp [AllD] at hA
 | [_], [], hA => simp [AllD] at hA
 | [_], _ :: _ :: _, hA => simp [AllD] at hA
theorem ArgS.cons {ts : List TypeId} (h : Arg H P G n t r B I) (k : ArgS H P G n ts s B J) : ArgS H P G n (t :: ts) (rP r s) B (fun x => I x.1 /\ J x.2) := fun css ds hA hb => by
 match css, ds, hA with
 | c :: css, d :: ds, hA =>
  simp only [Rows.uptoBulkAll] at hb
  obtain ⟨x, h1, h2⟩ := h c d hA.1.1 (by omega)
  obtain ⟨y, h3, h4⟩ := k css ds hA.2 (by omega)
  exact ⟨(x, y), ⟨c, css.flatten, by simp, h1, h3⟩, h2, h4⟩
 | [], _, hA => simp [AllD] at hA
 | _ :: _, [], hA => simp [AllD] at hA
theorem Arg.struct {fs : Array Field} {ts : List TypeId} (hu : P.underlying t = some (.struct fs)) (hts : fs.toList.map (·.type) = ts) (h : ArgS H P G n ts r B I) (f : S -> α) (g : α -> S) (hg : ∀ p, f (g p) = p) : Arg H P G (n + 1) t (rIso r f) B (fun x => I (f x)) := fun cs d hA hb => by
 unfold AData at hA
 simp only [hu] at hA
 obtain ⟨css, parts, h1, h2, h3⟩ := hA
 subst h2
 simp only [Rows.uptoBulk] at hb
 rw [hts] at h3
 obtain ⟨p, k1, k2⟩ := h css parts h3 (by omega)
 exact ⟨g p, by rw [h1]; show r.rep G css.flatten (f (g p)); rw [hg]; exact k1, by show I (f (g p)); rw [hg]; exact k2⟩
theorem AArgs.cons_inv {ts : List TypeId} {avs : List Value} {ds : List (DataW H)} (h : AArgs P G n (t :: ts) avs ds) : ∃ v vs d dr, avs = v :: vs /\ ds = d :: dr /\ AVal P G n t v d /\ AArgs P G n ts vs dr := by
 match avs, ds, h with
 | v :: vs, d :: dr, h => exact ⟨v, vs, d, dr, rfl, rfl, h.1, h.2⟩
 | [], _, h => simp [AArgs] at h
 | _ :: _, [], h => simp [AArgs] at h
theorem AArgs.nil_inv {avs : List Value} {ds : List (DataW H)} (h : AArgs P G n [] avs ds) : avs = [] /\ ds = [] := by
 match avs, ds, h with
 | [], [], h => exact ⟨rfl, rfl⟩
 | [], _ :: _, h => simp [AArgs] at h
 | _ :: _, _, h => simp [AArgs] at h
theorem AVal.one {v : Value} {d : DataW H} (hu : z3w P t = some false) (h : AVal P G n t v d) : AData P G n t [v] d := by
 unfold AVal at h
 unfold z3w at hu
 split at h
 ·rename_i q; rw [q] at hu; cases hu
 ·rename_i q; rw [q] at hu; cases hu
 ·exact h
theorem AVal.agg {v : Value} {d : DataW H} (hu : z3w P t = some true) (h : AVal P G n t v d) : ∃ cs, v = .agg (List.toArray cs) /\ AData P G n t cs d := by
 unfold AVal at h
 unfold z3w at hu
 split at h
 ·exact h
 ·exact h
 ·rename_i q1 q2
  split at hu
  ·rename_i q; exact absurd q (q1 _)
  ·rename_i q; exact absurd q (q2 _ _)
  ·cases hu
  ·cases hu
theorem Ow.empty (A : AH) : Ow A.get A [] := ⟨fun _ _ h => h, fun i e h => by simp at h, fun i j e e' _ h => by simp at h, fun i e h => by simp at h⟩
theorem CR.done {f : FuncId} {args : List Value} {A : AH} {b : Value} (h : CR P f args A.get A [] fun v _ _ => v = b) : ∃ A', ACalls P f args A b A' := by
 obtain ⟨v, H', G', h1, _, _, rfl⟩ := h
 exact ⟨H', h1⟩
end
end Go.Am
/- SolveSystems over the statement's reading of its arguments. -/
namespace Go.Am.Tryz
open Go Go.Am Go.Proofs Go.Proofs.YtdogeclnbdldaaaGreatDoor
theorem solveSystems {H : Type} (A : AH) (avs : List Value) (ds : List (DataW H)) (hb : Rows.uptoBulkAll ds <= 1048576) (ha : AArgs Tryz.prog A.get 3 [44, 45] avs ds) : ∃ A', ACalls Tryz.prog 9 avs A (.bool true) A' := by
 obtain ⟨v0, vs0, d0, ds0, rfl, rfl, a0, ha⟩ := AArgs.cons_inv ha
 obtain ⟨v1, vs1, d1, ds1, rfl, rfl, a1, ha⟩ := AArgs.cons_inv ha
 obtain ⟨rfl, rfl⟩ := AArgs.nil_inv ha
 simp only [Rows.uptoBulkAll] at hb
 obtain ⟨x0, r0, i0⟩ := ((Arg.sl (t := 44) (e := 45) (by kernel_rfl) (Arg.sl (t := 45) (e := 22) (by kernel_rfl) (Arg.str (t := 22) (by kernel_rfl)))) : Arg H Tryz.prog A.get 3 44 _ 1048576 _) [v0] d0 (AVal.one (by kernel_rfl) a0) (by omega)
 obtain ⟨x1, r1, i1⟩ := ((Arg.sl (t := 45) (e := 22) (by kernel_rfl) (Arg.str (t := 22) (by kernel_rfl))) : Arg H Tryz.prog A.get 3 45 _ 1048576 _) [v1] d1 (AVal.one (by kernel_rfl) a1) (by omega)
 obtain ⟨K, hK⟩ := zak i0 i1
 exact CR.done (z8o K v0 x0 r0 v1 x1 r1 (Ow.empty A) true hK)
end Go.Am.Tryz
