/- Plain law: the program's numbers: digits in the base 10^9. -/
import Derived.Test.YtdogeclnbdldaaaGreatDoorG19Z7
import Derived.Test.YtdogeclnbdldaaaGreatDoorG2Z7
set_option maxRecDepth 100000
set_option maxHeartbeats 8000000
set_option linter.unusedVariables false
set_option linter.unusedSimpArgs false
namespace Go.Am.Tryz
open Go Go.Am Go.Proofs
variable {K : Nat}
def NumN (n : Int) (l : List Int) : Prop := CanB 1000000000 l /\ valB 1000000000 l = n
theorem NumN.inj {n : Int} {l m : List Int} (h : NumN n l) (k : NumN n m) : l = m := zmr (B := 1000000000) (by omega) l m h.1 k.1 (h.2.trans k.2.symm)
theorem NumN.nonneg {n : Int} {l : List Int} (h : NumN n l) : 0 <= n := by rw [<- h.2]; exact z0z (by omega) l h.1.1
theorem NumN.nil : NumN 0 [] := ⟨⟨DigB.nil _, by simp⟩, rfl⟩
theorem NumN.pos {n : Int} {l : List Int} (h : NumN n l) (h0 : l ≠ []) : 0 < n := by rw [<- h.2]; exact zbi (by omega) l h.1 h0
theorem NumN.nil_iff {n : Int} {l : List Int} (h : NumN n l) : l = [] ↔ n = 0 := by
 constructor
 ·rintro rfl; exact h.2.symm
 ·intro e; by_cases h0 : l = []
  ·exact h0
  ·have := h.pos h0; omega
theorem NumN.len0 {n : Int} {l : List Int} (h : NumN n l) : l.length = 0 ↔ n = 0 := by rw [<- h.nil_iff, List.length_eq_zero_iff]
theorem NumN.one {n : Int} (h : 0 < n) (h2 : n < 1000000000) : NumN n [n] := ⟨⟨fun d hd => by simp at hd; omega, by simp; omega⟩, by simp [valB]⟩
theorem zki {B : Int} : ∀ n k (l : List Int), l.length = n -> n <= 8000000 -> n < k -> DigB B l -> ∃ t, z2q K k l = some t /\ CanB B t /\ valB B t = valB B l /\ t.length <= l.length := by
 intro n
 induction n with
 | zero =>
  intro k l hl _ hk hd
  obtain ⟨k, rfl⟩ : ∃ m, k = m + 1 := ⟨k - 1, by omega⟩
  have : l = [] := List.length_eq_zero_iff.1 hl
  subst this
  exact ⟨[], by rw [z2q]; simp [tu1], ⟨hd, by simp⟩, rfl, Nat.le_refl _⟩
 | succ n ih =>
  intro k l hl hb hk hd
  obtain ⟨k, rfl⟩ : ∃ m, k = m + 1 := ⟨k - 1, by omega⟩
  obtain ⟨r, d, rfl⟩ : ∃ r d, l = r ++ [d] := z9g l (by intro e; subst e; simp at hl)
  have hr : r.length = n := by simpa using hl
  have e1 : z03 .i64 (((r ++ [d]).length : Int) - 1) = (n : Int) := by rw [hl, kw (by omega) (by omega)]; omega
  have e2 : idx (r ++ [d]) (n : Int) = some d := z3v (by simp [<- hr])
  have e3 : lsl (r ++ [d]) 0 (n : Int) = some r := by
   unfold lsl
   rw [if_pos (by rw [hl]; omega)]
   simp [<- hr]
  have e4 : ((r ++ [d]).length : Int) > 0 := by rw [hl]; omega
  have dr : DigB B r := fun x hx => hd x (by simp [hx])
  rw [z2q, e1, e2, e3, decide_eq_true e4]
  by_cases h0 : d = 0
  ·obtain ⟨t, h1, h2, h3, h4⟩ := ih k r hr (by omega) (by omega) dr
   refine ⟨t, by simp [h0, tu1, h1], h2, ?_, by simp; omega⟩
   rw [h3, z5j, h0]; simp [valB]
  ·exact ⟨r ++ [d], by simp [h0, tu1], ⟨hd, by simpa using h0⟩, rfl, Nat.le_refl _⟩
theorem zbk {B : Int} {l : List Int} (hl : l.length <= 8000000) (hK : 2000000000 < K) (hd : DigB B l) : ∃ t, z1u K l = some t /\ CanB B t /\ valB B t = valB B l /\ t.length <= l.length := by
 obtain ⟨t, h1, h2⟩ := zki (K := K) l.length K l rfl hl (by omega) hd
 exact ⟨t, by unfold z1u; rw [h1]; rfl, h2⟩
theorem zkj {x y : List Int} (hlen : y.length <= x.length) (hx : x.length <= 4000000) (hK : 2000000000 < K) (dx : DigB 1000000000 x) (dy : DigB 1000000000 y) :
  ∃ r : List Int × Int, z23 K x y K [] 0 0 = some r /\ r.1.length = x.length /\ DigB 1000000000 r.1 /\ (0 <= r.2 /\ r.2 <= 1) /\ valB 1000000000 r.1 + 1000000000 ^ x.length * r.2 = valB 1000000000 x + valB 1000000000 y := by
 refine z8f (fun k (s : List Int × Int × Int) => z23 K x y k s.1 s.2.1 s.2.2) (fun s => ∃ i : Nat, s.2.2 = i /\ i <= x.length /\ s.1.length = i /\ DigB 1000000000 s.1 /\ (0 <= s.2.1 /\ s.2.1 <= 1) /\ valB 1000000000 s.1 + 1000000000 ^ i * s.2.1 = valB 1000000000 (x.take i) + valB 1000000000 (y.take i)) (fun s => x.length - s.1.length) _ ?_ (([], 0, 0) : List Int × Int × Int) (by simp; omega) ⟨0, rfl, by omega, rfl, DigB.nil _, ⟨by simp, by simp⟩, by simp [valB]⟩
 rintro k ⟨out, c, _⟩ ⟨i, rfl, h0, h1, h2, h3, h4⟩
 dsimp only at h1 h2 h3 h4 ⊢
 by_cases hi : i < x.length
 ·right
  have ex := z1t (by omega) dx i
  have ey := z1t (by omega) dy i
  have tx := z3d 1000000000 x i
  have ty := z3d 1000000000 y i
  have hy : ¬ i < y.length -> y.getD i 0 = 0 := fun h => by rw [zAb, List.getElem?_eq_none (by omega)]; rfl
  refine ⟨(out ++ [(x.getD i 0 + c + y.getD i 0) % 1000000000], (x.getD i 0 + c + y.getD i 0) / 1000000000, (i : Int) + 1), ?_, by simp; omega, i + 1, rfl, by omega, by simp [h1], h2.snoc (by omega), by dsimp only; omega, ?_⟩
  ·rw [z23]
   by_cases h : i < y.length
   ·simp (discharger := omega) only [runL]
   ·have e := hy h
    simp (discharger := omega) only [runL, e, Int.add_zero]
  ·have hm := Int.emod_add_mul_ediv (x.getD i 0 + c + y.getD i 0) 1000000000
   dsimp only
   rw [z8g, h1, tx, ty, Int.pow_succ]
   grind
 ·left
  refine ⟨(out, c), ?_, by dsimp only; omega, h2, h3, ?_⟩
  ·rw [z23]; simp [hi]
  ·have : i = x.length := by omega
   subst this
   rwa [List.take_of_length_le (Nat.le_refl _), List.take_of_length_le hlen] at h4
theorem zig {x y : List Int} {a b : Int} (hlen : y.length <= x.length) (hx : x.length <= 4000000) (hK : 2000000000 < K) (nx : NumN a x) (ny : NumN b y) :
  ∃ r : List Int × Int, z23 K x y K [] 0 0 = some r /\ r.1.length = x.length /\ NumN (a + b) (if r.2 > 0 then r.1 ++ [r.2] else r.1) := by
 obtain ⟨⟨r, c⟩, h1, h2, h3, h4, h5⟩ := zkj hlen hx hK nx.1.1 ny.1.1
 dsimp only at h2 h3 h4 h5
 rw [nx.2, ny.2] at h5
 refine ⟨_, h1, h2, ?_⟩
 dsimp only
 by_cases hc : c > 0
 ·rw [if_pos hc]
  have e : c = 1 := by omega
  subst e
  refine ⟨⟨h3.snoc (by omega), by simp⟩, ?_⟩
  rw [z8g, h2]
  exact h5
 ·rw [if_neg hc]
  have e : c = 0 := by omega
  subst e
  rw [Int.mul_zero, Int.add_zero] at h5
  refine ⟨?_, h5⟩
  by_cases h0 : r = []
  ·subst h0; exact ⟨h3, by simp⟩
  ·refine zq7 (by omega) h3 h0 ?_
   have h6 := zie (B := 1000000000) (by omega) nx.1 (by rintro rfl; exact h0 (List.length_eq_zero_iff.1 h2))
   have h7 := ny.nonneg
   rw [nx.2] at h6
   rw [h2, h5]
   omega
theorem zoc {x y : List Int} {a b : Int} (hx : x.length <= 4000000) (hy : y.length <= 4000000) (hK : 2000000000 < K) (nx : NumN a x) (ny : NumN b y) : ∃ z, z6u K x y = some z /\ NumN (a + b) z /\ z.length <= max x.length y.length + 1 := by
 unfold z6u
 by_cases h : x.length < y.length
 ·obtain ⟨⟨r, c⟩, h1, h2, h3⟩ := zig (K := K) (x := y) (y := x) (by omega) hy (by omega) ny nx
  dsimp only at h2 h3
  rw [Int.add_comm b a] at h3
  by_cases hc : c > 0
  ·rw [if_pos hc] at h3
   exact ⟨r ++ [c], by simp (discharger := omega) only [runL, h1], h3, by simp; omega⟩
  ·rw [if_neg hc] at h3
   exact ⟨r, by simp (discharger := omega) only [runL, h1], h3, by omega⟩
 ·obtain ⟨⟨r, c⟩, h1, h2, h3⟩ := zig (K := K) (x := x) (y := y) (by omega) hx (by omega) nx ny
  dsimp only at h2 h3
  by_cases hc : c > 0
  ·rw [if_pos hc] at h3
   exact ⟨r ++ [c], by simp (discharger := omega) only [runL, h1], h3, by simp; omega⟩
  ·rw [if_neg hc] at h3
   exact ⟨r, by simp (discharger := omega) only [runL, h1], h3, by omega⟩
theorem zkk {x y : List Int} (hx : x.length <= 4000000) (hK : 2000000000 < K) (dx : DigB 1000000000 x) (dy : DigB 1000000000 y) :
  ∃ r : List Int, z24 K x y K (List.replicate x.length 0) 0 0 = some r /\ r.length = x.length /\ DigB 1000000000 r /\ ∃ c : Int, (0 <= c /\ c <= 1) /\ valB 1000000000 r + valB 1000000000 (y.take x.length) = valB 1000000000 x + 1000000000 ^ x.length * c := by
 refine z8f (fun k (s : List Int × Int × Int) => z24 K x y k s.1 s.2.1 s.2.2) (fun s => ∃ i : Nat, s.2.2 = i /\ i <= x.length /\ s.1.length = x.length /\ DigB 1000000000 s.1 /\ (∀ j, i <= j -> s.1.getD j 0 = 0) /\ (0 <= s.2.1 /\ s.2.1 <= 1) /\ valB 1000000000 s.1 + valB 1000000000 (y.take i) = valB 1000000000 (x.take i) + 1000000000 ^ i * s.2.1) (fun s => (x.length - s.2.2 : Int).toNat) _ ?_ ((List.replicate x.length 0, 0, 0) : List Int × Int × Int) (by simp; omega) ⟨0, rfl, by omega, by simp, .zeros (by omega) _, fun j _ => by simp [zAb, List.getElem?_replicate]; split <;> rfl, ⟨by simp, by simp⟩, by simp [valB, z9f]⟩
 rintro k ⟨out, c, _⟩ ⟨i, rfl, h0, h1, h2, hz, h3, h4⟩
 dsimp only at h1 h2 h3 h4 hz ⊢
 by_cases hi : i < x.length
 ·right
  have ex := z1t (by omega) dx i
  have ey := z1t (by omega) dy i
  have tx := z3d 1000000000 x i
  have ty := z3d 1000000000 y i
  have hy : ¬ i < y.length -> y.getD i 0 = 0 := fun h => by rw [zAb, List.getElem?_eq_none (by omega)]; rfl
  have hset := fun d => z6k 1000000000 out i d (by omega)
  have hgs := fun d j => z7d (cs := out) (i := i) (j := j) (v := d) (by omega)
  have hz0 := hz i (Nat.le_refl _)
  by_cases hn : x.getD i 0 - c - y.getD i 0 < 0
  ·refine ⟨(out.set i (x.getD i 0 - c - y.getD i 0 + 1000000000), 1, (i : Int) + 1), ?_, by dsimp only; omega, i + 1, rfl, by omega, by simp [h1], h2.set _ (by omega), fun j hj => by rw [hgs, if_neg (by omega)]; exact hz j (by omega), by simp, ?_⟩
   ·rw [z24]
    by_cases h : i < y.length
    ·simp (discharger := omega) only [runL]
    ·have e := hy h
     rw [e, Int.sub_zero] at hn
     simp (discharger := omega) only [runL, e, Int.sub_zero]
   ·dsimp only
    rw [hset, hz0, tx, ty, Int.pow_succ]
    grind
  ·refine ⟨(out.set i (x.getD i 0 - c - y.getD i 0), 0, (i : Int) + 1), ?_, by dsimp only; omega, i + 1, rfl, by omega, by simp [h1], h2.set _ (by omega), fun j hj => by rw [hgs, if_neg (by omega)]; exact hz j (by omega), by simp, ?_⟩
   ·rw [z24]
    by_cases h : i < y.length
    ·simp (discharger := omega) only [runL]
    ·have e := hy h
     rw [e, Int.sub_zero] at hn
     simp (discharger := omega) only [runL, e, Int.sub_zero]
   ·dsimp only
    rw [hset, hz0, tx, ty, Int.pow_succ]
    grind
 ·left
  have : i = x.length := by omega
  subst this
  rw [List.take_of_length_le (i := x.length) (l := x) (Nat.le_refl _)] at h4
  exact ⟨out, by rw [z24]; simp (discharger := omega) only [runL], h1, h2, c, h3, h4⟩
theorem zln {x y : List Int} {a b : Int} (hx : x.length <= 4000000) (hK : 2000000000 < K) (nx : NumN a x) (ny : NumN b y) (hab : b <= a) : ∃ z, z5w K x y = some z /\ NumN (a - b) z /\ z.length <= x.length := by
 obtain ⟨r, h1, h2, h3, c, h4, h5⟩ := zkk hx hK nx.1.1 ny.1.1
 have hl : y.length <= x.length := ze0 (B := 1000000000) (by omega) ny.1 nx.1.1 (by rw [nx.2, ny.2]; exact hab)
 rw [List.take_of_length_le hl, nx.2, ny.2] at h5
 have hv := z4q (B := 1000000000) (by omega) r h3
 rw [h2] at hv
 have hc : c = 0 := by
  by_cases e : c = 0
  ·exact e
  ·have : c = 1 := by omega
   subst this; omega
 subst hc
 obtain ⟨t, t1, t2, t3, t4⟩ := zbk (K := K) (B := 1000000000) (l := r) (by omega) hK h3
 refine ⟨t, ?_, ⟨t2, by rw [t3]; omega⟩, by omega⟩
 unfold z5w
 simp (discharger := omega) only [runL, h1, t1]
theorem zkl {x y : List Int} (hl : x.length = y.length) (hx : x.length <= 4000000) (hK : 2000000000 < K) (dx : DigB 1000000000 x) (dy : DigB 1000000000 y) :
  ∃ r : Int ⊕ Unit, z1o K x y K ((x.length : Int) - 1) = some r /\ r = (if valB 1000000000 x < valB 1000000000 y then .inl (-1) else if valB 1000000000 x = valB 1000000000 y then .inr () else .inl 1) := by
 have hdrop : ∀ (l : List Int) j, valB 1000000000 (l.drop j) = l.getD j 0 + 1000000000 * valB 1000000000 (l.drop (j + 1)) := fun l j => by
  by_cases h : j < l.length
  ·rw [List.drop_eq_getElem_cons h, zAb, zAh h]; rfl
  ·rw [List.drop_eq_nil_of_le (by omega), List.drop_eq_nil_of_le (by omega), zAb, List.getElem?_eq_none (by omega)]; rfl
 refine z8f (fun k (s : Int) => z1o K x y k s) (fun s => ∃ j : Nat, s = (j : Int) - 1 /\ j <= x.length /\ valB 1000000000 (x.drop j) = valB 1000000000 (y.drop j)) (fun s => (s + 1).toNat) _ ?_ ((x.length : Int) - 1) (by omega) ⟨x.length, rfl, Nat.le_refl _, by rw [List.drop_eq_nil_of_le (Nat.le_refl _), List.drop_eq_nil_of_le (by omega)]⟩
 rintro k _ ⟨j, rfl, hj, he⟩
 by_cases h0 : j = 0
 ·subst h0
  left
  rw [List.drop_zero, List.drop_zero] at he
  rw [z1o]
  refine ⟨.inr (), by simp (discharger := omega) only [runL], ?_⟩
  rw [if_neg (by omega), if_pos he]
 ·obtain ⟨i, rfl⟩ : ∃ i, j = i + 1 := ⟨j - 1, by omega⟩
  have e1 : ((i + 1 : Nat) : Int) - 1 = i := by omega
  rw [e1]
  have ex := z1t (by omega) dx i
  have ey := z1t (by omega) dy i
  have sx := z86 1000000000 x i (by omega)
  have sy := z86 1000000000 y i (by omega)
  have ax := hdrop x i
  have ay := hdrop y i
  have bx := z4q (B := 1000000000) (by omega) _ (dx.take i)
  have by' := z4q (B := 1000000000) (by omega) _ (dy.take i)
  have cx := z0z (B := 1000000000) (by omega) _ (dx.take i)
  have cy := z0z (B := 1000000000) (by omega) _ (dy.take i)
  rw [List.length_take, Nat.min_eq_left (by omega)] at bx by'
  have p0 : 0 < (1000000000 : Int) ^ i := Int.pow_pos (by omega)
  rw [ax, he] at sx
  rw [ay] at sy
  by_cases h1 : x.getD i 0 < y.getD i 0
  ·left
   refine ⟨.inl (-1), by rw [z1o]; simp (discharger := omega) only [runL], ?_⟩
   have := z3g (Int.le_of_lt p0) (show x.getD i 0 + 1 <= y.getD i 0 by omega)
   rw [if_pos (by grind)]
  ·by_cases h2 : x.getD i 0 > y.getD i 0
   ·left
    refine ⟨.inl 1, by rw [z1o]; simp (discharger := omega) only [runL], ?_⟩
    have := z3g (Int.le_of_lt p0) (show y.getD i 0 + 1 <= x.getD i 0 by omega)
    rw [if_neg (by grind), if_neg (by grind)]
   ·right
    refine ⟨(i : Int) - 1, by rw [z1o]; simp (discharger := omega) only [runL], by omega, i, rfl, by omega, ?_⟩
    rw [ax, ay, he]
    omega
theorem zfp {x y : List Int} {a b : Int} (hx : x.length <= 4000000) (hy : y.length <= 4000000) (hK : 2000000000 < K) (nx : NumN a x) (ny : NumN b y) : z4e K x y = some (if a < b then -1 else if a = b then 0 else 1) := by
 unfold z4e
 by_cases h : x.length = y.length
 ·obtain ⟨r, h1, h2⟩ := zkl (K := K) h hx hK nx.1.1 ny.1.1
  rw [nx.2, ny.2] at h2
  have e : ((x.length : Int) != (y.length : Int)) = false := by simp; omega
  rw [e]
  rw [k64 (by omega) (by omega), h1, h2]
  simp only [Bool.false_eq_true, if_false, zb5, Option.bind_some]
  by_cases c1 : a < b
  ·simp [c1, tu1]
  ·by_cases c2 : a = b
   ·subst c2; simp [tu0]
   ·simp [c1, c2, tu1]
 ·have e : ((x.length : Int) != (y.length : Int)) = true := by simp; omega
  rw [e, if_pos rfl]
  by_cases h1 : x.length < y.length
  ·have := zif (B := 1000000000) (by omega) nx.1.1 ny.1 h1
   rw [nx.2, ny.2] at this
   simp (discharger := omega) only [runL]
  ·have := zif (B := 1000000000) (by omega) ny.1.1 nx.1 (by omega)
   rw [nx.2, ny.2] at this
   simp (discharger := omega) only [runL]
end Go.Am.Tryz
/- Plain law: products of the program's numbers; division by one digit. -/
namespace Go.Am.Tryz
open Go Go.Am Go.Proofs
variable {K : Nat}
theorem zlo {a b : Int} (ha : 0 <= a /\ a < 1000000000) (hb : 0 <= b /\ b < 1000000000) : 0 <= a * b /\ a * b <= 999999998000000001 := by
 refine ⟨Int.mul_nonneg ha.1 hb.1, ?_⟩
 have h1 := z3g ha.1 (show b <= 999999999 by omega)
 omega
theorem zod {y out : List Int} {u : Int} {i : Nat} (hl : i + y.length <= out.length) (ho : out.length <= 8000000) (hK : 2000000000 < K) (hu : 0 <= u /\ u < 1000000000) (dy : DigB 1000000000 y) (d0 : DigB 1000000000 out) :
  ∃ r : List Int × Int, z2j K y (i : Int) u K out 0 0 = some r /\ r.1.length = out.length /\ DigB 1000000000 r.1 /\ (0 <= r.2 /\ r.2 < 1000000000) /\ (∀ j, i + y.length <= j -> r.1.getD j 0 = out.getD j 0) ∧
   valB 1000000000 r.1 + 1000000000 ^ (i + y.length) * r.2 = valB 1000000000 out + 1000000000 ^ i * (u * valB 1000000000 y) := by
 refine z8f (fun k (s : List Int × Int × Int) => z2j K y (i : Int) u k s.1 s.2.1 s.2.2) (fun s => ∃ q : Nat, s.2.2 = q /\ q <= y.length /\ s.1.length = out.length /\ DigB 1000000000 s.1 /\ (0 <= s.2.1 /\ s.2.1 < 1000000000) /\ (∀ j, i + q <= j -> s.1.getD j 0 = out.getD j 0) ∧
   valB 1000000000 s.1 + 1000000000 ^ (i + q) * s.2.1 = valB 1000000000 out + 1000000000 ^ i * (u * valB 1000000000 (y.take q))) (fun s => (y.length - s.2.2 : Int).toNat) _ ?_ ((out, 0, 0) : List Int × Int × Int) (by simp; omega) ⟨0, rfl, by omega, rfl, d0, by simp, fun _ _ => rfl, by simp [valB]⟩
 rintro k ⟨o, c, _⟩ ⟨q, rfl, h0, h1, h2, h3, hz, h4⟩
 dsimp only at h1 h2 h3 h4 hz ⊢
 by_cases hq : q < y.length
 ·right
  have ey := z1t (by omega) dy q
  have eo := z1t (by omega) h2 (i + q)
  have ty := z3d 1000000000 y q
  have hm := zlo hu ey
  have hset := fun d => z6k 1000000000 o (i + q) d (by omega)
  have hgs := fun d j => z7d (cs := o) (i := i + q) (j := j) (v := d) (by omega)
  have e1 : ((i : Int) + (q : Int)) = ((i + q : Nat) : Int) := by omega
  generalize hw : u * y.getD q 0 = w at hm
  generalize ho : o.getD (i + q) 0 = z at eo hset
  have hdm := Int.emod_add_mul_ediv (w + z + c) 1000000000
  refine ⟨(o.set (i + q) ((w + z + c) % 1000000000), (w + z + c) / 1000000000, (q : Int) + 1), ?_, by dsimp only; omega, q + 1, rfl, by omega, by simp [h1], h2.set _ (by omega), by dsimp only; omega, fun j hj => by rw [hgs, if_neg (by omega)]; exact hz j (by omega), ?_⟩
  ·rw [z2j]
   simp (discharger := omega) only [runL, e1, hw, ho]
  ·dsimp only
   rw [hset, ty]
   have e2 : (1000000000 : Int) ^ (i + (q + 1)) = 1000000000 ^ i * 1000000000 ^ q * 1000000000 := by rw [<- Nat.add_assoc, Int.pow_succ, Int.pow_add]
   rw [e2]
   rw [Int.pow_add] at h4 ⊢
   subst hw
   generalize (u * y.getD q 0 + z + c) / 1000000000 = Q at *
   generalize (u * y.getD q 0 + z + c) % 1000000000 = R at *
   grind
 ·left
  have : q = y.length := by omega
  subst this
  rw [List.take_of_length_le (Nat.le_refl _)] at h4
  exact ⟨(o, c), by rw [z2j]; simp (discharger := omega) only [runL], h1, h2, h3, hz, h4⟩
theorem zkm {x y : List Int} (hl : x.length + y.length <= 8000000) (hK : 2000000000 < K) (dx : DigB 1000000000 x) (dy : DigB 1000000000 y) :
  ∃ r : List Int, z2k K x y K (List.replicate (x.length + y.length) 0) 0 = some r /\ r.length = x.length + y.length /\ DigB 1000000000 r /\ valB 1000000000 r = valB 1000000000 x * valB 1000000000 y := by
 refine z8f (fun k (s : List Int × Int) => z2k K x y k s.1 s.2) (fun s => ∃ i : Nat, s.2 = i /\ i <= x.length /\ s.1.length = x.length + y.length /\ DigB 1000000000 s.1 /\ (∀ j, i + y.length <= j -> s.1.getD j 0 = 0) /\ valB 1000000000 s.1 = valB 1000000000 (x.take i) * valB 1000000000 y) (fun s => (x.length - s.2 : Int).toNat) _ ?_ ((List.replicate (x.length + y.length) 0, 0) : List Int × Int) (by simp; omega) ⟨0, rfl, by omega, by simp, .zeros (by omega) _, fun j _ => by simp [zAb, List.getElem?_replicate]; split <;> rfl, by simp [valB, z9f]⟩
 rintro k ⟨out, _⟩ ⟨i, rfl, h0, h1, h2, hz, h4⟩
 dsimp only at h1 h2 h4 hz ⊢
 by_cases hi : i < x.length
 ·right
  have ex := z1t (by omega) dx i
  have tx := z3d 1000000000 x i
  obtain ⟨⟨r, c⟩, r1, r2, r3, r4, r5, r6⟩ := zod (K := K) (y := y) (out := out) (u := x.getD i 0) (i := i) (by omega) (by omega) hK ex dy h2
  dsimp only at r2 r3 r4 r5 r6
  have hz0 := r5 (i + y.length) (Nat.le_refl _)
  rw [hz _ (Nat.le_refl _)] at hz0
  have hset := z6k 1000000000 r (i + y.length) c (by omega)
  have hgs := fun d j => z7d (cs := r) (i := i + y.length) (j := j) (v := d) (by omega)
  have e1 : ((i : Int) + (y.length : Int)) = ((i + y.length : Nat) : Int) := by omega
  refine ⟨(r.set (i + y.length) c, (i : Int) + 1), ?_, by dsimp only; omega, i + 1, rfl, by omega, by simp [r2, h1], r3.set _ r4, fun j hj => by rw [hgs, if_neg (by omega), r5 j (by omega)]; exact hz j (by omega), ?_⟩
  ·rw [z2k]
   simp (discharger := omega) only [runL, r1, e1]
  ·dsimp only
   rw [hset, hz0, tx]
   grind
 ·left
  have : i = x.length := by omega
  subst this
  rw [List.take_of_length_le (Nat.le_refl _)] at h4
  exact ⟨out, by rw [z2k]; simp (discharger := omega) only [runL], h1, h2, h4⟩
theorem z9h {x y : List Int} {a b : Int} (hl : x.length + y.length <= 8000000) (hK : 2000000000 < K) (nx : NumN a x) (ny : NumN b y) : ∃ z, z2d K x y = some z /\ NumN (a * b) z /\ z.length <= x.length + y.length := by
 obtain ⟨r, h1, h2, h3, h4⟩ := zkm hl hK nx.1.1 ny.1.1
 rw [nx.2, ny.2] at h4
 obtain ⟨t, t1, t2, t3, t4⟩ := zbk (K := K) (B := 1000000000) (l := r) (by omega) hK h3
 refine ⟨t, ?_, ⟨t2, by rw [t3, h4]⟩, by omega⟩
 unfold z2d
 have e1 : ((x.length : Int) + (y.length : Int)) = ((x.length + y.length : Nat) : Int) := by omega
 simp (discharger := omega) only [runL, h1, t1, e1]
theorem zer (l : List Int) (j : Nat) : valB 1000000000 (l.drop j) = l.getD j 0 + 1000000000 * valB 1000000000 (l.drop (j + 1)) := by
 by_cases h : j < l.length
 ·rw [List.drop_eq_getElem_cons h, zAb, zAh h]; rfl
 ·rw [List.drop_eq_nil_of_le (by omega), List.drop_eq_nil_of_le (by omega), zAb, List.getElem?_eq_none (by omega)]; rfl
theorem zgk {x : List Int} {d : Int} (hl : x.length <= 8000000) (hK : 2000000000 < K) (dx : DigB 1000000000 x) (hd : 1 <= d /\ d <= 1000000000) :
  ∃ r : List Int × Int, z1q K x d K (List.replicate x.length 0) 0 ((x.length : Int) - 1) = some r /\ r.1.length = x.length /\ DigB 1000000000 r.1 /\ (0 <= r.2 /\ r.2 < d) /\ valB 1000000000 x = d * valB 1000000000 r.1 + r.2 := by
 refine z8f (fun k (s : List Int × Int × Int) => z1q K x d k s.1 s.2.1 s.2.2) (fun s => ∃ j : Nat, s.2.2 = (j : Int) - 1 /\ j <= x.length /\ s.1.length = x.length /\ DigB 1000000000 s.1 /\ (0 <= s.2.1 /\ s.2.1 < d) /\ valB 1000000000 (x.drop j) = d * valB 1000000000 (s.1.drop j) + s.2.1) (fun s => (s.2.2 + 1).toNat) _ ?_ ((List.replicate x.length 0, 0, (x.length : Int) - 1) : List Int × Int × Int) (by dsimp only; omega) ⟨x.length, rfl, Nat.le_refl _, by simp, .zeros (by omega) _, by dsimp only; omega, by simp [valB]⟩
 rintro k ⟨out, c, _⟩ ⟨j, rfl, hj, h1, h2, h3, h4⟩
 dsimp only at h1 h2 h3 h4 ⊢
 by_cases h0 : j = 0
 ·left
  subst h0
  rw [List.drop_zero, List.drop_zero] at h4
  exact ⟨(out, c), by rw [z1q]; simp (discharger := omega) only [runL], h1, h2, h3, h4⟩
 ·right
  obtain ⟨i, rfl⟩ : ∃ i, j = i + 1 := ⟨j - 1, by omega⟩
  have e1 : ((i + 1 : Nat) : Int) - 1 = i := by omega
  rw [e1]
  have ex := z1t (by omega) dx i
  have ax := zer x i
  generalize hu : x.getD i 0 = u at ex ax
  have hq0 : 0 <= (c * 1000000000 + u) / d := Int.ediv_nonneg (by omega) (by omega)
  have hqB : (c * 1000000000 + u) / d < 1000000000 := Int.ediv_lt_of_lt_mul (by omega) (by omega)
  have hr0 : 0 <= (c * 1000000000 + u) % d := Int.emod_nonneg _ (by omega)
  have hrd : (c * 1000000000 + u) % d < d := Int.emod_lt_of_pos _ (by omega)
  have hdm := Int.emod_add_mul_ediv (c * 1000000000 + u) d
  refine ⟨(out.set i ((c * 1000000000 + u) / d), (c * 1000000000 + u) % d, (i : Int) - 1), ?_, by dsimp only; omega, i, rfl, by omega, by simp [h1], h2.set _ ⟨hq0, hqB⟩, ⟨hr0, hrd⟩, ?_⟩
  ·rw [z1q]
   have hd' : d ≠ 0 := by omega
   simp (discharger := omega) only [runL, hu]
  ·dsimp only
   rw [zer (out.set i _) i, List.drop_set_of_lt (by omega), z7d (by omega), if_pos rfl, ax, h4]
   generalize (c * 1000000000 + u) / d = Q at *
   generalize (c * 1000000000 + u) % d = R at *
   grind
theorem zkn {d : Int} (hd : 0 <= d /\ d < 1000000000) (hK : 2000000000 < K) : ∃ z, z1u K [d] = some z /\ NumN d z /\ z.length <= 1 := by
 obtain ⟨t, t1, t2, t3, t4⟩ := zbk (K := K) (B := 1000000000) (l := [d]) (by simp) hK (fun x hx => by simp at hx; omega)
 exact ⟨t, t1, ⟨t2, by rw [t3]; simp [valB]⟩, by simpa using t4⟩
theorem zbl {n d q r : Int} (hd : 0 < d) (h : n = d * q + r) (h0 : 0 <= r) (h1 : r < d) : q = n / d /\ r = n % d := by
 have e1 : n / d = q := by
  rw [h, Int.add_comm, Int.add_mul_ediv_left _ _ (by omega), Int.ediv_eq_zero_of_lt h0 h1]; omega
 refine ⟨e1.symm, ?_⟩
 have := Int.emod_add_mul_ediv n d
 rw [e1] at this
 omega
theorem zfq {x : List Int} {a d : Int} (hl : x.length <= 8000000) (hK : 2000000000 < K) (nx : NumN a x) (hd : 1 <= d /\ d <= 1000000000) : ∃ q r, z4f K x d = some (q, r) /\ NumN (a / d) q /\ NumN (a % d) r /\ q.length <= x.length /\ r.length <= 1 := by
 obtain ⟨⟨o, c⟩, h1, h2, h3, h4, h5⟩ := zgk hl hK nx.1.1 hd
 dsimp only at h2 h3 h4 h5
 rw [nx.2] at h5
 obtain ⟨e1, e2⟩ := zbl (by omega) h5 h4.1 h4.2
 obtain ⟨t, t1, t2, t3, t4⟩ := zbk (K := K) (B := 1000000000) (l := o) (by omega) hK h3
 obtain ⟨z, z1, z2, z3⟩ := zkn (K := K) (d := c) (by omega) hK
 refine ⟨t, z, ?_, ⟨t2, by rw [t3, e1]⟩, by rw [<- e2]; exact z2, by omega, z3⟩
 unfold z4f
 simp (discharger := omega) only [runL, h1, t1, z1]
end Go.Am.Tryz
/- Plain law: texts and the program's numbers: Read and Text. -/
namespace Go.Am.Tryz
open Go Go.Am Go.Proofs
variable {K : Nat}
def numB (l : List Int) : Int := valB 10 ((l.map (· - 48)).reverse)
theorem zd9 (s : zAd) : numT s = numB (z05 s) := rfl
theorem z8y : numB [] = 0 := rfl
theorem zaq (l : List Int) (c : Int) : numB (l ++ [c]) = numB l * 10 + (c - 48) := by
 unfold numB
 simp [valB]
 omega
theorem zes (l m : List Int) : numB (l ++ m) = numB m + 10 ^ m.length * numB l := by
 unfold numB
 rw [List.map_append, List.reverse_append, z5j]
 simp
theorem zar (c : Int) (l : List Int) : numB (c :: l) = numB l + 10 ^ l.length * (c - 48) := by
 have := zes [c] l
 simpa [numB, valB] using this
theorem zih {l : List Int} (h : l.all digT = true) : DigB 10 ((l.map (· - 48)).reverse) := by
 intro d hd
 rw [List.mem_reverse, List.mem_map] at hd
 obtain ⟨c, hc, rfl⟩ := hd
 have := List.all_eq_true.1 h c hc
 simp only [digT, Bool.and_eq_true, decide_eq_true_eq] at this
 omega
theorem z5x {l : List Int} (h : l.all digT = true) : 0 <= numB l := z0z (by omega) _ (zih h)
theorem zc8 {l : List Int} (h : l.all digT = true) : numB l < 10 ^ l.length := by
 have := z4q (B := 10) (by omega) _ (zih h)
 simpa [numB] using this
theorem digT_iff {c : Int} : digT c = true ↔ 48 <= c /\ c <= 57 := by simp [digT]
theorem zbm {l : List Int} (h : l.all digT = true) (k : Nat) : (l.take k).all digT = true := List.all_eq_true.2 fun x hx => List.all_eq_true.1 h x (List.mem_of_mem_take hx)
theorem zms {l : List Int} (h : l.all digT = true) (k : Nat) : (l.drop k).all digT = true := List.all_eq_true.2 fun x hx => List.all_eq_true.1 h x (List.mem_of_mem_drop hx)
theorem zfr {l : List Int} {i : Nat} (h : i < l.length) : l.take (i + 1) = l.take i ++ [l.getD i 0] := by
 rw [List.take_add_one, zAh h, zAb, zAh h]; rfl
theorem zfs {l : List Int} (h : l.all digT = true) {i : Nat} (hi : i < l.length) : 48 <= l.getD i 0 /\ l.getD i 0 <= 57 := by
 rw [zAb, zAh hi]
 exact digT_iff.1 (List.all_eq_true.1 h _ (List.getElem_mem hi))
theorem zko {t : zAd} (ht : t.size <= 9) (hK : 2000000000 < K) (hd : (z05 t).all digT = true) : z2i K t K 0 0 = some (numT t) := by
 suffices h : ∃ r, z2i K t K 0 0 = some r /\ r = numT t by obtain ⟨r, h1, rfl⟩ := h; exact h1
 have hn := z01 t
 refine z8f (fun k (s : Int × Int) => z2i K t k s.1 s.2) (fun s => ∃ i : Nat, s.2 = i /\ i <= t.size /\ s.1 = numB ((z05 t).take i)) (fun s => (t.size - s.2 : Int).toNat) _ ?_ ((0, 0) : Int × Int) (by simp; omega) ⟨0, rfl, by omega, by simp [z8y]⟩
 rintro k ⟨_, _⟩ ⟨i, rfl, h0, rfl⟩
 dsimp only
 by_cases hi : i < t.size
 ·right
  have b1 := z5x (zbm hd i)
  have b2 := zc8 (zbm hd i)
  have b3 : (10 : Int) ^ (List.take i (z05 t)).length <= 10 ^ 8 := by
   rw [List.length_take, hn, Nat.min_eq_left (by omega)]
   exact z7j (by omega) (by omega)
  have hc := zfs hd (i := i) (by omega)
  have hs := zfr (l := z05 t) (i := i) (by omega)
  have b4 : (10 : Int) ^ 8 = 100000000 := by decide
  refine ⟨(numB ((z05 t).take (i + 1)), (i : Int) + 1), ?_, by dsimp only; omega, i + 1, rfl, by omega, rfl⟩
  rw [z2i, hs, zaq]
  generalize numB ((z05 t).take i) = d at *
  rw [hn]
  have hi' : (i : Int) < ((z05 t).length : Int) := by omega
  simp (discharger := omega) only [runL]
 ·left
  have : i = t.size := by omega
  subst this
  refine ⟨numB ((z05 t).take t.size), by rw [z2i, hn]; simp (discharger := omega) only [runL], ?_⟩
  rw [List.take_of_length_le (by omega)]
  rfl
theorem zkp {s : zAd} (hs : s.size <= 8000000) (hK : 2000000000 < K) (hd : (z05 s).all digT = true) :
  ∃ r : List Int, z2z K s K [] (s.size : Int) = some r /\ 9 * r.length < s.size + 9 /\ DigB 1000000000 r /\ valB 1000000000 r = numT s := by
 have hn := z01 s
 refine z8f (fun k (q : List Int × Int) => z2z K s k q.1 q.2) (fun q => q.2 = (s.size : Int) - 9 * q.1.length /\ 9 * q.1.length < s.size + 9 /\ DigB 1000000000 q.1 /\ valB 1000000000 q.1 + 1000000000 ^ q.1.length * numB ((z05 s).take q.2.toNat) = numT s) (fun q => (q.2 + 9).toNat) _ ?_ (([], (s.size : Int)) : List Int × Int) (by dsimp only; omega) ⟨by simp, by simp, .nil _, by simp [valB]; rw [List.take_of_length_le (by omega)]; rfl⟩
 rintro k ⟨out, e⟩ ⟨h1, h2, h3, h4⟩
 dsimp only at h1 h2 h3 h4 ⊢
 by_cases he : e > 0
 ·right
  obtain ⟨lo, hlo, hm⟩ : ∃ lo : Nat, imax 0 (z03 .i64 (e - 9)) = lo /\ ((lo : Int) = e - 9 \/ ((lo = 0) /\ e < 9)) := by
   rw [k64 (by omega) (by omega)]
   unfold imax
   by_cases h9 : e - 9 > 0
   ·exact ⟨(e - 9).toNat, by rw [if_pos h9]; omega, .inl (by omega)⟩
   ·exact ⟨0, by rw [if_neg h9]; rfl, by omega⟩
  have hb : z05 (s.extract lo e.toNat) = ((z05 s).drop lo).take (e.toNat - lo) := z2t _ _ _
  have hsz : (s.extract lo e.toNat).size = e.toNat - lo := by rw [<- z01, hb, List.length_take, List.length_drop]; omega
  have hdp : (z05 (s.extract lo e.toNat)).all digT = true := by rw [hb]; exact zbm (zms hd _) _
  have hp := zko (K := K) (t := s.extract lo e.toNat) (by omega) hK hdp
  have hv0 := z5x hdp
  have hv1 := zc8 hdp
  have hsplit : (z05 s).take e.toNat = (z05 s).take lo ++ z05 (s.extract lo e.toNat) := by
   rw [hb, show e.toNat = lo + (e.toNat - lo) by omega, List.take_add]; simp
  have hlen : (z05 (s.extract lo e.toNat)).length = e.toNat - lo := by rw [z01]; exact hsz
  have hBv : numB (z05 (s.extract lo e.toNat)) < 1000000000 := by
   have : (10 : Int) ^ (z05 (s.extract lo e.toNat)).length <= 10 ^ 9 := z7j (by omega) (by omega)
   have e9 : (10 : Int) ^ 9 = 1000000000 := by decide
   omega
  refine ⟨(out ++ [numT (s.extract lo e.toNat)], e - 9), ?_, by dsimp only; omega, by simp; omega, by simp; omega, h3.snoc ⟨hv0, hBv⟩, ?_⟩
  ·rw [z2z, hlo]
   simp (discharger := omega) only [runL, hp]
  ·dsimp only
   rw [z8g, List.length_append, List.length_singleton, Int.pow_succ, zd9]
   rw [hsplit, zes, hlen] at h4
   rcases hm with hm | ⟨hm, h9⟩
   ·have e9 : e.toNat - lo = 9 := by omega
    have e10 : (10 : Int) ^ 9 = 1000000000 := by decide
    have el : (e - 9).toNat = lo := by omega
    rw [e9, e10] at h4
    rw [el]
    grind
   ·subst hm
    have el : (e - 9).toNat = 0 := by omega
    rw [el, List.take_zero, z8y] at *
    grind
 ·left
  have el : e.toNat = 0 := by omega
  rw [el, List.take_zero, z8y] at h4
  exact ⟨out, by rw [z2z]; simp (discharger := omega) only [runL], h2, h3, by omega⟩
theorem za3 {s : zAd} (hs : s.size <= 8000000) (hK : 2000000000 < K) (hd : (z05 s).all digT = true) : ∃ z, z5b K s = some z /\ NumN (numT s) z /\ 9 * z.length < s.size + 9 := by
 obtain ⟨r, h1, h2, h3, h4⟩ := zkp hs hK hd
 obtain ⟨t, t1, t2, t3, t4⟩ := zbk (K := K) (B := 1000000000) (l := r) (by omega) hK h3
 exact ⟨t, by unfold z5b; simp (discharger := omega) only [runL, h1, t1], ⟨t2, by rw [t3, h4]⟩, by omega⟩
theorem zkq {d : Int} (hd : 0 <= d /\ d < 1000000000) (hK : 2000000000 < K) : ∃ p, z27 K K (List.replicate 9 0) d 8 = some p /\ p.length = 9 /\ p.all digT = true /\ numB p = d := by
 refine z8f (fun k (s : List Int × Int × Int) => z27 K k s.1 s.2.1 s.2.2) (fun s => ∃ j : Nat, s.2.2 = (j : Int) - 1 /\ j <= 9 /\ s.1.length = 9 /\ (s.1.drop j).all digT = true /\ (0 <= s.2.1 /\ s.2.1 <= d) /\ d = s.2.1 * 10 ^ (9 - j) + numB (s.1.drop j)) (fun s => (s.2.2 + 1).toNat) _ ?_ ((List.replicate 9 0, d, 8) : List Int × Int × Int) (by simp; omega) ⟨9, rfl, by omega, by simp, by simp, by dsimp only; omega, by simp [z8y]⟩
 rintro k ⟨p, c, _⟩ ⟨j, rfl, hj, h1, h2, h3, h4⟩
 dsimp only at h1 h2 h3 h4 ⊢
 by_cases h0 : j = 0
 ·subst h0
  left
  rw [List.drop_zero] at h2 h4
  have e9 : (10 : Int) ^ (9 - 0) = 1000000000 := by decide
  have := z5x h2
  rw [e9] at h4
  exact ⟨p, by rw [z27]; simp (discharger := omega) only [runL], h1, h2, by omega⟩
 ·right
  obtain ⟨i, rfl⟩ : ∃ i, j = i + 1 := ⟨j - 1, by omega⟩
  have e1 : ((i + 1 : Nat) : Int) - 1 = i := by omega
  rw [e1]
  have hx : (p.set i (48 + c % 10)).drop i = (48 + c % 10) :: p.drop (i + 1) := by
   rw [List.drop_eq_getElem_cons (by simp; omega), List.drop_set_of_lt (by omega)]
   simp
  have e2 : (10 : Int) ^ (9 - i) = 10 ^ (9 - (i + 1)) * 10 := by rw [<- Int.pow_succ]; congr 1; omega
  have e3 : (p.drop (i + 1)).length = 9 - (i + 1) := by rw [List.length_drop, h1]
  have hdm := Int.emod_add_mul_ediv c 10
  refine ⟨(p.set i (48 + c % 10), c / 10, (i : Int) - 1), ?_, by dsimp only; omega, i, rfl, by omega, by simp [h1], ?_, by dsimp only; omega, ?_⟩
  ·rw [z27]
   simp (discharger := omega) only [runL]
  ·dsimp only
   rw [hx, List.all_cons, h2, Bool.and_true]
   exact digT_iff.2 (by omega)
  ·dsimp only
   rw [hx, zar, e2, e3]
   generalize (10 : Int) ^ (9 - (i + 1)) = P at *
   grind
theorem zii {x : List Int} (hx : x.length <= 1000000) (hK : 2000000000 < K) (dx : DigB 1000000000 x) : ∃ b, z28 K x K [] ((x.length : Int) - 1) = some b /\ b.length = 9 * x.length /\ b.all digT = true /\ numB b = valB 1000000000 x := by
 refine z8f (fun k (s : List Int × Int) => z28 K x k s.1 s.2) (fun s => ∃ j : Nat, s.2 = (j : Int) - 1 /\ j <= x.length /\ s.1.length = 9 * (x.length - j) /\ s.1.all digT = true /\ numB s.1 = valB 1000000000 (x.drop j)) (fun s => (s.2 + 1).toNat) _ ?_ (([], (x.length : Int) - 1) : List Int × Int) (by dsimp only; omega) ⟨x.length, rfl, Nat.le_refl _, by simp, by simp, by simp [valB, z8y]⟩
 rintro k ⟨b, _⟩ ⟨j, rfl, hj, h1, h2, h4⟩
 dsimp only at h1 h2 h4 ⊢
 by_cases h0 : j = 0
 ·subst h0
  left
  exact ⟨b, by rw [z28]; simp (discharger := omega) only [runL], h1, h2, h4⟩
 ·right
  obtain ⟨i, rfl⟩ : ∃ i, j = i + 1 := ⟨j - 1, by omega⟩
  have e1 : ((i + 1 : Nat) : Int) - 1 = i := by omega
  rw [e1]
  have ex := z1t (by omega) dx i
  obtain ⟨p, p1, p2, p3, p4⟩ := zkq (K := K) (d := x.getD i 0) ex hK
  have e9 : (10 : Int) ^ 9 = 1000000000 := by decide
  refine ⟨(b ++ p, (i : Int) - 1), ?_, by dsimp only; omega, i, rfl, by omega, by simp; omega, ?_, ?_⟩
  ·rw [z28]
   simp (discharger := omega) only [runL, p1]
  ·dsimp only
   rw [List.all_append, h2, p3]; rfl
  ·dsimp only
   rw [zes, p2, p4, h4, zer x i, e9]
theorem ze1 {n : Int} : ∀ k (s : zAd), s.size < k -> s.size <= 16777216 -> (z05 s).all digT = true -> numT s = n -> ∃ t, z0l K 48 k s = some t /\ (z05 t).all digT = true /\ numT t = n /\ (z05 t).head? ≠ some 48 /\ t.size <= s.size := by
 intro k
 induction k with
 | zero => intro s h; omega
 | succ k ih =>
  intro s hk hb hd hn
  have hl := z01 s
  by_cases h0 : s.size > 0
  ·cases hc : z05 s with
   | nil => rw [hc] at hl; simp at hl; omega
   | cons c l =>
    obtain ⟨t, t1, t2, t3⟩ := zbj hc
    rw [hc] at hd hl
    simp only [List.all_cons, Bool.and_eq_true, List.length_cons] at hd hl
    have hcc : bidx s 0 = some c := by rw [z9a, hc]; rfl
    by_cases h1 : c = 48
    ·subst h1
     obtain ⟨r, r1, r2, r3, r4, r5⟩ := ih t (by omega) (by omega) (by rw [t2]; exact hd.2) (by rw [<- hn, zd9, zd9, t2, hc, zar]; simp)
     refine ⟨r, ?_, r2, r3, r4, by omega⟩
     rw [z0l, hcc, t1]
     simp (discharger := omega) only [runL, r1]
    ·refine ⟨s, ?_, by rw [hc]; simp [hd], hn, by rw [hc]; simp; omega, Nat.le_refl _⟩
     rw [z0l, hcc]
     simp (discharger := omega) only [runL]
  ·refine ⟨s, ?_, hd, hn, ?_, Nat.le_refl _⟩
   ·rw [z0l]
    have e : (decide ((s.size : Int) > 0)) = false := decide_eq_false (by omega)
    rw [e]
    simp (discharger := omega) only [runL, Bool.false_eq_true]
   ·have : z05 s = [] := List.length_eq_zero_iff.1 (by omega)
    rw [this]; simp
theorem zoe {s t : zAd} (h : s.size ≠ t.size) : sEq s t = false := by
 cases e : sEq s t with
 | false => rfl
 | true => rw [sEq_iff] at e; subst e; exact absurd rfl h
theorem zgl {s : zAd} (hs : s.size <= 16777216) (hK : 2000000000 < K) (hp : 0 < numT s) (hd : (z05 s).all digT = true) : ∃ t, z2w K s ⟨#[48]⟩ = some t /\ CanT t /\ numT t = numT s /\ t.size <= s.size := by
 obtain ⟨t, t1, t2, t3, t4, t5⟩ := ze1 (K := K) K s (by omega) hs hd rfl
 have ne : ∀ u : zAd, 0 < numT u -> u.size ≠ 0 := fun u hu e => by
  have : z05 u = [] := List.length_eq_zero_iff.1 (by rw [z01]; exact e)
  rw [zd9, this, z8y] at hu; omega
 refine ⟨t, ?_, ⟨ne t (by omega), t2, fun h => absurd h t4⟩, t3, t5⟩
 unfold z2w z2l
 have e1 : sEq s ⟨#[]⟩ = false := zoe (ne s hp)
 have e2 : sEq ⟨#[48]⟩ ⟨#[]⟩ = false := zoe (by decide)
 have e3 : bidx (⟨#[48]⟩ : zAd) 0 = some 48 := rfl
 have e4 : (((⟨#[48]⟩ : zAd).size : Int) == 1) = true := rfl
 rw [e1, e2, e3, e4]
 simp (discharger := omega) only [runL, Bool.false_eq_true, t1]
theorem zij {x : List Int} {n : Int} (hx : x.length <= 1000000) (hK : 2000000000 < K) (nx : NumN n x) : ∃ t, z49 K x = some t /\ CanT t /\ numT t = n /\ t.size <= 9 * x.length + 1 := by
 unfold z49
 by_cases h0 : x = []
 ·subst h0
  have e : n = 0 := nx.nil_iff.1 rfl
  subst e
  exact ⟨⟨#[48]⟩, rfl, ⟨by decide, rfl, fun _ => rfl⟩, rfl, by decide⟩
 ·have hl : x.length ≠ 0 := fun e => h0 (List.length_eq_zero_iff.1 e)
  obtain ⟨b, b1, b2, b3, b4⟩ := zii hx hK nx.1.1
  rw [nx.2] at b4
  have hr : ∀ c ∈ b, 0 <= c /\ c <= 255 := fun c hc => by have := digT_iff.1 (List.all_eq_true.1 b3 c hc); omega
  have hb := zc7 b hr
  have hsz : (strOfNums b).size = b.length := by rw [<- z01, hb]
  obtain ⟨t, t1, t2, t3, t4⟩ := zgl (K := K) (s := strOfNums b) (by omega) hK (by rw [zd9, hb, b4]; exact nx.pos h0) (by rw [hb]; exact b3)
  refine ⟨t, ?_, t2, by rw [t3, zd9, hb, b4], by omega⟩
  have e : ((x.length : Int) == 0) = false := by simp; omega
  rw [e]
  simp (discharger := omega) only [runL, Bool.false_eq_true, b1, t1]
end Go.Am.Tryz
/- Plain law: the reference's texts of digits. -/
namespace Go.Am.Tryz
open Go Go.Am Go.Proofs
variable {K : Nat}
theorem zkr {s : zAd} {c : Int} {l : List Int} (h : z05 s = c :: l) : bidx s 0 = some c := by rw [z9a, h]; rfl
theorem zik : ∀ n k (s : zAd), s.size = n -> n < k -> 0 < n -> (z05 s).all digT = true -> ∃ t, z4y K k s = some t /\ CanT t /\ numT t = numT s := by
 intro n
 induction n with
 | zero => intro k s _ _ h; omega
 | succ n ih =>
  intro k s hs hk _ hd
  obtain ⟨k, rfl⟩ : ∃ m, k = m + 1 := ⟨k - 1, by omega⟩
  have hn := z01 s
  cases hb : z05 s with
  | nil => rw [hb] at hn; simp at hn; omega
  | cons c l =>
   rw [z4y, zkr hb]
   by_cases h1 : (s.size : Int) > 1
   ·by_cases h2 : c = 48
    ·obtain ⟨t, h3, h4, h5⟩ := zbj hb
     have hl : l.length = n := by rw [hb] at hn; simp at hn; omega
     obtain ⟨r, h6, h7, h8⟩ := ih k t (by omega) (by omega) (by omega) (by rw [h4]; rw [hb] at hd; simp only [List.all_cons, Bool.and_eq_true] at hd; exact hd.2)
     refine ⟨r, ?_, h7, ?_⟩
     ·simp [h1, h2, h3, h6, tu1]
     ·rw [h8, zkh (s := s) (t := t) (c := c) (by rw [hb, h4]), h2]; simp
    ·refine ⟨s, by simp [h1, h2, tu1], ⟨by omega, hd, fun e => ?_⟩, rfl⟩
     rw [hb] at e; simp at e; exact absurd e h2
   ·exact ⟨s, by simp [h1, tu1], ⟨by omega, hd, fun e => by omega⟩, rfl⟩
theorem zas {s : zAd} (hs : s.size <= 1048576) (h0 : 0 < s.size) (hK : s.size < K) (hd : (z05 s).all digT = true) : ∃ t, z6b K s = some t /\ CanT t /\ numT t = numT s := by
 obtain ⟨t, h1, h2⟩ := zik (K := K) s.size K s rfl hK h0 hd
 exact ⟨t, by unfold z6b; rw [h1]; rfl, h2⟩
theorem z8h {s : zAd} (hs : s.size <= 1048576) (hd : (z05 s).all digT = true) (k : Nat) (hk : k <= 1048577) : z54 K s k = some ((z5k s).getD k 0) := by
 have hn := z01 s
 unfold z54
 by_cases h : k < s.size
 ·have h' : ((k : Int) < (s.size : Int)) := by omega
  have hi : s.size - 1 - k < (z05 s).length := by omega
  have e1 : z03 .i64 (z03 .i64 ((s.size : Int) - 1) - (k : Int)) = ((s.size - 1 - k : Nat) : Int) := by
   rw [kw (a := (s.size : Int) - 1) (by omega) (by omega), kw (by omega) (by omega)]; omega
  have hx : (z05 s)[s.size - 1 - k]? = some (z05 s)[s.size - 1 - k] := zAh hi
  have hc := List.all_eq_true.1 hd _ (List.getElem_mem hi)
  simp only [digT, Bool.and_eq_true, decide_eq_true_eq] at hc
  rw [decide_eq_true h', if_pos rfl, e1, z9a, z3v hx]
  have hg : (z5k s).getD k 0 = (z05 s)[s.size - 1 - k] - 48 := by
   unfold z5k
   rw [zAb, List.getElem?_reverse (by simp; omega), List.length_map, hn, List.getElem?_map, hx]
   rfl
  rw [hg]
  generalize (z05 s)[s.size - 1 - k] = c at hc
  have e2 : z03 .u8 (c - 48) = c - 48 := z78 (by simp [z93]; omega)
  have e3 : IntKind.wrap .i64 (c - 48) = c - 48 := by rw [<- z7o]; exact kw (by omega) (by omega)
  simp [e2, e3]
 ·have h' : ¬ ((k : Int) < (s.size : Int)) := by omega
  rw [decide_eq_false h', if_neg (by simp)]
  congr 1
  rw [zAb, List.getElem?_eq_none (by rw [z55]; omega)]
  rfl
theorem zr7 {x : Int} (h : 0 <= x) (h' : x <= 255) : z03 .u8 x = x := z78 (by simp [z93]; omega)
theorem zks {l : List Int} (hl : l.length <= 1048577) (hK : l.length < K) (hd : DigB 10 l) : z2x K l K (List.replicate l.length 0) 0 = some (l.map (48 + ·)).reverse := by
 suffices h : ∃ r, z2x K l K (List.replicate l.length 0) 0 = some r /\ r = (l.map (48 + ·)).reverse by
  obtain ⟨r, h1, rfl⟩ := h; exact h1
 refine zeq (S := List Int) l.length (fun k s i => z2x K l k s i) (fun b i => b.length = l.length /\ ∀ j < l.length, b.getD j 0 = if l.length - 1 - j < i then 48 + l.getD (l.length - 1 - j) 0 else 0) _ ?_ ?_ K _ hK ⟨by simp, fun j hj => by simp [zAb, hj]⟩
 ·rintro k b i hi ⟨hb, hj⟩
  right
  have hp : l.length - 1 - i < b.length := by omega
  have e1 : z03 .i64 (z03 .i64 ((l.length : Int) - 1) - (i : Int)) = ((l.length - 1 - i : Nat) : Int) := by
   rw [kw (a := (l.length : Int) - 1) (by omega) (by omega), kw (by omega) (by omega)]; omega
  have hx := hd (l.getD i 0) (by rw [zAb, zAh hi]; simp)
  have e2 : IntKind.wrap .u8 (z03 .i64 (48 + l.getD i 0)) = 48 + l.getD i 0 := by
   rw [kw (a := 48 + l.getD i 0) (by omega) (by omega), <- z7o]; exact zr7 (by omega) (by omega)
  refine ⟨b.set (l.length - 1 - i) (48 + l.getD i 0), ⟨by simp [hb], fun j hjl => ?_⟩, ?_⟩
  ·have hg : (b.set (l.length - 1 - i) (48 + l.getD i 0)).getD j 0 = if j = l.length - 1 - i then 48 + l.getD i 0 else b.getD j 0 := z7d hp
   rw [hg, hj j hjl]
   by_cases e : j = l.length - 1 - i
   ·have e3 : l.length - 1 - j = i := by omega
    rw [if_pos e, e3, if_pos (zAg i)]
   ·rw [if_neg e]
    by_cases e3 : l.length - 1 - j < i
    ·rw [if_pos e3, if_pos (by omega)]
    ·rw [if_neg e3, if_neg (by omega)]
  ·show z2x K l (k + 1) b i = _
   rw [z2x, zkf hi, if_pos rfl, zib hi]
   simp only [Option.bind_some, e1, zib hp, e2, Int.toNat_natCast, kw1 hi (by omega)]
 ·rintro k b i rfl ⟨hb, hj⟩
  refine ⟨b, ?_, ?_⟩
  ·show z2x K l (k + 1) b l.length = _
   rw [z2x, zfk (Nat.le_refl _)]; simp
  ·apply List.ext_getElem (by simp [hb])
   intro j h1 h2
   have h3 := hj j (by omega)
   rw [if_pos (by omega), zAb, zAh h1, zAb, zAh (show l.length - 1 - j < l.length by omega)] at h3
   simp at h3
   simp [h3]
theorem zet {l : List Int} (hl : l.length <= 1048575) (h0 : l ≠ []) (hK : l.length + 1 < K) (hd : DigB 10 l) : ∃ t, z8w K l = some t /\ CanT t /\ numT t = valB 10 l := by
 have hlen : 0 < l.length := by cases l with | nil => exact absurd rfl h0 | cons _ _ => simp
 have hrange : ∀ x ∈ (l.map (48 + ·)).reverse, 0 <= x /\ x <= 255 := fun x hx => by
  rw [List.mem_reverse, List.mem_map] at hx
  obtain ⟨d, h1, rfl⟩ := hx
  have := hd d h1
  omega
 have hb := zc7 _ hrange
 have hz : z05 ((⟨#[48]⟩ : zAd) ++ strOfNums (l.map (48 + ·)).reverse) = 48 :: (l.map (48 + ·)).reverse := by
  rw [z0r, hb]; rfl
 have hsz : ((⟨#[48]⟩ : zAd) ++ strOfNums (l.map (48 + ·)).reverse).size = l.length + 1 := by
  rw [<- z01, hz]; simp
 have hdg : (z05 ((⟨#[48]⟩ : zAd) ++ strOfNums (l.map (48 + ·)).reverse)).all digT = true := by
  rw [hz, List.all_eq_true]
  intro x hx
  rcases List.mem_cons.1 hx with rfl | hx
  ·rfl
  ·rw [List.mem_reverse, List.mem_map] at hx
   obtain ⟨d, h1, rfl⟩ := hx
   have := hd d h1
   simp [digT]; omega
 obtain ⟨t, h1, h2, h3⟩ := zas (K := K) (s := (⟨#[48]⟩ : zAd) ++ strOfNums (l.map (48 + ·)).reverse) (by omega) (by omega) (by omega) hdg
 refine ⟨t, ?_, h2, ?_⟩
 ·unfold z8w
  rw [if_pos (by omega), Int.toNat_natCast, zks (by omega) (by omega) hd]
  have e1 : (⟨#[48]⟩ : zAd).size = 1 := rfl
  simp only [Option.bind_some, tu1, List.length_reverse, List.length_map, strOfNums_size, e1]
  rw [if_pos hlen, if_pos (by omega), h1]
  rfl
 ·rw [h3]
  unfold numT z5k
  rw [hz, List.map_cons, List.reverse_cons, z5j, List.map_reverse, List.reverse_reverse, List.map_map]
  have : l.map ((fun x => x - 48) ∘ (fun x => 48 + x)) = l := by
   conv => rhs; rw [<- List.map_id l]
   apply List.map_congr_left
   intro x _
   show 48 + x - 48 = x
   omega
  rw [this]
  simp [valB]
end Go.Am.Tryz
/- Plain law: the reference's sum and difference of texts. -/
namespace Go.Am.Tryz
open Go Go.Am Go.Proofs
variable {K : Nat}
theorem zda (B : Int) (x : List Int) (k : Nat) : valB B (x.take (k + 1)) = valB B (x.take k) + B ^ k * x.getD k 0 := by
 by_cases h : k < x.length
 ·have hx : x[k]? = some x[k] := zAh h
  rw [List.take_add_one, hx, z5j, List.length_take, Nat.min_eq_left (by omega), zAb, hx]
  simp [valB]
 ·rw [List.take_of_length_le (by omega), List.take_of_length_le (by omega), zAb, List.getElem?_eq_none (by omega)]
  simp
theorem zkt {B : Int} (hB : 0 < B) {x : List Int} (h : DigB B x) (k : Nat) : 0 <= x.getD k 0 /\ x.getD k 0 < B := by
 by_cases hk : k < x.length
 ·rw [zAb, zAh hk]
  exact h _ (List.getElem_mem hk)
 ·rw [zAb, List.getElem?_eq_none (by omega)]
  simp [hB]
theorem zil {i j : Nat} (h : i <= j) : (10 : Int) ^ i <= 10 ^ j := by
 have h1 : (10 : Nat) ^ i <= 10 ^ j := Nat.pow_le_pow_right (by omega) h
 have h2 : ((10 ^ i : Nat) : Int) <= ((10 ^ j : Nat) : Int) := by omega
 simpa using h2
theorem zku (i : Nat) : 0 < (10 : Int) ^ i := by
 have h1 : 0 < (10 : Nat) ^ i := Nat.pow_pos (by omega)
 have h2 : (0 : Int) < ((10 ^ i : Nat) : Int) := by omega
 simpa using h2
theorem zof {a b : zAd} (ha : a.size <= 1000000) (hb : b.size <= 1000000) (h0 : 0 < a.size) (hK : 1048580 < K) (da : (z05 a).all digT = true) (db : (z05 b).all digT = true) : ∃ t, z83 K a b = some t /\ CanT t /\ numT t = numT a + numT b := by
 have dx := z7c da
 have dy := z7c db
 have lx := z55 a
 have ly := z55 b
 have vx := z4q (B := 10) (by omega) _ dx
 have vy := z4q (B := 10) (by omega) _ dy
 have key : ∃ r, z2b K a b K [] 0 0 = some r /\ r ≠ [] /\ r.length <= 1048575 /\ DigB 10 r /\ valB 10 r = numT a + numT b := by
  refine zeq (S := List Int × Int) (max a.size b.size + 1) (fun k s i => z2b K a b k s.1 s.2 i) (fun s i => s.1.length = i /\ DigB 10 s.1 /\ (0 <= s.2 /\ s.2 <= 1) /\ valB 10 s.1 + 10 ^ i * s.2 = valB 10 ((z5k a).take i) + valB 10 ((z5k b).take i)) _ ?_ ?_ K ([], 0) (by omega) ⟨rfl, DigB.nil 10, ⟨by omega, by omega⟩, by simp [valB]⟩
  ·rintro k ⟨out, c⟩ i hi ⟨h1, h2, h3, h4⟩
   simp only at h1 h2 h3 h4
   have hcond : (if (decide ((i : Int) < (a.size : Int))) = true then some true else (if (decide ((i : Int) < (b.size : Int))) = true then some true else some (decide (c > 0)))) = some (decide ((i < a.size \/ i < b.size) \/ c > 0)) := by
    by_cases e1 : i < a.size
    ·simp [e1]
    ·by_cases e2 : i < b.size
     ·simp [e1, e2]
     ·simp [e1, e2]
   show (∃ r, z2b K a b (k + 1) out c i = some r /\ _) \/ _
   rw [z2b, hcond]
   simp only [Option.bind_some, tu1]
   by_cases hc : (i < a.size \/ i < b.size) \/ c > 0
   ·right
    have ex := zkt (by omega) dx i
    have ey := zkt (by omega) dy i
    rw [decide_eq_true hc, if_pos rfl, z8h (by omega) da i (by omega), z8h (by omega) db i (by omega)]
    have tx := zda 10 (z5k a) i
    have ty := zda 10 (z5k b) i
    generalize (z5k a).getD i 0 = x at ex tx
    generalize (z5k b).getD i 0 = y at ey ty
    have e1 : z03 .i64 (x + y) = x + y := kw (by omega) (by omega)
    have e2 : z03 .i64 (x + y + c) = x + y + c := kw (by omega) (by omega)
    have e3 : Int.tmod (x + y + c) 10 = (x + y + c) % 10 := Int.tmod_eq_emod_of_nonneg (by omega)
    have e4 : Int.tdiv (x + y + c) 10 = (x + y + c) / 10 := Int.tdiv_eq_ediv_of_nonneg (by omega)
    have e5 : z03 .i64 ((x + y + c) / 10) = (x + y + c) / 10 := kw (by omega) (by omega)
    refine ⟨(out ++ [(x + y + c) % 10], (x + y + c) / 10), ⟨by simp [h1], h2.app (fun d hd => by simp at hd; omega), ⟨by omega, by omega⟩, ?_⟩, ?_⟩
    ·have hm := Int.emod_add_mul_ediv (x + y + c) 10
     generalize hq : (x + y + c) / 10 = q at hm
     generalize hr : (x + y + c) % 10 = r at hm
     simp only
     rw [z5j, h1, tx, ty, Int.pow_succ]
     simp only [valB, Int.mul_zero, Int.add_zero]
     generalize valB 10 ((z5k a).take i) = A at h4
     generalize valB 10 ((z5k b).take i) = B at h4
     generalize valB 10 out = C at h4
     generalize (10 : Int) ^ i = p at h4
     have e6 : p * (r + 10 * q) = p * (x + y + c) := by rw [hm]
     rw [Int.mul_add, Int.mul_add, Int.mul_add, <- Int.mul_assoc] at e6
     omega
    ·simp only [Option.bind_some, e1, e2, e3, e4, e5, lt, List.length_cons, List.length_nil, kw1 hi (by omega)]
     rw [if_pos (by omega)]
   ·left
    rw [decide_eq_false hc]
    refine ⟨out, by simp, ?_, by omega, h2, ?_⟩
    ·intro e; rw [e] at h1; simp at h1; omega
    ·rw [List.take_of_length_le (by omega), List.take_of_length_le (by omega)] at h4
     have : c = 0 := by omega
     rw [this] at h4
     unfold numT
     omega
  ·rintro k ⟨out, c⟩ i rfl ⟨h1, h2, h3, h4⟩
   simp only at h1 h2 h3 h4
   rw [List.take_of_length_le (by omega), List.take_of_length_le (by omega)] at h4
   have p1 : (10 : Int) ^ (z5k a).length <= 10 ^ (max a.size b.size) := zil (by omega)
   have p2 : (10 : Int) ^ (z5k b).length <= 10 ^ (max a.size b.size) := zil (by omega)
   have p3 := z0z (B := 10) (by omega) _ h2
   have p4 := zku (max a.size b.size)
   have hc0 : c = 0 := by
    by_cases e : c = 0
    ·exact e
    ·have e1 : c = 1 := by omega
     rw [e1, Int.mul_one, Int.pow_succ] at h4
     omega
   subst hc0
   have hcond : (if (decide (((max a.size b.size + 1 : Nat) : Int) < (a.size : Int))) = true then some true else (if (decide (((max a.size b.size + 1 : Nat) : Int) < (b.size : Int))) = true then some true else some (decide ((0 : Int) > 0)))) = some false := by
    rw [decide_eq_false (by omega), decide_eq_false (by omega)]; rfl
   refine ⟨out, ?_, ?_, by omega, h2, by unfold numT; omega⟩
   ·show z2b K a b (k + 1) out 0 _ = _
    rw [z2b, hcond]; rfl
   ·intro e; rw [e] at h1; simp at h1
 obtain ⟨r, h1, h2, h3, h4, h5⟩ := key
 obtain ⟨t, h6, h7, h8⟩ := zet (K := K) h3 h2 (by omega) h4
 refine ⟨t, ?_, h7, by rw [h8, h5]⟩
 unfold z83
 rw [h1]
 simp only [Option.bind_some, tu1, h6]
theorem zim {a b : zAd} (ha : a.size <= 1000000) (hb : b.size <= a.size) (h0 : 0 < a.size) (hK : 1048580 < K) (da : (z05 a).all digT = true) (db : (z05 b).all digT = true) (hle : numT b <= numT a) : ∃ t, z71 K a b = some t /\ CanT t /\ numT t = numT a - numT b := by
 have dx := z7c da
 have dy := z7c db
 have lx := z55 a
 have ly := z55 b
 have key : ∃ r, z2a K a b K [] 0 0 = some r /\ r ≠ [] /\ r.length <= 1048575 /\ DigB 10 r /\ valB 10 r = numT a - numT b := by
  refine zeq (S := List Int × Int) a.size (fun k s i => z2a K a b k s.1 s.2 i) (fun s i => s.1.length = i /\ DigB 10 s.1 /\ (0 <= s.2 /\ s.2 <= 1) /\ valB 10 s.1 + valB 10 ((z5k b).take i) = valB 10 ((z5k a).take i) + 10 ^ i * s.2) _ ?_ ?_ K ([], 0) (by omega) ⟨rfl, DigB.nil 10, ⟨by omega, by omega⟩, by simp [valB]⟩
  ·rintro k ⟨out, c⟩ i hi ⟨h1, h2, h3, h4⟩
   simp only at h1 h2 h3 h4
   right
   have ex := zkt (by omega) dx i
   have ey := zkt (by omega) dy i
   show ∃ s', _ /\ z2a K a b (k + 1) out c i = _
   rw [z2a, zkf hi, if_pos rfl, z8h (by omega) da i (by omega), z8h (by omega) db i (by omega)]
   have tx := zda 10 (z5k a) i
   have ty := zda 10 (z5k b) i
   generalize (z5k a).getD i 0 = x at ex tx
   generalize (z5k b).getD i 0 = y at ey ty
   have e1 : z03 .i64 (x - y) = x - y := kw (by omega) (by omega)
   have e2 : z03 .i64 (x - y - c) = x - y - c := kw (by omega) (by omega)
   have e3 : z03 .i64 (x - y - c + 10) = x - y - c + 10 := kw (by omega) (by omega)
   simp only [Option.bind_some, e1, e2, e3, lt, tu2, List.length_cons, List.length_nil, kw1 hi (by omega)]
   have h9 : out.length + (0 + 1) <= 16777216 := by omega
   by_cases hn : x - y - c < 0
   ·refine ⟨(out ++ [x - y - c + 10], 1), ⟨by simp [h1], h2.app (fun d hd => by simp at hd; omega), ⟨by omega, by omega⟩, ?_⟩, ?_⟩
    ·simp only
     rw [z5j, h1, tx, ty, Int.pow_succ]
     simp only [valB, Int.mul_zero, Int.add_zero, Int.mul_one]
     generalize valB 10 ((z5k a).take i) = A at h4
     generalize valB 10 ((z5k b).take i) = B at h4
     generalize valB 10 out = C at h4
     generalize (10 : Int) ^ i = p at h4
     rw [Int.mul_add, Int.mul_sub, Int.mul_sub]
     omega
    ·rw [decide_eq_true hn]
     simp only [if_true, Option.bind_some, if_pos h9, tu2]
   ·refine ⟨(out ++ [x - y - c], 0), ⟨by simp [h1], h2.app (fun d hd => by simp at hd; omega), ⟨by omega, by omega⟩, ?_⟩, ?_⟩
    ·simp only
     rw [z5j, h1, tx, ty, Int.pow_succ]
     simp only [valB, Int.mul_zero, Int.add_zero]
     generalize valB 10 ((z5k a).take i) = A at h4
     generalize valB 10 ((z5k b).take i) = B at h4
     generalize valB 10 out = C at h4
     generalize (10 : Int) ^ i = p at h4
     rw [Int.mul_sub, Int.mul_sub]
     omega
    ·rw [decide_eq_false hn]
     simp only [Bool.false_eq_true, if_false, Option.bind_some, if_pos h9, tu2]
  ·rintro k ⟨out, c⟩ i rfl ⟨h1, h2, h3, h4⟩
   simp only at h1 h2 h3 h4
   rw [List.take_of_length_le (by omega), List.take_of_length_le (by omega)] at h4
   have p3 := z4q (B := 10) (by omega) _ h2
   rw [h1] at p3
   have hle' : valB 10 (z5k b) <= valB 10 (z5k a) := hle
   have hc0 : c = 0 := by
    by_cases e : c = 0
    ·exact e
    ·have e1 : c = 1 := by omega
     rw [e1, Int.mul_one] at h4
     omega
   subst hc0
   refine ⟨out, ?_, ?_, by omega, h2, by unfold numT; omega⟩
   ·show z2a K a b (k + 1) out 0 _ = _
    rw [z2a, zfk (Nat.le_refl _)]; simp
   ·intro e; rw [e] at h1; simp at h1; omega
 obtain ⟨r, h1, h2, h3, h4, h5⟩ := key
 obtain ⟨t, h6, h7, h8⟩ := zet (K := K) h3 h2 (by omega) h4
 refine ⟨t, ?_, h7, by rw [h8, h5]⟩
 unfold z71
 rw [h1]
 simp only [Option.bind_some, tu1, h6]
end Go.Am.Tryz
/- Plain law: the reference's comparison, product, quotient and divisor of texts. -/
namespace Go.Am.Tryz
open Go Go.Am Go.Proofs
variable {K : Nat}
theorem z3e {s : zAd} (h : (z05 s).all digT = true) : 0 <= numT s := z5x h
theorem zbn {s : zAd} (h : (z05 s).all digT = true) : numT s < 10 ^ s.size := by
 have := zc8 h
 rwa [z01] at this
theorem zc9 {s : zAd} (h : CanT s) (h2 : 2 <= s.size) : (10 : Int) ^ (s.size - 1) <= numT s := by
 have hh : (z05 s).head? ≠ some 48 := fun e => by have := h.2.2 e; omega
 have h3 := zie (B := 10) (by omega) (zd8 h hh) (by intro e; have := z55 s; rw [e] at this; simp at this; omega)
 rwa [z55] at h3
theorem zbo {a b : zAd} (ha : (z05 a).all digT = true) (hb : CanT b) (h0 : a.size ≠ 0) (h : a.size < b.size) : numT a < numT b := by
 have h1 := zbn ha
 have h2 := zc9 hb (by omega)
 have h3 : (10 : Int) ^ a.size <= 10 ^ (b.size - 1) := z7j (by omega) (by omega)
 omega
theorem z3u {a b : zAd} (ha : CanT a) (hb : CanT b) (h : numT b <= numT a) : b.size <= a.size := by
 refine Nat.not_lt.1 fun hl => ?_
 have := zbo ha.2.1 hb ha.1 hl
 omega
theorem z9i : CanT ⟨#[48]⟩ := ⟨by decide, rfl, fun _ => rfl⟩
theorem z5p : numT ⟨#[48]⟩ = 0 := rfl
theorem z8z : CanT ⟨#[49]⟩ := ⟨by decide, rfl, fun h => by simp [z05] at h⟩
theorem z87 : numT ⟨#[49]⟩ = 1 := rfl
theorem zdb {s : zAd} (h : CanT s) : numT s = 0 ↔ s = ⟨#[48]⟩ := ⟨fun e => z8x h z9i (by rw [e, z5p]), fun e => by rw [e, z5p]⟩
theorem za9 : ∀ (x y : List UInt8), x.length = y.length -> (x.map fun b => (b.toNat : Int)).all digT = true -> (y.map fun b => (b.toNat : Int)).all digT = true -> (Op.bytesLess x y = true ↔ numB (x.map fun b => (b.toNat : Int)) < numB (y.map fun b => (b.toNat : Int)))
 | [], [], _, _, _ => by simp [Op.bytesLess]
 | [], _ :: _, h, _, _ => by simp at h
 | _ :: _, [], h, _, _ => by simp at h
 | a :: x, b :: y, h, hx, hy => by
  simp only [List.map_cons, List.all_cons, Bool.and_eq_true] at hx hy
  simp only [List.length_cons, Nat.add_right_cancel_iff] at h
  have ih := za9 x y h hx.2 hy.2
  have dx := digT_iff.1 hx.1
  have dy := digT_iff.1 hy.1
  simp only [Op.bytesLess, List.map_cons, zar, List.length_map, h]
  have lx0 := z5x hx.2
  have lx1 := zc8 hx.2
  have ly0 := z5x hy.2
  have ly1 := zc8 hy.2
  rw [List.length_map] at lx1 ly1
  rw [h] at lx1
  generalize numB (x.map fun b => (b.toNat : Int)) = X at *
  generalize numB (y.map fun b => (b.toNat : Int)) = Y at *
  have p0 : (0 : Int) < 10 ^ y.length := Int.pow_pos (by omega)
  generalize (10 : Int) ^ y.length = P at *
  rw [Bool.or_eq_true, Bool.and_eq_true, ih, decide_eq_true_eq, beq_iff_eq, UInt8.lt_iff_toNat_lt]
  rcases Nat.lt_trichotomy a.toNat b.toNat with h1 | h1 | h1
  ·have := z3g (Int.le_of_lt p0) (show ((a.toNat : Int) - 48) + 1 <= (b.toNat : Int) - 48 by omega)
   rw [Int.mul_add, Int.mul_one] at this
   exact ⟨fun _ => by omega, fun _ => .inl h1⟩
  ·have e : a = b := UInt8.toNat_inj.1 h1
   subst e
   exact ⟨fun h => by rcases h with h | h <;> omega, fun h => .inr ⟨rfl, by omega⟩⟩
  ·have := z3g (Int.le_of_lt p0) (show ((b.toNat : Int) - 48) + 1 <= (a.toNat : Int) - 48 by omega)
   rw [Int.mul_add, Int.mul_one] at this
   refine ⟨fun h => ?_, fun h => by omega⟩
   rcases h with h | ⟨h, _⟩
   ·omega
   ·subst h; omega
theorem zog {a b : zAd} (h : a.size = b.size) (ha : (z05 a).all digT = true) (hb : (z05 b).all digT = true) : sLt a b = decide (numT a < numT b) := by
 have := za9 a.data.toList b.data.toList (by simpa using h) ha hb
 unfold sLt
 rw [ByteArray.toList_eq, ByteArray.toList_eq]
 by_cases c : numT a < numT b
 ·rw [decide_eq_true c]; exact this.2 c
 ·rw [decide_eq_false c]
  cases e : Op.bytesLess a.data.toList b.data.toList with
  | false => rfl
  | true => exact absurd (this.1 e) c
theorem zlp {a b : zAd} (ha : CanT a) (hb : CanT b) : z70 K a b = some (if numT a < numT b then -1 else if numT a = numT b then 0 else 1) := by
 unfold z70
 by_cases h1 : a.size < b.size
 ·have := zbo ha.2.1 hb ha.1 h1
  simp (discharger := omega) only [runL]
 ·by_cases h2 : a.size > b.size
  ·have := zbo hb.2.1 ha hb.1 h2
   simp (discharger := omega) only [runL]
  ·have he : a.size = b.size := by omega
   rw [if_neg (by simp; omega), if_neg (by simp; omega), zog he ha.2.1 hb.2.1]
   by_cases c : numT a < numT b
   ·simp (discharger := omega) only [runL]
   ·by_cases d : numT a = numT b
    ·have : a = b := z8x ha hb d
     subst this
     have e : sEq a a = true := sEq_iff.2 rfl
     simp [e]
    ·have e : sEq a b = false := by
      cases e : sEq a b with
      | false => rfl
      | true => rw [sEq_iff] at e; subst e; exact absurd rfl d
     simp [e, c, d]
theorem zoh {b : zAd} {out : List Int} {u : Int} {i : Nat} (hb : b.size <= 1000000) (hl : i + b.size < out.length) (ho : out.length <= 8000000) (hK : 2000000000 < K) (hu : 0 <= u /\ u <= 9) (db : (z05 b).all digT = true) (d0 : DigB 10 out) :
  ∃ r : List Int, z34 K b (i : Int) u K out 0 = some r /\ r.length = out.length /\ (∀ j, 0 <= r.getD j 0 /\ r.getD j 0 <= 90) /\ valB 10 r = valB 10 out + 10 ^ i * (u * numT b) := by
 have dx := z7c db
 have lx := z55 b
 refine z8f (fun k (s : List Int × Int) => z34 K b (i : Int) u k s.1 s.2) (fun s => ∃ q : Nat, s.2 = q /\ q <= b.size /\ s.1.length = out.length /\ (∀ j, 0 <= s.1.getD j 0 /\ s.1.getD j 0 <= 90) /\ (∀ j, i + q <= j -> s.1.getD j 0 <= 9) /\ valB 10 s.1 = valB 10 out + 10 ^ i * (u * valB 10 ((z5k b).take q))) (fun s => (b.size - s.2 : Int).toNat) _ ?_ ((out, 0) : List Int × Int) (by simp; omega) ⟨0, rfl, by omega, rfl, fun j => by have := z1t (by omega) d0 j; dsimp only; omega, fun j _ => by have := z1t (by omega) d0 j; dsimp only; omega, by simp [valB]⟩
 rintro k ⟨o, _⟩ ⟨q, rfl, h0, h1, h2, h3, h4⟩
 dsimp only at h1 h2 h3 h4 ⊢
 by_cases hq : q < b.size
 ·right
  have ey := z1t (by omega) dx q
  have eo := h2 (i + q)
  have eo9 := h3 (i + q) (Nat.le_refl _)
  have ty := z3d 10 (z5k b) q
  have hdg := z8h (K := K) (s := b) (by omega) db q (by omega)
  have hm : 0 <= u * (z5k b).getD q 0 /\ u * (z5k b).getD q 0 <= 81 := by
   have := z3g hu.1 (show (z5k b).getD q 0 <= 9 by omega)
   exact ⟨z8p hu.1 ey.1, by omega⟩
  have hset := fun d => z6k 10 o (i + q) d (by omega)
  have hgs := fun d j => z7d (cs := o) (i := i + q) (j := j) (v := d) (by omega)
  have e1 : ((i : Int) + (q : Int)) = ((i + q : Nat) : Int) := by omega
  generalize hw : u * (z5k b).getD q 0 = w at hm
  generalize ho : o.getD (i + q) 0 = z at eo eo9 hset
  refine ⟨(o.set (i + q) (z + w), (q : Int) + 1), ?_, by dsimp only; omega, q + 1, rfl, by omega, by simp [h1], fun j => ?_, fun j hj => ?_, ?_⟩
  ·rw [z34, hdg]
   simp (discharger := omega) only [runL, e1, hw, ho]
  ·dsimp only; rw [hgs]; split
   ·omega
   ·exact h2 j
  ·dsimp only; rw [hgs, if_neg (by omega)]; exact h3 j (by omega)
  ·dsimp only
   rw [hset, h4, ty, <- hw, Int.pow_add]
   grind
 ·left
  have : q = b.size := by omega
  subst this
  rw [List.take_of_length_le (by omega)] at h4
  exact ⟨o, by rw [z34]; simp (discharger := omega) only [runL], h1, h2, h4⟩
theorem zin {c v : List Int} (hv : v.length + 1 = c.length) (hl : c.length <= 8000000) (hK : 2000000000 < K) (hc : ∀ j, 0 <= c.getD j 0 /\ c.getD j 0 <= 90) :
  ∃ r : List Int, z2m K v K c 0 = some r /\ r.length = c.length /\ (∀ j, 0 <= r.getD j 0) /\ (∀ j < v.length, r.getD j 0 <= 9) /\ valB 10 r = valB 10 c := by
 refine z8f (fun k (s : List Int × Int) => z2m K v k s.1 s.2) (fun s => ∃ i : Nat, s.2 = i /\ i <= v.length /\ s.1.length = c.length /\ (∀ j, 0 <= s.1.getD j 0 /\ s.1.getD j 0 <= 100) /\ (∀ j, i < j -> s.1.getD j 0 <= 90) /\ (∀ j < i, s.1.getD j 0 <= 9) /\ valB 10 s.1 = valB 10 c) (fun s => (v.length - s.2 : Int).toNat) _ ?_ ((c, 0) : List Int × Int) (by simp; omega) ⟨0, rfl, by omega, rfl, fun j => by have := hc j; dsimp only; omega, fun j _ => by have := hc j; dsimp only; omega, fun j hj => by omega, rfl⟩
 rintro k ⟨o, _⟩ ⟨i, rfl, h0, h1, h2, h3, h4, h5⟩
 dsimp only at h1 h2 h3 h4 h5 ⊢
 by_cases hi : i < v.length
 ·right
  have e1 : ((i : Int) + 1).toNat = i + 1 := by omega
  have b1 := h2 i
  have b2 := h2 (i + 1)
  have b3 := h3 (i + 1) (by omega)
  by_cases h9 : o.getD i 0 > 9
  ·generalize hz : o.getD i 0 = z at *
   generalize hz1 : o.getD (i + 1) 0 = z1 at *
   have hdm := Int.emod_add_mul_ediv z 10
   have hset := fun d => z6k 10 o (i + 1) d (by omega)
   have hset2 := fun d e => z6k 10 (o.set (i + 1) d) i e (by simp; omega)
   have hgs := fun d j => z7d (cs := o) (i := i + 1) (j := j) (v := d) (by omega)
   have hgs2 := fun d e j => z7d (cs := o.set (i + 1) d) (i := i) (j := j) (v := e) (by simp; omega)
   have hgi := fun d => hgs d i
   simp only [show ¬ i = i + 1 by omega, if_false, hz] at hgi
   have hsi : ∀ d, idx (o.set (i + 1) d) (i : Int) = some z := fun d => by rw [idxI (by omega) (by simp; omega), Int.toNat_natCast, hgi]
   refine ⟨((o.set (i + 1) (z1 + z / 10)).set i (z % 10), (i : Int) + 1), ?_, by dsimp only; omega, i + 1, rfl, by omega, by simp [h1], fun j => ?_, fun j hj => ?_, fun j hj => ?_, ?_⟩
   ·rw [z2m]
    simp (discharger := omega) only [runL, e1, hz, hz1, hsi]
   ·dsimp only; rw [hgs2, hgs]
    have := h2 j
    split
    ·omega
    ·split <;> omega
   ·dsimp only; rw [hgs2, hgs, if_neg (by omega), if_neg (by omega)]; exact h3 j (by omega)
   ·dsimp only; rw [hgs2]
    split
    ·omega
    ·rw [hgs, if_neg (by omega)]; exact h4 j (by omega)
   ·dsimp only
    rw [hset2, hset, hgi, hz1, h5, Int.pow_succ]
    grind
  ·refine ⟨(o, (i : Int) + 1), ?_, by dsimp only; omega, i + 1, rfl, by omega, h1, h2, fun j hj => h3 j (by omega), fun j hj => ?_, h5⟩
   ·have e : decide (o.getD i 0 > 9) = false := decide_eq_false h9
    rw [z2m]
    simp (discharger := omega) only [runL, e, Bool.false_eq_true]
   ·by_cases hj2 : j = i
    ·subst hj2; dsimp only; omega
    ·exact h4 j (by omega)
 ·left
  have : i = v.length := by omega
  subst this
  exact ⟨o, by rw [z2m]; simp (discharger := omega) only [runL], h1, fun j => (h2 j).1, h4, h5⟩
theorem kr1 {A B p q X : Int} : A * B + p * (q * B) = (A + p * q) * B := by grind
theorem zkv {a b : zAd} (ha : a.size <= 500000) (hb : b.size <= 500000) (hK : 2000000000 < K) (da : (z05 a).all digT = true) (db : (z05 b).all digT = true) :
  ∃ r : List Int, z35 K a b K (List.replicate (a.size + b.size + 1) 0) 0 = some r /\ r.length = a.size + b.size + 1 /\ DigB 10 r /\ valB 10 r = numT a * numT b := by
 have dx := z7c da
 have lx := z55 a
 refine z8f (fun k (s : List Int × Int) => z35 K a b k s.1 s.2) (fun s => ∃ i : Nat, s.2 = i /\ i <= a.size /\ s.1.length = a.size + b.size + 1 /\ DigB 10 s.1 /\ valB 10 s.1 = valB 10 ((z5k a).take i) * numT b) (fun s => (a.size - s.2 : Int).toNat) _ ?_ ((List.replicate (a.size + b.size + 1) 0, 0) : List Int × Int) (by simp; omega) ⟨0, rfl, by omega, by simp, .zeros (by omega) _, by simp [valB, z9f]⟩
 rintro k ⟨o, _⟩ ⟨i, rfl, h0, h1, h2, h4⟩
 dsimp only at h1 h2 h4 ⊢
 by_cases hi : i < a.size
 ·right
  have ex := z1t (by omega) dx i
  have tx := z3d 10 (z5k a) i
  have hdg := z8h (K := K) (s := a) (by omega) da i (by omega)
  obtain ⟨c, c1, c2, c3, c4⟩ := zoh (K := K) (b := b) (out := o) (u := (z5k a).getD i 0) (i := i) (by omega) (by omega) (by omega) hK ⟨ex.1, by omega⟩ db h2
  obtain ⟨v, hv⟩ : ∃ v, lsl c 0 ((c.length : Int) - 1) = some v := ⟨_, lslI (by omega) (by omega) (by omega)⟩
  have hvl : v.length + 1 = c.length := by
   rw [lslI (by omega) (by omega) (by omega)] at hv
   cases hv
   rw [List.length_take, List.length_drop]
   omega
  obtain ⟨r, r1, r2, r3, r4, r5⟩ := zin (K := K) (c := c) (v := v) hvl (by omega) hK c3
  have hval : valB 10 r = valB 10 ((z5k a).take (i + 1)) * numT b := by
   rw [r5, c4, h4, tx, kr1 (X := 0)]
  -- no digit is left over
  have htop : r.getD v.length 0 = 0 := by
   have s1 := z86 10 r v.length (by omega)
   have dlow : DigB 10 (r.take v.length) := fun d hd => by
    obtain ⟨j, hj, rfl⟩ := List.mem_iff_getElem.1 hd
    rw [List.length_take] at hj
    have q1 := r3 j
    have q2 := r4 j (by omega)
    rw [List.getElem_take]
    rw [zAb, zAh (by omega)] at q1 q2
    simp at q1 q2
    omega
   have s2 := z0z (B := 10) (by omega) _ dlow
   have s3 : r.drop v.length = [r.getD v.length 0] := by
    rw [List.drop_eq_getElem_cons (by omega), List.drop_eq_nil_of_le (by omega), zAb, zAh (by omega)]; rfl
   rw [s3] at s1
   simp only [valB, Int.mul_zero, Int.add_zero] at s1
   have t1 := z4q (B := 10) (by omega) _ (dx.take (i + 1))
   have t2 := zbn db
   have t3 := z3e db
   have t4 := z0z (B := 10) (by omega) _ (dx.take (i + 1))
   have t5 : (10 : Int) ^ ((z5k a).take (i + 1)).length <= 10 ^ a.size := z7j (by omega) (by rw [List.length_take]; omega)
   have t6 : valB 10 r < 10 ^ v.length := by
    rw [hval, show v.length = a.size + b.size by omega, Int.pow_add]
    have p0 : (0 : Int) < 10 ^ b.size := Int.pow_pos (by omega)
    have m1 := z3g t4 (show numT b <= 10 ^ b.size by omega)
    have m2 := Int.mul_lt_mul_of_pos_right (show valB 10 ((z5k a).take (i + 1)) < 10 ^ a.size by omega) p0
    omega
   refine Int.le_antisymm (Int.not_lt.1 fun hlt => ?_) (r3 _)
   have p0 : (0 : Int) < 10 ^ v.length := Int.pow_pos (by omega)
   have := z3g (Int.le_of_lt p0) (show 1 <= r.getD v.length 0 by omega)
   omega
  have dr : DigB 10 r := fun d hd => by
   obtain ⟨j, hj, rfl⟩ := List.mem_iff_getElem.1 hd
   have q1 := r3 j
   have q2 : r.getD j 0 <= 9 := by
    by_cases hjv : j < v.length
    ·exact r4 j hjv
    ·have : j = v.length := by omega
     subst this; omega
   rw [zAb, zAh hj] at q1 q2
   simp at q1 q2
   omega
  refine ⟨(r, (i : Int) + 1), ?_, by dsimp only; omega, i + 1, rfl, by omega, by dsimp only; omega, dr, hval⟩
  have hcl : (c.length : Int) - 1 = c.length - 1 := rfl
  rw [z35, hdg, if_pos (decide_eq_true (by omega)), z0d, c1, z0d, tu1a, k64 (by omega) (by omega), hv, z0d, r1, z0d, tu1a, k64 (by omega) (by omega)]
 ·left
  have : i = a.size := by omega
  subst this
  rw [List.take_of_length_le (by omega)] at h4
  exact ⟨o, by rw [z35]; simp (discharger := omega) only [runL], h1, h2, h4⟩
theorem zbp {a b : zAd} (ha : a.size <= 500000) (hb : b.size <= 500000) (hK : 2000000000 < K) (da : (z05 a).all digT = true) (db : (z05 b).all digT = true) : ∃ t, z3o K a b = some t /\ CanT t /\ numT t = numT a * numT b := by
 obtain ⟨r, h1, h2, h3, h4⟩ := zkv ha hb hK da db
 obtain ⟨t, t1, t2, t3⟩ := zet (K := K) (l := r) (by omega) (by intro e; rw [e] at h2; simp at h2) (by omega) h3
 refine ⟨t, ?_, t2, by rw [t3, h4]⟩
 unfold z3o
 have e1 : ((a.size : Int) + (b.size : Int) + 1) = ((a.size + b.size + 1 : Nat) : Int) := by omega
 simp (discharger := omega) only [runL, e1, h1, t1]
end Go.Am.Tryz
/- Plain law: long division of the program's numbers. -/
namespace Go.Am.Tryz
open Go Go.Am Go.Proofs
variable {K : Nat}
theorem zio (u : List Int) (i n : Nat) (h : i + n <= u.length) : valB 1000000000 u = valB 1000000000 (u.take i) + 1000000000 ^ i * (valB 1000000000 ((u.drop i).take n) + 1000000000 ^ n * valB 1000000000 (u.drop (i + n))) := by
 have h1 := z86 1000000000 u i (by omega)
 have h2 := z86 1000000000 (u.drop i) n (by rw [List.length_drop]; omega)
 rw [h1, h2, List.drop_drop]
theorem zlq {l : List Int} {i : Nat} (h : l.length <= i) : l.getD i 0 = 0 := by rw [zAb, List.getElem?_eq_none h]; rfl
theorem zmt {u v : List Int} {k : Nat} {q : Int} (hk : k + v.length + 1 <= u.length) (hl : u.length <= 8000000) (hK : 2000000000 < K) (hq : 0 <= q /\ q < 1000000000) (du : DigB 1000000000 u) (dv : DigB 1000000000 v) :
  ∃ (b : Int) (u' : List Int), z3l K u v k q = some (decide (b > 0), u') /\ (b = 0 \/ b = 1) /\ u'.length = u.length /\ DigB 1000000000 u' /\ u'.take k = u.take k /\ u'.drop (k + (v.length + 1)) = u.drop (k + (v.length + 1)) ∧
   valB 1000000000 u' = valB 1000000000 u - 1000000000 ^ k * (q * valB 1000000000 v) + 1000000000 ^ (k + (v.length + 1)) * b := by
 have key : ∃ r : List Int × Int, z1a K v k q K u 0 0 0 = some r /\ (r.2 = 0 \/ r.2 = 1) /\ r.1.length = u.length /\ DigB 1000000000 r.1 /\ r.1.take k = u.take k /\ r.1.drop (k + (v.length + 1)) = u.drop (k + (v.length + 1)) ∧
   valB 1000000000 r.1 = valB 1000000000 u - 1000000000 ^ k * (q * valB 1000000000 v) + 1000000000 ^ (k + (v.length + 1)) * r.2 := by
  refine z8f (fun m (s : List Int × Int × Int × Int) => z1a K v k q m s.1 s.2.1 s.2.2.1 s.2.2.2) (fun s => ∃ i : Nat, s.2.2.2 = i /\ i <= v.length + 1 /\ s.1.length = u.length /\ DigB 1000000000 s.1 /\ (s.2.1 = 0 \/ s.2.1 = 1) /\ (0 <= s.2.2.1 /\ s.2.2.1 < 1000000000) /\ (i = v.length + 1 -> s.2.2.1 = 0) /\ s.1.take k = u.take k /\ s.1.drop (k + (v.length + 1)) = u.drop (k + (v.length + 1)) ∧
   valB 1000000000 s.1 = valB 1000000000 u - 1000000000 ^ k * (q * valB 1000000000 (v.take i)) + 1000000000 ^ (k + i) * (s.2.1 + s.2.2.1)) (fun s => (v.length + 1 - s.2.2.2 : Int).toNat) _ ?_ ((u, 0, 0, 0) : List Int × Int × Int × Int) (by simp; omega) ⟨0, rfl, by omega, rfl, du, .inl rfl, by simp, by simp, rfl, rfl, by simp [valB]⟩
  rintro m ⟨o, b, c, _⟩ ⟨i, rfl, h0, h1, h2, h3, h4, h5, h6, h7, h8⟩
  dsimp only at h1 h2 h3 h4 h5 h6 h7 h8 ⊢
  by_cases hi : i < v.length + 1
  ·right
   have ev := z1t (by omega) dv i
   have eo := z1t (by omega) h2 (k + i)
   have hm := zlo hq ev
   have tv := z3d 1000000000 v i
   have e1 : ((k : Int) + (i : Int)) = ((k + i : Nat) : Int) := by omega
   have e2 : (1000000000 : Int) ^ (k + (i + 1)) = 1000000000 ^ k * 1000000000 ^ i * 1000000000 := by rw [<- Nat.add_assoc, Int.pow_succ, Int.pow_add]
   have hset := fun d => z6k 1000000000 o (k + i) d (by omega)
   have hz : ¬ i < v.length -> q * v.getD i 0 = 0 := fun h => by rw [zlq (by omega)]; simp
   generalize hw : q * v.getD i 0 = w at hm hz
   generalize ho : o.getD (k + i) 0 = z at eo hset
   have hdm := Int.emod_add_mul_ediv (c + w) 1000000000
   have htk : ∀ d, (o.set (k + i) d).take k = u.take k := fun d => by rw [List.take_set_of_le (by omega), h6]
   have hdr : ∀ d, (o.set (k + i) d).drop (k + (v.length + 1)) = u.drop (k + (v.length + 1)) := fun d => by rw [List.drop_set_of_lt (by omega), h7]
   have hc0 : i + 1 = v.length + 1 -> (c + w) / 1000000000 = 0 := fun h => by rw [hz (by omega)]; omega
   have hb2 : 0 <= b /\ b <= 1 := by rcases h3 with rfl | rfl <;> omega
   by_cases hn : z - (c + w) % 1000000000 - b < 0
   ·refine ⟨(o.set (k + i) (z - (c + w) % 1000000000 - b + 1000000000), 1, (c + w) / 1000000000, (i : Int) + 1), ?_, by dsimp only; omega, i + 1, rfl, by omega, by simp [h1], h2.set _ (by omega), .inr rfl, by dsimp only; omega, hc0, htk _, hdr _, ?_⟩
    ·rw [z1a]
     by_cases h : i < v.length
     ·simp (discharger := omega) only [runL, e1, hw, ho]
     ·have e := hz h
      subst e
      simp only [Int.add_zero] at hn ⊢
      simp (discharger := omega) only [runL, e1, ho]
    ·dsimp only
     rw [hset, tv, e2]
     rw [Int.pow_add] at h8 ⊢
     subst hw
     generalize (c + q * v.getD i 0) / 1000000000 = Q at *
     generalize (c + q * v.getD i 0) % 1000000000 = R at *
     grind
   ·refine ⟨(o.set (k + i) (z - (c + w) % 1000000000 - b), 0, (c + w) / 1000000000, (i : Int) + 1), ?_, by dsimp only; omega, i + 1, rfl, by omega, by simp [h1], h2.set _ (by omega), .inl rfl, by dsimp only; omega, hc0, htk _, hdr _, ?_⟩
    ·rw [z1a]
     by_cases h : i < v.length
     ·simp (discharger := omega) only [runL, e1, hw, ho]
     ·have e := hz h
      subst e
      simp only [Int.add_zero] at hn ⊢
      simp (discharger := omega) only [runL, e1, ho]
    ·dsimp only
     rw [hset, tv, e2]
     rw [Int.pow_add] at h8 ⊢
     subst hw
     generalize (c + q * v.getD i 0) / 1000000000 = Q at *
     generalize (c + q * v.getD i 0) % 1000000000 = R at *
     grind
  ·left
   have : i = v.length + 1 := by omega
   subst this
   have hc := h5 rfl
   subst hc
   rw [List.take_of_length_le (by omega), Int.add_zero] at h8
   exact ⟨(o, b), by rw [z1a]; simp (discharger := omega) only [runL], h3, h1, h2, h6, h7, h8⟩
 obtain ⟨⟨u', b⟩, h1, h2⟩ := key
 exact ⟨b, u', by unfold z3l; rw [h1]; rfl, h2⟩
theorem zoi {u v : List Int} {k : Nat} (hk : k + v.length + 1 <= u.length) (hl : u.length <= 8000000) (hK : 2000000000 < K) (du : DigB 1000000000 u) (dv : DigB 1000000000 v) :
  ∃ (u' : List Int) (b : Int), z48 K u v k = some u' /\ (b = 0 \/ b = 1) /\ u'.length = u.length /\ DigB 1000000000 u' /\ u'.take k = u.take k /\ u'.drop (k + (v.length + 1)) = u.drop (k + (v.length + 1)) ∧
   valB 1000000000 u' + 1000000000 ^ (k + (v.length + 1)) * b = valB 1000000000 u + 1000000000 ^ k * valB 1000000000 v := by
 have key : ∃ r : List Int, z26 K v k K u 0 0 = some r /\ ∃ b : Int, (b = 0 \/ b = 1) /\ r.length = u.length /\ DigB 1000000000 r /\ r.take k = u.take k /\ r.drop (k + (v.length + 1)) = u.drop (k + (v.length + 1)) ∧
   valB 1000000000 r + 1000000000 ^ (k + (v.length + 1)) * b = valB 1000000000 u + 1000000000 ^ k * valB 1000000000 v := by
  refine z8f (fun m (s : List Int × Int × Int) => z26 K v k m s.1 s.2.1 s.2.2) (fun s => ∃ i : Nat, s.2.2 = i /\ i <= v.length + 1 /\ s.1.length = u.length /\ DigB 1000000000 s.1 /\ (s.2.1 = 0 \/ s.2.1 = 1) /\ s.1.take k = u.take k /\ s.1.drop (k + (v.length + 1)) = u.drop (k + (v.length + 1)) ∧
   valB 1000000000 s.1 + 1000000000 ^ (k + i) * s.2.1 = valB 1000000000 u + 1000000000 ^ k * valB 1000000000 (v.take i)) (fun s => (v.length + 1 - s.2.2 : Int).toNat) _ ?_ ((u, 0, 0) : List Int × Int × Int) (by simp; omega) ⟨0, rfl, by omega, rfl, du, .inl rfl, rfl, rfl, by simp [valB]⟩
  rintro m ⟨o, b, _⟩ ⟨i, rfl, h0, h1, h2, h3, h6, h7, h8⟩
  dsimp only at h1 h2 h3 h6 h7 h8 ⊢
  by_cases hi : i < v.length + 1
  ·right
   have ev := z1t (by omega) dv i
   have eo := z1t (by omega) h2 (k + i)
   have tv := z3d 1000000000 v i
   have e1 : ((k : Int) + (i : Int)) = ((k + i : Nat) : Int) := by omega
   have e2 : (1000000000 : Int) ^ (k + (i + 1)) = 1000000000 ^ k * 1000000000 ^ i * 1000000000 := by rw [<- Nat.add_assoc, Int.pow_succ, Int.pow_add]
   have hset := fun d => z6k 1000000000 o (k + i) d (by omega)
   have hz : ¬ i < v.length -> v.getD i 0 = 0 := fun h => zlq (by omega)
   generalize hw : v.getD i 0 = w at ev hz tv
   generalize ho : o.getD (k + i) 0 = z at eo hset
   have hdm := Int.emod_add_mul_ediv (z + b + w) 1000000000
   have htk : ∀ d, (o.set (k + i) d).take k = u.take k := fun d => by rw [List.take_set_of_le (by omega), h6]
   have hdr : ∀ d, (o.set (k + i) d).drop (k + (v.length + 1)) = u.drop (k + (v.length + 1)) := fun d => by rw [List.drop_set_of_lt (by omega), h7]
   have hb2 : 0 <= b /\ b <= 1 := by rcases h3 with rfl | rfl <;> omega
   refine ⟨(o.set (k + i) ((z + b + w) % 1000000000), (z + b + w) / 1000000000, (i : Int) + 1), ?_, by dsimp only; omega, i + 1, rfl, by omega, by simp [h1], h2.set _ (by omega), by dsimp only; omega, htk _, hdr _, ?_⟩
   ·rw [z26]
    by_cases h : i < v.length
    ·simp (discharger := omega) only [runL, e1, hw, ho]
    ·have e := hz h
     subst e
     simp only [Int.add_zero] at hdm ⊢
     simp (discharger := omega) only [runL, e1, ho]
   ·dsimp only
    rw [hset, tv, e2]
    rw [Int.pow_add] at h8
    generalize (z + b + w) / 1000000000 = Q at *
    generalize (z + b + w) % 1000000000 = R at *
    grind
  ·left
   have : i = v.length + 1 := by omega
   subst this
   rw [List.take_of_length_le (by omega)] at h8
   exact ⟨o, by rw [z26]; simp (discharger := omega) only [runL], b, h3, h1, h2, h6, h7, h8⟩
 obtain ⟨u', h1, b, h2⟩ := key
 exact ⟨u', b, by unfold z48; rw [h1]; rfl, h2⟩
theorem zmu {u v : List Int} {k : Nat} {P vl top ul q g r : Int} (hn : 2 <= v.length) (hk : k + v.length + 1 <= u.length) (hl : u.length <= 8000000) (hK : 2000000000 < K)
  (h : Kn 1000000000 P (v.getD (v.length - 1) 0) (v.getD (v.length - 2) 0) vl top (u.getD (k + v.length - 2) 0) ul q) (hv : v.getD (v.length - 1) 0 < 1000000000) (ht : top < 1000000000 * v.getD (v.length - 1) 0 + 1000000000) (hr : top = g * v.getD (v.length - 1) 0 + r) (hg : q <= g) (hg2 : g < 2000000000) (hr0 : 0 <= r /\ r < 1000000000) :
  ∃ g', z22 K v u k K g r = some g' /\ q <= g' /\ g' <= q + 1 /\ g' < 1000000000 := by
 generalize hv1 : v.getD (v.length - 1) 0 = v1 at *
 generalize hv2 : v.getD (v.length - 2) 0 = v2 at *
 generalize hu3 : u.getD (k + v.length - 2) 0 = u3 at *
 have a1 := h.v1p
 have a2 := h.v2p
 have a3 := h.v2b
 have a4 := h.u3p
 have a5 := h.u3b
 have a6 := h.q0
 have a7 := h.qB
 refine z8f (fun m (s : Int × Int) => z22 K v u k m s.1 s.2) (fun s => top = s.1 * v1 + s.2 /\ q <= s.1 /\ s.1 < 2000000000 /\ 0 <= s.2 /\ s.2 < 1000000000) (fun s => (1000000000 - s.2).toNat) _ ?_ ((g, r) : Int × Int) ?_ ⟨hr, hg, hg2, hr0.1, hr0.2⟩
 ·rintro m ⟨g, r⟩ ⟨b1, b2, b3, b4, b5⟩
  dsimp only at b1 b2 b3 b4 b5 ⊢
  have f1 : idx v (z03 .i64 ((v.length : Int) - 1)) = some v1 := by
   rw [k64 (by omega) (by omega), idxI (by omega) (by omega), <- hv1]; congr 2; omega
  have f2 : idx v (z03 .i64 ((v.length : Int) - 2)) = some v2 := by
   rw [k64 (by omega) (by omega), idxI (by omega) (by omega), <- hv2]; congr 2; omega
  have f3 : idx u (z03 .i64 (z03 .i64 ((k : Int) + (v.length : Int)) - 2)) = some u3 := by
   rw [k64 (a := (k : Int) + (v.length : Int)) (by omega) (by omega), k64 (by omega) (by omega), idxI (by omega) (by omega), <- hu3]; congr 2; omega
  have m1 : 0 <= g * v2 := z8p (by omega) a2
  have m2 := z3g (show 0 <= g by omega) (show v2 <= 999999999 by omega)
  rw [z22, f1, f2]
  generalize hw : g * v2 = w at m1 m2
  by_cases c : g >= 1000000000 \/ w > r * 1000000000 + u3
  ·have hqg : q < g := by
    rcases c with c | c
    ·omega
    ·exact h.down b1 (by omega) (by omega)
   have hc : (if (decide (g >= 1000000000)) = true then some true else ((some v2).bind fun x235 => (lt (z03 .i64 ((z03 .i64 ((k : Int) + (v.length : Int))) - 2)) fun x239 => ((idx u x239).bind fun x242 => (lt (z03 .u64 ((z03 .u64 (r * 1000000000)) + (IntKind.wrap .u64 x242))) fun x246 => (lt (decide ((z03 .u64 (g * (IntKind.wrap .u64 x235))) > x246)) fun x249 => some x249)))))) = some true := by
    by_cases c1 : g >= 1000000000
    ·rw [decide_eq_true c1]; rfl
    ·rw [decide_eq_false c1]
     simp only [z0d, lta, Bool.false_eq_true, if_false, f3]
     rw [u64w (a := v2) (by omega) (by omega), hw, u64w (a := u3) (by omega) (by omega), ku64 (a := w) (by omega) (by omega), ku64 (a := r * 1000000000) (by omega) (by omega), ku64 (a := r * 1000000000 + u3) (by omega) (by omega), decide_eq_true (by omega)]
   rw [hc]
   by_cases c2 : r + v1 >= 1000000000
   ·left
    have hgB : g <= 1000000000 := by
     refine Int.not_lt.1 fun hlt => ?_
     have := z3g (show 0 <= v1 by omega) (show 1000000001 <= g by omega)
     rw [Int.mul_comm v1 g] at this
     omega
    have hx := h.exitB (g := g - 1) (r := r + v1) (by rw [Int.sub_mul]; omega) (by omega) (by omega) c2
    refine ⟨g - 1, ?_, by omega, by omega, by omega⟩
    simp (discharger := omega) only [runL]
   ·right
    refine ⟨(g - 1, r + v1), ?_, by dsimp only; omega, by dsimp only; rw [Int.sub_mul]; omega, by dsimp only; omega, by dsimp only; omega, by dsimp only; omega, by dsimp only; omega⟩
    have e : decide (r + v1 >= 1000000000) = false := decide_eq_false c2
    simp (discharger := omega) only [runL, e, Bool.false_eq_true]
  ·left
   have c1 : ¬ g >= 1000000000 := fun x => c (.inl x)
   have c3 : ¬ w > r * 1000000000 + u3 := fun x => c (.inr x)
   have hx := h.exitA b1 (by omega) (by omega) (by omega)
   refine ⟨g, ?_, b2, hx, by omega⟩
   rw [decide_eq_false c1]
   simp only [z0d, lta, Bool.false_eq_true, if_false, f3]
   rw [u64w (a := v2) (by omega) (by omega), hw, u64w (a := u3) (by omega) (by omega), ku64 (a := w) (by omega) (by omega), ku64 (a := r * 1000000000) (by omega) (by omega), ku64 (a := r * 1000000000 + u3) (by omega) (by omega), decide_eq_false c3]
   simp only [z0d, tu1a, Bool.false_eq_true, if_false]
 ·dsimp only; omega
end Go.Am.Tryz
/- Plain law: quotient and remainder, greatest common divisor of the program's numbers. -/
namespace Go.Am.Tryz
open Go Go.Am Go.Proofs
variable {K : Nat}
theorem zip (u : List Int) (i j : Nat) : (u.drop i).getD j 0 = u.getD (i + j) 0 := by
 rw [zAb, List.getElem?_drop, zAb]
section
variable {p X Y V M HI LO U g q b c rr M1 M2 U1 U2 P v1 v2 vl t1 t2 t3 ul top : Int}
theorem kd1 : vl + P * v2 + P * 1000000000 * v1 = P * (1000000000 * v1 + v2) + vl := by grind
theorem kd2 : ul + P * t3 + P * 1000000000 * t2 + P * 1000000000 * 1000000000 * t1 = P * (1000000000 * (t1 * 1000000000 + t2) + t3) + ul := by grind
theorem kd3 (hu : U < p * 1000000000 * V) (hm : U = LO + p * (M + Y * 1000000000 * HI)) (h0 : 0 <= LO) (p0 : 0 < p) (Y0 : 0 < Y) (hV : V < Y) (hM : 0 <= M) (hH : 0 <= HI) : HI = 0 := by
 refine Int.le_antisymm (Int.not_lt.1 fun hlt => ?_) hH
 have a1 := z3g (Int.le_of_lt Y0) (show 1 <= HI by omega)
 have a2 := z3g (Int.le_of_lt p0) (show V + 1 <= Y by omega)
 have a3 := z3g (Int.le_of_lt p0) (show Y * 1000000000 <= M + Y * 1000000000 * HI by grind)
 grind
theorem kd4 (hu : U < p * 1000000000 * V) (hm : U = LO + p * (M + X * 0)) (h0 : 0 <= LO) (p0 : 0 < p) : M < 1000000000 * V := by
 refine Int.not_le.1 fun hle => ?_
 have a1 := z3g (Int.le_of_lt p0) hle
 grind
theorem kd5 (h : rr + V * q = M) (h0 : 0 <= rr) : q * V <= M := by grind
theorem kd5' (h : rr + V * q = M) (h0 : rr < V) : M < (q + 1) * V := by grind
theorem kd6 (hM : M = P * (1000000000 * top + t3) + ul) (hV : V = P * (1000000000 * v1 + v2) + vl) (h : M < 1000000000 * V) (P0 : 0 < P) (b2 : v2 < 1000000000) (b3 : 0 <= t3) (u0 : 0 <= ul) (vb : vl < P) : top < 1000000000 * v1 + 1000000000 := by
 refine Int.not_le.1 fun hle => ?_
 have a1 := z3g (Int.le_of_lt P0) (z3g (show (0:Int) <= 1000000000 by omega) hle)
 have a2 := z3g (Int.le_of_lt P0) (show v2 <= 999999999 by omega)
 have a3 := z8p (Int.le_of_lt P0) b3
 subst hM hV
 grind
theorem kd7 (p0 : 0 < p) (h1 : U1 = LO + p * (M1 + X * 0)) (h2 : U1 = U - p * (g * V) + p * X * b) (h3 : U = LO + p * (M + X * 0)) : M1 = M - g * V + X * b := by
 have : p * M1 = p * (M - g * V + X * b) := by grind
 exact Int.eq_of_mul_eq_mul_left (by omega) this
theorem kd8 (h : rr + V * q = M) (h1 : rr < V) (hV : 0 < V) (hm : M1 = M - g * V + X * 0) (h0 : 0 <= M1) (hq : q <= g) : g = q := by
 refine Int.le_antisymm (Int.not_lt.1 fun hlt => ?_) hq
 have a1 := z3g (Int.le_of_lt hV) (show q + 1 <= g by omega)
 grind
theorem kd9 (h : rr + V * q = M) (h0 : 0 <= rr) (hm : M1 = M - g * V + X * 1) (h1 : M1 < X) (hq : q <= g) (hq1 : g <= q + 1) : g = q + 1 := by
 refine Int.le_antisymm hq1 (Int.not_lt.1 fun hlt => ?_)
 have : g = q := by omega
 subst this
 grind
theorem kd10 (p0 : 0 < p) (h1 : U2 = LO + p * (M2 + X * 0)) (h2 : U2 + p * X * c = U1 + p * V) (h3 : U1 = LO + p * (M1 + X * 0)) (h4 : M1 = M - (q + 1) * V + X * 1) : M2 = M - q * V + X * (1 - c) := by
 have : p * M2 = p * (M - q * V + X * (1 - c)) := by grind
 exact Int.eq_of_mul_eq_mul_left (by omega) this
theorem kd11 (h : rr + V * q = M) (h0 : 0 <= rr) (hm : M2 = M - q * V + X * (1 - c)) (h1 : M2 < X) (hc : c = 0 \/ c = 1) : c = 1 := by
 rcases hc with rfl | rfl
 ·grind
 ·rfl
theorem kd12 (h1 : U1 = LO + p * (M1 + X * 0)) (hm : M1 = M - q * V) (h3 : U = LO + p * (M + X * 0)) : U1 + p * (q * V) = U := by grind
theorem kd13 (p0 : 0 < p) (h1 : U1 = LO + p * (M1 + X * 0)) (hm : M1 = M - q * V) (h : rr + V * q = M) (hr : rr < V) (hl : LO < p) : U1 < p * V := by
 have a1 := z3g (Int.le_of_lt p0) (show M1 + 1 <= V by grind)
 grind
end
theorem ziq {u v : List Int} {i : Nat} (hn : 2 <= v.length) (hk : i + v.length + 1 <= u.length) (hl : u.length <= 8000000) (hK : 2000000000 < K) (du : DigB 1000000000 u) (cv : CanB 1000000000 v) (hu : valB 1000000000 u < 1000000000 ^ (i + 1) * valB 1000000000 v) :
  ∃ g b u1 u2 q, z22 K v u i K ((u.getD (i + v.length) 0 * 1000000000 + u.getD (i + v.length - 1) 0) / v.getD (v.length - 1) 0) ((u.getD (i + v.length) 0 * 1000000000 + u.getD (i + v.length - 1) 0) % v.getD (v.length - 1) 0) = some g /\ 0 <= g /\ g < 1000000000 ∧
   z3l K u v i g = some (b, u1) /\ (b = true -> z48 K u1 v i = some u2 /\ q = g - 1) /\ (b = false -> u2 = u1 /\ q = g) /\ 0 <= q /\ q < 1000000000 /\ u2.length = u.length /\ DigB 1000000000 u2 ∧
   valB 1000000000 u2 + 1000000000 ^ i * (q * valB 1000000000 v) = valB 1000000000 u /\ valB 1000000000 u2 < 1000000000 ^ i * valB 1000000000 v /\ 1 <= v.getD (v.length - 1) 0 /\ v.getD (v.length - 1) 0 < 1000000000 := by
 obtain ⟨n, hnv⟩ : ∃ n, v.length = n + 2 := ⟨v.length - 2, by omega⟩
 have dv := cv.1
 have ev1 := z1t (by omega) dv (n + 1)
 have ev2 := z1t (by omega) dv n
 have et1 := z1t (by omega) du (i + n + 2)
 have et2 := z1t (by omega) du (i + n + 1)
 have et3 := z1t (by omega) du (i + n)
 -- the divisor's leading digits
 have hv1 : 1 <= v.getD (n + 1) 0 := by
  have : v.getD (n + 1) 0 ≠ 0 := fun e => cv.2 (by
   rw [List.getLast?_eq_getElem?, hnv]
   have hi : n + 2 - 1 < v.length := by omega
   rw [zAb, zAh (by omega)] at e
   rw [zAh hi]
   simp at e ⊢
   exact e)
  omega
 have hV : valB 1000000000 v = 1000000000 ^ n * (1000000000 * v.getD (n + 1) 0 + v.getD n 0) + valB 1000000000 (v.take n) := by
  have h1 := z3d 1000000000 v n
  have h2 := z3d 1000000000 v (n + 1)
  rw [List.take_of_length_le (by omega)] at h2
  rw [h2, h1, Int.pow_succ, kd1]
 have hVn : valB 1000000000 v < 1000000000 ^ (n + 2) := by rw [<- hnv]; exact z4q (by omega) v dv
 -- the middle of what is divided
 have hmid := zio u i (n + 3) (by omega)
 have hM : valB 1000000000 ((u.drop i).take (n + 3)) = 1000000000 ^ n * (1000000000 * (u.getD (i + n + 2) 0 * 1000000000 + u.getD (i + n + 1) 0) + u.getD (i + n) 0) + valB 1000000000 ((u.drop i).take n) := by
  have h1 := z3d 1000000000 (u.drop i) n
  have h2 := z3d 1000000000 (u.drop i) (n + 1)
  have h3 := z3d 1000000000 (u.drop i) (n + 2)
  rw [zip] at h1 h2 h3
  rw [h3, h2, h1, Int.pow_succ 1000000000 (n + 1), Int.pow_succ 1000000000 n, <- Nat.add_assoc, <- Nat.add_assoc, kd2]
 have dlo := du.take i
 have lo0 := z0z (B := 1000000000) (by omega) _ dlo
 have lo1 := z4q (B := 1000000000) (by omega) _ dlo
 rw [List.length_take, Nat.min_eq_left (by omega)] at lo1
 have dmi := (du.drop i).take (n + 3)
 have mi0 := z0z (B := 1000000000) (by omega) _ dmi
 have dhi := du.drop (i + (n + 3))
 have hi0 := z0z (B := 1000000000) (by omega) _ dhi
 have p0 : 0 < (1000000000 : Int) ^ i := Int.pow_pos (by omega)
 have pn0 : 0 < (1000000000 : Int) ^ n := Int.pow_pos (by omega)
 have pn3 : 0 < (1000000000 : Int) ^ (n + 3) := Int.pow_pos (by omega)
 have ep1 : (1000000000 : Int) ^ (i + 1) = 1000000000 ^ i * 1000000000 := Int.pow_succ _ _
 have ep3 : (1000000000 : Int) ^ (n + 3) = 1000000000 ^ (n + 2) * 1000000000 := Int.pow_succ _ _
 have dul := (du.drop i).take n
 have ul0 := z0z (B := 1000000000) (by omega) _ dul
 have ul1 := z4q (B := 1000000000) (by omega) _ dul
 rw [List.length_take, List.length_drop, Nat.min_eq_left (by omega)] at ul1
 have dvl := dv.take n
 have vl0 := z0z (B := 1000000000) (by omega) _ dvl
 have vl1 := z4q (B := 1000000000) (by omega) _ dvl
 rw [List.length_take, Nat.min_eq_left (by omega)] at vl1
 have hmin := fun (g : Int) (hg : 0 <= g /\ g < 1000000000) => zmt (K := K) (u := u) (v := v) (k := i) (q := g) hk hl hK hg du dv
 have hplu := fun (u1 : List Int) (h1 : u1.length = u.length) (d1 : DigB 1000000000 u1) => zoi (K := K) (u := u1) (v := v) (k := i) (by omega) (by omega) hK d1 dv
 rw [show i + v.length = i + n + 2 by omega, show i + n + 2 - 1 = i + n + 1 by omega, show v.length - 1 = n + 1 by omega]
 generalize hVV : valB 1000000000 v = V at *
 generalize hMM : valB 1000000000 ((u.drop i).take (n + 3)) = M at *
 generalize hLL : valB 1000000000 (u.take i) = LO at *
 generalize hHH : valB 1000000000 (u.drop (i + (n + 3))) = HI at *
 have hV0 : 0 < V := by
  have := z3g (Int.le_of_lt pn0) (show 1 <= 1000000000 * v.getD (n + 1) 0 + v.getD n 0 by omega)
  omega
 have hHI : HI = 0 := by
  rw [ep3] at hmid
  rw [ep1] at hu
  exact kd3 hu hmid lo0 p0 (Int.pow_pos (by omega)) hVn mi0 hi0
 rw [hHI] at hmid
 have hMV : M < 1000000000 * V := by
  rw [ep1] at hu
  exact kd4 hu hmid lo0 p0
 -- the true digit
 have q0 : 0 <= M / V := Int.ediv_nonneg mi0 (by omega)
 have qB : M / V < 1000000000 := Int.ediv_lt_of_lt_mul hV0 hMV
 have hdm := Int.emod_add_mul_ediv M V
 have r0 := Int.emod_nonneg M (show V ≠ 0 by omega)
 have r1 := Int.emod_lt_of_pos M hV0
 generalize hq : M / V = q at *
 generalize M % V = rr at *
 have hkn : Kn 1000000000 (1000000000 ^ n) (v.getD (n + 1) 0) (v.getD n 0) (valB 1000000000 (v.take n)) (u.getD (i + n + 2) 0 * 1000000000 + u.getD (i + n + 1) 0) (u.getD (i + n) 0) (valB 1000000000 ((u.drop i).take n)) q := by
  refine ⟨by omega, pn0, hv1, ev2.1, ev2.2, vl0, vl1, by omega, et3.1, et3.2, ul0, ul1, q0, qB, ?_, ?_⟩
  ·rw [<- hM, <- hV]; exact kd5 hdm r0
  ·rw [<- hM, <- hV]; exact kd5' hdm r1
 have ht : u.getD (i + n + 2) 0 * 1000000000 + u.getD (i + n + 1) 0 < 1000000000 * v.getD (n + 1) 0 + 1000000000 := kd6 hM hV hMV pn0 ev2.2 et3.1 ul0 vl1
 generalize htop : u.getD (i + n + 2) 0 * 1000000000 + u.getD (i + n + 1) 0 = top at *
 have htd := Int.emod_add_mul_ediv top (v.getD (n + 1) 0)
 have hfirst := hkn.first
 have g2 : top / v.getD (n + 1) 0 < 2000000000 := Int.ediv_lt_of_lt_mul (by omega) (by omega)
 have rt0 := Int.emod_nonneg top (show v.getD (n + 1) 0 ≠ 0 by omega)
 have rt1 := Int.emod_lt_of_pos top (show 0 < v.getD (n + 1) 0 by omega)
 obtain ⟨g, w1, w2, w3, w4⟩ := zmu (K := K) (u := u) (v := v) (k := i) (P := 1000000000 ^ n) (vl := valB 1000000000 (v.take n)) (top := top) (ul := valB 1000000000 ((u.drop i).take n)) (q := q) (g := top / v.getD (n + 1) 0) (r := top % v.getD (n + 1) 0) hn hk hl hK
  (by rw [hnv, show n + 2 - 1 = n + 1 by omega, show n + 2 - 2 = n by omega, show i + (n + 2) - 2 = i + n by omega]; exact hkn) (by rw [hnv, show n + 2 - 1 = n + 1 by omega]; omega) (by rw [hnv, show n + 2 - 1 = n + 1 by omega]; omega) (by rw [hnv, show n + 2 - 1 = n + 1 by omega, Int.mul_comm]; omega) hfirst g2 (by omega)
 obtain ⟨b, u1, m1, m2, m3, m4, m5, m6, m7⟩ := hmin g (by omega)
 have hmid1 := zio u1 i (n + 3) (by omega)
 have dm1 := (m4.drop i).take (n + 3)
 have m10 := z0z (B := 1000000000) (by omega) _ dm1
 have m11 := z4q (B := 1000000000) (by omega) _ dm1
 rw [List.length_take, List.length_drop, Nat.min_eq_left (by omega)] at m11
 rw [show i + (n + 3) = i + (v.length + 1) by omega, m6, show i + (v.length + 1) = i + (n + 3) by omega, hHH, hHI, m5, hLL] at hmid1
 rw [show i + (v.length + 1) = i + (n + 3) by omega, Int.pow_add] at m7
 generalize hM1 : valB 1000000000 ((u1.drop i).take (n + 3)) = M1 at *
 have hM1e : M1 = M - g * V + 1000000000 ^ (n + 3) * b := kd7 p0 hmid1 m7 hmid
 rcases m2 with rfl | rfl
 ·-- no borrow: the guess was right
  have hgq : g = q := kd8 hdm r1 hV0 hM1e m10 w2
  subst hgq
  have hM1f : M1 = M - g * V := by rw [hM1e]; omega
  exact ⟨g, false, u1, u1, g, w1, q0, w4, by simpa using m1, by simp, by simp, q0, qB, m3, m4, kd12 hmid1 hM1f hmid, kd13 p0 hmid1 hM1f hdm r1 lo1, hv1, ev1.2⟩
 ·have hgq : g = q + 1 := kd9 hdm r0 hM1e m11 w2 w3
  subst hgq
  obtain ⟨u2, c, s1, s2, s3, s4, s5, s6, s7⟩ := hplu u1 m3 m4
  have hmid2 := zio u2 i (n + 3) (by omega)
  have dm2 := (s4.drop i).take (n + 3)
  have m20 := z0z (B := 1000000000) (by omega) _ dm2
  have m21 := z4q (B := 1000000000) (by omega) _ dm2
  rw [List.length_take, List.length_drop, Nat.min_eq_left (by omega)] at m21
  rw [show i + (n + 3) = i + (v.length + 1) by omega, s6, m6, show i + (v.length + 1) = i + (n + 3) by omega, hHH, hHI, s5, m5, hLL] at hmid2
  rw [show i + (v.length + 1) = i + (n + 3) by omega, Int.pow_add] at s7
  generalize hM2 : valB 1000000000 ((u2.drop i).take (n + 3)) = M2 at *
  have hM2e : M2 = M - q * V + 1000000000 ^ (n + 3) * (1 - c) := kd10 p0 hmid2 s7 hmid1 hM1e
  have hc : c = 1 := kd11 hdm r0 hM2e m21 s2
  subst hc
  have hM2f : M2 = M - q * V := by rw [hM2e]; omega
  exact ⟨q + 1, true, u1, u2, q, w1, by omega, w4, by simpa using m1, fun _ => ⟨s1, by omega⟩, by simp, q0, qB, by omega, s4, kd12 hmid2 hM2f hmid, kd13 p0 hmid2 hM2f hdm r1 lo1, hv1, ev1.2⟩
end Go.Am.Tryz
/- Plain law: Div and Gcd of the program's numbers. -/
namespace Go.Am.Tryz
open Go Go.Am Go.Proofs
variable {K : Nat}
theorem kf1 {Y p Z V U U2 O q : Int} (h : U + O * V = Z) (h2 : U2 + p * (q * V) = U) : U2 + (O + p * (q - 0)) * V = Z := by grind
theorem zgm {o w v u1 u2 : List Int} {i m : Nat} {g q a1 a2 v1 : Int} {b : Bool} (hn : 2 <= v.length) (hk : i + v.length + 1 <= w.length) (hl : w.length <= 8000000) (ho : i < o.length) (h1 : w.getD (i + v.length) 0 = a1) (h2 : w.getD (i + v.length - 1) 0 = a2) (h3 : v.getD (v.length - 1) 0 = v1)
  (b1 : 0 <= a1 /\ a1 < 1000000000) (b2 : 0 <= a2 /\ a2 < 1000000000) (b3 : 1 <= v1 /\ v1 < 1000000000) (hg : 0 <= g /\ g < 1000000000) (hq : 0 <= q /\ q < 1000000000) (d1 : z22 K v w i K ((a1 * 1000000000 + a2) / v1) ((a1 * 1000000000 + a2) % v1) = some g) (d4 : z3l K w v i g = some (b, u1)) (d5 : b = true -> z48 K u1 v i = some u2 /\ q = g - 1) (d6 : b = false -> u2 = u1 /\ q = g) :
  z1p K v (m + 1) o w i = z1p K v m (o.set i q) u2 ((i : Int) - 1) := by
 have t1 : ((i : Int) + (v.length : Int)).toNat = i + v.length := by omega
 have t2 : ((i : Int) + (v.length : Int) - 1).toNat = i + v.length - 1 := by omega
 have t3 : ((v.length : Int) - 1).toNat = v.length - 1 := by omega
 have hq1 : 0 <= (a1 * 1000000000 + a2) / v1 := Int.ediv_nonneg (by omega) (by omega)
 have hq2 : (a1 * 1000000000 + a2) / v1 <= a1 * 1000000000 + a2 := Int.ediv_le_self _ (by omega)
 rw [z1p]
 cases b with
 | true =>
  obtain ⟨p1, p2⟩ := d5 rfl
  subst p2
  clear d5 d6
  simp (discharger := omega) only [runL, t1, t2, t3, h1, h2, h3, d1, d4, p1]
 | false =>
  obtain ⟨p1, p2⟩ := d6 rfl
  subst p1 p2
  clear d5 d6
  simp (discharger := omega) only [runL, t1, t2, t3, h1, h2, h3, d1, d4, Bool.false_eq_true]
theorem zmv {u v : List Int} {J : Nat} (hn : 2 <= v.length) (hJ : J + v.length = u.length) (hJ1 : 1 <= J) (hl : u.length <= 8000000) (hK : 2000000000 < K) (du : DigB 1000000000 u) (cv : CanB 1000000000 v) (hu : valB 1000000000 u < 1000000000 ^ J * valB 1000000000 v) :
  ∃ r : List Int × List Int, z1p K v K (List.replicate J 0) u ((J : Int) - 1) = some r /\ r.1.length = J /\ r.2.length = u.length /\ DigB 1000000000 r.1 /\ DigB 1000000000 r.2 /\ valB 1000000000 r.2 + valB 1000000000 r.1 * valB 1000000000 v = valB 1000000000 u /\ valB 1000000000 r.2 < valB 1000000000 v := by
 refine z8f (fun m (s : List Int × List Int × Int) => z1p K v m s.1 s.2.1 s.2.2) (fun s => ∃ j : Nat, s.2.2 = (j : Int) - 1 /\ j <= J /\ s.1.length = J /\ s.2.1.length = u.length /\ DigB 1000000000 s.1 /\ DigB 1000000000 s.2.1 /\ (∀ i < j, s.1.getD i 0 = 0) /\ valB 1000000000 s.2.1 + valB 1000000000 s.1 * valB 1000000000 v = valB 1000000000 u /\ valB 1000000000 s.2.1 < 1000000000 ^ j * valB 1000000000 v) (fun s => (s.2.2 + 1).toNat) _ ?_ ((List.replicate J 0, u, (J : Int) - 1) : List Int × List Int × Int) (by dsimp only; omega) ⟨J, rfl, Nat.le_refl _, by simp, rfl, .zeros (by omega) _, du, fun i hi => by simp [zAb, hi], by simp [z9f], hu⟩
 rintro m ⟨o, w, _⟩ ⟨j, rfl, hj, h1, h2, h3, h4, h5, h6, h7⟩
 dsimp only at h1 h2 h3 h4 h5 h6 h7 ⊢
 by_cases h0 : j = 0
 ·subst h0
  left
  rw [Int.pow_zero, Int.one_mul] at h7
  exact ⟨(o, w), by rw [z1p]; simp (discharger := omega) only [runL], h1, h2, h3, h4, h6, h7⟩
 ·right
  obtain ⟨i, rfl⟩ : ∃ i, j = i + 1 := ⟨j - 1, by omega⟩
  have e1 : ((i + 1 : Nat) : Int) - 1 = i := by omega
  rw [e1]
  obtain ⟨g, b, u1, u2, q, d1, d2, d3, d4, d5, d6, d7, d8, d9, d10, d11, d12, d13, d14⟩ := ziq (K := K) (u := w) (v := v) (i := i) hn (by omega) (by omega) hK h4 cv h7
  have hz := h5 i (by omega)
  have hset := z6k 1000000000 o i q (by omega)
  rw [hz] at hset
  have et1 := z1t (by omega) h4 (i + v.length)
  have et2 := z1t (by omega) h4 (i + v.length - 1)
  have hrun := zgm (m := m) (o := o) (a1 := w.getD (i + v.length) 0) (a2 := w.getD (i + v.length - 1) 0) (v1 := v.getD (v.length - 1) 0) hn (show i + v.length + 1 <= w.length by omega) (by omega) (by omega) rfl rfl rfl et1 et2 ⟨d13, d14⟩ ⟨d2, d3⟩ ⟨d7, d8⟩ d1 d4 d5 d6
  refine ⟨(o.set i q, u2, (i : Int) - 1), hrun, by dsimp only; omega, i, rfl, by omega, by simp [h1], by dsimp only; omega, h3.set _ ⟨d7, d8⟩, d10, fun k hk => by dsimp only; rw [z7d (by omega), if_neg (by omega)]; exact h5 k (by omega), ?_, d12⟩
  dsimp only
  rw [hset]
  exact kf1 (Y := 0) h6 d11
theorem z90 {m n : Int} {x y : List Int} (hx : NumN m x) (hy : NumN n y) (h : m <= n) : x.length <= y.length := ze0 (B := 1000000000) (by omega) hx.1 hy.1.1 (by rw [hx.2, hy.2]; exact h)
theorem kf2 {a b c : Int} (hc : 0 < c) (hb : 0 < b) : (a * c) / (b * c) = a / b /\ (a * c) % (b * c) = (a % b) * c := by
 refine ⟨Int.mul_ediv_mul_of_pos_left a b hc, ?_⟩
 rw [Int.mul_comm a c, Int.mul_comm b c, Int.mul_emod_mul_of_pos a b hc, Int.mul_comm]
theorem zft {x y : List Int} {a b : Int} (hx : x.length <= 3000000) (hy : y.length <= 3000000) (hK : 2000000000 < K) (nx : NumN a x) (ny : NumN b y) (hb : 0 < b) :
  ∃ q r, z4g K x y = some (q, r) /\ NumN (a / b) q /\ NumN (a % b) r /\ q.length <= x.length /\ r.length <= y.length := by
 have a0 := nx.nonneg
 suffices h : ∃ q r, z4g K x y = some (q, r) /\ NumN (a / b) q /\ NumN (a % b) r by
  obtain ⟨q, r, h1, h2, h3⟩ := h
  have e1 := Int.emod_lt_of_pos a hb
  exact ⟨q, r, h1, h2, h3, z90 h2 nx (Int.ediv_le_self _ a0), z90 h3 ny (by omega)⟩
 have hcmp := zfp (K := K) (by omega) (by omega) hK nx ny
 unfold z4g
 rw [hcmp, z0d]
 by_cases hab : a < b
 ·refine ⟨[], x, ?_, by rw [Int.ediv_eq_zero_of_lt a0 hab]; exact .nil, by rw [Int.emod_eq_of_lt a0 hab]; exact nx⟩
  simp (discharger := omega) only [runL]
 ·have hcond : decide ((if a < b then (-1 : Int) else if a = b then 0 else 1) < 0) = false := by
   rw [if_neg hab]; split <;> rfl
  rw [hcond]
  simp only [Bool.false_eq_true, if_false]
  have hy0 : y.length ≠ 0 := fun e => by have := ny.len0.1 e; omega
  by_cases h1 : y.length = 1
  ·obtain ⟨d, rfl⟩ := List.length_eq_one_iff.1 h1
   have hd := ny.1.1 d (by simp)
   have hbd : b = d := by rw [<- ny.2]; simp [valB]
   subst hbd
   obtain ⟨q, r, s1, s2, s3, s4, s5⟩ := zfq (K := K) (x := x) (a := a) (d := b) (by omega) hK nx (by omega)
   refine ⟨q, r, ?_, s2, s3⟩
   have e0 : idx [b] 0 = some b := rfl
   rw [if_pos (by simp), e0, z0d, s1, z0d]
  ·rw [if_neg (by simp; omega)]
   obtain ⟨yr, d, hyd⟩ := z9g y (by rintro rfl; exact hy0 rfl)
   have hd := ny.1.1 d (by rw [hyd]; simp)
   have hidx : idx y (z03 .i64 ((y.length : Int) - 1)) = some d := by
    rw [k64 (by omega) (by omega), idxI (by omega) (by omega)]
    congr 1
    subst hyd
    rw [show ((((yr ++ [d]).length : Nat) : Int) - 1).toNat = yr.length by simp, zAb]
    simp
   have hby1 : 1 <= 1000000000 / (d + 1) := by
    rw [Int.le_ediv_iff_mul_le (by omega)]; omega
   have hby2 : 1000000000 / (d + 1) <= 1000000000 := Int.ediv_le_self _ (by omega)
   have hd1 : d ≠ 0 := fun e => ny.1.2 (by rw [hyd, e]; simp)
   have hby3 : 1000000000 / (d + 1) < 1000000000 := Int.ediv_lt_of_lt_mul (by omega) (by omega)
   rw [hidx, z0d, u64w (a := d) (by omega) (by omega), ku64 (a := d + 1) (by omega) (by omega), if_pos (by omega), zqu (by omega), ku64 (by omega) (by omega), lta]
   rw [u32w (by omega) (by omega)]
   generalize 1000000000 / (d + 1) = c at hby1 hby2 hby3
   have nc : NumN c [c] := .one (by omega) hby3
   obtain ⟨u0, m1, m2, m3⟩ := z9h (K := K) (x := x) (y := [c]) (by simp; omega) hK nx nc
   obtain ⟨v, w1, w2, w3⟩ := z9h (K := K) (x := y) (y := [c]) (by simp; omega) hK ny nc
   simp only [List.length_singleton] at m3 w3
   have ac : a <= a * c := by have := z3g a0 hby1; omega
   have bc : b <= b * c := by have := z3g (show 0 <= b by omega) hby1; omega
   have abc : b * c <= a * c := Int.mul_le_mul_of_nonneg_right (by omega) (by omega)
   have lx := z90 nx m2 ac
   have ly := z90 ny w2 bc
   have hy2 : 2 <= y.length := by omega
   have hv2 : 2 <= v.length := by omega
   have lv := z90 w2 m2 abc
   have hl0 : z3r K x K (u0 ++ [0]) = some (u0 ++ [0]) := by
    obtain ⟨k, rfl⟩ : ∃ k, K = k + 1 := ⟨K - 1, by omega⟩
    rw [z3r]
    have e : decide (((u0 ++ [0]).length : Int) <= (x.length : Int)) = false := decide_eq_false (by simp; omega)
    rw [e]; rfl
   have du : DigB 1000000000 (u0 ++ [0]) := m2.1.1.snoc (by omega)
   have hvu : valB 1000000000 (u0 ++ [0]) = a * c := by rw [z8g, m2.2]; omega
   have hlen : (u0 ++ [(0 : Int)]).length = u0.length + 1 := by simp
   obtain ⟨J, hJ⟩ : ∃ J, J + v.length = u0.length + 1 := ⟨u0.length + 1 - v.length, by omega⟩
   have hbound : a * c < 1000000000 ^ J * (b * c) := by
    have b1 := z4q (B := 1000000000) (by omega) u0 m2.1.1
    have b2 := zie (B := 1000000000) (by omega) w2.1 (by intro e; rw [e] at hv2; simp at hv2)
    rw [m2.2] at b1
    rw [w2.2] at b2
    have pJ : (0 : Int) < 1000000000 ^ J := Int.pow_pos (by omega)
    have b3 := z3g (Int.le_of_lt pJ) b2
    rw [<- Int.pow_add, show J + (v.length - 1) = u0.length by omega] at b3
    omega
   obtain ⟨⟨o, w⟩, l1, l2, l3, l4, l5, l6, l7⟩ := zmv (K := K) (u := u0 ++ [0]) (v := v) (J := J) (by omega) (by omega) (by omega) (by omega) hK du w2.1 (by rw [hvu, w2.2]; exact hbound)
   dsimp only at l2 l3 l4 l5 l6 l7
   rw [hvu, w2.2] at l6
   rw [w2.2] at l7
   have o0 := z0z (B := 1000000000) (by omega) o l4
   have w0 := z0z (B := 1000000000) (by omega) w l5
   have hbc0 : 0 < b * c := Int.mul_pos hb (by omega)
   obtain ⟨q1, q2⟩ := zbl (n := a * c) (d := b * c) (q := valB 1000000000 o) (r := valB 1000000000 w) hbc0 (by rw [Int.mul_comm (b * c)]; omega) w0 l7
   obtain ⟨k1, k2⟩ := kf2 (a := a) (b := b) (c := c) (by omega) hb
   rw [k1] at q1
   rw [k2] at q2
   obtain ⟨t, t1, t2, t3, t4⟩ := zbk (K := K) (B := 1000000000) (l := w) (by omega) hK l5
   obtain ⟨z, z1, z2, z3, z4⟩ := zbk (K := K) (B := 1000000000) (l := o) (by omega) hK l4
   obtain ⟨rq, rr, s1, s2, s3, s4, s5⟩ := zfq (K := K) (x := t) (a := a % b * c) (d := c) (by omega) hK ⟨t2, by rw [t3]; exact q2⟩ (by omega)
   rw [Int.mul_ediv_cancel _ (by omega)] at s2
   refine ⟨z, rq, ?_, ⟨z2, by rw [z3]; exact q1⟩, s2⟩
   rw [m1, z0d, if_pos (by simp; omega), w1, z0d, hl0, z0d, tu1a, lta, hlen]
   have e1 : (((u0.length + 1 : Nat) : Int) - (v.length : Int)) = (J : Int) := by omega
   rw [e1, k64 (by omega) (by omega), if_pos (by omega), lta, k64 (by omega) (by omega), Int.toNat_natCast, l1, z0d, tu2a, t1, z0d, s1, z0d, z1, z0d]
theorem zir (a b : Nat) (hb : 0 < b) : Nat.gcd b (a % b) = Nat.gcd a b := by
 rw [Nat.gcd_comm a b, Nat.gcd_rec b a, Nat.gcd_comm]
theorem zfu : ∀ (n k : Nat) {x y : List Int} {a b : Nat}, a * b < 2 ^ n -> b <= a -> n + 2 < k -> x.length <= 3000000 -> y.length <= 3000000 -> 2000000000 < K -> NumN a x -> NumN b y -> ∃ z, z12 K k x y = some z /\ NumN (Nat.gcd a b : Nat) z := by
 intro n
 induction n with
 | zero =>
  intro k x y a b hab hba hk hx hy hK nx ny
  have hb : b = 0 := by
   rcases Nat.eq_zero_or_pos b with h | h
   ·exact h
   ·have := Nat.mul_pos (show 0 < a by omega) h; omega
  subst hb
  obtain ⟨k, rfl⟩ : ∃ m, k = m + 1 := ⟨k - 1, by omega⟩
  have : y = [] := ny.nil_iff.2 rfl
  subst this
  exact ⟨x, by rw [z12]; rfl, by rw [Nat.gcd_zero_right]; exact nx⟩
 | succ n ih =>
  intro k x y a b hab hba hk hx hy hK nx ny
  obtain ⟨k, rfl⟩ : ∃ m, k = m + 1 := ⟨k - 1, by omega⟩
  by_cases hb : b = 0
  ·subst hb
   have : y = [] := ny.nil_iff.2 rfl
   subst this
   exact ⟨x, by rw [z12]; rfl, by rw [Nat.gcd_zero_right]; exact nx⟩
  ·obtain ⟨q, r, d1, d2, d3, d4, d5⟩ := zft (K := K) hx hy hK nx ny (by omega)
   have e : ((a : Int) % (b : Int)) = ((a % b : Nat) : Int) := by simp
   rw [e] at d3
   have hr := Nat.mod_lt a (show 0 < b by omega)
   have hprod : b * (a % b) < 2 ^ n := by
    have h1 : b + a % b <= a := by
     have h2 := Nat.div_add_mod a b
     have h3 : 1 <= a / b := (Nat.le_div_iff_mul_le (by omega)).2 (by omega)
     have h4 := Nat.mul_le_mul_left b h3
     omega
    have h5 := Nat.mul_le_mul_left b (show 2 * (a % b) <= a by omega)
    rw [Nat.pow_succ] at hab
    have h6 : b * (2 * (a % b)) = 2 * (b * (a % b)) := by grind
    rw [Nat.mul_comm a b] at hab
    omega
   obtain ⟨z, z1, z2⟩ := ih k hprod (by omega) (by omega) hy (by omega) hK ny d3
   refine ⟨z, ?_, by rw [<- zir a b (by omega)]; exact z2⟩
   have hy0 : y.length ≠ 0 := fun e => by have := ny.len0.1 e; omega
   rw [z12, if_pos (decide_eq_true (by omega)), d1, z0d, z1]
theorem ze2 {n : Nat} {x : List Int} (h : NumN n x) : n < 2 ^ (30 * x.length) := by
 have h1 := z4q (B := 1000000000) (by omega) x h.1.1
 rw [h.2] at h1
 have h2 : ((1000000000 : Nat) : Int) ^ x.length = ((1000000000 ^ x.length : Nat) : Int) := by simp
 have h3 : n < 1000000000 ^ x.length := by
  have h4 : (1000000000 : Int) = ((1000000000 : Nat) : Int) := rfl
  rw [h4, h2] at h1
  omega
 have h5 : (1000000000 : Nat) ^ x.length <= (2 ^ 30) ^ x.length := Nat.pow_le_pow_left (by decide) _
 rw [<- Nat.pow_mul] at h5
 omega
theorem zlr {x y : List Int} {a b : Nat} (hx : x.length <= 3000000) (hy : y.length <= 3000000) (hK : 2000000000 < K) (nx : NumN a x) (ny : NumN b y) : ∃ z, z5t K x y = some z /\ NumN (Nat.gcd a b : Nat) z := by
 have hp : a * b < 2 ^ (30 * x.length + 30 * y.length) := by
  rw [Nat.pow_add]
  have h1 := ze2 nx
  have h2 := ze2 ny
  exact Nat.mul_lt_mul_of_lt_of_le h1 (Nat.le_of_lt h2) (Nat.pow_pos (by omega))
 have key : ∃ z, z12 K K x y = some z /\ NumN (Nat.gcd a b : Nat) z := by
  by_cases hba : b <= a
  ·exact zfu _ K hp hba (by omega) hx hy hK nx ny
  ·obtain ⟨k, hk⟩ : ∃ k, K = k + 1 := ⟨K - 1, by omega⟩
   obtain ⟨q, r, d1, d2, d3, d4, d5⟩ := zft (K := K) hx hy hK nx ny (by omega)
   rw [Int.emod_eq_of_lt (by omega) (by omega)] at d3
   have hrx : r = x := d3.inj nx
   subst hrx
   obtain ⟨z, z1, z2⟩ := zfu (K := K) _ k (by rw [Nat.mul_comm]; exact hp) (by omega) (by omega) hy hx hK ny nx
   refine ⟨z, ?_, by rw [Nat.gcd_comm]; exact z2⟩
   have hy0 : y.length ≠ 0 := fun e => by have := ny.len0.1 e; omega
   have : z12 K K r y = z12 K (k + 1) r y := by rw [<- hk]
   rw [this, z12, if_pos (decide_eq_true (by omega)), d1, z0d, z1]
 obtain ⟨z, z1, z2⟩ := key
 exact ⟨z, by unfold z5t; rw [z1]; rfl, z2⟩
end Go.Am.Tryz
/- Plain law: the reference's quotient and divisor of texts. -/
namespace Go.Am.Tryz
open Go Go.Am Go.Proofs
variable {K : Nat}
theorem zis {c : Int} (h : 48 <= c /\ c <= 57) : z05 (Utf8.encode c) = [c] /\ (Utf8.encode c).size = 1 := by
 obtain ⟨n, rfl⟩ : ∃ n : Nat, c = n := ⟨c.toNat, by omega⟩
 have hn : n = 48 \/ n = 49 \/ n = 50 \/ n = 51 \/ n = 52 \/ n = 53 \/ n = 54 \/ n = 55 \/ n = 56 \/ n = 57 := by omega
 rcases hn with rfl | rfl | rfl | rfl | rfl | rfl | rfl | rfl | rfl | rfl <;> exact ⟨by decide +kernel, by decide +kernel⟩
theorem ks1 {R b d R0 : Int} (h : R + (d - 48) * b = R0) : R - b + (d + 1 - 48) * b = R0 := by grind
theorem zoj {b : zAd} {r0 : zAd} (hb : b.size <= 500000) (hr : r0.size <= 1000000) (hK : 2000000000 < K) (cb : CanT b) (c0 : CanT r0) (hb0 : 0 < numT b) (hlt : numT r0 < 10 * numT b) :
  ∃ r : zAd × Int, z31 K b K r0 48 = some r /\ CanT r.1 /\ (48 <= r.2 /\ r.2 <= 57) /\ numT r.1 + (r.2 - 48) * numT b = numT r0 /\ numT r.1 < numT b := by
 refine z8f (fun k (s : zAd × Int) => z31 K b k s.1 s.2) (fun s => CanT s.1 /\ s.1.size <= 1000000 /\ (48 <= s.2 /\ s.2 <= 57) /\ numT s.1 + (s.2 - 48) * numT b = numT r0) (fun s => (57 - s.2).toNat) _ ?_ ((r0, 48) : zAd × Int) (by dsimp only; omega) ⟨c0, hr, by dsimp only; omega, by dsimp only; omega⟩
 rintro k ⟨r, d⟩ ⟨h1, h2, h3, h4⟩
 dsimp only at h1 h2 h3 h4 ⊢
 have hcmp := zlp (K := K) h1 cb
 have r0' := z3e h1.2.1
 by_cases hge : numT b <= numT r
 ·right
  obtain ⟨t, t1, t2, t3⟩ := zim (K := K) (a := r) (b := b) h2 (z3u h1 cb hge) (by have := h1.1; omega) (by omega) h1.2.1 cb.2.1 hge
  have hd : d <= 56 := by
   refine Int.not_lt.1 fun hlt2 => ?_
   have : d = 57 := by omega
   subst this
   omega
  refine ⟨(t, d + 1), ?_, by dsimp only; omega, t2, ?_, by dsimp only; omega, by dsimp only; rw [t3]; exact ks1 h4⟩
  ·rw [z31, hcmp, z0d]
   rw [if_pos (decide_eq_true (by rw [if_neg (by omega)]; split <;> omega)), t1, z0d, ku8 (by omega) (by omega)]
  ·dsimp only
   have := z3u h1 t2 (by rw [t3]; omega)
   omega
 ·left
  refine ⟨(r, d), ?_, h1, h3, h4, by dsimp only; omega⟩
  rw [z31, hcmp, z0d]
  have e : decide ((if numT r < numT b then (-1 : Int) else if numT r = numT b then 0 else 1) >= 0) = false := by
   rw [if_pos (by omega)]; rfl
  rw [e]; rfl
theorem ks3 {Q b R R2 A c d : Int} (h : Q * b + R = A) (h2 : R2 + d * b = R * 10 + c) : (Q * 10 + d) * b + R2 = A * 10 + c := by grind
theorem zkw {a b r0 : zAd} {f : Nat} (ha : a.size <= 500000) (hb : b.size <= 500000) (hK : 2000000000 < K) (da : (z05 a).all digT = true) (cb : CanT b) (hb0 : 0 < numT b) (hf : f <= a.size) (c0 : CanT r0) (hs0 : r0.size <= 500000) (h0 : numT r0 = numB ((z05 a).take f)) (hlt : numT r0 < numT b) :
  ∃ r : zAd × zAd, z32 K a b K ⟨#[48]⟩ r0 f = some r /\ r.1.size <= a.size + 1 /\ 0 < r.1.size /\ (z05 r.1).all digT = true /\ CanT r.2 /\ numT r.1 * numT b + numT r.2 = numT a /\ numT r.2 < numT b := by
 have hn := z01 a
 refine z8f (fun k (s : zAd × zAd × Int) => z32 K a b k s.1 s.2.1 s.2.2) (fun s => ∃ i : Nat, s.2.2 = i /\ i <= a.size /\ 0 < s.1.size /\ s.1.size <= i + 1 /\ (z05 s.1).all digT = true /\ CanT s.2.1 /\ numT s.1 * numT b + numT s.2.1 = numB ((z05 a).take i) /\ numT s.2.1 < numT b /\ s.2.1.size <= 500000) (fun s => (a.size - s.2.2 : Int).toNat) _ ?_ ((⟨#[48]⟩, r0, (f : Int)) : zAd × zAd × Int) (by dsimp only; omega) ⟨f, rfl, hf, by show 0 < 1; omega, by show 1 <= f + 1; omega, rfl, c0, by rw [<- h0]; show numT ⟨#[48]⟩ * numT b + numT r0 = numT r0; rw [z5p]; omega, hlt, hs0⟩
 rintro k ⟨q, r, _⟩ ⟨i, rfl, h1, h2, h3, h4, h5, h6, h7, h8⟩
 dsimp only at h2 h3 h4 h5 h6 h7 h8 ⊢
 by_cases hi : i < a.size
 ·right
  have hc := zfs da (i := i) (by omega)
  have hsn := zfr (l := z05 a) (i := i) (by omega)
  generalize hcc : (z05 a).getD i 0 = c at hc hsn
  obtain ⟨e, he1, he2, he3⟩ : ∃ e, ssl a i ((i : Int) + 1) = some e /\ z05 e = [c] /\ e.size = 1 := by
   refine ⟨_, sslI (by omega) (by omega) (by omega), ?_, ?_⟩
   ·rw [z2t, Int.toNat_natCast, show ((i : Int) + 1).toNat - i = 1 by omega, List.drop_eq_getElem_cons (by omega), List.take_succ_cons, List.take_zero]
    rw [zAb, zAh (by omega)] at hcc
    simpa using hcc
   ·rw [<- z01, z2t, List.length_take, List.length_drop]; omega
  have hbr : z05 (r ++ e) = z05 r ++ [c] := by rw [z0r, he2]
  have hdr : (z05 (r ++ e)).all digT = true := by rw [hbr, List.all_append, h5.2.1]; simpa using digT_iff.2 hc
  have hsr : (r ++ e).size = r.size + 1 := by rw [<- z01, hbr, List.length_append, z01]; rfl
  obtain ⟨t, t1, t2, t3⟩ := zas (K := K) (s := r ++ e) (by omega) (by omega) (by omega) hdr
  have hnr : numT (r ++ e) = numT r * 10 + (c - 48) := by rw [zd9, hbr, zaq]; rfl
  have htl : numT t < 10 * numT b := by rw [t3, hnr]; omega
  have hts : t.size <= 1000000 := by
   have := z3u (b := t) (a := t) t2 t2 (Int.le_refl _)
   refine Nat.not_lt.1 fun hlt2 => ?_
   have g1 := zc9 t2 (by omega)
   have g2 := zbn hdr
   have g3 : (10 : Int) ^ (r ++ e).size <= 10 ^ (t.size - 1) := z7j (by omega) (by omega)
   omega
  obtain ⟨⟨r2, d⟩, s1, s2, s3, s4, s5⟩ := zoj (K := K) (b := b) (r0 := t) hb hts hK cb t2 hb0 htl
  dsimp only at s2 s3 s4 s5
  obtain ⟨n1, n2⟩ := zis s3
  have hbq : z05 (q ++ Utf8.encode d) = z05 q ++ [d] := by rw [z0r, n1]
  have hsq : (q ++ Utf8.encode d).size = q.size + 1 := by rw [<- z01, hbq, List.length_append, z01]; rfl
  have hr2s : r2.size <= 500000 := by
   have := z3u cb s2 (by omega)
   omega
  refine ⟨(q ++ Utf8.encode d, r2, (i : Int) + 1), ?_, by dsimp only; omega, i + 1, rfl, by omega, by dsimp only; omega, by dsimp only; omega, ?_, s2, ?_, s5, hr2s⟩
  ·rw [z32, if_pos (decide_eq_true (by omega)), k64 (by omega) (by omega), he1, z0d, if_pos (by omega), t1, z0d, s1, z0d, tu2a, if_pos (by dsimp only; omega)]
  ·dsimp only; rw [hbq, List.all_append, h4]; simpa using digT_iff.2 s3
  ·dsimp only
   rw [hsn, zaq, zd9 (q ++ Utf8.encode d), hbq, zaq]
   refine ks3 h6 ?_
   rw [s4, t3, hnr]
 ·left
  have : i = a.size := by omega
  subst this
  rw [List.take_of_length_le (by omega)] at h6
  exact ⟨(q, r), by rw [z32]; simp (discharger := omega) only [runL], h3, h2, h4, h5, h6, h7⟩
theorem zfv {a b : zAd} (ha : a.size <= 400000) (hb : b.size <= 400000) (hK : 2000000000 < K) (ca : CanT a) (cb : CanT b) (hb0 : 0 < numT b) :
  ∃ q r, z64 K a b = some (q, r) /\ CanT q /\ CanT r /\ numT q = numT a / numT b /\ numT r = numT a % numT b := by
 have hn := z01 a
 have hcb := cb.1
 obtain ⟨f, hf1, hf2, hf3⟩ : ∃ f : Nat, imin (a.size : Int) (z03 .i64 ((b.size : Int) - 1)) = f /\ f <= a.size /\ f <= b.size - 1 := by
  rw [k64 (by omega) (by omega)]
  unfold imin
  by_cases h : (b.size : Int) - 1 < a.size
  ·exact ⟨b.size - 1, by rw [if_pos h]; omega, by omega, by omega⟩
  ·exact ⟨a.size, by rw [if_neg h], by omega, by omega⟩
 have hx : ssl a 0 (f : Int) = some (a.extract 0 f) := by rw [sslI (by omega) (by omega) (by omega)]; rfl
 have hxb : z05 (a.extract 0 f) = (z05 a).take f := by rw [z2t]; simp
 have hxs : (a.extract 0 f).size = f := by rw [<- z01, hxb, List.length_take]; omega
 have hzb : z05 ((⟨#[48]⟩ : zAd) ++ a.extract 0 f) = 48 :: (z05 a).take f := by rw [z0r, hxb]; rfl
 have hzs : ((⟨#[48]⟩ : zAd) ++ a.extract 0 f).size = f + 1 := by rw [<- z01, hzb, List.length_cons, List.length_take]; omega
 have hzd : (z05 ((⟨#[48]⟩ : zAd) ++ a.extract 0 f)).all digT = true := by rw [hzb, List.all_cons, zbm ca.2.1]; rfl
 obtain ⟨t, t1, t2, t3⟩ := zas (K := K) (s := (⟨#[48]⟩ : zAd) ++ a.extract 0 f) (by omega) (by omega) (by omega) hzd
 have hv : numT t = numB ((z05 a).take f) := by rw [t3, zd9, hzb, zar]; simp
 have hlt : numT t < numT b := by
  have d1 := zc8 (zbm ca.2.1 f)
  rw [List.length_take, Nat.min_eq_left (by omega)] at d1
  rw [hv]
  by_cases h2 : 2 <= b.size
  ·have d2 := zc9 cb h2
   have d3 : (10 : Int) ^ f <= 10 ^ (b.size - 1) := z7j (by omega) hf3
   omega
  ·have : f = 0 := by omega
   subst this
   rw [List.take_zero, z8y]; exact hb0
 have hts : t.size <= 500000 := by
  have := z3u cb t2 (by omega)
  omega
 obtain ⟨⟨q, r⟩, s1, s2, s3, s4, s5, s6, s7⟩ := zkw (K := K) (a := a) (b := b) (r0 := t) (f := f) (by omega) (by omega) hK ca.2.1 cb hb0 hf2 t2 hts hv hlt
 dsimp only at s2 s3 s4 s5 s6 s7
 obtain ⟨u, u1, u2, u3⟩ := zas (K := K) (s := q) (by omega) s3 (by omega) s4
 obtain ⟨e1, e2⟩ := zbl (n := numT a) (d := numT b) (q := numT q) (r := numT r) hb0 (by rw [Int.mul_comm]; omega) (z3e s5.2.1) s7
 refine ⟨u, r, ?_, u2, s5, by rw [u3, e1], e2⟩
 unfold z64
 rw [hf1, hx, z0d, if_pos (by rw [hxs]; show 1 + f <= _; omega), t1, z0d, s1, z0d, tu2a, u1, z0d]
theorem zfw : ∀ (n k : Nat) {x y : zAd} {a b : Nat}, a * b < 2 ^ n -> b <= a -> n + 2 < k -> x.size <= 400000 -> y.size <= 400000 -> 2000000000 < K -> CanT x -> CanT y -> numT x = a -> numT y = b -> ∃ z, z1h K k x y = some z /\ CanT z /\ numT z = (Nat.gcd a b : Nat) := by
 intro n
 have hend : ∀ (k : Nat) {x y : zAd} {a : Nat}, 0 < k -> CanT x -> CanT y -> numT x = a -> numT y = (0 : Nat) -> ∃ z, z1h K k x y = some z /\ CanT z /\ numT z = (Nat.gcd a 0 : Nat) := by
  intro k x y a hk cx cy nx ny
  obtain ⟨k, rfl⟩ : ∃ m, k = m + 1 := ⟨k - 1, by omega⟩
  have : y = ⟨#[48]⟩ := (zdb cy).1 (by simpa using ny)
  subst this
  have e : sEq (⟨#[48]⟩ : zAd) ⟨#[48]⟩ = true := sEq_iff.2 rfl
  exact ⟨x, by rw [z1h, e]; rfl, cx, by rw [Nat.gcd_zero_right]; exact nx⟩
 induction n with
 | zero =>
  intro k x y a b hab hba hk hx hy hK cx cy nx ny
  have hb : b = 0 := by
   rcases Nat.eq_zero_or_pos b with h | h
   ·exact h
   ·have := Nat.mul_pos (show 0 < a by omega) h; omega
  subst hb
  exact hend k (by omega) cx cy nx ny
 | succ n ih =>
  intro k x y a b hab hba hk hx hy hK cx cy nx ny
  by_cases hb : b = 0
  ·subst hb; exact hend k (by omega) cx cy nx ny
  ·obtain ⟨k, rfl⟩ : ∃ m, k = m + 1 := ⟨k - 1, by omega⟩
   obtain ⟨q, r, d1, d2, d3, d4, d5⟩ := zfv (K := K) hx hy hK cx cy (by omega)
   rw [nx, ny] at d5
   have e : ((a : Int) % (b : Int)) = ((a % b : Nat) : Int) := by simp
   rw [e] at d5
   have hr := Nat.mod_lt a (show 0 < b by omega)
   have hprod : b * (a % b) < 2 ^ n := by
    have h1 : b + a % b <= a := by
     have h2 := Nat.div_add_mod a b
     have h3 : 1 <= a / b := (Nat.le_div_iff_mul_le (by omega)).2 (by omega)
     have h4 := Nat.mul_le_mul_left b h3
     omega
    have h5 := Nat.mul_le_mul_left b (show 2 * (a % b) <= a by omega)
    rw [Nat.pow_succ] at hab
    have h6 : b * (2 * (a % b)) = 2 * (b * (a % b)) := by grind
    rw [Nat.mul_comm a b] at hab
    omega
   have hrs := z3u cy d3 (by rw [ny, d5]; omega)
   obtain ⟨z, z1, z2, z3⟩ := ih k hprod (by omega) (by omega) hy (by omega) hK cy d3 ny d5
   refine ⟨z, ?_, z2, by rw [<- zir a b (by omega)]; exact z3⟩
   have e0 : sEq y ⟨#[48]⟩ = false := by
    cases e : sEq y ⟨#[48]⟩ with
    | false => rfl
    | true => rw [sEq_iff] at e; subst e; rw [z5p] at ny; omega
   rw [z1h, e0]
   simp only [Bool.not_false, if_true]
   rw [d1, z0d, z1]
theorem zca {n : Nat} {x : zAd} (h : (z05 x).all digT = true) (hn : numT x = n) : n < 2 ^ (4 * x.size) := by
 have h1 := zbn h
 rw [hn] at h1
 have h2 : ((10 : Nat) : Int) ^ x.size = ((10 ^ x.size : Nat) : Int) := by simp
 have h3 : n < 10 ^ x.size := by
  have h4 : (10 : Int) = ((10 : Nat) : Int) := rfl
  rw [h4, h2] at h1
  omega
 have h5 : (10 : Nat) ^ x.size <= (2 ^ 4) ^ x.size := Nat.pow_le_pow_left (by decide) _
 rw [<- Nat.pow_mul] at h5
 omega
theorem zls {x y : zAd} {a b : Nat} (hx : x.size <= 400000) (hy : y.size <= 400000) (hK : 2000000000 < K) (cx : CanT x) (cy : CanT y) (nx : numT x = a) (ny : numT y = b) : ∃ z, z72 K x y = some z /\ CanT z /\ numT z = (Nat.gcd a b : Nat) := by
 have hp : a * b < 2 ^ (4 * x.size + 4 * y.size) := by
  rw [Nat.pow_add]
  exact Nat.mul_lt_mul_of_lt_of_le (zca cx.2.1 nx) (Nat.le_of_lt (zca cy.2.1 ny)) (Nat.pow_pos (by omega))
 have key : ∃ z, z1h K K x y = some z /\ CanT z /\ numT z = (Nat.gcd a b : Nat) := by
  by_cases hba : b <= a
  ·exact zfw _ K hp hba (by omega) hx hy hK cx cy nx ny
  ·obtain ⟨k, hk⟩ : ∃ k, K = k + 1 := ⟨K - 1, by omega⟩
   obtain ⟨q, r, d1, d2, d3, d4, d5⟩ := zfv (K := K) hx hy hK cx cy (by omega)
   rw [Int.emod_eq_of_lt (z3e cx.2.1) (by omega)] at d5
   have hrx : r = x := z8x d3 cx d5
   subst hrx
   obtain ⟨z, z1, z2, z3⟩ := zfw (K := K) _ k (by rw [Nat.mul_comm]; exact hp) (by omega) (by omega) hy hx hK cy cx ny nx
   refine ⟨z, ?_, z2, by rw [Nat.gcd_comm]; exact z3⟩
   have e0 : sEq y ⟨#[48]⟩ = false := by
    cases e : sEq y ⟨#[48]⟩ with
    | false => rfl
    | true => rw [sEq_iff] at e; subst e; rw [z5p] at ny; omega
   have : z1h K K r y = z1h K (k + 1) r y := by rw [<- hk]
   rw [this, z1h, e0]
   simp only [Bool.not_false, if_true]
   rw [d1, z0d, z1]
 obtain ⟨z, z1, z2⟩ := key
 exact ⟨z, by unfold z72; rw [z1]; rfl, z2⟩
end Go.Am.Tryz
/- Plain law: a number's error. -/
namespace Go.Am.Tryz
open Go Go.Am Go.Proofs
variable {K : Nat} {s : zAd}
def digB (c : Int) : Bool := decide (48 <= c) && decide (c <= 57)
theorem zeu : ∀ (l : List Int), runS (fun c (_ : Unit) => if digB c then .inr () else .inl (5 : Int)) l () = if l.all digB then .inr () else .inl 5
 | [] => rfl
 | x :: l => by
  simp only [runS, List.all_cons]
  by_cases hp : digB x = true
  ·simp only [hp, if_true, Bool.true_and, Sum.elim_inr]; exact zeu l
  ·simp [hp]
theorem zok {α : Type} (c : Int) (A B : Option α) : Option.bind (if (decide (c < 48)) = true then some true else some (decide (c > 57))) (tu1 fun x => if x = true then A else B) = if digB c = true then B else A := by
 unfold digB
 by_cases h1 : c < 48 <;> by_cases h2 : c > 57 <;> simp [h1, h2, tu1, show ¬ (48 : Int) <= c ↔ c < 48 by omega] <;> (try split) <;> (try omega) <;> rfl
theorem zgn (hs : s.size <= 1048576) (hK : s.size < K) : z19 K s K 0 = some (if (z05 s).all digB then .inr () else .inl 5) := by
 have hn := z01 s
 have h : z19 K s K 0 = _ := zfl (z05 s) (fun k (_ : Unit) i => z19 K s k i) (fun c (_ : Unit) => if digB c then .inr () else .inl (5 : Int)) (fun _ _ => True)
  (fun k _ i x hx _ => by
   have hi := (zAi hx).1
   show z19 K s (k + 1) i = _
   rw [z19, zkf hi, if_pos rfl, z3v hx]
   simp only [Option.bind_some, zok, kw1 hi (by omega)]
   cases digB x <;> simp)
  (fun _ _ _ _ _ _ _ => trivial)
  (fun k _ i hi => by
   show z19 K s (k + 1) i = _
   rw [z19, zfk hi]; simp) K () (by omega) trivial
 rw [h, zeu]
theorem zit (hs : s.size <= 1048576) (hK : s.size < K) : z11 K s K 0 = some (if (z05 s).all digB then .inr () else .inl 5) := by
 have hn := z01 s
 have h : z11 K s K 0 = _ := zfl (z05 s) (fun k (_ : Unit) i => z11 K s k i) (fun c (_ : Unit) => if digB c then .inr () else .inl (5 : Int)) (fun _ _ => True)
  (fun k _ i x hx _ => by
   have hi := (zAi hx).1
   show z11 K s (k + 1) i = _
   rw [z11, <- hn, zkf hi, if_pos rfl, z9a, z3v hx]
   simp only [Option.bind_some, zok, kw1 hi (by omega)]
   cases digB x <;> simp)
  (fun _ _ _ _ _ _ _ => trivial)
  (fun k _ i hi => by
   show z11 K s (k + 1) i = _
   rw [z11, <- hn, zfk hi]; simp) K () (by omega) trivial
 rw [h, zeu]
def natE (s : zAd) : Int := if s.size = 0 then 5 else if (z05 s).head? = some 48 /\ s.size > 1 then 5 else if !(z05 s).all digB then 5 else if s.size > 2000 then 2 else 0
theorem zol : sEq s ⟨#[]⟩ = (s.size == 0) := by
 cases hq : sEq s ⟨#[]⟩ with
 | true => rw [sEq_iff] at hq; subst hq; rfl
 | false =>
  have : s.size ≠ 0 := fun h => by
   have : s = ⟨#[]⟩ := by
    cases s with
    | mk d => congr 1; exact Array.eq_empty_of_size_eq_zero h
   rw [sEq_iff.2 this] at hq; cases hq
  simp [this]
theorem ziu (h : s.size ≠ 0) : ∃ c, bidx s 0 = some c /\ (z05 s).head? = some c := by
 have hn := z01 s
 cases hb : z05 s with
 | nil => rw [hb] at hn; simp at hn; omega
 | cons c l => exact ⟨c, by rw [z9a, hb]; rfl, rfl⟩
theorem ze4 (hs : s.size <= 1048576) (hK : s.size < K) : z5s K s = some (natE s) := by
 unfold z5s natE
 rw [zgn hs hK, zol]
 by_cases h0 : s.size = 0
 ·simp [h0, tu1]
 ·obtain ⟨c, h1, h2⟩ := ziu h0
  rw [h1, h2]
  have h0' : (s.size == 0) = false := by simpa using h0
  by_cases hc : c = 48 <;> by_cases h3 : s.size > 1 <;> by_cases h4 : s.size > 2000 <;> cases h5 : (z05 s).all digB <;>
   simp [h0, h0', hc, h3, h4, h5, tu1, tu0, zb5, show ((s.size : Int) > 1) ↔ s.size > 1 by omega, show ((s.size : Int) > 2000) ↔ s.size > 2000 by omega] <;> omega
theorem zat (hs : s.size <= 1048576) (hK : s.size < K) : z4x K s = some (natE s) := by
 unfold z4x natE
 rw [zit hs hK]
 by_cases h0 : s.size = 0
 ·simp [h0, tu1]
 ·obtain ⟨c, h1, h2⟩ := ziu h0
  rw [h1, h2]
  have h0' : ((s.size : Int) == 0) = false := by rw [beq_eq_false_iff_ne]; omega
  by_cases hc : c = 48 <;> by_cases h3 : s.size > 1 <;> by_cases h4 : s.size > 2000 <;> cases h5 : (z05 s).all digB <;>
   simp [h0, h0', hc, h3, h4, h5, tu1, tu0, zb5, show ((s.size : Int) > 1) ↔ s.size > 1 by omega, show ((s.size : Int) > 2000) ↔ s.size > 2000 by omega] <;> omega
theorem zom : digB = digT := rfl
theorem zaa (s : zAd) : natE s = 0 ↔ CanT s /\ s.size <= 2000 := by
 unfold natE CanT
 rw [zom]
 by_cases h0 : s.size = 0
 ·simp [h0]
 ·by_cases h1 : (z05 s).head? = some 48 /\ s.size > 1
  ·rw [if_neg h0, if_pos h1]
   constructor
   ·intro h; cases h
   ·rintro ⟨⟨_, _, h⟩, _⟩; have := h h1.1; omega
  ·rw [if_neg h0, if_neg h1]
   cases h2 : (z05 s).all digT with
   | false => simp
   | true =>
    simp only [Bool.not_true, Bool.false_eq_true, if_false]
    by_cases h3 : s.size > 2000
    ·rw [if_pos h3]; constructor
     ·intro h; cases h
     ·rintro ⟨_, h⟩; omega
    ·rw [if_neg h3]
     exact ⟨fun _ => ⟨⟨h0, trivial, fun e => by
      refine Nat.le_antisymm (Nat.not_lt.1 fun h => h1 ⟨e, h⟩) (by omega)⟩, by omega⟩, fun _ => rfl⟩
theorem ziv (s : zAd) : sEq s s = true := sEq_iff.2 rfl
end Go.Am.Tryz
/- Plain law: lists of texts; one. -/
namespace Go.Am.Tryz
open Go Go.Am Go.Proofs
variable {K : Nat}
theorem zq8 {s t : zAd} (h : s ≠ t) : sEq s t = false := by
 cases e : sEq s t with
 | false => rfl
 | true => exact absurd (sEq_iff.1 e) h
theorem zfx (hK : 2000000000 < K) : z7z K 1 = some [1] := by
 obtain ⟨k, rfl⟩ : ∃ k, K = k + 2 := ⟨K - 2, by omega⟩
 unfold z7z
 have e1 : decide ((1 : Int) > 0) = true := rfl
 have e2 : IntKind.wrap .u32 (Int.tmod 1 1000000000) = 1 := rfl
 have e3 : z03 .i64 (Int.tdiv 1 1000000000) = 0 := rfl
 have e4 : decide ((0 : Int) > 0) = false := rfl
 rw [z5u, e1, if_pos rfl, e2, e3, if_pos (by decide), z5u, e4]
 rfl
end Go.Am.Tryz
/- Plain lemmas: rational numbers, their signs, parts and sizes. -/
namespace Go.Am
def sgn (neg : Bool) (n : Nat) : Int := if neg then -(n : Int) else n
theorem ziw (neg : Bool) (n : Nat) : (sgn neg n).natAbs = n := by unfold sgn; split <;> omega
theorem zab (x : Rat) : sgn (decide (x.num < 0)) x.num.natAbs = x.num := by unfold sgn; by_cases h : x.num < 0 <;> simp [h] <;> omega
theorem zkx (neg : Bool) (n d : Nat) (hd : d ≠ 0) : (mkRat (sgn neg n) d).num.natAbs = n / Nat.gcd n d := by
 rw [Rat.num_mkRat, if_neg hd, ziw, Nat.gcd_comm]
 unfold sgn
 cases neg with
 | false => simp; rfl
 | true =>
  simp only [if_true]
  have h : (Nat.gcd n d : Int) ∣ (n : Int) := Int.natCast_dvd_natCast.2 (Nat.gcd_dvd_left n d)
  rw [Int.neg_ediv_of_dvd h, Int.natAbs_neg]
  rfl
theorem zky (neg : Bool) (n d : Nat) (hd : d ≠ 0) : (mkRat (sgn neg n) d).den = d / Nat.gcd n d := by
 rw [Rat.den_mkRat, if_neg hd, ziw, Nat.gcd_comm]
theorem zmw (neg : Bool) (n d : Nat) (hd : d ≠ 0) (hn : n ≠ 0) : decide ((mkRat (sgn neg n) d).num < 0) = neg := by
 have h0 : n / Nat.gcd n d ≠ 0 := by
  have := Nat.gcd_pos_of_pos_left d (show 0 < n by omega)
  have h2 := Nat.le_of_dvd (by omega) (Nat.gcd_dvd_left n d)
  have := Nat.div_pos h2 this
  omega
 rw [Rat.num_mkRat, if_neg hd, ziw, Nat.gcd_comm]
 have h : (Nat.gcd n d : Int) ∣ (n : Int) := Int.natCast_dvd_natCast.2 (Nat.gcd_dvd_left n d)
 obtain ⟨q, hq, hq0⟩ : ∃ q : Nat, (n : Int) / (Nat.gcd n d : Int) = (q : Int) /\ q ≠ 0 := ⟨n / Nat.gcd n d, by simp, h0⟩
 unfold sgn
 cases neg with
 | false => simp only [Bool.false_eq_true, if_false, hq]; exact decide_eq_false (by omega)
 | true => simp only [if_true]; rw [Int.neg_ediv_of_dvd h, hq]; exact decide_eq_true (by omega)
theorem zix (x y : Rat) : x * y = mkRat (sgn (decide (x.num < 0) != decide (y.num < 0)) (x.num.natAbs * y.num.natAbs)) (x.den * y.den) := by
 rw [Rat.mul_def']
 congr 1
 conv => lhs; rw [<- zab x, <- zab y]
 generalize x.num.natAbs = a
 generalize y.num.natAbs = b
 unfold sgn
 cases decide (x.num < 0) <;> cases decide (y.num < 0) <;> simp [Int.mul_neg, Int.neg_mul]
theorem zev (neg : Bool) (n : Nat) : ((sgn neg n : Int) : Rat) = if neg then -(n : Rat) else n := by
 unfold sgn
 cases neg with
 | false => rfl
 | true => simp only [if_true]; rw [Rat.intCast_neg]; rfl
theorem zgo (a b : Bool) (p q r s : Rat) (e1 : q ≠ 0) (e2 : r ≠ 0) (e3 : s ≠ 0) : (if a then -p else p) / q / ((if b then -r else r) / s) = (if a != b then -(p * s) else p * s) / (q * r) := by
 cases a <;> cases b <;> simp <;> grind
theorem zew (x : Rat) : x = ((sgn (decide (x.num < 0)) x.num.natAbs : Int) : Rat) / (x.den : Rat) := by
 rw [zab, <- Rat.mkRat_eq_div, Rat.mkRat_self]
theorem zfy (x y : Rat) (hy : y ≠ 0) : x / y = mkRat (sgn (decide (x.num < 0) != decide (y.num < 0)) (x.num.natAbs * y.den)) (x.den * y.num.natAbs) := by
 have hyn : y.num ≠ 0 := fun e => hy (Rat.num_eq_zero.1 e)
 rw [Rat.mkRat_eq_div, zev]
 conv => lhs; rw [zew x, zew y, zev, zev]
 rw [Rat.natCast_mul, Rat.natCast_mul]
 exact zgo _ _ _ _ _ _ (by simp [x.den_nz]) (by simp; omega) (by simp [y.den_nz])
def Dl (x : Rat) (N : Nat) : Prop := x.num.natAbs < 10 ^ N /\ x.den < 10 ^ N
theorem Dl.mono {x : Rat} {N M : Nat} (h : Dl x N) (hN : N <= M) : Dl x M := ⟨Nat.lt_of_lt_of_le h.1 (Nat.pow_le_pow_right (by omega) hN), Nat.lt_of_lt_of_le h.2 (Nat.pow_le_pow_right (by omega) hN)⟩
theorem Dl.mk (neg : Bool) {n d N : Nat} (hd : d ≠ 0) (hn : n < 10 ^ N) (hd2 : d < 10 ^ N) : Dl (mkRat (sgn neg n) d) N := by
 refine ⟨?_, ?_⟩
 ·rw [zkx neg n d hd]; exact Nat.lt_of_le_of_lt (Nat.div_le_self _ _) hn
 ·rw [zky neg n d hd]; exact Nat.lt_of_le_of_lt (Nat.div_le_self _ _) hd2
theorem z2p {a b N M : Nat} (h : a < 10 ^ N) (k : b < 10 ^ M) : a * b < 10 ^ (N + M) := by
 rw [Nat.pow_add]
 exact Nat.mul_lt_mul_of_lt_of_le h (Nat.le_of_lt k) (Nat.pow_pos (by omega))
theorem Dl.mul {x y : Rat} {N M : Nat} (h : Dl x N) (k : Dl y M) : Dl (x * y) (N + M) := by
 rw [zix]
 exact .mk _ (Nat.mul_ne_zero x.den_nz y.den_nz) (z2p h.1 k.1) (z2p h.2 k.2)
theorem Dl.zero : Dl 0 1 := ⟨by decide, by decide⟩
theorem Dl.one : Dl 1 1 := ⟨by decide, by decide⟩
theorem Dl.div {x y : Rat} {N M : Nat} (h : Dl x N) (k : Dl y M) : Dl (x / y) (N + M + 1) := by
 by_cases hy : y = 0
 ·subst hy
  have : x / 0 = 0 := by grind
  rw [this]; exact Dl.zero.mono (by omega)
 ·rw [zfy x y hy]
  have hyn : y.num ≠ 0 := fun e => hy (Rat.num_eq_zero.1 e)
  refine (Dl.mk _ (Nat.mul_ne_zero x.den_nz (by omega)) (z2p h.1 k.2) (z2p h.2 k.1)).mono (by omega)
theorem zon (a : Int) : a = sgn (decide (a < 0)) a.natAbs := by unfold sgn; by_cases h : a < 0 <;> simp [h] <;> omega
theorem Dl.add {x y : Rat} {N M : Nat} (h : Dl x N) (k : Dl y M) : Dl (x + y) (N + M + 1) := by
 rw [Rat.add_def']
 rw [zon (x.num * y.den + y.num * x.den)]
 have h1 := z2p h.1 k.2
 have h2 := z2p k.1 h.2
 have h3 : (x.num * (y.den : Int) + y.num * (x.den : Int)).natAbs <= x.num.natAbs * y.den + y.num.natAbs * x.den := by
  refine Nat.le_trans (Int.natAbs_add_le _ _) ?_
  rw [Int.natAbs_mul, Int.natAbs_mul]; simp
 rw [Nat.add_comm M N] at h2
 refine .mk _ (Nat.mul_ne_zero x.den_nz y.den_nz) ?_ ?_
 ·rw [Nat.pow_succ]; omega
 ·have := z2p h.2 k.2
  rw [Nat.pow_succ]; omega
theorem Dl.neg {x : Rat} {N : Nat} (h : Dl x N) : Dl (-x) N := ⟨by rw [Rat.neg_num, Int.natAbs_neg]; exact h.1, by rw [Rat.neg_den]; exact h.2⟩
theorem Dl.sub {x y : Rat} {N M : Nat} (h : Dl x N) (k : Dl y M) : Dl (x - y) (N + M + 1) := by
 rw [Rat.sub_eq_add_neg]; exact h.add k.neg
theorem Dl.pos {x : Rat} {N : Nat} (h : Dl x N) : 1 <= N := by
 refine Nat.not_lt.1 fun hlt => ?_
 have : N = 0 := by omega
 subst this
 have := h.2
 have := x.den_pos
 simp at *; omega
end Go.Am
/- Plain law: the parts of a rational number's text; its error. -/
namespace Go.Am.Tryz
open Go Go.Am Go.Proofs
variable {K : Nat}
structure Sp (s : zAd) (neg : Bool) (n : zAd) (many : Bool) (d : zAd) : Prop where
 eq : z05 s = (if neg then [45] else []) ++ (z05 n ++ (if many then 47 :: z05 d else []))
 no : 47 ∉ z05 n
 hd : neg = false -> (z05 s).head? ≠ some 45
theorem ze6 {x : Int} : ∀ {l1 l2 r1 r2 : List Int}, l1 ++ r1 = l2 ++ r2 -> x ∉ l1 -> x ∉ l2 -> (r1 = [] \/ r1.head? = some x) -> (r2 = [] \/ r2.head? = some x) -> l1 = l2 /\ r1 = r2
 | [], [], _, _, h, _, _, _, _ => ⟨rfl, by simpa using h⟩
 | [], b :: l2, r1, r2, h, _, h2, h3, _ => by
  simp only [List.nil_append, List.cons_append] at h
  subst h
  simp at h3
  subst h3
  simp at h2
 | a :: l1, [], r1, r2, h, h1, _, _, h4 => by
  simp only [List.nil_append, List.cons_append] at h
  subst h
  simp at h4
  subst h4
  simp at h1
 | a :: l1, b :: l2, r1, r2, h, h1, h2, h3, h4 => by
  simp only [List.cons_append, List.cons.injEq] at h
  obtain ⟨rfl, h⟩ := h
  obtain ⟨e1, e2⟩ := ze6 h (fun hx => h1 (by simp [hx])) (fun hx => h2 (by simp [hx])) h3 h4
  exact ⟨by rw [e1], e2⟩
theorem Sp.uniq {s n d n' d' : zAd} {neg neg' many many' : Bool} (h : Sp s neg n many d) (k : Sp s neg' n' many' d') : neg = neg' /\ n = n' /\ many = many' /\ (many = true -> d = d') := by
 have e1 : neg = neg' := by
  cases neg <;> cases neg'
  ·rfl
  ·have := h.hd rfl; rw [k.eq] at this; simp at this
  ·have := k.hd rfl; rw [h.eq] at this; simp at this
  ·rfl
 subst e1
 have e2 := List.append_cancel_left (h.eq.symm.trans k.eq)
 obtain ⟨e3, e4⟩ := ze6 e2 h.no k.no (by cases many <;> simp) (by cases many' <;> simp)
 refine ⟨rfl, z3t e3, ?_⟩
 cases many <;> cases many'
 ·exact ⟨rfl, fun h => by cases h⟩
 ·simp at e4
 ·simp at e4
 ·simp at e4; exact ⟨rfl, fun _ => z3t e4⟩
theorem Sp.size {s n d : zAd} {neg many : Bool} (h : Sp s neg n many d) : n.size <= s.size /\ (many = true -> d.size <= s.size) := by
 have := congrArg List.length h.eq
 simp only [List.length_append, z01] at this
 refine ⟨by omega, fun hm => ?_⟩
 subst hm
 simp only [if_true, List.length_cons, z01] at this
 omega
theorem z5g (s : zAd) {i j : Nat} (h : i <= j) (hj : j <= s.size) : z05 (s.extract i j) = ((z05 s).drop i).take (j - i) /\ (s.extract i j).size = j - i := by
 have h1 := z2t s i j
 refine ⟨h1, ?_⟩
 rw [<- z01, h1, List.length_take, List.length_drop, z01]; omega
theorem zex (K : Nat) (s : zAd) : ∃ s1 neg, z18 K s ⟨#[45]⟩ = some (s1, neg) /\ z05 s = (if neg then [45] else []) ++ z05 s1 /\ (neg = false -> (z05 s).head? ≠ some 45) /\ s1.size <= s.size := by
 unfold z18 z0w z0v
 have hn := z01 s
 have e1 : ((⟨#[45]⟩ : zAd).size : Int) = 1 := rfl
 rw [e1]
 by_cases h0 : s.size = 0
 ·have hb : z05 s = [] := List.length_eq_zero_iff.1 (by omega)
  refine ⟨s, false, ?_, by simp, fun _ => by rw [hb]; simp, Nat.le_refl _⟩
  rw [h0]
  rfl
 ·obtain ⟨c, l, hc⟩ : ∃ c l, z05 s = c :: l := by
   cases hb : z05 s with
   | nil => rw [hb] at hn; simp at hn; omega
   | cons c l => exact ⟨c, l, rfl⟩
  have hx : ssl s 0 1 = some (s.extract 0 1) := by rw [sslI (by omega) (by omega) (by omega)]; rfl
  have hxb : z05 (s.extract 0 1) = [c] := by rw [(z5g s (by omega) (by omega)).1, hc]; rfl
  rw [decide_eq_true (by omega), if_pos rfl, hx, z0d, z0d, tu1a, z0d]
  by_cases h45 : c = 45
  ·have he : sEq (s.extract 0 1) ⟨#[45]⟩ = true := sEq_iff.2 (z3t (by rw [hxb, h45]; rfl))
   obtain ⟨t, t1, t2, t3⟩ := zbj hc
   refine ⟨t, true, ?_, by rw [hc, t2, h45]; rfl, fun h => by (cases h), by rw [hc] at hn; simp at hn; omega⟩
   rw [he]
   simp only [Bool.not_true, Bool.false_eq_true, if_false]
   rw [t1, z0d, z0d]
  ·have he : sEq (s.extract 0 1) ⟨#[45]⟩ = false := zq8 (fun e => by
    have := congrArg z05 e
    rw [hxb] at this
    have e2 : z05 (⟨#[45]⟩ : zAd) = [45] := rfl
    rw [e2] at this
    simp at this; exact h45 this)
   refine ⟨s, false, ?_, by simp, fun _ => by rw [hc]; simpa using h45, Nat.le_refl _⟩
   rw [he]
   rfl
theorem z9j (c : UInt8) : ∀ (l : List UInt8), (Lib.indexByte l c = -1 /\ c ∉ l) \/ ∃ i : Nat, Lib.indexByte l c = i /\ i < l.length /\ l[i]? = some c /\ c ∉ l.take i
 | [] => .inl ⟨rfl, by simp⟩
 | b :: l => by
  rw [Lib.indexByte]
  by_cases hb : b = c
  ·subst hb; exact .inr ⟨0, by simp, by simp, by simp, by simp⟩
  ·have hb' : (b == c) = false := by simpa using hb
   rw [hb']
   rcases z9j c l with ⟨h1, h2⟩ | ⟨i, h1, h2, h3, h4⟩
   ·refine .inl ⟨by rw [h1]; rfl, ?_⟩
    simp only [List.mem_cons, not_or]
    exact ⟨fun e => hb e.symm, h2⟩
   ·refine .inr ⟨i + 1, ?_, by simp; omega, by simpa using h3, ?_⟩
    ·rw [h1]
     have : ((i : Int) == -1) = false := by rw [beq_eq_false_iff_ne]; omega
     rw [this]
     simp
    ·rw [List.take_succ_cons]
     simp only [List.mem_cons, not_or]
     exact ⟨fun e => hb e.symm, h4⟩
theorem zfz {c : UInt8} {l : List UInt8} (h : ((c.toNat : Nat) : Int) ∈ l.map (fun b => (b.toNat : Int))) : c ∈ l := by
 rw [List.mem_map] at h
 obtain ⟨b, hb, he⟩ := h
 have : b = c := UInt8.toNat_inj.1 (by omega)
 subst this; exact hb
theorem zq9 {s : zAd} (hs : s.size <= 1048576) : ∃ n d many, z3k K s ⟨#[47]⟩ = some (n, d, many) /\ z05 s = z05 n ++ (if many then 47 :: z05 d else []) /\ 47 ∉ z05 n /\ (many = false -> d = ⟨#[]⟩) := by
 have hn := z01 s
 have hx : z0u K s ⟨#[47]⟩ = some (Lib.indexByte s.data.toList 47) := by
  unfold z0u z1l
  have e1 : (((⟨#[47]⟩ : zAd).size : Int) == 0) = false := rfl
  have e2 : (((⟨#[47]⟩ : zAd).size : Int) == 1) = true := rfl
  have e3 : bidx (⟨#[47]⟩ : zAd) 0 = some 47 := rfl
  rw [e1, e2, e3]
  simp only [Bool.false_eq_true, if_false, z0d, tu1a, if_true]
  by_cases he : sEq ⟨#[47]⟩ s = true
  ·rw [he, if_pos rfl]
   rw [sEq_iff] at he
   subst he
   rfl
  ·rw [if_neg he]
   rfl
 unfold z3k z1n
 rw [hx, z0d]
 rcases z9j 47 s.data.toList with ⟨h1, h2⟩ | ⟨i, h1, h2, h3, h4⟩
 ·refine ⟨s, ⟨#[]⟩, false, by rw [h1]; rfl, by simp, fun h => h2 (zfz h), fun _ => rfl⟩
 ·rw [Array.length_toList] at h2
  have h2' : i < s.size := h2
  have ea := z5g s (i := 0) (j := i) (by omega) (by omega)
  have eb := z5g s (i := i + 1) (j := s.size) (by omega) (by omega)
  refine ⟨s.extract 0 i, s.extract (i + 1) s.size, true, ?_, ?_, ?_, fun h => by cases h⟩
  ·have e1 : ((⟨#[47]⟩ : zAd).size : Int) = 1 := rfl
   have t0 : Int.toNat 0 = 0 := rfl
   have t1 : ((i : Int) + 1).toNat = i + 1 := by omega
   rw [h1, if_pos (decide_eq_true (by omega)), sslI (by omega) (by omega) (by omega), z0d, e1, k64 (by omega) (by omega), sslI (by omega) (by omega) (by omega), z0d, z0d, t1]
   rfl
  ·rw [ea.1, eb.1]
   have h5 : (z05 s)[i]? = some 47 := by unfold z05; rw [List.getElem?_map, h3]; rfl
   have h6 : i < (z05 s).length := by omega
   rw [zAh h6] at h5
   simp only [if_true, List.drop_zero, Nat.sub_zero]
   rw [List.take_of_length_le (l := (z05 s).drop (i + 1)) (by rw [List.length_drop]; omega)]
   conv => lhs; rw [<- List.take_append_drop i (z05 s), List.drop_eq_getElem_cons h6]
   rw [zAa h5]
  ·rw [ea.1, List.drop_zero, Nat.sub_zero]
   intro h
   unfold z05 at h
   rw [<- List.map_take] at h
   exact h4 (zfz h)
theorem zbq (K : Nat) {s : zAd} (hs : s.size <= 1048576) : ∃ s1 neg n d many, z18 K s ⟨#[45]⟩ = some (s1, neg) /\ z3k K s1 ⟨#[47]⟩ = some (n, d, many) /\ Sp s neg n many d /\ z05 s = (if neg then [45] else []) ++ z05 s1 /\ (many = false -> d = ⟨#[]⟩) := by
 obtain ⟨s1, neg, h1, h2, h3, h4⟩ := zex K s
 obtain ⟨n, d, many, c1, c2, c3, c4⟩ := zq9 (K := K) (s := s1) (by omega)
 exact ⟨s1, neg, n, d, many, h1, c1, ⟨by rw [h2, c2], c3, h3⟩, h2, c4⟩
def ratS (neg : Bool) (n : zAd) (many : Bool) (d : zAd) : Int :=
 if natE n = 5 \/ (many = true /\ natE d = 5) \/ (neg = true /\ n = ⟨#[48]⟩) then 5 else if natE n ≠ 0 \/ (many = true /\ natE d ≠ 0) then 2 else
 if many = true /\ (d = ⟨#[48]⟩ \/ d = ⟨#[49]⟩ \/ Nat.gcd (numT n).toNat (numT d).toNat ≠ 1) then 3 else 0
theorem z9k (a b : zAd) : sEq a b = decide (a = b) := by
 by_cases h : a = b
 ·rw [decide_eq_true h]; exact sEq_iff.2 h
 ·rw [decide_eq_false h]; exact zq8 h
theorem zoo (G : Nat) : ((if (G : Int) < 1 then (-1 : Int) else if (G : Int) = 1 then 0 else 1) != 0) = decide (G ≠ 1) := by
 by_cases hG : G = 1
 ·subst hG; rfl
 ·rw [decide_eq_true hG]
  by_cases h0 : (G : Int) < 1
  ·rw [if_pos h0]; rfl
  ·rw [if_neg h0, if_neg (by omega)]; rfl
theorem zop : natE ⟨#[48]⟩ = 0 := (zaa _).2 ⟨z9i, by decide⟩
theorem zkz {s n d : zAd} {neg many : Bool} (hs : s.size <= 1048576) (hK : 2000000000 < K) (h : Sp s neg n many d) : z5v K s = some (ratS neg n many d) := by
 obtain ⟨s1, neg', n', d', many', c1, c2, c3, c4, c5⟩ := zbq K hs
 obtain ⟨rfl, rfl, rfl, hd⟩ := h.uniq c3
 have hsz := h.size
 unfold z5v ratS
 rw [c1, z0d, c2, z0d]
 dsimp only
 rw [ze4 (by omega) (by omega), z0d]
 cases many with
 | false =>
  simp only [Bool.false_eq_true, if_false, z0d, tu1a, false_and, false_or, or_false]
  by_cases e5 : natE n = 5
  ·simp [e5, z0d, tu1a]
  ·have e5' : (natE n == 5) = false := by rw [beq_eq_false_iff_ne]; exact e5
   have e05 : ((0 : Int) == 5) = false := rfl
   rw [e5', e05]
   cases neg <;> by_cases e0 : natE n = 0 <;> by_cases en : n = ⟨#[48]⟩ <;> simp [e0, e5, en, z9k, z0d, tu1a, zop]
 | true =>
  have hdd := hd rfl
  subst hdd
  simp only [if_true, true_and]
  rw [ze4 (by have := hsz.2 rfl; omega) (by have := hsz.2 rfl; omega)]
  simp only [z0d, tu1a]
  by_cases e5 : natE n = 5
  ·simp [e5, z0d, tu1a]
  ·have e5' : (natE n == 5) = false := by rw [beq_eq_false_iff_ne]; exact e5
   by_cases f5 : natE d = 5
   ·simp [e5, f5, z0d, tu1a]
   ·have f5' : (natE d == 5) = false := by rw [beq_eq_false_iff_ne]; exact f5
    have hneg : (if neg = true then some (sEq n (⟨#[48]⟩ : zAd)) else some false) = some (decide (neg = true /\ n = ⟨#[48]⟩)) := by
     cases neg <;> simp [z9k]
    rw [e5', f5', hneg]
    simp only [Bool.false_eq_true, if_false, z0d, tu1a, e5, f5, false_or]
    by_cases hz : neg = true /\ n = ⟨#[48]⟩
    ·rw [decide_eq_true hz, if_pos rfl, if_pos hz]
    ·rw [decide_eq_false hz, if_neg (by simp), if_neg hz]
     by_cases e0 : natE n = 0
     ·by_cases f0 : natE d = 0
      ·obtain ⟨cn, ln⟩ := (zaa n).1 e0
       obtain ⟨cd, ld⟩ := (zaa d).1 f0
       obtain ⟨x, x1, x2, x3⟩ := za3 (K := K) (s := n) (by omega) hK cn.2.1
       obtain ⟨y, y1, y2, y3⟩ := za3 (K := K) (s := d) (by omega) hK cd.2.1
       have nn := z3e cn.2.1
       have nd := z3e cd.2.1
       obtain ⟨g, g1, g2⟩ := zlr (K := K) (x := x) (y := y) (a := (numT n).toNat) (b := (numT d).toNat) (by omega) (by omega) hK (by rw [Int.toNat_of_nonneg nn]; exact x2) (by rw [Int.toNat_of_nonneg nd]; exact y2)
       have gl : g.length <= 1000000 := by
        by_cases h0 : (numT d).toNat = 0
        ·rw [h0, Nat.gcd_zero_right, Int.toNat_of_nonneg nn] at g2
         rw [g2.inj x2]; omega
        ·have := z90 g2 y2 (by have := Nat.gcd_le_right (n := (numT d).toNat) (numT n).toNat (by omega); omega)
         omega
       have hc := zfp (K := K) (x := g) (y := [1]) (by omega) (by simp) hK g2 (.one (by omega) (by omega))
       have hcv : ((if ((Nat.gcd (numT n).toNat (numT d).toNat : Nat) : Int) < 1 then (-1 : Int) else if ((Nat.gcd (numT n).toNat (numT d).toNat : Nat) : Int) = 1 then 0 else 1) != 0) = decide (Nat.gcd (numT n).toNat (numT d).toNat ≠ 1) := by
        exact zoo _
       rw [e0, f0]
       simp only [bne_self_eq_false, Bool.false_eq_true, if_false, z0d, tu1a, ne_eq, not_true, or_self, x1, y1, g1, zfx hK, hc, hcv, z9k]
       by_cases d0 : d = ⟨#[48]⟩
       ·simp [d0, z0d, tu1a]
       ·by_cases d1 : d = ⟨#[49]⟩
        ·simp [d1, z0d, tu1a]
        ·by_cases hG : Nat.gcd (numT n).toNat (numT d).toNat = 1 <;> simp [d0, d1, hG, z0d, tu1a]
      ·simp [e0, f0, z0d, tu1a]
     ·simp [e0, z0d, tu1a]
end Go.Am.Tryz
/- Plain law: the reference's parts of a rational number's text and its error. -/
namespace Go.Am.Tryz
open Go Go.Am Go.Proofs
variable {K : Nat}
theorem ze7 {l r : List Int} {i : Nat} (h : i < l.length) : (l ++ r).getD i 0 = l.getD i 0 := by
 rw [zAb, List.getElem?_append_left h, zAb]
theorem ziy {l : List Int} {i : Nat} (h : i < l.length) : l.getD i 0 ∈ l := by
 rw [zAb, zAh h]; exact List.getElem_mem h
theorem ziz {s n : zAd} {r : List Int} (h : z05 s = z05 n ++ r) : s.extract 0 n.size = n := by
 have hl := congrArg List.length h
 rw [List.length_append, z01, z01] at hl
 apply z3t
 rw [(z5g s (by omega) (by omega)).1, h, List.drop_zero, Nat.sub_zero, List.take_append_of_le_length (by rw [z01]; omega), List.take_of_length_le (by rw [z01]; omega)]
theorem zg0 {s n d : zAd} (h : z05 s = z05 n ++ 47 :: z05 d) : s.extract (n.size + 1) s.size = d := by
 have hl := congrArg List.length h
 rw [List.length_append, List.length_cons, z01, z01, z01] at hl
 apply z3t
 rw [(z5g s (by omega) (by omega)).1, h, List.drop_append, z01]
 rw [List.drop_eq_nil_of_le (by rw [z01]; omega), show n.size + 1 - n.size = 1 by omega]
 simp only [List.nil_append, List.drop_succ_cons, List.drop_zero]
 rw [List.take_of_length_le (by rw [z01]; omega)]
theorem zl0 {s : zAd} {neg : Bool} {r : List Int} (h : z05 s = (if neg then [45] else []) ++ r) (hd : neg = false -> (z05 s).head? ≠ some 45) (K : Nat) :
  ∃ s1, (Option.bind ((if (decide ((s.size : Int) > 0)) = true then ((bidx s 0).bind fun x7 => some (x7 == 45)) else some false)) (tu1 fun x11 => ((if x11 = true then ((ssl s 1 (s.size : Int)).bind fun x26 => some (x26, true)) else some (s, false))))) = some (s1, neg) /\ z05 s1 = r /\ s1.size <= s.size := by
 have hn := z01 s
 cases neg with
 | true =>
  simp only [if_true, List.cons_append, List.nil_append] at h
  obtain ⟨t, t1, t2, t3⟩ := zbj h
  have hb : bidx s 0 = some 45 := by rw [z9a, h]; rfl
  have hs : 0 < s.size := by rw [h] at hn; simp at hn; omega
  refine ⟨t, ?_, t2, by rw [h] at hn; simp at hn; omega⟩
  rw [decide_eq_true (by omega), if_pos rfl, hb, z0d, z0d, tu1a]
  simp only [beq_self_eq_true, if_true, t1, z0d]
 | false =>
  simp only [Bool.false_eq_true, if_false, List.nil_append] at h
  refine ⟨s, ?_, h, Nat.le_refl _⟩
  by_cases h0 : 0 < s.size
  ·cases hb : z05 s with
   | nil => rw [hb] at hn; simp at hn; omega
   | cons c l =>
    have hc : c ≠ 45 := fun e => hd rfl (by rw [hb, e]; rfl)
    have hx : bidx s 0 = some c := by rw [z9a, hb]; rfl
    have e : (c == 45) = false := by rw [beq_eq_false_iff_ne]; exact hc
    rw [decide_eq_true (by omega), if_pos rfl, hx, z0d, e, z0d, tu1a]
    rfl
  ·rw [decide_eq_false (by omega)]
   rfl
theorem zgp {s n d : zAd} {many : Bool} (hs : s.size <= 1048576) (hK : 2000000000 < K) (h : z05 s = z05 n ++ (if many then 47 :: z05 d else [])) (hno : 47 ∉ z05 n) :
  ∃ r : Int × zAd × zAd, z16 K s K 1 s ⟨#[50]⟩ 0 = some r /\ r = (if many then (2, n, d) else (1, s, ⟨#[50]⟩)) := by
 have hn := z01 s
 have hln : n.size <= s.size := by
  have := congrArg List.length h
  rw [List.length_append, z01, z01] at this; omega
 have hlt : many = true -> n.size < s.size := fun hm => by
  subst hm
  have := congrArg List.length h
  rw [List.length_append, z01, z01] at this
  simp at this; omega
 refine z8f (fun k (q : Int × zAd × zAd × Int) => z16 K s k q.1 q.2.1 q.2.2.1 q.2.2.2) (fun q => ∃ i : Nat, q.2.2.2 = i /\ i <= s.size /\ (q.1, q.2.1, q.2.2.1) = (if many = true /\ n.size < i then (2, n, d) else (1, s, ⟨#[50]⟩))) (fun q => (s.size - q.2.2.2 : Int).toNat) _ ?_ ((1, s, ⟨#[50]⟩, 0) : Int × zAd × zAd × Int) (by dsimp only; omega) ⟨0, rfl, by omega, by rw [if_neg (by omega)]⟩
 rintro k ⟨m, a, b, _⟩ ⟨i, rfl, h0, h1⟩
 dsimp only at h1 ⊢
 by_cases hi : i < s.size
 ·right
  have hb : bidx s i = some ((z05 s).getD i 0) := by rw [zpq (by omega) (by omega), Int.toNat_natCast]
  by_cases c : many = true /\ n.size < i
  ·rw [if_pos c] at h1
   simp only [Prod.mk.injEq] at h1
   obtain ⟨rfl, rfl, rfl⟩ := h1
   refine ⟨(2, a, b, (i : Int) + 1), ?_, by dsimp only; omega, i + 1, rfl, by omega, by rw [if_pos ⟨c.1, by omega⟩]⟩
   rw [z16, if_pos (decide_eq_true (by omega)), hb, z0d, k64 (by omega) (by omega)]
   have e : ((2 : Int) == 1) = false := rfl
   rw [e]
   by_cases c2 : (z05 s).getD i 0 == 47 <;> simp [c2, z0d, tu1a, tu3a]
  ·rw [if_neg c] at h1
   simp only [Prod.mk.injEq] at h1
   obtain ⟨rfl, rfl, rfl⟩ := h1
   by_cases c3 : many = true /\ i = n.size
   ·obtain ⟨hm, rfl⟩ := c3
    subst hm
    simp only [if_true] at h
    have hch : (z05 a).getD n.size 0 = 47 := by
     rw [h, zAb, List.getElem?_append_right (by rw [z01]; omega), z01]
     simp
    refine ⟨(2, n, d, (n.size : Int) + 1), ?_, by dsimp only; omega, n.size + 1, rfl, by omega, by rw [if_pos ⟨rfl, by omega⟩]⟩
    have t0 : Int.toNat 0 = 0 := rfl
    have t1 : ((n.size : Int) + 1).toNat = n.size + 1 := by omega
    rw [z16, if_pos (decide_eq_true (by omega)), hb, z0d, hch, k64 (by omega) (by omega), sslI (l := 0) (by omega) (by omega) (by omega), sslI (by omega) (by omega) (by omega), t0, t1, Int.toNat_natCast, Int.toNat_natCast, ziz h, zg0 h]
    rfl
   ·have hin : i < n.size := by
     cases many with
     | true => simp at c c3; omega
     | false =>
      simp only [Bool.false_eq_true, if_false, List.append_nil] at h
      have := congrArg List.length h
      rw [z01, z01] at this; omega
    have hch : (z05 a).getD i 0 ≠ 47 := fun e => by
     rw [h, ze7 (by rw [z01]; omega)] at e
     exact hno (e ▸ ziy (by rw [z01]; omega))
    have e : ((z05 a).getD i 0 == 47) = false := by rw [beq_eq_false_iff_ne]; exact hch
    refine ⟨(1, a, ⟨#[50]⟩, (i : Int) + 1), ?_, by dsimp only; omega, i + 1, rfl, by omega, by rw [if_neg (by omega)]⟩
    rw [z16, if_pos (decide_eq_true (by omega)), hb, z0d, e, k64 (by omega) (by omega)]
    rfl
 ·left
  have : i = s.size := by omega
  subst this
  refine ⟨(m, a, b), by rw [z16, if_neg (by simp)], ?_⟩
  cases many with
  | true => have := hlt rfl; simp only [true_and, if_pos this] at h1; exact h1
  | false => simpa using h1
theorem zl1 {s n d : zAd} {neg many : Bool} (hs : s.size <= 1048576) (hK : 2000000000 < K) (h : Sp s neg n many d) : z50 K s = some (ratS neg n many d) := by
 have hsz := h.size
 obtain ⟨s1, h1, h2, h3⟩ := zl0 h.eq h.hd K
 obtain ⟨r, r1, rfl⟩ := zgp (K := K) (s := s1) (n := n) (d := d) (many := many) (by omega) hK h2 h.no
 unfold z50 ratS
 -- the sign
 have hsplit : ∀ {α : Type} (F : zAd × Bool -> Option α), (Option.bind ((if (decide ((s.size : Int) > 0)) = true then ((bidx s 0).bind fun x7 => some (x7 == 45)) else some false)) (tu1 fun x11 => (Option.bind ((if x11 = true then ((ssl s 1 (s.size : Int)).bind fun x26 => some (x26, true)) else some (s, false))) F))) = F (s1, neg) := by
  intro α F
  have : ∀ (m : Option Bool) (f : Bool -> Option (zAd × Bool)), (Option.bind m (tu1 fun x => Option.bind (f x) F)) = Option.bind (Option.bind m (tu1 f)) F := by
   intro m f; cases m <;> rfl
  rw [this, h1]; rfl
 rw [hsplit, tu2a, r1, z0d, tu3a]
 cases many with
 | false =>
  have hs1 : s1 = n := z3t (by simpa using h2)
  subst hs1
  have e2 : natE ⟨#[50]⟩ = 0 := (zaa _).2 ⟨⟨by decide, rfl, fun h => by simp [z05] at h⟩, by decide⟩
  simp only [Bool.false_eq_true, if_false, false_and, false_or, or_false]
  rw [zat (by omega) (by omega), zat (s := ⟨#[50]⟩) (by decide) (by show 1 < K; omega), z0d, z0d, e2]
  by_cases e5 : natE s1 = 5
  ·simp [e5, z0d, tu1a]
  ·have e5' : (natE s1 == 5) = false := by rw [beq_eq_false_iff_ne]; exact e5
   have e05 : ((0 : Int) == 5) = false := rfl
   rw [e5', e05]
   cases neg <;> by_cases e0 : natE s1 = 0 <;> by_cases en : s1 = ⟨#[48]⟩ <;> simp [e0, e5, en, z9k, z0d, tu1a, zop]
 | true =>
  have hd := hsz.2 rfl
  simp only [if_true, true_and]
  rw [zat (by omega) (by omega), zat (s := d) (by omega) (by omega), z0d, z0d]
  by_cases e5 : natE n = 5
  ·simp [e5, z0d, tu1a]
  ·have e5' : (natE n == 5) = false := by rw [beq_eq_false_iff_ne]; exact e5
   by_cases f5 : natE d = 5
   ·simp [e5, f5, z0d, tu1a]
   ·have f5' : (natE d == 5) = false := by rw [beq_eq_false_iff_ne]; exact f5
    have hneg : (if neg = true then some (sEq n (⟨#[48]⟩ : zAd)) else some false) = some (decide (neg = true /\ n = ⟨#[48]⟩)) := by
     cases neg <;> simp [z9k]
    rw [e5', f5', hneg]
    simp only [Bool.false_eq_true, if_false, z0d, tu1a, e5, f5, false_or]
    by_cases hz : neg = true /\ n = ⟨#[48]⟩
    ·rw [decide_eq_true hz, if_pos rfl, if_pos hz]
    ·rw [decide_eq_false hz, if_neg (by simp), if_neg hz]
     by_cases e0 : natE n = 0
     ·by_cases f0 : natE d = 0
      ·obtain ⟨cn, ln⟩ := (zaa n).1 e0
       obtain ⟨cd, ld⟩ := (zaa d).1 f0
       have nn := z3e cn.2.1
       have nd := z3e cd.2.1
       obtain ⟨g, g1, g2, g3⟩ := zls (K := K) (x := n) (y := d) (a := (numT n).toNat) (b := (numT d).toNat) (by omega) (by omega) hK cn cd (by omega) (by omega)
       have hg : (!(decide (g = ⟨#[49]⟩))) = decide (Nat.gcd (numT n).toNat (numT d).toNat ≠ 1) := by
        by_cases hG : Nat.gcd (numT n).toNat (numT d).toNat = 1
        ·have : g = ⟨#[49]⟩ := z8x g2 z8z (by rw [g3, z87, hG]; rfl)
         simp [this, hG]
        ·have : g ≠ ⟨#[49]⟩ := fun e => hG (by rw [e, z87] at g3; omega)
         simp [this, hG]
       have e22 : ((2 : Int) == 2) = true := rfl
       rw [e0, f0, e22]
       simp only [bne_self_eq_false, Bool.false_eq_true, if_false, z0d, tu1a, ne_eq, not_true, or_self, g1, hg, z9k, if_true]
       by_cases d0 : d = ⟨#[48]⟩
       ·simp [d0, z0d, tu1a]
       ·by_cases d1 : d = ⟨#[49]⟩
        ·simp [d1, z0d, tu1a]
        ·by_cases hG : Nat.gcd (numT n).toNat (numT d).toNat = 1 <;> simp [d0, d1, hG, z0d, tu1a]
      ·simp [e0, f0, z0d, tu1a]
     ·simp [e0, z0d, tu1a]
theorem zj0 {s n d : zAd} {many : Bool} {x1 : Int} (hs : s.size <= 1048576) (hK : 2000000000 < K) (h : z05 s = z05 n ++ (if many then 47 :: z05 d else [])) (hno : 47 ∉ z05 n) :
  ∃ r : (Bool × zAd × zAd) ⊕ Unit, z3c K x1 s K 0 = some r /\ r = (if many then .inl (x1 == 45, n, d) else .inr ()) := by
 have hn := z01 s
 have hln : n.size <= s.size := by
  have := congrArg List.length h
  rw [List.length_append, z01, z01] at this; omega
 refine z8f (fun k (q : Int) => z3c K x1 s k q) (fun q => ∃ i : Nat, q = i /\ i <= n.size) (fun q => (s.size - q : Int).toNat) _ ?_ (0 : Int) (by omega) ⟨0, rfl, by omega⟩
 rintro k _ ⟨i, rfl, h0⟩
 by_cases hi : i < n.size
 ·right
  have hb : bidx s i = some ((z05 s).getD i 0) := by rw [zpq (by omega) (by omega), Int.toNat_natCast]
  have hch : (z05 s).getD i 0 ≠ 47 := fun e => by
   rw [h, ze7 (by rw [z01]; omega)] at e
   exact hno (e ▸ ziy (by rw [z01]; omega))
  have e : ((z05 s).getD i 0 == 47) = false := by rw [beq_eq_false_iff_ne]; exact hch
  refine ⟨(i : Int) + 1, ?_, by omega, i + 1, rfl, by omega⟩
  rw [z3c, if_pos (decide_eq_true (by omega)), hb, z0d, e, k64 (by omega) (by omega)]
  rfl
 ·left
  have : i = n.size := by omega
  subst this
  cases many with
  | true =>
   simp only [if_true] at h
   have hlt : n.size < s.size := by
    have := congrArg List.length h
    rw [List.length_append, z01, z01] at this
    simp at this; omega
   have hb : bidx s n.size = some ((z05 s).getD n.size 0) := by rw [zpq (by omega) (by omega), Int.toNat_natCast]
   have hch : (z05 s).getD n.size 0 = 47 := by
    rw [h, zAb, List.getElem?_append_right (by rw [z01]; omega), z01]
    simp
   have t0 : Int.toNat 0 = 0 := rfl
   have t1 : ((n.size : Int) + 1).toNat = n.size + 1 := by omega
   refine ⟨_, ?_, rfl⟩
   rw [z3c, if_pos (decide_eq_true (by omega)), hb, z0d, hch, k64 (by omega) (by omega), sslI (l := 0) (by omega) (by omega) (by omega), sslI (by omega) (by omega) (by omega), t0, t1, Int.toNat_natCast, Int.toNat_natCast, ziz h, zg0 h]
   rfl
  | false =>
   simp only [Bool.false_eq_true, if_false, List.append_nil] at h
   have : n.size = s.size := by
    have := congrArg List.length h
    rw [z01, z01] at this; omega
   exact ⟨.inr (), by rw [z3c, if_neg (by simp; omega)], rfl⟩
theorem zl2 {s n d : zAd} {neg many : Bool} (hs : s.size <= 1048576) (h0 : s.size ≠ 0) (hK : 2000000000 < K) (h : Sp s neg n many d) : z45 K s = some (neg, n, if many then d else ⟨#[49]⟩) := by
 have hn := z01 s
 obtain ⟨c, l, hc⟩ : ∃ c l, z05 s = c :: l := by
  cases hb : z05 s with
  | nil => rw [hb] at hn; simp at hn; omega
  | cons c l => exact ⟨c, l, rfl⟩
 have hx : bidx s 0 = some c := by rw [z9a, hc]; rfl
 have hneg : (c == 45) = neg := by
  cases neg with
  | true => have := h.eq; rw [hc] at this; simp at this; rw [this.1]; rfl
  | false => have := h.hd rfl; rw [hc] at this; simpa using this
 obtain ⟨s1, e1, e2, e3⟩ : ∃ s1, (if neg = true then ((ssl s 1 (s.size : Int)).bind fun x9 => some x9) else some s) = some s1 /\ z05 s1 = z05 n ++ (if many then 47 :: z05 d else []) /\ s1.size <= s.size := by
  cases neg with
  | true =>
   have he := h.eq
   simp only [if_true, List.cons_append, List.nil_append] at he
   obtain ⟨t, t1, t2, t3⟩ := zbj he
   exact ⟨t, by rw [if_pos rfl, t1]; rfl, t2, by rw [he] at hn; rw [List.length_cons] at hn; omega⟩
  | false => exact ⟨s, rfl, by simpa using h.eq, Nat.le_refl _⟩
 obtain ⟨r, r1, rfl⟩ := zj0 (K := K) (s := s1) (n := n) (d := d) (many := many) (x1 := c) (by omega) hK e2 h.no
 unfold z45
 rw [hx, z0d, hneg, e1, z0d, tu1a, r1]
 cases many with
 | true => simp only [if_true, zic, tu3a, hneg]
 | false =>
  have hs1 : s1 = n := z3t (by simpa using e2)
  subst hs1
  simp only [Bool.false_eq_true, if_false, zid, tu0a]
end Go.Am.Tryz
/- Plain law: the program's rational numbers and their texts. -/
namespace Go.Am.Tryz
open Go Go.Am Go.Proofs
variable {K : Nat}
def RTx (s : zAd) (x : Rat) : Prop := ∃ n d, CanT n /\ CanT d /\ numT n = (x.num.natAbs : Nat) /\ numT d = (x.den : Nat) /\ Sp s (decide (x.num < 0)) n (decide (x.den ≠ 1)) d
theorem RTx.inj {s t : zAd} {x : Rat} (h : RTx s x) (k : RTx t x) : s = t := by
 obtain ⟨n, d, h1, h2, h3, h4, h5⟩ := h
 obtain ⟨n', d', k1, k2, k3, k4, k5⟩ := k
 have e1 : n = n' := z8x h1 k1 (by rw [h3, k3])
 have e2 : d = d' := z8x h2 k2 (by rw [h4, k4])
 subst e1 e2
 exact z3t (by rw [h5.eq, k5.eq])
theorem RTx.val {s : zAd} {x y : Rat} (h : RTx s x) (k : RTx s y) : x = y := by
 obtain ⟨n, d, h1, h2, h3, h4, h5⟩ := h
 obtain ⟨n', d', k1, k2, k3, k4, k5⟩ := k
 obtain ⟨e1, rfl, e3, e4⟩ := h5.uniq k5
 have e5 : x.num = y.num := by
  rw [<- zab x, <- zab y, e1]
  congr 1
  omega
 have e6 : x.den = y.den := by
  by_cases c : x.den ≠ 1
  ·have := e4 (decide_eq_true c)
   subst this; omega
  ·have c2 : ¬ y.den ≠ 1 := fun c2 => by
    rw [decide_eq_false c, decide_eq_true c2] at e3; cases e3
   omega
 exact Rat.ext e5 e6
def QV (a : Q) (x : Rat) : Prop := a.neg = decide (x.num < 0) /\ NumN (x.num.natAbs : Nat) a.num /\ (NumN (x.den : Nat) a.den \/ (a.den = [] /\ x.den = 1))
theorem z7e (N : Nat) : ((10 ^ N : Nat) : Int) = (10 : Int) ^ N := by simp
theorem zj1 {n N : Nat} {l : List Int} (h : NumN n l) (hn : n < 10 ^ N) : l.length <= N / 9 + 1 := by
 refine Nat.not_lt.1 fun hlt => ?_
 have g1 := zie (B := 1000000000) (by omega) h.1 (by rintro rfl; simp at hlt)
 rw [h.2] at g1
 have g5 : (1000000000 : Int) = 10 ^ 9 := by decide
 rw [g5, <- Int.pow_mul] at g1
 have g2 : (10 : Int) ^ N <= 10 ^ (9 * (l.length - 1)) := z7j (by omega) (by omega)
 have g4 : (n : Int) < (10 : Int) ^ N := by rw [<- z7e]; omega
 omega
theorem z88 {n N : Nat} {t : zAd} (h : CanT t) (ht : numT t = n) (hn : n < 10 ^ N) : t.size <= N + 1 := by
 refine Nat.not_lt.1 fun hlt => ?_
 have g1 := zc9 h (by omega)
 have g2 : (10 : Int) ^ N <= 10 ^ (t.size - 1) := z7j (by omega) (by omega)
 have g4 : (n : Int) < (10 : Int) ^ N := by rw [<- z7e]; omega
 omega
theorem ze8 {n N : Nat} {t : zAd} (h : (z05 t).all digT = true) (ht : numT t = n) (hN : t.size <= N) : n < 10 ^ N := by
 have g1 := zbn h
 have g2 : (10 : Int) ^ t.size <= 10 ^ N := z7j (by omega) hN
 have g4 : (n : Int) < (10 : Int) ^ N := by omega
 rw [<- z7e] at g4
 omega
theorem QV.lens9 {a : Q} {x : Rat} {N : Nat} (h : QV a x) (hx : Dl x N) : a.num.length <= N / 9 + 1 /\ a.den.length <= N / 9 + 1 := by
 refine ⟨zj1 h.2.1 hx.1, ?_⟩
 rcases h.2.2 with h2 | ⟨h2, _⟩
 ·exact zj1 h2 hx.2
 ·rw [h2]; exact Nat.zero_le _
theorem QV.zero : QV ⟨false, [], []⟩ 0 := ⟨rfl, .nil, .inr ⟨rfl, rfl⟩⟩
theorem QV.num0 {a : Q} {x : Rat} (h : QV a x) : a.num.length = 0 ↔ x = 0 := by
 rw [h.2.1.len0, <- Rat.num_eq_zero]; omega
theorem z91 {a : Q} {x : Rat} (h : QV a x) (hK : 2000000000 < K) : ∃ w, z15 K a = some w /\ NumN (x.den : Nat) w /\ w.length <= max a.den.length 1 := by
 unfold z15
 rcases h.2.2 with h2 | ⟨h2, h3⟩
 ·have hp := x.den_pos
  have h0 : a.den.length ≠ 0 := fun e => by have := h2.len0.1 e; omega
  refine ⟨a.den, ?_, h2, by omega⟩
  rw [if_neg (by rw [beq_iff_eq]; omega)]
 ·refine ⟨[1], ?_, by rw [h3]; exact .one (by omega) (by omega), by simp; omega⟩
  rw [h2, if_pos (by rfl), zfx hK, z0d]
theorem zj2 {neg : Bool} {n d : Nat} {num den : List Int} (hd : d ≠ 0) (hn : NumN n num) (hdn : NumN d den) (l1 : num.length <= 3000000) (l2 : den.length <= 3000000) (hK : 2000000000 < K) :
  ∃ q, z5n K neg num den = some q /\ QV q (mkRat (sgn neg n) d) := by
 unfold z5n
 by_cases h0 : num.length = 0
 ·have e := hn.len0.1 h0
  have e' : n = 0 := by omega
  subst e'
  refine ⟨⟨false, [], []⟩, by rw [if_pos (by rw [beq_iff_eq]; omega)], ?_⟩
  have : mkRat (sgn neg 0) d = 0 := by
   have : sgn neg 0 = 0 := by cases neg <;> rfl
   rw [this, Rat.zero_mkRat]
  rw [this]; exact QV.zero
 ·have hn0 : n ≠ 0 := fun e => h0 (hn.len0.2 (by omega))
  obtain ⟨g, g1, g2⟩ := zlr (K := K) (by omega) (by omega) hK hn hdn
  have gp : 0 < Nat.gcd n d := Nat.gcd_pos_of_pos_left d (by omega)
  have gl := z90 g2 hn (by have := Nat.gcd_le_left (m := n) d (by omega); omega)
  have hc := zfp (K := K) (x := g) (y := [1]) (by omega) (by simp) hK g2 (.one (by omega) (by omega))
  rw [if_neg (by rw [beq_iff_eq]; omega), g1, z0d, zfx hK, z0d, hc, z0d]
  have m1 := zkx neg n d hd
  have m2 := zky neg n d hd
  have m3 := zmw neg n d hd hn0
  by_cases h1 : Nat.gcd n d = 1
  ·refine ⟨⟨neg, num, den⟩, ?_, m3.symm, ?_, .inl ?_⟩
   ·rw [h1]; rfl
   ·rw [m1, h1, Nat.div_one]; exact hn
   ·rw [m2, h1, Nat.div_one]; exact hdn
  ·obtain ⟨q1, r1, a1, a2, a3, a4, a5⟩ := zft (K := K) (x := num) (y := g) (by omega) (by omega) hK hn g2 (by omega)
   obtain ⟨q2, r2, b1, b2, b3, b4, b5⟩ := zft (K := K) (x := den) (y := g) (by omega) (by omega) hK hdn g2 (by omega)
   refine ⟨⟨neg, q1, q2⟩, ?_, m3.symm, ?_, .inl ?_⟩
   ·have e : decide ((if ((Nat.gcd n d : Nat) : Int) < 1 then (-1 : Int) else if ((Nat.gcd n d : Nat) : Int) = 1 then 0 else 1) > 0) = true := by
     rw [if_neg (by omega), if_neg (by omega)]; rfl
    rw [e, if_pos rfl, a1, z0d, b1, z0d, z0d, tu2a]
   ·rw [m1]
    have e : ((n : Int) / ((Nat.gcd n d : Nat) : Int)) = ((n / Nat.gcd n d : Nat) : Int) := by simp
    rw [e] at a2; exact a2
   ·rw [m2]
    have e : ((d : Int) / ((Nat.gcd n d : Nat) : Int)) = ((d / Nat.gcd n d : Nat) : Int) := by simp
    rw [e] at b2; exact b2
theorem zlt (p : Bool) (X Y : Nat) : sgn p (X + Y) = sgn p X + sgn p Y := by unfold sgn; cases p <;> simp <;> omega
theorem zg1 (p q : Bool) (h : p ≠ q) {X Y : Nat} (hXY : Y <= X) : sgn p (X - Y) = sgn p X + sgn q Y := by
 unfold sgn; cases p <;> cases q <;> simp at h ⊢ <;> omega
theorem zlu (p : Bool) (a b : Nat) : sgn p (a * b) = sgn p a * b := by unfold sgn; cases p <;> simp [Int.neg_mul]
theorem zj3 (x y : Rat) : x + y = mkRat (sgn (decide (x.num < 0)) (x.num.natAbs * y.den) + sgn (decide (y.num < 0)) (y.num.natAbs * x.den)) (x.den * y.den) := by
 rw [zlu, zlu, zab, zab, Rat.add_def']
theorem zoq {a b : Q} {x y : Rat} {N : Nat} (ha : QV a x) (hb : QV b y) (dx : Dl x N) (dy : Dl y N) (hN : N <= 7000000) (hK : 2000000000 < K) : ∃ q, z6v K a b = some q /\ QV q (x + y) := by
 have la := ha.lens9 dx
 have lb := hb.lens9 dy
 have hN1 := dx.pos
 unfold z6v
 by_cases hx : x = 0
 ·subst hx
  refine ⟨b, ?_, by rw [Rat.zero_add]; exact hb⟩
  rw [if_pos (by rw [beq_iff_eq]; have := ha.num0.2 rfl; omega)]
 ·have hx0 : a.num.length ≠ 0 := fun e => hx (ha.num0.1 e)
  rw [if_neg (by rw [beq_iff_eq]; omega)]
  by_cases hy : y = 0
  ·subst hy
   refine ⟨a, ?_, by rw [Rat.add_zero]; exact ha⟩
   rw [if_pos (by rw [beq_iff_eq]; have := hb.num0.2 rfl; omega)]
  ·have hy0 : b.num.length ≠ 0 := fun e => hy (hb.num0.1 e)
   rw [if_neg (by rw [beq_iff_eq]; omega)]
   obtain ⟨wa, wa1, wa2, wa3⟩ := z91 (K := K) ha hK
   obtain ⟨wb, wb1, wb2, wb3⟩ := z91 (K := K) hb hK
   obtain ⟨X, X1, X2, X3⟩ := z9h (K := K) (x := a.num) (y := wb) (by omega) hK ha.2.1 wb2
   obtain ⟨Y, Y1, Y2, Y3⟩ := z9h (K := K) (x := b.num) (y := wa) (by omega) hK hb.2.1 wa2
   obtain ⟨D, D1, D2, D3⟩ := z9h (K := K) (x := wa) (y := wb) (by omega) hK wa2 wb2
   rw [wa1, wb1, z0d, X1, z0d, z0d, Y1, z0d, z0d, z0d, D1, z0d]
   rw [<- Int.natCast_mul] at X2 Y2 D2
   have hD : x.den * y.den ≠ 0 := Nat.mul_ne_zero x.den_nz y.den_nz
   rw [zj3, <- ha.1, <- hb.1]
   generalize x.num.natAbs * y.den = m at X2 ⊢
   generalize y.num.natAbs * x.den = n at Y2 ⊢
   by_cases hs : a.neg = b.neg
   ·obtain ⟨Z, Z1, Z2, Z3⟩ := zoc (K := K) (x := X) (y := Y) (by omega) (by omega) hK X2 Y2
    rw [<- Int.natCast_add] at Z2
    obtain ⟨q, q1, q2⟩ := zj2 (K := K) (neg := a.neg) hD Z2 D2 (by omega) (by omega) hK
    refine ⟨q, ?_, by rw [<- hs, <- zlt]; exact q2⟩
    rw [if_pos (by simpa using hs), Z1, z0d, q1, z0d]
   ·have hc := zfp (K := K) (x := X) (y := Y) (by omega) (by omega) hK X2 Y2
    rw [if_neg (by simpa using hs), hc, z0d]
    by_cases hle : n <= m
    ·obtain ⟨Z, Z1, Z2, Z3⟩ := zln (K := K) (x := X) (y := Y) (by omega) hK X2 Y2 (by omega)
     rw [<- Int.natCast_sub hle] at Z2
     obtain ⟨q, q1, q2⟩ := zj2 (K := K) (neg := a.neg) hD Z2 D2 (by omega) (by omega) hK
     refine ⟨q, ?_, by rw [<- zg1 _ _ hs hle]; exact q2⟩
     rw [if_pos (decide_eq_true (by rw [if_neg (by omega)]; split <;> omega)), Z1, z0d, q1, z0d]
    ·obtain ⟨Z, Z1, Z2, Z3⟩ := zln (K := K) (x := Y) (y := X) (by omega) hK Y2 X2 (by omega)
     rw [<- Int.natCast_sub (show m <= n by omega)] at Z2
     obtain ⟨q, q1, q2⟩ := zj2 (K := K) (neg := b.neg) hD Z2 D2 (by omega) (by omega) hK
     refine ⟨q, ?_, by rw [Int.add_comm, <- zg1 _ _ (fun e => hs e.symm) (by omega)]; exact q2⟩
     have e : decide ((if ((m : Nat) : Int) < (n : Nat) then (-1 : Int) else if ((m : Nat) : Int) = (n : Nat) then 0 else 1) >= 0) = false := by
      rw [if_pos (by omega)]; rfl
     rw [e]
     simp only [Bool.false_eq_true, if_false]
     rw [Z1, z0d, q1, z0d]
theorem zor {a : Q} {x : Rat} (ha : QV a x) : ∃ q, z6t K a = some q /\ QV q (-x) := by
 unfold z6t
 by_cases hx : x = 0
 ·subst hx
  refine ⟨a, ?_, by rw [Rat.neg_zero]; exact ha⟩
  rw [if_pos (by rw [beq_iff_eq]; have := ha.num0.2 rfl; omega)]
 ·have hx0 : a.num.length ≠ 0 := fun e => hx (ha.num0.1 e)
  refine ⟨⟨!a.neg, a.num, a.den⟩, by rw [if_neg (by rw [beq_iff_eq]; omega)], ?_, ?_, ?_⟩
  ·dsimp only
   rw [ha.1, Rat.neg_num]
   have : x.num ≠ 0 := fun e => hx (Rat.num_eq_zero.1 e)
   by_cases c : x.num < 0
   ·rw [decide_eq_true c, decide_eq_false (by omega)]; rfl
   ·rw [decide_eq_false c, decide_eq_true (by omega)]; rfl
  ·dsimp only
   rw [Rat.neg_num, Int.natAbs_neg]; exact ha.2.1
  ·dsimp only
   rw [Rat.neg_den]; exact ha.2.2
theorem zos {a b : Q} {x y : Rat} {N : Nat} (ha : QV a x) (hb : QV b y) (dx : Dl x N) (dy : Dl y N) (hN : N <= 7000000) (hK : 2000000000 < K) : ∃ q, z6w K a b = some q /\ QV q (x - y) := by
 obtain ⟨m, m1, m2⟩ := zor (K := K) hb
 obtain ⟨q, q1, q2⟩ := zoq (K := K) ha m2 dx dy.neg hN hK
 exact ⟨q, by unfold z6w; rw [m1, z0d, q1, z0d], by rw [Rat.sub_eq_add_neg]; exact q2⟩
theorem zot {a b : Q} {x y : Rat} {N : Nat} (ha : QV a x) (hb : QV b y) (dx : Dl x N) (dy : Dl y N) (hN : N <= 7000000) (hK : 2000000000 < K) : ∃ q, z6s K a b = some q /\ QV q (x * y) := by
 have la := ha.lens9 dx
 have lb := hb.lens9 dy
 have hN1 := dx.pos
 unfold z6s
 by_cases hz : x = 0 \/ y = 0
 ·refine ⟨⟨false, [], []⟩, ?_, ?_⟩
  ·rcases hz with rfl | rfl
   ·have := ha.num0.2 rfl
    rw [if_pos (by rw [beq_iff_eq]; omega)]
    rfl
   ·have := hb.num0.2 rfl
    have e : ((b.num.length : Int) == 0) = true := by rw [beq_iff_eq]; omega
    rw [e]
    by_cases c : ((a.num.length : Int) == 0) = true
    ·rw [if_pos c]; rfl
    ·rw [if_neg c]; rfl
  ·have : x * y = 0 := by rcases hz with rfl | rfl <;> simp
   rw [this]; exact QV.zero
 ·have hx0 : a.num.length ≠ 0 := fun e => hz (.inl (ha.num0.1 e))
  have hy0 : b.num.length ≠ 0 := fun e => hz (.inr (hb.num0.1 e))
  have e1 : ((a.num.length : Int) == 0) = false := by rw [beq_eq_false_iff_ne]; omega
  have e2 : ((b.num.length : Int) == 0) = false := by rw [beq_eq_false_iff_ne]; omega
  obtain ⟨wa, wa1, wa2, wa3⟩ := z91 (K := K) ha hK
  obtain ⟨wb, wb1, wb2, wb3⟩ := z91 (K := K) hb hK
  obtain ⟨X, X1, X2, X3⟩ := z9h (K := K) (x := a.num) (y := b.num) (by omega) hK ha.2.1 hb.2.1
  obtain ⟨D, D1, D2, D3⟩ := z9h (K := K) (x := wa) (y := wb) (by omega) hK wa2 wb2
  rw [<- Int.natCast_mul] at X2 D2
  have hD : x.den * y.den ≠ 0 := Nat.mul_ne_zero x.den_nz y.den_nz
  obtain ⟨q, q1, q2⟩ := zj2 (K := K) (neg := !(a.neg == b.neg)) hD X2 D2 (by omega) (by omega) hK
  refine ⟨q, ?_, ?_⟩
  ·rw [e1, e2]
   simp only [Bool.false_eq_true, if_false, z0d, tu1a, X1, wa1, wb1, D1, q1]
  ·rw [zix, <- ha.1, <- hb.1]
   exact q2
theorem zou {a b : Q} {x y : Rat} {N : Nat} (ha : QV a x) (hb : QV b y) (dx : Dl x N) (dy : Dl y N) (hN : N <= 7000000) (hK : 2000000000 < K) : ∃ q, z6r K a b = some q /\ QV q (x / y) := by
 have la := ha.lens9 dx
 have lb := hb.lens9 dy
 have hN1 := dx.pos
 unfold z6r
 by_cases hz : x = 0 \/ y = 0
 ·refine ⟨⟨false, [], []⟩, ?_, ?_⟩
  ·rcases hz with rfl | rfl
   ·have := ha.num0.2 rfl
    rw [if_pos (by rw [beq_iff_eq]; omega)]
    rfl
   ·have := hb.num0.2 rfl
    have e : ((b.num.length : Int) == 0) = true := by rw [beq_iff_eq]; omega
    rw [e]
    by_cases c : ((a.num.length : Int) == 0) = true
    ·rw [if_pos c]; rfl
    ·rw [if_neg c]; rfl
  ·have : x / y = 0 := by rcases hz with rfl | rfl <;> grind
   rw [this]; exact QV.zero
 ·have hx0 : a.num.length ≠ 0 := fun e => hz (.inl (ha.num0.1 e))
  have hy0 : b.num.length ≠ 0 := fun e => hz (.inr (hb.num0.1 e))
  have e1 : ((a.num.length : Int) == 0) = false := by rw [beq_eq_false_iff_ne]; omega
  have e2 : ((b.num.length : Int) == 0) = false := by rw [beq_eq_false_iff_ne]; omega
  obtain ⟨wa, wa1, wa2, wa3⟩ := z91 (K := K) ha hK
  obtain ⟨wb, wb1, wb2, wb3⟩ := z91 (K := K) hb hK
  obtain ⟨X, X1, X2, X3⟩ := z9h (K := K) (x := a.num) (y := wb) (by omega) hK ha.2.1 wb2
  obtain ⟨D, D1, D2, D3⟩ := z9h (K := K) (x := wa) (y := b.num) (by omega) hK wa2 hb.2.1
  rw [<- Int.natCast_mul] at X2 D2
  have hyn : y.num ≠ 0 := fun e => hz (.inr (Rat.num_eq_zero.1 e))
  have hD : x.den * y.num.natAbs ≠ 0 := Nat.mul_ne_zero x.den_nz (by omega)
  obtain ⟨q, q1, q2⟩ := zj2 (K := K) (neg := !(a.neg == b.neg)) hD X2 D2 (by omega) (by omega) hK
  refine ⟨q, ?_, ?_⟩
  ·rw [e1, e2]
   simp only [Bool.false_eq_true, if_false, z0d, tu1a, X1, wa1, wb1, D1, q1]
  ·rw [zfy x y (fun e => hz (.inr e)), <- ha.1, <- hb.1]
   exact q2
theorem zmx {a : Q} {x : Rat} (ha : QV a x) : z39 K a = some (if x = 0 then 0 else if x.num < 0 then -1 else 1) := by
 unfold z39
 by_cases hx : x = 0
 ·have := ha.num0.2 hx
  rw [if_pos (by rw [beq_iff_eq]; omega), if_pos hx]
 ·have hx0 : a.num.length ≠ 0 := fun e => hx (ha.num0.1 e)
  rw [if_neg (by rw [beq_iff_eq]; omega), if_neg hx, ha.1]
  by_cases c : x.num < 0 <;> simp [c]
end Go.Am.Tryz
/- Plain law: texts in and out of the program's rational numbers; the reference's sums and products. -/
namespace Go.Am.Tryz
open Go Go.Am Go.Proofs
variable {K : Nat}
theorem zj4 {d : zAd} (h : CanT d) : d = ⟨#[49]⟩ ↔ numT d = 1 := ⟨fun e => by rw [e, z87], fun e => z8x h z8z (by rw [e, z87])⟩
theorem ze9 (N : Nat) (h : N ≠ 0) : 1 < 10 ^ N := Nat.one_lt_pow h (by omega)
theorem zr8 {s n d : zAd} {neg many : Bool} (h : Sp s neg n many d) (h0 : ratS neg n many d = 0) : ∃ x, RTx s x /\ Dl x 2000 := by
 unfold ratS at h0
 by_cases c1 : natE n = 5 \/ (many = true /\ natE d = 5) \/ (neg = true /\ n = ⟨#[48]⟩)
 ·rw [if_pos c1] at h0; cases h0
 ·rw [if_neg c1] at h0
  by_cases c2 : natE n ≠ 0 \/ (many = true /\ natE d ≠ 0)
  ·rw [if_pos c2] at h0; cases h0
  ·rw [if_neg c2] at h0
   by_cases c3 : many = true /\ (d = ⟨#[48]⟩ \/ d = ⟨#[49]⟩ \/ Nat.gcd (numT n).toNat (numT d).toNat ≠ 1)
   ·rw [if_pos c3] at h0; cases h0
   ·have en : natE n = 0 := by
     by_cases e : natE n = 0
     ·exact e
     ·exact absurd (.inl e) c2
    obtain ⟨cn, ln⟩ := (zaa n).1 en
    have nn := z3e cn.2.1
    have hNN : numT n = ((numT n).toNat : Int) := by omega
    have hneg : neg = true -> (numT n).toNat ≠ 0 := fun e hz => c1 (.inr (.inr ⟨e, (zdb cn).1 (by omega)⟩))
    have lN := ze8 (N := 2000) cn.2.1 hNN ln
    -- the number whose parts these are
    have key : ∀ (D : Nat) (d' : zAd), CanT d' -> numT d' = D -> D ≠ 0 -> Nat.gcd (numT n).toNat D = 1 -> D < 10 ^ 2000 -> (many = true ↔ D ≠ 1) -> Sp s neg n many d' -> ∃ x, RTx s x /\ Dl x 2000 := by
     intro D d' cd hD hD0 hg hD2 hm hsp
     have m1 := zkx neg (numT n).toNat D hD0
     have m2 := zky neg (numT n).toNat D hD0
     rw [hg, Nat.div_one] at m1 m2
     have m3 : decide ((mkRat (sgn neg (numT n).toNat) D).num < 0) = neg := by
      by_cases hz : (numT n).toNat = 0
      ·have : neg = false := by
        cases hne : neg with
        | false => rfl
        | true => exact absurd hz (hneg hne)
       subst this
       rw [hz]
       have : mkRat (sgn false 0) D = 0 := by have : sgn false 0 = 0 := rfl; rw [this, Rat.zero_mkRat]
       rw [this]; rfl
      ·exact zmw neg _ D hD0 hz
     refine ⟨mkRat (sgn neg (numT n).toNat) D, ⟨n, d', cn, cd, by rw [m1]; exact hNN, by rw [m2]; exact hD, ?_⟩, Dl.mk _ hD0 lN hD2⟩
     rw [m3, m2]
     have : decide (D ≠ 1) = many := by
      cases hmm : many with
      | false => exact decide_eq_false (fun h => by rw [hmm] at hm; have := hm.2 h; cases this)
      | true => exact decide_eq_true (hm.1 hmm)
     rw [this]
     exact hsp
    cases many with
    | false =>
     refine key 1 ⟨#[49]⟩ z8z z87 (by omega) (Nat.gcd_one_right _) (ze9 2000 (by omega)) (by simp) ⟨by simpa using h.eq, h.no, h.hd⟩
    | true =>
     have ed : natE d = 0 := by
      by_cases e : natE d = 0
      ·exact e
      ·exact absurd (.inr ⟨rfl, e⟩) c2
     obtain ⟨cd, ld⟩ := (zaa d).1 ed
     have nd := z3e cd.2.1
     have hDD : numT d = ((numT d).toNat : Int) := by omega
     have d0 : d ≠ ⟨#[48]⟩ := fun e => c3 ⟨rfl, .inl e⟩
     have d1 : d ≠ ⟨#[49]⟩ := fun e => c3 ⟨rfl, .inr (.inl e)⟩
     have hg : Nat.gcd (numT n).toNat (numT d).toNat = 1 := by
      by_cases e : Nat.gcd (numT n).toNat (numT d).toNat = 1
      ·exact e
      ·exact absurd ⟨rfl, .inr (.inr e)⟩ c3
     exact key (numT d).toNat d cd hDD (fun e => d0 ((zdb cd).1 (by omega))) hg (ze8 (N := 2000) cd.2.1 hDD ld) (by
      simp only [true_iff]
      exact fun e => d1 ((zj4 cd).2 (by omega))) h
theorem RTx.size {s : zAd} {x : Rat} {N : Nat} (h : RTx s x) (dx : Dl x N) : s.size <= 2 * N + 4 := by
 obtain ⟨n, d, h1, h2, h3, h4, h5⟩ := h
 have l1 := z88 h1 h3 dx.1
 have l2 := z88 h2 h4 dx.2
 have := congrArg List.length h5.eq
 rw [z01, List.length_append, List.length_append, z01] at this
 have e1 : (if decide (x.num < 0) = true then ([45] : List Int) else []).length <= 1 := by split <;> simp
 have e2 : (if decide (x.den ≠ 1) = true then (47 :: z05 d : List Int) else []).length <= d.size + 1 := by
  split
  ·rw [List.length_cons, z01]; omega
  ·simp
 omega
theorem RTx.dl {s : zAd} {x : Rat} {N : Nat} (h : RTx s x) (hs : s.size <= N) : Dl x (N + 1) := by
 obtain ⟨n, d, h1, h2, h3, h4, h5⟩ := h
 have hsz := h5.size
 refine ⟨Nat.lt_of_lt_of_le (ze8 h1.2.1 h3 (Nat.le_trans hsz.1 hs)) (Nat.pow_le_pow_right (by omega) (by omega)), ?_⟩
 by_cases c : x.den ≠ 1
 ·exact Nat.lt_of_lt_of_le (ze8 h2.2.1 h4 (Nat.le_trans (hsz.2 (decide_eq_true c)) hs)) (Nat.pow_le_pow_right (by omega) (by omega))
 ·have : x.den = 1 := by omega
  rw [this]
  exact Nat.one_lt_pow (by omega) (by omega)
theorem RTx.pos {s : zAd} {x : Rat} (h : RTx s x) : s.size ≠ 0 := by
 obtain ⟨n, d, h1, h2, h3, h4, h5⟩ := h
 have := h5.size.1
 have := h1.1
 omega
theorem zqa {s : zAd} {x : Rat} (h : RTx s x) (hs : s.size <= 1048576) (hK : 2000000000 < K) : ∃ q, zbe K s = some q /\ QV q x := by
 obtain ⟨n, d, h1, h2, h3, h4, h5⟩ := h
 obtain ⟨s1, neg', n', d', many', c1, c2, c3, c4, c5⟩ := zbq K hs
 obtain ⟨rfl, rfl, rfl, hd⟩ := h5.uniq c3
 have hsz := h5.size
 obtain ⟨a, a1, a2, a3⟩ := za3 (K := K) (s := n) (by omega) hK h1.2.1
 rw [h3] at a2
 unfold zbe
 rw [c1, z0d, c2, z0d]
 dsimp only
 rw [a1, z0d, zfx hK, z0d]
 by_cases c : x.den ≠ 1
 ·have := hd (decide_eq_true c)
  subst this
  obtain ⟨b, b1, b2, b3⟩ := za3 (K := K) (s := d) (by have := hsz.2 (decide_eq_true c); omega) hK h2.2.1
  rw [h4] at b2
  exact ⟨⟨decide (x.num < 0), a, b⟩, by rw [decide_eq_true c, if_pos rfl, b1, z0d, z0d, tu1a], rfl, a2, .inl b2⟩
 ·have e : x.den = 1 := by omega
  exact ⟨⟨decide (x.num < 0), a, [1]⟩, by rw [decide_eq_false c]; rfl, rfl, a2, .inl (by rw [e]; exact .one (by omega) (by omega))⟩
theorem zj5 {n : zAd} (h : (z05 n).all digT = true) : (47 : Int) ∉ z05 n := fun hm => by
 have := digT_iff.1 (List.all_eq_true.1 h _ hm); omega
theorem zmy {s n d : zAd} {x : Rat} (h1 : CanT n) (h2 : CanT d) (h3 : numT n = (x.num.natAbs : Nat)) (h4 : numT d = (x.den : Nat)) (h : z05 s = (if decide (x.num < 0) then [45] else []) ++ (z05 n ++ (if decide (x.den ≠ 1) then 47 :: z05 d else []))) : RTx s x := by
 refine ⟨n, d, h1, h2, h3, h4, h, zj5 h1.2.1, fun hn => ?_⟩
 rw [h, hn]
 have hl := z01 n
 cases hb : z05 n with
 | nil => rw [hb] at hl; simp at hl; exact absurd hl.symm h1.1
 | cons c l =>
  have := digT_iff.1 (List.all_eq_true.1 h1.2.1 c (by rw [hb]; simp))
  simp only [Bool.false_eq_true, if_false, List.nil_append, List.cons_append, List.head?_cons]
  intro e; cases e; omega
theorem zov {a : Q} {x : Rat} {N : Nat} (ha : QV a x) (dx : Dl x N) (hN : N <= 8000000) (hK : 2000000000 < K) : ∃ s, z6z K a = some s /\ RTx s x := by
 have la := ha.lens9 dx
 have hN1 := dx.pos
 unfold z6z
 by_cases hx : x = 0
 ·subst hx
  have := ha.num0.2 rfl
  refine ⟨⟨#[48]⟩, by rw [if_pos (by rw [beq_iff_eq]; omega)], zmy z9i z8z z5p z87 rfl⟩
 ·have hx0 : a.num.length ≠ 0 := fun e => hx (ha.num0.1 e)
  obtain ⟨w, w1, w2, w3⟩ := z91 (K := K) ha hK
  obtain ⟨n, n1, n2, n3, n4⟩ := zij (K := K) (x := a.num) (by omega) hK ha.2.1
  obtain ⟨d, d1, d2, d3, d4⟩ := zij (K := K) (x := w) (by omega) hK w2
  rw [if_neg (by rw [beq_iff_eq]; omega), n1, z0d, ha.1]
  have hm : sEq d ⟨#[49]⟩ = decide (x.den = 1) := by
   rw [z9k]
   congr 1
   rw [zj4 d2, d3, eq_iff_iff]; omega
  have e45 : ((⟨#[45]⟩ : zAd)).size = 1 := rfl
  have e47 : ((⟨#[47]⟩ : zAd)).size = 1 := rfl
  have b45 : z05 (⟨#[45]⟩ : zAd) = [45] := rfl
  have b47 : z05 (⟨#[47]⟩ : zAd) = [47] := rfl
  obtain ⟨m, m1, m2, m3⟩ : ∃ m, (if decide (x.num < 0) = true then (if ((⟨#[45]⟩ : zAd)).size + (n).size <= 4611686018427387904 then some ((⟨#[45]⟩ : zAd) ++ n) else none) else some n) = some m /\ z05 m = (if decide (x.num < 0) = true then [45] else []) ++ z05 n /\ m.size <= n.size + 1 := by
   by_cases c : x.num < 0
   ·refine ⟨(⟨#[45]⟩ : zAd) ++ n, ?_, ?_, ?_⟩
    ·rw [decide_eq_true c, if_pos rfl, if_pos (by omega)]
    ·rw [decide_eq_true c, z0r, b45]; rfl
    ·rw [<- z01, z0r, b45, List.length_append, z01]; simp; omega
   ·exact ⟨n, by rw [decide_eq_false c]; rfl, by rw [decide_eq_false c]; rfl, by omega⟩
  rw [m1, z0d, tu1a, w1, z0d, d1, z0d, hm]
  by_cases c : x.den = 1
  ·refine ⟨m, by rw [decide_eq_true c]; rfl, zmy n2 d2 n3 d3 ?_⟩
   have hdd : decide (x.den ≠ 1) = false := decide_eq_false (fun h => h c)
   rw [m2, hdd]; simp
  ·have hsd : ((⟨#[47]⟩ : zAd) ++ d).size = d.size + 1 := by rw [<- z01, z0r, b47, List.length_append, z01]; simp; omega
   refine ⟨m ++ ((⟨#[47]⟩ : zAd) ++ d), ?_, zmy n2 d2 n3 d3 ?_⟩
   ·rw [decide_eq_false c]
    simp only [Bool.not_false, if_true]
    rw [if_pos (by omega), if_pos (by omega), z0d, tu1a]
   ·have hdd : decide (x.den ≠ 1) = true := decide_eq_true c
    rw [z0r, z0r, m2, b47, hdd]; simp
theorem zg2 {l : List Int} {n : Nat} (hl : l.length <= 1000000) (hK : 2000000000 < K) (h : NumN n l) : ∃ k : Nat, z3a K l = some (k : Int) /\ (k <= 2000 ↔ n < 10 ^ 2000) := by
 obtain ⟨t, t1, t2, t3, t4⟩ := zij hl hK h
 refine ⟨t.size, by unfold z3a; rw [t1, z0d], fun h => ze8 (N := 2000) t2.2.1 t3 h, fun h => ?_⟩
 refine Nat.not_lt.1 fun hlt => ?_
 have g1 := zc9 t2 (by omega)
 rw [t3] at g1
 have g2 : (10 : Int) ^ 2000 <= 10 ^ (t.size - 1) := z7j (by omega) (by omega)
 have g3 := z7e 2000
 have g4 : (n : Int) < ((10 ^ 2000 : Nat) : Int) := Int.ofNat_lt.2 h
 rw [g3] at g4
 exact absurd (Int.lt_of_lt_of_le g4 (Int.le_trans g2 g1)) (Int.lt_irrefl _)
theorem zow {a : Q} {x : Rat} {N : Nat} (ha : QV a x) (dx : Dl x N) (hN : N <= 8000000) (hK : 2000000000 < K) : (Dl x 2000 -> z6y K a = some 0) /\ (¬ Dl x 2000 -> z6y K a = some 2) := by
 have la := ha.lens9 dx
 obtain ⟨k, k1, k2⟩ := zg2 (K := K) (l := a.num) (by omega) hK ha.2.1
 obtain ⟨m, m1, m2⟩ : ∃ m : Nat, z3a K a.den = some (m : Int) /\ (m <= 2000 ↔ x.den < 10 ^ 2000) := by
  rcases ha.2.2 with h | ⟨h, h2⟩
  ·exact zg2 (by omega) hK h
  ·refine ⟨1, ?_, ?_⟩
   ·rw [h]; rfl
   ·rw [h2]; exact ⟨fun _ => ze9 2000 (by omega), fun _ => by decide⟩
 unfold z6y
 rw [k1, m1]
 by_cases c1 : k <= 2000
 ·by_cases c2 : m <= 2000
  ·have hd : Dl x 2000 := ⟨k2.1 c1, m2.1 c2⟩
   refine ⟨fun _ => ?_, fun h => absurd hd h⟩
   have e1 : decide ((k : Int) > 2000) = false := decide_eq_false (by omega)
   have e2 : decide ((m : Int) > 2000) = false := decide_eq_false (by omega)
   rw [z0d, e1]
   simp only [Bool.false_eq_true, if_false, z0d, e2, tu1a]
  ·refine ⟨fun h => absurd (m2.2 h.2) c2, fun _ => ?_⟩
   have e1 : decide ((k : Int) > 2000) = false := decide_eq_false (by omega)
   have e2 : decide ((m : Int) > 2000) = true := decide_eq_true (by omega)
   rw [z0d, e1]
   simp only [Bool.false_eq_true, if_false, z0d, e2, tu1a, if_true]
 ·refine ⟨fun h => absurd (k2.2 h.1) c1, fun _ => ?_⟩
  have e1 : decide ((k : Int) > 2000) = true := decide_eq_true (by omega)
  rw [z0d, e1]
  simp only [z0d, tu1a, if_true]
theorem z9z {neg : Bool} {n d : zAd} {N D : Nat} (hD : D ≠ 0) (cn : CanT n) (cd : CanT d) (hn : numT n = N) (hd : numT d = D) (ln : n.size <= 400000) (ld : d.size <= 400000) (hK : 2000000000 < K) :
  ∃ s, z5o K neg n d = some s /\ RTx s (mkRat (sgn neg N) D) := by
 unfold z5o
 by_cases h0 : N = 0
 ·subst h0
  have : n = ⟨#[48]⟩ := (zdb cn).1 (by omega)
  subst this
  have e : mkRat (sgn neg 0) D = 0 := by
   have : sgn neg 0 = 0 := by cases neg <;> rfl
   rw [this, Rat.zero_mkRat]
  refine ⟨⟨#[48]⟩, by rw [ziv]; rfl, ?_⟩
  rw [e]
  exact zmy z9i z8z z5p z87 rfl
 ·have e0 : sEq n ⟨#[48]⟩ = false := zq8 (fun e => by rw [e, z5p] at hn; omega)
  obtain ⟨g, g1, g2, g3⟩ := zls (K := K) (x := n) (y := d) ln ld hK cn cd hn hd
  have gp : 0 < Nat.gcd N D := Nat.gcd_pos_of_pos_left D (by omega)
  have gl := z3u cn g2 (by rw [g3, hn]; have := Nat.gcd_le_left (m := N) D (by omega); omega)
  obtain ⟨q1, r1, a1, a2, a3, a4, a5⟩ := zfv (K := K) (a := n) (b := g) ln (by omega) hK cn g2 (by omega)
  obtain ⟨q2, r2, b1, b2, b3, b4, b5⟩ := zfv (K := K) (a := d) (b := g) ld (by omega) hK cd g2 (by omega)
  rw [hn, g3] at a4
  rw [hd, g3] at b4
  have m1 := zkx neg N D hD
  have m2 := zky neg N D hD
  have m3 := zmw neg N D hD h0
  have f1 : numT q1 = ((mkRat (sgn neg N) D).num.natAbs : Nat) := by rw [m1, a4]; simp
  have f2 : numT q2 = ((mkRat (sgn neg N) D).den : Nat) := by rw [m2, b4]; simp
  generalize mkRat (sgn neg N) D = x at *
  rw [e0]
  simp only [Bool.false_eq_true, if_false]
  rw [g1, z0d, a1, z0d, b1, z0d]
  have hm : sEq q2 ⟨#[49]⟩ = decide (x.den = 1) := by
   rw [z9k]
   congr 1
   rw [zj4 b2, f2, eq_iff_iff]; omega
  have l1 := z3u cn a2 (by rw [a4, hn]; exact Int.ediv_le_self _ (by omega))
  have l2 := z3u cd b2 (by rw [b4, hd]; exact Int.ediv_le_self _ (by omega))
  have e45 : ((⟨#[45]⟩ : zAd)).size = 1 := rfl
  have e47 : ((⟨#[47]⟩ : zAd)).size = 1 := rfl
  have b45 : z05 (⟨#[45]⟩ : zAd) = [45] := rfl
  have b47 : z05 (⟨#[47]⟩ : zAd) = [47] := rfl
  obtain ⟨m, k1, k2, k3⟩ : ∃ m, (if neg = true then (if ((⟨#[45]⟩ : zAd)).size + (q1).size <= 4611686018427387904 then some ((⟨#[45]⟩ : zAd) ++ q1) else none) else some q1) = some m /\ z05 m = (if decide (x.num < 0) = true then [45] else []) ++ z05 q1 /\ m.size <= q1.size + 1 := by
   rw [m3]
   cases neg with
   | true =>
    refine ⟨(⟨#[45]⟩ : zAd) ++ q1, ?_, ?_, ?_⟩
    ·rw [if_pos rfl, if_pos (by omega)]
    ·rw [z0r, b45]; rfl
    ·rw [<- z01, z0r, b45, List.length_append, z01]; simp; omega
   | false => exact ⟨q1, rfl, rfl, by omega⟩
  dsimp only
  rw [k1, z0d, tu1a, hm]
  by_cases c : x.den = 1
  ·refine ⟨m, by rw [decide_eq_true c]; rfl, zmy a2 b2 f1 f2 ?_⟩
   have hdd : decide (x.den ≠ 1) = false := decide_eq_false (fun h => h c)
   rw [k2, hdd]; simp
  ·have hsm : (m ++ (⟨#[47]⟩ : zAd)).size = m.size + 1 := by rw [<- z01, z0r, b47, List.length_append, z01]; simp
   refine ⟨(m ++ (⟨#[47]⟩ : zAd)) ++ q2, ?_, zmy a2 b2 f1 f2 ?_⟩
   ·rw [decide_eq_false c]
    simp only [Bool.false_eq_true, if_false]
    rw [if_pos (by omega), if_pos (by omega)]
   ·have hdd : decide (x.den ≠ 1) = true := decide_eq_true c
    rw [z0r, z0r, k2, b47, hdd]; simp
theorem z7f {a : zAd} {x : Rat} {N : Nat} (h : RTx a x) (dx : Dl x N) (hN : N <= 100000) (hK : 2000000000 < K) : ∃ n d, z45 K a = some (decide (x.num < 0), n, d) /\ CanT n /\ CanT d /\ numT n = (x.num.natAbs : Nat) /\ numT d = (x.den : Nat) /\ n.size <= N + 1 /\ d.size <= N + 1 := by
 have hs := h.size dx
 have h0 := h.pos
 obtain ⟨n, d, h1, h2, h3, h4, h5⟩ := h
 have hp := zl2 (K := K) (by omega) h0 hK h5
 have l1 := z88 h1 h3 dx.1
 have l2 := z88 h2 h4 dx.2
 by_cases c : x.den ≠ 1
 ·rw [decide_eq_true c] at hp
  exact ⟨n, d, hp, h1, h2, h3, h4, l1, l2⟩
 ·rw [decide_eq_false c] at hp
  have e : x.den = 1 := by omega
  exact ⟨n, ⟨#[49]⟩, hp, h1, z8z, h3, by rw [e]; rfl, l1, by show 1 <= N + 1; omega⟩
theorem zox {a b : zAd} {x y : Rat} {N : Nat} (ha : RTx a x) (hb : RTx b y) (dx : Dl x N) (dy : Dl y N) (hN : N <= 100000) (hK : 2000000000 < K) : ∃ c, z84 K a b = some c /\ RTx c (x + y) := by
 obtain ⟨n, d, p1, p2, p3, p4, p5, p6, p7⟩ := z7f (K := K) ha dx hN hK
 obtain ⟨m, e, q1, q2, q3, q4, q5, q6, q7⟩ := z7f (K := K) hb dy hN hK
 obtain ⟨X, X1, X2, X3⟩ := zbp (K := K) (a := n) (b := e) (by omega) (by omega) hK p2.2.1 q3.2.1
 obtain ⟨Y, Y1, Y2, Y3⟩ := zbp (K := K) (a := m) (b := d) (by omega) (by omega) hK q2.2.1 p3.2.1
 obtain ⟨D, D1, D2, D3⟩ := zbp (K := K) (a := d) (b := e) (by omega) (by omega) hK p3.2.1 q3.2.1
 rw [p4, q5, <- Int.natCast_mul] at X3
 rw [q4, p5, <- Int.natCast_mul] at Y3
 rw [p5, q5, <- Int.natCast_mul] at D3
 have hD : x.den * y.den ≠ 0 := Nat.mul_ne_zero x.den_nz y.den_nz
 have lX := z88 X2 X3 (z2p dx.1 dy.2)
 have lY := z88 Y2 Y3 (z2p dy.1 dx.2)
 have lD := z88 D2 D3 (z2p dx.2 dy.2)
 unfold z84
 rw [p1, z0d, q1, z0d]
 dsimp only
 rw [X1, z0d, Y1, z0d, D1, z0d, zj3]
 generalize x.num.natAbs * y.den = u at X3 ⊢
 generalize y.num.natAbs * x.den = v at Y3 ⊢
 generalize decide (x.num < 0) = p
 generalize decide (y.num < 0) = q
 by_cases hs : p = q
 ·obtain ⟨Z, Z1, Z2, Z3⟩ := zof (K := K) (a := X) (b := Y) (by omega) (by omega) (by have := X2.1; omega) (by omega) X2.2.1 Y2.2.1
  rw [X3, Y3, <- Int.natCast_add] at Z3
  have lZ : Z.size <= 400000 := by
   refine Nat.not_lt.1 fun hlt => ?_
   have g1 := zc9 Z2 (by omega)
   have g2 := zbn X2.2.1
   have g3 := zbn Y2.2.1
   have g4 : (10 : Int) ^ X.size <= 10 ^ (Z.size - 2) := z7j (by omega) (by omega)
   have g5 : (10 : Int) ^ Y.size <= 10 ^ (Z.size - 2) := z7j (by omega) (by omega)
   have g6 : (10 : Int) ^ (Z.size - 1) = 10 ^ (Z.size - 2) * 10 := by rw [<- Int.pow_succ]; congr 1; omega
   rw [X3] at g2
   rw [Y3] at g3
   have g7 : (0 : Int) < 10 ^ (Z.size - 2) := Int.pow_pos (by omega)
   generalize (10 : Int) ^ (Z.size - 2) = P at *
   omega
  obtain ⟨s, s1, s2⟩ := z9z (K := K) (neg := p) (n := Z) (d := D) hD Z2 D2 Z3 D3 lZ (by omega) hK
  refine ⟨s, ?_, by rw [<- hs, <- zlt]; exact s2⟩
  rw [if_pos (by simpa using hs), Z1, z0d, s1, z0d]
 ·have hc := zlp (K := K) X2 Y2
  rw [if_neg (by simpa using hs), hc, z0d, X3, Y3]
  by_cases hle : v <= u
  ·obtain ⟨Z, Z1, Z2, Z3⟩ := zim (K := K) (a := X) (b := Y) (by omega) (z3u X2 Y2 (by omega)) (by have := X2.1; omega) (by omega) X2.2.1 Y2.2.1 (by omega)
   rw [X3, Y3, <- Int.natCast_sub hle] at Z3
   have lZ := z3u X2 Z2 (by omega)
   obtain ⟨s, s1, s2⟩ := z9z (K := K) (neg := p) (n := Z) (d := D) hD Z2 D2 Z3 D3 (by omega) (by omega) hK
   refine ⟨s, ?_, by rw [<- zg1 _ _ hs hle]; exact s2⟩
   have e : decide ((if ((u : Nat) : Int) < (v : Nat) then (-1 : Int) else if ((u : Nat) : Int) = (v : Nat) then 0 else 1) < 0) = false := by
    rw [if_neg (by omega)]; split <;> rfl
   rw [e]
   simp only [Bool.false_eq_true, if_false, z0d, tu3a, Z1, s1]
  ·obtain ⟨Z, Z1, Z2, Z3⟩ := zim (K := K) (a := Y) (b := X) (by omega) (z3u Y2 X2 (by omega)) (by have := Y2.1; omega) (by omega) Y2.2.1 X2.2.1 (by omega)
   rw [X3, Y3, <- Int.natCast_sub (show u <= v by omega)] at Z3
   have lZ := z3u Y2 Z2 (by omega)
   obtain ⟨s, s1, s2⟩ := z9z (K := K) (neg := q) (n := Z) (d := D) hD Z2 D2 Z3 D3 (by omega) (by omega) hK
   refine ⟨s, ?_, by rw [Int.add_comm, <- zg1 _ _ (fun e => hs e.symm) (by omega)]; exact s2⟩
   have e : decide ((if ((u : Nat) : Int) < (v : Nat) then (-1 : Int) else if ((u : Nat) : Int) = (v : Nat) then 0 else 1) < 0) = true := by
    rw [if_pos (by omega)]; rfl
   rw [e]
   simp only [if_true, z0d, tu3a, Z1, s1]
theorem zlv {a b : zAd} {x y : Rat} {N : Nat} (ha : RTx a x) (hb : RTx b y) (dx : Dl x N) (dy : Dl y N) (hN : N <= 100000) (hK : 2000000000 < K) : ∃ c, z5e K a b = some c /\ RTx c (x * y) := by
 obtain ⟨n, d, p1, p2, p3, p4, p5, p6, p7⟩ := z7f (K := K) ha dx hN hK
 obtain ⟨m, e, q1, q2, q3, q4, q5, q6, q7⟩ := z7f (K := K) hb dy hN hK
 obtain ⟨X, X1, X2, X3⟩ := zbp (K := K) (a := n) (b := m) (by omega) (by omega) hK p2.2.1 q2.2.1
 obtain ⟨D, D1, D2, D3⟩ := zbp (K := K) (a := d) (b := e) (by omega) (by omega) hK p3.2.1 q3.2.1
 rw [p4, q4, <- Int.natCast_mul] at X3
 rw [p5, q5, <- Int.natCast_mul] at D3
 have hD : x.den * y.den ≠ 0 := Nat.mul_ne_zero x.den_nz y.den_nz
 have lX := z88 X2 X3 (z2p dx.1 dy.1)
 have lD := z88 D2 D3 (z2p dx.2 dy.2)
 obtain ⟨s, s1, s2⟩ := z9z (K := K) (neg := !(decide (x.num < 0) == decide (y.num < 0))) (n := X) (d := D) hD X2 D2 X3 D3 (by omega) (by omega) hK
 refine ⟨s, ?_, by rw [zix]; exact s2⟩
 unfold z5e
 rw [p1, z0d, q1, z0d]
 dsimp only
 rw [X1, z0d, D1, z0d, s1, z0d]
theorem zj6 {a b : zAd} {x y : Rat} {N : Nat} (ha : RTx a x) (hb : RTx b y) (dx : Dl x N) (dy : Dl y N) (hy : y ≠ 0) (hN : N <= 100000) (hK : 2000000000 < K) : ∃ c, z74 K a b = some c /\ RTx c (x / y) := by
 obtain ⟨n, d, p1, p2, p3, p4, p5, p6, p7⟩ := z7f (K := K) ha dx hN hK
 obtain ⟨m, e, q1, q2, q3, q4, q5, q6, q7⟩ := z7f (K := K) hb dy hN hK
 obtain ⟨X, X1, X2, X3⟩ := zbp (K := K) (a := n) (b := e) (by omega) (by omega) hK p2.2.1 q3.2.1
 obtain ⟨D, D1, D2, D3⟩ := zbp (K := K) (a := d) (b := m) (by omega) (by omega) hK p3.2.1 q2.2.1
 rw [p4, q5, <- Int.natCast_mul] at X3
 rw [p5, q4, <- Int.natCast_mul] at D3
 have hyn : y.num ≠ 0 := fun e => hy (Rat.num_eq_zero.1 e)
 have hD : x.den * y.num.natAbs ≠ 0 := Nat.mul_ne_zero x.den_nz (by omega)
 have lX := z88 X2 X3 (z2p dx.1 dy.2)
 have lD := z88 D2 D3 (z2p dx.2 dy.1)
 obtain ⟨s, s1, s2⟩ := z9z (K := K) (neg := !(decide (x.num < 0) == decide (y.num < 0))) (n := X) (d := D) hD X2 D2 X3 D3 (by omega) (by omega) hK
 refine ⟨s, ?_, by rw [zfy x y hy]; exact s2⟩
 unfold z74
 rw [p1, z0d, q1, z0d]
 dsimp only
 rw [X1, z0d, D1, z0d, s1, z0d]
theorem zoy {a : zAd} {x : Rat} {N : Nat} (ha : RTx a x) (dx : Dl x N) (hN : N <= 100000) (hK : 2000000000 < K) : ∃ c, z82 K a = some c /\ RTx c (-x) := by
 obtain ⟨n, d, p1, p2, p3, p4, p5, p6, p7⟩ := z7f (K := K) ha dx hN hK
 obtain ⟨s, s1, s2⟩ := z9z (K := K) (neg := !decide (x.num < 0)) (n := n) (d := d) x.den_nz p2 p3 p4 p5 (by omega) (by omega) hK
 refine ⟨s, by unfold z82; rw [p1, z0d, s1, z0d], ?_⟩
 have e : mkRat (sgn (!decide (x.num < 0)) x.num.natAbs) x.den = -x := by
  have e1 : sgn (!decide (x.num < 0)) x.num.natAbs = -x.num := by
   unfold sgn; by_cases h : x.num < 0 <;> simp [h] <;> omega
  rw [e1, <- Rat.neg_mkRat, Rat.mkRat_self]
 rw [<- e]; exact s2
theorem zlw {a b : zAd} {x y : Rat} {N : Nat} (ha : RTx a x) (hb : RTx b y) (dx : Dl x N) (dy : Dl y N) (hN : N <= 100000) (hK : 2000000000 < K) : ∃ c, z5f K a b = some c /\ RTx c (x - y) := by
 obtain ⟨m, m1, m2⟩ := zoy (K := K) hb dy hN hK
 obtain ⟨c, c1, c2⟩ := zox (K := K) ha m2 dx dy.neg hN hK
 exact ⟨c, by unfold z5f; rw [m1, z0d, c1, z0d], by rw [Rat.sub_eq_add_neg]; exact c2⟩
end Go.Am.Tryz
/- Plain law: errors of lists; operations on two texts. -/
namespace Go.Am.Tryz
open Go Go.Am Go.Proofs
variable {K : Nat}
noncomputable def ratE (s : zAd) : Int := @dite Int (∃ e, ∃ neg n many d, Sp s neg n many d /\ ratS neg n many d = e) (Classical.propDecidable _) (fun h => h.choose) fun _ => 0
theorem zj7 {s n d : zAd} {neg many : Bool} (h : Sp s neg n many d) : ratE s = ratS neg n many d := by
 have hex : ∃ e, ∃ neg n many d, Sp s neg n many d /\ ratS neg n many d = e := ⟨_, _, _, _, _, h, rfl⟩
 unfold ratE
 rw [dif_pos hex]
 obtain ⟨neg', n', many', d', h1, h2⟩ := hex.choose_spec
 rw [<- h2]
 obtain ⟨rfl, rfl, rfl, h3⟩ := h.uniq h1
 cases many with
 | true => rw [h3 rfl]
 | false => unfold ratS; simp
theorem zgq {s : zAd} (hs : s.size <= 1048576) (hK : 2000000000 < K) : z5v K s = some (ratE s) := by
 obtain ⟨s1, neg, n, d, many, _, _, h, _⟩ := zbq K hs
 rw [zj7 h]; exact zkz hs hK h
theorem zl3 {s : zAd} (hs : s.size <= 1048576) (hK : 2000000000 < K) : z50 K s = some (ratE s) := by
 obtain ⟨s1, neg, n, d, many, _, _, h, _⟩ := zbq K hs
 rw [zj7 h]; exact zl1 hs hK h
theorem zl4 {s : zAd} (hs : s.size <= 1048576) (h : ratE s = 0) : ∃ x, RTx s x /\ Dl x 2000 := by
 obtain ⟨s1, neg, n, d, many, _, _, hp, _⟩ := zbq 0 hs
 rw [zj7 hp] at h
 exact zr8 hp h
noncomputable def z7g : List zAd -> Int
 | [] => 0
 | s :: l => if ratE s ≠ 0 then ratE s else z7g l
theorem zcb : ∀ {l : List zAd}, z7g l = 0 -> ∀ s ∈ l, ratE s = 0
 | [], _, s, hs => by simp at hs
 | t :: l, h, s, hs => by
  rw [z7g] at h
  by_cases c : ratE t = 0
  ·rw [if_neg (by simpa using c)] at h
   rcases List.mem_cons.1 hs with rfl | hs
   ·exact c
   ·exact zcb h s hs
  ·rw [if_pos c] at h; exact absurd h c
theorem zcc {l : List zAd} {i : Nat} (h : i < l.length) : z7g (l.drop i) = if ratE l[i] ≠ 0 then ratE l[i] else z7g (l.drop (i + 1)) := by
 rw [List.drop_eq_getElem_cons h, z7g]
theorem zgr {l : List zAd} (hl : l.length <= 1048576) (hs : ∀ s ∈ l, s.size <= 1048576) (hK : 2000000000 < K) : z4m K l = some (z7g l) := by
 have key : ∃ r : Int ⊕ Unit, z13 K l K 0 = some r /\ ((r = .inr () /\ z7g l = 0) \/ r = .inl (z7g l)) := by
  refine z8f (fun k (s : Int) => z13 K l k s) (fun s => ∃ i : Nat, s = i /\ i <= l.length /\ z7g l = z7g (l.drop i)) (fun s => (l.length - s : Int).toNat) _ ?_ (0 : Int) (by omega) ⟨0, rfl, by omega, by simp⟩
  rintro k _ ⟨i, rfl, h0, h1⟩
  by_cases hi : i < l.length
  ·have hx : idx l (i : Int) = some l[i] := z3v (zAh hi)
   have hc := zgq (K := K) (s := l[i]) (hs _ (List.getElem_mem hi)) hK
   rw [zcc hi] at h1
   by_cases c : ratE l[i] = 0
   ·right
    rw [if_neg (by simpa using c)] at h1
    refine ⟨(i : Int) + 1, ?_, by omega, i + 1, rfl, by omega, h1⟩
    rw [z13, if_pos (decide_eq_true (by omega)), hx, z0d, hc, z0d, if_neg (by simpa using c), k64 (by omega) (by omega)]
   ·left
    rw [if_pos c] at h1
    refine ⟨.inl (ratE l[i]), ?_, .inr (by rw [h1])⟩
    rw [z13, if_pos (decide_eq_true (by omega)), hx, z0d, hc, z0d, if_pos (by simpa using c)]
  ·left
   have : i = l.length := by omega
   subst this
   rw [List.drop_eq_nil_of_le (Nat.le_refl _)] at h1
   exact ⟨.inr (), by rw [z13, if_neg (by simp)], .inl ⟨rfl, h1⟩⟩
 obtain ⟨r, h1, h2⟩ := key
 unfold z4m
 rw [h1]
 rcases h2 with ⟨rfl, h2⟩ | rfl
 ·rw [zid, tu0a, h2]
 ·rw [zic, tu1a]
theorem zl5 {l : List zAd} (hl : l.length <= 1048576) (hs : ∀ s ∈ l, s.size <= 1048576) (hK : 2000000000 < K) : z5d K l = some (z7g l) := by
 have key : ∃ r : Int ⊕ Unit, z1c K l K 0 = some r /\ ((r = .inr () /\ z7g l = 0) \/ r = .inl (z7g l)) := by
  refine z8f (fun k (s : Int) => z1c K l k s) (fun s => ∃ i : Nat, s = i /\ i <= l.length /\ z7g l = z7g (l.drop i)) (fun s => (l.length - s : Int).toNat) _ ?_ (0 : Int) (by omega) ⟨0, rfl, by omega, by simp⟩
  rintro k _ ⟨i, rfl, h0, h1⟩
  by_cases hi : i < l.length
  ·have hx : idx l (i : Int) = some l[i] := z3v (zAh hi)
   have hc := zl3 (K := K) (s := l[i]) (hs _ (List.getElem_mem hi)) hK
   rw [zcc hi] at h1
   by_cases c : ratE l[i] = 0
   ·right
    rw [if_neg (by simpa using c)] at h1
    refine ⟨(i : Int) + 1, ?_, by omega, i + 1, rfl, by omega, h1⟩
    rw [z1c, if_pos (decide_eq_true (by omega)), hx, z0d, hc, z0d, if_neg (by simpa using c), k64 (by omega) (by omega)]
   ·left
    rw [if_pos c] at h1
    refine ⟨.inl (ratE l[i]), ?_, .inr (by rw [h1])⟩
    rw [z1c, if_pos (decide_eq_true (by omega)), hx, z0d, hc, z0d, if_pos (by simpa using c)]
  ·left
   have : i = l.length := by omega
   subst this
   rw [List.drop_eq_nil_of_le (Nat.le_refl _)] at h1
   exact ⟨.inr (), by rw [z1c, if_neg (by simp)], .inl ⟨rfl, h1⟩⟩
 obtain ⟨r, h1, h2⟩ := key
 unfold z5d
 rw [h1]
 rcases h2 with ⟨rfl, h2⟩ | rfl
 ·rw [zid, tu0a, h2]
 ·rw [zic, tu1a]
theorem RTx.zero_iff {s : zAd} {x : Rat} (h : RTx s x) : s = ⟨#[48]⟩ ↔ x = 0 := by
 have hz : RTx ⟨#[48]⟩ 0 := zmy z9i z8z z5p z87 rfl
 constructor
 ·rintro rfl; exact h.val hz
 ·rintro rfl; exact h.inj hz
end Go.Am.Tryz
/- Plain law: whole numbers and their texts. -/
namespace Go.Am.Tryz
open Go Go.Am Go.Proofs
variable {K : Nat}
end Go.Am.Tryz
/- Plain law: comparisons of rational numbers. -/
namespace Go.Am.Tryz
open Go Go.Am Go.Proofs
variable {K : Nat}
def RTs (l : List zAd) (f : Nat -> Rat) : Prop := ∀ i (h : i < l.length), RTx l[i] (f i)
theorem zqb {l : List zAd} (hs : ∀ s ∈ l, s.size <= 1048576) (h0 : z7g l = 0) : ∃ f, RTs l f /\ ∀ i, i < l.length -> Dl (f i) 2000 := by
 classical
 have hz := zcb h0
 have hex : ∀ i (h : i < l.length), ∃ x, RTx l[i] x /\ Dl x 2000 := fun i h => zl4 (hs _ (List.getElem_mem h)) (hz _ (List.getElem_mem h))
 refine ⟨fun i => if h : i < l.length then (hex i h).choose else 0, fun i h => ?_, fun i h => ?_⟩
 ·dsimp only; rw [dif_pos h]; exact (hex i h).choose_spec.1
 ·dsimp only; rw [dif_pos h]; exact (hex i h).choose_spec.2
end Go.Am.Tryz
/- Plain law: vectors and matrices of rational texts: their checks, their numbers, products and sums. -/
namespace Go.Am.Tryz
open Go Go.Am Go.Proofs
variable {K : Nat}
def resF {R : Type} : Option R -> R ⊕ Unit
 | some r => .inl r
 | none => .inr ()
theorem za0 {α R : Type} {l : List α} {L : Nat -> Int -> Option (R ⊕ Unit)} (p : α -> Option R) (h0 : ∀ k, L (k + 1) (l.length : Int) = some (.inr ()))
  (h1 : ∀ k i (hi : i < l.length), L (k + 1) (i : Int) = match p l[i] with | some r => some (.inl r) | none => L k ((i + 1 : Nat) : Int)) (hK : l.length < K) :
  L K 0 = some (resF (l.findSome? p)) := by
 have key : ∀ n i k, i + n = l.length -> n < k -> L k (i : Int) = some (resF ((l.drop i).findSome? p)) := by
  intro n
  induction n with
  | zero =>
   intro i k hi hk
   obtain ⟨k, rfl⟩ : ∃ m, k = m + 1 := ⟨k - 1, by omega⟩
   obtain rfl : i = l.length := by omega
   rw [h0, List.drop_length]
   rfl
  | succ n ih =>
   intro i k hi hk
   obtain ⟨k, rfl⟩ : ∃ m, k = m + 1 := ⟨k - 1, by omega⟩
   rw [h1 k i (by omega), List.drop_eq_getElem_cons (by omega), List.findSome?_cons]
   cases hp : p l[i] with
   | some r => rfl
   | none => exact ih (i + 1) k (by omega) (by omega)
 have := key l.length 0 K (by omega) hK
 simpa using this
def Fam {α : Type} (P : Nat -> α -> Prop) (n : Nat) (l : List α) : Prop := l.length = n /\ ∀ j (h : j < l.length), P j l[j]
theorem Fam.nil {α : Type} {P : Nat -> α -> Prop} : Fam P 0 [] := ⟨rfl, fun j h => by simp at h⟩
theorem Fam.snoc {α : Type} {P : Nat -> α -> Prop} {n : Nat} {l : List α} {y : α} (h : Fam P n l) (hy : P n y) : Fam P (n + 1) (l ++ [y]) := by
 refine ⟨by simp [h.1], fun j hj => ?_⟩
 by_cases c : j < l.length
 ·rw [List.getElem_append_left c]; exact h.2 j c
 ·have : j = l.length := by simp at hj; omega
  subst this
  rw [List.getElem_append_right (by omega)]
  simp only [Nat.sub_self, List.getElem_cons_zero]
  rw [h.1]; exact hy
theorem Fam.idx {α : Type} {P : Nat -> α -> Prop} {n j : Nat} {l : List α} (h : Fam P n l) (hj : j < n) : ∃ y, idx l (j : Int) = some y /\ P j y := by
 have hl : j < l.length := by rw [h.1]; exact hj
 exact ⟨l[j], z3v (zAh hl), h.2 j hl⟩
theorem Fam.mono {α : Type} {P Q : Nat -> α -> Prop} {n : Nat} {l : List α} (h : Fam P n l) (hPQ : ∀ j y, j < n -> P j y -> Q j y) : Fam Q n l :=
 ⟨h.1, fun j hj => hPQ j _ (by rw [<- h.1]; exact hj) (h.2 j hj)⟩
theorem Fam.uniq {α : Type} {P : Nat -> α -> Prop} {n : Nat} {l m : List α} (hu : ∀ j x y, P j x -> P j y -> x = y) (h : Fam P n l) (k : Fam P n m) : l = m :=
 List.ext_getElem (by rw [h.1, k.1]) fun j h1 h2 => hu j _ _ (h.2 j h1) (k.2 j h2)
theorem z8i {β R : Type} (n : Nat) (L : Nat -> List β -> Int -> Option R) (P : Nat -> β -> Prop) (Q : R -> Prop) (hn : n < K)
  (hend : ∀ k acc, Fam P n acc -> ∃ r, L (k + 1) acc (n : Int) = some r /\ Q r)
  (hstep : ∀ k i acc, i < n -> Fam P i acc -> (∃ r, L (k + 1) acc (i : Int) = some r /\ Q r) \/ ∃ y, P i y /\ L (k + 1) acc (i : Int) = L k (acc ++ [y]) ((i + 1 : Nat) : Int)) :
  ∃ r, L K [] 0 = some r /\ Q r := by
 have key : ∀ m i k acc, i + m = n -> m < k -> Fam P i acc -> ∃ r, L k acc (i : Int) = some r /\ Q r := by
  intro m
  induction m with
  | zero =>
   intro i k acc hi hk ha
   obtain ⟨k, rfl⟩ : ∃ m, k = m + 1 := ⟨k - 1, by omega⟩
   obtain rfl : i = n := by omega
   exact hend k acc ha
  | succ m ih =>
   intro i k acc hi hk ha
   obtain ⟨k, rfl⟩ : ∃ m, k = m + 1 := ⟨k - 1, by omega⟩
   rcases hstep k i acc (by omega) ha with h | ⟨y, hy, h⟩
   ·exact h
   ·rw [h]; exact ih (i + 1) k _ (by omega) (by omega) (ha.snoc hy)
 exact key n 0 K [] (by omega) hn .nil
theorem k1 {i : Nat} (h : i <= 1048576) : z03 .i64 ((i : Int) + 1) = ((i + 1 : Nat) : Int) := by rw [k64 (by omega) (by omega)]; omega
theorem lt_d {i n : Nat} (h : i < n) : decide ((i : Int) < (n : Int)) = true := decide_eq_true (by omega)
theorem zr9 {n : Nat} : decide ((n : Int) < (n : Int)) = false := decide_eq_false (by omega)
noncomputable def vecE (l : List zAd) : Int := if l.length > 40 then 2 else z7g l
theorem zl6 {n : Nat} {α : Type} (a b : α) : (if decide ((n : Int) > 40) = true then a else b) = if n > 40 then a else b := by
 by_cases h : n > 40
 ·rw [if_pos h, if_pos (decide_eq_true (by omega))]
 ·rw [if_neg h, if_neg (by simp; omega)]
theorem z8j {l : List zAd} (hl : l.length <= 1048576) (hs : ∀ s ∈ l, s.size <= 1048576) (hK : 2000000000 < K) : z2h K l = some (vecE l) := by
 unfold z2h vecE
 rw [zl6, zgr hl hs hK, z0d]
 split <;> rfl
theorem z9l {l : List zAd} (hl : l.length <= 1048576) (hs : ∀ s ∈ l, s.size <= 1048576) (hK : 2000000000 < K) : z51 K l = some (vecE l) := by
 unfold z51 vecE
 rw [zl6, zl5 hl hs hK, z0d]
 split <;> rfl
theorem zg3 {l : List zAd} (h : vecE l = 0) : l.length <= 40 /\ z7g l = 0 := by
 unfold vecE at h
 split at h
 ·cases h
 ·exact ⟨by omega, h⟩
noncomputable def rowE (w : Nat) (row : List zAd) : Option Int := if row.length ≠ w then some 3 else if vecE row ≠ 0 then some (vecE row) else none
noncomputable def matE (m : List (List zAd)) : Int := if m.length > 40 then 2 else (m.findSome? (rowE (m.getD 0 []).length)).getD 0
def MOk (m : List (List zAd)) : Prop := m.length <= 1048576 /\ ∀ row ∈ m, row.length <= 1048576 /\ ∀ s ∈ row, s.size <= 1048576
theorem idx0 {m : List (List zAd)} (h : 0 < m.length) : idx m 0 = some (m.getD 0 []) := by
 have : idx m ((0 : Nat) : Int) = some m[0] := z3v (zAh h)
 rw [zAb, zAh h]
 exact this
theorem ne_len {a b : Nat} : (((a : Int) != (b : Int)) = true) ↔ a ≠ b := by rw [bne_iff_ne]; omega
theorem zdc {m : List (List zAd)} (hm : MOk m) (hK : 2000000000 < K) : z4n K m = some (matE m) := by
 obtain ⟨hl, hr⟩ := hm
 unfold z4n matE
 rw [zl6]
 by_cases h : m.length > 40
 ·rw [if_pos h, if_pos h]
 ·rw [if_neg h, if_neg h]
  rw [za0 (K := K) (l := m) (L := z1v K m) (rowE (m.getD 0 []).length) (fun k => by rw [z1v, if_neg (by simp)]) (fun k i hi => ?_) (by omega)]
  ·cases List.findSome? (rowE (m.getD 0 []).length) m <;> rfl
  ·have hx : idx m (i : Int) = some m[i] := z3v (zAh hi)
   obtain ⟨r1, r2⟩ := hr m[i] (List.getElem_mem hi)
   rw [z1v, if_pos (lt_d hi), hx, z0d, idx0 (by omega), z0d, z8j r1 r2 hK, z0d, k1 (by omega)]
   unfold rowE
   by_cases c : m[i].length ≠ (m.getD 0 []).length
   ·rw [if_pos (ne_len.2 c), if_pos c]
   ·rw [if_neg (fun e => c (ne_len.1 e)), if_neg c]
    by_cases d : vecE m[i] ≠ 0
    ·rw [if_pos (by simpa using d), if_pos d]
    ·rw [if_neg (by simpa using d), if_neg d]
theorem zau {m : List (List zAd)} (hm : MOk m) (hK : 2000000000 < K) : z42 K m = some (matE m) := by
 obtain ⟨hl, hr⟩ := hm
 unfold z42 matE
 rw [zl6]
 by_cases h : m.length > 40
 ·rw [if_pos h, if_pos h]
 ·rw [if_neg h, if_neg h]
  rw [za0 (K := K) (l := m) (L := z1m K m) (rowE (m.getD 0 []).length) (fun k => by rw [z1m, if_neg (by simp)]) (fun k i hi => ?_) (by omega)]
  ·cases List.findSome? (rowE (m.getD 0 []).length) m <;> rfl
  ·have hx : idx m (i : Int) = some m[i] := z3v (zAh hi)
   obtain ⟨r1, r2⟩ := hr m[i] (List.getElem_mem hi)
   rw [z1m, if_pos (lt_d hi), hx, z0d, idx0 (by omega), z0d]
   simp only [z0d, z9l r1 r2 hK, k1 (show i <= 1048576 by omega)]
   unfold rowE
   by_cases c : m[i].length ≠ (m.getD 0 []).length
   ·rw [if_pos (ne_len.2 c), if_pos c]
   ·rw [if_neg (fun e => c (ne_len.1 e)), if_neg c]
    by_cases d : vecE m[i] ≠ 0
    ·rw [if_pos (by simpa using d), if_pos d]
    ·rw [if_neg (by simpa using d), if_neg d]
theorem zmz {l : List Int} (hl : l.length <= 1048576) (hK : 2000000000 < K) : z52 K l = some ((l.findSome? fun x => if x ≠ 0 then some x else none).getD 0) := by
 unfold z52
 rw [za0 (K := K) (l := l) (L := z3b K l) (fun x => if x ≠ 0 then some x else none) (fun k => by rw [z3b, if_neg (by simp)]) (fun k i hi => ?_) (by omega)]
 ·cases List.findSome? (fun x => if x ≠ 0 then some x else none) l <;> rfl
 ·have hx : idx l (i : Int) = some l[i] := z3v (zAh hi)
  rw [z3b, if_pos (lt_d hi), hx, z0d, k1 (by omega)]
  by_cases c : l[i] ≠ 0
  ·rw [if_pos (by simpa using c), if_pos c]
  ·rw [if_neg (by simpa using c), if_neg c]
theorem zav {a b : Int} (hK : 2000000000 < K) : z52 K [a, b] = some (if a ≠ 0 then a else b) := by
 rw [zmz (by simp) hK]
 by_cases ha : a = 0 <;> by_cases hb : b = 0 <;> simp [ha, hb]
def znk (n : Int) (m : List (List (List zAd))) : Bool := m.any fun x => decide ((x.length : Int) > n) || x.any fun v => decide ((v.length : Int) > n) || v.any fun r => decide ((r.size : Int) > 12)
theorem zj8 {α : Type} (l : List α) (p : α -> Bool) : l.any p = (l.findSome? fun x => if p x then some () else none).isSome := by
 induction l with
 | nil => rfl
 | cons x l ih =>
  rw [List.any_cons, List.findSome?_cons, ih]
  cases h : p x <;> simp
theorem zey {l : List zAd} {F : zAd -> Option Bool} {p : zAd -> Bool} (hl : l.length <= 1048576) (hK : 2000000000 < K) (hp : ∀ x ∈ l, F x = some (p x)) : z0k K l F = some (l.any p) := by
 have key : ∃ r : Int ⊕ Unit, z09 K l F K 0 = some r /\ ((r = .inr () /\ l.any p = false) \/ ∃ i : Int, 0 <= i /\ r = .inl i /\ l.any p = true) := by
  refine z8f (fun k (s : Int) => z09 K l F k s) (fun s => ∃ i : Nat, s = i /\ i <= l.length /\ (l.take i).any p = false) (fun s => (l.length - s : Int).toNat) _ ?_ (0 : Int) (by omega) ⟨0, rfl, by omega, by simp⟩
  rintro k _ ⟨i, rfl, h0, h1⟩
  by_cases hi : i < l.length
  ·have hx : idx l (i : Int) = some l[i] := z3v (zAh hi)
   have hpi := hp l[i] (List.getElem_mem hi)
   have hsn : l.take (i + 1) = l.take i ++ [l[i]] := by rw [List.take_add_one, zAh hi]; rfl
   cases hc : p l[i] with
   | true =>
    left
    refine ⟨.inl i, ?_, .inr ⟨i, by omega, rfl, List.any_eq_true.2 ⟨l[i], List.getElem_mem hi, hc⟩⟩⟩
    rw [z09, if_pos (decide_eq_true (by omega)), hx, z0d, hpi, z0d, hc, if_pos rfl]
   | false =>
    right
    refine ⟨(i : Int) + 1, ?_, by omega, i + 1, rfl, by omega, by rw [hsn, List.any_append, h1]; simp [hc]⟩
    rw [z09, if_pos (decide_eq_true (by omega)), hx, z0d, hpi, z0d, hc, if_neg (by simp), k64 (by omega) (by omega)]
  ·left
   have : i = l.length := by omega
   subst this
   rw [List.take_of_length_le (Nat.le_refl _)] at h1
   refine ⟨.inr (), ?_, .inl ⟨rfl, h1⟩⟩
   rw [z09, if_neg (by simp)]
 obtain ⟨r, h1, h2⟩ := key
 unfold z0k z0q
 rw [h1]
 rcases h2 with ⟨rfl, h3⟩ | ⟨i, h4, rfl, h3⟩
 ·rw [h3]; rfl
 ·rw [h3, zic, tu1a, z0d, decide_eq_true (by omega)]
theorem zoz {n : Int} {m : List (List (List zAd))} (hm : m.length <= 1048576) (hr : ∀ x ∈ m, MOk x) (hK : 2000000000 < K) : z73 K n m = some (znk n m) := by
 have hv : ∀ x ∈ m, z33 K n x K 0 = some (resF (x.findSome? (fun v => if (decide ((v.length : Int) > n) || v.any fun r => decide ((r.size : Int) > 12)) then some true else none))) := fun x hx => by
  obtain ⟨x1, x2⟩ := hr x hx
  refine za0 (K := K) (l := x) (L := z33 K n x) (fun v => if (decide ((v.length : Int) > n) || v.any fun r => decide ((r.size : Int) > 12)) then some true else none) (fun k => by rw [z33, if_neg (by simp)]) (fun k i hi => ?_) (by omega)
  have hxi : idx x (i : Int) = some x[i] := z3v (zAh hi)
  obtain ⟨r1, r2⟩ := x2 x[i] (List.getElem_mem hi)
  rw [z33, if_pos (lt_d hi), hxi, z0d, k1 (by omega), zey (F := fun x => z65 K x) (p := fun r => decide ((r.size : Int) > 12)) r1 hK (fun r _ => rfl), z0d]
  cases c1 : decide ((x[i].length : Int) > n) <;> cases c2 : x[i].any (fun r => decide ((r.size : Int) > 12)) <;> simp [tu1a]
 unfold z73 znk
 rw [zj8]
 rw [za0 (K := K) (l := m) (L := z3n K n m) (fun x => if (decide ((x.length : Int) > n) || x.any fun v => decide ((v.length : Int) > n) || v.any fun r => decide ((r.size : Int) > 12)) then some true else none) (fun k => by rw [z3n, if_neg (by simp)]) (fun k i hi => ?_) (by omega)]
 ·have : ∀ l : List (List (List zAd)), ∀ q : List (List zAd) -> Bool, zb5 (some (resF (l.findSome? (fun x => if q x then some true else none)))) (tu1 fun a => some a) (tu0 (some false)) = some (l.findSome? fun x => if q x then some () else none).isSome := by
   intro l q
   induction l with
   | nil => rfl
   | cons x l ih =>
    rw [List.findSome?_cons, List.findSome?_cons]
    cases h : q x
    ·simpa [h] using ih
    ·rfl
  exact this m _
 ·have hx : idx m (i : Int) = some m[i] := z3v (zAh hi)
  rw [z3n, if_pos (lt_d hi), hx, z0d, k1 (by omega), hv m[i] (List.getElem_mem hi)]
  cases c1 : decide ((m[i].length : Int) > n)
  ·rw [if_neg (by simp)]
   rw [zj8 m[i]]
   generalize hq : (fun v : List zAd => (decide ((v.length : Int) > n) || v.any fun r => decide ((r.size : Int) > 12))) = q
   have : ∀ l : List (List zAd), (l.findSome? (fun v => if q v then some true else none)) = ((l.findSome? fun v => if q v then some () else none).map fun _ => true) := by
    intro l
    induction l with
    | nil => rfl
    | cons x l ih =>
     rw [List.findSome?_cons, List.findSome?_cons, ih]
     cases q x <;> rfl
   subst hq
   rw [this]
   cases List.findSome? _ m[i] <;> rfl
  ·rw [if_pos rfl]; rfl
end Go.Am.Tryz
/- The closed matrix fact holds. -/
namespace Go.Am.Tryz
open Go Go.Am Go.Proofs
theorem zdd : z6h 2000000001 = some true := by kernel_rfl
end Go.Am.Tryz
/- Plain law: rows and scalar products; MatrixDots answers true. -/
namespace Go.Am.Tryz
open Go Go.Am Go.Proofs
variable {K : Nat}
abbrev FT (f : Nat -> Rat) (n : Nat) (l : List zAd) : Prop := Fam (fun j s => RTx s (f j)) n l
abbrev FQ (f : Nat -> Rat) (n : Nat) (l : List Q) : Prop := Fam (fun j q => QV q (f j)) n l
theorem FT.uniq {f : Nat -> Rat} {n : Nat} {l m : List zAd} (h : FT f n l) (k : FT f n m) : l = m := Fam.uniq (fun _ _ _ h1 h2 => h1.inj h2) h k
theorem zp0 {f : Nat -> Rat} {n : Nat} {l : List zAd} (h : FT f n l) (hs : ∀ s ∈ l, s.size <= 1048576) (hn : n <= 1048576) (hK : 2000000000 < K) : ∃ q, z4w K l = some q /\ FQ f n q := by
 have hl := h.1
 obtain ⟨q, q1, q2⟩ := z8i (K := K) n (z2s K l) (fun j q => QV q (f j)) (fun q => FQ f n q) (by omega)
  (fun k acc ha => ⟨acc, by rw [z2s, hl, if_neg (by simp)], ha⟩)
  (fun k i acc hi ha => by
   right
   have hx : idx l (i : Int) = some l[i] := z3v (zAh (by omega))
   obtain ⟨q, q1, q2⟩ := zqa (K := K) (h.2 i (by omega)) (hs _ (List.getElem_mem (by omega))) hK
   have hal := ha.1
   exact ⟨q, q2, by rw [z2s, hl, if_pos (lt_d hi), hx, z0d, q1, z0d, if_pos (by simp; omega), k1 (by omega)]⟩)
 exact ⟨q, by unfold z4w; rw [q1]; rfl, q2⟩
theorem zp1 {l : List zAd} (hs : ∀ s ∈ l, s.size <= 1048576) (h : vecE l = 0) : ∃ f, FT f l.length l /\ l.length <= 40 /\ ∀ i, i < l.length -> Dl (f i) 2000 := by
 obtain ⟨h1, h2⟩ := zg3 h
 obtain ⟨f, f1, f2⟩ := zqb hs h2
 exact ⟨f, ⟨rfl, f1⟩, h1, f2⟩
theorem zj9 {f : Nat -> Rat} {n : Nat} {l : List zAd} (h : FT f n l) (hs : ∀ s ∈ l, s.size <= 12) : ∀ j, j < n -> Dl (f j) 13 := fun j hj => by
 have hl := h.1
 exact (h.2 j (by omega)).dl (hs _ (List.getElem_mem (by omega)))
theorem zea {n : Int} {m : List (List (List zAd))} (h : znk n m = false) : ∀ x ∈ m, (x.length : Int) <= n /\ ∀ v ∈ x, (v.length : Int) <= n /\ ∀ r ∈ v, r.size <= 12 := by
 intro x hx
 unfold znk at h
 rw [List.any_eq_false] at h
 have h1 := h x hx
 simp only [Bool.not_eq_true, Bool.or_eq_false_iff, decide_eq_false_iff_not, List.any_eq_false, decide_eq_true_eq] at h1
 refine ⟨by omega, fun v hv => ?_⟩
 have h2 := h1.2 v hv
 exact ⟨by omega, fun r hr => by have := h2.2 r hr; omega⟩
end Go.Am.Tryz
/- Plain law: matrices of numbers: rows, columns, products. -/
namespace Go.Am.Tryz
open Go Go.Am Go.Proofs
variable {K : Nat}
abbrev MT (f : Nat -> Nat -> Rat) (h w : Nat) (m : List (List zAd)) : Prop := Fam (fun i row => FT (f i) w row) h m
abbrev MQ (f : Nat -> Nat -> Rat) (h w : Nat) (m : List (List Q)) : Prop := Fam (fun i row => FQ (f i) w row) h m
theorem MT.uniq {f : Nat -> Nat -> Rat} {h w : Nat} {l m : List (List zAd)} (a : MT f h w l) (b : MT f h w m) : l = m := Fam.uniq (fun _ _ _ h1 h2 => h1.uniq h2) a b
def wid (m : List (List zAd)) : Nat := (m.getD 0 []).length
theorem zl7 {m : List (List zAd)} (h : matE m = 0) : m.length <= 40 /\ ∀ row ∈ m, row.length = wid m /\ vecE row = 0 := by
 unfold matE at h
 split at h
 ·cases h
 ·refine ⟨by omega, ?_⟩
  have hn : m.findSome? (rowE (m.getD 0 []).length) = none := by
   cases hf : m.findSome? (rowE (m.getD 0 []).length) with
   | none => rfl
   | some r =>
    rw [hf] at h
    obtain ⟨row, _, hr⟩ := List.exists_of_findSome?_eq_some hf
    unfold rowE at hr
    split at hr
    ·cases hr; cases h
    ·split at hr
     ·cases hr; exact absurd h (by assumption)
     ·cases hr
  intro row hrow
  have := List.findSome?_eq_none_iff.1 hn row hrow
  unfold rowE at this
  split at this
  ·cases this
  ·split at this
   ·cases this
   ·exact ⟨by unfold wid; omega, by omega⟩
theorem zqc {m : List (List zAd)} (hm : MOk m) (h : matE m = 0) : ∃ f, MT f m.length (wid m) m /\ m.length <= 40 /\ wid m <= 40 /\ ∀ i j, i < m.length -> j < wid m -> Dl (f i j) 2000 := by
 classical
 obtain ⟨h1, h2⟩ := zl7 h
 have hex : ∀ i (hi : i < m.length), ∃ f, FT f (wid m) m[i] /\ ∀ j, j < wid m -> Dl (f j) 2000 := fun i hi => by
  obtain ⟨r1, r2⟩ := h2 m[i] (List.getElem_mem hi)
  obtain ⟨f, f1, f2, f3⟩ := zp1 (hm.2 m[i] (List.getElem_mem hi)).2 r2
  rw [r1] at f1 f3
  exact ⟨f, f1, f3⟩
 have hw : wid m <= 40 := by
  by_cases hl : 0 < m.length
  ·obtain ⟨r1, r2⟩ := h2 m[0] (List.getElem_mem hl)
   have := (zg3 r2).1
   omega
  ·have : m = [] := List.length_eq_zero_iff.1 (by omega)
   subst this
   show 0 <= 40
   omega
 refine ⟨fun i => if hi : i < m.length then (hex i hi).choose else fun _ => 0, ⟨rfl, fun i hi => ?_⟩, h1, hw, fun i j hi hj => ?_⟩
 ·dsimp only; rw [dif_pos hi]; exact (hex i hi).choose_spec.1
 ·dsimp only; rw [dif_pos hi]; exact (hex i hi).choose_spec.2 j hj
theorem zl8 {m : List (List zAd)} : z9e K m = some ((wid m : Nat) : Int) := by
 unfold z9e wid
 by_cases h : 0 < m.length
 ·rw [if_pos (decide_eq_true (by omega)), idx0 h, z0d]
 ·have : m = [] := List.length_eq_zero_iff.1 (by omega)
  subst this
  rfl
theorem zn0 {m : List (List zAd)} : z4o K m = some ((wid m : Nat) : Int) := by
 unfold z4o wid
 by_cases h : 0 < m.length
 ·rw [if_neg (by rw [beq_iff_eq]; omega), idx0 h, z0d]
 ·have : m = [] := List.length_eq_zero_iff.1 (by omega)
  subst this
  rfl
theorem zra {f : Nat -> Nat -> Rat} {h w : Nat} {m : List (List zAd)} (hm : MT f h w m) (hs : MOk m) (hw : w <= 1048576) (hK : 2000000000 < K) : ∃ q, z6q K m = some q /\ MQ f h w q := by
 have hl := hm.1
 obtain ⟨s1, s2⟩ := hs
 obtain ⟨q, q1, q2⟩ := z8i (K := K) h (z38 K m) (fun i row => FQ (f i) w row) (fun q => MQ f h w q) (by omega)
  (fun k acc ha => ⟨acc, by rw [z38, hl, if_neg (by simp)], ha⟩)
  (fun k i acc hi ha => by
   right
   have hx : idx m (i : Int) = some m[i] := z3v (zAh (by omega))
   obtain ⟨q, q1, q2⟩ := zp0 (K := K) (hm.2 i (by omega)) (s2 _ (List.getElem_mem (by omega))).2 hw hK
   have hal := ha.1
   exact ⟨q, q2, by rw [z38, hl, if_pos (lt_d hi), hx, z0d, q1, z0d, if_pos (by simp; omega), k1 (by omega)]⟩)
 exact ⟨q, by unfold z6q; rw [q1]; rfl, q2⟩
theorem zl9 {l : List zAd} (hl : l.length <= 1048576) (hK : 2000000000 < K) : z0n K l l = some true := by
 unfold z0n
 rw [if_neg (by simp), za0 (K := K) (l := l) (L := z0f K l l) (fun _ => none) (fun k => by rw [z0f, if_neg (by simp)]) (fun k i hi => ?_) (by omega)]
 ·have : l.findSome? (fun _ => (none : Option Bool)) = none := by simp
  rw [this]; rfl
 ·have hx : idx l (i : Int) = some l[i] := z3v (zAh hi)
  rw [z0f, if_pos (lt_d hi), hx, z0d, z0d, ziv, k1 (by omega)]
  rfl
theorem zqd {f : Nat -> Rat} {n N : Nat} {l : List Q} (h : FQ f n l) (hn : n <= 1048576) (hN : N <= 8000000) (df : ∀ j, j < n -> Dl (f j) N) (hK : 2000000000 < K) :
  ∃ s e, z63 K l = some (s, e) /\ ((∀ j, j < n -> Dl (f j) 2000) -> e = 0 /\ FT f n s) := by
 have hl := h.1
 obtain ⟨r, r1, r2⟩ := z8i (K := K) n (z29 K l) (fun j s => RTx s (f j)) (fun r => (r = .inl ([], 2) /\ ∃ j, j < n /\ ¬ Dl (f j) 2000) \/ ∃ s, r = .inr s /\ FT f n s) (by omega)
  (fun k acc ha => ⟨.inr acc, by rw [z29, hl, if_neg (by simp)], .inr ⟨acc, rfl, ha⟩⟩)
  (fun k i acc hi ha => by
   have hx : idx l (i : Int) = some l[i] := z3v (zAh (by omega))
   have hq := h.2 i (by omega)
   obtain ⟨f1, f2⟩ := zow (K := K) hq (df i hi) hN hK
   by_cases c : Dl (f i) 2000
   ·right
    obtain ⟨s, s1, s2⟩ := zov (K := K) hq c (by omega) hK
    have hal := ha.1
    exact ⟨s, s2, by rw [z29, hl, if_pos (lt_d hi), hx, z0d, f1 c, z0d, if_neg (by simp), s1, z0d, if_pos (by simp; omega), k1 (by omega)]⟩
   ·left
    exact ⟨.inl ([], 2), by rw [z29, hl, if_pos (lt_d hi), hx, z0d, f2 c, z0d, if_pos (by simp)], .inl ⟨rfl, i, hi, c⟩⟩)
 unfold z63
 rw [r1]
 rcases r2 with ⟨rfl, j, hj, hn⟩ | ⟨s, rfl, hs⟩
 ·exact ⟨[], 2, rfl, fun hh => absurd (hh j hj) hn⟩
 ·exact ⟨s, 0, rfl, fun _ => ⟨rfl, hs⟩⟩
end Go.Am.Tryz
