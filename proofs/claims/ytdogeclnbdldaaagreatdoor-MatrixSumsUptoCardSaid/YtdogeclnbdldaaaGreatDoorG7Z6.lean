/- Plain law: the reference's sum and difference of texts. -/
import Derived.Test.YtdogeclnbdldaaaGreatDoorG6Z6
import Derived.Test.YtdogeclnbdldaaaGreatDoorG2Z6
import Derived.Test.YtdogeclnbdldaaaGreatDoorRows
set_option maxRecDepth 100000
set_option maxHeartbeats 8000000
set_option linter.unusedVariables false
set_option linter.unusedSimpArgs false
namespace Go.Am.Tryz
open Go Go.Am Go.Proofs
variable {K : Nat}
theorem zdj (B : Int) (x : List Int) (k : Nat) : valB B (x.take (k + 1)) = valB B (x.take k) + B ^ k * x.getD k 0 := by
 by_cases h : k < x.length
 ·have hx : x[k]? = some x[k] := zAh h
  rw [List.take_add_one, hx, z6a, List.length_take, Nat.min_eq_left (by omega), zAb, hx]
  simp [valB]
 ·rw [List.take_of_length_le (by omega), List.take_of_length_le (by omega), zAb, List.getElem?_eq_none (by omega)]
  simp
theorem zkk {B : Int} (hB : 0 < B) {x : List Int} (h : DigB B x) (k : Nat) : 0 <= x.getD k 0 /\ x.getD k 0 < B := by
 by_cases hk : k < x.length
 ·rw [zAb, zAh hk]
  exact h _ (List.getElem_mem hk)
 ·rw [zAb, List.getElem?_eq_none (by omega)]
  simp [hB]
theorem zio {i j : Nat} (h : i <= j) : (10 : Int) ^ i <= 10 ^ j := by
 have h1 : (10 : Nat) ^ i <= 10 ^ j := Nat.pow_le_pow_right (by omega) h
 have h2 : ((10 ^ i : Nat) : Int) <= ((10 ^ j : Nat) : Int) := by omega
 simpa using h2
theorem zkl (i : Nat) : 0 < (10 : Int) ^ i := by
 have h1 : 0 < (10 : Nat) ^ i := Nat.pow_pos (by omega)
 have h2 : (0 : Int) < ((10 ^ i : Nat) : Int) := by omega
 simpa using h2
theorem zn7 {a b : zAd} (ha : a.size <= 1000000) (hb : b.size <= 1000000) (h0 : 0 < a.size) (hK : 1048580 < K) (da : (z05 a).all digT = true) (db : (z05 b).all digT = true) : ∃ t, z8o K a b = some t /\ CanT t /\ numT t = numT a + numT b := by
 have dx := z81 da
 have dy := z81 db
 have lx := z60 a
 have ly := z60 b
 have vx := z5g (B := 10) (by omega) _ dx
 have vy := z5g (B := 10) (by omega) _ dy
 have key : ∃ r, z2n K a b K [] 0 0 = some r /\ r ≠ [] /\ r.length <= 1048575 /\ DigB 10 r /\ valB 10 r = numT a + numT b := by
  refine zf4 (S := List Int × Int) (max a.size b.size + 1) (fun k s i => z2n K a b k s.1 s.2 i) (fun s i => s.1.length = i /\ DigB 10 s.1 /\ (0 <= s.2 /\ s.2 <= 1) /\ valB 10 s.1 + 10 ^ i * s.2 = valB 10 ((z6b a).take i) + valB 10 ((z6b b).take i)) _ ?_ ?_ K ([], 0) (by omega) ⟨rfl, DigB.nil 10, ⟨by omega, by omega⟩, by simp [valB]⟩
  ·rintro k ⟨out, c⟩ i hi ⟨h1, h2, h3, h4⟩
   simp only at h1 h2 h3 h4
   have hcond : (if (decide ((i : Int) < (a.size : Int))) = true then some true else (if (decide ((i : Int) < (b.size : Int))) = true then some true else some (decide (c > 0)))) = some (decide ((i < a.size \/ i < b.size) \/ c > 0)) := by
    by_cases e1 : i < a.size
    ·simp [e1]
    ·by_cases e2 : i < b.size
     ·simp [e1, e2]
     ·simp [e1, e2]
   show (∃ r, z2n K a b (k + 1) out c i = some r /\ _) \/ _
   rw [z2n, hcond]
   simp only [Option.bind_some, tu1]
   by_cases hc : (i < a.size \/ i < b.size) \/ c > 0
   ·right
    have ex := zkk (by omega) dx i
    have ey := zkk (by omega) dy i
    rw [decide_eq_true hc, if_pos rfl, z8z (by omega) da i (by omega), z8z (by omega) db i (by omega)]
    have tx := zdj 10 (z6b a) i
    have ty := zdj 10 (z6b b) i
    generalize (z6b a).getD i 0 = x at ex tx
    generalize (z6b b).getD i 0 = y at ey ty
    have e1 : z04 .i64 (x + y) = x + y := kw (by omega) (by omega)
    have e2 : z04 .i64 (x + y + c) = x + y + c := kw (by omega) (by omega)
    have e3 : Int.tmod (x + y + c) 10 = (x + y + c) % 10 := Int.tmod_eq_emod_of_nonneg (by omega)
    have e4 : Int.tdiv (x + y + c) 10 = (x + y + c) / 10 := Int.tdiv_eq_ediv_of_nonneg (by omega)
    have e5 : z04 .i64 ((x + y + c) / 10) = (x + y + c) / 10 := kw (by omega) (by omega)
    refine ⟨(out ++ [(x + y + c) % 10], (x + y + c) / 10), ⟨by simp [h1], h2.app (fun d hd => by simp at hd; omega), ⟨by omega, by omega⟩, ?_⟩, ?_⟩
    ·have hm := Int.emod_add_mul_ediv (x + y + c) 10
     generalize hq : (x + y + c) / 10 = q at hm
     generalize hr : (x + y + c) % 10 = r at hm
     simp only
     rw [z6a, h1, tx, ty, Int.pow_succ]
     simp only [valB, Int.mul_zero, Int.add_zero]
     generalize valB 10 ((z6b a).take i) = A at h4
     generalize valB 10 ((z6b b).take i) = B at h4
     generalize valB 10 out = C at h4
     generalize (10 : Int) ^ i = p at h4
     have e6 : p * (r + 10 * q) = p * (x + y + c) := by rw [hm]
     rw [Int.mul_add, Int.mul_add, Int.mul_add, <- Int.mul_assoc] at e6
     omega
    ·simp only [Option.bind_some, e1, e2, e3, e4, e5, lt, List.length_cons, List.length_nil, kw1 hi (by omega)]
     rw [if_pos (by omega)]
   ·left
    rw [decide_eq_false hc]
    refine ⟨out, by simp, ?_, by omega, h2, ?_⟩
    ·intro e; rw [e] at h1; simp at h1; omega
    ·rw [List.take_of_length_le (by omega), List.take_of_length_le (by omega)] at h4
     have : c = 0 := by omega
     rw [this] at h4
     unfold numT
     omega
  ·rintro k ⟨out, c⟩ i rfl ⟨h1, h2, h3, h4⟩
   simp only at h1 h2 h3 h4
   rw [List.take_of_length_le (by omega), List.take_of_length_le (by omega)] at h4
   have p1 : (10 : Int) ^ (z6b a).length <= 10 ^ (max a.size b.size) := zio (by omega)
   have p2 : (10 : Int) ^ (z6b b).length <= 10 ^ (max a.size b.size) := zio (by omega)
   have p3 := z14 (B := 10) (by omega) _ h2
   have p4 := zkl (max a.size b.size)
   have hc0 : c = 0 := by
    by_cases e : c = 0
    ·exact e
    ·have e1 : c = 1 := by omega
     rw [e1, Int.mul_one, Int.pow_succ] at h4
     omega
   subst hc0
   have hcond : (if (decide (((max a.size b.size + 1 : Nat) : Int) < (a.size : Int))) = true then some true else (if (decide (((max a.size b.size + 1 : Nat) : Int) < (b.size : Int))) = true then some true else some (decide ((0 : Int) > 0)))) = some false := by
    rw [decide_eq_false (by omega), decide_eq_false (by omega)]; rfl
   refine ⟨out, ?_, ?_, by omega, h2, by unfold numT; omega⟩
   ·show z2n K a b (k + 1) out 0 _ = _
    rw [z2n, hcond]; rfl
   ·intro e; rw [e] at h1; simp at h1
 obtain ⟨r, h1, h2, h3, h4, h5⟩ := key
 obtain ⟨t, h6, h7, h8⟩ := zf7 (K := K) h3 h2 (by omega) h4
 refine ⟨t, ?_, h7, by rw [h8, h5]⟩
 unfold z8o
 rw [h1]
 simp only [Option.bind_some, tu1, h6]
theorem zip {a b : zAd} (ha : a.size <= 1000000) (hb : b.size <= a.size) (h0 : 0 < a.size) (hK : 1048580 < K) (da : (z05 a).all digT = true) (db : (z05 b).all digT = true) (hle : numT b <= numT a) : ∃ t, z7m K a b = some t /\ CanT t /\ numT t = numT a - numT b := by
 have dx := z81 da
 have dy := z81 db
 have lx := z60 a
 have ly := z60 b
 have key : ∃ r, z2m K a b K [] 0 0 = some r /\ r ≠ [] /\ r.length <= 1048575 /\ DigB 10 r /\ valB 10 r = numT a - numT b := by
  refine zf4 (S := List Int × Int) a.size (fun k s i => z2m K a b k s.1 s.2 i) (fun s i => s.1.length = i /\ DigB 10 s.1 /\ (0 <= s.2 /\ s.2 <= 1) /\ valB 10 s.1 + valB 10 ((z6b b).take i) = valB 10 ((z6b a).take i) + 10 ^ i * s.2) _ ?_ ?_ K ([], 0) (by omega) ⟨rfl, DigB.nil 10, ⟨by omega, by omega⟩, by simp [valB]⟩
  ·rintro k ⟨out, c⟩ i hi ⟨h1, h2, h3, h4⟩
   simp only at h1 h2 h3 h4
   right
   have ex := zkk (by omega) dx i
   have ey := zkk (by omega) dy i
   show ∃ s', _ /\ z2m K a b (k + 1) out c i = _
   rw [z2m, zk7 hi, if_pos rfl, z8z (by omega) da i (by omega), z8z (by omega) db i (by omega)]
   have tx := zdj 10 (z6b a) i
   have ty := zdj 10 (z6b b) i
   generalize (z6b a).getD i 0 = x at ex tx
   generalize (z6b b).getD i 0 = y at ey ty
   have e1 : z04 .i64 (x - y) = x - y := kw (by omega) (by omega)
   have e2 : z04 .i64 (x - y - c) = x - y - c := kw (by omega) (by omega)
   have e3 : z04 .i64 (x - y - c + 10) = x - y - c + 10 := kw (by omega) (by omega)
   simp only [Option.bind_some, e1, e2, e3, lt, tu2, List.length_cons, List.length_nil, kw1 hi (by omega)]
   have h9 : out.length + (0 + 1) <= 16777216 := by omega
   by_cases hn : x - y - c < 0
   ·refine ⟨(out ++ [x - y - c + 10], 1), ⟨by simp [h1], h2.app (fun d hd => by simp at hd; omega), ⟨by omega, by omega⟩, ?_⟩, ?_⟩
    ·simp only
     rw [z6a, h1, tx, ty, Int.pow_succ]
     simp only [valB, Int.mul_zero, Int.add_zero, Int.mul_one]
     generalize valB 10 ((z6b a).take i) = A at h4
     generalize valB 10 ((z6b b).take i) = B at h4
     generalize valB 10 out = C at h4
     generalize (10 : Int) ^ i = p at h4
     rw [Int.mul_add, Int.mul_sub, Int.mul_sub]
     omega
    ·rw [decide_eq_true hn]
     simp only [if_true, Option.bind_some, if_pos h9, tu2]
   ·refine ⟨(out ++ [x - y - c], 0), ⟨by simp [h1], h2.app (fun d hd => by simp at hd; omega), ⟨by omega, by omega⟩, ?_⟩, ?_⟩
    ·simp only
     rw [z6a, h1, tx, ty, Int.pow_succ]
     simp only [valB, Int.mul_zero, Int.add_zero]
     generalize valB 10 ((z6b a).take i) = A at h4
     generalize valB 10 ((z6b b).take i) = B at h4
     generalize valB 10 out = C at h4
     generalize (10 : Int) ^ i = p at h4
     rw [Int.mul_sub, Int.mul_sub]
     omega
    ·rw [decide_eq_false hn]
     simp only [Bool.false_eq_true, if_false, Option.bind_some, if_pos h9, tu2]
  ·rintro k ⟨out, c⟩ i rfl ⟨h1, h2, h3, h4⟩
   simp only at h1 h2 h3 h4
   rw [List.take_of_length_le (by omega), List.take_of_length_le (by omega)] at h4
   have p3 := z5g (B := 10) (by omega) _ h2
   rw [h1] at p3
   have hle' : valB 10 (z6b b) <= valB 10 (z6b a) := hle
   have hc0 : c = 0 := by
    by_cases e : c = 0
    ·exact e
    ·have e1 : c = 1 := by omega
     rw [e1, Int.mul_one] at h4
     omega
   subst hc0
   refine ⟨out, ?_, ?_, by omega, h2, by unfold numT; omega⟩
   ·show z2m K a b (k + 1) out 0 _ = _
    rw [z2m, zfr (Nat.le_refl _)]; simp
   ·intro e; rw [e] at h1; simp at h1; omega
 obtain ⟨r, h1, h2, h3, h4, h5⟩ := key
 obtain ⟨t, h6, h7, h8⟩ := zf7 (K := K) h3 h2 (by omega) h4
 refine ⟨t, ?_, h7, by rw [h8, h5]⟩
 unfold z7m
 rw [h1]
 simp only [Option.bind_some, tu1, h6]
end Go.Am.Tryz
/- Plain law: the reference's comparison, product, quotient and divisor of texts. -/
namespace Go.Am.Tryz
open Go Go.Am Go.Proofs
variable {K : Nat}
theorem z3x {s : zAd} (h : (z05 s).all digT = true) : 0 <= numT s := z6p h
theorem zc0 {s : zAd} (h : (z05 s).all digT = true) : numT s < 10 ^ s.size := by
 have := zcr h
 rwa [z01] at this
theorem zcs {s : zAd} (h : CanT s) (h2 : 2 <= s.size) : (10 : Int) ^ (s.size - 1) <= numT s := by
 have hh : (z05 s).head? ≠ some 48 := fun e => by have := h.2.2 e; omega
 have h3 := zih (B := 10) (by omega) (zdh h hh) (by intro e; have := z60 s; rw [e] at this; simp at this; omega)
 rwa [z60] at h3
theorem zc1 {a b : zAd} (ha : (z05 a).all digT = true) (hb : CanT b) (h0 : a.size ≠ 0) (h : a.size < b.size) : numT a < numT b := by
 have h1 := zc0 ha
 have h2 := zcs hb (by omega)
 have h3 : (10 : Int) ^ a.size <= 10 ^ (b.size - 1) := z7r (by omega) (by omega)
 omega
theorem z4h {a b : zAd} (ha : CanT a) (hb : CanT b) (h : numT b <= numT a) : b.size <= a.size := by
 refine Nat.not_lt.1 fun hl => ?_
 have := zc1 ha.2.1 hb ha.1 hl
 omega
theorem zb9 : CanT ⟨#[48]⟩ := ⟨by decide, rfl, fun _ => rfl⟩
theorem z75 : numT ⟨#[48]⟩ = 0 := rfl
theorem zak : CanT ⟨#[49]⟩ := ⟨by decide, rfl, fun h => by simp [z05] at h⟩
theorem z9j : numT ⟨#[49]⟩ = 1 := rfl
theorem zdk {s : zAd} (h : CanT s) : numT s = 0 ↔ s = ⟨#[48]⟩ := ⟨fun e => z9h h zb9 (by rw [e, z75]), fun e => by rw [e, z75]⟩
theorem zax : ∀ (x y : List UInt8), x.length = y.length -> (x.map fun b => (b.toNat : Int)).all digT = true -> (y.map fun b => (b.toNat : Int)).all digT = true -> (Op.bytesLess x y = true ↔ numB (x.map fun b => (b.toNat : Int)) < numB (y.map fun b => (b.toNat : Int)))
 | [], [], _, _, _ => by simp [Op.bytesLess]
 | [], _ :: _, h, _, _ => by simp at h
 | _ :: _, [], h, _, _ => by simp at h
 | a :: x, b :: y, h, hx, hy => by
  simp only [List.map_cons, List.all_cons, Bool.and_eq_true] at hx hy
  simp only [List.length_cons, Nat.add_right_cancel_iff] at h
  have ih := zax x y h hx.2 hy.2
  have dx := digT_iff.1 hx.1
  have dy := digT_iff.1 hy.1
  simp only [Op.bytesLess, List.map_cons, zb7, List.length_map, h]
  have lx0 := z6p hx.2
  have lx1 := zcr hx.2
  have ly0 := z6p hy.2
  have ly1 := zcr hy.2
  rw [List.length_map] at lx1 ly1
  rw [h] at lx1
  generalize numB (x.map fun b => (b.toNat : Int)) = X at *
  generalize numB (y.map fun b => (b.toNat : Int)) = Y at *
  have p0 : (0 : Int) < 10 ^ y.length := Int.pow_pos (by omega)
  generalize (10 : Int) ^ y.length = P at *
  rw [Bool.or_eq_true, Bool.and_eq_true, ih, decide_eq_true_eq, beq_iff_eq, UInt8.lt_iff_toNat_lt]
  rcases Nat.lt_trichotomy a.toNat b.toNat with h1 | h1 | h1
  ·have := z43 (Int.le_of_lt p0) (show ((a.toNat : Int) - 48) + 1 <= (b.toNat : Int) - 48 by omega)
   rw [Int.mul_add, Int.mul_one] at this
   exact ⟨fun _ => by omega, fun _ => .inl h1⟩
  ·have e : a = b := UInt8.toNat_inj.1 h1
   subst e
   exact ⟨fun h => by rcases h with h | h <;> omega, fun h => .inr ⟨rfl, by omega⟩⟩
  ·have := z43 (Int.le_of_lt p0) (show ((b.toNat : Int) - 48) + 1 <= (a.toNat : Int) - 48 by omega)
   rw [Int.mul_add, Int.mul_one] at this
   refine ⟨fun h => ?_, fun h => by omega⟩
   rcases h with h | ⟨h, _⟩
   ·omega
   ·subst h; omega
theorem zn8 {a b : zAd} (h : a.size = b.size) (ha : (z05 a).all digT = true) (hb : (z05 b).all digT = true) : sLt a b = decide (numT a < numT b) := by
 have := zax a.data.toList b.data.toList (by simpa using h) ha hb
 unfold sLt
 rw [ByteArray.toList_eq, ByteArray.toList_eq]
 by_cases c : numT a < numT b
 ·rw [decide_eq_true c]; exact this.2 c
 ·rw [decide_eq_false c]
  cases e : Op.bytesLess a.data.toList b.data.toList with
  | false => rfl
  | true => exact absurd (this.1 e) c
theorem zl7 {a b : zAd} (ha : CanT a) (hb : CanT b) : z7l K a b = some (if numT a < numT b then -1 else if numT a = numT b then 0 else 1) := by
 unfold z7l
 by_cases h1 : a.size < b.size
 ·have := zc1 ha.2.1 hb ha.1 h1
  simp (discharger := omega) only [runL]
 ·by_cases h2 : a.size > b.size
  ·have := zc1 hb.2.1 ha hb.1 h2
   simp (discharger := omega) only [runL]
  ·have he : a.size = b.size := by omega
   rw [if_neg (by simp; omega), if_neg (by simp; omega), zn8 he ha.2.1 hb.2.1]
   by_cases c : numT a < numT b
   ·simp (discharger := omega) only [runL]
   ·by_cases d : numT a = numT b
    ·have : a = b := z9h ha hb d
     subst this
     have e : sEq a a = true := sEq_iff.2 rfl
     simp [e]
    ·have e : sEq a b = false := by
      cases e : sEq a b with
      | false => rfl
      | true => rw [sEq_iff] at e; subst e; exact absurd rfl d
     simp [e, c, d]
theorem zn9 {b : zAd} {out : List Int} {u : Int} {i : Nat} (hb : b.size <= 1000000) (hl : i + b.size < out.length) (ho : out.length <= 8000000) (hK : 2000000000 < K) (hu : 0 <= u /\ u <= 9) (db : (z05 b).all digT = true) (d0 : DigB 10 out) :
  ∃ r : List Int, z3l K b (i : Int) u K out 0 = some r /\ r.length = out.length /\ (∀ j, 0 <= r.getD j 0 /\ r.getD j 0 <= 90) /\ valB 10 r = valB 10 out + 10 ^ i * (u * numT b) := by
 have dx := z81 db
 have lx := z60 b
 refine zaw (fun k (s : List Int × Int) => z3l K b (i : Int) u k s.1 s.2) (fun s => ∃ q : Nat, s.2 = q /\ q <= b.size /\ s.1.length = out.length /\ (∀ j, 0 <= s.1.getD j 0 /\ s.1.getD j 0 <= 90) /\ (∀ j, i + q <= j -> s.1.getD j 0 <= 9) /\ valB 10 s.1 = valB 10 out + 10 ^ i * (u * valB 10 ((z6b b).take q))) (fun s => (b.size - s.2 : Int).toNat) _ ?_ ((out, 0) : List Int × Int) (by simp; omega) ⟨0, rfl, by omega, rfl, fun j => by have := z24 (by omega) d0 j; dsimp only; omega, fun j _ => by have := z24 (by omega) d0 j; dsimp only; omega, by simp [valB]⟩
 rintro k ⟨o, _⟩ ⟨q, rfl, h0, h1, h2, h3, h4⟩
 dsimp only at h1 h2 h3 h4 ⊢
 by_cases hq : q < b.size
 ·right
  have ey := z24 (by omega) dx q
  have eo := h2 (i + q)
  have eo9 := h3 (i + q) (Nat.le_refl _)
  have ty := z3t 10 (z6b b) q
  have hdg := z8z (K := K) (s := b) (by omega) db q (by omega)
  have hm : 0 <= u * (z6b b).getD q 0 /\ u * (z6b b).getD q 0 <= 81 := by
   have := z43 hu.1 (show (z6b b).getD q 0 <= 9 by omega)
   exact ⟨z93 hu.1 ey.1, by omega⟩
  have hset := fun d => z7e 10 o (i + q) d (by omega)
  have hgs := fun d j => z82 (cs := o) (i := i + q) (j := j) (v := d) (by omega)
  have e1 : ((i : Int) + (q : Int)) = ((i + q : Nat) : Int) := by omega
  generalize hw : u * (z6b b).getD q 0 = w at hm
  generalize ho : o.getD (i + q) 0 = z at eo eo9 hset
  refine ⟨(o.set (i + q) (z + w), (q : Int) + 1), ?_, by dsimp only; omega, q + 1, rfl, by omega, by simp [h1], fun j => ?_, fun j hj => ?_, ?_⟩
  ·rw [z3l, hdg]
   simp (discharger := omega) only [runL, e1, hw, ho]
  ·dsimp only; rw [hgs]; split
   ·omega
   ·exact h2 j
  ·dsimp only; rw [hgs, if_neg (by omega)]; exact h3 j (by omega)
  ·dsimp only
   rw [hset, h4, ty, <- hw, Int.pow_add]
   grind
 ·left
  have : q = b.size := by omega
  subst this
  rw [List.take_of_length_le (by omega)] at h4
  exact ⟨o, by rw [z3l]; simp (discharger := omega) only [runL], h1, h2, h4⟩
theorem ziq {c v : List Int} (hv : v.length + 1 = c.length) (hl : c.length <= 8000000) (hK : 2000000000 < K) (hc : ∀ j, 0 <= c.getD j 0 /\ c.getD j 0 <= 90) :
  ∃ r : List Int, z2y K v K c 0 = some r /\ r.length = c.length /\ (∀ j, 0 <= r.getD j 0) /\ (∀ j < v.length, r.getD j 0 <= 9) /\ valB 10 r = valB 10 c := by
 refine zaw (fun k (s : List Int × Int) => z2y K v k s.1 s.2) (fun s => ∃ i : Nat, s.2 = i /\ i <= v.length /\ s.1.length = c.length /\ (∀ j, 0 <= s.1.getD j 0 /\ s.1.getD j 0 <= 100) /\ (∀ j, i < j -> s.1.getD j 0 <= 90) /\ (∀ j < i, s.1.getD j 0 <= 9) /\ valB 10 s.1 = valB 10 c) (fun s => (v.length - s.2 : Int).toNat) _ ?_ ((c, 0) : List Int × Int) (by simp; omega) ⟨0, rfl, by omega, rfl, fun j => by have := hc j; dsimp only; omega, fun j _ => by have := hc j; dsimp only; omega, fun j hj => by omega, rfl⟩
 rintro k ⟨o, _⟩ ⟨i, rfl, h0, h1, h2, h3, h4, h5⟩
 dsimp only at h1 h2 h3 h4 h5 ⊢
 by_cases hi : i < v.length
 ·right
  have e1 : ((i : Int) + 1).toNat = i + 1 := by omega
  have b1 := h2 i
  have b2 := h2 (i + 1)
  have b3 := h3 (i + 1) (by omega)
  by_cases h9 : o.getD i 0 > 9
  ·generalize hz : o.getD i 0 = z at *
   generalize hz1 : o.getD (i + 1) 0 = z1 at *
   have hdm := Int.emod_add_mul_ediv z 10
   have hset := fun d => z7e 10 o (i + 1) d (by omega)
   have hset2 := fun d e => z7e 10 (o.set (i + 1) d) i e (by simp; omega)
   have hgs := fun d j => z82 (cs := o) (i := i + 1) (j := j) (v := d) (by omega)
   have hgs2 := fun d e j => z82 (cs := o.set (i + 1) d) (i := i) (j := j) (v := e) (by simp; omega)
   have hgi := fun d => hgs d i
   simp only [show ¬ i = i + 1 by omega, if_false, hz] at hgi
   have hsi : ∀ d, idx (o.set (i + 1) d) (i : Int) = some z := fun d => by rw [idxI (by omega) (by simp; omega), Int.toNat_natCast, hgi]
   refine ⟨((o.set (i + 1) (z1 + z / 10)).set i (z % 10), (i : Int) + 1), ?_, by dsimp only; omega, i + 1, rfl, by omega, by simp [h1], fun j => ?_, fun j hj => ?_, fun j hj => ?_, ?_⟩
   ·rw [z2y]
    simp (discharger := omega) only [runL, e1, hz, hz1, hsi]
   ·dsimp only; rw [hgs2, hgs]
    have := h2 j
    split
    ·omega
    ·split <;> omega
   ·dsimp only; rw [hgs2, hgs, if_neg (by omega), if_neg (by omega)]; exact h3 j (by omega)
   ·dsimp only; rw [hgs2]
    split
    ·omega
    ·rw [hgs, if_neg (by omega)]; exact h4 j (by omega)
   ·dsimp only
    rw [hset2, hset, hgi, hz1, h5, Int.pow_succ]
    grind
  ·refine ⟨(o, (i : Int) + 1), ?_, by dsimp only; omega, i + 1, rfl, by omega, h1, h2, fun j hj => h3 j (by omega), fun j hj => ?_, h5⟩
   ·have e : decide (o.getD i 0 > 9) = false := decide_eq_false h9
    rw [z2y]
    simp (discharger := omega) only [runL, e, Bool.false_eq_true]
   ·by_cases hj2 : j = i
    ·subst hj2; dsimp only; omega
    ·exact h4 j (by omega)
 ·left
  have : i = v.length := by omega
  subst this
  exact ⟨o, by rw [z2y]; simp (discharger := omega) only [runL], h1, fun j => (h2 j).1, h4, h5⟩
theorem kr1 {A B p q X : Int} : A * B + p * (q * B) = (A + p * q) * B := by grind
theorem zkm {a b : zAd} (ha : a.size <= 500000) (hb : b.size <= 500000) (hK : 2000000000 < K) (da : (z05 a).all digT = true) (db : (z05 b).all digT = true) :
  ∃ r : List Int, z3m K a b K (List.replicate (a.size + b.size + 1) 0) 0 = some r /\ r.length = a.size + b.size + 1 /\ DigB 10 r /\ valB 10 r = numT a * numT b := by
 have dx := z81 da
 have lx := z60 a
 refine zaw (fun k (s : List Int × Int) => z3m K a b k s.1 s.2) (fun s => ∃ i : Nat, s.2 = i /\ i <= a.size /\ s.1.length = a.size + b.size + 1 /\ DigB 10 s.1 /\ valB 10 s.1 = valB 10 ((z6b a).take i) * numT b) (fun s => (a.size - s.2 : Int).toNat) _ ?_ ((List.replicate (a.size + b.size + 1) 0, 0) : List Int × Int) (by simp; omega) ⟨0, rfl, by omega, by simp, .zeros (by omega) _, by simp [valB, za4]⟩
 rintro k ⟨o, _⟩ ⟨i, rfl, h0, h1, h2, h4⟩
 dsimp only at h1 h2 h4 ⊢
 by_cases hi : i < a.size
 ·right
  have ex := z24 (by omega) dx i
  have tx := z3t 10 (z6b a) i
  have hdg := z8z (K := K) (s := a) (by omega) da i (by omega)
  obtain ⟨c, c1, c2, c3, c4⟩ := zn9 (K := K) (b := b) (out := o) (u := (z6b a).getD i 0) (i := i) (by omega) (by omega) (by omega) hK ⟨ex.1, by omega⟩ db h2
  obtain ⟨v, hv⟩ : ∃ v, lsl c 0 ((c.length : Int) - 1) = some v := ⟨_, lslI (by omega) (by omega) (by omega)⟩
  have hvl : v.length + 1 = c.length := by
   rw [lslI (by omega) (by omega) (by omega)] at hv
   cases hv
   rw [List.length_take, List.length_drop]
   omega
  obtain ⟨r, r1, r2, r3, r4, r5⟩ := ziq (K := K) (c := c) (v := v) hvl (by omega) hK c3
  have hval : valB 10 r = valB 10 ((z6b a).take (i + 1)) * numT b := by
   rw [r5, c4, h4, tx, kr1 (X := 0)]
  -- no digit is left over
  have htop : r.getD v.length 0 = 0 := by
   have s1 := z8p 10 r v.length (by omega)
   have dlow : DigB 10 (r.take v.length) := fun d hd => by
    obtain ⟨j, hj, rfl⟩ := List.mem_iff_getElem.1 hd
    rw [List.length_take] at hj
    have q1 := r3 j
    have q2 := r4 j (by omega)
    rw [List.getElem_take]
    rw [zAb, zAh (by omega)] at q1 q2
    simp at q1 q2
    omega
   have s2 := z14 (B := 10) (by omega) _ dlow
   have s3 : r.drop v.length = [r.getD v.length 0] := by
    rw [List.drop_eq_getElem_cons (by omega), List.drop_eq_nil_of_le (by omega), zAb, zAh (by omega)]; rfl
   rw [s3] at s1
   simp only [valB, Int.mul_zero, Int.add_zero] at s1
   have t1 := z5g (B := 10) (by omega) _ (dx.take (i + 1))
   have t2 := zc0 db
   have t3 := z3x db
   have t4 := z14 (B := 10) (by omega) _ (dx.take (i + 1))
   have t5 : (10 : Int) ^ ((z6b a).take (i + 1)).length <= 10 ^ a.size := z7r (by omega) (by rw [List.length_take]; omega)
   have t6 : valB 10 r < 10 ^ v.length := by
    rw [hval, show v.length = a.size + b.size by omega, Int.pow_add]
    have p0 : (0 : Int) < 10 ^ b.size := Int.pow_pos (by omega)
    have m1 := z43 t4 (show numT b <= 10 ^ b.size by omega)
    have m2 := Int.mul_lt_mul_of_pos_right (show valB 10 ((z6b a).take (i + 1)) < 10 ^ a.size by omega) p0
    omega
   refine Int.le_antisymm (Int.not_lt.1 fun hlt => ?_) (r3 _)
   have p0 : (0 : Int) < 10 ^ v.length := Int.pow_pos (by omega)
   have := z43 (Int.le_of_lt p0) (show 1 <= r.getD v.length 0 by omega)
   omega
  have dr : DigB 10 r := fun d hd => by
   obtain ⟨j, hj, rfl⟩ := List.mem_iff_getElem.1 hd
   have q1 := r3 j
   have q2 : r.getD j 0 <= 9 := by
    by_cases hjv : j < v.length
    ·exact r4 j hjv
    ·have : j = v.length := by omega
     subst this; omega
   rw [zAb, zAh hj] at q1 q2
   simp at q1 q2
   omega
  refine ⟨(r, (i : Int) + 1), ?_, by dsimp only; omega, i + 1, rfl, by omega, by dsimp only; omega, dr, hval⟩
  have hcl : (c.length : Int) - 1 = c.length - 1 := rfl
  rw [z3m, hdg, if_pos (decide_eq_true (by omega)), z0i, c1, z0i, tu1a, k64 (by omega) (by omega), hv, z0i, r1, z0i, tu1a, k64 (by omega) (by omega)]
 ·left
  have : i = a.size := by omega
  subst this
  rw [List.take_of_length_le (by omega)] at h4
  exact ⟨o, by rw [z3m]; simp (discharger := omega) only [runL], h1, h2, h4⟩
theorem zek {a b : zAd} (ha : a.size <= 500000) (hb : b.size <= 500000) (hK : 2000000000 < K) (da : (z05 a).all digT = true) (db : (z05 b).all digT = true) : ∃ t, z5e K a b = some t /\ CanT t /\ numT t = numT a * numT b := by
 obtain ⟨r, h1, h2, h3, h4⟩ := zkm ha hb hK da db
 obtain ⟨t, t1, t2, t3⟩ := zf7 (K := K) (l := r) (by omega) (by intro e; rw [e] at h2; simp at h2) (by omega) h3
 refine ⟨t, ?_, t2, by rw [t3, h4]⟩
 unfold z5e
 have e1 : ((a.size : Int) + (b.size : Int) + 1) = ((a.size + b.size + 1 : Nat) : Int) := by omega
 simp (discharger := omega) only [runL, e1, h1, t1]
end Go.Am.Tryz
/- Plain law: long division of the program's numbers. -/
namespace Go.Am.Tryz
open Go Go.Am Go.Proofs
variable {K : Nat}
theorem zir (u : List Int) (i n : Nat) (h : i + n <= u.length) : valB 1000000000 u = valB 1000000000 (u.take i) + 1000000000 ^ i * (valB 1000000000 ((u.drop i).take n) + 1000000000 ^ n * valB 1000000000 (u.drop (i + n))) := by
 have h1 := z8p 1000000000 u i (by omega)
 have h2 := z8p 1000000000 (u.drop i) n (by rw [List.length_drop]; omega)
 rw [h1, h2, List.drop_drop]
theorem zl8 {l : List Int} {i : Nat} (h : l.length <= i) : l.getD i 0 = 0 := by rw [zAb, List.getElem?_eq_none h]; rfl
theorem zm0 {u v : List Int} {k : Nat} {q : Int} (hk : k + v.length + 1 <= u.length) (hl : u.length <= 8000000) (hK : 2000000000 < K) (hq : 0 <= q /\ q < 1000000000) (du : DigB 1000000000 u) (dv : DigB 1000000000 v) :
  ∃ (b : Int) (u' : List Int), z45 K u v k q = some (decide (b > 0), u') /\ (b = 0 \/ b = 1) /\ u'.length = u.length /\ DigB 1000000000 u' /\ u'.take k = u.take k /\ u'.drop (k + (v.length + 1)) = u.drop (k + (v.length + 1)) ∧
   valB 1000000000 u' = valB 1000000000 u - 1000000000 ^ k * (q * valB 1000000000 v) + 1000000000 ^ (k + (v.length + 1)) * b := by
 have key : ∃ r : List Int × Int, z1n K v k q K u 0 0 0 = some r /\ (r.2 = 0 \/ r.2 = 1) /\ r.1.length = u.length /\ DigB 1000000000 r.1 /\ r.1.take k = u.take k /\ r.1.drop (k + (v.length + 1)) = u.drop (k + (v.length + 1)) ∧
   valB 1000000000 r.1 = valB 1000000000 u - 1000000000 ^ k * (q * valB 1000000000 v) + 1000000000 ^ (k + (v.length + 1)) * r.2 := by
  refine zaw (fun m (s : List Int × Int × Int × Int) => z1n K v k q m s.1 s.2.1 s.2.2.1 s.2.2.2) (fun s => ∃ i : Nat, s.2.2.2 = i /\ i <= v.length + 1 /\ s.1.length = u.length /\ DigB 1000000000 s.1 /\ (s.2.1 = 0 \/ s.2.1 = 1) /\ (0 <= s.2.2.1 /\ s.2.2.1 < 1000000000) /\ (i = v.length + 1 -> s.2.2.1 = 0) /\ s.1.take k = u.take k /\ s.1.drop (k + (v.length + 1)) = u.drop (k + (v.length + 1)) ∧
   valB 1000000000 s.1 = valB 1000000000 u - 1000000000 ^ k * (q * valB 1000000000 (v.take i)) + 1000000000 ^ (k + i) * (s.2.1 + s.2.2.1)) (fun s => (v.length + 1 - s.2.2.2 : Int).toNat) _ ?_ ((u, 0, 0, 0) : List Int × Int × Int × Int) (by simp; omega) ⟨0, rfl, by omega, rfl, du, .inl rfl, by simp, by simp, rfl, rfl, by simp [valB]⟩
  rintro m ⟨o, b, c, _⟩ ⟨i, rfl, h0, h1, h2, h3, h4, h5, h6, h7, h8⟩
  dsimp only at h1 h2 h3 h4 h5 h6 h7 h8 ⊢
  by_cases hi : i < v.length + 1
  ·right
   have ev := z24 (by omega) dv i
   have eo := z24 (by omega) h2 (k + i)
   have hm := zl6 hq ev
   have tv := z3t 1000000000 v i
   have e1 : ((k : Int) + (i : Int)) = ((k + i : Nat) : Int) := by omega
   have e2 : (1000000000 : Int) ^ (k + (i + 1)) = 1000000000 ^ k * 1000000000 ^ i * 1000000000 := by rw [<- Nat.add_assoc, Int.pow_succ, Int.pow_add]
   have hset := fun d => z7e 1000000000 o (k + i) d (by omega)
   have hz : ¬ i < v.length -> q * v.getD i 0 = 0 := fun h => by rw [zl8 (by omega)]; simp
   generalize hw : q * v.getD i 0 = w at hm hz
   generalize ho : o.getD (k + i) 0 = z at eo hset
   have hdm := Int.emod_add_mul_ediv (c + w) 1000000000
   have htk : ∀ d, (o.set (k + i) d).take k = u.take k := fun d => by rw [List.take_set_of_le (by omega), h6]
   have hdr : ∀ d, (o.set (k + i) d).drop (k + (v.length + 1)) = u.drop (k + (v.length + 1)) := fun d => by rw [List.drop_set_of_lt (by omega), h7]
   have hc0 : i + 1 = v.length + 1 -> (c + w) / 1000000000 = 0 := fun h => by rw [hz (by omega)]; omega
   have hb2 : 0 <= b /\ b <= 1 := by rcases h3 with rfl | rfl <;> omega
   by_cases hn : z - (c + w) % 1000000000 - b < 0
   ·refine ⟨(o.set (k + i) (z - (c + w) % 1000000000 - b + 1000000000), 1, (c + w) / 1000000000, (i : Int) + 1), ?_, by dsimp only; omega, i + 1, rfl, by omega, by simp [h1], h2.set _ (by omega), .inr rfl, by dsimp only; omega, hc0, htk _, hdr _, ?_⟩
    ·rw [z1n]
     by_cases h : i < v.length
     ·simp (discharger := omega) only [runL, e1, hw, ho]
     ·have e := hz h
      subst e
      simp only [Int.add_zero] at hn ⊢
      simp (discharger := omega) only [runL, e1, ho]
    ·dsimp only
     rw [hset, tv, e2]
     rw [Int.pow_add] at h8 ⊢
     subst hw
     generalize (c + q * v.getD i 0) / 1000000000 = Q at *
     generalize (c + q * v.getD i 0) % 1000000000 = R at *
     grind
   ·refine ⟨(o.set (k + i) (z - (c + w) % 1000000000 - b), 0, (c + w) / 1000000000, (i : Int) + 1), ?_, by dsimp only; omega, i + 1, rfl, by omega, by simp [h1], h2.set _ (by omega), .inl rfl, by dsimp only; omega, hc0, htk _, hdr _, ?_⟩
    ·rw [z1n]
     by_cases h : i < v.length
     ·simp (discharger := omega) only [runL, e1, hw, ho]
     ·have e := hz h
      subst e
      simp only [Int.add_zero] at hn ⊢
      simp (discharger := omega) only [runL, e1, ho]
    ·dsimp only
     rw [hset, tv, e2]
     rw [Int.pow_add] at h8 ⊢
     subst hw
     generalize (c + q * v.getD i 0) / 1000000000 = Q at *
     generalize (c + q * v.getD i 0) % 1000000000 = R at *
     grind
  ·left
   have : i = v.length + 1 := by omega
   subst this
   have hc := h5 rfl
   subst hc
   rw [List.take_of_length_le (by omega), Int.add_zero] at h8
   exact ⟨(o, b), by rw [z1n]; simp (discharger := omega) only [runL], h3, h1, h2, h6, h7, h8⟩
 obtain ⟨⟨u', b⟩, h1, h2⟩ := key
 exact ⟨b, u', by unfold z45; rw [h1]; rfl, h2⟩
theorem zna {u v : List Int} {k : Nat} (hk : k + v.length + 1 <= u.length) (hl : u.length <= 8000000) (hK : 2000000000 < K) (du : DigB 1000000000 u) (dv : DigB 1000000000 v) :
  ∃ (u' : List Int) (b : Int), z4v K u v k = some u' /\ (b = 0 \/ b = 1) /\ u'.length = u.length /\ DigB 1000000000 u' /\ u'.take k = u.take k /\ u'.drop (k + (v.length + 1)) = u.drop (k + (v.length + 1)) ∧
   valB 1000000000 u' + 1000000000 ^ (k + (v.length + 1)) * b = valB 1000000000 u + 1000000000 ^ k * valB 1000000000 v := by
 have key : ∃ r : List Int, z2i K v k K u 0 0 = some r /\ ∃ b : Int, (b = 0 \/ b = 1) /\ r.length = u.length /\ DigB 1000000000 r /\ r.take k = u.take k /\ r.drop (k + (v.length + 1)) = u.drop (k + (v.length + 1)) ∧
   valB 1000000000 r + 1000000000 ^ (k + (v.length + 1)) * b = valB 1000000000 u + 1000000000 ^ k * valB 1000000000 v := by
  refine zaw (fun m (s : List Int × Int × Int) => z2i K v k m s.1 s.2.1 s.2.2) (fun s => ∃ i : Nat, s.2.2 = i /\ i <= v.length + 1 /\ s.1.length = u.length /\ DigB 1000000000 s.1 /\ (s.2.1 = 0 \/ s.2.1 = 1) /\ s.1.take k = u.take k /\ s.1.drop (k + (v.length + 1)) = u.drop (k + (v.length + 1)) ∧
   valB 1000000000 s.1 + 1000000000 ^ (k + i) * s.2.1 = valB 1000000000 u + 1000000000 ^ k * valB 1000000000 (v.take i)) (fun s => (v.length + 1 - s.2.2 : Int).toNat) _ ?_ ((u, 0, 0) : List Int × Int × Int) (by simp; omega) ⟨0, rfl, by omega, rfl, du, .inl rfl, rfl, rfl, by simp [valB]⟩
  rintro m ⟨o, b, _⟩ ⟨i, rfl, h0, h1, h2, h3, h6, h7, h8⟩
  dsimp only at h1 h2 h3 h6 h7 h8 ⊢
  by_cases hi : i < v.length + 1
  ·right
   have ev := z24 (by omega) dv i
   have eo := z24 (by omega) h2 (k + i)
   have tv := z3t 1000000000 v i
   have e1 : ((k : Int) + (i : Int)) = ((k + i : Nat) : Int) := by omega
   have e2 : (1000000000 : Int) ^ (k + (i + 1)) = 1000000000 ^ k * 1000000000 ^ i * 1000000000 := by rw [<- Nat.add_assoc, Int.pow_succ, Int.pow_add]
   have hset := fun d => z7e 1000000000 o (k + i) d (by omega)
   have hz : ¬ i < v.length -> v.getD i 0 = 0 := fun h => zl8 (by omega)
   generalize hw : v.getD i 0 = w at ev hz tv
   generalize ho : o.getD (k + i) 0 = z at eo hset
   have hdm := Int.emod_add_mul_ediv (z + b + w) 1000000000
   have htk : ∀ d, (o.set (k + i) d).take k = u.take k := fun d => by rw [List.take_set_of_le (by omega), h6]
   have hdr : ∀ d, (o.set (k + i) d).drop (k + (v.length + 1)) = u.drop (k + (v.length + 1)) := fun d => by rw [List.drop_set_of_lt (by omega), h7]
   have hb2 : 0 <= b /\ b <= 1 := by rcases h3 with rfl | rfl <;> omega
   refine ⟨(o.set (k + i) ((z + b + w) % 1000000000), (z + b + w) / 1000000000, (i : Int) + 1), ?_, by dsimp only; omega, i + 1, rfl, by omega, by simp [h1], h2.set _ (by omega), by dsimp only; omega, htk _, hdr _, ?_⟩
   ·rw [z2i]
    by_cases h : i < v.length
    ·simp (discharger := omega) only [runL, e1, hw, ho]
    ·have e := hz h
     subst e
     simp only [Int.add_zero] at hdm ⊢
     simp (discharger := omega) only [runL, e1, ho]
   ·dsimp only
    rw [hset, tv, e2]
    rw [Int.pow_add] at h8
    generalize (z + b + w) / 1000000000 = Q at *
    generalize (z + b + w) % 1000000000 = R at *
    grind
  ·left
   have : i = v.length + 1 := by omega
   subst this
   rw [List.take_of_length_le (by omega)] at h8
   exact ⟨o, by rw [z2i]; simp (discharger := omega) only [runL], b, h3, h1, h2, h6, h7, h8⟩
 obtain ⟨u', h1, b, h2⟩ := key
 exact ⟨u', b, by unfold z4v; rw [h1]; rfl, h2⟩
theorem zm1 {u v : List Int} {k : Nat} {P vl top ul q g r : Int} (hn : 2 <= v.length) (hk : k + v.length + 1 <= u.length) (hl : u.length <= 8000000) (hK : 2000000000 < K)
  (h : Kn 1000000000 P (v.getD (v.length - 1) 0) (v.getD (v.length - 2) 0) vl top (u.getD (k + v.length - 2) 0) ul q) (hv : v.getD (v.length - 1) 0 < 1000000000) (ht : top < 1000000000 * v.getD (v.length - 1) 0 + 1000000000) (hr : top = g * v.getD (v.length - 1) 0 + r) (hg : q <= g) (hg2 : g < 2000000000) (hr0 : 0 <= r /\ r < 1000000000) :
  ∃ g', z2d K v u k K g r = some g' /\ q <= g' /\ g' <= q + 1 /\ g' < 1000000000 := by
 generalize hv1 : v.getD (v.length - 1) 0 = v1 at *
 generalize hv2 : v.getD (v.length - 2) 0 = v2 at *
 generalize hu3 : u.getD (k + v.length - 2) 0 = u3 at *
 have a1 := h.v1p
 have a2 := h.v2p
 have a3 := h.v2b
 have a4 := h.u3p
 have a5 := h.u3b
 have a6 := h.q0
 have a7 := h.qB
 refine zaw (fun m (s : Int × Int) => z2d K v u k m s.1 s.2) (fun s => top = s.1 * v1 + s.2 /\ q <= s.1 /\ s.1 < 2000000000 /\ 0 <= s.2 /\ s.2 < 1000000000) (fun s => (1000000000 - s.2).toNat) _ ?_ ((g, r) : Int × Int) ?_ ⟨hr, hg, hg2, hr0.1, hr0.2⟩
 ·rintro m ⟨g, r⟩ ⟨b1, b2, b3, b4, b5⟩
  dsimp only at b1 b2 b3 b4 b5 ⊢
  have f1 : idx v (z04 .i64 ((v.length : Int) - 1)) = some v1 := by
   rw [k64 (by omega) (by omega), idxI (by omega) (by omega), <- hv1]; congr 2; omega
  have f2 : idx v (z04 .i64 ((v.length : Int) - 2)) = some v2 := by
   rw [k64 (by omega) (by omega), idxI (by omega) (by omega), <- hv2]; congr 2; omega
  have f3 : idx u (z04 .i64 (z04 .i64 ((k : Int) + (v.length : Int)) - 2)) = some u3 := by
   rw [k64 (a := (k : Int) + (v.length : Int)) (by omega) (by omega), k64 (by omega) (by omega), idxI (by omega) (by omega), <- hu3]; congr 2; omega
  have m1 : 0 <= g * v2 := z93 (by omega) a2
  have m2 := z43 (show 0 <= g by omega) (show v2 <= 999999999 by omega)
  rw [z2d, f1, f2]
  generalize hw : g * v2 = w at m1 m2
  by_cases c : g >= 1000000000 \/ w > r * 1000000000 + u3
  ·have hqg : q < g := by
    rcases c with c | c
    ·omega
    ·exact h.down b1 (by omega) (by omega)
   have hc : (if (decide (g >= 1000000000)) = true then some true else ((some v2).bind fun x235 => (lt (z04 .i64 ((z04 .i64 ((k : Int) + (v.length : Int))) - 2)) fun x239 => ((idx u x239).bind fun x242 => (lt (z04 .u64 ((z04 .u64 (r * 1000000000)) + (IntKind.wrap .u64 x242))) fun x246 => (lt (decide ((z04 .u64 (g * (IntKind.wrap .u64 x235))) > x246)) fun x249 => some x249)))))) = some true := by
    by_cases c1 : g >= 1000000000
    ·rw [decide_eq_true c1]; rfl
    ·rw [decide_eq_false c1]
     simp only [z0i, lta, Bool.false_eq_true, if_false, f3]
     rw [u64w (a := v2) (by omega) (by omega), hw, u64w (a := u3) (by omega) (by omega), ku64 (a := w) (by omega) (by omega), ku64 (a := r * 1000000000) (by omega) (by omega), ku64 (a := r * 1000000000 + u3) (by omega) (by omega), decide_eq_true (by omega)]
   rw [hc]
   by_cases c2 : r + v1 >= 1000000000
   ·left
    have hgB : g <= 1000000000 := by
     refine Int.not_lt.1 fun hlt => ?_
     have := z43 (show 0 <= v1 by omega) (show 1000000001 <= g by omega)
     rw [Int.mul_comm v1 g] at this
     omega
    have hx := h.exitB (g := g - 1) (r := r + v1) (by rw [Int.sub_mul]; omega) (by omega) (by omega) c2
    refine ⟨g - 1, ?_, by omega, by omega, by omega⟩
    simp (discharger := omega) only [runL]
   ·right
    refine ⟨(g - 1, r + v1), ?_, by dsimp only; omega, by dsimp only; rw [Int.sub_mul]; omega, by dsimp only; omega, by dsimp only; omega, by dsimp only; omega, by dsimp only; omega⟩
    have e : decide (r + v1 >= 1000000000) = false := decide_eq_false c2
    simp (discharger := omega) only [runL, e, Bool.false_eq_true]
  ·left
   have c1 : ¬ g >= 1000000000 := fun x => c (.inl x)
   have c3 : ¬ w > r * 1000000000 + u3 := fun x => c (.inr x)
   have hx := h.exitA b1 (by omega) (by omega) (by omega)
   refine ⟨g, ?_, b2, hx, by omega⟩
   rw [decide_eq_false c1]
   simp only [z0i, lta, Bool.false_eq_true, if_false, f3]
   rw [u64w (a := v2) (by omega) (by omega), hw, u64w (a := u3) (by omega) (by omega), ku64 (a := w) (by omega) (by omega), ku64 (a := r * 1000000000) (by omega) (by omega), ku64 (a := r * 1000000000 + u3) (by omega) (by omega), decide_eq_false c3]
   simp only [z0i, tu1a, Bool.false_eq_true, if_false]
 ·dsimp only; omega
end Go.Am.Tryz
/- Plain law: quotient and remainder, greatest common divisor of the program's numbers. -/
namespace Go.Am.Tryz
open Go Go.Am Go.Proofs
variable {K : Nat}
theorem zis (u : List Int) (i j : Nat) : (u.drop i).getD j 0 = u.getD (i + j) 0 := by
 rw [zAb, List.getElem?_drop, zAb]
section
variable {p X Y V M HI LO U g q b c rr M1 M2 U1 U2 P v1 v2 vl t1 t2 t3 ul top : Int}
theorem kd1 : vl + P * v2 + P * 1000000000 * v1 = P * (1000000000 * v1 + v2) + vl := by grind
theorem kd2 : ul + P * t3 + P * 1000000000 * t2 + P * 1000000000 * 1000000000 * t1 = P * (1000000000 * (t1 * 1000000000 + t2) + t3) + ul := by grind
theorem kd3 (hu : U < p * 1000000000 * V) (hm : U = LO + p * (M + Y * 1000000000 * HI)) (h0 : 0 <= LO) (p0 : 0 < p) (Y0 : 0 < Y) (hV : V < Y) (hM : 0 <= M) (hH : 0 <= HI) : HI = 0 := by
 refine Int.le_antisymm (Int.not_lt.1 fun hlt => ?_) hH
 have a1 := z43 (Int.le_of_lt Y0) (show 1 <= HI by omega)
 have a2 := z43 (Int.le_of_lt p0) (show V + 1 <= Y by omega)
 have a3 := z43 (Int.le_of_lt p0) (show Y * 1000000000 <= M + Y * 1000000000 * HI by grind)
 grind
theorem kd4 (hu : U < p * 1000000000 * V) (hm : U = LO + p * (M + X * 0)) (h0 : 0 <= LO) (p0 : 0 < p) : M < 1000000000 * V := by
 refine Int.not_le.1 fun hle => ?_
 have a1 := z43 (Int.le_of_lt p0) hle
 grind
theorem kd5 (h : rr + V * q = M) (h0 : 0 <= rr) : q * V <= M := by grind
theorem kd5' (h : rr + V * q = M) (h0 : rr < V) : M < (q + 1) * V := by grind
theorem kd6 (hM : M = P * (1000000000 * top + t3) + ul) (hV : V = P * (1000000000 * v1 + v2) + vl) (h : M < 1000000000 * V) (P0 : 0 < P) (b2 : v2 < 1000000000) (b3 : 0 <= t3) (u0 : 0 <= ul) (vb : vl < P) : top < 1000000000 * v1 + 1000000000 := by
 refine Int.not_le.1 fun hle => ?_
 have a1 := z43 (Int.le_of_lt P0) (z43 (show (0:Int) <= 1000000000 by omega) hle)
 have a2 := z43 (Int.le_of_lt P0) (show v2 <= 999999999 by omega)
 have a3 := z93 (Int.le_of_lt P0) b3
 subst hM hV
 grind
theorem kd7 (p0 : 0 < p) (h1 : U1 = LO + p * (M1 + X * 0)) (h2 : U1 = U - p * (g * V) + p * X * b) (h3 : U = LO + p * (M + X * 0)) : M1 = M - g * V + X * b := by
 have : p * M1 = p * (M - g * V + X * b) := by grind
 exact Int.eq_of_mul_eq_mul_left (by omega) this
theorem kd8 (h : rr + V * q = M) (h1 : rr < V) (hV : 0 < V) (hm : M1 = M - g * V + X * 0) (h0 : 0 <= M1) (hq : q <= g) : g = q := by
 refine Int.le_antisymm (Int.not_lt.1 fun hlt => ?_) hq
 have a1 := z43 (Int.le_of_lt hV) (show q + 1 <= g by omega)
 grind
theorem kd9 (h : rr + V * q = M) (h0 : 0 <= rr) (hm : M1 = M - g * V + X * 1) (h1 : M1 < X) (hq : q <= g) (hq1 : g <= q + 1) : g = q + 1 := by
 refine Int.le_antisymm hq1 (Int.not_lt.1 fun hlt => ?_)
 have : g = q := by omega
 subst this
 grind
theorem kd10 (p0 : 0 < p) (h1 : U2 = LO + p * (M2 + X * 0)) (h2 : U2 + p * X * c = U1 + p * V) (h3 : U1 = LO + p * (M1 + X * 0)) (h4 : M1 = M - (q + 1) * V + X * 1) : M2 = M - q * V + X * (1 - c) := by
 have : p * M2 = p * (M - q * V + X * (1 - c)) := by grind
 exact Int.eq_of_mul_eq_mul_left (by omega) this
theorem kd11 (h : rr + V * q = M) (h0 : 0 <= rr) (hm : M2 = M - q * V + X * (1 - c)) (h1 : M2 < X) (hc : c = 0 \/ c = 1) : c = 1 := by
 rcases hc with rfl | rfl
 ·grind
 ·rfl
theorem kd12 (h1 : U1 = LO + p * (M1 + X * 0)) (hm : M1 = M - q * V) (h3 : U = LO + p * (M + X * 0)) : U1 + p * (q * V) = U := by grind
theorem kd13 (p0 : 0 < p) (h1 : U1 = LO + p * (M1 + X * 0)) (hm : M1 = M - q * V) (h : rr + V * q = M) (hr : rr < V) (hl : LO < p) : U1 < p * V := by
 have a1 := z43 (Int.le_of_lt p0) (show M1 + 1 <= V by grind)
 grind
end
theorem zit {u v : List Int} {i : Nat} (hn : 2 <= v.length) (hk : i + v.length + 1 <= u.length) (hl : u.length <= 8000000) (hK : 2000000000 < K) (du : DigB 1000000000 u) (cv : CanB 1000000000 v) (hu : valB 1000000000 u < 1000000000 ^ (i + 1) * valB 1000000000 v) :
  ∃ g b u1 u2 q, z2d K v u i K ((u.getD (i + v.length) 0 * 1000000000 + u.getD (i + v.length - 1) 0) / v.getD (v.length - 1) 0) ((u.getD (i + v.length) 0 * 1000000000 + u.getD (i + v.length - 1) 0) % v.getD (v.length - 1) 0) = some g /\ 0 <= g /\ g < 1000000000 ∧
   z45 K u v i g = some (b, u1) /\ (b = true -> z4v K u1 v i = some u2 /\ q = g - 1) /\ (b = false -> u2 = u1 /\ q = g) /\ 0 <= q /\ q < 1000000000 /\ u2.length = u.length /\ DigB 1000000000 u2 ∧
   valB 1000000000 u2 + 1000000000 ^ i * (q * valB 1000000000 v) = valB 1000000000 u /\ valB 1000000000 u2 < 1000000000 ^ i * valB 1000000000 v /\ 1 <= v.getD (v.length - 1) 0 /\ v.getD (v.length - 1) 0 < 1000000000 := by
 obtain ⟨n, hnv⟩ : ∃ n, v.length = n + 2 := ⟨v.length - 2, by omega⟩
 have dv := cv.1
 have ev1 := z24 (by omega) dv (n + 1)
 have ev2 := z24 (by omega) dv n
 have et1 := z24 (by omega) du (i + n + 2)
 have et2 := z24 (by omega) du (i + n + 1)
 have et3 := z24 (by omega) du (i + n)
 -- the divisor's leading digits
 have hv1 : 1 <= v.getD (n + 1) 0 := by
  have : v.getD (n + 1) 0 ≠ 0 := fun e => cv.2 (by
   rw [List.getLast?_eq_getElem?, hnv]
   have hi : n + 2 - 1 < v.length := by omega
   rw [zAb, zAh (by omega)] at e
   rw [zAh hi]
   simp at e ⊢
   exact e)
  omega
 have hV : valB 1000000000 v = 1000000000 ^ n * (1000000000 * v.getD (n + 1) 0 + v.getD n 0) + valB 1000000000 (v.take n) := by
  have h1 := z3t 1000000000 v n
  have h2 := z3t 1000000000 v (n + 1)
  rw [List.take_of_length_le (by omega)] at h2
  rw [h2, h1, Int.pow_succ, kd1]
 have hVn : valB 1000000000 v < 1000000000 ^ (n + 2) := by rw [<- hnv]; exact z5g (by omega) v dv
 -- the middle of what is divided
 have hmid := zir u i (n + 3) (by omega)
 have hM : valB 1000000000 ((u.drop i).take (n + 3)) = 1000000000 ^ n * (1000000000 * (u.getD (i + n + 2) 0 * 1000000000 + u.getD (i + n + 1) 0) + u.getD (i + n) 0) + valB 1000000000 ((u.drop i).take n) := by
  have h1 := z3t 1000000000 (u.drop i) n
  have h2 := z3t 1000000000 (u.drop i) (n + 1)
  have h3 := z3t 1000000000 (u.drop i) (n + 2)
  rw [zis] at h1 h2 h3
  rw [h3, h2, h1, Int.pow_succ 1000000000 (n + 1), Int.pow_succ 1000000000 n, <- Nat.add_assoc, <- Nat.add_assoc, kd2]
 have dlo := du.take i
 have lo0 := z14 (B := 1000000000) (by omega) _ dlo
 have lo1 := z5g (B := 1000000000) (by omega) _ dlo
 rw [List.length_take, Nat.min_eq_left (by omega)] at lo1
 have dmi := (du.drop i).take (n + 3)
 have mi0 := z14 (B := 1000000000) (by omega) _ dmi
 have dhi := du.drop (i + (n + 3))
 have hi0 := z14 (B := 1000000000) (by omega) _ dhi
 have p0 : 0 < (1000000000 : Int) ^ i := Int.pow_pos (by omega)
 have pn0 : 0 < (1000000000 : Int) ^ n := Int.pow_pos (by omega)
 have pn3 : 0 < (1000000000 : Int) ^ (n + 3) := Int.pow_pos (by omega)
 have ep1 : (1000000000 : Int) ^ (i + 1) = 1000000000 ^ i * 1000000000 := Int.pow_succ _ _
 have ep3 : (1000000000 : Int) ^ (n + 3) = 1000000000 ^ (n + 2) * 1000000000 := Int.pow_succ _ _
 have dul := (du.drop i).take n
 have ul0 := z14 (B := 1000000000) (by omega) _ dul
 have ul1 := z5g (B := 1000000000) (by omega) _ dul
 rw [List.length_take, List.length_drop, Nat.min_eq_left (by omega)] at ul1
 have dvl := dv.take n
 have vl0 := z14 (B := 1000000000) (by omega) _ dvl
 have vl1 := z5g (B := 1000000000) (by omega) _ dvl
 rw [List.length_take, Nat.min_eq_left (by omega)] at vl1
 have hmin := fun (g : Int) (hg : 0 <= g /\ g < 1000000000) => zm0 (K := K) (u := u) (v := v) (k := i) (q := g) hk hl hK hg du dv
 have hplu := fun (u1 : List Int) (h1 : u1.length = u.length) (d1 : DigB 1000000000 u1) => zna (K := K) (u := u1) (v := v) (k := i) (by omega) (by omega) hK d1 dv
 rw [show i + v.length = i + n + 2 by omega, show i + n + 2 - 1 = i + n + 1 by omega, show v.length - 1 = n + 1 by omega]
 generalize hVV : valB 1000000000 v = V at *
 generalize hMM : valB 1000000000 ((u.drop i).take (n + 3)) = M at *
 generalize hLL : valB 1000000000 (u.take i) = LO at *
 generalize hHH : valB 1000000000 (u.drop (i + (n + 3))) = HI at *
 have hV0 : 0 < V := by
  have := z43 (Int.le_of_lt pn0) (show 1 <= 1000000000 * v.getD (n + 1) 0 + v.getD n 0 by omega)
  omega
 have hHI : HI = 0 := by
  rw [ep3] at hmid
  rw [ep1] at hu
  exact kd3 hu hmid lo0 p0 (Int.pow_pos (by omega)) hVn mi0 hi0
 rw [hHI] at hmid
 have hMV : M < 1000000000 * V := by
  rw [ep1] at hu
  exact kd4 hu hmid lo0 p0
 -- the true digit
 have q0 : 0 <= M / V := Int.ediv_nonneg mi0 (by omega)
 have qB : M / V < 1000000000 := Int.ediv_lt_of_lt_mul hV0 hMV
 have hdm := Int.emod_add_mul_ediv M V
 have r0 := Int.emod_nonneg M (show V ≠ 0 by omega)
 have r1 := Int.emod_lt_of_pos M hV0
 generalize hq : M / V = q at *
 generalize M % V = rr at *
 have hkn : Kn 1000000000 (1000000000 ^ n) (v.getD (n + 1) 0) (v.getD n 0) (valB 1000000000 (v.take n)) (u.getD (i + n + 2) 0 * 1000000000 + u.getD (i + n + 1) 0) (u.getD (i + n) 0) (valB 1000000000 ((u.drop i).take n)) q := by
  refine ⟨by omega, pn0, hv1, ev2.1, ev2.2, vl0, vl1, by omega, et3.1, et3.2, ul0, ul1, q0, qB, ?_, ?_⟩
  ·rw [<- hM, <- hV]; exact kd5 hdm r0
  ·rw [<- hM, <- hV]; exact kd5' hdm r1
 have ht : u.getD (i + n + 2) 0 * 1000000000 + u.getD (i + n + 1) 0 < 1000000000 * v.getD (n + 1) 0 + 1000000000 := kd6 hM hV hMV pn0 ev2.2 et3.1 ul0 vl1
 generalize htop : u.getD (i + n + 2) 0 * 1000000000 + u.getD (i + n + 1) 0 = top at *
 have htd := Int.emod_add_mul_ediv top (v.getD (n + 1) 0)
 have hfirst := hkn.first
 have g2 : top / v.getD (n + 1) 0 < 2000000000 := Int.ediv_lt_of_lt_mul (by omega) (by omega)
 have rt0 := Int.emod_nonneg top (show v.getD (n + 1) 0 ≠ 0 by omega)
 have rt1 := Int.emod_lt_of_pos top (show 0 < v.getD (n + 1) 0 by omega)
 obtain ⟨g, w1, w2, w3, w4⟩ := zm1 (K := K) (u := u) (v := v) (k := i) (P := 1000000000 ^ n) (vl := valB 1000000000 (v.take n)) (top := top) (ul := valB 1000000000 ((u.drop i).take n)) (q := q) (g := top / v.getD (n + 1) 0) (r := top % v.getD (n + 1) 0) hn hk hl hK
  (by rw [hnv, show n + 2 - 1 = n + 1 by omega, show n + 2 - 2 = n by omega, show i + (n + 2) - 2 = i + n by omega]; exact hkn) (by rw [hnv, show n + 2 - 1 = n + 1 by omega]; omega) (by rw [hnv, show n + 2 - 1 = n + 1 by omega]; omega) (by rw [hnv, show n + 2 - 1 = n + 1 by omega, Int.mul_comm]; omega) hfirst g2 (by omega)
 obtain ⟨b, u1, m1, m2, m3, m4, m5, m6, m7⟩ := hmin g (by omega)
 have hmid1 := zir u1 i (n + 3) (by omega)
 have dm1 := (m4.drop i).take (n + 3)
 have m10 := z14 (B := 1000000000) (by omega) _ dm1
 have m11 := z5g (B := 1000000000) (by omega) _ dm1
 rw [List.length_take, List.length_drop, Nat.min_eq_left (by omega)] at m11
 rw [show i + (n + 3) = i + (v.length + 1) by omega, m6, show i + (v.length + 1) = i + (n + 3) by omega, hHH, hHI, m5, hLL] at hmid1
 rw [show i + (v.length + 1) = i + (n + 3) by omega, Int.pow_add] at m7
 generalize hM1 : valB 1000000000 ((u1.drop i).take (n + 3)) = M1 at *
 have hM1e : M1 = M - g * V + 1000000000 ^ (n + 3) * b := kd7 p0 hmid1 m7 hmid
 rcases m2 with rfl | rfl
 ·-- no borrow: the guess was right
  have hgq : g = q := kd8 hdm r1 hV0 hM1e m10 w2
  subst hgq
  have hM1f : M1 = M - g * V := by rw [hM1e]; omega
  exact ⟨g, false, u1, u1, g, w1, q0, w4, by simpa using m1, by simp, by simp, q0, qB, m3, m4, kd12 hmid1 hM1f hmid, kd13 p0 hmid1 hM1f hdm r1 lo1, hv1, ev1.2⟩
 ·have hgq : g = q + 1 := kd9 hdm r0 hM1e m11 w2 w3
  subst hgq
  obtain ⟨u2, c, s1, s2, s3, s4, s5, s6, s7⟩ := hplu u1 m3 m4
  have hmid2 := zir u2 i (n + 3) (by omega)
  have dm2 := (s4.drop i).take (n + 3)
  have m20 := z14 (B := 1000000000) (by omega) _ dm2
  have m21 := z5g (B := 1000000000) (by omega) _ dm2
  rw [List.length_take, List.length_drop, Nat.min_eq_left (by omega)] at m21
  rw [show i + (n + 3) = i + (v.length + 1) by omega, s6, m6, show i + (v.length + 1) = i + (n + 3) by omega, hHH, hHI, s5, m5, hLL] at hmid2
  rw [show i + (v.length + 1) = i + (n + 3) by omega, Int.pow_add] at s7
  generalize hM2 : valB 1000000000 ((u2.drop i).take (n + 3)) = M2 at *
  have hM2e : M2 = M - q * V + 1000000000 ^ (n + 3) * (1 - c) := kd10 p0 hmid2 s7 hmid1 hM1e
  have hc : c = 1 := kd11 hdm r0 hM2e m21 s2
  subst hc
  have hM2f : M2 = M - q * V := by rw [hM2e]; omega
  exact ⟨q + 1, true, u1, u2, q, w1, by omega, w4, by simpa using m1, fun _ => ⟨s1, by omega⟩, by simp, q0, qB, by omega, s4, kd12 hmid2 hM2f hmid, kd13 p0 hmid2 hM2f hdm r1 lo1, hv1, ev1.2⟩
end Go.Am.Tryz
/- Plain law: Div and Gcd of the program's numbers. -/
namespace Go.Am.Tryz
open Go Go.Am Go.Proofs
variable {K : Nat}
theorem kf1 {Y p Z V U U2 O q : Int} (h : U + O * V = Z) (h2 : U2 + p * (q * V) = U) : U2 + (O + p * (q - 0)) * V = Z := by grind
theorem zgr {o w v u1 u2 : List Int} {i m : Nat} {g q a1 a2 v1 : Int} {b : Bool} (hn : 2 <= v.length) (hk : i + v.length + 1 <= w.length) (hl : w.length <= 8000000) (ho : i < o.length) (h1 : w.getD (i + v.length) 0 = a1) (h2 : w.getD (i + v.length - 1) 0 = a2) (h3 : v.getD (v.length - 1) 0 = v1)
  (b1 : 0 <= a1 /\ a1 < 1000000000) (b2 : 0 <= a2 /\ a2 < 1000000000) (b3 : 1 <= v1 /\ v1 < 1000000000) (hg : 0 <= g /\ g < 1000000000) (hq : 0 <= q /\ q < 1000000000) (d1 : z2d K v w i K ((a1 * 1000000000 + a2) / v1) ((a1 * 1000000000 + a2) % v1) = some g) (d4 : z45 K w v i g = some (b, u1)) (d5 : b = true -> z4v K u1 v i = some u2 /\ q = g - 1) (d6 : b = false -> u2 = u1 /\ q = g) :
  z20 K v (m + 1) o w i = z20 K v m (o.set i q) u2 ((i : Int) - 1) := by
 have t1 : ((i : Int) + (v.length : Int)).toNat = i + v.length := by omega
 have t2 : ((i : Int) + (v.length : Int) - 1).toNat = i + v.length - 1 := by omega
 have t3 : ((v.length : Int) - 1).toNat = v.length - 1 := by omega
 have hq1 : 0 <= (a1 * 1000000000 + a2) / v1 := Int.ediv_nonneg (by omega) (by omega)
 have hq2 : (a1 * 1000000000 + a2) / v1 <= a1 * 1000000000 + a2 := Int.ediv_le_self _ (by omega)
 rw [z20]
 cases b with
 | true =>
  obtain ⟨p1, p2⟩ := d5 rfl
  subst p2
  clear d5 d6
  simp (discharger := omega) only [runL, t1, t2, t3, h1, h2, h3, d1, d4, p1]
 | false =>
  obtain ⟨p1, p2⟩ := d6 rfl
  subst p1 p2
  clear d5 d6
  simp (discharger := omega) only [runL, t1, t2, t3, h1, h2, h3, d1, d4, Bool.false_eq_true]
theorem zm2 {u v : List Int} {J : Nat} (hn : 2 <= v.length) (hJ : J + v.length = u.length) (hJ1 : 1 <= J) (hl : u.length <= 8000000) (hK : 2000000000 < K) (du : DigB 1000000000 u) (cv : CanB 1000000000 v) (hu : valB 1000000000 u < 1000000000 ^ J * valB 1000000000 v) :
  ∃ r : List Int × List Int, z20 K v K (List.replicate J 0) u ((J : Int) - 1) = some r /\ r.1.length = J /\ r.2.length = u.length /\ DigB 1000000000 r.1 /\ DigB 1000000000 r.2 /\ valB 1000000000 r.2 + valB 1000000000 r.1 * valB 1000000000 v = valB 1000000000 u /\ valB 1000000000 r.2 < valB 1000000000 v := by
 refine zaw (fun m (s : List Int × List Int × Int) => z20 K v m s.1 s.2.1 s.2.2) (fun s => ∃ j : Nat, s.2.2 = (j : Int) - 1 /\ j <= J /\ s.1.length = J /\ s.2.1.length = u.length /\ DigB 1000000000 s.1 /\ DigB 1000000000 s.2.1 /\ (∀ i < j, s.1.getD i 0 = 0) /\ valB 1000000000 s.2.1 + valB 1000000000 s.1 * valB 1000000000 v = valB 1000000000 u /\ valB 1000000000 s.2.1 < 1000000000 ^ j * valB 1000000000 v) (fun s => (s.2.2 + 1).toNat) _ ?_ ((List.replicate J 0, u, (J : Int) - 1) : List Int × List Int × Int) (by dsimp only; omega) ⟨J, rfl, Nat.le_refl _, by simp, rfl, .zeros (by omega) _, du, fun i hi => by simp [zAb, hi], by simp [za4], hu⟩
 rintro m ⟨o, w, _⟩ ⟨j, rfl, hj, h1, h2, h3, h4, h5, h6, h7⟩
 dsimp only at h1 h2 h3 h4 h5 h6 h7 ⊢
 by_cases h0 : j = 0
 ·subst h0
  left
  rw [Int.pow_zero, Int.one_mul] at h7
  exact ⟨(o, w), by rw [z20]; simp (discharger := omega) only [runL], h1, h2, h3, h4, h6, h7⟩
 ·right
  obtain ⟨i, rfl⟩ : ∃ i, j = i + 1 := ⟨j - 1, by omega⟩
  have e1 : ((i + 1 : Nat) : Int) - 1 = i := by omega
  rw [e1]
  obtain ⟨g, b, u1, u2, q, d1, d2, d3, d4, d5, d6, d7, d8, d9, d10, d11, d12, d13, d14⟩ := zit (K := K) (u := w) (v := v) (i := i) hn (by omega) (by omega) hK h4 cv h7
  have hz := h5 i (by omega)
  have hset := z7e 1000000000 o i q (by omega)
  rw [hz] at hset
  have et1 := z24 (by omega) h4 (i + v.length)
  have et2 := z24 (by omega) h4 (i + v.length - 1)
  have hrun := zgr (m := m) (o := o) (a1 := w.getD (i + v.length) 0) (a2 := w.getD (i + v.length - 1) 0) (v1 := v.getD (v.length - 1) 0) hn (show i + v.length + 1 <= w.length by omega) (by omega) (by omega) rfl rfl rfl et1 et2 ⟨d13, d14⟩ ⟨d2, d3⟩ ⟨d7, d8⟩ d1 d4 d5 d6
  refine ⟨(o.set i q, u2, (i : Int) - 1), hrun, by dsimp only; omega, i, rfl, by omega, by simp [h1], by dsimp only; omega, h3.set _ ⟨d7, d8⟩, d10, fun k hk => by dsimp only; rw [z82 (by omega), if_neg (by omega)]; exact h5 k (by omega), ?_, d12⟩
  dsimp only
  rw [hset]
  exact kf1 (Y := 0) h6 d11
theorem z9k {m n : Int} {x y : List Int} (hx : NumN m x) (hy : NumN n y) (h : m <= n) : x.length <= y.length := zei (B := 1000000000) (by omega) hx.1 hy.1.1 (by rw [hx.2, hy.2]; exact h)
theorem kf2 {a b c : Int} (hc : 0 < c) (hb : 0 < b) : (a * c) / (b * c) = a / b /\ (a * c) % (b * c) = (a % b) * c := by
 refine ⟨Int.mul_ediv_mul_of_pos_left a b hc, ?_⟩
 rw [Int.mul_comm a c, Int.mul_comm b c, Int.mul_emod_mul_of_pos a b hc, Int.mul_comm]
theorem zfy {x y : List Int} {a b : Int} (hx : x.length <= 3000000) (hy : y.length <= 3000000) (hK : 2000000000 < K) (nx : NumN a x) (ny : NumN b y) (hb : 0 < b) :
  ∃ q r, z53 K x y = some (q, r) /\ NumN (a / b) q /\ NumN (a % b) r /\ q.length <= x.length /\ r.length <= y.length := by
 have a0 := nx.nonneg
 suffices h : ∃ q r, z53 K x y = some (q, r) /\ NumN (a / b) q /\ NumN (a % b) r by
  obtain ⟨q, r, h1, h2, h3⟩ := h
  have e1 := Int.emod_lt_of_pos a hb
  exact ⟨q, r, h1, h2, h3, z9k h2 nx (Int.ediv_le_self _ a0), z9k h3 ny (by omega)⟩
 have hcmp := zfu (K := K) (by omega) (by omega) hK nx ny
 unfold z53
 rw [hcmp, z0i]
 by_cases hab : a < b
 ·refine ⟨[], x, ?_, by rw [Int.ediv_eq_zero_of_lt a0 hab]; exact .nil, by rw [Int.emod_eq_of_lt a0 hab]; exact nx⟩
  simp (discharger := omega) only [runL]
 ·have hcond : decide ((if a < b then (-1 : Int) else if a = b then 0 else 1) < 0) = false := by
   rw [if_neg hab]; split <;> rfl
  rw [hcond]
  simp only [Bool.false_eq_true, if_false]
  have hy0 : y.length ≠ 0 := fun e => by have := ny.len0.1 e; omega
  by_cases h1 : y.length = 1
  ·obtain ⟨d, rfl⟩ := List.length_eq_one_iff.1 h1
   have hd := ny.1.1 d (by simp)
   have hbd : b = d := by rw [<- ny.2]; simp [valB]
   subst hbd
   obtain ⟨q, r, s1, s2, s3, s4, s5⟩ := zfv (K := K) (x := x) (a := a) (d := b) (by omega) hK nx (by omega)
   refine ⟨q, r, ?_, s2, s3⟩
   have e0 : idx [b] 0 = some b := rfl
   rw [if_pos (by simp), e0, z0i, s1, z0i]
  ·rw [if_neg (by simp; omega)]
   obtain ⟨yr, d, hyd⟩ := za5 y (by rintro rfl; exact hy0 rfl)
   have hd := ny.1.1 d (by rw [hyd]; simp)
   have hidx : idx y (z04 .i64 ((y.length : Int) - 1)) = some d := by
    rw [k64 (by omega) (by omega), idxI (by omega) (by omega)]
    congr 1
    subst hyd
    rw [show ((((yr ++ [d]).length : Nat) : Int) - 1).toNat = yr.length by simp, zAb]
    simp
   have hby1 : 1 <= 1000000000 / (d + 1) := by
    rw [Int.le_ediv_iff_mul_le (by omega)]; omega
   have hby2 : 1000000000 / (d + 1) <= 1000000000 := Int.ediv_le_self _ (by omega)
   have hd1 : d ≠ 0 := fun e => ny.1.2 (by rw [hyd, e]; simp)
   have hby3 : 1000000000 / (d + 1) < 1000000000 := Int.ediv_lt_of_lt_mul (by omega) (by omega)
   rw [hidx, z0i, u64w (a := d) (by omega) (by omega), ku64 (a := d + 1) (by omega) (by omega), if_pos (by omega), zow (by omega), ku64 (by omega) (by omega), lta]
   rw [u32w (by omega) (by omega)]
   generalize 1000000000 / (d + 1) = c at hby1 hby2 hby3
   have nc : NumN c [c] := .one (by omega) hby3
   obtain ⟨u0, m1, m2, m3⟩ := zbx (K := K) (x := x) (y := [c]) (by simp; omega) hK nx nc
   obtain ⟨v, w1, w2, w3⟩ := zbx (K := K) (x := y) (y := [c]) (by simp; omega) hK ny nc
   simp only [List.length_singleton] at m3 w3
   have ac : a <= a * c := by have := z43 a0 hby1; omega
   have bc : b <= b * c := by have := z43 (show 0 <= b by omega) hby1; omega
   have abc : b * c <= a * c := Int.mul_le_mul_of_nonneg_right (by omega) (by omega)
   have lx := z9k nx m2 ac
   have ly := z9k ny w2 bc
   have hy2 : 2 <= y.length := by omega
   have hv2 : 2 <= v.length := by omega
   have lv := z9k w2 m2 abc
   have hl0 : z4c K x K (u0 ++ [0]) = some (u0 ++ [0]) := by
    obtain ⟨k, rfl⟩ : ∃ k, K = k + 1 := ⟨K - 1, by omega⟩
    rw [z4c]
    have e : decide (((u0 ++ [0]).length : Int) <= (x.length : Int)) = false := decide_eq_false (by simp; omega)
    rw [e]; rfl
   have du : DigB 1000000000 (u0 ++ [0]) := m2.1.1.snoc (by omega)
   have hvu : valB 1000000000 (u0 ++ [0]) = a * c := by rw [z8y, m2.2]; omega
   have hlen : (u0 ++ [(0 : Int)]).length = u0.length + 1 := by simp
   obtain ⟨J, hJ⟩ : ∃ J, J + v.length = u0.length + 1 := ⟨u0.length + 1 - v.length, by omega⟩
   have hbound : a * c < 1000000000 ^ J * (b * c) := by
    have b1 := z5g (B := 1000000000) (by omega) u0 m2.1.1
    have b2 := zih (B := 1000000000) (by omega) w2.1 (by intro e; rw [e] at hv2; simp at hv2)
    rw [m2.2] at b1
    rw [w2.2] at b2
    have pJ : (0 : Int) < 1000000000 ^ J := Int.pow_pos (by omega)
    have b3 := z43 (Int.le_of_lt pJ) b2
    rw [<- Int.pow_add, show J + (v.length - 1) = u0.length by omega] at b3
    omega
   obtain ⟨⟨o, w⟩, l1, l2, l3, l4, l5, l6, l7⟩ := zm2 (K := K) (u := u0 ++ [0]) (v := v) (J := J) (by omega) (by omega) (by omega) (by omega) hK du w2.1 (by rw [hvu, w2.2]; exact hbound)
   dsimp only at l2 l3 l4 l5 l6 l7
   rw [hvu, w2.2] at l6
   rw [w2.2] at l7
   have o0 := z14 (B := 1000000000) (by omega) o l4
   have w0 := z14 (B := 1000000000) (by omega) w l5
   have hbc0 : 0 < b * c := Int.mul_pos hb (by omega)
   obtain ⟨q1, q2⟩ := zby (n := a * c) (d := b * c) (q := valB 1000000000 o) (r := valB 1000000000 w) hbc0 (by rw [Int.mul_comm (b * c)]; omega) w0 l7
   obtain ⟨k1, k2⟩ := kf2 (a := a) (b := b) (c := c) (by omega) hb
   rw [k1] at q1
   rw [k2] at q2
   obtain ⟨t, t1, t2, t3, t4⟩ := zbw (K := K) (B := 1000000000) (l := w) (by omega) hK l5
   obtain ⟨z, z1, z2, z3, z4⟩ := zbw (K := K) (B := 1000000000) (l := o) (by omega) hK l4
   obtain ⟨rq, rr, s1, s2, s3, s4, s5⟩ := zfv (K := K) (x := t) (a := a % b * c) (d := c) (by omega) hK ⟨t2, by rw [t3]; exact q2⟩ (by omega)
   rw [Int.mul_ediv_cancel _ (by omega)] at s2
   refine ⟨z, rq, ?_, ⟨z2, by rw [z3]; exact q1⟩, s2⟩
   rw [m1, z0i, if_pos (by simp; omega), w1, z0i, hl0, z0i, tu1a, lta, hlen]
   have e1 : (((u0.length + 1 : Nat) : Int) - (v.length : Int)) = (J : Int) := by omega
   rw [e1, k64 (by omega) (by omega), if_pos (by omega), lta, k64 (by omega) (by omega), Int.toNat_natCast, l1, z0i, tu2a, t1, z0i, s1, z0i, z1, z0i]
theorem ziu (a b : Nat) (hb : 0 < b) : Nat.gcd b (a % b) = Nat.gcd a b := by
 rw [Nat.gcd_comm a b, Nat.gcd_rec b a, Nat.gcd_comm]
theorem zfz : ∀ (n k : Nat) {x y : List Int} {a b : Nat}, a * b < 2 ^ n -> b <= a -> n + 2 < k -> x.length <= 3000000 -> y.length <= 3000000 -> 2000000000 < K -> NumN a x -> NumN b y -> ∃ z, z18 K k x y = some z /\ NumN (Nat.gcd a b : Nat) z := by
 intro n
 induction n with
 | zero =>
  intro k x y a b hab hba hk hx hy hK nx ny
  have hb : b = 0 := by
   rcases Nat.eq_zero_or_pos b with h | h
   ·exact h
   ·have := Nat.mul_pos (show 0 < a by omega) h; omega
  subst hb
  obtain ⟨k, rfl⟩ : ∃ m, k = m + 1 := ⟨k - 1, by omega⟩
  have : y = [] := ny.nil_iff.2 rfl
  subst this
  exact ⟨x, by rw [z18]; rfl, by rw [Nat.gcd_zero_right]; exact nx⟩
 | succ n ih =>
  intro k x y a b hab hba hk hx hy hK nx ny
  obtain ⟨k, rfl⟩ : ∃ m, k = m + 1 := ⟨k - 1, by omega⟩
  by_cases hb : b = 0
  ·subst hb
   have : y = [] := ny.nil_iff.2 rfl
   subst this
   exact ⟨x, by rw [z18]; rfl, by rw [Nat.gcd_zero_right]; exact nx⟩
  ·obtain ⟨q, r, d1, d2, d3, d4, d5⟩ := zfy (K := K) hx hy hK nx ny (by omega)
   have e : ((a : Int) % (b : Int)) = ((a % b : Nat) : Int) := by simp
   rw [e] at d3
   have hr := Nat.mod_lt a (show 0 < b by omega)
   have hprod : b * (a % b) < 2 ^ n := by
    have h1 : b + a % b <= a := by
     have h2 := Nat.div_add_mod a b
     have h3 : 1 <= a / b := (Nat.le_div_iff_mul_le (by omega)).2 (by omega)
     have h4 := Nat.mul_le_mul_left b h3
     omega
    have h5 := Nat.mul_le_mul_left b (show 2 * (a % b) <= a by omega)
    rw [Nat.pow_succ] at hab
    have h6 : b * (2 * (a % b)) = 2 * (b * (a % b)) := by grind
    rw [Nat.mul_comm a b] at hab
    omega
   obtain ⟨z, z1, z2⟩ := ih k hprod (by omega) (by omega) hy (by omega) hK ny d3
   refine ⟨z, ?_, by rw [<- ziu a b (by omega)]; exact z2⟩
   have hy0 : y.length ≠ 0 := fun e => by have := ny.len0.1 e; omega
   rw [z18, if_pos (decide_eq_true (by omega)), d1, z0i, z1]
theorem zel {n : Nat} {x : List Int} (h : NumN n x) : n < 2 ^ (30 * x.length) := by
 have h1 := z5g (B := 1000000000) (by omega) x h.1.1
 rw [h.2] at h1
 have h2 : ((1000000000 : Nat) : Int) ^ x.length = ((1000000000 ^ x.length : Nat) : Int) := by simp
 have h3 : n < 1000000000 ^ x.length := by
  have h4 : (1000000000 : Int) = ((1000000000 : Nat) : Int) := rfl
  rw [h4, h2] at h1
  omega
 have h5 : (1000000000 : Nat) ^ x.length <= (2 ^ 30) ^ x.length := Nat.pow_le_pow_left (by decide) _
 rw [<- Nat.pow_mul] at h5
 omega
theorem zl9 {x y : List Int} {a b : Nat} (hx : x.length <= 3000000) (hy : y.length <= 3000000) (hK : 2000000000 < K) (nx : NumN a x) (ny : NumN b y) : ∃ z, z6j K x y = some z /\ NumN (Nat.gcd a b : Nat) z := by
 have hp : a * b < 2 ^ (30 * x.length + 30 * y.length) := by
  rw [Nat.pow_add]
  have h1 := zel nx
  have h2 := zel ny
  exact Nat.mul_lt_mul_of_lt_of_le h1 (Nat.le_of_lt h2) (Nat.pow_pos (by omega))
 have key : ∃ z, z18 K K x y = some z /\ NumN (Nat.gcd a b : Nat) z := by
  by_cases hba : b <= a
  ·exact zfz _ K hp hba (by omega) hx hy hK nx ny
  ·obtain ⟨k, hk⟩ : ∃ k, K = k + 1 := ⟨K - 1, by omega⟩
   obtain ⟨q, r, d1, d2, d3, d4, d5⟩ := zfy (K := K) hx hy hK nx ny (by omega)
   rw [Int.emod_eq_of_lt (by omega) (by omega)] at d3
   have hrx : r = x := d3.inj nx
   subst hrx
   obtain ⟨z, z1, z2⟩ := zfz (K := K) _ k (by rw [Nat.mul_comm]; exact hp) (by omega) (by omega) hy hx hK ny nx
   refine ⟨z, ?_, by rw [Nat.gcd_comm]; exact z2⟩
   have hy0 : y.length ≠ 0 := fun e => by have := ny.len0.1 e; omega
   have : z18 K K r y = z18 K (k + 1) r y := by rw [<- hk]
   rw [this, z18, if_pos (decide_eq_true (by omega)), d1, z0i, z1]
 obtain ⟨z, z1, z2⟩ := key
 exact ⟨z, by unfold z6j; rw [z1]; rfl, z2⟩
end Go.Am.Tryz
/- Plain law: the reference's quotient and divisor of texts. -/
namespace Go.Am.Tryz
open Go Go.Am Go.Proofs
variable {K : Nat}
theorem ziv {c : Int} (h : 48 <= c /\ c <= 57) : z05 (Utf8.encode c) = [c] /\ (Utf8.encode c).size = 1 := by
 obtain ⟨n, rfl⟩ : ∃ n : Nat, c = n := ⟨c.toNat, by omega⟩
 have hn : n = 48 \/ n = 49 \/ n = 50 \/ n = 51 \/ n = 52 \/ n = 53 \/ n = 54 \/ n = 55 \/ n = 56 \/ n = 57 := by omega
 rcases hn with rfl | rfl | rfl | rfl | rfl | rfl | rfl | rfl | rfl | rfl <;> exact ⟨by decide +kernel, by decide +kernel⟩
theorem ks1 {R b d R0 : Int} (h : R + (d - 48) * b = R0) : R - b + (d + 1 - 48) * b = R0 := by grind
theorem znb {b : zAd} {r0 : zAd} (hb : b.size <= 500000) (hr : r0.size <= 1000000) (hK : 2000000000 < K) (cb : CanT b) (c0 : CanT r0) (hb0 : 0 < numT b) (hlt : numT r0 < 10 * numT b) :
  ∃ r : zAd × Int, z3i K b K r0 48 = some r /\ CanT r.1 /\ (48 <= r.2 /\ r.2 <= 57) /\ numT r.1 + (r.2 - 48) * numT b = numT r0 /\ numT r.1 < numT b := by
 refine zaw (fun k (s : zAd × Int) => z3i K b k s.1 s.2) (fun s => CanT s.1 /\ s.1.size <= 1000000 /\ (48 <= s.2 /\ s.2 <= 57) /\ numT s.1 + (s.2 - 48) * numT b = numT r0) (fun s => (57 - s.2).toNat) _ ?_ ((r0, 48) : zAd × Int) (by dsimp only; omega) ⟨c0, hr, by dsimp only; omega, by dsimp only; omega⟩
 rintro k ⟨r, d⟩ ⟨h1, h2, h3, h4⟩
 dsimp only at h1 h2 h3 h4 ⊢
 have hcmp := zl7 (K := K) h1 cb
 have r0' := z3x h1.2.1
 by_cases hge : numT b <= numT r
 ·right
  obtain ⟨t, t1, t2, t3⟩ := zip (K := K) (a := r) (b := b) h2 (z4h h1 cb hge) (by have := h1.1; omega) (by omega) h1.2.1 cb.2.1 hge
  have hd : d <= 56 := by
   refine Int.not_lt.1 fun hlt2 => ?_
   have : d = 57 := by omega
   subst this
   omega
  refine ⟨(t, d + 1), ?_, by dsimp only; omega, t2, ?_, by dsimp only; omega, by dsimp only; rw [t3]; exact ks1 h4⟩
  ·rw [z3i, hcmp, z0i]
   rw [if_pos (decide_eq_true (by rw [if_neg (by omega)]; split <;> omega)), t1, z0i, ku8 (by omega) (by omega)]
  ·dsimp only
   have := z4h h1 t2 (by rw [t3]; omega)
   omega
 ·left
  refine ⟨(r, d), ?_, h1, h3, h4, by dsimp only; omega⟩
  rw [z3i, hcmp, z0i]
  have e : decide ((if numT r < numT b then (-1 : Int) else if numT r = numT b then 0 else 1) >= 0) = false := by
   rw [if_pos (by omega)]; rfl
  rw [e]; rfl
theorem ks3 {Q b R R2 A c d : Int} (h : Q * b + R = A) (h2 : R2 + d * b = R * 10 + c) : (Q * 10 + d) * b + R2 = A * 10 + c := by grind
theorem zkn {a b r0 : zAd} {f : Nat} (ha : a.size <= 500000) (hb : b.size <= 500000) (hK : 2000000000 < K) (da : (z05 a).all digT = true) (cb : CanT b) (hb0 : 0 < numT b) (hf : f <= a.size) (c0 : CanT r0) (hs0 : r0.size <= 500000) (h0 : numT r0 = numB ((z05 a).take f)) (hlt : numT r0 < numT b) :
  ∃ r : zAd × zAd, z3j K a b K ⟨#[48]⟩ r0 f = some r /\ r.1.size <= a.size + 1 /\ 0 < r.1.size /\ (z05 r.1).all digT = true /\ CanT r.2 /\ numT r.1 * numT b + numT r.2 = numT a /\ numT r.2 < numT b := by
 have hn := z01 a
 refine zaw (fun k (s : zAd × zAd × Int) => z3j K a b k s.1 s.2.1 s.2.2) (fun s => ∃ i : Nat, s.2.2 = i /\ i <= a.size /\ 0 < s.1.size /\ s.1.size <= i + 1 /\ (z05 s.1).all digT = true /\ CanT s.2.1 /\ numT s.1 * numT b + numT s.2.1 = numB ((z05 a).take i) /\ numT s.2.1 < numT b /\ s.2.1.size <= 500000) (fun s => (a.size - s.2.2 : Int).toNat) _ ?_ ((⟨#[48]⟩, r0, (f : Int)) : zAd × zAd × Int) (by dsimp only; omega) ⟨f, rfl, hf, by show 0 < 1; omega, by show 1 <= f + 1; omega, rfl, c0, by rw [<- h0]; show numT ⟨#[48]⟩ * numT b + numT r0 = numT r0; rw [z75]; omega, hlt, hs0⟩
 rintro k ⟨q, r, _⟩ ⟨i, rfl, h1, h2, h3, h4, h5, h6, h7, h8⟩
 dsimp only at h2 h3 h4 h5 h6 h7 h8 ⊢
 by_cases hi : i < a.size
 ·right
  have hc := zfx da (i := i) (by omega)
  have hsn := zfw (l := z05 a) (i := i) (by omega)
  generalize hcc : (z05 a).getD i 0 = c at hc hsn
  obtain ⟨e, he1, he2, he3⟩ : ∃ e, ssl a i ((i : Int) + 1) = some e /\ z05 e = [c] /\ e.size = 1 := by
   refine ⟨_, sslI (by omega) (by omega) (by omega), ?_, ?_⟩
   ·rw [z37, Int.toNat_natCast, show ((i : Int) + 1).toNat - i = 1 by omega, List.drop_eq_getElem_cons (by omega), List.take_succ_cons, List.take_zero]
    rw [zAb, zAh (by omega)] at hcc
    simpa using hcc
   ·rw [<- z01, z37, List.length_take, List.length_drop]; omega
  have hbr : z05 (r ++ e) = z05 r ++ [c] := by rw [z0u, he2]
  have hdr : (z05 (r ++ e)).all digT = true := by rw [hbr, List.all_append, h5.2.1]; simpa using digT_iff.2 hc
  have hsr : (r ++ e).size = r.size + 1 := by rw [<- z01, hbr, List.length_append, z01]; rfl
  obtain ⟨t, t1, t2, t3⟩ := zb8 (K := K) (s := r ++ e) (by omega) (by omega) (by omega) hdr
  have hnr : numT (r ++ e) = numT r * 10 + (c - 48) := by rw [zdi, hbr, zb6]; rfl
  have htl : numT t < 10 * numT b := by rw [t3, hnr]; omega
  have hts : t.size <= 1000000 := by
   have := z4h (b := t) (a := t) t2 t2 (Int.le_refl _)
   refine Nat.not_lt.1 fun hlt2 => ?_
   have g1 := zcs t2 (by omega)
   have g2 := zc0 hdr
   have g3 : (10 : Int) ^ (r ++ e).size <= 10 ^ (t.size - 1) := z7r (by omega) (by omega)
   omega
  obtain ⟨⟨r2, d⟩, s1, s2, s3, s4, s5⟩ := znb (K := K) (b := b) (r0 := t) hb hts hK cb t2 hb0 htl
  dsimp only at s2 s3 s4 s5
  obtain ⟨n1, n2⟩ := ziv s3
  have hbq : z05 (q ++ Utf8.encode d) = z05 q ++ [d] := by rw [z0u, n1]
  have hsq : (q ++ Utf8.encode d).size = q.size + 1 := by rw [<- z01, hbq, List.length_append, z01]; rfl
  have hr2s : r2.size <= 500000 := by
   have := z4h cb s2 (by omega)
   omega
  refine ⟨(q ++ Utf8.encode d, r2, (i : Int) + 1), ?_, by dsimp only; omega, i + 1, rfl, by omega, by dsimp only; omega, by dsimp only; omega, ?_, s2, ?_, s5, hr2s⟩
  ·rw [z3j, if_pos (decide_eq_true (by omega)), k64 (by omega) (by omega), he1, z0i, if_pos (by omega), t1, z0i, s1, z0i, tu2a, if_pos (by dsimp only; omega)]
  ·dsimp only; rw [hbq, List.all_append, h4]; simpa using digT_iff.2 s3
  ·dsimp only
   rw [hsn, zb6, zdi (q ++ Utf8.encode d), hbq, zb6]
   refine ks3 h6 ?_
   rw [s4, t3, hnr]
 ·left
  have : i = a.size := by omega
  subst this
  rw [List.take_of_length_le (by omega)] at h6
  exact ⟨(q, r), by rw [z3j]; simp (discharger := omega) only [runL], h3, h2, h4, h5, h6, h7⟩
theorem zg0 {a b : zAd} (ha : a.size <= 400000) (hb : b.size <= 400000) (hK : 2000000000 < K) (ca : CanT a) (cb : CanT b) (hb0 : 0 < numT b) :
  ∃ q r, z6x K a b = some (q, r) /\ CanT q /\ CanT r /\ numT q = numT a / numT b /\ numT r = numT a % numT b := by
 have hn := z01 a
 have hcb := cb.1
 obtain ⟨f, hf1, hf2, hf3⟩ : ∃ f : Nat, imin (a.size : Int) (z04 .i64 ((b.size : Int) - 1)) = f /\ f <= a.size /\ f <= b.size - 1 := by
  rw [k64 (by omega) (by omega)]
  unfold imin
  by_cases h : (b.size : Int) - 1 < a.size
  ·exact ⟨b.size - 1, by rw [if_pos h]; omega, by omega, by omega⟩
  ·exact ⟨a.size, by rw [if_neg h], by omega, by omega⟩
 have hx : ssl a 0 (f : Int) = some (a.extract 0 f) := by rw [sslI (by omega) (by omega) (by omega)]; rfl
 have hxb : z05 (a.extract 0 f) = (z05 a).take f := by rw [z37]; simp
 have hxs : (a.extract 0 f).size = f := by rw [<- z01, hxb, List.length_take]; omega
 have hzb : z05 ((⟨#[48]⟩ : zAd) ++ a.extract 0 f) = 48 :: (z05 a).take f := by rw [z0u, hxb]; rfl
 have hzs : ((⟨#[48]⟩ : zAd) ++ a.extract 0 f).size = f + 1 := by rw [<- z01, hzb, List.length_cons, List.length_take]; omega
 have hzd : (z05 ((⟨#[48]⟩ : zAd) ++ a.extract 0 f)).all digT = true := by rw [hzb, List.all_cons, zbz ca.2.1]; rfl
 obtain ⟨t, t1, t2, t3⟩ := zb8 (K := K) (s := (⟨#[48]⟩ : zAd) ++ a.extract 0 f) (by omega) (by omega) (by omega) hzd
 have hv : numT t = numB ((z05 a).take f) := by rw [t3, zdi, hzb, zb7]; simp
 have hlt : numT t < numT b := by
  have d1 := zcr (zbz ca.2.1 f)
  rw [List.length_take, Nat.min_eq_left (by omega)] at d1
  rw [hv]
  by_cases h2 : 2 <= b.size
  ·have d2 := zcs cb h2
   have d3 : (10 : Int) ^ f <= 10 ^ (b.size - 1) := z7r (by omega) hf3
   omega
  ·have : f = 0 := by omega
   subst this
   rw [List.take_zero, z9i]; exact hb0
 have hts : t.size <= 500000 := by
  have := z4h cb t2 (by omega)
  omega
 obtain ⟨⟨q, r⟩, s1, s2, s3, s4, s5, s6, s7⟩ := zkn (K := K) (a := a) (b := b) (r0 := t) (f := f) (by omega) (by omega) hK ca.2.1 cb hb0 hf2 t2 hts hv hlt
 dsimp only at s2 s3 s4 s5 s6 s7
 obtain ⟨u, u1, u2, u3⟩ := zb8 (K := K) (s := q) (by omega) s3 (by omega) s4
 obtain ⟨e1, e2⟩ := zby (n := numT a) (d := numT b) (q := numT q) (r := numT r) hb0 (by rw [Int.mul_comm]; omega) (z3x s5.2.1) s7
 refine ⟨u, r, ?_, u2, s5, by rw [u3, e1], e2⟩
 unfold z6x
 rw [hf1, hx, z0i, if_pos (by rw [hxs]; show 1 + f <= _; omega), t1, z0i, s1, z0i, tu2a, u1, z0i]
theorem zg1 : ∀ (n k : Nat) {x y : zAd} {a b : Nat}, a * b < 2 ^ n -> b <= a -> n + 2 < k -> x.size <= 400000 -> y.size <= 400000 -> 2000000000 < K -> CanT x -> CanT y -> numT x = a -> numT y = b -> ∃ z, z1r K k x y = some z /\ CanT z /\ numT z = (Nat.gcd a b : Nat) := by
 intro n
 have hend : ∀ (k : Nat) {x y : zAd} {a : Nat}, 0 < k -> CanT x -> CanT y -> numT x = a -> numT y = (0 : Nat) -> ∃ z, z1r K k x y = some z /\ CanT z /\ numT z = (Nat.gcd a 0 : Nat) := by
  intro k x y a hk cx cy nx ny
  obtain ⟨k, rfl⟩ : ∃ m, k = m + 1 := ⟨k - 1, by omega⟩
  have : y = ⟨#[48]⟩ := (zdk cy).1 (by simpa using ny)
  subst this
  have e : sEq (⟨#[48]⟩ : zAd) ⟨#[48]⟩ = true := sEq_iff.2 rfl
  exact ⟨x, by rw [z1r, e]; rfl, cx, by rw [Nat.gcd_zero_right]; exact nx⟩
 induction n with
 | zero =>
  intro k x y a b hab hba hk hx hy hK cx cy nx ny
  have hb : b = 0 := by
   rcases Nat.eq_zero_or_pos b with h | h
   ·exact h
   ·have := Nat.mul_pos (show 0 < a by omega) h; omega
  subst hb
  exact hend k (by omega) cx cy nx ny
 | succ n ih =>
  intro k x y a b hab hba hk hx hy hK cx cy nx ny
  by_cases hb : b = 0
  ·subst hb; exact hend k (by omega) cx cy nx ny
  ·obtain ⟨k, rfl⟩ : ∃ m, k = m + 1 := ⟨k - 1, by omega⟩
   obtain ⟨q, r, d1, d2, d3, d4, d5⟩ := zg0 (K := K) hx hy hK cx cy (by omega)
   rw [nx, ny] at d5
   have e : ((a : Int) % (b : Int)) = ((a % b : Nat) : Int) := by simp
   rw [e] at d5
   have hr := Nat.mod_lt a (show 0 < b by omega)
   have hprod : b * (a % b) < 2 ^ n := by
    have h1 : b + a % b <= a := by
     have h2 := Nat.div_add_mod a b
     have h3 : 1 <= a / b := (Nat.le_div_iff_mul_le (by omega)).2 (by omega)
     have h4 := Nat.mul_le_mul_left b h3
     omega
    have h5 := Nat.mul_le_mul_left b (show 2 * (a % b) <= a by omega)
    rw [Nat.pow_succ] at hab
    have h6 : b * (2 * (a % b)) = 2 * (b * (a % b)) := by grind
    rw [Nat.mul_comm a b] at hab
    omega
   have hrs := z4h cy d3 (by rw [ny, d5]; omega)
   obtain ⟨z, z1, z2, z3⟩ := ih k hprod (by omega) (by omega) hy (by omega) hK cy d3 ny d5
   refine ⟨z, ?_, z2, by rw [<- ziu a b (by omega)]; exact z3⟩
   have e0 : sEq y ⟨#[48]⟩ = false := by
    cases e : sEq y ⟨#[48]⟩ with
    | false => rfl
    | true => rw [sEq_iff] at e; subst e; rw [z75] at ny; omega
   rw [z1r, e0]
   simp only [Bool.not_false, if_true]
   rw [d1, z0i, z1]
theorem zct {n : Nat} {x : zAd} (h : (z05 x).all digT = true) (hn : numT x = n) : n < 2 ^ (4 * x.size) := by
 have h1 := zc0 h
 rw [hn] at h1
 have h2 : ((10 : Nat) : Int) ^ x.size = ((10 ^ x.size : Nat) : Int) := by simp
 have h3 : n < 10 ^ x.size := by
  have h4 : (10 : Int) = ((10 : Nat) : Int) := rfl
  rw [h4, h2] at h1
  omega
 have h5 : (10 : Nat) ^ x.size <= (2 ^ 4) ^ x.size := Nat.pow_le_pow_left (by decide) _
 rw [<- Nat.pow_mul] at h5
 omega
theorem zla {x y : zAd} {a b : Nat} (hx : x.size <= 400000) (hy : y.size <= 400000) (hK : 2000000000 < K) (cx : CanT x) (cy : CanT y) (nx : numT x = a) (ny : numT y = b) : ∃ z, z7n K x y = some z /\ CanT z /\ numT z = (Nat.gcd a b : Nat) := by
 have hp : a * b < 2 ^ (4 * x.size + 4 * y.size) := by
  rw [Nat.pow_add]
  exact Nat.mul_lt_mul_of_lt_of_le (zct cx.2.1 nx) (Nat.le_of_lt (zct cy.2.1 ny)) (Nat.pow_pos (by omega))
 have key : ∃ z, z1r K K x y = some z /\ CanT z /\ numT z = (Nat.gcd a b : Nat) := by
  by_cases hba : b <= a
  ·exact zg1 _ K hp hba (by omega) hx hy hK cx cy nx ny
  ·obtain ⟨k, hk⟩ : ∃ k, K = k + 1 := ⟨K - 1, by omega⟩
   obtain ⟨q, r, d1, d2, d3, d4, d5⟩ := zg0 (K := K) hx hy hK cx cy (by omega)
   rw [Int.emod_eq_of_lt (z3x cx.2.1) (by omega)] at d5
   have hrx : r = x := z9h d3 cx d5
   subst hrx
   obtain ⟨z, z1, z2, z3⟩ := zg1 (K := K) _ k (by rw [Nat.mul_comm]; exact hp) (by omega) (by omega) hy hx hK cy cx ny nx
   refine ⟨z, ?_, z2, by rw [Nat.gcd_comm]; exact z3⟩
   have e0 : sEq y ⟨#[48]⟩ = false := by
    cases e : sEq y ⟨#[48]⟩ with
    | false => rfl
    | true => rw [sEq_iff] at e; subst e; rw [z75] at ny; omega
   have : z1r K K r y = z1r K (k + 1) r y := by rw [<- hk]
   rw [this, z1r, e0]
   simp only [Bool.not_false, if_true]
   rw [d1, z0i, z1]
 obtain ⟨z, z1, z2⟩ := key
 exact ⟨z, by unfold z7n; rw [z1]; rfl, z2⟩
end Go.Am.Tryz
/- Plain law: a number's error. -/
namespace Go.Am.Tryz
open Go Go.Am Go.Proofs
variable {K : Nat} {s : zAd}
def digB (c : Int) : Bool := decide (48 <= c) && decide (c <= 57)
theorem zf8 : ∀ (l : List Int), runS (fun c (_ : Unit) => if digB c then .inr () else .inl (5 : Int)) l () = if l.all digB then .inr () else .inl 5
 | [] => rfl
 | x :: l => by
  simp only [runS, List.all_cons]
  by_cases hp : digB x = true
  ·simp only [hp, if_true, Bool.true_and, Sum.elim_inr]; exact zf8 l
  ·simp [hp]
theorem znc {α : Type} (c : Int) (A B : Option α) : Option.bind (if (decide (c < 48)) = true then some true else some (decide (c > 57))) (tu1 fun x => if x = true then A else B) = if digB c = true then B else A := by
 unfold digB
 by_cases h1 : c < 48 <;> by_cases h2 : c > 57 <;> simp [h1, h2, tu1, show ¬ (48 : Int) <= c ↔ c < 48 by omega] <;> (try split) <;> (try omega) <;> rfl
theorem zgs (hs : s.size <= 1048576) (hK : s.size < K) : z1m K s K 0 = some (if (z05 s).all digB then .inr () else .inl 5) := by
 have hn := z01 s
 have h : z1m K s K 0 = _ := zfs (z05 s) (fun k (_ : Unit) i => z1m K s k i) (fun c (_ : Unit) => if digB c then .inr () else .inl (5 : Int)) (fun _ _ => True)
  (fun k _ i x hx _ => by
   have hi := (zAi hx).1
   show z1m K s (k + 1) i = _
   rw [z1m, zk7 hi, if_pos rfl, z41 hx]
   simp only [Option.bind_some, znc, kw1 hi (by omega)]
   cases digB x <;> simp)
  (fun _ _ _ _ _ _ _ => trivial)
  (fun k _ i hi => by
   show z1m K s (k + 1) i = _
   rw [z1m, zfr hi]; simp) K () (by omega) trivial
 rw [h, zf8]
theorem ziw (hs : s.size <= 1048576) (hK : s.size < K) : z16 K s K 0 = some (if (z05 s).all digB then .inr () else .inl 5) := by
 have hn := z01 s
 have h : z16 K s K 0 = _ := zfs (z05 s) (fun k (_ : Unit) i => z16 K s k i) (fun c (_ : Unit) => if digB c then .inr () else .inl (5 : Int)) (fun _ _ => True)
  (fun k _ i x hx _ => by
   have hi := (zAi hx).1
   show z16 K s (k + 1) i = _
   rw [z16, <- hn, zk7 hi, if_pos rfl, za3, z41 hx]
   simp only [Option.bind_some, znc, kw1 hi (by omega)]
   cases digB x <;> simp)
  (fun _ _ _ _ _ _ _ => trivial)
  (fun k _ i hi => by
   show z16 K s (k + 1) i = _
   rw [z16, <- hn, zfr hi]; simp) K () (by omega) trivial
 rw [h, zf8]
def natE (s : zAd) : Int := if s.size = 0 then 5 else if (z05 s).head? = some 48 /\ s.size > 1 then 5 else if !(z05 s).all digB then 5 else if s.size > 2000 then 2 else 0
theorem znd : sEq s ⟨#[]⟩ = (s.size == 0) := by
 cases hq : sEq s ⟨#[]⟩ with
 | true => rw [sEq_iff] at hq; subst hq; rfl
 | false =>
  have : s.size ≠ 0 := fun h => by
   have : s = ⟨#[]⟩ := by
    cases s with
    | mk d => congr 1; exact Array.eq_empty_of_size_eq_zero h
   rw [sEq_iff.2 this] at hq; cases hq
  simp [this]
theorem zix (h : s.size ≠ 0) : ∃ c, bidx s 0 = some c /\ (z05 s).head? = some c := by
 have hn := z01 s
 cases hb : z05 s with
 | nil => rw [hb] at hn; simp at hn; omega
 | cons c l => exact ⟨c, by rw [za3, hb]; rfl, rfl⟩
theorem zem (hs : s.size <= 1048576) (hK : s.size < K) : z6i K s = some (natE s) := by
 unfold z6i natE
 rw [zgs hs hK, znd]
 by_cases h0 : s.size = 0
 ·simp [h0, tu1]
 ·obtain ⟨c, h1, h2⟩ := zix h0
  rw [h1, h2]
  have h0' : (s.size == 0) = false := by simpa using h0
  by_cases hc : c = 48 <;> by_cases h3 : s.size > 1 <;> by_cases h4 : s.size > 2000 <;> cases h5 : (z05 s).all digB <;>
   simp [h0, h0', hc, h3, h4, h5, tu1, tu0, z9q, show ((s.size : Int) > 1) ↔ s.size > 1 by omega, show ((s.size : Int) > 2000) ↔ s.size > 2000 by omega] <;> omega
theorem zba (hs : s.size <= 1048576) (hK : s.size < K) : z5p K s = some (natE s) := by
 unfold z5p natE
 rw [ziw hs hK]
 by_cases h0 : s.size = 0
 ·simp [h0, tu1]
 ·obtain ⟨c, h1, h2⟩ := zix h0
  rw [h1, h2]
  have h0' : ((s.size : Int) == 0) = false := by rw [beq_eq_false_iff_ne]; omega
  by_cases hc : c = 48 <;> by_cases h3 : s.size > 1 <;> by_cases h4 : s.size > 2000 <;> cases h5 : (z05 s).all digB <;>
   simp [h0, h0', hc, h3, h4, h5, tu1, tu0, z9q, show ((s.size : Int) > 1) ↔ s.size > 1 by omega, show ((s.size : Int) > 2000) ↔ s.size > 2000 by omega] <;> omega
theorem zne : digB = digT := rfl
theorem zay (s : zAd) : natE s = 0 ↔ CanT s /\ s.size <= 2000 := by
 unfold natE CanT
 rw [zne]
 by_cases h0 : s.size = 0
 ·simp [h0]
 ·by_cases h1 : (z05 s).head? = some 48 /\ s.size > 1
  ·rw [if_neg h0, if_pos h1]
   constructor
   ·intro h; cases h
   ·rintro ⟨⟨_, _, h⟩, _⟩; have := h h1.1; omega
  ·rw [if_neg h0, if_neg h1]
   cases h2 : (z05 s).all digT with
   | false => simp
   | true =>
    simp only [Bool.not_true, Bool.false_eq_true, if_false]
    by_cases h3 : s.size > 2000
    ·rw [if_pos h3]; constructor
     ·intro h; cases h
     ·rintro ⟨_, h⟩; omega
    ·rw [if_neg h3]
     exact ⟨fun _ => ⟨⟨h0, trivial, fun e => by
      refine Nat.le_antisymm (Nat.not_lt.1 fun h => h1 ⟨e, h⟩) (by omega)⟩, by omega⟩, fun _ => rfl⟩
theorem zal (s : zAd) : sEq s s = true := sEq_iff.2 rfl
end Go.Am.Tryz
/- Plain law: lists of texts; one. -/
namespace Go.Am.Tryz
open Go Go.Am Go.Proofs
variable {K : Nat}
theorem zof {s t : zAd} (h : s ≠ t) : sEq s t = false := by
 cases e : sEq s t with
 | false => rfl
 | true => exact absurd (sEq_iff.1 e) h
theorem zg2 (hK : 2000000000 < K) : z8l K 1 = some [1] := by
 obtain ⟨k, rfl⟩ : ∃ k, K = k + 2 := ⟨K - 2, by omega⟩
 unfold z8l
 have e1 : decide ((1 : Int) > 0) = true := rfl
 have e2 : IntKind.wrap .u32 (Int.tmod 1 1000000000) = 1 := rfl
 have e3 : z04 .i64 (Int.tdiv 1 1000000000) = 0 := rfl
 have e4 : decide ((0 : Int) > 0) = false := rfl
 rw [z6k, e1, if_pos rfl, e2, e3, if_pos (by decide), z6k, e4]
 rfl
end Go.Am.Tryz
/- Plain lemmas: rational numbers, their signs, parts and sizes. -/
namespace Go.Am
def sgn (neg : Bool) (n : Nat) : Int := if neg then -(n : Int) else n
theorem ziy (neg : Bool) (n : Nat) : (sgn neg n).natAbs = n := by unfold sgn; split <;> omega
theorem zcu (x : Rat) : sgn (decide (x.num < 0)) x.num.natAbs = x.num := by unfold sgn; by_cases h : x.num < 0 <;> simp [h] <;> omega
theorem zko (neg : Bool) (n d : Nat) (hd : d ≠ 0) : (mkRat (sgn neg n) d).num.natAbs = n / Nat.gcd n d := by
 rw [Rat.num_mkRat, if_neg hd, ziy, Nat.gcd_comm]
 unfold sgn
 cases neg with
 | false => simp; rfl
 | true =>
  simp only [if_true]
  have h : (Nat.gcd n d : Int) ∣ (n : Int) := Int.natCast_dvd_natCast.2 (Nat.gcd_dvd_left n d)
  rw [Int.neg_ediv_of_dvd h, Int.natAbs_neg]
  rfl
theorem zkp (neg : Bool) (n d : Nat) (hd : d ≠ 0) : (mkRat (sgn neg n) d).den = d / Nat.gcd n d := by
 rw [Rat.den_mkRat, if_neg hd, ziy, Nat.gcd_comm]
theorem zm3 (neg : Bool) (n d : Nat) (hd : d ≠ 0) (hn : n ≠ 0) : decide ((mkRat (sgn neg n) d).num < 0) = neg := by
 have h0 : n / Nat.gcd n d ≠ 0 := by
  have := Nat.gcd_pos_of_pos_left d (show 0 < n by omega)
  have h2 := Nat.le_of_dvd (by omega) (Nat.gcd_dvd_left n d)
  have := Nat.div_pos h2 this
  omega
 rw [Rat.num_mkRat, if_neg hd, ziy, Nat.gcd_comm]
 have h : (Nat.gcd n d : Int) ∣ (n : Int) := Int.natCast_dvd_natCast.2 (Nat.gcd_dvd_left n d)
 obtain ⟨q, hq, hq0⟩ : ∃ q : Nat, (n : Int) / (Nat.gcd n d : Int) = (q : Int) /\ q ≠ 0 := ⟨n / Nat.gcd n d, by simp, h0⟩
 unfold sgn
 cases neg with
 | false => simp only [Bool.false_eq_true, if_false, hq]; exact decide_eq_false (by omega)
 | true => simp only [if_true]; rw [Int.neg_ediv_of_dvd h, hq]; exact decide_eq_true (by omega)
theorem ziz (x y : Rat) : x * y = mkRat (sgn (decide (x.num < 0) != decide (y.num < 0)) (x.num.natAbs * y.num.natAbs)) (x.den * y.den) := by
 rw [Rat.mul_def']
 congr 1
 conv => lhs; rw [<- zcu x, <- zcu y]
 generalize x.num.natAbs = a
 generalize y.num.natAbs = b
 unfold sgn
 cases decide (x.num < 0) <;> cases decide (y.num < 0) <;> simp [Int.mul_neg, Int.neg_mul]
def Dl (x : Rat) (N : Nat) : Prop := x.num.natAbs < 10 ^ N /\ x.den < 10 ^ N
theorem Dl.mono {x : Rat} {N M : Nat} (h : Dl x N) (hN : N <= M) : Dl x M := ⟨Nat.lt_of_lt_of_le h.1 (Nat.pow_le_pow_right (by omega) hN), Nat.lt_of_lt_of_le h.2 (Nat.pow_le_pow_right (by omega) hN)⟩
theorem Dl.mk (neg : Bool) {n d N : Nat} (hd : d ≠ 0) (hn : n < 10 ^ N) (hd2 : d < 10 ^ N) : Dl (mkRat (sgn neg n) d) N := by
 refine ⟨?_, ?_⟩
 ·rw [zko neg n d hd]; exact Nat.lt_of_le_of_lt (Nat.div_le_self _ _) hn
 ·rw [zkp neg n d hd]; exact Nat.lt_of_le_of_lt (Nat.div_le_self _ _) hd2
theorem z4q {a b N M : Nat} (h : a < 10 ^ N) (k : b < 10 ^ M) : a * b < 10 ^ (N + M) := by
 rw [Nat.pow_add]
 exact Nat.mul_lt_mul_of_lt_of_le h (Nat.le_of_lt k) (Nat.pow_pos (by omega))
theorem Dl.mul {x y : Rat} {N M : Nat} (h : Dl x N) (k : Dl y M) : Dl (x * y) (N + M) := by
 rw [ziz]
 exact .mk _ (Nat.mul_ne_zero x.den_nz y.den_nz) (z4q h.1 k.1) (z4q h.2 k.2)
theorem Dl.zero : Dl 0 1 := ⟨by decide, by decide⟩
theorem Dl.one : Dl 1 1 := ⟨by decide, by decide⟩
theorem znf (a : Int) : a = sgn (decide (a < 0)) a.natAbs := by unfold sgn; by_cases h : a < 0 <;> simp [h] <;> omega
theorem Dl.add {x y : Rat} {N M : Nat} (h : Dl x N) (k : Dl y M) : Dl (x + y) (N + M + 1) := by
 rw [Rat.add_def']
 rw [znf (x.num * y.den + y.num * x.den)]
 have h1 := z4q h.1 k.2
 have h2 := z4q k.1 h.2
 have h3 : (x.num * (y.den : Int) + y.num * (x.den : Int)).natAbs <= x.num.natAbs * y.den + y.num.natAbs * x.den := by
  refine Nat.le_trans (Int.natAbs_add_le _ _) ?_
  rw [Int.natAbs_mul, Int.natAbs_mul]; simp
 rw [Nat.add_comm M N] at h2
 refine .mk _ (Nat.mul_ne_zero x.den_nz y.den_nz) ?_ ?_
 ·rw [Nat.pow_succ]; omega
 ·have := z4q h.2 k.2
  rw [Nat.pow_succ]; omega
theorem Dl.neg {x : Rat} {N : Nat} (h : Dl x N) : Dl (-x) N := ⟨by rw [Rat.neg_num, Int.natAbs_neg]; exact h.1, by rw [Rat.neg_den]; exact h.2⟩
theorem Dl.sub {x y : Rat} {N M : Nat} (h : Dl x N) (k : Dl y M) : Dl (x - y) (N + M + 1) := by
 rw [Rat.sub_eq_add_neg]; exact h.add k.neg
theorem Dl.pos {x : Rat} {N : Nat} (h : Dl x N) : 1 <= N := by
 refine Nat.not_lt.1 fun hlt => ?_
 have : N = 0 := by omega
 subst this
 have := h.2
 have := x.den_pos
 simp at *; omega
end Go.Am
/- Plain law: the parts of a rational number's text; its error. -/
namespace Go.Am.Tryz
open Go Go.Am Go.Proofs
variable {K : Nat}
structure Sp (s : zAd) (neg : Bool) (n : zAd) (many : Bool) (d : zAd) : Prop where
 eq : z05 s = (if neg then [45] else []) ++ (z05 n ++ (if many then 47 :: z05 d else []))
 no : 47 ∉ z05 n
 hd : neg = false -> (z05 s).head? ≠ some 45
theorem zen {x : Int} : ∀ {l1 l2 r1 r2 : List Int}, l1 ++ r1 = l2 ++ r2 -> x ∉ l1 -> x ∉ l2 -> (r1 = [] \/ r1.head? = some x) -> (r2 = [] \/ r2.head? = some x) -> l1 = l2 /\ r1 = r2
 | [], [], _, _, h, _, _, _, _ => ⟨rfl, by simpa using h⟩
 | [], b :: l2, r1, r2, h, _, h2, h3, _ => by
  simp only [List.nil_append, List.cons_append] at h
  subst h
  simp at h3
  subst h3
  simp at h2
 | a :: l1, [], r1, r2, h, h1, _, _, h4 => by
  simp only [List.nil_append, List.cons_append] at h
  subst h
  simp at h4
  subst h4
  simp at h1
 | a :: l1, b :: l2, r1, r2, h, h1, h2, h3, h4 => by
  simp only [List.cons_append, List.cons.injEq] at h
  obtain ⟨rfl, h⟩ := h
  obtain ⟨e1, e2⟩ := zen h (fun hx => h1 (by simp [hx])) (fun hx => h2 (by simp [hx])) h3 h4
  exact ⟨by rw [e1], e2⟩
theorem Sp.uniq {s n d n' d' : zAd} {neg neg' many many' : Bool} (h : Sp s neg n many d) (k : Sp s neg' n' many' d') : neg = neg' /\ n = n' /\ many = many' /\ (many = true -> d = d') := by
 have e1 : neg = neg' := by
  cases neg <;> cases neg'
  ·rfl
  ·have := h.hd rfl; rw [k.eq] at this; simp at this
  ·have := k.hd rfl; rw [h.eq] at this; simp at this
  ·rfl
 subst e1
 have e2 := List.append_cancel_left (h.eq.symm.trans k.eq)
 obtain ⟨e3, e4⟩ := zen e2 h.no k.no (by cases many <;> simp) (by cases many' <;> simp)
 refine ⟨rfl, z4g e3, ?_⟩
 cases many <;> cases many'
 ·exact ⟨rfl, fun h => by cases h⟩
 ·simp at e4
 ·simp at e4
 ·simp at e4; exact ⟨rfl, fun _ => z4g e4⟩
theorem Sp.size {s n d : zAd} {neg many : Bool} (h : Sp s neg n many d) : n.size <= s.size /\ (many = true -> d.size <= s.size) := by
 have := congrArg List.length h.eq
 simp only [List.length_append, z01] at this
 refine ⟨by omega, fun hm => ?_⟩
 subst hm
 simp only [if_true, List.length_cons, z01] at this
 omega
theorem z68 (s : zAd) {i j : Nat} (h : i <= j) (hj : j <= s.size) : z05 (s.extract i j) = ((z05 s).drop i).take (j - i) /\ (s.extract i j).size = j - i := by
 have h1 := z37 s i j
 refine ⟨h1, ?_⟩
 rw [<- z01, h1, List.length_take, List.length_drop, z01]; omega
theorem zf9 (K : Nat) (s : zAd) : ∃ s1 neg, z1l K s ⟨#[45]⟩ = some (s1, neg) /\ z05 s = (if neg then [45] else []) ++ z05 s1 /\ (neg = false -> (z05 s).head? ≠ some 45) /\ s1.size <= s.size := by
 unfold z1l z10 z0z
 have hn := z01 s
 have e1 : ((⟨#[45]⟩ : zAd).size : Int) = 1 := rfl
 rw [e1]
 by_cases h0 : s.size = 0
 ·have hb : z05 s = [] := List.length_eq_zero_iff.1 (by omega)
  refine ⟨s, false, ?_, by simp, fun _ => by rw [hb]; simp, Nat.le_refl _⟩
  rw [h0]
  rfl
 ·obtain ⟨c, l, hc⟩ : ∃ c l, z05 s = c :: l := by
   cases hb : z05 s with
   | nil => rw [hb] at hn; simp at hn; omega
   | cons c l => exact ⟨c, l, rfl⟩
  have hx : ssl s 0 1 = some (s.extract 0 1) := by rw [sslI (by omega) (by omega) (by omega)]; rfl
  have hxb : z05 (s.extract 0 1) = [c] := by rw [(z68 s (by omega) (by omega)).1, hc]; rfl
  rw [decide_eq_true (by omega), if_pos rfl, hx, z0i, z0i, tu1a, z0i]
  by_cases h45 : c = 45
  ·have he : sEq (s.extract 0 1) ⟨#[45]⟩ = true := sEq_iff.2 (z4g (by rw [hxb, h45]; rfl))
   obtain ⟨t, t1, t2, t3⟩ := zbv hc
   refine ⟨t, true, ?_, by rw [hc, t2, h45]; rfl, fun h => by (cases h), by rw [hc] at hn; simp at hn; omega⟩
   rw [he]
   simp only [Bool.not_true, Bool.false_eq_true, if_false]
   rw [t1, z0i, z0i]
  ·have he : sEq (s.extract 0 1) ⟨#[45]⟩ = false := zof (fun e => by
    have := congrArg z05 e
    rw [hxb] at this
    have e2 : z05 (⟨#[45]⟩ : zAd) = [45] := rfl
    rw [e2] at this
    simp at this; exact h45 this)
   refine ⟨s, false, ?_, by simp, fun _ => by rw [hc]; simpa using h45, Nat.le_refl _⟩
   rw [he]
   rfl
theorem za6 (c : UInt8) : ∀ (l : List UInt8), (Lib.indexByte l c = -1 /\ c ∉ l) \/ ∃ i : Nat, Lib.indexByte l c = i /\ i < l.length /\ l[i]? = some c /\ c ∉ l.take i
 | [] => .inl ⟨rfl, by simp⟩
 | b :: l => by
  rw [Lib.indexByte]
  by_cases hb : b = c
  ·subst hb; exact .inr ⟨0, by simp, by simp, by simp, by simp⟩
  ·have hb' : (b == c) = false := by simpa using hb
   rw [hb']
   rcases za6 c l with ⟨h1, h2⟩ | ⟨i, h1, h2, h3, h4⟩
   ·refine .inl ⟨by rw [h1]; rfl, ?_⟩
    simp only [List.mem_cons, not_or]
    exact ⟨fun e => hb e.symm, h2⟩
   ·refine .inr ⟨i + 1, ?_, by simp; omega, by simpa using h3, ?_⟩
    ·rw [h1]
     have : ((i : Int) == -1) = false := by rw [beq_eq_false_iff_ne]; omega
     rw [this]
     simp
    ·rw [List.take_succ_cons]
     simp only [List.mem_cons, not_or]
     exact ⟨fun e => hb e.symm, h4⟩
theorem zg3 {c : UInt8} {l : List UInt8} (h : ((c.toNat : Nat) : Int) ∈ l.map (fun b => (b.toNat : Int))) : c ∈ l := by
 rw [List.mem_map] at h
 obtain ⟨b, hb, he⟩ := h
 have : b = c := UInt8.toNat_inj.1 (by omega)
 subst this; exact hb
theorem zog {s : zAd} (hs : s.size <= 1048576) : ∃ n d many, z44 K s ⟨#[47]⟩ = some (n, d, many) /\ z05 s = z05 n ++ (if many then 47 :: z05 d else []) /\ 47 ∉ z05 n /\ (many = false -> d = ⟨#[]⟩) := by
 have hn := z01 s
 have hx : z0y K s ⟨#[47]⟩ = some (Lib.indexByte s.data.toList 47) := by
  unfold z0y z1w
  have e1 : (((⟨#[47]⟩ : zAd).size : Int) == 0) = false := rfl
  have e2 : (((⟨#[47]⟩ : zAd).size : Int) == 1) = true := rfl
  have e3 : bidx (⟨#[47]⟩ : zAd) 0 = some 47 := rfl
  rw [e1, e2, e3]
  simp only [Bool.false_eq_true, if_false, z0i, tu1a, if_true]
  by_cases he : sEq ⟨#[47]⟩ s = true
  ·rw [he, if_pos rfl]
   rw [sEq_iff] at he
   subst he
   rfl
  ·rw [if_neg he]
   rfl
 unfold z44 z1y
 rw [hx, z0i]
 rcases za6 47 s.data.toList with ⟨h1, h2⟩ | ⟨i, h1, h2, h3, h4⟩
 ·refine ⟨s, ⟨#[]⟩, false, by rw [h1]; rfl, by simp, fun h => h2 (zg3 h), fun _ => rfl⟩
 ·rw [Array.length_toList] at h2
  have h2' : i < s.size := h2
  have ea := z68 s (i := 0) (j := i) (by omega) (by omega)
  have eb := z68 s (i := i + 1) (j := s.size) (by omega) (by omega)
  refine ⟨s.extract 0 i, s.extract (i + 1) s.size, true, ?_, ?_, ?_, fun h => by cases h⟩
  ·have e1 : ((⟨#[47]⟩ : zAd).size : Int) = 1 := rfl
   have t0 : Int.toNat 0 = 0 := rfl
   have t1 : ((i : Int) + 1).toNat = i + 1 := by omega
   rw [h1, if_pos (decide_eq_true (by omega)), sslI (by omega) (by omega) (by omega), z0i, e1, k64 (by omega) (by omega), sslI (by omega) (by omega) (by omega), z0i, z0i, t1]
   rfl
  ·rw [ea.1, eb.1]
   have h5 : (z05 s)[i]? = some 47 := by unfold z05; rw [List.getElem?_map, h3]; rfl
   have h6 : i < (z05 s).length := by omega
   rw [zAh h6] at h5
   simp only [if_true, List.drop_zero, Nat.sub_zero]
   rw [List.take_of_length_le (l := (z05 s).drop (i + 1)) (by rw [List.length_drop]; omega)]
   conv => lhs; rw [<- List.take_append_drop i (z05 s), List.drop_eq_getElem_cons h6]
   rw [zAa h5]
  ·rw [ea.1, List.drop_zero, Nat.sub_zero]
   intro h
   unfold z05 at h
   rw [<- List.map_take] at h
   exact h4 (zg3 h)
theorem zc2 (K : Nat) {s : zAd} (hs : s.size <= 1048576) : ∃ s1 neg n d many, z1l K s ⟨#[45]⟩ = some (s1, neg) /\ z44 K s1 ⟨#[47]⟩ = some (n, d, many) /\ Sp s neg n many d /\ z05 s = (if neg then [45] else []) ++ z05 s1 /\ (many = false -> d = ⟨#[]⟩) := by
 obtain ⟨s1, neg, h1, h2, h3, h4⟩ := zf9 K s
 obtain ⟨n, d, many, c1, c2, c3, c4⟩ := zog (K := K) (s := s1) (by omega)
 exact ⟨s1, neg, n, d, many, h1, c1, ⟨by rw [h2, c2], c3, h3⟩, h2, c4⟩
def ratS (neg : Bool) (n : zAd) (many : Bool) (d : zAd) : Int :=
 if natE n = 5 \/ (many = true /\ natE d = 5) \/ (neg = true /\ n = ⟨#[48]⟩) then 5 else if natE n ≠ 0 \/ (many = true /\ natE d ≠ 0) then 2 else
 if many = true /\ (d = ⟨#[48]⟩ \/ d = ⟨#[49]⟩ \/ Nat.gcd (numT n).toNat (numT d).toNat ≠ 1) then 3 else 0
theorem zaz (a b : zAd) : sEq a b = decide (a = b) := by
 by_cases h : a = b
 ·rw [decide_eq_true h]; exact sEq_iff.2 h
 ·rw [decide_eq_false h]; exact zof h
theorem zng (G : Nat) : ((if (G : Int) < 1 then (-1 : Int) else if (G : Int) = 1 then 0 else 1) != 0) = decide (G ≠ 1) := by
 by_cases hG : G = 1
 ·subst hG; rfl
 ·rw [decide_eq_true hG]
  by_cases h0 : (G : Int) < 1
  ·rw [if_pos h0]; rfl
  ·rw [if_neg h0, if_neg (by omega)]; rfl
theorem znh : natE ⟨#[48]⟩ = 0 := (zay _).2 ⟨zb9, by decide⟩
theorem zkq {s n d : zAd} {neg many : Bool} (hs : s.size <= 1048576) (hK : 2000000000 < K) (h : Sp s neg n many d) : z5l K s = some (ratS neg n many d) := by
 obtain ⟨s1, neg', n', d', many', c1, c2, c3, c4, c5⟩ := zc2 K hs
 obtain ⟨rfl, rfl, rfl, hd⟩ := h.uniq c3
 have hsz := h.size
 unfold z5l ratS
 rw [c1, z0i, c2, z0i]
 dsimp only
 rw [zem (by omega) (by omega), z0i]
 cases many with
 | false =>
  simp only [Bool.false_eq_true, if_false, z0i, tu1a, false_and, false_or, or_false]
  by_cases e5 : natE n = 5
  ·simp [e5, z0i, tu1a]
  ·have e5' : (natE n == 5) = false := by rw [beq_eq_false_iff_ne]; exact e5
   have e05 : ((0 : Int) == 5) = false := rfl
   rw [e5', e05]
   cases neg <;> by_cases e0 : natE n = 0 <;> by_cases en : n = ⟨#[48]⟩ <;> simp [e0, e5, en, zaz, z0i, tu1a, znh]
 | true =>
  have hdd := hd rfl
  subst hdd
  simp only [if_true, true_and]
  rw [zem (by have := hsz.2 rfl; omega) (by have := hsz.2 rfl; omega)]
  simp only [z0i, tu1a]
  by_cases e5 : natE n = 5
  ·simp [e5, z0i, tu1a]
  ·have e5' : (natE n == 5) = false := by rw [beq_eq_false_iff_ne]; exact e5
   by_cases f5 : natE d = 5
   ·simp [e5, f5, z0i, tu1a]
   ·have f5' : (natE d == 5) = false := by rw [beq_eq_false_iff_ne]; exact f5
    have hneg : (if neg = true then some (sEq n (⟨#[48]⟩ : zAd)) else some false) = some (decide (neg = true /\ n = ⟨#[48]⟩)) := by
     cases neg <;> simp [zaz]
    rw [e5', f5', hneg]
    simp only [Bool.false_eq_true, if_false, z0i, tu1a, e5, f5, false_or]
    by_cases hz : neg = true /\ n = ⟨#[48]⟩
    ·rw [decide_eq_true hz, if_pos rfl, if_pos hz]
    ·rw [decide_eq_false hz, if_neg (by simp), if_neg hz]
     by_cases e0 : natE n = 0
     ·by_cases f0 : natE d = 0
      ·obtain ⟨cn, ln⟩ := (zay n).1 e0
       obtain ⟨cd, ld⟩ := (zay d).1 f0
       obtain ⟨x, x1, x2, x3⟩ := zao (K := K) (s := n) (by omega) hK cn.2.1
       obtain ⟨y, y1, y2, y3⟩ := zao (K := K) (s := d) (by omega) hK cd.2.1
       have nn := z3x cn.2.1
       have nd := z3x cd.2.1
       obtain ⟨g, g1, g2⟩ := zl9 (K := K) (x := x) (y := y) (a := (numT n).toNat) (b := (numT d).toNat) (by omega) (by omega) hK (by rw [Int.toNat_of_nonneg nn]; exact x2) (by rw [Int.toNat_of_nonneg nd]; exact y2)
       have gl : g.length <= 1000000 := by
        by_cases h0 : (numT d).toNat = 0
        ·rw [h0, Nat.gcd_zero_right, Int.toNat_of_nonneg nn] at g2
         rw [g2.inj x2]; omega
        ·have := z9k g2 y2 (by have := Nat.gcd_le_right (n := (numT d).toNat) (numT n).toNat (by omega); omega)
         omega
       have hc := zfu (K := K) (x := g) (y := [1]) (by omega) (by simp) hK g2 (.one (by omega) (by omega))
       have hcv : ((if ((Nat.gcd (numT n).toNat (numT d).toNat : Nat) : Int) < 1 then (-1 : Int) else if ((Nat.gcd (numT n).toNat (numT d).toNat : Nat) : Int) = 1 then 0 else 1) != 0) = decide (Nat.gcd (numT n).toNat (numT d).toNat ≠ 1) := by
        exact zng _
       rw [e0, f0]
       simp only [bne_self_eq_false, Bool.false_eq_true, if_false, z0i, tu1a, ne_eq, not_true, or_self, x1, y1, g1, zg2 hK, hc, hcv, zaz]
       by_cases d0 : d = ⟨#[48]⟩
       ·simp [d0, z0i, tu1a]
       ·by_cases d1 : d = ⟨#[49]⟩
        ·simp [d1, z0i, tu1a]
        ·by_cases hG : Nat.gcd (numT n).toNat (numT d).toNat = 1 <;> simp [d0, d1, hG, z0i, tu1a]
      ·simp [e0, f0, z0i, tu1a]
     ·simp [e0, z0i, tu1a]
end Go.Am.Tryz
/- Plain law: the reference's parts of a rational number's text and its error. -/
namespace Go.Am.Tryz
open Go Go.Am Go.Proofs
variable {K : Nat}
theorem zeo {l r : List Int} {i : Nat} (h : i < l.length) : (l ++ r).getD i 0 = l.getD i 0 := by
 rw [zAb, List.getElem?_append_left h, zAb]
theorem zj0 {l : List Int} {i : Nat} (h : i < l.length) : l.getD i 0 ∈ l := by
 rw [zAb, zAh h]; exact List.getElem_mem h
theorem zj1 {s n : zAd} {r : List Int} (h : z05 s = z05 n ++ r) : s.extract 0 n.size = n := by
 have hl := congrArg List.length h
 rw [List.length_append, z01, z01] at hl
 apply z4g
 rw [(z68 s (by omega) (by omega)).1, h, List.drop_zero, Nat.sub_zero, List.take_append_of_le_length (by rw [z01]; omega), List.take_of_length_le (by rw [z01]; omega)]
theorem zg4 {s n d : zAd} (h : z05 s = z05 n ++ 47 :: z05 d) : s.extract (n.size + 1) s.size = d := by
 have hl := congrArg List.length h
 rw [List.length_append, List.length_cons, z01, z01, z01] at hl
 apply z4g
 rw [(z68 s (by omega) (by omega)).1, h, List.drop_append, z01]
 rw [List.drop_eq_nil_of_le (by rw [z01]; omega), show n.size + 1 - n.size = 1 by omega]
 simp only [List.nil_append, List.drop_succ_cons, List.drop_zero]
 rw [List.take_of_length_le (by rw [z01]; omega)]
theorem zkr {s : zAd} {neg : Bool} {r : List Int} (h : z05 s = (if neg then [45] else []) ++ r) (hd : neg = false -> (z05 s).head? ≠ some 45) (K : Nat) :
  ∃ s1, (Option.bind ((if (decide ((s.size : Int) > 0)) = true then ((bidx s 0).bind fun x7 => some (x7 == 45)) else some false)) (tu1 fun x11 => ((if x11 = true then ((ssl s 1 (s.size : Int)).bind fun x26 => some (x26, true)) else some (s, false))))) = some (s1, neg) /\ z05 s1 = r /\ s1.size <= s.size := by
 have hn := z01 s
 cases neg with
 | true =>
  simp only [if_true, List.cons_append, List.nil_append] at h
  obtain ⟨t, t1, t2, t3⟩ := zbv h
  have hb : bidx s 0 = some 45 := by rw [za3, h]; rfl
  have hs : 0 < s.size := by rw [h] at hn; simp at hn; omega
  refine ⟨t, ?_, t2, by rw [h] at hn; simp at hn; omega⟩
  rw [decide_eq_true (by omega), if_pos rfl, hb, z0i, z0i, tu1a]
  simp only [beq_self_eq_true, if_true, t1, z0i]
 | false =>
  simp only [Bool.false_eq_true, if_false, List.nil_append] at h
  refine ⟨s, ?_, h, Nat.le_refl _⟩
  by_cases h0 : 0 < s.size
  ·cases hb : z05 s with
   | nil => rw [hb] at hn; simp at hn; omega
   | cons c l =>
    have hc : c ≠ 45 := fun e => hd rfl (by rw [hb, e]; rfl)
    have hx : bidx s 0 = some c := by rw [za3, hb]; rfl
    have e : (c == 45) = false := by rw [beq_eq_false_iff_ne]; exact hc
    rw [decide_eq_true (by omega), if_pos rfl, hx, z0i, e, z0i, tu1a]
    rfl
  ·rw [decide_eq_false (by omega)]
   rfl
theorem zgt {s n d : zAd} {many : Bool} (hs : s.size <= 1048576) (hK : 2000000000 < K) (h : z05 s = z05 n ++ (if many then 47 :: z05 d else [])) (hno : 47 ∉ z05 n) :
  ∃ r : Int × zAd × zAd, z1j K s K 1 s ⟨#[50]⟩ 0 = some r /\ r = (if many then (2, n, d) else (1, s, ⟨#[50]⟩)) := by
 have hn := z01 s
 have hln : n.size <= s.size := by
  have := congrArg List.length h
  rw [List.length_append, z01, z01] at this; omega
 have hlt : many = true -> n.size < s.size := fun hm => by
  subst hm
  have := congrArg List.length h
  rw [List.length_append, z01, z01] at this
  simp at this; omega
 refine zaw (fun k (q : Int × zAd × zAd × Int) => z1j K s k q.1 q.2.1 q.2.2.1 q.2.2.2) (fun q => ∃ i : Nat, q.2.2.2 = i /\ i <= s.size /\ (q.1, q.2.1, q.2.2.1) = (if many = true /\ n.size < i then (2, n, d) else (1, s, ⟨#[50]⟩))) (fun q => (s.size - q.2.2.2 : Int).toNat) _ ?_ ((1, s, ⟨#[50]⟩, 0) : Int × zAd × zAd × Int) (by dsimp only; omega) ⟨0, rfl, by omega, by rw [if_neg (by omega)]⟩
 rintro k ⟨m, a, b, _⟩ ⟨i, rfl, h0, h1⟩
 dsimp only at h1 ⊢
 by_cases hi : i < s.size
 ·right
  have hb : bidx s i = some ((z05 s).getD i 0) := by rw [znx (by omega) (by omega), Int.toNat_natCast]
  by_cases c : many = true /\ n.size < i
  ·rw [if_pos c] at h1
   simp only [Prod.mk.injEq] at h1
   obtain ⟨rfl, rfl, rfl⟩ := h1
   refine ⟨(2, a, b, (i : Int) + 1), ?_, by dsimp only; omega, i + 1, rfl, by omega, by rw [if_pos ⟨c.1, by omega⟩]⟩
   rw [z1j, if_pos (decide_eq_true (by omega)), hb, z0i, k64 (by omega) (by omega)]
   have e : ((2 : Int) == 1) = false := rfl
   rw [e]
   by_cases c2 : (z05 s).getD i 0 == 47 <;> simp [c2, z0i, tu1a, tu3a]
  ·rw [if_neg c] at h1
   simp only [Prod.mk.injEq] at h1
   obtain ⟨rfl, rfl, rfl⟩ := h1
   by_cases c3 : many = true /\ i = n.size
   ·obtain ⟨hm, rfl⟩ := c3
    subst hm
    simp only [if_true] at h
    have hch : (z05 a).getD n.size 0 = 47 := by
     rw [h, zAb, List.getElem?_append_right (by rw [z01]; omega), z01]
     simp
    refine ⟨(2, n, d, (n.size : Int) + 1), ?_, by dsimp only; omega, n.size + 1, rfl, by omega, by rw [if_pos ⟨rfl, by omega⟩]⟩
    have t0 : Int.toNat 0 = 0 := rfl
    have t1 : ((n.size : Int) + 1).toNat = n.size + 1 := by omega
    rw [z1j, if_pos (decide_eq_true (by omega)), hb, z0i, hch, k64 (by omega) (by omega), sslI (l := 0) (by omega) (by omega) (by omega), sslI (by omega) (by omega) (by omega), t0, t1, Int.toNat_natCast, Int.toNat_natCast, zj1 h, zg4 h]
    rfl
   ·have hin : i < n.size := by
     cases many with
     | true => simp at c c3; omega
     | false =>
      simp only [Bool.false_eq_true, if_false, List.append_nil] at h
      have := congrArg List.length h
      rw [z01, z01] at this; omega
    have hch : (z05 a).getD i 0 ≠ 47 := fun e => by
     rw [h, zeo (by rw [z01]; omega)] at e
     exact hno (e ▸ zj0 (by rw [z01]; omega))
    have e : ((z05 a).getD i 0 == 47) = false := by rw [beq_eq_false_iff_ne]; exact hch
    refine ⟨(1, a, ⟨#[50]⟩, (i : Int) + 1), ?_, by dsimp only; omega, i + 1, rfl, by omega, by rw [if_neg (by omega)]⟩
    rw [z1j, if_pos (decide_eq_true (by omega)), hb, z0i, e, k64 (by omega) (by omega)]
    rfl
 ·left
  have : i = s.size := by omega
  subst this
  refine ⟨(m, a, b), by rw [z1j, if_neg (by simp)], ?_⟩
  cases many with
  | true => have := hlt rfl; simp only [true_and, if_pos this] at h1; exact h1
  | false => simpa using h1
theorem zks {s n d : zAd} {neg many : Bool} (hs : s.size <= 1048576) (hK : 2000000000 < K) (h : Sp s neg n many d) : z4x K s = some (ratS neg n many d) := by
 have hsz := h.size
 obtain ⟨s1, h1, h2, h3⟩ := zkr h.eq h.hd K
 obtain ⟨r, r1, rfl⟩ := zgt (K := K) (s := s1) (n := n) (d := d) (many := many) (by omega) hK h2 h.no
 unfold z4x ratS
 -- the sign
 have hsplit : ∀ {α : Type} (F : zAd × Bool -> Option α), (Option.bind ((if (decide ((s.size : Int) > 0)) = true then ((bidx s 0).bind fun x7 => some (x7 == 45)) else some false)) (tu1 fun x11 => (Option.bind ((if x11 = true then ((ssl s 1 (s.size : Int)).bind fun x26 => some (x26, true)) else some (s, false))) F))) = F (s1, neg) := by
  intro α F
  have : ∀ (m : Option Bool) (f : Bool -> Option (zAd × Bool)), (Option.bind m (tu1 fun x => Option.bind (f x) F)) = Option.bind (Option.bind m (tu1 f)) F := by
   intro m f; cases m <;> rfl
  rw [this, h1]; rfl
 rw [hsplit, tu2a, r1, z0i, tu3a]
 cases many with
 | false =>
  have hs1 : s1 = n := z4g (by simpa using h2)
  subst hs1
  have e2 : natE ⟨#[50]⟩ = 0 := (zay _).2 ⟨⟨by decide, rfl, fun h => by simp [z05] at h⟩, by decide⟩
  simp only [Bool.false_eq_true, if_false, false_and, false_or, or_false]
  rw [zba (by omega) (by omega), zba (s := ⟨#[50]⟩) (by decide) (by show 1 < K; omega), z0i, z0i, e2]
  by_cases e5 : natE s1 = 5
  ·simp [e5, z0i, tu1a]
  ·have e5' : (natE s1 == 5) = false := by rw [beq_eq_false_iff_ne]; exact e5
   have e05 : ((0 : Int) == 5) = false := rfl
   rw [e5', e05]
   cases neg <;> by_cases e0 : natE s1 = 0 <;> by_cases en : s1 = ⟨#[48]⟩ <;> simp [e0, e5, en, zaz, z0i, tu1a, znh]
 | true =>
  have hd := hsz.2 rfl
  simp only [if_true, true_and]
  rw [zba (by omega) (by omega), zba (s := d) (by omega) (by omega), z0i, z0i]
  by_cases e5 : natE n = 5
  ·simp [e5, z0i, tu1a]
  ·have e5' : (natE n == 5) = false := by rw [beq_eq_false_iff_ne]; exact e5
   by_cases f5 : natE d = 5
   ·simp [e5, f5, z0i, tu1a]
   ·have f5' : (natE d == 5) = false := by rw [beq_eq_false_iff_ne]; exact f5
    have hneg : (if neg = true then some (sEq n (⟨#[48]⟩ : zAd)) else some false) = some (decide (neg = true /\ n = ⟨#[48]⟩)) := by
     cases neg <;> simp [zaz]
    rw [e5', f5', hneg]
    simp only [Bool.false_eq_true, if_false, z0i, tu1a, e5, f5, false_or]
    by_cases hz : neg = true /\ n = ⟨#[48]⟩
    ·rw [decide_eq_true hz, if_pos rfl, if_pos hz]
    ·rw [decide_eq_false hz, if_neg (by simp), if_neg hz]
     by_cases e0 : natE n = 0
     ·by_cases f0 : natE d = 0
      ·obtain ⟨cn, ln⟩ := (zay n).1 e0
       obtain ⟨cd, ld⟩ := (zay d).1 f0
       have nn := z3x cn.2.1
       have nd := z3x cd.2.1
       obtain ⟨g, g1, g2, g3⟩ := zla (K := K) (x := n) (y := d) (a := (numT n).toNat) (b := (numT d).toNat) (by omega) (by omega) hK cn cd (by omega) (by omega)
       have hg : (!(decide (g = ⟨#[49]⟩))) = decide (Nat.gcd (numT n).toNat (numT d).toNat ≠ 1) := by
        by_cases hG : Nat.gcd (numT n).toNat (numT d).toNat = 1
        ·have : g = ⟨#[49]⟩ := z9h g2 zak (by rw [g3, z9j, hG]; rfl)
         simp [this, hG]
        ·have : g ≠ ⟨#[49]⟩ := fun e => hG (by rw [e, z9j] at g3; omega)
         simp [this, hG]
       have e22 : ((2 : Int) == 2) = true := rfl
       rw [e0, f0, e22]
       simp only [bne_self_eq_false, Bool.false_eq_true, if_false, z0i, tu1a, ne_eq, not_true, or_self, g1, hg, zaz, if_true]
       by_cases d0 : d = ⟨#[48]⟩
       ·simp [d0, z0i, tu1a]
       ·by_cases d1 : d = ⟨#[49]⟩
        ·simp [d1, z0i, tu1a]
        ·by_cases hG : Nat.gcd (numT n).toNat (numT d).toNat = 1 <;> simp [d0, d1, hG, z0i, tu1a]
      ·simp [e0, f0, z0i, tu1a]
     ·simp [e0, z0i, tu1a]
theorem zj2 {s n d : zAd} {many : Bool} {x1 : Int} (hs : s.size <= 1048576) (hK : 2000000000 < K) (h : z05 s = z05 n ++ (if many then 47 :: z05 d else [])) (hno : 47 ∉ z05 n) :
  ∃ r : (Bool × zAd × zAd) ⊕ Unit, z3s K x1 s K 0 = some r /\ r = (if many then .inl (x1 == 45, n, d) else .inr ()) := by
 have hn := z01 s
 have hln : n.size <= s.size := by
  have := congrArg List.length h
  rw [List.length_append, z01, z01] at this; omega
 refine zaw (fun k (q : Int) => z3s K x1 s k q) (fun q => ∃ i : Nat, q = i /\ i <= n.size) (fun q => (s.size - q : Int).toNat) _ ?_ (0 : Int) (by omega) ⟨0, rfl, by omega⟩
 rintro k _ ⟨i, rfl, h0⟩
 by_cases hi : i < n.size
 ·right
  have hb : bidx s i = some ((z05 s).getD i 0) := by rw [znx (by omega) (by omega), Int.toNat_natCast]
  have hch : (z05 s).getD i 0 ≠ 47 := fun e => by
   rw [h, zeo (by rw [z01]; omega)] at e
   exact hno (e ▸ zj0 (by rw [z01]; omega))
  have e : ((z05 s).getD i 0 == 47) = false := by rw [beq_eq_false_iff_ne]; exact hch
  refine ⟨(i : Int) + 1, ?_, by omega, i + 1, rfl, by omega⟩
  rw [z3s, if_pos (decide_eq_true (by omega)), hb, z0i, e, k64 (by omega) (by omega)]
  rfl
 ·left
  have : i = n.size := by omega
  subst this
  cases many with
  | true =>
   simp only [if_true] at h
   have hlt : n.size < s.size := by
    have := congrArg List.length h
    rw [List.length_append, z01, z01] at this
    simp at this; omega
   have hb : bidx s n.size = some ((z05 s).getD n.size 0) := by rw [znx (by omega) (by omega), Int.toNat_natCast]
   have hch : (z05 s).getD n.size 0 = 47 := by
    rw [h, zAb, List.getElem?_append_right (by rw [z01]; omega), z01]
    simp
   have t0 : Int.toNat 0 = 0 := rfl
   have t1 : ((n.size : Int) + 1).toNat = n.size + 1 := by omega
   refine ⟨_, ?_, rfl⟩
   rw [z3s, if_pos (decide_eq_true (by omega)), hb, z0i, hch, k64 (by omega) (by omega), sslI (l := 0) (by omega) (by omega) (by omega), sslI (by omega) (by omega) (by omega), t0, t1, Int.toNat_natCast, Int.toNat_natCast, zj1 h, zg4 h]
   rfl
  | false =>
   simp only [Bool.false_eq_true, if_false, List.append_nil] at h
   have : n.size = s.size := by
    have := congrArg List.length h
    rw [z01, z01] at this; omega
   exact ⟨.inr (), by rw [z3s, if_neg (by simp; omega)], rfl⟩
theorem zkt {s n d : zAd} {neg many : Bool} (hs : s.size <= 1048576) (h0 : s.size ≠ 0) (hK : 2000000000 < K) (h : Sp s neg n many d) : z6g K s = some (neg, n, if many then d else ⟨#[49]⟩) := by
 have hn := z01 s
 obtain ⟨c, l, hc⟩ : ∃ c l, z05 s = c :: l := by
  cases hb : z05 s with
  | nil => rw [hb] at hn; simp at hn; omega
  | cons c l => exact ⟨c, l, rfl⟩
 have hx : bidx s 0 = some c := by rw [za3, hc]; rfl
 have hneg : (c == 45) = neg := by
  cases neg with
  | true => have := h.eq; rw [hc] at this; simp at this; rw [this.1]; rfl
  | false => have := h.hd rfl; rw [hc] at this; simpa using this
 obtain ⟨s1, e1, e2, e3⟩ : ∃ s1, (if neg = true then ((ssl s 1 (s.size : Int)).bind fun x9 => some x9) else some s) = some s1 /\ z05 s1 = z05 n ++ (if many then 47 :: z05 d else []) /\ s1.size <= s.size := by
  cases neg with
  | true =>
   have he := h.eq
   simp only [if_true, List.cons_append, List.nil_append] at he
   obtain ⟨t, t1, t2, t3⟩ := zbv he
   exact ⟨t, by rw [if_pos rfl, t1]; rfl, t2, by rw [he] at hn; rw [List.length_cons] at hn; omega⟩
  | false => exact ⟨s, rfl, by simpa using h.eq, Nat.le_refl _⟩
 obtain ⟨r, r1, rfl⟩ := zj2 (K := K) (s := s1) (n := n) (d := d) (many := many) (x1 := c) (by omega) hK e2 h.no
 unfold z6g
 rw [hx, z0i, hneg, e1, z0i, tu1a, r1]
 cases many with
 | true => simp only [if_true, zig, tu3a, hneg]
 | false =>
  have hs1 : s1 = n := z4g (by simpa using e2)
  subst hs1
  simp only [Bool.false_eq_true, if_false, zgo, tu0a]
end Go.Am.Tryz
/- Plain law: the program's rational numbers and their texts. -/
namespace Go.Am.Tryz
open Go Go.Am Go.Proofs
variable {K : Nat}
def RTx (s : zAd) (x : Rat) : Prop := ∃ n d, CanT n /\ CanT d /\ numT n = (x.num.natAbs : Nat) /\ numT d = (x.den : Nat) /\ Sp s (decide (x.num < 0)) n (decide (x.den ≠ 1)) d
theorem RTx.inj {s t : zAd} {x : Rat} (h : RTx s x) (k : RTx t x) : s = t := by
 obtain ⟨n, d, h1, h2, h3, h4, h5⟩ := h
 obtain ⟨n', d', k1, k2, k3, k4, k5⟩ := k
 have e1 : n = n' := z9h h1 k1 (by rw [h3, k3])
 have e2 : d = d' := z9h h2 k2 (by rw [h4, k4])
 subst e1 e2
 exact z4g (by rw [h5.eq, k5.eq])
theorem RTx.val {s : zAd} {x y : Rat} (h : RTx s x) (k : RTx s y) : x = y := by
 obtain ⟨n, d, h1, h2, h3, h4, h5⟩ := h
 obtain ⟨n', d', k1, k2, k3, k4, k5⟩ := k
 obtain ⟨e1, rfl, e3, e4⟩ := h5.uniq k5
 have e5 : x.num = y.num := by
  rw [<- zcu x, <- zcu y, e1]
  congr 1
  omega
 have e6 : x.den = y.den := by
  by_cases c : x.den ≠ 1
  ·have := e4 (decide_eq_true c)
   subst this; omega
  ·have c2 : ¬ y.den ≠ 1 := fun c2 => by
    rw [decide_eq_false c, decide_eq_true c2] at e3; cases e3
   omega
 exact Rat.ext e5 e6
def QV (a : Q) (x : Rat) : Prop := a.neg = decide (x.num < 0) /\ NumN (x.num.natAbs : Nat) a.num /\ (NumN (x.den : Nat) a.den \/ (a.den = [] /\ x.den = 1))
theorem zoh (N : Nat) : (10 : Int) ^ N <= 1000000000 ^ N := by
 have g5 : (1000000000 : Int) = 10 ^ 9 := by decide
 rw [g5, <- Int.pow_mul]
 exact z7r (by omega) (by omega)
theorem z83 (N : Nat) : ((10 ^ N : Nat) : Int) = (10 : Int) ^ N := by simp
theorem zlb {n N : Nat} {l : List Int} (h : NumN n l) (hn : n < 10 ^ N) : l.length <= N := by
 refine Nat.not_lt.1 fun hlt => ?_
 have g1 := zih (B := 1000000000) (by omega) h.1 (by rintro rfl; simp at hlt)
 rw [h.2] at g1
 have g2 : (1000000000 : Int) ^ N <= 1000000000 ^ (l.length - 1) := z7r (by omega) (by omega)
 have g3 := zoh N
 have g4 : (n : Int) < (10 : Int) ^ N := by rw [<- z83]; omega
 omega
theorem za7 {n N : Nat} {t : zAd} (h : CanT t) (ht : numT t = n) (hn : n < 10 ^ N) : t.size <= N + 1 := by
 refine Nat.not_lt.1 fun hlt => ?_
 have g1 := zcs h (by omega)
 have g2 : (10 : Int) ^ N <= 10 ^ (t.size - 1) := z7r (by omega) (by omega)
 have g4 : (n : Int) < (10 : Int) ^ N := by rw [<- z83]; omega
 omega
theorem zep {n N : Nat} {t : zAd} (h : (z05 t).all digT = true) (ht : numT t = n) (hN : t.size <= N) : n < 10 ^ N := by
 have g1 := zc0 h
 have g2 : (10 : Int) ^ t.size <= 10 ^ N := z7r (by omega) hN
 have g4 : (n : Int) < (10 : Int) ^ N := by omega
 rw [<- z83] at g4
 omega
theorem QV.lens {a : Q} {x : Rat} {N : Nat} (h : QV a x) (hx : Dl x N) : a.num.length <= N /\ a.den.length <= N := by
 refine ⟨zlb h.2.1 hx.1, ?_⟩
 rcases h.2.2 with h2 | ⟨h2, _⟩
 ·exact zlb h2 hx.2
 ·rw [h2]; exact Nat.zero_le _
theorem QV.zero : QV ⟨false, [], []⟩ 0 := ⟨rfl, .nil, .inr ⟨rfl, rfl⟩⟩
theorem QV.num0 {a : Q} {x : Rat} (h : QV a x) : a.num.length = 0 ↔ x = 0 := by
 rw [h.2.1.len0, <- Rat.num_eq_zero]; omega
theorem zc3 {a : Q} {x : Rat} (h : QV a x) (hK : 2000000000 < K) : ∃ w, z23 K a = some w /\ NumN (x.den : Nat) w /\ w.length <= max a.den.length 1 := by
 unfold z23
 rcases h.2.2 with h2 | ⟨h2, h3⟩
 ·have hp := x.den_pos
  have h0 : a.den.length ≠ 0 := fun e => by have := h2.len0.1 e; omega
  refine ⟨a.den, ?_, h2, by omega⟩
  rw [if_neg (by rw [beq_iff_eq]; omega)]
 ·refine ⟨[1], ?_, by rw [h3]; exact .one (by omega) (by omega), by simp; omega⟩
  rw [h2, if_pos (by rfl), zg2 hK, z0i]
theorem zku {neg : Bool} {n d : Nat} {num den : List Int} (hd : d ≠ 0) (hn : NumN n num) (hdn : NumN d den) (l1 : num.length <= 1000000) (l2 : den.length <= 1000000) (hK : 2000000000 < K) :
  ∃ q, z73 K neg num den = some q /\ QV q (mkRat (sgn neg n) d) := by
 unfold z73
 by_cases h0 : num.length = 0
 ·have e := hn.len0.1 h0
  have e' : n = 0 := by omega
  subst e'
  refine ⟨⟨false, [], []⟩, by rw [if_pos (by rw [beq_iff_eq]; omega)], ?_⟩
  have : mkRat (sgn neg 0) d = 0 := by
   have : sgn neg 0 = 0 := by cases neg <;> rfl
   rw [this, Rat.zero_mkRat]
  rw [this]; exact QV.zero
 ·have hn0 : n ≠ 0 := fun e => h0 (hn.len0.2 (by omega))
  obtain ⟨g, g1, g2⟩ := zl9 (K := K) (by omega) (by omega) hK hn hdn
  have gp : 0 < Nat.gcd n d := Nat.gcd_pos_of_pos_left d (by omega)
  have gl := z9k g2 hn (by have := Nat.gcd_le_left (m := n) d (by omega); omega)
  have hc := zfu (K := K) (x := g) (y := [1]) (by omega) (by simp) hK g2 (.one (by omega) (by omega))
  rw [if_neg (by rw [beq_iff_eq]; omega), g1, z0i, zg2 hK, z0i, hc, z0i]
  have m1 := zko neg n d hd
  have m2 := zkp neg n d hd
  have m3 := zm3 neg n d hd hn0
  by_cases h1 : Nat.gcd n d = 1
  ·refine ⟨⟨neg, num, den⟩, ?_, m3.symm, ?_, .inl ?_⟩
   ·rw [h1]; rfl
   ·rw [m1, h1, Nat.div_one]; exact hn
   ·rw [m2, h1, Nat.div_one]; exact hdn
  ·obtain ⟨q1, r1, a1, a2, a3, a4, a5⟩ := zfy (K := K) (x := num) (y := g) (by omega) (by omega) hK hn g2 (by omega)
   obtain ⟨q2, r2, b1, b2, b3, b4, b5⟩ := zfy (K := K) (x := den) (y := g) (by omega) (by omega) hK hdn g2 (by omega)
   refine ⟨⟨neg, q1, q2⟩, ?_, m3.symm, ?_, .inl ?_⟩
   ·have e : decide ((if ((Nat.gcd n d : Nat) : Int) < 1 then (-1 : Int) else if ((Nat.gcd n d : Nat) : Int) = 1 then 0 else 1) > 0) = true := by
     rw [if_neg (by omega), if_neg (by omega)]; rfl
    rw [e, if_pos rfl, a1, z0i, b1, z0i, z0i, tu2a]
   ·rw [m1]
    have e : ((n : Int) / ((Nat.gcd n d : Nat) : Int)) = ((n / Nat.gcd n d : Nat) : Int) := by simp
    rw [e] at a2; exact a2
   ·rw [m2]
    have e : ((d : Int) / ((Nat.gcd n d : Nat) : Int)) = ((d / Nat.gcd n d : Nat) : Int) := by simp
    rw [e] at b2; exact b2
theorem zlc (p : Bool) (X Y : Nat) : sgn p (X + Y) = sgn p X + sgn p Y := by unfold sgn; cases p <;> simp <;> omega
theorem zg5 (p q : Bool) (h : p ≠ q) {X Y : Nat} (hXY : Y <= X) : sgn p (X - Y) = sgn p X + sgn q Y := by
 unfold sgn; cases p <;> cases q <;> simp at h ⊢ <;> omega
theorem zld (p : Bool) (a b : Nat) : sgn p (a * b) = sgn p a * b := by unfold sgn; cases p <;> simp [Int.neg_mul]
theorem zj3 (x y : Rat) : x + y = mkRat (sgn (decide (x.num < 0)) (x.num.natAbs * y.den) + sgn (decide (y.num < 0)) (y.num.natAbs * x.den)) (x.den * y.den) := by
 rw [zld, zld, zcu, zcu, Rat.add_def']
theorem zni {a b : Q} {x y : Rat} {N : Nat} (ha : QV a x) (hb : QV b y) (dx : Dl x N) (dy : Dl y N) (hN : N <= 300000) (hK : 2000000000 < K) : ∃ q, z6n K a b = some q /\ QV q (x + y) := by
 have la := ha.lens dx
 have lb := hb.lens dy
 have hN1 := dx.pos
 unfold z6n
 by_cases hx : x = 0
 ·subst hx
  refine ⟨b, ?_, by rw [Rat.zero_add]; exact hb⟩
  rw [if_pos (by rw [beq_iff_eq]; have := ha.num0.2 rfl; omega)]
 ·have hx0 : a.num.length ≠ 0 := fun e => hx (ha.num0.1 e)
  rw [if_neg (by rw [beq_iff_eq]; omega)]
  by_cases hy : y = 0
  ·subst hy
   refine ⟨a, ?_, by rw [Rat.add_zero]; exact ha⟩
   rw [if_pos (by rw [beq_iff_eq]; have := hb.num0.2 rfl; omega)]
  ·have hy0 : b.num.length ≠ 0 := fun e => hy (hb.num0.1 e)
   rw [if_neg (by rw [beq_iff_eq]; omega)]
   obtain ⟨wa, wa1, wa2, wa3⟩ := zc3 (K := K) ha hK
   obtain ⟨wb, wb1, wb2, wb3⟩ := zc3 (K := K) hb hK
   obtain ⟨X, X1, X2, X3⟩ := zbx (K := K) (x := a.num) (y := wb) (by omega) hK ha.2.1 wb2
   obtain ⟨Y, Y1, Y2, Y3⟩ := zbx (K := K) (x := b.num) (y := wa) (by omega) hK hb.2.1 wa2
   obtain ⟨D, D1, D2, D3⟩ := zbx (K := K) (x := wa) (y := wb) (by omega) hK wa2 wb2
   rw [wa1, wb1, z0i, X1, z0i, z0i, Y1, z0i, z0i, z0i, D1, z0i]
   rw [<- Int.natCast_mul] at X2 Y2 D2
   have hD : x.den * y.den ≠ 0 := Nat.mul_ne_zero x.den_nz y.den_nz
   rw [zj3, <- ha.1, <- hb.1]
   generalize x.num.natAbs * y.den = m at X2 ⊢
   generalize y.num.natAbs * x.den = n at Y2 ⊢
   by_cases hs : a.neg = b.neg
   ·obtain ⟨Z, Z1, Z2, Z3⟩ := zn4 (K := K) (x := X) (y := Y) (by omega) (by omega) hK X2 Y2
    rw [<- Int.natCast_add] at Z2
    obtain ⟨q, q1, q2⟩ := zku (K := K) (neg := a.neg) hD Z2 D2 (by omega) (by omega) hK
    refine ⟨q, ?_, by rw [<- hs, <- zlc]; exact q2⟩
    rw [if_pos (by simpa using hs), Z1, z0i, q1, z0i]
   ·have hc := zfu (K := K) (x := X) (y := Y) (by omega) (by omega) hK X2 Y2
    rw [if_neg (by simpa using hs), hc, z0i]
    by_cases hle : n <= m
    ·obtain ⟨Z, Z1, Z2, Z3⟩ := zl5 (K := K) (x := X) (y := Y) (by omega) hK X2 Y2 (by omega)
     rw [<- Int.natCast_sub hle] at Z2
     obtain ⟨q, q1, q2⟩ := zku (K := K) (neg := a.neg) hD Z2 D2 (by omega) (by omega) hK
     refine ⟨q, ?_, by rw [<- zg5 _ _ hs hle]; exact q2⟩
     rw [if_pos (decide_eq_true (by rw [if_neg (by omega)]; split <;> omega)), Z1, z0i, q1, z0i]
    ·obtain ⟨Z, Z1, Z2, Z3⟩ := zl5 (K := K) (x := Y) (y := X) (by omega) hK Y2 X2 (by omega)
     rw [<- Int.natCast_sub (show m <= n by omega)] at Z2
     obtain ⟨q, q1, q2⟩ := zku (K := K) (neg := b.neg) hD Z2 D2 (by omega) (by omega) hK
     refine ⟨q, ?_, by rw [Int.add_comm, <- zg5 _ _ (fun e => hs e.symm) (by omega)]; exact q2⟩
     have e : decide ((if ((m : Nat) : Int) < (n : Nat) then (-1 : Int) else if ((m : Nat) : Int) = (n : Nat) then 0 else 1) >= 0) = false := by
      rw [if_pos (by omega)]; rfl
     rw [e]
     simp only [Bool.false_eq_true, if_false]
     rw [Z1, z0i, q1, z0i]
theorem znj {a b : Q} {x y : Rat} {N : Nat} (ha : QV a x) (hb : QV b y) (dx : Dl x N) (dy : Dl y N) (hN : N <= 300000) (hK : 2000000000 < K) : ∃ q, z6l K a b = some q /\ QV q (x * y) := by
 have la := ha.lens dx
 have lb := hb.lens dy
 have hN1 := dx.pos
 unfold z6l
 by_cases hz : x = 0 \/ y = 0
 ·refine ⟨⟨false, [], []⟩, ?_, ?_⟩
  ·rcases hz with rfl | rfl
   ·have := ha.num0.2 rfl
    rw [if_pos (by rw [beq_iff_eq]; omega)]
    rfl
   ·have := hb.num0.2 rfl
    have e : ((b.num.length : Int) == 0) = true := by rw [beq_iff_eq]; omega
    rw [e]
    by_cases c : ((a.num.length : Int) == 0) = true
    ·rw [if_pos c]; rfl
    ·rw [if_neg c]; rfl
  ·have : x * y = 0 := by rcases hz with rfl | rfl <;> simp
   rw [this]; exact QV.zero
 ·have hx0 : a.num.length ≠ 0 := fun e => hz (.inl (ha.num0.1 e))
  have hy0 : b.num.length ≠ 0 := fun e => hz (.inr (hb.num0.1 e))
  have e1 : ((a.num.length : Int) == 0) = false := by rw [beq_eq_false_iff_ne]; omega
  have e2 : ((b.num.length : Int) == 0) = false := by rw [beq_eq_false_iff_ne]; omega
  obtain ⟨wa, wa1, wa2, wa3⟩ := zc3 (K := K) ha hK
  obtain ⟨wb, wb1, wb2, wb3⟩ := zc3 (K := K) hb hK
  obtain ⟨X, X1, X2, X3⟩ := zbx (K := K) (x := a.num) (y := b.num) (by omega) hK ha.2.1 hb.2.1
  obtain ⟨D, D1, D2, D3⟩ := zbx (K := K) (x := wa) (y := wb) (by omega) hK wa2 wb2
  rw [<- Int.natCast_mul] at X2 D2
  have hD : x.den * y.den ≠ 0 := Nat.mul_ne_zero x.den_nz y.den_nz
  obtain ⟨q, q1, q2⟩ := zku (K := K) (neg := !(a.neg == b.neg)) hD X2 D2 (by omega) (by omega) hK
  refine ⟨q, ?_, ?_⟩
  ·rw [e1, e2]
   simp only [Bool.false_eq_true, if_false, z0i, tu1a, X1, wa1, wb1, D1, q1]
  ·rw [ziz, <- ha.1, <- hb.1]
   exact q2
end Go.Am.Tryz
/- Plain law: texts in and out of the program's rational numbers; the reference's sums and products. -/
namespace Go.Am.Tryz
open Go Go.Am Go.Proofs
variable {K : Nat}
theorem zj4 {d : zAd} (h : CanT d) : d = ⟨#[49]⟩ ↔ numT d = 1 := ⟨fun e => by rw [e, z9j], fun e => z9h h zak (by rw [e, z9j])⟩
theorem zeq (N : Nat) (h : N ≠ 0) : 1 < 10 ^ N := Nat.one_lt_pow h (by omega)
theorem zpe {s n d : zAd} {neg many : Bool} (h : Sp s neg n many d) (h0 : ratS neg n many d = 0) : ∃ x, RTx s x /\ Dl x 2000 := by
 unfold ratS at h0
 by_cases c1 : natE n = 5 \/ (many = true /\ natE d = 5) \/ (neg = true /\ n = ⟨#[48]⟩)
 ·rw [if_pos c1] at h0; cases h0
 ·rw [if_neg c1] at h0
  by_cases c2 : natE n ≠ 0 \/ (many = true /\ natE d ≠ 0)
  ·rw [if_pos c2] at h0; cases h0
  ·rw [if_neg c2] at h0
   by_cases c3 : many = true /\ (d = ⟨#[48]⟩ \/ d = ⟨#[49]⟩ \/ Nat.gcd (numT n).toNat (numT d).toNat ≠ 1)
   ·rw [if_pos c3] at h0; cases h0
   ·have en : natE n = 0 := by
     by_cases e : natE n = 0
     ·exact e
     ·exact absurd (.inl e) c2
    obtain ⟨cn, ln⟩ := (zay n).1 en
    have nn := z3x cn.2.1
    have hNN : numT n = ((numT n).toNat : Int) := by omega
    have hneg : neg = true -> (numT n).toNat ≠ 0 := fun e hz => c1 (.inr (.inr ⟨e, (zdk cn).1 (by omega)⟩))
    have lN := zep (N := 2000) cn.2.1 hNN ln
    -- the number whose parts these are
    have key : ∀ (D : Nat) (d' : zAd), CanT d' -> numT d' = D -> D ≠ 0 -> Nat.gcd (numT n).toNat D = 1 -> D < 10 ^ 2000 -> (many = true ↔ D ≠ 1) -> Sp s neg n many d' -> ∃ x, RTx s x /\ Dl x 2000 := by
     intro D d' cd hD hD0 hg hD2 hm hsp
     have m1 := zko neg (numT n).toNat D hD0
     have m2 := zkp neg (numT n).toNat D hD0
     rw [hg, Nat.div_one] at m1 m2
     have m3 : decide ((mkRat (sgn neg (numT n).toNat) D).num < 0) = neg := by
      by_cases hz : (numT n).toNat = 0
      ·have : neg = false := by
        cases hne : neg with
        | false => rfl
        | true => exact absurd hz (hneg hne)
       subst this
       rw [hz]
       have : mkRat (sgn false 0) D = 0 := by have : sgn false 0 = 0 := rfl; rw [this, Rat.zero_mkRat]
       rw [this]; rfl
      ·exact zm3 neg _ D hD0 hz
     refine ⟨mkRat (sgn neg (numT n).toNat) D, ⟨n, d', cn, cd, by rw [m1]; exact hNN, by rw [m2]; exact hD, ?_⟩, Dl.mk _ hD0 lN hD2⟩
     rw [m3, m2]
     have : decide (D ≠ 1) = many := by
      cases hmm : many with
      | false => exact decide_eq_false (fun h => by rw [hmm] at hm; have := hm.2 h; cases this)
      | true => exact decide_eq_true (hm.1 hmm)
     rw [this]
     exact hsp
    cases many with
    | false =>
     refine key 1 ⟨#[49]⟩ zak z9j (by omega) (Nat.gcd_one_right _) (zeq 2000 (by omega)) (by simp) ⟨by simpa using h.eq, h.no, h.hd⟩
    | true =>
     have ed : natE d = 0 := by
      by_cases e : natE d = 0
      ·exact e
      ·exact absurd (.inr ⟨rfl, e⟩) c2
     obtain ⟨cd, ld⟩ := (zay d).1 ed
     have nd := z3x cd.2.1
     have hDD : numT d = ((numT d).toNat : Int) := by omega
     have d0 : d ≠ ⟨#[48]⟩ := fun e => c3 ⟨rfl, .inl e⟩
     have d1 : d ≠ ⟨#[49]⟩ := fun e => c3 ⟨rfl, .inr (.inl e)⟩
     have hg : Nat.gcd (numT n).toNat (numT d).toNat = 1 := by
      by_cases e : Nat.gcd (numT n).toNat (numT d).toNat = 1
      ·exact e
      ·exact absurd ⟨rfl, .inr (.inr e)⟩ c3
     exact key (numT d).toNat d cd hDD (fun e => d0 ((zdk cd).1 (by omega))) hg (zep (N := 2000) cd.2.1 hDD ld) (by
      simp only [true_iff]
      exact fun e => d1 ((zj4 cd).2 (by omega))) h
theorem RTx.size {s : zAd} {x : Rat} {N : Nat} (h : RTx s x) (dx : Dl x N) : s.size <= 2 * N + 4 := by
 obtain ⟨n, d, h1, h2, h3, h4, h5⟩ := h
 have l1 := za7 h1 h3 dx.1
 have l2 := za7 h2 h4 dx.2
 have := congrArg List.length h5.eq
 rw [z01, List.length_append, List.length_append, z01] at this
 have e1 : (if decide (x.num < 0) = true then ([45] : List Int) else []).length <= 1 := by split <;> simp
 have e2 : (if decide (x.den ≠ 1) = true then (47 :: z05 d : List Int) else []).length <= d.size + 1 := by
  split
  ·rw [List.length_cons, z01]; omega
  ·simp
 omega
theorem RTx.dl {s : zAd} {x : Rat} {N : Nat} (h : RTx s x) (hs : s.size <= N) : Dl x (N + 1) := by
 obtain ⟨n, d, h1, h2, h3, h4, h5⟩ := h
 have hsz := h5.size
 refine ⟨Nat.lt_of_lt_of_le (zep h1.2.1 h3 (Nat.le_trans hsz.1 hs)) (Nat.pow_le_pow_right (by omega) (by omega)), ?_⟩
 by_cases c : x.den ≠ 1
 ·exact Nat.lt_of_lt_of_le (zep h2.2.1 h4 (Nat.le_trans (hsz.2 (decide_eq_true c)) hs)) (Nat.pow_le_pow_right (by omega) (by omega))
 ·have : x.den = 1 := by omega
  rw [this]
  exact Nat.one_lt_pow (by omega) (by omega)
theorem RTx.pos {s : zAd} {x : Rat} (h : RTx s x) : s.size ≠ 0 := by
 obtain ⟨n, d, h1, h2, h3, h4, h5⟩ := h
 have := h5.size.1
 have := h1.1
 omega
theorem znk {s : zAd} {x : Rat} (h : RTx s x) (hs : s.size <= 1048576) (hK : 2000000000 < K) : ∃ q, zag K s = some q /\ QV q x := by
 obtain ⟨n, d, h1, h2, h3, h4, h5⟩ := h
 obtain ⟨s1, neg', n', d', many', c1, c2, c3, c4, c5⟩ := zc2 K hs
 obtain ⟨rfl, rfl, rfl, hd⟩ := h5.uniq c3
 have hsz := h5.size
 obtain ⟨a, a1, a2, a3⟩ := zao (K := K) (s := n) (by omega) hK h1.2.1
 rw [h3] at a2
 unfold zag
 rw [c1, z0i, c2, z0i]
 dsimp only
 rw [a1, z0i, zg2 hK, z0i]
 by_cases c : x.den ≠ 1
 ·have := hd (decide_eq_true c)
  subst this
  obtain ⟨b, b1, b2, b3⟩ := zao (K := K) (s := d) (by have := hsz.2 (decide_eq_true c); omega) hK h2.2.1
  rw [h4] at b2
  exact ⟨⟨decide (x.num < 0), a, b⟩, by rw [decide_eq_true c, if_pos rfl, b1, z0i, z0i, tu1a], rfl, a2, .inl b2⟩
 ·have e : x.den = 1 := by omega
  exact ⟨⟨decide (x.num < 0), a, [1]⟩, by rw [decide_eq_false c]; rfl, rfl, a2, .inl (by rw [e]; exact .one (by omega) (by omega))⟩
theorem zj5 {n : zAd} (h : (z05 n).all digT = true) : (47 : Int) ∉ z05 n := fun hm => by
 have := digT_iff.1 (List.all_eq_true.1 h _ hm); omega
theorem zmi {s n d : zAd} {x : Rat} (h1 : CanT n) (h2 : CanT d) (h3 : numT n = (x.num.natAbs : Nat)) (h4 : numT d = (x.den : Nat)) (h : z05 s = (if decide (x.num < 0) then [45] else []) ++ (z05 n ++ (if decide (x.den ≠ 1) then 47 :: z05 d else []))) : RTx s x := by
 refine ⟨n, d, h1, h2, h3, h4, h, zj5 h1.2.1, fun hn => ?_⟩
 rw [h, hn]
 have hl := z01 n
 cases hb : z05 n with
 | nil => rw [hb] at hl; simp at hl; exact absurd hl.symm h1.1
 | cons c l =>
  have := digT_iff.1 (List.all_eq_true.1 h1.2.1 c (by rw [hb]; simp))
  simp only [Bool.false_eq_true, if_false, List.nil_append, List.cons_append, List.head?_cons]
  intro e; cases e; omega
theorem znl {a : Q} {x : Rat} {N : Nat} (ha : QV a x) (dx : Dl x N) (hN : N <= 900000) (hK : 2000000000 < K) : ∃ s, z6o K a = some s /\ RTx s x := by
 have la := ha.lens dx
 have hN1 := dx.pos
 unfold z6o
 by_cases hx : x = 0
 ·subst hx
  have := ha.num0.2 rfl
  refine ⟨⟨#[48]⟩, by rw [if_pos (by rw [beq_iff_eq]; omega)], zmi zb9 zak z75 z9j rfl⟩
 ·have hx0 : a.num.length ≠ 0 := fun e => hx (ha.num0.1 e)
  obtain ⟨w, w1, w2, w3⟩ := zc3 (K := K) ha hK
  obtain ⟨n, n1, n2, n3, n4⟩ := zim (K := K) (x := a.num) (by omega) hK ha.2.1
  obtain ⟨d, d1, d2, d3, d4⟩ := zim (K := K) (x := w) (by omega) hK w2
  rw [if_neg (by rw [beq_iff_eq]; omega), n1, z0i, ha.1]
  have hm : sEq d ⟨#[49]⟩ = decide (x.den = 1) := by
   rw [zaz]
   congr 1
   rw [zj4 d2, d3, eq_iff_iff]; omega
  have e45 : ((⟨#[45]⟩ : zAd)).size = 1 := rfl
  have e47 : ((⟨#[47]⟩ : zAd)).size = 1 := rfl
  have b45 : z05 (⟨#[45]⟩ : zAd) = [45] := rfl
  have b47 : z05 (⟨#[47]⟩ : zAd) = [47] := rfl
  obtain ⟨m, m1, m2, m3⟩ : ∃ m, (if decide (x.num < 0) = true then (if ((⟨#[45]⟩ : zAd)).size + (n).size <= 4611686018427387904 then some ((⟨#[45]⟩ : zAd) ++ n) else none) else some n) = some m /\ z05 m = (if decide (x.num < 0) = true then [45] else []) ++ z05 n /\ m.size <= n.size + 1 := by
   by_cases c : x.num < 0
   ·refine ⟨(⟨#[45]⟩ : zAd) ++ n, ?_, ?_, ?_⟩
    ·rw [decide_eq_true c, if_pos rfl, if_pos (by omega)]
    ·rw [decide_eq_true c, z0u, b45]; rfl
    ·rw [<- z01, z0u, b45, List.length_append, z01]; simp; omega
   ·exact ⟨n, by rw [decide_eq_false c]; rfl, by rw [decide_eq_false c]; rfl, by omega⟩
  rw [m1, z0i, tu1a, w1, z0i, d1, z0i, hm]
  by_cases c : x.den = 1
  ·refine ⟨m, by rw [decide_eq_true c]; rfl, zmi n2 d2 n3 d3 ?_⟩
   have hdd : decide (x.den ≠ 1) = false := decide_eq_false (fun h => h c)
   rw [m2, hdd]; simp
  ·have hsd : ((⟨#[47]⟩ : zAd) ++ d).size = d.size + 1 := by rw [<- z01, z0u, b47, List.length_append, z01]; simp; omega
   refine ⟨m ++ ((⟨#[47]⟩ : zAd) ++ d), ?_, zmi n2 d2 n3 d3 ?_⟩
   ·rw [decide_eq_false c]
    simp only [Bool.not_false, if_true]
    rw [if_pos (by omega), if_pos (by omega), z0i, tu1a]
   ·have hdd : decide (x.den ≠ 1) = true := decide_eq_true c
    rw [z0u, z0u, m2, b47, hdd]; simp
theorem zg6 {l : List Int} {n : Nat} (hl : l.length <= 1000000) (hK : 2000000000 < K) (h : NumN n l) : ∃ k : Nat, z3o K l = some (k : Int) /\ (k <= 2000 ↔ n < 10 ^ 2000) := by
 obtain ⟨t, t1, t2, t3, t4⟩ := zim hl hK h
 refine ⟨t.size, by unfold z3o; rw [t1, z0i], fun h => zep (N := 2000) t2.2.1 t3 h, fun h => ?_⟩
 refine Nat.not_lt.1 fun hlt => ?_
 have g1 := zcs t2 (by omega)
 rw [t3] at g1
 have g2 : (10 : Int) ^ 2000 <= 10 ^ (t.size - 1) := z7r (by omega) (by omega)
 have g3 := z83 2000
 have g4 : (n : Int) < ((10 ^ 2000 : Nat) : Int) := Int.ofNat_lt.2 h
 rw [g3] at g4
 exact absurd (Int.lt_of_lt_of_le g4 (Int.le_trans g2 g1)) (Int.lt_irrefl _)
theorem znm {a : Q} {x : Rat} {N : Nat} (ha : QV a x) (dx : Dl x N) (hN : N <= 900000) (hK : 2000000000 < K) : (Dl x 2000 -> z6v K a = some 0) /\ (¬ Dl x 2000 -> z6v K a = some 2) := by
 have la := ha.lens dx
 obtain ⟨k, k1, k2⟩ := zg6 (K := K) (l := a.num) (by omega) hK ha.2.1
 obtain ⟨m, m1, m2⟩ : ∃ m : Nat, z3o K a.den = some (m : Int) /\ (m <= 2000 ↔ x.den < 10 ^ 2000) := by
  rcases ha.2.2 with h | ⟨h, h2⟩
  ·exact zg6 (by omega) hK h
  ·refine ⟨1, ?_, ?_⟩
   ·rw [h]; rfl
   ·rw [h2]; exact ⟨fun _ => zeq 2000 (by omega), fun _ => by decide⟩
 unfold z6v
 rw [k1, m1]
 by_cases c1 : k <= 2000
 ·by_cases c2 : m <= 2000
  ·have hd : Dl x 2000 := ⟨k2.1 c1, m2.1 c2⟩
   refine ⟨fun _ => ?_, fun h => absurd hd h⟩
   have e1 : decide ((k : Int) > 2000) = false := decide_eq_false (by omega)
   have e2 : decide ((m : Int) > 2000) = false := decide_eq_false (by omega)
   rw [z0i, e1]
   simp only [Bool.false_eq_true, if_false, z0i, e2, tu1a]
  ·refine ⟨fun h => absurd (m2.2 h.2) c2, fun _ => ?_⟩
   have e1 : decide ((k : Int) > 2000) = false := decide_eq_false (by omega)
   have e2 : decide ((m : Int) > 2000) = true := decide_eq_true (by omega)
   rw [z0i, e1]
   simp only [Bool.false_eq_true, if_false, z0i, e2, tu1a, if_true]
 ·refine ⟨fun h => absurd (k2.2 h.1) c1, fun _ => ?_⟩
  have e1 : decide ((k : Int) > 2000) = true := decide_eq_true (by omega)
  rw [z0i, e1]
  simp only [z0i, tu1a, if_true]
theorem zdl {neg : Bool} {n d : zAd} {N D : Nat} (hD : D ≠ 0) (cn : CanT n) (cd : CanT d) (hn : numT n = N) (hd : numT d = D) (ln : n.size <= 400000) (ld : d.size <= 400000) (hK : 2000000000 < K) :
  ∃ s, z80 K neg n d = some s /\ RTx s (mkRat (sgn neg N) D) := by
 unfold z80
 by_cases h0 : N = 0
 ·subst h0
  have : n = ⟨#[48]⟩ := (zdk cn).1 (by omega)
  subst this
  have e : mkRat (sgn neg 0) D = 0 := by
   have : sgn neg 0 = 0 := by cases neg <;> rfl
   rw [this, Rat.zero_mkRat]
  refine ⟨⟨#[48]⟩, by rw [zal]; rfl, ?_⟩
  rw [e]
  exact zmi zb9 zak z75 z9j rfl
 ·have e0 : sEq n ⟨#[48]⟩ = false := zof (fun e => by rw [e, z75] at hn; omega)
  obtain ⟨g, g1, g2, g3⟩ := zla (K := K) (x := n) (y := d) ln ld hK cn cd hn hd
  have gp : 0 < Nat.gcd N D := Nat.gcd_pos_of_pos_left D (by omega)
  have gl := z4h cn g2 (by rw [g3, hn]; have := Nat.gcd_le_left (m := N) D (by omega); omega)
  obtain ⟨q1, r1, a1, a2, a3, a4, a5⟩ := zg0 (K := K) (a := n) (b := g) ln (by omega) hK cn g2 (by omega)
  obtain ⟨q2, r2, b1, b2, b3, b4, b5⟩ := zg0 (K := K) (a := d) (b := g) ld (by omega) hK cd g2 (by omega)
  rw [hn, g3] at a4
  rw [hd, g3] at b4
  have m1 := zko neg N D hD
  have m2 := zkp neg N D hD
  have m3 := zm3 neg N D hD h0
  have f1 : numT q1 = ((mkRat (sgn neg N) D).num.natAbs : Nat) := by rw [m1, a4]; simp
  have f2 : numT q2 = ((mkRat (sgn neg N) D).den : Nat) := by rw [m2, b4]; simp
  generalize mkRat (sgn neg N) D = x at *
  rw [e0]
  simp only [Bool.false_eq_true, if_false]
  rw [g1, z0i, a1, z0i, b1, z0i]
  have hm : sEq q2 ⟨#[49]⟩ = decide (x.den = 1) := by
   rw [zaz]
   congr 1
   rw [zj4 b2, f2, eq_iff_iff]; omega
  have l1 := z4h cn a2 (by rw [a4, hn]; exact Int.ediv_le_self _ (by omega))
  have l2 := z4h cd b2 (by rw [b4, hd]; exact Int.ediv_le_self _ (by omega))
  have e45 : ((⟨#[45]⟩ : zAd)).size = 1 := rfl
  have e47 : ((⟨#[47]⟩ : zAd)).size = 1 := rfl
  have b45 : z05 (⟨#[45]⟩ : zAd) = [45] := rfl
  have b47 : z05 (⟨#[47]⟩ : zAd) = [47] := rfl
  obtain ⟨m, k1, k2, k3⟩ : ∃ m, (if neg = true then (if ((⟨#[45]⟩ : zAd)).size + (q1).size <= 4611686018427387904 then some ((⟨#[45]⟩ : zAd) ++ q1) else none) else some q1) = some m /\ z05 m = (if decide (x.num < 0) = true then [45] else []) ++ z05 q1 /\ m.size <= q1.size + 1 := by
   rw [m3]
   cases neg with
   | true =>
    refine ⟨(⟨#[45]⟩ : zAd) ++ q1, ?_, ?_, ?_⟩
    ·rw [if_pos rfl, if_pos (by omega)]
    ·rw [z0u, b45]; rfl
    ·rw [<- z01, z0u, b45, List.length_append, z01]; simp; omega
   | false => exact ⟨q1, rfl, rfl, by omega⟩
  dsimp only
  rw [k1, z0i, tu1a, hm]
  by_cases c : x.den = 1
  ·refine ⟨m, by rw [decide_eq_true c]; rfl, zmi a2 b2 f1 f2 ?_⟩
   have hdd : decide (x.den ≠ 1) = false := decide_eq_false (fun h => h c)
   rw [k2, hdd]; simp
  ·have hsm : (m ++ (⟨#[47]⟩ : zAd)).size = m.size + 1 := by rw [<- z01, z0u, b47, List.length_append, z01]; simp
   refine ⟨(m ++ (⟨#[47]⟩ : zAd)) ++ q2, ?_, zmi a2 b2 f1 f2 ?_⟩
   ·rw [decide_eq_false c]
    simp only [Bool.false_eq_true, if_false]
    rw [if_pos (by omega), if_pos (by omega)]
   ·have hdd : decide (x.den ≠ 1) = true := decide_eq_true c
    rw [z0u, z0u, k2, b47, hdd]; simp
theorem zbb {a : zAd} {x : Rat} {N : Nat} (h : RTx a x) (dx : Dl x N) (hN : N <= 100000) (hK : 2000000000 < K) : ∃ n d, z6g K a = some (decide (x.num < 0), n, d) /\ CanT n /\ CanT d /\ numT n = (x.num.natAbs : Nat) /\ numT d = (x.den : Nat) /\ n.size <= N + 1 /\ d.size <= N + 1 := by
 have hs := h.size dx
 have h0 := h.pos
 obtain ⟨n, d, h1, h2, h3, h4, h5⟩ := h
 have hp := zkt (K := K) (by omega) h0 hK h5
 have l1 := za7 h1 h3 dx.1
 have l2 := za7 h2 h4 dx.2
 by_cases c : x.den ≠ 1
 ·rw [decide_eq_true c] at hp
  exact ⟨n, d, hp, h1, h2, h3, h4, l1, l2⟩
 ·rw [decide_eq_false c] at hp
  have e : x.den = 1 := by omega
  exact ⟨n, ⟨#[49]⟩, hp, h1, zak, h3, by rw [e]; rfl, l1, by show 1 <= N + 1; omega⟩
theorem znn {a b : zAd} {x y : Rat} {N : Nat} (ha : RTx a x) (hb : RTx b y) (dx : Dl x N) (dy : Dl y N) (hN : N <= 100000) (hK : 2000000000 < K) : ∃ c, z7p K a b = some c /\ RTx c (x + y) := by
 obtain ⟨n, d, p1, p2, p3, p4, p5, p6, p7⟩ := zbb (K := K) ha dx hN hK
 obtain ⟨m, e, q1, q2, q3, q4, q5, q6, q7⟩ := zbb (K := K) hb dy hN hK
 obtain ⟨X, X1, X2, X3⟩ := zek (K := K) (a := n) (b := e) (by omega) (by omega) hK p2.2.1 q3.2.1
 obtain ⟨Y, Y1, Y2, Y3⟩ := zek (K := K) (a := m) (b := d) (by omega) (by omega) hK q2.2.1 p3.2.1
 obtain ⟨D, D1, D2, D3⟩ := zek (K := K) (a := d) (b := e) (by omega) (by omega) hK p3.2.1 q3.2.1
 rw [p4, q5, <- Int.natCast_mul] at X3
 rw [q4, p5, <- Int.natCast_mul] at Y3
 rw [p5, q5, <- Int.natCast_mul] at D3
 have hD : x.den * y.den ≠ 0 := Nat.mul_ne_zero x.den_nz y.den_nz
 have lX := za7 X2 X3 (z4q dx.1 dy.2)
 have lY := za7 Y2 Y3 (z4q dy.1 dx.2)
 have lD := za7 D2 D3 (z4q dx.2 dy.2)
 unfold z7p
 rw [p1, z0i, q1, z0i]
 dsimp only
 rw [X1, z0i, Y1, z0i, D1, z0i, zj3]
 generalize x.num.natAbs * y.den = u at X3 ⊢
 generalize y.num.natAbs * x.den = v at Y3 ⊢
 generalize decide (x.num < 0) = p
 generalize decide (y.num < 0) = q
 by_cases hs : p = q
 ·obtain ⟨Z, Z1, Z2, Z3⟩ := zn7 (K := K) (a := X) (b := Y) (by omega) (by omega) (by have := X2.1; omega) (by omega) X2.2.1 Y2.2.1
  rw [X3, Y3, <- Int.natCast_add] at Z3
  have lZ : Z.size <= 400000 := by
   refine Nat.not_lt.1 fun hlt => ?_
   have g1 := zcs Z2 (by omega)
   have g2 := zc0 X2.2.1
   have g3 := zc0 Y2.2.1
   have g4 : (10 : Int) ^ X.size <= 10 ^ (Z.size - 2) := z7r (by omega) (by omega)
   have g5 : (10 : Int) ^ Y.size <= 10 ^ (Z.size - 2) := z7r (by omega) (by omega)
   have g6 : (10 : Int) ^ (Z.size - 1) = 10 ^ (Z.size - 2) * 10 := by rw [<- Int.pow_succ]; congr 1; omega
   rw [X3] at g2
   rw [Y3] at g3
   have g7 : (0 : Int) < 10 ^ (Z.size - 2) := Int.pow_pos (by omega)
   generalize (10 : Int) ^ (Z.size - 2) = P at *
   omega
  obtain ⟨s, s1, s2⟩ := zdl (K := K) (neg := p) (n := Z) (d := D) hD Z2 D2 Z3 D3 lZ (by omega) hK
  refine ⟨s, ?_, by rw [<- hs, <- zlc]; exact s2⟩
  rw [if_pos (by simpa using hs), Z1, z0i, s1, z0i]
 ·have hc := zl7 (K := K) X2 Y2
  rw [if_neg (by simpa using hs), hc, z0i, X3, Y3]
  by_cases hle : v <= u
  ·obtain ⟨Z, Z1, Z2, Z3⟩ := zip (K := K) (a := X) (b := Y) (by omega) (z4h X2 Y2 (by omega)) (by have := X2.1; omega) (by omega) X2.2.1 Y2.2.1 (by omega)
   rw [X3, Y3, <- Int.natCast_sub hle] at Z3
   have lZ := z4h X2 Z2 (by omega)
   obtain ⟨s, s1, s2⟩ := zdl (K := K) (neg := p) (n := Z) (d := D) hD Z2 D2 Z3 D3 (by omega) (by omega) hK
   refine ⟨s, ?_, by rw [<- zg5 _ _ hs hle]; exact s2⟩
   have e : decide ((if ((u : Nat) : Int) < (v : Nat) then (-1 : Int) else if ((u : Nat) : Int) = (v : Nat) then 0 else 1) < 0) = false := by
    rw [if_neg (by omega)]; split <;> rfl
   rw [e]
   simp only [Bool.false_eq_true, if_false, z0i, tu3a, Z1, s1]
  ·obtain ⟨Z, Z1, Z2, Z3⟩ := zip (K := K) (a := Y) (b := X) (by omega) (z4h Y2 X2 (by omega)) (by have := Y2.1; omega) (by omega) Y2.2.1 X2.2.1 (by omega)
   rw [X3, Y3, <- Int.natCast_sub (show u <= v by omega)] at Z3
   have lZ := z4h Y2 Z2 (by omega)
   obtain ⟨s, s1, s2⟩ := zdl (K := K) (neg := q) (n := Z) (d := D) hD Z2 D2 Z3 D3 (by omega) (by omega) hK
   refine ⟨s, ?_, by rw [Int.add_comm, <- zg5 _ _ (fun e => hs e.symm) (by omega)]; exact s2⟩
   have e : decide ((if ((u : Nat) : Int) < (v : Nat) then (-1 : Int) else if ((u : Nat) : Int) = (v : Nat) then 0 else 1) < 0) = true := by
    rw [if_pos (by omega)]; rfl
   rw [e]
   simp only [if_true, z0i, tu3a, Z1, s1]
theorem zno {a b : zAd} {x y : Rat} {N : Nat} (ha : RTx a x) (hb : RTx b y) (dx : Dl x N) (dy : Dl y N) (hN : N <= 100000) (hK : 2000000000 < K) : ∃ c, z7q K a b = some c /\ RTx c (x * y) := by
 obtain ⟨n, d, p1, p2, p3, p4, p5, p6, p7⟩ := zbb (K := K) ha dx hN hK
 obtain ⟨m, e, q1, q2, q3, q4, q5, q6, q7⟩ := zbb (K := K) hb dy hN hK
 obtain ⟨X, X1, X2, X3⟩ := zek (K := K) (a := n) (b := m) (by omega) (by omega) hK p2.2.1 q2.2.1
 obtain ⟨D, D1, D2, D3⟩ := zek (K := K) (a := d) (b := e) (by omega) (by omega) hK p3.2.1 q3.2.1
 rw [p4, q4, <- Int.natCast_mul] at X3
 rw [p5, q5, <- Int.natCast_mul] at D3
 have hD : x.den * y.den ≠ 0 := Nat.mul_ne_zero x.den_nz y.den_nz
 have lX := za7 X2 X3 (z4q dx.1 dy.1)
 have lD := za7 D2 D3 (z4q dx.2 dy.2)
 obtain ⟨s, s1, s2⟩ := zdl (K := K) (neg := !(decide (x.num < 0) == decide (y.num < 0))) (n := X) (d := D) hD X2 D2 X3 D3 (by omega) (by omega) hK
 refine ⟨s, ?_, by rw [ziz]; exact s2⟩
 unfold z7q
 rw [p1, z0i, q1, z0i]
 dsimp only
 rw [X1, z0i, D1, z0i, s1, z0i]
end Go.Am.Tryz
/- Plain law: errors of lists; operations on two texts. -/
namespace Go.Am.Tryz
open Go Go.Am Go.Proofs
variable {K : Nat}
noncomputable def ratE (s : zAd) : Int := @dite Int (∃ e, ∃ neg n many d, Sp s neg n many d /\ ratS neg n many d = e) (Classical.propDecidable _) (fun h => h.choose) fun _ => 0
theorem zj6 {s n d : zAd} {neg many : Bool} (h : Sp s neg n many d) : ratE s = ratS neg n many d := by
 have hex : ∃ e, ∃ neg n many d, Sp s neg n many d /\ ratS neg n many d = e := ⟨_, _, _, _, _, h, rfl⟩
 unfold ratE
 rw [dif_pos hex]
 obtain ⟨neg', n', many', d', h1, h2⟩ := hex.choose_spec
 rw [<- h2]
 obtain ⟨rfl, rfl, rfl, h3⟩ := h.uniq h1
 cases many with
 | true => rw [h3 rfl]
 | false => unfold ratS; simp
theorem zam {s : zAd} (hs : s.size <= 1048576) (hK : 2000000000 < K) : z5l K s = some (ratE s) := by
 obtain ⟨s1, neg, n, d, many, _, _, h, _⟩ := zc2 K hs
 rw [zj6 h]; exact zkq hs hK h
theorem zg7 {s : zAd} (hs : s.size <= 1048576) (hK : 2000000000 < K) : z4x K s = some (ratE s) := by
 obtain ⟨s1, neg, n, d, many, _, _, h, _⟩ := zc2 K hs
 rw [zj6 h]; exact zks hs hK h
theorem zg8 {s : zAd} (hs : s.size <= 1048576) (h : ratE s = 0) : ∃ x, RTx s x /\ Dl x 2000 := by
 obtain ⟨s1, neg, n, d, many, _, _, hp, _⟩ := zc2 0 hs
 rw [zj6 hp] at h
 exact zpe hp h
noncomputable def z84 : List zAd -> Int
 | [] => 0
 | s :: l => if ratE s ≠ 0 then ratE s else z84 l
theorem zcv : ∀ {l : List zAd}, z84 l = 0 -> ∀ s ∈ l, ratE s = 0
 | [], _, s, hs => by simp at hs
 | t :: l, h, s, hs => by
  rw [z84] at h
  by_cases c : ratE t = 0
  ·rw [if_neg (by simpa using c)] at h
   rcases List.mem_cons.1 hs with rfl | hs
   ·exact c
   ·exact zcv h s hs
  ·rw [if_pos c] at h; exact absurd h c
theorem zcw {l : List zAd} {i : Nat} (h : i < l.length) : z84 (l.drop i) = if ratE l[i] ≠ 0 then ratE l[i] else z84 (l.drop (i + 1)) := by
 rw [List.drop_eq_getElem_cons h, z84]
theorem zgu {l : List zAd} (hl : l.length <= 1048576) (hs : ∀ s ∈ l, s.size <= 1048576) (hK : 2000000000 < K) : z5b K l = some (z84 l) := by
 have key : ∃ r : Int ⊕ Unit, z19 K l K 0 = some r /\ ((r = .inr () /\ z84 l = 0) \/ r = .inl (z84 l)) := by
  refine zaw (fun k (s : Int) => z19 K l k s) (fun s => ∃ i : Nat, s = i /\ i <= l.length /\ z84 l = z84 (l.drop i)) (fun s => (l.length - s : Int).toNat) _ ?_ (0 : Int) (by omega) ⟨0, rfl, by omega, by simp⟩
  rintro k _ ⟨i, rfl, h0, h1⟩
  by_cases hi : i < l.length
  ·have hx : idx l (i : Int) = some l[i] := z41 (zAh hi)
   have hc := zam (K := K) (s := l[i]) (hs _ (List.getElem_mem hi)) hK
   rw [zcw hi] at h1
   by_cases c : ratE l[i] = 0
   ·right
    rw [if_neg (by simpa using c)] at h1
    refine ⟨(i : Int) + 1, ?_, by omega, i + 1, rfl, by omega, h1⟩
    rw [z19, if_pos (decide_eq_true (by omega)), hx, z0i, hc, z0i, if_neg (by simpa using c), k64 (by omega) (by omega)]
   ·left
    rw [if_pos c] at h1
    refine ⟨.inl (ratE l[i]), ?_, .inr (by rw [h1])⟩
    rw [z19, if_pos (decide_eq_true (by omega)), hx, z0i, hc, z0i, if_pos (by simpa using c)]
  ·left
   have : i = l.length := by omega
   subst this
   rw [List.drop_eq_nil_of_le (Nat.le_refl _)] at h1
   exact ⟨.inr (), by rw [z19, if_neg (by simp)], .inl ⟨rfl, h1⟩⟩
 obtain ⟨r, h1, h2⟩ := key
 unfold z5b
 rw [h1]
 rcases h2 with ⟨rfl, h2⟩ | rfl
 ·rw [zgo, tu0a, h2]
 ·rw [zig, tu1a]
theorem zkv {l : List zAd} (hl : l.length <= 1048576) (hs : ∀ s ∈ l, s.size <= 1048576) (hK : 2000000000 < K) : z66 K l = some (z84 l) := by
 have key : ∃ r : Int ⊕ Unit, z1o K l K 0 = some r /\ ((r = .inr () /\ z84 l = 0) \/ r = .inl (z84 l)) := by
  refine zaw (fun k (s : Int) => z1o K l k s) (fun s => ∃ i : Nat, s = i /\ i <= l.length /\ z84 l = z84 (l.drop i)) (fun s => (l.length - s : Int).toNat) _ ?_ (0 : Int) (by omega) ⟨0, rfl, by omega, by simp⟩
  rintro k _ ⟨i, rfl, h0, h1⟩
  by_cases hi : i < l.length
  ·have hx : idx l (i : Int) = some l[i] := z41 (zAh hi)
   have hc := zg7 (K := K) (s := l[i]) (hs _ (List.getElem_mem hi)) hK
   rw [zcw hi] at h1
   by_cases c : ratE l[i] = 0
   ·right
    rw [if_neg (by simpa using c)] at h1
    refine ⟨(i : Int) + 1, ?_, by omega, i + 1, rfl, by omega, h1⟩
    rw [z1o, if_pos (decide_eq_true (by omega)), hx, z0i, hc, z0i, if_neg (by simpa using c), k64 (by omega) (by omega)]
   ·left
    rw [if_pos c] at h1
    refine ⟨.inl (ratE l[i]), ?_, .inr (by rw [h1])⟩
    rw [z1o, if_pos (decide_eq_true (by omega)), hx, z0i, hc, z0i, if_pos (by simpa using c)]
  ·left
   have : i = l.length := by omega
   subst this
   rw [List.drop_eq_nil_of_le (Nat.le_refl _)] at h1
   exact ⟨.inr (), by rw [z1o, if_neg (by simp)], .inl ⟨rfl, h1⟩⟩
 obtain ⟨r, h1, h2⟩ := key
 unfold z66
 rw [h1]
 rcases h2 with ⟨rfl, h2⟩ | rfl
 ·rw [zgo, tu0a, h2]
 ·rw [zig, tu1a]
end Go.Am.Tryz
/- Plain law: whole numbers and their texts. -/
namespace Go.Am.Tryz
open Go Go.Am Go.Proofs
variable {K : Nat}
end Go.Am.Tryz
/- Plain law: comparisons of rational numbers. -/
namespace Go.Am.Tryz
open Go Go.Am Go.Proofs
variable {K : Nat}
def RTs (l : List zAd) (f : Nat -> Rat) : Prop := ∀ i (h : i < l.length), RTx l[i] (f i)
theorem zoi {l : List zAd} (hs : ∀ s ∈ l, s.size <= 1048576) (h0 : z84 l = 0) : ∃ f, RTs l f /\ ∀ i, i < l.length -> Dl (f i) 2000 := by
 classical
 have hz := zcv h0
 have hex : ∀ i (h : i < l.length), ∃ x, RTx l[i] x /\ Dl x 2000 := fun i h => zg8 (hs _ (List.getElem_mem h)) (hz _ (List.getElem_mem h))
 refine ⟨fun i => if h : i < l.length then (hex i h).choose else 0, fun i h => ?_, fun i h => ?_⟩
 ·dsimp only; rw [dif_pos h]; exact (hex i h).choose_spec.1
 ·dsimp only; rw [dif_pos h]; exact (hex i h).choose_spec.2
end Go.Am.Tryz
/- Plain law: vectors and matrices of rational texts: their checks, their numbers, products and sums. -/
namespace Go.Am.Tryz
open Go Go.Am Go.Proofs
variable {K : Nat}
def resF {R : Type} : Option R -> R ⊕ Unit
 | some r => .inl r
 | none => .inr ()
theorem z85 {α R : Type} {l : List α} {L : Nat -> Int -> Option (R ⊕ Unit)} (p : α -> Option R) (h0 : ∀ k, L (k + 1) (l.length : Int) = some (.inr ()))
  (h1 : ∀ k i (hi : i < l.length), L (k + 1) (i : Int) = match p l[i] with | some r => some (.inl r) | none => L k ((i + 1 : Nat) : Int)) (hK : l.length < K) :
  L K 0 = some (resF (l.findSome? p)) := by
 have key : ∀ n i k, i + n = l.length -> n < k -> L k (i : Int) = some (resF ((l.drop i).findSome? p)) := by
  intro n
  induction n with
  | zero =>
   intro i k hi hk
   obtain ⟨k, rfl⟩ : ∃ m, k = m + 1 := ⟨k - 1, by omega⟩
   obtain rfl : i = l.length := by omega
   rw [h0, List.drop_length]
   rfl
  | succ n ih =>
   intro i k hi hk
   obtain ⟨k, rfl⟩ : ∃ m, k = m + 1 := ⟨k - 1, by omega⟩
   rw [h1 k i (by omega), List.drop_eq_getElem_cons (by omega), List.findSome?_cons]
   cases hp : p l[i] with
   | some r => rfl
   | none => exact ih (i + 1) k (by omega) (by omega)
 have := key l.length 0 K (by omega) hK
 simpa using this
def Fam {α : Type} (P : Nat -> α -> Prop) (n : Nat) (l : List α) : Prop := l.length = n /\ ∀ j (h : j < l.length), P j l[j]
theorem Fam.nil {α : Type} {P : Nat -> α -> Prop} : Fam P 0 [] := ⟨rfl, fun j h => by simp at h⟩
theorem Fam.snoc {α : Type} {P : Nat -> α -> Prop} {n : Nat} {l : List α} {y : α} (h : Fam P n l) (hy : P n y) : Fam P (n + 1) (l ++ [y]) := by
 refine ⟨by simp [h.1], fun j hj => ?_⟩
 by_cases c : j < l.length
 ·rw [List.getElem_append_left c]; exact h.2 j c
 ·have : j = l.length := by simp at hj; omega
  subst this
  rw [List.getElem_append_right (by omega)]
  simp only [Nat.sub_self, List.getElem_cons_zero]
  rw [h.1]; exact hy
theorem Fam.idx {α : Type} {P : Nat -> α -> Prop} {n j : Nat} {l : List α} (h : Fam P n l) (hj : j < n) : ∃ y, idx l (j : Int) = some y /\ P j y := by
 have hl : j < l.length := by rw [h.1]; exact hj
 exact ⟨l[j], z41 (zAh hl), h.2 j hl⟩
theorem Fam.mono {α : Type} {P Q : Nat -> α -> Prop} {n : Nat} {l : List α} (h : Fam P n l) (hPQ : ∀ j y, j < n -> P j y -> Q j y) : Fam Q n l :=
 ⟨h.1, fun j hj => hPQ j _ (by rw [<- h.1]; exact hj) (h.2 j hj)⟩
theorem Fam.uniq {α : Type} {P : Nat -> α -> Prop} {n : Nat} {l m : List α} (hu : ∀ j x y, P j x -> P j y -> x = y) (h : Fam P n l) (k : Fam P n m) : l = m :=
 List.ext_getElem (by rw [h.1, k.1]) fun j h1 h2 => hu j _ _ (h.2 j h1) (k.2 j h2)
theorem za8 {β R : Type} (n : Nat) (L : Nat -> List β -> Int -> Option R) (P : Nat -> β -> Prop) (Q : R -> Prop) (hn : n < K)
  (hend : ∀ k acc, Fam P n acc -> ∃ r, L (k + 1) acc (n : Int) = some r /\ Q r)
  (hstep : ∀ k i acc, i < n -> Fam P i acc -> (∃ r, L (k + 1) acc (i : Int) = some r /\ Q r) \/ ∃ y, P i y /\ L (k + 1) acc (i : Int) = L k (acc ++ [y]) ((i + 1 : Nat) : Int)) :
  ∃ r, L K [] 0 = some r /\ Q r := by
 have key : ∀ m i k acc, i + m = n -> m < k -> Fam P i acc -> ∃ r, L k acc (i : Int) = some r /\ Q r := by
  intro m
  induction m with
  | zero =>
   intro i k acc hi hk ha
   obtain ⟨k, rfl⟩ : ∃ m, k = m + 1 := ⟨k - 1, by omega⟩
   obtain rfl : i = n := by omega
   exact hend k acc ha
  | succ m ih =>
   intro i k acc hi hk ha
   obtain ⟨k, rfl⟩ : ∃ m, k = m + 1 := ⟨k - 1, by omega⟩
   rcases hstep k i acc (by omega) ha with h | ⟨y, hy, h⟩
   ·exact h
   ·rw [h]; exact ih (i + 1) k _ (by omega) (by omega) (ha.snoc hy)
 exact key n 0 K [] (by omega) hn .nil
theorem k1 {i : Nat} (h : i <= 1048576) : z04 .i64 ((i : Int) + 1) = ((i + 1 : Nat) : Int) := by rw [k64 (by omega) (by omega)]; omega
theorem lt_d {i n : Nat} (h : i < n) : decide ((i : Int) < (n : Int)) = true := decide_eq_true (by omega)
noncomputable def vecE (l : List zAd) : Int := if l.length > 40 then 2 else z84 l
theorem zkw {n : Nat} {α : Type} (a b : α) : (if decide ((n : Int) > 40) = true then a else b) = if n > 40 then a else b := by
 by_cases h : n > 40
 ·rw [if_pos h, if_pos (decide_eq_true (by omega))]
 ·rw [if_neg h, if_neg (by simp; omega)]
theorem zgv {l : List zAd} (hl : l.length <= 1048576) (hs : ∀ s ∈ l, s.size <= 1048576) (hK : 2000000000 < K) : z1a K l = some (vecE l) := by
 unfold z1a vecE
 rw [zkw, zgu hl hs hK, z0i]
 split <;> rfl
theorem zkx {l : List zAd} (hl : l.length <= 1048576) (hs : ∀ s ∈ l, s.size <= 1048576) (hK : 2000000000 < K) : z6y K l = some (vecE l) := by
 unfold z6y vecE
 rw [zkw, zkv hl hs hK, z0i]
 split <;> rfl
theorem zg9 {l : List zAd} (h : vecE l = 0) : l.length <= 40 /\ z84 l = 0 := by
 unfold vecE at h
 split at h
 ·cases h
 ·exact ⟨by omega, h⟩
noncomputable def rowE (w : Nat) (row : List zAd) : Option Int := if row.length ≠ w then some 3 else if vecE row ≠ 0 then some (vecE row) else none
noncomputable def matE (m : List (List zAd)) : Int := if m.length > 40 then 2 else (m.findSome? (rowE (m.getD 0 []).length)).getD 0
def MOk (m : List (List zAd)) : Prop := m.length <= 1048576 /\ ∀ row ∈ m, row.length <= 1048576 /\ ∀ s ∈ row, s.size <= 1048576
theorem idx0 {m : List (List zAd)} (h : 0 < m.length) : idx m 0 = some (m.getD 0 []) := by
 have : idx m ((0 : Nat) : Int) = some m[0] := z41 (zAh h)
 rw [zAb, zAh h]
 exact this
theorem ne_len {a b : Nat} : (((a : Int) != (b : Int)) = true) ↔ a ≠ b := by rw [bne_iff_ne]; omega
theorem z7f {m : List (List zAd)} (hm : MOk m) (hK : 2000000000 < K) : z1b K m = some (matE m) := by
 obtain ⟨hl, hr⟩ := hm
 unfold z1b matE
 rw [zkw]
 by_cases h : m.length > 40
 ·rw [if_pos h, if_pos h]
 ·rw [if_neg h, if_neg h]
  rw [z85 (K := K) (l := m) (L := z28 K m) (rowE (m.getD 0 []).length) (fun k => by rw [z28, if_neg (by simp)]) (fun k i hi => ?_) (by omega)]
  ·cases List.findSome? (rowE (m.getD 0 []).length) m <;> rfl
  ·have hx : idx m (i : Int) = some m[i] := z41 (zAh hi)
   obtain ⟨r1, r2⟩ := hr m[i] (List.getElem_mem hi)
   rw [z28, if_pos (lt_d hi), hx, z0i, idx0 (by omega), z0i, zgv r1 r2 hK, z0i, k1 (by omega)]
   unfold rowE
   by_cases c : m[i].length ≠ (m.getD 0 []).length
   ·rw [if_pos (ne_len.2 c), if_pos c]
   ·rw [if_neg (fun e => c (ne_len.1 e)), if_neg c]
    by_cases d : vecE m[i] ≠ 0
    ·rw [if_pos (by simpa using d), if_pos d]
    ·rw [if_neg (by simpa using d), if_neg d]
theorem zga {m : List (List zAd)} (hm : MOk m) (hK : 2000000000 < K) : z36 K m = some (matE m) := by
 obtain ⟨hl, hr⟩ := hm
 unfold z36 matE
 rw [zkw]
 by_cases h : m.length > 40
 ·rw [if_pos h, if_pos h]
 ·rw [if_neg h, if_neg h]
  rw [z85 (K := K) (l := m) (L := z1x K m) (rowE (m.getD 0 []).length) (fun k => by rw [z1x, if_neg (by simp)]) (fun k i hi => ?_) (by omega)]
  ·cases List.findSome? (rowE (m.getD 0 []).length) m <;> rfl
  ·have hx : idx m (i : Int) = some m[i] := z41 (zAh hi)
   obtain ⟨r1, r2⟩ := hr m[i] (List.getElem_mem hi)
   rw [z1x, if_pos (lt_d hi), hx, z0i, idx0 (by omega), z0i]
   simp only [z0i, zkx r1 r2 hK, k1 (show i <= 1048576 by omega)]
   unfold rowE
   by_cases c : m[i].length ≠ (m.getD 0 []).length
   ·rw [if_pos (ne_len.2 c), if_pos c]
   ·rw [if_neg (fun e => c (ne_len.1 e)), if_neg c]
    by_cases d : vecE m[i] ≠ 0
    ·rw [if_pos (by simpa using d), if_pos d]
    ·rw [if_neg (by simpa using d), if_neg d]
theorem zm4 {l : List Int} (hl : l.length <= 1048576) (hK : 2000000000 < K) : z5t K l = some ((l.findSome? fun x => if x ≠ 0 then some x else none).getD 0) := by
 unfold z5t
 rw [z85 (K := K) (l := l) (L := z3r K l) (fun x => if x ≠ 0 then some x else none) (fun k => by rw [z3r, if_neg (by simp)]) (fun k i hi => ?_) (by omega)]
 ·cases List.findSome? (fun x => if x ≠ 0 then some x else none) l <;> rfl
 ·have hx : idx l (i : Int) = some l[i] := z41 (zAh hi)
  rw [z3r, if_pos (lt_d hi), hx, z0i, k1 (by omega)]
  by_cases c : l[i] ≠ 0
  ·rw [if_pos (by simpa using c), if_pos c]
  ·rw [if_neg (by simpa using c), if_neg c]
theorem zky {a b : Int} (hK : 2000000000 < K) : z5t K [a, b] = some (if a ≠ 0 then a else b) := by
 rw [zm4 (by simp) hK]
 by_cases ha : a = 0 <;> by_cases hb : b = 0 <;> simp [ha, hb]
def zle (n : Int) (m : List (List (List zAd))) : Bool := m.any fun x => decide ((x.length : Int) > n) || x.any fun v => decide ((v.length : Int) > n) || v.any fun r => decide ((r.size : Int) > 12)
theorem zj7 {α : Type} (l : List α) (p : α -> Bool) : l.any p = (l.findSome? fun x => if p x then some () else none).isSome := by
 induction l with
 | nil => rfl
 | cons x l ih =>
  rw [List.any_cons, List.findSome?_cons, ih]
  cases h : p x <;> simp
theorem zfa {l : List zAd} {F : zAd -> Option Bool} {p : zAd -> Bool} (hl : l.length <= 1048576) (hK : 2000000000 < K) (hp : ∀ x ∈ l, F x = some (p x)) : z0l K l F = some (l.any p) := by
 have key : ∃ r : Int ⊕ Unit, z0c K l F K 0 = some r /\ ((r = .inr () /\ l.any p = false) \/ ∃ i : Int, 0 <= i /\ r = .inl i /\ l.any p = true) := by
  refine zaw (fun k (s : Int) => z0c K l F k s) (fun s => ∃ i : Nat, s = i /\ i <= l.length /\ (l.take i).any p = false) (fun s => (l.length - s : Int).toNat) _ ?_ (0 : Int) (by omega) ⟨0, rfl, by omega, by simp⟩
  rintro k _ ⟨i, rfl, h0, h1⟩
  by_cases hi : i < l.length
  ·have hx : idx l (i : Int) = some l[i] := z41 (zAh hi)
   have hpi := hp l[i] (List.getElem_mem hi)
   have hsn : l.take (i + 1) = l.take i ++ [l[i]] := by rw [List.take_add_one, zAh hi]; rfl
   cases hc : p l[i] with
   | true =>
    left
    refine ⟨.inl i, ?_, .inr ⟨i, by omega, rfl, List.any_eq_true.2 ⟨l[i], List.getElem_mem hi, hc⟩⟩⟩
    rw [z0c, if_pos (decide_eq_true (by omega)), hx, z0i, hpi, z0i, hc, if_pos rfl]
   | false =>
    right
    refine ⟨(i : Int) + 1, ?_, by omega, i + 1, rfl, by omega, by rw [hsn, List.any_append, h1]; simp [hc]⟩
    rw [z0c, if_pos (decide_eq_true (by omega)), hx, z0i, hpi, z0i, hc, if_neg (by simp), k64 (by omega) (by omega)]
  ·left
   have : i = l.length := by omega
   subst this
   rw [List.take_of_length_le (Nat.le_refl _)] at h1
   refine ⟨.inr (), ?_, .inl ⟨rfl, h1⟩⟩
   rw [z0c, if_neg (by simp)]
 obtain ⟨r, h1, h2⟩ := key
 unfold z0l z0r
 rw [h1]
 rcases h2 with ⟨rfl, h3⟩ | ⟨i, h4, rfl, h3⟩
 ·rw [h3]; rfl
 ·rw [h3, zig, tu1a, z0i, decide_eq_true (by omega)]
theorem znp {n : Int} {m : List (List (List zAd))} (hm : m.length <= 1048576) (hr : ∀ x ∈ m, MOk x) (hK : 2000000000 < K) : z7o K n m = some (zle n m) := by
 have hv : ∀ x ∈ m, z3k K n x K 0 = some (resF (x.findSome? (fun v => if (decide ((v.length : Int) > n) || v.any fun r => decide ((r.size : Int) > 12)) then some true else none))) := fun x hx => by
  obtain ⟨x1, x2⟩ := hr x hx
  refine z85 (K := K) (l := x) (L := z3k K n x) (fun v => if (decide ((v.length : Int) > n) || v.any fun r => decide ((r.size : Int) > 12)) then some true else none) (fun k => by rw [z3k, if_neg (by simp)]) (fun k i hi => ?_) (by omega)
  have hxi : idx x (i : Int) = some x[i] := z41 (zAh hi)
  obtain ⟨r1, r2⟩ := x2 x[i] (List.getElem_mem hi)
  rw [z3k, if_pos (lt_d hi), hxi, z0i, k1 (by omega), zfa (F := fun x => z6z K x) (p := fun r => decide ((r.size : Int) > 12)) r1 hK (fun r _ => rfl), z0i]
  cases c1 : decide ((x[i].length : Int) > n) <;> cases c2 : x[i].any (fun r => decide ((r.size : Int) > 12)) <;> simp [tu1a]
 unfold z7o zle
 rw [zj7]
 rw [z85 (K := K) (l := m) (L := z4b K n m) (fun x => if (decide ((x.length : Int) > n) || x.any fun v => decide ((v.length : Int) > n) || v.any fun r => decide ((r.size : Int) > 12)) then some true else none) (fun k => by rw [z4b, if_neg (by simp)]) (fun k i hi => ?_) (by omega)]
 ·have : ∀ l : List (List (List zAd)), ∀ q : List (List zAd) -> Bool, z9q (some (resF (l.findSome? (fun x => if q x then some true else none)))) (tu1 fun a => some a) (tu0 (some false)) = some (l.findSome? fun x => if q x then some () else none).isSome := by
   intro l q
   induction l with
   | nil => rfl
   | cons x l ih =>
    rw [List.findSome?_cons, List.findSome?_cons]
    cases h : q x
    ·simpa [h] using ih
    ·rfl
  exact this m _
 ·have hx : idx m (i : Int) = some m[i] := z41 (zAh hi)
  rw [z4b, if_pos (lt_d hi), hx, z0i, k1 (by omega), hv m[i] (List.getElem_mem hi)]
  cases c1 : decide ((m[i].length : Int) > n)
  ·rw [if_neg (by simp)]
   rw [zj7 m[i]]
   generalize hq : (fun v : List zAd => (decide ((v.length : Int) > n) || v.any fun r => decide ((r.size : Int) > 12))) = q
   have : ∀ l : List (List zAd), (l.findSome? (fun v => if q v then some true else none)) = ((l.findSome? fun v => if q v then some () else none).map fun _ => true) := by
    intro l
    induction l with
    | nil => rfl
    | cons x l ih =>
     rw [List.findSome?_cons, List.findSome?_cons, ih]
     cases q x <;> rfl
   subst hq
   rw [this]
   cases List.findSome? _ m[i] <;> rfl
  ·rw [if_pos rfl]; rfl
end Go.Am.Tryz
/- The closed matrix fact holds. -/
namespace Go.Am.Tryz
open Go Go.Am Go.Proofs
theorem zce : z5d 2000000001 = some true := by kernel_rfl
end Go.Am.Tryz
/- Plain law: rows and scalar products; MatrixDots answers true. -/
namespace Go.Am.Tryz
open Go Go.Am Go.Proofs
variable {K : Nat}
abbrev FT (f : Nat -> Rat) (n : Nat) (l : List zAd) : Prop := Fam (fun j s => RTx s (f j)) n l
abbrev FQ (f : Nat -> Rat) (n : Nat) (l : List Q) : Prop := Fam (fun j q => QV q (f j)) n l
theorem FT.uniq {f : Nat -> Rat} {n : Nat} {l m : List zAd} (h : FT f n l) (k : FT f n m) : l = m := Fam.uniq (fun _ _ _ h1 h2 => h1.inj h2) h k
theorem zoj {f : Nat -> Rat} {n : Nat} {l : List zAd} (h : FT f n l) (hs : ∀ s ∈ l, s.size <= 1048576) (hn : n <= 1048576) (hK : 2000000000 < K) : ∃ q, z46 K l = some q /\ FQ f n q := by
 have hl := h.1
 obtain ⟨q, q1, q2⟩ := za8 (K := K) n (z31 K l) (fun j q => QV q (f j)) (fun q => FQ f n q) (by omega)
  (fun k acc ha => ⟨acc, by rw [z31, hl, if_neg (by simp)], ha⟩)
  (fun k i acc hi ha => by
   right
   have hx : idx l (i : Int) = some l[i] := z41 (zAh (by omega))
   obtain ⟨q, q1, q2⟩ := znk (K := K) (h.2 i (by omega)) (hs _ (List.getElem_mem (by omega))) hK
   have hal := ha.1
   exact ⟨q, q2, by rw [z31, hl, if_pos (lt_d hi), hx, z0i, q1, z0i, if_pos (by simp; omega), k1 (by omega)]⟩)
 exact ⟨q, by unfold z46; rw [q1]; rfl, q2⟩
theorem zok {l : List zAd} (hs : ∀ s ∈ l, s.size <= 1048576) (h : vecE l = 0) : ∃ f, FT f l.length l /\ l.length <= 40 /\ ∀ i, i < l.length -> Dl (f i) 2000 := by
 obtain ⟨h1, h2⟩ := zg9 h
 obtain ⟨f, f1, f2⟩ := zoi hs h2
 exact ⟨f, ⟨rfl, f1⟩, h1, f2⟩
theorem zm5 {f : Nat -> Rat} {n : Nat} {l : List zAd} (h : FT f n l) (hs : ∀ s ∈ l, s.size <= 12) : ∀ j, j < n -> Dl (f j) 13 := fun j hj => by
 have hl := h.1
 exact (h.2 j (by omega)).dl (hs _ (List.getElem_mem (by omega)))
theorem zj8 {n : Int} {m : List (List (List zAd))} (h : zle n m = false) : ∀ x ∈ m, (x.length : Int) <= n /\ ∀ v ∈ x, (v.length : Int) <= n /\ ∀ r ∈ v, r.size <= 12 := by
 intro x hx
 unfold zle at h
 rw [List.any_eq_false] at h
 have h1 := h x hx
 simp only [Bool.not_eq_true, Bool.or_eq_false_iff, decide_eq_false_iff_not, List.any_eq_false, decide_eq_true_eq] at h1
 refine ⟨by omega, fun v hv => ?_⟩
 have h2 := h1.2 v hv
 exact ⟨by omega, fun r hr => by have := h2.2 r hr; omega⟩
end Go.Am.Tryz
/- Plain law: matrices of numbers: rows, columns, products. -/
namespace Go.Am.Tryz
open Go Go.Am Go.Proofs
variable {K : Nat}
abbrev MT (f : Nat -> Nat -> Rat) (h w : Nat) (m : List (List zAd)) : Prop := Fam (fun i row => FT (f i) w row) h m
abbrev MQ (f : Nat -> Nat -> Rat) (h w : Nat) (m : List (List Q)) : Prop := Fam (fun i row => FQ (f i) w row) h m
theorem MT.uniq {f : Nat -> Nat -> Rat} {h w : Nat} {l m : List (List zAd)} (a : MT f h w l) (b : MT f h w m) : l = m := Fam.uniq (fun _ _ _ h1 h2 => h1.uniq h2) a b
def wid (m : List (List zAd)) : Nat := (m.getD 0 []).length
theorem zkz {m : List (List zAd)} (h : matE m = 0) : m.length <= 40 /\ ∀ row ∈ m, row.length = wid m /\ vecE row = 0 := by
 unfold matE at h
 split at h
 ·cases h
 ·refine ⟨by omega, ?_⟩
  have hn : m.findSome? (rowE (m.getD 0 []).length) = none := by
   cases hf : m.findSome? (rowE (m.getD 0 []).length) with
   | none => rfl
   | some r =>
    rw [hf] at h
    obtain ⟨row, _, hr⟩ := List.exists_of_findSome?_eq_some hf
    unfold rowE at hr
    split at hr
    ·cases hr; cases h
    ·split at hr
     ·cases hr; exact absurd h (by assumption)
     ·cases hr
  intro row hrow
  have := List.findSome?_eq_none_iff.1 hn row hrow
  unfold rowE at this
  split at this
  ·cases this
  ·split at this
   ·cases this
   ·exact ⟨by unfold wid; omega, by omega⟩
theorem znq {m : List (List zAd)} (hm : MOk m) (h : matE m = 0) : ∃ f, MT f m.length (wid m) m /\ m.length <= 40 /\ wid m <= 40 /\ ∀ i j, i < m.length -> j < wid m -> Dl (f i j) 2000 := by
 classical
 obtain ⟨h1, h2⟩ := zkz h
 have hex : ∀ i (hi : i < m.length), ∃ f, FT f (wid m) m[i] /\ ∀ j, j < wid m -> Dl (f j) 2000 := fun i hi => by
  obtain ⟨r1, r2⟩ := h2 m[i] (List.getElem_mem hi)
  obtain ⟨f, f1, f2, f3⟩ := zok (hm.2 m[i] (List.getElem_mem hi)).2 r2
  rw [r1] at f1 f3
  exact ⟨f, f1, f3⟩
 have hw : wid m <= 40 := by
  by_cases hl : 0 < m.length
  ·obtain ⟨r1, r2⟩ := h2 m[0] (List.getElem_mem hl)
   have := (zg9 r2).1
   omega
  ·have : m = [] := List.length_eq_zero_iff.1 (by omega)
   subst this
   show 0 <= 40
   omega
 refine ⟨fun i => if hi : i < m.length then (hex i hi).choose else fun _ => 0, ⟨rfl, fun i hi => ?_⟩, h1, hw, fun i j hi hj => ?_⟩
 ·dsimp only; rw [dif_pos hi]; exact (hex i hi).choose_spec.1
 ·dsimp only; rw [dif_pos hi]; exact (hex i hi).choose_spec.2 j hj
theorem zl0 {m : List (List zAd)} : z8w K m = some ((wid m : Nat) : Int) := by
 unfold z8w wid
 by_cases h : 0 < m.length
 ·rw [if_pos (decide_eq_true (by omega)), idx0 h, z0i]
 ·have : m = [] := List.length_eq_zero_iff.1 (by omega)
  subst this
  rfl
theorem zdm {m : List (List zAd)} : z2g K m = some ((wid m : Nat) : Int) := by
 unfold z2g wid
 by_cases h : 0 < m.length
 ·rw [if_neg (by rw [beq_iff_eq]; omega), idx0 h, z0i]
 ·have : m = [] := List.length_eq_zero_iff.1 (by omega)
  subst this
  rfl
theorem zol {f : Nat -> Nat -> Rat} {h w : Nat} {m : List (List zAd)} (hm : MT f h w m) (hs : MOk m) (hw : w <= 1048576) (hK : 2000000000 < K) : ∃ q, z3w K m = some q /\ MQ f h w q := by
 have hl := hm.1
 obtain ⟨s1, s2⟩ := hs
 obtain ⟨q, q1, q2⟩ := za8 (K := K) h (z3p K m) (fun i row => FQ (f i) w row) (fun q => MQ f h w q) (by omega)
  (fun k acc ha => ⟨acc, by rw [z3p, hl, if_neg (by simp)], ha⟩)
  (fun k i acc hi ha => by
   right
   have hx : idx m (i : Int) = some m[i] := z41 (zAh (by omega))
   obtain ⟨q, q1, q2⟩ := zoj (K := K) (hm.2 i (by omega)) (s2 _ (List.getElem_mem (by omega))).2 hw hK
   have hal := ha.1
   exact ⟨q, q2, by rw [z3p, hl, if_pos (lt_d hi), hx, z0i, q1, z0i, if_pos (by simp; omega), k1 (by omega)]⟩)
 exact ⟨q, by unfold z3w; rw [q1]; rfl, q2⟩
theorem zom {f : Nat -> Rat} {n N : Nat} {l : List Q} (h : FQ f n l) (hn : n <= 1048576) (hN : N <= 900000) (df : ∀ j, j < n -> Dl (f j) N) (hK : 2000000000 < K) :
  ∃ s e, z5m K l = some (s, e) /\ ((∀ j, j < n -> Dl (f j) 2000) -> e = 0 /\ FT f n s) := by
 have hl := h.1
 obtain ⟨r, r1, r2⟩ := za8 (K := K) n (z2l K l) (fun j s => RTx s (f j)) (fun r => (r = .inl ([], 2) /\ ∃ j, j < n /\ ¬ Dl (f j) 2000) \/ ∃ s, r = .inr s /\ FT f n s) (by omega)
  (fun k acc ha => ⟨.inr acc, by rw [z2l, hl, if_neg (by simp)], .inr ⟨acc, rfl, ha⟩⟩)
  (fun k i acc hi ha => by
   have hx : idx l (i : Int) = some l[i] := z41 (zAh (by omega))
   have hq := h.2 i (by omega)
   obtain ⟨f1, f2⟩ := znm (K := K) hq (df i hi) hN hK
   by_cases c : Dl (f i) 2000
   ·right
    obtain ⟨s, s1, s2⟩ := znl (K := K) hq c (by omega) hK
    have hal := ha.1
    exact ⟨s, s2, by rw [z2l, hl, if_pos (lt_d hi), hx, z0i, f1 c, z0i, if_neg (by simp), s1, z0i, if_pos (by simp; omega), k1 (by omega)]⟩
   ·left
    exact ⟨.inl ([], 2), by rw [z2l, hl, if_pos (lt_d hi), hx, z0i, f2 c, z0i, if_pos (by simp)], .inl ⟨rfl, i, hi, c⟩⟩)
 unfold z5m
 rw [r1]
 rcases r2 with ⟨rfl, j, hj, hn⟩ | ⟨s, rfl, hs⟩
 ·exact ⟨[], 2, rfl, fun hh => absurd (hh j hj) hn⟩
 ·exact ⟨s, 0, rfl, fun _ => ⟨rfl, hs⟩⟩
theorem zgb {f : Nat -> Nat -> Rat} {h w N : Nat} {l : List (List Q)} (hm : MQ f h w l) (hh : h <= 1048576) (hw : w <= 1048576) (hN : N <= 900000) (df : ∀ i j, i < h -> j < w -> Dl (f i j) N) (hK : 2000000000 < K) :
  ∃ s e, z32 K l = some (s, e) /\ ((∀ i j, i < h -> j < w -> Dl (f i j) 2000) -> e = 0 /\ MT f h w s) := by
 classical
 have hl := hm.1
 obtain ⟨r, r1, r2⟩ := za8 (K := K) h (z1g K l) (fun i row => (∀ i j, i < h -> j < w -> Dl (f i j) 2000) -> FT (f i) w row) (fun r => (∃ e, r = .inl ([], e) /\ ¬ ∀ i j, i < h -> j < w -> Dl (f i j) 2000) \/ ∃ s, r = .inr s /\ ((∀ i j, i < h -> j < w -> Dl (f i j) 2000) -> MT f h w s)) (by omega)
  (fun k acc ha => ⟨.inr acc, by rw [z1g, hl, if_neg (by simp)], .inr ⟨acc, rfl, fun hd => ⟨ha.1, fun j hj => ha.2 j hj hd⟩⟩⟩)
  (fun k i acc hi ha => by
   have hx : idx l (i : Int) = some l[i] := z41 (zAh (by omega))
   obtain ⟨s, e, s1, s2⟩ := zom (K := K) (hm.2 i (by omega)) hw hN (fun j hj => df i j hi hj) hK
   have hal := ha.1
   by_cases c : e = 0
   ·right
    subst c
    exact ⟨s, fun hd => (s2 fun j hj => hd i j hi hj).2, by rw [z1g, hl, if_pos (lt_d hi), hx, z0i, s1, z0i, if_neg (by simp), if_pos (by simp; omega), k1 (by omega)]⟩
   ·left
    exact ⟨.inl ([], e), by rw [z1g, hl, if_pos (lt_d hi), hx, z0i, s1, z0i, if_pos (by simpa using c)], .inl ⟨e, rfl, fun hd => c (s2 fun j hj => hd i j hi hj).1⟩⟩)
 unfold z32
 rw [r1]
 rcases r2 with ⟨e, rfl, hn⟩ | ⟨s, rfl, hs⟩
 ·exact ⟨[], e, rfl, fun hh => absurd hh hn⟩
 ·exact ⟨s, 0, rfl, fun hd => ⟨rfl, hs hd⟩⟩
end Go.Am.Tryz
/- Plain law: what Identity, Add and Scale return. -/
namespace Go.Am.Tryz
open Go Go.Am Go.Proofs
variable {K : Nat}
theorem Fam.set {α : Type} {P : Nat -> α -> Prop} {n j : Nat} {l : List α} {y : α} (h : Fam (fun i x => i ≠ j -> P i x) n l) (hy : P j y) : Fam P n (l.set j y) := by
 refine ⟨by simp [h.1], fun i hi => ?_⟩
 simp only [List.length_set] at hi
 rw [List.getElem_set]
 by_cases c : j = i
 ·subst c; rw [if_pos rfl]; exact hy
 ·rw [if_neg c]; exact h.2 i hi (fun e => c e.symm)
def zgw (m : List (List zAd)) : Prop := ∀ row ∈ m, ∀ s ∈ row, s.size <= 12
theorem zbc {f : Nat -> Nat -> Rat} {h w : Nat} {m : List (List zAd)} (hm : MT f h w m) (hs : zgw m) : ∀ i j, i < h -> j < w -> Dl (f i j) 13 := fun i j hi hj => by
 have hl := hm.1
 have hr : FT (f i) w m[i] := hm.2 i (by omega)
 exact zm5 hr (hs _ (List.getElem_mem (by omega))) j hj
def zgc (n i : Nat) : List zAd := (List.replicate n ⟨#[48]⟩).set i ⟨#[49]⟩
theorem zm6 {n : Nat} (hn : n <= 40) (hK : 2000000000 < K) : ∃ t, z1c K (n : Int) = some (t, 0) /\ Fam (fun i row => row = zgc n i) n t := by
 obtain ⟨t, t1, t2⟩ := za8 (K := K) n (fun k acc i => z1f K (n : Int) k acc i) (fun i row => row = zgc n i) (fun t => Fam (fun i row => row = zgc n i) n t) (by omega)
  (fun k acc ha => ⟨acc, by rw [z1f, if_neg (by simp)], ha⟩)
  (fun k i acc hi ha => by
   right
   have hr : z0q K [(⟨#[48]⟩ : zAd)] (n : Int) = some (List.replicate n ⟨#[48]⟩) := by
    unfold z0q
    dsimp only
    rw [if_pos (by omega), Int.toNat_natCast]
   have hx : idx (List.replicate n (⟨#[48]⟩ : zAd)) (i : Int) = some ⟨#[48]⟩ := z41 (by rw [List.getElem?_replicate, if_pos hi])
   have hal := ha.1
   exact ⟨zgc n i, rfl, by rw [z1f, if_pos (lt_d hi), hr, z0i, hx, z0i, if_pos (by simp; omega), Int.toNat_natCast, k1 (by omega)]; rfl⟩)
 refine ⟨t, ?_, t2⟩
 unfold z1c
 rw [if_neg (by simp), decide_eq_false (by omega), z0i, tu1a, if_neg (by simp), t1]
 rfl
theorem zl1 {n : Int} (h : n < 0 \/ 40 < n) : z1c K n = some ([], 4) := by
 unfold z1c
 by_cases h0 : n < 0
 ·rw [if_pos (decide_eq_true h0), z0i, tu1a, if_pos rfl]
 ·rw [if_neg (by simpa using h0), decide_eq_true (by omega), z0i, tu1a, if_pos rfl]
def mixF (f F : Nat -> Nat -> Rat) (i j r c : Nat) : Rat := if r < i \/ r = i /\ c < j then F r c else f r c
theorem zdn {f F : Nat -> Nat -> Rat} {i j i' j' r c : Nat} (h : (r < i \/ r = i /\ c < j) ↔ (r < i' \/ r = i' /\ c < j')) : mixF f F i j r c = mixF f F i' j' r c := by
 unfold mixF
 by_cases k : r < i \/ r = i /\ c < j
 ·rw [if_pos k, if_pos (h.1 k)]
 ·rw [if_neg k, if_neg (fun e => k (h.2 e))]
theorem znr {f F : Nat -> Nat -> Rat} {h w : Nat} {x : List (List Q)} (hx : MQ f h w x) (hh : h <= 1048576) (hw : w <= 1048576) (hK : 2000000000 < K) (L0 : Nat -> List (List Q) -> Int -> Option (List (List Q))) (L2 : Int -> List Q -> Nat -> List (List Q) -> Int -> Option (List (List Q)))
  (e0 : ∀ k acc, L0 (k + 1) acc (h : Int) = some acc)
  (s0 : ∀ k acc (i : Nat) row, i < h -> idx acc (i : Int) = some row -> L0 (k + 1) acc (i : Int) = Option.bind (L2 (i : Int) row K acc 0) fun t => L0 k t ((i + 1 : Nat) : Int))
  (e2 : ∀ k acc i row, row.length = w -> L2 i row (k + 1) acc (w : Int) = some acc)
  (s2 : ∀ k acc (i j : Nat) row0 row q, i < h -> j < w -> row0.length = w -> idx acc (i : Int) = some row -> idx row (j : Int) = some q -> QV q (f i j) -> ∃ q', QV q' (F i j) /\ L2 (i : Int) row0 (k + 1) acc (j : Int) = L2 (i : Int) row0 k (acc.set i (row.set j q')) ((j + 1 : Nat) : Int)) :
  ∃ t, L0 K x 0 = some t /\ MQ F h w t := by
 have inner : ∀ i acc row0, i < h -> row0.length = w -> MQ (mixF f F i 0) h w acc -> ∃ t, L2 (i : Int) row0 K acc 0 = some t /\ MQ (mixF f F (i + 1) 0) h w t := by
  intro i acc row0 hi hr0 ha
  refine zaw (fun k (s : List (List Q) × Int) => L2 (i : Int) row0 k s.1 s.2) (fun s => ∃ j : Nat, s.2 = j /\ j <= w /\ MQ (mixF f F i j) h w s.1) (fun s => (w - s.2 : Int).toNat) _ ?_ ((acc, 0) : List (List Q) × Int) (by dsimp only; omega) ⟨0, rfl, by omega, ha⟩
  rintro k ⟨o, _⟩ ⟨j, rfl, h1, h2⟩
  dsimp only at h2 ⊢
  by_cases hj : j < w
  ·right
   obtain ⟨row, r1, r2⟩ := h2.idx hi
   obtain ⟨q, q1, q2⟩ := Fam.idx r2 hj
   have hq : QV q (f i j) := by
    have : mixF f F i j i j = f i j := by unfold mixF; rw [if_neg (by omega)]
    rwa [this] at q2
   obtain ⟨q', q3, q4⟩ := s2 k o i j row0 row q hi hj hr0 r1 q1 hq
   refine ⟨(o.set i (row.set j q'), ((j + 1 : Nat) : Int)), q4, by dsimp only; omega, j + 1, rfl, by omega, ?_⟩
   refine Fam.set (j := i) (h2.mono fun r y hr hy hne => ?_) ?_
   ·exact Fam.mono hy fun c q hc hq => by
     have e : mixF f F i (j + 1) r c = mixF f F i j r c := zdn (by omega)
     rw [e]; exact hq
   ·refine Fam.set (j := j) (Fam.mono r2 fun c q hc hq hne => ?_) ?_
    ·have e : mixF f F i (j + 1) i c = mixF f F i j i c := zdn (by omega)
     rw [e]; exact hq
    ·have e : mixF f F i (j + 1) i j = F i j := by unfold mixF; rw [if_pos (by omega)]
     rw [e]; exact q3
  ·left
   have : j = w := by omega
   subst this
   refine ⟨o, e2 k o i row0 hr0, h2.mono fun r y hr hy => Fam.mono hy fun c q hc hq => ?_⟩
   have e : mixF f F (i + 1) 0 r c = mixF f F i j r c := zdn (by omega)
   rw [e]; exact hq
 have key : ∃ t : List (List Q), L0 K x 0 = some t /\ MQ F h w t := by
  refine zaw (fun k (s : List (List Q) × Int) => L0 k s.1 s.2) (fun s => ∃ i : Nat, s.2 = i /\ i <= h /\ MQ (mixF f F i 0) h w s.1) (fun s => (h - s.2 : Int).toNat) _ ?_ ((x, 0) : List (List Q) × Int) (by dsimp only; omega) ⟨0, rfl, by omega, hx.mono fun r y hr hy => Fam.mono hy fun c q hc hq => by
   have e : mixF f F 0 0 r c = f r c := by unfold mixF; rw [if_neg (by omega)]
   rw [e]; exact hq⟩
  rintro k ⟨o, _⟩ ⟨i, rfl, h1, h2⟩
  dsimp only at h2 ⊢
  by_cases hi : i < h
  ·right
   obtain ⟨row, r1, r2⟩ := h2.idx hi
   obtain ⟨t, t1, t2⟩ := inner i o row hi r2.1 h2
   exact ⟨(t, ((i + 1 : Nat) : Int)), by rw [s0 k o i row hi r1, t1, z0i], by dsimp only; omega, i + 1, rfl, by omega, t2⟩
  ·left
   have : i = h := by omega
   subst this
   refine ⟨o, e0 k o, h2.mono fun r y hr hy => Fam.mono hy fun c q hc hq => ?_⟩
   have e : mixF f F i 0 r c = F r c := by unfold mixF; rw [if_pos (by omega)]
   rw [e] at hq; exact hq
 exact key
theorem zon {f g : Nat -> Nat -> Rat} {h w : Nat} {a b : List (List zAd)} (sa : MOk a) (sb : MOk b) (ea : matE a = 0) (eb : matE b = 0) (ha : MT f h w a) (hb : MT g h w b) (hh : h <= 40) (hw : w <= 40) (wab : wid a = wid b) (df : ∀ i j, i < h -> j < w -> Dl (f i j) 2000) (dg : ∀ i j, i < h -> j < w -> Dl (g i j) 2000) (hK : 2000000000 < K) :
  ∃ s e, z35 K a b = some (s, e) /\ ((∀ i j, i < h -> j < w -> Dl (f i j + g i j) 2000) -> e = 0 /\ MT (fun i j => f i j + g i j) h w s) := by
 obtain ⟨x, x1, x2⟩ := zol (K := K) ha sa (by omega) hK
 obtain ⟨y, y1, y2⟩ := zol (K := K) hb sb (by omega) hK
 have hxl := x2.1
 obtain ⟨q, q1, q2⟩ := znr (K := K) (F := fun i j => f i j + g i j) x2 (by omega) (by omega) hK (z34 K x y) (fun i row => z33 K y i row)
  (fun k acc => by rw [z34, hxl, if_neg (by simp)])
  (fun k acc i row hi hr => by rw [z34, hxl, if_pos (lt_d hi), hr, z0i, k1 (by omega)]; rfl)
  (fun k acc i row hr => by rw [z33, hr, if_neg (by simp)])
  (fun k acc i j row0 row q hi hj hr0 hr hq hv => by
   obtain ⟨yr, y3, y4⟩ := y2.idx hi
   obtain ⟨p, p1, p2⟩ := Fam.idx y4 hj
   obtain ⟨m, m1, m2⟩ := zni (K := K) hv p2 (df i j hi hj) (dg i j hi hj) (by omega) hK
   exact ⟨m, m2, by rw [z33, hr0, if_pos (lt_d hj)]; simp only [hr, hq, y3, p1, m1, z0i, Int.toNat_natCast, k1 (show j <= 1048576 by omega)]⟩)
 obtain ⟨s, e, s1, s2⟩ := zgb (K := K) (N := 5000) q2 (by omega) (by omega) (by omega) (fun i k hi hk => ((df i k hi hk).add (dg i k hi hk)).mono (by omega)) hK
 have hal := ha.1
 have hbl := hb.1
 refine ⟨s, e, ?_, s2⟩
 unfold z35
 rw [z7f sa hK, ea, z0i, if_neg (by simp), z7f sb hK, eb, z0i, if_neg (by simp), if_neg (by rw [hal, hbl]; simp), zdm, zdm, z0i, z0i, wab, z0i, tu1a, if_neg (by simp), x1, z0i, y1, z0i, q1, z0i, tu1a, s1, z0i]
theorem zm7 {f : Nat -> Nat -> Rat} {h w : Nat} {x : Rat} {a : List (List zAd)} {r : zAd} (sa : MOk a) (sr : r.size <= 1048576) (ea : matE a = 0) (er : ratE r = 0) (ha : MT f h w a) (hr : RTx r x) (hh : h <= 40) (hw : w <= 40) (df : ∀ i j, i < h -> j < w -> Dl (f i j) 2000) (dx : Dl x 2000) (hK : 2000000000 < K) :
  ∃ s e, z2h K a r = some (s, e) /\ ((∀ i j, i < h -> j < w -> Dl (f i j * x) 2000) -> e = 0 /\ MT (fun i j => f i j * x) h w s) := by
 obtain ⟨y, y1, y2⟩ := zol (K := K) ha sa (by omega) hK
 obtain ⟨b, b1, b2⟩ := znk (K := K) hr sr hK
 have hxl := y2.1
 obtain ⟨q, q1, q2⟩ := znr (K := K) (F := fun i j => f i j * x) y2 (by omega) (by omega) hK (z2a K y b) (fun i row => z29 K b i row)
  (fun k acc => by rw [z2a, hxl, if_neg (by simp)])
  (fun k acc i row hi hr => by rw [z2a, hxl, if_pos (lt_d hi), hr, z0i, k1 (by omega)]; rfl)
  (fun k acc i row hr => by rw [z29, hr, if_neg (by simp)])
  (fun k acc i j row0 row q hi hj hr0 hr hq hv => by
   obtain ⟨m, m1, m2⟩ := znj (K := K) hv b2 (df i j hi hj) dx (by omega) hK
   exact ⟨m, m2, by rw [z29, hr0, if_pos (lt_d hj)]; simp only [hr, hq, m1, z0i, Int.toNat_natCast, k1 (show j <= 1048576 by omega)]⟩)
 obtain ⟨s, e, s1, s2⟩ := zgb (K := K) (N := 5000) q2 (by omega) (by omega) (by omega) (fun i k hi hk => ((df i k hi hk).mul dx).mono (by omega)) hK
 refine ⟨s, e, ?_, s2⟩
 unfold z2h
 rw [z7f sa hK, ea, z0i, if_neg (by simp), zam sr hK, er, z0i, if_neg (by simp), y1, z0i, b1, z0i, q1, z0i, tu1a, s1, z0i]
end Go.Am.Tryz
/- Plain law: MatrixSums answers true. -/
namespace Go.Am.Tryz
open Go Go.Am Go.Proofs
variable {K : Nat}
theorem zbd {α R : Type} (l : List α) : l.findSome? (fun _ => (none : Option R)) = none := by simp
theorem zm8 : sEq (⟨#[48]⟩ : zAd) ⟨#[49]⟩ = false := by kernel_rfl
theorem zj9 {n : Nat} {d : List (List zAd)} (h : Fam (fun i row => row = zgc n i) n d) (hn : n <= 40) (hK : 2000000000 < K) : z0p K (d, 0) (n : Int) K 0 = some (.inr ()) := by
 have hl := h.1
 rw [z85 (K := K) (l := d) (L := z0p K (d, 0) (n : Int)) (fun _ => none) (fun k => by rw [z0p, if_neg (by simp)]) (fun k i hi => ?_) (by omega), zbd]
 ·rfl
 ·have hx : idx d (i : Int) = some (zgc n i) := by rw [z41 (zAh hi), h.2 i hi]
  have hrl : (zgc n i).length = n := by simp [zgc]
  have inner : z13 K (n : Int) (i : Int) (zgc n i) K 0 = some (.inr ()) := by
   rw [z85 (K := K) (l := zgc n i) (L := z13 K (n : Int) (i : Int) (zgc n i)) (fun _ => none) (fun k => by rw [z13, if_neg (by simp)]) (fun k j hj => ?_) (by omega), zbd]
   ·rfl
   ·have hy : idx (zgc n i) (j : Int) = some (if i = j then ⟨#[49]⟩ else ⟨#[48]⟩) := by
     rw [hrl] at hj
     refine z41 ?_
     unfold zgc
     rw [List.getElem?_set]
     by_cases c : i = j
     ·rw [if_pos c, if_pos (by simp; omega), if_pos c]
     ·rw [if_neg c, if_neg c, List.getElem?_replicate, if_pos hj]
    have hne : (((zgc n i).length : Int) != (n : Int)) = false := by rw [hrl]; simp
    rw [z13, if_pos (lt_d hj), hy, z0i, hne, k1 (by omega)]
    by_cases c : i = j
    ·subst c
     simp [zal, z0i, tu1a]
    ·have hij : ((i : Int) == (j : Int)) = false := by rw [beq_eq_false_iff_ne]; omega
     simp [c, hij, zm8, zal, z0i, tu1a]
  rw [z0p, if_pos (lt_d hi), hx, z0i, inner, k1 (by omega)]
  rfl
theorem zpf {i : Nat} {a b s c : List (List zAd)} {r : zAd} {row : List zAd} {e e' u v : Int} (hr : row.length <= 1048576)
  (hu : u = 0 -> e = 0 /\ s.length = a.length /\ ∃ si bi, idx s (i : Int) = some si /\ si.length = row.length /\ idx b (i : Int) = some bi /\ ∀ j (h : j < row.length), ∃ t bj, idx si (j : Int) = some t /\ idx bi (j : Int) = some bj /\ z7p K row[j] bj = some t)
  (hv : v = 0 -> e' = 0 /\ c.length = a.length /\ ∃ ci, idx c (i : Int) = some ci /\ ci.length = row.length /\ ∀ j (h : j < row.length), ∃ t, idx ci (j : Int) = some t /\ z7q K row[j] r = some t) (hK : 2000000000 < K) :
  z0s K a b r (s, e) (c, e') u v (i : Int) row K 0 = some (.inr ()) := by
 rw [z85 (K := K) (l := row) (L := z0s K a b r (s, e) (c, e') u v (i : Int) row) (fun _ => none) (fun k => by rw [z0s, if_neg (by simp)]) (fun k j hj => ?_) (by omega), zbd]
 ·rfl
 ·have hx : idx row (j : Int) = some row[j] := z41 (zAh hj)
  rw [z0s, if_pos (lt_d hj), hx, z0i, k1 (by omega)]
  by_cases cu : u = 0
  ·obtain ⟨rfl, u2, si, bi, u3, u4, u5, u6⟩ := hu cu
   obtain ⟨t, bj, t1, t2, t3⟩ := u6 j hj
   by_cases cv : v = 0
   ·obtain ⟨rfl, v2, ci, v3, v4, v5⟩ := hv cv
    obtain ⟨t', w1, w2⟩ := v5 j hj
    simp [cu, cv, u2, u3, u4, u5, t1, t2, t3, v2, v3, v4, w1, w2, zal, z0i, tu1a]
   ·simp [cu, cv, u2, u3, u4, u5, t1, t2, t3, zal, z0i, tu1a]
  ·by_cases cv : v = 0
   ·obtain ⟨rfl, v2, ci, v3, v4, v5⟩ := hv cv
    obtain ⟨t', w1, w2⟩ := v5 j hj
    simp [cu, cv, v2, v3, v4, w1, w2, zal, z0i, tu1a]
   ·simp [cu, cv, z0i, tu1a]
theorem zpg {f g : Nat -> Nat -> Rat} {x : Rat} {a b s c : List (List zAd)} {r : zAd} {e e' u v : Int} (sa : MOk a)
  (hf : u = 0 \/ v = 0 -> MT f a.length (wid a) a /\ ∀ i j, i < a.length -> j < wid a -> Dl (f i j) 13)
  (hu : u = 0 -> e = 0 /\ MT g a.length (wid a) b /\ MT (fun i j => f i j + g i j) a.length (wid a) s /\ ∀ i j, i < a.length -> j < wid a -> Dl (g i j) 13)
  (hv : v = 0 -> e' = 0 /\ RTx r x /\ Dl x 13 /\ MT (fun i j => f i j * x) a.length (wid a) c) (hK : 2000000000 < K) :
  z0t K a b r (s, e) (c, e') u v K 0 = some (.inr ()) := by
 obtain ⟨al, ar⟩ := sa
 rw [z85 (K := K) (l := a) (L := z0t K a b r (s, e) (c, e') u v) (fun _ => none) (fun k => by rw [z0t, if_neg (by simp)]) (fun k i hi => ?_) (by omega), zbd]
 ·rfl
 ·have hx : idx a (i : Int) = some a[i] := z41 (zAh hi)
  have inner : z0s K a b r (s, e) (c, e') u v (i : Int) a[i] K 0 = some (.inr ()) := by
   refine zpf (ar _ (List.getElem_mem hi)).1 (fun h0 => ?_) (fun h0 => ?_) hK
   ·obtain ⟨f1, f2⟩ := hf (.inl h0)
    obtain ⟨u1, u2, u3, u4⟩ := hu h0
    have fr : FT (f i) (wid a) a[i] := f1.2 i hi
    have frl := fr.1
    obtain ⟨bi, b1, b2⟩ := u2.idx hi
    obtain ⟨si, s1, s2⟩ := u3.idx hi
    refine ⟨u1, u3.1, si, bi, s1, by rw [s2.1, frl], b1, fun j hj => ?_⟩
    obtain ⟨bj, b3, b4⟩ := Fam.idx b2 (j := j) (by omega)
    obtain ⟨t, t1, t2⟩ := Fam.idx s2 (j := j) (by omega)
    obtain ⟨t', t3, t4⟩ := znn (K := K) (N := 13) (fr.2 j hj) b4 (f2 i j hi (by omega)) (u4 i j hi (by omega)) (by omega) hK
    have : t = t' := RTx.inj t2 t4
    subst this
    exact ⟨t, bj, t1, b3, t3⟩
   ·obtain ⟨f1, f2⟩ := hf (.inr h0)
    obtain ⟨u1, u2, u3, u4⟩ := hv h0
    have fr : FT (f i) (wid a) a[i] := f1.2 i hi
    have frl := fr.1
    obtain ⟨ci, c1, c2⟩ := u4.idx hi
    refine ⟨u1, u4.1, ci, c1, by rw [c2.1, frl], fun j hj => ?_⟩
    obtain ⟨t, t1, t2⟩ := Fam.idx c2 (j := j) (by omega)
    obtain ⟨t', t3, t4⟩ := zno (K := K) (N := 13) (fr.2 j hj) u2 (f2 i j hi (by omega)) u3 (by omega) hK
    have : t = t' := RTx.inj t2 t4
    subst this
    exact ⟨t, t1, t3⟩
  rw [z0t, if_pos (lt_d hi), hx, z0i, inner, k1 (by omega)]
  rfl
noncomputable def sumE (a b : List (List zAd)) : Int := if matE a ≠ 0 then matE a else if matE b ≠ 0 then matE b else if a.length ≠ b.length \/ wid a ≠ wid b then 3 else 0
noncomputable def scaE (a : List (List zAd)) (r : zAd) : Int := if matE a ≠ 0 then matE a else ratE r
theorem dims {a b : List (List zAd)} (h : a.length ≠ b.length \/ wid a ≠ wid b) : (if ((a.length : Int) != (b.length : Int)) = true then some true else (Option.bind (some ((wid a : Nat) : Int)) fun x => Option.bind (some ((wid b : Nat) : Int)) fun y => some (x != y))) = some true := by
 by_cases c : a.length = b.length
 ·rw [if_neg (fun e => ne_len.1 e c), z0i, z0i, ne_len.2 (h.resolve_left (fun k => k c))]
 ·rw [if_pos (ne_len.2 c)]
theorem zm9 {f : Nat -> Nat -> Rat} {a b : List (List zAd)} (sa : MOk a) (sb : MOk b) (hf : matE a = 0 -> MT f a.length (wid a) a /\ a.length <= 40 /\ wid a <= 40 /\ ∀ i j, i < a.length -> j < wid a -> Dl (f i j) 2000) (hK : 2000000000 < K) :
  ∃ s e g, z35 K a b = some (s, e) /\ (sumE a b ≠ 0 -> e = sumE a b /\ s = []) /\ (sumE a b = 0 -> matE a = 0 /\ (zgw a -> zgw b -> e = 0 /\ MT g a.length (wid a) b /\ MT (fun i j => f i j + g i j) a.length (wid a) s /\ ∀ i j, i < a.length -> j < wid a -> Dl (g i j) 13)) := by
 by_cases ea : matE a = 0
 ·obtain ⟨f1, f2, f3, f4⟩ := hf ea
  by_cases eb : matE b = 0
  ·by_cases hd : a.length ≠ b.length \/ wid a ≠ wid b
   ·have hs : sumE a b = 3 := by unfold sumE; rw [if_neg (by simp [ea]), if_neg (by simp [eb]), if_pos hd]
    refine ⟨[], 3, fun _ _ => 0, ?_, fun _ => ⟨hs.symm, rfl⟩, fun h => by omega⟩
    unfold z35
    rw [z7f sa hK, ea, z0i, if_neg (by simp), z7f sb hK, eb, z0i, if_neg (by simp), zdm, zdm]
    rw [dims hd, z0i, tu1a, if_pos rfl]
   ·have h1 : a.length = b.length := Decidable.byContradiction fun c => hd (.inl c)
    have h2 : wid a = wid b := Decidable.byContradiction fun c => hd (.inr c)
    have hs : sumE a b = 0 := by unfold sumE; rw [if_neg (by simp [ea]), if_neg (by simp [eb]), if_neg hd]
    obtain ⟨g, g1, g2, g3, g4⟩ := znq sb eb
    rw [<- h1, <- h2] at g1 g4
    obtain ⟨s, e, s1, s2⟩ := zon (K := K) sa sb ea eb f1 g1 f2 f3 h2 f4 g4 hK
    refine ⟨s, e, g, s1, fun h => absurd hs h, fun _ => ⟨ea, fun ka kb => ?_⟩⟩
    have d1 := zbc f1 ka
    have d2 := zbc g1 kb
    obtain ⟨e1, e2⟩ := s2 fun i j hi hj => ((d1 i j hi hj).add (d2 i j hi hj)).mono (by omega)
    exact ⟨e1, g1, e2, d2⟩
  ·have hs : sumE a b = matE b := by unfold sumE; rw [if_neg (by simp [ea]), if_pos eb]
   refine ⟨[], matE b, fun _ _ => 0, ?_, fun _ => ⟨hs.symm, rfl⟩, fun h => absurd (hs ▸ h) eb⟩
   unfold z35
   rw [z7f sa hK, ea, z0i, if_neg (by simp), z7f sb hK, z0i, if_pos (by simpa using eb)]
 ·have hs : sumE a b = matE a := by unfold sumE; rw [if_pos ea]
  refine ⟨[], matE a, fun _ _ => 0, ?_, fun _ => ⟨hs.symm, rfl⟩, fun h => absurd (hs ▸ h) ea⟩
  unfold z35
  rw [z7f sa hK, z0i, if_pos (by simpa using ea)]
theorem zja {f : Nat -> Nat -> Rat} {a : List (List zAd)} {r : zAd} (sa : MOk a) (sr : r.size <= 1048576) (hf : matE a = 0 -> MT f a.length (wid a) a /\ a.length <= 40 /\ wid a <= 40 /\ ∀ i j, i < a.length -> j < wid a -> Dl (f i j) 2000) (hK : 2000000000 < K) :
  ∃ s e x, z2h K a r = some (s, e) /\ (scaE a r ≠ 0 -> e = scaE a r /\ s = []) /\ (scaE a r = 0 -> matE a = 0 /\ (zgw a -> r.size <= 12 -> e = 0 /\ RTx r x /\ Dl x 13 /\ MT (fun i j => f i j * x) a.length (wid a) s)) := by
 by_cases ea : matE a = 0
 ·obtain ⟨f1, f2, f3, f4⟩ := hf ea
  have hs : scaE a r = ratE r := by unfold scaE; rw [if_neg (by simp [ea])]
  by_cases er : ratE r = 0
  ·obtain ⟨x, x1, x2⟩ := zg8 sr er
   obtain ⟨s, e, s1, s2⟩ := zm7 (K := K) sa sr ea er f1 x1 f2 f3 f4 x2 hK
   refine ⟨s, e, x, s1, fun h => absurd (hs.trans er) h, fun _ => ⟨ea, fun ka kr => ?_⟩⟩
   have d1 := zbc f1 ka
   have d2 := x1.dl kr
   obtain ⟨e1, e2⟩ := s2 fun i j hi hj => ((d1 i j hi hj).mul d2).mono (by omega)
   exact ⟨e1, x1, d2, e2⟩
  ·refine ⟨[], ratE r, 0, ?_, fun _ => ⟨hs.symm, rfl⟩, fun h => absurd (hs ▸ h) er⟩
   unfold z2h
   rw [z7f sa hK, ea, z0i, if_neg (by simp), zam sr hK, z0i, if_pos (by simpa using er)]
 ·have hs : scaE a r = matE a := by unfold scaE; rw [if_pos ea]
  refine ⟨[], matE a, 0, ?_, fun _ => ⟨hs.symm, rfl⟩, fun h => absurd (hs ▸ h) ea⟩
  unfold z2h
  rw [z7f sa hK, z0i, if_pos (by simpa using ea)]
theorem zcf {a b : List (List zAd)} {r : zAd} {n : Int} (sa : MOk a) (sb : MOk b) (sr : r.size <= 1048576) (hn : z99 .i64 n = true) : ∃ K, z5f K a b r n = some true := by
 refine ⟨2000000001, ?_⟩
 have hK : 2000000000 < 2000000001 := by omega
 obtain ⟨f, hf⟩ : ∃ f, matE a = 0 -> MT f a.length (wid a) a /\ a.length <= 40 /\ wid a <= 40 /\ ∀ i j, i < a.length -> j < wid a -> Dl (f i j) 2000 := by
  by_cases ea : matE a = 0
  ·obtain ⟨f, f1⟩ := znq sa ea
   exact ⟨f, fun _ => f1⟩
  ·exact ⟨fun _ _ => 0, fun h => absurd h ea⟩
 obtain ⟨s, e, g, a1, a2, a3⟩ := zm9 (K := 2000000001) sa sb hf hK
 obtain ⟨c, e', x, c1, c2, c3⟩ := zja (K := 2000000001) sa sr hf hK
 have hv : z7o 2000000001 6 [a, b, [[r]]] = some (zle 6 [a, b, [[r]]]) := znp (by simp) (fun y hy => by
  simp at hy
  rcases hy with rfl | rfl | rfl
  ·exact sa
  ·exact sb
  ·exact ⟨by simp, fun row hr => by simp at hr; subst hr; exact ⟨by simp, fun t ht => by simp at ht; subst ht; exact sr⟩⟩) hK
 -- the sums' error
 have hsum : ∀ {β : Type} (R : Int -> Option β), (Option.bind (if ((if matE a ≠ 0 then matE a else matE b) == 0) = true then (if ((a.length : Int) != (b.length : Int)) = true then some true else some (((wid a : Nat) : Int) != ((wid b : Nat) : Int))) else some false) (tu1 fun z => Option.bind (if z = true then some (3 : Int) else some (if matE a ≠ 0 then matE a else matE b)) (tu1 R))) = R (sumE a b) := by
  intro β R
  unfold sumE
  by_cases ea : matE a = 0
  ·by_cases eb : matE b = 0
   ·by_cases hl : a.length = b.length
    ·by_cases hw : wid a = wid b
     ·simp [ea, eb, hl, hw, tu1a, z0i]
     ·have := ne_len.2 hw
      simp [ea, eb, hl, hw, this, tu1a, z0i]
    ·have := ne_len.2 hl
     simp [ea, eb, hl, this, tu1a, z0i]
   ·simp [ea, eb, tu1a, z0i]
  ·simp [ea, tu1a, z0i]
 have hsca : (if matE a ≠ 0 then matE a else ratE r) = scaE a r := rfl
 have hchk : (if (sumE a b != 0) = true then (if (e != sumE a b) = true then some true else (if decide ((s.length : Int) > 0) = true then some true else (if (scaE a r != 0) = true then (if (e' != scaE a r) = true then some true else some (decide ((c.length : Int) > 0))) else some false))) else (if (scaE a r != 0) = true then (if (e' != scaE a r) = true then some true else some (decide ((c.length : Int) > 0))) else some false)) = some false := by
  by_cases h1 : sumE a b = 0
  ·by_cases h2 : scaE a r = 0
   ·simp [h1, h2]
   ·obtain ⟨rfl, rfl⟩ := c2 h2
    simp [h1, h2]
  ·obtain ⟨rfl, rfl⟩ := a2 h1
   by_cases h2 : scaE a r = 0
   ·simp [h1, h2]
   ·obtain ⟨rfl, rfl⟩ := c2 h2
    simp [h1, h2]
 have hfin : z0t 2000000001 a b r (s, e) (c, e') (sumE a b) (scaE a r) 2000000001 0 = some (.inr ()) \/ zle 6 [a, b, [[r]]] = true := by
  cases hc : zle 6 [a, b, [[r]]] with
  | true => exact .inr rfl
  | false =>
   left
   have hs := zj8 hc
   have ka : zgw a := fun row hr t ht => ((hs a (by simp)).2 row hr).2 t ht
   have kb : zgw b := fun row hr t ht => ((hs b (by simp)).2 row hr).2 t ht
   have kr : r.size <= 12 := ((hs [[r]] (by simp)).2 [r] (by simp)).2 r (by simp)
   refine zpg (f := f) (g := g) (x := x) sa (fun h => ?_) (fun h => (a3 h).2 ka kb) (fun h => (c3 h).2 ka kr) hK
   have ea : matE a = 0 := by
    rcases h with h | h
    ·exact (a3 h).1
    ·exact (c3 h).1
   exact ⟨(hf ea).1, zbc (hf ea).1 ka⟩
 have hid : ∃ d z, z1c 2000000001 n = some (d, z) /\ (n < 0 \/ 40 < n -> d = [] /\ z = 4) /\ (¬ (n < 0 \/ 40 < n) -> z = 0 /\ (d.length : Int) = n) /\ z0p 2000000001 (d, z) n 2000000001 0 = some (.inr ()) := by
  by_cases h : n < 0 \/ 40 < n
  ·refine ⟨[], 4, zl1 h, fun _ => ⟨rfl, rfl⟩, fun k => absurd h k, ?_⟩
   rw [z0p, if_neg (by simp)]
  ·obtain ⟨m, rfl⟩ : ∃ m : Nat, n = m := ⟨n.toNat, by omega⟩
   obtain ⟨d, d1, d2⟩ := zm6 (K := 2000000001) (n := m) (by omega) hK
   exact ⟨d, 0, d1, fun k => absurd k h, fun _ => ⟨rfl, by rw [d2.1]⟩, zj9 d2 (by omega) hK⟩
 obtain ⟨d, z, d1, d2, d3, d4⟩ := hid
 have hb1 : (if decide (n < 0) = true then some true else some (decide (n > 40))) = some (decide (n < 0 \/ 40 < n)) := by
  by_cases h0 : n < 0
  ·rw [if_pos (decide_eq_true h0), decide_eq_true (.inl h0)]
  ·rw [if_neg (by simpa using h0)]
   by_cases h1 : 40 < n
   ·rw [decide_eq_true h1, decide_eq_true (.inr h1)]
   ·rw [decide_eq_false h1, decide_eq_false (by omega)]
 have hi0 : (if decide (n < 0 \/ 40 < n) = true then (Option.bind ((if (z != 4) = true then some true else some (decide ((d.length : Int) > 0)))) (tu1 fun x83 => (if x83 = true then some (.inl false) else some (.inr ())))) else (Option.bind ((if (z != 0) = true then some true else some ((d.length : Int) != n))) (tu1 fun x108 => (if x108 = true then some (.inl false) else some (.inr ()))))) = some (.inr () : Bool ⊕ Unit) := by
  by_cases h : n < 0 \/ 40 < n
  ·obtain ⟨rfl, rfl⟩ := d2 h
   rw [if_pos (decide_eq_true h)]
   simp [z0i, tu1a]
  ·obtain ⟨rfl, h2⟩ := d3 h
   rw [if_neg (by simpa using h), h2]
   simp [z0i, tu1a]
 unfold z5f
 rw [zce, a1, c1, d1]
 simp only [z0i, Bool.not_true, Bool.false_eq_true, if_false, hb1, tu1a]
 rw [hi0]
 rw [zgo, tu0a, d4, zgo, tu0a, zga sa hK, zga sb hK]
 simp only [z0i, zky hK, zl0, zg7 sr hK]
 rw [hsum, hsca, hchk, z0i, tu1a, if_neg (by simp), hv, z0i]
 rcases hfin with h | h
 ·cases hc : zle 6 [a, b, [[r]]] with
  | true => rw [if_pos rfl]
  | false => rw [if_neg (by simp), h]; rfl
 ·rw [h, if_pos rfl]
end Go.Am.Tryz
/- From a statement's arguments, read as data, to typed data. -/
namespace Go.Am
open Go Go.Proofs.YtdogeclnbdldaaaGreatDoor
section
variable {H : Type} {P : Program} {G : GM} {n B : Nat} {t e : TypeId} {α β S : Type} {r : RT α} {s : RT β} {I : α -> Prop} {J : β -> Prop}
theorem zma {H : Type} (d : DataW H) : 1 <= Rows.uptoBulk d := by
 cases d with
 | lit l => cases l <;> simp [Rows.uptoBulk]
 | _ => simp [Rows.uptoBulk]
theorem zjb {H : Type} : ∀ (ds : List (DataW H)), ds.length <= Rows.uptoBulkAll ds
 | [] => Nat.zero_le _
 | d :: r => by
  have := zjb r
  have := zma d
  simp only [Rows.uptoBulkAll, List.length_cons]; omega
def Arg (H : Type) (P : Program) (G : GM) (n : Nat) (t : TypeId) (r : RT α) (B : Nat) (I : α -> Prop) : Prop := ∀ (cs : List Value) (d : DataW H), AData P G n t cs d -> Rows.uptoBulk d <= B -> ∃ x, r.rep G cs x /\ I x
def ArgS (H : Type) (P : Program) (G : GM) (n : Nat) (ts : List TypeId) (r : RT α) (B : Nat) (I : α -> Prop) : Prop :=
 ∀ (css : List (List Value)) (ds : List (DataW H)), AllD (AData P G n) P.cellsOf ts css ds -> Rows.uptoBulkAll ds <= B -> ∃ x, r.rep G css.flatten x /\ I x
theorem zmb {k : IntKind} {x : Int} (h : (Lit.int k x).wf = true) : z99 k x = true := by
 cases k <;> simp [Lit.wf, IntKind.min, IntKind.max, IntKind.signed, IntKind.bits] at h <;> simp [z99] <;> omega
theorem Arg.mono {I J : α -> Prop} (h : Arg H P G n t r B I) (k : ∀ x, I x -> J x) : Arg H P G n t r B J := fun cs d hd hb => by
 obtain ⟨x, h1, h2⟩ := h cs d hd hb
 exact ⟨x, h1, k x h2⟩
theorem Arg.int {k : IntKind} (hu : P.underlying t = some (.int k)) : Arg H P G (n + 1) t (rI k) B (fun x => z99 k x = true) := fun cs d h _ => by
 unfold AData at h
 simp only [hu] at h
 obtain ⟨x, h1, h2, h3⟩ := h
 exact ⟨x, h1, zmb h3⟩
theorem Arg.bool (hu : P.underlying t = some .bool) : Arg H P G (n + 1) t rB B (fun _ => True) := fun cs d h _ => by
 unfold AData at h
 simp only [hu] at h
 obtain ⟨x, h1, _⟩ := h
 exact ⟨x, h1, trivial⟩
theorem Arg.str (hu : P.underlying t = some .string) : Arg H P G (n + 1) t rS B (fun x => x.size <= B) := fun cs d h hb => by
 unfold AData at h
 simp only [hu] at h
 obtain ⟨x, h1, h2, _⟩ := h
 refine ⟨x, h1, ?_⟩
 rw [h2] at hb
 simp only [Rows.uptoBulk, Array.length_toList] at hb
 have : x.data.size = x.size := rfl
 omega
theorem zdo (h : Arg H P G n e r B I) : ∀ (k : Nat) (css : List (List Value)) (ds : List (DataW H)), AllD (AData P G n) P.cellsOf (List.replicate k e) css ds -> Rows.uptoBulkAll ds <= B -> ∃ xs : List α, All2 (r.rep G) css xs /\ (∀ x ∈ xs, I x) /\ xs.length = k
 | 0, [], [], _, _ => ⟨[], .nil, by simp, rfl⟩
 | 0, _ :: _, _, h, _ => by simp [List.replicate, AllD] at h
 | 0, [], _ :: _, h, _ => by simp [List.replicate, AllD] at h
 | k + 1, [], _, h, _ => by simp [List.replicate, AllD] at h
 | k + 1, _ :: _, [], h, _ => by simp [List.replicate, AllD] at h
 | k + 1, c :: css, d :: ds, hA, hb => by
  simp only [List.replicate, AllD] at hA
  simp only [Rows.uptoBulkAll] at hb
  obtain ⟨x, h1, h2⟩ := h _ _ hA.1.1 (by omega)
  obtain ⟨xs, h3, h4, h5⟩ := zdo h k css ds hA.2 (by omega)
  refine ⟨x :: xs, .cons h1 h3, fun y hy => ?_, by simp [h5]⟩
  rcases List.mem_cons.1 hy with rfl | hy
  ·exact h2
  ·exact h4 y hy
theorem zgd {R : TypeId -> List Value -> DataW H -> Prop} {sz : TypeId -> Nat} : ∀ (k : Nat) {ts : List TypeId} {cs : List (List Value)} {ds : List (DataW H)}, AllD R sz ts cs ds -> AllD R sz (ts.take k) (cs.take k) (ds.take k)
 | 0, _, _, _, _ => by simp [AllD]
 | k + 1, [], [], [], _ => by simp [AllD]
 | k + 1, _ :: _, _ :: _, _ :: _, h => by simp only [List.take_succ_cons]; exact ⟨h.1, zgd k h.2⟩
theorem zjc {R : TypeId -> List Value -> DataW H -> Prop} {sz : TypeId -> Nat} {e : TypeId} : ∀ (k : Nat) (css : List (List Value)) (ds : List (DataW H)), AllD R sz (List.replicate k e) css ds -> ∀ c ∈ css, c.length = sz e
 | 0, [], [], _, c, hc => by simp at hc
 | 0, _ :: _, _, h, _, _ => by simp [List.replicate, AllD] at h
 | 0, [], _ :: _, h, _, _ => by simp [List.replicate, AllD] at h
 | k + 1, [], _, h, _, _ => by simp [List.replicate, AllD] at h
 | k + 1, _ :: _, [], h, _, _ => by simp [List.replicate, AllD] at h
 | k + 1, c :: css, d :: ds, hA, u, hu => by
  simp only [List.replicate, AllD] at hA
  rcases List.mem_cons.1 hu with rfl | hu
  ·exact hA.1.2
  ·exact zjc k css ds hA.2 u hu
theorem Arg.sl (hu : P.underlying t = some (.slice e)) (h : Arg H P G n e r B I) : Arg H P G (n + 1) t (rSl r) B (fun xs => xs.length <= B /\ ∀ x ∈ xs, I x) := fun cs d hA hb => by
 unfold AData at hA
 simp only [hu] at hA
 rcases hA with ⟨h1, h2⟩ | ⟨b, len, cap, elems, spare, css, h1, h2, h3, h4, _, h6, h7⟩
 ·subst h1
  exact ⟨[], zk3, Nat.zero_le _, by simp⟩
 ·subst h2
  simp only [Rows.uptoBulk] at hb
  have hlen := zjb elems
  have h8 := zgd len h7
  rw [List.take_replicate, show min len cap = len by omega, <- h3, List.take_left] at h8
  obtain ⟨xs, k1, k2, k3⟩ := zdo h elems.length (css.take elems.length) elems h8 (by omega)
  refine ⟨xs, ?_, by omega, k2⟩
  have hcl := zjc _ _ _ h7
  have hel := k1.length
  by_cases hz : elems.length = 0
  ·have hx : xs = [] := List.length_eq_zero_iff.1 (by omega)
   subst hx
   refine ⟨_, [], h1, ⟨by simp, .inr (.inr ⟨b, 0, some 0, cap, by rw [<- h3, hz], rfl, .inr rfl⟩)⟩, .nil⟩
  ·rcases h6 with h6 | ⟨x, g1, _, g3⟩
   ·omega
   ·refine ⟨_, css.take elems.length, h1, ⟨k1.each, .inr (.inl ⟨b, 0, some 0, cap, x, by rw [hel, k3, <- h3], g1, ?_, ?_, by rw [hel, k3]; omega, .inr rfl⟩)⟩, k1⟩
    ·rw [g3]
     have h9 : css.flatten = (css.take elems.length).flatten ++ (css.drop elems.length).flatten := by rw [<- List.flatten_append, List.take_append_drop]
     rw [h9, List.length_append, k1.flatLen, hel]; omega
    ·rw [g3, List.drop_zero]
     have h9 : css.flatten = (css.take elems.length).flatten ++ (css.drop elems.length).flatten := by rw [<- List.flatten_append, List.take_append_drop]
     have h10 : (css.take elems.length).length * r.sz = (css.take elems.length).flatten.length := by rw [k1.flatLen, hel]
     rw [h9, h10, List.take_left]
theorem Arg.arr {k : Nat} (hu : P.underlying t = some (.array k e)) (h : Arg H P G n e r B I) : Arg H P G (n + 1) t (rArr k r) B (fun xs => xs.length = k /\ ∀ x ∈ xs, I x) := fun cs d hA hb => by
 unfold AData at hA
 simp only [hu] at hA
 obtain ⟨css, parts, h1, h2, h3⟩ := hA
 subst h2
 simp only [Rows.uptoBulk] at hb
 obtain ⟨xs, k1, k2, k3⟩ := zdo h k css parts h3 (by omega)
 exact ⟨xs, ⟨k3, css, h1, k1⟩, k3, k2⟩
theorem ArgS.one (h : Arg H P G n t r B I) : ArgS H P G n [t] r B I := fun css ds hA hb => by
 match css, ds, hA with
 | [c], [d], hA =>
  simp only [Rows.uptoBulkAll] at hb
  obtain ⟨x, h1, h2⟩ := h c d hA.1.1 (by omega)
  exact ⟨x, by simpa using h1, h2⟩
 | [], _, hA => simp [AllD] at hA
 | _ :: _ :: _, [], hA => simp [AllD] at hA
 | _ :: _ :: _, [_], hA => simp [AllD] at hA
 | _ :: _ :: _, _ :: _ :: _, hA => simp [AllD] at hA
 | [_], [], hA => simp [AllD] at hA
 | [_], _ :: _ :: _, hA => simp [AllD] at hA
theorem ArgS.cons {ts : List TypeId} (h : Arg H P G n t r B I) (k : ArgS H P G n ts s B J) : ArgS H P G n (t :: ts) (rP r s) B (fun x => I x.1 /\ J x.2) := fun css ds hA hb => by
 match css, ds, hA with
 | c :: css, d :: ds, hA =>
  simp only [Rows.uptoBulkAll] at hb
  obtain ⟨x, h1, h2⟩ := h c d hA.1.1 (by omega)
  obtain ⟨y, h3, h4⟩ := k css ds hA.2 (by omega)
  exact ⟨(x, y), ⟨c, css.flatten, by simp, h1, h3⟩, h2, h4⟩
 | [], _, hA => simp [AllD] at hA
 | _ :: _, [], hA => simp [AllD] at hA
theorem Arg.struct {fs : Array Field} {ts : List TypeId} (hu : P.underlying t = some (.struct fs)) (hts : fs.toList.map (·.type) = ts) (h : ArgS H P G n ts r B I) (f : S -> α) (g : α -> S) (hg : ∀ p, f (g p) = p) : Arg H P G (n + 1) t (rIso r f) B (fun x => I (f x)) := fun cs d hA hb => by
 unfold AData at hA
 simp only [hu] at hA
 obtain ⟨css, parts, h1, h2, h3⟩ := hA
 subst h2
 simp only [Rows.uptoBulk] at hb
 rw [hts] at h3
 obtain ⟨p, k1, k2⟩ := h css parts h3 (by omega)
 exact ⟨g p, by rw [h1]; show r.rep G css.flatten (f (g p)); rw [hg]; exact k1, by show I (f (g p)); rw [hg]; exact k2⟩
theorem AArgs.cons_inv {ts : List TypeId} {avs : List Value} {ds : List (DataW H)} (h : AArgs P G n (t :: ts) avs ds) : ∃ v vs d dr, avs = v :: vs /\ ds = d :: dr /\ AVal P G n t v d /\ AArgs P G n ts vs dr := by
 match avs, ds, h with
 | v :: vs, d :: dr, h => exact ⟨v, vs, d, dr, rfl, rfl, h.1, h.2⟩
 | [], _, h => simp [AArgs] at h
 | _ :: _, [], h => simp [AArgs] at h
theorem AArgs.nil_inv {avs : List Value} {ds : List (DataW H)} (h : AArgs P G n [] avs ds) : avs = [] /\ ds = [] := by
 match avs, ds, h with
 | [], [], h => exact ⟨rfl, rfl⟩
 | [], _ :: _, h => simp [AArgs] at h
 | _ :: _, _, h => simp [AArgs] at h
theorem AVal.one {v : Value} {d : DataW H} (hu : z4m P t = some false) (h : AVal P G n t v d) : AData P G n t [v] d := by
 unfold AVal at h
 unfold z4m at hu
 split at h
 ·rename_i q; rw [q] at hu; cases hu
 ·rename_i q; rw [q] at hu; cases hu
 ·exact h
theorem AVal.agg {v : Value} {d : DataW H} (hu : z4m P t = some true) (h : AVal P G n t v d) : ∃ cs, v = .agg (List.toArray cs) /\ AData P G n t cs d := by
 unfold AVal at h
 unfold z4m at hu
 split at h
 ·exact h
 ·exact h
 ·rename_i q1 q2
  split at hu
  ·rename_i q; exact absurd q (q1 _)
  ·rename_i q; exact absurd q (q2 _ _)
  ·cases hu
  ·cases hu
theorem Ow.empty (A : AH) : Ow A.get A [] := ⟨fun _ _ h => h, fun i e h => by simp at h, fun i j e e' _ h => by simp at h, fun i e h => by simp at h⟩
theorem CR.done {f : FuncId} {args : List Value} {A : AH} {b : Value} (h : CR P f args A.get A [] fun v _ _ => v = b) : ∃ A', ACalls P f args A b A' := by
 obtain ⟨v, H', G', h1, _, _, rfl⟩ := h
 exact ⟨H', h1⟩
end
end Go.Am
/- MatrixSums over the statement's reading of its arguments. -/
namespace Go.Am.Tryz
open Go Go.Am Go.Proofs Go.Proofs.YtdogeclnbdldaaaGreatDoor
theorem matrixSums {H : Type} (A : AH) (avs : List Value) (ds : List (DataW H)) (hb : Rows.uptoBulkAll ds <= 1048576) (ha : AArgs Tryz.prog A.get 3 [44, 44, 22, 3] avs ds) : ∃ A', ACalls Tryz.prog 6 avs A (.bool true) A' := by
 obtain ⟨v0, vs0, d0, ds0, rfl, rfl, a0, ha⟩ := AArgs.cons_inv ha
 obtain ⟨v1, vs1, d1, ds1, rfl, rfl, a1, ha⟩ := AArgs.cons_inv ha
 obtain ⟨v2, vs2, d2, ds2, rfl, rfl, a2, ha⟩ := AArgs.cons_inv ha
 obtain ⟨v3, vs3, d3, ds3, rfl, rfl, a3, ha⟩ := AArgs.cons_inv ha
 obtain ⟨rfl, rfl⟩ := AArgs.nil_inv ha
 simp only [Rows.uptoBulkAll] at hb
 obtain ⟨x0, r0, i0⟩ := ((Arg.sl (t := 44) (e := 45) (by kernel_rfl) (Arg.sl (t := 45) (e := 22) (by kernel_rfl) (Arg.str (t := 22) (by kernel_rfl)))) : Arg H Tryz.prog A.get 3 44 _ 1048576 _) [v0] d0 (AVal.one (by kernel_rfl) a0) (by omega)
 obtain ⟨x1, r1, i1⟩ := ((Arg.sl (t := 44) (e := 45) (by kernel_rfl) (Arg.sl (t := 45) (e := 22) (by kernel_rfl) (Arg.str (t := 22) (by kernel_rfl)))) : Arg H Tryz.prog A.get 3 44 _ 1048576 _) [v1] d1 (AVal.one (by kernel_rfl) a1) (by omega)
 obtain ⟨x2, r2, i2⟩ := ((Arg.str (t := 22) (by kernel_rfl)) : Arg H Tryz.prog A.get 3 22 _ 1048576 _) [v2] d2 (AVal.one (by kernel_rfl) a2) (by omega)
 obtain rfl := (List.cons.inj r2).1
 obtain ⟨x3, r3, i3⟩ := ((Arg.int (t := 3) (k := .i64) (by kernel_rfl)) : Arg H Tryz.prog A.get 3 3 _ 1048576 _) [v3] d3 (AVal.one (by kernel_rfl) a3) (by omega)
 obtain rfl := (List.cons.inj r3).1
 obtain ⟨K, hK⟩ := zcf i0 i1 i2 i3
 exact CR.done (za2 K v0 x0 r0 v1 x1 r1 x2 x3 (Ow.empty A) true hK)
end Go.Am.Tryz
