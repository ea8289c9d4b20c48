/- Plain lemmas: rational numbers, their signs, parts and sizes. -/
import Derived.Test.YtdogeclnbdldaaaDoorG8Z5
import Derived.Test.YtdogeclnbdldaaaDoorG1Z5
import Derived.Test.YtdogeclnbdldaaaDoorRows
set_option maxRecDepth 100000
set_option maxHeartbeats 8000000
set_option linter.unusedVariables false
set_option linter.unusedSimpArgs false
namespace Go.Am
def sgn (neg : Bool) (n : Nat) : Int := if neg then -(n : Int) else n
theorem zfj (neg : Bool) (n : Nat) : (sgn neg n).natAbs = n := by unfold sgn; split <;> omega
theorem zb5 (x : Rat) : sgn (decide (x.num < 0)) x.num.natAbs = x.num := by unfold sgn; by_cases h : x.num < 0 <;> simp [h] <;> omega
theorem zij (neg : Bool) (n d : Nat) (hd : d ≠ 0) : (mkRat (sgn neg n) d).num.natAbs = n / Nat.gcd n d := by
 rw [Rat.num_mkRat, if_neg hd, zfj, Nat.gcd_comm]
 unfold sgn
 cases neg with
 | false => simp; rfl
 | true =>
  simp only [if_true]
  have h : (Nat.gcd n d : Int) ∣ (n : Int) := Int.natCast_dvd_natCast.2 (Nat.gcd_dvd_left n d)
  rw [Int.neg_ediv_of_dvd h, Int.natAbs_neg]
  rfl
theorem zik (neg : Bool) (n d : Nat) (hd : d ≠ 0) : (mkRat (sgn neg n) d).den = d / Nat.gcd n d := by
 rw [Rat.den_mkRat, if_neg hd, zfj, Nat.gcd_comm]
theorem zhr (x y : Rat) : x * y = mkRat (sgn (decide (x.num < 0) != decide (y.num < 0)) (x.num.natAbs * y.num.natAbs)) (x.den * y.den) := by
 rw [Rat.mul_def']
 congr 1
 conv => lhs; rw [<- zb5 x, <- zb5 y]
 generalize x.num.natAbs = a
 generalize y.num.natAbs = b
 unfold sgn
 cases decide (x.num < 0) <;> cases decide (y.num < 0) <;> simp [Int.mul_neg, Int.neg_mul]
def Dl (x : Rat) (N : Nat) : Prop := x.num.natAbs < 10 ^ N /\ x.den < 10 ^ N
theorem Dl.mono {x : Rat} {N M : Nat} (h : Dl x N) (hN : N <= M) : Dl x M := ⟨Nat.lt_of_lt_of_le h.1 (Nat.pow_le_pow_right (by omega) hN), Nat.lt_of_lt_of_le h.2 (Nat.pow_le_pow_right (by omega) hN)⟩
theorem Dl.mk (neg : Bool) {n d N : Nat} (hd : d ≠ 0) (hn : n < 10 ^ N) (hd2 : d < 10 ^ N) : Dl (mkRat (sgn neg n) d) N := by
 refine ⟨?_, ?_⟩
 ·rw [zij neg n d hd]; exact Nat.lt_of_le_of_lt (Nat.div_le_self _ _) hn
 ·rw [zik neg n d hd]; exact Nat.lt_of_le_of_lt (Nat.div_le_self _ _) hd2
theorem z4w {a b N M : Nat} (h : a < 10 ^ N) (k : b < 10 ^ M) : a * b < 10 ^ (N + M) := by
 rw [Nat.pow_add]
 exact Nat.mul_lt_mul_of_lt_of_le h (Nat.le_of_lt k) (Nat.pow_pos (by omega))
theorem Dl.mul {x y : Rat} {N M : Nat} (h : Dl x N) (k : Dl y M) : Dl (x * y) (N + M) := by
 rw [zhr]
 exact .mk _ (Nat.mul_ne_zero x.den_nz y.den_nz) (z4w h.1 k.1) (z4w h.2 k.2)
theorem Dl.zero : Dl 0 1 := ⟨by decide, by decide⟩
theorem Dl.one : Dl 1 1 := ⟨by decide, by decide⟩
theorem zhs (a : Int) : a = sgn (decide (a < 0)) a.natAbs := by unfold sgn; by_cases h : a < 0 <;> simp [h] <;> omega
theorem Dl.add {x y : Rat} {N M : Nat} (h : Dl x N) (k : Dl y M) : Dl (x + y) (N + M + 1) := by
 rw [Rat.add_def']
 rw [zhs (x.num * y.den + y.num * x.den)]
 have h1 := z4w h.1 k.2
 have h2 := z4w k.1 h.2
 have h3 : (x.num * (y.den : Int) + y.num * (x.den : Int)).natAbs <= x.num.natAbs * y.den + y.num.natAbs * x.den := by
  refine Nat.le_trans (Int.natAbs_add_le _ _) ?_
  rw [Int.natAbs_mul, Int.natAbs_mul]; simp
 rw [Nat.add_comm M N] at h2
 refine .mk _ (Nat.mul_ne_zero x.den_nz y.den_nz) ?_ ?_
 ·rw [Nat.pow_succ]; omega
 ·have := z4w h.2 k.2
  rw [Nat.pow_succ]; omega
theorem Dl.neg {x : Rat} {N : Nat} (h : Dl x N) : Dl (-x) N := ⟨by rw [Rat.neg_num, Int.natAbs_neg]; exact h.1, by rw [Rat.neg_den]; exact h.2⟩
theorem Dl.sub {x y : Rat} {N M : Nat} (h : Dl x N) (k : Dl y M) : Dl (x - y) (N + M + 1) := by
 rw [Rat.sub_eq_add_neg]; exact h.add k.neg
theorem Dl.pos {x : Rat} {N : Nat} (h : Dl x N) : 1 <= N := by
 refine Nat.not_lt.1 fun hlt => ?_
 have : N = 0 := by omega
 subst this
 have := h.2
 have := x.den_pos
 simp at *; omega
end Go.Am
/- Plain law: the parts of a rational number's text; its error. -/
namespace Go.Am.Tryd
open Go Go.Am Go.Proofs
variable {K : Nat}
structure Sp (s : zAd) (neg : Bool) (n : zAd) (many : Bool) (d : zAd) : Prop where
 eq : z01 s = (if neg then [45] else []) ++ (z01 n ++ (if many then 47 :: z01 d else []))
 no : 47 ∉ z01 n
 hd : neg = false -> (z01 s).head? ≠ some 45
theorem z9r {x : Int} : ∀ {l1 l2 r1 r2 : List Int}, l1 ++ r1 = l2 ++ r2 -> x ∉ l1 -> x ∉ l2 -> (r1 = [] \/ r1.head? = some x) -> (r2 = [] \/ r2.head? = some x) -> l1 = l2 /\ r1 = r2
 | [], [], _, _, h, _, _, _, _ => ⟨rfl, by simpa using h⟩
 | [], b :: l2, r1, r2, h, _, h2, h3, _ => by
  simp only [List.nil_append, List.cons_append] at h
  subst h
  simp at h3
  subst h3
  simp at h2
 | a :: l1, [], r1, r2, h, h1, _, _, h4 => by
  simp only [List.nil_append, List.cons_append] at h
  subst h
  simp at h4
  subst h4
  simp at h1
 | a :: l1, b :: l2, r1, r2, h, h1, h2, h3, h4 => by
  simp only [List.cons_append, List.cons.injEq] at h
  obtain ⟨rfl, h⟩ := h
  obtain ⟨e1, e2⟩ := z9r h (fun hx => h1 (by simp [hx])) (fun hx => h2 (by simp [hx])) h3 h4
  exact ⟨by rw [e1], e2⟩
theorem Sp.uniq {s n d n' d' : zAd} {neg neg' many many' : Bool} (h : Sp s neg n many d) (k : Sp s neg' n' many' d') : neg = neg' /\ n = n' /\ many = many' /\ (many = true -> d = d') := by
 have e1 : neg = neg' := by
  cases neg <;> cases neg'
  ·rfl
  ·have := h.hd rfl; rw [k.eq] at this; simp at this
  ·have := k.hd rfl; rw [h.eq] at this; simp at this
  ·rfl
 subst e1
 have e2 := List.append_cancel_left (h.eq.symm.trans k.eq)
 obtain ⟨e3, e4⟩ := z9r e2 h.no k.no (by cases many <;> simp) (by cases many' <;> simp)
 refine ⟨rfl, z2l e3, ?_⟩
 cases many <;> cases many'
 ·exact ⟨rfl, fun h => by cases h⟩
 ·simp at e4
 ·simp at e4
 ·simp at e4; exact ⟨rfl, fun _ => z2l e4⟩
theorem Sp.size {s n d : zAd} {neg many : Bool} (h : Sp s neg n many d) : n.size <= s.size /\ (many = true -> d.size <= s.size) := by
 have := congrArg List.length h.eq
 simp only [List.length_append, z00] at this
 refine ⟨by omega, fun hm => ?_⟩
 subst hm
 simp only [if_true, List.length_cons, z00] at this
 omega
theorem z3a (s : zAd) {i j : Nat} (h : i <= j) (hj : j <= s.size) : z01 (s.extract i j) = ((z01 s).drop i).take (j - i) /\ (s.extract i j).size = j - i := by
 have h1 := z1n s i j
 refine ⟨h1, ?_⟩
 rw [<- z00, h1, List.length_take, List.length_drop, z00]; omega
theorem zaa (K : Nat) (s : zAd) : ∃ s1 neg, z15 K s ⟨#[45]⟩ = some (s1, neg) /\ z01 s = (if neg then [45] else []) ++ z01 s1 /\ (neg = false -> (z01 s).head? ≠ some 45) /\ s1.size <= s.size := by
 unfold z15 z0g z0f
 have hn := z00 s
 have e1 : ((⟨#[45]⟩ : zAd).size : Int) = 1 := rfl
 rw [e1]
 by_cases h0 : s.size = 0
 ·have hb : z01 s = [] := List.length_eq_zero_iff.1 (by omega)
  refine ⟨s, false, ?_, by simp, fun _ => by rw [hb]; simp, Nat.le_refl _⟩
  rw [h0]
  rfl
 ·obtain ⟨c, l, hc⟩ : ∃ c l, z01 s = c :: l := by
   cases hb : z01 s with
   | nil => rw [hb] at hn; simp at hn; omega
   | cons c l => exact ⟨c, l, rfl⟩
  have hx : ssl s 0 1 = some (s.extract 0 1) := by rw [sslI (by omega) (by omega) (by omega)]; rfl
  have hxb : z01 (s.extract 0 1) = [c] := by rw [(z3a s (by omega) (by omega)).1, hc]; rfl
  rw [decide_eq_true (by omega), if_pos rfl, hx, z0z, z0z, tu1a, z0z]
  by_cases h45 : c = 45
  ·have he : sEq (s.extract 0 1) ⟨#[45]⟩ = true := sEq_iff.2 (z2l (by rw [hxb, h45]; rfl))
   obtain ⟨t, t1, t2, t3⟩ := za7 hc
   refine ⟨t, true, ?_, by rw [hc, t2, h45]; rfl, fun h => by (cases h), by rw [hc] at hn; simp at hn; omega⟩
   rw [he]
   simp only [Bool.not_true, Bool.false_eq_true, if_false]
   rw [t1, z0z, z0z]
  ·have he : sEq (s.extract 0 1) ⟨#[45]⟩ = false := zip (fun e => by
    have := congrArg z01 e
    rw [hxb] at this
    have e2 : z01 (⟨#[45]⟩ : zAd) = [45] := rfl
    rw [e2] at this
    simp at this; exact h45 this)
   refine ⟨s, false, ?_, by simp, fun _ => by rw [hc]; simpa using h45, Nat.le_refl _⟩
   rw [he]
   rfl
theorem z5y (c : UInt8) : ∀ (l : List UInt8), (Lib.indexByte l c = -1 /\ c ∉ l) \/ ∃ i : Nat, Lib.indexByte l c = i /\ i < l.length /\ l[i]? = some c /\ c ∉ l.take i
 | [] => .inl ⟨rfl, by simp⟩
 | b :: l => by
  rw [Lib.indexByte]
  by_cases hb : b = c
  ·subst hb; exact .inr ⟨0, by simp, by simp, by simp, by simp⟩
  ·have hb' : (b == c) = false := by simpa using hb
   rw [hb']
   rcases z5y c l with ⟨h1, h2⟩ | ⟨i, h1, h2, h3, h4⟩
   ·refine .inl ⟨by rw [h1]; rfl, ?_⟩
    simp only [List.mem_cons, not_or]
    exact ⟨fun e => hb e.symm, h2⟩
   ·refine .inr ⟨i + 1, ?_, by simp; omega, by simpa using h3, ?_⟩
    ·rw [h1]
     have : ((i : Int) == -1) = false := by rw [beq_eq_false_iff_ne]; omega
     rw [this]
     simp
    ·rw [List.take_succ_cons]
     simp only [List.mem_cons, not_or]
     exact ⟨fun e => hb e.symm, h4⟩
theorem zb6 {c : UInt8} {l : List UInt8} (h : ((c.toNat : Nat) : Int) ∈ l.map (fun b => (b.toNat : Int))) : c ∈ l := by
 rw [List.mem_map] at h
 obtain ⟨b, hb, he⟩ := h
 have : b = c := UInt8.toNat_inj.1 (by omega)
 subst this; exact hb
theorem zil {s : zAd} (hs : s.size <= 1048576) : ∃ n d many, z2j K s ⟨#[47]⟩ = some (n, d, many) /\ z01 s = z01 n ++ (if many then 47 :: z01 d else []) /\ 47 ∉ z01 n /\ (many = false -> d = ⟨#[]⟩) := by
 have hn := z00 s
 have hx : z0e K s ⟨#[47]⟩ = some (Lib.indexByte s.data.toList 47) := by
  unfold z0e z0w
  have e1 : (((⟨#[47]⟩ : zAd).size : Int) == 0) = false := rfl
  have e2 : (((⟨#[47]⟩ : zAd).size : Int) == 1) = true := rfl
  have e3 : bidx (⟨#[47]⟩ : zAd) 0 = some 47 := rfl
  rw [e1, e2, e3]
  simp only [Bool.false_eq_true, if_false, z0z, tu1a, if_true]
  by_cases he : sEq ⟨#[47]⟩ s = true
  ·rw [he, if_pos rfl]
   rw [sEq_iff] at he
   subst he
   rfl
  ·rw [if_neg he]
   rfl
 unfold z2j z10
 rw [hx, z0z]
 rcases z5y 47 s.data.toList with ⟨h1, h2⟩ | ⟨i, h1, h2, h3, h4⟩
 ·refine ⟨s, ⟨#[]⟩, false, by rw [h1]; rfl, by simp, fun h => h2 (zb6 h), fun _ => rfl⟩
 ·rw [Array.length_toList] at h2
  have h2' : i < s.size := h2
  have ea := z3a s (i := 0) (j := i) (by omega) (by omega)
  have eb := z3a s (i := i + 1) (j := s.size) (by omega) (by omega)
  refine ⟨s.extract 0 i, s.extract (i + 1) s.size, true, ?_, ?_, ?_, fun h => by cases h⟩
  ·have e1 : ((⟨#[47]⟩ : zAd).size : Int) = 1 := rfl
   have t0 : Int.toNat 0 = 0 := rfl
   have t1 : ((i : Int) + 1).toNat = i + 1 := by omega
   rw [h1, if_pos (decide_eq_true (by omega)), sslI (by omega) (by omega) (by omega), z0z, e1, k64 (by omega) (by omega), sslI (by omega) (by omega) (by omega), z0z, z0z, t1]
   rfl
  ·rw [ea.1, eb.1]
   have h5 : (z01 s)[i]? = some 47 := by unfold z01; rw [List.getElem?_map, h3]; rfl
   have h6 : i < (z01 s).length := by omega
   rw [zAh h6] at h5
   simp only [if_true, List.drop_zero, Nat.sub_zero]
   rw [List.take_of_length_le (l := (z01 s).drop (i + 1)) (by rw [List.length_drop]; omega)]
   conv => lhs; rw [<- List.take_append_drop i (z01 s), List.drop_eq_getElem_cons h6]
   rw [zAa h5]
  ·rw [ea.1, List.drop_zero, Nat.sub_zero]
   intro h
   unfold z01 at h
   rw [<- List.map_take] at h
   exact h4 (zb6 h)
theorem zab (K : Nat) {s : zAd} (hs : s.size <= 1048576) : ∃ s1 neg n d many, z15 K s ⟨#[45]⟩ = some (s1, neg) /\ z2j K s1 ⟨#[47]⟩ = some (n, d, many) /\ Sp s neg n many d /\ z01 s = (if neg then [45] else []) ++ z01 s1 /\ (many = false -> d = ⟨#[]⟩) := by
 obtain ⟨s1, neg, h1, h2, h3, h4⟩ := zaa K s
 obtain ⟨n, d, many, c1, c2, c3, c4⟩ := zil (K := K) (s := s1) (by omega)
 exact ⟨s1, neg, n, d, many, h1, c1, ⟨by rw [h2, c2], c3, h3⟩, h2, c4⟩
def ratS (neg : Bool) (n : zAd) (many : Bool) (d : zAd) : Int :=
 if natE n = 5 \/ (many = true /\ natE d = 5) \/ (neg = true /\ n = ⟨#[48]⟩) then 5 else if natE n ≠ 0 \/ (many = true /\ natE d ≠ 0) then 2 else
 if many = true /\ (d = ⟨#[48]⟩ \/ d = ⟨#[49]⟩ \/ Nat.gcd (numT n).toNat (numT d).toNat ≠ 1) then 3 else 0
theorem z8a (a b : zAd) : sEq a b = decide (a = b) := by
 by_cases h : a = b
 ·rw [decide_eq_true h]; exact sEq_iff.2 h
 ·rw [decide_eq_false h]; exact zip h
theorem zht (G : Nat) : ((if (G : Int) < 1 then (-1 : Int) else if (G : Int) = 1 then 0 else 1) != 0) = decide (G ≠ 1) := by
 by_cases hG : G = 1
 ·subst hG; rfl
 ·rw [decide_eq_true hG]
  by_cases h0 : (G : Int) < 1
  ·rw [if_pos h0]; rfl
  ·rw [if_neg h0, if_neg (by omega)]; rfl
theorem zhu : natE ⟨#[48]⟩ = 0 := (z89 _).2 ⟨zb2, by decide⟩
theorem zew {s n d : zAd} {neg many : Bool} (hs : s.size <= 1048576) (hK : 2000000000 < K) (h : Sp s neg n many d) : z3r K s = some (ratS neg n many d) := by
 obtain ⟨s1, neg', n', d', many', c1, c2, c3, c4, c5⟩ := zab K hs
 obtain ⟨rfl, rfl, rfl, hd⟩ := h.uniq c3
 have hsz := h.size
 unfold z3r ratS
 rw [c1, z0z, c2, z0z]
 dsimp only
 rw [z9q (by omega) (by omega), z0z]
 cases many with
 | false =>
  simp only [Bool.false_eq_true, if_false, z0z, tu1a, false_and, false_or, or_false]
  by_cases e5 : natE n = 5
  ·simp [e5, z0z, tu1a]
  ·have e5' : (natE n == 5) = false := by rw [beq_eq_false_iff_ne]; exact e5
   have e05 : ((0 : Int) == 5) = false := rfl
   rw [e5', e05]
   cases neg <;> by_cases e0 : natE n = 0 <;> by_cases en : n = ⟨#[48]⟩ <;> simp [e0, e5, en, z8a, z0z, tu1a, zhu]
 | true =>
  have hdd := hd rfl
  subst hdd
  simp only [if_true, true_and]
  rw [z9q (by have := hsz.2 rfl; omega) (by have := hsz.2 rfl; omega)]
  simp only [z0z, tu1a]
  by_cases e5 : natE n = 5
  ·simp [e5, z0z, tu1a]
  ·have e5' : (natE n == 5) = false := by rw [beq_eq_false_iff_ne]; exact e5
   by_cases f5 : natE d = 5
   ·simp [e5, f5, z0z, tu1a]
   ·have f5' : (natE d == 5) = false := by rw [beq_eq_false_iff_ne]; exact f5
    have hneg : (if neg = true then some (sEq n (⟨#[48]⟩ : zAd)) else some false) = some (decide (neg = true /\ n = ⟨#[48]⟩)) := by
     cases neg <;> simp [z8a]
    rw [e5', f5', hneg]
    simp only [Bool.false_eq_true, if_false, z0z, tu1a, e5, f5, false_or]
    by_cases hz : neg = true /\ n = ⟨#[48]⟩
    ·rw [decide_eq_true hz, if_pos rfl, if_pos hz]
    ·rw [decide_eq_false hz, if_neg (by simp), if_neg hz]
     by_cases e0 : natE n = 0
     ·by_cases f0 : natE d = 0
      ·obtain ⟨cn, ln⟩ := (z89 n).1 e0
       obtain ⟨cd, ld⟩ := (z89 d).1 f0
       obtain ⟨x, x1, x2, x3⟩ := z7x (K := K) (s := n) (by omega) hK cn.2.1
       obtain ⟨y, y1, y2, y3⟩ := z7x (K := K) (s := d) (by omega) hK cd.2.1
       have nn := z34 cn.2.1
       have nd := z34 cd.2.1
       obtain ⟨g, g1, g2⟩ := zhk (K := K) (x := x) (y := y) (a := (numT n).toNat) (b := (numT d).toNat) (by omega) (by omega) hK (by rw [Int.toNat_of_nonneg nn]; exact x2) (by rw [Int.toNat_of_nonneg nd]; exact y2)
       have gl : g.length <= 1000000 := by
        by_cases h0 : (numT d).toNat = 0
        ·rw [h0, Nat.gcd_zero_right, Int.toNat_of_nonneg nn] at g2
         rw [g2.inj x2]; omega
        ·have := z68 g2 y2 (by have := Nat.gcd_le_right (n := (numT d).toNat) (numT n).toNat (by omega); omega)
         omega
       have hc := zfd (K := K) (x := g) (y := [1]) (by omega) (by simp) hK g2 (.one (by omega) (by omega))
       have hcv : ((if ((Nat.gcd (numT n).toNat (numT d).toNat : Nat) : Int) < 1 then (-1 : Int) else if ((Nat.gcd (numT n).toNat (numT d).toNat : Nat) : Int) = 1 then 0 else 1) != 0) = decide (Nat.gcd (numT n).toNat (numT d).toNat ≠ 1) := by
        exact zht _
       rw [e0, f0]
       simp only [bne_self_eq_false, Bool.false_eq_true, if_false, z0z, tu1a, ne_eq, not_true, or_self, x1, y1, g1, zhq hK, hc, hcv, z8a]
       by_cases d0 : d = ⟨#[48]⟩
       ·simp [d0, z0z, tu1a]
       ·by_cases d1 : d = ⟨#[49]⟩
        ·simp [d1, z0z, tu1a]
        ·by_cases hG : Nat.gcd (numT n).toNat (numT d).toNat = 1 <;> simp [d0, d1, hG, z0z, tu1a]
      ·simp [e0, f0, z0z, tu1a]
     ·simp [e0, z0z, tu1a]
end Go.Am.Tryd
/- Plain law: the reference's parts of a rational number's text and its error. -/
namespace Go.Am.Tryd
open Go Go.Am Go.Proofs
variable {K : Nat}
theorem zdk {l r : List Int} {i : Nat} (h : i < l.length) : (l ++ r).getD i 0 = l.getD i 0 := by
 rw [zAb, List.getElem?_append_left h, zAb]
theorem zgl {l : List Int} {i : Nat} (h : i < l.length) : l.getD i 0 ∈ l := by
 rw [zAb, zAh h]; exact List.getElem_mem h
theorem zgm {s n : zAd} {r : List Int} (h : z01 s = z01 n ++ r) : s.extract 0 n.size = n := by
 have hl := congrArg List.length h
 rw [List.length_append, z00, z00] at hl
 apply z2l
 rw [(z3a s (by omega) (by omega)).1, h, List.drop_zero, Nat.sub_zero, List.take_append_of_le_length (by rw [z00]; omega), List.take_of_length_le (by rw [z00]; omega)]
theorem zex {s n d : zAd} (h : z01 s = z01 n ++ 47 :: z01 d) : s.extract (n.size + 1) s.size = d := by
 have hl := congrArg List.length h
 rw [List.length_append, List.length_cons, z00, z00, z00] at hl
 apply z2l
 rw [(z3a s (by omega) (by omega)).1, h, List.drop_append, z00]
 rw [List.drop_eq_nil_of_le (by rw [z00]; omega), show n.size + 1 - n.size = 1 by omega]
 simp only [List.nil_append, List.drop_succ_cons, List.drop_zero]
 rw [List.take_of_length_le (by rw [z00]; omega)]
theorem zey {s : zAd} {neg : Bool} {r : List Int} (h : z01 s = (if neg then [45] else []) ++ r) (hd : neg = false -> (z01 s).head? ≠ some 45) (K : Nat) :
  ∃ s1, (Option.bind ((if (decide ((s.size : Int) > 0)) = true then ((bidx s 0).bind fun x7 => some (x7 == 45)) else some false)) (tu1 fun x11 => ((if x11 = true then ((ssl s 1 (s.size : Int)).bind fun x26 => some (x26, true)) else some (s, false))))) = some (s1, neg) /\ z01 s1 = r /\ s1.size <= s.size := by
 have hn := z00 s
 cases neg with
 | true =>
  simp only [if_true, List.cons_append, List.nil_append] at h
  obtain ⟨t, t1, t2, t3⟩ := za7 h
  have hb : bidx s 0 = some 45 := by rw [z76, h]; rfl
  have hs : 0 < s.size := by rw [h] at hn; simp at hn; omega
  refine ⟨t, ?_, t2, by rw [h] at hn; simp at hn; omega⟩
  rw [decide_eq_true (by omega), if_pos rfl, hb, z0z, z0z, tu1a]
  simp only [beq_self_eq_true, if_true, t1, z0z]
 | false =>
  simp only [Bool.false_eq_true, if_false, List.nil_append] at h
  refine ⟨s, ?_, h, Nat.le_refl _⟩
  by_cases h0 : 0 < s.size
  ·cases hb : z01 s with
   | nil => rw [hb] at hn; simp at hn; omega
   | cons c l =>
    have hc : c ≠ 45 := fun e => hd rfl (by rw [hb, e]; rfl)
    have hx : bidx s 0 = some c := by rw [z76, hb]; rfl
    have e : (c == 45) = false := by rw [beq_eq_false_iff_ne]; exact hc
    rw [decide_eq_true (by omega), if_pos rfl, hx, z0z, e, z0z, tu1a]
    rfl
  ·rw [decide_eq_false (by omega)]
   rfl
theorem zbm {s n d : zAd} {many : Bool} (hs : s.size <= 1048576) (hK : 2000000000 < K) (h : z01 s = z01 n ++ (if many then 47 :: z01 d else [])) (hno : 47 ∉ z01 n) :
  ∃ r : Int × zAd × zAd, z0o K s K 1 s ⟨#[50]⟩ 0 = some r /\ r = (if many then (2, n, d) else (1, s, ⟨#[50]⟩)) := by
 have hn := z00 s
 have hln : n.size <= s.size := by
  have := congrArg List.length h
  rw [List.length_append, z00, z00] at this; omega
 have hlt : many = true -> n.size < s.size := fun hm => by
  subst hm
  have := congrArg List.length h
  rw [List.length_append, z00, z00] at this
  simp at this; omega
 refine za8 (fun k (q : Int × zAd × zAd × Int) => z0o K s k q.1 q.2.1 q.2.2.1 q.2.2.2) (fun q => ∃ i : Nat, q.2.2.2 = i /\ i <= s.size /\ (q.1, q.2.1, q.2.2.1) = (if many = true /\ n.size < i then (2, n, d) else (1, s, ⟨#[50]⟩))) (fun q => (s.size - q.2.2.2 : Int).toNat) _ ?_ ((1, s, ⟨#[50]⟩, 0) : Int × zAd × zAd × Int) (by dsimp only; omega) ⟨0, rfl, by omega, by rw [if_neg (by omega)]⟩
 rintro k ⟨m, a, b, _⟩ ⟨i, rfl, h0, h1⟩
 dsimp only at h1 ⊢
 by_cases hi : i < s.size
 ·right
  have hb : bidx s i = some ((z01 s).getD i 0) := by rw [zin (by omega) (by omega), Int.toNat_natCast]
  by_cases c : many = true /\ n.size < i
  ·rw [if_pos c] at h1
   simp only [Prod.mk.injEq] at h1
   obtain ⟨rfl, rfl, rfl⟩ := h1
   refine ⟨(2, a, b, (i : Int) + 1), ?_, by dsimp only; omega, i + 1, rfl, by omega, by rw [if_pos ⟨c.1, by omega⟩]⟩
   rw [z0o, if_pos (decide_eq_true (by omega)), hb, z0z, k64 (by omega) (by omega)]
   have e : ((2 : Int) == 1) = false := rfl
   rw [e]
   by_cases c2 : (z01 s).getD i 0 == 47 <;> simp [c2, z0z, tu1a, tu3a]
  ·rw [if_neg c] at h1
   simp only [Prod.mk.injEq] at h1
   obtain ⟨rfl, rfl, rfl⟩ := h1
   by_cases c3 : many = true /\ i = n.size
   ·obtain ⟨hm, rfl⟩ := c3
    subst hm
    simp only [if_true] at h
    have hch : (z01 a).getD n.size 0 = 47 := by
     rw [h, zAb, List.getElem?_append_right (by rw [z00]; omega), z00]
     simp
    refine ⟨(2, n, d, (n.size : Int) + 1), ?_, by dsimp only; omega, n.size + 1, rfl, by omega, by rw [if_pos ⟨rfl, by omega⟩]⟩
    have t0 : Int.toNat 0 = 0 := rfl
    have t1 : ((n.size : Int) + 1).toNat = n.size + 1 := by omega
    rw [z0o, if_pos (decide_eq_true (by omega)), hb, z0z, hch, k64 (by omega) (by omega), sslI (l := 0) (by omega) (by omega) (by omega), sslI (by omega) (by omega) (by omega), t0, t1, Int.toNat_natCast, Int.toNat_natCast, zgm h, zex h]
    rfl
   ·have hin : i < n.size := by
     cases many with
     | true => simp at c c3; omega
     | false =>
      simp only [Bool.false_eq_true, if_false, List.append_nil] at h
      have := congrArg List.length h
      rw [z00, z00] at this; omega
    have hch : (z01 a).getD i 0 ≠ 47 := fun e => by
     rw [h, zdk (by rw [z00]; omega)] at e
     exact hno (e ▸ zgl (by rw [z00]; omega))
    have e : ((z01 a).getD i 0 == 47) = false := by rw [beq_eq_false_iff_ne]; exact hch
    refine ⟨(1, a, ⟨#[50]⟩, (i : Int) + 1), ?_, by dsimp only; omega, i + 1, rfl, by omega, by rw [if_neg (by omega)]⟩
    rw [z0o, if_pos (decide_eq_true (by omega)), hb, z0z, e, k64 (by omega) (by omega)]
    rfl
 ·left
  have : i = s.size := by omega
  subst this
  refine ⟨(m, a, b), by rw [z0o, if_neg (by simp)], ?_⟩
  cases many with
  | true => have := hlt rfl; simp only [true_and, if_pos this] at h1; exact h1
  | false => simpa using h1
theorem zez {s n d : zAd} {neg many : Bool} (hs : s.size <= 1048576) (hK : 2000000000 < K) (h : Sp s neg n many d) : z32 K s = some (ratS neg n many d) := by
 have hsz := h.size
 obtain ⟨s1, h1, h2, h3⟩ := zey h.eq h.hd K
 obtain ⟨r, r1, rfl⟩ := zbm (K := K) (s := s1) (n := n) (d := d) (many := many) (by omega) hK h2 h.no
 unfold z32 ratS
 -- the sign
 have hsplit : ∀ {α : Type} (F : zAd × Bool -> Option α), (Option.bind ((if (decide ((s.size : Int) > 0)) = true then ((bidx s 0).bind fun x7 => some (x7 == 45)) else some false)) (tu1 fun x11 => (Option.bind ((if x11 = true then ((ssl s 1 (s.size : Int)).bind fun x26 => some (x26, true)) else some (s, false))) F))) = F (s1, neg) := by
  intro α F
  have : ∀ (m : Option Bool) (f : Bool -> Option (zAd × Bool)), (Option.bind m (tu1 fun x => Option.bind (f x) F)) = Option.bind (Option.bind m (tu1 f)) F := by
   intro m f; cases m <;> rfl
  rw [this, h1]; rfl
 rw [hsplit, tu2a, r1, z0z, tu3a]
 cases many with
 | false =>
  have hs1 : s1 = n := z2l (by simpa using h2)
  subst hs1
  have e2 : natE ⟨#[50]⟩ = 0 := (z89 _).2 ⟨⟨by decide, rfl, fun h => by simp [z01] at h⟩, by decide⟩
  simp only [Bool.false_eq_true, if_false, false_and, false_or, or_false]
  rw [z6u (by omega) (by omega), z6u (s := ⟨#[50]⟩) (by decide) (by show 1 < K; omega), z0z, z0z, e2]
  by_cases e5 : natE s1 = 5
  ·simp [e5, z0z, tu1a]
  ·have e5' : (natE s1 == 5) = false := by rw [beq_eq_false_iff_ne]; exact e5
   have e05 : ((0 : Int) == 5) = false := rfl
   rw [e5', e05]
   cases neg <;> by_cases e0 : natE s1 = 0 <;> by_cases en : s1 = ⟨#[48]⟩ <;> simp [e0, e5, en, z8a, z0z, tu1a, zhu]
 | true =>
  have hd := hsz.2 rfl
  simp only [if_true, true_and]
  rw [z6u (by omega) (by omega), z6u (s := d) (by omega) (by omega), z0z, z0z]
  by_cases e5 : natE n = 5
  ·simp [e5, z0z, tu1a]
  ·have e5' : (natE n == 5) = false := by rw [beq_eq_false_iff_ne]; exact e5
   by_cases f5 : natE d = 5
   ·simp [e5, f5, z0z, tu1a]
   ·have f5' : (natE d == 5) = false := by rw [beq_eq_false_iff_ne]; exact f5
    have hneg : (if neg = true then some (sEq n (⟨#[48]⟩ : zAd)) else some false) = some (decide (neg = true /\ n = ⟨#[48]⟩)) := by
     cases neg <;> simp [z8a]
    rw [e5', f5', hneg]
    simp only [Bool.false_eq_true, if_false, z0z, tu1a, e5, f5, false_or]
    by_cases hz : neg = true /\ n = ⟨#[48]⟩
    ·rw [decide_eq_true hz, if_pos rfl, if_pos hz]
    ·rw [decide_eq_false hz, if_neg (by simp), if_neg hz]
     by_cases e0 : natE n = 0
     ·by_cases f0 : natE d = 0
      ·obtain ⟨cn, ln⟩ := (z89 n).1 e0
       obtain ⟨cd, ld⟩ := (z89 d).1 f0
       have nn := z34 cn.2.1
       have nd := z34 cd.2.1
       obtain ⟨g, g1, g2, g3⟩ := zhm (K := K) (x := n) (y := d) (a := (numT n).toNat) (b := (numT d).toNat) (by omega) (by omega) hK cn cd (by omega) (by omega)
       have hg : (!(decide (g = ⟨#[49]⟩))) = decide (Nat.gcd (numT n).toNat (numT d).toNat ≠ 1) := by
        by_cases hG : Nat.gcd (numT n).toNat (numT d).toNat = 1
        ·have : g = ⟨#[49]⟩ := z66 g2 zgf (by rw [g3, zdc, hG]; rfl)
         simp [this, hG]
        ·have : g ≠ ⟨#[49]⟩ := fun e => hG (by rw [e, zdc] at g3; omega)
         simp [this, hG]
       have e22 : ((2 : Int) == 2) = true := rfl
       rw [e0, f0, e22]
       simp only [bne_self_eq_false, Bool.false_eq_true, if_false, z0z, tu1a, ne_eq, not_true, or_self, g1, hg, z8a, if_true]
       by_cases d0 : d = ⟨#[48]⟩
       ·simp [d0, z0z, tu1a]
       ·by_cases d1 : d = ⟨#[49]⟩
        ·simp [d1, z0z, tu1a]
        ·by_cases hG : Nat.gcd (numT n).toNat (numT d).toNat = 1 <;> simp [d0, d1, hG, z0z, tu1a]
      ·simp [e0, f0, z0z, tu1a]
     ·simp [e0, z0z, tu1a]
end Go.Am.Tryd
/- Plain law: the program's rational numbers and their texts. -/
namespace Go.Am.Tryd
open Go Go.Am Go.Proofs
variable {K : Nat}
def RTx (s : zAd) (x : Rat) : Prop := ∃ n d, CanT n /\ CanT d /\ numT n = (x.num.natAbs : Nat) /\ numT d = (x.den : Nat) /\ Sp s (decide (x.num < 0)) n (decide (x.den ≠ 1)) d
theorem RTx.inj {s t : zAd} {x : Rat} (h : RTx s x) (k : RTx t x) : s = t := by
 obtain ⟨n, d, h1, h2, h3, h4, h5⟩ := h
 obtain ⟨n', d', k1, k2, k3, k4, k5⟩ := k
 have e1 : n = n' := z66 h1 k1 (by rw [h3, k3])
 have e2 : d = d' := z66 h2 k2 (by rw [h4, k4])
 subst e1 e2
 exact z2l (by rw [h5.eq, k5.eq])
theorem RTx.val {s : zAd} {x y : Rat} (h : RTx s x) (k : RTx s y) : x = y := by
 obtain ⟨n, d, h1, h2, h3, h4, h5⟩ := h
 obtain ⟨n', d', k1, k2, k3, k4, k5⟩ := k
 obtain ⟨e1, rfl, e3, e4⟩ := h5.uniq k5
 have e5 : x.num = y.num := by
  rw [<- zb5 x, <- zb5 y, e1]
  congr 1
  omega
 have e6 : x.den = y.den := by
  by_cases c : x.den ≠ 1
  ·have := e4 (decide_eq_true c)
   subst this; omega
  ·have c2 : ¬ y.den ≠ 1 := fun c2 => by
    rw [decide_eq_false c, decide_eq_true c2] at e3; cases e3
   omega
 exact Rat.ext e5 e6
def QV (a : Q) (x : Rat) : Prop := a.neg = decide (x.num < 0) /\ NumN (x.num.natAbs : Nat) a.num /\ (NumN (x.den : Nat) a.den \/ (a.den = [] /\ x.den = 1))
theorem z7k (N : Nat) : ((10 ^ N : Nat) : Int) = (10 : Int) ^ N := by simp
theorem zfk {n N : Nat} {t : zAd} (h : CanT t) (ht : numT t = n) (hn : n < 10 ^ N) : t.size <= N + 1 := by
 refine Nat.not_lt.1 fun hlt => ?_
 have g1 := zb1 h (by omega)
 have g2 : (10 : Int) ^ N <= 10 ^ (t.size - 1) := z7g (by omega) (by omega)
 have g4 : (n : Int) < (10 : Int) ^ N := by rw [<- z7k]; omega
 omega
theorem zfl {n N : Nat} {t : zAd} (h : (z01 t).all digT = true) (ht : numT t = n) (hN : t.size <= N) : n < 10 ^ N := by
 have g1 := zb0 h
 have g2 : (10 : Int) ^ t.size <= 10 ^ N := z7g (by omega) hN
 have g4 : (n : Int) < (10 : Int) ^ N := by omega
 rw [<- z7k] at g4
 omega
theorem QV.zero : QV ⟨false, [], []⟩ 0 := ⟨rfl, .nil, .inr ⟨rfl, rfl⟩⟩
end Go.Am.Tryd
/- Plain law: texts in and out of the program's rational numbers; the reference's sums and products. -/
namespace Go.Am.Tryd
open Go Go.Am Go.Proofs
variable {K : Nat}
theorem RTx.size {s : zAd} {x : Rat} {N : Nat} (h : RTx s x) (dx : Dl x N) : s.size <= 2 * N + 4 := by
 obtain ⟨n, d, h1, h2, h3, h4, h5⟩ := h
 have l1 := zfk h1 h3 dx.1
 have l2 := zfk h2 h4 dx.2
 have := congrArg List.length h5.eq
 rw [z00, List.length_append, List.length_append, z00] at this
 have e1 : (if decide (x.num < 0) = true then ([45] : List Int) else []).length <= 1 := by split <;> simp
 have e2 : (if decide (x.den ≠ 1) = true then (47 :: z01 d : List Int) else []).length <= d.size + 1 := by
  split
  ·rw [List.length_cons, z00]; omega
  ·simp
 omega
theorem RTx.dl {s : zAd} {x : Rat} {N : Nat} (h : RTx s x) (hs : s.size <= N) : Dl x (N + 1) := by
 obtain ⟨n, d, h1, h2, h3, h4, h5⟩ := h
 have hsz := h5.size
 refine ⟨Nat.lt_of_lt_of_le (zfl h1.2.1 h3 (Nat.le_trans hsz.1 hs)) (Nat.pow_le_pow_right (by omega) (by omega)), ?_⟩
 by_cases c : x.den ≠ 1
 ·exact Nat.lt_of_lt_of_le (zfl h2.2.1 h4 (Nat.le_trans (hsz.2 (decide_eq_true c)) hs)) (Nat.pow_le_pow_right (by omega) (by omega))
 ·have : x.den = 1 := by omega
  rw [this]
  exact Nat.one_lt_pow (by omega) (by omega)
theorem RTx.pos {s : zAd} {x : Rat} (h : RTx s x) : s.size ≠ 0 := by
 obtain ⟨n, d, h1, h2, h3, h4, h5⟩ := h
 have := h5.size.1
 have := h1.1
 omega
end Go.Am.Tryd
/- Plain law: errors of lists; operations on two texts. -/
namespace Go.Am.Tryd
open Go Go.Am Go.Proofs
variable {K : Nat}
noncomputable def ratE (s : zAd) : Int := @dite Int (∃ e, ∃ neg n many d, Sp s neg n many d /\ ratS neg n many d = e) (Classical.propDecidable _) (fun h => h.choose) fun _ => 0
theorem zfm {s n d : zAd} {neg many : Bool} (h : Sp s neg n many d) : ratE s = ratS neg n many d := by
 have hex : ∃ e, ∃ neg n many d, Sp s neg n many d /\ ratS neg n many d = e := ⟨_, _, _, _, _, h, rfl⟩
 unfold ratE
 rw [dif_pos hex]
 obtain ⟨neg', n', many', d', h1, h2⟩ := hex.choose_spec
 rw [<- h2]
 obtain ⟨rfl, rfl, rfl, h3⟩ := h.uniq h1
 cases many with
 | true => rw [h3 rfl]
 | false => unfold ratS; simp
theorem zbn {s : zAd} (hs : s.size <= 1048576) (hK : 2000000000 < K) : z3r K s = some (ratE s) := by
 obtain ⟨s1, neg, n, d, many, _, _, h, _⟩ := zab K hs
 rw [zfm h]; exact zew hs hK h
theorem zf0 {s : zAd} (hs : s.size <= 1048576) (hK : 2000000000 < K) : z32 K s = some (ratE s) := by
 obtain ⟨s1, neg, n, d, many, _, _, h, _⟩ := zab K hs
 rw [zfm h]; exact zez hs hK h
noncomputable def z5e : List zAd -> Int
 | [] => 0
 | s :: l => if ratE s ≠ 0 then ratE s else z5e l
theorem z8b {l : List zAd} {i : Nat} (h : i < l.length) : z5e (l.drop i) = if ratE l[i] ≠ 0 then ratE l[i] else z5e (l.drop (i + 1)) := by
 rw [List.drop_eq_getElem_cons h, z5e]
theorem zbo {l : List zAd} (hl : l.length <= 1048576) (hs : ∀ s ∈ l, s.size <= 1048576) (hK : 2000000000 < K) : z2s K l = some (z5e l) := by
 have key : ∃ r : Int ⊕ Unit, z0k K l K 0 = some r /\ ((r = .inr () /\ z5e l = 0) \/ r = .inl (z5e l)) := by
  refine za8 (fun k (s : Int) => z0k K l k s) (fun s => ∃ i : Nat, s = i /\ i <= l.length /\ z5e l = z5e (l.drop i)) (fun s => (l.length - s : Int).toNat) _ ?_ (0 : Int) (by omega) ⟨0, rfl, by omega, by simp⟩
  rintro k _ ⟨i, rfl, h0, h1⟩
  by_cases hi : i < l.length
  ·have hx : idx l (i : Int) = some l[i] := z4i (zAh hi)
   have hc := zbn (K := K) (s := l[i]) (hs _ (List.getElem_mem hi)) hK
   rw [z8b hi] at h1
   by_cases c : ratE l[i] = 0
   ·right
    rw [if_neg (by simpa using c)] at h1
    refine ⟨(i : Int) + 1, ?_, by omega, i + 1, rfl, by omega, h1⟩
    rw [z0k, if_pos (decide_eq_true (by omega)), hx, z0z, hc, z0z, if_neg (by simpa using c), k64 (by omega) (by omega)]
   ·left
    rw [if_pos c] at h1
    refine ⟨.inl (ratE l[i]), ?_, .inr (by rw [h1])⟩
    rw [z0k, if_pos (decide_eq_true (by omega)), hx, z0z, hc, z0z, if_pos (by simpa using c)]
  ·left
   have : i = l.length := by omega
   subst this
   rw [List.drop_eq_nil_of_le (Nat.le_refl _)] at h1
   exact ⟨.inr (), by rw [z0k, if_neg (by simp)], .inl ⟨rfl, h1⟩⟩
 obtain ⟨r, h1, h2⟩ := key
 unfold z2s
 rw [h1]
 rcases h2 with ⟨rfl, h2⟩ | rfl
 ·rw [zgb, tu0a, h2]
 ·rw [zga, tu1a]
theorem zf1 {l : List zAd} (hl : l.length <= 1048576) (hs : ∀ s ∈ l, s.size <= 1048576) (hK : 2000000000 < K) : z38 K l = some (z5e l) := by
 have key : ∃ r : Int ⊕ Unit, z0q K l K 0 = some r /\ ((r = .inr () /\ z5e l = 0) \/ r = .inl (z5e l)) := by
  refine za8 (fun k (s : Int) => z0q K l k s) (fun s => ∃ i : Nat, s = i /\ i <= l.length /\ z5e l = z5e (l.drop i)) (fun s => (l.length - s : Int).toNat) _ ?_ (0 : Int) (by omega) ⟨0, rfl, by omega, by simp⟩
  rintro k _ ⟨i, rfl, h0, h1⟩
  by_cases hi : i < l.length
  ·have hx : idx l (i : Int) = some l[i] := z4i (zAh hi)
   have hc := zf0 (K := K) (s := l[i]) (hs _ (List.getElem_mem hi)) hK
   rw [z8b hi] at h1
   by_cases c : ratE l[i] = 0
   ·right
    rw [if_neg (by simpa using c)] at h1
    refine ⟨(i : Int) + 1, ?_, by omega, i + 1, rfl, by omega, h1⟩
    rw [z0q, if_pos (decide_eq_true (by omega)), hx, z0z, hc, z0z, if_neg (by simpa using c), k64 (by omega) (by omega)]
   ·left
    rw [if_pos c] at h1
    refine ⟨.inl (ratE l[i]), ?_, .inr (by rw [h1])⟩
    rw [z0q, if_pos (decide_eq_true (by omega)), hx, z0z, hc, z0z, if_pos (by simpa using c)]
  ·left
   have : i = l.length := by omega
   subst this
   rw [List.drop_eq_nil_of_le (Nat.le_refl _)] at h1
   exact ⟨.inr (), by rw [z0q, if_neg (by simp)], .inl ⟨rfl, h1⟩⟩
 obtain ⟨r, h1, h2⟩ := key
 unfold z38
 rw [h1]
 rcases h2 with ⟨rfl, h2⟩ | rfl
 ·rw [zgb, tu0a, h2]
 ·rw [zga, tu1a]
end Go.Am.Tryd
/- Plain law: whole numbers and their texts. -/
namespace Go.Am.Tryd
open Go Go.Am Go.Proofs
variable {K : Nat}
end Go.Am.Tryd
/- Plain law: comparisons of rational numbers. -/
namespace Go.Am.Tryd
open Go Go.Am Go.Proofs
variable {K : Nat}
end Go.Am.Tryd
/- Plain law: vectors and matrices of rational texts: their checks, their numbers, products and sums. -/
namespace Go.Am.Tryd
open Go Go.Am Go.Proofs
variable {K : Nat}
def resF {R : Type} : Option R -> R ⊕ Unit
 | some r => .inl r
 | none => .inr ()
theorem zac {α R : Type} {l : List α} {L : Nat -> Int -> Option (R ⊕ Unit)} (p : α -> Option R) (h0 : ∀ k, L (k + 1) (l.length : Int) = some (.inr ()))
  (h1 : ∀ k i (hi : i < l.length), L (k + 1) (i : Int) = match p l[i] with | some r => some (.inl r) | none => L k ((i + 1 : Nat) : Int)) (hK : l.length < K) :
  L K 0 = some (resF (l.findSome? p)) := by
 have key : ∀ n i k, i + n = l.length -> n < k -> L k (i : Int) = some (resF ((l.drop i).findSome? p)) := by
  intro n
  induction n with
  | zero =>
   intro i k hi hk
   obtain ⟨k, rfl⟩ : ∃ m, k = m + 1 := ⟨k - 1, by omega⟩
   obtain rfl : i = l.length := by omega
   rw [h0, List.drop_length]
   rfl
  | succ n ih =>
   intro i k hi hk
   obtain ⟨k, rfl⟩ : ∃ m, k = m + 1 := ⟨k - 1, by omega⟩
   rw [h1 k i (by omega), List.drop_eq_getElem_cons (by omega), List.findSome?_cons]
   cases hp : p l[i] with
   | some r => rfl
   | none => exact ih (i + 1) k (by omega) (by omega)
 have := key l.length 0 K (by omega) hK
 simpa using this
def Fam {α : Type} (P : Nat -> α -> Prop) (n : Nat) (l : List α) : Prop := l.length = n /\ ∀ j (h : j < l.length), P j l[j]
theorem Fam.nil {α : Type} {P : Nat -> α -> Prop} : Fam P 0 [] := ⟨rfl, fun j h => by simp at h⟩
theorem Fam.snoc {α : Type} {P : Nat -> α -> Prop} {n : Nat} {l : List α} {y : α} (h : Fam P n l) (hy : P n y) : Fam P (n + 1) (l ++ [y]) := by
 refine ⟨by simp [h.1], fun j hj => ?_⟩
 by_cases c : j < l.length
 ·rw [List.getElem_append_left c]; exact h.2 j c
 ·have : j = l.length := by simp at hj; omega
  subst this
  rw [List.getElem_append_right (by omega)]
  simp only [Nat.sub_self, List.getElem_cons_zero]
  rw [h.1]; exact hy
theorem Fam.idx {α : Type} {P : Nat -> α -> Prop} {n j : Nat} {l : List α} (h : Fam P n l) (hj : j < n) : ∃ y, idx l (j : Int) = some y /\ P j y := by
 have hl : j < l.length := by rw [h.1]; exact hj
 exact ⟨l[j], z4i (zAh hl), h.2 j hl⟩
theorem Fam.mono {α : Type} {P Q : Nat -> α -> Prop} {n : Nat} {l : List α} (h : Fam P n l) (hPQ : ∀ j y, j < n -> P j y -> Q j y) : Fam Q n l :=
 ⟨h.1, fun j hj => hPQ j _ (by rw [<- h.1]; exact hj) (h.2 j hj)⟩
theorem Fam.uniq {α : Type} {P : Nat -> α -> Prop} {n : Nat} {l m : List α} (hu : ∀ j x y, P j x -> P j y -> x = y) (h : Fam P n l) (k : Fam P n m) : l = m :=
 List.ext_getElem (by rw [h.1, k.1]) fun j h1 h2 => hu j _ _ (h.2 j h1) (k.2 j h2)
theorem k1 {i : Nat} (h : i <= 1048576) : z03 .i64 ((i : Int) + 1) = ((i + 1 : Nat) : Int) := by rw [k64 (by omega) (by omega)]; omega
theorem lt_d {i n : Nat} (h : i < n) : decide ((i : Int) < (n : Int)) = true := decide_eq_true (by omega)
noncomputable def vecE (l : List zAd) : Int := if l.length > 40 then 2 else z5e l
theorem zf2 {n : Nat} {α : Type} (a b : α) : (if decide ((n : Int) > 40) = true then a else b) = if n > 40 then a else b := by
 by_cases h : n > 40
 ·rw [if_pos h, if_pos (decide_eq_true (by omega))]
 ·rw [if_neg h, if_neg (by simp; omega)]
theorem z69 {l : List zAd} (hl : l.length <= 1048576) (hs : ∀ s ∈ l, s.size <= 1048576) (hK : 2000000000 < K) : z16 K l = some (vecE l) := by
 unfold z16 vecE
 rw [zf2, zbo hl hs hK, z0z]
 split <;> rfl
theorem z95 {l : List zAd} (hl : l.length <= 1048576) (hs : ∀ s ∈ l, s.size <= 1048576) (hK : 2000000000 < K) : z2e K l = some (vecE l) := by
 unfold z2e vecE
 rw [zf2, zf1 hl hs hK, z0z]
 split <;> rfl
noncomputable def rowE (w : Nat) (row : List zAd) : Option Int := if row.length ≠ w then some 3 else if vecE row ≠ 0 then some (vecE row) else none
noncomputable def matE (m : List (List zAd)) : Int := if m.length > 40 then 2 else (m.findSome? (rowE (m.getD 0 []).length)).getD 0
def MOk (m : List (List zAd)) : Prop := m.length <= 1048576 /\ ∀ row ∈ m, row.length <= 1048576 /\ ∀ s ∈ row, s.size <= 1048576
theorem idx0 {m : List (List zAd)} (h : 0 < m.length) : idx m 0 = some (m.getD 0 []) := by
 have : idx m ((0 : Nat) : Int) = some m[0] := z4i (zAh h)
 rw [zAb, zAh h]
 exact this
theorem ne_len {a b : Nat} : (((a : Int) != (b : Int)) = true) ↔ a ≠ b := by rw [bne_iff_ne]; omega
theorem zgn {m : List (List zAd)} (hm : MOk m) (hK : 2000000000 < K) : z2t K m = some (matE m) := by
 obtain ⟨hl, hr⟩ := hm
 unfold z2t matE
 rw [zf2]
 by_cases h : m.length > 40
 ·rw [if_pos h, if_pos h]
 ·rw [if_neg h, if_neg h]
  rw [zac (K := K) (l := m) (L := z17 K m) (rowE (m.getD 0 []).length) (fun k => by rw [z17, if_neg (by simp)]) (fun k i hi => ?_) (by omega)]
  ·cases List.findSome? (rowE (m.getD 0 []).length) m <;> rfl
  ·have hx : idx m (i : Int) = some m[i] := z4i (zAh hi)
   obtain ⟨r1, r2⟩ := hr m[i] (List.getElem_mem hi)
   rw [z17, if_pos (lt_d hi), hx, z0z, idx0 (by omega), z0z, z69 r1 r2 hK, z0z, k1 (by omega)]
   unfold rowE
   by_cases c : m[i].length ≠ (m.getD 0 []).length
   ·rw [if_pos (ne_len.2 c), if_pos c]
   ·rw [if_neg (fun e => c (ne_len.1 e)), if_neg c]
    by_cases d : vecE m[i] ≠ 0
    ·rw [if_pos (by simpa using d), if_pos d]
    ·rw [if_neg (by simpa using d), if_neg d]
theorem zf3 {m : List (List zAd)} (hm : MOk m) (hK : 2000000000 < K) : z2c K m = some (matE m) := by
 obtain ⟨hl, hr⟩ := hm
 unfold z2c matE
 rw [zf2]
 by_cases h : m.length > 40
 ·rw [if_pos h, if_pos h]
 ·rw [if_neg h, if_neg h]
  rw [zac (K := K) (l := m) (L := z0x K m) (rowE (m.getD 0 []).length) (fun k => by rw [z0x, if_neg (by simp)]) (fun k i hi => ?_) (by omega)]
  ·cases List.findSome? (rowE (m.getD 0 []).length) m <;> rfl
  ·have hx : idx m (i : Int) = some m[i] := z4i (zAh hi)
   obtain ⟨r1, r2⟩ := hr m[i] (List.getElem_mem hi)
   rw [z0x, if_pos (lt_d hi), hx, z0z, idx0 (by omega), z0z]
   simp only [z0z, z95 r1 r2 hK, k1 (show i <= 1048576 by omega)]
   unfold rowE
   by_cases c : m[i].length ≠ (m.getD 0 []).length
   ·rw [if_pos (ne_len.2 c), if_pos c]
   ·rw [if_neg (fun e => c (ne_len.1 e)), if_neg c]
    by_cases d : vecE m[i] ≠ 0
    ·rw [if_pos (by simpa using d), if_pos d]
    ·rw [if_neg (by simpa using d), if_neg d]
theorem zgo {l : List Int} (hl : l.length <= 1048576) (hK : 2000000000 < K) : z3l K l = some ((l.findSome? fun x => if x ≠ 0 then some x else none).getD 0) := by
 unfold z3l
 rw [zac (K := K) (l := l) (L := z1x K l) (fun x => if x ≠ 0 then some x else none) (fun k => by rw [z1x, if_neg (by simp)]) (fun k i hi => ?_) (by omega)]
 ·cases List.findSome? (fun x => if x ≠ 0 then some x else none) l <;> rfl
 ·have hx : idx l (i : Int) = some l[i] := z4i (zAh hi)
  rw [z1x, if_pos (lt_d hi), hx, z0z, k1 (by omega)]
  by_cases c : l[i] ≠ 0
  ·rw [if_pos (by simpa using c), if_pos c]
  ·rw [if_neg (by simpa using c), if_neg c]
end Go.Am.Tryd
/- The closed matrix fact holds. -/
namespace Go.Am.Tryd
open Go Go.Am Go.Proofs
end Go.Am.Tryd
/- Plain law: rows and scalar products; MatrixDots answers true. -/
namespace Go.Am.Tryd
open Go Go.Am Go.Proofs
variable {K : Nat}
abbrev FT (f : Nat -> Rat) (n : Nat) (l : List zAd) : Prop := Fam (fun j s => RTx s (f j)) n l
theorem FT.uniq {f : Nat -> Rat} {n : Nat} {l m : List zAd} (h : FT f n l) (k : FT f n m) : l = m := Fam.uniq (fun _ _ _ h1 h2 => h1.inj h2) h k
end Go.Am.Tryd
/- Plain law: matrices of numbers: rows, columns, products. -/
namespace Go.Am.Tryd
open Go Go.Am Go.Proofs
variable {K : Nat}
abbrev MT (f : Nat -> Nat -> Rat) (h w : Nat) (m : List (List zAd)) : Prop := Fam (fun i row => FT (f i) w row) h m
theorem MT.uniq {f : Nat -> Nat -> Rat} {h w : Nat} {l m : List (List zAd)} (a : MT f h w l) (b : MT f h w m) : l = m := Fam.uniq (fun _ _ _ h1 h2 => h1.uniq h2) a b
def wid (m : List (List zAd)) : Nat := (m.getD 0 []).length
theorem zf4 {m : List (List zAd)} : z5p K m = some ((wid m : Nat) : Int) := by
 unfold z5p wid
 by_cases h : 0 < m.length
 ·rw [if_pos (decide_eq_true (by omega)), idx0 h, z0z]
 ·have : m = [] := List.length_eq_zero_iff.1 (by omega)
  subst this
  rfl
theorem zgp {m : List (List zAd)} : z2u K m = some ((wid m : Nat) : Int) := by
 unfold z2u wid
 by_cases h : 0 < m.length
 ·rw [if_neg (by rw [beq_iff_eq]; omega), idx0 h, z0z]
 ·have : m = [] := List.length_eq_zero_iff.1 (by omega)
  subst this
  rfl
end Go.Am.Tryd
/- Plain law: SimplexChecks answers true. -/
namespace Go.Am.Tryd
open Go Go.Am Go.Proofs
variable {K : Nat}
def z3v (B : Nat) (x : SimplexProblem) : Prop := (x.A.length <= B /\ ∀ y ∈ x.A, (y.length <= B /\ ∀ z ∈ y, z.size <= B)) /\ (x.B.length <= B /\ ∀ y ∈ x.B, y.size <= B) /\ (x.C.length <= B /\ ∀ y ∈ x.C, y.size <= B)
noncomputable def zgz (p : SimplexProblem) : Int := if p.A.length > 40 \/ p.C.length > 40 then 2 else if matE p.A ≠ 0 then matE p.A else if vecE p.B ≠ 0 then vecE p.B else if vecE p.C ≠ 0 then vecE p.C else if p.A.length ≠ p.B.length \/ (0 < p.A.length /\ wid p.A ≠ p.C.length) then 3 else 0
theorem zbp {a b c : Int} (hK : 2000000000 < K) : z3l K [a, b, c] = some (if a ≠ 0 then a else if b ≠ 0 then b else c) := by
 rw [zgo (by simp) hK]
 by_cases ha : a = 0 <;> by_cases hb : b = 0 <;> by_cases hc : c = 0 <;> simp [ha, hb, hc]
theorem zj0 {a c : Nat} : (if decide ((a : Int) > 40) = true then some true else some (decide ((c : Int) > 40))) = some (decide (a > 40 \/ c > 40)) := by
 by_cases h : a > 40
 ·rw [if_pos (decide_eq_true (by omega)), decide_eq_true (.inl h)]
 ·rw [if_neg (by simp; omega)]
  by_cases k : c > 40
  ·rw [decide_eq_true (by omega), decide_eq_true (.inr k)]
  ·rw [decide_eq_false (by omega), decide_eq_false (by omega)]
theorem zhv {a b c w : Nat} {o : Option Int} (ho : o = some ((w : Nat) : Int)) : (if ((a : Int) != (b : Int)) = true then some true else (if (decide ((a : Int) > 0)) = true then (o.bind fun x => some (x != (c : Int))) else some false)) = some (decide (a ≠ b \/ (0 < a /\ w ≠ c))) := by
 subst ho
 by_cases h : a = b
 ·rw [if_neg (fun e => ne_len.1 e h)]
  by_cases k : 0 < a
  ·rw [if_pos (decide_eq_true (by omega)), z0z]
   by_cases q : w = c
   ·rw [decide_eq_false (by omega)]; simp [q]
   ·rw [ne_len.2 q, decide_eq_true (.inr ⟨k, q⟩)]
  ·rw [if_neg (by simp; omega), decide_eq_false (by omega)]
 ·rw [if_pos (ne_len.2 h), decide_eq_true (.inl h)]
theorem zf5 {p : SimplexProblem} (h : z3v 1048576 p) (hK : 2000000000 < K) : z1m K p = some (zgz p) /\ z1s K p = some (zgz p) := by
 obtain ⟨ha, ⟨b1, b2⟩, c1, c2⟩ := h
 unfold z1m z1s zgz
 rw [zj0, z0z, tu1a, zgn ha hK, z69 b1 b2 hK, z69 c1 c2 hK, zhv zgp, zhv zf4, zf3 ha hK, z95 b1 b2 hK, z95 c1 c2 hK]
 simp only [z0z, tu1a, zbp hK]
 by_cases hbig : p.A.length > 40 \/ p.C.length > 40
 ·simp [hbig]
 ·simp only [decide_eq_false hbig, Bool.false_eq_true, if_false, if_neg hbig]
  by_cases ea : matE p.A = 0
  ·by_cases eb : vecE p.B = 0
   ·by_cases ec : vecE p.C = 0
    ·by_cases hf : p.A.length ≠ p.B.length \/ (0 < p.A.length /\ wid p.A ≠ p.C.length)
     ·rw [decide_eq_true hf, if_pos hf]; simp [ea, eb, ec]
     ·rw [decide_eq_false hf, if_neg hf]; simp [ea, eb, ec]
    ·simp [ea, eb, ec]
   ·simp [ea, eb]
  ·simp [ea]
theorem z6a {p : SimplexProblem} (h : z3v 1048576 p) : ∃ K, z21 K p = some true := by
 refine ⟨2000000001, ?_⟩
 have hK : 2000000000 < 2000000001 := by omega
 obtain ⟨e1, e2⟩ := zf5 (K := 2000000001) h hK
 unfold z21
 rw [show z3e 2000000001 = some true from rfl, z0z, if_neg (by simp), e2, z0z, e1, z0z, if_neg (by simp)]
 by_cases c : zgz p = 0
 ·rw [if_pos (by simpa using c)]
 ·rw [if_neg (by simpa using c)]
  have hs : z2d 2000000001 p = some ((SimplexResult.mk 0 ([] : List zAd) ([] : List zAd) ([] : List zAd) ByteArray.empty), zgz p) := by
   unfold z2d
   rw [e1, z0z, if_pos (by simpa using c)]
  have hv : ∀ r, z24 2000000001 p r = some (zgz p) := fun r => by
   unfold z24
   rw [e1, z0z, if_pos (by simpa using c)]
  rw [hs, z0z, if_pos (by simp)]
  dsimp only
  rw [show z03 .i64 ((([] : List zAd).length : Int) + (([] : List zAd).length : Int)) = 0 from rfl, lta, show (z03 .i64 ((0 : Int) + (([] : List zAd).length : Int)) == 0) = true from rfl, if_pos rfl, if_pos (by simp), show sEq ByteArray.empty (⟨#[]⟩ : zAd) = true from zgk _, if_pos rfl, hv, z0z]
  simp [z0z, tu1a]
end Go.Am.Tryd
/- From a statement's arguments, read as data, to typed data. -/
namespace Go.Am
open Go Go.Proofs.YtdogeclnbdldaaaDoor
section
variable {H : Type} {P : Program} {G : GM} {n B : Nat} {t e : TypeId} {α β S : Type} {r : RT α} {s : RT β} {I : α -> Prop} {J : β -> Prop}
theorem zgq {H : Type} (d : DataW H) : 1 <= Rows.uptoBulk d := by
 cases d with
 | lit l => cases l <;> simp [Rows.uptoBulk]
 | _ => simp [Rows.uptoBulk]
theorem zdl {H : Type} : ∀ (ds : List (DataW H)), ds.length <= Rows.uptoBulkAll ds
 | [] => Nat.zero_le _
 | d :: r => by
  have := zdl r
  have := zgq d
  simp only [Rows.uptoBulkAll, List.length_cons]; omega
def Arg (H : Type) (P : Program) (G : GM) (n : Nat) (t : TypeId) (r : RT α) (B : Nat) (I : α -> Prop) : Prop := ∀ (cs : List Value) (d : DataW H), AData P G n t cs d -> Rows.uptoBulk d <= B -> ∃ x, r.rep G cs x /\ I x
def ArgS (H : Type) (P : Program) (G : GM) (n : Nat) (ts : List TypeId) (r : RT α) (B : Nat) (I : α -> Prop) : Prop :=
 ∀ (css : List (List Value)) (ds : List (DataW H)), AllD (AData P G n) P.cellsOf ts css ds -> Rows.uptoBulkAll ds <= B -> ∃ x, r.rep G css.flatten x /\ I x
theorem zgr {k : IntKind} {x : Int} (h : (Lit.int k x).wf = true) : z5i k x = true := by
 cases k <;> simp [Lit.wf, IntKind.min, IntKind.max, IntKind.signed, IntKind.bits] at h <;> simp [z5i] <;> omega
theorem Arg.mono {I J : α -> Prop} (h : Arg H P G n t r B I) (k : ∀ x, I x -> J x) : Arg H P G n t r B J := fun cs d hd hb => by
 obtain ⟨x, h1, h2⟩ := h cs d hd hb
 exact ⟨x, h1, k x h2⟩
theorem Arg.int {k : IntKind} (hu : P.underlying t = some (.int k)) : Arg H P G (n + 1) t (rI k) B (fun x => z5i k x = true) := fun cs d h _ => by
 unfold AData at h
 simp only [hu] at h
 obtain ⟨x, h1, h2, h3⟩ := h
 exact ⟨x, h1, zgr h3⟩
theorem Arg.bool (hu : P.underlying t = some .bool) : Arg H P G (n + 1) t rB B (fun _ => True) := fun cs d h _ => by
 unfold AData at h
 simp only [hu] at h
 obtain ⟨x, h1, _⟩ := h
 exact ⟨x, h1, trivial⟩
theorem Arg.str (hu : P.underlying t = some .string) : Arg H P G (n + 1) t rS B (fun x => x.size <= B) := fun cs d h hb => by
 unfold AData at h
 simp only [hu] at h
 obtain ⟨x, h1, h2, _⟩ := h
 refine ⟨x, h1, ?_⟩
 rw [h2] at hb
 simp only [Rows.uptoBulk, Array.length_toList] at hb
 have : x.data.size = x.size := rfl
 omega
theorem z96 (h : Arg H P G n e r B I) : ∀ (k : Nat) (css : List (List Value)) (ds : List (DataW H)), AllD (AData P G n) P.cellsOf (List.replicate k e) css ds -> Rows.uptoBulkAll ds <= B -> ∃ xs : List α, All2 (r.rep G) css xs /\ (∀ x ∈ xs, I x) /\ xs.length = k
 | 0, [], [], _, _ => ⟨[], .nil, by simp, rfl⟩
 | 0, _ :: _, _, h, _ => by simp [List.replicate, AllD] at h
 | 0, [], _ :: _, h, _ => by simp [List.replicate, AllD] at h
 | k + 1, [], _, h, _ => by simp [List.replicate, AllD] at h
 | k + 1, _ :: _, [], h, _ => by simp [List.replicate, AllD] at h
 | k + 1, c :: css, d :: ds, hA, hb => by
  simp only [List.replicate, AllD] at hA
  simp only [Rows.uptoBulkAll] at hb
  obtain ⟨x, h1, h2⟩ := h _ _ hA.1.1 (by omega)
  obtain ⟨xs, h3, h4, h5⟩ := z96 h k css ds hA.2 (by omega)
  refine ⟨x :: xs, .cons h1 h3, fun y hy => ?_, by simp [h5]⟩
  rcases List.mem_cons.1 hy with rfl | hy
  ·exact h2
  ·exact h4 y hy
theorem zb7 {R : TypeId -> List Value -> DataW H -> Prop} {sz : TypeId -> Nat} : ∀ (k : Nat) {ts : List TypeId} {cs : List (List Value)} {ds : List (DataW H)}, AllD R sz ts cs ds -> AllD R sz (ts.take k) (cs.take k) (ds.take k)
 | 0, _, _, _, _ => by simp [AllD]
 | k + 1, [], [], [], _ => by simp [AllD]
 | k + 1, _ :: _, _ :: _, _ :: _, h => by simp only [List.take_succ_cons]; exact ⟨h.1, zb7 k h.2⟩
theorem zdm {R : TypeId -> List Value -> DataW H -> Prop} {sz : TypeId -> Nat} {e : TypeId} : ∀ (k : Nat) (css : List (List Value)) (ds : List (DataW H)), AllD R sz (List.replicate k e) css ds -> ∀ c ∈ css, c.length = sz e
 | 0, [], [], _, c, hc => by simp at hc
 | 0, _ :: _, _, h, _, _ => by simp [List.replicate, AllD] at h
 | 0, [], _ :: _, h, _, _ => by simp [List.replicate, AllD] at h
 | k + 1, [], _, h, _, _ => by simp [List.replicate, AllD] at h
 | k + 1, _ :: _, [], h, _, _ => by simp [List.replicate, AllD] at h
 | k + 1, c :: css, d :: ds, hA, u, hu => by
  simp only [List.replicate, AllD] at hA
  rcases List.mem_cons.1 hu with rfl | hu
  ·exact hA.1.2
  ·exact zdm k css ds hA.2 u hu
theorem Arg.sl (hu : P.underlying t = some (.slice e)) (h : Arg H P G n e r B I) : Arg H P G (n + 1) t (rSl r) B (fun xs => xs.length <= B /\ ∀ x ∈ xs, I x) := fun cs d hA hb => by
 unfold AData at hA
 simp only [hu] at hA
 rcases hA with ⟨h1, h2⟩ | ⟨b, len, cap, elems, spare, css, h1, h2, h3, h4, _, h6, h7⟩
 ·subst h1
  exact ⟨[], zfz, Nat.zero_le _, by simp⟩
 ·subst h2
  simp only [Rows.uptoBulk] at hb
  have hlen := zdl elems
  have h8 := zb7 len h7
  rw [List.take_replicate, show min len cap = len by omega, <- h3, List.take_left] at h8
  obtain ⟨xs, k1, k2, k3⟩ := z96 h elems.length (css.take elems.length) elems h8 (by omega)
  refine ⟨xs, ?_, by omega, k2⟩
  have hcl := zdm _ _ _ h7
  have hel := k1.length
  by_cases hz : elems.length = 0
  ·have hx : xs = [] := List.length_eq_zero_iff.1 (by omega)
   subst hx
   refine ⟨_, [], h1, ⟨by simp, .inr (.inr ⟨b, 0, some 0, cap, by rw [<- h3, hz], rfl, .inr rfl⟩)⟩, .nil⟩
  ·rcases h6 with h6 | ⟨x, g1, _, g3⟩
   ·omega
   ·refine ⟨_, css.take elems.length, h1, ⟨k1.each, .inr (.inl ⟨b, 0, some 0, cap, x, by rw [hel, k3, <- h3], g1, ?_, ?_, by rw [hel, k3]; omega, .inr rfl⟩)⟩, k1⟩
    ·rw [g3]
     have h9 : css.flatten = (css.take elems.length).flatten ++ (css.drop elems.length).flatten := by rw [<- List.flatten_append, List.take_append_drop]
     rw [h9, List.length_append, k1.flatLen, hel]; omega
    ·rw [g3, List.drop_zero]
     have h9 : css.flatten = (css.take elems.length).flatten ++ (css.drop elems.length).flatten := by rw [<- List.flatten_append, List.take_append_drop]
     have h10 : (css.take elems.length).length * r.sz = (css.take elems.length).flatten.length := by rw [k1.flatLen, hel]
     rw [h9, h10, List.take_left]
theorem Arg.arr {k : Nat} (hu : P.underlying t = some (.array k e)) (h : Arg H P G n e r B I) : Arg H P G (n + 1) t (rArr k r) B (fun xs => xs.length = k /\ ∀ x ∈ xs, I x) := fun cs d hA hb => by
 unfold AData at hA
 simp only [hu] at hA
 obtain ⟨css, parts, h1, h2, h3⟩ := hA
 subst h2
 simp only [Rows.uptoBulk] at hb
 obtain ⟨xs, k1, k2, k3⟩ := z96 h k css parts h3 (by omega)
 exact ⟨xs, ⟨k3, css, h1, k1⟩, k3, k2⟩
theorem ArgS.one (h : Arg H P G n t r B I) : ArgS H P G n [t] r B I := fun css ds hA hb => by
 match css, ds, hA with
 | [c], [d], hA =>
  simp only [Rows.uptoBulkAll] at hb
  obtain ⟨x, h1, h2⟩ := h c d hA.1.1 (by omega)
  exact ⟨x, by simpa using h1, h2⟩
 | [], _, hA => simp [AllD] at hA
 | _ :: _ :: _, [], hA => simp [AllD] at hA
 | _ :: _ :: _, [_], hA => simp [AllD] at hA
 | _ :: _ :: _, _ :: _ :: _, hA => simp [AllD] at hA
 | [_], [], hA => simp [AllD] at hA
 | [_], _ :: _ :: _, hA => simp [AllD] at hA
theorem ArgS.cons {ts : List TypeId} (h : Arg H P G n t r B I) (k : ArgS H P G n ts s B J) : ArgS H P G n (t :: ts) (rP r s) B (fun x => I x.1 /\ J x.2) := fun css ds hA hb => by
 match css, ds, hA with
 | c :: css, d :: ds, hA =>
  simp only [Rows.uptoBulkAll] at hb
  obtain ⟨x, h1, h2⟩ := h c d hA.1.1 (by omega)
  obtain ⟨y, h3, h4⟩ := k css ds hA.2 (by omega)
  exact ⟨(x, y), ⟨c, css.flatten, by simp, h1, h3⟩, h2, h4⟩
 | [], _, hA => simp [AllD] at hA
 | _ :: _, [], hA => simp [AllD] at hA
theorem Arg.struct {fs : Array Field} {ts : List TypeId} (hu : P.underlying t = some (.struct fs)) (hts : fs.toList.map (·.type) = ts) (h : ArgS H P G n ts r B I) (f : S -> α) (g : α -> S) (hg : ∀ p, f (g p) = p) : Arg H P G (n + 1) t (rIso r f) B (fun x => I (f x)) := fun cs d hA hb => by
 unfold AData at hA
 simp only [hu] at hA
 obtain ⟨css, parts, h1, h2, h3⟩ := hA
 subst h2
 simp only [Rows.uptoBulk] at hb
 rw [hts] at h3
 obtain ⟨p, k1, k2⟩ := h css parts h3 (by omega)
 exact ⟨g p, by rw [h1]; show r.rep G css.flatten (f (g p)); rw [hg]; exact k1, by show I (f (g p)); rw [hg]; exact k2⟩
theorem AArgs.cons_inv {ts : List TypeId} {avs : List Value} {ds : List (DataW H)} (h : AArgs P G n (t :: ts) avs ds) : ∃ v vs d dr, avs = v :: vs /\ ds = d :: dr /\ AVal P G n t v d /\ AArgs P G n ts vs dr := by
 match avs, ds, h with
 | v :: vs, d :: dr, h => exact ⟨v, vs, d, dr, rfl, rfl, h.1, h.2⟩
 | [], _, h => simp [AArgs] at h
 | _ :: _, [], h => simp [AArgs] at h
theorem AArgs.nil_inv {avs : List Value} {ds : List (DataW H)} (h : AArgs P G n [] avs ds) : avs = [] /\ ds = [] := by
 match avs, ds, h with
 | [], [], h => exact ⟨rfl, rfl⟩
 | [], _ :: _, h => simp [AArgs] at h
 | _ :: _, _, h => simp [AArgs] at h
theorem AVal.one {v : Value} {d : DataW H} (hu : z2v P t = some false) (h : AVal P G n t v d) : AData P G n t [v] d := by
 unfold AVal at h
 unfold z2v at hu
 split at h
 ·rename_i q; rw [q] at hu; cases hu
 ·rename_i q; rw [q] at hu; cases hu
 ·exact h
theorem AVal.agg {v : Value} {d : DataW H} (hu : z2v P t = some true) (h : AVal P G n t v d) : ∃ cs, v = .agg (List.toArray cs) /\ AData P G n t cs d := by
 unfold AVal at h
 unfold z2v at hu
 split at h
 ·exact h
 ·exact h
 ·rename_i q1 q2
  split at hu
  ·rename_i q; exact absurd q (q1 _)
  ·rename_i q; exact absurd q (q2 _ _)
  ·cases hu
  ·cases hu
theorem Ow.empty (A : AH) : Ow A.get A [] := ⟨fun _ _ h => h, fun i e h => by simp at h, fun i j e e' _ h => by simp at h, fun i e h => by simp at h⟩
theorem CR.done {f : FuncId} {args : List Value} {A : AH} {b : Value} (h : CR P f args A.get A [] fun v _ _ => v = b) : ∃ A', ACalls P f args A b A' := by
 obtain ⟨v, H', G', h1, _, _, rfl⟩ := h
 exact ⟨H', h1⟩
end
end Go.Am
/- SimplexChecks over the statement's reading of its arguments. -/
namespace Go.Am.Tryd
open Go Go.Am Go.Proofs Go.Proofs.YtdogeclnbdldaaaDoor
theorem z7l {H : Type} {G : GM} {B n : Nat} : Arg H Tryd.prog G (n + 4) 43 T_SimplexProblem B (z3v B) := by
 have h : ArgS H Tryd.prog G (n + 3) [36, 23, 23] _ B _ := (ArgS.cons (Arg.sl (t := 36) (e := 23) (by kernel_rfl) (Arg.sl (t := 23) (e := 25) (by kernel_rfl) (Arg.str (t := 25) (by kernel_rfl)))) (ArgS.cons (Arg.sl (t := 23) (e := 25) (by kernel_rfl) (Arg.str (t := 25) (by kernel_rfl))) (ArgS.one (Arg.sl (t := 23) (e := 25) (by kernel_rfl) (Arg.str (t := 25) (by kernel_rfl))))))
 exact Arg.mono (Arg.struct (fs := #[{ name := "A", type := 36, offset := 0, embedded := false, tag := "", pkgPath := "", byteOffset := 0 }, { name := "B", type := 23, offset := 1, embedded := false, tag := "", pkgPath := "", byteOffset := 24 }, { name := "C", type := 23, offset := 2, embedded := false, tag := "", pkgPath := "", byteOffset := 48 }]) (by kernel_rfl) rfl h _ (fun p : List (List zAd) × List zAd × List zAd => SimplexProblem.mk p.1 p.2.1 p.2.2) (fun _ => rfl)) fun _ h => h
theorem simplexChecks {H : Type} (A : AH) (avs : List Value) (ds : List (DataW H)) (hb : Rows.uptoBulkAll ds <= 1048576) (ha : AArgs Tryd.prog A.get 4 [43] avs ds) : ∃ A', ACalls Tryd.prog 5 avs A (.bool true) A' := by
 obtain ⟨v0, vs0, d0, ds0, rfl, rfl, a0, ha⟩ := AArgs.cons_inv ha
 obtain ⟨rfl, rfl⟩ := AArgs.nil_inv ha
 simp only [Rows.uptoBulkAll] at hb
 obtain ⟨c0, e0, b0⟩ := AVal.agg (by kernel_rfl) a0
 obtain ⟨x0, r0, i0⟩ := (z7l : Arg H Tryd.prog A.get 4 43 _ 1048576 _) c0 d0 b0 (by omega)
 subst e0
 obtain ⟨K, hK⟩ := z6a i0
 exact CR.done (z4v K c0 x0 r0 (Ow.empty A) true hK)
end Go.Am.Tryd
