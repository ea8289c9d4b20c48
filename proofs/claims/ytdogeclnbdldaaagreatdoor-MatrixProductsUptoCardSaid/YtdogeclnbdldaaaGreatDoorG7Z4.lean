/- Plain law: a number's error. -/
import Derived.Test.YtdogeclnbdldaaaGreatDoorG6Z4
import Derived.Test.YtdogeclnbdldaaaGreatDoorG2Z4
import Derived.Test.YtdogeclnbdldaaaGreatDoorRows
set_option maxRecDepth 100000
set_option maxHeartbeats 8000000
set_option linter.unusedVariables false
set_option linter.unusedSimpArgs false
namespace Go.Am.Tryz
open Go Go.Am Go.Proofs
variable {K : Nat} {s : zAd}
def digB (c : Int) : Bool := decide (48 <= c) && decide (c <= 57)
theorem zfe : ∀ (l : List Int), runS (fun c (_ : Unit) => if digB c then .inr () else .inl (5 : Int)) l () = if l.all digB then .inr () else .inl 5
 | [] => rfl
 | x :: l => by
  simp only [runS, List.all_cons]
  by_cases hp : digB x = true
  ·simp only [hp, if_true, Bool.true_and, Sum.elim_inr]; exact zfe l
  ·simp [hp]
theorem znn {α : Type} (c : Int) (A B : Option α) : Option.bind (if (decide (c < 48)) = true then some true else some (decide (c > 57))) (tu1 fun x => if x = true then A else B) = if digB c = true then B else A := by
 unfold digB
 by_cases h1 : c < 48 <;> by_cases h2 : c > 57 <;> simp [h1, h2, tu1, show ¬ (48 : Int) <= c ↔ c < 48 by omega] <;> (try split) <;> (try omega) <;> rfl
theorem zh0 (hs : s.size <= 1048576) (hK : s.size < K) : z1o K s K 0 = some (if (z05 s).all digB then .inr () else .inl 5) := by
 have hn := z01 s
 have h : z1o K s K 0 = _ := zg0 (z05 s) (fun k (_ : Unit) i => z1o K s k i) (fun c (_ : Unit) => if digB c then .inr () else .inl (5 : Int)) (fun _ _ => True)
  (fun k _ i x hx _ => by
   have hi := (zAi hx).1
   show z1o K s (k + 1) i = _
   rw [z1o, zkg hi, if_pos rfl, z1s hx]
   simp only [Option.bind_some, znn, kw1 hi (by omega)]
   cases digB x <;> simp)
  (fun _ _ _ _ _ _ _ => trivial)
  (fun k _ i hi => by
   show z1o K s (k + 1) i = _
   rw [z1o, zfz hi]; simp) K () (by omega) trivial
 rw [h, zfe]
theorem zj4 (hs : s.size <= 1048576) (hK : s.size < K) : z18 K s K 0 = some (if (z05 s).all digB then .inr () else .inl 5) := by
 have hn := z01 s
 have h : z18 K s K 0 = _ := zg0 (z05 s) (fun k (_ : Unit) i => z18 K s k i) (fun c (_ : Unit) => if digB c then .inr () else .inl (5 : Int)) (fun _ _ => True)
  (fun k _ i x hx _ => by
   have hi := (zAi hx).1
   show z18 K s (k + 1) i = _
   rw [z18, <- hn, zkg hi, if_pos rfl, za9, z1s hx]
   simp only [Option.bind_some, znn, kw1 hi (by omega)]
   cases digB x <;> simp)
  (fun _ _ _ _ _ _ _ => trivial)
  (fun k _ i hi => by
   show z18 K s (k + 1) i = _
   rw [z18, <- hn, zfz hi]; simp) K () (by omega) trivial
 rw [h, zfe]
def natE (s : zAd) : Int := if s.size = 0 then 5 else if (z05 s).head? = some 48 /\ s.size > 1 then 5 else if !(z05 s).all digB then 5 else if s.size > 2000 then 2 else 0
theorem zno : sEq s ⟨#[]⟩ = (s.size == 0) := by
 cases hq : sEq s ⟨#[]⟩ with
 | true => rw [sEq_iff] at hq; subst hq; rfl
 | false =>
  have : s.size ≠ 0 := fun h => by
   have : s = ⟨#[]⟩ := by
    cases s with
    | mk d => congr 1; exact Array.eq_empty_of_size_eq_zero h
   rw [sEq_iff.2 this] at hq; cases hq
  simp [this]
theorem zj5 (h : s.size ≠ 0) : ∃ c, bidx s 0 = some c /\ (z05 s).head? = some c := by
 have hn := z01 s
 cases hb : z05 s with
 | nil => rw [hb] at hn; simp at hn; omega
 | cons c l => exact ⟨c, by rw [za9, hb]; rfl, rfl⟩
theorem zeq (hs : s.size <= 1048576) (hK : s.size < K) : z6q K s = some (natE s) := by
 unfold z6q natE
 rw [zh0 hs hK, zno]
 by_cases h0 : s.size = 0
 ·simp [h0, tu1]
 ·obtain ⟨c, h1, h2⟩ := zj5 h0
  rw [h1, h2]
  have h0' : (s.size == 0) = false := by simpa using h0
  by_cases hc : c = 48 <;> by_cases h3 : s.size > 1 <;> by_cases h4 : s.size > 2000 <;> cases h5 : (z05 s).all digB <;>
   simp [h0, h0', hc, h3, h4, h5, tu1, tu0, z9w, show ((s.size : Int) > 1) ↔ s.size > 1 by omega, show ((s.size : Int) > 2000) ↔ s.size > 2000 by omega] <;> omega
theorem zbg (hs : s.size <= 1048576) (hK : s.size < K) : z5p K s = some (natE s) := by
 unfold z5p natE
 rw [zj4 hs hK]
 by_cases h0 : s.size = 0
 ·simp [h0, tu1]
 ·obtain ⟨c, h1, h2⟩ := zj5 h0
  rw [h1, h2]
  have h0' : ((s.size : Int) == 0) = false := by rw [beq_eq_false_iff_ne]; omega
  by_cases hc : c = 48 <;> by_cases h3 : s.size > 1 <;> by_cases h4 : s.size > 2000 <;> cases h5 : (z05 s).all digB <;>
   simp [h0, h0', hc, h3, h4, h5, tu1, tu0, z9w, show ((s.size : Int) > 1) ↔ s.size > 1 by omega, show ((s.size : Int) > 2000) ↔ s.size > 2000 by omega] <;> omega
theorem znp : digB = digT := rfl
theorem zb5 (s : zAd) : natE s = 0 ↔ CanT s /\ s.size <= 2000 := by
 unfold natE CanT
 rw [znp]
 by_cases h0 : s.size = 0
 ·simp [h0]
 ·by_cases h1 : (z05 s).head? = some 48 /\ s.size > 1
  ·rw [if_neg h0, if_pos h1]
   constructor
   ·intro h; cases h
   ·rintro ⟨⟨_, _, h⟩, _⟩; have := h h1.1; omega
  ·rw [if_neg h0, if_neg h1]
   cases h2 : (z05 s).all digT with
   | false => simp
   | true =>
    simp only [Bool.not_true, Bool.false_eq_true, if_false]
    by_cases h3 : s.size > 2000
    ·rw [if_pos h3]; constructor
     ·intro h; cases h
     ·rintro ⟨_, h⟩; omega
    ·rw [if_neg h3]
     exact ⟨fun _ => ⟨⟨h0, trivial, fun e => by
      refine Nat.le_antisymm (Nat.not_lt.1 fun h => h1 ⟨e, h⟩) (by omega)⟩, by omega⟩, fun _ => rfl⟩
theorem zdq (s : zAd) : sEq s s = true := sEq_iff.2 rfl
end Go.Am.Tryz
/- Plain law: lists of texts; one. -/
namespace Go.Am.Tryz
open Go Go.Am Go.Proofs
variable {K : Nat}
theorem zor {s t : zAd} (h : s ≠ t) : sEq s t = false := by
 cases e : sEq s t with
 | false => rfl
 | true => exact absurd (sEq_iff.1 e) h
theorem zga (hK : 2000000000 < K) : z8o K 1 = some [1] := by
 obtain ⟨k, rfl⟩ : ∃ k, K = k + 2 := ⟨K - 2, by omega⟩
 unfold z8o
 have e1 : decide ((1 : Int) > 0) = true := rfl
 have e2 : IntKind.wrap .u32 (Int.tmod 1 1000000000) = 1 := rfl
 have e3 : z04 .i64 (Int.tdiv 1 1000000000) = 0 := rfl
 have e4 : decide ((0 : Int) > 0) = false := rfl
 rw [z6s, e1, if_pos rfl, e2, e3, if_pos (by decide), z6s, e4]
 rfl
end Go.Am.Tryz
/- Plain lemmas: rational numbers, their signs, parts and sizes. -/
namespace Go.Am
def sgn (neg : Bool) (n : Nat) : Int := if neg then -(n : Int) else n
theorem zj6 (neg : Bool) (n : Nat) : (sgn neg n).natAbs = n := by unfold sgn; split <;> omega
theorem zd0 (x : Rat) : sgn (decide (x.num < 0)) x.num.natAbs = x.num := by unfold sgn; by_cases h : x.num < 0 <;> simp [h] <;> omega
theorem zkx (neg : Bool) (n d : Nat) (hd : d ≠ 0) : (mkRat (sgn neg n) d).num.natAbs = n / Nat.gcd n d := by
 rw [Rat.num_mkRat, if_neg hd, zj6, Nat.gcd_comm]
 unfold sgn
 cases neg with
 | false => simp; rfl
 | true =>
  simp only [if_true]
  have h : (Nat.gcd n d : Int) ∣ (n : Int) := Int.natCast_dvd_natCast.2 (Nat.gcd_dvd_left n d)
  rw [Int.neg_ediv_of_dvd h, Int.natAbs_neg]
  rfl
theorem zky (neg : Bool) (n d : Nat) (hd : d ≠ 0) : (mkRat (sgn neg n) d).den = d / Nat.gcd n d := by
 rw [Rat.den_mkRat, if_neg hd, zj6, Nat.gcd_comm]
theorem zmh (neg : Bool) (n d : Nat) (hd : d ≠ 0) (hn : n ≠ 0) : decide ((mkRat (sgn neg n) d).num < 0) = neg := by
 have h0 : n / Nat.gcd n d ≠ 0 := by
  have := Nat.gcd_pos_of_pos_left d (show 0 < n by omega)
  have h2 := Nat.le_of_dvd (by omega) (Nat.gcd_dvd_left n d)
  have := Nat.div_pos h2 this
  omega
 rw [Rat.num_mkRat, if_neg hd, zj6, Nat.gcd_comm]
 have h : (Nat.gcd n d : Int) ∣ (n : Int) := Int.natCast_dvd_natCast.2 (Nat.gcd_dvd_left n d)
 obtain ⟨q, hq, hq0⟩ : ∃ q : Nat, (n : Int) / (Nat.gcd n d : Int) = (q : Int) /\ q ≠ 0 := ⟨n / Nat.gcd n d, by simp, h0⟩
 unfold sgn
 cases neg with
 | false => simp only [Bool.false_eq_true, if_false, hq]; exact decide_eq_false (by omega)
 | true => simp only [if_true]; rw [Int.neg_ediv_of_dvd h, hq]; exact decide_eq_true (by omega)
theorem zj7 (x y : Rat) : x * y = mkRat (sgn (decide (x.num < 0) != decide (y.num < 0)) (x.num.natAbs * y.num.natAbs)) (x.den * y.den) := by
 rw [Rat.mul_def']
 congr 1
 conv => lhs; rw [<- zd0 x, <- zd0 y]
 generalize x.num.natAbs = a
 generalize y.num.natAbs = b
 unfold sgn
 cases decide (x.num < 0) <;> cases decide (y.num < 0) <;> simp [Int.mul_neg, Int.neg_mul]
def Dl (x : Rat) (N : Nat) : Prop := x.num.natAbs < 10 ^ N /\ x.den < 10 ^ N
theorem Dl.mono {x : Rat} {N M : Nat} (h : Dl x N) (hN : N <= M) : Dl x M := ⟨Nat.lt_of_lt_of_le h.1 (Nat.pow_le_pow_right (by omega) hN), Nat.lt_of_lt_of_le h.2 (Nat.pow_le_pow_right (by omega) hN)⟩
theorem Dl.mk (neg : Bool) {n d N : Nat} (hd : d ≠ 0) (hn : n < 10 ^ N) (hd2 : d < 10 ^ N) : Dl (mkRat (sgn neg n) d) N := by
 refine ⟨?_, ?_⟩
 ·rw [zkx neg n d hd]; exact Nat.lt_of_le_of_lt (Nat.div_le_self _ _) hn
 ·rw [zky neg n d hd]; exact Nat.lt_of_le_of_lt (Nat.div_le_self _ _) hd2
theorem z4s {a b N M : Nat} (h : a < 10 ^ N) (k : b < 10 ^ M) : a * b < 10 ^ (N + M) := by
 rw [Nat.pow_add]
 exact Nat.mul_lt_mul_of_lt_of_le h (Nat.le_of_lt k) (Nat.pow_pos (by omega))
theorem Dl.mul {x y : Rat} {N M : Nat} (h : Dl x N) (k : Dl y M) : Dl (x * y) (N + M) := by
 rw [zj7]
 exact .mk _ (Nat.mul_ne_zero x.den_nz y.den_nz) (z4s h.1 k.1) (z4s h.2 k.2)
theorem Dl.zero : Dl 0 1 := ⟨by decide, by decide⟩
theorem Dl.one : Dl 1 1 := ⟨by decide, by decide⟩
theorem znq (a : Int) : a = sgn (decide (a < 0)) a.natAbs := by unfold sgn; by_cases h : a < 0 <;> simp [h] <;> omega
theorem Dl.add {x y : Rat} {N M : Nat} (h : Dl x N) (k : Dl y M) : Dl (x + y) (N + M + 1) := by
 rw [Rat.add_def']
 rw [znq (x.num * y.den + y.num * x.den)]
 have h1 := z4s h.1 k.2
 have h2 := z4s k.1 h.2
 have h3 : (x.num * (y.den : Int) + y.num * (x.den : Int)).natAbs <= x.num.natAbs * y.den + y.num.natAbs * x.den := by
  refine Nat.le_trans (Int.natAbs_add_le _ _) ?_
  rw [Int.natAbs_mul, Int.natAbs_mul]; simp
 rw [Nat.add_comm M N] at h2
 refine .mk _ (Nat.mul_ne_zero x.den_nz y.den_nz) ?_ ?_
 ·rw [Nat.pow_succ]; omega
 ·have := z4s h.2 k.2
  rw [Nat.pow_succ]; omega
theorem Dl.neg {x : Rat} {N : Nat} (h : Dl x N) : Dl (-x) N := ⟨by rw [Rat.neg_num, Int.natAbs_neg]; exact h.1, by rw [Rat.neg_den]; exact h.2⟩
theorem Dl.sub {x y : Rat} {N M : Nat} (h : Dl x N) (k : Dl y M) : Dl (x - y) (N + M + 1) := by
 rw [Rat.sub_eq_add_neg]; exact h.add k.neg
theorem Dl.pos {x : Rat} {N : Nat} (h : Dl x N) : 1 <= N := by
 refine Nat.not_lt.1 fun hlt => ?_
 have : N = 0 := by omega
 subst this
 have := h.2
 have := x.den_pos
 simp at *; omega
end Go.Am
/- Plain law: the parts of a rational number's text; its error. -/
namespace Go.Am.Tryz
open Go Go.Am Go.Proofs
variable {K : Nat}
structure Sp (s : zAd) (neg : Bool) (n : zAd) (many : Bool) (d : zAd) : Prop where
 eq : z05 s = (if neg then [45] else []) ++ (z05 n ++ (if many then 47 :: z05 d else []))
 no : 47 ∉ z05 n
 hd : neg = false -> (z05 s).head? ≠ some 45
theorem zer {x : Int} : ∀ {l1 l2 r1 r2 : List Int}, l1 ++ r1 = l2 ++ r2 -> x ∉ l1 -> x ∉ l2 -> (r1 = [] \/ r1.head? = some x) -> (r2 = [] \/ r2.head? = some x) -> l1 = l2 /\ r1 = r2
 | [], [], _, _, h, _, _, _, _ => ⟨rfl, by simpa using h⟩
 | [], b :: l2, r1, r2, h, _, h2, h3, _ => by
  simp only [List.nil_append, List.cons_append] at h
  subst h
  simp at h3
  subst h3
  simp at h2
 | a :: l1, [], r1, r2, h, h1, _, _, h4 => by
  simp only [List.nil_append, List.cons_append] at h
  subst h
  simp at h4
  subst h4
  simp at h1
 | a :: l1, b :: l2, r1, r2, h, h1, h2, h3, h4 => by
  simp only [List.cons_append, List.cons.injEq] at h
  obtain ⟨rfl, h⟩ := h
  obtain ⟨e1, e2⟩ := zer h (fun hx => h1 (by simp [hx])) (fun hx => h2 (by simp [hx])) h3 h4
  exact ⟨by rw [e1], e2⟩
theorem Sp.uniq {s n d n' d' : zAd} {neg neg' many many' : Bool} (h : Sp s neg n many d) (k : Sp s neg' n' many' d') : neg = neg' /\ n = n' /\ many = many' /\ (many = true -> d = d') := by
 have e1 : neg = neg' := by
  cases neg <;> cases neg'
  ·rfl
  ·have := h.hd rfl; rw [k.eq] at this; simp at this
  ·have := k.hd rfl; rw [h.eq] at this; simp at this
  ·rfl
 subst e1
 have e2 := List.append_cancel_left (h.eq.symm.trans k.eq)
 obtain ⟨e3, e4⟩ := zer e2 h.no k.no (by cases many <;> simp) (by cases many' <;> simp)
 refine ⟨rfl, z4i e3, ?_⟩
 cases many <;> cases many'
 ·exact ⟨rfl, fun h => by cases h⟩
 ·simp at e4
 ·simp at e4
 ·simp at e4; exact ⟨rfl, fun _ => z4i e4⟩
theorem Sp.size {s n d : zAd} {neg many : Bool} (h : Sp s neg n many d) : n.size <= s.size /\ (many = true -> d.size <= s.size) := by
 have := congrArg List.length h.eq
 simp only [List.length_append, z01] at this
 refine ⟨by omega, fun hm => ?_⟩
 subst hm
 simp only [if_true, List.length_cons, z01] at this
 omega
theorem z6d (s : zAd) {i j : Nat} (h : i <= j) (hj : j <= s.size) : z05 (s.extract i j) = ((z05 s).drop i).take (j - i) /\ (s.extract i j).size = j - i := by
 have h1 := z3d s i j
 refine ⟨h1, ?_⟩
 rw [<- z01, h1, List.length_take, List.length_drop, z01]; omega
theorem zff (K : Nat) (s : zAd) : ∃ s1 neg, z1n K s ⟨#[45]⟩ = some (s1, neg) /\ z05 s = (if neg then [45] else []) ++ z05 s1 /\ (neg = false -> (z05 s).head? ≠ some 45) /\ s1.size <= s.size := by
 unfold z1n z12 z11
 have hn := z01 s
 have e1 : ((⟨#[45]⟩ : zAd).size : Int) = 1 := rfl
 rw [e1]
 by_cases h0 : s.size = 0
 ·have hb : z05 s = [] := List.length_eq_zero_iff.1 (by omega)
  refine ⟨s, false, ?_, by simp, fun _ => by rw [hb]; simp, Nat.le_refl _⟩
  rw [h0]
  rfl
 ·obtain ⟨c, l, hc⟩ : ∃ c l, z05 s = c :: l := by
   cases hb : z05 s with
   | nil => rw [hb] at hn; simp at hn; omega
   | cons c l => exact ⟨c, l, rfl⟩
  have hx : ssl s 0 1 = some (s.extract 0 1) := by rw [sslI (by omega) (by omega) (by omega)]; rfl
  have hxb : z05 (s.extract 0 1) = [c] := by rw [(z6d s (by omega) (by omega)).1, hc]; rfl
  rw [decide_eq_true (by omega), if_pos rfl, hx, z0e, z0e, tu1a, z0e]
  by_cases h45 : c = 45
  ·have he : sEq (s.extract 0 1) ⟨#[45]⟩ = true := sEq_iff.2 (z4i (by rw [hxb, h45]; rfl))
   obtain ⟨t, t1, t2, t3⟩ := zby hc
   refine ⟨t, true, ?_, by rw [hc, t2, h45]; rfl, fun h => by (cases h), by rw [hc] at hn; simp at hn; omega⟩
   rw [he]
   simp only [Bool.not_true, Bool.false_eq_true, if_false]
   rw [t1, z0e, z0e]
  ·have he : sEq (s.extract 0 1) ⟨#[45]⟩ = false := zor (fun e => by
    have := congrArg z05 e
    rw [hxb] at this
    have e2 : z05 (⟨#[45]⟩ : zAd) = [45] := rfl
    rw [e2] at this
    simp at this; exact h45 this)
   refine ⟨s, false, ?_, by simp, fun _ => by rw [hc]; simpa using h45, Nat.le_refl _⟩
   rw [he]
   rfl
theorem zad (c : UInt8) : ∀ (l : List UInt8), (Lib.indexByte l c = -1 /\ c ∉ l) \/ ∃ i : Nat, Lib.indexByte l c = i /\ i < l.length /\ l[i]? = some c /\ c ∉ l.take i
 | [] => .inl ⟨rfl, by simp⟩
 | b :: l => by
  rw [Lib.indexByte]
  by_cases hb : b = c
  ·subst hb; exact .inr ⟨0, by simp, by simp, by simp, by simp⟩
  ·have hb' : (b == c) = false := by simpa using hb
   rw [hb']
   rcases zad c l with ⟨h1, h2⟩ | ⟨i, h1, h2, h3, h4⟩
   ·refine .inl ⟨by rw [h1]; rfl, ?_⟩
    simp only [List.mem_cons, not_or]
    exact ⟨fun e => hb e.symm, h2⟩
   ·refine .inr ⟨i + 1, ?_, by simp; omega, by simpa using h3, ?_⟩
    ·rw [h1]
     have : ((i : Int) == -1) = false := by rw [beq_eq_false_iff_ne]; omega
     rw [this]
     simp
    ·rw [List.take_succ_cons]
     simp only [List.mem_cons, not_or]
     exact ⟨fun e => hb e.symm, h4⟩
theorem zgb {c : UInt8} {l : List UInt8} (h : ((c.toNat : Nat) : Int) ∈ l.map (fun b => (b.toNat : Int))) : c ∈ l := by
 rw [List.mem_map] at h
 obtain ⟨b, hb, he⟩ := h
 have : b = c := UInt8.toNat_inj.1 (by omega)
 subst this; exact hb
theorem zos {s : zAd} (hs : s.size <= 1048576) : ∃ n d many, z47 K s ⟨#[47]⟩ = some (n, d, many) /\ z05 s = z05 n ++ (if many then 47 :: z05 d else []) /\ 47 ∉ z05 n /\ (many = false -> d = ⟨#[]⟩) := by
 have hn := z01 s
 have hx : z10 K s ⟨#[47]⟩ = some (Lib.indexByte s.data.toList 47) := by
  unfold z10 z23
  have e1 : (((⟨#[47]⟩ : zAd).size : Int) == 0) = false := rfl
  have e2 : (((⟨#[47]⟩ : zAd).size : Int) == 1) = true := rfl
  have e3 : bidx (⟨#[47]⟩ : zAd) 0 = some 47 := rfl
  rw [e1, e2, e3]
  simp only [Bool.false_eq_true, if_false, z0e, tu1a, if_true]
  by_cases he : sEq ⟨#[47]⟩ s = true
  ·rw [he, if_pos rfl]
   rw [sEq_iff] at he
   subst he
   rfl
  ·rw [if_neg he]
   rfl
 unfold z47 z25
 rw [hx, z0e]
 rcases zad 47 s.data.toList with ⟨h1, h2⟩ | ⟨i, h1, h2, h3, h4⟩
 ·refine ⟨s, ⟨#[]⟩, false, by rw [h1]; rfl, by simp, fun h => h2 (zgb h), fun _ => rfl⟩
 ·rw [Array.length_toList] at h2
  have h2' : i < s.size := h2
  have ea := z6d s (i := 0) (j := i) (by omega) (by omega)
  have eb := z6d s (i := i + 1) (j := s.size) (by omega) (by omega)
  refine ⟨s.extract 0 i, s.extract (i + 1) s.size, true, ?_, ?_, ?_, fun h => by cases h⟩
  ·have e1 : ((⟨#[47]⟩ : zAd).size : Int) = 1 := rfl
   have t0 : Int.toNat 0 = 0 := rfl
   have t1 : ((i : Int) + 1).toNat = i + 1 := by omega
   rw [h1, if_pos (decide_eq_true (by omega)), sslI (by omega) (by omega) (by omega), z0e, e1, k64 (by omega) (by omega), sslI (by omega) (by omega) (by omega), z0e, z0e, t1]
   rfl
  ·rw [ea.1, eb.1]
   have h5 : (z05 s)[i]? = some 47 := by unfold z05; rw [List.getElem?_map, h3]; rfl
   have h6 : i < (z05 s).length := by omega
   rw [zAh h6] at h5
   simp only [if_true, List.drop_zero, Nat.sub_zero]
   rw [List.take_of_length_le (l := (z05 s).drop (i + 1)) (by rw [List.length_drop]; omega)]
   conv => lhs; rw [<- List.take_append_drop i (z05 s), List.drop_eq_getElem_cons h6]
   rw [zAa h5]
  ·rw [ea.1, List.drop_zero, Nat.sub_zero]
   intro h
   unfold z05 at h
   rw [<- List.map_take] at h
   exact h4 (zgb h)
theorem zc5 (K : Nat) {s : zAd} (hs : s.size <= 1048576) : ∃ s1 neg n d many, z1n K s ⟨#[45]⟩ = some (s1, neg) /\ z47 K s1 ⟨#[47]⟩ = some (n, d, many) /\ Sp s neg n many d /\ z05 s = (if neg then [45] else []) ++ z05 s1 /\ (many = false -> d = ⟨#[]⟩) := by
 obtain ⟨s1, neg, h1, h2, h3, h4⟩ := zff K s
 obtain ⟨n, d, many, c1, c2, c3, c4⟩ := zos (K := K) (s := s1) (by omega)
 exact ⟨s1, neg, n, d, many, h1, c1, ⟨by rw [h2, c2], c3, h3⟩, h2, c4⟩
def ratS (neg : Bool) (n : zAd) (many : Bool) (d : zAd) : Int :=
 if natE n = 5 \/ (many = true /\ natE d = 5) \/ (neg = true /\ n = ⟨#[48]⟩) then 5 else if natE n ≠ 0 \/ (many = true /\ natE d ≠ 0) then 2 else
 if many = true /\ (d = ⟨#[48]⟩ \/ d = ⟨#[49]⟩ \/ Nat.gcd (numT n).toNat (numT d).toNat ≠ 1) then 3 else 0
theorem zb6 (a b : zAd) : sEq a b = decide (a = b) := by
 by_cases h : a = b
 ·rw [decide_eq_true h]; exact sEq_iff.2 h
 ·rw [decide_eq_false h]; exact zor h
theorem znr (G : Nat) : ((if (G : Int) < 1 then (-1 : Int) else if (G : Int) = 1 then 0 else 1) != 0) = decide (G ≠ 1) := by
 by_cases hG : G = 1
 ·subst hG; rfl
 ·rw [decide_eq_true hG]
  by_cases h0 : (G : Int) < 1
  ·rw [if_pos h0]; rfl
  ·rw [if_neg h0, if_neg (by omega)]; rfl
theorem zns : natE ⟨#[48]⟩ = 0 := (zb5 _).2 ⟨zac, by decide⟩
theorem zkz {s n d : zAd} {neg many : Bool} (hs : s.size <= 1048576) (hK : 2000000000 < K) (h : Sp s neg n many d) : z5m K s = some (ratS neg n many d) := by
 obtain ⟨s1, neg', n', d', many', c1, c2, c3, c4, c5⟩ := zc5 K hs
 obtain ⟨rfl, rfl, rfl, hd⟩ := h.uniq c3
 have hsz := h.size
 unfold z5m ratS
 rw [c1, z0e, c2, z0e]
 dsimp only
 rw [zeq (by omega) (by omega), z0e]
 cases many with
 | false =>
  simp only [Bool.false_eq_true, if_false, z0e, tu1a, false_and, false_or, or_false]
  by_cases e5 : natE n = 5
  ·simp [e5, z0e, tu1a]
  ·have e5' : (natE n == 5) = false := by rw [beq_eq_false_iff_ne]; exact e5
   have e05 : ((0 : Int) == 5) = false := rfl
   rw [e5', e05]
   cases neg <;> by_cases e0 : natE n = 0 <;> by_cases en : n = ⟨#[48]⟩ <;> simp [e0, e5, en, zb6, z0e, tu1a, zns]
 | true =>
  have hdd := hd rfl
  subst hdd
  simp only [if_true, true_and]
  rw [zeq (by have := hsz.2 rfl; omega) (by have := hsz.2 rfl; omega)]
  simp only [z0e, tu1a]
  by_cases e5 : natE n = 5
  ·simp [e5, z0e, tu1a]
  ·have e5' : (natE n == 5) = false := by rw [beq_eq_false_iff_ne]; exact e5
   by_cases f5 : natE d = 5
   ·simp [e5, f5, z0e, tu1a]
   ·have f5' : (natE d == 5) = false := by rw [beq_eq_false_iff_ne]; exact f5
    have hneg : (if neg = true then some (sEq n (⟨#[48]⟩ : zAd)) else some false) = some (decide (neg = true /\ n = ⟨#[48]⟩)) := by
     cases neg <;> simp [zb6]
    rw [e5', f5', hneg]
    simp only [Bool.false_eq_true, if_false, z0e, tu1a, e5, f5, false_or]
    by_cases hz : neg = true /\ n = ⟨#[48]⟩
    ·rw [decide_eq_true hz, if_pos rfl, if_pos hz]
    ·rw [decide_eq_false hz, if_neg (by simp), if_neg hz]
     by_cases e0 : natE n = 0
     ·by_cases f0 : natE d = 0
      ·obtain ⟨cn, ln⟩ := (zb5 n).1 e0
       obtain ⟨cd, ld⟩ := (zb5 d).1 f0
       obtain ⟨x, x1, x2, x3⟩ := zau (K := K) (s := n) (by omega) hK cn.2.1
       obtain ⟨y, y1, y2, y3⟩ := zau (K := K) (s := d) (by omega) hK cd.2.1
       have nn := z42 cn.2.1
       have nd := z42 cd.2.1
       obtain ⟨g, g1, g2⟩ := zlm (K := K) (x := x) (y := y) (a := (numT n).toNat) (b := (numT d).toNat) (by omega) (by omega) hK (by rw [Int.toNat_of_nonneg nn]; exact x2) (by rw [Int.toNat_of_nonneg nd]; exact y2)
       have gl : g.length <= 1000000 := by
        by_cases h0 : (numT d).toNat = 0
        ·rw [h0, Nat.gcd_zero_right, Int.toNat_of_nonneg nn] at g2
         rw [g2.inj x2]; omega
        ·have := z9p g2 y2 (by have := Nat.gcd_le_right (n := (numT d).toNat) (numT n).toNat (by omega); omega)
         omega
       have hc := zg2 (K := K) (x := g) (y := [1]) (by omega) (by simp) hK g2 (.one (by omega) (by omega))
       have hcv : ((if ((Nat.gcd (numT n).toNat (numT d).toNat : Nat) : Int) < 1 then (-1 : Int) else if ((Nat.gcd (numT n).toNat (numT d).toNat : Nat) : Int) = 1 then 0 else 1) != 0) = decide (Nat.gcd (numT n).toNat (numT d).toNat ≠ 1) := by
        exact znr _
       rw [e0, f0]
       simp only [bne_self_eq_false, Bool.false_eq_true, if_false, z0e, tu1a, ne_eq, not_true, or_self, x1, y1, g1, zga hK, hc, hcv, zb6]
       by_cases d0 : d = ⟨#[48]⟩
       ·simp [d0, z0e, tu1a]
       ·by_cases d1 : d = ⟨#[49]⟩
        ·simp [d1, z0e, tu1a]
        ·by_cases hG : Nat.gcd (numT n).toNat (numT d).toNat = 1 <;> simp [d0, d1, hG, z0e, tu1a]
      ·simp [e0, f0, z0e, tu1a]
     ·simp [e0, z0e, tu1a]
end Go.Am.Tryz
/- Plain law: the reference's parts of a rational number's text and its error. -/
namespace Go.Am.Tryz
open Go Go.Am Go.Proofs
variable {K : Nat}
theorem zes {l r : List Int} {i : Nat} (h : i < l.length) : (l ++ r).getD i 0 = l.getD i 0 := by
 rw [zAb, List.getElem?_append_left h, zAb]
theorem zj8 {l : List Int} {i : Nat} (h : i < l.length) : l.getD i 0 ∈ l := by
 rw [zAb, zAh h]; exact List.getElem_mem h
theorem zj9 {s n : zAd} {r : List Int} (h : z05 s = z05 n ++ r) : s.extract 0 n.size = n := by
 have hl := congrArg List.length h
 rw [List.length_append, z01, z01] at hl
 apply z4i
 rw [(z6d s (by omega) (by omega)).1, h, List.drop_zero, Nat.sub_zero, List.take_append_of_le_length (by rw [z01]; omega), List.take_of_length_le (by rw [z01]; omega)]
theorem zgc {s n d : zAd} (h : z05 s = z05 n ++ 47 :: z05 d) : s.extract (n.size + 1) s.size = d := by
 have hl := congrArg List.length h
 rw [List.length_append, List.length_cons, z01, z01, z01] at hl
 apply z4i
 rw [(z6d s (by omega) (by omega)).1, h, List.drop_append, z01]
 rw [List.drop_eq_nil_of_le (by rw [z01]; omega), show n.size + 1 - n.size = 1 by omega]
 simp only [List.nil_append, List.drop_succ_cons, List.drop_zero]
 rw [List.take_of_length_le (by rw [z01]; omega)]
theorem zl0 {s : zAd} {neg : Bool} {r : List Int} (h : z05 s = (if neg then [45] else []) ++ r) (hd : neg = false -> (z05 s).head? ≠ some 45) (K : Nat) :
  ∃ s1, (Option.bind ((if (decide ((s.size : Int) > 0)) = true then ((bidx s 0).bind fun x7 => some (x7 == 45)) else some false)) (tu1 fun x11 => ((if x11 = true then ((ssl s 1 (s.size : Int)).bind fun x26 => some (x26, true)) else some (s, false))))) = some (s1, neg) /\ z05 s1 = r /\ s1.size <= s.size := by
 have hn := z01 s
 cases neg with
 | true =>
  simp only [if_true, List.cons_append, List.nil_append] at h
  obtain ⟨t, t1, t2, t3⟩ := zby h
  have hb : bidx s 0 = some 45 := by rw [za9, h]; rfl
  have hs : 0 < s.size := by rw [h] at hn; simp at hn; omega
  refine ⟨t, ?_, t2, by rw [h] at hn; simp at hn; omega⟩
  rw [decide_eq_true (by omega), if_pos rfl, hb, z0e, z0e, tu1a]
  simp only [beq_self_eq_true, if_true, t1, z0e]
 | false =>
  simp only [Bool.false_eq_true, if_false, List.nil_append] at h
  refine ⟨s, ?_, h, Nat.le_refl _⟩
  by_cases h0 : 0 < s.size
  ·cases hb : z05 s with
   | nil => rw [hb] at hn; simp at hn; omega
   | cons c l =>
    have hc : c ≠ 45 := fun e => hd rfl (by rw [hb, e]; rfl)
    have hx : bidx s 0 = some c := by rw [za9, hb]; rfl
    have e : (c == 45) = false := by rw [beq_eq_false_iff_ne]; exact hc
    rw [decide_eq_true (by omega), if_pos rfl, hx, z0e, e, z0e, tu1a]
    rfl
  ·rw [decide_eq_false (by omega)]
   rfl
theorem zh1 {s n d : zAd} {many : Bool} (hs : s.size <= 1048576) (hK : 2000000000 < K) (h : z05 s = z05 n ++ (if many then 47 :: z05 d else [])) (hno : 47 ∉ z05 n) :
  ∃ r : Int × zAd × zAd, z1m K s K 1 s ⟨#[50]⟩ 0 = some r /\ r = (if many then (2, n, d) else (1, s, ⟨#[50]⟩)) := by
 have hn := z01 s
 have hln : n.size <= s.size := by
  have := congrArg List.length h
  rw [List.length_append, z01, z01] at this; omega
 have hlt : many = true -> n.size < s.size := fun hm => by
  subst hm
  have := congrArg List.length h
  rw [List.length_append, z01, z01] at this
  simp at this; omega
 refine zah (fun k (q : Int × zAd × zAd × Int) => z1m K s k q.1 q.2.1 q.2.2.1 q.2.2.2) (fun q => ∃ i : Nat, q.2.2.2 = i /\ i <= s.size /\ (q.1, q.2.1, q.2.2.1) = (if many = true /\ n.size < i then (2, n, d) else (1, s, ⟨#[50]⟩))) (fun q => (s.size - q.2.2.2 : Int).toNat) _ ?_ ((1, s, ⟨#[50]⟩, 0) : Int × zAd × zAd × Int) (by dsimp only; omega) ⟨0, rfl, by omega, by rw [if_neg (by omega)]⟩
 rintro k ⟨m, a, b, _⟩ ⟨i, rfl, h0, h1⟩
 dsimp only at h1 ⊢
 by_cases hi : i < s.size
 ·right
  have hb : bidx s i = some ((z05 s).getD i 0) := by rw [zoa (by omega) (by omega), Int.toNat_natCast]
  by_cases c : many = true /\ n.size < i
  ·rw [if_pos c] at h1
   simp only [Prod.mk.injEq] at h1
   obtain ⟨rfl, rfl, rfl⟩ := h1
   refine ⟨(2, a, b, (i : Int) + 1), ?_, by dsimp only; omega, i + 1, rfl, by omega, by rw [if_pos ⟨c.1, by omega⟩]⟩
   rw [z1m, if_pos (decide_eq_true (by omega)), hb, z0e, k64 (by omega) (by omega)]
   have e : ((2 : Int) == 1) = false := rfl
   rw [e]
   by_cases c2 : (z05 s).getD i 0 == 47 <;> simp [c2, z0e, tu1a, tu3a]
  ·rw [if_neg c] at h1
   simp only [Prod.mk.injEq] at h1
   obtain ⟨rfl, rfl, rfl⟩ := h1
   by_cases c3 : many = true /\ i = n.size
   ·obtain ⟨hm, rfl⟩ := c3
    subst hm
    simp only [if_true] at h
    have hch : (z05 a).getD n.size 0 = 47 := by
     rw [h, zAb, List.getElem?_append_right (by rw [z01]; omega), z01]
     simp
    refine ⟨(2, n, d, (n.size : Int) + 1), ?_, by dsimp only; omega, n.size + 1, rfl, by omega, by rw [if_pos ⟨rfl, by omega⟩]⟩
    have t0 : Int.toNat 0 = 0 := rfl
    have t1 : ((n.size : Int) + 1).toNat = n.size + 1 := by omega
    rw [z1m, if_pos (decide_eq_true (by omega)), hb, z0e, hch, k64 (by omega) (by omega), sslI (l := 0) (by omega) (by omega) (by omega), sslI (by omega) (by omega) (by omega), t0, t1, Int.toNat_natCast, Int.toNat_natCast, zj9 h, zgc h]
    rfl
   ·have hin : i < n.size := by
     cases many with
     | true => simp at c c3; omega
     | false =>
      simp only [Bool.false_eq_true, if_false, List.append_nil] at h
      have := congrArg List.length h
      rw [z01, z01] at this; omega
    have hch : (z05 a).getD i 0 ≠ 47 := fun e => by
     rw [h, zes (by rw [z01]; omega)] at e
     exact hno (e ▸ zj8 (by rw [z01]; omega))
    have e : ((z05 a).getD i 0 == 47) = false := by rw [beq_eq_false_iff_ne]; exact hch
    refine ⟨(1, a, ⟨#[50]⟩, (i : Int) + 1), ?_, by dsimp only; omega, i + 1, rfl, by omega, by rw [if_neg (by omega)]⟩
    rw [z1m, if_pos (decide_eq_true (by omega)), hb, z0e, e, k64 (by omega) (by omega)]
    rfl
 ·left
  have : i = s.size := by omega
  subst this
  refine ⟨(m, a, b), by rw [z1m, if_neg (by simp)], ?_⟩
  cases many with
  | true => have := hlt rfl; simp only [true_and, if_pos this] at h1; exact h1
  | false => simpa using h1
theorem zl1 {s n d : zAd} {neg many : Bool} (hs : s.size <= 1048576) (hK : 2000000000 < K) (h : Sp s neg n many d) : z5s K s = some (ratS neg n many d) := by
 have hsz := h.size
 obtain ⟨s1, h1, h2, h3⟩ := zl0 h.eq h.hd K
 obtain ⟨r, r1, rfl⟩ := zh1 (K := K) (s := s1) (n := n) (d := d) (many := many) (by omega) hK h2 h.no
 unfold z5s ratS
 -- the sign
 have hsplit : ∀ {α : Type} (F : zAd × Bool -> Option α), (Option.bind ((if (decide ((s.size : Int) > 0)) = true then ((bidx s 0).bind fun x7 => some (x7 == 45)) else some false)) (tu1 fun x11 => (Option.bind ((if x11 = true then ((ssl s 1 (s.size : Int)).bind fun x26 => some (x26, true)) else some (s, false))) F))) = F (s1, neg) := by
  intro α F
  have : ∀ (m : Option Bool) (f : Bool -> Option (zAd × Bool)), (Option.bind m (tu1 fun x => Option.bind (f x) F)) = Option.bind (Option.bind m (tu1 f)) F := by
   intro m f; cases m <;> rfl
  rw [this, h1]; rfl
 rw [hsplit, tu2a, r1, z0e, tu3a]
 cases many with
 | false =>
  have hs1 : s1 = n := z4i (by simpa using h2)
  subst hs1
  have e2 : natE ⟨#[50]⟩ = 0 := (zb5 _).2 ⟨⟨by decide, rfl, fun h => by simp [z05] at h⟩, by decide⟩
  simp only [Bool.false_eq_true, if_false, false_and, false_or, or_false]
  rw [zbg (by omega) (by omega), zbg (s := ⟨#[50]⟩) (by decide) (by show 1 < K; omega), z0e, z0e, e2]
  by_cases e5 : natE s1 = 5
  ·simp [e5, z0e, tu1a]
  ·have e5' : (natE s1 == 5) = false := by rw [beq_eq_false_iff_ne]; exact e5
   have e05 : ((0 : Int) == 5) = false := rfl
   rw [e5', e05]
   cases neg <;> by_cases e0 : natE s1 = 0 <;> by_cases en : s1 = ⟨#[48]⟩ <;> simp [e0, e5, en, zb6, z0e, tu1a, zns]
 | true =>
  have hd := hsz.2 rfl
  simp only [if_true, true_and]
  rw [zbg (by omega) (by omega), zbg (s := d) (by omega) (by omega), z0e, z0e]
  by_cases e5 : natE n = 5
  ·simp [e5, z0e, tu1a]
  ·have e5' : (natE n == 5) = false := by rw [beq_eq_false_iff_ne]; exact e5
   by_cases f5 : natE d = 5
   ·simp [e5, f5, z0e, tu1a]
   ·have f5' : (natE d == 5) = false := by rw [beq_eq_false_iff_ne]; exact f5
    have hneg : (if neg = true then some (sEq n (⟨#[48]⟩ : zAd)) else some false) = some (decide (neg = true /\ n = ⟨#[48]⟩)) := by
     cases neg <;> simp [zb6]
    rw [e5', f5', hneg]
    simp only [Bool.false_eq_true, if_false, z0e, tu1a, e5, f5, false_or]
    by_cases hz : neg = true /\ n = ⟨#[48]⟩
    ·rw [decide_eq_true hz, if_pos rfl, if_pos hz]
    ·rw [decide_eq_false hz, if_neg (by simp), if_neg hz]
     by_cases e0 : natE n = 0
     ·by_cases f0 : natE d = 0
      ·obtain ⟨cn, ln⟩ := (zb5 n).1 e0
       obtain ⟨cd, ld⟩ := (zb5 d).1 f0
       have nn := z42 cn.2.1
       have nd := z42 cd.2.1
       obtain ⟨g, g1, g2, g3⟩ := zln (K := K) (x := n) (y := d) (a := (numT n).toNat) (b := (numT d).toNat) (by omega) (by omega) hK cn cd (by omega) (by omega)
       have hg : (!(decide (g = ⟨#[49]⟩))) = decide (Nat.gcd (numT n).toNat (numT d).toNat ≠ 1) := by
        by_cases hG : Nat.gcd (numT n).toNat (numT d).toNat = 1
        ·have : g = ⟨#[49]⟩ := z9m g2 z9o (by rw [g3, z8v, hG]; rfl)
         simp [this, hG]
        ·have : g ≠ ⟨#[49]⟩ := fun e => hG (by rw [e, z8v] at g3; omega)
         simp [this, hG]
       have e22 : ((2 : Int) == 2) = true := rfl
       rw [e0, f0, e22]
       simp only [bne_self_eq_false, Bool.false_eq_true, if_false, z0e, tu1a, ne_eq, not_true, or_self, g1, hg, zb6, if_true]
       by_cases d0 : d = ⟨#[48]⟩
       ·simp [d0, z0e, tu1a]
       ·by_cases d1 : d = ⟨#[49]⟩
        ·simp [d1, z0e, tu1a]
        ·by_cases hG : Nat.gcd (numT n).toNat (numT d).toNat = 1 <;> simp [d0, d1, hG, z0e, tu1a]
      ·simp [e0, f0, z0e, tu1a]
     ·simp [e0, z0e, tu1a]
theorem zja {s n d : zAd} {many : Bool} {x1 : Int} (hs : s.size <= 1048576) (hK : 2000000000 < K) (h : z05 s = z05 n ++ (if many then 47 :: z05 d else [])) (hno : 47 ∉ z05 n) :
  ∃ r : (Bool × zAd × zAd) ⊕ Unit, z3w K x1 s K 0 = some r /\ r = (if many then .inl (x1 == 45, n, d) else .inr ()) := by
 have hn := z01 s
 have hln : n.size <= s.size := by
  have := congrArg List.length h
  rw [List.length_append, z01, z01] at this; omega
 refine zah (fun k (q : Int) => z3w K x1 s k q) (fun q => ∃ i : Nat, q = i /\ i <= n.size) (fun q => (s.size - q : Int).toNat) _ ?_ (0 : Int) (by omega) ⟨0, rfl, by omega⟩
 rintro k _ ⟨i, rfl, h0⟩
 by_cases hi : i < n.size
 ·right
  have hb : bidx s i = some ((z05 s).getD i 0) := by rw [zoa (by omega) (by omega), Int.toNat_natCast]
  have hch : (z05 s).getD i 0 ≠ 47 := fun e => by
   rw [h, zes (by rw [z01]; omega)] at e
   exact hno (e ▸ zj8 (by rw [z01]; omega))
  have e : ((z05 s).getD i 0 == 47) = false := by rw [beq_eq_false_iff_ne]; exact hch
  refine ⟨(i : Int) + 1, ?_, by omega, i + 1, rfl, by omega⟩
  rw [z3w, if_pos (decide_eq_true (by omega)), hb, z0e, e, k64 (by omega) (by omega)]
  rfl
 ·left
  have : i = n.size := by omega
  subst this
  cases many with
  | true =>
   simp only [if_true] at h
   have hlt : n.size < s.size := by
    have := congrArg List.length h
    rw [List.length_append, z01, z01] at this
    simp at this; omega
   have hb : bidx s n.size = some ((z05 s).getD n.size 0) := by rw [zoa (by omega) (by omega), Int.toNat_natCast]
   have hch : (z05 s).getD n.size 0 = 47 := by
    rw [h, zAb, List.getElem?_append_right (by rw [z01]; omega), z01]
    simp
   have t0 : Int.toNat 0 = 0 := rfl
   have t1 : ((n.size : Int) + 1).toNat = n.size + 1 := by omega
   refine ⟨_, ?_, rfl⟩
   rw [z3w, if_pos (decide_eq_true (by omega)), hb, z0e, hch, k64 (by omega) (by omega), sslI (l := 0) (by omega) (by omega) (by omega), sslI (by omega) (by omega) (by omega), t0, t1, Int.toNat_natCast, Int.toNat_natCast, zj9 h, zgc h]
   rfl
  | false =>
   simp only [Bool.false_eq_true, if_false, List.append_nil] at h
   have : n.size = s.size := by
    have := congrArg List.length h
    rw [z01, z01] at this; omega
   exact ⟨.inr (), by rw [z3w, if_neg (by simp; omega)], rfl⟩
theorem zl2 {s n d : zAd} {neg many : Bool} (hs : s.size <= 1048576) (h0 : s.size ≠ 0) (hK : 2000000000 < K) (h : Sp s neg n many d) : z6n K s = some (neg, n, if many then d else ⟨#[49]⟩) := by
 have hn := z01 s
 obtain ⟨c, l, hc⟩ : ∃ c l, z05 s = c :: l := by
  cases hb : z05 s with
  | nil => rw [hb] at hn; simp at hn; omega
  | cons c l => exact ⟨c, l, rfl⟩
 have hx : bidx s 0 = some c := by rw [za9, hc]; rfl
 have hneg : (c == 45) = neg := by
  cases neg with
  | true => have := h.eq; rw [hc] at this; simp at this; rw [this.1]; rfl
  | false => have := h.hd rfl; rw [hc] at this; simpa using this
 obtain ⟨s1, e1, e2, e3⟩ : ∃ s1, (if neg = true then ((ssl s 1 (s.size : Int)).bind fun x9 => some x9) else some s) = some s1 /\ z05 s1 = z05 n ++ (if many then 47 :: z05 d else []) /\ s1.size <= s.size := by
  cases neg with
  | true =>
   have he := h.eq
   simp only [if_true, List.cons_append, List.nil_append] at he
   obtain ⟨t, t1, t2, t3⟩ := zby he
   exact ⟨t, by rw [if_pos rfl, t1]; rfl, t2, by rw [he] at hn; rw [List.length_cons] at hn; omega⟩
  | false => exact ⟨s, rfl, by simpa using h.eq, Nat.le_refl _⟩
 obtain ⟨r, r1, rfl⟩ := zja (K := K) (s := s1) (n := n) (d := d) (many := many) (x1 := c) (by omega) hK e2 h.no
 unfold z6n
 rw [hx, z0e, hneg, e1, z0e, tu1a, r1]
 cases many with
 | true => simp only [if_true, zio, tu3a, hneg]
 | false =>
  have hs1 : s1 = n := z4i (by simpa using e2)
  subst hs1
  simp only [Bool.false_eq_true, if_false, zas, tu0a]
end Go.Am.Tryz
/- Plain law: the program's rational numbers and their texts. -/
namespace Go.Am.Tryz
open Go Go.Am Go.Proofs
variable {K : Nat}
def RTx (s : zAd) (x : Rat) : Prop := ∃ n d, CanT n /\ CanT d /\ numT n = (x.num.natAbs : Nat) /\ numT d = (x.den : Nat) /\ Sp s (decide (x.num < 0)) n (decide (x.den ≠ 1)) d
theorem RTx.inj {s t : zAd} {x : Rat} (h : RTx s x) (k : RTx t x) : s = t := by
 obtain ⟨n, d, h1, h2, h3, h4, h5⟩ := h
 obtain ⟨n', d', k1, k2, k3, k4, k5⟩ := k
 have e1 : n = n' := z9m h1 k1 (by rw [h3, k3])
 have e2 : d = d' := z9m h2 k2 (by rw [h4, k4])
 subst e1 e2
 exact z4i (by rw [h5.eq, k5.eq])
theorem RTx.val {s : zAd} {x y : Rat} (h : RTx s x) (k : RTx s y) : x = y := by
 obtain ⟨n, d, h1, h2, h3, h4, h5⟩ := h
 obtain ⟨n', d', k1, k2, k3, k4, k5⟩ := k
 obtain ⟨e1, rfl, e3, e4⟩ := h5.uniq k5
 have e5 : x.num = y.num := by
  rw [<- zd0 x, <- zd0 y, e1]
  congr 1
  omega
 have e6 : x.den = y.den := by
  by_cases c : x.den ≠ 1
  ·have := e4 (decide_eq_true c)
   subst this; omega
  ·have c2 : ¬ y.den ≠ 1 := fun c2 => by
    rw [decide_eq_false c, decide_eq_true c2] at e3; cases e3
   omega
 exact Rat.ext e5 e6
def QV (a : Q) (x : Rat) : Prop := a.neg = decide (x.num < 0) /\ NumN (x.num.natAbs : Nat) a.num /\ (NumN (x.den : Nat) a.den \/ (a.den = [] /\ x.den = 1))
theorem zot (N : Nat) : (10 : Int) ^ N <= 1000000000 ^ N := by
 have g5 : (1000000000 : Int) = 10 ^ 9 := by decide
 rw [g5, <- Int.pow_mul]
 exact z7u (by omega) (by omega)
theorem z87 (N : Nat) : ((10 ^ N : Nat) : Int) = (10 : Int) ^ N := by simp
theorem zlo {n N : Nat} {l : List Int} (h : NumN n l) (hn : n < 10 ^ N) : l.length <= N := by
 refine Nat.not_lt.1 fun hlt => ?_
 have g1 := zip (B := 1000000000) (by omega) h.1 (by rintro rfl; simp at hlt)
 rw [h.2] at g1
 have g2 : (1000000000 : Int) ^ N <= 1000000000 ^ (l.length - 1) := z7u (by omega) (by omega)
 have g3 := zot N
 have g4 : (n : Int) < (10 : Int) ^ N := by rw [<- z87]; omega
 omega
theorem zae {n N : Nat} {t : zAd} (h : CanT t) (ht : numT t = n) (hn : n < 10 ^ N) : t.size <= N + 1 := by
 refine Nat.not_lt.1 fun hlt => ?_
 have g1 := zcy h (by omega)
 have g2 : (10 : Int) ^ N <= 10 ^ (t.size - 1) := z7u (by omega) (by omega)
 have g4 : (n : Int) < (10 : Int) ^ N := by rw [<- z87]; omega
 omega
theorem zet {n N : Nat} {t : zAd} (h : (z05 t).all digT = true) (ht : numT t = n) (hN : t.size <= N) : n < 10 ^ N := by
 have g1 := zc3 h
 have g2 : (10 : Int) ^ t.size <= 10 ^ N := z7u (by omega) hN
 have g4 : (n : Int) < (10 : Int) ^ N := by omega
 rw [<- z87] at g4
 omega
theorem QV.lens {a : Q} {x : Rat} {N : Nat} (h : QV a x) (hx : Dl x N) : a.num.length <= N /\ a.den.length <= N := by
 refine ⟨zlo h.2.1 hx.1, ?_⟩
 rcases h.2.2 with h2 | ⟨h2, _⟩
 ·exact zlo h2 hx.2
 ·rw [h2]; exact Nat.zero_le _
theorem QV.zero : QV ⟨false, [], []⟩ 0 := ⟨rfl, .nil, .inr ⟨rfl, rfl⟩⟩
theorem QV.num0 {a : Q} {x : Rat} (h : QV a x) : a.num.length = 0 ↔ x = 0 := by
 rw [h.2.1.len0, <- Rat.num_eq_zero]; omega
theorem zc6 {a : Q} {x : Rat} (h : QV a x) (hK : 2000000000 < K) : ∃ w, z2c K a = some w /\ NumN (x.den : Nat) w /\ w.length <= max a.den.length 1 := by
 unfold z2c
 rcases h.2.2 with h2 | ⟨h2, h3⟩
 ·have hp := x.den_pos
  have h0 : a.den.length ≠ 0 := fun e => by have := h2.len0.1 e; omega
  refine ⟨a.den, ?_, h2, by omega⟩
  rw [if_neg (by rw [beq_iff_eq]; omega)]
 ·refine ⟨[1], ?_, by rw [h3]; exact .one (by omega) (by omega), by simp; omega⟩
  rw [h2, if_pos (by rfl), zga hK, z0e]
theorem zl3 {neg : Bool} {n d : Nat} {num den : List Int} (hd : d ≠ 0) (hn : NumN n num) (hdn : NumN d den) (l1 : num.length <= 1000000) (l2 : den.length <= 1000000) (hK : 2000000000 < K) :
  ∃ q, z79 K neg num den = some q /\ QV q (mkRat (sgn neg n) d) := by
 unfold z79
 by_cases h0 : num.length = 0
 ·have e := hn.len0.1 h0
  have e' : n = 0 := by omega
  subst e'
  refine ⟨⟨false, [], []⟩, by rw [if_pos (by rw [beq_iff_eq]; omega)], ?_⟩
  have : mkRat (sgn neg 0) d = 0 := by
   have : sgn neg 0 = 0 := by cases neg <;> rfl
   rw [this, Rat.zero_mkRat]
  rw [this]; exact QV.zero
 ·have hn0 : n ≠ 0 := fun e => h0 (hn.len0.2 (by omega))
  obtain ⟨g, g1, g2⟩ := zlm (K := K) (by omega) (by omega) hK hn hdn
  have gp : 0 < Nat.gcd n d := Nat.gcd_pos_of_pos_left d (by omega)
  have gl := z9p g2 hn (by have := Nat.gcd_le_left (m := n) d (by omega); omega)
  have hc := zg2 (K := K) (x := g) (y := [1]) (by omega) (by simp) hK g2 (.one (by omega) (by omega))
  rw [if_neg (by rw [beq_iff_eq]; omega), g1, z0e, zga hK, z0e, hc, z0e]
  have m1 := zkx neg n d hd
  have m2 := zky neg n d hd
  have m3 := zmh neg n d hd hn0
  by_cases h1 : Nat.gcd n d = 1
  ·refine ⟨⟨neg, num, den⟩, ?_, m3.symm, ?_, .inl ?_⟩
   ·rw [h1]; rfl
   ·rw [m1, h1, Nat.div_one]; exact hn
   ·rw [m2, h1, Nat.div_one]; exact hdn
  ·obtain ⟨q1, r1, a1, a2, a3, a4, a5⟩ := zg6 (K := K) (x := num) (y := g) (by omega) (by omega) hK hn g2 (by omega)
   obtain ⟨q2, r2, b1, b2, b3, b4, b5⟩ := zg6 (K := K) (x := den) (y := g) (by omega) (by omega) hK hdn g2 (by omega)
   refine ⟨⟨neg, q1, q2⟩, ?_, m3.symm, ?_, .inl ?_⟩
   ·have e : decide ((if ((Nat.gcd n d : Nat) : Int) < 1 then (-1 : Int) else if ((Nat.gcd n d : Nat) : Int) = 1 then 0 else 1) > 0) = true := by
     rw [if_neg (by omega), if_neg (by omega)]; rfl
    rw [e, if_pos rfl, a1, z0e, b1, z0e, z0e, tu2a]
   ·rw [m1]
    have e : ((n : Int) / ((Nat.gcd n d : Nat) : Int)) = ((n / Nat.gcd n d : Nat) : Int) := by simp
    rw [e] at a2; exact a2
   ·rw [m2]
    have e : ((d : Int) / ((Nat.gcd n d : Nat) : Int)) = ((d / Nat.gcd n d : Nat) : Int) := by simp
    rw [e] at b2; exact b2
theorem zlp (p : Bool) (X Y : Nat) : sgn p (X + Y) = sgn p X + sgn p Y := by unfold sgn; cases p <;> simp <;> omega
theorem zgd (p q : Bool) (h : p ≠ q) {X Y : Nat} (hXY : Y <= X) : sgn p (X - Y) = sgn p X + sgn q Y := by
 unfold sgn; cases p <;> cases q <;> simp at h ⊢ <;> omega
theorem zlq (p : Bool) (a b : Nat) : sgn p (a * b) = sgn p a * b := by unfold sgn; cases p <;> simp [Int.neg_mul]
theorem zjb (x y : Rat) : x + y = mkRat (sgn (decide (x.num < 0)) (x.num.natAbs * y.den) + sgn (decide (y.num < 0)) (y.num.natAbs * x.den)) (x.den * y.den) := by
 rw [zlq, zlq, zd0, zd0, Rat.add_def']
theorem znt {a b : Q} {x y : Rat} {N : Nat} (ha : QV a x) (hb : QV b y) (dx : Dl x N) (dy : Dl y N) (hN : N <= 300000) (hK : 2000000000 < K) : ∃ q, z6v K a b = some q /\ QV q (x + y) := by
 have la := ha.lens dx
 have lb := hb.lens dy
 have hN1 := dx.pos
 unfold z6v
 by_cases hx : x = 0
 ·subst hx
  refine ⟨b, ?_, by rw [Rat.zero_add]; exact hb⟩
  rw [if_pos (by rw [beq_iff_eq]; have := ha.num0.2 rfl; omega)]
 ·have hx0 : a.num.length ≠ 0 := fun e => hx (ha.num0.1 e)
  rw [if_neg (by rw [beq_iff_eq]; omega)]
  by_cases hy : y = 0
  ·subst hy
   refine ⟨a, ?_, by rw [Rat.add_zero]; exact ha⟩
   rw [if_pos (by rw [beq_iff_eq]; have := hb.num0.2 rfl; omega)]
  ·have hy0 : b.num.length ≠ 0 := fun e => hy (hb.num0.1 e)
   rw [if_neg (by rw [beq_iff_eq]; omega)]
   obtain ⟨wa, wa1, wa2, wa3⟩ := zc6 (K := K) ha hK
   obtain ⟨wb, wb1, wb2, wb3⟩ := zc6 (K := K) hb hK
   obtain ⟨X, X1, X2, X3⟩ := zc0 (K := K) (x := a.num) (y := wb) (by omega) hK ha.2.1 wb2
   obtain ⟨Y, Y1, Y2, Y3⟩ := zc0 (K := K) (x := b.num) (y := wa) (by omega) hK hb.2.1 wa2
   obtain ⟨D, D1, D2, D3⟩ := zc0 (K := K) (x := wa) (y := wb) (by omega) hK wa2 wb2
   rw [wa1, wb1, z0e, X1, z0e, z0e, Y1, z0e, z0e, z0e, D1, z0e]
   rw [<- Int.natCast_mul] at X2 Y2 D2
   have hD : x.den * y.den ≠ 0 := Nat.mul_ne_zero x.den_nz y.den_nz
   rw [zjb, <- ha.1, <- hb.1]
   generalize x.num.natAbs * y.den = m at X2 ⊢
   generalize y.num.natAbs * x.den = n at Y2 ⊢
   by_cases hs : a.neg = b.neg
   ·obtain ⟨Z, Z1, Z2, Z3⟩ := znf (K := K) (x := X) (y := Y) (by omega) (by omega) hK X2 Y2
    rw [<- Int.natCast_add] at Z2
    obtain ⟨q, q1, q2⟩ := zl3 (K := K) (neg := a.neg) hD Z2 D2 (by omega) (by omega) hK
    refine ⟨q, ?_, by rw [<- hs, <- zlp]; exact q2⟩
    rw [if_pos (by simpa using hs), Z1, z0e, q1, z0e]
   ·have hc := zg2 (K := K) (x := X) (y := Y) (by omega) (by omega) hK X2 Y2
    rw [if_neg (by simpa using hs), hc, z0e]
    by_cases hle : n <= m
    ·obtain ⟨Z, Z1, Z2, Z3⟩ := zli (K := K) (x := X) (y := Y) (by omega) hK X2 Y2 (by omega)
     rw [<- Int.natCast_sub hle] at Z2
     obtain ⟨q, q1, q2⟩ := zl3 (K := K) (neg := a.neg) hD Z2 D2 (by omega) (by omega) hK
     refine ⟨q, ?_, by rw [<- zgd _ _ hs hle]; exact q2⟩
     rw [if_pos (decide_eq_true (by rw [if_neg (by omega)]; split <;> omega)), Z1, z0e, q1, z0e]
    ·obtain ⟨Z, Z1, Z2, Z3⟩ := zli (K := K) (x := Y) (y := X) (by omega) hK Y2 X2 (by omega)
     rw [<- Int.natCast_sub (show m <= n by omega)] at Z2
     obtain ⟨q, q1, q2⟩ := zl3 (K := K) (neg := b.neg) hD Z2 D2 (by omega) (by omega) hK
     refine ⟨q, ?_, by rw [Int.add_comm, <- zgd _ _ (fun e => hs e.symm) (by omega)]; exact q2⟩
     have e : decide ((if ((m : Nat) : Int) < (n : Nat) then (-1 : Int) else if ((m : Nat) : Int) = (n : Nat) then 0 else 1) >= 0) = false := by
      rw [if_pos (by omega)]; rfl
     rw [e]
     simp only [Bool.false_eq_true, if_false]
     rw [Z1, z0e, q1, z0e]
theorem znu {a b : Q} {x y : Rat} {N : Nat} (ha : QV a x) (hb : QV b y) (dx : Dl x N) (dy : Dl y N) (hN : N <= 300000) (hK : 2000000000 < K) : ∃ q, z6t K a b = some q /\ QV q (x * y) := by
 have la := ha.lens dx
 have lb := hb.lens dy
 have hN1 := dx.pos
 unfold z6t
 by_cases hz : x = 0 \/ y = 0
 ·refine ⟨⟨false, [], []⟩, ?_, ?_⟩
  ·rcases hz with rfl | rfl
   ·have := ha.num0.2 rfl
    rw [if_pos (by rw [beq_iff_eq]; omega)]
    rfl
   ·have := hb.num0.2 rfl
    have e : ((b.num.length : Int) == 0) = true := by rw [beq_iff_eq]; omega
    rw [e]
    by_cases c : ((a.num.length : Int) == 0) = true
    ·rw [if_pos c]; rfl
    ·rw [if_neg c]; rfl
  ·have : x * y = 0 := by rcases hz with rfl | rfl <;> simp
   rw [this]; exact QV.zero
 ·have hx0 : a.num.length ≠ 0 := fun e => hz (.inl (ha.num0.1 e))
  have hy0 : b.num.length ≠ 0 := fun e => hz (.inr (hb.num0.1 e))
  have e1 : ((a.num.length : Int) == 0) = false := by rw [beq_eq_false_iff_ne]; omega
  have e2 : ((b.num.length : Int) == 0) = false := by rw [beq_eq_false_iff_ne]; omega
  obtain ⟨wa, wa1, wa2, wa3⟩ := zc6 (K := K) ha hK
  obtain ⟨wb, wb1, wb2, wb3⟩ := zc6 (K := K) hb hK
  obtain ⟨X, X1, X2, X3⟩ := zc0 (K := K) (x := a.num) (y := b.num) (by omega) hK ha.2.1 hb.2.1
  obtain ⟨D, D1, D2, D3⟩ := zc0 (K := K) (x := wa) (y := wb) (by omega) hK wa2 wb2
  rw [<- Int.natCast_mul] at X2 D2
  have hD : x.den * y.den ≠ 0 := Nat.mul_ne_zero x.den_nz y.den_nz
  obtain ⟨q, q1, q2⟩ := zl3 (K := K) (neg := !(a.neg == b.neg)) hD X2 D2 (by omega) (by omega) hK
  refine ⟨q, ?_, ?_⟩
  ·rw [e1, e2]
   simp only [Bool.false_eq_true, if_false, z0e, tu1a, X1, wa1, wb1, D1, q1]
  ·rw [zj7, <- ha.1, <- hb.1]
   exact q2
end Go.Am.Tryz
/- Plain law: texts in and out of the program's rational numbers; the reference's sums and products. -/
namespace Go.Am.Tryz
open Go Go.Am Go.Proofs
variable {K : Nat}
theorem zjc {d : zAd} (h : CanT d) : d = ⟨#[49]⟩ ↔ numT d = 1 := ⟨fun e => by rw [e, z8v], fun e => z9m h z9o (by rw [e, z8v])⟩
theorem zeu (N : Nat) (h : N ≠ 0) : 1 < 10 ^ N := Nat.one_lt_pow h (by omega)
theorem zpo {s n d : zAd} {neg many : Bool} (h : Sp s neg n many d) (h0 : ratS neg n many d = 0) : ∃ x, RTx s x /\ Dl x 2000 := by
 unfold ratS at h0
 by_cases c1 : natE n = 5 \/ (many = true /\ natE d = 5) \/ (neg = true /\ n = ⟨#[48]⟩)
 ·rw [if_pos c1] at h0; cases h0
 ·rw [if_neg c1] at h0
  by_cases c2 : natE n ≠ 0 \/ (many = true /\ natE d ≠ 0)
  ·rw [if_pos c2] at h0; cases h0
  ·rw [if_neg c2] at h0
   by_cases c3 : many = true /\ (d = ⟨#[48]⟩ \/ d = ⟨#[49]⟩ \/ Nat.gcd (numT n).toNat (numT d).toNat ≠ 1)
   ·rw [if_pos c3] at h0; cases h0
   ·have en : natE n = 0 := by
     by_cases e : natE n = 0
     ·exact e
     ·exact absurd (.inl e) c2
    obtain ⟨cn, ln⟩ := (zb5 n).1 en
    have nn := z42 cn.2.1
    have hNN : numT n = ((numT n).toNat : Int) := by omega
    have hneg : neg = true -> (numT n).toNat ≠ 0 := fun e hz => c1 (.inr (.inr ⟨e, (zdp cn).1 (by omega)⟩))
    have lN := zet (N := 2000) cn.2.1 hNN ln
    -- the number whose parts these are
    have key : ∀ (D : Nat) (d' : zAd), CanT d' -> numT d' = D -> D ≠ 0 -> Nat.gcd (numT n).toNat D = 1 -> D < 10 ^ 2000 -> (many = true ↔ D ≠ 1) -> Sp s neg n many d' -> ∃ x, RTx s x /\ Dl x 2000 := by
     intro D d' cd hD hD0 hg hD2 hm hsp
     have m1 := zkx neg (numT n).toNat D hD0
     have m2 := zky neg (numT n).toNat D hD0
     rw [hg, Nat.div_one] at m1 m2
     have m3 : decide ((mkRat (sgn neg (numT n).toNat) D).num < 0) = neg := by
      by_cases hz : (numT n).toNat = 0
      ·have : neg = false := by
        cases hne : neg with
        | false => rfl
        | true => exact absurd hz (hneg hne)
       subst this
       rw [hz]
       have : mkRat (sgn false 0) D = 0 := by have : sgn false 0 = 0 := rfl; rw [this, Rat.zero_mkRat]
       rw [this]; rfl
      ·exact zmh neg _ D hD0 hz
     refine ⟨mkRat (sgn neg (numT n).toNat) D, ⟨n, d', cn, cd, by rw [m1]; exact hNN, by rw [m2]; exact hD, ?_⟩, Dl.mk _ hD0 lN hD2⟩
     rw [m3, m2]
     have : decide (D ≠ 1) = many := by
      cases hmm : many with
      | false => exact decide_eq_false (fun h => by rw [hmm] at hm; have := hm.2 h; cases this)
      | true => exact decide_eq_true (hm.1 hmm)
     rw [this]
     exact hsp
    cases many with
    | false =>
     refine key 1 ⟨#[49]⟩ z9o z8v (by omega) (Nat.gcd_one_right _) (zeu 2000 (by omega)) (by simp) ⟨by simpa using h.eq, h.no, h.hd⟩
    | true =>
     have ed : natE d = 0 := by
      by_cases e : natE d = 0
      ·exact e
      ·exact absurd (.inr ⟨rfl, e⟩) c2
     obtain ⟨cd, ld⟩ := (zb5 d).1 ed
     have nd := z42 cd.2.1
     have hDD : numT d = ((numT d).toNat : Int) := by omega
     have d0 : d ≠ ⟨#[48]⟩ := fun e => c3 ⟨rfl, .inl e⟩
     have d1 : d ≠ ⟨#[49]⟩ := fun e => c3 ⟨rfl, .inr (.inl e)⟩
     have hg : Nat.gcd (numT n).toNat (numT d).toNat = 1 := by
      by_cases e : Nat.gcd (numT n).toNat (numT d).toNat = 1
      ·exact e
      ·exact absurd ⟨rfl, .inr (.inr e)⟩ c3
     exact key (numT d).toNat d cd hDD (fun e => d0 ((zdp cd).1 (by omega))) hg (zet (N := 2000) cd.2.1 hDD ld) (by
      simp only [true_iff]
      exact fun e => d1 ((zjc cd).2 (by omega))) h
theorem RTx.size {s : zAd} {x : Rat} {N : Nat} (h : RTx s x) (dx : Dl x N) : s.size <= 2 * N + 4 := by
 obtain ⟨n, d, h1, h2, h3, h4, h5⟩ := h
 have l1 := zae h1 h3 dx.1
 have l2 := zae h2 h4 dx.2
 have := congrArg List.length h5.eq
 rw [z01, List.length_append, List.length_append, z01] at this
 have e1 : (if decide (x.num < 0) = true then ([45] : List Int) else []).length <= 1 := by split <;> simp
 have e2 : (if decide (x.den ≠ 1) = true then (47 :: z05 d : List Int) else []).length <= d.size + 1 := by
  split
  ·rw [List.length_cons, z01]; omega
  ·simp
 omega
theorem RTx.dl {s : zAd} {x : Rat} {N : Nat} (h : RTx s x) (hs : s.size <= N) : Dl x (N + 1) := by
 obtain ⟨n, d, h1, h2, h3, h4, h5⟩ := h
 have hsz := h5.size
 refine ⟨Nat.lt_of_lt_of_le (zet h1.2.1 h3 (Nat.le_trans hsz.1 hs)) (Nat.pow_le_pow_right (by omega) (by omega)), ?_⟩
 by_cases c : x.den ≠ 1
 ·exact Nat.lt_of_lt_of_le (zet h2.2.1 h4 (Nat.le_trans (hsz.2 (decide_eq_true c)) hs)) (Nat.pow_le_pow_right (by omega) (by omega))
 ·have : x.den = 1 := by omega
  rw [this]
  exact Nat.one_lt_pow (by omega) (by omega)
theorem RTx.pos {s : zAd} {x : Rat} (h : RTx s x) : s.size ≠ 0 := by
 obtain ⟨n, d, h1, h2, h3, h4, h5⟩ := h
 have := h5.size.1
 have := h1.1
 omega
theorem zou {s : zAd} {x : Rat} (h : RTx s x) (hs : s.size <= 1048576) (hK : 2000000000 < K) : ∃ q, zao K s = some q /\ QV q x := by
 obtain ⟨n, d, h1, h2, h3, h4, h5⟩ := h
 obtain ⟨s1, neg', n', d', many', c1, c2, c3, c4, c5⟩ := zc5 K hs
 obtain ⟨rfl, rfl, rfl, hd⟩ := h5.uniq c3
 have hsz := h5.size
 obtain ⟨a, a1, a2, a3⟩ := zau (K := K) (s := n) (by omega) hK h1.2.1
 rw [h3] at a2
 unfold zao
 rw [c1, z0e, c2, z0e]
 dsimp only
 rw [a1, z0e, zga hK, z0e]
 by_cases c : x.den ≠ 1
 ·have := hd (decide_eq_true c)
  subst this
  obtain ⟨b, b1, b2, b3⟩ := zau (K := K) (s := d) (by have := hsz.2 (decide_eq_true c); omega) hK h2.2.1
  rw [h4] at b2
  exact ⟨⟨decide (x.num < 0), a, b⟩, by rw [decide_eq_true c, if_pos rfl, b1, z0e, z0e, tu1a], rfl, a2, .inl b2⟩
 ·have e : x.den = 1 := by omega
  exact ⟨⟨decide (x.num < 0), a, [1]⟩, by rw [decide_eq_false c]; rfl, rfl, a2, .inl (by rw [e]; exact .one (by omega) (by omega))⟩
theorem zjd {n : zAd} (h : (z05 n).all digT = true) : (47 : Int) ∉ z05 n := fun hm => by
 have := digT_iff.1 (List.all_eq_true.1 h _ hm); omega
theorem zmi {s n d : zAd} {x : Rat} (h1 : CanT n) (h2 : CanT d) (h3 : numT n = (x.num.natAbs : Nat)) (h4 : numT d = (x.den : Nat)) (h : z05 s = (if decide (x.num < 0) then [45] else []) ++ (z05 n ++ (if decide (x.den ≠ 1) then 47 :: z05 d else []))) : RTx s x := by
 refine ⟨n, d, h1, h2, h3, h4, h, zjd h1.2.1, fun hn => ?_⟩
 rw [h, hn]
 have hl := z01 n
 cases hb : z05 n with
 | nil => rw [hb] at hl; simp at hl; exact absurd hl.symm h1.1
 | cons c l =>
  have := digT_iff.1 (List.all_eq_true.1 h1.2.1 c (by rw [hb]; simp))
  simp only [Bool.false_eq_true, if_false, List.nil_append, List.cons_append, List.head?_cons]
  intro e; cases e; omega
theorem znv {a : Q} {x : Rat} {N : Nat} (ha : QV a x) (dx : Dl x N) (hN : N <= 900000) (hK : 2000000000 < K) : ∃ s, z6w K a = some s /\ RTx s x := by
 have la := ha.lens dx
 have hN1 := dx.pos
 unfold z6w
 by_cases hx : x = 0
 ·subst hx
  have := ha.num0.2 rfl
  refine ⟨⟨#[48]⟩, by rw [if_pos (by rw [beq_iff_eq]; omega)], zmi zac z9o z6o z8v rfl⟩
 ·have hx0 : a.num.length ≠ 0 := fun e => hx (ha.num0.1 e)
  obtain ⟨w, w1, w2, w3⟩ := zc6 (K := K) ha hK
  obtain ⟨n, n1, n2, n3, n4⟩ := ziu (K := K) (x := a.num) (by omega) hK ha.2.1
  obtain ⟨d, d1, d2, d3, d4⟩ := ziu (K := K) (x := w) (by omega) hK w2
  rw [if_neg (by rw [beq_iff_eq]; omega), n1, z0e, ha.1]
  have hm : sEq d ⟨#[49]⟩ = decide (x.den = 1) := by
   rw [zb6]
   congr 1
   rw [zjc d2, d3, eq_iff_iff]; omega
  have e45 : ((⟨#[45]⟩ : zAd)).size = 1 := rfl
  have e47 : ((⟨#[47]⟩ : zAd)).size = 1 := rfl
  have b45 : z05 (⟨#[45]⟩ : zAd) = [45] := rfl
  have b47 : z05 (⟨#[47]⟩ : zAd) = [47] := rfl
  obtain ⟨m, m1, m2, m3⟩ : ∃ m, (if decide (x.num < 0) = true then (if ((⟨#[45]⟩ : zAd)).size + (n).size <= 4611686018427387904 then some ((⟨#[45]⟩ : zAd) ++ n) else none) else some n) = some m /\ z05 m = (if decide (x.num < 0) = true then [45] else []) ++ z05 n /\ m.size <= n.size + 1 := by
   by_cases c : x.num < 0
   ·refine ⟨(⟨#[45]⟩ : zAd) ++ n, ?_, ?_, ?_⟩
    ·rw [decide_eq_true c, if_pos rfl, if_pos (by omega)]
    ·rw [decide_eq_true c, z0x, b45]; rfl
    ·rw [<- z01, z0x, b45, List.length_append, z01]; simp; omega
   ·exact ⟨n, by rw [decide_eq_false c]; rfl, by rw [decide_eq_false c]; rfl, by omega⟩
  rw [m1, z0e, tu1a, w1, z0e, d1, z0e, hm]
  by_cases c : x.den = 1
  ·refine ⟨m, by rw [decide_eq_true c]; rfl, zmi n2 d2 n3 d3 ?_⟩
   have hdd : decide (x.den ≠ 1) = false := decide_eq_false (fun h => h c)
   rw [m2, hdd]; simp
  ·have hsd : ((⟨#[47]⟩ : zAd) ++ d).size = d.size + 1 := by rw [<- z01, z0x, b47, List.length_append, z01]; simp; omega
   refine ⟨m ++ ((⟨#[47]⟩ : zAd) ++ d), ?_, zmi n2 d2 n3 d3 ?_⟩
   ·rw [decide_eq_false c]
    simp only [Bool.not_false, if_true]
    rw [if_pos (by omega), if_pos (by omega), z0e, tu1a]
   ·have hdd : decide (x.den ≠ 1) = true := decide_eq_true c
    rw [z0x, z0x, m2, b47, hdd]; simp
theorem zge {l : List Int} {n : Nat} (hl : l.length <= 1000000) (hK : 2000000000 < K) (h : NumN n l) : ∃ k : Nat, z3r K l = some (k : Int) /\ (k <= 2000 ↔ n < 10 ^ 2000) := by
 obtain ⟨t, t1, t2, t3, t4⟩ := ziu hl hK h
 refine ⟨t.size, by unfold z3r; rw [t1, z0e], fun h => zet (N := 2000) t2.2.1 t3 h, fun h => ?_⟩
 refine Nat.not_lt.1 fun hlt => ?_
 have g1 := zcy t2 (by omega)
 rw [t3] at g1
 have g2 : (10 : Int) ^ 2000 <= 10 ^ (t.size - 1) := z7u (by omega) (by omega)
 have g3 := z87 2000
 have g4 : (n : Int) < ((10 ^ 2000 : Nat) : Int) := Int.ofNat_lt.2 h
 rw [g3] at g4
 exact absurd (Int.lt_of_lt_of_le g4 (Int.le_trans g2 g1)) (Int.lt_irrefl _)
theorem znw {a : Q} {x : Rat} {N : Nat} (ha : QV a x) (dx : Dl x N) (hN : N <= 900000) (hK : 2000000000 < K) : (Dl x 2000 -> z73 K a = some 0) /\ (¬ Dl x 2000 -> z73 K a = some 2) := by
 have la := ha.lens dx
 obtain ⟨k, k1, k2⟩ := zge (K := K) (l := a.num) (by omega) hK ha.2.1
 obtain ⟨m, m1, m2⟩ : ∃ m : Nat, z3r K a.den = some (m : Int) /\ (m <= 2000 ↔ x.den < 10 ^ 2000) := by
  rcases ha.2.2 with h | ⟨h, h2⟩
  ·exact zge (by omega) hK h
  ·refine ⟨1, ?_, ?_⟩
   ·rw [h]; rfl
   ·rw [h2]; exact ⟨fun _ => zeu 2000 (by omega), fun _ => by decide⟩
 unfold z73
 rw [k1, m1]
 by_cases c1 : k <= 2000
 ·by_cases c2 : m <= 2000
  ·have hd : Dl x 2000 := ⟨k2.1 c1, m2.1 c2⟩
   refine ⟨fun _ => ?_, fun h => absurd hd h⟩
   have e1 : decide ((k : Int) > 2000) = false := decide_eq_false (by omega)
   have e2 : decide ((m : Int) > 2000) = false := decide_eq_false (by omega)
   rw [z0e, e1]
   simp only [Bool.false_eq_true, if_false, z0e, e2, tu1a]
  ·refine ⟨fun h => absurd (m2.2 h.2) c2, fun _ => ?_⟩
   have e1 : decide ((k : Int) > 2000) = false := decide_eq_false (by omega)
   have e2 : decide ((m : Int) > 2000) = true := decide_eq_true (by omega)
   rw [z0e, e1]
   simp only [Bool.false_eq_true, if_false, z0e, e2, tu1a, if_true]
 ·refine ⟨fun h => absurd (k2.2 h.1) c1, fun _ => ?_⟩
  have e1 : decide ((k : Int) > 2000) = true := decide_eq_true (by omega)
  rw [z0e, e1]
  simp only [z0e, tu1a, if_true]
theorem zdr {neg : Bool} {n d : zAd} {N D : Nat} (hD : D ≠ 0) (cn : CanT n) (cd : CanT d) (hn : numT n = N) (hd : numT d = D) (ln : n.size <= 400000) (ld : d.size <= 400000) (hK : 2000000000 < K) :
  ∃ s, z84 K neg n d = some s /\ RTx s (mkRat (sgn neg N) D) := by
 unfold z84
 by_cases h0 : N = 0
 ·subst h0
  have : n = ⟨#[48]⟩ := (zdp cn).1 (by omega)
  subst this
  have e : mkRat (sgn neg 0) D = 0 := by
   have : sgn neg 0 = 0 := by cases neg <;> rfl
   rw [this, Rat.zero_mkRat]
  refine ⟨⟨#[48]⟩, by rw [zdq]; rfl, ?_⟩
  rw [e]
  exact zmi zac z9o z6o z8v rfl
 ·have e0 : sEq n ⟨#[48]⟩ = false := zor (fun e => by rw [e, z6o] at hn; omega)
  obtain ⟨g, g1, g2, g3⟩ := zln (K := K) (x := n) (y := d) ln ld hK cn cd hn hd
  have gp : 0 < Nat.gcd N D := Nat.gcd_pos_of_pos_left D (by omega)
  have gl := z4j cn g2 (by rw [g3, hn]; have := Nat.gcd_le_left (m := N) D (by omega); omega)
  obtain ⟨q1, r1, a1, a2, a3, a4, a5⟩ := zg8 (K := K) (a := n) (b := g) ln (by omega) hK cn g2 (by omega)
  obtain ⟨q2, r2, b1, b2, b3, b4, b5⟩ := zg8 (K := K) (a := d) (b := g) ld (by omega) hK cd g2 (by omega)
  rw [hn, g3] at a4
  rw [hd, g3] at b4
  have m1 := zkx neg N D hD
  have m2 := zky neg N D hD
  have m3 := zmh neg N D hD h0
  have f1 : numT q1 = ((mkRat (sgn neg N) D).num.natAbs : Nat) := by rw [m1, a4]; simp
  have f2 : numT q2 = ((mkRat (sgn neg N) D).den : Nat) := by rw [m2, b4]; simp
  generalize mkRat (sgn neg N) D = x at *
  rw [e0]
  simp only [Bool.false_eq_true, if_false]
  rw [g1, z0e, a1, z0e, b1, z0e]
  have hm : sEq q2 ⟨#[49]⟩ = decide (x.den = 1) := by
   rw [zb6]
   congr 1
   rw [zjc b2, f2, eq_iff_iff]; omega
  have l1 := z4j cn a2 (by rw [a4, hn]; exact Int.ediv_le_self _ (by omega))
  have l2 := z4j cd b2 (by rw [b4, hd]; exact Int.ediv_le_self _ (by omega))
  have e45 : ((⟨#[45]⟩ : zAd)).size = 1 := rfl
  have e47 : ((⟨#[47]⟩ : zAd)).size = 1 := rfl
  have b45 : z05 (⟨#[45]⟩ : zAd) = [45] := rfl
  have b47 : z05 (⟨#[47]⟩ : zAd) = [47] := rfl
  obtain ⟨m, k1, k2, k3⟩ : ∃ m, (if neg = true then (if ((⟨#[45]⟩ : zAd)).size + (q1).size <= 4611686018427387904 then some ((⟨#[45]⟩ : zAd) ++ q1) else none) else some q1) = some m /\ z05 m = (if decide (x.num < 0) = true then [45] else []) ++ z05 q1 /\ m.size <= q1.size + 1 := by
   rw [m3]
   cases neg with
   | true =>
    refine ⟨(⟨#[45]⟩ : zAd) ++ q1, ?_, ?_, ?_⟩
    ·rw [if_pos rfl, if_pos (by omega)]
    ·rw [z0x, b45]; rfl
    ·rw [<- z01, z0x, b45, List.length_append, z01]; simp; omega
   | false => exact ⟨q1, rfl, rfl, by omega⟩
  dsimp only
  rw [k1, z0e, tu1a, hm]
  by_cases c : x.den = 1
  ·refine ⟨m, by rw [decide_eq_true c]; rfl, zmi a2 b2 f1 f2 ?_⟩
   have hdd : decide (x.den ≠ 1) = false := decide_eq_false (fun h => h c)
   rw [k2, hdd]; simp
  ·have hsm : (m ++ (⟨#[47]⟩ : zAd)).size = m.size + 1 := by rw [<- z01, z0x, b47, List.length_append, z01]; simp
   refine ⟨(m ++ (⟨#[47]⟩ : zAd)) ++ q2, ?_, zmi a2 b2 f1 f2 ?_⟩
   ·rw [decide_eq_false c]
    simp only [Bool.false_eq_true, if_false]
    rw [if_pos (by omega), if_pos (by omega)]
   ·have hdd : decide (x.den ≠ 1) = true := decide_eq_true c
    rw [z0x, z0x, k2, b47, hdd]; simp
theorem zbh {a : zAd} {x : Rat} {N : Nat} (h : RTx a x) (dx : Dl x N) (hN : N <= 100000) (hK : 2000000000 < K) : ∃ n d, z6n K a = some (decide (x.num < 0), n, d) /\ CanT n /\ CanT d /\ numT n = (x.num.natAbs : Nat) /\ numT d = (x.den : Nat) /\ n.size <= N + 1 /\ d.size <= N + 1 := by
 have hs := h.size dx
 have h0 := h.pos
 obtain ⟨n, d, h1, h2, h3, h4, h5⟩ := h
 have hp := zl2 (K := K) (by omega) h0 hK h5
 have l1 := zae h1 h3 dx.1
 have l2 := zae h2 h4 dx.2
 by_cases c : x.den ≠ 1
 ·rw [decide_eq_true c] at hp
  exact ⟨n, d, hp, h1, h2, h3, h4, l1, l2⟩
 ·rw [decide_eq_false c] at hp
  have e : x.den = 1 := by omega
  exact ⟨n, ⟨#[49]⟩, hp, h1, z9o, h3, by rw [e]; rfl, l1, by show 1 <= N + 1; omega⟩
theorem znx {a b : zAd} {x y : Rat} {N : Nat} (ha : RTx a x) (hb : RTx b y) (dx : Dl x N) (dy : Dl y N) (hN : N <= 100000) (hK : 2000000000 < K) : ∃ c, z8s K a b = some c /\ RTx c (x + y) := by
 obtain ⟨n, d, p1, p2, p3, p4, p5, p6, p7⟩ := zbh (K := K) ha dx hN hK
 obtain ⟨m, e, q1, q2, q3, q4, q5, q6, q7⟩ := zbh (K := K) hb dy hN hK
 obtain ⟨X, X1, X2, X3⟩ := zeo (K := K) (a := n) (b := e) (by omega) (by omega) hK p2.2.1 q3.2.1
 obtain ⟨Y, Y1, Y2, Y3⟩ := zeo (K := K) (a := m) (b := d) (by omega) (by omega) hK q2.2.1 p3.2.1
 obtain ⟨D, D1, D2, D3⟩ := zeo (K := K) (a := d) (b := e) (by omega) (by omega) hK p3.2.1 q3.2.1
 rw [p4, q5, <- Int.natCast_mul] at X3
 rw [q4, p5, <- Int.natCast_mul] at Y3
 rw [p5, q5, <- Int.natCast_mul] at D3
 have hD : x.den * y.den ≠ 0 := Nat.mul_ne_zero x.den_nz y.den_nz
 have lX := zae X2 X3 (z4s dx.1 dy.2)
 have lY := zae Y2 Y3 (z4s dy.1 dx.2)
 have lD := zae D2 D3 (z4s dx.2 dy.2)
 unfold z8s
 rw [p1, z0e, q1, z0e]
 dsimp only
 rw [X1, z0e, Y1, z0e, D1, z0e, zjb]
 generalize x.num.natAbs * y.den = u at X3 ⊢
 generalize y.num.natAbs * x.den = v at Y3 ⊢
 generalize decide (x.num < 0) = p
 generalize decide (y.num < 0) = q
 by_cases hs : p = q
 ·obtain ⟨Z, Z1, Z2, Z3⟩ := zni (K := K) (a := X) (b := Y) (by omega) (by omega) (by have := X2.1; omega) (by omega) X2.2.1 Y2.2.1
  rw [X3, Y3, <- Int.natCast_add] at Z3
  have lZ : Z.size <= 400000 := by
   refine Nat.not_lt.1 fun hlt => ?_
   have g1 := zcy Z2 (by omega)
   have g2 := zc3 X2.2.1
   have g3 := zc3 Y2.2.1
   have g4 : (10 : Int) ^ X.size <= 10 ^ (Z.size - 2) := z7u (by omega) (by omega)
   have g5 : (10 : Int) ^ Y.size <= 10 ^ (Z.size - 2) := z7u (by omega) (by omega)
   have g6 : (10 : Int) ^ (Z.size - 1) = 10 ^ (Z.size - 2) * 10 := by rw [<- Int.pow_succ]; congr 1; omega
   rw [X3] at g2
   rw [Y3] at g3
   have g7 : (0 : Int) < 10 ^ (Z.size - 2) := Int.pow_pos (by omega)
   generalize (10 : Int) ^ (Z.size - 2) = P at *
   omega
  obtain ⟨s, s1, s2⟩ := zdr (K := K) (neg := p) (n := Z) (d := D) hD Z2 D2 Z3 D3 lZ (by omega) hK
  refine ⟨s, ?_, by rw [<- hs, <- zlp]; exact s2⟩
  rw [if_pos (by simpa using hs), Z1, z0e, s1, z0e]
 ·have hc := zlk (K := K) X2 Y2
  rw [if_neg (by simpa using hs), hc, z0e, X3, Y3]
  by_cases hle : v <= u
  ·obtain ⟨Z, Z1, Z2, Z3⟩ := zix (K := K) (a := X) (b := Y) (by omega) (z4j X2 Y2 (by omega)) (by have := X2.1; omega) (by omega) X2.2.1 Y2.2.1 (by omega)
   rw [X3, Y3, <- Int.natCast_sub hle] at Z3
   have lZ := z4j X2 Z2 (by omega)
   obtain ⟨s, s1, s2⟩ := zdr (K := K) (neg := p) (n := Z) (d := D) hD Z2 D2 Z3 D3 (by omega) (by omega) hK
   refine ⟨s, ?_, by rw [<- zgd _ _ hs hle]; exact s2⟩
   have e : decide ((if ((u : Nat) : Int) < (v : Nat) then (-1 : Int) else if ((u : Nat) : Int) = (v : Nat) then 0 else 1) < 0) = false := by
    rw [if_neg (by omega)]; split <;> rfl
   rw [e]
   simp only [Bool.false_eq_true, if_false, z0e, tu3a, Z1, s1]
  ·obtain ⟨Z, Z1, Z2, Z3⟩ := zix (K := K) (a := Y) (b := X) (by omega) (z4j Y2 X2 (by omega)) (by have := Y2.1; omega) (by omega) Y2.2.1 X2.2.1 (by omega)
   rw [X3, Y3, <- Int.natCast_sub (show u <= v by omega)] at Z3
   have lZ := z4j Y2 Z2 (by omega)
   obtain ⟨s, s1, s2⟩ := zdr (K := K) (neg := q) (n := Z) (d := D) hD Z2 D2 Z3 D3 (by omega) (by omega) hK
   refine ⟨s, ?_, by rw [Int.add_comm, <- zgd _ _ (fun e => hs e.symm) (by omega)]; exact s2⟩
   have e : decide ((if ((u : Nat) : Int) < (v : Nat) then (-1 : Int) else if ((u : Nat) : Int) = (v : Nat) then 0 else 1) < 0) = true := by
    rw [if_pos (by omega)]; rfl
   rw [e]
   simp only [if_true, z0e, tu3a, Z1, s1]
theorem zny {a b : zAd} {x y : Rat} {N : Nat} (ha : RTx a x) (hb : RTx b y) (dx : Dl x N) (dy : Dl y N) (hN : N <= 100000) (hK : 2000000000 < K) : ∃ c, z8t K a b = some c /\ RTx c (x * y) := by
 obtain ⟨n, d, p1, p2, p3, p4, p5, p6, p7⟩ := zbh (K := K) ha dx hN hK
 obtain ⟨m, e, q1, q2, q3, q4, q5, q6, q7⟩ := zbh (K := K) hb dy hN hK
 obtain ⟨X, X1, X2, X3⟩ := zeo (K := K) (a := n) (b := m) (by omega) (by omega) hK p2.2.1 q2.2.1
 obtain ⟨D, D1, D2, D3⟩ := zeo (K := K) (a := d) (b := e) (by omega) (by omega) hK p3.2.1 q3.2.1
 rw [p4, q4, <- Int.natCast_mul] at X3
 rw [p5, q5, <- Int.natCast_mul] at D3
 have hD : x.den * y.den ≠ 0 := Nat.mul_ne_zero x.den_nz y.den_nz
 have lX := zae X2 X3 (z4s dx.1 dy.1)
 have lD := zae D2 D3 (z4s dx.2 dy.2)
 obtain ⟨s, s1, s2⟩ := zdr (K := K) (neg := !(decide (x.num < 0) == decide (y.num < 0))) (n := X) (d := D) hD X2 D2 X3 D3 (by omega) (by omega) hK
 refine ⟨s, ?_, by rw [zj7]; exact s2⟩
 unfold z8t
 rw [p1, z0e, q1, z0e]
 dsimp only
 rw [X1, z0e, D1, z0e, s1, z0e]
end Go.Am.Tryz
/- Plain law: errors of lists; operations on two texts. -/
namespace Go.Am.Tryz
open Go Go.Am Go.Proofs
variable {K : Nat}
noncomputable def ratE (s : zAd) : Int := @dite Int (∃ e, ∃ neg n many d, Sp s neg n many d /\ ratS neg n many d = e) (Classical.propDecidable _) (fun h => h.choose) fun _ => 0
theorem zje {s n d : zAd} {neg many : Bool} (h : Sp s neg n many d) : ratE s = ratS neg n many d := by
 have hex : ∃ e, ∃ neg n many d, Sp s neg n many d /\ ratS neg n many d = e := ⟨_, _, _, _, _, h, rfl⟩
 unfold ratE
 rw [dif_pos hex]
 obtain ⟨neg', n', many', d', h1, h2⟩ := hex.choose_spec
 rw [<- h2]
 obtain ⟨rfl, rfl, rfl, h3⟩ := h.uniq h1
 cases many with
 | true => rw [h3 rfl]
 | false => unfold ratS; simp
theorem zh2 {s : zAd} (hs : s.size <= 1048576) (hK : 2000000000 < K) : z5m K s = some (ratE s) := by
 obtain ⟨s1, neg, n, d, many, _, _, h, _⟩ := zc5 K hs
 rw [zje h]; exact zkz hs hK h
theorem zl4 {s : zAd} (hs : s.size <= 1048576) (hK : 2000000000 < K) : z5s K s = some (ratE s) := by
 obtain ⟨s1, neg, n, d, many, _, _, h, _⟩ := zc5 K hs
 rw [zje h]; exact zl1 hs hK h
theorem zl5 {s : zAd} (hs : s.size <= 1048576) (h : ratE s = 0) : ∃ x, RTx s x /\ Dl x 2000 := by
 obtain ⟨s1, neg, n, d, many, _, _, hp, _⟩ := zc5 0 hs
 rw [zje hp] at h
 exact zpo hp h
noncomputable def z88 : List zAd -> Int
 | [] => 0
 | s :: l => if ratE s ≠ 0 then ratE s else z88 l
theorem zd1 : ∀ {l : List zAd}, z88 l = 0 -> ∀ s ∈ l, ratE s = 0
 | [], _, s, hs => by simp at hs
 | t :: l, h, s, hs => by
  rw [z88] at h
  by_cases c : ratE t = 0
  ·rw [if_neg (by simpa using c)] at h
   rcases List.mem_cons.1 hs with rfl | hs
   ·exact c
   ·exact zd1 h s hs
  ·rw [if_pos c] at h; exact absurd h c
theorem zd2 {l : List zAd} {i : Nat} (h : i < l.length) : z88 (l.drop i) = if ratE l[i] ≠ 0 then ratE l[i] else z88 (l.drop (i + 1)) := by
 rw [List.drop_eq_getElem_cons h, z88]
theorem zh3 {l : List zAd} (hl : l.length <= 1048576) (hs : ∀ s ∈ l, s.size <= 1048576) (hK : 2000000000 < K) : z5c K l = some (z88 l) := by
 have key : ∃ r : Int ⊕ Unit, z1c K l K 0 = some r /\ ((r = .inr () /\ z88 l = 0) \/ r = .inl (z88 l)) := by
  refine zah (fun k (s : Int) => z1c K l k s) (fun s => ∃ i : Nat, s = i /\ i <= l.length /\ z88 l = z88 (l.drop i)) (fun s => (l.length - s : Int).toNat) _ ?_ (0 : Int) (by omega) ⟨0, rfl, by omega, by simp⟩
  rintro k _ ⟨i, rfl, h0, h1⟩
  by_cases hi : i < l.length
  ·have hx : idx l (i : Int) = some l[i] := z1s (zAh hi)
   have hc := zh2 (K := K) (s := l[i]) (hs _ (List.getElem_mem hi)) hK
   rw [zd2 hi] at h1
   by_cases c : ratE l[i] = 0
   ·right
    rw [if_neg (by simpa using c)] at h1
    refine ⟨(i : Int) + 1, ?_, by omega, i + 1, rfl, by omega, h1⟩
    rw [z1c, if_pos (decide_eq_true (by omega)), hx, z0e, hc, z0e, if_neg (by simpa using c), k64 (by omega) (by omega)]
   ·left
    rw [if_pos c] at h1
    refine ⟨.inl (ratE l[i]), ?_, .inr (by rw [h1])⟩
    rw [z1c, if_pos (decide_eq_true (by omega)), hx, z0e, hc, z0e, if_pos (by simpa using c)]
  ·left
   have : i = l.length := by omega
   subst this
   rw [List.drop_eq_nil_of_le (Nat.le_refl _)] at h1
   exact ⟨.inr (), by rw [z1c, if_neg (by simp)], .inl ⟨rfl, h1⟩⟩
 obtain ⟨r, h1, h2⟩ := key
 unfold z5c
 rw [h1]
 rcases h2 with ⟨rfl, h2⟩ | rfl
 ·rw [zas, tu0a, h2]
 ·rw [zio, tu1a]
theorem zl6 {l : List zAd} (hl : l.length <= 1048576) (hs : ∀ s ∈ l, s.size <= 1048576) (hK : 2000000000 < K) : z69 K l = some (z88 l) := by
 have key : ∃ r : Int ⊕ Unit, z1r K l K 0 = some r /\ ((r = .inr () /\ z88 l = 0) \/ r = .inl (z88 l)) := by
  refine zah (fun k (s : Int) => z1r K l k s) (fun s => ∃ i : Nat, s = i /\ i <= l.length /\ z88 l = z88 (l.drop i)) (fun s => (l.length - s : Int).toNat) _ ?_ (0 : Int) (by omega) ⟨0, rfl, by omega, by simp⟩
  rintro k _ ⟨i, rfl, h0, h1⟩
  by_cases hi : i < l.length
  ·have hx : idx l (i : Int) = some l[i] := z1s (zAh hi)
   have hc := zl4 (K := K) (s := l[i]) (hs _ (List.getElem_mem hi)) hK
   rw [zd2 hi] at h1
   by_cases c : ratE l[i] = 0
   ·right
    rw [if_neg (by simpa using c)] at h1
    refine ⟨(i : Int) + 1, ?_, by omega, i + 1, rfl, by omega, h1⟩
    rw [z1r, if_pos (decide_eq_true (by omega)), hx, z0e, hc, z0e, if_neg (by simpa using c), k64 (by omega) (by omega)]
   ·left
    rw [if_pos c] at h1
    refine ⟨.inl (ratE l[i]), ?_, .inr (by rw [h1])⟩
    rw [z1r, if_pos (decide_eq_true (by omega)), hx, z0e, hc, z0e, if_pos (by simpa using c)]
  ·left
   have : i = l.length := by omega
   subst this
   rw [List.drop_eq_nil_of_le (Nat.le_refl _)] at h1
   exact ⟨.inr (), by rw [z1r, if_neg (by simp)], .inl ⟨rfl, h1⟩⟩
 obtain ⟨r, h1, h2⟩ := key
 unfold z69
 rw [h1]
 rcases h2 with ⟨rfl, h2⟩ | rfl
 ·rw [zas, tu0a, h2]
 ·rw [zio, tu1a]
end Go.Am.Tryz
/- Plain law: whole numbers and their texts. -/
namespace Go.Am.Tryz
open Go Go.Am Go.Proofs
variable {K : Nat}
end Go.Am.Tryz
/- Plain law: comparisons of rational numbers. -/
namespace Go.Am.Tryz
open Go Go.Am Go.Proofs
variable {K : Nat}
def RTs (l : List zAd) (f : Nat -> Rat) : Prop := ∀ i (h : i < l.length), RTx l[i] (f i)
theorem zov {l : List zAd} (hs : ∀ s ∈ l, s.size <= 1048576) (h0 : z88 l = 0) : ∃ f, RTs l f /\ ∀ i, i < l.length -> Dl (f i) 2000 := by
 classical
 have hz := zd1 h0
 have hex : ∀ i (h : i < l.length), ∃ x, RTx l[i] x /\ Dl x 2000 := fun i h => zl5 (hs _ (List.getElem_mem h)) (hz _ (List.getElem_mem h))
 refine ⟨fun i => if h : i < l.length then (hex i h).choose else 0, fun i h => ?_, fun i h => ?_⟩
 ·dsimp only; rw [dif_pos h]; exact (hex i h).choose_spec.1
 ·dsimp only; rw [dif_pos h]; exact (hex i h).choose_spec.2
def sumF (f : Nat -> Rat) : Nat -> Rat
 | 0 => 0
 | i + 1 => sumF f i + f i
theorem zgf {f : Nat -> Rat} {M : Nat} : ∀ {n : Nat}, (∀ i, i < n -> Dl (f i) M) -> Dl (sumF f n) ((M + 1) * n + 1)
 | 0, _ => Dl.zero.mono (by omega)
 | n + 1, h => by
  have h1 := zgf (n := n) (fun i hi => h i (by omega))
  have h2 := h1.add (h n (by omega))
  exact h2.mono (by rw [Nat.mul_add]; omega)
end Go.Am.Tryz
/- Plain law: vectors and matrices of rational texts: their checks, their numbers, products and sums. -/
namespace Go.Am.Tryz
open Go Go.Am Go.Proofs
variable {K : Nat}
def resF {R : Type} : Option R -> R ⊕ Unit
 | some r => .inl r
 | none => .inr ()
theorem z7k {α R : Type} {l : List α} {L : Nat -> Int -> Option (R ⊕ Unit)} (p : α -> Option R) (h0 : ∀ k, L (k + 1) (l.length : Int) = some (.inr ()))
  (h1 : ∀ k i (hi : i < l.length), L (k + 1) (i : Int) = match p l[i] with | some r => some (.inl r) | none => L k ((i + 1 : Nat) : Int)) (hK : l.length < K) :
  L K 0 = some (resF (l.findSome? p)) := by
 have key : ∀ n i k, i + n = l.length -> n < k -> L k (i : Int) = some (resF ((l.drop i).findSome? p)) := by
  intro n
  induction n with
  | zero =>
   intro i k hi hk
   obtain ⟨k, rfl⟩ : ∃ m, k = m + 1 := ⟨k - 1, by omega⟩
   obtain rfl : i = l.length := by omega
   rw [h0, List.drop_length]
   rfl
  | succ n ih =>
   intro i k hi hk
   obtain ⟨k, rfl⟩ : ∃ m, k = m + 1 := ⟨k - 1, by omega⟩
   rw [h1 k i (by omega), List.drop_eq_getElem_cons (by omega), List.findSome?_cons]
   cases hp : p l[i] with
   | some r => rfl
   | none => exact ih (i + 1) k (by omega) (by omega)
 have := key l.length 0 K (by omega) hK
 simpa using this
def Fam {α : Type} (P : Nat -> α -> Prop) (n : Nat) (l : List α) : Prop := l.length = n /\ ∀ j (h : j < l.length), P j l[j]
theorem Fam.nil {α : Type} {P : Nat -> α -> Prop} : Fam P 0 [] := ⟨rfl, fun j h => by simp at h⟩
theorem Fam.snoc {α : Type} {P : Nat -> α -> Prop} {n : Nat} {l : List α} {y : α} (h : Fam P n l) (hy : P n y) : Fam P (n + 1) (l ++ [y]) := by
 refine ⟨by simp [h.1], fun j hj => ?_⟩
 by_cases c : j < l.length
 ·rw [List.getElem_append_left c]; exact h.2 j c
 ·have : j = l.length := by simp at hj; omega
  subst this
  rw [List.getElem_append_right (by omega)]
  simp only [Nat.sub_self, List.getElem_cons_zero]
  rw [h.1]; exact hy
theorem Fam.idx {α : Type} {P : Nat -> α -> Prop} {n j : Nat} {l : List α} (h : Fam P n l) (hj : j < n) : ∃ y, idx l (j : Int) = some y /\ P j y := by
 have hl : j < l.length := by rw [h.1]; exact hj
 exact ⟨l[j], z1s (zAh hl), h.2 j hl⟩
theorem Fam.mono {α : Type} {P Q : Nat -> α -> Prop} {n : Nat} {l : List α} (h : Fam P n l) (hPQ : ∀ j y, j < n -> P j y -> Q j y) : Fam Q n l :=
 ⟨h.1, fun j hj => hPQ j _ (by rw [<- h.1]; exact hj) (h.2 j hj)⟩
theorem Fam.uniq {α : Type} {P : Nat -> α -> Prop} {n : Nat} {l m : List α} (hu : ∀ j x y, P j x -> P j y -> x = y) (h : Fam P n l) (k : Fam P n m) : l = m :=
 List.ext_getElem (by rw [h.1, k.1]) fun j h1 h2 => hu j _ _ (h.2 j h1) (k.2 j h2)
theorem z63 {β R : Type} (n : Nat) (L : Nat -> List β -> Int -> Option R) (P : Nat -> β -> Prop) (Q : R -> Prop) (hn : n < K)
  (hend : ∀ k acc, Fam P n acc -> ∃ r, L (k + 1) acc (n : Int) = some r /\ Q r)
  (hstep : ∀ k i acc, i < n -> Fam P i acc -> (∃ r, L (k + 1) acc (i : Int) = some r /\ Q r) \/ ∃ y, P i y /\ L (k + 1) acc (i : Int) = L k (acc ++ [y]) ((i + 1 : Nat) : Int)) :
  ∃ r, L K [] 0 = some r /\ Q r := by
 have key : ∀ m i k acc, i + m = n -> m < k -> Fam P i acc -> ∃ r, L k acc (i : Int) = some r /\ Q r := by
  intro m
  induction m with
  | zero =>
   intro i k acc hi hk ha
   obtain ⟨k, rfl⟩ : ∃ m, k = m + 1 := ⟨k - 1, by omega⟩
   obtain rfl : i = n := by omega
   exact hend k acc ha
  | succ m ih =>
   intro i k acc hi hk ha
   obtain ⟨k, rfl⟩ : ∃ m, k = m + 1 := ⟨k - 1, by omega⟩
   rcases hstep k i acc (by omega) ha with h | ⟨y, hy, h⟩
   ·exact h
   ·rw [h]; exact ih (i + 1) k _ (by omega) (by omega) (ha.snoc hy)
 exact key n 0 K [] (by omega) hn .nil
theorem k1 {i : Nat} (h : i <= 1048576) : z04 .i64 ((i : Int) + 1) = ((i + 1 : Nat) : Int) := by rw [k64 (by omega) (by omega)]; omega
theorem lt_d {i n : Nat} (h : i < n) : decide ((i : Int) < (n : Int)) = true := decide_eq_true (by omega)
noncomputable def vecE (l : List zAd) : Int := if l.length > 40 then 2 else z88 l
theorem zl7 {n : Nat} {α : Type} (a b : α) : (if decide ((n : Int) > 40) = true then a else b) = if n > 40 then a else b := by
 by_cases h : n > 40
 ·rw [if_pos h, if_pos (decide_eq_true (by omega))]
 ·rw [if_neg h, if_neg (by simp; omega)]
theorem z95 {l : List zAd} (hl : l.length <= 1048576) (hs : ∀ s ∈ l, s.size <= 1048576) (hK : 2000000000 < K) : z1d K l = some (vecE l) := by
 unfold z1d vecE
 rw [zl7, zh3 hl hs hK, z0e]
 split <;> rfl
theorem zgg {l : List zAd} (hl : l.length <= 1048576) (hs : ∀ s ∈ l, s.size <= 1048576) (hK : 2000000000 < K) : z5t K l = some (vecE l) := by
 unfold z5t vecE
 rw [zl7, zl6 hl hs hK, z0e]
 split <;> rfl
theorem zgh {l : List zAd} (h : vecE l = 0) : l.length <= 40 /\ z88 l = 0 := by
 unfold vecE at h
 split at h
 ·cases h
 ·exact ⟨by omega, h⟩
noncomputable def rowE (w : Nat) (row : List zAd) : Option Int := if row.length ≠ w then some 3 else if vecE row ≠ 0 then some (vecE row) else none
noncomputable def matE (m : List (List zAd)) : Int := if m.length > 40 then 2 else (m.findSome? (rowE (m.getD 0 []).length)).getD 0
def MOk (m : List (List zAd)) : Prop := m.length <= 1048576 /\ ∀ row ∈ m, row.length <= 1048576 /\ ∀ s ∈ row, s.size <= 1048576
theorem idx0 {m : List (List zAd)} (h : 0 < m.length) : idx m 0 = some (m.getD 0 []) := by
 have : idx m ((0 : Nat) : Int) = some m[0] := z1s (zAh h)
 rw [zAb, zAh h]
 exact this
theorem ne_len {a b : Nat} : (((a : Int) != (b : Int)) = true) ↔ a ≠ b := by rw [bne_iff_ne]; omega
theorem z5v {m : List (List zAd)} (hm : MOk m) (hK : 2000000000 < K) : z1e K m = some (matE m) := by
 obtain ⟨hl, hr⟩ := hm
 unfold z1e matE
 rw [zl7]
 by_cases h : m.length > 40
 ·rw [if_pos h, if_pos h]
 ·rw [if_neg h, if_neg h]
  rw [z7k (K := K) (l := m) (L := z2i K m) (rowE (m.getD 0 []).length) (fun k => by rw [z2i, if_neg (by simp)]) (fun k i hi => ?_) (by omega)]
  ·cases List.findSome? (rowE (m.getD 0 []).length) m <;> rfl
  ·have hx : idx m (i : Int) = some m[i] := z1s (zAh hi)
   obtain ⟨r1, r2⟩ := hr m[i] (List.getElem_mem hi)
   rw [z2i, if_pos (lt_d hi), hx, z0e, idx0 (by omega), z0e, z95 r1 r2 hK, z0e, k1 (by omega)]
   unfold rowE
   by_cases c : m[i].length ≠ (m.getD 0 []).length
   ·rw [if_pos (ne_len.2 c), if_pos c]
   ·rw [if_neg (fun e => c (ne_len.1 e)), if_neg c]
    by_cases d : vecE m[i] ≠ 0
    ·rw [if_pos (by simpa using d), if_pos d]
    ·rw [if_neg (by simpa using d), if_neg d]
theorem zgi {m : List (List zAd)} (hm : MOk m) (hK : 2000000000 < K) : z2u K m = some (matE m) := by
 obtain ⟨hl, hr⟩ := hm
 unfold z2u matE
 rw [zl7]
 by_cases h : m.length > 40
 ·rw [if_pos h, if_pos h]
 ·rw [if_neg h, if_neg h]
  rw [z7k (K := K) (l := m) (L := z24 K m) (rowE (m.getD 0 []).length) (fun k => by rw [z24, if_neg (by simp)]) (fun k i hi => ?_) (by omega)]
  ·cases List.findSome? (rowE (m.getD 0 []).length) m <;> rfl
  ·have hx : idx m (i : Int) = some m[i] := z1s (zAh hi)
   obtain ⟨r1, r2⟩ := hr m[i] (List.getElem_mem hi)
   rw [z24, if_pos (lt_d hi), hx, z0e, idx0 (by omega), z0e]
   simp only [z0e, zgg r1 r2 hK, k1 (show i <= 1048576 by omega)]
   unfold rowE
   by_cases c : m[i].length ≠ (m.getD 0 []).length
   ·rw [if_pos (ne_len.2 c), if_pos c]
   ·rw [if_neg (fun e => c (ne_len.1 e)), if_neg c]
    by_cases d : vecE m[i] ≠ 0
    ·rw [if_pos (by simpa using d), if_pos d]
    ·rw [if_neg (by simpa using d), if_neg d]
theorem zmj {l : List Int} (hl : l.length <= 1048576) (hK : 2000000000 < K) : z5u K l = some ((l.findSome? fun x => if x ≠ 0 then some x else none).getD 0) := by
 unfold z5u
 rw [z7k (K := K) (l := l) (L := z3v K l) (fun x => if x ≠ 0 then some x else none) (fun k => by rw [z3v, if_neg (by simp)]) (fun k i hi => ?_) (by omega)]
 ·cases List.findSome? (fun x => if x ≠ 0 then some x else none) l <;> rfl
 ·have hx : idx l (i : Int) = some l[i] := z1s (zAh hi)
  rw [z3v, if_pos (lt_d hi), hx, z0e, k1 (by omega)]
  by_cases c : l[i] ≠ 0
  ·rw [if_pos (by simpa using c), if_pos c]
  ·rw [if_neg (by simpa using c), if_neg c]
theorem zl8 {a b : Int} (hK : 2000000000 < K) : z5u K [a, b] = some (if a ≠ 0 then a else b) := by
 rw [zmj (by simp) hK]
 by_cases ha : a = 0 <;> by_cases hb : b = 0 <;> simp [ha, hb]
def zc7 (n : Int) (m : List (List (List zAd))) : Bool := m.any fun x => decide ((x.length : Int) > n) || x.any fun v => decide ((v.length : Int) > n) || v.any fun r => decide ((r.size : Int) > 12)
theorem zjf {α : Type} (l : List α) (p : α -> Bool) : l.any p = (l.findSome? fun x => if p x then some () else none).isSome := by
 induction l with
 | nil => rfl
 | cons x l ih =>
  rw [List.any_cons, List.findSome?_cons, ih]
  cases h : p x <;> simp
theorem zfg {l : List zAd} {F : zAd -> Option Bool} {p : zAd -> Bool} (hl : l.length <= 1048576) (hK : 2000000000 < K) (hp : ∀ x ∈ l, F x = some (p x)) : z0n K l F = some (l.any p) := by
 have key : ∃ r : Int ⊕ Unit, z0c K l F K 0 = some r /\ ((r = .inr () /\ l.any p = false) \/ ∃ i : Int, 0 <= i /\ r = .inl i /\ l.any p = true) := by
  refine zah (fun k (s : Int) => z0c K l F k s) (fun s => ∃ i : Nat, s = i /\ i <= l.length /\ (l.take i).any p = false) (fun s => (l.length - s : Int).toNat) _ ?_ (0 : Int) (by omega) ⟨0, rfl, by omega, by simp⟩
  rintro k _ ⟨i, rfl, h0, h1⟩
  by_cases hi : i < l.length
  ·have hx : idx l (i : Int) = some l[i] := z1s (zAh hi)
   have hpi := hp l[i] (List.getElem_mem hi)
   have hsn : l.take (i + 1) = l.take i ++ [l[i]] := by rw [List.take_add_one, zAh hi]; rfl
   cases hc : p l[i] with
   | true =>
    left
    refine ⟨.inl i, ?_, .inr ⟨i, by omega, rfl, List.any_eq_true.2 ⟨l[i], List.getElem_mem hi, hc⟩⟩⟩
    rw [z0c, if_pos (decide_eq_true (by omega)), hx, z0e, hpi, z0e, hc, if_pos rfl]
   | false =>
    right
    refine ⟨(i : Int) + 1, ?_, by omega, i + 1, rfl, by omega, by rw [hsn, List.any_append, h1]; simp [hc]⟩
    rw [z0c, if_pos (decide_eq_true (by omega)), hx, z0e, hpi, z0e, hc, if_neg (by simp), k64 (by omega) (by omega)]
  ·left
   have : i = l.length := by omega
   subst this
   rw [List.take_of_length_le (Nat.le_refl _)] at h1
   refine ⟨.inr (), ?_, .inl ⟨rfl, h1⟩⟩
   rw [z0c, if_neg (by simp)]
 obtain ⟨r, h1, h2⟩ := key
 unfold z0n z0w
 rw [h1]
 rcases h2 with ⟨rfl, h3⟩ | ⟨i, h4, rfl, h3⟩
 ·rw [h3]; rfl
 ·rw [h3, zio, tu1a, z0e, decide_eq_true (by omega)]
theorem zlr {n : Int} {m : List (List (List zAd))} (hm : m.length <= 1048576) (hr : ∀ x ∈ m, MOk x) (hK : 2000000000 < K) : z6a K n m = some (zc7 n m) := by
 have hv : ∀ x ∈ m, z3n K n x K 0 = some (resF (x.findSome? (fun v => if (decide ((v.length : Int) > n) || v.any fun r => decide ((r.size : Int) > 12)) then some true else none))) := fun x hx => by
  obtain ⟨x1, x2⟩ := hr x hx
  refine z7k (K := K) (l := x) (L := z3n K n x) (fun v => if (decide ((v.length : Int) > n) || v.any fun r => decide ((r.size : Int) > 12)) then some true else none) (fun k => by rw [z3n, if_neg (by simp)]) (fun k i hi => ?_) (by omega)
  have hxi : idx x (i : Int) = some x[i] := z1s (zAh hi)
  obtain ⟨r1, r2⟩ := x2 x[i] (List.getElem_mem hi)
  rw [z3n, if_pos (lt_d hi), hxi, z0e, k1 (by omega), zfg (F := fun x => z75 K x) (p := fun r => decide ((r.size : Int) > 12)) r1 hK (fun r _ => rfl), z0e]
  cases c1 : decide ((x[i].length : Int) > n) <;> cases c2 : x[i].any (fun r => decide ((r.size : Int) > 12)) <;> simp [tu1a]
 unfold z6a zc7
 rw [zjf]
 rw [z7k (K := K) (l := m) (L := z4d K n m) (fun x => if (decide ((x.length : Int) > n) || x.any fun v => decide ((v.length : Int) > n) || v.any fun r => decide ((r.size : Int) > 12)) then some true else none) (fun k => by rw [z4d, if_neg (by simp)]) (fun k i hi => ?_) (by omega)]
 ·have : ∀ l : List (List (List zAd)), ∀ q : List (List zAd) -> Bool, z9w (some (resF (l.findSome? (fun x => if q x then some true else none)))) (tu1 fun a => some a) (tu0 (some false)) = some (l.findSome? fun x => if q x then some () else none).isSome := by
   intro l q
   induction l with
   | nil => rfl
   | cons x l ih =>
    rw [List.findSome?_cons, List.findSome?_cons]
    cases h : q x
    ·simpa [h] using ih
    ·rfl
  exact this m _
 ·have hx : idx m (i : Int) = some m[i] := z1s (zAh hi)
  rw [z4d, if_pos (lt_d hi), hx, z0e, k1 (by omega), hv m[i] (List.getElem_mem hi)]
  cases c1 : decide ((m[i].length : Int) > n)
  ·rw [if_neg (by simp)]
   rw [zjf m[i]]
   generalize hq : (fun v : List zAd => (decide ((v.length : Int) > n) || v.any fun r => decide ((r.size : Int) > 12))) = q
   have : ∀ l : List (List zAd), (l.findSome? (fun v => if q v then some true else none)) = ((l.findSome? fun v => if q v then some () else none).map fun _ => true) := by
    intro l
    induction l with
    | nil => rfl
    | cons x l ih =>
     rw [List.findSome?_cons, List.findSome?_cons, ih]
     cases q x <;> rfl
   subst hq
   rw [this]
   cases List.findSome? _ m[i] <;> rfl
  ·rw [if_pos rfl]; rfl
end Go.Am.Tryz
/- The closed matrix fact holds. -/
namespace Go.Am.Tryz
open Go Go.Am Go.Proofs
theorem zck : z5e 2000000001 = some true := by kernel_rfl
end Go.Am.Tryz
/- Plain law: rows and scalar products; MatrixDots answers true. -/
namespace Go.Am.Tryz
open Go Go.Am Go.Proofs
variable {K : Nat}
abbrev FT (f : Nat -> Rat) (n : Nat) (l : List zAd) : Prop := Fam (fun j s => RTx s (f j)) n l
abbrev FQ (f : Nat -> Rat) (n : Nat) (l : List Q) : Prop := Fam (fun j q => QV q (f j)) n l
theorem FT.uniq {f : Nat -> Rat} {n : Nat} {l m : List zAd} (h : FT f n l) (k : FT f n m) : l = m := Fam.uniq (fun _ _ _ h1 h2 => h1.inj h2) h k
theorem znz {f : Nat -> Rat} {n : Nat} {l : List zAd} (h : FT f n l) (hs : ∀ s ∈ l, s.size <= 1048576) (hn : n <= 1048576) (hK : 2000000000 < K) : ∃ q, z49 K l = some q /\ FQ f n q := by
 have hl := h.1
 obtain ⟨q, q1, q2⟩ := z63 (K := K) n (z3a K l) (fun j q => QV q (f j)) (fun q => FQ f n q) (by omega)
  (fun k acc ha => ⟨acc, by rw [z3a, hl, if_neg (by simp)], ha⟩)
  (fun k i acc hi ha => by
   right
   have hx : idx l (i : Int) = some l[i] := z1s (zAh (by omega))
   obtain ⟨q, q1, q2⟩ := zou (K := K) (h.2 i (by omega)) (hs _ (List.getElem_mem (by omega))) hK
   have hal := ha.1
   exact ⟨q, q2, by rw [z3a, hl, if_pos (lt_d hi), hx, z0e, q1, z0e, if_pos (by simp; omega), k1 (by omega)]⟩)
 exact ⟨q, by unfold z49; rw [q1]; rfl, q2⟩
theorem zev {f g : Nat -> Rat} {n M : Nat} {a b : List Q} (ha : FQ f n a) (hb : Fam (fun j q => j < n -> QV q (g j)) b.length b) (hnb : n <= b.length) (hn : n <= 40) (hM : M <= 2001) (df : ∀ j, j < n -> Dl (f j) M) (dg : ∀ j, j < n -> Dl (g j) M) (hK : 2000000000 < K) :
  ∃ q, z30 K a b = some q /\ QV q (sumF (fun j => f j * g j) n) := by
 have hl := ha.1
 have hsd : ∀ m, m <= n -> Dl (sumF (fun j => f j * g j) m) 160121 := fun m hm => by
  have := zgf (f := fun j => f j * g j) (M := M + M) (n := m) (fun i hi => (df i (by omega)).mul (dg i (by omega)))
  refine this.mono ?_
  have h1 : (M + M + 1) * m <= 4003 * 40 := Nat.mul_le_mul (by omega) (by omega)
  omega
 have key : ∃ q : Q, z16 K a b K (Q.mk false ([] : List Int) ([] : List Int)) 0 = some q /\ QV q (sumF (fun j => f j * g j) n) := by
  refine zah (fun k (s : Q × Int) => z16 K a b k s.1 s.2) (fun s => ∃ i : Nat, s.2 = i /\ i <= n /\ QV s.1 (sumF (fun j => f j * g j) i)) (fun s => (n - s.2 : Int).toNat) _ ?_ ((⟨false, [], []⟩, 0) : Q × Int) (by dsimp only; omega) ⟨0, rfl, by omega, QV.zero⟩
  rintro k ⟨q, _⟩ ⟨i, rfl, h0, h1⟩
  dsimp only at h1 ⊢
  by_cases hi : i < n
  ·right
   have hx : idx a (i : Int) = some a[i] := z1s (zAh (by omega))
   have hy : idx b (i : Int) = some b[i] := z1s (zAh (by omega))
   obtain ⟨p, p1, p2⟩ := znu (K := K) (ha.2 i (by omega)) (hb.2 i (by omega) hi) (df i hi) (dg i hi) (by omega) hK
   obtain ⟨m, m1, m2⟩ := znt (K := K) h1 p2 (hsd i (by omega)) (((df i hi).mul (dg i hi)).mono (by omega)) (by omega) hK
   refine ⟨(m, (i : Int) + 1), ?_, by dsimp only; omega, i + 1, rfl, by omega, m2⟩
   rw [z16, hl, if_pos (lt_d hi), hx, z0e, hy, z0e, p1, z0e, m1, z0e, k64 (by omega) (by omega)]
  ·left
   have : i = n := by omega
   subst this
   exact ⟨q, by rw [z16, hl, if_neg (by simp)], h1⟩
 obtain ⟨q, q1, q2⟩ := key
 exact ⟨q, by unfold z30; rw [q1]; rfl, q2⟩
theorem zls {f g : Nat -> Rat} {n : Nat} {a b : List zAd} (ha : FT f n a) (hb : FT g n b) (hn : n <= 40) (df : ∀ j, j < n -> Dl (f j) 13) (dg : ∀ j, j < n -> Dl (g j) 13) (hK : 2000000000 < K) :
  ∃ d, zcv K a b = some d /\ RTx d (sumF (fun j => f j * g j) n) := by
 have hl := ha.1
 have hl2 := hb.1
 have hz : RTx ⟨#[48]⟩ 0 := zmi zac z9o z6o z8v rfl
 generalize hF : (fun j => f j * g j) = F
 have hFi : ∀ i, F i = f i * g i := fun i => by rw [<- hF]
 have key : ∃ t : zAd, z6c K a b K ⟨#[48]⟩ ((n : Int) - 1) = some t /\ RTx t (sumF F n) := by
  refine zah (fun k (s : zAd × Int) => z6c K a b k s.1 s.2) (fun s => ∃ j : Nat, s.2 = (j : Int) - 1 /\ j <= n /\ RTx s.1 (sumF F n - sumF F j) /\ Dl (sumF F n - sumF F j) (27 * (n - j) + 1)) (fun s => (s.2 + 1).toNat) _ ?_ ((⟨#[48]⟩, (n : Int) - 1) : zAd × Int) (by dsimp only; omega)
   ⟨n, rfl, Nat.le_refl _, by
    have : sumF F n - sumF F n = 0 := by grind
    rw [this]; exact hz, by
    have : sumF F n - sumF F n = 0 := by grind
    rw [this]; exact Dl.zero.mono (by omega)⟩
  rintro k ⟨t, _⟩ ⟨j, rfl, h0, h1, h2⟩
  dsimp only at h1 h2 ⊢
  by_cases hj : j = 0
  ·subst hj
   left
   refine ⟨t, by rw [z6c, if_neg (by simp)], ?_⟩
   have : sumF F n - sumF F 0 = sumF F n := by show sumF F n - 0 = _; grind
   rw [this] at h1; exact h1
  ·right
   obtain ⟨i, rfl⟩ : ∃ i, j = i + 1 := ⟨j - 1, by omega⟩
   have e1 : ((i + 1 : Nat) : Int) - 1 = i := by omega
   have hx : idx a (i : Int) = some a[i] := z1s (zAh (by omega))
   have hy : idx b (i : Int) = some b[i] := z1s (zAh (by omega))
   obtain ⟨p, p1, p2⟩ := zny (K := K) (ha.2 i (by omega)) (hb.2 i (by omega)) (df i (by omega)) (dg i (by omega)) (by omega) hK
   have dm := (df i (by omega)).mul (dg i (by omega))
   obtain ⟨c, c1, c2⟩ := znx (K := K) (N := 27 * (n - (i + 1)) + 27) p2 h1 (dm.mono (by omega)) (h2.mono (by omega)) (by omega) hK
   have ev : f i * g i + (sumF F n - sumF F (i + 1)) = sumF F n - sumF F i := by
    have : sumF F (i + 1) = sumF F i + F i := rfl
    have := hFi i
    grind
   have hd := dm.add h2
   rw [ev] at c2 hd
   refine ⟨(c, (i : Int) - 1), ?_, by dsimp only; omega, i, rfl, by omega, c2, hd.mono (by omega)⟩
   rw [e1, z6c, if_pos (decide_eq_true (by omega)), hx, z0e, hy, z0e, p1, z0e, c1, z0e, k64 (by omega) (by omega)]
 obtain ⟨t, t1, t2⟩ := key
 refine ⟨t, ?_, t2⟩
 unfold zcv
 rw [hl, k64 (by omega) (by omega), t1]
 rfl
theorem zo0 {l : List zAd} (hs : ∀ s ∈ l, s.size <= 1048576) (h : vecE l = 0) : ∃ f, FT f l.length l /\ l.length <= 40 /\ ∀ i, i < l.length -> Dl (f i) 2000 := by
 obtain ⟨h1, h2⟩ := zgh h
 obtain ⟨f, f1, f2⟩ := zov hs h2
 exact ⟨f, ⟨rfl, f1⟩, h1, f2⟩
theorem zjg {f : Nat -> Rat} {n : Nat} {l : List zAd} (h : FT f n l) (hs : ∀ s ∈ l, s.size <= 12) : ∀ j, j < n -> Dl (f j) 13 := fun j hj => by
 have hl := h.1
 exact (h.2 j (by omega)).dl (hs _ (List.getElem_mem (by omega)))
theorem zew {n : Int} {m : List (List (List zAd))} (h : zc7 n m = false) : ∀ x ∈ m, (x.length : Int) <= n /\ ∀ v ∈ x, (v.length : Int) <= n /\ ∀ r ∈ v, r.size <= 12 := by
 intro x hx
 unfold zc7 at h
 rw [List.any_eq_false] at h
 have h1 := h x hx
 simp only [Bool.not_eq_true, Bool.or_eq_false_iff, decide_eq_false_iff_not, List.any_eq_false, decide_eq_true_eq] at h1
 refine ⟨by omega, fun v hv => ?_⟩
 have h2 := h1.2 v hv
 exact ⟨by omega, fun r hr => by have := h2.2 r hr; omega⟩
end Go.Am.Tryz
/- Plain law: matrices of numbers: rows, columns, products. -/
namespace Go.Am.Tryz
open Go Go.Am Go.Proofs
variable {K : Nat}
abbrev MT (f : Nat -> Nat -> Rat) (h w : Nat) (m : List (List zAd)) : Prop := Fam (fun i row => FT (f i) w row) h m
abbrev MQ (f : Nat -> Nat -> Rat) (h w : Nat) (m : List (List Q)) : Prop := Fam (fun i row => FQ (f i) w row) h m
theorem MT.uniq {f : Nat -> Nat -> Rat} {h w : Nat} {l m : List (List zAd)} (a : MT f h w l) (b : MT f h w m) : l = m := Fam.uniq (fun _ _ _ h1 h2 => h1.uniq h2) a b
def wid (m : List (List zAd)) : Nat := (m.getD 0 []).length
theorem zl9 {m : List (List zAd)} (h : matE m = 0) : m.length <= 40 /\ ∀ row ∈ m, row.length = wid m /\ vecE row = 0 := by
 unfold matE at h
 split at h
 ·cases h
 ·refine ⟨by omega, ?_⟩
  have hn : m.findSome? (rowE (m.getD 0 []).length) = none := by
   cases hf : m.findSome? (rowE (m.getD 0 []).length) with
   | none => rfl
   | some r =>
    rw [hf] at h
    obtain ⟨row, _, hr⟩ := List.exists_of_findSome?_eq_some hf
    unfold rowE at hr
    split at hr
    ·cases hr; cases h
    ·split at hr
     ·cases hr; exact absurd h (by assumption)
     ·cases hr
  intro row hrow
  have := List.findSome?_eq_none_iff.1 hn row hrow
  unfold rowE at this
  split at this
  ·cases this
  ·split at this
   ·cases this
   ·exact ⟨by unfold wid; omega, by omega⟩
theorem zo1 {m : List (List zAd)} (hm : MOk m) (h : matE m = 0) : ∃ f, MT f m.length (wid m) m /\ m.length <= 40 /\ wid m <= 40 /\ ∀ i j, i < m.length -> j < wid m -> Dl (f i j) 2000 := by
 classical
 obtain ⟨h1, h2⟩ := zl9 h
 have hex : ∀ i (hi : i < m.length), ∃ f, FT f (wid m) m[i] /\ ∀ j, j < wid m -> Dl (f j) 2000 := fun i hi => by
  obtain ⟨r1, r2⟩ := h2 m[i] (List.getElem_mem hi)
  obtain ⟨f, f1, f2, f3⟩ := zo0 (hm.2 m[i] (List.getElem_mem hi)).2 r2
  rw [r1] at f1 f3
  exact ⟨f, f1, f3⟩
 have hw : wid m <= 40 := by
  by_cases hl : 0 < m.length
  ·obtain ⟨r1, r2⟩ := h2 m[0] (List.getElem_mem hl)
   have := (zgh r2).1
   omega
  ·have : m = [] := List.length_eq_zero_iff.1 (by omega)
   subst this
   show 0 <= 40
   omega
 refine ⟨fun i => if hi : i < m.length then (hex i hi).choose else fun _ => 0, ⟨rfl, fun i hi => ?_⟩, h1, hw, fun i j hi hj => ?_⟩
 ·dsimp only; rw [dif_pos hi]; exact (hex i hi).choose_spec.1
 ·dsimp only; rw [dif_pos hi]; exact (hex i hi).choose_spec.2 j hj
theorem zgj {m : List (List zAd)} : z7b K m = some ((wid m : Nat) : Int) := by
 unfold z7b wid
 by_cases h : 0 < m.length
 ·rw [if_pos (decide_eq_true (by omega)), idx0 h, z0e]
 ·have : m = [] := List.length_eq_zero_iff.1 (by omega)
  subst this
  rfl
theorem zc8 {m : List (List zAd)} : z28 K m = some ((wid m : Nat) : Int) := by
 unfold z28 wid
 by_cases h : 0 < m.length
 ·rw [if_neg (by rw [beq_iff_eq]; omega), idx0 h, z0e]
 ·have : m = [] := List.length_eq_zero_iff.1 (by omega)
  subst this
  rfl
theorem zow {f : Nat -> Nat -> Rat} {h w : Nat} {m : List (List zAd)} (hm : MT f h w m) (hs : MOk m) (hw : w <= 1048576) (hK : 2000000000 < K) : ∃ q, z41 K m = some q /\ MQ f h w q := by
 have hl := hm.1
 obtain ⟨s1, s2⟩ := hs
 obtain ⟨q, q1, q2⟩ := z63 (K := K) h (z3s K m) (fun i row => FQ (f i) w row) (fun q => MQ f h w q) (by omega)
  (fun k acc ha => ⟨acc, by rw [z3s, hl, if_neg (by simp)], ha⟩)
  (fun k i acc hi ha => by
   right
   have hx : idx m (i : Int) = some m[i] := z1s (zAh (by omega))
   obtain ⟨q, q1, q2⟩ := znz (K := K) (hm.2 i (by omega)) (s2 _ (List.getElem_mem (by omega))).2 hw hK
   have hal := ha.1
   exact ⟨q, q2, by rw [z3s, hl, if_pos (lt_d hi), hx, z0e, q1, z0e, if_pos (by simp; omega), k1 (by omega)]⟩)
 exact ⟨q, by unfold z41; rw [q1]; rfl, q2⟩
theorem zgk {f : Nat -> Nat -> Rat} {h w j : Nat} {m : List (List zAd)} (hm : MT f h w m) (hl : h <= 1048576) (hj : j < w) (hK : 2000000000 < K) : ∃ c, z7t K m (j : Int) = some c /\ FT (fun i => f i j) h c := by
 have hlen := hm.1
 obtain ⟨q, q1, q2⟩ := z63 (K := K) h (z4e K m (j : Int)) (fun i s => RTx s (f i j)) (fun q => FT (fun i => f i j) h q) (by omega)
  (fun k acc ha => ⟨acc, by rw [z4e, hlen, if_neg (by simp)], ha⟩)
  (fun k i acc hi ha => by
   right
   have hx : idx m (i : Int) = some m[i] := z1s (zAh (by omega))
   obtain ⟨y, y1, y2⟩ := (hm.2 i (by omega)).idx hj
   have hal := ha.1
   exact ⟨y, y2, by rw [z4e, hlen, if_pos (lt_d hi), hx, z0e, y1, z0e, if_pos (by simp; omega), k1 (by omega)]⟩)
 exact ⟨q, by unfold z7t; rw [q1]; rfl, q2⟩
theorem zfh {f : Nat -> Nat -> Rat} {h w : Nat} {m : List (List zAd)} (he : matE m = 0) (hs : MOk m) (hm : MT f h w m) (hh : h <= 40) (hw : w <= 40) (hwid : wid m = w) (hK : 2000000000 < K) : ∃ t, z1l K m = some (t, 0) /\ MT (fun k i => f i k) w h t := by
 have hlen := hm.1
 have hcol : ∀ j, j < w -> ∃ c, z0v K m (j : Int) K [] 0 = some c /\ FT (fun i => f i j) h c := fun j hj =>
  z63 (K := K) h (z0v K m (j : Int)) (fun i s => RTx s (f i j)) (fun q => FT (fun i => f i j) h q) (by omega)
   (fun k acc ha => ⟨acc, by rw [z0v, hlen, if_neg (by simp)], ha⟩)
   (fun k i acc hi ha => by
    right
    have hx : idx m (i : Int) = some m[i] := z1s (zAh (by omega))
    obtain ⟨y, y1, y2⟩ := (hm.2 i (by omega)).idx hj
    have hal := ha.1
    exact ⟨y, y2, by rw [z0v, hlen, if_pos (lt_d hi), hx, z0e, y1, z0e, if_pos (by simp; omega), k1 (by omega)]⟩)
 obtain ⟨t, t1, t2⟩ := z63 (K := K) w (fun k acc i => z13 K (w : Int) m k acc i) (fun k row => FT (fun i => f i k) h row) (fun t => MT (fun k i => f i k) w h t) (by omega)
  (fun k acc ha => ⟨acc, by rw [z13, if_neg (by simp)], ha⟩)
  (fun k i acc hi ha => by
   right
   obtain ⟨c, c1, c2⟩ := hcol i hi
   have hal := ha.1
   exact ⟨c, c2, by rw [z13, if_pos (lt_d hi), c1, z0e, tu1a, if_pos (by simp; omega), k1 (by omega)]⟩)
 refine ⟨t, ?_, t2⟩
 unfold z1l
 rw [z5v hs hK, he, z0e, if_neg (by simp), zc8, hwid, z0e, t1]
 rfl
theorem zla {l : List zAd} (hl : l.length <= 1048576) (hK : 2000000000 < K) : z0l K l l = some true := by
 unfold z0l
 rw [if_neg (by simp), z7k (K := K) (l := l) (L := z0k K l l) (fun _ => none) (fun k => by rw [z0k, if_neg (by simp)]) (fun k i hi => ?_) (by omega)]
 ·have : l.findSome? (fun _ => (none : Option Bool)) = none := by simp
  rw [this]; rfl
 ·have hx : idx l (i : Int) = some l[i] := z1s (zAh hi)
  rw [z0k, if_pos (lt_d hi), hx, z0e, z0e, zdq, k1 (by omega)]
  rfl
theorem zo2 {f : Nat -> Rat} {n N : Nat} {l : List Q} (h : FQ f n l) (hn : n <= 1048576) (hN : N <= 900000) (df : ∀ j, j < n -> Dl (f j) N) (hK : 2000000000 < K) :
  ∃ s e, z5n K l = some (s, e) /\ ((∀ j, j < n -> Dl (f j) 2000) -> e = 0 /\ FT f n s) := by
 have hl := h.1
 obtain ⟨r, r1, r2⟩ := z63 (K := K) n (z2r K l) (fun j s => RTx s (f j)) (fun r => (r = .inl ([], 2) /\ ∃ j, j < n /\ ¬ Dl (f j) 2000) \/ ∃ s, r = .inr s /\ FT f n s) (by omega)
  (fun k acc ha => ⟨.inr acc, by rw [z2r, hl, if_neg (by simp)], .inr ⟨acc, rfl, ha⟩⟩)
  (fun k i acc hi ha => by
   have hx : idx l (i : Int) = some l[i] := z1s (zAh (by omega))
   have hq := h.2 i (by omega)
   obtain ⟨f1, f2⟩ := znw (K := K) hq (df i hi) hN hK
   by_cases c : Dl (f i) 2000
   ·right
    obtain ⟨s, s1, s2⟩ := znv (K := K) hq c (by omega) hK
    have hal := ha.1
    exact ⟨s, s2, by rw [z2r, hl, if_pos (lt_d hi), hx, z0e, f1 c, z0e, if_neg (by simp), s1, z0e, if_pos (by simp; omega), k1 (by omega)]⟩
   ·left
    exact ⟨.inl ([], 2), by rw [z2r, hl, if_pos (lt_d hi), hx, z0e, f2 c, z0e, if_pos (by simp)], .inl ⟨rfl, i, hi, c⟩⟩)
 unfold z5n
 rw [r1]
 rcases r2 with ⟨rfl, j, hj, hn⟩ | ⟨s, rfl, hs⟩
 ·exact ⟨[], 2, rfl, fun hh => absurd (hh j hj) hn⟩
 ·exact ⟨s, 0, rfl, fun _ => ⟨rfl, hs⟩⟩
theorem zlb {f : Nat -> Nat -> Rat} {h w N : Nat} {l : List (List Q)} (hm : MQ f h w l) (hh : h <= 1048576) (hw : w <= 1048576) (hN : N <= 900000) (df : ∀ i j, i < h -> j < w -> Dl (f i j) N) (hK : 2000000000 < K) :
  ∃ s e, z3b K l = some (s, e) /\ ((∀ i j, i < h -> j < w -> Dl (f i j) 2000) -> e = 0 /\ MT f h w s) := by
 classical
 have hl := hm.1
 obtain ⟨r, r1, r2⟩ := z63 (K := K) h (z1k K l) (fun i row => (∀ i j, i < h -> j < w -> Dl (f i j) 2000) -> FT (f i) w row) (fun r => (∃ e, r = .inl ([], e) /\ ¬ ∀ i j, i < h -> j < w -> Dl (f i j) 2000) \/ ∃ s, r = .inr s /\ ((∀ i j, i < h -> j < w -> Dl (f i j) 2000) -> MT f h w s)) (by omega)
  (fun k acc ha => ⟨.inr acc, by rw [z1k, hl, if_neg (by simp)], .inr ⟨acc, rfl, fun hd => ⟨ha.1, fun j hj => ha.2 j hj hd⟩⟩⟩)
  (fun k i acc hi ha => by
   have hx : idx l (i : Int) = some l[i] := z1s (zAh (by omega))
   obtain ⟨s, e, s1, s2⟩ := zo2 (K := K) (hm.2 i (by omega)) hw hN (fun j hj => df i j hi hj) hK
   have hal := ha.1
   by_cases c : e = 0
   ·right
    subst c
    exact ⟨s, fun hd => (s2 fun j hj => hd i j hi hj).2, by rw [z1k, hl, if_pos (lt_d hi), hx, z0e, s1, z0e, if_neg (by simp), if_pos (by simp; omega), k1 (by omega)]⟩
   ·left
    exact ⟨.inl ([], e), by rw [z1k, hl, if_pos (lt_d hi), hx, z0e, s1, z0e, if_pos (by simpa using c)], .inl ⟨e, rfl, fun hd => c (s2 fun j hj => hd i j hi hj).1⟩⟩)
 unfold z3b
 rw [r1]
 rcases r2 with ⟨e, rfl, hn⟩ | ⟨s, rfl, hs⟩
 ·exact ⟨[], e, rfl, fun hh => absurd hh hn⟩
 ·exact ⟨s, 0, rfl, fun hd => ⟨rfl, hs hd⟩⟩
end Go.Am.Tryz
/- Plain law: the turned matrix, products of matrices and vectors. -/
namespace Go.Am.Tryz
open Go Go.Am Go.Proofs
variable {K : Nat}
theorem Fam.set {α : Type} {P : Nat -> α -> Prop} {n j : Nat} {l : List α} {y : α} (h : Fam (fun i x => i ≠ j -> P i x) n l) (hy : P j y) : Fam P n (l.set j y) := by
 refine ⟨by simp [h.1], fun i hi => ?_⟩
 simp only [List.length_set] at hi
 rw [List.getElem_set]
 by_cases c : j = i
 ·subst c; rw [if_pos rfl]; exact hy
 ·rw [if_neg c]; exact h.2 i hi (fun e => c e.symm)
theorem zlc {f : Nat -> Nat -> Rat} {h w : Nat} {g : List (List Q)} (hg : MQ f h w g) (hh : h <= 40) (hw : w <= 40) (h0 : h = 0 -> w = 0) (hK : 2000000000 < K) : ∃ t, z4q K g = some t /\ MQ (fun k i => f i k) w h t := by
 have hl := hg.1
 unfold z4q
 by_cases hz : h = 0
 ·have hw0 := h0 hz
  subst hz hw0
  exact ⟨[], by rw [if_pos (by rw [beq_iff_eq]; omega)], .nil⟩
 ·rw [if_neg (by rw [beq_iff_eq]; omega)]
  have hx0 : idx g 0 = some g[0] := z1s (i := 0) (zAh (by omega))
  have hl0 : g[0].length = w := (hg.2 0 (by omega)).1
  rw [hx0, z0e, hl0, if_pos (by omega)]
  have row : ∀ i, i < h -> ∀ out, MQ (fun k i => f i k) w i out -> ∃ t, z1i K (g.getD i []) K out 0 = some t /\ MQ (fun k i => f i k) w (i + 1) t := fun i hi out ho => by
   have hgi : g.getD i [] = g[i] := by rw [zAb, zAh (by omega)]; rfl
   have hrow : FQ (f i) w g[i] := hg.2 i (by omega)
   have hrl : g[i].length = w := hrow.1
   rw [hgi]
   refine zah (fun k (s : List (List Q) × Int) => z1i K g[i] k s.1 s.2) (fun s => ∃ j : Nat, s.2 = j /\ j <= w /\ Fam (fun k row => FQ (fun i => f i k) (if k < j then i + 1 else i) row) w s.1) (fun s => (w - s.2 : Int).toNat) _ ?_ ((out, 0) : List (List Q) × Int) (by dsimp only; omega) ⟨0, rfl, by omega, ho.mono fun j y _ hy => by rw [if_neg (by omega)]; exact hy⟩
   rintro k ⟨o, _⟩ ⟨j, rfl, h1, h2⟩
   dsimp only at h2 ⊢
   by_cases hj : j < w
   ·right
    have hx : idx g[i] (j : Int) = some (g[i][j]'(by rw [hrow.1]; exact hj)) := z1s (zAh (by rw [hrow.1]; exact hj))
    have hol := h2.1
    have hy : idx o (j : Int) = some (o[j]'(by omega)) := z1s (zAh (by omega))
    have hoj := h2.2 j (by omega)
    replace hoj : FQ (fun i => f i j) i (o[j]'(by omega)) := by
     have : FQ (fun i => f i j) (if j < j then i + 1 else i) (o[j]'(by omega)) := hoj
     rwa [if_neg (by omega)] at this
    have hq : QV (g[i][j]'(by rw [hrow.1]; exact hj)) (f i j) := hrow.2 j (by rw [hrow.1]; exact hj)
    refine ⟨(o.set j (o[j]'(by omega) ++ [g[i][j]'(by rw [hrow.1]; exact hj)]), (j : Int) + 1), ?_, by dsimp only; omega, j + 1, rfl, by omega, ?_⟩
    ·have hojl := hoj.1
     rw [z1i, if_pos (decide_eq_true (by omega)), hx, z0e, hy, z0e, if_pos (by simp; omega), z0e, k64 (by omega) (by omega), Int.toNat_natCast]
    ·refine Fam.set (j := j) (h2.mono fun k y _ hy hk => ?_) ?_
     ·show FQ (fun i => f i k) (if k < j + 1 then i + 1 else i) y
      by_cases c : k < j
      ·rw [if_pos c] at hy; rw [if_pos (by omega)]; exact hy
      ·rw [if_neg c] at hy; rw [if_neg (by omega)]; exact hy
     ·show FQ (fun i => f i j) (if j < j + 1 then i + 1 else i) _
      rw [if_pos (by omega)]; exact hoj.snoc hq
   ·left
    have : j = w := by omega
    subst this
    refine ⟨o, by rw [z1i, if_neg (by rw [hrl]; simp)], h2.mono fun k y hk hy => ?_⟩
    rw [if_pos hk] at hy; exact hy
  have key : ∃ t : List (List Q), z1j K g K (List.replicate (Int.toNat (w : Int)) ([] : List Q)) 0 = some t /\ MQ (fun k i => f i k) w h t := by
   refine zah (fun k (s : List (List Q) × Int) => z1j K g k s.1 s.2) (fun s => ∃ i : Nat, s.2 = i /\ i <= h /\ MQ (fun k i => f i k) w i s.1) (fun s => (h - s.2 : Int).toNat) _ ?_ ((List.replicate (Int.toNat (w : Int)) [], 0) : List (List Q) × Int) (by dsimp only; omega) ⟨0, rfl, by omega, by simp, fun j hj => by simp only [List.getElem_replicate]; exact .nil⟩
   rintro k ⟨o, _⟩ ⟨i, rfl, h1, h2⟩
   dsimp only at h2 ⊢
   by_cases hi : i < h
   ·right
    obtain ⟨t, t1, t2⟩ := row i hi o h2
    have hx : idx g (i : Int) = some (g.getD i []) := by
     rw [zAb, zAh (by omega)]
     exact z1s (zAh (by omega))
    exact ⟨(t, (i : Int) + 1), by rw [z1j, hl, if_pos (lt_d hi), hx, z0e, t1, z0e, tu1a, k64 (by omega) (by omega)], by dsimp only; omega, i + 1, rfl, by omega, t2⟩
   ·left
    have : i = h := by omega
    subst this
    exact ⟨o, by rw [z1j, hl, if_neg (by simp)], h2⟩
  obtain ⟨t, t1, t2⟩ := key
  exact ⟨t, by rw [t1]; rfl, t2⟩
end Go.Am.Tryz
/- Plain law: what Apply and Mul return. -/
namespace Go.Am.Tryz
open Go Go.Am Go.Proofs
variable {K : Nat}
theorem FQ.weak {g : Nat -> Rat} {n m : Nat} {y : List Q} (h : FQ g n y) : Fam (fun j q => j < m -> QV q (g j)) y.length y := ⟨rfl, fun j hj _ => h.2 j hj⟩
theorem zo3 {f g : Nat -> Rat} {n : Nat} (hn : n <= 40) (df : ∀ j, j < n -> Dl (f j) 2000) (dg : ∀ j, j < n -> Dl (g j) 2000) : Dl (sumF (fun j => f j * g j) n) 160121 := by
 have := zgf (f := fun j => f j * g j) (M := 2000 + 2000) (n := n) (fun i hi => (df i hi).mul (dg i hi))
 exact this.mono (by omega)
theorem zjh {f : Nat -> Nat -> Rat} {g : Nat -> Rat} {h w n : Nat} {x : List (List Q)} {y : List Q} (hx : MQ f h w x) (hy : FQ g n y) (hh : h <= 40) (hw : w <= 40) (hwn : 0 < h -> w = n) (df : ∀ i j, i < h -> j < w -> Dl (f i j) 2000) (dg : ∀ j, j < n -> Dl (g j) 2000) (hK : 2000000000 < K) :
  ∃ q, z1w K y x K [] 0 = some q /\ FQ (fun i => sumF (fun j => f i j * g j) w) h q := by
 have hl := hx.1
 have hyl := hy.1
 exact z63 (K := K) h (z1w K y x) (fun i q => QV q (sumF (fun j => f i j * g j) w)) (fun q => FQ (fun i => sumF (fun j => f i j * g j) w) h q) (by omega)
  (fun k acc ha => ⟨acc, by rw [z1w, hl, if_neg (by simp)], ha⟩)
  (fun k i acc hi ha => by
   right
   have hwe := hwn (by omega)
   have hi2 : idx x (i : Int) = some x[i] := z1s (zAh (by omega))
   obtain ⟨q, q1, q2⟩ := zev (K := K) (M := 2000) (hx.2 i (by omega)) (hy.weak) (by omega) hw (by omega) (fun j hj => df i j hi hj) (fun j hj => dg j (by omega)) hK
   have hal := ha.1
   exact ⟨q, q2, by rw [z1w, hl, if_pos (lt_d hi), hi2, z0e, q1, z0e, if_pos (by simp; omega), k1 (by omega)]⟩)
theorem zmk {f : Nat -> Nat -> Rat} {g : Nat -> Rat} {h w n : Nat} {m : List (List zAd)} {v : List zAd} (sm : MOk m) (sv : ∀ s ∈ v, s.size <= 1048576) (em : matE m = 0) (ev : vecE v = 0) (hm : MT f h w m) (hv : FT g n v) (hh : h <= 40) (hw : w <= 40) (hn : n <= 40) (hwid : wid m = w) (hwn : 0 < h -> w = n) (df : ∀ i j, i < h -> j < w -> Dl (f i j) 2000) (dg : ∀ j, j < n -> Dl (g j) 2000) (hK : 2000000000 < K) :
  ∃ s e, z1q K m v = some (s, e) /\ ((∀ i, i < h -> Dl (sumF (fun j => f i j * g j) w) 2000) -> e = 0 /\ FT (fun i => sumF (fun j => f i j * g j) w) h s) := by
 obtain ⟨x, x1, x2⟩ := zow (K := K) hm sm (by omega) hK
 obtain ⟨y, y1, y2⟩ := znz (K := K) hv sv (by omega) hK
 obtain ⟨q, q1, q2⟩ := zjh (K := K) x2 y2 hh hw hwn df dg hK
 obtain ⟨s, e, s1, s2⟩ := zo2 (K := K) (N := 160121) q2 (by omega) (by omega) (fun i hi => zo3 hw (fun j hj => df i j hi hj) (fun j hj => dg j (by have := hwn (by omega); omega))) hK
 have hml := hm.1
 have hvl := hv.1
 refine ⟨s, e, ?_, s2⟩
 have hc : (Option.bind (z28 K m) fun x34 => if (x34 != (v.length : Int)) = true then some (decide ((m.length : Int) > 0)) else some false) = some false := by
  rw [zc8, z0e, hwid]
  by_cases hp : 0 < h
  ·have := hwn hp
   rw [if_neg (fun e => ne_len.1 e (by omega))]
  ·by_cases c : w = n
   ·rw [if_neg (fun e => ne_len.1 e (by omega))]
   ·rw [if_pos (ne_len.2 (by omega)), decide_eq_false (by omega)]
 unfold z1q
 rw [z5v sm hK, em, z0e, if_neg (by simp), z95 (by omega) sv hK, ev, z0e, if_neg (by simp), hc, z0e, tu1a, if_neg (by simp), y1, z0e, x1, z0e, q1, z0e, tu1a, s1, z0e]
theorem zox {f g : Nat -> Nat -> Rat} {h w wb : Nat} {a b : List (List zAd)} (sa : MOk a) (sb : MOk b) (ea : matE a = 0) (eb : matE b = 0) (ha : MT f h w a) (hb : MT g w wb b) (hh : h <= 40) (hw : w <= 40) (hwb : wb <= 40) (wa : wid a = w) (h0 : w = 0 -> wb = 0) (df : ∀ i j, i < h -> j < w -> Dl (f i j) 2000) (dg : ∀ i j, i < w -> j < wb -> Dl (g i j) 2000) (hK : 2000000000 < K) :
  ∃ s e, z31 K a b = some (s, e) /\ ((∀ i k, i < h -> k < wb -> Dl (sumF (fun j => f i j * g j k) w) 2000) -> e = 0 /\ MT (fun i k => sumF (fun j => f i j * g j k) w) h wb s) := by
 obtain ⟨x, x1, x2⟩ := zow (K := K) ha sa (by omega) hK
 obtain ⟨y, y1, y2⟩ := zow (K := K) hb sb (by omega) hK
 obtain ⟨t, t1, t2⟩ := zlc (K := K) y2 hw hwb h0 hK
 have htl := t2.1
 have hxl := x2.1
 have line : ∀ i, i < h -> ∃ q, z2s K t (x.getD i []) K [] 0 = some q /\ FQ (fun k => sumF (fun j => f i j * g j k) w) wb q := fun i hi => by
  have hgi : x.getD i [] = x[i] := by rw [zAb, zAh (by omega)]; rfl
  rw [hgi]
  exact z63 (K := K) wb (z2s K t x[i]) (fun k q => QV q (sumF (fun j => f i j * g j k) w)) (fun q => FQ (fun k => sumF (fun j => f i j * g j k) w) wb q) (by omega)
   (fun k acc hc => ⟨acc, by rw [z2s, htl, if_neg (by simp)], hc⟩)
   (fun k c acc hc hacc => by
    right
    have hi2 : idx t (c : Int) = some t[c] := z1s (zAh (by omega))
    have htc : FQ (fun j => g j c) w t[c] := t2.2 c (by omega)
    have htcl := htc.1
    obtain ⟨q, q1, q2⟩ := zev (K := K) (M := 2000) (x2.2 i (by omega)) htc.weak (by omega) hw (by omega) (fun j hj => df i j hi hj) (fun j hj => dg j c hj hc) hK
    have hal := hacc.1
    exact ⟨q, q2, by rw [z2s, htl, if_pos (lt_d hc), hi2, z0e, q1, z0e, if_pos (by simp; omega), k1 (by omega)]⟩)
 obtain ⟨q, q1, q2⟩ := z63 (K := K) h (fun k acc i => z3c K x t k acc i) (fun i row => FQ (fun k => sumF (fun j => f i j * g j k) w) wb row) (fun q => MQ (fun i k => sumF (fun j => f i j * g j k) w) h wb q) (by omega)
  (fun k acc hc => ⟨acc, by rw [z3c, hxl, if_neg (by simp)], hc⟩)
  (fun k i acc hi hacc => by
   right
   have hi2 : idx x (i : Int) = some (x.getD i []) := by
    rw [zAb, zAh (by omega)]
    exact z1s (zAh (by omega))
   obtain ⟨q, q1, q2⟩ := line i hi
   have hal := hacc.1
   exact ⟨q, q2, by rw [z3c, hxl, if_pos (lt_d hi), hi2, z0e, q1, z0e, tu1a, if_pos (by simp; omega), k1 (by omega)]⟩)
 obtain ⟨s, e, s1, s2⟩ := zlb (K := K) (N := 160121) q2 (by omega) (by omega) (by omega) (fun i k hi hk => zo3 hw (fun j hj => df i j hi hj) (fun j hj => dg j k hj hk)) hK
 have hbl := hb.1
 refine ⟨s, e, ?_, s2⟩
 unfold z31
 rw [z5v sa hK, ea, z0e, if_neg (by simp), z5v sb hK, eb, z0e, if_neg (by simp), zc8, wa, z0e, if_neg (fun e => ne_len.1 e (by omega)), y1, z0e, t1, z0e, x1, z0e, q1, z0e, tu1a, s1, z0e]
end Go.Am.Tryz
/- Plain law: the comparisons of MatrixProducts. -/
namespace Go.Am.Tryz
open Go Go.Am Go.Proofs
variable {K : Nat}
theorem zbi {α R : Type} (l : List α) : l.findSome? (fun _ => (none : Option R)) = none := by simp
theorem zld {f : Nat -> Nat -> Rat} {h w : Nat} {e : Int} {a t : List (List zAd)} (ha : MT f h w a) (ht : MT (fun k i => f i k) w h t) (hh : h <= 40) (hw : w <= 40) (hK : 2000000000 < K) : z0t K a (t, e) K 0 = some (.inr ()) := by
 have htl := ht.1
 rw [z7k (K := K) (l := t) (L := z0t K a (t, e)) (fun _ => none) (fun k => by rw [z0t, if_neg (by simp)]) (fun k i hi => ?_) (by omega), zbi]
 ·rfl
 ·have hx : idx t (i : Int) = some t[i] := z1s (zAh hi)
  obtain ⟨c, c1, c2⟩ := zgk (K := K) (j := i) ha (by omega) (by omega) hK
  have hti : FT (fun j => f j i) h t[i] := ht.2 i hi
  have hil := hti.1
  rw [z0t, if_pos (lt_d hi), hx, z0e, c1, z0e, <- hti.uniq c2, zla (by omega) hK, z0e, if_neg (by simp), k1 (by omega)]
theorem zji {f : Nat -> Nat -> Rat} {g : Nat -> Rat} {h w : Nat} {e : Int} {a : List (List zAd)} {v x : List zAd} (ha : MT f h w a) (hv : 0 < h -> FT g w v) (hx : FT (fun i => sumF (fun j => f i j * g j) w) h x) (hh : h <= 40) (hw : w <= 40) (df : ∀ i j, i < h -> j < w -> Dl (f i j) 13) (dg : 0 < h -> ∀ j, j < w -> Dl (g j) 13) (hK : 2000000000 < K) : z0p K a v (x, e) K 0 = some (.inr ()) := by
 have hal := ha.1
 have hxl := hx.1
 rw [z7k (K := K) (l := a) (L := z0p K a v (x, e)) (fun _ => none) (fun k => by rw [z0p, if_neg (by simp)]) (fun k i hi => ?_) (by omega), zbi]
 ·rfl
 ·have h1 : idx a (i : Int) = some a[i] := z1s (zAh hi)
  have h2 : idx x (i : Int) = some x[i] := z1s (zAh (by omega))
  obtain ⟨d, d1, d2⟩ := zls (K := K) (ha.2 i hi) (hv (by omega)) hw (fun j hj => df i j (by omega) hj) (dg (by omega)) hK
  have hxi : RTx x[i] (sumF (fun j => f i j * g j) w) := hx.2 i (by omega)
  rw [z0p, if_pos (lt_d hi), h1, z0e, h2, z0e, d1, z0e, hxi.inj d2, zdq, if_neg (by simp), k1 (by omega)]
theorem zml {f g : Nat -> Nat -> Rat} {h w wb : Nat} {e : Int} {a b m : List (List zAd)} (ha : MT f h w a) (hb : MT g w wb b) (hm : MT (fun i k => sumF (fun j => f i j * g j k) w) h wb m) (hwid : wid b = wb) (hh : h <= 40) (hw : w <= 40) (hwb : wb <= 40) (df : ∀ i j, i < h -> j < w -> Dl (f i j) 13) (dg : ∀ i j, i < w -> j < wb -> Dl (g i j) 13) (hK : 2000000000 < K) : z0q K a b (m, e) K 0 = some (.inr ()) := by
 have hal := ha.1
 have hml := hm.1
 rw [z7k (K := K) (l := a) (L := z0q K a b (m, e)) (fun _ => none) (fun k => by rw [z0q, if_neg (by simp)]) (fun k i hi => ?_) (by omega), zbi]
 ·rfl
 ·have h1 : idx a (i : Int) = some a[i] := z1s (zAh hi)
  have h2 : idx m (i : Int) = some m[i] := z1s (zAh (by omega))
  have hmi : FT (fun k => sumF (fun j => f i j * g j k) w) wb m[i] := hm.2 i (by omega)
  have hmil := hmi.1
  have inner : z0u K b a[i] m[i] K 0 = some (.inr ()) := by
   rw [z7k (K := K) (l := m[i]) (L := z0u K b a[i] m[i]) (fun _ => none) (fun k => by rw [z0u, if_neg (by simp)]) (fun k c hc => ?_) (by omega), zbi]
   ·rfl
   ·have h3 : idx m[i] (c : Int) = some m[i][c] := z1s (zAh hc)
    obtain ⟨col, c1, c2⟩ := zgk (K := K) (j := c) hb (by omega) (by omega) hK
    obtain ⟨d, d1, d2⟩ := zls (K := K) (ha.2 i hi) c2 hw (fun j hj => df i j (by omega) hj) (fun j hj => dg j c hj (by omega)) hK
    have hx : RTx m[i][c] (sumF (fun j => f i j * g j c) w) := hmi.2 c hc
    rw [z0u, if_pos (lt_d hc), h3, z0e, c1, z0e, d1, z0e, hx.inj d2, zdq, if_neg (by simp), k1 (by omega)]
  rw [z0q, if_pos (lt_d hi), h1, z0e, h2, z0e, zgj, hwid, z0e, if_neg (by rw [hmil]; simp), z0e, inner, k1 (by omega)]
  rfl
end Go.Am.Tryz
/- Plain law: MatrixProducts answers true. -/
namespace Go.Am.Tryz
open Go Go.Am Go.Proofs
variable {K : Nat}
def zex (m : List (List zAd)) : Prop := ∀ row ∈ m, ∀ s ∈ row, s.size <= 12
theorem zds {f : Nat -> Nat -> Rat} {h w : Nat} {m : List (List zAd)} (hm : MT f h w m) (hs : zex m) : ∀ i j, i < h -> j < w -> Dl (f i j) 13 := fun i j hi hj => by
 have hl := hm.1
 have hr : FT (f i) w m[i] := hm.2 i (by omega)
 exact zjg hr (hs _ (List.getElem_mem (by omega))) j hj
theorem dl26 {f g : Nat -> Rat} {n : Nat} (hn : n <= 40) (df : ∀ j, j < n -> Dl (f j) 13) (dg : ∀ j, j < n -> Dl (g j) 13) : Dl (sumF (fun j => f j * g j) n) 2000 := by
 have := zgf (f := fun j => f j * g j) (M := 13 + 13) (n := n) (fun i hi => (df i hi).mul (dg i hi))
 exact this.mono (by omega)
theorem zmm {f : Nat -> Nat -> Rat} {a b : List (List zAd)} (sa : MOk a) (sb : MOk b) (ea : matE a = 0) (ha : MT f a.length (wid a) a) (la : a.length <= 40) (wa : wid a <= 40) (df : ∀ i j, i < a.length -> j < wid a -> Dl (f i j) 2000) (hK : 2000000000 < K) :
  ∃ m e, z31 K a b = some (m, e) /\ (matE b ≠ 0 -> e = matE b /\ m = []) /\ (matE b = 0 -> wid a ≠ b.length -> e = 3 /\ m = []) ∧
   (matE b = 0 -> wid a = b.length -> zex a -> zex b -> e = 0 /\ m.length = a.length /\ z0q K a b (m, e) K 0 = some (.inr ())) := by
 by_cases eb : matE b = 0
 ·by_cases hw : wid a = b.length
  ·obtain ⟨g, g1, g2, g3, g4⟩ := zo1 sb eb
   rw [<- hw] at g1 g4
   have h0 : wid a = 0 -> wid b = 0 := fun h => by
    have : b = [] := List.length_eq_zero_iff.1 (by omega)
    subst this; rfl
   obtain ⟨s, e, s1, s2⟩ := zox (K := K) sa sb ea eb ha g1 la wa g3 rfl h0 df g4 hK
   refine ⟨s, e, s1, fun h => absurd eb h, fun _ h => absurd hw h, fun _ _ ka kb => ?_⟩
   have d1 := zds ha ka
   have d2 := zds g1 kb
   obtain ⟨rfl, hm⟩ := s2 fun i k hi hk => dl26 wa (fun j hj => d1 i j hi hj) (fun j hj => d2 j k hj hk)
   exact ⟨rfl, hm.1, zml ha g1 hm rfl la wa g3 d1 d2 hK⟩
  ·refine ⟨[], 3, ?_, fun h => absurd eb h, fun _ _ => ⟨rfl, rfl⟩, fun _ h => absurd h hw⟩
   unfold z31
   rw [z5v sa hK, ea, z0e, if_neg (by simp), z5v sb hK, eb, z0e, if_neg (by simp), zc8, z0e, if_pos (ne_len.2 hw)]
 ·refine ⟨[], matE b, ?_, fun _ => ⟨rfl, rfl⟩, fun h => absurd h eb, fun h => absurd h eb⟩
  unfold z31
  rw [z5v sa hK, ea, z0e, if_neg (by simp), z5v sb hK, z0e, if_pos (by simpa using eb)]
theorem zjj {f : Nat -> Nat -> Rat} {a : List (List zAd)} {v : List zAd} (sa : MOk a) (lv : v.length <= 1048576) (sv : ∀ s ∈ v, s.size <= 1048576) (ea : matE a = 0) (ha : MT f a.length (wid a) a) (la : a.length <= 40) (wa : wid a <= 40) (df : ∀ i j, i < a.length -> j < wid a -> Dl (f i j) 2000) (hK : 2000000000 < K) :
  ∃ x e, z1q K a v = some (x, e) /\ (vecE v ≠ 0 -> e = vecE v /\ x = []) /\ (vecE v = 0 -> (0 < a.length /\ wid a ≠ v.length) -> e = 3 /\ x = []) ∧
   (vecE v = 0 -> ¬ (0 < a.length /\ wid a ≠ v.length) -> zex a -> (∀ s ∈ v, s.size <= 12) -> e = 0 /\ x.length = a.length /\ z0p K a v (x, e) K 0 = some (.inr ())) := by
 by_cases ev : vecE v = 0
 ·by_cases hw : 0 < a.length /\ wid a ≠ v.length
  ·refine ⟨[], 3, ?_, fun h => absurd ev h, fun _ _ => ⟨rfl, rfl⟩, fun _ h => absurd hw h⟩
   unfold z1q
   rw [z5v sa hK, ea, z0e, if_neg (by simp), z95 lv sv hK, ev, z0e, if_neg (by simp), zc8, z0e, if_pos (ne_len.2 hw.2), decide_eq_true (by omega), z0e, tu1a, if_pos rfl]
  ·obtain ⟨g, g1, g2, g3⟩ := zo0 sv ev
   have hwn : 0 < a.length -> wid a = v.length := fun h => Decidable.byContradiction fun c => hw ⟨h, c⟩
   obtain ⟨s, e, s1, s2⟩ := zmk (K := K) sa sv ea ev ha g1 la wa g2 rfl hwn df g3 hK
   refine ⟨s, e, s1, fun h => absurd ev h, fun _ h => absurd h hw, fun _ _ ka kv => ?_⟩
   have d1 := zds ha ka
   have d2 := zjg g1 kv
   obtain ⟨rfl, hx⟩ := s2 fun i hi => dl26 wa (fun j hj => d1 i j hi hj) (fun j hj => d2 j (by have := hwn (by omega); omega))
   refine ⟨rfl, hx.1, zji ha (fun h => by rw [hwn h]; exact g1) hx la wa d1 (fun h j hj => d2 j (by have := hwn h; omega)) hK⟩
 ·refine ⟨[], vecE v, ?_, fun _ => ⟨rfl, rfl⟩, fun h => absurd h ev, fun h => absurd h ev⟩
  unfold z1q
  rw [z5v sa hK, ea, z0e, if_neg (by simp), z95 lv sv hK, z0e, if_pos (by simpa using ev)]
end Go.Am.Tryz
/- Plain law: MatrixProducts answers true. -/
namespace Go.Am.Tryz
open Go Go.Am Go.Proofs
variable {K : Nat}
theorem zaf {a b : List (List zAd)} {v : List zAd} (sa : MOk a) (sb : MOk b) (hv : v.length <= 1048576 /\ ∀ s ∈ v, s.size <= 1048576) : ∃ K, z3x K a b v = some true := by
 obtain ⟨lv, sv⟩ := hv
 refine ⟨2000000001, ?_⟩
 have hK : 2000000000 < 2000000001 := by omega
 have sv1 : MOk [v] := ⟨by simp, fun row hr => by simp at hr; subst hr; exact ⟨lv, sv⟩⟩
 have hv2 : z6a 2000000001 6 [a, b] = some (zc7 6 [a, b]) := zlr (by simp) (fun x hx => by
  simp at hx
  rcases hx with rfl | rfl
  ·exact sa
  ·exact sb) hK
 have hv3 : z6a 2000000001 6 [a, b, [v]] = some (zc7 6 [a, b, [v]]) := zlr (by simp) (fun x hx => by
  simp at hx
  rcases hx with rfl | rfl | rfl
  ·exact sa
  ·exact sb
  ·exact sv1) hK
 unfold z3x
 simp only [zck, zgi sa hK, zgi sb hK, zgg lv sv hK, hv2, hv3, zgj, z0e, Bool.not_true, Bool.false_eq_true, if_false, zl8 hK]
 by_cases ea : matE a = 0
 ·obtain ⟨f, f1, f2, f3, f4⟩ := zo1 sa ea
  obtain ⟨m, e, m1, m2, m3, m4⟩ := zmm (K := 2000000001) sa sb ea f1 f2 f3 f4 hK
  obtain ⟨x, d, x1, x2, x3, x4⟩ := zjj (K := 2000000001) (v := v) sa lv sv ea f1 f2 f3 f4 hK
  obtain ⟨t, t1, t2⟩ := zfh (K := 2000000001) ea sa f1 f2 f3 rfl hK
  have tl := t2.1
  have tsame := zld (K := 2000000001) (e := 0) f1 t2 f2 f3 hK
  have big : zc7 6 [a, b, [v]] = false -> zc7 6 [a, b] = false /\ zex a /\ zex b /\ ∀ s ∈ v, s.size <= 12 := fun h => by
   have hs := zew h
   refine ⟨?_, fun row hr s hs2 => ((hs a (by simp)).2 row hr).2 s hs2, fun row hr s hs2 => ((hs b (by simp)).2 row hr).2 s hs2, fun s hs2 => ((hs [v] (by simp)).2 v (by simp)).2 s hs2⟩
   unfold zc7 at h ⊢
   rw [List.any_eq_false] at h ⊢
   exact fun y hy => h y (by simp at hy ⊢; rcases hy with h | h <;> simp [h])
  have small2 : zc7 6 [a, b] = false -> zex a /\ zex b := fun h => by
   have hs := zew h
   exact ⟨fun row hr s hs2 => ((hs a (by simp)).2 row hr).2 s hs2, fun row hr s hs2 => ((hs b (by simp)).2 row hr).2 s hs2⟩
  rw [m1, x1, t1]
  simp only [ea, z0e, bne_self_eq_false, Bool.false_eq_true, if_false, ne_eq, not_true, if_true]
  have hap0 : ¬ (0 < a.length /\ wid a ≠ v.length) -> (if 0 < a.length then some (((wid a : Nat) : Int) != (v.length : Int)) else some false) = some false := fun hn => by
   by_cases hp : 0 < a.length
   ·rw [if_pos hp]
    have : wid a = v.length := Decidable.byContradiction fun c => hn ⟨hp, c⟩
    simp [this]
   ·rw [if_neg hp]
  have hap1 : (0 < a.length /\ wid a ≠ v.length) -> (if 0 < a.length then some (((wid a : Nat) : Int) != (v.length : Int)) else some false) = some true := fun hn => by
   rw [if_pos hn.1, ne_len.2 hn.2]
  have hne : matE b = 0 -> wid a ≠ b.length -> (((wid a : Nat) : Int) != (b.length : Int)) = true := fun _ h => ne_len.2 h
  by_cases eb : matE b = 0
  ·by_cases hw : wid a = b.length
   ·have he2 : zc7 6 [a, b] = false -> e = 0 := fun h => (m4 eb hw (small2 h).1 (small2 h).2).1
    have hchk : (if e = 0 then some false else if zc7 6 [a, b] = false then some true else some false) = some false := by
     cases hc : zc7 6 [a, b] with
     | true => simp
     | false => rw [he2 hc]; simp
    by_cases ev : vecE v = 0
    ·by_cases hn : 0 < a.length /\ wid a ≠ v.length
     ·obtain ⟨rfl, rfl⟩ := x3 ev hn
      have h1 := hap1 hn
      rw [hw] at h1
      cases hc3 : zc7 6 [a, b, [v]] with
      | true => simp [eb, ev, z0e, tu1a, hw, hchk, h1]
      | false =>
       obtain ⟨b1, b2, b3, b4⟩ := big hc3
       obtain ⟨rfl, ml, l4⟩ := m4 eb hw b2 b3
       simp [eb, ev, z0e, tu1a, hw, tl, ml, l4, tsame, zas, tu0a, h1]
     ·have h1 := hap0 hn
      rw [hw] at h1
      cases hc3 : zc7 6 [a, b, [v]] with
      | true =>
       have hd : d = 0 \/ d ≠ 0 := by omega
       simp [eb, ev, z0e, tu1a, hw, hchk, h1]
      | false =>
       obtain ⟨b1, b2, b3, b4⟩ := big hc3
       obtain ⟨rfl, ml, l4⟩ := m4 eb hw b2 b3
       obtain ⟨rfl, xl, l2⟩ := x4 ev hn b2 b4
       simp [eb, ev, z0e, tu1a, hw, tl, ml, xl, l4, l2, tsame, zas, tu0a, h1]
    ·obtain ⟨rfl, rfl⟩ := x2 ev
     cases hc3 : zc7 6 [a, b, [v]] with
     | true => simp [eb, ev, z0e, tu1a, hw, hchk]
     | false =>
      obtain ⟨b1, b2, b3, b4⟩ := big hc3
      obtain ⟨rfl, ml, l4⟩ := m4 eb hw b2 b3
      simp [eb, ev, z0e, tu1a, hw, tl, ml, l4, tsame, zas, tu0a]
   ·obtain ⟨rfl, rfl⟩ := m3 eb hw
    have hne' := hne eb hw
    by_cases ev : vecE v = 0
    ·by_cases hn : 0 < a.length /\ wid a ≠ v.length
     ·obtain ⟨rfl, rfl⟩ := x3 ev hn
      have h1 := hap1 hn
      cases hc3 : zc7 6 [a, b, [v]] <;> simp [eb, ev, z0e, tu1a, hne', tl, tsame, zas, tu0a, h1]
     ·have h1 := hap0 hn
      cases hc3 : zc7 6 [a, b, [v]] with
      | true => simp [eb, ev, z0e, tu1a, hne', h1]
      | false =>
       obtain ⟨b1, b2, b3, b4⟩ := big hc3
       obtain ⟨rfl, xl, l2⟩ := x4 ev hn b2 b4
       simp [eb, ev, z0e, tu1a, hne', tl, xl, l2, tsame, zas, tu0a, h1]
    ·obtain ⟨rfl, rfl⟩ := x2 ev
     cases hc3 : zc7 6 [a, b, [v]] <;> simp [eb, ev, z0e, tu1a, hne', tl, tsame, zas, tu0a]
  ·obtain ⟨rfl, rfl⟩ := m2 eb
   by_cases ev : vecE v = 0
   ·by_cases hn : 0 < a.length /\ wid a ≠ v.length
    ·obtain ⟨rfl, rfl⟩ := x3 ev hn
     have h1 := hap1 hn
     cases hc3 : zc7 6 [a, b, [v]] <;> simp [eb, ev, z0e, tu1a, tl, tsame, zas, tu0a, h1]
    ·have h1 := hap0 hn
     cases hc3 : zc7 6 [a, b, [v]] with
     | true => simp [eb, ev, z0e, tu1a, h1]
     | false =>
      obtain ⟨b1, b2, b3, b4⟩ := big hc3
      obtain ⟨rfl, xl, l2⟩ := x4 ev hn b2 b4
      simp [eb, ev, z0e, tu1a, tl, xl, l2, tsame, zas, tu0a, h1]
   ·obtain ⟨rfl, rfl⟩ := x2 ev
    cases hc3 : zc7 6 [a, b, [v]] <;> simp [eb, ev, z0e, tu1a, tl, tsame, zas, tu0a]
 ·have hm : z31 2000000001 a b = some ([], matE a) := by
   unfold z31
   rw [z5v sa hK, z0e, if_pos (by simpa using ea)]
  have hx : z1q 2000000001 a v = some ([], matE a) := by
   unfold z1q
   rw [z5v sa hK, z0e, if_pos (by simpa using ea)]
  have ht : z1l 2000000001 a = some ([], matE a) := by
   unfold z1l
   rw [z5v sa hK, z0e, if_pos (by simpa using ea)]
  rw [hm, hx, ht]
  cases hc3 : zc7 6 [a, b, [v]] <;> simp [ea, z0e, tu1a]
end Go.Am.Tryz
/- From a statement's arguments, read as data, to typed data. -/
namespace Go.Am
open Go Go.Proofs.YtdogeclnbdldaaaGreatDoor
section
variable {H : Type} {P : Program} {G : GM} {n B : Nat} {t e : TypeId} {α β S : Type} {r : RT α} {s : RT β} {I : α -> Prop} {J : β -> Prop}
theorem zmn {H : Type} (d : DataW H) : 1 <= Rows.uptoBulk d := by
 cases d with
 | lit l => cases l <;> simp [Rows.uptoBulk]
 | _ => simp [Rows.uptoBulk]
theorem zjk {H : Type} : ∀ (ds : List (DataW H)), ds.length <= Rows.uptoBulkAll ds
 | [] => Nat.zero_le _
 | d :: r => by
  have := zjk r
  have := zmn d
  simp only [Rows.uptoBulkAll, List.length_cons]; omega
def Arg (H : Type) (P : Program) (G : GM) (n : Nat) (t : TypeId) (r : RT α) (B : Nat) (I : α -> Prop) : Prop := ∀ (cs : List Value) (d : DataW H), AData P G n t cs d -> Rows.uptoBulk d <= B -> ∃ x, r.rep G cs x /\ I x
def ArgS (H : Type) (P : Program) (G : GM) (n : Nat) (ts : List TypeId) (r : RT α) (B : Nat) (I : α -> Prop) : Prop :=
 ∀ (css : List (List Value)) (ds : List (DataW H)), AllD (AData P G n) P.cellsOf ts css ds -> Rows.uptoBulkAll ds <= B -> ∃ x, r.rep G css.flatten x /\ I x
theorem zmo {k : IntKind} {x : Int} (h : (Lit.int k x).wf = true) : z9r k x = true := by
 cases k <;> simp [Lit.wf, IntKind.min, IntKind.max, IntKind.signed, IntKind.bits] at h <;> simp [z9r] <;> omega
theorem Arg.mono {I J : α -> Prop} (h : Arg H P G n t r B I) (k : ∀ x, I x -> J x) : Arg H P G n t r B J := fun cs d hd hb => by
 obtain ⟨x, h1, h2⟩ := h cs d hd hb
 exact ⟨x, h1, k x h2⟩
theorem Arg.int {k : IntKind} (hu : P.underlying t = some (.int k)) : Arg H P G (n + 1) t (rI k) B (fun x => z9r k x = true) := fun cs d h _ => by
 unfold AData at h
 simp only [hu] at h
 obtain ⟨x, h1, h2, h3⟩ := h
 exact ⟨x, h1, zmo h3⟩
theorem Arg.bool (hu : P.underlying t = some .bool) : Arg H P G (n + 1) t rB B (fun _ => True) := fun cs d h _ => by
 unfold AData at h
 simp only [hu] at h
 obtain ⟨x, h1, _⟩ := h
 exact ⟨x, h1, trivial⟩
theorem Arg.str (hu : P.underlying t = some .string) : Arg H P G (n + 1) t rS B (fun x => x.size <= B) := fun cs d h hb => by
 unfold AData at h
 simp only [hu] at h
 obtain ⟨x, h1, h2, _⟩ := h
 refine ⟨x, h1, ?_⟩
 rw [h2] at hb
 simp only [Rows.uptoBulk, Array.length_toList] at hb
 have : x.data.size = x.size := rfl
 omega
theorem zdt (h : Arg H P G n e r B I) : ∀ (k : Nat) (css : List (List Value)) (ds : List (DataW H)), AllD (AData P G n) P.cellsOf (List.replicate k e) css ds -> Rows.uptoBulkAll ds <= B -> ∃ xs : List α, All2 (r.rep G) css xs /\ (∀ x ∈ xs, I x) /\ xs.length = k
 | 0, [], [], _, _ => ⟨[], .nil, by simp, rfl⟩
 | 0, _ :: _, _, h, _ => by simp [List.replicate, AllD] at h
 | 0, [], _ :: _, h, _ => by simp [List.replicate, AllD] at h
 | k + 1, [], _, h, _ => by simp [List.replicate, AllD] at h
 | k + 1, _ :: _, [], h, _ => by simp [List.replicate, AllD] at h
 | k + 1, c :: css, d :: ds, hA, hb => by
  simp only [List.replicate, AllD] at hA
  simp only [Rows.uptoBulkAll] at hb
  obtain ⟨x, h1, h2⟩ := h _ _ hA.1.1 (by omega)
  obtain ⟨xs, h3, h4, h5⟩ := zdt h k css ds hA.2 (by omega)
  refine ⟨x :: xs, .cons h1 h3, fun y hy => ?_, by simp [h5]⟩
  rcases List.mem_cons.1 hy with rfl | hy
  ·exact h2
  ·exact h4 y hy
theorem zgl {R : TypeId -> List Value -> DataW H -> Prop} {sz : TypeId -> Nat} : ∀ (k : Nat) {ts : List TypeId} {cs : List (List Value)} {ds : List (DataW H)}, AllD R sz ts cs ds -> AllD R sz (ts.take k) (cs.take k) (ds.take k)
 | 0, _, _, _, _ => by simp [AllD]
 | k + 1, [], [], [], _ => by simp [AllD]
 | k + 1, _ :: _, _ :: _, _ :: _, h => by simp only [List.take_succ_cons]; exact ⟨h.1, zgl k h.2⟩
theorem zjl {R : TypeId -> List Value -> DataW H -> Prop} {sz : TypeId -> Nat} {e : TypeId} : ∀ (k : Nat) (css : List (List Value)) (ds : List (DataW H)), AllD R sz (List.replicate k e) css ds -> ∀ c ∈ css, c.length = sz e
 | 0, [], [], _, c, hc => by simp at hc
 | 0, _ :: _, _, h, _, _ => by simp [List.replicate, AllD] at h
 | 0, [], _ :: _, h, _, _ => by simp [List.replicate, AllD] at h
 | k + 1, [], _, h, _, _ => by simp [List.replicate, AllD] at h
 | k + 1, _ :: _, [], h, _, _ => by simp [List.replicate, AllD] at h
 | k + 1, c :: css, d :: ds, hA, u, hu => by
  simp only [List.replicate, AllD] at hA
  rcases List.mem_cons.1 hu with rfl | hu
  ·exact hA.1.2
  ·exact zjl k css ds hA.2 u hu
theorem Arg.sl (hu : P.underlying t = some (.slice e)) (h : Arg H P G n e r B I) : Arg H P G (n + 1) t (rSl r) B (fun xs => xs.length <= B /\ ∀ x ∈ xs, I x) := fun cs d hA hb => by
 unfold AData at hA
 simp only [hu] at hA
 rcases hA with ⟨h1, h2⟩ | ⟨b, len, cap, elems, spare, css, h1, h2, h3, h4, _, h6, h7⟩
 ·subst h1
  exact ⟨[], zkc, Nat.zero_le _, by simp⟩
 ·subst h2
  simp only [Rows.uptoBulk] at hb
  have hlen := zjk elems
  have h8 := zgl len h7
  rw [List.take_replicate, show min len cap = len by omega, <- h3, List.take_left] at h8
  obtain ⟨xs, k1, k2, k3⟩ := zdt h elems.length (css.take elems.length) elems h8 (by omega)
  refine ⟨xs, ?_, by omega, k2⟩
  have hcl := zjl _ _ _ h7
  have hel := k1.length
  by_cases hz : elems.length = 0
  ·have hx : xs = [] := List.length_eq_zero_iff.1 (by omega)
   subst hx
   refine ⟨_, [], h1, ⟨by simp, .inr (.inr ⟨b, 0, some 0, cap, by rw [<- h3, hz], rfl, .inr rfl⟩)⟩, .nil⟩
  ·rcases h6 with h6 | ⟨x, g1, _, g3⟩
   ·omega
   ·refine ⟨_, css.take elems.length, h1, ⟨k1.each, .inr (.inl ⟨b, 0, some 0, cap, x, by rw [hel, k3, <- h3], g1, ?_, ?_, by rw [hel, k3]; omega, .inr rfl⟩)⟩, k1⟩
    ·rw [g3]
     have h9 : css.flatten = (css.take elems.length).flatten ++ (css.drop elems.length).flatten := by rw [<- List.flatten_append, List.take_append_drop]
     rw [h9, List.length_append, k1.flatLen, hel]; omega
    ·rw [g3, List.drop_zero]
     have h9 : css.flatten = (css.take elems.length).flatten ++ (css.drop elems.length).flatten := by rw [<- List.flatten_append, List.take_append_drop]
     have h10 : (css.take elems.length).length * r.sz = (css.take elems.length).flatten.length := by rw [k1.flatLen, hel]
     rw [h9, h10, List.take_left]
theorem Arg.arr {k : Nat} (hu : P.underlying t = some (.array k e)) (h : Arg H P G n e r B I) : Arg H P G (n + 1) t (rArr k r) B (fun xs => xs.length = k /\ ∀ x ∈ xs, I x) := fun cs d hA hb => by
 unfold AData at hA
 simp only [hu] at hA
 obtain ⟨css, parts, h1, h2, h3⟩ := hA
 subst h2
 simp only [Rows.uptoBulk] at hb
 obtain ⟨xs, k1, k2, k3⟩ := zdt h k css parts h3 (by omega)
 exact ⟨xs, ⟨k3, css, h1, k1⟩, k3, k2⟩
theorem ArgS.one (h : Arg H P G n t r B I) : ArgS H P G n [t] r B I := fun css ds hA hb => by
 match css, ds, hA with
 | [c], [d], hA =>
  simp only [Rows.uptoBulkAll] at hb
  obtain ⟨x, h1, h2⟩ := h c d hA.1.1 (by omega)
  exact ⟨x, by simpa using h1, h2⟩
 | [], _, hA => simp [AllD] at hA
 | _ :: _ :: _, [], hA => simp [AllD] at hA
 | _ :: _ :: _, [_], hA => simp [AllD] at hA
 | _ :: _ :: _, _ :: _ :: _, hA => simp [AllD] at hA
 | [_], [], hA => simp [AllD] at hA
 | [_], _ :: _ :: _, hA => simp [AllD] at hA
theorem ArgS.cons {ts : List TypeId} (h : Arg H P G n t r B I) (k : ArgS H P G n ts s B J) : ArgS H P G n (t :: ts) (rP r s) B (fun x => I x.1 /\ J x.2) := fun css ds hA hb => by
 match css, ds, hA with
 | c :: css, d :: ds, hA =>
  simp only [Rows.uptoBulkAll] at hb
  obtain ⟨x, h1, h2⟩ := h c d hA.1.1 (by omega)
  obtain ⟨y, h3, h4⟩ := k css ds hA.2 (by omega)
  exact ⟨(x, y), ⟨c, css.flatten, by simp, h1, h3⟩, h2, h4⟩
 | [], _, hA => simp [AllD] at hA
 | _ :: _, [], hA => simp [AllD] at hA
theorem Arg.struct {fs : Array Field} {ts : List TypeId} (hu : P.underlying t = some (.struct fs)) (hts : fs.toList.map (·.type) = ts) (h : ArgS H P G n ts r B I) (f : S -> α) (g : α -> S) (hg : ∀ p, f (g p) = p) : Arg H P G (n + 1) t (rIso r f) B (fun x => I (f x)) := fun cs d hA hb => by
 unfold AData at hA
 simp only [hu] at hA
 obtain ⟨css, parts, h1, h2, h3⟩ := hA
 subst h2
 simp only [Rows.uptoBulk] at hb
 rw [hts] at h3
 obtain ⟨p, k1, k2⟩ := h css parts h3 (by omega)
 exact ⟨g p, by rw [h1]; show r.rep G css.flatten (f (g p)); rw [hg]; exact k1, by show I (f (g p)); rw [hg]; exact k2⟩
theorem AArgs.cons_inv {ts : List TypeId} {avs : List Value} {ds : List (DataW H)} (h : AArgs P G n (t :: ts) avs ds) : ∃ v vs d dr, avs = v :: vs /\ ds = d :: dr /\ AVal P G n t v d /\ AArgs P G n ts vs dr := by
 match avs, ds, h with
 | v :: vs, d :: dr, h => exact ⟨v, vs, d, dr, rfl, rfl, h.1, h.2⟩
 | [], _, h => simp [AArgs] at h
 | _ :: _, [], h => simp [AArgs] at h
theorem AArgs.nil_inv {avs : List Value} {ds : List (DataW H)} (h : AArgs P G n [] avs ds) : avs = [] /\ ds = [] := by
 match avs, ds, h with
 | [], [], h => exact ⟨rfl, rfl⟩
 | [], _ :: _, h => simp [AArgs] at h
 | _ :: _, _, h => simp [AArgs] at h
theorem AVal.one {v : Value} {d : DataW H} (hu : z4o P t = some false) (h : AVal P G n t v d) : AData P G n t [v] d := by
 unfold AVal at h
 unfold z4o at hu
 split at h
 ·rename_i q; rw [q] at hu; cases hu
 ·rename_i q; rw [q] at hu; cases hu
 ·exact h
theorem AVal.agg {v : Value} {d : DataW H} (hu : z4o P t = some true) (h : AVal P G n t v d) : ∃ cs, v = .agg (List.toArray cs) /\ AData P G n t cs d := by
 unfold AVal at h
 unfold z4o at hu
 split at h
 ·exact h
 ·exact h
 ·rename_i q1 q2
  split at hu
  ·rename_i q; exact absurd q (q1 _)
  ·rename_i q; exact absurd q (q2 _ _)
  ·cases hu
  ·cases hu
theorem Ow.empty (A : AH) : Ow A.get A [] := ⟨fun _ _ h => h, fun i e h => by simp at h, fun i j e e' _ h => by simp at h, fun i e h => by simp at h⟩
theorem CR.done {f : FuncId} {args : List Value} {A : AH} {b : Value} (h : CR P f args A.get A [] fun v _ _ => v = b) : ∃ A', ACalls P f args A b A' := by
 obtain ⟨v, H', G', h1, _, _, rfl⟩ := h
 exact ⟨H', h1⟩
end
end Go.Am
/- MatrixProducts over the statement's reading of its arguments. -/
namespace Go.Am.Tryz
open Go Go.Am Go.Proofs Go.Proofs.YtdogeclnbdldaaaGreatDoor
theorem matrixProducts {H : Type} (A : AH) (avs : List Value) (ds : List (DataW H)) (hb : Rows.uptoBulkAll ds <= 1048576) (ha : AArgs Tryz.prog A.get 3 [44, 44, 45] avs ds) : ∃ A', ACalls Tryz.prog 4 avs A (.bool true) A' := by
 obtain ⟨v0, vs0, d0, ds0, rfl, rfl, a0, ha⟩ := AArgs.cons_inv ha
 obtain ⟨v1, vs1, d1, ds1, rfl, rfl, a1, ha⟩ := AArgs.cons_inv ha
 obtain ⟨v2, vs2, d2, ds2, rfl, rfl, a2, ha⟩ := AArgs.cons_inv ha
 obtain ⟨rfl, rfl⟩ := AArgs.nil_inv ha
 simp only [Rows.uptoBulkAll] at hb
 obtain ⟨x0, r0, i0⟩ := ((Arg.sl (t := 44) (e := 45) (by kernel_rfl) (Arg.sl (t := 45) (e := 22) (by kernel_rfl) (Arg.str (t := 22) (by kernel_rfl)))) : Arg H Tryz.prog A.get 3 44 _ 1048576 _) [v0] d0 (AVal.one (by kernel_rfl) a0) (by omega)
 obtain ⟨x1, r1, i1⟩ := ((Arg.sl (t := 44) (e := 45) (by kernel_rfl) (Arg.sl (t := 45) (e := 22) (by kernel_rfl) (Arg.str (t := 22) (by kernel_rfl)))) : Arg H Tryz.prog A.get 3 44 _ 1048576 _) [v1] d1 (AVal.one (by kernel_rfl) a1) (by omega)
 obtain ⟨x2, r2, i2⟩ := ((Arg.sl (t := 45) (e := 22) (by kernel_rfl) (Arg.str (t := 22) (by kernel_rfl))) : Arg H Tryz.prog A.get 3 45 _ 1048576 _) [v2] d2 (AVal.one (by kernel_rfl) a2) (by omega)
 obtain ⟨K, hK⟩ := zaf i0 i1 i2
 exact CR.done (z8e K v0 x0 r0 v1 x1 r1 v2 x2 r2 (Ow.empty A) true hK)
end Go.Am.Tryz
