/- Plain law: the parts of a rational number's text; its error. -/
import Derived.Test.YtdogeclnbdldaaaGreatDoorG19Z8
import Derived.Test.YtdogeclnbdldaaaGreatDoorG2Z8
import Derived.Test.YtdogeclnbdldaaaGreatDoorRows
set_option maxRecDepth 100000
set_option maxHeartbeats 8000000
set_option linter.unusedVariables false
set_option linter.unusedSimpArgs false
namespace Go.Am.Tryz
open Go Go.Am Go.Proofs
variable {K : Nat}
structure Sp (s : zAd) (neg : Bool) (n : zAd) (many : Bool) (d : zAd) : Prop where
 eq : z02 s = (if neg then [45] else []) ++ (z02 n ++ (if many then 47 :: z02 d else []))
 no : 47 ∉ z02 n
 hd : neg = false -> (z02 s).head? ≠ some 45
theorem zd8 {x : Int} : ∀ {l1 l2 r1 r2 : List Int}, l1 ++ r1 = l2 ++ r2 -> x ∉ l1 -> x ∉ l2 -> (r1 = [] \/ r1.head? = some x) -> (r2 = [] \/ r2.head? = some x) -> l1 = l2 /\ r1 = r2
 | [], [], _, _, h, _, _, _, _ => ⟨rfl, by simpa using h⟩
 | [], b :: l2, r1, r2, h, _, h2, h3, _ => by
  simp only [List.nil_append, List.cons_append] at h
  subst h
  simp at h3
  subst h3
  simp at h2
 | a :: l1, [], r1, r2, h, h1, _, _, h4 => by
  simp only [List.nil_append, List.cons_append] at h
  subst h
  simp at h4
  subst h4
  simp at h1
 | a :: l1, b :: l2, r1, r2, h, h1, h2, h3, h4 => by
  simp only [List.cons_append, List.cons.injEq] at h
  obtain ⟨rfl, h⟩ := h
  obtain ⟨e1, e2⟩ := zd8 h (fun hx => h1 (by simp [hx])) (fun hx => h2 (by simp [hx])) h3 h4
  exact ⟨by rw [e1], e2⟩
theorem Sp.uniq {s n d n' d' : zAd} {neg neg' many many' : Bool} (h : Sp s neg n many d) (k : Sp s neg' n' many' d') : neg = neg' /\ n = n' /\ many = many' /\ (many = true -> d = d') := by
 have e1 : neg = neg' := by
  cases neg <;> cases neg'
  ·rfl
  ·have := h.hd rfl; rw [k.eq] at this; simp at this
  ·have := k.hd rfl; rw [h.eq] at this; simp at this
  ·rfl
 subst e1
 have e2 := List.append_cancel_left (h.eq.symm.trans k.eq)
 obtain ⟨e3, e4⟩ := zd8 e2 h.no k.no (by cases many <;> simp) (by cases many' <;> simp)
 refine ⟨rfl, z39 e3, ?_⟩
 cases many <;> cases many'
 ·exact ⟨rfl, fun h => by cases h⟩
 ·simp at e4
 ·simp at e4
 ·simp at e4; exact ⟨rfl, fun _ => z39 e4⟩
theorem Sp.size {s n d : zAd} {neg many : Bool} (h : Sp s neg n many d) : n.size <= s.size /\ (many = true -> d.size <= s.size) := by
 have := congrArg List.length h.eq
 simp only [List.length_append, z00] at this
 refine ⟨by omega, fun hm => ?_⟩
 subst hm
 simp only [if_true, List.length_cons, z00] at this
 omega
theorem z4y (s : zAd) {i j : Nat} (h : i <= j) (hj : j <= s.size) : z02 (s.extract i j) = ((z02 s).drop i).take (j - i) /\ (s.extract i j).size = j - i := by
 have h1 := z2b s i j
 refine ⟨h1, ?_⟩
 rw [<- z00, h1, List.length_take, List.length_drop, z00]; omega
theorem ze2 (K : Nat) (s : zAd) : ∃ s1 neg, z12 K s ⟨#[45]⟩ = some (s1, neg) /\ z02 s = (if neg then [45] else []) ++ z02 s1 /\ (neg = false -> (z02 s).head? ≠ some 45) /\ s1.size <= s.size := by
 unfold z12 z0r z0q
 have hn := z00 s
 have e1 : ((⟨#[45]⟩ : zAd).size : Int) = 1 := rfl
 rw [e1]
 by_cases h0 : s.size = 0
 ·have hb : z02 s = [] := List.length_eq_zero_iff.1 (by omega)
  refine ⟨s, false, ?_, by simp, fun _ => by rw [hb]; simp, Nat.le_refl _⟩
  rw [h0]
  rfl
 ·obtain ⟨c, l, hc⟩ : ∃ c l, z02 s = c :: l := by
   cases hb : z02 s with
   | nil => rw [hb] at hn; simp at hn; omega
   | cons c l => exact ⟨c, l, rfl⟩
  have hx : ssl s 0 1 = some (s.extract 0 1) := by rw [sslI (by omega) (by omega) (by omega)]; rfl
  have hxb : z02 (s.extract 0 1) = [c] := by rw [(z4y s (by omega) (by omega)).1, hc]; rfl
  rw [decide_eq_true (by omega), if_pos rfl, hx, z0e, z0e, tu1a, z0e]
  by_cases h45 : c = 45
  ·have he : sEq (s.extract 0 1) ⟨#[45]⟩ = true := sEq_iff.2 (z39 (by rw [hxb, h45]; rfl))
   obtain ⟨t, t1, t2, t3⟩ := zae hc
   refine ⟨t, true, ?_, by rw [hc, t2, h45]; rfl, fun h => by (cases h), by rw [hc] at hn; simp at hn; omega⟩
   rw [he]
   simp only [Bool.not_true, Bool.false_eq_true, if_false]
   rw [t1, z0e, z0e]
  ·have he : sEq (s.extract 0 1) ⟨#[45]⟩ = false := zp4 (fun e => by
    have := congrArg z02 e
    rw [hxb] at this
    have e2 : z02 (⟨#[45]⟩ : zAd) = [45] := rfl
    rw [e2] at this
    simp at this; exact h45 this)
   refine ⟨s, false, ?_, by simp, fun _ => by rw [hc]; simpa using h45, Nat.le_refl _⟩
   rw [he]
   rfl
theorem z8w (c : UInt8) : ∀ (l : List UInt8), (Lib.indexByte l c = -1 /\ c ∉ l) \/ ∃ i : Nat, Lib.indexByte l c = i /\ i < l.length /\ l[i]? = some c /\ c ∉ l.take i
 | [] => .inl ⟨rfl, by simp⟩
 | b :: l => by
  rw [Lib.indexByte]
  by_cases hb : b = c
  ·subst hb; exact .inr ⟨0, by simp, by simp, by simp, by simp⟩
  ·have hb' : (b == c) = false := by simpa using hb
   rw [hb']
   rcases z8w c l with ⟨h1, h2⟩ | ⟨i, h1, h2, h3, h4⟩
   ·refine .inl ⟨by rw [h1]; rfl, ?_⟩
    simp only [List.mem_cons, not_or]
    exact ⟨fun e => hb e.symm, h2⟩
   ·refine .inr ⟨i + 1, ?_, by simp; omega, by simpa using h3, ?_⟩
    ·rw [h1]
     have : ((i : Int) == -1) = false := by rw [beq_eq_false_iff_ne]; omega
     rw [this]
     simp
    ·rw [List.take_succ_cons]
     simp only [List.mem_cons, not_or]
     exact ⟨fun e => hb e.symm, h4⟩
theorem zf5 {c : UInt8} {l : List UInt8} (h : ((c.toNat : Nat) : Int) ∈ l.map (fun b => (b.toNat : Int))) : c ∈ l := by
 rw [List.mem_map] at h
 obtain ⟨b, hb, he⟩ := h
 have : b = c := UInt8.toNat_inj.1 (by omega)
 subst this; exact hb
theorem zp5 {s : zAd} (hs : s.size <= 1048576) : ∃ n d many, z33 K s ⟨#[47]⟩ = some (n, d, many) /\ z02 s = z02 n ++ (if many then 47 :: z02 d else []) /\ 47 ∉ z02 n /\ (many = false -> d = ⟨#[]⟩) := by
 have hn := z00 s
 have hx : z0p K s ⟨#[47]⟩ = some (Lib.indexByte s.data.toList 47) := by
  unfold z0p z1c
  have e1 : (((⟨#[47]⟩ : zAd).size : Int) == 0) = false := rfl
  have e2 : (((⟨#[47]⟩ : zAd).size : Int) == 1) = true := rfl
  have e3 : bidx (⟨#[47]⟩ : zAd) 0 = some 47 := rfl
  rw [e1, e2, e3]
  simp only [Bool.false_eq_true, if_false, z0e, tu1a, if_true]
  by_cases he : sEq ⟨#[47]⟩ s = true
  ·rw [he, if_pos rfl]
   rw [sEq_iff] at he
   subst he
   rfl
  ·rw [if_neg he]
   rfl
 unfold z33 z1e
 rw [hx, z0e]
 rcases z8w 47 s.data.toList with ⟨h1, h2⟩ | ⟨i, h1, h2, h3, h4⟩
 ·refine ⟨s, ⟨#[]⟩, false, by rw [h1]; rfl, by simp, fun h => h2 (zf5 h), fun _ => rfl⟩
 ·rw [Array.length_toList] at h2
  have h2' : i < s.size := h2
  have ea := z4y s (i := 0) (j := i) (by omega) (by omega)
  have eb := z4y s (i := i + 1) (j := s.size) (by omega) (by omega)
  refine ⟨s.extract 0 i, s.extract (i + 1) s.size, true, ?_, ?_, ?_, fun h => by cases h⟩
  ·have e1 : ((⟨#[47]⟩ : zAd).size : Int) = 1 := rfl
   have t0 : Int.toNat 0 = 0 := rfl
   have t1 : ((i : Int) + 1).toNat = i + 1 := by omega
   rw [h1, if_pos (decide_eq_true (by omega)), sslI (by omega) (by omega) (by omega), z0e, e1, k64 (by omega) (by omega), sslI (by omega) (by omega) (by omega), z0e, z0e, t1]
   rfl
  ·rw [ea.1, eb.1]
   have h5 : (z02 s)[i]? = some 47 := by unfold z02; rw [List.getElem?_map, h3]; rfl
   have h6 : i < (z02 s).length := by omega
   rw [zAh h6] at h5
   simp only [if_true, List.drop_zero, Nat.sub_zero]
   rw [List.take_of_length_le (l := (z02 s).drop (i + 1)) (by rw [List.length_drop]; omega)]
   conv => lhs; rw [<- List.take_append_drop i (z02 s), List.drop_eq_getElem_cons h6]
   rw [zAa h5]
  ·rw [ea.1, List.drop_zero, Nat.sub_zero]
   intro h
   unfold z02 at h
   rw [<- List.map_take] at h
   exact h4 (zf5 h)
theorem zak (K : Nat) {s : zAd} (hs : s.size <= 1048576) : ∃ s1 neg n d many, z12 K s ⟨#[45]⟩ = some (s1, neg) /\ z33 K s1 ⟨#[47]⟩ = some (n, d, many) /\ Sp s neg n many d /\ z02 s = (if neg then [45] else []) ++ z02 s1 /\ (many = false -> d = ⟨#[]⟩) := by
 obtain ⟨s1, neg, h1, h2, h3, h4⟩ := ze2 K s
 obtain ⟨n, d, many, c1, c2, c3, c4⟩ := zp5 (K := K) (s := s1) (by omega)
 exact ⟨s1, neg, n, d, many, h1, c1, ⟨by rw [h2, c2], c3, h3⟩, h2, c4⟩
def ratS (neg : Bool) (n : zAd) (many : Bool) (d : zAd) : Int :=
 if natE n = 5 \/ (many = true /\ natE d = 5) \/ (neg = true /\ n = ⟨#[48]⟩) then 5 else if natE n ≠ 0 \/ (many = true /\ natE d ≠ 0) then 2 else
 if many = true /\ (d = ⟨#[48]⟩ \/ d = ⟨#[49]⟩ \/ Nat.gcd (numT n).toNat (numT d).toNat ≠ 1) then 3 else 0
theorem z8x (a b : zAd) : sEq a b = decide (a = b) := by
 by_cases h : a = b
 ·rw [decide_eq_true h]; exact sEq_iff.2 h
 ·rw [decide_eq_false h]; exact zp4 h
theorem znp (G : Nat) : ((if (G : Int) < 1 then (-1 : Int) else if (G : Int) = 1 then 0 else 1) != 0) = decide (G ≠ 1) := by
 by_cases hG : G = 1
 ·subst hG; rfl
 ·rw [decide_eq_true hG]
  by_cases h0 : (G : Int) < 1
  ·rw [if_pos h0]; rfl
  ·rw [if_neg h0, if_neg (by omega)]; rfl
theorem znq : natE ⟨#[48]⟩ = 0 := (z9i _).2 ⟨z7q, by decide⟩
theorem zk5 {s n d : zAd} {neg many : Bool} (hs : s.size <= 1048576) (hK : 2000000000 < K) (h : Sp s neg n many d) : z5b K s = some (ratS neg n many d) := by
 obtain ⟨s1, neg', n', d', many', c1, c2, c3, c4, c5⟩ := zak K hs
 obtain ⟨rfl, rfl, rfl, hd⟩ := h.uniq c3
 have hsz := h.size
 unfold z5b ratS
 rw [c1, z0e, c2, z0e]
 dsimp only
 rw [zd7 (by omega) (by omega), z0e]
 cases many with
 | false =>
  simp only [Bool.false_eq_true, if_false, z0e, tu1a, false_and, false_or, or_false]
  by_cases e5 : natE n = 5
  ·simp [e5, z0e, tu1a]
  ·have e5' : (natE n == 5) = false := by rw [beq_eq_false_iff_ne]; exact e5
   have e05 : ((0 : Int) == 5) = false := rfl
   rw [e5', e05]
   cases neg <;> by_cases e0 : natE n = 0 <;> by_cases en : n = ⟨#[48]⟩ <;> simp [e0, e5, en, z8x, z0e, tu1a, znq]
 | true =>
  have hdd := hd rfl
  subst hdd
  simp only [if_true, true_and]
  rw [zd7 (by have := hsz.2 rfl; omega) (by have := hsz.2 rfl; omega)]
  simp only [z0e, tu1a]
  by_cases e5 : natE n = 5
  ·simp [e5, z0e, tu1a]
  ·have e5' : (natE n == 5) = false := by rw [beq_eq_false_iff_ne]; exact e5
   by_cases f5 : natE d = 5
   ·simp [e5, f5, z0e, tu1a]
   ·have f5' : (natE d == 5) = false := by rw [beq_eq_false_iff_ne]; exact f5
    have hneg : (if neg = true then some (sEq n (⟨#[48]⟩ : zAd)) else some false) = some (decide (neg = true /\ n = ⟨#[48]⟩)) := by
     cases neg <;> simp [z8x]
    rw [e5', f5', hneg]
    simp only [Bool.false_eq_true, if_false, z0e, tu1a, e5, f5, false_or]
    by_cases hz : neg = true /\ n = ⟨#[48]⟩
    ·rw [decide_eq_true hz, if_pos rfl, if_pos hz]
    ·rw [decide_eq_false hz, if_neg (by simp), if_neg hz]
     by_cases e0 : natE n = 0
     ·by_cases f0 : natE d = 0
      ·obtain ⟨cn, ln⟩ := (z9i n).1 e0
       obtain ⟨cd, ld⟩ := (z9i d).1 f0
       obtain ⟨x, x1, x2, x3⟩ := z9d (K := K) (s := n) (by omega) hK cn.2.1
       obtain ⟨y, y1, y2, y3⟩ := z9d (K := K) (s := d) (by omega) hK cd.2.1
       have nn := z2x cn.2.1
       have nd := z2x cd.2.1
       obtain ⟨g, g1, g2⟩ := zkw (K := K) (x := x) (y := y) (a := (numT n).toNat) (b := (numT d).toNat) (by omega) (by omega) hK (by rw [Int.toNat_of_nonneg nn]; exact x2) (by rw [Int.toNat_of_nonneg nd]; exact y2)
       have gl : g.length <= 1000000 := by
        by_cases h0 : (numT d).toNat = 0
        ·rw [h0, Nat.gcd_zero_right, Int.toNat_of_nonneg nn] at g2
         rw [g2.inj x2]; omega
        ·have := z88 g2 y2 (by have := Nat.gcd_le_right (n := (numT d).toNat) (numT n).toNat (by omega); omega)
         omega
       have hc := zew (K := K) (x := g) (y := [1]) (by omega) (by simp) hK g2 (.one (by omega) (by omega))
       have hcv : ((if ((Nat.gcd (numT n).toNat (numT d).toNat : Nat) : Int) < 1 then (-1 : Int) else if ((Nat.gcd (numT n).toNat (numT d).toNat : Nat) : Int) = 1 then 0 else 1) != 0) = decide (Nat.gcd (numT n).toNat (numT d).toNat ≠ 1) := by
        exact znp _
       rw [e0, f0]
       simp only [bne_self_eq_false, Bool.false_eq_true, if_false, z0e, tu1a, ne_eq, not_true, or_self, x1, y1, g1, zf4 hK, hc, hcv, z8x]
       by_cases d0 : d = ⟨#[48]⟩
       ·simp [d0, z0e, tu1a]
       ·by_cases d1 : d = ⟨#[49]⟩
        ·simp [d1, z0e, tu1a]
        ·by_cases hG : Nat.gcd (numT n).toNat (numT d).toNat = 1 <;> simp [d0, d1, hG, z0e, tu1a]
      ·simp [e0, f0, z0e, tu1a]
     ·simp [e0, z0e, tu1a]
end Go.Am.Tryz
/- Plain law: the reference's parts of a rational number's text and its error. -/
namespace Go.Am.Tryz
open Go Go.Am Go.Proofs
variable {K : Nat}
theorem zd9 {l r : List Int} {i : Nat} (h : i < l.length) : (l ++ r).getD i 0 = l.getD i 0 := by
 rw [zAb, List.getElem?_append_left h, zAb]
theorem zi8 {l : List Int} {i : Nat} (h : i < l.length) : l.getD i 0 ∈ l := by
 rw [zAb, zAh h]; exact List.getElem_mem h
theorem zi9 {s n : zAd} {r : List Int} (h : z02 s = z02 n ++ r) : s.extract 0 n.size = n := by
 have hl := congrArg List.length h
 rw [List.length_append, z00, z00] at hl
 apply z39
 rw [(z4y s (by omega) (by omega)).1, h, List.drop_zero, Nat.sub_zero, List.take_append_of_le_length (by rw [z00]; omega), List.take_of_length_le (by rw [z00]; omega)]
theorem zf6 {s n d : zAd} (h : z02 s = z02 n ++ 47 :: z02 d) : s.extract (n.size + 1) s.size = d := by
 have hl := congrArg List.length h
 rw [List.length_append, List.length_cons, z00, z00, z00] at hl
 apply z39
 rw [(z4y s (by omega) (by omega)).1, h, List.drop_append, z00]
 rw [List.drop_eq_nil_of_le (by rw [z00]; omega), show n.size + 1 - n.size = 1 by omega]
 simp only [List.nil_append, List.drop_succ_cons, List.drop_zero]
 rw [List.take_of_length_le (by rw [z00]; omega)]
theorem zk6 {s : zAd} {neg : Bool} {r : List Int} (h : z02 s = (if neg then [45] else []) ++ r) (hd : neg = false -> (z02 s).head? ≠ some 45) (K : Nat) :
  ∃ s1, (Option.bind ((if (decide ((s.size : Int) > 0)) = true then ((bidx s 0).bind fun x7 => some (x7 == 45)) else some false)) (tu1 fun x11 => ((if x11 = true then ((ssl s 1 (s.size : Int)).bind fun x26 => some (x26, true)) else some (s, false))))) = some (s1, neg) /\ z02 s1 = r /\ s1.size <= s.size := by
 have hn := z00 s
 cases neg with
 | true =>
  simp only [if_true, List.cons_append, List.nil_append] at h
  obtain ⟨t, t1, t2, t3⟩ := zae h
  have hb : bidx s 0 = some 45 := by rw [z8j, h]; rfl
  have hs : 0 < s.size := by rw [h] at hn; simp at hn; omega
  refine ⟨t, ?_, t2, by rw [h] at hn; simp at hn; omega⟩
  rw [decide_eq_true (by omega), if_pos rfl, hb, z0e, z0e, tu1a]
  simp only [beq_self_eq_true, if_true, t1, z0e]
 | false =>
  simp only [Bool.false_eq_true, if_false, List.nil_append] at h
  refine ⟨s, ?_, h, Nat.le_refl _⟩
  by_cases h0 : 0 < s.size
  ·cases hb : z02 s with
   | nil => rw [hb] at hn; simp at hn; omega
   | cons c l =>
    have hc : c ≠ 45 := fun e => hd rfl (by rw [hb, e]; rfl)
    have hx : bidx s 0 = some c := by rw [z8j, hb]; rfl
    have e : (c == 45) = false := by rw [beq_eq_false_iff_ne]; exact hc
    rw [decide_eq_true (by omega), if_pos rfl, hx, z0e, e, z0e, tu1a]
    rfl
  ·rw [decide_eq_false (by omega)]
   rfl
theorem zft {s n d : zAd} {many : Bool} (hs : s.size <= 1048576) (hK : 2000000000 < K) (h : z02 s = z02 n ++ (if many then 47 :: z02 d else [])) (hno : 47 ∉ z02 n) :
  ∃ r : Int × zAd × zAd, z10 K s K 1 s ⟨#[50]⟩ 0 = some r /\ r = (if many then (2, n, d) else (1, s, ⟨#[50]⟩)) := by
 have hn := z00 s
 have hln : n.size <= s.size := by
  have := congrArg List.length h
  rw [List.length_append, z00, z00] at this; omega
 have hlt : many = true -> n.size < s.size := fun hm => by
  subst hm
  have := congrArg List.length h
  rw [List.length_append, z00, z00] at this
  simp at this; omega
 refine z86 (fun k (q : Int × zAd × zAd × Int) => z10 K s k q.1 q.2.1 q.2.2.1 q.2.2.2) (fun q => ∃ i : Nat, q.2.2.2 = i /\ i <= s.size /\ (q.1, q.2.1, q.2.2.1) = (if many = true /\ n.size < i then (2, n, d) else (1, s, ⟨#[50]⟩))) (fun q => (s.size - q.2.2.2 : Int).toNat) _ ?_ ((1, s, ⟨#[50]⟩, 0) : Int × zAd × zAd × Int) (by dsimp only; omega) ⟨0, rfl, by omega, by rw [if_neg (by omega)]⟩
 rintro k ⟨m, a, b, _⟩ ⟨i, rfl, h0, h1⟩
 dsimp only at h1 ⊢
 by_cases hi : i < s.size
 ·right
  have hb : bidx s i = some ((z02 s).getD i 0) := by rw [zop (by omega) (by omega), Int.toNat_natCast]
  by_cases c : many = true /\ n.size < i
  ·rw [if_pos c] at h1
   simp only [Prod.mk.injEq] at h1
   obtain ⟨rfl, rfl, rfl⟩ := h1
   refine ⟨(2, a, b, (i : Int) + 1), ?_, by dsimp only; omega, i + 1, rfl, by omega, by rw [if_pos ⟨c.1, by omega⟩]⟩
   rw [z10, if_pos (decide_eq_true (by omega)), hb, z0e, k64 (by omega) (by omega)]
   have e : ((2 : Int) == 1) = false := rfl
   rw [e]
   by_cases c2 : (z02 s).getD i 0 == 47 <;> simp [c2, z0e, tu1a, tu3a]
  ·rw [if_neg c] at h1
   simp only [Prod.mk.injEq] at h1
   obtain ⟨rfl, rfl, rfl⟩ := h1
   by_cases c3 : many = true /\ i = n.size
   ·obtain ⟨hm, rfl⟩ := c3
    subst hm
    simp only [if_true] at h
    have hch : (z02 a).getD n.size 0 = 47 := by
     rw [h, zAb, List.getElem?_append_right (by rw [z00]; omega), z00]
     simp
    refine ⟨(2, n, d, (n.size : Int) + 1), ?_, by dsimp only; omega, n.size + 1, rfl, by omega, by rw [if_pos ⟨rfl, by omega⟩]⟩
    have t0 : Int.toNat 0 = 0 := rfl
    have t1 : ((n.size : Int) + 1).toNat = n.size + 1 := by omega
    rw [z10, if_pos (decide_eq_true (by omega)), hb, z0e, hch, k64 (by omega) (by omega), sslI (l := 0) (by omega) (by omega) (by omega), sslI (by omega) (by omega) (by omega), t0, t1, Int.toNat_natCast, Int.toNat_natCast, zi9 h, zf6 h]
    rfl
   ·have hin : i < n.size := by
     cases many with
     | true => simp at c c3; omega
     | false =>
      simp only [Bool.false_eq_true, if_false, List.append_nil] at h
      have := congrArg List.length h
      rw [z00, z00] at this; omega
    have hch : (z02 a).getD i 0 ≠ 47 := fun e => by
     rw [h, zd9 (by rw [z00]; omega)] at e
     exact hno (e ▸ zi8 (by rw [z00]; omega))
    have e : ((z02 a).getD i 0 == 47) = false := by rw [beq_eq_false_iff_ne]; exact hch
    refine ⟨(1, a, ⟨#[50]⟩, (i : Int) + 1), ?_, by dsimp only; omega, i + 1, rfl, by omega, by rw [if_neg (by omega)]⟩
    rw [z10, if_pos (decide_eq_true (by omega)), hb, z0e, e, k64 (by omega) (by omega)]
    rfl
 ·left
  have : i = s.size := by omega
  subst this
  refine ⟨(m, a, b), by rw [z10, if_neg (by simp)], ?_⟩
  cases many with
  | true => have := hlt rfl; simp only [true_and, if_pos this] at h1; exact h1
  | false => simpa using h1
theorem zk7 {s n d : zAd} {neg many : Bool} (hs : s.size <= 1048576) (hK : 2000000000 < K) (h : Sp s neg n many d) : z4h K s = some (ratS neg n many d) := by
 have hsz := h.size
 obtain ⟨s1, h1, h2, h3⟩ := zk6 h.eq h.hd K
 obtain ⟨r, r1, rfl⟩ := zft (K := K) (s := s1) (n := n) (d := d) (many := many) (by omega) hK h2 h.no
 unfold z4h ratS
 -- the sign
 have hsplit : ∀ {α : Type} (F : zAd × Bool -> Option α), (Option.bind ((if (decide ((s.size : Int) > 0)) = true then ((bidx s 0).bind fun x7 => some (x7 == 45)) else some false)) (tu1 fun x11 => (Option.bind ((if x11 = true then ((ssl s 1 (s.size : Int)).bind fun x26 => some (x26, true)) else some (s, false))) F))) = F (s1, neg) := by
  intro α F
  have : ∀ (m : Option Bool) (f : Bool -> Option (zAd × Bool)), (Option.bind m (tu1 fun x => Option.bind (f x) F)) = Option.bind (Option.bind m (tu1 f)) F := by
   intro m f; cases m <;> rfl
  rw [this, h1]; rfl
 rw [hsplit, tu2a, r1, z0e, tu3a]
 cases many with
 | false =>
  have hs1 : s1 = n := z39 (by simpa using h2)
  subst hs1
  have e2 : natE ⟨#[50]⟩ = 0 := (z9i _).2 ⟨⟨by decide, rfl, fun h => by simp [z02] at h⟩, by decide⟩
  simp only [Bool.false_eq_true, if_false, false_and, false_or, or_false]
  rw [z9x (by omega) (by omega), z9x (s := ⟨#[50]⟩) (by decide) (by show 1 < K; omega), z0e, z0e, e2]
  by_cases e5 : natE s1 = 5
  ·simp [e5, z0e, tu1a]
  ·have e5' : (natE s1 == 5) = false := by rw [beq_eq_false_iff_ne]; exact e5
   have e05 : ((0 : Int) == 5) = false := rfl
   rw [e5', e05]
   cases neg <;> by_cases e0 : natE s1 = 0 <;> by_cases en : s1 = ⟨#[48]⟩ <;> simp [e0, e5, en, z8x, z0e, tu1a, znq]
 | true =>
  have hd := hsz.2 rfl
  simp only [if_true, true_and]
  rw [z9x (by omega) (by omega), z9x (s := d) (by omega) (by omega), z0e, z0e]
  by_cases e5 : natE n = 5
  ·simp [e5, z0e, tu1a]
  ·have e5' : (natE n == 5) = false := by rw [beq_eq_false_iff_ne]; exact e5
   by_cases f5 : natE d = 5
   ·simp [e5, f5, z0e, tu1a]
   ·have f5' : (natE d == 5) = false := by rw [beq_eq_false_iff_ne]; exact f5
    have hneg : (if neg = true then some (sEq n (⟨#[48]⟩ : zAd)) else some false) = some (decide (neg = true /\ n = ⟨#[48]⟩)) := by
     cases neg <;> simp [z8x]
    rw [e5', f5', hneg]
    simp only [Bool.false_eq_true, if_false, z0e, tu1a, e5, f5, false_or]
    by_cases hz : neg = true /\ n = ⟨#[48]⟩
    ·rw [decide_eq_true hz, if_pos rfl, if_pos hz]
    ·rw [decide_eq_false hz, if_neg (by simp), if_neg hz]
     by_cases e0 : natE n = 0
     ·by_cases f0 : natE d = 0
      ·obtain ⟨cn, ln⟩ := (z9i n).1 e0
       obtain ⟨cd, ld⟩ := (z9i d).1 f0
       have nn := z2x cn.2.1
       have nd := z2x cd.2.1
       obtain ⟨g, g1, g2, g3⟩ := zkx (K := K) (x := n) (y := d) (a := (numT n).toNat) (b := (numT d).toNat) (by omega) (by omega) hK cn cd (by omega) (by omega)
       have hg : (!(decide (g = ⟨#[49]⟩))) = decide (Nat.gcd (numT n).toNat (numT d).toNat ≠ 1) := by
        by_cases hG : Nat.gcd (numT n).toNat (numT d).toNat = 1
        ·have : g = ⟨#[49]⟩ := z85 g2 z64 (by rw [g3, z5p, hG]; rfl)
         simp [this, hG]
        ·have : g ≠ ⟨#[49]⟩ := fun e => hG (by rw [e, z5p] at g3; omega)
         simp [this, hG]
       have e22 : ((2 : Int) == 2) = true := rfl
       rw [e0, f0, e22]
       simp only [bne_self_eq_false, Bool.false_eq_true, if_false, z0e, tu1a, ne_eq, not_true, or_self, g1, hg, z8x, if_true]
       by_cases d0 : d = ⟨#[48]⟩
       ·simp [d0, z0e, tu1a]
       ·by_cases d1 : d = ⟨#[49]⟩
        ·simp [d1, z0e, tu1a]
        ·by_cases hG : Nat.gcd (numT n).toNat (numT d).toNat = 1 <;> simp [d0, d1, hG, z0e, tu1a]
      ·simp [e0, f0, z0e, tu1a]
     ·simp [e0, z0e, tu1a]
theorem zia {s n d : zAd} {many : Bool} {x1 : Int} (hs : s.size <= 1048576) (hK : 2000000000 < K) (h : z02 s = z02 n ++ (if many then 47 :: z02 d else [])) (hno : 47 ∉ z02 n) :
  ∃ r : (Bool × zAd × zAd) ⊕ Unit, z2q K x1 s K 0 = some r /\ r = (if many then .inl (x1 == 45, n, d) else .inr ()) := by
 have hn := z00 s
 have hln : n.size <= s.size := by
  have := congrArg List.length h
  rw [List.length_append, z00, z00] at this; omega
 refine z86 (fun k (q : Int) => z2q K x1 s k q) (fun q => ∃ i : Nat, q = i /\ i <= n.size) (fun q => (s.size - q : Int).toNat) _ ?_ (0 : Int) (by omega) ⟨0, rfl, by omega⟩
 rintro k _ ⟨i, rfl, h0⟩
 by_cases hi : i < n.size
 ·right
  have hb : bidx s i = some ((z02 s).getD i 0) := by rw [zop (by omega) (by omega), Int.toNat_natCast]
  have hch : (z02 s).getD i 0 ≠ 47 := fun e => by
   rw [h, zd9 (by rw [z00]; omega)] at e
   exact hno (e ▸ zi8 (by rw [z00]; omega))
  have e : ((z02 s).getD i 0 == 47) = false := by rw [beq_eq_false_iff_ne]; exact hch
  refine ⟨(i : Int) + 1, ?_, by omega, i + 1, rfl, by omega⟩
  rw [z2q, if_pos (decide_eq_true (by omega)), hb, z0e, e, k64 (by omega) (by omega)]
  rfl
 ·left
  have : i = n.size := by omega
  subst this
  cases many with
  | true =>
   simp only [if_true] at h
   have hlt : n.size < s.size := by
    have := congrArg List.length h
    rw [List.length_append, z00, z00] at this
    simp at this; omega
   have hb : bidx s n.size = some ((z02 s).getD n.size 0) := by rw [zop (by omega) (by omega), Int.toNat_natCast]
   have hch : (z02 s).getD n.size 0 = 47 := by
    rw [h, zAb, List.getElem?_append_right (by rw [z00]; omega), z00]
    simp
   have t0 : Int.toNat 0 = 0 := rfl
   have t1 : ((n.size : Int) + 1).toNat = n.size + 1 := by omega
   refine ⟨_, ?_, rfl⟩
   rw [z2q, if_pos (decide_eq_true (by omega)), hb, z0e, hch, k64 (by omega) (by omega), sslI (l := 0) (by omega) (by omega) (by omega), sslI (by omega) (by omega) (by omega), t0, t1, Int.toNat_natCast, Int.toNat_natCast, zi9 h, zf6 h]
   rfl
  | false =>
   simp only [Bool.false_eq_true, if_false, List.append_nil] at h
   have : n.size = s.size := by
    have := congrArg List.length h
    rw [z00, z00] at this; omega
   exact ⟨.inr (), by rw [z2q, if_neg (by simp; omega)], rfl⟩
theorem zk8 {s n d : zAd} {neg many : Bool} (hs : s.size <= 1048576) (h0 : s.size ≠ 0) (hK : 2000000000 < K) (h : Sp s neg n many d) : z4m K s = some (neg, n, if many then d else ⟨#[49]⟩) := by
 have hn := z00 s
 obtain ⟨c, l, hc⟩ : ∃ c l, z02 s = c :: l := by
  cases hb : z02 s with
  | nil => rw [hb] at hn; simp at hn; omega
  | cons c l => exact ⟨c, l, rfl⟩
 have hx : bidx s 0 = some c := by rw [z8j, hc]; rfl
 have hneg : (c == 45) = neg := by
  cases neg with
  | true => have := h.eq; rw [hc] at this; simp at this; rw [this.1]; rfl
  | false => have := h.hd rfl; rw [hc] at this; simpa using this
 obtain ⟨s1, e1, e2, e3⟩ : ∃ s1, (if neg = true then ((ssl s 1 (s.size : Int)).bind fun x9 => some x9) else some s) = some s1 /\ z02 s1 = z02 n ++ (if many then 47 :: z02 d else []) /\ s1.size <= s.size := by
  cases neg with
  | true =>
   have he := h.eq
   simp only [if_true, List.cons_append, List.nil_append] at he
   obtain ⟨t, t1, t2, t3⟩ := zae he
   exact ⟨t, by rw [if_pos rfl, t1]; rfl, t2, by rw [he] at hn; rw [List.length_cons] at hn; omega⟩
  | false => exact ⟨s, rfl, by simpa using h.eq, Nat.le_refl _⟩
 obtain ⟨r, r1, rfl⟩ := zia (K := K) (s := s1) (n := n) (d := d) (many := many) (x1 := c) (by omega) hK e2 h.no
 unfold z4m
 rw [hx, z0e, hneg, e1, z0e, tu1a, r1]
 cases many with
 | true => simp only [if_true, zhm, tu3a, hneg]
 | false =>
  have hs1 : s1 = n := z39 (by simpa using e2)
  subst hs1
  simp only [Bool.false_eq_true, if_false, zhn, tu0a]
end Go.Am.Tryz
/- Plain law: the program's rational numbers and their texts. -/
namespace Go.Am.Tryz
open Go Go.Am Go.Proofs
variable {K : Nat}
def RTx (s : zAd) (x : Rat) : Prop := ∃ n d, CanT n /\ CanT d /\ numT n = (x.num.natAbs : Nat) /\ numT d = (x.den : Nat) /\ Sp s (decide (x.num < 0)) n (decide (x.den ≠ 1)) d
theorem RTx.inj {s t : zAd} {x : Rat} (h : RTx s x) (k : RTx t x) : s = t := by
 obtain ⟨n, d, h1, h2, h3, h4, h5⟩ := h
 obtain ⟨n', d', k1, k2, k3, k4, k5⟩ := k
 have e1 : n = n' := z85 h1 k1 (by rw [h3, k3])
 have e2 : d = d' := z85 h2 k2 (by rw [h4, k4])
 subst e1 e2
 exact z39 (by rw [h5.eq, k5.eq])
theorem RTx.val {s : zAd} {x y : Rat} (h : RTx s x) (k : RTx s y) : x = y := by
 obtain ⟨n, d, h1, h2, h3, h4, h5⟩ := h
 obtain ⟨n', d', k1, k2, k3, k4, k5⟩ := k
 obtain ⟨e1, rfl, e3, e4⟩ := h5.uniq k5
 have e5 : x.num = y.num := by
  rw [<- z9j x, <- z9j y, e1]
  congr 1
  omega
 have e6 : x.den = y.den := by
  by_cases c : x.den ≠ 1
  ·have := e4 (decide_eq_true c)
   subst this; omega
  ·have c2 : ¬ y.den ≠ 1 := fun c2 => by
    rw [decide_eq_false c, decide_eq_true c2] at e3; cases e3
   omega
 exact Rat.ext e5 e6
def QV (a : Q) (x : Rat) : Prop := a.neg = decide (x.num < 0) /\ NumN (x.num.natAbs : Nat) a.num /\ (NumN (x.den : Nat) a.den \/ (a.den = [] /\ x.den = 1))
theorem z6y (N : Nat) : ((10 ^ N : Nat) : Int) = (10 : Int) ^ N := by simp
theorem zib {n N : Nat} {l : List Int} (h : NumN n l) (hn : n < 10 ^ N) : l.length <= N / 9 + 1 := by
 refine Nat.not_lt.1 fun hlt => ?_
 have g1 := zho (B := 1000000000) (by omega) h.1 (by rintro rfl; simp at hlt)
 rw [h.2] at g1
 have g5 : (1000000000 : Int) = 10 ^ 9 := by decide
 rw [g5, <- Int.pow_mul] at g1
 have g2 : (10 : Int) ^ N <= 10 ^ (9 * (l.length - 1)) := z6l (by omega) (by omega)
 have g4 : (n : Int) < (10 : Int) ^ N := by rw [<- z6y]; omega
 omega
theorem z8y {n N : Nat} {t : zAd} (h : CanT t) (ht : numT t = n) (hn : n < 10 ^ N) : t.size <= N + 1 := by
 refine Nat.not_lt.1 fun hlt => ?_
 have g1 := zb5 h (by omega)
 have g2 : (10 : Int) ^ N <= 10 ^ (t.size - 1) := z6l (by omega) (by omega)
 have g4 : (n : Int) < (10 : Int) ^ N := by rw [<- z6y]; omega
 omega
theorem zda {n N : Nat} {t : zAd} (h : (z02 t).all digT = true) (ht : numT t = n) (hN : t.size <= N) : n < 10 ^ N := by
 have g1 := zai h
 have g2 : (10 : Int) ^ t.size <= 10 ^ N := z6l (by omega) hN
 have g4 : (n : Int) < (10 : Int) ^ N := by omega
 rw [<- z6y] at g4
 omega
theorem QV.lens9 {a : Q} {x : Rat} {N : Nat} (h : QV a x) (hx : Dl x N) : a.num.length <= N / 9 + 1 /\ a.den.length <= N / 9 + 1 := by
 refine ⟨zib h.2.1 hx.1, ?_⟩
 rcases h.2.2 with h2 | ⟨h2, _⟩
 ·exact zib h2 hx.2
 ·rw [h2]; exact Nat.zero_le _
theorem QV.zero : QV ⟨false, [], []⟩ 0 := ⟨rfl, .nil, .inr ⟨rfl, rfl⟩⟩
theorem QV.num0 {a : Q} {x : Rat} (h : QV a x) : a.num.length = 0 ↔ x = 0 := by
 rw [h.2.1.len0, <- Rat.num_eq_zero]; omega
theorem z89 {a : Q} {x : Rat} (h : QV a x) (hK : 2000000000 < K) : ∃ w, z0y K a = some w /\ NumN (x.den : Nat) w /\ w.length <= max a.den.length 1 := by
 unfold z0y
 rcases h.2.2 with h2 | ⟨h2, h3⟩
 ·have hp := x.den_pos
  have h0 : a.den.length ≠ 0 := fun e => by have := h2.len0.1 e; omega
  refine ⟨a.den, ?_, h2, by omega⟩
  rw [if_neg (by rw [beq_iff_eq]; omega)]
 ·refine ⟨[1], ?_, by rw [h3]; exact .one (by omega) (by omega), by simp; omega⟩
  rw [h2, if_pos (by rfl), zf4 hK, z0e]
theorem zic {neg : Bool} {n d : Nat} {num den : List Int} (hd : d ≠ 0) (hn : NumN n num) (hdn : NumN d den) (l1 : num.length <= 3000000) (l2 : den.length <= 3000000) (hK : 2000000000 < K) :
  ∃ q, z56 K neg num den = some q /\ QV q (mkRat (sgn neg n) d) := by
 unfold z56
 by_cases h0 : num.length = 0
 ·have e := hn.len0.1 h0
  have e' : n = 0 := by omega
  subst e'
  refine ⟨⟨false, [], []⟩, by rw [if_pos (by rw [beq_iff_eq]; omega)], ?_⟩
  have : mkRat (sgn neg 0) d = 0 := by
   have : sgn neg 0 = 0 := by cases neg <;> rfl
   rw [this, Rat.zero_mkRat]
  rw [this]; exact QV.zero
 ·have hn0 : n ≠ 0 := fun e => h0 (hn.len0.2 (by omega))
  obtain ⟨g, g1, g2⟩ := zkw (K := K) (by omega) (by omega) hK hn hdn
  have gp : 0 < Nat.gcd n d := Nat.gcd_pos_of_pos_left d (by omega)
  have gl := z88 g2 hn (by have := Nat.gcd_le_left (m := n) d (by omega); omega)
  have hc := zew (K := K) (x := g) (y := [1]) (by omega) (by simp) hK g2 (.one (by omega) (by omega))
  rw [if_neg (by rw [beq_iff_eq]; omega), g1, z0e, zf4 hK, z0e, hc, z0e]
  have m1 := zk3 neg n d hd
  have m2 := zk4 neg n d hd
  have m3 := zm2 neg n d hd hn0
  by_cases h1 : Nat.gcd n d = 1
  ·refine ⟨⟨neg, num, den⟩, ?_, m3.symm, ?_, .inl ?_⟩
   ·rw [h1]; rfl
   ·rw [m1, h1, Nat.div_one]; exact hn
   ·rw [m2, h1, Nat.div_one]; exact hdn
  ·obtain ⟨q1, r1, a1, a2, a3, a4, a5⟩ := zf0 (K := K) (x := num) (y := g) (by omega) (by omega) hK hn g2 (by omega)
   obtain ⟨q2, r2, b1, b2, b3, b4, b5⟩ := zf0 (K := K) (x := den) (y := g) (by omega) (by omega) hK hdn g2 (by omega)
   refine ⟨⟨neg, q1, q2⟩, ?_, m3.symm, ?_, .inl ?_⟩
   ·have e : decide ((if ((Nat.gcd n d : Nat) : Int) < 1 then (-1 : Int) else if ((Nat.gcd n d : Nat) : Int) = 1 then 0 else 1) > 0) = true := by
     rw [if_neg (by omega), if_neg (by omega)]; rfl
    rw [e, if_pos rfl, a1, z0e, b1, z0e, z0e, tu2a]
   ·rw [m1]
    have e : ((n : Int) / ((Nat.gcd n d : Nat) : Int)) = ((n / Nat.gcd n d : Nat) : Int) := by simp
    rw [e] at a2; exact a2
   ·rw [m2]
    have e : ((d : Int) / ((Nat.gcd n d : Nat) : Int)) = ((d / Nat.gcd n d : Nat) : Int) := by simp
    rw [e] at b2; exact b2
theorem zky (p : Bool) (X Y : Nat) : sgn p (X + Y) = sgn p X + sgn p Y := by unfold sgn; cases p <;> simp <;> omega
theorem zf7 (p q : Bool) (h : p ≠ q) {X Y : Nat} (hXY : Y <= X) : sgn p (X - Y) = sgn p X + sgn q Y := by
 unfold sgn; cases p <;> cases q <;> simp at h ⊢ <;> omega
theorem zkz (p : Bool) (a b : Nat) : sgn p (a * b) = sgn p a * b := by unfold sgn; cases p <;> simp [Int.neg_mul]
theorem zid (x y : Rat) : x + y = mkRat (sgn (decide (x.num < 0)) (x.num.natAbs * y.den) + sgn (decide (y.num < 0)) (y.num.natAbs * x.den)) (x.den * y.den) := by
 rw [zkz, zkz, z9j, z9j, Rat.add_def']
theorem znr {a b : Q} {x y : Rat} {N : Nat} (ha : QV a x) (hb : QV b y) (dx : Dl x N) (dy : Dl y N) (hN : N <= 7000000) (hK : 2000000000 < K) : ∃ q, z6c K a b = some q /\ QV q (x + y) := by
 have la := ha.lens9 dx
 have lb := hb.lens9 dy
 have hN1 := dx.pos
 unfold z6c
 by_cases hx : x = 0
 ·subst hx
  refine ⟨b, ?_, by rw [Rat.zero_add]; exact hb⟩
  rw [if_pos (by rw [beq_iff_eq]; have := ha.num0.2 rfl; omega)]
 ·have hx0 : a.num.length ≠ 0 := fun e => hx (ha.num0.1 e)
  rw [if_neg (by rw [beq_iff_eq]; omega)]
  by_cases hy : y = 0
  ·subst hy
   refine ⟨a, ?_, by rw [Rat.add_zero]; exact ha⟩
   rw [if_pos (by rw [beq_iff_eq]; have := hb.num0.2 rfl; omega)]
  ·have hy0 : b.num.length ≠ 0 := fun e => hy (hb.num0.1 e)
   rw [if_neg (by rw [beq_iff_eq]; omega)]
   obtain ⟨wa, wa1, wa2, wa3⟩ := z89 (K := K) ha hK
   obtain ⟨wb, wb1, wb2, wb3⟩ := z89 (K := K) hb hK
   obtain ⟨X, X1, X2, X3⟩ := z8v (K := K) (x := a.num) (y := wb) (by omega) hK ha.2.1 wb2
   obtain ⟨Y, Y1, Y2, Y3⟩ := z8v (K := K) (x := b.num) (y := wa) (by omega) hK hb.2.1 wa2
   obtain ⟨D, D1, D2, D3⟩ := z8v (K := K) (x := wa) (y := wb) (by omega) hK wa2 wb2
   rw [wa1, wb1, z0e, X1, z0e, z0e, Y1, z0e, z0e, z0e, D1, z0e]
   rw [<- Int.natCast_mul] at X2 Y2 D2
   have hD : x.den * y.den ≠ 0 := Nat.mul_ne_zero x.den_nz y.den_nz
   rw [zid, <- ha.1, <- hb.1]
   generalize x.num.natAbs * y.den = m at X2 ⊢
   generalize y.num.natAbs * x.den = n at Y2 ⊢
   by_cases hs : a.neg = b.neg
   ·obtain ⟨Z, Z1, Z2, Z3⟩ := znd (K := K) (x := X) (y := Y) (by omega) (by omega) hK X2 Y2
    rw [<- Int.natCast_add] at Z2
    obtain ⟨q, q1, q2⟩ := zic (K := K) (neg := a.neg) hD Z2 D2 (by omega) (by omega) hK
    refine ⟨q, ?_, by rw [<- hs, <- zky]; exact q2⟩
    rw [if_pos (by simpa using hs), Z1, z0e, q1, z0e]
   ·have hc := zew (K := K) (x := X) (y := Y) (by omega) (by omega) hK X2 Y2
    rw [if_neg (by simpa using hs), hc, z0e]
    by_cases hle : n <= m
    ·obtain ⟨Z, Z1, Z2, Z3⟩ := zks (K := K) (x := X) (y := Y) (by omega) hK X2 Y2 (by omega)
     rw [<- Int.natCast_sub hle] at Z2
     obtain ⟨q, q1, q2⟩ := zic (K := K) (neg := a.neg) hD Z2 D2 (by omega) (by omega) hK
     refine ⟨q, ?_, by rw [<- zf7 _ _ hs hle]; exact q2⟩
     rw [if_pos (decide_eq_true (by rw [if_neg (by omega)]; split <;> omega)), Z1, z0e, q1, z0e]
    ·obtain ⟨Z, Z1, Z2, Z3⟩ := zks (K := K) (x := Y) (y := X) (by omega) hK Y2 X2 (by omega)
     rw [<- Int.natCast_sub (show m <= n by omega)] at Z2
     obtain ⟨q, q1, q2⟩ := zic (K := K) (neg := b.neg) hD Z2 D2 (by omega) (by omega) hK
     refine ⟨q, ?_, by rw [Int.add_comm, <- zf7 _ _ (fun e => hs e.symm) (by omega)]; exact q2⟩
     have e : decide ((if ((m : Nat) : Int) < (n : Nat) then (-1 : Int) else if ((m : Nat) : Int) = (n : Nat) then 0 else 1) >= 0) = false := by
      rw [if_pos (by omega)]; rfl
     rw [e]
     simp only [Bool.false_eq_true, if_false]
     rw [Z1, z0e, q1, z0e]
theorem zl0 {a : Q} {x : Rat} (ha : QV a x) : ∃ q, z5c K a = some q /\ QV q (-x) := by
 unfold z5c
 by_cases hx : x = 0
 ·subst hx
  refine ⟨a, ?_, by rw [Rat.neg_zero]; exact ha⟩
  rw [if_pos (by rw [beq_iff_eq]; have := ha.num0.2 rfl; omega)]
 ·have hx0 : a.num.length ≠ 0 := fun e => hx (ha.num0.1 e)
  refine ⟨⟨!a.neg, a.num, a.den⟩, by rw [if_neg (by rw [beq_iff_eq]; omega)], ?_, ?_, ?_⟩
  ·dsimp only
   rw [ha.1, Rat.neg_num]
   have : x.num ≠ 0 := fun e => hx (Rat.num_eq_zero.1 e)
   by_cases c : x.num < 0
   ·rw [decide_eq_true c, decide_eq_false (by omega)]; rfl
   ·rw [decide_eq_false c, decide_eq_true (by omega)]; rfl
  ·dsimp only
   rw [Rat.neg_num, Int.natAbs_neg]; exact ha.2.1
  ·dsimp only
   rw [Rat.neg_den]; exact ha.2.2
theorem zns {a b : Q} {x y : Rat} {N : Nat} (ha : QV a x) (hb : QV b y) (dx : Dl x N) (dy : Dl y N) (hN : N <= 7000000) (hK : 2000000000 < K) : ∃ q, z6d K a b = some q /\ QV q (x - y) := by
 obtain ⟨m, m1, m2⟩ := zl0 (K := K) hb
 obtain ⟨q, q1, q2⟩ := znr (K := K) ha m2 dx dy.neg hN hK
 exact ⟨q, by unfold z6d; rw [m1, z0e, q1, z0e], by rw [Rat.sub_eq_add_neg]; exact q2⟩
theorem zl1 {a b : Q} {x y : Rat} {N : Nat} (ha : QV a x) (hb : QV b y) (dx : Dl x N) (dy : Dl y N) (hN : N <= 7000000) (hK : 2000000000 < K) : ∃ q, z4d K a b = some q /\ QV q (x * y) := by
 have la := ha.lens9 dx
 have lb := hb.lens9 dy
 have hN1 := dx.pos
 unfold z4d
 by_cases hz : x = 0 \/ y = 0
 ·refine ⟨⟨false, [], []⟩, ?_, ?_⟩
  ·rcases hz with rfl | rfl
   ·have := ha.num0.2 rfl
    rw [if_pos (by rw [beq_iff_eq]; omega)]
    rfl
   ·have := hb.num0.2 rfl
    have e : ((b.num.length : Int) == 0) = true := by rw [beq_iff_eq]; omega
    rw [e]
    by_cases c : ((a.num.length : Int) == 0) = true
    ·rw [if_pos c]; rfl
    ·rw [if_neg c]; rfl
  ·have : x * y = 0 := by rcases hz with rfl | rfl <;> simp
   rw [this]; exact QV.zero
 ·have hx0 : a.num.length ≠ 0 := fun e => hz (.inl (ha.num0.1 e))
  have hy0 : b.num.length ≠ 0 := fun e => hz (.inr (hb.num0.1 e))
  have e1 : ((a.num.length : Int) == 0) = false := by rw [beq_eq_false_iff_ne]; omega
  have e2 : ((b.num.length : Int) == 0) = false := by rw [beq_eq_false_iff_ne]; omega
  obtain ⟨wa, wa1, wa2, wa3⟩ := z89 (K := K) ha hK
  obtain ⟨wb, wb1, wb2, wb3⟩ := z89 (K := K) hb hK
  obtain ⟨X, X1, X2, X3⟩ := z8v (K := K) (x := a.num) (y := b.num) (by omega) hK ha.2.1 hb.2.1
  obtain ⟨D, D1, D2, D3⟩ := z8v (K := K) (x := wa) (y := wb) (by omega) hK wa2 wb2
  rw [<- Int.natCast_mul] at X2 D2
  have hD : x.den * y.den ≠ 0 := Nat.mul_ne_zero x.den_nz y.den_nz
  obtain ⟨q, q1, q2⟩ := zic (K := K) (neg := !(a.neg == b.neg)) hD X2 D2 (by omega) (by omega) hK
  refine ⟨q, ?_, ?_⟩
  ·rw [e1, e2]
   simp only [Bool.false_eq_true, if_false, z0e, tu1a, X1, wa1, wb1, D1, q1]
  ·rw [zi6, <- ha.1, <- hb.1]
   exact q2
theorem znt {a b : Q} {x y : Rat} {N : Nat} (ha : QV a x) (hb : QV b y) (dx : Dl x N) (dy : Dl y N) (hN : N <= 7000000) (hK : 2000000000 < K) : ∃ q, z6a K a b = some q /\ QV q (x / y) := by
 have la := ha.lens9 dx
 have lb := hb.lens9 dy
 have hN1 := dx.pos
 unfold z6a
 by_cases hz : x = 0 \/ y = 0
 ·refine ⟨⟨false, [], []⟩, ?_, ?_⟩
  ·rcases hz with rfl | rfl
   ·have := ha.num0.2 rfl
    rw [if_pos (by rw [beq_iff_eq]; omega)]
    rfl
   ·have := hb.num0.2 rfl
    have e : ((b.num.length : Int) == 0) = true := by rw [beq_iff_eq]; omega
    rw [e]
    by_cases c : ((a.num.length : Int) == 0) = true
    ·rw [if_pos c]; rfl
    ·rw [if_neg c]; rfl
  ·have : x / y = 0 := by rcases hz with rfl | rfl <;> grind
   rw [this]; exact QV.zero
 ·have hx0 : a.num.length ≠ 0 := fun e => hz (.inl (ha.num0.1 e))
  have hy0 : b.num.length ≠ 0 := fun e => hz (.inr (hb.num0.1 e))
  have e1 : ((a.num.length : Int) == 0) = false := by rw [beq_eq_false_iff_ne]; omega
  have e2 : ((b.num.length : Int) == 0) = false := by rw [beq_eq_false_iff_ne]; omega
  obtain ⟨wa, wa1, wa2, wa3⟩ := z89 (K := K) ha hK
  obtain ⟨wb, wb1, wb2, wb3⟩ := z89 (K := K) hb hK
  obtain ⟨X, X1, X2, X3⟩ := z8v (K := K) (x := a.num) (y := wb) (by omega) hK ha.2.1 wb2
  obtain ⟨D, D1, D2, D3⟩ := z8v (K := K) (x := wa) (y := b.num) (by omega) hK wa2 hb.2.1
  rw [<- Int.natCast_mul] at X2 D2
  have hyn : y.num ≠ 0 := fun e => hz (.inr (Rat.num_eq_zero.1 e))
  have hD : x.den * y.num.natAbs ≠ 0 := Nat.mul_ne_zero x.den_nz (by omega)
  obtain ⟨q, q1, q2⟩ := zic (K := K) (neg := !(a.neg == b.neg)) hD X2 D2 (by omega) (by omega) hK
  refine ⟨q, ?_, ?_⟩
  ·rw [e1, e2]
   simp only [Bool.false_eq_true, if_false, z0e, tu1a, X1, wa1, wb1, D1, q1]
  ·rw [zi7 x y (fun e => hz (.inr e)), <- ha.1, <- hb.1]
   exact q2
theorem zm3 {a : Q} {x : Rat} (ha : QV a x) : z3m K a = some (if x = 0 then 0 else if x.num < 0 then -1 else 1) := by
 unfold z3m
 by_cases hx : x = 0
 ·have := ha.num0.2 hx
  rw [if_pos (by rw [beq_iff_eq]; omega), if_pos hx]
 ·have hx0 : a.num.length ≠ 0 := fun e => hx (ha.num0.1 e)
  rw [if_neg (by rw [beq_iff_eq]; omega), if_neg hx, ha.1]
  by_cases c : x.num < 0 <;> simp [c]
end Go.Am.Tryz
/- Plain law: texts in and out of the program's rational numbers; the reference's sums and products. -/
namespace Go.Am.Tryz
open Go Go.Am Go.Proofs
variable {K : Nat}
theorem zie {d : zAd} (h : CanT d) : d = ⟨#[49]⟩ ↔ numT d = 1 := ⟨fun e => by rw [e, z5p], fun e => z85 h z64 (by rw [e, z5p])⟩
theorem zdb (N : Nat) (h : N ≠ 0) : 1 < 10 ^ N := Nat.one_lt_pow h (by omega)
theorem zqc {s n d : zAd} {neg many : Bool} (h : Sp s neg n many d) (h0 : ratS neg n many d = 0) : ∃ x, RTx s x /\ Dl x 2000 := by
 unfold ratS at h0
 by_cases c1 : natE n = 5 \/ (many = true /\ natE d = 5) \/ (neg = true /\ n = ⟨#[48]⟩)
 ·rw [if_pos c1] at h0; cases h0
 ·rw [if_neg c1] at h0
  by_cases c2 : natE n ≠ 0 \/ (many = true /\ natE d ≠ 0)
  ·rw [if_pos c2] at h0; cases h0
  ·rw [if_neg c2] at h0
   by_cases c3 : many = true /\ (d = ⟨#[48]⟩ \/ d = ⟨#[49]⟩ \/ Nat.gcd (numT n).toNat (numT d).toNat ≠ 1)
   ·rw [if_pos c3] at h0; cases h0
   ·have en : natE n = 0 := by
     by_cases e : natE n = 0
     ·exact e
     ·exact absurd (.inl e) c2
    obtain ⟨cn, ln⟩ := (z9i n).1 en
    have nn := z2x cn.2.1
    have hNN : numT n = ((numT n).toNat : Int) := by omega
    have hneg : neg = true -> (numT n).toNat ≠ 0 := fun e hz => c1 (.inr (.inr ⟨e, (zc6 cn).1 (by omega)⟩))
    have lN := zda (N := 2000) cn.2.1 hNN ln
    -- the number whose parts these are
    have key : ∀ (D : Nat) (d' : zAd), CanT d' -> numT d' = D -> D ≠ 0 -> Nat.gcd (numT n).toNat D = 1 -> D < 10 ^ 2000 -> (many = true ↔ D ≠ 1) -> Sp s neg n many d' -> ∃ x, RTx s x /\ Dl x 2000 := by
     intro D d' cd hD hD0 hg hD2 hm hsp
     have m1 := zk3 neg (numT n).toNat D hD0
     have m2 := zk4 neg (numT n).toNat D hD0
     rw [hg, Nat.div_one] at m1 m2
     have m3 : decide ((mkRat (sgn neg (numT n).toNat) D).num < 0) = neg := by
      by_cases hz : (numT n).toNat = 0
      ·have : neg = false := by
        cases hne : neg with
        | false => rfl
        | true => exact absurd hz (hneg hne)
       subst this
       rw [hz]
       have : mkRat (sgn false 0) D = 0 := by have : sgn false 0 = 0 := rfl; rw [this, Rat.zero_mkRat]
       rw [this]; rfl
      ·exact zm2 neg _ D hD0 hz
     refine ⟨mkRat (sgn neg (numT n).toNat) D, ⟨n, d', cn, cd, by rw [m1]; exact hNN, by rw [m2]; exact hD, ?_⟩, Dl.mk _ hD0 lN hD2⟩
     rw [m3, m2]
     have : decide (D ≠ 1) = many := by
      cases hmm : many with
      | false => exact decide_eq_false (fun h => by rw [hmm] at hm; have := hm.2 h; cases this)
      | true => exact decide_eq_true (hm.1 hmm)
     rw [this]
     exact hsp
    cases many with
    | false =>
     refine key 1 ⟨#[49]⟩ z64 z5p (by omega) (Nat.gcd_one_right _) (zdb 2000 (by omega)) (by simp) ⟨by simpa using h.eq, h.no, h.hd⟩
    | true =>
     have ed : natE d = 0 := by
      by_cases e : natE d = 0
      ·exact e
      ·exact absurd (.inr ⟨rfl, e⟩) c2
     obtain ⟨cd, ld⟩ := (z9i d).1 ed
     have nd := z2x cd.2.1
     have hDD : numT d = ((numT d).toNat : Int) := by omega
     have d0 : d ≠ ⟨#[48]⟩ := fun e => c3 ⟨rfl, .inl e⟩
     have d1 : d ≠ ⟨#[49]⟩ := fun e => c3 ⟨rfl, .inr (.inl e)⟩
     have hg : Nat.gcd (numT n).toNat (numT d).toNat = 1 := by
      by_cases e : Nat.gcd (numT n).toNat (numT d).toNat = 1
      ·exact e
      ·exact absurd ⟨rfl, .inr (.inr e)⟩ c3
     exact key (numT d).toNat d cd hDD (fun e => d0 ((zc6 cd).1 (by omega))) hg (zda (N := 2000) cd.2.1 hDD ld) (by
      simp only [true_iff]
      exact fun e => d1 ((zie cd).2 (by omega))) h
theorem RTx.size {s : zAd} {x : Rat} {N : Nat} (h : RTx s x) (dx : Dl x N) : s.size <= 2 * N + 4 := by
 obtain ⟨n, d, h1, h2, h3, h4, h5⟩ := h
 have l1 := z8y h1 h3 dx.1
 have l2 := z8y h2 h4 dx.2
 have := congrArg List.length h5.eq
 rw [z00, List.length_append, List.length_append, z00] at this
 have e1 : (if decide (x.num < 0) = true then ([45] : List Int) else []).length <= 1 := by split <;> simp
 have e2 : (if decide (x.den ≠ 1) = true then (47 :: z02 d : List Int) else []).length <= d.size + 1 := by
  split
  ·rw [List.length_cons, z00]; omega
  ·simp
 omega
theorem RTx.dl {s : zAd} {x : Rat} {N : Nat} (h : RTx s x) (hs : s.size <= N) : Dl x (N + 1) := by
 obtain ⟨n, d, h1, h2, h3, h4, h5⟩ := h
 have hsz := h5.size
 refine ⟨Nat.lt_of_lt_of_le (zda h1.2.1 h3 (Nat.le_trans hsz.1 hs)) (Nat.pow_le_pow_right (by omega) (by omega)), ?_⟩
 by_cases c : x.den ≠ 1
 ·exact Nat.lt_of_lt_of_le (zda h2.2.1 h4 (Nat.le_trans (hsz.2 (decide_eq_true c)) hs)) (Nat.pow_le_pow_right (by omega) (by omega))
 ·have : x.den = 1 := by omega
  rw [this]
  exact Nat.one_lt_pow (by omega) (by omega)
theorem RTx.pos {s : zAd} {x : Rat} (h : RTx s x) : s.size ≠ 0 := by
 obtain ⟨n, d, h1, h2, h3, h4, h5⟩ := h
 have := h5.size.1
 have := h1.1
 omega
theorem zp6 {s : zAd} {x : Rat} (h : RTx s x) (hs : s.size <= 1048576) (hK : 2000000000 < K) : ∃ q, zab K s = some q /\ QV q x := by
 obtain ⟨n, d, h1, h2, h3, h4, h5⟩ := h
 obtain ⟨s1, neg', n', d', many', c1, c2, c3, c4, c5⟩ := zak K hs
 obtain ⟨rfl, rfl, rfl, hd⟩ := h5.uniq c3
 have hsz := h5.size
 obtain ⟨a, a1, a2, a3⟩ := z9d (K := K) (s := n) (by omega) hK h1.2.1
 rw [h3] at a2
 unfold zab
 rw [c1, z0e, c2, z0e]
 dsimp only
 rw [a1, z0e, zf4 hK, z0e]
 by_cases c : x.den ≠ 1
 ·have := hd (decide_eq_true c)
  subst this
  obtain ⟨b, b1, b2, b3⟩ := z9d (K := K) (s := d) (by have := hsz.2 (decide_eq_true c); omega) hK h2.2.1
  rw [h4] at b2
  exact ⟨⟨decide (x.num < 0), a, b⟩, by rw [decide_eq_true c, if_pos rfl, b1, z0e, z0e, tu1a], rfl, a2, .inl b2⟩
 ·have e : x.den = 1 := by omega
  exact ⟨⟨decide (x.num < 0), a, [1]⟩, by rw [decide_eq_false c]; rfl, rfl, a2, .inl (by rw [e]; exact .one (by omega) (by omega))⟩
theorem zif {n : zAd} (h : (z02 n).all digT = true) : (47 : Int) ∉ z02 n := fun hm => by
 have := digT_iff.1 (List.all_eq_true.1 h _ hm); omega
theorem zk9 {s n d : zAd} {x : Rat} (h1 : CanT n) (h2 : CanT d) (h3 : numT n = (x.num.natAbs : Nat)) (h4 : numT d = (x.den : Nat)) (h : z02 s = (if decide (x.num < 0) then [45] else []) ++ (z02 n ++ (if decide (x.den ≠ 1) then 47 :: z02 d else []))) : RTx s x := by
 refine ⟨n, d, h1, h2, h3, h4, h, zif h1.2.1, fun hn => ?_⟩
 rw [h, hn]
 have hl := z00 n
 cases hb : z02 n with
 | nil => rw [hb] at hl; simp at hl; exact absurd hl.symm h1.1
 | cons c l =>
  have := digT_iff.1 (List.all_eq_true.1 h1.2.1 c (by rw [hb]; simp))
  simp only [Bool.false_eq_true, if_false, List.nil_append, List.cons_append, List.head?_cons]
  intro e; cases e; omega
theorem znu {a : Q} {x : Rat} {N : Nat} (ha : QV a x) (dx : Dl x N) (hN : N <= 8000000) (hK : 2000000000 < K) : ∃ s, z6g K a = some s /\ RTx s x := by
 have la := ha.lens9 dx
 have hN1 := dx.pos
 unfold z6g
 by_cases hx : x = 0
 ·subst hx
  have := ha.num0.2 rfl
  refine ⟨⟨#[48]⟩, by rw [if_pos (by rw [beq_iff_eq]; omega)], zk9 z7q z64 z4p z5p rfl⟩
 ·have hx0 : a.num.length ≠ 0 := fun e => hx (ha.num0.1 e)
  obtain ⟨w, w1, w2, w3⟩ := z89 (K := K) ha hK
  obtain ⟨n, n1, n2, n3, n4⟩ := zht (K := K) (x := a.num) (by omega) hK ha.2.1
  obtain ⟨d, d1, d2, d3, d4⟩ := zht (K := K) (x := w) (by omega) hK w2
  rw [if_neg (by rw [beq_iff_eq]; omega), n1, z0e, ha.1]
  have hm : sEq d ⟨#[49]⟩ = decide (x.den = 1) := by
   rw [z8x]
   congr 1
   rw [zie d2, d3, eq_iff_iff]; omega
  have e45 : ((⟨#[45]⟩ : zAd)).size = 1 := rfl
  have e47 : ((⟨#[47]⟩ : zAd)).size = 1 := rfl
  have b45 : z02 (⟨#[45]⟩ : zAd) = [45] := rfl
  have b47 : z02 (⟨#[47]⟩ : zAd) = [47] := rfl
  obtain ⟨m, m1, m2, m3⟩ : ∃ m, (if decide (x.num < 0) = true then (if ((⟨#[45]⟩ : zAd)).size + (n).size <= 4611686018427387904 then some ((⟨#[45]⟩ : zAd) ++ n) else none) else some n) = some m /\ z02 m = (if decide (x.num < 0) = true then [45] else []) ++ z02 n /\ m.size <= n.size + 1 := by
   by_cases c : x.num < 0
   ·refine ⟨(⟨#[45]⟩ : zAd) ++ n, ?_, ?_, ?_⟩
    ·rw [decide_eq_true c, if_pos rfl, if_pos (by omega)]
    ·rw [decide_eq_true c, z0n, b45]; rfl
    ·rw [<- z00, z0n, b45, List.length_append, z00]; simp; omega
   ·exact ⟨n, by rw [decide_eq_false c]; rfl, by rw [decide_eq_false c]; rfl, by omega⟩
  rw [m1, z0e, tu1a, w1, z0e, d1, z0e, hm]
  by_cases c : x.den = 1
  ·refine ⟨m, by rw [decide_eq_true c]; rfl, zk9 n2 d2 n3 d3 ?_⟩
   have hdd : decide (x.den ≠ 1) = false := decide_eq_false (fun h => h c)
   rw [m2, hdd]; simp
  ·have hsd : ((⟨#[47]⟩ : zAd) ++ d).size = d.size + 1 := by rw [<- z00, z0n, b47, List.length_append, z00]; simp; omega
   refine ⟨m ++ ((⟨#[47]⟩ : zAd) ++ d), ?_, zk9 n2 d2 n3 d3 ?_⟩
   ·rw [decide_eq_false c]
    simp only [Bool.not_false, if_true]
    rw [if_pos (by omega), if_pos (by omega), z0e, tu1a]
   ·have hdd : decide (x.den ≠ 1) = true := decide_eq_true c
    rw [z0n, z0n, m2, b47, hdd]; simp
theorem zf8 {l : List Int} {n : Nat} (hl : l.length <= 1000000) (hK : 2000000000 < K) (h : NumN n l) : ∃ k : Nat, z2p K l = some (k : Int) /\ (k <= 2000 ↔ n < 10 ^ 2000) := by
 obtain ⟨t, t1, t2, t3, t4⟩ := zht hl hK h
 refine ⟨t.size, by unfold z2p; rw [t1, z0e], fun h => zda (N := 2000) t2.2.1 t3 h, fun h => ?_⟩
 refine Nat.not_lt.1 fun hlt => ?_
 have g1 := zb5 t2 (by omega)
 rw [t3] at g1
 have g2 : (10 : Int) ^ 2000 <= 10 ^ (t.size - 1) := z6l (by omega) (by omega)
 have g3 := z6y 2000
 have g4 : (n : Int) < ((10 ^ 2000 : Nat) : Int) := Int.ofNat_lt.2 h
 rw [g3] at g4
 exact absurd (Int.lt_of_lt_of_le g4 (Int.le_trans g2 g1)) (Int.lt_irrefl _)
theorem znv {a : Q} {x : Rat} {N : Nat} (ha : QV a x) (dx : Dl x N) (hN : N <= 8000000) (hK : 2000000000 < K) : (Dl x 2000 -> z6f K a = some 0) /\ (¬ Dl x 2000 -> z6f K a = some 2) := by
 have la := ha.lens9 dx
 obtain ⟨k, k1, k2⟩ := zf8 (K := K) (l := a.num) (by omega) hK ha.2.1
 obtain ⟨m, m1, m2⟩ : ∃ m : Nat, z2p K a.den = some (m : Int) /\ (m <= 2000 ↔ x.den < 10 ^ 2000) := by
  rcases ha.2.2 with h | ⟨h, h2⟩
  ·exact zf8 (by omega) hK h
  ·refine ⟨1, ?_, ?_⟩
   ·rw [h]; rfl
   ·rw [h2]; exact ⟨fun _ => zdb 2000 (by omega), fun _ => by decide⟩
 unfold z6f
 rw [k1, m1]
 by_cases c1 : k <= 2000
 ·by_cases c2 : m <= 2000
  ·have hd : Dl x 2000 := ⟨k2.1 c1, m2.1 c2⟩
   refine ⟨fun _ => ?_, fun h => absurd hd h⟩
   have e1 : decide ((k : Int) > 2000) = false := decide_eq_false (by omega)
   have e2 : decide ((m : Int) > 2000) = false := decide_eq_false (by omega)
   rw [z0e, e1]
   simp only [Bool.false_eq_true, if_false, z0e, e2, tu1a]
  ·refine ⟨fun h => absurd (m2.2 h.2) c2, fun _ => ?_⟩
   have e1 : decide ((k : Int) > 2000) = false := decide_eq_false (by omega)
   have e2 : decide ((m : Int) > 2000) = true := decide_eq_true (by omega)
   rw [z0e, e1]
   simp only [Bool.false_eq_true, if_false, z0e, e2, tu1a, if_true]
 ·refine ⟨fun h => absurd (k2.2 h.1) c1, fun _ => ?_⟩
  have e1 : decide ((k : Int) > 2000) = true := decide_eq_true (by omega)
  rw [z0e, e1]
  simp only [z0e, tu1a, if_true]
theorem zal {neg : Bool} {n d : zAd} {N D : Nat} (hD : D ≠ 0) (cn : CanT n) (cd : CanT d) (hn : numT n = N) (hd : numT d = D) (ln : n.size <= 400000) (ld : d.size <= 400000) (hK : 2000000000 < K) :
  ∃ s, z5t K neg n d = some s /\ RTx s (mkRat (sgn neg N) D) := by
 unfold z5t
 by_cases h0 : N = 0
 ·subst h0
  have : n = ⟨#[48]⟩ := (zc6 cn).1 (by omega)
  subst this
  have e : mkRat (sgn neg 0) D = 0 := by
   have : sgn neg 0 = 0 := by cases neg <;> rfl
   rw [this, Rat.zero_mkRat]
  refine ⟨⟨#[48]⟩, by rw [zc7]; rfl, ?_⟩
  rw [e]
  exact zk9 z7q z64 z4p z5p rfl
 ·have e0 : sEq n ⟨#[48]⟩ = false := zp4 (fun e => by rw [e, z4p] at hn; omega)
  obtain ⟨g, g1, g2, g3⟩ := zkx (K := K) (x := n) (y := d) ln ld hK cn cd hn hd
  have gp : 0 < Nat.gcd N D := Nat.gcd_pos_of_pos_left D (by omega)
  have gl := z3a cn g2 (by rw [g3, hn]; have := Nat.gcd_le_left (m := N) D (by omega); omega)
  obtain ⟨q1, r1, a1, a2, a3, a4, a5⟩ := zf2 (K := K) (a := n) (b := g) ln (by omega) hK cn g2 (by omega)
  obtain ⟨q2, r2, b1, b2, b3, b4, b5⟩ := zf2 (K := K) (a := d) (b := g) ld (by omega) hK cd g2 (by omega)
  rw [hn, g3] at a4
  rw [hd, g3] at b4
  have m1 := zk3 neg N D hD
  have m2 := zk4 neg N D hD
  have m3 := zm2 neg N D hD h0
  have f1 : numT q1 = ((mkRat (sgn neg N) D).num.natAbs : Nat) := by rw [m1, a4]; simp
  have f2 : numT q2 = ((mkRat (sgn neg N) D).den : Nat) := by rw [m2, b4]; simp
  generalize mkRat (sgn neg N) D = x at *
  rw [e0]
  simp only [Bool.false_eq_true, if_false]
  rw [g1, z0e, a1, z0e, b1, z0e]
  have hm : sEq q2 ⟨#[49]⟩ = decide (x.den = 1) := by
   rw [z8x]
   congr 1
   rw [zie b2, f2, eq_iff_iff]; omega
  have l1 := z3a cn a2 (by rw [a4, hn]; exact Int.ediv_le_self _ (by omega))
  have l2 := z3a cd b2 (by rw [b4, hd]; exact Int.ediv_le_self _ (by omega))
  have e45 : ((⟨#[45]⟩ : zAd)).size = 1 := rfl
  have e47 : ((⟨#[47]⟩ : zAd)).size = 1 := rfl
  have b45 : z02 (⟨#[45]⟩ : zAd) = [45] := rfl
  have b47 : z02 (⟨#[47]⟩ : zAd) = [47] := rfl
  obtain ⟨m, k1, k2, k3⟩ : ∃ m, (if neg = true then (if ((⟨#[45]⟩ : zAd)).size + (q1).size <= 4611686018427387904 then some ((⟨#[45]⟩ : zAd) ++ q1) else none) else some q1) = some m /\ z02 m = (if decide (x.num < 0) = true then [45] else []) ++ z02 q1 /\ m.size <= q1.size + 1 := by
   rw [m3]
   cases neg with
   | true =>
    refine ⟨(⟨#[45]⟩ : zAd) ++ q1, ?_, ?_, ?_⟩
    ·rw [if_pos rfl, if_pos (by omega)]
    ·rw [z0n, b45]; rfl
    ·rw [<- z00, z0n, b45, List.length_append, z00]; simp; omega
   | false => exact ⟨q1, rfl, rfl, by omega⟩
  dsimp only
  rw [k1, z0e, tu1a, hm]
  by_cases c : x.den = 1
  ·refine ⟨m, by rw [decide_eq_true c]; rfl, zk9 a2 b2 f1 f2 ?_⟩
   have hdd : decide (x.den ≠ 1) = false := decide_eq_false (fun h => h c)
   rw [k2, hdd]; simp
  ·have hsm : (m ++ (⟨#[47]⟩ : zAd)).size = m.size + 1 := by rw [<- z00, z0n, b47, List.length_append, z00]; simp
   refine ⟨(m ++ (⟨#[47]⟩ : zAd)) ++ q2, ?_, zk9 a2 b2 f1 f2 ?_⟩
   ·rw [decide_eq_false c]
    simp only [Bool.false_eq_true, if_false]
    rw [if_pos (by omega), if_pos (by omega)]
   ·have hdd : decide (x.den ≠ 1) = true := decide_eq_true c
    rw [z0n, z0n, k2, b47, hdd]; simp
theorem z8z {a : zAd} {x : Rat} {N : Nat} (h : RTx a x) (dx : Dl x N) (hN : N <= 100000) (hK : 2000000000 < K) : ∃ n d, z4m K a = some (decide (x.num < 0), n, d) /\ CanT n /\ CanT d /\ numT n = (x.num.natAbs : Nat) /\ numT d = (x.den : Nat) /\ n.size <= N + 1 /\ d.size <= N + 1 := by
 have hs := h.size dx
 have h0 := h.pos
 obtain ⟨n, d, h1, h2, h3, h4, h5⟩ := h
 have hp := zk8 (K := K) (by omega) h0 hK h5
 have l1 := z8y h1 h3 dx.1
 have l2 := z8y h2 h4 dx.2
 by_cases c : x.den ≠ 1
 ·rw [decide_eq_true c] at hp
  exact ⟨n, d, hp, h1, h2, h3, h4, l1, l2⟩
 ·rw [decide_eq_false c] at hp
  have e : x.den = 1 := by omega
  exact ⟨n, ⟨#[49]⟩, hp, h1, z64, h3, by rw [e]; rfl, l1, by show 1 <= N + 1; omega⟩
theorem zl2 {a b : zAd} {x y : Rat} {N : Nat} (ha : RTx a x) (hb : RTx b y) (dx : Dl x N) (dy : Dl y N) (hN : N <= 100000) (hK : 2000000000 < K) : ∃ c, z5o K a b = some c /\ RTx c (x + y) := by
 obtain ⟨n, d, p1, p2, p3, p4, p5, p6, p7⟩ := z8z (K := K) ha dx hN hK
 obtain ⟨m, e, q1, q2, q3, q4, q5, q6, q7⟩ := z8z (K := K) hb dy hN hK
 obtain ⟨X, X1, X2, X3⟩ := zd5 (K := K) (a := n) (b := e) (by omega) (by omega) hK p2.2.1 q3.2.1
 obtain ⟨Y, Y1, Y2, Y3⟩ := zd5 (K := K) (a := m) (b := d) (by omega) (by omega) hK q2.2.1 p3.2.1
 obtain ⟨D, D1, D2, D3⟩ := zd5 (K := K) (a := d) (b := e) (by omega) (by omega) hK p3.2.1 q3.2.1
 rw [p4, q5, <- Int.natCast_mul] at X3
 rw [q4, p5, <- Int.natCast_mul] at Y3
 rw [p5, q5, <- Int.natCast_mul] at D3
 have hD : x.den * y.den ≠ 0 := Nat.mul_ne_zero x.den_nz y.den_nz
 have lX := z8y X2 X3 (z2v dx.1 dy.2)
 have lY := z8y Y2 Y3 (z2v dy.1 dx.2)
 have lD := z8y D2 D3 (z2v dx.2 dy.2)
 unfold z5o
 rw [p1, z0e, q1, z0e]
 dsimp only
 rw [X1, z0e, Y1, z0e, D1, z0e, zid]
 generalize x.num.natAbs * y.den = u at X3 ⊢
 generalize y.num.natAbs * x.den = v at Y3 ⊢
 generalize decide (x.num < 0) = p
 generalize decide (y.num < 0) = q
 by_cases hs : p = q
 ·obtain ⟨Z, Z1, Z2, Z3⟩ := zng (K := K) (a := X) (b := Y) (by omega) (by omega) (by have := X2.1; omega) (by omega) X2.2.1 Y2.2.1
  rw [X3, Y3, <- Int.natCast_add] at Z3
  have lZ : Z.size <= 400000 := by
   refine Nat.not_lt.1 fun hlt => ?_
   have g1 := zb5 Z2 (by omega)
   have g2 := zai X2.2.1
   have g3 := zai Y2.2.1
   have g4 : (10 : Int) ^ X.size <= 10 ^ (Z.size - 2) := z6l (by omega) (by omega)
   have g5 : (10 : Int) ^ Y.size <= 10 ^ (Z.size - 2) := z6l (by omega) (by omega)
   have g6 : (10 : Int) ^ (Z.size - 1) = 10 ^ (Z.size - 2) * 10 := by rw [<- Int.pow_succ]; congr 1; omega
   rw [X3] at g2
   rw [Y3] at g3
   have g7 : (0 : Int) < 10 ^ (Z.size - 2) := Int.pow_pos (by omega)
   generalize (10 : Int) ^ (Z.size - 2) = P at *
   omega
  obtain ⟨s, s1, s2⟩ := zal (K := K) (neg := p) (n := Z) (d := D) hD Z2 D2 Z3 D3 lZ (by omega) hK
  refine ⟨s, ?_, by rw [<- hs, <- zky]; exact s2⟩
  rw [if_pos (by simpa using hs), Z1, z0e, s1, z0e]
 ·have hc := zku (K := K) X2 Y2
  rw [if_neg (by simpa using hs), hc, z0e, X3, Y3]
  by_cases hle : v <= u
  ·obtain ⟨Z, Z1, Z2, Z3⟩ := zhw (K := K) (a := X) (b := Y) (by omega) (z3a X2 Y2 (by omega)) (by have := X2.1; omega) (by omega) X2.2.1 Y2.2.1 (by omega)
   rw [X3, Y3, <- Int.natCast_sub hle] at Z3
   have lZ := z3a X2 Z2 (by omega)
   obtain ⟨s, s1, s2⟩ := zal (K := K) (neg := p) (n := Z) (d := D) hD Z2 D2 Z3 D3 (by omega) (by omega) hK
   refine ⟨s, ?_, by rw [<- zf7 _ _ hs hle]; exact s2⟩
   have e : decide ((if ((u : Nat) : Int) < (v : Nat) then (-1 : Int) else if ((u : Nat) : Int) = (v : Nat) then 0 else 1) < 0) = false := by
    rw [if_neg (by omega)]; split <;> rfl
   rw [e]
   simp only [Bool.false_eq_true, if_false, z0e, tu3a, Z1, s1]
  ·obtain ⟨Z, Z1, Z2, Z3⟩ := zhw (K := K) (a := Y) (b := X) (by omega) (z3a Y2 X2 (by omega)) (by have := Y2.1; omega) (by omega) Y2.2.1 X2.2.1 (by omega)
   rw [X3, Y3, <- Int.natCast_sub (show u <= v by omega)] at Z3
   have lZ := z3a Y2 Z2 (by omega)
   obtain ⟨s, s1, s2⟩ := zal (K := K) (neg := q) (n := Z) (d := D) hD Z2 D2 Z3 D3 (by omega) (by omega) hK
   refine ⟨s, ?_, by rw [Int.add_comm, <- zf7 _ _ (fun e => hs e.symm) (by omega)]; exact s2⟩
   have e : decide ((if ((u : Nat) : Int) < (v : Nat) then (-1 : Int) else if ((u : Nat) : Int) = (v : Nat) then 0 else 1) < 0) = true := by
    rw [if_pos (by omega)]; rfl
   rw [e]
   simp only [if_true, z0e, tu3a, Z1, s1]
theorem znw {a b : zAd} {x y : Rat} {N : Nat} (ha : RTx a x) (hb : RTx b y) (dx : Dl x N) (dy : Dl y N) (hN : N <= 100000) (hK : 2000000000 < K) : ∃ c, z7g K a b = some c /\ RTx c (x * y) := by
 obtain ⟨n, d, p1, p2, p3, p4, p5, p6, p7⟩ := z8z (K := K) ha dx hN hK
 obtain ⟨m, e, q1, q2, q3, q4, q5, q6, q7⟩ := z8z (K := K) hb dy hN hK
 obtain ⟨X, X1, X2, X3⟩ := zd5 (K := K) (a := n) (b := m) (by omega) (by omega) hK p2.2.1 q2.2.1
 obtain ⟨D, D1, D2, D3⟩ := zd5 (K := K) (a := d) (b := e) (by omega) (by omega) hK p3.2.1 q3.2.1
 rw [p4, q4, <- Int.natCast_mul] at X3
 rw [p5, q5, <- Int.natCast_mul] at D3
 have hD : x.den * y.den ≠ 0 := Nat.mul_ne_zero x.den_nz y.den_nz
 have lX := z8y X2 X3 (z2v dx.1 dy.1)
 have lD := z8y D2 D3 (z2v dx.2 dy.2)
 obtain ⟨s, s1, s2⟩ := zal (K := K) (neg := !(decide (x.num < 0) == decide (y.num < 0))) (n := X) (d := D) hD X2 D2 X3 D3 (by omega) (by omega) hK
 refine ⟨s, ?_, by rw [zi6]; exact s2⟩
 unfold z7g
 rw [p1, z0e, q1, z0e]
 dsimp only
 rw [X1, z0e, D1, z0e, s1, z0e]
theorem znx {a : zAd} {x : Rat} {N : Nat} (ha : RTx a x) (dx : Dl x N) (hN : N <= 100000) (hK : 2000000000 < K) : ∃ c, z5n K a = some c /\ RTx c (-x) := by
 obtain ⟨n, d, p1, p2, p3, p4, p5, p6, p7⟩ := z8z (K := K) ha dx hN hK
 obtain ⟨s, s1, s2⟩ := zal (K := K) (neg := !decide (x.num < 0)) (n := n) (d := d) x.den_nz p2 p3 p4 p5 (by omega) (by omega) hK
 refine ⟨s, by unfold z5n; rw [p1, z0e, s1, z0e], ?_⟩
 have e : mkRat (sgn (!decide (x.num < 0)) x.num.natAbs) x.den = -x := by
  have e1 : sgn (!decide (x.num < 0)) x.num.natAbs = -x.num := by
   unfold sgn; by_cases h : x.num < 0 <;> simp [h] <;> omega
  rw [e1, <- Rat.neg_mkRat, Rat.mkRat_self]
 rw [<- e]; exact s2
end Go.Am.Tryz
/- Plain law: errors of lists; operations on two texts. -/
namespace Go.Am.Tryz
open Go Go.Am Go.Proofs
variable {K : Nat}
noncomputable def ratE (s : zAd) : Int := @dite Int (∃ e, ∃ neg n many d, Sp s neg n many d /\ ratS neg n many d = e) (Classical.propDecidable _) (fun h => h.choose) fun _ => 0
theorem zig {s n d : zAd} {neg many : Bool} (h : Sp s neg n many d) : ratE s = ratS neg n many d := by
 have hex : ∃ e, ∃ neg n many d, Sp s neg n many d /\ ratS neg n many d = e := ⟨_, _, _, _, _, h, rfl⟩
 unfold ratE
 rw [dif_pos hex]
 obtain ⟨neg', n', many', d', h1, h2⟩ := hex.choose_spec
 rw [<- h2]
 obtain ⟨rfl, rfl, rfl, h3⟩ := h.uniq h1
 cases many with
 | true => rw [h3 rfl]
 | false => unfold ratS; simp
theorem zfu {s : zAd} (hs : s.size <= 1048576) (hK : 2000000000 < K) : z5b K s = some (ratE s) := by
 obtain ⟨s1, neg, n, d, many, _, _, h, _⟩ := zak K hs
 rw [zig h]; exact zk5 hs hK h
theorem zka {s : zAd} (hs : s.size <= 1048576) (hK : 2000000000 < K) : z4h K s = some (ratE s) := by
 obtain ⟨s1, neg, n, d, many, _, _, h, _⟩ := zak K hs
 rw [zig h]; exact zk7 hs hK h
theorem zkb {s : zAd} (hs : s.size <= 1048576) (h : ratE s = 0) : ∃ x, RTx s x /\ Dl x 2000 := by
 obtain ⟨s1, neg, n, d, many, _, _, hp, _⟩ := zak 0 hs
 rw [zig hp] at h
 exact zqc hp h
noncomputable def z6z : List zAd -> Int
 | [] => 0
 | s :: l => if ratE s ≠ 0 then ratE s else z6z l
theorem zb7 : ∀ {l : List zAd}, z6z l = 0 -> ∀ s ∈ l, ratE s = 0
 | [], _, s, hs => by simp at hs
 | t :: l, h, s, hs => by
  rw [z6z] at h
  by_cases c : ratE t = 0
  ·rw [if_neg (by simpa using c)] at h
   rcases List.mem_cons.1 hs with rfl | hs
   ·exact c
   ·exact zb7 h s hs
  ·rw [if_pos c] at h; exact absurd h c
theorem zb8 {l : List zAd} {i : Nat} (h : i < l.length) : z6z (l.drop i) = if ratE l[i] ≠ 0 then ratE l[i] else z6z (l.drop (i + 1)) := by
 rw [List.drop_eq_getElem_cons h, z6z]
theorem zfv {l : List zAd} (hl : l.length <= 1048576) (hs : ∀ s ∈ l, s.size <= 1048576) (hK : 2000000000 < K) : z43 K l = some (z6z l) := by
 have key : ∃ r : Int ⊕ Unit, z0x K l K 0 = some r /\ ((r = .inr () /\ z6z l = 0) \/ r = .inl (z6z l)) := by
  refine z86 (fun k (s : Int) => z0x K l k s) (fun s => ∃ i : Nat, s = i /\ i <= l.length /\ z6z l = z6z (l.drop i)) (fun s => (l.length - s : Int).toNat) _ ?_ (0 : Int) (by omega) ⟨0, rfl, by omega, by simp⟩
  rintro k _ ⟨i, rfl, h0, h1⟩
  by_cases hi : i < l.length
  ·have hx : idx l (i : Int) = some l[i] := z53 (zAh hi)
   have hc := zfu (K := K) (s := l[i]) (hs _ (List.getElem_mem hi)) hK
   rw [zb8 hi] at h1
   by_cases c : ratE l[i] = 0
   ·right
    rw [if_neg (by simpa using c)] at h1
    refine ⟨(i : Int) + 1, ?_, by omega, i + 1, rfl, by omega, h1⟩
    rw [z0x, if_pos (decide_eq_true (by omega)), hx, z0e, hc, z0e, if_neg (by simpa using c), k64 (by omega) (by omega)]
   ·left
    rw [if_pos c] at h1
    refine ⟨.inl (ratE l[i]), ?_, .inr (by rw [h1])⟩
    rw [z0x, if_pos (decide_eq_true (by omega)), hx, z0e, hc, z0e, if_pos (by simpa using c)]
  ·left
   have : i = l.length := by omega
   subst this
   rw [List.drop_eq_nil_of_le (Nat.le_refl _)] at h1
   exact ⟨.inr (), by rw [z0x, if_neg (by simp)], .inl ⟨rfl, h1⟩⟩
 obtain ⟨r, h1, h2⟩ := key
 unfold z43
 rw [h1]
 rcases h2 with ⟨rfl, h2⟩ | rfl
 ·rw [zhn, tu0a, h2]
 ·rw [zhm, tu1a]
theorem zkc {l : List zAd} (hl : l.length <= 1048576) (hs : ∀ s ∈ l, s.size <= 1048576) (hK : 2000000000 < K) : z4w K l = some (z6z l) := by
 have key : ∃ r : Int ⊕ Unit, z16 K l K 0 = some r /\ ((r = .inr () /\ z6z l = 0) \/ r = .inl (z6z l)) := by
  refine z86 (fun k (s : Int) => z16 K l k s) (fun s => ∃ i : Nat, s = i /\ i <= l.length /\ z6z l = z6z (l.drop i)) (fun s => (l.length - s : Int).toNat) _ ?_ (0 : Int) (by omega) ⟨0, rfl, by omega, by simp⟩
  rintro k _ ⟨i, rfl, h0, h1⟩
  by_cases hi : i < l.length
  ·have hx : idx l (i : Int) = some l[i] := z53 (zAh hi)
   have hc := zka (K := K) (s := l[i]) (hs _ (List.getElem_mem hi)) hK
   rw [zb8 hi] at h1
   by_cases c : ratE l[i] = 0
   ·right
    rw [if_neg (by simpa using c)] at h1
    refine ⟨(i : Int) + 1, ?_, by omega, i + 1, rfl, by omega, h1⟩
    rw [z16, if_pos (decide_eq_true (by omega)), hx, z0e, hc, z0e, if_neg (by simpa using c), k64 (by omega) (by omega)]
   ·left
    rw [if_pos c] at h1
    refine ⟨.inl (ratE l[i]), ?_, .inr (by rw [h1])⟩
    rw [z16, if_pos (decide_eq_true (by omega)), hx, z0e, hc, z0e, if_pos (by simpa using c)]
  ·left
   have : i = l.length := by omega
   subst this
   rw [List.drop_eq_nil_of_le (Nat.le_refl _)] at h1
   exact ⟨.inr (), by rw [z16, if_neg (by simp)], .inl ⟨rfl, h1⟩⟩
 obtain ⟨r, h1, h2⟩ := key
 unfold z4w
 rw [h1]
 rcases h2 with ⟨rfl, h2⟩ | rfl
 ·rw [zhn, tu0a, h2]
 ·rw [zhm, tu1a]
theorem RTx.zero_iff {s : zAd} {x : Rat} (h : RTx s x) : s = ⟨#[48]⟩ ↔ x = 0 := by
 have hz : RTx ⟨#[48]⟩ 0 := zk9 z7q z64 z4p z5p rfl
 constructor
 ·rintro rfl; exact h.val hz
 ·rintro rfl; exact h.inj hz
end Go.Am.Tryz
/- Plain law: whole numbers and their texts. -/
namespace Go.Am.Tryz
open Go Go.Am Go.Proofs
variable {K : Nat}
theorem zqd : (1000000000 : Int) ^ 3 = 1000000000000000000000000000 := by decide
theorem kq1 {p V n m q r : Int} (h : V + p * m = n) (hm : r + 1000000000 * q = m) : V + p * r + p * 1000000000 * q = n := by subst hm; grind
theorem zm4 {n : Int} (h0 : 0 <= n) (h1 : n <= 9223372036854775808) (hK : 2000000000 < K) (h2 : n <= 9223372036854775807) : ∃ l, z42 K n = some l /\ NumN n l /\ l.length <= 3 := by
 have key : ∃ l, z2w K K [] n = some l /\ NumN n l /\ l.length <= 3 := by
  obtain ⟨f, hf⟩ : ∃ f : Nat, f = 4 := ⟨4, rfl⟩
  refine z86 (fun k (s : List Int × Int) => z2w K k s.1 s.2) (fun s => DigB 1000000000 s.1 /\ 0 <= s.2 /\ s.2 <= n /\ valB 1000000000 s.1 + 1000000000 ^ s.1.length * s.2 = n /\ (s.2 > 0 \/ CanB 1000000000 s.1) /\ s.1.length <= 3) (fun s => 4 - s.1.length) _ ?_ (([], n) : List Int × Int) (by simp; omega) ⟨.nil _, h0, Int.le_refl _, by simp [valB], .inr ⟨.nil _, by simp⟩, by simp⟩
  rintro k ⟨o, m⟩ ⟨a1, a2, a3, a4, a5, a6⟩
  dsimp only at a1 a2 a3 a4 a5 a6 ⊢
  by_cases hm : m > 0
  ·right
   have hv := z0s (B := 1000000000) (by omega) o a1
   have hlen : o.length <= 2 := by
    refine Nat.not_lt.1 fun hlt => ?_
    have g1 : (1000000000 : Int) ^ 3 <= 1000000000 ^ o.length := z6l (by omega) (by omega)
    have g2 := z2z (show (0:Int) <= 1000000000 ^ o.length from Int.le_of_lt (Int.pow_pos (by omega))) (show 1 <= m by omega)
    rw [zqd] at g1
    omega
   have hdm := Int.emod_add_mul_ediv m 1000000000
   refine ⟨(o ++ [m % 1000000000], m / 1000000000), ?_, by simp; omega, a1.snoc (by omega), by dsimp only; omega, by dsimp only; omega, ?_, ?_, by simp; omega⟩
   ·rw [z2w]
    simp (discharger := omega) only [runL]
   ·dsimp only
    rw [z6x, List.length_append, List.length_singleton, Int.pow_succ]
    exact kq1 a4 hdm
   ·dsimp only
    by_cases hq : m / 1000000000 > 0
    ·exact .inl hq
    ·refine .inr ⟨a1.snoc (by omega), ?_⟩
     rw [List.getLast?_append]
     simp; omega
  ·left
   have : m = 0 := by omega
   subst this
   rw [Int.mul_zero, Int.add_zero] at a4
   refine ⟨o, by rw [z2w]; simp (discharger := omega) only [runL], ⟨a5.resolve_left (by omega), a4⟩, a6⟩
 obtain ⟨l, l1, l2⟩ := key
 exact ⟨l, by unfold z42; rw [l1]; rfl, l2⟩
end Go.Am.Tryz
/- Plain law: comparisons of rational numbers. -/
namespace Go.Am.Tryz
open Go Go.Am Go.Proofs
variable {K : Nat}
def RTs (l : List zAd) (f : Nat -> Rat) : Prop := ∀ i (h : i < l.length), RTx l[i] (f i)
theorem zp7 {l : List zAd} (hs : ∀ s ∈ l, s.size <= 1048576) (h0 : z6z l = 0) : ∃ f, RTs l f /\ ∀ i, i < l.length -> Dl (f i) 2000 := by
 classical
 have hz := zb7 h0
 have hex : ∀ i (h : i < l.length), ∃ x, RTx l[i] x /\ Dl x 2000 := fun i h => zkb (hs _ (List.getElem_mem h)) (hz _ (List.getElem_mem h))
 refine ⟨fun i => if h : i < l.length then (hex i h).choose else 0, fun i h => ?_, fun i h => ?_⟩
 ·dsimp only; rw [dif_pos h]; exact (hex i h).choose_spec.1
 ·dsimp only; rw [dif_pos h]; exact (hex i h).choose_spec.2
end Go.Am.Tryz
/- Plain law: vectors and matrices of rational texts: their checks, their numbers, products and sums. -/
namespace Go.Am.Tryz
open Go Go.Am Go.Proofs
variable {K : Nat}
def resF {R : Type} : Option R -> R ⊕ Unit
 | some r => .inl r
 | none => .inr ()
theorem zc8 {α R : Type} {l : List α} {L : Nat -> Int -> Option (R ⊕ Unit)} (p : α -> Option R) (h0 : ∀ k, L (k + 1) (l.length : Int) = some (.inr ()))
  (h1 : ∀ k i (hi : i < l.length), L (k + 1) (i : Int) = match p l[i] with | some r => some (.inl r) | none => L k ((i + 1 : Nat) : Int)) (hK : l.length < K) :
  L K 0 = some (resF (l.findSome? p)) := by
 have key : ∀ n i k, i + n = l.length -> n < k -> L k (i : Int) = some (resF ((l.drop i).findSome? p)) := by
  intro n
  induction n with
  | zero =>
   intro i k hi hk
   obtain ⟨k, rfl⟩ : ∃ m, k = m + 1 := ⟨k - 1, by omega⟩
   obtain rfl : i = l.length := by omega
   rw [h0, List.drop_length]
   rfl
  | succ n ih =>
   intro i k hi hk
   obtain ⟨k, rfl⟩ : ∃ m, k = m + 1 := ⟨k - 1, by omega⟩
   rw [h1 k i (by omega), List.drop_eq_getElem_cons (by omega), List.findSome?_cons]
   cases hp : p l[i] with
   | some r => rfl
   | none => exact ih (i + 1) k (by omega) (by omega)
 have := key l.length 0 K (by omega) hK
 simpa using this
def Fam {α : Type} (P : Nat -> α -> Prop) (n : Nat) (l : List α) : Prop := l.length = n /\ ∀ j (h : j < l.length), P j l[j]
theorem Fam.nil {α : Type} {P : Nat -> α -> Prop} : Fam P 0 [] := ⟨rfl, fun j h => by simp at h⟩
theorem Fam.snoc {α : Type} {P : Nat -> α -> Prop} {n : Nat} {l : List α} {y : α} (h : Fam P n l) (hy : P n y) : Fam P (n + 1) (l ++ [y]) := by
 refine ⟨by simp [h.1], fun j hj => ?_⟩
 by_cases c : j < l.length
 ·rw [List.getElem_append_left c]; exact h.2 j c
 ·have : j = l.length := by simp at hj; omega
  subst this
  rw [List.getElem_append_right (by omega)]
  simp only [Nat.sub_self, List.getElem_cons_zero]
  rw [h.1]; exact hy
theorem Fam.idx {α : Type} {P : Nat -> α -> Prop} {n j : Nat} {l : List α} (h : Fam P n l) (hj : j < n) : ∃ y, idx l (j : Int) = some y /\ P j y := by
 have hl : j < l.length := by rw [h.1]; exact hj
 exact ⟨l[j], z53 (zAh hl), h.2 j hl⟩
theorem Fam.mono {α : Type} {P Q : Nat -> α -> Prop} {n : Nat} {l : List α} (h : Fam P n l) (hPQ : ∀ j y, j < n -> P j y -> Q j y) : Fam Q n l :=
 ⟨h.1, fun j hj => hPQ j _ (by rw [<- h.1]; exact hj) (h.2 j hj)⟩
theorem Fam.uniq {α : Type} {P : Nat -> α -> Prop} {n : Nat} {l m : List α} (hu : ∀ j x y, P j x -> P j y -> x = y) (h : Fam P n l) (k : Fam P n m) : l = m :=
 List.ext_getElem (by rw [h.1, k.1]) fun j h1 h2 => hu j _ _ (h.2 j h1) (k.2 j h2)
theorem zf9 {β R : Type} (n : Nat) (L : Nat -> List β -> Int -> Option R) (P : Nat -> β -> Prop) (Q : R -> Prop) (hn : n < K)
  (hend : ∀ k acc, Fam P n acc -> ∃ r, L (k + 1) acc (n : Int) = some r /\ Q r)
  (hstep : ∀ k i acc, i < n -> Fam P i acc -> (∃ r, L (k + 1) acc (i : Int) = some r /\ Q r) \/ ∃ y, P i y /\ L (k + 1) acc (i : Int) = L k (acc ++ [y]) ((i + 1 : Nat) : Int)) :
  ∃ r, L K [] 0 = some r /\ Q r := by
 have key : ∀ m i k acc, i + m = n -> m < k -> Fam P i acc -> ∃ r, L k acc (i : Int) = some r /\ Q r := by
  intro m
  induction m with
  | zero =>
   intro i k acc hi hk ha
   obtain ⟨k, rfl⟩ : ∃ m, k = m + 1 := ⟨k - 1, by omega⟩
   obtain rfl : i = n := by omega
   exact hend k acc ha
  | succ m ih =>
   intro i k acc hi hk ha
   obtain ⟨k, rfl⟩ : ∃ m, k = m + 1 := ⟨k - 1, by omega⟩
   rcases hstep k i acc (by omega) ha with h | ⟨y, hy, h⟩
   ·exact h
   ·rw [h]; exact ih (i + 1) k _ (by omega) (by omega) (ha.snoc hy)
 exact key n 0 K [] (by omega) hn .nil
theorem k1 {i : Nat} (h : i <= 1048576) : z03 .i64 ((i : Int) + 1) = ((i + 1 : Nat) : Int) := by rw [k64 (by omega) (by omega)]; omega
theorem lt_d {i n : Nat} (h : i < n) : decide ((i : Int) < (n : Int)) = true := decide_eq_true (by omega)
noncomputable def vecE (l : List zAd) : Int := if l.length > 40 then 2 else z6z l
theorem zkd {n : Nat} {α : Type} (a b : α) : (if decide ((n : Int) > 40) = true then a else b) = if n > 40 then a else b := by
 by_cases h : n > 40
 ·rw [if_pos h, if_pos (decide_eq_true (by omega))]
 ·rw [if_neg h, if_neg (by simp; omega)]
theorem zfw {l : List zAd} (hl : l.length <= 1048576) (hs : ∀ s ∈ l, s.size <= 1048576) (hK : 2000000000 < K) : z2u K l = some (vecE l) := by
 unfold z2u vecE
 rw [zkd, zfv hl hs hK, z0e]
 split <;> rfl
theorem zke {l : List zAd} (hl : l.length <= 1048576) (hs : ∀ s ∈ l, s.size <= 1048576) (hK : 2000000000 < K) : z5k K l = some (vecE l) := by
 unfold z5k vecE
 rw [zkd, zkc hl hs hK, z0e]
 split <;> rfl
theorem zfa {l : List zAd} (h : vecE l = 0) : l.length <= 40 /\ z6z l = 0 := by
 unfold vecE at h
 split at h
 ·cases h
 ·exact ⟨by omega, h⟩
noncomputable def rowE (w : Nat) (row : List zAd) : Option Int := if row.length ≠ w then some 3 else if vecE row ≠ 0 then some (vecE row) else none
noncomputable def matE (m : List (List zAd)) : Int := if m.length > 40 then 2 else (m.findSome? (rowE (m.getD 0 []).length)).getD 0
def MOk (m : List (List zAd)) : Prop := m.length <= 1048576 /\ ∀ row ∈ m, row.length <= 1048576 /\ ∀ s ∈ row, s.size <= 1048576
theorem idx0 {m : List (List zAd)} (h : 0 < m.length) : idx m 0 = some (m.getD 0 []) := by
 have : idx m ((0 : Nat) : Int) = some m[0] := z53 (zAh h)
 rw [zAb, zAh h]
 exact this
theorem ne_len {a b : Nat} : (((a : Int) != (b : Int)) = true) ↔ a ≠ b := by rw [bne_iff_ne]; omega
theorem ze4 {m : List (List zAd)} (hm : MOk m) (hK : 2000000000 < K) : z44 K m = some (matE m) := by
 obtain ⟨hl, hr⟩ := hm
 unfold z44 matE
 rw [zkd]
 by_cases h : m.length > 40
 ·rw [if_pos h, if_pos h]
 ·rw [if_neg h, if_neg h]
  rw [zc8 (K := K) (l := m) (L := z1k K m) (rowE (m.getD 0 []).length) (fun k => by rw [z1k, if_neg (by simp)]) (fun k i hi => ?_) (by omega)]
  ·cases List.findSome? (rowE (m.getD 0 []).length) m <;> rfl
  ·have hx : idx m (i : Int) = some m[i] := z53 (zAh hi)
   obtain ⟨r1, r2⟩ := hr m[i] (List.getElem_mem hi)
   rw [z1k, if_pos (lt_d hi), hx, z0e, idx0 (by omega), z0e, zfw r1 r2 hK, z0e, k1 (by omega)]
   unfold rowE
   by_cases c : m[i].length ≠ (m.getD 0 []).length
   ·rw [if_pos (ne_len.2 c), if_pos c]
   ·rw [if_neg (fun e => c (ne_len.1 e)), if_neg c]
    by_cases d : vecE m[i] ≠ 0
    ·rw [if_pos (by simpa using d), if_pos d]
    ·rw [if_neg (by simpa using d), if_neg d]
theorem zc9 {m : List (List zAd)} (hm : MOk m) (hK : 2000000000 < K) : z3g K m = some (matE m) := by
 obtain ⟨hl, hr⟩ := hm
 unfold z3g matE
 rw [zkd]
 by_cases h : m.length > 40
 ·rw [if_pos h, if_pos h]
 ·rw [if_neg h, if_neg h]
  rw [zc8 (K := K) (l := m) (L := z1d K m) (rowE (m.getD 0 []).length) (fun k => by rw [z1d, if_neg (by simp)]) (fun k i hi => ?_) (by omega)]
  ·cases List.findSome? (rowE (m.getD 0 []).length) m <;> rfl
  ·have hx : idx m (i : Int) = some m[i] := z53 (zAh hi)
   obtain ⟨r1, r2⟩ := hr m[i] (List.getElem_mem hi)
   rw [z1d, if_pos (lt_d hi), hx, z0e, idx0 (by omega), z0e]
   simp only [z0e, zke r1 r2 hK, k1 (show i <= 1048576 by omega)]
   unfold rowE
   by_cases c : m[i].length ≠ (m.getD 0 []).length
   ·rw [if_pos (ne_len.2 c), if_pos c]
   ·rw [if_neg (fun e => c (ne_len.1 e)), if_neg c]
    by_cases d : vecE m[i] ≠ 0
    ·rw [if_pos (by simpa using d), if_pos d]
    ·rw [if_neg (by simpa using d), if_neg d]
def zmn (n : Int) (m : List (List (List zAd))) : Bool := m.any fun x => decide ((x.length : Int) > n) || x.any fun v => decide ((v.length : Int) > n) || v.any fun r => decide ((r.size : Int) > 12)
theorem zih {α : Type} (l : List α) (p : α -> Bool) : l.any p = (l.findSome? fun x => if p x then some () else none).isSome := by
 induction l with
 | nil => rfl
 | cons x l ih =>
  rw [List.any_cons, List.findSome?_cons, ih]
  cases h : p x <;> simp
theorem ze6 {l : List zAd} {F : zAd -> Option Bool} {p : zAd -> Bool} (hl : l.length <= 1048576) (hK : 2000000000 < K) (hp : ∀ x ∈ l, F x = some (p x)) : z0g K l F = some (l.any p) := by
 have key : ∃ r : Int ⊕ Unit, z08 K l F K 0 = some r /\ ((r = .inr () /\ l.any p = false) \/ ∃ i : Int, 0 <= i /\ r = .inl i /\ l.any p = true) := by
  refine z86 (fun k (s : Int) => z08 K l F k s) (fun s => ∃ i : Nat, s = i /\ i <= l.length /\ (l.take i).any p = false) (fun s => (l.length - s : Int).toNat) _ ?_ (0 : Int) (by omega) ⟨0, rfl, by omega, by simp⟩
  rintro k _ ⟨i, rfl, h0, h1⟩
  by_cases hi : i < l.length
  ·have hx : idx l (i : Int) = some l[i] := z53 (zAh hi)
   have hpi := hp l[i] (List.getElem_mem hi)
   have hsn : l.take (i + 1) = l.take i ++ [l[i]] := by rw [List.take_add_one, zAh hi]; rfl
   cases hc : p l[i] with
   | true =>
    left
    refine ⟨.inl i, ?_, .inr ⟨i, by omega, rfl, List.any_eq_true.2 ⟨l[i], List.getElem_mem hi, hc⟩⟩⟩
    rw [z08, if_pos (decide_eq_true (by omega)), hx, z0e, hpi, z0e, hc, if_pos rfl]
   | false =>
    right
    refine ⟨(i : Int) + 1, ?_, by omega, i + 1, rfl, by omega, by rw [hsn, List.any_append, h1]; simp [hc]⟩
    rw [z08, if_pos (decide_eq_true (by omega)), hx, z0e, hpi, z0e, hc, if_neg (by simp), k64 (by omega) (by omega)]
  ·left
   have : i = l.length := by omega
   subst this
   rw [List.take_of_length_le (Nat.le_refl _)] at h1
   refine ⟨.inr (), ?_, .inl ⟨rfl, h1⟩⟩
   rw [z08, if_neg (by simp)]
 obtain ⟨r, h1, h2⟩ := key
 unfold z0g z0l
 rw [h1]
 rcases h2 with ⟨rfl, h3⟩ | ⟨i, h4, rfl, h3⟩
 ·rw [h3]; rfl
 ·rw [h3, zhm, tu1a, z0e, decide_eq_true (by omega)]
theorem zny {n : Int} {m : List (List (List zAd))} (hm : m.length <= 1048576) (hr : ∀ x ∈ m, MOk x) (hK : 2000000000 < K) : z6k K n m = some (zmn n m) := by
 have hv : ∀ x ∈ m, z2k K n x K 0 = some (resF (x.findSome? (fun v => if (decide ((v.length : Int) > n) || v.any fun r => decide ((r.size : Int) > 12)) then some true else none))) := fun x hx => by
  obtain ⟨x1, x2⟩ := hr x hx
  refine zc8 (K := K) (l := x) (L := z2k K n x) (fun v => if (decide ((v.length : Int) > n) || v.any fun r => decide ((r.size : Int) > 12)) then some true else none) (fun k => by rw [z2k, if_neg (by simp)]) (fun k i hi => ?_) (by omega)
  have hxi : idx x (i : Int) = some x[i] := z53 (zAh hi)
  obtain ⟨r1, r2⟩ := x2 x[i] (List.getElem_mem hi)
  rw [z2k, if_pos (lt_d hi), hxi, z0e, k1 (by omega), ze6 (F := fun x => z5l K x) (p := fun r => decide ((r.size : Int) > 12)) r1 hK (fun r _ => rfl), z0e]
  cases c1 : decide ((x[i].length : Int) > n) <;> cases c2 : x[i].any (fun r => decide ((r.size : Int) > 12)) <;> simp [tu1a]
 unfold z6k zmn
 rw [zih]
 rw [zc8 (K := K) (l := m) (L := z36 K n m) (fun x => if (decide ((x.length : Int) > n) || x.any fun v => decide ((v.length : Int) > n) || v.any fun r => decide ((r.size : Int) > 12)) then some true else none) (fun k => by rw [z36, if_neg (by simp)]) (fun k i hi => ?_) (by omega)]
 ·have : ∀ l : List (List (List zAd)), ∀ q : List (List zAd) -> Bool, zbs (some (resF (l.findSome? (fun x => if q x then some true else none)))) (tu1 fun a => some a) (tu0 (some false)) = some (l.findSome? fun x => if q x then some () else none).isSome := by
   intro l q
   induction l with
   | nil => rfl
   | cons x l ih =>
    rw [List.findSome?_cons, List.findSome?_cons]
    cases h : q x
    ·simpa [h] using ih
    ·rfl
  exact this m _
 ·have hx : idx m (i : Int) = some m[i] := z53 (zAh hi)
  rw [z36, if_pos (lt_d hi), hx, z0e, k1 (by omega), hv m[i] (List.getElem_mem hi)]
  cases c1 : decide ((m[i].length : Int) > n)
  ·rw [if_neg (by simp)]
   rw [zih m[i]]
   generalize hq : (fun v : List zAd => (decide ((v.length : Int) > n) || v.any fun r => decide ((r.size : Int) > 12))) = q
   have : ∀ l : List (List zAd), (l.findSome? (fun v => if q v then some true else none)) = ((l.findSome? fun v => if q v then some () else none).map fun _ => true) := by
    intro l
    induction l with
    | nil => rfl
    | cons x l ih =>
     rw [List.findSome?_cons, List.findSome?_cons, ih]
     cases q x <;> rfl
   subst hq
   rw [this]
   cases List.findSome? _ m[i] <;> rfl
  ·rw [if_pos rfl]; rfl
end Go.Am.Tryz
/- The closed matrix fact holds. -/
namespace Go.Am.Tryz
open Go Go.Am Go.Proofs
theorem zca : z61 2000000001 = some true := by kernel_rfl
end Go.Am.Tryz
/- Plain law: rows and scalar products; MatrixDots answers true. -/
namespace Go.Am.Tryz
open Go Go.Am Go.Proofs
variable {K : Nat}
abbrev FT (f : Nat -> Rat) (n : Nat) (l : List zAd) : Prop := Fam (fun j s => RTx s (f j)) n l
abbrev FQ (f : Nat -> Rat) (n : Nat) (l : List Q) : Prop := Fam (fun j q => QV q (f j)) n l
theorem FT.uniq {f : Nat -> Rat} {n : Nat} {l m : List zAd} (h : FT f n l) (k : FT f n m) : l = m := Fam.uniq (fun _ _ _ h1 h2 => h1.inj h2) h k
theorem zp8 {f : Nat -> Rat} {n : Nat} {l : List zAd} (h : FT f n l) (hs : ∀ s ∈ l, s.size <= 1048576) (hn : n <= 1048576) (hK : 2000000000 < K) : ∃ q, z5h K l = some q /\ FQ f n q := by
 have hl := h.1
 obtain ⟨q, q1, q2⟩ := zf9 (K := K) n (z2a K l) (fun j q => QV q (f j)) (fun q => FQ f n q) (by omega)
  (fun k acc ha => ⟨acc, by rw [z2a, hl, if_neg (by simp)], ha⟩)
  (fun k i acc hi ha => by
   right
   have hx : idx l (i : Int) = some l[i] := z53 (zAh (by omega))
   obtain ⟨q, q1, q2⟩ := zp6 (K := K) (h.2 i (by omega)) (hs _ (List.getElem_mem (by omega))) hK
   have hal := ha.1
   exact ⟨q, q2, by rw [z2a, hl, if_pos (lt_d hi), hx, z0e, q1, z0e, if_pos (by simp; omega), k1 (by omega)]⟩)
 exact ⟨q, by unfold z5h; rw [q1]; rfl, q2⟩
theorem zp9 {l : List zAd} (hs : ∀ s ∈ l, s.size <= 1048576) (h : vecE l = 0) : ∃ f, FT f l.length l /\ l.length <= 40 /\ ∀ i, i < l.length -> Dl (f i) 2000 := by
 obtain ⟨h1, h2⟩ := zfa h
 obtain ⟨f, f1, f2⟩ := zp7 hs h2
 exact ⟨f, ⟨rfl, f1⟩, h1, f2⟩
theorem zm5 {f : Nat -> Rat} {n : Nat} {l : List zAd} (h : FT f n l) (hs : ∀ s ∈ l, s.size <= 12) : ∀ j, j < n -> Dl (f j) 13 := fun j hj => by
 have hl := h.1
 exact (h.2 j (by omega)).dl (hs _ (List.getElem_mem (by omega)))
theorem zii {n : Int} {m : List (List (List zAd))} (h : zmn n m = false) : ∀ x ∈ m, (x.length : Int) <= n /\ ∀ v ∈ x, (v.length : Int) <= n /\ ∀ r ∈ v, r.size <= 12 := by
 intro x hx
 unfold zmn at h
 rw [List.any_eq_false] at h
 have h1 := h x hx
 simp only [Bool.not_eq_true, Bool.or_eq_false_iff, decide_eq_false_iff_not, List.any_eq_false, decide_eq_true_eq] at h1
 refine ⟨by omega, fun v hv => ?_⟩
 have h2 := h1.2 v hv
 exact ⟨by omega, fun r hr => by have := h2.2 r hr; omega⟩
end Go.Am.Tryz
/- Plain law: matrices of numbers: rows, columns, products. -/
namespace Go.Am.Tryz
open Go Go.Am Go.Proofs
variable {K : Nat}
abbrev MT (f : Nat -> Nat -> Rat) (h w : Nat) (m : List (List zAd)) : Prop := Fam (fun i row => FT (f i) w row) h m
abbrev MQ (f : Nat -> Nat -> Rat) (h w : Nat) (m : List (List Q)) : Prop := Fam (fun i row => FQ (f i) w row) h m
theorem MT.uniq {f : Nat -> Nat -> Rat} {h w : Nat} {l m : List (List zAd)} (a : MT f h w l) (b : MT f h w m) : l = m := Fam.uniq (fun _ _ _ h1 h2 => h1.uniq h2) a b
def wid (m : List (List zAd)) : Nat := (m.getD 0 []).length
theorem zkf {m : List (List zAd)} (h : matE m = 0) : m.length <= 40 /\ ∀ row ∈ m, row.length = wid m /\ vecE row = 0 := by
 unfold matE at h
 split at h
 ·cases h
 ·refine ⟨by omega, ?_⟩
  have hn : m.findSome? (rowE (m.getD 0 []).length) = none := by
   cases hf : m.findSome? (rowE (m.getD 0 []).length) with
   | none => rfl
   | some r =>
    rw [hf] at h
    obtain ⟨row, _, hr⟩ := List.exists_of_findSome?_eq_some hf
    unfold rowE at hr
    split at hr
    ·cases hr; cases h
    ·split at hr
     ·cases hr; exact absurd h (by assumption)
     ·cases hr
  intro row hrow
  have := List.findSome?_eq_none_iff.1 hn row hrow
  unfold rowE at this
  split at this
  ·cases this
  ·split at this
   ·cases this
   ·exact ⟨by unfold wid; omega, by omega⟩
theorem zpa {m : List (List zAd)} (hm : MOk m) (h : matE m = 0) : ∃ f, MT f m.length (wid m) m /\ m.length <= 40 /\ wid m <= 40 /\ ∀ i j, i < m.length -> j < wid m -> Dl (f i j) 2000 := by
 classical
 obtain ⟨h1, h2⟩ := zkf h
 have hex : ∀ i (hi : i < m.length), ∃ f, FT f (wid m) m[i] /\ ∀ j, j < wid m -> Dl (f j) 2000 := fun i hi => by
  obtain ⟨r1, r2⟩ := h2 m[i] (List.getElem_mem hi)
  obtain ⟨f, f1, f2, f3⟩ := zp9 (hm.2 m[i] (List.getElem_mem hi)).2 r2
  rw [r1] at f1 f3
  exact ⟨f, f1, f3⟩
 have hw : wid m <= 40 := by
  by_cases hl : 0 < m.length
  ·obtain ⟨r1, r2⟩ := h2 m[0] (List.getElem_mem hl)
   have := (zfa r2).1
   omega
  ·have : m = [] := List.length_eq_zero_iff.1 (by omega)
   subst this
   show 0 <= 40
   omega
 refine ⟨fun i => if hi : i < m.length then (hex i hi).choose else fun _ => 0, ⟨rfl, fun i hi => ?_⟩, h1, hw, fun i j hi hj => ?_⟩
 ·dsimp only; rw [dif_pos hi]; exact (hex i hi).choose_spec.1
 ·dsimp only; rw [dif_pos hi]; exact (hex i hi).choose_spec.2 j hj
theorem zfb {m : List (List zAd)} : z8q K m = some ((wid m : Nat) : Int) := by
 unfold z8q wid
 by_cases h : 0 < m.length
 ·rw [if_pos (decide_eq_true (by omega)), idx0 h, z0e]
 ·have : m = [] := List.length_eq_zero_iff.1 (by omega)
  subst this
  rfl
theorem zij {m : List (List zAd)} : z45 K m = some ((wid m : Nat) : Int) := by
 unfold z45 wid
 by_cases h : 0 < m.length
 ·rw [if_neg (by rw [beq_iff_eq]; omega), idx0 h, z0e]
 ·have : m = [] := List.length_eq_zero_iff.1 (by omega)
  subst this
  rfl
theorem zqe {f : Nat -> Nat -> Rat} {h w : Nat} {m : List (List zAd)} (hm : MT f h w m) (hs : MOk m) (hw : w <= 1048576) (hK : 2000000000 < K) : ∃ q, z69 K m = some q /\ MQ f h w q := by
 have hl := hm.1
 obtain ⟨s1, s2⟩ := hs
 obtain ⟨q, q1, q2⟩ := zf9 (K := K) h (z2o K m) (fun i row => FQ (f i) w row) (fun q => MQ f h w q) (by omega)
  (fun k acc ha => ⟨acc, by rw [z2o, hl, if_neg (by simp)], ha⟩)
  (fun k i acc hi ha => by
   right
   have hx : idx m (i : Int) = some m[i] := z53 (zAh (by omega))
   obtain ⟨q, q1, q2⟩ := zp8 (K := K) (hm.2 i (by omega)) (s2 _ (List.getElem_mem (by omega))).2 hw hK
   have hal := ha.1
   exact ⟨q, q2, by rw [z2o, hl, if_pos (lt_d hi), hx, z0e, q1, z0e, if_pos (by simp; omega), k1 (by omega)]⟩)
 exact ⟨q, by unfold z69; rw [q1]; rfl, q2⟩
end Go.Am.Tryz
/- Plain: few equations have small integer solutions (boxes and pigeons). -/
namespace Go.Am
open Go
theorem zkg : ∀ (n m : Nat) (f : Nat -> Nat), n < m -> (∀ i, i < m -> f i < n) -> ∃ i j, i < j /\ j < m /\ f i = f j
 | 0, m, f, h, hf => absurd (hf 0 h) (Nat.not_lt_zero _)
 | n + 1, m, f, h, hf => by
  classical
  refine Classical.byContradiction fun hno => ?_
  have hinj : ∀ i j, i < j -> j < m -> f i ≠ f j := fun i j hi hj e => hno ⟨i, j, hi, hj, e⟩
  by_cases hx : ∃ t, t < m /\ f t = n
  ·obtain ⟨t, ht, hft⟩ := hx
   obtain ⟨i, j, hij, hj, he⟩ := zkg n (m - 1) (fun i => f (if i < t then i else i + 1)) (by omega) (fun i hi => by
    have h1 := hf (if i < t then i else i + 1) (by split <;> omega)
    have h2 : f (if i < t then i else i + 1) ≠ n := by
     intro e
     rw [<- hft] at e
     by_cases c : i < t
     ·rw [if_pos c] at e; exact hinj i t c ht e
     ·rw [if_neg c] at e; exact hinj t (i + 1) (by omega) (by omega) e.symm
    omega)
   refine hinj _ _ ?_ ?_ he
   ·split <;> split <;> omega
   ·split <;> omega
  ·obtain ⟨i, j, hij, hj, he⟩ := zkg n m f (by omega) (fun i hi => by
    have h1 := hf i hi
    have h2 : f i ≠ n := fun e => hx ⟨i, hi, e⟩
    omega)
   exact hinj i j hij hj he
def enc (W : Nat) (v : Nat -> Nat) : Nat -> Nat
 | 0 => 0
 | n + 1 => enc W v n + v n * W ^ n
theorem zkh {W : Nat} {v : Nat -> Nat} : ∀ {n : Nat}, (∀ i, i < n -> v i < W) -> enc W v n < W ^ n
 | 0, _ => by simp [enc]
 | n + 1, h => by
  have h1 := zkh (n := n) fun i hi => h i (by omega)
  have h2 := h n (by omega)
  have h3 : (v n + 1) * W ^ n <= W * W ^ n := Nat.mul_le_mul_right _ h2
  rw [Nat.add_mul, Nat.one_mul] at h3
  rw [enc, Nat.pow_succ, Nat.mul_comm (W ^ n) W]
  omega
theorem zl3 {W : Nat} {v u : Nat -> Nat} : ∀ {n : Nat}, (∀ i, i < n -> v i < W) -> (∀ i, i < n -> u i < W) -> enc W v n = enc W u n -> ∀ i, i < n -> v i = u i
 | 0, _, _, _, i, hi => by omega
 | n + 1, hv, hu, he, i, hi => by
  have h1 := zkh (n := n) fun i hi => hv i (by omega)
  have h2 := zkh (n := n) fun i hi => hu i (by omega)
  have hP : 0 < W ^ n := by omega
  rw [enc, enc] at he
  have e1 : v n = u n := by
   have := congrArg (· / W ^ n) he
   simp only [Nat.add_mul_div_right _ _ hP, Nat.div_eq_of_lt h1, Nat.div_eq_of_lt h2] at this
   omega
  rw [e1] at he
  have e2 : enc W v n = enc W u n := by omega
  by_cases hin : i = n
  ·rw [hin]; exact e1
  ·exact zl3 (fun i hi => hv i (by omega)) (fun i hi => hu i (by omega)) e2 i (by omega)
theorem zfc {W : Nat} {v u : Nat -> Nat} : ∀ {n : Nat}, (∀ i, i < n -> v i = u i) -> enc W v n = enc W u n
 | 0, _ => rfl
 | n + 1, h => by rw [enc, enc, zfc (fun i hi => h i (by omega)), h n (by omega)]
def dg (b idx l : Nat) : Nat := idx / b ^ l % b
theorem zm6 (b idx : Nat) : ∀ n, enc b (dg b idx) n = idx % b ^ n
 | 0 => by rw [enc, Nat.pow_zero, Nat.mod_one]
 | n + 1 => by rw [enc, zm6 b idx n, Nat.pow_succ, Nat.mod_mul, dg, Nat.mul_comm (idx / b ^ n % b)]
def si (f : Nat -> Int) : Nat -> Int
 | 0 => 0
 | n + 1 => si f n + f n
theorem zpp {f : Nat -> Int} {M : Int} : ∀ {n : Nat}, (∀ i, i < n -> 0 <= f i /\ f i <= M) -> 0 <= si f n /\ si f n <= n * M
 | 0, _ => by simp [si]
 | n + 1, h => by
  obtain ⟨h1, h2⟩ := zpp (n := n) fun i hi => h i (by omega)
  obtain ⟨h3, h4⟩ := h n (by omega)
  rw [si]
  have : ((n + 1 : Nat) : Int) * M = n * M + M := by
   rw [show ((n + 1 : Nat) : Int) = (n : Int) + 1 by omega, Int.add_mul, Int.one_mul]
  rw [this]
  omega
theorem znz (f g : Nat -> Int) : ∀ n, si f n - si g n = si (fun i => f i - g i) n
 | 0 => by simp [si]
 | n + 1 => by rw [si, si, si, <- znz f g n]; omega
theorem zik {f g : Nat -> Int} : ∀ {n : Nat}, (∀ i, i < n -> f i = g i) -> si f n = si g n
 | 0, _ => rfl
 | n + 1, h => by rw [si, si, zik (fun i hi => h i (by omega)), h n (by omega)]
theorem zm7 {f : Nat -> Int} {M : Nat} : ∀ {n : Nat}, (∀ i, i < n -> (f i).natAbs <= M) -> (si f n).natAbs <= n * M
 | 0, _ => by simp [si]
 | n + 1, h => by
  have h1 := zm7 (n := n) fun i hi => h i (by omega)
  have h3 := h n (by omega)
  rw [si, Nat.add_mul, Nat.one_mul]
  omega
def ngt (a : Int) : Int := if a < 0 then -a else 0
theorem zo0 {a y : Int} {B Y : Nat} (ha : a.natAbs <= B) (h0 : 0 <= y) (hy : y <= Y) : 0 <= a * y + ngt a * Y /\ a * y + ngt a * Y <= ((B * Y : Nat) : Int) := by
 unfold ngt
 rw [Int.natCast_mul]
 by_cases c : a < 0
 ·rw [if_pos c]
  have e : a * y + -a * (Y : Int) = (-a) * ((Y : Int) - y) := by rw [Int.mul_sub, Int.neg_mul, Int.neg_mul]; omega
  rw [e]
  refine ⟨Int.mul_nonneg (by omega) (by omega), Int.le_trans (Int.mul_le_mul_of_nonneg_right (show -a <= (B : Int) by omega) (by omega)) (Int.mul_le_mul_of_nonneg_left (by omega) (by omega))⟩
 ·rw [if_neg c, Int.zero_mul, Int.add_zero]
  exact ⟨Int.mul_nonneg (by omega) h0, Int.le_trans (Int.mul_le_mul_of_nonneg_right (show a <= (B : Int) by omega) h0) (Int.mul_le_mul_of_nonneg_left hy (by omega))⟩
theorem zpb {r B : Nat} (hB : 1 <= B) {a : Nat -> Nat -> Int} (ha : ∀ i l, i < r -> l < r + 1 -> (a i l).natAbs <= B) :
  ∃ z : Nat -> Int, (∃ l, l < r + 1 /\ z l ≠ 0) /\ (∀ l, (z l).natAbs <= ((r + 1) * B) ^ r) /\ ∀ i, i < r -> si (fun l => a i l * z l) (r + 1) = 0 := by
 generalize hC : (r + 1) * B = C
 generalize hY : C ^ r = Y
 have hC1 : 1 <= C := by rw [<- hC]; exact Nat.mul_pos (by omega) hB
 have hY1 : 1 <= Y := by rw [<- hY]; exact Nat.pow_pos hC1
 have dgle : ∀ idx l, dg (Y + 1) idx l <= Y := fun idx l => by have := Nat.mod_lt (idx / (Y + 1) ^ l) (show 0 < Y + 1 by omega); unfold dg; omega
 let u : Nat -> Nat -> Int := fun idx i => si (fun l => a i l * (dg (Y + 1) idx l : Int) + ngt (a i l) * Y) (r + 1)
 have ub : ∀ idx i, i < r -> 0 <= u idx i /\ u idx i <= ((C * Y : Nat) : Int) := fun idx i hi => by
  have h := zpp (f := fun l => a i l * (dg (Y + 1) idx l : Int) + ngt (a i l) * Y) (M := ((B * Y : Nat) : Int)) (n := r + 1) fun l hl => zo0 (ha i l hi hl) (by omega) (by have := dgle idx l; omega)
  refine ⟨h.1, Int.le_trans h.2 (Int.le_of_eq ?_)⟩
  rw [<- hC, <- Int.natCast_mul, Nat.mul_assoc]
 have hlt : (C * Y + 1) ^ r < (Y + 1) ^ (r + 1) := by
  have h1 : C * Y + 1 <= C * (Y + 1) := by rw [Nat.mul_add, Nat.mul_one]; omega
  have h2 : (C * Y + 1) ^ r <= (C * (Y + 1)) ^ r := Nat.pow_le_pow_left h1 r
  rw [Nat.mul_pow, hY] at h2
  have h3 : 0 < (Y + 1) ^ r := Nat.pow_pos (by omega)
  rw [Nat.pow_succ, Nat.mul_add, Nat.mul_one, Nat.mul_comm ((Y + 1) ^ r) Y]
  omega
 obtain ⟨i1, i2, h12, h2m, he⟩ := zkg ((C * Y + 1) ^ r) ((Y + 1) ^ (r + 1)) (fun idx => enc (C * Y + 1) (fun i => (u idx i).toNat) r) hlt (fun idx _ => zkh fun i hi => by
  have := ub idx i hi; omega)
 have hu := zl3 (fun i hi => by have := ub i1 i hi; omega) (fun i hi => by have := ub i2 i hi; omega) he
 refine ⟨fun l => (dg (Y + 1) i1 l : Int) - (dg (Y + 1) i2 l : Int), ?_, fun l => ?_, fun i hi => ?_⟩
 ·refine Classical.byContradiction fun hno => ?_
  have hall : ∀ l, l < r + 1 -> dg (Y + 1) i1 l = dg (Y + 1) i2 l := fun l hl => Classical.byContradiction fun hne => hno ⟨l, hl, fun h0 => hne (by have h1 : (dg (Y + 1) i1 l : Int) - (dg (Y + 1) i2 l : Int) = 0 := h0; omega)⟩
  have e := zfc (W := Y + 1) hall
  rw [zm6, zm6, Nat.mod_eq_of_lt (by omega), Nat.mod_eq_of_lt h2m] at e
  omega
 ·have := dgle i1 l; have := dgle i2 l
  show ((dg (Y + 1) i1 l : Int) - (dg (Y + 1) i2 l : Int)).natAbs <= Y
  omega
 ·have e1 : u i1 i = u i2 i := by
   have h := hu i hi
   have := ub i1 i hi; have := ub i2 i hi
   omega
  have e2 := znz (fun l => a i l * (dg (Y + 1) i1 l : Int) + ngt (a i l) * Y) (fun l => a i l * (dg (Y + 1) i2 l : Int) + ngt (a i l) * Y) (r + 1)
  have e3 : si (fun l => a i l * (dg (Y + 1) i1 l : Int) + ngt (a i l) * Y) (r + 1) - si (fun l => a i l * (dg (Y + 1) i2 l : Int) + ngt (a i l) * Y) (r + 1) = 0 := by
   show u i1 i - u i2 i = 0
   omega
  rw [e3] at e2
  rw [e2]
  exact zik fun l hl => by rw [Int.mul_sub]; omega
end Go.Am
/- Plain: eliminations of rows: what they keep, and how large their numbers are. -/
namespace Go.Am
open Go
theorem zfd {x : Rat} (h : x ≠ 0) : x / x = 1 := by rw [Rat.div_def, Rat.mul_inv_cancel x h]
theorem z57 (x : Rat) : 0 / x = 0 := by rw [Rat.div_def, Rat.zero_mul]
def sr (f : Nat -> Rat) : Nat -> Rat
 | 0 => 0
 | n + 1 => sr f n + f n
theorem z3o {f g : Nat -> Rat} : ∀ {n : Nat}, (∀ i, i < n -> f i = g i) -> sr f n = sr g n
 | 0, _ => rfl
 | n + 1, h => by rw [sr, sr, z3o (fun i hi => h i (by omega)), h n (by omega)]
theorem z7j {f : Nat -> Rat} : ∀ {n : Nat}, (∀ i, i < n -> f i = 0) -> sr f n = 0
 | 0, _ => rfl
 | n + 1, h => by rw [sr, z7j (fun i hi => h i (by omega)), h n (by omega)]; grind
theorem z7k (f g : Nat -> Rat) (a : Rat) : ∀ n, sr (fun i => f i - a * g i) n = sr f n - a * sr g n
 | 0 => by simp only [sr]; grind
 | n + 1 => by simp only [sr]; rw [z7k f g a n]; grind
theorem zo1 (f : Nat -> Rat) (b : Rat) : ∀ n, sr (fun i => f i / b) n = sr f n / b
 | 0 => by simp only [sr]; rw [z57]
 | n + 1 => by simp only [sr]; rw [zo1 f b n, Rat.div_def, Rat.div_def, Rat.div_def]; grind
theorem zki (f g : Nat -> Rat) : ∀ n, sr (fun i => f i + g i) n = sr f n + sr g n
 | 0 => by simp only [sr]; grind
 | n + 1 => by simp only [sr]; rw [zki f g n]; grind
theorem z7r {f : Nat -> Rat} {j : Nat} : ∀ {n : Nat}, j < n -> (∀ i, i < n -> i ≠ j -> f i = 0) -> sr f n = f j
 | 0, h, _ => by omega
 | n + 1, h, hz => by
  rw [sr]
  by_cases e : n = j
  ·subst e
   rw [z7j fun i hi => hz i (by omega) (by omega)]; grind
  ·rw [z7r (j := j) (by omega) (fun i hi => hz i (by omega)), hz n (by omega) e]; grind
structure Lin (φ : (Nat -> Rat) -> Rat) : Prop where
 sub : ∀ (f g : Nat -> Rat) (a : Rat), φ (fun c => f c - a * g c) = φ f - a * φ g
 div : ∀ (f : Nat -> Rat) (b : Rat), φ (fun c => f c / b) = φ f / b
theorem Lin.rest {φ : (Nat -> Rat) -> Rat} (hφ : Lin φ) (F a : Nat -> Rat) (g : Nat -> Nat -> Rat) : ∀ r, φ (fun c => F c - sr (fun j => a j * g j c) r) = φ F - sr (fun j => a j * φ (g j)) r
 | 0 => by
  have e : (fun c => F c - sr (fun j => a j * g j c) 0) = F := by funext c; simp only [sr]; grind
  rw [e]; simp only [sr]; grind
 | r + 1 => by
  have e : (fun c => F c - sr (fun j => a j * g j c) (r + 1)) = fun c => (F c - sr (fun j => a j * g j c) r) - a r * g r c := by funext c; simp only [sr]; grind
  rw [e, hφ.sub (fun c => F c - sr (fun j => a j * g j c) r) (g r) (a r), hφ.rest F a g r]
  simp only [sr]; grind
theorem zl4 (S : Nat -> Nat) (z : Nat -> Rat) (n : Nat) : Lin (fun f => sr (fun l => f (S l) * z l) n) := by
 refine ⟨fun f g a => ?_, fun f b => ?_⟩
 ·show sr (fun l => (f (S l) - a * g (S l)) * z l) n = _
  rw [<- z7k]
  exact z3o fun l _ => by grind
 ·show sr (fun l => f (S l) / b * z l) n = _
  rw [<- zo1]
  exact z3o fun l _ => by rw [Rat.div_def, Rat.div_def]; grind
theorem zo2 (x : Nat -> Rat) (n : Nat) : Lin (fun f => sr (fun c => f c * x c) n - f n) := by
 have h := zl4 (fun l => l) x n
 refine ⟨fun f g a => ?_, fun f b => ?_⟩
 ·have := h.sub f g a
  show sr (fun c => (f c - a * g c) * x c) n - (f n - a * g n) = _
  simp only at this
  rw [this]; grind
 ·have := h.div f b
  show sr (fun c => f c / b * x c) n - f n / b = _
  simp only at this
  rw [this, Rat.div_def, Rat.div_def, Rat.div_def]; grind
def swp {α : Type} (f : Nat -> α) (a b : Nat) : Nat -> α := fun i => if i = a then f b else if i = b then f a else f i
def clr (f : Nat -> Nat -> Rat) (r k : Nat) : Nat -> Nat -> Rat := fun i c => if i = r then f r c / f r k else f i c - f i k * (f r c / f r k)
structure Ech (h : Nat) (f0 : Nat -> Nat -> Rat) (piv : List Nat) (f : Nat -> Nat -> Rat) (k : Nat) : Prop where
 inc : ∀ j j', j < j' -> j' < piv.length -> piv.getD j 0 < piv.getD j' 0
 lt : ∀ j, j < piv.length -> piv.getD j 0 < k
 rh : piv.length <= h
 unit : ∀ j i, j < piv.length -> i < h -> f i (piv.getD j 0) = if i = j then 1 else 0
 low : ∀ i c, piv.length <= i -> i < h -> c < k -> f i c = 0
 org : ∃ F : Nat -> Nat -> Rat, (∀ i, i < h -> ∃ i', i' < h /\ F i = f0 i') /\ (∀ φ, Lin φ -> (∀ i, i < piv.length -> φ (F i) = 0) -> ∀ j, j < piv.length -> φ (f j) = 0) /\ (∀ i c, piv.length <= i -> i < h -> f i c = F i c - sr (fun j => F i (piv.getD j 0) * f j c) piv.length)
 eqv : ∀ φ, Lin φ -> ((∀ i, i < h -> φ (f i) = 0) ↔ ∀ i, i < h -> φ (f0 i) = 0)
theorem Ech.start (h : Nat) (f : Nat -> Nat -> Rat) : Ech h f [] f 0 :=
 ⟨fun j j' _ hj => by simp at hj, fun j hj => by simp at hj, Nat.zero_le _, fun j i hj => by simp at hj, fun i c _ _ hc => by omega,
  ⟨f, fun i hi => ⟨i, hi, rfl⟩, fun φ _ _ j hj => by simp at hj, fun i c _ _ => by simp only [List.length_nil, sr]; grind⟩, fun φ _ => Iff.rfl⟩
section
variable {h k i0 : Nat} {f0 f : Nat -> Nat -> Rat} {piv : List Nat}
theorem Ech.skip (E : Ech h f0 piv f k) (hz : ∀ i, piv.length <= i -> i < h -> f i k = 0) : Ech h f0 piv f (k + 1) :=
 ⟨E.inc, fun j hj => Nat.lt_succ_of_lt (E.lt j hj), E.rh, E.unit, fun i c hi hh hc => by
  by_cases e : c = k
  ·rw [e]; exact hz i hi hh
  ·exact E.low i c hi hh (by omega), E.org, E.eqv⟩
theorem zfx {l : List Nat} {k j : Nat} (hj : j < l.length) : (l ++ [k]).getD j 0 = l.getD j 0 := by
 rw [zAb, zAb, List.getElem?_append_left hj]
theorem zkj {l : List Nat} {k : Nat} : (l ++ [k]).getD l.length 0 = k := by
 rw [zAb, List.getElem?_append_right (Nat.le_refl _)]; simp
theorem zm8 {α : Type} {f : Nat -> α} {a b : Nat} : swp f a b a = f b := by simp [swp]
theorem zfy {α : Type} {f : Nat -> α} {a b i : Nat} (h1 : i ≠ a) (h2 : i ≠ b) : swp f a b i = f i := by simp [swp, h1, h2]
theorem zil {α β : Type} {r b h : Nat} (hr : r <= b) (hb : b < h) (f : Nat -> α) (F : Nat -> β) {i : Nat} (hi : r <= i) (hh : i < h) : ∃ i', r <= i' /\ i' < h /\ swp f r b i = f i' /\ swp F r b i = F i' := by
 by_cases e : i = r
 ·subst e; exact ⟨b, hr, hb, by simp [swp], by simp [swp]⟩
 ·by_cases e2 : i = b
  ·subst e2; exact ⟨r, Nat.le_refl _, by omega, by simp [swp, e], by simp [swp, e]⟩
  ·exact ⟨i, hi, hh, by simp [swp, e, e2], by simp [swp, e, e2]⟩
theorem zfz {g : Nat -> Nat -> Rat} {r k : Nat} : clr g r k r = fun c => g r c / g r k := by funext c; simp [clr]
theorem zcb {g : Nat -> Nat -> Rat} {r k i : Nat} (h : i ≠ r) : clr g r k i = fun c => g i c - g i k * (g r c / g r k) := by funext c; simp [clr, h]
theorem Ech.step (E : Ech h f0 piv f k) (hi : piv.length <= i0) (hih : i0 < h) (hk : f i0 k ≠ 0) : Ech h f0 (piv ++ [k]) (clr (swp f piv.length i0) piv.length k) (k + 1) := by
 have hlen : (piv ++ [k]).length = piv.length + 1 := by simp
 generalize hg : swp f piv.length i0 = g
 have gr : g piv.length = f i0 := by rw [<- hg]; exact zm8
 have gl : ∀ i, i < piv.length -> g i = f i := fun i hi' => by rw [<- hg]; exact zfy (by omega) (by omega)
 have grow : ∀ i, piv.length <= i -> i < h -> ∃ i', piv.length <= i' /\ i' < h /\ g i = f i' := fun i h1 h2 => by
  obtain ⟨i', q1, q2, q3, _⟩ := zil hi hih f f h1 h2
  exact ⟨i', q1, q2, by rw [<- hg]; exact q3⟩
 have hrk : g piv.length k ≠ 0 := by rw [gr]; exact hk
 have lowr : ∀ c, c < k -> g piv.length c = 0 := fun c hc => by rw [gr]; exact E.low i0 c hi hih hc
 have low1 : ∀ i c, piv.length <= i -> i < h -> c < k -> g i c = 0 := fun i c h1 h2 hc => by
  obtain ⟨i', q1, q2, q3⟩ := grow i h1 h2
  rw [q3]; exact E.low i' c q1 q2 hc
 have colk : ∀ i, clr g piv.length k i k = if i = piv.length then 1 else 0 := fun i => by
  by_cases e : i = piv.length
  ·subst e; rw [zfz, if_pos rfl]; exact zfd hrk
  ·rw [zcb e, if_neg e]
   show g i k - g i k * (g piv.length k / g piv.length k) = 0
   rw [zfd hrk]; grind
 refine ⟨fun j j' hj hj' => ?_, fun j hj => ?_, by rw [hlen]; omega, fun j i hj hh => ?_, fun i c h1 h2 hc => ?_, ?_, fun φ hφ => ?_⟩
 ·rw [hlen] at hj'
  by_cases e : j' = piv.length
  ·subst e; rw [zkj, zfx hj]; exact E.lt j hj
  ·rw [zfx (show j' < piv.length by omega), zfx (show j < piv.length by omega)]; exact E.inc j j' hj (by omega)
 ·rw [hlen] at hj
  by_cases e : j = piv.length
  ·subst e; rw [zkj]; omega
  ·rw [zfx (show j < piv.length by omega)]; have := E.lt j (by omega); omega
 ·rw [hlen] at hj
  by_cases e : j = piv.length
  ·subst e; rw [zkj]; exact colk i
  ·have hj2 : j < piv.length := by omega
   rw [zfx hj2]
   have z : g piv.length (piv.getD j 0) = 0 := lowr _ (E.lt j hj2)
   by_cases e2 : i = piv.length
   ·subst e2
    rw [zfz, if_neg (by omega)]
    show g piv.length (piv.getD j 0) / _ = 0
    rw [z, z57]
   ·rw [zcb e2]
    show g i (piv.getD j 0) - g i k * (g piv.length (piv.getD j 0) / _) = _
    rw [z, z57]
    have e3 : g i (piv.getD j 0) = if i = j then 1 else 0 := by
     by_cases c : i < piv.length
     ·rw [gl i c]; exact E.unit j i hj2 hh
     ·rw [low1 i _ (by omega) hh (E.lt j hj2), if_neg (by omega)]
    rw [e3]; grind
 ·rw [hlen] at h1
  by_cases e : c = k
  ·subst e; rw [colk, if_neg (by omega)]
  ·have e2 : i ≠ piv.length := by omega
   rw [zcb e2]
   show g i c - g i k * (g piv.length c / _) = 0
   rw [low1 i c (by omega) h2 (by omega), lowr c (by omega), z57]; grind
 ·obtain ⟨F, o1, o2, o3⟩ := E.org
  have grow2 : ∀ i, piv.length <= i -> i < h -> ∀ c, g i c = swp F piv.length i0 i c - sr (fun j => swp F piv.length i0 i (piv.getD j 0) * f j c) piv.length := fun i h1 h2 c => by
   obtain ⟨i', q1, q2, q3, q4⟩ := zil hi hih f F h1 h2
   rw [<- hg, q3, q4]; exact o3 i' c q1 q2
  have fz : ∀ φ, Lin φ -> (∀ j, j < piv.length -> φ (f j) = 0) -> φ (f i0) = φ (F i0) := fun φ hφ hz => by
   have e : f i0 = fun c => F i0 c - sr (fun j => F i0 (piv.getD j 0) * f j c) piv.length := by funext c; exact o3 i0 c hi hih
   have e2 := hφ.rest (F i0) (fun j => F i0 (piv.getD j 0)) f piv.length
   rw [<- e] at e2
   rw [e2, z7j fun j hj => by rw [hz j hj]; grind]; grind
  refine ⟨swp F piv.length i0, fun i hh => ?_, fun φ hφ hz j hj => ?_, fun i c h1 h2 => ?_⟩
  ·unfold swp
   split
   ·exact o1 i0 hih
   ·split
    ·exact o1 _ (by omega)
    ·exact o1 i hh
  ·rw [hlen] at hz hj
   have hz1 : ∀ j, j < piv.length -> φ (f j) = 0 := o2 φ hφ fun i hi' => by
    have := hz i (by omega)
    rwa [zfy (by omega) (by omega)] at this
   have hz2 : φ (g piv.length) = 0 := by
    have := hz piv.length (by omega)
    rw [zm8] at this
    rw [gr, fz φ hφ hz1, this]
   by_cases e : j = piv.length
   ·subst e
    rw [zfz, hφ.div, hz2, z57]
   ·rw [zcb e, hφ.sub (g j) (fun c => g piv.length c / g piv.length k), hφ.div, hz2, z57, gl j (by omega), hz1 j (by omega)]; grind
  ·rw [hlen] at h1
   have e2 : i ≠ piv.length := by omega
   rw [hlen, zcb e2]
   simp only [sr]
   rw [zkj, zfz]
   generalize hq : (fun c => g piv.length c / g piv.length k) = q
   have hqc : ∀ c, g piv.length c / g piv.length k = q c := fun c => by rw [<- hq]
   simp only [hqc]
   have e3 : sr (fun j => swp F piv.length i0 i ((piv ++ [k]).getD j 0) * clr g piv.length k j c) piv.length = sr (fun j => swp F piv.length i0 i (piv.getD j 0) * f j c) piv.length - q c * sr (fun j => swp F piv.length i0 i (piv.getD j 0) * f j k) piv.length := by
    rw [<- z7k]
    refine z3o fun j hj => ?_
    rw [zfx hj, zcb (by omega), gl j hj]
    simp only [hqc]; grind
   rw [e3, grow2 i (by omega) h2 c, grow2 i (by omega) h2 k]
   grind
 ·rw [<- E.eqv φ hφ]
  have s1 : (∀ i, i < h -> φ (g i) = 0) ↔ ∀ i, i < h -> φ (f i) = 0 := by
   constructor
   ·intro hz i hh
    by_cases e : i = i0
    ·subst e; rw [<- gr]; exact hz _ (by omega)
    ·by_cases e2 : i = piv.length
     ·have h3 := hz i0 hih
      rw [<- hg] at h3
      have : swp f piv.length i0 i0 = f piv.length := by
       unfold swp
       split
       ·rename_i h4; rw [h4]
       ·rw [if_pos rfl]
      rw [this] at h3; rw [e2]; exact h3
     ·have h3 := hz i hh
      rw [<- hg, zfy e2 e] at h3; exact h3
   ·intro hz i hh
    rw [<- hg]
    unfold swp
    split
    ·exact hz i0 hih
    ·split
     ·exact hz _ (by omega)
     ·exact hz i hh
  rw [<- s1]
  constructor
  ·intro hz i hh
   have h1 := hz piv.length (by omega)
   rw [zfz, hφ.div] at h1
   have h2 : φ (g piv.length) = 0 := by
    have e : φ (g piv.length) = φ (g piv.length) / g piv.length k * g piv.length k := by rw [Rat.div_def]; have := Rat.inv_mul_cancel _ hrk; grind
    rw [e, h1]; grind
   by_cases e : i = piv.length
   ·rw [e]; exact h2
   ·have h3 := hz i hh
    rw [zcb e, hφ.sub (g i) (fun c => g piv.length c / g piv.length k), hφ.div, h2, z57] at h3
    grind
  ·intro hz i hh
   have h2 := hz piv.length (by omega)
   by_cases e : i = piv.length
   ·rw [e, zfz, hφ.div, h2, z57]
   ·rw [zcb e, hφ.sub (g i) (fun c => g piv.length c / g piv.length k), hφ.div, h2, z57, hz i hh]; grind
end
end Go.Am
/- Plain: how large the numbers of an elimination are; what it says about solutions. -/
namespace Go.Am
open Go
theorem zo3 (x : Rat) : x * (x.den : Rat) = (x.num : Rat) := by
 have e := ze1 x
 rw [z9j] at e
 have h0 : (x.den : Rat) ≠ 0 := by simp [x.den_nz]
 have e2 : (x.num : Rat) / (x.den : Rat) * (x.den : Rat) = (x.num : Rat) := by rw [Rat.div_def]; have := Rat.inv_mul_cancel _ h0; grind
 rw [<- e] at e2; exact e2
theorem zim (x : Rat) (D : Nat) (h : x.den ∣ D) : x * (D : Rat) = ((x.num * ((D / x.den : Nat) : Int) : Int) : Rat) := by
 obtain ⟨q, rfl⟩ := h
 rw [Nat.mul_div_cancel_left q x.den_pos, Rat.intCast_mul, Rat.natCast_mul]
 have := zo3 x
 have e : (((q : Nat) : Int) : Rat) = (q : Rat) := rfl
 rw [e]
 grind
theorem Dl.quo {p q : Int} {N : Nat} (hq : q ≠ 0) (h1 : p.natAbs < 10 ^ N) (h2 : q.natAbs < 10 ^ N) : Dl ((p : Rat) / (q : Rat)) N := by
 have hq' : (q : Rat) ≠ 0 := by simpa using hq
 rw [zi7 _ _ hq']
 refine Dl.mk _ ?_ ?_ ?_
 ·rw [Rat.num_intCast, Rat.den_intCast]; omega
 ·rw [Rat.num_intCast, Rat.den_intCast]; omega
 ·rw [Rat.num_intCast, Rat.den_intCast]; omega
def dens (g : Nat -> Rat) : Nat -> Nat
 | 0 => 1
 | n + 1 => dens g n * (g n).den
theorem ze7 (g : Nat -> Rat) {c : Nat} : ∀ {n : Nat}, c < n -> (g c).den ∣ dens g n
 | 0, h => by omega
 | n + 1, h => by
  rw [dens]
  by_cases e : c = n
  ·rw [e]; exact Nat.dvd_mul_left _ _
  ·exact Nat.dvd_trans (ze7 g (by omega)) (Nat.dvd_mul_right _ _)
theorem zcc (g : Nat -> Rat) : ∀ n, 0 < dens g n
 | 0 => by simp [dens]
 | n + 1 => Nat.mul_pos (zcc g n) (g n).den_pos
theorem zdc {g : Nat -> Rat} {M : Nat} : ∀ {n : Nat}, (∀ c, c < n -> Dl (g c) M) -> dens g n <= 10 ^ (M * n)
 | 0, _ => by simp [dens]
 | n + 1, h => by
  rw [dens, Nat.mul_succ, Nat.pow_add]
  exact Nat.mul_le_mul (zdc fun c hc => h c (by omega)) (Nat.le_of_lt (h n (by omega)).2)
theorem zpq {g : Nat -> Rat} {Z z : Nat -> Int} {D : Rat} : ∀ {n : Nat}, (∀ l, l < n -> g l * D = (Z l : Rat)) -> sr (fun l => g l * (z l : Rat)) n * D = ((si (fun l => Z l * z l) n : Int) : Rat)
 | 0, _ => by simp only [sr, si]; simp
 | n + 1, h => by
  simp only [sr, si]
  have h1 := zpq (z := z) (n := n) fun l hl => h l (by omega)
  have h2 := h n (by omega)
  rw [Rat.intCast_add, Rat.intCast_mul, <- h1, <- h2]
  grind
section
variable {h k : Nat} {f0 f : Nat -> Nat -> Rat} {piv : List Nat}
theorem zo4 {r B R E : Nat} (h1 : r + 1 <= R) (h2 : R <= 100) (hB : B <= 10 ^ E) : ((r + 1) * B) ^ (r + 1) < 10 ^ (R * (E + 2) + 1) := by
 have h3 : (r + 1) * B <= 10 ^ (E + 2) := by
  rw [Nat.pow_add, Nat.mul_comm]
  exact Nat.mul_le_mul hB (by omega)
 have h4 : ((r + 1) * B) ^ (r + 1) <= (10 ^ (E + 2)) ^ (r + 1) := Nat.pow_le_pow_left h3 _
 rw [<- Nat.pow_mul] at h4
 have h5 : (E + 2) * (r + 1) <= R * (E + 2) := by rw [Nat.mul_comm]; exact Nat.mul_le_mul_right _ h1
 exact Nat.lt_of_le_of_lt h4 (Nat.pow_lt_pow_right (by omega) (by omega))
theorem Ech.dl {M w R : Nat} (E : Ech h f0 piv f k) (hd : ∀ i c, i < h -> c < w -> Dl (f0 i c) M) (hkw : k <= w) (hR : piv.length + 1 <= R) (hR2 : R <= 100) : ∀ i c, i < h -> c < w -> Dl (f i c) (R * (M * (w + 1) + 2) + 1) := by
 intro i c hi hc
 obtain ⟨F, o1, o2, o3⟩ := E.org
 have dF : ∀ i, i < h -> ∀ c, c < w -> Dl (F i c) M := fun i hi c hc => by
  obtain ⟨i', q1, q2⟩ := o1 i hi
  rw [q2]; exact hd i' c q1 hc
 generalize hr : piv.length = r at *
 have hS : ∀ l, (if l < r then piv.getD l 0 else c) < w := fun l => by
  split
  ·rename_i hl; have := E.lt l (by omega); omega
  ·exact hc
 generalize hSd : (fun l => if l < r then piv.getD l 0 else c) = S
 have S1 : ∀ l, l < r -> S l = piv.getD l 0 := fun l hl => by rw [<- hSd]; simp [hl]
 have S2 : S r = c := by rw [<- hSd]; simp
 have hS : ∀ l, S l < w := fun l => by rw [<- hSd]; exact hS l
 let Z : Nat -> Nat -> Int := fun i l => (F i (S l)).num * ((dens (F i) w / (F i (S l)).den : Nat) : Int)
 have hZ : ∀ i l, i < h -> F i (S l) * (dens (F i) w : Rat) = (Z i l : Rat) := fun i l hi => zim _ _ (ze7 _ (hS l))
 have hZb : ∀ i l, i < h -> (Z i l).natAbs <= 10 ^ (M * (w + 1)) := fun i l hi => by
  show ((F i (S l)).num * ((dens (F i) w / (F i (S l)).den : Nat) : Int)).natAbs <= _
  rw [Int.natAbs_mul, Int.natAbs_natCast, Nat.mul_succ, Nat.add_comm (M * w) M, Nat.pow_add]
  exact Nat.mul_le_mul (Nat.le_of_lt (dF i hi _ (hS l)).1) (Nat.le_trans (Nat.div_le_self _ _) (zdc (dF i hi)))
 have hrh : r <= h := by rw [<- hr]; exact E.rh
 obtain ⟨z, ⟨l0, hl0, hz0⟩, zb, zk⟩ := zpb (r := r) (B := 10 ^ (M * (w + 1))) (Nat.pow_pos (by omega)) (a := Z) (fun i l hi hl => hZb i l (by omega))
 have hφ := zl4 S (fun l => (z l : Rat)) (r + 1)
 generalize hφd : (fun f : Nat -> Rat => sr (fun l => f (S l) * (z l : Rat)) (r + 1)) = φ at hφ
 have φd : ∀ f, φ f = sr (fun l => f (S l) * (z l : Rat)) (r + 1) := fun f => by rw [<- hφd]
 have hD : ∀ i, ((dens (F i) w : Nat) : Rat) ≠ 0 := fun i => by have := zcc (F i) w; simp; omega
 have hT : ∀ i, i < h -> φ (F i) * (dens (F i) w : Rat) = ((si (fun l => Z i l * z l) (r + 1) : Int) : Rat) := fun i hi => by
  rw [φd]; exact zpq fun l _ => hZ i l hi
 have hF0 : ∀ i, i < r -> φ (F i) = 0 := fun i hi => by
  have h1 := hT i (by omega)
  rw [zk i hi] at h1
  have h2 := hD i
  have h3 : φ (F i) * (dens (F i) w : Rat) = 0 := by rw [h1]; rfl
  rcases Rat.mul_eq_zero.1 h3 with h | h
  ·exact h
  ·exact absurd h h2
 have hf0 : ∀ j, j < r -> φ (f j) = 0 := fun j hj => o2 φ hφ hF0 j hj
 have hrow : ∀ j, j < h -> φ (f j) = (if j < r then (z j : Rat) else 0) + f j c * (z r : Rat) := fun j hj => by
  rw [φd]
  simp only [sr]
  rw [S2]
  congr 1
  by_cases hjr : j < r
  ·rw [if_pos hjr, z7r (j := j) hjr fun l hl hne => ?_]
   ·rw [S1 j hjr, E.unit j j (by omega) hj, if_pos rfl]; grind
   ·rw [S1 l hl, E.unit l j (by omega) hj, if_neg (fun e => hne e.symm)]; grind
  ·rw [if_neg hjr]
   exact z7j fun l hl => by rw [S1 l hl, E.unit l j (by omega) hj, if_neg (by omega)]; grind
 have hzr : z r ≠ 0 := fun e => by
  have hall : ∀ j, j < r -> z j = 0 := fun j hj => by
   have h1 := hrow j (by omega)
   rw [hf0 j hj, if_pos hj, e] at h1
   have h2 : (z j : Rat) = 0 := by
    have : ((0 : Int) : Rat) = 0 := rfl
    rw [this] at h1; grind
   simpa using h2
  by_cases c1 : l0 < r
  ·exact hz0 (hall l0 c1)
  ·have : l0 = r := by omega
   rw [this] at hz0; exact hz0 e
 have hzr' : (z r : Rat) ≠ 0 := by simpa using hzr
 have bY : ((r + 1) * 10 ^ (M * (w + 1))) ^ (r + 1) < 10 ^ (R * (M * (w + 1) + 2) + 1) := zo4 hR hR2 (Nat.le_refl _)
 generalize hC : (r + 1) * 10 ^ (M * (w + 1)) = C at zb bY
 have hC1 : 10 ^ (M * (w + 1)) <= C := by rw [<- hC]; exact Nat.le_mul_of_pos_left _ (by omega)
 have hCp : 0 < C := Nat.lt_of_lt_of_le (Nat.pow_pos (by omega)) hC1
 rw [Nat.pow_succ] at bY
 have hle : C ^ r <= C ^ r * C := Nat.le_mul_of_pos_right _ hCp
 by_cases hir : i < r
 ·have h1 := hrow i hi
  rw [hf0 i hir, if_pos hir] at h1
  have h2 : f i c = ((-(z i) : Int) : Rat) / ((z r : Int) : Rat) := by
   rw [Rat.div_def, Rat.intCast_neg]
   have h3 := Rat.mul_inv_cancel _ hzr'
   have : f i c * (z r : Rat) * (z r : Rat)⁻¹ = f i c := by rw [Rat.mul_assoc, h3, Rat.mul_one]
   rw [<- this]
   have : f i c * (z r : Rat) = -(z i : Rat) := by grind
   rw [this]
  rw [h2]
  have := zb i; have := zb r
  exact Dl.quo hzr (by rw [Int.natAbs_neg]; omega) (by omega)
 ·have h1 := hrow i hi
  rw [if_neg hir] at h1
  have e : f i = fun c => F i c - sr (fun j => F i (piv.getD j 0) * f j c) r := by funext c; exact o3 i c (by omega) hi
  have e2 := hφ.rest (F i) (fun j => F i (piv.getD j 0)) f r
  rw [<- e, z7j (f := fun j => F i (piv.getD j 0) * φ (f j)) fun j hj => by rw [hf0 j hj]; grind] at e2
  have h3 := hT i hi
  generalize hTd : si (fun l => Z i l * z l) (r + 1) = T at h3
  have hTb : T.natAbs <= (r + 1) * (10 ^ (M * (w + 1)) * C ^ r) := by
   rw [<- hTd]
   exact zm7 fun l hl => by rw [Int.natAbs_mul]; exact Nat.mul_le_mul (hZb i l hi) (zb l)
  have hTb : T.natAbs <= C ^ r * C := by rw [<- Nat.mul_assoc, hC, Nat.mul_comm] at hTb; exact hTb
  have h4 : f i c = (T : Rat) / (((dens (F i) w : Int) * z r : Int) : Rat) := by
   have hd := hD i
   have hne : (((dens (F i) w : Int) * z r : Int) : Rat) ≠ 0 := by
    rw [Rat.intCast_mul]
    intro h0
    rcases Rat.mul_eq_zero.1 h0 with h | h
    ·exact hd h
    ·exact hzr' h
   have h5 : f i c * (((dens (F i) w : Int) * z r : Int) : Rat) = T := by
    rw [<- h3, Rat.intCast_mul]
    have : (((dens (F i) w : Nat) : Int) : Rat) = (dens (F i) w : Rat) := rfl
    rw [this]
    have h6 : φ (F i) = f i c * (z r : Rat) := by grind
    rw [h6]; grind
   rw [Rat.div_def, <- h5, Rat.mul_assoc, Rat.mul_inv_cancel _ hne, Rat.mul_one]
  have hden : dens (F i) w <= 10 ^ (M * (w + 1)) := Nat.le_trans (zdc (dF i hi)) (Nat.pow_le_pow_right (by omega) (Nat.mul_le_mul_left _ (by omega)))
  rw [h4]
  refine Dl.quo ?_ (by omega) ?_
  ·refine Int.mul_ne_zero ?_ hzr
   have := zcc (F i) w; omega
  ·rw [Int.natAbs_mul, Int.natAbs_natCast]
   have : dens (F i) w * (z r).natAbs <= C * C ^ r := Nat.mul_le_mul (Nat.le_trans hden hC1) (zb r)
   rw [Nat.mul_comm C] at this
   omega
def Sol (f : Nat -> Nat -> Rat) (h n : Nat) (x : Nat -> Rat) : Prop := ∀ i, i < h -> sr (fun c => f i c * x c) n = f i n
theorem Sol.lin {h n : Nat} {f : Nat -> Nat -> Rat} {x : Nat -> Rat} : Sol f h n x ↔ ∀ i, i < h -> (fun f => sr (fun c => f c * x c) n - f n) (f i) = 0 := by
 refine forall_congr' fun i => forall_congr' fun _ => ?_
 show _ ↔ sr (fun c => f i c * x c) n - f i n = 0
 constructor <;> intro h <;> grind
theorem Ech.sol (E : Ech h f0 piv f k) (n : Nat) (x : Nat -> Rat) : Sol f h n x ↔ Sol f0 h n x := by
 rw [Sol.lin, Sol.lin]; exact E.eqv _ (zo2 x n)
theorem Ech.none {n i : Nat} (E : Ech h f0 piv f k) (hk : k <= n) (hend : k = n \/ piv.length = h) (hi : piv.length <= i) (hh : i < h) (hne : f i n ≠ 0) (x : Nat -> Rat) : ¬ Sol f0 h n x := fun hs => by
 have h1 := (E.sol n x).2 hs i hh
 rw [z7j fun c hc => by rw [E.low i c hi hh (by omega)]; grind] at h1
 exact hne h1.symm
theorem zo5 {piv : List Nat} (inc : ∀ j j', j < j' -> j' < piv.length -> piv.getD j 0 < piv.getD j' 0) : ∀ j, j < piv.length -> j <= piv.getD j 0
 | 0, _ => Nat.zero_le _
 | j + 1, h => by have := zo5 inc j (by omega); have := inc j (j + 1) (by omega) h; omega
theorem zpc {piv : List Nat} {n : Nat} (inc : ∀ j j', j < j' -> j' < piv.length -> piv.getD j 0 < piv.getD j' 0) (lt : ∀ j, j < piv.length -> piv.getD j 0 < n) (hn : piv.length = n) : ∀ j, j < n -> piv.getD j 0 = j := by
 have key : ∀ m j, j + m + 1 = n -> piv.getD j 0 + m < n := by
  intro m
  induction m with
  | zero => intro j hj; exact lt j (by omega)
  | succ m ih => intro j hj; have h1 := ih (j + 1) (by omega); have h2 := inc j (j + 1) (by omega) (by omega); omega
 intro j hj
 have h1 := zo5 inc j (by omega)
 have h2 := key (n - j - 1) j (by omega)
 omega
theorem Ech.one {n : Nat} (E : Ech h f0 piv f k) (hk : k <= n) (hend : k = n \/ piv.length = h) (hz : ∀ i, piv.length <= i -> i < h -> f i n = 0) (hn : piv.length = n) (x : Nat -> Rat) : Sol f0 h n x ↔ ∀ c, c < n -> x c = f c n := by
 have hrh := E.rh
 have hp := zpc E.inc (fun j hj => Nat.lt_of_lt_of_le (E.lt j hj) hk) hn
 have hrow : ∀ i, i < n -> sr (fun c => f i c * x c) n = x i := fun i hi => by
  rw [z7r (j := i) hi fun c hc hne => ?_]
  ·have := E.unit i i (by omega) (by omega); rw [hp i hi, if_pos rfl] at this; rw [this]; grind
  ·have := E.unit c i (by omega) (by omega); rw [hp c hc, if_neg (fun e => hne e.symm)] at this; rw [this]; grind
 rw [<- E.sol n x]
 constructor
 ·intro hs c hc
  rw [<- hs c (by omega), hrow c hc]
 ·intro hx i hi
  by_cases c : i < n
  ·rw [hrow i c, hx i c]
  ·rw [z7j fun c' hc' => by rw [E.low i c' (by omega) hi (by omega)]; grind, hz i (by omega) hi]
theorem zpd {f : Nat -> Rat} {a b n : Nat} (ha : a < n) (hb : b < n) (hab : a ≠ b) (hz : ∀ i, i < n -> i ≠ a -> i ≠ b -> f i = 0) : sr f n = f a + f b := by
 have e : ∀ i, i < n -> f i = (if i = a then f a else 0) + (if i = b then f b else 0) := fun i hi => by
  by_cases c : i = a
  ·subst c; rw [if_pos rfl, if_neg hab]; grind
  ·by_cases c2 : i = b
   ·subst c2; rw [if_pos rfl, if_neg c]; grind
   ·rw [if_neg c, if_neg c2, hz i hi c c2]; grind
 rw [z3o e, zki, z7r (j := a) ha (fun i _ hne => if_neg hne), z7r (j := b) hb (fun i _ hne => if_neg hne), if_pos rfl, if_pos rfl]
theorem Ech.free {n : Nat} (E : Ech h f0 piv f k) (hk : k <= n) (hend : k = n \/ piv.length = h) (hn : piv.length < n) (x : Nat -> Rat) (hs : Sol f0 h n x) : ∃ y, Sol f0 h n y /\ ∃ c, c < n /\ y c ≠ x c := by
 classical
 obtain ⟨c0, hc0, hnp⟩ : ∃ c, c < n /\ ∀ j, j < piv.length -> piv.getD j 0 ≠ c := by
  refine Classical.byContradiction fun hno => ?_
  have hall : ∀ c, c < n -> ∃ j, j < piv.length /\ piv.getD j 0 = c := fun c hc => Classical.byContradiction fun hne => hno ⟨c, hc, fun j hj e => hne ⟨j, hj, e⟩⟩
  obtain ⟨i, j, hij, hj, he⟩ := zkg piv.length n (fun c => if hc : c < n then (hall c hc).choose else 0) hn (fun c hc => by
   rw [dif_pos hc]; exact (hall c hc).choose_spec.1)
  simp only [dif_pos hj, dif_pos (show i < n by omega)] at he
  have h1 := (hall i (by omega)).choose_spec.2
  have h2 := (hall j hj).choose_spec.2
  rw [he] at h1
  omega
 let d : Nat -> Rat := fun c => if c = c0 then 1 else if hc : ∃ j, j < piv.length /\ piv.getD j 0 = c then - f hc.choose c0 else 0
 have dc0 : d c0 = 1 := by simp [d]
 have dp : ∀ j, j < piv.length -> d (piv.getD j 0) = - f j c0 := fun j hj => by
  have hc : ∃ j', j' < piv.length /\ piv.getD j' 0 = piv.getD j 0 := ⟨j, hj, rfl⟩
  have e : hc.choose = j := by
   have h1 := hc.choose_spec
   have h2 := E.inc hc.choose j
   have h3 := E.inc j hc.choose
   rcases Nat.lt_trichotomy hc.choose j with h | h | h
   ·have := h2 h hj; omega
   ·exact h
   ·have := h3 h h1.1; omega
  show (if piv.getD j 0 = c0 then (1 : Rat) else if hc : ∃ j', j' < piv.length /\ piv.getD j' 0 = piv.getD j 0 then - f hc.choose c0 else 0) = _
  rw [if_neg (hnp j hj), dif_pos hc, e]
 have hrow : ∀ i, i < h -> sr (fun c => f i c * d c) n = 0 := fun i hi => by
  by_cases c : i < piv.length
  ·have hpl := E.lt i c
   rw [zpd (a := c0) (b := piv.getD i 0) hc0 (by omega) (fun e => hnp i c e.symm) fun c' hc' h1 h2 => ?_]
   ·rw [dc0, dp i c, E.unit i i c hi, if_pos rfl]; grind
   ·by_cases hc2 : ∃ j, j < piv.length /\ piv.getD j 0 = c'
    ·obtain ⟨j, hj, rfl⟩ := hc2
     rw [E.unit j i hj hi, if_neg (fun e => h2 (by rw [e]))]; grind
    ·have : d c' = 0 := by
      show (if c' = c0 then (1 : Rat) else if hc : ∃ j, j < piv.length /\ piv.getD j 0 = c' then - f hc.choose c0 else 0) = 0
      rw [if_neg h1, dif_neg hc2]
     rw [this]; grind
  ·exact z7j fun c' hc' => by rw [E.low i c' (by omega) hi (by have := E.rh; omega)]; grind
 refine ⟨fun c => x c + d c, (E.sol n _).1 fun i hi => ?_, c0, hc0, ?_⟩
 ·have h1 := (E.sol n x).2 hs i hi
  have h2 := hrow i hi
  have e : sr (fun c => f i c * (x c + d c)) n = sr (fun c => f i c * x c) n + sr (fun c => f i c * d c) n := by
   rw [<- zki]; exact z3o fun c _ => by grind
  rw [e, h1, h2]; grind
 ·show x c0 + d c0 ≠ x c0
  rw [dc0]; intro e
  have : (1 : Rat) = 0 := by grind
  exact absurd this (by decide)
end
end Go.Am
/- Plain: determinants by the first row: rows that change places, rows taken from rows, triangles, sizes; eliminations that keep them. -/
namespace Go.Am
open Go
def skp (k c : Nat) : Nat := if c < k then c else c + 1
def sg (k : Nat) : Rat := if k % 2 = 1 then -1 else 1
def dt : Nat -> (Nat -> Nat -> Rat) -> Rat
 | 0, _ => 1
 | n + 1, f => sr (fun k => sg k * f 0 k * dt n (fun r c => f (r + 1) (skp k c))) (n + 1)
theorem zkk {k c n : Nat} (h : c < n) : skp k c < n + 1 := by unfold skp; split <;> omega
theorem zin : ∀ {n : Nat} {f g : Nat -> Nat -> Rat}, (∀ i c, i < n -> c < n -> f i c = g i c) -> dt n f = dt n g
 | 0, _, _, _ => rfl
 | n + 1, f, g, h => by
  rw [dt, dt]
  refine z3o fun k hk => ?_
  rw [h 0 k (by omega) hk, zin (n := n) (fun r c hr hc => h (r + 1) (skp k c) (by omega) (zkk hc))]
theorem zm9 (a : Rat) (f : Nat -> Rat) : ∀ n, sr (fun i => a * f i) n = a * sr f n
 | 0 => by simp only [sr]; grind
 | n + 1 => by simp only [sr]; rw [zm9 a f n]; grind
theorem zma (f : Nat -> Rat) : ∀ n, sr (fun i => - f i) n = - sr f n
 | 0 => by simp only [sr]; grind
 | n + 1 => by simp only [sr]; rw [zma f n]; grind
def z3i (f : Nat -> Nat -> Rat) (i : Nat) (v : Nat -> Rat) : Nat -> Nat -> Rat := fun r => if r = i then v else f r
theorem zio : ∀ {n i : Nat} (f : Nat -> Nat -> Rat) (u v : Nat -> Rat) (a : Rat), i < n -> dt n (z3i f i (fun c => u c - a * v c)) = dt n (z3i f i u) - a * dt n (z3i f i v)
 | 0, i, _, _, _, _, h => absurd h (Nat.not_lt_zero _)
 | n + 1, 0, f, u, v, a, _ => by
  have e : ∀ w k, (fun r c => z3i f 0 w (r + 1) (skp k c)) = fun r c => f (r + 1) (skp k c) := fun w k => by funext r c; simp [z3i]
  have e0 : ∀ w, z3i f 0 w 0 = w := fun w => by simp [z3i]
  rw [dt, dt, dt, <- z7k]
  refine z3o fun k hk => ?_
  rw [e, e, e, e0, e0, e0]; grind
 | n + 1, i + 1, f, u, v, a, h => by
  have e : ∀ w k, (fun r c => z3i f (i + 1) w (r + 1) (skp k c)) = z3i (fun r c => f (r + 1) (skp k c)) i (fun c => w (skp k c)) := fun w k => by funext r c; by_cases hr : r = i <;> simp [z3i, hr]
  have e0 : ∀ w, z3i f (i + 1) w 0 = f 0 := fun w => by simp [z3i]
  rw [dt, dt, dt, <- z7k]
  refine z3o fun k hk => ?_
  rw [e, e, e, e0, e0, e0, zio (fun r c => f (r + 1) (skp k c)) (fun c => u (skp k c)) (fun c => v (skp k c)) a (by omega)]
  grind
theorem zl5 (f : Nat -> Nat -> Rat) (m : Nat) : ∀ n, sr (fun i => sr (fun j => f i j) m) n = sr (fun j => sr (fun i => f i j) n) m
 | 0 => by simp only [sr]; exact (z7j fun _ _ => rfl).symm
 | n + 1 => by simp only [sr]; rw [zl5 f m n, zki]
theorem zo6 (g : Nat -> Rat) (k : Nat) : ∀ n, k <= n -> sr (fun l => g (skp k l)) n = sr (fun j => if j = k then 0 else g j) (n + 1)
 | 0, h => by
  have : k = 0 := by omega
  subst this
  simp only [sr, if_pos]; grind
 | n + 1, h => by
  by_cases hk : k = n + 1
  ·subst hk
   have e : sr (fun l => g (skp (n + 1) l)) (n + 1) = sr (fun j => if j = n + 1 then 0 else g j) (n + 1) := z3o fun l hl => by rw [if_neg (by omega)]; unfold skp; rw [if_pos hl]
   rw [e]
   conv => rhs; rw [sr]
   rw [if_pos rfl]; grind
  ·have h1 := zo6 g k n (by omega)
   rw [sr, sr, <- h1, if_neg (fun e => hk e.symm)]
   have : skp k n = n + 1 := by unfold skp; rw [if_neg (by omega)]
   rw [this]
def sk2 (k j c : Nat) : Nat := if c < min k j then c else if c + 1 < max k j then c + 1 else c + 2
theorem skp2 (k l c : Nat) : skp k (skp l c) = sk2 k (skp k l) c := by
 unfold sk2 skp
 repeat' split
 all_goals omega
theorem zo7 (k : Nat) : sg (k + 1) = - sg k := by
 unfold sg
 by_cases h : k % 2 = 1
 ·rw [if_pos h, if_neg (by omega)]; grind
 ·rw [if_neg h, if_pos (by omega)]
theorem zo8 {n : Nat} {f : Nat -> Nat -> Rat} (h : f 0 = f 1) : dt (n + 2) f = 0 := by
 have e : dt (n + 2) f = sr (fun k => sr (fun j => sg k * f 0 k * (if j = k then 0 else (if j < k then sg j else - sg j) * f 0 j * dt n (fun r c => f (r + 2) (sk2 k j c)))) (n + 2)) (n + 2) := by
  rw [dt]
  refine z3o fun k hk => ?_
  rw [zm9, dt]
  congr 1
  rw [<- zo6 (fun j => (if j < k then sg j else - sg j) * f 0 j * dt n (fun r c => f (r + 2) (sk2 k j c))) k (n + 1) (by omega)]
  refine z3o fun l hl => ?_
  have e1 : (fun r c => f (r + 1 + 1) (skp k (skp l c))) = fun r c => f (r + 2) (sk2 k (skp k l) c) := by funext r c; rw [skp2]
  rw [e1, h]
  congr 2
  unfold skp
  by_cases c : l < k
  ·rw [if_pos c, if_pos c]
  ·rw [if_neg c, if_neg (by omega), zo7]; grind
 have t : dt (n + 2) f = - dt (n + 2) f := by
  conv => lhs; rw [e, zl5]
  rw [e, <- zma]
  refine z3o fun k hk => ?_
  rw [<- zma]
  refine z3o fun j hj => ?_
  have es : (fun r c => f (r + 2) (sk2 j k c)) = fun r c => f (r + 2) (sk2 k j c) := by funext r c; unfold sk2; rw [Nat.min_comm, Nat.max_comm]
  rw [es]
  rcases Nat.lt_trichotomy j k with c | c | c
  ·have h1 : ¬ k = j := by omega
   have h2 : ¬ j = k := by omega
   have h3 : ¬ k < j := by omega
   simp only [if_neg h1, if_neg h2, if_neg h3, if_pos c]; grind
  ·subst c; simp only [if_pos]; grind
  ·have h1 : ¬ k = j := by omega
   have h2 : ¬ j = k := by omega
   have h3 : ¬ j < k := by omega
   simp only [if_neg h1, if_neg h2, if_neg h3, if_pos c]; grind
 grind
theorem zmb : ∀ {n i : Nat} {f : Nat -> Nat -> Rat}, i + 1 < n -> f i = f (i + 1) -> dt n f = 0
 | 0, i, _, h, _ => absurd h (Nat.not_lt_zero _)
 | 1, i, _, h, _ => by omega
 | n + 2, 0, f, _, h => zo8 h
 | n + 2, i + 1, f, hi, h => by
  rw [dt]
  refine z7j fun k hk => ?_
  rw [zmb (n := n + 1) (i := i) (by omega) (by funext c; show f (i + 1) (skp k c) = f (i + 1 + 1) (skp k c); rw [h])]; grind
theorem z9b (f : Nat -> Nat -> Rat) (i : Nat) : z3i f i (f i) = f := by funext r; by_cases h : r = i <;> simp [z3i, h]
theorem zdd {n a b : Nat} (hab : a ≠ b) (ha : a < n) (hb : b < n) (hz : ∀ g : Nat -> Nat -> Rat, g a = g b -> dt n g = 0) (f : Nat -> Nat -> Rat) : dt n (swp f a b) = - dt n f := by
 have hba : b ≠ a := fun e => hab e.symm
 have comm : ∀ u v, z3i (z3i f a u) b v = z3i (z3i f b v) a u := fun u v => by
  funext r
  by_cases h1 : r = a <;> by_cases h2 : r = b <;> simp [z3i, h1, h2, hab, hba]
 have z : ∀ u, dt n (z3i (z3i f a u) b u) = 0 := fun u => hz _ (by simp [z3i, hab])
 have z3 := z (fun c => f a c - 1 * f b c)
 rw [zio _ (f a) (f b) 1 hb, comm, comm, zio _ (f a) (f b) 1 ha, zio _ (f a) (f b) 1 ha, <- comm, <- comm, <- comm, <- comm, z, z] at z3
 have e1 : z3i (z3i f a (f a)) b (f b) = f := by rw [z9b, z9b]
 have e2 : z3i (z3i f a (f b)) b (f a) = swp f a b := by
  funext r
  by_cases h1 : r = a
  ·subst h1; simp [z3i, swp, hab]
  ·by_cases h2 : r = b <;> simp [z3i, swp, h1, h2, hba]
 rw [e1, e2] at z3
 grind
theorem zmc : ∀ (d : Nat) {n a : Nat} {f : Nat -> Nat -> Rat}, a + d + 1 < n -> f a = f (a + d + 1) -> dt n f = 0
 | 0, n, a, f, h, e => zmb h e
 | d + 1, n, a, f, h, e => by
  have h1 := zdd (n := n) (a := a + d + 1) (b := a + d + 2) (by omega) (by omega) (by omega) (fun g hg => zmb (i := a + d + 1) (by omega) hg) f
  have h2 : dt n (swp f (a + d + 1) (a + d + 2)) = 0 := zmc (a := a) d (by omega) (by rw [zfy (by omega) (by omega), zm8]; exact e)
  rw [h2] at h1; grind
theorem zl6 {n a b : Nat} {f : Nat -> Nat -> Rat} (hab : a ≠ b) (ha : a < n) (hb : b < n) (h : f a = f b) : dt n f = 0 := by
 rcases Nat.lt_or_gt_of_ne hab with c | c
 ·obtain ⟨d, rfl⟩ : ∃ d, b = a + d + 1 := ⟨b - a - 1, by omega⟩
  exact zmc d hb h
 ·obtain ⟨d, rfl⟩ : ∃ d, a = b + d + 1 := ⟨a - b - 1, by omega⟩
  exact zmc d ha h.symm
theorem zpe {n a b : Nat} (hab : a ≠ b) (ha : a < n) (hb : b < n) (f : Nat -> Nat -> Rat) : dt n (swp f a b) = - dt n f :=
 zdd hab ha hb (fun g hg => zl6 hab ha hb hg) f
theorem zpf {n r k : Nat} (hrk : r ≠ k) (hr : r < n) (hk : k < n) (f : Nat -> Nat -> Rat) (a : Rat) : dt n (z3i f r (fun c => f r c - a * f k c)) = dt n f := by
 rw [zio f (f r) (f k) a hr, z9b, zl6 hrk hr hk (f := z3i f r (f k)) (by simp [z3i, fun e : k = r => hrk e.symm])]; grind
theorem zo9 (f : Nat -> Nat -> Rat) (a : Nat -> Rat) (k m : Nat) : dt m (fun i => if k < i then (fun c => f i c - a i * f k c) else f i) = dt m f := by
 have key : ∀ p, p <= m -> dt m (fun i => if k < i /\ i < p then (fun c => f i c - a i * f k c) else f i) = dt m f := by
  intro p
  induction p with
  | zero => intro _; congr 1; funext i; rw [if_neg (by omega)]
  | succ p ih =>
   intro hp
   by_cases c : k < p
   ·rw [<- ih (by omega), <- zpf (n := m) (r := p) (k := k) (by omega) (by omega) (by omega) (fun i => if k < i /\ i < p then (fun c => f i c - a i * f k c) else f i) (a p)]
    congr 1
    funext i
    unfold z3i
    by_cases e : i = p
    ·subst e
     have h1 : k < i /\ i < i + 1 := by omega
     have h2 : ¬ (k < i /\ i < i) := by omega
     have h3 : ¬ (k < k /\ k < i + 1) := by omega
     have h4 : ¬ (k < k /\ k < i) := by omega
     simp only [if_pos h1, if_neg h2, if_neg h3, if_neg h4, if_true]
    ·by_cases c2 : k < i /\ i < p
     ·have h1 : k < i /\ i < p + 1 := by omega
      simp only [if_pos h1, if_neg e, if_pos c2]
     ·have h1 : ¬ (k < i /\ i < p + 1) := by omega
      simp only [if_neg h1, if_neg e, if_neg c2]
   ·rw [<- ih (by omega)]
    congr 1
    funext i
    by_cases c2 : k < i /\ i < p
    ·rw [if_pos (by omega), if_pos c2]
    ·rw [if_neg (by omega), if_neg c2]
 rw [<- key m (Nat.le_refl _)]
 refine zin fun i c hi _ => ?_
 by_cases h : k < i
 ·rw [if_pos h, if_pos (by omega)]
 ·rw [if_neg h, if_neg (by omega)]
theorem zip : ∀ {n : Nat} {f : Nat -> Nat -> Rat}, 0 < n -> (∀ i, i < n -> f i 0 = 0) -> dt n f = 0
 | 0, _, h, _ => absurd h (Nat.not_lt_zero _)
 | n + 1, f, _, h => by
  rw [dt]
  refine z7j fun k hk => ?_
  by_cases c : k = 0
  ·subst c; rw [h 0 (by omega)]; grind
  ·rw [zip (n := n) (by omega) fun i hi => by unfold skp; rw [if_pos (by omega)]; exact h _ (by omega)]; grind
theorem zl7 {n : Nat} {f : Nat -> Nat -> Rat} (h : ∀ i, 0 < i -> i < n + 1 -> f i 0 = 0) : dt (n + 1) f = f 0 0 * dt n (fun r c => f (r + 1) (c + 1)) := by
 rw [dt, z7r (j := 0) (by omega) fun k hk hne => ?_]
 ·have e : (fun r c => f (r + 1) (skp 0 c)) = fun r c => f (r + 1) (c + 1) := by funext r c; simp [skp]
  have e2 : sg 0 = 1 := by simp [sg]
  rw [e, e2]; grind
 ·rw [zip (n := n) (by omega) fun i hi => by unfold skp; rw [if_pos (by omega)]; exact h _ (by omega) (by omega)]; grind
theorem zl8 : ∀ {k n : Nat} {f : Nat -> Nat -> Rat}, k < n -> (∀ i c, c < k -> c < i -> i < n -> f i c = 0) -> (∀ i, k <= i -> i < n -> f i k = 0) -> dt n f = 0
 | 0, n, f, h, _, hz => zip h fun i hi => hz i (by omega) hi
 | k + 1, 0, f, h, _, _ => absurd h (Nat.not_lt_zero _)
 | k + 1, n + 1, f, h, hl, hz => by
  rw [zl7 fun i h0 hi => hl i 0 (by omega) h0 hi, zl8 (k := k) (n := n) (f := fun r c => f (r + 1) (c + 1)) (by omega) (fun i c h1 h2 h3 => hl _ _ (by omega) (by omega) (by omega)) (fun i h1 h2 => hz _ (by omega) (by omega))]; grind
def pr (d : Nat -> Rat) : Nat -> Rat
 | 0 => 1
 | n + 1 => pr d n * d n
theorem ziq {d e : Nat -> Rat} : ∀ {n : Nat}, (∀ i, i < n -> d i = e i) -> pr d n = pr e n
 | 0, _ => rfl
 | n + 1, h => by rw [pr, pr, ziq fun i hi => h i (by omega), h n (by omega)]
theorem zl9 (d : Nat -> Rat) : ∀ n, pr d (n + 1) = d 0 * pr (fun i => d (i + 1)) n
 | 0 => by simp only [pr]; grind
 | n + 1 => by
  have h := zl9 d n
  have e : pr (fun i => d (i + 1)) (n + 1) = pr (fun i => d (i + 1)) n * d (n + 1) := rfl
  rw [pr, h, e]; grind
theorem zoa : ∀ {n : Nat} {f : Nat -> Nat -> Rat}, (∀ i c, c < i -> i < n -> f i c = 0) -> dt n f = pr (fun i => f i i) n
 | 0, _, _ => rfl
 | n + 1, f, h => by
  rw [zl7 fun i h0 hi => h i 0 h0 hi, zl9, zoa fun i c h1 h2 => h _ _ (by omega) (by omega)]
def sgi (k : Nat) : Int := if k % 2 = 1 then -1 else 1
theorem zmd (k : Nat) : ((sgi k : Int) : Rat) = sg k := by unfold sgi sg; split <;> rfl
def dz : Nat -> (Nat -> Nat -> Int) -> Int
 | 0, _ => 1
 | n + 1, f => si (fun k => sgi k * f 0 k * dz n (fun r c => f (r + 1) (skp k c))) (n + 1)
def pn (d : Nat -> Nat) : Nat -> Nat
 | 0 => 1
 | n + 1 => pn d n * d n
theorem zla (d : Nat -> Nat) : ∀ n, pn d (n + 1) = d 0 * pn (fun i => d (i + 1)) n
 | 0 => by simp [pn]
 | n + 1 => by
  have h := zla d n
  have e : pn (fun i => d (i + 1)) (n + 1) = pn (fun i => d (i + 1)) n * d (n + 1) := rfl
  rw [pn, h, e, Nat.mul_assoc]
theorem zob {d : Nat -> Nat} (h : ∀ i, 0 < d i) : ∀ n, 0 < pn d n
 | 0 => by simp [pn]
 | n + 1 => Nat.mul_pos (zob h n) (h n)
theorem zpr {d : Nat -> Nat} {B : Nat} : ∀ {n : Nat}, (∀ i, i < n -> d i <= B) -> pn d n <= B ^ n
 | 0, _ => by simp [pn]
 | n + 1, h => by rw [pn, Nat.pow_succ]; exact Nat.mul_le_mul (zpr fun i hi => h i (by omega)) (h n (by omega))
theorem zlb (g : Nat -> Int) : ∀ n, sr (fun i => (g i : Rat)) n = ((si g n : Int) : Rat)
 | 0 => by simp only [sr, si]; rfl
 | n + 1 => by simp only [sr, si]; rw [zlb g n, Rat.intCast_add]
theorem zoc : ∀ {n : Nat} {f : Nat -> Nat -> Rat} {Z : Nat -> Nat -> Int} {D : Nat -> Nat}, (∀ i c, i < n -> c < n -> f i c * (D i : Rat) = (Z i c : Rat)) -> dt n f * ((pn D n : Nat) : Rat) = ((dz n Z : Int) : Rat)
 | 0, _, _, _, _ => by simp only [dt, pn, dz]; rw [Rat.one_mul]; rfl
 | n + 1, f, Z, D, h => by
  rw [dt, dz, <- zlb, Rat.mul_comm, <- zm9]
  refine z3o fun k hk => ?_
  have h1 := h 0 k (by omega) hk
  have h2 := zoc (n := n) (f := fun r c => f (r + 1) (skp k c)) (Z := fun r c => Z (r + 1) (skp k c)) (D := fun i => D (i + 1)) (fun i c hi hc => h (i + 1) (skp k c) (by omega) (zkk hc))
  rw [zla, Rat.natCast_mul, Rat.intCast_mul, Rat.intCast_mul, zmd, <- h1, <- h2]
  grind
theorem zod {R B : Nat} : ∀ {n : Nat} {Z : Nat -> Nat -> Int}, n <= R -> (∀ i c, i < n -> c < n -> (Z i c).natAbs <= B) -> (dz n Z).natAbs <= (R * B) ^ n
 | 0, _, _, _ => by simp [dz]
 | n + 1, Z, hn, h => by
  rw [dz]
  refine Nat.le_trans (zm7 (M := B * (R * B) ^ n) fun k hk => ?_) ?_
  ·rw [Int.natAbs_mul, Int.natAbs_mul]
   have h1 : (sgi k).natAbs = 1 := by unfold sgi; split <;> rfl
   rw [h1, Nat.one_mul]
   exact Nat.mul_le_mul (h 0 k (by omega) hk) (zod (by omega) fun i c hi hc => h (i + 1) (skp k c) (by omega) (zkk hc))
  ·rw [Nat.pow_succ, Nat.mul_comm ((R * B) ^ n), <- Nat.mul_assoc]
   exact Nat.mul_le_mul_right _ (Nat.mul_le_mul_right _ hn)
theorem zps {n R M : Nat} {f : Nat -> Nat -> Rat} (hn : n <= R) (hR : R <= 100) (h : ∀ i c, i < n -> c < n -> Dl (f i c) M) : Dl (dt n f) (R * (M * (R + 1) + 2) + 1) := by
 cases n with
 | zero => exact Dl.one.mono (by omega)
 | succ n =>
  let Z : Nat -> Nat -> Int := fun i c => (f i c).num * ((dens (f i) (n + 1) / (f i c).den : Nat) : Int)
  have hZ : ∀ i c, i < n + 1 -> c < n + 1 -> f i c * (dens (f i) (n + 1) : Rat) = (Z i c : Rat) := fun i c hi hc => zim _ _ (ze7 _ hc)
  have hE : M * (n + 1 + 1) <= M * (R + 1) := Nat.mul_le_mul_left _ (by omega)
  have hZb : ∀ i c, i < n + 1 -> c < n + 1 -> (Z i c).natAbs <= 10 ^ (M * (R + 1)) := fun i c hi hc => by
   refine Nat.le_trans ?_ (Nat.pow_le_pow_right (by omega) hE)
   show ((f i c).num * ((dens (f i) (n + 1) / (f i c).den : Nat) : Int)).natAbs <= _
   rw [Int.natAbs_mul, Int.natAbs_natCast, Nat.mul_succ, Nat.add_comm (M * (n + 1)) M, Nat.pow_add]
   exact Nat.mul_le_mul (Nat.le_of_lt (h i c hi hc).1) (Nat.le_trans (Nat.div_le_self _ _) (zdc fun c hc => h i c hi hc))
  have h1 := zoc (D := fun i => dens (f i) (n + 1)) hZ
  have h2 := zod (R := n + 1) (Nat.le_refl _) hZb
  have h3 : ((n + 1) * 10 ^ (M * (R + 1))) ^ (n + 1) < 10 ^ (R * (M * (R + 1) + 2) + 1) := zo4 hn hR (Nat.le_refl _)
  have h4 : pn (fun i => dens (f i) (n + 1)) (n + 1) <= (10 ^ (M * (R + 1))) ^ (n + 1) := zpr fun i hi =>
   Nat.le_trans (zdc fun c hc => h i c hi hc) (Nat.pow_le_pow_right (by omega) (Nat.mul_le_mul_left _ (by omega)))
  have h5 : (10 ^ (M * (R + 1))) ^ (n + 1) <= ((n + 1) * 10 ^ (M * (R + 1))) ^ (n + 1) := Nat.pow_le_pow_left (Nat.le_mul_of_pos_left _ (by omega)) _
  have hp := zob (d := fun i => dens (f i) (n + 1)) (fun i => zcc _ _) (n + 1)
  generalize pn (fun i => dens (f i) (n + 1)) (n + 1) = P at h1 h4 hp
  have hP : ((P : Int) : Rat) ≠ 0 := by simp; omega
  have e : dt (n + 1) f = ((dz (n + 1) Z : Int) : Rat) / ((P : Int) : Rat) := by
   rw [<- h1, Rat.div_def]
   have : ((P : Nat) : Rat) = ((P : Int) : Rat) := rfl
   rw [this, Rat.mul_assoc, Rat.mul_inv_cancel _ hP, Rat.mul_one]
  rw [e]
  exact Dl.quo (by omega) (by omega) (by rw [Int.natAbs_natCast]; omega)
def gel (g : Nat -> Nat -> Rat) (k : Nat) : Nat -> Nat -> Rat := fun i => if k < i then (fun c => g i c - g i k / g k k * g k c) else g i
def tau (a b i : Nat) : Nat := if i = a then b else if i = b then a else i
theorem zlc {α : Type} (f : Nat -> α) (a b : Nat) : swp f a b = fun i => f (tau a b i) := by
 funext i
 unfold swp tau
 split
 ·rfl
 ·split <;> rfl
structure Gs (n : Nat) (f0 : Nat -> Nat -> Rat) (k : Nat) (g : Nat -> Nat -> Rat) (d : Rat) (N : Nat) : Prop where
 ech : ∃ fJ piv, piv.length = k /\ Ech n f0 piv fJ k /\ ∀ i c, k <= i -> i < n -> g i c = fJ i c
 top : ∀ i c, i < k -> c < n -> Dl (g i c) N
 tri : ∀ i c, c < k -> c < i -> i < n -> g i c = 0
 perm : ∃ F s, (∀ i, i < n -> ∃ i', i' < n /\ F i = f0 i') /\ (∀ σ : Nat -> Nat, (∀ j, j < k -> σ j = j) -> (∀ j, k <= j -> k <= σ j) -> ∀ m, dt m (fun i => g (σ i)) = dt m (fun i => F (σ i))) /\ (s = 1 \/ s = -1) /\ dt n f0 = s * dt n F /\ d = s * pr (fun i => g i i) k
section
variable {n k i0 N R M : Nat} {f0 g : Nat -> Nat -> Rat} {d : Rat}
theorem Gs.start (n : Nat) (f : Nat -> Nat -> Rat) (N : Nat) : Gs n f 0 f 1 N :=
 ⟨⟨f, [], rfl, .start n f, fun _ _ _ _ => rfl⟩, fun i c h => by omega, fun i c h => by omega, f, 1, fun i hi => ⟨i, hi, rfl⟩, fun _ _ _ _ => rfl, .inl rfl, by grind, by simp only [pr]; grind⟩
theorem Gs.dl (G : Gs n f0 k g d N) (hd : ∀ i c, i < n -> c < n -> Dl (f0 i c) M) (hk : k <= n) (hn : n + 1 <= R) (hR : R <= 100) (hN : R * (M * (n + 1) + 2) + 1 <= N) : ∀ i c, i < n -> c < n -> Dl (g i c) N := by
 obtain ⟨fJ, piv, p1, p2, p3⟩ := G.ech
 intro i c hi hc
 by_cases h : i < k
 ·exact G.top i c h hc
 ·rw [p3 i c (by omega) hi]
  exact (p2.dl hd hk (by omega) hR i c hi hc).mono hN
theorem Gs.lead (G : Gs n f0 k g d N) (hk : k <= n) : ∃ F s, (∀ i, i < n -> ∃ i', i' < n /\ F i = f0 i') /\ (s = 1 \/ s = -1) /\ dt n f0 = s * dt n F /\ d = s * dt k F /\ dt n g = dt n F := by
 obtain ⟨F, s, h1, h2, h3, h4, h5⟩ := G.perm
 refine ⟨F, s, h1, h3, h4, ?_, h2 (fun i => i) (fun _ _ => rfl) (fun _ h => h) n⟩
 rw [<- h2 (fun i => i) (fun _ _ => rfl) (fun _ h => h) k, zoa fun i c h6 h7 => G.tri i c (by omega) h6 (by omega)]
 exact h5
theorem Gs.ddl (G : Gs n f0 k g d N) (hd : ∀ i c, i < n -> c < n -> Dl (f0 i c) M) (hk : k <= n) (hn : n <= R) (hR : R <= 100) : Dl d (R * (M * (R + 1) + 2) + 1) := by
 obtain ⟨F, s, h1, h2, _, h4, _⟩ := G.lead hk
 have h5 := zps (n := k) (R := R) (M := M) (f := F) (by omega) hR fun i c hi hc => by
  obtain ⟨i', q1, q2⟩ := h1 i (by omega)
  rw [q2]; exact hd i' c q1 (by omega)
 rw [h4]
 rcases h2 with rfl | rfl
 ·rw [Rat.one_mul]; exact h5
 ·have e : -1 * dt k F = - dt k F := by grind
  rw [e]; exact h5.neg
theorem Gs.zero (G : Gs n f0 k g d N) (hk : k < n) (hz : ∀ i, k <= i -> i < n -> g i k = 0) : dt n f0 = 0 := by
 obtain ⟨F, s, h1, h2, h3, h4, h5⟩ := G.lead (by omega)
 rw [h3, <- h5, zl8 hk G.tri hz]; grind
theorem Gs.fin (G : Gs n f0 n g d N) : d = dt n f0 := by
 obtain ⟨F, s, h1, h2, h3, h4, h5⟩ := G.lead (Nat.le_refl _)
 rw [h3, h4]
theorem zoe {k i0 j : Nat} (h : k <= i0) (hj : k <= j) : k <= tau k i0 j := by
 unfold tau
 split
 ·exact h
 ·split <;> omega
theorem Gs.step (G : Gs n f0 k g d N) (hd : ∀ c, c < n -> Dl (g i0 c) N) (h1 : k <= i0) (h2 : i0 < n) (hne : g i0 k ≠ 0) : Gs n f0 (k + 1) (gel (swp g k i0) k) ((if i0 ≠ k then -d else d) * g i0 k) N := by
 obtain ⟨⟨fJ, piv, p1, p2, p3⟩, G2, G3, F, s, q1, q2, q3, q4, q5⟩ := G
 have sk : swp g k i0 k = g i0 := zm8
 have slt : ∀ i, i < k -> swp g k i0 i = g i := fun i hi => zfy (by omega) (by omega)
 have glt : ∀ i, i < k -> gel (swp g k i0) k i = g i := fun i hi => by unfold gel; rw [if_neg (by omega), slt i hi]
 have gk : gel (swp g k i0) k k = g i0 := by unfold gel; rw [if_neg (by omega), sk]
 have ggt : ∀ i, k < i -> gel (swp g k i0) k i = fun c => swp g k i0 i c - swp g k i0 i k / g i0 k * g i0 c := fun i hi => by unfold gel; rw [if_pos hi, sk]
 have srow : ∀ i, k <= i -> i < n -> ∃ i', k <= i' /\ i' < n /\ swp g k i0 i = g i' /\ swp fJ k i0 i = fJ i' := fun i hi hh => zil h1 h2 g fJ hi hh
 refine ⟨⟨clr (swp fJ k i0) k k, piv ++ [k], by simp [p1], ?_, fun i c hi hh => ?_⟩, fun i c hi hc => ?_, fun i c hc hi hh => ?_, ?_⟩
 ·have := p2.step (i0 := i0) (by omega) h2 (by rw [<- p3 i0 k h1 h2]; exact hne)
  rw [p1] at this; exact this
 ·obtain ⟨i', r1, r2, r3, r4⟩ := srow i (by omega) hh
  rw [ggt i (by omega), zcb (by omega), r3, r4, zm8]
  show g i' c - g i' k / g i0 k * g i0 c = fJ i' c - fJ i' k * (fJ i0 c / fJ i0 k)
  rw [p3 i' c r1 r2, p3 i' k r1 r2, p3 i0 k h1 h2, p3 i0 c h1 h2, Rat.div_def, Rat.div_def]; grind
 ·by_cases e : i = k
  ·subst e; rw [gk]; exact hd c hc
  ·rw [glt i (by omega)]; exact G2 i c (by omega) hc
 ·by_cases e : i <= k
  ·by_cases e2 : i = k
   ·subst e2; rw [gk]; exact G3 i0 c hi (by omega) h2
   ·rw [glt i (by omega)]; exact G3 i c (by omega) hi hh
  ·obtain ⟨i', r1, r2, r3, _⟩ := srow i (by omega) hh
   rw [ggt i (by omega), r3]
   show g i' c - g i' k / g i0 k * g i0 c = 0
   by_cases e3 : c = k
   ·subst e3
    rw [Rat.div_def]
    have := Rat.inv_mul_cancel _ hne
    have e4 : g i' c * (g i0 c)⁻¹ * g i0 c = g i' c := by rw [Rat.mul_assoc, this, Rat.mul_one]
    rw [e4]; grind
   ·rw [G3 i' c (by omega) (by omega) r2, G3 i0 c (by omega) (by omega) h2]; grind
 ·refine ⟨swp F k i0, if i0 ≠ k then -s else s, fun i hh => ?_, fun σ s1 s2 m => ?_, ?_, ?_, ?_⟩
  ·unfold swp
   split
   ·exact q1 i0 h2
   ·split
    ·exact q1 k (by omega)
    ·exact q1 i hh
  ·have e1 : dt m (fun i => gel (swp g k i0) k (σ i)) = dt m (fun i => swp g k i0 (σ i)) := by
    rw [<- zo9 (fun i => swp g k i0 (σ i)) (fun i => swp g k i0 (σ i) k / g i0 k) k m]
    congr 1
    funext i
    rw [s1 k (by omega), sk]
    by_cases c : k < i
    ·rw [if_pos c, ggt _ (s2 i (by omega))]
    ·rw [if_neg c, s1 i (by omega)]
     by_cases e : i = k
     ·rw [e, gk, sk]
     ·rw [glt i (by omega), slt i (by omega)]
   rw [e1, zlc, zlc]
   refine q2 (fun i => tau k i0 (σ i)) (fun j hj => ?_) (fun j hj => ?_) m
   ·rw [s1 j (by omega)]; unfold tau; rw [if_neg (by omega), if_neg (by omega)]
   ·by_cases e : j = k
    ·rw [e, s1 k (by omega)]; exact zoe h1 (Nat.le_refl _)
    ·have := s2 j (by omega)
     exact zoe h1 (by omega)
  ·by_cases e : i0 ≠ k
   ·rw [if_pos e]
    rcases q3 with rfl | rfl
    ·right; rfl
    ·left; grind
   ·rw [if_neg e]; exact q3
  ·rw [q4]
   by_cases e : i0 ≠ k
   ·rw [if_pos e, zpe (fun h => e h.symm) (by omega) h2]; grind
   ·have : i0 = k := by omega
    subst this
    rw [if_neg e]
    congr 2
    funext i
    unfold swp
    split
    ·rename_i h; rw [h]
    ·rfl
  ·rw [pr, gk, ziq (e := fun i => g i i) fun i hi => by rw [glt i hi], q5]
   by_cases e : i0 ≠ k
   ·rw [if_pos e, if_pos e]; grind
   ·rw [if_neg e, if_neg e]; grind
end
end Go.Am
/- Plain law: eliminations of rows of numbers: one row's loop, clear, the search for a row. -/
namespace Go.Am.Tryz
open Go Go.Am Go.Proofs
variable {K : Nat}
theorem Fam.set {α : Type} {P : Nat -> α -> Prop} {n j : Nat} {l : List α} {y : α} (h : Fam (fun i x => i ≠ j -> P i x) n l) (hy : P j y) : Fam P n (l.set j y) := by
 refine ⟨by simp [h.1], fun i hi => ?_⟩
 simp only [List.length_set] at hi
 rw [List.getElem_set]
 by_cases c : j = i
 ·subst c; rw [if_pos rfl]; exact hy
 ·rw [if_neg c]; exact h.2 i hi (fun e => c e.symm)
theorem MQ.congr {f g : Nat -> Nat -> Rat} {h w : Nat} {x : List (List Q)} (hx : MQ f h w x) (e : ∀ i c, i < h -> c < w -> f i c = g i c) : MQ g h w x :=
 Fam.mono hx fun i row hi hr => Fam.mono hr fun c q hc hq => by rw [<- e i c hi hc]; exact hq
def rmix (f : Nat -> Nat -> Rat) (G : Nat -> Rat) (i c0 j a b : Nat) : Rat := if a = i /\ c0 <= b /\ b < j then G b else f a b
theorem zof {f : Nat -> Nat -> Rat} {G : Nat -> Rat} {h w i c0 : Nat} {x : List (List Q)} (hx : MQ f h w x) (hi : i < h) (hc0 : c0 <= w) (hw : w <= 1048576) (hK : 2000000000 < K) (L : Nat -> List (List Q) -> Int -> Option (List (List Q)))
  (e : ∀ k acc, acc.length = h -> L (k + 1) acc (w : Int) = some acc)
  (s : ∀ k acc (c : Nat) row q, c0 <= c -> c < w -> MQ (rmix f G i c0 c) h w acc -> idx acc (i : Int) = some row -> idx row (c : Int) = some q -> QV q (f i c) -> ∃ q', QV q' (G c) /\ L (k + 1) acc (c : Int) = L k (acc.set i (row.set c q')) ((c + 1 : Nat) : Int)) :
  ∃ t, L K x (c0 : Int) = some t /\ MQ (rmix f G i c0 w) h w t := by
 refine z86 (fun k (s : List (List Q) × Int) => L k s.1 s.2) (fun s => ∃ j : Nat, s.2 = j /\ c0 <= j /\ j <= w /\ MQ (rmix f G i c0 j) h w s.1) (fun s => (w - s.2 : Int).toNat) _ ?_ ((x, (c0 : Int)) : List (List Q) × Int) (by dsimp only; omega) ⟨c0, rfl, Nat.le_refl _, hc0, hx.congr fun a b _ _ => by unfold rmix; rw [if_neg (by omega)]⟩
 rintro k ⟨o, _⟩ ⟨j, rfl, h0, h1, h2⟩
 dsimp only at h2 ⊢
 by_cases hj : j < w
 ·right
  obtain ⟨row, r1, r2⟩ := h2.idx hi
  obtain ⟨q, q1, q2⟩ := Fam.idx r2 hj
  have hq : QV q (f i j) := by
   have : rmix f G i c0 j i j = f i j := by unfold rmix; rw [if_neg (by omega)]
   rwa [this] at q2
  obtain ⟨q', q3, q4⟩ := s k o j row q h0 hj h2 r1 q1 hq
  refine ⟨(o.set i (row.set j q'), ((j + 1 : Nat) : Int)), q4, by dsimp only; omega, j + 1, rfl, by omega, by omega, ?_⟩
  have mc : ∀ r c, (r ≠ i \/ c ≠ j) -> rmix f G i c0 (j + 1) r c = rmix f G i c0 j r c := fun r c hne => by
   unfold rmix
   by_cases k : r = i /\ c0 <= c /\ c < j
   ·rw [if_pos k, if_pos (by omega)]
   ·rw [if_neg k, if_neg (by omega)]
  refine Fam.set (j := i) (h2.mono fun r y hr hy hne => ?_) ?_
  ·exact Fam.mono hy fun c q hc hq => by rw [mc r c (.inl hne)]; exact hq
  ·refine Fam.set (j := j) (Fam.mono r2 fun c q hc hq hne => ?_) ?_
   ·rw [mc i c (.inr hne)]; exact hq
   ·have : rmix f G i c0 (j + 1) i j = G j := by unfold rmix; rw [if_pos (by omega)]
    rw [this]; exact q3
 ·left
  have : j = w := by omega
  subst this
  exact ⟨o, e k o h2.1, h2⟩
theorem MQ.at {f : Nat -> Nat -> Rat} {h w i c : Nat} {x : List (List Q)} (hx : MQ f h w x) (hi : i < h) (hc : c < w) : ∃ row q, idx x (i : Int) = some row /\ row.length = w /\ idx row (c : Int) = some q /\ QV q (f i c) := by
 obtain ⟨row, r1, r2⟩ := hx.idx hi
 obtain ⟨q, q1, q2⟩ := Fam.idx r2 hc
 exact ⟨row, q, r1, r2.1, q1, q2⟩
theorem zqf {q : Q} {x : Rat} (h : QV q x) : ∃ s : Int, z3m K q = some s /\ (s = 0 ↔ x = 0) := by
 refine ⟨_, zm3 h, ?_⟩
 by_cases c : x = 0
 ·simp [c]
 ·rw [if_neg c]; split <;> simp [c]
theorem zog {f : Nat -> Nat -> Rat} {h w k a : Nat} {x : List (List Q)} (hx : MQ f h w x) (hk : k < w) (ha : a <= h) (hh : h <= 40) (hK : 2000000000 < K) (L : Nat -> Int -> Option Int)
  (e : ∀ n i, L (n + 1) i = (Option.bind ((if (decide (i < (List.length x : Int))) = true then ((idx x i).bind fun x59 => ((idx x59 (k : Int)).bind fun x68 => ((z3m K x68).bind fun x75 => some (x75 == 0)))) else some false)) (tu1 fun x88 => (if x88 = true then L n (z03 .i64 (i + 1)) else some i)))) :
  ∃ i : Nat, L K (a : Int) = some (i : Int) /\ a <= i /\ i <= h /\ (∀ j, a <= j -> j < i -> f j k = 0) /\ (i < h -> f i k ≠ 0) := by
 have hl := hx.1
 have key : ∃ o : Int, L K (a : Int) = some o /\ ∃ i : Nat, o = i /\ a <= i /\ i <= h /\ (∀ j, a <= j -> j < i -> f j k = 0) /\ (i < h -> f i k ≠ 0) := by
  refine z86 L (fun s => ∃ i : Nat, s = i /\ a <= i /\ i <= h /\ ∀ j, a <= j -> j < i -> f j k = 0) (fun s => (h - s : Int).toNat) _ ?_ (a : Int) (by omega) ⟨a, rfl, Nat.le_refl _, ha, fun j _ _ => by omega⟩
  rintro n _ ⟨i, rfl, h0, h1, h2⟩
  by_cases hi : i < h
  ·obtain ⟨row, q, i1, i2, i3, i4⟩ := hx.at hi hk
   obtain ⟨s, s1, s2⟩ := zqf (K := K) i4
   by_cases z : f i k = 0
   ·right
    have hs : s = 0 := s2.2 z
    subst hs
    refine ⟨((i + 1 : Nat) : Int), ?_, by omega, i + 1, rfl, by omega, by omega, fun j q1 q2 => ?_⟩
    ·rw [e, hl, if_pos (lt_d hi)]
     simp only [i1, i3, z0e, s1, beq_self_eq_true, if_true, tu1a, k1 (show i <= 1048576 by omega)]
    ·by_cases c : j = i
     ·rw [c]; exact z
     ·exact h2 j q1 (by omega)
   ·left
    have hs : (s == 0) = false := by simp; exact fun e => z (s2.1 e)
    refine ⟨_, ?_, i, rfl, h0, h1, h2, fun _ => z⟩
    rw [e, hl, if_pos (lt_d hi)]
    simp only [i1, i3, z0e, s1, hs, Bool.false_eq_true, if_false, tu1a]
  ·left
   have : i = h := by omega
   subst this
   refine ⟨_, ?_, i, rfl, h0, h1, h2, fun h => by omega⟩
   rw [e, hl, if_neg (by simp)]
   simp only [z0e, tu1a, Bool.false_eq_true, if_false]
 obtain ⟨o, o1, i, rfl, o2⟩ := key
 exact ⟨i, o1, o2⟩
theorem zpg {f : Nat -> Nat -> Rat} {h w a b : Nat} {x : List (List Q)} {ra rb : List Q} (hx : MQ f h w x) (ha : a < h) (hb : b < h) (h1 : idx x (a : Int) = some ra) (h2 : idx x (b : Int) = some rb) : MQ (swp f a b) h w ((x.set a rb).set b ra) := by
 obtain ⟨ra', q1, q2⟩ := hx.idx ha
 obtain ⟨rb', q3, q4⟩ := hx.idx hb
 obtain rfl : ra = ra' := zAa (h1.symm.trans q1)
 obtain rfl : rb = rb' := zAa (h2.symm.trans q3)
 refine Fam.set (j := b) (Fam.mono (P := fun i row => i ≠ b -> FQ (swp f a b i) w row) (Fam.set (j := a) (hx.mono fun i row hi hr hne hnb => ?_) fun hne => ?_) fun i row hi hr => hr) ?_
 ·rw [zfy hne hnb]; exact hr
 ·rw [zm8]; exact q4
 ·have : swp f a b b = f a := by unfold swp; by_cases c : b = a <;> simp [c]
  rw [this]; exact q2
theorem zoh {f : Nat -> Nat -> Rat} {h w a b : Nat} {x : List (List Q)} {ra rb : List Q} (hx : MQ f h w x) (ha : a < h) (hb : b < h) (h1 : idx x (a : Int) = some ra) (h2 : idx x (b : Int) = some rb) : MQ (swp f a b) h w ((x.set b ra).set a rb) := by
 have := zpg hx ha hb h1 h2
 by_cases c : a = b
 ·subst c
  obtain rfl : ra = rb := zAa (h1.symm.trans h2)
  exact this
 ·rw [List.set_comm _ _ (fun e => c e)] at this
  exact this
end Go.Am.Tryz
/- Plain law: determinants: what the program's Det and the reference's Det return; SolveDets answers true. -/
namespace Go.Am.Tryz
open Go Go.Am Go.Proofs
variable {K : Nat}
theorem rt0 : RTx ⟨#[48]⟩ 0 := zk9 z7q z64 z4p z5p rfl
theorem rt1 : RTx ⟨#[49]⟩ 1 := zk9 z64 z64 z5p z5p rfl
theorem zoi {α : Type} {P : Nat -> α -> Prop} {n k : Nat} {l : List α} (h : Fam P (n + 1) l) (hk : k < n + 1) : Fam (fun c => P (skp k c)) n (l.take k ++ l.drop (k + 1)) := by
 obtain ⟨hl, hp⟩ := h
 refine ⟨by simp [hl]; omega, fun j hj => ?_⟩
 by_cases c : j < k
 ·have e : skp k j = j := by unfold skp; rw [if_pos c]
  show P (skp k j) _
  rw [e, List.getElem_append_left (by simp [hl]; omega), List.getElem_take]
  exact hp j (by omega)
 ·have e : skp k j = j + 1 := by unfold skp; rw [if_neg c]
  have hlen : (l.take k).length = k := by simp [hl]; omega
  simp only [List.length_append, hlen, List.length_drop, hl] at hj
  show P (skp k j) _
  rw [e, List.getElem_append_right (by omega), List.getElem_drop]
  have e2 : k + 1 + (j - (l.take k).length) = j + 1 := by omega
  have := hp (j + 1) (by omega)
  simp only [e2]
  exact this
theorem zme {f : Nat -> Nat -> Rat} {n k : Nat} {m : List (List zAd)} (hm : MT f (n + 1) (n + 1) m) (hk : k < n + 1) (hn : n <= 40) (hK : 2000000000 < K) : ∃ t, z8s K m 0 (k : Int) = some t /\ MT (fun r c => f (r + 1) (skp k c)) n n t := by
 have hml := hm.1
 have key : ∃ t : List (List zAd), z2s K m 0 (k : Int) K [] 0 = some t /\ MT (fun r c => f (r + 1) (skp k c)) n n t := by
  refine z86 (fun q (s : List (List zAd) × Int) => z2s K m 0 (k : Int) q s.1 s.2) (fun s => ∃ i : Nat, s.2 = i /\ i <= n + 1 /\ MT (fun r c => f (r + 1) (skp k c)) (i - 1) n s.1) (fun s => ((n + 1 : Nat) - s.2 : Int).toNat) _ ?_ (([], 0) : List (List zAd) × Int) (by dsimp only; omega) ⟨0, rfl, by omega, .nil⟩
  rintro q ⟨o, _⟩ ⟨i, rfl, i1, i2⟩
  dsimp only at i2 ⊢
  by_cases hi : i < n + 1
  ·right
   obtain ⟨row, r1, r2⟩ := Fam.idx hm hi
   have hrl := r2.1
   have hol := i2.1
   by_cases e : i = 0
   ·subst e
    refine ⟨(o, ((0 + 1 : Nat) : Int)), ?_, by dsimp only; omega, 1, rfl, by omega, i2⟩
    have hne : (((0 : Nat) : Int) != 0) = false := rfl
    rw [z2s, hml, if_pos (lt_d hi)]
    simp only [r1, z0e, hne, Bool.false_eq_true, if_false, tu1a, k1 (show 0 <= 1048576 by omega)]
   ·have hne : ((i : Int) != 0) = true := by simp; omega
    have l1 : lsl row 0 (k : Int) = some (row.take k) := by
     rw [lslI (by omega) (by omega) (by omega)]; simp
    have l2 : lsl row ((k + 1 : Nat) : Int) (row.length : Int) = some (row.drop (k + 1)) := by
     rw [lslI (by omega) (by omega) (by omega), Int.toNat_natCast, Int.toNat_natCast, List.take_of_length_le (by simp)]
    have hc := zoi r2 hk
    have hcl := hc.1
    obtain ⟨j, rfl⟩ : ∃ j, i = j + 1 := ⟨i - 1, by omega⟩
    refine ⟨(o ++ [row.take k ++ row.drop (k + 1)], ((j + 1 + 1 : Nat) : Int)), ?_, by dsimp only; omega, j + 1 + 1, rfl, by omega, Fam.snoc i2 hc⟩
    rw [z2s, hml, if_pos (lt_d hi)]
    simp only [r1, z0e, hne, if_true, l1, k1 (show k <= 1048576 by omega), l2]
    rw [if_pos (by simp [hrl]; omega), if_pos (by simp [hrl]; omega), if_pos (by simp [hol]; omega), z0e, tu1a, List.nil_append, k1 (by omega)]
  ·left
   have : i = n + 1 := by omega
   subst this
   exact ⟨o, by rw [z2s, hml, if_neg (by simp)], i2⟩
 obtain ⟨t, t1, t2⟩ := key
 exact ⟨t, by unfold z8s; rw [t1]; rfl, t2⟩
theorem MT.at {f : Nat -> Nat -> Rat} {h w i c : Nat} {x : List (List zAd)} (hx : MT f h w x) (hi : i < h) (hc : c < w) : ∃ row q, idx x (i : Int) = some row /\ row.length = w /\ idx row (c : Int) = some q /\ RTx q (f i c) := by
 obtain ⟨row, r1, r2⟩ := Fam.idx hx hi
 obtain ⟨q, q1, q2⟩ := Fam.idx r2 hc
 exact ⟨row, q, r1, r2.1, q1, q2⟩
theorem zpt {q : zAd} {x : Rat} (h : RTx q x) : sEq q ⟨#[48]⟩ = decide (x = 0) := by
 rw [z8x]
 exact decide_eq_decide.2 h.zero_iff
theorem zqg (k : Nat) : (Int.tmod (k : Int) 2 == 1) = decide (k % 2 = 1) := by
 have e : Int.tmod (k : Int) 2 = ((k % 2 : Nat) : Int) := rfl
 rw [e]
 by_cases h : k % 2 = 1
 ·rw [h]; rfl
 ·have : k % 2 = 0 := by omega
  rw [this]; rfl
def ds : Nat -> Nat
 | 0 => 1
 | n + 1 => (13 + ds n + 1) * (n + 1) + 1
theorem zqh : ∀ n, n < 5 -> ds n <= 1000 := by decide
theorem zoj : ∀ (n D : Nat) {f : Nat -> Nat -> Rat} {m : List (List zAd)}, n <= 5 -> n < D -> MT f n n m -> (∀ i c, i < n -> c < n -> Dl (f i c) 13) -> 2000000000 < K -> ∃ t, z7z K D m = some t /\ RTx t (dt n f) /\ Dl (dt n f) (ds n) := by
 intro n
 induction n with
 | zero =>
  intro D f m _ hD hm hd hK
  obtain ⟨D, rfl⟩ : ∃ d, D = d + 1 := ⟨D - 1, by omega⟩
  have hml := hm.1
  exact ⟨_, by rw [z7z, hml, if_pos (by rfl)], rt1, Dl.one⟩
 | succ n ih =>
  intro D f m hn hD hm hd hK
  obtain ⟨D, rfl⟩ : ∃ d, D = d + 1 := ⟨D - 1, by omega⟩
  have hml := hm.1
  obtain ⟨row, r1, r2⟩ := Fam.idx hm (show 0 < n + 1 by omega)
  have r1 : idx m 0 = some row := r1
  have hrl := r2.1
  have hb := zqh n (by omega)
  obtain ⟨T, hT⟩ : ∃ T : Nat -> Rat, T = fun k => sg k * f 0 k * dt n (fun r c => f (r + 1) (skp k c)) := ⟨_, rfl⟩
  have eT : dt (n + 1) f = sr T (n + 1) := by rw [hT]; rfl
  have key : ∃ t : zAd, z47 K (z7z K D) m row K ⟨#[48]⟩ 0 = some t /\ RTx t (sr T (n + 1)) /\ Dl (sr T (n + 1)) (ds (n + 1)) := by
   refine z86 (fun q (s : zAd × Int) => z47 K (z7z K D) m row q s.1 s.2) (fun s => ∃ i : Nat, s.2 = i /\ i <= n + 1 /\ RTx s.1 (sr T i) /\ Dl (sr T i) ((13 + ds n + 1) * i + 1)) (fun s => ((n + 1 : Nat) - s.2 : Int).toNat) _ ?_ ((⟨#[48]⟩, 0) : zAd × Int) (by dsimp only; omega) ⟨0, rfl, by omega, rt0, Dl.zero.mono (by omega)⟩
   rintro q ⟨o, _⟩ ⟨i, rfl, i1, i2, i3⟩
   dsimp only at i2 i3 ⊢
   by_cases hi : i < n + 1
   ·right
    obtain ⟨x, x1, x2⟩ := Fam.idx r2 hi
    have hmul : (13 + ds n + 1) * i <= (13 + ds n + 1) * 5 := Nat.mul_le_mul_left _ (by omega)
    have hms : (13 + ds n + 1) * (i + 1) = (13 + ds n + 1) * i + (13 + ds n + 1) := Nat.mul_succ _ _
    have eS : sr T (i + 1) = sr T i + T i := rfl
    by_cases z : f 0 i = 0
    ·have eTi : T i = 0 := by rw [hT]; dsimp only; rw [z]; grind
     have eS2 : sr T (i + 1) = sr T i := by rw [eS, eTi]; grind
     refine ⟨(o, ((i + 1 : Nat) : Int)), ?_, by dsimp only; omega, i + 1, rfl, by omega, by rw [eS2]; exact i2, by rw [eS2]; exact i3.mono (by omega)⟩
     rw [z47, hrl, if_pos (lt_d hi)]
     simp only [x1, z0e, zpt x2, z, decide_true, if_true, tu1a, k1 (show i <= 1048576 by omega)]
    ·obtain ⟨t, t1, t2⟩ := zme (K := K) hm hi (by omega) hK
     obtain ⟨d, d1, d2, d3⟩ := ih D (by omega) (by omega) t2 (fun r c hr hc => hd (r + 1) (skp i c) (by omega) (zkk hc)) hK
     have dx := hd 0 i (by omega) hi
     obtain ⟨p, p1, p2⟩ := znw (K := K) (N := 1013) x2 d2 (dx.mono (by omega)) (d3.mono (by omega)) (by omega) hK
     have dp := dx.mul d3
     obtain ⟨w, w1, w2, w3⟩ : ∃ w, (Option.bind ((if (decide (i % 2 = 1)) = true then ((z5n K p).bind fun x78 => some x78) else some p)) fun x90 => (z5o K o x90).bind fun x100 => some x100) = some w /\ RTx w (sr T (i + 1)) /\ Dl (sr T (i + 1)) ((13 + ds n + 1) * (i + 1) + 1) := by
      by_cases odd : i % 2 = 1
      ·obtain ⟨u, u1, u2⟩ := znx (K := K) (N := 1013) p2 (dp.mono (by omega)) (by omega) hK
       have eTi : T i = -(f 0 i * dt n (fun r c => f (r + 1) (skp i c))) := by rw [hT]; dsimp only; unfold sg; rw [if_pos odd]; grind
       rw [eS, eTi]
       obtain ⟨w, w1, w2⟩ := zl2 (K := K) (N := 10000) i2 u2 (i3.mono (by omega)) (dp.neg.mono (by omega)) (by omega) hK
       exact ⟨w, by rw [if_pos (decide_eq_true odd), u1, z0e, z0e, w1, z0e], w2, (i3.add dp.neg).mono (by omega)⟩
      ·have eTi : T i = f 0 i * dt n (fun r c => f (r + 1) (skp i c)) := by rw [hT]; dsimp only; unfold sg; rw [if_neg odd]; grind
       rw [eS, eTi]
       obtain ⟨w, w1, w2⟩ := zl2 (K := K) (N := 10000) i2 p2 (i3.mono (by omega)) (dp.mono (by omega)) (by omega) hK
       exact ⟨w, by rw [if_neg (by simpa using odd), z0e, w1, z0e], w2, (i3.add dp).mono (by omega)⟩
     refine ⟨(w, ((i + 1 : Nat) : Int)), ?_, by dsimp only; omega, i + 1, rfl, by omega, w2, w3⟩
     have w1' : (Option.bind ((if (decide (i % 2 = 1)) = true then ((z5n K p).bind fun x78 => some x78) else some p)) (tu1 fun x90 => (z5o K o x90).bind fun x100 => some x100)) = some w := w1
     rw [z47, hrl, if_pos (lt_d hi)]
     simp only [x1, z0e, zpt x2, z, decide_false, Bool.false_eq_true, if_false, t1, d1, p1, zqg]
     rw [w1', z0e, tu1a, k1 (by omega)]
   ·left
    have : i = n + 1 := by omega
    subst this
    exact ⟨o, by rw [z47, hrl, if_neg (by simp)], i2, i3⟩
  obtain ⟨t, t1, t2, t3⟩ := key
  rw [eT]
  refine ⟨t, ?_, t2, t3⟩
  rw [z7z, hml, if_neg (by simp; omega), r1, z0e, t1, z0e, tu1a]
theorem zph (hK : 2000000000 < K) : ∃ q, z8r K 1 = some q /\ QV q 1 := by
 obtain ⟨b, b1, b2, _⟩ := zm4 (K := K) (n := 1) (by omega) (by omega) hK (by omega)
 exact ⟨⟨false, b, b⟩, by unfold z8r; rw [if_neg (by simp), b1, z0e, z0e], rfl, b2, .inl b2⟩
theorem zmf {g : Nat -> Nat -> Rat} {n k N : Nat} {x : List (List Q)} (hx : MQ g n n x) (hk : k < n) (hn : n <= 40) (hN : 2 * N + 1 <= 7000000) (dg : ∀ i c, i < n -> c < n -> Dl (g i c) N) (de : ∀ i c, i < n -> c < n -> Dl (gel g k i c) N) (hz : ∀ i c, k <= i -> i < n -> c < k -> g i c = 0) (hK : 2000000000 < K) :
  ∃ t, z1u K (k : Int) K x ((k + 1 : Nat) : Int) = some t /\ MQ (gel g k) n n t := by
 refine z86 (fun m (s : List (List Q) × Int) => z1u K (k : Int) m s.1 s.2) (fun s => ∃ i : Nat, s.2 = i /\ k + 1 <= i /\ i <= n /\ MQ (fun a c => if a < i then gel g k a c else g a c) n n s.1) (fun s => (n - s.2 : Int).toNat) _ ?_ ((x, ((k + 1 : Nat) : Int)) : List (List Q) × Int) (by dsimp only; omega) ⟨k + 1, rfl, by omega, by omega, hx.congr fun a c ha hc => by
  by_cases h : a < k + 1
  ·rw [if_pos h]; unfold gel; rw [if_neg (by omega)]
  ·rw [if_neg h]⟩
 rintro m ⟨o, _⟩ ⟨i, rfl, i0, i1, i2⟩
 dsimp only at i2 ⊢
 have hol := i2.1
 have gk : gel g k k = g k := by unfold gel; rw [if_neg (by omega)]
 by_cases hi : i < n
 ·right
  obtain ⟨row, q, a1, a2, a3, a4⟩ := i2.at hi hk
  obtain ⟨rk, qk, b1, b2, b3, b4⟩ := i2.at hk hk
  rw [if_neg (by omega)] at a4
  rw [if_pos (by omega), gk] at b4
  obtain ⟨p, p1, p2⟩ := znt (K := K) a4 b4 (dg i k hi hk) (dg k k hk hk) (by omega) hK
  have dp := (dg i k hi hk).div (dg k k hk hk)
  have egi : ∀ c, gel g k i c = g i c - g i k / g k k * g k c := fun c => by unfold gel; rw [if_pos (by omega)]
  obtain ⟨u, u1, u2⟩ := zof (K := K) (c0 := k) (G := fun c => g i c - g i k / g k k * g k c) i2 hi (by omega) (by omega) hK (z2r K (k : Int) (i : Int) p)
   (fun k' acc hacc => by rw [z2r, hacc, if_neg (by simp)])
   (fun k' acc c row' q' hck hc ha j1 j2 hq => by
    rw [if_neg (by omega)] at hq
    obtain ⟨rr, qr, c1, c2, c3, c4⟩ := ha.at hk hc
    have er : rmix (fun a c => if a < i then gel g k a c else g a c) (fun c => g i c - g i k / g k k * g k c) i k c k c = g k c := by
     unfold rmix
     rw [if_neg (by omega)]
     dsimp only
     rw [if_pos (by omega), gk]
    rw [er] at c4
    have hal := ha.1
    obtain ⟨y, y1, y2⟩ := zl1 (K := K) (N := 2 * N + 1) p2 c4 (dp.mono (by omega)) ((dg k c hk hc).mono (by omega)) (by omega) hK
    have dy : Dl (g i k / g k k * g k c) (2 * N + 1) := by
     have h1 := (dg i c hi hc).sub (de i c hi hc)
     rw [egi] at h1
     have : g i c - (g i c - g i k / g k k * g k c) = g i k / g k k * g k c := by grind
     rw [this] at h1
     exact h1.mono (by omega)
    obtain ⟨z, z1, z2⟩ := zns (K := K) (N := 2 * N + 1) hq y2 ((dg i c hi hc).mono (by omega)) dy (by omega) hK
    exact ⟨z, z2, by rw [z2r, hal, if_pos (lt_d hc)]; simp only [j1, j2, c1, c3, y1, z1, z0e, Int.toNat_natCast, k1 (show c <= 1048576 by omega)]⟩)
  refine ⟨(u, ((i + 1 : Nat) : Int)), ?_, by dsimp only; omega, i + 1, rfl, by omega, by omega, u2.congr fun a c _ hc => ?_⟩
  ·rw [z1u, hol, if_pos (lt_d hi)]
   simp only [a1, a3, b1, b3, p1, u1, z0e, tu1a, k1 (show i <= 1048576 by omega)]
  ·unfold rmix
   dsimp only
   by_cases c2 : a = i
   ·subst c2
    by_cases c3 : k <= c
    ·rw [if_pos (by omega), if_pos (by omega), egi]
    ·rw [if_neg (by omega), if_neg (by omega), if_pos (by omega), egi, hz a c (by omega) hi (by omega), hz k c (by omega) hk (by omega)]; grind
   ·rw [if_neg (by omega)]
    by_cases c1 : a < i
    ·rw [if_pos c1, if_pos (by omega)]
    ·rw [if_neg c1, if_neg (by omega)]
 ·left
  have : i = n := by omega
  subst this
  refine ⟨o, by rw [z1u, hol, if_neg (by simp)], i2.congr fun a c ha _ => ?_⟩
  rw [if_pos ha]
theorem zok {f : Nat -> Nat -> Rat} {n : Nat} {x : List (List Q)} {q0 : Q} (hx : MQ f n n x) (h1 : QV q0 1) (hn : n <= 40) (hd : ∀ i c, i < n -> c < n -> Dl (f i c) 2000) (hK : 2000000000 < K) :
  (z0m K x K q0 x 0 = some (.inl (⟨#[48]⟩, 0)) /\ dt n f = 0) \/ ∃ q t, z0m K x K q0 x 0 = some (.inr (q, t)) /\ QV q (dt n f) /\ Dl (dt n f) 3444083 := by
 have hxl := hx.1
 have key : ∃ o : (zAd × Int) ⊕ (Q × List (List Q)), z0m K x K q0 x 0 = some o /\ ((o = .inl (⟨#[48]⟩, 0) /\ dt n f = 0) \/ ∃ q t, o = .inr (q, t) /\ QV q (dt n f) /\ Dl (dt n f) 3444083) := by
  refine z86 (fun m (s : Q × List (List Q) × Int) => z0m K x m s.1 s.2.1 s.2.2) (fun s => ∃ (k : Nat) (g : Nat -> Nat -> Rat) (d : Rat), s.2.2 = k /\ k <= n /\ MQ g n n s.2.1 /\ QV s.1 d /\ Gs n f k g d 3362083) (fun s => (n - s.2.2 : Int).toNat) _ ?_ ((q0, x, 0) : Q × List (List Q) × Int) (by dsimp only; omega) ⟨0, f, 1, rfl, by omega, hx, h1, .start n f _⟩
  rintro m ⟨q, o, _⟩ ⟨k, g, d, rfl, hkn, ho, hq, GS⟩
  dsimp only at ho hq ⊢
  have hol := ho.1
  by_cases hk : k < n
  ·obtain ⟨i, i1, i2, i3, i4, i5⟩ := zog (K := K) (k := k) (a := k) ho hk (by omega) hn hK (z38 K o (k : Int)) (fun n i => by rw [z38])
   by_cases hi : i < n
   ·right
    have hb : 41 * (2000 * (n + 1) + 2) + 1 <= 3362083 := by
     have : 2000 * (n + 1) <= 2000 * 41 := Nat.mul_le_mul_left _ (by omega)
     omega
    have d1 := GS.dl (R := 41) hd (by omega) (by omega) (by omega) hb
    have GS2 := GS.step (i0 := i) (fun c hc => d1 i c hi hc) i2 hi (i5 hi)
    have d2 := GS2.dl (R := 41) hd (by omega) (by omega) (by omega) hb
    have dd := (GS.ddl (R := 41) hd (by omega) (by omega) (by omega)).mono (M := 3444083) (by omega)
    obtain ⟨ra, a1, _⟩ := ho.idx hk
    obtain ⟨rb, b1, _⟩ := ho.idx hi
    have sw := zoh ho hk hi a1 b1
    have dsw : ∀ j c, j < n -> c < n -> Dl (swp g k i j c) 3362083 := fun j c hj hc => by
     unfold swp
     split
     ·exact d1 i c hi hc
     ·split
      ·exact d1 k c hk hc
      ·exact d1 j c hj hc
    have hz : ∀ j c, k <= j -> j < n -> c < k -> swp g k i j c = 0 := fun j c h1 h2 hc => by
     unfold swp
     split
     ·exact GS.tri i c hc (by omega) hi
     ·split
      ·exact GS.tri k c hc hc hk
      ·exact GS.tri j c hc (by omega) h2
    have gd : ∀ d' : Rat, MQ (swp g k i) n n ((o.set i ra).set k rb) -> ∀ q', QV q' d' -> Dl d' 3444083 -> d' * g i k = (if i ≠ k then -d else d) * g i k ->
      ∃ q2 t, (idx ((o.set i ra).set k rb) (k : Int)).bind (fun x229 => (idx x229 (k : Int)).bind fun x238 => (z4d K q' x238).bind fun x245 => Option.bind (z1u K (k : Int) K ((o.set i ra).set k rb) ((k + 1 : Nat) : Int)) (tu1 fun x458 => z0m K x m x245 x458 ((k + 1 : Nat) : Int))) = z0m K x m q2 t ((k + 1 : Nat) : Int) /\ MQ (gel (swp g k i) k) n n t /\ QV q2 ((if i ≠ k then -d else d) * g i k) := fun d' sw q' hq' dd' ed => by
     obtain ⟨t, t1, t2⟩ := zmf (K := K) (N := 3362083) sw hk hn (by omega) dsw d2 hz hK
     obtain ⟨rk, qk, c1, c2, c3, c4⟩ := sw.at hk hk
     rw [zm8] at c4
     obtain ⟨q2, m1, m2⟩ := zl1 (K := K) (N := 3444083) hq' c4 dd' ((d1 i k hi hk).mono (by omega)) (by omega) hK
     rw [ed] at m2
     exact ⟨q2, t, by simp only [c1, c3, m1, t1, z0e, tu1a], t2, m2⟩
    have hne : ((i : Int) == (o.length : Int)) = false := by rw [hol]; simp; omega
    by_cases e : i = k
    ·subst e
     obtain rfl : ra = rb := zAa (a1.symm.trans b1)
     have hs : (o.set i ra).set i ra = o := by
      obtain ⟨hlt, he⟩ := zAi (z0a a1).2.2
      rw [List.set_set]
      rw [<- he]
      simp
     obtain ⟨q2, t, g1, g2, g3⟩ := gd d sw q hq dd (by rw [if_neg (by omega)])
     rw [hs] at g1
     refine ⟨(q2, t, ((i + 1 : Nat) : Int)), ?_, by dsimp only; omega, i + 1, _, _, rfl, by omega, g2, g3, GS2⟩
     have hne2 : ((i : Int) != (i : Int)) = false := by simp
     rw [z0m, hxl, if_pos (lt_d hk)]
     simp only [i1, z0e, tu1a, hne, hne2, Bool.false_eq_true, if_false, tu2a, k1 (show i <= 1048576 by omega)]
     exact g1
    ·obtain ⟨q', n1, n2⟩ := zl0 (K := K) hq
     obtain ⟨q2, t, g1, g2, g3⟩ := gd (-d) sw q' n2 dd.neg (by rw [if_pos e])
     refine ⟨(q2, t, ((k + 1 : Nat) : Int)), ?_, by dsimp only; omega, k + 1, _, _, rfl, by omega, g2, g3, GS2⟩
     have hne2 : ((i : Int) != (k : Int)) = true := by simp; omega
     rw [z0m, hxl, if_pos (lt_d hk)]
     simp only [i1, z0e, tu1a, hne, hne2, Bool.false_eq_true, if_false, if_true, a1, b1, n1, tu2a, Int.toNat_natCast, k1 (show k <= 1048576 by omega)]
     exact g1
   ·left
    have : i = n := by omega
    subst this
    refine ⟨_, ?_, .inl ⟨rfl, GS.zero hk fun j h1 h2 => i4 j h1 h2⟩⟩
    have heq : ((i : Int) == (o.length : Int)) = true := by rw [hol]; simp
    rw [z0m, hxl, if_pos (lt_d hk)]
    simp only [i1, z0e, tu1a, heq, if_true]
  ·left
   have : k = n := by omega
   subst this
   refine ⟨.inr (q, o), by rw [z0m, hxl, if_neg (by simp)], .inr ⟨q, o, rfl, ?_, ?_⟩⟩
   ·rw [<- GS.fin]; exact hq
   ·rw [<- GS.fin]; exact (GS.ddl (R := 41) hd (by omega) (by omega) (by omega)).mono (by omega)
 obtain ⟨o, o1, ⟨rfl, o2⟩ | ⟨q, t, rfl, o2⟩⟩ := key
 ·exact .inl ⟨o1, o2⟩
 ·exact .inr ⟨q, t, o1, o2⟩
theorem zpi {f : Nat -> Nat -> Rat} {m : List (List zAd)} (sm : MOk m) (em : matE m = 0) (hw : m.length = wid m) (hm : MT f m.length (wid m) m) (hn : m.length <= 40) (hd : ∀ i c, i < m.length -> c < wid m -> Dl (f i c) 2000) (hK : 2000000000 < K) :
  ∃ s e, z4i K m = some (s, e) /\ (Dl (dt m.length f) 2000 -> e = 0 /\ RTx s (dt m.length f)) := by
 obtain ⟨x, x1, x2⟩ := zqe (K := K) hm sm (by omega) hK
 obtain ⟨q, q1, q2⟩ := zph (K := K) hK
 have hsq : z1t K m = some 0 := by
  unfold z1t
  rw [ze4 sm hK, em, z0e, if_neg (by simp), zij, z0e, hw, if_neg (by simp)]
 rw [<- hw] at x2 hd
 unfold z4i
 rw [hsq, z0e, if_neg (by simp), x1, z0e, q1, z0e]
 rcases zok (K := K) x2 q2 hn hd hK with ⟨h1, h2⟩ | ⟨d, t, h1, h2, h3⟩
 ·rw [h1]
  exact ⟨_, _, rfl, fun _ => ⟨rfl, by rw [h2]; exact rt0⟩⟩
 ·rw [h1, zhn, tu2a]
  obtain ⟨f1, f2⟩ := znv (K := K) h2 h3 (by omega) hK
  by_cases c : Dl (dt m.length f) 2000
  ·obtain ⟨s, s1, s2⟩ := znu (K := K) h2 c (by omega) hK
   exact ⟨s, 0, by rw [f1 c, z0e, if_neg (by simp), s1, z0e], fun _ => ⟨rfl, s2⟩⟩
  ·exact ⟨⟨#[]⟩, 2, by rw [f2 c, z0e, if_pos (by simp)], fun h => absurd h c⟩
theorem zcd {m : List (List zAd)} (sm : MOk m) : ∃ K, z4n K m = some true := by
 refine ⟨2000000001, ?_⟩
 have hK : 2000000000 < 2000000001 := by omega
 unfold z4n
 rw [zca, z0e, if_neg (by simp)]
 by_cases em : matE m = 0
 ·by_cases hw : m.length = wid m
  ·obtain ⟨f, f1, f2, f3, f4⟩ := zpa sm em
   obtain ⟨s, e, s1, s2⟩ := zpi (K := 2000000001) sm em hw f1 f2 f4 hK
   have hv : z6k 2000000001 5 [m] = some (zmn 5 [m]) := zny (by simp) (fun x hx => by simp at hx; subst hx; exact sm) hK
   have hne : ((m.length : Int) != ((wid m : Nat) : Int)) = false := by rw [<- hw]; simp
   rw [s1, zc9 sm hK, em, z0e, z0e, if_pos (by decide), zfb, z0e, z0e, tu1a, hne, if_neg (by simp), z0e, tu1a, if_neg (by simp), hv, z0e]
   cases hc : zmn 5 [m] with
   | true => rfl
   | false =>
    have v1 := zii hc m (by simp)
    have h5 : m.length <= 5 := by omega
    have d13 : ∀ i c, i < m.length -> c < m.length -> Dl (f i c) 13 := fun i c hi hc => by
     rw [hw] at hc
     exact zm5 (f1.2 i hi) (fun s hs => (v1.2 _ (List.getElem_mem hi)).2 s hs) c hc
    have m1 : MT f m.length m.length m := by
     have := f1
     rw [<- hw] at this; exact this
    obtain ⟨t, t1, t2, t3⟩ := zoj (K := 2000000001) m.length 2000000001 h5 (by omega) m1 d13 hK
    have hd : Dl (dt m.length f) 2000 := (zps (R := 5) h5 (by omega) d13).mono (by omega)
    obtain ⟨rfl, s3⟩ := s2 hd
    rw [if_neg (by simp), if_pos (by simp), t1, z0e, s3.inj t2, zc7]
    rfl
  ·have hne : ((m.length : Int) != ((wid m : Nat) : Int)) = true := by simp; omega
   have hsq : z1t 2000000001 m = some 3 := by
    unfold z1t
    rw [ze4 sm hK, em, z0e, if_neg (by simp), zij, z0e, if_pos hne]
   unfold z4i
   rw [hsq, zc9 sm hK, em]
   simp [hne, z0e, tu1a, zfb, zc7]
 ·have hsq : z1t 2000000001 m = some (matE m) := by
   unfold z1t
   rw [ze4 sm hK, z0e, if_pos (by simpa using em)]
  unfold z4i
  rw [hsq, zc9 sm hK]
  simp [em, z0e, tu1a, zc7]
end Go.Am.Tryz
/- From a statement's arguments, read as data, to typed data. -/
namespace Go.Am
open Go Go.Proofs.YtdogeclnbdldaaaGreatDoor
section
variable {H : Type} {P : Program} {G : GM} {n B : Nat} {t e : TypeId} {α β S : Type} {r : RT α} {s : RT β} {I : α -> Prop} {J : β -> Prop}
theorem zmg {H : Type} (d : DataW H) : 1 <= Rows.uptoBulk d := by
 cases d with
 | lit l => cases l <;> simp [Rows.uptoBulk]
 | _ => simp [Rows.uptoBulk]
theorem zir {H : Type} : ∀ (ds : List (DataW H)), ds.length <= Rows.uptoBulkAll ds
 | [] => Nat.zero_le _
 | d :: r => by
  have := zir r
  have := zmg d
  simp only [Rows.uptoBulkAll, List.length_cons]; omega
def Arg (H : Type) (P : Program) (G : GM) (n : Nat) (t : TypeId) (r : RT α) (B : Nat) (I : α -> Prop) : Prop := ∀ (cs : List Value) (d : DataW H), AData P G n t cs d -> Rows.uptoBulk d <= B -> ∃ x, r.rep G cs x /\ I x
def ArgS (H : Type) (P : Program) (G : GM) (n : Nat) (ts : List TypeId) (r : RT α) (B : Nat) (I : α -> Prop) : Prop :=
 ∀ (css : List (List Value)) (ds : List (DataW H)), AllD (AData P G n) P.cellsOf ts css ds -> Rows.uptoBulkAll ds <= B -> ∃ x, r.rep G css.flatten x /\ I x
theorem zmh {k : IntKind} {x : Int} (h : (Lit.int k x).wf = true) : z8c k x = true := by
 cases k <;> simp [Lit.wf, IntKind.min, IntKind.max, IntKind.signed, IntKind.bits] at h <;> simp [z8c] <;> omega
theorem Arg.mono {I J : α -> Prop} (h : Arg H P G n t r B I) (k : ∀ x, I x -> J x) : Arg H P G n t r B J := fun cs d hd hb => by
 obtain ⟨x, h1, h2⟩ := h cs d hd hb
 exact ⟨x, h1, k x h2⟩
theorem Arg.int {k : IntKind} (hu : P.underlying t = some (.int k)) : Arg H P G (n + 1) t (rI k) B (fun x => z8c k x = true) := fun cs d h _ => by
 unfold AData at h
 simp only [hu] at h
 obtain ⟨x, h1, h2, h3⟩ := h
 exact ⟨x, h1, zmh h3⟩
theorem Arg.bool (hu : P.underlying t = some .bool) : Arg H P G (n + 1) t rB B (fun _ => True) := fun cs d h _ => by
 unfold AData at h
 simp only [hu] at h
 obtain ⟨x, h1, _⟩ := h
 exact ⟨x, h1, trivial⟩
theorem Arg.str (hu : P.underlying t = some .string) : Arg H P G (n + 1) t rS B (fun x => x.size <= B) := fun cs d h hb => by
 unfold AData at h
 simp only [hu] at h
 obtain ⟨x, h1, h2, _⟩ := h
 refine ⟨x, h1, ?_⟩
 rw [h2] at hb
 simp only [Rows.uptoBulk, Array.length_toList] at hb
 have : x.data.size = x.size := rfl
 omega
theorem zce (h : Arg H P G n e r B I) : ∀ (k : Nat) (css : List (List Value)) (ds : List (DataW H)), AllD (AData P G n) P.cellsOf (List.replicate k e) css ds -> Rows.uptoBulkAll ds <= B -> ∃ xs : List α, All2 (r.rep G) css xs /\ (∀ x ∈ xs, I x) /\ xs.length = k
 | 0, [], [], _, _ => ⟨[], .nil, by simp, rfl⟩
 | 0, _ :: _, _, h, _ => by simp [List.replicate, AllD] at h
 | 0, [], _ :: _, h, _ => by simp [List.replicate, AllD] at h
 | k + 1, [], _, h, _ => by simp [List.replicate, AllD] at h
 | k + 1, _ :: _, [], h, _ => by simp [List.replicate, AllD] at h
 | k + 1, c :: css, d :: ds, hA, hb => by
  simp only [List.replicate, AllD] at hA
  simp only [Rows.uptoBulkAll] at hb
  obtain ⟨x, h1, h2⟩ := h _ _ hA.1.1 (by omega)
  obtain ⟨xs, h3, h4, h5⟩ := zce h k css ds hA.2 (by omega)
  refine ⟨x :: xs, .cons h1 h3, fun y hy => ?_, by simp [h5]⟩
  rcases List.mem_cons.1 hy with rfl | hy
  ·exact h2
  ·exact h4 y hy
theorem zfe {R : TypeId -> List Value -> DataW H -> Prop} {sz : TypeId -> Nat} : ∀ (k : Nat) {ts : List TypeId} {cs : List (List Value)} {ds : List (DataW H)}, AllD R sz ts cs ds -> AllD R sz (ts.take k) (cs.take k) (ds.take k)
 | 0, _, _, _, _ => by simp [AllD]
 | k + 1, [], [], [], _ => by simp [AllD]
 | k + 1, _ :: _, _ :: _, _ :: _, h => by simp only [List.take_succ_cons]; exact ⟨h.1, zfe k h.2⟩
theorem zis {R : TypeId -> List Value -> DataW H -> Prop} {sz : TypeId -> Nat} {e : TypeId} : ∀ (k : Nat) (css : List (List Value)) (ds : List (DataW H)), AllD R sz (List.replicate k e) css ds -> ∀ c ∈ css, c.length = sz e
 | 0, [], [], _, c, hc => by simp at hc
 | 0, _ :: _, _, h, _, _ => by simp [List.replicate, AllD] at h
 | 0, [], _ :: _, h, _, _ => by simp [List.replicate, AllD] at h
 | k + 1, [], _, h, _, _ => by simp [List.replicate, AllD] at h
 | k + 1, _ :: _, [], h, _, _ => by simp [List.replicate, AllD] at h
 | k + 1, c :: css, d :: ds, hA, u, hu => by
  simp only [List.replicate, AllD] at hA
  rcases List.mem_cons.1 hu with rfl | hu
  ·exact hA.1.2
  ·exact zis k css ds hA.2 u hu
theorem Arg.sl (hu : P.underlying t = some (.slice e)) (h : Arg H P G n e r B I) : Arg H P G (n + 1) t (rSl r) B (fun xs => xs.length <= B /\ ∀ x ∈ xs, I x) := fun cs d hA hb => by
 unfold AData at hA
 simp only [hu] at hA
 rcases hA with ⟨h1, h2⟩ | ⟨b, len, cap, elems, spare, css, h1, h2, h3, h4, _, h6, h7⟩
 ·subst h1
  exact ⟨[], zjg, Nat.zero_le _, by simp⟩
 ·subst h2
  simp only [Rows.uptoBulk] at hb
  have hlen := zir elems
  have h8 := zfe len h7
  rw [List.take_replicate, show min len cap = len by omega, <- h3, List.take_left] at h8
  obtain ⟨xs, k1, k2, k3⟩ := zce h elems.length (css.take elems.length) elems h8 (by omega)
  refine ⟨xs, ?_, by omega, k2⟩
  have hcl := zis _ _ _ h7
  have hel := k1.length
  by_cases hz : elems.length = 0
  ·have hx : xs = [] := List.length_eq_zero_iff.1 (by omega)
   subst hx
   refine ⟨_, [], h1, ⟨by simp, .inr (.inr ⟨b, 0, some 0, cap, by rw [<- h3, hz], rfl, .inr rfl⟩)⟩, .nil⟩
  ·rcases h6 with h6 | ⟨x, g1, _, g3⟩
   ·omega
   ·refine ⟨_, css.take elems.length, h1, ⟨k1.each, .inr (.inl ⟨b, 0, some 0, cap, x, by rw [hel, k3, <- h3], g1, ?_, ?_, by rw [hel, k3]; omega, .inr rfl⟩)⟩, k1⟩
    ·rw [g3]
     have h9 : css.flatten = (css.take elems.length).flatten ++ (css.drop elems.length).flatten := by rw [<- List.flatten_append, List.take_append_drop]
     rw [h9, List.length_append, k1.flatLen, hel]; omega
    ·rw [g3, List.drop_zero]
     have h9 : css.flatten = (css.take elems.length).flatten ++ (css.drop elems.length).flatten := by rw [<- List.flatten_append, List.take_append_drop]
     have h10 : (css.take elems.length).length * r.sz = (css.take elems.length).flatten.length := by rw [k1.flatLen, hel]
     rw [h9, h10, List.take_left]
theorem Arg.arr {k : Nat} (hu : P.underlying t = some (.array k e)) (h : Arg H P G n e r B I) : Arg H P G (n + 1) t (rArr k r) B (fun xs => xs.length = k /\ ∀ x ∈ xs, I x) := fun cs d hA hb => by
 unfold AData at hA
 simp only [hu] at hA
 obtain ⟨css, parts, h1, h2, h3⟩ := hA
 subst h2
 simp only [Rows.uptoBulk] at hb
 obtain ⟨xs, k1, k2, k3⟩ := zce h k css parts h3 (by omega)
 exact ⟨xs, ⟨k3, css, h1, k1⟩, k3, k2⟩
theorem ArgS.one (h : Arg H P G n t r B I) : ArgS H P G n [t] r B I := fun css ds hA hb => by
 match css, ds, hA with
 | [c], [d], hA =>
  simp only [Rows.uptoBulkAll] at hb
  obtain ⟨x, h1, h2⟩ := h c d hA.1.1 (by omega)
  exact ⟨x, by simpa using h1, h2⟩
 | [], _, hA => simp [AllD] at hA
 | _ :: _ :: _, [], hA => simp [AllD] at hA
 | _ :: _ :: _, [_], hA => simp [AllD] at hA
 | _ :: _ :: _, _ :: _ :: _, hA => simp [AllD] at hA
 | [_], [], hA => simp [AllD] at hA
 | [_], _ :: _ :: _, hA => simp [AllD] at hA
theorem ArgS.cons {ts : List TypeId} (h : Arg H P G n t r B I) (k : ArgS H P G n ts s B J) : ArgS H P G n (t :: ts) (rP r s) B (fun x => I x.1 /\ J x.2) := fun css ds hA hb => by
 match css, ds, hA with
 | c :: css, d :: ds, hA =>
  simp only [Rows.uptoBulkAll] at hb
  obtain ⟨x, h1, h2⟩ := h c d hA.1.1 (by omega)
  obtain ⟨y, h3, h4⟩ := k css ds hA.2 (by omega)
  exact ⟨(x, y), ⟨c, css.flatten, by simp, h1, h3⟩, h2, h4⟩
 | [], _, hA => simp [AllD] at hA
 | _ :: _, [], hA => simp [AllD] at hA
theorem Arg.struct {fs : Array Field} {ts : List TypeId} (hu : P.underlying t = some (.struct fs)) (hts : fs.toList.map (·.type) = ts) (h : ArgS H P G n ts r B I) (f : S -> α) (g : α -> S) (hg : ∀ p, f (g p) = p) : Arg H P G (n + 1) t (rIso r f) B (fun x => I (f x)) := fun cs d hA hb => by
 unfold AData at hA
 simp only [hu] at hA
 obtain ⟨css, parts, h1, h2, h3⟩ := hA
 subst h2
 simp only [Rows.uptoBulk] at hb
 rw [hts] at h3
 obtain ⟨p, k1, k2⟩ := h css parts h3 (by omega)
 exact ⟨g p, by rw [h1]; show r.rep G css.flatten (f (g p)); rw [hg]; exact k1, by show I (f (g p)); rw [hg]; exact k2⟩
theorem AArgs.cons_inv {ts : List TypeId} {avs : List Value} {ds : List (DataW H)} (h : AArgs P G n (t :: ts) avs ds) : ∃ v vs d dr, avs = v :: vs /\ ds = d :: dr /\ AVal P G n t v d /\ AArgs P G n ts vs dr := by
 match avs, ds, h with
 | v :: vs, d :: dr, h => exact ⟨v, vs, d, dr, rfl, rfl, h.1, h.2⟩
 | [], _, h => simp [AArgs] at h
 | _ :: _, [], h => simp [AArgs] at h
theorem AArgs.nil_inv {avs : List Value} {ds : List (DataW H)} (h : AArgs P G n [] avs ds) : avs = [] /\ ds = [] := by
 match avs, ds, h with
 | [], [], h => exact ⟨rfl, rfl⟩
 | [], _ :: _, h => simp [AArgs] at h
 | _ :: _, _, h => simp [AArgs] at h
theorem AVal.one {v : Value} {d : DataW H} (hu : z3k P t = some false) (h : AVal P G n t v d) : AData P G n t [v] d := by
 unfold AVal at h
 unfold z3k at hu
 split at h
 ·rename_i q; rw [q] at hu; cases hu
 ·rename_i q; rw [q] at hu; cases hu
 ·exact h
theorem AVal.agg {v : Value} {d : DataW H} (hu : z3k P t = some true) (h : AVal P G n t v d) : ∃ cs, v = .agg (List.toArray cs) /\ AData P G n t cs d := by
 unfold AVal at h
 unfold z3k at hu
 split at h
 ·exact h
 ·exact h
 ·rename_i q1 q2
  split at hu
  ·rename_i q; exact absurd q (q1 _)
  ·rename_i q; exact absurd q (q2 _ _)
  ·cases hu
  ·cases hu
theorem Ow.empty (A : AH) : Ow A.get A [] := ⟨fun _ _ h => h, fun i e h => by simp at h, fun i j e e' _ h => by simp at h, fun i e h => by simp at h⟩
theorem CR.done {f : FuncId} {args : List Value} {A : AH} {b : Value} (h : CR P f args A.get A [] fun v _ _ => v = b) : ∃ A', ACalls P f args A b A' := by
 obtain ⟨v, H', G', h1, _, _, rfl⟩ := h
 exact ⟨H', h1⟩
end
end Go.Am
/- SolveDets over the statement's reading of its arguments. -/
namespace Go.Am.Tryz
open Go Go.Am Go.Proofs Go.Proofs.YtdogeclnbdldaaaGreatDoor
theorem solveDets {H : Type} (A : AH) (avs : List Value) (ds : List (DataW H)) (hb : Rows.uptoBulkAll ds <= 1048576) (ha : AArgs Tryz.prog A.get 3 [44] avs ds) : ∃ A', ACalls Tryz.prog 8 avs A (.bool true) A' := by
 obtain ⟨v0, vs0, d0, ds0, rfl, rfl, a0, ha⟩ := AArgs.cons_inv ha
 obtain ⟨rfl, rfl⟩ := AArgs.nil_inv ha
 simp only [Rows.uptoBulkAll] at hb
 obtain ⟨x0, r0, i0⟩ := ((Arg.sl (t := 44) (e := 45) (by kernel_rfl) (Arg.sl (t := 45) (e := 22) (by kernel_rfl) (Arg.str (t := 22) (by kernel_rfl)))) : Arg H Tryz.prog A.get 3 44 _ 1048576 _) [v0] d0 (AVal.one (by kernel_rfl) a0) (by omega)
 obtain ⟨K, hK⟩ := zcd i0
 exact CR.done (z9a K v0 x0 r0 (Ow.empty A) true hK)
end Go.Am.Tryz
