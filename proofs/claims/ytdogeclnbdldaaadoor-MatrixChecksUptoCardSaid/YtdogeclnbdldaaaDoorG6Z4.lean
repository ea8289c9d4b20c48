/- Plain lemmas: rules for typed functions over whole numbers; digits set in place; the guess of a digit of a quotient. -/
import Derived.Test.YtdogeclnbdldaaaDoorG5Z4
import Derived.Test.YtdogeclnbdldaaaDoorG2Z4
import Derived.Test.YtdogeclnbdldaaaDoorRows
set_option maxRecDepth 100000
set_option maxHeartbeats 4000000
set_option linter.unusedVariables false
set_option linter.unusedSimpArgs false
namespace Go.Am
open Go
theorem z0w {α β : Type} (a : α) (f : α -> Option β) : Option.bind (some a) f = f a := (rfl)
theorem tu0a {β : Type} (g : Option β) (u : Unit) : tu0 g u = g := (rfl)
theorem tu1a {α β : Type} (g : α -> Option β) (a : α) : tu1 g a = g a := (rfl)
theorem tu2a {α1 α2 β : Type} (g : α1 -> α2 -> Option β) (p : α1 × α2) : tu2 g p = g p.1 p.2 := (rfl)
theorem tu3a {α1 α2 α3 β : Type} (g : α1 -> α2 -> α3 -> Option β) (p : α1 × α2 × α3) : tu3 g p = g p.1 p.2.1 p.2.2 := (rfl)
theorem tu4a {α1 α2 α3 α4 β : Type} (g : α1 -> α2 -> α3 -> α4 -> Option β) (p : α1 × α2 × α3 × α4) : tu4 g p = g p.1 p.2.1 p.2.2.1 p.2.2.2 := (rfl)
theorem tu5a {α1 α2 α3 α4 α5 β : Type} (g : α1 -> α2 -> α3 -> α4 -> α5 -> Option β) (p : α1 × α2 × α3 × α4 × α5) : tu5 g p = g p.1 p.2.1 p.2.2.1 p.2.2.2.1 p.2.2.2.2 := (rfl)
theorem lta {α β : Type} (x : α) (f : α -> Option β) : lt x f = f x := (rfl)
theorem z2w {α β γ : Type} (a : α) (f : α -> Option γ) (g : β -> Option γ) : zbu (some (.inl a)) f g = f a := (rfl)
theorem z2x {α β γ : Type} (b : β) (f : α -> Option γ) (g : β -> Option γ) : zbu (some (.inr b)) f g = g b := (rfl)
theorem z6p {α β γ : Type} (a : α) (f : α -> Option γ) (g : β -> Option γ) : outS (.inl a) f g = f a := (rfl)
theorem z6q {α β γ : Type} (b : β) (f : α -> Option γ) (g : β -> Option γ) : outS (.inr b) f g = g b := (rfl)
theorem z1d {α : Type} [BEq α] [LawfulBEq α] {a b : α} : ((a == b) = true) = (a = b) := propext beq_iff_eq
theorem z1e {a b : Int} : ((a != b) = true) = (a ≠ b) := by simp
theorem k64 {a : Int} (h1 : -9223372036854775808 <= a) (h2 : a <= 9223372036854775807) : z04 .i64 a = a := kw h1 h2
theorem ku64 {a : Int} (h1 : 0 <= a) (h2 : a <= 18446744073709551615) : z04 .u64 a = a := z63 (by simp [z89]; omega)
theorem ku32 {a : Int} (h1 : 0 <= a) (h2 : a <= 4294967295) : z04 .u32 a = a := z63 (by simp [z89]; omega)
theorem ku8 {a : Int} (h1 : 0 <= a) (h2 : a <= 255) : z04 .u8 a = a := z63 (by simp [z89]; omega)
theorem i64w {a : Int} (h1 : -9223372036854775808 <= a) (h2 : a <= 9223372036854775807) : IntKind.wrap .i64 a = a := by rw [<- z6u]; exact k64 h1 h2
theorem u64w {a : Int} (h1 : 0 <= a) (h2 : a <= 18446744073709551615) : IntKind.wrap .u64 a = a := by rw [<- z6u]; exact ku64 h1 h2
theorem u32w {a : Int} (h1 : 0 <= a) (h2 : a <= 4294967295) : IntKind.wrap .u32 a = a := by rw [<- z6u]; exact ku32 h1 h2
theorem u8w {a : Int} (h1 : 0 <= a) (h2 : a <= 255) : IntKind.wrap .u8 a = a := by rw [<- z6u]; exact ku8 h1 h2
theorem idxI {xs : List Int} {j : Int} (h1 : 0 <= j) (h2 : j < (xs.length : Int)) : idx xs j = some (xs.getD j.toNat 0) := by
  unfold idx
  rw [if_neg (by omega), zAb, zAh (by omega)]
  rfl
theorem z6n {s : zAd} {j : Int} (h1 : 0 <= j) (h2 : j < (s.size : Int)) : bidx s j = some ((z06 s).getD j.toNat 0) := by
  rw [za4]; exact idxI h1 (by rw [z03]; exact h2)
theorem lslI {α : Type} {xs : List α} {l h : Int} (h1 : 0 <= l) (h2 : l <= h) (h3 : h <= (xs.length : Int)) : lsl xs l h = some ((xs.drop l.toNat).take (h.toNat - l.toNat)) := by unfold lsl; rw [if_pos ⟨h1, h2, h3⟩]
theorem sslI {s : zAd} {l h : Int} (h1 : 0 <= l) (h2 : l <= h) (h3 : h <= (s.size : Int)) : ssl s l h = some (s.extract l.toNat h.toNat) := by unfold ssl; rw [if_pos ⟨h1, h2, h3⟩]
theorem z6o {a b : Int} (h : 0 <= a) : Int.tdiv a b = a / b := Int.tdiv_eq_ediv_of_nonneg h
theorem z6r {a b : Int} (h : 0 <= a) : Int.tmod a b = a % b := Int.tmod_eq_emod_of_nonneg h
theorem zd1 {S R : Type} (l : Nat -> S -> Option R) (I : S -> Prop) (mu : S -> Nat) (Q : R -> Prop)
    (h : ∀ k s, I s -> (∃ r, l (k + 1) s = some r /\ Q r) \/ ∃ s', l (k + 1) s = l k s' /\ mu s' < mu s /\ I s') {k : Nat} (s : S) (hk : mu s < k) (hI : I s) : ∃ r, l k s = some r /\ Q r :=
  zk1 l I mu Q (fun k s hs => (h k s hs).imp id fun ⟨s', a, b, c⟩ => ⟨s', c, b, a⟩) k s hk hI
theorem z39 {B : Int} (hB : 0 < B) {x : List Int} (h : DigB B x) (k : Nat) : 0 <= x.getD k 0 /\ x.getD k 0 < B := by
  by_cases hk : k < x.length
  . rw [zAb, zAh hk]; exact h _ (List.getElem_mem hk)
  . rw [zAb, List.getElem?_eq_none (by omega)]; exact ⟨Int.le_refl _, hB⟩
theorem z93 (B : Int) : ∀ (l : List Int) (p : Nat) (d : Int), p < l.length -> valB B (l.set p d) = valB B l + B ^ p * (d - l.getD p 0)
  | [], p, d, h => by simp at h
  | x :: l, 0, d, _ => by simp [valB]; omega
  | x :: l, p + 1, d, h => by
    have := z93 B l p d (by simpa using h)
    simp only [List.set_cons_succ, valB, this, List.getD_cons_succ, Int.pow_succ]
    grind
theorem DigB.set {B d : Int} {l : List Int} (h : DigB B l) (p : Nat) (hd : 0 <= d /\ d < B) : DigB B (l.set p d) := fun x hx => by
  rcases List.mem_or_eq_of_mem_set hx with h1 | h1
  . exact h x h1
  . subst h1; exact hd
theorem DigB.take {B : Int} {l : List Int} (h : DigB B l) (k : Nat) : DigB B (l.take k) := fun x hx => h x (List.mem_of_mem_take hx)
theorem DigB.drop {B : Int} {l : List Int} (h : DigB B l) (k : Nat) : DigB B (l.drop k) := fun x hx => h x (List.mem_of_mem_drop hx)
theorem DigB.snoc {B d : Int} {l : List Int} (h : DigB B l) (hd : 0 <= d /\ d < B) : DigB B (l ++ [d]) := h.app fun x hx => by simp at hx; omega
theorem z8p (B : Int) (l : List Int) (k : Nat) (hk : k <= l.length) : valB B l = valB B (l.take k) + B ^ k * valB B (l.drop k) := by
  conv => lhs; rw [<- List.take_append_drop k l]
  rw [z5u, List.length_take, Nat.min_eq_left hk]
theorem zcj (B : Int) (n : Nat) : valB B (List.replicate n 0) = 0 := by
  induction n with
  | zero => rfl
  | succ n ih => simp [List.replicate_succ, valB, ih]
theorem DigB.zeros {B : Int} (hB : 0 < B) (n : Nat) : DigB B (List.replicate n 0) := fun x hx => by
  rw [List.mem_replicate] at hx; omega
theorem z5j (B : Int) (x : List Int) (k : Nat) : valB B (x.take (k + 1)) = valB B (x.take k) + B ^ k * x.getD k 0 := by
  by_cases h : k < x.length
  . have hx : x[k]? = some x[k] := zAh h
    rw [List.take_add_one, hx, z5u, List.length_take, Nat.min_eq_left (by omega), zAb, hx]
    simp [valB]
  . rw [List.take_of_length_le (by omega), List.take_of_length_le (by omega), zAb, List.getElem?_eq_none (by omega)]
    simp
theorem zbq (B : Int) (x : List Int) (d : Int) : valB B (x ++ [d]) = valB B x + B ^ x.length * d := by rw [z5u]; simp [valB]
theorem za7 (l : List Int) (h : l ≠ []) : ∃ r d, l = r ++ [d] := by
  rcases List.eq_nil_or_concat l with rfl | ⟨r, d, rfl⟩
  . exact absurd rfl h
  . exact ⟨r, d, by simp⟩
theorem zj3 {B : Int} (hB : 1 < B) {l : List Int} (h : CanB B l) (h0 : l ≠ []) : B ^ (l.length - 1) <= valB B l := by
  obtain ⟨r, d, rfl⟩ := za7 l h0
  have hd : d ≠ 0 := fun e => h.2 (by simp [e])
  have hd2 := h.1 d (by simp)
  have hr := z1j (B := B) (by omega) r (fun x hx => h.1 x (by simp [hx]))
  have e : (r ++ [d]).length - 1 = r.length := by simp
  rw [zbq, e]
  have h1 : B ^ r.length * 1 <= B ^ r.length * d := Int.mul_le_mul_of_nonneg_left (by omega) (Int.le_of_lt (Int.pow_pos (by omega)))
  omega
theorem za8 {B : Int} (hB : 0 < B) {i j : Nat} (h : i <= j) : B ^ i <= B ^ j := by
  obtain ⟨m, rfl⟩ : ∃ m, j = i + m := ⟨j - i, by omega⟩
  rw [Int.pow_add]
  have p1 : 0 < B ^ m := Int.pow_pos hB
  have p2 : 0 < B ^ i := Int.pow_pos hB
  have := Int.mul_le_mul_of_nonneg_left (show 1 <= B ^ m by omega) (Int.le_of_lt p2)
  omega
theorem zg1 {B : Int} (hB : 1 < B) {l m : List Int} (h : DigB B l) (hm : CanB B m) (hl : l.length < m.length) : valB B l < valB B m := by
  have h1 := z5y (B := B) (by omega) l h
  have h2 := zj3 hB hm (by intro e; subst e; simp at hl)
  have h3 : B ^ l.length <= B ^ (m.length - 1) := by
    obtain ⟨j, hj⟩ : ∃ j, m.length - 1 = l.length + j := ⟨m.length - 1 - l.length, by omega⟩
    rw [hj, Int.pow_add]
    have p1 : 0 < B ^ j := Int.pow_pos (by omega)
    have p2 : 0 < B ^ l.length := Int.pow_pos (by omega)
    have := Int.mul_le_mul_of_nonneg_left (show 1 <= B ^ j by omega) (Int.le_of_lt p2)
    omega
  omega
theorem zg2 {B : Int} (hB : 1 < B) {l m : List Int} (h : CanB B l) (hm : DigB B m) (hv : valB B l <= valB B m) : l.length <= m.length := by
  refine Nat.not_lt.1 fun hl => ?_
  have := zg1 hB hm h hl
  omega
theorem z3j {a b c : Int} (hc : 0 <= c) (h : a <= b) : c * a <= c * b := Int.mul_le_mul_of_nonneg_left h hc
theorem z86 {a b : Int} (ha : 0 <= a) (hb : 0 <= b) : 0 <= a * b := Int.mul_nonneg ha hb
structure Kn (B P v1 v2 vl top u3 ul q : Int) : Prop where
  B1 : 1 < B
  P0 : 0 < P
  v1p : 1 <= v1
  v2p : 0 <= v2
  v2b : v2 < B
  vlp : 0 <= vl
  vlb : vl < P
  tp : 0 <= top
  u3p : 0 <= u3
  u3b : u3 < B
  ulp : 0 <= ul
  ulb : ul < P
  q0 : 0 <= q
  qB : q < B
  lo : q * (P * (B * v1 + v2) + vl) <= P * (B * top + u3) + ul
  hi : P * (B * top + u3) + ul < (q + 1) * (P * (B * v1 + v2) + vl)
section
variable {B P v1 v2 vl top u3 ul q g r : Int}
theorem Kn.first (h : Kn B P v1 v2 vl top u3 ul q) : q <= top / v1 := by
  obtain ⟨B1, P0, v1p, v2p, v2b, vlp, vlb, tp, u3p, u3b, ulp, ulb, q0, qB, lo, hi⟩ := h
  rw [Int.le_ediv_iff_mul_le (by omega)]
  refine Int.le_of_lt_add_one (Int.not_le.1 fun hc => ?_)
  have a1 := z3j (Int.le_of_lt (Int.mul_pos P0 (show 0 < B by omega))) hc
  have a2 := z86 (Int.le_of_lt P0) (z86 q0 v2p)
  have a3 := z86 q0 vlp
  have a4 := z3j (Int.le_of_lt P0) (show u3 <= B - 1 by omega)
  grind
theorem Kn.down (h : Kn B P v1 v2 vl top u3 ul q) (hr : top = g * v1 + r) (hg : 0 <= g) (hc : g * v2 > r * B + u3) : q < g := by
  obtain ⟨B1, P0, v1p, v2p, v2b, vlp, vlb, tp, u3p, u3b, ulp, ulb, q0, qB, lo, hi⟩ := h
  refine Int.not_le.1 fun hq => ?_
  have hV : 0 <= P * (B * v1 + v2) + vl := by
    have := z86 (Int.le_of_lt P0) (show 0 <= B * v1 + v2 from by have := z86 (show 0 <= B by omega) (show 0 <= v1 by omega); omega)
    omega
  have a1 := z3j hV hq
  have a2 := z3j (Int.le_of_lt P0) (show r * B + u3 + 1 <= g * v2 by omega)
  have a3 := z86 hg vlp
  subst hr
  grind
theorem Kn.exitA (h : Kn B P v1 v2 vl top u3 ul q) (hr : top = g * v1 + r) (hg : 0 <= g) (hB : g < B) (hc : g * v2 <= r * B + u3) : g <= q + 1 := by
  obtain ⟨B1, P0, v1p, v2p, v2b, vlp, vlb, tp, u3p, u3b, ulp, ulb, q0, qB, lo, hi⟩ := h
  refine Int.not_lt.1 fun hq => ?_
  have hV : 0 <= P * (B * v1 + v2) + vl := by
    have := z86 (Int.le_of_lt P0) (show 0 <= B * v1 + v2 from by have := z86 (show 0 <= B by omega) (show 0 <= v1 by omega); omega)
    omega
  have a1 := z3j hV (show q + 1 <= g - 1 by omega)
  have a2 := z3j (Int.le_of_lt P0) hc
  have a3 := z3j hg (show vl <= P - 1 by omega)
  have a4 := z3j (Int.le_of_lt P0) (show g <= B - 1 by omega)
  have a5 := z3j (Int.le_of_lt (Int.mul_pos P0 (show 0 < B by omega))) v1p
  have a6 := z86 (Int.le_of_lt P0) v2p
  subst hr
  grind
theorem Kn.exitB (h : Kn B P v1 v2 vl top u3 ul q) (hr : top = g * v1 + r) (hg : 0 <= g) (hB : g <= B) (hc : B <= r) : g <= q := by
  obtain ⟨B1, P0, v1p, v2p, v2b, vlp, vlb, tp, u3p, u3b, ulp, ulb, q0, qB, lo, hi⟩ := h
  refine Int.not_lt.1 fun hq => ?_
  have hV : 0 <= P * (B * v1 + v2) + vl := by
    have := z86 (Int.le_of_lt P0) (show 0 <= B * v1 + v2 from by have := z86 (show 0 <= B by omega) (show 0 <= v1 by omega); omega)
    omega
  have a1 := z3j hV (show q + 1 <= g by omega)
  have hPg := z86 (Int.le_of_lt P0) hg
  have a2 := z3j hPg (show v2 <= B - 1 by omega)
  have a3 := z3j hg (show vl <= P - 1 by omega)
  have a4 := z3j (Int.le_of_lt (Int.mul_pos P0 (show 0 < B by omega))) (show g <= r by omega)
  have a6 := z86 (Int.le_of_lt P0) u3p
  subst hr
  grind
end
end Go.Am
/- Plain law: the program's numbers: digits in the base 10^9. -/
namespace Go.Am.Tryd
open Go Go.Am Go.Proofs
variable {K : Nat}
def NumN (n : Int) (l : List Int) : Prop := CanB 1000000000 l /\ valB 1000000000 l = n
theorem NumN.inj {n : Int} {l m : List Int} (h : NumN n l) (k : NumN n m) : l = m := zj2 (B := 1000000000) (by omega) l m h.1 k.1 (h.2.trans k.2.symm)
theorem NumN.nonneg {n : Int} {l : List Int} (h : NumN n l) : 0 <= n := by rw [<- h.2]; exact z1j (by omega) l h.1.1
theorem NumN.nil : NumN 0 [] := ⟨⟨DigB.nil _, by simp⟩, rfl⟩
theorem NumN.pos {n : Int} {l : List Int} (h : NumN n l) (h0 : l ≠ []) : 0 < n := by rw [<- h.2]; exact za5 (by omega) l h.1 h0
theorem NumN.nil_iff {n : Int} {l : List Int} (h : NumN n l) : l = [] ↔ n = 0 := by
  constructor
  . rintro rfl; exact h.2.symm
  . intro e; by_cases h0 : l = []
    . exact h0
    . have := h.pos h0; omega
theorem NumN.len0 {n : Int} {l : List Int} (h : NumN n l) : l.length = 0 ↔ n = 0 := by rw [<- h.nil_iff, List.length_eq_zero_iff]
theorem NumN.one {n : Int} (h : 0 < n) (h2 : n < 1000000000) : NumN n [n] := ⟨⟨fun d hd => by simp at hd; omega, by simp; omega⟩, by simp [valB]⟩
theorem zhj {B : Int} : ∀ n k (l : List Int), l.length = n -> n <= 8000000 -> n < k -> DigB B l -> ∃ t, z2b K k l = some t /\ CanB B t /\ valB B t = valB B l /\ t.length <= l.length := by
  intro n
  induction n with
  | zero =>
    intro k l hl _ hk hd
    obtain ⟨k, rfl⟩ : ∃ m, k = m + 1 := ⟨k - 1, by omega⟩
    have : l = [] := List.length_eq_zero_iff.1 hl
    subst this
    exact ⟨[], by rw [z2b]; simp [tu1], ⟨hd, by simp⟩, rfl, Nat.le_refl _⟩
  | succ n ih =>
    intro k l hl hb hk hd
    obtain ⟨k, rfl⟩ : ∃ m, k = m + 1 := ⟨k - 1, by omega⟩
    obtain ⟨r, d, rfl⟩ : ∃ r d, l = r ++ [d] := za7 l (by intro e; subst e; simp at hl)
    have hr : r.length = n := by simpa using hl
    have e1 : z04 .i64 (((r ++ [d]).length : Int) - 1) = (n : Int) := by rw [hl, kw (by omega) (by omega)]; omega
    have e2 : idx (r ++ [d]) (n : Int) = some d := z78 (by simp [<- hr])
    have e3 : lsl (r ++ [d]) 0 (n : Int) = some r := by
      unfold lsl
      rw [if_pos (by rw [hl]; omega)]
      simp [<- hr]
    have e4 : ((r ++ [d]).length : Int) > 0 := by rw [hl]; omega
    have dr : DigB B r := fun x hx => hd x (by simp [hx])
    rw [z2b, e1, e2, e3, decide_eq_true e4]
    by_cases h0 : d = 0
    . obtain ⟨t, h1, h2, h3, h4⟩ := ih k r hr (by omega) (by omega) dr
      refine ⟨t, by simp [h0, tu1, h1], h2, ?_, by simp; omega⟩
      rw [h3, z5u, h0]; simp [valB]
    . exact ⟨r ++ [d], by simp [h0, tu1], ⟨hd, by simpa using h0⟩, rfl, Nat.le_refl _⟩
theorem zaw {B : Int} {l : List Int} (hl : l.length <= 8000000) (hK : 2000000000 < K) (hd : DigB B l) : ∃ t, z1u K l = some t /\ CanB B t /\ valB B t = valB B l /\ t.length <= l.length := by
  obtain ⟨t, h1, h2⟩ := zhj (K := K) l.length K l rfl hl (by omega) hd
  exact ⟨t, by unfold z1u; rw [h1]; rfl, h2⟩
theorem zhk {x y : List Int} (hl : x.length = y.length) (hx : x.length <= 4000000) (hK : 2000000000 < K) (dx : DigB 1000000000 x) (dy : DigB 1000000000 y) :
    ∃ r : Int ⊕ Unit, z1m K x y K ((x.length : Int) - 1) = some r /\ r = (if valB 1000000000 x < valB 1000000000 y then .inl (-1) else if valB 1000000000 x = valB 1000000000 y then .inr () else .inl 1) := by
  have hdrop : ∀ (l : List Int) j, valB 1000000000 (l.drop j) = l.getD j 0 + 1000000000 * valB 1000000000 (l.drop (j + 1)) := fun l j => by
    by_cases h : j < l.length
    . rw [List.drop_eq_getElem_cons h, zAb, zAh h]; rfl
    . rw [List.drop_eq_nil_of_le (by omega), List.drop_eq_nil_of_le (by omega), zAb, List.getElem?_eq_none (by omega)]; rfl
  refine zd1 (fun k (s : Int) => z1m K x y k s) (fun s => ∃ j : Nat, s = (j : Int) - 1 /\ j <= x.length /\ valB 1000000000 (x.drop j) = valB 1000000000 (y.drop j)) (fun s => (s + 1).toNat) _ ?_ ((x.length : Int) - 1) (by omega) ⟨x.length, rfl, Nat.le_refl _, by rw [List.drop_eq_nil_of_le (Nat.le_refl _), List.drop_eq_nil_of_le (by omega)]⟩
  rintro k _ ⟨j, rfl, hj, he⟩
  by_cases h0 : j = 0
  . subst h0
    left
    rw [List.drop_zero, List.drop_zero] at he
    rw [z1m]
    refine ⟨.inr (), by simp (discharger := omega) only [decide_eq_true_eq, if_pos, if_neg, if_true, if_false, z0w, z1d, z1e, idxI, z6n, sslI, lslI, k64, ku64, ku32, ku8, i64w, u64w, u32w, u8w, z6o, z6r, tu0a, tu1a, tu2a, tu3a, tu4a, tu5a, lta, z2w, z2x, z6p, z6q, Int.toNat_natCast, List.length_cons, List.length_nil, List.length_set, Int.toNat_zero, List.replicate_zero], ?_⟩
    rw [if_neg (by omega), if_pos he]
  . obtain ⟨i, rfl⟩ : ∃ i, j = i + 1 := ⟨j - 1, by omega⟩
    have e1 : ((i + 1 : Nat) : Int) - 1 = i := by omega
    rw [e1]
    have ex := z39 (by omega) dx i
    have ey := z39 (by omega) dy i
    have sx := z8p 1000000000 x i (by omega)
    have sy := z8p 1000000000 y i (by omega)
    have ax := hdrop x i
    have ay := hdrop y i
    have bx := z5y (B := 1000000000) (by omega) _ (dx.take i)
    have by' := z5y (B := 1000000000) (by omega) _ (dy.take i)
    have cx := z1j (B := 1000000000) (by omega) _ (dx.take i)
    have cy := z1j (B := 1000000000) (by omega) _ (dy.take i)
    rw [List.length_take, Nat.min_eq_left (by omega)] at bx by'
    have p0 : 0 < (1000000000 : Int) ^ i := Int.pow_pos (by omega)
    rw [ax, he] at sx
    rw [ay] at sy
    by_cases h1 : x.getD i 0 < y.getD i 0
    . left
      refine ⟨.inl (-1), by rw [z1m]; simp (discharger := omega) only [decide_eq_true_eq, if_pos, if_neg, if_true, if_false, z0w, z1d, z1e, idxI, z6n, sslI, lslI, k64, ku64, ku32, ku8, i64w, u64w, u32w, u8w, z6o, z6r, tu0a, tu1a, tu2a, tu3a, tu4a, tu5a, lta, z2w, z2x, z6p, z6q, Int.toNat_natCast, List.length_cons, List.length_nil, List.length_set, Int.toNat_zero, List.replicate_zero], ?_⟩
      have := z3j (Int.le_of_lt p0) (show x.getD i 0 + 1 <= y.getD i 0 by omega)
      rw [if_pos (by grind)]
    . by_cases h2 : x.getD i 0 > y.getD i 0
      . left
        refine ⟨.inl 1, by rw [z1m]; simp (discharger := omega) only [decide_eq_true_eq, if_pos, if_neg, if_true, if_false, z0w, z1d, z1e, idxI, z6n, sslI, lslI, k64, ku64, ku32, ku8, i64w, u64w, u32w, u8w, z6o, z6r, tu0a, tu1a, tu2a, tu3a, tu4a, tu5a, lta, z2w, z2x, z6p, z6q, Int.toNat_natCast, List.length_cons, List.length_nil, List.length_set, Int.toNat_zero, List.replicate_zero], ?_⟩
        have := z3j (Int.le_of_lt p0) (show y.getD i 0 + 1 <= x.getD i 0 by omega)
        rw [if_neg (by grind), if_neg (by grind)]
      . right
        refine ⟨(i : Int) - 1, by rw [z1m]; simp (discharger := omega) only [decide_eq_true_eq, if_pos, if_neg, if_true, if_false, z0w, z1d, z1e, idxI, z6n, sslI, lslI, k64, ku64, ku32, ku8, i64w, u64w, u32w, u8w, z6o, z6r, tu0a, tu1a, tu2a, tu3a, tu4a, tu5a, lta, z2w, z2x, z6p, z6q, Int.toNat_natCast, List.length_cons, List.length_nil, List.length_set, Int.toNat_zero, List.replicate_zero], by omega, i, rfl, by omega, ?_⟩
        rw [ax, ay, he]
        omega
theorem zi7 {x y : List Int} {a b : Int} (hx : x.length <= 4000000) (hy : y.length <= 4000000) (hK : 2000000000 < K) (nx : NumN a x) (ny : NumN b y) : z3z K x y = some (if a < b then -1 else if a = b then 0 else 1) := by
  unfold z3z
  by_cases h : x.length = y.length
  . obtain ⟨r, h1, h2⟩ := zhk (K := K) h hx hK nx.1.1 ny.1.1
    rw [nx.2, ny.2] at h2
    have e : ((x.length : Int) != (y.length : Int)) = false := by simp; omega
    rw [e]
    rw [k64 (by omega) (by omega), h1, h2]
    simp only [Bool.false_eq_true, if_false, zbu, Option.bind_some]
    by_cases c1 : a < b
    . simp [c1, tu1]
    . by_cases c2 : a = b
      . subst c2; simp [tu0]
      . simp [c1, c2, tu1]
  . have e : ((x.length : Int) != (y.length : Int)) = true := by simp; omega
    rw [e, if_pos rfl]
    by_cases h1 : x.length < y.length
    . have := zg1 (B := 1000000000) (by omega) nx.1.1 ny.1 h1
      rw [nx.2, ny.2] at this
      simp (discharger := omega) only [decide_eq_true_eq, if_pos, if_neg, if_true, if_false, z0w, z1d, z1e, idxI, z6n, sslI, lslI, k64, ku64, ku32, ku8, i64w, u64w, u32w, u8w, z6o, z6r, tu0a, tu1a, tu2a, tu3a, tu4a, tu5a, lta, z2w, z2x, z6p, z6q, Int.toNat_natCast, List.length_cons, List.length_nil, List.length_set, Int.toNat_zero, List.replicate_zero]
    . have := zg1 (B := 1000000000) (by omega) ny.1.1 nx.1 (by omega)
      rw [nx.2, ny.2] at this
      simp (discharger := omega) only [decide_eq_true_eq, if_pos, if_neg, if_true, if_false, z0w, z1d, z1e, idxI, z6n, sslI, lslI, k64, ku64, ku32, ku8, i64w, u64w, u32w, u8w, z6o, z6r, tu0a, tu1a, tu2a, tu3a, tu4a, tu5a, lta, z2w, z2x, z6p, z6q, Int.toNat_natCast, List.length_cons, List.length_nil, List.length_set, Int.toNat_zero, List.replicate_zero]
end Go.Am.Tryd
/- Plain law: products of the program's numbers; division by one digit. -/
namespace Go.Am.Tryd
open Go Go.Am Go.Proofs
variable {K : Nat}
theorem zi8 {a b : Int} (ha : 0 <= a /\ a < 1000000000) (hb : 0 <= b /\ b < 1000000000) : 0 <= a * b /\ a * b <= 999999998000000001 := by
  refine ⟨Int.mul_nonneg ha.1 hb.1, ?_⟩
  have h1 := z3j ha.1 (show b <= 999999999 by omega)
  omega
theorem zk2 {y out : List Int} {u : Int} {i : Nat} (hl : i + y.length <= out.length) (ho : out.length <= 8000000) (hK : 2000000000 < K) (hu : 0 <= u /\ u < 1000000000) (dy : DigB 1000000000 y) (d0 : DigB 1000000000 out) :
    ∃ r : List Int × Int, z28 K y (i : Int) u K out 0 0 = some r /\ r.1.length = out.length /\ DigB 1000000000 r.1 /\ (0 <= r.2 /\ r.2 < 1000000000) /\ (∀ j, i + y.length <= j -> r.1.getD j 0 = out.getD j 0) ∧
      valB 1000000000 r.1 + 1000000000 ^ (i + y.length) * r.2 = valB 1000000000 out + 1000000000 ^ i * (u * valB 1000000000 y) := by
  refine zd1 (fun k (s : List Int × Int × Int) => z28 K y (i : Int) u k s.1 s.2.1 s.2.2) (fun s => ∃ q : Nat, s.2.2 = q /\ q <= y.length /\ s.1.length = out.length /\ DigB 1000000000 s.1 /\ (0 <= s.2.1 /\ s.2.1 < 1000000000) /\ (∀ j, i + q <= j -> s.1.getD j 0 = out.getD j 0) ∧
      valB 1000000000 s.1 + 1000000000 ^ (i + q) * s.2.1 = valB 1000000000 out + 1000000000 ^ i * (u * valB 1000000000 (y.take q))) (fun s => (y.length - s.2.2 : Int).toNat) _ ?_ ((out, 0, 0) : List Int × Int × Int) (by simp; omega) ⟨0, rfl, by omega, rfl, d0, by simp, fun _ _ => rfl, by simp [valB]⟩
  rintro k ⟨o, c, _⟩ ⟨q, rfl, h0, h1, h2, h3, hz, h4⟩
  dsimp only at h1 h2 h3 h4 hz ⊢
  by_cases hq : q < y.length
  . right
    have ey := z39 (by omega) dy q
    have eo := z39 (by omega) h2 (i + q)
    have ty := z5j 1000000000 y q
    have hm := zi8 hu ey
    have hset := fun d => z93 1000000000 o (i + q) d (by omega)
    have hgs := fun d j => za6 (cs := o) (i := i + q) (j := j) (v := d) (by omega)
    have e1 : ((i : Int) + (q : Int)) = ((i + q : Nat) : Int) := by omega
    generalize hw : u * y.getD q 0 = w at hm
    generalize ho : o.getD (i + q) 0 = z at eo hset
    have hdm := Int.emod_add_mul_ediv (w + z + c) 1000000000
    refine ⟨(o.set (i + q) ((w + z + c) % 1000000000), (w + z + c) / 1000000000, (q : Int) + 1), ?_, by dsimp only; omega, q + 1, rfl, by omega, by simp [h1], h2.set _ (by omega), by dsimp only; omega, fun j hj => by rw [hgs, if_neg (by omega)]; exact hz j (by omega), ?_⟩
    . rw [z28]
      simp (discharger := omega) only [decide_eq_true_eq, if_pos, if_neg, if_true, if_false, z0w, z1d, z1e, idxI, z6n, sslI, lslI, k64, ku64, ku32, ku8, i64w, u64w, u32w, u8w, z6o, z6r, tu0a, tu1a, tu2a, tu3a, tu4a, tu5a, lta, z2w, z2x, z6p, z6q, Int.toNat_natCast, List.length_cons, List.length_nil, List.length_set, Int.toNat_zero, List.replicate_zero, e1, hw, ho]
    . dsimp only
      rw [hset, ty]
      have e2 : (1000000000 : Int) ^ (i + (q + 1)) = 1000000000 ^ i * 1000000000 ^ q * 1000000000 := by rw [<- Nat.add_assoc, Int.pow_succ, Int.pow_add]
      rw [e2]
      rw [Int.pow_add] at h4 ⊢
      subst hw
      generalize (u * y.getD q 0 + z + c) / 1000000000 = Q at *
      generalize (u * y.getD q 0 + z + c) % 1000000000 = R at *
      grind
  . left
    have : q = y.length := by omega
    subst this
    rw [List.take_of_length_le (Nat.le_refl _)] at h4
    exact ⟨(o, c), by rw [z28]; simp (discharger := omega) only [decide_eq_true_eq, if_pos, if_neg, if_true, if_false, z0w, z1d, z1e, idxI, z6n, sslI, lslI, k64, ku64, ku32, ku8, i64w, u64w, u32w, u8w, z6o, z6r, tu0a, tu1a, tu2a, tu3a, tu4a, tu5a, lta, z2w, z2x, z6p, z6q, Int.toNat_natCast, List.length_cons, List.length_nil, List.length_set, Int.toNat_zero, List.replicate_zero], h1, h2, h3, hz, h4⟩
theorem zhl {x y : List Int} (hl : x.length + y.length <= 8000000) (hK : 2000000000 < K) (dx : DigB 1000000000 x) (dy : DigB 1000000000 y) :
    ∃ r : List Int, z29 K x y K (List.replicate (x.length + y.length) 0) 0 = some r /\ r.length = x.length + y.length /\ DigB 1000000000 r /\ valB 1000000000 r = valB 1000000000 x * valB 1000000000 y := by
  refine zd1 (fun k (s : List Int × Int) => z29 K x y k s.1 s.2) (fun s => ∃ i : Nat, s.2 = i /\ i <= x.length /\ s.1.length = x.length + y.length /\ DigB 1000000000 s.1 /\ (∀ j, i + y.length <= j -> s.1.getD j 0 = 0) /\ valB 1000000000 s.1 = valB 1000000000 (x.take i) * valB 1000000000 y) (fun s => (x.length - s.2 : Int).toNat) _ ?_ ((List.replicate (x.length + y.length) 0, 0) : List Int × Int) (by simp; omega) ⟨0, rfl, by omega, by simp, .zeros (by omega) _, fun j _ => by simp [zAb, List.getElem?_replicate]; split <;> rfl, by simp [valB, zcj]⟩
  rintro k ⟨out, _⟩ ⟨i, rfl, h0, h1, h2, hz, h4⟩
  dsimp only at h1 h2 h4 hz ⊢
  by_cases hi : i < x.length
  . right
    have ex := z39 (by omega) dx i
    have tx := z5j 1000000000 x i
    obtain ⟨⟨r, c⟩, r1, r2, r3, r4, r5, r6⟩ := zk2 (K := K) (y := y) (out := out) (u := x.getD i 0) (i := i) (by omega) (by omega) hK ex dy h2
    dsimp only at r2 r3 r4 r5 r6
    have hz0 := r5 (i + y.length) (Nat.le_refl _)
    rw [hz _ (Nat.le_refl _)] at hz0
    have hset := z93 1000000000 r (i + y.length) c (by omega)
    have hgs := fun d j => za6 (cs := r) (i := i + y.length) (j := j) (v := d) (by omega)
    have e1 : ((i : Int) + (y.length : Int)) = ((i + y.length : Nat) : Int) := by omega
    refine ⟨(r.set (i + y.length) c, (i : Int) + 1), ?_, by dsimp only; omega, i + 1, rfl, by omega, by simp [r2, h1], r3.set _ r4, fun j hj => by rw [hgs, if_neg (by omega), r5 j (by omega)]; exact hz j (by omega), ?_⟩
    . rw [z29]
      simp (discharger := omega) only [decide_eq_true_eq, if_pos, if_neg, if_true, if_false, z0w, z1d, z1e, idxI, z6n, sslI, lslI, k64, ku64, ku32, ku8, i64w, u64w, u32w, u8w, z6o, z6r, tu0a, tu1a, tu2a, tu3a, tu4a, tu5a, lta, z2w, z2x, z6p, z6q, Int.toNat_natCast, List.length_cons, List.length_nil, List.length_set, Int.toNat_zero, List.replicate_zero, r1, e1]
    . dsimp only
      rw [hset, hz0, tx]
      grind
  . left
    have : i = x.length := by omega
    subst this
    rw [List.take_of_length_le (Nat.le_refl _)] at h4
    exact ⟨out, by rw [z29]; simp (discharger := omega) only [decide_eq_true_eq, if_pos, if_neg, if_true, if_false, z0w, z1d, z1e, idxI, z6n, sslI, lslI, k64, ku64, ku32, ku8, i64w, u64w, u32w, u8w, z6o, z6r, tu0a, tu1a, tu2a, tu3a, tu4a, tu5a, lta, z2w, z2x, z6p, z6q, Int.toNat_natCast, List.length_cons, List.length_nil, List.length_set, Int.toNat_zero, List.replicate_zero], h1, h2, h4⟩
theorem zi9 {x y : List Int} {a b : Int} (hl : x.length + y.length <= 8000000) (hK : 2000000000 < K) (nx : NumN a x) (ny : NumN b y) : ∃ z, z2j K x y = some z /\ NumN (a * b) z /\ z.length <= x.length + y.length := by
  obtain ⟨r, h1, h2, h3, h4⟩ := zhl hl hK nx.1.1 ny.1.1
  rw [nx.2, ny.2] at h4
  obtain ⟨t, t1, t2, t3, t4⟩ := zaw (K := K) (B := 1000000000) (l := r) (by omega) hK h3
  refine ⟨t, ?_, ⟨t2, by rw [t3, h4]⟩, by omega⟩
  unfold z2j
  have e1 : ((x.length : Int) + (y.length : Int)) = ((x.length + y.length : Nat) : Int) := by omega
  simp (discharger := omega) only [decide_eq_true_eq, if_pos, if_neg, if_true, if_false, z0w, z1d, z1e, idxI, z6n, sslI, lslI, k64, ku64, ku32, ku8, i64w, u64w, u32w, u8w, z6o, z6r, tu0a, tu1a, tu2a, tu3a, tu4a, tu5a, lta, z2w, z2x, z6p, z6q, Int.toNat_natCast, List.length_cons, List.length_nil, List.length_set, Int.toNat_zero, List.replicate_zero, h1, t1, e1]
theorem zg3 (l : List Int) (j : Nat) : valB 1000000000 (l.drop j) = l.getD j 0 + 1000000000 * valB 1000000000 (l.drop (j + 1)) := by
  by_cases h : j < l.length
  . rw [List.drop_eq_getElem_cons h, zAb, zAh h]; rfl
  . rw [List.drop_eq_nil_of_le (by omega), List.drop_eq_nil_of_le (by omega), zAb, List.getElem?_eq_none (by omega)]; rfl
theorem zef {x : List Int} {d : Int} (hl : x.length <= 8000000) (hK : 2000000000 < K) (dx : DigB 1000000000 x) (hd : 1 <= d /\ d <= 1000000000) :
    ∃ r : List Int × Int, z1q K x d K (List.replicate x.length 0) 0 ((x.length : Int) - 1) = some r /\ r.1.length = x.length /\ DigB 1000000000 r.1 /\ (0 <= r.2 /\ r.2 < d) /\ valB 1000000000 x = d * valB 1000000000 r.1 + r.2 := by
  refine zd1 (fun k (s : List Int × Int × Int) => z1q K x d k s.1 s.2.1 s.2.2) (fun s => ∃ j : Nat, s.2.2 = (j : Int) - 1 /\ j <= x.length /\ s.1.length = x.length /\ DigB 1000000000 s.1 /\ (0 <= s.2.1 /\ s.2.1 < d) /\ valB 1000000000 (x.drop j) = d * valB 1000000000 (s.1.drop j) + s.2.1) (fun s => (s.2.2 + 1).toNat) _ ?_ ((List.replicate x.length 0, 0, (x.length : Int) - 1) : List Int × Int × Int) (by dsimp only; omega) ⟨x.length, rfl, Nat.le_refl _, by simp, .zeros (by omega) _, by dsimp only; omega, by simp [valB]⟩
  rintro k ⟨out, c, _⟩ ⟨j, rfl, hj, h1, h2, h3, h4⟩
  dsimp only at h1 h2 h3 h4 ⊢
  by_cases h0 : j = 0
  . left
    subst h0
    rw [List.drop_zero, List.drop_zero] at h4
    exact ⟨(out, c), by rw [z1q]; simp (discharger := omega) only [decide_eq_true_eq, if_pos, if_neg, if_true, if_false, z0w, z1d, z1e, idxI, z6n, sslI, lslI, k64, ku64, ku32, ku8, i64w, u64w, u32w, u8w, z6o, z6r, tu0a, tu1a, tu2a, tu3a, tu4a, tu5a, lta, z2w, z2x, z6p, z6q, Int.toNat_natCast, List.length_cons, List.length_nil, List.length_set, Int.toNat_zero, List.replicate_zero], h1, h2, h3, h4⟩
  . right
    obtain ⟨i, rfl⟩ : ∃ i, j = i + 1 := ⟨j - 1, by omega⟩
    have e1 : ((i + 1 : Nat) : Int) - 1 = i := by omega
    rw [e1]
    have ex := z39 (by omega) dx i
    have ax := zg3 x i
    generalize hu : x.getD i 0 = u at ex ax
    have hq0 : 0 <= (c * 1000000000 + u) / d := Int.ediv_nonneg (by omega) (by omega)
    have hqB : (c * 1000000000 + u) / d < 1000000000 := Int.ediv_lt_of_lt_mul (by omega) (by omega)
    have hr0 : 0 <= (c * 1000000000 + u) % d := Int.emod_nonneg _ (by omega)
    have hrd : (c * 1000000000 + u) % d < d := Int.emod_lt_of_pos _ (by omega)
    have hdm := Int.emod_add_mul_ediv (c * 1000000000 + u) d
    refine ⟨(out.set i ((c * 1000000000 + u) / d), (c * 1000000000 + u) % d, (i : Int) - 1), ?_, by dsimp only; omega, i, rfl, by omega, by simp [h1], h2.set _ ⟨hq0, hqB⟩, ⟨hr0, hrd⟩, ?_⟩
    . rw [z1q]
      have hd' : d ≠ 0 := by omega
      simp (discharger := omega) only [decide_eq_true_eq, if_pos, if_neg, if_true, if_false, z0w, z1d, z1e, idxI, z6n, sslI, lslI, k64, ku64, ku32, ku8, i64w, u64w, u32w, u8w, z6o, z6r, tu0a, tu1a, tu2a, tu3a, tu4a, tu5a, lta, z2w, z2x, z6p, z6q, Int.toNat_natCast, List.length_cons, List.length_nil, List.length_set, Int.toNat_zero, List.replicate_zero, hu]
    . dsimp only
      rw [zg3 (out.set i _) i, List.drop_set_of_lt (by omega), za6 (by omega), if_pos rfl, ax, h4]
      generalize (c * 1000000000 + u) / d = Q at *
      generalize (c * 1000000000 + u) % d = R at *
      grind
theorem zhm {d : Int} (hd : 0 <= d /\ d < 1000000000) (hK : 2000000000 < K) : ∃ z, z1u K [d] = some z /\ NumN d z /\ z.length <= 1 := by
  obtain ⟨t, t1, t2, t3, t4⟩ := zaw (K := K) (B := 1000000000) (l := [d]) (by simp) hK (fun x hx => by simp at hx; omega)
  exact ⟨t, t1, ⟨t2, by rw [t3]; simp [valB]⟩, by simpa using t4⟩
theorem za9 {n d q r : Int} (hd : 0 < d) (h : n = d * q + r) (h0 : 0 <= r) (h1 : r < d) : q = n / d /\ r = n % d := by
  have e1 : n / d = q := by
    rw [h, Int.add_comm, Int.add_mul_ediv_left _ _ (by omega), Int.ediv_eq_zero_of_lt h0 h1]; omega
  refine ⟨e1.symm, ?_⟩
  have := Int.emod_add_mul_ediv n d
  rw [e1] at this
  omega
theorem zdn {x : List Int} {a d : Int} (hl : x.length <= 8000000) (hK : 2000000000 < K) (nx : NumN a x) (hd : 1 <= d /\ d <= 1000000000) : ∃ q r, z40 K x d = some (q, r) /\ NumN (a / d) q /\ NumN (a % d) r /\ q.length <= x.length /\ r.length <= 1 := by
  obtain ⟨⟨o, c⟩, h1, h2, h3, h4, h5⟩ := zef hl hK nx.1.1 hd
  dsimp only at h2 h3 h4 h5
  rw [nx.2] at h5
  obtain ⟨e1, e2⟩ := za9 (by omega) h5 h4.1 h4.2
  obtain ⟨t, t1, t2, t3, t4⟩ := zaw (K := K) (B := 1000000000) (l := o) (by omega) hK h3
  obtain ⟨z, z1, z2, z3⟩ := zhm (K := K) (d := c) (by omega) hK
  refine ⟨t, z, ?_, ⟨t2, by rw [t3, e1]⟩, by rw [<- e2]; exact z2, by omega, z3⟩
  unfold z40
  simp (discharger := omega) only [decide_eq_true_eq, if_pos, if_neg, if_true, if_false, z0w, z1d, z1e, idxI, z6n, sslI, lslI, k64, ku64, ku32, ku8, i64w, u64w, u32w, u8w, z6o, z6r, tu0a, tu1a, tu2a, tu3a, tu4a, tu5a, lta, z2w, z2x, z6p, z6q, Int.toNat_natCast, List.length_cons, List.length_nil, List.length_set, Int.toNat_zero, List.replicate_zero, h1, t1, z1]
end Go.Am.Tryd
/- Plain law: texts and the program's numbers: Read and Text. -/
namespace Go.Am.Tryd
open Go Go.Am Go.Proofs
variable {K : Nat}
def numB (l : List Int) : Int := valB 10 ((l.map (· - 48)).reverse)
theorem zhn (s : zAd) : numT s = numB (z06 s) := rfl
theorem zbr : numB [] = 0 := rfl
theorem z9m (l : List Int) (c : Int) : numB (l ++ [c]) = numB l * 10 + (c - 48) := by
  unfold numB
  simp [valB]
  omega
theorem zg4 (l m : List Int) : numB (l ++ m) = numB m + 10 ^ m.length * numB l := by
  unfold numB
  rw [List.map_append, List.reverse_append, z5u]
  simp
theorem zdo (c : Int) (l : List Int) : numB (c :: l) = numB l + 10 ^ l.length * (c - 48) := by
  have := zg4 [c] l
  simpa [numB, valB] using this
theorem zg5 {l : List Int} (h : l.all digT = true) : DigB 10 ((l.map (· - 48)).reverse) := by
  intro d hd
  rw [List.mem_reverse, List.mem_map] at hd
  obtain ⟨c, hc, rfl⟩ := hd
  have := List.all_eq_true.1 h c hc
  simp only [digT, Bool.and_eq_true, decide_eq_true_eq] at this
  omega
theorem z6a {l : List Int} (h : l.all digT = true) : 0 <= numB l := z1j (by omega) _ (zg5 h)
theorem zax {l : List Int} (h : l.all digT = true) : numB l < 10 ^ l.length := by
  have := z5y (B := 10) (by omega) _ (zg5 h)
  simpa [numB] using this
theorem digT_iff {c : Int} : digT c = true ↔ 48 <= c /\ c <= 57 := by simp [digT]
theorem zaa {l : List Int} (h : l.all digT = true) (k : Nat) : (l.take k).all digT = true := List.all_eq_true.2 fun x hx => List.all_eq_true.1 h x (List.mem_of_mem_take hx)
theorem zj4 {l : List Int} (h : l.all digT = true) (k : Nat) : (l.drop k).all digT = true := List.all_eq_true.2 fun x hx => List.all_eq_true.1 h x (List.mem_of_mem_drop hx)
theorem zdp {l : List Int} {i : Nat} (h : i < l.length) : l.take (i + 1) = l.take i ++ [l.getD i 0] := by
  rw [List.take_add_one, zAh h, zAb, zAh h]; rfl
theorem zdq {l : List Int} (h : l.all digT = true) {i : Nat} (hi : i < l.length) : 48 <= l.getD i 0 /\ l.getD i 0 <= 57 := by
  rw [zAb, zAh hi]
  exact digT_iff.1 (List.all_eq_true.1 h _ (List.getElem_mem hi))
theorem zho {t : zAd} (ht : t.size <= 9) (hK : 2000000000 < K) (hd : (z06 t).all digT = true) : z27 K t K 0 0 = some (numT t) := by
  suffices h : ∃ r, z27 K t K 0 0 = some r /\ r = numT t by obtain ⟨r, h1, rfl⟩ := h; exact h1
  have hn := z03 t
  refine zd1 (fun k (s : Int × Int) => z27 K t k s.1 s.2) (fun s => ∃ i : Nat, s.2 = i /\ i <= t.size /\ s.1 = numB ((z06 t).take i)) (fun s => (t.size - s.2 : Int).toNat) _ ?_ ((0, 0) : Int × Int) (by simp; omega) ⟨0, rfl, by omega, by simp [zbr]⟩
  rintro k ⟨_, _⟩ ⟨i, rfl, h0, rfl⟩
  dsimp only
  by_cases hi : i < t.size
  . right
    have b1 := z6a (zaa hd i)
    have b2 := zax (zaa hd i)
    have b3 : (10 : Int) ^ (List.take i (z06 t)).length <= 10 ^ 8 := by
      rw [List.length_take, hn, Nat.min_eq_left (by omega)]
      exact za8 (by omega) (by omega)
    have hc := zdq hd (i := i) (by omega)
    have hs := zdp (l := z06 t) (i := i) (by omega)
    have b4 : (10 : Int) ^ 8 = 100000000 := by decide
    refine ⟨(numB ((z06 t).take (i + 1)), (i : Int) + 1), ?_, by dsimp only; omega, i + 1, rfl, by omega, rfl⟩
    rw [z27, hs, z9m]
    generalize numB ((z06 t).take i) = d at *
    rw [hn]
    have hi' : (i : Int) < ((z06 t).length : Int) := by omega
    simp (discharger := omega) only [decide_eq_true_eq, if_pos, if_neg, if_true, if_false, z0w, z1d, z1e, idxI, z6n, sslI, lslI, k64, ku64, ku32, ku8, i64w, u64w, u32w, u8w, z6o, z6r, tu0a, tu1a, tu2a, tu3a, tu4a, tu5a, lta, z2w, z2x, z6p, z6q, Int.toNat_natCast, List.length_cons, List.length_nil, List.length_set, Int.toNat_zero, List.replicate_zero]
  . left
    have : i = t.size := by omega
    subst this
    refine ⟨numB ((z06 t).take t.size), by rw [z27, hn]; simp (discharger := omega) only [decide_eq_true_eq, if_pos, if_neg, if_true, if_false, z0w, z1d, z1e, idxI, z6n, sslI, lslI, k64, ku64, ku32, ku8, i64w, u64w, u32w, u8w, z6o, z6r, tu0a, tu1a, tu2a, tu3a, tu4a, tu5a, lta, z2w, z2x, z6p, z6q, Int.toNat_natCast, List.length_cons, List.length_nil, List.length_set, Int.toNat_zero, List.replicate_zero], ?_⟩
    rw [List.take_of_length_le (by omega)]
    rfl
theorem zhp {s : zAd} (hs : s.size <= 8000000) (hK : 2000000000 < K) (hd : (z06 s).all digT = true) :
    ∃ r : List Int, z2n K s K [] (s.size : Int) = some r /\ 9 * r.length < s.size + 9 /\ DigB 1000000000 r /\ valB 1000000000 r = numT s := by
  have hn := z03 s
  refine zd1 (fun k (q : List Int × Int) => z2n K s k q.1 q.2) (fun q => q.2 = (s.size : Int) - 9 * q.1.length /\ 9 * q.1.length < s.size + 9 /\ DigB 1000000000 q.1 /\ valB 1000000000 q.1 + 1000000000 ^ q.1.length * numB ((z06 s).take q.2.toNat) = numT s) (fun q => (q.2 + 9).toNat) _ ?_ (([], (s.size : Int)) : List Int × Int) (by dsimp only; omega) ⟨by simp, by simp, .nil _, by simp [valB]; rw [List.take_of_length_le (by omega)]; rfl⟩
  rintro k ⟨out, e⟩ ⟨h1, h2, h3, h4⟩
  dsimp only at h1 h2 h3 h4 ⊢
  by_cases he : e > 0
  . right
    obtain ⟨lo, hlo, hm⟩ : ∃ lo : Nat, imax 0 (z04 .i64 (e - 9)) = lo /\ ((lo : Int) = e - 9 \/ ((lo = 0) /\ e < 9)) := by
      rw [k64 (by omega) (by omega)]
      unfold imax
      by_cases h9 : e - 9 > 0
      . exact ⟨(e - 9).toNat, by rw [if_pos h9]; omega, .inl (by omega)⟩
      . exact ⟨0, by rw [if_neg h9]; rfl, by omega⟩
    have hb : z06 (s.extract lo e.toNat) = ((z06 s).drop lo).take (e.toNat - lo) := z2d _ _ _
    have hsz : (s.extract lo e.toNat).size = e.toNat - lo := by rw [<- z03, hb, List.length_take, List.length_drop]; omega
    have hdp : (z06 (s.extract lo e.toNat)).all digT = true := by rw [hb]; exact zaa (zj4 hd _) _
    have hp := zho (K := K) (t := s.extract lo e.toNat) (by omega) hK hdp
    have hv0 := z6a hdp
    have hv1 := zax hdp
    have hsplit : (z06 s).take e.toNat = (z06 s).take lo ++ z06 (s.extract lo e.toNat) := by
      rw [hb, show e.toNat = lo + (e.toNat - lo) by omega, List.take_add]; simp
    have hlen : (z06 (s.extract lo e.toNat)).length = e.toNat - lo := by rw [z03]; exact hsz
    have hBv : numB (z06 (s.extract lo e.toNat)) < 1000000000 := by
      have : (10 : Int) ^ (z06 (s.extract lo e.toNat)).length <= 10 ^ 9 := za8 (by omega) (by omega)
      have e9 : (10 : Int) ^ 9 = 1000000000 := by decide
      omega
    refine ⟨(out ++ [numT (s.extract lo e.toNat)], e - 9), ?_, by dsimp only; omega, by simp; omega, by simp; omega, h3.snoc ⟨hv0, hBv⟩, ?_⟩
    . rw [z2n, hlo]
      simp (discharger := omega) only [decide_eq_true_eq, if_pos, if_neg, if_true, if_false, z0w, z1d, z1e, idxI, z6n, sslI, lslI, k64, ku64, ku32, ku8, i64w, u64w, u32w, u8w, z6o, z6r, tu0a, tu1a, tu2a, tu3a, tu4a, tu5a, lta, z2w, z2x, z6p, z6q, Int.toNat_natCast, List.length_cons, List.length_nil, List.length_set, Int.toNat_zero, List.replicate_zero, hp]
    . dsimp only
      rw [zbq, List.length_append, List.length_singleton, Int.pow_succ, zhn]
      rw [hsplit, zg4, hlen] at h4
      rcases hm with hm | ⟨hm, h9⟩
      . have e9 : e.toNat - lo = 9 := by omega
        have e10 : (10 : Int) ^ 9 = 1000000000 := by decide
        have el : (e - 9).toNat = lo := by omega
        rw [e9, e10] at h4
        rw [el]
        grind
      . subst hm
        have el : (e - 9).toNat = 0 := by omega
        rw [el, List.take_zero, zbr] at *
        grind
  . left
    have el : e.toNat = 0 := by omega
    rw [el, List.take_zero, zbr] at h4
    exact ⟨out, by rw [z2n]; simp (discharger := omega) only [decide_eq_true_eq, if_pos, if_neg, if_true, if_false, z0w, z1d, z1e, idxI, z6n, sslI, lslI, k64, ku64, ku32, ku8, i64w, u64w, u32w, u8w, z6o, z6r, tu0a, tu1a, tu2a, tu3a, tu4a, tu5a, lta, z2w, z2x, z6p, z6q, Int.toNat_natCast, List.length_cons, List.length_nil, List.length_set, Int.toNat_zero, List.replicate_zero], h2, h3, by omega⟩
theorem zan {s : zAd} (hs : s.size <= 8000000) (hK : 2000000000 < K) (hd : (z06 s).all digT = true) : ∃ z, z56 K s = some z /\ NumN (numT s) z /\ 9 * z.length < s.size + 9 := by
  obtain ⟨r, h1, h2, h3, h4⟩ := zhp hs hK hd
  obtain ⟨t, t1, t2, t3, t4⟩ := zaw (K := K) (B := 1000000000) (l := r) (by omega) hK h3
  exact ⟨t, by unfold z56; simp (discharger := omega) only [decide_eq_true_eq, if_pos, if_neg, if_true, if_false, z0w, z1d, z1e, idxI, z6n, sslI, lslI, k64, ku64, ku32, ku8, i64w, u64w, u32w, u8w, z6o, z6r, tu0a, tu1a, tu2a, tu3a, tu4a, tu5a, lta, z2w, z2x, z6p, z6q, Int.toNat_natCast, List.length_cons, List.length_nil, List.length_set, Int.toNat_zero, List.replicate_zero, h1, t1], ⟨t2, by rw [t3, h4]⟩, by omega⟩
end Go.Am.Tryd
/- Plain law: the reference's texts of digits. -/
namespace Go.Am.Tryd
open Go Go.Am Go.Proofs
variable {K : Nat}
theorem zhq {s : zAd} {c : Int} {l : List Int} (h : z06 s = c :: l) : bidx s 0 = some c := by rw [za4, h]; rfl
theorem zg6 : ∀ n k (s : zAd), s.size = n -> n < k -> 0 < n -> (z06 s).all digT = true -> ∃ t, z4n K k s = some t /\ CanT t /\ numT t = numT s := by
  intro n
  induction n with
  | zero => intro k s _ _ h; omega
  | succ n ih =>
    intro k s hs hk _ hd
    obtain ⟨k, rfl⟩ : ∃ m, k = m + 1 := ⟨k - 1, by omega⟩
    have hn := z03 s
    cases hb : z06 s with
    | nil => rw [hb] at hn; simp at hn; omega
    | cons c l =>
      rw [z4n, zhq hb]
      by_cases h1 : (s.size : Int) > 1
      . by_cases h2 : c = 48
        . obtain ⟨t, h3, h4, h5⟩ := zd0 hb
          have hl : l.length = n := by rw [hb] at hn; simp at hn; omega
          obtain ⟨r, h6, h7, h8⟩ := ih k t (by omega) (by omega) (by omega) (by rw [h4]; rw [hb] at hd; simp only [List.all_cons, Bool.and_eq_true] at hd; exact hd.2)
          refine ⟨r, ?_, h7, ?_⟩
          . simp [h1, h2, h3, h6, tu1]
          . rw [h8, zhi (s := s) (t := t) (c := c) (by rw [hb, h4]), h2]; simp
        . refine ⟨s, by simp [h1, h2, tu1], ⟨by omega, hd, fun e => ?_⟩, rfl⟩
          rw [hb] at e; simp at e; exact absurd e h2
      . exact ⟨s, by simp [h1, tu1], ⟨by omega, hd, fun e => by omega⟩, rfl⟩
theorem z9n {s : zAd} (hs : s.size <= 1048576) (h0 : 0 < s.size) (hK : s.size < K) (hd : (z06 s).all digT = true) : ∃ t, z5x K s = some t /\ CanT t /\ numT t = numT s := by
  obtain ⟨t, h1, h2⟩ := zg6 (K := K) s.size K s rfl hK h0 hd
  exact ⟨t, by unfold z5x; rw [h1]; rfl, h2⟩
theorem zdr {s : zAd} (hs : s.size <= 1048576) (hd : (z06 s).all digT = true) (k : Nat) (hk : k <= 1048577) : z7j K s k = some ((z8o s).getD k 0) := by
  have hn := z03 s
  unfold z7j
  by_cases h : k < s.size
  . have h' : ((k : Int) < (s.size : Int)) := by omega
    have hi : s.size - 1 - k < (z06 s).length := by omega
    have e1 : z04 .i64 (z04 .i64 ((s.size : Int) - 1) - (k : Int)) = ((s.size - 1 - k : Nat) : Int) := by
      rw [kw (a := (s.size : Int) - 1) (by omega) (by omega), kw (by omega) (by omega)]; omega
    have hx : (z06 s)[s.size - 1 - k]? = some (z06 s)[s.size - 1 - k] := zAh hi
    have hc := List.all_eq_true.1 hd _ (List.getElem_mem hi)
    simp only [digT, Bool.and_eq_true, decide_eq_true_eq] at hc
    rw [decide_eq_true h', if_pos rfl, e1, za4, z78 hx]
    have hg : (z8o s).getD k 0 = (z06 s)[s.size - 1 - k] - 48 := by
      unfold z8o
      rw [zAb, List.getElem?_reverse (by simp; omega), List.length_map, hn, List.getElem?_map, hx]
      rfl
    rw [hg]
    generalize (z06 s)[s.size - 1 - k] = c at hc
    have e2 : z04 .u8 (c - 48) = c - 48 := z63 (by simp [z89]; omega)
    have e3 : IntKind.wrap .i64 (c - 48) = c - 48 := by rw [<- z6u]; exact kw (by omega) (by omega)
    simp [e2, e3]
  . have h' : ¬ ((k : Int) < (s.size : Int)) := by omega
    rw [decide_eq_false h', if_neg (by simp)]
    congr 1
    rw [zAb, List.getElem?_eq_none (by rw [z7k]; omega)]
    rfl
theorem zll {x : Int} (h : 0 <= x) (h' : x <= 255) : z04 .u8 x = x := z63 (by simp [z89]; omega)
theorem zhr {l : List Int} (hl : l.length <= 1048577) (hK : l.length < K) (hd : DigB 10 l) : z2k K l K (List.replicate l.length 0) 0 = some (l.map (48 + ·)).reverse := by
  suffices h : ∃ r, z2k K l K (List.replicate l.length 0) 0 = some r /\ r = (l.map (48 + ·)).reverse by
    obtain ⟨r, h1, rfl⟩ := h; exact h1
  refine zfz (S := List Int) l.length (fun k s i => z2k K l k s i) (fun b i => b.length = l.length /\ ∀ j < l.length, b.getD j 0 = if l.length - 1 - j < i then 48 + l.getD (l.length - 1 - j) 0 else 0) _ ?_ ?_ K _ hK ⟨by simp, fun j hj => by simp [zAb, hj]⟩
  . rintro k b i hi ⟨hb, hj⟩
    right
    have hp : l.length - 1 - i < b.length := by omega
    have e1 : z04 .i64 (z04 .i64 ((l.length : Int) - 1) - (i : Int)) = ((l.length - 1 - i : Nat) : Int) := by
      rw [kw (a := (l.length : Int) - 1) (by omega) (by omega), kw (by omega) (by omega)]; omega
    have hx := hd (l.getD i 0) (by rw [zAb, zAh hi]; simp)
    have e2 : IntKind.wrap .u8 (z04 .i64 (48 + l.getD i 0)) = 48 + l.getD i 0 := by
      rw [kw (a := 48 + l.getD i 0) (by omega) (by omega), <- z6u]; exact zll (by omega) (by omega)
    refine ⟨b.set (l.length - 1 - i) (48 + l.getD i 0), ⟨by simp [hb], fun j hjl => ?_⟩, ?_⟩
    . have hg : (b.set (l.length - 1 - i) (48 + l.getD i 0)).getD j 0 = if j = l.length - 1 - i then 48 + l.getD i 0 else b.getD j 0 := za6 hp
      rw [hg, hj j hjl]
      by_cases e : j = l.length - 1 - i
      . have e3 : l.length - 1 - j = i := by omega
        rw [if_pos e, e3, if_pos (zAg i)]
      . rw [if_neg e]
        by_cases e3 : l.length - 1 - j < i
        . rw [if_pos e3, if_pos (by omega)]
        . rw [if_neg e3, if_neg (by omega)]
    . show z2k K l (k + 1) b i = _
      rw [z2k, zhh hi, if_pos rfl, zg0 hi]
      simp only [Option.bind_some, e1, zg0 hp, e2, Int.toNat_natCast, kw1 hi (by omega)]
  . rintro k b i rfl ⟨hb, hj⟩
    refine ⟨b, ?_, ?_⟩
    . show z2k K l (k + 1) b l.length = _
      rw [z2k, zdk (Nat.le_refl _)]; simp
    . apply List.ext_getElem (by simp [hb])
      intro j h1 h2
      have h3 := hj j (by omega)
      rw [if_pos (by omega), zAb, zAh h1, zAb, zAh (show l.length - 1 - j < l.length by omega)] at h3
      simp at h3
      simp [h3]
theorem zj5 {l : List Int} (hl : l.length <= 1048575) (h0 : l ≠ []) (hK : l.length + 1 < K) (hd : DigB 10 l) : ∃ t, za2 K l = some t /\ CanT t /\ numT t = valB 10 l := by
  have hlen : 0 < l.length := by cases l with | nil => exact absurd rfl h0 | cons _ _ => simp
  have hrange : ∀ x ∈ (l.map (48 + ·)).reverse, 0 <= x /\ x <= 255 := fun x hx => by
    rw [List.mem_reverse, List.mem_map] at hx
    obtain ⟨d, h1, rfl⟩ := hx
    have := hd d h1
    omega
  have hb := zee _ hrange
  have hz : z06 ((⟨#[48]⟩ : zAd) ++ strOfNums (l.map (48 + ·)).reverse) = 48 :: (l.map (48 + ·)).reverse := by
    rw [z5i, hb]; rfl
  have hsz : ((⟨#[48]⟩ : zAd) ++ strOfNums (l.map (48 + ·)).reverse).size = l.length + 1 := by
    rw [<- z03, hz]; simp
  have hdg : (z06 ((⟨#[48]⟩ : zAd) ++ strOfNums (l.map (48 + ·)).reverse)).all digT = true := by
    rw [hz, List.all_eq_true]
    intro x hx
    rcases List.mem_cons.1 hx with rfl | hx
    . rfl
    . rw [List.mem_reverse, List.mem_map] at hx
      obtain ⟨d, h1, rfl⟩ := hx
      have := hd d h1
      simp [digT]; omega
  obtain ⟨t, h1, h2, h3⟩ := z9n (K := K) (s := (⟨#[48]⟩ : zAd) ++ strOfNums (l.map (48 + ·)).reverse) (by omega) (by omega) (by omega) hdg
  refine ⟨t, ?_, h2, ?_⟩
  . unfold za2
    rw [if_pos (by omega), Int.toNat_natCast, zhr (by omega) (by omega) hd]
    have e1 : (⟨#[48]⟩ : zAd).size = 1 := rfl
    simp only [Option.bind_some, tu1, List.length_reverse, List.length_map, strOfNums_size, e1]
    rw [if_pos hlen, if_pos (by omega), h1]
    rfl
  . rw [h3]
    unfold numT z8o
    rw [hz, List.map_cons, List.reverse_cons, z5u, List.map_reverse, List.reverse_reverse, List.map_map]
    have : l.map ((fun x => x - 48) ∘ (fun x => 48 + x)) = l := by
      conv => rhs; rw [<- List.map_id l]
      apply List.map_congr_left
      intro x _
      show 48 + x - 48 = x
      omega
    rw [this]
    simp [valB]
end Go.Am.Tryd
/- Plain law: the reference's sum and difference of texts. -/
namespace Go.Am.Tryd
open Go Go.Am Go.Proofs
variable {K : Nat}
theorem zg7 (B : Int) (x : List Int) (k : Nat) : valB B (x.take (k + 1)) = valB B (x.take k) + B ^ k * x.getD k 0 := by
  by_cases h : k < x.length
  . have hx : x[k]? = some x[k] := zAh h
    rw [List.take_add_one, hx, z5u, List.length_take, Nat.min_eq_left (by omega), zAb, hx]
    simp [valB]
  . rw [List.take_of_length_le (by omega), List.take_of_length_le (by omega), zAb, List.getElem?_eq_none (by omega)]
    simp
theorem zk3 {B : Int} (hB : 0 < B) {x : List Int} (h : DigB B x) (k : Nat) : 0 <= x.getD k 0 /\ x.getD k 0 < B := by
  by_cases hk : k < x.length
  . rw [zAb, zAh hk]
    exact h _ (List.getElem_mem hk)
  . rw [zAb, List.getElem?_eq_none (by omega)]
    simp [hB]
theorem zk4 {a b : zAd} (ha : a.size <= 1000000) (hb : b.size <= a.size) (h0 : 0 < a.size) (hK : 1048580 < K) (da : (z06 a).all digT = true) (db : (z06 b).all digT = true) (hle : numT b <= numT a) : ∃ t, z75 K a b = some t /\ CanT t /\ numT t = numT a - numT b := by
  have dx := zbo da
  have dy := zbo db
  have lx := z7k a
  have ly := z7k b
  have key : ∃ r, z21 K a b K [] 0 0 = some r /\ r ≠ [] /\ r.length <= 1048575 /\ DigB 10 r /\ valB 10 r = numT a - numT b := by
    refine zfz (S := List Int × Int) a.size (fun k s i => z21 K a b k s.1 s.2 i) (fun s i => s.1.length = i /\ DigB 10 s.1 /\ (0 <= s.2 /\ s.2 <= 1) /\ valB 10 s.1 + valB 10 ((z8o b).take i) = valB 10 ((z8o a).take i) + 10 ^ i * s.2) _ ?_ ?_ K ([], 0) (by omega) ⟨rfl, DigB.nil 10, ⟨by omega, by omega⟩, by simp [valB]⟩
    . rintro k ⟨out, c⟩ i hi ⟨h1, h2, h3, h4⟩
      simp only at h1 h2 h3 h4
      right
      have ex := zk3 (by omega) dx i
      have ey := zk3 (by omega) dy i
      show ∃ s', _ /\ z21 K a b (k + 1) out c i = _
      rw [z21, zhh hi, if_pos rfl, zdr (by omega) da i (by omega), zdr (by omega) db i (by omega)]
      have tx := zg7 10 (z8o a) i
      have ty := zg7 10 (z8o b) i
      generalize (z8o a).getD i 0 = x at ex tx
      generalize (z8o b).getD i 0 = y at ey ty
      have e1 : z04 .i64 (x - y) = x - y := kw (by omega) (by omega)
      have e2 : z04 .i64 (x - y - c) = x - y - c := kw (by omega) (by omega)
      have e3 : z04 .i64 (x - y - c + 10) = x - y - c + 10 := kw (by omega) (by omega)
      simp only [Option.bind_some, e1, e2, e3, lt, tu2, List.length_cons, List.length_nil, kw1 hi (by omega)]
      have h9 : out.length + (0 + 1) <= 16777216 := by omega
      by_cases hn : x - y - c < 0
      . refine ⟨(out ++ [x - y - c + 10], 1), ⟨by simp [h1], h2.app (fun d hd => by simp at hd; omega), ⟨by omega, by omega⟩, ?_⟩, ?_⟩
        . simp only
          rw [z5u, h1, tx, ty, Int.pow_succ]
          simp only [valB, Int.mul_zero, Int.add_zero, Int.mul_one]
          generalize valB 10 ((z8o a).take i) = A at h4
          generalize valB 10 ((z8o b).take i) = B at h4
          generalize valB 10 out = C at h4
          generalize (10 : Int) ^ i = p at h4
          rw [Int.mul_add, Int.mul_sub, Int.mul_sub]
          omega
        . rw [decide_eq_true hn]
          simp only [if_true, Option.bind_some, if_pos h9, tu2]
      . refine ⟨(out ++ [x - y - c], 0), ⟨by simp [h1], h2.app (fun d hd => by simp at hd; omega), ⟨by omega, by omega⟩, ?_⟩, ?_⟩
        . simp only
          rw [z5u, h1, tx, ty, Int.pow_succ]
          simp only [valB, Int.mul_zero, Int.add_zero]
          generalize valB 10 ((z8o a).take i) = A at h4
          generalize valB 10 ((z8o b).take i) = B at h4
          generalize valB 10 out = C at h4
          generalize (10 : Int) ^ i = p at h4
          rw [Int.mul_sub, Int.mul_sub]
          omega
        . rw [decide_eq_false hn]
          simp only [Bool.false_eq_true, if_false, Option.bind_some, if_pos h9, tu2]
    . rintro k ⟨out, c⟩ i rfl ⟨h1, h2, h3, h4⟩
      simp only at h1 h2 h3 h4
      rw [List.take_of_length_le (by omega), List.take_of_length_le (by omega)] at h4
      have p3 := z5y (B := 10) (by omega) _ h2
      rw [h1] at p3
      have hle' : valB 10 (z8o b) <= valB 10 (z8o a) := hle
      have hc0 : c = 0 := by
        by_cases e : c = 0
        . exact e
        . have e1 : c = 1 := by omega
          rw [e1, Int.mul_one] at h4
          omega
      subst hc0
      refine ⟨out, ?_, ?_, by omega, h2, by unfold numT; omega⟩
      . show z21 K a b (k + 1) out 0 _ = _
        rw [z21, zdk (Nat.le_refl _)]; simp
      . intro e; rw [e] at h1; simp at h1; omega
  obtain ⟨r, h1, h2, h3, h4, h5⟩ := key
  obtain ⟨t, h6, h7, h8⟩ := zj5 (K := K) h3 h2 (by omega) h4
  refine ⟨t, ?_, h7, by rw [h8, h5]⟩
  unfold z75
  rw [h1]
  simp only [Option.bind_some, tu1, h6]
end Go.Am.Tryd
/- Plain law: the reference's comparison, product, quotient and divisor of texts. -/
namespace Go.Am.Tryd
open Go Go.Am Go.Proofs
variable {K : Nat}
theorem z4q {s : zAd} (h : (z06 s).all digT = true) : 0 <= numT s := z6a h
theorem zds {s : zAd} (h : (z06 s).all digT = true) : numT s < 10 ^ s.size := by
  have := zax h
  rwa [z03] at this
theorem zdt {s : zAd} (h : CanT s) (h2 : 2 <= s.size) : (10 : Int) ^ (s.size - 1) <= numT s := by
  have hh : (z06 s).head? ≠ some 48 := fun e => by have := h.2.2 e; omega
  have h3 := zj3 (B := 10) (by omega) (zbp h hh) (by intro e; have := z7k s; rw [e] at this; simp at this; omega)
  rwa [z7k] at h3
theorem zab {a b : zAd} (ha : (z06 a).all digT = true) (hb : CanT b) (h0 : a.size ≠ 0) (h : a.size < b.size) : numT a < numT b := by
  have h1 := zds ha
  have h2 := zdt hb (by omega)
  have h3 : (10 : Int) ^ a.size <= 10 ^ (b.size - 1) := za8 (by omega) (by omega)
  omega
theorem z7m {a b : zAd} (ha : CanT a) (hb : CanT b) (h : numT b <= numT a) : b.size <= a.size := by
  refine Nat.not_lt.1 fun hl => ?_
  have := zab ha.2.1 hb ha.1 hl
  omega
theorem zdu : CanT ⟨#[48]⟩ := ⟨by decide, rfl, fun _ => rfl⟩
theorem z8q : numT ⟨#[48]⟩ = 0 := rfl
theorem zj6 : CanT ⟨#[49]⟩ := ⟨by decide, rfl, fun h => by simp [z06] at h⟩
theorem zg8 : numT ⟨#[49]⟩ = 1 := rfl
theorem zj7 {s : zAd} (h : CanT s) : numT s = 0 ↔ s = ⟨#[48]⟩ := ⟨fun e => z92 h zdu (by rw [e, z8q]), fun e => by rw [e, z8q]⟩
theorem z9a : ∀ (x y : List UInt8), x.length = y.length -> (x.map fun b => (b.toNat : Int)).all digT = true -> (y.map fun b => (b.toNat : Int)).all digT = true -> (Op.bytesLess x y = true ↔ numB (x.map fun b => (b.toNat : Int)) < numB (y.map fun b => (b.toNat : Int)))
  | [], [], _, _, _ => by simp [Op.bytesLess]
  | [], _ :: _, h, _, _ => by simp at h
  | _ :: _, [], h, _, _ => by simp at h
  | a :: x, b :: y, h, hx, hy => by
    simp only [List.map_cons, List.all_cons, Bool.and_eq_true] at hx hy
    simp only [List.length_cons, Nat.add_right_cancel_iff] at h
    have ih := z9a x y h hx.2 hy.2
    have dx := digT_iff.1 hx.1
    have dy := digT_iff.1 hy.1
    simp only [Op.bytesLess, List.map_cons, zdo, List.length_map, h]
    have lx0 := z6a hx.2
    have lx1 := zax hx.2
    have ly0 := z6a hy.2
    have ly1 := zax hy.2
    rw [List.length_map] at lx1 ly1
    rw [h] at lx1
    generalize numB (x.map fun b => (b.toNat : Int)) = X at *
    generalize numB (y.map fun b => (b.toNat : Int)) = Y at *
    have p0 : (0 : Int) < 10 ^ y.length := Int.pow_pos (by omega)
    generalize (10 : Int) ^ y.length = P at *
    rw [Bool.or_eq_true, Bool.and_eq_true, ih, decide_eq_true_eq, beq_iff_eq, UInt8.lt_iff_toNat_lt]
    rcases Nat.lt_trichotomy a.toNat b.toNat with h1 | h1 | h1
    . have := z3j (Int.le_of_lt p0) (show ((a.toNat : Int) - 48) + 1 <= (b.toNat : Int) - 48 by omega)
      rw [Int.mul_add, Int.mul_one] at this
      exact ⟨fun _ => by omega, fun _ => .inl h1⟩
    . have e : a = b := UInt8.toNat_inj.1 h1
      subst e
      exact ⟨fun h => by rcases h with h | h <;> omega, fun h => .inr ⟨rfl, by omega⟩⟩
    . have := z3j (Int.le_of_lt p0) (show ((b.toNat : Int) - 48) + 1 <= (a.toNat : Int) - 48 by omega)
      rw [Int.mul_add, Int.mul_one] at this
      refine ⟨fun h => ?_, fun h => by omega⟩
      rcases h with h | ⟨h, _⟩
      . omega
      . subst h; omega
theorem zk5 {a b : zAd} (h : a.size = b.size) (ha : (z06 a).all digT = true) (hb : (z06 b).all digT = true) : sLt a b = decide (numT a < numT b) := by
  have := z9a a.data.toList b.data.toList (by simpa using h) ha hb
  unfold sLt
  rw [ByteArray.toList_eq, ByteArray.toList_eq]
  by_cases c : numT a < numT b
  . rw [decide_eq_true c]; exact this.2 c
  . rw [decide_eq_false c]
    cases e : Op.bytesLess a.data.toList b.data.toList with
    | false => rfl
    | true => exact absurd (this.1 e) c
theorem zk6 {a b : zAd} (ha : CanT a) (hb : CanT b) : z74 K a b = some (if numT a < numT b then -1 else if numT a = numT b then 0 else 1) := by
  unfold z74
  by_cases h1 : a.size < b.size
  . have := zab ha.2.1 hb ha.1 h1
    simp (discharger := omega) only [decide_eq_true_eq, if_pos, if_neg, if_true, if_false, z0w, z1d, z1e, idxI, z6n, sslI, lslI, k64, ku64, ku32, ku8, i64w, u64w, u32w, u8w, z6o, z6r, tu0a, tu1a, tu2a, tu3a, tu4a, tu5a, lta, z2w, z2x, z6p, z6q, Int.toNat_natCast, List.length_cons, List.length_nil, List.length_set, Int.toNat_zero, List.replicate_zero]
  . by_cases h2 : a.size > b.size
    . have := zab hb.2.1 ha hb.1 h2
      simp (discharger := omega) only [decide_eq_true_eq, if_pos, if_neg, if_true, if_false, z0w, z1d, z1e, idxI, z6n, sslI, lslI, k64, ku64, ku32, ku8, i64w, u64w, u32w, u8w, z6o, z6r, tu0a, tu1a, tu2a, tu3a, tu4a, tu5a, lta, z2w, z2x, z6p, z6q, Int.toNat_natCast, List.length_cons, List.length_nil, List.length_set, Int.toNat_zero, List.replicate_zero]
    . have he : a.size = b.size := by omega
      rw [if_neg (by simp; omega), if_neg (by simp; omega), zk5 he ha.2.1 hb.2.1]
      by_cases c : numT a < numT b
      . simp (discharger := omega) only [decide_eq_true_eq, if_pos, if_neg, if_true, if_false, z0w, z1d, z1e, idxI, z6n, sslI, lslI, k64, ku64, ku32, ku8, i64w, u64w, u32w, u8w, z6o, z6r, tu0a, tu1a, tu2a, tu3a, tu4a, tu5a, lta, z2w, z2x, z6p, z6q, Int.toNat_natCast, List.length_cons, List.length_nil, List.length_set, Int.toNat_zero, List.replicate_zero]
      . by_cases d : numT a = numT b
        . have : a = b := z92 ha hb d
          subst this
          have e : sEq a a = true := sEq_iff.2 rfl
          simp [e]
        . have e : sEq a b = false := by
            cases e : sEq a b with
            | false => rfl
            | true => rw [sEq_iff] at e; subst e; exact absurd rfl d
          simp [e, c, d]
end Go.Am.Tryd
/- Plain law: long division of the program's numbers. -/
namespace Go.Am.Tryd
open Go Go.Am Go.Proofs
variable {K : Nat}
theorem zg9 (u : List Int) (i n : Nat) (h : i + n <= u.length) : valB 1000000000 u = valB 1000000000 (u.take i) + 1000000000 ^ i * (valB 1000000000 ((u.drop i).take n) + 1000000000 ^ n * valB 1000000000 (u.drop (i + n))) := by
  have h1 := z8p 1000000000 u i (by omega)
  have h2 := z8p 1000000000 (u.drop i) n (by rw [List.length_drop]; omega)
  rw [h1, h2, List.drop_drop]
theorem zia {l : List Int} {i : Nat} (h : l.length <= i) : l.getD i 0 = 0 := by rw [zAb, List.getElem?_eq_none h]; rfl
theorem zj8 {u v : List Int} {k : Nat} {q : Int} (hk : k + v.length + 1 <= u.length) (hl : u.length <= 8000000) (hK : 2000000000 < K) (hq : 0 <= q /\ q < 1000000000) (du : DigB 1000000000 u) (dv : DigB 1000000000 v) :
    ∃ (b : Int) (u' : List Int), z34 K u v k q = some (decide (b > 0), u') /\ (b = 0 \/ b = 1) /\ u'.length = u.length /\ DigB 1000000000 u' /\ u'.take k = u.take k /\ u'.drop (k + (v.length + 1)) = u.drop (k + (v.length + 1)) ∧
      valB 1000000000 u' = valB 1000000000 u - 1000000000 ^ k * (q * valB 1000000000 v) + 1000000000 ^ (k + (v.length + 1)) * b := by
  have key : ∃ r : List Int × Int, z18 K v k q K u 0 0 0 = some r /\ (r.2 = 0 \/ r.2 = 1) /\ r.1.length = u.length /\ DigB 1000000000 r.1 /\ r.1.take k = u.take k /\ r.1.drop (k + (v.length + 1)) = u.drop (k + (v.length + 1)) ∧
      valB 1000000000 r.1 = valB 1000000000 u - 1000000000 ^ k * (q * valB 1000000000 v) + 1000000000 ^ (k + (v.length + 1)) * r.2 := by
    refine zd1 (fun m (s : List Int × Int × Int × Int) => z18 K v k q m s.1 s.2.1 s.2.2.1 s.2.2.2) (fun s => ∃ i : Nat, s.2.2.2 = i /\ i <= v.length + 1 /\ s.1.length = u.length /\ DigB 1000000000 s.1 /\ (s.2.1 = 0 \/ s.2.1 = 1) /\ (0 <= s.2.2.1 /\ s.2.2.1 < 1000000000) /\ (i = v.length + 1 -> s.2.2.1 = 0) /\ s.1.take k = u.take k /\ s.1.drop (k + (v.length + 1)) = u.drop (k + (v.length + 1)) ∧
      valB 1000000000 s.1 = valB 1000000000 u - 1000000000 ^ k * (q * valB 1000000000 (v.take i)) + 1000000000 ^ (k + i) * (s.2.1 + s.2.2.1)) (fun s => (v.length + 1 - s.2.2.2 : Int).toNat) _ ?_ ((u, 0, 0, 0) : List Int × Int × Int × Int) (by simp; omega) ⟨0, rfl, by omega, rfl, du, .inl rfl, by simp, by simp, rfl, rfl, by simp [valB]⟩
    rintro m ⟨o, b, c, _⟩ ⟨i, rfl, h0, h1, h2, h3, h4, h5, h6, h7, h8⟩
    dsimp only at h1 h2 h3 h4 h5 h6 h7 h8 ⊢
    by_cases hi : i < v.length + 1
    . right
      have ev := z39 (by omega) dv i
      have eo := z39 (by omega) h2 (k + i)
      have hm := zi8 hq ev
      have tv := z5j 1000000000 v i
      have e1 : ((k : Int) + (i : Int)) = ((k + i : Nat) : Int) := by omega
      have e2 : (1000000000 : Int) ^ (k + (i + 1)) = 1000000000 ^ k * 1000000000 ^ i * 1000000000 := by rw [<- Nat.add_assoc, Int.pow_succ, Int.pow_add]
      have hset := fun d => z93 1000000000 o (k + i) d (by omega)
      have hz : ¬ i < v.length -> q * v.getD i 0 = 0 := fun h => by rw [zia (by omega)]; simp
      generalize hw : q * v.getD i 0 = w at hm hz
      generalize ho : o.getD (k + i) 0 = z at eo hset
      have hdm := Int.emod_add_mul_ediv (c + w) 1000000000
      have htk : ∀ d, (o.set (k + i) d).take k = u.take k := fun d => by rw [List.take_set_of_le (by omega), h6]
      have hdr : ∀ d, (o.set (k + i) d).drop (k + (v.length + 1)) = u.drop (k + (v.length + 1)) := fun d => by rw [List.drop_set_of_lt (by omega), h7]
      have hc0 : i + 1 = v.length + 1 -> (c + w) / 1000000000 = 0 := fun h => by rw [hz (by omega)]; omega
      have hb2 : 0 <= b /\ b <= 1 := by rcases h3 with rfl | rfl <;> omega
      by_cases hn : z - (c + w) % 1000000000 - b < 0
      . refine ⟨(o.set (k + i) (z - (c + w) % 1000000000 - b + 1000000000), 1, (c + w) / 1000000000, (i : Int) + 1), ?_, by dsimp only; omega, i + 1, rfl, by omega, by simp [h1], h2.set _ (by omega), .inr rfl, by dsimp only; omega, hc0, htk _, hdr _, ?_⟩
        . rw [z18]
          by_cases h : i < v.length
          . simp (discharger := omega) only [decide_eq_true_eq, if_pos, if_neg, if_true, if_false, z0w, z1d, z1e, idxI, z6n, sslI, lslI, k64, ku64, ku32, ku8, i64w, u64w, u32w, u8w, z6o, z6r, tu0a, tu1a, tu2a, tu3a, tu4a, tu5a, lta, z2w, z2x, z6p, z6q, Int.toNat_natCast, List.length_cons, List.length_nil, List.length_set, Int.toNat_zero, List.replicate_zero, e1, hw, ho]
          . have e := hz h
            subst e
            simp only [Int.add_zero] at hn ⊢
            simp (discharger := omega) only [decide_eq_true_eq, if_pos, if_neg, if_true, if_false, z0w, z1d, z1e, idxI, z6n, sslI, lslI, k64, ku64, ku32, ku8, i64w, u64w, u32w, u8w, z6o, z6r, tu0a, tu1a, tu2a, tu3a, tu4a, tu5a, lta, z2w, z2x, z6p, z6q, Int.toNat_natCast, List.length_cons, List.length_nil, List.length_set, Int.toNat_zero, List.replicate_zero, e1, ho]
        . dsimp only
          rw [hset, tv, e2]
          rw [Int.pow_add] at h8 ⊢
          subst hw
          generalize (c + q * v.getD i 0) / 1000000000 = Q at *
          generalize (c + q * v.getD i 0) % 1000000000 = R at *
          grind
      . refine ⟨(o.set (k + i) (z - (c + w) % 1000000000 - b), 0, (c + w) / 1000000000, (i : Int) + 1), ?_, by dsimp only; omega, i + 1, rfl, by omega, by simp [h1], h2.set _ (by omega), .inl rfl, by dsimp only; omega, hc0, htk _, hdr _, ?_⟩
        . rw [z18]
          by_cases h : i < v.length
          . simp (discharger := omega) only [decide_eq_true_eq, if_pos, if_neg, if_true, if_false, z0w, z1d, z1e, idxI, z6n, sslI, lslI, k64, ku64, ku32, ku8, i64w, u64w, u32w, u8w, z6o, z6r, tu0a, tu1a, tu2a, tu3a, tu4a, tu5a, lta, z2w, z2x, z6p, z6q, Int.toNat_natCast, List.length_cons, List.length_nil, List.length_set, Int.toNat_zero, List.replicate_zero, e1, hw, ho]
          . have e := hz h
            subst e
            simp only [Int.add_zero] at hn ⊢
            simp (discharger := omega) only [decide_eq_true_eq, if_pos, if_neg, if_true, if_false, z0w, z1d, z1e, idxI, z6n, sslI, lslI, k64, ku64, ku32, ku8, i64w, u64w, u32w, u8w, z6o, z6r, tu0a, tu1a, tu2a, tu3a, tu4a, tu5a, lta, z2w, z2x, z6p, z6q, Int.toNat_natCast, List.length_cons, List.length_nil, List.length_set, Int.toNat_zero, List.replicate_zero, e1, ho]
        . dsimp only
          rw [hset, tv, e2]
          rw [Int.pow_add] at h8 ⊢
          subst hw
          generalize (c + q * v.getD i 0) / 1000000000 = Q at *
          generalize (c + q * v.getD i 0) % 1000000000 = R at *
          grind
    . left
      have : i = v.length + 1 := by omega
      subst this
      have hc := h5 rfl
      subst hc
      rw [List.take_of_length_le (by omega), Int.add_zero] at h8
      exact ⟨(o, b), by rw [z18]; simp (discharger := omega) only [decide_eq_true_eq, if_pos, if_neg, if_true, if_false, z0w, z1d, z1e, idxI, z6n, sslI, lslI, k64, ku64, ku32, ku8, i64w, u64w, u32w, u8w, z6o, z6r, tu0a, tu1a, tu2a, tu3a, tu4a, tu5a, lta, z2w, z2x, z6p, z6q, Int.toNat_natCast, List.length_cons, List.length_nil, List.length_set, Int.toNat_zero, List.replicate_zero], h3, h1, h2, h6, h7, h8⟩
  obtain ⟨⟨u', b⟩, h1, h2⟩ := key
  exact ⟨b, u', by unfold z34; rw [h1]; rfl, h2⟩
theorem zk7 {u v : List Int} {k : Nat} (hk : k + v.length + 1 <= u.length) (hl : u.length <= 8000000) (hK : 2000000000 < K) (du : DigB 1000000000 u) (dv : DigB 1000000000 v) :
    ∃ (u' : List Int) (b : Int), z3v K u v k = some u' /\ (b = 0 \/ b = 1) /\ u'.length = u.length /\ DigB 1000000000 u' /\ u'.take k = u.take k /\ u'.drop (k + (v.length + 1)) = u.drop (k + (v.length + 1)) ∧
      valB 1000000000 u' + 1000000000 ^ (k + (v.length + 1)) * b = valB 1000000000 u + 1000000000 ^ k * valB 1000000000 v := by
  have key : ∃ r : List Int, z20 K v k K u 0 0 = some r /\ ∃ b : Int, (b = 0 \/ b = 1) /\ r.length = u.length /\ DigB 1000000000 r /\ r.take k = u.take k /\ r.drop (k + (v.length + 1)) = u.drop (k + (v.length + 1)) ∧
      valB 1000000000 r + 1000000000 ^ (k + (v.length + 1)) * b = valB 1000000000 u + 1000000000 ^ k * valB 1000000000 v := by
    refine zd1 (fun m (s : List Int × Int × Int) => z20 K v k m s.1 s.2.1 s.2.2) (fun s => ∃ i : Nat, s.2.2 = i /\ i <= v.length + 1 /\ s.1.length = u.length /\ DigB 1000000000 s.1 /\ (s.2.1 = 0 \/ s.2.1 = 1) /\ s.1.take k = u.take k /\ s.1.drop (k + (v.length + 1)) = u.drop (k + (v.length + 1)) ∧
      valB 1000000000 s.1 + 1000000000 ^ (k + i) * s.2.1 = valB 1000000000 u + 1000000000 ^ k * valB 1000000000 (v.take i)) (fun s => (v.length + 1 - s.2.2 : Int).toNat) _ ?_ ((u, 0, 0) : List Int × Int × Int) (by simp; omega) ⟨0, rfl, by omega, rfl, du, .inl rfl, rfl, rfl, by simp [valB]⟩
    rintro m ⟨o, b, _⟩ ⟨i, rfl, h0, h1, h2, h3, h6, h7, h8⟩
    dsimp only at h1 h2 h3 h6 h7 h8 ⊢
    by_cases hi : i < v.length + 1
    . right
      have ev := z39 (by omega) dv i
      have eo := z39 (by omega) h2 (k + i)
      have tv := z5j 1000000000 v i
      have e1 : ((k : Int) + (i : Int)) = ((k + i : Nat) : Int) := by omega
      have e2 : (1000000000 : Int) ^ (k + (i + 1)) = 1000000000 ^ k * 1000000000 ^ i * 1000000000 := by rw [<- Nat.add_assoc, Int.pow_succ, Int.pow_add]
      have hset := fun d => z93 1000000000 o (k + i) d (by omega)
      have hz : ¬ i < v.length -> v.getD i 0 = 0 := fun h => zia (by omega)
      generalize hw : v.getD i 0 = w at ev hz tv
      generalize ho : o.getD (k + i) 0 = z at eo hset
      have hdm := Int.emod_add_mul_ediv (z + b + w) 1000000000
      have htk : ∀ d, (o.set (k + i) d).take k = u.take k := fun d => by rw [List.take_set_of_le (by omega), h6]
      have hdr : ∀ d, (o.set (k + i) d).drop (k + (v.length + 1)) = u.drop (k + (v.length + 1)) := fun d => by rw [List.drop_set_of_lt (by omega), h7]
      have hb2 : 0 <= b /\ b <= 1 := by rcases h3 with rfl | rfl <;> omega
      refine ⟨(o.set (k + i) ((z + b + w) % 1000000000), (z + b + w) / 1000000000, (i : Int) + 1), ?_, by dsimp only; omega, i + 1, rfl, by omega, by simp [h1], h2.set _ (by omega), by dsimp only; omega, htk _, hdr _, ?_⟩
      . rw [z20]
        by_cases h : i < v.length
        . simp (discharger := omega) only [decide_eq_true_eq, if_pos, if_neg, if_true, if_false, z0w, z1d, z1e, idxI, z6n, sslI, lslI, k64, ku64, ku32, ku8, i64w, u64w, u32w, u8w, z6o, z6r, tu0a, tu1a, tu2a, tu3a, tu4a, tu5a, lta, z2w, z2x, z6p, z6q, Int.toNat_natCast, List.length_cons, List.length_nil, List.length_set, Int.toNat_zero, List.replicate_zero, e1, hw, ho]
        . have e := hz h
          subst e
          simp only [Int.add_zero] at hdm ⊢
          simp (discharger := omega) only [decide_eq_true_eq, if_pos, if_neg, if_true, if_false, z0w, z1d, z1e, idxI, z6n, sslI, lslI, k64, ku64, ku32, ku8, i64w, u64w, u32w, u8w, z6o, z6r, tu0a, tu1a, tu2a, tu3a, tu4a, tu5a, lta, z2w, z2x, z6p, z6q, Int.toNat_natCast, List.length_cons, List.length_nil, List.length_set, Int.toNat_zero, List.replicate_zero, e1, ho]
      . dsimp only
        rw [hset, tv, e2]
        rw [Int.pow_add] at h8
        generalize (z + b + w) / 1000000000 = Q at *
        generalize (z + b + w) % 1000000000 = R at *
        grind
    . left
      have : i = v.length + 1 := by omega
      subst this
      rw [List.take_of_length_le (by omega)] at h8
      exact ⟨o, by rw [z20]; simp (discharger := omega) only [decide_eq_true_eq, if_pos, if_neg, if_true, if_false, z0w, z1d, z1e, idxI, z6n, sslI, lslI, k64, ku64, ku32, ku8, i64w, u64w, u32w, u8w, z6o, z6r, tu0a, tu1a, tu2a, tu3a, tu4a, tu5a, lta, z2w, z2x, z6p, z6q, Int.toNat_natCast, List.length_cons, List.length_nil, List.length_set, Int.toNat_zero, List.replicate_zero], b, h3, h1, h2, h6, h7, h8⟩
  obtain ⟨u', h1, b, h2⟩ := key
  exact ⟨u', b, by unfold z3v; rw [h1]; rfl, h2⟩
theorem zj9 {u v : List Int} {k : Nat} {P vl top ul q g r : Int} (hn : 2 <= v.length) (hk : k + v.length + 1 <= u.length) (hl : u.length <= 8000000) (hK : 2000000000 < K)
    (h : Kn 1000000000 P (v.getD (v.length - 1) 0) (v.getD (v.length - 2) 0) vl top (u.getD (k + v.length - 2) 0) ul q) (hv : v.getD (v.length - 1) 0 < 1000000000) (ht : top < 1000000000 * v.getD (v.length - 1) 0 + 1000000000) (hr : top = g * v.getD (v.length - 1) 0 + r) (hg : q <= g) (hg2 : g < 2000000000) (hr0 : 0 <= r /\ r < 1000000000) :
    ∃ g', z1z K v u k K g r = some g' /\ q <= g' /\ g' <= q + 1 /\ g' < 1000000000 := by
  generalize hv1 : v.getD (v.length - 1) 0 = v1 at *
  generalize hv2 : v.getD (v.length - 2) 0 = v2 at *
  generalize hu3 : u.getD (k + v.length - 2) 0 = u3 at *
  have a1 := h.v1p
  have a2 := h.v2p
  have a3 := h.v2b
  have a4 := h.u3p
  have a5 := h.u3b
  have a6 := h.q0
  have a7 := h.qB
  refine zd1 (fun m (s : Int × Int) => z1z K v u k m s.1 s.2) (fun s => top = s.1 * v1 + s.2 /\ q <= s.1 /\ s.1 < 2000000000 /\ 0 <= s.2 /\ s.2 < 1000000000) (fun s => (1000000000 - s.2).toNat) _ ?_ ((g, r) : Int × Int) ?_ ⟨hr, hg, hg2, hr0.1, hr0.2⟩
  . rintro m ⟨g, r⟩ ⟨b1, b2, b3, b4, b5⟩
    dsimp only at b1 b2 b3 b4 b5 ⊢
    have f1 : idx v (z04 .i64 ((v.length : Int) - 1)) = some v1 := by
      rw [k64 (by omega) (by omega), idxI (by omega) (by omega), <- hv1]; congr 2; omega
    have f2 : idx v (z04 .i64 ((v.length : Int) - 2)) = some v2 := by
      rw [k64 (by omega) (by omega), idxI (by omega) (by omega), <- hv2]; congr 2; omega
    have f3 : idx u (z04 .i64 (z04 .i64 ((k : Int) + (v.length : Int)) - 2)) = some u3 := by
      rw [k64 (a := (k : Int) + (v.length : Int)) (by omega) (by omega), k64 (by omega) (by omega), idxI (by omega) (by omega), <- hu3]; congr 2; omega
    have m1 : 0 <= g * v2 := z86 (by omega) a2
    have m2 := z3j (show 0 <= g by omega) (show v2 <= 999999999 by omega)
    rw [z1z, f1, f2]
    generalize hw : g * v2 = w at m1 m2
    by_cases c : g >= 1000000000 \/ w > r * 1000000000 + u3
    . have hqg : q < g := by
        rcases c with c | c
        . omega
        . exact h.down b1 (by omega) (by omega)
      have hc : (if (decide (g >= 1000000000)) = true then some true else ((some v2).bind fun x235 => (lt (z04 .i64 ((z04 .i64 ((k : Int) + (v.length : Int))) - 2)) fun x239 => ((idx u x239).bind fun x242 => (lt (z04 .u64 ((z04 .u64 (r * 1000000000)) + (IntKind.wrap .u64 x242))) fun x246 => (lt (decide ((z04 .u64 (g * (IntKind.wrap .u64 x235))) > x246)) fun x249 => some x249)))))) = some true := by
        by_cases c1 : g >= 1000000000
        . rw [decide_eq_true c1]; rfl
        . rw [decide_eq_false c1]
          simp only [z0w, lta, Bool.false_eq_true, if_false, f3]
          rw [u64w (a := v2) (by omega) (by omega), hw, u64w (a := u3) (by omega) (by omega), ku64 (a := w) (by omega) (by omega), ku64 (a := r * 1000000000) (by omega) (by omega), ku64 (a := r * 1000000000 + u3) (by omega) (by omega), decide_eq_true (by omega)]
      rw [hc]
      by_cases c2 : r + v1 >= 1000000000
      . left
        have hgB : g <= 1000000000 := by
          refine Int.not_lt.1 fun hlt => ?_
          have := z3j (show 0 <= v1 by omega) (show 1000000001 <= g by omega)
          rw [Int.mul_comm v1 g] at this
          omega
        have hx := h.exitB (g := g - 1) (r := r + v1) (by rw [Int.sub_mul]; omega) (by omega) (by omega) c2
        refine ⟨g - 1, ?_, by omega, by omega, by omega⟩
        simp (discharger := omega) only [decide_eq_true_eq, if_pos, if_neg, if_true, if_false, z0w, z1d, z1e, idxI, z6n, sslI, lslI, k64, ku64, ku32, ku8, i64w, u64w, u32w, u8w, z6o, z6r, tu0a, tu1a, tu2a, tu3a, tu4a, tu5a, lta, z2w, z2x, z6p, z6q, Int.toNat_natCast, List.length_cons, List.length_nil, List.length_set, Int.toNat_zero, List.replicate_zero]
      . right
        refine ⟨(g - 1, r + v1), ?_, by dsimp only; omega, by dsimp only; rw [Int.sub_mul]; omega, by dsimp only; omega, by dsimp only; omega, by dsimp only; omega, by dsimp only; omega⟩
        have e : decide (r + v1 >= 1000000000) = false := decide_eq_false c2
        simp (discharger := omega) only [decide_eq_true_eq, if_pos, if_neg, if_true, if_false, z0w, z1d, z1e, idxI, z6n, sslI, lslI, k64, ku64, ku32, ku8, i64w, u64w, u32w, u8w, z6o, z6r, tu0a, tu1a, tu2a, tu3a, tu4a, tu5a, lta, z2w, z2x, z6p, z6q, Int.toNat_natCast, List.length_cons, List.length_nil, List.length_set, Int.toNat_zero, List.replicate_zero, e, Bool.false_eq_true]
    . left
      have c1 : ¬ g >= 1000000000 := fun x => c (.inl x)
      have c3 : ¬ w > r * 1000000000 + u3 := fun x => c (.inr x)
      have hx := h.exitA b1 (by omega) (by omega) (by omega)
      refine ⟨g, ?_, b2, hx, by omega⟩
      rw [decide_eq_false c1]
      simp only [z0w, lta, Bool.false_eq_true, if_false, f3]
      rw [u64w (a := v2) (by omega) (by omega), hw, u64w (a := u3) (by omega) (by omega), ku64 (a := w) (by omega) (by omega), ku64 (a := r * 1000000000) (by omega) (by omega), ku64 (a := r * 1000000000 + u3) (by omega) (by omega), decide_eq_false c3]
      simp only [z0w, tu1a, Bool.false_eq_true, if_false]
  . dsimp only; omega
end Go.Am.Tryd
/- Plain law: quotient and remainder, greatest common divisor of the program's numbers. -/
namespace Go.Am.Tryd
open Go Go.Am Go.Proofs
variable {K : Nat}
theorem zga (u : List Int) (i j : Nat) : (u.drop i).getD j 0 = u.getD (i + j) 0 := by
  rw [zAb, List.getElem?_drop, zAb]
section
variable {p X Y V M HI LO U g q b c rr M1 M2 U1 U2 P v1 v2 vl t1 t2 t3 ul top : Int}
theorem kd1 : vl + P * v2 + P * 1000000000 * v1 = P * (1000000000 * v1 + v2) + vl := by grind
theorem kd2 : ul + P * t3 + P * 1000000000 * t2 + P * 1000000000 * 1000000000 * t1 = P * (1000000000 * (t1 * 1000000000 + t2) + t3) + ul := by grind
theorem kd3 (hu : U < p * 1000000000 * V) (hm : U = LO + p * (M + Y * 1000000000 * HI)) (h0 : 0 <= LO) (p0 : 0 < p) (Y0 : 0 < Y) (hV : V < Y) (hM : 0 <= M) (hH : 0 <= HI) : HI = 0 := by
  refine Int.le_antisymm (Int.not_lt.1 fun hlt => ?_) hH
  have a1 := z3j (Int.le_of_lt Y0) (show 1 <= HI by omega)
  have a2 := z3j (Int.le_of_lt p0) (show V + 1 <= Y by omega)
  have a3 := z3j (Int.le_of_lt p0) (show Y * 1000000000 <= M + Y * 1000000000 * HI by grind)
  grind
theorem kd4 (hu : U < p * 1000000000 * V) (hm : U = LO + p * (M + X * 0)) (h0 : 0 <= LO) (p0 : 0 < p) : M < 1000000000 * V := by
  refine Int.not_le.1 fun hle => ?_
  have a1 := z3j (Int.le_of_lt p0) hle
  grind
theorem kd5 (h : rr + V * q = M) (h0 : 0 <= rr) : q * V <= M := by grind
theorem kd5' (h : rr + V * q = M) (h0 : rr < V) : M < (q + 1) * V := by grind
theorem kd6 (hM : M = P * (1000000000 * top + t3) + ul) (hV : V = P * (1000000000 * v1 + v2) + vl) (h : M < 1000000000 * V) (P0 : 0 < P) (b2 : v2 < 1000000000) (b3 : 0 <= t3) (u0 : 0 <= ul) (vb : vl < P) : top < 1000000000 * v1 + 1000000000 := by
  refine Int.not_le.1 fun hle => ?_
  have a1 := z3j (Int.le_of_lt P0) (z3j (show (0:Int) <= 1000000000 by omega) hle)
  have a2 := z3j (Int.le_of_lt P0) (show v2 <= 999999999 by omega)
  have a3 := z86 (Int.le_of_lt P0) b3
  subst hM hV
  grind
theorem kd7 (p0 : 0 < p) (h1 : U1 = LO + p * (M1 + X * 0)) (h2 : U1 = U - p * (g * V) + p * X * b) (h3 : U = LO + p * (M + X * 0)) : M1 = M - g * V + X * b := by
  have : p * M1 = p * (M - g * V + X * b) := by grind
  exact Int.eq_of_mul_eq_mul_left (by omega) this
theorem kd8 (h : rr + V * q = M) (h1 : rr < V) (hV : 0 < V) (hm : M1 = M - g * V + X * 0) (h0 : 0 <= M1) (hq : q <= g) : g = q := by
  refine Int.le_antisymm (Int.not_lt.1 fun hlt => ?_) hq
  have a1 := z3j (Int.le_of_lt hV) (show q + 1 <= g by omega)
  grind
theorem kd9 (h : rr + V * q = M) (h0 : 0 <= rr) (hm : M1 = M - g * V + X * 1) (h1 : M1 < X) (hq : q <= g) (hq1 : g <= q + 1) : g = q + 1 := by
  refine Int.le_antisymm hq1 (Int.not_lt.1 fun hlt => ?_)
  have : g = q := by omega
  subst this
  grind
theorem kd10 (p0 : 0 < p) (h1 : U2 = LO + p * (M2 + X * 0)) (h2 : U2 + p * X * c = U1 + p * V) (h3 : U1 = LO + p * (M1 + X * 0)) (h4 : M1 = M - (q + 1) * V + X * 1) : M2 = M - q * V + X * (1 - c) := by
  have : p * M2 = p * (M - q * V + X * (1 - c)) := by grind
  exact Int.eq_of_mul_eq_mul_left (by omega) this
theorem kd11 (h : rr + V * q = M) (h0 : 0 <= rr) (hm : M2 = M - q * V + X * (1 - c)) (h1 : M2 < X) (hc : c = 0 \/ c = 1) : c = 1 := by
  rcases hc with rfl | rfl
  . grind
  . rfl
theorem kd12 (h1 : U1 = LO + p * (M1 + X * 0)) (hm : M1 = M - q * V) (h3 : U = LO + p * (M + X * 0)) : U1 + p * (q * V) = U := by grind
theorem kd13 (p0 : 0 < p) (h1 : U1 = LO + p * (M1 + X * 0)) (hm : M1 = M - q * V) (h : rr + V * q = M) (hr : rr < V) (hl : LO < p) : U1 < p * V := by
  have a1 := z3j (Int.le_of_lt p0) (show M1 + 1 <= V by grind)
  grind
end
theorem zgb {u v : List Int} {i : Nat} (hn : 2 <= v.length) (hk : i + v.length + 1 <= u.length) (hl : u.length <= 8000000) (hK : 2000000000 < K) (du : DigB 1000000000 u) (cv : CanB 1000000000 v) (hu : valB 1000000000 u < 1000000000 ^ (i + 1) * valB 1000000000 v) :
    ∃ g b u1 u2 q, z1z K v u i K ((u.getD (i + v.length) 0 * 1000000000 + u.getD (i + v.length - 1) 0) / v.getD (v.length - 1) 0) ((u.getD (i + v.length) 0 * 1000000000 + u.getD (i + v.length - 1) 0) % v.getD (v.length - 1) 0) = some g /\ 0 <= g /\ g < 1000000000 ∧
      z34 K u v i g = some (b, u1) /\ (b = true -> z3v K u1 v i = some u2 /\ q = g - 1) /\ (b = false -> u2 = u1 /\ q = g) /\ 0 <= q /\ q < 1000000000 /\ u2.length = u.length /\ DigB 1000000000 u2 ∧
      valB 1000000000 u2 + 1000000000 ^ i * (q * valB 1000000000 v) = valB 1000000000 u /\ valB 1000000000 u2 < 1000000000 ^ i * valB 1000000000 v /\ 1 <= v.getD (v.length - 1) 0 /\ v.getD (v.length - 1) 0 < 1000000000 := by
  obtain ⟨n, hnv⟩ : ∃ n, v.length = n + 2 := ⟨v.length - 2, by omega⟩
  have dv := cv.1
  have ev1 := z39 (by omega) dv (n + 1)
  have ev2 := z39 (by omega) dv n
  have et1 := z39 (by omega) du (i + n + 2)
  have et2 := z39 (by omega) du (i + n + 1)
  have et3 := z39 (by omega) du (i + n)
  -- the divisor's leading digits
  have hv1 : 1 <= v.getD (n + 1) 0 := by
    have : v.getD (n + 1) 0 ≠ 0 := fun e => cv.2 (by
      rw [List.getLast?_eq_getElem?, hnv]
      have hi : n + 2 - 1 < v.length := by omega
      rw [zAb, zAh (by omega)] at e
      rw [zAh hi]
      simp at e ⊢
      exact e)
    omega
  have hV : valB 1000000000 v = 1000000000 ^ n * (1000000000 * v.getD (n + 1) 0 + v.getD n 0) + valB 1000000000 (v.take n) := by
    have h1 := z5j 1000000000 v n
    have h2 := z5j 1000000000 v (n + 1)
    rw [List.take_of_length_le (by omega)] at h2
    rw [h2, h1, Int.pow_succ, kd1]
  have hVn : valB 1000000000 v < 1000000000 ^ (n + 2) := by rw [<- hnv]; exact z5y (by omega) v dv
  -- the middle of what is divided
  have hmid := zg9 u i (n + 3) (by omega)
  have hM : valB 1000000000 ((u.drop i).take (n + 3)) = 1000000000 ^ n * (1000000000 * (u.getD (i + n + 2) 0 * 1000000000 + u.getD (i + n + 1) 0) + u.getD (i + n) 0) + valB 1000000000 ((u.drop i).take n) := by
    have h1 := z5j 1000000000 (u.drop i) n
    have h2 := z5j 1000000000 (u.drop i) (n + 1)
    have h3 := z5j 1000000000 (u.drop i) (n + 2)
    rw [zga] at h1 h2 h3
    rw [h3, h2, h1, Int.pow_succ 1000000000 (n + 1), Int.pow_succ 1000000000 n, <- Nat.add_assoc, <- Nat.add_assoc, kd2]
  have dlo := du.take i
  have lo0 := z1j (B := 1000000000) (by omega) _ dlo
  have lo1 := z5y (B := 1000000000) (by omega) _ dlo
  rw [List.length_take, Nat.min_eq_left (by omega)] at lo1
  have dmi := (du.drop i).take (n + 3)
  have mi0 := z1j (B := 1000000000) (by omega) _ dmi
  have dhi := du.drop (i + (n + 3))
  have hi0 := z1j (B := 1000000000) (by omega) _ dhi
  have p0 : 0 < (1000000000 : Int) ^ i := Int.pow_pos (by omega)
  have pn0 : 0 < (1000000000 : Int) ^ n := Int.pow_pos (by omega)
  have pn3 : 0 < (1000000000 : Int) ^ (n + 3) := Int.pow_pos (by omega)
  have ep1 : (1000000000 : Int) ^ (i + 1) = 1000000000 ^ i * 1000000000 := Int.pow_succ _ _
  have ep3 : (1000000000 : Int) ^ (n + 3) = 1000000000 ^ (n + 2) * 1000000000 := Int.pow_succ _ _
  have dul := (du.drop i).take n
  have ul0 := z1j (B := 1000000000) (by omega) _ dul
  have ul1 := z5y (B := 1000000000) (by omega) _ dul
  rw [List.length_take, List.length_drop, Nat.min_eq_left (by omega)] at ul1
  have dvl := dv.take n
  have vl0 := z1j (B := 1000000000) (by omega) _ dvl
  have vl1 := z5y (B := 1000000000) (by omega) _ dvl
  rw [List.length_take, Nat.min_eq_left (by omega)] at vl1
  have hmin := fun (g : Int) (hg : 0 <= g /\ g < 1000000000) => zj8 (K := K) (u := u) (v := v) (k := i) (q := g) hk hl hK hg du dv
  have hplu := fun (u1 : List Int) (h1 : u1.length = u.length) (d1 : DigB 1000000000 u1) => zk7 (K := K) (u := u1) (v := v) (k := i) (by omega) (by omega) hK d1 dv
  rw [show i + v.length = i + n + 2 by omega, show i + n + 2 - 1 = i + n + 1 by omega, show v.length - 1 = n + 1 by omega]
  generalize hVV : valB 1000000000 v = V at *
  generalize hMM : valB 1000000000 ((u.drop i).take (n + 3)) = M at *
  generalize hLL : valB 1000000000 (u.take i) = LO at *
  generalize hHH : valB 1000000000 (u.drop (i + (n + 3))) = HI at *
  have hV0 : 0 < V := by
    have := z3j (Int.le_of_lt pn0) (show 1 <= 1000000000 * v.getD (n + 1) 0 + v.getD n 0 by omega)
    omega
  have hHI : HI = 0 := by
    rw [ep3] at hmid
    rw [ep1] at hu
    exact kd3 hu hmid lo0 p0 (Int.pow_pos (by omega)) hVn mi0 hi0
  rw [hHI] at hmid
  have hMV : M < 1000000000 * V := by
    rw [ep1] at hu
    exact kd4 hu hmid lo0 p0
  -- the true digit
  have q0 : 0 <= M / V := Int.ediv_nonneg mi0 (by omega)
  have qB : M / V < 1000000000 := Int.ediv_lt_of_lt_mul hV0 hMV
  have hdm := Int.emod_add_mul_ediv M V
  have r0 := Int.emod_nonneg M (show V ≠ 0 by omega)
  have r1 := Int.emod_lt_of_pos M hV0
  generalize hq : M / V = q at *
  generalize M % V = rr at *
  have hkn : Kn 1000000000 (1000000000 ^ n) (v.getD (n + 1) 0) (v.getD n 0) (valB 1000000000 (v.take n)) (u.getD (i + n + 2) 0 * 1000000000 + u.getD (i + n + 1) 0) (u.getD (i + n) 0) (valB 1000000000 ((u.drop i).take n)) q := by
    refine ⟨by omega, pn0, hv1, ev2.1, ev2.2, vl0, vl1, by omega, et3.1, et3.2, ul0, ul1, q0, qB, ?_, ?_⟩
    . rw [<- hM, <- hV]; exact kd5 hdm r0
    . rw [<- hM, <- hV]; exact kd5' hdm r1
  have ht : u.getD (i + n + 2) 0 * 1000000000 + u.getD (i + n + 1) 0 < 1000000000 * v.getD (n + 1) 0 + 1000000000 := kd6 hM hV hMV pn0 ev2.2 et3.1 ul0 vl1
  generalize htop : u.getD (i + n + 2) 0 * 1000000000 + u.getD (i + n + 1) 0 = top at *
  have htd := Int.emod_add_mul_ediv top (v.getD (n + 1) 0)
  have hfirst := hkn.first
  have g2 : top / v.getD (n + 1) 0 < 2000000000 := Int.ediv_lt_of_lt_mul (by omega) (by omega)
  have rt0 := Int.emod_nonneg top (show v.getD (n + 1) 0 ≠ 0 by omega)
  have rt1 := Int.emod_lt_of_pos top (show 0 < v.getD (n + 1) 0 by omega)
  obtain ⟨g, w1, w2, w3, w4⟩ := zj9 (K := K) (u := u) (v := v) (k := i) (P := 1000000000 ^ n) (vl := valB 1000000000 (v.take n)) (top := top) (ul := valB 1000000000 ((u.drop i).take n)) (q := q) (g := top / v.getD (n + 1) 0) (r := top % v.getD (n + 1) 0) hn hk hl hK
    (by rw [hnv, show n + 2 - 1 = n + 1 by omega, show n + 2 - 2 = n by omega, show i + (n + 2) - 2 = i + n by omega]; exact hkn) (by rw [hnv, show n + 2 - 1 = n + 1 by omega]; omega) (by rw [hnv, show n + 2 - 1 = n + 1 by omega]; omega) (by rw [hnv, show n + 2 - 1 = n + 1 by omega, Int.mul_comm]; omega) hfirst g2 (by omega)
  obtain ⟨b, u1, m1, m2, m3, m4, m5, m6, m7⟩ := hmin g (by omega)
  have hmid1 := zg9 u1 i (n + 3) (by omega)
  have dm1 := (m4.drop i).take (n + 3)
  have m10 := z1j (B := 1000000000) (by omega) _ dm1
  have m11 := z5y (B := 1000000000) (by omega) _ dm1
  rw [List.length_take, List.length_drop, Nat.min_eq_left (by omega)] at m11
  rw [show i + (n + 3) = i + (v.length + 1) by omega, m6, show i + (v.length + 1) = i + (n + 3) by omega, hHH, hHI, m5, hLL] at hmid1
  rw [show i + (v.length + 1) = i + (n + 3) by omega, Int.pow_add] at m7
  generalize hM1 : valB 1000000000 ((u1.drop i).take (n + 3)) = M1 at *
  have hM1e : M1 = M - g * V + 1000000000 ^ (n + 3) * b := kd7 p0 hmid1 m7 hmid
  rcases m2 with rfl | rfl
  . -- no borrow: the guess was right
    have hgq : g = q := kd8 hdm r1 hV0 hM1e m10 w2
    subst hgq
    have hM1f : M1 = M - g * V := by rw [hM1e]; omega
    exact ⟨g, false, u1, u1, g, w1, q0, w4, by simpa using m1, by simp, by simp, q0, qB, m3, m4, kd12 hmid1 hM1f hmid, kd13 p0 hmid1 hM1f hdm r1 lo1, hv1, ev1.2⟩
  . have hgq : g = q + 1 := kd9 hdm r0 hM1e m11 w2 w3
    subst hgq
    obtain ⟨u2, c, s1, s2, s3, s4, s5, s6, s7⟩ := hplu u1 m3 m4
    have hmid2 := zg9 u2 i (n + 3) (by omega)
    have dm2 := (s4.drop i).take (n + 3)
    have m20 := z1j (B := 1000000000) (by omega) _ dm2
    have m21 := z5y (B := 1000000000) (by omega) _ dm2
    rw [List.length_take, List.length_drop, Nat.min_eq_left (by omega)] at m21
    rw [show i + (n + 3) = i + (v.length + 1) by omega, s6, m6, show i + (v.length + 1) = i + (n + 3) by omega, hHH, hHI, s5, m5, hLL] at hmid2
    rw [show i + (v.length + 1) = i + (n + 3) by omega, Int.pow_add] at s7
    generalize hM2 : valB 1000000000 ((u2.drop i).take (n + 3)) = M2 at *
    have hM2e : M2 = M - q * V + 1000000000 ^ (n + 3) * (1 - c) := kd10 p0 hmid2 s7 hmid1 hM1e
    have hc : c = 1 := kd11 hdm r0 hM2e m21 s2
    subst hc
    have hM2f : M2 = M - q * V := by rw [hM2e]; omega
    exact ⟨q + 1, true, u1, u2, q, w1, by omega, w4, by simpa using m1, fun _ => ⟨s1, by omega⟩, by simp, q0, qB, by omega, s4, kd12 hmid2 hM2f hmid, kd13 p0 hmid2 hM2f hdm r1 lo1, hv1, ev1.2⟩
end Go.Am.Tryd
/- Plain law: Div and Gcd of the program's numbers. -/
namespace Go.Am.Tryd
open Go Go.Am Go.Proofs
variable {K : Nat}
theorem kf1 {Y p Z V U U2 O q : Int} (h : U + O * V = Z) (h2 : U2 + p * (q * V) = U) : U2 + (O + p * (q - 0)) * V = Z := by grind
theorem zeg {o w v u1 u2 : List Int} {i m : Nat} {g q a1 a2 v1 : Int} {b : Bool} (hn : 2 <= v.length) (hk : i + v.length + 1 <= w.length) (hl : w.length <= 8000000) (ho : i < o.length) (h1 : w.getD (i + v.length) 0 = a1) (h2 : w.getD (i + v.length - 1) 0 = a2) (h3 : v.getD (v.length - 1) 0 = v1)
    (b1 : 0 <= a1 /\ a1 < 1000000000) (b2 : 0 <= a2 /\ a2 < 1000000000) (b3 : 1 <= v1 /\ v1 < 1000000000) (hg : 0 <= g /\ g < 1000000000) (hq : 0 <= q /\ q < 1000000000) (d1 : z1z K v w i K ((a1 * 1000000000 + a2) / v1) ((a1 * 1000000000 + a2) % v1) = some g) (d4 : z34 K w v i g = some (b, u1)) (d5 : b = true -> z3v K u1 v i = some u2 /\ q = g - 1) (d6 : b = false -> u2 = u1 /\ q = g) :
    z1n K v (m + 1) o w i = z1n K v m (o.set i q) u2 ((i : Int) - 1) := by
  have t1 : ((i : Int) + (v.length : Int)).toNat = i + v.length := by omega
  have t2 : ((i : Int) + (v.length : Int) - 1).toNat = i + v.length - 1 := by omega
  have t3 : ((v.length : Int) - 1).toNat = v.length - 1 := by omega
  have hq1 : 0 <= (a1 * 1000000000 + a2) / v1 := Int.ediv_nonneg (by omega) (by omega)
  have hq2 : (a1 * 1000000000 + a2) / v1 <= a1 * 1000000000 + a2 := Int.ediv_le_self _ (by omega)
  rw [z1n]
  cases b with
  | true =>
    obtain ⟨p1, p2⟩ := d5 rfl
    subst p2
    clear d5 d6
    simp (discharger := omega) only [decide_eq_true_eq, if_pos, if_neg, if_true, if_false, z0w, z1d, z1e, idxI, z6n, sslI, lslI, k64, ku64, ku32, ku8, i64w, u64w, u32w, u8w, z6o, z6r, tu0a, tu1a, tu2a, tu3a, tu4a, tu5a, lta, z2w, z2x, z6p, z6q, Int.toNat_natCast, List.length_cons, List.length_nil, List.length_set, Int.toNat_zero, List.replicate_zero, t1, t2, t3, h1, h2, h3, d1, d4, p1]
  | false =>
    obtain ⟨p1, p2⟩ := d6 rfl
    subst p1 p2
    clear d5 d6
    simp (discharger := omega) only [decide_eq_true_eq, if_pos, if_neg, if_true, if_false, z0w, z1d, z1e, idxI, z6n, sslI, lslI, k64, ku64, ku32, ku8, i64w, u64w, u32w, u8w, z6o, z6r, tu0a, tu1a, tu2a, tu3a, tu4a, tu5a, lta, z2w, z2x, z6p, z6q, Int.toNat_natCast, List.length_cons, List.length_nil, List.length_set, Int.toNat_zero, List.replicate_zero, t1, t2, t3, h1, h2, h3, d1, d4, Bool.false_eq_true]
theorem zja {u v : List Int} {J : Nat} (hn : 2 <= v.length) (hJ : J + v.length = u.length) (hJ1 : 1 <= J) (hl : u.length <= 8000000) (hK : 2000000000 < K) (du : DigB 1000000000 u) (cv : CanB 1000000000 v) (hu : valB 1000000000 u < 1000000000 ^ J * valB 1000000000 v) :
    ∃ r : List Int × List Int, z1n K v K (List.replicate J 0) u ((J : Int) - 1) = some r /\ r.1.length = J /\ r.2.length = u.length /\ DigB 1000000000 r.1 /\ DigB 1000000000 r.2 /\ valB 1000000000 r.2 + valB 1000000000 r.1 * valB 1000000000 v = valB 1000000000 u /\ valB 1000000000 r.2 < valB 1000000000 v := by
  refine zd1 (fun m (s : List Int × List Int × Int) => z1n K v m s.1 s.2.1 s.2.2) (fun s => ∃ j : Nat, s.2.2 = (j : Int) - 1 /\ j <= J /\ s.1.length = J /\ s.2.1.length = u.length /\ DigB 1000000000 s.1 /\ DigB 1000000000 s.2.1 /\ (∀ i < j, s.1.getD i 0 = 0) /\ valB 1000000000 s.2.1 + valB 1000000000 s.1 * valB 1000000000 v = valB 1000000000 u /\ valB 1000000000 s.2.1 < 1000000000 ^ j * valB 1000000000 v) (fun s => (s.2.2 + 1).toNat) _ ?_ ((List.replicate J 0, u, (J : Int) - 1) : List Int × List Int × Int) (by dsimp only; omega) ⟨J, rfl, Nat.le_refl _, by simp, rfl, .zeros (by omega) _, du, fun i hi => by simp [zAb, hi], by simp [zcj], hu⟩
  rintro m ⟨o, w, _⟩ ⟨j, rfl, hj, h1, h2, h3, h4, h5, h6, h7⟩
  dsimp only at h1 h2 h3 h4 h5 h6 h7 ⊢
  by_cases h0 : j = 0
  . subst h0
    left
    rw [Int.pow_zero, Int.one_mul] at h7
    exact ⟨(o, w), by rw [z1n]; simp (discharger := omega) only [decide_eq_true_eq, if_pos, if_neg, if_true, if_false, z0w, z1d, z1e, idxI, z6n, sslI, lslI, k64, ku64, ku32, ku8, i64w, u64w, u32w, u8w, z6o, z6r, tu0a, tu1a, tu2a, tu3a, tu4a, tu5a, lta, z2w, z2x, z6p, z6q, Int.toNat_natCast, List.length_cons, List.length_nil, List.length_set, Int.toNat_zero, List.replicate_zero], h1, h2, h3, h4, h6, h7⟩
  . right
    obtain ⟨i, rfl⟩ : ∃ i, j = i + 1 := ⟨j - 1, by omega⟩
    have e1 : ((i + 1 : Nat) : Int) - 1 = i := by omega
    rw [e1]
    obtain ⟨g, b, u1, u2, q, d1, d2, d3, d4, d5, d6, d7, d8, d9, d10, d11, d12, d13, d14⟩ := zgb (K := K) (u := w) (v := v) (i := i) hn (by omega) (by omega) hK h4 cv h7
    have hz := h5 i (by omega)
    have hset := z93 1000000000 o i q (by omega)
    rw [hz] at hset
    have et1 := z39 (by omega) h4 (i + v.length)
    have et2 := z39 (by omega) h4 (i + v.length - 1)
    have hrun := zeg (m := m) (o := o) (a1 := w.getD (i + v.length) 0) (a2 := w.getD (i + v.length - 1) 0) (v1 := v.getD (v.length - 1) 0) hn (show i + v.length + 1 <= w.length by omega) (by omega) (by omega) rfl rfl rfl et1 et2 ⟨d13, d14⟩ ⟨d2, d3⟩ ⟨d7, d8⟩ d1 d4 d5 d6
    refine ⟨(o.set i q, u2, (i : Int) - 1), hrun, by dsimp only; omega, i, rfl, by omega, by simp [h1], by dsimp only; omega, h3.set _ ⟨d7, d8⟩, d10, fun k hk => by dsimp only; rw [za6 (by omega), if_neg (by omega)]; exact h5 k (by omega), ?_, d12⟩
    dsimp only
    rw [hset]
    exact kf1 (Y := 0) h6 d11
theorem z94 {m n : Int} {x y : List Int} (hx : NumN m x) (hy : NumN n y) (h : m <= n) : x.length <= y.length := zg2 (B := 1000000000) (by omega) hx.1 hy.1.1 (by rw [hx.2, hy.2]; exact h)
theorem kf2 {a b c : Int} (hc : 0 < c) (hb : 0 < b) : (a * c) / (b * c) = a / b /\ (a * c) % (b * c) = (a % b) * c := by
  refine ⟨Int.mul_ediv_mul_of_pos_left a b hc, ?_⟩
  rw [Int.mul_comm a c, Int.mul_comm b c, Int.mul_emod_mul_of_pos a b hc, Int.mul_comm]
theorem zib {x y : List Int} {a b : Int} (hx : x.length <= 3000000) (hy : y.length <= 3000000) (hK : 2000000000 < K) (nx : NumN a x) (ny : NumN b y) (hb : 0 < b) :
    ∃ q r, z41 K x y = some (q, r) /\ NumN (a / b) q /\ NumN (a % b) r /\ q.length <= x.length /\ r.length <= y.length := by
  have a0 := nx.nonneg
  suffices h : ∃ q r, z41 K x y = some (q, r) /\ NumN (a / b) q /\ NumN (a % b) r by
    obtain ⟨q, r, h1, h2, h3⟩ := h
    have e1 := Int.emod_lt_of_pos a hb
    exact ⟨q, r, h1, h2, h3, z94 h2 nx (Int.ediv_le_self _ a0), z94 h3 ny (by omega)⟩
  have hcmp := zi7 (K := K) (by omega) (by omega) hK nx ny
  unfold z41
  rw [hcmp, z0w]
  by_cases hab : a < b
  . refine ⟨[], x, ?_, by rw [Int.ediv_eq_zero_of_lt a0 hab]; exact .nil, by rw [Int.emod_eq_of_lt a0 hab]; exact nx⟩
    simp (discharger := omega) only [decide_eq_true_eq, if_pos, if_neg, if_true, if_false, z0w, z1d, z1e, idxI, z6n, sslI, lslI, k64, ku64, ku32, ku8, i64w, u64w, u32w, u8w, z6o, z6r, tu0a, tu1a, tu2a, tu3a, tu4a, tu5a, lta, z2w, z2x, z6p, z6q, Int.toNat_natCast, List.length_cons, List.length_nil, List.length_set, Int.toNat_zero, List.replicate_zero]
  . have hcond : decide ((if a < b then (-1 : Int) else if a = b then 0 else 1) < 0) = false := by
      rw [if_neg hab]; split <;> rfl
    rw [hcond]
    simp only [Bool.false_eq_true, if_false]
    have hy0 : y.length ≠ 0 := fun e => by have := ny.len0.1 e; omega
    by_cases h1 : y.length = 1
    . obtain ⟨d, rfl⟩ := List.length_eq_one_iff.1 h1
      have hd := ny.1.1 d (by simp)
      have hbd : b = d := by rw [<- ny.2]; simp [valB]
      subst hbd
      obtain ⟨q, r, s1, s2, s3, s4, s5⟩ := zdn (K := K) (x := x) (a := a) (d := b) (by omega) hK nx (by omega)
      refine ⟨q, r, ?_, s2, s3⟩
      have e0 : idx [b] 0 = some b := rfl
      rw [if_pos (by simp), e0, z0w, s1, z0w]
    . rw [if_neg (by simp; omega)]
      obtain ⟨yr, d, hyd⟩ := za7 y (by rintro rfl; exact hy0 rfl)
      have hd := ny.1.1 d (by rw [hyd]; simp)
      have hidx : idx y (z04 .i64 ((y.length : Int) - 1)) = some d := by
        rw [k64 (by omega) (by omega), idxI (by omega) (by omega)]
        congr 1
        subst hyd
        rw [show ((((yr ++ [d]).length : Nat) : Int) - 1).toNat = yr.length by simp, zAb]
        simp
      have hby1 : 1 <= 1000000000 / (d + 1) := by
        rw [Int.le_ediv_iff_mul_le (by omega)]; omega
      have hby2 : 1000000000 / (d + 1) <= 1000000000 := Int.ediv_le_self _ (by omega)
      have hd1 : d ≠ 0 := fun e => ny.1.2 (by rw [hyd, e]; simp)
      have hby3 : 1000000000 / (d + 1) < 1000000000 := Int.ediv_lt_of_lt_mul (by omega) (by omega)
      rw [hidx, z0w, u64w (a := d) (by omega) (by omega), ku64 (a := d + 1) (by omega) (by omega), if_pos (by omega), z6o (by omega), ku64 (by omega) (by omega), lta]
      rw [u32w (by omega) (by omega)]
      generalize 1000000000 / (d + 1) = c at hby1 hby2 hby3
      have nc : NumN c [c] := .one (by omega) hby3
      obtain ⟨u0, m1, m2, m3⟩ := zi9 (K := K) (x := x) (y := [c]) (by simp; omega) hK nx nc
      obtain ⟨v, w1, w2, w3⟩ := zi9 (K := K) (x := y) (y := [c]) (by simp; omega) hK ny nc
      simp only [List.length_singleton] at m3 w3
      have ac : a <= a * c := by have := z3j a0 hby1; omega
      have bc : b <= b * c := by have := z3j (show 0 <= b by omega) hby1; omega
      have abc : b * c <= a * c := Int.mul_le_mul_of_nonneg_right (by omega) (by omega)
      have lx := z94 nx m2 ac
      have ly := z94 ny w2 bc
      have hy2 : 2 <= y.length := by omega
      have hv2 : 2 <= v.length := by omega
      have lv := z94 w2 m2 abc
      have hl0 : z3a K x K (u0 ++ [0]) = some (u0 ++ [0]) := by
        obtain ⟨k, rfl⟩ : ∃ k, K = k + 1 := ⟨K - 1, by omega⟩
        rw [z3a]
        have e : decide (((u0 ++ [0]).length : Int) <= (x.length : Int)) = false := decide_eq_false (by simp; omega)
        rw [e]; rfl
      have du : DigB 1000000000 (u0 ++ [0]) := m2.1.1.snoc (by omega)
      have hvu : valB 1000000000 (u0 ++ [0]) = a * c := by rw [zbq, m2.2]; omega
      have hlen : (u0 ++ [(0 : Int)]).length = u0.length + 1 := by simp
      obtain ⟨J, hJ⟩ : ∃ J, J + v.length = u0.length + 1 := ⟨u0.length + 1 - v.length, by omega⟩
      have hbound : a * c < 1000000000 ^ J * (b * c) := by
        have b1 := z5y (B := 1000000000) (by omega) u0 m2.1.1
        have b2 := zj3 (B := 1000000000) (by omega) w2.1 (by intro e; rw [e] at hv2; simp at hv2)
        rw [m2.2] at b1
        rw [w2.2] at b2
        have pJ : (0 : Int) < 1000000000 ^ J := Int.pow_pos (by omega)
        have b3 := z3j (Int.le_of_lt pJ) b2
        rw [<- Int.pow_add, show J + (v.length - 1) = u0.length by omega] at b3
        omega
      obtain ⟨⟨o, w⟩, l1, l2, l3, l4, l5, l6, l7⟩ := zja (K := K) (u := u0 ++ [0]) (v := v) (J := J) (by omega) (by omega) (by omega) (by omega) hK du w2.1 (by rw [hvu, w2.2]; exact hbound)
      dsimp only at l2 l3 l4 l5 l6 l7
      rw [hvu, w2.2] at l6
      rw [w2.2] at l7
      have o0 := z1j (B := 1000000000) (by omega) o l4
      have w0 := z1j (B := 1000000000) (by omega) w l5
      have hbc0 : 0 < b * c := Int.mul_pos hb (by omega)
      obtain ⟨q1, q2⟩ := za9 (n := a * c) (d := b * c) (q := valB 1000000000 o) (r := valB 1000000000 w) hbc0 (by rw [Int.mul_comm (b * c)]; omega) w0 l7
      obtain ⟨k1, k2⟩ := kf2 (a := a) (b := b) (c := c) (by omega) hb
      rw [k1] at q1
      rw [k2] at q2
      obtain ⟨t, t1, t2, t3, t4⟩ := zaw (K := K) (B := 1000000000) (l := w) (by omega) hK l5
      obtain ⟨z, z1, z2, z3, z4⟩ := zaw (K := K) (B := 1000000000) (l := o) (by omega) hK l4
      obtain ⟨rq, rr, s1, s2, s3, s4, s5⟩ := zdn (K := K) (x := t) (a := a % b * c) (d := c) (by omega) hK ⟨t2, by rw [t3]; exact q2⟩ (by omega)
      rw [Int.mul_ediv_cancel _ (by omega)] at s2
      refine ⟨z, rq, ?_, ⟨z2, by rw [z3]; exact q1⟩, s2⟩
      rw [m1, z0w, if_pos (by simp; omega), w1, z0w, hl0, z0w, tu1a, lta, hlen]
      have e1 : (((u0.length + 1 : Nat) : Int) - (v.length : Int)) = (J : Int) := by omega
      rw [e1, k64 (by omega) (by omega), if_pos (by omega), lta, k64 (by omega) (by omega), Int.toNat_natCast, l1, z0w, tu2a, t1, z0w, s1, z0w, z1, z0w]
theorem zgc (a b : Nat) (hb : 0 < b) : Nat.gcd b (a % b) = Nat.gcd a b := by
  rw [Nat.gcd_comm a b, Nat.gcd_rec b a, Nat.gcd_comm]
theorem zdv : ∀ (n k : Nat) {x y : List Int} {a b : Nat}, a * b < 2 ^ n -> b <= a -> n + 2 < k -> x.length <= 3000000 -> y.length <= 3000000 -> 2000000000 < K -> NumN a x -> NumN b y -> ∃ z, z0y K k x y = some z /\ NumN (Nat.gcd a b : Nat) z := by
  intro n
  induction n with
  | zero =>
    intro k x y a b hab hba hk hx hy hK nx ny
    have hb : b = 0 := by
      rcases Nat.eq_zero_or_pos b with h | h
      . exact h
      . have := Nat.mul_pos (show 0 < a by omega) h; omega
    subst hb
    obtain ⟨k, rfl⟩ : ∃ m, k = m + 1 := ⟨k - 1, by omega⟩
    have : y = [] := ny.nil_iff.2 rfl
    subst this
    exact ⟨x, by rw [z0y]; rfl, by rw [Nat.gcd_zero_right]; exact nx⟩
  | succ n ih =>
    intro k x y a b hab hba hk hx hy hK nx ny
    obtain ⟨k, rfl⟩ : ∃ m, k = m + 1 := ⟨k - 1, by omega⟩
    by_cases hb : b = 0
    . subst hb
      have : y = [] := ny.nil_iff.2 rfl
      subst this
      exact ⟨x, by rw [z0y]; rfl, by rw [Nat.gcd_zero_right]; exact nx⟩
    . obtain ⟨q, r, d1, d2, d3, d4, d5⟩ := zib (K := K) hx hy hK nx ny (by omega)
      have e : ((a : Int) % (b : Int)) = ((a % b : Nat) : Int) := by simp
      rw [e] at d3
      have hr := Nat.mod_lt a (show 0 < b by omega)
      have hprod : b * (a % b) < 2 ^ n := by
        have h1 : b + a % b <= a := by
          have h2 := Nat.div_add_mod a b
          have h3 : 1 <= a / b := (Nat.le_div_iff_mul_le (by omega)).2 (by omega)
          have h4 := Nat.mul_le_mul_left b h3
          omega
        have h5 := Nat.mul_le_mul_left b (show 2 * (a % b) <= a by omega)
        rw [Nat.pow_succ] at hab
        have h6 : b * (2 * (a % b)) = 2 * (b * (a % b)) := by grind
        rw [Nat.mul_comm a b] at hab
        omega
      obtain ⟨z, z1, z2⟩ := ih k hprod (by omega) (by omega) hy (by omega) hK ny d3
      refine ⟨z, ?_, by rw [<- zgc a b (by omega)]; exact z2⟩
      have hy0 : y.length ≠ 0 := fun e => by have := ny.len0.1 e; omega
      rw [z0y, if_pos (decide_eq_true (by omega)), d1, z0w, z1]
theorem zck {n : Nat} {x : List Int} (h : NumN n x) : n < 2 ^ (30 * x.length) := by
  have h1 := z5y (B := 1000000000) (by omega) x h.1.1
  rw [h.2] at h1
  have h2 : ((1000000000 : Nat) : Int) ^ x.length = ((1000000000 ^ x.length : Nat) : Int) := by simp
  have h3 : n < 1000000000 ^ x.length := by
    have h4 : (1000000000 : Int) = ((1000000000 : Nat) : Int) := rfl
    rw [h4, h2] at h1
    omega
  have h5 : (1000000000 : Nat) ^ x.length <= (2 ^ 30) ^ x.length := Nat.pow_le_pow_left (by decide) _
  rw [<- Nat.pow_mul] at h5
  omega
theorem zk8 {x y : List Int} {a b : Nat} (hx : x.length <= 3000000) (hy : y.length <= 3000000) (hK : 2000000000 < K) (nx : NumN a x) (ny : NumN b y) : ∃ z, z5n K x y = some z /\ NumN (Nat.gcd a b : Nat) z := by
  have hp : a * b < 2 ^ (30 * x.length + 30 * y.length) := by
    rw [Nat.pow_add]
    have h1 := zck nx
    have h2 := zck ny
    exact Nat.mul_lt_mul_of_lt_of_le h1 (Nat.le_of_lt h2) (Nat.pow_pos (by omega))
  have key : ∃ z, z0y K K x y = some z /\ NumN (Nat.gcd a b : Nat) z := by
    by_cases hba : b <= a
    . exact zdv _ K hp hba (by omega) hx hy hK nx ny
    . obtain ⟨k, hk⟩ : ∃ k, K = k + 1 := ⟨K - 1, by omega⟩
      obtain ⟨q, r, d1, d2, d3, d4, d5⟩ := zib (K := K) hx hy hK nx ny (by omega)
      rw [Int.emod_eq_of_lt (by omega) (by omega)] at d3
      have hrx : r = x := d3.inj nx
      subst hrx
      obtain ⟨z, z1, z2⟩ := zdv (K := K) _ k (by rw [Nat.mul_comm]; exact hp) (by omega) (by omega) hy hx hK ny nx
      refine ⟨z, ?_, by rw [Nat.gcd_comm]; exact z2⟩
      have hy0 : y.length ≠ 0 := fun e => by have := ny.len0.1 e; omega
      have : z0y K K r y = z0y K (k + 1) r y := by rw [<- hk]
      rw [this, z0y, if_pos (decide_eq_true (by omega)), d1, z0w, z1]
  obtain ⟨z, z1, z2⟩ := key
  exact ⟨z, by unfold z5n; rw [z1]; rfl, z2⟩
end Go.Am.Tryd
/- Plain law: the reference's quotient and divisor of texts. -/
namespace Go.Am.Tryd
open Go Go.Am Go.Proofs
variable {K : Nat}
theorem zgd {c : Int} (h : 48 <= c /\ c <= 57) : z06 (Utf8.encode c) = [c] /\ (Utf8.encode c).size = 1 := by
  obtain ⟨n, rfl⟩ : ∃ n : Nat, c = n := ⟨c.toNat, by omega⟩
  have hn : n = 48 \/ n = 49 \/ n = 50 \/ n = 51 \/ n = 52 \/ n = 53 \/ n = 54 \/ n = 55 \/ n = 56 \/ n = 57 := by omega
  rcases hn with rfl | rfl | rfl | rfl | rfl | rfl | rfl | rfl | rfl | rfl <;> exact ⟨by decide +kernel, by decide +kernel⟩
theorem ks1 {R b d R0 : Int} (h : R + (d - 48) * b = R0) : R - b + (d + 1 - 48) * b = R0 := by grind
theorem zk9 {b : zAd} {r0 : zAd} (hb : b.size <= 500000) (hr : r0.size <= 1000000) (hK : 2000000000 < K) (cb : CanT b) (c0 : CanT r0) (hb0 : 0 < numT b) (hlt : numT r0 < 10 * numT b) :
    ∃ r : zAd × Int, z2p K b K r0 48 = some r /\ CanT r.1 /\ (48 <= r.2 /\ r.2 <= 57) /\ numT r.1 + (r.2 - 48) * numT b = numT r0 /\ numT r.1 < numT b := by
  refine zd1 (fun k (s : zAd × Int) => z2p K b k s.1 s.2) (fun s => CanT s.1 /\ s.1.size <= 1000000 /\ (48 <= s.2 /\ s.2 <= 57) /\ numT s.1 + (s.2 - 48) * numT b = numT r0) (fun s => (57 - s.2).toNat) _ ?_ ((r0, 48) : zAd × Int) (by dsimp only; omega) ⟨c0, hr, by dsimp only; omega, by dsimp only; omega⟩
  rintro k ⟨r, d⟩ ⟨h1, h2, h3, h4⟩
  dsimp only at h1 h2 h3 h4 ⊢
  have hcmp := zk6 (K := K) h1 cb
  have r0' := z4q h1.2.1
  by_cases hge : numT b <= numT r
  . right
    obtain ⟨t, t1, t2, t3⟩ := zk4 (K := K) (a := r) (b := b) h2 (z7m h1 cb hge) (by have := h1.1; omega) (by omega) h1.2.1 cb.2.1 hge
    have hd : d <= 56 := by
      refine Int.not_lt.1 fun hlt2 => ?_
      have : d = 57 := by omega
      subst this
      omega
    refine ⟨(t, d + 1), ?_, by dsimp only; omega, t2, ?_, by dsimp only; omega, by dsimp only; rw [t3]; exact ks1 h4⟩
    . rw [z2p, hcmp, z0w]
      rw [if_pos (decide_eq_true (by rw [if_neg (by omega)]; split <;> omega)), t1, z0w, ku8 (by omega) (by omega)]
    . dsimp only
      have := z7m h1 t2 (by rw [t3]; omega)
      omega
  . left
    refine ⟨(r, d), ?_, h1, h3, h4, by dsimp only; omega⟩
    rw [z2p, hcmp, z0w]
    have e : decide ((if numT r < numT b then (-1 : Int) else if numT r = numT b then 0 else 1) >= 0) = false := by
      rw [if_pos (by omega)]; rfl
    rw [e]; rfl
theorem ks3 {Q b R R2 A c d : Int} (h : Q * b + R = A) (h2 : R2 + d * b = R * 10 + c) : (Q * 10 + d) * b + R2 = A * 10 + c := by grind
theorem zhs {a b r0 : zAd} {f : Nat} (ha : a.size <= 500000) (hb : b.size <= 500000) (hK : 2000000000 < K) (da : (z06 a).all digT = true) (cb : CanT b) (hb0 : 0 < numT b) (hf : f <= a.size) (c0 : CanT r0) (hs0 : r0.size <= 500000) (h0 : numT r0 = numB ((z06 a).take f)) (hlt : numT r0 < numT b) :
    ∃ r : zAd × zAd, z2q K a b K ⟨#[48]⟩ r0 f = some r /\ r.1.size <= a.size + 1 /\ 0 < r.1.size /\ (z06 r.1).all digT = true /\ CanT r.2 /\ numT r.1 * numT b + numT r.2 = numT a /\ numT r.2 < numT b := by
  have hn := z03 a
  refine zd1 (fun k (s : zAd × zAd × Int) => z2q K a b k s.1 s.2.1 s.2.2) (fun s => ∃ i : Nat, s.2.2 = i /\ i <= a.size /\ 0 < s.1.size /\ s.1.size <= i + 1 /\ (z06 s.1).all digT = true /\ CanT s.2.1 /\ numT s.1 * numT b + numT s.2.1 = numB ((z06 a).take i) /\ numT s.2.1 < numT b /\ s.2.1.size <= 500000) (fun s => (a.size - s.2.2 : Int).toNat) _ ?_ ((⟨#[48]⟩, r0, (f : Int)) : zAd × zAd × Int) (by dsimp only; omega) ⟨f, rfl, hf, by show 0 < 1; omega, by show 1 <= f + 1; omega, rfl, c0, by rw [<- h0]; show numT ⟨#[48]⟩ * numT b + numT r0 = numT r0; rw [z8q]; omega, hlt, hs0⟩
  rintro k ⟨q, r, _⟩ ⟨i, rfl, h1, h2, h3, h4, h5, h6, h7, h8⟩
  dsimp only at h2 h3 h4 h5 h6 h7 h8 ⊢
  by_cases hi : i < a.size
  . right
    have hc := zdq da (i := i) (by omega)
    have hsn := zdp (l := z06 a) (i := i) (by omega)
    generalize hcc : (z06 a).getD i 0 = c at hc hsn
    obtain ⟨e, he1, he2, he3⟩ : ∃ e, ssl a i ((i : Int) + 1) = some e /\ z06 e = [c] /\ e.size = 1 := by
      refine ⟨_, sslI (by omega) (by omega) (by omega), ?_, ?_⟩
      . rw [z2d, Int.toNat_natCast, show ((i : Int) + 1).toNat - i = 1 by omega, List.drop_eq_getElem_cons (by omega), List.take_succ_cons, List.take_zero]
        rw [zAb, zAh (by omega)] at hcc
        simpa using hcc
      . rw [<- z03, z2d, List.length_take, List.length_drop]; omega
    have hbr : z06 (r ++ e) = z06 r ++ [c] := by rw [z5i, he2]
    have hdr : (z06 (r ++ e)).all digT = true := by rw [hbr, List.all_append, h5.2.1]; simpa using digT_iff.2 hc
    have hsr : (r ++ e).size = r.size + 1 := by rw [<- z03, hbr, List.length_append, z03]; rfl
    obtain ⟨t, t1, t2, t3⟩ := z9n (K := K) (s := r ++ e) (by omega) (by omega) (by omega) hdr
    have hnr : numT (r ++ e) = numT r * 10 + (c - 48) := by rw [zhn, hbr, z9m]; rfl
    have htl : numT t < 10 * numT b := by rw [t3, hnr]; omega
    have hts : t.size <= 1000000 := by
      have := z7m (b := t) (a := t) t2 t2 (Int.le_refl _)
      refine Nat.not_lt.1 fun hlt2 => ?_
      have g1 := zdt t2 (by omega)
      have g2 := zds hdr
      have g3 : (10 : Int) ^ (r ++ e).size <= 10 ^ (t.size - 1) := za8 (by omega) (by omega)
      omega
    obtain ⟨⟨r2, d⟩, s1, s2, s3, s4, s5⟩ := zk9 (K := K) (b := b) (r0 := t) hb hts hK cb t2 hb0 htl
    dsimp only at s2 s3 s4 s5
    obtain ⟨n1, n2⟩ := zgd s3
    have hbq : z06 (q ++ Utf8.encode d) = z06 q ++ [d] := by rw [z5i, n1]
    have hsq : (q ++ Utf8.encode d).size = q.size + 1 := by rw [<- z03, hbq, List.length_append, z03]; rfl
    have hr2s : r2.size <= 500000 := by
      have := z7m cb s2 (by omega)
      omega
    refine ⟨(q ++ Utf8.encode d, r2, (i : Int) + 1), ?_, by dsimp only; omega, i + 1, rfl, by omega, by dsimp only; omega, by dsimp only; omega, ?_, s2, ?_, s5, hr2s⟩
    . rw [z2q, if_pos (decide_eq_true (by omega)), k64 (by omega) (by omega), he1, z0w, if_pos (by omega), t1, z0w, s1, z0w, tu2a, if_pos (by dsimp only; omega)]
    . dsimp only; rw [hbq, List.all_append, h4]; simpa using digT_iff.2 s3
    . dsimp only
      rw [hsn, z9m, zhn (q ++ Utf8.encode d), hbq, z9m]
      refine ks3 h6 ?_
      rw [s4, t3, hnr]
  . left
    have : i = a.size := by omega
    subst this
    rw [List.take_of_length_le (by omega)] at h6
    exact ⟨(q, r), by rw [z2q]; simp (discharger := omega) only [decide_eq_true_eq, if_pos, if_neg, if_true, if_false, z0w, z1d, z1e, idxI, z6n, sslI, lslI, k64, ku64, ku32, ku8, i64w, u64w, u32w, u8w, z6o, z6r, tu0a, tu1a, tu2a, tu3a, tu4a, tu5a, lta, z2w, z2x, z6p, z6q, Int.toNat_natCast, List.length_cons, List.length_nil, List.length_set, Int.toNat_zero, List.replicate_zero], h3, h2, h4, h5, h6, h7⟩
theorem zic {a b : zAd} (ha : a.size <= 400000) (hb : b.size <= 400000) (hK : 2000000000 < K) (ca : CanT a) (cb : CanT b) (hb0 : 0 < numT b) :
    ∃ q r, z76 K a b = some (q, r) /\ CanT q /\ CanT r /\ numT q = numT a / numT b /\ numT r = numT a % numT b := by
  have hn := z03 a
  have hcb := cb.1
  obtain ⟨f, hf1, hf2, hf3⟩ : ∃ f : Nat, imin (a.size : Int) (z04 .i64 ((b.size : Int) - 1)) = f /\ f <= a.size /\ f <= b.size - 1 := by
    rw [k64 (by omega) (by omega)]
    unfold imin
    by_cases h : (b.size : Int) - 1 < a.size
    . exact ⟨b.size - 1, by rw [if_pos h]; omega, by omega, by omega⟩
    . exact ⟨a.size, by rw [if_neg h], by omega, by omega⟩
  have hx : ssl a 0 (f : Int) = some (a.extract 0 f) := by rw [sslI (by omega) (by omega) (by omega)]; rfl
  have hxb : z06 (a.extract 0 f) = (z06 a).take f := by rw [z2d]; simp
  have hxs : (a.extract 0 f).size = f := by rw [<- z03, hxb, List.length_take]; omega
  have hzb : z06 ((⟨#[48]⟩ : zAd) ++ a.extract 0 f) = 48 :: (z06 a).take f := by rw [z5i, hxb]; rfl
  have hzs : ((⟨#[48]⟩ : zAd) ++ a.extract 0 f).size = f + 1 := by rw [<- z03, hzb, List.length_cons, List.length_take]; omega
  have hzd : (z06 ((⟨#[48]⟩ : zAd) ++ a.extract 0 f)).all digT = true := by rw [hzb, List.all_cons, zaa ca.2.1]; rfl
  obtain ⟨t, t1, t2, t3⟩ := z9n (K := K) (s := (⟨#[48]⟩ : zAd) ++ a.extract 0 f) (by omega) (by omega) (by omega) hzd
  have hv : numT t = numB ((z06 a).take f) := by rw [t3, zhn, hzb, zdo]; simp
  have hlt : numT t < numT b := by
    have d1 := zax (zaa ca.2.1 f)
    rw [List.length_take, Nat.min_eq_left (by omega)] at d1
    rw [hv]
    by_cases h2 : 2 <= b.size
    . have d2 := zdt cb h2
      have d3 : (10 : Int) ^ f <= 10 ^ (b.size - 1) := za8 (by omega) hf3
      omega
    . have : f = 0 := by omega
      subst this
      rw [List.take_zero, zbr]; exact hb0
  have hts : t.size <= 500000 := by
    have := z7m cb t2 (by omega)
    omega
  obtain ⟨⟨q, r⟩, s1, s2, s3, s4, s5, s6, s7⟩ := zhs (K := K) (a := a) (b := b) (r0 := t) (f := f) (by omega) (by omega) hK ca.2.1 cb hb0 hf2 t2 hts hv hlt
  dsimp only at s2 s3 s4 s5 s6 s7
  obtain ⟨u, u1, u2, u3⟩ := z9n (K := K) (s := q) (by omega) s3 (by omega) s4
  obtain ⟨e1, e2⟩ := za9 (n := numT a) (d := numT b) (q := numT q) (r := numT r) hb0 (by rw [Int.mul_comm]; omega) (z4q s5.2.1) s7
  refine ⟨u, r, ?_, u2, s5, by rw [u3, e1], e2⟩
  unfold z76
  rw [hf1, hx, z0w, if_pos (by rw [hxs]; show 1 + f <= _; omega), t1, z0w, s1, z0w, tu2a, u1, z0w]
theorem zdw : ∀ (n k : Nat) {x y : zAd} {a b : Nat}, a * b < 2 ^ n -> b <= a -> n + 2 < k -> x.size <= 400000 -> y.size <= 400000 -> 2000000000 < K -> CanT x -> CanT y -> numT x = a -> numT y = b -> ∃ z, z1a K k x y = some z /\ CanT z /\ numT z = (Nat.gcd a b : Nat) := by
  intro n
  have hend : ∀ (k : Nat) {x y : zAd} {a : Nat}, 0 < k -> CanT x -> CanT y -> numT x = a -> numT y = (0 : Nat) -> ∃ z, z1a K k x y = some z /\ CanT z /\ numT z = (Nat.gcd a 0 : Nat) := by
    intro k x y a hk cx cy nx ny
    obtain ⟨k, rfl⟩ : ∃ m, k = m + 1 := ⟨k - 1, by omega⟩
    have : y = ⟨#[48]⟩ := (zj7 cy).1 (by simpa using ny)
    subst this
    have e : sEq (⟨#[48]⟩ : zAd) ⟨#[48]⟩ = true := sEq_iff.2 rfl
    exact ⟨x, by rw [z1a, e]; rfl, cx, by rw [Nat.gcd_zero_right]; exact nx⟩
  induction n with
  | zero =>
    intro k x y a b hab hba hk hx hy hK cx cy nx ny
    have hb : b = 0 := by
      rcases Nat.eq_zero_or_pos b with h | h
      . exact h
      . have := Nat.mul_pos (show 0 < a by omega) h; omega
    subst hb
    exact hend k (by omega) cx cy nx ny
  | succ n ih =>
    intro k x y a b hab hba hk hx hy hK cx cy nx ny
    by_cases hb : b = 0
    . subst hb; exact hend k (by omega) cx cy nx ny
    . obtain ⟨k, rfl⟩ : ∃ m, k = m + 1 := ⟨k - 1, by omega⟩
      obtain ⟨q, r, d1, d2, d3, d4, d5⟩ := zic (K := K) hx hy hK cx cy (by omega)
      rw [nx, ny] at d5
      have e : ((a : Int) % (b : Int)) = ((a % b : Nat) : Int) := by simp
      rw [e] at d5
      have hr := Nat.mod_lt a (show 0 < b by omega)
      have hprod : b * (a % b) < 2 ^ n := by
        have h1 : b + a % b <= a := by
          have h2 := Nat.div_add_mod a b
          have h3 : 1 <= a / b := (Nat.le_div_iff_mul_le (by omega)).2 (by omega)
          have h4 := Nat.mul_le_mul_left b h3
          omega
        have h5 := Nat.mul_le_mul_left b (show 2 * (a % b) <= a by omega)
        rw [Nat.pow_succ] at hab
        have h6 : b * (2 * (a % b)) = 2 * (b * (a % b)) := by grind
        rw [Nat.mul_comm a b] at hab
        omega
      have hrs := z7m cy d3 (by rw [ny, d5]; omega)
      obtain ⟨z, z1, z2, z3⟩ := ih k hprod (by omega) (by omega) hy (by omega) hK cy d3 ny d5
      refine ⟨z, ?_, z2, by rw [<- zgc a b (by omega)]; exact z3⟩
      have e0 : sEq y ⟨#[48]⟩ = false := by
        cases e : sEq y ⟨#[48]⟩ with
        | false => rfl
        | true => rw [sEq_iff] at e; subst e; rw [z8q] at ny; omega
      rw [z1a, e0]
      simp only [Bool.not_false, if_true]
      rw [d1, z0w, z1]
theorem zay {n : Nat} {x : zAd} (h : (z06 x).all digT = true) (hn : numT x = n) : n < 2 ^ (4 * x.size) := by
  have h1 := zds h
  rw [hn] at h1
  have h2 : ((10 : Nat) : Int) ^ x.size = ((10 ^ x.size : Nat) : Int) := by simp
  have h3 : n < 10 ^ x.size := by
    have h4 : (10 : Int) = ((10 : Nat) : Int) := rfl
    rw [h4, h2] at h1
    omega
  have h5 : (10 : Nat) ^ x.size <= (2 ^ 4) ^ x.size := Nat.pow_le_pow_left (by decide) _
  rw [<- Nat.pow_mul] at h5
  omega
theorem zka {x y : zAd} {a b : Nat} (hx : x.size <= 400000) (hy : y.size <= 400000) (hK : 2000000000 < K) (cx : CanT x) (cy : CanT y) (nx : numT x = a) (ny : numT y = b) : ∃ z, z77 K x y = some z /\ CanT z /\ numT z = (Nat.gcd a b : Nat) := by
  have hp : a * b < 2 ^ (4 * x.size + 4 * y.size) := by
    rw [Nat.pow_add]
    exact Nat.mul_lt_mul_of_lt_of_le (zay cx.2.1 nx) (Nat.le_of_lt (zay cy.2.1 ny)) (Nat.pow_pos (by omega))
  have key : ∃ z, z1a K K x y = some z /\ CanT z /\ numT z = (Nat.gcd a b : Nat) := by
    by_cases hba : b <= a
    . exact zdw _ K hp hba (by omega) hx hy hK cx cy nx ny
    . obtain ⟨k, hk⟩ : ∃ k, K = k + 1 := ⟨K - 1, by omega⟩
      obtain ⟨q, r, d1, d2, d3, d4, d5⟩ := zic (K := K) hx hy hK cx cy (by omega)
      rw [Int.emod_eq_of_lt (z4q cx.2.1) (by omega)] at d5
      have hrx : r = x := z92 d3 cx d5
      subst hrx
      obtain ⟨z, z1, z2, z3⟩ := zdw (K := K) _ k (by rw [Nat.mul_comm]; exact hp) (by omega) (by omega) hy hx hK cy cx ny nx
      refine ⟨z, ?_, z2, by rw [Nat.gcd_comm]; exact z3⟩
      have e0 : sEq y ⟨#[48]⟩ = false := by
        cases e : sEq y ⟨#[48]⟩ with
        | false => rfl
        | true => rw [sEq_iff] at e; subst e; rw [z8q] at ny; omega
      have : z1a K K r y = z1a K (k + 1) r y := by rw [<- hk]
      rw [this, z1a, e0]
      simp only [Bool.not_false, if_true]
      rw [d1, z0w, z1]
  obtain ⟨z, z1, z2⟩ := key
  exact ⟨z, by unfold z77; rw [z1]; rfl, z2⟩
end Go.Am.Tryd
/- Plain law: a number's error. -/
namespace Go.Am.Tryd
open Go Go.Am Go.Proofs
variable {K : Nat} {s : zAd}
def digB (c : Int) : Bool := decide (48 <= c) && decide (c <= 57)
theorem zd2 : ∀ (l : List Int), runS (fun c (_ : Unit) => if digB c then .inr () else .inl (5 : Int)) l () = if l.all digB then .inr () else .inl 5
  | [] => rfl
  | x :: l => by
    simp only [runS, List.all_cons]
    by_cases hp : digB x = true
    . simp only [hp, if_true, Bool.true_and, Sum.elim_inr]; exact zd2 l
    . simp [hp]
theorem zkb {α : Type} (c : Int) (A B : Option α) : Option.bind (if (decide (c < 48)) = true then some true else some (decide (c > 57))) (tu1 fun x => if x = true then A else B) = if digB c = true then B else A := by
  unfold digB
  by_cases h1 : c < 48 <;> by_cases h2 : c > 57 <;> simp [h1, h2, tu1, show ¬ (48 : Int) <= c ↔ c < 48 by omega] <;> (try split) <;> (try omega) <;> rfl
theorem zeh (hs : s.size <= 1048576) (hK : s.size < K) : z17 K s K 0 = some (if (z06 s).all digB then .inr () else .inl 5) := by
  have hn := z03 s
  have h : z17 K s K 0 = _ := zdl (z06 s) (fun k (_ : Unit) i => z17 K s k i) (fun c (_ : Unit) => if digB c then .inr () else .inl (5 : Int)) (fun _ _ => True)
    (fun k _ i x hx _ => by
      have hi := (zAi hx).1
      show z17 K s (k + 1) i = _
      rw [z17, zhh hi, if_pos rfl, z78 hx]
      simp only [Option.bind_some, zkb, kw1 hi (by omega)]
      cases digB x <;> simp)
    (fun _ _ _ _ _ _ _ => trivial)
    (fun k _ i hi => by
      show z17 K s (k + 1) i = _
      rw [z17, zdk hi]; simp) K () (by omega) trivial
  rw [h, zd2]
theorem zge (hs : s.size <= 1048576) (hK : s.size < K) : z0x K s K 0 = some (if (z06 s).all digB then .inr () else .inl 5) := by
  have hn := z03 s
  have h : z0x K s K 0 = _ := zdl (z06 s) (fun k (_ : Unit) i => z0x K s k i) (fun c (_ : Unit) => if digB c then .inr () else .inl (5 : Int)) (fun _ _ => True)
    (fun k _ i x hx _ => by
      have hi := (zAi hx).1
      show z0x K s (k + 1) i = _
      rw [z0x, <- hn, zhh hi, if_pos rfl, za4, z78 hx]
      simp only [Option.bind_some, zkb, kw1 hi (by omega)]
      cases digB x <;> simp)
    (fun _ _ _ _ _ _ _ => trivial)
    (fun k _ i hi => by
      show z0x K s (k + 1) i = _
      rw [z0x, <- hn, zdk hi]; simp) K () (by omega) trivial
  rw [h, zd2]
def natE (s : zAd) : Int := if s.size = 0 then 5 else if (z06 s).head? = some 48 /\ s.size > 1 then 5 else if !(z06 s).all digB then 5 else if s.size > 2000 then 2 else 0
theorem zkc : sEq s ⟨#[]⟩ = (s.size == 0) := by
  cases hq : sEq s ⟨#[]⟩ with
  | true => rw [sEq_iff] at hq; subst hq; rfl
  | false =>
    have : s.size ≠ 0 := fun h => by
      have : s = ⟨#[]⟩ := by
        cases s with
        | mk d => congr 1; exact Array.eq_empty_of_size_eq_zero h
      rw [sEq_iff.2 this] at hq; cases hq
    simp [this]
theorem zgf (h : s.size ≠ 0) : ∃ c, bidx s 0 = some c /\ (z06 s).head? = some c := by
  have hn := z03 s
  cases hb : z06 s with
  | nil => rw [hb] at hn; simp at hn; omega
  | cons c l => exact ⟨c, by rw [za4, hb]; rfl, rfl⟩
theorem zcl (hs : s.size <= 1048576) (hK : s.size < K) : z5m K s = some (natE s) := by
  unfold z5m natE
  rw [zeh hs hK, zkc]
  by_cases h0 : s.size = 0
  . simp [h0, tu1]
  . obtain ⟨c, h1, h2⟩ := zgf h0
    rw [h1, h2]
    have h0' : (s.size == 0) = false := by simpa using h0
    by_cases hc : c = 48 <;> by_cases h3 : s.size > 1 <;> by_cases h4 : s.size > 2000 <;> cases h5 : (z06 s).all digB <;>
      simp [h0, h0', hc, h3, h4, h5, tu1, tu0, zbu, show ((s.size : Int) > 1) ↔ s.size > 1 by omega, show ((s.size : Int) > 2000) ↔ s.size > 2000 by omega] <;> omega
theorem z9o (hs : s.size <= 1048576) (hK : s.size < K) : z4m K s = some (natE s) := by
  unfold z4m natE
  rw [zge hs hK]
  by_cases h0 : s.size = 0
  . simp [h0, tu1]
  . obtain ⟨c, h1, h2⟩ := zgf h0
    rw [h1, h2]
    have h0' : ((s.size : Int) == 0) = false := by rw [beq_eq_false_iff_ne]; omega
    by_cases hc : c = 48 <;> by_cases h3 : s.size > 1 <;> by_cases h4 : s.size > 2000 <;> cases h5 : (z06 s).all digB <;>
      simp [h0, h0', hc, h3, h4, h5, tu1, tu0, zbu, show ((s.size : Int) > 1) ↔ s.size > 1 by omega, show ((s.size : Int) > 2000) ↔ s.size > 2000 by omega] <;> omega
theorem zkd : digB = digT := rfl
theorem zaz (s : zAd) : natE s = 0 ↔ CanT s /\ s.size <= 2000 := by
  unfold natE CanT
  rw [zkd]
  by_cases h0 : s.size = 0
  . simp [h0]
  . by_cases h1 : (z06 s).head? = some 48 /\ s.size > 1
    . rw [if_neg h0, if_pos h1]
      constructor
      . intro h; cases h
      . rintro ⟨⟨_, _, h⟩, _⟩; have := h h1.1; omega
    . rw [if_neg h0, if_neg h1]
      cases h2 : (z06 s).all digT with
      | false => simp
      | true =>
        simp only [Bool.not_true, Bool.false_eq_true, if_false]
        by_cases h3 : s.size > 2000
        . rw [if_pos h3]; constructor
          . intro h; cases h
          . rintro ⟨_, h⟩; omega
        . rw [if_neg h3]
          exact ⟨fun _ => ⟨⟨h0, trivial, fun e => by
            refine Nat.le_antisymm (Nat.not_lt.1 fun h => h1 ⟨e, h⟩) (by omega)⟩, by omega⟩, fun _ => rfl⟩
end Go.Am.Tryd
/- Plain law: lists of texts; one. -/
namespace Go.Am.Tryd
open Go Go.Am Go.Proofs
variable {K : Nat}
theorem zl9 {s t : zAd} (h : s ≠ t) : sEq s t = false := by
  cases e : sEq s t with
  | false => rfl
  | true => exact absurd (sEq_iff.1 e) h
theorem zke (hK : 2000000000 < K) : z72 K 1 = some [1] := by
  obtain ⟨k, rfl⟩ : ∃ k, K = k + 2 := ⟨K - 2, by omega⟩
  unfold z72
  have e1 : decide ((1 : Int) > 0) = true := rfl
  have e2 : IntKind.wrap .u32 (Int.tmod 1 1000000000) = 1 := rfl
  have e3 : z04 .i64 (Int.tdiv 1 1000000000) = 0 := rfl
  have e4 : decide ((0 : Int) > 0) = false := rfl
  rw [z5o, e1, if_pos rfl, e2, e3, if_pos (by decide), z5o, e4]
  rfl
end Go.Am.Tryd
/- Plain lemmas: rational numbers, their signs, parts and sizes. -/
namespace Go.Am
def sgn (neg : Bool) (n : Nat) : Int := if neg then -(n : Int) else n
theorem zid (neg : Bool) (n : Nat) : (sgn neg n).natAbs = n := by unfold sgn; split <;> omega
theorem zdx (x : Rat) : sgn (decide (x.num < 0)) x.num.natAbs = x.num := by unfold sgn; by_cases h : x.num < 0 <;> simp [h] <;> omega
theorem zl2 (neg : Bool) (n d : Nat) (hd : d ≠ 0) : (mkRat (sgn neg n) d).num.natAbs = n / Nat.gcd n d := by
  rw [Rat.num_mkRat, if_neg hd, zid, Nat.gcd_comm]
  unfold sgn
  cases neg with
  | false => simp; rfl
  | true =>
    simp only [if_true]
    have h : (Nat.gcd n d : Int) ∣ (n : Int) := Int.natCast_dvd_natCast.2 (Nat.gcd_dvd_left n d)
    rw [Int.neg_ediv_of_dvd h, Int.natAbs_neg]
    rfl
theorem zl3 (neg : Bool) (n d : Nat) (hd : d ≠ 0) : (mkRat (sgn neg n) d).den = d / Nat.gcd n d := by
  rw [Rat.den_mkRat, if_neg hd, zid, Nat.gcd_comm]
theorem zkf (x y : Rat) : x * y = mkRat (sgn (decide (x.num < 0) != decide (y.num < 0)) (x.num.natAbs * y.num.natAbs)) (x.den * y.den) := by
  rw [Rat.mul_def']
  congr 1
  conv => lhs; rw [<- zdx x, <- zdx y]
  generalize x.num.natAbs = a
  generalize y.num.natAbs = b
  unfold sgn
  cases decide (x.num < 0) <;> cases decide (y.num < 0) <;> simp [Int.mul_neg, Int.neg_mul]
def Dl (x : Rat) (N : Nat) : Prop := x.num.natAbs < 10 ^ N /\ x.den < 10 ^ N
theorem Dl.mono {x : Rat} {N M : Nat} (h : Dl x N) (hN : N <= M) : Dl x M := ⟨Nat.lt_of_lt_of_le h.1 (Nat.pow_le_pow_right (by omega) hN), Nat.lt_of_lt_of_le h.2 (Nat.pow_le_pow_right (by omega) hN)⟩
theorem Dl.mk (neg : Bool) {n d N : Nat} (hd : d ≠ 0) (hn : n < 10 ^ N) (hd2 : d < 10 ^ N) : Dl (mkRat (sgn neg n) d) N := by
  refine ⟨?_, ?_⟩
  . rw [zl2 neg n d hd]; exact Nat.lt_of_le_of_lt (Nat.div_le_self _ _) hn
  . rw [zl3 neg n d hd]; exact Nat.lt_of_le_of_lt (Nat.div_le_self _ _) hd2
theorem z79 {a b N M : Nat} (h : a < 10 ^ N) (k : b < 10 ^ M) : a * b < 10 ^ (N + M) := by
  rw [Nat.pow_add]
  exact Nat.mul_lt_mul_of_lt_of_le h (Nat.le_of_lt k) (Nat.pow_pos (by omega))
theorem Dl.mul {x y : Rat} {N M : Nat} (h : Dl x N) (k : Dl y M) : Dl (x * y) (N + M) := by
  rw [zkf]
  exact .mk _ (Nat.mul_ne_zero x.den_nz y.den_nz) (z79 h.1 k.1) (z79 h.2 k.2)
theorem Dl.zero : Dl 0 1 := ⟨by decide, by decide⟩
theorem Dl.one : Dl 1 1 := ⟨by decide, by decide⟩
theorem zkg (a : Int) : a = sgn (decide (a < 0)) a.natAbs := by unfold sgn; by_cases h : a < 0 <;> simp [h] <;> omega
theorem Dl.add {x y : Rat} {N M : Nat} (h : Dl x N) (k : Dl y M) : Dl (x + y) (N + M + 1) := by
  rw [Rat.add_def']
  rw [zkg (x.num * y.den + y.num * x.den)]
  have h1 := z79 h.1 k.2
  have h2 := z79 k.1 h.2
  have h3 : (x.num * (y.den : Int) + y.num * (x.den : Int)).natAbs <= x.num.natAbs * y.den + y.num.natAbs * x.den := by
    refine Nat.le_trans (Int.natAbs_add_le _ _) ?_
    rw [Int.natAbs_mul, Int.natAbs_mul]; simp
  rw [Nat.add_comm M N] at h2
  refine .mk _ (Nat.mul_ne_zero x.den_nz y.den_nz) ?_ ?_
  . rw [Nat.pow_succ]; omega
  . have := z79 h.2 k.2
    rw [Nat.pow_succ]; omega
theorem Dl.neg {x : Rat} {N : Nat} (h : Dl x N) : Dl (-x) N := ⟨by rw [Rat.neg_num, Int.natAbs_neg]; exact h.1, by rw [Rat.neg_den]; exact h.2⟩
theorem Dl.sub {x y : Rat} {N M : Nat} (h : Dl x N) (k : Dl y M) : Dl (x - y) (N + M + 1) := by
  rw [Rat.sub_eq_add_neg]; exact h.add k.neg
theorem Dl.pos {x : Rat} {N : Nat} (h : Dl x N) : 1 <= N := by
  refine Nat.not_lt.1 fun hlt => ?_
  have : N = 0 := by omega
  subst this
  have := h.2
  have := x.den_pos
  simp at *; omega
end Go.Am
/- Plain law: the parts of a rational number's text; its error. -/
namespace Go.Am.Tryd
open Go Go.Am Go.Proofs
variable {K : Nat}
structure Sp (s : zAd) (neg : Bool) (n : zAd) (many : Bool) (d : zAd) : Prop where
  eq : z06 s = (if neg then [45] else []) ++ (z06 n ++ (if many then 47 :: z06 d else []))
  no : 47 ∉ z06 n
  hd : neg = false -> (z06 s).head? ≠ some 45
theorem zcm {x : Int} : ∀ {l1 l2 r1 r2 : List Int}, l1 ++ r1 = l2 ++ r2 -> x ∉ l1 -> x ∉ l2 -> (r1 = [] \/ r1.head? = some x) -> (r2 = [] \/ r2.head? = some x) -> l1 = l2 /\ r1 = r2
  | [], [], _, _, h, _, _, _, _ => ⟨rfl, by simpa using h⟩
  | [], b :: l2, r1, r2, h, _, h2, h3, _ => by
    simp only [List.nil_append, List.cons_append] at h
    subst h
    simp at h3
    subst h3
    simp at h2
  | a :: l1, [], r1, r2, h, h1, _, _, h4 => by
    simp only [List.nil_append, List.cons_append] at h
    subst h
    simp at h4
    subst h4
    simp at h1
  | a :: l1, b :: l2, r1, r2, h, h1, h2, h3, h4 => by
    simp only [List.cons_append, List.cons.injEq] at h
    obtain ⟨rfl, h⟩ := h
    obtain ⟨e1, e2⟩ := zcm h (fun hx => h1 (by simp [hx])) (fun hx => h2 (by simp [hx])) h3 h4
    exact ⟨by rw [e1], e2⟩
theorem Sp.uniq {s n d n' d' : zAd} {neg neg' many many' : Bool} (h : Sp s neg n many d) (k : Sp s neg' n' many' d') : neg = neg' /\ n = n' /\ many = many' /\ (many = true -> d = d') := by
  have e1 : neg = neg' := by
    cases neg <;> cases neg'
    . rfl
    . have := h.hd rfl; rw [k.eq] at this; simp at this
    . have := k.hd rfl; rw [h.eq] at this; simp at this
    . rfl
  subst e1
  have e2 := List.append_cancel_left (h.eq.symm.trans k.eq)
  obtain ⟨e3, e4⟩ := zcm e2 h.no k.no (by cases many <;> simp) (by cases many' <;> simp)
  refine ⟨rfl, z43 e3, ?_⟩
  cases many <;> cases many'
  . exact ⟨rfl, fun h => by cases h⟩
  . simp at e4
  . simp at e4
  . simp at e4; exact ⟨rfl, fun _ => z43 e4⟩
theorem Sp.size {s n d : zAd} {neg many : Bool} (h : Sp s neg n many d) : n.size <= s.size /\ (many = true -> d.size <= s.size) := by
  have := congrArg List.length h.eq
  simp only [List.length_append, z03] at this
  refine ⟨by omega, fun hm => ?_⟩
  subst hm
  simp only [if_true, List.length_cons, z03] at this
  omega
theorem z58 (s : zAd) {i j : Nat} (h : i <= j) (hj : j <= s.size) : z06 (s.extract i j) = ((z06 s).drop i).take (j - i) /\ (s.extract i j).size = j - i := by
  have h1 := z2d s i j
  refine ⟨h1, ?_⟩
  rw [<- z03, h1, List.length_take, List.length_drop, z03]; omega
theorem zd3 (K : Nat) (s : zAd) : ∃ s1 neg, z16 K s ⟨#[45]⟩ = some (s1, neg) /\ z06 s = (if neg then [45] else []) ++ z06 s1 /\ (neg = false -> (z06 s).head? ≠ some 45) /\ s1.size <= s.size := by
  unfold z16 z0s z0r
  have hn := z03 s
  have e1 : ((⟨#[45]⟩ : zAd).size : Int) = 1 := rfl
  rw [e1]
  by_cases h0 : s.size = 0
  . have hb : z06 s = [] := List.length_eq_zero_iff.1 (by omega)
    refine ⟨s, false, ?_, by simp, fun _ => by rw [hb]; simp, Nat.le_refl _⟩
    rw [h0]
    rfl
  . obtain ⟨c, l, hc⟩ : ∃ c l, z06 s = c :: l := by
      cases hb : z06 s with
      | nil => rw [hb] at hn; simp at hn; omega
      | cons c l => exact ⟨c, l, rfl⟩
    have hx : ssl s 0 1 = some (s.extract 0 1) := by rw [sslI (by omega) (by omega) (by omega)]; rfl
    have hxb : z06 (s.extract 0 1) = [c] := by rw [(z58 s (by omega) (by omega)).1, hc]; rfl
    rw [decide_eq_true (by omega), if_pos rfl, hx, z0w, z0w, tu1a, z0w]
    by_cases h45 : c = 45
    . have he : sEq (s.extract 0 1) ⟨#[45]⟩ = true := sEq_iff.2 (z43 (by rw [hxb, h45]; rfl))
      obtain ⟨t, t1, t2, t3⟩ := zd0 hc
      refine ⟨t, true, ?_, by rw [hc, t2, h45]; rfl, fun h => by (cases h), by rw [hc] at hn; simp at hn; omega⟩
      rw [he]
      simp only [Bool.not_true, Bool.false_eq_true, if_false]
      rw [t1, z0w, z0w]
    . have he : sEq (s.extract 0 1) ⟨#[45]⟩ = false := zl9 (fun e => by
        have := congrArg z06 e
        rw [hxb] at this
        have e2 : z06 (⟨#[45]⟩ : zAd) = [45] := rfl
        rw [e2] at this
        simp at this; exact h45 this)
      refine ⟨s, false, ?_, by simp, fun _ => by rw [hc]; simpa using h45, Nat.le_refl _⟩
      rw [he]
      rfl
theorem z8r (c : UInt8) : ∀ (l : List UInt8), (Lib.indexByte l c = -1 /\ c ∉ l) \/ ∃ i : Nat, Lib.indexByte l c = i /\ i < l.length /\ l[i]? = some c /\ c ∉ l.take i
  | [] => .inl ⟨rfl, by simp⟩
  | b :: l => by
    rw [Lib.indexByte]
    by_cases hb : b = c
    . subst hb; exact .inr ⟨0, by simp, by simp, by simp, by simp⟩
    . have hb' : (b == c) = false := by simpa using hb
      rw [hb']
      rcases z8r c l with ⟨h1, h2⟩ | ⟨i, h1, h2, h3, h4⟩
      . refine .inl ⟨by rw [h1]; rfl, ?_⟩
        simp only [List.mem_cons, not_or]
        exact ⟨fun e => hb e.symm, h2⟩
      . refine .inr ⟨i + 1, ?_, by simp; omega, by simpa using h3, ?_⟩
        . rw [h1]
          have : ((i : Int) == -1) = false := by rw [beq_eq_false_iff_ne]; omega
          rw [this]
          simp
        . rw [List.take_succ_cons]
          simp only [List.mem_cons, not_or]
          exact ⟨fun e => hb e.symm, h4⟩
theorem zdy {c : UInt8} {l : List UInt8} (h : ((c.toNat : Nat) : Int) ∈ l.map (fun b => (b.toNat : Int))) : c ∈ l := by
  rw [List.mem_map] at h
  obtain ⟨b, hb, he⟩ := h
  have : b = c := UInt8.toNat_inj.1 (by omega)
  subst this; exact hb
theorem zl4 {s : zAd} (hs : s.size <= 1048576) : ∃ n d many, z33 K s ⟨#[47]⟩ = some (n, d, many) /\ z06 s = z06 n ++ (if many then 47 :: z06 d else []) /\ 47 ∉ z06 n /\ (many = false -> d = ⟨#[]⟩) := by
  have hn := z03 s
  have hx : z0p K s ⟨#[47]⟩ = some (Lib.indexByte s.data.toList 47) := by
    unfold z0p z1g
    have e1 : (((⟨#[47]⟩ : zAd).size : Int) == 0) = false := rfl
    have e2 : (((⟨#[47]⟩ : zAd).size : Int) == 1) = true := rfl
    have e3 : bidx (⟨#[47]⟩ : zAd) 0 = some 47 := rfl
    rw [e1, e2, e3]
    simp only [Bool.false_eq_true, if_false, z0w, tu1a, if_true]
    by_cases he : sEq ⟨#[47]⟩ s = true
    . rw [he, if_pos rfl]
      rw [sEq_iff] at he
      subst he
      rfl
    . rw [if_neg he]
      rfl
  unfold z33 z1l
  rw [hx, z0w]
  rcases z8r 47 s.data.toList with ⟨h1, h2⟩ | ⟨i, h1, h2, h3, h4⟩
  . refine ⟨s, ⟨#[]⟩, false, by rw [h1]; rfl, by simp, fun h => h2 (zdy h), fun _ => rfl⟩
  . rw [Array.length_toList] at h2
    have h2' : i < s.size := h2
    have ea := z58 s (i := 0) (j := i) (by omega) (by omega)
    have eb := z58 s (i := i + 1) (j := s.size) (by omega) (by omega)
    refine ⟨s.extract 0 i, s.extract (i + 1) s.size, true, ?_, ?_, ?_, fun h => by cases h⟩
    . have e1 : ((⟨#[47]⟩ : zAd).size : Int) = 1 := rfl
      have t0 : Int.toNat 0 = 0 := rfl
      have t1 : ((i : Int) + 1).toNat = i + 1 := by omega
      rw [h1, if_pos (decide_eq_true (by omega)), sslI (by omega) (by omega) (by omega), z0w, e1, k64 (by omega) (by omega), sslI (by omega) (by omega) (by omega), z0w, z0w, t1]
      rfl
    . rw [ea.1, eb.1]
      have h5 : (z06 s)[i]? = some 47 := by unfold z06; rw [List.getElem?_map, h3]; rfl
      have h6 : i < (z06 s).length := by omega
      rw [zAh h6] at h5
      simp only [if_true, List.drop_zero, Nat.sub_zero]
      rw [List.take_of_length_le (l := (z06 s).drop (i + 1)) (by rw [List.length_drop]; omega)]
      conv => lhs; rw [<- List.take_append_drop i (z06 s), List.drop_eq_getElem_cons h6]
      rw [zAa h5]
    . rw [ea.1, List.drop_zero, Nat.sub_zero]
      intro h
      unfold z06 at h
      rw [<- List.map_take] at h
      exact h4 (zdy h)
theorem zd4 (K : Nat) {s : zAd} (hs : s.size <= 1048576) : ∃ s1 neg n d many, z16 K s ⟨#[45]⟩ = some (s1, neg) /\ z33 K s1 ⟨#[47]⟩ = some (n, d, many) /\ Sp s neg n many d /\ z06 s = (if neg then [45] else []) ++ z06 s1 /\ (many = false -> d = ⟨#[]⟩) := by
  obtain ⟨s1, neg, h1, h2, h3, h4⟩ := zd3 K s
  obtain ⟨n, d, many, c1, c2, c3, c4⟩ := zl4 (K := K) (s := s1) (by omega)
  exact ⟨s1, neg, n, d, many, h1, c1, ⟨by rw [h2, c2], c3, h3⟩, h2, c4⟩
def ratS (neg : Bool) (n : zAd) (many : Bool) (d : zAd) : Int :=
  if natE n = 5 \/ (many = true /\ natE d = 5) \/ (neg = true /\ n = ⟨#[48]⟩) then 5 else if natE n ≠ 0 \/ (many = true /\ natE d ≠ 0) then 2 else
  if many = true /\ (d = ⟨#[48]⟩ \/ d = ⟨#[49]⟩ \/ Nat.gcd (numT n).toNat (numT d).toNat ≠ 1) then 3 else 0
theorem zb0 (a b : zAd) : sEq a b = decide (a = b) := by
  by_cases h : a = b
  . rw [decide_eq_true h]; exact sEq_iff.2 h
  . rw [decide_eq_false h]; exact zl9 h
theorem zkh (G : Nat) : ((if (G : Int) < 1 then (-1 : Int) else if (G : Int) = 1 then 0 else 1) != 0) = decide (G ≠ 1) := by
  by_cases hG : G = 1
  . subst hG; rfl
  . rw [decide_eq_true hG]
    by_cases h0 : (G : Int) < 1
    . rw [if_pos h0]; rfl
    . rw [if_neg h0, if_neg (by omega)]; rfl
theorem zki : natE ⟨#[48]⟩ = 0 := (zaz _).2 ⟨zdu, by decide⟩
theorem zht {s n d : zAd} {neg many : Bool} (hs : s.size <= 1048576) (hK : 2000000000 < K) (h : Sp s neg n many d) : z4h K s = some (ratS neg n many d) := by
  obtain ⟨s1, neg', n', d', many', c1, c2, c3, c4, c5⟩ := zd4 K hs
  obtain ⟨rfl, rfl, rfl, hd⟩ := h.uniq c3
  have hsz := h.size
  unfold z4h ratS
  rw [c1, z0w, c2, z0w]
  dsimp only
  rw [zcl (by omega) (by omega), z0w]
  cases many with
  | false =>
    simp only [Bool.false_eq_true, if_false, z0w, tu1a, false_and, false_or, or_false]
    by_cases e5 : natE n = 5
    . simp [e5, z0w, tu1a]
    . have e5' : (natE n == 5) = false := by rw [beq_eq_false_iff_ne]; exact e5
      have e05 : ((0 : Int) == 5) = false := rfl
      rw [e5', e05]
      cases neg <;> by_cases e0 : natE n = 0 <;> by_cases en : n = ⟨#[48]⟩ <;> simp [e0, e5, en, zb0, z0w, tu1a, zki]
  | true =>
    have hdd := hd rfl
    subst hdd
    simp only [if_true, true_and]
    rw [zcl (by have := hsz.2 rfl; omega) (by have := hsz.2 rfl; omega)]
    simp only [z0w, tu1a]
    by_cases e5 : natE n = 5
    . simp [e5, z0w, tu1a]
    . have e5' : (natE n == 5) = false := by rw [beq_eq_false_iff_ne]; exact e5
      by_cases f5 : natE d = 5
      . simp [e5, f5, z0w, tu1a]
      . have f5' : (natE d == 5) = false := by rw [beq_eq_false_iff_ne]; exact f5
        have hneg : (if neg = true then some (sEq n (⟨#[48]⟩ : zAd)) else some false) = some (decide (neg = true /\ n = ⟨#[48]⟩)) := by
          cases neg <;> simp [zb0]
        rw [e5', f5', hneg]
        simp only [Bool.false_eq_true, if_false, z0w, tu1a, e5, f5, false_or]
        by_cases hz : neg = true /\ n = ⟨#[48]⟩
        . rw [decide_eq_true hz, if_pos rfl, if_pos hz]
        . rw [decide_eq_false hz, if_neg (by simp), if_neg hz]
          by_cases e0 : natE n = 0
          . by_cases f0 : natE d = 0
            . obtain ⟨cn, ln⟩ := (zaz n).1 e0
              obtain ⟨cd, ld⟩ := (zaz d).1 f0
              obtain ⟨x, x1, x2, x3⟩ := zan (K := K) (s := n) (by omega) hK cn.2.1
              obtain ⟨y, y1, y2, y3⟩ := zan (K := K) (s := d) (by omega) hK cd.2.1
              have nn := z4q cn.2.1
              have nd := z4q cd.2.1
              obtain ⟨g, g1, g2⟩ := zk8 (K := K) (x := x) (y := y) (a := (numT n).toNat) (b := (numT d).toNat) (by omega) (by omega) hK (by rw [Int.toNat_of_nonneg nn]; exact x2) (by rw [Int.toNat_of_nonneg nd]; exact y2)
              have gl : g.length <= 1000000 := by
                by_cases h0 : (numT d).toNat = 0
                . rw [h0, Nat.gcd_zero_right, Int.toNat_of_nonneg nn] at g2
                  rw [g2.inj x2]; omega
                . have := z94 g2 y2 (by have := Nat.gcd_le_right (n := (numT d).toNat) (numT n).toNat (by omega); omega)
                  omega
              have hc := zi7 (K := K) (x := g) (y := [1]) (by omega) (by simp) hK g2 (.one (by omega) (by omega))
              have hcv : ((if ((Nat.gcd (numT n).toNat (numT d).toNat : Nat) : Int) < 1 then (-1 : Int) else if ((Nat.gcd (numT n).toNat (numT d).toNat : Nat) : Int) = 1 then 0 else 1) != 0) = decide (Nat.gcd (numT n).toNat (numT d).toNat ≠ 1) := by
                exact zkh _
              rw [e0, f0]
              simp only [bne_self_eq_false, Bool.false_eq_true, if_false, z0w, tu1a, ne_eq, not_true, or_self, x1, y1, g1, zke hK, hc, hcv, zb0]
              by_cases d0 : d = ⟨#[48]⟩
              . simp [d0, z0w, tu1a]
              . by_cases d1 : d = ⟨#[49]⟩
                . simp [d1, z0w, tu1a]
                . by_cases hG : Nat.gcd (numT n).toNat (numT d).toNat = 1 <;> simp [d0, d1, hG, z0w, tu1a]
            . simp [e0, f0, z0w, tu1a]
          . simp [e0, z0w, tu1a]
end Go.Am.Tryd
/- Plain law: the reference's parts of a rational number's text and its error. -/
namespace Go.Am.Tryd
open Go Go.Am Go.Proofs
variable {K : Nat}
theorem zgg {l r : List Int} {i : Nat} (h : i < l.length) : (l ++ r).getD i 0 = l.getD i 0 := by
  rw [zAb, List.getElem?_append_left h, zAb]
theorem zjb {l : List Int} {i : Nat} (h : i < l.length) : l.getD i 0 ∈ l := by
  rw [zAb, zAh h]; exact List.getElem_mem h
theorem zjc {s n : zAd} {r : List Int} (h : z06 s = z06 n ++ r) : s.extract 0 n.size = n := by
  have hl := congrArg List.length h
  rw [List.length_append, z03, z03] at hl
  apply z43
  rw [(z58 s (by omega) (by omega)).1, h, List.drop_zero, Nat.sub_zero, List.take_append_of_le_length (by rw [z03]; omega), List.take_of_length_le (by rw [z03]; omega)]
theorem zhu {s n d : zAd} (h : z06 s = z06 n ++ 47 :: z06 d) : s.extract (n.size + 1) s.size = d := by
  have hl := congrArg List.length h
  rw [List.length_append, List.length_cons, z03, z03, z03] at hl
  apply z43
  rw [(z58 s (by omega) (by omega)).1, h, List.drop_append, z03]
  rw [List.drop_eq_nil_of_le (by rw [z03]; omega), show n.size + 1 - n.size = 1 by omega]
  simp only [List.nil_append, List.drop_succ_cons, List.drop_zero]
  rw [List.take_of_length_le (by rw [z03]; omega)]
theorem zhv {s : zAd} {neg : Bool} {r : List Int} (h : z06 s = (if neg then [45] else []) ++ r) (hd : neg = false -> (z06 s).head? ≠ some 45) (K : Nat) :
    ∃ s1, (Option.bind ((if (decide ((s.size : Int) > 0)) = true then ((bidx s 0).bind fun x7 => some (x7 == 45)) else some false)) (tu1 fun x11 => ((if x11 = true then ((ssl s 1 (s.size : Int)).bind fun x26 => some (x26, true)) else some (s, false))))) = some (s1, neg) /\ z06 s1 = r /\ s1.size <= s.size := by
  have hn := z03 s
  cases neg with
  | true =>
    simp only [if_true, List.cons_append, List.nil_append] at h
    obtain ⟨t, t1, t2, t3⟩ := zd0 h
    have hb : bidx s 0 = some 45 := by rw [za4, h]; rfl
    have hs : 0 < s.size := by rw [h] at hn; simp at hn; omega
    refine ⟨t, ?_, t2, by rw [h] at hn; simp at hn; omega⟩
    rw [decide_eq_true (by omega), if_pos rfl, hb, z0w, z0w, tu1a]
    simp only [beq_self_eq_true, if_true, t1, z0w]
  | false =>
    simp only [Bool.false_eq_true, if_false, List.nil_append] at h
    refine ⟨s, ?_, h, Nat.le_refl _⟩
    by_cases h0 : 0 < s.size
    . cases hb : z06 s with
      | nil => rw [hb] at hn; simp at hn; omega
      | cons c l =>
        have hc : c ≠ 45 := fun e => hd rfl (by rw [hb, e]; rfl)
        have hx : bidx s 0 = some c := by rw [za4, hb]; rfl
        have e : (c == 45) = false := by rw [beq_eq_false_iff_ne]; exact hc
        rw [decide_eq_true (by omega), if_pos rfl, hx, z0w, e, z0w, tu1a]
        rfl
    . rw [decide_eq_false (by omega)]
      rfl
theorem zei {s n d : zAd} {many : Bool} (hs : s.size <= 1048576) (hK : 2000000000 < K) (h : z06 s = z06 n ++ (if many then 47 :: z06 d else [])) (hno : 47 ∉ z06 n) :
    ∃ r : Int × zAd × zAd, z14 K s K 1 s ⟨#[50]⟩ 0 = some r /\ r = (if many then (2, n, d) else (1, s, ⟨#[50]⟩)) := by
  have hn := z03 s
  have hln : n.size <= s.size := by
    have := congrArg List.length h
    rw [List.length_append, z03, z03] at this; omega
  have hlt : many = true -> n.size < s.size := fun hm => by
    subst hm
    have := congrArg List.length h
    rw [List.length_append, z03, z03] at this
    simp at this; omega
  refine zd1 (fun k (q : Int × zAd × zAd × Int) => z14 K s k q.1 q.2.1 q.2.2.1 q.2.2.2) (fun q => ∃ i : Nat, q.2.2.2 = i /\ i <= s.size /\ (q.1, q.2.1, q.2.2.1) = (if many = true /\ n.size < i then (2, n, d) else (1, s, ⟨#[50]⟩))) (fun q => (s.size - q.2.2.2 : Int).toNat) _ ?_ ((1, s, ⟨#[50]⟩, 0) : Int × zAd × zAd × Int) (by dsimp only; omega) ⟨0, rfl, by omega, by rw [if_neg (by omega)]⟩
  rintro k ⟨m, a, b, _⟩ ⟨i, rfl, h0, h1⟩
  dsimp only at h1 ⊢
  by_cases hi : i < s.size
  . right
    have hb : bidx s i = some ((z06 s).getD i 0) := by rw [z6n (by omega) (by omega), Int.toNat_natCast]
    by_cases c : many = true /\ n.size < i
    . rw [if_pos c] at h1
      simp only [Prod.mk.injEq] at h1
      obtain ⟨rfl, rfl, rfl⟩ := h1
      refine ⟨(2, a, b, (i : Int) + 1), ?_, by dsimp only; omega, i + 1, rfl, by omega, by rw [if_pos ⟨c.1, by omega⟩]⟩
      rw [z14, if_pos (decide_eq_true (by omega)), hb, z0w, k64 (by omega) (by omega)]
      have e : ((2 : Int) == 1) = false := rfl
      rw [e]
      by_cases c2 : (z06 s).getD i 0 == 47 <;> simp [c2, z0w, tu1a, tu3a]
    . rw [if_neg c] at h1
      simp only [Prod.mk.injEq] at h1
      obtain ⟨rfl, rfl, rfl⟩ := h1
      by_cases c3 : many = true /\ i = n.size
      . obtain ⟨hm, rfl⟩ := c3
        subst hm
        simp only [if_true] at h
        have hch : (z06 a).getD n.size 0 = 47 := by
          rw [h, zAb, List.getElem?_append_right (by rw [z03]; omega), z03]
          simp
        refine ⟨(2, n, d, (n.size : Int) + 1), ?_, by dsimp only; omega, n.size + 1, rfl, by omega, by rw [if_pos ⟨rfl, by omega⟩]⟩
        have t0 : Int.toNat 0 = 0 := rfl
        have t1 : ((n.size : Int) + 1).toNat = n.size + 1 := by omega
        rw [z14, if_pos (decide_eq_true (by omega)), hb, z0w, hch, k64 (by omega) (by omega), sslI (l := 0) (by omega) (by omega) (by omega), sslI (by omega) (by omega) (by omega), t0, t1, Int.toNat_natCast, Int.toNat_natCast, zjc h, zhu h]
        rfl
      . have hin : i < n.size := by
          cases many with
          | true => simp at c c3; omega
          | false =>
            simp only [Bool.false_eq_true, if_false, List.append_nil] at h
            have := congrArg List.length h
            rw [z03, z03] at this; omega
        have hch : (z06 a).getD i 0 ≠ 47 := fun e => by
          rw [h, zgg (by rw [z03]; omega)] at e
          exact hno (e ▸ zjb (by rw [z03]; omega))
        have e : ((z06 a).getD i 0 == 47) = false := by rw [beq_eq_false_iff_ne]; exact hch
        refine ⟨(1, a, ⟨#[50]⟩, (i : Int) + 1), ?_, by dsimp only; omega, i + 1, rfl, by omega, by rw [if_neg (by omega)]⟩
        rw [z14, if_pos (decide_eq_true (by omega)), hb, z0w, e, k64 (by omega) (by omega)]
        rfl
  . left
    have : i = s.size := by omega
    subst this
    refine ⟨(m, a, b), by rw [z14, if_neg (by simp)], ?_⟩
    cases many with
    | true => have := hlt rfl; simp only [true_and, if_pos this] at h1; exact h1
    | false => simpa using h1
theorem zhw {s n d : zAd} {neg many : Bool} (hs : s.size <= 1048576) (hK : 2000000000 < K) (h : Sp s neg n many d) : z4o K s = some (ratS neg n many d) := by
  have hsz := h.size
  obtain ⟨s1, h1, h2, h3⟩ := zhv h.eq h.hd K
  obtain ⟨r, r1, rfl⟩ := zei (K := K) (s := s1) (n := n) (d := d) (many := many) (by omega) hK h2 h.no
  unfold z4o ratS
  -- the sign
  have hsplit : ∀ {α : Type} (F : zAd × Bool -> Option α), (Option.bind ((if (decide ((s.size : Int) > 0)) = true then ((bidx s 0).bind fun x7 => some (x7 == 45)) else some false)) (tu1 fun x11 => (Option.bind ((if x11 = true then ((ssl s 1 (s.size : Int)).bind fun x26 => some (x26, true)) else some (s, false))) F))) = F (s1, neg) := by
    intro α F
    have : ∀ (m : Option Bool) (f : Bool -> Option (zAd × Bool)), (Option.bind m (tu1 fun x => Option.bind (f x) F)) = Option.bind (Option.bind m (tu1 f)) F := by
      intro m f; cases m <;> rfl
    rw [this, h1]; rfl
  rw [hsplit, tu2a, r1, z0w, tu3a]
  cases many with
  | false =>
    have hs1 : s1 = n := z43 (by simpa using h2)
    subst hs1
    have e2 : natE ⟨#[50]⟩ = 0 := (zaz _).2 ⟨⟨by decide, rfl, fun h => by simp [z06] at h⟩, by decide⟩
    simp only [Bool.false_eq_true, if_false, false_and, false_or, or_false]
    rw [z9o (by omega) (by omega), z9o (s := ⟨#[50]⟩) (by decide) (by show 1 < K; omega), z0w, z0w, e2]
    by_cases e5 : natE s1 = 5
    . simp [e5, z0w, tu1a]
    . have e5' : (natE s1 == 5) = false := by rw [beq_eq_false_iff_ne]; exact e5
      have e05 : ((0 : Int) == 5) = false := rfl
      rw [e5', e05]
      cases neg <;> by_cases e0 : natE s1 = 0 <;> by_cases en : s1 = ⟨#[48]⟩ <;> simp [e0, e5, en, zb0, z0w, tu1a, zki]
  | true =>
    have hd := hsz.2 rfl
    simp only [if_true, true_and]
    rw [z9o (by omega) (by omega), z9o (s := d) (by omega) (by omega), z0w, z0w]
    by_cases e5 : natE n = 5
    . simp [e5, z0w, tu1a]
    . have e5' : (natE n == 5) = false := by rw [beq_eq_false_iff_ne]; exact e5
      by_cases f5 : natE d = 5
      . simp [e5, f5, z0w, tu1a]
      . have f5' : (natE d == 5) = false := by rw [beq_eq_false_iff_ne]; exact f5
        have hneg : (if neg = true then some (sEq n (⟨#[48]⟩ : zAd)) else some false) = some (decide (neg = true /\ n = ⟨#[48]⟩)) := by
          cases neg <;> simp [zb0]
        rw [e5', f5', hneg]
        simp only [Bool.false_eq_true, if_false, z0w, tu1a, e5, f5, false_or]
        by_cases hz : neg = true /\ n = ⟨#[48]⟩
        . rw [decide_eq_true hz, if_pos rfl, if_pos hz]
        . rw [decide_eq_false hz, if_neg (by simp), if_neg hz]
          by_cases e0 : natE n = 0
          . by_cases f0 : natE d = 0
            . obtain ⟨cn, ln⟩ := (zaz n).1 e0
              obtain ⟨cd, ld⟩ := (zaz d).1 f0
              have nn := z4q cn.2.1
              have nd := z4q cd.2.1
              obtain ⟨g, g1, g2, g3⟩ := zka (K := K) (x := n) (y := d) (a := (numT n).toNat) (b := (numT d).toNat) (by omega) (by omega) hK cn cd (by omega) (by omega)
              have hg : (!(decide (g = ⟨#[49]⟩))) = decide (Nat.gcd (numT n).toNat (numT d).toNat ≠ 1) := by
                by_cases hG : Nat.gcd (numT n).toNat (numT d).toNat = 1
                . have : g = ⟨#[49]⟩ := z92 g2 zj6 (by rw [g3, zg8, hG]; rfl)
                  simp [this, hG]
                . have : g ≠ ⟨#[49]⟩ := fun e => hG (by rw [e, zg8] at g3; omega)
                  simp [this, hG]
              have e22 : ((2 : Int) == 2) = true := rfl
              rw [e0, f0, e22]
              simp only [bne_self_eq_false, Bool.false_eq_true, if_false, z0w, tu1a, ne_eq, not_true, or_self, g1, hg, zb0, if_true]
              by_cases d0 : d = ⟨#[48]⟩
              . simp [d0, z0w, tu1a]
              . by_cases d1 : d = ⟨#[49]⟩
                . simp [d1, z0w, tu1a]
                . by_cases hG : Nat.gcd (numT n).toNat (numT d).toNat = 1 <;> simp [d0, d1, hG, z0w, tu1a]
            . simp [e0, f0, z0w, tu1a]
          . simp [e0, z0w, tu1a]
end Go.Am.Tryd
/- Plain law: the program's rational numbers and their texts. -/
namespace Go.Am.Tryd
open Go Go.Am Go.Proofs
variable {K : Nat}
def RTx (s : zAd) (x : Rat) : Prop := ∃ n d, CanT n /\ CanT d /\ numT n = (x.num.natAbs : Nat) /\ numT d = (x.den : Nat) /\ Sp s (decide (x.num < 0)) n (decide (x.den ≠ 1)) d
theorem RTx.inj {s t : zAd} {x : Rat} (h : RTx s x) (k : RTx t x) : s = t := by
  obtain ⟨n, d, h1, h2, h3, h4, h5⟩ := h
  obtain ⟨n', d', k1, k2, k3, k4, k5⟩ := k
  have e1 : n = n' := z92 h1 k1 (by rw [h3, k3])
  have e2 : d = d' := z92 h2 k2 (by rw [h4, k4])
  subst e1 e2
  exact z43 (by rw [h5.eq, k5.eq])
theorem RTx.val {s : zAd} {x y : Rat} (h : RTx s x) (k : RTx s y) : x = y := by
  obtain ⟨n, d, h1, h2, h3, h4, h5⟩ := h
  obtain ⟨n', d', k1, k2, k3, k4, k5⟩ := k
  obtain ⟨e1, rfl, e3, e4⟩ := h5.uniq k5
  have e5 : x.num = y.num := by
    rw [<- zdx x, <- zdx y, e1]
    congr 1
    omega
  have e6 : x.den = y.den := by
    by_cases c : x.den ≠ 1
    . have := e4 (decide_eq_true c)
      subst this; omega
    . have c2 : ¬ y.den ≠ 1 := fun c2 => by
        rw [decide_eq_false c, decide_eq_true c2] at e3; cases e3
      omega
  exact Rat.ext e5 e6
def QV (a : Q) (x : Rat) : Prop := a.neg = decide (x.num < 0) /\ NumN (x.num.natAbs : Nat) a.num /\ (NumN (x.den : Nat) a.den \/ (a.den = [] /\ x.den = 1))
theorem zac (N : Nat) : ((10 ^ N : Nat) : Int) = (10 : Int) ^ N := by simp
theorem zie {n N : Nat} {t : zAd} (h : CanT t) (ht : numT t = n) (hn : n < 10 ^ N) : t.size <= N + 1 := by
  refine Nat.not_lt.1 fun hlt => ?_
  have g1 := zdt h (by omega)
  have g2 : (10 : Int) ^ N <= 10 ^ (t.size - 1) := za8 (by omega) (by omega)
  have g4 : (n : Int) < (10 : Int) ^ N := by rw [<- zac]; omega
  omega
theorem zif {n N : Nat} {t : zAd} (h : (z06 t).all digT = true) (ht : numT t = n) (hN : t.size <= N) : n < 10 ^ N := by
  have g1 := zds h
  have g2 : (10 : Int) ^ t.size <= 10 ^ N := za8 (by omega) hN
  have g4 : (n : Int) < (10 : Int) ^ N := by omega
  rw [<- zac] at g4
  omega
theorem QV.zero : QV ⟨false, [], []⟩ 0 := ⟨rfl, .nil, .inr ⟨rfl, rfl⟩⟩
end Go.Am.Tryd
/- Plain law: texts in and out of the program's rational numbers; the reference's sums and products. -/
namespace Go.Am.Tryd
open Go Go.Am Go.Proofs
variable {K : Nat}
theorem RTx.size {s : zAd} {x : Rat} {N : Nat} (h : RTx s x) (dx : Dl x N) : s.size <= 2 * N + 4 := by
  obtain ⟨n, d, h1, h2, h3, h4, h5⟩ := h
  have l1 := zie h1 h3 dx.1
  have l2 := zie h2 h4 dx.2
  have := congrArg List.length h5.eq
  rw [z03, List.length_append, List.length_append, z03] at this
  have e1 : (if decide (x.num < 0) = true then ([45] : List Int) else []).length <= 1 := by split <;> simp
  have e2 : (if decide (x.den ≠ 1) = true then (47 :: z06 d : List Int) else []).length <= d.size + 1 := by
    split
    . rw [List.length_cons, z03]; omega
    . simp
  omega
theorem RTx.dl {s : zAd} {x : Rat} {N : Nat} (h : RTx s x) (hs : s.size <= N) : Dl x (N + 1) := by
  obtain ⟨n, d, h1, h2, h3, h4, h5⟩ := h
  have hsz := h5.size
  refine ⟨Nat.lt_of_lt_of_le (zif h1.2.1 h3 (Nat.le_trans hsz.1 hs)) (Nat.pow_le_pow_right (by omega) (by omega)), ?_⟩
  by_cases c : x.den ≠ 1
  . exact Nat.lt_of_lt_of_le (zif h2.2.1 h4 (Nat.le_trans (hsz.2 (decide_eq_true c)) hs)) (Nat.pow_le_pow_right (by omega) (by omega))
  . have : x.den = 1 := by omega
    rw [this]
    exact Nat.one_lt_pow (by omega) (by omega)
theorem RTx.pos {s : zAd} {x : Rat} (h : RTx s x) : s.size ≠ 0 := by
  obtain ⟨n, d, h1, h2, h3, h4, h5⟩ := h
  have := h5.size.1
  have := h1.1
  omega
end Go.Am.Tryd
/- Plain law: errors of lists; operations on two texts. -/
namespace Go.Am.Tryd
open Go Go.Am Go.Proofs
variable {K : Nat}
noncomputable def ratE (s : zAd) : Int := @dite Int (∃ e, ∃ neg n many d, Sp s neg n many d /\ ratS neg n many d = e) (Classical.propDecidable _) (fun h => h.choose) fun _ => 0
theorem zig {s n d : zAd} {neg many : Bool} (h : Sp s neg n many d) : ratE s = ratS neg n many d := by
  have hex : ∃ e, ∃ neg n many d, Sp s neg n many d /\ ratS neg n many d = e := ⟨_, _, _, _, _, h, rfl⟩
  unfold ratE
  rw [dif_pos hex]
  obtain ⟨neg', n', many', d', h1, h2⟩ := hex.choose_spec
  rw [<- h2]
  obtain ⟨rfl, rfl, rfl, h3⟩ := h.uniq h1
  cases many with
  | true => rw [h3 rfl]
  | false => unfold ratS; simp
theorem zej {s : zAd} (hs : s.size <= 1048576) (hK : 2000000000 < K) : z4h K s = some (ratE s) := by
  obtain ⟨s1, neg, n, d, many, _, _, h, _⟩ := zd4 K hs
  rw [zig h]; exact zht hs hK h
theorem zhx {s : zAd} (hs : s.size <= 1048576) (hK : 2000000000 < K) : z4o K s = some (ratE s) := by
  obtain ⟨s1, neg, n, d, many, _, _, h, _⟩ := zd4 K hs
  rw [zig h]; exact zhw hs hK h
noncomputable def z87 : List zAd -> Int
  | [] => 0
  | s :: l => if ratE s ≠ 0 then ratE s else z87 l
theorem zb1 {l : List zAd} {i : Nat} (h : i < l.length) : z87 (l.drop i) = if ratE l[i] ≠ 0 then ratE l[i] else z87 (l.drop (i + 1)) := by
  rw [List.drop_eq_getElem_cons h, z87]
theorem zek {l : List zAd} (hl : l.length <= 1048576) (hs : ∀ s ∈ l, s.size <= 1048576) (hK : 2000000000 < K) : z4a K l = some (z87 l) := by
  have key : ∃ r : Int ⊕ Unit, z0z K l K 0 = some r /\ ((r = .inr () /\ z87 l = 0) \/ r = .inl (z87 l)) := by
    refine zd1 (fun k (s : Int) => z0z K l k s) (fun s => ∃ i : Nat, s = i /\ i <= l.length /\ z87 l = z87 (l.drop i)) (fun s => (l.length - s : Int).toNat) _ ?_ (0 : Int) (by omega) ⟨0, rfl, by omega, by simp⟩
    rintro k _ ⟨i, rfl, h0, h1⟩
    by_cases hi : i < l.length
    . have hx : idx l (i : Int) = some l[i] := z78 (zAh hi)
      have hc := zej (K := K) (s := l[i]) (hs _ (List.getElem_mem hi)) hK
      rw [zb1 hi] at h1
      by_cases c : ratE l[i] = 0
      . right
        rw [if_neg (by simpa using c)] at h1
        refine ⟨(i : Int) + 1, ?_, by omega, i + 1, rfl, by omega, h1⟩
        rw [z0z, if_pos (decide_eq_true (by omega)), hx, z0w, hc, z0w, if_neg (by simpa using c), k64 (by omega) (by omega)]
      . left
        rw [if_pos c] at h1
        refine ⟨.inl (ratE l[i]), ?_, .inr (by rw [h1])⟩
        rw [z0z, if_pos (decide_eq_true (by omega)), hx, z0w, hc, z0w, if_pos (by simpa using c)]
    . left
      have : i = l.length := by omega
      subst this
      rw [List.drop_eq_nil_of_le (Nat.le_refl _)] at h1
      exact ⟨.inr (), by rw [z0z, if_neg (by simp)], .inl ⟨rfl, h1⟩⟩
  obtain ⟨r, h1, h2⟩ := key
  unfold z4a
  rw [h1]
  rcases h2 with ⟨rfl, h2⟩ | rfl
  . rw [z2x, tu0a, h2]
  . rw [z2w, tu1a]
theorem zhy {l : List zAd} (hl : l.length <= 1048576) (hs : ∀ s ∈ l, s.size <= 1048576) (hK : 2000000000 < K) : z57 K l = some (z87 l) := by
  have key : ∃ r : Int ⊕ Unit, z19 K l K 0 = some r /\ ((r = .inr () /\ z87 l = 0) \/ r = .inl (z87 l)) := by
    refine zd1 (fun k (s : Int) => z19 K l k s) (fun s => ∃ i : Nat, s = i /\ i <= l.length /\ z87 l = z87 (l.drop i)) (fun s => (l.length - s : Int).toNat) _ ?_ (0 : Int) (by omega) ⟨0, rfl, by omega, by simp⟩
    rintro k _ ⟨i, rfl, h0, h1⟩
    by_cases hi : i < l.length
    . have hx : idx l (i : Int) = some l[i] := z78 (zAh hi)
      have hc := zhx (K := K) (s := l[i]) (hs _ (List.getElem_mem hi)) hK
      rw [zb1 hi] at h1
      by_cases c : ratE l[i] = 0
      . right
        rw [if_neg (by simpa using c)] at h1
        refine ⟨(i : Int) + 1, ?_, by omega, i + 1, rfl, by omega, h1⟩
        rw [z19, if_pos (decide_eq_true (by omega)), hx, z0w, hc, z0w, if_neg (by simpa using c), k64 (by omega) (by omega)]
      . left
        rw [if_pos c] at h1
        refine ⟨.inl (ratE l[i]), ?_, .inr (by rw [h1])⟩
        rw [z19, if_pos (decide_eq_true (by omega)), hx, z0w, hc, z0w, if_pos (by simpa using c)]
    . left
      have : i = l.length := by omega
      subst this
      rw [List.drop_eq_nil_of_le (Nat.le_refl _)] at h1
      exact ⟨.inr (), by rw [z19, if_neg (by simp)], .inl ⟨rfl, h1⟩⟩
  obtain ⟨r, h1, h2⟩ := key
  unfold z57
  rw [h1]
  rcases h2 with ⟨rfl, h2⟩ | rfl
  . rw [z2x, tu0a, h2]
  . rw [z2w, tu1a]
end Go.Am.Tryd
/- Plain law: whole numbers and their texts. -/
namespace Go.Am.Tryd
open Go Go.Am Go.Proofs
variable {K : Nat}
end Go.Am.Tryd
/- Plain law: comparisons of rational numbers. -/
namespace Go.Am.Tryd
open Go Go.Am Go.Proofs
variable {K : Nat}
end Go.Am.Tryd
/- Plain law: vectors and matrices of rational texts: their checks, their numbers, products and sums. -/
namespace Go.Am.Tryd
open Go Go.Am Go.Proofs
variable {K : Nat}
def resF {R : Type} : Option R -> R ⊕ Unit
  | some r => .inl r
  | none => .inr ()
theorem zgh {α R : Type} {l : List α} {L : Nat -> Int -> Option (R ⊕ Unit)} (p : α -> Option R) (h0 : ∀ k, L (k + 1) (l.length : Int) = some (.inr ()))
    (h1 : ∀ k i (hi : i < l.length), L (k + 1) (i : Int) = match p l[i] with | some r => some (.inl r) | none => L k ((i + 1 : Nat) : Int)) (hK : l.length < K) :
    L K 0 = some (resF (l.findSome? p)) := by
  have key : ∀ n i k, i + n = l.length -> n < k -> L k (i : Int) = some (resF ((l.drop i).findSome? p)) := by
    intro n
    induction n with
    | zero =>
      intro i k hi hk
      obtain ⟨k, rfl⟩ : ∃ m, k = m + 1 := ⟨k - 1, by omega⟩
      obtain rfl : i = l.length := by omega
      rw [h0, List.drop_length]
      rfl
    | succ n ih =>
      intro i k hi hk
      obtain ⟨k, rfl⟩ : ∃ m, k = m + 1 := ⟨k - 1, by omega⟩
      rw [h1 k i (by omega), List.drop_eq_getElem_cons (by omega), List.findSome?_cons]
      cases hp : p l[i] with
      | some r => rfl
      | none => exact ih (i + 1) k (by omega) (by omega)
  have := key l.length 0 K (by omega) hK
  simpa using this
def Fam {α : Type} (P : Nat -> α -> Prop) (n : Nat) (l : List α) : Prop := l.length = n /\ ∀ j (h : j < l.length), P j l[j]
theorem Fam.nil {α : Type} {P : Nat -> α -> Prop} : Fam P 0 [] := ⟨rfl, fun j h => by simp at h⟩
theorem Fam.snoc {α : Type} {P : Nat -> α -> Prop} {n : Nat} {l : List α} {y : α} (h : Fam P n l) (hy : P n y) : Fam P (n + 1) (l ++ [y]) := by
  refine ⟨by simp [h.1], fun j hj => ?_⟩
  by_cases c : j < l.length
  . rw [List.getElem_append_left c]; exact h.2 j c
  . have : j = l.length := by simp at hj; omega
    subst this
    rw [List.getElem_append_right (by omega)]
    simp only [Nat.sub_self, List.getElem_cons_zero]
    rw [h.1]; exact hy
theorem Fam.idx {α : Type} {P : Nat -> α -> Prop} {n j : Nat} {l : List α} (h : Fam P n l) (hj : j < n) : ∃ y, idx l (j : Int) = some y /\ P j y := by
  have hl : j < l.length := by rw [h.1]; exact hj
  exact ⟨l[j], z78 (zAh hl), h.2 j hl⟩
theorem Fam.mono {α : Type} {P Q : Nat -> α -> Prop} {n : Nat} {l : List α} (h : Fam P n l) (hPQ : ∀ j y, j < n -> P j y -> Q j y) : Fam Q n l :=
  ⟨h.1, fun j hj => hPQ j _ (by rw [<- h.1]; exact hj) (h.2 j hj)⟩
theorem Fam.uniq {α : Type} {P : Nat -> α -> Prop} {n : Nat} {l m : List α} (hu : ∀ j x y, P j x -> P j y -> x = y) (h : Fam P n l) (k : Fam P n m) : l = m :=
  List.ext_getElem (by rw [h.1, k.1]) fun j h1 h2 => hu j _ _ (h.2 j h1) (k.2 j h2)
theorem k1 {i : Nat} (h : i <= 1048576) : z04 .i64 ((i : Int) + 1) = ((i + 1 : Nat) : Int) := by rw [k64 (by omega) (by omega)]; omega
theorem lt_d {i n : Nat} (h : i < n) : decide ((i : Int) < (n : Int)) = true := decide_eq_true (by omega)
noncomputable def vecE (l : List zAd) : Int := if l.length > 40 then 2 else z87 l
theorem zhz {n : Nat} {α : Type} (a b : α) : (if decide ((n : Int) > 40) = true then a else b) = if n > 40 then a else b := by
  by_cases h : n > 40
  . rw [if_pos h, if_pos (decide_eq_true (by omega))]
  . rw [if_neg h, if_neg (by simp; omega)]
theorem zb2 {l : List zAd} (hl : l.length <= 1048576) (hs : ∀ s ∈ l, s.size <= 1048576) (hK : 2000000000 < K) : z0q K l = some (vecE l) := by
  unfold z0q vecE
  rw [zhz, zek hl hs hK, z0w]
  split <;> rfl
theorem zdz {l : List zAd} (hl : l.length <= 1048576) (hs : ∀ s ∈ l, s.size <= 1048576) (hK : 2000000000 < K) : z4p K l = some (vecE l) := by
  unfold z4p vecE
  rw [zhz, zhy hl hs hK, z0w]
  split <;> rfl
noncomputable def rowE (w : Nat) (row : List zAd) : Option Int := if row.length ≠ w then some 3 else if vecE row ≠ 0 then some (vecE row) else none
noncomputable def matE (m : List (List zAd)) : Int := if m.length > 40 then 2 else (m.findSome? (rowE (m.getD 0 []).length)).getD 0
def MOk (m : List (List zAd)) : Prop := m.length <= 1048576 /\ ∀ row ∈ m, row.length <= 1048576 /\ ∀ s ∈ row, s.size <= 1048576
theorem idx0 {m : List (List zAd)} (h : 0 < m.length) : idx m 0 = some (m.getD 0 []) := by
  have : idx m ((0 : Nat) : Int) = some m[0] := z78 (zAh h)
  rw [zAb, zAh h]
  exact this
theorem ne_len {a b : Nat} : (((a : Int) != (b : Int)) = true) ↔ a ≠ b := by rw [bne_iff_ne]; omega
theorem zjd {m : List (List zAd)} (hm : MOk m) (hK : 2000000000 < K) : z0t K m = some (matE m) := by
  obtain ⟨hl, hr⟩ := hm
  unfold z0t matE
  rw [zhz]
  by_cases h : m.length > 40
  . rw [if_pos h, if_pos h]
  . rw [if_neg h, if_neg h]
    rw [zgh (K := K) (l := m) (L := z1v K m) (rowE (m.getD 0 []).length) (fun k => by rw [z1v, if_neg (by simp)]) (fun k i hi => ?_) (by omega)]
    . cases List.findSome? (rowE (m.getD 0 []).length) m <;> rfl
    . have hx : idx m (i : Int) = some m[i] := z78 (zAh hi)
      obtain ⟨r1, r2⟩ := hr m[i] (List.getElem_mem hi)
      rw [z1v, if_pos (lt_d hi), hx, z0w, idx0 (by omega), z0w, zb2 r1 r2 hK, z0w, k1 (by omega)]
      unfold rowE
      by_cases c : m[i].length ≠ (m.getD 0 []).length
      . rw [if_pos (ne_len.2 c), if_pos c]
      . rw [if_neg (fun e => c (ne_len.1 e)), if_neg c]
        by_cases d : vecE m[i] ≠ 0
        . rw [if_pos (by simpa using d), if_pos d]
        . rw [if_neg (by simpa using d), if_neg d]
theorem zi0 {m : List (List zAd)} (hm : MOk m) (hK : 2000000000 < K) : z3m K m = some (matE m) := by
  obtain ⟨hl, hr⟩ := hm
  unfold z3m matE
  rw [zhz]
  by_cases h : m.length > 40
  . rw [if_pos h, if_pos h]
  . rw [if_neg h, if_neg h]
    rw [zgh (K := K) (l := m) (L := z1i K m) (rowE (m.getD 0 []).length) (fun k => by rw [z1i, if_neg (by simp)]) (fun k i hi => ?_) (by omega)]
    . cases List.findSome? (rowE (m.getD 0 []).length) m <;> rfl
    . have hx : idx m (i : Int) = some m[i] := z78 (zAh hi)
      obtain ⟨r1, r2⟩ := hr m[i] (List.getElem_mem hi)
      rw [z1i, if_pos (lt_d hi), hx, z0w, idx0 (by omega), z0w]
      simp only [z0w, zdz r1 r2 hK, k1 (show i <= 1048576 by omega)]
      unfold rowE
      by_cases c : m[i].length ≠ (m.getD 0 []).length
      . rw [if_pos (ne_len.2 c), if_pos c]
      . rw [if_neg (fun e => c (ne_len.1 e)), if_neg c]
        by_cases d : vecE m[i] ≠ 0
        . rw [if_pos (by simpa using d), if_pos d]
        . rw [if_neg (by simpa using d), if_neg d]
end Go.Am.Tryd
/- The closed matrix fact holds. -/
namespace Go.Am.Tryd
open Go Go.Am Go.Proofs
theorem zal : z4c 2000000001 = some true := by kernel_rfl
end Go.Am.Tryd
/- Plain law: MatrixChecks answers true. -/
namespace Go.Am.Tryd
open Go Go.Am Go.Proofs
theorem z9i {m : List (List zAd)} {v : List zAd} (hm : m.length <= 1048576 /\ ∀ row ∈ m, row.length <= 1048576 /\ ∀ s ∈ row, s.size <= 1048576) (hv : v.length <= 1048576 /\ ∀ s ∈ v, s.size <= 1048576) : ∃ K, z3f K m v = some true := by
  refine ⟨2000000001, ?_⟩
  have hK : 2000000000 < 2000000001 := by omega
  unfold z3f
  rw [zal, zjd hm hK, zi0 hm hK, zb2 hv.1 hv.2 hK, zdz hv.1 hv.2 hK]
  simp [z0w, tu1a]
end Go.Am.Tryd
/- From a statement's arguments, read as data, to typed data. -/
namespace Go.Am
open Go Go.Proofs.YtdogeclnbdldaaaDoor
section
variable {H : Type} {P : Program} {G : GM} {n B : Nat} {t e : TypeId} {α β S : Type} {r : RT α} {s : RT β} {I : α -> Prop} {J : β -> Prop}
theorem zje {H : Type} (d : DataW H) : 1 <= Rows.uptoBulk d := by
  cases d with
  | lit l => cases l <;> simp [Rows.uptoBulk]
  | _ => simp [Rows.uptoBulk]
theorem zgi {H : Type} : ∀ (ds : List (DataW H)), ds.length <= Rows.uptoBulkAll ds
  | [] => Nat.zero_le _
  | d :: r => by
    have := zgi r
    have := zje d
    simp only [Rows.uptoBulkAll, List.length_cons]; omega
def Arg (H : Type) (P : Program) (G : GM) (n : Nat) (t : TypeId) (r : RT α) (B : Nat) (I : α -> Prop) : Prop := ∀ (cs : List Value) (d : DataW H), AData P G n t cs d -> Rows.uptoBulk d <= B -> ∃ x, r.rep G cs x /\ I x
def ArgS (H : Type) (P : Program) (G : GM) (n : Nat) (ts : List TypeId) (r : RT α) (B : Nat) (I : α -> Prop) : Prop :=
  ∀ (css : List (List Value)) (ds : List (DataW H)), AllD (AData P G n) P.cellsOf ts css ds -> Rows.uptoBulkAll ds <= B -> ∃ x, r.rep G css.flatten x /\ I x
theorem zjf {k : IntKind} {x : Int} (h : (Lit.int k x).wf = true) : z89 k x = true := by
  cases k <;> simp [Lit.wf, IntKind.min, IntKind.max, IntKind.signed, IntKind.bits] at h <;> simp [z89] <;> omega
theorem Arg.mono {I J : α -> Prop} (h : Arg H P G n t r B I) (k : ∀ x, I x -> J x) : Arg H P G n t r B J := fun cs d hd hb => by
  obtain ⟨x, h1, h2⟩ := h cs d hd hb
  exact ⟨x, h1, k x h2⟩
theorem Arg.int {k : IntKind} (hu : P.underlying t = some (.int k)) : Arg H P G (n + 1) t (rI k) B (fun x => z89 k x = true) := fun cs d h _ => by
  unfold AData at h
  simp only [hu] at h
  obtain ⟨x, h1, h2, h3⟩ := h
  exact ⟨x, h1, zjf h3⟩
theorem Arg.bool (hu : P.underlying t = some .bool) : Arg H P G (n + 1) t rB B (fun _ => True) := fun cs d h _ => by
  unfold AData at h
  simp only [hu] at h
  obtain ⟨x, h1, _⟩ := h
  exact ⟨x, h1, trivial⟩
theorem Arg.str (hu : P.underlying t = some .string) : Arg H P G (n + 1) t rS B (fun x => x.size <= B) := fun cs d h hb => by
  unfold AData at h
  simp only [hu] at h
  obtain ⟨x, h1, h2, _⟩ := h
  refine ⟨x, h1, ?_⟩
  rw [h2] at hb
  simp only [Rows.uptoBulk, Array.length_toList] at hb
  have : x.data.size = x.size := rfl
  omega
theorem zbs (h : Arg H P G n e r B I) : ∀ (k : Nat) (css : List (List Value)) (ds : List (DataW H)), AllD (AData P G n) P.cellsOf (List.replicate k e) css ds -> Rows.uptoBulkAll ds <= B -> ∃ xs : List α, All2 (r.rep G) css xs /\ (∀ x ∈ xs, I x) /\ xs.length = k
  | 0, [], [], _, _ => ⟨[], .nil, by simp, rfl⟩
  | 0, _ :: _, _, h, _ => by simp [List.replicate, AllD] at h
  | 0, [], _ :: _, h, _ => by simp [List.replicate, AllD] at h
  | k + 1, [], _, h, _ => by simp [List.replicate, AllD] at h
  | k + 1, _ :: _, [], h, _ => by simp [List.replicate, AllD] at h
  | k + 1, c :: css, d :: ds, hA, hb => by
    simp only [List.replicate, AllD] at hA
    simp only [Rows.uptoBulkAll] at hb
    obtain ⟨x, h1, h2⟩ := h _ _ hA.1.1 (by omega)
    obtain ⟨xs, h3, h4, h5⟩ := zbs h k css ds hA.2 (by omega)
    refine ⟨x :: xs, .cons h1 h3, fun y hy => ?_, by simp [h5]⟩
    rcases List.mem_cons.1 hy with rfl | hy
    . exact h2
    . exact h4 y hy
theorem ze0 {R : TypeId -> List Value -> DataW H -> Prop} {sz : TypeId -> Nat} : ∀ (k : Nat) {ts : List TypeId} {cs : List (List Value)} {ds : List (DataW H)}, AllD R sz ts cs ds -> AllD R sz (ts.take k) (cs.take k) (ds.take k)
  | 0, _, _, _, _ => by simp [AllD]
  | k + 1, [], [], [], _ => by simp [AllD]
  | k + 1, _ :: _, _ :: _, _ :: _, h => by simp only [List.take_succ_cons]; exact ⟨h.1, ze0 k h.2⟩
theorem zgj {R : TypeId -> List Value -> DataW H -> Prop} {sz : TypeId -> Nat} {e : TypeId} : ∀ (k : Nat) (css : List (List Value)) (ds : List (DataW H)), AllD R sz (List.replicate k e) css ds -> ∀ c ∈ css, c.length = sz e
  | 0, [], [], _, c, hc => by simp at hc
  | 0, _ :: _, _, h, _, _ => by simp [List.replicate, AllD] at h
  | 0, [], _ :: _, h, _, _ => by simp [List.replicate, AllD] at h
  | k + 1, [], _, h, _, _ => by simp [List.replicate, AllD] at h
  | k + 1, _ :: _, [], h, _, _ => by simp [List.replicate, AllD] at h
  | k + 1, c :: css, d :: ds, hA, u, hu => by
    simp only [List.replicate, AllD] at hA
    rcases List.mem_cons.1 hu with rfl | hu
    . exact hA.1.2
    . exact zgj k css ds hA.2 u hu
theorem Arg.sl (hu : P.underlying t = some (.slice e)) (h : Arg H P G n e r B I) : Arg H P G (n + 1) t (rSl r) B (fun xs => xs.length <= B /\ ∀ x ∈ xs, I x) := fun cs d hA hb => by
  unfold AData at hA
  simp only [hu] at hA
  rcases hA with ⟨h1, h2⟩ | ⟨b, len, cap, elems, spare, css, h1, h2, h3, h4, _, h6, h7⟩
  . subst h1
    exact ⟨[], zha, Nat.zero_le _, by simp⟩
  . subst h2
    simp only [Rows.uptoBulk] at hb
    have hlen := zgi elems
    have h8 := ze0 len h7
    rw [List.take_replicate, show min len cap = len by omega, <- h3, List.take_left] at h8
    obtain ⟨xs, k1, k2, k3⟩ := zbs h elems.length (css.take elems.length) elems h8 (by omega)
    refine ⟨xs, ?_, by omega, k2⟩
    have hcl := zgj _ _ _ h7
    have hel := k1.length
    by_cases hz : elems.length = 0
    . have hx : xs = [] := List.length_eq_zero_iff.1 (by omega)
      subst hx
      refine ⟨_, [], h1, ⟨by simp, .inr (.inr ⟨b, 0, some 0, cap, by rw [<- h3, hz], rfl, .inr rfl⟩)⟩, .nil⟩
    . rcases h6 with h6 | ⟨x, g1, _, g3⟩
      . omega
      . refine ⟨_, css.take elems.length, h1, ⟨k1.each, .inr (.inl ⟨b, 0, some 0, cap, x, by rw [hel, k3, <- h3], g1, ?_, ?_, by rw [hel, k3]; omega, .inr rfl⟩)⟩, k1⟩
        . rw [g3]
          have h9 : css.flatten = (css.take elems.length).flatten ++ (css.drop elems.length).flatten := by rw [<- List.flatten_append, List.take_append_drop]
          rw [h9, List.length_append, k1.flatLen, hel]; omega
        . rw [g3, List.drop_zero]
          have h9 : css.flatten = (css.take elems.length).flatten ++ (css.drop elems.length).flatten := by rw [<- List.flatten_append, List.take_append_drop]
          have h10 : (css.take elems.length).length * r.sz = (css.take elems.length).flatten.length := by rw [k1.flatLen, hel]
          rw [h9, h10, List.take_left]
theorem Arg.arr {k : Nat} (hu : P.underlying t = some (.array k e)) (h : Arg H P G n e r B I) : Arg H P G (n + 1) t (rArr k r) B (fun xs => xs.length = k /\ ∀ x ∈ xs, I x) := fun cs d hA hb => by
  unfold AData at hA
  simp only [hu] at hA
  obtain ⟨css, parts, h1, h2, h3⟩ := hA
  subst h2
  simp only [Rows.uptoBulk] at hb
  obtain ⟨xs, k1, k2, k3⟩ := zbs h k css parts h3 (by omega)
  exact ⟨xs, ⟨k3, css, h1, k1⟩, k3, k2⟩
theorem ArgS.one (h : Arg H P G n t r B I) : ArgS H P G n [t] r B I := fun css ds hA hb => by
  match css, ds, hA with
  | [c], [d], hA =>
    simp only [Rows.uptoBulkAll] at hb
    obtain ⟨x, h1, h2⟩ := h c d hA.1.1 (by omega)
    exact ⟨x, by simpa using h1, h2⟩
  | [], _, hA => simp [AllD] at hA
  | _ :: _ :: _, [], hA => simp [AllD] at hA
  | _ :: _ :: _, [_], hA => simp [AllD] at hA
  | _ :: _ :: _, _ :: _ :: _, hA => simp [AllD] at hA
  | [_], [], hA => simp [AllD] at hA
  | [_], _ :: _ :: _, hA => simp [AllD] at hA
theorem ArgS.cons {ts : List TypeId} (h : Arg H P G n t r B I) (k : ArgS H P G n ts s B J) : ArgS H P G n (t :: ts) (rP r s) B (fun x => I x.1 /\ J x.2) := fun css ds hA hb => by
  match css, ds, hA with
  | c :: css, d :: ds, hA =>
    simp only [Rows.uptoBulkAll] at hb
    obtain ⟨x, h1, h2⟩ := h c d hA.1.1 (by omega)
    obtain ⟨y, h3, h4⟩ := k css ds hA.2 (by omega)
    exact ⟨(x, y), ⟨c, css.flatten, by simp, h1, h3⟩, h2, h4⟩
  | [], _, hA => simp [AllD] at hA
  | _ :: _, [], hA => simp [AllD] at hA
theorem Arg.struct {fs : Array Field} {ts : List TypeId} (hu : P.underlying t = some (.struct fs)) (hts : fs.toList.map (·.type) = ts) (h : ArgS H P G n ts r B I) (f : S -> α) (g : α -> S) (hg : ∀ p, f (g p) = p) : Arg H P G (n + 1) t (rIso r f) B (fun x => I (f x)) := fun cs d hA hb => by
  unfold AData at hA
  simp only [hu] at hA
  obtain ⟨css, parts, h1, h2, h3⟩ := hA
  subst h2
  simp only [Rows.uptoBulk] at hb
  rw [hts] at h3
  obtain ⟨p, k1, k2⟩ := h css parts h3 (by omega)
  exact ⟨g p, by rw [h1]; show r.rep G css.flatten (f (g p)); rw [hg]; exact k1, by show I (f (g p)); rw [hg]; exact k2⟩
theorem AArgs.cons_inv {ts : List TypeId} {avs : List Value} {ds : List (DataW H)} (h : AArgs P G n (t :: ts) avs ds) : ∃ v vs d dr, avs = v :: vs /\ ds = d :: dr /\ AVal P G n t v d /\ AArgs P G n ts vs dr := by
  match avs, ds, h with
  | v :: vs, d :: dr, h => exact ⟨v, vs, d, dr, rfl, rfl, h.1, h.2⟩
  | [], _, h => simp [AArgs] at h
  | _ :: _, [], h => simp [AArgs] at h
theorem AArgs.nil_inv {avs : List Value} {ds : List (DataW H)} (h : AArgs P G n [] avs ds) : avs = [] /\ ds = [] := by
  match avs, ds, h with
  | [], [], h => exact ⟨rfl, rfl⟩
  | [], _ :: _, h => simp [AArgs] at h
  | _ :: _, _, h => simp [AArgs] at h
theorem AVal.one {v : Value} {d : DataW H} (hu : z3r P t = some false) (h : AVal P G n t v d) : AData P G n t [v] d := by
  unfold AVal at h
  unfold z3r at hu
  split at h
  . rename_i q; rw [q] at hu; cases hu
  . rename_i q; rw [q] at hu; cases hu
  . exact h
theorem AVal.agg {v : Value} {d : DataW H} (hu : z3r P t = some true) (h : AVal P G n t v d) : ∃ cs, v = .agg (List.toArray cs) /\ AData P G n t cs d := by
  unfold AVal at h
  unfold z3r at hu
  split at h
  . exact h
  . exact h
  . rename_i q1 q2
    split at hu
    . rename_i q; exact absurd q (q1 _)
    . rename_i q; exact absurd q (q2 _ _)
    . cases hu
    . cases hu
theorem Ow.empty (A : AH) : Ow A.get A [] := ⟨fun _ _ h => h, fun i e h => by simp at h, fun i j e e' _ h => by simp at h, fun i e h => by simp at h⟩
theorem CR.done {f : FuncId} {args : List Value} {A : AH} {b : Value} (h : CR P f args A.get A [] fun v _ _ => v = b) : ∃ A', ACalls P f args A b A' := by
  obtain ⟨v, H', G', h1, _, _, rfl⟩ := h
  exact ⟨H', h1⟩
end
end Go.Am
/- MatrixChecks over the statement's reading of its arguments. -/
namespace Go.Am.Tryd
open Go Go.Am Go.Proofs Go.Proofs.YtdogeclnbdldaaaDoor
theorem matrixChecks {H : Type} (A : AH) (avs : List Value) (ds : List (DataW H)) (hb : Rows.uptoBulkAll ds <= 1048576) (ha : AArgs Tryd.prog A.get 3 [36, 23] avs ds) : ∃ A', ACalls Tryd.prog 4 avs A (.bool true) A' := by
  obtain ⟨v0, vs0, d0, ds0, rfl, rfl, a0, ha⟩ := AArgs.cons_inv ha
  obtain ⟨v1, vs1, d1, ds1, rfl, rfl, a1, ha⟩ := AArgs.cons_inv ha
  obtain ⟨rfl, rfl⟩ := AArgs.nil_inv ha
  simp only [Rows.uptoBulkAll] at hb
  obtain ⟨x0, r0, i0⟩ := ((Arg.sl (t := 36) (e := 23) (by kernel_rfl) (Arg.sl (t := 23) (e := 25) (by kernel_rfl) (Arg.str (t := 25) (by kernel_rfl)))) : Arg H Tryd.prog A.get 3 36 _ 1048576 _) [v0] d0 (AVal.one (by kernel_rfl) a0) (by omega)
  obtain ⟨x1, r1, i1⟩ := ((Arg.sl (t := 23) (e := 25) (by kernel_rfl) (Arg.str (t := 25) (by kernel_rfl))) : Arg H Tryd.prog A.get 3 23 _ 1048576 _) [v1] d1 (AVal.one (by kernel_rfl) a1) (by omega)
  obtain ⟨K, hK⟩ := z9i i0 i1
  exact CR.done (z7r K v0 x0 r0 v1 x1 r1 (Ow.empty A) true hK)
end Go.Am.Tryd
