/- Reads in an open region through a pointer that is known only by an equation. -/
import Derived.Test.YtdogeclnbdldaaaDoorG1Z3
import Derived.Test.YtdogeclnbdldaaaDoorProg
import Derived.BigRegion
import Derived.Laws.Strings
import Derived.Shelf.Strings.Search1
set_option maxRecDepth 100000
set_option maxHeartbeats 8000000
set_option linter.unusedVariables false
set_option linter.unusedSimpArgs false
namespace Go.Am
open Go
theorem zd4 {v w : Value} {A B : AH} (h : v = w) (k : B.get (z7l w) = A.get (z7l w)) : B.get (z7l v) = A.get (z7l v) := by subst h; exact k
theorem gap {α : Type} {r : α} {C : Prop} (h : (none : Option α) = some r) : C := by cases h
section
variable {α : Type} {r : RT α} {G : GM} {b N : Nat} {xs : List α}
variable {P : Program} {d : Tmp} {ty t e : TypeId} {pos : String} {af : Array Edge} {g : Option (Nat × Bool)} {x : Operand} {s : List Value}
theorem zn0 (h : At G G (.pointer (some ⟨b, 0, none⟩)) (rArr N r) xs) : (rSl r).rep G [.slice (some ⟨b, 0, some 0⟩) N N] xs := by
 obtain ⟨cs, ⟨b', off, k, h1, h2, h3, h4⟩, hn, es, h5, h6⟩ := h
 cases h1
 have hl := h6.length
 have hf : cs.length = es.length * r.sz := by rw [h5, h6.flatLen, <- hl]
 refine ⟨_, es, rfl, ⟨h6.each, .inr (.inl ⟨b, 0, some 0, N, k, by rw [hl, hn], h2, by rw [<- hf]; exact h3, by rw [<- hf, h4, h5], by omega, .inr rfl⟩)⟩, h6⟩
theorem zl7 {sz : Nat} (ha : arrT P t = some (N, e)) (hz : szT P e = some sz) (hx : opnd s x = some (.pointer (some ⟨b, 0, none⟩))) : z1t P s ⟨some d, .slice t x none none none, ty, pos, af, g⟩ = some (.slice (some ⟨b, 0, some 0⟩) N N) := by
 unfold szT at hz
 cases hi : P.info? e with
 | none => rw [hi] at hz; cases hz
 | some inf => simp [z1t, hx, za4, zgl ha, hi, bnd, zi6]
end
section
variable {P : Program} {n : Nat} {σ : Nat -> Value} {G : GM} {H : AH} {ops : Array Oper} {l : List Oper} {d : Tmp} {ty t u e : TypeId} {pos : String} {af : Array Edge} {g : Option (Nat × Bool)} {x : Operand}
theorem zgx : ∀ (es : List (List Value)) (xs : List Int), All2 ((rI .u8).rep G) es xs -> z2c es.flatten = some xs
 | _, _, .nil => rfl
 | _, _, .cons h r => by
  cases h
  have := zgx _ _ r
  simp [z2c, this]
theorem W.bytesStr {Q : (Nat -> Value) -> AH -> Prop} {es : List (List Value)} {xs : List Int} (hg : gok n ops σ g true) (hd : (Nat.blt d n && ook n x) = true) (he : z90 P t = some e) (hi : intT P e = some .u8) (hu : P.underlying u = some .string)
  (hs : SlG H.get 1 (oval σ x) es) (h2 : All2 ((rI .u8).rep G) es xs) (h0 : 0 < xs.length) (hr : AWO P n ops l (up σ d (.string (strOfNums xs))) H Q) : AWO P n ops (⟨some d, .convert t u x, ty, pos, af, g⟩ :: l) σ H Q := by
 simp only [Bool.and_eq_true] at hd
 have hl := h2.length
 obtain ⟨_, ⟨_, h⟩ | ⟨b, off, tg, cap, k, h3, h4, h5, h6, _⟩ | ⟨_, _, _, _, _, h, _⟩⟩ := hs
 ·rw [h] at hl; simp at hl; omega
 ·have hx := z2f (σ := σ) hd.2
  rw [h3] at hx
  rw [Nat.mul_one] at h5 h6
  refine W.read hg hd.1 ?_ ?_ hr
  ·simp [z1t, agen, zbn, Op.operands, hx, closed, z1k]
  ·simp [z7k, hx, z70, z06 he, hu, h4, z9m hi, h5, h6, zgx es xs h2]
 ·rw [h] at hl; simp at hl; omega
end
end Go.Am
/- Parts of texts and of slices. -/
namespace Go.Am
open Go
section
variable {P : Program} {d : Tmp} {ty t e : TypeId} {pos : String} {af : Array Edge} {g : Option (Nat × Bool)} {x xl xh : Operand} {s : List Value} {a r : zAd} {k k2 : IntKind} {l h : Int}
theorem zgy (q : ssl a l h = some r) : 0 <= l /\ l <= h /\ h <= a.size /\ r = a.extract l.toNat h.toNat := by
 unfold ssl at q
 split at q
 ·rename_i c; cases q; exact ⟨c.1, c.2.1, c.2.2, rfl⟩
 ·cases q
theorem zcf {y : Nat} {c : BoundsCode} (h0 : 0 <= l) (h1 : l <= y) : (Instr.sliceBound (.int k l) y c).pureRun P = some l.toNat := by
 unfold Instr.sliceBound
 simp [asIntOf, z0c, z0o, h0, h1]
theorem zjn (hu : P.underlying t = some .string) (hx : opnd s x = some (.string a)) (hl : opnd s xl = some (.int k l)) (hh : opnd s xh = some (.int k2 h)) (q : ssl a l h = some r) : z1t P s ⟨some d, .slice t x (some xl) (some xh) none, ty, pos, af, g⟩ = some (.string r) := by
 obtain ⟨h1, h2, h3, rfl⟩ := zgy q
 have hc : ∀ b, closed (.string b) = true := fun _ => rfl
 have hi : ∀ k i, closed (.int k i) = true := fun _ _ => rfl
 have hl' : l <= (h.toNat : Nat) := by omega
 simp [z1t, hx, hl, hh, agen, zbn, Op.operands, hc, hi, execOp, Instr.sliceAt, Instr.slice, Instr.sliceBounds, z0c, z1g, z0o, z0r hu, zcf (show 0 <= h by omega) h3, zcf h1 hl']
theorem zd5 (hu : P.underlying t = some .string) (hx : opnd s x = some (.string a)) (hl : opnd s xl = some (.int k l)) (q : ssl a l (a.size : Int) = some r) : z1t P s ⟨some d, .slice t x (some xl) none none, ty, pos, af, g⟩ = some (.string r) := by
 obtain ⟨h1, h2, h3, rfl⟩ := zgy q
 have hc : ∀ b, closed (.string b) = true := fun _ => rfl
 have hi : ∀ k i, closed (.int k i) = true := fun _ _ => rfl
 simp [z1t, hx, hl, agen, zbn, Op.operands, hc, hi, execOp, Instr.sliceAt, Instr.slice, Instr.sliceBounds, z0c, z1g, z0o, z0r hu, zcf h1 h2]
theorem zgz (hu : P.underlying t = some .string) (hx : opnd s x = some (.string a)) (hh : opnd s xh = some (.int k2 h)) (q : ssl a 0 h = some r) : z1t P s ⟨some d, .slice t x none (some xh) none, ty, pos, af, g⟩ = some (.string r) := by
 obtain ⟨h1, h2, h3, rfl⟩ := zgy q
 have hc : ∀ b, closed (.string b) = true := fun _ => rfl
 have hi : ∀ k i, closed (.int k i) = true := fun _ _ => rfl
 simp [z1t, hx, hh, agen, zbn, Op.operands, hc, hi, execOp, Instr.sliceAt, Instr.slice, Instr.sliceBounds, z0c, z1g, z0o, z0r hu, zcf (show 0 <= h by omega) h3]
end
section
variable {α : Type} {R : RT α} {G : GM} {P : Program} {d : Tmp} {ty t e : TypeId} {pos : String} {af : Array Edge} {g : Option (Nat × Bool)} {x xl xh : Operand} {k k2 : IntKind} {v : Value} {xs ys : List α}
theorem zl8 (f : (rSl R).rep G [v] xs) : ∃ a n c, v = .slice a n c := by
 obtain ⟨v', es, hv, ⟨_, ⟨h, _⟩ | ⟨b, off, tg, cap, k, h, _⟩ | ⟨b, off, tg, cap, h, _⟩⟩, _⟩ := f
 ·cases hv; exact ⟨_, _, _, h⟩
 ·cases hv; exact ⟨_, _, _, h⟩
 ·cases hv; exact ⟨_, _, _, h⟩
theorem zet {sz : Nat} : ∀ (es : List (List Value)) (k : Nat), (∀ x ∈ es, x.length = sz) -> es.flatten.drop (k * sz) = (es.drop k).flatten
 | [], _, _ => by simp
 | x :: r, 0, _ => by simp
 | x :: r, k + 1, h => by
  have h1 := h x (by simp)
  have := zet r k (fun y hy => h y (by simp [hy]))
  rw [List.drop_succ_cons, List.flatten_cons, Nat.add_mul, Nat.one_mul, Nat.add_comm, <- h1, List.drop_length_add_append, h1, this]
theorem zd6 {sz : Nat} : ∀ (es : List (List Value)) (k : Nat), (∀ x ∈ es, x.length = sz) -> es.flatten.take (k * sz) = (es.take k).flatten
 | [], _, _ => by simp
 | x :: r, 0, _ => by simp
 | x :: r, k + 1, h => by
  have h1 := h x (by simp)
  have := zd6 r k (fun y hy => h y (by simp [hy]))
  rw [List.take_succ_cons, List.flatten_cons, List.flatten_cons, Nat.add_mul, Nat.one_mul, Nat.add_comm, <- h1, List.take_length_add_append, h1, this]
theorem zh0 (f : (rSl R).rep G [v] xs) (he : z90 P t = some e) (hz : szT P e = some R.sz) {lo hi : Option Value} {l h : Nat} (hlo : (lo = none /\ l = 0) \/ ∃ k, lo = some (.int k l)) (hhi : (hi = none /\ h = xs.length) \/ ∃ k, hi = some (.int k h)) (hl : l <= h) (hh : h <= xs.length) :
  ∃ w, za4 P t v lo hi none = some w /\ (rSl R).rep G [w] ((xs.drop l).take (h - l)) := by
 obtain ⟨inf, hinf, hsz⟩ := z5d hz
 obtain ⟨v', es, hv, ⟨hes, hs⟩, h2⟩ := f
 cases hv
 have hlen := h2.length
 have hbl : ∀ y, h <= y -> (bnd lo 0 h) = some l := fun y _ => by
  rcases hlo with ⟨rfl, rfl⟩ | ⟨k, rfl⟩
  ·rfl
  ·simp [bnd, hl]
 have hbh : ∀ len cap, len = xs.length -> h <= cap -> bnd hi len cap = some h := fun len cap e1 e2 => by
  rcases hhi with ⟨rfl, rfl⟩ | ⟨k, rfl⟩
  ·simp [bnd, e1]
  ·simp [bnd, e2]
 rcases hs with ⟨rfl, rfl⟩ | ⟨b, off, tg, cap, k, rfl, h3, h4, h5, h6, h7⟩ | ⟨b, off, tg, cap, rfl, rfl, h7⟩
 ·have e0 : xs.length = 0 := by simpa using hlen.symm
  have e1 : h = 0 := by omega
  subst e1
  have e2 : l = 0 := by omega
  subst e2
  refine ⟨.slice none 0 0, ?_, ?_⟩
  ·simp [za4, z06 he, hinf, hbh 0 0 e0.symm (Nat.le_refl _), hbl 0 (Nat.le_refl _), show bnd none 0 0 = some 0 from rfl]
  ·simpa using (zit : (rSl R).rep G [.slice none 0 0] [])
 ·refine ⟨.slice (some ⟨b, off + l * R.sz, tg⟩) (h - l) (cap - l), ?_, ?_⟩
  ·simp only [za4, z06 he, hinf, Option.bind_some, hbh _ _ hlen (show h <= cap by omega), hbl h (Nat.le_refl _), hsz]
   rw [if_pos ⟨h6, h7⟩]
  ·have hl2 : ((es.drop l).take (h - l)).length = h - l := by rw [List.length_take, List.length_drop]; omega
   refine ⟨_, (es.drop l).take (h - l), rfl, ⟨fun c hc => hes c (List.mem_of_mem_drop (List.mem_of_mem_take hc)), .inr (.inl ⟨b, off + l * R.sz, tg, cap - l, k, by rw [hl2], h3, ?_, ?_, by rw [hl2]; omega, h7⟩)⟩, (h2.drop l).take (h - l)⟩
   ·rw [hl2]
    have : (l + (h - l)) * R.sz <= es.length * R.sz := Nat.mul_le_mul_right _ (by omega)
    rw [Nat.add_mul] at this
    omega
   ·rw [hl2, <- List.drop_drop, <- zd6 _ _ (fun c hc => hes c (List.mem_of_mem_drop hc)), <- zet _ _ hes, <- h5, List.drop_take, List.take_take]
    congr 1
    have h8 : (h - l) * R.sz <= es.length * R.sz - l * R.sz := by rw [<- Nat.sub_mul]; exact Nat.mul_le_mul_right _ (by omega)
    omega
 ·have e0 : xs.length = 0 := by simpa using hlen.symm
  have e1 : h = 0 := by omega
  subst e1
  have e2 : l = 0 := by omega
  subst e2
  refine ⟨.slice (some ⟨b, off + 0 * R.sz, tg⟩) 0 cap, ?_, ?_⟩
  ·simp only [za4, z06 he, hinf, Option.bind_some, hbh _ _ e0.symm (Nat.zero_le _), hbl 0 (Nat.le_refl _), hsz]
   rw [if_pos ⟨Nat.zero_le _, h7⟩]
   simp
  ·simp only [List.drop_zero, Nat.sub_zero, List.take_zero]
   exact ⟨_, [], rfl, ⟨by simp, .inr (.inr ⟨b, off + 0 * R.sz, tg, cap, rfl, rfl, h7⟩)⟩, .nil⟩
theorem zjo {l h : Int} (q : lsl xs l h = some ys) : ∃ l' h' : Nat, l = l' /\ h = h' /\ l' <= h' /\ h' <= xs.length /\ ys = (xs.drop l').take (h' - l') := by
 unfold lsl at q
 split at q
 ·rename_i c; cases q; exact ⟨l.toNat, h.toNat, by omega, by omega, by omega, by omega, rfl⟩
 ·cases q
theorem zl9 {h : Int} (f : (rSl R).rep G [v] xs) (he : z90 P t = some e) (hz : szT P e = some R.sz) (q : lsl xs 0 h = some ys) : ∃ w, (∀ {s : List Value} {d ty pos af g x xh k2}, opnd s x = some v -> opnd s xh = some (.int k2 h) -> z1t P s ⟨some d, .slice t x none (some xh) none, ty, pos, af, g⟩ = some w) /\ (rSl R).rep G [w] ys := by
 obtain ⟨l', h', h0, rfl, h1, h2, rfl⟩ := zjo q
 obtain rfl : l' = 0 := by omega
 obtain ⟨a, n, c, rfl⟩ := zl8 f
 obtain ⟨w, h3, h4⟩ := zh0 f he hz (lo := none) (hi := some (.int .i64 h')) (.inl ⟨rfl, rfl⟩) (.inr ⟨_, rfl⟩) h1 h2
 refine ⟨w, fun {s d ty pos af g x xh k2} hx hh => ?_, h4⟩
 have h6 : za4 P t (.slice a n c) none (some (.int k2 h')) none = za4 P t (.slice a n c) none (some (.int .i64 h')) none := rfl
 simp [z1t, hx, zi6, hh, h6, h3]
theorem Ow.pre {H : AH} {L : List Pc} {j : Nat} {h : Int} (O : Ow G H L) (hj : L[j]? = some (eSl v e R xs)) (he : z90 P t = some e) (hz : szT P e = some R.sz) (q : lsl xs 0 h = some ys) : ∃ w, (∀ {s : List Value} {d ty pos af g x xh k2}, opnd s x = some v -> opnd s xh = some (.int k2 h) -> z1t P s ⟨some d, .slice t x none (some xh) none, ty, pos, af, g⟩ = some w) /\ Ow G H (L.set j (eSl w e R ys)) := by
 obtain ⟨l', h', h0, rfl, h1, h2, rfl⟩ := zjo q
 obtain rfl : l' = 0 := by omega
 obtain ⟨inf, hinf, hsz⟩ := z5d hz
 obtain ⟨es, hs, hr⟩ := O.ok j _ hj
 have hlen := hr.length
 have hb0 : ∀ y, bnd none 0 y = some 0 := fun y => by simp [bnd]
 rcases hs with ⟨rfl, rfl⟩ | ⟨b, tg, cap, rest, sz', rfl, hb, hl, hcap, htg⟩
 ·have e0 : xs.length = 0 := by simpa using hlen.symm
  obtain rfl : h' = 0 := by omega
  refine ⟨.slice none 0 0, fun {s d ty pos af g x xh k2} hx hh => ?_, ?_⟩
  ·simp [z1t, hx, zi6, hh, za4, z06 he, hinf, bnd]
  ·refine O.put hj _ (fun b hb => .inl hb) ⟨[], .inl ⟨rfl, rfl⟩, by simpa using All2.nil⟩ fun b k hk _ => hk
 ·refine ⟨.slice (some ⟨b, 0, tg⟩) h' cap, fun {s d ty pos af g x xh k2} hx hh => ?_, ?_⟩
  ·have hbh : bnd (some (.int k2 (h' : Int))) es.length cap = some h' := by simp [bnd]; omega
   have htt : tg = none \/ tg = some 0 := htg.imp And.left id
   simp only [z1t, hx, zi6, hh, Option.bind_some, Option.map_some, za4, z06 he, hinf, hbh, hb0]
   rw [if_pos ⟨hcap, htt⟩]
   simp
  ·refine O.put hj _ (fun b hb => .inl hb) ⟨es.take h', .inr ⟨b, tg, cap, (es.drop h').flatten ++ rest, sz', ?_, ?_, ?_, ?_, htg⟩, by simpa using hr.take h'⟩ fun b k hk _ => hk
   ·rw [List.length_take]; congr 1; omega
   ·rw [hb, <- List.append_assoc, <- List.flatten_append, List.take_append_drop]
   ·rw [<- List.append_assoc, <- List.flatten_append, List.take_append_drop]; exact hl
   ·rw [List.length_take]; omega
theorem Ow.view {H : AH} {L : List Pc} {j : Nat} {h : Int} (O : Ow G H L) (hj : L[j]? = some (eSl v e R xs)) (he : z90 P t = some e) (hz : szT P e = some R.sz) (q : lsl xs 0 h = some ys) : ∃ w, (∀ {s : List Value} {d ty pos af g x xh k2}, opnd s x = some v -> opnd s xh = some (.int k2 h) -> z1t P s ⟨some d, .slice t x none (some xh) none, ty, pos, af, g⟩ = some w) /\ zka w ys.length := by
 obtain ⟨w, h1, h2⟩ := O.pre hj he hz q
 refine ⟨w, h1, ?_⟩
 have hjl : j < L.length := (zAi hj).1
 exact h2.slLen (j := j) (e := e) (r := R) (by rw [List.getElem?_set]; simp [hjl])
end
section
variable {P : Program} {d : Tmp} {ty src dst : TypeId} {pos : String} {af : Array Edge} {g : Option (Nat × Bool)} {x : Operand} {s : List Value} {a : zAd} {k k1 : IntKind} {n : Int}
theorem zn1 {t : TypeId} (hx : opnd s x = some (.int k n)) : z1t P s ⟨some d, .unOp .neg t x, ty, pos, af, g⟩ = some (.int k (z05 k (-n))) := by
 have hc : ∀ k n, closed (.int k n) = true := fun _ _ => rfl
 have hq : (Op.unary .neg (.int k n)).pureRun P = some (.int k (z05 k (-n))) := by rw [z6z, <- Int.zero_sub]; rfl
 simp [z1t, hx, agen, zbn, Op.operands, hc, execOp, z0c, z1g, z0o, hq]
theorem zkc (h1 : intT P src = some k1) (h2 : P.underlying dst = some .string) (hx : opnd s x = some (.int k n)) : z1t P s ⟨some d, .convert src dst x, ty, pos, af, g⟩ = some (.string (Utf8.encode n)) := by
 have hc : ∀ k n, closed (.int k n) = true := fun _ _ => rfl
 have hs : ∀ b, closed (.string b) = true := fun _ => rfl
 have hq : (convert src dst (.int k n)).pureRun P = some (.string (Utf8.encode n)) := by
  unfold convert
  rw [z0c, z0r (z9m h1), Option.bind_some, z0c, z0r h2]
  rfl
 simp [z1t, hx, agen, zbn, Op.operands, hc, hs, execOp, z0c, z1g, z0o, hq]
end
end Go.Am
/- Short rules for printed walks. -/
namespace Go.Am
open Go
noncomputable section
section
variable {P : Program} {n : Nat} {σ : Nat -> Value} {H H1 : AH} {ops : Array Oper} {l : List Oper} {Q : (Nat -> Value) -> AH -> Prop} {d : Tmp} {dd : Option Tmp} {ty t yt e : TypeId} {pos : String} {af : Array Edge} {g : Option (Nat × Bool)} {x y c : Operand}
 {M : List Nat} {N0 m : Nat} {R : z8k} {L : z91} {A : z9n} {i : Nat} {op : Op}
theorem W.q1 (v : Value) (h : oval σ x = v) (hr : AWO P n ops l (up σ d v) H Q) (hg : gok n ops σ g true := by rfl) (hd : Nat.blt d n = true := by rfl) (hx : ook n x = true := by rfl) : AWO P n ops (⟨some d, .assign x, ty, pos, af, g⟩ :: l) σ H Q :=
 W.pure hg hd (zgm (oo hx h)) hr
theorem W.q2 (v : Value) (h : oval σ x = v) (hr : AWO P n ops l (up σ d v) H Q) (hg : gok n ops σ g true := by rfl) (hd : Nat.blt d n = true := by rfl) (hx : ook n x = true := by rfl) : AWO P n ops (⟨some d, .move x, ty, pos, af, g⟩ :: l) σ H Q :=
 W.pure hg hd (zl3 (oo hx h)) hr
theorem W.q3 (v : Value) {bop : BinOp} {k : IntKind} {a b : Int} (h1 : oval σ x = .int k a) (h2 : oval σ y = .int k b) (hr : AWO P n ops l (up σ d v) H Q) (hg : gok n ops σ g true := by rfl) (hd : Nat.blt d n = true := by rfl) (hx : ook n x = true := by rfl) (hy : ook n y = true := by rfl) (hv : aint bop k a b = some v := by rfl) :
  AWO P n ops (⟨some d, .binOp bop t x y yt, ty, pos, af, g⟩ :: l) σ H Q :=
 W.pure hg hd (zm0 (oo hx h1) (oo hy h2) hv) hr
theorem W.q4 (v : Value) (hc : oval σ c = .bool true) (h : oval σ x = v) (hr : AWO P n ops l (up σ d v) H Q) (hg : gok n ops σ g true := by rfl) (hd : Nat.blt d n = true := by rfl) (h1 : ook n c = true := by rfl) (hx : ook n x = true := by rfl) : AWO P n ops (⟨some d, .pick c x y, ty, pos, af, g⟩ :: l) σ H Q :=
 W.pure hg hd (zep (oo h1 hc) (oo hx h)) hr
theorem W.q5 (v : Value) (hc : oval σ c = .bool false) (h : oval σ y = v) (hr : AWO P n ops l (up σ d v) H Q) (hg : gok n ops σ g true := by rfl) (hd : Nat.blt d n = true := by rfl) (h1 : ook n c = true := by rfl) (hy : ook n y = true := by rfl) : AWO P n ops (⟨some d, .pick c x y, ty, pos, af, g⟩ :: l) σ H Q :=
 W.pure hg hd (zd1 (oo h1 hc) (oo hy h)) hr
theorem W.q6 {j : Nat} {want b : Bool} {d' : Tmp} (h1 : (ops[j]?).bind (·.dst) = some d') (h3 : σ d' = .bool b) (hr : AWO P n ops l (upo σ dd undef) H Q) (h2 : Nat.blt d' n = true := by rfl) (h4 : (b == want) = false := by rfl) (hd : dok n dd = true := by rfl) : AWO P n ops (⟨dd, op, ty, pos, af, some (j, want)⟩ :: l) σ H Q :=
 W.skip (gk h1 h2 h3 h4) hd hr
theorem D2.q1 (v : Value) (h : oval σ x = v) (hr : AWD2 P n ops M N0 l (i + 1) R L A (up σ d v) H Q) (hg : gok n ops σ g true := by rfl) (hd : Nat.blt d n = true := by rfl) (hx : ook n x = true := by rfl) : AWD2 P n ops M N0 (⟨some d, .assign x, ty, pos, af, g⟩ :: l) i R L A σ H Q :=
 D2.pure hg hd (zgm (oo hx h)) hr
theorem D2.q2 (v : Value) (h : oval σ x = v) (hr : AWD2 P n ops M N0 l (i + 1) R L A (up σ d v) H Q) (hg : gok n ops σ g true := by rfl) (hd : Nat.blt d n = true := by rfl) (hx : ook n x = true := by rfl) : AWD2 P n ops M N0 (⟨some d, .move x, ty, pos, af, g⟩ :: l) i R L A σ H Q :=
 D2.pure hg hd (zl3 (oo hx h)) hr
theorem D2.q3 (v : Value) {bop : BinOp} {k : IntKind} {a b : Int} (h1 : oval σ x = .int k a) (h2 : oval σ y = .int k b) (hr : AWD2 P n ops M N0 l (i + 1) R L A (up σ d v) H Q) (hg : gok n ops σ g true := by rfl) (hd : Nat.blt d n = true := by rfl) (hx : ook n x = true := by rfl) (hy : ook n y = true := by rfl) (hv : aint bop k a b = some v := by rfl) :
  AWD2 P n ops M N0 (⟨some d, .binOp bop t x y yt, ty, pos, af, g⟩ :: l) i R L A σ H Q :=
 D2.pure hg hd (zm0 (oo hx h1) (oo hy h2) hv) hr
theorem Lo.cP {G : GM} {Ls : List Pc} {f : FuncId} {args : Array Operand} {ats : Array TypeId} {al : List Value} {fn : Func} {Ψ : Value -> GM -> Prop} (hd : args.toList.all (ook n) = true) (hf : P.funcs[f]? = some fn) (hnm : (fn.name == "runtime.NumGoroutine" || fn.body.isNone) = false)
  (ha : args.toList.map (oval σ) = al) (O : Ow G H ([] ++ Ls)) (hc : ∀ L, Ow G H ([] ++ L) -> CR P f al G H ([] ++ L) fun v G' _ => Ψ v G') :
  Loud P n ⟨some d, .call ⟨.value (.func f), args, ats⟩, ty, pos, af, g⟩ σ H fun v H1 => ∃ G', Ow G' H1 ([] ++ Ls) /\ G.le G' /\ Same G Ls H H1 /\ Ψ v G' := Lo.callP hd hf hnm ha O hc
end
end
end Go.Am
/- What the proofs ask of the program's types. -/
namespace Go.Am.Tryd
open Go Go.Am Go.Proofs
theorem in2 : intT Tryd.prog 2 = some Go.IntKind.i64 := by kernel_rfl
theorem sz3 : szT Tryd.prog 3 = some 1 := by kernel_rfl
theorem ze3 : (Tryd.prog.info? 3).bind (·.zero) = some (Go.Value.int Go.IntKind.i64 0) := by kernel_rfl
theorem ag3 : z3q Tryd.prog 3 = some false := by kernel_rfl
theorem by3 : ((Tryd.prog.info? 3).map (·.bytes)) = some 8 := by kernel_rfl
theorem in3 : intT Tryd.prog 3 = some Go.IntKind.i64 := by kernel_rfl
theorem ag4 : z3q Tryd.prog 4 = some false := by kernel_rfl
theorem un4 : Tryd.prog.underlying 4 = some Go.TypeDesc.bool := by kernel_rfl
theorem sz5 : szT Tryd.prog 5 = some 1 := by kernel_rfl
theorem ze5 : (Tryd.prog.info? 5).bind (·.zero) = some (Go.Value.int Go.IntKind.u8 0) := by kernel_rfl
theorem ag5 : z3q Tryd.prog 5 = some false := by kernel_rfl
theorem by5 : ((Tryd.prog.info? 5).map (·.bytes)) = some 1 := by kernel_rfl
theorem in5 : intT Tryd.prog 5 = some Go.IntKind.u8 := by kernel_rfl
theorem un9 : Tryd.prog.underlying 9 = some Go.TypeDesc.string := by kernel_rfl
theorem el22 : z90 Tryd.prog 22 = some 25 := by kernel_rfl
theorem sz23 : szT Tryd.prog 23 = some 1 := by kernel_rfl
theorem ze23 : (Tryd.prog.info? 23).bind (·.zero) = some (Go.Value.slice none 0 0) := by kernel_rfl
theorem ag23 : z3q Tryd.prog 23 = some false := by kernel_rfl
theorem el23 : z90 Tryd.prog 23 = some 25 := by kernel_rfl
theorem sz25 : szT Tryd.prog 25 = some 1 := by kernel_rfl
theorem ze25 : (Tryd.prog.info? 25).bind (·.zero) = some (Go.Value.string { data := #[] }) := by kernel_rfl
theorem ag25 : z3q Tryd.prog 25 = some false := by kernel_rfl
theorem un25 : Tryd.prog.underlying 25 = some Go.TypeDesc.string := by kernel_rfl
theorem sz26 : szT Tryd.prog 26 = some 1 := by kernel_rfl
theorem ze26 : (Tryd.prog.info? 26).bind (·.zero) = some (Go.Value.int Go.IntKind.i64 0) := by kernel_rfl
theorem ag26 : z3q Tryd.prog 26 = some false := by kernel_rfl
theorem sz36 : szT Tryd.prog 36 = some 1 := by kernel_rfl
theorem ze36 : (Tryd.prog.info? 36).bind (·.zero) = some (Go.Value.slice none 0 0) := by kernel_rfl
theorem ag36 : z3q Tryd.prog 36 = some false := by kernel_rfl
theorem el36 : z90 Tryd.prog 36 = some 23 := by kernel_rfl
theorem ni51 : za5 Tryd.prog 51 = true := by kernel_rfl
theorem el51 : z90 Tryd.prog 51 = some 60 := by kernel_rfl
theorem sz60 : szT Tryd.prog 60 = some 2 := by kernel_rfl
theorem ze60 : (Tryd.prog.info? 60).bind (·.zero) = some (Go.Value.agg #[Go.Value.string { data := #[] }, Go.Value.string { data := #[] }]) := by kernel_rfl
theorem ag60 : z3q Tryd.prog 60 = some true := by kernel_rfl
theorem by60 : ((Tryd.prog.info? 60).map (·.bytes)) = some 32 := by kernel_rfl
theorem zo60 : zfk Tryd.prog 60 = true := by kernel_rfl
theorem pl60 : plcT Tryd.prog 60 = some [(0, 1), (1, 1)] := by kernel_rfl
theorem sz63 : szT Tryd.prog 63 = some 1 := by kernel_rfl
theorem ag63 : z3q Tryd.prog 63 = some false := by kernel_rfl
theorem ni63 : za5 Tryd.prog 63 = true := by kernel_rfl
theorem el63 : z90 Tryd.prog 63 = some 145 := by kernel_rfl
theorem sz65 : szT Tryd.prog 65 = some 3 := by kernel_rfl
theorem ze65 : (Tryd.prog.info? 65).bind (·.zero) = some (Go.Value.agg #[Go.Value.bool false, Go.Value.slice none 0 0, Go.Value.slice none 0 0]) := by kernel_rfl
theorem ag65 : z3q Tryd.prog 65 = some true := by kernel_rfl
theorem zo65 : zfk Tryd.prog 65 = true := by kernel_rfl
theorem pl65 : plcT Tryd.prog 65 = some [(0, 1), (1, 1), (2, 1)] := by kernel_rfl
theorem za7 : fldT Tryd.prog 65 0 = some 0 := by kernel_rfl
theorem z7j : fldT Tryd.prog 65 1 = some 1 := by kernel_rfl
theorem zh1 : fldT Tryd.prog 65 2 = some 2 := by kernel_rfl
theorem el71 : z90 Tryd.prog 71 = some 26 := by kernel_rfl
theorem el75 : z90 Tryd.prog 75 = some 36 := by kernel_rfl
theorem ni96 : za5 Tryd.prog 96 = true := by kernel_rfl
theorem el96 : z90 Tryd.prog 96 = some 3 := by kernel_rfl
theorem z40 : szT Tryd.prog 145 = some 1 := by kernel_rfl
theorem zbs : (Tryd.prog.info? 145).bind (·.zero) = some (Go.Value.int Go.IntKind.u32 0) := by kernel_rfl
theorem z9o : z3q Tryd.prog 145 = some false := by kernel_rfl
theorem zh2 : ((Tryd.prog.info? 145).map (·.bytes)) = some 4 := by kernel_rfl
theorem z94 : intT Tryd.prog 145 = some Go.IntKind.u32 := by kernel_rfl
theorem zbc : intT Tryd.prog 146 = some Go.IntKind.u64 := by kernel_rfl
theorem zn2 : za5 Tryd.prog 149 = true := by kernel_rfl
theorem zfx : z90 Tryd.prog 149 = some 5 := by kernel_rfl
theorem zn3 : (Tryd.prog.info? 159).bind (·.zero) = some (Go.Value.agg #[Go.Value.int Go.IntKind.u8 0, Go.Value.int Go.IntKind.u8 0, Go.Value.int Go.IntKind.u8 0, Go.Value.int Go.IntKind.u8 0, Go.Value.int Go.IntKind.u8 0, Go.Value.int Go.IntKind.u8 0, Go.Value.int Go.IntKind.u8 0, Go.Value.int Go.IntKind.u8 0, Go.Value.int Go.IntKind.u8 0]) := by kernel_rfl
theorem zml : arrT Tryd.prog 159 = some (9, 5) := by kernel_rfl
theorem mixed : Tryd.prog.follows .mixedOrders = true := by kernel_rfl
end Go.Am.Tryd
/- Rows that are laid one behind the other: a list of lists that grows by append, each row with its block. -/
namespace Go.Am
open Go
noncomputable section
section
variable {G : GM} {H H1 : AH} {L : List Pc} {j : Nat} {a b e0 : Pc}
theorem Ow.part (O : Ow G H L) (hj : L[j]? = some e0) (a b : Pc) (ha : ∀ x ∈ a.foot, x ∈ e0.foot) (hb : ∀ x ∈ b.foot, x ∈ e0.foot) (hab : ∀ x ∈ a.foot, x ∉ b.foot) (oka : a.ok G H.get) (okb : b.ok G H.get) : Ow G H (a :: L.set j b) := by
 have hjl : j < L.length := (zAi hj).1
 have hset : ∀ (i : Nat) (x : Pc), (L.set j b)[i]? = some x -> (i = j /\ x = b) \/ (i ≠ j /\ L[i]? = some x) := fun i x hx => by
  rw [List.getElem?_set] at hx
  by_cases hij : j = i
  ·subst hij; simp [hjl] at hx; exact .inl ⟨rfl, hx.symm⟩
  ·rw [if_neg hij] at hx; exact .inr ⟨fun e => hij e.symm, hx⟩
 have hd : ∀ (i : Nat) (x : Pc), i ≠ j -> L[i]? = some x -> ∀ c ∈ e0.foot, c ∉ x.foot := fun i x hi hx => O.dis j i e0 x (fun e => hi e.symm) hj hx
 refine ⟨O.fro, fun i x hx => ?_, fun i i' x x' hii hx hx' c hc => ?_, fun i x hx c hc => ?_⟩
 ·cases i with
  | zero => simp at hx; subst hx; exact oka
  | succ i =>
   rcases hset i x (by simpa using hx) with ⟨rfl, rfl⟩ | ⟨_, h⟩
   ·exact okb
   ·exact O.ok i x h
 ·cases i with
  | zero =>
   simp at hx; subst hx
   cases i' with
   | zero => exact absurd rfl hii
   | succ i' =>
    rcases hset i' x' (by simpa using hx') with ⟨rfl, rfl⟩ | ⟨h1, h2⟩
    ·exact hab c hc
    ·exact hd i' x' h1 h2 c (ha c hc)
  | succ i =>
   rcases hset i x (by simpa using hx) with ⟨rfl, rfl⟩ | ⟨h1, h2⟩
   ·cases i' with
    | zero => simp at hx'; subst hx'; exact fun h => hab c h hc
    | succ i' =>
     rcases hset i' x' (by simpa using hx') with ⟨rfl, rfl⟩ | ⟨h3, h4⟩
     ·exact absurd rfl hii
     ·exact hd i' x' h3 h4 c (hb c hc)
   ·cases i' with
    | zero => simp at hx'; subst hx'; exact fun h => hd i x h1 h2 c (ha c h) hc
    | succ i' =>
     rcases hset i' x' (by simpa using hx') with ⟨rfl, rfl⟩ | ⟨h3, h4⟩
     ·exact fun h => hd i x h1 h2 c (hb c h) hc
     ·exact O.dis i i' x x' (by omega) h2 h4 c hc
 ·cases i with
  | zero => simp at hx; subst hx; exact O.apart j e0 hj c (ha c hc)
  | succ i =>
   rcases hset i x (by simpa using hx) with ⟨rfl, rfl⟩ | ⟨h1, h2⟩
   ·exact O.apart i e0 hj c (hb c hc)
   ·exact O.apart i x h2 c hc
end
structure SetOk {α : Type} (ws : List Value) (e2 : TypeId) (r : RT α) (xss : List (List α)) (G M : GM) : Prop where
 len : ws.length = xss.length
 row : ∀ (i : Nat) (w : Value), ws[i]? = some w -> ∃ es xs, xss[i]? = some xs /\ SlO e2 r.sz M w es /\ All2 (r.rep G) es xs
 dis : ∀ (i j : Nat) (w u : Value), i ≠ j -> ws[i]? = some w -> ws[j]? = some u -> ∀ b ∈ z8m w, b ∉ z8m u
section
variable {P : Program} {n : Nat} {σ : Nat -> Value} {H H1 : AH} {d : Tmp} {dd : Option Tmp} {ty t xt e e2 : TypeId} {pos : String} {af : Array Edge} {g : Option (Nat × Bool)} {v u w w' : Value} {x y : Operand}
 {G : GM} {L : List Pc} {j i : Nat} {α : Type} {r : RT α} {ws : List Value} {xs : List α} {xss : List (List α)}
end
end
end Go.Am
/- Plain lemmas for typed functions: loops over lists, texts, whole numbers. -/
namespace Go.Am
open Go
theorem kw {a : Int} (h1 : -9223372036854775808 <= a) (h2 : a <= 9223372036854775807) : z05 .i64 a = a := z73 (z8z h1 h2)
theorem kw1 {i n : Nat} (h : i < n) (hn : n <= 4611686018427387904) : z05 .i64 ((i : Int) + 1) = ((i + 1 : Nat) : Int) := by rw [kw (by omega) (by omega)]; omega
theorem z5e {α : Type} {xs : List α} {i : Nat} {x : α} (h : xs[i]? = some x) : idx xs (i : Int) = some x := by
 unfold idx
 rw [if_neg (by omega)]
 simpa using h
theorem ziw {i n : Nat} (h : i < n) : decide ((i : Int) < (n : Int)) = true := by simp; omega
theorem zeu {i n : Nat} (h : n <= i) : decide ((i : Int) < (n : Int)) = false := by simp; omega
@[simp] theorem Sum.elim_ite {α β γ : Type} (f : α -> γ) (g : β -> γ) (c : Prop) [Decidable c] (x y : α ⊕ β) : Sum.elim f g (if c then x else y) = if c then Sum.elim f g x else Sum.elim f g y := by split <;> rfl
def runS {α S E : Type} (chk : α -> S -> E ⊕ S) : List α -> S -> E ⊕ S
 | [], s => .inr s
 | x :: xs, s => Sum.elim .inl (runS chk xs) (chk x s)
theorem zkd {α S E : Type} (xs : List α) (l : Nat -> S -> Int -> Option (E ⊕ S)) (chk : α -> S -> E ⊕ S) (I : S -> Nat -> Prop)
  (h : ∀ k s (i : Nat) x, xs[i]? = some x -> I s i -> l (k + 1) s i = Sum.elim (fun e => some (.inl e)) (fun s' => l k s' ((i + 1 : Nat) : Int)) (chk x s))
  (hI : ∀ s (i : Nat) x s', xs[i]? = some x -> I s i -> chk x s = .inr s' -> I s' (i + 1))
  (h0 : ∀ k s (i : Nat), xs.length <= i -> l (k + 1) s i = some (.inr s)) : ∀ d k s (i : Nat), xs.length - i = d -> d < k -> I s i -> l k s i = some (runS chk (xs.drop i) s) := by
 intro d
 induction d with
 | zero =>
  intro k s i hd hk _
  obtain ⟨k, rfl⟩ : ∃ m, k = m + 1 := ⟨k - 1, by omega⟩
  rw [h0 k s i (by omega), List.drop_eq_nil_of_le (by omega)]; rfl
 | succ d ih =>
  intro k s i hd hk hi
  obtain ⟨k, rfl⟩ : ∃ m, k = m + 1 := ⟨k - 1, by omega⟩
  have hl : i < xs.length := by omega
  have hx : xs[i]? = some xs[i] := zAh hl
  rw [h k s i _ hx hi, List.drop_eq_getElem_cons hl, runS]
  cases hc : chk xs[i] s with
  | inl e => rfl
  | inr s' => exact ih k s' (i + 1) (by omega) (by omega) (hI s i _ s' hx hi hc)
theorem zev {α S E : Type} (xs : List α) (l : Nat -> S -> Int -> Option (E ⊕ S)) (chk : α -> S -> E ⊕ S) (I : S -> Nat -> Prop)
  (h : ∀ k s (i : Nat) x, xs[i]? = some x -> I s i -> l (k + 1) s i = Sum.elim (fun e => some (.inl e)) (fun s' => l k s' ((i + 1 : Nat) : Int)) (chk x s))
  (hI : ∀ s (i : Nat) x s', xs[i]? = some x -> I s i -> chk x s = .inr s' -> I s' (i + 1))
  (h0 : ∀ k s (i : Nat), xs.length <= i -> l (k + 1) s i = some (.inr s)) (k : Nat) (s : S) (hk : xs.length < k) (hi : I s 0) : l k s 0 = some (runS chk xs s) := by
 have := zkd xs l chk I h hI h0 xs.length k s 0 (by omega) hk hi
 simpa using this
theorem sEq_iff {a b : zAd} : sEq a b = true ↔ a = b := by
 unfold sEq
 rw [beq_iff_eq, ByteArray.toList_eq, ByteArray.toList_eq]
 constructor
 ·intro h
  cases a; cases b
  simp at h
  rw [h]
 ·rintro rfl; rfl
theorem z01 (a : zAd) : (z04 a).length = a.size := by unfold z04; rw [List.length_map, Array.length_toList]; rfl
theorem z95 (a : zAd) (i : Int) : bidx a i = idx (z04 a) i := by
 unfold bidx idx
 by_cases h : 0 <= i
 ·rw [if_pos h, if_neg (by omega)]
  unfold z04
  rw [List.getElem?_map, Array.getElem?_toList]
  rfl
 ·rw [if_neg h, if_pos (by omega)]
end Go.Am
/- Returns of printed walks: what a function's end asks, once for all returns. -/
namespace Go.Am
open Go
noncomputable section
def RK (P : Program) (fn : Func) (n : Nat) (G : GM) (L : List Pc) (Φ : Value -> GM -> AH -> Prop) (R : Value -> AH -> Prop) : Prop := ∀ v H' G', Ow G' H' L -> G.le G' -> Φ v G' H' -> R v H'
def RKF (P : Program) (fn : Func) (n : Nat) (G : GM) (LF : Value -> List Pc) (Φ : Value -> Value -> GM -> Prop) (R : Value -> AH -> Prop) : Prop := ∀ w v H' G', Ow G' H' (LF w) -> G.le G' -> Φ w v G' -> R v H'
section
variable {P : Program} {n : Nat} {σ : Nat -> Value} {H : AH} {fn : Func} {G G' : GM} {L : List Pc} {R : Value -> AH -> Prop} {f : FuncId} {c : Code} {args : List Value} {r1 r2 r3 r4 r5 : ResultVar} {v1 v2 v3 v4 v5 : Value}
 {Φ : Value -> GM -> AH -> Prop} {LF : Value -> List Pc} {Ψ : Value -> Value -> GM -> Prop}
theorem CR.og (hf : P.funcs[f]? = some fn) (hb : fn.body = some c) (hn : max fn.ntmps args.length = n) (h : ∀ R, RK P fn n G L Φ R -> AW P n c (fun t => args.getD t undef) H (retQ P fn n R)) : CR P f args G H L Φ :=
 CR.of (zbr (R := fun v H' => ∃ G', Ow G' H' L /\ G.le G' /\ Φ v G' H') hf hb hn (h _ fun v H' G' a b c => ⟨G', a, b, c⟩))
theorem CRF.og (hf : P.funcs[f]? = some fn) (hb : fn.body = some c) (hn : max fn.ntmps args.length = n) (h : ∀ R, RKF P fn n G LF Ψ R -> AW P n c (fun t => args.getD t undef) H (retQ P fn n R)) : CRF P f args G H LF Ψ :=
 CRF.of (zbr (R := fun v H' => ∃ w G', Ow G' H' (LF w) /\ G.le G' /\ Ψ w v G') hf hb hn (h _ fun w v H' G' a b c => ⟨w, G', a, b, c⟩))
theorem zn4 (k : RK P fn n G L Φ R) (hr : fn.results.toList = []) (O : Ow G' H L) (s : G.le G') (h : Φ (.tuple #[]) G' H) : retQ P fn n R .ret σ H := zmy hr (k _ _ _ O s h)
theorem z16 (k : RK P fn n G L Φ R) (hr : fn.results.toList = [r1]) (h1 : RR P n σ H r1 v1) (O : Ow G' H L) (s : G.le G') (h : Φ v1 G' H) : retQ P fn n R .ret σ H := zmj hr h1 (k _ _ _ O s h)
theorem zas (k : RK P fn n G L Φ R) (hr : fn.results.toList = [r1, r2]) (h1 : RR P n σ H r1 v1) (h2 : RR P n σ H r2 v2) (O : Ow G' H L) (s : G.le G') (h : Φ (.tuple #[v1, v2]) G' H) : retQ P fn n R .ret σ H := zmk hr h1 h2 (k _ _ _ O s h)
theorem zh3 (k : RK P fn n G L Φ R) (hr : fn.results.toList = [r1, r2, r3]) (h1 : RR P n σ H r1 v1) (h2 : RR P n σ H r2 v2) (h3 : RR P n σ H r3 v3) (O : Ow G' H L) (s : G.le G') (h : Φ (.tuple #[v1, v2, v3]) G' H) : retQ P fn n R .ret σ H := zmz hr h1 h2 h3 (k _ _ _ O s h)
theorem zfp (k : RKF P fn n G LF Ψ R) (w : Value) (hr : fn.results.toList = [r1]) (h1 : RR P n σ H r1 v1) (O : Ow G' H (LF w)) (s : G.le G') (h : Ψ w v1 G') : retQ P fn n R .ret σ H := zmj hr h1 (k w _ _ _ O s h)
theorem zh4 (k : RKF P fn n G LF Ψ R) (w : Value) (hr : fn.results.toList = [r1, r2]) (h1 : RR P n σ H r1 v1) (h2 : RR P n σ H r2 v2) (O : Ow G' H (LF w)) (s : G.le G') (h : Ψ w (.tuple #[v1, v2]) G') : retQ P fn n R .ret σ H := zmk hr h1 h2 (k w _ _ _ O s h)
theorem zh5 : (program : Sem Program).pureRun P = some P := rfl
theorem zma {t : TypeId} {m : Nat} {a b : zAd} (hu : P.underlying t = some .string) : (Op.equalIn (m + 1) t (.string a) (.string b)).pureRun P = some (sEq a b) := by
 simp only [Op.equalIn, z0c, z0r hu, Option.bind_some, z0o]
 have e : (a == b) = (a.data == b.data) := by cases a; cases b; rfl
 have e2 : (a == b) = sEq a b := Bool.eq_iff_iff.2 (by
  rw [e, beq_iff_eq, sEq_iff]
  constructor
  ·intro h; cases a; cases b; cases h; rfl
  ·rintro rfl; rfl)
 rw [e2]
theorem zmb {s : List Value} {x y : Operand} {d t ty yt : Nat} {pos : String} {af : Array Edge} {g : Option (Nat × Bool)} {op : BinOp} {v u : Value} {b : Bool} (h1 : opnd s x = some v) (h2 : opnd s y = some u) (hc1 : closed v = true) (hc2 : closed u = true) (hab : abin op v u = none)
  (hr : (do eqGuard op t x y v u; Go.binOp op t v u : Sem Value).pureRun P = some (.bool b)) : z1t P s ⟨some d, .binOp op t x y yt, ty, pos, af, g⟩ = some (.bool b) := by
 have hag : agen P s ⟨some d, .binOp op t x y yt, ty, pos, af, g⟩ = some (.bool b) := by
  unfold agen
  rw [if_neg (by simp [zbn]), if_pos (by simp [Op.operands, h1, h2, hc1, hc2])]
  have : (execOp (fun x => (opnd s x).getD undef) ⟨some d, .binOp op t x y yt, ty, pos, af, g⟩).pureRun P = some (.value (.bool b)) := by
   simp only [execOp, h1, h2, Option.getD_some]
   rw [z0c] at hr ⊢
   simp [hr, z0c, z0o]
  rw [this]
  simp [closed, z1k]
 unfold z1t
 simp only [h1, h2, Option.bind_some]
 rw [hab]
 simp only [hc1, hc2, Bool.and_self, if_true]
 exact hag
theorem zmc {s : List Value} {x y : Operand} {d t ty yt : Nat} {pos : String} {af : Array Edge} {g : Option (Nat × Bool)} {op : BinOp} {cs1 cs2 : List Value} {b : Bool} (h1 : opnd s x = some (.agg cs1.toArray)) (h2 : opnd s y = some (.agg cs2.toArray)) (hc1 : closed (.agg cs1.toArray) = true) (hc2 : closed (.agg cs2.toArray) = true)
  (hr : (do eqGuard op t x y (.agg cs1.toArray) (.agg cs2.toArray); Go.binOp op t (.agg cs1.toArray) (.agg cs2.toArray) : Sem Value).pureRun P = some (.bool b)) : z1t P s ⟨some d, .binOp op t x y yt, ty, pos, af, g⟩ = some (.bool b) := zmb h1 h2 hc1 hc2 rfl hr
end
end
end Go.Am
/- The place of a byte in a text: the library's function, by the shelf's contract, as a typed function. -/
namespace Go.Am.Tryd
open Go Go.Am Go.Proofs
def zn5 : Go.Shelf.Ren := ⟨fun x => if x = 217 then 135 else if x = 266 then 143 else x, fun x => if x = 3 then 3 else if x = 5 then 5 else 9, fun x => x⟩
theorem zmd : Lays.n217 Tryd.prog zn5 where
 mixed := by kernel_rfl
 f217 := by kernel_rfl
 f266 := by kernel_rfl
 t3 := Tryd.underlying3
 a3 := Tryd.isAgg3
 z3 := Tryd.sizeOf3
 v3 := Tryd.zeroValue3
 t5 := Tryd.underlying5
 a5 := Tryd.isAgg5
 z5 := Tryd.sizeOf5
 v5 := Tryd.zeroValue5
 t9 := Tryd.underlying9
 a9 := Tryd.isAgg9
 z9 := Tryd.sizeOf9
 v9 := Tryd.zeroValue9
theorem zke (s : zAd) (c : Int) (H : AH) : ACalls Tryd.prog 135 [.string s, .int .u8 c] H (.int .i64 (Lib.indexByte s.data.toList c.toNat.toUInt8)) H := by
 refine ⟨Nx.refl _, fun ι w cargs hS hargs => ?_⟩
 have he := hargs.closed_eq rfl
 have hc : cargs = #[.string s, .int .u8 c] := by
  cases cargs; exact congrArg Array.mk he
 subst hc
 refine (Any.stringslite_IndexByte zmd s c w).mono ?_
 rintro e w' ⟨rfl, rfl⟩
 exact ⟨ι, _, rfl, .scal rfl, hS, fun _ _ h => h, fun _ _ => rfl, fun _ h => .inl h, fun _ h => .inl h, fun _ _ _ => rfl, Nat.le_refl _, rfl, rfl, rfl⟩
def z1l (K : Nat) (s : zAd) (c : Int) : Option Int := some (Lib.indexByte s.data.toList c.toNat.toUInt8)
theorem z47 (K : Nat) {G : GM} {H : AH} {L : List Pc} (p0 : zAd) (p1 : Int) (O : Ow G H L) (r : Int) (h : z1l K p0 p1 = some r) :
  CR Tryd.prog 135 [.string p0, .int .u8 p1] G H L (fun v G' _ => v = .int .i64 r) := by
 cases h
 exact ⟨_, H, G, zke p0 p1 H, O, zAf _, rfl⟩
end Go.Am.Tryd
/- Typed functions with the same answers as the program's, and the walks that show it. -/
namespace Go.Am.Tryd
open Go Go.Am Go.Proofs
variable (K : Nat) {G : GM} {H : AH} {L : List Pc}
def z0z (K : Nat) (p0 : zAd) (p1 : zAd) : Option Bool := (Option.bind ((if (decide ((p0.size : Int) >= (p1.size : Int))) = true then ((ssl p0 0 (p1.size : Int)).bind fun x7 => some (sEq x7 p1)) else some false)) (tu1 fun x11 => some x11))
theorem z48 (p0 : zAd) (p1 : zAd) (O : Ow G H (L)) (r : Bool) (h : z0z K p0 p1 = some r) :
    CR Tryd.prog 130 [(.string p0), (.string p1)] G H (L) (fun v G' _ => v = .bool r) := by
 unfold z0z at h
 refine CR.og (n := 18) (fn := Tryd.f130) (by kernel_rfl) rfl rfl fun R kr => (.seq (.region (W.q1 (.bool false) rfl (.nil (.seq ?_)))))
 obtain ⟨q1, h2, h3⟩ := z00 h
 refine AW.midT (fun σ' H' => ∃ (y1 : Bool) (G' : GM), y1 = q1 /\ Ow G' H' (L) /\ GM.le G G' /\ σ' 4 = .bool y1) ?_ ?_
 rotate_left
 .rintro σ12 H13 fr14 ⟨x11, G15, rfl, O16, s17, t19⟩
  have h20 := z0d h3
  refine .ret ?_
  obtain rfl := zAa h20
  exact z16 kr (v1 := (.bool x11)) (by rfl) (z09 (by rfl) (by exact t19)) O16 s17 rfl
 refine .region (W.q2 (.string p0) rfl (W.pure (v := (.int .i64 (p0.size : Int))) rfl rfl (z1h (oo rfl rfl) un9) (W.q2 (.string p1) rfl (W.pure (v := (.int .i64 (p1.size : Int))) rfl rfl (z1h (oo rfl rfl) un9) (W.q3 (.bool (decide ((p0.size : Int) >= (p1.size : Int)))) rfl rfl (W.q2 (.bool (decide ((p0.size : Int) >= (p1.size : Int)))) rfl ?_))))))
 refine W.splitAt (t := 10) (b := decide ((p0.size : Int) >= (p1.size : Int))) rfl (fun g4 gv5 => ?_) (fun g4 gv5 => ?_)
 rotate_left
 .have h10 := z0h g4 h2
  refine W.q6 rfl gv5 (W.q6 rfl gv5 (W.q6 rfl gv5 (W.q6 rfl gv5 (W.q6 rfl gv5 (W.q6 rfl gv5 (W.q5 (.bool false) gv5 rfl ?_))))))
  refine W.q1 (.bool false) rfl (.nil ?_)
  obtain rfl := zAa h10
  exact ⟨false, _, rfl, O, (zAf _), rfl⟩
 have h6 := z03 g4 h2
 refine W.q2 (hg := gk rfl rfl gv5 rfl) (.string p0) rfl (W.q2 (hg := gk rfl rfl gv5 rfl) (.string p1) rfl (W.pure (v := (.int .i64 (p1.size : Int))) (gk rfl rfl gv5 rfl) rfl (z1h (oo rfl rfl) un9) ?_))
 obtain ⟨x7, i8, h9⟩ := z00 h6
 refine W.pure (v := (.string x7)) (gk rfl rfl gv5 rfl) rfl (zgz un9 (oo rfl rfl) (oo rfl rfl) i8) (W.q2 (hg := gk rfl rfl gv5 rfl) (.string p1) rfl (W.pure (v := (.bool (sEq x7 p1))) (gk rfl rfl gv5 rfl) rfl (z6c (oo rfl rfl) (oo rfl rfl)) (W.q4 (.bool (sEq x7 p1)) gv5 rfl (W.q1 (.bool (sEq x7 p1)) rfl (.nil ?_)))))
 obtain rfl := zAa h9
 exact ⟨sEq x7 p1, _, rfl, O, (zAf _), rfl⟩
def z10 (K : Nat) (p0 : zAd) (p1 : zAd) : Option (zAd × Bool) := ((z0z K p0 p1).bind fun x1 => (if (!x1) = true then some (p0, false) else ((ssl p0 (p1.size : Int) (p0.size : Int)).bind fun x15 => some (x15, true))))
theorem z49 (p0 : zAd) (p1 : zAd) (O : Ow G H (L)) (r : zAd × Bool) (h : z10 K p0 p1 = some r) :
    CR Tryd.prog 120 [(.string p0), (.string p1)] G H (L) (fun v G' _ => v = .tuple #[.string r.1, .bool r.2]) := by
 unfold z10 at h
 refine CR.og (n := 15) (fn := Tryd.f120) (by kernel_rfl) rfl rfl fun R kr => (.seq (.region (W.q1 (.string (⟨#[]⟩ : zAd)) rfl (W.q1 (.bool false) rfl (.nil (.seq ?_))))))
 refine .seq (.region (W.q2 (.string p0) rfl (W.q2 (.string p1) rfl ?_)))
 obtain ⟨x1, i2, h3⟩ := z00 h
 refine W.lo rfl rfl (Lo.cP rfl (fn := Tryd.f130) (by kernel_rfl) rfl (mc rfl (mc rfl mn)) O (fun L' O' => z48 K p0 p1 O' _ i2)) ?_
 rintro v10 H11 ⟨G4, O5, s6, sm9, rfl⟩
 refine W.pure (v := (.bool (!x1))) rfl rfl (zcd (a := x1) (oo rfl rfl)) (.nil (.cond (b := (!x1)) rfl rfl (fun g12 => ?_) (fun g12 => ?_)))
 .have h13 := z03 g12 h3
  refine .seq (.region (W.q2 (.string p0) rfl (W.q1 (.string p0) rfl (W.q1 (.bool false) rfl (.nil (.ret ?_))))))
  obtain rfl := zAa h13
  exact zas kr (v1 := (.string p0)) (v2 := (.bool false)) (by rfl) (z09 (by rfl) (by exact rfl)) (z09 (by rfl) (by exact rfl)) O5 s6 rfl
 have h14 := z0h g12 h3
 refine .skip (.seq (.region (W.q2 (.string p0) rfl (W.q2 (.string p1) rfl (W.pure (v := (.int .i64 (p1.size : Int))) rfl rfl (z1h (oo rfl rfl) un9) ?_)))))
 obtain ⟨x15, i16, h17⟩ := z00 h14
 refine W.pure (v := (.string x15)) rfl rfl (zd5 un9 (oo rfl rfl) (oo rfl rfl) i16) (W.q1 (.string x15) rfl (W.q1 (.bool true) rfl (.nil (.ret ?_))))
 obtain rfl := zAa h17
 exact zas kr (v1 := (.string x15)) (v2 := (.bool true)) (by rfl) (z09 (by rfl) (by exact rfl)) (z09 (by rfl) (by exact rfl)) O5 s6 rfl
def z1b (K : Nat) (p0 : zAd) (p1 : zAd) : Option (zAd × Bool) := ((z10 K p0 p1).bind fun x1 => some (x1.1, x1.2))
theorem z52 (p0 : zAd) (p1 : zAd) (O : Ow G H (L)) (r : zAd × Bool) (h : z1b K p0 p1 = some r) :
    CR Tryd.prog 94 [(.string p0), (.string p1)] G H (L) (fun v G' _ => v = .tuple #[.string r.1, .bool r.2]) := by
 unfold z1b at h
 refine CR.og (n := 11) (fn := Tryd.f94) (by kernel_rfl) rfl rfl fun R kr => (.seq (.region (W.q1 (.string (⟨#[]⟩ : zAd)) rfl (W.q1 (.bool false) rfl (.nil (.seq ?_))))))
 refine .region (W.q2 (.string p0) rfl (W.q2 (.string p1) rfl ?_))
 obtain ⟨x1, i2, h3⟩ := z00 h
 refine W.lo rfl rfl (Lo.cP rfl (fn := Tryd.f120) (by kernel_rfl) rfl (mc rfl (mc rfl mn)) O (fun L' O' => z49 K p0 p1 O' _ i2)) ?_
 rintro v10 H11 ⟨G4, O5, s6, sm9, rfl⟩
 refine W.pure (v := (.string x1.1)) rfl rfl (z08 (oo rfl rfl) rfl) (W.pure (v := (.bool x1.2)) rfl rfl (z08 (oo rfl rfl) rfl) (W.q1 (.string x1.1) rfl (W.q1 (.bool x1.2) rfl (.nil (.ret ?_)))))
 obtain rfl := zAa h3
 exact zas kr (v1 := (.string x1.1)) (v2 := (.bool x1.2)) (by rfl) (z09 (by rfl) (by exact rfl)) (z09 (by rfl) (by exact rfl)) O5 s6 rfl
def z0y (K : Nat) (p0 : zAd) (p1 : zAd) : Option Int := (Option.bind ((if ((p1.size : Int) == 0) = true then some true else some (sEq p1 p0))) (tu1 fun x8 => (if x8 = true then some 0 else (if ((p1.size : Int) == 1) = true then ((bidx p1 0).bind fun x23 => ((z1l K p0 x23).bind fun x26 => some x26)) else (if (decide ((p1.size : Int) >= (p0.size : Int))) = true then some (-1) else none)))))
theorem z53 (p0 : zAd) (p1 : zAd) (O : Ow G H (L)) (r : Int) (h : z0y K p0 p1 = some r) :
    CR Tryd.prog 131 [(.string p0), (.string p1)] G H (L) (fun v G' _ => v = .int .i64 r) := by
 unfold z0y at h
 refine CR.og (n := 143) (fn := Tryd.f131) (by kernel_rfl) rfl rfl fun R kr => (.seq (.region (W.q1 (.int .i64 0) rfl (.nil (.seq (.region ?_))))))
 refine W.q2 (.string p1) rfl (W.pure (v := (.int .i64 (p1.size : Int))) rfl rfl (z1h (oo rfl rfl) un9) (W.q1 (.int .i64 (p1.size : Int)) rfl (.nil (.seq (.block (.seq ?_))))))
 obtain ⟨q1, h2, h3⟩ := z00 h
 refine AW.midT (fun σ' H' => ∃ (y1 : Bool) (G' : GM), y1 = q1 /\ Ow G' H' (L) /\ GM.le G G' /\ σ' 16 = .bool y1) ?_ ?_
 .refine .region (W.q2 (.int .i64 (p1.size : Int)) rfl (W.q3 (.bool ((p1.size : Int) == 0)) rfl rfl (W.q2 (.bool ((p1.size : Int) == 0)) rfl (W.splitAt (t := 19) (b := ((p1.size : Int) == 0)) rfl (fun g4 gv5 => ?_) (fun g4 gv5 => ?_)))))
  .have h6 := z03 g4 h2
   refine W.q6 rfl gv5 (W.q6 rfl gv5 (W.q6 rfl gv5 (W.q4 (.bool true) gv5 rfl (W.q1 (.bool true) rfl (.nil ?_)))))
   obtain rfl := zAa h6
   exact ⟨true, _, rfl, O, (zAf _), rfl⟩
  have h7 := z0h g4 h2
  refine W.q2 (hg := gk rfl rfl gv5 rfl) (.string p1) rfl (W.q2 (hg := gk rfl rfl gv5 rfl) (.string p0) rfl (W.pure (v := (.bool (sEq p1 p0))) (gk rfl rfl gv5 rfl) rfl (z6c (oo rfl rfl) (oo rfl rfl)) (W.q5 (.bool (sEq p1 p0)) gv5 rfl (W.q1 (.bool (sEq p1 p0)) rfl (.nil ?_)))))
  obtain rfl := zAa h7
  exact ⟨sEq p1 p0, _, rfl, O, (zAf _), rfl⟩
 rintro σ9 H10 fr11 ⟨x8, G12, rfl, O13, s14, t16⟩
 have h17 := z0d h3
 refine .cond (b := x8) rfl t16 (fun g18 => ?_) (fun g18 => ?_)
 .have h19 := z03 g18 h17
  refine .seq (.region (W.q1 (.int .i64 0) rfl (.nil (.ret ?_))))
  obtain rfl := zAa h19
  exact z16 kr (v1 := (.int .i64 0)) (by rfl) (z09 (by rfl) (by exact rfl)) O13 s14 rfl
 have h20 := z0h g18 h17
 refine .seq (.region (W.q2 (.int .i64 (p1.size : Int)) ((fr11 5 rfl).trans rfl) (W.q3 (.bool ((p1.size : Int) == 1)) rfl rfl (W.q1 (.bool ((p1.size : Int) == 1)) rfl (.nil (.cond (b := ((p1.size : Int) == 1)) rfl rfl (fun g21 => ?_) (fun g21 => ?_)))))))
 .have h22 := z03 g21 h20
  refine .seq (.region (W.q2 (.string p0) ((fr11 0 rfl).trans rfl) (W.q2 (.string p1) ((fr11 1 rfl).trans rfl) ?_)))
  obtain ⟨x23, i24, h25⟩ := z00 h22
  refine W.pure (v := (.int .u8 x23)) rfl rfl (z93 un9 (oo rfl rfl) (oo rfl rfl) i24) ?_
  obtain ⟨x26, i27, h28⟩ := z00 h25
  refine W.lo rfl rfl (Lo.cP rfl (fn := Tryd.f135) (by kernel_rfl) rfl (mc rfl (mc rfl mn)) O13 (fun L' O' => z47 K p0 x23 O' _ i27)) ?_
  rintro v35 H36 ⟨G29, O30, s31, sm34, rfl⟩
  refine W.q1 (.int .i64 x26) rfl (.nil (.ret ?_))
  obtain rfl := zAa h28
  exact z16 kr (v1 := (.int .i64 x26)) (by rfl) (z09 (by rfl) (by exact rfl)) O30 (zAe s14 s31) rfl
 have h37 := z0h g21 h20
 refine .seq (.region (W.q2 (.int .i64 (p1.size : Int)) ((fr11 5 rfl).trans rfl) (W.q2 (.string p0) ((fr11 0 rfl).trans rfl) (W.pure (v := (.int .i64 (p0.size : Int))) rfl rfl (z1h (oo rfl rfl) un9) (W.q3 (.bool (decide ((p1.size : Int) >= (p0.size : Int)))) rfl rfl (W.q1 (.bool (decide ((p1.size : Int) >= (p0.size : Int)))) rfl ?_))))))
 refine .nil (.cond (b := decide ((p1.size : Int) >= (p0.size : Int))) rfl rfl (fun g38 => ?_) (fun g38 => ?_))
 rotate_left
 .have h40 := z0h g38 h37
  refine .seq (.region (W.q2 (.int .i64 (p1.size : Int)) ((fr11 5 rfl).trans rfl) ?_))
  exact gap h40
 have h39 := z03 g38 h37
 refine .seq (.region (W.q1 (.int .i64 (-1)) rfl (.nil (.ret ?_))))
 obtain rfl := zAa h39
 exact z16 kr (v1 := (.int .i64 (-1))) (by rfl) (z09 (by rfl) (by exact rfl)) O13 s14 rfl
def z1n (K : Nat) (p0 : zAd) (p1 : zAd) : Option (zAd × zAd × Bool) := ((z0y K p0 p1).bind fun x1 => (if (decide (x1 >= 0)) = true then ((ssl p0 0 x1).bind fun x19 => ((ssl p0 (z05 .i64 (x1 + (p1.size : Int))) (p0.size : Int)).bind fun x22 => some (x19, x22, true))) else some (p0, (⟨#[]⟩ : zAd), false)))
theorem z5f (p0 : zAd) (p1 : zAd) (O : Ow G H (L)) (r : zAd × zAd × Bool) (h : z1n K p0 p1 = some r) :
    CR Tryd.prog 121 [(.string p0), (.string p1)] G H (L) (fun v G' _ => v = .tuple #[.string r.1, .string r.2.1, .bool r.2.2]) := by
 unfold z1n at h
 refine CR.og (n := 23) (fn := Tryd.f121) (by kernel_rfl) rfl rfl fun R kr => (.seq (.region (W.q1 (.string (⟨#[]⟩ : zAd)) rfl (W.q1 (.string (⟨#[]⟩ : zAd)) rfl (W.q1 (.bool false) rfl (.nil ?_))))))
 refine .seq (.seq (.region (W.q2 (.string p0) rfl (W.q2 (.string p1) rfl ?_))))
 obtain ⟨x1, i2, h3⟩ := z00 h
 refine W.lo rfl rfl (Lo.cP rfl (fn := Tryd.f131) (by kernel_rfl) rfl (mc rfl (mc rfl mn)) O (fun L' O' => z53 K p0 p1 O' _ i2)) ?_
 rintro v10 H11 ⟨G4, O5, s6, sm9, rfl⟩
 refine W.q1 (.int .i64 x1) rfl (.nil (.seq (.region (W.q2 (.int .i64 x1) rfl (W.q3 (.bool (decide (x1 >= 0))) rfl rfl (.nil ?_))))))
 refine .cond (b := decide (x1 >= 0)) rfl rfl (fun g12 => ?_) (fun g12 => ?_)
 rotate_left
 .have h25 := z0h g12 h3
  refine .skip (.seq (.region (W.q2 (.string p0) rfl (W.q1 (.string p0) rfl (W.q1 (.string (⟨#[]⟩ : zAd)) rfl (W.q1 (.bool false) rfl ?_))))))
  refine .nil (.ret ?_)
  obtain rfl := zAa h25
  exact zh3 kr (v1 := (.string p0)) (v2 := (.string (⟨#[]⟩ : zAd))) (v3 := (.bool false)) (by rfl) (z09 (by rfl) (by exact rfl)) (z09 (by rfl) (by exact rfl)) (z09 (by rfl) (by exact rfl)) O5 s6 rfl
 have h13 := z03 g12 h3
 refine .seq (.draw2 (M := [0, 0, 3, 0, 0, 0, 32, 112, 248, 7, 1023, 2047]) mixed (by kernel_rfl) (by kernel_rfl) fun H14 N18 x15 F17 => ?_)
 have O16 := O5.ext x15
 refine D2.q2 (.string p0) rfl (D2.q2 (.int .i64 x1) rfl ?_)
 obtain ⟨x19, i20, h21⟩ := z00 h13
 refine D2.pure (v := (.string x19)) rfl rfl (zgz un9 (oo rfl rfl) (oo rfl rfl) i20) (D2.q2 (.string p0) rfl (D2.q2 (.int .i64 x1) rfl (D2.q2 (.string p1) rfl (D2.pure (v := (.int .i64 (p1.size : Int))) rfl rfl (z1h (oo rfl rfl) un9) (D2.q3 (.int .i64 (z05 .i64 (x1 + (p1.size : Int)))) rfl rfl ?_)))))
 obtain ⟨x22, i23, h24⟩ := z00 h21
 refine D2.pure (v := (.string x22)) rfl rfl (zd5 un9 (oo rfl rfl) (oo rfl rfl) i23) (D2.q1 (.string x19) rfl (D2.q1 (.string x22) rfl (D2.q1 (.bool true) rfl (.nil (.ret ?_)))))
 obtain rfl := zAa h24
 exact zh3 kr (v1 := (.string x19)) (v2 := (.string x22)) (v3 := (.bool true)) (by rfl) (z09 (by rfl) (by exact rfl)) (z09 (by rfl) (by exact rfl)) (z09 (by rfl) (by exact rfl)) O16 s6 rfl
def z3e (K : Nat) (p0 : zAd) (p1 : zAd) : Option (zAd × zAd × Bool) := ((z1n K p0 p1).bind fun x1 => some (x1.1, x1.2.1, x1.2.2))
theorem z7s (p0 : zAd) (p1 : zAd) (O : Ow G H (L)) (r : zAd × zAd × Bool) (h : z3e K p0 p1 = some r) :
    CR Tryd.prog 95 [(.string p0), (.string p1)] G H (L) (fun v G' _ => v = .tuple #[.string r.1, .string r.2.1, .bool r.2.2]) := by
 unfold z3e at h
 refine CR.og (n := 13) (fn := Tryd.f95) (by kernel_rfl) rfl rfl fun R kr => (.seq (.region (W.q1 (.string (⟨#[]⟩ : zAd)) rfl (W.q1 (.string (⟨#[]⟩ : zAd)) rfl (W.q1 (.bool false) rfl (.nil ?_))))))
 refine .seq (.region (W.q2 (.string p0) rfl (W.q2 (.string p1) rfl ?_)))
 obtain ⟨x1, i2, h3⟩ := z00 h
 refine W.lo rfl rfl (Lo.cP rfl (fn := Tryd.f121) (by kernel_rfl) rfl (mc rfl (mc rfl mn)) O (fun L' O' => z5f K p0 p1 O' _ i2)) ?_
 rintro v10 H11 ⟨G4, O5, s6, sm9, rfl⟩
 refine W.pure (v := (.string x1.1)) rfl rfl (z08 (oo rfl rfl) rfl) (W.pure (v := (.string x1.2.1)) rfl rfl (z08 (oo rfl rfl) rfl) (W.pure (v := (.bool x1.2.2)) rfl rfl (z08 (oo rfl rfl) rfl) (W.q1 (.string x1.1) rfl (W.q1 (.string x1.2.1) rfl (W.q1 (.bool x1.2.2) rfl (.nil ?_))))))
 refine .ret ?_
 obtain rfl := zAa h3
 exact zh3 kr (v1 := (.string x1.1)) (v2 := (.string x1.2.1)) (v3 := (.bool x1.2.2)) (by rfl) (z09 (by rfl) (by exact rfl)) (z09 (by rfl) (by exact rfl)) (z09 (by rfl) (by exact rfl)) O5 s6 rfl
def z1c (K : Nat) (p0 : zAd) : Nat -> Int -> Option (Int ⊕ Unit)
  | 0, _ => none
  | k + 1, x39 => (if (decide (x39 < (List.length (z04 p0) : Int))) = true then ((idx (z04 p0) x39).bind fun x50 => (Option.bind ((if (decide (x50 < 48)) = true then some true else some (decide (x50 > 57)))) (tu1 fun x61 => (if x61 = true then some (.inl 5) else z1c K p0 k (z05 .i64 (x39 + 1)))))) else some (.inr ()))
def z5o (K : Nat) (p0 : zAd) : Option Int := (Option.bind ((if (sEq p0 (⟨#[]⟩ : zAd)) = true then some true else ((bidx p0 0).bind fun x8 => (if (x8 == 48) = true then some (decide ((p0.size : Int) > 1)) else some false)))) (tu1 fun x15 => (if x15 = true then some 5 else (zae (z1c K p0 K 0) (tu1 fun a87 => some a87) (tu0 (if (decide ((p0.size : Int) > 2000)) = true then some 2 else some 0))))))
theorem z96 (p0 : zAd) (O : Ow G H (L)) (r : Int) (h : z5o K p0 = some r) :
    CR Tryd.prog 101 [(.string p0)] G H (L) (fun v G' _ => v = .int .i64 r) := by
 unfold z5o at h
 refine CR.og (n := 34) (fn := Tryd.f101) (by kernel_rfl) rfl rfl fun R kr => (.seq (.region (W.q1 (.int .i64 0) rfl (.nil (.seq (.seq ?_))))))
 obtain ⟨q1, h2, h3⟩ := z00 h
 refine AW.midT (fun σ' H' => ∃ (y1 : Bool) (G' : GM), y1 = q1 /\ Ow G' H' (L) /\ GM.le G G' /\ σ' 16 = .bool y1) ?_ ?_
 .refine .region (W.q2 (.string p0) rfl (W.pure (v := (.bool (sEq p0 (⟨#[]⟩ : zAd)))) rfl rfl (z6c (oo rfl rfl) (oo rfl rfl)) (W.q2 (.bool (sEq p0 (⟨#[]⟩ : zAd))) rfl (W.splitAt (t := 7) (b := sEq p0 (⟨#[]⟩ : zAd)) rfl (fun g4 gv5 => ?_) (fun g4 gv5 => ?_)))))
  .have h6 := z03 g4 h2
   refine W.q6 rfl gv5 (W.q6 rfl gv5 (W.q6 rfl gv5 (W.q6 rfl gv5 (W.skipU rfl rfl rfl rfl (W.skipU rfl rfl rfl rfl (W.skipU rfl rfl rfl rfl ?_))))))
   refine W.q6 rfl gv5 (W.q4 (.bool true) gv5 rfl (.nil ?_))
   obtain rfl := zAa h6
   exact ⟨true, _, rfl, O, (zAf _), rfl⟩
  have h7 := z0h g4 h2
  refine W.q2 (hg := gk rfl rfl gv5 rfl) (.string p0) rfl ?_
  obtain ⟨x8, i9, h10⟩ := z00 h7
  refine W.pure (v := (.int .u8 x8)) (gk rfl rfl gv5 rfl) rfl (z93 un9 (oo rfl rfl) (oo rfl rfl) i9) (W.q3 (hg := gk rfl rfl gv5 rfl) (.bool (x8 == 48)) rfl rfl (W.q2 (hg := gk rfl rfl gv5 rfl) (.bool (x8 == 48)) rfl (W.splitAt (t := 11) (b := (x8 == 48)) rfl (fun g11 gv12 => ?_) (fun g11 gv12 => ?_))))
  rotate_left
  .have h14 := z0h g11 h10
   refine W.q6 rfl gv12 (W.q6 rfl gv12 (W.q6 rfl gv12 (W.q5 (hg := gk rfl rfl gv5 rfl) (.bool false) gv12 rfl (W.q5 (.bool false) gv5 rfl (.nil ?_)))))
   obtain rfl := zAa h14
   exact ⟨false, _, rfl, O, (zAf _), rfl⟩
  have h13 := z03 g11 h10
  refine W.q2 (hg := gk rfl rfl gv12 rfl) (.string p0) rfl (W.pure (v := (.int .i64 (p0.size : Int))) (gk rfl rfl gv12 rfl) rfl (z1h (oo rfl rfl) un9) (W.q3 (hg := gk rfl rfl gv12 rfl) (.bool (decide ((p0.size : Int) > 1))) rfl rfl (W.q4 (hg := gk rfl rfl gv5 rfl) (.bool (decide ((p0.size : Int) > 1))) gv12 rfl (W.q5 (.bool (decide ((p0.size : Int) > 1))) gv5 rfl (.nil ?_)))))
  obtain rfl := zAa h13
  exact ⟨decide ((p0.size : Int) > 1), _, rfl, O, (zAf _), rfl⟩
 rintro σ16 H17 fr18 ⟨x15, G19, rfl, O20, s21, t23⟩
 have h24 := z0d h3
 refine .cond (b := x15) rfl t23 (fun g25 => ?_) (fun g25 => ?_)
 .have h26 := z03 g25 h24
  refine .seq (.region (W.q1 (.int .i64 5) rfl (.nil (.ret ?_))))
  obtain rfl := zAa h26
  exact z16 kr (v1 := (.int .i64 5)) (by rfl) (z09 (by rfl) (by exact rfl)) O20 s21 rfl
 have h27 := z0h g25 h24
 refine .skip (.seq (.seq (.region (W.q2 (.string p0) ((fr18 0 rfl).trans rfl) (W.lo rfl rfl (Lo.bytes rfl un9 zfx in5 rfl O20) ?_)))))
 rintro v33 H34 ⟨G29, O28, s30, sm32, f31⟩
 refine W.pure (v := (.int .i64 (List.length (z04 p0) : Int))) rfl rfl (z0p (oo rfl rfl) (z0f f31) (z06 zfx)) (W.q2 (.int .i64 0) rfl (.nil ?_))
 obtain ⟨q35, h36, h37⟩ := z2p h27
 refine AW.midT (fun σ' H' => ∃  (G' : GM), (.inr ()) = q35 /\ Ow G' H' (L) /\ GM.le G29 G') ?_ ?_
 rotate_left
 .rintro σ76 H77 fr78 ⟨G79, rfl, O80, s81⟩
  have h83 := z6j (z8a h37)
  refine .seq (.seq (.region (W.q2 (.string p0) ((fr78 0 rfl).trans ((fr18 0 rfl).trans rfl)) (W.pure (v := (.int .i64 (p0.size : Int))) rfl rfl (z1h (oo rfl rfl) un9) (W.q3 (.bool (decide ((p0.size : Int) > 2000))) rfl rfl (.nil ?_))))))
  refine .cond (b := decide ((p0.size : Int) > 2000)) rfl rfl (fun g84 => ?_) (fun g84 => ?_)
  .have h85 := z03 g84 h83
   refine .seq (.region (W.q1 (.int .i64 2) rfl (.nil (.ret ?_))))
   obtain rfl := zAa h85
   exact z16 kr (v1 := (.int .i64 2)) (by rfl) (z09 (by rfl) (by exact rfl)) O80 (zAe s21 (zAe s30 s81)) rfl
  have h86 := z0h g84 h83
  refine .skip (.seq (.region (W.q1 (.int .i64 0) rfl (.nil (.ret ?_)))))
  obtain rfl := zAa h86
  exact z16 kr (v1 := (.int .i64 0)) (by rfl) (z09 (by rfl) (by exact rfl)) O80 (zAe s21 (zAe s30 s81)) rfl
 refine .block (AW.loop (α := Nat) (fun k' σ' H' => ∃ (y1 : Int) (G' : GM), z1c K p0 k' y1 = some q35 /\ Ow G' H' (L) /\ GM.le G29 G' /\ σ' 20 = .int .i64 y1) (fun k' => k') K ⟨0, _, h36, O28, (zAf _), rfl⟩ ?_)
 rintro k38
 rintro σ40 H41 fr42 ⟨x39, G43, h46, O44, s45, t47⟩
 rcases k38 with _ | k38
 .exact z0a h46
 rw [z1c] at h46
 refine .seq (.region (W.q3 (.bool (decide (x39 < (List.length (z04 p0) : Int)))) t47 ((fr42 19 rfl).trans rfl) (.nil (.seq (.cond (b := decide (x39 < (List.length (z04 p0) : Int))) rfl rfl (fun g48 => ?_) (fun g48 => ?_))))))
 rotate_left
 .have h75 := z0h g48 h46
  refine .exit ?_
  obtain rfl := zAa h75
  exact ⟨_, rfl, O44, s45⟩
 have h49 := z03 g48 h46
 refine .skip (.seq (.block (.seq (.region ?_))))
 obtain ⟨x50, i51, h52⟩ := z00 h49
 have j53 := z0g i51
 refine W.pure (v := (z2t v33 (Int.toNat x39 * 1))) rfl rfl (z3b zfx sz5 (oo rfl ((fr42 18 rfl).trans rfl)) (oo rfl t47) (z0f (RT.mono _ s45 f31)) j53.1 j53.2.1) (W.load1 (v := (.int .u8 x50)) (r := []) rfl rfl ag5 (z0q rfl (At.int (At.le (At.le (z1m f31 j53.2.2) s45 s45) (zAf _) O44.fro))) (W.q1 (.int .u8 x50) rfl (.nil (.seq ?_))))
 obtain ⟨q54, h55, h56⟩ := z00 h52
 refine AW.midT (fun σ' H' => ∃ (y1 : Bool) (G' : GM), y1 = q54 /\ Ow G' H' (L) /\ GM.le G43 G' /\ σ' 29 = .bool y1) ?_ ?_
 rotate_left
 .rintro σ62 H63 fr64 ⟨x61, G65, rfl, O66, s67, t69⟩
  have h70 := z0d h56
  refine .cond (b := x61) rfl t69 (fun g71 => ?_) (fun g71 => ?_)
  rotate_left
  .have h74 := z0h g71 h70
   refine .skip (.region (W.q3 (.int .i64 (z05 .i64 (x39 + 1))) ((fr64 20 rfl).trans t47) rfl (W.q2 (.int .i64 (z05 .i64 (x39 + 1))) rfl (.nil ?_))))
   exact ⟨k38, zAg _, ⟨z05 .i64 (x39 + 1), _, h74, O66, (zAe s45 s67), rfl⟩⟩
  have h72 := z03 g71 h70
  refine .seq (.region (W.q1 (.int .i64 5) rfl (.nil (.ret ?_))))
  obtain rfl := zAa h72
  have h73 := z0d (z7i h37)
  obtain rfl := zAa h73
  exact z16 kr (v1 := (.int .i64 5)) (by rfl) (z09 (by rfl) (by exact rfl)) O66 (zAe s21 (zAe s30 (zAe s45 s67))) rfl
 refine .region (W.q2 (.int .u8 x50) rfl (W.q3 (.bool (decide (x50 < 48))) rfl rfl (W.q2 (.bool (decide (x50 < 48))) rfl (W.splitAt (t := 26) (b := decide (x50 < 48)) rfl (fun g57 gv58 => ?_) (fun g57 gv58 => ?_)))))
 .have h59 := z03 g57 h55
  refine W.q6 rfl gv58 (W.q6 rfl gv58 (W.q4 (.bool true) gv58 rfl (.nil ?_)))
  obtain rfl := zAa h59
  exact ⟨true, _, rfl, O44, (zAf _), rfl⟩
 have h60 := z0h g57 h55
 refine W.q2 (hg := gk rfl rfl gv58 rfl) (.int .u8 x50) rfl (W.q3 (hg := gk rfl rfl gv58 rfl) (.bool (decide (x50 > 57))) rfl rfl (W.q5 (.bool (decide (x50 > 57))) gv58 rfl (.nil ?_)))
 obtain rfl := zAa h60
 exact ⟨decide (x50 > 57), _, rfl, O44, (zAf _), rfl⟩
def z2m (K : Nat) : Nat -> List Int -> Option (List Int)
  | 0, _ => none
  | k + 1, x5 => (Option.bind ((if (decide ((List.length x5 : Int) > 0)) = true then ((idx x5 (z05 .i64 ((List.length x5 : Int) - 1))).bind fun x19 => some (x19 == 0)) else some false)) (tu1 fun x24 => (if x24 = true then ((lsl x5 0 (z05 .i64 ((List.length x5 : Int) - 1))).bind fun x36 => z2m K k x36) else some x5)))
def z1u (K : Nat) (p0 : List Int) : Option (List Int) := (Option.bind (z2m K K p0) (tu1 fun x43 => some x43))
theorem z2n (v0 : Value) (p0 : List Int) (O : Ow G H (eSl v0 145 (rI .u32) p0 :: L)) (r : List Int) (h : z1u K p0 = some r) :
    CRF Tryd.prog 118 [v0] G H (fun w0 => (eSl w0 145 (rI .u32) r :: L)) (fun w0 v G' => w0 = v) := by
 unfold z1u at h
 refine CRF.og (n := 21) (fn := Tryd.f118) (by kernel_rfl) rfl rfl fun R kr => (.seq (.region (W.q1 (.slice none 0 0) rfl (.nil (.seq ?_)))))
 obtain ⟨q1, h2, h3⟩ := z00 h
 refine AW.midT (fun σ' H' => ∃ (y1 : List Int) (G' : GM), y1 = q1 /\ Ow G' H' (eSl (σ' 0) 145 (rI .u32) y1 :: L) /\ GM.le G G') ?_ ?_
 rotate_left
 .rintro σ44 H45 fr46 ⟨x43, G47, rfl, O48, s49⟩
  have h51 := z0d h3
  refine .seq (.region (W.q2 (σ44 0) rfl (W.q1 (σ44 0) rfl (.nil (.ret ?_)))))
  obtain rfl := zAa h51
  exact zfp kr (σ44 0) (v1 := (σ44 0)) (by rfl) (z09 (by rfl) (by exact rfl)) O48 s49 rfl
 refine .block (AW.loop (α := Nat) (fun k' σ' H' => ∃ (y1 : List Int) (G' : GM), z2m K k' y1 = some q1 /\ Ow G' H' (eSl (σ' 0) 145 (rI .u32) y1 :: L) /\ GM.le G G') (fun k' => k') K ⟨p0, _, h2, O, (zAf _)⟩ ?_)
 rintro k4
 rintro σ6 H7 fr8 ⟨x5, G9, h12, O10, s11⟩
 rcases k4 with _ | k4
 .exact z0a h12
 rw [z2m] at h12
 refine .seq (.seq ?_)
 obtain ⟨q13, h14, h15⟩ := z00 h12
 refine AW.midT (fun σ' H' => ∃ (y1 : Bool) (G' : GM), y1 = q13 /\ Ow G' H' (eSl (σ6 0) 145 (rI .u32) x5 :: L) /\ GM.le G9 G' /\ σ' 14 = .bool y1) ?_ ?_
 rotate_left
 .rintro σ25 H26 fr27 ⟨x24, G28, rfl, O29, s30, t32⟩
  have h33 := z0d h15
  refine .cond (b := x24) rfl t32 (fun g34 => ?_) (fun g34 => ?_)
  rotate_left
  .have h42 := z0h g34 h33
   refine .exit ?_
   obtain rfl := zAa h42
   exact ⟨x5, _, rfl, (Ow.reval (j := 0) O29 rfl ((fr27 0 rfl).trans rfl)), (zAe s11 s30)⟩
  have h35 := z03 g34 h33
  refine .skip (.block (.region (W.q2 (σ6 0) ((fr27 0 rfl).trans rfl) (W.q2 (σ6 0) ((fr27 0 rfl).trans rfl) (W.pure (v := (.int .i64 (List.length x5 : Int))) rfl rfl (z0p (oo rfl rfl) (O29.slLen (j := 0) rfl) (z06 el63)) (W.q3 (.int .i64 (z05 .i64 ((List.length x5 : Int) - 1))) rfl rfl ?_))))))
  obtain ⟨x36, i37, h38⟩ := z00 h35
  obtain ⟨w39, e41, O40⟩ := O29.pre (j := 0) rfl el63 z40 i37
  refine W.pure (v := w39) rfl rfl (e41 (oo rfl rfl) (oo rfl rfl)) (W.q1 w39 rfl (.nil ?_))
  exact ⟨k4, zAg _, ⟨x36, _, h38, O40, (zAe s11 s30)⟩⟩
 refine .region (W.q2 (σ6 0) rfl (W.pure (v := (.int .i64 (List.length x5 : Int))) rfl rfl (z0p (oo rfl rfl) (O10.slLen (j := 0) rfl) (z06 el63)) (W.q3 (.bool (decide ((List.length x5 : Int) > 0))) rfl rfl (W.q2 (.bool (decide ((List.length x5 : Int) > 0))) rfl (W.splitAt (t := 6) (b := decide ((List.length x5 : Int) > 0)) rfl (fun g16 gv17 => ?_) (fun g16 gv17 => ?_))))))
 rotate_left
 .have h23 := z0h g16 h14
  refine W.q6 rfl gv17 (W.q6 rfl gv17 (W.q6 rfl gv17 (W.q6 rfl gv17 (W.q6 rfl gv17 (W.q6 rfl gv17 (W.q6 rfl gv17 ?_))))))
  refine W.q5 (.bool false) gv17 rfl (.nil ?_)
  obtain rfl := zAa h23
  exact ⟨false, _, rfl, O10, (zAf _), rfl⟩
 have h18 := z03 g16 h14
 refine W.q2 (hg := gk rfl rfl gv17 rfl) (σ6 0) rfl (W.q2 (hg := gk rfl rfl gv17 rfl) (σ6 0) rfl (W.pure (v := (.int .i64 (List.length x5 : Int))) (gk rfl rfl gv17 rfl) rfl (z0p (oo rfl rfl) (O10.slLen (j := 0) rfl) (z06 el63)) (W.q3 (hg := gk rfl rfl gv17 rfl) (.int .i64 (z05 .i64 ((List.length x5 : Int) - 1))) rfl rfl ?_)))
 obtain ⟨x19, i20, h21⟩ := z00 h18
 have j22 := z0g i20
 refine W.pure (v := (z2t (σ6 0) (Int.toNat (z05 .i64 ((List.length x5 : Int) - 1)) * 1))) (gk rfl rfl gv17 rfl) rfl (z3b el63 z40 (oo rfl rfl) (oo rfl rfl) (O10.slLen (j := 0) rfl) j22.1 j22.2.1) (W.load1 (v := (.int .u32 x19)) (r := []) (gk rfl rfl gv17 rfl) rfl z9o (z0q rfl (At.int (O10.atSl (j := 0) rfl j22.2.2))) (W.q3 (hg := gk rfl rfl gv17 rfl) (.bool (x19 == 0)) rfl rfl (W.q4 (.bool (x19 == 0)) gv17 rfl (.nil ?_))))
 obtain rfl := zAa h21
 exact ⟨(x19 == 0), _, rfl, O10, (zAf _), rfl⟩
def z2h (K : Nat) (x18 : zAd) : Nat -> Int -> Int -> Option (Int)
  | 0, _, _ => none
  | k + 1, x32, x33 => (if (decide (x33 < (List.length (z04 x18) : Int))) = true then ((idx (z04 x18) x33).bind fun x45 => (lt (z05 .u32 ((z05 .u32 (x32 * 10)) + (IntKind.wrap .u32 (z05 .u8 (x45 - 48))))) fun x49 => z2h K x18 k x49 (z05 .i64 (x33 + 1)))) else some x32)
def z2u (K : Nat) (p0 : zAd) : Nat -> List Int -> Int -> Option (List Int)
  | 0, _, _ => none
  | k + 1, x6, x7 => (if (decide (x7 > 0)) = true then ((ssl p0 (imax 0 (z05 .i64 (x7 - 9))) x7).bind fun x18 => (Option.bind (z2h K x18 K 0 0) (tu1 fun x53 => (if List.length x6 + List.length [x53] <= 16777216 then z2u K p0 k (x6 ++ [x53]) (z05 .i64 (x7 - 9)) else none)))) else some x6)
def z54 (K : Nat) (p0 : zAd) : Option (List Int) := (Option.bind (z2u K p0 K [] (p0.size : Int)) (tu1 fun x78 => ((z1u K x78).bind fun x87 => some x87)))
theorem z64 (p0 : zAd) (O : Ow G H (L)) (r : List Int) (h : z54 K p0 = some r) :
    CRF Tryd.prog 96 [(.string p0)] G H (fun w0 => (eSl w0 145 (rI .u32) r :: L)) (fun w0 v G' => w0 = v) := by
 unfold z54 at h
 refine CRF.og (n := 39) (fn := Tryd.f96) (by kernel_rfl) rfl rfl fun R kr => (.seq (.region (W.q1 (.slice none 0 0) rfl (.nil (.seq (.region ?_))))))
 refine W.q1 (.slice none 0 0) rfl (.nil (.seq (.seq (.region (W.q2 (.string p0) rfl (W.pure (v := (.int .i64 (p0.size : Int))) rfl rfl (z1h (oo rfl rfl) un9) ?_))))))
 refine W.q1 (.int .i64 (p0.size : Int)) rfl (.nil ?_)
 obtain ⟨q1, h2, h3⟩ := z00 h
 refine AW.midT (fun σ' H' => ∃ (y1 : List Int) (G' : GM), y1 = q1 /\ Ow G' H' (eSl (σ' 3) 145 (rI .u32) y1 :: L) /\ GM.le G G') ?_ ?_
 rotate_left
 .rintro σ79 H80 fr81 ⟨x78, G82, rfl, O83, s84⟩
  have h86 := z0d h3
  refine .seq (.region (W.q2 (σ79 3) rfl ?_))
  obtain ⟨x87, i88, h89⟩ := z00 h86
  refine W.lo rfl rfl (Lo.callPF (ps := [eSl (σ79 3) 145 (rI .u32) x78]) (pw := fun w => [eSl w 145 (rI .u32) x87]) rfl (fn := Tryd.f118) (by kernel_rfl) rfl (mc rfl mn) O83 (fun L' O' => z2n K (σ79 3) x78 O' _ i88)) ?_
  rintro v98 H99 ⟨w95, G90, O91, s92, sm97, rfl⟩
  refine W.q1 w95 rfl (.nil (.ret ?_))
  obtain rfl := zAa h89
  exact zfp kr w95 (v1 := w95) (by rfl) (z09 (by rfl) (by exact rfl)) O91 (zAe s84 s92) rfl
 refine .block ?_
 have O4 := O.nilSl 145 (rI .u32)
 refine AW.loop (α := Nat) (fun k' σ' H' => ∃ (y1 : List Int) (y2 : Int) (G' : GM), z2u K p0 k' y1 y2 = some q1 /\ Ow G' H' (eSl (σ' 3) 145 (rI .u32) y1 :: L) /\ GM.le G G' /\ σ' 4 = .int .i64 y2) (fun k' => k') K ⟨[], (p0.size : Int), _, h2, O4, (zAf _), rfl⟩ ?_
 rintro k5
 rintro σ8 H9 fr10 ⟨x6, x7, G11, h14, O12, s13, t15⟩
 rcases k5 with _ | k5
 .exact z0a h14
 rw [z2u] at h14
 refine .seq (.seq (.region (W.q2 _ t15 (W.q3 (.bool (decide (x7 > 0))) rfl rfl (.nil (.cond (b := decide (x7 > 0)) rfl rfl (fun g16 => ?_) (fun g16 => ?_)))))))
 rotate_left
 .have h77 := z0h g16 h14
  refine .exit ?_
  obtain rfl := zAa h77
  exact ⟨x6, _, rfl, O12, s13⟩
 have h17 := z03 g16 h14
 refine .skip (.seq (.block (.seq (.region (W.q1 (.int .u32 0) rfl (.nil ?_))))))
 refine .seq (.seq (.region (W.q2 (.string p0) ((fr10 0 rfl).trans rfl) (W.q2 _ t15 (W.q3 (.int .i64 (z05 .i64 (x7 - 9))) rfl rfl (W.pure (v := (.int .i64 (imax 0 (z05 .i64 (x7 - 9))))) rfl rfl (zm6 (oo rfl rfl) (oo rfl rfl)) ?_))))))
 refine W.q2 _ t15 ?_
 obtain ⟨x18, i19, h20⟩ := z00 h17
 refine W.pure (v := (.string x18)) rfl rfl (zjn un9 (oo rfl rfl) (oo rfl rfl) (oo rfl rfl) i19) (W.lo rfl rfl (Lo.bytes rfl un9 zfx in5 rfl O12) ?_)
 rintro v26 H27 ⟨G22, O21, s23, sm25, f24⟩
 refine W.pure (v := (.int .i64 (List.length (z04 x18) : Int))) rfl rfl (z0p (oo rfl rfl) (z0f f24) (z06 zfx)) (W.q2 (.int .i64 0) rfl (.nil ?_))
 obtain ⟨q28, h29, h30⟩ := z00 h20
 refine AW.midT (fun σ' H' => ∃ (y1 : Int) (G' : GM), y1 = q28 /\ Ow G' H' (eSl (σ8 3) 145 (rI .u32) x6 :: L) /\ GM.le G22 G' /\ σ' 5 = .int .u32 y1) ?_ ?_
 rotate_left
 .rintro σ54 H55 fr56 ⟨x53, G57, rfl, O58, s59, t61⟩
  have h62 := z0d h30
  refine .region (W.q2 (σ8 3) ((fr56 3 rfl).trans rfl) (W.q2 _ t61 (W.lo rfl rfl (Lo.buildSlice (r := (rI .u32)) (vs := [(.int .u32 x53)]) (xs := [x53]) el63 zbs z40 (by kernel_rfl) rfl (qc rfl qn) rfl (.cons rfl .nil) O58) ?_)))
  rintro v65 H66 ⟨O63, sm64⟩
  obtain ⟨es68, e69, e70⟩ := z7r (j := 0) rfl O63
  obtain ⟨g71, h72⟩ := z3c h62
  refine W.lo rfl rfl (Lo.append (j := 1) (v := (σ8 3)) rfl rfl el63 ni63 zbs z40 zh2 (by decide) (by decide) rfl e69 e70 g71 O63) ?_
  rintro v74 H75 ⟨O67, sm73⟩
  refine W.q1 v74 rfl (.nil (.region (W.q2 _ ((fr56 4 rfl).trans t15) (W.q3 (.int .i64 (z05 .i64 (x7 - 9))) rfl rfl (W.q1 (.int .i64 (z05 .i64 (x7 - 9))) rfl (.nil ?_))))))
  have O76 : Ow G57 H75 (eSl v74 145 (rI .u32) (x6 ++ [x53]) :: L) := O67.drop 0
  exact ⟨k5, zAg _, ⟨(x6 ++ [x53]), z05 .i64 (x7 - 9), _, h72, O76, (zAe s13 (zAe s23 s59)), rfl⟩⟩
 refine .block (AW.loop (α := Nat) (fun k' σ' H' => ∃ (y1 : Int) (y2 : Int) (G' : GM), z2h K x18 k' y1 y2 = some q28 /\ Ow G' H' (eSl (σ8 3) 145 (rI .u32) x6 :: L) /\ GM.le G22 G' /\ σ' 5 = .int .u32 y1 /\ σ' 22 = .int .i64 y2) (fun k' => k') K ⟨0, 0, _, h29, O21, (zAf _), rfl, rfl⟩ ?_)
 rintro k31
 rintro σ34 H35 fr36 ⟨x32, x33, G37, h40, O38, s39, t41, t42⟩
 rcases k31 with _ | k31
 .exact z0a h40
 rw [z2h] at h40
 refine .seq (.region (W.q3 (.bool (decide (x33 < (List.length (z04 x18) : Int)))) t42 ((fr36 21 rfl).trans rfl) (.nil (.seq (.cond (b := decide (x33 < (List.length (z04 x18) : Int))) rfl rfl (fun g43 => ?_) (fun g43 => ?_))))))
 rotate_left
 .have h52 := z0h g43 h40
  refine .exit ?_
  obtain rfl := zAa h52
  exact ⟨x32, _, rfl, O38, s39, t41⟩
 have h44 := z03 g43 h40
 refine .skip (.seq (.block (.seq (.region ?_))))
 obtain ⟨x45, i46, h47⟩ := z00 h44
 have j48 := z0g i46
 refine W.pure (v := (z2t v26 (Int.toNat x33 * 1))) rfl rfl (z3b zfx sz5 (oo rfl ((fr36 20 rfl).trans rfl)) (oo rfl t42) (z0f (RT.mono _ s39 f24)) j48.1 j48.2.1) (W.load1 (v := (.int .u8 x45)) (r := []) rfl rfl ag5 (z0q rfl (At.int (At.le (At.le (z1m f24 j48.2.2) s39 s39) (zAf _) O38.fro))) (W.q1 (.int .u8 x45) rfl (.nil (.region (W.q2 _ t41 (W.q3 (.int .u32 (z05 .u32 (x32 * 10))) rfl rfl ?_))))))
 refine W.q2 (.int .u8 x45) rfl (W.q3 (.int .u8 (z05 .u8 (x45 - 48))) rfl rfl (W.pure (v := (.int .u32 (IntKind.wrap .u32 (z05 .u8 (x45 - 48))))) rfl rfl (z3s in5 z94 (oo rfl rfl)) (W.q3 (.int .u32 (z05 .u32 ((z05 .u32 (x32 * 10)) + (IntKind.wrap .u32 (z05 .u8 (x45 - 48)))))) rfl rfl ?_)))
 obtain ⟨x49, e50, h51⟩ := z6b h47
 refine W.q1 _ (congrArg (Value.int .u32) e50) (.nil (.region (W.q3 (.int .i64 (z05 .i64 (x33 + 1))) t42 rfl (W.q2 (.int .i64 (z05 .i64 (x33 + 1))) rfl (.nil ?_)))))
 exact ⟨k31, zAg _, ⟨x49, z05 .i64 (x33 + 1), _, h51, O38, s39, rfl, rfl⟩⟩
def z1o (K : Nat) (p0 : List Int) (p1 : List Int) : Nat -> Int -> Option (Int ⊕ Unit)
  | 0, _ => none
  | k + 1, x11 => (if (decide (x11 >= 0)) = true then ((idx p0 x11).bind fun x27 => ((idx p1 x11).bind fun x31 => (if (decide (x27 < x31)) = true then some (.inl (-1)) else ((idx p0 x11).bind fun x44 => ((idx p1 x11).bind fun x48 => (if (decide (x44 > x48)) = true then some (.inl 1) else z1o K p0 p1 k (z05 .i64 (x11 - 1)))))))) else some (.inr ()))
def z41 (K : Nat) (p0 : List Int) (p1 : List Int) : Option Int := (if ((List.length p0 : Int) != (List.length p1 : Int)) = true then (if (decide ((List.length p0 : Int) < (List.length p1 : Int))) = true then some (-1) else some 1) else (zae (z1o K p0 p1 K (z05 .i64 ((List.length p0 : Int) - 1))) (tu1 fun a65 => some a65) (tu0 (some 0))))
theorem z5g (v0 : Value) (p0 : List Int) (hp0 : (rSl (rI .u32)).rep G [v0] p0) (v1 : Value) (p1 : List Int) (hp1 : (rSl (rI .u32)).rep G [v1] p1) (O : Ow G H (L)) (r : Int) (h : z41 K p0 p1 = some r) :
    CR Tryd.prog 91 [v0, v1] G H (L) (fun v G' _ => v = .int .i64 r) := by
 unfold z41 at h
 refine CR.og (n := 43) (fn := Tryd.f91) (by kernel_rfl) rfl rfl fun R kr => (.seq (.region (W.q1 (.int .i64 0) rfl (.nil (.seq (.seq ?_))))))
 refine .region (W.q2 v0 rfl (W.pure (v := (.int .i64 (List.length p0 : Int))) rfl rfl (z0p (oo rfl rfl) (z0f hp0) (z06 el63)) (W.q2 v1 rfl (W.pure (v := (.int .i64 (List.length p1 : Int))) rfl rfl (z0p (oo rfl rfl) (z0f hp1) (z06 el63)) (W.q3 (.bool ((List.length p0 : Int) != (List.length p1 : Int))) rfl rfl (.nil ?_))))))
 refine .cond (b := ((List.length p0 : Int) != (List.length p1 : Int))) rfl rfl (fun g1 => ?_) (fun g1 => ?_)
 .have h2 := z03 g1 h
  refine .seq (.seq (.region (W.q2 v0 rfl (W.pure (v := (.int .i64 (List.length p0 : Int))) rfl rfl (z0p (oo rfl rfl) (z0f hp0) (z06 el63)) (W.q2 v1 rfl (W.pure (v := (.int .i64 (List.length p1 : Int))) rfl rfl (z0p (oo rfl rfl) (z0f hp1) (z06 el63)) ?_))))))
  refine W.q3 (.bool (decide ((List.length p0 : Int) < (List.length p1 : Int)))) rfl rfl (.nil (.cond (b := decide ((List.length p0 : Int) < (List.length p1 : Int))) rfl rfl (fun g3 => ?_) (fun g3 => ?_)))
  .have h4 := z03 g3 h2
   refine .seq (.region (W.q1 (.int .i64 (-1)) rfl (.nil (.ret ?_))))
   obtain rfl := zAa h4
   exact z16 kr (v1 := (.int .i64 (-1))) (by rfl) (z09 (by rfl) (by exact rfl)) O (zAf _) rfl
  have h5 := z0h g3 h2
  refine .skip (.seq (.region (W.q1 (.int .i64 1) rfl (.nil (.ret ?_)))))
  obtain rfl := zAa h5
  exact z16 kr (v1 := (.int .i64 1)) (by rfl) (z09 (by rfl) (by exact rfl)) O (zAf _) rfl
 have h6 := z0h g1 h
 refine .skip (.seq (.seq (.region (W.q2 v0 rfl (W.pure (v := (.int .i64 (List.length p0 : Int))) rfl rfl (z0p (oo rfl rfl) (z0f hp0) (z06 el63)) (W.q3 (.int .i64 (z05 .i64 ((List.length p0 : Int) - 1))) rfl rfl ?_))))))
 refine W.q1 (.int .i64 (z05 .i64 ((List.length p0 : Int) - 1))) rfl (.nil ?_)
 obtain ⟨q7, h8, h9⟩ := z2p h6
 refine AW.midT (fun σ' H' => ∃  (G' : GM), (.inr ()) = q7 /\ Ow G' H' (L) /\ GM.le G G') ?_ ?_
 rotate_left
 .rintro σ57 H58 fr59 ⟨G60, rfl, O61, s62⟩
  have h64 := z6j (z8a h9)
  refine .seq (.region (W.q1 (.int .i64 0) rfl (.nil (.ret ?_))))
  obtain rfl := zAa h64
  exact z16 kr (v1 := (.int .i64 0)) (by rfl) (z09 (by rfl) (by exact rfl)) O61 s62 rfl
 refine .block (AW.loop (α := Nat) (fun k' σ' H' => ∃ (y1 : Int) (G' : GM), z1o K p0 p1 k' y1 = some q7 /\ Ow G' H' (L) /\ GM.le G G' /\ σ' 5 = .int .i64 y1) (fun k' => k') K ⟨z05 .i64 ((List.length p0 : Int) - 1), _, h8, O, (zAf _), rfl⟩ ?_)
 rintro k10
 rintro σ12 H13 fr14 ⟨x11, G15, h18, O16, s17, t19⟩
 rcases k10 with _ | k10
 .exact z0a h18
 rw [z1o] at h18
 refine .seq (.seq (.region (W.q2 _ t19 (W.q3 (.bool (decide (x11 >= 0))) rfl rfl (.nil (.cond (b := decide (x11 >= 0)) rfl rfl (fun g20 => ?_) (fun g20 => ?_)))))))
 rotate_left
 .have h56 := z0h g20 h18
  refine .exit ?_
  obtain rfl := zAa h56
  exact ⟨_, rfl, O16, s17⟩
 have h21 := z03 g20 h18
 refine .skip (.seq (.block (.block (.seq (.draw2 (M := [0, 0, 3, 7, 0, 0, 48, 112, 255, 511]) mixed (by kernel_rfl) (by kernel_rfl) fun H22 N26 x23 F25 => ?_)))))
 have O24 := O16.ext x23
 refine D2.q2 v0 ((fr14 0 rfl).trans rfl) (D2.q2 _ t19 ?_)
 obtain ⟨x27, i28, h29⟩ := z00 h21
 have j30 := z0g i28
 refine D2.pure (v := (z2t v0 (Int.toNat x11 * 1))) rfl rfl (z3b el63 z40 (oo rfl rfl) (oo rfl rfl) (z0f (RT.mono _ s17 hp0)) j30.1 j30.2.1) (D2.load1' (v := (.int .u32 x27)) (r := []) rfl rfl z9o (z0q rfl (At.int (At.le (At.le (z1m hp0 j30.2.2) s17 s17) (zAf _) O24.fro))) z02 (D2.q2 v1 ((fr14 1 rfl).trans rfl) (D2.q2 _ t19 ?_)))
 obtain ⟨x31, i32, h33⟩ := z00 h29
 have j34 := z0g i32
 refine D2.pure (v := (z2t v1 (Int.toNat x11 * 1))) rfl rfl (z3b el63 z40 (oo rfl rfl) (oo rfl rfl) (z0f (RT.mono _ s17 hp1)) j34.1 j34.2.1) (D2.load1' (v := (.int .u32 x31)) (r := []) rfl rfl z9o (z0q rfl (At.int (At.le (At.le (z1m hp1 j34.2.2) s17 s17) (zAf _) O24.fro))) z02 (D2.q3 (.bool (decide (x27 < x31))) rfl rfl (D2.q1 (.bool (decide (x27 < x31))) rfl (.nil (.cond (b := decide (x27 < x31)) rfl rfl (fun g35 => ?_) (fun g35 => ?_))))))
 .have h36 := z03 g35 h33
  refine .seq (.region (W.q1 (.int .i64 (-1)) rfl (.nil (.ret ?_))))
  obtain rfl := zAa h36
  have h37 := z0d (z7i h9)
  obtain rfl := zAa h37
  exact z16 kr (v1 := (.int .i64 (-1))) (by rfl) (z09 (by rfl) (by exact rfl)) O24 s17 rfl
 have h38 := z0h g35 h33
 refine .seq (.draw2 (M := [0, 0, 3, 7, 0, 0, 48, 112, 255, 511]) mixed (by kernel_rfl) (by kernel_rfl) fun H39 N43 x40 F42 => ?_)
 have O41 := O24.ext x40
 refine D2.q2 v0 ((fr14 0 rfl).trans rfl) (D2.q2 _ t19 ?_)
 obtain ⟨x44, i45, h46⟩ := z00 h38
 have j47 := z0g i45
 refine D2.pure (v := (z2t v0 (Int.toNat x11 * 1))) rfl rfl (z3b el63 z40 (oo rfl rfl) (oo rfl rfl) (z0f (RT.mono _ s17 hp0)) j47.1 j47.2.1) (D2.load1' (v := (.int .u32 x44)) (r := []) rfl rfl z9o (z0q rfl (At.int (At.le (At.le (z1m hp0 j47.2.2) s17 s17) (zAf _) O41.fro))) z02 (D2.q2 v1 ((fr14 1 rfl).trans rfl) (D2.q2 _ t19 ?_)))
 obtain ⟨x48, i49, h50⟩ := z00 h46
 have j51 := z0g i49
 refine D2.pure (v := (z2t v1 (Int.toNat x11 * 1))) rfl rfl (z3b el63 z40 (oo rfl rfl) (oo rfl rfl) (z0f (RT.mono _ s17 hp1)) j51.1 j51.2.1) (D2.load1' (v := (.int .u32 x48)) (r := []) rfl rfl z9o (z0q rfl (At.int (At.le (At.le (z1m hp1 j51.2.2) s17 s17) (zAf _) O41.fro))) z02 (D2.q3 (.bool (decide (x44 > x48))) rfl rfl (D2.q1 (.bool (decide (x44 > x48))) rfl (.nil (.cond (b := decide (x44 > x48)) rfl rfl (fun g52 => ?_) (fun g52 => ?_))))))
 .have h53 := z03 g52 h50
  refine .seq (.region (W.q1 (.int .i64 1) rfl (.nil (.ret ?_))))
  obtain rfl := zAa h53
  have h54 := z0d (z7i h9)
  obtain rfl := zAa h54
  exact z16 kr (v1 := (.int .i64 1)) (by rfl) (z09 (by rfl) (by exact rfl)) O41 s17 rfl
 have h55 := z0h g52 h50
 refine .skip (.region (W.q2 _ t19 (W.q3 (.int .i64 (z05 .i64 (x11 - 1))) rfl rfl (W.q1 (.int .i64 (z05 .i64 (x11 - 1))) rfl (.nil ?_)))))
 exact ⟨k10, zAg _, ⟨z05 .i64 (x11 - 1), _, h55, O41, s17, rfl⟩⟩
def z1q (K : Nat) (p0 : List Int) (p1 : Int) : Nat -> List Int -> Int -> Int -> Option (List Int × Int)
  | 0, _, _, _ => none
  | k + 1, x11, x12, x13 => (if (decide (x13 >= 0)) = true then ((idx p0 x13).bind fun x25 => (lt (z05 .u64 ((z05 .u64 (x12 * 1000000000)) + (IntKind.wrap .u64 x25))) fun x29 => (if (IntKind.wrap .u64 p1) ≠ 0 then (lt (IntKind.wrap .u32 (z05 .u64 (Int.tdiv x29 (IntKind.wrap .u64 p1)))) fun x34 => ((idx x11 x13).bind fun x37 => (if (IntKind.wrap .u64 p1) ≠ 0 then z1q K p0 p1 k (List.set x11 (Int.toNat x13) x34) (Int.tmod x29 (IntKind.wrap .u64 p1)) (z05 .i64 (x13 - 1)) else none))) else none))) else some (x11, x12))
def z42 (K : Nat) (p0 : List Int) (p1 : Int) : Option (List Int × List Int) := (if 0 <= (List.length p0 : Int) /\ (List.length p0 : Int) <= (List.length p0 : Int) /\ (List.length p0 : Int) <= 16777216 then (Option.bind (z1q K p0 p1 K (List.replicate (Int.toNat (List.length p0 : Int)) 0) 0 (z05 .i64 ((List.length p0 : Int) - 1))) (tu2 fun x48 x49 => ((z1u K x48).bind fun x59 => ((z1u K [IntKind.wrap .u32 x49]).bind fun x76 => some (x59, x76))))) else none)
theorem z7t (v0 : Value) (p0 : List Int) (hp0 : (rSl (rI .u32)).rep G [v0] p0) (p1 : Int) (O : Ow G H (L)) (r : List Int × List Int) (h : z42 K p0 p1 = some r) :
    CR Tryd.prog 127 [v0, (.int .u32 p1)] G H (L) (fun v G' _ => ∃ (w0 : Value), ∃ (w1 : Value), v = .tuple #[w0, w1] /\ (rSl (rI .u32)).rep G' [w0] r.1 /\ (rSl (rI .u32)).rep G' [w1] r.2) := by
 unfold z42 at h
 refine CR.og (n := 45) (fn := Tryd.f127) (by kernel_rfl) rfl rfl fun R kr => (.seq (.region (W.q1 (.slice none 0 0) rfl (W.q1 (.slice none 0 0) rfl (.nil (.seq ?_))))))
 refine .region (W.q2 v0 rfl (W.pure (v := (.int .i64 (List.length p0 : Int))) rfl rfl (z0p (oo rfl rfl) (z0f hp0) (z06 el63)) ?_))
 obtain ⟨g2, h3⟩ := z3c h
 refine W.lo rfl rfl (Lo.makeSlice (r := (rI .u32)) (x0 := 0) (a := (List.length p0 : Int)) (c := (List.length p0 : Int)) rfl el63 zbs z40 (by kernel_rfl) rfl zh2 (by decide) rfl rfl g2 (zI .u32) O) ?_
 rintro v5 H6 ⟨O1, sm4⟩
 refine W.q1 v5 rfl (.nil (.seq (.region (W.q1 (.int .u64 0) rfl (.nil (.seq ?_))))))
 refine .seq (.region (W.q2 v0 rfl (W.pure (v := (.int .i64 (List.length p0 : Int))) rfl rfl (z0p (oo rfl rfl) (z0f hp0) (z06 el63)) (W.q3 (.int .i64 (z05 .i64 ((List.length p0 : Int) - 1))) rfl rfl (W.q1 (.int .i64 (z05 .i64 ((List.length p0 : Int) - 1))) rfl (.nil ?_))))))
 obtain ⟨q7, h8, h9⟩ := z00 h3
 refine AW.midT (fun σ' H' => ∃ (y1 : List Int) (y2 : Int) (G' : GM), (y1, y2) = q7 /\ Ow G' H' (eSl v5 145 (rI .u32) y1 :: L) /\ GM.le G G' /\ σ' 7 = .int .u64 y2) ?_ ?_
 rotate_left
 .rintro σ50 H51 fr52 ⟨x48, x49, G53, rfl, O54, s55, t57⟩
  have h58 := z4k h9
  refine .seq (.region (W.q2 v5 ((fr52 6 rfl).trans rfl) ?_))
  obtain ⟨x59, i60, h61⟩ := z00 h58
  refine W.lo rfl rfl (Lo.callPF (ps := [eSl v5 145 (rI .u32) x48]) (pw := fun w => [eSl w 145 (rI .u32) x59]) rfl (fn := Tryd.f118) (by kernel_rfl) rfl (mc rfl mn) O54 (fun L' O' => z2n K v5 x48 O' _ i60)) ?_
  rintro v70 H71 ⟨w67, G62, O63, s64, sm69, rfl⟩
  refine W.q2 _ t57 (W.pure (v := (.int .u32 (IntKind.wrap .u32 x49))) rfl rfl (z3s zbc z94 (oo rfl rfl)) (W.lo rfl rfl (Lo.buildSlice (r := (rI .u32)) (vs := [(.int .u32 (IntKind.wrap .u32 x49))]) (xs := [IntKind.wrap .u32 x49]) el63 zbs z40 (by kernel_rfl) rfl (qc rfl qn) rfl (.cons rfl .nil) O63) ?_))
  rintro v74 H75 ⟨O72, sm73⟩
  obtain ⟨x76, i77, h78⟩ := z00 h61
  refine W.lo rfl rfl (Lo.callPF (ps := [eSl v74 145 (rI .u32) [IntKind.wrap .u32 x49]]) (pw := fun w => [eSl w 145 (rI .u32) x76]) rfl (fn := Tryd.f118) (by kernel_rfl) rfl (mc rfl mn) O72 (fun L' O' => z2n K v74 [IntKind.wrap .u32 x49] O' _ i77)) ?_
  rintro v87 H88 ⟨w84, G79, O80, s81, sm86, rfl⟩
  refine W.q1 w67 rfl (W.q1 w84 rfl (.nil (.ret ?_)))
  obtain ⟨G89, O90, s91, f92⟩ := O80.frzSl (j := 1) rfl
  obtain ⟨G93, O94, s95, f96⟩ := O90.frzSl (j := 0) rfl
  obtain rfl := zAa h78
  exact zas kr (v1 := w67) (v2 := w84) (by rfl) (z09 (by rfl) (by exact rfl)) (z09 (by rfl) (by exact rfl)) O94 (zAe s55 (zAe s64 (zAe s81 (zAe s91 s95)))) ⟨w67, w84, rfl, (RT.mono _ s95 f92), f96⟩
 refine .block (AW.loop (α := Nat) (fun k' σ' H' => ∃ (y1 : List Int) (y2 : Int) (y3 : Int) (G' : GM), z1q K p0 p1 k' y1 y2 y3 = some q7 /\ Ow G' H' (eSl v5 145 (rI .u32) y1 :: L) /\ GM.le G G' /\ σ' 7 = .int .u64 y2 /\ σ' 8 = .int .i64 y3) (fun k' => k') K ⟨(List.replicate (Int.toNat (List.length p0 : Int)) 0), 0, z05 .i64 ((List.length p0 : Int) - 1), _, h8, O1, (zAf _), rfl, rfl⟩ ?_)
 rintro k10
 rintro σ14 H15 fr16 ⟨x11, x12, x13, G17, h20, O18, s19, t21, t22⟩
 rcases k10 with _ | k10
 .exact z0a h20
 rw [z1q] at h20
 refine .seq (.seq (.region (W.q2 _ t22 (W.q3 (.bool (decide (x13 >= 0))) rfl rfl (.nil (.cond (b := decide (x13 >= 0)) rfl rfl (fun g23 => ?_) (fun g23 => ?_)))))))
 rotate_left
 .have h47 := z0h g23 h20
  refine .exit ?_
  obtain rfl := zAa h47
  exact ⟨x11, x12, _, rfl, O18, s19, t21⟩
 have h24 := z03 g23 h20
 refine .skip (.seq (.block (.seq (.region (W.q2 _ t21 (W.q3 (.int .u64 (z05 .u64 (x12 * 1000000000))) rfl rfl ?_))))))
 refine W.q2 v0 ((fr16 0 rfl).trans rfl) (W.q2 _ t22 ?_)
 obtain ⟨x25, i26, h27⟩ := z00 h24
 have j28 := z0g i26
 refine W.pure (v := (z2t v0 (Int.toNat x13 * 1))) rfl rfl (z3b el63 z40 (oo rfl rfl) (oo rfl rfl) (z0f (RT.mono _ s19 hp0)) j28.1 j28.2.1) (W.load1 (v := (.int .u32 x25)) (r := []) rfl rfl z9o (z0q rfl (At.int (At.le (At.le (z1m hp0 j28.2.2) s19 s19) (zAf _) O18.fro))) (W.pure (v := (.int .u64 (IntKind.wrap .u64 x25))) rfl rfl (z3s z94 zbc (oo rfl rfl)) (W.q3 (.int .u64 (z05 .u64 ((z05 .u64 (x12 * 1000000000)) + (IntKind.wrap .u64 x25)))) rfl rfl ?_)))
 obtain ⟨x29, e30, h31⟩ := z6b h27
 refine W.q1 _ (congrArg (Value.int .u64) e30) (.nil (.seq (.region (W.q2 v5 ((fr16 6 rfl).trans rfl) (W.q2 _ t22 (W.q2 (.int .u64 x29) rfl ?_))))))
 refine W.q2 (.int .u32 p1) ((fr16 1 rfl).trans rfl) (W.pure (v := (.int .u64 (IntKind.wrap .u64 p1))) rfl rfl (z3s z94 zbc (oo rfl rfl)) ?_)
 obtain ⟨g32, h33⟩ := z3c h31
 refine W.pure (v := (.int .u64 (z05 .u64 (Int.tdiv x29 (IntKind.wrap .u64 p1))))) rfl rfl (zgr g32 (oo rfl rfl) (oo rfl rfl)) (W.pure (v := (.int .u32 (IntKind.wrap .u32 (z05 .u64 (Int.tdiv x29 (IntKind.wrap .u64 p1)))))) rfl rfl (z3s zbc z94 (oo rfl rfl)) ?_)
 obtain ⟨x34, e35, h36⟩ := z6b h33
 obtain ⟨x37, i38, h39⟩ := z00 h36
 have j40 := z0g i38
 refine W.pure (v := (z2t v5 (Int.toNat x13 * 1))) rfl rfl (z3b el63 z40 (oo rfl rfl) (oo rfl rfl) (O18.slLen (j := 0) rfl) j40.1 j40.2.1) (W.lo rfl rfl (Lo.storeSl0 (j := 0) (y0 := x34) (v := (.int .u32 x34)) rfl j40.2.2  rfl z40 rfl (congrArg (Value.int .u32) e35) rfl O18) ?_)
 rintro v43 H44 ⟨O41, sm42⟩
 refine .nil (.region (W.q2 (.int .u64 x29) rfl (W.q2 (.int .u32 p1) ((fr16 1 rfl).trans rfl) (W.pure (v := (.int .u64 (IntKind.wrap .u64 p1))) rfl rfl (z3s z94 zbc (oo rfl rfl)) ?_))))
 obtain ⟨g45, h46⟩ := z3c h39
 refine W.pure (v := (.int .u64 (Int.tmod x29 (IntKind.wrap .u64 p1)))) rfl rfl (zi9 g45 (oo rfl rfl) (oo rfl rfl)) (W.q1 (.int .u64 (Int.tmod x29 (IntKind.wrap .u64 p1))) rfl (.nil (.region (W.q2 _ t22 (W.q3 (.int .i64 (z05 .i64 (x13 - 1))) rfl rfl (W.q1 (.int .i64 (z05 .i64 (x13 - 1))) rfl ?_))))))
 refine .nil ?_
 exact ⟨k10, zAg _, ⟨(List.set x11 (Int.toNat x13) x34), Int.tmod x29 (IntKind.wrap .u64 p1), z05 .i64 (x13 - 1), _, h46, O41, s19, rfl, rfl⟩⟩
def z2i (K : Nat) (p1 : List Int) (x12 : Int) (x23 : Int) : Nat -> List Int -> Int -> Int -> Option (List Int × Int)
  | 0, _, _, _ => none
  | k + 1, x31, x32, x33 => (if (decide (x33 < (List.length p1 : Int))) = true then ((idx p1 x33).bind fun x45 => (lt (z05 .u64 ((IntKind.wrap .u64 x23) * (IntKind.wrap .u64 x45))) fun x49 => ((idx x31 (z05 .i64 (x12 + x33))).bind fun x52 => (lt (z05 .u64 ((z05 .u64 (x49 + (IntKind.wrap .u64 x52))) + x32)) fun x56 => ((idx x31 (z05 .i64 (x12 + x33))).bind fun x59 => z2i K p1 x12 x23 k (List.set x31 (Int.toNat (z05 .i64 (x12 + x33))) (IntKind.wrap .u32 (Int.tmod x56 1000000000))) (z05 .u64 (Int.tdiv x56 1000000000)) (z05 .i64 (x33 + 1))))))) else some (x31, x32))
def z2j (K : Nat) (p0 : List Int) (p1 : List Int) : Nat -> List Int -> Int -> Option (List Int)
  | 0, _, _ => none
  | k + 1, x11, x12 => (if (decide (x12 < (List.length p0 : Int))) = true then ((idx p0 x12).bind fun x23 => (Option.bind (z2i K p1 x12 x23 K x11 0 0) (tu2 fun x68 x69 => ((idx x68 (z05 .i64 (x12 + (List.length p1 : Int)))).bind fun x79 => z2j K p0 p1 k (List.set x68 (Int.toNat (z05 .i64 (x12 + (List.length p1 : Int)))) (IntKind.wrap .u32 x69)) (z05 .i64 (x12 + 1)))))) else some x11)
def z27 (K : Nat) (p0 : List Int) (p1 : List Int) : Option (List Int) := (if 0 <= (z05 .i64 ((List.length p0 : Int) + (List.length p1 : Int))) /\ (z05 .i64 ((List.length p0 : Int) + (List.length p1 : Int))) <= (z05 .i64 ((List.length p0 : Int) + (List.length p1 : Int))) /\ (z05 .i64 ((List.length p0 : Int) + (List.length p1 : Int))) <= 16777216 then (Option.bind (z2j K p0 p1 K (List.replicate (Int.toNat (z05 .i64 ((List.length p0 : Int) + (List.length p1 : Int)))) 0) 0) (tu1 fun x88 => ((z1u K x88).bind fun x97 => some x97))) else none)
theorem z1w (v0 : Value) (p0 : List Int) (hp0 : (rSl (rI .u32)).rep G [v0] p0) (v1 : Value) (p1 : List Int) (hp1 : (rSl (rI .u32)).rep G [v1] p1) (O : Ow G H (L)) (r : List Int) (h : z27 K p0 p1 = some r) :
    CRF Tryd.prog 87 [v0, v1] G H (fun w0 => (eSl w0 145 (rI .u32) r :: L)) (fun w0 v G' => w0 = v) := by
 unfold z27 at h
 refine CRF.og (n := 69) (fn := Tryd.f87) (by kernel_rfl) rfl rfl fun R kr => (.seq (.region (W.q1 (.slice none 0 0) rfl (.nil (.seq (.region ?_))))))
 refine W.q2 v0 rfl (W.pure (v := (.int .i64 (List.length p0 : Int))) rfl rfl (z0p (oo rfl rfl) (z0f hp0) (z06 el63)) (W.q2 v1 rfl (W.pure (v := (.int .i64 (List.length p1 : Int))) rfl rfl (z0p (oo rfl rfl) (z0f hp1) (z06 el63)) (W.q3 (.int .i64 (z05 .i64 ((List.length p0 : Int) + (List.length p1 : Int)))) rfl rfl ?_))))
 obtain ⟨g2, h3⟩ := z3c h
 refine W.lo rfl rfl (Lo.makeSlice (r := (rI .u32)) (x0 := 0) (a := (z05 .i64 ((List.length p0 : Int) + (List.length p1 : Int)))) (c := (z05 .i64 ((List.length p0 : Int) + (List.length p1 : Int)))) rfl el63 zbs z40 (by kernel_rfl) rfl zh2 (by decide) rfl rfl g2 (zI .u32) O) ?_
 rintro v5 H6 ⟨O1, sm4⟩
 refine W.q1 v5 rfl (.nil (.seq (.seq (.region (W.q2 v0 rfl (W.pure (v := (.int .i64 (List.length p0 : Int))) rfl rfl (z0p (oo rfl rfl) (z0f hp0) (z06 el63)) ?_))))))
 refine W.q2 (.int .i64 0) rfl (.nil ?_)
 obtain ⟨q7, h8, h9⟩ := z00 h3
 refine AW.midT (fun σ' H' => ∃ (y1 : List Int) (G' : GM), y1 = q7 /\ Ow G' H' (eSl v5 145 (rI .u32) y1 :: L) /\ GM.le G G') ?_ ?_
 rotate_left
 .rintro σ89 H90 fr91 ⟨x88, G92, rfl, O93, s94⟩
  have h96 := z0d h9
  refine .seq (.region (W.q2 v5 ((fr91 5 rfl).trans rfl) ?_))
  obtain ⟨x97, i98, h99⟩ := z00 h96
  refine W.lo rfl rfl (Lo.callPF (ps := [eSl v5 145 (rI .u32) x88]) (pw := fun w => [eSl w 145 (rI .u32) x97]) rfl (fn := Tryd.f118) (by kernel_rfl) rfl (mc rfl mn) O93 (fun L' O' => z2n K v5 x88 O' _ i98)) ?_
  rintro v108 H109 ⟨w105, G100, O101, s102, sm107, rfl⟩
  refine W.q1 w105 rfl (.nil (.ret ?_))
  obtain rfl := zAa h99
  exact zfp kr w105 (v1 := w105) (by rfl) (z09 (by rfl) (by exact rfl)) O101 (zAe s94 s102) rfl
 refine .block (AW.loop (α := Nat) (fun k' σ' H' => ∃ (y1 : List Int) (y2 : Int) (G' : GM), z2j K p0 p1 k' y1 y2 = some q7 /\ Ow G' H' (eSl v5 145 (rI .u32) y1 :: L) /\ GM.le G G' /\ σ' 20 = .int .i64 y2) (fun k' => k') K ⟨(List.replicate (Int.toNat (z05 .i64 ((List.length p0 : Int) + (List.length p1 : Int)))) 0), 0, _, h8, O1, (zAf _), rfl⟩ ?_)
 rintro k10
 rintro σ13 H14 fr15 ⟨x11, x12, G16, h19, O17, s18, t20⟩
 rcases k10 with _ | k10
 .exact z0a h19
 rw [z2j] at h19
 refine .seq (.region (W.q3 (.bool (decide (x12 < (List.length p0 : Int)))) t20 ((fr15 19 rfl).trans rfl) (.nil (.seq (.cond (b := decide (x12 < (List.length p0 : Int))) rfl rfl (fun g21 => ?_) (fun g21 => ?_))))))
 rotate_left
 .have h87 := z0h g21 h19
  refine .exit ?_
  obtain rfl := zAa h87
  exact ⟨x11, _, rfl, O17, s18⟩
 have h22 := z03 g21 h19
 refine .skip (.seq (.block (.seq (.region (W.q2 _ t20 ?_)))))
 obtain ⟨x23, i24, h25⟩ := z00 h22
 have j26 := z0g i24
 refine W.pure (v := (z2t v0 (Int.toNat x12 * 1))) rfl rfl (z3b el63 z40 (oo rfl ((fr15 18 rfl).trans rfl)) (oo rfl t20) (z0f (RT.mono _ s18 hp0)) j26.1 j26.2.1) (W.load1 (v := (.int .u32 x23)) (r := []) rfl rfl z9o (z0q rfl (At.int (At.le (At.le (z1m hp0 j26.2.2) s18 s18) (zAf _) O17.fro))) (W.q1 (.int .i64 x12) rfl (W.q1 (.int .u32 x23) rfl (.nil (.seq (.region ?_))))))
 refine W.q1 (.int .u64 0) rfl (.nil (.seq (.seq (.region (W.q2 v1 ((fr15 1 rfl).trans rfl) (W.pure (v := (.int .i64 (List.length p1 : Int))) rfl rfl (z0p (oo rfl rfl) (z0f (RT.mono _ s18 hp1)) (z06 el63)) ?_))))))
 refine W.q2 (.int .i64 0) rfl (.nil ?_)
 obtain ⟨q27, h28, h29⟩ := z00 h25
 refine AW.midT (fun σ' H' => ∃ (y1 : List Int) (y2 : Int) (G' : GM), (y1, y2) = q27 /\ Ow G' H' (eSl v5 145 (rI .u32) y1 :: L) /\ GM.le G16 G' /\ σ' 8 = .int .u64 y2) ?_ ?_
 rotate_left
 .rintro σ70 H71 fr72 ⟨x68, x69, G73, rfl, O74, s75, t77⟩
  have h78 := z4k h29
  refine .region (W.q2 v5 ((fr72 5 rfl).trans ((fr15 5 rfl).trans rfl)) (W.q2 (.int .i64 x12) ((fr72 6 rfl).trans rfl) (W.q2 v1 ((fr72 1 rfl).trans ((fr15 1 rfl).trans rfl)) (W.pure (v := (.int .i64 (List.length p1 : Int))) rfl rfl (z0p (oo rfl rfl) (z0f (RT.mono _ (zAe s18 s75) hp1)) (z06 el63)) (W.q3 (.int .i64 (z05 .i64 (x12 + (List.length p1 : Int)))) rfl rfl (W.q2 _ t77 ?_))))))
  refine W.pure (v := (.int .u32 (IntKind.wrap .u32 x69))) rfl rfl (z3s zbc z94 (oo rfl rfl)) ?_
  obtain ⟨x79, i80, h81⟩ := z00 h78
  have j82 := z0g i80
  refine W.pure (v := (z2t v5 (Int.toNat (z05 .i64 (x12 + (List.length p1 : Int))) * 1))) rfl rfl (z3b el63 z40 (oo rfl rfl) (oo rfl rfl) (O74.slLen (j := 0) rfl) j82.1 j82.2.1) (W.lo rfl rfl (Lo.storeSl0 (j := 0) (y0 := IntKind.wrap .u32 x69) (v := (.int .u32 (IntKind.wrap .u32 x69))) rfl j82.2.2  rfl z40 rfl rfl rfl O74) ?_)
  rintro v85 H86 ⟨O83, sm84⟩
  refine .nil (.region (W.q3 (.int .i64 (z05 .i64 (x12 + 1))) ((fr72 20 rfl).trans t20) rfl (W.q2 (.int .i64 (z05 .i64 (x12 + 1))) rfl (.nil ?_))))
  exact ⟨k10, zAg _, ⟨(List.set x68 (Int.toNat (z05 .i64 (x12 + (List.length p1 : Int)))) (IntKind.wrap .u32 x69)), z05 .i64 (x12 + 1), _, h81, O83, (zAe s18 s75), rfl⟩⟩
 refine .block (AW.loop (α := Nat) (fun k' σ' H' => ∃ (y1 : List Int) (y2 : Int) (y3 : Int) (G' : GM), z2i K p1 x12 x23 k' y1 y2 y3 = some q27 /\ Ow G' H' (eSl v5 145 (rI .u32) y1 :: L) /\ GM.le G16 G' /\ σ' 8 = .int .u64 y2 /\ σ' 27 = .int .i64 y3) (fun k' => k') K ⟨x11, 0, 0, _, h28, O17, (zAf _), rfl, rfl⟩ ?_)
 rintro k30
 rintro σ34 H35 fr36 ⟨x31, x32, x33, G37, h40, O38, s39, t41, t42⟩
 rcases k30 with _ | k30
 .exact z0a h40
 rw [z2i] at h40
 refine .seq (.region (W.q3 (.bool (decide (x33 < (List.length p1 : Int)))) t42 ((fr36 26 rfl).trans rfl) (.nil (.seq (.cond (b := decide (x33 < (List.length p1 : Int))) rfl rfl (fun g43 => ?_) (fun g43 => ?_))))))
 rotate_left
 .have h67 := z0h g43 h40
  refine .exit ?_
  obtain rfl := zAa h67
  exact ⟨x31, x32, _, rfl, O38, s39, t41⟩
 have h44 := z03 g43 h40
 refine .skip (.seq (.block (.seq (.region (W.q2 _ t42 ?_)))))
 obtain ⟨x45, i46, h47⟩ := z00 h44
 have j48 := z0g i46
 refine W.pure (v := (z2t v1 (Int.toNat x33 * 1))) rfl rfl (z3b el63 z40 (oo rfl ((fr36 25 rfl).trans rfl)) (oo rfl t42) (z0f (RT.mono _ (zAe s18 s39) hp1)) j48.1 j48.2.1) (W.load1 (v := (.int .u32 x45)) (r := []) rfl rfl z9o (z0q rfl (At.int (At.le (At.le (z1m hp1 j48.2.2) (zAe s18 s39) (zAe s18 s39)) (zAf _) O38.fro))) (W.q1 (.int .i64 x33) rfl (W.q1 (.int .u32 x45) rfl (.nil (.seq (.region ?_))))))
 refine W.q2 (.int .u32 x23) ((fr36 7 rfl).trans rfl) (W.pure (v := (.int .u64 (IntKind.wrap .u64 x23))) rfl rfl (z3s z94 zbc (oo rfl rfl)) (W.q2 (.int .u32 x45) rfl (W.pure (v := (.int .u64 (IntKind.wrap .u64 x45))) rfl rfl (z3s z94 zbc (oo rfl rfl)) (W.q3 (.int .u64 (z05 .u64 ((IntKind.wrap .u64 x23) * (IntKind.wrap .u64 x45)))) rfl rfl ?_))))
 obtain ⟨x49, e50, h51⟩ := z6b h47
 refine W.q2 v5 ((fr36 5 rfl).trans ((fr15 5 rfl).trans rfl)) (W.q2 (.int .i64 x12) ((fr36 6 rfl).trans rfl) (W.q2 (.int .i64 x33) rfl (W.q3 (.int .i64 (z05 .i64 (x12 + x33))) rfl rfl ?_)))
 obtain ⟨x52, i53, h54⟩ := z00 h51
 have j55 := z0g i53
 refine W.pure (v := (z2t v5 (Int.toNat (z05 .i64 (x12 + x33)) * 1))) rfl rfl (z3b el63 z40 (oo rfl rfl) (oo rfl rfl) (O38.slLen (j := 0) rfl) j55.1 j55.2.1) (W.load1 (v := (.int .u32 x52)) (r := []) rfl rfl z9o (z0q rfl (At.int (O38.atSl (j := 0) rfl j55.2.2))) (W.pure (v := (.int .u64 (IntKind.wrap .u64 x52))) rfl rfl (z3s z94 zbc (oo rfl rfl)) (W.q3 (.int .u64 (z05 .u64 (x49 + (IntKind.wrap .u64 x52)))) (congrArg (Value.int .u64) e50) rfl (W.q2 _ t41 (W.q3 (.int .u64 (z05 .u64 ((z05 .u64 (x49 + (IntKind.wrap .u64 x52))) + x32))) rfl rfl ?_)))))
 obtain ⟨x56, e57, h58⟩ := z6b h54
 refine W.q1 _ (congrArg (Value.int .u64) e57) (.nil (.seq (.region (W.q2 v5 ((fr36 5 rfl).trans ((fr15 5 rfl).trans rfl)) (W.q2 (.int .i64 x12) ((fr36 6 rfl).trans rfl) (W.q2 (.int .i64 x33) rfl ?_))))))
 refine W.q3 (.int .i64 (z05 .i64 (x12 + x33))) rfl rfl (W.q2 (.int .u64 x56) rfl (W.pure (v := (.int .u64 (Int.tmod x56 1000000000))) rfl rfl (zi9 (by decide) (oo rfl rfl) (oo rfl rfl)) (W.pure (v := (.int .u32 (IntKind.wrap .u32 (Int.tmod x56 1000000000)))) rfl rfl (z3s zbc z94 (oo rfl rfl)) ?_)))
 obtain ⟨x59, i60, h61⟩ := z00 h58
 have j62 := z0g i60
 refine W.pure (v := (z2t v5 (Int.toNat (z05 .i64 (x12 + x33)) * 1))) rfl rfl (z3b el63 z40 (oo rfl rfl) (oo rfl rfl) (O38.slLen (j := 0) rfl) j62.1 j62.2.1) (W.lo rfl rfl (Lo.storeSl0 (j := 0) (y0 := IntKind.wrap .u32 (Int.tmod x56 1000000000)) (v := (.int .u32 (IntKind.wrap .u32 (Int.tmod x56 1000000000)))) rfl j62.2.2  rfl z40 rfl rfl rfl O38) ?_)
 rintro v65 H66 ⟨O63, sm64⟩
 refine .nil (.region (W.q2 (.int .u64 x56) rfl (W.pure (v := (.int .u64 (z05 .u64 (Int.tdiv x56 1000000000)))) rfl rfl (zgr (by decide) (oo rfl rfl) (oo rfl rfl)) (W.q1 (.int .u64 (z05 .u64 (Int.tdiv x56 1000000000))) rfl (.nil (.region ?_))))))
 refine W.q3 (.int .i64 (z05 .i64 (x33 + 1))) t42 rfl (W.q2 (.int .i64 (z05 .i64 (x33 + 1))) rfl (.nil ?_))
 exact ⟨k30, zAg _, ⟨(List.set x31 (Int.toNat (z05 .i64 (x12 + x33))) (IntKind.wrap .u32 (Int.tmod x56 1000000000))), z05 .u64 (Int.tdiv x56 1000000000), z05 .i64 (x33 + 1), _, h61, O63, s39, rfl, rfl⟩⟩
def z1d (K : Nat) (p1 : List Int) (p2 : Int) (p3 : Int) : Nat -> List Int -> Int -> Int -> Int -> Option (List Int × Int)
  | 0, _, _, _, _ => none
  | k + 1, x5, x6, x7, x8 => (if (decide (x8 <= (List.length p1 : Int))) = true then (Option.bind ((if (decide (x8 < (List.length p1 : Int))) = true then ((idx p1 x8).bind fun x26 => (lt (z05 .u64 (x7 + (z05 .u64 (p3 * (IntKind.wrap .u64 x26))))) fun x30 => some x30)) else some x7)) (tu1 fun x34 => ((idx x5 (z05 .i64 (p2 + x8))).bind fun x44 => (lt (z05 .i64 ((IntKind.wrap .i64 x44) - (IntKind.wrap .i64 (Int.tmod x34 1000000000)))) fun x48 => (Option.bind ((if (decide ((z05 .i64 (x48 - x6)) < 0)) = true then some (1, z05 .i64 ((z05 .i64 (x48 - x6)) + 1000000000)) else some (0, z05 .i64 (x48 - x6)))) (tu2 fun x57 x58 => ((idx x5 (z05 .i64 (p2 + x8))).bind fun x69 => z1d K p1 p2 p3 k (List.set x5 (Int.toNat (z05 .i64 (p2 + x8))) (IntKind.wrap .u32 x58)) x57 (z05 .u64 (Int.tdiv x34 1000000000)) (z05 .i64 (x8 + 1))))))))) else some (x5, x6))
def z3f (K : Nat) (p0 : List Int) (p1 : List Int) (p2 : Int) (p3 : Int) : Option (Bool × List Int) := (Option.bind (z1d K p1 p2 p3 K p0 0 0 0) (tu2 fun x78 x79 => some (decide (x79 > 0), x78)))
theorem zat (v0 : Value) (p0 : List Int) (v1 : Value) (p1 : List Int) (hp1 : (rSl (rI .u32)).rep G [v1] p1) (p2 : Int) (p3 : Int) (O : Ow G H (eSl v0 145 (rI .u32) p0 :: L)) (r : Bool × List Int) (h : z3f K p0 p1 p2 p3 = some r) :
    CR Tryd.prog 128 [v0, v1, (.int .i64 p2), (.int .u64 p3)] G H (eSl v0 145 (rI .u32) r.2 :: L) (fun v G' _ => v = .bool r.1) := by
 unfold z3f at h
 refine CR.og (n := 62) (fn := Tryd.f128) (by kernel_rfl) rfl rfl fun R kr => (.seq (.region (W.q1 (.bool false) rfl (.nil (.seq (.region ?_))))))
 refine W.q1 (.int .i64 0) rfl (.nil (.seq (.region (W.q1 (.int .u64 0) rfl (.nil (.seq ?_))))))
 refine .seq (.region (W.q1 (.int .i64 0) rfl (.nil ?_)))
 obtain ⟨q1, h2, h3⟩ := z00 h
 refine AW.midT (fun σ' H' => ∃ (y1 : List Int) (y2 : Int) (G' : GM), (y1, y2) = q1 /\ Ow G' H' (eSl v0 145 (rI .u32) y1 :: L) /\ GM.le G G' /\ σ' 9 = .int .i64 y2) ?_ ?_
 rotate_left
 .rintro σ80 H81 fr82 ⟨x78, x79, G83, rfl, O84, s85, t87⟩
  have h88 := z4k h3
  refine .seq (.region (W.q2 _ t87 (W.q3 (.bool (decide (x79 > 0))) rfl rfl (W.q1 (.bool (decide (x79 > 0))) rfl (.nil (.ret ?_))))))
  obtain rfl := zAa h88
  exact z16 kr (v1 := (.bool (decide (x79 > 0)))) (by rfl) (z09 (by rfl) (by exact rfl)) O84 s85 rfl
 refine .block (AW.loop (α := Nat) (fun k' σ' H' => ∃ (y1 : List Int) (y2 : Int) (y3 : Int) (y4 : Int) (G' : GM), z1d K p1 p2 p3 k' y1 y2 y3 y4 = some q1 /\ Ow G' H' (eSl v0 145 (rI .u32) y1 :: L) /\ GM.le G G' /\ σ' 9 = .int .i64 y2 /\ σ' 10 = .int .u64 y3 /\ σ' 11 = .int .i64 y4) (fun k' => k') K ⟨p0, 0, 0, 0, _, h2, O, (zAf _), rfl, rfl, rfl⟩ ?_)
 rintro k4
 rintro σ9 H10 fr11 ⟨x5, x6, x7, x8, G12, h15, O13, s14, t16, t17, t18⟩
 rcases k4 with _ | k4
 .exact z0a h15
 rw [z1d] at h15
 refine .seq (.seq (.region (W.q2 _ t18 (W.q2 v1 ((fr11 1 rfl).trans rfl) (W.pure (v := (.int .i64 (List.length p1 : Int))) rfl rfl (z0p (oo rfl rfl) (z0f (RT.mono _ s14 hp1)) (z06 el63)) (W.q3 (.bool (decide (x8 <= (List.length p1 : Int)))) rfl rfl ?_))))))
 refine .nil (.cond (b := decide (x8 <= (List.length p1 : Int))) rfl rfl (fun g19 => ?_) (fun g19 => ?_))
 rotate_left
 .have h77 := z0h g19 h15
  refine .exit ?_
  obtain rfl := zAa h77
  exact ⟨x5, x6, _, rfl, O13, s14, t16⟩
 have h20 := z03 g19 h15
 refine .skip (.seq (.block (.seq (.region (W.q2 _ t17 (W.q1 (.int .u64 x7) rfl ?_))))))
 refine .nil (.seq (.seq (.region (W.q2 _ t18 (W.q2 v1 ((fr11 1 rfl).trans rfl) (W.pure (v := (.int .i64 (List.length p1 : Int))) rfl rfl (z0p (oo rfl rfl) (z0f (RT.mono _ s14 hp1)) (z06 el63)) ?_))))))
 refine W.q3 (.bool (decide (x8 < (List.length p1 : Int)))) rfl rfl (.nil ?_)
 obtain ⟨q21, h22, h23⟩ := z00 h20
 refine AW.midT (fun σ' H' => ∃ (y1 : Int) (G' : GM), y1 = q21 /\ Ow G' H' (eSl v0 145 (rI .u32) x5 :: L) /\ GM.le G12 G' /\ σ' 12 = .int .u64 y1) ?_ ?_
 .refine .cond (b := decide (x8 < (List.length p1 : Int))) rfl rfl (fun g24 => ?_) (fun g24 => ?_)
  rotate_left
  .have h33 := z0h g24 h22
   refine .skip ?_
   obtain rfl := zAa h33
   exact ⟨x7, _, rfl, O13, (zAf _), rfl⟩
  have h25 := z03 g24 h22
  refine .region (W.q2 (.int .u64 x7) rfl (W.q2 (.int .u64 p3) ((fr11 3 rfl).trans rfl) (W.q2 v1 ((fr11 1 rfl).trans rfl) (W.q2 _ t18 ?_))))
  obtain ⟨x26, i27, h28⟩ := z00 h25
  have j29 := z0g i27
  refine W.pure (v := (z2t v1 (Int.toNat x8 * 1))) rfl rfl (z3b el63 z40 (oo rfl rfl) (oo rfl rfl) (z0f (RT.mono _ s14 hp1)) j29.1 j29.2.1) (W.load1 (v := (.int .u32 x26)) (r := []) rfl rfl z9o (z0q rfl (At.int (At.le (At.le (z1m hp1 j29.2.2) s14 s14) (zAf _) O13.fro))) (W.pure (v := (.int .u64 (IntKind.wrap .u64 x26))) rfl rfl (z3s z94 zbc (oo rfl rfl)) (W.q3 (.int .u64 (z05 .u64 (p3 * (IntKind.wrap .u64 x26)))) rfl rfl (W.q3 (.int .u64 (z05 .u64 (x7 + (z05 .u64 (p3 * (IntKind.wrap .u64 x26)))))) rfl rfl ?_))))
  obtain ⟨x30, e31, h32⟩ := z6b h28
  refine W.q1 _ (congrArg (Value.int .u64) e31) (.nil ?_)
  obtain rfl := zAa h32
  exact ⟨x30, _, rfl, O13, (zAf _), rfl⟩
 rintro σ35 H36 fr37 ⟨x34, G38, rfl, O39, s40, t42⟩
 have h43 := z0d h23
 refine .seq (.region (W.q2 _ t42 (W.pure (v := (.int .u64 (z05 .u64 (Int.tdiv x34 1000000000)))) rfl rfl (zgr (by decide) (oo rfl rfl) (oo rfl rfl)) (W.q1 (.int .u64 (z05 .u64 (Int.tdiv x34 1000000000))) rfl (.nil (.seq ?_))))))
 refine .region (W.q2 v0 ((fr37 0 rfl).trans ((fr11 0 rfl).trans rfl)) (W.q2 (.int .i64 p2) ((fr37 2 rfl).trans ((fr11 2 rfl).trans rfl)) (W.q2 _ ((fr37 11 rfl).trans t18) (W.q3 (.int .i64 (z05 .i64 (p2 + x8))) rfl rfl ?_))))
 obtain ⟨x44, i45, h46⟩ := z00 h43
 have j47 := z0g i45
 refine W.pure (v := (z2t v0 (Int.toNat (z05 .i64 (p2 + x8)) * 1))) rfl rfl (z3b el63 z40 (oo rfl rfl) (oo rfl rfl) (O39.slLen (j := 0) rfl) j47.1 j47.2.1) (W.load1 (v := (.int .u32 x44)) (r := []) rfl rfl z9o (z0q rfl (At.int (O39.atSl (j := 0) rfl j47.2.2))) (W.pure (v := (.int .i64 (IntKind.wrap .i64 x44))) rfl rfl (z3s z94 in2 (oo rfl rfl)) (W.q2 _ t42 (W.pure (v := (.int .u64 (Int.tmod x34 1000000000))) rfl rfl (zi9 (by decide) (oo rfl rfl) (oo rfl rfl)) (W.pure (v := (.int .i64 (IntKind.wrap .i64 (Int.tmod x34 1000000000)))) rfl rfl (z3s zbc in2 (oo rfl rfl)) (W.q3 (.int .i64 (z05 .i64 ((IntKind.wrap .i64 x44) - (IntKind.wrap .i64 (Int.tmod x34 1000000000))))) rfl rfl ?_))))))
 obtain ⟨x48, e49, h50⟩ := z6b h46
 refine W.q2 _ ((fr37 9 rfl).trans t16) (W.q3 (.int .i64 (z05 .i64 (x48 - x6))) (congrArg (Value.int .i64) e49) rfl (W.q1 (.int .i64 (z05 .i64 (x48 - x6))) rfl (.nil (.seq (.region (W.q1 (.int .i64 0) rfl ?_))))))
 refine .nil (.seq (.seq (.region (W.q2 (.int .i64 (z05 .i64 (x48 - x6))) rfl (W.q3 (.bool (decide ((z05 .i64 (x48 - x6)) < 0))) rfl rfl (.nil ?_))))))
 obtain ⟨q51, h52, h53⟩ := z00 h50
 refine AW.midT (fun σ' H' => ∃ (y1 : Int) (y2 : Int) (G' : GM), (y1, y2) = q51 /\ Ow G' H' (eSl v0 145 (rI .u32) x5 :: L) /\ GM.le G38 G' /\ σ' 9 = .int .i64 y1 /\ σ' 13 = .int .i64 y2) ?_ ?_
 .refine .cond (b := decide ((z05 .i64 (x48 - x6)) < 0)) rfl rfl (fun g54 => ?_) (fun g54 => ?_)
  rotate_left
  .have h56 := z0h g54 h52
   refine .skip ?_
   obtain rfl := zAa h56
   exact ⟨0, z05 .i64 (x48 - x6), _, rfl, O39, (zAf _), rfl, rfl⟩
  have h55 := z03 g54 h52
  refine .seq (.region (W.q2 (.int .i64 (z05 .i64 (x48 - x6))) rfl (W.q3 (.int .i64 (z05 .i64 ((z05 .i64 (x48 - x6)) + 1000000000))) rfl rfl (W.q1 (.int .i64 (z05 .i64 ((z05 .i64 (x48 - x6)) + 1000000000))) rfl (.nil (.region ?_))))))
  refine W.q1 (.int .i64 1) rfl (.nil ?_)
  obtain rfl := zAa h55
  exact ⟨1, z05 .i64 ((z05 .i64 (x48 - x6)) + 1000000000), _, rfl, O39, (zAf _), rfl, rfl⟩
 rintro σ59 H60 fr61 ⟨x57, x58, G62, rfl, O63, s64, t66, t67⟩
 have h68 := z4k h53
 refine .region (W.q2 v0 ((fr61 0 rfl).trans ((fr37 0 rfl).trans ((fr11 0 rfl).trans rfl))) (W.q2 (.int .i64 p2) ((fr61 2 rfl).trans ((fr37 2 rfl).trans ((fr11 2 rfl).trans rfl))) (W.q2 _ ((fr61 11 rfl).trans ((fr37 11 rfl).trans t18)) (W.q3 (.int .i64 (z05 .i64 (p2 + x8))) rfl rfl (W.q2 _ t67 (W.pure (v := (.int .u32 (IntKind.wrap .u32 x58))) rfl rfl (z3s in2 z94 (oo rfl rfl)) ?_))))))
 obtain ⟨x69, i70, h71⟩ := z00 h68
 have j72 := z0g i70
 refine W.pure (v := (z2t v0 (Int.toNat (z05 .i64 (p2 + x8)) * 1))) rfl rfl (z3b el63 z40 (oo rfl rfl) (oo rfl rfl) (O63.slLen (j := 0) rfl) j72.1 j72.2.1) (W.lo rfl rfl (Lo.storeSl0 (j := 0) (y0 := IntKind.wrap .u32 x58) (v := (.int .u32 (IntKind.wrap .u32 x58))) rfl j72.2.2  rfl z40 rfl rfl rfl O63) ?_)
 rintro v75 H76 ⟨O73, sm74⟩
 refine .nil (.region (W.q2 _ ((fr61 11 rfl).trans ((fr37 11 rfl).trans t18)) (W.q3 (.int .i64 (z05 .i64 (x8 + 1))) rfl rfl (W.q1 (.int .i64 (z05 .i64 (x8 + 1))) rfl (.nil ?_)))))
 exact ⟨k4, zAg _, ⟨(List.set x5 (Int.toNat (z05 .i64 (p2 + x8))) (IntKind.wrap .u32 x58)), x57, z05 .u64 (Int.tdiv x34 1000000000), z05 .i64 (x8 + 1), _, h71, O73, (zAe s14 (zAe s40 s64)), t66, ((fr61 10 rfl).trans rfl), rfl⟩⟩
def z22 (K : Nat) (p1 : List Int) (p2 : Int) : Nat -> List Int -> Int -> Int -> Option (List Int)
  | 0, _, _, _ => none
  | k + 1, x5, x6, x7 => (if (decide (x7 <= (List.length p1 : Int))) = true then ((idx x5 (z05 .i64 (p2 + x7))).bind fun x19 => (Option.bind ((if (decide (x7 < (List.length p1 : Int))) = true then ((idx p1 x7).bind fun x28 => some (z05 .u32 ((z05 .u32 (x19 + x6)) + x28))) else some (z05 .u32 (x19 + x6)))) (tu1 fun x33 => ((idx x5 (z05 .i64 (p2 + x7))).bind fun x43 => z22 K p1 p2 k (List.set x5 (Int.toNat (z05 .i64 (p2 + x7))) (Int.tmod x33 1000000000)) (z05 .u32 (Int.tdiv x33 1000000000)) (z05 .i64 (x7 + 1)))))) else some x5)
def z3x (K : Nat) (p0 : List Int) (p1 : List Int) (p2 : Int) : Option (List Int) := (Option.bind (z22 K p1 p2 K p0 0 0) (tu1 fun x52 => some x52))
theorem zbf (v0 : Value) (p0 : List Int) (v1 : Value) (p1 : List Int) (hp1 : (rSl (rI .u32)).rep G [v1] p1) (p2 : Int) (O : Ow G H (eSl v0 145 (rI .u32) p0 :: L)) (r : List Int) (h : z3x K p0 p1 p2 = some r) :
    CR Tryd.prog 129 [v0, v1, (.int .i64 p2)] G H (eSl v0 145 (rI .u32) r :: L) (fun v G' _ => v = .tuple #[]) := by
 unfold z3x at h
 refine CR.og (n := 42) (fn := Tryd.f129) (by kernel_rfl) rfl rfl fun R kr => (.seq (.region (W.q1 (.int .u32 0) rfl (.nil (.seq (.region ?_))))))
 refine W.q1 (.int .i64 0) rfl (.nil ?_)
 obtain ⟨q1, h2, h3⟩ := z00 h
 refine AW.midT (fun σ' H' => ∃ (y1 : List Int) (G' : GM), y1 = q1 /\ Ow G' H' (eSl v0 145 (rI .u32) y1 :: L) /\ GM.le G G') ?_ ?_
 rotate_left
 .rintro σ53 H54 fr55 ⟨x52, G56, rfl, O57, s58⟩
  have h60 := z0d h3
  obtain rfl := zAa h60
  exact zn4 kr  (by rfl)  O57 s58 rfl
 refine .block (AW.loop (α := Nat) (fun k' σ' H' => ∃ (y1 : List Int) (y2 : Int) (y3 : Int) (G' : GM), z22 K p1 p2 k' y1 y2 y3 = some q1 /\ Ow G' H' (eSl v0 145 (rI .u32) y1 :: L) /\ GM.le G G' /\ σ' 6 = .int .u32 y2 /\ σ' 7 = .int .i64 y3) (fun k' => k') K ⟨p0, 0, 0, _, h2, O, (zAf _), rfl, rfl⟩ ?_)
 rintro k4
 rintro σ8 H9 fr10 ⟨x5, x6, x7, G11, h14, O12, s13, t15, t16⟩
 rcases k4 with _ | k4
 .exact z0a h14
 rw [z22] at h14
 refine .seq (.seq (.region (W.q2 _ t16 (W.q2 v1 ((fr10 1 rfl).trans rfl) (W.pure (v := (.int .i64 (List.length p1 : Int))) rfl rfl (z0p (oo rfl rfl) (z0f (RT.mono _ s13 hp1)) (z06 el63)) (W.q3 (.bool (decide (x7 <= (List.length p1 : Int)))) rfl rfl ?_))))))
 refine .nil (.cond (b := decide (x7 <= (List.length p1 : Int))) rfl rfl (fun g17 => ?_) (fun g17 => ?_))
 rotate_left
 .have h51 := z0h g17 h14
  refine .exit ?_
  obtain rfl := zAa h51
  exact ⟨x5, _, rfl, O12, s13⟩
 have h18 := z03 g17 h14
 refine .skip (.seq (.block (.seq (.region (W.q2 v0 ((fr10 0 rfl).trans rfl) (W.q2 (.int .i64 p2) ((fr10 2 rfl).trans rfl) ?_))))))
 refine W.q2 _ t16 (W.q3 (.int .i64 (z05 .i64 (p2 + x7))) rfl rfl ?_)
 obtain ⟨x19, i20, h21⟩ := z00 h18
 have j22 := z0g i20
 refine W.pure (v := (z2t v0 (Int.toNat (z05 .i64 (p2 + x7)) * 1))) rfl rfl (z3b el63 z40 (oo rfl rfl) (oo rfl rfl) (O12.slLen (j := 0) rfl) j22.1 j22.2.1) (W.load1 (v := (.int .u32 x19)) (r := []) rfl rfl z9o (z0q rfl (At.int (O12.atSl (j := 0) rfl j22.2.2))) (W.q2 _ t15 (W.q3 (.int .u32 (z05 .u32 (x19 + x6))) rfl rfl (W.q1 (.int .u32 (z05 .u32 (x19 + x6))) rfl (.nil (.seq ?_))))))
 refine .seq (.region (W.q2 _ t16 (W.q2 v1 ((fr10 1 rfl).trans rfl) (W.pure (v := (.int .i64 (List.length p1 : Int))) rfl rfl (z0p (oo rfl rfl) (z0f (RT.mono _ s13 hp1)) (z06 el63)) (W.q3 (.bool (decide (x7 < (List.length p1 : Int)))) rfl rfl (.nil ?_))))))
 obtain ⟨q23, h24, h25⟩ := z00 h21
 refine AW.midT (fun σ' H' => ∃ (y1 : Int) (G' : GM), y1 = q23 /\ Ow G' H' (eSl v0 145 (rI .u32) x5 :: L) /\ GM.le G11 G' /\ σ' 8 = .int .u32 y1) ?_ ?_
 .refine .cond (b := decide (x7 < (List.length p1 : Int))) rfl rfl (fun g26 => ?_) (fun g26 => ?_)
  rotate_left
  .have h32 := z0h g26 h24
   refine .skip ?_
   obtain rfl := zAa h32
   exact ⟨z05 .u32 (x19 + x6), _, rfl, O12, (zAf _), rfl⟩
  have h27 := z03 g26 h24
  refine .region (W.q2 (.int .u32 (z05 .u32 (x19 + x6))) rfl (W.q2 v1 ((fr10 1 rfl).trans rfl) (W.q2 _ t16 ?_)))
  obtain ⟨x28, i29, h30⟩ := z00 h27
  have j31 := z0g i29
  refine W.pure (v := (z2t v1 (Int.toNat x7 * 1))) rfl rfl (z3b el63 z40 (oo rfl rfl) (oo rfl rfl) (z0f (RT.mono _ s13 hp1)) j31.1 j31.2.1) (W.load1 (v := (.int .u32 x28)) (r := []) rfl rfl z9o (z0q rfl (At.int (At.le (At.le (z1m hp1 j31.2.2) s13 s13) (zAf _) O12.fro))) (W.q3 (.int .u32 (z05 .u32 ((z05 .u32 (x19 + x6)) + x28))) rfl rfl (W.q1 (.int .u32 (z05 .u32 ((z05 .u32 (x19 + x6)) + x28))) rfl (.nil ?_))))
  obtain rfl := zAa h30
  exact ⟨z05 .u32 ((z05 .u32 (x19 + x6)) + x28), _, rfl, O12, (zAf _), rfl⟩
 rintro σ34 H35 fr36 ⟨x33, G37, rfl, O38, s39, t41⟩
 have h42 := z0d h25
 refine .seq (.region (W.q2 _ t41 (W.pure (v := (.int .u32 (z05 .u32 (Int.tdiv x33 1000000000)))) rfl rfl (zgr (by decide) (oo rfl rfl) (oo rfl rfl)) (W.q1 (.int .u32 (z05 .u32 (Int.tdiv x33 1000000000))) rfl (.nil (.region ?_))))))
 refine W.q2 v0 ((fr36 0 rfl).trans ((fr10 0 rfl).trans rfl)) (W.q2 (.int .i64 p2) ((fr36 2 rfl).trans ((fr10 2 rfl).trans rfl)) (W.q2 _ ((fr36 7 rfl).trans t16) (W.q3 (.int .i64 (z05 .i64 (p2 + x7))) rfl rfl (W.q2 _ t41 (W.pure (v := (.int .u32 (Int.tmod x33 1000000000))) rfl rfl (zi9 (by decide) (oo rfl rfl) (oo rfl rfl)) ?_)))))
 obtain ⟨x43, i44, h45⟩ := z00 h42
 have j46 := z0g i44
 refine W.pure (v := (z2t v0 (Int.toNat (z05 .i64 (p2 + x7)) * 1))) rfl rfl (z3b el63 z40 (oo rfl rfl) (oo rfl rfl) (O38.slLen (j := 0) rfl) j46.1 j46.2.1) (W.lo rfl rfl (Lo.storeSl0 (j := 0) (y0 := Int.tmod x33 1000000000) (v := (.int .u32 (Int.tmod x33 1000000000))) rfl j46.2.2  rfl z40 rfl rfl rfl O38) ?_)
 rintro v49 H50 ⟨O47, sm48⟩
 refine .nil (.region (W.q2 _ ((fr36 7 rfl).trans t16) (W.q3 (.int .i64 (z05 .i64 (x7 + 1))) rfl rfl (W.q1 (.int .i64 (z05 .i64 (x7 + 1))) rfl (.nil ?_)))))
 exact ⟨k4, zAg _, ⟨(List.set x5 (Int.toNat (z05 .i64 (p2 + x7))) (Int.tmod x33 1000000000)), z05 .u32 (Int.tdiv x33 1000000000), z05 .i64 (x7 + 1), _, h45, O47, (zAe s13 s39), rfl, rfl⟩⟩
def z3j (K : Nat) (p0 : List Int) : Nat -> List Int -> Option (List Int)
  | 0, _ => none
  | k + 1, x105 => (if (decide ((List.length x105 : Int) <= (List.length p0 : Int))) = true then (if List.length x105 + List.length [0] <= 16777216 then z3j K p0 k (x105 ++ [0]) else none) else some x105)
def z1x (K : Nat) (x88 : List Int) (x160 : List Int) (x161 : Int) : Nat -> Int -> Int -> Option (Int)
  | 0, _, _ => none
  | k + 1, x212, x213 => (Option.bind ((if (decide (x212 >= 1000000000)) = true then some true else ((idx x88 (z05 .i64 ((List.length x88 : Int) - 2))).bind fun x235 => (lt (z05 .i64 ((z05 .i64 (x161 + (List.length x88 : Int))) - 2)) fun x239 => ((idx x160 x239).bind fun x242 => (lt (z05 .u64 ((z05 .u64 (x213 * 1000000000)) + (IntKind.wrap .u64 x242))) fun x246 => (lt (decide ((z05 .u64 (x212 * (IntKind.wrap .u64 x235))) > x246)) fun x249 => some x249))))))) (tu1 fun x252 => (if x252 = true then ((idx x88 (z05 .i64 ((List.length x88 : Int) - 1))).bind fun x264 => (lt (decide ((z05 .u64 (x213 + (IntKind.wrap .u64 x264))) >= 1000000000)) fun x268 => (if x268 = true then some (z05 .u64 (x212 - 1)) else z1x K x88 x160 x161 k (z05 .u64 (x212 - 1)) (z05 .u64 (x213 + (IntKind.wrap .u64 x264)))))) else some x212)))
def z1p (K : Nat) (x88 : List Int) : Nat -> List Int -> List Int -> Int -> Option (List Int × List Int)
  | 0, _, _, _ => none
  | k + 1, x159, x160, x161 => (if (decide (x161 >= 0)) = true then ((idx x160 (z05 .i64 (x161 + (List.length x88 : Int)))).bind fun x177 => (lt (z05 .i64 ((z05 .i64 (x161 + (List.length x88 : Int))) - 1)) fun x181 => ((idx x160 x181).bind fun x184 => (lt (z05 .u64 ((z05 .u64 ((IntKind.wrap .u64 x177) * 1000000000)) + (IntKind.wrap .u64 x184))) fun x188 => ((idx x88 (z05 .i64 ((List.length x88 : Int) - 1))).bind fun x196 => (if (IntKind.wrap .u64 x196) ≠ 0 then ((idx x88 (z05 .i64 ((List.length x88 : Int) - 1))).bind fun x202 => (if (IntKind.wrap .u64 x202) ≠ 0 then (Option.bind (z1x K x88 x160 x161 K (z05 .u64 (Int.tdiv x188 (IntKind.wrap .u64 x196))) (Int.tmod x188 (IntKind.wrap .u64 x202))) (tu1 fun x275 => ((z3f K x160 x88 x161 x275).bind fun x286 => (Option.bind ((if x286.1 = true then ((z3x K x286.2 x88 x161).bind fun x302 => some (x302, z05 .u64 (x275 - 1))) else some (x286.2, x275))) (tu2 fun x314 x315 => ((idx x159 x161).bind fun x325 => z1p K x88 k (List.set x159 (Int.toNat x161) (IntKind.wrap .u32 x315)) x314 (z05 .i64 (x161 - 1)))))))) else none)) else none)))))) else some (x159, x160))
def z43 (K : Nat) (p0 : List Int) (p1 : List Int) : Option (List Int × List Int) := ((z41 K p0 p1).bind fun x1 => (if (decide (x1 < 0)) = true then some ([], p0) else (if ((List.length p1 : Int) == 1) = true then ((idx p1 0).bind fun x17 => ((z42 K p0 x17).bind fun x21 => some (x21.1, x21.2))) else ((idx p1 (z05 .i64 ((List.length p1 : Int) - 1))).bind fun x37 => (if (z05 .u64 ((IntKind.wrap .u64 x37) + 1)) ≠ 0 then (lt (z05 .u64 (Int.tdiv (1000000000 : Int) (z05 .u64 ((IntKind.wrap .u64 x37) + 1)))) fun x43 => ((z27 K p0 [IntKind.wrap .u32 x43]).bind fun x54 => (if List.length x54 + List.length [0] <= 16777216 then ((z27 K p1 [IntKind.wrap .u32 x43]).bind fun x88 => (Option.bind (z3j K p0 K (x54 ++ [0])) (tu1 fun x130 => (lt (z05 .i64 ((List.length x130 : Int) - (List.length x88 : Int))) fun x139 => (if 0 <= x139 /\ x139 <= x139 /\ x139 <= 16777216 then (lt (z05 .i64 ((List.length x130 : Int) - (List.length x88 : Int))) fun x148 => (Option.bind (z1p K x88 K (List.replicate (Int.toNat x139) 0) x130 (z05 .i64 (x148 - 1))) (tu2 fun x337 x338 => ((z1u K x338).bind fun x348 => ((z42 K x348 (IntKind.wrap .u32 x43)).bind fun x365 => ((z1u K x337).bind fun x380 => some (x380, x365.1))))))) else none))))) else none))) else none)))))
theorem z75 (v0 : Value) (p0 : List Int) (hp0 : (rSl (rI .u32)).rep G [v0] p0) (v1 : Value) (p1 : List Int) (hp1 : (rSl (rI .u32)).rep G [v1] p1) (O : Ow G H (L)) (r : List Int × List Int) (h : z43 K p0 p1 = some r) :
    CR Tryd.prog 119 [v0, v1] G H (L) (fun v G' _ => ∃ (w0 : Value), ∃ (w1 : Value), v = .tuple #[w0, w1] /\ (rSl (rI .u32)).rep G' [w0] r.1 /\ (rSl (rI .u32)).rep G' [w1] r.2) := by
 unfold z43 at h
 refine CR.og (n := 171) (fn := Tryd.f119) (by kernel_rfl) rfl rfl fun R kr => (.seq (.region (W.q1 (.slice none 0 0) rfl (W.q1 (.slice none 0 0) rfl (.nil (.seq ?_))))))
 refine .seq (.region (W.q2 v0 rfl (W.q2 v1 rfl ?_)))
 obtain ⟨x1, i2, h3⟩ := z00 h
 refine W.lo rfl rfl (Lo.cP rfl (fn := Tryd.f91) (by kernel_rfl) rfl (mc rfl (mc rfl mn)) O (fun L' O' => z5g K v0 p0 hp0 v1 p1 hp1 O' _ i2)) ?_
 rintro v10 H11 ⟨G4, O5, s6, sm9, rfl⟩
 refine W.q3 (.bool (decide (x1 < 0))) rfl rfl (.nil (.cond (b := decide (x1 < 0)) rfl rfl (fun g12 => ?_) (fun g12 => ?_)))
 .have h13 := z03 g12 h3
  refine .seq (.region (W.q2 v0 rfl (W.q1 (.slice none 0 0) rfl (W.q1 v0 rfl (.nil (.ret ?_))))))
  obtain rfl := zAa h13
  exact zas kr (v1 := (.slice none 0 0)) (v2 := v0) (by rfl) (z09 (by rfl) (by exact rfl)) (z09 (by rfl) (by exact rfl)) O5 s6 ⟨(.slice none 0 0), v0, rfl, zit, (RT.mono _ s6 hp0)⟩
 have h14 := z0h g12 h3
 refine .skip (.seq (.seq (.region (W.q2 v1 rfl (W.pure (v := (.int .i64 (List.length p1 : Int))) rfl rfl (z0p (oo rfl rfl) (z0f (RT.mono _ s6 hp1)) (z06 el63)) (W.q3 (.bool ((List.length p1 : Int) == 1)) rfl rfl ?_))))))
 refine .nil (.cond (b := ((List.length p1 : Int) == 1)) rfl rfl (fun g15 => ?_) (fun g15 => ?_))
 .have h16 := z03 g15 h14
  refine .seq (.region (W.q2 v0 rfl (W.q2 v1 rfl ?_)))
  obtain ⟨x17, i18, h19⟩ := z00 h16
  have j20 := z0g i18
  refine W.pure (v := (z2t v1 (Int.toNat 0 * 1))) rfl rfl (z3b el63 z40 (oo rfl rfl) (oo rfl rfl) (z0f (RT.mono _ s6 hp1)) j20.1 j20.2.1) (W.load1 (v := (.int .u32 x17)) (r := []) rfl rfl z9o (z0q rfl (At.int (At.le (At.le (z1m hp1 j20.2.2) s6 s6) (zAf _) O5.fro))) ?_)
  obtain ⟨x21, i22, h23⟩ := z00 h19
  refine W.lo rfl rfl (Lo.cP rfl (fn := Tryd.f127) (by kernel_rfl) rfl (mc rfl (mc rfl mn)) O5 (fun L' O' => z7t K v0 p0 (RT.mono _ s6 hp0) x17 O' _ i22)) ?_
  rintro v34 H35 ⟨G24, O25, s26, sm33, ⟨w28, w30, rfl, f29, f31⟩⟩
  refine W.pure (v := w28) rfl rfl (z08 (oo rfl rfl) rfl) (W.pure (v := w30) rfl rfl (z08 (oo rfl rfl) rfl) (W.q1 w28 rfl (W.q1 w30 rfl (.nil (.ret ?_)))))
  obtain rfl := zAa h23
  exact zas kr (v1 := w28) (v2 := w30) (by rfl) (z09 (by rfl) (by exact rfl)) (z09 (by rfl) (by exact rfl)) O25 (zAe s6 s26) ⟨w28, w30, rfl, f29, f31⟩
 have h36 := z0h g15 h14
 refine .skip (.seq (.region (W.q2 v1 rfl (W.q2 v1 rfl (W.pure (v := (.int .i64 (List.length p1 : Int))) rfl rfl (z0p (oo rfl rfl) (z0f (RT.mono _ s6 hp1)) (z06 el63)) (W.q3 (.int .i64 (z05 .i64 ((List.length p1 : Int) - 1))) rfl rfl ?_))))))
 obtain ⟨x37, i38, h39⟩ := z00 h36
 have j40 := z0g i38
 refine W.pure (v := (z2t v1 (Int.toNat (z05 .i64 ((List.length p1 : Int) - 1)) * 1))) rfl rfl (z3b el63 z40 (oo rfl rfl) (oo rfl rfl) (z0f (RT.mono _ s6 hp1)) j40.1 j40.2.1) (W.load1 (v := (.int .u32 x37)) (r := []) rfl rfl z9o (z0q rfl (At.int (At.le (At.le (z1m hp1 j40.2.2) s6 s6) (zAf _) O5.fro))) (W.pure (v := (.int .u64 (IntKind.wrap .u64 x37))) rfl rfl (z3s z94 zbc (oo rfl rfl)) (W.q3 (.int .u64 (z05 .u64 ((IntKind.wrap .u64 x37) + 1))) rfl rfl ?_)))
 obtain ⟨g41, h42⟩ := z3c h39
 refine W.pure (v := (.int .u64 (z05 .u64 (Int.tdiv (1000000000 : Int) (z05 .u64 ((IntKind.wrap .u64 x37) + 1)))))) rfl rfl (zgr g41 (oo rfl rfl) (oo rfl rfl)) ?_
 obtain ⟨x43, e44, h45⟩ := z6b h42
 refine W.pure (v := (.int .u32 (IntKind.wrap .u32 x43))) rfl rfl (z3s zbc z94 (oo rfl (congrArg (Value.int .u64) e44))) (W.q1 (.int .u32 (IntKind.wrap .u32 x43)) rfl (.nil (.seq (.region (W.q2 v0 rfl (W.q2 (.int .u32 (IntKind.wrap .u32 x43)) rfl ?_))))))
 refine W.lo rfl rfl (Lo.buildSlice (r := (rI .u32)) (vs := [(.int .u32 (IntKind.wrap .u32 x43))]) (xs := [IntKind.wrap .u32 x43]) el63 zbs z40 (by kernel_rfl) rfl (qc rfl qn) rfl (.cons rfl .nil) O5) ?_
 rintro v48 H49 ⟨O46, sm47⟩
 obtain ⟨G50, O51, s52, f53⟩ := O46.frzSl (j := 0) rfl
 obtain ⟨x54, i55, h56⟩ := z00 h45
 refine W.lo rfl rfl (Lo.callPF (ps := []) (pw := fun w => [eSl w 145 (rI .u32) x54]) rfl (fn := Tryd.f87) (by kernel_rfl) rfl (mc rfl (mc rfl mn)) O51 (fun L' O' => z1w K v0 p0 (RT.mono _ (zAe s6 s52) hp0) v48 [IntKind.wrap .u32 x43] f53 O' _ i55)) ?_
 rintro v65 H66 ⟨w62, G57, O58, s59, sm64, rfl⟩
 refine W.lo rfl rfl (Lo.buildSlice (r := (rI .u32)) (vs := [(.int .u32 0)]) (xs := [0]) el63 zbs z40 (by kernel_rfl) rfl (qc rfl qn) rfl (.cons rfl .nil) O58) ?_
 rintro v69 H70 ⟨O67, sm68⟩
 obtain ⟨es72, e73, e74⟩ := z7r (j := 0) rfl O67
 obtain ⟨g75, h76⟩ := z3c h56
 refine W.lo rfl rfl (Lo.append (j := 1) (v := w62) rfl rfl el63 ni63 zbs z40 zh2 (by decide) (by decide) rfl e73 e74 g75 O67) ?_
 rintro v78 H79 ⟨O71, sm77⟩
 refine W.q2 v1 rfl (W.q2 (.int .u32 (IntKind.wrap .u32 x43)) rfl (W.lo rfl rfl (Lo.buildSlice (r := (rI .u32)) (vs := [(.int .u32 (IntKind.wrap .u32 x43))]) (xs := [IntKind.wrap .u32 x43]) el63 zbs z40 (by kernel_rfl) rfl (qc rfl qn) rfl (.cons rfl .nil) O71) ?_))
 rintro v82 H83 ⟨O80, sm81⟩
 obtain ⟨G84, O85, s86, f87⟩ := O80.frzSl (j := 0) rfl
 obtain ⟨x88, i89, h90⟩ := z00 h76
 refine W.lo rfl rfl (Lo.callPF (ps := []) (pw := fun w => [eSl w 145 (rI .u32) x88]) rfl (fn := Tryd.f87) (by kernel_rfl) rfl (mc rfl (mc rfl mn)) O85 (fun L' O' => z1w K v1 p1 (RT.mono _ (zAe s6 (zAe s52 (zAe s59 s86))) hp1) v82 [IntKind.wrap .u32 x43] f87 O' _ i89)) ?_
 rintro v99 H100 ⟨w96, G91, O92, s93, sm98, rfl⟩
 refine W.q1 v78 rfl (W.q1 w96 rfl (.nil (.seq ?_)))
 obtain ⟨q101, h102, h103⟩ := z00 h90
 refine AW.midT (fun σ' H' => ∃ (y1 : List Int) (G' : GM), y1 = q101 /\ Ow G' H' (eSl w96 145 (rI .u32) x88 :: eSl v69 145 (rI .u32) [0] :: eSl (σ' 7) 145 (rI .u32) y1 :: L) /\ GM.le G91 G') ?_ ?_
 .refine .block (AW.loop (α := Nat) (fun k' σ' H' => ∃ (y1 : List Int) (G' : GM), z3j K p0 k' y1 = some q101 /\ Ow G' H' (eSl w96 145 (rI .u32) x88 :: eSl v69 145 (rI .u32) [0] :: eSl (σ' 7) 145 (rI .u32) y1 :: L) /\ GM.le G91 G') (fun k' => k') K ⟨(x54 ++ [0]), _, h102, O92, (zAf _)⟩ ?_)
  rintro k104
  rintro σ106 H107 fr108 ⟨x105, G109, h112, O110, s111⟩
  rcases k104 with _ | k104
  .exact z0a h112
  rw [z3j] at h112
  refine .seq (.seq (.region (W.q2 (σ106 7) rfl (W.pure (v := (.int .i64 (List.length x105 : Int))) rfl rfl (z0p (oo rfl rfl) (O110.slLen (j := 2) rfl) (z06 el63)) (W.q2 v0 ((fr108 0 rfl).trans rfl) (W.pure (v := (.int .i64 (List.length p0 : Int))) rfl rfl (z0p (oo rfl rfl) (z0f (RT.mono _ (zAe s6 (zAe s52 (zAe s59 (zAe s86 (zAe s93 s111))))) hp0)) (z06 el63)) ?_))))))
  refine W.q3 (.bool (decide ((List.length x105 : Int) <= (List.length p0 : Int)))) rfl rfl (.nil (.cond (b := decide ((List.length x105 : Int) <= (List.length p0 : Int))) rfl rfl (fun g113 => ?_) (fun g113 => ?_)))
  rotate_left
  .have h129 := z0h g113 h112
   refine .exit ?_
   obtain rfl := zAa h129
   exact ⟨x105, _, rfl, O110, s111⟩
  have h114 := z03 g113 h112
  refine .skip (.block (.region (W.q2 (σ106 7) rfl (W.lo rfl rfl (Lo.buildSlice (r := (rI .u32)) (vs := [(.int .u32 0)]) (xs := [0]) el63 zbs z40 (by kernel_rfl) rfl (qc rfl qn) rfl (.cons rfl .nil) O110) ?_))))
  rintro v117 H118 ⟨O115, sm116⟩
  obtain ⟨es120, e121, e122⟩ := z7r (j := 0) rfl O115
  obtain ⟨g123, h124⟩ := z3c h114
  refine W.lo rfl rfl (Lo.append (j := 3) (v := (σ106 7)) rfl rfl el63 ni63 zbs z40 zh2 (by decide) (by decide) rfl e121 e122 g123 O115) ?_
  rintro v126 H127 ⟨O119, sm125⟩
  refine W.q1 v126 rfl (.nil ?_)
  have O128 : Ow G109 H127 (eSl w96 145 (rI .u32) x88 :: eSl v69 145 (rI .u32) [0] :: eSl v126 145 (rI .u32) (x105 ++ [0]) :: L) := O119.drop 0
  exact ⟨k104, zAg _, ⟨(x105 ++ [0]), _, h124, O128, s111⟩⟩
 rintro σ131 H132 fr133 ⟨x130, G134, rfl, O135, s136⟩
 have h138 := z0d h103
 refine .seq (.region (W.q2 w96 ((fr133 8 rfl).trans rfl) (W.pure (v := (.int .i64 (List.length x88 : Int))) rfl rfl (z0p (oo rfl rfl) (O135.slLen (j := 0) rfl) (z06 el63)) (W.q1 (.int .i64 (List.length x88 : Int)) rfl (.nil (.seq ?_))))))
 refine .region (W.q2 (σ131 7) rfl (W.pure (v := (.int .i64 (List.length x130 : Int))) rfl rfl (z0p (oo rfl rfl) (O135.slLen (j := 2) rfl) (z06 el63)) (W.q2 (.int .i64 (List.length x88 : Int)) rfl (W.q3 (.int .i64 (z05 .i64 ((List.length x130 : Int) - (List.length x88 : Int)))) rfl rfl ?_))))
 obtain ⟨x139, e140, h141⟩ := z6b h138
 obtain ⟨g143, h144⟩ := z3c h141
 refine W.lo rfl rfl (Lo.makeSlice (r := (rI .u32)) (x0 := 0) (a := x139) (c := x139) rfl el63 zbs z40 (by kernel_rfl) rfl zh2 (by decide) (congrArg (Value.int .i64) e140) (congrArg (Value.int .i64) e140) g143 (zI .u32) O135) ?_
 rintro v146 H147 ⟨O142, sm145⟩
 refine W.q1 v146 rfl (.nil (.seq (.seq (.region (W.q2 (σ131 7) rfl (W.pure (v := (.int .i64 (List.length x130 : Int))) rfl rfl (z0p (oo rfl rfl) (O142.slLen (j := 3) rfl) (z06 el63)) ?_))))))
 refine W.q2 (.int .i64 (List.length x88 : Int)) rfl (W.q3 (.int .i64 (z05 .i64 ((List.length x130 : Int) - (List.length x88 : Int)))) rfl rfl ?_)
 obtain ⟨x148, e149, h150⟩ := z6b h144
 refine W.q3 (.int .i64 (z05 .i64 (x148 - 1))) (congrArg (Value.int .i64) e149) rfl (W.q1 (.int .i64 (z05 .i64 (x148 - 1))) rfl (.nil ?_))
 obtain ⟨G151, O152, s153, f154⟩ := O142.frzSl (j := 1) rfl
 obtain ⟨q155, h156, h157⟩ := z00 h150
 refine AW.midT (fun σ' H' => ∃ (y1 : List Int) (y2 : List Int) (G' : GM), (y1, y2) = q155 /\ Ow G' H' (eSl v146 145 (rI .u32) y1 :: eSl v69 145 (rI .u32) [0] :: eSl (σ131 7) 145 (rI .u32) y2 :: L) /\ GM.le G151 G') ?_ ?_
 rotate_left
 .rintro σ339 H340 fr341 ⟨x337, x338, G342, rfl, O343, s344⟩
  have h346 := z4k h157
  refine .seq (.region (W.q2 (σ131 7) ((fr341 7 rfl).trans rfl) ?_))
  have O347 : Ow G342 H340 (eSl (σ131 7) 145 (rI .u32) x338 :: eSl v146 145 (rI .u32) x337 :: eSl v69 145 (rI .u32) [0] :: L) := O343.front (j := 2) rfl
  obtain ⟨x348, i349, h350⟩ := z00 h346
  refine W.lo rfl rfl (Lo.callPF (ps := [eSl (σ131 7) 145 (rI .u32) x338]) (pw := fun w => [eSl w 145 (rI .u32) x348]) rfl (fn := Tryd.f118) (by kernel_rfl) rfl (mc rfl mn) O347 (fun L' O' => z2n K (σ131 7) x338 O' _ i349)) ?_
  rintro v359 H360 ⟨w356, G351, O352, s353, sm358, rfl⟩
  refine W.q2 (.int .u32 (IntKind.wrap .u32 x43)) ((fr341 6 rfl).trans ((fr133 6 rfl).trans rfl)) ?_
  obtain ⟨G361, O362, s363, f364⟩ := O352.frzSl (j := 0) rfl
  obtain ⟨x365, i366, h367⟩ := z00 h350
  refine W.lo rfl rfl (Lo.cP rfl (fn := Tryd.f127) (by kernel_rfl) rfl (mc rfl (mc rfl mn)) O362 (fun L' O' => z7t K w356 x348 f364 (IntKind.wrap .u32 x43) O' _ i366)) ?_
  rintro v378 H379 ⟨G368, O369, s370, sm377, ⟨w372, w374, rfl, f373, f375⟩⟩
  refine W.q2 (.tuple #[w372, w374]) rfl (W.pure (v := w372) rfl rfl (z08 (oo rfl rfl) rfl) (W.pure (v := w374) rfl rfl (z08 (oo rfl rfl) rfl) (W.q1 w372 rfl (W.q1 w374 rfl (.nil (.seq ?_))))))
  refine .region (W.q2 v146 ((fr341 10 rfl).trans rfl) ?_)
  obtain ⟨x380, i381, h382⟩ := z00 h367
  refine W.lo rfl rfl (Lo.callPF (ps := [eSl v146 145 (rI .u32) x337]) (pw := fun w => [eSl w 145 (rI .u32) x380]) rfl (fn := Tryd.f118) (by kernel_rfl) rfl (mc rfl mn) O369 (fun L' O' => z2n K v146 x337 O' _ i381)) ?_
  rintro v391 H392 ⟨w388, G383, O384, s385, sm390, rfl⟩
  refine W.q2 w372 rfl (W.q1 w388 rfl (W.q1 w372 rfl (.nil (.ret ?_))))
  obtain ⟨G393, O394, s395, f396⟩ := O384.frzSl (j := 0) rfl
  have O397 : Ow G393 H392 (L) := O394.drop 0
  obtain rfl := zAa h382
  exact zas kr (v1 := w388) (v2 := w372) (by rfl) (z09 (by rfl) (by exact rfl)) (z09 (by rfl) (by exact rfl)) O397 (zAe s6 (zAe s52 (zAe s59 (zAe s86 (zAe s93 (zAe s136 (zAe s153 (zAe s344 (zAe s353 (zAe s363 (zAe s370 (zAe s385 s395)))))))))))) ⟨w388, w372, rfl, f396, (RT.mono _ (zAe s385 s395) f373)⟩
 refine .block (AW.loop (α := Nat) (fun k' σ' H' => ∃ (y1 : List Int) (y2 : List Int) (y3 : Int) (G' : GM), z1p K x88 k' y1 y2 y3 = some q155 /\ Ow G' H' (eSl v146 145 (rI .u32) y1 :: eSl v69 145 (rI .u32) [0] :: eSl (σ131 7) 145 (rI .u32) y2 :: L) /\ GM.le G151 G' /\ σ' 11 = .int .i64 y3) (fun k' => k') K ⟨(List.replicate (Int.toNat x139) 0), x130, z05 .i64 (x148 - 1), _, h156, O152, (zAf _), rfl⟩ ?_)
 rintro k158
 rintro σ162 H163 fr164 ⟨x159, x160, x161, G165, h168, O166, s167, t169⟩
 rcases k158 with _ | k158
 .exact z0a h168
 rw [z1p] at h168
 refine .seq (.seq (.region (W.q2 _ t169 (W.q3 (.bool (decide (x161 >= 0))) rfl rfl (.nil (.cond (b := decide (x161 >= 0)) rfl rfl (fun g170 => ?_) (fun g170 => ?_)))))))
 rotate_left
 .have h336 := z0h g170 h168
  refine .exit ?_
  obtain rfl := zAa h336
  exact ⟨x159, x160, _, rfl, O166, s167⟩
 have h171 := z03 g170 h168
 refine .skip (.seq (.block (.seq (.draw2 (M := [0, 0, 0, 6, 15, 31, 63, 127, 0, 0, 0, 1536, 3584, 7936, 16128, 32512, 65535, 131071]) mixed (by kernel_rfl) (by kernel_rfl) fun H172 N176 x173 F175 => ?_))))
 have O174 := O166.ext x173
 refine D2.q2 (σ131 7) ((fr164 7 rfl).trans rfl) (D2.q2 _ t169 (D2.q2 (.int .i64 (List.length x88 : Int)) ((fr164 9 rfl).trans rfl) (D2.q3 (.int .i64 (z05 .i64 (x161 + (List.length x88 : Int)))) rfl rfl ?_)))
 obtain ⟨x177, i178, h179⟩ := z00 h171
 have j180 := z0g i178
 refine D2.pure (v := (z2t (σ131 7) (Int.toNat (z05 .i64 (x161 + (List.length x88 : Int))) * 1))) rfl rfl (z3b el63 z40 (oo rfl rfl) (oo rfl rfl) (O174.slLen (j := 2) rfl) j180.1 j180.2.1) (D2.load1' (v := (.int .u32 x177)) (r := []) rfl rfl z9o (z0q rfl (At.int (O174.atSl (j := 2) rfl j180.2.2))) z02 (D2.pure (v := (.int .u64 (IntKind.wrap .u64 x177))) rfl rfl (z3s z94 zbc (oo rfl rfl)) (D2.q3 (.int .u64 (z05 .u64 ((IntKind.wrap .u64 x177) * 1000000000))) rfl rfl (D2.q2 (σ131 7) ((fr164 7 rfl).trans rfl) (D2.q2 _ t169 (D2.q2 (.int .i64 (List.length x88 : Int)) ((fr164 9 rfl).trans rfl) ?_))))))
 refine D2.q3 (.int .i64 (z05 .i64 (x161 + (List.length x88 : Int)))) rfl rfl (D2.q3 (.int .i64 (z05 .i64 ((z05 .i64 (x161 + (List.length x88 : Int))) - 1))) rfl rfl ?_)
 obtain ⟨x181, e182, h183⟩ := z6b h179
 obtain ⟨x184, i185, h186⟩ := z00 h183
 have j187 := z0g i185
 refine D2.pure (v := (z2t (σ131 7) (Int.toNat x181 * 1))) rfl rfl (z3b el63 z40 (oo rfl rfl) (oo rfl (congrArg (Value.int .i64) e182)) (O174.slLen (j := 2) rfl) j187.1 j187.2.1) (D2.load1' (v := (.int .u32 x184)) (r := []) rfl rfl z9o (z0q rfl (At.int (O174.atSl (j := 2) rfl j187.2.2))) z02 (D2.pure (v := (.int .u64 (IntKind.wrap .u64 x184))) rfl rfl (z3s z94 zbc (oo rfl rfl)) (D2.q3 (.int .u64 (z05 .u64 ((z05 .u64 ((IntKind.wrap .u64 x177) * 1000000000)) + (IntKind.wrap .u64 x184)))) rfl rfl ?_)))
 obtain ⟨x188, e189, h190⟩ := z6b h186
 refine D2.q1 _ (congrArg (Value.int .u64) e189) (.nil (.seq (.draw2 (M := [0, 0, 0, 4, 14, 30, 62, 127, 0, 0, 0, 1024, 3584, 7680, 15872, 32512, 255, 131071]) mixed (by kernel_rfl) (by kernel_rfl) fun H191 N195 x192 F194 => ?_)))
 have O193 := O174.ext x192
 refine D2.q2 (.int .u64 x188) rfl (D2.q2 w96 ((fr164 8 rfl).trans ((fr133 8 rfl).trans rfl)) (D2.q2 (.int .i64 (List.length x88 : Int)) ((fr164 9 rfl).trans rfl) (D2.q3 (.int .i64 (z05 .i64 ((List.length x88 : Int) - 1))) rfl rfl ?_)))
 obtain ⟨x196, i197, h198⟩ := z00 h190
 have j199 := z0g i197
 refine D2.pure (v := (z2t w96 (Int.toNat (z05 .i64 ((List.length x88 : Int) - 1)) * 1))) rfl rfl (z3b el63 z40 (oo rfl rfl) (oo rfl rfl) (z0f (RT.mono _ s167 f154)) j199.1 j199.2.1) (D2.load1' (v := (.int .u32 x196)) (r := []) rfl rfl z9o (z0q rfl (At.int (At.le (At.le (z1m f154 j199.2.2) s167 s167) (zAf _) O193.fro))) z02 (D2.pure (v := (.int .u64 (IntKind.wrap .u64 x196))) rfl rfl (z3s z94 zbc (oo rfl rfl)) ?_))
 obtain ⟨g200, h201⟩ := z3c h198
 refine D2.pure (v := (.int .u64 (z05 .u64 (Int.tdiv x188 (IntKind.wrap .u64 x196))))) rfl rfl (zgr g200 (oo rfl rfl) (oo rfl rfl)) (D2.q2 (.int .u64 x188) rfl (D2.q2 w96 ((fr164 8 rfl).trans ((fr133 8 rfl).trans rfl)) (D2.q2 (.int .i64 (List.length x88 : Int)) ((fr164 9 rfl).trans rfl) (D2.q3 (.int .i64 (z05 .i64 ((List.length x88 : Int) - 1))) rfl rfl ?_))))
 obtain ⟨x202, i203, h204⟩ := z00 h201
 have j205 := z0g i203
 refine D2.pure (v := (z2t w96 (Int.toNat (z05 .i64 ((List.length x88 : Int) - 1)) * 1))) rfl rfl (z3b el63 z40 (oo rfl rfl) (oo rfl rfl) (z0f (RT.mono _ s167 f154)) j205.1 j205.2.1) (D2.load1' (v := (.int .u32 x202)) (r := []) rfl rfl z9o (z0q rfl (At.int (At.le (At.le (z1m f154 j205.2.2) s167 s167) (zAf _) O193.fro))) z02 (D2.pure (v := (.int .u64 (IntKind.wrap .u64 x202))) rfl rfl (z3s z94 zbc (oo rfl rfl)) ?_))
 obtain ⟨g206, h207⟩ := z3c h204
 refine D2.pure (v := (.int .u64 (Int.tmod x188 (IntKind.wrap .u64 x202)))) rfl rfl (zi9 g206 (oo rfl rfl) (oo rfl rfl)) (D2.q1 (.int .u64 (z05 .u64 (Int.tdiv x188 (IntKind.wrap .u64 x196)))) rfl (D2.q1 (.int .u64 (Int.tmod x188 (IntKind.wrap .u64 x202))) rfl (.nil (.seq ?_))))
 obtain ⟨q208, h209, h210⟩ := z00 h207
 refine AW.midT (fun σ' H' => ∃ (y1 : Int) (G' : GM), y1 = q208 /\ Ow G' H' (eSl v146 145 (rI .u32) x159 :: eSl v69 145 (rI .u32) [0] :: eSl (σ131 7) 145 (rI .u32) x160 :: L) /\ GM.le G165 G' /\ σ' 13 = .int .u64 y1) ?_ ?_
 rotate_left
 .rintro σ276 H277 fr278 ⟨x275, G279, rfl, O280, s281, t283⟩
  have h284 := z0d h210
  refine .seq (.seq (.region (W.q2 (σ131 7) ((fr278 7 rfl).trans ((fr164 7 rfl).trans rfl)) (W.q2 w96 ((fr278 8 rfl).trans ((fr164 8 rfl).trans ((fr133 8 rfl).trans rfl))) (W.q2 _ ((fr278 11 rfl).trans t169) (W.q2 _ t283 ?_))))))
  have O285 : Ow G279 H277 (eSl (σ131 7) 145 (rI .u32) x160 :: eSl v146 145 (rI .u32) x159 :: eSl v69 145 (rI .u32) [0] :: L) := O280.front (j := 2) rfl
  obtain ⟨x286, i287, h288⟩ := z00 h284
  refine W.lo rfl rfl (Lo.callP (ps := [eSl (σ131 7) 145 (rI .u32) x160]) (ps' := [eSl (σ131 7) 145 (rI .u32) x286.2]) rfl (fn := Tryd.f128) (by kernel_rfl) rfl (mc rfl (mc rfl (mc rfl (mc rfl mn)))) O285 (fun L' O' => zat K (σ131 7) x160 w96 x88 (RT.mono _ (zAe s167 s281) f154) x161 x275 O' _ i287)) ?_
  rintro v295 H296 ⟨G289, O290, s291, sm294, rfl⟩
  refine .nil ?_
  obtain ⟨q297, h298, h299⟩ := z00 h288
  refine AW.midT (fun σ' H' => ∃ (y1 : List Int) (y2 : Int) (G' : GM), (y1, y2) = q297 /\ Ow G' H' (eSl (σ131 7) 145 (rI .u32) y1 :: eSl v146 145 (rI .u32) x159 :: eSl v69 145 (rI .u32) [0] :: L) /\ GM.le G289 G' /\ σ' 13 = .int .u64 y2) ?_ ?_
  .refine .cond (b := x286.1) rfl rfl (fun g300 => ?_) (fun g300 => ?_)
   rotate_left
   .have h313 := z0h g300 h298
    refine .skip ?_
    obtain rfl := zAa h313
    exact ⟨x286.2, x275, _, rfl, O290, (zAf _), t283⟩
   have h301 := z03 g300 h298
   refine .seq (.region (W.q2 _ t283 (W.q3 (.int .u64 (z05 .u64 (x275 - 1))) rfl rfl (W.q1 (.int .u64 (z05 .u64 (x275 - 1))) rfl (.nil (.region ?_))))))
   refine W.q2 (σ131 7) ((fr278 7 rfl).trans ((fr164 7 rfl).trans rfl)) (W.q2 w96 ((fr278 8 rfl).trans ((fr164 8 rfl).trans ((fr133 8 rfl).trans rfl))) (W.q2 _ ((fr278 11 rfl).trans t169) ?_))
   obtain ⟨x302, i303, h304⟩ := z00 h301
   refine W.lo rfl rfl (Lo.callP (ps := [eSl (σ131 7) 145 (rI .u32) x286.2]) (ps' := [eSl (σ131 7) 145 (rI .u32) x302]) rfl (fn := Tryd.f129) (by kernel_rfl) rfl (mc rfl (mc rfl (mc rfl mn))) O290 (fun L' O' => zbf K (σ131 7) x286.2 w96 x88 (RT.mono _ (zAe s167 (zAe s281 s291)) f154) x161 O' _ i303)) ?_
   rintro v311 H312 ⟨G305, O306, s307, sm310, rfl⟩
   refine .nil ?_
   obtain rfl := zAa h304
   exact ⟨x302, z05 .u64 (x275 - 1), _, rfl, O306, s307, rfl⟩
  rintro σ316 H317 fr318 ⟨x314, x315, G319, rfl, O320, s321, t323⟩
  have h324 := z4k h299
  refine .region (W.q2 v146 ((fr318 10 rfl).trans ((fr278 10 rfl).trans ((fr164 10 rfl).trans rfl))) (W.q2 _ ((fr318 11 rfl).trans ((fr278 11 rfl).trans t169)) (W.q2 _ t323 (W.pure (v := (.int .u32 (IntKind.wrap .u32 x315))) rfl rfl (z3s zbc z94 (oo rfl rfl)) ?_))))
  obtain ⟨x325, i326, h327⟩ := z00 h324
  have j328 := z0g i326
  refine W.pure (v := (z2t v146 (Int.toNat x161 * 1))) rfl rfl (z3b el63 z40 (oo rfl rfl) (oo rfl rfl) (O320.slLen (j := 1) rfl) j328.1 j328.2.1) (W.lo rfl rfl (Lo.storeSl0 (j := 1) (y0 := IntKind.wrap .u32 x315) (v := (.int .u32 (IntKind.wrap .u32 x315))) rfl j328.2.2  rfl z40 rfl rfl rfl O320) ?_)
  rintro v331 H332 ⟨O329, sm330⟩
  refine .nil (.region (W.q2 _ ((fr318 11 rfl).trans ((fr278 11 rfl).trans t169)) (W.q3 (.int .i64 (z05 .i64 (x161 - 1))) rfl rfl (W.q1 (.int .i64 (z05 .i64 (x161 - 1))) rfl (.nil ?_)))))
  have O333 : Ow G319 H332 (eSl (σ131 7) 145 (rI .u32) x314 :: eSl v146 145 (rI .u32) (List.set x159 (Int.toNat x161) (IntKind.wrap .u32 x315)) :: eSl v69 145 (rI .u32) [0] :: L) := O329.front (j := 0) rfl
  have O334 : Ow G319 H332 (eSl v69 145 (rI .u32) [0] :: eSl (σ131 7) 145 (rI .u32) x314 :: eSl v146 145 (rI .u32) (List.set x159 (Int.toNat x161) (IntKind.wrap .u32 x315)) :: L) := O333.front (j := 2) rfl
  have O335 : Ow G319 H332 (eSl v146 145 (rI .u32) (List.set x159 (Int.toNat x161) (IntKind.wrap .u32 x315)) :: eSl v69 145 (rI .u32) [0] :: eSl (σ131 7) 145 (rI .u32) x314 :: L) := O334.front (j := 2) rfl
  exact ⟨k158, zAg _, ⟨(List.set x159 (Int.toNat x161) (IntKind.wrap .u32 x315)), x314, z05 .i64 (x161 - 1), _, h327, O335, (zAe s167 (zAe s281 (zAe s291 s321))), rfl⟩⟩
 refine .block (AW.loop (α := Nat) (fun k' σ' H' => ∃ (y1 : Int) (y2 : Int) (G' : GM), z1x K x88 x160 x161 k' y1 y2 = some q208 /\ Ow G' H' (eSl v146 145 (rI .u32) x159 :: eSl v69 145 (rI .u32) [0] :: eSl (σ131 7) 145 (rI .u32) x160 :: L) /\ GM.le G165 G' /\ σ' 13 = .int .u64 y1 /\ σ' 14 = .int .u64 y2) (fun k' => k') K ⟨z05 .u64 (Int.tdiv x188 (IntKind.wrap .u64 x196)), Int.tmod x188 (IntKind.wrap .u64 x202), _, h209, O193, (zAf _), rfl, rfl⟩ ?_)
 rintro k211
 rintro σ214 H215 fr216 ⟨x212, x213, G217, h220, O218, s219, t221, t222⟩
 rcases k211 with _ | k211
 .exact z0a h220
 rw [z1x] at h220
 refine .seq (.seq ?_)
 obtain ⟨q223, h224, h225⟩ := z00 h220
 refine AW.midT (fun σ' H' => ∃ (y1 : Bool) (G' : GM), y1 = q223 /\ Ow G' H' (eSl v146 145 (rI .u32) x159 :: eSl v69 145 (rI .u32) [0] :: eSl (σ131 7) 145 (rI .u32) x160 :: L) /\ GM.le G217 G' /\ σ' 132 = .bool y1) ?_ ?_
 rotate_left
 .rintro σ253 H254 fr255 ⟨x252, G256, rfl, O257, s258, t260⟩
  have h261 := z0d h225
  refine .cond (b := x252) rfl t260 (fun g262 => ?_) (fun g262 => ?_)
  rotate_left
  .have h274 := z0h g262 h261
   refine .exit ?_
   obtain rfl := zAa h274
   exact ⟨x212, _, rfl, O257, (zAe s219 s258), ((fr255 13 rfl).trans t221)⟩
  have h263 := z03 g262 h261
  refine .skip (.block (.seq (.region (W.q2 _ ((fr255 13 rfl).trans t221) (W.q3 (.int .u64 (z05 .u64 (x212 - 1))) rfl rfl (W.q1 (.int .u64 (z05 .u64 (x212 - 1))) rfl ?_))))))
  refine .nil (.seq (.region (W.q2 _ ((fr255 14 rfl).trans t222) (W.q2 w96 ((fr255 8 rfl).trans ((fr216 8 rfl).trans ((fr164 8 rfl).trans ((fr133 8 rfl).trans rfl)))) (W.q2 (.int .i64 (List.length x88 : Int)) ((fr255 9 rfl).trans ((fr216 9 rfl).trans ((fr164 9 rfl).trans rfl))) (W.q3 (.int .i64 (z05 .i64 ((List.length x88 : Int) - 1))) rfl rfl ?_))))))
  obtain ⟨x264, i265, h266⟩ := z00 h263
  have j267 := z0g i265
  refine W.pure (v := (z2t w96 (Int.toNat (z05 .i64 ((List.length x88 : Int) - 1)) * 1))) rfl rfl (z3b el63 z40 (oo rfl rfl) (oo rfl rfl) (z0f (RT.mono _ (zAe s167 (zAe s219 s258)) f154)) j267.1 j267.2.1) (W.load1 (v := (.int .u32 x264)) (r := []) rfl rfl z9o (z0q rfl (At.int (At.le (At.le (z1m f154 j267.2.2) (zAe s167 (zAe s219 s258)) (zAe s167 (zAe s219 s258))) (zAf _) O257.fro))) (W.pure (v := (.int .u64 (IntKind.wrap .u64 x264))) rfl rfl (z3s z94 zbc (oo rfl rfl)) (W.q3 (.int .u64 (z05 .u64 (x213 + (IntKind.wrap .u64 x264)))) rfl rfl (W.q1 (.int .u64 (z05 .u64 (x213 + (IntKind.wrap .u64 x264)))) rfl (.nil (.seq ?_))))))
  refine .region (W.q2 (.int .u64 (z05 .u64 (x213 + (IntKind.wrap .u64 x264)))) rfl (W.q3 (.bool (decide ((z05 .u64 (x213 + (IntKind.wrap .u64 x264))) >= 1000000000))) rfl rfl ?_))
  obtain ⟨x268, e269, h270⟩ := z6b h266
  refine .nil (.cond (b := x268) rfl (congrArg (Value.bool) e269) (fun g271 => ?_) (fun g271 => ?_))
  .have h272 := z03 g271 h270
   refine .exit ?_
   obtain rfl := zAa h272
   exact ⟨z05 .u64 (x212 - 1), _, rfl, O257, (zAe s219 s258), rfl⟩
  have h273 := z0h g271 h270
  refine .skip ?_
  exact ⟨k211, zAg _, ⟨z05 .u64 (x212 - 1), z05 .u64 (x213 + (IntKind.wrap .u64 x264)), _, h273, O257, (zAe s219 s258), rfl, rfl⟩⟩
 refine .draw2 (M := [0, 1, 3, 7, 7, 7, 39, 119, 247, 503, 1023, 7, 2055, 7, 7, 7, 49159, 114695, 253959, 516103, 1040391, 2095111, 4194303, 8388607]) mixed (by kernel_rfl) (by kernel_rfl) fun H226 N230 x227 F229 => ?_
 have O228 := O218.ext x227
 refine D2.q2 _ t221 (D2.q3 (.bool (decide (x212 >= 1000000000))) rfl rfl (D2.q2 (.bool (decide (x212 >= 1000000000))) rfl (D2.splitAt (t := 111) (b := decide (x212 >= 1000000000)) rfl (fun g231 gv232 => ?_) (fun g231 gv232 => ?_))))
 .have h233 := z03 g231 h224
  refine D2.skip (gk rfl rfl gv232 rfl) rfl (D2.skip (gk rfl rfl gv232 rfl) rfl (D2.skip (gk rfl rfl gv232 rfl) rfl (D2.skip (gk rfl rfl gv232 rfl) rfl (D2.skip (gk rfl rfl gv232 rfl) rfl (D2.skip (gk rfl rfl gv232 rfl) rfl (D2.skip (gk rfl rfl gv232 rfl) rfl ?_))))))
  refine D2.skip (gk rfl rfl gv232 rfl) rfl (D2.skip (gk rfl rfl gv232 rfl) rfl (D2.skip (gk rfl rfl gv232 rfl) rfl (D2.skip (gk rfl rfl gv232 rfl) rfl (D2.skip (gk rfl rfl gv232 rfl) rfl (D2.skip (gk rfl rfl gv232 rfl) rfl (D2.skip (gk rfl rfl gv232 rfl) rfl ?_))))))
  refine D2.skip (gk rfl rfl gv232 rfl) rfl (D2.skip (gk rfl rfl gv232 rfl) rfl (D2.skip (gk rfl rfl gv232 rfl) rfl (D2.skip (gk rfl rfl gv232 rfl) rfl (D2.skip (gk rfl rfl gv232 rfl) rfl (D2.skip (gk rfl rfl gv232 rfl) rfl (D2.pure (v := (.bool true)) rfl rfl (zep (oo rfl gv232) (oo rfl rfl)) ?_))))))
  refine .nil ?_
  obtain rfl := zAa h233
  exact ⟨true, _, rfl, O228, (zAf _), rfl⟩
 have h234 := z0h g231 h224
 refine D2.q2 (hg := gk rfl rfl gv232 rfl) _ t221 (D2.q2 (hg := gk rfl rfl gv232 rfl) w96 ((fr216 8 rfl).trans ((fr164 8 rfl).trans ((fr133 8 rfl).trans rfl))) (D2.q2 (hg := gk rfl rfl gv232 rfl) (.int .i64 (List.length x88 : Int)) ((fr216 9 rfl).trans ((fr164 9 rfl).trans rfl)) (D2.q3 (hg := gk rfl rfl gv232 rfl) (.int .i64 (z05 .i64 ((List.length x88 : Int) - 2))) rfl rfl ?_)))
 obtain ⟨x235, i236, h237⟩ := z00 h234
 have j238 := z0g i236
 refine D2.pure (v := (z2t w96 (Int.toNat (z05 .i64 ((List.length x88 : Int) - 2)) * 1))) (gk rfl rfl gv232 rfl) rfl (z3b el63 z40 (oo rfl rfl) (oo rfl rfl) (z0f (RT.mono _ (zAe s167 s219) f154)) j238.1 j238.2.1) (D2.load1' (v := (.int .u32 x235)) (r := []) (gk rfl rfl gv232 rfl) rfl z9o (z0q rfl (At.int (At.le (At.le (z1m f154 j238.2.2) (zAe s167 s219) (zAe s167 s219)) (zAf _) O228.fro))) z02 (D2.pure (v := (.int .u64 (IntKind.wrap .u64 x235))) (gk rfl rfl gv232 rfl) rfl (z3s z94 zbc (oo rfl rfl)) (D2.q3 (hg := gk rfl rfl gv232 rfl) (.int .u64 (z05 .u64 (x212 * (IntKind.wrap .u64 x235)))) rfl rfl (D2.q2 (hg := gk rfl rfl gv232 rfl) _ t222 (D2.q3 (hg := gk rfl rfl gv232 rfl) (.int .u64 (z05 .u64 (x213 * 1000000000))) rfl rfl (D2.q2 (hg := gk rfl rfl gv232 rfl) (σ131 7) ((fr216 7 rfl).trans ((fr164 7 rfl).trans rfl)) ?_))))))
 refine D2.q2 (hg := gk rfl rfl gv232 rfl) _ ((fr216 11 rfl).trans t169) (D2.q2 (hg := gk rfl rfl gv232 rfl) (.int .i64 (List.length x88 : Int)) ((fr216 9 rfl).trans ((fr164 9 rfl).trans rfl)) (D2.q3 (hg := gk rfl rfl gv232 rfl) (.int .i64 (z05 .i64 (x161 + (List.length x88 : Int)))) rfl rfl (D2.q3 (hg := gk rfl rfl gv232 rfl) (.int .i64 (z05 .i64 ((z05 .i64 (x161 + (List.length x88 : Int))) - 2))) rfl rfl ?_)))
 obtain ⟨x239, e240, h241⟩ := z6b h237
 obtain ⟨x242, i243, h244⟩ := z00 h241
 have j245 := z0g i243
 refine D2.pure (v := (z2t (σ131 7) (Int.toNat x239 * 1))) (gk rfl rfl gv232 rfl) rfl (z3b el63 z40 (oo rfl rfl) (oo rfl (congrArg (Value.int .i64) e240)) (O228.slLen (j := 2) rfl) j245.1 j245.2.1) (D2.load1' (v := (.int .u32 x242)) (r := []) (gk rfl rfl gv232 rfl) rfl z9o (z0q rfl (At.int (O228.atSl (j := 2) rfl j245.2.2))) z02 (D2.pure (v := (.int .u64 (IntKind.wrap .u64 x242))) (gk rfl rfl gv232 rfl) rfl (z3s z94 zbc (oo rfl rfl)) (D2.q3 (hg := gk rfl rfl gv232 rfl) (.int .u64 (z05 .u64 ((z05 .u64 (x213 * 1000000000)) + (IntKind.wrap .u64 x242)))) rfl rfl ?_)))
 obtain ⟨x246, e247, h248⟩ := z6b h244
 refine D2.q3 (hg := gk rfl rfl gv232 rfl) (.bool (decide ((z05 .u64 (x212 * (IntKind.wrap .u64 x235))) > x246))) rfl (congrArg (Value.int .u64) e247) ?_
 obtain ⟨x249, e250, h251⟩ := z6b h248
 refine D2.pure (v := (.bool x249)) rfl rfl (zd1 (oo rfl gv232) (oo rfl (congrArg (Value.bool) e250))) (.nil ?_)
 obtain rfl := zAa h251
 exact ⟨x249, _, rfl, O228, (zAf _), rfl⟩
def z14 (K : Nat) : Nat -> List Int -> List Int -> Option (List Int)
  | 0, _, _ => none
  | k + 1, x5, x6 => (if (decide ((List.length x6 : Int) > 0)) = true then ((z43 K x5 x6).bind fun x18 => z14 K k x6 x18.2) else some x5)
def z5p (K : Nat) (p0 : List Int) (p1 : List Int) : Option (List Int) := (Option.bind (z14 K K p0 p1) (tu1 fun x34 => some x34))
theorem z97 (v0 : Value) (p0 : List Int) (hp0 : (rSl (rI .u32)).rep G [v0] p0) (v1 : Value) (p1 : List Int) (hp1 : (rSl (rI .u32)).rep G [v1] p1) (O : Ow G H (L)) (r : List Int) (h : z5p K p0 p1 = some r) :
    CR Tryd.prog 102 [v0, v1] G H (L) (fun v G' _ => ∃ (w0 : Value), w0 = v /\ (rSl (rI .u32)).rep G' [w0] r) := by
 unfold z5p at h
 refine CR.og (n := 19) (fn := Tryd.f102) (by kernel_rfl) rfl rfl fun R kr => (.seq (.region (W.q1 (.slice none 0 0) rfl (.nil (.seq ?_)))))
 obtain ⟨q1, h2, h3⟩ := z00 h
 refine AW.midT (fun σ' H' => ∃ (y1 : List Int) (G' : GM), y1 = q1 /\ Ow G' H' (L) /\ GM.le G G' /\ (rSl (rI .u32)).rep G' [σ' 0] y1) ?_ ?_
 rotate_left
 .rintro σ35 H36 fr37 ⟨x34, G38, rfl, O39, s40, f42⟩
  have h43 := z0d h3
  refine .seq (.region (W.q2 (σ35 0) rfl (W.q1 (σ35 0) rfl (.nil (.ret ?_)))))
  obtain rfl := zAa h43
  exact z16 kr (v1 := (σ35 0)) (by rfl) (z09 (by rfl) (by exact rfl)) O39 s40 ⟨(σ35 0), rfl, f42⟩
 refine .block (AW.loop (α := Nat) (fun k' σ' H' => ∃ (y1 : List Int) (y2 : List Int) (G' : GM), z14 K k' y1 y2 = some q1 /\ Ow G' H' (L) /\ GM.le G G' /\ (rSl (rI .u32)).rep G' [σ' 0] y1 /\ (rSl (rI .u32)).rep G' [σ' 1] y2) (fun k' => k') K ⟨p0, p1, _, h2, O, (zAf _), hp0, hp1⟩ ?_)
 rintro k4
 rintro σ7 H8 fr9 ⟨x5, x6, G10, h13, O11, s12, f14, f15⟩
 rcases k4 with _ | k4
 .exact z0a h13
 rw [z14] at h13
 refine .seq (.seq (.region (W.q2 (σ7 1) rfl (W.pure (v := (.int .i64 (List.length x6 : Int))) rfl rfl (z0p (oo rfl rfl) (z0f f15) (z06 el63)) (W.q3 (.bool (decide ((List.length x6 : Int) > 0))) rfl rfl (.nil ?_))))))
 refine .cond (b := decide ((List.length x6 : Int) > 0)) rfl rfl (fun g16 => ?_) (fun g16 => ?_)
 rotate_left
 .have h33 := z0h g16 h13
  refine .exit ?_
  obtain rfl := zAa h33
  exact ⟨x5, _, rfl, O11, s12, f14⟩
 have h17 := z03 g16 h13
 refine .skip (.block (.seq (.region (W.q2 (σ7 0) rfl (W.q2 (σ7 1) rfl ?_)))))
 obtain ⟨x18, i19, h20⟩ := z00 h17
 refine W.lo rfl rfl (Lo.cP rfl (fn := Tryd.f119) (by kernel_rfl) rfl (mc rfl (mc rfl mn)) O11 (fun L' O' => z75 K (σ7 0) x5 f14 (σ7 1) x6 f15 O' _ i19)) ?_
 rintro v31 H32 ⟨G21, O22, s23, sm30, ⟨w25, w27, rfl, f26, f28⟩⟩
 refine W.q2 (.tuple #[w25, w27]) rfl (W.pure (v := w25) rfl rfl (z08 (oo rfl rfl) rfl) (W.pure (v := w27) rfl rfl (z08 (oo rfl rfl) rfl) (W.q1 w25 rfl (W.q1 w27 rfl (.nil (.region ?_))))))
 refine W.q2 (σ7 1) rfl (W.q2 w27 rfl (W.q1 (σ7 1) rfl (W.q1 w27 rfl (.nil ?_))))
 exact ⟨k4, zAg _, ⟨x6, x18.2, _, h20, O22, (zAe s12 s23), (RT.mono _ s23 f15), f28⟩⟩
def z5q (K : Nat) : Nat -> List Int -> Int -> Option (List Int)
  | 0, _, _ => none
  | k + 1, x6, x7 => (if (decide (x7 > 0)) = true then (if List.length x6 + List.length [IntKind.wrap .u32 (Int.tmod x7 1000000000)] <= 16777216 then z5q K k (x6 ++ [IntKind.wrap .u32 (Int.tmod x7 1000000000)]) (z05 .i64 (Int.tdiv x7 1000000000)) else none) else some x6)
def z5a (K : Nat) (p0 : Int) : Option (List Int) := (Option.bind (z5q K K [] p0) (tu1 fun x33 => some x33))
theorem z44 (p0 : Int) (O : Ow G H (L)) (r : List Int) (h : z5a K p0 = some r) :
    CRF Tryd.prog 97 [(.int .i64 p0)] G H (fun w0 => (eSl w0 145 (rI .u32) r :: L)) (fun w0 v G' => w0 = v) := by
 unfold z5a at h
 refine CRF.og (n := 15) (fn := Tryd.f97) (by kernel_rfl) rfl rfl fun R kr => (.seq (.region (W.q1 (.slice none 0 0) rfl (.nil (.seq (.region ?_))))))
 refine W.q1 (.slice none 0 0) rfl (.nil (.seq ?_))
 obtain ⟨q1, h2, h3⟩ := z00 h
 refine AW.midT (fun σ' H' => ∃ (y1 : List Int) (G' : GM), y1 = q1 /\ Ow G' H' (eSl (σ' 3) 145 (rI .u32) y1 :: L) /\ GM.le G G') ?_ ?_
 rotate_left
 .rintro σ34 H35 fr36 ⟨x33, G37, rfl, O38, s39⟩
  have h41 := z0d h3
  refine .seq (.region (W.q2 (σ34 3) rfl (W.q1 (σ34 3) rfl (.nil (.ret ?_)))))
  obtain rfl := zAa h41
  exact zfp kr (σ34 3) (v1 := (σ34 3)) (by rfl) (z09 (by rfl) (by exact rfl)) O38 s39 rfl
 refine .block ?_
 have O4 := O.nilSl 145 (rI .u32)
 refine AW.loop (α := Nat) (fun k' σ' H' => ∃ (y1 : List Int) (y2 : Int) (G' : GM), z5q K k' y1 y2 = some q1 /\ Ow G' H' (eSl (σ' 3) 145 (rI .u32) y1 :: L) /\ GM.le G G' /\ σ' 0 = .int .i64 y2) (fun k' => k') K ⟨[], p0, _, h2, O4, (zAf _), rfl⟩ ?_
 rintro k5
 rintro σ8 H9 fr10 ⟨x6, x7, G11, h14, O12, s13, t15⟩
 rcases k5 with _ | k5
 .exact z0a h14
 rw [z5q] at h14
 refine .seq (.seq (.region (W.q2 _ t15 (W.q3 (.bool (decide (x7 > 0))) rfl rfl (.nil (.cond (b := decide (x7 > 0)) rfl rfl (fun g16 => ?_) (fun g16 => ?_)))))))
 rotate_left
 .have h32 := z0h g16 h14
  refine .exit ?_
  obtain rfl := zAa h32
  exact ⟨x6, _, rfl, O12, s13⟩
 have h17 := z03 g16 h14
 refine .skip (.block (.seq (.region (W.q2 (σ8 3) rfl (W.q2 _ t15 (W.pure (v := (.int .i64 (Int.tmod x7 1000000000))) rfl rfl (zi9 (by decide) (oo rfl rfl) (oo rfl rfl)) ?_))))))
 refine W.pure (v := (.int .u32 (IntKind.wrap .u32 (Int.tmod x7 1000000000)))) rfl rfl (z3s in3 z94 (oo rfl rfl)) (W.lo rfl rfl (Lo.buildSlice (r := (rI .u32)) (vs := [(.int .u32 (IntKind.wrap .u32 (Int.tmod x7 1000000000)))]) (xs := [IntKind.wrap .u32 (Int.tmod x7 1000000000)]) el63 zbs z40 (by kernel_rfl) rfl (qc rfl qn) rfl (.cons rfl .nil) O12) ?_)
 rintro v20 H21 ⟨O18, sm19⟩
 obtain ⟨es23, e24, e25⟩ := z7r (j := 0) rfl O18
 obtain ⟨g26, h27⟩ := z3c h17
 refine W.lo rfl rfl (Lo.append (j := 1) (v := (σ8 3)) rfl rfl el63 ni63 zbs z40 zh2 (by decide) (by decide) rfl e24 e25 g26 O18) ?_
 rintro v29 H30 ⟨O22, sm28⟩
 refine W.q1 v29 rfl (.nil (.region (W.q2 _ t15 (W.pure (v := (.int .i64 (z05 .i64 (Int.tdiv x7 1000000000)))) rfl rfl (zgr (by decide) (oo rfl rfl) (oo rfl rfl)) (W.q1 (.int .i64 (z05 .i64 (Int.tdiv x7 1000000000))) rfl (.nil ?_))))))
 have O31 : Ow G11 H30 (eSl v29 145 (rI .u32) (x6 ++ [IntKind.wrap .u32 (Int.tmod x7 1000000000)]) :: L) := O22.drop 0
 exact ⟨k5, zAg _, ⟨(x6 ++ [IntKind.wrap .u32 (Int.tmod x7 1000000000)]), z05 .i64 (Int.tdiv x7 1000000000), _, h27, O31, s13, rfl⟩⟩
def z3k (K : Nat) (p0 : zAd) : Option Int := ((z1b K p0 (⟨#[45]⟩ : zAd)).bind fun x1 => ((z3e K x1.1 (⟨#[47]⟩ : zAd)).bind fun x12 => ((z5o K x12.1).bind fun x23 => (Option.bind ((if x12.2.2 = true then ((z5o K x12.2.1).bind fun x39 => some x39) else some 0)) (tu1 fun x51 => (Option.bind ((if (x23 == 5) = true then some true else (if (x51 == 5) = true then some true else (if x1.2 = true then some (sEq x12.1 (⟨#[48]⟩ : zAd)) else some false)))) (tu1 fun x76 => (if x76 = true then some 5 else (Option.bind ((if (x23 != 0) = true then some true else some (x51 != 0))) (tu1 fun x96 => (if x96 = true then some 2 else (Option.bind ((if x12.2.2 = true then (if (sEq x12.2.1 (⟨#[48]⟩ : zAd)) = true then some true else (if (sEq x12.2.1 (⟨#[49]⟩ : zAd)) = true then some true else ((z54 K x12.1).bind fun x123 => ((z54 K x12.2.1).bind fun x136 => ((z5p K x123 x136).bind fun x157 => ((z5a K 1).bind fun x170 => ((z41 K x157 x170).bind fun x183 => some (x183 != 0)))))))) else some false)) (tu1 fun x196 => (if x196 = true then some 3 else some 0))))))))))))))
theorem z5h (p0 : zAd) (O : Ow G H (L)) (r : Int) (h : z3k K p0 = some r) :
    CR Tryd.prog 42 [(.string p0)] G H (L) (fun v G' _ => v = .int .i64 r) := by
 unfold z3k at h
 refine CR.og (n := 64) (fn := Tryd.f42) (by kernel_rfl) rfl rfl fun R kr => (.seq (.region (W.q1 (.int .i64 0) rfl (.nil (.seq (.region ?_))))))
 refine W.q2 (.string p0) rfl ?_
 obtain ⟨x1, i2, h3⟩ := z00 h
 refine W.lo rfl rfl (Lo.cP rfl (fn := Tryd.f94) (by kernel_rfl) rfl (mc rfl (mc rfl mn)) O (fun L' O' => z52 K p0 (⟨#[45]⟩ : zAd) O' _ i2)) ?_
 rintro v10 H11 ⟨G4, O5, s6, sm9, rfl⟩
 refine W.q2 (.tuple #[(.string x1.1), (.bool x1.2)]) rfl (W.pure (v := (.string x1.1)) rfl rfl (z08 (oo rfl rfl) rfl) (W.pure (v := (.bool x1.2)) rfl rfl (z08 (oo rfl rfl) rfl) (W.q1 (.string x1.1) rfl (W.q1 (.bool x1.2) rfl (.nil (.seq ?_))))))
 refine .region (W.q2 (.string x1.1) rfl ?_)
 obtain ⟨x12, i13, h14⟩ := z00 h3
 refine W.lo rfl rfl (Lo.cP rfl (fn := Tryd.f95) (by kernel_rfl) rfl (mc rfl (mc rfl mn)) O5 (fun L' O' => z7s K x1.1 (⟨#[47]⟩ : zAd) O' _ i13)) ?_
 rintro v21 H22 ⟨G15, O16, s17, sm20, rfl⟩
 refine W.q2 (.tuple #[(.string x12.1), (.string x12.2.1), (.bool x12.2.2)]) rfl (W.pure (v := (.string x12.1)) rfl rfl (z08 (oo rfl rfl) rfl) (W.pure (v := (.string x12.2.1)) rfl rfl (z08 (oo rfl rfl) rfl) (W.pure (v := (.bool x12.2.2)) rfl rfl (z08 (oo rfl rfl) rfl) (W.q1 (.string x12.1) rfl (W.q1 (.string x12.2.1) rfl (W.q1 (.bool x12.2.2) rfl ?_))))))
 refine .nil (.seq (.region (W.q2 (.string x12.1) rfl ?_)))
 obtain ⟨x23, i24, h25⟩ := z00 h14
 refine W.lo rfl rfl (Lo.cP rfl (fn := Tryd.f101) (by kernel_rfl) rfl (mc rfl mn) O16 (fun L' O' => z96 K x12.1 O' _ i24)) ?_
 rintro v32 H33 ⟨G26, O27, s28, sm31, rfl⟩
 refine W.q1 (.int .i64 x23) rfl (W.q1 (.int .i64 0) rfl (.nil (.seq (.seq (.region (W.q2 (.bool x12.2.2) rfl ?_))))))
 refine .nil ?_
 obtain ⟨q34, h35, h36⟩ := z00 h25
 refine AW.midT (fun σ' H' => ∃ (y1 : Int) (G' : GM), y1 = q34 /\ Ow G' H' (L) /\ GM.le G26 G' /\ σ' 9 = .int .i64 y1) ?_ ?_
 .refine .cond (b := x12.2.2) rfl rfl (fun g37 => ?_) (fun g37 => ?_)
  rotate_left
  .have h50 := z0h g37 h35
   refine .skip ?_
   obtain rfl := zAa h50
   exact ⟨0, _, rfl, O27, (zAf _), rfl⟩
  have h38 := z03 g37 h35
  refine .region (W.q2 (.string x12.2.1) rfl ?_)
  obtain ⟨x39, i40, h41⟩ := z00 h38
  refine W.lo rfl rfl (Lo.cP rfl (fn := Tryd.f101) (by kernel_rfl) rfl (mc rfl mn) O27 (fun L' O' => z96 K x12.2.1 O' _ i40)) ?_
  rintro v48 H49 ⟨G42, O43, s44, sm47, rfl⟩
  refine W.q1 (.int .i64 x39) rfl (.nil ?_)
  obtain rfl := zAa h41
  exact ⟨x39, _, rfl, O43, s44, rfl⟩
 rintro σ52 H53 fr54 ⟨x51, G55, rfl, O56, s57, t59⟩
 have h60 := z0d h36
 refine .seq (.seq ?_)
 obtain ⟨q61, h62, h63⟩ := z00 h60
 refine AW.midT (fun σ' H' => ∃ (y1 : Bool) (G' : GM), y1 = q61 /\ Ow G' H' (L) /\ GM.le G55 G' /\ σ' 38 = .bool y1) ?_ ?_
 .refine .region (W.q2 (.int .i64 x23) ((fr54 8 rfl).trans rfl) (W.q3 (.bool (x23 == 5)) rfl rfl (W.q2 (.bool (x23 == 5)) rfl (W.splitAt (t := 28) (b := (x23 == 5)) rfl (fun g64 gv65 => ?_) (fun g64 gv65 => ?_)))))
  .have h66 := z03 g64 h62
   refine W.q6 rfl gv65 (W.q6 rfl gv65 (W.q4 (.bool true) gv65 rfl (W.q2 (.bool true) rfl (W.q6 rfl rfl (W.q6 rfl rfl (W.skipU rfl rfl rfl rfl ?_))))))
   refine W.skipU rfl rfl rfl rfl (W.q6 rfl rfl (W.q4 (.bool true) rfl rfl (.nil ?_)))
   obtain rfl := zAa h66
   exact ⟨true, _, rfl, O56, (zAf _), rfl⟩
  have h67 := z0h g64 h62
  refine W.q2 (hg := gk rfl rfl gv65 rfl) _ t59 (W.q3 (hg := gk rfl rfl gv65 rfl) (.bool (x51 == 5)) rfl rfl (W.q5 (.bool (x51 == 5)) gv65 rfl (W.q2 (.bool (x51 == 5)) rfl (W.splitAt (t := 32) (b := (x51 == 5)) rfl (fun g68 gv69 => ?_) (fun g68 gv69 => ?_)))))
  .have h70 := z03 g68 h67
   refine W.q6 rfl gv69 (W.q6 rfl gv69 (W.skipU rfl rfl rfl rfl (W.skipU rfl rfl rfl rfl (W.q6 rfl gv69 (W.q4 (.bool true) gv69 rfl (.nil ?_))))))
   obtain rfl := zAa h70
   exact ⟨true, _, rfl, O56, (zAf _), rfl⟩
  have h71 := z0h g68 h67
  refine W.q2 (hg := gk rfl rfl gv69 rfl) (.bool x1.2) ((fr54 4 rfl).trans rfl) (W.q2 (hg := gk rfl rfl gv69 rfl) (.bool x1.2) rfl (W.splitAt (t := 34) (b := x1.2) rfl (fun g72 gv73 => ?_) (fun g72 gv73 => ?_)))
  rotate_left
  .have h75 := z0h g72 h71
   refine W.q6 rfl gv73 (W.q6 rfl gv73 (W.q5 (hg := gk rfl rfl gv69 rfl) (.bool false) gv73 rfl (W.q5 (.bool false) gv69 rfl (.nil ?_))))
   obtain rfl := zAa h75
   exact ⟨false, _, rfl, O56, (zAf _), rfl⟩
  have h74 := z03 g72 h71
  refine W.q2 (hg := gk rfl rfl gv73 rfl) (.string x12.1) ((fr54 5 rfl).trans rfl) (W.pure (v := (.bool (sEq x12.1 (⟨#[48]⟩ : zAd)))) (gk rfl rfl gv73 rfl) rfl (z6c (oo rfl rfl) (oo rfl rfl)) (W.q4 (hg := gk rfl rfl gv69 rfl) (.bool (sEq x12.1 (⟨#[48]⟩ : zAd))) gv73 rfl (W.q5 (.bool (sEq x12.1 (⟨#[48]⟩ : zAd))) gv69 rfl (.nil ?_))))
  obtain rfl := zAa h74
  exact ⟨sEq x12.1 (⟨#[48]⟩ : zAd), _, rfl, O56, (zAf _), rfl⟩
 rintro σ77 H78 fr79 ⟨x76, G80, rfl, O81, s82, t84⟩
 have h85 := z0d h63
 refine .cond (b := x76) rfl t84 (fun g86 => ?_) (fun g86 => ?_)
 .have h87 := z03 g86 h85
  refine .seq (.region (W.q1 (.int .i64 5) rfl (.nil (.ret ?_))))
  obtain rfl := zAa h87
  exact z16 kr (v1 := (.int .i64 5)) (by rfl) (z09 (by rfl) (by exact rfl)) O81 (zAe s6 (zAe s17 (zAe s28 (zAe s57 s82)))) rfl
 have h88 := z0h g86 h85
 refine .skip (.seq (.seq ?_))
 obtain ⟨q89, h90, h91⟩ := z00 h88
 refine AW.midT (fun σ' H' => ∃ (y1 : Bool) (G' : GM), y1 = q89 /\ Ow G' H' (L) /\ GM.le G80 G' /\ σ' 44 = .bool y1) ?_ ?_
 .refine .region (W.q2 (.int .i64 x23) ((fr79 8 rfl).trans ((fr54 8 rfl).trans rfl)) (W.q3 (.bool (x23 != 0)) rfl rfl (W.q2 (.bool (x23 != 0)) rfl (W.splitAt (t := 41) (b := (x23 != 0)) rfl (fun g92 gv93 => ?_) (fun g92 gv93 => ?_)))))
  .have h94 := z03 g92 h90
   refine W.q6 rfl gv93 (W.q6 rfl gv93 (W.q4 (.bool true) gv93 rfl (.nil ?_)))
   obtain rfl := zAa h94
   exact ⟨true, _, rfl, O81, (zAf _), rfl⟩
  have h95 := z0h g92 h90
  refine W.q2 (hg := gk rfl rfl gv93 rfl) _ ((fr79 9 rfl).trans t59) (W.q3 (hg := gk rfl rfl gv93 rfl) (.bool (x51 != 0)) rfl rfl (W.q5 (.bool (x51 != 0)) gv93 rfl (.nil ?_)))
  obtain rfl := zAa h95
  exact ⟨(x51 != 0), _, rfl, O81, (zAf _), rfl⟩
 rintro σ97 H98 fr99 ⟨x96, G100, rfl, O101, s102, t104⟩
 have h105 := z0d h91
 refine .cond (b := x96) rfl t104 (fun g106 => ?_) (fun g106 => ?_)
 .have h107 := z03 g106 h105
  refine .seq (.region (W.q1 (.int .i64 2) rfl (.nil (.ret ?_))))
  obtain rfl := zAa h107
  exact z16 kr (v1 := (.int .i64 2)) (by rfl) (z09 (by rfl) (by exact rfl)) O101 (zAe s6 (zAe s17 (zAe s28 (zAe s57 (zAe s82 s102))))) rfl
 have h108 := z0h g106 h105
 refine .skip (.seq (.seq ?_))
 obtain ⟨q109, h110, h111⟩ := z00 h108
 refine AW.midT (fun σ' H' => ∃ (y1 : Bool) (G' : GM), y1 = q109 /\ Ow G' H' (L) /\ GM.le G100 G' /\ σ' 63 = .bool y1) ?_ ?_
 rotate_left
 .rintro σ197 H198 fr199 ⟨x196, G200, rfl, O201, s202, t204⟩
  have h205 := z0d h111
  refine .cond (b := x196) rfl t204 (fun g206 => ?_) (fun g206 => ?_)
  .have h207 := z03 g206 h205
   refine .seq (.region (W.q1 (.int .i64 3) rfl (.nil (.ret ?_))))
   obtain rfl := zAa h207
   exact z16 kr (v1 := (.int .i64 3)) (by rfl) (z09 (by rfl) (by exact rfl)) O201 (zAe s6 (zAe s17 (zAe s28 (zAe s57 (zAe s82 (zAe s102 s202)))))) rfl
  have h208 := z0h g206 h205
  refine .skip (.seq (.region (W.q1 (.int .i64 0) rfl (.nil (.ret ?_)))))
  obtain rfl := zAa h208
  exact z16 kr (v1 := (.int .i64 0)) (by rfl) (z09 (by rfl) (by exact rfl)) O201 (zAe s6 (zAe s17 (zAe s28 (zAe s57 (zAe s82 (zAe s102 s202)))))) rfl
 refine .region (W.q2 (.bool x12.2.2) ((fr99 7 rfl).trans ((fr79 7 rfl).trans ((fr54 7 rfl).trans rfl))) (W.q2 (.bool x12.2.2) rfl (W.splitAt (t := 46) (b := x12.2.2) rfl (fun g112 gv113 => ?_) (fun g112 gv113 => ?_))))
 rotate_left
 .have h195 := z0h g112 h110
  refine W.q6 rfl gv113 (W.q6 rfl gv113 (W.q6 rfl gv113 (W.skipU rfl rfl rfl rfl (W.skipU rfl rfl rfl rfl (W.q6 rfl gv113 (W.q6 rfl gv113 ?_))))))
  refine W.skipU rfl rfl rfl rfl (W.skipU rfl rfl rfl rfl (W.skipU rfl rfl rfl rfl (W.skipU rfl rfl rfl rfl (W.skipU rfl rfl rfl rfl (W.skipU rfl rfl rfl rfl (W.skipU rfl rfl rfl rfl ?_))))))
  refine W.skipU rfl rfl rfl rfl (W.q6 rfl gv113 (W.q5 (.bool false) gv113 rfl (.nil ?_)))
  obtain rfl := zAa h195
  exact ⟨false, _, rfl, O101, (zAf _), rfl⟩
 have h114 := z03 g112 h110
 refine W.q2 (hg := gk rfl rfl gv113 rfl) (.string x12.2.1) ((fr99 6 rfl).trans ((fr79 6 rfl).trans ((fr54 6 rfl).trans rfl))) (W.pure (v := (.bool (sEq x12.2.1 (⟨#[48]⟩ : zAd)))) (gk rfl rfl gv113 rfl) rfl (z6c (oo rfl rfl) (oo rfl rfl)) (W.q2 (hg := gk rfl rfl gv113 rfl) (.bool (sEq x12.2.1 (⟨#[48]⟩ : zAd))) rfl (W.splitAt (t := 49) (b := sEq x12.2.1 (⟨#[48]⟩ : zAd)) rfl (fun g115 gv116 => ?_) (fun g115 gv116 => ?_))))
 .have h117 := z03 g115 h114
  refine W.q6 rfl gv116 (W.q6 rfl gv116 (W.q4 (hg := gk rfl rfl gv113 rfl) (.bool true) gv116 rfl (W.q2 (hg := gk rfl rfl gv113 rfl) (.bool true) rfl (W.q6 rfl rfl (W.q6 rfl rfl (W.q6 rfl rfl ?_))))))
  refine W.q6 rfl rfl (W.q6 rfl rfl (W.q6 rfl rfl (W.q6 rfl rfl (W.q6 rfl rfl (W.q4 (hg := gk rfl rfl gv113 rfl) (.bool true) rfl rfl (W.q4 (.bool true) gv113 rfl ?_))))))
  refine .nil ?_
  obtain rfl := zAa h117
  exact ⟨true, _, rfl, O101, (zAf _), rfl⟩
 have h118 := z0h g115 h114
 refine W.q2 (hg := gk rfl rfl gv116 rfl) (.string x12.2.1) ((fr99 6 rfl).trans ((fr79 6 rfl).trans ((fr54 6 rfl).trans rfl))) (W.pure (v := (.bool (sEq x12.2.1 (⟨#[49]⟩ : zAd)))) (gk rfl rfl gv116 rfl) rfl (z6c (oo rfl rfl) (oo rfl rfl)) (W.q5 (hg := gk rfl rfl gv113 rfl) (.bool (sEq x12.2.1 (⟨#[49]⟩ : zAd))) gv116 rfl (W.q2 (hg := gk rfl rfl gv113 rfl) (.bool (sEq x12.2.1 (⟨#[49]⟩ : zAd))) rfl (W.splitAt (t := 53) (b := sEq x12.2.1 (⟨#[49]⟩ : zAd)) rfl (fun g119 gv120 => ?_) (fun g119 gv120 => ?_)))))
 .have h121 := z03 g119 h118
  refine W.q6 rfl gv120 (W.q6 rfl gv120 (W.q6 rfl gv120 (W.q6 rfl gv120 (W.q6 rfl gv120 (W.q6 rfl gv120 (W.q6 rfl gv120 ?_))))))
  refine W.q6 rfl gv120 (W.q4 (hg := gk rfl rfl gv113 rfl) (.bool true) gv120 rfl (W.q4 (.bool true) gv113 rfl (.nil ?_)))
  obtain rfl := zAa h121
  exact ⟨true, _, rfl, O101, (zAf _), rfl⟩
 have h122 := z0h g119 h118
 refine W.q2 (hg := gk rfl rfl gv120 rfl) (.string x12.1) ((fr99 5 rfl).trans ((fr79 5 rfl).trans ((fr54 5 rfl).trans rfl))) ?_
 obtain ⟨x123, i124, h125⟩ := z00 h122
 refine W.lo (gk rfl rfl gv120 rfl) rfl (Lo.callPF (ps := []) (pw := fun w => [eSl w 145 (rI .u32) x123]) rfl (fn := Tryd.f96) (by kernel_rfl) rfl (mc rfl mn) O101 (fun L' O' => z64 K x12.1 O' _ i124)) ?_
 rintro v134 H135 ⟨w131, G126, O127, s128, sm133, rfl⟩
 refine W.q2 (hg := gk rfl rfl gv120 rfl) (.string x12.2.1) ((fr99 6 rfl).trans ((fr79 6 rfl).trans ((fr54 6 rfl).trans rfl))) ?_
 obtain ⟨x136, i137, h138⟩ := z00 h125
 refine W.lo (gk rfl rfl gv120 rfl) rfl (Lo.callPF (ps := []) (pw := fun w => [eSl w 145 (rI .u32) x136]) rfl (fn := Tryd.f96) (by kernel_rfl) rfl (mc rfl mn) O127 (fun L' O' => z64 K x12.2.1 O' _ i137)) ?_
 rintro v147 H148 ⟨w144, G139, O140, s141, sm146, rfl⟩
 obtain ⟨G149, O150, s151, f152⟩ := O140.frzSl (j := 1) rfl
 obtain ⟨G153, O154, s155, f156⟩ := O150.frzSl (j := 0) rfl
 obtain ⟨x157, i158, h159⟩ := z00 h138
 refine W.lo (gk rfl rfl gv120 rfl) rfl (Lo.cP rfl (fn := Tryd.f102) (by kernel_rfl) rfl (mc rfl (mc rfl mn)) O154 (fun L' O' => z97 K w131 x123 (RT.mono _ s155 f152) w144 x136 f156 O' _ i158)) ?_
 rintro v168 H169 ⟨G160, O161, s162, sm167, ⟨w164, rfl, f165⟩⟩
 obtain ⟨x170, i171, h172⟩ := z00 h159
 refine W.lo (gk rfl rfl gv120 rfl) rfl (Lo.callPF (ps := []) (pw := fun w => [eSl w 145 (rI .u32) x170]) rfl (fn := Tryd.f97) (by kernel_rfl) rfl (mc rfl mn) O161 (fun L' O' => z44 K 1 O' _ i171)) ?_
 rintro v181 H182 ⟨w178, G173, O174, s175, sm180, rfl⟩
 obtain ⟨x183, i184, h185⟩ := z00 h172
 refine W.lo (gk rfl rfl gv120 rfl) rfl (Lo.callB (j := 0) rfl rfl (fn := Tryd.f91) (by kernel_rfl) rfl (mc rfl (mc rfl mn)) O174 (fun G' L' hG O' hB => z5g K w164 x157 (RT.mono _ hG (RT.mono _ s175 f165)) w178 x170 hB O' _ i184)) ?_
 rintro v192 H193 ⟨G186, O187, s188, sm191, rfl⟩
 refine W.q3 (hg := gk rfl rfl gv120 rfl) (.bool (x183 != 0)) rfl rfl (W.q5 (hg := gk rfl rfl gv113 rfl) (.bool (x183 != 0)) gv120 rfl (W.q4 (.bool (x183 != 0)) gv113 rfl (.nil ?_)))
 have O194 : Ow G186 H193 (L) := O187.drop 0
 obtain rfl := zAa h185
 exact ⟨(x183 != 0), _, rfl, O194, (zAe s128 (zAe s141 (zAe s151 (zAe s155 (zAe s162 (zAe s175 s188)))))), rfl⟩
structure Q where
  neg : Bool
  num : List Int
  den : List Int
  deriving DecidableEq, Inhabited
def T_Q : RT Q := rIso (rP rB (rP (rSl (rI .u32)) (rSl (rI .u32)))) (fun s : Q => (s.neg, s.num, s.den))
theorem z_Q (G : GM) : T_Q.rep G ([.bool false] ++ ([.slice none 0 0] ++ [.slice none 0 0])) ((Q.mk false ([] : List Int) ([] : List Int))) := ⟨_, _, rfl, zB G, ⟨_, _, rfl, zL G, (zL G)⟩⟩
theorem z7f : Proj T_Q 0 rB (fun x => x.neg) := by
  have h := (Proj.iso (rP rB (rP (rSl (rI .u32)) (rSl (rI .u32)))) (fun s : Q => (s.neg, s.num, s.den))).comp (Proj.fst _ _)
  exact h
theorem zla : Put T_Q 0 rB (fun x y => { x with neg := y }) := by
  have h := Put.comp (Proj.iso (rP rB (rP (rSl (rI .u32)) (rSl (rI .u32)))) (fun s : Q => (s.neg, s.num, s.den))) (Put.iso (rP rB (rP (rSl (rI .u32)) (rSl (rI .u32)))) (fun s : Q => (s.neg, s.num, s.den)) (fun _ q => ⟨q.1, q.2.1, q.2.2⟩) (fun _ _ => rfl)) (Put.fst _ _)
  exact h
theorem z4l : Proj T_Q 1 (rSl (rI .u32)) (fun x => x.num) := by
  have h := (Proj.iso (rP rB (rP (rSl (rI .u32)) (rSl (rI .u32)))) (fun s : Q => (s.neg, s.num, s.den))).comp ((Proj.snd _ _).comp (Proj.fst _ _))
  exact h
theorem zjp : Put T_Q 1 (rSl (rI .u32)) (fun x y => { x with num := y }) := by
  have h := Put.comp (Proj.iso (rP rB (rP (rSl (rI .u32)) (rSl (rI .u32)))) (fun s : Q => (s.neg, s.num, s.den))) (Put.iso (rP rB (rP (rSl (rI .u32)) (rSl (rI .u32)))) (fun s : Q => (s.neg, s.num, s.den)) (fun _ q => ⟨q.1, q.2.1, q.2.2⟩) (fun _ _ => rfl)) (Put.comp (Proj.snd _ _) (Put.snd _ _) (Put.fst _ _))
  exact h
theorem zew : Proj T_Q 2 (rSl (rI .u32)) (fun x => x.den) := by
  have h := (Proj.iso (rP rB (rP (rSl (rI .u32)) (rSl (rI .u32)))) (fun s : Q => (s.neg, s.num, s.den))).comp ((Proj.snd _ _).comp ((Proj.snd _ _).comp (Proj.self _)))
  exact h
theorem zh6 : Put T_Q 2 (rSl (rI .u32)) (fun x y => { x with den := y }) := by
  have h := Put.comp (Proj.iso (rP rB (rP (rSl (rI .u32)) (rSl (rI .u32)))) (fun s : Q => (s.neg, s.num, s.den))) (Put.iso (rP rB (rP (rSl (rI .u32)) (rSl (rI .u32)))) (fun s : Q => (s.neg, s.num, s.den)) (fun _ q => ⟨q.1, q.2.1, q.2.2⟩) (fun _ _ => rfl)) (Put.comp (Proj.snd _ _) (Put.snd _ _) (Put.comp (Proj.snd _ _) (Put.snd _ _) (Put.self _)))
  exact h
theorem z98 {G : GM} (v0 : Value) {x0 : Bool} (v1 : Value) {x1 : List Int} (v2 : Value) {x2 : List Int} (h0 : rB.rep G v0.cells.toList x0) (h1 : (rSl (rI .u32)).rep G v1.cells.toList x1) (h2 : (rSl (rI .u32)).rep G v2.cells.toList x2) : ∃ cs : List Value, (∀ {s : List Value} {d : Tmp} {ty : TypeId} {pos : String} {af : Array Edge} {g : Option (Nat × Bool)} {ps : Array (Nat × Operand)}, zds s ps.toList = some [(0, v0), (1, v1), (2, v2)] -> z1t Tryd.prog s ⟨some d, .build 65 ps, ty, pos, af, g⟩ = some (.agg (List.toArray cs))) /\ T_Q.rep G cs (Q.mk x0 x1 x2) := by
  have k0 := (zla G _ _ _ _ (z_Q G) h0).1
  have k1 := (zjp G _ _ _ _ (k0) h1).1
  have k2 := (zh6 G _ _ _ _ (k1) h2).1
  refine ⟨_, fun {s d ty pos af g ps} hps => zar pl65 ze65 zo65 hps ?_, k2⟩
  refine (z5w (off := 0) (sz := 1) (cs := _) rfl (RT.len _ h0) (Nat.le_trans (Nat.le_of_ble_eq_true (m := 3) rfl) (Nat.le_of_eq (RT.len _ (z_Q G)).symm))).trans ?_
  refine (z5w (off := 1) (sz := 1) (cs := _) rfl (RT.len _ h1) (Nat.le_trans (Nat.le_of_ble_eq_true (m := 3) rfl) (Nat.le_of_eq (RT.len _ (k0)).symm))).trans ?_
  refine (z5w (off := 2) (sz := 1) (cs := _) rfl (RT.len _ h2) (Nat.le_trans (Nat.le_of_ble_eq_true (m := 3) rfl) (Nat.le_of_eq (RT.len _ (k1)).symm))).trans ?_
  rfl
def z1y (K : Nat) (p0 : zAd) : Option Q := ((z1b K p0 (⟨#[45]⟩ : zAd)).bind fun x6 => ((z3e K x6.1 (⟨#[47]⟩ : zAd)).bind fun x17 => ((z54 K x17.1).bind fun x28 => ((z5a K 1).bind fun x41 => (Option.bind ((if x17.2.2 = true then ((z54 K x17.2.1).bind fun x79 => some ({ (Q.mk x6.2 x28 x41) with den := x79 })) else some (Q.mk x6.2 x28 x41))) (tu1 fun x101 => some x101))))))
theorem z0w (p0 : zAd) (O : Ow G H (L)) (r : Q) (h : z1y K p0 = some r) :
    CR Tryd.prog 36 [(.string p0)] G H (L) (fun v G' _ => ∃ (w0 : List Value), v = .agg (List.toArray w0) /\ T_Q.rep G' w0 r) := by
 unfold z1y at h
 refine CR.og (n := 30) (fn := Tryd.f36) (by kernel_rfl) rfl rfl fun R kr => (.seq (.region (W.lo rfl rfl (Lo.alloc (r := T_Q) (x0 := (Q.mk false ([] : List Int) ([] : List Int))) ze65 (by kernel_rfl) z_Q O) ?_)))
 rintro v4 H5 ⟨b2, rfl, O1, sm3⟩
 refine .nil (.seq (.region (W.q2 (.string p0) rfl ?_)))
 obtain ⟨x6, i7, h8⟩ := z00 h
 refine W.lo rfl rfl (Lo.cP rfl (fn := Tryd.f94) (by kernel_rfl) rfl (mc rfl (mc rfl mn)) O1 (fun L' O' => z52 K p0 (⟨#[45]⟩ : zAd) O' _ i7)) ?_
 rintro v15 H16 ⟨G9, O10, s11, sm14, rfl⟩
 refine W.q2 (.tuple #[(.string x6.1), (.bool x6.2)]) rfl (W.pure (v := (.string x6.1)) rfl rfl (z08 (oo rfl rfl) rfl) (W.pure (v := (.bool x6.2)) rfl rfl (z08 (oo rfl rfl) rfl) (W.q1 (.string x6.1) rfl (W.q1 (.bool x6.2) rfl (.nil (.seq ?_))))))
 refine .region (W.q2 (.string x6.1) rfl ?_)
 obtain ⟨x17, i18, h19⟩ := z00 h8
 refine W.lo rfl rfl (Lo.cP rfl (fn := Tryd.f95) (by kernel_rfl) rfl (mc rfl (mc rfl mn)) O10 (fun L' O' => z7s K x6.1 (⟨#[47]⟩ : zAd) O' _ i18)) ?_
 rintro v26 H27 ⟨G20, O21, s22, sm25, rfl⟩
 refine W.q2 (.tuple #[(.string x17.1), (.string x17.2.1), (.bool x17.2.2)]) rfl (W.pure (v := (.string x17.1)) rfl rfl (z08 (oo rfl rfl) rfl) (W.pure (v := (.string x17.2.1)) rfl rfl (z08 (oo rfl rfl) rfl) (W.pure (v := (.bool x17.2.2)) rfl rfl (z08 (oo rfl rfl) rfl) (W.q1 (.string x17.1) rfl (W.q1 (.string x17.2.1) rfl (W.q1 (.bool x17.2.2) rfl ?_))))))
 refine .nil (.seq (.region (W.q2 (.bool x6.2) rfl (W.q2 (.string x17.1) rfl ?_))))
 obtain ⟨x28, i29, h30⟩ := z00 h19
 refine W.lo rfl rfl (Lo.callPF (ps := []) (pw := fun w => [eSl w 145 (rI .u32) x28]) rfl (fn := Tryd.f96) (by kernel_rfl) rfl (mc rfl mn) O21 (fun L' O' => z64 K x17.1 O' _ i29)) ?_
 rintro v39 H40 ⟨w36, G31, O32, s33, sm38, rfl⟩
 obtain ⟨x41, i42, h43⟩ := z00 h30
 refine W.lo rfl rfl (Lo.callPF (ps := []) (pw := fun w => [eSl w 145 (rI .u32) x41]) rfl (fn := Tryd.f97) (by kernel_rfl) rfl (mc rfl mn) O32 (fun L' O' => z44 K 1 O' _ i42)) ?_
 rintro v52 H53 ⟨w49, G44, O45, s46, sm51, rfl⟩
 obtain ⟨G54, O55, s56, f57⟩ := O45.frzSl (j := 1) rfl
 obtain ⟨G58, O59, s60, f61⟩ := O55.frzSl (j := 0) rfl
 obtain ⟨c62, e64, f63⟩ := z98 ((.bool x6.2)) (w36) (w49) (rfl) ((z4c (RT.mono _ s60 f57))) ((z4c f61))
 refine W.pure (v := .agg (List.toArray c62)) rfl rfl (e64 (z3p rfl (qc' rfl (qc' rfl (qc' rfl qn'))))) (W.lo rfl rfl (Lo.alloc (r := T_Q) (x0 := (Q.mk false ([] : List Int) ([] : List Int))) ze65 (by kernel_rfl) z_Q O59) ?_)
 rintro v68 H69 ⟨b66, rfl, O65, sm67⟩
 refine W.lo rfl rfl (Lo.storeVar (j := 0) (s := T_Q) (y0 := (Q.mk x6.2 x28 x41)) (v := (.agg (List.toArray c62))) (o := 0) rfl ((Put.at (Put.self _) _ _)) rfl sz65 rfl (by omega) rfl f63 O65) ?_
 rintro v72 H73 ⟨O70, sm71⟩
 refine .nil (.seq (.seq (.region (W.q2 (.bool x17.2.2) rfl (.nil ?_)))))
 obtain ⟨q74, h75, h76⟩ := z00 h43
 refine AW.midT (fun σ' H' => ∃ (y1 : Q) (G' : GM), y1 = q74 /\ Ow G' H' (eVar b66 65 T_Q y1 :: eVar b2 65 T_Q (Q.mk false ([] : List Int) ([] : List Int)) :: L) /\ GM.le G58 G') ?_ ?_
 rotate_left
 .rintro σ102 H103 fr104 ⟨x101, G105, rfl, O106, s107⟩
  have h109 := z0d h76
  refine .seq (.region ?_)
  obtain ⟨c110, p111, f112⟩ := (O106.atVar (j := 0) rfl)
  refine W.loadA (cs := c110) rfl rfl ag65 sz65 (z0q ((fr104 8 rfl).trans rfl) p111) (RT.len _ f112) (W.lo rfl rfl (Lo.storeVar (j := 1) (s := T_Q) (y0 := x101) (v := (.agg (List.toArray c110))) (o := 0) rfl ((Put.at (Put.self _) _ _)) rfl sz65 ((fr104 2 rfl).trans rfl) (by omega) rfl f112 O106) ?_)
  rintro v115 H116 ⟨O113, sm114⟩
  refine .nil (.ret ?_)
  obtain ⟨c117, p118, f119⟩ := (O113.atVar (j := 1) rfl)
  have O120 : Ow G105 H116 (eVar b2 65 T_Q x101 :: L) := O113.drop 0
  have O121 : Ow G105 H116 (L) := O120.drop 0
  obtain rfl := zAa h109
  exact z16 kr (v1 := (.agg (List.toArray c117))) (by rfl) (z2d (p := (.pointer (some ⟨b2, 0, none⟩))) (by rfl) ag65 sz65 (by exact ((fr104 2 rfl).trans rfl)) p118 (RT.len _ f119)) O121 (zAe s11 (zAe s22 (zAe s33 (zAe s46 (zAe s56 (zAe s60 s107)))))) ⟨c117, rfl, f119⟩
 refine .cond (b := x17.2.2) rfl rfl (fun g77 => ?_) (fun g77 => ?_)
 rotate_left
 .have h100 := z0h g77 h75
  refine .skip ?_
  obtain rfl := zAa h100
  exact ⟨(Q.mk x6.2 x28 x41), _, rfl, O70, (zAf _)⟩
 have h78 := z03 g77 h75
 refine .region (W.q2 (.string x17.2.1) rfl ?_)
 obtain ⟨x79, i80, h81⟩ := z00 h78
 refine W.lo rfl rfl (Lo.callPF (ps := []) (pw := fun w => [eSl w 145 (rI .u32) x79]) rfl (fn := Tryd.f96) (by kernel_rfl) rfl (mc rfl mn) O70 (fun L' O' => z64 K x17.2.1 O' _ i80)) ?_
 rintro v90 H91 ⟨w87, G82, O83, s84, sm89, rfl⟩
 refine W.pure (v := (padd (.pointer (some ⟨b66, 0, none⟩)) 2)) rfl rfl (z3d zh1 (oo rfl rfl) (O83.atVar (j := 1) rfl)) ?_
 obtain ⟨G92, O93, s94, f95⟩ := O83.frzSl (j := 0) rfl
 refine W.lo rfl rfl (Lo.storeVar (j := 0) (s := (rSl (rI .u32))) (y0 := x79) (v := w87) (o := 2) rfl ((Put.at zh6 _ _)) rfl sz63 rfl (by omega) rfl (z4c f95) O93) ?_
 rintro v98 H99 ⟨O96, sm97⟩
 refine .nil ?_
 obtain rfl := zAa h81
 exact ⟨{ (Q.mk x6.2 x28 x41) with den := x79 }, _, rfl, O96, (zAe s84 s94)⟩
def z4n (K : Nat) (p0 : Q) : Option Int := (if ((List.length p0.num : Int) == 0) = true then some 0 else (if p0.neg = true then some (-1) else some 1))
theorem z8f (v0 : List Value) (p0 : Q) (hp0 : T_Q.rep G v0 p0) (O : Ow G H (L)) (r : Int) (h : z4n K p0 = some r) :
    CR Tryd.prog 79 [.agg (List.toArray v0)] G H (L) (fun v G' _ => v = .int .i64 r) := by
 unfold z4n at h
 refine CR.og (n := 11) (fn := Tryd.f79) (by kernel_rfl) rfl rfl fun R kr => (.seq (.region (W.lo rfl rfl (Lo.box (r := T_Q) (x0 := p0) (v := (.agg (List.toArray v0))) rfl rfl hp0 O) ?_)))
 rintro v4 H5 ⟨b2, rfl, O1, sm3⟩
 refine W.q1 (.int .i64 0) rfl (.nil (.seq (.block (.seq (.region (W.pure (v := (padd (.pointer (some ⟨b2, 0, none⟩)) 1)) rfl rfl (z3d z7j (oo rfl rfl) (O1.atVar (j := 0) rfl)) ?_))))))
 obtain ⟨w6, p7, f8⟩ := At.sl (At.proj (O1.atVar (j := 0) rfl) z4l)
 refine W.load1 (v := w6) (r := []) rfl rfl ag63 (z0q rfl p7) (W.pure (v := (.int .i64 (List.length p0.num : Int))) rfl rfl (z0p (oo rfl rfl) (z0f f8) (z06 el63)) (W.q3 (.bool ((List.length p0.num : Int) == 0)) rfl rfl (W.q1 (.bool ((List.length p0.num : Int) == 0)) rfl (.nil (.cond (b := ((List.length p0.num : Int) == 0)) rfl rfl (fun g9 => ?_) (fun g9 => ?_))))))
 .have h10 := z03 g9 h
  refine .seq (.region (W.q1 (.int .i64 0) rfl (.nil (.ret ?_))))
  have O11 : Ow G H5 (L) := O1.drop 0
  obtain rfl := zAa h10
  exact z16 kr (v1 := (.int .i64 0)) (by rfl) (z09 (by rfl) (by exact rfl)) O11 (zAf _) rfl
 have h12 := z0h g9 h
 refine .seq (.region (W.pure (v := (padd (.pointer (some ⟨b2, 0, none⟩)) 0)) rfl rfl (z3d za7 (oo rfl rfl) (O1.atVar (j := 0) rfl)) (W.load1 (v := (.bool p0.neg)) (r := []) rfl rfl ag4 (z0q rfl (At.bool (At.proj (O1.atVar (j := 0) rfl) z7f))) (W.q1 (.bool p0.neg) rfl (.nil (.cond (b := p0.neg) rfl rfl (fun g13 => ?_) (fun g13 => ?_)))))))
 .have h14 := z03 g13 h12
  refine .seq (.region (W.q1 (.int .i64 (-1)) rfl (.nil (.ret ?_))))
  have O15 : Ow G H5 (L) := O1.drop 0
  obtain rfl := zAa h14
  exact z16 kr (v1 := (.int .i64 (-1))) (by rfl) (z09 (by rfl) (by exact rfl)) O15 (zAf _) rfl
 have h16 := z0h g13 h12
 refine .skip (.seq (.region (W.q1 (.int .i64 1) rfl (.nil (.ret ?_)))))
 have O17 : Ow G H5 (L) := O1.drop 0
 obtain rfl := zAa h16
 exact z16 kr (v1 := (.int .i64 1)) (by rfl) (z09 (by rfl) (by exact rfl)) O17 (zAf _) rfl
def z3g (K : Nat) (p0 : zAd) : Option Int := ((z3k K p0).bind fun x1 => (if (x1 != 0) = true then some x1 else ((z1y K p0).bind fun x15 => ((z4n K x15).bind fun x28 => (if (decide (x28 < 0)) = true then some 4 else some 0)))))
theorem z5x (p0 : zAd) (O : Ow G H (L)) (r : Int) (h : z3g K p0 = some r) :
    CR Tryd.prog 33 [(.string p0)] G H (L) (fun v G' _ => v = .int .i64 r) := by
 unfold z3g at h
 refine CR.og (n := 13) (fn := Tryd.f33) (by kernel_rfl) rfl rfl fun R kr => (.seq (.region (W.q1 (.int .i64 0) rfl (.nil (.seq (.seq ?_))))))
 refine .region (W.q2 (.string p0) rfl ?_)
 obtain ⟨x1, i2, h3⟩ := z00 h
 refine W.lo rfl rfl (Lo.cP rfl (fn := Tryd.f42) (by kernel_rfl) rfl (mc rfl mn) O (fun L' O' => z5h K p0 O' _ i2)) ?_
 rintro v10 H11 ⟨G4, O5, s6, sm9, rfl⟩
 refine W.q1 (.int .i64 x1) rfl (.nil (.seq (.region (W.q2 (.int .i64 x1) rfl (W.q3 (.bool (x1 != 0)) rfl rfl (.nil ?_))))))
 refine .cond (b := (x1 != 0)) rfl rfl (fun g12 => ?_) (fun g12 => ?_)
 .have h13 := z03 g12 h3
  refine .seq (.region (W.q2 (.int .i64 x1) rfl (W.q1 (.int .i64 x1) rfl (.nil (.ret ?_)))))
  obtain rfl := zAa h13
  exact z16 kr (v1 := (.int .i64 x1)) (by rfl) (z09 (by rfl) (by exact rfl)) O5 s6 rfl
 have h14 := z0h g12 h3
 refine .skip (.seq (.seq (.region (W.q2 (.string p0) rfl ?_))))
 obtain ⟨x15, i16, h17⟩ := z00 h14
 refine W.lo rfl rfl (Lo.cP rfl (fn := Tryd.f36) (by kernel_rfl) rfl (mc rfl mn) O5 (fun L' O' => z0w K p0 O' _ i16)) ?_
 rintro v26 H27 ⟨G18, O19, s20, sm25, ⟨c22, rfl, f23⟩⟩
 obtain ⟨x28, i29, h30⟩ := z00 h17
 refine W.lo rfl rfl (Lo.cP rfl (fn := Tryd.f79) (by kernel_rfl) rfl (mc rfl mn) O19 (fun L' O' => z8f K c22 x15 f23 O' _ i29)) ?_
 rintro v37 H38 ⟨G31, O32, s33, sm36, rfl⟩
 refine W.q3 (.bool (decide (x28 < 0))) rfl rfl (.nil (.cond (b := decide (x28 < 0)) rfl rfl (fun g39 => ?_) (fun g39 => ?_)))
 .have h40 := z03 g39 h30
  refine .seq (.region (W.q1 (.int .i64 4) rfl (.nil (.ret ?_))))
  obtain rfl := zAa h40
  exact z16 kr (v1 := (.int .i64 4)) (by rfl) (z09 (by rfl) (by exact rfl)) O32 (zAe s6 (zAe s20 s33)) rfl
 have h41 := z0h g39 h30
 refine .skip (.seq (.region (W.q1 (.int .i64 0) rfl (.nil (.ret ?_)))))
 obtain rfl := zAa h41
 exact z16 kr (v1 := (.int .i64 0)) (by rfl) (z09 (by rfl) (by exact rfl)) O32 (zAe s6 (zAe s20 s33)) rfl
def z17 (K : Nat) (p0 : Q) : Option (List Int) := (if ((List.length p0.den : Int) == 0) = true then ((z5a K 1).bind fun x11 => some x11) else some p0.den)
theorem z1e (v0 : List Value) (p0 : Q) (hp0 : T_Q.rep G v0 p0) (O : Ow G H (L)) (r : List Int) (h : z17 K p0 = some r) :
    CR Tryd.prog 88 [.agg (List.toArray v0)] G H (L) (fun v G' _ => ∃ (w0 : Value), w0 = v /\ (rSl (rI .u32)).rep G' [w0] r) := by
 unfold z17 at h
 refine CR.og (n := 10) (fn := Tryd.f88) (by kernel_rfl) rfl rfl fun R kr => (.seq (.region (W.lo rfl rfl (Lo.box (r := T_Q) (x0 := p0) (v := (.agg (List.toArray v0))) rfl rfl hp0 O) ?_)))
 rintro v4 H5 ⟨b2, rfl, O1, sm3⟩
 refine W.q1 (.slice none 0 0) rfl (.nil (.seq (.seq (.region (W.pure (v := (padd (.pointer (some ⟨b2, 0, none⟩)) 2)) rfl rfl (z3d zh1 (oo rfl rfl) (O1.atVar (j := 0) rfl)) ?_)))))
 obtain ⟨w6, p7, f8⟩ := At.sl (At.proj (O1.atVar (j := 0) rfl) zew)
 refine W.load1 (v := w6) (r := []) rfl rfl ag63 (z0q rfl p7) (W.pure (v := (.int .i64 (List.length p0.den : Int))) rfl rfl (z0p (oo rfl rfl) (z0f f8) (z06 el63)) (W.q3 (.bool ((List.length p0.den : Int) == 0)) rfl rfl (.nil (.cond (b := ((List.length p0.den : Int) == 0)) rfl rfl (fun g9 => ?_) (fun g9 => ?_)))))
 rotate_left
 .have h29 := z0h g9 h
  refine .skip (.seq (.region (W.pure (v := (padd (.pointer (some ⟨b2, 0, none⟩)) 2)) rfl rfl (z3d zh1 (oo rfl rfl) (O1.atVar (j := 0) rfl)) ?_)))
  obtain ⟨w30, p31, f32⟩ := At.sl (At.proj (O1.atVar (j := 0) rfl) zew)
  refine W.load1 (v := w30) (r := []) rfl rfl ag63 (z0q rfl p31) (W.q1 w30 rfl (.nil (.ret ?_)))
  have O33 : Ow G H5 (L) := O1.drop 0
  obtain rfl := zAa h29
  exact z16 kr (v1 := w30) (by rfl) (z09 (by rfl) (by exact rfl)) O33 (zAf _) ⟨w30, rfl, f32⟩
 have h10 := z03 g9 h
 refine .seq (.region ?_)
 obtain ⟨x11, i12, h13⟩ := z00 h10
 refine W.lo rfl rfl (Lo.callPF (ps := []) (pw := fun w => [eSl w 145 (rI .u32) x11]) rfl (fn := Tryd.f97) (by kernel_rfl) rfl (mc rfl mn) O1 (fun L' O' => z44 K 1 O' _ i12)) ?_
 rintro v22 H23 ⟨w19, G14, O15, s16, sm21, rfl⟩
 refine W.q1 w19 rfl (.nil (.ret ?_))
 obtain ⟨G24, O25, s26, f27⟩ := O15.frzSl (j := 0) rfl
 have O28 : Ow G24 H23 (L) := O25.drop 0
 obtain rfl := zAa h13
 exact z16 kr (v1 := w19) (by rfl) (z09 (by rfl) (by exact rfl)) O28 (zAe s16 s26) ⟨w19, rfl, f27⟩
theorem zme {G : GM}   : ∃ cs : List Value, (∀ {s : List Value} {d : Tmp} {ty : TypeId} {pos : String} {af : Array Edge} {g : Option (Nat × Bool)} {ps : Array (Nat × Operand)}, zds s ps.toList = some [] -> z1t Tryd.prog s ⟨some d, .build 65 ps, ty, pos, af, g⟩ = some (.agg (List.toArray cs))) /\ T_Q.rep G cs (Q.mk false ([] : List Int) ([] : List Int)) := by
  refine ⟨_, fun {s d ty pos af g ps} hps => zar pl65 ze65 zo65 hps ?_, z_Q G⟩
  rfl
def z5i (K : Nat) (p0 : Bool) (p1 : List Int) (p2 : List Int) : Option Q := (if ((List.length p1 : Int) == 0) = true then some (Q.mk false ([] : List Int) ([] : List Int)) else ((z5p K p1 p2).bind fun x20 => ((z5a K 1).bind fun x33 => ((z41 K x20 x33).bind fun x46 => (Option.bind ((if (decide (x46 > 0)) = true then ((z43 K p1 x20).bind fun x62 => ((z43 K p2 x20).bind fun x77 => some (x62.1, x77.1))) else some (p1, p2))) (tu2 fun x93 x94 => some (Q.mk p0 x93 x94)))))))
theorem z5y (p0 : Bool) (v1 : Value) (p1 : List Int) (hp1 : (rSl (rI .u32)).rep G [v1] p1) (v2 : Value) (p2 : List Int) (hp2 : (rSl (rI .u32)).rep G [v2] p2) (O : Ow G H (L)) (r : Q) (h : z5i K p0 p1 p2 = some r) :
    CR Tryd.prog 89 [(.bool p0), v1, v2] G H (L) (fun v G' _ => ∃ (w0 : List Value), v = .agg (List.toArray w0) /\ T_Q.rep G' w0 r) := by
 unfold z5i at h
 refine CR.og (n := 35) (fn := Tryd.f89) (by kernel_rfl) rfl rfl fun R kr => (.seq (.region (W.lo rfl rfl (Lo.alloc (r := T_Q) (x0 := (Q.mk false ([] : List Int) ([] : List Int))) ze65 (by kernel_rfl) z_Q O) ?_)))
 rintro v4 H5 ⟨b2, rfl, O1, sm3⟩
 refine .nil (.seq (.seq (.region (W.q2 v1 rfl (W.pure (v := (.int .i64 (List.length p1 : Int))) rfl rfl (z0p (oo rfl rfl) (z0f hp1) (z06 el63)) (W.q3 (.bool ((List.length p1 : Int) == 0)) rfl rfl ?_))))))
 refine .nil (.cond (b := ((List.length p1 : Int) == 0)) rfl rfl (fun g6 => ?_) (fun g6 => ?_))
 .have h7 := z03 g6 h
  refine .seq (.region ?_)
  obtain ⟨c8, e10, f9⟩ := zme
  refine W.pure (v := .agg (List.toArray c8)) rfl rfl (e10 (z3p rfl qn')) (W.lo rfl rfl (Lo.storeVar (j := 0) (s := T_Q) (y0 := (Q.mk false ([] : List Int) ([] : List Int))) (v := (.agg (List.toArray c8))) (o := 0) rfl ((Put.at (Put.self _) _ _)) rfl sz65 rfl (by omega) rfl f9 O1) ?_)
  rintro v13 H14 ⟨O11, sm12⟩
  refine .nil (.ret ?_)
  obtain ⟨c15, p16, f17⟩ := (O11.atVar (j := 0) rfl)
  have O18 : Ow G H14 (L) := O11.drop 0
  obtain rfl := zAa h7
  exact z16 kr (v1 := (.agg (List.toArray c15))) (by rfl) (z2d (p := (.pointer (some ⟨b2, 0, none⟩))) (by rfl) ag65 sz65 (by exact rfl) p16 (RT.len _ f17)) O18 (zAf _) ⟨c15, rfl, f17⟩
 have h19 := z0h g6 h
 refine .skip (.seq (.seq (.region (W.q2 v1 rfl (W.q2 v2 rfl ?_)))))
 obtain ⟨x20, i21, h22⟩ := z00 h19
 refine W.lo rfl rfl (Lo.cP rfl (fn := Tryd.f102) (by kernel_rfl) rfl (mc rfl (mc rfl mn)) O1 (fun L' O' => z97 K v1 p1 hp1 v2 p2 hp2 O' _ i21)) ?_
 rintro v31 H32 ⟨G23, O24, s25, sm30, ⟨w27, rfl, f28⟩⟩
 refine W.q1 w27 rfl (.nil (.seq (.region (W.q2 w27 rfl ?_))))
 obtain ⟨x33, i34, h35⟩ := z00 h22
 refine W.lo rfl rfl (Lo.callPF (ps := []) (pw := fun w => [eSl w 145 (rI .u32) x33]) rfl (fn := Tryd.f97) (by kernel_rfl) rfl (mc rfl mn) O24 (fun L' O' => z44 K 1 O' _ i34)) ?_
 rintro v44 H45 ⟨w41, G36, O37, s38, sm43, rfl⟩
 obtain ⟨x46, i47, h48⟩ := z00 h35
 refine W.lo rfl rfl (Lo.callB (j := 0) rfl rfl (fn := Tryd.f91) (by kernel_rfl) rfl (mc rfl (mc rfl mn)) O37 (fun G' L' hG O' hB => z5g K w27 x20 (RT.mono _ hG (RT.mono _ s38 f28)) w41 x33 hB O' _ i47)) ?_
 rintro v55 H56 ⟨G49, O50, s51, sm54, rfl⟩
 refine W.q3 (.bool (decide (x46 > 0))) rfl rfl (.nil ?_)
 obtain ⟨q57, h58, h59⟩ := z00 h48
 refine AW.midT (fun σ' H' => ∃ (y1 : List Int) (y2 : List Int) (G' : GM), (y1, y2) = q57 /\ Ow G' H' (eSl w41 145 (rI .u32) x33 :: eVar b2 65 T_Q (Q.mk false ([] : List Int) ([] : List Int)) :: L) /\ GM.le G49 G' /\ (rSl (rI .u32)).rep G' [σ' 1] y1 /\ (rSl (rI .u32)).rep G' [σ' 2] y2) ?_ ?_
 rotate_left
 .rintro σ95 H96 fr97 ⟨x93, x94, G98, rfl, O99, s100, f102, f103⟩
  have h104 := z4k h59
  refine .seq (.region (W.q2 (.bool p0) ((fr97 0 rfl).trans rfl) (W.q2 (σ95 1) rfl (W.q2 (σ95 2) rfl ?_))))
  obtain ⟨c105, e107, f106⟩ := z98 ((.bool p0)) ((σ95 1)) ((σ95 2)) (rfl) ((z4c f102)) ((z4c f103))
  refine W.pure (v := .agg (List.toArray c105)) rfl rfl (e107 (z3p rfl (qc' rfl (qc' rfl (qc' rfl qn'))))) (W.lo rfl rfl (Lo.storeVar (j := 1) (s := T_Q) (y0 := (Q.mk p0 x93 x94)) (v := (.agg (List.toArray c105))) (o := 0) rfl ((Put.at (Put.self _) _ _)) rfl sz65 ((fr97 6 rfl).trans rfl) (by omega) rfl f106 O99) ?_)
  rintro v110 H111 ⟨O108, sm109⟩
  refine .nil (.ret ?_)
  obtain ⟨c112, p113, f114⟩ := (O108.atVar (j := 1) rfl)
  have O115 : Ow G98 H111 (eVar b2 65 T_Q (Q.mk p0 x93 x94) :: L) := O108.drop 0
  have O116 : Ow G98 H111 (L) := O115.drop 0
  obtain rfl := zAa h104
  exact z16 kr (v1 := (.agg (List.toArray c112))) (by rfl) (z2d (p := (.pointer (some ⟨b2, 0, none⟩))) (by rfl) ag65 sz65 (by exact ((fr97 6 rfl).trans rfl)) p113 (RT.len _ f114)) O116 (zAe s25 (zAe s38 (zAe s51 s100))) ⟨c112, rfl, f114⟩
 refine .cond (b := decide (x46 > 0)) rfl rfl (fun g60 => ?_) (fun g60 => ?_)
 rotate_left
 .have h92 := z0h g60 h58
  refine .skip ?_
  obtain rfl := zAa h92
  exact ⟨p1, p2, _, rfl, O50, (zAf _), (RT.mono _ (zAe s25 (zAe s38 s51)) hp1), (RT.mono _ (zAe s25 (zAe s38 s51)) hp2)⟩
 have h61 := z03 g60 h58
 refine .seq (.region (W.q2 v1 rfl (W.q2 w27 rfl ?_)))
 obtain ⟨x62, i63, h64⟩ := z00 h61
 refine W.lo rfl rfl (Lo.cP rfl (fn := Tryd.f119) (by kernel_rfl) rfl (mc rfl (mc rfl mn)) O50 (fun L' O' => z75 K v1 p1 (RT.mono _ (zAe s25 (zAe s38 s51)) hp1) w27 x20 (RT.mono _ (zAe s38 s51) f28) O' _ i63)) ?_
 rintro v75 H76 ⟨G65, O66, s67, sm74, ⟨w69, w71, rfl, f70, f72⟩⟩
 refine W.q2 (.tuple #[w69, w71]) rfl (W.pure (v := w69) rfl rfl (z08 (oo rfl rfl) rfl) (W.pure (v := w71) rfl rfl (z08 (oo rfl rfl) rfl) (W.q1 w69 rfl (.nil (.region (W.q2 v2 rfl ?_))))))
 refine W.q2 w27 rfl ?_
 obtain ⟨x77, i78, h79⟩ := z00 h64
 refine W.lo rfl rfl (Lo.cP rfl (fn := Tryd.f119) (by kernel_rfl) rfl (mc rfl (mc rfl mn)) O66 (fun L' O' => z75 K v2 p2 (RT.mono _ (zAe s25 (zAe s38 (zAe s51 s67))) hp2) w27 x20 (RT.mono _ (zAe s38 (zAe s51 s67)) f28) O' _ i78)) ?_
 rintro v90 H91 ⟨G80, O81, s82, sm89, ⟨w84, w86, rfl, f85, f87⟩⟩
 refine W.q2 (.tuple #[w84, w86]) rfl (W.pure (v := w84) rfl rfl (z08 (oo rfl rfl) rfl) (W.pure (v := w86) rfl rfl (z08 (oo rfl rfl) rfl) (W.q1 w84 rfl (.nil ?_))))
 obtain rfl := zAa h79
 exact ⟨x62.1, x77.1, _, rfl, O81, (zAe s67 s82), (RT.mono _ s82 f70), f85⟩
def z28 (K : Nat) (p0 : Q) (p1 : Q) : Option Q := (Option.bind ((if ((List.length p0.num : Int) == 0) = true then some true else some ((List.length p1.num : Int) == 0))) (tu1 fun x29 => (if x29 = true then some (Q.mk false ([] : List Int) ([] : List Int)) else ((z27 K p0.num p1.num).bind fun x66 => ((z17 K p0).bind fun x82 => ((z17 K p1).bind fun x98 => ((z27 K x82 x98).bind fun x111 => ((z5i K (!(p0.neg == p1.neg)) x66 x111).bind fun x132 => some x132))))))))
theorem z1z (v0 : List Value) (p0 : Q) (hp0 : T_Q.rep G v0 p0) (v1 : List Value) (p1 : Q) (hp1 : T_Q.rep G v1 p1) (O : Ow G H (L)) (r : Q) (h : z28 K p0 p1 = some r) :
    CR Tryd.prog 93 [.agg (List.toArray v0), .agg (List.toArray v1)] G H (L) (fun v G' _ => ∃ (w0 : List Value), v = .agg (List.toArray w0) /\ T_Q.rep G' w0 r) := by
 unfold z28 at h
 refine CR.og (n := 32) (fn := Tryd.f93) (by kernel_rfl) rfl rfl fun R kr => (.seq (.region (W.lo rfl rfl (Lo.box (r := T_Q) (x0 := p0) (v := (.agg (List.toArray v0))) rfl rfl hp0 O) ?_)))
 rintro v4 H5 ⟨b2, rfl, O1, sm3⟩
 refine W.lo rfl rfl (Lo.box (r := T_Q) (x0 := p1) (v := (.agg (List.toArray v1))) rfl rfl hp1 O1) ?_
 rintro v9 H10 ⟨b7, rfl, O6, sm8⟩
 refine W.lo rfl rfl (Lo.alloc (r := T_Q) (x0 := (Q.mk false ([] : List Int) ([] : List Int))) ze65 (by kernel_rfl) z_Q O6) ?_
 rintro v14 H15 ⟨b12, rfl, O11, sm13⟩
 refine .nil (.seq (.seq ?_))
 obtain ⟨q16, h17, h18⟩ := z00 h
 refine AW.midT (fun σ' H' => ∃ (y1 : Bool) (G' : GM), y1 = q16 /\ Ow G' H' (eVar b12 65 T_Q (Q.mk false ([] : List Int) ([] : List Int)) :: eVar b7 65 T_Q p1 :: eVar b2 65 T_Q p0 :: L) /\ GM.le G G' /\ σ' 14 = .bool y1) ?_ ?_
 .refine .region (W.pure (v := (padd (.pointer (some ⟨b2, 0, none⟩)) 1)) rfl rfl (z3d z7j (oo rfl rfl) (O11.atVar (j := 2) rfl)) ?_)
  obtain ⟨w19, p20, f21⟩ := At.sl (At.proj (O11.atVar (j := 2) rfl) z4l)
  refine W.load1 (v := w19) (r := []) rfl rfl ag63 (z0q rfl p20) (W.pure (v := (.int .i64 (List.length p0.num : Int))) rfl rfl (z0p (oo rfl rfl) (z0f f21) (z06 el63)) (W.q3 (.bool ((List.length p0.num : Int) == 0)) rfl rfl (W.q2 (.bool ((List.length p0.num : Int) == 0)) rfl (W.splitAt (t := 9) (b := ((List.length p0.num : Int) == 0)) rfl (fun g22 gv23 => ?_) (fun g22 gv23 => ?_)))))
  .have h24 := z03 g22 h17
   refine W.q6 rfl gv23 (W.q6 rfl gv23 (W.q6 rfl gv23 (W.q6 rfl gv23 (W.q4 (.bool true) gv23 rfl (.nil ?_)))))
   obtain rfl := zAa h24
   exact ⟨true, _, rfl, O11, (zAf _), rfl⟩
  have h25 := z0h g22 h17
  refine W.pure (v := (padd (.pointer (some ⟨b7, 0, none⟩)) 1)) (gk rfl rfl gv23 rfl) rfl (z3d z7j (oo rfl rfl) (O11.atVar (j := 1) rfl)) ?_
  obtain ⟨w26, p27, f28⟩ := At.sl (At.proj (O11.atVar (j := 1) rfl) z4l)
  refine W.load1 (v := w26) (r := []) (gk rfl rfl gv23 rfl) rfl ag63 (z0q rfl p27) (W.pure (v := (.int .i64 (List.length p1.num : Int))) (gk rfl rfl gv23 rfl) rfl (z0p (oo rfl rfl) (z0f f28) (z06 el63)) (W.q3 (hg := gk rfl rfl gv23 rfl) (.bool ((List.length p1.num : Int) == 0)) rfl rfl (W.q5 (.bool ((List.length p1.num : Int) == 0)) gv23 rfl (.nil ?_))))
  obtain rfl := zAa h25
  exact ⟨((List.length p1.num : Int) == 0), _, rfl, O11, (zAf _), rfl⟩
 rintro σ30 H31 fr32 ⟨x29, G33, rfl, O34, s35, t37⟩
 have h38 := z0d h18
 refine .cond (b := x29) rfl t37 (fun g39 => ?_) (fun g39 => ?_)
 .have h40 := z03 g39 h38
  refine .seq (.region ?_)
  obtain ⟨c41, e43, f42⟩ := zme
  refine W.pure (v := .agg (List.toArray c41)) rfl rfl (e43 (z3p rfl qn')) (W.lo rfl rfl (Lo.storeVar (j := 0) (s := T_Q) (y0 := (Q.mk false ([] : List Int) ([] : List Int))) (v := (.agg (List.toArray c41))) (o := 0) rfl ((Put.at (Put.self _) _ _)) rfl sz65 ((fr32 4 rfl).trans rfl) (by omega) rfl f42 O34) ?_)
  rintro v46 H47 ⟨O44, sm45⟩
  refine .nil (.ret ?_)
  obtain ⟨c48, p49, f50⟩ := (O44.atVar (j := 0) rfl)
  have O51 : Ow G33 H47 (eVar b7 65 T_Q p1 :: eVar b2 65 T_Q p0 :: L) := O44.drop 0
  have O52 : Ow G33 H47 (eVar b2 65 T_Q p0 :: L) := O51.drop 0
  have O53 : Ow G33 H47 (L) := O52.drop 0
  obtain rfl := zAa h40
  exact z16 kr (v1 := (.agg (List.toArray c48))) (by rfl) (z2d (p := (.pointer (some ⟨b12, 0, none⟩))) (by rfl) ag65 sz65 (by exact ((fr32 4 rfl).trans rfl)) p49 (RT.len _ f50)) O53 s35 ⟨c48, rfl, f50⟩
 have h54 := z0h g39 h38
 refine .skip (.seq (.draw2 (M := [0, 1, 0, 4, 15, 0, 32, 0, 128, 480, 0, 2016, 0, 8160, 16352, 32767, 65535]) mixed (by kernel_rfl) (by kernel_rfl) fun H55 N59 x56 F58 => ?_))
 have O57 := O34.ext x56
 refine D2.pure (v := (padd (.pointer (some ⟨b2, 0, none⟩)) 0)) rfl rfl (z3d za7 (oo rfl ((fr32 2 rfl).trans rfl)) (O57.atVar (j := 2) rfl)) (D2.load1' (v := (.bool p0.neg)) (r := []) rfl rfl ag4 (z0q rfl (At.bool (At.proj (O57.atVar (j := 2) rfl) z7f))) z02 (D2.pure (v := (padd (.pointer (some ⟨b7, 0, none⟩)) 0)) rfl rfl (z3d za7 (oo rfl ((fr32 3 rfl).trans rfl)) (O57.atVar (j := 1) rfl)) (D2.load1' (v := (.bool p1.neg)) (r := []) rfl rfl ag4 (z0q rfl (At.bool (At.proj (O57.atVar (j := 1) rfl) z7f))) z02 (D2.pure (v := (.bool (!(p0.neg == p1.neg)))) rfl rfl (ze1 (oo rfl rfl) (oo rfl rfl) un4) (D2.pure (v := (padd (.pointer (some ⟨b2, 0, none⟩)) 1)) rfl rfl (z3d z7j (oo rfl ((fr32 2 rfl).trans rfl)) (O57.atVar (j := 2) rfl)) ?_)))))
 obtain ⟨w60, p61, f62⟩ := At.sl (At.proj (O57.atVar (j := 2) rfl) z4l)
 refine D2.load1' (v := w60) (r := []) rfl rfl ag63 (z0q rfl p61) z02 (D2.pure (v := (padd (.pointer (some ⟨b7, 0, none⟩)) 1)) rfl rfl (z3d z7j (oo rfl ((fr32 3 rfl).trans rfl)) (O57.atVar (j := 1) rfl)) ?_)
 obtain ⟨w63, p64, f65⟩ := At.sl (At.proj (O57.atVar (j := 1) rfl) z4l)
 refine D2.load1' (v := w63) (r := []) rfl rfl ag63 (z0q rfl p64) z02 ?_
 obtain ⟨x66, i67, h68⟩ := z00 h54
 refine D2.lo rfl rfl (Lo.callPF (ps := []) (pw := fun w => [eSl w 145 (rI .u32) x66]) rfl (fn := Tryd.f87) (by kernel_rfl) rfl (mc rfl (mc rfl mn)) O57 (fun L' O' => z1w K w60 p0.num f62 w63 p1.num f65 O' _ i67)) ?_ z02 ?_ ?_
 .rintro v77 H78 ⟨w74, G69, O70, s71, sm76, rfl⟩; exact (faR1 (.inl (by decide)) (faR1 (.inl (by decide)) (faR1 (.inr (sm76 _ (Or.inr ⟨1, _, rfl, List.mem_singleton.2 rfl⟩))) (faR1 (.inr (sm76 _ (Or.inr ⟨2, _, rfl, List.mem_singleton.2 rfl⟩))) z02))))
 .rintro v77 H78 ⟨w74, G69, O70, s71, sm76, rfl⟩; exact z02
 rintro v77 H78 ⟨w74, G69, O70, s71, sm76, rfl⟩
 obtain ⟨c79, p80, f81⟩ := (O70.atVar (j := 3) rfl)
 refine D2.loadA' (cs := c79) rfl rfl ag65 sz65 (z0q ((fr32 2 rfl).trans rfl) p80) (RT.len _ f81) (z2g (zd4 ((fr32 2 rfl).trans rfl) (sm76 _ (Or.inr ⟨2, _, rfl, List.mem_singleton.2 rfl⟩))) z02) ?_
 obtain ⟨x82, i83, h84⟩ := z00 h68
 refine D2.lo rfl rfl (Lo.cP rfl (fn := Tryd.f88) (by kernel_rfl) rfl (mc rfl mn) O70 (fun L' O' => z1e K c79 p0 f81 O' _ i83)) ?_ (z07 (by decide) z02) ?_ ?_
 .rintro v93 H94 ⟨G85, O86, s87, sm92, ⟨w89, rfl, f90⟩⟩; exact (faR1 (.inl (by decide)) (faR1 (.inl (by decide)) (faR1 (.inl (by decide)) (faR1 (.inr (sm92 _ (Or.inr ⟨2, _, rfl, List.mem_singleton.2 rfl⟩))) (faR1 (.inr (sm92 _ (Or.inr ⟨3, _, rfl, List.mem_singleton.2 rfl⟩))) z02)))))
 .rintro v93 H94 ⟨G85, O86, s87, sm92, ⟨w89, rfl, f90⟩⟩; exact z02
 rintro v93 H94 ⟨G85, O86, s87, sm92, ⟨w89, rfl, f90⟩⟩
 obtain ⟨c95, p96, f97⟩ := (O86.atVar (j := 2) rfl)
 refine D2.loadA' (cs := c95) rfl rfl ag65 sz65 (z0q ((fr32 3 rfl).trans rfl) p96) (RT.len _ f97) (z2g (zd4 ((fr32 3 rfl).trans rfl) (sm92 _ (Or.inr ⟨2, _, rfl, List.mem_singleton.2 rfl⟩))) (z2g (zd4 ((fr32 3 rfl).trans rfl) (sm76 _ (Or.inr ⟨1, _, rfl, List.mem_singleton.2 rfl⟩))) z02)) ?_
 obtain ⟨x98, i99, h100⟩ := z00 h84
 refine D2.lo rfl rfl (Lo.cP rfl (fn := Tryd.f88) (by kernel_rfl) rfl (mc rfl mn) O86 (fun L' O' => z1e K c95 p1 f97 O' _ i99)) ?_ (z07 (by decide) (z07 (by decide) z02)) ?_ ?_
 .rintro v109 H110 ⟨G101, O102, s103, sm108, ⟨w105, rfl, f106⟩⟩; exact (faR1 (.inl (by decide)) (faR1 (.inl (by decide)) (faR1 (.inl (by decide)) (faR1 (.inl (by decide)) (faR1 (.inr (sm108 _ (Or.inr ⟨2, _, rfl, List.mem_singleton.2 rfl⟩))) (faR1 (.inr (sm108 _ (Or.inr ⟨3, _, rfl, List.mem_singleton.2 rfl⟩))) z02))))))
 .rintro v109 H110 ⟨G101, O102, s103, sm108, ⟨w105, rfl, f106⟩⟩; exact z02
 rintro v109 H110 ⟨G101, O102, s103, sm108, ⟨w105, rfl, f106⟩⟩
 obtain ⟨x111, i112, h113⟩ := z00 h100
 refine D2.lo rfl rfl (Lo.callPF (ps := []) (pw := fun w => [eSl w 145 (rI .u32) x111]) rfl (fn := Tryd.f87) (by kernel_rfl) rfl (mc rfl (mc rfl mn)) O102 (fun L' O' => z1w K w89 x82 (RT.mono _ s103 f90) w105 x98 f106 O' _ i112)) ?_ (z07 (by decide) (z07 (by decide) (z07 (by decide) z02))) ?_ ?_
 .rintro v122 H123 ⟨w119, G114, O115, s116, sm121, rfl⟩; exact (faR1 (.inl (by decide)) (faR1 (.inl (by decide)) (faR1 (.inl (by decide)) (faR1 (.inl (by decide)) (faR1 (.inr (sm121 _ (Or.inr ⟨2, _, rfl, List.mem_singleton.2 rfl⟩))) (faR1 (.inr (sm121 _ (Or.inr ⟨3, _, rfl, List.mem_singleton.2 rfl⟩))) z02))))))
 .rintro v122 H123 ⟨w119, G114, O115, s116, sm121, rfl⟩; exact z02
 rintro v122 H123 ⟨w119, G114, O115, s116, sm121, rfl⟩
 obtain ⟨G124, O125, s126, f127⟩ := O115.frzSl (j := 1) rfl
 obtain ⟨G128, O129, s130, f131⟩ := O125.frzSl (j := 0) rfl
 obtain ⟨x132, i133, h134⟩ := z00 h113
 refine D2.lo rfl rfl (Lo.cP rfl (fn := Tryd.f89) (by kernel_rfl) rfl (mc rfl (mc rfl (mc rfl mn))) O129 (fun L' O' => z5y K (!(p0.neg == p1.neg)) w74 x66 (RT.mono _ s130 f127) w119 x111 f131 O' _ i133)) ?_ (z07 (by decide) (z07 (by decide) (z07 (by decide) (z07 (by decide) z02)))) ?_ ?_
 .rintro v143 H144 ⟨G135, O136, s137, sm142, ⟨c139, rfl, f140⟩⟩; exact (faR1 (.inl (by decide)) (faR1 (.inl (by decide)) (faR1 (.inl (by decide)) (faR1 (.inl (by decide)) (faR1 (.inl (by decide)) (faR1 (.inl (by decide)) z02))))))
 .rintro v143 H144 ⟨G135, O136, s137, sm142, ⟨c139, rfl, f140⟩⟩; exact z02
 rintro v143 H144 ⟨G135, O136, s137, sm142, ⟨c139, rfl, f140⟩⟩
 refine D2.lo rfl rfl (Lo.storeVar (j := 0) (s := T_Q) (y0 := x132) (v := (.agg (List.toArray c139))) (o := 0) rfl ((Put.at (Put.self _) _ _)) rfl sz65 ((fr32 4 rfl).trans rfl) (by omega) rfl f140 O136) ?_ (z07 (by decide) (z07 (by decide) (z07 (by decide) (z07 (by decide) (z07 (by decide) z02))))) ?_ ?_
 .rintro v147 H148 ⟨O145, sm146⟩; exact (faR1 (.inl (by decide)) (faR1 (.inl (by decide)) (faR1 (.inl (by decide)) (faR1 (.inl (by decide)) (faR1 (.inl (by decide)) (faR1 (.inl (by decide)) z02))))))
 .rintro v147 H148 ⟨O145, sm146⟩; exact z02
 rintro v147 H148 ⟨O145, sm146⟩
 refine .nil (.ret ?_)
 obtain ⟨c149, p150, f151⟩ := (O145.atVar (j := 0) rfl)
 have O152 : Ow G135 H148 (eVar b7 65 T_Q p1 :: eVar b2 65 T_Q p0 :: L) := O145.drop 0
 have O153 : Ow G135 H148 (eVar b2 65 T_Q p0 :: L) := O152.drop 0
 have O154 : Ow G135 H148 (L) := O153.drop 0
 obtain rfl := zAa h134
 exact z16 kr (v1 := (.agg (List.toArray c149))) (by rfl) (z2d (p := (.pointer (some ⟨b12, 0, none⟩))) (by rfl) ag65 sz65 (by exact ((fr32 4 rfl).trans rfl)) p150 (RT.len _ f151)) O154 (zAe s35 (zAe s71 (zAe s87 (zAe s103 (zAe s116 (zAe s126 (zAe s130 s137))))))) ⟨c149, rfl, f151⟩
def z3h (K : Nat) (p0 : Q) (p1 : Q) : Option Q := ((z28 K p0 p1).bind fun x27 => ((z28 K x27 p1).bind fun x43 => some x43))
theorem z5z (v0 : List Value) (p0 : Q) (hp0 : T_Q.rep G v0 p0) (v1 : List Value) (p1 : Q) (hp1 : T_Q.rep G v1 p1) (O : Ow G H (L)) (r : Q) (h : z3h K p0 p1 = some r) :
    CR Tryd.prog 35 [.agg (List.toArray v0), .agg (List.toArray v1)] G H (L) (fun v G' _ => ∃ (w0 : List Value), v = .agg (List.toArray w0) /\ T_Q.rep G' w0 r) := by
 unfold z3h at h
 refine CR.og (n := 10) (fn := Tryd.f35) (by kernel_rfl) rfl rfl fun R kr => (.seq (.region (W.lo rfl rfl (Lo.box (r := T_Q) (x0 := p0) (v := (.agg (List.toArray v0))) rfl rfl hp0 O) ?_)))
 rintro v4 H5 ⟨b2, rfl, O1, sm3⟩
 refine W.lo rfl rfl (Lo.box (r := T_Q) (x0 := p1) (v := (.agg (List.toArray v1))) rfl rfl hp1 O1) ?_
 rintro v9 H10 ⟨b7, rfl, O6, sm8⟩
 refine W.lo rfl rfl (Lo.alloc (r := T_Q) (x0 := (Q.mk false ([] : List Int) ([] : List Int))) ze65 (by kernel_rfl) z_Q O6) ?_
 rintro v14 H15 ⟨b12, rfl, O11, sm13⟩
 refine .nil (.seq (.draw2 (M := [0, 0, 3, 0, 15, 31]) mixed (by kernel_rfl) (by kernel_rfl) fun H16 N20 x17 F19 => ?_))
 have O18 := O11.ext x17
 obtain ⟨c21, p22, f23⟩ := (O18.atVar (j := 2) rfl)
 refine D2.loadA' (cs := c21) rfl rfl ag65 sz65 (z0q rfl p22) (RT.len _ f23) z02 ?_
 obtain ⟨c24, p25, f26⟩ := (O18.atVar (j := 1) rfl)
 refine D2.loadA' (cs := c24) rfl rfl ag65 sz65 (z0q rfl p25) (RT.len _ f26) z02 ?_
 obtain ⟨x27, i28, h29⟩ := z00 h
 refine D2.lo rfl rfl (Lo.cP rfl (fn := Tryd.f93) (by kernel_rfl) rfl (mc rfl (mc rfl mn)) O18 (fun L' O' => z1z K c21 p0 f23 c24 p1 f26 O' _ i28)) ?_ z02 ?_ ?_
 .rintro v38 H39 ⟨G30, O31, s32, sm37, ⟨c34, rfl, f35⟩⟩; exact (faR1 (.inl (by decide)) (faR1 (.inl (by decide)) z02))
 .rintro v38 H39 ⟨G30, O31, s32, sm37, ⟨c34, rfl, f35⟩⟩; exact z02
 rintro v38 H39 ⟨G30, O31, s32, sm37, ⟨c34, rfl, f35⟩⟩
 obtain ⟨c40, p41, f42⟩ := (O31.atVar (j := 1) rfl)
 refine D2.loadA' (cs := c40) rfl rfl ag65 sz65 (z0q rfl p41) (RT.len _ f42) (z2g (sm37 _ (Or.inr ⟨1, _, rfl, List.mem_singleton.2 rfl⟩)) z02) ?_
 obtain ⟨x43, i44, h45⟩ := z00 h29
 refine D2.lo rfl rfl (Lo.cP rfl (fn := Tryd.f93) (by kernel_rfl) rfl (mc rfl (mc rfl mn)) O31 (fun L' O' => z1z K c34 x27 f35 c40 p1 f42 O' _ i44)) ?_ (z07 (by decide) z02) ?_ ?_
 .rintro v54 H55 ⟨G46, O47, s48, sm53, ⟨c50, rfl, f51⟩⟩; exact (faR1 (.inl (by decide)) (faR1 (.inl (by decide)) (faR1 (.inl (by decide)) z02)))
 .rintro v54 H55 ⟨G46, O47, s48, sm53, ⟨c50, rfl, f51⟩⟩; exact z02
 rintro v54 H55 ⟨G46, O47, s48, sm53, ⟨c50, rfl, f51⟩⟩
 refine D2.lo rfl rfl (Lo.storeVar (j := 0) (s := T_Q) (y0 := x43) (v := (.agg (List.toArray c50))) (o := 0) rfl ((Put.at (Put.self _) _ _)) rfl sz65 rfl (by omega) rfl f51 O47) ?_ (z07 (by decide) (z07 (by decide) z02)) ?_ ?_
 .rintro v58 H59 ⟨O56, sm57⟩; exact (faR1 (.inl (by decide)) (faR1 (.inl (by decide)) (faR1 (.inl (by decide)) z02)))
 .rintro v58 H59 ⟨O56, sm57⟩; exact z02
 rintro v58 H59 ⟨O56, sm57⟩
 refine .nil (.ret ?_)
 obtain ⟨c60, p61, f62⟩ := (O56.atVar (j := 0) rfl)
 have O63 : Ow G46 H59 (eVar b7 65 T_Q p1 :: eVar b2 65 T_Q p0 :: L) := O56.drop 0
 have O64 : Ow G46 H59 (eVar b2 65 T_Q p0 :: L) := O63.drop 0
 have O65 : Ow G46 H59 (L) := O64.drop 0
 obtain rfl := zAa h45
 exact z16 kr (v1 := (.agg (List.toArray c60))) (by rfl) (z2d (p := (.pointer (some ⟨b12, 0, none⟩))) (by rfl) ag65 sz65 (by exact rfl) p61 (RT.len _ f62)) O65 (zAe s32 s48) ⟨c60, rfl, f62⟩
end Go.Am.Tryd
