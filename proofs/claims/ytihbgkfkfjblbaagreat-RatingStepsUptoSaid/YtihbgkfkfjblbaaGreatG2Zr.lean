/- Slices of slices that are written: a piece with all its rows; a row may be taken out and laid back. -/
import Derived.Test.YtihbgkfkfjblbaaGreatG1Zr
import Derived.Test.YtihbgkfkfjblbaaGreatProg
import Derived.BigRegion
import Derived.Laws.Strings
import Derived.Shelf.Strings.Search1
set_option maxRecDepth 100000
set_option maxHeartbeats 8000000
set_option linter.unusedVariables false
set_option linter.unusedSimpArgs false
namespace Go.Am
open Go
noncomputable section
structure RowsOk {α : Type} (v : Value) (e : TypeId) (ws : List Value) (hs : List Nat) (e2 : TypeId) (r : RT α) (xss : List (List α)) (G M : GM) : Prop where
 out : SlO e 1 M v (ws.map fun w => [w])
 one : ∀ w ∈ ws, okCells [w] = true
 len : ws.length = xss.length
 row : ∀ i w, i ∉ hs -> ws[i]? = some w -> ∃ es xs, xss[i]? = some xs /\ SlO e2 r.sz M w es /\ All2 (r.rep G) es xs
 dis : ∀ i j w u, i ≠ j -> i ∉ hs -> j ∉ hs -> ws[i]? = some w -> ws[j]? = some u -> ∀ b ∈ zag w, b ∉ zag u
 off : ∀ i w, i ∉ hs -> ws[i]? = some w -> ∀ b ∈ zag w, b ∉ zag v
theorem SlO.loc {e : TypeId} {sz : Nat} {M M' : GM} {v : Value} {es : List (List Value)} (hl : ∀ b ∈ zag v, M' b = M b) (h : SlO e sz M v es) : SlO e sz M' v es := by
 rcases h with h1 | ⟨b, tg, cap, rest, sz', rfl, hb, h⟩
 ·exact .inl h1
 ·exact .inr ⟨b, tg, cap, rest, sz', rfl, by rw [hl b (by simp [zag]), hb], h⟩
theorem SlO.bnd {e : TypeId} {sz : Nat} {M : GM} {v : Value} {es : List (List Value)} (h : SlO e sz M v es) : ∀ b ∈ zag v, ∃ k, M b = some k := fun c hc => by
 rcases h with ⟨rfl, _⟩ | ⟨b, tg, cap, rest, sz', rfl, hb, h⟩
 ·simp [zag] at hc
 ·simp [zag] at hc; subst hc; exact ⟨_, hb⟩
section
variable {α : Type} {r : RT α} {G : GM} {H H1 : AH} {L : List Pc} {v w w' u : Value} {e e2 : TypeId} {ws : List Value} {hs : List Nat} {xss : List (List α)} {xs : List α} {i j k : Nat}
end
section
variable {P : Program} {n : Nat} {σ : Nat -> Value} {H H1 : AH} {d : Tmp} {dd : Option Tmp} {ty t e e2 : TypeId} {pos : String} {af : Array Edge} {g : Option (Nat × Bool)} {v u w w' : Value} {x y : Operand}
 {G : GM} {L : List Pc} {j i : Nat} {α : Type} {r : RT α} {ws : List Value} {xss : List (List α)}
end
end
end Go.Am
/- Reads in an open region through a pointer that is known only by an equation. -/
namespace Go.Am
open Go
theorem gap {α : Type} {r : α} {C : Prop} (h : (none : Option α) = some r) : C := by cases h
section
variable {α : Type} {r : RT α} {G : GM} {b N : Nat} {xs : List α}
variable {P : Program} {d : Tmp} {ty t e : TypeId} {pos : String} {af : Array Edge} {g : Option (Nat × Bool)} {x : Operand} {s : List Value}
end
section
variable {P : Program} {n : Nat} {σ : Nat -> Value} {G : GM} {H : AH} {ops : Array Oper} {l : List Oper} {d : Tmp} {ty t u e : TypeId} {pos : String} {af : Array Edge} {g : Option (Nat × Bool)} {x : Operand}
theorem zl6 : ∀ (es : List (List Value)) (xs : List Int), All2 ((rI .u8).rep G) es xs -> z37 es.flatten = some xs
 | _, _, .nil => rfl
 | _, _, .cons h r => by
  cases h
  have := zl6 _ _ r
  simp [z37, this]
theorem W.bytesStr {Q : (Nat -> Value) -> AH -> Prop} {es : List (List Value)} {xs : List Int} (hg : gok n ops σ g true) (hd : (Nat.blt d n && ook n x) = true) (he : z8t P t = some e) (hi : intT P e = some .u8) (hu : P.underlying u = some .string)
  (hs : SlG H.get 1 (oval σ x) es) (h2 : All2 ((rI .u8).rep G) es xs) (h0 : 0 < xs.length) (hr : AWO P n ops l (up σ d (.string (strOfNums xs))) H Q) : AWO P n ops (⟨some d, .convert t u x, ty, pos, af, g⟩ :: l) σ H Q := by
 simp only [Bool.and_eq_true] at hd
 have hl := h2.length
 obtain ⟨_, ⟨_, h⟩ | ⟨b, off, tg, cap, k, h3, h4, h5, h6, _⟩ | ⟨_, _, _, _, _, h, _⟩⟩ := hs
 ·rw [h] at hl; simp at hl; omega
 ·have hx := z3b (σ := σ) hd.2
  rw [h3] at hx
  rw [Nat.mul_one] at h5 h6
  refine W.read hg hd.1 ?_ ?_ hr
  ·simp [z2g, agen, zem, Op.operands, hx, closed, z1y]
  ·simp [z94, hx, z8c, z05 he, hu, h4, zbq hi, h5, h6, zl6 es xs h2]
 ·rw [h] at hl; simp at hl; omega
end
end Go.Am
/- Parts of texts and of slices. -/
namespace Go.Am
open Go
section
variable {P : Program} {d : Tmp} {ty t e : TypeId} {pos : String} {af : Array Edge} {g : Option (Nat × Bool)} {x xl xh : Operand} {s : List Value} {a r : zAd} {k k2 : IntKind} {l h : Int}
theorem zl7 (q : ssl a l h = some r) : 0 <= l /\ l <= h /\ h <= a.size /\ r = a.extract l.toNat h.toNat := by
 unfold ssl at q
 split at q
 ·rename_i c; cases q; exact ⟨c.1, c.2.1, c.2.2, rfl⟩
 ·cases q
theorem zfj {y : Nat} {c : BoundsCode} (h0 : 0 <= l) (h1 : l <= y) : (Instr.sliceBound (.int k l) y c).pureRun P = some l.toNat := by
 unfold Instr.sliceBound
 simp [asIntOf, z0e, z0x, h0, h1]
theorem zl8 (hu : P.underlying t = some .string) (hx : opnd s x = some (.string a)) (hl : opnd s xl = some (.int k l)) (hh : opnd s xh = some (.int k2 h)) (q : ssl a l h = some r) : z2g P s ⟨some d, .slice t x (some xl) (some xh) none, ty, pos, af, g⟩ = some (.string r) := by
 obtain ⟨h1, h2, h3, rfl⟩ := zl7 q
 have hc : ∀ b, closed (.string b) = true := fun _ => rfl
 have hi : ∀ k i, closed (.int k i) = true := fun _ _ => rfl
 have hl' : l <= (h.toNat : Nat) := by omega
 simp [z2g, hx, hl, hh, agen, zem, Op.operands, hc, hi, execOp, Instr.sliceAt, Instr.slice, Instr.sliceBounds, z0e, z29, z0x, z10 hu, zfj (show 0 <= h by omega) h3, zfj h1 hl']
theorem zho (hu : P.underlying t = some .string) (hx : opnd s x = some (.string a)) (hl : opnd s xl = some (.int k l)) (q : ssl a l (a.size : Int) = some r) : z2g P s ⟨some d, .slice t x (some xl) none none, ty, pos, af, g⟩ = some (.string r) := by
 obtain ⟨h1, h2, h3, rfl⟩ := zl7 q
 have hc : ∀ b, closed (.string b) = true := fun _ => rfl
 have hi : ∀ k i, closed (.int k i) = true := fun _ _ => rfl
 simp [z2g, hx, hl, agen, zem, Op.operands, hc, hi, execOp, Instr.sliceAt, Instr.slice, Instr.sliceBounds, z0e, z29, z0x, z10 hu, zfj h1 h2]
theorem zl9 (hu : P.underlying t = some .string) (hx : opnd s x = some (.string a)) (hh : opnd s xh = some (.int k2 h)) (q : ssl a 0 h = some r) : z2g P s ⟨some d, .slice t x none (some xh) none, ty, pos, af, g⟩ = some (.string r) := by
 obtain ⟨h1, h2, h3, rfl⟩ := zl7 q
 have hc : ∀ b, closed (.string b) = true := fun _ => rfl
 have hi : ∀ k i, closed (.int k i) = true := fun _ _ => rfl
 simp [z2g, hx, hh, agen, zem, Op.operands, hc, hi, execOp, Instr.sliceAt, Instr.slice, Instr.sliceBounds, z0e, z29, z0x, z10 hu, zfj (show 0 <= h by omega) h3]
end
section
variable {α : Type} {R : RT α} {G : GM} {P : Program} {d : Tmp} {ty t e : TypeId} {pos : String} {af : Array Edge} {g : Option (Nat × Bool)} {x xl xh : Operand} {k k2 : IntKind} {v : Value} {xs ys : List α}
theorem zrq (f : (rSl R).rep G [v] xs) : ∃ a n c, v = .slice a n c := by
 obtain ⟨v', es, hv, ⟨_, ⟨h, _⟩ | ⟨b, off, tg, cap, k, h, _⟩ | ⟨b, off, tg, cap, h, _⟩⟩, _⟩ := f
 ·cases hv; exact ⟨_, _, _, h⟩
 ·cases hv; exact ⟨_, _, _, h⟩
 ·cases hv; exact ⟨_, _, _, h⟩
theorem zii {sz : Nat} : ∀ (es : List (List Value)) (k : Nat), (∀ x ∈ es, x.length = sz) -> es.flatten.drop (k * sz) = (es.drop k).flatten
 | [], _, _ => by simp
 | x :: r, 0, _ => by simp
 | x :: r, k + 1, h => by
  have h1 := h x (by simp)
  have := zii r k (fun y hy => h y (by simp [hy]))
  rw [List.drop_succ_cons, List.flatten_cons, Nat.add_mul, Nat.one_mul, Nat.add_comm, <- h1, List.drop_length_add_append, h1, this]
theorem zgp {sz : Nat} : ∀ (es : List (List Value)) (k : Nat), (∀ x ∈ es, x.length = sz) -> es.flatten.take (k * sz) = (es.take k).flatten
 | [], _, _ => by simp
 | x :: r, 0, _ => by simp
 | x :: r, k + 1, h => by
  have h1 := h x (by simp)
  have := zgp r k (fun y hy => h y (by simp [hy]))
  rw [List.take_succ_cons, List.flatten_cons, List.flatten_cons, Nat.add_mul, Nat.one_mul, Nat.add_comm, <- h1, List.take_length_add_append, h1, this]
theorem zla (f : (rSl R).rep G [v] xs) (he : z8t P t = some e) (hz : szT P e = some R.sz) {lo hi : Option Value} {l h : Nat} (hlo : (lo = none /\ l = 0) \/ ∃ k, lo = some (.int k l)) (hhi : (hi = none /\ h = xs.length) \/ ∃ k, hi = some (.int k h)) (hl : l <= h) (hh : h <= xs.length) :
  ∃ w, zcv P t v lo hi none = some w /\ (rSl R).rep G [w] ((xs.drop l).take (h - l)) := by
 obtain ⟨inf, hinf, hsz⟩ := z6z hz
 obtain ⟨v', es, hv, ⟨hes, hs⟩, h2⟩ := f
 cases hv
 have hlen := h2.length
 have hbl : ∀ y, h <= y -> (bnd lo 0 h) = some l := fun y _ => by
  rcases hlo with ⟨rfl, rfl⟩ | ⟨k, rfl⟩
  ·rfl
  ·simp [bnd, hl]
 have hbh : ∀ len cap, len = xs.length -> h <= cap -> bnd hi len cap = some h := fun len cap e1 e2 => by
  rcases hhi with ⟨rfl, rfl⟩ | ⟨k, rfl⟩
  ·simp [bnd, e1]
  ·simp [bnd, e2]
 rcases hs with ⟨rfl, rfl⟩ | ⟨b, off, tg, cap, k, rfl, h3, h4, h5, h6, h7⟩ | ⟨b, off, tg, cap, rfl, rfl, h7⟩
 ·have e0 : xs.length = 0 := by simpa using hlen.symm
  have e1 : h = 0 := by omega
  subst e1
  have e2 : l = 0 := by omega
  subst e2
  refine ⟨.slice none 0 0, ?_, ?_⟩
  ·simp [zcv, z05 he, hinf, hbh 0 0 e0.symm (Nat.le_refl _), hbl 0 (Nat.le_refl _), show bnd none 0 0 = some 0 from rfl]
  ·simpa using (znl : (rSl R).rep G [.slice none 0 0] [])
 ·refine ⟨.slice (some ⟨b, off + l * R.sz, tg⟩) (h - l) (cap - l), ?_, ?_⟩
  ·simp only [zcv, z05 he, hinf, Option.bind_some, hbh _ _ hlen (show h <= cap by omega), hbl h (Nat.le_refl _), hsz]
   rw [if_pos ⟨h6, h7⟩]
  ·have hl2 : ((es.drop l).take (h - l)).length = h - l := by rw [List.length_take, List.length_drop]; omega
   refine ⟨_, (es.drop l).take (h - l), rfl, ⟨fun c hc => hes c (List.mem_of_mem_drop (List.mem_of_mem_take hc)), .inr (.inl ⟨b, off + l * R.sz, tg, cap - l, k, by rw [hl2], h3, ?_, ?_, by rw [hl2]; omega, h7⟩)⟩, (h2.drop l).take (h - l)⟩
   ·rw [hl2]
    have : (l + (h - l)) * R.sz <= es.length * R.sz := Nat.mul_le_mul_right _ (by omega)
    rw [Nat.add_mul] at this
    omega
   ·rw [hl2, <- List.drop_drop, <- zgp _ _ (fun c hc => hes c (List.mem_of_mem_drop hc)), <- zii _ _ hes, <- h5, List.drop_take, List.take_take]
    congr 1
    have h8 : (h - l) * R.sz <= es.length * R.sz - l * R.sz := by rw [<- Nat.sub_mul]; exact Nat.mul_le_mul_right _ (by omega)
    omega
 ·have e0 : xs.length = 0 := by simpa using hlen.symm
  have e1 : h = 0 := by omega
  subst e1
  have e2 : l = 0 := by omega
  subst e2
  refine ⟨.slice (some ⟨b, off + 0 * R.sz, tg⟩) 0 cap, ?_, ?_⟩
  ·simp only [zcv, z05 he, hinf, Option.bind_some, hbh _ _ e0.symm (Nat.zero_le _), hbl 0 (Nat.le_refl _), hsz]
   rw [if_pos ⟨Nat.zero_le _, h7⟩]
   simp
  ·simp only [List.drop_zero, Nat.sub_zero, List.take_zero]
   exact ⟨_, [], rfl, ⟨by simp, .inr (.inr ⟨b, off + 0 * R.sz, tg, cap, rfl, rfl, h7⟩)⟩, .nil⟩
theorem zox {l h : Int} (q : lsl xs l h = some ys) : ∃ l' h' : Nat, l = l' /\ h = h' /\ l' <= h' /\ h' <= xs.length /\ ys = (xs.drop l').take (h' - l') := by
 unfold lsl at q
 split at q
 ·rename_i c; cases q; exact ⟨l.toNat, h.toNat, by omega, by omega, by omega, by omega, rfl⟩
 ·cases q
theorem zrr {h : Int} (f : (rSl R).rep G [v] xs) (he : z8t P t = some e) (hz : szT P e = some R.sz) (q : lsl xs 0 h = some ys) : ∃ w, (∀ {s : List Value} {d ty pos af g x xh k2}, opnd s x = some v -> opnd s xh = some (.int k2 h) -> z2g P s ⟨some d, .slice t x none (some xh) none, ty, pos, af, g⟩ = some w) /\ (rSl R).rep G [w] ys := by
 obtain ⟨l', h', h0, rfl, h1, h2, rfl⟩ := zox q
 obtain rfl : l' = 0 := by omega
 obtain ⟨a, n, c, rfl⟩ := zrq f
 obtain ⟨w, h3, h4⟩ := zla f he hz (lo := none) (hi := some (.int .i64 h')) (.inl ⟨rfl, rfl⟩) (.inr ⟨_, rfl⟩) h1 h2
 refine ⟨w, fun {s d ty pos af g x xh k2} hx hh => ?_, h4⟩
 have h6 : zcv P t (.slice a n c) none (some (.int k2 h')) none = zcv P t (.slice a n c) none (some (.int .i64 h')) none := rfl
 simp [z2g, hx, zn3, hh, h6, h3]
theorem Ow.pre {H : AH} {L : List Pc} {j : Nat} {h : Int} (O : Ow G H L) (hj : L[j]? = some (eSl v e R xs)) (he : z8t P t = some e) (hz : szT P e = some R.sz) (q : lsl xs 0 h = some ys) : ∃ w, (∀ {s : List Value} {d ty pos af g x xh k2}, opnd s x = some v -> opnd s xh = some (.int k2 h) -> z2g P s ⟨some d, .slice t x none (some xh) none, ty, pos, af, g⟩ = some w) /\ Ow G H (L.set j (eSl w e R ys)) := by
 obtain ⟨l', h', h0, rfl, h1, h2, rfl⟩ := zox q
 obtain rfl : l' = 0 := by omega
 obtain ⟨inf, hinf, hsz⟩ := z6z hz
 obtain ⟨es, hs, hr⟩ := O.ok j _ hj
 have hlen := hr.length
 have hb0 : ∀ y, bnd none 0 y = some 0 := fun y => by simp [bnd]
 rcases hs with ⟨rfl, rfl⟩ | ⟨b, tg, cap, rest, sz', rfl, hb, hl, hcap, htg⟩
 ·have e0 : xs.length = 0 := by simpa using hlen.symm
  obtain rfl : h' = 0 := by omega
  refine ⟨.slice none 0 0, fun {s d ty pos af g x xh k2} hx hh => ?_, ?_⟩
  ·simp [z2g, hx, zn3, hh, zcv, z05 he, hinf, bnd]
  ·refine O.put hj _ (fun b hb => .inl hb) ⟨[], .inl ⟨rfl, rfl⟩, by simpa using All2.nil⟩ fun b k hk _ => hk
 ·refine ⟨.slice (some ⟨b, 0, tg⟩) h' cap, fun {s d ty pos af g x xh k2} hx hh => ?_, ?_⟩
  ·have hbh : bnd (some (.int k2 (h' : Int))) es.length cap = some h' := by simp [bnd]; omega
   have htt : tg = none \/ tg = some 0 := htg.imp And.left id
   simp only [z2g, hx, zn3, hh, Option.bind_some, Option.map_some, zcv, z05 he, hinf, hbh, hb0]
   rw [if_pos ⟨hcap, htt⟩]
   simp
  ·refine O.put hj _ (fun b hb => .inl hb) ⟨es.take h', .inr ⟨b, tg, cap, (es.drop h').flatten ++ rest, sz', ?_, ?_, ?_, ?_, htg⟩, by simpa using hr.take h'⟩ fun b k hk _ => hk
   ·rw [List.length_take]; congr 1; omega
   ·rw [hb, <- List.append_assoc, <- List.flatten_append, List.take_append_drop]
   ·rw [<- List.append_assoc, <- List.flatten_append, List.take_append_drop]; exact hl
   ·rw [List.length_take]; omega
theorem Ow.view {H : AH} {L : List Pc} {j : Nat} {h : Int} (O : Ow G H L) (hj : L[j]? = some (eSl v e R xs)) (he : z8t P t = some e) (hz : szT P e = some R.sz) (q : lsl xs 0 h = some ys) : ∃ w, (∀ {s : List Value} {d ty pos af g x xh k2}, opnd s x = some v -> opnd s xh = some (.int k2 h) -> z2g P s ⟨some d, .slice t x none (some xh) none, ty, pos, af, g⟩ = some w) /\ zov w ys.length := by
 obtain ⟨w, h1, h2⟩ := O.pre hj he hz q
 refine ⟨w, h1, ?_⟩
 have hjl : j < L.length := (zAi hj).1
 exact h2.slLen (j := j) (e := e) (r := R) (by rw [List.getElem?_set]; simp [hjl])
end
section
variable {P : Program} {d : Tmp} {ty src dst : TypeId} {pos : String} {af : Array Edge} {g : Option (Nat × Bool)} {x : Operand} {s : List Value} {a : zAd} {k k1 : IntKind} {n : Int}
theorem zuf {t : TypeId} (hx : opnd s x = some (.int k n)) : z2g P s ⟨some d, .unOp .neg t x, ty, pos, af, g⟩ = some (.int k (z03 k (-n))) := by
 have hc : ∀ k n, closed (.int k n) = true := fun _ _ => rfl
 have hq : (Op.unary .neg (.int k n)).pureRun P = some (.int k (z03 k (-n))) := by rw [z8b, <- Int.zero_sub]; rfl
 simp [z2g, hx, agen, zem, Op.operands, hc, execOp, z0e, z29, z0x, hq]
theorem zq0 (h1 : intT P src = some k1) (h2 : P.underlying dst = some .string) (hx : opnd s x = some (.int k n)) : z2g P s ⟨some d, .convert src dst x, ty, pos, af, g⟩ = some (.string (Utf8.encode n)) := by
 have hc : ∀ k n, closed (.int k n) = true := fun _ _ => rfl
 have hs : ∀ b, closed (.string b) = true := fun _ => rfl
 have hq : (convert src dst (.int k n)).pureRun P = some (.string (Utf8.encode n)) := by
  unfold convert
  rw [z0e, z10 (zbq h1), Option.bind_some, z0e, z10 h2]
  rfl
 simp [z2g, hx, agen, zem, Op.operands, hc, hs, execOp, z0e, z29, z0x, hq]
end
end Go.Am
/- Short rules for printed walks. -/
namespace Go.Am
open Go
noncomputable section
section
variable {P : Program} {n : Nat} {σ : Nat -> Value} {H H1 : AH} {ops : Array Oper} {l : List Oper} {Q : (Nat -> Value) -> AH -> Prop} {d : Tmp} {dd : Option Tmp} {ty t yt e : TypeId} {pos : String} {af : Array Edge} {g : Option (Nat × Bool)} {x y c : Operand}
 {M : List Nat} {N0 m : Nat} {R : zaa} {L : zau} {A : zbr} {i : Nat} {op : Op}
theorem W.q1 (v : Value) (h : oval σ x = v) (hr : AWO P n ops l (up σ d v) H Q) (hg : gok n ops σ g true := by rfl) (hd : Nat.blt d n = true := by rfl) (hx : ook n x = true := by rfl) : AWO P n ops (⟨some d, .assign x, ty, pos, af, g⟩ :: l) σ H Q :=
 W.pure hg hd (zkv (oo hx h)) hr
theorem W.q2 (v : Value) (h : oval σ x = v) (hr : AWO P n ops l (up σ d v) H Q) (hg : gok n ops σ g true := by rfl) (hd : Nat.blt d n = true := by rfl) (hx : ook n x = true := by rfl) : AWO P n ops (⟨some d, .move x, ty, pos, af, g⟩ :: l) σ H Q :=
 W.pure hg hd (zrl (oo hx h)) hr
theorem W.q3 (v : Value) {bop : BinOp} {k : IntKind} {a b : Int} (h1 : oval σ x = .int k a) (h2 : oval σ y = .int k b) (hr : AWO P n ops l (up σ d v) H Q) (hg : gok n ops σ g true := by rfl) (hd : Nat.blt d n = true := by rfl) (hx : ook n x = true := by rfl) (hy : ook n y = true := by rfl) (hv : aint bop k a b = some v := by rfl) :
  AWO P n ops (⟨some d, .binOp bop t x y yt, ty, pos, af, g⟩ :: l) σ H Q :=
 W.pure hg hd (zt9 (oo hx h1) (oo hy h2) hv) hr
theorem W.q4 (v : Value) (hc : oval σ c = .bool true) (h : oval σ x = v) (hr : AWO P n ops l (up σ d v) H Q) (hg : gok n ops σ g true := by rfl) (hd : Nat.blt d n = true := by rfl) (h1 : ook n c = true := by rfl) (hx : ook n x = true := by rfl) : AWO P n ops (⟨some d, .pick c x y, ty, pos, af, g⟩ :: l) σ H Q :=
 W.pure hg hd (z68 (oo h1 hc) (oo hx h)) hr
theorem W.q5 (v : Value) (hc : oval σ c = .bool false) (h : oval σ y = v) (hr : AWO P n ops l (up σ d v) H Q) (hg : gok n ops σ g true := by rfl) (hd : Nat.blt d n = true := by rfl) (h1 : ook n c = true := by rfl) (hy : ook n y = true := by rfl) : AWO P n ops (⟨some d, .pick c x y, ty, pos, af, g⟩ :: l) σ H Q :=
 W.pure hg hd (z8u (oo h1 hc) (oo hy h)) hr
theorem W.q6 {j : Nat} {want b : Bool} {d' : Tmp} (h1 : (ops[j]?).bind (·.dst) = some d') (h3 : σ d' = .bool b) (hr : AWO P n ops l (upo σ dd undef) H Q) (h2 : Nat.blt d' n = true := by rfl) (h4 : (b == want) = false := by rfl) (hd : dok n dd = true := by rfl) : AWO P n ops (⟨dd, op, ty, pos, af, some (j, want)⟩ :: l) σ H Q :=
 W.skip (gk h1 h2 h3 h4) hd hr
theorem D2.q1 (v : Value) (h : oval σ x = v) (hr : AWD2 P n ops M N0 l (i + 1) R L A (up σ d v) H Q) (hg : gok n ops σ g true := by rfl) (hd : Nat.blt d n = true := by rfl) (hx : ook n x = true := by rfl) : AWD2 P n ops M N0 (⟨some d, .assign x, ty, pos, af, g⟩ :: l) i R L A σ H Q :=
 D2.pure hg hd (zkv (oo hx h)) hr
theorem D2.q2 (v : Value) (h : oval σ x = v) (hr : AWD2 P n ops M N0 l (i + 1) R L A (up σ d v) H Q) (hg : gok n ops σ g true := by rfl) (hd : Nat.blt d n = true := by rfl) (hx : ook n x = true := by rfl) : AWD2 P n ops M N0 (⟨some d, .move x, ty, pos, af, g⟩ :: l) i R L A σ H Q :=
 D2.pure hg hd (zrl (oo hx h)) hr
theorem D2.q3 (v : Value) {bop : BinOp} {k : IntKind} {a b : Int} (h1 : oval σ x = .int k a) (h2 : oval σ y = .int k b) (hr : AWD2 P n ops M N0 l (i + 1) R L A (up σ d v) H Q) (hg : gok n ops σ g true := by rfl) (hd : Nat.blt d n = true := by rfl) (hx : ook n x = true := by rfl) (hy : ook n y = true := by rfl) (hv : aint bop k a b = some v := by rfl) :
  AWD2 P n ops M N0 (⟨some d, .binOp bop t x y yt, ty, pos, af, g⟩ :: l) i R L A σ H Q :=
 D2.pure hg hd (zt9 (oo hx h1) (oo hy h2) hv) hr
theorem W.pv {op : Op} (v : Value) (h : z2g P (toL n σ) ⟨some d, op, ty, pos, af, g⟩ = some v) (hr : AWO P n ops l (up σ d v) H Q) (hg : gok n ops σ g true := by rfl) (hd : Nat.blt d n = true := by rfl) : AWO P n ops (⟨some d, op, ty, pos, af, g⟩ :: l) σ H Q := W.pure hg hd h hr
theorem D2.pv {op : Op} (v : Value) (h : z2g P (toL n σ) ⟨some d, op, ty, pos, af, g⟩ = some v) (hr : AWD2 P n ops M N0 l (i + 1) R L A (up σ d v) H Q) (hg : gok n ops σ g true := by rfl) (hd : Nat.blt d n = true := by rfl) : AWD2 P n ops M N0 (⟨some d, op, ty, pos, af, g⟩ :: l) i R L A σ H Q := D2.pure hg hd h hr
theorem W.p1 (v : Value) (hr : AWO P n ops l (up σ d v) H Q) (h : oval σ x = v := by rfl) (hg : gok n ops σ g true := by rfl) (hd : Nat.blt d n = true := by rfl) (hx : ook n x = true := by rfl) : AWO P n ops (⟨some d, .assign x, ty, pos, af, g⟩ :: l) σ H Q := W.q1 v h hr hg hd hx
theorem W.p2 (v : Value) (hr : AWO P n ops l (up σ d v) H Q) (h : oval σ x = v := by rfl) (hg : gok n ops σ g true := by rfl) (hd : Nat.blt d n = true := by rfl) (hx : ook n x = true := by rfl) : AWO P n ops (⟨some d, .move x, ty, pos, af, g⟩ :: l) σ H Q := W.q2 v h hr hg hd hx
theorem W.p3 (v : Value) {bop : BinOp} {k : IntKind} {a b : Int} (hr : AWO P n ops l (up σ d v) H Q) (h1 : oval σ x = .int k a := by rfl) (h2 : oval σ y = .int k b := by rfl) (hg : gok n ops σ g true := by rfl) (hd : Nat.blt d n = true := by rfl) (hx : ook n x = true := by rfl) (hy : ook n y = true := by rfl) (hv : aint bop k a b = some v := by rfl) : AWO P n ops (⟨some d, .binOp bop t x y yt, ty, pos, af, g⟩ :: l) σ H Q := W.q3 v h1 h2 hr hg hd hx hy hv
theorem W.r3 (v : Value) {bop : BinOp} {k : IntKind} {a b : Int} (h1 : oval σ x = .int k a) (hr : AWO P n ops l (up σ d v) H Q) (h2 : oval σ y = .int k b := by rfl) (hg : gok n ops σ g true := by rfl) (hd : Nat.blt d n = true := by rfl) (hx : ook n x = true := by rfl) (hy : ook n y = true := by rfl) (hv : aint bop k a b = some v := by rfl) : AWO P n ops (⟨some d, .binOp bop t x y yt, ty, pos, af, g⟩ :: l) σ H Q := W.q3 v h1 h2 hr hg hd hx hy hv
theorem D2.p1 (v : Value) (hr : AWD2 P n ops M N0 l (i + 1) R L A (up σ d v) H Q) (h : oval σ x = v := by rfl) (hg : gok n ops σ g true := by rfl) (hd : Nat.blt d n = true := by rfl) (hx : ook n x = true := by rfl) : AWD2 P n ops M N0 (⟨some d, .assign x, ty, pos, af, g⟩ :: l) i R L A σ H Q := D2.q1 v h hr hg hd hx
theorem D2.p2 (v : Value) (hr : AWD2 P n ops M N0 l (i + 1) R L A (up σ d v) H Q) (h : oval σ x = v := by rfl) (hg : gok n ops σ g true := by rfl) (hd : Nat.blt d n = true := by rfl) (hx : ook n x = true := by rfl) : AWD2 P n ops M N0 (⟨some d, .move x, ty, pos, af, g⟩ :: l) i R L A σ H Q := D2.q2 v h hr hg hd hx
theorem D2.p3 (v : Value) {bop : BinOp} {k : IntKind} {a b : Int} (hr : AWD2 P n ops M N0 l (i + 1) R L A (up σ d v) H Q) (h1 : oval σ x = .int k a := by rfl) (h2 : oval σ y = .int k b := by rfl) (hg : gok n ops σ g true := by rfl) (hd : Nat.blt d n = true := by rfl) (hx : ook n x = true := by rfl) (hy : ook n y = true := by rfl) (hv : aint bop k a b = some v := by rfl) : AWD2 P n ops M N0 (⟨some d, .binOp bop t x y yt, ty, pos, af, g⟩ :: l) i R L A σ H Q := D2.q3 v h1 h2 hr hg hd hx hy hv
theorem W.l1 (v : Value) (ha : z2w P t = some false) (hp : Pt H (oval σ x) (v :: [])) (hr : AWO P n ops l (up σ d v) H Q) (hg : gok n ops σ g true := by rfl) (hd : (Nat.blt d n && ook n x) = true := by rfl) : AWO P n ops (⟨some d, .load t x, ty, pos, af, g⟩ :: l) σ H Q := W.load1 hg hd ha hp hr
theorem D2.l1 (v : Value) (ha : z2w P t = some false) (hp : Pt H (oval σ x) (v :: [])) (hL : ∀ q ∈ L, (M.getD i 0).testBit q.1 = true \/ q.2.2.get (z9z (oval σ x)) = q.2.1.get (z9z (oval σ x))) (hr : AWD2 P n ops M N0 l (i + 1) ((i, z9z (oval σ x)) :: R) L A (up σ d v) H Q) (hg : gok n ops σ g true := by rfl) (hd : (Nat.blt d n && ook n x) = true := by rfl) : AWD2 P n ops M N0 (⟨some d, .load t x, ty, pos, af, g⟩ :: l) i R L A σ H Q := D2.load1' hg hd ha hp hL hr
theorem smI {G : GM} {L0 : List Pc} {j c : Nat} {p : Pc} (sm : Same G L0 H H1) (h : L0[j]? = some p := by rfl) (hf : p.foot = [c] := by rfl) : H1.get c = H.get c := sm _ (Or.inr ⟨j, p, h, by rw [hf]; exact List.mem_singleton.2 rfl⟩)
theorem gl {j : Nat} {want b r : Bool} {d : Tmp} (h1 : (ops[j]?).bind (·.dst) = some d) (h3 : σ d = .bool b) (h2 : Nat.blt d n = true := by rfl) (h4 : (b == want) = r := by rfl) : gok n ops σ (some (j, want)) r := gk h1 h2 h3 h4
theorem faI {m j b : Nat} {R : zaa} {A B : AH} (hl : ∀ r ∈ R, m.testBit r.1 = true \/ B.get r.2 = A.get r.2) (h : m.testBit j = true := by decide) : ∀ r ∈ (j, b) :: R, m.testBit r.1 = true \/ B.get r.2 = A.get r.2 := faR1 (.inl h) hl
theorem faK {m j : Nat} {A B : AH} {L : zau} (hl : ∀ q ∈ L, m.testBit q.1 = true) (h : m.testBit j = true := by decide) : ∀ q ∈ (j, A, B) :: L, m.testBit q.1 = true := zrk h hl
theorem ft {a b c : Value} (h : a = b) (k : b = c) : a = c := h.trans k
theorem W.ln {Φ : Value -> AH -> Prop} (hs : Loud P n ⟨dd, op, ty, pos, af, g⟩ σ H Φ) (hr : ∀ v H1, Φ v H1 -> AWO P n ops l (upo σ dd v) H1 Q) (hg : gok n ops σ g true := by rfl) (hd : dok n dd = true := by rfl) : AWO P n ops (⟨dd, op, ty, pos, af, g⟩ :: l) σ H Q := W.lo hg hd hs hr
theorem ov {v : Value} (h : ook n x = true := by rfl) (hv : oval σ x = v := by rfl) : opnd (toL n σ) x = some v := oo h hv
theorem ou {v : Value} (hv : oval σ x = v) (h : ook n x = true := by rfl) : opnd (toL n σ) x = some v := oo h hv
theorem rt {v : Value} {t : Tmp} (ht : Nat.blt t n = true := by rfl) (hv : σ t = v := by rfl) : RR P n σ H (.tmp t) v := zhn ht hv
theorem Lo.cQ {G : GM} {Ls : List Pc} {f : FuncId} {args : Array Operand} {ats : Array TypeId} {al : List Value} (fn : Func) {Ψ : Value -> GM -> Prop} (ha : args.toList.map (oval σ) = al) (O : Ow G H ([] ++ Ls)) (hc : ∀ L, Ow G H ([] ++ L) -> CR P f al G H ([] ++ L) fun v G' _ => Ψ v G') (hd : args.toList.all (ook n) = true := by rfl) (hf : P.funcs[f]? = some fn := by kernel_rfl) (hnm : (fn.name == "runtime.NumGoroutine" || fn.body.isNone) = false := by rfl) :
  Loud P n ⟨some d, .call ⟨.value (.func f), args, ats⟩, ty, pos, af, g⟩ σ H fun v H1 => ∃ G', Ow G' H1 ([] ++ Ls) /\ G.le G' /\ Same G Ls H H1 /\ Ψ v G' := Lo.callP hd hf hnm ha O hc
theorem Lo.qF {G : GM} {Ls : List Pc} {f : FuncId} {args : Array Operand} {ats : Array TypeId} {al : List Value} (fn : Func) {ps : List Pc} {pw : Value -> List Pc} {Ψ : Value -> Value -> GM -> Prop} (ha : args.toList.map (oval σ) = al) (O : Ow G H (ps ++ Ls)) (hc : ∀ L, Ow G H (ps ++ L) -> CRF P f al G H (fun w => pw w ++ L) Ψ) (hd : args.toList.all (ook n) = true := by rfl) (hf : P.funcs[f]? = some fn := by kernel_rfl) (hnm : (fn.name == "runtime.NumGoroutine" || fn.body.isNone) = false := by rfl) :
  Loud P n ⟨some d, .call ⟨.value (.func f), args, ats⟩, ty, pos, af, g⟩ σ H fun v H1 => ∃ w G', Ow G' H1 (pw w ++ Ls) /\ G.le G' /\ Same G Ls H H1 /\ Ψ w v G' := Lo.callPF hd hf hnm ha O hc
end
end
end Go.Am
/- What the proofs ask of the program's types. -/
namespace Go.Am.Tryz
open Go Go.Am Go.Proofs
theorem in2 : intT Tryz.prog 2 = some Go.IntKind.i64 := by kernel_rfl
theorem sz3 : szT Tryz.prog 3 = some 1 := by kernel_rfl
theorem ze3 : (Tryz.prog.info? 3).bind (·.zero) = some (Go.Value.int Go.IntKind.i64 0) := by kernel_rfl
theorem ag3 : z2w Tryz.prog 3 = some false := by kernel_rfl
theorem by3 : ((Tryz.prog.info? 3).map (·.bytes)) = some 8 := by kernel_rfl
theorem in3 : intT Tryz.prog 3 = some Go.IntKind.i64 := by kernel_rfl
theorem sz4 : szT Tryz.prog 4 = some 1 := by kernel_rfl
theorem ze4 : (Tryz.prog.info? 4).bind (·.zero) = some (Go.Value.bool false) := by kernel_rfl
theorem ag4 : z2w Tryz.prog 4 = some false := by kernel_rfl
theorem by4 : ((Tryz.prog.info? 4).map (·.bytes)) = some 1 := by kernel_rfl
theorem un4 : Tryz.prog.underlying 4 = some Go.TypeDesc.bool := by kernel_rfl
theorem sz5 : szT Tryz.prog 5 = some 1 := by kernel_rfl
theorem ze5 : (Tryz.prog.info? 5).bind (·.zero) = some (Go.Value.int Go.IntKind.u8 0) := by kernel_rfl
theorem ag5 : z2w Tryz.prog 5 = some false := by kernel_rfl
theorem by5 : ((Tryz.prog.info? 5).map (·.bytes)) = some 1 := by kernel_rfl
theorem in5 : intT Tryz.prog 5 = some Go.IntKind.u8 := by kernel_rfl
theorem sz9 : szT Tryz.prog 9 = some 1 := by kernel_rfl
theorem ze9 : (Tryz.prog.info? 9).bind (·.zero) = some (Go.Value.string { data := #[] }) := by kernel_rfl
theorem ag9 : z2w Tryz.prog 9 = some false := by kernel_rfl
theorem by9 : ((Tryz.prog.info? 9).map (·.bytes)) = some 16 := by kernel_rfl
theorem un9 : Tryz.prog.underlying 9 = some Go.TypeDesc.string := by kernel_rfl
theorem sz22 : szT Tryz.prog 22 = some 1 := by kernel_rfl
theorem ze22 : (Tryz.prog.info? 22).bind (·.zero) = some (Go.Value.slice none 0 0) := by kernel_rfl
theorem ag22 : z2w Tryz.prog 22 = some false := by kernel_rfl
theorem ni22 : z8d Tryz.prog 22 = true := by kernel_rfl
theorem el22 : z8t Tryz.prog 22 = some 9 := by kernel_rfl
theorem ag23 : z2w Tryz.prog 23 = some false := by kernel_rfl
theorem ni23 : z8d Tryz.prog 23 = true := by kernel_rfl
theorem el23 : z8t Tryz.prog 23 = some 83 := by kernel_rfl
theorem ag24 : z2w Tryz.prog 24 = some false := by kernel_rfl
theorem ni24 : z8d Tryz.prog 24 = true := by kernel_rfl
theorem el24 : z8t Tryz.prog 24 = some 50 := by kernel_rfl
theorem ag25 : z2w Tryz.prog 25 = some false := by kernel_rfl
theorem ni25 : z8d Tryz.prog 25 = true := by kernel_rfl
theorem el25 : z8t Tryz.prog 25 = some 85 := by kernel_rfl
theorem ag26 : z2w Tryz.prog 26 = some false := by kernel_rfl
theorem ni26 : z8d Tryz.prog 26 = true := by kernel_rfl
theorem el26 : z8t Tryz.prog 26 = some 87 := by kernel_rfl
theorem ag27 : z2w Tryz.prog 27 = some false := by kernel_rfl
theorem ni27 : z8d Tryz.prog 27 = true := by kernel_rfl
theorem el27 : z8t Tryz.prog 27 = some 104 := by kernel_rfl
theorem sz29 : szT Tryz.prog 29 = some 6 := by kernel_rfl
theorem ze29 : (Tryz.prog.info? 29).bind (·.zero) = some (Go.Value.agg #[Go.Value.slice none 0 0, Go.Value.slice none 0 0, Go.Value.slice none 0 0, Go.Value.slice none 0 0, Go.Value.slice none 0 0, Go.Value.slice none 0 0]) := by kernel_rfl
theorem ag29 : z2w Tryz.prog 29 = some true := by kernel_rfl
theorem zo29 : zf2 Tryz.prog 29 = true := by kernel_rfl
theorem pl29 : plcT Tryz.prog 29 = some [(0, 1), (1, 1), (2, 1), (3, 1), (4, 1), (5, 1)] := by kernel_rfl
theorem zhp : fldT Tryz.prog 29 0 = some 0 := by kernel_rfl
theorem zlb : fldT Tryz.prog 29 1 = some 1 := by kernel_rfl
theorem zd8 : fldT Tryz.prog 29 2 = some 2 := by kernel_rfl
theorem zlc : fldT Tryz.prog 29 3 = some 3 := by kernel_rfl
theorem zld : fldT Tryz.prog 29 4 = some 4 := by kernel_rfl
theorem zle : fldT Tryz.prog 29 5 = some 5 := by kernel_rfl
theorem ni30 : z8d Tryz.prog 30 = true := by kernel_rfl
theorem el30 : z8t Tryz.prog 30 = some 39 := by kernel_rfl
theorem ag31 : z2w Tryz.prog 31 = some false := by kernel_rfl
theorem ni31 : z8d Tryz.prog 31 = true := by kernel_rfl
theorem el31 : z8t Tryz.prog 31 = some 3 := by kernel_rfl
theorem el38 : z8t Tryz.prog 38 = some 57 := by kernel_rfl
theorem sz39 : szT Tryz.prog 39 = some 1 := by kernel_rfl
theorem ze39 : (Tryz.prog.info? 39).bind (·.zero) = some (Go.Value.slice none 0 0) := by kernel_rfl
theorem ag39 : z2w Tryz.prog 39 = some false := by kernel_rfl
theorem by39 : ((Tryz.prog.info? 39).map (·.bytes)) = some 24 := by kernel_rfl
theorem el39 : z8t Tryz.prog 39 = some 57 := by kernel_rfl
theorem ag43 : z2w Tryz.prog 43 = some false := by kernel_rfl
theorem el43 : z8t Tryz.prog 43 = some 4 := by kernel_rfl
theorem ni46 : z8d Tryz.prog 46 = true := by kernel_rfl
theorem el46 : z8t Tryz.prog 46 = some 52 := by kernel_rfl
theorem sz50 : szT Tryz.prog 50 = some 9 := by kernel_rfl
theorem ze50 : (Tryz.prog.info? 50).bind (·.zero) = some (Go.Value.agg #[Go.Value.string { data := #[] }, Go.Value.string { data := #[] }, Go.Value.string { data := #[] }, Go.Value.int Go.IntKind.i64 0, Go.Value.int Go.IntKind.i64 0, Go.Value.int Go.IntKind.i64 0, Go.Value.int Go.IntKind.i64 0, Go.Value.int Go.IntKind.i64 0, Go.Value.int Go.IntKind.i64 0]) := by kernel_rfl
theorem ag50 : z2w Tryz.prog 50 = some true := by kernel_rfl
theorem by50 : ((Tryz.prog.info? 50).map (·.bytes)) = some 96 := by kernel_rfl
theorem zje : fldT Tryz.prog 50 0 = some 0 := by kernel_rfl
theorem zq1 : fldT Tryz.prog 50 1 = some 1 := by kernel_rfl
theorem zq2 : fldT Tryz.prog 50 2 = some 2 := by kernel_rfl
theorem zrs : fldT Tryz.prog 50 3 = some 3 := by kernel_rfl
theorem zrt : fldT Tryz.prog 50 4 = some 4 := by kernel_rfl
theorem zru : fldT Tryz.prog 50 5 = some 5 := by kernel_rfl
theorem zjf : fldT Tryz.prog 50 6 = some 6 := by kernel_rfl
theorem zno : fldT Tryz.prog 50 7 = some 7 := by kernel_rfl
theorem zjg : fldT Tryz.prog 50 8 = some 8 := by kernel_rfl
theorem sz52 : szT Tryz.prog 52 = some 2 := by kernel_rfl
theorem ze52 : (Tryz.prog.info? 52).bind (·.zero) = some (Go.Value.agg #[Go.Value.string { data := #[] }, Go.Value.int Go.IntKind.i64 0]) := by kernel_rfl
theorem ag52 : z2w Tryz.prog 52 = some true := by kernel_rfl
theorem by52 : ((Tryz.prog.info? 52).map (·.bytes)) = some 24 := by kernel_rfl
theorem zo52 : zf2 Tryz.prog 52 = true := by kernel_rfl
theorem pl52 : plcT Tryz.prog 52 = some [(0, 1), (1, 1)] := by kernel_rfl
theorem sz57 : szT Tryz.prog 57 = some 1 := by kernel_rfl
theorem ag57 : z2w Tryz.prog 57 = some false := by kernel_rfl
theorem ze62 : (Tryz.prog.info? 62).bind (·.zero) = some (Go.Value.agg #[Go.Value.slice none 0 0, Go.Value.slice none 0 0, Go.Value.slice none 0 0, Go.Value.slice none 0 0, Go.Value.int Go.IntKind.i64 0]) := by kernel_rfl
theorem zo62 : zf2 Tryz.prog 62 = true := by kernel_rfl
theorem pl62 : plcT Tryz.prog 62 = some [(0, 1), (1, 1), (2, 1), (3, 1), (4, 1)] := by kernel_rfl
theorem znp : fldT Tryz.prog 62 0 = some 0 := by kernel_rfl
theorem znq : fldT Tryz.prog 62 1 = some 1 := by kernel_rfl
theorem zq3 : fldT Tryz.prog 62 2 = some 2 := by kernel_rfl
theorem zlf : fldT Tryz.prog 62 3 = some 3 := by kernel_rfl
theorem znr : fldT Tryz.prog 62 4 = some 4 := by kernel_rfl
theorem ni66 : z8d Tryz.prog 66 = true := by kernel_rfl
theorem el66 : z8t Tryz.prog 66 = some 69 := by kernel_rfl
theorem sz69 : szT Tryz.prog 69 = some 4 := by kernel_rfl
theorem ze69 : (Tryz.prog.info? 69).bind (·.zero) = some (Go.Value.agg #[Go.Value.string { data := #[] }, Go.Value.slice none 0 0, Go.Value.bool false, Go.Value.bool false]) := by kernel_rfl
theorem ag69 : z2w Tryz.prog 69 = some true := by kernel_rfl
theorem by69 : ((Tryz.prog.info? 69).map (·.bytes)) = some 48 := by kernel_rfl
theorem zo69 : zf2 Tryz.prog 69 = true := by kernel_rfl
theorem pl69 : plcT Tryz.prog 69 = some [(0, 1), (1, 1), (2, 1), (3, 1)] := by kernel_rfl
theorem ztn : fldT Tryz.prog 69 0 = some 0 := by kernel_rfl
theorem zq4 : fldT Tryz.prog 69 1 = some 1 := by kernel_rfl
theorem zto : fldT Tryz.prog 69 2 = some 2 := by kernel_rfl
theorem ztp : fldT Tryz.prog 69 3 = some 3 := by kernel_rfl
theorem sz71 : szT Tryz.prog 71 = some 1 := by kernel_rfl
theorem ag71 : z2w Tryz.prog 71 = some false := by kernel_rfl
theorem ni71 : z8d Tryz.prog 71 = true := by kernel_rfl
theorem el71 : z8t Tryz.prog 71 = some 119 := by kernel_rfl
theorem sz73 : szT Tryz.prog 73 = some 3 := by kernel_rfl
theorem ze73 : (Tryz.prog.info? 73).bind (·.zero) = some (Go.Value.agg #[Go.Value.bool false, Go.Value.slice none 0 0, Go.Value.slice none 0 0]) := by kernel_rfl
theorem ag73 : z2w Tryz.prog 73 = some true := by kernel_rfl
theorem zo73 : zf2 Tryz.prog 73 = true := by kernel_rfl
theorem pl73 : plcT Tryz.prog 73 = some [(0, 1), (1, 1), (2, 1)] := by kernel_rfl
theorem zhq : fldT Tryz.prog 73 0 = some 0 := by kernel_rfl
theorem zgq : fldT Tryz.prog 73 1 = some 1 := by kernel_rfl
theorem zlg : fldT Tryz.prog 73 2 = some 2 := by kernel_rfl
theorem sz83 : szT Tryz.prog 83 = some 5 := by kernel_rfl
theorem ze83 : (Tryz.prog.info? 83).bind (·.zero) = some (Go.Value.agg #[Go.Value.string { data := #[] }, Go.Value.string { data := #[] }, Go.Value.string { data := #[] }, Go.Value.bool false, Go.Value.bool false]) := by kernel_rfl
theorem ag83 : z2w Tryz.prog 83 = some true := by kernel_rfl
theorem by83 : ((Tryz.prog.info? 83).map (·.bytes)) = some 56 := by kernel_rfl
theorem zrv : fldT Tryz.prog 83 0 = some 0 := by kernel_rfl
theorem zq5 : fldT Tryz.prog 83 1 = some 1 := by kernel_rfl
theorem zq6 : fldT Tryz.prog 83 2 = some 2 := by kernel_rfl
theorem sz85 : szT Tryz.prog 85 = some 5 := by kernel_rfl
theorem ze85 : (Tryz.prog.info? 85).bind (·.zero) = some (Go.Value.agg #[Go.Value.string { data := #[] }, Go.Value.string { data := #[] }, Go.Value.int Go.IntKind.i64 0, Go.Value.int Go.IntKind.i64 0, Go.Value.int Go.IntKind.i64 0]) := by kernel_rfl
theorem ag85 : z2w Tryz.prog 85 = some true := by kernel_rfl
theorem by85 : ((Tryz.prog.info? 85).map (·.bytes)) = some 56 := by kernel_rfl
theorem zrw : fldT Tryz.prog 85 0 = some 0 := by kernel_rfl
theorem zrx : fldT Tryz.prog 85 1 = some 1 := by kernel_rfl
theorem zns : fldT Tryz.prog 85 2 = some 2 := by kernel_rfl
theorem zry : fldT Tryz.prog 85 3 = some 3 := by kernel_rfl
theorem zrz : fldT Tryz.prog 85 4 = some 4 := by kernel_rfl
theorem sz87 : szT Tryz.prog 87 = some 3 := by kernel_rfl
theorem ze87 : (Tryz.prog.info? 87).bind (·.zero) = some (Go.Value.agg #[Go.Value.string { data := #[] }, Go.Value.string { data := #[] }, Go.Value.int Go.IntKind.i64 0]) := by kernel_rfl
theorem ag87 : z2w Tryz.prog 87 = some true := by kernel_rfl
theorem by87 : ((Tryz.prog.info? 87).map (·.bytes)) = some 40 := by kernel_rfl
theorem zs0 : fldT Tryz.prog 87 0 = some 0 := by kernel_rfl
theorem zs1 : fldT Tryz.prog 87 1 = some 1 := by kernel_rfl
theorem zs2 : fldT Tryz.prog 87 2 = some 2 := by kernel_rfl
theorem ze92 : (Tryz.prog.info? 92).bind (·.zero) = some (Go.Value.agg #[Go.Value.slice none 0 0]) := by kernel_rfl
theorem zq7 : fldT Tryz.prog 92 0 = some 0 := by kernel_rfl
theorem zoy : szT Tryz.prog 104 = some 5 := by kernel_rfl
theorem ztb : (Tryz.prog.info? 104).bind (·.zero) = some (Go.Value.agg #[Go.Value.string { data := #[] }, Go.Value.string { data := #[] }, Go.Value.int Go.IntKind.i64 0, Go.Value.int Go.IntKind.i64 0, Go.Value.int Go.IntKind.i64 0]) := by kernel_rfl
theorem zug : z2w Tryz.prog 104 = some true := by kernel_rfl
theorem zur : ((Tryz.prog.info? 104).map (·.bytes)) = some 56 := by kernel_rfl
theorem zoz : fldT Tryz.prog 104 0 = some 0 := by kernel_rfl
theorem zp0 : fldT Tryz.prog 104 1 = some 1 := by kernel_rfl
theorem zp1 : fldT Tryz.prog 104 2 = some 2 := by kernel_rfl
theorem zp2 : fldT Tryz.prog 104 3 = some 3 := by kernel_rfl
theorem zp3 : fldT Tryz.prog 104 4 = some 4 := by kernel_rfl
theorem z5s : szT Tryz.prog 119 = some 1 := by kernel_rfl
theorem zet : (Tryz.prog.info? 119).bind (·.zero) = some (Go.Value.int Go.IntKind.u32 0) := by kernel_rfl
theorem zc6 : z2w Tryz.prog 119 = some false := by kernel_rfl
theorem zlh : ((Tryz.prog.info? 119).map (·.bytes)) = some 4 := by kernel_rfl
theorem zbn : intT Tryz.prog 119 = some Go.IntKind.u32 := by kernel_rfl
theorem zjz : z8t Tryz.prog 120 = some 5 := by kernel_rfl
theorem zeb : intT Tryz.prog 138 = some Go.IntKind.u64 := by kernel_rfl
theorem mixed : Tryz.prog.follows .mixedOrders = true := by kernel_rfl
end Go.Am.Tryz
/- Rows that are laid one behind the other: a list of lists that grows by append, each row with its block. -/
namespace Go.Am
open Go
noncomputable section
def hdT : Value -> Value
 | .tuple ⟨v :: _⟩ => v
 | v => v
def tlT : Value -> List Value
 | .tuple ⟨_ :: ws⟩ => ws
 | _ => []
section
variable {G : GM} {H H1 : AH} {L : List Pc} {j : Nat} {a b e0 : Pc}
theorem Ow.part (O : Ow G H L) (hj : L[j]? = some e0) (a b : Pc) (ha : ∀ x ∈ a.foot, x ∈ e0.foot) (hb : ∀ x ∈ b.foot, x ∈ e0.foot) (hab : ∀ x ∈ a.foot, x ∉ b.foot) (oka : a.ok G H.get) (okb : b.ok G H.get) : Ow G H (a :: L.set j b) := by
 have hjl : j < L.length := (zAi hj).1
 have hset : ∀ (i : Nat) (x : Pc), (L.set j b)[i]? = some x -> (i = j /\ x = b) \/ (i ≠ j /\ L[i]? = some x) := fun i x hx => by
  rw [List.getElem?_set] at hx
  by_cases hij : j = i
  ·subst hij; simp [hjl] at hx; exact .inl ⟨rfl, hx.symm⟩
  ·rw [if_neg hij] at hx; exact .inr ⟨fun e => hij e.symm, hx⟩
 have hd : ∀ (i : Nat) (x : Pc), i ≠ j -> L[i]? = some x -> ∀ c ∈ e0.foot, c ∉ x.foot := fun i x hi hx => O.dis j i e0 x (fun e => hi e.symm) hj hx
 refine ⟨O.fro, fun i x hx => ?_, fun i i' x x' hii hx hx' c hc => ?_, fun i x hx c hc => ?_⟩
 ·cases i with
  | zero => simp at hx; subst hx; exact oka
  | succ i =>
   rcases hset i x (by simpa using hx) with ⟨rfl, rfl⟩ | ⟨_, h⟩
   ·exact okb
   ·exact O.ok i x h
 ·cases i with
  | zero =>
   simp at hx; subst hx
   cases i' with
   | zero => exact absurd rfl hii
   | succ i' =>
    rcases hset i' x' (by simpa using hx') with ⟨rfl, rfl⟩ | ⟨h1, h2⟩
    ·exact hab c hc
    ·exact hd i' x' h1 h2 c (ha c hc)
  | succ i =>
   rcases hset i x (by simpa using hx) with ⟨rfl, rfl⟩ | ⟨h1, h2⟩
   ·cases i' with
    | zero => simp at hx'; subst hx'; exact fun h => hab c h hc
    | succ i' =>
     rcases hset i' x' (by simpa using hx') with ⟨rfl, rfl⟩ | ⟨h3, h4⟩
     ·exact absurd rfl hii
     ·exact hd i' x' h3 h4 c (hb c hc)
   ·cases i' with
    | zero => simp at hx'; subst hx'; exact fun h => hd i x h1 h2 c (ha c h) hc
    | succ i' =>
     rcases hset i' x' (by simpa using hx') with ⟨rfl, rfl⟩ | ⟨h3, h4⟩
     ·exact fun h => hd i x h1 h2 c (hb c h) hc
     ·exact O.dis i i' x x' (by omega) h2 h4 c hc
 ·cases i with
  | zero => simp at hx; subst hx; exact O.apart j e0 hj c (ha c hc)
  | succ i =>
   rcases hset i x (by simpa using hx) with ⟨rfl, rfl⟩ | ⟨h1, h2⟩
   ·exact O.apart i e0 hj c (hb c hc)
   ·exact O.apart i x h2 c hc
end
structure SetOk {α : Type} (ws : List Value) (e2 : TypeId) (r : RT α) (xss : List (List α)) (G M : GM) : Prop where
 len : ws.length = xss.length
 row : ∀ (i : Nat) (w : Value), ws[i]? = some w -> ∃ es xs, xss[i]? = some xs /\ SlO e2 r.sz M w es /\ All2 (r.rep G) es xs
 dis : ∀ (i j : Nat) (w u : Value), i ≠ j -> ws[i]? = some w -> ws[j]? = some u -> ∀ b ∈ zag w, b ∉ zag u
section
variable {P : Program} {n : Nat} {σ : Nat -> Value} {H H1 : AH} {d : Tmp} {dd : Option Tmp} {ty t xt e e2 : TypeId} {pos : String} {af : Array Edge} {g : Option (Nat × Bool)} {v u w w' : Value} {x y : Operand}
 {G : GM} {L : List Pc} {j i : Nat} {α : Type} {r : RT α} {ws : List Value} {xs : List α} {xss : List (List α)}
end
end
end Go.Am
/- Plain lemmas for typed functions: loops over lists, texts, whole numbers. -/
namespace Go.Am
open Go
theorem kw {a : Int} (h1 : -9223372036854775808 <= a) (h2 : a <= 9223372036854775807) : z03 .i64 a = a := z8f (zb0 h1 h2)
theorem kw1 {i n : Nat} (h : i < n) (hn : n <= 4611686018427387904) : z03 .i64 ((i : Int) + 1) = ((i + 1 : Nat) : Int) := by rw [kw (by omega) (by omega)]; omega
theorem z2v {α : Type} {xs : List α} {i : Nat} {x : α} (h : xs[i]? = some x) : idx xs (i : Int) = some x := by
 unfold idx
 rw [if_neg (by omega)]
 simpa using h
theorem z7j {i n : Nat} (h : i < n) : decide ((i : Int) < (n : Int)) = true := by simp; omega
theorem z4m {i n : Nat} (h : n <= i) : decide ((i : Int) < (n : Int)) = false := by simp; omega
@[simp] theorem Sum.elim_ite {α β γ : Type} (f : α -> γ) (g : β -> γ) (c : Prop) [Decidable c] (x y : α ⊕ β) : Sum.elim f g (if c then x else y) = if c then Sum.elim f g x else Sum.elim f g y := by split <;> rfl
def runS {α S E : Type} (chk : α -> S -> E ⊕ S) : List α -> S -> E ⊕ S
 | [], s => .inr s
 | x :: xs, s => Sum.elim .inl (runS chk xs) (chk x s)
theorem z5l {α S E : Type} (chk : α -> S -> E ⊕ S) : ∀ (xs ys : List α) (s : S), runS chk (xs ++ ys) s = Sum.elim .inl (runS chk ys) (runS chk xs s)
 | [], ys, s => rfl
 | x :: xs, ys, s => by
  simp only [List.cons_append, runS]
  cases chk x s with
  | inl e => rfl
  | inr s' => exact z5l chk xs ys s'
theorem zah {α β S E : Type} (chk : β -> S -> E ⊕ S) (f : α -> β) : ∀ (xs : List α) (s : S), runS chk (xs.map f) s = runS (fun x => chk (f x)) xs s
 | [], s => rfl
 | x :: xs, s => by
  simp only [List.map_cons, runS]
  cases chk (f x) s with
  | inl e => rfl
  | inr s' => exact zah chk f xs s'
theorem zq8 {α S E : Type} (xs : List α) (l : Nat -> S -> Int -> Option (E ⊕ S)) (chk : α -> S -> E ⊕ S) (I : S -> Nat -> Prop)
  (h : ∀ k s (i : Nat) x, xs[i]? = some x -> I s i -> l (k + 1) s i = Sum.elim (fun e => some (.inl e)) (fun s' => l k s' ((i + 1 : Nat) : Int)) (chk x s))
  (hI : ∀ s (i : Nat) x s', xs[i]? = some x -> I s i -> chk x s = .inr s' -> I s' (i + 1))
  (h0 : ∀ k s (i : Nat), xs.length <= i -> l (k + 1) s i = some (.inr s)) : ∀ d k s (i : Nat), xs.length - i = d -> d < k -> I s i -> l k s i = some (runS chk (xs.drop i) s) := by
 intro d
 induction d with
 | zero =>
  intro k s i hd hk _
  obtain ⟨k, rfl⟩ : ∃ m, k = m + 1 := ⟨k - 1, by omega⟩
  rw [h0 k s i (by omega), List.drop_eq_nil_of_le (by omega)]; rfl
 | succ d ih =>
  intro k s i hd hk hi
  obtain ⟨k, rfl⟩ : ∃ m, k = m + 1 := ⟨k - 1, by omega⟩
  have hl : i < xs.length := by omega
  have hx : xs[i]? = some xs[i] := zAh hl
  rw [h k s i _ hx hi, List.drop_eq_getElem_cons hl, runS]
  cases hc : chk xs[i] s with
  | inl e => rfl
  | inr s' => exact ih k s' (i + 1) (by omega) (by omega) (hI s i _ s' hx hi hc)
theorem z7r {α S E : Type} (xs : List α) (l : Nat -> S -> Int -> Option (E ⊕ S)) (chk : α -> S -> E ⊕ S) (I : S -> Nat -> Prop)
  (h : ∀ k s (i : Nat) x, xs[i]? = some x -> I s i -> l (k + 1) s i = Sum.elim (fun e => some (.inl e)) (fun s' => l k s' ((i + 1 : Nat) : Int)) (chk x s))
  (hI : ∀ s (i : Nat) x s', xs[i]? = some x -> I s i -> chk x s = .inr s' -> I s' (i + 1))
  (h0 : ∀ k s (i : Nat), xs.length <= i -> l (k + 1) s i = some (.inr s)) (k : Nat) (s : S) (hk : xs.length < k) (hi : I s 0) : l k s 0 = some (runS chk xs s) := by
 have := zq8 xs l chk I h hI h0 xs.length k s 0 (by omega) hk hi
 simpa using this
theorem zq9 {α β : Type} (xs : List α) (l : Nat -> List β -> Int -> Option (List β)) (f : α -> β) (m : Nat)
  (h : ∀ k acc (i : Nat) x, xs[i]? = some x -> acc.length = m + i -> l (k + 1) acc i = l k (acc ++ [f x]) ((i + 1 : Nat) : Int))
  (h0 : ∀ k acc (i : Nat), xs.length <= i -> l (k + 1) acc i = some acc) : ∀ d k acc (i : Nat), xs.length - i = d -> d < k -> acc.length = m + i -> l k acc i = some (acc ++ (xs.drop i).map f) := by
 intro d
 induction d with
 | zero =>
  intro k acc i hd hk _
  obtain ⟨k, rfl⟩ : ∃ m, k = m + 1 := ⟨k - 1, by omega⟩
  rw [h0 k acc i (by omega), List.drop_eq_nil_of_le (by omega)]; simp
 | succ d ih =>
  intro k acc i hd hk hi
  obtain ⟨k, rfl⟩ : ∃ m, k = m + 1 := ⟨k - 1, by omega⟩
  have hl : i < xs.length := by omega
  have hx : xs[i]? = some xs[i] := zAh hl
  rw [h k acc i _ hx hi, ih k _ (i + 1) (by omega) (by omega) (by simp; omega), List.drop_eq_getElem_cons hl]
  simp only [List.map_cons, List.append_assoc, List.singleton_append]
theorem zb4 {α β : Type} (xs : List α) (l : Nat -> List β -> Int -> Option (List β)) (f : α -> β) (acc : List β)
  (h : ∀ k acc' (i : Nat) x, xs[i]? = some x -> acc'.length = acc.length + i -> l (k + 1) acc' i = l k (acc' ++ [f x]) ((i + 1 : Nat) : Int))
  (h0 : ∀ k acc (i : Nat), xs.length <= i -> l (k + 1) acc i = some acc) (k : Nat) (hk : xs.length < k) : l k acc 0 = some (acc ++ xs.map f) := by
 have := zq9 xs l f acc.length h h0 xs.length k acc 0 (by omega) hk (by simp)
 simpa using this
theorem zcp {α S T E : Type} (chk : α -> S -> E ⊕ S) (g : S -> T) (chk' : α -> T -> E ⊕ T) (h : ∀ x s, chk' x (g s) = Sum.elim .inl (fun s' => .inr (g s')) (chk x s)) :
  ∀ (xs : List α) (s : S), runS chk' xs (g s) = Sum.elim .inl (fun s' => .inr (g s')) (runS chk xs s)
 | [], s => rfl
 | x :: xs, s => by
  simp only [runS]
  rw [h]
  cases chk x s with
  | inl e => rfl
  | inr s' => exact zcp chk g chk' h xs s'
theorem z5z {a b : zAd} : sEq a b = true ↔ a = b := by
 unfold sEq
 rw [beq_iff_eq, ByteArray.toList_eq, ByteArray.toList_eq]
 constructor
 ·intro h
  cases a; cases b
  simp at h
  rw [h]
 ·rintro rfl; rfl
theorem zqa (a b : zAd) : sEq a b = sEq b a := by
 cases h : sEq a b with
 | true => rw [z5z] at h; subst h; exact (z5z.2 rfl).symm
 | false =>
  cases h' : sEq b a with
  | true => rw [z5z] at h'; subst h'; rw [z5z.2 rfl] at h; cases h
  | false => rfl
theorem z02 (a : zAd) : (z04 a).length = a.size := by unfold z04; rw [List.length_map, Array.length_toList]; rfl
theorem zab (a : zAd) (i : Int) : bidx a i = idx (z04 a) i := by
 unfold bidx idx
 by_cases h : 0 <= i
 ·rw [if_pos h, if_neg (by omega)]
  unfold z04
  rw [List.getElem?_map, Array.getElem?_toList]
  rfl
 ·rw [if_neg h, if_pos (by omega)]
end Go.Am
/- Returns of printed walks: what a function's end asks, once for all returns. -/
namespace Go.Am
open Go
noncomputable section
def RK (P : Program) (fn : Func) (n : Nat) (G : GM) (L : List Pc) (Φ : Value -> GM -> AH -> Prop) (R : Value -> AH -> Prop) : Prop := ∀ v H' G', Ow G' H' L -> G.le G' -> Φ v G' H' -> R v H'
def RKF (P : Program) (fn : Func) (n : Nat) (G : GM) (LF : Value -> List Pc) (Φ : Value -> Value -> GM -> Prop) (R : Value -> AH -> Prop) : Prop := ∀ w v H' G', Ow G' H' (LF w) -> G.le G' -> Φ w v G' -> R v H'
section
variable {P : Program} {n : Nat} {σ : Nat -> Value} {H : AH} {fn : Func} {G G' : GM} {L : List Pc} {R : Value -> AH -> Prop} {f : FuncId} {c : Code} {args : List Value} {r1 r2 r3 r4 r5 : ResultVar} {v1 v2 v3 v4 v5 : Value}
 {Φ : Value -> GM -> AH -> Prop} {LF : Value -> List Pc} {Ψ : Value -> Value -> GM -> Prop}
theorem CR.og (hf : P.funcs[f]? = some fn) (hb : fn.body = some c) (hn : max fn.ntmps args.length = n) (h : ∀ R, RK P fn n G L Φ R -> AW P n c (fun t => args.getD t undef) H (retQ P fn n R)) : CR P f args G H L Φ :=
 CR.of (zer (R := fun v H' => ∃ G', Ow G' H' L /\ G.le G' /\ Φ v G' H') hf hb hn (h _ fun v H' G' a b c => ⟨G', a, b, c⟩))
theorem CRF.og (hf : P.funcs[f]? = some fn) (hb : fn.body = some c) (hn : max fn.ntmps args.length = n) (h : ∀ R, RKF P fn n G LF Ψ R -> AW P n c (fun t => args.getD t undef) H (retQ P fn n R)) : CRF P f args G H LF Ψ :=
 CRF.of (zer (R := fun v H' => ∃ w G', Ow G' H' (LF w) /\ G.le G' /\ Ψ w v G') hf hb hn (h _ fun w v H' G' a b c => ⟨w, G', a, b, c⟩))
theorem zus (k : RK P fn n G L Φ R) (hr : fn.results.toList = []) (O : Ow G' H L) (s : G.le G') (h : Φ (.tuple #[]) G' H) : retQ P fn n R .ret σ H := zup hr (k _ _ _ O s h)
theorem z1m (k : RK P fn n G L Φ R) (hr : fn.results.toList = [r1]) (h1 : RR P n σ H r1 v1) (O : Ow G' H L) (s : G.le G') (h : Φ v1 G' H) : retQ P fn n R .ret σ H := zud hr h1 (k _ _ _ O s h)
theorem zp4 (k : RK P fn n G L Φ R) (hr : fn.results.toList = [r1, r2]) (h1 : RR P n σ H r1 v1) (h2 : RR P n σ H r2 v2) (O : Ow G' H L) (s : G.le G') (h : Φ (.tuple #[v1, v2]) G' H) : retQ P fn n R .ret σ H := zue hr h1 h2 (k _ _ _ O s h)
theorem zrb (k : RK P fn n G L Φ R) (hr : fn.results.toList = [r1, r2, r3]) (h1 : RR P n σ H r1 v1) (h2 : RR P n σ H r2 v2) (h3 : RR P n σ H r3 v3) (O : Ow G' H L) (s : G.le G') (h : Φ (.tuple #[v1, v2, v3]) G' H) : retQ P fn n R .ret σ H := zuq hr h1 h2 h3 (k _ _ _ O s h)
theorem z4j (k : RKF P fn n G LF Ψ R) (w : Value) (hr : fn.results.toList = [r1]) (h1 : RR P n σ H r1 v1) (O : Ow G' H (LF w)) (s : G.le G') (h : Ψ w v1 G') : retQ P fn n R .ret σ H := zud hr h1 (k w _ _ _ O s h)
theorem zjh (k : RKF P fn n G LF Ψ R) (w : Value) (hr : fn.results.toList = [r1, r2]) (h1 : RR P n σ H r1 v1) (h2 : RR P n σ H r2 v2) (O : Ow G' H (LF w)) (s : G.le G') (h : Ψ w (.tuple #[v1, v2]) G') : retQ P fn n R .ret σ H := zue hr h1 h2 (k w _ _ _ O s h)
theorem zli : (program : Sem Program).pureRun P = some P := rfl
theorem ztq {t : TypeId} {m : Nat} {a b : zAd} (hu : P.underlying t = some .string) : (Op.equalIn (m + 1) t (.string a) (.string b)).pureRun P = some (sEq a b) := by
 simp only [Op.equalIn, z0e, z10 hu, Option.bind_some, z0x]
 have e : (a == b) = (a.data == b.data) := by cases a; cases b; rfl
 have e2 : (a == b) = sEq a b := Bool.eq_iff_iff.2 (by
  rw [e, beq_iff_eq, z5z]
  constructor
  ·intro h; cases a; cases b; cases h; rfl
  ·rintro rfl; rfl)
 rw [e2]
theorem ztr {t : TypeId} {m : Nat} {k k' : IntKind} {a b : Int} (hu : P.underlying t = some (.int k')) : (Op.equalIn (m + 1) t (.int k a) (.int k b)).pureRun P = some (a == b) := by
 simp only [Op.equalIn, z0e, z10 hu, Option.bind_some, z0x, if_true]
theorem zqb {s : List Value} {x y : Operand} {d t ty yt : Nat} {pos : String} {af : Array Edge} {g : Option (Nat × Bool)} {op : BinOp} {v u : Value} {b : Bool} (h1 : opnd s x = some v) (h2 : opnd s y = some u) (hc1 : closed v = true) (hc2 : closed u = true) (hab : abin op v u = none)
  (hr : (do eqGuard op t x y v u; Go.binOp op t v u : Sem Value).pureRun P = some (.bool b)) : z2g P s ⟨some d, .binOp op t x y yt, ty, pos, af, g⟩ = some (.bool b) := by
 have hag : agen P s ⟨some d, .binOp op t x y yt, ty, pos, af, g⟩ = some (.bool b) := by
  unfold agen
  rw [if_neg (by simp [zem]), if_pos (by simp [Op.operands, h1, h2, hc1, hc2])]
  have : (execOp (fun x => (opnd s x).getD undef) ⟨some d, .binOp op t x y yt, ty, pos, af, g⟩).pureRun P = some (.value (.bool b)) := by
   simp only [execOp, h1, h2, Option.getD_some]
   rw [z0e] at hr ⊢
   simp [hr, z0e, z0x]
  rw [this]
  simp [closed, z1y]
 unfold z2g
 simp only [h1, h2, Option.bind_some]
 rw [hab]
 simp only [hc1, hc2, Bool.and_self, if_true]
 exact hag
theorem zts {s : List Value} {x y : Operand} {d t ty yt : Nat} {pos : String} {af : Array Edge} {g : Option (Nat × Bool)} {op : BinOp} {cs1 cs2 : List Value} {b : Bool} (h1 : opnd s x = some (.agg cs1.toArray)) (h2 : opnd s y = some (.agg cs2.toArray)) (hc1 : closed (.agg cs1.toArray) = true) (hc2 : closed (.agg cs2.toArray) = true)
  (hr : (do eqGuard op t x y (.agg cs1.toArray) (.agg cs2.toArray); Go.binOp op t (.agg cs1.toArray) (.agg cs2.toArray) : Sem Value).pureRun P = some (.bool b)) : z2g P s ⟨some d, .binOp op t x y yt, ty, pos, af, g⟩ = some (.bool b) := zqb h1 h2 hc1 hc2 rfl hr
theorem zji {α : Type} {r : RT α} {v : Value} {xs : List α} (h : (rSl r).rep G [v] xs) : (v = .slice none 0 0 /\ xs = []) \/ ∃ a l c, v = .slice (some a) l c := by
 obtain ⟨v', es, hv, h2, h3⟩ := h
 cases hv
 rcases h2.2 with ⟨h4, h5⟩ | ⟨b, off, tg, cap, k, h4, _⟩ | ⟨b, off, tg, cap, h4, _⟩
 ·subst h5; cases h3; exact .inl ⟨h4, rfl⟩
 ·exact .inr ⟨_, _, _, h4⟩
 ·exact .inr ⟨_, _, _, h4⟩
theorem zjj {s : List Value} {x y : Operand} {d t e ty yt : Nat} {pos : String} {af : Array Edge} {g : Option (Nat × Bool)} {v : Value} (he : z8t P t = some e) (h1 : opnd s x = some v) (h2 : opnd s y = some (.slice none 0 0)) (hv : v = .slice none 0 0) : z2g P s ⟨some d, .binOp .eql t x y yt, ty, pos, af, g⟩ = some (.bool true) := by
 subst hv
 have hu := z05 he
 refine zqb h1 h2 rfl rfl rfl ?_
 have e1 : (eqGuard .eql t x y (.slice none 0 0) (.slice none 0 0) : Sem Unit) = pure () := rfl
 have e2 : (Go.binOp .eql t (.slice none 0 0) (.slice none 0 0) : Sem Value) = (do pure (.bool (<- Op.equal t (.slice none 0 0) (.slice none 0 0)))) := rfl
 have h : Op.maxDepth = 9999 + 1 := rfl
 have e3 : (Op.equal t (.slice none 0 0) (.slice none 0 0)).pureRun P = some true := by
  rw [Op.equal, h, Op.equalIn, z0e, z10 hu, Option.bind_some]; rfl
 rw [e1, e2, z0e, z0x, Option.bind_some, z0e, e3]
 rfl
theorem zjk {s : List Value} {x y : Operand} {d t e ty yt : Nat} {pos : String} {af : Array Edge} {g : Option (Nat × Bool)} {v : Value} {a : Addr} {l c : Nat} (he : z8t P t = some e) (h1 : opnd s x = some v) (h2 : opnd s y = some (.slice none 0 0)) (hv : v = .slice (some a) l c) : z2g P s ⟨some d, .binOp .eql t x y yt, ty, pos, af, g⟩ = some (.bool false) := by
 subst hv
 have hu := z05 he
 unfold z2g
 simp only [h1, h2, Option.bind_some]
 rw [show abin .eql (.slice (some a) l c) (.slice none 0 0) = none from rfl]
 simp [closed, z1y, aNil, hu]
end
end
end Go.Am
/- The place of a byte in a text: the library's function, by the shelf's contract, as a typed function. -/
namespace Go.Am.Tryz
open Go Go.Am Go.Proofs
def zut : Go.Shelf.Ren := ⟨fun x => if x = 217 then 92 else if x = 266 then 102 else x, fun x => if x = 3 then 3 else if x = 5 then 5 else 9, fun x => x⟩
theorem ztt : Lays.n217 Tryz.prog zut where
 mixed := by kernel_rfl
 f217 := by kernel_rfl
 f266 := by kernel_rfl
 t3 := Tryz.underlying3
 a3 := Tryz.isAgg3
 z3 := Tryz.sizeOf3
 v3 := Tryz.zeroValue3
 t5 := Tryz.underlying5
 a5 := Tryz.isAgg5
 z5 := Tryz.sizeOf5
 v5 := Tryz.zeroValue5
 t9 := Tryz.underlying9
 a9 := Tryz.isAgg9
 z9 := Tryz.sizeOf9
 v9 := Tryz.zeroValue9
theorem zlj (s : zAd) (c : Int) (H : AH) : ACalls Tryz.prog 92 [.string s, .int .u8 c] H (.int .i64 (Lib.indexByte s.data.toList c.toNat.toUInt8)) H := by
 refine ⟨Nx.refl _, fun ι w cargs hS hargs => ?_⟩
 have he := hargs.closed_eq rfl
 have hc : cargs = #[.string s, .int .u8 c] := by
  cases cargs; exact congrArg Array.mk he
 subst hc
 refine (Any.stringslite_IndexByte ztt s c w).mono ?_
 rintro e w' ⟨rfl, rfl⟩
 exact ⟨ι, _, rfl, .scal rfl, hS, fun _ _ h => h, fun _ _ => rfl, fun _ h => .inl h, fun _ h => .inl h, fun _ _ _ => rfl, Nat.le_refl _, rfl, rfl, rfl⟩
def z2h (K : Nat) (s : zAd) (c : Int) : Option Int := some (Lib.indexByte s.data.toList c.toNat.toUInt8)
theorem z5t (K : Nat) {G : GM} {H : AH} {L : List Pc} (p0 : zAd) (p1 : Int) (O : Ow G H L) (r : Int) (h : z2h K p0 p1 = some r) :
  CR Tryz.prog 92 [.string p0, .int .u8 p1] G H L (fun v G' _ => v = .int .i64 r) := by
 cases h
 exact ⟨_, H, G, zlj p0 p1 H, O, zAf _, rfl⟩
end Go.Am.Tryz
/- Objects behind pointers that a function makes, or nil; pointers compared with nil. -/
namespace Go.Am
open Go
noncomputable section
def oB (w : Value) : Nat := match hdT w with
 | .int _ n => n.toNat
 | _ => 0
def oV (w : Value) (i : Nat) : Value := (tlT w).getD i .nilFunc
def optL {α : Type} (o : Option α) (f : α -> List Pc) : List Pc := match o with
 | none => []
 | some x => f x
def optV {α : Type} (o : Option α) (w : Value) : Value := match o with
 | none => .pointer none
 | some _ => .pointer (some ⟨oB w, 0, none⟩)
def optE {α β : Type} (o : Option α) (a : Option β) (f : α -> Option β) : Option β := match o with
 | none => a
 | some x => f x
section
variable {P : Program} {n : Nat} {σ : Nat -> Value} {G : GM} {d : Tmp} {ty t e : TypeId} {pos : String} {af : Array Edge} {g : Option (Nat × Bool)} {x y : Operand} {α : Type} {r : RT α}
theorem Al.makeSlice {a c : Int} {k1 k2 : IntKind} {z : Value} {x0 : α} {c1 : Nat} (hd : (ook n x && ook n y) = true) (he : z8t P t = some e) (hz : (P.info? e).bind (·.zero) = some z) (hsz : szT P e = some r.sz) (hsc : (z.cells.all z1y && (z.cells.size != 0)) = true) (hzs : z.cells.size = r.sz)
  (hby : ((P.info? e).map (·.bytes)) = some c1) (hb : c1 <= 1048576) (hx : oval σ x = .int k1 a) (hy : oval σ y = .int k2 c) (h : 0 <= a /\ a <= c /\ c <= 16777216) (hr : ∀ G, r.rep G z.cells.toList x0) :
  AlOk P n ⟨some d, .makeSlice t x y, ty, pos, af, g⟩ σ G (fun b => .slice (some ⟨b, 0, some 0⟩) a.toNat c.toNat) (fun b => eSl (.slice (some ⟨b, 0, some 0⟩) a.toNat c.toNat) e r (List.replicate a.toNat x0)) := by
 simp only [Bool.and_eq_true] at hd
 obtain ⟨inf, hi, hsz⟩ := z6z hsz
 simp only [hi, Option.bind_some, Option.map_some, Option.some.injEq] at hz hby
 subst hby
 obtain ⟨h0, h1, h2⟩ := h
 refine ⟨⟨z54 z.cells (c.toNat * inf.size), e, 1, true⟩, .sl a.toNat c.toNat (some 0), ?_, fun b => ⟨rfl, rfl, fun M hM => ?_⟩⟩
 ·have hbnd : inf.bytes * c.toNat <= 2 ^ 48 := Nat.le_trans (Nat.mul_le_mul hb (show c.toNat <= 16777216 by omega)) (by decide)
  have hbnd' : (inf.bytes : Int) * c <= 2 ^ 48 := by
   have : ((inf.bytes * c.toNat : Nat) : Int) <= ((2 ^ 48 : Nat) : Int) := Int.ofNat_le.2 hbnd
   rw [Int.natCast_mul, Int.toNat_of_nonneg (by omega)] at this
   simpa using this
  have hdec : (z.cells.all z1y && (z.cells.size != 0) && decide (0 <= a /\ a <= c /\ c <= 2 ^ 47 /\ (inf.bytes : Int) * c <= 2 ^ 48)) = true := by
   rw [hsc, Bool.true_and, decide_eq_true_iff]
   exact ⟨h0, h1, by omega, hbnd'⟩
  simp only [z5d, z05 he, oo hd.1 hx, oo hd.2 hy, hi, hz, Option.bind_some, hdec, if_true]
 ·rw [hsz, <- hzs, zgo] at hM
  refine ⟨List.replicate a.toNat z.cells.toList, .inr ⟨b, some 0, c.toNat, (List.replicate (c.toNat - a.toNat) z.cells.toList).flatten, 1, by simp, ?_, ?_, by simp; omega, .inr rfl⟩, All2.replicate (hr _) _⟩
  ·rw [hM, <- List.flatten_append, List.replicate_append_replicate]; congr 5; omega
  ·rw [<- List.flatten_append, List.replicate_append_replicate, z6c (sz := r.sz) (by intro q hq; rw [List.mem_replicate] at hq; rw [hq.2]; simpa using hzs)]
   rw [List.length_replicate]; congr 1; omega
end
def zuh (P : Program) (t : TypeId) (f : Nat) : Option (TypeId × Nat) := match P.underlying t with
 | some (.struct fs) => (fs[f]?).map fun fld => (fld.type, fld.offset)
 | _ => none
theorem zqc {α β : Type} {r : RT α} {s : RT β} {G : GM} {cs : List Value} {x : α} {o : Nat} {fn : α -> List β} (h : r.rep G cs x) (p : Proj r o (rSl s) fn) : ∃ w, (cs.drop o).take 1 = [w] /\ (rSl s).rep G [w] (fn x) := by
 have h1 := (p G cs x h).1
 have h2 := RT.len _ h1
 have e : (rSl s).sz = 1 := rfl
 rw [e] at h1 h2
 obtain ⟨w, hw⟩ := List.length_eq_one_iff.1 h2
 exact ⟨w, hw, by rw [<- hw]; exact h1⟩
theorem zqd {P : Program} {s : List Value} {x : Operand} {d t f ft o ty : Nat} {pos : String} {af : Array Edge} {g : Option (Nat × Bool)} {cs : List Value} {w : Value} (hf : zuh P t f = some (ft, o)) (ha : z2w P ft = some false) (hx : opnd s x = some (.agg (List.toArray cs))) (e : (cs.drop o).take 1 = [w]) : z2g P s ⟨some d, .field t x f, ty, pos, af, g⟩ = some w := by
 unfold zuh at hf
 split at hf
 ·rename_i fs hu
  obtain ⟨fld, h1, h2⟩ := Option.map_eq_some_iff.1 hf
  cases h2
  have hc : cs[fld.offset]? = some w := by
   have := congrArg (·[0]?) e
   simpa using this
  show (opnd s x).bind (zk1 P t f) = some w
  rw [hx]
  simp [zk1, hu, h1, zrd, ha, hc]
 ·cases hf
section
variable {P : Program}
theorem zui {s : List Value} {x y : Operand} {d t e ty yt : Nat} {pos : String} {af : Array Edge} {g : Option (Nat × Bool)} {a : Addr} (hu : P.underlying t = some (.pointer e)) (h1 : opnd s x = some (.pointer (some a))) (h2 : opnd s y = some (.pointer none)) : z2g P s ⟨some d, .binOp .eql t x y yt, ty, pos, af, g⟩ = some (.bool false) := by
 unfold z2g
 simp only [h1, h2, Option.bind_some]
 rw [show abin .eql (.pointer (some a)) (.pointer none) = none from rfl]
 simp [closed, z1y, aNil, hu]
theorem zuj {s : List Value} {x y : Operand} {d t e ty yt : Nat} {pos : String} {af : Array Edge} {g : Option (Nat × Bool)} (hu : P.underlying t = some (.pointer e)) (h1 : opnd s x = some (.pointer none)) (h2 : opnd s y = some (.pointer none)) : z2g P s ⟨some d, .binOp .eql t x y yt, ty, pos, af, g⟩ = some (.bool true) := by
 refine zqb h1 h2 rfl rfl rfl ?_
 have e1 : (eqGuard .eql t x y (.pointer none) (.pointer none) : Sem Unit) = pure () := rfl
 have e2 : (Go.binOp .eql t (.pointer none) (.pointer none) : Sem Value) = (do pure (.bool (<- Op.equal t (.pointer none) (.pointer none)))) := rfl
 have h : Op.maxDepth = 9999 + 1 := rfl
 have e3 : (Op.equal t (.pointer none) (.pointer none)).pureRun P = some true := by
  rw [Op.equal, h, Op.equalIn, z0e, z10 hu, Option.bind_some]; rfl
 rw [e1, e2, z0e, z0x, Option.bind_some, z0e, e3]
 rfl
end
end
end Go.Am
/- Closed runs on the abstract machine, the place of a byte in a text by the shelf's contract. -/
namespace Go.Am.Tryz
open Go Go.Am Go.Proofs
noncomputable def ztu : FuncId -> Option (List Value -> AH -> Option (Value × AH)) := fun f => if f = 92 then some (fun args H => match args with
 | [.string s, .int .u8 c] => some (.int .i64 (Lib.indexByte s.data.toList c.toNat.toUInt8), H)
 | _ => none) else none
theorem zqe : ∀ f g, ztu f = some g -> ∀ args H v H', g args H = some (v, H') -> ACalls Tryz.prog f args H v H' := by
 intro f g h args H v H' h2
 unfold ztu at h
 split at h
 ·rename_i hf
  subst hf
  obtain rfl := zAa h
  dsimp only at h2
  split at h2
  ·obtain ⟨rfl, rfl⟩ := Prod.mk.inj (zAa h2)
   exact zlj _ _ _
  ·cases h2
 ·cases h
theorem zjl {rounds n : Nat} {f : FuncId} {v : Value} {args : List Value} (ha : args.all closed = true) (hv : closed v = true) (h : ((callF zte Tryz.prog ztu rounds n f args ⟨0, []⟩).map (·.1)) = some v) (A : AH) : ACalls Tryz.prog f args A v A := by
 obtain ⟨r, h1, h2⟩ := Option.map_eq_some_iff.1 h
 subst h2
 exact (zhj zqe (fun x y => zpq) mixed rounds n f args _ _ _ h1).anyHeap ha hv A
end Go.Am.Tryz
