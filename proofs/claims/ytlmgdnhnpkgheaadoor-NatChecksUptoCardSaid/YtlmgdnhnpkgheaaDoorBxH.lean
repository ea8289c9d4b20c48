/- Reads in an open region through a pointer that is known only by an equation. -/
import Derived.Test.YtlmgdnhnpkgheaaDoorBxG
namespace Go.Am
open Go
theorem fa_px {v w : Value} {A B : AH} (h : v = w) (k : B.get (blkOf w) = A.get (blkOf w)) : B.get (blkOf v) = A.get (blkOf v) := by subst h; exact k
theorem gap {α : Type} {r : α} {C : Prop} (h : (none : Option α) = some r) : C := by cases h
section
variable {α : Type} {r : RT α} {G : GM} {b N : Nat} {xs : List α}
variable {P : Program} {d : Tmp} {ty t e : TypeId} {pos : String} {af : Array Edge} {g : Option (Nat × Bool)} {x : Operand} {s : List Value}
/-- The slice of a whole array. -/
theorem slArr (h : At G G (.pointer (some ⟨b, 0, none⟩)) (rArr N r) xs) : (rSl r).rep G [.slice (some ⟨b, 0, some 0⟩) N N] xs := by
  obtain ⟨cs, ⟨b', off, k, h1, h2, h3, h4⟩, hn, es, h5, h6⟩ := h
  cases h1
  have hl := h6.length
  have hf : cs.length = es.length * r.sz := by rw [h5, h6.flatLen, ← hl]
  refine ⟨_, es, rfl, ⟨h6.each, .inr (.inl ⟨b, 0, some 0, N, k, by rw [hl, hn], h2, by rw [← hf]; exact h3, by rw [← hf, h4, h5], by omega, .inr rfl⟩)⟩, h6⟩
theorem v_slArr {sz : Nat} (ha : arrT P t = some (N, e)) (hz : szT P e = some sz) (hx : opnd s x = some (.pointer (some ⟨b, 0, none⟩))) : apure P s ⟨some d, .slice t x none none none, ty, pos, af, g⟩ = some (.slice (some ⟨b, 0, some 0⟩) N N) := by
  unfold szT at hz
  cases hi : P.info? e with
  | none => rw [hi] at hz; cases hz
  | some inf => simp [apure, hx, aSlice, arrT_inv ha, hi, bnd, opndO]
end
section
variable {P : Program} {n : Nat} {σ : Nat → Value} {G : GM} {H : AH} {ops : Array Oper} {l : List Oper} {d : Tmp} {ty t u e : TypeId} {pos : String} {af : Array Edge} {g : Option (Nat × Bool)} {x : Operand}
theorem cells_u8 : ∀ (es : List (List Value)) (xs : List Int), All2 ((rI .u8).rep G) es xs → bytesOfCells es.flatten = some xs
  | _, _, .nil => rfl
  | _, _, .cons h r => by
    cases h
    have := cells_u8 _ _ r
    simp [bytesOfCells, this]
/-- A text of the bytes of a slice that is not empty. -/
theorem W.bytesStr {Q : (Nat → Value) → AH → Prop} {es : List (List Value)} {xs : List Int} (hg : gok n ops σ g true) (hd : (Nat.blt d n && ook n x) = true) (he : elemT P t = some e) (hi : intT P e = some .u8) (hu : P.underlying u = some .string)
    (hs : SlG H.get 1 (oval σ x) es) (h2 : All2 ((rI .u8).rep G) es xs) (h0 : 0 < xs.length) (hr : AWO P n ops l (up σ d (.string (strOfNums xs))) H Q) : AWO P n ops (⟨some d, .convert t u x, ty, pos, af, g⟩ :: l) σ H Q := by
  simp only [Bool.and_eq_true] at hd
  have hl := h2.length
  obtain ⟨_, ⟨_, h⟩ | ⟨b, off, tg, cap, k, h3, h4, h5, h6, _⟩ | ⟨_, _, _, _, _, h, _⟩⟩ := hs
  · rw [h] at hl; simp at hl; omega
  · have hx := opnd_oval (σ := σ) hd.2
    rw [h3] at hx
    rw [Nat.mul_one] at h5 h6
    refine W.read hg hd.1 ?_ ?_ hr
    · simp [apure, agen, isSel, Op.operands, hx, closed, scalar]
    · simp [aread, hx, aBytesStr, elemT_inv he, hu, h4, intT_inv hi, h5, h6, cells_u8 es xs h2]
  · rw [h] at hl; simp at hl; omega
end
end Go.Am
