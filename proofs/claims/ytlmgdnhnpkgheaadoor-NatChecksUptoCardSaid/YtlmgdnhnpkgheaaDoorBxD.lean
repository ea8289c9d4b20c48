/- Rules that the printed walks over typed data use. -/
import Derived.Test.YtlmgdnhnpkgheaaDoorBxC
namespace Go.Am
open Go
noncomputable section
set_option linter.unusedSimpArgs false
set_option linter.unusedVariables false

/-! ### Control -/
theorem neg_b {α : Type} {c : Bool} {a b : Option α} {r : α} (hc : c = false) (h : (if c = true then a else b) = some r) : b = some r := by subst hc; exact h
theorem none_absurd {α : Type} {x : α} {p : Prop} (h : (none : Option α) = some x) : p := by cases h
theorem outS_l {α β γ : Type} {a : α} {f : α → Option γ} {g : β → Option γ} {r : γ} (h : outS (.inl a) f g = some r) : f a = some r := h
theorem outS_r {α β γ : Type} {b : β} {f : α → Option γ} {g : β → Option γ} {r : γ} (h : outS (.inr b) f g = some r) : g b = some r := h
def tu0 {β : Type} (g : Option β) : Unit → Option β := fun _ => g
theorem tu0_inv {β : Type} {g : Option β} {u : Unit} {r : β} (h : tu0 g u = some r) : g = some r := h
def tu1 {α β : Type} (g : α → Option β) : α → Option β := g
theorem tu1_inv {α β : Type} {g : α → Option β} {a : α} {r : β} (h : tu1 g a = some r) : g a = some r := h
def tu2 {α1 α2 β : Type} (g : α1 → α2 → Option β) : α1 × α2 → Option β := fun p => g p.1 p.2
theorem tu2_inv {α1 α2 β : Type} {g : α1 → α2 → Option β} {a1 : α1} {a2 : α2} {r : β} (h : tu2 g (a1, a2) = some r) : g a1 a2 = some r := h
def tu3 {α1 α2 α3 β : Type} (g : α1 → α2 → α3 → Option β) : α1 × α2 × α3 → Option β := fun p => g p.1 p.2.1 p.2.2
theorem tu3_inv {α1 α2 α3 β : Type} {g : α1 → α2 → α3 → Option β} {a1 : α1} {a2 : α2} {a3 : α3} {r : β} (h : tu3 g (a1, a2, a3) = some r) : g a1 a2 a3 = some r := h
def tu4 {α1 α2 α3 α4 β : Type} (g : α1 → α2 → α3 → α4 → Option β) : α1 × α2 × α3 × α4 → Option β := fun p => g p.1 p.2.1 p.2.2.1 p.2.2.2
theorem tu4_inv {α1 α2 α3 α4 β : Type} {g : α1 → α2 → α3 → α4 → Option β} {a1 : α1} {a2 : α2} {a3 : α3} {a4 : α4} {r : β} (h : tu4 g (a1, a2, a3, a4) = some r) : g a1 a2 a3 a4 = some r := h
def tu5 {α1 α2 α3 α4 α5 β : Type} (g : α1 → α2 → α3 → α4 → α5 → Option β) : α1 × α2 × α3 × α4 × α5 → Option β := fun p => g p.1 p.2.1 p.2.2.1 p.2.2.2.1 p.2.2.2.2
theorem tu5_inv {α1 α2 α3 α4 α5 β : Type} {g : α1 → α2 → α3 → α4 → α5 → Option β} {a1 : α1} {a2 : α2} {a3 : α3} {a4 : α4} {a5 : α5} {r : β} (h : tu5 g (a1, a2, a3, a4, a5) = some r) : g a1 a2 a3 a4 a5 = some r := h
def tu6 {α1 α2 α3 α4 α5 α6 β : Type} (g : α1 → α2 → α3 → α4 → α5 → α6 → Option β) : α1 × α2 × α3 × α4 × α5 × α6 → Option β := fun p => g p.1 p.2.1 p.2.2.1 p.2.2.2.1 p.2.2.2.2.1 p.2.2.2.2.2
theorem tu6_inv {α1 α2 α3 α4 α5 α6 β : Type} {g : α1 → α2 → α3 → α4 → α5 → α6 → Option β} {a1 : α1} {a2 : α2} {a3 : α3} {a4 : α4} {a5 : α5} {a6 : α6} {r : β} (h : tu6 g (a1, a2, a3, a4, a5, a6) = some r) : g a1 a2 a3 a4 a5 a6 = some r := h
def tu7 {α1 α2 α3 α4 α5 α6 α7 β : Type} (g : α1 → α2 → α3 → α4 → α5 → α6 → α7 → Option β) : α1 × α2 × α3 × α4 × α5 × α6 × α7 → Option β := fun p => g p.1 p.2.1 p.2.2.1 p.2.2.2.1 p.2.2.2.2.1 p.2.2.2.2.2.1 p.2.2.2.2.2.2
theorem tu7_inv {α1 α2 α3 α4 α5 α6 α7 β : Type} {g : α1 → α2 → α3 → α4 → α5 → α6 → α7 → Option β} {a1 : α1} {a2 : α2} {a3 : α3} {a4 : α4} {a5 : α5} {a6 : α6} {a7 : α7} {r : β} (h : tu7 g (a1, a2, a3, a4, a5, a6, a7) = some r) : g a1 a2 a3 a4 a5 a6 a7 = some r := h
def tu8 {α1 α2 α3 α4 α5 α6 α7 α8 β : Type} (g : α1 → α2 → α3 → α4 → α5 → α6 → α7 → α8 → Option β) : α1 × α2 × α3 × α4 × α5 × α6 × α7 × α8 → Option β := fun p => g p.1 p.2.1 p.2.2.1 p.2.2.2.1 p.2.2.2.2.1 p.2.2.2.2.2.1 p.2.2.2.2.2.2.1 p.2.2.2.2.2.2.2
theorem tu8_inv {α1 α2 α3 α4 α5 α6 α7 α8 β : Type} {g : α1 → α2 → α3 → α4 → α5 → α6 → α7 → α8 → Option β} {a1 : α1} {a2 : α2} {a3 : α3} {a4 : α4} {a5 : α5} {a6 : α6} {a7 : α7} {a8 : α8} {r : β} (h : tu8 g (a1, a2, a3, a4, a5, a6, a7, a8) = some r) : g a1 a2 a3 a4 a5 a6 a7 a8 = some r := h
def tu9 {α1 α2 α3 α4 α5 α6 α7 α8 α9 β : Type} (g : α1 → α2 → α3 → α4 → α5 → α6 → α7 → α8 → α9 → Option β) : α1 × α2 × α3 × α4 × α5 × α6 × α7 × α8 × α9 → Option β := fun p => g p.1 p.2.1 p.2.2.1 p.2.2.2.1 p.2.2.2.2.1 p.2.2.2.2.2.1 p.2.2.2.2.2.2.1 p.2.2.2.2.2.2.2.1 p.2.2.2.2.2.2.2.2
theorem tu9_inv {α1 α2 α3 α4 α5 α6 α7 α8 α9 β : Type} {g : α1 → α2 → α3 → α4 → α5 → α6 → α7 → α8 → α9 → Option β} {a1 : α1} {a2 : α2} {a3 : α3} {a4 : α4} {a5 : α5} {a6 : α6} {a7 : α7} {a8 : α8} {a9 : α9} {r : β} (h : tu9 g (a1, a2, a3, a4, a5, a6, a7, a8, a9) = some r) : g a1 a2 a3 a4 a5 a6 a7 a8 a9 = some r := h
def tu10 {α1 α2 α3 α4 α5 α6 α7 α8 α9 α10 β : Type} (g : α1 → α2 → α3 → α4 → α5 → α6 → α7 → α8 → α9 → α10 → Option β) : α1 × α2 × α3 × α4 × α5 × α6 × α7 × α8 × α9 × α10 → Option β := fun p => g p.1 p.2.1 p.2.2.1 p.2.2.2.1 p.2.2.2.2.1 p.2.2.2.2.2.1 p.2.2.2.2.2.2.1 p.2.2.2.2.2.2.2.1 p.2.2.2.2.2.2.2.2.1 p.2.2.2.2.2.2.2.2.2
theorem tu10_inv {α1 α2 α3 α4 α5 α6 α7 α8 α9 α10 β : Type} {g : α1 → α2 → α3 → α4 → α5 → α6 → α7 → α8 → α9 → α10 → Option β} {a1 : α1} {a2 : α2} {a3 : α3} {a4 : α4} {a5 : α5} {a6 : α6} {a7 : α7} {a8 : α8} {a9 : α9} {a10 : α10} {r : β} (h : tu10 g (a1, a2, a3, a4, a5, a6, a7, a8, a9, a10) = some r) : g a1 a2 a3 a4 a5 a6 a7 a8 a9 a10 = some r := h
def tu11 {α1 α2 α3 α4 α5 α6 α7 α8 α9 α10 α11 β : Type} (g : α1 → α2 → α3 → α4 → α5 → α6 → α7 → α8 → α9 → α10 → α11 → Option β) : α1 × α2 × α3 × α4 × α5 × α6 × α7 × α8 × α9 × α10 × α11 → Option β := fun p => g p.1 p.2.1 p.2.2.1 p.2.2.2.1 p.2.2.2.2.1 p.2.2.2.2.2.1 p.2.2.2.2.2.2.1 p.2.2.2.2.2.2.2.1 p.2.2.2.2.2.2.2.2.1 p.2.2.2.2.2.2.2.2.2.1 p.2.2.2.2.2.2.2.2.2.2
theorem tu11_inv {α1 α2 α3 α4 α5 α6 α7 α8 α9 α10 α11 β : Type} {g : α1 → α2 → α3 → α4 → α5 → α6 → α7 → α8 → α9 → α10 → α11 → Option β} {a1 : α1} {a2 : α2} {a3 : α3} {a4 : α4} {a5 : α5} {a6 : α6} {a7 : α7} {a8 : α8} {a9 : α9} {a10 : α10} {a11 : α11} {r : β} (h : tu11 g (a1, a2, a3, a4, a5, a6, a7, a8, a9, a10, a11) = some r) : g a1 a2 a3 a4 a5 a6 a7 a8 a9 a10 a11 = some r := h
def tu12 {α1 α2 α3 α4 α5 α6 α7 α8 α9 α10 α11 α12 β : Type} (g : α1 → α2 → α3 → α4 → α5 → α6 → α7 → α8 → α9 → α10 → α11 → α12 → Option β) : α1 × α2 × α3 × α4 × α5 × α6 × α7 × α8 × α9 × α10 × α11 × α12 → Option β := fun p => g p.1 p.2.1 p.2.2.1 p.2.2.2.1 p.2.2.2.2.1 p.2.2.2.2.2.1 p.2.2.2.2.2.2.1 p.2.2.2.2.2.2.2.1 p.2.2.2.2.2.2.2.2.1 p.2.2.2.2.2.2.2.2.2.1 p.2.2.2.2.2.2.2.2.2.2.1 p.2.2.2.2.2.2.2.2.2.2.2
theorem tu12_inv {α1 α2 α3 α4 α5 α6 α7 α8 α9 α10 α11 α12 β : Type} {g : α1 → α2 → α3 → α4 → α5 → α6 → α7 → α8 → α9 → α10 → α11 → α12 → Option β} {a1 : α1} {a2 : α2} {a3 : α3} {a4 : α4} {a5 : α5} {a6 : α6} {a7 : α7} {a8 : α8} {a9 : α9} {a10 : α10} {a11 : α11} {a12 : α12} {r : β} (h : tu12 g (a1, a2, a3, a4, a5, a6, a7, a8, a9, a10, a11, a12) = some r) : g a1 a2 a3 a4 a5 a6 a7 a8 a9 a10 a11 a12 = some r := h
theorem AW.midT {P : Program} {n : Nat} {σ : Nat → Value} {H : AH} {x : Code} {Q : QX} (Φ : (Nat → Value) → AH → Prop) (h : AW P n x σ H (midQ Φ Q)) (hr : ∀ σ' H', (∀ t, wrC x t = false → σ' t = σ t) → Φ σ' H' → Q .normal σ' H') : AW P n x σ H Q :=
  h.mono fun ex σ' H' hf hq => by cases ex <;> first | exact hr σ' H' hf hq | exact hq
theorem CR.of {P : Program} {f : FuncId} {args : List Value} {G : GM} {H : AH} {L : List Pc} {Φ : Value → GM → AH → Prop} (h : ∃ v H', ACalls P f args H v H' ∧ ∃ G', Ow G' H' L ∧ G.le G' ∧ Φ v G' H') : CR P f args G H L Φ := by
  obtain ⟨v, H', h1, G', h2, h3, h4⟩ := h
  exact ⟨v, H', G', h1, h2, h3, h4⟩
/-- A call that hands back a piece. -/
def CRF (P : Program) (f : FuncId) (args : List Value) (G : GM) (H : AH) (LF : Value → List Pc) (Φ : Value → Value → GM → Prop) : Prop :=
  ∃ w v H' G', ACalls P f args H v H' ∧ Ow G' H' (LF w) ∧ G.le G' ∧ Φ w v G'
theorem CRF.of {P : Program} {f : FuncId} {args : List Value} {G : GM} {H : AH} {LF : Value → List Pc} {Φ : Value → Value → GM → Prop} (h : ∃ v H', ACalls P f args H v H' ∧ ∃ w G', Ow G' H' (LF w) ∧ G.le G' ∧ Φ w v G') : CRF P f args G H LF Φ := by
  obtain ⟨v, H', h1, w, G', h2, h3, h4⟩ := h
  exact ⟨w, v, H', G', h1, h2, h3, h4⟩

section
variable {α β : Type} {r : RT α} {s : RT β} {G M : GM} {v w u : Value} {x : α} {xs : List α} {H H1 : AH} {L : List Pc} {i j b : Nat} {e : TypeId}
theorem rep_at (h : v = w) (f : r.rep G [w] x) : r.rep G [v] x := h ▸ f
theorem at_at (h : v = w) (f : At G M w r x) : At G M v r x := h ▸ f
theorem pt_px {cs : List Value} (h : v = w) (p : PtG H.get w cs) : Pt H v cs := h ▸ p
theorem slg_px {sz : Nat} {es : List (List Value)} (h : v = w) (p : SlG M sz w es) : SlG M sz v es := h ▸ p
theorem At.int {k : IntKind} {n : Int} (h : At G M v (rI k) n) : PtG M v [.int k n] := by obtain ⟨cs, h1, h2⟩ := h; have h2 : cs = _ := h2; rw [← h2]; exact h1
theorem At.bool {n : Bool} (h : At G M v rB n) : PtG M v [.bool n] := by obtain ⟨cs, h1, h2⟩ := h; have h2 : cs = _ := h2; rw [← h2]; exact h1
theorem At.str {n : ByteArray} (h : At G M v rS n) : PtG M v [.string n] := by obtain ⟨cs, h1, h2⟩ := h; have h2 : cs = _ := h2; rw [← h2]; exact h1
theorem At.sl (h : At G M v (rSl r) xs) : ∃ w, PtG M v [w] ∧ (rSl r).rep G [w] xs := by
  obtain ⟨cs, h1, w, es, rfl, h2, h3⟩ := h
  exact ⟨w, h1, w, es, rfl, h2, h3⟩
theorem nil_idx {i : Int} {p : Prop} (h : idx ([] : List α) i = some x) : p := by have := idx_inv h; simp at this

def rV : RT Value := ⟨1, fun _ cs v => cs = [v] ∧ okCells [v] = true, fun h => by rw [h.1]; rfl, fun h => by rw [h.1]; exact h.2, fun _ h => h⟩
theorem zV (G : GM) : rV.rep G [.slice none 0 0] (.slice none 0 0) := ⟨rfl, rfl⟩
theorem fn_ok {α β : Type} {P : Program} {G G' : GM} {v : Value} {A : GM → List Value → α → Prop} {B : GM → Value → β → Prop} {F : α → Option β} (h : FnOk P G v A B F) : rV.rep G' v.cells.toList v := by
  obtain ⟨f, a, b, fn, rfl, _⟩ := h
  exact ⟨rfl, rfl⟩
theorem At.raw {G M : GM} {v w : Value} (h : At G M v rV w) : PtG M v [w] := by obtain ⟨cs, h1, h2, _⟩ := h; rw [← h2]; exact h1
theorem rv_ok {G : GM} {v : Value} {n : Nat} (h : isSlV v n) : rV.rep G v.cells.toList v := by
  rcases h with ⟨rfl, _⟩ | ⟨b, off, tg, cap, rfl⟩
  · exact ⟨rfl, rfl⟩
  · exact ⟨rfl, rfl⟩
theorem sl_cells {α : Type} {r : RT α} {G : GM} {v : Value} {xs : List α} (h : (rSl r).rep G [v] xs) : (rSl r).rep G v.cells.toList xs := by
  have h' := h
  obtain ⟨v', es, hv, h1, _⟩ := h
  cases hv
  rcases h1.isSl with ⟨rfl, _⟩ | ⟨b, off, tg, cap, rfl⟩
  · exact h'
  · exact h'
theorem zI (k : IntKind) (G : GM) : (rI k).rep G [.int k 0] 0 := rfl
theorem zB (G : GM) : rB.rep G [.bool false] false := rfl
theorem zS (G : GM) : rS.rep G [.string ByteArray.empty] ByteArray.empty := rfl
theorem zL {α : Type} {r : RT α} (G : GM) : (rSl r).rep G [.slice none 0 0] [] := sl_nil

def imax (a b : Int) : Int := if b > a then b else a
def imin (a b : Int) : Int := if b < a then b else a

/-! ### Texts -/
def bidx (a : ByteArray) (i : Int) : Option Int := if 0 ≤ i then (a[i.toNat]?).map fun b => (b.toNat : Int) else none
def ssl (a : ByteArray) (l h : Int) : Option ByteArray := if 0 ≤ l ∧ l ≤ h ∧ h ≤ a.size then some (a.extract l.toNat h.toNat) else none
def lsl {α : Type} (a : List α) (l h : Int) : Option (List α) := if 0 ≤ l ∧ l ≤ h ∧ h ≤ a.length then some ((a.drop l.toNat).take (h.toNat - l.toNat)) else none
def bytesOf (a : ByteArray) : List Int := a.data.toList.map fun b => (b.toNat : Int)
def sEq (a b : ByteArray) : Bool := a.toList == b.toList
def sLt (a b : ByteArray) : Bool := Op.bytesLess a.toList b.toList

/-! ### Blocks -/
theorem vis_blk (h : At G G v r x) : ∃ k, G (blkOf v) = some k := by
  obtain ⟨cs, h1, _⟩ := h
  exact h1.blk
theorem Ow.neG {p : Pc} (O : Ow G H L) (hj : L[j]? = some p) (hb : b ∈ p.foot) (h : ∃ k, G i = some k) : i ≠ b := fun e => by
  subst e
  obtain ⟨k, hk⟩ := h
  rw [O.apart j p hj i hb] at hk; cases hk
theorem Ow.neP {p q : Pc} {c : Nat} (O : Ow G H L) (hij : i ≠ j) (hi : L[i]? = some p) (hj : L[j]? = some q) (hb : b ∈ p.foot) (hc : c ∈ q.foot) : b ≠ c := fun e => by
  subst e
  exact O.dis i j p q hij hi hj b hb hc
theorem Ow.footSl {i : Nat} (O : Ow G H L) (hj : L[j]? = some (eSl v e r xs)) (hi : xs[i]? = some x) {k : Nat} : blkOf (selem v k) ∈ (eSl v e r xs).foot := by
  obtain ⟨es, h1, h2⟩ := O.ok j _ hj
  have hl : i < xs.length := (List.getElem?_eq_some_iff.1 hi).1
  rcases h1 with ⟨rfl, rfl⟩ | ⟨b, tg, cap, rest, sz', rfl, _⟩
  · have := h2.length; simp at this; omega
  · simp [selem, blkOf, eSl, footV]
theorem Ow.footSl' {i : Nat} (O : Ow G H L) (hj : L[j]? = some (eSl v e r xs)) (hi : xs[i]? = some x) : blkOf v ∈ (eSl v e r xs).foot := by
  obtain ⟨es, h1, h2⟩ := O.ok j _ hj
  have hl : i < xs.length := (List.getElem?_eq_some_iff.1 hi).1
  rcases h1 with ⟨rfl, rfl⟩ | ⟨b, tg, cap, rest, sz', rfl, _⟩
  · have := h2.length; simp at this; omega
  · simp [blkOf, eSl, footV]
theorem foot_padd {p : Pc} {k : Nat} (h : blkOf v ∈ p.foot) : blkOf (padd v k) ∈ p.foot := by
  unfold padd
  split
  · exact h
  · exact h
end

section
variable {P : Program} {n : Nat} {σ : Nat → Value} {H H1 : AH} {ops : Array Oper} {l : List Oper} {d : Tmp} {dd : Option Tmp} {ty t xt yt e : TypeId} {pos : String} {af : Array Edge} {g : Option (Nat × Bool)} {v u w p : Value} {x y c z : Operand} {s : List Value}
  {G M : GM} {L : List Pc} {j : Nat} {α β : Type} {r : RT α} {q : RT β} {xs : List α} {x0 : α}
/-! ### Values -/
theorem v_fldA {f k : Nat} (hf : fldT P t f = some k) (hx : opnd s x = some v) (ha : At G M v r x0) : apure P s ⟨some d, .fieldAddr t x f, ty, pos, af, g⟩ = some (padd v k) := by
  obtain ⟨cs, ⟨b, off, kk, rfl, _⟩, _⟩ := ha
  unfold fldT at hf
  split at hf
  · rename_i fs hu
    obtain ⟨fld, hfl, hf⟩ := Option.bind_eq_some_iff.1 hf
    obtain ⟨i, hi, hf⟩ := Option.bind_eq_some_iff.1 hf
    split at hf
    · cases hf
    · rename_i hz
      cases hf
      simp [apure, hx, aFieldAddr, hu, hfl, hi, hz, padd]
  · cases hf
theorem ret0V {fn : Func} {R : Value → AH → Prop} (hr : fn.results.toList = []) (h : R (.tuple #[]) H) : retQ P fn n R .ret σ H := by
  refine ⟨.tuple #[], ?_, h⟩
  simp [aret, hr, aresults]
theorem v_nilck (hx : opnd s x = some v) (ha : At G M v r x0) : apure P s ⟨some d, .nilCheck x, ty, pos, af, g⟩ = some v := by
  obtain ⟨cs, ⟨b, off, kk, rfl, _⟩, _⟩ := ha
  simp [apure, hx, aNilCheck]
theorem v_idxAA {N sz : Nat} {k : IntKind} {i : Int} (he : arrT P t = some (N, e)) (hz : szT P e = some sz) (hx : opnd s x = some v) (hy : opnd s y = some (.int k i)) (ha : At G M v (rArr N r) xs) (h0 : 0 ≤ i) (h1 : i.toNat < xs.length) :
    apure P s ⟨some d, .indexAddr t x y, ty, pos, af, g⟩ = some (padd v (i.toNat * sz)) := by
  obtain ⟨inf, hi, rfl⟩ := szT_inv hz
  obtain ⟨cs, ⟨b, off, kk, rfl, _⟩, h2, _⟩ := ha
  have h2 : i < N := by omega
  simp [apure, hx, hy, aIndexAddr, arrT_inv he, hi, h0, h2, padd]
theorem v_max2 {k : IntKind} {a b : Int} {ats : Array TypeId} (hx : opnd s x = some (.int k a)) (hy : opnd s y = some (.int k b)) : apure P s ⟨some d, .call ⟨.builtin .max, #[x, y], ats⟩, ty, pos, af, g⟩ = some (.int k (imax a b)) := by
  have hc : ∀ k i, closed (.int k i) = true := fun _ _ => rfl
  have hq : (Builtin.max_ ats ty #[.int k a, .int k b]).pureRun P = some (.int k (imax a b)) := rfl
  simp [apure, hx, hy, agen, isSel, Op.operands, Call.operands, hc, execOp, resolve, invoke, builtin, pureRun_bind, pureRun_map, pureRun_pure, hq]
theorem v_max3 {k : IntKind} {a b c : Int} {ats : Array TypeId} (hx : opnd s x = some (.int k a)) (hy : opnd s y = some (.int k b)) (hz : opnd s z = some (.int k c)) : apure P s ⟨some d, .call ⟨.builtin .max, #[x, y, z], ats⟩, ty, pos, af, g⟩ = some (.int k (imax (imax a b) c)) := by
  have hc : ∀ k i, closed (.int k i) = true := fun _ _ => rfl
  have hq : (Builtin.max_ ats ty #[.int k a, .int k b, .int k c]).pureRun P = some (.int k (imax (imax a b) c)) := rfl
  simp [apure, hx, hy, hz, agen, isSel, Op.operands, Call.operands, hc, execOp, resolve, invoke, builtin, pureRun_bind, pureRun_map, pureRun_pure, hq]
theorem v_min2 {k : IntKind} {a b : Int} {ats : Array TypeId} (hx : opnd s x = some (.int k a)) (hy : opnd s y = some (.int k b)) : apure P s ⟨some d, .call ⟨.builtin .min, #[x, y], ats⟩, ty, pos, af, g⟩ = some (.int k (imin a b)) := by
  have hc : ∀ k i, closed (.int k i) = true := fun _ _ => rfl
  have hq : (Builtin.min_ ats ty #[.int k a, .int k b]).pureRun P = some (.int k (imin a b)) := rfl
  simp [apure, hx, hy, agen, isSel, Op.operands, Call.operands, hc, execOp, resolve, invoke, builtin, pureRun_bind, pureRun_map, pureRun_pure, hq]
theorem v_min3 {k : IntKind} {a b c : Int} {ats : Array TypeId} (hx : opnd s x = some (.int k a)) (hy : opnd s y = some (.int k b)) (hz : opnd s z = some (.int k c)) : apure P s ⟨some d, .call ⟨.builtin .min, #[x, y, z], ats⟩, ty, pos, af, g⟩ = some (.int k (imin (imin a b) c)) := by
  have hc : ∀ k i, closed (.int k i) = true := fun _ _ => rfl
  have hq : (Builtin.min_ ats ty #[.int k a, .int k b, .int k c]).pureRun P = some (.int k (imin (imin a b) c)) := rfl
  simp [apure, hx, hy, hz, agen, isSel, Op.operands, Call.operands, hc, execOp, resolve, invoke, builtin, pureRun_bind, pureRun_map, pureRun_pure, hq]
theorem v_sidx {k : IntKind} {i c : Int} {a : ByteArray} (ht : P.underlying t = some .string) (hx : opnd s x = some (.string a)) (hy : opnd s y = some (.int k i)) (hb : bidx a i = some c) : apure P s ⟨some d, .index t x y, ty, pos, af, g⟩ = some (.int .u8 c) := by
  unfold bidx at hb
  split at hb
  · rename_i h0
    obtain ⟨b, hb1, rfl⟩ := Option.map_eq_some_iff.1 hb
    have hc : ∀ b, closed (.string b) = true := fun _ => rfl
    have hi : ∀ k i, closed (.int k i) = true := fun _ _ => rfl
    have hq : (Instr.index t (.string a) (.int k i)).pureRun P = some (.int .u8 b.toNat) := by
      unfold Instr.index
      rw [pureRun_bind]
      show Option.bind (some (k, i)) _ = _
      rw [Option.bind_some]
      simp only
      rw [pureRun_bind, pureRun_under ht, Option.bind_some]
      simp only [h0, if_true, hb1]
      rfl
    simp [apure, hx, hy, agen, isSel, Op.operands, hc, hi, execOp, pureRun_bind, pureRun_map, pureRun_pure, hq]
  · cases hb
theorem v_quo {k : IntKind} {a b : Int} (hb : b ≠ 0) (hx : opnd s x = some (.int k a)) (hy : opnd s y = some (.int k b)) : apure P s ⟨some d, .binOp .quo t x y yt, ty, pos, af, g⟩ = some (.int k (kwrap k (a.tdiv b))) :=
  v_int hx hy (by simp [aint, hb])
theorem v_rem {k : IntKind} {a b : Int} (hb : b ≠ 0) (hx : opnd s x = some (.int k a)) (hy : opnd s y = some (.int k b)) : apure P s ⟨some d, .binOp .rem t x y yt, ty, pos, af, g⟩ = some (.int k (a.tmod b)) :=
  v_int hx hy (by simp [aint, hb])
theorem vs_eql {a b : ByteArray} (hx : opnd s x = some (.string a)) (hy : opnd s y = some (.string b)) : apure P s ⟨some d, .binOp .eql t x y yt, ty, pos, af, g⟩ = some (.bool (sEq a b)) := str_op hx hy rfl rfl
theorem vs_neq {a b : ByteArray} (hx : opnd s x = some (.string a)) (hy : opnd s y = some (.string b)) : apure P s ⟨some d, .binOp .neq t x y yt, ty, pos, af, g⟩ = some (.bool (!(sEq a b))) := str_op hx hy rfl rfl
theorem vs_lss {a b : ByteArray} (hx : opnd s x = some (.string a)) (hy : opnd s y = some (.string b)) : apure P s ⟨some d, .binOp .lss t x y yt, ty, pos, af, g⟩ = some (.bool (sLt a b)) := str_op hx hy rfl rfl
theorem vs_leq {a b : ByteArray} (hx : opnd s x = some (.string a)) (hy : opnd s y = some (.string b)) : apure P s ⟨some d, .binOp .leq t x y yt, ty, pos, af, g⟩ = some (.bool (sLt a b || sEq a b)) := str_op hx hy rfl rfl
theorem vs_gtr {a b : ByteArray} (hx : opnd s x = some (.string a)) (hy : opnd s y = some (.string b)) : apure P s ⟨some d, .binOp .gtr t x y yt, ty, pos, af, g⟩ = some (.bool (!(sLt a b || sEq a b))) := str_op hx hy rfl rfl
theorem vs_geq {a b : ByteArray} (hx : opnd s x = some (.string a)) (hy : opnd s y = some (.string b)) : apure P s ⟨some d, .binOp .geq t x y yt, ty, pos, af, g⟩ = some (.bool (!(sLt a b))) := str_op hx hy rfl rfl
theorem vs_add {a b : ByteArray} (hs : a.size + b.size ≤ 4611686018427387904) (hx : opnd s x = some (.string a)) (hy : opnd s y = some (.string b)) : apure P s ⟨some d, .binOp .add t x y yt, ty, pos, af, g⟩ = some (.string (a ++ b)) := by
  refine str_op hx hy ?_ rfl
  unfold Op.stringOp
  have : ¬ ((a.size + b.size : Nat) : Int) > IntKind.i64.max := by
    have h : IntKind.i64.max = 9223372036854775807 := by decide
    rw [h]; omega
  simp only
  rw [if_neg this]
  rfl
theorem qn {k : Nat} : ([] : List (Nat × Operand)).map (fun p => (p.1, oval σ p.2)) = (([] : List Value).zipIdx k).map fun p => (p.2, p.1) := rfl
theorem qc {k : Nat} {ps : List (Nat × Operand)} {vs : List Value} (h : oval σ x = v) (hl : ps.map (fun p => (p.1, oval σ p.2)) = (vs.zipIdx (k + 1)).map fun p => (p.2, p.1)) : ((k, x) :: ps).map (fun p => (p.1, oval σ p.2)) = ((v :: vs).zipIdx k).map fun p => (p.2, p.1) := by
  simp [h, hl, List.zipIdx_cons]
theorem qn' : ([] : List (Nat × Operand)).map (fun p => (p.1, oval σ p.2)) = [] := rfl
theorem qc' {k : Nat} {ps : List (Nat × Operand)} {vs : List (Nat × Value)} (h : oval σ x = v) (hl : ps.map (fun p => (p.1, oval σ p.2)) = vs) : ((k, x) :: ps).map (fun p => (p.1, oval σ p.2)) = (k, v) :: vs := by
  simp [h, hl]
/-- An array that is built whole. -/
theorem v_buildAA {N : Nat} {z : Value} {vs : List Value} {xs : List α} (ha : arrT P t = some (N, e)) (hs : szT P e = some r.sz) (hz : (P.info? t).bind (·.zero) = some z) (hzo : zeroOk P t = true) (hN : vs.length = N) (hzs : z.cells.size = N * r.sz) (hr : All2 (fun v x => r.rep G v.cells.toList x) vs xs) :
    ∃ cs : List Value, (∀ {s : List Value} {d : Tmp} {ty : TypeId} {pos : String} {af : Array Edge} {g : Option (Nat × Bool)} {ps : Array (Nat × Operand)}, opndP s ps.toList = some (vs.zipIdx.map fun p => (p.2, p.1)) → apure P s ⟨some d, .build t ps, ty, pos, af, g⟩ = some (.agg (List.toArray cs))) ∧ (rArr N r).rep G cs xs := by
  have hcs : All2 (r.rep G) (vs.map fun v => v.cells.toList) xs := by
    clear hN
    induction hr with
    | nil => exact .nil
    | cons h1 _ ih => exact .cons h1 ih
  have hvs : ∀ v ∈ vs, v.cells.size = r.sz := fun v hv => by
    have := hcs.each v.cells.toList (List.mem_map.2 ⟨v, hv, rfl⟩)
    simpa using this
  have hf : Instr.fill (fun j => some (j * r.sz, r.sz)) z.cells (vs.zipIdx.map fun p => (p.2, p.1)) = some (vs.map fun v => v.cells.toList).flatten.toArray := by
    have := fill_all (sz := r.sz) vs 0 z.cells.toList [] rfl (by simp) hvs (by simp [hzs, hN]) (by simp)
    simpa using this
  refine ⟨(vs.map fun v => v.cells.toList).flatten, fun {s d ty pos af g ps} hps => v_buildA ha hs hz hzo hps hf, by rw [← hN, hr.length], _, rfl, hcs⟩
theorem v_indexAA {N sz : Nat} {k : IntKind} {i : Int} {cs : List Value} (he : arrT P t = some (N, e)) (hz : szT P e = some sz) (ha : isAggT P e = some true) (hx : opnd s x = some (.agg (List.toArray cs))) (hy : opnd s y = some (.int k i)) (hr : (rArr N r).rep G cs xs) (h0 : 0 ≤ i) (h1 : i.toNat < xs.length) (hs : r.sz = sz := by rfl) :
    apure P s ⟨some d, .index t x y, ty, pos, af, g⟩ = some (.agg (List.toArray ((cs.drop (i.toNat * sz)).take sz))) := by
  have hN : xs.length = N := hr.1
  have hl := (rArr N r).len hr
  have hl' : cs.length = N * sz := by rw [hl]; show N * r.sz = _; rw [hs]
  have := Nat.mul_le_mul_right sz (show i.toNat + 1 ≤ N by omega)
  rw [Nat.add_mul, Nat.one_mul] at this
  exact v_indexAgg he hz ha hx hy h0 (by omega) (by simp; omega)
theorem v_index1 {N : Nat} {k : IntKind} {i : Int} {cs : List Value} {u : Value} (he : arrT P t = some (N, e)) (hz : szT P e = some 1) (ha : isAggT P e = some false) (hx : opnd s x = some (.agg (List.toArray cs))) (hy : opnd s y = some (.int k i)) (hr : (rArr N r).rep G cs xs) (h0 : 0 ≤ i) (hi : xs[i.toNat]? = some x0) (hu : ∀ c, r.rep G c x0 → c = [u]) :
    apure P s ⟨some d, .index t x y, ty, pos, af, g⟩ = some u := by
  have hN : xs.length = N := hr.1
  obtain ⟨h1, h2⟩ := arr_idx hr hi
  have hl : i.toNat < xs.length := (List.getElem?_eq_some_iff.1 hi).1
  have hs : r.sz = 1 := by have := r.len h1; have h3 := hu _ h1; rw [h3] at this; simpa using this.symm
  have h3 := hu _ h1
  rw [hs] at h3
  refine v_index he hz ha hx hy h0 (by omega) ?_
  have := congrArg (·[0]?) h3
  simpa using this

theorem Lo.callPF {f : FuncId} {args : Array Operand} {ats : Array TypeId} {al : List Value} {fn : Func} {ps : List Pc} {pw : Value → List Pc} {Ψ : Value → Value → GM → Prop} (hd : args.toList.all (ook n) = true) (hf : P.funcs[f]? = some fn) (hnm : (fn.name == "runtime.NumGoroutine" || fn.body.isNone) = false)
    (ha : args.toList.map (oval σ) = al) (O : Ow G H (ps ++ L)) (hc : ∀ L, Ow G H (ps ++ L) → CRF P f al G H (fun w => pw w ++ L) Ψ) :
    Loud P n ⟨some d, .call ⟨.value (.func f), args, ats⟩, ty, pos, af, g⟩ σ H fun v H1 => ∃ w G', Ow G' H1 (pw w ++ L) ∧ G.le G' ∧ Same G L H H1 ∧ Ψ w v G' := by
  obtain ⟨w, v, H1, G', h1, h2, h3, h4⟩ := hc _ O.pin
  obtain ⟨u1, u2⟩ := O.unpin (ps' := pw w) h3 h2
  exact ⟨v, H1, call_step (fo := .func f) hd hf hnm ha h1, w, G', u1, h3, u2, h4⟩
theorem Lo.callvPF {f : FuncId} {fo : Operand} {args : Array Operand} {ats : Array TypeId} {al : List Value} {a b : Array Value} {fn : Func} {ps : List Pc} {pw : Value → List Pc} {Ψ : Value → Value → GM → Prop} (hd : (ook n fo && args.toList.all (ook n)) = true) (hfo : oval σ fo = .func (.func f) a b) (hf : P.funcs[f]? = some fn) (hnm : (fn.name == "runtime.NumGoroutine" || fn.body.isNone) = false)
    (ha : args.toList.map (oval σ) = al) (O : Ow G H (ps ++ L)) (hc : ∀ L, Ow G H (ps ++ L) → CRF P f (a.toList ++ al ++ b.toList) G H (fun w => pw w ++ L) Ψ) :
    Loud P n ⟨some d, .call ⟨.value fo, args, ats⟩, ty, pos, af, g⟩ σ H fun v H1 => ∃ w G', Ow G' H1 (pw w ++ L) ∧ G.le G' ∧ Same G L H H1 ∧ Ψ w v G' := by
  obtain ⟨w, v, H1, G', h1, h2, h3, h4⟩ := hc _ O.pin
  obtain ⟨u1, u2⟩ := O.unpin (ps' := pw w) h3 h2
  exact ⟨v, H1, callv_step hd hfo hf hnm ha h1, w, G', u1, h3, u2, h4⟩
/-- The bytes of a text. -/
theorem Lo.bytes {a : ByteArray} (hd : ook n x = true) (ht : P.underlying t = some .string) (he : elemT P xt = some e) (hi : intT P e = some .u8) (hx : oval σ x = .string a) (O : Ow G H L) :
    Loud P n ⟨some d, .convert t xt x, ty, pos, af, g⟩ σ H fun v H1 => ∃ G', Ow G' H1 L ∧ G.le G' ∧ Same G L H H1 ∧ (rSl (rI .u8)).rep G' [v] (bytesOf a) := by
  have nb := NewB.push H ⟨a.data.toList.map fun b => .int .u8 b.toNat, e, 1, false⟩
  have hle : G.le fun c => if c = H.next then some ⟨a.data.toList.map fun b => .int .u8 b.toNat, e, 1, false⟩ else G c := fun c k hc => by
    have := O.lt (.inl ⟨k, hc⟩)
    simp [show c ≠ H.next by omega, hc]
  refine ⟨.slice (some ⟨H.next, 0, none⟩) a.size a.size, H.push (some ⟨a.data.toList.map fun b => .int .u8 b.toNat, e, 1, false⟩), astep_ok ?_, _, (O.ext nb.ext).le (fun _ c k hc => ?_) hle (fun i p hp c hc => ?_), hle, O.same nb.ext, ?_⟩
  · have h0 : apure P (toL n σ) ⟨some d, .convert t xt x, ty, pos, af, g⟩ = none := by
      have hq : (convert t xt (.string a)).pureRun P = none := by
        unfold convert
        rw [pureRun_bind, pureRun_under ht, Option.bind_some, pureRun_bind, pureRun_under (elemT_inv he), Option.bind_some]
        simp only
        rw [pureRun_bind, pureRun_under (intT_inv hi), Option.bind_some]
        rfl
      have hc : closed (.string a) = true := rfl
      simp [apure, agen, isSel, Op.operands, oo hd hx, hc, execOp, pureRun_bind, pureRun_map, hq]
    have h1 : aread P (toL n σ) ⟨some d, .convert t xt x, ty, pos, af, g⟩ H.get = none := by
      simp [aread, oo hd hx, aBytesStr]
    have h2 : aalloc P (toL n σ) ⟨some d, .convert t xt x, ty, pos, af, g⟩ = some (⟨a.data.toList.map fun b => .int .u8 b.toNat, e, 1, false⟩, .sl a.size a.size none) := by
      simp [aalloc, oo hd hx, ht, elemT_inv he, intT_inv hi]
    simp only [astep, h0, h1, h2, MK.val]
  · by_cases h : c = H.next
    · subst h; simp at hc; rw [nb.get]; exact congrArg some hc
    · simp [h] at hc; exact (O.ext nb.ext).fro c k hc
  · have := O.lt (.inr ⟨i, p, hp, hc⟩)
    simp [show c ≠ H.next by omega, O.apart i p hp c hc]
  · have hl : a.data.toList.length = a.size := by rw [Array.length_toList]; rfl
    refine ⟨_, a.data.toList.map fun b => [.int .u8 (b.toNat : Int)], rfl, ⟨by intro q hq; obtain ⟨b, _, rfl⟩ := List.mem_map.1 hq; rfl, .inr (.inl ⟨H.next, 0, none, a.size, ⟨a.data.toList.map fun b => .int .u8 b.toNat, e, 1, false⟩, by simp [hl], if_pos rfl, ?_, ?_, by simp [hl], .inl rfl⟩)⟩, ?_⟩
    · show 0 + _ * 1 ≤ _; simp
    · show List.take (_ * 1) _ = _
      simp only [List.length_map, Nat.mul_one, List.drop_zero]
      rw [List.take_of_length_le (by simp)]
      generalize a.data.toList = l
      induction l with
      | nil => rfl
      | cons b l ih => simp [ih]
    · unfold bytesOf
      generalize a.data.toList = l
      induction l with
      | nil => exact .nil
      | cons b l ih => exact .cons rfl ih
theorem padd_zero (v : Value) : padd v 0 = v := by
  unfold padd
  split <;> rfl
theorem Lo.storeSl0 {i : Nat} {xs : List α} {x0 y0 : α} (hj : L[j]? = some (eSl w e r xs)) (hi : xs[i]? = some x0) (hd : (ook n x && ook n y) = true) (hz : szT P t = some r.sz) (hx : oval σ x = selem w (i * r.sz)) (hy : oval σ y = v) (hv : r.rep G v.cells.toList y0) (O : Ow G H L) :
    Loud P n ⟨dd, .store t x y, ty, pos, af, g⟩ σ H fun v H1 => Ow G H1 (L.set j (eSl w e r (xs.set i y0))) ∧ ∀ b', b' ≠ blkOf w → H1.get b' = H.get b' := by
  refine Lo.storeSl (o := 0) (s := r) hj hi (Put.at (Put.self r) x0 y0) hd hz ?_ hy hv O
  rw [hx, padd_zero]
end
end
end Go.Am
