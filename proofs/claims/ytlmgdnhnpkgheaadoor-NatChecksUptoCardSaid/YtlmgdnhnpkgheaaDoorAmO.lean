/- Each operation's rule for proofs with variables. -/
import Derived.Test.YtlmgdnhnpkgheaaDoorAmN
namespace Go.Am
open Go
noncomputable section
set_option linter.unusedSimpArgs false
set_option linter.unusedVariables false

/-! ### What lies in the heap -/
def padd : Value → Nat → Value
  | .pointer (some ⟨b, off, none⟩), k => .pointer (some ⟨b, off + k, none⟩)
  | v, _ => v
def selem : Value → Nat → Value
  | .slice (some ⟨b, off, _⟩) _ _, k => .pointer (some ⟨b, off + k, none⟩)
  | v, _ => v
/-- A pointer and the cells that it points at. -/
def Pt (H : AH) (v : Value) (cs : List Value) : Prop := ∃ b off k, v = .pointer (some ⟨b, off, none⟩) ∧ H.get b = some k ∧ off + cs.length ≤ k.cells.length ∧ (k.cells.drop off).take cs.length = cs
/-- A slice and its elements' cells. -/
def Sl (H : AH) (sz : Nat) (v : Value) (es : List (List Value)) : Prop :=
  (∀ e ∈ es, e.length = sz) ∧ ((v = .slice none 0 0 ∧ es = []) ∨
    (∃ b off tg cap k, v = .slice (some ⟨b, off, tg⟩) es.length cap ∧ H.get b = some k ∧ off + es.length * sz ≤ k.cells.length ∧ (k.cells.drop off).take (es.length * sz) = es.flatten) ∨ ∃ b off tg cap, v = .slice (some ⟨b, off, tg⟩) 0 cap ∧ es = [])
/-- Nothing known is lost. -/
def Ext (H H' : AH) : Prop := H.next ≤ H'.next ∧ ∀ b k, H.get b = some k → H'.get b = some k
theorem Ext.refl (H : AH) : Ext H H := ⟨Nat.le_refl _, fun _ _ h => h⟩
theorem Ext.trans {H H1 H2 : AH} (h1 : Ext H H1) (h2 : Ext H1 H2) : Ext H H2 := ⟨Nat.le_trans h1.1 h2.1, fun b k h => h2.2 b k (h1.2 b k h)⟩
theorem Pt.ext {H H' : AH} {v : Value} {cs : List Value} (h : Pt H v cs) (e : Ext H H') : Pt H' v cs := by
  obtain ⟨b, off, k, h1, h2, h3⟩ := h
  exact ⟨b, off, k, h1, e.2 b k h2, h3⟩
theorem Sl.ext {H H' : AH} {sz : Nat} {v : Value} {es : List (List Value)} (h : Sl H sz v es) (e : Ext H H') : Sl H' sz v es := by
  obtain ⟨h0, h | ⟨b, off, tg, cap, k, h1, h2, h3⟩ | h⟩ := h
  · exact ⟨h0, .inl h⟩
  · exact ⟨h0, .inr (.inl ⟨b, off, tg, cap, k, h1, e.2 b k h2, h3⟩)⟩
  · exact ⟨h0, .inr (.inr h)⟩
theorem lt_next {H : AH} {b : Nat} {k : ABlk} (h : H.get b = some k) : b < H.next := by
  rw [AH.get_def] at h
  by_cases hb : b < H.next
  · exact hb
  · rw [if_neg hb] at h; cases h
theorem get_push_new (H : AH) (x : Option ABlk) : (H.push x).get H.next = x := by
  rw [get_push_upd]; simp [upd]
theorem get_push_old {H : AH} {x : Option ABlk} {b : Nat} {k : ABlk} (h : H.get b = some k) : (H.push x).get b = some k := by
  have := lt_next h
  rw [get_push_upd]
  simp only [upd]
  rw [if_neg (by omega)]
  exact h
theorem Ext.push (H : AH) (x : Option ABlk) : Ext H (H.push x) := ⟨by simp [AH.push], fun _ _ h => get_push_old h⟩
theorem take_sub {α : Type} {l : List α} {o n off k : Nat} {cs : List α} (h : (l.drop o).take n = cs) (hk : off + k ≤ n) : (l.drop (o + off)).take k = (cs.drop off).take k := by
  subst h
  rw [List.drop_take, List.take_take, List.drop_drop]
  congr 1
  omega
theorem Pt.loc {H : AH} {b : Nat} {k : ABlk} (h : H.get b = some k) : Pt H (.pointer (some ⟨b, 0, none⟩)) k.cells := ⟨b, 0, k, rfl, h, by simp, by simp⟩
theorem Pt.sub {H : AH} {v : Value} {cs : List Value} (h : Pt H v cs) (off k : Nat) (hk : Nat.ble (off + k) cs.length = true) : Pt H (padd v off) ((cs.drop off).take k) := by
  replace hk := Nat.le_of_ble_eq_true hk
  obtain ⟨b, o, kk, rfl, h1, h2, h3⟩ := h
  refine ⟨b, o + off, kk, rfl, h1, ?_, ?_⟩
  · simp; omega
  · have : ((cs.drop off).take k).length = k := by simp; omega
    rw [this]; exact take_sub h3 hk
theorem flat_get {α : Type} {sz : Nat} : ∀ {es : List (List α)} {i : Nat} {e : List α}, (∀ x ∈ es, x.length = sz) → es[i]? = some e → (es.flatten.drop (i * sz)).take sz = e
  | [], _, _, _, h => by simp at h
  | x :: r, 0, e, hl, h => by
    simp at h; subst h
    have := hl x (by simp)
    simp [← this]
  | x :: r, i + 1, e, hl, h => by
    have h1 := hl x (by simp)
    simp only [List.flatten_cons]
    rw [show (i + 1) * sz = x.length + i * sz by rw [h1, Nat.add_mul, Nat.one_mul, Nat.add_comm], ← List.drop_drop]
    simp only [List.drop_left]
    exact flat_get (fun y hy => hl y (by simp [hy])) (by simpa using h)
theorem flat_len {α : Type} {sz : Nat} : ∀ {es : List (List α)}, (∀ x ∈ es, x.length = sz) → es.flatten.length = es.length * sz
  | [], _ => by simp
  | x :: r, h => by
    have h1 := h x (by simp)
    have := flat_len (es := r) (fun y hy => h y (by simp [hy]))
    simp only [List.flatten_cons, List.length_append, List.length_cons, this, h1, Nat.add_mul, Nat.one_mul]
    omega
theorem Sl.idx {H : AH} {sz : Nat} {v : Value} {es : List (List Value)} (h : Sl H sz v es) {i : Nat} {e : List Value} (he : es[i]? = some e) : Pt H (selem v (i * sz)) e := by
  have hi : i < es.length := (List.getElem?_eq_some_iff.1 he).1
  have hel : e.length = sz := h.1 e (List.mem_of_getElem? he)
  obtain ⟨h0, ⟨_, rfl⟩ | ⟨b, off, tg, cap, k, rfl, h2, h3, h4⟩ | ⟨_, _, _, _, _, rfl⟩⟩ := h
  · simp at hi
  rotate_left
  · simp at hi
  · have hb : i * sz + sz ≤ es.length * sz := by
      have := Nat.mul_le_mul_right sz (show i + 1 ≤ es.length from hi)
      rw [Nat.add_mul, Nat.one_mul] at this; exact this
    refine ⟨b, off + i * sz, k, rfl, h2, by omega, ?_⟩
    rw [hel, take_sub h4 hb]
    exact flat_get h0 he
theorem Sl.nil (H : AH) (sz : Nat) : Sl H sz (.slice none 0 0) [] := ⟨by simp, .inl ⟨rfl, rfl⟩⟩

def isSlV (v : Value) (n : Nat) : Prop := (v = .slice none 0 0 ∧ n = 0) ∨ ∃ b off tg cap, v = .slice (some ⟨b, off, tg⟩) n cap
theorem Sl.isSl {H : AH} {sz : Nat} {v : Value} {es : List (List Value)} (h : Sl H sz v es) : isSlV v es.length := by
  obtain ⟨h0, ⟨rfl, rfl⟩ | ⟨b, off, tg, cap, k, rfl, _⟩ | ⟨b, off, tg, cap, rfl, rfl⟩⟩ := h
  · exact .inl ⟨rfl, rfl⟩
  · exact .inr ⟨b, off, tg, cap, rfl⟩
  · exact .inr ⟨b, off, tg, cap, rfl⟩

/-! ### Rules -/
section
variable {P : Program} {n : Nat} {σ : Nat → Value} {H H1 : AH} {ops : Array Oper} {l : List Oper} {Q : (Nat → Value) → AH → Prop} {d : Tmp} {ty t yt e : TypeId} {pos : String} {af : Array Edge} {g : Option (Nat × Bool)} {v u w : Value} {x y c : Operand}

theorem gk0 : gok n ops σ none true := rfl
theorem gk {j : Nat} {want b r : Bool} {d : Tmp} (h1 : (ops[j]?).bind (·.dst) = some d) (h2 : Nat.blt d n = true) (h3 : σ d = .bool b) (h4 : (b == want) = r) : gok n ops σ (some (j, want)) r := by
  unfold gok
  simp only [h1]
  exact ⟨blt_iff.1 h2, b, h3, h4.symm⟩
theorem W.pure {op : Op} (hg : gok n ops σ g true) (hd : Nat.blt d n = true) (h : apure P (toL n σ) ⟨some d, op, ty, pos, af, g⟩ = some v) (hr : AWO P n ops l (up σ d v) H Q) : AWO P n ops (⟨some d, op, ty, pos, af, g⟩ :: l) σ H Q :=
  .step (wanted_gok hg) hd (step_pure h) hr
theorem W.skip {op : Op} {dd : Option Tmp} (hg : gok n ops σ g false) (hd : dok n dd = true) (hr : AWO P n ops l (upo σ dd undef) H Q) : AWO P n ops (⟨dd, op, ty, pos, af, g⟩ :: l) σ H Q :=
  .skip (wanted_gok hg) hd hr
theorem W.split {b : Bool} {p : Prop} (h1 : b = true → p) (h2 : b = false → p) : p := by cases b <;> simp_all
theorem W.move (hg : gok n ops σ g true) (ok : (Nat.blt d n && ook n x) = true) (hx : oval σ x = v) (hr : AWO P n ops l (up σ d v) H Q) : AWO P n ops (⟨some d, .move x, ty, pos, af, g⟩ :: l) σ H Q := by
  simp only [Bool.and_eq_true] at ok
  exact W.pure hg ok.1 (opnd_oval' ok.2 hx) hr
theorem W.assign (hg : gok n ops σ g true) (ok : (Nat.blt d n && ook n x) = true) (hx : oval σ x = v) (hr : AWO P n ops l (up σ d v) H Q) : AWO P n ops (⟨some d, .assign x, ty, pos, af, g⟩ :: l) σ H Q := by
  simp only [Bool.and_eq_true] at ok
  exact W.pure hg ok.1 (opnd_oval' ok.2 hx) hr
theorem W.pickT (hg : gok n ops σ g true) (ok : (Nat.blt d n && ook n c && ook n x) = true) (hc : oval σ c = .bool true) (hx : oval σ x = v) (hr : AWO P n ops l (up σ d v) H Q) : AWO P n ops (⟨some d, .pick c x y, ty, pos, af, g⟩ :: l) σ H Q := by
  simp only [Bool.and_eq_true] at ok
  exact W.pure hg ok.1.1 (by simp [apure, opnd_oval' ok.1.2 hc, opnd_oval' ok.2 hx]) hr
theorem W.pickF (hg : gok n ops σ g true) (ok : (Nat.blt d n && ook n c && ook n y) = true) (hc : oval σ c = .bool false) (hx : oval σ y = v) (hr : AWO P n ops l (up σ d v) H Q) : AWO P n ops (⟨some d, .pick c x y, ty, pos, af, g⟩ :: l) σ H Q := by
  simp only [Bool.and_eq_true] at ok
  exact W.pure hg ok.1.1 (by simp [apure, opnd_oval' ok.1.2 hc, opnd_oval' ok.2 hx]) hr
theorem W.int {op : BinOp} {k : IntKind} {a b : Int} (hg : gok n ops σ g true) (ok : (Nat.blt d n && ook n x && ook n y) = true) (hx : oval σ x = .int k a) (hy : oval σ y = .int k b) (hv : aint op k a b = some v)
    (hr : AWO P n ops l (up σ d v) H Q) : AWO P n ops (⟨some d, .binOp op t x y yt, ty, pos, af, g⟩ :: l) σ H Q := by
  simp only [Bool.and_eq_true] at ok
  exact W.pure hg ok.1.1 (by simp [apure, opnd_oval' ok.1.2 hx, opnd_oval' ok.2 hy, abin, hv]) hr
theorem kwrap_in {k : IntKind} {a : Int} (h : krange k a = true) : kwrap k a = a := by simp [kwrap, h]
theorem krange_i64 {a : Int} (h1 : -9223372036854775808 ≤ a) (h2 : a ≤ 9223372036854775807) : krange .i64 a = true := by
  simp [krange]; omega
theorem W.add {a b : Int} (hg : gok n ops σ g true) (ok : (Nat.blt d n && ook n x && ook n y) = true) (hx : oval σ x = .int .i64 a) (hy : oval σ y = .int .i64 b) (h1 : -9223372036854775808 ≤ a + b) (h2 : a + b ≤ 9223372036854775807)
    (hr : AWO P n ops l (up σ d (.int .i64 (a + b))) H Q) : AWO P n ops (⟨some d, .binOp .add t x y yt, ty, pos, af, g⟩ :: l) σ H Q :=
  W.int hg ok hx hy (by simp [aint, kwrap_in (krange_i64 h1 h2)]) hr
theorem W.sub {a b : Int} (hg : gok n ops σ g true) (ok : (Nat.blt d n && ook n x && ook n y) = true) (hx : oval σ x = .int .i64 a) (hy : oval σ y = .int .i64 b) (h1 : -9223372036854775808 ≤ a - b) (h2 : a - b ≤ 9223372036854775807)
    (hr : AWO P n ops l (up σ d (.int .i64 (a - b))) H Q) : AWO P n ops (⟨some d, .binOp .sub t x y yt, ty, pos, af, g⟩ :: l) σ H Q :=
  W.int hg ok hx hy (by simp [aint, kwrap_in (krange_i64 h1 h2)]) hr
theorem W.mul {a b : Int} (hg : gok n ops σ g true) (ok : (Nat.blt d n && ook n x && ook n y) = true) (hx : oval σ x = .int .i64 a) (hy : oval σ y = .int .i64 b) (h1 : -9223372036854775808 ≤ a * b) (h2 : a * b ≤ 9223372036854775807)
    (hr : AWO P n ops l (up σ d (.int .i64 (a * b))) H Q) : AWO P n ops (⟨some d, .binOp .mul t x y yt, ty, pos, af, g⟩ :: l) σ H Q :=
  W.int hg ok hx hy (by simp [aint, kwrap_in (krange_i64 h1 h2)]) hr
/-- The range's counter, one up. -/
theorem W.inc {i : Nat} (hg : gok n ops σ g true) (ok : (Nat.blt d n && ook n x) = true) (hx : oval σ x = .int .i64 i) (h2 : i < 9223372036854775807)
    (hr : AWO P n ops l (up σ d (.int .i64 ((i + 1 : Nat) : Int))) H Q) : AWO P n ops (⟨some d, .binOp .add t x (.const (.int .i64 1)) yt, ty, pos, af, g⟩ :: l) σ H Q :=
  W.add hg (by simp only [Bool.and_eq_true] at ok; simp only [Bool.and_eq_true]; exact ⟨ok, rfl⟩) hx rfl (by omega) (by omega) hr
end
end
end Go.Am
