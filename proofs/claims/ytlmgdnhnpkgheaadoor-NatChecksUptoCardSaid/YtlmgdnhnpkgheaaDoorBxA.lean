/- Typed data in the abstract heap: what is frozen, what is owned, and how a list or a struct stands in cells. -/
import Derived.Test.YtlmgdnhnpkgheaaDoorAmX
namespace Go.Am
open Go
noncomputable section
set_option linter.unusedSimpArgs false
set_option linter.unusedVariables false

/-! ### What is frozen -/
abbrev GM := Nat → Option ABlk
def GM.le (G G' : GM) : Prop := ∀ b k, G b = some k → G' b = some k
theorem GM.le.refl (G : GM) : G.le G := fun _ _ h => h
theorem GM.le.trans {G1 G2 G3 : GM} (h : G1.le G2) (k : G2.le G3) : G1.le G3 := fun b x hb => k b x (h b x hb)

inductive All2 {α β : Type} (R : α → β → Prop) : List α → List β → Prop
  | nil : All2 R [] []
  | cons {a : α} {b : β} {as : List α} {bs : List β} : R a b → All2 R as bs → All2 R (a :: as) (b :: bs)
theorem All2.mono {α β : Type} {R S : α → β → Prop} (h : ∀ a b, R a b → S a b) : ∀ {as : List α} {bs : List β}, All2 R as bs → All2 S as bs
  | _, _, .nil => .nil
  | _, _, .cons h1 h2 => .cons (h _ _ h1) (h2.mono h)
theorem All2.length {α β : Type} {R : α → β → Prop} : ∀ {as : List α} {bs : List β}, All2 R as bs → as.length = bs.length
  | _, _, .nil => rfl
  | _, _, .cons _ h => by simp [h.length]
theorem All2.get {α β : Type} {R : α → β → Prop} : ∀ {as : List α} {bs : List β}, All2 R as bs → ∀ {i : Nat} {b : β}, bs[i]? = some b → ∃ a, as[i]? = some a ∧ R a b
  | _, _, .nil, i, b, h => by simp at h
  | _, _, .cons h1 h2, 0, b, h => by simp at h; subst h; exact ⟨_, rfl, h1⟩
  | _, _, .cons h1 h2, i + 1, b, h => by simp at h; simpa using h2.get h
theorem All2.append {α β : Type} {R : α → β → Prop} : ∀ {as : List α} {bs : List β} {cs : List α} {ds : List β}, All2 R as bs → All2 R cs ds → All2 R (as ++ cs) (bs ++ ds)
  | _, _, _, _, .nil, h => h
  | _, _, _, _, .cons h1 h2, h => .cons h1 (h2.append h)
theorem All2.take {α β : Type} {R : α → β → Prop} : ∀ {as : List α} {bs : List β} (n : Nat), All2 R as bs → All2 R (as.take n) (bs.take n)
  | _, _, 0, h => by simp; exact .nil
  | _, _, n + 1, .nil => by simp; exact .nil
  | _, _, n + 1, .cons h1 h2 => by simp; exact .cons h1 (h2.take n)
theorem All2.drop {α β : Type} {R : α → β → Prop} : ∀ {as : List α} {bs : List β} (n : Nat), All2 R as bs → All2 R (as.drop n) (bs.drop n)
  | _, _, 0, h => by simpa using h
  | _, _, n + 1, .nil => by simp; exact .nil
  | _, _, n + 1, .cons h1 h2 => by simpa using h2.drop n
theorem All2.set {α β : Type} {R : α → β → Prop} : ∀ {as : List α} {bs : List β} (n : Nat) {a : α} {b : β}, All2 R as bs → R a b → All2 R (as.set n a) (bs.set n b)
  | _, _, _, _, _, .nil, _ => by simp; exact .nil
  | _, _, 0, _, _, .cons h1 h2, h => by simp; exact .cons h h2
  | _, _, n + 1, _, _, .cons h1 h2, h => by simp; exact .cons h1 (h2.set n h)
theorem All2.replicate {α β : Type} {R : α → β → Prop} {a : α} {b : β} (h : R a b) : ∀ n, All2 R (List.replicate n a) (List.replicate n b)
  | 0 => .nil
  | n + 1 => .cons h (All2.replicate h n)

/-! ### Pointers and slices -/
def PtG (G : GM) (v : Value) (cs : List Value) : Prop := ∃ b off k, v = .pointer (some ⟨b, off, none⟩) ∧ G b = some k ∧ off + cs.length ≤ k.cells.length ∧ (k.cells.drop off).take cs.length = cs
def SlG (G : GM) (sz : Nat) (v : Value) (es : List (List Value)) : Prop :=
  (∀ e ∈ es, e.length = sz) ∧ ((v = .slice none 0 0 ∧ es = []) ∨
    (∃ b off tg cap k, v = .slice (some ⟨b, off, tg⟩) es.length cap ∧ G b = some k ∧ off + es.length * sz ≤ k.cells.length ∧ (k.cells.drop off).take (es.length * sz) = es.flatten ∧ es.length ≤ cap ∧ (tg = none ∨ tg = some 0)) ∨
    ∃ b off tg cap, v = .slice (some ⟨b, off, tg⟩) 0 cap ∧ es = [] ∧ (tg = none ∨ tg = some 0))
theorem PtG.le {G G' : GM} {v : Value} {cs : List Value} (h : PtG G v cs) (e : G.le G') : PtG G' v cs := by
  obtain ⟨b, off, k, h1, h2, h3⟩ := h
  exact ⟨b, off, k, h1, e b k h2, h3⟩
theorem SlG.le {G G' : GM} {sz : Nat} {v : Value} {es : List (List Value)} (h : SlG G sz v es) (e : G.le G') : SlG G' sz v es := by
  obtain ⟨h0, h | ⟨b, off, tg, cap, k, h1, h2, h3⟩ | h⟩ := h
  · exact ⟨h0, .inl h⟩
  · exact ⟨h0, .inr (.inl ⟨b, off, tg, cap, k, h1, e _ _ h2, h3⟩)⟩
  · exact ⟨h0, .inr (.inr h)⟩
theorem PtG.pt {H : AH} {v : Value} {cs : List Value} (h : PtG H.get v cs) : Pt H v cs := h
theorem SlG.sl {H : AH} {sz : Nat} {v : Value} {es : List (List Value)} (h : SlG H.get sz v es) : Sl H sz v es := by
  obtain ⟨h0, h | ⟨b, off, tg, cap, k, h1, h2, h3, h4, h5⟩ | ⟨b, off, tg, cap, h1, h2, h3⟩⟩ := h
  · exact ⟨h0, .inl h⟩
  · exact ⟨h0, .inr (.inl ⟨b, off, tg, cap, k, h1, h2, h3, h4⟩)⟩
  · exact ⟨h0, .inr (.inr ⟨b, off, tg, cap, h1, h2⟩)⟩
theorem SlG.isSl {G : GM} {sz : Nat} {v : Value} {es : List (List Value)} (h : SlG G sz v es) : isSlV v es.length := by
  obtain ⟨h0, ⟨rfl, rfl⟩ | ⟨b, off, tg, cap, k, rfl, _⟩ | ⟨b, off, tg, cap, rfl, rfl, _⟩⟩ := h
  · exact .inl ⟨rfl, rfl⟩
  · exact .inr ⟨b, off, tg, cap, rfl⟩
  · exact .inr ⟨b, off, tg, cap, rfl⟩
theorem SlG.idx {G : GM} {sz : Nat} {v : Value} {es : List (List Value)} (h : SlG G sz v es) {i : Nat} {e : List Value} (he : es[i]? = some e) : PtG G (selem v (i * sz)) e := by
  have hi : i < es.length := (List.getElem?_eq_some_iff.1 he).1
  have hel : e.length = sz := h.1 e (List.mem_of_getElem? he)
  obtain ⟨h0, ⟨_, rfl⟩ | ⟨b, off, tg, cap, k, rfl, h2, h3, h4, _⟩ | ⟨_, _, _, _, _, rfl, _⟩⟩ := h
  · simp at hi
  rotate_left
  · simp at hi
  · have hb : i * sz + sz ≤ es.length * sz := by
      have := Nat.mul_le_mul_right sz (show i + 1 ≤ es.length from hi)
      rw [Nat.add_mul, Nat.one_mul] at this; exact this
    refine ⟨b, off + i * sz, k, rfl, h2, by omega, ?_⟩
    rw [hel, take_sub h4 hb]
    exact flat_get h0 he
theorem PtG.sub {G : GM} {v : Value} {cs : List Value} (h : PtG G v cs) (off k : Nat) (hk : off + k ≤ cs.length) : PtG G (padd v off) ((cs.drop off).take k) := by
  obtain ⟨b, o, kk, rfl, h1, h2, h3⟩ := h
  refine ⟨b, o + off, kk, rfl, h1, ?_, ?_⟩
  · simp; omega
  · have : ((cs.drop off).take k).length = k := by simp; omega
    rw [this]; exact take_sub h3 hk
theorem PtG.blk {G : GM} {v : Value} {cs : List Value} (h : PtG G v cs) : ∃ k, G (blkOf v) = some k := by
  obtain ⟨b, o, kk, rfl, h1, _⟩ := h
  exact ⟨kk, h1⟩

/-! ### Types of data -/
structure RT (α : Type) where
  sz : Nat
  rep : GM → List Value → α → Prop
  len : ∀ {G : GM} {cs : List Value} {a : α}, rep G cs a → cs.length = sz
  one : ∀ {G : GM} {cs : List Value} {a : α}, rep G cs a → okCells cs = true
  mono : ∀ {G G' : GM} {cs : List Value} {a : α}, G.le G' → rep G cs a → rep G' cs a
def rI (k : IntKind) : RT Int := ⟨1, fun _ cs x => cs = [.int k x], fun h => by rw [h]; rfl, fun h => by rw [h]; rfl, fun _ h => h⟩
def rB : RT Bool := ⟨1, fun _ cs x => cs = [.bool x], fun h => by rw [h]; rfl, fun h => by rw [h]; rfl, fun _ h => h⟩
def rS : RT ByteArray := ⟨1, fun _ cs x => cs = [.string x], fun h => by rw [h]; rfl, fun h => by rw [h]; rfl, fun _ h => h⟩
def rU : RT Unit := ⟨0, fun _ cs _ => cs = [], fun h => by rw [h]; rfl, fun h => by rw [h]; rfl, fun _ h => h⟩
theorem SlG.one {G : GM} {sz : Nat} {v : Value} {es : List (List Value)} (h : SlG G sz v es) : okCells [v] = true := by
  obtain ⟨h0, ⟨rfl, rfl⟩ | ⟨b, off, tg, cap, k, rfl, _⟩ | ⟨b, off, tg, cap, rfl, rfl, _⟩⟩ := h <;> rfl
def rSl {α : Type} (r : RT α) : RT (List α) :=
  ⟨1, fun G cs xs => ∃ v es, cs = [v] ∧ SlG G r.sz v es ∧ All2 (r.rep G) es xs, fun ⟨v, es, h, _⟩ => by rw [h]; rfl, fun ⟨v, es, h, h1, _⟩ => by rw [h]; exact h1.one,
    fun hG ⟨v, es, h, h1, h2⟩ => ⟨v, es, h, h1.le hG, h2.mono fun _ _ => r.mono hG⟩⟩
theorem okCells_append {a b : List Value} (ha : okCells a = true) (hb : okCells b = true) : okCells (a ++ b) = true := by
  simp only [okCells, List.all_append, Bool.and_eq_true] at *; exact ⟨ha, hb⟩
theorem All2.okFlat {α : Type} {r : RT α} {G : GM} : ∀ {es : List (List Value)} {xs : List α}, All2 (r.rep G) es xs → okCells es.flatten = true
  | _, _, .nil => rfl
  | _, _, .cons h1 h2 => by simp only [List.flatten_cons]; exact okCells_append (r.one h1) h2.okFlat
theorem All2.flatLen {α : Type} {r : RT α} {G : GM} : ∀ {es : List (List Value)} {xs : List α}, All2 (r.rep G) es xs → es.flatten.length = xs.length * r.sz
  | _, _, .nil => by simp
  | _, _, .cons h1 h2 => by simp only [List.flatten_cons, List.length_append, r.len h1, h2.flatLen, List.length_cons, Nat.add_mul]; omega
theorem All2.each {α : Type} {r : RT α} {G : GM} : ∀ {es : List (List Value)} {xs : List α}, All2 (r.rep G) es xs → ∀ e ∈ es, e.length = r.sz
  | _, _, .nil, e, h => by simp at h
  | _, _, .cons h1 h2, e, h => by
    rcases List.mem_cons.1 h with rfl | h
    · exact r.len h1
    · exact h2.each e h
def rArr {α : Type} (n : Nat) (r : RT α) : RT (List α) :=
  ⟨n * r.sz, fun G cs xs => xs.length = n ∧ ∃ es, cs = es.flatten ∧ All2 (r.rep G) es xs, fun ⟨h, es, h1, h2⟩ => by rw [h1, h2.flatLen, h], fun ⟨h, es, h1, h2⟩ => by rw [h1]; exact h2.okFlat,
    fun hG ⟨h, es, h1, h2⟩ => ⟨h, es, h1, h2.mono fun _ _ => r.mono hG⟩⟩
def rP {α β : Type} (r : RT α) (s : RT β) : RT (α × β) :=
  ⟨r.sz + s.sz, fun G cs x => ∃ c d, cs = c ++ d ∧ r.rep G c x.1 ∧ s.rep G d x.2, fun ⟨c, d, h, h1, h2⟩ => by rw [h, List.length_append, r.len h1, s.len h2],
    fun ⟨c, d, h, h1, h2⟩ => by rw [h]; exact okCells_append (r.one h1) (s.one h2), fun hG ⟨c, d, h, h1, h2⟩ => ⟨c, d, h, r.mono hG h1, s.mono hG h2⟩⟩
def rIso {α S : Type} (r : RT α) (f : S → α) : RT S := ⟨r.sz, fun G cs x => r.rep G cs (f x), fun h => r.len h, fun h => r.one h, fun hG h => r.mono hG h⟩

/-! ### Parts -/
def Proj {α β : Type} (r : RT α) (o : Nat) (s : RT β) (f : α → β) : Prop := ∀ (G : GM) (cs : List Value) (x : α), r.rep G cs x → s.rep G ((cs.drop o).take s.sz) (f x) ∧ o + s.sz ≤ r.sz
def Put {α β : Type} (r : RT α) (o : Nat) (s : RT β) (u : α → β → α) : Prop := ∀ (G : GM) (cs : List Value) (x : α) (c : List Value) (y : β), r.rep G cs x → s.rep G c y → r.rep G (splice cs o c) (u x y) ∧ o + s.sz ≤ r.sz
section
variable {α β γ S : Type} {r : RT α} {s : RT β} {t : RT γ}
theorem Proj.self (r : RT α) : Proj r 0 r (fun x => x) := fun G cs x h => ⟨by rw [← r.len h]; simpa using h, by omega⟩
theorem Put.self (r : RT α) : Put r 0 r (fun _ y => y) := fun G cs x c y h hy => ⟨by
  have h1 := r.len h; have h2 := r.len hy
  have : splice cs 0 c = c := by simp [splice]; omega
  rw [this]; exact hy, by omega⟩
theorem Proj.fst (r : RT α) (s : RT β) : Proj (rP r s) 0 r (fun x => x.1) := fun G cs x ⟨c, d, h, h1, h2⟩ => ⟨by rw [h, ← r.len h1]; simpa using h1, by show 0 + r.sz ≤ r.sz + s.sz; omega⟩
theorem Proj.snd (r : RT α) (s : RT β) : Proj (rP r s) r.sz s (fun x => x.2) := fun G cs x ⟨c, d, h, h1, h2⟩ => ⟨by rw [h, ← r.len h1, ← s.len h2]; simpa using h2, Nat.le_refl _⟩
theorem Put.fst (r : RT α) (s : RT β) : Put (rP r s) 0 r (fun x y => (y, x.2)) := fun G cs x c y ⟨c1, d, h, h1, h2⟩ hy => ⟨⟨c, d, by
  have e1 := r.len h1; have e2 := r.len hy
  rw [h]; simp only [splice, List.take_zero, List.nil_append, Nat.zero_add]
  rw [show c.length = c1.length by omega, List.drop_left], hy, h2⟩, by show 0 + r.sz ≤ r.sz + s.sz; omega⟩
theorem Put.snd (r : RT α) (s : RT β) : Put (rP r s) r.sz s (fun x y => (x.1, y)) := fun G cs x c y ⟨c1, d, h, h1, h2⟩ hy => ⟨⟨c1, c, by
  have e1 := r.len h1; have e2 := s.len hy; have e3 := s.len h2
  rw [h]; simp only [splice]
  rw [← e1, List.take_left, ← List.drop_drop, List.drop_left, List.drop_eq_nil_of_le (by omega)]; simp, h1, hy⟩, Nat.le_refl _⟩
theorem Proj.iso (r : RT α) (f : S → α) : Proj (rIso r f) 0 r f := fun G cs x h => ⟨by have h' : r.rep G cs (f x) := h; rw [← r.len h']; simpa using h', by show 0 + r.sz ≤ r.sz; omega⟩
theorem Put.iso (r : RT α) (f : S → α) (u : S → α → S) (hf : ∀ x y, f (u x y) = y) : Put (rIso r f) 0 r u := fun G cs x c y h hy => ⟨by
  have h' : r.rep G cs (f x) := h
  have e1 := r.len h'; have e2 := r.len hy
  have : splice cs 0 c = c := by simp [splice]; omega
  rw [this]; show r.rep G c (f (u x y)); rw [hf]; exact hy, by show 0 + r.sz ≤ r.sz; omega⟩
theorem drop_take_sub {l : List Value} {o n o' n' : Nat} (h : o' + n' ≤ n) : (((l.drop o).take n).drop o').take n' = (l.drop (o + o')).take n' := by
  rw [List.drop_take, List.take_take, List.drop_drop]
  congr 1
  omega
theorem Proj.comp {f : α → β} {g : β → γ} {o o' : Nat} (h : Proj r o s f) (k : Proj s o' t g) : Proj r (o + o') t (fun x => g (f x)) := fun G cs x hx => by
  obtain ⟨h1, h2⟩ := h G cs x hx
  obtain ⟨k1, k2⟩ := k G _ _ h1
  rw [drop_take_sub k2] at k1
  exact ⟨k1, by omega⟩
theorem splice_splice {l c : List Value} {o n o' : Nat} (hl : o + n ≤ l.length) (hc : o' + c.length ≤ n) : splice l o (splice ((l.drop o).take n) o' c) = splice l (o + o') c := by
  have e : ((l.drop o).take n).length = n := by simp; omega
  apply List.ext_getElem?
  intro i
  rw [splice_get _ _ _ (by rw [splice_length (by omega)]; omega), splice_length (by omega), e, splice_get l (o + o') c (by omega)]
  by_cases h1 : o ≤ i ∧ i < o + n
  · rw [if_pos h1, splice_get _ _ _ (by omega)]
    by_cases h2 : o' ≤ i - o ∧ i - o < o' + c.length
    · rw [if_pos h2, if_pos (by omega)]; congr 1; omega
    · rw [if_neg h2, if_neg (by omega), List.getElem?_take, if_pos (by omega), List.getElem?_drop]; congr 1; omega
  · rw [if_neg h1, if_neg (by omega)]
theorem Put.comp {f : α → β} {u : α → β → α} {w : β → γ → β} {o o' : Nat} (h : Proj r o s f) (hu : Put r o s u) (hw : Put s o' t w) : Put r (o + o') t (fun x y => u x (w (f x) y)) := fun G cs x c y hx hy => by
  obtain ⟨h1, h2⟩ := h G cs x hx
  obtain ⟨k1, k2⟩ := hw G _ _ c y h1 hy
  obtain ⟨m1, m2⟩ := hu G cs x _ _ hx k1
  have e1 := r.len hx
  have e2 := t.len hy
  rw [splice_splice (by omega) (by omega)] at m1
  exact ⟨m1, by omega⟩
def idx {α : Type} (xs : List α) (i : Int) : Option α := if i < 0 then none else xs[i.toNat]?
theorem idx_inv {xs : List α} {i : Int} {x : α} (h : idx xs i = some x) : 0 ≤ i ∧ i.toNat < xs.length ∧ xs[i.toNat]? = some x := by
  unfold idx at h
  split at h
  · cases h
  · exact ⟨by omega, (List.getElem?_eq_some_iff.1 h).1, h⟩
/-- A list with another element. -/
def upd' {α : Type} (xs : List α) (i : Int) (x : α) : Option (List α) := if i < 0 then none else if i.toNat < xs.length then some (xs.set i.toNat x) else none
theorem upd'_inv {xs ys : List α} {i : Int} {x : α} (h : upd' xs i x = some ys) : 0 ≤ i ∧ i.toNat < xs.length ∧ ys = xs.set i.toNat x := by
  unfold upd' at h
  split at h
  · cases h
  · split at h
    · cases h; exact ⟨by omega, by assumption, rfl⟩
    · cases h
theorem arr_idx {n i : Nat} {G : GM} {cs : List Value} {xs : List α} {x : α} (h : (rArr n r).rep G cs xs) (hi : xs[i]? = some x) : r.rep G ((cs.drop (i * r.sz)).take r.sz) x ∧ i * r.sz + r.sz ≤ n * r.sz := by
  obtain ⟨h0, es, rfl, h1⟩ := h
  obtain ⟨e, he, hr⟩ := h1.get hi
  rw [flat_get h1.each he]
  have hl : i < xs.length := (List.getElem?_eq_some_iff.1 hi).1
  refine ⟨hr, ?_⟩
  have := Nat.mul_le_mul_right r.sz (show i + 1 ≤ n by omega)
  rw [Nat.add_mul, Nat.one_mul] at this; exact this
theorem flat_set {sz : Nat} {c : List Value} : ∀ {es : List (List Value)} {i : Nat}, (∀ e ∈ es, e.length = sz) → c.length = sz → i < es.length → splice es.flatten (i * sz) c = (es.set i c).flatten
  | [], i, _, _, h => by simp at h
  | e :: es, 0, h, hc, _ => by
    have := h e (by simp)
    simp [splice]
    rw [show c.length = e.length by omega, List.drop_left]
  | e :: es, i + 1, h, hc, hi => by
    have h1 := h e (by simp)
    have ih := flat_set (es := es) (i := i) (fun x hx => h x (by simp [hx])) hc (by simpa using hi)
    simp only [List.flatten_cons, List.set_cons_succ]
    rw [← ih]
    have e1 : (i + 1) * sz = e.length + i * sz := by rw [h1, Nat.add_mul]; omega
    unfold splice
    rw [e1, List.take_length_add_append, Nat.add_assoc, List.drop_length_add_append]
    simp [List.append_assoc]
theorem arr_set {n i : Nat} {G : GM} {cs c : List Value} {xs : List α} {x : α} (h : (rArr n r).rep G cs xs) (hi : i < xs.length) (hx : r.rep G c x) : (rArr n r).rep G (splice cs (i * r.sz) c) (xs.set i x) ∧ i * r.sz + r.sz ≤ n * r.sz := by
  obtain ⟨h0, es, rfl, h1⟩ := h
  refine ⟨⟨by simpa using h0, es.set i c, flat_set h1.each (r.len hx) (by rw [h1.length]; exact hi), h1.set i hx⟩, ?_⟩
  have := Nat.mul_le_mul_right r.sz (show i + 1 ≤ n by omega)
  rw [Nat.add_mul, Nat.one_mul] at this; exact this
end

/-! ### Data at a pointer -/
def At {α : Type} (G M : GM) (v : Value) (r : RT α) (x : α) : Prop := ∃ cs, PtG M v cs ∧ r.rep G cs x
section
variable {α β : Type} {r : RT α} {s : RT β} {G G' M M' : GM} {v : Value} {x : α} {xs : List α}
theorem At.le (h : At G M v r x) (hG : G.le G') (hM : M.le M') : At G' M' v r x := by
  obtain ⟨cs, h1, h2⟩ := h
  exact ⟨cs, h1.le hM, r.mono hG h2⟩
theorem At.proj {o : Nat} {f : α → β} (h : At G M v r x) (p : Proj r o s f) : At G M (padd v o) s (f x) := by
  obtain ⟨cs, h1, h2⟩ := h
  obtain ⟨p1, p2⟩ := p G cs x h2
  have := r.len h2
  exact ⟨_, h1.sub o s.sz (by omega), p1⟩
theorem At.aidx {n i : Nat} (h : At G M v (rArr n r) xs) (hi : xs[i]? = some x) : At G M (padd v (i * r.sz)) r x := by
  obtain ⟨cs, h1, h2⟩ := h
  obtain ⟨p1, p2⟩ := arr_idx h2 hi
  have := (rArr n r).len h2
  exact ⟨_, h1.sub (i * r.sz) r.sz (by rw [this]; exact p2), p1⟩
theorem sl_idx {i : Nat} (h : (rSl r).rep G [v] xs) (hi : xs[i]? = some x) : At G G (selem v (i * r.sz)) r x := by
  obtain ⟨v', es, hv, h1, h2⟩ := h
  cases hv
  obtain ⟨e, he, hr⟩ := h2.get hi
  exact ⟨e, h1.idx he, hr⟩
theorem sl_len (h : (rSl r).rep G [v] xs) : isSlV v xs.length := by
  obtain ⟨v', es, hv, h1, h2⟩ := h
  cases hv
  rw [← h2.length]; exact h1.isSl
theorem sl_nil : (rSl r).rep G [.slice none 0 0] [] := ⟨_, [], rfl, ⟨by simp, .inl ⟨rfl, rfl⟩⟩, .nil⟩
end
end
end Go.Am
