/- An abstract machine for the model's programs: its heap, how an abstract value stands for a concrete one, and when an abstract heap stands for a world. -/
import Derived.Orders
import Derived.Tactics
import Derived.Laws.Append
import Derived.Laws.AppendOwn
import Derived.Laws.NewBlocks
import Derived.KernelRfl
namespace Go.Am

/-- A block of the abstract heap: its cells, the element type it was made with, how many cells an element has (for room that is hidden behind it), and whether it may be written. -/
structure ABlk where
  cells : List Value
  elem : TypeId
  sz : Nat
  own : Bool

structure AH where
  next : Nat
  blks : List (Option ABlk)

/-- Lists by their recursor: cheap for the kernel. -/
noncomputable def rget {α : Type} (d : α) (l : List α) : Nat → α := List.rec (fun _ => d) (fun x _ ih n => Nat.casesOn n x ih) l
noncomputable def rset {α : Type} (v : α) (l : List α) : Nat → List α := List.rec (fun _ => []) (fun x xs ih n => Nat.casesOn n (v :: xs) (fun m => x :: ih m)) l
theorem rget_eq {α : Type} (d : α) : ∀ (l : List α) (n : Nat), rget d l n = l.getD n d
  | [], n => by simp [rget]
  | x :: l, 0 => rfl
  | x :: l, n + 1 => by
    show rget d l n = _
    rw [rget_eq d l n]
    simp
theorem rset_eq {α : Type} (v : α) : ∀ (l : List α) (n : Nat), rset v l n = l.set n v
  | [], n => by simp [rset]
  | x :: l, 0 => rfl
  | x :: l, n + 1 => by
    show x :: rset v l n = _
    rw [rset_eq v l n]
    simp
noncomputable def AH.get (H : AH) (b : Nat) : Option ABlk := bif Nat.blt b H.next then rget none H.blks (H.next - 1 - b) else none
theorem AH.get_def (H : AH) (b : Nat) : H.get b = if b < H.next then (H.blks.getD (H.next - 1 - b) none) else none := by
  unfold AH.get
  rw [rget_eq]
  by_cases h : b < H.next
  · have : Nat.blt b H.next = true := by simpa [Nat.blt_eq] using h
    simp [this, h]
  · have : Nat.blt b H.next = false := by
      cases e : Nat.blt b H.next with
      | false => rfl
      | true => exact absurd (by rw [← Nat.blt_eq]; exact e) h
    simp [this, h]
def AH.push (H : AH) (x : Option ABlk) : AH := ⟨H.next + 1, x :: H.blks⟩
noncomputable def AH.set (H : AH) (b : Nat) (x : Option ABlk) : AH := ⟨H.next, bif Nat.blt b H.next then rset x H.blks (H.next - 1 - b) else H.blks⟩
theorem AH.set_def (H : AH) (b : Nat) (x : Option ABlk) : H.set b x = ⟨H.next, if b < H.next then H.blks.set (H.next - 1 - b) x else H.blks⟩ := by
  unfold AH.set
  rw [rset_eq]
  by_cases h : b < H.next
  · have : Nat.blt b H.next = true := by simpa [Nat.blt_eq] using h
    simp [this, h]
  · have : Nat.blt b H.next = false := by
      cases e : Nat.blt b H.next with
      | false => rfl
      | true => exact absurd (by rw [← Nat.blt_eq]; exact e) h
    simp [this, h]
def AH.wf (H : AH) : Prop := H.blks.length = H.next

theorem AH.push_wf {H : AH} {x : Option ABlk} (h : H.wf) : (H.push x).wf := by simp_all [AH.wf, AH.push]
theorem AH.set_wf {H : AH} {b : Nat} {x : Option ABlk} (h : H.wf) : (H.set b x).wf := by
  unfold AH.wf at *
  rw [AH.set_def]
  simp only
  split <;> simp [h]
@[simp] theorem AH.next_push (H : AH) (x : Option ABlk) : (H.push x).next = H.next + 1 := rfl
@[simp] theorem AH.next_set (H : AH) (b : Nat) (x : Option ABlk) : (H.set b x).next = H.next := rfl
theorem AH.get_push (H : AH) (x : Option ABlk) (b : Nat) : (H.push x).get b = if b = H.next then x else H.get b := by
  rw [AH.get_def, AH.get_def]
  unfold AH.push
  by_cases h : b = H.next
  · subst h; simp
  · by_cases hlt : b < H.next
    · have e : H.next - b = (H.next - 1 - b) + 1 := by omega
      simp [h, hlt, show b < H.next + 1 by omega]
      rw [e]; simp
    · simp [h, hlt, show ¬ b < H.next + 1 by omega]
theorem AH.get_push_new (H : AH) (x : Option ABlk) : (H.push x).get H.next = x := by simp [AH.get_push]
theorem AH.get_push_old (H : AH) (x : Option ABlk) {b : Nat} (h : b < H.next) : (H.push x).get b = H.get b := by rw [AH.get_push, if_neg (by omega)]
theorem AH.lt_of_get {H : AH} {b : Nat} {x : ABlk} (h : H.get b = some x) : b < H.next := by
  rw [AH.get_def] at h
  split at h
  · assumption
  · cases h
theorem AH.get_set {H : AH} {b : Nat} {y : ABlk} (x : Option ABlk) (hb : H.get b = some y) (c : Nat) : (H.set b x).get c = if c = b then x else H.get c := by
  have hlt := AH.lt_of_get hb
  rw [AH.get_def, if_pos hlt] at hb
  have hin : H.next - 1 - b < H.blks.length := by
    rcases Nat.lt_or_ge (H.next - 1 - b) H.blks.length with h | h
    · exact h
    · rw [List.getD_eq_getElem?_getD, List.getElem?_eq_none h] at hb; cases hb
  rw [AH.get_def, AH.get_def, AH.set_def]
  simp only [if_pos hlt]
  by_cases hc : c < H.next
  · simp only [if_pos hc]
    by_cases e : c = b
    · subst e; simp [List.getD_eq_getElem?_getD, hin]
    · have hne : H.next - 1 - b ≠ H.next - 1 - c := by omega
      simp [List.getD_eq_getElem?_getD, hne, e]
  · simp only [if_neg hc]
    rw [if_neg (by omega)]

/-! ### Values without addresses -/
def scalar : Value → Bool
  | .bool _ | .int _ _ | .float _ _ | .string _ | .pointer none | .slice none _ _ | .map none | .nilFunc | .nilIface => true
  | _ => false
def closed : Value → Bool
  | .agg cs => cs.all scalar
  | .tuple cs => cs.all scalar
  | v => scalar v

/-! ### What an abstract value stands for -/
/-- Where an abstract block lies: the block, the first cell, how many elements of hidden room. -/
abbrev Ren := Nat → Option (Nat × Nat × Nat)
def Ren.sub (ι ι' : Ren) : Prop := ∀ b y, ι b = some y → ι' b = some y

mutual
inductive VR (ι : Ren) : Value → Value → Prop
  | scal {v : Value} : scalar v = true → VR ι v v
  | ptr {b o cb co ex : Nat} : ι b = some (cb, co, ex) → VR ι (.pointer (some ⟨b, o, none⟩)) (.pointer (some ⟨cb, co + o, none⟩))
  | sl {b o cb co ex l c : Nat} : ι b = some (cb, co, ex) → VR ι (.slice (some ⟨b, o, none⟩) l c) (.slice (some ⟨cb, co + o, none⟩) l (c + ex))
  | slT {b o cb co ex l c : Nat} : ι b = some (cb, co, ex) → VR ι (.slice (some ⟨b, o, some 0⟩) l c) (.slice (some ⟨cb, co + o, none⟩) l c)
  | sl0 {b o : Nat} {t : Option Nat} {cb co ex o' : Nat} : ι b = some (cb, co, ex) → (t = none ∨ t = some 0) → VR ι (.slice (some ⟨b, o, t⟩) 0 0) (.slice (some ⟨cb, o', none⟩) 0 0)
  | fn {f : Fn} {xs ys us vs : List Value} : VRs ι xs ys → VRs ι us vs → VR ι (.func f ⟨xs⟩ ⟨us⟩) (.func f ⟨ys⟩ ⟨vs⟩)
  | ifc {t : TypeId} {v v' : Value} : VR ι v v' → VR ι (.iface t v) (.iface t v')
  | agg {xs ys : List Value} : VRs ι xs ys → VR ι (.agg ⟨xs⟩) (.agg ⟨ys⟩)
  | tup {xs ys : List Value} : VRs ι xs ys → VR ι (.tuple ⟨xs⟩) (.tuple ⟨ys⟩)
inductive VRs (ι : Ren) : List Value → List Value → Prop
  | nil : VRs ι [] []
  | cons {x y : Value} {xs ys : List Value} : VR ι x y → VRs ι xs ys → VRs ι (x :: xs) (y :: ys)
end

mutual
theorem VR.mono {ι ι' : Ren} (h : ι.sub ι') : ∀ {v v' : Value}, VR ι v v' → VR ι' v v'
  | _, _, .scal hs => .scal hs
  | _, _, .ptr hb => .ptr (h _ _ hb)
  | _, _, .sl hb => .sl (h _ _ hb)
  | _, _, .slT hb => .slT (h _ _ hb)
  | _, _, .sl0 hb ht => .sl0 (h _ _ hb) ht
  | _, _, .fn h1 h2 => .fn (VRs.mono h h1) (VRs.mono h h2)
  | _, _, .ifc h1 => .ifc (VR.mono h h1)
  | _, _, .agg h1 => .agg (VRs.mono h h1)
  | _, _, .tup h1 => .tup (VRs.mono h h1)
theorem VRs.mono {ι ι' : Ren} (h : ι.sub ι') : ∀ {v v' : List Value}, VRs ι v v' → VRs ι' v v'
  | _, _, .nil => .nil
  | _, _, .cons h1 h2 => .cons (VR.mono h h1) (VRs.mono h h2)
end

theorem VR.undef (ι : Ren) : VR ι undef undef := .tup .nil
theorem VRs.length {ι : Ren} : ∀ {xs ys : List Value}, VRs ι xs ys → xs.length = ys.length
  | _, _, .nil => rfl
  | _, _, .cons _ h => by simp [VRs.length h]
theorem VRs.get {ι : Ren} : ∀ {xs ys : List Value}, VRs ι xs ys → ∀ (i : Nat) (x : Value), xs[i]? = some x → ∃ y, ys[i]? = some y ∧ VR ι x y
  | _, _, .nil, i, x, h => by simp at h
  | _, _, .cons h1 h2, 0, x, h => by simp at h; subst h; exact ⟨_, rfl, h1⟩
  | _, _, .cons h1 h2, i + 1, x, h => by simp at h; simpa using h2.get i x h
theorem VRs.getD {ι : Ren} {xs ys : List Value} (h : VRs ι xs ys) (i : Nat) : VR ι (xs.getD i Go.undef) (ys.getD i Go.undef) := by
  cases hx : xs[i]? with
  | some x =>
    obtain ⟨y, hy, hv⟩ := h.get i x hx
    simpa [List.getD_eq_getElem?_getD, hx, hy] using hv
  | none =>
    have : ys[i]? = none := by simp at hx ⊢; rw [← h.length]; exact hx
    simpa [List.getD_eq_getElem?_getD, hx, this] using VR.undef ι
theorem VRs.append {ι : Ren} : ∀ {xs ys us vs : List Value}, VRs ι xs ys → VRs ι us vs → VRs ι (xs ++ us) (ys ++ vs)
  | _, _, _, _, .nil, h => h
  | _, _, _, _, .cons h1 h2, h => .cons h1 (h2.append h)
theorem VRs.of_get {ι : Ren} : ∀ {xs ys : List Value}, xs.length = ys.length → (∀ (i : Nat) (x y : Value), xs[i]? = some x → ys[i]? = some y → VR ι x y) → VRs ι xs ys
  | [], [], _, _ => .nil
  | [], _ :: _, h, _ => by simp at h
  | _ :: _, [], h, _ => by simp at h
  | x :: xs, y :: ys, h, hp => .cons (hp 0 x y rfl rfl) (VRs.of_get (by simpa using h) fun i a b ha hb => hp (i + 1) a b (by simpa using ha) (by simpa using hb))
theorem VRs.take {ι : Ren} {xs ys : List Value} (h : VRs ι xs ys) (n : Nat) : VRs ι (xs.take n) (ys.take n) := by
  refine VRs.of_get (by simp [h.length]) fun i x y hx hy => ?_
  rw [List.getElem?_take] at hx hy
  split at hx
  · rename_i hi
    rw [if_pos hi] at hy
    obtain ⟨z, hz, hv⟩ := h.get i x hx
    rw [hz] at hy; cases hy; exact hv
  · cases hx
theorem VRs.drop {ι : Ren} {xs ys : List Value} (h : VRs ι xs ys) (n : Nat) : VRs ι (xs.drop n) (ys.drop n) := by
  refine VRs.of_get (by simp [h.length]) fun i x y hx hy => ?_
  rw [List.getElem?_drop] at hx hy
  obtain ⟨z, hz, hv⟩ := h.get _ x hx
  rw [hz] at hy; cases hy; exact hv
theorem VRs.set {ι : Ren} {xs ys : List Value} (h : VRs ι xs ys) (n : Nat) {v v' : Value} (hv : VR ι v v') : VRs ι (xs.set n v) (ys.set n v') := by
  refine VRs.of_get (by simp [h.length]) fun i x y hx hy => ?_
  rw [List.getElem?_set] at hx hy
  rw [← h.length] at hy
  split at hx
  · rename_i hi
    subst hi
    rw [if_pos rfl] at hy
    split at hx
    · rename_i hl
      rw [if_pos hl] at hy
      cases hx; cases hy; exact hv
    · cases hx
  · rename_i hi
    rw [if_neg hi] at hy
    obtain ⟨z, hz, hv⟩ := h.get i x hx
    rw [hz] at hy; cases hy; exact hv
theorem VR.scalar_eq {ι : Ren} {v v' : Value} (h : VR ι v v') (hs : scalar v = true) : v' = v := by
  cases h <;> first | rfl | simp [scalar] at hs
theorem VRs.scalar_eq {ι : Ren} : ∀ {xs ys : List Value}, VRs ι xs ys → xs.all scalar = true → ys = xs
  | _, _, .nil, _ => rfl
  | _, _, .cons h1 h2, h => by simp at h; rw [h1.scalar_eq h.1, h2.scalar_eq (by simpa using h.2)]
theorem VR.closed_eq {ι : Ren} {v v' : Value} (h : VR ι v v') (hs : closed v = true) : v' = v := by
  cases h with
  | agg h => simp only [closed] at hs; rw [h.scalar_eq (by simpa using hs)]
  | tup h => simp only [closed] at hs; rw [h.scalar_eq (by simpa using hs)]
  | scal h => rfl
  | _ => simp [closed, scalar] at hs
theorem VRs.of_scalar {ι : Ren} : ∀ {xs : List Value}, xs.all scalar = true → VRs ι xs xs
  | [], _ => .nil
  | x :: xs, h => by simp at h; exact .cons (.scal h.1) (VRs.of_scalar (by simpa using h.2))
theorem VR.of_closed {ι : Ren} {v : Value} (h : closed v = true) : VR ι v v := by
  cases v with
  | agg cs => exact .agg (xs := cs.toList) (ys := cs.toList) (VRs.of_scalar (by simpa [closed] using h))
  | tuple cs => exact .tup (xs := cs.toList) (ys := cs.toList) (VRs.of_scalar (by simpa [closed] using h))
  | _ => exact .scal (by simpa [closed] using h)
theorem VR.cells {ι : Ren} {v v' : Value} (h : VR ι v v') : VRs ι v.cells.toList v'.cells.toList := by
  cases h with
  | agg h => exact h
  | scal hs => cases v <;> first | (simp [scalar] at hs; done) | exact .cons (.scal hs) .nil
  | ptr h => exact .cons (.ptr h) .nil
  | sl h => exact .cons (.sl h) .nil
  | slT h => exact .cons (.slT h) .nil
  | sl0 h ht => exact .cons (.sl0 h ht) .nil
  | fn h1 h2 => exact .cons (.fn h1 h2) .nil
  | ifc h => exact .cons (.ifc h) .nil
  | tup h => exact .cons (.tup h) .nil

/-! ### When a heap stands for a world -/
/-- A part of memory that lies in a block of the world. -/
structure BlkOk (ι : Ren) (x : ABlk) (cb co ex : Nat) (w : World) : Prop where
  lies : ∃ arr el fr, w.heap[cb]? = some (.cells arr el fr) ∧ (∀ j v, x.cells[j]? = some v → ∃ v', arr[co + j]? = some v' ∧ VR ι v v') ∧
    (x.own = true → co + x.cells.length + ex * x.sz ≤ arr.size ∧ fr = (0, 0))

/-- 'G': what each abstract block holds; 'n': the first free number. -/
structure Sim (n : Nat) (ι : Ren) (G : Nat → Option ABlk) (w : World) : Prop where
  blk : ∀ b x cb co ex, G b = some x → ι b = some (cb, co, ex) → BlkOk ι x cb co ex w
  inj : ∀ b b' x x' cb co ex cb' co' ex', b ≠ b' → G b = some x → G b' = some x' → x.own = true → ι b = some (cb, co, ex) → ι b' = some (cb', co', ex') → cb ≠ cb'
  dom : ∀ b y, ι b = some y → b < n

def Img (ι : Ren) (G : Nat → Option ABlk) (cb : Nat) : Prop := ∃ b x co ex, G b = some x ∧ ι b = some (cb, co, ex)
def Own (ι : Ren) (G : Nat → Option ABlk) (cb : Nat) : Prop := ∃ b x co ex, G b = some x ∧ x.own = true ∧ ι b = some (cb, co, ex)

/-- How a step turns the world. -/
structure Evo (n : Nat) (ι : Ren) (G : Nat → Option ABlk) (w : World) (ι' : Ren) (G' : Nat → Option ABlk) (w' : World) : Prop where
  sub : ι.sub ι'
  old : ∀ b, b < n → ι' b = ι b
  img : ∀ cb, Img ι' G' cb → Img ι G cb ∨ w.heap.size ≤ cb
  own : ∀ cb, Own ι' G' cb → Own ι G cb ∨ w.heap.size ≤ cb
  same : ∀ cb, cb < w.heap.size → ¬ Own ι G cb → w'.heap[cb]? = w.heap[cb]?
  size : w.heap.size ≤ w'.heap.size
  os : w'.os = w.os
  tape : w'.tape = w.tape
  output : w'.output = w.output

theorem Evo.refl (n : Nat) (ι : Ren) (G : Nat → Option ABlk) (w : World) : Evo n ι G w ι G w :=
  ⟨fun _ _ h => h, fun _ _ => rfl, fun _ h => .inl h, fun _ h => .inl h, fun _ _ _ => rfl, Nat.le_refl _, rfl, rfl, rfl⟩
theorem Evo.trans {n m : Nat} {ι ι1 ι2 : Ren} {G G1 G2 : Nat → Option ABlk} {w w1 w2 : World} (h : Evo n ι G w ι1 G1 w1) (k : Evo m ι1 G1 w1 ι2 G2 w2) (hnm : n ≤ m) : Evo n ι G w ι2 G2 w2 where
  sub b y e := k.sub b y (h.sub b y e)
  old b hb := (k.old b (by omega)).trans (h.old b hb)
  img cb hi := by
    rcases k.img cb hi with h1 | h1
    · exact h.img cb h1
    · exact .inr (Nat.le_trans h.size h1)
  own cb hi := by
    rcases k.own cb hi with h1 | h1
    · exact h.own cb h1
    · exact .inr (Nat.le_trans h.size h1)
  same cb hlt ho := by
    rw [k.same cb (Nat.lt_of_lt_of_le hlt h.size) (fun hO => ?_), h.same cb hlt ho]
    rcases h.own cb hO with h1 | h1
    · exact ho h1
    · omega
  size := Nat.le_trans h.size k.size
  os := k.os.trans h.os
  tape := k.tape.trans h.tape
  output := k.output.trans h.output

theorem BlkOk.mono {ι ι' : Ren} {x : ABlk} {cb co ex : Nat} {w w' : World} (h : BlkOk ι x cb co ex w) (hs : ι.sub ι') (hw : w'.heap[cb]? = w.heap[cb]?) : BlkOk ι' x cb co ex w' := by
  obtain ⟨arr, el, fr, h1, h2, h3⟩ := h.lies
  exact ⟨arr, el, fr, by rw [hw]; exact h1, fun j v hv => by obtain ⟨v', a, b⟩ := h2 j v hv; exact ⟨v', a, b.mono hs⟩, h3⟩
theorem BlkOk.lt {ι : Ren} {x : ABlk} {cb co ex : Nat} {w : World} (h : BlkOk ι x cb co ex w) : cb < w.heap.size := by
  obtain ⟨arr, el, fr, h1, _⟩ := h.lies
  exact (Array.getElem?_eq_some_iff.1 h1).1
theorem BlkOk.cell {ι : Ren} {x : ABlk} {cb co ex : Nat} {w : World} (h : BlkOk ι x cb co ex w) {j : Nat} {v : Value} (hv : x.cells[j]? = some v) : ∃ v', w.cell? ⟨cb, co + j, none⟩ = some v' ∧ VR ι v v' := by
  obtain ⟨arr, el, fr, h1, h2, _⟩ := h.lies
  obtain ⟨v', a, b⟩ := h2 j v hv
  exact ⟨v', by simp [World.cell?, h1, a], b⟩

/-- Nothing but the draws and new blocks: the same heap stands for the new world. -/
theorem Sim.grow {n : Nat} {ι : Ren} {G : Nat → Option ABlk} {w w' : World} (h : Sim n ι G w) (hs : ∀ cb, cb < w.heap.size → w'.heap[cb]? = w.heap[cb]?) : Sim n ι G w' :=
  ⟨fun b x cb co ex hG hb => (h.blk b x cb co ex hG hb).mono (fun _ _ h => h) (hs cb (h.blk b x cb co ex hG hb).lt), h.inj, h.dom⟩
end Go.Am
