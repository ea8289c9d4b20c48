/- An abstract machine for the model's programs: its heap, how an abstract value stands for a concrete one, and when an abstract heap stands for a world. -/
import Derived.Orders
import Derived.Tactics
import Derived.Laws.Append
import Derived.Laws.AppendOwn
import Derived.Laws.NewBlocks
import Derived.KernelRfl
import Derived.Laws.Tables
import Derived.Laws.CopyRow
import Derived.Laws.BytesArg
import Derived.LoopN
import Derived.StillTail
set_option maxRecDepth 100000
set_option maxHeartbeats 8000000
set_option linter.unusedVariables false
set_option linter.unusedSimpArgs false
namespace Go.Am
theorem zAc {α : Type _} {β : Type _} {x : Option α} {f : α → Option β} {b : β} (h : x.bind f = some b) : ∃ a, x = some a ∧ f a = some b := Option.bind_eq_some_iff.1 h
theorem zAb {α : Type _} {l : List α} {i : Nat} {a : α} : l.getD i a = l[i]?.getD a := List.getD_eq_getElem?_getD
theorem zAa {α : Type _} {a b : α} (h : some a = some b) : a = b := Option.some.inj h
abbrev zAd := ByteArray
theorem zAi {α : Type _} {l : List α} {i : Nat} {a : α} (h : l[i]? = some a) : ∃ h : i < l.length, l[i] = a := List.getElem?_eq_some_iff.1 h
theorem zAh {α : Type _} {l : List α} {i : Nat} (h : i < l.length) : l[i]? = some l[i] := List.getElem?_eq_getElem h
theorem zAg (n : Nat) : n < n.succ := Nat.lt_succ_self n
structure ABlk where
 cells : List Value
 elem : TypeId
 sz : Nat
 own : Bool
structure AH where
 next : Nat
 blks : List (Option ABlk)
noncomputable def rget {α : Type} (d : α) (l : List α) : Nat -> α := List.rec (fun _ => d) (fun x _ ih n => Nat.casesOn n x ih) l
noncomputable def rset {α : Type} (v : α) (l : List α) : Nat -> List α := List.rec (fun _ => []) (fun x xs ih n => Nat.casesOn n (v :: xs) (fun m => x :: ih m)) l
theorem z8t {α : Type} (d : α) : ∀ (l : List α) (n : Nat), rget d l n = l.getD n d
 | [], n => by simp [rget]
 | x :: l, 0 => rfl
 | x :: l, n + 1 => by
  show rget d l n = _
  rw [z8t d l n]
  simp
theorem zci {α : Type} (v : α) : ∀ (l : List α) (n : Nat), rset v l n = l.set n v
 | [], n => by simp [rset]
 | x :: l, 0 => rfl
 | x :: l, n + 1 => by
  show x :: rset v l n = _
  rw [zci v l n]
  simp
noncomputable def AH.get (H : AH) (b : Nat) : Option ABlk := bif Nat.blt b H.next then rget none H.blks (H.next - 1 - b) else none
theorem AH.get_def (H : AH) (b : Nat) : H.get b = if b < H.next then (H.blks.getD (H.next - 1 - b) none) else none := by
 unfold AH.get
 rw [z8t]
 by_cases h : b < H.next
 ·have : Nat.blt b H.next = true := by simpa [Nat.blt_eq] using h
  simp [this, h]
 ·have : Nat.blt b H.next = false := by
   cases e : Nat.blt b H.next with
   | false => rfl
   | true => exact absurd (by rw [<- Nat.blt_eq]; exact e) h
  simp [this, h]
def AH.push (H : AH) (x : Option ABlk) : AH := ⟨H.next + 1, x :: H.blks⟩
noncomputable def AH.set (H : AH) (b : Nat) (x : Option ABlk) : AH := ⟨H.next, bif Nat.blt b H.next then rset x H.blks (H.next - 1 - b) else H.blks⟩
theorem AH.set_def (H : AH) (b : Nat) (x : Option ABlk) : H.set b x = ⟨H.next, if b < H.next then H.blks.set (H.next - 1 - b) x else H.blks⟩ := by
 unfold AH.set
 rw [zci]
 by_cases h : b < H.next
 ·have : Nat.blt b H.next = true := by simpa [Nat.blt_eq] using h
  simp [this, h]
 ·have : Nat.blt b H.next = false := by
   cases e : Nat.blt b H.next with
   | false => rfl
   | true => exact absurd (by rw [<- Nat.blt_eq]; exact e) h
  simp [this, h]
def AH.wf (H : AH) : Prop := H.blks.length = H.next
@[simp] theorem AH.next_push (H : AH) (x : Option ABlk) : (H.push x).next = H.next + 1 := rfl
@[simp] theorem AH.next_set (H : AH) (b : Nat) (x : Option ABlk) : (H.set b x).next = H.next := rfl
theorem AH.get_push (H : AH) (x : Option ABlk) (b : Nat) : (H.push x).get b = if b = H.next then x else H.get b := by
 rw [AH.get_def, AH.get_def]
 unfold AH.push
 by_cases h : b = H.next
 ·subst h; simp
 ·by_cases hlt : b < H.next
  ·have e : H.next - b = (H.next - 1 - b) + 1 := by omega
   simp [h, hlt, show b < H.next + 1 by omega]
   rw [e]; simp
  ·simp [h, hlt, show ¬ b < H.next + 1 by omega]
theorem AH.get_push_new (H : AH) (x : Option ABlk) : (H.push x).get H.next = x := by simp [AH.get_push]
theorem AH.get_push_old (H : AH) (x : Option ABlk) {b : Nat} (h : b < H.next) : (H.push x).get b = H.get b := by rw [AH.get_push, if_neg (by omega)]
theorem AH.lt_of_get {H : AH} {b : Nat} {x : ABlk} (h : H.get b = some x) : b < H.next := by
 rw [AH.get_def] at h
 split at h
 ·assumption
 ·cases h
theorem AH.get_set {H : AH} {b : Nat} {y : ABlk} (x : Option ABlk) (hb : H.get b = some y) (c : Nat) : (H.set b x).get c = if c = b then x else H.get c := by
 have hlt := AH.lt_of_get hb
 rw [AH.get_def, if_pos hlt] at hb
 have hin : H.next - 1 - b < H.blks.length := by
  rcases Nat.lt_or_ge (H.next - 1 - b) H.blks.length with h | h
  ·exact h
  ·rw [zAb, List.getElem?_eq_none h] at hb; cases hb
 rw [AH.get_def, AH.get_def, AH.set_def]
 simp only [if_pos hlt]
 by_cases hc : c < H.next
 ·simp only [if_pos hc]
  by_cases e : c = b
  ·subst e; simp [zAb, hin]
  ·have hne : H.next - 1 - b ≠ H.next - 1 - c := by omega
   simp [zAb, hne, e]
 ·simp only [if_neg hc]
  rw [if_neg (by omega)]
def z1m : Value -> Bool
 | .bool _ | .int _ _ | .float _ _ | .string _ | .pointer none | .slice none _ _ | .map none | .nilFunc | .nilIface => true
 | _ => false
def closed : Value -> Bool
 | .agg cs => cs.all z1m
 | .tuple cs => cs.all z1m
 | v => z1m v
abbrev Ren := Nat -> Option (Nat × Nat × Nat)
def Ren.sub (ι ι' : Ren) : Prop := ∀ b y, ι b = some y -> ι' b = some y
mutual
inductive VR (ι : Ren) : Value -> Value -> Prop
 | scal {v : Value} : z1m v = true -> VR ι v v
 | ptr {b o cb co ex : Nat} : ι b = some (cb, co, ex) -> VR ι (.pointer (some ⟨b, o, none⟩)) (.pointer (some ⟨cb, co + o, none⟩))
 | sl {b o cb co ex l c : Nat} : ι b = some (cb, co, ex) -> VR ι (.slice (some ⟨b, o, none⟩) l c) (.slice (some ⟨cb, co + o, none⟩) l (c + ex))
 | slT {b o cb co ex l c : Nat} : ι b = some (cb, co, ex) -> VR ι (.slice (some ⟨b, o, some 0⟩) l c) (.slice (some ⟨cb, co + o, none⟩) l c)
 | sl0 {b o : Nat} {t : Option Nat} {cb co ex : Nat} {a' : Addr} : ι b = some (cb, co, ex) -> (t = none \/ t = some 0) -> VR ι (.slice (some ⟨b, o, t⟩) 0 0) (.slice (some a') 0 0)
 | fn {f : Fn} {xs ys us vs : List Value} : VRs ι xs ys -> VRs ι us vs -> VR ι (.func f ⟨xs⟩ ⟨us⟩) (.func f ⟨ys⟩ ⟨vs⟩)
 | ifc {t : TypeId} {v v' : Value} : VR ι v v' -> VR ι (.iface t v) (.iface t v')
 | agg {xs ys : List Value} : VRs ι xs ys -> VR ι (.agg ⟨xs⟩) (.agg ⟨ys⟩)
 | tup {xs ys : List Value} : VRs ι xs ys -> VR ι (.tuple ⟨xs⟩) (.tuple ⟨ys⟩)
inductive VRs (ι : Ren) : List Value -> List Value -> Prop
 | nil : VRs ι [] []
 | cons {x y : Value} {xs ys : List Value} : VR ι x y -> VRs ι xs ys -> VRs ι (x :: xs) (y :: ys)
end
mutual
theorem VR.mono {ι ι' : Ren} (h : ι.sub ι') : ∀ {v v' : Value}, VR ι v v' -> VR ι' v v'
 | _, _, .scal hs => .scal hs
 | _, _, .ptr hb => .ptr (h _ _ hb)
 | _, _, .sl hb => .sl (h _ _ hb)
 | _, _, .slT hb => .slT (h _ _ hb)
 | _, _, .sl0 hb ht => .sl0 (h _ _ hb) ht
 | _, _, .fn h1 h2 => .fn (VRs.mono h h1) (VRs.mono h h2)
 | _, _, .ifc h1 => .ifc (VR.mono h h1)
 | _, _, .agg h1 => .agg (VRs.mono h h1)
 | _, _, .tup h1 => .tup (VRs.mono h h1)
theorem VRs.mono {ι ι' : Ren} (h : ι.sub ι') : ∀ {v v' : List Value}, VRs ι v v' -> VRs ι' v v'
 | _, _, .nil => .nil
 | _, _, .cons h1 h2 => .cons (VR.mono h h1) (VRs.mono h h2)
end
theorem VR.undef (ι : Ren) : VR ι undef undef := .tup .nil
theorem VRs.length {ι : Ren} : ∀ {xs ys : List Value}, VRs ι xs ys -> xs.length = ys.length
 | _, _, .nil => rfl
 | _, _, .cons _ h => by simp [VRs.length h]
theorem VRs.get {ι : Ren} : ∀ {xs ys : List Value}, VRs ι xs ys -> ∀ (i : Nat) (x : Value), xs[i]? = some x -> ∃ y, ys[i]? = some y /\ VR ι x y
 | _, _, .nil, i, x, h => by simp at h
 | _, _, .cons h1 h2, 0, x, h => by simp at h; subst h; exact ⟨_, rfl, h1⟩
 | _, _, .cons h1 h2, i + 1, x, h => by simp at h; simpa using h2.get i x h
theorem VRs.getD {ι : Ren} {xs ys : List Value} (h : VRs ι xs ys) (i : Nat) : VR ι (xs.getD i Go.undef) (ys.getD i Go.undef) := by
 cases hx : xs[i]? with
 | some x =>
  obtain ⟨y, hy, hv⟩ := h.get i x hx
  simpa [zAb, hx, hy] using hv
 | none =>
  have : ys[i]? = none := by simp at hx ⊢; rw [<- h.length]; exact hx
  simpa [zAb, hx, this] using VR.undef ι
theorem VRs.append {ι : Ren} : ∀ {xs ys us vs : List Value}, VRs ι xs ys -> VRs ι us vs -> VRs ι (xs ++ us) (ys ++ vs)
 | _, _, _, _, .nil, h => h
 | _, _, _, _, .cons h1 h2, h => .cons h1 (h2.append h)
theorem VRs.of_get {ι : Ren} : ∀ {xs ys : List Value}, xs.length = ys.length -> (∀ (i : Nat) (x y : Value), xs[i]? = some x -> ys[i]? = some y -> VR ι x y) -> VRs ι xs ys
 | [], [], _, _ => .nil
 | [], _ :: _, h, _ => by simp at h
 | _ :: _, [], h, _ => by simp at h
 | x :: xs, y :: ys, h, hp => .cons (hp 0 x y rfl rfl) (VRs.of_get (by simpa using h) fun i a b ha hb => hp (i + 1) a b (by simpa using ha) (by simpa using hb))
theorem VRs.take {ι : Ren} {xs ys : List Value} (h : VRs ι xs ys) (n : Nat) : VRs ι (xs.take n) (ys.take n) := by
 refine VRs.of_get (by simp [h.length]) fun i x y hx hy => ?_
 rw [List.getElem?_take] at hx hy
 split at hx
 ·rename_i hi
  rw [if_pos hi] at hy
  obtain ⟨z, hz, hv⟩ := h.get i x hx
  rw [hz] at hy; cases hy; exact hv
 ·cases hx
theorem VRs.drop {ι : Ren} {xs ys : List Value} (h : VRs ι xs ys) (n : Nat) : VRs ι (xs.drop n) (ys.drop n) := by
 refine VRs.of_get (by simp [h.length]) fun i x y hx hy => ?_
 rw [List.getElem?_drop] at hx hy
 obtain ⟨z, hz, hv⟩ := h.get _ x hx
 rw [hz] at hy; cases hy; exact hv
theorem VRs.set {ι : Ren} {xs ys : List Value} (h : VRs ι xs ys) (n : Nat) {v v' : Value} (hv : VR ι v v') : VRs ι (xs.set n v) (ys.set n v') := by
 refine VRs.of_get (by simp [h.length]) fun i x y hx hy => ?_
 rw [List.getElem?_set] at hx hy
 rw [<- h.length] at hy
 split at hx
 ·rename_i hi
  subst hi
  rw [if_pos rfl] at hy
  split at hx
  ·rename_i hl
   rw [if_pos hl] at hy
   cases hx; cases hy; exact hv
  ·cases hx
 ·rename_i hi
  rw [if_neg hi] at hy
  obtain ⟨z, hz, hv⟩ := h.get i x hx
  rw [hz] at hy; cases hy; exact hv
theorem VR.scalar_eq {ι : Ren} {v v' : Value} (h : VR ι v v') (hs : z1m v = true) : v' = v := by
 cases h <;> first | rfl | simp [z1m] at hs
theorem VRs.scalar_eq {ι : Ren} : ∀ {xs ys : List Value}, VRs ι xs ys -> xs.all z1m = true -> ys = xs
 | _, _, .nil, _ => rfl
 | _, _, .cons h1 h2, h => by simp at h; rw [h1.scalar_eq h.1, h2.scalar_eq (by simpa using h.2)]
theorem VR.closed_eq {ι : Ren} {v v' : Value} (h : VR ι v v') (hs : closed v = true) : v' = v := by
 cases h with
 | agg h => simp only [closed] at hs; rw [h.scalar_eq (by simpa using hs)]
 | tup h => simp only [closed] at hs; rw [h.scalar_eq (by simpa using hs)]
 | scal h => rfl
 | _ => simp [closed, z1m] at hs
theorem VRs.of_scalar {ι : Ren} : ∀ {xs : List Value}, xs.all z1m = true -> VRs ι xs xs
 | [], _ => .nil
 | x :: xs, h => by simp at h; exact .cons (.scal h.1) (VRs.of_scalar (by simpa using h.2))
theorem VR.of_closed {ι : Ren} {v : Value} (h : closed v = true) : VR ι v v := by
 cases v with
 | agg cs => exact .agg (xs := cs.toList) (ys := cs.toList) (VRs.of_scalar (by simpa [closed] using h))
 | tuple cs => exact .tup (xs := cs.toList) (ys := cs.toList) (VRs.of_scalar (by simpa [closed] using h))
 | _ => exact .scal (by simpa [closed] using h)
theorem VR.cells {ι : Ren} {v v' : Value} (h : VR ι v v') : VRs ι v.cells.toList v'.cells.toList := by
 cases h with
 | agg h => exact h
 | scal hs => cases v <;> first | (simp [z1m] at hs; done) | exact .cons (.scal hs) .nil
 | ptr h => exact .cons (.ptr h) .nil
 | sl h => exact .cons (.sl h) .nil
 | slT h => exact .cons (.slT h) .nil
 | sl0 h ht => exact .cons (.sl0 h ht) .nil
 | fn h1 h2 => exact .cons (.fn h1 h2) .nil
 | ifc h => exact .cons (.ifc h) .nil
 | tup h => exact .cons (.tup h) .nil
structure BlkOk (ι : Ren) (x : ABlk) (cb co ex : Nat) (w : World) : Prop where
 lies : ∃ arr el fr, w.heap[cb]? = some (.cells arr el fr) /\ (∀ j v, x.cells[j]? = some v -> ∃ v', arr[co + j]? = some v' /\ VR ι v v') ∧
  (x.own = true -> co + x.cells.length + ex * x.sz <= arr.size /\ fr = (0, 0))
structure SimB (n : Nat) (ι : Ren) (G : Nat -> Option ABlk) (w : World) : Prop where
 blk : ∀ b x cb co ex, G b = some x -> ι b = some (cb, co, ex) -> BlkOk ι x cb co ex w
 inj : ∀ b b' x x' cb co ex cb' co' ex', b ≠ b' -> G b = some x -> G b' = some x' -> x.own = true -> ι b = some (cb, co, ex) -> ι b' = some (cb', co', ex') -> cb ≠ cb'
 dom : ∀ b y, ι b = some y -> b < n
def Img (ι : Ren) (G : Nat -> Option ABlk) (cb : Nat) : Prop := ∃ b x co ex, G b = some x /\ ι b = some (cb, co, ex)
def Own (ι : Ren) (G : Nat -> Option ABlk) (cb : Nat) : Prop := ∃ b x co ex, G b = some x /\ x.own = true /\ ι b = some (cb, co, ex)
def TBs : List Nat := [5]
set_option linter.unusedVariables false in
def TBok (cb : Nat) (o : Obj) : Prop := ∃ arr t fr, o = .cells arr t fr /\ arr = ((List.range 20).map fun i => Value.int .u64 ((10 ^ i : Nat) : Int)).toArray
def TabI (ι : Ren) (G : Nat -> Option ABlk) (w : World) : Prop := ∀ cb ∈ TBs, (∃ o, w.heap[cb]? = some o /\ TBok cb o) /\ ¬ Own ι G cb
structure Sim (n : Nat) (ι : Ren) (G : Nat -> Option ABlk) (w : World) : Prop extends SimB n ι G w where
 tab : TabI ι G w
theorem TabI.lt {ι : Ren} {G : Nat -> Option ABlk} {w : World} (h : TabI ι G w) {cb : Nat} (hc : cb ∈ TBs) : cb < w.heap.size := by
 obtain ⟨⟨o, h1, _⟩, _⟩ := h cb hc
 exact (Array.getElem?_eq_some_iff.1 h1).1
theorem TabI.same {ι : Ren} {G : Nat -> Option ABlk} {w w' : World} (h : TabI ι G w) (hs : ∀ cb, cb < w.heap.size -> w'.heap[cb]? = w.heap[cb]?) : TabI ι G w' := fun cb hc => by
 obtain ⟨⟨o, h1, h2⟩, h3⟩ := h cb hc
 exact ⟨⟨o, (hs cb (h.lt hc)).trans h1, h2⟩, h3⟩
theorem TabI.ro {ι ι' : Ren} {G G' : Nat -> Option ABlk} {w : World} (h : TabI ι G w) (hr : ∀ b x, G' b = some x -> x.own = false) : TabI ι' G' w := fun cb hc => ⟨(h cb hc).1, fun ⟨b, x, co, ex, hG, ho, _⟩ => by rw [hr b x hG] at ho; cases ho⟩
structure Evo (n : Nat) (ι : Ren) (G : Nat -> Option ABlk) (w : World) (ι' : Ren) (G' : Nat -> Option ABlk) (w' : World) : Prop where
 sub : ι.sub ι'
 old : ∀ b, b < n -> ι' b = ι b
 img : ∀ cb, Img ι' G' cb -> Img ι G cb \/ w.heap.size <= cb
 own : ∀ cb, Own ι' G' cb -> Own ι G cb \/ w.heap.size <= cb
 same : ∀ cb, cb < w.heap.size -> ¬ Own ι G cb -> w'.heap[cb]? = w.heap[cb]?
 size : w.heap.size <= w'.heap.size
 os : w'.os = w.os
 tape : w'.tape = w.tape
 output : w'.output = w.output
theorem TabI.evo {n : Nat} {ι ι' : Ren} {G G' : Nat -> Option ABlk} {w w' : World} (h : TabI ι G w) (e : Evo n ι G w ι' G' w') : TabI ι' G' w' := fun cb hc => by
 obtain ⟨⟨o, h1, h2⟩, h3⟩ := h cb hc
 refine ⟨⟨o, (e.same cb (h.lt hc) h3).trans h1, h2⟩, fun hO => ?_⟩
 rcases e.own cb hO with h4 | h4
 ·exact h3 h4
 ·have := h.lt hc; omega
theorem Evo.refl (n : Nat) (ι : Ren) (G : Nat -> Option ABlk) (w : World) : Evo n ι G w ι G w :=
 ⟨fun _ _ h => h, fun _ _ => rfl, fun _ h => .inl h, fun _ h => .inl h, fun _ _ _ => rfl, Nat.le_refl _, rfl, rfl, rfl⟩
theorem Evo.trans {n m : Nat} {ι ι1 ι2 : Ren} {G G1 G2 : Nat -> Option ABlk} {w w1 w2 : World} (h : Evo n ι G w ι1 G1 w1) (k : Evo m ι1 G1 w1 ι2 G2 w2) (hnm : n <= m) : Evo n ι G w ι2 G2 w2 where
 sub b y e := k.sub b y (h.sub b y e)
 old b hb := (k.old b (by omega)).trans (h.old b hb)
 img cb hi := by
  rcases k.img cb hi with h1 | h1
  ·exact h.img cb h1
  ·exact .inr (Nat.le_trans h.size h1)
 own cb hi := by
  rcases k.own cb hi with h1 | h1
  ·exact h.own cb h1
  ·exact .inr (Nat.le_trans h.size h1)
 same cb hlt ho := by
  rw [k.same cb (Nat.lt_of_lt_of_le hlt h.size) (fun hO => ?_), h.same cb hlt ho]
  rcases h.own cb hO with h1 | h1
  ·exact ho h1
  ·omega
 size := Nat.le_trans h.size k.size
 os := k.os.trans h.os
 tape := k.tape.trans h.tape
 output := k.output.trans h.output
theorem BlkOk.mono {ι ι' : Ren} {x : ABlk} {cb co ex : Nat} {w w' : World} (h : BlkOk ι x cb co ex w) (hs : ι.sub ι') (hw : w'.heap[cb]? = w.heap[cb]?) : BlkOk ι' x cb co ex w' := by
 obtain ⟨arr, el, fr, h1, h2, h3⟩ := h.lies
 exact ⟨arr, el, fr, by rw [hw]; exact h1, fun j v hv => by obtain ⟨v', a, b⟩ := h2 j v hv; exact ⟨v', a, b.mono hs⟩, h3⟩
theorem BlkOk.lt {ι : Ren} {x : ABlk} {cb co ex : Nat} {w : World} (h : BlkOk ι x cb co ex w) : cb < w.heap.size := by
 obtain ⟨arr, el, fr, h1, _⟩ := h.lies
 exact (Array.getElem?_eq_some_iff.1 h1).1
theorem BlkOk.cell {ι : Ren} {x : ABlk} {cb co ex : Nat} {w : World} (h : BlkOk ι x cb co ex w) {j : Nat} {v : Value} (hv : x.cells[j]? = some v) : ∃ v', w.cell? ⟨cb, co + j, none⟩ = some v' /\ VR ι v v' := by
 obtain ⟨arr, el, fr, h1, h2, _⟩ := h.lies
 obtain ⟨v', a, b⟩ := h2 j v hv
 exact ⟨v', by simp [World.cell?, h1, a], b⟩
theorem Sim.grow {n : Nat} {ι : Ren} {G : Nat -> Option ABlk} {w w' : World} (h : Sim n ι G w) (hs : ∀ cb, cb < w.heap.size -> w'.heap[cb]? = w.heap[cb]?) : Sim n ι G w' :=
 ⟨⟨fun b x cb co ex hG hb => (h.blk b x cb co ex hG hb).mono (fun _ _ h => h) (hs cb (h.blk b x cb co ex hG hb).lt), h.inj, h.dom⟩, h.tab.same hs⟩
end Go.Am
/- The abstract machine's operations that leave its heap alone and do not read it. -/
namespace Go.Am
open Go
noncomputable section
def _root_.Go.Sem.pureRun {α : Type} (P : Program) : Sem α -> Option α
 | .pure a => some a
 | .program k => (k P).pureRun P
 | .mark _ k => k.pureRun P
 | _ => none
theorem zbv {α : Type} {P : Program} {e : Sem α} {a : α} (h : e.pureRun P = some a) (w : World) : e.run P w = .ok a w := by
 induction e with
 | pure b => simp only [Sem.pureRun] at h; cases h; rfl
 | program k ih => simp only [Sem.pureRun] at h; simpa [Sem.run] using ih P h
 | mark m k ih => simp only [Sem.pureRun] at h; simpa [Sem.run] using ih h
 | _ => simp [Sem.pureRun] at h
def opnd (s : List Value) : Operand -> Option Value
 | .tmp t => some (rget undef s t)
 | .const v => if closed v then some v else none
 | .func f => some (.func (.func f) #[] #[])
 | .global _ => none
structure SR (ι : Ren) (s : List Value) (a : Act) : Prop where
 size : a.tmps.size = s.length
 val : ∀ t, VR ι (s.getD t undef) (a.tmps.getD t undef)
 defers : a.defers = []
theorem SR.mono {ι ι' : Ren} {s : List Value} {a : Act} (h : SR ι s a) (hs : ι.sub ι') : SR ι' s a := ⟨h.size, fun t => (h.val t).mono hs, h.defers⟩
theorem SR.opnd {ι : Ren} {s : List Value} {a : Act} (h : SR ι s a) {x : Operand} {v : Value} (hx : opnd s x = some v) : VR ι v (a.eval x) := by
 cases x with
 | tmp t => simp only [Am.opnd, z8t] at hx; cases hx; exact h.val t
 | const u =>
  simp only [Am.opnd] at hx
  split at hx
  ·rename_i hc; cases hx; exact VR.of_closed hc
  ·cases hx
 | func f => simp only [Am.opnd] at hx; cases hx; exact .fn (xs := []) (us := []) .nil .nil
 | global g => simp [Am.opnd] at hx
def OR (ι : Ren) (s : List Value) (a : Act) (o : Oper) : Prop := ∀ x ∈ o.op.operands, ∀ v, opnd s x = some v -> VR ι v (a.eval x)
theorem SR.or {ι : Ren} {s : List Value} {a : Act} (h : SR ι s a) (o : Oper) : OR ι s a o := fun _ _ _ hx => h.opnd hx
def putd (s : List Value) (d : Option Tmp) (v : Value) : List Value := match d with | some d => rset v s d | none => s
theorem z6a (s : List Value) (d : Tmp) (v : Value) : putd s (some d) v = s.set d v := zci v s d
theorem SR.put {ι : Ren} {s : List Value} {a : Act} (h : SR ι s a) (d : Option Tmp) {v v' : Value} (hv : VR ι v v') : SR ι (putd s d v) (a.put d v') := by
 cases d with
 | none => exact h
 | some d =>
  refine ⟨by simp [z6a, Act.put, h.size], fun t => ?_, h.defers⟩
  have h1 := h.val t
  simp only [z6a, Act.put]
  by_cases e : d = t
  ·subst e
   by_cases hl : d < s.length
   ·have hl' : d < a.tmps.size := by rw [h.size]; exact hl
    simpa [zAb, hl, hl'] using hv
   ·have hl' : ¬ d < a.tmps.size := by rw [h.size]; exact hl
    simpa [zAb, hl, hl'] using VR.undef ι
  ·simp only [zAb, List.getElem?_set, if_neg e] at h1 ⊢
   rw [Array.getD_eq_getD_getElem?, Array.getElem?_setIfInBounds, if_neg e, <- Array.getD_eq_getD_getElem?]
   exact h1
section
variable (P : Program)
def z6w (st : TypeId) (f : Nat) (v : Value) : Option Value :=
 match v, P.underlying st with
 | .pointer (some ⟨b, off, none⟩), some (.struct fs) => (fs[f]?).bind fun fld => (P.info? fld.type).bind fun i => if i.size = 0 then none else some (.pointer (some ⟨b, off + fld.offset, none⟩))
 | _, _ => none
def z30 (t : TypeId) : Option Bool :=
 match P.underlying t with
 | some (.struct _) => some true
 | some (.array _ _) => some true
 | some _ => some false
 | none => none
def zim (t : TypeId) (cs : List Value) (off : Nat) : Option Value :=
 match z30 P t, P.info? t with
 | some true, some i => if off + i.size <= cs.length then some (.agg ((cs.drop off).take i.size).toArray) else none
 | some false, _ => cs[off]?
 | _, _ => none
def zgf (t : TypeId) (f : Nat) (v : Value) : Option Value :=
 match v, P.underlying t with
 | .agg cs, some (.struct fs) => (fs[f]?).bind fun fld => zim P fld.type cs.toList fld.offset
 | _, _ => none
def z6x (t : TypeId) (v ix : Value) : Option Value :=
 match ix, v, P.underlying t with
 | .int _ i, .pointer (some ⟨b, off, none⟩), some (.array n e) => (P.info? e).bind fun inf => if 0 <= i /\ i < n then some (.pointer (some ⟨b, off + i.toNat * inf.size, none⟩)) else none
 | .int _ i, .slice (some ⟨b, off, _⟩) len _, some (.slice e) => (P.info? e).bind fun inf => if 0 <= i /\ i < len then some (.pointer (some ⟨b, off + i.toNat * inf.size, none⟩)) else none
 | _, _, _ => none
def zgg (t : TypeId) (v ix : Value) : Option Value :=
 match ix, v, P.underlying t with
 | .int _ i, .agg cs, some (.array n e) => (P.info? e).bind fun inf => if 0 <= i /\ i < n then zim P e cs.toList (i.toNat * inf.size) else none
 | _, _, _ => none
def bnd (x : Option Value) (dflt : Nat) (y : Nat) : Option Nat :=
 match x with
 | none => some dflt
 | some (.int _ i) => if 0 <= i /\ i <= y then some i.toNat else none
 | some _ => none
def zcj (t : TypeId) (v : Value) (lo hi mx : Option Value) : Option Value :=
 match v, P.underlying t with
 | .slice (some ⟨b, off, tg⟩) len cap, some (.slice e) => (P.info? e).bind fun inf =>
  match mx with
  | none => (bnd hi len cap).bind fun h => (bnd lo 0 h).bind fun l => if len <= cap /\ (tg = none \/ tg = some 0) then some (.slice (some ⟨b, off + l * inf.size, tg⟩) (h - l) (cap - l)) else none
  | some m => if hi.isNone then none else (bnd (some m) 0 cap).bind fun m => (bnd hi 0 m).bind fun h => (bnd lo 0 h).bind fun l => if len <= cap /\ (tg = none \/ tg = some 0) then some (.slice (some ⟨b, off + l * inf.size, some 0⟩) (h - l) (m - l)) else none
 | .slice none 0 0, some (.slice e) => (P.info? e).bind fun _ => if mx.isSome && hi.isNone then none else
   (bnd mx 0 0).bind fun _ => (bnd hi 0 0).bind fun _ => (bnd lo 0 0).bind fun _ => some (.slice none 0 0)
 | .pointer (some ⟨b, off, none⟩), some (.array n e) => (P.info? e).bind fun inf =>
  if mx.isSome then none else (bnd hi n n).bind fun h => (bnd lo 0 h).bind fun l => some (.slice (some ⟨b, off + l * inf.size, some 0⟩) (h - l) (n - l))
 | _, _ => none
def z93 (v : Value) (i : Nat) : Option Value := match v with | .tuple vs => vs[i]? | _ => none
def aNil (t : TypeId) (x y : Value) : Option Bool :=
 match P.underlying t, x, y with
 | some (.pointer _), .pointer none, .pointer (some _) => some false
 | some (.pointer _), .pointer (some _), .pointer none => some false
 | some (.slice _), .slice none _ _, .slice (some _) _ _ => some false
 | some (.slice _), .slice (some _) _ _, .slice none _ _ => some false
 | some (.func _ _ _), .nilFunc, .func _ _ _ => some false
 | some (.func _ _ _), .func _ _ _, .nilFunc => some false
 | some (.interface _), .nilIface, .iface _ _ => some false
 | some (.interface _), .iface _ _, .nilIface => some false
 | _, _, _ => none
def z94 (v : Value) : Option Value :=
 match v with
 | .pointer (some a) => some (.pointer (some a))
 | .func (.func f) xs ys => some (.func (.func f) xs ys)
 | _ => none
def z95 (t : TypeId) (v : Value) : Option Value :=
 match P.underlying t with
 | some (.interface _) => none
 | some _ => some (.iface t v)
 | none => none
def zck (x : Value) (asserted : TypeId) (commaOk : Bool) : Option Value :=
 match P.underlying asserted, x with
 | some (.interface _), _ => none
 | some _, .iface t v => if t = asserted then some (if commaOk then .tuple #[v, .bool true] else v)
   else if commaOk then ((P.info? asserted).bind (·.zero)).bind fun z => if z1m z then some (.tuple #[z, .bool false]) else none else none
 | _, _ => none
def aLen (t : TypeId) (v : Value) : Option Value :=
 match v, P.underlying t with
 | .slice (some _) n _, some (.slice _) => some (.int .i64 n)
 | .slice none n _, some (.slice _) => some (.int .i64 n)
 | _, _ => none
end
end
end Go.Am
/- Each operation that leaves the heap alone does on the machine what it does abstractly. -/
namespace Go.Am
open Go
def z8p (P : Program) (ι : Ren) (e : Sem Value) (v : Value) : Prop := ∀ w, ∃ v', e.run P w = .ok v' w /\ VR ι v v'
section
variable {P : Program} {ι : Ren}
theorem z4r (b o n : Nat) : (⟨b, o, none⟩ : Addr).add n = ⟨b, o + n, none⟩ := by
 unfold Addr.add
 split
 ·rename_i h; subst h; rfl
 ·rfl
theorem VR.ptr_inv {b o : Nat} {v' : Value} (h : VR ι (.pointer (some ⟨b, o, none⟩)) v') : ∃ cb co ex, ι b = some (cb, co, ex) /\ v' = .pointer (some ⟨cb, co + o, none⟩) := by
 cases h with
 | scal h => simp [z1m] at h
 | ptr h => exact ⟨_, _, _, h, rfl⟩
theorem VR.sl_inv {b o l c : Nat} {tg : Option Nat} {v' : Value} (h : VR ι (.slice (some ⟨b, o, tg⟩) l c) v') :
  ∃ cb co ex a' c', ι b = some (cb, co, ex) /\ v' = .slice (some a') l c' /\ (tg = none \/ tg = some 0) ∧
   ((tg = none /\ a' = ⟨cb, co + o, none⟩ /\ c' = c + ex) \/ (tg = some 0 /\ a' = ⟨cb, co + o, none⟩ /\ c' = c) \/ (l = 0 /\ c = 0 /\ c' = 0)) := by
 cases h with
 | scal h => simp [z1m] at h
 | sl h => exact ⟨_, _, _, _, _, h, rfl, .inl rfl, .inl ⟨rfl, rfl, rfl⟩⟩
 | slT h => exact ⟨_, _, _, _, _, h, rfl, .inr rfl, .inr (.inl ⟨rfl, rfl, rfl⟩)⟩
 | sl0 h ht => exact ⟨_, _, _, _, _, h, rfl, ht, .inr (.inr ⟨rfl, rfl, rfl⟩)⟩
theorem VR.sl_some {a : Addr} {l c : Nat} {v' : Value} (h : VR ι (.slice (some a) l c) v') : ∃ a' c', v' = .slice (some a') l c' := by
 obtain ⟨b, o, tg⟩ := a
 obtain ⟨cb, co, ex, a', c', hb, rfl, _, _⟩ := h.sl_inv
 exact ⟨_, _, rfl⟩
theorem z9x {st : TypeId} {f : Nat} {v r v' : Value} (h : z6w P st f v = some r) (hv : VR ι v v') : z8p P ι (Instr.fieldAt st v' f) r := by
 unfold z6w at h
 split at h
 ·rename_i b off fs hu
  obtain ⟨cb, co, ex, hb, rfl⟩ := hv.ptr_inv
  cases hf : fs[f]? with
  | none => simp [hf] at h
  | some fld =>
   cases hi : P.info? fld.type with
   | none => simp [hf, hi] at h
   | some i =>
    simp only [hf, hi, Option.bind_some] at h
    split at h
    ·cases h
    ·rename_i hz
     cases h
     intro w
     refine ⟨.pointer (some ⟨cb, co + (off + fld.offset), none⟩), ?_, .ptr hb⟩
     simp [Instr.fieldAt, run_underlying hu, hf, Instr.sureAddr, fieldPlace, sizeOf, typeInfo, hi, hz, z4r, Nat.add_assoc]
 ·cases h
theorem zcl {t : TypeId} {cs cs' : List Value} {off : Nat} {r : Value} (h : zim P t cs off = some r) (hv : VRs ι cs cs') : z8p P ι (part t cs'.toArray off) r := by
 unfold zim at h
 split at h
 ·rename_i i ha hi
  split at h
  ·rename_i hl
   cases h
   intro w
   refine ⟨.agg ((cs'.drop off).take i.size).toArray, ?_, .agg ((hv.drop off).take _)⟩
   unfold z30 at ha
   have hx : cs'.toArray.extract off (off + i.size) = ((cs'.drop off).take i.size).toArray := by simp [List.extract_eq_take_drop]
   split at ha
   all_goals first
    | (cases ha; done)
    | (rename_i hu; simp [part, isAgg, run_underlying hu, sizeOf, typeInfo, hi, List.extract_eq_take_drop])
  ·cases h
 ·rename_i ha
  intro w
  obtain ⟨y, hy, hvy⟩ := hv.get off r h
  refine ⟨y, ?_, hvy⟩
  unfold z30 at ha
  split at ha
  ·cases ha
  ·cases ha
  ·rename_i d h1 h2 hu
   have hu' := hu
   cases d <;> first
    | (exact absurd rfl (h1 _))
    | (exact absurd rfl (h2 _ _))
    | simp [part, isAgg, run_underlying hu', hy]
  ·cases ha
 ·cases h
theorem zen {t : TypeId} {f : Nat} {v r v' : Value} (h : zgf P t f v = some r) (hv : VR ι v v') : z8p P ι (Instr.field t v' f) r := by
 unfold zgf at h
 split at h
 ·rename_i cs fs hu
  cases hv with
  | scal hs => simp [z1m] at hs
  | agg hv =>
  cases hf : fs[f]? with
  | none => simp [hf] at h
  | some fld =>
   simp only [hf, Option.bind_some] at h
   intro w
   obtain ⟨r', h1, h2⟩ := zcl h hv w
   exact ⟨r', by simp [Instr.field, run_underlying hu, hf, asAgg, h1], h2⟩
 ·cases h
theorem z9y {t : TypeId} {v ix r v' ix' : Value} (h : z6x P t v ix = some r) (hv : VR ι v v') (hx : VR ι ix ix') : z8p P ι (Instr.indexAt t v' ix') r := by
 unfold z6x at h
 split at h
 ·rename_i k i b off n e hu
  have := hx.scalar_eq rfl; subst this
  obtain ⟨cb, co, ex, hb, rfl⟩ := hv.ptr_inv
  cases hi : P.info? e with
  | none => simp [hi] at h
  | some inf =>
   simp only [hi, Option.bind_some] at h
   split at h
   ·rename_i hr
    cases h
    intro w
    refine ⟨.pointer (some ⟨cb, co + (off + i.toNat * inf.size), none⟩), ?_, .ptr hb⟩
    simp [Instr.indexAt, asIntOf, run_underlying hu, Instr.sureAddr, hr, sizeOf, typeInfo, hi, z4r, Nat.add_assoc]
   ·cases h
 ·rename_i k i b off tg len c e hu
  have := hx.scalar_eq rfl; subst this
  obtain ⟨cb, co, ex, a', c', hb, rfl, htg, hcs⟩ := hv.sl_inv
  cases hi : P.info? e with
  | none => simp [hi] at h
  | some inf =>
   simp only [hi, Option.bind_some] at h
   split at h
   ·rename_i hr
    cases h
    intro w
    have ho : a' = ⟨cb, co + off, none⟩ := by
     rcases hcs with ⟨_, h, _⟩ | ⟨_, h, _⟩ | ⟨h, _, _⟩
     ·exact h
     ·exact h
     ·omega
    subst ho
    refine ⟨.pointer (some ⟨cb, co + (off + i.toNat * inf.size), none⟩), ?_, .ptr hb⟩
    simp [Instr.indexAt, asIntOf, run_underlying hu, hr, sizeOf, typeInfo, hi, z4r, Nat.add_assoc]
   ·cases h
 ·cases h
theorem zeo {t : TypeId} {v ix r v' ix' : Value} (h : zgg P t v ix = some r) (hv : VR ι v v') (hx : VR ι ix ix') : z8p P ι (Instr.index t v' ix') r := by
 unfold zgg at h
 split at h
 ·rename_i k i cs n e hu
  have := hx.scalar_eq rfl; subst this
  cases hv with
  | scal hs => simp [z1m] at hs
  | agg hv =>
  cases hi : P.info? e with
  | none => simp [hi] at h
  | some inf =>
   simp only [hi, Option.bind_some] at h
   split at h
   ·rename_i hr
    intro w
    obtain ⟨r', h1, h2⟩ := zcl h hv w
    exact ⟨r', by simp [Instr.index, asIntOf, run_underlying hu, hr, sizeOf, typeInfo, hi, h1], h2⟩
   ·cases h
 ·cases h
theorem z4s {x : Value} {d y n : Nat} (h : bnd (some x) d y = some n) : ∃ k i, x = .int k i /\ 0 <= i /\ i <= y /\ n = i.toNat := by
 cases x <;> simp [bnd] at h
 exact ⟨_, _, rfl, h.1.1, h.1.2, h.2.symm⟩
theorem z28 {k : IntKind} {i : Int} {y : Nat} {code : BoundsCode} (h0 : 0 <= i) (h1 : i <= y) (w : World) : (Instr.sliceBound (.int k i) y code).run P w = .ok i.toNat w := by
 simp [Instr.sliceBound, asIntOf, h0, h1]
def OVR (ι : Ren) : Option Value -> Option Value -> Prop
 | none, none => True
 | some v, some v' => VR ι v v'
 | _, _ => False
theorem OVR.none_l {x : Option Value} (h : OVR ι none x) : x = none := by cases x <;> simp_all [OVR]
theorem OVR.int_l {k : IntKind} {i : Int} {x : Option Value} (h : OVR ι (some (.int k i)) x) : x = some (.int k i) := by
 cases x with
 | none => simp [OVR] at h
 | some v => simp only [OVR] at h; rw [h.scalar_eq rfl]
theorem z8a {lo hi lo' hi' : Option Value} {b : Bool} {len cap cap' h l : Nat} (hlc : cap <= cap') (hh : bnd hi len cap = some h) (hl : bnd lo 0 h = some l) (h1 : OVR ι lo lo') (h2 : OVR ι hi hi') (w : World) :
  (Instr.sliceBounds b len cap' lo' hi' none).run P w = .ok (l, h, cap') w /\ l <= h /\ (len <= cap -> h <= cap) := by
 have key : l <= h /\ (len <= cap -> h <= cap) := by
  constructor
  ·cases lo with
   | none => simp [bnd] at hl; omega
   | some x => obtain ⟨k, i, _, a, c, e⟩ := z4s hl; omega
  ·intro hlen
   cases hi with
   | none => simp [bnd] at hh; omega
   | some x => obtain ⟨k, i, _, a, c, e⟩ := z4s hh; omega
 refine ⟨?_, key⟩
 cases hi with
 | none =>
  have := h2.none_l; subst this
  simp only [bnd] at hh; cases hh
  cases lo with
  | none =>
   have := h1.none_l; subst this
   simp only [bnd] at hl; cases hl
   simp [Instr.sliceBounds]
  | some x =>
   obtain ⟨k, i, rfl, a, c, rfl⟩ := z4s hl
   have := h1.int_l; subst this
   simp [Instr.sliceBounds, z28 a c]
 | some y =>
  obtain ⟨k, i, rfl, a, c, rfl⟩ := z4s hh
  have := h2.int_l; subst this
  have c' : i <= (cap' : Int) := by omega
  cases lo with
  | none =>
   have := h1.none_l; subst this
   simp only [bnd] at hl; cases hl
   simp [Instr.sliceBounds, z28 a c']
  | some x =>
   obtain ⟨k2, i2, rfl, a2, c2, rfl⟩ := z4s hl
   have := h1.int_l; subst this
   simp [Instr.sliceBounds, z28 a c', z28 a2 c2]
theorem z9z {lo hi lo' hi' : Option Value} {mx mx' : Value} {b : Bool} {len cap cap' m h l : Nat} (hlc : cap <= cap') (hhi : hi.isNone = false) (hm : bnd (some mx) 0 cap = some m) (hh : bnd hi 0 m = some h) (hl : bnd lo 0 h = some l) (h1 : OVR ι lo lo') (h2 : OVR ι hi hi') (h3 : VR ι mx mx') (w : World) :
  (Instr.sliceBounds b len cap' lo' hi' (some mx')).run P w = .ok (l, h, m) w /\ l <= h /\ h <= m /\ m <= cap := by
 obtain ⟨k0, i0, rfl, a0, c0, rfl⟩ := z4s hm
 have := h3.scalar_eq rfl; subst this
 cases hi with
 | none => simp at hhi
 | some y =>
  obtain ⟨k, i, rfl, a, c, rfl⟩ := z4s hh
  have := h2.int_l; subst this
  have c0' : i0 <= (cap' : Int) := by omega
  cases lo with
  | none =>
   have := h1.none_l; subst this
   simp only [bnd] at hl; cases hl
   exact ⟨by simp [Instr.sliceBounds, z28 a0 c0', z28 a c], by omega, by omega, by omega⟩
  | some x =>
   obtain ⟨k2, i2, rfl, a2, c2, rfl⟩ := z4s hl
   have := h1.int_l; subst this
   exact ⟨by simp [Instr.sliceBounds, z28 a0 c0', z28 a c, z28 a2 c2], by omega, by omega, by omega⟩
theorem zep {t : TypeId} {v v' r : Value} {lo hi mx lo' hi' mx' : Option Value} (h : zcj P t v lo hi mx = some r) (hv : VR ι v v') (h1 : OVR ι lo lo') (h2 : OVR ι hi hi') (h3 : OVR ι mx mx') :
  z8p P ι (Instr.sliceAt t v' lo' hi' mx') r := by
 unfold zcj at h
 split at h
 ·rename_i b off tg len cap e hu
  obtain ⟨cb, co, ex, a', c', hb, rfl, htg, hcs⟩ := hv.sl_inv
  cases hi0 : P.info? e with
  | none => simp [hi0] at h
  | some inf =>
   simp only [hi0, Option.bind_some] at h
   have hcc : cap <= c' := by
    rcases hcs with ⟨_, _, h⟩ | ⟨_, _, h⟩ | ⟨_, h, _⟩ <;> omega
   split at h
   ·have := h3.none_l; subst this
    cases hbh : bnd hi len cap with
    | none => simp [hbh] at h
    | some hh =>
     cases hbl : bnd lo 0 hh with
     | none => simp [hbh, hbl] at h
     | some l =>
      simp only [hbh, hbl, Option.bind_some] at h
      split at h
      ·rename_i hlen
       cases h
       intro w
       obtain ⟨e1, e2, e3⟩ := z8a (P := P) (b := true) hcc hbh hbl h1 h2 w
       have e3 := e3 hlen.1
       by_cases hm : c' = l
       ·subst hm
        refine ⟨.slice (some a') (hh - c') (c' - c'), by simp [Instr.sliceAt, Instr.slice, run_underlying hu, e1, sizeOf, typeInfo, hi0], ?_⟩
        rw [show hh - c' = 0 by omega, show cap - c' = 0 by omega, show c' - c' = 0 by omega]
        exact .sl0 hb htg
       ·have ho : a' = ⟨cb, co + off, none⟩ := by
         rcases hcs with ⟨_, h, _⟩ | ⟨_, h, _⟩ | ⟨_, h, h2⟩
         ·exact h
         ·exact h
         ·omega
        subst ho
        refine ⟨.slice (some ⟨cb, co + off + l * inf.size, none⟩) (hh - l) (c' - l), by simp [Instr.sliceAt, Instr.slice, run_underlying hu, e1, sizeOf, typeInfo, hi0, hm, z4r], ?_⟩
        rcases hcs with ⟨rfl, _, rfl⟩ | ⟨rfl, _, rfl⟩ | ⟨_, _, h⟩
        ·rw [show cap + ex - l = (cap - l) + ex by omega, Nat.add_assoc]; exact .sl hb
        ·rw [Nat.add_assoc]; exact .slT hb
        ·omega
      ·cases h
   ·rename_i m
    cases mx' with
    | none => simp [OVR] at h3
    | some m' =>
    split at h
    ·cases h
    ·rename_i hhi
     cases hbm : bnd (some m) 0 cap with
     | none => simp [hbm] at h
     | some mm =>
      cases hbh : bnd hi 0 mm with
      | none => simp [hbm, hbh] at h
      | some hh =>
       cases hbl : bnd lo 0 hh with
       | none => simp [hbm, hbh, hbl] at h
       | some l =>
        simp only [hbm, hbh, hbl, Option.bind_some] at h
        split at h
        ·rename_i hlen
         cases h
         intro w
         obtain ⟨e1, e2, e3, e4⟩ := z9z (P := P) (b := true) (len := len) hcc (Bool.not_eq_true _ ▸ hhi) hbm hbh hbl h1 h2 h3 w
         by_cases hm : mm = l
         ·refine ⟨.slice (some a') (hh - l) (mm - l), by simp [Instr.sliceAt, Instr.slice, run_underlying hu, e1, sizeOf, typeInfo, hi0, hm], ?_⟩
          rw [show hh - l = 0 by omega, show mm - l = 0 by omega]
          exact .sl0 hb (.inr rfl)
         ·have ho : a' = ⟨cb, co + off, none⟩ := by
           rcases hcs with ⟨_, h, _⟩ | ⟨_, h, _⟩ | ⟨_, h, h2⟩
           ·exact h
           ·exact h
           ·omega
          subst ho
          refine ⟨.slice (some ⟨cb, co + off + l * inf.size, none⟩) (hh - l) (mm - l), by simp [Instr.sliceAt, Instr.slice, run_underlying hu, e1, sizeOf, typeInfo, hi0, hm, z4r], ?_⟩
          rcases hcs with _ | _ | ⟨_, h, _⟩
          ·rw [Nat.add_assoc]; exact .slT hb
          ·rw [Nat.add_assoc]; exact .slT hb
          ·omega
        ·cases h
 ·rename_i e hu
  have := hv.scalar_eq rfl; subst this
  cases hi0 : P.info? e with
  | none => simp [hi0] at h
  | some inf =>
   simp only [hi0, Option.bind_some] at h
   split at h
   ·cases h
   ·rename_i hmh
    cases hbm : bnd mx 0 0 with
    | none => simp [hbm] at h
    | some mm =>
    cases hbh : bnd hi 0 0 with
    | none => simp [hbm, hbh] at h
    | some hh =>
    cases hbl : bnd lo 0 0 with
    | none => simp [hbm, hbh, hbl] at h
    | some l =>
     simp only [hbm, hbh, hbl, Option.bind_some] at h
     cases h
     have hh0 : hh = 0 := by
      cases hi with
      | none => simpa [bnd] using hbh.symm
      | some x => obtain ⟨_, _, _, _, _, _⟩ := z4s hbh; omega
     have mm0 : mm = 0 := by
      cases mx with
      | none => simpa [bnd] using hbm.symm
      | some x => obtain ⟨_, _, _, _, _, _⟩ := z4s hbm; omega
     have l0 : l = 0 := by
      cases lo with
      | none => simpa [bnd] using hbl.symm
      | some x => obtain ⟨_, _, _, _, _, _⟩ := z4s hbl; omega
     subst hh0 mm0 l0
     intro w
     refine ⟨.slice none 0 0, ?_, .scal rfl⟩
     cases mx with
     | none =>
      have := h3.none_l; subst this
      obtain ⟨e1, _⟩ := z8a (P := P) (b := true) (Nat.le_refl 0) hbh hbl h1 h2 w
      simp [Instr.sliceAt, Instr.slice, run_underlying hu, e1, sizeOf, typeInfo, hi0]
     | some m =>
      cases mx' with
      | none => simp [OVR] at h3
      | some m' =>
      obtain ⟨e1, _⟩ := z9z (P := P) (b := true) (len := 0) (Nat.le_refl 0) (by cases hi <;> simp_all) hbm hbh hbl h1 h2 h3 w
      simp [Instr.sliceAt, Instr.slice, run_underlying hu, e1, sizeOf, typeInfo, hi0]
 ·rename_i b off n e hu
  obtain ⟨cb, co, ex, hb, rfl⟩ := hv.ptr_inv
  cases hi0 : P.info? e with
  | none => simp [hi0] at h
  | some inf =>
   simp only [hi0, Option.bind_some] at h
   split at h
   ·cases h
   ·rename_i hmx
    have hmn : mx = none := by cases mx <;> simp_all
    subst hmn
    have := h3.none_l; subst this
    cases hbh : bnd hi n n with
    | none => simp [hbh] at h
    | some hh =>
     cases hbl : bnd lo 0 hh with
     | none => simp [hbh, hbl] at h
     | some l =>
      simp only [hbh, hbl, Option.bind_some] at h
      cases h
      intro w
      obtain ⟨e1, e2, e3⟩ := z8a (P := P) (b := false) (Nat.le_refl n) hbh hbl h1 h2 w
      have e3 := e3 (Nat.le_refl n)
      by_cases hm : n = l
      ·subst hm
       refine ⟨.slice (some ⟨cb, co + off, none⟩) (hh - n) (n - n), by simp [Instr.sliceAt, run_underlying hu, Instr.sureAddr, e1, sizeOf, typeInfo, hi0], ?_⟩
       rw [show hh - n = 0 by omega, show n - n = 0 by omega]
       exact .sl0 hb (.inr rfl)
      ·refine ⟨.slice (some ⟨cb, co + off + l * inf.size, none⟩) (hh - l) (n - l), by simp [Instr.sliceAt, run_underlying hu, Instr.sureAddr, e1, sizeOf, typeInfo, hi0, hm, z4r], ?_⟩
       rw [Nat.add_assoc]; exact .slT hb
 ·cases h
theorem zbw {v v' r : Value} {i : Nat} (h : z93 v i = some r) (hv : VR ι v v') : z8p P ι (Instr.extract v' i) r := by
 unfold z93 at h
 split at h
 ·rename_i vs
  cases hv with
  | scal hs => simp [z1m] at hs
  | tup hv =>
   obtain ⟨y, hy, hr⟩ := hv.get i r (by simpa using h)
   exact fun w => ⟨y, by simp [Instr.extract, hy], hr⟩
 ·cases h
theorem zht {t ty : TypeId} {ts : Array TypeId} {v v' r : Value} (ht : ts[0]? = some t) (h : aLen P t v = some r) (hv : VR ι v v') : z8p P ι (Builtin.len_ ts ty #[v']) r := by
 unfold aLen at h
 split at h
 ·rename_i a n c e hu
  cases h
  intro w
  obtain ⟨b, o, tg⟩ := a
  obtain ⟨cb, co, ex, a', c', hb, rfl, htg, hcs⟩ := hv.sl_inv
  exact ⟨_, by simp [Builtin.len_, ht, run_underlying hu, goInt], .scal rfl⟩
 ·rename_i n c e hu
  cases h
  intro w
  have := hv.scalar_eq rfl; subst this
  exact ⟨_, by simp [Builtin.len_, ht, run_underlying hu, goInt], .scal rfl⟩
 ·cases h
theorem zbx {t : TypeId} {v v' r : Value} (h : z95 P t v = some r) (hv : VR ι v v') : z8p P ι (Instr.makeInterface t v') r := by
 unfold z95 at h
 split at h
 ·cases h
 ·rename_i d hne hu
  cases h
  intro w
  refine ⟨.iface t v', ?_, .ifc hv⟩
  cases d <;> first | (exact absurd rfl (hne _)) | simp [Instr.makeInterface, run_underlying hu]
 ·cases h
theorem zcm (d : Nat) {t : TypeId} {x y x' y' : Value} {r : Bool} (h : aNil P t x y = some r) (hx : VR ι x x') (hy : VR ι y y') (w : World) : (Op.equalIn (d + 1) t x' y').run P w = .ok r w := by
 unfold aNil at h
 split at h
 all_goals first | (cases h; done) | skip
 all_goals (rename_i hu; cases h)
 ·have := hx.scalar_eq rfl; subst this
  cases hy with
  | scal hs => simp [z1m] at hs
  | ptr hb => simp [Op.equalIn, run_underlying hu]
 ·have := hy.scalar_eq rfl; subst this
  cases hx with
  | scal hs => simp [z1m] at hs
  | ptr hb => simp [Op.equalIn, run_underlying hu]
 ·have := hx.scalar_eq rfl; subst this
  obtain ⟨a', c', rfl⟩ := hy.sl_some
  simp [Op.equalIn, run_underlying hu]
 ·have := hy.scalar_eq rfl; subst this
  obtain ⟨a', c', rfl⟩ := hx.sl_some
  simp [Op.equalIn, run_underlying hu]
 ·have := hx.scalar_eq rfl; subst this
  cases hy with
  | scal hs => simp [z1m] at hs
  | fn h1 h2 => simp [Op.equalIn, run_underlying hu]
 ·have := hy.scalar_eq rfl; subst this
  cases hx with
  | scal hs => simp [z1m] at hs
  | fn h1 h2 => simp [Op.equalIn, run_underlying hu]
 ·have := hx.scalar_eq rfl; subst this
  cases hy with
  | scal hs => simp [z1m] at hs
  | ifc hb => simp [Op.equalIn, run_underlying hu]
 ·have := hy.scalar_eq rfl; subst this
  cases hx with
  | scal hs => simp [z1m] at hs
  | ifc hb => simp [Op.equalIn, run_underlying hu]
theorem zhu {t : TypeId} {x y x' y' : Value} {r : Bool} (h : aNil P t x y = some r) (hx : VR ι x x') (hy : VR ι y y') (w : World) : (Op.equal t x' y').run P w = .ok r w := zcm 9999 h hx hy w
end
end Go.Am
/- How a heap and what it stands for turn together: a new block, a store, a block that is given up, a block that goes on under a new number. -/
namespace Go.Am
open Go
def upd {α : Type} (f : Nat -> α) (b : Nat) (v : α) : Nat -> α := fun c => if c = b then v else f c
theorem z21 {α : Type} (f : Nat -> α) (b : Nat) (v : α) : upd f b v b = v := by simp [upd]
theorem z0o {α : Type} (f : Nat -> α) {b c : Nat} (v : α) (h : c ≠ b) : upd f b v c = f c := by simp [upd, h]
theorem z49 (H : AH) (x : Option ABlk) : (H.push x).get = upd H.get H.next x := by funext b; rw [AH.get_push]; rfl
theorem z2u (H : AH) {b : Nat} {y : ABlk} (x : Option ABlk) (hb : H.get b = some y) : (H.set b x).get = upd H.get b x := by funext c; rw [AH.get_set x hb]; rfl
theorem z7t {ι : Ren} {b : Nat} {y : Nat × Nat × Nat} (h : ι b = none) : ι.sub (upd ι b (some y)) := fun c z hc => by
 rw [z0o]
 ·exact hc
 ·intro e; subst e; rw [h] at hc; cases hc
section
variable {n : Nat} {ι : Ren} {G : Nat -> Option ABlk} {w : World}
theorem Sim.not_own_of_img {b : Nat} {x : ABlk} {cb co ex : Nat} (h : Sim n ι G w) (hb : G b = some x) (ho : x.own = true) (hi : ι b = some (cb, co, ex)) {b' : Nat} {x' : ABlk} {co' ex' : Nat} (hb' : G b' = some x') (hi' : ι b' = some (cb, co', ex')) : b' = b := by
 apply Classical.byContradiction
 intro e
 exact h.inj b b' x x' _ _ _ _ _ _ (Ne.symm e) hb hb' ho hi hi' rfl
theorem Sim.alloc0 {m b : Nat} (h : Sim n ι G w) (hι : ι b = none) (hb : b < m) (hnm : n <= m) {x : ABlk} {arr : Array Value} {el : TypeId} {fr : Nat × Nat} {ex : Nat} {w1 : World}
  (hw : w1.heap = w.heap.push (.cells arr el fr)) (hos : w1.os = w.os) (htape : w1.tape = w.tape) (hout : w1.output = w.output)
  (hc : ∀ (j : Nat) (v : Value), x.cells[j]? = some v -> ∃ v', arr[j]? = some v' /\ VR ι v v') (hx : x.own = true -> x.cells.length + ex * x.sz <= arr.size /\ fr = (0, 0)) :
  SimB m (upd ι b (some (w.heap.size, 0, ex))) (upd G b (some x)) w1 /\ ∀ k, k <= b -> Evo k ι G w (upd ι b (some (w.heap.size, 0, ex))) (upd G b (some x)) w1 := by
 have hsub := z7t (y := (w.heap.size, 0, ex)) hι
 have hold : ∀ cb, cb < w.heap.size -> w1.heap[cb]? = w.heap[cb]? := fun cb hlt => by rw [hw, Array.getElem?_push, if_neg (by omega)]
 have hnew : w1.heap[w.heap.size]? = some (.cells arr el fr) := by rw [hw, Array.getElem?_push, if_pos rfl]
 refine ⟨⟨?_, ?_, ?_⟩, fun k hk => ⟨hsub, ?_, ?_, ?_, ?_, ?_, hos, htape, hout⟩⟩
 ·intro c y cb co ex' hG hc'
  by_cases e : c = b
  ·subst e
   rw [z21] at hG hc'
   cases hG; cases hc'
   refine ⟨arr, el, fr, hnew, fun j v hj => ?_, fun ho => ?_⟩
   ·obtain ⟨v', a, b'⟩ := hc j v hj
    exact ⟨v', by rw [Nat.zero_add]; exact a, b'.mono hsub⟩
   ·obtain ⟨a, b'⟩ := hx ho
    exact ⟨by omega, b'⟩
  ·rw [z0o _ _ e] at hG hc'
   have hB := h.blk c y cb co ex' hG hc'
   exact hB.mono hsub (hold cb hB.lt)
 ·intro c c' y y' cb co e1 cb' co' e1' hne hG hG' ho hi hi'
  by_cases e : c = b
  ·subst e
   rw [z21] at hG hi
   cases hG; cases hi
   have e' : c' ≠ c := Ne.symm hne
   rw [z0o _ _ e'] at hG' hi'
   have := (h.blk c' y' cb' co' e1' hG' hi').lt
   omega
  ·rw [z0o _ _ e] at hG hi
   by_cases e' : c' = b
   ·subst e'
    rw [z21] at hG' hi'
    cases hG'; cases hi'
    have := (h.blk c y cb co e1 hG hi).lt
    omega
   ·rw [z0o _ _ e'] at hG' hi'
    exact h.inj c c' y y' _ _ _ _ _ _ hne hG hG' ho hi hi'
 ·intro c y hc'
  by_cases e : c = b
  ·subst e; exact hb
  ·rw [z0o _ _ e] at hc'
   exact Nat.lt_of_lt_of_le (h.dom c y hc') hnm
 ·intro c hc'
  exact z0o _ _ (by omega)
 ·rintro cb ⟨c, y, co, e1, hG, hi⟩
  by_cases e : c = b
  ·subst e; rw [z21] at hi; cases hi; exact .inr (Nat.le_refl _)
  ·rw [z0o _ _ e] at hG hi; exact .inl ⟨c, y, co, e1, hG, hi⟩
 ·rintro cb ⟨c, y, co, e1, hG, ho, hi⟩
  by_cases e : c = b
  ·subst e; rw [z21] at hi; cases hi; exact .inr (Nat.le_refl _)
  ·rw [z0o _ _ e] at hG hi; exact .inl ⟨c, y, co, e1, hG, ho, hi⟩
 ·intro cb hlt _; exact hold cb hlt
 ·rw [hw]; simp
theorem Sim.alloc {m b : Nat} (h : Sim n ι G w) (hι : ι b = none) (hb : b < m) (hnm : n <= m) {x : ABlk} {arr : Array Value} {el : TypeId} {fr : Nat × Nat} {ex : Nat} {w1 : World}
  (hw : w1.heap = w.heap.push (.cells arr el fr)) (hos : w1.os = w.os) (htape : w1.tape = w.tape) (hout : w1.output = w.output)
  (hc : ∀ (j : Nat) (v : Value), x.cells[j]? = some v -> ∃ v', arr[j]? = some v' /\ VR ι v v') (hx : x.own = true -> x.cells.length + ex * x.sz <= arr.size /\ fr = (0, 0)) :
  Sim m (upd ι b (some (w.heap.size, 0, ex))) (upd G b (some x)) w1 /\ ∀ k, k <= b -> Evo k ι G w (upd ι b (some (w.heap.size, 0, ex))) (upd G b (some x)) w1 :=
 have h1 := h.alloc0 hι hb hnm hw hos htape hout hc hx
 ⟨⟨h1.1, h.tab.evo (h1.2 0 (Nat.zero_le _))⟩, h1.2⟩
theorem Sim.write0 {b : Nat} {x x' : ABlk} {cb co ex : Nat} {w1 : World} (h : Sim n ι G w) (hb : G b = some x) (ho : x.own = true) (hi : ι b = some (cb, co, ex))
  (hB : BlkOk ι x' cb co ex w1) (hother : ∀ k, k ≠ cb -> w1.heap[k]? = w.heap[k]?) (hs : w1.heap.size = w.heap.size) (hos : w1.os = w.os) (htape : w1.tape = w.tape) (hout : w1.output = w.output) :
  SimB n ι (upd G b (some x')) w1 /\ ∀ k, Evo k ι G w ι (upd G b (some x')) w1 := by
 refine ⟨⟨?_, ?_, h.dom⟩, fun k => ⟨fun _ _ h => h, fun _ _ => rfl, ?_, ?_, ?_, by omega, hos, htape, hout⟩⟩
 ·intro c y cb' co' ex' hG hc'
  by_cases e : c = b
  ·subst e
   rw [z21] at hG
   cases hG
   rw [hi] at hc'; cases hc'
   exact hB
  ·rw [z0o _ _ e] at hG
   have hB' := h.blk c y cb' co' ex' hG hc'
   have hne : cb' ≠ cb := fun e' => by subst e'; exact e (h.not_own_of_img hb ho hi hG hc')
   exact hB'.mono (fun _ _ h => h) (hother cb' hne)
 ·intro c c' y y' cb1 co1 e1 cb2 co2 e2 hne hG hG' hoy h1 h2 heq
  by_cases e : c = b
  ·subst e
   rw [z0o _ _ (Ne.symm hne)] at hG'
   rw [hi] at h1; cases h1
   exact h.inj c c' x y' _ _ _ _ _ _ hne hb hG' ho hi h2 heq
  ·rw [z0o _ _ e] at hG
   by_cases e' : c' = b
   ·subst e'
    exact h.inj c c' y x _ _ _ _ _ _ hne hG hb hoy h1 h2 heq
   ·rw [z0o _ _ e'] at hG'
    exact h.inj c c' y y' _ _ _ _ _ _ hne hG hG' hoy h1 h2 heq
 ·rintro cb' ⟨c, y, co', e1, hG, hi'⟩
  by_cases e : c = b
  ·subst e; exact .inl ⟨c, x, co', e1, hb, hi'⟩
  ·rw [z0o _ _ e] at hG; exact .inl ⟨c, y, co', e1, hG, hi'⟩
 ·rintro cb' ⟨c, y, co', e1, hG, ho', hi'⟩
  by_cases e : c = b
  ·subst e; exact .inl ⟨c, x, co', e1, hb, ho, hi'⟩
  ·rw [z0o _ _ e] at hG; exact .inl ⟨c, y, co', e1, hG, ho', hi'⟩
 ·intro cb' hlt hn
  exact hother cb' fun e => by subst e; exact hn ⟨b, x, co, ex, hb, ho, hi⟩
theorem Sim.write {b : Nat} {x x' : ABlk} {cb co ex : Nat} {w1 : World} (h : Sim n ι G w) (hb : G b = some x) (ho : x.own = true) (hi : ι b = some (cb, co, ex))
  (hB : BlkOk ι x' cb co ex w1) (hother : ∀ k, k ≠ cb -> w1.heap[k]? = w.heap[k]?) (hs : w1.heap.size = w.heap.size) (hos : w1.os = w.os) (htape : w1.tape = w.tape) (hout : w1.output = w.output) :
  Sim n ι (upd G b (some x')) w1 /\ ∀ k, Evo k ι G w ι (upd G b (some x')) w1 :=
 have h1 := h.write0 hb ho hi hB hother hs hos htape hout
 ⟨⟨h1.1, h.tab.evo (h1.2 0)⟩, h1.2⟩
theorem Sim.kill0 {b : Nat} (h : Sim n ι G w) : SimB n ι (upd G b none) w /\ ∀ k, Evo k ι G w ι (upd G b none) w := by
 have hs : ∀ c y, upd G b none c = some y -> G c = some y := fun c y hc => by
  by_cases e : c = b
  ·subst e; rw [z21] at hc; cases hc
  ·rwa [z0o _ _ e] at hc
 exact ⟨⟨fun c y cb co ex hG hc => h.blk c y cb co ex (hs c y hG) hc, fun c c' y y' cb co e cb' co' e' hne hG hG' => h.inj c c' y y' cb co e cb' co' e' hne (hs c y hG) (hs c' y' hG'), h.dom⟩,
  fun k => ⟨fun _ _ h => h, fun _ _ => rfl, fun cb ⟨c, y, co, e, hG, hi⟩ => .inl ⟨c, y, co, e, hs c y hG, hi⟩, fun cb ⟨c, y, co, e, hG, ho, hi⟩ => .inl ⟨c, y, co, e, hs c y hG, ho, hi⟩, fun _ _ _ => rfl, Nat.le_refl _, rfl, rfl, rfl⟩⟩
theorem Sim.kill {b : Nat} (h : Sim n ι G w) : Sim n ι (upd G b none) w /\ ∀ k, Evo k ι G w ι (upd G b none) w :=
 have h1 := h.kill0 (b := b)
 ⟨⟨h1.1, h.tab.evo (h1.2 0)⟩, h1.2⟩
theorem Sim.move0 {m b b' : Nat} {x x' : ABlk} {cb co ex co' ex' : Nat} {w1 : World} (h : Sim n ι G w) (hb : G b = some x) (ho : x.own = true) (hi : ι b = some (cb, co, ex))
  (hι : ι b' = none) (hm : b' < m) (hnm : n <= m) (hbb : b' ≠ b) (ho' : x'.own = true)
  (hB : BlkOk (upd ι b' (some (cb, co', ex'))) x' cb co' ex' w1) (hother : ∀ k, k ≠ cb -> w1.heap[k]? = w.heap[k]?) (hs : w1.heap.size = w.heap.size) (hos : w1.os = w.os) (htape : w1.tape = w.tape) (hout : w1.output = w.output) :
  SimB m (upd ι b' (some (cb, co', ex'))) (upd (upd G b none) b' (some x')) w1 /\ ∀ k, k <= b' -> Evo k ι G w (upd ι b' (some (cb, co', ex'))) (upd (upd G b none) b' (some x')) w1 := by
 have hsub := z7t (y := (cb, co', ex')) hι
 have hold : ∀ c y, c ≠ b' -> upd (upd G b none) b' (some x') c = some y -> c ≠ b /\ G c = some y := fun c y hne hc => by
  rw [z0o _ _ hne] at hc
  by_cases e : c = b
  ·subst e; rw [z21] at hc; cases hc
  ·rw [z0o _ _ e] at hc; exact ⟨e, hc⟩
 have hfar : ∀ c y cb2 co2 ex2, c ≠ b' -> upd (upd G b none) b' (some x') c = some y -> upd ι b' (some (cb, co', ex')) c = some (cb2, co2, ex2) -> cb2 ≠ cb := fun c y cb2 co2 ex2 hne hG hi2 heq => by
  obtain ⟨h1, h2⟩ := hold c y hne hG
  rw [z0o _ _ hne] at hi2
  subst heq
  exact h1 (h.not_own_of_img hb ho hi h2 hi2)
 refine ⟨⟨?_, ?_, ?_⟩, fun k hk => ⟨hsub, ?_, ?_, ?_, ?_, by omega, hos, htape, hout⟩⟩
 ·intro c y cb2 co2 ex2 hG hi2
  by_cases e : c = b'
  ·subst e
   rw [z21] at hG hi2
   cases hG; cases hi2
   exact hB
  ·have hne := hfar c y cb2 co2 ex2 e hG hi2
   obtain ⟨h1, h2⟩ := hold c y e hG
   rw [z0o _ _ e] at hi2
   exact (h.blk c y cb2 co2 ex2 h2 hi2).mono hsub (hother cb2 hne)
 ·intro c c' y y' cb1 co1 e1 cb2 co2 e2 hne hG hG' hoy h1 h2 heq
  by_cases e : c = b'
  ·subst e
   rw [z21] at h1; cases h1
   exact hfar c' y' cb2 co2 e2 (Ne.symm hne) hG' h2 heq.symm
  ·by_cases e' : c' = b'
   ·subst e'
    rw [z21] at h2; cases h2
    exact hfar c y cb1 co1 e1 e hG h1 heq
   ·obtain ⟨_, g1⟩ := hold c y e hG
    obtain ⟨_, g2⟩ := hold c' y' e' hG'
    rw [z0o _ _ e] at h1
    rw [z0o _ _ e'] at h2
    exact h.inj c c' y y' _ _ _ _ _ _ hne g1 g2 hoy h1 h2 heq
 ·intro c y hc'
  by_cases e : c = b'
  ·subst e; exact hm
  ·rw [z0o _ _ e] at hc'
   exact Nat.lt_of_lt_of_le (h.dom c y hc') hnm
 ·intro c hc'
  exact z0o _ _ (by omega)
 ·rintro cb' ⟨c, y, co2, e1, hG, hi'⟩
  by_cases e : c = b'
  ·subst e; rw [z21] at hi'; cases hi'; exact .inl ⟨b, x, co, ex, hb, hi⟩
  ·obtain ⟨_, g1⟩ := hold c y e hG
   rw [z0o _ _ e] at hi'
   exact .inl ⟨c, y, co2, e1, g1, hi'⟩
 ·rintro cb' ⟨c, y, co2, e1, hG, ho2, hi'⟩
  by_cases e : c = b'
  ·subst e; rw [z21] at hi'; cases hi'; exact .inl ⟨b, x, co, ex, hb, ho, hi⟩
  ·obtain ⟨_, g1⟩ := hold c y e hG
   rw [z0o _ _ e] at hi'
   exact .inl ⟨c, y, co2, e1, g1, ho2, hi'⟩
 ·intro cb' hlt hn
  exact hother cb' fun e => by subst e; exact hn ⟨b, x, co, ex, hb, ho, hi⟩
theorem Sim.move {m b b' : Nat} {x x' : ABlk} {cb co ex co' ex' : Nat} {w1 : World} (h : Sim n ι G w) (hb : G b = some x) (ho : x.own = true) (hi : ι b = some (cb, co, ex))
  (hι : ι b' = none) (hm : b' < m) (hnm : n <= m) (hbb : b' ≠ b) (ho' : x'.own = true)
  (hB : BlkOk (upd ι b' (some (cb, co', ex'))) x' cb co' ex' w1) (hother : ∀ k, k ≠ cb -> w1.heap[k]? = w.heap[k]?) (hs : w1.heap.size = w.heap.size) (hos : w1.os = w.os) (htape : w1.tape = w.tape) (hout : w1.output = w.output) :
  Sim m (upd ι b' (some (cb, co', ex'))) (upd (upd G b none) b' (some x')) w1 /\ ∀ k, k <= b' -> Evo k ι G w (upd ι b' (some (cb, co', ex'))) (upd (upd G b none) b' (some x')) w1 :=
 have h1 := h.move0 hb ho hi hι hm hnm hbb ho' hB hother hs hos htape hout
 ⟨⟨h1.1, h.tab.evo (h1.2 0 (Nat.zero_le _))⟩, h1.2⟩
end
def z2v (cells : List Value) (off : Nat) (vs : List Value) : List Value := cells.take off ++ vs ++ cells.drop (off + vs.length)
theorem z4x {cells : List Value} {off : Nat} {vs : List Value} (h : off + vs.length <= cells.length) : (z2v cells off vs).length = cells.length := by
 simp [z2v]; omega
theorem z5b (cells : List Value) (off : Nat) (vs : List Value) (h : off + vs.length <= cells.length) (j : Nat) :
  (z2v cells off vs)[j]? = if off <= j /\ j < off + vs.length then vs[j - off]? else cells[j]? := by
 unfold z2v
 rw [List.append_assoc, List.getElem?_append, List.length_take, Nat.min_eq_left (by omega)]
 by_cases h1 : j < off
 ·rw [if_pos h1, if_neg (by omega), List.getElem?_take, if_pos h1]
 ·rw [if_neg h1, List.getElem?_append]
  by_cases h2 : j - off < vs.length
  ·rw [if_pos h2, if_pos (by omega)]
  ·rw [if_neg h2, if_neg (by omega), List.getElem?_drop]
   congr 1; omega
def okCells (vs : List Value) : Bool := vs.all (·.oneCell')
theorem VR.oneCell {ι : Ren} {v v' : Value} (h : VR ι v v') : v'.oneCell' = v.oneCell' := by cases h <;> rfl
theorem VRs.okCells {ι : Ren} : ∀ {xs ys : List Value}, VRs ι xs ys -> Am.okCells xs = true -> ∀ v ∈ ys, v.oneCell' = true
 | _, _, .nil, _, v, h => by simp at h
 | _, _, .cons h1 h2, h, v, hv => by
  simp [Am.okCells] at h
  rcases List.mem_cons.1 hv with rfl | hv
  ·rw [h1.oneCell]; exact h.1
  ·exact h2.okCells (by simpa [Am.okCells] using h.2) v hv
theorem zcn {P : Program} {ι : Ren} {x : ABlk} {cb co ex : Nat} {w : World} (h : BlkOk ι x cb co ex w) (off k : Nat) (hk : off + k <= x.cells.length) :
  ∃ cs, (loadCells ⟨cb, co + off, none⟩ k).run P w = .ok cs.toArray w /\ VRs ι ((x.cells.drop off).take k) cs := by
 obtain ⟨arr, el, fr, h1, h2, _⟩ := h.lies
 have hex : ∃ cs : List Value, cs.length = k /\ ∀ j, j < k -> ∃ v', cs[j]? = some v' /\ arr[co + (off + j)]? = some v' /\ ∃ v, x.cells[off + j]? = some v /\ VR ι v v' := by
  induction k with
  | zero => exact ⟨[], rfl, fun j hj => by omega⟩
  | succ k ih =>
   obtain ⟨cs, hl, hcs⟩ := ih (by omega)
   obtain ⟨v, hv⟩ : ∃ v, x.cells[off + k]? = some v := ⟨_, zAh (by omega)⟩
   obtain ⟨v', ha, hvr⟩ := h2 _ v hv
   refine ⟨cs ++ [v'], by simp [hl], fun j hj => ?_⟩
   by_cases e : j = k
   ·subst e
    exact ⟨v', by rw [List.getElem?_append, if_neg (by omega)]; simp [hl], ha, v, hv, hvr⟩
   ·obtain ⟨u, a, b, c⟩ := hcs j (by omega)
    exact ⟨u, by rw [List.getElem?_append, if_pos (by omega)]; exact a, b, c⟩
 obtain ⟨cs, hl, hcs⟩ := hex
 refine ⟨cs, ?_, ?_⟩
 ·have := run_loadCells_list (P := P) w ⟨cb, co + off, none⟩ cs (fun j v hj => ?_)
  ·rw [hl] at this; exact this
  ·have hjk : j < k := by
    rcases Nat.lt_or_ge j k with h | h
    ·exact h
    ·rw [List.getElem?_eq_none (by omega)] at hj; cases hj
   obtain ⟨u, a, b, _⟩ := hcs j hjk
   rw [a] at hj; cases hj
   simp [z4r, World.cell?, h1, Nat.add_assoc, b]
 ·refine VRs.of_get (by simp [hl]; omega) fun j v v' hv hv' => ?_
  rw [List.getElem?_take] at hv
  split at hv
  ·rename_i hjk
   obtain ⟨u, a, b, v0, c, d⟩ := hcs j hjk
   rw [List.getElem?_drop, c] at hv; cases hv
   rw [a] at hv'; cases hv'
   exact d
  ·cases hv
theorem zco {P : Program} {n : Nat} {ι : Ren} {G : Nat -> Option ABlk} {w : World} (h : Sim n ι G w) {b : Nat} {x : ABlk} {cb co ex : Nat} (hb : G b = some x) (ho : x.own = true) (hi : ι b = some (cb, co, ex))
  (off : Nat) {vs vs' : List Value} (hv : VRs ι vs vs') (hok : okCells vs = true) (hl : off + vs.length <= x.cells.length) :
  ∃ w1, (storeCells ⟨cb, co + off, none⟩ vs').run P w = .ok () w1 /\ Sim n ι (upd G b (some { x with cells := z2v x.cells off vs })) w1 /\ ∀ k, Evo k ι G w ι (upd G b (some { x with cells := z2v x.cells off vs })) w1 := by
 obtain ⟨arr, el, fr, h1, h2, h3⟩ := (h.blk b x cb co ex hb hi).lies
 obtain ⟨h3, h4⟩ := h3 ho
 subst h4
 have hlen := hv.length
 have hst := run_storeCells_at P cb (co + off) el vs' 0 arr w h1 (by omega) (hv.okCells hok)
 simp only [Nat.add_zero] at hst
 refine ⟨_, hst, ?_⟩
 have hw := setRow_heap w cb arr (arr.toList.take (co + off) ++ vs' ++ arr.toList.drop (co + off + vs'.length)).toArray el (0, 0) h1
 have hget : ∀ j, (arr.toList.take (co + off) ++ vs' ++ arr.toList.drop (co + off + vs'.length)).toArray[j]? = if co + off <= j /\ j < co + off + vs'.length then vs'[j - (co + off)]? else arr[j]? := fun j => by
  have := z5b arr.toList (co + off) vs' (by simp; omega) j
  simpa [z2v] using this
 refine h.write (x' := { x with cells := z2v x.cells off vs }) hb ho hi ⟨_, el, (0, 0), hw, fun j v hj => ?_, fun _ => ⟨?_, rfl⟩⟩ (fun k hk => setRow_other w cb k _ hk) (by simp) (by simp) (by simp) (by simp)
 ·simp only at hj
  rw [z5b _ _ _ hl] at hj
  split at hj
  ·rename_i hr
   obtain ⟨v', a, c⟩ := hv.get _ v hj
   refine ⟨v', ?_, c⟩
   rw [hget, if_pos (by omega), show co + j - (co + off) = j - off by omega]
   exact a
  ·rename_i hr
   obtain ⟨v', a, c⟩ := h2 j v hj
   refine ⟨v', ?_, c⟩
   rw [hget, if_neg (by omega)]
   exact a
 ·simp only [z4x hl]
  have : (arr.toList.take (co + off) ++ vs' ++ arr.toList.drop (co + off + vs'.length)).length = arr.size := by simp; omega
  simp only [List.size_toArray, this]
  omega
end Go.Am
/- The operations that leave the heap alone and do not read it: one function, and that it is right. -/
namespace Go.Am
open Go
noncomputable section
def zcp : Op -> Bool | .select _ _ => true | _ => false
def agen (P : Program) (s : List Value) (o : Oper) : Option Value :=
 if zcp o.op then none else
 if o.op.operands.all (fun x => match opnd s x with | some v => closed v | none => false) then
  match (execOp (fun x => (opnd s x).getD undef) o).pureRun P with
  | some (.value v) => if closed v then some v else none
  | _ => none
 else none
def z38 : IntKind -> Int -> Bool
 | .i8, n => decide (-128 <= n) && decide (n <= 127)
 | .i16, n => decide (-32768 <= n) && decide (n <= 32767)
 | .i32, n => decide (-2147483648 <= n) && decide (n <= 2147483647)
 | .i64, n => decide (-9223372036854775808 <= n) && decide (n <= 9223372036854775807)
 | .u8, n => decide (0 <= n) && decide (n <= 255)
 | .u16, n => decide (0 <= n) && decide (n <= 65535)
 | .u32, n => decide (0 <= n) && decide (n <= 4294967295)
 | .u64, n => decide (0 <= n) && decide (n <= 18446744073709551615)
def z0p (k : IntKind) (n : Int) : Int := bif z38 k n then n else k.wrap n
theorem zaj (k : IntKind) (n : Int) : z0p k n = k.wrap n := by
 unfold z0p
 cases h : z38 k n with
 | false => rfl
 | true =>
  cases k <;> simp [z38] at h <;> simp [IntKind.wrap, IntKind.bits, IntKind.signed] <;> omega
def aint (op : BinOp) (k : IntKind) (a b : Int) : Option Value :=
 match op with
 | .add => some (.int k (z0p k (a + b)))
 | .sub => some (.int k (z0p k (a - b)))
 | .mul => some (.int k (z0p k (a * b)))
 | .quo => if b = 0 then none else some (.int k (z0p k (a.tdiv b)))
 | .rem => if b = 0 then none else some (.int k (a.tmod b))
 | .eql => some (.bool (a == b))
 | .neq => some (.bool (a != b))
 | .lss => some (.bool (decide (a < b)))
 | .leq => some (.bool (decide (a <= b)))
 | .gtr => some (.bool (decide (a > b)))
 | .geq => some (.bool (decide (a >= b)))
 | .shl => if b < 0 then none else some (.int k (z0p k (a * 2 ^ min b.toNat k.bits)))
 | .shr => if b < 0 then none else some (.int k (a.fdiv (2 ^ min b.toNat k.bits)))
 | .and => some (.int k (z0p k ((BitVec.ofInt k.bits a &&& BitVec.ofInt k.bits b).toNat)))
 | _ => none
def abin (op : BinOp) (v u : Value) : Option Value :=
 match v, u with
 | .int k a, .int k' b => if k = k' then aint op k a b else none
 | _, _ => none
def zg6 (s : List Value) : Option Operand -> Option (Option Value)
 | none => some none
 | some x => (opnd s x).map some
def zb7 (s : List Value) : List Operand -> Option (List Value)
 | [] => some []
 | x :: xs => (opnd s x).bind fun v => (zb7 s xs).map (v :: ·)
def zch (s : List Value) : List (Nat × Operand) -> Option (List (Nat × Value))
 | [] => some []
 | (i, x) :: xs => (opnd s x).bind fun v => (zch s xs).map ((i, v) :: ·)
def zcq (P : Program) (t : TypeId) : Bool := match P.info? t with | some i => (match i.zero with | some z => closed z | none => false) | none => false
def z2y (P : Program) (s : List Value) (o : Oper) : Option Value :=
 match o.op with
 | .move x => opnd s x
 | .assign x => opnd s x
 | .pick c x y => match opnd s c with | some (.bool true) => opnd s x | some (.bool false) => opnd s y | _ => none
 | .fieldAddr t x f => (opnd s x).bind (z6w P t f)
 | .field t x f => (opnd s x).bind (zgf P t f)
 | .indexAddr t x i => (opnd s x).bind fun v => (opnd s i).bind fun k => z6x P t v k
 | .index t x i => (opnd s x).bind fun v => match v with | .agg cs => (opnd s i).bind fun k => zgg P t (.agg cs) k | _ => agen P s o
 | .slice t x lo hi mx => (opnd s x).bind fun v => match v with
  | .string _ => agen P s o
  | v => (zg6 s lo).bind fun l => (zg6 s hi).bind fun h => (zg6 s mx).bind fun m => zcj P t v l h m
 | .extract x i => (opnd s x).bind fun v => z93 v i
 | .build t ps => if zcq P t then (zch s ps.toList).bind fun l => (P.built t l).map .agg else none
 | .makeFunc f xs ys => (zb7 s xs.toList).bind fun l => (zb7 s ys.toList).map fun m => .func f ⟨l⟩ ⟨m⟩
 | .nilCheck x => (opnd s x).bind z94
 | .makeInterface t x => (opnd s x).bind (z95 P t)
 | .typeAssert x _ t ok => (opnd s x).bind fun v => zck P v t ok
 | .binOp op t x y _ => (opnd s x).bind fun v => (opnd s y).bind fun u =>
  match abin op v u with
  | some r => some r
  | none => if closed v && closed u then agen P s o else match op with
  | .eql => (aNil P t v u).map .bool
  | .neq => (aNil P t v u).map fun b => .bool (!b)
  | _ => none
 | .call c => match c.callee with
  | .builtin .len => match c.args.toList with
   | [x] => (opnd s x).bind fun v => match v with
    | .slice (some _) _ _ => (c.argTypes[0]?).bind fun t => aLen P t v
    | _ => agen P s o
   | _ => none
  | .builtin .append => none
  | .builtin .copy => none
  | .builtin .clear => none
  | .builtin _ => agen P s o
  | _ => none
 | .unOp _ _ _ => agen P s o
 | .convert _ _ _ => agen P s o
 | _ => none
section
variable {P : Program} {ι : Ren} {s : List Value} {a : Act} {o : Oper}
theorem z8b {v : Value} (h : agen P s o = some v) (hor : OR ι s a o) (w : World) : ∃ v', (execOp a.eval o).run P w = .ok (.value v') w /\ VR ι v v' := by
 unfold agen at h
 split at h
 ·cases h
 ·rename_i hsel
  split at h
  ·rename_i hall
   split at h
   ·rename_i u hp
    split at h
    ·rename_i hc
     cases h
     refine ⟨_, ?_, VR.of_closed hc⟩
     have hcon : execOp a.eval o = execOp (fun x => (opnd s x).getD undef) o := by
      refine execOp_congr o (fun cs b e => by rw [e] at hsel; simp [zcp] at hsel) fun x hx => ?_
      have hm := Array.all_eq_true_iff_forall_mem.1 hall x hx
      cases hq : opnd s x with
      | none => rw [hq] at hm; simp at hm
      | some q =>
       rw [hq] at hm
       rw [(hor x hx q hq).closed_eq hm]
       rfl
     rw [hcon]
     exact zbv hp w
    ·cases h
   ·cases h
  ·cases h
theorem zak {x : Option Operand} {v : Option Value} (h : zg6 s x = some v) (hor : ∀ y, x = some y -> ∀ u, opnd s y = some u -> VR ι u (a.eval y)) : OVR ι v (x.map a.eval) := by
 cases x with
 | none => simp only [zg6] at h; cases h; simp [OVR]
 | some y =>
  simp only [zg6] at h
  cases hq : opnd s y with
  | none => simp [hq] at h
  | some u => simp only [hq, Option.map_some] at h; cases h; exact hor y rfl u hq
theorem z96 : ∀ {xs : List Operand} {l : List Value}, zb7 s xs = some l -> (∀ x ∈ xs, ∀ v, opnd s x = some v -> VR ι v (a.eval x)) -> VRs ι l (xs.map a.eval)
 | [], l, h, _ => by simp only [zb7] at h; cases h; exact .nil
 | x :: xs, l, h, hor => by
  simp only [zb7] at h
  cases hx : opnd s x with
  | none => simp [hx] at h
  | some v =>
   cases hr : zb7 s xs with
   | none => simp [hx, hr] at h
   | some r =>
    simp [hx, hr] at h
    subst h
    exact .cons (hor x (by simp) v hx) (z96 hr fun y hy => hor y (by simp [hy]))
inductive PVR (ι : Ren) : List (Nat × Value) -> List (Nat × Value) -> Prop
 | nil : PVR ι [] []
 | cons {i : Nat} {v v' : Value} {l l' : List (Nat × Value)} : VR ι v v' -> PVR ι l l' -> PVR ι ((i, v) :: l) ((i, v') :: l')
theorem zal : ∀ {xs : List (Nat × Operand)} {l : List (Nat × Value)}, zch s xs = some l -> (∀ x ∈ xs, ∀ v, opnd s x.2 = some v -> VR ι v (a.eval x.2)) -> PVR ι l (xs.map fun p => (p.1, a.eval p.2))
 | [], l, h, _ => by simp only [zch] at h; cases h; exact .nil
 | (i, x) :: xs, l, h, hor => by
  simp only [zch] at h
  cases hx : opnd s x with
  | none => simp [hx] at h
  | some v =>
   cases hr : zch s xs with
   | none => simp [hx, hr] at h
   | some r =>
    simp [hx, hr] at h
    subst h
    exact .cons (hor (i, x) (by simp) v hx) (zal hr fun y hy => hor y (by simp [hy]))
theorem z8c : ∀ (l l' : List Value) (k off : Nat) (c c' : Array Value), VRs ι l l' -> VRs ι c.toList c'.toList ->
  VRs ι ((l.zipIdx k).foldl (fun cs x => cs.setIfInBounds (off + x.2) x.1) c).toList ((l'.zipIdx k).foldl (fun cs x => cs.setIfInBounds (off + x.2) x.1) c').toList
 | _, _, k, off, c, c', .nil, hc => hc
 | _, _, k, off, c, c', .cons (x := x) (y := y) (xs := xs) (ys := ys) h1 h2, hc => by
  simp only [List.zipIdx_cons, List.foldl_cons]
  refine z8c xs ys (k + 1) off _ _ h2 ?_
  simpa using hc.set (off + k) h1
theorem zb8 (place : Nat -> Option (Nat × Nat)) : ∀ (l l' : List (Nat × Value)) (c c' r : Array Value), PVR ι l l' -> VRs ι c.toList c'.toList -> Instr.fill place c l = some r ->
  ∃ r', Instr.fill place c' l' = some r' /\ VRs ι r.toList r'.toList
 | _, _, c, c', r, .nil, hc, h => by simp only [Instr.fill] at h; cases h; exact ⟨c', rfl, hc⟩
 | _, _, c, c', r, .cons (i := i) (v := v) (v' := v') (l := l) (l' := l') hv hl, hc, h => by
  simp only [Instr.fill] at h ⊢
  cases hp : place i with
  | none => simp [hp] at h
  | some q =>
   obtain ⟨off, size⟩ := q
   simp only [hp] at h ⊢
   have e1 : v'.cells.size = v.cells.size := by simpa using hv.cells.length.symm
   have e2 : c'.size = c.size := by simpa using hc.length.symm
   rw [e1, e2]
   split at h
   ·cases h
   ·rename_i hcond
    rw [if_neg hcond]
    refine zb8 place l l' _ _ r hl ?_ h
    have := z8c (ι := ι) v.cells.toList v'.cells.toList 0 off c c' hv.cells hc
    have e : ∀ (q : Array Value) (arr : Array Value), arr.zipIdx.foldl (fun cs (x : Value × Nat) => cs.setIfInBounds (off + x.2) x.1) q = (arr.toList.zipIdx).foldl (fun cs x => cs.setIfInBounds (off + x.2) x.1) q := fun q arr => by
     rw [<- Array.foldl_toList, Array.toList_zipIdx]
    have e1 := e c v.cells
    have e2 := e c' v'.cells
    rw [e1, e2]
    exact this
   
theorem zgh {t : TypeId} {l l' : List (Nat × Value)} {r : Array Value} (hz : zcq P t = true) (hl : PVR ι l l') (h : P.built t l = some r) : ∃ r', P.built t l' = some r' /\ VRs ι r.toList r'.toList := by
 unfold zcq at hz
 split at hz
 ·rename_i it hit
  split at hz
  ·rename_i z hzz
   have hcz : VRs ι z.cells.toList z.cells.toList := (VR.of_closed hz).cells
   unfold Program.built at h ⊢
   simp only [hit, hzz] at h ⊢
   cases hu : P.underlying t with
   | none => simp [hu] at h
   | some d =>
    simp only [hu] at h ⊢
    cases d <;> try (simp at h; done)
    case array n e =>
     simp only at h ⊢
     cases hie : P.info? e with
     | none => simp [hie] at h
     | some ie => simp only [hie, hzz] at h ⊢; exact zb8 _ l l' _ _ r hl hcz h
    case struct fields =>
     simp only at h ⊢
     cases hp : fields.toList.mapM (fun f => (P.info? f.type).map fun i => (f.offset, i.size)) with
     | none => simp [hp] at h
     | some places => simp only [hp, hzz] at h ⊢; exact zb8 _ l l' _ _ r hl hcz h
  ·cases hz
 ·cases hz
theorem zb9 {op : BinOp} {t : TypeId} {x y x' y' : Value} {r : Bool} (hop : op = .eql \/ op = .neq) (h : aNil P t x y = some r) (hx : VR ι x x') (hy : VR ι y y') (ox oy : Operand) (w : World) :
  (do eqGuard op t ox oy x' y'; binOp op t x' y').run P w = .ok (.bool (if op = .eql then r else !r)) w := by
 have he := zhu h hx hy w
 have hg : (eqGuard op t ox oy x' y').run P w = .ok () w /\ (binOp op t x' y').run P w = .ok (.bool (if op = .eql then r else !r)) w := by
  unfold aNil at h
  split at h
  all_goals first | (cases h; done) | skip
  all_goals cases h
  ·have := hx.scalar_eq rfl; subst this
   cases hy with
   | scal hs => simp [z1m] at hs
   | ptr hb => rcases hop with rfl | rfl <;> simp [eqGuard, binOp, he]
  ·have := hy.scalar_eq rfl; subst this
   cases hx with
   | scal hs => simp [z1m] at hs
   | ptr hb => rcases hop with rfl | rfl <;> simp [eqGuard, binOp, he]
  ·have := hx.scalar_eq rfl; subst this
   obtain ⟨a', c', rfl⟩ := hy.sl_some
   rcases hop with rfl | rfl <;> simp [eqGuard, binOp, he]
  ·have := hy.scalar_eq rfl; subst this
   obtain ⟨a', c', rfl⟩ := hx.sl_some
   rcases hop with rfl | rfl <;> simp [eqGuard, binOp, he]
  ·have := hx.scalar_eq rfl; subst this
   cases hy with
   | scal hs => simp [z1m] at hs
   | fn h1 h2 => rcases hop with rfl | rfl <;> simp [eqGuard, binOp, he]
  ·have := hy.scalar_eq rfl; subst this
   cases hx with
   | scal hs => simp [z1m] at hs
   | fn h1 h2 => rcases hop with rfl | rfl <;> simp [eqGuard, binOp, he]
  ·have := hx.scalar_eq rfl; subst this
   cases hy with
   | scal hs => simp [z1m] at hs
   | ifc hb => rcases hop with rfl | rfl <;> simp [eqGuard, binOp, he]
  ·have := hy.scalar_eq rfl; subst this
   cases hx with
   | scal hs => simp [z1m] at hs
   | ifc hb => rcases hop with rfl | rfl <;> simp [eqGuard, binOp, he]
 simp [hg.1, hg.2]
theorem zcr {x r x' : Value} {xt t : TypeId} {ok : Bool} (h : zck P x t ok = some r) (hx : VR ι x x') : z8p P ι (Instr.typeAssert x' xt t ok) r := by
 unfold zck at h
 split at h
 ·cases h
 ·rename_i d y t' v hne hu
  cases hx with
  | scal hs => simp [z1m] at hs
  | ifc hv =>
   rename_i v'
   split at h
   ·rename_i e
    subst e
    cases h
    intro w
    refine ⟨if ok then .tuple #[v', .bool true] else v', ?_, ?_⟩
    ·cases d <;> first | (exact absurd rfl (hne _)) | simp [Instr.typeAssert, run_underlying hu]
    ·cases ok
     ·exact hv
     ·exact .tup (xs := [v, .bool true]) (ys := [v', .bool true]) (.cons hv (.cons (.scal rfl) .nil))
   ·rename_i e
    split at h
    ·rename_i hok
     subst hok
     cases hi : P.info? t with
     | none => simp [hi] at h
     | some i =>
      cases hz : i.zero with
      | none => simp [hi, hz] at h
      | some z =>
       simp only [hi, hz, Option.bind_some] at h
       split at h
       ·rename_i hsc
        cases h
        intro w
        refine ⟨.tuple #[z, .bool false], ?_, .tup (xs := [z, .bool false]) (ys := [z, .bool false]) (.cons (.scal hsc) (.cons (.scal rfl) .nil))⟩
        cases d <;> first | (exact absurd rfl (hne _)) | simp [Instr.typeAssert, run_underlying hu, e, zeroValue, typeInfo, hi, hz]
       ·cases h
    ·cases h
 ·cases h
theorem zhv {op : BinOp} {k : IntKind} {a b : Int} {r : Value} (h : aint op k a b = some r) (t : TypeId) (ox oy : Operand) (w : World) :
  (do eqGuard op t ox oy (.int k a) (.int k b); binOp op t (.int k a) (.int k b)).run P w = .ok r w /\ z1m r = true := by
 unfold aint at h
 cases op <;> simp only at h <;> first
  | (cases h; done)
  | (cases h; exact ⟨by simp [eqGuard, binOp, Op.intArith, Op.intCmp, Op.intBits, zaj], rfl⟩)
  | (split at h; (next => cases h); (next hb => (cases h; exact ⟨by simp [eqGuard, binOp, Op.intDiv, Op.shift, hb, zaj], rfl⟩)))
theorem zcs {v : Value} (h : z2y P s o = some v) (hor : OR ι s a o) (w : World) : ∃ v', (execOp a.eval o).run P w = .ok (.value v') w /\ VR ι v v' := by
 have hop : ∀ x ∈ o.op.operands, ∀ v, opnd s x = some v -> VR ι v (a.eval x) := hor
 unfold z2y at h
 split at h
 ·rename_i x ho
  exact ⟨a.eval x, by simp [execOp, ho], hop x (by simp [ho, Op.operands]) v h⟩
 ·rename_i x ho
  exact ⟨a.eval x, by simp [execOp, ho], hop x (by simp [ho, Op.operands]) v h⟩
 ·rename_i c x y ho
  split at h
  ·rename_i hc
   have := (hop c (by simp [ho, Op.operands]) _ hc).scalar_eq rfl
   exact ⟨a.eval x, by simp [execOp, ho, this, asBool], hop x (by simp [ho, Op.operands]) v h⟩
  ·rename_i hc
   have := (hop c (by simp [ho, Op.operands]) _ hc).scalar_eq rfl
   exact ⟨a.eval y, by simp [execOp, ho, this, asBool], hop y (by simp [ho, Op.operands]) v h⟩
  ·cases h
 ·rename_i t x f ho
  obtain ⟨u, hu, h⟩ := zAc h
  obtain ⟨v', e1, e2⟩ := z9x h (hop x (by simp [ho, Op.operands]) u hu) w
  exact ⟨v', by simp [execOp, ho, e1], e2⟩
 ·rename_i t x f ho
  obtain ⟨u, hu, h⟩ := zAc h
  obtain ⟨v', e1, e2⟩ := zen h (hop x (by simp [ho, Op.operands]) u hu) w
  exact ⟨v', by simp [execOp, ho, e1], e2⟩
 ·rename_i t x i ho
  obtain ⟨u, hu, h⟩ := zAc h
  obtain ⟨k, hk, h⟩ := zAc h
  obtain ⟨v', e1, e2⟩ := z9y h (hop x (by simp [ho, Op.operands]) u hu) (hop i (by simp [ho, Op.operands]) k hk) w
  exact ⟨v', by simp [execOp, ho, e1], e2⟩
 ·rename_i t x i ho
  obtain ⟨u, hu, h⟩ := zAc h
  split at h
  ·rename_i cs
   obtain ⟨k, hk, h⟩ := zAc h
   obtain ⟨v', e1, e2⟩ := zeo h (hop x (by simp [ho, Op.operands]) _ hu) (hop i (by simp [ho, Op.operands]) k hk) w
   exact ⟨v', by simp [execOp, ho, e1], e2⟩
  ·exact z8b h hor w
 ·rename_i t x lo hi mx ho
  obtain ⟨u, hu, h⟩ := zAc h
  split at h
  ·exact z8b h hor w
  ·obtain ⟨l, hl, h⟩ := zAc h
   obtain ⟨hh, hhh, h⟩ := zAc h
   obtain ⟨m, hm, h⟩ := zAc h
   obtain ⟨v', e1, e2⟩ := zep h (hop x (by simp [ho, Op.operands]) u hu) (zak hl fun y hy => hop y (by subst hy; simp [ho, Op.operands])) (zak hhh fun y hy => hop y (by subst hy; simp [ho, Op.operands]))
    (zak hm fun y hy => hop y (by subst hy; simp [ho, Op.operands])) w
   exact ⟨v', by simp [execOp, ho, e1], e2⟩
 ·rename_i x i ho
  obtain ⟨u, hu, h⟩ := zAc h
  obtain ⟨v', e1, e2⟩ := zbw (P := P) h (hop x (by simp [ho, Op.operands]) u hu) w
  exact ⟨v', by simp [execOp, ho, e1], e2⟩
 ·rename_i t ps ho
  split at h
  ·rename_i hz
   obtain ⟨l, hl, h⟩ := zAc h
   cases hb : P.built t l with
   | none => simp [hb] at h
   | some r =>
    simp [hb] at h
    subst h
    have hP := zal (a := a) hl (ι := ι) (fun x hx u hu => hop x.2 (by simp only [ho, Op.operands]; exact List.mem_toArray.2 (List.mem_map.2 ⟨x, hx, rfl⟩)) u hu)
    obtain ⟨r', e1, e2⟩ := zgh hz hP hb
    refine ⟨.agg r', ?_, .agg e2⟩
    have := run_build w t (ps.map fun p => (p.1, a.eval p.2)) r' (by simpa using e1)
    simp only [execOp, ho, Sem.run_bind, this, Result.andThen_ok, Sem.run_pure]
  ·cases h
 ·rename_i f xs ys ho
  obtain ⟨l, hl, h⟩ := zAc h
  cases hm : zb7 s ys.toList with
  | none => simp [hm] at h
  | some m =>
   simp [hm] at h
   subst h
   have h1 := z96 (a := a) (ι := ι) hl fun x hx => hop x (by simp [ho, Op.operands]; exact .inl (by simpa using hx))
   have h2 := z96 (a := a) (ι := ι) hm fun x hx => hop x (by simp [ho, Op.operands]; exact .inr (by simpa using hx))
   refine ⟨.func f (xs.map a.eval) (ys.map a.eval), by simp [execOp, ho, Instr.makeFunc], ?_⟩
   have e1 : xs.map a.eval = ⟨xs.toList.map a.eval⟩ := by apply Array.ext'; simp
   have e2 : ys.map a.eval = ⟨ys.toList.map a.eval⟩ := by apply Array.ext'; simp
   rw [e1, e2]
   exact .fn h1 h2
 ·rename_i x ho
  obtain ⟨u, hu, h⟩ := zAc h
  have hv := hop x (by simp [ho, Op.operands]) u hu
  unfold z94 at h
  split at h
  ·rename_i q
   cases h
   obtain ⟨b, off, tg⟩ := q
   cases hq : a.eval x with
   | pointer z =>
    cases z with
    | none => rw [hq] at hv; cases hv
    | some z => exact ⟨.pointer (some z), by simp [execOp, ho, hq], by rw [hq] at hv; exact hv⟩
   | _ => rw [hq] at hv; cases hv
  ·rename_i f xs ys
   cases h
   generalize hq : a.eval x = q at hv
   cases hv with
   | scal hs => simp [z1m] at hs
   | fn h1 h2 => exact ⟨_, by simp only [execOp, ho, hq]; rfl, .fn h1 h2⟩
  ·cases h
 ·rename_i t x ho
  obtain ⟨u, hu, h⟩ := zAc h
  obtain ⟨v', e1, e2⟩ := zbx h (hop x (by simp [ho, Op.operands]) u hu) w
  exact ⟨v', by simp [execOp, ho, e1], e2⟩
 ·rename_i x xt t ok ho
  obtain ⟨u, hu, h⟩ := zAc h
  obtain ⟨v', e1, e2⟩ := zcr (xt := xt) h (hop x (by simp [ho, Op.operands]) u hu) w
  exact ⟨v', by simp [execOp, ho, e1], e2⟩
 ·rename_i op t x y yt ho
  obtain ⟨u, hu, h⟩ := zAc h
  obtain ⟨k, hk, h⟩ := zAc h
  have h1 := hop x (by simp [ho, Op.operands]) u hu
  have h2 := hop y (by simp [ho, Op.operands]) k hk
  split at h
  ·rename_i r hab
   cases h
   unfold abin at hab
   split at hab
   ·rename_i k1 a1 k2 b1
    split at hab
    ·rename_i hkk
     subst hkk
     obtain ⟨e1, e2⟩ := zhv (P := P) hab t x y w
     refine ⟨_, ?_, .scal e2⟩
     simp only [execOp, ho]
     rw [Sem.run_bind, h1.scalar_eq rfl, h2.scalar_eq rfl, e1]
     simp
    ·cases hab
   ·cases hab
  ·split at h
   ·exact z8b h hor w
   split at h
   ·cases hn : aNil P t u k with
    | none => simp [hn] at h
    | some r =>
     simp [hn] at h; subst h
     have e1 := zb9 (op := .eql) (.inl rfl) hn h1 h2 x y w
     refine ⟨.bool r, ?_, .scal rfl⟩
     simp only [execOp, ho]
     rw [Sem.run_bind, e1]
     simp
   ·cases hn : aNil P t u k with
    | none => simp [hn] at h
    | some r =>
     simp [hn] at h; subst h
     have e1 := zb9 (op := .neq) (.inr rfl) hn h1 h2 x y w
     refine ⟨.bool (!r), ?_, .scal rfl⟩
     simp only [execOp, ho]
     rw [Sem.run_bind, e1]
     simp
   ·cases h
 ·rename_i c ho
  split at h
  ·rename_i hc
   split at h
   ·rename_i x hx
    obtain ⟨u, hu, h⟩ := zAc h
    split at h
    ·rename_i q n cp
     obtain ⟨t, ht, h⟩ := zAc h
     have hca : c.args = #[x] := by apply Array.ext'; simpa using hx
     have hv := hop x (by simp [ho, Op.operands, Call.operands, hca, hc]) _ hu
     obtain ⟨v', e1, e2⟩ := zht (ty := o.type) (ts := c.argTypes) ht h hv w
     refine ⟨v', ?_, e2⟩
     simp [execOp, ho, resolve, hc, hca, invoke, builtin, e1]
    ·exact z8b h hor w
   ·cases h
  ·cases h
  ·cases h
  ·cases h
  ·exact z8b h hor w
  ·cases h
 ·exact z8b h hor w
 ·exact z8b h hor w
 ·cases h
end
end
end Go.Am
/- The operations that read the heap, make a block, or write. -/
namespace Go.Am
open Go
noncomputable section
def zeq (P : Program) (t : TypeId) (v : Value) (G : Nat -> Option ABlk) : Option Value :=
 match v with
 | .pointer (some ⟨b, off, none⟩) => (G b).bind fun x =>
  match z30 P t with
  | some true => (P.info? t).bind fun i => if off + i.size <= x.cells.length then some (.agg ((x.cells.drop off).take i.size).toArray) else none
  | some false => x.cells[off]?
  | none => none
 | _ => none
def z31 : List Value -> Option (List Int)
 | [] => some []
 | .int .u8 n :: r => (z31 r).map (n :: ·)
 | _ => none
def z6b (P : Program) (src dst : TypeId) (v : Value) (G : Nat -> Option ABlk) : Option Value :=
 match v, P.underlying src, P.underlying dst with
 | .slice (some ⟨b, off, _⟩) l _, some (.slice e), some .string => (G b).bind fun x =>
  match P.underlying e with
  | some (.int .u8) => if off + l <= x.cells.length then (z31 ((x.cells.drop off).take l)).map fun xs => .string (strOfNums xs) else none
  | _ => none
 | .slice none 0 0, some (.slice e), some .string =>
  match P.underlying e with
  | some (.int .u8) => some (.string ⟨#[]⟩)
  | _ => none
 | _, _, _ => none
def z45 (s : List Value) (o : Oper) : Option Nat :=
 match o.op with
 | .load _ x => match opnd s x with | some (.pointer (some a)) => some a.block | _ => none
 | .convert _ _ x => match opnd s x with | some (.slice (some a) _ _) => some a.block | _ => none
 | _ => none
def z5t (P : Program) (s : List Value) (o : Oper) (G : Nat -> Option ABlk) : Option Value :=
 match o.op with
 | .load t x => (opnd s x).bind fun v => zeq P t v G
 | .convert src dst x => (opnd s x).bind fun v => z6b P src dst v G
 | _ => none
inductive MK where
 | ptr
 | sl (l c : Nat) (tg : Option Nat)
def MK.val : MK -> Nat -> Value
 | .ptr, b => .pointer (some ⟨b, 0, none⟩)
 | .sl l c tg, b => .slice (some ⟨b, 0, tg⟩) l c
def z3l (z : Array Value) (n : Nat) : List Value := if z.size = 1 then List.replicate n (z[0]!) else ((Array.range n).map (fun i => z[i % z.size]!)).toList
def z3t (P : Program) (s : List Value) (o : Oper) : Option (ABlk × MK) :=
 match o.op with
 | .alloc e => (P.info? e).bind fun i => i.zero.bind fun z => if z.cells.all z1m then some (⟨z.cells.toList, e, 1, true⟩, .ptr) else none
 | .box e x => (opnd s x).map fun v => (⟨v.cells.toList, e, 1, true⟩, .ptr)
 | .buildSlice t n ps => match P.underlying t with
  | some (.slice e) => (P.info? e).bind fun i => i.zero.bind fun z => if z.cells.all z1m && (z.cells.size != 0) && decide (n * i.size <= 2 ^ 24) then
    (zch s ps.toList).bind fun l => (Instr.fill (fun j => some (j * i.size, i.size)) (z3l z.cells (n * i.size)).toArray l).map fun r => (⟨r.toList, e, 1, true⟩, .sl n n (some 0)) else none
  | _ => none
 | .makeSlice t lx cx => match P.underlying t, opnd s lx, opnd s cx with
  | some (.slice e), some (.int _ l), some (.int _ c) => (P.info? e).bind fun i => i.zero.bind fun z =>
   if z.cells.all z1m && (z.cells.size != 0) && decide (0 <= l /\ l <= c /\ c <= 2 ^ 47 /\ i.bytes * c <= 2 ^ 48) then some (⟨z3l z.cells (c.toNat * i.size), e, 1, true⟩, .sl l.toNat c.toNat (some 0)) else none
  | _, _, _ => none
 | .convert src dst x => match P.underlying src, P.underlying dst, opnd s x with
  | some .string, some (.slice e), some (.string str) => match P.underlying e with
   | some (.int .u8) => some (⟨str.data.toList.map fun b => .int .u8 b.toNat, e, 1, false⟩, .sl str.size str.size none)
   | _ => none
  | _, _, _ => none
 | _ => none
def asrc (v : Value) (size : Nat) (G : Nat -> Option ABlk) (cut : Option Nat) : Option (Nat × List Value) :=
 match v with
 | .slice none 0 _ => some (0, [])
 | .slice (some ⟨b, off, _⟩) n _ => let n' := (cut.map (Nat.min n)).getD n
  if n' = 0 then some (n, []) else (G b).bind fun x => if off + n' * size <= x.cells.length then some (n, (x.cells.drop off).take (n' * size)) else none
 | .string str => let n' := (cut.map (Nat.min str.size)).getD str.size
  if size = 1 then some (str.size, (str.data.toList.take n').map fun b => .int .u8 b.toNat) else none
 | _ => none
def z8q (P : Program) (t : TypeId) : Bool := match P.underlying t with | some (.int _) => false | some _ => true | none => false
def z4c (P : Program) (ts : Array TypeId) (sv xv : Value) (H : AH) : Option (Value × AH) :=
 match ts[0]?, ts[1]? with
 | some t, some xt =>
  match P.underlying t with
  | some (.slice e) => (P.info? e).bind fun i => i.zero.bind fun z =>
   if z8q P xt && decide (z.cells.size = i.size) && decide (0 < i.size) then
    (asrc xv i.size H.get none).bind fun (n, new) =>
     match sv with
     | .slice none 0 0 =>
      if n = 0 then some (sv, H)
      else if n * i.bytes <= 2 ^ 47 /\ n <= 2 ^ 47 then some (.slice (some ⟨H.next, 0, none⟩) n n, H.push (some ⟨new, e, i.size, true⟩)) else none
     | .slice (some ⟨b, off, tg⟩) l c =>
      if n = 0 /\ l <= c then some (sv, H) else
      (H.get b).bind fun x =>
       if l + n <= c then
        if x.own && okCells new && decide (off + (l + n) * i.size <= x.cells.length) then some (.slice (some ⟨b, off, tg⟩) (l + n) c, H.set b (some { x with cells := z2v x.cells (off + l * i.size) new })) else none
       else if l <= c /\ (l + n) * i.bytes <= 2 ^ 47 /\ (l + n) <= 2 ^ 47 /\ off + c * i.size <= x.cells.length then
        match tg with
        | some _ => some (.slice (some ⟨H.next, 0, none⟩) (l + n) (l + n), H.push (some ⟨(x.cells.drop off).take (l * i.size) ++ new, e, i.size, true⟩))
        | none => if x.own && decide (x.sz = i.size) && okCells new then some (.slice (some ⟨H.next, 0, none⟩) (l + n) (l + n), (H.set b none).push (some ⟨(x.cells.drop off).take (l * i.size) ++ new, e, i.size, true⟩)) else none
       else none
     | _ => none
   else none
  | _ => none
 | _, _ => none
def z4j (H : AH) (b off : Nat) (vs : List Value) : Option AH :=
 (H.get b).bind fun x => if x.own && okCells vs && decide (off + vs.length <= x.cells.length) then some (H.set b (some { x with cells := z2v x.cells off vs })) else none
def zhl (P : Program) (ts : Array TypeId) (dv xv : Value) (H : AH) : Option (Value × AH) :=
 match ts[0]? with
 | some t => match P.underlying t with
  | some (.slice e) => (P.info? e).bind fun i =>
   match dv with
   | .slice (some ⟨b, off, _⟩) dl _ =>
    (asrc xv i.size H.get (some dl)).bind fun (n, new) => if new = [] then (if n = 0 \/ dl = 0 then some (.int .i64 0, H) else none) else
     (z4j H b off new).map fun H' => (.int .i64 (Nat.min n dl), H')
   | _ => none
  | _ => none
 | none => none
def zer (P : Program) (ts : Array TypeId) (v : Value) (H : AH) : Option (Value × AH) :=
 match ts[0]? with
 | some t => match v, P.underlying t with
  | .slice none _ _, some _ => some (.tuple #[], H)
  | .slice (some _) 0 _, some _ => some (.tuple #[], H)
  | .slice (some ⟨b, off, _⟩) n _, some (.slice e) => (P.info? e).bind fun i => i.zero.bind fun z =>
   if z.cells.all z1m && (z.cells.size != 0) then (z4j H b off (z3l z.cells (n * z.cells.size))).map fun H' => (.tuple #[], H') else none
  | _, _ => none
 | none => none
def z8d (P : Program) (s : List Value) (o : Oper) (H : AH) : Option (Value × AH) :=
 match o.op with
 | .store t x y => (opnd s x).bind fun p => (opnd s y).bind fun v => (P.info? t).bind fun i =>
  match p with
  | .pointer (some ⟨b, off, none⟩) => if v.cells.size = i.size then (z4j H b off v.cells.toList).map fun H' => (undef, H') else none
  | _ => none
 | .call c => match c.callee with
  | .builtin .append => match c.args.toList with
   | [x, y] => (opnd s x).bind fun v => (opnd s y).bind fun u => z4c P c.argTypes v u H
   | _ => none
  | .builtin .copy => match c.args.toList with
   | [x, y] => (opnd s x).bind fun v => (opnd s y).bind fun u => zhl P c.argTypes v u H
   | _ => none
  | .builtin .clear => match c.args.toList with
   | [x] => (opnd s x).bind fun v => zer P c.argTypes v H
   | _ => none
  | _ => none
 | _ => none
section
variable {P : Program} {ι : Ren} {s : List Value} {a : Act} {o : Oper} {G : Nat -> Option ABlk} {n : Nat} {w : World}
theorem zct {t : TypeId} {v v' r : Value} (h : zeq P t v G = some r) (hv : VR ι v v') (hS : Sim n ι G w) : ∃ r', (Instr.loadAt t v').run P w = .ok r' w /\ VR ι r r' := by
 unfold zeq at h
 split at h
 ·rename_i b off
  obtain ⟨cb, co, ex, hb, rfl⟩ := hv.ptr_inv
  cases hG : G b with
  | none => simp [hG] at h
  | some x =>
   simp only [hG, Option.bind_some] at h
   have hB := hS.blk b x cb co ex hG hb
   split at h
   ·rename_i ha
    cases hi : P.info? t with
    | none => simp [hi] at h
    | some i =>
     simp only [hi, Option.bind_some] at h
     split at h
     ·rename_i hl
      cases h
      obtain ⟨cs, e1, e2⟩ := zcn (P := P) hB off i.size hl
      refine ⟨.agg cs.toArray, ?_, .agg e2⟩
      unfold z30 at ha
      split at ha
      all_goals first
       | (cases ha; done)
       | (rename_i hu; simp [Instr.loadAt, Instr.sureAddr, loadVar, isAgg, run_underlying hu, sizeOf, typeInfo, hi, e1])
     ·cases h
   ·rename_i ha
    obtain ⟨v', e1, e2⟩ := hB.cell h
    refine ⟨v', ?_, e2⟩
    unfold z30 at ha
    split at ha
    ·cases ha
    ·cases ha
    ·rename_i d h1 h2 hu
     cases d <;> first
      | (exact absurd rfl (h1 _))
      | (exact absurd rfl (h2 _ _))
      | simp [Instr.loadAt, Instr.sureAddr, loadVar, isAgg, run_underlying hu, e1]
    ·cases ha
   ·cases h
 ·cases h
theorem z6l : ∀ {l : List Value} {xs : List Int}, z31 l = some xs -> l = xs.map (.int .u8)
 | [], xs, h => by simp [z31] at h; subst h; rfl
 | .int .u8 n :: r, xs, h => by
  simp only [z31] at h
  cases hr : z31 r with
  | none => simp [hr] at h
  | some ys => simp [hr] at h; subst h; simp [z6l hr]
 | .int .i8 _ :: _, _, h | .int .i16 _ :: _, _, h | .int .i32 _ :: _, _, h | .int .i64 _ :: _, _, h | .int .u16 _ :: _, _, h | .int .u32 _ :: _, _, h | .int .u64 _ :: _, _, h => by simp [z31] at h
 | .bool _ :: _, _, h | .float _ _ :: _, _, h | .complex _ _ _ :: _, _, h | .string _ :: _, _, h | .pointer _ :: _, _, h | .slice _ _ _ :: _, _, h | .map _ :: _, _, h | .chan _ :: _, _, h | .func _ _ _ :: _, _, h | .nilFunc :: _, _, h | .iface _ _ :: _, _, h | .nilIface :: _, _, h | .agg _ :: _, _, h | .tuple _ :: _, _, h => by simp [z31] at h
theorem zam {src dst : TypeId} {v v' r : Value} (h : z6b P src dst v G = some r) (hv : VR ι v v') (hS : Sim n ι G w) : ∃ r', (convert src dst v').run P w = .ok r' w /\ VR ι r r' := by
 unfold z6b at h
 split at h
 ·rename_i b off tg l c e hs hd
  obtain ⟨cb, co, ex, a', c', hb, rfl, htg, hcs⟩ := hv.sl_inv
  cases hG : G b with
  | none => simp [hG] at h
  | some x =>
   simp only [hG, Option.bind_some] at h
   have hB := hS.blk b x cb co ex hG hb
   split at h
   ·rename_i he
    split at h
    ·rename_i hl
     cases hx : z31 ((x.cells.drop off).take l) with
     | none => simp [hx] at h
     | some xs =>
      simp [hx] at h
      subst h
      have heq := z6l hx
      have hlen : xs.length = l := by have := congrArg List.length heq; simp at this; omega
      by_cases hl0 : l = 0
      ·subst hl0
       have hxs : xs = [] := List.eq_nil_of_length_eq_zero hlen
       subst hxs
       refine ⟨.string (strOfNums []), ?_, .scal rfl⟩
       rw [run_convert_bytes_string w src dst e _ 0 c' hs he hd, run_bytesToString w _ 0 c' [] (by simp [loadCells, loadCellsFrom]), foldl_push_bytes]
       simp [strOfNums, ByteArray.empty, ByteArray.emptyWithCapacity]
       rfl
      ·have ho : a' = ⟨cb, co + off, none⟩ := by
        rcases hcs with ⟨_, h, _⟩ | ⟨_, h, _⟩ | ⟨h, _, _⟩
        ·exact h
        ·exact h
        ·exact absurd h hl0
       subst ho
       refine ⟨_, run_convert_bytes_arg w src e hs he cb (co + off) l c' xs hlen (fun j hj => ?_) dst hd, .scal rfl⟩
       have hj' : x.cells[off + j]? = some (.int .u8 (xs.getD j 0)) := by
        have := congrArg (fun q => q[j]?) heq
        simp only [List.getElem?_take, if_pos hj, List.getElem?_drop, List.getElem?_map] at this
        rw [this, zAb, zAh (by omega)]; rfl
       obtain ⟨v', e1, e2⟩ := hB.cell hj'
       rw [Nat.add_assoc, e1, e2.scalar_eq rfl]
    ·cases h
   ·cases h
 ·rename_i e hs hd
  have := hv.scalar_eq rfl; subst this
  split at h
  ·rename_i he
   cases h
   exact ⟨_, run_convert_bytes_nil w src e hs he 0 0 dst hd, .scal rfl⟩
  ·cases h
 ·cases h
theorem zcu {v : Value} (h : z5t P s o G = some v) (hS : Sim n ι G w) (hor : OR ι s a o) : ∃ v', (execOp a.eval o).run P w = .ok (.value v') w /\ VR ι v v' := by
 unfold z5t at h
 split at h
 ·rename_i t x ho
  obtain ⟨u, hu, h⟩ := zAc h
  obtain ⟨r, e1, e2⟩ := zct h (hor x (by simp [ho, Op.operands]) u hu) hS
  exact ⟨r, by simp [execOp, ho, e1], e2⟩
 ·rename_i src dst x ho
  obtain ⟨u, hu, h⟩ := zAc h
  obtain ⟨r, e1, e2⟩ := zam h (hor x (by simp [ho, Op.operands]) u hu) hS
  exact ⟨r, by simp [execOp, ho, e1], e2⟩
 ·cases h
theorem zby {G' : Nat -> Option ABlk} (h : ∀ b, z45 s o = some b -> G' b = G b) : z5t P s o G' = z5t P s o G := by
 unfold z5t z45 at *
 split
 ·rename_i t x ho
  simp only [ho] at h
  cases hq : opnd s x with
  | none => rfl
  | some v =>
   simp only [hq, Option.bind_some] at h ⊢
   unfold zeq
   split
   ·rename_i b off; rw [h b rfl]
   ·rfl
 ·rename_i src dst x ho
  simp only [ho] at h
  cases hq : opnd s x with
  | none => rfl
  | some v =>
   simp only [hq, Option.bind_some] at h ⊢
   unfold z6b
   split
   ·rw [h _ rfl]
   ·rfl
   ·rfl
 ·rfl
theorem z97 (z : Array Value) (n : Nat) (hz : z.size ≠ 0) : (Array.range n).map (fun i => z[i % z.size]!) = (z3l z n).toArray := by
 unfold z3l
 split
 ·rename_i h
  apply Array.ext'
  simp only [Array.toList_map, Array.toList_range]
  apply List.ext_getElem
  ·simp
  ·intro i h1 h2
   simp [h, Nat.mod_one]
 ·apply Array.ext'; simp
theorem z5u (z : Array Value) (n : Nat) : (z3l z n).length = n := by unfold z3l; split <;> simp
theorem z5v {z : Value} (hall : z.cells.all z1m = true) (hz : z.cells.size ≠ 0) (n : Nat) : (z3l z.cells n).all z1m = true := by
 have hs : ∀ i, i < z.cells.size -> z1m (z.cells[i]!) = true := fun i hi => by
  have := Array.all_eq_true_iff_forall_mem.1 hall (z.cells[i]) (Array.getElem_mem hi)
  rw [getElem!_pos z.cells i hi]; exact this
 unfold z3l
 split
 ·rename_i h1
  have := hs 0 (by omega)
  simp only [List.all_replicate, this]; split <;> rfl
 ·simp only [Array.toList_map, List.all_map, List.all_eq_true]
  intro i _
  exact hs _ (Nat.mod_lt _ (by omega))
theorem za0 {x : Int} (h0 : 0 <= x) (h1 : x <= 2 ^ 47) : IntKind.i64.wrap x = x := by
 have e : x % 2 ^ 64 = x := Int.emod_eq_of_lt h0 (by omega)
 have hlt : ¬ (2 ^ 63 <= x) := by omega
 simp [IntKind.wrap, IntKind.bits, IntKind.signed] at *
 rw [e, if_neg (by omega)]
theorem zba {blk : ABlk} {k : MK} (h : z3t P s o = some (blk, k)) (hS : Sim n ι G w) (hor : OR ι s a o) {b m : Nat} (hι : ι b = none) (hb : b < m) (hnm : n <= m) :
  ∃ ex v' w', (execOp a.eval o).run P w = .ok (.value v') w' /\ VR (upd ι b (some (w.heap.size, 0, ex))) (k.val b) v' /\ Sim m (upd ι b (some (w.heap.size, 0, ex))) (upd G b (some blk)) w' ∧
   ∀ j, j <= b -> Evo j ι G w (upd ι b (some (w.heap.size, 0, ex))) (upd G b (some blk)) w' := by
 unfold z3t at h
 split at h
 ·rename_i e ho
  obtain ⟨i, hi, h⟩ := zAc h
  obtain ⟨z, hz, h⟩ := zAc h
  split at h
  ·rename_i hc
   cases h
   refine ⟨0, .pointer (some ⟨w.heap.size, 0, none⟩), _, by simp [execOp, ho, Instr.alloc, zeroValue, typeInfo, hi, hz, newVar, newRow]; rfl, .ptr (co := 0) (z21 _ _ _), ?_⟩
   exact hS.alloc hι hb hnm rfl rfl rfl rfl (fun j v hj => ⟨v, by simpa using hj, .scal (by
    have := Array.all_eq_true_iff_forall_mem.1 hc v (by simpa using List.mem_of_getElem? hj); exact this)⟩) (fun _ => ⟨by simp, rfl⟩)
  ·cases h
 ·rename_i e x ho
  cases hx : opnd s x with
  | none => simp [hx] at h
  | some v =>
   simp [hx] at h
   obtain ⟨rfl, rfl⟩ := h
   have hv := (hor x (by simp [ho, Op.operands]) v hx).cells
   refine ⟨0, .pointer (some ⟨w.heap.size, 0, none⟩), _, by simp [execOp, ho, Instr.box, newVar, newRow]; rfl, .ptr (co := 0) (z21 _ _ _), ?_⟩
   exact hS.alloc hι hb hnm rfl rfl rfl rfl (fun j u hj => by
    obtain ⟨y, h1, h2⟩ := hv.get j u (by simpa using hj)
    exact ⟨y, by simpa using h1, h2⟩) (fun _ => ⟨by have := hv.length; simp at this ⊢; omega, rfl⟩)
 ·rename_i t len ps ho
  split at h
  ·rename_i e hu
   obtain ⟨i, hi, h⟩ := zAc h
   obtain ⟨z, hz, h⟩ := zAc h
   split at h
   ·rename_i hc
    simp only [Bool.and_eq_true, decide_eq_true_eq, bne_iff_ne] at hc
    obtain ⟨⟨hc1, hc2⟩, hc3⟩ := hc
    obtain ⟨l, hl, h⟩ := zAc h
    cases hf : Instr.fill (fun j => some (j * i.size, i.size)) (z3l z.cells (len * i.size)).toArray l with
    | none => simp [hf] at h
    | some r =>
     simp [hf] at h
     obtain ⟨rfl, rfl⟩ := h
     have hP := zal (a := a) hl (ι := ι) (fun x hx u hu => hor x.2 (by simp only [ho, Op.operands]; exact List.mem_toArray.2 (List.mem_map.2 ⟨x, hx, rfl⟩)) u hu)
     obtain ⟨r', e1, e2⟩ := zb8 _ l _ _ (z3l z.cells (len * i.size)).toArray r hP (VRs.of_scalar (z5v hc1 hc2 _)) hf
     refine ⟨0, .slice (some ⟨w.heap.size, 0, none⟩) len len, { w with heap := w.heap.push (.cells r' e) }, ?_, .slT (co := 0) (z21 _ _ _), ?_⟩
     ·have hle : ¬ (len * i.size > 2 ^ 24) := by omega
      have e1' : Instr.fill (fun j => some (j * i.size, i.size)) (z3l z.cells (len * i.size)).toArray (ps.map fun p => (p.1, a.eval p.2)).toList = some r' := by simpa using e1
      by_cases h0 : len * i.size = 0
      ·have hz0 : (Array.range (len * i.size)).map (fun j => (#[] : Array Value)[j % (#[] : Array Value).size]!) = (z3l z.cells (len * i.size)).toArray := by
        rw [h0]; unfold z3l; split <;> simp
       rw [h0] at e1' hz0 hle
       simp only [execOp, ho, Instr.buildSlice, Sem.run_bind, run_underlying hu, sizeOf, typeInfo, run_program, Result.andThen_ok, hi, Sem.run_pure, h0]
       simp only [Nat.not_lt_zero, gt_iff_lt, if_false, if_true, Sem.run_bind, Sem.run_pure, Result.andThen_ok, Nat.reducePow]
       rw [hz0, e1']
       simp [newRow]
      ·simp only [execOp, ho, Instr.buildSlice, Sem.run_bind, run_underlying hu, sizeOf, typeInfo, run_program, Result.andThen_ok, hi, Sem.run_pure]
       rw [if_neg hle, if_neg h0]
       simp only [zeroValue, typeInfo, Sem.run_bind, run_program, Result.andThen_ok, hi, hz, Sem.run_pure]
       rw [z97 _ _ hc2, e1']
       simp [newRow]
     ·exact hS.alloc hι hb hnm rfl rfl rfl rfl (fun j u hj => by
       obtain ⟨y, h1, h2⟩ := e2.get j u hj
       exact ⟨y, by simpa using h1, h2⟩) (fun _ => ⟨by have := e2.length; simp at this ⊢; omega, rfl⟩)
   ·cases h
  ·cases h
 ·rename_i t lx cx ho
  split at h
  ·rename_i e kl l kc c hu hl hc
   obtain ⟨i, hi, h⟩ := zAc h
   obtain ⟨z, hz, h⟩ := zAc h
   split at h
   ·rename_i hcond
    simp only [Bool.and_eq_true, decide_eq_true_eq, bne_iff_ne] at hcond
    obtain ⟨⟨hc1, hc2⟩, h0, hlc, hc47, hc48⟩ := hcond
    cases h
    have el := (hor lx (by simp [ho, Op.operands]) _ hl).scalar_eq rfl
    have ec := (hor cx (by simp [ho, Op.operands]) _ hc).scalar_eq rfl
    refine ⟨0, .slice (some ⟨w.heap.size, 0, none⟩) l.toNat c.toNat, { w with heap := w.heap.push (.cells (z3l z.cells (c.toNat * i.size)).toArray e) }, ?_, .slT (co := 0) (z21 _ _ _), ?_⟩
    ·have wl := za0 h0 (by omega)
     have wc := za0 (x := c) (by omega) (by omega)
     have hn : ¬ (c < 0) := by omega
     have hn2 : ¬ (2 ^ 48 < (i.bytes : Int) * c) := by omega
     have hn3 : ¬ (l < 0) := by omega
     have hn4 : ¬ (c < l) := by omega
     simp only [execOp, ho, Instr.makeSlice, Sem.run_bind, run_underlying hu, Result.andThen_ok, el, ec, asInt, asIntOf, Sem.run_pure, sizeOf, typeInfo, run_program, hi, wl, wc]
     have hcnd : (decide (c < 0) || decide ((i.bytes : Int) * c > 2 ^ 48) || decide (l < 0) || decide (l > c)) = false := by simp; omega
     rw [if_neg (by simpa using hcnd)]
     simp only [Sem.run_bind, Sem.run_pure, Result.andThen_ok, run_askRoom, sizeOf, typeInfo, run_program, hi]
     by_cases hz0 : c.toNat * i.size = 0
     ·rw [if_pos hz0]
      have hzz : (Array.range (c.toNat * i.size)).map (fun j => (#[] : Array Value)[j % (#[] : Array Value).size]!) = (z3l z.cells (c.toNat * i.size)).toArray := by
       rw [hz0]; unfold z3l; split <;> simp
      simp only [Sem.run_pure, Result.andThen_ok, Sem.run_bind]
      rw [hzz]
      simp [newRow]
     ·rw [if_neg hz0]
      simp only [zeroValue, typeInfo, Sem.run_bind, run_program, Result.andThen_ok, hi, hz, Sem.run_pure]
      rw [z97 _ _ hc2]
      simp [newRow]
    ·exact hS.alloc hι hb hnm rfl rfl rfl rfl (fun j u hj => ⟨u, by simpa using hj, .scal (by
      have := List.all_eq_true.1 (z5v hc1 hc2 (c.toNat * i.size)) u (List.mem_of_getElem? hj); exact this)⟩) (fun _ => ⟨by simp [z5u], rfl⟩)
   ·cases h
  ·cases h
 ·rename_i src dst x ho
  split at h
  ·rename_i e str hs hd hx
   split at h
   ·rename_i he
    cases h
    have ex := (hor x (by simp [ho, Op.operands]) _ hx).scalar_eq rfl
    let cap := (Question.appendCap str.size 0 e).cut (w.tape w.drawn (.appendCap str.size 0 e))
    have hcap : str.size <= cap := by show str.size <= str.size + _; omega
    let arr : Array Value := (str.data.map fun b => .int .u8 b.toNat) ++ Array.replicate (cap - str.size) (.int .u8 0)
    let w1 : World := { w with heap := w.heap.push (.cells arr e (arr.size, arr.size + 1)), drawn := w.drawn + 1 }
    refine ⟨cap - str.size, .slice (some ⟨w.heap.size, 0, none⟩) str.size cap, w1, ?_, ?_, ?_⟩
    ·have hf : ({ w with heap := w.heap.push (.cells arr e), drawn := w.drawn + 1 } : World).freeze ⟨w.heap.size, arr.size, none⟩ 1 = w1 := by
      simp only [World.freeze, w1]
      rw [if_neg (by omega)]
      congr 1
      apply Array.ext
      ·simp
      ·intro j h1 h2
       rw [Array.getElem_modify]
       split
       ·rename_i hj; subst hj; simp
       ·rename_i hj
        have hjl : j < w.heap.size := by simp at h2; omega
        simp [Array.getElem_push, hjl]
     have hsh : ({ w with heap := w.heap.push (.cells arr e), drawn := w.drawn + 1 } : World).shape? w.heap.size = some (e, arr.size) := by simp [World.shape?]
     simp only [execOp, ho, ex, convert, Sem.run_bind, run_underlying hs, run_underlying hd, run_underlying he, Result.andThen_ok, Conv.stringToBytes, run_choose, Question.forced, Bool.false_eq_true, if_false, newRow, run_newObj, Sem.run_pure, markStringish, run_shape]
     show ((Result.andThen (Result.andThen (Sem.run P (match World.shape? { w with heap := w.heap.push (.cells arr e), drawn := w.drawn + 1 } w.heap.size with | some (_, n) => freeze ⟨w.heap.size, n, none⟩ 1 | x => pure ()) _) _) _) = _)
     rw [hsh]
     simp only [run_freeze, Result.andThen_ok]
     exact congrArg (fun q => Result.ok (Next.value (Value.slice (some ⟨w.heap.size, 0, none⟩) str.size cap)) q) hf
    ·have := VR.sl (ι := upd ι b (some (w.heap.size, 0, cap - str.size))) (o := 0) (l := str.size) (c := str.size) (z21 _ _ _)
     rw [show str.size + (cap - str.size) = cap by omega] at this
     exact this
    ·refine hS.alloc hι hb hnm (w1 := w1) (arr := arr) rfl rfl rfl rfl (fun j u hj => ⟨u, ?_, .scal ?_⟩) (fun h => by simp at h)
     ·simp only [List.getElem?_map] at hj
      rw [Array.getElem?_append]
      cases hq : str.data.toList[j]? with
      | none => simp [hq] at hj
      | some q =>
       have hlt : j < str.data.size := by
        rcases Nat.lt_or_ge j str.data.size with h | h
        ·exact h
        ·rw [List.getElem?_eq_none (by simpa using h)] at hq; cases hq
       rw [if_pos (by simpa using hlt)]
       simp [hq] at hj ⊢
       rw [<- hj]
       simp at hq
       rw [hq]; exact ⟨q, rfl, rfl⟩
     ·simp only [List.getElem?_map] at hj
      cases hq : str.data.toList[j]? with
      | none => simp [hq] at hj
      | some q => simp [hq] at hj; subst hj; rfl
   ·cases h
  ·cases h
 ·cases h
end
end
end Go.Am
/- The operations that write: store, append, copy, clear. -/
namespace Go.Am
open Go
section
variable {P : Program} {ι : Ren} {s : List Value} {a : Act} {o : Oper} {H : AH} {w : World}
theorem zcv {v v' : Value} {size : Nat} {cut : Option Nat} {k : Nat} {new : List Value} {n : Nat} {G : Nat -> Option ABlk} (h : asrc v size G cut = some (k, new)) (hv : VR ι v v') (hS : Sim n ι G w) :
  ∃ new', VRs ι new new' /\ new.length = ((cut.map (Nat.min k)).getD k) * size /\ (∀ w', (Builtin.lenOf v').run P w' = .ok k w') ∧
   ∀ w', w'.heap = w.heap -> (Builtin.firstCells size ((cut.map (Nat.min k)).getD k) v').run P w' = .ok new'.toArray w' := by
 unfold asrc at h
 split at h
 ·rename_i c
  cases h
  have := hv.scalar_eq rfl; subst this
  have h0 : ((cut.map (Nat.min 0)).getD 0) = 0 := by cases cut <;> simp
  exact ⟨[], .nil, by simp [h0], fun w' => by simp [Builtin.lenOf], fun w' _ => by simp [Builtin.firstCells]⟩
 ·rename_i b off tg m c
  obtain ⟨cb, co, ex, a', c', hb, rfl, htg, hcs⟩ := hv.sl_inv
  simp only at h
  split at h
  ·rename_i h0
   cases h
   refine ⟨[], .nil, by simp [h0], fun w' => by simp [Builtin.lenOf], fun w' _ => ?_⟩
   rw [h0]
   simp [Builtin.firstCells, loadCells, loadCellsFrom]
  ·rename_i h0
   cases hG : G b with
   | none => simp [hG] at h
   | some x =>
    simp only [hG, Option.bind_some] at h
    split at h
    ·rename_i hl
     cases h
     obtain ⟨cs, e1, e2⟩ := zcn (P := P) (hS.blk b x cb co ex hG hb) off _ hl
     have ho : a' = ⟨cb, co + off, none⟩ := by
      rcases hcs with ⟨_, h, _⟩ | ⟨_, h, _⟩ | ⟨h, _, _⟩
      ·exact h
      ·exact h
      ·exfalso; subst h; apply h0; cases cut <;> simp
     subst ho
     refine ⟨cs, e2, by simp; omega, fun w' => by simp [Builtin.lenOf], fun w' hw' => ?_⟩
     have hB := (hS.grow (w' := w') (fun cb _ => by rw [hw'])).blk b x cb co ex hG hb
     obtain ⟨cs2, e3, e4⟩ := zcn (P := P) hB off _ hl
     have : cs2 = cs := by
      have hcell : ∀ a, w'.cell? a = w.cell? a := fun a => by simp [World.cell?, hw']
      have e1' := e1
      have key : ∀ (k i : Nat) (acc : Array Value) (r : Array Value), (loadCellsFrom ⟨cb, co + off, none⟩ i k acc).run P w = .ok r w -> (loadCellsFrom ⟨cb, co + off, none⟩ i k acc).run P w' = .ok r w' := by
       intro k
       induction k with
       | zero => intro i acc r hr; simp [loadCellsFrom] at hr ⊢; exact hr
       | succ k ih =>
        intro i acc r hr
        simp only [loadCellsFrom, Sem.run_bind, run_load] at hr ⊢
        rw [hcell]
        cases hq : w.cell? ((⟨cb, co + off, none⟩ : Addr).add i) with
        | none =>
         rw [hq] at hr
         simp only at hr
         exfalso
         revert hr
         obtain ⟨arr, el, fr, g1, _⟩ := (hS.blk b x cb co ex hG hb).lies
         have hf : w.farLoad P ((⟨cb, co + off, none⟩ : Addr).add i) (Mode.plain == Mode.atomic) = .error (w.noCell ((⟨cb, co + off, none⟩ : Addr).add i) "load: no such cell") := by
          have hblk : ((⟨cb, co + off, none⟩ : Addr).add i).block = cb := by rw [z4r]
          simp [World.farLoad, hblk, g1]
         rw [hf]
         simp
        | some u =>
         rw [hq] at hr
         simp only [Result.andThen_ok] at hr ⊢
         exact ih _ _ _ hr
      have := key _ 0 #[] _ e1
      rw [loadCells] at e3
      rw [this] at e3
      injection e3 with e3
      have := congrArg Array.toList e3
      simpa using this.symm
     subst this
     simpa [Builtin.firstCells] using e3
    ·cases h
 ·rename_i str
  simp only at h
  split at h
  ·rename_i hs1
   cases h
   subst hs1
   have := hv.scalar_eq rfl; subst this
   have hl : str.data.toList.length = str.size := by rw [Array.length_toList]; rfl
   refine ⟨_, VRs.of_scalar (by rw [List.all_map]; exact List.all_eq_true.2 fun _ _ => rfl), ?_, fun w' => by simp [Builtin.lenOf], fun w' _ => ?_⟩
   ·rw [List.length_map, List.length_take, hl]
    cases cut with
    | none => simp
    | some c => show min (min str.size c) str.size = min str.size c * 1; omega
   ·simp only [Builtin.firstCells, Sem.run_pure]
    congr 1
    apply Array.ext'
    simp [ByteArray.data_extract, List.extract_eq_take_drop]
  ·cases h
 ·cases h
theorem zes {t : TypeId} (h : z8q P t = true) : ∃ d, P.underlying t = some d /\ ∀ k, d ≠ .int k := by
 unfold z8q at h
 split at h
 ·cases h
 ·rename_i d hne hu; exact ⟨d, hu, fun k e => hne k e⟩
 ·cases h
theorem z57 {dx : TypeDesc} (h : ∀ k, dx ≠ .int k) : (dx matches .int _) = false := by cases dx <;> first | rfl | exact absurd rfl (h _)
theorem z4b (w : World) {t xt e ty : TypeId} {i : TypeInfo} {dx : TypeDesc} (ht : P.underlying t = some (.slice e)) (hx : P.underlying xt = some dx) (hdx : ∀ k, dx ≠ .int k) (hi : P.info? e = some i)
  {ts : Array TypeId} (h0 : ts[0]? = some t) (h1 : ts[1]? = some xt) (base : Option Addr) (l c : Nat) {x : Value} {n : Nat} {news : List Value}
  (hlen : ∀ w', (Builtin.lenOf x).run P w' = .ok n w') (hnew : (Builtin.firstCells i.size n x).run P w = .ok news.toArray w) (hroom : l + n <= c) :
  (Builtin.append_ ts ty #[.slice base l c, x]).run P w = (match base with
   | some a => ((storeCells (a.add (l * i.size)) news).run P w).andThen fun _ w' => .ok (.slice base (l + n) c) w'
   | none => .ok (.slice base (l + n) c) w) := by
 cases base with
 | none =>
  simp only [Builtin.append_, h0, h1]
  simp only [List.getElem?_toArray, List.getElem?_cons_zero, List.getElem?_cons_succ, Sem.run_bind, run_underlying ht, run_underlying hx, Result.andThen_ok, sizeOf, typeInfo, run_program, hi, Sem.run_pure]
  have hz' := z57 hdx
  simp [hz', hlen, hroom, hnew]
 | some a =>
  simp only [Builtin.append_, h0, h1]
  simp only [List.getElem?_toArray, List.getElem?_cons_zero, List.getElem?_cons_succ, Sem.run_bind, run_underlying ht, run_underlying hx, Result.andThen_ok, sizeOf, typeInfo, run_program, hi, Sem.run_pure]
  have hz' := z57 hdx
  simp [hz', hlen, hroom, hnew]
theorem z58 (w : World) {t xt e ty : TypeId} {i : TypeInfo} {z : Value} {dx : TypeDesc} (ht : P.underlying t = some (.slice e)) (hx : P.underlying xt = some dx) (hdx : ∀ k, dx ≠ .int k) (hi : P.info? e = some i) (hz : i.zero = some z)
  {ts : Array TypeId} (h0 : ts[0]? = some t) (h1 : ts[1]? = some xt) (base : Option Addr) (l c : Nat) {x : Value} {n : Nat} {olds news : List Value}
  (hlen : ∀ w', (Builtin.lenOf x).run P w' = .ok n w') (hold : (Builtin.firstCells i.size l (.slice base l c)).run P w.drew = .ok olds.toArray w.drew) (hnew : (Builtin.firstCells i.size n x).run P w.drew = .ok news.toArray w.drew) (hroom : c < l + n)
  (h63 : l + n <= 2 ^ 47) (hb : (l + n) * i.bytes <= 2 ^ 47) :
  (Builtin.append_ ts ty #[.slice base l c, x]).run P w = .ok (.slice (some ⟨w.heap.size, 0, none⟩) (l + n) (grownCap w (l + n) c e)) (w.drew.alloc (.cells (olds.toArray ++ news.toArray ++ Builtin.zeroCells z.cells (grownCap w (l + n) c e - (l + n))) e)) := by
 have hz' := z57 hdx
 have hn : ¬ (l + n <= c) := by omega
 have h63' : ¬ (9223372036854775807 < ((l : Int) + (n : Int))) := by omega
 have h48' : ¬ (281474976710656 < Builtin.nextslicecap (l + n) c * i.bytes) := by have := growslice_fits (bytes := i.bytes) hroom (by omega); omega
 simp only [Builtin.append_, h0, h1]
 simp only [List.getElem?_toArray, List.getElem?_cons_zero, List.getElem?_cons_succ, Sem.run_bind, run_underlying ht, run_underlying hx, Result.andThen_ok, sizeOf, typeInfo, run_program, hi, Sem.run_pure]
 simp [hz', hlen, hn, h63', h48', Question.forced, hold, hnew, newRow, grownCap, zeroValue, typeInfo, hi, hz]
 congr 2
 apply Array.ext'
 simp
theorem z4p (w : World) (need old : Nat) (e : TypeId) : need <= grownCap w need old e := by show need <= need + _; omega
theorem z98 (z : Array Value) (n : Nat) : (Builtin.zeroCells z n).size = n * z.size := by simp [Builtin.zeroCells]
def zcw (P : Program) (H : AH) (ι : Ren) (w : World) (e : Sem Value) (v : Value) (H' : AH) : Prop :=
 ∃ ι' v' w', e.run P w = .ok v' w' /\ VR ι' v v' /\ Sim H'.next ι' H'.get w' /\ Evo H.next ι H.get w ι' H'.get w'
theorem z6c (hS : Sim H.next ι H.get w) : ι H.next = none := by
 cases h : ι H.next with
 | none => rfl
 | some y => have := hS.dom _ y h; omega
theorem z99 (hS : Sim H.next ι H.get w) {blk : ABlk} {el : TypeId} {l k : Nat} {news' : List Value} {z : Array Value} (hsz : blk.sz = z.size)
  (hv : VRs ι blk.cells news') (hlk : l <= k) :
  Sim (H.push (some blk)).next (upd ι H.next (some (w.heap.size, 0, k - l))) (H.push (some blk)).get (w.drew.alloc (.cells (news'.toArray ++ Builtin.zeroCells z (k - l)) el)) ∧
   Evo H.next ι H.get w (upd ι H.next (some (w.heap.size, 0, k - l))) (H.push (some blk)).get (w.drew.alloc (.cells (news'.toArray ++ Builtin.zeroCells z (k - l)) el)) ∧
   upd ι H.next (some (w.heap.size, 0, k - l)) H.next = some (w.heap.size, 0, k - l) := by
 have hι := z6c hS
 obtain ⟨h1, h2⟩ := hS.alloc (m := H.next + 1) (b := H.next) hι (by omega) (by omega) (x := blk) (arr := news'.toArray ++ Builtin.zeroCells z (k - l)) (el := el) (fr := (0, 0)) (ex := k - l) (w1 := w.drew.alloc (.cells (news'.toArray ++ Builtin.zeroCells z (k - l)) el)) rfl rfl rfl rfl
  (fun j u hj => by
   obtain ⟨y, a1, a2⟩ := hv.get j u hj
   refine ⟨y, ?_, a2⟩
   have hlt : j < news'.length := by
    rcases Nat.lt_or_ge j news'.length with h | h
    ·exact h
    ·rw [List.getElem?_eq_none h] at a1; cases a1
   rw [Array.getElem?_append, if_pos (by simpa using hlt)]
   simpa using a1)
  (fun _ => ⟨by rw [hsz, hv.length]; simp [z98], rfl⟩)
 rw [z49]
 exact ⟨h1, h2 _ (Nat.le_refl _), z21 _ _ _⟩
theorem zcx {ts : Array TypeId} {ty : TypeId} {sv xv sv' xv' v : Value} {H' : AH} (h : z4c P ts sv xv H = some (v, H')) (hs : VR ι sv sv') (hx : VR ι xv xv') (hS : Sim H.next ι H.get w) :
  zcw P H ι w (Builtin.append_ ts ty #[sv', xv']) v H' := by
 unfold z4c at h
 split at h
 ·rename_i t xt h0 h1
  split at h
  ·rename_i e hu
   obtain ⟨i, hi, h⟩ := zAc h
   obtain ⟨z, hz, h⟩ := zAc h
   split at h
   ·rename_i hcond
    simp only [Bool.and_eq_true, decide_eq_true_eq] at hcond
    obtain ⟨⟨hni, hzs⟩, hsize⟩ := hcond
    obtain ⟨dx, hux, hdx⟩ := zes hni
    obtain ⟨⟨n, new⟩, hsrc, h⟩ := zAc h
    obtain ⟨new', hvn, hln, hlen, hfirst⟩ := zcv (P := P) hsrc hx hS
    simp only [Option.map_none, Option.getD_none] at hln hfirst
    simp only at h
    split at h
    ·have := hs.scalar_eq rfl; subst this
     split at h
     ·rename_i hn0
      cases h
      subst hn0
      refine ⟨ι, .slice none 0 0, w, ?_, .scal rfl, hS, Evo.refl _ _ _ _⟩
      rw [z4b w hu hux hdx hi h0 h1 none 0 0 hlen (hfirst w rfl) (by omega)]
     ·rename_i hn0
      split at h
      ·rename_i hb
       cases h
       have hrun := z58 (ty := ty) (olds := []) w hu hux hdx hi hz h0 h1 none 0 0 hlen (by simp [Builtin.firstCells]) (hfirst w.drew rfl) (by omega) (by omega) (by simpa using hb.1)
       obtain ⟨a1, a2, a3⟩ := z99 (H := H) hS (blk := ⟨new, e, i.size, true⟩) (el := e) (l := n) (k := grownCap w (0 + n) 0 e) (z := z.cells) (by simp [hzs]) hvn (by have := z4p w (0 + n) 0 e; omega)
       simp only [Nat.zero_add] at hrun a1 a2 a3
       refine ⟨_, _, _, hrun, ?_, by simpa using a1, by simpa using a2⟩
       have := VR.sl (o := 0) (l := n) (c := n) a3
       rw [show n + (grownCap w n 0 e - n) = grownCap w n 0 e by have := z4p w n 0 e; omega] at this
       exact this
      ·cases h
    ·rename_i b off tg l c _ _ _
     have hs' := hs
     obtain ⟨cb, co, ex, a', c', hb, rfl, htg, hcs⟩ := hs.sl_inv
     have hcc : c <= c' := by
      rcases hcs with ⟨_, _, h⟩ | ⟨_, _, h⟩ | ⟨_, h, _⟩ <;> omega
     split at h
     ·rename_i hn0
      obtain ⟨hn0, hlc⟩ := hn0
      cases h
      subst hn0
      refine ⟨ι, .slice (some a') l c', w, ?_, hs', hS, Evo.refl _ _ _ _⟩
      rw [z4b w hu hux hdx hi h0 h1 _ l c' hlen (hfirst w rfl) (by omega)]
      have hnil : new' = [] := List.eq_nil_of_length_eq_zero (by have := hvn.length; omega)
      simp [hnil, storeCells]
     ·rename_i hnn
      obtain ⟨x, hG, h⟩ := zAc h
      have hB := hS.blk b x cb co ex hG hb
      split at h
      ·rename_i hroom
       split at h
       ·rename_i hc2
        simp only [Bool.and_eq_true, decide_eq_true_eq] at hc2
        obtain ⟨⟨hown, hok⟩, hfit⟩ := hc2
        cases h
        have ho : a' = ⟨cb, co + off, none⟩ := by
         rcases hcs with ⟨_, h, _⟩ | ⟨_, h, _⟩ | ⟨h1, h2, _⟩
         ·exact h
         ·exact h
         ·exfalso; apply hnn; omega
        subst ho
        have hfit' : off + l * i.size + new.length <= x.cells.length := by rw [hln, Nat.add_mul] at *; omega
        obtain ⟨w1, e1, e2, e3⟩ := zco (P := P) hS hG hown hb (off + l * i.size) hvn hok hfit'
        refine ⟨ι, .slice (some ⟨cb, co + off, none⟩) (l + n) c', w1, ?_, ?_, ?_, ?_⟩
        ·rw [z4b w hu hux hdx hi h0 h1 _ l c' hlen (hfirst w rfl) (by omega)]
         simp only [z4r]
         rw [Nat.add_assoc co, e1]
         simp
        ·rcases hcs with ⟨rfl, _, rfl⟩ | ⟨rfl, _, rfl⟩ | ⟨h1, h2, _⟩
         ·exact .sl hb
         ·exact .slT hb
         ·exfalso; apply hnn; omega
        ·rw [z2u H _ hG]; exact e2
        ·rw [z2u H _ hG]; exact e3 _
       ·cases h
      ·rename_i hroom
       split at h
       ·rename_i hc2
        obtain ⟨hlc, hbytes, h47, hin⟩ := hc2
        -- what the row held
        have hold : ∃ olds, VRs ι ((x.cells.drop off).take (l * i.size)) olds /\ ∀ w', w'.heap = w.heap -> (Builtin.firstCells i.size l (.slice (some a') l c')).run P w' = .ok olds.toArray w' := by
         have hsrc2 : asrc (.slice (some ⟨b, off, tg⟩) l c) i.size H.get none = some (l, if l = 0 then [] else (x.cells.drop off).take (l * i.size)) := by
          unfold asrc
          simp only [Option.map_none, Option.getD_none, hG, Option.bind_some]
          split
          ·rename_i h0; simp [h0]
          ·rename_i h0
           have : l * i.size <= c * i.size := Nat.mul_le_mul_right _ hlc
           simp [h0, show off + l * i.size <= x.cells.length by omega]
         obtain ⟨olds, a1, a2, a3, a4⟩ := zcv (P := P) hsrc2 hs' hS
         refine ⟨olds, ?_, ?_⟩
         ·by_cases h0 : l = 0
          ·subst h0; simpa using a1
          ·simpa [h0] using a1
         ·simpa using a4
        obtain ⟨olds, hvo, hfo⟩ := hold
        have hvall := hvo.append hvn
        have hlen_old : ((x.cells.drop off).take (l * i.size)).length = l * i.size := by
         have : l * i.size <= c * i.size := Nat.mul_le_mul_right _ hlc
         simp; omega
        have hlen_all : ((x.cells.drop off).take (l * i.size) ++ new).length = (l + n) * i.size := by rw [List.length_append, hlen_old, hln, Nat.add_mul]
        split at h
        ·-- no hidden room: a new row
         cases h
         have hc' : c' = c := by
          rcases hcs with ⟨h, _, _⟩ | ⟨_, _, h⟩ | ⟨_, h1, h2⟩
          ·cases h
          ·exact h
          ·omega
         subst hc'
         have hrun := z58 (ty := ty) w hu hux hdx hi hz h0 h1 (some a') l c' hlen (hfo w.drew rfl) (hfirst w.drew rfl) (by omega) h47 hbytes
         obtain ⟨a1, a2, a3⟩ := z99 (H := H) hS (blk := ⟨(x.cells.drop off).take (l * i.size) ++ new, e, i.size, true⟩) (el := e) (l := l + n) (k := grownCap w (l + n) c' e) (z := z.cells) (by simp [hzs]) hvall (z4p ..)
         have hap : (olds ++ new').toArray = olds.toArray ++ new'.toArray := by simp
         rw [hap] at a1 a2
         refine ⟨_, _, _, hrun, ?_, a1, a2⟩
         have := VR.sl (o := 0) (l := l + n) (c := l + n) a3
         rw [show (l + n) + (grownCap w (l + n) c' e - (l + n)) = grownCap w (l + n) c' e by have := z4p w (l + n) c' e; omega] at this
         exact this
        ·-- there may be hidden room
         split at h
         ·rename_i hc3
          simp only [Bool.and_eq_true, decide_eq_true_eq] at hc3
          obtain ⟨⟨hown, hxsz⟩, hok⟩ := hc3
          cases h
          have hget : ((H.set b none).push (some ⟨(x.cells.drop off).take (l * i.size) ++ new, e, i.size, true⟩)).get = upd (upd H.get b none) H.next (some ⟨(x.cells.drop off).take (l * i.size) ++ new, e, i.size, true⟩) := by
           rw [z49, z2u H _ hG]; rfl
          by_cases hr2 : l + n <= c'
          ·-- the row goes on
           have hcx : a' = ⟨cb, co + off, none⟩ /\ c' = c + ex := by
            rcases hcs with ⟨_, h1, h2⟩ | ⟨h, _, _⟩ | ⟨_, h1, h2⟩
            ·exact ⟨h1, h2⟩
            ·cases h
            ·omega
           obtain ⟨rfl, rfl⟩ := hcx
           obtain ⟨arr, el, fr, g1, g2, g3⟩ := hB.lies
           obtain ⟨g6, g4⟩ := g3 hown
           clear g3
           subst g4
           have g5 : co + x.cells.length + ex * i.size <= arr.size := by rw [<- hxsz]; exact g6
           have hlt := AH.lt_of_get hG
           have hlenv := hvn.length
           have hcs1 : c * i.size + ex * i.size = (c + ex) * i.size := by rw [Nat.add_mul]
           have hroom3 : (l + n) * i.size <= (c + ex) * i.size := Nat.mul_le_mul_right _ hr2
           have hln2 : l * i.size + new'.length = (l + n) * i.size := by rw [<- hlenv, hln, Nat.add_mul]
           have hfit : (co + off + l * i.size) + 0 + new'.length <= arr.size := by omega
           have hst := run_storeCells_at P cb (co + off + l * i.size) el new' 0 arr w g1 hfit (hvn.okCells hok)
           simp only [Nat.add_zero] at hst
           have hrun := z4b (ty := ty) w hu hux hdx hi h0 h1 (some ⟨cb, co + off, none⟩) l (c + ex) hlen (hfirst w rfl) hr2
           simp only [z4r, hst, Result.andThen_ok] at hrun
           have hw := setRow_heap w cb arr (arr.toList.take (co + off + l * i.size) ++ new' ++ arr.toList.drop (co + off + l * i.size + new'.length)).toArray el (0, 0) g1
           have hgetc : ∀ j, (arr.toList.take (co + off + l * i.size) ++ new' ++ arr.toList.drop (co + off + l * i.size + new'.length)).toArray[j]? = if co + off + l * i.size <= j /\ j < co + off + l * i.size + new'.length then new'[j - (co + off + l * i.size)]? else arr[j]? := fun j => by
            have := z5b arr.toList (co + off + l * i.size) new' (by simp; omega) j
            simpa [z2v] using this
           have hsub := z7t (y := (cb, co + off, c + ex - (l + n))) (z6c hS)
           obtain ⟨m1, m2⟩ := hS.move (m := H.next + 1) (b' := H.next) (x' := ⟨(x.cells.drop off).take (l * i.size) ++ new, e, i.size, true⟩) (co' := co + off) (ex' := c + ex - (l + n))
            (w1 := w.setRow cb (arr.toList.take (co + off + l * i.size) ++ new' ++ arr.toList.drop (co + off + l * i.size + new'.length)).toArray) hG hown hb (z6c hS) (by omega) (by omega) (by omega) rfl
            ⟨_, el, (0, 0), hw, fun j u hj => by
             simp only at hj
             rw [List.getElem?_append, hlen_old] at hj
             rw [hgetc]
             split at hj
             ·rename_i hjl
              rw [List.getElem?_take, if_pos hjl, List.getElem?_drop] at hj
              obtain ⟨y, b1, b2⟩ := g2 _ u hj
              rw [if_neg (by omega), Nat.add_assoc]
              exact ⟨y, b1, b2.mono hsub⟩
             ·rename_i hjl
              obtain ⟨y, b1, b2⟩ := hvn.get _ u hj
              have hjn : j - l * i.size < new'.length := by
               rcases Nat.lt_or_ge (j - l * i.size) new'.length with h | h
               ·exact h
               ·rw [List.getElem?_eq_none h] at b1; cases b1
              rw [if_pos (by omega), show co + off + j - (co + off + l * i.size) = j - l * i.size by omega]
              exact ⟨y, b1, b2.mono hsub⟩, fun _ => ⟨by
             have hsz2 : (arr.toList.take (co + off + l * i.size) ++ new' ++ arr.toList.drop (co + off + l * i.size + new'.length)).toArray.size = arr.size := by simp; omega
             rw [hsz2]
             simp only [hlen_all]
             have : (l + n) * i.size + (c + ex - (l + n)) * i.size = (c + ex) * i.size := by rw [<- Nat.add_mul]; congr 1; omega
             omega, rfl⟩⟩
            (fun k hk => setRow_other w cb k _ hk) (by simp) (by simp) (by simp) (by simp)
           refine ⟨_, _, _, hrun, ?_, by rw [hget]; exact m1, by rw [hget]; exact m2 _ (Nat.le_refl _)⟩
           have := VR.sl (ι := upd ι H.next (some (cb, co + off, c + ex - (l + n)))) (o := 0) (l := l + n) (c := l + n) (z21 _ _ _)
           rw [show (l + n) + (c + ex - (l + n)) = c + ex by omega] at this
           exact this
          ·-- a new row, the old one is given up
           have hrun := z58 (ty := ty) w hu hux hdx hi hz h0 h1 (some a') l c' hlen (hfo w.drew rfl) (hfirst w.drew rfl) (by omega) h47 hbytes
           obtain ⟨k1, k2⟩ := hS.kill (b := b)
           have k1' : Sim (H.set b none).next ι (H.set b none).get w := by rw [z2u H _ hG]; exact k1
           obtain ⟨a1, a2, a3⟩ := z99 (H := H.set b none) k1' (blk := ⟨(x.cells.drop off).take (l * i.size) ++ new, e, i.size, true⟩) (el := e) (l := l + n) (k := grownCap w (l + n) c' e) (z := z.cells) (by simp [hzs]) hvall (z4p ..)
           have hap : (olds ++ new').toArray = olds.toArray ++ new'.toArray := by simp
           rw [hap] at a1 a2
           have k2' : Evo H.next ι H.get w ι (H.set b none).get w := by rw [z2u H _ hG]; exact k2 _
           refine ⟨_, _, _, hrun, ?_, a1, k2'.trans a2 (Nat.le_refl _)⟩
           have := VR.sl (o := 0) (l := l + n) (c := l + n) a3
           rw [show (l + n) + (grownCap w (l + n) c' e - (l + n)) = grownCap w (l + n) c' e by have := z4p w (l + n) c' e; omega] at this
           exact this
         ·cases h
       ·cases h
    ·cases h
   ·cases h
  ·cases h
 ·cases h
theorem z7k {b off : Nat} {vs vs' : List Value} {H' : AH} (h : z4j H b off vs = some H') (hS : Sim H.next ι H.get w) {cb co ex : Nat} (hb : ι b = some (cb, co, ex)) (hv : VRs ι vs vs') :
  ∃ w1, (storeCells ⟨cb, co + off, none⟩ vs').run P w = .ok () w1 /\ Sim H'.next ι H'.get w1 /\ Evo H.next ι H.get w ι H'.get w1 := by
 unfold z4j at h
 obtain ⟨x, hG, h⟩ := zAc h
 split at h
 ·rename_i hc
  simp only [Bool.and_eq_true, decide_eq_true_eq] at hc
  cases h
  obtain ⟨w1, e1, e2, e3⟩ := zco (P := P) hS hG hc.1.1 hb off hv hc.1.2 hc.2
  exact ⟨w1, e1, by rw [z2u H _ hG]; exact e2, by rw [z2u H _ hG]; exact e3 _⟩
 ·cases h
theorem zgi {ts : Array TypeId} {ty : TypeId} {dv xv dv' xv' v : Value} {H' : AH} (h : zhl P ts dv xv H = some (v, H')) (hd : VR ι dv dv') (hx : VR ι xv xv') (hS : Sim H.next ι H.get w) :
  zcw P H ι w (Builtin.copy_ ts ty #[dv', xv']) v H' := by
 unfold zhl at h
 split at h
 ·rename_i t h0
  split at h
  ·rename_i e hu
   obtain ⟨i, hi, h⟩ := zAc h
   split at h
   ·rename_i b off tg dl dc _
    obtain ⟨cb, co, ex, a', c', hb, rfl, htg, hcs⟩ := hd.sl_inv
    obtain ⟨⟨n, new⟩, hsrc, h⟩ := zAc h
    obtain ⟨new', hvn, hln, hlen, hfirst⟩ := zcv (P := P) hsrc hx hS
    simp only [Option.map_some, Option.getD_some] at hln hfirst
    simp only at h
    split at h
    ·rename_i hnil
     subst hnil
     have hnil' : new' = [] := List.eq_nil_of_length_eq_zero (by rw [<- hvn.length]; rfl)
     split at h
     ·rename_i h0'
      cases h
      have hmin : Nat.min n dl = 0 := by rcases h0' with rfl | rfl <;> simp
      rw [hmin] at hfirst
      refine ⟨ι, .int .i64 0, w, ?_, .scal rfl, hS, Evo.refl _ _ _ _⟩
      have hf := hfirst w rfl
      simp only [Builtin.copy_, h0]
      simp only [List.getElem?_toArray, List.getElem?_cons_zero, List.getElem?_cons_succ, Sem.run_bind, run_underlying hu, Result.andThen_ok, sizeOf, typeInfo, run_program, hi, Sem.run_pure]
      simp [hlen, show n.min dl = 0 from hmin, hf, hnil', storeCells, goInt]
     ·cases h
    ·rename_i hnil
     cases hw : z4j H b off new with
     | none => simp [hw] at h
     | some H2 =>
      simp [hw] at h
      obtain ⟨rfl, rfl⟩ := h
      have hpos : new.length ≠ 0 := fun e => hnil (List.eq_nil_of_length_eq_zero e)
      have ho : a' = ⟨cb, co + off, none⟩ := by
       rcases hcs with ⟨_, h, _⟩ | ⟨_, h, _⟩ | ⟨h, _, _⟩
       ·exact h
       ·exact h
       ·exfalso; apply hpos; rw [hln, h]; simp
      subst ho
      obtain ⟨w1, e1, e2, e3⟩ := z7k (P := P) hw hS hb hvn
      refine ⟨ι, .int .i64 (Nat.min n dl : Nat), w1, ?_, .scal rfl, e2, e3⟩
      have hf := hfirst w rfl
      simp only [Builtin.copy_, h0]
      simp only [List.getElem?_toArray, List.getElem?_cons_zero, List.getElem?_cons_succ, Sem.run_bind, run_underlying hu, Result.andThen_ok, sizeOf, typeInfo, run_program, hi, Sem.run_pure]
      simp [hlen, hf, e1, goInt]
   ·cases h
  ·cases h
 ·cases h
theorem zet {ts : Array TypeId} {ty : TypeId} {xv xv' v : Value} {H' : AH} (h : zer P ts xv H = some (v, H')) (hx : VR ι xv xv') (hS : Sim H.next ι H.get w) :
  zcw P H ι w (Builtin.clear_ ts ty #[xv']) v H' := by
 unfold zer at h
 split at h
 ·rename_i t h0
  split at h
  ·rename_i l c d hu
   cases h
   have := hx.scalar_eq rfl; subst this
   exact ⟨ι, .tuple #[], w, by simp [Builtin.clear_, h0, run_underlying hu], .tup .nil, hS, Evo.refl _ _ _ _⟩
  ·rename_i q c d hu
   cases h
   obtain ⟨a', c', rfl⟩ := hx.sl_some
   exact ⟨ι, .tuple #[], w, by simp [Builtin.clear_, h0, run_underlying hu], .tup .nil, hS, Evo.refl _ _ _ _⟩
  ·rename_i b off tg n c e hn hu
   obtain ⟨cb, co, ex, a', c', hb, rfl, htg, hcs⟩ := hx.sl_inv
   obtain ⟨i, hi, h⟩ := zAc h
   obtain ⟨z, hz, h⟩ := zAc h
   split at h
   ·rename_i hc
    simp only [Bool.and_eq_true, bne_iff_ne] at hc
    cases hw : z4j H b off (z3l z.cells (n * z.cells.size)) with
    | none => simp [hw] at h
    | some H2 =>
     simp [hw] at h
     obtain ⟨rfl, rfl⟩ := h
     have hn0 : n ≠ 0 := fun e => by subst e; exact hn rfl
     have ho : a' = ⟨cb, co + off, none⟩ := by
      rcases hcs with ⟨_, h, _⟩ | ⟨_, h, _⟩ | ⟨h, _, _⟩
      ·exact h
      ·exact h
      ·exact absurd h hn0
     subst ho
     obtain ⟨w1, e1, e2, e3⟩ := z7k (P := P) hw hS hb (VRs.of_scalar (z5v hc.1 hc.2 _))
     refine ⟨ι, .tuple #[], w1, ?_, .tup .nil, e2, e3⟩
     obtain ⟨m, rfl⟩ : ∃ m, n = m + 1 := ⟨n - 1, by omega⟩
     have hzc : (Builtin.zeroCells z.cells (m + 1)).toList = z3l z.cells ((m + 1) * z.cells.size) := by
      have := z97 z.cells ((m + 1) * z.cells.size) hc.2
      unfold Builtin.zeroCells
      rw [this]
     simp only [Builtin.clear_, h0]
     simp [run_underlying hu, zeroValue, typeInfo, hi, hz, hzc, e1]
   ·cases h
  ·cases h
 ·cases h
theorem zbb {v : Value} {H' : AH} (h : z8d P s o H = some (v, H')) (hor : OR ι s a o) (hS : Sim H.next ι H.get w) :
  ∃ ι' v' w', ((execOp a.eval o).run P w = .ok (.value v') w' \/ ((execOp a.eval o).run P w = .ok .skip w' /\ v' = undef)) /\ VR ι' v v' /\ Sim H'.next ι' H'.get w' /\ Evo H.next ι H.get w ι' H'.get w' := by
 unfold z8d at h
 split at h
 ·rename_i t x y ho
  obtain ⟨p, hp, h⟩ := zAc h
  obtain ⟨u, hu, h⟩ := zAc h
  obtain ⟨i, hi, h⟩ := zAc h
  split at h
  ·rename_i b off _ _
   obtain ⟨cb, co, ex, hb, he⟩ := (hor x (by simp [ho, Op.operands]) _ hp).ptr_inv
   have hv := (hor y (by simp [ho, Op.operands]) _ hu).cells
   split at h
   ·rename_i hsz
    cases hw : z4j H b off u.cells.toList with
    | none => simp [hw] at h
    | some H2 =>
     simp [hw] at h
     obtain ⟨rfl, rfl⟩ := h
     obtain ⟨w1, e1, e2, e3⟩ := z7k (P := P) hw hS hb hv
     have hsz' : (a.eval y).cells.size = i.size := by have := hv.length; simp at this; omega
     refine ⟨ι, undef, w1, .inr ⟨?_, rfl⟩, VR.undef ι, e2, e3⟩
     simp [execOp, ho, Instr.storeAt, he, Instr.sureAddr, storeVar, sizeOf, typeInfo, hi, hsz', e1]
   ·cases h
  ·cases h
 ·rename_i c ho
  have hca : ∀ x ∈ c.args.toList, ∀ v, opnd s x = some v -> VR ι v (a.eval x) := fun x hx v hv => hor x (by simp [ho, Op.operands, Call.operands]; exact .inr (by simpa using hx)) v hv
  split at h
  ·rename_i hc
   split at h
   ·rename_i x y hxy
    obtain ⟨u, hu, h⟩ := zAc h
    obtain ⟨k, hk, h⟩ := zAc h
    have hargs : c.args = #[x, y] := by apply Array.ext'; simpa using hxy
    obtain ⟨ι', v', w', e1, e2, e3, e4⟩ := zcx (ty := o.type) h (hca x (by rw [hxy]; simp) u hu) (hca y (by rw [hxy]; simp) k hk) hS
    exact ⟨ι', v', w', .inl (by simp [execOp, ho, resolve, hc, hargs, invoke, builtin, e1]), e2, e3, e4⟩
   ·cases h
  ·rename_i hc
   split at h
   ·rename_i x y hxy
    obtain ⟨u, hu, h⟩ := zAc h
    obtain ⟨k, hk, h⟩ := zAc h
    have hargs : c.args = #[x, y] := by apply Array.ext'; simpa using hxy
    obtain ⟨ι', v', w', e1, e2, e3, e4⟩ := zgi (ty := o.type) h (hca x (by rw [hxy]; simp) u hu) (hca y (by rw [hxy]; simp) k hk) hS
    exact ⟨ι', v', w', .inl (by simp [execOp, ho, resolve, hc, hargs, invoke, builtin, e1]), e2, e3, e4⟩
   ·cases h
  ·rename_i hc
   split at h
   ·rename_i x hxy
    obtain ⟨u, hu, h⟩ := zAc h
    have hargs : c.args = #[x] := by apply Array.ext'; simpa using hxy
    obtain ⟨ι', v', w', e1, e2, e3, e4⟩ := zet (ty := o.type) h (hca x (by rw [hxy]; simp) u hu) hS
    exact ⟨ι', v', w', .inl (by simp [execOp, ho, resolve, hc, hargs, invoke, builtin, e1]), e2, e3, e4⟩
   ·cases h
  ·cases h
 ·cases h
end
end Go.Am
/- Steps, calls and code: what the abstract machine does, the machine does. -/
namespace Go.Am
open Go
noncomputable section
def z9w (P : Program) (s : List Value) (o : Oper) (H : AH) : Option (Value × AH) :=
 match z2y P s o with
 | some v => some (v, H)
 | none => match z5t P s o H.get with
  | some v => some (v, H)
  | none => match z3t P s o with
   | some (blk, k) => some (k.val H.next, H.push (some blk))
   | none => z8d P s o H
def Nx (H H' : AH) : Prop := H.next <= H'.next /\ ∀ b, b < H.next -> H.get b = none -> H'.get b = none
theorem Nx.refl (H : AH) : Nx H H := ⟨Nat.le_refl _, fun _ _ h => h⟩
theorem Nx.trans {H H1 H2 : AH} (h : Nx H H1) (k : Nx H1 H2) : Nx H H2 := ⟨Nat.le_trans h.1 k.1, fun b hb hn => k.2 b (Nat.lt_of_lt_of_le hb h.1) (h.2 b hb hn)⟩
theorem Nx.push (H : AH) (x : Option ABlk) : Nx H (H.push x) := ⟨by simp, fun b hb hn => by rw [AH.get_push_old _ _ hb]; exact hn⟩
theorem Nx.set {H : AH} {b : Nat} {y : ABlk} (x : Option ABlk) (hb : H.get b = some y) : Nx H (H.set b x) := ⟨by simp, fun c _ hn => by
 rw [AH.get_set x hb]
 by_cases e : c = b
 ·subst e; rw [hn] at hb; cases hb
 ·rw [if_neg e]; exact hn⟩
structure StepOk (P : Program) (o : Oper) (s : List Value) (H : AH) (v : Value) (H' : AH) : Prop where
 next : Nx H H'
 run : ∀ ι a w, Sim H.next ι H.get w -> OR ι s a o -> ∀ (nx : Act -> World -> Prop) (Q : Exit -> Act -> World -> Prop),
  (∀ ι' v' w', VR ι' v v' -> Sim H'.next ι' H'.get w' -> Evo H.next ι H.get w ι' H'.get w' -> nx (a.put o.dst v') w') -> o.wp P a w nx Q
structure ACalls (P : Program) (f : FuncId) (args : List Value) (H : AH) (v : Value) (H' : AH) : Prop where
 next : Nx H H'
 run : ∀ ι w cargs, Sim H.next ι H.get w -> VRs ι args cargs.toList ->
  Calls P f cargs w (fun e w' => ∃ ι' v', e = .returned v' /\ VR ι' v v' /\ Sim H'.next ι' H'.get w' /\ Evo H.next ι H.get w ι' H'.get w')
structure ARun (P : Program) (c : Code) (s : List Value) (H : AH) (ex : Exit) (s' : List Value) (H' : AH) : Prop where
 next : Nx H H'
 run : ∀ ι a w, Sim H.next ι H.get w -> SR ι s a ->
  c.wp P (fun e a' w' => e = ex /\ ∃ ι', SR ι' s' a' /\ Sim H'.next ι' H'.get w' /\ Evo H.next ι H.get w ι' H'.get w') a w
section
variable {P : Program} {s s1 s' : List Value} {H H1 H' : AH} {o : Oper}
theorem zan {ts : Array TypeId} {sv xv v : Value} (h : z4c P ts sv xv H = some (v, H')) : Nx H H' := by
 unfold z4c at h
 split at h
 ·split at h
  ·obtain ⟨i, hi, h⟩ := zAc h
   obtain ⟨z, hz, h⟩ := zAc h
   split at h
   ·obtain ⟨⟨n, new⟩, hsrc, h⟩ := zAc h
    simp only at h
    split at h
    ·split at h
     ·cases h; exact Nx.refl _
     ·split at h
      ·cases h; exact Nx.push _ _
      ·cases h
    ·split at h
     ·cases h; exact Nx.refl _
     ·obtain ⟨x, hG, h⟩ := zAc h
      split at h
      ·split at h
       ·cases h; exact Nx.set _ hG
       ·cases h
      ·split at h
       ·split at h
        ·cases h; exact Nx.push _ _
        ·split at h
         ·cases h; exact (Nx.set _ hG).trans (Nx.push _ _)
         ·cases h
       ·cases h
    ·cases h
   ·cases h
  ·cases h
 ·cases h
theorem z7l {b off : Nat} {vs : List Value} (h : z4j H b off vs = some H') : Nx H H' := by
 unfold z4j at h
 obtain ⟨x, hG, h⟩ := zAc h
 split at h
 ·cases h; exact Nx.set _ hG
 ·cases h
theorem z8u {v : Value} (h : z8d P s o H = some (v, H')) : Nx H H' := by
 unfold z8d at h
 split at h
 ·obtain ⟨p, hp, h⟩ := zAc h
  obtain ⟨u, hu, h⟩ := zAc h
  obtain ⟨i, hi, h⟩ := zAc h
  split at h
  ·split at h
   ·obtain ⟨H2, h1, h2⟩ := Option.map_eq_some_iff.1 h
    cases h2; exact z7l h1
   ·cases h
  ·cases h
 ·split at h
  ·split at h
   ·obtain ⟨u, hu, h⟩ := zAc h
    obtain ⟨k, hk, h⟩ := zAc h
    exact zan h
   ·cases h
  ·split at h
   ·obtain ⟨u, hu, h⟩ := zAc h
    obtain ⟨k, hk, h⟩ := zAc h
    unfold zhl at h
    split at h
    ·split at h
     ·obtain ⟨i, hi, h⟩ := zAc h
      split at h
      ·obtain ⟨⟨n, new⟩, hsrc, h⟩ := zAc h
       simp only at h
       split at h
       ·split at h
        ·cases h; exact Nx.refl _
        ·cases h
       ·obtain ⟨H2, h1, h2⟩ := Option.map_eq_some_iff.1 h
        cases h2; exact z7l h1
      ·cases h
     ·cases h
    ·cases h
   ·cases h
  ·split at h
   ·obtain ⟨u, hu, h⟩ := zAc h
    unfold zer at h
    split at h
    ·split at h
     ·cases h; exact Nx.refl _
     ·cases h; exact Nx.refl _
     ·obtain ⟨i, hi, h⟩ := zAc h
      obtain ⟨z, hz, h⟩ := zAc h
      split at h
      ·obtain ⟨H2, h1, h2⟩ := Option.map_eq_some_iff.1 h
       cases h2; exact z7l h1
      ·cases h
     ·cases h
    ·cases h
   ·cases h
  ·cases h
 ·cases h
theorem z4y {a : Act} {w w' : World} {v' : Value} {nx : Act -> World -> Prop} {Q : Exit -> Act -> World -> Prop}
  (h : (execOp a.eval o).run P w = .ok (.value v') w' \/ ((execOp a.eval o).run P w = .ok .skip w' /\ v' = undef)) (hn : nx (a.put o.dst v') w') : o.wp P a w nx Q := by
 unfold Oper.wp
 rcases h with h | ⟨h, rfl⟩
 ·rw [h]; exact hn
 ·rw [h]; exact hn
theorem z3m {v : Value} (h : z9w P s o H = some (v, H')) : StepOk P o s H v H' := by
 unfold z9w at h
 split at h
 ·rename_i u hu
  cases h
  refine ⟨Nx.refl _, fun ι a w hS hor nx Q hn => ?_⟩
  obtain ⟨v', e1, e2⟩ := zcs hu hor w
  exact z4y (.inl e1) (hn ι v' w e2 hS (Evo.refl _ _ _ _))
 ·split at h
  ·rename_i u hu
   cases h
   refine ⟨Nx.refl _, fun ι a w hS hor nx Q hn => ?_⟩
   obtain ⟨v', e1, e2⟩ := zcu hu hS hor
   exact z4y (.inl e1) (hn ι v' w e2 hS (Evo.refl _ _ _ _))
  ·split at h
   ·rename_i blk k hk
    cases h
    refine ⟨Nx.push _ _, fun ι a w hS hor nx Q hn => ?_⟩
    obtain ⟨ex, v', w', e1, e2, e3, e4⟩ := zba (m := H.next + 1) (b := H.next) hk hS hor (z6c hS) (by omega) (by omega)
    rw [<- z49] at e3
    refine z4y (.inl e1) (hn _ v' w' e2 e3 ?_)
    have := e4 H.next (Nat.le_refl _)
    rw [<- z49] at this
    exact this
   ·refine ⟨z8u h, fun ι a w hS hor nx Q hn => ?_⟩
    obtain ⟨ι', v', w', e1, e2, e3, e4⟩ := zbb h hor hS
    exact z4y e1 (hn ι' v' w' e2 e3 e4)
def z8e (P : Program) (s : List Value) (o : Oper) : Option (FuncId × List Value) :=
 match o.op with
 | .call c => match c.callee with
  | .value f => match opnd s f with
   | some (.func (.func g) first captured) => match P.funcs[g]? with
    | some fn => if fn.name == "runtime.NumGoroutine" || fn.body.isNone then none else (zb7 s c.args.toList).map fun l => (g, first.toList ++ l ++ captured.toList)
    | none => none
   | _ => none
  | _ => none
 | _ => none
theorem z8f {f : FuncId} {args : List Value} {v : Value} (h : z8e P s o = some (f, args)) (hc : ACalls P f args H v H') : StepOk P o s H v H' := by
 refine ⟨hc.next, fun ι a w hS hor nx Q hn => ?_⟩
 unfold z8e at h
 split at h
 ·rename_i c ho
  split at h
  ·rename_i fo hfo
   split at h
   ·rename_i g first captured hq
    split at h
    ·rename_i fn hfn
     split at h
     ·cases h
     ·rename_i hcond
      simp only [Bool.or_eq_true, not_or, Bool.not_eq_true] at hcond
      obtain ⟨l, hl, h2⟩ := Option.map_eq_some_iff.1 h
      cases h2
      have hf := hor fo (by simp [ho, Op.operands, Call.operands, hfo]) _ hq
      have hargs := z96 (a := a) (ι := ι) hl fun x hx => hor x (by simp [ho, Op.operands, Call.operands]; exact .inr (by simpa using hx))
      cases hev : a.eval fo with
      | func g' first' captured' =>
       rw [hev] at hf
       cases hf with
       | scal hs => simp [z1m] at hs
       | fn h1 h2 =>
        rename_i xs ys us vs
        have hcall := hc.run ι w ((⟨ys⟩ ++ c.args.map a.eval : Array Value) ++ ⟨vs⟩) hS (by simpa using (h1.append hargs).append h2)
        have hrun : (execOp a.eval o).run P w = .ok (.enter f ((⟨ys⟩ ++ c.args.map a.eval : Array Value) ++ ⟨vs⟩)) w := by
         have h1' : ¬ fn.name = "runtime.NumGoroutine" := by simpa using hcond.1
         have h2' : ¬ fn.body = none := fun e => by rw [e] at hcond; simp at hcond
         simp [execOp, ho, resolve, hfo, hev, Deferred.ofValue, invoke, callFunc, hfn, h1', h2']
        unfold Oper.wp
        rw [hrun]
        refine hcall.mono ?_
        rintro e w' ⟨ι', v', rfl, e2, e3, e4⟩
        exact hn ι' v' w' e2 e3 e4
      | _ => rw [hev] at hf; cases hf
    ·cases h
   ·cases h
  ·cases h
 ·cases h
def z39 (ops : Array Oper) (s : List Value) (j : Nat) : Option Bool :=
 match ((ops[j]?).bind (·.dst)).bind (s[·]?) with
 | some (.bool b) => some b
 | _ => none
theorem VR.bool_iff {ι : Ren} {v v' : Value} (h : VR ι v v') (b : Bool) : v = .bool b ↔ v' = .bool b := by
 constructor
 ·rintro rfl; exact h.scalar_eq rfl
 ·rintro rfl; cases h; rfl
theorem SR.get {ι : Ren} {s : List Value} {a : Act} (h : SR ι s a) (d : Nat) : (s[d]? = none /\ a.tmps[d]? = none) \/ ∃ v v', s[d]? = some v /\ a.tmps[d]? = some v' /\ VR ι v v' := by
 have hv := h.val d
 rcases Nat.lt_or_ge d s.length with hl | hl
 ·have hl' : d < a.tmps.size := by rw [h.size]; exact hl
  refine .inr ⟨s[d], a.tmps[d], zAh hl, Array.getElem?_eq_getElem hl', ?_⟩
  simpa [zAb, hl, Array.getD_eq_getD_getElem?, hl'] using hv
 ·exact .inl ⟨List.getElem?_eq_none hl, Array.getElem?_eq_none (by rw [h.size]; exact hl)⟩
theorem zeu {ι : Ren} {a : Act} {ops : Array Oper} (h : SR ι s a) (j : Nat) : yielded ops a.tmps j = z39 ops s j := by
 unfold yielded z39
 cases hd : (ops[j]?).bind (·.dst) with
 | none => simp
 | some d =>
  simp only [Option.bind_some]
  rcases h.get d with ⟨h1, h2⟩ | ⟨v, v', h1, h2, hv⟩
  ·rw [h1, h2]
  ·rw [h1, h2]
   cases v with
   | bool b => rw [(hv.bool_iff b).1 rfl]
   | _ => cases v' with
    | bool b => have := (hv.bool_iff b).2 rfl; cases this
    | _ => rfl
theorem z9a {ι : Ren} {a : Act} {ops : Array Oper} (h : SR ι s a) (o : Oper) : Region.wanted o (yielded ops a.tmps) = Region.wanted o (z39 ops s) := by
 unfold Region.wanted
 split
 ·rfl
 ·rw [zeu h]
inductive AOps (P : Program) (ops : Array Oper) : List Oper -> List Value -> AH -> List Value -> AH -> Prop
 | nil {s : List Value} {H : AH} : AOps P ops [] s H s H
 | skip {o : Oper} {rest : List Oper} {s s' : List Value} {H H' : AH} : Region.wanted o (z39 ops s) = false -> AOps P ops rest (putd s o.dst undef) H s' H' -> AOps P ops (o :: rest) s H s' H'
 | step {o : Oper} {rest : List Oper} {s s' : List Value} {H H1 H' : AH} {v : Value} : Region.wanted o (z39 ops s) = true -> StepOk P o s H v H1 -> AOps P ops rest (putd s o.dst v) H1 s' H' -> AOps P ops (o :: rest) s H s' H'
theorem AOps.next {ops : Array Oper} {l : List Oper} (h : AOps P ops l s H s' H') : Nx H H' := by
 induction h with
 | nil => exact Nx.refl _
 | skip _ _ ih => exact ih
 | step _ hs _ ih => exact hs.next.trans ih
theorem AOps.wp {ops : Array Oper} {l : List Oper} (h : AOps P ops l s H s' H') : ∀ (ι : Ren) (a : Act) (w : World), Sim H.next ι H.get w -> SR ι s a -> ∀ (Q : Exit -> Act -> World -> Prop),
  (∀ ι' a' w', SR ι' s' a' -> Sim H'.next ι' H'.get w' -> Evo H.next ι H.get w ι' H'.get w' -> Q .normal a' w') -> wpList P ops Q l a w := by
 induction h with
 | nil => exact fun ι a w hS hs Q hQ => hQ ι a w hs hS (Evo.refl _ _ _ _)
 | skip hw _ ih =>
  intro ι a w hS hs Q hQ
  rw [wpList, z9a hs, hw, if_neg (by simp)]
  exact ih ι _ w hS (hs.put _ (VR.undef ι)) Q hQ
 | step hw hst hr ih =>
  intro ι a w hS hs Q hQ
  rw [wpList, z9a hs, hw, if_pos rfl]
  refine .inl (hst.run ι a w hS (hs.or _) _ _ fun ι' v' w' hv hS' hE => ?_)
  exact ih ι' _ w' hS' ((hs.mono hE.sub).put _ hv) Q fun ι2 a2 w2 h1 h2 h3 => hQ ι2 a2 w2 h1 h2 (hE.trans h3 hst.next.1)
theorem ARun.region {id : Nat} {ops : Array Oper} (h : AOps P ops ops.toList s H s' H') : ARun P (.region id ops false) s H .normal s' H' :=
 ⟨h.next, fun ι a w hS hs => wp_region_list (h.wp ι a w hS hs _ fun ι' a' w' h1 h2 h3 => ⟨rfl, ι', h1, h2, h3⟩)⟩
theorem ARun.skip : ARun P .skip s H .normal s H := ⟨Nx.refl _, fun ι a w hS hs => wp_skip ⟨rfl, ι, hs, hS, Evo.refl _ _ _ _⟩⟩
theorem ARun.label {l : Nat} : ARun P (.label l) s H .normal s H := ⟨Nx.refl _, fun ι a w hS hs => wp_label ⟨rfl, ι, hs, hS, Evo.refl _ _ _ _⟩⟩
theorem ARun.exit {id : Nat} : ARun P (.exit id) s H (.exit id) s H := ⟨Nx.refl _, fun ι a w hS hs => wp_exit ⟨rfl, ι, hs, hS, Evo.refl _ _ _ _⟩⟩
theorem ARun.ret : ARun P .ret s H .ret s H := ⟨Nx.refl _, fun ι a w hS hs => wp_ret ⟨rfl, ι, hs, hS, Evo.refl _ _ _ _⟩⟩
theorem ARun.seq {x y : Code} {ex : Exit} (h1 : ARun P x s H .normal s1 H1) (h2 : ARun P y s1 H1 ex s' H') : ARun P (.seq x y) s H ex s' H' :=
 ⟨h1.next.trans h2.next, fun ι a w hS hs => wp_seq (wp_mono (h1.run ι a w hS hs) fun e a1 w1 ⟨he, ι1, g1, g2, g3⟩ => by
  subst he
  exact wp_mono (h2.run ι1 a1 w1 g2 g1) fun e a2 w2 ⟨he, ι2, k1, k2, k3⟩ => ⟨he, ι2, k1, k2, g3.trans k3 h1.next.1⟩)⟩
theorem ARun.seq_out {x y : Code} {ex : Exit} (h1 : ARun P x s H ex s' H') (he : ex ≠ .normal) : ARun P (.seq x y) s H ex s' H' :=
 ⟨h1.next, fun ι a w hS hs => wp_seq (wp_mono (h1.run ι a w hS hs) fun e a1 w1 ⟨hx, g⟩ => by
  subst hx
  cases e <;> first | exact absurd rfl he | exact ⟨rfl, g⟩)⟩
theorem ARun.cond {c : Operand} {x y : Code} {ex : Exit} {b : Bool} (hc : opnd s c = some (.bool b)) (h : ARun P (if b then x else y) s H ex s' H') : ARun P (.cond c x y) s H ex s' H' :=
 ⟨h.next, fun ι a w hS hs => wp_cond ((hs.opnd hc).scalar_eq rfl) (h.run ι a w hS hs)⟩
theorem ARun.block {id : Nat} {c : Code} {ex : Exit} (h : ARun P c s H ex s' H') (he : ex ≠ .exit id) : ARun P (.block id c) s H ex s' H' :=
 ⟨h.next, fun ι a w hS hs => wp_block (wp_mono (h.run ι a w hS hs) fun e a1 w1 ⟨hx, g⟩ => by
  subst hx
  cases e <;> first | exact ⟨rfl, g⟩ | (rename_i k; simp only [Exit.inBlock]; rw [if_neg (fun e => he (by rw [e]))]; exact ⟨trivial, g⟩))⟩
theorem ARun.block_exit {id : Nat} {c : Code} (h : ARun P c s H (.exit id) s' H') : ARun P (.block id c) s H .normal s' H' :=
 ⟨h.next, fun ι a w hS hs => wp_block (wp_mono (h.run ι a w hS hs) fun e a1 w1 ⟨hx, g⟩ => by
  subst hx
  simp only [Exit.inBlock, if_true]
  exact ⟨trivial, g⟩)⟩
inductive ALoop (P : Program) (c : Code) : List Value -> AH -> Exit -> List Value -> AH -> Prop
 | again {s s1 s' : List Value} {H H1 H' : AH} {ex : Exit} : ARun P c s H .normal s1 H1 -> ALoop P c s1 H1 ex s' H' -> ALoop P c s H ex s' H'
 | out {s s' : List Value} {H H' : AH} {ex : Exit} : ARun P c s H ex s' H' -> ex ≠ .normal -> ALoop P c s H ex s' H'
theorem ALoop.next {c : Code} {ex : Exit} (h : ALoop P c s H ex s' H') : Nx H H' := by
 induction h with
 | again h1 _ ih => exact h1.next.trans ih
 | out h1 _ => exact h1.next
theorem ALoop.rounds {c : Code} {ex : Exit} (h : ALoop P c s H ex s' H') : ∃ n, ∀ (ι : Ren) (a : Act) (w : World), Sim H.next ι H.get w -> SR ι s a ->
  ∀ Q : Exit -> Act -> World -> Prop, (∀ ι' a' w', SR ι' s' a' -> Sim H'.next ι' H'.get w' -> Evo H.next ι H.get w ι' H'.get w' -> Q ex a' w') -> Code.rounds P c Q n a w := by
 induction h with
 | again h1 _ ih =>
  obtain ⟨n, hn⟩ := ih
  refine ⟨n + 1, fun ι a w hS hs Q hQ => ?_⟩
  rw [rounds_succ]
  refine wp_mono (h1.run ι a w hS hs) fun e a1 w1 ⟨he, ι1, g1, g2, g3⟩ => ?_
  subst he
  exact hn ι1 a1 w1 g2 g1 Q fun ι2 a2 w2 k1 k2 k3 => hQ ι2 a2 w2 k1 k2 (g3.trans k3 h1.next.1)
 | out h1 he =>
  refine ⟨1, fun ι a w hS hs Q hQ => ?_⟩
  rw [rounds_succ]
  refine wp_mono (h1.run ι a w hS hs) fun e a1 w1 ⟨hx, ι1, g1, g2, g3⟩ => ?_
  subst hx
  have hq := hQ ι1 a1 w1 g1 g2 g3
  cases e <;> first | exact absurd rfl he | exact hq
theorem ARun.loop {c : Code} {ex : Exit} (h : ALoop P c s H ex s' H') : ARun P (.loop c) s H ex s' H' :=
 ⟨h.next, fun ι a w hS hs => by
  obtain ⟨n, hn⟩ := h.rounds
  exact wp_loop_rounds n (hn ι a w hS hs _ fun ι' a' w' g1 g2 g3 => ⟨rfl, ι', g1, g2, g3⟩)⟩
def z8v (P : Program) (s : List Value) (H : AH) : ResultVar -> Option Value
 | .tmp t => some (s.getD t undef)
 | .cell a t => match s.getD a undef with
  | .pointer (some p) => zeq P t (.pointer (some p)) H.get
  | _ => none
def z5w (P : Program) (s : List Value) (H : AH) : List ResultVar -> Option (List Value)
 | [] => some []
 | r :: rs => (z8v P s H r).bind fun v => (z5w P s H rs).map (v :: ·)
def aret (P : Program) (fn : Func) (s : List Value) (H : AH) : Option Value :=
 (z5w P s H fn.results.toList).map fun
  | [v] => v
  | vs => .tuple ⟨vs⟩
theorem zcy {ι : Ren} {a : Act} {w : World} {n : Nat} (hS : Sim n ι H.get w) (hs : SR ι s a) {r : ResultVar} {v : Value} (h : z8v P s H r = some v) :
  ∃ v', ((match r with | .tmp t => pure (a.tmps.getD t undef) | .cell b t => do loadVar t (<- asAddr (a.tmps.getD b undef)) : Sem Value)).run P w = .ok v' w /\ VR ι v v' := by
 cases r with
 | tmp t => simp only [z8v] at h; cases h; exact ⟨_, rfl, hs.val t⟩
 | cell b t =>
  simp only [z8v] at h
  split at h
  ·rename_i p hp
   have hv := hs.val b
   rw [hp] at hv
   obtain ⟨bb, off, tg⟩ := p
   have hq := h
   unfold zeq at hq
   split at hq
   ·rename_i b' off' heq
    cases heq
    obtain ⟨cb, co, ex, hb, he⟩ := hv.ptr_inv
    obtain ⟨r', e1, e2⟩ := zct h (VR.ptr hb) hS
    refine ⟨r', ?_, e2⟩
    simp only [he]
    simpa [Instr.loadAt, Instr.sureAddr, asAddr] using e1
   ·cases hq
  ·cases h
theorem z8w {ι : Ren} {a : Act} {w : World} {n : Nat} (hS : Sim n ι H.get w) (hs : SR ι s a) : ∀ {rs : List ResultVar} {l : List Value}, z5w P s H rs = some l ->
  ∃ l', (rs.mapM fun | .tmp t => pure (a.tmps.getD t undef) | .cell b t => do loadVar t (<- asAddr (a.tmps.getD b undef)) : Sem (List Value)).run P w = .ok l' w /\ VRs ι l l'
 | [], l, h => by simp only [z5w] at h; cases h; exact ⟨[], by simp, .nil⟩
 | r :: rs, l, h => by
  simp only [z5w] at h
  obtain ⟨v, hv, h⟩ := zAc h
  obtain ⟨m, hm, h⟩ := Option.map_eq_some_iff.1 h
  subst h
  obtain ⟨v', e1, e2⟩ := zcy hS hs hv
  obtain ⟨m', e3, e4⟩ := z8w hS hs hm
  refine ⟨v' :: m', ?_, .cons e2 e4⟩
  rw [List.mapM_cons, Sem.run_bind, e1]
  simp only [Result.andThen_ok, Sem.run_bind, e3, Sem.run_pure]
theorem zhw {ι : Ren} {a : Act} {w : World} {n : Nat} {fn : Func} {v : Value} (hS : Sim n ι H.get w) (hs : SR ι s a) (h : aret P fn s H = some v) : ∃ v', (results fn a.tmps).run P w = .ok v' w /\ VR ι v v' := by
 unfold aret at h
 obtain ⟨l, hl, h⟩ := Option.map_eq_some_iff.1 h
 obtain ⟨l', e1, e2⟩ := z8w hS hs hl
 have hrun : (results fn a.tmps).run P w = .ok (if h : l'.toArray.size = 1 then l'.toArray[0] else .tuple l'.toArray) w := by
  unfold results
  rw [Array.mapM_eq_mapM_toList]
  simp only [Sem.run_bind, Sem.run_map]
  erw [e1]
  simp only [Result.andThen_ok, Sem.run_pure]
 refine ⟨_, hrun, ?_⟩
 subst h
 cases e2 with
 | nil => exact .tup .nil
 | cons hv hr =>
  cases hr with
  | nil => exact hv
  | cons hv2 hr2 => exact .tup (.cons hv (.cons hv2 hr2))
theorem ACalls.of_run {f : FuncId} {fn : Func} {c : Code} {args : List Value} {v : Value} {ex : Exit} (hf : P.funcs[f]? = some fn) (hb : fn.body = some c) (hex : ex = .normal \/ ex = .ret)
  (h : ARun P c (args ++ List.replicate (fn.ntmps - args.length) undef) H ex s' H') (hr : aret P fn s' H' = some v) : ACalls P f args H v H' := by
 refine ⟨h.next, fun ι w cargs hS hv => calls_of_wp hf hb ?_⟩
 have hlen : cargs.size = args.length := by simpa using hv.length.symm
 have hs : SR ι (args ++ List.replicate (fn.ntmps - args.length) undef) { tmps := cargs ++ Array.replicate (fn.ntmps - cargs.size) undef, defers := [] } := by
  have hall : VRs ι (args ++ List.replicate (fn.ntmps - args.length) undef) (cargs ++ Array.replicate (fn.ntmps - cargs.size) undef).toList := by
   rw [Array.toList_append, Array.toList_replicate, hlen]
   refine hv.append ?_
   generalize fn.ntmps - args.length = k
   induction k with
   | zero => exact .nil
   | succ k ih => rw [List.replicate_succ]; exact .cons (VR.undef ι) ih
  refine ⟨by simp [hlen], fun t => ?_, rfl⟩
  have := hall.getD t
  rw [Array.getD_eq_getD_getElem?, <- Array.getElem?_toList, <- zAb]
  exact this
 refine wp_mono (h.run ι _ w hS hs) fun e a1 w1 ⟨he, ι1, g1, g2, g3⟩ => ?_
 obtain ⟨v', e1, e2⟩ := zhw g2 g1 hr
 subst he
 rcases hex with rfl | rfl
 ·exact ⟨g1.defers, v', e1, ι1, v', rfl, e2, g2, g3⟩
 ·exact ⟨g1.defers, v', e1, ι1, v', rfl, e2, g2, g3⟩
end
end
end Go.Am
/- A region whose order is open: one run in the text's order tells what every order comes to. -/
namespace Go.Am
open Go
noncomputable section
inductive Kd where
 | skip | pure | read | loud
 | alloc (blk : ABlk)
structure Tr where
 ss : Nat -> List Value
 HH : Nat -> AH
 vv : Nat -> Value
 kd : Nat -> Kd
structure DrawOk (P : Program) (ops : Array Oper) (s0 : List Value) (H0 : AH) (T : Tr) (B : Nat -> Nat -> Bool) : Prop where
 s_0 : T.ss 0 = s0
 h_0 : ∀ b, (T.HH 0).get b = H0.get b
 next0 : (T.HH 0).next = H0.next + ops.size
 put : ∀ i o, ops[i]? = some o -> T.ss (i + 1) = putd (T.ss i) o.dst (T.vv i)
 step : ∀ i o, ops[i]? = some o -> match T.kd i with
  | .skip => Region.wanted o (z39 ops (T.ss i)) = false /\ T.vv i = undef /\ T.HH (i + 1) = T.HH i
  | .pure => Region.wanted o (z39 ops (T.ss i)) = true /\ z2y P (T.ss i) o = some (T.vv i) /\ T.HH (i + 1) = T.HH i
  | .read => Region.wanted o (z39 ops (T.ss i)) = true /\ z5t P (T.ss i) o (T.HH i).get = some (T.vv i) /\ T.HH (i + 1) = T.HH i
  | .alloc blk => Region.wanted o (z39 ops (T.ss i)) = true /\ (∃ k, z3t P (T.ss i) o = some (blk, k) /\ T.vv i = k.val (H0.next + i)) /\ (∀ b, (T.HH (i + 1)).get b = upd (T.HH i).get (H0.next + i) (some blk) b) /\ (T.HH (i + 1)).next = (T.HH i).next
  | .loud => Region.wanted o (z39 ops (T.ss i)) = true /\ StepOk P o (T.ss i) (T.HH i) (T.vv i) (T.HH (i + 1))
 res : ∀ i k blk, i <= k -> k < ops.size -> T.kd k = .alloc blk -> (T.HH i).get (H0.next + k) = none
 bc : ∀ i j o, ops[i]? = some o -> B i j = true -> ∃ e ∈ o.after, Region.binds .any e = true /\ (e.on = j \/ B e.on j = true)
 back : ∀ i o, ops[i]? = some o -> ∀ e ∈ o.after, Region.binds .any e = true -> e.on < i
 tmp1 : ∀ i j oi oj d, i < j -> ops[i]? = some oi -> ops[j]? = some oj -> oi.dst = some d -> (d ∈ oj.looksAt ops \/ oj.dst = some d) -> B j i = true
 tmp2 : ∀ i j oi oj d, i < j -> ops[i]? = some oi -> ops[j]? = some oj -> oj.dst = some d -> d ∈ oi.looksAt ops -> B j i = true
 ll : ∀ i j, i < j -> j < ops.size -> T.kd i = .loud -> T.kd j = .loud -> B j i = true
 rd : ∀ i p o b, ops[i]? = some o -> p < ops.size -> T.kd i = .read -> z45 (T.ss i) o = some b -> T.kd p = .loud -> B i p = true \/ B p i = true \/ (T.HH (p + 1)).get b = (T.HH p).get b
 al : ∀ k p blk, k < p -> p < ops.size -> T.kd k = .alloc blk -> T.kd p = .loud -> B p k = true \/ (T.HH (p + 1)).get (H0.next + k) = (T.HH p).get (H0.next + k)
theorem zao (s : List Value) (d : Option Tmp) (v : Value) (t : Nat) (h : d ≠ some t) : (putd s d v)[t]? = s[t]? := by
 cases d with
 | none => rfl
 | some d => simp only [z6a, List.getElem?_set]; rw [if_neg (fun e => h (by rw [e]))]
theorem zev (s : List Value) (d d' : Option Tmp) (v v' : Value) (h : ∀ t, d = some t -> d' ≠ some t) : putd (putd s d v) d' v' = putd (putd s d' v') d v := by
 cases d with
 | none => rfl
 | some d =>
  cases d' with
  | none => rfl
  | some d' => simp only [z6a]; exact List.set_comm _ _ (fun e => h d rfl (by rw [e]))
theorem zcz {s s' : List Value} {x : Operand} (h : ∀ t, x = .tmp t -> s[t]? = s'[t]?) : opnd s x = opnd s' x := by
 cases x <;> simp only [opnd, z8t]
 case tmp t => rw [zAb, zAb, h t rfl]
def z3z (T : Tr) (ops : Array Oper) (s0 : List Value) (S : Nat -> Bool) : Nat -> List Value
 | 0 => s0
 | k + 1 => if S k then putd (z3z T ops s0 S k) ((ops[k]?).bind (·.dst)) (T.vv k) else z3z T ops s0 S k
section
variable {P : Program} {ops : Array Oper} {s0 : List Value} {H0 : AH} {T : Tr} {B : Nat -> Nat -> Bool} (D : DrawOk P ops s0 H0 T B)
include D
def z8r (ops : Array Oper) (S : Nat -> Bool) : Prop := ∀ i o, ops[i]? = some o -> S i = true -> ∀ e ∈ o.after, Region.binds .any e = true -> S e.on = true
omit D in
theorem lt_of_get {i : Nat} {o : Oper} (h : ops[i]? = some o) : i < ops.size := (Array.getElem?_eq_some_iff.1 h).1
theorem DrawOk.anc {S : Nat -> Bool} (hS : z8r ops S) : ∀ i, i < ops.size -> (∀ o, ops[i]? = some o -> ∀ e ∈ o.after, Region.binds .any e = true -> S e.on = true) -> ∀ j, B i j = true -> S j = true := by
 intro i
 induction i using Nat.strongRecOn with
 | _ i ih =>
  intro hi hr j hB
  obtain ⟨o, ho⟩ : ∃ o, ops[i]? = some o := ⟨_, Array.getElem?_eq_getElem hi⟩
  obtain ⟨e, he, hb, h⟩ := D.bc i j o ho hB
  have h1 := hr o ho e he hb
  rcases h with rfl | h
  ·exact h1
  ·have hlt := D.back i o ho e he hb
   exact ih e.on hlt (by omega) (fun o' ho' => hS e.on o' ho' h1) j h
theorem DrawOk.slot_at {S : Nat -> Bool} (hS : z8r ops S) {i : Nat} {o : Oper} (ho : ops[i]? = some o) (hi : S i = false) (hr : ∀ e ∈ o.after, Region.binds .any e = true -> S e.on = true) {t : Nat} (ht : t ∈ o.looksAt ops) :
  (z3z T ops s0 S ops.size)[t]? = (T.ss i)[t]? := by
 have hlt := lt_of_get ho
 have hanc := D.anc hS i hlt (fun o' ho' => by rw [ho] at ho'; cases ho'; exact hr)
 have h1 : ∀ m, m <= i -> (z3z T ops s0 S m)[t]? = (T.ss m)[t]? := by
  intro m
  induction m with
  | zero => intro _; rw [D.s_0]; rfl
  | succ m ih =>
   intro hm
   obtain ⟨om, hom⟩ : ∃ o, ops[m]? = some o := ⟨_, Array.getElem?_eq_getElem (by omega)⟩
   rw [D.put m om hom]
   simp only [z3z, hom, Option.bind_some]
   by_cases hd : om.dst = some t
   ·have hB := D.tmp1 m i om o t (by omega) hom ho hd (.inl ht)
    rw [if_pos (hanc m hB), hd]
    simp only [z6a, List.getElem?_set]
    have hl : (z3z T ops s0 S m).length = (T.ss m).length \/ True := .inr trivial
    have := ih (by omega)
    by_cases hle : t < (T.ss m).length
    ·have hle' : t < (z3z T ops s0 S m).length := by
      rcases Nat.lt_or_ge t (z3z T ops s0 S m).length with h | h
      ·exact h
      ·rw [List.getElem?_eq_none h, zAh hle] at this; cases this
     simp [hle, hle']
    ·have hle' : ¬ t < (z3z T ops s0 S m).length := fun h => by
      rw [zAh h, List.getElem?_eq_none (by omega)] at this; cases this
     simp [hle, hle']
   ·rw [zao _ _ _ _ hd]
    split
    ·rw [zao _ _ _ _ hd]; exact ih (by omega)
    ·exact ih (by omega)
 have h2 : ∀ d, i + d <= ops.size -> (z3z T ops s0 S (i + d))[t]? = (z3z T ops s0 S i)[t]? := by
  intro d
  induction d with
  | zero => intro _; rfl
  | succ d ih =>
   intro hm
   rw [<- Nat.add_assoc]
   obtain ⟨om, hom⟩ : ∃ o, ops[i + d]? = some o := ⟨_, Array.getElem?_eq_getElem (by omega)⟩
   simp only [z3z, hom, Option.bind_some]
   split
   ·rename_i hSm
    have hd : om.dst ≠ some t := fun hd => by
     rcases Nat.eq_zero_or_pos d with h0 | h0
     ·subst h0; rw [Nat.add_zero] at hSm; rw [hi] at hSm; cases hSm
     ·have hB := D.tmp2 i (i + d) o om t (by omega) ho hom hd ht
      have := D.anc hS (i + d) (by omega) (fun o' ho' => hS (i + d) o' ho' hSm) i hB
      rw [hi] at this; cases this
    rw [zao _ _ _ _ hd]; exact ih (by omega)
   ·exact ih (by omega)
 have := h2 (ops.size - i) (by omega)
 rw [show i + (ops.size - i) = ops.size by omega] at this
 rw [this, h1 i (Nat.le_refl _)]
theorem DrawOk.slot_put {S : Nat -> Bool} (hS : z8r ops S) {i : Nat} {o : Oper} (ho : ops[i]? = some o) (hi : S i = false) :
  z3z T ops s0 (fun k => if k = i then true else S k) ops.size = putd (z3z T ops s0 S ops.size) o.dst (T.vv i) := by
 have hlt := lt_of_get ho
 have h1 : ∀ m, m <= i -> z3z T ops s0 (fun k => if k = i then true else S k) m = z3z T ops s0 S m := by
  intro m
  induction m with
  | zero => intro _; rfl
  | succ m ih => intro hm; simp only [z3z, ih (by omega)]; rw [if_neg (show ¬ m = i by omega)]
 have h2 : ∀ d, i + 1 + d <= ops.size -> z3z T ops s0 (fun k => if k = i then true else S k) (i + 1 + d) = putd (z3z T ops s0 S (i + 1 + d)) o.dst (T.vv i) := by
  intro d
  induction d with
  | zero =>
   intro _
   simp only [Nat.add_zero, z3z, if_true, h1 i (Nat.le_refl _), ho, Option.bind_some]
   rw [if_neg (by rw [hi]; simp)]
  | succ d ih =>
   intro hm
   rw [<- Nat.add_assoc]
   obtain ⟨om, hom⟩ : ∃ o, ops[i + 1 + d]? = some o := ⟨_, Array.getElem?_eq_getElem (by omega)⟩
   rw [z3z, z3z]
   simp only [hom, Option.bind_some]
   rw [if_neg (show ¬ i + 1 + d = i by omega), ih (by omega)]
   split
   ·rename_i hSm
    refine (zev _ _ _ _ _ fun t ht hd => ?_)
    have hB := D.tmp1 i (i + 1 + d) o om t (by omega) ho hom ht (.inr hd)
    have := D.anc hS (i + 1 + d) (by omega) (fun o' ho' => hS _ o' ho' hSm) i hB
    rw [hi] at this; cases this
   ·rfl
 have := h2 (ops.size - (i + 1)) (by omega)
 rwa [show i + 1 + (ops.size - (i + 1)) = ops.size by omega] at this
theorem DrawOk.slot_all {S : Nat -> Bool} (h : ∀ i, i < ops.size -> S i = true) : ∀ m, m <= ops.size -> z3z T ops s0 S m = T.ss m := by
 intro m
 induction m with
 | zero => intro _; exact D.s_0.symm
 | succ m ih =>
  intro hm
  obtain ⟨om, hom⟩ : ∃ o, ops[m]? = some o := ⟨_, Array.getElem?_eq_getElem (by omega)⟩
  rw [D.put m om hom]
  simp only [z3z, hom, Option.bind_some, ih (by omega)]
  rw [if_pos (h m (by omega))]
omit D in
theorem zew : ∀ m, z3z T ops s0 (fun _ => false) m = s0 := by
 intro m
 induction m with
 | zero => rfl
 | succ m ih => simp [z3z, ih]
def isA (T : Tr) (k : Nat) : Bool := match T.kd k with | .alloc _ => true | _ => false
def blkA (T : Tr) (k : Nat) : Option ABlk := match T.kd k with | .alloc b => some b | _ => none
theorem DrawOk.next_le : ∀ m, m <= ops.size -> H0.next + ops.size <= (T.HH m).next := by
 intro m
 induction m with
 | zero => intro _; exact Nat.le_of_eq D.next0.symm
 | succ m ih =>
  intro hm
  obtain ⟨om, hom⟩ : ∃ o, ops[m]? = some o := ⟨_, Array.getElem?_eq_getElem (by omega)⟩
  have hs := D.step m om hom
  have := ih (by omega)
  cases hk : T.kd m with
  | skip => rw [hk] at hs; rw [hs.2.2]; exact this
  | pure => rw [hk] at hs; rw [hs.2.2]; exact this
  | read => rw [hk] at hs; rw [hs.2.2]; exact this
  | alloc blk => rw [hk] at hs; rw [hs.2.2.2]; exact this
  | loud => rw [hk] at hs; exact Nat.le_trans this hs.2.next.1
theorem DrawOk.gone {b : Nat} (hb : b < H0.next) (hn : H0.get b = none) : ∀ m, m <= ops.size -> (T.HH m).get b = none := by
 intro m
 induction m with
 | zero => intro _; rw [D.h_0]; exact hn
 | succ m ih =>
  intro hm
  obtain ⟨om, hom⟩ : ∃ o, ops[m]? = some o := ⟨_, Array.getElem?_eq_getElem (by omega)⟩
  have hs := D.step m om hom
  have := ih (by omega)
  have hl := D.next_le m (by omega)
  cases hk : T.kd m with
  | skip => rw [hk] at hs; rw [hs.2.2]; exact this
  | pure => rw [hk] at hs; rw [hs.2.2]; exact this
  | read => rw [hk] at hs; rw [hs.2.2]; exact this
  | alloc blk => rw [hk] at hs; rw [hs.2.2.1, z0o _ _ (by omega)]; exact this
  | loud => rw [hk] at hs; exact hs.2.next.2 b (by omega) this
theorem DrawOk.chain {b lo : Nat} : ∀ d, lo + d <= ops.size -> (∀ p, lo <= p -> p < lo + d -> T.kd p = .loud -> (T.HH (p + 1)).get b = (T.HH p).get b) -> (∀ p, lo <= p -> p < lo + d -> isA T p = true -> b ≠ H0.next + p) ->
  (T.HH (lo + d)).get b = (T.HH lo).get b := by
 intro d
 induction d with
 | zero => intro _ _ _; rfl
 | succ d ih =>
  intro hm hl ha
  have := ih (by omega) (fun p h1 h2 => hl p h1 (by omega)) (fun p h1 h2 => ha p h1 (by omega))
  rw [<- this]
  obtain ⟨om, hom⟩ : ∃ o, ops[lo + d]? = some o := ⟨_, Array.getElem?_eq_getElem (by omega)⟩
  have hs := D.step (lo + d) om hom
  rw [<- Nat.add_assoc]
  cases hk : T.kd (lo + d) with
  | skip => rw [hk] at hs; rw [hs.2.2]
  | pure => rw [hk] at hs; rw [hs.2.2]
  | read => rw [hk] at hs; rw [hs.2.2]
  | alloc blk => rw [hk] at hs; rw [hs.2.2.1 b, z0o]; exact ha (lo + d) (by omega) (by omega) (by simp [isA, hk])
  | loud => exact hl (lo + d) (by omega) (by omega) hk
theorem DrawOk.next_chain {lo : Nat} : ∀ d, lo + d <= ops.size -> (∀ p, lo <= p -> p < lo + d -> T.kd p ≠ .loud) -> (T.HH (lo + d)).next = (T.HH lo).next := by
 intro d
 induction d with
 | zero => intro _ _; rfl
 | succ d ih =>
  intro hm hl
  rw [<- ih (by omega) (fun p h1 h2 => hl p h1 (by omega))]
  obtain ⟨om, hom⟩ : ∃ o, ops[lo + d]? = some o := ⟨_, Array.getElem?_eq_getElem (by omega)⟩
  have hs := D.step (lo + d) om hom
  rw [<- Nat.add_assoc]
  cases hk : T.kd (lo + d) with
  | skip => rw [hk] at hs; rw [hs.2.2]
  | pure => rw [hk] at hs; rw [hs.2.2]
  | read => rw [hk] at hs; rw [hs.2.2]
  | alloc blk => rw [hk] at hs; rw [hs.2.2.2]
  | loud => exact absurd hk (hl (lo + d) (by omega) (by omega))
def GS (H0 : AH) (ops : Array Oper) (T : Tr) (S : Nat -> Bool) (m : Nat) : Nat -> Option ABlk := fun b =>
 if H0.next <= b /\ b < H0.next + ops.size /\ isA T (b - H0.next) = true then
  (if S (b - H0.next) then (if b - H0.next < m then (T.HH m).get b else blkA T (b - H0.next)) else none)
 else (T.HH m).get b
structure Next (ops : Array Oper) (T : Tr) (S : Nat -> Bool) (m : Nat) : Prop where
 le : m <= ops.size
 loud : m < ops.size -> T.kd m = .loud /\ S m = false
 before : ∀ p, p < m -> T.kd p = .loud -> S p = true
omit D in
theorem z8x (S : Nat -> Bool) : ∃ m, Next ops T S m := by
 have h : ∀ k, k <= ops.size -> (∃ m, Next ops T S m) \/ ∀ p, p < k -> T.kd p = .loud -> S p = true := by
  intro k
  induction k with
  | zero => intro _; exact .inr fun p hp => by omega
  | succ k ih =>
   intro hk
   rcases ih (by omega) with h | h
   ·exact .inl h
   ·by_cases hl : T.kd k = .loud
    ·cases hS : S k with
     | true =>
      refine .inr fun p hp hkp => ?_
      by_cases e : p = k
      ·subst e; exact hS
      ·exact h p (by omega) hkp
     | false => exact .inl ⟨k, by omega, fun _ => ⟨hl, hS⟩, h⟩
    ·refine .inr fun p hp hkp => ?_
     by_cases e : p = k
     ·subst e; exact absurd hkp hl
     ·exact h p (by omega) hkp
 rcases h ops.size (Nat.le_refl _) with h | h
 ·exact h
 ·exact ⟨ops.size, Nat.le_refl _, fun h => by omega, h⟩
omit D in
theorem za1 {k : Nat} (h : isA T k = true) : ∃ blk, T.kd k = .alloc blk /\ blkA T k = some blk := by
 unfold isA at h
 cases hk : T.kd k with
 | alloc blk => exact ⟨blk, rfl, by simp [blkA, hk]⟩
 | _ => rw [hk] at h; simp at h
omit D in
theorem zex {S : Nat -> Bool} {m b : Nat} (h : ¬ (H0.next <= b /\ b < H0.next + ops.size /\ isA T (b - H0.next) = true)) : GS H0 ops T S m b = (T.HH m).get b := by
 unfold GS; rw [if_neg h]
omit D in
theorem zbz {S : Nat -> Bool} {m k : Nat} (hk : k < ops.size) (hA : isA T k = true) : GS H0 ops T S m (H0.next + k) = if S k then (if k < m then (T.HH m).get (H0.next + k) else blkA T k) else none := by
 unfold GS
 rw [if_pos ⟨by omega, by omega, by rw [Nat.add_sub_cancel_left]; exact hA⟩, Nat.add_sub_cancel_left]
omit D in
theorem z5c (m j : Nat) : (Array.replicate m false).getD j false = false := by
 simp [Array.getD_eq_getD_getElem?, Array.getElem?_replicate]; split <;> rfl
structure Inv (P : Program) (ops : Array Oper) (s0 : List Value) (H0 : AH) (T : Tr) (B : Nat -> Nat -> Bool) (ι0 : Ren) (w0 : World) (S : Nat -> Bool) (a : Act) (w : World) : Prop where
 closed : z8r ops S
 ex : ∃ ι m, Next ops T S m /\ SR ι (z3z T ops s0 S ops.size) a /\ Sim (T.HH m).next ι (GS H0 ops T S m) w /\ (∀ k, k < ops.size -> isA T k = true -> S k = false -> ι (H0.next + k) = none) ∧
  Evo H0.next ι0 H0.get w0 ι (GS H0 ops T S m) w
omit D in
theorem Sim.restrict {n : Nat} {ι : Ren} {G G' : Nat -> Option ABlk} {w : World} (h : Sim n ι G w) (hs : ∀ b x y, G' b = some x -> ι b = some y -> G b = some x) : Sim n ι G' w :=
 ⟨⟨fun b x cb co ex hG hb => h.blk b x cb co ex (hs b x _ hG hb) hb, fun b b' x x' cb co ex cb' co' ex' hne hG hG' ho hi hi' => h.inj b b' x x' cb co ex cb' co' ex' hne (hs b x _ hG hi) (hs b' x' _ hG' hi') ho hi hi', h.dom⟩, fun cb hc => ⟨(h.tab cb hc).1, fun ⟨b, x, co, ex, hG, ho, hi⟩ => (h.tab cb hc).2 ⟨b, x, co, ex, hs b x _ hG hi, ho, hi⟩⟩⟩
theorem DrawOk.loud_step0 {ι : Ren} {S : Nat -> Bool} {m : Nat} {o : Oper} {a : Act} {w : World} (hc : z8r ops S) (ho : ops[m]? = some o) (hm : Next ops T S m) (hSm : S m = false) (hkd : T.kd m = .loud)
  (hS : Sim (T.HH m).next ι (GS H0 ops T S m) w) (hfree : ∀ k, k < ops.size -> isA T k = true -> S k = false -> ι (H0.next + k) = none) :
  Sim (T.HH m).next ι (T.HH m).get w /\ ∀ ι' w', Sim (T.HH (m + 1)).next ι' (T.HH (m + 1)).get w' -> Evo (T.HH m).next ι (T.HH m).get w ι' (T.HH (m + 1)).get w' ->
   ∃ m', Next ops T (fun k => if k = m then true else S k) m' /\ SimB (T.HH m').next ι' (GS H0 ops T (fun k => if k = m then true else S k) m') w' ∧
    (∀ k, k < ops.size -> isA T k = true -> (if k = m then true else S k) = false -> ι' (H0.next + k) = none) ∧
    Evo H0.next ι (GS H0 ops T S m) w ι' (GS H0 ops T (fun k => if k = m then true else S k) m') w' := by
 have hlt := lt_of_get ho
 have hnle := D.next_le m (by omega)
 have hmA : isA T m = false := by simp [isA, hkd]
 have hsub : ∀ b x y, (T.HH m).get b = some x -> ι b = some y -> GS H0 ops T S m b = some x := fun b x y hG hb => by
  by_cases hA : H0.next <= b /\ b < H0.next + ops.size /\ isA T (b - H0.next) = true
  ·obtain ⟨k, rfl⟩ : ∃ k, b = H0.next + k := ⟨b - H0.next, by omega⟩
   rw [Nat.add_sub_cancel_left] at hA
   have hk : k < ops.size := by omega
   rw [zbz hk hA.2.2]
   cases hSk : S k with
   | false => rw [hfree k hk hA.2.2 hSk] at hb; cases hb
   | true =>
    rw [if_pos rfl]
    by_cases hkm : k < m
    ·rw [if_pos hkm]; exact hG
    ·obtain ⟨blk, hkk, _⟩ := za1 hA.2.2
     rw [D.res m k blk (by omega) hk hkk] at hG; cases hG
  ·rw [zex hA]; exact hG
 have hS1 := hS.restrict hsub
 refine ⟨hS1, fun ι' w' hS' hE => ?_⟩
 obtain ⟨m', hm'⟩ := z8x (T := T) (ops := ops) (fun k => if k = m then true else S k)
 -- what is loud behind m has not come up
 have hafter : ∀ p, m < p -> p < ops.size -> T.kd p = .loud -> S p = false := fun p hp hps hkp => by
  cases hSp : S p with
  | false => rfl
  | true =>
   have := D.anc hc p hps (fun o' ho' => hc p o' ho' hSp) m (D.ll m p hp hps hkd hkp)
   rw [hSm] at this; cases this
 have hmm' : m < m' := by
  rcases Nat.lt_or_ge m m' with h | h
  ·exact h
  ·exfalso
   rcases Nat.lt_or_ge m' ops.size with h2 | h2
   ·obtain ⟨h3, h4⟩ := hm'.loud h2
    by_cases e : m' = m
    ·simp [e] at h4
    ·simp only [if_neg e] at h4
     have := hm.before m' (by omega) h3
     rw [h4] at this; cases this
   ·omega
 have hquiet : ∀ p, m + 1 <= p -> p < m' -> T.kd p ≠ .loud := fun p h1 h2 hk => by
  have h3 := hm'.before p h2 hk
  have := hm'.le
  have h4 := hafter p (by omega) (by omega) hk
  rw [if_neg (by omega), h4] at h3; cases h3
 have hnext : (T.HH m').next = (T.HH (m + 1)).next := by
  have := D.next_chain (lo := m + 1) (m' - (m + 1)) (by have := hm'.le; omega) (fun p h1 h2 => hquiet p h1 (by omega))
  rwa [show m + 1 + (m' - (m + 1)) = m' by omega] at this
 have hget : ∀ b, (∀ p, m + 1 <= p -> p < m' -> isA T p = true -> b ≠ H0.next + p) -> (T.HH m').get b = (T.HH (m + 1)).get b := fun b hb => by
  have := D.chain (lo := m + 1) (b := b) (m' - (m + 1)) (by have := hm'.le; omega) (fun p h1 h2 hk => absurd hk (hquiet p h1 (by omega))) (fun p h1 h2 => hb p h1 (by omega))
  rwa [show m + 1 + (m' - (m + 1)) = m' by omega] at this
 -- a block made early, behind m in the text
 have hearly : ∀ k, m < k -> k < ops.size -> isA T k = true -> GS H0 ops T (fun k => if k = m then true else S k) m' (H0.next + k) = GS H0 ops T S m (H0.next + k) := fun k hk1 hk2 hA => by
  rw [zbz hk2 hA, zbz hk2 hA]
  rw [if_neg (show ¬ k = m by omega), if_neg (show ¬ k < m by omega)]
  split
  ·split
   ·rename_i hkm
    obtain ⟨blk, hkk, hbb⟩ := za1 hA
    rw [hbb]
    obtain ⟨ok, hok⟩ : ∃ o, ops[k]? = some o := ⟨_, Array.getElem?_eq_getElem hk2⟩
    have hs := D.step k ok hok
    rw [hkk] at hs
    have h1 := D.chain (lo := k + 1) (b := H0.next + k) (m' - (k + 1)) (by have := hm'.le; omega) (fun p h1 h2 hk => absurd hk (hquiet p (by omega) (by omega))) (fun p h1 h2 _ => by omega)
    rw [show k + 1 + (m' - (k + 1)) = m' by omega] at h1
    rw [h1, hs.2.2.1, z21]
   ·rfl
  ·rfl
 -- all else is as0 the step left it
 have hrest : ∀ b x, GS H0 ops T (fun k => if k = m then true else S k) m' b = some x -> (∃ k, b = H0.next + k /\ m < k /\ k < ops.size /\ isA T k = true /\ GS H0 ops T S m b = some x) \/ (T.HH (m + 1)).get b = some x := fun b x hG => by
  by_cases hA : H0.next <= b /\ b < H0.next + ops.size /\ isA T (b - H0.next) = true
  ·obtain ⟨k, rfl⟩ : ∃ k, b = H0.next + k := ⟨b - H0.next, by omega⟩
   rw [Nat.add_sub_cancel_left] at hA
   have hk : k < ops.size := by omega
   by_cases hkm : m < k
   ·exact .inl ⟨k, rfl, hkm, hk, hA.2.2, by rw [<- hearly k hkm hk hA.2.2]; exact hG⟩
   ·have hkne : k ≠ m := fun e => by rw [e, hmA] at hA; cases hA.2.2
    rw [zbz hk hA.2.2] at hG
    simp only [if_neg hkne] at hG
    cases hSk : S k with
    | false => rw [hSk] at hG; simp at hG
    | true =>
     rw [hSk, if_pos rfl, if_pos (show k < m' by omega), hget (H0.next + k) (fun p h1 _ _ => by omega)] at hG
     exact .inr hG
  ·rw [zex hA] at hG
   right
   rw [<- hget b (fun p h1 h2 hp e => hA ⟨by omega, by have := hm'.le; omega, by rw [e, Nat.add_sub_cancel_left]; exact hp⟩)]
   exact hG
 have hk0 : ∀ k, k < ops.size -> ι' (H0.next + k) = ι (H0.next + k) := fun k hk => hE.old _ (by omega)
 have hnotown : ∀ k x cb co ex, m < k -> k < ops.size -> isA T k = true -> GS H0 ops T S m (H0.next + k) = some x -> ι (H0.next + k) = some (cb, co, ex) -> ¬ Own ι (T.HH m).get cb := fun k x cb co ex hk1 hk2 hA hG hi ⟨b, y, co2, ex2, hGb, hoy, hib⟩ => by
  have hne : b ≠ H0.next + k := fun e => by
   obtain ⟨blk, hkk, _⟩ := za1 hA
   rw [e, D.res m k blk (by omega) hk2 hkk] at hGb; cases hGb
  exact hS.inj b (H0.next + k) y x _ _ _ _ _ _ hne (hsub b y _ hGb hib) hG hoy hib hi rfl
 refine ⟨m', hm', ?_, ?_, ?_⟩
 ·rw [hnext]
  refine ⟨?_, ?_, hS'.dom⟩
  ·intro b x cb co ex hG hi
   rcases hrest b x hG with ⟨k, rfl, hk1, hk2, hA, hG0⟩ | hG1
   ·rw [hk0 k hk2] at hi
    have hB := hS.blk _ x cb co ex hG0 hi
    exact hB.mono hE.sub (hE.same cb hB.lt (hnotown k x cb co ex hk1 hk2 hA hG0 hi))
   ·exact hS'.blk b x cb co ex hG1 hi
  ·intro b b' x x' cb co ex cb' co' ex' hne hG hG' hox hi hi' heq
   subst heq
   rcases hrest b x hG with ⟨k, rfl, hk1, hk2, hA, hG0⟩ | hG1
   ·rw [hk0 k hk2] at hi
    rcases hrest b' x' hG' with ⟨k', rfl, hk1', hk2', hA', hG0'⟩ | hG1'
    ·rw [hk0 k' hk2'] at hi'
     exact hS.inj _ _ x x' _ _ _ _ _ _ hne hG0 hG0' hox hi hi' rfl
    ·have hltc := (hS.blk _ x cb co ex hG0 hi).lt
     rcases hE.img cb ⟨b', x', co', ex', hG1', hi'⟩ with ⟨b2, x2, co2, ex2, g1, g2⟩ | h
     ·have hne2 : H0.next + k ≠ b2 := fun e => by
       obtain ⟨blk, hkk, _⟩ := za1 hA
       rw [<- e, D.res m k blk (by omega) hk2 hkk] at g1; cases g1
      exact hS.inj _ b2 x x2 _ _ _ _ _ _ hne2 hG0 (hsub b2 x2 _ g1 g2) hox hi g2 rfl
     ·omega
   ·rcases hrest b' x' hG' with ⟨k', rfl, hk1', hk2', hA', hG0'⟩ | hG1'
    ·rw [hk0 k' hk2'] at hi'
     have hltc := (hS.blk _ x' cb co' ex' hG0' hi').lt
     rcases hE.own cb ⟨b, x, co, ex, hG1, hox, hi⟩ with h | h
     ·exact hnotown k' x' cb co' ex' hk1' hk2' hA' hG0' hi' h
     ·omega
    ·exact hS'.inj b b' x x' _ _ _ _ _ _ hne hG1 hG1' hox hi hi' rfl
 ·intro k hk hA hSk
  by_cases e : k = m
  ·subst e; rw [hmA] at hA; cases hA
  ·rw [if_neg e] at hSk
   rw [hk0 k hk]; exact hfree k hk hA hSk
 ·refine ⟨hE.sub, fun b hb => hE.old b (by omega), ?_, ?_, ?_, hE.size, hE.os, hE.tape, hE.output⟩
  ·rintro cb ⟨b, x, co, ex, hG, hi⟩
   rcases hrest b x hG with ⟨k, rfl, hk1, hk2, hA, hG0⟩ | hG1
   ·rw [hk0 k hk2] at hi
    exact .inl ⟨_, x, co, ex, hG0, hi⟩
   ·rcases hE.img cb ⟨b, x, co, ex, hG1, hi⟩ with ⟨b2, x2, co2, ex2, g1, g2⟩ | h
    ·exact .inl ⟨b2, x2, co2, ex2, hsub b2 x2 _ g1 g2, g2⟩
    ·exact .inr h
  ·rintro cb ⟨b, x, co, ex, hG, hox, hi⟩
   rcases hrest b x hG with ⟨k, rfl, hk1, hk2, hA, hG0⟩ | hG1
   ·rw [hk0 k hk2] at hi
    exact .inl ⟨_, x, co, ex, hG0, hox, hi⟩
   ·rcases hE.own cb ⟨b, x, co, ex, hG1, hox, hi⟩ with ⟨b2, x2, co2, ex2, g1, g3, g2⟩ | h
    ·exact .inl ⟨b2, x2, co2, ex2, hsub b2 x2 _ g1 g2, g3, g2⟩
    ·exact .inr h
  ·intro cb hlt hno
   exact hE.same cb hlt fun ⟨b, x, co, ex, hG, hox, hi⟩ => hno ⟨b, x, co, ex, hsub b x _ hG hi, hox, hi⟩
theorem DrawOk.loud_step {ι : Ren} {S : Nat -> Bool} {m : Nat} {o : Oper} {a : Act} {w : World} (hc : z8r ops S) (ho : ops[m]? = some o) (hm : Next ops T S m) (hSm : S m = false) (hkd : T.kd m = .loud)
  (hS : Sim (T.HH m).next ι (GS H0 ops T S m) w) (hfree : ∀ k, k < ops.size -> isA T k = true -> S k = false -> ι (H0.next + k) = none) :
  Sim (T.HH m).next ι (T.HH m).get w /\ ∀ ι' w', Sim (T.HH (m + 1)).next ι' (T.HH (m + 1)).get w' -> Evo (T.HH m).next ι (T.HH m).get w ι' (T.HH (m + 1)).get w' ->
   ∃ m', Next ops T (fun k => if k = m then true else S k) m' /\ Sim (T.HH m').next ι' (GS H0 ops T (fun k => if k = m then true else S k) m') w' ∧
    (∀ k, k < ops.size -> isA T k = true -> (if k = m then true else S k) = false -> ι' (H0.next + k) = none) ∧
    Evo H0.next ι (GS H0 ops T S m) w ι' (GS H0 ops T (fun k => if k = m then true else S k) m') w' := by
 obtain ⟨h1, h2⟩ := D.loud_step0 (a := a) hc ho hm hSm hkd hS hfree
 refine ⟨h1, fun ι' w' hS' hE => ?_⟩
 obtain ⟨m', a, b, c, d⟩ := h2 ι' w' hS' hE
 exact ⟨m', a, ⟨b, hS.tab.evo d⟩, c, d⟩
omit D in
theorem za2 {ι : Ren} {S : Nat -> Bool} {i m : Nat} {o : Oper} {w : World} (hc : z8r ops S) (ho : ops[i]? = some o) (hi : S i = false) (hr : ∀ e ∈ o.after, Region.binds .any e = true -> S e.on = true)
  (hm : Next ops T S m) (hkd : T.kd i ≠ .loud) : Next ops T (fun k => if k = i then true else S k) m :=
 ⟨hm.le, fun h => by
  obtain ⟨h1, h2⟩ := hm.loud h
  exact ⟨h1, by rw [if_neg (fun e => hkd (by rw [<- e]; exact h1))]; exact h2⟩, fun p hp hk => by
  split
  ·rfl
  ·exact hm.before p hp hk⟩
theorem DrawOk.read_same {ι : Ren} {S : Nat -> Bool} {i m : Nat} {o : Oper} {a : Act} (hc : z8r ops S) (ho : ops[i]? = some o) (hi : S i = false) (hr : ∀ e ∈ o.after, Region.binds .any e = true -> S e.on = true)
  (hm : Next ops T S m) (hkd : T.kd i = .read) {b : Nat} (hb : z45 (T.ss i) o = some b) (hι : ∃ y, ι b = some y) (hlive : ∃ x, (T.HH i).get b = some x)
  (hfree : ∀ k, k < ops.size -> isA T k = true -> S k = false -> ι (H0.next + k) = none) : GS H0 ops T S m b = (T.HH i).get b := by
 have hlt := lt_of_get ho
 have hanc := D.anc hc i hlt (fun o' ho' => by rw [ho] at ho'; cases ho'; exact hr)
 have hml := hm.le
 -- a loud operation between the two places leaves the block alone
 have hloud : ∀ p, p < ops.size -> T.kd p = .loud -> ((m <= p /\ p < i) \/ (i <= p /\ p < m)) -> (T.HH (p + 1)).get b = (T.HH p).get b := fun p hp hk hpos => by
  rcases D.rd i p o b ho hp hkd hb hk with h | h | h
  ·exfalso
   have hSp := hanc p h
   rcases hpos with ⟨h1, h2⟩ | ⟨h1, h2⟩
   ·-- m is loud and ahead of p, or is p
    have hmo := hm.loud (by omega)
    by_cases e : p = m
    ·rw [e, hmo.2] at hSp; cases hSp
    ·have := D.anc hc p hp (fun o' ho' => hc p o' ho' hSp) m (D.ll m p (by omega) hp hmo.1 hk)
     rw [hmo.2] at this; cases this
   ·-- then i is not ahead of itself: p < i by the edges
    have hbk : ∀ q, q < ops.size -> ∀ j, B q j = true -> j < q := by
     intro q
     induction q using Nat.strongRecOn with
     | _ q ih =>
      intro hq j hB
      obtain ⟨oq, hoq⟩ : ∃ o, ops[q]? = some o := ⟨_, Array.getElem?_eq_getElem hq⟩
      obtain ⟨e, he, hbe, h⟩ := D.bc q j oq hoq hB
      have hlt2 := D.back q oq hoq e he hbe
      rcases h with rfl | h
      ·exact hlt2
      ·have := ih e.on hlt2 (by omega) j h; omega
    have := hbk i hlt p h
    omega
  ·exfalso
   rcases hpos with ⟨h1, h2⟩ | ⟨h1, h2⟩
   ·have hbk : ∀ q, q < ops.size -> ∀ j, B q j = true -> j < q := by
     intro q
     induction q using Nat.strongRecOn with
     | _ q ih =>
      intro hq j hB
      obtain ⟨oq, hoq⟩ : ∃ o, ops[q]? = some o := ⟨_, Array.getElem?_eq_getElem hq⟩
      obtain ⟨e, he, hbe, h⟩ := D.bc q j oq hoq hB
      have hlt2 := D.back q oq hoq e he hbe
      rcases h with rfl | h
      ·exact hlt2
      ·have := ih e.on hlt2 (by omega) j h; omega
    have := hbk p hp i h
    omega
   ·have hSp := hm.before p h2 hk
    have := D.anc hc p hp (fun o' ho' => hc p o' ho' hSp) i h
    rw [hi] at this; cases this
  ·exact h
 by_cases hA : H0.next <= b /\ b < H0.next + ops.size /\ isA T (b - H0.next) = true
 ·obtain ⟨k, rfl⟩ : ∃ k, b = H0.next + k := ⟨b - H0.next, by omega⟩
  rw [Nat.add_sub_cancel_left] at hA
  have hk : k < ops.size := by omega
  have hSk : S k = true := by
   cases h : S k with
   | true => rfl
   | false => obtain ⟨y, hy⟩ := hι; rw [hfree k hk hA.2.2 h] at hy; cases hy
  obtain ⟨blk, hkk, hbb⟩ := za1 hA.2.2
  have hki : k < i := by
   rcases Nat.lt_or_ge k i with h | h
   ·exact h
   ·obtain ⟨x, hx⟩ := hlive; rw [D.res i k blk h hk hkk] at hx; cases hx
  rw [zbz hk hA.2.2, if_pos hSk]
  by_cases hkm : k < m
  ·rw [if_pos hkm]
   rcases Nat.le_total m i with h | h
   ·have := D.chain (lo := m) (b := H0.next + k) (i - m) (by omega) (fun p h1 h2 hkp => hloud p (by omega) hkp (.inl ⟨h1, by omega⟩)) (fun p h1 h2 _ => by omega)
    rw [show m + (i - m) = i by omega] at this
    exact this.symm
   ·have := D.chain (lo := i) (b := H0.next + k) (m - i) (by omega) (fun p h1 h2 hkp => hloud p (by omega) hkp (.inr ⟨h1, by omega⟩)) (fun p h1 h2 _ => by omega)
    rw [show i + (m - i) = m by omega] at this
    exact this
  ·rw [if_neg hkm, hbb]
   obtain ⟨ok, hok⟩ : ∃ o, ops[k]? = some o := ⟨_, Array.getElem?_eq_getElem hk⟩
   have hs := D.step k ok hok
   rw [hkk] at hs
   have := D.chain (lo := k + 1) (b := H0.next + k) (i - (k + 1)) (by omega) (fun p h1 h2 hkp => hloud p (by omega) hkp (.inl ⟨by omega, by omega⟩)) (fun p h1 h2 _ => by omega)
   rw [show k + 1 + (i - (k + 1)) = i by omega, hs.2.2.1, z21] at this
   exact this.symm
 ·rw [zex hA]
  have hne : ∀ p, p < ops.size -> isA T p = true -> b ≠ H0.next + p := fun p hp hAp e => hA ⟨by omega, by omega, by rw [e, Nat.add_sub_cancel_left]; exact hAp⟩
  rcases Nat.le_total m i with h | h
  ·have := D.chain (lo := m) (b := b) (i - m) (by omega) (fun p h1 h2 hkp => hloud p (by omega) hkp (.inl ⟨h1, by omega⟩)) (fun p h1 h2 hp => hne p (by omega) hp)
   rw [show m + (i - m) = i by omega] at this
   exact this.symm
  ·have := D.chain (lo := i) (b := b) (m - i) (by omega) (fun p h1 h2 hkp => hloud p (by omega) hkp (.inr ⟨h1, by omega⟩)) (fun p h1 h2 hp => hne p (by omega) hp)
   rw [show i + (m - i) = m by omega] at this
   exact this
theorem DrawOk.alloc_GS {S : Nat -> Bool} {i m : Nat} {o : Oper} {blk : ABlk} (hc : z8r ops S) (ho : ops[i]? = some o) (hi : S i = false) (hm : Next ops T S m) (hkd : T.kd i = .alloc blk) :
  GS H0 ops T (fun k => if k = i then true else S k) m = upd (GS H0 ops T S m) (H0.next + i) (some blk) := by
 have hlt := lt_of_get ho
 have hA : isA T i = true := by simp [isA, hkd]
 have hbb : blkA T i = some blk := by simp [blkA, hkd]
 funext b
 by_cases e : b = H0.next + i
 ·subst e
  rw [z21, zbz hlt hA, if_pos (by simp)]
  by_cases him : i < m
  ·rw [if_pos him]
   have hs := D.step i o ho
   rw [hkd] at hs
   have := D.chain (lo := i + 1) (b := H0.next + i) (m - (i + 1)) (by have := hm.le; omega) (fun p h1 h2 hkp => by
    rcases D.al i p blk (by omega) (by have := hm.le; omega) hkd hkp with h | h
    ·have hSp := hm.before p (by omega) hkp
     have := D.anc hc p (by have := hm.le; omega) (fun o' ho' => hc p o' ho' hSp) i h
     rw [hi] at this; cases this
    ·exact h) (fun p h1 h2 _ => by omega)
   rw [show i + 1 + (m - (i + 1)) = m by omega] at this
   rw [this, hs.2.2.1, z21]
  ·rw [if_neg him, hbb]
 ·rw [z0o _ _ e]
  unfold GS
  split
  ·rename_i hA'
   simp only [if_neg (show ¬ b - H0.next = i by omega)]
  ·rfl
omit D in
theorem zd0 {S : Nat -> Bool} {i m : Nat} (hA : isA T i = false) : GS H0 ops T (fun k => if k = i then true else S k) m = GS H0 ops T S m := by
 funext b
 unfold GS
 split
 ·rename_i hA'
  have hne : ¬ b - H0.next = i := fun e => by rw [e, hA] at hA'; cases hA'.2.2
  simp only [if_neg hne]
 ·rfl
theorem DrawOk.one {ι0 : Ren} {w0 : World} {S : Nat -> Bool} {i : Nat} {o : Oper} {a : Act} {w : World} (hI : Inv P ops s0 H0 T B ι0 w0 S a w) (ho : ops[i]? = some o) (hi : S i = false) (hr : ∀ e ∈ o.after, Region.binds .any e = true -> S e.on = true)
  {K : Act -> World -> Prop} {Q : Exit -> Act -> World -> Prop} (hK : ∀ a' w', Inv P ops s0 H0 T B ι0 w0 (fun k => if k = i then true else S k) a' w' -> K a' w') : wpOp P ops Q i K a w := by
 obtain ⟨hc, ι, m, hm, hs, hS, hfree, hE⟩ := hI
 have hlt := lt_of_get ho
 have hclosed : z8r ops (fun k => if k = i then true else S k) := fun j oj hoj hSj e he hb => by
  by_cases ej : j = i
  ·subst ej
   rw [ho] at hoj; cases hoj
   have := hr e he hb
   simp [this]
  ·simp only [if_neg ej] at hSj
   have := hc j oj hoj hSj e he hb
   simp [this]
 -- what the operation looks at
 have hlook : ∀ t, t ∈ o.looksAt ops -> (z3z T ops s0 S ops.size)[t]? = (T.ss i)[t]? := fun t ht => D.slot_at hc ho hi hr ht
 have hwant : Region.wanted o (yielded ops a.tmps) = Region.wanted o (z39 ops (T.ss i)) := by
  rw [z9a hs]
  unfold Region.wanted
  cases hg : o.guard with
  | none => rfl
  | some q =>
   obtain ⟨j, want⟩ := q
   simp only
   have : z39 ops (z3z T ops s0 S ops.size) j = z39 ops (T.ss i) j := by
    unfold z39
    cases hd : (ops[j]?).bind (·.dst) with
    | none => rfl
    | some d =>
     simp only [Option.bind_some]
     rw [hlook d (by simp [Oper.looksAt, hg, hd])]
   rw [this]
 have hor : OR ι (T.ss i) a o := fun x hx v hv => hs.opnd (by
  rw [<- hv]
  refine zcz fun t ht => hlook t ?_
  subst ht
  exact List.mem_append_left _ (List.mem_filterMap.2 ⟨.tmp t, by simpa using hx, rfl⟩))
 have hslot := D.slot_put hc ho hi
 have hst := D.step i o ho
 unfold wpOp
 simp only [ho]
 rw [hwant]
 -- a step that leaves the heap alone
 have quiet : isA T i = false -> T.kd i ≠ .loud -> ∀ v', VR ι (T.vv i) v' -> K (a.put o.dst v') w := fun hA hnl v' hv => hK _ _ ⟨hclosed, ι, m, za2 (ι := ι) (w := w) hc ho hi hr hm hnl, by rw [hslot]; exact hs.put _ hv, by rw [zd0 hA]; exact hS,
  fun k hk hAk hSk => hfree k hk hAk (by
   by_cases e : k = i
   ·simp [e] at hSk
   ·simpa [e] using hSk), by rw [zd0 hA]; exact hE⟩
 cases hk : T.kd i with
 | skip =>
  rw [hk] at hst
  rw [hst.1, if_neg (by simp)]
  refine quiet (by simp [isA, hk]) (by rw [hk]; simp) undef ?_
  rw [hst.2.1]; exact VR.undef ι
 | pure =>
  rw [hk] at hst
  rw [hst.1, if_pos rfl]
  obtain ⟨v', e1, e2⟩ := zcs hst.2.1 hor w
  exact .inl (z4y (.inl e1) (quiet (by simp [isA, hk]) (by rw [hk]; simp) v' e2))
 | read =>
  rw [hk] at hst
  rw [hst.1, if_pos rfl]
  have hread : z5t P (T.ss i) o (GS H0 ops T S m) = some (T.vv i) := by
   rw [<- hst.2.1]
   refine zby fun b hb => ?_
   have hlive : ∃ x, (T.HH i).get b = some x := by
    cases hq : (T.HH i).get b with
    | some x => exact ⟨x, rfl⟩
    | none =>
     exfalso
     have h2 := hst.2.1
     unfold z5t at h2
     unfold z45 at hb
     split at h2
     ·rename_i t x hop
      simp only [hop] at hb
      cases hx : opnd (T.ss i) x with
      | none => simp [hx] at hb
      | some v =>
       rw [hx] at hb h2
       simp only [Option.bind_some] at h2
       unfold zeq at h2
       split at h2
       ·simp at hb; subst hb; rw [hq] at h2; simp at h2
       ·cases h2
     ·rename_i src dst x hop
      simp only [hop] at hb
      cases hx : opnd (T.ss i) x with
      | none => simp [hx] at hb
      | some v =>
       rw [hx] at hb h2
       simp only [Option.bind_some] at h2
       unfold z6b at h2
       split at h2
       ·simp at hb; subst hb; rw [hq] at h2; simp at h2
       ·simp at hb
       ·cases h2
     ·cases h2
   have hι : ∃ y, ι b = some y := by
    unfold z45 at hb
    split at hb
    ·rename_i t x hop
     split at hb
     ·rename_i q hx
      cases hb
      have hv := hor x (by simp [hop, Op.operands]) _ hx
      generalize a.eval x = z at hv
      cases hv with
      | scal h => simp [z1m] at h
      | ptr h => exact ⟨_, h⟩
     ·cases hb
    ·rename_i src dst x hop
     split at hb
     ·rename_i q l c hx
      cases hb
      have hv := hor x (by simp [hop, Op.operands]) _ hx
      generalize a.eval x = z at hv
      cases hv with
      | scal h => simp [z1m] at h
      | sl h => exact ⟨_, h⟩
      | slT h => exact ⟨_, h⟩
      | sl0 h _ => exact ⟨_, h⟩
     ·cases hb
    ·cases hb
   exact D.read_same (a := a) hc ho hi hr hm hk hb hι hlive hfree
  obtain ⟨v', e1, e2⟩ := zcu hread hS hor
  exact .inl (z4y (.inl e1) (quiet (by simp [isA, hk]) (by rw [hk]; simp) v' e2))
 | alloc blk =>
  rw [hk] at hst
  rw [hst.1, if_pos rfl]
  obtain ⟨k, hal, hvk⟩ := hst.2.1
  have hA : isA T i = true := by simp [isA, hk]
  have hnle := D.next_le m hm.le
  obtain ⟨ex, v', w', e1, e2, e3, e4⟩ := zba (m := (T.HH m).next) (b := H0.next + i) hal hS hor (hfree i hlt hA hi) (by omega) (Nat.le_refl _)
  refine .inl (z4y (.inl e1) (hK _ _ ⟨hclosed, upd ι (H0.next + i) (some (w.heap.size, 0, ex)), m, za2 (ι := ι) (w := w) hc ho hi hr hm (by rw [hk]; simp), ?_, ?_, ?_, ?_⟩))
  ·rw [hslot]
   have hev := e4 (H0.next + i) (Nat.le_refl _)
   exact (hs.mono hev.sub).put _ (by rw [hvk]; exact e2)
  ·rw [D.alloc_GS hc ho hi hm hk]; exact e3
  ·intro k' hk' hAk hSk
   by_cases e : k' = i
   ·simp [e] at hSk
   ·rw [z0o _ _ (by omega)]
    exact hfree k' hk' hAk (by simpa [e] using hSk)
  ·rw [D.alloc_GS hc ho hi hm hk]
   exact hE.trans (e4 H0.next (by omega)) (Nat.le_refl _)
 | loud =>
  rw [hk] at hst
  rw [hst.1, if_pos rfl]
  have him : i = m := by
   have hanc := D.anc hc i hlt (fun o' ho' => by rw [ho] at ho'; cases ho'; exact hr)
   rcases Nat.lt_trichotomy i m with h | h | h
   ·have := hm.before i h hk
    rw [hi] at this; cases this
   ·exact h
   ·obtain ⟨h1, h2⟩ := hm.loud (by omega)
    have := hanc m (D.ll m i h hlt h1 hk)
    rw [h2] at this; cases this
  subst him
  obtain ⟨h1, h2⟩ := D.loud_step (a := a) hc ho hm hi hk hS hfree
  refine .inl (hst.2.run ι a w h1 hor K Q fun ι' v' w' hv hS' hE' => ?_)
  obtain ⟨m', g1, g2, g3, g4⟩ := h2 ι' w' hS' hE'
  refine hK _ _ ⟨hclosed, ι', m', g1, ?_, g2, g3, hE.trans g4 (Nat.le_refl _)⟩
  rw [hslot]
  exact (hs.mono hE'.sub).put _ hv
theorem DrawOk.any {ι0 : Ren} {w0 : World} {Q : Exit -> Act -> World -> Prop} (hQ : ∀ ι a w, SR ι (T.ss ops.size) a -> Sim (T.HH ops.size).next ι (T.HH ops.size).get w -> Evo H0.next ι0 H0.get w0 ι (T.HH ops.size).get w -> Q .normal a w) :
  ∀ (fuel : Nat) (listed : Array Bool) (a : Act) (w : World), listed.size = ops.size -> ((List.range ops.size).filter fun i => !listed.getD i false).length <= fuel -> Inv P ops s0 H0 T B ι0 w0 (fun i => listed.getD i false) a w -> wpAny P .any ops Q fuel listed a w := by
 have hdone : ∀ (listed : Array Bool) (a : Act) (w : World), (∀ i, i < ops.size -> listed.getD i false = true) -> Inv P ops s0 H0 T B ι0 w0 (fun i => listed.getD i false) a w -> Q .normal a w := by
  intro listed a w hall ⟨_, ι, m, hm, hs, hS, _, hE⟩
  have hmn : m = ops.size := by
   rcases Nat.lt_or_ge m ops.size with h | h
   ·have := (hm.loud h).2
    simp only [hall m h] at this; cases this
   ·have := hm.le; omega
  subst hmn
  rw [D.slot_all hall _ (Nat.le_refl _)] at hs
  have hG : GS H0 ops T (fun i => listed.getD i false) ops.size = (T.HH ops.size).get := by
   funext b
   unfold GS
   split
   ·rename_i hA
    rw [if_pos (hall _ (by omega)), if_pos (by omega)]
   ·rfl
  rw [hG] at hS hE
  exact hQ ι a w hs hS hE
 have hready : ∀ listed : Array Bool, listed.size = ops.size -> Region.ready .any ops listed = [] -> ∀ i, i < ops.size -> listed.getD i false = true := by
  intro listed hsz hr i
  induction i using Nat.strongRecOn with
  | _ i ih =>
   intro hi
   cases hl : listed.getD i false with
   | true => rfl
   | false =>
    exfalso
    obtain ⟨o, ho⟩ : ∃ o, ops[i]? = some o := ⟨_, Array.getElem?_eq_getElem hi⟩
    have hmem : i ∈ Region.ready .any ops listed := by
     refine mem_ready.2 ⟨?_, o, ho, fun e he hb => ?_⟩
     ·exact getD_in (by omega) hl
     ·have := D.back i o ho e he hb
      exact ih e.on this (by omega)
    rw [hr] at hmem
    cases hmem
 intro fuel
 induction fuel with
 | zero =>
  intro listed a w hsz hcount hI
  have hall : ∀ i, i < ops.size -> listed.getD i false = true := fun i hi => by
   have h0 : ((List.range ops.size).filter fun i => !listed.getD i false) = [] := List.eq_nil_of_length_eq_zero (by omega)
   have := (List.filter_eq_nil_iff.1 h0) i (List.mem_range.2 hi)
   simpa using this
  refine ⟨?_, hdone listed a w hall hI⟩
  cases hr : Region.ready .any ops listed with
  | nil => rfl
  | cons i rest =>
   have hmem : i ∈ Region.ready .any ops listed := by rw [hr]; simp
   obtain ⟨h1, o, ho, _⟩ := mem_ready.1 hmem
   have := hall i (lt_of_get ho)
   rw [getD_both h1] at this; cases this
 | succ fuel ih =>
  intro listed a w hsz hcount hI
  refine ⟨fun hr => hdone listed a w (hready listed hsz hr) hI, fun i hi => ?_⟩
  obtain ⟨h1, o, ho, hall⟩ := mem_ready.1 hi
  have hilt := lt_of_get ho
  refine D.one hI ho (getD_both h1) hall fun a' w' hI' => ih _ a' w' (by simpa using hsz) ?_ ?_
  ·-- one fewer is left
   have hlen : ((List.range ops.size).filter fun k => !(listed.setIfInBounds i true).getD k false).length < ((List.range ops.size).filter fun k => !listed.getD k false).length := by
    have hsub : ((List.range ops.size).filter fun k => !(listed.setIfInBounds i true).getD k false) = (((List.range ops.size).filter fun k => !listed.getD k false).filter fun k => k != i) := by
     rw [List.filter_filter]
     refine List.filter_congr fun k hk => ?_
     by_cases e : k = i
     ·subst e
      have : (listed.setIfInBounds k true).getD k false = true := by simp [Array.getD_eq_getD_getElem?, Array.getElem?_setIfInBounds, hsz, hilt]
      simp [this]
     ·rw [getD_set_ne false (fun h => e h.symm)]
      simp [e]
    rw [hsub]
    have hmem : i ∈ (List.range ops.size).filter fun k => !listed.getD k false := List.mem_filter.2 ⟨List.mem_range.2 hilt, by simp [getD_both h1]⟩
    refine List.length_filter_lt_length_iff_exists.2 ⟨i, hmem, by simp⟩
   omega
  ·have : (fun k => (listed.setIfInBounds i true).getD k false) = fun k => if k = i then true else listed.getD k false := by
    funext k
    by_cases e : k = i
    ·subst e
     simp [Array.getD_eq_getD_getElem?, Array.getElem?_setIfInBounds, hsz, hilt]
    ·rw [getD_set_ne false (fun h => e h.symm), if_neg e]
   rw [this]
   exact hI'
theorem ARun.draw {id : Nat} (hmix : P.follows .mixedOrders = true) : ARun P (.region id ops true) s0 H0 .normal (T.ss ops.size) (T.HH ops.size) := by
 refine ⟨⟨by have := D.next_le ops.size (Nat.le_refl _); omega, fun b hb hn => D.gone hb hn _ (Nat.le_refl _)⟩, fun ι a w hS hs => wp_region_any hmix ?_⟩
 have hS1 : Sim H0.next ι H0.get { w with drawn := w.drawn + 1 } := hS.grow (fun _ _ => rfl)
 have hE1 : Evo H0.next ι H0.get w ι H0.get { w with drawn := w.drawn + 1 } := ⟨fun _ _ h => h, fun _ _ => rfl, fun _ h => .inl h, fun _ h => .inl h, fun _ _ _ => rfl, Nat.le_refl _, rfl, rfl, rfl⟩
 have hf : (fun i => (Array.replicate ops.size false).getD i false) = fun _ => false := by
  funext i; exact z5c _ _
 refine D.any (ι0 := ι) (w0 := w) (fun ι' a' w' h1 h2 h3 => ⟨rfl, ι', h1, h2, h3⟩) ops.size _ a _ (by simp) (by
  have := List.length_filter_le (fun i => !(Array.replicate ops.size false).getD i false) (List.range ops.size)
  simpa using this) ?_
 rw [hf]
 obtain ⟨m, hm⟩ := z8x (T := T) (ops := ops) (fun _ => false)
 have hq : ∀ p, p < m -> T.kd p ≠ .loud := fun p hp hk => by have := hm.before p hp hk; cases this
 have hG : GS H0 ops T (fun _ => false) m = H0.get := by
  funext b
  by_cases hA : H0.next <= b /\ b < H0.next + ops.size /\ isA T (b - H0.next) = true
  ·unfold GS
   rw [if_pos hA, if_neg (by simp)]
   rw [AH.get_def, if_neg (by omega)]
  ·rw [zex hA]
   have := D.chain (lo := 0) (b := b) m (by have := hm.le; omega) (fun p _ h2 hk => absurd hk (hq p (by omega))) (fun p _ h2 hp e => hA ⟨by omega, by have := hm.le; omega, by rw [e, Nat.add_sub_cancel_left]; exact hp⟩)
   rw [Nat.zero_add] at this
   rw [this, D.h_0]
 refine ⟨fun _ _ _ h => (by cases h), ι, m, hm, by rw [zew]; exact hs, ?_, ?_, by rw [hG]; exact hE1⟩
 ·rw [hG]
  exact ⟨⟨hS1.blk, hS1.inj, fun b y hb => Nat.lt_of_lt_of_le (hS1.dom b y hb) (by have := D.next_le m hm.le; omega)⟩, hS1.tab⟩
 ·intro k hk _ _
  cases hq : ι (H0.next + k) with
  | none => rfl
  | some y => have := hS1.dom _ y hq; omega
end
end
end Go.Am
/- The abstract machine as a function, and that what it finds is right. -/
namespace Go.Am
open Go
noncomputable section
def veq0 : Value -> Value -> Bool
 | .bool a, .bool b => a == b
 | .int k a, .int k' b => k == k' && a == b
 | .string a, .string b => a.data.toList == b.data.toList
 | .pointer a, .pointer b => a == b
 | .slice a l c, .slice a' l' c' => a == a' && l == l' && c == c'
 | .map none, .map none => true
 | .nilFunc, .nilFunc => true
 | .nilIface, .nilIface => true
 | _, _ => false
theorem zhx {x y : Value} (h : veq0 x y = true) : x = y := by
 cases x <;> cases y <;> simp only [veq0] at h <;> try (cases h; done)
 case bool a b => simp at h; rw [h]
 case int k a k' b => simp at h; rw [h.1, h.2]
 case string a b =>
  simp at h
  have : a = b := by cases a; cases b; simp at h; rw [h]
  rw [this]
 case pointer a b => simp at h; rw [h]
 case slice a l c a' l' c' => simp at h; rw [h.1.1, h.1.2, h.2]
 case map a b => cases a <;> cases b <;> simp at h; rfl
 all_goals rfl
def zhm : List Value -> List Value -> Bool
 | [], [] => true
 | x :: xs, y :: ys => veq0 x y && zhm xs ys
 | _, _ => false
theorem zd1 : ∀ {xs ys : List Value}, zhm xs ys = true -> xs = ys
 | [], [], _ => rfl
 | [], _ :: _, h => by simp [zhm] at h
 | _ :: _, [], h => by simp [zhm] at h
 | x :: xs, y :: ys, h => by simp [zhm] at h; rw [zhx h.1, zd1 h.2]
def zhy : Option ABlk -> Option ABlk -> Bool
 | none, none => true
 | some x, some y => x.elem == y.elem && x.sz == y.sz && x.own == y.own && zhm x.cells y.cells
 | _, _ => false
theorem zap {x y : Option ABlk} (h : zhy x y = true) : x = y := by
 cases x <;> cases y <;> simp only [zhy] at h
 ·rfl
 ·cases h
 ·cases h
 ·rename_i x y
  simp only [Bool.and_eq_true, beq_iff_eq] at h
  obtain ⟨⟨⟨h1, h2⟩, h3⟩, h4⟩ := h
  cases x; cases y
  simp only at h1 h2 h3 h4
  rw [h1, h2, h3, zd1 h4]
def zey (acc : List Nat) (o : Oper) : Nat := o.after.toList.foldl (fun s e => if Region.binds .any e then s ||| 2 ^ e.on ||| acc.getD e.on 0 else s) 0
def ancs : List Oper -> List Nat -> List Nat
 | [], acc => acc
 | o :: rest, acc => ancs rest (acc ++ [zey acc o])
theorem z8g (acc : List Nat) (j : Nat) : ∀ (l : List Edge) (s : Nat), (l.foldl (fun s e => if Region.binds .any e then s ||| 2 ^ e.on ||| acc.getD e.on 0 else s) s).testBit j = true ->
  s.testBit j = true \/ ∃ e ∈ l, Region.binds .any e = true /\ (e.on = j \/ (acc.getD e.on 0).testBit j = true)
 | [], s, h => .inl h
 | e :: l, s, h => by
  simp only [List.foldl_cons] at h
  rcases z8g acc j l _ h with h1 | ⟨e', he, h1⟩
  ·split at h1
   ·rename_i hb
    simp only [Nat.testBit_or, Bool.or_eq_true] at h1
    rcases h1 with (h1 | h1) | h1
    ·exact .inl h1
    ·rw [Nat.testBit_two_pow] at h1
     exact .inr ⟨e, by simp, hb, .inl (by simpa using h1)⟩
    ·exact .inr ⟨e, by simp, hb, .inr h1⟩
   ·exact .inl h1
  ·exact .inr ⟨e', by simp [he], h1⟩
theorem z81 : ∀ (l done : List Oper) (acc : List Nat), acc.length = done.length ->
  (∀ i j o, done[i]? = some o -> (acc.getD i 0).testBit j = true -> ∃ e ∈ o.after.toList, Region.binds .any e = true /\ (e.on = j \/ (acc.getD e.on 0).testBit j = true)) ->
  ∀ i j o, (done ++ l)[i]? = some o -> ((ancs l acc).getD i 0).testBit j = true -> ∃ e ∈ o.after.toList, Region.binds .any e = true /\ (e.on = j \/ ((ancs l acc).getD e.on 0).testBit j = true)
 | [], done, acc, hl, h => by simpa [ancs] using h
 | o :: rest, done, acc, hl, h => by
  have := z81 rest (done ++ [o]) (acc ++ [zey acc o]) (by simp [hl]) (by
   have hst : ∀ k j, (acc.getD k 0).testBit j = true -> ((acc ++ [zey acc o]).getD k 0).testBit j = true := fun k j hk => by
    have hlt : k < acc.length := by
     rcases Nat.lt_or_ge k acc.length with h | h
     ·exact h
     ·rw [zAb, List.getElem?_eq_none h] at hk; simp at hk
    rw [zAb, List.getElem?_append, if_pos hlt, <- zAb]; exact hk
   intro i j o' ho' hb
   rcases Nat.lt_or_ge i done.length with hi | hi
   ·rw [List.getElem?_append, if_pos hi] at ho'
    rw [zAb, List.getElem?_append, if_pos (by omega), <- zAb] at hb
    obtain ⟨e, he, hb', h'⟩ := h i j o' ho' hb
    exact ⟨e, he, hb', h'.imp id (hst _ _)⟩
   ·rw [List.getElem?_append, if_neg (by omega)] at ho'
    have hi0 : i - done.length = 0 := by
     rcases Nat.eq_zero_or_pos (i - done.length) with h | h
     ·exact h
     ·rw [List.getElem?_eq_none (by simp; omega)] at ho'; cases ho'
    rw [hi0] at ho'
    simp at ho'
    subst ho'
    rw [zAb, List.getElem?_append, if_neg (by omega), hl, hi0] at hb
    simp only [List.getElem?_cons_zero, Option.getD_some] at hb
    unfold zey at hb
    rcases z8g acc j _ 0 hb with h1 | ⟨e, he, hb', h'⟩
    ·simp at h1
    ·exact ⟨e, he, hb', h'.imp id (hst _ _)⟩)
  simpa [ancs] using this
structure Ent where
 s : List Value
 H : AH
 v : Value
 k : Kd
 rb : Option Nat
def Kd.isLoud : Kd -> Bool | .loud => true | _ => false
def Kd.isAlloc : Kd -> Bool | .alloc _ => true | _ => false
abbrev zbc := FuncId -> List Value -> AH -> Option (Value × AH)
def zir (call : zbc) (P : Program) (s : List Value) (o : Oper) (H : AH) : Option (Value × AH) :=
 match z8e P s o with
 | some (f, args) => call f args H
 | none => z9w P s o H
def zgj (call : zbc) (P : Program) (ops : Array Oper) (l : List Oper) : List Value -> AH -> Option (List Value × AH) :=
 List.rec (motive := fun _ => List Value -> AH -> Option (List Value × AH)) (fun s H => some (s, H))
  (fun o _ ih s H =>
   if Region.wanted o (z39 ops s) then
    match zir call P s o H with
    | some (v, H') => ih (putd s o.dst v) H'
    | none => none
   else ih (putd s o.dst undef) H) l
theorem zez (call : zbc) (P : Program) (ops : Array Oper) (s : List Value) (H : AH) : zgj call P ops [] s H = some (s, H) := rfl
theorem zd2 (call : zbc) (P : Program) (ops : Array Oper) (o : Oper) (rest : List Oper) (s : List Value) (H : AH) : zgj call P ops (o :: rest) s H =
  if Region.wanted o (z39 ops s) then
   match zir call P s o H with
   | some (v, H') => zgj call P ops rest (putd s o.dst v) H'
   | none => none
  else zgj call P ops rest (putd s o.dst undef) H := rfl
def entF (call : zbc) (P : Program) (ops : Array Oper) (N0 i : Nat) (s : List Value) (o : Oper) (H : AH) : Option (Value × Kd × Option Nat × AH) :=
 if Region.wanted o (z39 ops s) then
  match z2y P s o with
  | some v => some (v, .pure, none, H)
  | none => match z5t P s o H.get with
   | some v => some (v, .read, z45 s o, H)
   | none => match z3t P s o with
    | some (blk, k) => match H.blks[H.next - 1 - (N0 + i)]? with
     | some none => if N0 + i < H.next then some (k.val (N0 + i), .alloc blk, none, H.set (N0 + i) (some blk)) else none
     | _ => none
    | none => match z8e P s o with
     | some (f, args) => (call f args H).map fun r => (r.1, .loud, none, r.2)
     | none => (z8d P s o H).map fun r => (r.1, .loud, none, r.2)
 else some (undef, .skip, none, H)
def za3 (call : zbc) (P : Program) (ops : Array Oper) (N0 : Nat) (l : List Oper) : Nat -> List Value -> AH -> Option (List Ent × List Value × AH) :=
 List.rec (motive := fun _ => Nat -> List Value -> AH -> Option (List Ent × List Value × AH)) (fun _ s H => some ([], s, H))
  (fun o _ ih i s H =>
   match entF call P ops N0 i s o H with
   | some (v, k, rb, H') =>
    match ih (i + 1) (putd s o.dst v) H' with
    | some (es, r) => some (⟨s, H, v, k, rb⟩ :: es, r)
    | none => none
   | none => none) l
theorem zc0 (call : zbc) (P : Program) (ops : Array Oper) (N0 i : Nat) (s : List Value) (H : AH) : za3 call P ops N0 [] i s H = some ([], s, H) := rfl
theorem zaq (call : zbc) (P : Program) (ops : Array Oper) (N0 i : Nat) (o : Oper) (rest : List Oper) (s : List Value) (H : AH) : za3 call P ops N0 (o :: rest) i s H =
  match entF call P ops N0 i s o H with
  | some (v, k, rb, H') =>
   match za3 call P ops N0 rest (i + 1) (putd s o.dst v) H' with
   | some (es, r) => some (⟨s, H, v, k, rb⟩ :: es, r)
   | none => none
  | none => none := rfl
def reserve (H : AH) : Nat -> AH
 | 0 => H
 | n + 1 => (reserve H n).push none
def allI (n : Nat) (p : Nat -> Bool) : Bool := (List.range n).all p
theorem z6d {n : Nat} {p : Nat -> Bool} (h : allI n p = true) : ∀ i, i < n -> p i = true := fun i hi => List.all_eq_true.1 h i (List.mem_range.2 hi)
def seqH (es : List Ent) (Hf : AH) (i : Nat) : AH := match es[i]? with | some e => e.H | none => Hf
def seqS (es : List Ent) (sf : List Value) (i : Nat) : List Value := match es[i]? with | some e => e.s | none => sf
def seqV (es : List Ent) (i : Nat) : Value := match es[i]? with | some e => e.v | none => undef
def seqK (es : List Ent) (i : Nat) : Kd := match es[i]? with | some e => e.k | none => .skip
def za4 (ops : Array Oper) (M : List Nat) : Bool :=
 allI ops.size fun j => match ops[j]? with
  | none => true
  | some oj => (oj.after.toList.all fun e => !Region.binds .any e || decide (e.on < j)) &&
   allI j fun i => match ops[i]? with
    | none => true
    | some oi => (M.getD j 0).testBit i ||
     (!(match oi.dst with | some d => (oj.looksAt ops).contains d || oj.dst == some d | none => false) && !(match oj.dst with | some d => (oi.looksAt ops).contains d | none => false))
def zis (r : List Ent) (Hf : AH) : AH := match r with | [] => Hf | e :: _ => e.H
def zhn (Hf : AH) (es : List Ent) : Nat -> List (Nat × AH × AH) :=
 List.rec (motive := fun _ => Nat -> List (Nat × AH × AH)) (fun _ => []) (fun e r ih i => bif e.k.isLoud then (i, e.H, zis r Hf) :: ih (i + 1) else ih (i + 1)) es
def zho (es : List Ent) : Nat -> List Nat :=
 List.rec (motive := fun _ => Nat -> List Nat) (fun _ => []) (fun e _ ih i => bif e.k.isAlloc then i :: ih (i + 1) else ih (i + 1)) es
def zhp (es : List Ent) : Nat -> List (Nat × Nat) :=
 List.rec (motive := fun _ => Nat -> List (Nat × Nat)) (fun _ => []) (fun e _ ih i => match e.rb with | some b => (i, b) :: ih (i + 1) | none => ih (i + 1)) es
theorem z9b (Hf : AH) : ∀ (es : List Ent) (i0 p : Nat) (e : Ent), es[p]? = some e -> e.k.isLoud = true -> (i0 + p, e.H, seqH es Hf (p + 1)) ∈ zhn Hf es i0
 | [], _, p, e, h, _ => by simp at h
 | x :: r, i0, 0, e, h, hk => by
  simp at h; subst h
  show _ ∈ (bif x.k.isLoud then (i0, x.H, zis r Hf) :: zhn Hf r (i0 + 1) else zhn Hf r (i0 + 1))
  rw [hk]
  refine List.mem_cons.2 (.inl ?_)
  cases r <;> rfl
 | x :: r, i0, p + 1, e, h, hk => by
  have := z9b Hf r (i0 + 1) p e (by simpa using h) hk
  rw [show i0 + 1 + p = i0 + (p + 1) by omega] at this
  show _ ∈ (bif x.k.isLoud then (i0, x.H, zis r Hf) :: zhn Hf r (i0 + 1) else zhn Hf r (i0 + 1))
  cases x.k.isLoud
  ·exact this
  ·exact List.mem_cons.2 (.inr this)
theorem z9c : ∀ (es : List Ent) (i0 p : Nat) (e : Ent), es[p]? = some e -> e.k.isAlloc = true -> i0 + p ∈ zho es i0
 | [], _, p, e, h, _ => by simp at h
 | x :: r, i0, 0, e, h, hk => by
  simp at h; subst h
  show _ ∈ (bif x.k.isAlloc then i0 :: zho r (i0 + 1) else zho r (i0 + 1))
  rw [hk]
  exact List.mem_cons.2 (.inl rfl)
 | x :: r, i0, p + 1, e, h, hk => by
  have := z9c r (i0 + 1) p e (by simpa using h) hk
  rw [show i0 + 1 + p = i0 + (p + 1) by omega] at this
  show _ ∈ (bif x.k.isAlloc then i0 :: zho r (i0 + 1) else zho r (i0 + 1))
  cases x.k.isAlloc
  ·exact this
  ·exact List.mem_cons.2 (.inr this)
theorem zbd : ∀ (es : List Ent) (i0 p : Nat) (e : Ent) (b : Nat), es[p]? = some e -> e.rb = some b -> (i0 + p, b) ∈ zhp es i0
 | [], _, p, e, _, h, _ => by simp at h
 | x :: r, i0, 0, e, b, h, hk => by
  simp at h; subst h
  show _ ∈ (match x.rb with | some b => (i0, b) :: zhp r (i0 + 1) | none => zhp r (i0 + 1))
  rw [hk]
  exact List.mem_cons.2 (.inl rfl)
 | x :: r, i0, p + 1, e, b, h, hk => by
  have := zbd r (i0 + 1) p e b (by simpa using h) hk
  rw [show i0 + 1 + p = i0 + (p + 1) by omega] at this
  show _ ∈ (match x.rb with | some b => (i0, b) :: zhp r (i0 + 1) | none => zhp r (i0 + 1))
  cases x.rb with
  | none => exact this
  | some c => exact List.mem_cons.2 (.inr this)
def zit (eq : Option ABlk -> Option ABlk -> Bool) (M : List Nat) (N0 : Nat) (es : List Ent) (Hf : AH) : Bool :=
 let L := zhn Hf es 0
 let A := zho es 0
 let R := zhp es 0
 L.all fun p =>
  (L.all fun q => Nat.ble p.1 q.1 || (rget 0 M p.1).testBit q.1) &&
  (A.all fun i => bif Nat.blt p.1 i then (p.2.2.get (N0 + i)).isNone else (Nat.beq i p.1 || (rget 0 M p.1).testBit i || eq (p.2.2.get (N0 + i)) (p.2.1.get (N0 + i)))) &&
  (R.all fun r => (rget 0 M r.1).testBit p.1 || (rget 0 M p.1).testBit r.1 || eq (p.2.2.get r.2) (p.2.1.get r.2))
def zin (call : zbc) (eq : Option ABlk -> Option ABlk -> Bool) (P : Program) (ops : Array Oper) (s : List Value) (H : AH) : Option (List Value × AH) :=
 match za3 call P ops H.next ops.toList 0 s (reserve H ops.size) with
 | some (es, s', H') =>
  let M := ancs ops.toList []
  if za4 ops M && zit eq M H.next es H' then some (s', H') else none
 | none => none
theorem z3b (H : AH) : ∀ n, (reserve H n).next = H.next + n
 | 0 => rfl
 | n + 1 => by simp [reserve, z3b H n]; omega
theorem z3x (H : AH) (b : Nat) : ∀ n, (reserve H n).get b = H.get b
 | 0 => rfl
 | n + 1 => by
  rw [reserve, AH.get_push, z3b]
  split
  ·rename_i e; rw [AH.get_def, if_neg (by omega)]
  ·exact z3x H b n
theorem zd3 (H : AH) {b : Nat} (x : Option ABlk) (hlt : b < H.next) (hb : (H.blks[H.next - 1 - b]?).isSome = true) : (H.set b x).get = upd H.get b x := by
 have hin : H.next - 1 - b < H.blks.length := by
  rcases Nat.lt_or_ge (H.next - 1 - b) H.blks.length with h | h
  ·exact h
  ·rw [List.getElem?_eq_none h] at hb; cases hb
 funext c
 unfold upd
 rw [AH.get_def, AH.get_def H c, AH.set_def]
 simp only [if_pos hlt]
 by_cases hc : c < H.next
 ·simp only [if_pos hc]
  by_cases e : c = b
  ·subst e; simp [zAb, hin]
  ·have hne : H.next - 1 - b ≠ H.next - 1 - c := by omega
   simp [zAb, hne, e]
 ·simp only [if_neg hc]
  rw [if_neg (by omega)]
section
variable {call : zbc} {P : Program} {ops : Array Oper} {N0 : Nat}
theorem z8h : ∀ (l : List Oper) (i : Nat) (s : List Value) (H : AH) (es : List Ent) (s' : List Value) (H' : AH), za3 call P ops N0 l i s H = some (es, s', H') ->
  es.length = l.length /\ seqS es s' 0 = s /\ seqH es H' 0 = H /\ ∀ k o, l[k]? = some o -> ∃ rb, (∃ e, es[k]? = some e /\ e.rb = rb) /\ entF call P ops N0 (i + k) (seqS es s' k) o (seqH es H' k) = some (seqV es k, seqK es k, rb, seqH es H' (k + 1)) /\ seqS es s' (k + 1) = putd (seqS es s' k) o.dst (seqV es k)
 | [], i, s, H, es, s', H', h => by
  rw [zc0] at h
  cases h
  exact ⟨rfl, rfl, rfl, fun k o ho => by simp at ho⟩
 | o :: rest, i, s, H, es, s', H', h => by
  rw [zaq] at h
  split at h
  ·rename_i v k rb H1 hent
   split at h
   ·rename_i es1 r hrec
    cases h
    obtain ⟨h1, h2, h3, h4⟩ := z8h rest (i + 1) (putd s o.dst v) H1 es1 s' H' hrec
    refine ⟨by simp [h1], rfl, rfl, fun j oj hj => ?_⟩
    cases j with
    | zero =>
     simp at hj
     subst hj
     refine ⟨rb, ⟨_, rfl, rfl⟩, ?_, ?_⟩
     ·show entF call P ops N0 (i + 0) s o H = some (v, k, rb, seqH es1 H' 0)
      rw [h3, Nat.add_zero]; exact hent
     ·show seqS es1 s' 0 = putd s o.dst v
      exact h2
    | succ j =>
     obtain ⟨rb', ⟨e, he1, he2⟩, g1, g2⟩ := h4 j oj (by simpa using hj)
     refine ⟨rb', ⟨e, by simpa using he1, he2⟩, ?_, ?_⟩
     ·rw [show i + (j + 1) = i + 1 + j by omega]; simpa [seqS, seqH, seqV, seqK] using g1
     ·simpa [seqS, seqH, seqV, seqK] using g2
   ·cases h
  ·cases h
def zar (P : Program) (ops : Array Oper) (N0 i : Nat) (s : List Value) (o : Oper) (H : AH) (v : Value) (H' : AH) (k : Kd) : Prop :=
 match k with
  | .skip => Region.wanted o (z39 ops s) = false /\ v = undef /\ H' = H
  | .pure => Region.wanted o (z39 ops s) = true /\ z2y P s o = some v /\ H' = H
  | .read => Region.wanted o (z39 ops s) = true /\ z5t P s o H.get = some v /\ H' = H
  | .alloc blk => Region.wanted o (z39 ops s) = true /\ (∃ k, z3t P s o = some (blk, k) /\ v = k.val (N0 + i)) /\ (∀ b, H'.get b = upd H.get (N0 + i) (some blk) b) /\ H'.next = H.next
  | .loud => Region.wanted o (z39 ops s) = true /\ StepOk P o s H v H'
theorem z9d {i : Nat} {s : List Value} {o : Oper} {H H' : AH} {v : Value} {k : Kd} {rb : Option Nat} (hcall : ∀ f args H v H', call f args H = some (v, H') -> ACalls P f args H v H') (h : entF call P ops N0 i s o H = some (v, k, rb, H')) :
  zar P ops N0 i s o H v H' k /\ (k = .read -> rb = z45 s o) := by
 unfold entF at h
 split at h
 ·rename_i hw
  split at h
  ·rename_i u hu
   cases h
   exact ⟨⟨hw, hu, rfl⟩, fun h => by cases h⟩
  ·split at h
   ·rename_i u hu
    cases h
    exact ⟨⟨hw, hu, rfl⟩, fun _ => rfl⟩
   ·split at h
    ·rename_i blk mk hal
     split at h
     ·rename_i hb
      split at h
      ·rename_i hlt
       cases h
       refine ⟨⟨hw, ⟨mk, hal, rfl⟩, fun b => ?_, rfl⟩, fun h => by cases h⟩
       rw [zd3 H _ hlt (by rw [hb]; rfl)]
      ·cases h
     ·cases h
    ·split at h
     ·rename_i f args hc
      obtain ⟨r, h1, h2⟩ := Option.map_eq_some_iff.1 h
      cases h2
      exact ⟨⟨hw, z8f hc (hcall _ _ _ _ _ h1)⟩, fun h => by cases h⟩
     ·obtain ⟨r, h1, h2⟩ := Option.map_eq_some_iff.1 h
      cases h2
      exact ⟨⟨hw, z8u h1, fun ι a w hS hor nx Q hn => by
       obtain ⟨ι', v', w', e1, e2, e3, e4⟩ := zbb h1 hor hS
       exact z4y e1 (hn ι' v' w' e2 e3 e4)⟩, fun h => by cases h⟩
 ·rename_i hw
  cases h
  exact ⟨⟨by simpa using hw, rfl, rfl⟩, fun h => by cases h⟩
theorem zbe {k : Kd} (h : k = .loud) : k.isLoud = true := by subst h; rfl
theorem za5 {k : Kd} {b : ABlk} (h : k = .alloc b) : k.isAlloc = true := by subst h; rfl
theorem zgk {eq : Option ABlk -> Option ABlk -> Bool} {s s' : List Value} {H H' : AH} {id : Nat} (hcall : ∀ f args H v H', call f args H = some (v, H') -> ACalls P f args H v H') (heq : ∀ x y, eq x y = true -> x = y)
  (hmix : P.follows .mixedOrders = true) (h : zin call eq P ops s H = some (s', H')) : ARun P (.region id ops true) s H .normal s' H' := by
 unfold zin at h
 split at h
 ·rename_i es s1 H1 hrun
  simp only at h
  split at h
  ·rename_i hchk
   cases h
   simp only [Bool.and_eq_true] at hchk
   obtain ⟨hord, hheap⟩ := hchk
   obtain ⟨hlen, hs0, hH0, hents⟩ := z8h ops.toList 0 s (reserve H ops.size) es s' H' hrun
   have hlen : es.length = ops.size := by simpa using hlen
   have hfin : seqS es s' ops.size = s' /\ seqH es H' ops.size = H' := by
    unfold seqS seqH
    rw [List.getElem?_eq_none (by omega)]
    exact ⟨rfl, rfl⟩
   have hE : ∀ i o, ops[i]? = some o -> ∃ rb, (∃ e, es[i]? = some e /\ e.rb = rb) /\ entF call P ops H.next i (seqS es s' i) o (seqH es H' i) = some (seqV es i, seqK es i, rb, seqH es H' (i + 1)) /\ seqS es s' (i + 1) = putd (seqS es s' i) o.dst (seqV es i) := fun i o ho => by
    have := hents i o (by simpa using ho)
    simpa using this
   have hord' : ∀ j oj, ops[j]? = some oj -> (∀ e ∈ oj.after, Region.binds .any e = true -> e.on < j) /\ ∀ i oi, i < j -> ops[i]? = some oi -> ((ancs ops.toList []).getD j 0).testBit i = true ∨
     ((∀ d, oi.dst = some d -> d ∉ oj.looksAt ops /\ oj.dst ≠ some d) /\ ∀ d, oj.dst = some d -> d ∉ oi.looksAt ops) := fun j oj hj => by
    have hjl := lt_of_get hj
    have h1 := z6d hord j hjl
    simp only [hj, Bool.and_eq_true] at h1
    refine ⟨fun e he hb => ?_, fun i oi hij hi => ?_⟩
    ·have := List.all_eq_true.1 h1.1 e (by simpa using he)
     simp [hb] at this
     exact this
    ·have h2 := z6d h1.2 i hij
     simp only [hi, Bool.or_eq_true, Bool.and_eq_true, Bool.not_eq_true'] at h2
     refine h2.imp (fun h => h) fun ⟨g1, g2⟩ => ⟨fun d hd => ?_, fun d hd => ?_⟩
     ·simp only [hd, Bool.or_eq_false_iff] at g1
      exact ⟨fun hm => by have := g1.1; simp at this; exact this hm, fun e => by have := g1.2; simp [e] at this⟩
     ·simp only [hd] at g2
      exact fun hm => by simp at g2; exact g2 hm
   have hheap' : ∀ p, p < ops.size -> seqK es p = .loud -> ∀ i e, es[i]? = some e ->
     (e.k = .loud -> i < p -> ((ancs ops.toList []).getD p 0).testBit i = true) ∧
     (∀ b, e.k = .alloc b -> p < i -> (seqH es H' (p + 1)).get (H.next + i) = none) ∧
     (∀ b, e.k = .alloc b -> i < p -> ((ancs ops.toList []).getD p 0).testBit i = true \/ (seqH es H' (p + 1)).get (H.next + i) = (seqH es H' p).get (H.next + i)) ∧
     (∀ b, e.rb = some b -> ((ancs ops.toList []).getD i 0).testBit p = true \/ ((ancs ops.toList []).getD p 0).testBit i = true \/ (seqH es H' (p + 1)).get b = (seqH es H' p).get b) := fun p hp hk i e he => by
    have hep : es[p]? = some (es[p]'(by omega)) := zAh (by omega)
    have hkp : (es[p]'(by omega)).k = .loud := by unfold seqK at hk; rw [hep] at hk; exact hk
    have hpm := z9b H' es 0 p _ hep (zbe hkp)
    rw [Nat.zero_add] at hpm
    have hpH : (es[p]'(by omega)).H = seqH es H' p := by unfold seqH; rw [hep]
    rw [hpH] at hpm
    have h1 := List.all_eq_true.1 hheap _ hpm
    simp only [Bool.and_eq_true, z8t] at h1
    obtain ⟨⟨g1, g2⟩, g3⟩ := h1
    refine ⟨fun hk hlt => ?_, fun b hk hlt => ?_, fun b hk hlt => ?_, fun b hk => ?_⟩
    ·have hm := z9b H' es 0 i e he (zbe hk)
     rw [Nat.zero_add] at hm
     have := List.all_eq_true.1 g1 _ hm
     simp only [Bool.or_eq_true] at this
     rcases this with h | h
     ·have := Nat.le_of_ble_eq_true h; omega
     ·exact h
    ·have hm := z9c es 0 i e he (za5 hk)
     rw [Nat.zero_add] at hm
     have := List.all_eq_true.1 g2 _ hm
     have hb : Nat.blt p i = true := by rw [Nat.blt_eq]; exact hlt
     simp only [hb, cond_true] at this
     simpa using this
    ·have hm := z9c es 0 i e he (za5 hk)
     rw [Nat.zero_add] at hm
     have := List.all_eq_true.1 g2 _ hm
     have hb : Nat.blt p i = false := by
      cases hq : Nat.blt p i with
      | false => rfl
      | true => rw [Nat.blt_eq] at hq; omega
     simp only [hb, cond_false, Bool.or_eq_true] at this
     rcases this with (h | h) | h
     ·have := Nat.eq_of_beq_eq_true h; omega
     ·exact .inl h
     ·exact .inr (heq _ _ h)
    ·have hm := zbd es 0 i e b he hk
     rw [Nat.zero_add] at hm
     have := List.all_eq_true.1 g3 _ hm
     simp only [Bool.or_eq_true] at this
     rcases this with (h | h) | h
     ·exact .inl h
     ·exact .inr (.inl h)
     ·exact .inr (.inr (heq _ _ h))
   have D : DrawOk P ops s H ⟨seqS es s', seqH es H', seqV es, seqK es⟩ (fun i j => ((ancs ops.toList []).getD i 0).testBit j) := by
    refine ⟨hs0, fun b => ?_, ?_, fun i o ho => ?_, fun i o ho => ?_, ?_, ?_, fun i o ho => (hord' i o ho).1, ?_, ?_, ?_, ?_, ?_⟩
    ·show (seqH es H' 0).get b = _
     rw [hH0, z3x]
    ·show (seqH es H' 0).next = _
     rw [hH0, z3b]
    ·obtain ⟨rb, _, _, h4⟩ := hE i o ho; exact h4
    ·obtain ⟨rb, _, h3, _⟩ := hE i o ho
     exact (z9d hcall h3).1
    ·intro i
     induction i with
     | zero => intro k blk _ _ _; show (seqH es H' 0).get _ = none; rw [hH0, z3x, AH.get_def, if_neg (by omega)]
     | succ i ih =>
      intro k blk hik hk hkd
      have hprev := ih k blk (by omega) hk hkd
      obtain ⟨o, ho⟩ : ∃ o, ops[i]? = some o := ⟨_, Array.getElem?_eq_getElem (by omega)⟩
      obtain ⟨rb, _, h3, _⟩ := hE i o ho
      have hst := (z9d hcall h3).1
      unfold zar at hst
      show (seqH es H' (i + 1)).get _ = none
      have hprev' : (seqH es H' i).get (H.next + k) = none := hprev
      cases hki : seqK es i with
      | skip => rw [hki] at hst; rw [hst.2.2]; exact hprev'
      | pure => rw [hki] at hst; rw [hst.2.2]; exact hprev'
      | read => rw [hki] at hst; rw [hst.2.2]; exact hprev'
      | alloc b => rw [hki] at hst; rw [hst.2.2.1, z0o _ _ (by omega)]; exact hprev'
      | loud =>
       have hek : es[k]? = some (es[k]'(by omega)) := zAh (by omega)
       have hkk : (es[k]'(by omega)).k = .alloc blk := by
        have : seqK es k = .alloc blk := hkd
        unfold seqK at this; rw [hek] at this; exact this
       exact (hheap' i (by omega) hki k _ hek).2.1 blk hkk (by omega)
    ·intro i j o ho hB
     have := z81 ops.toList [] [] rfl (fun i j o ho => by simp at ho) i j o (by simpa using ho) hB
     obtain ⟨e, he, h⟩ := this
     exact ⟨e, by simpa using he, h⟩
    ·intro i j oi oj d hij hi hj hd hor
     rcases (hord' j oj hj).2 i oi hij hi with h | ⟨h, _⟩
     ·exact h
     ·rcases hor with h' | h'
      ·exact absurd h' (h d hd).1
      ·exact absurd h' (h d hd).2
    ·intro i j oi oj d hij hi hj hd hm
     rcases (hord' j oj hj).2 i oi hij hi with h | ⟨_, h⟩
     ·exact h
     ·exact absurd hm (h d hd)
    ·intro i j hij hj hki hkj
     have hei : es[i]? = some (es[i]'(by omega)) := zAh (by omega)
     have hkk : (es[i]'(by omega)).k = .loud := by
      have : seqK es i = .loud := hki
      unfold seqK at this; rw [hei] at this; exact this
     exact (hheap' j hj hkj i _ hei).1 hkk hij
    ·intro i p o b ho hp hki hb hkp
     obtain ⟨rb, ⟨e, he1, he2⟩, h3, _⟩ := hE i o ho
     have hrb := (z9d hcall h3).2 hki
     exact (hheap' p hp hkp i e he1).2.2.2 b (by rw [he2, hrb]; exact hb)
    ·intro k p blk hkp hp hkk hkl
     have hek : es[k]? = some (es[k]'(by omega)) := zAh (by omega)
     have hkk' : (es[k]'(by omega)).k = .alloc blk := by
      have : seqK es k = .alloc blk := hkk
      unfold seqK at this; rw [hek] at this; exact this
     exact (hheap' p hp hkl k _ hek).2.2.1 blk hkk' hkp
   have := ARun.draw D (id := id) hmix
   simp only [hfin.1, hfin.2] at this
   exact this
  ·cases h
 ·cases h
theorem zas (hcall : ∀ f args H v H', call f args H = some (v, H') -> ACalls P f args H v H') : ∀ (l : List Oper) {s s' : List Value} {H H' : AH}, zgj call P ops l s H = some (s', H') -> AOps P ops l s H s' H'
 | [], s, s', H, H', h => by rw [zez] at h; cases h; exact .nil
 | o :: rest, s, s', H, H', h => by
  rw [zd2] at h
  split at h
  ·rename_i hw
   split at h
   ·rename_i v H1 hst
    refine .step hw ?_ (zas hcall rest h)
    unfold zir at hst
    split at hst
    ·rename_i f args hc; exact z8f hc (hcall _ _ _ _ _ hst)
    ·exact z3m hst
   ·cases h
  ·rename_i hw
   exact .skip (by simpa using hw) (zas hcall rest h)
end
end
end Go.Am
