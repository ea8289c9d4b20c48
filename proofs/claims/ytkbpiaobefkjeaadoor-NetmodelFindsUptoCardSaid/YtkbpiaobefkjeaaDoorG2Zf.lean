/- Rules for regions whose order is open, with blocks that are made beside; slices that are lent for a call. -/
import Derived.Test.YtkbpiaobefkjeaaDoorG1Zf
import Derived.Test.YtkbpiaobefkjeaaDoorProg
import Derived.BigRegion
import Derived.Laws.Strings
import Derived.Shelf.Strings.Search1
import Derived.Shelf.Strings.Search3
import Derived.Shelf.Strings.Fields
set_option maxRecDepth 100000
set_option maxHeartbeats 8000000
set_option linter.unusedVariables false
set_option linter.unusedSimpArgs false
namespace Go.Am
open Go
noncomputable section
def AWD2 (P : Program) (n : Nat) (ops : Array Oper) (M : List Nat) (N0 : Nat) (l : List Oper) (i : Nat) (R : z8d) (L : z8x) (A : z9h) (σ : Nat -> Value) (H : AH) (Q : (Nat -> Value) -> AH -> Prop) : Prop :=
 ∃ es σ' H', DOps2 P ops M N0 l i R L A (toL n σ) H es (toL n σ') H' /\ (∀ t, wrL l t = false -> σ' t = σ t) /\ Q σ' H'
def Free (N0 m i : Nat) (H : AH) : Prop := ∀ k, i <= k -> k < m -> H.get (N0 + k) = none /\ N0 + k < H.next
section
variable {P : Program} {n : Nat} {σ : Nat -> Value} {H H1 : AH} {ops : Array Oper} {l : List Oper} {Q : (Nat -> Value) -> AH -> Prop} {QX : QX} {d : Tmp} {dd : Option Tmp} {ty t yt e : TypeId} {pos : String} {af : Array Edge} {g : Option (Nat × Bool)} {v u w : Value} {x y c : Operand} {s : List Value} {cs : List Value}
 {M : List Nat} {N0 m : Nat} {R : z8d} {L : z8x} {A : z9h} {i : Nat} {o : Oper} {op : Op} {Φ : Value -> AH -> Prop} {G : GM} {Ls : List Pc}
theorem AW.draw2 {id : Nat} (hmix : P.follows .mixedOrders = true) (hM : ancs ops.toList [] = M) (hord : zca ops M = true) (h : ∀ H1 N0, Ext H H1 -> Free N0 ops.size 0 H1 -> AWD2 P n ops M N0 ops.toList 0 [] [] [] σ H1 (QX .normal)) : AW P n (.region id ops true) σ H QX := by
 obtain ⟨es, σ', H', h1, h2, h3⟩ := h (reserve H ops.size) H.next (.reserve H _) (fun k _ hk => ⟨by rw [z5a, AH.get_def, if_neg (by omega)], by rw [z4e]; omega⟩)
 exact ⟨.normal, σ', H', .drawR2 hmix hM hord h1, h2, h3⟩
theorem AWD2.nil (h : Q σ H) : AWD2 P n ops M N0 [] i R L A σ H Q := ⟨[], σ, H, .nil, fun _ _ => rfl, h⟩
theorem D2.skip (hg : gok n ops σ g false) (hd : dok n dd = true) (hr : AWD2 P n ops M N0 l (i + 1) R L A (upo σ dd undef) H Q) : AWD2 P n ops M N0 (⟨dd, op, ty, pos, af, g⟩ :: l) i R L A σ H Q := by
 obtain ⟨es, σ', H', h1, h2, h3⟩ := hr
 exact ⟨_, σ', H', .skip (z1n hg) (by rw [z5g hd]; exact h1), z9x h2, h3⟩
theorem D2.skipU {j : Nat} {want : Bool} {d' : Tmp} (h1 : (ops[j]?).bind (·.dst) = some d') (h2 : Nat.blt d' n = true) (h3 : σ d' = undef) (hd : dok n dd = true) (hr : AWD2 P n ops M N0 l (i + 1) R L A (upo σ dd undef) H Q) : AWD2 P n ops M N0 (⟨dd, op, ty, pos, af, some (j, want)⟩ :: l) i R L A σ H Q := by
 obtain ⟨es, σ', H', h4, h5, h6⟩ := hr
 exact ⟨_, σ', H', .skip (z8h rfl h1 h2 h3) (by rw [z5g hd]; exact h4), z9x h5, h6⟩
theorem D2.pure (hg : gok n ops σ g true) (hd : Nat.blt d n = true) (h : z32 P (toL n σ) ⟨some d, op, ty, pos, af, g⟩ = some v) (hr : AWD2 P n ops M N0 l (i + 1) R L A (up σ d v) H Q) : AWD2 P n ops M N0 (⟨some d, op, ty, pos, af, g⟩ :: l) i R L A σ H Q := by
 obtain ⟨es, σ', H', h1, h2, h3⟩ := hr
 exact ⟨_, σ', H', .pure (z1n hg) h (by rw [z5g (d := some d) hd]; exact h1), z9x h2, h3⟩
theorem D2.splitAt {b : Bool} {t : Nat} (h : σ t = .bool b) (h1 : b = true -> σ t = .bool true -> AWD2 P n ops M N0 l i R L A σ H Q) (h2 : b = false -> σ t = .bool false -> AWD2 P n ops M N0 l i R L A σ H Q) : AWD2 P n ops M N0 l i R L A σ H Q := by
 cases b with
 | true => exact h1 rfl h
 | false => exact h2 rfl h
theorem D2.read {b : Nat} (hg : gok n ops σ g true) (hd : Nat.blt d n = true) (h : z71 P (toL n σ) ⟨some d, op, ty, pos, af, g⟩ H.get = some v) (hb : z5n (toL n σ) ⟨some d, op, ty, pos, af, g⟩ = some b)
  (hL : ∀ q ∈ L, (M.getD i 0).testBit q.1 = true \/ q.2.2.get b = q.2.1.get b) (hr : AWD2 P n ops M N0 l (i + 1) ((i, b) :: R) L A (up σ d v) H Q) : AWD2 P n ops M N0 (⟨some d, op, ty, pos, af, g⟩ :: l) i R L A σ H Q := by
 obtain ⟨es, σ', H', h1, h2, h3⟩ := hr
 exact ⟨_, σ', H', .read (z1n hg) h hb hL (by rw [z5g (d := some d) hd]; exact h1), z9x h2, h3⟩
theorem D2.load1' {r : List Value} (hg : gok n ops σ g true) (hd : (Nat.blt d n && ook n x) = true) (ha : z3r P t = some false) (hp : Pt H (oval σ x) (v :: r)) (hL : ∀ q ∈ L, (M.getD i 0).testBit q.1 = true \/ q.2.2.get (z8y (oval σ x)) = q.2.1.get (z8y (oval σ x)))
  (hr : AWD2 P n ops M N0 l (i + 1) ((i, z8y (oval σ x)) :: R) L A (up σ d v) H Q) : AWD2 P n ops M N0 (⟨some d, .load t x, ty, pos, af, g⟩ :: l) i R L A σ H Q := by
 simp only [Bool.and_eq_true] at hd
 exact D2.read hg hd.1 (zdt ha (z3k hd.2) hp) (z6w hd.2 hp) hL hr
theorem D2.loadA' {N : Nat} (hg : gok n ops σ g true) (hd : (Nat.blt d n && ook n x) = true) (ha : z3r P t = some true) (hz : szT P t = some N) (hp : Pt H (oval σ x) cs) (hN : cs.length = N) (hL : ∀ q ∈ L, (M.getD i 0).testBit q.1 = true \/ q.2.2.get (z8y (oval σ x)) = q.2.1.get (z8y (oval σ x)))
  (hr : AWD2 P n ops M N0 l (i + 1) ((i, z8y (oval σ x)) :: R) L A (up σ d (.agg cs.toArray)) H Q) : AWD2 P n ops M N0 (⟨some d, .load t x, ty, pos, af, g⟩ :: l) i R L A σ H Q := by
 simp only [Bool.and_eq_true] at hd
 exact D2.read hg hd.1 (zdu ha hz (z3k hd.2) hp hN) (z6w hd.2 hp) hL hr
theorem D2.lo (hg : gok n ops σ g true) (hd : dok n dd = true) (hs : Loud P n ⟨dd, op, ty, pos, af, g⟩ σ H Φ) (hR : ∀ v H1, Φ v H1 -> ∀ r ∈ R, (M.getD i 0).testBit r.1 = true \/ H1.get r.2 = H.get r.2) (hL : ∀ q ∈ L, (M.getD i 0).testBit q.1 = true)
  (hA : ∀ v H1, Φ v H1 -> ∀ r ∈ A, (M.getD i 0).testBit r.1 = true \/ H1.get r.2 = H.get r.2) (hr : ∀ v H1, Φ v H1 -> AWD2 P n ops M N0 l (i + 1) R ((i, H, H1) :: L) A (upo σ dd v) H1 Q) : AWD2 P n ops M N0 (⟨dd, op, ty, pos, af, g⟩ :: l) i R L A σ H Q := by
 obtain ⟨v, H1, h1, h2⟩ := hs
 obtain ⟨es, σ', H', k1, k2, k3⟩ := hr v H1 h2
 exact ⟨_, σ', H', .loud (z1n hg) h1 (hR v H1 h2) hL (hA v H1 h2) (by rw [z5g hd]; exact k1), z9x k2, k3⟩
theorem Free.nx (F : Free N0 m i H) (h : Nx H H1) : Free N0 m i H1 := fun k hk hkm => by
 obtain ⟨h1, h2⟩ := F k hk hkm
 exact ⟨h.2 _ h2 h1, Nat.lt_of_lt_of_le h2 h.1⟩
theorem D2.loN (hg : gok n ops σ g true) (hd : dok n dd = true) (hs : Loud P n ⟨dd, op, ty, pos, af, g⟩ σ H Φ) (hR : ∀ v H1, Φ v H1 -> ∀ r ∈ R, (M.getD i 0).testBit r.1 = true \/ H1.get r.2 = H.get r.2) (hL : ∀ q ∈ L, (M.getD i 0).testBit q.1 = true)
  (hA : ∀ v H1, Φ v H1 -> ∀ r ∈ A, (M.getD i 0).testBit r.1 = true \/ H1.get r.2 = H.get r.2) (hr : ∀ v H1, Φ v H1 -> Nx H H1 -> AWD2 P n ops M N0 l (i + 1) R ((i, H, H1) :: L) A (upo σ dd v) H1 Q) : AWD2 P n ops M N0 (⟨dd, op, ty, pos, af, g⟩ :: l) i R L A σ H Q := by
 obtain ⟨v, H1, h1, h2⟩ := hs
 obtain ⟨es, σ', H', k1, k2, k3⟩ := hr v H1 h2 h1.next
 exact ⟨_, σ', H', .loud (z1n hg) h1 (hR v H1 h2) hL (hA v H1 h2) (by rw [z5g hd]; exact k1), z9x k2, k3⟩
def AlOk (P : Program) (n : Nat) (o : Oper) (σ : Nat -> Value) (G : GM) (val : Nat -> Value) (pc : Nat -> Pc) : Prop :=
 ∃ blk mk, z4d P (toL n σ) o = some (blk, mk) /\ ∀ b, mk.val b = val b /\ (pc b).foot = [b] /\ ∀ M : GM, M b = some blk -> (pc b).ok G M
theorem zg5 (H : AH) (b : Nat) (x : Option ABlk) (hb : b < H.next) : ∃ H1 : AH, (∀ c, H1.get c = Am.upd H.get b x c) /\ H1.next = H.next := by
 refine ⟨⟨H.next, (List.range H.next).map fun j => Am.upd H.get b x (H.next - 1 - j)⟩, fun c => ?_, rfl⟩
 rw [AH.get_def]
 by_cases hc : c < H.next
 ·rw [if_pos hc]
  have : H.next - 1 - c < H.next := by omega
  simp only [zAb, List.getElem?_map, List.getElem?_range this, Option.map_some, Option.getD_some]
  congr 1; omega
 ·rw [if_neg hc, z0v _ _ (by omega), AH.get_def, if_neg hc]
theorem Ow.newAt {b : Nat} {k : ABlk} (h : Ow G H Ls) (hb : H.get b = none) (hs : ∀ c, c ≠ b -> H1.get c = H.get c) (p : Pc) (hf : p.foot = [b]) (hk : p.ok G H1.get) : Ow G H1 (p :: Ls) /\ Same G Ls H H1 := by
 have hv : ∀ c, Vis G Ls c -> c ≠ b := fun c hc e => by subst e; obtain ⟨k, hk⟩ := h.vis hc; rw [hb] at hk; cases hk
 have hsm : Same G Ls H H1 := fun c hc => hs c (hv c hc)
 refine ⟨⟨fun c k hc => ?_, fun i q hi => ?_, fun i j q1 q2 hij hi hj c hc => ?_, fun i q hi c hc => ?_⟩, hsm⟩
 ·rw [hsm c (.inl ⟨k, hc⟩)]; exact h.fro c k hc
 ·cases i with
  | zero => simp at hi; subst hi; exact hk
  | succ i => simp at hi; exact q.loc (fun c hc => hsm c (.inr ⟨i, q, hi, hc⟩)) (h.ok i q hi)
 ·cases i with
  | zero =>
   simp at hi; subst hi
   rw [hf] at hc; simp at hc; subst hc
   cases j with
   | zero => exact absurd rfl hij
   | succ j => exact fun hc => hv c (.inr ⟨j, q2, by simpa using hj, hc⟩) rfl
  | succ i =>
   cases j with
   | zero => simp at hj; subst hj; rw [hf]; simp; exact hv c (.inr ⟨i, q1, by simpa using hi, hc⟩)
   | succ j => exact h.dis i j q1 q2 (by omega) (by simpa using hi) (by simpa using hj) c hc
 ·cases i with
  | zero =>
   simp at hi; subst hi
   rw [hf] at hc; simp at hc; subst hc
   cases hg : G c with
   | none => rfl
   | some k => exact absurd rfl (hv c (.inl ⟨k, hg⟩))
  | succ i => exact h.apart i q (by simpa using hi) c hc
theorem D2.alloc {val : Nat -> Value} {pc : Nat -> Pc} (hg : gok n ops σ g true) (hd : Nat.blt d n = true) (hs : AlOk P n ⟨some d, op, ty, pos, af, g⟩ σ G val pc) (hF : Free N0 m i H) (hi : Nat.blt i m = true) (O : Ow G H Ls)
  (hr : ∀ b H1, Ow G H1 (pc b :: Ls) /\ Same G Ls H H1 /\ Free N0 m (i + 1) H1 -> AWD2 P n ops M N0 l (i + 1) R L ((i, b) :: A) (up σ d (val b)) H1 Q) : AWD2 P n ops M N0 (⟨some d, op, ty, pos, af, g⟩ :: l) i R L A σ H Q := by
 obtain ⟨blk, mk, h1, h2⟩ := hs
 have hi' := zah.1 hi
 obtain ⟨f1, f2⟩ := hF i (Nat.le_refl _) hi'
 obtain ⟨H1, h3, h4⟩ := zg5 H (N0 + i) (some blk) f2
 obtain ⟨k1, k2, k3⟩ := h2 (N0 + i)
 obtain ⟨o1, o2⟩ := O.newAt (k := blk) f1 (fun c hc => by rw [h3, z0v _ _ hc]) (pc (N0 + i)) k2 (k3 _ (by rw [h3]; exact z2e _ _ _))
 obtain ⟨es, σ', H', q1, q2, q3⟩ := hr (N0 + i) H1 ⟨o1, o2, fun k hk hkm => by
  obtain ⟨g1, g2⟩ := hF k (by omega) hkm
  exact ⟨by rw [h3, z0v _ _ (by omega)]; exact g1, by rw [h4]; exact g2⟩⟩
 refine ⟨_, σ', H', .alloc (z1n hg) h1 f1 h3 h4 (by rw [z5g (d := some d) hd, k1]; exact q1), z9x (o := ⟨some d, op, ty, pos, af, g⟩) (v := val (N0 + i)) q2, q3⟩
variable {α : Type} {r : RT α}
theorem Free.up {i j : Nat} (h : Nat.ble i j = true) (F : Free N0 m i H) : Free N0 m j H := fun k hk hkm => F k (by have := Nat.le_of_ble_eq_true h; omega) hkm
theorem z4y {place : Nat -> Option (Nat × Nat)} {cs : List Value} {i off sz : Nat} {v : Value} {rest : List (Nat × Value)} (hp : place i = some (off, sz)) (hv : v.cells.toList.length = sz) (hf : off + sz <= cs.length) :
  Instr.fill place cs.toArray ((i, v) :: rest) = Instr.fill place (z2i cs off v.cells.toList).toArray rest := by
 have hv' : v.cells.size = sz := by simpa using hv
 have := zdx (place := place) (i := i) (off := off) (cells := cs.toArray) (rest := rest) (v := v) (by rw [hp, hv']) (by simp; omega)
 simpa using this
theorem Al.alloc {z : Value} {x0 : α} (hz : (P.info? e).bind (·.zero) = some z) (hs : z.cells.all z2h = true) (hr : ∀ G, r.rep G z.cells.toList x0) : AlOk P n ⟨some d, .alloc e, ty, pos, af, g⟩ σ G (fun b => .pointer (some ⟨b, 0, none⟩)) (fun b => eVar b e r x0) := by
 obtain ⟨inf, hi, hz⟩ := zAc hz
 exact ⟨⟨z.cells.toList, e, 1, true⟩, .ptr, by simp only [z4d, hi, hz, Option.bind_some, hs, if_true], fun b => ⟨rfl, rfl, fun M hM => ⟨_, hM, hr _⟩⟩⟩
theorem Al.box {x0 : α} (hd : ook n x = true) (hx : oval σ x = v) (hr : r.rep G v.cells.toList x0) : AlOk P n ⟨some d, .box e x, ty, pos, af, g⟩ σ G (fun b => .pointer (some ⟨b, 0, none⟩)) (fun b => eVar b e r x0) :=
 ⟨⟨v.cells.toList, e, 1, true⟩, .ptr, by simp [z4d, oo hd hx], fun b => ⟨rfl, rfl, fun M hM => ⟨_, hM, hr⟩⟩⟩
theorem Al.buildSlice {N : Nat} {ps : Array (Nat × Operand)} {vs : List Value} {xs : List α} {z : Value} (he : z7x P t = some e) (hz : (P.info? e).bind (·.zero) = some z) (hsz : szT P e = some r.sz) (hsc : (z.cells.all z2h && (z.cells.size != 0) && decide (N * r.sz <= 2 ^ 24)) = true)
  (ho : (ps.toList.all fun p => ook n p.2) = true) (hps : ps.toList.map (fun p => (p.1, oval σ p.2)) = (vs.zipIdx.map fun p => (p.2, p.1))) (hN : vs.length = N) (hr : All2 (fun v x => r.rep G v.cells.toList x) vs xs) :
  AlOk P n ⟨some d, .buildSlice t N ps, ty, pos, af, g⟩ σ G (fun b => .slice (some ⟨b, 0, some 0⟩) N N) (fun b => eSl (.slice (some ⟨b, 0, some 0⟩) N N) e r xs) := by
 obtain ⟨inf, hi, hsz⟩ := z4w hsz
 simp only [hi, Option.bind_some] at hz
 have hcs : All2 (r.rep G) (vs.map fun v => v.cells.toList) xs := by
  clear hps hN
  induction hr with
  | nil => exact .nil
  | cons h1 _ ih => exact .cons h1 ih
 have hvs : ∀ v ∈ vs, v.cells.size = r.sz := fun v hv => by
  have := hcs.each v.cells.toList (List.mem_map.2 ⟨v, hv, rfl⟩)
  simpa using this
 have hf : Instr.fill (fun j => some (j * r.sz, r.sz)) (z43 z.cells (N * r.sz)).toArray (vs.zipIdx.map fun p => (p.2, p.1)) = some (vs.map fun v => v.cells.toList).flatten.toArray := by
  have := zd2 (sz := r.sz) vs 0 (z43 z.cells (N * r.sz)) [] rfl (by simp) hvs (by simp [z6e, hN]) (by simp)
  simpa using this
 refine ⟨⟨(vs.map fun v => v.cells.toList).flatten, e, 1, true⟩, .sl N N (some 0), ?_, fun b => ⟨rfl, rfl, fun M hM => ⟨_, .inr ⟨b, some 0, N, [], 1, by simp [hN], by simpa using hM, ?_, by simp [hN], .inr rfl⟩, hcs⟩⟩⟩
 ·simp only [z4d, z02 he, hi, hz, Option.bind_some, hsz, hsc, if_true, z4t ho hps, hf, Option.map_some]
 ·rw [List.append_nil, hcs.flatLen, <- hr.length, hN]
def RR (P : Program) (n : Nat) (σ : Nat -> Value) (H : AH) (r : ResultVar) (v : Value) : Prop := zae P (toL n σ) H r = some v
theorem zb0 {t : Tmp} (ht : Nat.blt t n = true) (hv : σ t = v) : RR P n σ H (.tmp t) v := by
 unfold RR zae
 simp [zAb, zds (zah.1 ht), hv]
theorem z8i {a : Tmp} {t : TypeId} {p : Value} {N : Nat} (ha : Nat.blt a n = true) (hg : z3r P t = some true) (hz : szT P t = some N) (hp : σ a = p) (h : PtG H.get p cs) (hN : cs.length = N) : RR P n σ H (.cell a t) (.agg (List.toArray cs)) := by
 obtain ⟨b, off, k, rfl, h2, h3, h4⟩ := h
 obtain ⟨inf, hi, rfl⟩ := z4w hz
 rw [hN] at h3 h4
 unfold RR zae
 simp [zAb, zds (zah.1 ha), hp, zgx, h2, hg, hi, h3, h4]
theorem zme {fn : Func} {R : Value -> AH -> Prop} (hr : fn.results.toList = []) (h : R (.tuple #[]) H) : retQ P fn n R .ret σ H := ⟨.tuple #[], by simp [aret, hr, z73], h⟩
theorem zm5 {fn : Func} {R : Value -> AH -> Prop} {r1 : ResultVar} {v1 : Value} (hr : fn.results.toList = [r1]) (h1 : RR P n σ H r1 v1) (h : R v1 H) : retQ P fn n R .ret σ H := ⟨v1, by unfold RR at h1; simp [aret, hr, z73, h1], h⟩
theorem zm6 {fn : Func} {R : Value -> AH -> Prop} {r1 r2 : ResultVar} {v1 v2 : Value} (hr : fn.results.toList = [r1, r2]) (h1 : RR P n σ H r1 v1) (h2 : RR P n σ H r2 v2) (h : R (.tuple #[v1, v2]) H) : retQ P fn n R .ret σ H :=
 ⟨_, by unfold RR at h1 h2; simp [aret, hr, z73, h1, h2], h⟩
theorem zmf {fn : Func} {R : Value -> AH -> Prop} {r1 r2 r3 : ResultVar} {v1 v2 v3 : Value} (hr : fn.results.toList = [r1, r2, r3]) (h1 : RR P n σ H r1 v1) (h2 : RR P n σ H r2 v2) (h3 : RR P n σ H r3 v3) (h : R (.tuple #[v1, v2, v3]) H) : retQ P fn n R .ret σ H :=
 ⟨_, by unfold RR at h1 h2 h3; simp [aret, hr, z73, h1, h2, h3], h⟩
theorem Ow.lend {v : Value} {xs : List α} {j : Nat} (O : Ow G H Ls) (hj : Ls[j]? = some (eSl v e r xs)) : ∃ G1, G.le G1 /\ Ow G1 H (Ls.eraseIdx j) /\ (rSl r).rep G1 [v] xs ∧
  ∀ G2 H1, G1.le G2 -> Ow G2 H1 ((Ls.eraseIdx j).map fun p => p.pin H.get) -> ∃ G3, Ow G3 H1 Ls /\ G.le G3 /\ Same G Ls H H1 := by
 classical
 obtain ⟨G1, h1, h2, h3⟩ := O.freeze hj
 obtain ⟨G1', h1', h2', h3'⟩ := O.frzSl hj
 have hrep : (rSl r).rep G1 [v] xs := by
  obtain ⟨es, h4, h5⟩ := O.ok j _ hj
  refine ⟨v, es, rfl, SlO.slG (e := e) ?_ h5.each, h5.mono fun _ _ => r.mono h2⟩
  rcases h4 with h4 | ⟨b, tg, cap, rest, sz', rfl, hb, h⟩
  ·exact .inl h4
  ·exact .inr ⟨b, tg, cap, rest, sz', rfl, (h3 b (by simp [eSl, z8f])).trans hb, h⟩
 refine ⟨G1, h2, h1, hrep, fun G2 H1 hle O2 => ?_⟩
 let F := (eSl v e r xs).foot
 have hFG : ∀ b k, G b = some k -> b ∉ F := fun b k hb hF => by have := O.apart j _ hj b hF; rw [hb] at this; cases this
 have hsF : ∀ b ∈ F, H1.get b = H.get b := fun b hb => by
  obtain ⟨k, hk⟩ := (eSl v e r xs).bnd (O.ok j _ hj) b hb
  rw [hk]; exact O2.fro b k (hle b k (by rw [h3 b hb]; exact hk))
 have hL : ∀ i p, i ≠ j -> Ls[i]? = some p -> (∀ b ∈ p.foot, H1.get b = H.get b) /\ ∀ b ∈ p.foot, G2 b = none := fun i p hij hi => by
  have : ((Ls.eraseIdx j).map fun p => p.pin H.get)[if i < j then i else i - 1]? = some (p.pin H.get) := by
   rw [List.getElem?_map, List.getElem?_eraseIdx]
   by_cases hlt : i < j
   ·simp [hlt, hi]
   ·have h1 : ¬ (i - 1 < j) := by omega
    simp only [hlt, if_false, h1]
    rw [show i - 1 + 1 = i by omega, hi]; rfl
  exact ⟨fun b hb => (O2.ok _ _ this b hb).1, fun b hb => O2.apart _ _ this b hb⟩
 have hG3 : G.le fun b => if b ∈ F then none else G2 b := fun b k hb => by
  simp only [if_neg (hFG b k hb)]; exact hle b k (h2 b k hb)
 refine ⟨fun b => if b ∈ F then none else G2 b, ⟨fun b k hb => ?_, fun i p hi => ?_, O.dis, fun i p hi b hb => ?_⟩, hG3, fun b hb => ?_⟩
 ·by_cases hF : b ∈ F
  ·simp [hF] at hb
  ·exact O2.fro b k (by simpa [hF] using hb)
 ·by_cases hij : i = j
  ·subst hij
   rw [hj] at hi; cases hi
   exact (eSl v e r xs).loc hsF ((eSl v e r xs).mono hG3 (O.ok i _ hj))
  ·exact p.loc (hL i p hij hi).1 (p.mono hG3 (O.ok i p hi))
 ·by_cases hij : i = j
  ·subst hij; rw [hj] at hi; cases hi; simp [F, hb]
  ·by_cases hF : b ∈ F
   ·simp [hF]
   ·simp [hF, (hL i p hij hi).2 b hb]
 ·rcases hb with ⟨k, hk⟩ | ⟨i, p, hi, hb⟩
  ·rw [O.fro b k hk]; exact O2.fro b k (hle b k (h2 b k hk))
  ·by_cases hij : i = j
   ·subst hij; rw [hj] at hi; cases hi; exact hsF b hb
   ·exact (hL i p hij hi).1 b hb
theorem Lo.callB {f : FuncId} {args : Array Operand} {ats : Array TypeId} {al : List Value} {fn : Func} {j : Nat} {xs : List α} {Ψ : Value -> Prop} (hj : Ls[j]? = some (eSl v e r xs)) (hd : args.toList.all (ook n) = true) (hf : P.funcs[f]? = some fn) (hnm : (fn.name == "runtime.NumGoroutine" || fn.body.isNone) = false)
  (ha : args.toList.map (oval σ) = al) (O : Ow G H Ls) (hc : ∀ G1 L, G.le G1 -> Ow G1 H L -> (rSl r).rep G1 [v] xs -> CR P f al G1 H L fun v _ _ => Ψ v) :
  Loud P n ⟨some d, .call ⟨.value (.func f), args, ats⟩, ty, pos, af, g⟩ σ H fun v H1 => ∃ G', Ow G' H1 Ls /\ G.le G' /\ Same G Ls H H1 /\ Ψ v := by
 obtain ⟨G1, h1, h2, h3, h4⟩ := O.lend hj
 have hp : Ow G1 H ((Ls.eraseIdx j).map fun p => p.pin H.get) := Ow.pin (ps := []) h2
 obtain ⟨v', H1, G2, k1, k2, k3, k4⟩ := hc G1 _ h1 hp h3
 obtain ⟨G3, q1, q2, q3⟩ := h4 G2 H1 k3 k2
 exact ⟨v', H1, za4 (fo := .func f) hd hf hnm ha k1, G3, q1, q2, q3, k4⟩
end
end
end Go.Am
/- Slices of slices that are written: a piece with all its rows; a row may be taken out and laid back. -/
namespace Go.Am
open Go
noncomputable section
structure RowsOk {α : Type} (v : Value) (e : TypeId) (ws : List Value) (hs : List Nat) (e2 : TypeId) (r : RT α) (xss : List (List α)) (G M : GM) : Prop where
 out : SlO e 1 M v (ws.map fun w => [w])
 one : ∀ w ∈ ws, okCells [w] = true
 len : ws.length = xss.length
 row : ∀ i w, i ∉ hs -> ws[i]? = some w -> ∃ es xs, xss[i]? = some xs /\ SlO e2 r.sz M w es /\ All2 (r.rep G) es xs
 dis : ∀ i j w u, i ≠ j -> i ∉ hs -> j ∉ hs -> ws[i]? = some w -> ws[j]? = some u -> ∀ b ∈ z8f w, b ∉ z8f u
 off : ∀ i w, i ∉ hs -> ws[i]? = some w -> ∀ b ∈ z8f w, b ∉ z8f v
theorem SlO.loc {e : TypeId} {sz : Nat} {M M' : GM} {v : Value} {es : List (List Value)} (hl : ∀ b ∈ z8f v, M' b = M b) (h : SlO e sz M v es) : SlO e sz M' v es := by
 rcases h with h1 | ⟨b, tg, cap, rest, sz', rfl, hb, h⟩
 ·exact .inl h1
 ·exact .inr ⟨b, tg, cap, rest, sz', rfl, by rw [hl b (by simp [z8f]), hb], h⟩
theorem SlO.bnd {e : TypeId} {sz : Nat} {M : GM} {v : Value} {es : List (List Value)} (h : SlO e sz M v es) : ∀ b ∈ z8f v, ∃ k, M b = some k := fun c hc => by
 rcases h with ⟨rfl, _⟩ | ⟨b, tg, cap, rest, sz', rfl, hb, h⟩
 ·simp [z8f] at hc
 ·simp [z8f] at hc; subst hc; exact ⟨_, hb⟩
section
variable {α : Type} {r : RT α} {G : GM} {H H1 : AH} {L : List Pc} {v w w' u : Value} {e e2 : TypeId} {ws : List Value} {hs : List Nat} {xss : List (List α)} {xs : List α} {i j k : Nat}
end
section
variable {P : Program} {n : Nat} {σ : Nat -> Value} {H H1 : AH} {d : Tmp} {dd : Option Tmp} {ty t e e2 : TypeId} {pos : String} {af : Array Edge} {g : Option (Nat × Bool)} {v u w w' : Value} {x y : Operand}
 {G : GM} {L : List Pc} {j i : Nat} {α : Type} {r : RT α} {ws : List Value} {xss : List (List α)}
end
end
end Go.Am
/- Reads in an open region through a pointer that is known only by an equation. -/
namespace Go.Am
open Go
section
variable {α : Type} {r : RT α} {G : GM} {b N : Nat} {xs : List α}
variable {P : Program} {d : Tmp} {ty t e : TypeId} {pos : String} {af : Array Edge} {g : Option (Nat × Bool)} {x : Operand} {s : List Value}
end
section
variable {P : Program} {n : Nat} {σ : Nat -> Value} {G : GM} {H : AH} {ops : Array Oper} {l : List Oper} {d : Tmp} {ty t u e : TypeId} {pos : String} {af : Array Edge} {g : Option (Nat × Bool)} {x : Operand}
end
end Go.Am
/- Parts of texts and of slices. -/
namespace Go.Am
open Go
section
variable {P : Program} {d : Tmp} {ty t e : TypeId} {pos : String} {af : Array Edge} {g : Option (Nat × Bool)} {x xl xh : Operand} {s : List Value} {a r : zAd} {k k2 : IntKind} {l h : Int}
theorem zi6 (q : ssl a l h = some r) : 0 <= l /\ l <= h /\ h <= a.size /\ r = a.extract l.toNat h.toNat := by
 unfold ssl at q
 split at q
 ·rename_i c; cases q; exact ⟨c.1, c.2.1, c.2.2, rfl⟩
 ·cases q
theorem zd3 {y : Nat} {c : BoundsCode} (h0 : 0 <= l) (h1 : l <= y) : (Instr.sliceBound (.int k l) y c).pureRun P = some l.toNat := by
 unfold Instr.sliceBound
 simp [asIntOf, z0w, z2s, h0, h1]
theorem zko (hu : P.underlying t = some .string) (hx : opnd s x = some (.string a)) (hl : opnd s xl = some (.int k l)) (hh : opnd s xh = some (.int k2 h)) (q : ssl a l h = some r) : z32 P s ⟨some d, .slice t x (some xl) (some xh) none, ty, pos, af, g⟩ = some (.string r) := by
 obtain ⟨h1, h2, h3, rfl⟩ := zi6 q
 have hc : ∀ b, closed (.string b) = true := fun _ => rfl
 have hi : ∀ k i, closed (.int k i) = true := fun _ _ => rfl
 have hl' : l <= (h.toNat : Nat) := by omega
 simp [z32, hx, hl, hh, agen, zeh, Op.operands, hc, hi, execOp, Instr.sliceAt, Instr.slice, Instr.sliceBounds, z0w, z3z, z2s, z34 hu, zd3 (show 0 <= h by omega) h3, zd3 h1 hl']
theorem zkp (hu : P.underlying t = some .string) (hx : opnd s x = some (.string a)) (hh : opnd s xh = some (.int k2 h)) (q : ssl a 0 h = some r) : z32 P s ⟨some d, .slice t x none (some xh) none, ty, pos, af, g⟩ = some (.string r) := by
 obtain ⟨h1, h2, h3, rfl⟩ := zi6 q
 have hc : ∀ b, closed (.string b) = true := fun _ => rfl
 have hi : ∀ k i, closed (.int k i) = true := fun _ _ => rfl
 simp [z32, hx, hh, agen, zeh, Op.operands, hc, hi, execOp, Instr.sliceAt, Instr.slice, Instr.sliceBounds, z0w, z3z, z2s, z34 hu, zd3 (show 0 <= h by omega) h3]
end
section
variable {α : Type} {R : RT α} {G : GM} {P : Program} {d : Tmp} {ty t e : TypeId} {pos : String} {af : Array Edge} {g : Option (Nat × Bool)} {x xl xh : Operand} {k k2 : IntKind} {v : Value} {xs ys : List α}
theorem zdy {sz : Nat} : ∀ (es : List (List Value)) (k : Nat), (∀ x ∈ es, x.length = sz) -> es.flatten.drop (k * sz) = (es.drop k).flatten
 | [], _, _ => by simp
 | x :: r, 0, _ => by simp
 | x :: r, k + 1, h => by
  have h1 := h x (by simp)
  have := zdy r k (fun y hy => h y (by simp [hy]))
  rw [List.drop_succ_cons, List.flatten_cons, Nat.add_mul, Nat.one_mul, Nat.add_comm, <- h1, List.drop_length_add_append, h1, this]
theorem zai {sz : Nat} : ∀ (es : List (List Value)) (k : Nat), (∀ x ∈ es, x.length = sz) -> es.flatten.take (k * sz) = (es.take k).flatten
 | [], _, _ => by simp
 | x :: r, 0, _ => by simp
 | x :: r, k + 1, h => by
  have h1 := h x (by simp)
  have := zai r k (fun y hy => h y (by simp [hy]))
  rw [List.take_succ_cons, List.flatten_cons, List.flatten_cons, Nat.add_mul, Nat.one_mul, Nat.add_comm, <- h1, List.take_length_add_append, h1, this]
theorem zkq {l h : Int} (q : lsl xs l h = some ys) : ∃ l' h' : Nat, l = l' /\ h = h' /\ l' <= h' /\ h' <= xs.length /\ ys = (xs.drop l').take (h' - l') := by
 unfold lsl at q
 split at q
 ·rename_i c; cases q; exact ⟨l.toNat, h.toNat, by omega, by omega, by omega, by omega, rfl⟩
 ·cases q
theorem Ow.pre {H : AH} {L : List Pc} {j : Nat} {h : Int} (O : Ow G H L) (hj : L[j]? = some (eSl v e R xs)) (he : z7x P t = some e) (hz : szT P e = some R.sz) (q : lsl xs 0 h = some ys) : ∃ w, (∀ {s : List Value} {d ty pos af g x xh k2}, opnd s x = some v -> opnd s xh = some (.int k2 h) -> z32 P s ⟨some d, .slice t x none (some xh) none, ty, pos, af, g⟩ = some w) /\ Ow G H (L.set j (eSl w e R ys)) := by
 obtain ⟨l', h', h0, rfl, h1, h2, rfl⟩ := zkq q
 obtain rfl : l' = 0 := by omega
 obtain ⟨inf, hinf, hsz⟩ := z4w hz
 obtain ⟨es, hs, hr⟩ := O.ok j _ hj
 have hlen := hr.length
 have hb0 : ∀ y, bnd none 0 y = some 0 := fun y => by simp [bnd]
 rcases hs with ⟨rfl, rfl⟩ | ⟨b, tg, cap, rest, sz', rfl, hb, hl, hcap, htg⟩
 ·have e0 : xs.length = 0 := by simpa using hlen.symm
  obtain rfl : h' = 0 := by omega
  refine ⟨.slice none 0 0, fun {s d ty pos af g x xh k2} hx hh => ?_, ?_⟩
  ·simp [z32, hx, zf2, hh, zbg, z02 he, hinf, bnd]
  ·refine O.put hj _ (fun b hb => .inl hb) ⟨[], .inl ⟨rfl, rfl⟩, by simpa using All2.nil⟩ fun b k hk _ => hk
 ·refine ⟨.slice (some ⟨b, 0, tg⟩) h' cap, fun {s d ty pos af g x xh k2} hx hh => ?_, ?_⟩
  ·have hbh : bnd (some (.int k2 (h' : Int))) es.length cap = some h' := by simp [bnd]; omega
   have htt : tg = none \/ tg = some 0 := htg.imp And.left id
   simp only [z32, hx, zf2, hh, Option.bind_some, Option.map_some, zbg, z02 he, hinf, hbh, hb0]
   rw [if_pos ⟨hcap, htt⟩]
   simp
  ·refine O.put hj _ (fun b hb => .inl hb) ⟨es.take h', .inr ⟨b, tg, cap, (es.drop h').flatten ++ rest, sz', ?_, ?_, ?_, ?_, htg⟩, by simpa using hr.take h'⟩ fun b k hk _ => hk
   ·rw [List.length_take]; congr 1; omega
   ·rw [hb, <- List.append_assoc, <- List.flatten_append, List.take_append_drop]
   ·rw [<- List.append_assoc, <- List.flatten_append, List.take_append_drop]; exact hl
   ·rw [List.length_take]; omega
end
section
variable {P : Program} {d : Tmp} {ty src dst : TypeId} {pos : String} {af : Array Edge} {g : Option (Nat × Bool)} {x : Operand} {s : List Value} {a : zAd} {k k1 : IntKind} {n : Int}
theorem zmg {t : TypeId} (hx : opnd s x = some (.int k n)) : z32 P s ⟨some d, .unOp .neg t x, ty, pos, af, g⟩ = some (.int k (z0u k (-n))) := by
 have hc : ∀ k n, closed (.int k n) = true := fun _ _ => rfl
 have hq : (Op.unary .neg (.int k n)).pureRun P = some (.int k (z0u k (-n))) := by rw [zcp, <- Int.zero_sub]; rfl
 simp [z32, hx, agen, zeh, Op.operands, hc, execOp, z0w, z3z, z2s, hq]
end
end Go.Am
/- Short rules for printed walks. -/
namespace Go.Am
open Go
noncomputable section
section
variable {P : Program} {n : Nat} {σ : Nat -> Value} {H H1 : AH} {ops : Array Oper} {l : List Oper} {Q : (Nat -> Value) -> AH -> Prop} {d : Tmp} {dd : Option Tmp} {ty t yt e : TypeId} {pos : String} {af : Array Edge} {g : Option (Nat × Bool)} {x y c : Operand}
 {M : List Nat} {N0 m : Nat} {R : z8d} {L : z8x} {A : z9h} {i : Nat} {op : Op}
theorem W.q1 (v : Value) (h : oval σ x = v) (hr : AWO P n ops l (up σ d v) H Q) (hg : gok n ops σ g true := by rfl) (hd : Nat.blt d n = true := by rfl) (hx : ook n x = true := by rfl) : AWO P n ops (⟨some d, .assign x, ty, pos, af, g⟩ :: l) σ H Q :=
 W.pure hg hd (z2k (oo hx h)) hr
theorem W.q2 (v : Value) (h : oval σ x = v) (hr : AWO P n ops l (up σ d v) H Q) (hg : gok n ops σ g true := by rfl) (hd : Nat.blt d n = true := by rfl) (hx : ook n x = true := by rfl) : AWO P n ops (⟨some d, .move x, ty, pos, af, g⟩ :: l) σ H Q :=
 W.pure hg hd (z12 (oo hx h)) hr
theorem W.q3 (v : Value) {bop : BinOp} {k : IntKind} {a b : Int} (h1 : oval σ x = .int k a) (h2 : oval σ y = .int k b) (hr : AWO P n ops l (up σ d v) H Q) (hg : gok n ops σ g true := by rfl) (hd : Nat.blt d n = true := by rfl) (hx : ook n x = true := by rfl) (hy : ook n y = true := by rfl) (hv : aint bop k a b = some v := by rfl) :
  AWO P n ops (⟨some d, .binOp bop t x y yt, ty, pos, af, g⟩ :: l) σ H Q :=
 W.pure hg hd (zgy (oo hx h1) (oo hy h2) hv) hr
theorem W.q4 (v : Value) (hc : oval σ c = .bool true) (h : oval σ x = v) (hr : AWO P n ops l (up σ d v) H Q) (hg : gok n ops σ g true := by rfl) (hd : Nat.blt d n = true := by rfl) (h1 : ook n c = true := by rfl) (hx : ook n x = true := by rfl) : AWO P n ops (⟨some d, .pick c x y, ty, pos, af, g⟩ :: l) σ H Q :=
 W.pure hg hd (z8e (oo h1 hc) (oo hx h)) hr
theorem W.q5 (v : Value) (hc : oval σ c = .bool false) (h : oval σ y = v) (hr : AWO P n ops l (up σ d v) H Q) (hg : gok n ops σ g true := by rfl) (hd : Nat.blt d n = true := by rfl) (h1 : ook n c = true := by rfl) (hy : ook n y = true := by rfl) : AWO P n ops (⟨some d, .pick c x y, ty, pos, af, g⟩ :: l) σ H Q :=
 W.pure hg hd (z95 (oo h1 hc) (oo hy h)) hr
theorem W.q6 {j : Nat} {want b : Bool} {d' : Tmp} (h1 : (ops[j]?).bind (·.dst) = some d') (h3 : σ d' = .bool b) (hr : AWO P n ops l (upo σ dd undef) H Q) (h2 : Nat.blt d' n = true := by rfl) (h4 : (b == want) = false := by rfl) (hd : dok n dd = true := by rfl) : AWO P n ops (⟨dd, op, ty, pos, af, some (j, want)⟩ :: l) σ H Q :=
 W.skip (gk h1 h2 h3 h4) hd hr
theorem D2.q1 (v : Value) (h : oval σ x = v) (hr : AWD2 P n ops M N0 l (i + 1) R L A (up σ d v) H Q) (hg : gok n ops σ g true := by rfl) (hd : Nat.blt d n = true := by rfl) (hx : ook n x = true := by rfl) : AWD2 P n ops M N0 (⟨some d, .assign x, ty, pos, af, g⟩ :: l) i R L A σ H Q :=
 D2.pure hg hd (z2k (oo hx h)) hr
theorem D2.q2 (v : Value) (h : oval σ x = v) (hr : AWD2 P n ops M N0 l (i + 1) R L A (up σ d v) H Q) (hg : gok n ops σ g true := by rfl) (hd : Nat.blt d n = true := by rfl) (hx : ook n x = true := by rfl) : AWD2 P n ops M N0 (⟨some d, .move x, ty, pos, af, g⟩ :: l) i R L A σ H Q :=
 D2.pure hg hd (z12 (oo hx h)) hr
theorem D2.q3 (v : Value) {bop : BinOp} {k : IntKind} {a b : Int} (h1 : oval σ x = .int k a) (h2 : oval σ y = .int k b) (hr : AWD2 P n ops M N0 l (i + 1) R L A (up σ d v) H Q) (hg : gok n ops σ g true := by rfl) (hd : Nat.blt d n = true := by rfl) (hx : ook n x = true := by rfl) (hy : ook n y = true := by rfl) (hv : aint bop k a b = some v := by rfl) :
  AWD2 P n ops M N0 (⟨some d, .binOp bop t x y yt, ty, pos, af, g⟩ :: l) i R L A σ H Q :=
 D2.pure hg hd (zgy (oo hx h1) (oo hy h2) hv) hr
theorem W.pv {op : Op} (v : Value) (h : z32 P (toL n σ) ⟨some d, op, ty, pos, af, g⟩ = some v) (hr : AWO P n ops l (up σ d v) H Q) (hg : gok n ops σ g true := by rfl) (hd : Nat.blt d n = true := by rfl) : AWO P n ops (⟨some d, op, ty, pos, af, g⟩ :: l) σ H Q := W.pure hg hd h hr
theorem D2.pv {op : Op} (v : Value) (h : z32 P (toL n σ) ⟨some d, op, ty, pos, af, g⟩ = some v) (hr : AWD2 P n ops M N0 l (i + 1) R L A (up σ d v) H Q) (hg : gok n ops σ g true := by rfl) (hd : Nat.blt d n = true := by rfl) : AWD2 P n ops M N0 (⟨some d, op, ty, pos, af, g⟩ :: l) i R L A σ H Q := D2.pure hg hd h hr
theorem W.p1 (v : Value) (hr : AWO P n ops l (up σ d v) H Q) (h : oval σ x = v := by rfl) (hg : gok n ops σ g true := by rfl) (hd : Nat.blt d n = true := by rfl) (hx : ook n x = true := by rfl) : AWO P n ops (⟨some d, .assign x, ty, pos, af, g⟩ :: l) σ H Q := W.q1 v h hr hg hd hx
theorem W.p2 (v : Value) (hr : AWO P n ops l (up σ d v) H Q) (h : oval σ x = v := by rfl) (hg : gok n ops σ g true := by rfl) (hd : Nat.blt d n = true := by rfl) (hx : ook n x = true := by rfl) : AWO P n ops (⟨some d, .move x, ty, pos, af, g⟩ :: l) σ H Q := W.q2 v h hr hg hd hx
theorem W.p3 (v : Value) {bop : BinOp} {k : IntKind} {a b : Int} (hr : AWO P n ops l (up σ d v) H Q) (h1 : oval σ x = .int k a := by rfl) (h2 : oval σ y = .int k b := by rfl) (hg : gok n ops σ g true := by rfl) (hd : Nat.blt d n = true := by rfl) (hx : ook n x = true := by rfl) (hy : ook n y = true := by rfl) (hv : aint bop k a b = some v := by rfl) : AWO P n ops (⟨some d, .binOp bop t x y yt, ty, pos, af, g⟩ :: l) σ H Q := W.q3 v h1 h2 hr hg hd hx hy hv
theorem W.r3 (v : Value) {bop : BinOp} {k : IntKind} {a b : Int} (h1 : oval σ x = .int k a) (hr : AWO P n ops l (up σ d v) H Q) (h2 : oval σ y = .int k b := by rfl) (hg : gok n ops σ g true := by rfl) (hd : Nat.blt d n = true := by rfl) (hx : ook n x = true := by rfl) (hy : ook n y = true := by rfl) (hv : aint bop k a b = some v := by rfl) : AWO P n ops (⟨some d, .binOp bop t x y yt, ty, pos, af, g⟩ :: l) σ H Q := W.q3 v h1 h2 hr hg hd hx hy hv
theorem D2.p1 (v : Value) (hr : AWD2 P n ops M N0 l (i + 1) R L A (up σ d v) H Q) (h : oval σ x = v := by rfl) (hg : gok n ops σ g true := by rfl) (hd : Nat.blt d n = true := by rfl) (hx : ook n x = true := by rfl) : AWD2 P n ops M N0 (⟨some d, .assign x, ty, pos, af, g⟩ :: l) i R L A σ H Q := D2.q1 v h hr hg hd hx
theorem D2.p2 (v : Value) (hr : AWD2 P n ops M N0 l (i + 1) R L A (up σ d v) H Q) (h : oval σ x = v := by rfl) (hg : gok n ops σ g true := by rfl) (hd : Nat.blt d n = true := by rfl) (hx : ook n x = true := by rfl) : AWD2 P n ops M N0 (⟨some d, .move x, ty, pos, af, g⟩ :: l) i R L A σ H Q := D2.q2 v h hr hg hd hx
theorem D2.p3 (v : Value) {bop : BinOp} {k : IntKind} {a b : Int} (hr : AWD2 P n ops M N0 l (i + 1) R L A (up σ d v) H Q) (h1 : oval σ x = .int k a := by rfl) (h2 : oval σ y = .int k b := by rfl) (hg : gok n ops σ g true := by rfl) (hd : Nat.blt d n = true := by rfl) (hx : ook n x = true := by rfl) (hy : ook n y = true := by rfl) (hv : aint bop k a b = some v := by rfl) : AWD2 P n ops M N0 (⟨some d, .binOp bop t x y yt, ty, pos, af, g⟩ :: l) i R L A σ H Q := D2.q3 v h1 h2 hr hg hd hx hy hv
theorem W.l1 (v : Value) (ha : z3r P t = some false) (hp : Pt H (oval σ x) (v :: [])) (hr : AWO P n ops l (up σ d v) H Q) (hg : gok n ops σ g true := by rfl) (hd : (Nat.blt d n && ook n x) = true := by rfl) : AWO P n ops (⟨some d, .load t x, ty, pos, af, g⟩ :: l) σ H Q := W.load1 hg hd ha hp hr
theorem D2.l1 (v : Value) (ha : z3r P t = some false) (hp : Pt H (oval σ x) (v :: [])) (hL : ∀ q ∈ L, (M.getD i 0).testBit q.1 = true \/ q.2.2.get (z8y (oval σ x)) = q.2.1.get (z8y (oval σ x))) (hr : AWD2 P n ops M N0 l (i + 1) ((i, z8y (oval σ x)) :: R) L A (up σ d v) H Q) (hg : gok n ops σ g true := by rfl) (hd : (Nat.blt d n && ook n x) = true := by rfl) : AWD2 P n ops M N0 (⟨some d, .load t x, ty, pos, af, g⟩ :: l) i R L A σ H Q := D2.load1' hg hd ha hp hL hr
theorem smI {G : GM} {L0 : List Pc} {j c : Nat} {p : Pc} (sm : Same G L0 H H1) (h : L0[j]? = some p := by rfl) (hf : p.foot = [c] := by rfl) : H1.get c = H.get c := sm _ (Or.inr ⟨j, p, h, by rw [hf]; exact List.mem_singleton.2 rfl⟩)
theorem gl {j : Nat} {want b r : Bool} {d : Tmp} (h1 : (ops[j]?).bind (·.dst) = some d) (h3 : σ d = .bool b) (h2 : Nat.blt d n = true := by rfl) (h4 : (b == want) = r := by rfl) : gok n ops σ (some (j, want)) r := gk h1 h2 h3 h4
theorem faI {m j b : Nat} {R : z8d} {A B : AH} (hl : ∀ r ∈ R, m.testBit r.1 = true \/ B.get r.2 = A.get r.2) (h : m.testBit j = true := by decide) : ∀ r ∈ (j, b) :: R, m.testBit r.1 = true \/ B.get r.2 = A.get r.2 := faR1 (.inl h) hl
theorem faK {m j : Nat} {A B : AH} {L : z8x} (hl : ∀ q ∈ L, m.testBit q.1 = true) (h : m.testBit j = true := by decide) : ∀ q ∈ (j, A, B) :: L, m.testBit q.1 = true := zkl h hl
theorem ft {a b c : Value} (h : a = b) (k : b = c) : a = c := h.trans k
theorem W.ln {Φ : Value -> AH -> Prop} (hs : Loud P n ⟨dd, op, ty, pos, af, g⟩ σ H Φ) (hr : ∀ v H1, Φ v H1 -> AWO P n ops l (upo σ dd v) H1 Q) (hg : gok n ops σ g true := by rfl) (hd : dok n dd = true := by rfl) : AWO P n ops (⟨dd, op, ty, pos, af, g⟩ :: l) σ H Q := W.lo hg hd hs hr
theorem ov {v : Value} (h : ook n x = true := by rfl) (hv : oval σ x = v := by rfl) : opnd (toL n σ) x = some v := oo h hv
theorem ou {v : Value} (hv : oval σ x = v) (h : ook n x = true := by rfl) : opnd (toL n σ) x = some v := oo h hv
theorem rt {v : Value} {t : Tmp} (ht : Nat.blt t n = true := by rfl) (hv : σ t = v := by rfl) : RR P n σ H (.tmp t) v := zb0 ht hv
theorem Lo.cQ {G : GM} {Ls : List Pc} {f : FuncId} {args : Array Operand} {ats : Array TypeId} {al : List Value} (fn : Func) {Ψ : Value -> GM -> Prop} (ha : args.toList.map (oval σ) = al) (O : Ow G H ([] ++ Ls)) (hc : ∀ L, Ow G H ([] ++ L) -> CR P f al G H ([] ++ L) fun v G' _ => Ψ v G') (hd : args.toList.all (ook n) = true := by rfl) (hf : P.funcs[f]? = some fn := by kernel_rfl) (hnm : (fn.name == "runtime.NumGoroutine" || fn.body.isNone) = false := by rfl) :
  Loud P n ⟨some d, .call ⟨.value (.func f), args, ats⟩, ty, pos, af, g⟩ σ H fun v H1 => ∃ G', Ow G' H1 ([] ++ Ls) /\ G.le G' /\ Same G Ls H H1 /\ Ψ v G' := Lo.callP hd hf hnm ha O hc
theorem Lo.qF {G : GM} {Ls : List Pc} {f : FuncId} {args : Array Operand} {ats : Array TypeId} {al : List Value} (fn : Func) {ps : List Pc} {pw : Value -> List Pc} {Ψ : Value -> Value -> GM -> Prop} (ha : args.toList.map (oval σ) = al) (O : Ow G H (ps ++ Ls)) (hc : ∀ L, Ow G H (ps ++ L) -> CRF P f al G H (fun w => pw w ++ L) Ψ) (hd : args.toList.all (ook n) = true := by rfl) (hf : P.funcs[f]? = some fn := by kernel_rfl) (hnm : (fn.name == "runtime.NumGoroutine" || fn.body.isNone) = false := by rfl) :
  Loud P n ⟨some d, .call ⟨.value (.func f), args, ats⟩, ty, pos, af, g⟩ σ H fun v H1 => ∃ w G', Ow G' H1 (pw w ++ Ls) /\ G.le G' /\ Same G Ls H H1 /\ Ψ w v G' := Lo.callPF hd hf hnm ha O hc
end
end
end Go.Am
/- What the proofs ask of the program's types. -/
namespace Go.Am.Tryd
open Go Go.Am Go.Proofs
theorem sz3 : szT Tryd.prog 3 = some 1 := by kernel_rfl
theorem ze3 : (Tryd.prog.info? 3).bind (·.zero) = some (Go.Value.int Go.IntKind.i64 0) := by kernel_rfl
theorem ag3 : z3r Tryd.prog 3 = some false := by kernel_rfl
theorem sz4 : szT Tryd.prog 4 = some 1 := by kernel_rfl
theorem ag4 : z3r Tryd.prog 4 = some false := by kernel_rfl
theorem un4 : Tryd.prog.underlying 4 = some Go.TypeDesc.bool := by kernel_rfl
theorem sz5 : szT Tryd.prog 5 = some 1 := by kernel_rfl
theorem ag5 : z3r Tryd.prog 5 = some false := by kernel_rfl
theorem in5 : intT Tryd.prog 5 = some Go.IntKind.u8 := by kernel_rfl
theorem sz9 : szT Tryd.prog 9 = some 1 := by kernel_rfl
theorem ze9 : (Tryd.prog.info? 9).bind (·.zero) = some (Go.Value.string { data := #[] }) := by kernel_rfl
theorem ag9 : z3r Tryd.prog 9 = some false := by kernel_rfl
theorem by9 : ((Tryd.prog.info? 9).map (·.bytes)) = some 16 := by kernel_rfl
theorem un9 : Tryd.prog.underlying 9 = some Go.TypeDesc.string := by kernel_rfl
theorem sz22 : szT Tryd.prog 22 = some 1 := by kernel_rfl
theorem ze22 : (Tryd.prog.info? 22).bind (·.zero) = some (Go.Value.slice none 0 0) := by kernel_rfl
theorem ag22 : z3r Tryd.prog 22 = some false := by kernel_rfl
theorem ni22 : z7i Tryd.prog 22 = true := by kernel_rfl
theorem el22 : z7x Tryd.prog 22 = some 9 := by kernel_rfl
theorem sz23 : szT Tryd.prog 23 = some 1 := by kernel_rfl
theorem ag23 : z3r Tryd.prog 23 = some false := by kernel_rfl
theorem ni23 : z7i Tryd.prog 23 = true := by kernel_rfl
theorem el23 : z7x Tryd.prog 23 = some 52 := by kernel_rfl
theorem sz24 : szT Tryd.prog 24 = some 1 := by kernel_rfl
theorem ag24 : z3r Tryd.prog 24 = some false := by kernel_rfl
theorem ni24 : z7i Tryd.prog 24 = true := by kernel_rfl
theorem el24 : z7x Tryd.prog 24 = some 59 := by kernel_rfl
theorem sz25 : szT Tryd.prog 25 = some 1 := by kernel_rfl
theorem ag25 : z3r Tryd.prog 25 = some false := by kernel_rfl
theorem ni25 : z7i Tryd.prog 25 = true := by kernel_rfl
theorem el25 : z7x Tryd.prog 25 = some 67 := by kernel_rfl
theorem sz26 : szT Tryd.prog 26 = some 1 := by kernel_rfl
theorem ag26 : z3r Tryd.prog 26 = some false := by kernel_rfl
theorem ni26 : z7i Tryd.prog 26 = true := by kernel_rfl
theorem el26 : z7x Tryd.prog 26 = some 71 := by kernel_rfl
theorem sz27 : szT Tryd.prog 27 = some 1 := by kernel_rfl
theorem ag27 : z3r Tryd.prog 27 = some false := by kernel_rfl
theorem ni27 : z7i Tryd.prog 27 = true := by kernel_rfl
theorem el27 : z7x Tryd.prog 27 = some 75 := by kernel_rfl
theorem sz29 : szT Tryd.prog 29 = some 6 := by kernel_rfl
theorem ze29 : (Tryd.prog.info? 29).bind (·.zero) = some (Go.Value.agg #[Go.Value.slice none 0 0, Go.Value.slice none 0 0, Go.Value.slice none 0 0, Go.Value.slice none 0 0, Go.Value.slice none 0 0, Go.Value.slice none 0 0]) := by kernel_rfl
theorem ag29 : z3r Tryd.prog 29 = some true := by kernel_rfl
theorem zo29 : zei Tryd.prog 29 = true := by kernel_rfl
theorem pl29 : plcT Tryd.prog 29 = some [(0, 1), (1, 1), (2, 1), (3, 1), (4, 1), (5, 1)] := by kernel_rfl
theorem zaj : fldT Tryd.prog 29 0 = some 0 := by kernel_rfl
theorem z86 : fldT Tryd.prog 29 1 = some 1 := by kernel_rfl
theorem zb1 : fldT Tryd.prog 29 2 = some 2 := by kernel_rfl
theorem zb2 : fldT Tryd.prog 29 3 = some 3 := by kernel_rfl
theorem zb3 : fldT Tryd.prog 29 4 = some 4 := by kernel_rfl
theorem zb4 : fldT Tryd.prog 29 5 = some 5 := by kernel_rfl
theorem sz52 : szT Tryd.prog 52 = some 5 := by kernel_rfl
theorem ze52 : (Tryd.prog.info? 52).bind (·.zero) = some (Go.Value.agg #[Go.Value.string { data := #[] }, Go.Value.string { data := #[] }, Go.Value.string { data := #[] }, Go.Value.bool false, Go.Value.bool false]) := by kernel_rfl
theorem ag52 : z3r Tryd.prog 52 = some true := by kernel_rfl
theorem by52 : ((Tryd.prog.info? 52).map (·.bytes)) = some 56 := by kernel_rfl
theorem zhi : fldT Tryd.prog 52 0 = some 0 := by kernel_rfl
theorem zhj : fldT Tryd.prog 52 1 = some 1 := by kernel_rfl
theorem zhk : fldT Tryd.prog 52 2 = some 2 := by kernel_rfl
theorem zlk : fldT Tryd.prog 52 3 = some 3 := by kernel_rfl
theorem zg6 : fldT Tryd.prog 52 4 = some 4 := by kernel_rfl
theorem sz59 : szT Tryd.prog 59 = some 9 := by kernel_rfl
theorem ze59 : (Tryd.prog.info? 59).bind (·.zero) = some (Go.Value.agg #[Go.Value.string { data := #[] }, Go.Value.string { data := #[] }, Go.Value.string { data := #[] }, Go.Value.int Go.IntKind.i64 0, Go.Value.int Go.IntKind.i64 0, Go.Value.int Go.IntKind.i64 0, Go.Value.int Go.IntKind.i64 0, Go.Value.int Go.IntKind.i64 0, Go.Value.int Go.IntKind.i64 0]) := by kernel_rfl
theorem ag59 : z3r Tryd.prog 59 = some true := by kernel_rfl
theorem by59 : ((Tryd.prog.info? 59).map (·.bytes)) = some 96 := by kernel_rfl
theorem zhl : fldT Tryd.prog 59 0 = some 0 := by kernel_rfl
theorem zhm : fldT Tryd.prog 59 1 = some 1 := by kernel_rfl
theorem zhn : fldT Tryd.prog 59 2 = some 2 := by kernel_rfl
theorem zj1 : fldT Tryd.prog 59 3 = some 3 := by kernel_rfl
theorem zj2 : fldT Tryd.prog 59 4 = some 4 := by kernel_rfl
theorem zj3 : fldT Tryd.prog 59 5 = some 5 := by kernel_rfl
theorem zg7 : fldT Tryd.prog 59 6 = some 6 := by kernel_rfl
theorem zj4 : fldT Tryd.prog 59 7 = some 7 := by kernel_rfl
theorem zj5 : fldT Tryd.prog 59 8 = some 8 := by kernel_rfl
theorem sz67 : szT Tryd.prog 67 = some 5 := by kernel_rfl
theorem ze67 : (Tryd.prog.info? 67).bind (·.zero) = some (Go.Value.agg #[Go.Value.string { data := #[] }, Go.Value.string { data := #[] }, Go.Value.int Go.IntKind.i64 0, Go.Value.int Go.IntKind.i64 0, Go.Value.int Go.IntKind.i64 0]) := by kernel_rfl
theorem ag67 : z3r Tryd.prog 67 = some true := by kernel_rfl
theorem by67 : ((Tryd.prog.info? 67).map (·.bytes)) = some 56 := by kernel_rfl
theorem zho : fldT Tryd.prog 67 0 = some 0 := by kernel_rfl
theorem zj6 : fldT Tryd.prog 67 1 = some 1 := by kernel_rfl
theorem zg8 : fldT Tryd.prog 67 2 = some 2 := by kernel_rfl
theorem zj7 : fldT Tryd.prog 67 3 = some 3 := by kernel_rfl
theorem zj8 : fldT Tryd.prog 67 4 = some 4 := by kernel_rfl
theorem sz71 : szT Tryd.prog 71 = some 3 := by kernel_rfl
theorem ze71 : (Tryd.prog.info? 71).bind (·.zero) = some (Go.Value.agg #[Go.Value.string { data := #[] }, Go.Value.string { data := #[] }, Go.Value.int Go.IntKind.i64 0]) := by kernel_rfl
theorem ag71 : z3r Tryd.prog 71 = some true := by kernel_rfl
theorem by71 : ((Tryd.prog.info? 71).map (·.bytes)) = some 40 := by kernel_rfl
theorem zhp : fldT Tryd.prog 71 0 = some 0 := by kernel_rfl
theorem zj9 : fldT Tryd.prog 71 1 = some 1 := by kernel_rfl
theorem zja : fldT Tryd.prog 71 2 = some 2 := by kernel_rfl
theorem sz75 : szT Tryd.prog 75 = some 5 := by kernel_rfl
theorem ze75 : (Tryd.prog.info? 75).bind (·.zero) = some (Go.Value.agg #[Go.Value.string { data := #[] }, Go.Value.string { data := #[] }, Go.Value.int Go.IntKind.i64 0, Go.Value.int Go.IntKind.i64 0, Go.Value.int Go.IntKind.i64 0]) := by kernel_rfl
theorem ag75 : z3r Tryd.prog 75 = some true := by kernel_rfl
theorem by75 : ((Tryd.prog.info? 75).map (·.bytes)) = some 56 := by kernel_rfl
theorem zhq : fldT Tryd.prog 75 0 = some 0 := by kernel_rfl
theorem zjb : fldT Tryd.prog 75 1 = some 1 := by kernel_rfl
theorem zjc : fldT Tryd.prog 75 2 = some 2 := by kernel_rfl
theorem zjd : fldT Tryd.prog 75 3 = some 3 := by kernel_rfl
theorem zje : fldT Tryd.prog 75 4 = some 4 := by kernel_rfl
theorem el82 : z7x Tryd.prog 82 = some 3 := by kernel_rfl
theorem ni87 : z7i Tryd.prog 87 = true := by kernel_rfl
theorem el87 : z7x Tryd.prog 87 = some 90 := by kernel_rfl
theorem sz90 : szT Tryd.prog 90 = some 4 := by kernel_rfl
theorem ze90 : (Tryd.prog.info? 90).bind (·.zero) = some (Go.Value.agg #[Go.Value.string { data := #[] }, Go.Value.slice none 0 0, Go.Value.bool false, Go.Value.bool false]) := by kernel_rfl
theorem ag90 : z3r Tryd.prog 90 = some true := by kernel_rfl
theorem by90 : ((Tryd.prog.info? 90).map (·.bytes)) = some 48 := by kernel_rfl
theorem zo90 : zei Tryd.prog 90 = true := by kernel_rfl
theorem pl90 : plcT Tryd.prog 90 = some [(0, 1), (1, 1), (2, 1), (3, 1)] := by kernel_rfl
theorem zkr : fldT Tryd.prog 90 0 = some 0 := by kernel_rfl
theorem zjf : fldT Tryd.prog 90 1 = some 1 := by kernel_rfl
theorem zll : fldT Tryd.prog 90 2 = some 2 := by kernel_rfl
theorem zlm : fldT Tryd.prog 90 3 = some 3 := by kernel_rfl
theorem zmh : (Tryd.prog.info? 104).bind (·.zero) = some (Go.Value.agg #[Go.Value.slice none 0 0]) := by kernel_rfl
theorem zg9 : fldT Tryd.prog 104 0 = some 0 := by kernel_rfl
theorem zln : z7x Tryd.prog 108 = some 5 := by kernel_rfl
theorem mixed : Tryd.prog.follows .mixedOrders = true := by kernel_rfl
end Go.Am.Tryd
/- Rows that are laid one behind the other: a list of lists that grows by append, each row with its block. -/
namespace Go.Am
open Go
noncomputable section
def tlT : Value -> List Value
 | .tuple ⟨_ :: ws⟩ => ws
 | _ => []
section
variable {G : GM} {H H1 : AH} {L : List Pc} {j : Nat} {a b e0 : Pc}
theorem Ow.part (O : Ow G H L) (hj : L[j]? = some e0) (a b : Pc) (ha : ∀ x ∈ a.foot, x ∈ e0.foot) (hb : ∀ x ∈ b.foot, x ∈ e0.foot) (hab : ∀ x ∈ a.foot, x ∉ b.foot) (oka : a.ok G H.get) (okb : b.ok G H.get) : Ow G H (a :: L.set j b) := by
 have hjl : j < L.length := (zAi hj).1
 have hset : ∀ (i : Nat) (x : Pc), (L.set j b)[i]? = some x -> (i = j /\ x = b) \/ (i ≠ j /\ L[i]? = some x) := fun i x hx => by
  rw [List.getElem?_set] at hx
  by_cases hij : j = i
  ·subst hij; simp [hjl] at hx; exact .inl ⟨rfl, hx.symm⟩
  ·rw [if_neg hij] at hx; exact .inr ⟨fun e => hij e.symm, hx⟩
 have hd : ∀ (i : Nat) (x : Pc), i ≠ j -> L[i]? = some x -> ∀ c ∈ e0.foot, c ∉ x.foot := fun i x hi hx => O.dis j i e0 x (fun e => hi e.symm) hj hx
 refine ⟨O.fro, fun i x hx => ?_, fun i i' x x' hii hx hx' c hc => ?_, fun i x hx c hc => ?_⟩
 ·cases i with
  | zero => simp at hx; subst hx; exact oka
  | succ i =>
   rcases hset i x (by simpa using hx) with ⟨rfl, rfl⟩ | ⟨_, h⟩
   ·exact okb
   ·exact O.ok i x h
 ·cases i with
  | zero =>
   simp at hx; subst hx
   cases i' with
   | zero => exact absurd rfl hii
   | succ i' =>
    rcases hset i' x' (by simpa using hx') with ⟨rfl, rfl⟩ | ⟨h1, h2⟩
    ·exact hab c hc
    ·exact hd i' x' h1 h2 c (ha c hc)
  | succ i =>
   rcases hset i x (by simpa using hx) with ⟨rfl, rfl⟩ | ⟨h1, h2⟩
   ·cases i' with
    | zero => simp at hx'; subst hx'; exact fun h => hab c h hc
    | succ i' =>
     rcases hset i' x' (by simpa using hx') with ⟨rfl, rfl⟩ | ⟨h3, h4⟩
     ·exact absurd rfl hii
     ·exact hd i' x' h3 h4 c (hb c hc)
   ·cases i' with
    | zero => simp at hx'; subst hx'; exact fun h => hd i x h1 h2 c (ha c h) hc
    | succ i' =>
     rcases hset i' x' (by simpa using hx') with ⟨rfl, rfl⟩ | ⟨h3, h4⟩
     ·exact fun h => hd i x h1 h2 c (hb c h) hc
     ·exact O.dis i i' x x' (by omega) h2 h4 c hc
 ·cases i with
  | zero => simp at hx; subst hx; exact O.apart j e0 hj c (ha c hc)
  | succ i =>
   rcases hset i x (by simpa using hx) with ⟨rfl, rfl⟩ | ⟨h1, h2⟩
   ·exact O.apart i e0 hj c (hb c hc)
   ·exact O.apart i x h2 c hc
end
structure SetOk {α : Type} (ws : List Value) (e2 : TypeId) (r : RT α) (xss : List (List α)) (G M : GM) : Prop where
 len : ws.length = xss.length
 row : ∀ (i : Nat) (w : Value), ws[i]? = some w -> ∃ es xs, xss[i]? = some xs /\ SlO e2 r.sz M w es /\ All2 (r.rep G) es xs
 dis : ∀ (i j : Nat) (w u : Value), i ≠ j -> ws[i]? = some w -> ws[j]? = some u -> ∀ b ∈ z8f w, b ∉ z8f u
section
variable {P : Program} {n : Nat} {σ : Nat -> Value} {H H1 : AH} {d : Tmp} {dd : Option Tmp} {ty t xt e e2 : TypeId} {pos : String} {af : Array Edge} {g : Option (Nat × Bool)} {v u w w' : Value} {x y : Operand}
 {G : GM} {L : List Pc} {j i : Nat} {α : Type} {r : RT α} {ws : List Value} {xs : List α} {xss : List (List α)}
end
end
end Go.Am
/- Plain lemmas for typed functions: loops over lists, texts, whole numbers. -/
namespace Go.Am
open Go
theorem kw {a : Int} (h1 : -9223372036854775808 <= a) (h2 : a <= 9223372036854775807) : z0u .i64 a = a := zbw (z94 h1 h2)
theorem kw1 {i n : Nat} (h : i < n) (hn : n <= 4611686018427387904) : z0u .i64 ((i : Int) + 1) = ((i + 1 : Nat) : Int) := by rw [kw (by omega) (by omega)]; omega
theorem z24 {α : Type} {xs : List α} {i : Nat} {x : α} (h : xs[i]? = some x) : idx xs (i : Int) = some x := by
 unfold idx
 rw [if_neg (by omega)]
 simpa using h
theorem z48 {i n : Nat} (h : i < n) : decide ((i : Int) < (n : Int)) = true := by simp; omega
theorem z2j {i n : Nat} (h : n <= i) : decide ((i : Int) < (n : Int)) = false := by simp; omega
@[simp] theorem Sum.elim_ite {α β γ : Type} (f : α -> γ) (g : β -> γ) (c : Prop) [Decidable c] (x y : α ⊕ β) : Sum.elim f g (if c then x else y) = if c then Sum.elim f g x else Sum.elim f g y := by split <;> rfl
def runS {α S E : Type} (chk : α -> S -> E ⊕ S) : List α -> S -> E ⊕ S
 | [], s => .inr s
 | x :: xs, s => Sum.elim .inl (runS chk xs) (chk x s)
theorem z5b {α S E : Type} (chk : α -> S -> E ⊕ S) : ∀ (xs ys : List α) (s : S), runS chk (xs ++ ys) s = Sum.elim .inl (runS chk ys) (runS chk xs s)
 | [], ys, s => rfl
 | x :: xs, ys, s => by
  simp only [List.cons_append, runS]
  cases chk x s with
  | inl e => rfl
  | inr s' => exact z5b chk xs ys s'
theorem z8j {α β S E : Type} (chk : β -> S -> E ⊕ S) (f : α -> β) : ∀ (xs : List α) (s : S), runS chk (xs.map f) s = runS (fun x => chk (f x)) xs s
 | [], s => rfl
 | x :: xs, s => by
  simp only [List.map_cons, runS]
  cases chk (f x) s with
  | inl e => rfl
  | inr s' => exact z8j chk f xs s'
theorem zjg {α S E : Type} (xs : List α) (l : Nat -> S -> Int -> Option (E ⊕ S)) (chk : α -> S -> E ⊕ S) (I : S -> Nat -> Prop)
  (h : ∀ k s (i : Nat) x, xs[i]? = some x -> I s i -> l (k + 1) s i = Sum.elim (fun e => some (.inl e)) (fun s' => l k s' ((i + 1 : Nat) : Int)) (chk x s))
  (hI : ∀ s (i : Nat) x s', xs[i]? = some x -> I s i -> chk x s = .inr s' -> I s' (i + 1))
  (h0 : ∀ k s (i : Nat), xs.length <= i -> l (k + 1) s i = some (.inr s)) : ∀ d k s (i : Nat), xs.length - i = d -> d < k -> I s i -> l k s i = some (runS chk (xs.drop i) s) := by
 intro d
 induction d with
 | zero =>
  intro k s i hd hk _
  obtain ⟨k, rfl⟩ : ∃ m, k = m + 1 := ⟨k - 1, by omega⟩
  rw [h0 k s i (by omega), List.drop_eq_nil_of_le (by omega)]; rfl
 | succ d ih =>
  intro k s i hd hk hi
  obtain ⟨k, rfl⟩ : ∃ m, k = m + 1 := ⟨k - 1, by omega⟩
  have hl : i < xs.length := by omega
  have hx : xs[i]? = some xs[i] := zAh hl
  rw [h k s i _ hx hi, List.drop_eq_getElem_cons hl, runS]
  cases hc : chk xs[i] s with
  | inl e => rfl
  | inr s' => exact ih k s' (i + 1) (by omega) (by omega) (hI s i _ s' hx hi hc)
theorem z80 {α S E : Type} (xs : List α) (l : Nat -> S -> Int -> Option (E ⊕ S)) (chk : α -> S -> E ⊕ S) (I : S -> Nat -> Prop)
  (h : ∀ k s (i : Nat) x, xs[i]? = some x -> I s i -> l (k + 1) s i = Sum.elim (fun e => some (.inl e)) (fun s' => l k s' ((i + 1 : Nat) : Int)) (chk x s))
  (hI : ∀ s (i : Nat) x s', xs[i]? = some x -> I s i -> chk x s = .inr s' -> I s' (i + 1))
  (h0 : ∀ k s (i : Nat), xs.length <= i -> l (k + 1) s i = some (.inr s)) (k : Nat) (s : S) (hk : xs.length < k) (hi : I s 0) : l k s 0 = some (runS chk xs s) := by
 have := zjg xs l chk I h hI h0 xs.length k s 0 (by omega) hk hi
 simpa using this
theorem zjh {α β : Type} (xs : List α) (l : Nat -> List β -> Int -> Option (List β)) (f : α -> β) (m : Nat)
  (h : ∀ k acc (i : Nat) x, xs[i]? = some x -> acc.length = m + i -> l (k + 1) acc i = l k (acc ++ [f x]) ((i + 1 : Nat) : Int))
  (h0 : ∀ k acc (i : Nat), xs.length <= i -> l (k + 1) acc i = some acc) : ∀ d k acc (i : Nat), xs.length - i = d -> d < k -> acc.length = m + i -> l k acc i = some (acc ++ (xs.drop i).map f) := by
 intro d
 induction d with
 | zero =>
  intro k acc i hd hk _
  obtain ⟨k, rfl⟩ : ∃ m, k = m + 1 := ⟨k - 1, by omega⟩
  rw [h0 k acc i (by omega), List.drop_eq_nil_of_le (by omega)]; simp
 | succ d ih =>
  intro k acc i hd hk hi
  obtain ⟨k, rfl⟩ : ∃ m, k = m + 1 := ⟨k - 1, by omega⟩
  have hl : i < xs.length := by omega
  have hx : xs[i]? = some xs[i] := zAh hl
  rw [h k acc i _ hx hi, ih k _ (i + 1) (by omega) (by omega) (by simp; omega), List.drop_eq_getElem_cons hl]
  simp only [List.map_cons, List.append_assoc, List.singleton_append]
theorem z5h {α β : Type} (xs : List α) (l : Nat -> List β -> Int -> Option (List β)) (f : α -> β) (acc : List β)
  (h : ∀ k acc' (i : Nat) x, xs[i]? = some x -> acc'.length = acc.length + i -> l (k + 1) acc' i = l k (acc' ++ [f x]) ((i + 1 : Nat) : Int))
  (h0 : ∀ k acc (i : Nat), xs.length <= i -> l (k + 1) acc i = some acc) (k : Nat) (hk : xs.length < k) : l k acc 0 = some (acc ++ xs.map f) := by
 have := zjh xs l f acc.length h h0 xs.length k acc 0 (by omega) hk (by simp)
 simpa using this
theorem za5 {α S T E : Type} (chk : α -> S -> E ⊕ S) (g : S -> T) (chk' : α -> T -> E ⊕ T) (h : ∀ x s, chk' x (g s) = Sum.elim .inl (fun s' => .inr (g s')) (chk x s)) :
  ∀ (xs : List α) (s : S), runS chk' xs (g s) = Sum.elim .inl (fun s' => .inr (g s')) (runS chk xs s)
 | [], s => rfl
 | x :: xs, s => by
  simp only [runS]
  rw [h]
  cases chk x s with
  | inl e => rfl
  | inr s' => exact za5 chk g chk' h xs s'
theorem z6a {a b : zAd} : sEq a b = true ↔ a = b := by
 unfold sEq
 rw [beq_iff_eq, ByteArray.toList_eq, ByteArray.toList_eq]
 constructor
 ·intro h
  cases a; cases b
  simp at h
  rw [h]
 ·rintro rfl; rfl
theorem zga (a b : zAd) : sEq a b = sEq b a := by
 cases h : sEq a b with
 | true => rw [z6a] at h; subst h; exact (z6a.2 rfl).symm
 | false =>
  cases h' : sEq b a with
  | true => rw [z6a] at h'; subst h'; rw [z6a.2 rfl] at h; cases h
  | false => rfl
theorem z5i (a : zAd) : (z1u a).length = a.size := by unfold z1u; rw [List.length_map, Array.length_toList]; rfl
theorem zi7 (a : zAd) (i : Int) : bidx a i = idx (z1u a) i := by
 unfold bidx idx
 by_cases h : 0 <= i
 ·rw [if_pos h, if_neg (by omega)]
  unfold z1u
  rw [List.getElem?_map, Array.getElem?_toList]
  rfl
 ·rw [if_neg h, if_pos (by omega)]
end Go.Am
/- Returns of printed walks: what a function's end asks, once for all returns. -/
namespace Go.Am
open Go
noncomputable section
def RK (P : Program) (fn : Func) (n : Nat) (G : GM) (L : List Pc) (Φ : Value -> GM -> AH -> Prop) (R : Value -> AH -> Prop) : Prop := ∀ v H' G', Ow G' H' L -> G.le G' -> Φ v G' H' -> R v H'
def RKF (P : Program) (fn : Func) (n : Nat) (G : GM) (LF : Value -> List Pc) (Φ : Value -> Value -> GM -> Prop) (R : Value -> AH -> Prop) : Prop := ∀ w v H' G', Ow G' H' (LF w) -> G.le G' -> Φ w v G' -> R v H'
section
variable {P : Program} {n : Nat} {σ : Nat -> Value} {H : AH} {fn : Func} {G G' : GM} {L : List Pc} {R : Value -> AH -> Prop} {f : FuncId} {c : Code} {args : List Value} {r1 r2 r3 r4 r5 : ResultVar} {v1 v2 v3 v4 v5 : Value}
 {Φ : Value -> GM -> AH -> Prop} {LF : Value -> List Pc} {Ψ : Value -> Value -> GM -> Prop}
theorem CR.og (hf : P.funcs[f]? = some fn) (hb : fn.body = some c) (hn : max fn.ntmps args.length = n) (h : ∀ R, RK P fn n G L Φ R -> AW P n c (fun t => args.getD t undef) H (retQ P fn n R)) : CR P f args G H L Φ :=
 CR.of (zbb (R := fun v H' => ∃ G', Ow G' H' L /\ G.le G' /\ Φ v G' H') hf hb hn (h _ fun v H' G' a b c => ⟨G', a, b, c⟩))
theorem CRF.og (hf : P.funcs[f]? = some fn) (hb : fn.body = some c) (hn : max fn.ntmps args.length = n) (h : ∀ R, RKF P fn n G LF Ψ R -> AW P n c (fun t => args.getD t undef) H (retQ P fn n R)) : CRF P f args G H LF Ψ :=
 CRF.of (zbb (R := fun v H' => ∃ w G', Ow G' H' (LF w) /\ G.le G' /\ Ψ w v G') hf hb hn (h _ fun w v H' G' a b c => ⟨w, G', a, b, c⟩))
theorem zlo (k : RKF P fn n G LF Ψ R) (w : Value) (hr : fn.results.toList = []) (O : Ow G' H (LF w)) (s : G.le G') (h : Ψ w (.tuple #[]) G') : retQ P fn n R .ret σ H := zme hr (k w _ _ _ O s h)
theorem z41 (k : RK P fn n G L Φ R) (hr : fn.results.toList = [r1]) (h1 : RR P n σ H r1 v1) (O : Ow G' H L) (s : G.le G') (h : Φ v1 G' H) : retQ P fn n R .ret σ H := zm5 hr h1 (k _ _ _ O s h)
theorem zhr (k : RK P fn n G L Φ R) (hr : fn.results.toList = [r1, r2]) (h1 : RR P n σ H r1 v1) (h2 : RR P n σ H r2 v2) (O : Ow G' H L) (s : G.le G') (h : Φ (.tuple #[v1, v2]) G' H) : retQ P fn n R .ret σ H := zm6 hr h1 h2 (k _ _ _ O s h)
theorem zi8 (k : RK P fn n G L Φ R) (hr : fn.results.toList = [r1, r2, r3]) (h1 : RR P n σ H r1 v1) (h2 : RR P n σ H r2 v2) (h3 : RR P n σ H r3 v3) (O : Ow G' H L) (s : G.le G') (h : Φ (.tuple #[v1, v2, v3]) G' H) : retQ P fn n R .ret σ H := zmf hr h1 h2 h3 (k _ _ _ O s h)
theorem z4a (k : RKF P fn n G LF Ψ R) (w : Value) (hr : fn.results.toList = [r1]) (h1 : RR P n σ H r1 v1) (O : Ow G' H (LF w)) (s : G.le G') (h : Ψ w v1 G') : retQ P fn n R .ret σ H := zm5 hr h1 (k w _ _ _ O s h)
theorem zji (k : RKF P fn n G LF Ψ R) (w : Value) (hr : fn.results.toList = [r1, r2]) (h1 : RR P n σ H r1 v1) (h2 : RR P n σ H r2 v2) (O : Ow G' H (LF w)) (s : G.le G') (h : Ψ w (.tuple #[v1, v2]) G') : retQ P fn n R .ret σ H := zm6 hr h1 h2 (k w _ _ _ O s h)
theorem zlp {s : List Value} {x y : Operand} {d t ty yt : Nat} {pos : String} {af : Array Edge} {g : Option (Nat × Bool)} {op : BinOp} {v u : Value} {b : Bool} (h1 : opnd s x = some v) (h2 : opnd s y = some u) (hc1 : closed v = true) (hc2 : closed u = true) (hab : abin op v u = none)
  (hr : (do eqGuard op t x y v u; Go.binOp op t v u : Sem Value).pureRun P = some (.bool b)) : z32 P s ⟨some d, .binOp op t x y yt, ty, pos, af, g⟩ = some (.bool b) := by
 have hag : agen P s ⟨some d, .binOp op t x y yt, ty, pos, af, g⟩ = some (.bool b) := by
  unfold agen
  rw [if_neg (by simp [zeh]), if_pos (by simp [Op.operands, h1, h2, hc1, hc2])]
  have : (execOp (fun x => (opnd s x).getD undef) ⟨some d, .binOp op t x y yt, ty, pos, af, g⟩).pureRun P = some (.value (.bool b)) := by
   simp only [execOp, h1, h2, Option.getD_some]
   rw [z0w] at hr ⊢
   simp [hr, z0w, z2s]
  rw [this]
  simp [closed, z2h]
 unfold z32
 simp only [h1, h2, Option.bind_some]
 rw [hab]
 simp only [hc1, hc2, Bool.and_self, if_true]
 exact hag
theorem zeq {α : Type} {r : RT α} {v : Value} {xs : List α} (h : (rSl r).rep G [v] xs) : (v = .slice none 0 0 /\ xs = []) \/ ∃ a l c, v = .slice (some a) l c := by
 obtain ⟨v', es, hv, h2, h3⟩ := h
 cases hv
 rcases h2.2 with ⟨h4, h5⟩ | ⟨b, off, tg, cap, k, h4, _⟩ | ⟨b, off, tg, cap, h4, _⟩
 ·subst h5; cases h3; exact .inl ⟨h4, rfl⟩
 ·exact .inr ⟨_, _, _, h4⟩
 ·exact .inr ⟨_, _, _, h4⟩
theorem zer {s : List Value} {x y : Operand} {d t e ty yt : Nat} {pos : String} {af : Array Edge} {g : Option (Nat × Bool)} {v : Value} (he : z7x P t = some e) (h1 : opnd s x = some v) (h2 : opnd s y = some (.slice none 0 0)) (hv : v = .slice none 0 0) : z32 P s ⟨some d, .binOp .eql t x y yt, ty, pos, af, g⟩ = some (.bool true) := by
 subst hv
 have hu := z02 he
 refine zlp h1 h2 rfl rfl rfl ?_
 have e1 : (eqGuard .eql t x y (.slice none 0 0) (.slice none 0 0) : Sem Unit) = pure () := rfl
 have e2 : (Go.binOp .eql t (.slice none 0 0) (.slice none 0 0) : Sem Value) = (do pure (.bool (<- Op.equal t (.slice none 0 0) (.slice none 0 0)))) := rfl
 have h : Op.maxDepth = 9999 + 1 := rfl
 have e3 : (Op.equal t (.slice none 0 0) (.slice none 0 0)).pureRun P = some true := by
  rw [Op.equal, h, Op.equalIn, z0w, z34 hu, Option.bind_some]; rfl
 rw [e1, e2, z0w, z2s, Option.bind_some, z0w, e3]
 rfl
theorem zes {s : List Value} {x y : Operand} {d t e ty yt : Nat} {pos : String} {af : Array Edge} {g : Option (Nat × Bool)} {v : Value} {a : Addr} {l c : Nat} (he : z7x P t = some e) (h1 : opnd s x = some v) (h2 : opnd s y = some (.slice none 0 0)) (hv : v = .slice (some a) l c) : z32 P s ⟨some d, .binOp .eql t x y yt, ty, pos, af, g⟩ = some (.bool false) := by
 subst hv
 have hu := z02 he
 unfold z32
 simp only [h1, h2, Option.bind_some]
 rw [show abin .eql (.slice (some a) l c) (.slice none 0 0) = none from rfl]
 simp [closed, z2h, aNil, hu]
end
end
end Go.Am
/- The place of a byte in a text: the library's function, by the shelf's contract, as a typed function. -/
namespace Go.Am.Tryd
open Go Go.Am Go.Proofs
end Go.Am.Tryd
/- slices.Delete: what an append of a slice's end to its beginning, and clear, do to a slice of one's own. -/
namespace Go.Am
open Go
noncomputable section
section
variable {P : Program} {s : List Value} {d : Tmp} {ty t e : TypeId} {pos : String} {af : Array Edge} {g : Option (Nat × Bool)} {x : Operand}
theorem z9i {b off len cap sz i j m : Nat} {tg : Option Nat} {k1 k2 k3 : IntKind} {xl xh xm : Operand} (he : z7x P t = some e) (hz : szT P e = some sz) (hx : opnd s x = some (.slice (some ⟨b, off, tg⟩) len cap)) (h1 : opnd s xl = some (.int k1 i)) (h2 : opnd s xh = some (.int k2 j)) (h3 : opnd s xm = some (.int k3 m)) (hij : i <= j) (hjm : j <= m) (hm : m <= cap) (hc : len <= cap) (ht : tg = none \/ tg = some 0) :
  z32 P s ⟨some d, .slice t x (some xl) (some xh) (some xm), ty, pos, af, g⟩ = some (.slice (some ⟨b, off + i * sz, some 0⟩) (j - i) (m - i)) := by
 obtain ⟨inf, hi, rfl⟩ := z4w hz
 simp [z32, hx, h1, h2, h3, zf2, zbg, z02 he, hi, bnd, hij, hjm, hm, hc, ht]
theorem z81 {b off len cap sz i j : Nat} {tg : Option Nat} {k1 k2 : IntKind} {xl xh : Operand} (he : z7x P t = some e) (hz : szT P e = some sz) (hx : opnd s x = some (.slice (some ⟨b, off, tg⟩) len cap)) (h1 : opnd s xl = some (.int k1 i)) (h2 : opnd s xh = some (.int k2 j)) (hij : i <= j) (hj : j <= cap) (hc : len <= cap) (ht : tg = none \/ tg = some 0) :
  z32 P s ⟨some d, .slice t x (some xl) (some xh) none, ty, pos, af, g⟩ = some (.slice (some ⟨b, off + i * sz, tg⟩) (j - i) (cap - i)) := by
 obtain ⟨inf, hi, rfl⟩ := z4w hz
 simp [z32, hx, h1, h2, zf2, zbg, z02 he, hi, bnd, hij, hj, hc, ht]
end
section
variable {α : Type} {r : RT α} {P : Program} {n : Nat} {σ : Nat -> Value} {G : GM} {H : AH} {L : List Pc} {d : Tmp} {dd : Option Tmp} {ty t xt e : TypeId} {pos : String} {af : Array Edge} {g : Option (Nat × Bool)} {x y : Operand} {xs : List α}
theorem Ow.slForm {q : Nat} {v : Value} (O : Ow G H L) (hj : L[q]? = some (eSl v e r xs)) (hne : xs ≠ []) : ∃ b tg cap, v = .slice (some ⟨b, 0, tg⟩) xs.length cap /\ xs.length <= cap /\ (tg = none \/ tg = some 0) := by
 obtain ⟨es, hso, hre⟩ := O.ok q _ hj
 have e1 := hre.length
 rcases hso with ⟨rfl, rfl⟩ | ⟨b, tg, cap, rest, sz', rfl, hb, hl, hcap, htg⟩
 ·exact absurd (List.length_eq_zero_iff.1 (by simpa using e1.symm)) hne
 ·exact ⟨b, tg, cap, by rw [e1], by omega, htg.imp And.left id⟩
theorem Lo.cutSl {b cap i j q : Nat} {tg : Option Nat} {z : Value} (hj : L[q]? = some (eSl (.slice (some ⟨b, 0, tg⟩) xs.length cap) e r xs)) (hd : (ook n x && ook n y) = true) (he : z7x P t = some e) (hxt : z7i P xt = true) (hz : (P.info? e).bind (·.zero) = some z) (hsz : szT P e = some r.sz)
  (hzs : (decide (z.cells.size = r.sz) && decide (0 < r.sz)) = true) (hx : oval σ x = .slice (some ⟨b, 0, tg⟩) i cap) (hy : oval σ y = .slice (some ⟨b, 0 + j * r.sz, tg⟩) (xs.length - j) (cap - j)) (hij : i <= j) (hjn : j <= xs.length) (O : Ow G H L) :
  Loud P n ⟨some d, .call ⟨.builtin .append, #[x, y], #[t, xt]⟩, ty, pos, af, g⟩ σ H fun v' H1 => v' = .slice (some ⟨b, 0, tg⟩) (i + (xs.length - j)) cap /\ Ow G H1 (L.set q (eSl (.slice (some ⟨b, 0, tg⟩) (i + (xs.length - j)) cap) e r (xs.take i ++ xs.drop j))) := by
 simp only [Bool.and_eq_true] at hd
 obtain ⟨inf, hi, hsz⟩ := z4w hsz
 simp only [hi, Option.bind_some] at hz
 simp only [Bool.and_eq_true, decide_eq_true_eq] at hzs
 obtain ⟨es, hso, hre⟩ := O.ok q _ hj
 have e1 := hre.length
 rcases hso with ⟨h, _⟩ | ⟨b', tg', cap', rest, sz', h, hb, hl, hcap, htg⟩
 ·cases h
 simp only [Value.slice.injEq, Option.some.injEq, Addr.mk.injEq, true_and] at h
 obtain ⟨⟨rfl, rfl⟩, _, rfl⟩ := h
 have hes := hre.each
 have hfl := z45 hes
 have hcond : (z7i P xt && decide (z.cells.size = inf.size) && decide (0 < inf.size)) = true := by simp [hxt, hzs, hsz]
 have hm1 : i * r.sz <= j * r.sz := Nat.mul_le_mul_right _ hij
 have hm2 : j * r.sz <= es.length * r.sz := Nat.mul_le_mul_right _ (by omega)
 have hm3 : (es.length - j) * r.sz + j * r.sz = es.length * r.sz := by rw [<- Nat.add_mul]; congr 1; omega
 have hm4 : (i + (es.length - j)) * r.sz = i * r.sz + (es.length - j) * r.sz := Nat.add_mul _ _ _
 have hlc : es.flatten.length + rest.length = cap * r.sz := by simpa using hl
 have hnew : ((es.flatten ++ rest).drop (0 + j * r.sz)).take ((xs.length - j) * r.sz) = (es.drop j).flatten := by
  rw [Nat.zero_add, List.drop_append_of_le_length (by omega), List.take_append_of_le_length (by rw [List.length_drop, hfl, <- e1]; omega), zdy _ _ hes, List.take_of_length_le]
  rw [z45 (fun e he => hes e (List.mem_of_mem_drop he)), List.length_drop, e1]; exact Nat.le_refl _
 have hnl : (es.drop j).flatten.length = (es.length - j) * r.sz := by rw [z45 (fun e he => hes e (List.mem_of_mem_drop he)), List.length_drop]
 have hcells : z2i (es.flatten ++ rest) (0 + i * r.sz) (es.drop j).flatten = (es.take i ++ es.drop j).flatten ++ (es.flatten ++ rest).drop (i * r.sz + (es.length - j) * r.sz) := by
  unfold z2i
  rw [Nat.zero_add, List.take_append_of_le_length (by omega), zai _ _ hes, List.flatten_append, hnl]
 have hre2 : All2 (r.rep G) (es.take i ++ es.drop j) (xs.take i ++ xs.drop j) := (hre.take i).append (hre.drop j)
 have hl2 : (es.take i ++ es.drop j).length = i + (xs.length - j) := by simp; omega
 have hfl2 : (es.take i ++ es.drop j).flatten.length = (i + (es.length - j)) * r.sz := by rw [z45 hre2.each, hl2, e1]
 have key : ∀ cells1 : List Value, cells1 = (es.take i ++ es.drop j).flatten ++ (es.flatten ++ rest).drop (i * r.sz + (es.length - j) * r.sz) -> ∀ H1 : AH, H1.get b = some ⟨cells1, e, sz', true⟩ -> (∀ c k, H.get c = some k -> c ≠ b -> H1.get c = some k) ->
   Ow G H1 (L.set q (eSl (.slice (some ⟨b, 0, tg⟩) (i + (xs.length - j)) cap) e r (xs.take i ++ xs.drop j))) := fun cells1 hc1 H1 g1 g2 => by
  refine O.put hj _ (fun c hc => .inl hc) ⟨_, .inr ⟨b, tg, cap, (es.flatten ++ rest).drop (i * r.sz + (es.length - j) * r.sz), sz', by rw [hl2], by rw [g1, hc1], ?_, by omega, htg⟩, hre2⟩ fun c k hk hc => g2 c k hk fun h => hc (by simp [eSl, z8f, h])
  rw [List.length_append, hfl2, List.length_drop, List.length_append, hlc]
  omega
 have hxx := oo hd.1 hx
 have hyy := oo hd.2 hy
 by_cases h0 : xs.length - j = 0
 ·refine ⟨.slice (some ⟨b, 0, tg⟩) i cap, H, z3n ?_, by rw [h0]; rfl, key (es.flatten ++ rest) ?_ H hb fun c k hk _ => hk⟩
  ·rw [h0] at hyy
   have ha : z4v P #[t, xt] (.slice (some ⟨b, 0, tg⟩) i cap) (.slice (some ⟨b, 0 + j * r.sz, tg⟩) 0 (cap - j)) H = some (.slice (some ⟨b, 0, tg⟩) i cap, H) := by
    simp only [z4v, List.getElem?_toArray, List.getElem?_cons_zero, List.getElem?_cons_succ, z02 he, hi, hz, Option.bind_some, hcond, if_true, asrc, Option.map_none, Option.getD_none]
    rw [if_pos (by exact ⟨trivial, by omega⟩)]
   simp only [zax, z32, z71, z4d, z8g, List.toList_toArray, hxx, hyy, Option.bind_some]
   exact ha
  ·have hje : j = es.length := by omega
   rw [hje, List.drop_length, List.append_nil, Nat.sub_self, Nat.zero_mul, Nat.add_zero, <- zai _ _ hes]
   conv => lhs; rw [<- List.take_append_drop (i * r.sz) (es.flatten ++ rest)]
   rw [List.take_append_of_le_length (by omega)]
 ·have hfit : 0 + (i + (xs.length - j)) * inf.size <= (es.flatten ++ rest).length := by
   rw [hsz, <- e1, hm4, List.length_append, hlc]
   have := Nat.mul_le_mul_right r.sz hcap
   omega
  have hok := All2.okFlat (hre.drop j)
  have ha : z4v P #[t, xt] (.slice (some ⟨b, 0, tg⟩) i cap) (.slice (some ⟨b, 0 + j * r.sz, tg⟩) (xs.length - j) (cap - j)) H = some (.slice (some ⟨b, 0, tg⟩) (i + (xs.length - j)) cap, H.set b (some ⟨z2i (es.flatten ++ rest) (0 + i * r.sz) (es.drop j).flatten, e, sz', true⟩)) := by
   have hsrc : asrc (.slice (some ⟨b, 0 + j * r.sz, tg⟩) (xs.length - j) (cap - j)) inf.size H.get none = some (xs.length - j, (es.drop j).flatten) := by
    have hc2 : 0 + j * r.sz + (xs.length - j) * inf.size <= (es.flatten ++ rest).length := by
     rw [hsz, <- e1, List.length_append, hlc]
     have := Nat.mul_le_mul_right r.sz hcap
     omega
    cases hq : xs.length - j with
    | zero => exact absurd hq h0
    | succ m =>
     rw [hq] at hnew hc2
     simp only [asrc, Option.map_none, Option.getD_none, hb, Option.bind_some]
     rw [if_neg (by omega), if_pos hc2, hsz, hnew]
   simp only [z4v, List.getElem?_toArray, List.getElem?_cons_zero, List.getElem?_cons_succ, z02 he, hi, hz, Option.bind_some, hcond, if_true, hsrc]
   rw [if_neg (by omega)]
   simp only [hb, Option.bind_some]
   rw [if_pos (by omega), if_pos (by simp only [hok, Bool.true_and, Bool.and_true, decide_eq_true_eq]; exact hfit), hsz]
  have hs2 := SetB.set (k' := ⟨z2i (es.flatten ++ rest) (0 + i * r.sz) (es.drop j).flatten, e, sz', true⟩) hb
  refine ⟨_, _, z3n ?_, rfl, key _ hcells _ hs2.get fun c k hk hc => hs2.old hk hc⟩
  simp only [zax, z32, z71, z4d, z8g, List.toList_toArray, hxx, hyy, Option.bind_some]
  exact ha
theorem Lo.clearTail {b cap l k c2 q : Nat} {tg tg2 : Option Nat} {z : Value} (hj : L[q]? = some (eSl (.slice (some ⟨b, 0, tg⟩) xs.length cap) e r xs)) (hd : (dok n dd && ook n x) = true) (he : z7x P t = some e) (hz : (P.info? e).bind (·.zero) = some z) (hsz : szT P e = some r.sz)
  (hzs : (z.cells.all z2h && (z.cells.size != 0)) = true) (hzz : z.cells.size = r.sz) (hx : oval σ x = .slice (some ⟨b, 0 + l * r.sz, tg2⟩) k c2) (hl : xs.length <= l) (hk : l + k <= cap) (O : Ow G H L) :
  Loud P n ⟨dd, .call ⟨.builtin .clear, #[x], #[t]⟩, ty, pos, af, g⟩ σ H fun _ H1 => Ow G H1 L := by
 simp only [Bool.and_eq_true] at hd
 obtain ⟨inf, hi, hsz⟩ := z4w hsz
 simp only [hi, Option.bind_some] at hz
 obtain ⟨es, hso, hre⟩ := O.ok q _ hj
 have e1 := hre.length
 rcases hso with ⟨h, _⟩ | ⟨b', tg', cap', rest, sz', h, hb, hlen, hcap, htg⟩
 ·cases h
 simp only [Value.slice.injEq, Option.some.injEq, Addr.mk.injEq, true_and] at h
 obtain ⟨⟨rfl, rfl⟩, _, rfl⟩ := h
 have hfl := z45 hre.each
 have hxx := oo hd.2 hx
 cases k with
 | zero =>
  refine ⟨.tuple #[], H, z3n ?_, O⟩
  simp only [zax, z32, z71, z4d, z8g, List.toList_toArray, hxx, Option.bind_some, zej, List.getElem?_toArray, List.getElem?_cons_zero, z02 he]
 | succ k =>
  have hzl := z6e z.cells ((k + 1) * z.cells.size)
  have hm1 : es.length * r.sz <= l * r.sz := Nat.mul_le_mul_right _ (by omega)
  have hm2 := Nat.mul_le_mul_right r.sz hk
  rw [Nat.add_mul] at hm2
  simp only [Bool.and_eq_true, bne_iff_ne, ne_eq] at hzs
  have hok : okCells (z43 z.cells ((k + 1) * z.cells.size)) = true := by
   have h1 := z6f hzs.1 hzs.2 ((k + 1) * z.cells.size)
   unfold okCells
   rw [List.all_eq_true] at h1 ⊢
   intro v hv
   have h2 := h1 v hv
   cases v <;> first | rfl | (simp [z2h] at h2)
  have hfit : 0 + l * r.sz + (z43 z.cells ((k + 1) * z.cells.size)).length <= (es.flatten ++ rest).length := by rw [hzl, hzz, hlen]; omega
  obtain ⟨H1, h1, h2⟩ := za3 (k := ⟨es.flatten ++ rest, e, sz', true⟩) hb rfl hok hfit
  have hcells : z2i (es.flatten ++ rest) (0 + l * r.sz) (z43 z.cells ((k + 1) * z.cells.size)) = es.flatten ++ z2i rest (0 + l * r.sz - es.flatten.length) (z43 z.cells ((k + 1) * z.cells.size)) := by
   unfold z2i
   rw [List.take_append, List.take_of_length_le (by omega), List.drop_append, List.drop_of_length_le (by omega), List.nil_append, List.append_assoc, List.append_assoc, List.append_assoc]
   congr 4
   omega
  refine ⟨.tuple #[], H1, z3n ?_, ?_⟩
  ·simp only [zax, z32, z71, z4d, z8g, List.toList_toArray, hxx, Option.bind_some, zej, List.getElem?_toArray, List.getElem?_cons_zero, z02 he, hi, hz]
   rw [if_pos (by simp [hzs]), h1]; rfl
  ·have h3 := O.put hj (eSl (.slice (some ⟨b, 0, tg⟩) xs.length cap) e r xs) (fun c hc => .inl hc) ⟨es, .inr ⟨b, tg, cap, _, sz', by rw [e1], by rw [h2.get, hcells], ?_, hcap, htg⟩, hre⟩ fun c k hk hc => h2.old hk fun h => hc (by simp [eSl, z8f, h])
   ·have h4 : L.set q (eSl (.slice (some ⟨b, 0, tg⟩) xs.length cap) e r xs) = L := by
     apply List.ext_getElem?
     intro m
     rw [List.getElem?_set]
     split
     ·rename_i hm
      subst hm
      rw [hj]
      split
      ·rfl
      ·rename_i hq
       rw [List.getElem?_eq_none (by omega)] at hj; cases hj
     ·rfl
    rwa [h4] at h3
   ·rw [List.length_append, z4c (by rw [hzl, hzz] at *; simp only [List.length_append] at hfit hlen; omega)]
    simpa using hlen
end
end
end Go.Am
/- Objects behind pointers that a function makes, or nil; pointers compared with nil. -/
namespace Go.Am
open Go
noncomputable section
def oV (w : Value) (i : Nat) : Value := (tlT w).getD i .nilFunc
section
variable {P : Program} {n : Nat} {σ : Nat -> Value} {G : GM} {d : Tmp} {ty t e : TypeId} {pos : String} {af : Array Edge} {g : Option (Nat × Bool)} {x y : Operand} {α : Type} {r : RT α}
theorem Al.makeSlice {a c : Int} {k1 k2 : IntKind} {z : Value} {x0 : α} {c1 : Nat} (hd : (ook n x && ook n y) = true) (he : z7x P t = some e) (hz : (P.info? e).bind (·.zero) = some z) (hsz : szT P e = some r.sz) (hsc : (z.cells.all z2h && (z.cells.size != 0)) = true) (hzs : z.cells.size = r.sz)
  (hby : ((P.info? e).map (·.bytes)) = some c1) (hb : c1 <= 1048576) (hx : oval σ x = .int k1 a) (hy : oval σ y = .int k2 c) (h : 0 <= a /\ a <= c /\ c <= 16777216) (hr : ∀ G, r.rep G z.cells.toList x0) :
  AlOk P n ⟨some d, .makeSlice t x y, ty, pos, af, g⟩ σ G (fun b => .slice (some ⟨b, 0, some 0⟩) a.toNat c.toNat) (fun b => eSl (.slice (some ⟨b, 0, some 0⟩) a.toNat c.toNat) e r (List.replicate a.toNat x0)) := by
 simp only [Bool.and_eq_true] at hd
 obtain ⟨inf, hi, hsz⟩ := z4w hsz
 simp only [hi, Option.bind_some, Option.map_some, Option.some.injEq] at hz hby
 subst hby
 obtain ⟨h0, h1, h2⟩ := h
 refine ⟨⟨z43 z.cells (c.toNat * inf.size), e, 1, true⟩, .sl a.toNat c.toNat (some 0), ?_, fun b => ⟨rfl, rfl, fun M hM => ?_⟩⟩
 ·have hbnd : inf.bytes * c.toNat <= 2 ^ 48 := Nat.le_trans (Nat.mul_le_mul hb (show c.toNat <= 16777216 by omega)) (by decide)
  have hbnd' : (inf.bytes : Int) * c <= 2 ^ 48 := by
   have : ((inf.bytes * c.toNat : Nat) : Int) <= ((2 ^ 48 : Nat) : Int) := Int.ofNat_le.2 hbnd
   rw [Int.natCast_mul, Int.toNat_of_nonneg (by omega)] at this
   simpa using this
  have hdec : (z.cells.all z2h && (z.cells.size != 0) && decide (0 <= a /\ a <= c /\ c <= 2 ^ 47 /\ (inf.bytes : Int) * c <= 2 ^ 48)) = true := by
   rw [hsc, Bool.true_and, decide_eq_true_iff]
   exact ⟨h0, h1, by omega, hbnd'⟩
  simp only [z4d, z02 he, oo hd.1 hx, oo hd.2 hy, hi, hz, Option.bind_some, hdec, if_true]
 ·rw [hsz, <- hzs, zcf] at hM
  refine ⟨List.replicate a.toNat z.cells.toList, .inr ⟨b, some 0, c.toNat, (List.replicate (c.toNat - a.toNat) z.cells.toList).flatten, 1, by simp, ?_, ?_, by simp; omega, .inr rfl⟩, All2.replicate (hr _) _⟩
  ·rw [hM, <- List.flatten_append, List.replicate_append_replicate]; congr 5; omega
  ·rw [<- List.flatten_append, List.replicate_append_replicate, z45 (sz := r.sz) (by intro q hq; rw [List.mem_replicate] at hq; rw [hq.2]; simpa using hzs)]
   rw [List.length_replicate]; congr 1; omega
end
section
variable {P : Program}
end
end
end Go.Am
/- Structs that hold slices of one's own: stored whole, told anew. -/
namespace Go.Am
open Go
noncomputable section
section
variable {P : Program} {n : Nat} {σ : Nat -> Value} {G : GM} {H : AH} {L : List Pc} {dd : Option Tmp} {ty t e : TypeId} {pos : String} {af : Array Edge} {g : Option (Nat × Bool)} {x y : Operand} {α β : Type} {r : RT α} {s : RT β} {j : Nat} {v : Value}
theorem Lo.storeW {b : Nat} {x0 : α} {y0 : β} (hj : L[j]? = some (eVar b e r x0)) (hrs : r.sz = s.sz) (hd : (ook n x && ook n y) = true) (hz : szT P t = some s.sz) (hx : oval σ x = .pointer (some ⟨b, 0, none⟩)) (hy : oval σ y = v) (hv : s.rep G v.cells.toList y0) (O : Ow G H L) :
  Loud P n ⟨dd, .store t x y, ty, pos, af, g⟩ σ H fun v H1 => Ow G H1 (L.set j (eVar b e s y0)) /\ ∀ b', b' ≠ b -> H1.get b' = H.get b' := by
 obtain ⟨cs, h1, h2⟩ := O.ok j _ hj
 have hsz : v.cells.size = s.sz := by simpa using s.len hv
 have hl := r.len h2
 obtain ⟨H1, h3, h4⟩ := z96 (P := P) (dd := dd) (ty := ty) (pos := pos) (af := af) (g := g) hd hz hx hy h1 rfl hsz (s.one hv) (by simp; omega)
 have hsp : z2i cs 0 v.cells.toList = v.cells.toList := by
  have : v.cells.toList.length = s.sz := by simpa using hsz
  unfold z2i
  rw [List.take_zero, List.nil_append, List.drop_of_length_le (by omega), List.append_nil]
 refine ⟨_, H1, h4, O.put hj _ (fun b' hb' => .inl hb') ⟨_, h3.get, ?_⟩ (fun b' k hk hb' => h3.old hk (by simpa [eVar] using hb')), h3.other⟩
 show s.rep G (z2i cs 0 v.cells.toList) y0
 rw [hsp]; exact hv
theorem Ow.recell {b : Nat} {x0 : α} {y0 : β} (O : Ow G H L) (hj : L[j]? = some (eVar b e r x0)) (h : ∀ cs, r.rep G cs x0 -> s.rep G cs y0) : Ow G H (L.set j (eVar b e s y0)) :=
 O.put hj _ (fun b hb => .inl hb) (by obtain ⟨cs, h1, h2⟩ := O.ok j _ hj; exact ⟨cs, h1, h cs h2⟩) (fun b k hk _ => hk)
end
theorem zkd {α : Type} {r : RT α} {G : GM} {c : List Value} {v : Value} {xs : List α} (h : rV.rep G c v) (f : (rSl r).rep G [v] xs) : (rSl r).rep G c xs := by
 rw [h.1]; exact f
end
end Go.Am
/- strings.Contains and strings.Fields, by the shelf's contracts, as typed functions. -/
namespace Go.Am.Tryd
open Go Go.Am Go.Proofs
def zm7 : Go.Shelf.Ren := ⟨fun x => if x = 314 then 81 else if x = 312 then 79 else if x = 311 then 78 else if x = 267 then 77 else if x = 266 then 80 else if x = 261 then 70 else if x = 229 then 52 else if x = 225 then 75 else if x = 224 then 76 else if x = 219 then 69 else if x = 217 then 74 else if x = 199 then 53 else if x = 157 then 17 else if x = 144 then 16 else if x = 143 then 51 else x, fun x => if x = 227 then 137 else if x = 226 then 136 else if x = 201 then 132 else if x = 198 then 129 else if x = 196 then 126 else if x = 194 then 124 else if x = 193 then 123 else if x = 154 then 114 else if x = 152 then 112 else if x = 146 then 134 else if x = 141 then 117 else if x = 119 then 92 else if x = 51 then 115 else if x = 49 then 127 else if x = 46 then 122 else if x = 40 then 94 else if x = 31 then 22 else if x = 21 then 21 else if x = 9 then 9 else if x = 5 then 5 else if x = 4 then 4 else if x = 3 then 3 else if x = 0 then 0 else x, fun x => if x = 6 then 1 else if x = 1 then 2 else if x = 0 then 0 else x⟩
theorem zgb : Lays.n144 Tryd.prog zm7 where
 mixed := by kernel_rfl
 f143 := by kernel_rfl
 f144 := by kernel_rfl
 f217 := by kernel_rfl
 f219 := by kernel_rfl
 f224 := by kernel_rfl
 f225 := by kernel_rfl
 f266 := by kernel_rfl
 f267 := by kernel_rfl
 f314 := by kernel_rfl
 t3 := Tryd.underlying3
 a3 := Tryd.isAgg3
 z3 := Tryd.sizeOf3
 v3 := Tryd.zeroValue3
 t4 := Tryd.underlying4
 a4 := Tryd.isAgg4
 z4 := Tryd.sizeOf4
 v4 := Tryd.zeroValue4
 t5 := Tryd.underlying5
 a5 := Tryd.isAgg5
 z5 := Tryd.sizeOf5
 v5 := Tryd.zeroValue5
 t9 := Tryd.underlying9
 a9 := Tryd.isAgg9
 z9 := Tryd.sizeOf9
 v9 := Tryd.zeroValue9
 t46 := Tryd.underlying122
 a46 := Tryd.isAgg122
 z46 := Tryd.sizeOf122
 v46 := Tryd.zeroValue122
 t51 := Tryd.underlying115
 a51 := Tryd.isAgg115
 z51 := Tryd.sizeOf115
 v51 := Tryd.zeroValue115
 t146 := Tryd.underlying134
 a146 := Tryd.isAgg134
 z146 := Tryd.sizeOf134
 v146 := Tryd.zeroValue134
 g1 := by kernel_rfl
theorem zgc : Lays.n157 Tryd.prog zm7 where
 mixed := by kernel_rfl
 f157 := by kernel_rfl
 f199 := by kernel_rfl
 f229 := by kernel_rfl
 f261 := by kernel_rfl
 f311 := by kernel_rfl
 f312 := by kernel_rfl
 t0 := Tryd.underlying0
 a0 := Tryd.isAgg0
 z0 := Tryd.sizeOf0
 v0 := Tryd.zeroValue0
 t3 := Tryd.underlying3
 a3 := Tryd.isAgg3
 z3 := Tryd.sizeOf3
 v3 := Tryd.zeroValue3
 t4 := Tryd.underlying4
 a4 := Tryd.isAgg4
 z4 := Tryd.sizeOf4
 v4 := Tryd.zeroValue4
 t5 := Tryd.underlying5
 a5 := Tryd.isAgg5
 z5 := Tryd.sizeOf5
 v5 := Tryd.zeroValue5
 t9 := Tryd.underlying9
 a9 := Tryd.isAgg9
 z9 := Tryd.sizeOf9
 v9 := Tryd.zeroValue9
 t21 := Tryd.underlying21
 a21 := Tryd.isAgg21
 z21 := Tryd.sizeOf21
 v21 := Tryd.zeroValue21
 t31 := Tryd.underlying22
 a31 := Tryd.isAgg22
 z31 := Tryd.sizeOf22
 v31 := Tryd.zeroValue22
 t40 := Tryd.underlying94
 a40 := Tryd.isAgg94
 z40 := Tryd.sizeOf94
 v40 := Tryd.zeroValue94
 t46 := Tryd.underlying122
 a46 := Tryd.isAgg122
 z46 := Tryd.sizeOf122
 v46 := Tryd.zeroValue122
 t49 := Tryd.underlying127
 a49 := Tryd.isAgg127
 z49 := Tryd.sizeOf127
 v49 := Tryd.zeroValue127
 t51 := Tryd.underlying115
 a51 := Tryd.isAgg115
 z51 := Tryd.sizeOf115
 v51 := Tryd.zeroValue115
 t119 := Tryd.underlying92
 a119 := Tryd.isAgg92
 z119 := Tryd.sizeOf92
 t141 := Tryd.underlying117
 a141 := Tryd.isAgg117
 z141 := Tryd.sizeOf117
 v141 := Tryd.zeroValue117
 t152 := Tryd.underlying112
 a152 := Tryd.isAgg112
 z152 := Tryd.sizeOf112
 v152 := Tryd.zeroValue112
 t154 := Tryd.underlying114
 a154 := Tryd.isAgg114
 z154 := Tryd.sizeOf114
 v154 := Tryd.zeroValue114
 t193 := Tryd.underlying123
 a193 := Tryd.isAgg123
 z193 := Tryd.sizeOf123
 v193 := Tryd.zeroValue123
 t194 := Tryd.underlying124
 a194 := Tryd.isAgg124
 z194 := Tryd.sizeOf124
 v194 := Tryd.zeroValue124
 t196 := Tryd.underlying126
 a196 := Tryd.isAgg126
 z196 := Tryd.sizeOf126
 v196 := Tryd.zeroValue126
 t198 := Tryd.underlying129
 a198 := Tryd.isAgg129
 z198 := Tryd.sizeOf129
 v198 := Tryd.zeroValue129
 t201 := Tryd.underlying132
 a201 := Tryd.isAgg132
 z201 := Tryd.sizeOf132
 v201 := Tryd.zeroValue132
 t226 := Tryd.underlying136
 a226 := Tryd.isAgg136
 z226 := Tryd.sizeOf136
 v226 := Tryd.zeroValue136
 t227 := Tryd.underlying137
 a227 := Tryd.isAgg137
 z227 := Tryd.sizeOf137
 v227 := Tryd.zeroValue137
 g0 := by kernel_rfl
 g6 := by kernel_rfl
theorem zdz {ι : Ren} {G : Nat -> Option ABlk} {w : World} (h : TabI ι G w) : (∀ c : Nat, c < 256 -> w.cell? ⟨0, c, none⟩ = some (.int .u8 (if Lib.isSp (UInt8.ofNat c) then 1 else 0))) /\ ∃ m, w.cell? ⟨2, 0, none⟩ = some (.int .i64 m) := by
 obtain ⟨⟨o, h1, arr, t, fr, rfl, h2, _⟩, _⟩ := h 0 (by simp [TBs])
 obtain ⟨⟨o', h1', arr', t', fr', rfl, _, h3⟩, _⟩ := h 2 (by simp [TBs])
 refine ⟨fun c hc => ?_, ?_⟩
 ·have h4 := h2 rfl c hc
  have h5 : (if (9 <= c /\ c <= 13) \/ c = 32 then (1 : Int) else 0) = if Lib.isSp (UInt8.ofNat c) then 1 else 0 := by
   have hall : ∀ c, c < 256 -> (if (9 <= c /\ c <= 13) \/ c = 32 then (1 : Int) else 0) = if Lib.isSp (UInt8.ofNat c) then 1 else 0 := by decide +kernel
   exact hall c hc
  rw [<- h5, <- h4]
  simp [World.cell?, h1]
 ·obtain ⟨m, h4⟩ := h3 rfl
  exact ⟨m, by simp [World.cell?, h1', h4]⟩
theorem zjj (s sub : zAd) (hs : s.size < 4294967281) (H : AH) : ACalls Tryd.prog 16 [.string s, .string sub] H (.bool (Lib.contains s.data.toList sub.data.toList)) H := by
 refine ⟨Nx.refl _, fun ι w cargs hS hargs => ?_⟩
 have he := hargs.closed_eq rfl
 have hc : cargs = #[.string s, .string sub] := by
  cases cargs; exact congrArg Array.mk he
 subst hc
 obtain ⟨m, hm⟩ := (zdz hS.tab).2
 refine (Any.strings_Contains zgb s sub m w hs hm).mono ?_
 rintro e w' ⟨rfl, rfl⟩
 exact ⟨ι, _, rfl, .scal rfl, hS, fun _ _ h => h, fun _ _ => rfl, fun _ h => .inl h, fun _ h => .inl h, fun _ _ _ => rfl, Nat.le_refl _, rfl, rfl, rfl⟩
def z4m (K : Nat) (s sub : zAd) : Option Bool := if s.size < 4294967281 then some (Lib.contains s.data.toList sub.data.toList) else none
theorem z87 (K : Nat) {G : GM} {H : AH} {L : List Pc} (p0 p1 : zAd) (O : Ow G H L) (r : Bool) (h : z4m K p0 p1 = some r) :
  CR Tryd.prog 16 [.string p0, .string p1] G H L (fun v G' _ => v = .bool r) := by
 unfold z4m at h
 obtain ⟨h0, h⟩ := z38 h
 cases h
 exact ⟨_, H, G, zjj p0 p1 h0 H, O, zAf _, rfl⟩
theorem zjk (s : zAd) (hs : s.size < 4294967281) (ha : ∀ (j : Nat) b, s.data.toList[j]? = some b -> b.toNat < 128) (H : AH) :
  ACalls Tryd.prog 17 [.string s] H (.slice (some ⟨H.next, 0, none⟩) (Lib.fields s.data.toList).length (Lib.fields s.data.toList).length) (H.push (some ⟨(Lib.fields s.data.toList).map fun l => Value.string ⟨l.toArray⟩, 9, 1, true⟩)) := by
 refine ⟨Nx.push _ _, fun ι w cargs hS hargs => ?_⟩
 have he := hargs.closed_eq rfl
 have hc : cargs = #[.string s] := by
  cases cargs; exact congrArg Array.mk he
 subst hc
 refine (Any.strings_Fields_core zgc (by kernel_rfl) s w hs ha (zdz hS.tab).1).mono ?_
 rintro e w' ⟨rfl, rfl⟩
 have hι := z72 hS
 obtain ⟨h1, h2⟩ := hS.alloc (m := H.next + 1) (b := H.next) hι (by omega) (by omega) (x := ⟨(Lib.fields s.data.toList).map fun l => Value.string ⟨l.toArray⟩, 9, 1, true⟩) (arr := ((Lib.fields s.data.toList).map fun l => Value.string ⟨l.toArray⟩).toArray) (el := 9) (fr := (0, 0)) (ex := 0)
  (w1 := w.alloc (.cells ((Lib.fields s.data.toList).map fun l => Value.string ⟨l.toArray⟩).toArray 9)) rfl rfl rfl rfl
  (fun j u hj => ⟨u, by simpa using hj, by
   obtain ⟨l, _, rfl⟩ := List.mem_map.1 (List.mem_of_getElem? hj)
   exact .scal rfl⟩) (fun _ => ⟨by simp, rfl⟩)
 rw [<- z56] at h1 h2
 exact ⟨_, _, rfl, .sl (ex := 0) (co := 0) (z2e _ _ _), h1, h2 _ (Nat.le_refl _)⟩
theorem zd4 {α : Type} : ∀ l : List α, (l.map fun v => [v]).flatten = l
 | [] => rfl
 | x :: l => by simp [zd4 l]
def zjl (s : zAd) : Bool := s.data.toList.all fun b => decide (b.toNat < 128)
def z4f (K : Nat) (s : zAd) : Option (List zAd) := if s.size < 4294967281 /\ zjl s = true then some ((Lib.fields s.data.toList).map fun l => ⟨l.toArray⟩) else none
theorem z98 (K : Nat) {G : GM} {H : AH} {L : List Pc} (p0 : zAd) (O : Ow G H L) (r : List zAd) (h : z4f K p0 = some r) :
  CRF Tryd.prog 17 [.string p0] G H (fun w => (eSl w 9 rS r :: L)) (fun w v G' => w = v) := by
 unfold z4f at h
 obtain ⟨⟨h0, h1⟩, h⟩ := z38 h
 cases h
 have ha : ∀ (j : Nat) b, p0.data.toList[j]? = some b -> b.toNat < 128 := fun j b hj => by
  have := List.all_eq_true.1 h1 b (List.mem_of_getElem? hj)
  simpa using this
 have hnb : NewB H (H.push (some ⟨(Lib.fields p0.data.toList).map fun l => Value.string ⟨l.toArray⟩, 9, 1, true⟩)) H.next ⟨(Lib.fields p0.data.toList).map fun l => Value.string ⟨l.toArray⟩, 9, 1, true⟩ := NewB.push _ _
 refine ⟨.slice (some ⟨H.next, 0, none⟩) (Lib.fields p0.data.toList).length (Lib.fields p0.data.toList).length, _, _, G, zjk p0 h0 ha H, O.new hnb _ rfl ?_, zAf _, rfl⟩
 refine ⟨((Lib.fields p0.data.toList).map fun l => Value.string ⟨l.toArray⟩).map fun v => [v], .inr ⟨H.next, none, (Lib.fields p0.data.toList).length, [], 1, by simp, ?_, ?_, by simp, .inl ⟨rfl, rfl⟩⟩, ?_⟩
 ·rw [AH.get_push_new, zd4]; simp
 ·rw [zd4]; simp [rS]
 ·generalize Lib.fields p0.data.toList = l
  induction l with
  | nil => exact .nil
  | cons x l ih => exact .cons rfl ih
end Go.Am.Tryd
/- A closed fact of the law, run on the abstract machine, as a typed function. -/
namespace Go.Am.Tryd
open Go Go.Am Go.Proofs
theorem zmi (A : AH) : ACalls Tryd.prog 4 [] A (.bool true) A := zfw (rounds := 200) (n := 60) mixed rfl rfl (by kernel_rfl) A
def z4n (K : Nat) : Option Bool := some true
theorem z88 (K : Nat) {G : GM} {H : AH} {L : List Pc} (O : Ow G H L) (r : Bool) (h : z4n K = some r) : CR Tryd.prog 4 [] G H L (fun v G' _ => v = .bool r) := by
 cases h; exact ⟨_, H, G, zmi H, O, zAf _, rfl⟩
end Go.Am.Tryd
/- Typed functions with the same answers as the program's, and the walks that show it. -/
namespace Go.Am.Tryd
open Go Go.Am Go.Proofs
variable (K : Nat) {G : GM} {H : AH} {L : List Pc}
structure Switch where
  Name : zAd
  A : zAd
  B : zAd
  Breaker : Bool
  Open : Bool
  deriving DecidableEq, Inhabited
def z0x : RT Switch := rIso (rP rS (rP rS (rP rS (rP rB rB)))) (fun s : Switch => (s.Name, s.A, s.B, s.Breaker, s.Open))
theorem zd5 (G : GM) : z0x.rep G ([.string ByteArray.empty] ++ ([.string ByteArray.empty] ++ ([.string ByteArray.empty] ++ ([.bool false] ++ [.bool false])))) ((Switch.mk ByteArray.empty ByteArray.empty ByteArray.empty false false)) := ⟨_, _, rfl, zS G, ⟨_, _, rfl, zS G, ⟨_, _, rfl, zS G, ⟨_, _, rfl, zB G, (zB G)⟩⟩⟩⟩
theorem z6k : Proj z0x 0 rS (fun x => x.Name) := by
  have h := (Proj.iso (rP rS (rP rS (rP rS (rP rB rB)))) (fun s : Switch => (s.Name, s.A, s.B, s.Breaker, s.Open))).comp (Proj.fst _ _)
  exact h
theorem z99 : Proj z0x 1 rS (fun x => x.A) := by
  have h := (Proj.iso (rP rS (rP rS (rP rS (rP rB rB)))) (fun s : Switch => (s.Name, s.A, s.B, s.Breaker, s.Open))).comp ((Proj.snd _ _).comp (Proj.fst _ _))
  exact h
theorem z9a : Proj z0x 2 rS (fun x => x.B) := by
  have h := (Proj.iso (rP rS (rP rS (rP rS (rP rB rB)))) (fun s : Switch => (s.Name, s.A, s.B, s.Breaker, s.Open))).comp ((Proj.snd _ _).comp ((Proj.snd _ _).comp (Proj.fst _ _)))
  exact h
theorem zak : Proj z0x 3 rB (fun x => x.Breaker) := by
  have h := (Proj.iso (rP rS (rP rS (rP rS (rP rB rB)))) (fun s : Switch => (s.Name, s.A, s.B, s.Breaker, s.Open))).comp ((Proj.snd _ _).comp ((Proj.snd _ _).comp ((Proj.snd _ _).comp (Proj.fst _ _))))
  exact h
theorem z7m : Proj z0x 4 rB (fun x => x.Open) := by
  have h := (Proj.iso (rP rS (rP rS (rP rS (rP rB rB)))) (fun s : Switch => (s.Name, s.A, s.B, s.Breaker, s.Open))).comp ((Proj.snd _ _).comp ((Proj.snd _ _).comp ((Proj.snd _ _).comp ((Proj.snd _ _).comp (Proj.self _)))))
  exact h
theorem z9s : Put z0x 4 rB (fun x y => { x with Open := y }) := by
  have h := Put.comp (Proj.iso (rP rS (rP rS (rP rS (rP rB rB)))) (fun s : Switch => (s.Name, s.A, s.B, s.Breaker, s.Open))) (Put.iso (rP rS (rP rS (rP rS (rP rB rB)))) (fun s : Switch => (s.Name, s.A, s.B, s.Breaker, s.Open)) (fun _ q => ⟨q.1, q.2.1, q.2.2.1, q.2.2.2.1, q.2.2.2.2⟩) (fun _ _ => rfl)) (Put.comp (Proj.snd _ _) (Put.snd _ _) (Put.comp (Proj.snd _ _) (Put.snd _ _) (Put.comp (Proj.snd _ _) (Put.snd _ _) (Put.comp (Proj.snd _ _) (Put.snd _ _) (Put.self _)))))
  exact h
structure Branch where
  Name : zAd
  From : zAd
  To : zAd
  X : Int
  Tap : Int
  Shift : Int
  Limit : Int
  Short : Int
  Hold : Int
  deriving DecidableEq, Inhabited
def z0i : RT Branch := rIso (rP rS (rP rS (rP rS (rP (rI .i64) (rP (rI .i64) (rP (rI .i64) (rP (rI .i64) (rP (rI .i64) (rI .i64))))))))) (fun s : Branch => (s.Name, s.From, s.To, s.X, s.Tap, s.Shift, s.Limit, s.Short, s.Hold))
theorem zd6 (G : GM) : z0i.rep G ([.string ByteArray.empty] ++ ([.string ByteArray.empty] ++ ([.string ByteArray.empty] ++ ([.int .i64 0] ++ ([.int .i64 0] ++ ([.int .i64 0] ++ ([.int .i64 0] ++ ([.int .i64 0] ++ [.int .i64 0])))))))) ((Branch.mk ByteArray.empty ByteArray.empty ByteArray.empty 0 0 0 0 0 0)) := ⟨_, _, rfl, zS G, ⟨_, _, rfl, zS G, ⟨_, _, rfl, zS G, ⟨_, _, rfl, (zI .i64) G, ⟨_, _, rfl, (zI .i64) G, ⟨_, _, rfl, (zI .i64) G, ⟨_, _, rfl, (zI .i64) G, ⟨_, _, rfl, (zI .i64) G, ((zI .i64) G)⟩⟩⟩⟩⟩⟩⟩⟩
theorem z6l : Proj z0i 0 rS (fun x => x.Name) := by
  have h := (Proj.iso (rP rS (rP rS (rP rS (rP (rI .i64) (rP (rI .i64) (rP (rI .i64) (rP (rI .i64) (rP (rI .i64) (rI .i64))))))))) (fun s : Branch => (s.Name, s.From, s.To, s.X, s.Tap, s.Shift, s.Limit, s.Short, s.Hold))).comp (Proj.fst _ _)
  exact h
theorem z6m : Proj z0i 1 rS (fun x => x.From) := by
  have h := (Proj.iso (rP rS (rP rS (rP rS (rP (rI .i64) (rP (rI .i64) (rP (rI .i64) (rP (rI .i64) (rP (rI .i64) (rI .i64))))))))) (fun s : Branch => (s.Name, s.From, s.To, s.X, s.Tap, s.Shift, s.Limit, s.Short, s.Hold))).comp ((Proj.snd _ _).comp (Proj.fst _ _))
  exact h
theorem z82 : Proj z0i 2 rS (fun x => x.To) := by
  have h := (Proj.iso (rP rS (rP rS (rP rS (rP (rI .i64) (rP (rI .i64) (rP (rI .i64) (rP (rI .i64) (rP (rI .i64) (rI .i64))))))))) (fun s : Branch => (s.Name, s.From, s.To, s.X, s.Tap, s.Shift, s.Limit, s.Short, s.Hold))).comp ((Proj.snd _ _).comp ((Proj.snd _ _).comp (Proj.fst _ _)))
  exact h
theorem zal : Proj z0i 3 (rI .i64) (fun x => x.X) := by
  have h := (Proj.iso (rP rS (rP rS (rP rS (rP (rI .i64) (rP (rI .i64) (rP (rI .i64) (rP (rI .i64) (rP (rI .i64) (rI .i64))))))))) (fun s : Branch => (s.Name, s.From, s.To, s.X, s.Tap, s.Shift, s.Limit, s.Short, s.Hold))).comp ((Proj.snd _ _).comp ((Proj.snd _ _).comp ((Proj.snd _ _).comp (Proj.fst _ _))))
  exact h
theorem z8k : Proj z0i 4 (rI .i64) (fun x => x.Tap) := by
  have h := (Proj.iso (rP rS (rP rS (rP rS (rP (rI .i64) (rP (rI .i64) (rP (rI .i64) (rP (rI .i64) (rP (rI .i64) (rI .i64))))))))) (fun s : Branch => (s.Name, s.From, s.To, s.X, s.Tap, s.Shift, s.Limit, s.Short, s.Hold))).comp ((Proj.snd _ _).comp ((Proj.snd _ _).comp ((Proj.snd _ _).comp ((Proj.snd _ _).comp (Proj.fst _ _)))))
  exact h
theorem z76 : Proj z0i 5 (rI .i64) (fun x => x.Shift) := by
  have h := (Proj.iso (rP rS (rP rS (rP rS (rP (rI .i64) (rP (rI .i64) (rP (rI .i64) (rP (rI .i64) (rP (rI .i64) (rI .i64))))))))) (fun s : Branch => (s.Name, s.From, s.To, s.X, s.Tap, s.Shift, s.Limit, s.Short, s.Hold))).comp ((Proj.snd _ _).comp ((Proj.snd _ _).comp ((Proj.snd _ _).comp ((Proj.snd _ _).comp ((Proj.snd _ _).comp (Proj.fst _ _))))))
  exact h
theorem z5j : Proj z0i 6 (rI .i64) (fun x => x.Limit) := by
  have h := (Proj.iso (rP rS (rP rS (rP rS (rP (rI .i64) (rP (rI .i64) (rP (rI .i64) (rP (rI .i64) (rP (rI .i64) (rI .i64))))))))) (fun s : Branch => (s.Name, s.From, s.To, s.X, s.Tap, s.Shift, s.Limit, s.Short, s.Hold))).comp ((Proj.snd _ _).comp ((Proj.snd _ _).comp ((Proj.snd _ _).comp ((Proj.snd _ _).comp ((Proj.snd _ _).comp ((Proj.snd _ _).comp (Proj.fst _ _)))))))
  exact h
theorem z77 : Proj z0i 7 (rI .i64) (fun x => x.Short) := by
  have h := (Proj.iso (rP rS (rP rS (rP rS (rP (rI .i64) (rP (rI .i64) (rP (rI .i64) (rP (rI .i64) (rP (rI .i64) (rI .i64))))))))) (fun s : Branch => (s.Name, s.From, s.To, s.X, s.Tap, s.Shift, s.Limit, s.Short, s.Hold))).comp ((Proj.snd _ _).comp ((Proj.snd _ _).comp ((Proj.snd _ _).comp ((Proj.snd _ _).comp ((Proj.snd _ _).comp ((Proj.snd _ _).comp ((Proj.snd _ _).comp (Proj.fst _ _))))))))
  exact h
theorem z7n : Proj z0i 8 (rI .i64) (fun x => x.Hold) := by
  have h := (Proj.iso (rP rS (rP rS (rP rS (rP (rI .i64) (rP (rI .i64) (rP (rI .i64) (rP (rI .i64) (rP (rI .i64) (rI .i64))))))))) (fun s : Branch => (s.Name, s.From, s.To, s.X, s.Tap, s.Shift, s.Limit, s.Short, s.Hold))).comp ((Proj.snd _ _).comp ((Proj.snd _ _).comp ((Proj.snd _ _).comp ((Proj.snd _ _).comp ((Proj.snd _ _).comp ((Proj.snd _ _).comp ((Proj.snd _ _).comp ((Proj.snd _ _).comp (Proj.self _)))))))))
  exact h
structure Gen where
  Name : zAd
  Node : zAd
  Least : Int
  Most : Int
  Ramp : Int
  deriving DecidableEq, Inhabited
def z6b : RT Gen := rIso (rP rS (rP rS (rP (rI .i64) (rP (rI .i64) (rI .i64))))) (fun s : Gen => (s.Name, s.Node, s.Least, s.Most, s.Ramp))
theorem zlq (G : GM) : z6b.rep G ([.string ByteArray.empty] ++ ([.string ByteArray.empty] ++ ([.int .i64 0] ++ ([.int .i64 0] ++ [.int .i64 0])))) ((Gen.mk ByteArray.empty ByteArray.empty 0 0 0)) := ⟨_, _, rfl, zS G, ⟨_, _, rfl, zS G, ⟨_, _, rfl, (zI .i64) G, ⟨_, _, rfl, (zI .i64) G, ((zI .i64) G)⟩⟩⟩⟩
theorem z9b : Proj z6b 0 rS (fun x => x.Name) := by
  have h := (Proj.iso (rP rS (rP rS (rP (rI .i64) (rP (rI .i64) (rI .i64))))) (fun s : Gen => (s.Name, s.Node, s.Least, s.Most, s.Ramp))).comp (Proj.fst _ _)
  exact h
theorem zam : Proj z6b 1 rS (fun x => x.Node) := by
  have h := (Proj.iso (rP rS (rP rS (rP (rI .i64) (rP (rI .i64) (rI .i64))))) (fun s : Gen => (s.Name, s.Node, s.Least, s.Most, s.Ramp))).comp ((Proj.snd _ _).comp (Proj.fst _ _))
  exact h
theorem z6x : Proj z6b 2 (rI .i64) (fun x => x.Least) := by
  have h := (Proj.iso (rP rS (rP rS (rP (rI .i64) (rP (rI .i64) (rI .i64))))) (fun s : Gen => (s.Name, s.Node, s.Least, s.Most, s.Ramp))).comp ((Proj.snd _ _).comp ((Proj.snd _ _).comp (Proj.fst _ _)))
  exact h
theorem zan : Proj z6b 3 (rI .i64) (fun x => x.Most) := by
  have h := (Proj.iso (rP rS (rP rS (rP (rI .i64) (rP (rI .i64) (rI .i64))))) (fun s : Gen => (s.Name, s.Node, s.Least, s.Most, s.Ramp))).comp ((Proj.snd _ _).comp ((Proj.snd _ _).comp ((Proj.snd _ _).comp (Proj.fst _ _))))
  exact h
theorem zao : Proj z6b 4 (rI .i64) (fun x => x.Ramp) := by
  have h := (Proj.iso (rP rS (rP rS (rP (rI .i64) (rP (rI .i64) (rI .i64))))) (fun s : Gen => (s.Name, s.Node, s.Least, s.Most, s.Ramp))).comp ((Proj.snd _ _).comp ((Proj.snd _ _).comp ((Proj.snd _ _).comp ((Proj.snd _ _).comp (Proj.self _)))))
  exact h
structure Load_ where
  Name : zAd
  Node : zAd
  Demand : Int
  deriving DecidableEq, Inhabited
def z1w : RT Load_ := rIso (rP rS (rP rS (rI .i64))) (fun s : Load_ => (s.Name, s.Node, s.Demand))
theorem zgd (G : GM) : z1w.rep G ([.string ByteArray.empty] ++ ([.string ByteArray.empty] ++ [.int .i64 0])) ((Load_.mk ByteArray.empty ByteArray.empty 0)) := ⟨_, _, rfl, zS G, ⟨_, _, rfl, zS G, ((zI .i64) G)⟩⟩
theorem z78 : Proj z1w 0 rS (fun x => x.Name) := by
  have h := (Proj.iso (rP rS (rP rS (rI .i64))) (fun s : Load_ => (s.Name, s.Node, s.Demand))).comp (Proj.fst _ _)
  exact h
theorem z8l : Proj z1w 1 rS (fun x => x.Node) := by
  have h := (Proj.iso (rP rS (rP rS (rI .i64))) (fun s : Load_ => (s.Name, s.Node, s.Demand))).comp ((Proj.snd _ _).comp (Proj.fst _ _))
  exact h
theorem z79 : Proj z1w 2 (rI .i64) (fun x => x.Demand) := by
  have h := (Proj.iso (rP rS (rP rS (rI .i64))) (fun s : Load_ => (s.Name, s.Node, s.Demand))).comp ((Proj.snd _ _).comp ((Proj.snd _ _).comp (Proj.self _)))
  exact h
structure Store where
  Name : zAd
  Node : zAd
  Charge : Int
  Discharge : Int
  Capacity : Int
  deriving DecidableEq, Inhabited
def z1o : RT Store := rIso (rP rS (rP rS (rP (rI .i64) (rP (rI .i64) (rI .i64))))) (fun s : Store => (s.Name, s.Node, s.Charge, s.Discharge, s.Capacity))
theorem zge (G : GM) : z1o.rep G ([.string ByteArray.empty] ++ ([.string ByteArray.empty] ++ ([.int .i64 0] ++ ([.int .i64 0] ++ [.int .i64 0])))) ((Store.mk ByteArray.empty ByteArray.empty 0 0 0)) := ⟨_, _, rfl, zS G, ⟨_, _, rfl, zS G, ⟨_, _, rfl, (zI .i64) G, ⟨_, _, rfl, (zI .i64) G, ((zI .i64) G)⟩⟩⟩⟩
theorem z7a : Proj z1o 0 rS (fun x => x.Name) := by
  have h := (Proj.iso (rP rS (rP rS (rP (rI .i64) (rP (rI .i64) (rI .i64))))) (fun s : Store => (s.Name, s.Node, s.Charge, s.Discharge, s.Capacity))).comp (Proj.fst _ _)
  exact h
theorem z8m : Proj z1o 1 rS (fun x => x.Node) := by
  have h := (Proj.iso (rP rS (rP rS (rP (rI .i64) (rP (rI .i64) (rI .i64))))) (fun s : Store => (s.Name, s.Node, s.Charge, s.Discharge, s.Capacity))).comp ((Proj.snd _ _).comp (Proj.fst _ _))
  exact h
theorem z7b : Proj z1o 2 (rI .i64) (fun x => x.Charge) := by
  have h := (Proj.iso (rP rS (rP rS (rP (rI .i64) (rP (rI .i64) (rI .i64))))) (fun s : Store => (s.Name, s.Node, s.Charge, s.Discharge, s.Capacity))).comp ((Proj.snd _ _).comp ((Proj.snd _ _).comp (Proj.fst _ _)))
  exact h
theorem z5z : Proj z1o 3 (rI .i64) (fun x => x.Discharge) := by
  have h := (Proj.iso (rP rS (rP rS (rP (rI .i64) (rP (rI .i64) (rI .i64))))) (fun s : Store => (s.Name, s.Node, s.Charge, s.Discharge, s.Capacity))).comp ((Proj.snd _ _).comp ((Proj.snd _ _).comp ((Proj.snd _ _).comp (Proj.fst _ _))))
  exact h
theorem z6c : Proj z1o 4 (rI .i64) (fun x => x.Capacity) := by
  have h := (Proj.iso (rP rS (rP rS (rP (rI .i64) (rP (rI .i64) (rI .i64))))) (fun s : Store => (s.Name, s.Node, s.Charge, s.Discharge, s.Capacity))).comp ((Proj.snd _ _).comp ((Proj.snd _ _).comp ((Proj.snd _ _).comp ((Proj.snd _ _).comp (Proj.self _)))))
  exact h
structure Network where
  Nodes : List zAd
  Switches : List Switch
  Branches : List Branch
  Gens : List Gen
  Loads : List Load_
  Stores : List Store
  deriving DecidableEq, Inhabited
def z00 : RT Network := rIso (rP (rSl rS) (rP (rSl z0x) (rP (rSl z0i) (rP (rSl z6b) (rP (rSl z1w) (rSl z1o)))))) (fun s : Network => (s.Nodes, s.Switches, s.Branches, s.Gens, s.Loads, s.Stores))
theorem z6n (G : GM) : z00.rep G ([.slice none 0 0] ++ ([.slice none 0 0] ++ ([.slice none 0 0] ++ ([.slice none 0 0] ++ ([.slice none 0 0] ++ [.slice none 0 0]))))) ((Network.mk ([] : List zAd) ([] : List Switch) ([] : List Branch) ([] : List Gen) ([] : List Load_) ([] : List Store))) := ⟨_, _, rfl, zL G, ⟨_, _, rfl, zL G, ⟨_, _, rfl, zL G, ⟨_, _, rfl, zL G, ⟨_, _, rfl, zL G, (zL G)⟩⟩⟩⟩⟩
theorem z1y : Proj z00 0 (rSl rS) (fun x => x.Nodes) := by
  have h := (Proj.iso (rP (rSl rS) (rP (rSl z0x) (rP (rSl z0i) (rP (rSl z6b) (rP (rSl z1w) (rSl z1o)))))) (fun s : Network => (s.Nodes, s.Switches, s.Branches, s.Gens, s.Loads, s.Stores))).comp (Proj.fst _ _)
  exact h
theorem z1h : Proj z00 1 (rSl z0x) (fun x => x.Switches) := by
  have h := (Proj.iso (rP (rSl rS) (rP (rSl z0x) (rP (rSl z0i) (rP (rSl z6b) (rP (rSl z1w) (rSl z1o)))))) (fun s : Network => (s.Nodes, s.Switches, s.Branches, s.Gens, s.Loads, s.Stores))).comp ((Proj.snd _ _).comp (Proj.fst _ _))
  exact h
theorem z25 : Proj z00 2 (rSl z0i) (fun x => x.Branches) := by
  have h := (Proj.iso (rP (rSl rS) (rP (rSl z0x) (rP (rSl z0i) (rP (rSl z6b) (rP (rSl z1w) (rSl z1o)))))) (fun s : Network => (s.Nodes, s.Switches, s.Branches, s.Gens, s.Loads, s.Stores))).comp ((Proj.snd _ _).comp ((Proj.snd _ _).comp (Proj.fst _ _)))
  exact h
theorem z3a : Proj z00 3 (rSl z6b) (fun x => x.Gens) := by
  have h := (Proj.iso (rP (rSl rS) (rP (rSl z0x) (rP (rSl z0i) (rP (rSl z6b) (rP (rSl z1w) (rSl z1o)))))) (fun s : Network => (s.Nodes, s.Switches, s.Branches, s.Gens, s.Loads, s.Stores))).comp ((Proj.snd _ _).comp ((Proj.snd _ _).comp ((Proj.snd _ _).comp (Proj.fst _ _))))
  exact h
theorem z35 : Proj z00 4 (rSl z1w) (fun x => x.Loads) := by
  have h := (Proj.iso (rP (rSl rS) (rP (rSl z0x) (rP (rSl z0i) (rP (rSl z6b) (rP (rSl z1w) (rSl z1o)))))) (fun s : Network => (s.Nodes, s.Switches, s.Branches, s.Gens, s.Loads, s.Stores))).comp ((Proj.snd _ _).comp ((Proj.snd _ _).comp ((Proj.snd _ _).comp ((Proj.snd _ _).comp (Proj.fst _ _)))))
  exact h
theorem z2q : Proj z00 5 (rSl z1o) (fun x => x.Stores) := by
  have h := (Proj.iso (rP (rSl rS) (rP (rSl z0x) (rP (rSl z0i) (rP (rSl z6b) (rP (rSl z1w) (rSl z1o)))))) (fun s : Network => (s.Nodes, s.Switches, s.Branches, s.Gens, s.Loads, s.Stores))).comp ((Proj.snd _ _).comp ((Proj.snd _ _).comp ((Proj.snd _ _).comp ((Proj.snd _ _).comp ((Proj.snd _ _).comp (Proj.self _))))))
  exact h
def z4g (K : Nat) (a : Network) : Option Int := (Option.bind ((if (decide ((a.Nodes.length : Int) > 24)) = true then some true else (if (decide ((a.Switches.length : Int) > 32)) = true then some true else some (decide ((a.Branches.length : Int) > 24))))) (tu1 fun b => (if b = true then some 2 else (Option.bind ((if (decide ((a.Gens.length : Int) > 10)) = true then some true else (if (decide ((a.Loads.length : Int) > 12)) = true then some true else some (decide ((a.Stores.length : Int) > 4))))) (tu1 fun c => (if c = true then some 2 else some 0))))))
theorem z9c (M : List Value) (a : Network) (P : z00.rep G M a) (O : Ow G H (L)) (r : Int) (h : z4g K a = some r) :
    CR Tryd.prog 61 [.agg M.toArray] G H (L) (fun v m _ => v = .int .i64 r) := by
 unfold z4g at h
 refine CR.og (n := 35) (fn := Tryd.f61) (by kernel_rfl) rfl rfl fun R kr => (.seq (.region (W.ln (Lo.box (r := z00) (x0 := a) (v := (.agg M.toArray)) rfl rfl P O) ?_)))
 rintro aQ aR ⟨k, rfl, i, aM⟩
 refine W.p1 (.int .i64 0) (.nil (.seq (.seq ?_)))
 obtain ⟨aG, Q, aH⟩ := z03 h
 refine AW.midT (fun o N => ∃ (p : Bool) (m : GM), p = aG /\ Ow m N (eVar k 29 z00 a :: L) /\ GM.le G m /\ o 18 = .bool p) ?_ ?_
 .refine .region (W.pv (padd (.pointer (some ⟨k, 0, none⟩)) 0) (z0a zaj ov (i.atVar (j := 0) rfl)) ?_)
  obtain ⟨aI, S, T⟩ := At.sl (At.proj (i.atVar (j := 0) rfl) z1y)
  refine W.l1 aI ag22 (z0f rfl S) (W.pv (.int .i64 (a.Nodes.length : Int)) (z1j ov (z17 T) (z02 el22)) (W.p3 (.bool (decide ((a.Nodes.length : Int) > 24))) (W.p2 (.bool (decide ((a.Nodes.length : Int) > 24))) (W.splitAt (t := 7) (b := decide ((a.Nodes.length : Int) > 24)) rfl (fun q c => ?_) (fun q c => ?_)))))
  .have U := z01 q Q
   refine W.q6 rfl c (W.q6 rfl c (W.q6 rfl c (W.q6 rfl c (W.q4 (.bool true) c rfl (W.p2 (.bool true) (W.q6 rfl rfl ?_))))))
   refine W.q6 rfl rfl (W.q6 rfl rfl (W.q6 rfl rfl (W.q4 (.bool true) rfl rfl (.nil ?_))))
   obtain rfl := zAa U
   exact ⟨true, _, rfl, i, (zAf _), rfl⟩
  have A := z11 q Q
  refine W.pure (v := (padd (.pointer (some ⟨k, 0, none⟩)) 1)) (gl rfl c) rfl (z0a z86 ov (i.atVar (j := 0) rfl)) ?_
  obtain ⟨V, X, Y⟩ := At.sl (At.proj (i.atVar (j := 0) rfl) z1h)
  refine W.load1 (v := V) (r := []) (gl rfl c) rfl ag23 (z0f rfl X) (W.pure (v := (.int .i64 (a.Switches.length : Int))) (gl rfl c) rfl (z1j ov (z17 Y) (z02 el23)) (W.q3 (hg := gk rfl rfl c rfl) (.bool (decide ((a.Switches.length : Int) > 32))) rfl rfl (W.q5 (.bool (decide ((a.Switches.length : Int) > 32))) c rfl (W.p2 (.bool (decide ((a.Switches.length : Int) > 32))) (W.splitAt (t := 13) (b := decide ((a.Switches.length : Int) > 32)) rfl (fun s d => ?_) (fun s d => ?_))))))
  .have Z := z01 s A
   refine W.q6 rfl d (W.q6 rfl d (W.q6 rfl d (W.q6 rfl d (W.q4 (.bool true) d rfl (.nil ?_)))))
   obtain rfl := zAa Z
   exact ⟨true, _, rfl, i, (zAf _), rfl⟩
  have aa := z11 s A
  refine W.pure (v := (padd (.pointer (some ⟨k, 0, none⟩)) 2)) (gl rfl d) rfl (z0a zb1 ov (i.atVar (j := 0) rfl)) ?_
  obtain ⟨ab, ac, ad⟩ := At.sl (At.proj (i.atVar (j := 0) rfl) z25)
  refine W.load1 (v := ab) (r := []) (gl rfl d) rfl ag24 (z0f rfl ac) (W.pure (v := (.int .i64 (a.Branches.length : Int))) (gl rfl d) rfl (z1j ov (z17 ad) (z02 el24)) (W.q3 (hg := gk rfl rfl d rfl) (.bool (decide ((a.Branches.length : Int) > 24))) rfl rfl (W.q5 (.bool (decide ((a.Branches.length : Int) > 24))) d rfl (.nil ?_))))
  obtain rfl := zAa aa
  exact ⟨decide ((a.Branches.length : Int) > 24), _, rfl, i, (zAf _), rfl⟩
 rintro aJ aN l ⟨ae, af, rfl, g, u, ag⟩
 have B := z0k aH
 refine .cond (b := ae) rfl ag (fun w => ?_) (fun w => ?_)
 .have ah := z01 w B
  refine .seq (.region (W.p1 (.int .i64 2) (.nil (.ret ?_))))
  have ai := g.drop 0
  obtain rfl := zAa ah
  exact z41 kr (v1 := (.int .i64 2)) (by rfl) rt ai u rfl
 have aj := z11 w B
 refine .skip (.seq (.seq ?_))
 obtain ⟨ak, C, al⟩ := z03 aj
 refine AW.midT (fun o N => ∃ (p : Bool) (m : GM), p = ak /\ Ow m N (eVar k 29 z00 a :: L) /\ GM.le af m /\ o 34 = .bool p) ?_ ?_
 rotate_left
 .rintro aK aO aL ⟨am, aP, rfl, E, F, an⟩
  have I := z0k al
  refine .cond (b := am) rfl an (fun x => ?_) (fun x => ?_)
  .have ao := z01 x I
   refine .seq (.region (W.p1 (.int .i64 2) (.nil (.ret ?_))))
   have ap := E.drop 0
   obtain rfl := zAa ao
   exact z41 kr (v1 := (.int .i64 2)) (by rfl) rt ap (zAe u F) rfl
  have aq := z11 x I
  refine .skip (.seq (.region (W.p1 (.int .i64 0) (.nil (.ret ?_)))))
  have ar := E.drop 0
  obtain rfl := zAa aq
  exact z41 kr (v1 := (.int .i64 0)) (by rfl) rt ar (zAe u F) rfl
 refine .region (W.pv (padd (.pointer (some ⟨k, 0, none⟩)) 3) (z0a zb2 (ou (ft (l 1 rfl) rfl)) (g.atVar (j := 0) rfl)) ?_)
 obtain ⟨au, av, aw⟩ := At.sl (At.proj (g.atVar (j := 0) rfl) z3a)
 refine W.l1 au ag25 (z0f rfl av) (W.pv (.int .i64 (a.Gens.length : Int)) (z1j ov (z17 aw) (z02 el25)) (W.p3 (.bool (decide ((a.Gens.length : Int) > 10))) (W.p2 (.bool (decide ((a.Gens.length : Int) > 10))) (W.splitAt (t := 23) (b := decide ((a.Gens.length : Int) > 10)) rfl (fun y e => ?_) (fun y e => ?_)))))
 .have ax := z01 y C
  refine W.q6 rfl e (W.q6 rfl e (W.q6 rfl e (W.q6 rfl e (W.q4 (.bool true) e rfl (W.p2 (.bool true) (W.q6 rfl rfl ?_))))))
  refine W.q6 rfl rfl (W.q6 rfl rfl (W.q6 rfl rfl (W.q4 (.bool true) rfl rfl (.nil ?_))))
  obtain rfl := zAa ax
  exact ⟨true, _, rfl, g, (zAf _), rfl⟩
 have J := z11 y C
 refine W.pure (v := (padd (.pointer (some ⟨k, 0, none⟩)) 4)) (gl rfl e) rfl (z0a zb3 (ou (ft (l 1 rfl) rfl)) (g.atVar (j := 0) rfl)) ?_
 obtain ⟨ay, az, aA⟩ := At.sl (At.proj (g.atVar (j := 0) rfl) z35)
 refine W.load1 (v := ay) (r := []) (gl rfl e) rfl ag26 (z0f rfl az) (W.pure (v := (.int .i64 (a.Loads.length : Int))) (gl rfl e) rfl (z1j ov (z17 aA) (z02 el26)) (W.q3 (hg := gk rfl rfl e rfl) (.bool (decide ((a.Loads.length : Int) > 12))) rfl rfl (W.q5 (.bool (decide ((a.Loads.length : Int) > 12))) e rfl (W.p2 (.bool (decide ((a.Loads.length : Int) > 12))) (W.splitAt (t := 29) (b := decide ((a.Loads.length : Int) > 12)) rfl (fun z f => ?_) (fun z f => ?_))))))
 .have aB := z01 z J
  refine W.q6 rfl f (W.q6 rfl f (W.q6 rfl f (W.q6 rfl f (W.q4 (.bool true) f rfl (.nil ?_)))))
  obtain rfl := zAa aB
  exact ⟨true, _, rfl, g, (zAf _), rfl⟩
 have aC := z11 z J
 refine W.pure (v := (padd (.pointer (some ⟨k, 0, none⟩)) 5)) (gl rfl f) rfl (z0a zb4 (ou (ft (l 1 rfl) rfl)) (g.atVar (j := 0) rfl)) ?_
 obtain ⟨aD, aE, aF⟩ := At.sl (At.proj (g.atVar (j := 0) rfl) z2q)
 refine W.load1 (v := aD) (r := []) (gl rfl f) rfl ag27 (z0f rfl aE) (W.pure (v := (.int .i64 (a.Stores.length : Int))) (gl rfl f) rfl (z1j ov (z17 aF) (z02 el27)) (W.q3 (hg := gk rfl rfl f rfl) (.bool (decide ((a.Stores.length : Int) > 4))) rfl rfl (W.q5 (.bool (decide ((a.Stores.length : Int) > 4))) f rfl (.nil ?_))))
 obtain rfl := zAa aC
 exact ⟨decide ((a.Stores.length : Int) > 4), _, rfl, g, (zAf _), rfl⟩
def z2l (K : Nat) (c : zAd) : Nat -> Int -> Option (Bool ⊕ Unit)
  | 0, _ => none
  | k + 1, a => (if (decide (a < ((z1u c).length : Int))) = true then ((idx (z1u c) a).bind fun b => (Option.bind ((if (decide (b >= 65)) = true then some (decide (b <= 90)) else some false)) (tu1 fun d => (Option.bind ((if (!d) = true then (if (a == 0) = true then some true else (if (decide (b < 48)) = true then some true else some (decide (b > 57)))) else some false)) (tu1 fun e => (if e = true then some (.inl false) else z2l K c k (z0u .i64 (a + 1)))))))) else some (.inr ()))
def z4z (K : Nat) (a : zAd) : Option Bool := (z66 (z2l K a K 0) (tu1 fun b => some b) (tu0 (Option.bind ((if (!(sEq a (⟨#[]⟩ : zAd))) = true then some (decide ((a.size : Int) <= 8)) else some false)) (tu1 fun c => some c))))
theorem z9j (f : zAd) (O : Ow G H (L)) (r : Bool) (h : z4z K f = some r) :
    CR Tryd.prog 25 [(.string f)] G H (L) (fun v i _ => v = .bool r) := by
 unfold z4z at h
 refine CR.og (n := 42) (fn := Tryd.f25) (by kernel_rfl) rfl rfl fun R kr => (.seq (.region (W.p1 (.bool false) (.nil (.seq (.seq ?_))))))
 refine .region (W.p2 (.string f) (W.ln (Lo.bytes rfl un9 zln in5 rfl O) ?_))
 rintro aV bc ⟨ah, aW, ai, a4, ae⟩
 refine W.pv (.int .i64 ((z1u f).length : Int)) (z1j ov (z17 ae) (z02 zln)) (W.p2 (.int .i64 0) (.nil ?_))
 obtain ⟨aj, aX, S⟩ := z2f h
 refine AW.midT (fun m q => ∃  (i : GM), (.inr ()) = aj /\ Ow i q (L) /\ GM.le ah i) ?_ ?_
 rotate_left
 .rintro aY a5 A ⟨ak, rfl, T, al⟩
  have am := z6j (z67 S)
  refine .seq ?_
  obtain ⟨an, U, ao⟩ := z03 am
  refine AW.midT (fun m q => ∃ (o : Bool) (i : GM), o = an /\ Ow i q (L) /\ GM.le ak i /\ m 2 = .bool o) ?_ ?_
  rotate_left
  .rintro aZ a6 a0 ⟨ap, a7, rfl, aq, ar, au⟩
   have av := z0k ao
   refine .ret ?_
   obtain rfl := zAa av
   exact z41 kr (v1 := (.bool ap)) (by rfl) (zb0 (by rfl) (by exact au)) aq (zAe ai (zAe al ar)) rfl
  refine .region (W.q2 (.string f) (ft (A 0 rfl) rfl) (W.pv (.bool (!(sEq f (⟨#[]⟩ : zAd)))) (zg0 ov ov) (W.p2 (.bool (!(sEq f (⟨#[]⟩ : zAd)))) (W.splitAt (t := 37) (b := (!(sEq f (⟨#[]⟩ : zAd)))) rfl (fun B e => ?_) (fun B e => ?_)))))
  rotate_left
  .have aw := z11 B U
   refine W.q6 rfl e (W.q6 rfl e (W.q6 rfl e (W.q5 (.bool false) e rfl (W.p1 (.bool false) (.nil ?_)))))
   obtain rfl := zAa aw
   exact ⟨false, _, rfl, T, (zAf _), rfl⟩
  have ax := z01 B U
  refine W.q2 (hg := gk rfl rfl e rfl) (.string f) (ft (A 0 rfl) rfl) (W.pure (v := (.int .i64 (f.size : Int))) (gl rfl e) rfl (z9r ov un9) (W.q3 (hg := gk rfl rfl e rfl) (.bool (decide ((f.size : Int) <= 8))) rfl rfl (W.q4 (.bool (decide ((f.size : Int) <= 8))) e rfl (W.p1 (.bool (decide ((f.size : Int) <= 8))) (.nil ?_)))))
  obtain rfl := zAa ax
  exact ⟨decide ((f.size : Int) <= 8), _, rfl, T, (zAf _), rfl⟩
 refine .block (AW.loop (α := Nat) (fun af m q => ∃ (o : Int) (i : GM), z2l K f af o = some aj /\ Ow i q (L) /\ GM.le ah i /\ m 9 = .int .i64 o) (fun af => af) K ⟨0, _, aX, aW, (zAf _), rfl⟩ ?_)
 rintro C
 rintro a1 a8 E ⟨g, ay, u, w, p, x⟩
 rcases C with _ | C
 .exact z0e u
 rw [z2l] at u
 refine .seq (.region (W.q3 (.bool (decide (g < ((z1u f).length : Int)))) x (ft (E 8 rfl) rfl) (.nil (.seq (.cond (b := decide (g < ((z1u f).length : Int))) rfl rfl (fun F => ?_) (fun F => ?_))))))
 rotate_left
 .have az := z11 F u
  refine .exit ?_
  obtain rfl := zAa az
  exact ⟨_, rfl, w, p⟩
 have aA := z01 F u
 refine .skip (.seq (.block (.seq (.region (W.q2 _ x ?_)))))
 obtain ⟨d, aB, aC⟩ := z03 aA
 have I := z1v aB
 refine W.pv (z5q aV (g.toNat * 1)) (z6h zln sz5 (ou (ft (E 7 rfl) rfl)) (ou x) (z17 (RT.mono _ p ae)) I.1 I.2.1) (W.l1 (.int .u8 d) ag5 (z0f rfl (At.int (At.le (At.le (z47 ae I.2.2) p p) (zAf _) w.fro))) (W.p1 (.int .i64 g) (W.p1 (.int .u8 d) (.nil (.seq ?_)))))
 obtain ⟨aD, V, aE⟩ := z03 aC
 refine AW.midT (fun m q => ∃ (o : Bool) (i : GM), o = aD /\ Ow i q (L) /\ GM.le ay i /\ m 5 = .bool o) ?_ ?_
 .refine .region (W.p2 (.int .u8 d) (W.p3 (.bool (decide (d >= 65))) (W.p2 (.bool (decide (d >= 65))) (W.splitAt (t := 16) (b := decide (d >= 65)) rfl (fun J j => ?_) (fun J j => ?_)))))
  rotate_left
  .have aF := z11 J V
   refine W.q6 rfl j (W.q6 rfl j (W.q5 (.bool false) j rfl (W.p1 (.bool false) (.nil ?_))))
   obtain rfl := zAa aF
   exact ⟨false, _, rfl, w, (zAf _), rfl⟩
  have aG := z01 J V
  refine W.q2 (hg := gk rfl rfl j rfl) (.int .u8 d) rfl (W.q3 (hg := gk rfl rfl j rfl) (.bool (decide (d <= 90))) rfl rfl (W.q4 (.bool (decide (d <= 90))) j rfl (W.p1 (.bool (decide (d <= 90))) (.nil ?_))))
  obtain rfl := zAa aG
  exact ⟨decide (d <= 90), _, rfl, w, (zAf _), rfl⟩
 rintro a2 a9 s ⟨y, aH, rfl, z, X, aI⟩
 have aJ := z0k aE
 refine .seq ?_
 obtain ⟨aK, Y, aL⟩ := z03 aJ
 refine AW.midT (fun m q => ∃ (o : Bool) (i : GM), o = aK /\ Ow i q (L) /\ GM.le aH i /\ m 33 = .bool o) ?_ ?_
 rotate_left
 .rintro a3 ba ag ⟨aM, bb, rfl, Z, aa, aN⟩
  have ab := z0k aL
  refine .cond (b := aM) rfl aN (fun M => ?_) (fun M => ?_)
  .have aO := z01 M ab
   refine .seq (.region (W.p1 (.bool false) (.nil (.ret ?_))))
   obtain rfl := zAa aO
   have aP := z0k (z4x S)
   obtain rfl := zAa aP
   exact z41 kr (v1 := (.bool false)) (by rfl) rt Z (zAe ai (zAe p (zAe X aa))) rfl
  have aQ := z11 M ab
  refine .skip (.region (W.q3 (.int .i64 (z0u .i64 (g + 1))) (ft (ag 9 rfl) (ft (s 9 rfl) x)) rfl (W.p2 (.int .i64 (z0u .i64 (g + 1))) (.nil ?_))))
  exact ⟨C, zAg _, ⟨z0u .i64 (g + 1), _, aQ, Z, (zAe p (zAe X aa)), rfl⟩⟩
 refine .region (W.q2 _ aI (W.pv (.bool (!y)) (z26 (a := y) ov) (W.p2 (.bool (!y)) (W.splitAt (t := 22) (b := (!y)) rfl (fun N c => ?_) (fun N c => ?_)))))
 rotate_left
 .have aR := z11 N Y
  refine W.q6 rfl c (W.q6 rfl c (W.q6 rfl c (W.skipU rfl rfl rfl rfl (W.skipU rfl rfl rfl rfl (W.q6 rfl c (W.q6 rfl c ?_))))))
  refine W.skipU rfl rfl rfl rfl (W.skipU rfl rfl rfl rfl (W.q6 rfl c (W.q5 (.bool false) c rfl (.nil ?_))))
  obtain rfl := zAa aR
  exact ⟨false, _, rfl, z, (zAf _), rfl⟩
 have ac := z01 N Y
 refine W.q2 (hg := gk rfl rfl c rfl) (.int .i64 g) (ft (s 3 rfl) rfl) (W.q3 (hg := gk rfl rfl c rfl) (.bool (g == 0)) rfl rfl (W.q2 (hg := gk rfl rfl c rfl) (.bool (g == 0)) rfl (W.splitAt (t := 25) (b := (g == 0)) rfl (fun P k => ?_) (fun P k => ?_))))
 .have aS := z01 P ac
  refine W.q6 rfl k (W.q6 rfl k (W.q4 (hg := gk rfl rfl c rfl) (.bool true) k rfl (W.q2 (hg := gk rfl rfl c rfl) (.bool true) rfl (W.q6 rfl rfl (W.q6 rfl rfl (W.q4 (hg := gk rfl rfl c rfl) (.bool true) rfl rfl ?_))))))
  refine W.q4 (.bool true) c rfl (.nil ?_)
  obtain rfl := zAa aS
  exact ⟨true, _, rfl, z, (zAf _), rfl⟩
 have ad := z11 P ac
 refine W.q2 (hg := gk rfl rfl k rfl) (.int .u8 d) (ft (s 4 rfl) rfl) (W.q3 (hg := gk rfl rfl k rfl) (.bool (decide (d < 48))) rfl rfl (W.q5 (hg := gk rfl rfl c rfl) (.bool (decide (d < 48))) k rfl (W.q2 (hg := gk rfl rfl c rfl) (.bool (decide (d < 48))) rfl (W.splitAt (t := 29) (b := decide (d < 48)) rfl (fun Q l => ?_) (fun Q l => ?_)))))
 .have aT := z01 Q ad
  refine W.q6 rfl l (W.q6 rfl l (W.q4 (hg := gk rfl rfl c rfl) (.bool true) l rfl (W.q4 (.bool true) c rfl (.nil ?_))))
  obtain rfl := zAa aT
  exact ⟨true, _, rfl, z, (zAf _), rfl⟩
 have aU := z11 Q ad
 refine W.q2 (hg := gk rfl rfl l rfl) (.int .u8 d) (ft (s 4 rfl) rfl) (W.q3 (hg := gk rfl rfl l rfl) (.bool (decide (d > 57))) rfl rfl (W.q5 (hg := gk rfl rfl c rfl) (.bool (decide (d > 57))) l rfl (W.q4 (.bool (decide (d > 57))) c rfl (.nil ?_))))
 obtain rfl := zAa aU
 exact ⟨decide (d > 57), _, rfl, z, (zAf _), rfl⟩
def z08 (K : Nat) (b : List zAd) (c : zAd) : Nat -> Int -> Option (Int ⊕ Unit)
  | 0, _ => none
  | k + 1, a => (if (decide (a < (b.length : Int))) = true then ((idx b a).bind fun d => (if (sEq c d) = true then some (.inl a) else z08 K b c k (z0u .i64 (a + 1)))) else some (.inr ()))
def z0l (K : Nat) (b : List zAd) (c : zAd) : Option Int := (z66 (z08 K b c K 0) (tu1 fun a => some a) (tu0 (some (-1))))
theorem z2r (j : Value) (f : List zAd) (k : (rSl rS).rep G [j] f) (g : zAd) (O : Ow G H (L)) (r : Int) (h : z0l K f g = some r) :
    CR Tryd.prog 27 [j, (.string g)] G H (L) (fun v i _ => v = .int .i64 r) := by
 unfold z0l at h
 refine CR.og (n := 19) (fn := Tryd.f27) (by kernel_rfl) rfl rfl fun R kr => (.seq (.region (W.p1 (.int .i64 0) (.nil (.seq (.seq ?_))))))
 refine .region (W.p2 j (W.pv (.int .i64 (f.length : Int)) (z1j ov (z17 k) (z02 el22)) (W.p2 (.int .i64 0) (.nil ?_))))
 obtain ⟨z, S, A⟩ := z2f h
 refine AW.midT (fun t w => ∃  (i : GM), (.inr ()) = z /\ Ow i w (L) /\ GM.le G i) ?_ ?_
 rotate_left
 .rintro T V U ⟨X, rfl, B, C⟩
  have E := z6j (z67 A)
  refine .seq (.region (W.p1 (.int .i64 (-1)) (.nil (.ret ?_))))
  obtain rfl := zAa E
  exact z41 kr (v1 := (.int .i64 (-1))) (by rfl) rt B C rfl
 refine .block (AW.loop (α := Nat) (fun x t w => ∃ (F : Int) (i : GM), z08 K f g x F = some z /\ Ow i w (L) /\ GM.le G i /\ t 8 = .int .i64 F) (fun x => x) K ⟨0, _, S, O, (zAf _), rfl⟩ ?_)
 rintro y
 rintro Y Z l ⟨a, aa, d, e, c, m⟩
 rcases y with _ | y
 .exact z0e d
 rw [z08] at d
 refine .seq (.region (W.q3 (.bool (decide (a < (f.length : Int)))) m (ft (l 7 rfl) rfl) (.nil (.seq (.cond (b := decide (a < (f.length : Int))) rfl rfl (fun o => ?_) (fun o => ?_))))))
 rotate_left
 .have I := z11 o d
  refine .exit ?_
  obtain rfl := zAa I
  exact ⟨_, rfl, e, c⟩
 have J := z01 o d
 refine .skip (.seq (.block (.seq (.region (W.q2 _ m (W.p1 (.int .i64 a) ?_))))))
 refine .nil (.seq (.region (W.q2 (.string g) (ft (l 1 rfl) rfl) (W.q2 j (ft (l 0 rfl) rfl) (W.p2 (.int .i64 a) ?_)))))
 obtain ⟨p, M, u⟩ := z03 J
 have q := z1v M
 refine W.pv (z5q j (a.toNat * 1)) (z6h el22 sz9 ov ov (z17 (RT.mono _ c k)) q.1 q.2.1) (W.l1 (.string p) ag9 (z0f rfl (At.str (At.le (At.le (z47 k q.2.2) c c) (zAf _) e.fro))) (W.pv (.bool (sEq g p)) (z69 ov ov) (.nil (.cond (b := sEq g p) rfl rfl (fun s => ?_) (fun s => ?_)))))
 rotate_left
 .have N := z11 s u
  refine .skip (.region (W.r3 (.int .i64 (z0u .i64 (a + 1))) m (W.p2 (.int .i64 (z0u .i64 (a + 1))) (.nil ?_))))
  exact ⟨y, zAg _, ⟨z0u .i64 (a + 1), _, N, e, c, rfl⟩⟩
 have P := z01 s u
 refine .seq (.region (W.p2 (.int .i64 a) (W.p1 (.int .i64 a) (.nil (.ret ?_)))))
 obtain rfl := zAa P
 have Q := z0k (z4x A)
 obtain rfl := zAa Q
 exact z41 kr (v1 := (.int .i64 a)) (by rfl) rt e c rfl
def z10 (K : Nat) (a : List zAd) (b : zAd) : Option Bool := ((z0l K a b).bind fun c => some (decide (c >= 0)))
theorem z3b (a : Value) (c : List zAd) (e : (rSl rS).rep G [a] c) (b : zAd) (O : Ow G H (L)) (r : Bool) (h : z10 K c b = some r) :
    CR Tryd.prog 72 [a, (.string b)] G H (L) (fun v p _ => v = .bool r) := by
 unfold z10 at h
 refine CR.og (n := 9) (fn := Tryd.f72) (by kernel_rfl) rfl rfl fun R kr => (.seq (.region (W.p1 (.bool false) (.nil (.seq (.region ?_))))))
 refine W.p2 a (W.p2 (.string b) ?_)
 obtain ⟨d, f, g⟩ := z03 h
 refine W.ln (Lo.cQ Tryd.f27 (mc rfl (mc rfl mn)) O (fun q i => z2r K a c e b i _ f)) ?_
 rintro l m ⟨s, j, k, o, rfl⟩
 refine W.p3 (.bool (decide (d >= 0))) (W.p1 (.bool (decide (d >= 0))) (.nil (.ret ?_)))
 obtain rfl := zAa g
 exact z41 kr (v1 := (.bool (decide (d >= 0)))) (by rfl) rt j k rfl
structure Netmodel_names where
  l : List zAd
  deriving DecidableEq, Inhabited
def z07 : RT (Netmodel_names × Value) := rIso rV (fun s : Netmodel_names × Value => (s.2))
theorem z5o : Proj z07 0 rV (fun x => x.2) := by
  have h := (Proj.iso rV (fun s : Netmodel_names × Value => (s.2))).comp (Proj.self _)
  exact h
theorem z7h : Put z07 0 rV (fun x y => (x.1, y)) := by
  have h := Put.comp (Proj.iso rV (fun s : Netmodel_names × Value => (s.2))) (Put.iso rV (fun s : Netmodel_names × Value => (s.2)) (fun x q => (x.1, q)) (fun _ _ => rfl)) (Put.self _)
  exact h
def z2m (K : Nat) (a : Netmodel_names) (b : zAd) : Option (Int × Netmodel_names) := ((z4z K b).bind fun d => (if (!d) = true then some (5, (Netmodel_names.mk a.l)) else ((z10 K a.l b).bind fun c => (if c = true then some (7, (Netmodel_names.mk a.l)) else (if a.l.length + [b].length <= 16777216 then some (0, (Netmodel_names.mk (a.l ++ [b]))) else none)))))
theorem z5p (c : Nat) (e : Value) (q : Netmodel_names) (d : zAd) (O : Ow G H (eVar c 104 z07 (q, e) :: eSl e 9 rS q.l :: L)) (r : Int × Netmodel_names) (h : z2m K q d = some r) :
    CRF Tryd.prog 62 [.pointer (some ⟨c, 0, none⟩), (.string d)] G H (fun wl => (eVar c 104 z07 (r.2, wl) :: eSl wl 9 rS r.2.l :: L)) (fun wl v U => v = .int .i64 r.1) := by
 unfold z2m at h
 refine CRF.og (n := 24) (fn := Tryd.f62) (by kernel_rfl) rfl rfl fun R kr => (.seq (.region (W.p1 (.int .i64 0) (.nil (.seq (.seq ?_))))))
 refine .region (W.p2 (.string d) ?_)
 obtain ⟨x, V, A⟩ := z03 h
 refine W.ln (Lo.cQ Tryd.f25 (mc rfl mn) O (fun X y => z9j K d y _ V)) ?_
 rintro ad ae ⟨ao, i, z, af, rfl⟩
 refine W.pv (.bool (!x)) (z26 (a := x) ov) (.nil (.cond (b := (!x)) rfl rfl (fun k => ?_) (fun k => ?_)))
 .have B := z01 k A
  refine .seq (.region (W.p1 (.int .i64 5) (.nil (.ret ?_))))
  obtain rfl := zAa B
  exact z4a kr e (v1 := (.int .i64 5)) (by rfl) rt i z rfl
 have C := z11 k A
 refine .skip (.seq (.seq (.region (W.p2 (.pointer (some ⟨c, 0, none⟩)) (W.pv (.pointer (some ⟨c, 0, none⟩)) (zfz ov (i.atVar (j := 0) rfl)) (W.pv (padd (.pointer (some ⟨c, 0, none⟩)) 0) (z0a zg9 ov (i.atVar (j := 0) rfl)) ?_))))))
 refine W.l1 e ag22 (z0f rfl (At.raw (At.proj (i.atVar (j := 0) rfl) z5o))) (W.p2 (.string d) ?_)
 obtain ⟨E, F, t⟩ := z03 C
 refine W.ln (Lo.callB (j := 1) rfl rfl (fn := Tryd.f72) (by kernel_rfl) rfl (mc rfl (mc rfl mn)) i (fun U X hG y hB => z3b K e q.l hB d y _ F)) ?_
 rintro ag ah ⟨ai, f, u, Y, rfl⟩
 refine .nil (.cond (b := E) rfl rfl (fun m => ?_) (fun m => ?_))
 .have I := z01 m t
  refine .seq (.region (W.p1 (.int .i64 7) (.nil (.ret ?_))))
  obtain rfl := zAa I
  exact z4a kr e (v1 := (.int .i64 7)) (by rfl) rt f (zAe z u) rfl
 have J := z11 m t
 refine .skip (.seq (.region (W.p2 (.pointer (some ⟨c, 0, none⟩)) (W.p2 (.pointer (some ⟨c, 0, none⟩)) (W.pv (.pointer (some ⟨c, 0, none⟩)) (zfz ov (f.atVar (j := 0) rfl)) (W.pv (padd (.pointer (some ⟨c, 0, none⟩)) 0) (z0a zg9 ov (f.atVar (j := 0) rfl)) ?_))))))
 refine W.l1 e ag22 (z0f rfl (At.raw (At.proj (f.atVar (j := 0) rfl) z5o))) (W.p2 (.string d) (W.ln (Lo.buildSlice (r := rS) (vs := [(.string d)]) (xs := [d]) el22 ze9 sz9 (by kernel_rfl) rfl (qc rfl qn) rfl (.cons rfl .nil) f) ?_))
 rintro aj ak ⟨w, Z⟩
 obtain ⟨aa, M, N⟩ := z6i (j := 0) rfl w
 obtain ⟨P, Q⟩ := z38 J
 refine W.ln (Lo.append (j := 2) (v := e) rfl rfl el22 ni22 ze9 sz9 by9 (by decide) (by decide) rfl M N P w) ?_
 rintro p al ⟨g, ab⟩
 refine W.pv (.pointer (some ⟨c, 0, none⟩)) (zfz ov (g.atVar (j := 1) rfl)) (W.pv (padd (.pointer (some ⟨c, 0, none⟩)) 0) (z0a zg9 ov (g.atVar (j := 1) rfl)) (W.ln (Lo.storeVar (j := 1) (s := rV) (y0 := p) (v := p) (o := 0) rfl ((Put.at z7h _ _)) rfl sz22 rfl (by omega) rfl (zcn (g.slLen (j := 2) rfl)) g) ?_))
 rintro am an ⟨S, ac⟩
 refine .nil (.seq (.region (W.p1 (.int .i64 0) (.nil (.ret ?_)))))
 have T := S.drop 0
 obtain rfl := zAa Q
 exact z4a kr p (v1 := (.int .i64 0)) (by rfl) rt T (zAe z u) rfl
def z1i (K : Nat) (c : Network) (b : List zAd) : Nat -> Int -> Option (Int ⊕ Unit)
  | 0, _ => none
  | k + 1, a => (if (decide (a < (b.length : Int))) = true then ((idx b a).bind fun d => ((z10 K c.Nodes d).bind fun e => (if (!e) = true then some (.inl 6) else z1i K c b k (z0u .i64 (a + 1))))) else some (.inr ()))
def z50 (K : Nat) (b : Network) (c : List zAd) : Option Int := (z66 (z1i K b c K 0) (tu1 fun a => some a) (tu0 (some 0)))
theorem z9k (B : List Value) (f : Network) (J : z00.rep G B f) (v1 : Value) (l : List zAd) (o : (rSl rS).rep G [v1] l) (O : Ow G H (L)) (r : Int) (h : z50 K f l = some r) :
    CR Tryd.prog 73 [.agg B.toArray, v1] G H (L) (fun v m _ => v = .int .i64 r) := by
 unfold z50 at h
 refine CR.og (n := 19) (fn := Tryd.f73) (by kernel_rfl) rfl rfl fun R kr => (.seq (.region (W.ln (Lo.box (r := z00) (x0 := f) (v := (.agg B.toArray)) rfl rfl J O) ?_)))
 rintro ay az ⟨C, rfl, ah, ao⟩
 refine W.p1 (.int .i64 0) (.nil (.seq (.seq (.region (W.p2 v1 (W.pv (.int .i64 (l.length : Int)) (z1j ov (z17 o) (z02 el22)) ?_))))))
 refine W.p2 (.int .i64 0) (.nil ?_)
 obtain ⟨M, ai, N⟩ := z2f h
 refine AW.midT (fun w E => ∃  (m : GM), (.inr ()) = M /\ Ow m E (eVar C 29 z00 f :: L) /\ GM.le G m) ?_ ?_
 rotate_left
 .rintro aj ap ak ⟨aq, rfl, P, Q⟩
  have S := z6j (z67 N)
  refine .seq (.region (W.p1 (.int .i64 0) (.nil (.ret ?_))))
  have T := P.drop 0
  obtain rfl := zAa S
  exact z41 kr (v1 := (.int .i64 0)) (by rfl) rt T Q rfl
 refine .block (AW.loop (α := Nat) (fun F w E => ∃ (U : Int) (m : GM), z1i K f l F U = some M /\ Ow m E (eVar C 29 z00 f :: L) /\ GM.le G m /\ w 9 = .int .i64 U) (fun F => F) K ⟨0, _, ai, ah, (zAf _), rfl⟩ ?_)
 rintro I
 rintro al ar g ⟨c, au, i, e, d, p⟩
 rcases I with _ | I
 .exact z0e i
 rw [z1i] at i
 refine .seq (.region (W.q3 (.bool (decide (c < (l.length : Int)))) p (ft (g 8 rfl) rfl) (.nil (.seq (.cond (b := decide (c < (l.length : Int))) rfl rfl (fun q => ?_) (fun q => ?_))))))
 rotate_left
 .have V := z11 q i
  refine .exit ?_
  obtain rfl := zAa V
  exact ⟨_, rfl, e, d⟩
 have X := z01 q i
 refine .skip (.seq (.block (.seq (.region ?_))))
 obtain ⟨k, Y, Z⟩ := z03 X
 have s := z1v Y
 refine W.pv (z5q v1 (c.toNat * 1)) (z6h el22 sz9 (ou (ft (g 7 rfl) rfl)) (ou p) (z17 (RT.mono _ d o)) s.1 s.2.1) (W.l1 (.string k) ag9 (z0f rfl (At.str (At.le (At.le (z47 o s.2.2) d d) (zAf _) e.fro))) (W.p1 (.string k) (.nil (.seq (.region (W.pv (padd (.pointer (some ⟨C, 0, none⟩)) 0) (z0a zaj (ou (ft (g 2 rfl) rfl)) (e.atVar (j := 0) rfl)) ?_))))))
 obtain ⟨x, aa, ab⟩ := At.sl (At.proj (e.atVar (j := 0) rfl) z1y)
 refine W.l1 x ag22 (z0f rfl aa) (W.p2 (.string k) ?_)
 obtain ⟨t, ac, y⟩ := z03 Z
 refine W.ln (Lo.cQ Tryd.f72 (mc rfl (mc rfl mn)) e (fun aA am => z3b K x f.Nodes ab k am _ ac)) ?_
 rintro av aw ⟨ax, z, A, an, rfl⟩
 refine W.pv (.bool (!t)) (z26 (a := t) ov) (.nil (.cond (b := (!t)) rfl rfl (fun u => ?_) (fun u => ?_)))
 rotate_left
 .have ad := z11 u y
  refine .skip (.region (W.r3 (.int .i64 (z0u .i64 (c + 1))) p (W.p2 (.int .i64 (z0u .i64 (c + 1))) (.nil ?_))))
  exact ⟨I, zAg _, ⟨z0u .i64 (c + 1), _, ad, z, (zAe d A), rfl⟩⟩
 have ae := z01 u y
 refine .seq (.region (W.p1 (.int .i64 6) (.nil (.ret ?_))))
 have af := z.drop 0
 obtain rfl := zAa ae
 have ag := z0k (z4x N)
 obtain rfl := zAa ag
 exact z41 kr (v1 := (.int .i64 6)) (by rfl) rt af (zAe d A) rfl
def z22 (K : Nat) (c : Network) (d : Netmodel_names) (e : zAd) (f : List zAd) : Option (Int × Netmodel_names) := ((z2m K (Netmodel_names.mk d.l) e).bind fun a => (if (a.1 != 0) = true then some (a.1, (Netmodel_names.mk a.2.l)) else ((z50 K c f).bind fun b => some (b, (Netmodel_names.mk a.2.l)))))
theorem z37 (u : List Value) (g : Network) (z : z00.rep G u g) (c : Nat) (v1 : Value) (i : Netmodel_names) (k : zAd) (m : Value) (x : List zAd) (A : (rSl rS).rep G [m] x) (O : Ow G H (eVar c 104 z07 (i, v1) :: eSl v1 9 rS i.l :: L)) (r : Int × Netmodel_names) (h : z22 K g i k x = some r) :
    CRF Tryd.prog 63 [.agg u.toArray, .pointer (some ⟨c, 0, none⟩), (.string k), m] G H (fun wl => (eVar c 104 z07 (r.2, wl) :: eSl wl 9 rS r.2.l :: L)) (fun wl v af => v = .int .i64 r.1) := by
 unfold z22 at h
 refine CRF.og (n := 19) (fn := Tryd.f63) (by kernel_rfl) rfl rfl fun R kr => (.seq (.region (W.ln (Lo.box (r := z00) (x0 := g) (v := (.agg u.toArray)) rfl rfl z O) ?_)))
 rintro ag ah ⟨ai, rfl, S, Y⟩
 refine W.p1 (.int .i64 0) (.nil (.seq (.seq (.region (W.p2 (.pointer (some ⟨c, 0, none⟩)) (W.p2 (.string k) ?_))))))
 have T := ((S.front (j := 0) rfl).front (j := 2) rfl).front (j := 2) rfl
 obtain ⟨a, B, o⟩ := z03 h
 refine W.ln (Lo.qF Tryd.f62 (ps := [_, _]) (pw := fun w => [_, _]) (mc rfl (mc rfl mn)) T (fun U y => z5p K c v1 (Netmodel_names.mk i.l) k y _ B)) ?_
 rintro Z aa ⟨p, ab, d, e, V, rfl⟩
 refine W.p1 (.int .i64 a.1) (.nil (.seq (.region (W.p2 (.int .i64 a.1) (W.p3 (.bool (a.1 != 0)) (.nil ?_))))))
 refine .cond (b := (a.1 != 0)) rfl rfl (fun f => ?_) (fun f => ?_)
 .have C := z01 f o
  refine .seq (.region (W.p2 (.int .i64 a.1) (W.p1 (.int .i64 a.1) (.nil (.ret ?_)))))
  have E := d.drop 2
  obtain rfl := zAa C
  exact z4a kr p (v1 := (.int .i64 a.1)) (by rfl) rt E e rfl
 have F := z11 f o
 refine .skip (.seq (.region ?_))
 obtain ⟨q, I, s⟩ := (d.atVar (j := 2) rfl)
 refine W.loadA (cs := q) rfl rfl ag29 sz29 (z0f rfl I) (RT.len _ s) (W.p2 m ?_)
 obtain ⟨t, J, M⟩ := z03 F
 refine W.ln (Lo.cQ Tryd.f73 (mc rfl (mc rfl mn)) d (fun U y => z9k K q g s m x (RT.mono _ e A) y _ J)) ?_
 rintro ac ad ⟨ae, N, P, X, rfl⟩
 refine W.p1 (.int .i64 t) (.nil (.ret ?_))
 have Q := N.drop 2
 obtain rfl := zAa M
 exact z4a kr p (v1 := (.int .i64 t)) (by rfl) rt Q (zAe e P) rfl
def z0h (K : Nat) (a : Int) (b : Int) (c : Int) : Option Bool := (Option.bind ((if (decide (a >= b)) = true then some (decide (a <= c)) else some false)) (tu1 fun d => some d))
theorem z0j (c : Int) (e : Int) (d : Int) (O : Ow G H (L)) (r : Bool) (h : z0h K c e d = some r) :
    CR Tryd.prog 65 [(.int .i64 c), (.int .i64 e), (.int .i64 d)] G H (L) (fun v f _ => v = .bool r) := by
 unfold z0h at h
 refine CR.og (n := 15) (fn := Tryd.f65) (by kernel_rfl) rfl rfl fun R kr => (.seq (.region (W.p1 (.bool false) (.nil (.seq ?_)))))
 obtain ⟨q, i, s⟩ := z03 h
 refine AW.midT (fun j u => ∃ (k : Bool) (f : GM), k = q /\ Ow f u (L) /\ GM.le G f /\ j 6 = .bool k) ?_ ?_
 rotate_left
 .rintro A B w ⟨x, C, rfl, l, m, o⟩
  have p := z0k s
  refine .ret ?_
  obtain rfl := zAa p
  exact z41 kr (v1 := (.bool x)) (by rfl) (zb0 (by rfl) (by exact o)) l m rfl
 refine .region (W.p2 (.int .i64 c) (W.p2 (.int .i64 e) (W.p3 (.bool (decide (c >= e))) (W.p2 (.bool (decide (c >= e))) (W.splitAt (t := 10) (b := decide (c >= e)) rfl (fun g a => ?_) (fun g a => ?_))))))
 rotate_left
 .have y := z11 g i
  refine W.q6 rfl a (W.q6 rfl a (W.q6 rfl a (W.q5 (.bool false) a rfl (W.p1 (.bool false) (.nil ?_)))))
  obtain rfl := zAa y
  exact ⟨false, _, rfl, O, (zAf _), rfl⟩
 have z := z01 g i
 refine W.q2 (hg := gk rfl rfl a rfl) (.int .i64 c) rfl (W.q2 (hg := gk rfl rfl a rfl) (.int .i64 d) rfl (W.q3 (hg := gk rfl rfl a rfl) (.bool (decide (c <= d))) rfl rfl (W.q4 (.bool (decide (c <= d))) a rfl (W.p1 (.bool (decide (c <= d))) (.nil ?_)))))
 obtain rfl := zAa z
 exact ⟨decide (c <= d), _, rfl, O, (zAf _), rfl⟩
def z3w (K : Nat) (a : Branch) : Option Int := (Option.bind (((z0h K a.X 1 10000).bind fun i => (if (!i) = true then some true else ((z0h K a.Tap 500 1500).bind fun c => (if (!c) = true then some true else ((z0h K a.Shift (-1000) 1000).bind fun d => some (!d))))))) (tu1 fun e => (if e = true then some 4 else (Option.bind (((z0h K a.Limit 0 100000).bind fun f => (if (!f) = true then some true else ((z0h K a.Short a.Limit 100000).bind fun g => (if (!g) = true then some true else ((z0h K a.Hold 0 200000).bind fun h => some (!h))))))) (tu1 fun b => (if b = true then some 4 else some 0))))))
theorem z8n (ah : List Value) (g : Branch) (au : z0i.rep G ah g) (O : Ow G H (L)) (r : Int) (h : z3w K g = some r) :
    CR Tryd.prog 26 [.agg ah.toArray] G H (L) (fun v B _ => v = .int .i64 r) := by
 unfold z3w at h
 refine CR.og (n := 37) (fn := Tryd.f26) (by kernel_rfl) rfl rfl fun R kr => (.seq (.region (W.ln (Lo.box (r := z0i) (x0 := g) (v := (.agg ah.toArray)) rfl rfl au O) ?_)))
 rintro bu bv ⟨l, rfl, ai, bd⟩
 refine W.p1 (.int .i64 0) (.nil (.seq (.seq ?_)))
 obtain ⟨aZ, a0, a1⟩ := z03 h
 refine AW.midT (fun C aj => ∃ (E : Bool) (B : GM), E = aZ /\ Ow B aj (eVar l 59 z0i g :: L) /\ GM.le G B /\ C 18 = .bool E) ?_ ?_
 .refine .region (W.pv (padd (.pointer (some ⟨l, 0, none⟩)) 3) (z0a zj1 ov (ai.atVar (j := 0) rfl)) (W.l1 (.int .i64 g.X) ag3 (z0f rfl (At.int (At.proj (ai.atVar (j := 0) rfl) zal))) ?_))
  obtain ⟨Z, av, aa⟩ := z03 a0
  refine W.ln (Lo.cQ Tryd.f65 (mc rfl (mc rfl (mc rfl mn))) ai (fun F i => z0j K g.X 1 10000 i _ av)) ?_
  rintro be bf ⟨bg, s, I, a2, rfl⟩
  refine W.pv (.bool (!Z)) (z26 (a := Z) ov) (W.p2 (.bool (!Z)) (W.splitAt (t := 7) (b := (!Z)) rfl (fun J d => ?_) (fun J d => ?_)))
  .have aw := z01 J aa
   refine W.q6 rfl d (W.q6 rfl d (W.q6 rfl d (W.q6 rfl d (W.q4 (.bool true) d rfl (W.p2 (.bool true) (W.q6 rfl rfl ?_))))))
   refine W.q6 rfl rfl (W.q6 rfl rfl (W.q6 rfl rfl (W.q4 (.bool true) rfl rfl (.nil ?_))))
   obtain rfl := zAa aw
   exact ⟨true, _, rfl, s, I, rfl⟩
  have ax := z11 J aa
  refine W.pure (v := (padd (.pointer (some ⟨l, 0, none⟩)) 4)) (gl rfl d) rfl (z0a zj2 ov (s.atVar (j := 0) rfl)) (W.load1 (v := (.int .i64 g.Tap)) (r := []) (gl rfl d) rfl ag3 (z0f rfl (At.int (At.proj (s.atVar (j := 0) rfl) z8k))) ?_)
  obtain ⟨o, ay, ab⟩ := z03 ax
  refine W.lo (gl rfl d) rfl (Lo.cQ Tryd.f65 (mc rfl (mc rfl (mc rfl mn))) s (fun F i => z0j K g.Tap 500 1500 i _ ay)) ?_
  rintro bh bi ⟨bj, u, ac, a3, rfl⟩
  refine W.pure (v := (.bool (!o))) (gl rfl d) rfl (z26 (a := o) ov) (W.q5 (.bool (!o)) d rfl (W.p2 (.bool (!o)) (W.splitAt (t := 13) (b := (!o)) rfl (fun M e => ?_) (fun M e => ?_))))
  .have az := z01 M ab
   refine W.q6 rfl e (W.q6 rfl e (W.q6 rfl e (W.q6 rfl e (W.q4 (.bool true) e rfl (.nil ?_)))))
   obtain rfl := zAa az
   exact ⟨true, _, rfl, u, (zAe I ac), rfl⟩
  have aA := z11 M ab
  refine W.pure (v := (padd (.pointer (some ⟨l, 0, none⟩)) 5)) (gl rfl e) rfl (z0a zj3 ov (u.atVar (j := 0) rfl)) (W.load1 (v := (.int .i64 g.Shift)) (r := []) (gl rfl e) rfl ag3 (z0f rfl (At.int (At.proj (u.atVar (j := 0) rfl) z76))) ?_)
  obtain ⟨w, aB, aC⟩ := z03 aA
  refine W.lo (gl rfl e) rfl (Lo.cQ Tryd.f65 (mc rfl (mc rfl (mc rfl mn))) u (fun F i => z0j K g.Shift (-1000) 1000 i _ aB)) ?_
  rintro bk bl ⟨bm, aD, aE, a4, rfl⟩
  refine W.pure (v := (.bool (!w))) (gl rfl e) rfl (z26 (a := w) ov) (W.q5 (.bool (!w)) e rfl (.nil ?_))
  obtain rfl := zAa aC
  exact ⟨(!w), _, rfl, aD, (zAe I (zAe ac aE)), rfl⟩
 rintro a5 bn m ⟨aF, aG, rfl, x, N, aH⟩
 have ad := z0k a1
 refine .cond (b := aF) rfl aH (fun P => ?_) (fun P => ?_)
 .have aI := z01 P ad
  refine .seq (.region (W.p1 (.int .i64 4) (.nil (.ret ?_))))
  have aJ := x.drop 0
  obtain rfl := zAa aI
  exact z41 kr (v1 := (.int .i64 4)) (by rfl) rt aJ N rfl
 have aK := z11 P ad
 refine .skip (.seq (.seq ?_))
 obtain ⟨aL, aM, aN⟩ := z03 aK
 refine AW.midT (fun C aj => ∃ (E : Bool) (B : GM), E = aL /\ Ow B aj (eVar l 59 z0i g :: L) /\ GM.le aG B /\ C 36 = .bool E) ?_ ?_
 rotate_left
 .rintro aW a6 aX ⟨ak, a7, rfl, Q, S, al⟩
  have T := z0k aN
  refine .cond (b := ak) rfl al (fun q => ?_) (fun q => ?_)
  .have am := z01 q T
   refine .seq (.region (W.p1 (.int .i64 4) (.nil (.ret ?_))))
   have an := Q.drop 0
   obtain rfl := zAa am
   exact z41 kr (v1 := (.int .i64 4)) (by rfl) rt an (zAe N S) rfl
  have ao := z11 q T
  refine .skip (.seq (.region (W.p1 (.int .i64 0) (.nil (.ret ?_)))))
  have ap := Q.drop 0
  obtain rfl := zAa ao
  exact z41 kr (v1 := (.int .i64 0)) (by rfl) rt ap (zAe N S) rfl
 refine .region (W.pv (padd (.pointer (some ⟨l, 0, none⟩)) 6) (z0a zg7 (ou (ft (m 1 rfl) rfl)) (x.atVar (j := 0) rfl)) (W.l1 (.int .i64 g.Limit) ag3 (z0f rfl (At.int (At.proj (x.atVar (j := 0) rfl) z5j))) ?_))
 obtain ⟨y, aO, ae⟩ := z03 aM
 refine W.ln (Lo.cQ Tryd.f65 (mc rfl (mc rfl (mc rfl mn))) x (fun F i => z0j K g.Limit 0 100000 i _ aO)) ?_
 rintro bo bp ⟨bq, k, U, a8, rfl⟩
 refine W.pv (.bool (!y)) (z26 (a := y) ov) (W.p2 (.bool (!y)) (W.splitAt (t := 23) (b := (!y)) rfl (fun V c => ?_) (fun V c => ?_)))
 .have aP := z01 V ae
  refine W.q6 rfl c (W.q6 rfl c (W.q6 rfl c (W.q6 rfl c (W.q6 rfl c (W.q6 rfl c (W.q4 (.bool true) c rfl ?_))))))
  refine W.p2 (.bool true) (W.q6 rfl rfl (W.q6 rfl rfl (W.q6 rfl rfl (W.q6 rfl rfl (W.q4 (.bool true) rfl rfl (.nil ?_))))))
  obtain rfl := zAa aP
  exact ⟨true, _, rfl, k, U, rfl⟩
 have aQ := z11 V ae
 refine W.pure (v := (padd (.pointer (some ⟨l, 0, none⟩)) 7)) (gl rfl c) rfl (z0a zj4 (ou (ft (m 1 rfl) rfl)) (k.atVar (j := 0) rfl)) (W.load1 (v := (.int .i64 g.Short)) (r := []) (gl rfl c) rfl ag3 (z0f rfl (At.int (At.proj (k.atVar (j := 0) rfl) z77))) (W.pure (v := (padd (.pointer (some ⟨l, 0, none⟩)) 6)) (gl rfl c) rfl (z0a zg7 (ou (ft (m 1 rfl) rfl)) (k.atVar (j := 0) rfl)) (W.load1 (v := (.int .i64 g.Limit)) (r := []) (gl rfl c) rfl ag3 (z0f rfl (At.int (At.proj (k.atVar (j := 0) rfl) z5j))) ?_)))
 obtain ⟨p, aR, af⟩ := z03 aQ
 refine W.lo (gl rfl c) rfl (Lo.cQ Tryd.f65 (mc rfl (mc rfl (mc rfl mn))) k (fun F i => z0j K g.Short g.Limit 100000 i _ aR)) ?_
 rintro br bs ⟨bt, z, ag, a9, rfl⟩
 refine W.pure (v := (.bool (!p))) (gl rfl c) rfl (z26 (a := p) ov) (W.q5 (.bool (!p)) c rfl (W.p2 (.bool (!p)) (W.splitAt (t := 31) (b := (!p)) rfl (fun Y f => ?_) (fun Y f => ?_))))
 .have aS := z01 Y af
  refine W.q6 rfl f (W.q6 rfl f (W.q6 rfl f (W.q6 rfl f (W.q4 (.bool true) f rfl (.nil ?_)))))
  obtain rfl := zAa aS
  exact ⟨true, _, rfl, z, (zAe U ag), rfl⟩
 have aT := z11 Y af
 refine W.pure (v := (padd (.pointer (some ⟨l, 0, none⟩)) 8)) (gl rfl f) rfl (z0a zj5 (ou (ft (m 1 rfl) rfl)) (z.atVar (j := 0) rfl)) (W.load1 (v := (.int .i64 g.Hold)) (r := []) (gl rfl f) rfl ag3 (z0f rfl (At.int (At.proj (z.atVar (j := 0) rfl) z7n))) ?_)
 obtain ⟨A, aU, aV⟩ := z03 aT
 refine W.lo (gl rfl f) rfl (Lo.cQ Tryd.f65 (mc rfl (mc rfl (mc rfl mn))) z (fun F i => z0j K g.Hold 0 200000 i _ aU)) ?_
 rintro ba bb ⟨bc, aq, ar, aY, rfl⟩
 refine W.pure (v := (.bool (!A))) (gl rfl f) rfl (z26 (a := A) ov) (W.q5 (.bool (!A)) f rfl (.nil ?_))
 obtain rfl := zAa aV
 exact ⟨(!A), _, rfl, aq, (zAe U (zAe ag ar)), rfl⟩
def z0p (K : Nat) (d : Network) : Nat -> Netmodel_names -> List zAd -> Int -> Option ((Int × Netmodel_names) ⊕ (Netmodel_names × List zAd))
  | 0, _, _, _ => none
  | k + 1, h, e, c => (if (decide (c < (d.Gens.length : Int))) = true then ((idx d.Gens c).bind fun a => ((z22 K d (Netmodel_names.mk e) a.Name [a.Node]).bind fun b => (if (b.1 != 0) = true then some (.inl (b.1, (Netmodel_names.mk b.2.l))) else (Option.bind (((z0h K a.Least 0 100000).bind fun i => (if (!i) = true then some true else ((z0h K a.Most a.Least 100000).bind fun j => (if (!j) = true then some true else ((z0h K a.Ramp 0 100000).bind fun f => some (!f))))))) (tu1 fun g => (if g = true then some (.inl (4, (Netmodel_names.mk b.2.l))) else z0p K d k b.2 b.2.l (z0u .i64 (c + 1)))))))) else some (.inr (h, e)))
def z0q (K : Nat) (e : Network) : Nat -> Netmodel_names -> List zAd -> Int -> Option ((Int × Netmodel_names) ⊕ (Netmodel_names × List zAd))
  | 0, _, _, _ => none
  | k + 1, f, d, b => (if (decide (b < (e.Loads.length : Int))) = true then ((idx e.Loads b).bind fun c => ((z22 K e (Netmodel_names.mk d) c.Name [c.Node]).bind fun a => (if (a.1 != 0) = true then some (.inl (a.1, (Netmodel_names.mk a.2.l))) else ((z0h K c.Demand 0 100000).bind fun g => (if (!g) = true then some (.inl (4, (Netmodel_names.mk a.2.l))) else z0q K e k a.2 a.2.l (z0u .i64 (b + 1))))))) else some (.inr (f, d)))
def z0r (K : Nat) (e : Network) : Nat -> Netmodel_names -> List zAd -> Int -> Option ((Int × Netmodel_names) ⊕ (Netmodel_names × List zAd))
  | 0, _, _, _ => none
  | k + 1, f, d, c => (if (decide (c < (e.Stores.length : Int))) = true then ((idx e.Stores c).bind fun b => ((z22 K e (Netmodel_names.mk d) b.Name [b.Node]).bind fun a => (if (a.1 != 0) = true then some (.inl (a.1, (Netmodel_names.mk a.2.l))) else (Option.bind (((z0h K b.Charge 0 100000).bind fun g => (if (!g) = true then some true else ((z0h K b.Discharge 0 100000).bind fun h => (if (!h) = true then some true else ((z0h K b.Capacity 0 100000).bind fun i => some (!i))))))) (tu1 fun j => (if j = true then some (.inl (4, (Netmodel_names.mk a.2.l))) else z0r K e k a.2 a.2.l (z0u .i64 (c + 1)))))))) else some (.inr (f, d)))
def z3o (K : Nat) (a : Network) (n : Netmodel_names) : Option (Int × Netmodel_names) := (z66 (z0p K a K n n.l 0) (tu2 fun b c => some (b, c)) (tu2 fun d e => (z66 (z0q K a K d e 0) (tu2 fun f g => some (f, g)) (tu2 fun h i => (z66 (z0r K a K h i 0) (tu2 fun j k => some (j, k)) (tu2 fun o m => some (0, (Netmodel_names.mk m))))))))
theorem z89 (b3 : List Value) (i : Network) (dG : z00.rep G b3 i) (A : Nat) (v1 : Value) (a8 : Netmodel_names) (O : Ow G H (eVar A 104 z07 (a8, v1) :: eSl v1 9 rS a8.l :: L)) (r : Int × Netmodel_names) (h : z3o K i a8 = some r) :
    CRF Tryd.prog 64 [.agg b3.toArray, .pointer (some ⟨A, 0, none⟩)] G H (fun wl => (eVar A 104 z07 (r.2, wl) :: eSl wl 9 rS r.2.l :: L)) (fun wl v m => v = .int .i64 r.1) := by
 unfold z3o at h
 refine CRF.og (n := 109) (fn := Tryd.f64) (by kernel_rfl) rfl rfl fun R kr => (.seq (.region (W.ln (Lo.box (r := z00) (x0 := i) (v := (.agg b3.toArray)) rfl rfl dG O) ?_)))
 rintro fG fH ⟨V, rfl, b4, fq⟩
 refine W.p1 (.int .i64 0) (.nil (.seq (.seq (.region (W.pv (padd (.pointer (some ⟨V, 0, none⟩)) 3) (z0a zb2 ov (b4.atVar (j := 0) rfl)) ?_)))))
 obtain ⟨dH, ew, b5⟩ := At.sl (At.proj (b4.atVar (j := 0) rfl) z3a)
 refine W.l1 dH ag25 (z0f rfl ew) (W.pv (.int .i64 (i.Gens.length : Int)) (z1j ov (z17 b5) (z02 el25)) (W.p2 (.int .i64 0) (.nil ?_)))
 obtain ⟨dI, dJ, a9⟩ := z2f h
 refine AW.midT (fun z F => ∃ (p : Netmodel_names) (B : List zAd) (w_k1 : Value) (m : GM), (.inr (p, B)) = dI /\ Ow m F (eVar V 29 z00 i :: eVar A 104 z07 (p, w_k1) :: eSl w_k1 9 rS B :: L) /\ GM.le G m) ?_ ?_
 .refine .block (AW.loop (α := Nat) (fun X z F => ∃ (p : Netmodel_names) (B : List zAd) (aw : Int) (w_k1 : Value) (m : GM), z0p K i X p B aw = some dI /\ Ow m F (eVar V 29 z00 i :: eVar A 104 z07 (p, w_k1) :: eSl w_k1 9 rS B :: L) /\ GM.le G m /\ z 17 = .int .i64 aw) (fun X => X) K ⟨a8, a8.l, 0, v1, _, dJ, b4, (zAf _), rfl⟩ ?_)
  rintro ba
  rintro ex fr ag ⟨dK, bR, ac, bS, fs, a4, bb, ad, bc⟩
  rcases ba with _ | ba
  .exact z0e a4
  rw [z0p] at a4
  refine .seq (.region (W.q3 (.bool (decide (ac < (i.Gens.length : Int)))) bc (ft (ag 16 rfl) rfl) (.nil (.seq (.cond (b := decide (ac < (i.Gens.length : Int))) rfl rfl (fun bd => ?_) (fun bd => ?_))))))
  rotate_left
  .have b6 := z11 bd a4
   refine .exit ?_
   obtain rfl := zAa b6
   exact ⟨dK, bR, bS, _, rfl, bb, ad⟩
  have dL := z01 bd a4
  refine .skip (.seq (.block (.seq (.region ?_))))
  obtain ⟨k, dM, dN⟩ := z03 dL
  have be := z1v dM
  refine W.pv (z5q dH (ac.toNat * 5)) (z6h el25 sz67 (ou (ft (ag 15 rfl) rfl)) (ou bc) (z17 (RT.mono _ ad b5)) be.1 be.2.1) ?_
  obtain ⟨bT, dO, bU⟩ := (At.le (At.le (z47 b5 be.2.2) ad ad) (zAf _) bb.fro)
  refine W.loadA (cs := bT) rfl rfl ag67 sz67 (z0f rfl dO) (RT.len _ bU) (W.ln (Lo.alloc (r := z6b) (x0 := (Gen.mk ByteArray.empty ByteArray.empty 0 0 0)) ze67 (by kernel_rfl) zlq bb) ?_)
  rintro fu fv ⟨Y, rfl, dP, ey⟩
  refine W.ln (Lo.storeVar (j := 0) (s := z6b) (y0 := k) (v := (.agg bT.toArray)) (o := 0) rfl ((Put.at (Put.self _) _ _)) rfl sz67 rfl (by omega) rfl bU dP) ?_
  rintro fw fx ⟨ae, ez⟩
  refine .nil (.seq (.seq (.region ?_)))
  obtain ⟨bV, dQ, bW⟩ := (ae.atVar (j := 1) rfl)
  refine W.loadA (cs := bV) rfl rfl ag29 sz29 (z0f (ft (ag 2 rfl) rfl) dQ) (RT.len _ bW) (W.q2 (.pointer (some ⟨A, 0, none⟩)) (ft (ag 1 rfl) rfl) (W.pv (padd (.pointer (some ⟨Y, 0, none⟩)) 0) (z0a zho ov (ae.atVar (j := 0) rfl)) (W.l1 (.string k.Name) ag9 (z0f rfl (At.str (At.proj (ae.atVar (j := 0) rfl) z9b))) (W.pv (padd (.pointer (some ⟨Y, 0, none⟩)) 1) (z0a zj6 ov (ae.atVar (j := 0) rfl)) (W.l1 (.string k.Node) ag9 (z0f rfl (At.str (At.proj (ae.atVar (j := 0) rfl) zam))) (W.ln (Lo.buildSlice (r := rS) (vs := [(.string k.Node)]) (xs := [k.Node]) el22 ze9 sz9 (by kernel_rfl) rfl (qc rfl qn) rfl (.cons rfl .nil) ae) ?_))))))
  rintro dR fy ⟨dS, eA⟩
  obtain ⟨fz, dT, bf, dU⟩ := dS.frzSl (j := 0) rfl
  have dV := (((dT.front (j := 1) rfl).front (j := 1) rfl).front (j := 3) rfl).front (j := 3) rfl
  obtain ⟨C, dW, bX⟩ := z03 dN
  refine W.ln (Lo.qF Tryd.f63 (ps := [_, _]) (pw := fun w => [_, _]) (mc rfl (mc rfl (mc rfl (mc rfl mn)))) dV (fun ah u => z37 K bV i (RT.mono _ bf bW) A bS (Netmodel_names.mk bR) k.Name dR [k.Node] dU u _ dW)) ?_
  rintro fA fB ⟨ax, dX, a5, bY, eB, rfl⟩
  refine W.p1 (.int .i64 C.1) (.nil (.seq (.region (W.p2 (.int .i64 C.1) (W.p3 (.bool (C.1 != 0)) (.nil ?_))))))
  refine .cond (b := (C.1 != 0)) rfl rfl (fun bg => ?_) (fun bg => ?_)
  .have dY := z01 bg bX
   refine .seq (.region (W.p2 (.int .i64 C.1) (W.p1 (.int .i64 C.1) (.nil (.ret ?_)))))
   have dZ := (a5.drop 2).drop 2
   obtain rfl := zAa dY
   have d0 := z68 (z4x a9)
   obtain rfl := zAa d0
   exact z4a kr ax (v1 := (.int .i64 C.1)) (by rfl) rt dZ (zAe ad (zAe bf bY)) rfl
  have d1 := z11 bg bX
  refine .skip (.seq ?_)
  obtain ⟨d2, d3, d4⟩ := z03 d1
  refine AW.midT (fun z F => ∃ (p : Bool) (m : GM), p = d2 /\ Ow m F (eVar A 104 z07 (C.2, ax) :: eSl ax 9 rS C.2.l :: eVar Y 67 z6b k :: eVar V 29 z00 i :: L) /\ GM.le dX m /\ z 49 = .bool p) ?_ ?_
  rotate_left
  .rintro ea eC bP ⟨b7, eD, rfl, bh, b8, b9⟩
   have bZ := zAe ad (zAe bf (zAe bY b8))
   have bi := z0k d4
   refine .cond (b := b7) rfl b9 (fun az => ?_) (fun az => ?_)
   .have ca := z01 az bi
    refine .seq (.region (W.p1 (.int .i64 4) (.nil (.ret ?_))))
    have cb := (bh.drop 2).drop 2
    obtain rfl := zAa ca
    have cc := z68 (z4x a9)
    obtain rfl := zAa cc
    exact z4a kr ax (v1 := (.int .i64 4)) (by rfl) rt cb bZ rfl
   have cd := z11 az bi
   refine .skip (.region (W.q3 (.int .i64 (z0u .i64 (ac + 1))) (ft (bP 17 rfl) bc) rfl (W.p2 (.int .i64 (z0u .i64 (ac + 1))) (.nil ?_))))
   have ce := (((bh.drop 2).front (j := 1) rfl).front (j := 1) rfl).front (j := 2) rfl
   exact ⟨ba, zAg _, ⟨C.2, C.2.l, z0u .i64 (ac + 1), ax, _, cd, ce, bZ, rfl⟩⟩
  refine .region (W.pv (padd (.pointer (some ⟨Y, 0, none⟩)) 2) (z0a zg8 ov (a5.atVar (j := 2) rfl)) (W.l1 (.int .i64 k.Least) ag3 (z0f rfl (At.int (At.proj (a5.atVar (j := 2) rfl) z6x))) ?_))
  obtain ⟨a6, d5, b0⟩ := z03 d3
  refine W.ln (Lo.cQ Tryd.f65 (mc rfl (mc rfl (mc rfl mn))) a5 (fun ah u => z0j K k.Least 0 100000 u _ d5)) ?_
  rintro fC fD ⟨fE, af, bj, eE, rfl⟩
  refine W.pv (.bool (!a6)) (z26 (a := a6) ov) (W.p2 (.bool (!a6)) (W.splitAt (t := 36) (b := (!a6)) rfl (fun bk c => ?_) (fun bk c => ?_)))
  .have d6 := z01 bk b0
   refine W.q6 rfl c (W.q6 rfl c (W.q6 rfl c (W.q6 rfl c (W.q6 rfl c (W.q6 rfl c (W.q4 (.bool true) c rfl ?_))))))
   refine W.p2 (.bool true) (W.q6 rfl rfl (W.q6 rfl rfl (W.q6 rfl rfl (W.q6 rfl rfl (W.q4 (.bool true) rfl rfl (.nil ?_))))))
   obtain rfl := zAa d6
   exact ⟨true, _, rfl, af, bj, rfl⟩
  have d7 := z11 bk b0
  refine W.pure (v := (padd (.pointer (some ⟨Y, 0, none⟩)) 3)) (gl rfl c) rfl (z0a zj7 ov (af.atVar (j := 2) rfl)) (W.load1 (v := (.int .i64 k.Most)) (r := []) (gl rfl c) rfl ag3 (z0f rfl (At.int (At.proj (af.atVar (j := 2) rfl) zan))) (W.pure (v := (padd (.pointer (some ⟨Y, 0, none⟩)) 2)) (gl rfl c) rfl (z0a zg8 ov (af.atVar (j := 2) rfl)) (W.load1 (v := (.int .i64 k.Least)) (r := []) (gl rfl c) rfl ag3 (z0f rfl (At.int (At.proj (af.atVar (j := 2) rfl) z6x))) ?_)))
  obtain ⟨ay, d8, b1⟩ := z03 d7
  refine W.lo (gl rfl c) rfl (Lo.cQ Tryd.f65 (mc rfl (mc rfl (mc rfl mn))) af (fun ah u => z0j K k.Most k.Least 100000 u _ d8)) ?_
  rintro eF eG ⟨fF, a7, b2, eb, rfl⟩
  refine W.pure (v := (.bool (!ay))) (gl rfl c) rfl (z26 (a := ay) ov) (W.q5 (.bool (!ay)) c rfl (W.p2 (.bool (!ay)) (W.splitAt (t := 44) (b := (!ay)) rfl (fun aA d => ?_) (fun aA d => ?_))))
  .have cf := z01 aA b1
   refine W.q6 rfl d (W.q6 rfl d (W.q6 rfl d (W.q6 rfl d (W.q4 (.bool true) d rfl (.nil ?_)))))
   obtain rfl := zAa cf
   exact ⟨true, _, rfl, a7, (zAe bj b2), rfl⟩
  have cg := z11 aA b1
  refine W.pure (v := (padd (.pointer (some ⟨Y, 0, none⟩)) 4)) (gl rfl d) rfl (z0a zj8 ov (a7.atVar (j := 2) rfl)) (W.load1 (v := (.int .i64 k.Ramp)) (r := []) (gl rfl d) rfl ag3 (z0f rfl (At.int (At.proj (a7.atVar (j := 2) rfl) zao))) ?_)
  obtain ⟨ai, ch, ci⟩ := z03 cg
  refine W.lo (gl rfl d) rfl (Lo.cQ Tryd.f65 (mc rfl (mc rfl (mc rfl mn))) a7 (fun ah u => z0j K k.Ramp 0 100000 u _ ch)) ?_
  rintro eH eI ⟨eJ, cj, ck, ec, rfl⟩
  refine W.pure (v := (.bool (!ai))) (gl rfl d) rfl (z26 (a := ai) ov) (W.q5 (.bool (!ai)) d rfl (.nil ?_))
  obtain rfl := zAa ci
  exact ⟨(!ai), _, rfl, cj, (zAe bj (zAe b2 ck)), rfl⟩
 rintro ed eK E ⟨cl, cm, cn, bl, rfl, aB, Z⟩
 have co := z68 (z67 a9)
 refine .seq (.seq (.region (W.pv (padd (.pointer (some ⟨V, 0, none⟩)) 4) (z0a zb3 (ou (ft (E 2 rfl) rfl)) (aB.atVar (j := 0) rfl)) ?_)))
 obtain ⟨bm, cp, aC⟩ := At.sl (At.proj (aB.atVar (j := 0) rfl) z35)
 refine W.l1 bm ag26 (z0f rfl cp) (W.pv (.int .i64 (i.Loads.length : Int)) (z1j ov (z17 aC) (z02 el26)) (W.p2 (.int .i64 0) (.nil ?_)))
 obtain ⟨bn, cq, aD⟩ := z2f co
 refine AW.midT (fun z F => ∃ (p : Netmodel_names) (B : List zAd) (w_k1 : Value) (m : GM), (.inr (p, B)) = bn /\ Ow m F (eVar V 29 z00 i :: eVar A 104 z07 (p, w_k1) :: eSl w_k1 9 rS B :: L) /\ GM.le bl m) ?_ ?_
 .refine .block (AW.loop (α := Nat) (fun X z F => ∃ (p : Netmodel_names) (B : List zAd) (aw : Int) (w_k1 : Value) (m : GM), z0q K i X p B aw = some bn /\ Ow m F (eVar V 29 z00 i :: eVar A 104 z07 (p, w_k1) :: eSl w_k1 9 rS B :: L) /\ GM.le bl m /\ z 54 = .int .i64 aw) (fun X => X) K ⟨cl, cm, 0, cn, _, cq, aB, (zAf _), rfl⟩ ?_)
  rintro aE
  rintro ee eL T ⟨cr, bo, M, bp, eM, aj, aF, I, aG⟩
  rcases aE with _ | aE
  .exact z0e aj
  rw [z0q] at aj
  refine .seq (.region (W.q3 (.bool (decide (M < (i.Loads.length : Int)))) aG (ft (T 53 rfl) rfl) (.nil (.seq (.cond (b := decide (M < (i.Loads.length : Int))) rfl rfl (fun aH => ?_) (fun aH => ?_))))))
  rotate_left
  .have ct := z11 aH aj
   refine .exit ?_
   obtain rfl := zAa ct
   exact ⟨cr, bo, bp, _, rfl, aF, I⟩
  have cu := z01 aH aj
  refine .skip (.seq (.block (.seq (.region ?_))))
  obtain ⟨x, cv, cw⟩ := z03 cu
  have aI := z1v cv
  refine W.pv (z5q bm (M.toNat * 3)) (z6h el26 sz71 (ou (ft (T 52 rfl) rfl)) (ou aG) (z17 (RT.mono _ I aC)) aI.1 aI.2.1) ?_
  obtain ⟨bq, cx, br⟩ := (At.le (At.le (z47 aC aI.2.2) I I) (zAf _) aF.fro)
  refine W.loadA (cs := bq) rfl rfl ag71 sz71 (z0f rfl cx) (RT.len _ br) (W.ln (Lo.alloc (r := z1w) (x0 := (Load_.mk ByteArray.empty ByteArray.empty 0)) ze71 (by kernel_rfl) zgd aF) ?_)
  rintro eN eO ⟨aJ, rfl, cy, ef⟩
  refine W.ln (Lo.storeVar (j := 0) (s := z1w) (y0 := x) (v := (.agg bq.toArray)) (o := 0) rfl ((Put.at (Put.self _) _ _)) rfl sz71 rfl (by omega) rfl br cy) ?_
  rintro eP eQ ⟨N, eg⟩
  refine .nil (.seq (.seq (.region ?_)))
  obtain ⟨bs, cz, bt⟩ := (N.atVar (j := 1) rfl)
  refine W.loadA (cs := bs) rfl rfl ag29 sz29 (z0f (ft (T 2 rfl) (ft (E 2 rfl) rfl)) cz) (RT.len _ bt) (W.q2 (.pointer (some ⟨A, 0, none⟩)) (ft (T 1 rfl) (ft (E 1 rfl) rfl)) (W.pv (padd (.pointer (some ⟨aJ, 0, none⟩)) 0) (z0a zhp ov (N.atVar (j := 0) rfl)) (W.l1 (.string x.Name) ag9 (z0f rfl (At.str (At.proj (N.atVar (j := 0) rfl) z78))) (W.pv (padd (.pointer (some ⟨aJ, 0, none⟩)) 1) (z0a zj9 ov (N.atVar (j := 0) rfl)) (W.l1 (.string x.Node) ag9 (z0f rfl (At.str (At.proj (N.atVar (j := 0) rfl) z8l))) (W.ln (Lo.buildSlice (r := rS) (vs := [(.string x.Node)]) (xs := [x.Node]) el22 ze9 sz9 (by kernel_rfl) rfl (qc rfl qn) rfl (.cons rfl .nil) N) ?_))))))
  rintro cA eR ⟨cB, eh⟩
  obtain ⟨eS, cC, ak, cD⟩ := cB.frzSl (j := 0) rfl
  have cE := (((cC.front (j := 1) rfl).front (j := 1) rfl).front (j := 3) rfl).front (j := 3) rfl
  obtain ⟨y, cF, bu⟩ := z03 cw
  refine W.ln (Lo.qF Tryd.f63 (ps := [_, _]) (pw := fun w => [_, _]) (mc rfl (mc rfl (mc rfl (mc rfl mn)))) cE (fun ah u => z37 K bs i (RT.mono _ ak bt) A bp (Netmodel_names.mk bo) x.Name cA [x.Node] cD u _ cF)) ?_
  rintro eT eU ⟨aK, eV, al, aL, ei, rfl⟩
  refine W.p1 (.int .i64 y.1) (.nil (.seq (.region (W.p2 (.int .i64 y.1) (W.p3 (.bool (y.1 != 0)) (.nil ?_))))))
  refine .cond (b := (y.1 != 0)) rfl rfl (fun aM => ?_) (fun aM => ?_)
  .have cG := z01 aM bu
   refine .seq (.region (W.p2 (.int .i64 y.1) (W.p1 (.int .i64 y.1) (.nil (.ret ?_)))))
   have cH := (al.drop 2).drop 2
   obtain rfl := zAa cG
   have cI := z68 (z4x aD)
   obtain rfl := zAa cI
   exact z4a kr aK (v1 := (.int .i64 y.1)) (by rfl) rt cH (zAe Z (zAe I (zAe ak aL))) rfl
  have cJ := z11 aM bu
  refine .skip (.seq (.region (W.pv (padd (.pointer (some ⟨aJ, 0, none⟩)) 2) (z0a zja ov (al.atVar (j := 2) rfl)) (W.l1 (.int .i64 x.Demand) ag3 (z0f rfl (At.int (At.proj (al.atVar (j := 2) rfl) z79))) ?_))))
  obtain ⟨aN, cK, bv⟩ := z03 cJ
  refine W.ln (Lo.cQ Tryd.f65 (mc rfl (mc rfl (mc rfl mn))) al (fun ah u => z0j K x.Demand 0 100000 u _ cK)) ?_
  rintro eW eX ⟨eY, bw, bx, ej, rfl⟩
  refine W.pv (.bool (!aN)) (z26 (a := aN) ov) (.nil (.cond (b := (!aN)) rfl rfl (fun aO => ?_) (fun aO => ?_)))
  .have cL := z01 aO bv
   refine .seq (.region (W.p1 (.int .i64 4) (.nil (.ret ?_))))
   have cM := (bw.drop 2).drop 2
   obtain rfl := zAa cL
   have cN := z68 (z4x aD)
   obtain rfl := zAa cN
   exact z4a kr aK (v1 := (.int .i64 4)) (by rfl) rt cM (zAe Z (zAe I (zAe ak (zAe aL bx)))) rfl
  have cO := z11 aO bv
  refine .skip (.region (W.r3 (.int .i64 (z0u .i64 (M + 1))) aG (W.p2 (.int .i64 (z0u .i64 (M + 1))) (.nil ?_))))
  have cP := (((bw.drop 2).front (j := 1) rfl).front (j := 1) rfl).front (j := 2) rfl
  exact ⟨aE, zAg _, ⟨y.2, y.2.l, z0u .i64 (M + 1), aK, _, cO, cP, (zAe I (zAe ak (zAe aL bx))), rfl⟩⟩
 rintro ek eZ am ⟨cR, cS, cT, bz, rfl, aP, aQ⟩
 have cU := z68 (z67 aD)
 refine .seq (.seq (.region (W.pv (padd (.pointer (some ⟨V, 0, none⟩)) 5) (z0a zb4 (ou (ft (am 2 rfl) (ft (E 2 rfl) rfl))) (aP.atVar (j := 0) rfl)) ?_)))
 obtain ⟨bA, cV, aR⟩ := At.sl (At.proj (aP.atVar (j := 0) rfl) z2q)
 refine W.l1 bA ag27 (z0f rfl cV) (W.pv (.int .i64 (i.Stores.length : Int)) (z1j ov (z17 aR) (z02 el27)) (W.p2 (.int .i64 0) (.nil ?_)))
 obtain ⟨bB, cW, aS⟩ := z2f cU
 refine AW.midT (fun z F => ∃ (p : Netmodel_names) (B : List zAd) (w_k1 : Value) (m : GM), (.inr (p, B)) = bB /\ Ow m F (eVar V 29 z00 i :: eVar A 104 z07 (p, w_k1) :: eSl w_k1 9 rS B :: L) /\ GM.le bz m) ?_ ?_
 rotate_left
 .rintro el e0 em ⟨e1, e2, cX, e3, rfl, cY, cZ⟩
  have c0 := z68 (z67 aS)
  refine .seq (.region (W.p1 (.int .i64 0) (.nil (.ret ?_))))
  have c1 := cY.drop 0
  obtain rfl := zAa c0
  exact z4a kr cX (v1 := (.int .i64 0)) (by rfl) rt c1 (zAe Z (zAe aQ cZ)) rfl
 refine .block (AW.loop (α := Nat) (fun X z F => ∃ (p : Netmodel_names) (B : List zAd) (aw : Int) (w_k1 : Value) (m : GM), z0r K i X p B aw = some bB /\ Ow m F (eVar V 29 z00 i :: eVar A 104 z07 (p, w_k1) :: eSl w_k1 9 rS B :: L) /\ GM.le bz m /\ z 77 = .int .i64 aw) (fun X => X) K ⟨cR, cS, 0, cT, _, cW, aP, (zAf _), rfl⟩ ?_)
 rintro aT
 rintro en e4 U ⟨c2, bC, P, bD, e5, an, aU, J, aV⟩
 rcases aT with _ | aT
 .exact z0e an
 rw [z0r] at an
 refine .seq (.region (W.q3 (.bool (decide (P < (i.Stores.length : Int)))) aV (ft (U 76 rfl) rfl) (.nil (.seq (.cond (b := decide (P < (i.Stores.length : Int))) rfl rfl (fun aW => ?_) (fun aW => ?_))))))
 rotate_left
 .have c3 := z11 aW an
  refine .exit ?_
  obtain rfl := zAa c3
  exact ⟨c2, bC, bD, _, rfl, aU, J⟩
 have c4 := z01 aW an
 refine .skip (.seq (.block (.seq (.region ?_))))
 obtain ⟨e, c5, c6⟩ := z03 c4
 have aX := z1v c5
 refine W.pv (z5q bA (P.toNat * 5)) (z6h el27 sz75 (ou (ft (U 75 rfl) rfl)) (ou aV) (z17 (RT.mono _ J aR)) aX.1 aX.2.1) ?_
 obtain ⟨bE, c7, bF⟩ := (At.le (At.le (z47 aR aX.2.2) J J) (zAf _) aU.fro)
 refine W.loadA (cs := bE) rfl rfl ag75 sz75 (z0f rfl c7) (RT.len _ bF) (W.ln (Lo.alloc (r := z1o) (x0 := (Store.mk ByteArray.empty ByteArray.empty 0 0 0)) ze75 (by kernel_rfl) zge aU) ?_)
 rintro e6 e7 ⟨Q, rfl, c8, eo⟩
 refine W.ln (Lo.storeVar (j := 0) (s := z1o) (y0 := e) (v := (.agg bE.toArray)) (o := 0) rfl ((Put.at (Put.self _) _ _)) rfl sz75 rfl (by omega) rfl bF c8) ?_
 rintro e8 e9 ⟨S, ep⟩
 refine .nil (.seq (.seq (.region ?_)))
 obtain ⟨bG, c9, bH⟩ := (S.atVar (j := 1) rfl)
 refine W.loadA (cs := bG) rfl rfl ag29 sz29 (z0f (ft (U 2 rfl) (ft (am 2 rfl) (ft (E 2 rfl) rfl))) c9) (RT.len _ bH) (W.q2 (.pointer (some ⟨A, 0, none⟩)) (ft (U 1 rfl) (ft (am 1 rfl) (ft (E 1 rfl) rfl))) (W.pv (padd (.pointer (some ⟨Q, 0, none⟩)) 0) (z0a zhq ov (S.atVar (j := 0) rfl)) (W.l1 (.string e.Name) ag9 (z0f rfl (At.str (At.proj (S.atVar (j := 0) rfl) z7a))) (W.pv (padd (.pointer (some ⟨Q, 0, none⟩)) 1) (z0a zjb ov (S.atVar (j := 0) rfl)) (W.l1 (.string e.Node) ag9 (z0f rfl (At.str (At.proj (S.atVar (j := 0) rfl) z8m))) (W.ln (Lo.buildSlice (r := rS) (vs := [(.string e.Node)]) (xs := [e.Node]) el22 ze9 sz9 (by kernel_rfl) rfl (qc rfl qn) rfl (.cons rfl .nil) S) ?_))))))
 rintro da fa ⟨db, eq⟩
 obtain ⟨fb, dc, ao, dd⟩ := db.frzSl (j := 0) rfl
 have de := (((dc.front (j := 1) rfl).front (j := 1) rfl).front (j := 3) rfl).front (j := 3) rfl
 obtain ⟨q, df, bI⟩ := z03 c6
 refine W.ln (Lo.qF Tryd.f63 (ps := [_, _]) (pw := fun w => [_, _]) (mc rfl (mc rfl (mc rfl (mc rfl mn)))) de (fun ah u => z37 K bG i (RT.mono _ ao bH) A bD (Netmodel_names.mk bC) e.Name da [e.Node] dd u _ df)) ?_
 rintro fc fd ⟨aa, dg, ap, aY, er, rfl⟩
 refine W.p1 (.int .i64 q.1) (.nil (.seq (.region (W.p2 (.int .i64 q.1) (W.p3 (.bool (q.1 != 0)) (.nil ?_))))))
 refine .cond (b := (q.1 != 0)) rfl rfl (fun aZ => ?_) (fun aZ => ?_)
 .have dh := z01 aZ bI
  refine .seq (.region (W.p2 (.int .i64 q.1) (W.p1 (.int .i64 q.1) (.nil (.ret ?_)))))
  have di := (ap.drop 2).drop 2
  obtain rfl := zAa dh
  have dj := z68 (z4x aS)
  obtain rfl := zAa dj
  exact z4a kr aa (v1 := (.int .i64 q.1)) (by rfl) rt di (zAe Z (zAe aQ (zAe J (zAe ao aY)))) rfl
 have dk := z11 aZ bI
 refine .skip (.seq ?_)
 obtain ⟨dl, dm, dn⟩ := z03 dk
 refine AW.midT (fun z F => ∃ (p : Bool) (m : GM), p = dl /\ Ow m F (eVar A 104 z07 (q.2, aa) :: eSl aa 9 rS q.2.l :: eVar Q 75 z1o e :: eVar V 29 z00 i :: L) /\ GM.le dg m /\ z 107 = .bool p) ?_ ?_
 rotate_left
 .rintro es fe bQ ⟨dp, ff, rfl, bJ, bK, dq⟩
  have d9 := zAe Z (zAe aQ (zAe J (zAe ao (zAe aY bK))))
  have bL := z0k dn
  refine .cond (b := dp) rfl dq (fun a0 => ?_) (fun a0 => ?_)
  .have dr := z01 a0 bL
   refine .seq (.region (W.p1 (.int .i64 4) (.nil (.ret ?_))))
   have ds := (bJ.drop 2).drop 2
   obtain rfl := zAa dr
   have dt := z68 (z4x aS)
   obtain rfl := zAa dt
   exact z4a kr aa (v1 := (.int .i64 4)) (by rfl) rt ds d9 rfl
  have du := z11 a0 bL
  refine .skip (.region (W.q3 (.int .i64 (z0u .i64 (P + 1))) (ft (bQ 77 rfl) aV) rfl (W.p2 (.int .i64 (z0u .i64 (P + 1))) (.nil ?_))))
  have dv := (((bJ.drop 2).front (j := 1) rfl).front (j := 1) rfl).front (j := 2) rfl
  exact ⟨aT, zAg _, ⟨q.2, q.2.l, z0u .i64 (P + 1), aa, _, du, dv, (zAe J (zAe ao (zAe aY bK))), rfl⟩⟩
 refine .region (W.pv (padd (.pointer (some ⟨Q, 0, none⟩)) 2) (z0a zjc ov (ap.atVar (j := 2) rfl)) (W.l1 (.int .i64 e.Charge) ag3 (z0f rfl (At.int (At.proj (ap.atVar (j := 2) rfl) z7b))) ?_))
 obtain ⟨aq, dw, bM⟩ := z03 dm
 refine W.ln (Lo.cQ Tryd.f65 (mc rfl (mc rfl (mc rfl mn))) ap (fun ah u => z0j K e.Charge 0 100000 u _ dw)) ?_
 rintro fg fh ⟨fi, ar, a1, et, rfl⟩
 refine W.pv (.bool (!aq)) (z26 (a := aq) ov) (W.p2 (.bool (!aq)) (W.splitAt (t := 96) (b := (!aq)) rfl (fun a2 f => ?_) (fun a2 f => ?_)))
 .have dx := z01 a2 bM
  refine W.q6 rfl f (W.q6 rfl f (W.q6 rfl f (W.q6 rfl f (W.q4 (.bool true) f rfl (W.p2 (.bool true) (W.q6 rfl rfl ?_))))))
  refine W.q6 rfl rfl (W.q6 rfl rfl (W.q6 rfl rfl (W.q4 (.bool true) rfl rfl (.nil ?_))))
  obtain rfl := zAa dx
  exact ⟨true, _, rfl, ar, a1, rfl⟩
 have dy := z11 a2 bM
 refine W.pure (v := (padd (.pointer (some ⟨Q, 0, none⟩)) 3)) (gl rfl f) rfl (z0a zjd ov (ar.atVar (j := 2) rfl)) (W.load1 (v := (.int .i64 e.Discharge)) (r := []) (gl rfl f) rfl ag3 (z0f rfl (At.int (At.proj (ar.atVar (j := 2) rfl) z5z))) ?_)
 obtain ⟨ab, dz, bN⟩ := z03 dy
 refine W.lo (gl rfl f) rfl (Lo.cQ Tryd.f65 (mc rfl (mc rfl (mc rfl mn))) ar (fun ah u => z0j K e.Discharge 0 100000 u _ dz)) ?_
 rintro fj fk ⟨fl, au, bO, eu, rfl⟩
 refine W.pure (v := (.bool (!ab))) (gl rfl f) rfl (z26 (a := ab) ov) (W.q5 (.bool (!ab)) f rfl (W.p2 (.bool (!ab)) (W.splitAt (t := 102) (b := (!ab)) rfl (fun a3 g => ?_) (fun a3 g => ?_))))
 .have dA := z01 a3 bN
  refine W.q6 rfl g (W.q6 rfl g (W.q6 rfl g (W.q6 rfl g (W.q4 (.bool true) g rfl (.nil ?_)))))
  obtain rfl := zAa dA
  exact ⟨true, _, rfl, au, (zAe a1 bO), rfl⟩
 have dB := z11 a3 bN
 refine W.pure (v := (padd (.pointer (some ⟨Q, 0, none⟩)) 4)) (gl rfl g) rfl (z0a zje ov (au.atVar (j := 2) rfl)) (W.load1 (v := (.int .i64 e.Capacity)) (r := []) (gl rfl g) rfl ag3 (z0f rfl (At.int (At.proj (au.atVar (j := 2) rfl) z6c))) ?_)
 obtain ⟨av, dC, dD⟩ := z03 dB
 refine W.lo (gl rfl g) rfl (Lo.cQ Tryd.f65 (mc rfl (mc rfl (mc rfl mn))) au (fun ah u => z0j K e.Capacity 0 100000 u _ dC)) ?_
 rintro fm fo ⟨fp, dE, dF, ev, rfl⟩
 refine W.pure (v := (.bool (!av))) (gl rfl g) rfl (z26 (a := av) ov) (W.q5 (.bool (!av)) g rfl (.nil ?_))
 obtain rfl := zAa dD
 exact ⟨(!av), _, rfl, dE, (zAe a1 (zAe bO dF)), rfl⟩
def z13 (K : Nat) (d : Network) : Nat -> Netmodel_names -> List zAd -> Int -> Option (Int ⊕ (Netmodel_names × List zAd))
  | 0, _, _, _ => none
  | k + 1, e, c, b => (if (decide (b < (d.Nodes.length : Int))) = true then ((idx d.Nodes b).bind fun f => ((z2m K (Netmodel_names.mk c) f).bind fun a => (if (a.1 != 0) = true then some (.inl a.1) else z13 K d k a.2 a.2.l (z0u .i64 (b + 1))))) else some (.inr (e, c)))
def z14 (K : Nat) (d : Network) : Nat -> Netmodel_names -> List zAd -> Int -> Option (Int ⊕ (Netmodel_names × List zAd))
  | 0, _, _, _ => none
  | k + 1, f, e, c => (if (decide (c < (d.Switches.length : Int))) = true then ((idx d.Switches c).bind fun a => ((z22 K d (Netmodel_names.mk e) a.Name [a.A, a.B]).bind fun b => (if (b.1 != 0) = true then some (.inl b.1) else (if (sEq a.A a.B) = true then some (.inl 3) else z14 K d k b.2 b.2.l (z0u .i64 (c + 1)))))) else some (.inr (f, e)))
def z15 (K : Nat) (f : Network) : Nat -> Netmodel_names -> List zAd -> Int -> Option (Int ⊕ (Netmodel_names × List zAd))
  | 0, _, _, _ => none
  | k + 1, g, d, c => (if (decide (c < (f.Branches.length : Int))) = true then ((idx f.Branches c).bind fun a => ((z22 K f (Netmodel_names.mk d) a.Name [a.From, a.To]).bind fun b => (if (b.1 != 0) = true then some (.inl b.1) else (if (sEq a.From a.To) = true then some (.inl 3) else ((z3w K a).bind fun e => (if (e != 0) = true then some (.inl e) else z15 K f k b.2 b.2.l (z0u .i64 (c + 1)))))))) else some (.inr (g, d)))
def z3p (K : Nat) (a : Network) : Option Int := ((z4g K a).bind fun i => (if (i != 0) = true then some i else (z66 (z13 K a K (Netmodel_names.mk ([] : List zAd)) [] 0) (tu1 fun b => some b) (tu2 fun j k => (z66 (z14 K a K j k 0) (tu1 fun c => some c) (tu2 fun d e => (z66 (z15 K a K d e 0) (tu1 fun f => some f) (tu2 fun l g => ((z3o K a (Netmodel_names.mk g)).bind fun h => some h.1)))))))))
theorem z6o (bF : List Value) (d : Network) (cM : z00.rep G bF d) (O : Ow G H (L)) (r : Int) (h : z3p K d = some r) :
    CR Tryd.prog 24 [.agg bF.toArray] G H (L) (fun v g _ => v = .int .i64 r) := by
 unfold z3p at h
 refine CR.og (n := 90) (fn := Tryd.f24) (by kernel_rfl) rfl rfl fun R kr => (.seq (.region (W.ln (Lo.box (r := z00) (x0 := d) (v := (.agg bF.toArray)) rfl rfl cM O) ?_)))
 rintro ek el ⟨Y, rfl, cN, d7⟩
 refine W.p1 (.int .i64 0) (.nil (.seq (.seq (.region ?_))))
 obtain ⟨cO, dv, cP⟩ := (cN.atVar (j := 0) rfl)
 refine W.loadA (cs := cO) rfl rfl ag29 sz29 (z0f rfl dv) (RT.len _ cP) ?_
 obtain ⟨af, cR, bo⟩ := z03 h
 refine W.ln (Lo.cQ Tryd.f61 (mc rfl mn) cN (fun aD N => z9c K cO d cP N _ cR)) ?_
 rintro d8 d9 ⟨bp, bq, ad, dw, rfl⟩
 refine W.p1 (.int .i64 af) (.nil (.seq (.region (W.p2 (.int .i64 af) (W.p3 (.bool (af != 0)) (.nil ?_))))))
 refine .cond (b := (af != 0)) rfl rfl (fun aE => ?_) (fun aE => ?_)
 .have cS := z01 aE bo
  refine .seq (.region (W.p2 (.int .i64 af) (W.p1 (.int .i64 af) (.nil (.ret ?_)))))
  have cT := bq.drop 0
  obtain rfl := zAa cS
  exact z41 kr (v1 := (.int .i64 af)) (by rfl) rt cT ad rfl
 have cU := z11 aE bo
 refine .skip (.seq (.region ?_))
 have cV := bq.nilSl 9 rS
 refine W.ln (Lo.alloc (r := z07) (x0 := ((Netmodel_names.mk ([] : List zAd)), .slice none 0 0)) zmh (by kernel_rfl) (fun G => (zV G)) cV) ?_
 rintro ea eb ⟨u, rfl, aF, dx⟩
 refine .nil (.seq (.seq (.region (W.pv (padd (.pointer (some ⟨Y, 0, none⟩)) 0) (z0a zaj ov (aF.atVar (j := 2) rfl)) ?_))))
 obtain ⟨br, cW, aG⟩ := At.sl (At.proj (aF.atVar (j := 2) rfl) z1y)
 refine W.l1 br ag22 (z0f rfl cW) (W.pv (.int .i64 (d.Nodes.length : Int)) (z1j ov (z17 aG) (z02 el22)) (W.p2 (.int .i64 0) (.nil ?_)))
 obtain ⟨bs, cX, bt⟩ := z2f cU
 refine AW.midT (fun J P => ∃ (i : Netmodel_names) (k : List zAd) (w_l4 : Value) (g : GM), (.inr (i, k)) = bs /\ Ow g P (eVar u 104 z07 (i, w_l4) :: eSl w_l4 9 rS k :: eVar Y 29 z00 d :: L) /\ GM.le bp g) ?_ ?_
 .refine .block (AW.loop (α := Nat) (fun Q J P => ∃ (i : Netmodel_names) (k : List zAd) (ae : Int) (w_l4 : Value) (g : GM), z13 K d Q i k ae = some bs /\ Ow g P (eVar u 104 z07 (i, w_l4) :: eSl w_l4 9 rS k :: eVar Y 29 z00 d :: L) /\ GM.le bp g /\ J 23 = .int .i64 ae) (fun Q => Q) K ⟨(Netmodel_names.mk ([] : List zAd)), [], 0, (.slice none 0 0), _, cX, aF, (zAf _), rfl⟩ ?_)
  rintro aH
  rintro dy ec ag ⟨cY, bu, U, bv, ed, aA, aI, V, aJ⟩
  rcases aH with _ | aH
  .exact z0e aA
  rw [z13] at aA
  refine .seq (.region (W.q3 (.bool (decide (U < (d.Nodes.length : Int)))) aJ (ft (ag 22 rfl) rfl) (.nil (.seq (.cond (b := decide (U < (d.Nodes.length : Int))) rfl rfl (fun aK => ?_) (fun aK => ?_))))))
  rotate_left
  .have cZ := z11 aK aA
   refine .exit ?_
   obtain rfl := zAa cZ
   exact ⟨cY, bu, bv, _, rfl, aI, V⟩
  have c0 := z01 aK aA
  refine .skip (.seq (.block (.seq (.region ?_))))
  obtain ⟨aB, c1, c2⟩ := z03 c0
  have aL := z1v c1
  refine W.pv (z5q br (U.toNat * 1)) (z6h el22 sz9 (ou (ft (ag 21 rfl) rfl)) (ou aJ) (z17 (RT.mono _ V aG)) aL.1 aL.2.1) (W.l1 (.string aB) ag9 (z0f rfl (At.str (At.le (At.le (z47 aG aL.2.2) V V) (zAf _) aI.fro))) (W.p1 (.string aB) (.nil (.seq (.region (W.p2 (.string aB) ?_))))))
  obtain ⟨z, c3, bw⟩ := z03 c2
  refine W.ln (Lo.qF Tryd.f62 (ps := [_, _]) (pw := fun w => [_, _]) (mc (ft (ag 4 rfl) rfl) (mc rfl mn)) aI (fun aD N => z5p K u bv (Netmodel_names.mk bu) aB N _ c3)) ?_
  rintro ee ef ⟨c4, eg, bx, bz, dz, rfl⟩
  refine W.p1 (.int .i64 z.1) (.nil (.seq (.region (W.p2 (.int .i64 z.1) (W.p3 (.bool (z.1 != 0)) (.nil ?_))))))
  refine .cond (b := (z.1 != 0)) rfl rfl (fun aM => ?_) (fun aM => ?_)
  rotate_left
  .have c5 := z11 aM bw
   refine .skip (.region (W.r3 (.int .i64 (z0u .i64 (U + 1))) aJ (W.p2 (.int .i64 (z0u .i64 (U + 1))) (.nil ?_))))
   exact ⟨aH, zAg _, ⟨z.2, z.2.l, z0u .i64 (U + 1), c4, _, c5, bx, (zAe V bz), rfl⟩⟩
  have c6 := z01 aM bw
  refine .seq (.region (W.p2 (.int .i64 z.1) (W.p1 (.int .i64 z.1) (.nil (.ret ?_)))))
  have c7 := ((bx.drop 0).drop 0).drop 0
  obtain rfl := zAa c6
  have c8 := z0k (z4x bt)
  obtain rfl := zAa c8
  exact z41 kr (v1 := (.int .i64 z.1)) (by rfl) rt c7 (zAe ad (zAe V bz)) rfl
 rintro dA eh m ⟨c9, da, db, bA, rfl, aN, aO⟩
 have dc := z68 (z67 bt)
 refine .seq (.seq (.region (W.pv (padd (.pointer (some ⟨Y, 0, none⟩)) 1) (z0a z86 (ou (ft (m 1 rfl) rfl)) (aN.atVar (j := 2) rfl)) ?_)))
 obtain ⟨bB, dd, aP⟩ := At.sl (At.proj (aN.atVar (j := 2) rfl) z1h)
 refine W.l1 bB ag23 (z0f rfl dd) (W.pv (.int .i64 (d.Switches.length : Int)) (z1j ov (z17 aP) (z02 el23)) (W.p2 (.int .i64 0) (.nil ?_)))
 obtain ⟨bC, de, aQ⟩ := z2f dc
 refine AW.midT (fun J P => ∃ (i : Netmodel_names) (k : List zAd) (w_l4 : Value) (g : GM), (.inr (i, k)) = bC /\ Ow g P (eVar u 104 z07 (i, w_l4) :: eSl w_l4 9 rS k :: eVar Y 29 z00 d :: L) /\ GM.le bA g) ?_ ?_
 .refine .block (AW.loop (α := Nat) (fun Q J P => ∃ (i : Netmodel_names) (k : List zAd) (ae : Int) (w_l4 : Value) (g : GM), z14 K d Q i k ae = some bC /\ Ow g P (eVar u 104 z07 (i, w_l4) :: eSl w_l4 9 rS k :: eVar Y 29 z00 d :: L) /\ GM.le bA g /\ J 36 = .int .i64 ae) (fun Q => Q) K ⟨c9, da, 0, db, _, de, aN, (zAf _), rfl⟩ ?_)
  rintro aR
  rintro dB ei Z ⟨df, bD, X, aS, ej, aa, aT, E, ah⟩
  rcases aR with _ | aR
  .exact z0e aa
  rw [z14] at aa
  refine .seq (.region (W.q3 (.bool (decide (X < (d.Switches.length : Int)))) ah (ft (Z 35 rfl) rfl) (.nil (.seq (.cond (b := decide (X < (d.Switches.length : Int))) rfl rfl (fun ai => ?_) (fun ai => ?_))))))
  rotate_left
  .have bG := z11 ai aa
   refine .exit ?_
   obtain rfl := zAa bG
   exact ⟨df, bD, aS, _, rfl, aT, E⟩
  have bH := z01 ai aa
  refine .skip (.seq (.block (.seq (.region ?_))))
  obtain ⟨c, bI, bJ⟩ := z03 bH
  have aj := z1v bI
  refine W.pv (z5q bB (X.toNat * 5)) (z6h el23 sz52 (ou (ft (Z 34 rfl) rfl)) (ou ah) (z17 (RT.mono _ E aP)) aj.1 aj.2.1) ?_
  obtain ⟨aU, bK, aV⟩ := (At.le (At.le (z47 aP aj.2.2) E E) (zAf _) aT.fro)
  refine W.loadA (cs := aU) rfl rfl ag52 sz52 (z0f rfl bK) (RT.len _ aV) (W.ln (Lo.alloc (r := z0x) (x0 := (Switch.mk ByteArray.empty ByteArray.empty ByteArray.empty false false)) ze52 (by kernel_rfl) zd5 aT) ?_)
  rintro dC dD ⟨S, rfl, bL, dh⟩
  refine W.ln (Lo.storeVar (j := 0) (s := z0x) (y0 := c) (v := (.agg aU.toArray)) (o := 0) rfl ((Put.at (Put.self _) _ _)) rfl sz52 rfl (by omega) rfl aV bL) ?_
  rintro dE dF ⟨p, di⟩
  refine .nil (.seq (.seq (.region ?_)))
  obtain ⟨aW, bM, aX⟩ := (p.atVar (j := 3) rfl)
  refine W.loadA (cs := aW) rfl rfl ag29 sz29 (z0f (ft (Z 1 rfl) (ft (m 1 rfl) rfl)) bM) (RT.len _ aX) (W.pv (padd (.pointer (some ⟨S, 0, none⟩)) 0) (z0a zhi ov (p.atVar (j := 0) rfl)) (W.l1 (.string c.Name) ag9 (z0f rfl (At.str (At.proj (p.atVar (j := 0) rfl) z6k))) (W.pv (padd (.pointer (some ⟨S, 0, none⟩)) 1) (z0a zhj ov (p.atVar (j := 0) rfl)) (W.l1 (.string c.A) ag9 (z0f rfl (At.str (At.proj (p.atVar (j := 0) rfl) z99))) (W.pv (padd (.pointer (some ⟨S, 0, none⟩)) 2) (z0a zhk ov (p.atVar (j := 0) rfl)) (W.l1 (.string c.B) ag9 (z0f rfl (At.str (At.proj (p.atVar (j := 0) rfl) z9a))) ?_))))))
  refine W.ln (Lo.buildSlice (r := rS) (vs := [(.string c.A), (.string c.B)]) (xs := [c.A, c.B]) el22 ze9 sz9 (by kernel_rfl) rfl (qc rfl (qc rfl qn)) rfl (.cons rfl (.cons rfl .nil)) p) ?_
  rintro bN dG ⟨bO, dj⟩
  obtain ⟨dH, bP, ak, bQ⟩ := bO.frzSl (j := 0) rfl
  have bR := (((bP.front (j := 3) rfl).front (j := 1) rfl).front (j := 3) rfl).front (j := 3) rfl
  obtain ⟨e, bS, aY⟩ := z03 bJ
  refine W.ln (Lo.qF Tryd.f63 (ps := [_, _]) (pw := fun w => [_, _]) (mc rfl (mc (ft (Z 4 rfl) (ft (m 4 rfl) rfl)) (mc rfl (mc rfl mn)))) bR (fun aD N => z37 K aW d (RT.mono _ ak aX) u aS (Netmodel_names.mk bD) c.Name bN [c.A, c.B] bQ N _ bS)) ?_
  rintro dI dJ ⟨bT, dK, x, aZ, dk, rfl⟩
  have bE := zAe ad (zAe aO (zAe E (zAe ak aZ)))
  refine W.p1 (.int .i64 e.1) (.nil (.seq (.region (W.p2 (.int .i64 e.1) (W.p3 (.bool (e.1 != 0)) (.nil ?_))))))
  refine .cond (b := (e.1 != 0)) rfl rfl (fun al => ?_) (fun al => ?_)
  .have bU := z01 al aY
   refine .seq (.region (W.p2 (.int .i64 e.1) (W.p1 (.int .i64 e.1) (.nil (.ret ?_)))))
   have bV := (((x.drop 0).drop 0).drop 0).drop 0
   obtain rfl := zAa bU
   have bW := z0k (z4x aQ)
   obtain rfl := zAa bW
   exact z41 kr (v1 := (.int .i64 e.1)) (by rfl) rt bV bE rfl
  have a0 := z11 al aY
  refine .skip (.seq (.region (W.pv (padd (.pointer (some ⟨S, 0, none⟩)) 1) (z0a zhj ov (x.atVar (j := 2) rfl)) (W.l1 (.string c.A) ag9 (z0f rfl (At.str (At.proj (x.atVar (j := 2) rfl) z99))) (W.pv (padd (.pointer (some ⟨S, 0, none⟩)) 2) (z0a zhk ov (x.atVar (j := 2) rfl)) (W.l1 (.string c.B) ag9 (z0f rfl (At.str (At.proj (x.atVar (j := 2) rfl) z9a))) ?_))))))
  refine W.pv (.bool (sEq c.A c.B)) (z69 ov ov) (.nil (.cond (b := sEq c.A c.B) rfl rfl (fun am => ?_) (fun am => ?_)))
  rotate_left
  .have bX := z11 am a0
   refine .skip (.region (W.r3 (.int .i64 (z0u .i64 (X + 1))) ah (W.p2 (.int .i64 (z0u .i64 (X + 1))) (.nil ?_))))
   have bY := x.drop 2
   exact ⟨aR, zAg _, ⟨e.2, e.2.l, z0u .i64 (X + 1), bT, _, bX, bY, (zAe E (zAe ak aZ)), rfl⟩⟩
  have bZ := z01 am a0
  refine .seq (.region (W.p1 (.int .i64 3) (.nil (.ret ?_))))
  have b0 := (((x.drop 0).drop 0).drop 0).drop 0
  obtain rfl := zAa bZ
  have b1 := z0k (z4x aQ)
  obtain rfl := zAa b1
  exact z41 kr (v1 := (.int .i64 3)) (by rfl) rt b0 bE rfl
 rintro dl dL C ⟨b2, b3, b4, a1, rfl, an, a2⟩
 have b5 := z68 (z67 aQ)
 refine .seq (.seq (.region (W.pv (padd (.pointer (some ⟨Y, 0, none⟩)) 2) (z0a zb1 (ou (ft (C 1 rfl) (ft (m 1 rfl) rfl))) (an.atVar (j := 2) rfl)) ?_)))
 obtain ⟨a3, b6, ao⟩ := At.sl (At.proj (an.atVar (j := 2) rfl) z25)
 refine W.l1 a3 ag24 (z0f rfl b6) (W.pv (.int .i64 (d.Branches.length : Int)) (z1j ov (z17 ao) (z02 el24)) (W.p2 (.int .i64 0) (.nil ?_)))
 obtain ⟨a4, b7, ab⟩ := z2f b5
 refine AW.midT (fun J P => ∃ (i : Netmodel_names) (k : List zAd) (w_l4 : Value) (g : GM), (.inr (i, k)) = a4 /\ Ow g P (eVar u 104 z07 (i, w_l4) :: eSl w_l4 9 rS k :: eVar Y 29 z00 d :: L) /\ GM.le a1 g) ?_ ?_
 rotate_left
 .rintro dm dM aC ⟨dN, b8, b9, dO, rfl, a5, ca⟩
  have cb := z68 (z67 ab)
  refine .seq (.region ?_)
  obtain ⟨a6, cc, a7⟩ := (a5.atVar (j := 2) rfl)
  refine W.loadA (cs := a6) rfl rfl ag29 sz29 (z0f (ft (aC 1 rfl) (ft (C 1 rfl) (ft (m 1 rfl) rfl))) cc) (RT.len _ a7) ?_
  obtain ⟨a8, cd, ce⟩ := z03 cb
  refine W.ln (Lo.qF Tryd.f64 (ps := [_, _]) (pw := fun w => [_, _]) (mc rfl (mc (ft (aC 4 rfl) (ft (C 4 rfl) (ft (m 4 rfl) rfl))) mn)) a5 (fun aD N => z89 K a6 d a7 u b9 (Netmodel_names.mk b8) N _ cd)) ?_
  rintro dP dQ ⟨dR, dS, cf, cg, dn, rfl⟩
  refine W.p1 (.int .i64 a8.1) (.nil (.ret ?_))
  have ch := ((cf.drop 0).drop 0).drop 0
  obtain rfl := zAa ce
  exact z41 kr (v1 := (.int .i64 a8.1)) (by rfl) rt ch (zAe ad (zAe aO (zAe a2 (zAe ca cg)))) rfl
 refine .block (AW.loop (α := Nat) (fun Q J P => ∃ (i : Netmodel_names) (k : List zAd) (ae : Int) (w_l4 : Value) (g : GM), z15 K d Q i k ae = some a4 /\ Ow g P (eVar u 104 z07 (i, w_l4) :: eSl w_l4 9 rS k :: eVar Y 29 z00 d :: L) /\ GM.le a1 g /\ J 61 = .int .i64 ae) (fun Q => Q) K ⟨b2, b3, 0, b4, _, b7, an, (zAf _), rfl⟩ ?_)
 rintro ap
 rintro dp dT M ⟨ci, a9, F, ba, dU, ac, aq, I, ar⟩
 rcases ap with _ | ap
 .exact z0e ac
 rw [z15] at ac
 refine .seq (.region (W.q3 (.bool (decide (F < (d.Branches.length : Int)))) ar (ft (M 60 rfl) rfl) (.nil (.seq (.cond (b := decide (F < (d.Branches.length : Int))) rfl rfl (fun au => ?_) (fun au => ?_))))))
 rotate_left
 .have cj := z11 au ac
  refine .exit ?_
  obtain rfl := zAa cj
  exact ⟨ci, a9, ba, _, rfl, aq, I⟩
 have ck := z01 au ac
 refine .skip (.seq (.block (.seq (.region ?_))))
 obtain ⟨a, cl, cm⟩ := z03 ck
 have av := z1v cl
 refine W.pv (z5q a3 (F.toNat * 9)) (z6h el24 sz59 (ou (ft (M 59 rfl) rfl)) (ou ar) (z17 (RT.mono _ I ao)) av.1 av.2.1) ?_
 obtain ⟨bb, cn, bc⟩ := (At.le (At.le (z47 ao av.2.2) I I) (zAf _) aq.fro)
 refine W.loadA (cs := bb) rfl rfl ag59 sz59 (z0f rfl cn) (RT.len _ bc) (W.ln (Lo.alloc (r := z0i) (x0 := (Branch.mk ByteArray.empty ByteArray.empty ByteArray.empty 0 0 0 0 0 0)) ze59 (by kernel_rfl) zd6 aq) ?_)
 rintro dV dW ⟨T, rfl, co, dq⟩
 refine W.ln (Lo.storeVar (j := 0) (s := z0i) (y0 := a) (v := (.agg bb.toArray)) (o := 0) rfl ((Put.at (Put.self _) _ _)) rfl sz59 rfl (by omega) rfl bc co) ?_
 rintro dX dY ⟨q, dr⟩
 refine .nil (.seq (.seq (.region ?_)))
 obtain ⟨bd, cp, be⟩ := (q.atVar (j := 3) rfl)
 refine W.loadA (cs := bd) rfl rfl ag29 sz29 (z0f (ft (M 1 rfl) (ft (C 1 rfl) (ft (m 1 rfl) rfl))) cp) (RT.len _ be) (W.pv (padd (.pointer (some ⟨T, 0, none⟩)) 0) (z0a zhl ov (q.atVar (j := 0) rfl)) (W.l1 (.string a.Name) ag9 (z0f rfl (At.str (At.proj (q.atVar (j := 0) rfl) z6l))) (W.pv (padd (.pointer (some ⟨T, 0, none⟩)) 1) (z0a zhm ov (q.atVar (j := 0) rfl)) (W.l1 (.string a.From) ag9 (z0f rfl (At.str (At.proj (q.atVar (j := 0) rfl) z6m))) (W.pv (padd (.pointer (some ⟨T, 0, none⟩)) 2) (z0a zhn ov (q.atVar (j := 0) rfl)) (W.l1 (.string a.To) ag9 (z0f rfl (At.str (At.proj (q.atVar (j := 0) rfl) z82))) ?_))))))
 refine W.ln (Lo.buildSlice (r := rS) (vs := [(.string a.From), (.string a.To)]) (xs := [a.From, a.To]) el22 ze9 sz9 (by kernel_rfl) rfl (qc rfl (qc rfl qn)) rfl (.cons rfl (.cons rfl .nil)) q) ?_
 rintro cq dZ ⟨cr, ds⟩
 obtain ⟨d0, ct, aw, cu⟩ := cr.frzSl (j := 0) rfl
 have cv := (((ct.front (j := 3) rfl).front (j := 1) rfl).front (j := 3) rfl).front (j := 3) rfl
 obtain ⟨f, cw, bf⟩ := z03 cm
 refine W.ln (Lo.qF Tryd.f63 (ps := [_, _]) (pw := fun w => [_, _]) (mc rfl (mc (ft (M 4 rfl) (ft (C 4 rfl) (ft (m 4 rfl) rfl))) (mc rfl (mc rfl mn)))) cv (fun aD N => z37 K bd d (RT.mono _ aw be) u ba (Netmodel_names.mk a9) a.Name cq [a.From, a.To] cu N _ cw)) ?_
 rintro d1 d2 ⟨cx, d3, t, bg, dt, rfl⟩
 have bh := zAe ad (zAe aO (zAe a2 (zAe I (zAe aw bg))))
 refine W.p1 (.int .i64 f.1) (.nil (.seq (.region (W.p2 (.int .i64 f.1) (W.p3 (.bool (f.1 != 0)) (.nil ?_))))))
 refine .cond (b := (f.1 != 0)) rfl rfl (fun ax => ?_) (fun ax => ?_)
 .have cy := z01 ax bf
  refine .seq (.region (W.p2 (.int .i64 f.1) (W.p1 (.int .i64 f.1) (.nil (.ret ?_)))))
  have cz := (((t.drop 0).drop 0).drop 0).drop 0
  obtain rfl := zAa cy
  have cA := z0k (z4x ab)
  obtain rfl := zAa cA
  exact z41 kr (v1 := (.int .i64 f.1)) (by rfl) rt cz bh rfl
 have bi := z11 ax bf
 refine .skip (.seq (.seq (.region (W.pv (padd (.pointer (some ⟨T, 0, none⟩)) 1) (z0a zhm ov (t.atVar (j := 2) rfl)) (W.l1 (.string a.From) ag9 (z0f rfl (At.str (At.proj (t.atVar (j := 2) rfl) z6m))) (W.pv (padd (.pointer (some ⟨T, 0, none⟩)) 2) (z0a zhn ov (t.atVar (j := 2) rfl)) ?_))))))
 refine W.l1 (.string a.To) ag9 (z0f rfl (At.str (At.proj (t.atVar (j := 2) rfl) z82))) (W.pv (.bool (sEq a.From a.To)) (z69 ov ov) (.nil (.cond (b := sEq a.From a.To) rfl rfl (fun ay => ?_) (fun ay => ?_))))
 .have cB := z01 ay bi
  refine .seq (.region (W.p1 (.int .i64 3) (.nil (.ret ?_))))
  have cC := (((t.drop 0).drop 0).drop 0).drop 0
  obtain rfl := zAa cB
  have cD := z0k (z4x ab)
  obtain rfl := zAa cD
  exact z41 kr (v1 := (.int .i64 3)) (by rfl) rt cC bh rfl
 have cE := z11 ay bi
 refine .skip (.seq (.region ?_))
 obtain ⟨bj, cF, bk⟩ := (t.atVar (j := 2) rfl)
 refine W.loadA (cs := bj) rfl rfl ag59 sz59 (z0f rfl cF) (RT.len _ bk) ?_
 obtain ⟨y, cG, bl⟩ := z03 cE
 refine W.ln (Lo.cQ Tryd.f26 (mc rfl mn) t (fun aD N => z8n K bj a bk N _ cG)) ?_
 rintro d4 d5 ⟨d6, bm, bn, du, rfl⟩
 have dg := zAe bh bn
 refine W.p1 (.int .i64 y) (.nil (.seq (.region (W.p2 (.int .i64 y) (W.p3 (.bool (y != 0)) (.nil ?_))))))
 refine .cond (b := (y != 0)) rfl rfl (fun az => ?_) (fun az => ?_)
 rotate_left
 .have cH := z11 az bl
  refine .skip (.region (W.r3 (.int .i64 (z0u .i64 (F + 1))) ar (W.p2 (.int .i64 (z0u .i64 (F + 1))) (.nil ?_))))
  have cI := bm.drop 2
  exact ⟨ap, zAg _, ⟨f.2, f.2.l, z0u .i64 (F + 1), cx, _, cH, cI, (zAe I (zAe aw (zAe bg bn))), rfl⟩⟩
 have cJ := z01 az bl
 refine .seq (.region (W.p2 (.int .i64 y) (W.p1 (.int .i64 y) (.nil (.ret ?_)))))
 have cK := (((bm.drop 0).drop 0).drop 0).drop 0
 obtain rfl := zAa cJ
 have cL := z0k (z4x ab)
 obtain rfl := zAa cL
 exact z41 kr (v1 := (.int .i64 y)) (by rfl) rt cK dg rfl
def z2t (K : Nat) (a : Switch) (b : zAd) : Option Bool := some (sEq a.Name b)
theorem z8o (d : List Value) (a : Switch) (e : z0x.rep G d a) (v1 : Value) (b : zAd) (f : At G G v1 rS b) (O : Ow G H (L)) (r : Bool) (h : z2t K a b = some r) :
    CR Tryd.prog 29 [.agg d.toArray, v1] G H (L) (fun v l _ => v = .bool r) := by
 unfold z2t at h
 refine CR.og (n := 8) (fn := Tryd.f29) (by kernel_rfl) rfl rfl fun R kr => (.seq (.region (W.ln (Lo.box (r := z0x) (x0 := a) (v := (.agg d.toArray)) rfl rfl e O) ?_)))
 rintro m o ⟨g, rfl, c, k⟩
 refine W.p1 (.bool false) (.nil (.seq (.region (W.pv (padd (.pointer (some ⟨g, 0, none⟩)) 0) (z0a zhi ov (c.atVar (j := 0) rfl)) (W.l1 (.string a.Name) ag9 (z0f rfl (At.str (At.proj (c.atVar (j := 0) rfl) z6k))) (W.l1 (.string b) ag9 (z0f rfl (At.str (At.le f (zAf _) c.fro))) ?_))))))
 refine W.pv (.bool (sEq a.Name b)) (z69 ov ov) (W.p1 (.bool (sEq a.Name b)) (.nil (.ret ?_)))
 have i := c.drop 0
 obtain rfl := zAa h
 exact z41 kr (v1 := (.bool (sEq a.Name b))) (by rfl) rt i (zAf _) rfl
def z04 (K : Nat) (b : List Switch) (c : Switch -> Option Bool) : Nat -> Int -> Option (Int ⊕ Unit)
  | 0, _ => none
  | k + 1, a => (if (decide (a < (b.length : Int))) = true then ((idx b a).bind fun d => ((c d).bind fun e => (if e = true then some (.inl a) else z04 K b c k (z0u .i64 (a + 1))))) else some (.inr ()))
def z0m (K : Nat) (b : List Switch) (c : Switch -> Option Bool) : Option Int := (z66 (z04 K b c K 0) (tu1 fun a => some a) (tu0 (some (-1))))
theorem z3x (d : Value) (f : List Switch) (i : (rSl z0x).rep G [d] f) (v1 : Value) (z : Switch -> Option Bool) (E : FnOk Tryd.prog G v1 (fun G vs (x : (Switch)) => ∃ (d : List Value), vs = [.agg d.toArray] /\ z0x.rep G d x) (fun _ v (rr : (Bool)) => v = .bool rr) z) (O : Ow G H (L)) (r : Int) (h : z0m K f z = some r) :
    CR Tryd.prog 28 [d, v1] G H (L) (fun v g _ => v = .int .i64 r) := by
 unfold z0m at h
 refine CR.og (n := 19) (fn := Tryd.f28) (by kernel_rfl) rfl rfl fun R kr => (.seq (.region (W.p1 (.int .i64 0) (.nil (.seq (.seq ?_))))))
 refine .region (W.p2 d (W.pv (.int .i64 (f.length : Int)) (z1j ov (z17 i) (z02 el23)) (W.p2 (.int .i64 0) (.nil ?_))))
 obtain ⟨F, ad, I⟩ := z2f h
 refine AW.midT (fun q A => ∃  (g : GM), (.inr ()) = F /\ Ow g A (L) /\ GM.le G g) ?_ ?_
 rotate_left
 .rintro ae ah af ⟨ai, rfl, J, M⟩
  have N := z6j (z67 I)
  refine .seq (.region (W.p1 (.int .i64 (-1)) (.nil (.ret ?_))))
  obtain rfl := zAa N
  exact z41 kr (v1 := (.int .i64 (-1))) (by rfl) rt J M rfl
 refine .block (AW.loop (α := Nat) (fun B q A => ∃ (P : Int) (g : GM), z04 K f z B P = some F /\ Ow g A (L) /\ GM.le G g /\ q 8 = .int .i64 P) (fun B => B) K ⟨0, _, ad, O, (zAf _), rfl⟩ ?_)
 rintro C
 rintro aj an j ⟨a, ao, e, k, c, l⟩
 rcases C with _ | C
 .exact z0e e
 rw [z04] at e
 refine .seq (.region (W.q3 (.bool (decide (a < (f.length : Int)))) l (ft (j 7 rfl) rfl) (.nil (.seq (.cond (b := decide (a < (f.length : Int))) rfl rfl (fun m => ?_) (fun m => ?_))))))
 rotate_left
 .have Q := z11 m e
  refine .exit ?_
  obtain rfl := zAa Q
  exact ⟨_, rfl, k, c⟩
 have S := z01 m e
 refine .skip (.seq (.block (.seq (.region (W.q2 _ l (W.p1 (.int .i64 a) ?_))))))
 refine .nil (.seq (.region (W.q2 v1 (ft (j 1 rfl) rfl) (W.q2 d (ft (j 0 rfl) rfl) (W.p2 (.int .i64 a) ?_)))))
 obtain ⟨T, U, V⟩ := z03 S
 have o := z1v U
 refine W.pv (z5q d (a.toNat * 5)) (z6h el23 sz52 ov ov (z17 (RT.mono _ c i)) o.1 o.2.1) ?_
 obtain ⟨s, X, t⟩ := (At.le (At.le (z47 i o.2.2) c c) (zAf _) k.fro)
 refine W.loadA (cs := s) rfl rfl ag52 sz52 (z0f rfl X) (RT.len _ t) ?_
 obtain ⟨Y, Z, u⟩ := z03 V
 refine W.ln (Lo.callF (x0 := T) rfl rfl (FnOk.le E c) (mc rfl mn) ⟨s, rfl, t⟩ Z k) ?_
 rintro ak al ⟨am, w, y, ag, rfl⟩
 refine .nil (.cond (b := Y) rfl rfl (fun p => ?_) (fun p => ?_))
 rotate_left
 .have aa := z11 p u
  refine .skip (.region (W.r3 (.int .i64 (z0u .i64 (a + 1))) l (W.p2 (.int .i64 (z0u .i64 (a + 1))) (.nil ?_))))
  exact ⟨C, zAg _, ⟨z0u .i64 (a + 1), _, aa, w, (zAe c y), rfl⟩⟩
 have ab := z01 p u
 refine .seq (.region (W.p2 (.int .i64 a) (W.p1 (.int .i64 a) (.nil (.ret ?_)))))
 obtain rfl := zAa ab
 have ac := z0k (z4x I)
 obtain rfl := zAa ac
 exact z41 kr (v1 := (.int .i64 a)) (by rfl) rt w (zAe c y) rfl
def z2u (K : Nat) (a : Branch) (b : zAd) : Option Bool := some (sEq a.Name b)
theorem z8p (d : List Value) (a : Branch) (e : z0i.rep G d a) (v1 : Value) (b : zAd) (f : At G G v1 rS b) (O : Ow G H (L)) (r : Bool) (h : z2u K a b = some r) :
    CR Tryd.prog 31 [.agg d.toArray, v1] G H (L) (fun v l _ => v = .bool r) := by
 unfold z2u at h
 refine CR.og (n := 8) (fn := Tryd.f31) (by kernel_rfl) rfl rfl fun R kr => (.seq (.region (W.ln (Lo.box (r := z0i) (x0 := a) (v := (.agg d.toArray)) rfl rfl e O) ?_)))
 rintro m o ⟨g, rfl, c, k⟩
 refine W.p1 (.bool false) (.nil (.seq (.region (W.pv (padd (.pointer (some ⟨g, 0, none⟩)) 0) (z0a zhl ov (c.atVar (j := 0) rfl)) (W.l1 (.string a.Name) ag9 (z0f rfl (At.str (At.proj (c.atVar (j := 0) rfl) z6l))) (W.l1 (.string b) ag9 (z0f rfl (At.str (At.le f (zAf _) c.fro))) ?_))))))
 refine W.pv (.bool (sEq a.Name b)) (z69 ov ov) (W.p1 (.bool (sEq a.Name b)) (.nil (.ret ?_)))
 have i := c.drop 0
 obtain rfl := zAa h
 exact z41 kr (v1 := (.bool (sEq a.Name b))) (by rfl) rt i (zAf _) rfl
def z05 (K : Nat) (b : List Branch) (c : Branch -> Option Bool) : Nat -> Int -> Option (Int ⊕ Unit)
  | 0, _ => none
  | k + 1, a => (if (decide (a < (b.length : Int))) = true then ((idx b a).bind fun d => ((c d).bind fun e => (if e = true then some (.inl a) else z05 K b c k (z0u .i64 (a + 1))))) else some (.inr ()))
def z0n (K : Nat) (b : List Branch) (c : Branch -> Option Bool) : Option Int := (z66 (z05 K b c K 0) (tu1 fun a => some a) (tu0 (some (-1))))
theorem z3y (d : Value) (f : List Branch) (i : (rSl z0i).rep G [d] f) (v1 : Value) (z : Branch -> Option Bool) (E : FnOk Tryd.prog G v1 (fun G vs (x : (Branch)) => ∃ (d : List Value), vs = [.agg d.toArray] /\ z0i.rep G d x) (fun _ v (rr : (Bool)) => v = .bool rr) z) (O : Ow G H (L)) (r : Int) (h : z0n K f z = some r) :
    CR Tryd.prog 30 [d, v1] G H (L) (fun v g _ => v = .int .i64 r) := by
 unfold z0n at h
 refine CR.og (n := 19) (fn := Tryd.f30) (by kernel_rfl) rfl rfl fun R kr => (.seq (.region (W.p1 (.int .i64 0) (.nil (.seq (.seq ?_))))))
 refine .region (W.p2 d (W.pv (.int .i64 (f.length : Int)) (z1j ov (z17 i) (z02 el24)) (W.p2 (.int .i64 0) (.nil ?_))))
 obtain ⟨F, ad, I⟩ := z2f h
 refine AW.midT (fun q A => ∃  (g : GM), (.inr ()) = F /\ Ow g A (L) /\ GM.le G g) ?_ ?_
 rotate_left
 .rintro ae ah af ⟨ai, rfl, J, M⟩
  have N := z6j (z67 I)
  refine .seq (.region (W.p1 (.int .i64 (-1)) (.nil (.ret ?_))))
  obtain rfl := zAa N
  exact z41 kr (v1 := (.int .i64 (-1))) (by rfl) rt J M rfl
 refine .block (AW.loop (α := Nat) (fun B q A => ∃ (P : Int) (g : GM), z05 K f z B P = some F /\ Ow g A (L) /\ GM.le G g /\ q 8 = .int .i64 P) (fun B => B) K ⟨0, _, ad, O, (zAf _), rfl⟩ ?_)
 rintro C
 rintro aj an j ⟨a, ao, e, k, c, l⟩
 rcases C with _ | C
 .exact z0e e
 rw [z05] at e
 refine .seq (.region (W.q3 (.bool (decide (a < (f.length : Int)))) l (ft (j 7 rfl) rfl) (.nil (.seq (.cond (b := decide (a < (f.length : Int))) rfl rfl (fun m => ?_) (fun m => ?_))))))
 rotate_left
 .have Q := z11 m e
  refine .exit ?_
  obtain rfl := zAa Q
  exact ⟨_, rfl, k, c⟩
 have S := z01 m e
 refine .skip (.seq (.block (.seq (.region (W.q2 _ l (W.p1 (.int .i64 a) ?_))))))
 refine .nil (.seq (.region (W.q2 v1 (ft (j 1 rfl) rfl) (W.q2 d (ft (j 0 rfl) rfl) (W.p2 (.int .i64 a) ?_)))))
 obtain ⟨T, U, V⟩ := z03 S
 have o := z1v U
 refine W.pv (z5q d (a.toNat * 9)) (z6h el24 sz59 ov ov (z17 (RT.mono _ c i)) o.1 o.2.1) ?_
 obtain ⟨s, X, t⟩ := (At.le (At.le (z47 i o.2.2) c c) (zAf _) k.fro)
 refine W.loadA (cs := s) rfl rfl ag59 sz59 (z0f rfl X) (RT.len _ t) ?_
 obtain ⟨Y, Z, u⟩ := z03 V
 refine W.ln (Lo.callF (x0 := T) rfl rfl (FnOk.le E c) (mc rfl mn) ⟨s, rfl, t⟩ Z k) ?_
 rintro ak al ⟨am, w, y, ag, rfl⟩
 refine .nil (.cond (b := Y) rfl rfl (fun p => ?_) (fun p => ?_))
 rotate_left
 .have aa := z11 p u
  refine .skip (.region (W.r3 (.int .i64 (z0u .i64 (a + 1))) l (W.p2 (.int .i64 (z0u .i64 (a + 1))) (.nil ?_))))
  exact ⟨C, zAg _, ⟨z0u .i64 (a + 1), _, aa, w, (zAe c y), rfl⟩⟩
 have ab := z01 p u
 refine .seq (.region (W.p2 (.int .i64 a) (W.p1 (.int .i64 a) (.nil (.ret ?_)))))
 obtain rfl := zAa ab
 have ac := z0k (z4x I)
 obtain rfl := zAa ac
 exact z41 kr (v1 := (.int .i64 a)) (by rfl) rt w (zAe c y) rfl
def z2v (K : Nat) (a : Gen) (b : zAd) : Option Bool := some (sEq a.Name b)
theorem z8q (d : List Value) (a : Gen) (e : z6b.rep G d a) (v1 : Value) (b : zAd) (f : At G G v1 rS b) (O : Ow G H (L)) (r : Bool) (h : z2v K a b = some r) :
    CR Tryd.prog 33 [.agg d.toArray, v1] G H (L) (fun v l _ => v = .bool r) := by
 unfold z2v at h
 refine CR.og (n := 8) (fn := Tryd.f33) (by kernel_rfl) rfl rfl fun R kr => (.seq (.region (W.ln (Lo.box (r := z6b) (x0 := a) (v := (.agg d.toArray)) rfl rfl e O) ?_)))
 rintro m o ⟨g, rfl, c, k⟩
 refine W.p1 (.bool false) (.nil (.seq (.region (W.pv (padd (.pointer (some ⟨g, 0, none⟩)) 0) (z0a zho ov (c.atVar (j := 0) rfl)) (W.l1 (.string a.Name) ag9 (z0f rfl (At.str (At.proj (c.atVar (j := 0) rfl) z9b))) (W.l1 (.string b) ag9 (z0f rfl (At.str (At.le f (zAf _) c.fro))) ?_))))))
 refine W.pv (.bool (sEq a.Name b)) (z69 ov ov) (W.p1 (.bool (sEq a.Name b)) (.nil (.ret ?_)))
 have i := c.drop 0
 obtain rfl := zAa h
 exact z41 kr (v1 := (.bool (sEq a.Name b))) (by rfl) rt i (zAf _) rfl
def z0b (K : Nat) (b : List Gen) (c : Gen -> Option Bool) : Nat -> Int -> Option (Int ⊕ Unit)
  | 0, _ => none
  | k + 1, a => (if (decide (a < (b.length : Int))) = true then ((idx b a).bind fun d => ((c d).bind fun e => (if e = true then some (.inl a) else z0b K b c k (z0u .i64 (a + 1))))) else some (.inr ()))
def z16 (K : Nat) (b : List Gen) (c : Gen -> Option Bool) : Option Int := (z66 (z0b K b c K 0) (tu1 fun a => some a) (tu0 (some (-1))))
theorem z52 (d : Value) (f : List Gen) (i : (rSl z6b).rep G [d] f) (v1 : Value) (z : Gen -> Option Bool) (E : FnOk Tryd.prog G v1 (fun G vs (x : (Gen)) => ∃ (d : List Value), vs = [.agg d.toArray] /\ z6b.rep G d x) (fun _ v (rr : (Bool)) => v = .bool rr) z) (O : Ow G H (L)) (r : Int) (h : z16 K f z = some r) :
    CR Tryd.prog 32 [d, v1] G H (L) (fun v g _ => v = .int .i64 r) := by
 unfold z16 at h
 refine CR.og (n := 19) (fn := Tryd.f32) (by kernel_rfl) rfl rfl fun R kr => (.seq (.region (W.p1 (.int .i64 0) (.nil (.seq (.seq ?_))))))
 refine .region (W.p2 d (W.pv (.int .i64 (f.length : Int)) (z1j ov (z17 i) (z02 el25)) (W.p2 (.int .i64 0) (.nil ?_))))
 obtain ⟨F, ad, I⟩ := z2f h
 refine AW.midT (fun q A => ∃  (g : GM), (.inr ()) = F /\ Ow g A (L) /\ GM.le G g) ?_ ?_
 rotate_left
 .rintro ae ah af ⟨ai, rfl, J, M⟩
  have N := z6j (z67 I)
  refine .seq (.region (W.p1 (.int .i64 (-1)) (.nil (.ret ?_))))
  obtain rfl := zAa N
  exact z41 kr (v1 := (.int .i64 (-1))) (by rfl) rt J M rfl
 refine .block (AW.loop (α := Nat) (fun B q A => ∃ (P : Int) (g : GM), z0b K f z B P = some F /\ Ow g A (L) /\ GM.le G g /\ q 8 = .int .i64 P) (fun B => B) K ⟨0, _, ad, O, (zAf _), rfl⟩ ?_)
 rintro C
 rintro aj an j ⟨a, ao, e, k, c, l⟩
 rcases C with _ | C
 .exact z0e e
 rw [z0b] at e
 refine .seq (.region (W.q3 (.bool (decide (a < (f.length : Int)))) l (ft (j 7 rfl) rfl) (.nil (.seq (.cond (b := decide (a < (f.length : Int))) rfl rfl (fun m => ?_) (fun m => ?_))))))
 rotate_left
 .have Q := z11 m e
  refine .exit ?_
  obtain rfl := zAa Q
  exact ⟨_, rfl, k, c⟩
 have S := z01 m e
 refine .skip (.seq (.block (.seq (.region (W.q2 _ l (W.p1 (.int .i64 a) ?_))))))
 refine .nil (.seq (.region (W.q2 v1 (ft (j 1 rfl) rfl) (W.q2 d (ft (j 0 rfl) rfl) (W.p2 (.int .i64 a) ?_)))))
 obtain ⟨T, U, V⟩ := z03 S
 have o := z1v U
 refine W.pv (z5q d (a.toNat * 5)) (z6h el25 sz67 ov ov (z17 (RT.mono _ c i)) o.1 o.2.1) ?_
 obtain ⟨s, X, t⟩ := (At.le (At.le (z47 i o.2.2) c c) (zAf _) k.fro)
 refine W.loadA (cs := s) rfl rfl ag67 sz67 (z0f rfl X) (RT.len _ t) ?_
 obtain ⟨Y, Z, u⟩ := z03 V
 refine W.ln (Lo.callF (x0 := T) rfl rfl (FnOk.le E c) (mc rfl mn) ⟨s, rfl, t⟩ Z k) ?_
 rintro ak al ⟨am, w, y, ag, rfl⟩
 refine .nil (.cond (b := Y) rfl rfl (fun p => ?_) (fun p => ?_))
 rotate_left
 .have aa := z11 p u
  refine .skip (.region (W.r3 (.int .i64 (z0u .i64 (a + 1))) l (W.p2 (.int .i64 (z0u .i64 (a + 1))) (.nil ?_))))
  exact ⟨C, zAg _, ⟨z0u .i64 (a + 1), _, aa, w, (zAe c y), rfl⟩⟩
 have ab := z01 p u
 refine .seq (.region (W.p2 (.int .i64 a) (W.p1 (.int .i64 a) (.nil (.ret ?_)))))
 obtain rfl := zAa ab
 have ac := z0k (z4x I)
 obtain rfl := zAa ac
 exact z41 kr (v1 := (.int .i64 a)) (by rfl) rt w (zAe c y) rfl
def z2w (K : Nat) (a : Load_) (b : zAd) : Option Bool := some (sEq a.Name b)
theorem z8r (d : List Value) (a : Load_) (e : z1w.rep G d a) (v1 : Value) (b : zAd) (f : At G G v1 rS b) (O : Ow G H (L)) (r : Bool) (h : z2w K a b = some r) :
    CR Tryd.prog 35 [.agg d.toArray, v1] G H (L) (fun v l _ => v = .bool r) := by
 unfold z2w at h
 refine CR.og (n := 8) (fn := Tryd.f35) (by kernel_rfl) rfl rfl fun R kr => (.seq (.region (W.ln (Lo.box (r := z1w) (x0 := a) (v := (.agg d.toArray)) rfl rfl e O) ?_)))
 rintro m o ⟨g, rfl, c, k⟩
 refine W.p1 (.bool false) (.nil (.seq (.region (W.pv (padd (.pointer (some ⟨g, 0, none⟩)) 0) (z0a zhp ov (c.atVar (j := 0) rfl)) (W.l1 (.string a.Name) ag9 (z0f rfl (At.str (At.proj (c.atVar (j := 0) rfl) z78))) (W.l1 (.string b) ag9 (z0f rfl (At.str (At.le f (zAf _) c.fro))) ?_))))))
 refine W.pv (.bool (sEq a.Name b)) (z69 ov ov) (W.p1 (.bool (sEq a.Name b)) (.nil (.ret ?_)))
 have i := c.drop 0
 obtain rfl := zAa h
 exact z41 kr (v1 := (.bool (sEq a.Name b))) (by rfl) rt i (zAf _) rfl
def z09 (K : Nat) (b : List Load_) (c : Load_ -> Option Bool) : Nat -> Int -> Option (Int ⊕ Unit)
  | 0, _ => none
  | k + 1, a => (if (decide (a < (b.length : Int))) = true then ((idx b a).bind fun d => ((c d).bind fun e => (if e = true then some (.inl a) else z09 K b c k (z0u .i64 (a + 1))))) else some (.inr ()))
def z0y (K : Nat) (b : List Load_) (c : Load_ -> Option Bool) : Option Int := (z66 (z09 K b c K 0) (tu1 fun a => some a) (tu0 (some (-1))))
theorem z4o (d : Value) (f : List Load_) (i : (rSl z1w).rep G [d] f) (v1 : Value) (z : Load_ -> Option Bool) (E : FnOk Tryd.prog G v1 (fun G vs (x : (Load_)) => ∃ (d : List Value), vs = [.agg d.toArray] /\ z1w.rep G d x) (fun _ v (rr : (Bool)) => v = .bool rr) z) (O : Ow G H (L)) (r : Int) (h : z0y K f z = some r) :
    CR Tryd.prog 34 [d, v1] G H (L) (fun v g _ => v = .int .i64 r) := by
 unfold z0y at h
 refine CR.og (n := 19) (fn := Tryd.f34) (by kernel_rfl) rfl rfl fun R kr => (.seq (.region (W.p1 (.int .i64 0) (.nil (.seq (.seq ?_))))))
 refine .region (W.p2 d (W.pv (.int .i64 (f.length : Int)) (z1j ov (z17 i) (z02 el26)) (W.p2 (.int .i64 0) (.nil ?_))))
 obtain ⟨F, ad, I⟩ := z2f h
 refine AW.midT (fun q A => ∃  (g : GM), (.inr ()) = F /\ Ow g A (L) /\ GM.le G g) ?_ ?_
 rotate_left
 .rintro ae ah af ⟨ai, rfl, J, M⟩
  have N := z6j (z67 I)
  refine .seq (.region (W.p1 (.int .i64 (-1)) (.nil (.ret ?_))))
  obtain rfl := zAa N
  exact z41 kr (v1 := (.int .i64 (-1))) (by rfl) rt J M rfl
 refine .block (AW.loop (α := Nat) (fun B q A => ∃ (P : Int) (g : GM), z09 K f z B P = some F /\ Ow g A (L) /\ GM.le G g /\ q 8 = .int .i64 P) (fun B => B) K ⟨0, _, ad, O, (zAf _), rfl⟩ ?_)
 rintro C
 rintro aj an j ⟨a, ao, e, k, c, l⟩
 rcases C with _ | C
 .exact z0e e
 rw [z09] at e
 refine .seq (.region (W.q3 (.bool (decide (a < (f.length : Int)))) l (ft (j 7 rfl) rfl) (.nil (.seq (.cond (b := decide (a < (f.length : Int))) rfl rfl (fun m => ?_) (fun m => ?_))))))
 rotate_left
 .have Q := z11 m e
  refine .exit ?_
  obtain rfl := zAa Q
  exact ⟨_, rfl, k, c⟩
 have S := z01 m e
 refine .skip (.seq (.block (.seq (.region (W.q2 _ l (W.p1 (.int .i64 a) ?_))))))
 refine .nil (.seq (.region (W.q2 v1 (ft (j 1 rfl) rfl) (W.q2 d (ft (j 0 rfl) rfl) (W.p2 (.int .i64 a) ?_)))))
 obtain ⟨T, U, V⟩ := z03 S
 have o := z1v U
 refine W.pv (z5q d (a.toNat * 3)) (z6h el26 sz71 ov ov (z17 (RT.mono _ c i)) o.1 o.2.1) ?_
 obtain ⟨s, X, t⟩ := (At.le (At.le (z47 i o.2.2) c c) (zAf _) k.fro)
 refine W.loadA (cs := s) rfl rfl ag71 sz71 (z0f rfl X) (RT.len _ t) ?_
 obtain ⟨Y, Z, u⟩ := z03 V
 refine W.ln (Lo.callF (x0 := T) rfl rfl (FnOk.le E c) (mc rfl mn) ⟨s, rfl, t⟩ Z k) ?_
 rintro ak al ⟨am, w, y, ag, rfl⟩
 refine .nil (.cond (b := Y) rfl rfl (fun p => ?_) (fun p => ?_))
 rotate_left
 .have aa := z11 p u
  refine .skip (.region (W.r3 (.int .i64 (z0u .i64 (a + 1))) l (W.p2 (.int .i64 (z0u .i64 (a + 1))) (.nil ?_))))
  exact ⟨C, zAg _, ⟨z0u .i64 (a + 1), _, aa, w, (zAe c y), rfl⟩⟩
 have ab := z01 p u
 refine .seq (.region (W.p2 (.int .i64 a) (W.p1 (.int .i64 a) (.nil (.ret ?_)))))
 obtain rfl := zAa ab
 have ac := z0k (z4x I)
 obtain rfl := zAa ac
 exact z41 kr (v1 := (.int .i64 a)) (by rfl) rt w (zAe c y) rfl
def z2x (K : Nat) (a : Store) (b : zAd) : Option Bool := some (sEq a.Name b)
theorem z8s (d : List Value) (a : Store) (e : z1o.rep G d a) (v1 : Value) (b : zAd) (f : At G G v1 rS b) (O : Ow G H (L)) (r : Bool) (h : z2x K a b = some r) :
    CR Tryd.prog 37 [.agg d.toArray, v1] G H (L) (fun v l _ => v = .bool r) := by
 unfold z2x at h
 refine CR.og (n := 8) (fn := Tryd.f37) (by kernel_rfl) rfl rfl fun R kr => (.seq (.region (W.ln (Lo.box (r := z1o) (x0 := a) (v := (.agg d.toArray)) rfl rfl e O) ?_)))
 rintro m o ⟨g, rfl, c, k⟩
 refine W.p1 (.bool false) (.nil (.seq (.region (W.pv (padd (.pointer (some ⟨g, 0, none⟩)) 0) (z0a zhq ov (c.atVar (j := 0) rfl)) (W.l1 (.string a.Name) ag9 (z0f rfl (At.str (At.proj (c.atVar (j := 0) rfl) z7a))) (W.l1 (.string b) ag9 (z0f rfl (At.str (At.le f (zAf _) c.fro))) ?_))))))
 refine W.pv (.bool (sEq a.Name b)) (z69 ov ov) (W.p1 (.bool (sEq a.Name b)) (.nil (.ret ?_)))
 have i := c.drop 0
 obtain rfl := zAa h
 exact z41 kr (v1 := (.bool (sEq a.Name b))) (by rfl) rt i (zAf _) rfl
def z06 (K : Nat) (b : List Store) (c : Store -> Option Bool) : Nat -> Int -> Option (Int ⊕ Unit)
  | 0, _ => none
  | k + 1, a => (if (decide (a < (b.length : Int))) = true then ((idx b a).bind fun d => ((c d).bind fun e => (if e = true then some (.inl a) else z06 K b c k (z0u .i64 (a + 1))))) else some (.inr ()))
def z0s (K : Nat) (b : List Store) (c : Store -> Option Bool) : Option Int := (z66 (z06 K b c K 0) (tu1 fun a => some a) (tu0 (some (-1))))
theorem z4b (d : Value) (f : List Store) (i : (rSl z1o).rep G [d] f) (v1 : Value) (z : Store -> Option Bool) (E : FnOk Tryd.prog G v1 (fun G vs (x : (Store)) => ∃ (d : List Value), vs = [.agg d.toArray] /\ z1o.rep G d x) (fun _ v (rr : (Bool)) => v = .bool rr) z) (O : Ow G H (L)) (r : Int) (h : z0s K f z = some r) :
    CR Tryd.prog 36 [d, v1] G H (L) (fun v g _ => v = .int .i64 r) := by
 unfold z0s at h
 refine CR.og (n := 19) (fn := Tryd.f36) (by kernel_rfl) rfl rfl fun R kr => (.seq (.region (W.p1 (.int .i64 0) (.nil (.seq (.seq ?_))))))
 refine .region (W.p2 d (W.pv (.int .i64 (f.length : Int)) (z1j ov (z17 i) (z02 el27)) (W.p2 (.int .i64 0) (.nil ?_))))
 obtain ⟨F, ad, I⟩ := z2f h
 refine AW.midT (fun q A => ∃  (g : GM), (.inr ()) = F /\ Ow g A (L) /\ GM.le G g) ?_ ?_
 rotate_left
 .rintro ae ah af ⟨ai, rfl, J, M⟩
  have N := z6j (z67 I)
  refine .seq (.region (W.p1 (.int .i64 (-1)) (.nil (.ret ?_))))
  obtain rfl := zAa N
  exact z41 kr (v1 := (.int .i64 (-1))) (by rfl) rt J M rfl
 refine .block (AW.loop (α := Nat) (fun B q A => ∃ (P : Int) (g : GM), z06 K f z B P = some F /\ Ow g A (L) /\ GM.le G g /\ q 8 = .int .i64 P) (fun B => B) K ⟨0, _, ad, O, (zAf _), rfl⟩ ?_)
 rintro C
 rintro aj an j ⟨a, ao, e, k, c, l⟩
 rcases C with _ | C
 .exact z0e e
 rw [z06] at e
 refine .seq (.region (W.q3 (.bool (decide (a < (f.length : Int)))) l (ft (j 7 rfl) rfl) (.nil (.seq (.cond (b := decide (a < (f.length : Int))) rfl rfl (fun m => ?_) (fun m => ?_))))))
 rotate_left
 .have Q := z11 m e
  refine .exit ?_
  obtain rfl := zAa Q
  exact ⟨_, rfl, k, c⟩
 have S := z01 m e
 refine .skip (.seq (.block (.seq (.region (W.q2 _ l (W.p1 (.int .i64 a) ?_))))))
 refine .nil (.seq (.region (W.q2 v1 (ft (j 1 rfl) rfl) (W.q2 d (ft (j 0 rfl) rfl) (W.p2 (.int .i64 a) ?_)))))
 obtain ⟨T, U, V⟩ := z03 S
 have o := z1v U
 refine W.pv (z5q d (a.toNat * 5)) (z6h el27 sz75 ov ov (z17 (RT.mono _ c i)) o.1 o.2.1) ?_
 obtain ⟨s, X, t⟩ := (At.le (At.le (z47 i o.2.2) c c) (zAf _) k.fro)
 refine W.loadA (cs := s) rfl rfl ag75 sz75 (z0f rfl X) (RT.len _ t) ?_
 obtain ⟨Y, Z, u⟩ := z03 V
 refine W.ln (Lo.callF (x0 := T) rfl rfl (FnOk.le E c) (mc rfl mn) ⟨s, rfl, t⟩ Z k) ?_
 rintro ak al ⟨am, w, y, ag, rfl⟩
 refine .nil (.cond (b := Y) rfl rfl (fun p => ?_) (fun p => ?_))
 rotate_left
 .have aa := z11 p u
  refine .skip (.region (W.r3 (.int .i64 (z0u .i64 (a + 1))) l (W.p2 (.int .i64 (z0u .i64 (a + 1))) (.nil ?_))))
  exact ⟨C, zAg _, ⟨z0u .i64 (a + 1), _, aa, w, (zAe c y), rfl⟩⟩
 have ab := z01 p u
 refine .seq (.region (W.p2 (.int .i64 a) (W.p1 (.int .i64 a) (.nil (.ret ?_)))))
 obtain rfl := zAa ab
 have ac := z0k (z4x I)
 obtain rfl := zAa ac
 exact z41 kr (v1 := (.int .i64 a)) (by rfl) rt w (zAe c y) rfl
end Go.Am.Tryd
