/- Rules for regions whose order is open, with blocks that are made beside; slices that are lent for a call. -/
import Derived.Test.YtdogeclnbdldaaaGreatDoorG1Z6
import Derived.Test.YtdogeclnbdldaaaGreatDoorProg
import Derived.BigRegion
import Derived.Shelf.Strings.Search1
import Derived.Laws.Strings
set_option maxRecDepth 100000
set_option maxHeartbeats 8000000
set_option linter.unusedVariables false
set_option linter.unusedSimpArgs false
namespace Go.Am
open Go
noncomputable section
def AWD2 (P : Program) (n : Nat) (ops : Array Oper) (M : List Nat) (N0 : Nat) (l : List Oper) (i : Nat) (R : z9a) (L : zab) (A : zae) (σ : Nat -> Value) (H : AH) (Q : (Nat -> Value) -> AH -> Prop) : Prop :=
 ∃ es σ' H', DOps2 P ops M N0 l i R L A (toL n σ) H es (toL n σ') H' /\ (∀ t, wrL l t = false -> σ' t = σ t) /\ Q σ' H'
def Free (N0 m i : Nat) (H : AH) : Prop := ∀ k, i <= k -> k < m -> H.get (N0 + k) = none /\ N0 + k < H.next
section
variable {P : Program} {n : Nat} {σ : Nat -> Value} {H H1 : AH} {ops : Array Oper} {l : List Oper} {Q : (Nat -> Value) -> AH -> Prop} {QX : QX} {d : Tmp} {dd : Option Tmp} {ty t yt e : TypeId} {pos : String} {af : Array Edge} {g : Option (Nat × Bool)} {v u w : Value} {x y c : Operand} {s : List Value} {cs : List Value}
 {M : List Nat} {N0 m : Nat} {R : z9a} {L : zab} {A : zae} {i : Nat} {o : Oper} {op : Op} {Φ : Value -> AH -> Prop} {G : GM} {Ls : List Pc}
theorem AW.draw2 {id : Nat} (hmix : P.follows .mixedOrders = true) (hM : ancs ops.toList [] = M) (hord : zdy ops M = true) (h : ∀ H1 N0, Ext H H1 -> Free N0 ops.size 0 H1 -> AWD2 P n ops M N0 ops.toList 0 [] [] [] σ H1 (QX .normal)) : AW P n (.region id ops true) σ H QX := by
 obtain ⟨es, σ', H', h1, h2, h3⟩ := h (reserve H ops.size) H.next (.reserve H _) (fun k _ hk => ⟨by rw [z5j, AH.get_def, if_neg (by omega)], by rw [z4s]; omega⟩)
 exact ⟨.normal, σ', H', .drawR2 hmix hM hord h1, h2, h3⟩
theorem AWD2.nil (h : Q σ H) : AWD2 P n ops M N0 [] i R L A σ H Q := ⟨[], σ, H, .nil, fun _ _ => rfl, h⟩
theorem D2.skip (hg : gok n ops σ g false) (hd : dok n dd = true) (hr : AWD2 P n ops M N0 l (i + 1) R L A (upo σ dd undef) H Q) : AWD2 P n ops M N0 (⟨dd, op, ty, pos, af, g⟩ :: l) i R L A σ H Q := by
 obtain ⟨es, σ', H', h1, h2, h3⟩ := hr
 exact ⟨_, σ', H', .skip (z0x hg) (by rw [z5k hd]; exact h1), zbm h2, h3⟩
theorem D2.skipU {j : Nat} {want : Bool} {d' : Tmp} (h1 : (ops[j]?).bind (·.dst) = some d') (h2 : Nat.blt d' n = true) (h3 : σ d' = undef) (hd : dok n dd = true) (hr : AWD2 P n ops M N0 l (i + 1) R L A (upo σ dd undef) H Q) : AWD2 P n ops M N0 (⟨dd, op, ty, pos, af, some (j, want)⟩ :: l) i R L A σ H Q := by
 obtain ⟨es, σ', H', h4, h5, h6⟩ := hr
 exact ⟨_, σ', H', .skip (z9b rfl h1 h2 h3) (by rw [z5k hd]; exact h4), zbm h5, h6⟩
theorem D2.pure (hg : gok n ops σ g true) (hd : Nat.blt d n = true) (h : z2b P (toL n σ) ⟨some d, op, ty, pos, af, g⟩ = some v) (hr : AWD2 P n ops M N0 l (i + 1) R L A (up σ d v) H Q) : AWD2 P n ops M N0 (⟨some d, op, ty, pos, af, g⟩ :: l) i R L A σ H Q := by
 obtain ⟨es, σ', H', h1, h2, h3⟩ := hr
 exact ⟨_, σ', H', .pure (z0x hg) h (by rw [z5k (d := some d) hd]; exact h1), zbm h2, h3⟩
theorem D2.splitAt {b : Bool} {t : Nat} (h : σ t = .bool b) (h1 : b = true -> σ t = .bool true -> AWD2 P n ops M N0 l i R L A σ H Q) (h2 : b = false -> σ t = .bool false -> AWD2 P n ops M N0 l i R L A σ H Q) : AWD2 P n ops M N0 l i R L A σ H Q := by
 cases b with
 | true => exact h1 rfl h
 | false => exact h2 rfl h
theorem D2.read {b : Nat} (hg : gok n ops σ g true) (hd : Nat.blt d n = true) (h : z86 P (toL n σ) ⟨some d, op, ty, pos, af, g⟩ H.get = some v) (hb : z5h (toL n σ) ⟨some d, op, ty, pos, af, g⟩ = some b)
  (hL : ∀ q ∈ L, (M.getD i 0).testBit q.1 = true \/ q.2.2.get b = q.2.1.get b) (hr : AWD2 P n ops M N0 l (i + 1) ((i, b) :: R) L A (up σ d v) H Q) : AWD2 P n ops M N0 (⟨some d, op, ty, pos, af, g⟩ :: l) i R L A σ H Q := by
 obtain ⟨es, σ', H', h1, h2, h3⟩ := hr
 exact ⟨_, σ', H', .read (z0x hg) h hb hL (by rw [z5k (d := some d) hd]; exact h1), zbm h2, h3⟩
theorem D2.load1' {r : List Value} (hg : gok n ops σ g true) (hd : (Nat.blt d n && ook n x) = true) (ha : z4m P t = some false) (hp : Pt H (oval σ x) (v :: r)) (hL : ∀ q ∈ L, (M.getD i 0).testBit q.1 = true \/ q.2.2.get (z88 (oval σ x)) = q.2.1.get (z88 (oval σ x)))
  (hr : AWD2 P n ops M N0 l (i + 1) ((i, z88 (oval σ x)) :: R) L A (up σ d v) H Q) : AWD2 P n ops M N0 (⟨some d, .load t x, ty, pos, af, g⟩ :: l) i R L A σ H Q := by
 simp only [Bool.and_eq_true] at hd
 exact D2.read hg hd.1 (zfk ha (z2t hd.2) hp) (z7i hd.2 hp) hL hr
theorem D2.loadA' {N : Nat} (hg : gok n ops σ g true) (hd : (Nat.blt d n && ook n x) = true) (ha : z4m P t = some true) (hz : szT P t = some N) (hp : Pt H (oval σ x) cs) (hN : cs.length = N) (hL : ∀ q ∈ L, (M.getD i 0).testBit q.1 = true \/ q.2.2.get (z88 (oval σ x)) = q.2.1.get (z88 (oval σ x)))
  (hr : AWD2 P n ops M N0 l (i + 1) ((i, z88 (oval σ x)) :: R) L A (up σ d (.agg cs.toArray)) H Q) : AWD2 P n ops M N0 (⟨some d, .load t x, ty, pos, af, g⟩ :: l) i R L A σ H Q := by
 simp only [Bool.and_eq_true] at hd
 exact D2.read hg hd.1 (zfl ha hz (z2t hd.2) hp hN) (z7i hd.2 hp) hL hr
theorem D2.lo (hg : gok n ops σ g true) (hd : dok n dd = true) (hs : Loud P n ⟨dd, op, ty, pos, af, g⟩ σ H Φ) (hR : ∀ v H1, Φ v H1 -> ∀ r ∈ R, (M.getD i 0).testBit r.1 = true \/ H1.get r.2 = H.get r.2) (hL : ∀ q ∈ L, (M.getD i 0).testBit q.1 = true)
  (hA : ∀ v H1, Φ v H1 -> ∀ r ∈ A, (M.getD i 0).testBit r.1 = true \/ H1.get r.2 = H.get r.2) (hr : ∀ v H1, Φ v H1 -> AWD2 P n ops M N0 l (i + 1) R ((i, H, H1) :: L) A (upo σ dd v) H1 Q) : AWD2 P n ops M N0 (⟨dd, op, ty, pos, af, g⟩ :: l) i R L A σ H Q := by
 obtain ⟨v, H1, h1, h2⟩ := hs
 obtain ⟨es, σ', H', k1, k2, k3⟩ := hr v H1 h2
 exact ⟨_, σ', H', .loud (z0x hg) h1 (hR v H1 h2) hL (hA v H1 h2) (by rw [z5k hd]; exact k1), zbm k2, k3⟩
def AlOk (P : Program) (n : Nat) (o : Oper) (σ : Nat -> Value) (G : GM) (val : Nat -> Value) (pc : Nat -> Pc) : Prop :=
 ∃ blk mk, z4j P (toL n σ) o = some (blk, mk) /\ ∀ b, mk.val b = val b /\ (pc b).foot = [b] /\ ∀ M : GM, M b = some blk -> (pc b).ok G M
theorem zi5 (H : AH) (b : Nat) (x : Option ABlk) (hb : b < H.next) : ∃ H1 : AH, (∀ c, H1.get c = Am.upd H.get b x c) /\ H1.next = H.next := by
 refine ⟨⟨H.next, (List.range H.next).map fun j => Am.upd H.get b x (H.next - 1 - j)⟩, fun c => ?_, rfl⟩
 rw [AH.get_def]
 by_cases hc : c < H.next
 ·rw [if_pos hc]
  have : H.next - 1 - c < H.next := by omega
  simp only [zAb, List.getElem?_map, List.getElem?_range this, Option.map_some, Option.getD_some]
  congr 1; omega
 ·rw [if_neg hc, z0m _ _ (by omega), AH.get_def, if_neg hc]
theorem Ow.newAt {b : Nat} {k : ABlk} (h : Ow G H Ls) (hb : H.get b = none) (hs : ∀ c, c ≠ b -> H1.get c = H.get c) (p : Pc) (hf : p.foot = [b]) (hk : p.ok G H1.get) : Ow G H1 (p :: Ls) /\ Same G Ls H H1 := by
 have hv : ∀ c, Vis G Ls c -> c ≠ b := fun c hc e => by subst e; obtain ⟨k, hk⟩ := h.vis hc; rw [hb] at hk; cases hk
 have hsm : Same G Ls H H1 := fun c hc => hs c (hv c hc)
 refine ⟨⟨fun c k hc => ?_, fun i q hi => ?_, fun i j q1 q2 hij hi hj c hc => ?_, fun i q hi c hc => ?_⟩, hsm⟩
 ·rw [hsm c (.inl ⟨k, hc⟩)]; exact h.fro c k hc
 ·cases i with
  | zero => simp at hi; subst hi; exact hk
  | succ i => simp at hi; exact q.loc (fun c hc => hsm c (.inr ⟨i, q, hi, hc⟩)) (h.ok i q hi)
 ·cases i with
  | zero =>
   simp at hi; subst hi
   rw [hf] at hc; simp at hc; subst hc
   cases j with
   | zero => exact absurd rfl hij
   | succ j => exact fun hc => hv c (.inr ⟨j, q2, by simpa using hj, hc⟩) rfl
  | succ i =>
   cases j with
   | zero => simp at hj; subst hj; rw [hf]; simp; exact hv c (.inr ⟨i, q1, by simpa using hi, hc⟩)
   | succ j => exact h.dis i j q1 q2 (by omega) (by simpa using hi) (by simpa using hj) c hc
 ·cases i with
  | zero =>
   simp at hi; subst hi
   rw [hf] at hc; simp at hc; subst hc
   cases hg : G c with
   | none => rfl
   | some k => exact absurd rfl (hv c (.inl ⟨k, hg⟩))
  | succ i => exact h.apart i q (by simpa using hi) c hc
theorem D2.alloc {val : Nat -> Value} {pc : Nat -> Pc} (hg : gok n ops σ g true) (hd : Nat.blt d n = true) (hs : AlOk P n ⟨some d, op, ty, pos, af, g⟩ σ G val pc) (hF : Free N0 m i H) (hi : Nat.blt i m = true) (O : Ow G H Ls)
  (hr : ∀ b H1, Ow G H1 (pc b :: Ls) /\ Same G Ls H H1 /\ Free N0 m (i + 1) H1 -> AWD2 P n ops M N0 l (i + 1) R [] ((i, b) :: A) (up σ d (val b)) H1 Q) : AWD2 P n ops M N0 (⟨some d, op, ty, pos, af, g⟩ :: l) i R [] A σ H Q := by
 obtain ⟨blk, mk, h1, h2⟩ := hs
 have hi' := blt_iff.1 hi
 obtain ⟨f1, f2⟩ := hF i (Nat.le_refl _) hi'
 obtain ⟨H1, h3, h4⟩ := zi5 H (N0 + i) (some blk) f2
 obtain ⟨k1, k2, k3⟩ := h2 (N0 + i)
 obtain ⟨o1, o2⟩ := O.newAt (k := blk) f1 (fun c hc => by rw [h3, z0m _ _ hc]) (pc (N0 + i)) k2 (k3 _ (by rw [h3]; exact z1s _ _ _))
 obtain ⟨es, σ', H', q1, q2, q3⟩ := hr (N0 + i) H1 ⟨o1, o2, fun k hk hkm => by
  obtain ⟨g1, g2⟩ := hF k (by omega) hkm
  exact ⟨by rw [h3, z0m _ _ (by omega)]; exact g1, by rw [h4]; exact g2⟩⟩
 refine ⟨_, σ', H', .alloc (z0x hg) h1 f1 h3 h4 (by rw [z5k (d := some d) hd, k1]; exact q1), zbm (o := ⟨some d, op, ty, pos, af, g⟩) (v := val (N0 + i)) q2, q3⟩
variable {α : Type} {r : RT α}
theorem Free.up {i j : Nat} (h : Nat.ble i j = true) (F : Free N0 m i H) : Free N0 m j H := fun k hk hkm => F k (by have := Nat.le_of_ble_eq_true h; omega) hkm
theorem zbn {place : Nat -> Option (Nat × Nat)} {cs : List Value} {i off sz : Nat} {v : Value} {rest : List (Nat × Value)} (hp : place i = some (off, sz)) (hv : v.cells.toList.length = sz) (hf : off + sz <= cs.length) :
  Instr.fill place cs.toArray ((i, v) :: rest) = Instr.fill place (z25 cs off v.cells.toList).toArray rest := by
 have hv' : v.cells.size = sz := by simpa using hv
 have := zfn (place := place) (i := i) (off := off) (cells := cs.toArray) (rest := rest) (v := v) (by rw [hp, hv']) (by simp; omega)
 simpa using this
theorem Al.alloc {z : Value} {x0 : α} (hz : (P.info? e).bind (·.zero) = some z) (hs : z.cells.all z1u = true) (hr : ∀ G, r.rep G z.cells.toList x0) : AlOk P n ⟨some d, .alloc e, ty, pos, af, g⟩ σ G (fun b => .pointer (some ⟨b, 0, none⟩)) (fun b => eVar b e r x0) := by
 obtain ⟨inf, hi, hz⟩ := zAc hz
 exact ⟨⟨z.cells.toList, e, 1, true⟩, .ptr, by simp only [z4j, hi, hz, Option.bind_some, hs, if_true], fun b => ⟨rfl, rfl, fun M hM => ⟨_, hM, hr _⟩⟩⟩
theorem Al.box {x0 : α} (hd : ook n x = true) (hx : oval σ x = v) (hr : r.rep G v.cells.toList x0) : AlOk P n ⟨some d, .box e x, ty, pos, af, g⟩ σ G (fun b => .pointer (some ⟨b, 0, none⟩)) (fun b => eVar b e r x0) :=
 ⟨⟨v.cells.toList, e, 1, true⟩, .ptr, by simp [z4j, oo hd hx], fun b => ⟨rfl, rfl, fun M hM => ⟨_, hM, hr⟩⟩⟩
theorem Al.buildSlice {N : Nat} {ps : Array (Nat × Operand)} {vs : List Value} {xs : List α} {z : Value} (he : z8u P t = some e) (hz : (P.info? e).bind (·.zero) = some z) (hsz : szT P e = some r.sz) (hsc : (z.cells.all z1u && (z.cells.size != 0) && decide (N * r.sz <= 2 ^ 24)) = true)
  (ho : (ps.toList.all fun p => ook n p.2) = true) (hps : ps.toList.map (fun p => (p.1, oval σ p.2)) = (vs.zipIdx.map fun p => (p.2, p.1))) (hN : vs.length = N) (hr : All2 (fun v x => r.rep G v.cells.toList x) vs xs) :
  AlOk P n ⟨some d, .buildSlice t N ps, ty, pos, af, g⟩ σ G (fun b => .slice (some ⟨b, 0, some 0⟩) N N) (fun b => eSl (.slice (some ⟨b, 0, some 0⟩) N N) e r xs) := by
 obtain ⟨inf, hi, hsz⟩ := z58 hsz
 simp only [hi, Option.bind_some] at hz
 have hcs : All2 (r.rep G) (vs.map fun v => v.cells.toList) xs := by
  clear hps hN
  induction hr with
  | nil => exact .nil
  | cons h1 _ ih => exact .cons h1 ih
 have hvs : ∀ v ∈ vs, v.cells.size = r.sz := fun v hv => by
  have := hcs.each v.cells.toList (List.mem_map.2 ⟨v, hv, rfl⟩)
  simpa using this
 have hf : Instr.fill (fun j => some (j * r.sz, r.sz)) (z3f z.cells (N * r.sz)).toArray (vs.zipIdx.map fun p => (p.2, p.1)) = some (vs.map fun v => v.cells.toList).flatten.toArray := by
  have := zf3 (sz := r.sz) vs 0 (z3f z.cells (N * r.sz)) [] rfl (by simp) hvs (by simp [z8e, hN]) (by simp)
  simpa using this
 refine ⟨⟨(vs.map fun v => v.cells.toList).flatten, e, 1, true⟩, .sl N N (some 0), ?_, fun b => ⟨rfl, rfl, fun M hM => ⟨_, .inr ⟨b, some 0, N, [], 1, by simp [hN], by simpa using hM, ?_, by simp [hN], .inr rfl⟩, hcs⟩⟩⟩
 ·simp only [z4j, z02 he, hi, hz, Option.bind_some, hsz, hsc, if_true, zac ho hps, hf, Option.map_some]
 ·rw [List.append_nil, hcs.flatLen, <- hr.length, hN]
def RR (P : Program) (n : Nat) (σ : Nat -> Value) (H : AH) (r : ResultVar) (v : Value) : Prop := zap P (toL n σ) H r = some v
theorem z07 {t : Tmp} (ht : Nat.blt t n = true) (hv : σ t = v) : RR P n σ H (.tmp t) v := by
 unfold RR zap
 simp [zAb, ze0 (blt_iff.1 ht), hv]
theorem z6t {a : Tmp} {t : TypeId} {p : Value} {N : Nat} (ha : Nat.blt a n = true) (hg : z4m P t = some true) (hz : szT P t = some N) (hp : σ a = p) (h : PtG H.get p cs) (hN : cs.length = N) : RR P n σ H (.cell a t) (.agg (List.toArray cs)) := by
 obtain ⟨b, off, k, rfl, h2, h3, h4⟩ := h
 obtain ⟨inf, hi, rfl⟩ := z58 hz
 rw [hN] at h3 h4
 unfold RR zap
 simp [zAb, ze0 (blt_iff.1 ha), hp, zjd, h2, hg, hi, h3, h4]
theorem zp2 {fn : Func} {R : Value -> AH -> Prop} (hr : fn.results.toList = []) (h : R (.tuple #[]) H) : retQ P fn n R .ret σ H := ⟨.tuple #[], by simp [aret, hr, z78], h⟩
theorem zop {fn : Func} {R : Value -> AH -> Prop} {r1 : ResultVar} {v1 : Value} (hr : fn.results.toList = [r1]) (h1 : RR P n σ H r1 v1) (h : R v1 H) : retQ P fn n R .ret σ H := ⟨v1, by unfold RR at h1; simp [aret, hr, z78, h1], h⟩
theorem zoq {fn : Func} {R : Value -> AH -> Prop} {r1 r2 : ResultVar} {v1 v2 : Value} (hr : fn.results.toList = [r1, r2]) (h1 : RR P n σ H r1 v1) (h2 : RR P n σ H r2 v2) (h : R (.tuple #[v1, v2]) H) : retQ P fn n R .ret σ H :=
 ⟨_, by unfold RR at h1 h2; simp [aret, hr, z78, h1, h2], h⟩
theorem zp3 {fn : Func} {R : Value -> AH -> Prop} {r1 r2 r3 : ResultVar} {v1 v2 v3 : Value} (hr : fn.results.toList = [r1, r2, r3]) (h1 : RR P n σ H r1 v1) (h2 : RR P n σ H r2 v2) (h3 : RR P n σ H r3 v3) (h : R (.tuple #[v1, v2, v3]) H) : retQ P fn n R .ret σ H :=
 ⟨_, by unfold RR at h1 h2 h3; simp [aret, hr, z78, h1, h2, h3], h⟩
theorem Ow.reval {v v' : Value} {j : Nat} {xs : List α} (O : Ow G H Ls) (hj : Ls[j]? = some (eSl v e r xs)) (h : v' = v) : Ow G H (Ls.set j (eSl v' e r xs)) := by
 subst h
 exact O.put hj _ (fun b hb => .inl hb) (O.ok j _ hj) (fun b k hk _ => hk)
theorem Ow.lend {v : Value} {xs : List α} {j : Nat} (O : Ow G H Ls) (hj : Ls[j]? = some (eSl v e r xs)) : ∃ G1, G.le G1 /\ Ow G1 H (Ls.eraseIdx j) /\ (rSl r).rep G1 [v] xs ∧
  ∀ G2 H1, G1.le G2 -> Ow G2 H1 ((Ls.eraseIdx j).map fun p => p.pin H.get) -> ∃ G3, Ow G3 H1 Ls /\ G.le G3 /\ Same G Ls H H1 := by
 classical
 obtain ⟨G1, h1, h2, h3⟩ := O.freeze hj
 obtain ⟨G1', h1', h2', h3'⟩ := O.frzSl hj
 have hrep : (rSl r).rep G1 [v] xs := by
  obtain ⟨es, h4, h5⟩ := O.ok j _ hj
  refine ⟨v, es, rfl, SlO.slG (e := e) ?_ h5.each, h5.mono fun _ _ => r.mono h2⟩
  rcases h4 with h4 | ⟨b, tg, cap, rest, sz', rfl, hb, h⟩
  ·exact .inl h4
  ·exact .inr ⟨b, tg, cap, rest, sz', rfl, (h3 b (by simp [eSl, z6d])).trans hb, h⟩
 refine ⟨G1, h2, h1, hrep, fun G2 H1 hle O2 => ?_⟩
 let F := (eSl v e r xs).foot
 have hFG : ∀ b k, G b = some k -> b ∉ F := fun b k hb hF => by have := O.apart j _ hj b hF; rw [hb] at this; cases this
 have hsF : ∀ b ∈ F, H1.get b = H.get b := fun b hb => by
  obtain ⟨k, hk⟩ := (eSl v e r xs).bnd (O.ok j _ hj) b hb
  rw [hk]; exact O2.fro b k (hle b k (by rw [h3 b hb]; exact hk))
 have hL : ∀ i p, i ≠ j -> Ls[i]? = some p -> (∀ b ∈ p.foot, H1.get b = H.get b) /\ ∀ b ∈ p.foot, G2 b = none := fun i p hij hi => by
  have : ((Ls.eraseIdx j).map fun p => p.pin H.get)[if i < j then i else i - 1]? = some (p.pin H.get) := by
   rw [List.getElem?_map, List.getElem?_eraseIdx]
   by_cases hlt : i < j
   ·simp [hlt, hi]
   ·have h1 : ¬ (i - 1 < j) := by omega
    simp only [hlt, if_false, h1]
    rw [show i - 1 + 1 = i by omega, hi]; rfl
  exact ⟨fun b hb => (O2.ok _ _ this b hb).1, fun b hb => O2.apart _ _ this b hb⟩
 have hG3 : G.le fun b => if b ∈ F then none else G2 b := fun b k hb => by
  simp only [if_neg (hFG b k hb)]; exact hle b k (h2 b k hb)
 refine ⟨fun b => if b ∈ F then none else G2 b, ⟨fun b k hb => ?_, fun i p hi => ?_, O.dis, fun i p hi b hb => ?_⟩, hG3, fun b hb => ?_⟩
 ·by_cases hF : b ∈ F
  ·simp [hF] at hb
  ·exact O2.fro b k (by simpa [hF] using hb)
 ·by_cases hij : i = j
  ·subst hij
   rw [hj] at hi; cases hi
   exact (eSl v e r xs).loc hsF ((eSl v e r xs).mono hG3 (O.ok i _ hj))
  ·exact p.loc (hL i p hij hi).1 (p.mono hG3 (O.ok i p hi))
 ·by_cases hij : i = j
  ·subst hij; rw [hj] at hi; cases hi; simp [F, hb]
  ·by_cases hF : b ∈ F
   ·simp [hF]
   ·simp [hF, (hL i p hij hi).2 b hb]
 ·rcases hb with ⟨k, hk⟩ | ⟨i, p, hi, hb⟩
  ·rw [O.fro b k hk]; exact O2.fro b k (hle b k (h2 b k hk))
  ·by_cases hij : i = j
   ·subst hij; rw [hj] at hi; cases hi; exact hsF b hb
   ·exact (hL i p hij hi).1 b hb
theorem Lo.callB {f : FuncId} {args : Array Operand} {ats : Array TypeId} {al : List Value} {fn : Func} {j : Nat} {xs : List α} {Ψ : Value -> Prop} (hj : Ls[j]? = some (eSl v e r xs)) (hd : args.toList.all (ook n) = true) (hf : P.funcs[f]? = some fn) (hnm : (fn.name == "runtime.NumGoroutine" || fn.body.isNone) = false)
  (ha : args.toList.map (oval σ) = al) (O : Ow G H Ls) (hc : ∀ G1 L, G.le G1 -> Ow G1 H L -> (rSl r).rep G1 [v] xs -> CR P f al G1 H L fun v _ _ => Ψ v) :
  Loud P n ⟨some d, .call ⟨.value (.func f), args, ats⟩, ty, pos, af, g⟩ σ H fun v H1 => ∃ G', Ow G' H1 Ls /\ G.le G' /\ Same G Ls H H1 /\ Ψ v := by
 obtain ⟨G1, h1, h2, h3, h4⟩ := O.lend hj
 have hp : Ow G1 H ((Ls.eraseIdx j).map fun p => p.pin H.get) := Ow.pin (ps := []) h2
 obtain ⟨v', H1, G2, k1, k2, k3, k4⟩ := hc G1 _ h1 hp h3
 obtain ⟨G3, q1, q2, q3⟩ := h4 G2 H1 k3 k2
 exact ⟨v', H1, zb5 (fo := .func f) hd hf hnm ha k1, G3, q1, q2, q3, k4⟩
end
end
end Go.Am
/- Slices of slices that are written: a piece with all its rows; a row may be taken out and laid back. -/
namespace Go.Am
open Go
noncomputable section
def zaq (ws : List Value) (hs : List Nat) : List Nat := ((List.range ws.length).filter fun i => !hs.contains i).flatMap fun i => z6d (ws.getD i .nilFunc)
theorem mem_rowFoot {ws : List Value} {hs : List Nat} {b : Nat} : b ∈ zaq ws hs ↔ ∃ i w, i ∉ hs /\ ws[i]? = some w /\ b ∈ z6d w := by
 unfold zaq
 simp only [List.mem_flatMap, List.mem_filter, List.mem_range]
 constructor
 ·rintro ⟨i, ⟨h1, h2⟩, h3⟩
  refine ⟨i, ws[i], by simpa using h2, zAh h1, ?_⟩
  simpa [zAb, h1] using h3
 ·rintro ⟨i, w, h1, h2, h3⟩
  have hl := (zAi h2).1
  exact ⟨i, ⟨hl, by simpa using h1⟩, by simpa [zAb, h2] using h3⟩
structure RowsOk {α : Type} (v : Value) (e : TypeId) (ws : List Value) (hs : List Nat) (e2 : TypeId) (r : RT α) (xss : List (List α)) (G M : GM) : Prop where
 out : SlO e 1 M v (ws.map fun w => [w])
 one : ∀ w ∈ ws, okCells [w] = true
 len : ws.length = xss.length
 row : ∀ i w, i ∉ hs -> ws[i]? = some w -> ∃ es xs, xss[i]? = some xs /\ SlO e2 r.sz M w es /\ All2 (r.rep G) es xs
 dis : ∀ i j w u, i ≠ j -> i ∉ hs -> j ∉ hs -> ws[i]? = some w -> ws[j]? = some u -> ∀ b ∈ z6d w, b ∉ z6d u
 off : ∀ i w, i ∉ hs -> ws[i]? = some w -> ∀ b ∈ z6d w, b ∉ z6d v
theorem SlO.loc {e : TypeId} {sz : Nat} {M M' : GM} {v : Value} {es : List (List Value)} (hl : ∀ b ∈ z6d v, M' b = M b) (h : SlO e sz M v es) : SlO e sz M' v es := by
 rcases h with h1 | ⟨b, tg, cap, rest, sz', rfl, hb, h⟩
 ·exact .inl h1
 ·exact .inr ⟨b, tg, cap, rest, sz', rfl, by rw [hl b (by simp [z6d]), hb], h⟩
theorem SlO.bnd {e : TypeId} {sz : Nat} {M : GM} {v : Value} {es : List (List Value)} (h : SlO e sz M v es) : ∀ b ∈ z6d v, ∃ k, M b = some k := fun c hc => by
 rcases h with ⟨rfl, _⟩ | ⟨b, tg, cap, rest, sz', rfl, hb, h⟩
 ·simp [z6d] at hc
 ·simp [z6d] at hc; subst hc; exact ⟨_, hb⟩
def z3u {α : Type} (v : Value) (e : TypeId) (ws : List Value) (hs : List Nat) (e2 : TypeId) (r : RT α) (xss : List (List α)) : Pc :=
 ⟨z6d v ++ zaq ws hs, RowsOk v e ws hs e2 r xss,
  fun hG h => ⟨h.out, h.one, h.len, fun i w hi hw => by obtain ⟨es, xs, h1, h2, h3⟩ := h.row i w hi hw; exact ⟨es, xs, h1, h2, h3.mono fun _ _ => r.mono hG⟩, h.dis, h.off⟩,
  fun hl h => ⟨h.out.loc fun b hb => hl b (List.mem_append_left _ hb), h.one, h.len, fun i w hi hw => by
   obtain ⟨es, xs, h1, h2, h3⟩ := h.row i w hi hw
   exact ⟨es, xs, h1, h2.loc fun b hb => hl b (List.mem_append_right _ (mem_rowFoot.2 ⟨i, w, hi, hw, hb⟩)), h3⟩, h.dis, h.off⟩,
  fun h b hb => by
   rcases List.mem_append.1 hb with hb | hb
   ·exact h.out.bnd b hb
   ·obtain ⟨i, w, hi, hw, hb⟩ := mem_rowFoot.1 hb
    obtain ⟨es, xs, h1, h2, h3⟩ := h.row i w hi hw
    exact h2.bnd b hb⟩
section
variable {α : Type} {r : RT α} {G : GM} {H H1 : AH} {L : List Pc} {v w w' u : Value} {e e2 : TypeId} {ws : List Value} {hs : List Nat} {xss : List (List α)} {xs : List α} {i j k : Nat}
theorem Ow.rowsOk (O : Ow G H L) (hj : L[j]? = some (z3u v e ws hs e2 r xss)) : RowsOk v e ws hs e2 r xss G H.get := O.ok j _ hj
theorem Ow.rowsLen (O : Ow G H L) (hj : L[j]? = some (z3u v e ws hs e2 r xss)) : zhs v xss.length := by
 have h := O.rowsOk hj
 have hl : (ws.map fun w => [w]).length = xss.length := by rw [List.length_map, h.len]
 have := (h.out.slG (sz := 1) (by simp)).isSl
 rw [hl] at this; exact this
theorem Ow.rowVal (O : Ow G H L) (hj : L[j]? = some (z3u v e ws hs e2 r xss)) (hi : xss[i]? = some xs) : ∃ w, ws[i]? = some w /\ PtG H.get (z1k v (i * 1)) [w] /\ okCells [w] = true := by
 have h := O.rowsOk hj
 have hl : i < ws.length := by rw [h.len]; exact (zAi hi).1
 refine ⟨ws[i], zAh hl, (h.out.slG (sz := 1) (by simp)).idx (by simp [hl]), h.one _ (List.getElem_mem hl)⟩
theorem zo7 {l : List Value} {i : Nat} {a b : Value} (h : l[i]? = some a) : (l.set i b)[i]? = some b := by
 have := (zAi h).1
 simp [this]
theorem Ow.footRows (O : Ow G H L) (hj : L[j]? = some (z3u v e ws hs e2 r xss)) (hi : xss[i]? = some xs) {k : Nat} : z88 (z1k v k) ∈ (z3u v e ws hs e2 r xss).foot := by
 have h := O.rowsOk hj
 have hl := (zAi hi).1
 refine List.mem_append_left _ ?_
 rcases h.out with ⟨rfl, hn⟩ | ⟨b, tg, cap, rest, sz', rfl, _⟩
 ·simp at hn; have := h.len; rw [hn] at this; simp at this; omega
 ·simp [z1k, z88, z6d]
theorem Ow.takeRow (O : Ow G H L) (hj : L[j]? = some (z3u v e ws hs e2 r xss)) (hw : ws[i]? = some w) (hi : xss[i]? = some xs) (hh : i ∉ hs) : Ow G H (eSl w e2 r xs :: L.set j (z3u v e ws (i :: hs) e2 r xss)) := by
 have h := O.rowsOk hj
 have hjl : j < L.length := (zAi hj).1
 have hfr : ∀ b, b ∈ z6d w -> b ∈ (z3u v e ws hs e2 r xss).foot := fun b hb => List.mem_append_right _ (mem_rowFoot.2 ⟨i, w, hh, hw, hb⟩)
 have hsub : ∀ b, b ∈ (z3u v e ws (i :: hs) e2 r xss).foot -> b ∈ (z3u v e ws hs e2 r xss).foot /\ b ∉ z6d w := fun b hb => by
  rcases List.mem_append.1 hb with hb | hb
  ·exact ⟨List.mem_append_left _ hb, fun hc => h.off i w hh hw b hc hb⟩
  ·obtain ⟨m, u, hm, hu, hb⟩ := mem_rowFoot.1 hb
   simp only [List.mem_cons, not_or] at hm
   exact ⟨List.mem_append_right _ (mem_rowFoot.2 ⟨m, u, hm.2, hu, hb⟩), fun hc => h.dis m i u w hm.1 hm.2 hh hu hw b hb hc⟩
 have hset : ∀ (m : Nat) (x : Pc), (L.set j (z3u v e ws (i :: hs) e2 r xss))[m]? = some x -> (m = j /\ x = z3u v e ws (i :: hs) e2 r xss) \/ (m ≠ j /\ L[m]? = some x) := fun m x hx => by
  rw [List.getElem?_set] at hx
  by_cases hm : j = m
  ·subst hm; simp [hjl] at hx; exact .inl ⟨rfl, hx.symm⟩
  ·rw [if_neg hm] at hx; exact .inr ⟨fun e => hm e.symm, hx⟩
 refine ⟨O.fro, fun m x hx => ?_, fun m m' x x' hmm hx hx' b hb => ?_, fun m x hx b hb => ?_⟩
 ·cases m with
  | zero =>
   simp at hx; subst hx
   obtain ⟨es, xs', h1, h2, h3⟩ := h.row i w hh hw
   rw [hi] at h1; cases h1
   exact ⟨es, h2, h3⟩
  | succ m =>
   simp only [List.getElem?_cons_succ] at hx
   rcases hset m x hx with ⟨rfl, rfl⟩ | ⟨_, hx⟩
   ·exact ⟨h.out, h.one, h.len, fun m u hm hu => h.row m u (fun hc => hm (List.mem_cons_of_mem _ hc)) hu, fun a c w u hac ha hc => h.dis a c w u hac (fun hq => ha (List.mem_cons_of_mem _ hq)) (fun hq => hc (List.mem_cons_of_mem _ hq)), fun m u hm => h.off m u fun hc => hm (List.mem_cons_of_mem _ hc)⟩
   ·exact O.ok m x hx
 ·cases m with
  | zero =>
   simp at hx; subst hx
   cases m' with
   | zero => exact absurd rfl hmm
   | succ m' =>
    simp only [List.getElem?_cons_succ] at hx'
    rcases hset m' x' hx' with ⟨rfl, rfl⟩ | ⟨hm, hx'⟩
    ·exact fun hc => (hsub b hc).2 hb
    ·exact fun hc => O.dis j m' _ x' (fun e => hm e.symm) hj hx' b (hfr b hb) hc
  | succ m =>
   simp only [List.getElem?_cons_succ] at hx
   cases m' with
   | zero =>
    simp at hx'; subst hx'
    intro hc
    rcases hset m x hx with ⟨rfl, rfl⟩ | ⟨hm, hx2⟩
    ·exact (hsub b hb).2 hc
    ·exact O.dis m j x _ hm hx2 hj b hb (hfr b hc)
   | succ m' =>
    simp only [List.getElem?_cons_succ] at hx'
    rcases hset m x hx with ⟨rfl, rfl⟩ | ⟨hm, hx2⟩
    ·rcases hset m' x' hx' with ⟨rfl, rfl⟩ | ⟨hm', hx'⟩
     ·exact absurd rfl hmm
     ·exact O.dis _ m' _ x' (fun e => hm' e.symm) hj hx' b (hsub b hb).1
    ·rcases hset m' x' hx' with ⟨rfl, rfl⟩ | ⟨hm', hx3⟩
     ·exact fun hc => O.dis m _ x _ hm hx2 hj b hb (hsub b hc).1
     ·exact O.dis m m' x x' (by omega) hx2 hx3 b hb
 ·cases m with
  | zero => simp at hx; subst hx; exact O.apart j _ hj b (hfr b hb)
  | succ m =>
   simp only [List.getElem?_cons_succ] at hx
   rcases hset m x hx with ⟨rfl, rfl⟩ | ⟨_, hx⟩
   ·exact O.apart _ _ hj b (hsub b hb).1
   ·exact O.apart m x hx b hb
theorem Ow.putRow (O : Ow G H (eSl w e2 r xs :: L)) (hj : L[j]? = some (z3u v e ws [i] e2 r xss)) (hw : ws[i]? = some w) : Ow G H (L.set j (z3u v e ws [] e2 r (xss.set i xs))) := by
 have hj1 : (eSl w e2 r xs :: L)[j + 1]? = some (z3u v e ws [i] e2 r xss) := by simpa using hj
 have h : RowsOk v e ws [i] e2 r xss G H.get := O.ok (j + 1) _ hj1
 have hjl : j < L.length := (zAi hj).1
 obtain ⟨es, h4, h5⟩ := O.ok 0 _ rfl
 have hil : i < xss.length := by rw [<- h.len]; exact (zAi hw).1
 have hdw : ∀ b ∈ z6d w, b ∉ (z3u v e ws [i] e2 r xss).foot := O.dis 0 (j + 1) _ _ (by omega) rfl hj1
 have hfoot : ∀ b, b ∈ (z3u v e ws [] e2 r (xss.set i xs)).foot -> b ∈ (z3u v e ws [i] e2 r xss).foot \/ b ∈ z6d w := fun b hb => by
  rcases List.mem_append.1 hb with hb | hb
  ·exact .inl (List.mem_append_left _ hb)
  ·obtain ⟨m, u, hm, hu, hb⟩ := mem_rowFoot.1 hb
   by_cases hmi : m = i
   ·subst hmi; rw [hw] at hu; cases hu; exact .inr hb
   ·exact .inl (List.mem_append_right _ (mem_rowFoot.2 ⟨m, u, by simpa using hmi, hu, hb⟩))
 have hset : ∀ (m : Nat) (x : Pc), (L.set j (z3u v e ws [] e2 r (xss.set i xs)))[m]? = some x -> (m = j /\ x = z3u v e ws [] e2 r (xss.set i xs)) \/ (m ≠ j /\ L[m]? = some x) := fun m x hx => by
  rw [List.getElem?_set] at hx
  by_cases hm : j = m
  ·subst hm; simp [hjl] at hx; exact .inl ⟨rfl, hx.symm⟩
  ·rw [if_neg hm] at hx; exact .inr ⟨fun e => hm e.symm, hx⟩
 have hother : ∀ m x, m ≠ j -> L[m]? = some x -> ∀ b ∈ x.foot, b ∉ (z3u v e ws [i] e2 r xss).foot /\ b ∉ z6d w := fun m x hm hx b hb =>
  ⟨O.dis (m + 1) (j + 1) x _ (by omega) (by simpa using hx) hj1 b hb, fun hc => O.dis 0 (m + 1) _ x (by omega) rfl (by simpa using hx) b hc hb⟩
 refine ⟨O.fro, fun m x hx => ?_, fun m m' x x' hmm hx hx' b hb hc => ?_, fun m x hx b hb => ?_⟩
 ·rcases hset m x hx with ⟨rfl, rfl⟩ | ⟨_, hx⟩
  ·refine ⟨h.out, h.one, by simpa using h.len, fun m u _ hu => ?_, fun a c w1 u1 hac _ _ hw1 hu1 b hb hc => ?_, fun m u _ hu b hb hc => ?_⟩
   ·by_cases hmi : m = i
    ·subst hmi; rw [hw] at hu; cases hu
     exact ⟨es, xs, by simp [hil], h4, h5⟩
    ·obtain ⟨es', xs', k1, k2⟩ := h.row m u (by simpa using hmi) hu
     exact ⟨es', xs', by rw [List.getElem?_set, if_neg (fun e => hmi e.symm)]; exact k1, k2⟩
   ·by_cases ha : a = i
    ·subst ha; rw [hw] at hw1; cases hw1
     exact hdw b hb (List.mem_append_right _ (mem_rowFoot.2 ⟨c, u1, by simpa using fun e : c = a => hac e.symm, hu1, hc⟩))
    ·by_cases hci : c = i
     ·subst hci; rw [hw] at hu1; cases hu1
      exact hdw b hc (List.mem_append_right _ (mem_rowFoot.2 ⟨a, w1, by simpa using ha, hw1, hb⟩))
     ·exact h.dis a c w1 u1 hac (by simpa using ha) (by simpa using hci) hw1 hu1 b hb hc
   ·by_cases hmi : m = i
    ·subst hmi; rw [hw] at hu; cases hu
     exact hdw b hb (List.mem_append_left _ hc)
    ·exact h.off m u (by simpa using hmi) hu b hb hc
  ·exact O.ok (m + 1) x (by simpa using hx)
 ·rcases hset m x hx with ⟨rfl, rfl⟩ | ⟨hm, hx2⟩
  ·rcases hset m' x' hx' with ⟨rfl, rfl⟩ | ⟨hm', hx'⟩
   ·exact absurd rfl hmm
   ·obtain ⟨k1, k2⟩ := hother m' x' hm' hx' b hc
    rcases hfoot b hb with h | h
    ·exact k1 h
    ·exact k2 h
  ·rcases hset m' x' hx' with ⟨rfl, rfl⟩ | ⟨hm', hx3⟩
   ·obtain ⟨k1, k2⟩ := hother m x hm hx2 b hb
    rcases hfoot b hc with h | h
    ·exact k1 h
    ·exact k2 h
   ·exact O.dis (m + 1) (m' + 1) x x' (by omega) (by simpa using hx2) (by simpa using hx3) b hb hc
 ·rcases hset m x hx with ⟨rfl, rfl⟩ | ⟨_, hx⟩
  ·rcases hfoot b hb with h | h
   ·exact O.apart _ _ hj1 b h
   ·exact O.apart 0 _ rfl b h
  ·exact O.apart (m + 1) x (by simpa using hx) b hb
theorem Ow.putRow0 (O : Ow G H (eSl w e2 r xs :: L)) (hj : L[j]? = some (z3u v e ws [i] e2 r xss)) (hw : ws[i]? = some w) (hi : xss[i]? = some xs) : Ow G H (L.set j (z3u v e ws [] e2 r xss)) := by
 have := O.putRow hj hw
 have hl := (zAi hi).1
 have he : xss.set i xs = xss := by
  apply List.ext_getElem?
  intro m
  rw [List.getElem?_set]
  by_cases hm : i = m
  ·subst hm; simp [hl, hi.symm]
  ·rw [if_neg hm]
 rw [he] at this; exact this
theorem Ow.frzRows (O : Ow G H L) (hj : L[j]? = some (z3u v e ws [] e2 r xss)) : ∃ G', Ow G' H (L.eraseIdx j) /\ G.le G' /\ (rSl (rSl r)).rep G' [v] xss := by
 obtain ⟨G', h1, h2, h3⟩ := O.freeze hj
 have h := O.rowsOk hj
 refine ⟨G', h1, h2, v, ws.map fun w => [w], rfl, ?_, ?_⟩
 ·exact (h.out.loc fun b hb => h3 b (List.mem_append_left _ hb)).slG (by simp [rSl])
 ·have key : ∀ (ws : List Value) (xss : List (List α)), ws.length = xss.length -> (∀ (i : Nat) (w : Value), ws[i]? = some w -> ∃ xs, xss[i]? = some xs /\ (rSl r).rep G' [w] xs) -> All2 ((rSl r).rep G') (ws.map fun w => [w]) xss := by
   intro ws
   induction ws with
   | nil => intro xss hl _; cases xss with
    | nil => exact .nil
    | cons _ _ => simp at hl
   | cons w ws ih => intro xss hl hr; cases xss with
    | nil => simp at hl
    | cons xs xss =>
     obtain ⟨xs', k1, k2⟩ := hr 0 w rfl
     simp at k1; subst k1
     exact .cons k2 (ih xss (by simpa using hl) fun i u hu => by simpa using hr (i + 1) u (by simpa using hu))
  refine key ws xss h.len fun i w hw => ?_
  obtain ⟨es, xs, k1, k2, k3⟩ := h.row i w (by simp) hw
  exact ⟨xs, k1, w, es, rfl, (k2.loc fun b hb => h3 b (List.mem_append_right _ (mem_rowFoot.2 ⟨i, w, by simp, hw, hb⟩))).slG k3.each, k3.mono fun _ _ => r.mono h2⟩
end
section
variable {P : Program} {n : Nat} {σ : Nat -> Value} {H H1 : AH} {d : Tmp} {dd : Option Tmp} {ty t e e2 : TypeId} {pos : String} {af : Array Edge} {g : Option (Nat × Bool)} {v u w w' : Value} {x y : Operand}
 {G : GM} {L : List Pc} {j i : Nat} {α : Type} {r : RT α} {ws : List Value} {xss : List (List α)}
theorem Lo.makeRows {a c : Int} {k1 k2 : IntKind} {c1 : Nat} (r : RT α) (e2 : TypeId) (hd : (ook n x && ook n y) = true) (he : z8u P t = some e) (hz : (P.info? e).bind (·.zero) = some (.slice none 0 0)) (hsz : szT P e = some 1)
  (hby : ((P.info? e).map (·.bytes)) = some c1) (hb : c1 <= 1048576) (hx : oval σ x = .int k1 a) (hy : oval σ y = .int k2 c) (h : 0 <= a /\ a <= c /\ c <= 16777216) (O : Ow G H L) :
  Loud P n ⟨some d, .makeSlice t x y, ty, pos, af, g⟩ σ H fun v H1 => ∃ ws, Ow G H1 (z3u v e ws [] e2 r (List.replicate a.toNat []) :: L) /\ Same G L H H1 := by
 have hd' := hd
 simp only [Bool.and_eq_true] at hd
 obtain ⟨inf, hi, hsz⟩ := z58 hsz
 simp only [hi, Option.bind_some, Option.map_some, Option.some.injEq] at hz hby
 subst hby
 obtain ⟨h0, h1, h2⟩ := h
 have nb := NewB.push H ⟨z3f (Value.slice none 0 0).cells (c.toNat * inf.size), e, 1, true⟩
 refine ⟨.slice (some ⟨H.next, 0, some 0⟩) a.toNat c.toNat, H.push (some ⟨z3f (Value.slice none 0 0).cells (c.toNat * inf.size), e, 1, true⟩), z3y ?_, List.replicate a.toNat (.slice none 0 0), O.new nb _ ?_ ?_, O.same nb.ext⟩
 ·have hbnd : inf.bytes * c.toNat <= 2 ^ 48 := Nat.le_trans (Nat.mul_le_mul hb (show c.toNat <= 16777216 by omega)) (by decide)
  have hbnd' : (inf.bytes : Int) * c <= 2 ^ 48 := by
   have : ((inf.bytes * c.toNat : Nat) : Int) <= ((2 ^ 48 : Nat) : Int) := Int.ofNat_le.2 hbnd
   rw [Int.natCast_mul, Int.toNat_of_nonneg (by omega)] at this
   simpa using this
  have hdec : ((Value.slice none 0 0).cells.all z1u && ((Value.slice none 0 0).cells.size != 0) && decide (0 <= a /\ a <= c /\ c <= 2 ^ 47 /\ (inf.bytes : Int) * c <= 2 ^ 48)) = true := by
   have : ((Value.slice none 0 0).cells.all z1u && ((Value.slice none 0 0).cells.size != 0)) = true := by simp [Value.cells, z1u]
   rw [this, Bool.true_and, decide_eq_true_iff]
   exact ⟨h0, h1, by omega, hbnd'⟩
  have hal : z4j P (toL n σ) ⟨some d, .makeSlice t x y, ty, pos, af, g⟩ = some (⟨z3f (Value.slice none 0 0).cells (c.toNat * inf.size), e, 1, true⟩, .sl a.toNat c.toNat (some 0)) := by
   simp only [z4j, z02 he, oo hd.1 hx, oo hd.2 hy, hi, hz, Option.bind_some, hdec, if_true]
  simp only [zch, z2b, z86, hal, MK.val]
 ·have : zaq (List.replicate a.toNat (.slice none 0 0)) [] = [] := by
   cases hq : zaq (List.replicate a.toNat (.slice none 0 0)) [] with
   | nil => rfl
   | cons b l =>
    have hb : b ∈ zaq (List.replicate a.toNat (.slice none 0 0)) [] := by rw [hq]; simp
    obtain ⟨i, w, _, hw, hb⟩ := mem_rowFoot.1 hb
    rw [List.getElem?_replicate] at hw
    split at hw
    ·cases hw; simp [z6d] at hb
    ·cases hw
  show z6d _ ++ zaq _ _ = _
  rw [this]; rfl
 ·rw [hsz] at nb ⊢
  have hzc : z3f (Value.slice none 0 0).cells (c.toNat * 1) = (List.replicate c.toNat [Value.slice none 0 0]).flatten := ze7 (z := (Value.slice none 0 0).cells) c.toNat
  rw [hzc] at nb ⊢
  have hw0 : ∀ (i : Nat) (w : Value), (List.replicate a.toNat (Value.slice none 0 0))[i]? = some w -> w = .slice none 0 0 /\ i < a.toNat := fun i w hw => by
   rw [List.getElem?_replicate] at hw
   split at hw
   ·cases hw; exact ⟨rfl, by assumption⟩
   ·cases hw
  refine ⟨.inr ⟨H.next, some 0, c.toNat, (List.replicate (c.toNat - a.toNat) [Value.slice none 0 0]).flatten, 1, by simp, ?_, ?_, by simp; omega, .inr rfl⟩, fun w hw => ?_, by simp, fun i w _ hw => ?_, fun i j w u _ _ _ hw _ b hb => ?_, fun i w _ hw b hb => ?_⟩
  ·rw [nb.get, List.map_replicate, <- List.flatten_append, List.replicate_append_replicate]; congr 5; omega
  ·rw [List.map_replicate, <- List.flatten_append, List.replicate_append_replicate, z4t (sz := 1) (by intro q hq; rw [List.mem_replicate] at hq; rw [hq.2]; rfl)]
   rw [List.length_replicate]; omega
  ·rw [List.mem_replicate] at hw; rw [hw.2]; rfl
  ·obtain ⟨rfl, hl⟩ := hw0 i w hw
   exact ⟨[], [], by simp [hl], .inl ⟨rfl, rfl⟩, .nil⟩
  ·obtain ⟨rfl, hl⟩ := hw0 i w hw; simp [z6d] at hb
  ·obtain ⟨rfl, hl⟩ := hw0 i w hw; simp [z6d] at hb
theorem Lo.storeRow (hj : L[j]? = some (z3u v e ws [i] e2 r xss)) (hi : i < xss.length) (hd : (ook n x && ook n y) = true) (hz : szT P t = some 1) (hx : oval σ x = z1k v (i * 1)) (hy : oval σ y = w') (hok : okCells [w'] = true) (hc : w'.cells.toList = [w']) (O : Ow G H L) :
  Loud P n ⟨dd, .store t x y, ty, pos, af, g⟩ σ H fun u H1 => Ow G H1 (L.set j (z3u v e (ws.set i w') [i] e2 r xss)) /\ (∀ b', b' ∉ z6d v -> H1.get b' = H.get b') := by
 have h := O.rowsOk hj
 have hil : i < ws.length := by rw [h.len]; exact hi
 have hout := h.out
 rcases hout with ⟨rfl, hn⟩ | ⟨b, tg, cap, rest, sz', rfl, hb, hl, hcap, htg⟩
 ·simp at hn; subst hn; simp at hil
 ·have hfl : (ws.map fun w => [w]).flatten.length = ws.length := by rw [z4t (sz := 1) (by simp)]; simp
  have hsz : w'.cells.size = 1 := by have := congrArg List.length hc; simpa using this
  obtain ⟨H1, h3, h4⟩ := z9o (P := P) (dd := dd) (ty := ty) (pos := pos) (af := af) (g := g) (off := 0 + i * 1) hd hz hx hy hb rfl hsz (by rw [hc]; exact hok) (by show _ <= ((ws.map fun w => [w]).flatten ++ rest).length; rw [List.length_append, hfl]; omega)
  have hrows : ∀ (m : Nat) (u : Value), m ≠ i -> ((ws.set i w')[m]? = some u ↔ ws[m]? = some u) := fun m u hm => by rw [List.getElem?_set, if_neg (fun e => hm e.symm)]
  refine ⟨_, H1, h4, O.put hj _ (fun c hc' => .inl ?_) ⟨?_, ?_, by simpa using h.len, fun m u hm hu => ?_, fun a c w1 u1 hac ha hc' hw1 hu1 => ?_, fun m u hm hu => ?_⟩ (fun c k hk hc' => h3.old hk fun e => hc' (List.mem_append_left _ (by simp [z6d, e]))), fun c hc' => h3.other c (by simpa [z6d] using hc')⟩
  ·rcases List.mem_append.1 hc' with q | q
   ·exact List.mem_append_left _ q
   ·obtain ⟨m, u, hm, hu, q⟩ := mem_rowFoot.1 q
    have hm' : m ≠ i := by simpa using hm
    exact List.mem_append_right _ (mem_rowFoot.2 ⟨m, u, hm, (hrows m u hm').1 hu, q⟩)
  ·refine .inr ⟨b, tg, cap, rest, sz', by simp, ?_, ?_, by simpa using hcap, htg⟩
   ·rw [h3.get]
    congr 2
    rw [List.map_set, <- zdd (sz := 1) (by simp) rfl (by simpa using hil), hc]
    simp only [Nat.zero_add, z25]
    rw [List.take_append_of_le_length (by rw [hfl]; omega), List.drop_append_of_le_length (by rw [hfl]; simp; omega)]
    simp [List.append_assoc]
   ·rw [List.length_append] at hl ⊢
    rw [z4t (sz := 1) (fun q hq => by obtain ⟨u, _, rfl⟩ := List.mem_map.1 hq; rfl)]
    rw [hfl] at hl
    simpa using hl
  ·intro q hq
   rcases List.mem_or_eq_of_mem_set hq with q' | q'
   ·exact h.one q q'
   ·rw [q']; exact hok
  ·have hm' : m ≠ i := by simpa using hm
   obtain ⟨es, xs, k1, k2, k3⟩ := h.row m u hm ((hrows m u hm').1 hu)
   refine ⟨es, xs, k1, k2.loc fun c hc' => h3.other c fun e => ?_, k3⟩
   subst e
   exact h.off m u hm ((hrows m u hm').1 hu) _ hc' (by simp [z6d])
  ·have ha' : a ≠ i := by simpa using ha
   have hc'' : c ≠ i := by simpa using hc'
   exact h.dis a c w1 u1 hac ha hc' ((hrows a w1 ha').1 hw1) ((hrows c u1 hc'').1 hu1)
  ·have hm' : m ≠ i := by simpa using hm
   exact h.off m u hm ((hrows m u hm').1 hu)
theorem Ow.cellsSl {v : Value} {xs : List α} (O : Ow G H L) (hj : L[j]? = some (eSl v e r xs)) : okCells [v] = true /\ v.cells.toList = [v] := by
 rcases O.slLen hj with ⟨rfl, _⟩ | ⟨b, off, tg, cap, rfl⟩ <;> exact ⟨rfl, rfl⟩
end
end
end Go.Am
/- Reads in an open region through a pointer that is known only by an equation. -/
namespace Go.Am
open Go
theorem znv {v w : Value} {A B : AH} (h : v = w) (k : B.get (z88 w) = A.get (z88 w)) : B.get (z88 v) = A.get (z88 v) := by subst h; exact k
theorem gap {α : Type} {r : α} {C : Prop} (h : (none : Option α) = some r) : C := by cases h
section
variable {α : Type} {r : RT α} {G : GM} {b N : Nat} {xs : List α}
variable {P : Program} {d : Tmp} {ty t e : TypeId} {pos : String} {af : Array Edge} {g : Option (Nat × Bool)} {x : Operand} {s : List Value}
theorem zp4 (h : At G G (.pointer (some ⟨b, 0, none⟩)) (rArr N r) xs) : (rSl r).rep G [.slice (some ⟨b, 0, some 0⟩) N N] xs := by
 obtain ⟨cs, ⟨b', off, k, h1, h2, h3, h4⟩, hn, es, h5, h6⟩ := h
 cases h1
 have hl := h6.length
 have hf : cs.length = es.length * r.sz := by rw [h5, h6.flatLen, <- hl]
 refine ⟨_, es, rfl, ⟨h6.each, .inr (.inl ⟨b, 0, some 0, N, k, by rw [hl, hn], h2, by rw [<- hf]; exact h3, by rw [<- hf, h4, h5], by omega, .inr rfl⟩)⟩, h6⟩
theorem zmt {sz : Nat} (ha : arrT P t = some (N, e)) (hz : szT P e = some sz) (hx : opnd s x = some (.pointer (some ⟨b, 0, none⟩))) : z2b P s ⟨some d, .slice t x none none none, ty, pos, af, g⟩ = some (.slice (some ⟨b, 0, some 0⟩) N N) := by
 unfold szT at hz
 cases hi : P.info? e with
 | none => rw [hi] at hz; cases hz
 | some inf => simp [z2b, hx, zdq, zhv ha, hi, bnd, zh3]
end
section
variable {P : Program} {n : Nat} {σ : Nat -> Value} {G : GM} {H : AH} {ops : Array Oper} {l : List Oper} {d : Tmp} {ty t u e : TypeId} {pos : String} {af : Array Edge} {g : Option (Nat × Bool)} {x : Operand}
theorem zi6 : ∀ (es : List (List Value)) (xs : List Int), All2 ((rI .u8).rep G) es xs -> z2o es.flatten = some xs
 | _, _, .nil => rfl
 | _, _, .cons h r => by
  cases h
  have := zi6 _ _ r
  simp [z2o, this]
theorem W.bytesStr {Q : (Nat -> Value) -> AH -> Prop} {es : List (List Value)} {xs : List Int} (hg : gok n ops σ g true) (hd : (Nat.blt d n && ook n x) = true) (he : z8u P t = some e) (hi : intT P e = some .u8) (hu : P.underlying u = some .string)
  (hs : SlG H.get 1 (oval σ x) es) (h2 : All2 ((rI .u8).rep G) es xs) (h0 : 0 < xs.length) (hr : AWO P n ops l (up σ d (.string (strOfNums xs))) H Q) : AWO P n ops (⟨some d, .convert t u x, ty, pos, af, g⟩ :: l) σ H Q := by
 simp only [Bool.and_eq_true] at hd
 have hl := h2.length
 obtain ⟨_, ⟨_, h⟩ | ⟨b, off, tg, cap, k, h3, h4, h5, h6, _⟩ | ⟨_, _, _, _, _, h, _⟩⟩ := hs
 ·rw [h] at hl; simp at hl; omega
 ·have hx := z2t (σ := σ) hd.2
  rw [h3] at hx
  rw [Nat.mul_one] at h5 h6
  refine W.read hg hd.1 ?_ ?_ hr
  ·simp [z2b, agen, zdp, Op.operands, hx, closed, z1u]
  ·simp [z86, hx, z7s, z02 he, hu, h4, zad hi, h5, h6, zi6 es xs h2]
 ·rw [h] at hl; simp at hl; omega
end
end Go.Am
/- Parts of texts and of slices. -/
namespace Go.Am
open Go
section
variable {P : Program} {d : Tmp} {ty t e : TypeId} {pos : String} {af : Array Edge} {g : Option (Nat × Bool)} {x xl xh : Operand} {s : List Value} {a r : zAd} {k k2 : IntKind} {l h : Int}
theorem zi7 (q : ssl a l h = some r) : 0 <= l /\ l <= h /\ h <= a.size /\ r = a.extract l.toNat h.toNat := by
 unfold ssl at q
 split at q
 ·rename_i c; cases q; exact ⟨c.1, c.2.1, c.2.2, rfl⟩
 ·cases q
theorem zde {y : Nat} {c : BoundsCode} (h0 : 0 <= l) (h1 : l <= y) : (Instr.sliceBound (.int k l) y c).pureRun P = some l.toNat := by
 unfold Instr.sliceBound
 simp [asIntOf, z0j, z1e, h0, h1]
theorem zl2 (hu : P.underlying t = some .string) (hx : opnd s x = some (.string a)) (hl : opnd s xl = some (.int k l)) (hh : opnd s xh = some (.int k2 h)) (q : ssl a l h = some r) : z2b P s ⟨some d, .slice t x (some xl) (some xh) none, ty, pos, af, g⟩ = some (.string r) := by
 obtain ⟨h1, h2, h3, rfl⟩ := zi7 q
 have hc : ∀ b, closed (.string b) = true := fun _ => rfl
 have hi : ∀ k i, closed (.int k i) = true := fun _ _ => rfl
 have hl' : l <= (h.toNat : Nat) := by omega
 simp [z2b, hx, hl, hh, agen, zdp, Op.operands, hc, hi, execOp, Instr.sliceAt, Instr.slice, Instr.sliceBounds, z0j, z1v, z1e, z12 hu, zde (show 0 <= h by omega) h3, zde h1 hl']
theorem ze9 (hu : P.underlying t = some .string) (hx : opnd s x = some (.string a)) (hl : opnd s xl = some (.int k l)) (q : ssl a l (a.size : Int) = some r) : z2b P s ⟨some d, .slice t x (some xl) none none, ty, pos, af, g⟩ = some (.string r) := by
 obtain ⟨h1, h2, h3, rfl⟩ := zi7 q
 have hc : ∀ b, closed (.string b) = true := fun _ => rfl
 have hi : ∀ k i, closed (.int k i) = true := fun _ _ => rfl
 simp [z2b, hx, hl, agen, zdp, Op.operands, hc, hi, execOp, Instr.sliceAt, Instr.slice, Instr.sliceBounds, z0j, z1v, z1e, z12 hu, zde h1 h2]
theorem zi8 (hu : P.underlying t = some .string) (hx : opnd s x = some (.string a)) (hh : opnd s xh = some (.int k2 h)) (q : ssl a 0 h = some r) : z2b P s ⟨some d, .slice t x none (some xh) none, ty, pos, af, g⟩ = some (.string r) := by
 obtain ⟨h1, h2, h3, rfl⟩ := zi7 q
 have hc : ∀ b, closed (.string b) = true := fun _ => rfl
 have hi : ∀ k i, closed (.int k i) = true := fun _ _ => rfl
 simp [z2b, hx, hh, agen, zdp, Op.operands, hc, hi, execOp, Instr.sliceAt, Instr.slice, Instr.sliceBounds, z0j, z1v, z1e, z12 hu, zde (show 0 <= h by omega) h3]
end
section
variable {α : Type} {R : RT α} {G : GM} {P : Program} {d : Tmp} {ty t e : TypeId} {pos : String} {af : Array Edge} {g : Option (Nat × Bool)} {x xl xh : Operand} {k k2 : IntKind} {v : Value} {xs ys : List α}
theorem zmu {l h : Int} (q : lsl xs l h = some ys) : ∃ l' h' : Nat, l = l' /\ h = h' /\ l' <= h' /\ h' <= xs.length /\ ys = (xs.drop l').take (h' - l') := by
 unfold lsl at q
 split at q
 ·rename_i c; cases q; exact ⟨l.toNat, h.toNat, by omega, by omega, by omega, by omega, rfl⟩
 ·cases q
theorem Ow.pre {H : AH} {L : List Pc} {j : Nat} {h : Int} (O : Ow G H L) (hj : L[j]? = some (eSl v e R xs)) (he : z8u P t = some e) (hz : szT P e = some R.sz) (q : lsl xs 0 h = some ys) : ∃ w, (∀ {s : List Value} {d ty pos af g x xh k2}, opnd s x = some v -> opnd s xh = some (.int k2 h) -> z2b P s ⟨some d, .slice t x none (some xh) none, ty, pos, af, g⟩ = some w) /\ Ow G H (L.set j (eSl w e R ys)) := by
 obtain ⟨l', h', h0, rfl, h1, h2, rfl⟩ := zmu q
 obtain rfl : l' = 0 := by omega
 obtain ⟨inf, hinf, hsz⟩ := z58 hz
 obtain ⟨es, hs, hr⟩ := O.ok j _ hj
 have hlen := hr.length
 have hb0 : ∀ y, bnd none 0 y = some 0 := fun y => by simp [bnd]
 rcases hs with ⟨rfl, rfl⟩ | ⟨b, tg, cap, rest, sz', rfl, hb, hl, hcap, htg⟩
 ·have e0 : xs.length = 0 := by simpa using hlen.symm
  obtain rfl : h' = 0 := by omega
  refine ⟨.slice none 0 0, fun {s d ty pos af g x xh k2} hx hh => ?_, ?_⟩
  ·simp [z2b, hx, zh3, hh, zdq, z02 he, hinf, bnd]
  ·refine O.put hj _ (fun b hb => .inl hb) ⟨[], .inl ⟨rfl, rfl⟩, by simpa using All2.nil⟩ fun b k hk _ => hk
 ·refine ⟨.slice (some ⟨b, 0, tg⟩) h' cap, fun {s d ty pos af g x xh k2} hx hh => ?_, ?_⟩
  ·have hbh : bnd (some (.int k2 (h' : Int))) es.length cap = some h' := by simp [bnd]; omega
   have htt : tg = none \/ tg = some 0 := htg.imp And.left id
   simp only [z2b, hx, zh3, hh, Option.bind_some, Option.map_some, zdq, z02 he, hinf, hbh, hb0]
   rw [if_pos ⟨hcap, htt⟩]
   simp
  ·refine O.put hj _ (fun b hb => .inl hb) ⟨es.take h', .inr ⟨b, tg, cap, (es.drop h').flatten ++ rest, sz', ?_, ?_, ?_, ?_, htg⟩, by simpa using hr.take h'⟩ fun b k hk _ => hk
   ·rw [List.length_take]; congr 1; omega
   ·rw [hb, <- List.append_assoc, <- List.flatten_append, List.take_append_drop]
   ·rw [<- List.append_assoc, <- List.flatten_append, List.take_append_drop]; exact hl
   ·rw [List.length_take]; omega
theorem Ow.view {H : AH} {L : List Pc} {j : Nat} {h : Int} (O : Ow G H L) (hj : L[j]? = some (eSl v e R xs)) (he : z8u P t = some e) (hz : szT P e = some R.sz) (q : lsl xs 0 h = some ys) : ∃ w, (∀ {s : List Value} {d ty pos af g x xh k2}, opnd s x = some v -> opnd s xh = some (.int k2 h) -> z2b P s ⟨some d, .slice t x none (some xh) none, ty, pos, af, g⟩ = some w) /\ zhs w ys.length := by
 obtain ⟨w, h1, h2⟩ := O.pre hj he hz q
 refine ⟨w, h1, ?_⟩
 have hjl : j < L.length := (zAi hj).1
 exact h2.slLen (j := j) (e := e) (r := R) (by rw [List.getElem?_set]; simp [hjl])
end
section
variable {P : Program} {d : Tmp} {ty src dst : TypeId} {pos : String} {af : Array Edge} {g : Option (Nat × Bool)} {x : Operand} {s : List Value} {a : zAd} {k k1 : IntKind} {n : Int}
theorem zlr (h1 : intT P src = some k1) (h2 : P.underlying dst = some .string) (hx : opnd s x = some (.int k n)) : z2b P s ⟨some d, .convert src dst x, ty, pos, af, g⟩ = some (.string (Utf8.encode n)) := by
 have hc : ∀ k n, closed (.int k n) = true := fun _ _ => rfl
 have hs : ∀ b, closed (.string b) = true := fun _ => rfl
 have hq : (convert src dst (.int k n)).pureRun P = some (.string (Utf8.encode n)) := by
  unfold convert
  rw [z0j, z12 (zad h1), Option.bind_some, z0j, z12 h2]
  rfl
 simp [z2b, hx, agen, zdp, Op.operands, hc, hs, execOp, z0j, z1v, z1e, hq]
end
end Go.Am
/- Short rules for printed walks. -/
namespace Go.Am
open Go
noncomputable section
section
variable {P : Program} {n : Nat} {σ : Nat -> Value} {H H1 : AH} {ops : Array Oper} {l : List Oper} {Q : (Nat -> Value) -> AH -> Prop} {d : Tmp} {dd : Option Tmp} {ty t yt e : TypeId} {pos : String} {af : Array Edge} {g : Option (Nat × Bool)} {x y c : Operand}
 {M : List Nat} {N0 m : Nat} {R : z9a} {L : zab} {A : zae} {i : Nat} {op : Op}
theorem W.q1 (v : Value) (h : oval σ x = v) (hr : AWO P n ops l (up σ d v) H Q) (hg : gok n ops σ g true := by rfl) (hd : Nat.blt d n = true := by rfl) (hx : ook n x = true := by rfl) : AWO P n ops (⟨some d, .assign x, ty, pos, af, g⟩ :: l) σ H Q :=
 W.pure hg hd (z4u (oo hx h)) hr
theorem W.q2 (v : Value) (h : oval σ x = v) (hr : AWO P n ops l (up σ d v) H Q) (hg : gok n ops σ g true := by rfl) (hd : Nat.blt d n = true := by rfl) (hx : ook n x = true := by rfl) : AWO P n ops (⟨some d, .move x, ty, pos, af, g⟩ :: l) σ H Q :=
 W.pure hg hd (z4k (oo hx h)) hr
theorem W.q3 (v : Value) {bop : BinOp} {k : IntKind} {a b : Int} (h1 : oval σ x = .int k a) (h2 : oval σ y = .int k b) (hr : AWO P n ops l (up σ d v) H Q) (hg : gok n ops σ g true := by rfl) (hd : Nat.blt d n = true := by rfl) (hx : ook n x = true := by rfl) (hy : ook n y = true := by rfl) (hv : aint bop k a b = some v := by rfl) :
  AWO P n ops (⟨some d, .binOp bop t x y yt, ty, pos, af, g⟩ :: l) σ H Q :=
 W.pure hg hd (zgm (oo hx h1) (oo hy h2) hv) hr
theorem W.q4 (v : Value) (hc : oval σ c = .bool true) (h : oval σ x = v) (hr : AWO P n ops l (up σ d v) H Q) (hg : gok n ops σ g true := by rfl) (hd : Nat.blt d n = true := by rfl) (h1 : ook n c = true := by rfl) (hx : ook n x = true := by rfl) : AWO P n ops (⟨some d, .pick c x y, ty, pos, af, g⟩ :: l) σ H Q :=
 W.pure hg hd (z4i (oo h1 hc) (oo hx h)) hr
theorem W.q5 (v : Value) (hc : oval σ c = .bool false) (h : oval σ y = v) (hr : AWO P n ops l (up σ d v) H Q) (hg : gok n ops σ g true := by rfl) (hd : Nat.blt d n = true := by rfl) (h1 : ook n c = true := by rfl) (hy : ook n y = true := by rfl) : AWO P n ops (⟨some d, .pick c x y, ty, pos, af, g⟩ :: l) σ H Q :=
 W.pure hg hd (z89 (oo h1 hc) (oo hy h)) hr
theorem W.q6 {j : Nat} {want b : Bool} {d' : Tmp} (h1 : (ops[j]?).bind (·.dst) = some d') (h3 : σ d' = .bool b) (hr : AWO P n ops l (upo σ dd undef) H Q) (h2 : Nat.blt d' n = true := by rfl) (h4 : (b == want) = false := by rfl) (hd : dok n dd = true := by rfl) : AWO P n ops (⟨dd, op, ty, pos, af, some (j, want)⟩ :: l) σ H Q :=
 W.skip (gk h1 h2 h3 h4) hd hr
theorem D2.q1 (v : Value) (h : oval σ x = v) (hr : AWD2 P n ops M N0 l (i + 1) R L A (up σ d v) H Q) (hg : gok n ops σ g true := by rfl) (hd : Nat.blt d n = true := by rfl) (hx : ook n x = true := by rfl) : AWD2 P n ops M N0 (⟨some d, .assign x, ty, pos, af, g⟩ :: l) i R L A σ H Q :=
 D2.pure hg hd (z4u (oo hx h)) hr
theorem D2.q2 (v : Value) (h : oval σ x = v) (hr : AWD2 P n ops M N0 l (i + 1) R L A (up σ d v) H Q) (hg : gok n ops σ g true := by rfl) (hd : Nat.blt d n = true := by rfl) (hx : ook n x = true := by rfl) : AWD2 P n ops M N0 (⟨some d, .move x, ty, pos, af, g⟩ :: l) i R L A σ H Q :=
 D2.pure hg hd (z4k (oo hx h)) hr
theorem D2.q3 (v : Value) {bop : BinOp} {k : IntKind} {a b : Int} (h1 : oval σ x = .int k a) (h2 : oval σ y = .int k b) (hr : AWD2 P n ops M N0 l (i + 1) R L A (up σ d v) H Q) (hg : gok n ops σ g true := by rfl) (hd : Nat.blt d n = true := by rfl) (hx : ook n x = true := by rfl) (hy : ook n y = true := by rfl) (hv : aint bop k a b = some v := by rfl) :
  AWD2 P n ops M N0 (⟨some d, .binOp bop t x y yt, ty, pos, af, g⟩ :: l) i R L A σ H Q :=
 D2.pure hg hd (zgm (oo hx h1) (oo hy h2) hv) hr
theorem Lo.cP {G : GM} {Ls : List Pc} {f : FuncId} {args : Array Operand} {ats : Array TypeId} {al : List Value} {fn : Func} {Ψ : Value -> GM -> Prop} (hd : args.toList.all (ook n) = true) (hf : P.funcs[f]? = some fn) (hnm : (fn.name == "runtime.NumGoroutine" || fn.body.isNone) = false)
  (ha : args.toList.map (oval σ) = al) (O : Ow G H ([] ++ Ls)) (hc : ∀ L, Ow G H ([] ++ L) -> CR P f al G H ([] ++ L) fun v G' _ => Ψ v G') :
  Loud P n ⟨some d, .call ⟨.value (.func f), args, ats⟩, ty, pos, af, g⟩ σ H fun v H1 => ∃ G', Ow G' H1 ([] ++ Ls) /\ G.le G' /\ Same G Ls H H1 /\ Ψ v G' := Lo.callP hd hf hnm ha O hc
end
end
end Go.Am
/- What the proofs ask of the program's types. -/
namespace Go.Am.Tryz
open Go Go.Am Go.Proofs
theorem in2 : intT Tryz.prog 2 = some Go.IntKind.i64 := by kernel_rfl
theorem sz3 : szT Tryz.prog 3 = some 1 := by kernel_rfl
theorem ze3 : (Tryz.prog.info? 3).bind (·.zero) = some (Go.Value.int Go.IntKind.i64 0) := by kernel_rfl
theorem ag3 : z4m Tryz.prog 3 = some false := by kernel_rfl
theorem by3 : ((Tryz.prog.info? 3).map (·.bytes)) = some 8 := by kernel_rfl
theorem in3 : intT Tryz.prog 3 = some Go.IntKind.i64 := by kernel_rfl
theorem ag4 : z4m Tryz.prog 4 = some false := by kernel_rfl
theorem un4 : Tryz.prog.underlying 4 = some Go.TypeDesc.bool := by kernel_rfl
theorem sz5 : szT Tryz.prog 5 = some 1 := by kernel_rfl
theorem ze5 : (Tryz.prog.info? 5).bind (·.zero) = some (Go.Value.int Go.IntKind.u8 0) := by kernel_rfl
theorem ag5 : z4m Tryz.prog 5 = some false := by kernel_rfl
theorem by5 : ((Tryz.prog.info? 5).map (·.bytes)) = some 1 := by kernel_rfl
theorem in5 : intT Tryz.prog 5 = some Go.IntKind.u8 := by kernel_rfl
theorem un9 : Tryz.prog.underlying 9 = some Go.TypeDesc.string := by kernel_rfl
theorem sz22 : szT Tryz.prog 22 = some 1 := by kernel_rfl
theorem ze22 : (Tryz.prog.info? 22).bind (·.zero) = some (Go.Value.string { data := #[] }) := by kernel_rfl
theorem ag22 : z4m Tryz.prog 22 = some false := by kernel_rfl
theorem by22 : ((Tryz.prog.info? 22).map (·.bytes)) = some 16 := by kernel_rfl
theorem un22 : Tryz.prog.underlying 22 = some Go.TypeDesc.string := by kernel_rfl
theorem el23 : z8u Tryz.prog 23 = some 22 := by kernel_rfl
theorem sz28 : szT Tryz.prog 28 = some 1 := by kernel_rfl
theorem ze28 : (Tryz.prog.info? 28).bind (·.zero) = some (Go.Value.int Go.IntKind.i64 0) := by kernel_rfl
theorem ag28 : z4m Tryz.prog 28 = some false := by kernel_rfl
theorem sz44 : szT Tryz.prog 44 = some 1 := by kernel_rfl
theorem ze44 : (Tryz.prog.info? 44).bind (·.zero) = some (Go.Value.slice none 0 0) := by kernel_rfl
theorem ag44 : z4m Tryz.prog 44 = some false := by kernel_rfl
theorem ni44 : z90 Tryz.prog 44 = true := by kernel_rfl
theorem el44 : z8u Tryz.prog 44 = some 45 := by kernel_rfl
theorem sz45 : szT Tryz.prog 45 = some 1 := by kernel_rfl
theorem ze45 : (Tryz.prog.info? 45).bind (·.zero) = some (Go.Value.slice none 0 0) := by kernel_rfl
theorem ag45 : z4m Tryz.prog 45 = some false := by kernel_rfl
theorem by45 : ((Tryz.prog.info? 45).map (·.bytes)) = some 24 := by kernel_rfl
theorem ni45 : z90 Tryz.prog 45 = true := by kernel_rfl
theorem el45 : z8u Tryz.prog 45 = some 22 := by kernel_rfl
theorem el91 : z8u Tryz.prog 91 = some 28 := by kernel_rfl
theorem sz94 : szT Tryz.prog 94 = some 1 := by kernel_rfl
theorem ag94 : z4m Tryz.prog 94 = some false := by kernel_rfl
theorem ni94 : z90 Tryz.prog 94 = true := by kernel_rfl
theorem el94 : z8u Tryz.prog 94 = some 181 := by kernel_rfl
theorem sz96 : szT Tryz.prog 96 = some 3 := by kernel_rfl
theorem ze96 : (Tryz.prog.info? 96).bind (·.zero) = some (Go.Value.agg #[Go.Value.bool false, Go.Value.slice none 0 0, Go.Value.slice none 0 0]) := by kernel_rfl
theorem ag96 : z4m Tryz.prog 96 = some true := by kernel_rfl
theorem by96 : ((Tryz.prog.info? 96).map (·.bytes)) = some 56 := by kernel_rfl
theorem zo96 : zh5 Tryz.prog 96 = true := by kernel_rfl
theorem pl96 : plcT Tryz.prog 96 = some [(0, 1), (1, 1), (2, 1)] := by kernel_rfl
theorem zea : fldT Tryz.prog 96 0 = some 0 := by kernel_rfl
theorem zbo : fldT Tryz.prog 96 1 = some 1 := by kernel_rfl
theorem zk5 : fldT Tryz.prog 96 2 = some 2 := by kernel_rfl
theorem zor : z90 Tryz.prog 108 = true := by kernel_rfl
theorem za9 : z8u Tryz.prog 108 = some 111 := by kernel_rfl
theorem zc7 : szT Tryz.prog 111 = some 1 := by kernel_rfl
theorem zmv : (Tryz.prog.info? 111).bind (·.zero) = some (Go.Value.slice none 0 0) := by kernel_rfl
theorem zfp : z4m Tryz.prog 111 = some false := by kernel_rfl
theorem zo8 : ((Tryz.prog.info? 111).map (·.bytes)) = some 24 := by kernel_rfl
theorem znw : z90 Tryz.prog 111 = true := by kernel_rfl
theorem zbp : z8u Tryz.prog 111 = some 96 := by kernel_rfl
theorem zo9 : z8u Tryz.prog 116 = some 44 := by kernel_rfl
theorem zos : z90 Tryz.prog 123 = true := by kernel_rfl
theorem zcn : z8u Tryz.prog 123 = some 3 := by kernel_rfl
theorem zmh : intT Tryz.prog 167 = some Go.IntKind.u64 := by kernel_rfl
theorem zp5 : z90 Tryz.prog 180 = true := by kernel_rfl
theorem zgx : z8u Tryz.prog 180 = some 5 := by kernel_rfl
theorem z50 : szT Tryz.prog 181 = some 1 := by kernel_rfl
theorem zco : (Tryz.prog.info? 181).bind (·.zero) = some (Go.Value.int Go.IntKind.u32 0) := by kernel_rfl
theorem zaf : z4m Tryz.prog 181 = some false := by kernel_rfl
theorem zi9 : ((Tryz.prog.info? 181).map (·.bytes)) = some 4 := by kernel_rfl
theorem z9s : intT Tryz.prog 181 = some Go.IntKind.u32 := by kernel_rfl
theorem zc4 : intT Tryz.prog 184 = some Go.IntKind.u64 := by kernel_rfl
theorem zp6 : (Tryz.prog.info? 185).bind (·.zero) = some (Go.Value.agg #[Go.Value.int Go.IntKind.u8 0, Go.Value.int Go.IntKind.u8 0, Go.Value.int Go.IntKind.u8 0, Go.Value.int Go.IntKind.u8 0, Go.Value.int Go.IntKind.u8 0, Go.Value.int Go.IntKind.u8 0, Go.Value.int Go.IntKind.u8 0, Go.Value.int Go.IntKind.u8 0, Go.Value.int Go.IntKind.u8 0]) := by kernel_rfl
theorem zot : arrT Tryz.prog 185 = some (9, 5) := by kernel_rfl
theorem mixed : Tryz.prog.follows .mixedOrders = true := by kernel_rfl
end Go.Am.Tryz
/- Rows that are laid one behind the other: a list of lists that grows by append, each row with its block. -/
namespace Go.Am
open Go
noncomputable section
def hdT : Value -> Value
 | .tuple ⟨v :: _⟩ => v
 | v => v
def tlT : Value -> List Value
 | .tuple ⟨_ :: ws⟩ => ws
 | _ => []
section
variable {G : GM} {H H1 : AH} {L : List Pc} {j : Nat} {a b e0 : Pc}
theorem Ow.part (O : Ow G H L) (hj : L[j]? = some e0) (a b : Pc) (ha : ∀ x ∈ a.foot, x ∈ e0.foot) (hb : ∀ x ∈ b.foot, x ∈ e0.foot) (hab : ∀ x ∈ a.foot, x ∉ b.foot) (oka : a.ok G H.get) (okb : b.ok G H.get) : Ow G H (a :: L.set j b) := by
 have hjl : j < L.length := (zAi hj).1
 have hset : ∀ (i : Nat) (x : Pc), (L.set j b)[i]? = some x -> (i = j /\ x = b) \/ (i ≠ j /\ L[i]? = some x) := fun i x hx => by
  rw [List.getElem?_set] at hx
  by_cases hij : j = i
  ·subst hij; simp [hjl] at hx; exact .inl ⟨rfl, hx.symm⟩
  ·rw [if_neg hij] at hx; exact .inr ⟨fun e => hij e.symm, hx⟩
 have hd : ∀ (i : Nat) (x : Pc), i ≠ j -> L[i]? = some x -> ∀ c ∈ e0.foot, c ∉ x.foot := fun i x hi hx => O.dis j i e0 x (fun e => hi e.symm) hj hx
 refine ⟨O.fro, fun i x hx => ?_, fun i i' x x' hii hx hx' c hc => ?_, fun i x hx c hc => ?_⟩
 ·cases i with
  | zero => simp at hx; subst hx; exact oka
  | succ i =>
   rcases hset i x (by simpa using hx) with ⟨rfl, rfl⟩ | ⟨_, h⟩
   ·exact okb
   ·exact O.ok i x h
 ·cases i with
  | zero =>
   simp at hx; subst hx
   cases i' with
   | zero => exact absurd rfl hii
   | succ i' =>
    rcases hset i' x' (by simpa using hx') with ⟨rfl, rfl⟩ | ⟨h1, h2⟩
    ·exact hab c hc
    ·exact hd i' x' h1 h2 c (ha c hc)
  | succ i =>
   rcases hset i x (by simpa using hx) with ⟨rfl, rfl⟩ | ⟨h1, h2⟩
   ·cases i' with
    | zero => simp at hx'; subst hx'; exact fun h => hab c h hc
    | succ i' =>
     rcases hset i' x' (by simpa using hx') with ⟨rfl, rfl⟩ | ⟨h3, h4⟩
     ·exact absurd rfl hii
     ·exact hd i' x' h3 h4 c (hb c hc)
   ·cases i' with
    | zero => simp at hx'; subst hx'; exact fun h => hd i x h1 h2 c (ha c h) hc
    | succ i' =>
     rcases hset i' x' (by simpa using hx') with ⟨rfl, rfl⟩ | ⟨h3, h4⟩
     ·exact fun h => hd i x h1 h2 c (hb c h) hc
     ·exact O.dis i i' x x' (by omega) h2 h4 c hc
 ·cases i with
  | zero => simp at hx; subst hx; exact O.apart j e0 hj c (ha c hc)
  | succ i =>
   rcases hset i x (by simpa using hx) with ⟨rfl, rfl⟩ | ⟨h1, h2⟩
   ·exact O.apart i e0 hj c (hb c hc)
   ·exact O.apart i x h2 c hc
theorem Ow.fuse (O : Ow G H (a :: L)) (hj : L[j]? = some b) (c : Pc) (hc : ∀ x ∈ c.foot, x ∈ a.foot \/ x ∈ b.foot) (okc : c.ok G H.get) : Ow G H (L.set j c) := by
 have hjl : j < L.length := (zAi hj).1
 have hset : ∀ (i : Nat) (x : Pc), (L.set j c)[i]? = some x -> (i = j /\ x = c) \/ (i ≠ j /\ L[i]? = some x) := fun i x hx => by
  rw [List.getElem?_set] at hx
  by_cases hij : j = i
  ·subst hij; simp [hjl] at hx; exact .inl ⟨rfl, hx.symm⟩
  ·rw [if_neg hij] at hx; exact .inr ⟨fun e => hij e.symm, hx⟩
 have hd : ∀ (i : Nat) (x : Pc), i ≠ j -> L[i]? = some x -> ∀ y ∈ c.foot, y ∉ x.foot := fun i x hi hx y hy => by
  rcases hc y hy with h | h
  ·exact O.dis 0 (i + 1) a x (by omega) rfl (by simpa using hx) y h
  ·exact O.dis (j + 1) (i + 1) b x (by omega) (by simpa using hj) (by simpa using hx) y h
 refine ⟨O.fro, fun i x hx => ?_, fun i i' x x' hii hx hx' y hy => ?_, fun i x hx y hy => ?_⟩
 ·rcases hset i x hx with ⟨rfl, rfl⟩ | ⟨_, h⟩
  ·exact okc
  ·exact O.ok (i + 1) x (by simpa using h)
 ·rcases hset i x hx with ⟨rfl, rfl⟩ | ⟨h1, h2⟩
  ·rcases hset i' x' hx' with ⟨rfl, rfl⟩ | ⟨h3, h4⟩
   ·exact absurd rfl hii
   ·exact hd i' x' h3 h4 y hy
  ·rcases hset i' x' hx' with ⟨rfl, rfl⟩ | ⟨h3, h4⟩
   ·exact fun h => hd i x h1 h2 y h hy
   ·exact O.dis (i + 1) (i' + 1) x x' (by omega) (by simpa using h2) (by simpa using h4) y hy
 ·rcases hset i x hx with ⟨rfl, rfl⟩ | ⟨_, h⟩
  ·rcases hc y hy with h | h
   ·exact O.apart 0 a rfl y h
   ·exact O.apart (i + 1) b (by simpa using hj) y h
  ·exact O.apart (i + 1) x (by simpa using h) y hy
end
structure SetOk {α : Type} (ws : List Value) (e2 : TypeId) (r : RT α) (xss : List (List α)) (G M : GM) : Prop where
 len : ws.length = xss.length
 row : ∀ (i : Nat) (w : Value), ws[i]? = some w -> ∃ es xs, xss[i]? = some xs /\ SlO e2 r.sz M w es /\ All2 (r.rep G) es xs
 dis : ∀ (i j : Nat) (w u : Value), i ≠ j -> ws[i]? = some w -> ws[j]? = some u -> ∀ b ∈ z6d w, b ∉ z6d u
def eSet {α : Type} (ws : List Value) (e2 : TypeId) (r : RT α) (xss : List (List α)) : Pc :=
 ⟨zaq ws [], SetOk ws e2 r xss,
  fun hG h => ⟨h.len, fun i w hw => by obtain ⟨es, xs, h1, h2, h3⟩ := h.row i w hw; exact ⟨es, xs, h1, h2, h3.mono fun _ _ => r.mono hG⟩, h.dis⟩,
  fun hl h => ⟨h.len, fun i w hw => by
   obtain ⟨es, xs, h1, h2, h3⟩ := h.row i w hw
   exact ⟨es, xs, h1, h2.loc fun b hb => hl b (mem_rowFoot.2 ⟨i, w, by simp, hw, hb⟩), h3⟩, h.dis⟩,
  fun h b hb => by
   obtain ⟨i, w, hi, hw, hb⟩ := mem_rowFoot.1 hb
   obtain ⟨es, xs, h1, h2, h3⟩ := h.row i w hw
   exact h2.bnd b hb⟩
section
variable {P : Program} {n : Nat} {σ : Nat -> Value} {H H1 : AH} {d : Tmp} {dd : Option Tmp} {ty t xt e e2 : TypeId} {pos : String} {af : Array Edge} {g : Option (Nat × Bool)} {v u w w' : Value} {x y : Operand}
 {G : GM} {L : List Pc} {j i : Nat} {α : Type} {r : RT α} {ws : List Value} {xs : List α} {xss : List (List α)}
theorem zou : ∀ {ws : List Value}, (∀ w ∈ ws, okCells [w] = true) -> All2 (rV.rep G) (ws.map fun w => [w]) ws
 | [], _ => .nil
 | w :: ws, h => .cons ⟨rfl, h w (by simp)⟩ (zou fun u hu => h u (by simp [hu]))
theorem zfq : ∀ {es : List (List Value)} {ws : List Value}, All2 (rV.rep G) es ws -> es = ws.map (fun w => [w]) /\ ∀ w ∈ ws, okCells [w] = true
 | _, _, .nil => ⟨rfl, by simp⟩
 | _, _, .cons h1 h2 => by
  obtain ⟨k1, k2⟩ := zfq h2
  refine ⟨by rw [h1.1, k1]; rfl, fun w hw => ?_⟩
  rcases List.mem_cons.1 hw with rfl | hw
  ·exact h1.2
  ·exact k2 w hw
theorem Ow.splitRows (O : Ow G H L) (hj : L[j]? = some (z3u v e ws [] e2 r xss)) : Ow G H (eSet ws e2 r xss :: L.set j (eSl v e rV ws)) := by
 have h := O.rowsOk hj
 refine O.part hj _ _ (fun x hx => List.mem_append_right _ hx) (fun x hx => List.mem_append_left _ hx) (fun x hx hc => ?_) ⟨h.len, fun i w hw => h.row i w (by simp) hw, fun i j w u hij hw hu => h.dis i j w u hij (by simp) (by simp) hw hu⟩ ⟨_, h.out, zou h.one⟩
 obtain ⟨i, w, _, hw, hx⟩ := mem_rowFoot.1 hx
 exact h.off i w (by simp) hw x hx hc
theorem Ow.joinRows (O : Ow G H (eSet ws e2 r xss :: L)) (hj : L[j]? = some (eSl v e rV ws)) : Ow G H (L.set j (z3u v e ws [] e2 r xss)) := by
 have h : SetOk ws e2 r xss G H.get := O.ok 0 _ rfl
 obtain ⟨es, h1, h2⟩ := O.ok (j + 1) _ (by simpa using hj)
 obtain ⟨rfl, h3⟩ := zfq h2
 refine O.fuse hj _ (fun x hx => (List.mem_append.1 hx).symm) ⟨h1, h3, h.len, fun i w _ hw => h.row i w hw, fun i j w u hij _ _ hw hu => h.dis i j w u hij hw hu, fun i w _ hw b hb hc => ?_⟩
 exact O.dis 0 (j + 1) _ _ (by omega) rfl (by simpa using hj) b (mem_rowFoot.2 ⟨i, w, by simp, hw, hb⟩) hc
theorem Ow.moreRow (O : Ow G H (eSl w e2 r xs :: L)) (hj : L[j]? = some (eSet ws e2 r xss)) : Ow G H (L.set j (eSet (ws ++ [w]) e2 r (xss ++ [xs]))) := by
 have hj1 : (eSl w e2 r xs :: L)[j + 1]? = some (eSet ws e2 r xss) := by simpa using hj
 have h : SetOk ws e2 r xss G H.get := O.ok (j + 1) _ hj1
 obtain ⟨es, h1, h2⟩ := O.ok 0 _ rfl
 have hin : ∀ i u, (ws ++ [w])[i]? = some u -> (ws[i]? = some u) \/ (i = ws.length /\ u = w) := fun i u hu => by
  rw [List.getElem?_append] at hu
  split at hu
  ·exact .inl hu
  ·rename_i hi
   have : i - ws.length = 0 := by
    rcases Nat.eq_zero_or_pos (i - ws.length) with h | h
    ·exact h
    ·rw [List.getElem?_eq_none (by simp; omega)] at hu; cases hu
   rw [this] at hu
   simp at hu
   exact .inr ⟨by omega, hu.symm⟩
 refine O.fuse hj _ (fun x hx => ?_) ⟨by simp [h.len], fun i u hu => ?_, fun i k u u' hik hu hu' b hb hc => ?_⟩
 ·obtain ⟨i, u, _, hu, hx2⟩ := mem_rowFoot.1 hx
  rcases hin i u hu with h | ⟨rfl, rfl⟩
  ·exact .inr (mem_rowFoot.2 ⟨i, u, by simp, h, hx2⟩)
  ·exact .inl hx2
 ·rcases hin i u hu with h3 | ⟨rfl, rfl⟩
  ·obtain ⟨es', xs', k1, k2⟩ := h.row i u h3
   exact ⟨es', xs', by rw [List.getElem?_append_left (zAi k1).1]; exact k1, k2⟩
  ·exact ⟨es, xs, by rw [h.len]; simp, h1, h2⟩
 ·rcases hin i u hu with h3 | ⟨rfl, rfl⟩
  ·rcases hin k u' hu' with h4 | ⟨rfl, rfl⟩
   ·exact h.dis i k u u' hik h3 h4 b hb hc
   ·exact O.dis 0 (j + 1) _ _ (by omega) rfl hj1 b hc (mem_rowFoot.2 ⟨i, u, by simp, h3, hb⟩)
  ·rcases hin k u' hu' with h4 | ⟨rfl, rfl⟩
   ·exact O.dis 0 (j + 1) _ _ (by omega) rfl hj1 b hb (mem_rowFoot.2 ⟨k, u', by simp, h4, hc⟩)
   ·exact hik rfl
theorem Ow.nilRows (O : Ow G H L) (e e2 : TypeId) (r : RT α) : Ow G H (z3u (.slice none 0 0) e [] [] e2 r [] :: L) := by
 have h := O.nilSl e rV
 have h1 : Ow G H (eSet [] e2 r [] :: eSl (.slice none 0 0) e rV [] :: L) := by
  refine ⟨h.fro, fun i x hx => ?_, fun i i' x x' hii hx hx' b hb hc => ?_, fun i x hx b hb => ?_⟩
  ·cases i with
   | zero => simp at hx; subst hx; exact ⟨rfl, fun i w hw => by simp at hw, fun i j w u _ hw => by simp at hw⟩
   | succ i => exact h.ok i x (by simpa using hx)
  ·cases i with
   | zero => simp at hx; subst hx; obtain ⟨_, _, _, hw, _⟩ := mem_rowFoot.1 hb; simp at hw
   | succ i =>
    cases i' with
    | zero => simp at hx'; subst hx'; obtain ⟨_, _, _, hw, _⟩ := mem_rowFoot.1 hc; simp at hw
    | succ i' => exact h.dis i i' x x' (by omega) (by simpa using hx) (by simpa using hx') b hb hc
  ·cases i with
   | zero => simp at hx; subst hx; obtain ⟨_, _, _, hw, _⟩ := mem_rowFoot.1 hb; simp at hw
   | succ i => exact h.apart i x (by simpa using hx) b hb
 exact h1.joinRows (j := 0) rfl
theorem Lo.appRow {c1 : Nat} {z : Value} {es2 : List (List Value)} (hj : L[j]? = some (z3u v e ws [] e2 r xss)) (hd : (ook n x && ook n y) = true) (he : z8u P t = some e) (hxt : z90 P xt = true) (hz : (P.info? e).bind (·.zero) = some z) (hsz : szT P e = some 1) (hby : ((P.info? e).map (·.bytes)) = some c1)
  (hzs : (decide (z.cells.size = 1) && decide (0 < 1)) = true) (hc1 : c1 <= 1048576) (hx : oval σ x = v) (hw : SlG H.get 1 (oval σ y) es2) (hr : All2 (rV.rep G) es2 [w]) (hlen : xss.length + 1 <= 16777216) (O : Ow G H (eSl w e2 r xs :: L)) :
  Loud P n ⟨some d, .call ⟨.builtin .append, #[x, y], #[t, xt]⟩, ty, pos, af, g⟩ σ H fun v' H1 => Ow G H1 (L.set j (z3u v' e (ws ++ [w]) [] e2 r (xss ++ [xs]))) /\ (∀ b, (H.get b).isSome = true -> b ∉ z6d v -> H1.get b = H.get b) := by
 have hjl : j < L.length := (zAi hj).1
 have hlw : ws.length = xss.length := (O.rowsOk (j := j + 1) (by simpa using hj)).len
 have o1 : Ow G H (eSet ws e2 r xss :: eSl w e2 r xs :: L.set j (eSl v e rV ws)) := by simpa using O.splitRows (j := j + 1) (by simpa using hj)
 have o2 : Ow G H (eSl w e2 r xs :: eSet ws e2 r xss :: L.set j (eSl v e rV ws)) := by simpa using o1.front (j := 1) rfl
 have o3 : Ow G H (eSet (ws ++ [w]) e2 r (xss ++ [xs]) :: L.set j (eSl v e rV ws)) := by simpa using o2.moreRow (j := 0) rfl
 have hj3 : (eSet (ws ++ [w]) e2 r (xss ++ [xs]) :: L.set j (eSl v e rV ws))[j + 1]? = some (eSl v e rV ws) := by simp [hjl]
 obtain ⟨v', H1, h1, h2, h3⟩ := Lo.append (d := d) (ty := ty) (pos := pos) (af := af) (g := g) (ys := [w]) hj3 hd he hxt hz hsz hby hzs hc1 hx hw hr (by simp; omega) o3
 refine ⟨v', H1, h1, ?_, h3⟩
 have o4 : Ow G H1 (eSet (ws ++ [w]) e2 r (xss ++ [xs]) :: L.set j (eSl v' e rV (ws ++ [w]))) := by simpa using h2
 have := o4.joinRows (j := j) (v := v') (e := e) (by simp [hjl])
 simpa using this
end
end
end Go.Am
/- Returns of printed walks: what a function's end asks, once for all returns. -/
namespace Go.Am
open Go
noncomputable section
def RK (P : Program) (fn : Func) (n : Nat) (G : GM) (L : List Pc) (Φ : Value -> GM -> AH -> Prop) (R : Value -> AH -> Prop) : Prop := ∀ v H' G', Ow G' H' L -> G.le G' -> Φ v G' H' -> R v H'
def RKF (P : Program) (fn : Func) (n : Nat) (G : GM) (LF : Value -> List Pc) (Φ : Value -> Value -> GM -> Prop) (R : Value -> AH -> Prop) : Prop := ∀ w v H' G', Ow G' H' (LF w) -> G.le G' -> Φ w v G' -> R v H'
section
variable {P : Program} {n : Nat} {σ : Nat -> Value} {H : AH} {fn : Func} {G G' : GM} {L : List Pc} {R : Value -> AH -> Prop} {f : FuncId} {c : Code} {args : List Value} {r1 r2 r3 r4 r5 : ResultVar} {v1 v2 v3 v4 v5 : Value}
 {Φ : Value -> GM -> AH -> Prop} {LF : Value -> List Pc} {Ψ : Value -> Value -> GM -> Prop}
theorem CR.og (hf : P.funcs[f]? = some fn) (hb : fn.body = some c) (hn : max fn.ntmps args.length = n) (h : ∀ R, RK P fn n G L Φ R -> AW P n c (fun t => args.getD t undef) H (retQ P fn n R)) : CR P f args G H L Φ :=
 CR.of (z8t (R := fun v H' => ∃ G', Ow G' H' L /\ G.le G' /\ Φ v G' H') hf hb hn (h _ fun v H' G' a b c => ⟨G', a, b, c⟩))
theorem CRF.og (hf : P.funcs[f]? = some fn) (hb : fn.body = some c) (hn : max fn.ntmps args.length = n) (h : ∀ R, RKF P fn n G LF Ψ R -> AW P n c (fun t => args.getD t undef) H (retQ P fn n R)) : CRF P f args G H LF Ψ :=
 CRF.of (z8t (R := fun v H' => ∃ w G', Ow G' H' (LF w) /\ G.le G' /\ Ψ w v G') hf hb hn (h _ fun w v H' G' a b c => ⟨w, G', a, b, c⟩))
theorem zp7 (k : RK P fn n G L Φ R) (hr : fn.results.toList = []) (O : Ow G' H L) (s : G.le G') (h : Φ (.tuple #[]) G' H) : retQ P fn n R .ret σ H := zp2 hr (k _ _ _ O s h)
theorem z1h (k : RK P fn n G L Φ R) (hr : fn.results.toList = [r1]) (h1 : RR P n σ H r1 v1) (O : Ow G' H L) (s : G.le G') (h : Φ v1 G' H) : retQ P fn n R .ret σ H := zop hr h1 (k _ _ _ O s h)
theorem zgn (k : RK P fn n G L Φ R) (hr : fn.results.toList = [r1, r2]) (h1 : RR P n σ H r1 v1) (h2 : RR P n σ H r2 v2) (O : Ow G' H L) (s : G.le G') (h : Φ (.tuple #[v1, v2]) G' H) : retQ P fn n R .ret σ H := zoq hr h1 h2 (k _ _ _ O s h)
theorem zmw (k : RK P fn n G L Φ R) (hr : fn.results.toList = [r1, r2, r3]) (h1 : RR P n σ H r1 v1) (h2 : RR P n σ H r2 v2) (h3 : RR P n σ H r3 v3) (O : Ow G' H L) (s : G.le G') (h : Φ (.tuple #[v1, v2, v3]) G' H) : retQ P fn n R .ret σ H := zp3 hr h1 h2 h3 (k _ _ _ O s h)
theorem zdf (k : RKF P fn n G LF Ψ R) (w : Value) (hr : fn.results.toList = [r1]) (h1 : RR P n σ H r1 v1) (O : Ow G' H (LF w)) (s : G.le G') (h : Ψ w v1 G') : retQ P fn n R .ret σ H := zop hr h1 (k w _ _ _ O s h)
theorem z6u (k : RKF P fn n G LF Ψ R) (w : Value) (hr : fn.results.toList = [r1, r2]) (h1 : RR P n σ H r1 v1) (h2 : RR P n σ H r2 v2) (O : Ow G' H (LF w)) (s : G.le G') (h : Ψ w (.tuple #[v1, v2]) G') : retQ P fn n R .ret σ H := zoq hr h1 h2 (k w _ _ _ O s h)
end
end
end Go.Am
/- The place of a byte in a text: the library's function, by the shelf's contract, as a typed function. -/
namespace Go.Am.Tryz
open Go Go.Am Go.Proofs
def zp8 : Go.Shelf.Ren := ⟨fun x => if x = 217 then 179 else if x = 266 then 186 else x, fun x => if x = 3 then 3 else if x = 5 then 5 else 9, fun x => x⟩
theorem zoa : Lays.n217 Tryz.prog zp8 where
 mixed := by kernel_rfl
 f217 := by kernel_rfl
 f266 := by kernel_rfl
 t3 := Tryz.underlying3
 a3 := Tryz.isAgg3
 z3 := Tryz.sizeOf3
 v3 := Tryz.zeroValue3
 t5 := Tryz.underlying5
 a5 := Tryz.isAgg5
 z5 := Tryz.sizeOf5
 v5 := Tryz.zeroValue5
 t9 := Tryz.underlying9
 a9 := Tryz.isAgg9
 z9 := Tryz.sizeOf9
 v9 := Tryz.zeroValue9
theorem zls (s : zAd) (c : Int) (H : AH) : ACalls Tryz.prog 179 [.string s, .int .u8 c] H (.int .i64 (Lib.indexByte s.data.toList c.toNat.toUInt8)) H := by
 refine ⟨Nat.le_refl _, fun ι w cargs hS hargs => ?_⟩
 have he := hargs.closed_eq rfl
 have hc : cargs = #[.string s, .int .u8 c] := by
  cases cargs; exact congrArg Array.mk he
 subst hc
 refine (Any.stringslite_IndexByte zoa s c w).mono ?_
 rintro e w' ⟨rfl, rfl⟩
 exact ⟨ι, _, rfl, .scal rfl, hS, fun _ _ h => h, fun _ _ => rfl, fun _ h => .inl h, fun _ h => .inl h, fun _ _ _ => rfl, Nat.le_refl _, rfl, rfl, rfl⟩
def z1w (K : Nat) (s : zAd) (c : Int) : Option Int := some (Lib.indexByte s.data.toList c.toNat.toUInt8)
theorem z54 (K : Nat) {G : GM} {H : AH} {L : List Pc} (p0 : zAd) (p1 : Int) (O : Ow G H L) (r : Int) (h : z1w K p0 p1 = some r) :
  CR Tryz.prog 179 [.string p0, .int .u8 p1] G H L (fun v G' _ => v = .int .i64 r) := by
 cases h
 exact ⟨_, H, G, zls p0 p1 H, O, zAf _, rfl⟩
end Go.Am.Tryz
/- Walk: slices.Repeat of one text. -/
namespace Go.Am.Tryz
open Go Go.Am Go.Proofs
def repS (a : zAd) (j m : Nat) : List Value := List.replicate j (.string a) ++ List.replicate (m - j) (.string ⟨#[]⟩)
theorem zia (v : Value) (m : Nat) : (List.replicate m [v]).flatten = List.replicate m v := by
 induction m with
 | zero => rfl
 | succ m ih => rw [List.replicate_succ, List.flatten_cons, ih]; rfl
theorem zl3 {a : zAd} {j m : Nat} (h : j <= m) : (repS a j m).length = m := by simp [repS]; omega
theorem zlt {a : zAd} {j m : Nat} (h : j = m) : repS a j m = List.replicate m (.string a) := by subst h; simp [repS]
theorem zeb (n : Nat) : z3f (Value.string ⟨#[]⟩).cells n = List.replicate n (.string ⟨#[]⟩) := by simp [z3f, Value.cells]
theorem zib (n : Nat) : (z3f (Value.string ⟨#[]⟩).cells n).length = n := by simp [zeb]
theorem zk6 {a : zAd} {m : Nat} {cs : List Value} (hc : cs.take 1 = [(.string a)]) (h : 0 < m) : z25 (z3f (Value.string ⟨#[]⟩).cells (m * 1)) 0 (cs.take (min m 1 * 1)) = repS a 1 m := by
 have h1 : min m 1 = 1 := by omega
 rw [h1, Nat.mul_one, hc, zeb]
 simp [z25, repS]
theorem zlu {a : zAd} {j m : Nat} (h0 : 0 < j) (h : j < m) : z25 (repS a j m) (0 + j * 1) (((repS a j m).drop 0).take (min (m - j) j * 1)) = repS a (j + min j (m - j)) m := by
 have hc : min (m - j) j = min j (m - j) := Nat.min_comm _ _
 rw [hc, Nat.mul_one, Nat.mul_one, Nat.zero_add, List.drop_zero]
 generalize hq : min j (m - j) = q
 have hq1 : q <= j := by omega
 have hq2 : q <= m - j := by omega
 unfold z25 repS
 rw [List.take_append_of_le_length (by simp), List.take_append_of_le_length (by simpa using hq1), List.drop_append, List.take_replicate, List.take_replicate, List.drop_replicate, List.drop_replicate]
 simp only [List.length_replicate]
 rw [show min j j = j by omega, show min q j = q by omega, show j - (j + q) = 0 by omega, show m - j - (j + q - j) = m - (j + q) by omega]
 simp [List.replicate_append_replicate, <- List.append_assoc]
theorem zob {a : zAd} {q : Nat} {cs : List Value} (hc : cs.take 1 = [(.string a)]) (h : q = 1) : okCells (cs.take (q * 1)) = true := by subst h; rw [Nat.mul_one, hc]; rfl
theorem sl1 {H : AH} {b off cap : Nat} {tg : Option Nat} {k : ABlk} {a : zAd} (hb : H.get b = some k) (hl : off + 1 <= k.cells.length) (hc : (k.cells.drop off).take 1 = [(.string a)]) : Sl H 1 (.slice (some ⟨b, off, tg⟩) 1 cap) [[(.string a)]] := ⟨by simp, .inr (.inl ⟨b, off, tg, cap, k, rfl, hb, by simpa using hl, by simpa using hc⟩)⟩
theorem zoc (a : zAd) (j m q : Nat) : okCells (((repS a j m).drop 0).take q) = true := by
 unfold okCells
 rw [List.all_eq_true]
 intro x hx
 have hx := List.mem_of_mem_take hx
 rw [List.drop_zero, repS, List.mem_append] at hx
 rcases hx with hx | hx <;> (rw [(List.mem_replicate.1 hx).2]; rfl)
theorem zic {m : Nat} (h : m <= 40) : IntKind.wrap .u64 (m : Int) = m := by
 simp [IntKind.wrap, IntKind.bits, IntKind.signed]; omega
theorem zid {m : Nat} (h : m <= 40) : IntKind.wrap .i64 (m : Int) = m := by
 simp [IntKind.wrap, IntKind.bits, IntKind.signed]; omega
theorem zp9 : ∀ (m : Nat), m <= 40 -> ∀ A : AH, ACalls Tryz.prog 148 [.int .u64 1, .int .u64 (m : Int)] A (.tuple #[.int .u64 0, .int .u64 (m : Int)]) A
 | 0, _, A => z0h mixed (rounds := 100) (n := 4) (by kernel_rfl) (by kernel_rfl) (by kernel_rfl) A
 | 1, _, A => z0h mixed (rounds := 100) (n := 4) (by kernel_rfl) (by kernel_rfl) (by kernel_rfl) A
 | 2, _, A => z0h mixed (rounds := 100) (n := 4) (by kernel_rfl) (by kernel_rfl) (by kernel_rfl) A
 | 3, _, A => z0h mixed (rounds := 100) (n := 4) (by kernel_rfl) (by kernel_rfl) (by kernel_rfl) A
 | 4, _, A => z0h mixed (rounds := 100) (n := 4) (by kernel_rfl) (by kernel_rfl) (by kernel_rfl) A
 | 5, _, A => z0h mixed (rounds := 100) (n := 4) (by kernel_rfl) (by kernel_rfl) (by kernel_rfl) A
 | 6, _, A => z0h mixed (rounds := 100) (n := 4) (by kernel_rfl) (by kernel_rfl) (by kernel_rfl) A
 | 7, _, A => z0h mixed (rounds := 100) (n := 4) (by kernel_rfl) (by kernel_rfl) (by kernel_rfl) A
 | 8, _, A => z0h mixed (rounds := 100) (n := 4) (by kernel_rfl) (by kernel_rfl) (by kernel_rfl) A
 | 9, _, A => z0h mixed (rounds := 100) (n := 4) (by kernel_rfl) (by kernel_rfl) (by kernel_rfl) A
 | 10, _, A => z0h mixed (rounds := 100) (n := 4) (by kernel_rfl) (by kernel_rfl) (by kernel_rfl) A
 | 11, _, A => z0h mixed (rounds := 100) (n := 4) (by kernel_rfl) (by kernel_rfl) (by kernel_rfl) A
 | 12, _, A => z0h mixed (rounds := 100) (n := 4) (by kernel_rfl) (by kernel_rfl) (by kernel_rfl) A
 | 13, _, A => z0h mixed (rounds := 100) (n := 4) (by kernel_rfl) (by kernel_rfl) (by kernel_rfl) A
 | 14, _, A => z0h mixed (rounds := 100) (n := 4) (by kernel_rfl) (by kernel_rfl) (by kernel_rfl) A
 | 15, _, A => z0h mixed (rounds := 100) (n := 4) (by kernel_rfl) (by kernel_rfl) (by kernel_rfl) A
 | 16, _, A => z0h mixed (rounds := 100) (n := 4) (by kernel_rfl) (by kernel_rfl) (by kernel_rfl) A
 | 17, _, A => z0h mixed (rounds := 100) (n := 4) (by kernel_rfl) (by kernel_rfl) (by kernel_rfl) A
 | 18, _, A => z0h mixed (rounds := 100) (n := 4) (by kernel_rfl) (by kernel_rfl) (by kernel_rfl) A
 | 19, _, A => z0h mixed (rounds := 100) (n := 4) (by kernel_rfl) (by kernel_rfl) (by kernel_rfl) A
 | 20, _, A => z0h mixed (rounds := 100) (n := 4) (by kernel_rfl) (by kernel_rfl) (by kernel_rfl) A
 | 21, _, A => z0h mixed (rounds := 100) (n := 4) (by kernel_rfl) (by kernel_rfl) (by kernel_rfl) A
 | 22, _, A => z0h mixed (rounds := 100) (n := 4) (by kernel_rfl) (by kernel_rfl) (by kernel_rfl) A
 | 23, _, A => z0h mixed (rounds := 100) (n := 4) (by kernel_rfl) (by kernel_rfl) (by kernel_rfl) A
 | 24, _, A => z0h mixed (rounds := 100) (n := 4) (by kernel_rfl) (by kernel_rfl) (by kernel_rfl) A
 | 25, _, A => z0h mixed (rounds := 100) (n := 4) (by kernel_rfl) (by kernel_rfl) (by kernel_rfl) A
 | 26, _, A => z0h mixed (rounds := 100) (n := 4) (by kernel_rfl) (by kernel_rfl) (by kernel_rfl) A
 | 27, _, A => z0h mixed (rounds := 100) (n := 4) (by kernel_rfl) (by kernel_rfl) (by kernel_rfl) A
 | 28, _, A => z0h mixed (rounds := 100) (n := 4) (by kernel_rfl) (by kernel_rfl) (by kernel_rfl) A
 | 29, _, A => z0h mixed (rounds := 100) (n := 4) (by kernel_rfl) (by kernel_rfl) (by kernel_rfl) A
 | 30, _, A => z0h mixed (rounds := 100) (n := 4) (by kernel_rfl) (by kernel_rfl) (by kernel_rfl) A
 | 31, _, A => z0h mixed (rounds := 100) (n := 4) (by kernel_rfl) (by kernel_rfl) (by kernel_rfl) A
 | 32, _, A => z0h mixed (rounds := 100) (n := 4) (by kernel_rfl) (by kernel_rfl) (by kernel_rfl) A
 | 33, _, A => z0h mixed (rounds := 100) (n := 4) (by kernel_rfl) (by kernel_rfl) (by kernel_rfl) A
 | 34, _, A => z0h mixed (rounds := 100) (n := 4) (by kernel_rfl) (by kernel_rfl) (by kernel_rfl) A
 | 35, _, A => z0h mixed (rounds := 100) (n := 4) (by kernel_rfl) (by kernel_rfl) (by kernel_rfl) A
 | 36, _, A => z0h mixed (rounds := 100) (n := 4) (by kernel_rfl) (by kernel_rfl) (by kernel_rfl) A
 | 37, _, A => z0h mixed (rounds := 100) (n := 4) (by kernel_rfl) (by kernel_rfl) (by kernel_rfl) A
 | 38, _, A => z0h mixed (rounds := 100) (n := 4) (by kernel_rfl) (by kernel_rfl) (by kernel_rfl) A
 | 39, _, A => z0h mixed (rounds := 100) (n := 4) (by kernel_rfl) (by kernel_rfl) (by kernel_rfl) A
 | 40, _, A => z0h mixed (rounds := 100) (n := 4) (by kernel_rfl) (by kernel_rfl) (by kernel_rfl) A
 | m + 41, h, _ => absurd h (by omega)
theorem zmx {m : Nat} (h : m <= 40) (A : AH) : ∃ v H', ACalls Tryz.prog 148 [.int .u64 1, .int .u64 (m : Int)] A v H' /\ v = .tuple #[.int .u64 0, .int .u64 (m : Int)] /\ Ext A H' := ⟨_, A, zp9 m h A, rfl, .refl A⟩
theorem zmy (H : AH) (a : zAd) (m b off cap : Nat) (tg : Option Nat) (k : ABlk) (hm : m <= 40) (h0 : 0 < m) (hb : H.get b = some k) (hl : off + 1 <= k.cells.length) (hc : (k.cells.drop off).take 1 = [(.string a)]) : ∃ v H', ACalls Tryz.prog 93 [.slice (some ⟨b, off, tg⟩) 1 cap, .int .i64 (m : Int)] H v H' /\ (fun v H' => (∃ b', v = .slice (some ⟨b', 0, some 0⟩) m m /\ H.next <= b' /\ H'.get b' = some ⟨List.replicate m (.string a), 22, 1, true⟩) /\ Ext H H') v H' := by
 refine z8t (n := 48) (fn := Tryz.f93) (by kernel_rfl) rfl rfl ?_
 refine .seq ?_
 refine .region ?_
 refine W.pure (v := _) rfl rfl (z4u (oo rfl rfl)) ?_
 refine .nil ?_
 refine .seq ?_
 refine .seq ?_
 refine .region ?_
 refine W.pure (v := .int _ _) rfl rfl (z4k (oo rfl rfl)) ?_
 refine W.pure rfl rfl (zgm (oo rfl rfl) (oo rfl rfl) rfl) ?_
 refine .nil ?_
 refine .condF rfl (congrArg Value.bool (decide_eq_false (by omega))) ?_
 refine .skip ?_
 refine .seq ?_
 refine .region ?_
 refine W.pure (v := .slice (some ⟨b, off, tg⟩) 1 cap) rfl rfl (z4k (oo rfl rfl)) ?_
 refine W.pure rfl rfl (z0f (oo rfl rfl) (Sl.isSl (sl1 ((Ext.refl _).2 _ _ hb) hl hc)) (z02 el23)) ?_
 refine W.pure (v := .int .u64 1) rfl rfl (zcm in3 zmh (oo rfl rfl) (by rfl)) ?_
 refine W.pure (v := .int _ _) rfl rfl (z4k (oo rfl rfl)) ?_
 refine W.pure (v := .int .u64 (m : Int)) rfl rfl (zcm in3 zmh (oo rfl rfl) (zic (by omega))) ?_
 obtain ⟨_, H1, c2, rfl, x4⟩ := (zmx (m := m) hm H)
 refine W.call rfl rfl (fn := Tryz.f148) (by kernel_rfl) rfl rfl c2 ?_
 have e5 := Ext.trans (Ext.refl _) x4
 refine W.pure (v := _) rfl rfl (z4k (oo rfl rfl)) ?_
 refine W.pure rfl rfl (z08 (oo rfl rfl) rfl) ?_
 refine W.pure rfl rfl (z08 (oo rfl rfl) rfl) ?_
 refine W.pure (v := .int _ _) rfl rfl (z4u (oo rfl rfl)) ?_
 refine W.pure (v := .int _ _) rfl rfl (z4u (oo rfl rfl)) ?_
 refine .nil ?_
 refine .seq ?_
 refine .seq ?_
 refine .region ?_
 refine W.pure (v := .int _ _) rfl rfl (z4k (oo rfl rfl)) ?_
 refine W.pure rfl rfl (zgm (oo rfl rfl) (oo rfl rfl) rfl) ?_
 refine W.pure (v := .bool _) rfl rfl (z4k (oo rfl rfl)) ?_
 refine W.pure (v := .int _ _) (gk rfl rfl (congrArg Value.bool (decide_eq_false (by decide))) rfl) rfl (z4k (oo rfl rfl)) ?_
 refine W.pure (gk rfl rfl (congrArg Value.bool (decide_eq_false (by decide))) rfl) rfl (zgm (oo rfl rfl) (oo rfl rfl) rfl) ?_
 refine W.pure (v := .bool _) rfl rfl (z89 (oo rfl (congrArg Value.bool (decide_eq_false (by decide)))) (oo rfl rfl)) ?_
 refine .nil ?_
 refine .condF rfl (congrArg Value.bool (decide_eq_false (by omega))) ?_
 refine .skip ?_
 refine .seq ?_
 refine .region ?_
 refine W.pure (v := .int _ _) rfl rfl (z4k (oo rfl rfl)) ?_
 refine W.pure (v := .int .i64 (m : Int)) rfl rfl (zcm zmh in3 (oo rfl rfl) (zid (by omega))) ?_
 refine W.makeSlice (N := m) rfl rfl el23 ze22 sz22 (by kernel_rfl) by22 rfl rfl (by omega) (by decide) fun b6 H7 nb8 => ?_
 have fr9 := Nat.le_trans (e5).1 nb8.fresh
 have e10 := Ext.trans e5 nb8.ext
 have k11 := nb8.get
 refine W.pure (v := .slice (some ⟨b6, 0, some 0⟩) m m) rfl rfl (z4u (oo rfl rfl)) ?_
 refine .nil ?_
 refine .seq ?_
 refine .region ?_
 refine W.pure (v := .slice (some ⟨b6, 0, some 0⟩) m m) rfl rfl (z4k (oo rfl rfl)) ?_
 refine W.pure (v := .slice (some ⟨b, off, tg⟩) 1 cap) rfl rfl (z4k (oo rfl rfl)) ?_
 refine W.copy rfl rfl el23 sz22 rfl rfl k11 (e10.2 _ _ hb) rfl (by omega) (by decide) (by omega) (by simp [zib]; omega) (zob hc (by omega)) fun H12 sb13 => ?_
 have e15 := sb13.ext e10 fr9
 have k16 := sb13.get
 refine W.pure (v := .int _ _) rfl rfl (z4u (oo rfl rfl)) ?_
 refine .nil ?_
 refine .seq ?_
 refine .block ?_
 refine AW.loop (α := Nat) (fun j σ' H' => (Ext H H') /\ (σ' 8 = .int .i64 (j : Nat)) /\ (H'.get b6 = some ((⟨repS a j m, 22, 1, true⟩ : ABlk))) /\ (0 < j) /\ (j <= m)) (fun j => m - j) 1 ⟨e15, (congrArg (fun q : Nat => Value.int .i64 (q : Int)) (show min 1 m = 1 by omega)), (k16.trans (congrArg (fun c => some (⟨c, 22, 1, true⟩ : ABlk)) (zk6 hc h0))), (by decide), (by omega)⟩ ?_
 rintro j σ20 H21 fr22 ⟨e17, t8_18, k19, h1, hj⟩
 have h7_23 : σ20 7 = .slice (some ⟨b6, 0, some 0⟩) m m := (fr22 7 rfl).trans rfl
 refine .seq ?_
 refine .seq ?_
 refine .region ?_
 refine W.pure (v := .int _ _) rfl rfl (z4k (oo rfl t8_18)) ?_
 refine W.pure (v := .slice (some ⟨b6, 0, some 0⟩) m m) rfl rfl (z4k (oo rfl h7_23)) ?_
 refine W.pure rfl rfl (z0f (oo rfl rfl) (Or.inr ⟨_, _, _, _, rfl⟩) (z02 el23)) ?_
 refine W.pure rfl rfl (zgm (oo rfl rfl) (oo rfl rfl) rfl) ?_
 refine .nil ?_
 refine .cond rfl rfl (fun g24 => ?_) (fun g24 => ?_)
 ·try simp only [decide_eq_true_eq, decide_eq_false_iff_not, beq_iff_eq, bne_iff_ne, beq_eq_false_iff_ne, bne_eq_false_iff_eq, List.length_map, gt_iff_lt, ge_iff_le, Int.not_lt, Int.not_le] at g24
  have hlt : j < m := by omega
  refine .skip ?_
  refine .block ?_
  refine .draw (M := [0, 0, 0, 6, 0, 0, 48, 126, 255, 511]) mixed (by kernel_rfl) (by kernel_rfl) fun H25 x26 => ?_
  have e27 := Ext.trans e17 x26
  have k28 := (x26).2 _ _ k19
  refine D.pure (v := .int _ _) rfl rfl (z4k (oo rfl t8_18)) ?_
  refine D.pure (v := .slice (some ⟨b6, 0, some 0⟩) m m) rfl rfl (z4k (oo rfl h7_23)) ?_
  refine D.pure (v := .int _ _) rfl rfl (z4k (oo rfl t8_18)) ?_
  refine D.pure rfl rfl (zk0 (j := j) el23 sz22 (oo rfl rfl) (oo rfl rfl) (by omega) (Nat.le_refl _) (.inr rfl)) ?_
  refine D.pure (v := .slice (some ⟨b6, 0, some 0⟩) m m) rfl rfl (z4k (oo rfl h7_23)) ?_
  refine D.pure (v := .int _ _) rfl rfl (z4k (oo rfl t8_18)) ?_
  refine D.pure rfl rfl (zk1 (j := j) el23 sz22 (oo rfl rfl) (oo rfl rfl) (by omega) (Nat.le_refl _) (.inr rfl)) ?_
  refine D.copy rfl rfl el23 sz22 rfl rfl k28 k28 rfl (by omega) (by decide) (by simp only [zl3 hj]; omega) (by simp only [zl3 hj]; omega) (zoc a j m _) RS.nil z0b z0b fun H29 sb30 rs31 => ?_
  have e32 := sb30.ext e27 fr9
  have k33 := sb30.get
  refine D.pure rfl rfl (zp0 (oo rfl rfl) (oo rfl rfl) (by omega) (by omega)) ?_
  refine D.pure (v := .int _ _) rfl rfl (z4u (oo rfl rfl)) ?_
  refine .nil ?_
  refine ⟨j + min j (m - j), by dsimp only; omega, e32, (congrArg (Value.int .i64) (Int.natCast_add j (min j (m - j))).symm), (k33.trans (congrArg (fun c => some (⟨c, 22, 1, true⟩ : ABlk)) (zlu h1 hlt))), (by omega), (by omega)⟩
 ·try simp only [decide_eq_true_eq, decide_eq_false_iff_not, beq_iff_eq, bne_iff_ne, beq_eq_false_iff_ne, bne_eq_false_iff_eq, List.length_map, gt_iff_lt, ge_iff_le, Int.not_lt, Int.not_le] at g24
  refine .exit ?_
  refine .seq ?_
  refine .region ?_
  refine W.pure (v := .slice (some ⟨b6, 0, some 0⟩) m m) rfl rfl (z4k (oo rfl h7_23)) ?_
  refine W.pure (v := .slice (some ⟨b6, 0, some 0⟩) m m) rfl rfl (z4u (oo rfl rfl)) ?_
  refine .nil ?_
  refine .ret ?_
  refine zoo (P := Tryz.prog) (fn := Tryz.f93) (n := 48) (R := fun v H' => (∃ b', v = .slice (some ⟨b', 0, some 0⟩) m m /\ H.next <= b' /\ H'.get b' = some ⟨List.replicate m (.string a), 22, 1, true⟩) /\ Ext H H') (v := .slice (some ⟨b6, 0, some 0⟩) m m) (by rfl) (by rfl) (by exact rfl) ?_
  -- leaf 1
  exact ⟨⟨_, rfl, by omega, by rw [k19, zlt (by omega)]⟩, e17⟩
theorem zlv (H : AH) (a : zAd) (m b off cap : Nat) (tg : Option Nat) (k : ABlk) (hm : m <= 40) (h0 : m = 0) (hb : H.get b = some k) (hl : off + 1 <= k.cells.length) (hc : (k.cells.drop off).take 1 = [(.string a)]) : ∃ v H', ACalls Tryz.prog 93 [.slice (some ⟨b, off, tg⟩) 1 cap, .int .i64 (m : Int)] H v H' /\ (fun v H' => (∃ b', v = .slice (some ⟨b', 0, some 0⟩) m m /\ H.next <= b' /\ H'.get b' = some ⟨List.replicate m (.string a), 22, 1, true⟩) /\ Ext H H') v H' := by
 refine z8t (n := 48) (fn := Tryz.f93) (by kernel_rfl) rfl rfl ?_
 refine .seq ?_
 refine .region ?_
 refine W.pure (v := _) rfl rfl (z4u (oo rfl rfl)) ?_
 refine .nil ?_
 refine .seq ?_
 refine .seq ?_
 refine .region ?_
 refine W.pure (v := .int _ _) rfl rfl (z4k (oo rfl rfl)) ?_
 refine W.pure rfl rfl (zgm (oo rfl rfl) (oo rfl rfl) rfl) ?_
 refine .nil ?_
 refine .condF rfl (congrArg Value.bool (decide_eq_false (by omega))) ?_
 refine .skip ?_
 refine .seq ?_
 refine .region ?_
 refine W.pure (v := .slice (some ⟨b, off, tg⟩) 1 cap) rfl rfl (z4k (oo rfl rfl)) ?_
 refine W.pure rfl rfl (z0f (oo rfl rfl) (Sl.isSl (sl1 ((Ext.refl _).2 _ _ hb) hl hc)) (z02 el23)) ?_
 refine W.pure (v := .int .u64 1) rfl rfl (zcm in3 zmh (oo rfl rfl) (by rfl)) ?_
 refine W.pure (v := .int _ _) rfl rfl (z4k (oo rfl rfl)) ?_
 refine W.pure (v := .int .u64 (m : Int)) rfl rfl (zcm in3 zmh (oo rfl rfl) (zic (by omega))) ?_
 obtain ⟨_, H1, c2, rfl, x4⟩ := (zmx (m := m) hm H)
 refine W.call rfl rfl (fn := Tryz.f148) (by kernel_rfl) rfl rfl c2 ?_
 have e5 := Ext.trans (Ext.refl _) x4
 refine W.pure (v := _) rfl rfl (z4k (oo rfl rfl)) ?_
 refine W.pure rfl rfl (z08 (oo rfl rfl) rfl) ?_
 refine W.pure rfl rfl (z08 (oo rfl rfl) rfl) ?_
 refine W.pure (v := .int _ _) rfl rfl (z4u (oo rfl rfl)) ?_
 refine W.pure (v := .int _ _) rfl rfl (z4u (oo rfl rfl)) ?_
 refine .nil ?_
 refine .seq ?_
 refine .seq ?_
 refine .region ?_
 refine W.pure (v := .int _ _) rfl rfl (z4k (oo rfl rfl)) ?_
 refine W.pure rfl rfl (zgm (oo rfl rfl) (oo rfl rfl) rfl) ?_
 refine W.pure (v := .bool _) rfl rfl (z4k (oo rfl rfl)) ?_
 refine W.pure (v := .int _ _) (gk rfl rfl (congrArg Value.bool (decide_eq_false (by decide))) rfl) rfl (z4k (oo rfl rfl)) ?_
 refine W.pure (gk rfl rfl (congrArg Value.bool (decide_eq_false (by decide))) rfl) rfl (zgm (oo rfl rfl) (oo rfl rfl) rfl) ?_
 refine W.pure (v := .bool _) rfl rfl (z89 (oo rfl (congrArg Value.bool (decide_eq_false (by decide)))) (oo rfl rfl)) ?_
 refine .nil ?_
 refine .condF rfl (congrArg Value.bool (decide_eq_false (by omega))) ?_
 refine .skip ?_
 refine .seq ?_
 refine .region ?_
 refine W.pure (v := .int _ _) rfl rfl (z4k (oo rfl rfl)) ?_
 refine W.pure (v := .int .i64 (m : Int)) rfl rfl (zcm zmh in3 (oo rfl rfl) (zid (by omega))) ?_
 refine W.makeSlice (N := m) rfl rfl el23 ze22 sz22 (by kernel_rfl) by22 rfl rfl (by omega) (by decide) fun b6 H7 nb8 => ?_
 have fr9 := Nat.le_trans (e5).1 nb8.fresh
 have e10 := Ext.trans e5 nb8.ext
 have k11 := nb8.get
 refine W.pure (v := .slice (some ⟨b6, 0, some 0⟩) m m) rfl rfl (z4u (oo rfl rfl)) ?_
 refine .nil ?_
 refine .seq ?_
 refine .region ?_
 refine W.pure (v := .slice (some ⟨b6, 0, some 0⟩) m m) rfl rfl (z4k (oo rfl rfl)) ?_
 refine W.pure (v := .slice (some ⟨b, off, tg⟩) 1 cap) rfl rfl (z4k (oo rfl rfl)) ?_
 refine W.copy0 (n2 := 1) rfl rfl el23 sz22 rfl (Sl.isSl (sl1 (e10.2 _ _ hb) hl hc)) (by omega) ?_
 refine W.pure (v := .int _ _) rfl rfl (z4u (oo rfl rfl)) ?_
 refine .nil ?_
 refine .seq ?_
 refine .block ?_
 refine AW.loop (α := Nat) (fun j σ' H' => (Ext H H') /\ (σ' 8 = .int .i64 0) /\ (H'.get b6 = some ((⟨[], 22, 1, true⟩ : ABlk)))) (fun j => m - j) 0 ⟨e10, rfl, (k11.trans (congrArg (fun c => some (⟨c, 22, 1, true⟩ : ABlk)) (by subst h0; rfl)))⟩ ?_
 rintro j σ15 H16 fr17 ⟨e12, t8_13, k14⟩
 have h7_18 : σ15 7 = .slice (some ⟨b6, 0, some 0⟩) m m := (fr17 7 rfl).trans rfl
 refine .seq ?_
 refine .seq ?_
 refine .region ?_
 refine W.pure (v := .int _ _) rfl rfl (z4k (oo rfl t8_13)) ?_
 refine W.pure (v := .slice (some ⟨b6, 0, some 0⟩) m m) rfl rfl (z4k (oo rfl h7_18)) ?_
 refine W.pure rfl rfl (z0f (oo rfl rfl) (Or.inr ⟨_, _, _, _, rfl⟩) (z02 el23)) ?_
 refine W.pure rfl rfl (zgm (oo rfl rfl) (oo rfl rfl) rfl) ?_
 refine .nil ?_
 refine .condF rfl (congrArg Value.bool (decide_eq_false (by omega))) ?_
 refine .exit ?_
 refine .seq ?_
 refine .region ?_
 refine W.pure (v := .slice (some ⟨b6, 0, some 0⟩) m m) rfl rfl (z4k (oo rfl h7_18)) ?_
 refine W.pure (v := .slice (some ⟨b6, 0, some 0⟩) m m) rfl rfl (z4u (oo rfl rfl)) ?_
 refine .nil ?_
 refine .ret ?_
 refine zoo (P := Tryz.prog) (fn := Tryz.f93) (n := 48) (R := fun v H' => (∃ b', v = .slice (some ⟨b', 0, some 0⟩) m m /\ H.next <= b' /\ H'.get b' = some ⟨List.replicate m (.string a), 22, 1, true⟩) /\ Ext H H') (v := .slice (some ⟨b6, 0, some 0⟩) m m) (by rfl) (by rfl) (by exact rfl) ?_
 -- leaf 1
 exact ⟨⟨_, rfl, by omega, by rw [k14]; subst h0; rfl⟩, e12⟩
theorem zod (H : AH) (a : zAd) (m b off cap : Nat) (tg : Option Nat) (k : ABlk) (hm : m <= 40) (hb : H.get b = some k) (hl : off + 1 <= k.cells.length) (hc : (k.cells.drop off).take 1 = [(.string a)]) : ∃ v H', ACalls Tryz.prog 93 [.slice (some ⟨b, off, tg⟩) 1 cap, .int .i64 (m : Int)] H v H' /\ (fun v H' => (∃ b', v = .slice (some ⟨b', 0, some 0⟩) m m /\ H.next <= b' /\ H'.get b' = some ⟨List.replicate m (.string a), 22, 1, true⟩) /\ Ext H H') v H' := by
 rcases Nat.eq_zero_or_pos m with h0 | h0
 ·exact zlv H a m b off cap tg k hm h0 hb hl hc
 ·exact zmy H a m b off cap tg k hm h0 hb hl hc
def z0q (K : Nat) (p0 : List zAd) (p1 : Int) : Option (List zAd) := match p0 with
 | [a] => if 0 <= p1 /\ p1 <= 40 then some (List.replicate p1.toNat a) else none
 | _ => none
theorem z5a (K : Nat) {G : GM} {H : AH} {L : List Pc} (v0 : Value) (p0 : List zAd) (hp0 : (rSl rS).rep G [v0] p0) (p1 : Int) (O : Ow G H L) (r : List zAd) (h : z0q K p0 p1 = some r) :
  CRF Tryz.prog 93 [v0, (.int .i64 p1)] G H (fun w => (eSl w 22 rS r :: L)) (fun w v G' => w = v) := by
 unfold z0q at h
 split at h
 ·rename_i a
  obtain ⟨⟨h0, h1⟩, h⟩ := z2p h
  cases h
  obtain ⟨v', es, hv, h2, h3⟩ := hp0
  cases hv
  cases h3 with
  | cons h4 h5 =>
   cases h5
   rename_i c
   have hc : c = [(.string a)] := h4
   subst hc
   obtain ⟨m, rfl⟩ : ∃ m : Nat, p1 = (m : Int) := ⟨p1.toNat, by omega⟩
   obtain ⟨_, ⟨rfl, h6⟩ | ⟨b, off, tg, cap, k, rfl, h6, h7, h8, _⟩ | ⟨_, _, _, _, _, h6, _⟩⟩ := h2
   ·cases h6
   ·have h8' : (k.cells.drop off).take 1 = [(.string a)] := h8
    obtain ⟨v, H', e1, ⟨b', rfl, e2, e3⟩, e4⟩ := zod H a m b off cap tg k (by omega) (O.fro b k h6) h7 h8'
    have nb : NewB H H' b' ⟨List.replicate m (.string a), 22, 1, true⟩ := ⟨e4, e3, e2, z87 e3⟩
    refine ⟨_, _, H', G, e1, O.new nb _ rfl ⟨List.replicate m [(.string a)], .inr ⟨b', some 0, m, [], 1, by simp, ?_, ?_, by simp, .inr rfl⟩, All2.replicate (R := rS.rep G) (a := [(.string a)]) rfl m⟩, zAf _, rfl⟩
    ·rw [e3]; simp [zia]
    ·show _ = m * 1; simp [zia]
   ·cases h6
 ·cases h
end Go.Am.Tryz
