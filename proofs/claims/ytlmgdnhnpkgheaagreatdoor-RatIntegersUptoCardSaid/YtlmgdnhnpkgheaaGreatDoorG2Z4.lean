/- Rules for regions whose order is open, with blocks that are made beside; slices that are lent for a call. -/
import Derived.Test.YtlmgdnhnpkgheaaGreatDoorG1Z4
import Derived.Test.YtlmgdnhnpkgheaaGreatDoorProg
import Derived.BigRegion
import Derived.Shelf.Strings.Search1
import Derived.Laws.Strings
namespace Go.Am
open Go
noncomputable section
set_option linter.unusedSimpArgs false
set_option linter.unusedVariables false

def AWD2 (P : Program) (n : Nat) (ops : Array Oper) (M : List Nat) (N0 : Nat) (l : List Oper) (i : Nat) (R : ReadL) (L : LoudL) (A : AllocL) (σ : Nat → Value) (H : AH) (Q : (Nat → Value) → AH → Prop) : Prop :=
  ∃ es σ' H', DOps2 P ops M N0 l i R L A (toL n σ) H es (toL n σ') H' ∧ (∀ t, wrL l t = false → σ' t = σ t) ∧ Q σ' H'
/-- What is free for blocks that operations from i on make. -/
def Free (N0 m i : Nat) (H : AH) : Prop := ∀ k, i ≤ k → k < m → H.get (N0 + k) = none ∧ N0 + k < H.next

section
variable {P : Program} {n : Nat} {σ : Nat → Value} {H H1 : AH} {ops : Array Oper} {l : List Oper} {Q : (Nat → Value) → AH → Prop} {QX : QX} {d : Tmp} {dd : Option Tmp} {ty t yt e : TypeId} {pos : String} {af : Array Edge} {g : Option (Nat × Bool)} {v u w : Value} {x y c : Operand} {s : List Value} {cs : List Value}
  {M : List Nat} {N0 m : Nat} {R : ReadL} {L : LoudL} {A : AllocL} {i : Nat} {o : Oper} {op : Op} {Φ : Value → AH → Prop} {G : GM} {Ls : List Pc}

theorem AW.draw2 {id : Nat} (hmix : P.follows .mixedOrders = true) (hM : ancs ops.toList [] = M) (hord : orderOk ops M = true) (h : ∀ H1 N0, Ext H H1 → Free N0 ops.size 0 H1 → AWD2 P n ops M N0 ops.toList 0 [] [] [] σ H1 (QX .normal)) : AW P n (.region id ops true) σ H QX := by
  obtain ⟨es, σ', H', h1, h2, h3⟩ := h (reserve H ops.size) H.next (.reserve H _) (fun k _ hk => ⟨by rw [reserve_get, AH.get_def, if_neg (by omega)], by rw [reserve_next]; omega⟩)
  exact ⟨.normal, σ', H', .drawR2 hmix hM hord h1, h2, h3⟩
theorem AWD2.nil (h : Q σ H) : AWD2 P n ops M N0 [] i R L A σ H Q := ⟨[], σ, H, .nil, fun _ _ => rfl, h⟩
theorem D2.skip (hg : gok n ops σ g false) (hd : dok n dd = true) (hr : AWD2 P n ops M N0 l (i + 1) R L A (upo σ dd undef) H Q) : AWD2 P n ops M N0 (⟨dd, op, ty, pos, af, g⟩ :: l) i R L A σ H Q := by
  obtain ⟨es, σ', H', h1, h2, h3⟩ := hr
  exact ⟨_, σ', H', .skip (wanted_gok hg) (by rw [putd_upo hd]; exact h1), fr_upo h2, h3⟩
theorem D2.skipU {j : Nat} {want : Bool} {d' : Tmp} (h1 : (ops[j]?).bind (·.dst) = some d') (h2 : Nat.blt d' n = true) (h3 : σ d' = undef) (hd : dok n dd = true) (hr : AWD2 P n ops M N0 l (i + 1) R L A (upo σ dd undef) H Q) : AWD2 P n ops M N0 (⟨dd, op, ty, pos, af, some (j, want)⟩ :: l) i R L A σ H Q := by
  obtain ⟨es, σ', H', h4, h5, h6⟩ := hr
  exact ⟨_, σ', H', .skip (wanted_undef rfl h1 h2 h3) (by rw [putd_upo hd]; exact h4), fr_upo h5, h6⟩
theorem D2.pure (hg : gok n ops σ g true) (hd : Nat.blt d n = true) (h : apure P (toL n σ) ⟨some d, op, ty, pos, af, g⟩ = some v) (hr : AWD2 P n ops M N0 l (i + 1) R L A (up σ d v) H Q) : AWD2 P n ops M N0 (⟨some d, op, ty, pos, af, g⟩ :: l) i R L A σ H Q := by
  obtain ⟨es, σ', H', h1, h2, h3⟩ := hr
  exact ⟨_, σ', H', .pure (wanted_gok hg) h (by rw [putd_upo (d := some d) hd]; exact h1), fr_upo h2, h3⟩
theorem D2.splitAt {b : Bool} {t : Nat} (h : σ t = .bool b) (h1 : b = true → σ t = .bool true → AWD2 P n ops M N0 l i R L A σ H Q) (h2 : b = false → σ t = .bool false → AWD2 P n ops M N0 l i R L A σ H Q) : AWD2 P n ops M N0 l i R L A σ H Q := by
  cases b with
  | true => exact h1 rfl h
  | false => exact h2 rfl h
theorem D2.read {b : Nat} (hg : gok n ops σ g true) (hd : Nat.blt d n = true) (h : aread P (toL n σ) ⟨some d, op, ty, pos, af, g⟩ H.get = some v) (hb : readsOf (toL n σ) ⟨some d, op, ty, pos, af, g⟩ = some b)
    (hL : ∀ q ∈ L, (M.getD i 0).testBit q.1 = true ∨ q.2.2.get b = q.2.1.get b) (hr : AWD2 P n ops M N0 l (i + 1) ((i, b) :: R) L A (up σ d v) H Q) : AWD2 P n ops M N0 (⟨some d, op, ty, pos, af, g⟩ :: l) i R L A σ H Q := by
  obtain ⟨es, σ', H', h1, h2, h3⟩ := hr
  exact ⟨_, σ', H', .read (wanted_gok hg) h hb hL (by rw [putd_upo (d := some d) hd]; exact h1), fr_upo h2, h3⟩
theorem D2.load1' {r : List Value} (hg : gok n ops σ g true) (hd : (Nat.blt d n && ook n x) = true) (ha : isAggT P t = some false) (hp : Pt H (oval σ x) (v :: r)) (hL : ∀ q ∈ L, (M.getD i 0).testBit q.1 = true ∨ q.2.2.get (blkOf (oval σ x)) = q.2.1.get (blkOf (oval σ x)))
    (hr : AWD2 P n ops M N0 l (i + 1) ((i, blkOf (oval σ x)) :: R) L A (up σ d v) H Q) : AWD2 P n ops M N0 (⟨some d, .load t x, ty, pos, af, g⟩ :: l) i R L A σ H Q := by
  simp only [Bool.and_eq_true] at hd
  exact D2.read hg hd.1 (r_load1 ha (opnd_oval hd.2) hp) (reads_load hd.2 hp) hL hr
theorem D2.loadA' {N : Nat} (hg : gok n ops σ g true) (hd : (Nat.blt d n && ook n x) = true) (ha : isAggT P t = some true) (hz : szT P t = some N) (hp : Pt H (oval σ x) cs) (hN : cs.length = N) (hL : ∀ q ∈ L, (M.getD i 0).testBit q.1 = true ∨ q.2.2.get (blkOf (oval σ x)) = q.2.1.get (blkOf (oval σ x)))
    (hr : AWD2 P n ops M N0 l (i + 1) ((i, blkOf (oval σ x)) :: R) L A (up σ d (.agg cs.toArray)) H Q) : AWD2 P n ops M N0 (⟨some d, .load t x, ty, pos, af, g⟩ :: l) i R L A σ H Q := by
  simp only [Bool.and_eq_true] at hd
  exact D2.read hg hd.1 (r_loadA ha hz (opnd_oval hd.2) hp hN) (reads_load hd.2 hp) hL hr
theorem D2.lo (hg : gok n ops σ g true) (hd : dok n dd = true) (hs : Loud P n ⟨dd, op, ty, pos, af, g⟩ σ H Φ) (hR : ∀ v H1, Φ v H1 → ∀ r ∈ R, (M.getD i 0).testBit r.1 = true ∨ H1.get r.2 = H.get r.2) (hL : ∀ q ∈ L, (M.getD i 0).testBit q.1 = true)
    (hA : ∀ v H1, Φ v H1 → ∀ r ∈ A, (M.getD i 0).testBit r.1 = true ∨ H1.get r.2 = H.get r.2) (hr : ∀ v H1, Φ v H1 → AWD2 P n ops M N0 l (i + 1) R ((i, H, H1) :: L) A (upo σ dd v) H1 Q) : AWD2 P n ops M N0 (⟨dd, op, ty, pos, af, g⟩ :: l) i R L A σ H Q := by
  obtain ⟨v, H1, h1, h2⟩ := hs
  obtain ⟨es, σ', H', k1, k2, k3⟩ := hr v H1 h2
  exact ⟨_, σ', H', .loud (wanted_gok hg) h1 (hR v H1 h2) hL (hA v H1 h2) (by rw [putd_upo hd]; exact k1), fr_upo k2, k3⟩

/-! ### Blocks that are made -/
/-- What an operation that makes a block gives: its value and the piece, by the block's number. -/
def AlOk (P : Program) (n : Nat) (o : Oper) (σ : Nat → Value) (G : GM) (val : Nat → Value) (pc : Nat → Pc) : Prop :=
  ∃ blk mk, aalloc P (toL n σ) o = some (blk, mk) ∧ ∀ b, mk.val b = val b ∧ (pc b).foot = [b] ∧ ∀ M : GM, M b = some blk → (pc b).ok G M
theorem exists_upd (H : AH) (b : Nat) (x : Option ABlk) (hb : b < H.next) : ∃ H1 : AH, (∀ c, H1.get c = Am.upd H.get b x c) ∧ H1.next = H.next := by
  refine ⟨⟨H.next, (List.range H.next).map fun j => Am.upd H.get b x (H.next - 1 - j)⟩, fun c => ?_, rfl⟩
  rw [AH.get_def]
  by_cases hc : c < H.next
  · rw [if_pos hc]
    have : H.next - 1 - c < H.next := by omega
    simp only [List.getD_eq_getElem?_getD, List.getElem?_map, List.getElem?_range this, Option.map_some, Option.getD_some]
    congr 1; omega
  · rw [if_neg hc, upd_other _ _ (by omega), AH.get_def, if_neg hc]
theorem Ow.newAt {b : Nat} {k : ABlk} (h : Ow G H Ls) (hb : H.get b = none) (hs : ∀ c, c ≠ b → H1.get c = H.get c) (p : Pc) (hf : p.foot = [b]) (hk : p.ok G H1.get) : Ow G H1 (p :: Ls) ∧ Same G Ls H H1 := by
  have hv : ∀ c, Vis G Ls c → c ≠ b := fun c hc e => by subst e; obtain ⟨k, hk⟩ := h.vis hc; rw [hb] at hk; cases hk
  have hsm : Same G Ls H H1 := fun c hc => hs c (hv c hc)
  refine ⟨⟨fun c k hc => ?_, fun i q hi => ?_, fun i j q1 q2 hij hi hj c hc => ?_, fun i q hi c hc => ?_⟩, hsm⟩
  · rw [hsm c (.inl ⟨k, hc⟩)]; exact h.fro c k hc
  · cases i with
    | zero => simp at hi; subst hi; exact hk
    | succ i => simp at hi; exact q.loc (fun c hc => hsm c (.inr ⟨i, q, hi, hc⟩)) (h.ok i q hi)
  · cases i with
    | zero =>
      simp at hi; subst hi
      rw [hf] at hc; simp at hc; subst hc
      cases j with
      | zero => exact absurd rfl hij
      | succ j => exact fun hc => hv c (.inr ⟨j, q2, by simpa using hj, hc⟩) rfl
    | succ i =>
      cases j with
      | zero => simp at hj; subst hj; rw [hf]; simp; exact hv c (.inr ⟨i, q1, by simpa using hi, hc⟩)
      | succ j => exact h.dis i j q1 q2 (by omega) (by simpa using hi) (by simpa using hj) c hc
  · cases i with
    | zero =>
      simp at hi; subst hi
      rw [hf] at hc; simp at hc; subst hc
      cases hg : G c with
      | none => rfl
      | some k => exact absurd rfl (hv c (.inl ⟨k, hg⟩))
    | succ i => exact h.apart i q (by simpa using hi) c hc
theorem D2.alloc {val : Nat → Value} {pc : Nat → Pc} (hg : gok n ops σ g true) (hd : Nat.blt d n = true) (hs : AlOk P n ⟨some d, op, ty, pos, af, g⟩ σ G val pc) (hF : Free N0 m i H) (hi : Nat.blt i m = true) (O : Ow G H Ls)
    (hr : ∀ b H1, Ow G H1 (pc b :: Ls) ∧ Same G Ls H H1 ∧ Free N0 m (i + 1) H1 → AWD2 P n ops M N0 l (i + 1) R [] ((i, b) :: A) (up σ d (val b)) H1 Q) : AWD2 P n ops M N0 (⟨some d, op, ty, pos, af, g⟩ :: l) i R [] A σ H Q := by
  obtain ⟨blk, mk, h1, h2⟩ := hs
  have hi' := blt_iff.1 hi
  obtain ⟨f1, f2⟩ := hF i (Nat.le_refl _) hi'
  obtain ⟨H1, h3, h4⟩ := exists_upd H (N0 + i) (some blk) f2
  obtain ⟨k1, k2, k3⟩ := h2 (N0 + i)
  obtain ⟨o1, o2⟩ := O.newAt (k := blk) f1 (fun c hc => by rw [h3, upd_other _ _ hc]) (pc (N0 + i)) k2 (k3 _ (by rw [h3]; exact upd_same _ _ _))
  obtain ⟨es, σ', H', q1, q2, q3⟩ := hr (N0 + i) H1 ⟨o1, o2, fun k hk hkm => by
    obtain ⟨g1, g2⟩ := hF k (by omega) hkm
    exact ⟨by rw [h3, upd_other _ _ (by omega)]; exact g1, by rw [h4]; exact g2⟩⟩
  refine ⟨_, σ', H', .alloc (wanted_gok hg) h1 f1 h3 h4 (by rw [putd_upo (d := some d) hd, k1]; exact q1), fr_upo (o := ⟨some d, op, ty, pos, af, g⟩) (v := val (N0 + i)) q2, q3⟩

variable {α : Type} {r : RT α}
theorem Free.up {i j : Nat} (h : Nat.ble i j = true) (F : Free N0 m i H) : Free N0 m j H := fun k hk hkm => F k (by have := Nat.le_of_ble_eq_true h; omega) hkm
theorem fill_cons' {place : Nat → Option (Nat × Nat)} {cs : List Value} {i off sz : Nat} {v : Value} {rest : List (Nat × Value)} (hp : place i = some (off, sz)) (hv : v.cells.toList.length = sz) (hf : off + sz ≤ cs.length) :
    Instr.fill place cs.toArray ((i, v) :: rest) = Instr.fill place (splice cs off v.cells.toList).toArray rest := by
  have hv' : v.cells.size = sz := by simpa using hv
  have := fill_cons (place := place) (i := i) (off := off) (cells := cs.toArray) (rest := rest) (v := v) (by rw [hp, hv']) (by simp; omega)
  simpa using this
theorem Al.alloc {z : Value} {x0 : α} (hz : (P.info? e).bind (·.zero) = some z) (hs : z.cells.all scalar = true) (hr : ∀ G, r.rep G z.cells.toList x0) : AlOk P n ⟨some d, .alloc e, ty, pos, af, g⟩ σ G (fun b => .pointer (some ⟨b, 0, none⟩)) (fun b => eVar b e r x0) := by
  obtain ⟨inf, hi, hz⟩ := Option.bind_eq_some_iff.1 hz
  exact ⟨⟨z.cells.toList, e, 1, true⟩, .ptr, by simp only [aalloc, hi, hz, Option.bind_some, hs, if_true], fun b => ⟨rfl, rfl, fun M hM => ⟨_, hM, hr _⟩⟩⟩
theorem Al.box {x0 : α} (hd : ook n x = true) (hx : oval σ x = v) (hr : r.rep G v.cells.toList x0) : AlOk P n ⟨some d, .box e x, ty, pos, af, g⟩ σ G (fun b => .pointer (some ⟨b, 0, none⟩)) (fun b => eVar b e r x0) :=
  ⟨⟨v.cells.toList, e, 1, true⟩, .ptr, by simp [aalloc, oo hd hx], fun b => ⟨rfl, rfl, fun M hM => ⟨_, hM, hr⟩⟩⟩
theorem Al.buildSlice {N : Nat} {ps : Array (Nat × Operand)} {vs : List Value} {xs : List α} {z : Value} (he : elemT P t = some e) (hz : (P.info? e).bind (·.zero) = some z) (hsz : szT P e = some r.sz) (hsc : (z.cells.all scalar && (z.cells.size != 0) && decide (N * r.sz ≤ 2 ^ 24)) = true)
    (ho : (ps.toList.all fun p => ook n p.2) = true) (hps : ps.toList.map (fun p => (p.1, oval σ p.2)) = (vs.zipIdx.map fun p => (p.2, p.1))) (hN : vs.length = N) (hr : All2 (fun v x => r.rep G v.cells.toList x) vs xs) :
    AlOk P n ⟨some d, .buildSlice t N ps, ty, pos, af, g⟩ σ G (fun b => .slice (some ⟨b, 0, some 0⟩) N N) (fun b => eSl (.slice (some ⟨b, 0, some 0⟩) N N) e r xs) := by
  obtain ⟨inf, hi, hsz⟩ := szT_inv hsz
  simp only [hi, Option.bind_some] at hz
  have hcs : All2 (r.rep G) (vs.map fun v => v.cells.toList) xs := by
    clear hps hN
    induction hr with
    | nil => exact .nil
    | cons h1 _ ih => exact .cons h1 ih
  have hvs : ∀ v ∈ vs, v.cells.size = r.sz := fun v hv => by
    have := hcs.each v.cells.toList (List.mem_map.2 ⟨v, hv, rfl⟩)
    simpa using this
  have hf : Instr.fill (fun j => some (j * r.sz, r.sz)) (zcells z.cells (N * r.sz)).toArray (vs.zipIdx.map fun p => (p.2, p.1)) = some (vs.map fun v => v.cells.toList).flatten.toArray := by
    have := fill_all (sz := r.sz) vs 0 (zcells z.cells (N * r.sz)) [] rfl (by simp) hvs (by simp [zcells_length, hN]) (by simp)
    simpa using this
  refine ⟨⟨(vs.map fun v => v.cells.toList).flatten, e, 1, true⟩, .sl N N (some 0), ?_, fun b => ⟨rfl, rfl, fun M hM => ⟨_, .inr ⟨b, some 0, N, [], 1, by simp [hN], by simpa using hM, ?_, by simp [hN], .inr rfl⟩, hcs⟩⟩⟩
  · simp only [aalloc, elemT_inv he, hi, hz, Option.bind_some, hsz, hsc, if_true, opndP_oo ho hps, hf, Option.map_some]
  · rw [List.append_nil, hcs.flatLen, ← hr.length, hN]

/-! ### Results -/
def RR (P : Program) (n : Nat) (σ : Nat → Value) (H : AH) (r : ResultVar) (v : Value) : Prop := aresult P (toL n σ) H r = some v
theorem rr_tmp {t : Tmp} (ht : Nat.blt t n = true) (hv : σ t = v) : RR P n σ H (.tmp t) v := by
  unfold RR aresult
  simp [List.getD_eq_getElem?_getD, toL_get (blt_iff.1 ht), hv]
theorem rr_cellA {a : Tmp} {t : TypeId} {p : Value} {N : Nat} (ha : Nat.blt a n = true) (hg : isAggT P t = some true) (hz : szT P t = some N) (hp : σ a = p) (h : PtG H.get p cs) (hN : cs.length = N) : RR P n σ H (.cell a t) (.agg (List.toArray cs)) := by
  obtain ⟨b, off, k, rfl, h2, h3, h4⟩ := h
  obtain ⟨inf, hi, rfl⟩ := szT_inv hz
  rw [hN] at h3 h4
  unfold RR aresult
  simp [List.getD_eq_getElem?_getD, toL_get (blt_iff.1 ha), hp, aload, h2, hg, hi, h3, h4]
theorem ret0R {fn : Func} {R : Value → AH → Prop} (hr : fn.results.toList = []) (h : R (.tuple #[]) H) : retQ P fn n R .ret σ H := ⟨.tuple #[], by simp [aret, hr, aresults], h⟩
theorem ret1R {fn : Func} {R : Value → AH → Prop} {r1 : ResultVar} {v1 : Value} (hr : fn.results.toList = [r1]) (h1 : RR P n σ H r1 v1) (h : R v1 H) : retQ P fn n R .ret σ H := ⟨v1, by unfold RR at h1; simp [aret, hr, aresults, h1], h⟩
theorem ret2R {fn : Func} {R : Value → AH → Prop} {r1 r2 : ResultVar} {v1 v2 : Value} (hr : fn.results.toList = [r1, r2]) (h1 : RR P n σ H r1 v1) (h2 : RR P n σ H r2 v2) (h : R (.tuple #[v1, v2]) H) : retQ P fn n R .ret σ H :=
  ⟨_, by unfold RR at h1 h2; simp [aret, hr, aresults, h1, h2], h⟩
theorem ret3R {fn : Func} {R : Value → AH → Prop} {r1 r2 r3 : ResultVar} {v1 v2 v3 : Value} (hr : fn.results.toList = [r1, r2, r3]) (h1 : RR P n σ H r1 v1) (h2 : RR P n σ H r2 v2) (h3 : RR P n σ H r3 v3) (h : R (.tuple #[v1, v2, v3]) H) : retQ P fn n R .ret σ H :=
  ⟨_, by unfold RR at h1 h2 h3; simp [aret, hr, aresults, h1, h2, h3], h⟩

/-! ### Slices that are lent -/
theorem Ow.reval {v v' : Value} {j : Nat} {xs : List α} (O : Ow G H Ls) (hj : Ls[j]? = some (eSl v e r xs)) (h : v' = v) : Ow G H (Ls.set j (eSl v' e r xs)) := by
  subst h
  exact O.put hj _ (fun b hb => .inl hb) (O.ok j _ hj) (fun b k hk _ => hk)

theorem Ow.lend {v : Value} {xs : List α} {j : Nat} (O : Ow G H Ls) (hj : Ls[j]? = some (eSl v e r xs)) : ∃ G1, G.le G1 ∧ Ow G1 H (Ls.eraseIdx j) ∧ (rSl r).rep G1 [v] xs ∧
    ∀ G2 H1, G1.le G2 → Ow G2 H1 ((Ls.eraseIdx j).map fun p => p.pin H.get) → ∃ G3, Ow G3 H1 Ls ∧ G.le G3 ∧ Same G Ls H H1 := by
  classical
  obtain ⟨G1, h1, h2, h3⟩ := O.freeze hj
  obtain ⟨G1', h1', h2', h3'⟩ := O.frzSl hj
  have hrep : (rSl r).rep G1 [v] xs := by
    obtain ⟨es, h4, h5⟩ := O.ok j _ hj
    refine ⟨v, es, rfl, SlO.slG (e := e) ?_ h5.each, h5.mono fun _ _ => r.mono h2⟩
    rcases h4 with h4 | ⟨b, tg, cap, rest, sz', rfl, hb, h⟩
    · exact .inl h4
    · exact .inr ⟨b, tg, cap, rest, sz', rfl, (h3 b (by simp [eSl, footV])).trans hb, h⟩
  refine ⟨G1, h2, h1, hrep, fun G2 H1 hle O2 => ?_⟩
  let F := (eSl v e r xs).foot
  have hFG : ∀ b k, G b = some k → b ∉ F := fun b k hb hF => by have := O.apart j _ hj b hF; rw [hb] at this; cases this
  have hsF : ∀ b ∈ F, H1.get b = H.get b := fun b hb => by
    obtain ⟨k, hk⟩ := (eSl v e r xs).bnd (O.ok j _ hj) b hb
    rw [hk]; exact O2.fro b k (hle b k (by rw [h3 b hb]; exact hk))
  have hL : ∀ i p, i ≠ j → Ls[i]? = some p → (∀ b ∈ p.foot, H1.get b = H.get b) ∧ ∀ b ∈ p.foot, G2 b = none := fun i p hij hi => by
    have : ((Ls.eraseIdx j).map fun p => p.pin H.get)[if i < j then i else i - 1]? = some (p.pin H.get) := by
      rw [List.getElem?_map, List.getElem?_eraseIdx]
      by_cases hlt : i < j
      · simp [hlt, hi]
      · have h1 : ¬ (i - 1 < j) := by omega
        simp only [hlt, if_false, h1]
        rw [show i - 1 + 1 = i by omega, hi]; rfl
    exact ⟨fun b hb => (O2.ok _ _ this b hb).1, fun b hb => O2.apart _ _ this b hb⟩
  have hG3 : G.le fun b => if b ∈ F then none else G2 b := fun b k hb => by
    simp only [if_neg (hFG b k hb)]; exact hle b k (h2 b k hb)
  refine ⟨fun b => if b ∈ F then none else G2 b, ⟨fun b k hb => ?_, fun i p hi => ?_, O.dis, fun i p hi b hb => ?_⟩, hG3, fun b hb => ?_⟩
  · by_cases hF : b ∈ F
    · simp [hF] at hb
    · exact O2.fro b k (by simpa [hF] using hb)
  · by_cases hij : i = j
    · subst hij
      rw [hj] at hi; cases hi
      exact (eSl v e r xs).loc hsF ((eSl v e r xs).mono hG3 (O.ok i _ hj))
    · exact p.loc (hL i p hij hi).1 (p.mono hG3 (O.ok i p hi))
  · by_cases hij : i = j
    · subst hij; rw [hj] at hi; cases hi; simp [F, hb]
    · by_cases hF : b ∈ F
      · simp [hF]
      · simp [hF, (hL i p hij hi).2 b hb]
  · rcases hb with ⟨k, hk⟩ | ⟨i, p, hi, hb⟩
    · rw [O.fro b k hk]; exact O2.fro b k (hle b k (h2 b k hk))
    · by_cases hij : i = j
      · subst hij; rw [hj] at hi; cases hi; exact hsF b hb
      · exact (hL i p hij hi).1 b hb
/-- A call that looks at a slice of our own, and hands back nothing that lies in memory. -/
theorem Lo.callB {f : FuncId} {args : Array Operand} {ats : Array TypeId} {al : List Value} {fn : Func} {j : Nat} {xs : List α} {Ψ : Value → Prop} (hj : Ls[j]? = some (eSl v e r xs)) (hd : args.toList.all (ook n) = true) (hf : P.funcs[f]? = some fn) (hnm : (fn.name == "runtime.NumGoroutine" || fn.body.isNone) = false)
    (ha : args.toList.map (oval σ) = al) (O : Ow G H Ls) (hc : ∀ G1 L, G.le G1 → Ow G1 H L → (rSl r).rep G1 [v] xs → CR P f al G1 H L fun v _ _ => Ψ v) :
    Loud P n ⟨some d, .call ⟨.value (.func f), args, ats⟩, ty, pos, af, g⟩ σ H fun v H1 => ∃ G', Ow G' H1 Ls ∧ G.le G' ∧ Same G Ls H H1 ∧ Ψ v := by
  obtain ⟨G1, h1, h2, h3, h4⟩ := O.lend hj
  have hp : Ow G1 H ((Ls.eraseIdx j).map fun p => p.pin H.get) := Ow.pin (ps := []) h2
  obtain ⟨v', H1, G2, k1, k2, k3, k4⟩ := hc G1 _ h1 hp h3
  obtain ⟨G3, q1, q2, q3⟩ := h4 G2 H1 k3 k2
  exact ⟨v', H1, call_step (fo := .func f) hd hf hnm ha k1, G3, q1, q2, q3, k4⟩
end
end
end Go.Am
/- Slices of slices that are written: a piece with all its rows; a row may be taken out and laid back. -/
namespace Go.Am
open Go
noncomputable section
set_option linter.unusedSimpArgs false
set_option linter.unusedVariables false

structure RowsOk {α : Type} (v : Value) (e : TypeId) (ws : List Value) (hs : List Nat) (e2 : TypeId) (r : RT α) (xss : List (List α)) (G M : GM) : Prop where
  out : SlO e 1 M v (ws.map fun w => [w])
  one : ∀ w ∈ ws, okCells [w] = true
  len : ws.length = xss.length
  row : ∀ i w, i ∉ hs → ws[i]? = some w → ∃ es xs, xss[i]? = some xs ∧ SlO e2 r.sz M w es ∧ All2 (r.rep G) es xs
  dis : ∀ i j w u, i ≠ j → i ∉ hs → j ∉ hs → ws[i]? = some w → ws[j]? = some u → ∀ b ∈ footV w, b ∉ footV u
  off : ∀ i w, i ∉ hs → ws[i]? = some w → ∀ b ∈ footV w, b ∉ footV v
theorem SlO.loc {e : TypeId} {sz : Nat} {M M' : GM} {v : Value} {es : List (List Value)} (hl : ∀ b ∈ footV v, M' b = M b) (h : SlO e sz M v es) : SlO e sz M' v es := by
  rcases h with h1 | ⟨b, tg, cap, rest, sz', rfl, hb, h⟩
  · exact .inl h1
  · exact .inr ⟨b, tg, cap, rest, sz', rfl, by rw [hl b (by simp [footV]), hb], h⟩
theorem SlO.bnd {e : TypeId} {sz : Nat} {M : GM} {v : Value} {es : List (List Value)} (h : SlO e sz M v es) : ∀ b ∈ footV v, ∃ k, M b = some k := fun c hc => by
  rcases h with ⟨rfl, _⟩ | ⟨b, tg, cap, rest, sz', rfl, hb, h⟩
  · simp [footV] at hc
  · simp [footV] at hc; subst hc; exact ⟨_, hb⟩

section
variable {α : Type} {r : RT α} {G : GM} {H H1 : AH} {L : List Pc} {v w w' u : Value} {e e2 : TypeId} {ws : List Value} {hs : List Nat} {xss : List (List α)} {xs : List α} {i j k : Nat}
end

section
variable {P : Program} {n : Nat} {σ : Nat → Value} {H H1 : AH} {d : Tmp} {dd : Option Tmp} {ty t e e2 : TypeId} {pos : String} {af : Array Edge} {g : Option (Nat × Bool)} {v u w w' : Value} {x y : Operand}
  {G : GM} {L : List Pc} {j i : Nat} {α : Type} {r : RT α} {ws : List Value} {xss : List (List α)}
end
end
end Go.Am
/- Reads in an open region through a pointer that is known only by an equation. -/
namespace Go.Am
open Go
theorem fa_px {v w : Value} {A B : AH} (h : v = w) (k : B.get (blkOf w) = A.get (blkOf w)) : B.get (blkOf v) = A.get (blkOf v) := by subst h; exact k
theorem gap {α : Type} {r : α} {C : Prop} (h : (none : Option α) = some r) : C := by cases h
section
variable {α : Type} {r : RT α} {G : GM} {b N : Nat} {xs : List α}
variable {P : Program} {d : Tmp} {ty t e : TypeId} {pos : String} {af : Array Edge} {g : Option (Nat × Bool)} {x : Operand} {s : List Value}
/-- The slice of a whole array. -/
theorem slArr (h : At G G (.pointer (some ⟨b, 0, none⟩)) (rArr N r) xs) : (rSl r).rep G [.slice (some ⟨b, 0, some 0⟩) N N] xs := by
  obtain ⟨cs, ⟨b', off, k, h1, h2, h3, h4⟩, hn, es, h5, h6⟩ := h
  cases h1
  have hl := h6.length
  have hf : cs.length = es.length * r.sz := by rw [h5, h6.flatLen, ← hl]
  refine ⟨_, es, rfl, ⟨h6.each, .inr (.inl ⟨b, 0, some 0, N, k, by rw [hl, hn], h2, by rw [← hf]; exact h3, by rw [← hf, h4, h5], by omega, .inr rfl⟩)⟩, h6⟩
theorem v_slArr {sz : Nat} (ha : arrT P t = some (N, e)) (hz : szT P e = some sz) (hx : opnd s x = some (.pointer (some ⟨b, 0, none⟩))) : apure P s ⟨some d, .slice t x none none none, ty, pos, af, g⟩ = some (.slice (some ⟨b, 0, some 0⟩) N N) := by
  unfold szT at hz
  cases hi : P.info? e with
  | none => rw [hi] at hz; cases hz
  | some inf => simp [apure, hx, aSlice, arrT_inv ha, hi, bnd, opndO]
end
section
variable {P : Program} {n : Nat} {σ : Nat → Value} {G : GM} {H : AH} {ops : Array Oper} {l : List Oper} {d : Tmp} {ty t u e : TypeId} {pos : String} {af : Array Edge} {g : Option (Nat × Bool)} {x : Operand}
theorem cells_u8 : ∀ (es : List (List Value)) (xs : List Int), All2 ((rI .u8).rep G) es xs → bytesOfCells es.flatten = some xs
  | _, _, .nil => rfl
  | _, _, .cons h r => by
    cases h
    have := cells_u8 _ _ r
    simp [bytesOfCells, this]
/-- A text of the bytes of a slice that is not empty. -/
theorem W.bytesStr {Q : (Nat → Value) → AH → Prop} {es : List (List Value)} {xs : List Int} (hg : gok n ops σ g true) (hd : (Nat.blt d n && ook n x) = true) (he : elemT P t = some e) (hi : intT P e = some .u8) (hu : P.underlying u = some .string)
    (hs : SlG H.get 1 (oval σ x) es) (h2 : All2 ((rI .u8).rep G) es xs) (h0 : 0 < xs.length) (hr : AWO P n ops l (up σ d (.string (strOfNums xs))) H Q) : AWO P n ops (⟨some d, .convert t u x, ty, pos, af, g⟩ :: l) σ H Q := by
  simp only [Bool.and_eq_true] at hd
  have hl := h2.length
  obtain ⟨_, ⟨_, h⟩ | ⟨b, off, tg, cap, k, h3, h4, h5, h6, _⟩ | ⟨_, _, _, _, _, h, _⟩⟩ := hs
  · rw [h] at hl; simp at hl; omega
  · have hx := opnd_oval (σ := σ) hd.2
    rw [h3] at hx
    rw [Nat.mul_one] at h5 h6
    refine W.read hg hd.1 ?_ ?_ hr
    · simp [apure, agen, isSel, Op.operands, hx, closed, scalar]
    · simp [aread, hx, aBytesStr, elemT_inv he, hu, h4, intT_inv hi, h5, h6, cells_u8 es xs h2]
  · rw [h] at hl; simp at hl; omega
end
end Go.Am
/- Parts of texts and of slices. -/
namespace Go.Am
open Go
set_option linter.unusedSimpArgs false
set_option linter.unusedVariables false
section
variable {P : Program} {d : Tmp} {ty t e : TypeId} {pos : String} {af : Array Edge} {g : Option (Nat × Bool)} {x xl xh : Operand} {s : List Value} {a r : ByteArray} {k k2 : IntKind} {l h : Int}
theorem ssl_inv (q : ssl a l h = some r) : 0 ≤ l ∧ l ≤ h ∧ h ≤ a.size ∧ r = a.extract l.toNat h.toNat := by
  unfold ssl at q
  split at q
  · rename_i c; cases q; exact ⟨c.1, c.2.1, c.2.2, rfl⟩
  · cases q
theorem bound_ok {y : Nat} {c : BoundsCode} (h0 : 0 ≤ l) (h1 : l ≤ y) : (Instr.sliceBound (.int k l) y c).pureRun P = some l.toNat := by
  unfold Instr.sliceBound
  simp [asIntOf, pureRun_bind, pureRun_pure, h0, h1]
theorem v_sslLH (hu : P.underlying t = some .string) (hx : opnd s x = some (.string a)) (hl : opnd s xl = some (.int k l)) (hh : opnd s xh = some (.int k2 h)) (q : ssl a l h = some r) : apure P s ⟨some d, .slice t x (some xl) (some xh) none, ty, pos, af, g⟩ = some (.string r) := by
  obtain ⟨h1, h2, h3, rfl⟩ := ssl_inv q
  have hc : ∀ b, closed (.string b) = true := fun _ => rfl
  have hi : ∀ k i, closed (.int k i) = true := fun _ _ => rfl
  have hl' : l ≤ (h.toNat : Nat) := by omega
  simp [apure, hx, hl, hh, agen, isSel, Op.operands, hc, hi, execOp, Instr.sliceAt, Instr.slice, Instr.sliceBounds, pureRun_bind, pureRun_map, pureRun_pure, pureRun_under hu, bound_ok (show 0 ≤ h by omega) h3, bound_ok h1 hl']
theorem v_sslL (hu : P.underlying t = some .string) (hx : opnd s x = some (.string a)) (hl : opnd s xl = some (.int k l)) (q : ssl a l (a.size : Int) = some r) : apure P s ⟨some d, .slice t x (some xl) none none, ty, pos, af, g⟩ = some (.string r) := by
  obtain ⟨h1, h2, h3, rfl⟩ := ssl_inv q
  have hc : ∀ b, closed (.string b) = true := fun _ => rfl
  have hi : ∀ k i, closed (.int k i) = true := fun _ _ => rfl
  simp [apure, hx, hl, agen, isSel, Op.operands, hc, hi, execOp, Instr.sliceAt, Instr.slice, Instr.sliceBounds, pureRun_bind, pureRun_map, pureRun_pure, pureRun_under hu, bound_ok h1 h2]
theorem v_sslH (hu : P.underlying t = some .string) (hx : opnd s x = some (.string a)) (hh : opnd s xh = some (.int k2 h)) (q : ssl a 0 h = some r) : apure P s ⟨some d, .slice t x none (some xh) none, ty, pos, af, g⟩ = some (.string r) := by
  obtain ⟨h1, h2, h3, rfl⟩ := ssl_inv q
  have hc : ∀ b, closed (.string b) = true := fun _ => rfl
  have hi : ∀ k i, closed (.int k i) = true := fun _ _ => rfl
  simp [apure, hx, hh, agen, isSel, Op.operands, hc, hi, execOp, Instr.sliceAt, Instr.slice, Instr.sliceBounds, pureRun_bind, pureRun_map, pureRun_pure, pureRun_under hu, bound_ok (show 0 ≤ h by omega) h3]
end
section
variable {α : Type} {R : RT α} {G : GM} {P : Program} {d : Tmp} {ty t e : TypeId} {pos : String} {af : Array Edge} {g : Option (Nat × Bool)} {x xl xh : Operand} {k k2 : IntKind} {v : Value} {xs ys : List α}
theorem lsl_inv {l h : Int} (q : lsl xs l h = some ys) : ∃ l' h' : Nat, l = l' ∧ h = h' ∧ l' ≤ h' ∧ h' ≤ xs.length ∧ ys = (xs.drop l').take (h' - l') := by
  unfold lsl at q
  split at q
  · rename_i c; cases q; exact ⟨l.toNat, h.toNat, by omega, by omega, by omega, by omega, rfl⟩
  · cases q
/-- A prefix of a piece is a piece. -/
theorem Ow.pre {H : AH} {L : List Pc} {j : Nat} {h : Int} (O : Ow G H L) (hj : L[j]? = some (eSl v e R xs)) (he : elemT P t = some e) (hz : szT P e = some R.sz) (q : lsl xs 0 h = some ys) : ∃ w, (∀ {s : List Value} {d ty pos af g x xh k2}, opnd s x = some v → opnd s xh = some (.int k2 h) → apure P s ⟨some d, .slice t x none (some xh) none, ty, pos, af, g⟩ = some w) ∧ Ow G H (L.set j (eSl w e R ys)) := by
  obtain ⟨l', h', h0, rfl, h1, h2, rfl⟩ := lsl_inv q
  obtain rfl : l' = 0 := by omega
  obtain ⟨inf, hinf, hsz⟩ := szT_inv hz
  obtain ⟨es, hs, hr⟩ := O.ok j _ hj
  have hlen := hr.length
  have hb0 : ∀ y, bnd none 0 y = some 0 := fun y => by simp [bnd]
  rcases hs with ⟨rfl, rfl⟩ | ⟨b, tg, cap, rest, sz', rfl, hb, hl, hcap, htg⟩
  · have e0 : xs.length = 0 := by simpa using hlen.symm
    obtain rfl : h' = 0 := by omega
    refine ⟨.slice none 0 0, fun {s d ty pos af g x xh k2} hx hh => ?_, ?_⟩
    · simp [apure, hx, opndO, hh, aSlice, elemT_inv he, hinf, bnd]
    · refine O.put hj _ (fun b hb => .inl hb) ⟨[], .inl ⟨rfl, rfl⟩, by simpa using All2.nil⟩ fun b k hk _ => hk
  · refine ⟨.slice (some ⟨b, 0, tg⟩) h' cap, fun {s d ty pos af g x xh k2} hx hh => ?_, ?_⟩
    · have hbh : bnd (some (.int k2 (h' : Int))) es.length cap = some h' := by simp [bnd]; omega
      have htt : tg = none ∨ tg = some 0 := htg.imp And.left id
      simp only [apure, hx, opndO, hh, Option.bind_some, Option.map_some, aSlice, elemT_inv he, hinf, hbh, hb0]
      rw [if_pos ⟨hcap, htt⟩]
      simp
    · refine O.put hj _ (fun b hb => .inl hb) ⟨es.take h', .inr ⟨b, tg, cap, (es.drop h').flatten ++ rest, sz', ?_, ?_, ?_, ?_, htg⟩, by simpa using hr.take h'⟩ fun b k hk _ => hk
      · rw [List.length_take]; congr 1; omega
      · rw [hb, ← List.append_assoc, ← List.flatten_append, List.take_append_drop]
      · rw [← List.append_assoc, ← List.flatten_append, List.take_append_drop]; exact hl
      · rw [List.length_take]; omega
/-- The length of a prefix of a piece. -/
theorem Ow.view {H : AH} {L : List Pc} {j : Nat} {h : Int} (O : Ow G H L) (hj : L[j]? = some (eSl v e R xs)) (he : elemT P t = some e) (hz : szT P e = some R.sz) (q : lsl xs 0 h = some ys) : ∃ w, (∀ {s : List Value} {d ty pos af g x xh k2}, opnd s x = some v → opnd s xh = some (.int k2 h) → apure P s ⟨some d, .slice t x none (some xh) none, ty, pos, af, g⟩ = some w) ∧ isSlV w ys.length := by
  obtain ⟨w, h1, h2⟩ := O.pre hj he hz q
  refine ⟨w, h1, ?_⟩
  have hjl : j < L.length := (List.getElem?_eq_some_iff.1 hj).1
  exact h2.slLen (j := j) (e := e) (r := R) (by rw [List.getElem?_set]; simp [hjl])
end
section
variable {P : Program} {d : Tmp} {ty src dst : TypeId} {pos : String} {af : Array Edge} {g : Option (Nat × Bool)} {x : Operand} {s : List Value} {a : ByteArray} {k k1 : IntKind} {n : Int}
theorem v_neg {t : TypeId} (hx : opnd s x = some (.int k n)) : apure P s ⟨some d, .unOp .neg t x, ty, pos, af, g⟩ = some (.int k (kwrap k (-n))) := by
  have hc : ∀ k n, closed (.int k n) = true := fun _ _ => rfl
  have hq : (Op.unary .neg (.int k n)).pureRun P = some (.int k (kwrap k (-n))) := by rw [kwrap_eq, ← Int.zero_sub]; rfl
  simp [apure, hx, agen, isSel, Op.operands, hc, execOp, pureRun_bind, pureRun_map, pureRun_pure, hq]
theorem v_convIS (h1 : intT P src = some k1) (h2 : P.underlying dst = some .string) (hx : opnd s x = some (.int k n)) : apure P s ⟨some d, .convert src dst x, ty, pos, af, g⟩ = some (.string (Utf8.encode n)) := by
  have hc : ∀ k n, closed (.int k n) = true := fun _ _ => rfl
  have hs : ∀ b, closed (.string b) = true := fun _ => rfl
  have hq : (convert src dst (.int k n)).pureRun P = some (.string (Utf8.encode n)) := by
    unfold convert
    rw [pureRun_bind, pureRun_under (intT_inv h1), Option.bind_some, pureRun_bind, pureRun_under h2]
    rfl
  simp [apure, hx, agen, isSel, Op.operands, hc, hs, execOp, pureRun_bind, pureRun_map, pureRun_pure, hq]
end
end Go.Am
/- Short rules for printed walks. -/
namespace Go.Am
open Go
noncomputable section
set_option linter.unusedVariables false
section
variable {P : Program} {n : Nat} {σ : Nat → Value} {H H1 : AH} {ops : Array Oper} {l : List Oper} {Q : (Nat → Value) → AH → Prop} {d : Tmp} {dd : Option Tmp} {ty t yt e : TypeId} {pos : String} {af : Array Edge} {g : Option (Nat × Bool)} {x y c : Operand}
  {M : List Nat} {N0 m : Nat} {R : ReadL} {L : LoudL} {A : AllocL} {i : Nat} {op : Op}
theorem W.q1 (v : Value) (h : oval σ x = v) (hr : AWO P n ops l (up σ d v) H Q) (hg : gok n ops σ g true := by rfl) (hd : Nat.blt d n = true := by rfl) (hx : ook n x = true := by rfl) : AWO P n ops (⟨some d, .assign x, ty, pos, af, g⟩ :: l) σ H Q :=
  W.pure hg hd (v_assign (oo hx h)) hr
theorem W.q2 (v : Value) (h : oval σ x = v) (hr : AWO P n ops l (up σ d v) H Q) (hg : gok n ops σ g true := by rfl) (hd : Nat.blt d n = true := by rfl) (hx : ook n x = true := by rfl) : AWO P n ops (⟨some d, .move x, ty, pos, af, g⟩ :: l) σ H Q :=
  W.pure hg hd (v_move (oo hx h)) hr
theorem W.q3 (v : Value) {bop : BinOp} {k : IntKind} {a b : Int} (h1 : oval σ x = .int k a) (h2 : oval σ y = .int k b) (hr : AWO P n ops l (up σ d v) H Q) (hg : gok n ops σ g true := by rfl) (hd : Nat.blt d n = true := by rfl) (hx : ook n x = true := by rfl) (hy : ook n y = true := by rfl) (hv : aint bop k a b = some v := by rfl) :
    AWO P n ops (⟨some d, .binOp bop t x y yt, ty, pos, af, g⟩ :: l) σ H Q :=
  W.pure hg hd (v_int (oo hx h1) (oo hy h2) hv) hr
theorem W.q4 (v : Value) (hc : oval σ c = .bool true) (h : oval σ x = v) (hr : AWO P n ops l (up σ d v) H Q) (hg : gok n ops σ g true := by rfl) (hd : Nat.blt d n = true := by rfl) (h1 : ook n c = true := by rfl) (hx : ook n x = true := by rfl) : AWO P n ops (⟨some d, .pick c x y, ty, pos, af, g⟩ :: l) σ H Q :=
  W.pure hg hd (v_pickT (oo h1 hc) (oo hx h)) hr
theorem W.q5 (v : Value) (hc : oval σ c = .bool false) (h : oval σ y = v) (hr : AWO P n ops l (up σ d v) H Q) (hg : gok n ops σ g true := by rfl) (hd : Nat.blt d n = true := by rfl) (h1 : ook n c = true := by rfl) (hy : ook n y = true := by rfl) : AWO P n ops (⟨some d, .pick c x y, ty, pos, af, g⟩ :: l) σ H Q :=
  W.pure hg hd (v_pickF (oo h1 hc) (oo hy h)) hr
theorem W.q6 {j : Nat} {want b : Bool} {d' : Tmp} (h1 : (ops[j]?).bind (·.dst) = some d') (h3 : σ d' = .bool b) (hr : AWO P n ops l (upo σ dd undef) H Q) (h2 : Nat.blt d' n = true := by rfl) (h4 : (b == want) = false := by rfl) (hd : dok n dd = true := by rfl) : AWO P n ops (⟨dd, op, ty, pos, af, some (j, want)⟩ :: l) σ H Q :=
  W.skip (gk h1 h2 h3 h4) hd hr
theorem D2.q1 (v : Value) (h : oval σ x = v) (hr : AWD2 P n ops M N0 l (i + 1) R L A (up σ d v) H Q) (hg : gok n ops σ g true := by rfl) (hd : Nat.blt d n = true := by rfl) (hx : ook n x = true := by rfl) : AWD2 P n ops M N0 (⟨some d, .assign x, ty, pos, af, g⟩ :: l) i R L A σ H Q :=
  D2.pure hg hd (v_assign (oo hx h)) hr
theorem D2.q2 (v : Value) (h : oval σ x = v) (hr : AWD2 P n ops M N0 l (i + 1) R L A (up σ d v) H Q) (hg : gok n ops σ g true := by rfl) (hd : Nat.blt d n = true := by rfl) (hx : ook n x = true := by rfl) : AWD2 P n ops M N0 (⟨some d, .move x, ty, pos, af, g⟩ :: l) i R L A σ H Q :=
  D2.pure hg hd (v_move (oo hx h)) hr
theorem D2.q3 (v : Value) {bop : BinOp} {k : IntKind} {a b : Int} (h1 : oval σ x = .int k a) (h2 : oval σ y = .int k b) (hr : AWD2 P n ops M N0 l (i + 1) R L A (up σ d v) H Q) (hg : gok n ops σ g true := by rfl) (hd : Nat.blt d n = true := by rfl) (hx : ook n x = true := by rfl) (hy : ook n y = true := by rfl) (hv : aint bop k a b = some v := by rfl) :
    AWD2 P n ops M N0 (⟨some d, .binOp bop t x y yt, ty, pos, af, g⟩ :: l) i R L A σ H Q :=
  D2.pure hg hd (v_int (oo hx h1) (oo hy h2) hv) hr
end
end
end Go.Am
/- What the proofs ask of the program's types. -/
namespace Go.Am.Tryz
open Go Go.Am Go.Proofs
theorem in2 : intT Tryz.prog 2 = some Go.IntKind.i64 := by kernel_rfl
theorem sz3 : szT Tryz.prog 3 = some 1 := by kernel_rfl
theorem ze3 : (Tryz.prog.info? 3).bind (·.zero) = some (Go.Value.int Go.IntKind.i64 0) := by kernel_rfl
theorem ag3 : isAggT Tryz.prog 3 = some false := by kernel_rfl
theorem by3 : ((Tryz.prog.info? 3).map (·.bytes)) = some 8 := by kernel_rfl
theorem in3 : intT Tryz.prog 3 = some Go.IntKind.i64 := by kernel_rfl
theorem ag4 : isAggT Tryz.prog 4 = some false := by kernel_rfl
theorem un4 : Tryz.prog.underlying 4 = some Go.TypeDesc.bool := by kernel_rfl
theorem sz5 : szT Tryz.prog 5 = some 1 := by kernel_rfl
theorem ze5 : (Tryz.prog.info? 5).bind (·.zero) = some (Go.Value.int Go.IntKind.u8 0) := by kernel_rfl
theorem ag5 : isAggT Tryz.prog 5 = some false := by kernel_rfl
theorem by5 : ((Tryz.prog.info? 5).map (·.bytes)) = some 1 := by kernel_rfl
theorem in5 : intT Tryz.prog 5 = some Go.IntKind.u8 := by kernel_rfl
theorem sz9 : szT Tryz.prog 9 = some 1 := by kernel_rfl
theorem ze9 : (Tryz.prog.info? 9).bind (·.zero) = some (Go.Value.string { data := #[] }) := by kernel_rfl
theorem ag9 : isAggT Tryz.prog 9 = some false := by kernel_rfl
theorem un9 : Tryz.prog.underlying 9 = some Go.TypeDesc.string := by kernel_rfl
theorem sz22 : szT Tryz.prog 22 = some 1 := by kernel_rfl
theorem ze22 : (Tryz.prog.info? 22).bind (·.zero) = some (Go.Value.string { data := #[] }) := by kernel_rfl
theorem ag22 : isAggT Tryz.prog 22 = some false := by kernel_rfl
theorem sz24 : szT Tryz.prog 24 = some 1 := by kernel_rfl
theorem ze24 : (Tryz.prog.info? 24).bind (·.zero) = some (Go.Value.int Go.IntKind.i64 0) := by kernel_rfl
theorem ag24 : isAggT Tryz.prog 24 = some false := by kernel_rfl
theorem el31 : elemT Tryz.prog 31 = some 22 := by kernel_rfl
theorem sz46 : szT Tryz.prog 46 = some 1 := by kernel_rfl
theorem ag46 : isAggT Tryz.prog 46 = some false := by kernel_rfl
theorem ni46 : notInt Tryz.prog 46 = true := by kernel_rfl
theorem el46 : elemT Tryz.prog 46 = some 64 := by kernel_rfl
theorem sz48 : szT Tryz.prog 48 = some 3 := by kernel_rfl
theorem ze48 : (Tryz.prog.info? 48).bind (·.zero) = some (Go.Value.agg #[Go.Value.bool false, Go.Value.slice none 0 0, Go.Value.slice none 0 0]) := by kernel_rfl
theorem ag48 : isAggT Tryz.prog 48 = some true := by kernel_rfl
theorem zo48 : zeroOk Tryz.prog 48 = true := by kernel_rfl
theorem pl48 : plcT Tryz.prog 48 = some [(0, 1), (1, 1), (2, 1)] := by kernel_rfl
theorem fl48_0 : fldT Tryz.prog 48 0 = some 0 := by kernel_rfl
theorem fl48_1 : fldT Tryz.prog 48 1 = some 1 := by kernel_rfl
theorem fl48_2 : fldT Tryz.prog 48 2 = some 2 := by kernel_rfl
theorem el56 : elemT Tryz.prog 56 = some 9 := by kernel_rfl
theorem sz64 : szT Tryz.prog 64 = some 1 := by kernel_rfl
theorem ze64 : (Tryz.prog.info? 64).bind (·.zero) = some (Go.Value.int Go.IntKind.u32 0) := by kernel_rfl
theorem ag64 : isAggT Tryz.prog 64 = some false := by kernel_rfl
theorem by64 : ((Tryz.prog.info? 64).map (·.bytes)) = some 4 := by kernel_rfl
theorem in64 : intT Tryz.prog 64 = some Go.IntKind.u32 := by kernel_rfl
theorem el79 : elemT Tryz.prog 79 = some 24 := by kernel_rfl
theorem ni90 : notInt Tryz.prog 90 = true := by kernel_rfl
theorem el90 : elemT Tryz.prog 90 = some 3 := by kernel_rfl
theorem in95 : intT Tryz.prog 95 = some Go.IntKind.u64 := by kernel_rfl
theorem ni99 : notInt Tryz.prog 99 = true := by kernel_rfl
theorem el99 : elemT Tryz.prog 99 = some 5 := by kernel_rfl
theorem ze100 : (Tryz.prog.info? 100).bind (·.zero) = some (Go.Value.agg #[Go.Value.int Go.IntKind.u8 0, Go.Value.int Go.IntKind.u8 0, Go.Value.int Go.IntKind.u8 0, Go.Value.int Go.IntKind.u8 0, Go.Value.int Go.IntKind.u8 0, Go.Value.int Go.IntKind.u8 0, Go.Value.int Go.IntKind.u8 0, Go.Value.int Go.IntKind.u8 0, Go.Value.int Go.IntKind.u8 0]) := by kernel_rfl
theorem ar100 : arrT Tryz.prog 100 = some (9, 5) := by kernel_rfl
theorem mixed : Tryz.prog.follows .mixedOrders = true := by kernel_rfl
end Go.Am.Tryz
/- The place of a byte in a text: the library's function, by the shelf's contract, as a typed function. -/
namespace Go.Am.Tryz
open Go Go.Am Go.Proofs
set_option linter.unusedVariables false
def renIB : Go.Shelf.Ren := ⟨fun x => if x = 217 then 94 else if x = 266 then 101 else x, fun x => if x = 3 then 3 else if x = 5 then 5 else 9, fun x => x⟩
theorem laysIB : Lays.n217 Tryz.prog renIB where
  mixed := by kernel_rfl
  f217 := by kernel_rfl
  f266 := by kernel_rfl
  t3 := Tryz.underlying3
  a3 := Tryz.isAgg3
  z3 := Tryz.sizeOf3
  v3 := Tryz.zeroValue3
  t5 := Tryz.underlying5
  a5 := Tryz.isAgg5
  z5 := Tryz.sizeOf5
  v5 := Tryz.zeroValue5
  t9 := Tryz.underlying9
  a9 := Tryz.isAgg9
  z9 := Tryz.sizeOf9
  v9 := Tryz.zeroValue9
theorem acallsIB (s : ByteArray) (c : Int) (H : AH) : ACalls Tryz.prog 94 [.string s, .int .u8 c] H (.int .i64 (Lib.indexByte s.data.toList c.toNat.toUInt8)) H := by
  refine ⟨Nat.le_refl _, fun ι w cargs hS hargs => ?_⟩
  have he := hargs.closed_eq rfl
  have hc : cargs = #[.string s, .int .u8 c] := by
    cases cargs; exact congrArg Array.mk he
  subst hc
  refine (Any.stringslite_IndexByte laysIB s c w).mono ?_
  rintro e w' ⟨rfl, rfl⟩
  exact ⟨ι, _, rfl, .scal rfl, hS, fun _ _ h => h, fun _ _ => rfl, fun _ h => .inl h, fun _ h => .inl h, fun _ _ _ => rfl, Nat.le_refl _, rfl, rfl, rfl⟩
def g_internal_stringslite_IndexByte (K : Nat) (s : ByteArray) (c : Int) : Option Int := some (Lib.indexByte s.data.toList c.toNat.toUInt8)
theorem g_internal_stringslite_IndexByte_ok (K : Nat) {G : GM} {H : AH} {L : List Pc} (p0 : ByteArray) (p1 : Int) (O : Ow G H L) (r : Int) (h : g_internal_stringslite_IndexByte K p0 p1 = some r) :
    CR Tryz.prog 94 [.string p0, .int .u8 p1] G H L (fun v G' _ => v = .int .i64 r) := by
  cases h
  exact ⟨_, H, G, acallsIB p0 p1 H, O, GM.le.refl _, rfl⟩
end Go.Am.Tryz
/- Typed functions with the same answers as the program's, and the walks that show it. -/
namespace Go.Am.Tryz
open Go Go.Am Go.Proofs
set_option linter.unusedVariables false
set_option linter.unusedSimpArgs false
set_option maxRecDepth 10000

def g_nat_Of_l0 (K : Nat) : Nat → List Int → Int → Option (List Int)
  | 0, _, _ => none
  | k + 1, x6, x7 => (if (decide (x7 > 0)) = true then (if List.length x6 + List.length [IntKind.wrap .u32 (Int.tmod x7 1000000000)] ≤ 16777216 then g_nat_Of_l0 K k (x6 ++ [IntKind.wrap .u32 (Int.tmod x7 1000000000)]) (kwrap .i64 (Int.tdiv x7 1000000000)) else none) else some x6)
def g_nat_Of (K : Nat) (p0 : Int) : Option (List Int) := (Option.bind (g_nat_Of_l0 K K [] p0) (tu1 fun x33 => some x33))
set_option maxHeartbeats 4000000 in
theorem g_nat_Of_ok (K : Nat) {G : GM} {H : AH} {L : List Pc} (p0 : Int) (O : Ow G H (L)) (r : List Int) (h : g_nat_Of K p0 = some r) :
    CRF Tryz.prog 41 [(.int .i64 p0)] G H (fun w0 => (eSl w0 64 (rI .u32) r :: L)) (fun w0 v G' => w0 = v) := by
 unfold g_nat_Of at h
 refine CRF.of (calls_of_AW (n := 15) (fn := Tryz.f41) (R := fun v H' => ∃ w0 G', Ow G' H' (eSl w0 64 (rI .u32) r :: L) ∧ G.le G' ∧ w0 = v) (by kernel_rfl) rfl rfl ?_)
 refine .seq (.region (W.q1 (.slice none 0 0) rfl (.nil (.seq (.region (W.q1 (.slice none 0 0) rfl ?_))))))
 refine .nil (.seq ?_)
 obtain ⟨q1, h2, h3⟩ := bd_inv h
 refine AW.midT (fun σ' H' => ∃ (y1 : List Int) (G' : GM), y1 = q1 ∧ Ow G' H' (eSl (σ' 3) 64 (rI .u32) y1 :: L) ∧ GM.le G G') ?_ ?_
 rotate_left
 ·rintro σ34 H35 fr36 ⟨x33, G37, rfl, O38, s39⟩
  have h41 := tu1_inv h3
  refine .seq (.region (W.q2 (σ34 3) rfl (W.q1 (σ34 3) rfl (.nil (.ret ?_)))))
  obtain rfl := Option.some.inj h41
  refine ret1R (P := Tryz.prog) (fn := Tryz.f41) (n := 15) (R := fun v H' => ∃ w0 G', Ow G' H' (eSl w0 64 (rI .u32) x33 :: L) ∧ G.le G' ∧ w0 = v) (v1 := (σ34 3)) (by rfl) (rr_tmp (by rfl) (by exact rfl)) ?_
  exact ⟨(σ34 3), _, O38, s39, rfl⟩
 refine .block ?_
 have O4 := O.nilSl 64 (rI .u32)
 refine AW.loop (α := Nat) (fun k' σ' H' => ∃ (y1 : List Int) (y2 : Int) (G' : GM), g_nat_Of_l0 K k' y1 y2 = some q1 ∧ Ow G' H' (eSl (σ' 3) 64 (rI .u32) y1 :: L) ∧ GM.le G G' ∧ σ' 0 = .int .i64 y2) (fun k' => k') K ⟨[], p0, _, h2, O4, (GM.le.refl _), rfl⟩ ?_
 rintro k5
 rintro σ8 H9 fr10 ⟨x6, x7, G11, h14, O12, s13, t15⟩
 rcases k5 with _ | k5
 ·exact none_absurd h14
 rw [g_nat_Of_l0] at h14
 refine .seq (.seq (.region (W.q2 (.int .i64 x7) t15 (W.q3 (.bool (decide (x7 > 0))) rfl rfl (.nil (.cond (b := decide (x7 > 0)) rfl rfl (fun g16 => ?_) (fun g16 => ?_)))))))
 rotate_left
 ·have h32 := neg_b g16 h14
  refine .exit ?_
  obtain rfl := Option.some.inj h32
  exact ⟨x6, _, rfl, O12, s13⟩
 have h17 := pos_inv g16 h14
 refine .skip (.block (.seq (.region (W.q2 (σ8 3) rfl (W.q2 (.int .i64 x7) t15 (W.pure (v := (.int .i64 (Int.tmod x7 1000000000))) rfl rfl (v_rem (by decide) (oo rfl rfl) (oo rfl rfl)) ?_))))))
 refine W.pure (v := (.int .u32 (IntKind.wrap .u32 (Int.tmod x7 1000000000)))) rfl rfl (v_conv in3 in64 (oo rfl rfl)) (W.lo rfl rfl (Lo.buildSlice (r := (rI .u32)) (vs := [(.int .u32 (IntKind.wrap .u32 (Int.tmod x7 1000000000)))]) (xs := [IntKind.wrap .u32 (Int.tmod x7 1000000000)]) el46 ze64 sz64 (by kernel_rfl) rfl (qc rfl qn) rfl (.cons rfl .nil) O12) ?_)
 rintro v20 H21 ⟨O18, sm19⟩
 obtain ⟨es23, e24, e25⟩ := src_own (j := 0) rfl O18
 obtain ⟨g26, h27⟩ := gd_inv h17
 refine W.lo rfl rfl (Lo.append (j := 1) (v := (σ8 3)) rfl rfl el46 ni46 ze64 sz64 by64 (by decide) (by decide) rfl e24 e25 g26 O18) ?_
 rintro v29 H30 ⟨O22, sm28⟩
 replace O22 : Ow G11 H30 (eSl v20 64 (rI .u32) [IntKind.wrap .u32 (Int.tmod x7 1000000000)] :: eSl v29 64 (rI .u32) (x6 ++ [IntKind.wrap .u32 (Int.tmod x7 1000000000)]) :: L) := O22
 refine W.q1 v29 rfl (.nil (.region (W.q2 (.int .i64 x7) t15 (W.pure (v := (.int .i64 (kwrap .i64 (Int.tdiv x7 1000000000)))) rfl rfl (v_quo (by decide) (oo rfl rfl) (oo rfl rfl)) (W.q1 (.int .i64 (kwrap .i64 (Int.tdiv x7 1000000000))) rfl (.nil ?_))))))
 have O31 : Ow G11 H30 (eSl v29 64 (rI .u32) (x6 ++ [IntKind.wrap .u32 (Int.tmod x7 1000000000)]) :: L) := O22.drop 0
 exact ⟨k5, Nat.lt_succ_self _, ⟨(x6 ++ [IntKind.wrap .u32 (Int.tmod x7 1000000000)]), kwrap .i64 (Int.tdiv x7 1000000000), _, h27, O31, s13, rfl⟩⟩
def g_nat_N_Add_l0 (K : Nat) (x7 : List Int) (x8 : List Int) : Nat → List Int → Int → Int → Option (List Int × Int)
  | 0, _, _, _ => none
  | k + 1, x29, x30, x31 => (if (decide (x31 < (List.length x7 : Int))) = true then ((idx x7 x31).bind fun x43 => (Option.bind ((if (decide (x31 < (List.length x8 : Int))) = true then ((idx x8 x31).bind fun x52 => some (kwrap .u32 ((kwrap .u32 (x43 + x30)) + x52))) else some (kwrap .u32 (x43 + x30)))) (tu1 fun x57 => (if List.length x29 + List.length [Int.tmod x57 1000000000] ≤ 16777216 then g_nat_N_Add_l0 K x7 x8 k (x29 ++ [Int.tmod x57 1000000000]) (kwrap .u32 (Int.tdiv x57 1000000000)) (kwrap .i64 (x31 + 1)) else none)))) else some (x29, x30))
def g_nat_N_Add (K : Nat) (p0 : List Int) (p1 : List Int) : Option (List Int) := (Option.bind ((if (decide ((List.length p0 : Int) < (List.length p1 : Int))) = true then some (p1, p0) else some (p0, p1))) (tu2 fun x7 x8 => (if 0 ≤ (0 : Int) ∧ (0 : Int) ≤ (kwrap .i64 ((List.length x7 : Int) + 1)) ∧ (kwrap .i64 ((List.length x7 : Int) + 1)) ≤ 16777216 then (Option.bind (g_nat_N_Add_l0 K x7 x8 K (List.replicate (Int.toNat 0) 0) 0 0) (tu2 fun x82 x83 => (Option.bind ((if (decide (x83 > 0)) = true then (if List.length x82 + List.length [x83] ≤ 16777216 then some (x82 ++ [x83]) else none) else some x82)) (tu1 fun x113 => some x113)))) else none)))
set_option maxHeartbeats 4000000 in
theorem g_nat_N_Add_ok (K : Nat) {G : GM} {H : AH} {L : List Pc} (v0 : Value) (p0 : List Int) (hp0 : (rSl (rI .u32)).rep G [v0] p0) (v1 : Value) (p1 : List Int) (hp1 : (rSl (rI .u32)).rep G [v1] p1) (O : Ow G H (L)) (r : List Int) (h : g_nat_N_Add K p0 p1 = some r) :
    CRF Tryz.prog 42 [v0, v1] G H (fun w0 => (eSl w0 64 (rI .u32) r :: L)) (fun w0 v G' => w0 = v) := by
 unfold g_nat_N_Add at h
 refine CRF.of (calls_of_AW (n := 55) (fn := Tryz.f42) (R := fun v H' => ∃ w0 G', Ow G' H' (eSl w0 64 (rI .u32) r :: L) ∧ G.le G' ∧ w0 = v) (by kernel_rfl) rfl rfl ?_)
 refine .seq (.region (W.q1 (.slice none 0 0) rfl (.nil (.seq (.seq (.region ?_))))))
 refine W.q2 v0 rfl (W.pure (v := (.int .i64 (List.length p0 : Int))) rfl rfl (len_sl (oo rfl rfl) (sl_len hp0) (elemT_inv el46)) (W.q2 v1 rfl (W.pure (v := (.int .i64 (List.length p1 : Int))) rfl rfl (len_sl (oo rfl rfl) (sl_len hp1) (elemT_inv el46)) (W.q3 (.bool (decide ((List.length p0 : Int) < (List.length p1 : Int)))) rfl rfl (.nil ?_)))))
 obtain ⟨q1, h2, h3⟩ := bd_inv h
 refine AW.midT (fun σ' H' => ∃ (y1 : List Int) (y2 : List Int) (G' : GM), (y1, y2) = q1 ∧ Ow G' H' (L) ∧ GM.le G G' ∧ (rSl (rI .u32)).rep G' [σ' 0] y1 ∧ (rSl (rI .u32)).rep G' [σ' 1] y2) ?_ ?_
 ·refine .cond (b := decide ((List.length p0 : Int) < (List.length p1 : Int))) rfl rfl (fun g4 => ?_) (fun g4 => ?_)
  rotate_left
  ·have h6 := neg_b g4 h2
   refine .skip ?_
   obtain rfl := Option.some.inj h6
   exact ⟨p0, p1, _, rfl, O, (GM.le.refl _), hp0, hp1⟩
  have h5 := pos_inv g4 h2
  refine .region (W.q2 v1 rfl (W.q2 v0 rfl (W.q1 v1 rfl (W.q1 v0 rfl (.nil ?_)))))
  obtain rfl := Option.some.inj h5
  exact ⟨p1, p0, _, rfl, O, (GM.le.refl _), hp1, hp0⟩
 rintro σ9 H10 fr11 ⟨x7, x8, G12, rfl, O13, s14, f16, f17⟩
 have h18 := tu2_inv h3
 refine .seq (.region (W.q2 (σ9 0) rfl (W.pure (v := (.int .i64 (List.length x7 : Int))) rfl rfl (len_sl (oo rfl rfl) (sl_len f16) (elemT_inv el46)) (W.q3 (.int .i64 (kwrap .i64 ((List.length x7 : Int) + 1))) rfl rfl ?_))))
 obtain ⟨g20, h21⟩ := gd_inv h18
 refine W.lo rfl rfl (Lo.makeSlice (r := (rI .u32)) (x0 := 0) (a := 0) (c := (kwrap .i64 ((List.length x7 : Int) + 1))) rfl el46 ze64 sz64 (by kernel_rfl) rfl by64 (by decide) rfl rfl g20 (zI .u32) O13) ?_
 rintro v23 H24 ⟨O19, sm22⟩
 refine W.q1 v23 rfl (.nil (.seq (.region (W.q1 (.int .u32 0) rfl (.nil (.seq ?_))))))
 refine .seq (.region (W.q2 (σ9 0) rfl (W.pure (v := (.int .i64 (List.length x7 : Int))) rfl rfl (len_sl (oo rfl rfl) (sl_len f16) (elemT_inv el46)) (W.q2 (.int .i64 0) rfl (.nil ?_)))))
 obtain ⟨q25, h26, h27⟩ := bd_inv h21
 refine AW.midT (fun σ' H' => ∃ (y1 : List Int) (y2 : Int) (G' : GM), (y1, y2) = q25 ∧ Ow G' H' (eSl (σ' 5) 64 (rI .u32) y1 :: L) ∧ GM.le G12 G' ∧ σ' 6 = .int .u32 y2) ?_ ?_
 rotate_left
 ·rintro σ84 H85 fr86 ⟨x82, x83, G87, rfl, O88, s89, t91⟩
  have h92 := tu2_inv h27
  refine .seq (.seq (.region (W.q2 (.int .u32 x83) t91 (W.q3 (.bool (decide (x83 > 0))) rfl rfl (.nil ?_)))))
  obtain ⟨q93, h94, h95⟩ := bd_inv h92
  refine AW.midT (fun σ' H' => ∃ (y1 : List Int) (G' : GM), y1 = q93 ∧ Ow G' H' (eSl (σ' 5) 64 (rI .u32) y1 :: L) ∧ GM.le G87 G') ?_ ?_
  rotate_left
  ·rintro σ114 H115 fr116 ⟨x113, G117, rfl, O118, s119⟩
   have h121 := tu1_inv h95
   refine .seq (.region (W.q2 (σ114 5) rfl (W.q1 (σ114 5) rfl (.nil (.ret ?_)))))
   obtain rfl := Option.some.inj h121
   refine ret1R (P := Tryz.prog) (fn := Tryz.f42) (n := 55) (R := fun v H' => ∃ w0 G', Ow G' H' (eSl w0 64 (rI .u32) x113 :: L) ∧ G.le G' ∧ w0 = v) (v1 := (σ114 5)) (by rfl) (rr_tmp (by rfl) (by exact rfl)) ?_
   exact ⟨(σ114 5), _, O118, (GM.le.trans s14 (GM.le.trans s89 s119)), rfl⟩
  refine .cond (b := decide (x83 > 0)) rfl rfl (fun g96 => ?_) (fun g96 => ?_)
  rotate_left
  ·have h112 := neg_b g96 h94
   refine .skip ?_
   obtain rfl := Option.some.inj h112
   exact ⟨x82, _, rfl, O88, (GM.le.refl _)⟩
  have h97 := pos_inv g96 h94
  refine .region (W.q2 (σ84 5) rfl (W.q2 (.int .u32 x83) t91 (W.lo rfl rfl (Lo.buildSlice (r := (rI .u32)) (vs := [(.int .u32 x83)]) (xs := [x83]) el46 ze64 sz64 (by kernel_rfl) rfl (qc rfl qn) rfl (.cons rfl .nil) O88) ?_)))
  rintro v100 H101 ⟨O98, sm99⟩
  obtain ⟨es103, e104, e105⟩ := src_own (j := 0) rfl O98
  obtain ⟨g106, h107⟩ := gd_inv h97
  refine W.lo rfl rfl (Lo.append (j := 1) (v := (σ84 5)) rfl rfl el46 ni46 ze64 sz64 by64 (by decide) (by decide) rfl e104 e105 g106 O98) ?_
  rintro v109 H110 ⟨O102, sm108⟩
  replace O102 : Ow G87 H110 (eSl v100 64 (rI .u32) [x83] :: eSl v109 64 (rI .u32) (x82 ++ [x83]) :: L) := O102
  refine W.q1 v109 rfl (.nil ?_)
  have O111 : Ow G87 H110 (eSl v109 64 (rI .u32) (x82 ++ [x83]) :: L) := O102.drop 0
  obtain rfl := Option.some.inj h107
  exact ⟨(x82 ++ [x83]), _, rfl, O111, (GM.le.refl _)⟩
 refine .block (AW.loop (α := Nat) (fun k' σ' H' => ∃ (y1 : List Int) (y2 : Int) (y3 : Int) (G' : GM), g_nat_N_Add_l0 K x7 x8 k' y1 y2 y3 = some q25 ∧ Ow G' H' (eSl (σ' 5) 64 (rI .u32) y1 :: L) ∧ GM.le G12 G' ∧ σ' 6 = .int .u32 y2 ∧ σ' 22 = .int .i64 y3) (fun k' => k') K ⟨(List.replicate (Int.toNat 0) 0), 0, 0, _, h26, O19, (GM.le.refl _), rfl, rfl⟩ ?_)
 rintro k28
 rintro σ32 H33 fr34 ⟨x29, x30, x31, G35, h38, O36, s37, t39, t40⟩
 rcases k28 with _ | k28
 ·exact none_absurd h38
 rw [g_nat_N_Add_l0] at h38
 refine .seq (.region (W.q3 (.bool (decide (x31 < (List.length x7 : Int)))) t40 ((fr34 21 rfl).trans rfl) (.nil (.seq (.cond (b := decide (x31 < (List.length x7 : Int))) rfl rfl (fun g41 => ?_) (fun g41 => ?_))))))
 rotate_left
 ·have h81 := neg_b g41 h38
  refine .exit ?_
  obtain rfl := Option.some.inj h81
  exact ⟨x29, x30, _, rfl, O36, s37, t39⟩
 have h42 := pos_inv g41 h38
 refine .skip (.seq (.block (.seq (.region (W.q2 (.int .i64 x31) t40 ?_)))))
 obtain ⟨x43, i44, h45⟩ := bd_inv h42
 have j46 := idx_inv i44
 refine W.pure (v := (selem (σ9 0) (Int.toNat x31 * 1))) rfl rfl (v_idx el46 sz64 (oo rfl ((fr34 20 rfl).trans rfl)) (oo rfl t40) (sl_len (RT.mono _ s37 f16)) j46.1 j46.2.1) (W.load1 (v := (.int .u32 x43)) (r := []) rfl rfl ag64 (pt_px rfl (At.int (At.le (At.le (sl_idx f16 j46.2.2) s37 s37) (GM.le.refl _) O36.fro))) (W.q1 (.int .i64 x31) rfl (W.q1 (.int .u32 x43) rfl (.nil (.seq (.region ?_))))))
 refine W.q2 (.int .u32 x43) rfl (W.q2 (.int .u32 x30) t39 (W.q3 (.int .u32 (kwrap .u32 (x43 + x30))) rfl rfl (W.q1 (.int .u32 (kwrap .u32 (x43 + x30))) rfl (.nil (.seq (.seq ?_))))))
 refine .region (W.q2 (.int .i64 x31) rfl (W.q2 (σ9 1) ((fr34 1 rfl).trans rfl) (W.pure (v := (.int .i64 (List.length x8 : Int))) rfl rfl (len_sl (oo rfl rfl) (sl_len (RT.mono _ s37 f17)) (elemT_inv el46)) (W.q3 (.bool (decide (x31 < (List.length x8 : Int)))) rfl rfl (.nil ?_)))))
 obtain ⟨q47, h48, h49⟩ := bd_inv h45
 refine AW.midT (fun σ' H' => ∃ (y1 : Int) (G' : GM), y1 = q47 ∧ Ow G' H' (eSl (σ32 5) 64 (rI .u32) x29 :: L) ∧ GM.le G35 G' ∧ σ' 8 = .int .u32 y1) ?_ ?_
 ·refine .cond (b := decide (x31 < (List.length x8 : Int))) rfl rfl (fun g50 => ?_) (fun g50 => ?_)
  rotate_left
  ·have h56 := neg_b g50 h48
   refine .skip ?_
   obtain rfl := Option.some.inj h56
   exact ⟨kwrap .u32 (x43 + x30), _, rfl, O36, (GM.le.refl _), rfl⟩
  have h51 := pos_inv g50 h48
  refine .region (W.q2 (.int .u32 (kwrap .u32 (x43 + x30))) rfl (W.q2 (σ9 1) ((fr34 1 rfl).trans rfl) (W.q2 (.int .i64 x31) rfl ?_)))
  obtain ⟨x52, i53, h54⟩ := bd_inv h51
  have j55 := idx_inv i53
  refine W.pure (v := (selem (σ9 1) (Int.toNat x31 * 1))) rfl rfl (v_idx el46 sz64 (oo rfl rfl) (oo rfl rfl) (sl_len (RT.mono _ s37 f17)) j55.1 j55.2.1) (W.load1 (v := (.int .u32 x52)) (r := []) rfl rfl ag64 (pt_px rfl (At.int (At.le (At.le (sl_idx f17 j55.2.2) s37 s37) (GM.le.refl _) O36.fro))) (W.q3 (.int .u32 (kwrap .u32 ((kwrap .u32 (x43 + x30)) + x52))) rfl rfl (W.q1 (.int .u32 (kwrap .u32 ((kwrap .u32 (x43 + x30)) + x52))) rfl (.nil ?_))))
  obtain rfl := Option.some.inj h54
  exact ⟨kwrap .u32 ((kwrap .u32 (x43 + x30)) + x52), _, rfl, O36, (GM.le.refl _), rfl⟩
 rintro σ58 H59 fr60 ⟨x57, G61, rfl, O62, s63, t65⟩
 have h66 := tu1_inv h49
 refine .seq (.region (W.q2 (.int .u32 x57) t65 (W.pure (v := (.int .u32 (kwrap .u32 (Int.tdiv x57 1000000000)))) rfl rfl (v_quo (by decide) (oo rfl rfl) (oo rfl rfl)) (W.q1 (.int .u32 (kwrap .u32 (Int.tdiv x57 1000000000))) rfl (.nil (.region ?_))))))
 refine W.q2 (σ32 5) ((fr60 5 rfl).trans rfl) (W.q2 (.int .u32 x57) t65 (W.pure (v := (.int .u32 (Int.tmod x57 1000000000))) rfl rfl (v_rem (by decide) (oo rfl rfl) (oo rfl rfl)) (W.lo rfl rfl (Lo.buildSlice (r := (rI .u32)) (vs := [(.int .u32 (Int.tmod x57 1000000000))]) (xs := [Int.tmod x57 1000000000]) el46 ze64 sz64 (by kernel_rfl) rfl (qc rfl qn) rfl (.cons rfl .nil) O62) ?_)))
 rintro v69 H70 ⟨O67, sm68⟩
 obtain ⟨es72, e73, e74⟩ := src_own (j := 0) rfl O67
 obtain ⟨g75, h76⟩ := gd_inv h66
 refine W.lo rfl rfl (Lo.append (j := 1) (v := (σ32 5)) rfl rfl el46 ni46 ze64 sz64 by64 (by decide) (by decide) rfl e73 e74 g75 O67) ?_
 rintro v78 H79 ⟨O71, sm77⟩
 replace O71 : Ow G61 H79 (eSl v69 64 (rI .u32) [Int.tmod x57 1000000000] :: eSl v78 64 (rI .u32) (x29 ++ [Int.tmod x57 1000000000]) :: L) := O71
 refine W.q1 v78 rfl (.nil (.region (W.q3 (.int .i64 (kwrap .i64 (x31 + 1))) ((fr60 22 rfl).trans t40) rfl (W.q2 (.int .i64 (kwrap .i64 (x31 + 1))) rfl (.nil ?_)))))
 have O80 : Ow G61 H79 (eSl v78 64 (rI .u32) (x29 ++ [Int.tmod x57 1000000000]) :: L) := O71.drop 0
 exact ⟨k28, Nat.lt_succ_self _, ⟨(x29 ++ [Int.tmod x57 1000000000]), kwrap .u32 (Int.tdiv x57 1000000000), kwrap .i64 (x31 + 1), _, h76, O80, (GM.le.trans s37 s63), rfl, rfl⟩⟩
def g_rat_size (K : Nat) (p0 : Int) : Option (List Int) := (if (decide (p0 ≥ 0)) = true then ((g_nat_Of K p0).bind fun x3 => some x3) else ((g_nat_Of K (kwrap .i64 (-(kwrap .i64 (p0 + 1))))).bind fun x17 => ((g_nat_Of K 1).bind fun x30 => ((g_nat_N_Add K x17 x30).bind fun x51 => some x51))))
set_option maxHeartbeats 4000000 in
theorem g_rat_size_ok (K : Nat) {G : GM} {H : AH} {L : List Pc} (p0 : Int) (O : Ow G H (L)) (r : List Int) (h : g_rat_size K p0 = some r) :
    CRF Tryz.prog 48 [(.int .i64 p0)] G H (fun w0 => (eSl w0 64 (rI .u32) r :: L)) (fun w0 v G' => w0 = v) := by
 unfold g_rat_size at h
 refine CRF.of (calls_of_AW (n := 13) (fn := Tryz.f48) (R := fun v H' => ∃ w0 G', Ow G' H' (eSl w0 64 (rI .u32) r :: L) ∧ G.le G' ∧ w0 = v) (by kernel_rfl) rfl rfl ?_)
 refine .seq (.region (W.q1 (.slice none 0 0) rfl (.nil (.seq (.seq (.region ?_))))))
 refine W.q2 (.int .i64 p0) rfl (W.q3 (.bool (decide (p0 ≥ 0))) rfl rfl (.nil (.cond (b := decide (p0 ≥ 0)) rfl rfl (fun g1 => ?_) (fun g1 => ?_))))
 ·have h2 := pos_inv g1 h
  refine .seq (.region (W.q2 (.int .i64 p0) rfl ?_))
  obtain ⟨x3, i4, h5⟩ := bd_inv h2
  refine W.lo rfl rfl (Lo.callPF (ps := []) (pw := fun w => [eSl w 64 (rI .u32) x3]) rfl (fn := Tryz.f41) (by kernel_rfl) rfl (mc rfl mn) O (fun L' O' => g_nat_Of_ok K p0 O' _ i4)) ?_
  rintro v14 H15 ⟨w11, G6, O7, s8, sm13, rfl⟩
  replace O7 : Ow G6 H15 (eSl w11 64 (rI .u32) x3 :: L) := O7
  refine W.q1 w11 rfl (.nil (.ret ?_))
  obtain rfl := Option.some.inj h5
  refine ret1R (P := Tryz.prog) (fn := Tryz.f48) (n := 13) (R := fun v H' => ∃ w0 G', Ow G' H' (eSl w0 64 (rI .u32) x3 :: L) ∧ G.le G' ∧ w0 = v) (v1 := w11) (by rfl) (rr_tmp (by rfl) (by exact rfl)) ?_
  exact ⟨w11, _, O7, s8, rfl⟩
 have h16 := neg_b g1 h
 refine .skip (.seq (.region (W.q2 (.int .i64 p0) rfl (W.q3 (.int .i64 (kwrap .i64 (p0 + 1))) rfl rfl (W.pure (v := (.int .i64 (kwrap .i64 (-(kwrap .i64 (p0 + 1)))))) rfl rfl (v_neg (oo rfl rfl)) ?_)))))
 obtain ⟨x17, i18, h19⟩ := bd_inv h16
 refine W.lo rfl rfl (Lo.callPF (ps := []) (pw := fun w => [eSl w 64 (rI .u32) x17]) rfl (fn := Tryz.f41) (by kernel_rfl) rfl (mc rfl mn) O (fun L' O' => g_nat_Of_ok K (kwrap .i64 (-(kwrap .i64 (p0 + 1)))) O' _ i18)) ?_
 rintro v28 H29 ⟨w25, G20, O21, s22, sm27, rfl⟩
 replace O21 : Ow G20 H29 (eSl w25 64 (rI .u32) x17 :: L) := O21
 obtain ⟨x30, i31, h32⟩ := bd_inv h19
 refine W.lo rfl rfl (Lo.callPF (ps := []) (pw := fun w => [eSl w 64 (rI .u32) x30]) rfl (fn := Tryz.f41) (by kernel_rfl) rfl (mc rfl mn) O21 (fun L' O' => g_nat_Of_ok K 1 O' _ i31)) ?_
 rintro v41 H42 ⟨w38, G33, O34, s35, sm40, rfl⟩
 replace O34 : Ow G33 H42 (eSl w38 64 (rI .u32) x30 :: eSl w25 64 (rI .u32) x17 :: L) := O34
 obtain ⟨G43, O44, s45, f46⟩ := O34.frzSl (j := 1) rfl
 replace O44 : Ow G43 H42 (eSl w38 64 (rI .u32) x30 :: L) := O44
 obtain ⟨G47, O48, s49, f50⟩ := O44.frzSl (j := 0) rfl
 replace O48 : Ow G47 H42 (L) := O48
 obtain ⟨x51, i52, h53⟩ := bd_inv h32
 refine W.lo rfl rfl (Lo.callPF (ps := []) (pw := fun w => [eSl w 64 (rI .u32) x51]) rfl (fn := Tryz.f42) (by kernel_rfl) rfl (mc rfl (mc rfl mn)) O48 (fun L' O' => g_nat_N_Add_ok K w25 x17 (RT.mono _ s49 f46) w38 x30 f50 O' _ i52)) ?_
 rintro v62 H63 ⟨w59, G54, O55, s56, sm61, rfl⟩
 replace O55 : Ow G54 H63 (eSl w59 64 (rI .u32) x51 :: L) := O55
 refine W.q1 w59 rfl (.nil (.ret ?_))
 obtain rfl := Option.some.inj h53
 refine ret1R (P := Tryz.prog) (fn := Tryz.f48) (n := 13) (R := fun v H' => ∃ w0 G', Ow G' H' (eSl w0 64 (rI .u32) x51 :: L) ∧ G.le G' ∧ w0 = v) (v1 := w59) (by rfl) (rr_tmp (by rfl) (by exact rfl)) ?_
 exact ⟨w59, _, O55, (GM.le.trans s22 (GM.le.trans s35 (GM.le.trans s45 (GM.le.trans s49 s56)))), rfl⟩
def g_nat_N_Cmp_l0 (K : Nat) (p0 : List Int) (p1 : List Int) : Nat → Int → Option (Int ⊕ Unit)
  | 0, _ => none
  | k + 1, x11 => (if (decide (x11 ≥ 0)) = true then ((idx p0 x11).bind fun x27 => ((idx p1 x11).bind fun x31 => (if (decide (x27 < x31)) = true then some (.inl (-1)) else ((idx p0 x11).bind fun x44 => ((idx p1 x11).bind fun x48 => (if (decide (x44 > x48)) = true then some (.inl 1) else g_nat_N_Cmp_l0 K p0 p1 k (kwrap .i64 (x11 - 1)))))))) else some (.inr ()))
def g_nat_N_Cmp (K : Nat) (p0 : List Int) (p1 : List Int) : Option Int := (if ((List.length p0 : Int) != (List.length p1 : Int)) = true then (if (decide ((List.length p0 : Int) < (List.length p1 : Int))) = true then some (-1) else some 1) else (bindS (g_nat_N_Cmp_l0 K p0 p1 K (kwrap .i64 ((List.length p0 : Int) - 1))) (tu1 fun a65 => some a65) (tu0 (some 0))))
set_option maxHeartbeats 4000000 in
theorem g_nat_N_Cmp_ok (K : Nat) {G : GM} {H : AH} {L : List Pc} (v0 : Value) (p0 : List Int) (hp0 : (rSl (rI .u32)).rep G [v0] p0) (v1 : Value) (p1 : List Int) (hp1 : (rSl (rI .u32)).rep G [v1] p1) (O : Ow G H (L)) (r : Int) (h : g_nat_N_Cmp K p0 p1 = some r) :
    CR Tryz.prog 40 [v0, v1] G H (L) (fun v G' _ => v = .int .i64 r) := by
 unfold g_nat_N_Cmp at h
 refine CR.of (calls_of_AW (n := 43) (fn := Tryz.f40) (R := fun v H' => ∃ G', Ow G' H' (L) ∧ G.le G' ∧ v = .int .i64 r) (by kernel_rfl) rfl rfl ?_)
 refine .seq (.region (W.q1 (.int .i64 0) rfl (.nil (.seq (.seq (.region ?_))))))
 refine W.q2 v0 rfl (W.pure (v := (.int .i64 (List.length p0 : Int))) rfl rfl (len_sl (oo rfl rfl) (sl_len hp0) (elemT_inv el46)) (W.q2 v1 rfl (W.pure (v := (.int .i64 (List.length p1 : Int))) rfl rfl (len_sl (oo rfl rfl) (sl_len hp1) (elemT_inv el46)) (W.q3 (.bool ((List.length p0 : Int) != (List.length p1 : Int))) rfl rfl (.nil (.cond (b := ((List.length p0 : Int) != (List.length p1 : Int))) rfl rfl (fun g1 => ?_) (fun g1 => ?_)))))))
 ·have h2 := pos_inv g1 h
  refine .seq (.seq (.region (W.q2 v0 rfl (W.pure (v := (.int .i64 (List.length p0 : Int))) rfl rfl (len_sl (oo rfl rfl) (sl_len hp0) (elemT_inv el46)) (W.q2 v1 rfl (W.pure (v := (.int .i64 (List.length p1 : Int))) rfl rfl (len_sl (oo rfl rfl) (sl_len hp1) (elemT_inv el46)) ?_))))))
  refine W.q3 (.bool (decide ((List.length p0 : Int) < (List.length p1 : Int)))) rfl rfl (.nil (.cond (b := decide ((List.length p0 : Int) < (List.length p1 : Int))) rfl rfl (fun g3 => ?_) (fun g3 => ?_)))
  ·have h4 := pos_inv g3 h2
   refine .seq (.region (W.q1 (.int .i64 (-1)) rfl (.nil (.ret ?_))))
   obtain rfl := Option.some.inj h4
   refine ret1R (P := Tryz.prog) (fn := Tryz.f40) (n := 43) (R := fun v H' => ∃ G', Ow G' H' (L) ∧ G.le G' ∧ v = .int .i64 (-1)) (v1 := (.int .i64 (-1))) (by rfl) (rr_tmp (by rfl) (by exact rfl)) ?_
   exact ⟨_, O, (GM.le.refl _), rfl⟩
  have h5 := neg_b g3 h2
  refine .skip (.seq (.region (W.q1 (.int .i64 1) rfl (.nil (.ret ?_)))))
  obtain rfl := Option.some.inj h5
  refine ret1R (P := Tryz.prog) (fn := Tryz.f40) (n := 43) (R := fun v H' => ∃ G', Ow G' H' (L) ∧ G.le G' ∧ v = .int .i64 1) (v1 := (.int .i64 1)) (by rfl) (rr_tmp (by rfl) (by exact rfl)) ?_
  exact ⟨_, O, (GM.le.refl _), rfl⟩
 have h6 := neg_b g1 h
 refine .skip (.seq (.seq (.region (W.q2 v0 rfl (W.pure (v := (.int .i64 (List.length p0 : Int))) rfl rfl (len_sl (oo rfl rfl) (sl_len hp0) (elemT_inv el46)) (W.q3 (.int .i64 (kwrap .i64 ((List.length p0 : Int) - 1))) rfl rfl ?_))))))
 refine W.q1 (.int .i64 (kwrap .i64 ((List.length p0 : Int) - 1))) rfl (.nil ?_)
 obtain ⟨q7, h8, h9⟩ := bindS_inv h6
 refine AW.midT (fun σ' H' => ∃  (G' : GM), (.inr ()) = q7 ∧ Ow G' H' (L) ∧ GM.le G G') ?_ ?_
 rotate_left
 ·rintro σ57 H58 fr59 ⟨G60, rfl, O61, s62⟩
  have h64 := tu0_inv (outS_r h9)
  refine .seq (.region (W.q1 (.int .i64 0) rfl (.nil (.ret ?_))))
  obtain rfl := Option.some.inj h64
  refine ret1R (P := Tryz.prog) (fn := Tryz.f40) (n := 43) (R := fun v H' => ∃ G', Ow G' H' (L) ∧ G.le G' ∧ v = .int .i64 0) (v1 := (.int .i64 0)) (by rfl) (rr_tmp (by rfl) (by exact rfl)) ?_
  exact ⟨_, O61, s62, rfl⟩
 refine .block (AW.loop (α := Nat) (fun k' σ' H' => ∃ (y1 : Int) (G' : GM), g_nat_N_Cmp_l0 K p0 p1 k' y1 = some q7 ∧ Ow G' H' (L) ∧ GM.le G G' ∧ σ' 5 = .int .i64 y1) (fun k' => k') K ⟨kwrap .i64 ((List.length p0 : Int) - 1), _, h8, O, (GM.le.refl _), rfl⟩ ?_)
 rintro k10
 rintro σ12 H13 fr14 ⟨x11, G15, h18, O16, s17, t19⟩
 rcases k10 with _ | k10
 ·exact none_absurd h18
 rw [g_nat_N_Cmp_l0] at h18
 refine .seq (.seq (.region (W.q2 (.int .i64 x11) t19 (W.q3 (.bool (decide (x11 ≥ 0))) rfl rfl (.nil (.cond (b := decide (x11 ≥ 0)) rfl rfl (fun g20 => ?_) (fun g20 => ?_)))))))
 rotate_left
 ·have h56 := neg_b g20 h18
  refine .exit ?_
  obtain rfl := Option.some.inj h56
  exact ⟨_, rfl, O16, s17⟩
 have h21 := pos_inv g20 h18
 refine .skip (.seq (.block (.block (.seq (.draw2 (M := [0, 0, 3, 7, 0, 0, 48, 112, 255, 511]) mixed (by kernel_rfl) (by kernel_rfl) fun H22 N26 x23 F25 => ?_)))))
 have O24 := O16.ext x23
 refine D2.q2 v0 ((fr14 0 rfl).trans rfl) (D2.q2 (.int .i64 x11) t19 ?_)
 obtain ⟨x27, i28, h29⟩ := bd_inv h21
 have j30 := idx_inv i28
 refine D2.pure (v := (selem v0 (Int.toNat x11 * 1))) rfl rfl (v_idx el46 sz64 (oo rfl rfl) (oo rfl rfl) (sl_len (RT.mono _ s17 hp0)) j30.1 j30.2.1) (D2.load1' (v := (.int .u32 x27)) (r := []) rfl rfl ag64 (pt_px rfl (At.int (At.le (At.le (sl_idx hp0 j30.2.2) s17 s17) (GM.le.refl _) O24.fro))) fa_nil (D2.q2 v1 ((fr14 1 rfl).trans rfl) (D2.q2 (.int .i64 x11) t19 ?_)))
 obtain ⟨x31, i32, h33⟩ := bd_inv h29
 have j34 := idx_inv i32
 refine D2.pure (v := (selem v1 (Int.toNat x11 * 1))) rfl rfl (v_idx el46 sz64 (oo rfl rfl) (oo rfl rfl) (sl_len (RT.mono _ s17 hp1)) j34.1 j34.2.1) (D2.load1' (v := (.int .u32 x31)) (r := []) rfl rfl ag64 (pt_px rfl (At.int (At.le (At.le (sl_idx hp1 j34.2.2) s17 s17) (GM.le.refl _) O24.fro))) fa_nil (D2.q3 (.bool (decide (x27 < x31))) rfl rfl (D2.q1 (.bool (decide (x27 < x31))) rfl (.nil (.cond (b := decide (x27 < x31)) rfl rfl (fun g35 => ?_) (fun g35 => ?_))))))
 ·have h36 := pos_inv g35 h33
  refine .seq (.region (W.q1 (.int .i64 (-1)) rfl (.nil (.ret ?_))))
  obtain rfl := Option.some.inj h36
  have h37 := tu1_inv (outS_l h9)
  obtain rfl := Option.some.inj h37
  refine ret1R (P := Tryz.prog) (fn := Tryz.f40) (n := 43) (R := fun v H' => ∃ G', Ow G' H' (L) ∧ G.le G' ∧ v = .int .i64 (-1)) (v1 := (.int .i64 (-1))) (by rfl) (rr_tmp (by rfl) (by exact rfl)) ?_
  exact ⟨_, O24, s17, rfl⟩
 have h38 := neg_b g35 h33
 refine .seq (.draw2 (M := [0, 0, 3, 7, 0, 0, 48, 112, 255, 511]) mixed (by kernel_rfl) (by kernel_rfl) fun H39 N43 x40 F42 => ?_)
 have O41 := O24.ext x40
 refine D2.q2 v0 ((fr14 0 rfl).trans rfl) (D2.q2 (.int .i64 x11) t19 ?_)
 obtain ⟨x44, i45, h46⟩ := bd_inv h38
 have j47 := idx_inv i45
 refine D2.pure (v := (selem v0 (Int.toNat x11 * 1))) rfl rfl (v_idx el46 sz64 (oo rfl rfl) (oo rfl rfl) (sl_len (RT.mono _ s17 hp0)) j47.1 j47.2.1) (D2.load1' (v := (.int .u32 x44)) (r := []) rfl rfl ag64 (pt_px rfl (At.int (At.le (At.le (sl_idx hp0 j47.2.2) s17 s17) (GM.le.refl _) O41.fro))) fa_nil (D2.q2 v1 ((fr14 1 rfl).trans rfl) (D2.q2 (.int .i64 x11) t19 ?_)))
 obtain ⟨x48, i49, h50⟩ := bd_inv h46
 have j51 := idx_inv i49
 refine D2.pure (v := (selem v1 (Int.toNat x11 * 1))) rfl rfl (v_idx el46 sz64 (oo rfl rfl) (oo rfl rfl) (sl_len (RT.mono _ s17 hp1)) j51.1 j51.2.1) (D2.load1' (v := (.int .u32 x48)) (r := []) rfl rfl ag64 (pt_px rfl (At.int (At.le (At.le (sl_idx hp1 j51.2.2) s17 s17) (GM.le.refl _) O41.fro))) fa_nil (D2.q3 (.bool (decide (x44 > x48))) rfl rfl (D2.q1 (.bool (decide (x44 > x48))) rfl (.nil (.cond (b := decide (x44 > x48)) rfl rfl (fun g52 => ?_) (fun g52 => ?_))))))
 rotate_left
 ·have h55 := neg_b g52 h50
  refine .skip (.region (W.q2 (.int .i64 x11) t19 (W.q3 (.int .i64 (kwrap .i64 (x11 - 1))) rfl rfl (W.q1 (.int .i64 (kwrap .i64 (x11 - 1))) rfl (.nil ?_)))))
  exact ⟨k10, Nat.lt_succ_self _, ⟨kwrap .i64 (x11 - 1), _, h55, O41, s17, rfl⟩⟩
 have h53 := pos_inv g52 h50
 refine .seq (.region (W.q1 (.int .i64 1) rfl (.nil (.ret ?_))))
 obtain rfl := Option.some.inj h53
 have h54 := tu1_inv (outS_l h9)
 obtain rfl := Option.some.inj h54
 refine ret1R (P := Tryz.prog) (fn := Tryz.f40) (n := 43) (R := fun v H' => ∃ G', Ow G' H' (L) ∧ G.le G' ∧ v = .int .i64 1) (v1 := (.int .i64 1)) (by rfl) (rr_tmp (by rfl) (by exact rfl)) ?_
 exact ⟨_, O41, s17, rfl⟩
def g_nat_N_trim_l0 (K : Nat) : Nat → List Int → Option (List Int)
  | 0, _ => none
  | k + 1, x5 => (Option.bind ((if (decide ((List.length x5 : Int) > 0)) = true then ((idx x5 (kwrap .i64 ((List.length x5 : Int) - 1))).bind fun x19 => some (x19 == 0)) else some false)) (tu1 fun x24 => (if x24 = true then ((lsl x5 0 (kwrap .i64 ((List.length x5 : Int) - 1))).bind fun x36 => g_nat_N_trim_l0 K k x36) else some x5)))
def g_nat_N_trim (K : Nat) (p0 : List Int) : Option (List Int) := (Option.bind (g_nat_N_trim_l0 K K p0) (tu1 fun x43 => some x43))
set_option maxHeartbeats 4000000 in
theorem g_nat_N_trim_ok (K : Nat) {G : GM} {H : AH} {L : List Pc} (v0 : Value) (p0 : List Int) (O : Ow G H (eSl v0 64 (rI .u32) p0 :: L)) (r : List Int) (h : g_nat_N_trim K p0 = some r) :
    CRF Tryz.prog 81 [v0] G H (fun w0 => (eSl w0 64 (rI .u32) r :: L)) (fun w0 v G' => w0 = v) := by
 unfold g_nat_N_trim at h
 refine CRF.of (calls_of_AW (n := 21) (fn := Tryz.f81) (R := fun v H' => ∃ w0 G', Ow G' H' (eSl w0 64 (rI .u32) r :: L) ∧ G.le G' ∧ w0 = v) (by kernel_rfl) rfl rfl ?_)
 refine .seq (.region (W.q1 (.slice none 0 0) rfl (.nil (.seq ?_))))
 obtain ⟨q1, h2, h3⟩ := bd_inv h
 refine AW.midT (fun σ' H' => ∃ (y1 : List Int) (G' : GM), y1 = q1 ∧ Ow G' H' (eSl (σ' 0) 64 (rI .u32) y1 :: L) ∧ GM.le G G') ?_ ?_
 rotate_left
 ·rintro σ44 H45 fr46 ⟨x43, G47, rfl, O48, s49⟩
  have h51 := tu1_inv h3
  refine .seq (.region (W.q2 (σ44 0) rfl (W.q1 (σ44 0) rfl (.nil (.ret ?_)))))
  obtain rfl := Option.some.inj h51
  refine ret1R (P := Tryz.prog) (fn := Tryz.f81) (n := 21) (R := fun v H' => ∃ w0 G', Ow G' H' (eSl w0 64 (rI .u32) x43 :: L) ∧ G.le G' ∧ w0 = v) (v1 := (σ44 0)) (by rfl) (rr_tmp (by rfl) (by exact rfl)) ?_
  exact ⟨(σ44 0), _, O48, s49, rfl⟩
 refine .block (AW.loop (α := Nat) (fun k' σ' H' => ∃ (y1 : List Int) (G' : GM), g_nat_N_trim_l0 K k' y1 = some q1 ∧ Ow G' H' (eSl (σ' 0) 64 (rI .u32) y1 :: L) ∧ GM.le G G') (fun k' => k') K ⟨p0, _, h2, O, (GM.le.refl _)⟩ ?_)
 rintro k4
 rintro σ6 H7 fr8 ⟨x5, G9, h12, O10, s11⟩
 rcases k4 with _ | k4
 ·exact none_absurd h12
 rw [g_nat_N_trim_l0] at h12
 refine .seq (.seq ?_)
 obtain ⟨q13, h14, h15⟩ := bd_inv h12
 refine AW.midT (fun σ' H' => ∃ (y1 : Bool) (G' : GM), y1 = q13 ∧ Ow G' H' (eSl (σ6 0) 64 (rI .u32) x5 :: L) ∧ GM.le G9 G' ∧ σ' 14 = .bool y1) ?_ ?_
 rotate_left
 ·rintro σ25 H26 fr27 ⟨x24, G28, rfl, O29, s30, t32⟩
  have h33 := tu1_inv h15
  refine .cond (b := x24) rfl t32 (fun g34 => ?_) (fun g34 => ?_)
  rotate_left
  ·have h42 := neg_b g34 h33
   refine .exit ?_
   obtain rfl := Option.some.inj h42
   exact ⟨x5, _, rfl, (Ow.reval (j := 0) O29 rfl ((fr27 0 rfl).trans rfl)), (GM.le.trans s11 s30)⟩
  have h35 := pos_inv g34 h33
  refine .skip (.block (.region (W.q2 (σ6 0) ((fr27 0 rfl).trans rfl) (W.q2 (σ6 0) ((fr27 0 rfl).trans rfl) (W.pure (v := (.int .i64 (List.length x5 : Int))) rfl rfl (len_sl (oo rfl rfl) (O29.slLen (j := 0) rfl) (elemT_inv el46)) (W.q3 (.int .i64 (kwrap .i64 ((List.length x5 : Int) - 1))) rfl rfl ?_))))))
  obtain ⟨x36, i37, h38⟩ := bd_inv h35
  obtain ⟨w39, e41, O40⟩ := O29.pre (j := 0) rfl el46 sz64 i37
  replace O40 : Ow G28 H26 (eSl w39 64 (rI .u32) x36 :: L) := O40
  refine W.pure (v := w39) rfl rfl (e41 (oo rfl rfl) (oo rfl rfl)) (W.q1 w39 rfl (.nil ?_))
  exact ⟨k4, Nat.lt_succ_self _, ⟨x36, _, h38, O40, (GM.le.trans s11 s30)⟩⟩
 refine .region (W.q2 (σ6 0) rfl (W.pure (v := (.int .i64 (List.length x5 : Int))) rfl rfl (len_sl (oo rfl rfl) (O10.slLen (j := 0) rfl) (elemT_inv el46)) (W.q3 (.bool (decide ((List.length x5 : Int) > 0))) rfl rfl (W.q2 (.bool (decide ((List.length x5 : Int) > 0))) rfl (W.splitAt (t := 6) (b := decide ((List.length x5 : Int) > 0)) rfl (fun g16 gv17 => ?_) (fun g16 gv17 => ?_))))))
 rotate_left
 ·have h23 := neg_b g16 h14
  refine W.q6 rfl gv17 (W.q6 rfl gv17 (W.q6 rfl gv17 (W.q6 rfl gv17 (W.q6 rfl gv17 (W.q6 rfl gv17 (W.q6 rfl gv17 ?_))))))
  refine W.q5 (.bool false) gv17 rfl (.nil ?_)
  obtain rfl := Option.some.inj h23
  exact ⟨false, _, rfl, O10, (GM.le.refl _), rfl⟩
 have h18 := pos_inv g16 h14
 refine W.q2 (hg := gk rfl rfl gv17 rfl) (σ6 0) rfl (W.q2 (hg := gk rfl rfl gv17 rfl) (σ6 0) rfl (W.pure (v := (.int .i64 (List.length x5 : Int))) (gk rfl rfl gv17 rfl) rfl (len_sl (oo rfl rfl) (O10.slLen (j := 0) rfl) (elemT_inv el46)) (W.q3 (hg := gk rfl rfl gv17 rfl) (.int .i64 (kwrap .i64 ((List.length x5 : Int) - 1))) rfl rfl ?_)))
 obtain ⟨x19, i20, h21⟩ := bd_inv h18
 have j22 := idx_inv i20
 refine W.pure (v := (selem (σ6 0) (Int.toNat (kwrap .i64 ((List.length x5 : Int) - 1)) * 1))) (gk rfl rfl gv17 rfl) rfl (v_idx el46 sz64 (oo rfl rfl) (oo rfl rfl) (O10.slLen (j := 0) rfl) j22.1 j22.2.1) (W.load1 (v := (.int .u32 x19)) (r := []) (gk rfl rfl gv17 rfl) rfl ag64 (pt_px rfl (At.int (O10.atSl (j := 0) rfl j22.2.2))) (W.q3 (hg := gk rfl rfl gv17 rfl) (.bool (x19 == 0)) rfl rfl (W.q4 (.bool (x19 == 0)) gv17 rfl (.nil ?_))))
 obtain rfl := Option.some.inj h21
 exact ⟨(x19 == 0), _, rfl, O10, (GM.le.refl _), rfl⟩
def g_nat_N_short_l0 (K : Nat) (p0 : List Int) (p1 : Int) : Nat → List Int → Int → Int → Option (List Int × Int)
  | 0, _, _, _ => none
  | k + 1, x11, x12, x13 => (if (decide (x13 ≥ 0)) = true then ((idx p0 x13).bind fun x25 => (lt (kwrap .u64 ((kwrap .u64 (x12 * 1000000000)) + (IntKind.wrap .u64 x25))) fun x29 => (if (IntKind.wrap .u64 p1) ≠ 0 then (lt (IntKind.wrap .u32 (kwrap .u64 (Int.tdiv x29 (IntKind.wrap .u64 p1)))) fun x34 => ((idx x11 x13).bind fun x37 => (if (IntKind.wrap .u64 p1) ≠ 0 then g_nat_N_short_l0 K p0 p1 k (List.set x11 (Int.toNat x13) x34) (Int.tmod x29 (IntKind.wrap .u64 p1)) (kwrap .i64 (x13 - 1)) else none))) else none))) else some (x11, x12))
def g_nat_N_short (K : Nat) (p0 : List Int) (p1 : Int) : Option (List Int × List Int) := (if 0 ≤ (List.length p0 : Int) ∧ (List.length p0 : Int) ≤ (List.length p0 : Int) ∧ (List.length p0 : Int) ≤ 16777216 then (Option.bind (g_nat_N_short_l0 K p0 p1 K (List.replicate (Int.toNat (List.length p0 : Int)) 0) 0 (kwrap .i64 ((List.length p0 : Int) - 1))) (tu2 fun x48 x49 => ((g_nat_N_trim K x48).bind fun x59 => ((g_nat_N_trim K [IntKind.wrap .u32 x49]).bind fun x76 => some (x59, x76))))) else none)
set_option maxHeartbeats 4000000 in
theorem g_nat_N_short_ok (K : Nat) {G : GM} {H : AH} {L : List Pc} (v0 : Value) (p0 : List Int) (hp0 : (rSl (rI .u32)).rep G [v0] p0) (p1 : Int) (O : Ow G H (L)) (r : List Int × List Int) (h : g_nat_N_short K p0 p1 = some r) :
    CR Tryz.prog 78 [v0, (.int .u32 p1)] G H (L) (fun v G' _ => ∃ (w0 : Value), ∃ (w1 : Value), v = .tuple #[w0, w1] ∧ (rSl (rI .u32)).rep G' [w0] r.1 ∧ (rSl (rI .u32)).rep G' [w1] r.2) := by
 unfold g_nat_N_short at h
 refine CR.of (calls_of_AW (n := 45) (fn := Tryz.f78) (R := fun v H' => ∃ G', Ow G' H' (L) ∧ G.le G' ∧ ∃ (w0 : Value), ∃ (w1 : Value), v = .tuple #[w0, w1] ∧ (rSl (rI .u32)).rep G' [w0] r.1 ∧ (rSl (rI .u32)).rep G' [w1] r.2) (by kernel_rfl) rfl rfl ?_)
 refine .seq (.region (W.q1 (.slice none 0 0) rfl (W.q1 (.slice none 0 0) rfl (.nil (.seq (.region ?_))))))
 refine W.q2 v0 rfl (W.pure (v := (.int .i64 (List.length p0 : Int))) rfl rfl (len_sl (oo rfl rfl) (sl_len hp0) (elemT_inv el46)) ?_)
 obtain ⟨g2, h3⟩ := gd_inv h
 refine W.lo rfl rfl (Lo.makeSlice (r := (rI .u32)) (x0 := 0) (a := (List.length p0 : Int)) (c := (List.length p0 : Int)) rfl el46 ze64 sz64 (by kernel_rfl) rfl by64 (by decide) rfl rfl g2 (zI .u32) O) ?_
 rintro v5 H6 ⟨O1, sm4⟩
 refine W.q1 v5 rfl (.nil (.seq (.region (W.q1 (.int .u64 0) rfl (.nil (.seq ?_))))))
 refine .seq (.region (W.q2 v0 rfl (W.pure (v := (.int .i64 (List.length p0 : Int))) rfl rfl (len_sl (oo rfl rfl) (sl_len hp0) (elemT_inv el46)) (W.q3 (.int .i64 (kwrap .i64 ((List.length p0 : Int) - 1))) rfl rfl (W.q1 (.int .i64 (kwrap .i64 ((List.length p0 : Int) - 1))) rfl (.nil ?_))))))
 obtain ⟨q7, h8, h9⟩ := bd_inv h3
 refine AW.midT (fun σ' H' => ∃ (y1 : List Int) (y2 : Int) (G' : GM), (y1, y2) = q7 ∧ Ow G' H' (eSl v5 64 (rI .u32) y1 :: L) ∧ GM.le G G' ∧ σ' 7 = .int .u64 y2) ?_ ?_
 rotate_left
 ·rintro σ50 H51 fr52 ⟨x48, x49, G53, rfl, O54, s55, t57⟩
  have h58 := tu2_inv h9
  refine .seq (.region (W.q2 v5 ((fr52 6 rfl).trans rfl) ?_))
  obtain ⟨x59, i60, h61⟩ := bd_inv h58
  refine W.lo rfl rfl (Lo.callPF (ps := [eSl v5 64 (rI .u32) x48]) (pw := fun w => [eSl w 64 (rI .u32) x59]) rfl (fn := Tryz.f81) (by kernel_rfl) rfl (mc rfl mn) O54 (fun L' O' => g_nat_N_trim_ok K v5 x48 O' _ i60)) ?_
  rintro v70 H71 ⟨w67, G62, O63, s64, sm69, rfl⟩
  replace O63 : Ow G62 H71 (eSl w67 64 (rI .u32) x59 :: L) := O63
  refine W.q2 (.int .u64 x49) t57 (W.pure (v := (.int .u32 (IntKind.wrap .u32 x49))) rfl rfl (v_conv in95 in64 (oo rfl rfl)) (W.lo rfl rfl (Lo.buildSlice (r := (rI .u32)) (vs := [(.int .u32 (IntKind.wrap .u32 x49))]) (xs := [IntKind.wrap .u32 x49]) el46 ze64 sz64 (by kernel_rfl) rfl (qc rfl qn) rfl (.cons rfl .nil) O63) ?_))
  rintro v74 H75 ⟨O72, sm73⟩
  obtain ⟨x76, i77, h78⟩ := bd_inv h61
  refine W.lo rfl rfl (Lo.callPF (ps := [eSl v74 64 (rI .u32) [IntKind.wrap .u32 x49]]) (pw := fun w => [eSl w 64 (rI .u32) x76]) rfl (fn := Tryz.f81) (by kernel_rfl) rfl (mc rfl mn) O72 (fun L' O' => g_nat_N_trim_ok K v74 [IntKind.wrap .u32 x49] O' _ i77)) ?_
  rintro v87 H88 ⟨w84, G79, O80, s81, sm86, rfl⟩
  replace O80 : Ow G79 H88 (eSl w84 64 (rI .u32) x76 :: eSl w67 64 (rI .u32) x59 :: L) := O80
  refine W.q1 w67 rfl (W.q1 w84 rfl (.nil (.ret ?_)))
  obtain ⟨G89, O90, s91, f92⟩ := O80.frzSl (j := 1) rfl
  replace O90 : Ow G89 H88 (eSl w84 64 (rI .u32) x76 :: L) := O90
  obtain ⟨G93, O94, s95, f96⟩ := O90.frzSl (j := 0) rfl
  replace O94 : Ow G93 H88 (L) := O94
  obtain rfl := Option.some.inj h78
  refine ret2R (P := Tryz.prog) (fn := Tryz.f78) (n := 45) (R := fun v H' => ∃ G', Ow G' H' (L) ∧ G.le G' ∧ ∃ (w0 : Value), ∃ (w1 : Value), v = .tuple #[w0, w1] ∧ (rSl (rI .u32)).rep G' [w0] (x59, x76).1 ∧ (rSl (rI .u32)).rep G' [w1] (x59, x76).2) (v1 := w67) (v2 := w84) (by rfl) (rr_tmp (by rfl) (by exact rfl)) (rr_tmp (by rfl) (by exact rfl)) ?_
  exact ⟨_, O94, (GM.le.trans s55 (GM.le.trans s64 (GM.le.trans s81 (GM.le.trans s91 s95)))), w67, w84, rfl, (RT.mono _ s95 f92), f96⟩
 refine .block (AW.loop (α := Nat) (fun k' σ' H' => ∃ (y1 : List Int) (y2 : Int) (y3 : Int) (G' : GM), g_nat_N_short_l0 K p0 p1 k' y1 y2 y3 = some q7 ∧ Ow G' H' (eSl v5 64 (rI .u32) y1 :: L) ∧ GM.le G G' ∧ σ' 7 = .int .u64 y2 ∧ σ' 8 = .int .i64 y3) (fun k' => k') K ⟨(List.replicate (Int.toNat (List.length p0 : Int)) 0), 0, kwrap .i64 ((List.length p0 : Int) - 1), _, h8, O1, (GM.le.refl _), rfl, rfl⟩ ?_)
 rintro k10
 rintro σ14 H15 fr16 ⟨x11, x12, x13, G17, h20, O18, s19, t21, t22⟩
 rcases k10 with _ | k10
 ·exact none_absurd h20
 rw [g_nat_N_short_l0] at h20
 refine .seq (.seq (.region (W.q2 (.int .i64 x13) t22 (W.q3 (.bool (decide (x13 ≥ 0))) rfl rfl (.nil (.cond (b := decide (x13 ≥ 0)) rfl rfl (fun g23 => ?_) (fun g23 => ?_)))))))
 rotate_left
 ·have h47 := neg_b g23 h20
  refine .exit ?_
  obtain rfl := Option.some.inj h47
  exact ⟨x11, x12, _, rfl, O18, s19, t21⟩
 have h24 := pos_inv g23 h20
 refine .skip (.seq (.block (.seq (.region (W.q2 (.int .u64 x12) t21 (W.q3 (.int .u64 (kwrap .u64 (x12 * 1000000000))) rfl rfl ?_))))))
 refine W.q2 v0 ((fr16 0 rfl).trans rfl) (W.q2 (.int .i64 x13) t22 ?_)
 obtain ⟨x25, i26, h27⟩ := bd_inv h24
 have j28 := idx_inv i26
 refine W.pure (v := (selem v0 (Int.toNat x13 * 1))) rfl rfl (v_idx el46 sz64 (oo rfl rfl) (oo rfl rfl) (sl_len (RT.mono _ s19 hp0)) j28.1 j28.2.1) (W.load1 (v := (.int .u32 x25)) (r := []) rfl rfl ag64 (pt_px rfl (At.int (At.le (At.le (sl_idx hp0 j28.2.2) s19 s19) (GM.le.refl _) O18.fro))) (W.pure (v := (.int .u64 (IntKind.wrap .u64 x25))) rfl rfl (v_conv in64 in95 (oo rfl rfl)) (W.q3 (.int .u64 (kwrap .u64 ((kwrap .u64 (x12 * 1000000000)) + (IntKind.wrap .u64 x25)))) rfl rfl ?_)))
 obtain ⟨x29, e30, h31⟩ := lt_inv h27
 refine W.q1 (.int .u64 x29) (congrArg (Value.int .u64) e30) (.nil (.seq (.region (W.q2 v5 ((fr16 6 rfl).trans rfl) (W.q2 (.int .i64 x13) t22 (W.q2 (.int .u64 x29) rfl ?_))))))
 refine W.q2 (.int .u32 p1) ((fr16 1 rfl).trans rfl) (W.pure (v := (.int .u64 (IntKind.wrap .u64 p1))) rfl rfl (v_conv in64 in95 (oo rfl rfl)) ?_)
 obtain ⟨g32, h33⟩ := gd_inv h31
 refine W.pure (v := (.int .u64 (kwrap .u64 (Int.tdiv x29 (IntKind.wrap .u64 p1))))) rfl rfl (v_quo g32 (oo rfl rfl) (oo rfl rfl)) (W.pure (v := (.int .u32 (IntKind.wrap .u32 (kwrap .u64 (Int.tdiv x29 (IntKind.wrap .u64 p1)))))) rfl rfl (v_conv in95 in64 (oo rfl rfl)) ?_)
 obtain ⟨x34, e35, h36⟩ := lt_inv h33
 obtain ⟨x37, i38, h39⟩ := bd_inv h36
 have j40 := idx_inv i38
 refine W.pure (v := (selem v5 (Int.toNat x13 * 1))) rfl rfl (v_idx el46 sz64 (oo rfl rfl) (oo rfl rfl) (O18.slLen (j := 0) rfl) j40.1 j40.2.1) (W.lo rfl rfl (Lo.storeSl0 (j := 0) (y0 := x34) (v := (.int .u32 x34)) rfl j40.2.2  rfl sz64 rfl (congrArg (Value.int .u32) e35) rfl O18) ?_)
 rintro v43 H44 ⟨O41, sm42⟩
 replace O41 : Ow G17 H44 (eSl v5 64 (rI .u32) (List.set x11 (Int.toNat x13) x34) :: L) := O41
 refine .nil (.region (W.q2 (.int .u64 x29) rfl (W.q2 (.int .u32 p1) ((fr16 1 rfl).trans rfl) (W.pure (v := (.int .u64 (IntKind.wrap .u64 p1))) rfl rfl (v_conv in64 in95 (oo rfl rfl)) ?_))))
 obtain ⟨g45, h46⟩ := gd_inv h39
 refine W.pure (v := (.int .u64 (Int.tmod x29 (IntKind.wrap .u64 p1)))) rfl rfl (v_rem g45 (oo rfl rfl) (oo rfl rfl)) (W.q1 (.int .u64 (Int.tmod x29 (IntKind.wrap .u64 p1))) rfl (.nil (.region (W.q2 (.int .i64 x13) t22 (W.q3 (.int .i64 (kwrap .i64 (x13 - 1))) rfl rfl (W.q1 (.int .i64 (kwrap .i64 (x13 - 1))) rfl ?_))))))
 refine .nil ?_
 exact ⟨k10, Nat.lt_succ_self _, ⟨(List.set x11 (Int.toNat x13) x34), Int.tmod x29 (IntKind.wrap .u64 p1), kwrap .i64 (x13 - 1), _, h46, O41, s19, rfl, rfl⟩⟩
def g_nat_N_Mul_l2 (K : Nat) (p1 : List Int) (x12 : Int) (x23 : Int) : Nat → List Int → Int → Int → Option (List Int × Int)
  | 0, _, _, _ => none
  | k + 1, x31, x32, x33 => (if (decide (x33 < (List.length p1 : Int))) = true then ((idx p1 x33).bind fun x45 => (lt (kwrap .u64 ((IntKind.wrap .u64 x23) * (IntKind.wrap .u64 x45))) fun x49 => ((idx x31 (kwrap .i64 (x12 + x33))).bind fun x52 => (lt (kwrap .u64 ((kwrap .u64 (x49 + (IntKind.wrap .u64 x52))) + x32)) fun x56 => ((idx x31 (kwrap .i64 (x12 + x33))).bind fun x59 => g_nat_N_Mul_l2 K p1 x12 x23 k (List.set x31 (Int.toNat (kwrap .i64 (x12 + x33))) (IntKind.wrap .u32 (Int.tmod x56 1000000000))) (kwrap .u64 (Int.tdiv x56 1000000000)) (kwrap .i64 (x33 + 1))))))) else some (x31, x32))
def g_nat_N_Mul_l0 (K : Nat) (p0 : List Int) (p1 : List Int) : Nat → List Int → Int → Option (List Int)
  | 0, _, _ => none
  | k + 1, x11, x12 => (if (decide (x12 < (List.length p0 : Int))) = true then ((idx p0 x12).bind fun x23 => (Option.bind (g_nat_N_Mul_l2 K p1 x12 x23 K x11 0 0) (tu2 fun x68 x69 => ((idx x68 (kwrap .i64 (x12 + (List.length p1 : Int)))).bind fun x79 => g_nat_N_Mul_l0 K p0 p1 k (List.set x68 (Int.toNat (kwrap .i64 (x12 + (List.length p1 : Int)))) (IntKind.wrap .u32 x69)) (kwrap .i64 (x12 + 1)))))) else some x11)
def g_nat_N_Mul (K : Nat) (p0 : List Int) (p1 : List Int) : Option (List Int) := (if 0 ≤ (kwrap .i64 ((List.length p0 : Int) + (List.length p1 : Int))) ∧ (kwrap .i64 ((List.length p0 : Int) + (List.length p1 : Int))) ≤ (kwrap .i64 ((List.length p0 : Int) + (List.length p1 : Int))) ∧ (kwrap .i64 ((List.length p0 : Int) + (List.length p1 : Int))) ≤ 16777216 then (Option.bind (g_nat_N_Mul_l0 K p0 p1 K (List.replicate (Int.toNat (kwrap .i64 ((List.length p0 : Int) + (List.length p1 : Int)))) 0) 0) (tu1 fun x88 => ((g_nat_N_trim K x88).bind fun x97 => some x97))) else none)
set_option maxHeartbeats 4000000 in
theorem g_nat_N_Mul_ok (K : Nat) {G : GM} {H : AH} {L : List Pc} (v0 : Value) (p0 : List Int) (hp0 : (rSl (rI .u32)).rep G [v0] p0) (v1 : Value) (p1 : List Int) (hp1 : (rSl (rI .u32)).rep G [v1] p1) (O : Ow G H (L)) (r : List Int) (h : g_nat_N_Mul K p0 p1 = some r) :
    CRF Tryz.prog 75 [v0, v1] G H (fun w0 => (eSl w0 64 (rI .u32) r :: L)) (fun w0 v G' => w0 = v) := by
 unfold g_nat_N_Mul at h
 refine CRF.of (calls_of_AW (n := 69) (fn := Tryz.f75) (R := fun v H' => ∃ w0 G', Ow G' H' (eSl w0 64 (rI .u32) r :: L) ∧ G.le G' ∧ w0 = v) (by kernel_rfl) rfl rfl ?_)
 refine .seq (.region (W.q1 (.slice none 0 0) rfl (.nil (.seq (.region (W.q2 v0 rfl ?_))))))
 refine W.pure (v := (.int .i64 (List.length p0 : Int))) rfl rfl (len_sl (oo rfl rfl) (sl_len hp0) (elemT_inv el46)) (W.q2 v1 rfl (W.pure (v := (.int .i64 (List.length p1 : Int))) rfl rfl (len_sl (oo rfl rfl) (sl_len hp1) (elemT_inv el46)) (W.q3 (.int .i64 (kwrap .i64 ((List.length p0 : Int) + (List.length p1 : Int)))) rfl rfl ?_)))
 obtain ⟨g2, h3⟩ := gd_inv h
 refine W.lo rfl rfl (Lo.makeSlice (r := (rI .u32)) (x0 := 0) (a := (kwrap .i64 ((List.length p0 : Int) + (List.length p1 : Int)))) (c := (kwrap .i64 ((List.length p0 : Int) + (List.length p1 : Int)))) rfl el46 ze64 sz64 (by kernel_rfl) rfl by64 (by decide) rfl rfl g2 (zI .u32) O) ?_
 rintro v5 H6 ⟨O1, sm4⟩
 refine W.q1 v5 rfl (.nil (.seq (.seq (.region (W.q2 v0 rfl (W.pure (v := (.int .i64 (List.length p0 : Int))) rfl rfl (len_sl (oo rfl rfl) (sl_len hp0) (elemT_inv el46)) ?_))))))
 refine W.q2 (.int .i64 0) rfl (.nil ?_)
 obtain ⟨q7, h8, h9⟩ := bd_inv h3
 refine AW.midT (fun σ' H' => ∃ (y1 : List Int) (G' : GM), y1 = q7 ∧ Ow G' H' (eSl v5 64 (rI .u32) y1 :: L) ∧ GM.le G G') ?_ ?_
 rotate_left
 ·rintro σ89 H90 fr91 ⟨x88, G92, rfl, O93, s94⟩
  have h96 := tu1_inv h9
  refine .seq (.region (W.q2 v5 ((fr91 5 rfl).trans rfl) ?_))
  obtain ⟨x97, i98, h99⟩ := bd_inv h96
  refine W.lo rfl rfl (Lo.callPF (ps := [eSl v5 64 (rI .u32) x88]) (pw := fun w => [eSl w 64 (rI .u32) x97]) rfl (fn := Tryz.f81) (by kernel_rfl) rfl (mc rfl mn) O93 (fun L' O' => g_nat_N_trim_ok K v5 x88 O' _ i98)) ?_
  rintro v108 H109 ⟨w105, G100, O101, s102, sm107, rfl⟩
  replace O101 : Ow G100 H109 (eSl w105 64 (rI .u32) x97 :: L) := O101
  refine W.q1 w105 rfl (.nil (.ret ?_))
  obtain rfl := Option.some.inj h99
  refine ret1R (P := Tryz.prog) (fn := Tryz.f75) (n := 69) (R := fun v H' => ∃ w0 G', Ow G' H' (eSl w0 64 (rI .u32) x97 :: L) ∧ G.le G' ∧ w0 = v) (v1 := w105) (by rfl) (rr_tmp (by rfl) (by exact rfl)) ?_
  exact ⟨w105, _, O101, (GM.le.trans s94 s102), rfl⟩
 refine .block (AW.loop (α := Nat) (fun k' σ' H' => ∃ (y1 : List Int) (y2 : Int) (G' : GM), g_nat_N_Mul_l0 K p0 p1 k' y1 y2 = some q7 ∧ Ow G' H' (eSl v5 64 (rI .u32) y1 :: L) ∧ GM.le G G' ∧ σ' 20 = .int .i64 y2) (fun k' => k') K ⟨(List.replicate (Int.toNat (kwrap .i64 ((List.length p0 : Int) + (List.length p1 : Int)))) 0), 0, _, h8, O1, (GM.le.refl _), rfl⟩ ?_)
 rintro k10
 rintro σ13 H14 fr15 ⟨x11, x12, G16, h19, O17, s18, t20⟩
 rcases k10 with _ | k10
 ·exact none_absurd h19
 rw [g_nat_N_Mul_l0] at h19
 refine .seq (.region (W.q3 (.bool (decide (x12 < (List.length p0 : Int)))) t20 ((fr15 19 rfl).trans rfl) (.nil (.seq (.cond (b := decide (x12 < (List.length p0 : Int))) rfl rfl (fun g21 => ?_) (fun g21 => ?_))))))
 rotate_left
 ·have h87 := neg_b g21 h19
  refine .exit ?_
  obtain rfl := Option.some.inj h87
  exact ⟨x11, _, rfl, O17, s18⟩
 have h22 := pos_inv g21 h19
 refine .skip (.seq (.block (.seq (.region (W.q2 (.int .i64 x12) t20 ?_)))))
 obtain ⟨x23, i24, h25⟩ := bd_inv h22
 have j26 := idx_inv i24
 refine W.pure (v := (selem v0 (Int.toNat x12 * 1))) rfl rfl (v_idx el46 sz64 (oo rfl ((fr15 18 rfl).trans rfl)) (oo rfl t20) (sl_len (RT.mono _ s18 hp0)) j26.1 j26.2.1) (W.load1 (v := (.int .u32 x23)) (r := []) rfl rfl ag64 (pt_px rfl (At.int (At.le (At.le (sl_idx hp0 j26.2.2) s18 s18) (GM.le.refl _) O17.fro))) (W.q1 (.int .i64 x12) rfl (W.q1 (.int .u32 x23) rfl (.nil (.seq (.region ?_))))))
 refine W.q1 (.int .u64 0) rfl (.nil (.seq (.seq (.region (W.q2 v1 ((fr15 1 rfl).trans rfl) (W.pure (v := (.int .i64 (List.length p1 : Int))) rfl rfl (len_sl (oo rfl rfl) (sl_len (RT.mono _ s18 hp1)) (elemT_inv el46)) ?_))))))
 refine W.q2 (.int .i64 0) rfl (.nil ?_)
 obtain ⟨q27, h28, h29⟩ := bd_inv h25
 refine AW.midT (fun σ' H' => ∃ (y1 : List Int) (y2 : Int) (G' : GM), (y1, y2) = q27 ∧ Ow G' H' (eSl v5 64 (rI .u32) y1 :: L) ∧ GM.le G16 G' ∧ σ' 8 = .int .u64 y2) ?_ ?_
 rotate_left
 ·rintro σ70 H71 fr72 ⟨x68, x69, G73, rfl, O74, s75, t77⟩
  have h78 := tu2_inv h29
  refine .region (W.q2 v5 ((fr72 5 rfl).trans ((fr15 5 rfl).trans rfl)) (W.q2 (.int .i64 x12) ((fr72 6 rfl).trans rfl) (W.q2 v1 ((fr72 1 rfl).trans ((fr15 1 rfl).trans rfl)) (W.pure (v := (.int .i64 (List.length p1 : Int))) rfl rfl (len_sl (oo rfl rfl) (sl_len (RT.mono _ (GM.le.trans s18 s75) hp1)) (elemT_inv el46)) (W.q3 (.int .i64 (kwrap .i64 (x12 + (List.length p1 : Int)))) rfl rfl (W.q2 (.int .u64 x69) t77 ?_))))))
  refine W.pure (v := (.int .u32 (IntKind.wrap .u32 x69))) rfl rfl (v_conv in95 in64 (oo rfl rfl)) ?_
  obtain ⟨x79, i80, h81⟩ := bd_inv h78
  have j82 := idx_inv i80
  refine W.pure (v := (selem v5 (Int.toNat (kwrap .i64 (x12 + (List.length p1 : Int))) * 1))) rfl rfl (v_idx el46 sz64 (oo rfl rfl) (oo rfl rfl) (O74.slLen (j := 0) rfl) j82.1 j82.2.1) (W.lo rfl rfl (Lo.storeSl0 (j := 0) (y0 := IntKind.wrap .u32 x69) (v := (.int .u32 (IntKind.wrap .u32 x69))) rfl j82.2.2  rfl sz64 rfl rfl rfl O74) ?_)
  rintro v85 H86 ⟨O83, sm84⟩
  replace O83 : Ow G73 H86 (eSl v5 64 (rI .u32) (List.set x68 (Int.toNat (kwrap .i64 (x12 + (List.length p1 : Int)))) (IntKind.wrap .u32 x69)) :: L) := O83
  refine .nil (.region (W.q3 (.int .i64 (kwrap .i64 (x12 + 1))) ((fr72 20 rfl).trans t20) rfl (W.q2 (.int .i64 (kwrap .i64 (x12 + 1))) rfl (.nil ?_))))
  exact ⟨k10, Nat.lt_succ_self _, ⟨(List.set x68 (Int.toNat (kwrap .i64 (x12 + (List.length p1 : Int)))) (IntKind.wrap .u32 x69)), kwrap .i64 (x12 + 1), _, h81, O83, (GM.le.trans s18 s75), rfl⟩⟩
 refine .block (AW.loop (α := Nat) (fun k' σ' H' => ∃ (y1 : List Int) (y2 : Int) (y3 : Int) (G' : GM), g_nat_N_Mul_l2 K p1 x12 x23 k' y1 y2 y3 = some q27 ∧ Ow G' H' (eSl v5 64 (rI .u32) y1 :: L) ∧ GM.le G16 G' ∧ σ' 8 = .int .u64 y2 ∧ σ' 27 = .int .i64 y3) (fun k' => k') K ⟨x11, 0, 0, _, h28, O17, (GM.le.refl _), rfl, rfl⟩ ?_)
 rintro k30
 rintro σ34 H35 fr36 ⟨x31, x32, x33, G37, h40, O38, s39, t41, t42⟩
 rcases k30 with _ | k30
 ·exact none_absurd h40
 rw [g_nat_N_Mul_l2] at h40
 refine .seq (.region (W.q3 (.bool (decide (x33 < (List.length p1 : Int)))) t42 ((fr36 26 rfl).trans rfl) (.nil (.seq (.cond (b := decide (x33 < (List.length p1 : Int))) rfl rfl (fun g43 => ?_) (fun g43 => ?_))))))
 rotate_left
 ·have h67 := neg_b g43 h40
  refine .exit ?_
  obtain rfl := Option.some.inj h67
  exact ⟨x31, x32, _, rfl, O38, s39, t41⟩
 have h44 := pos_inv g43 h40
 refine .skip (.seq (.block (.seq (.region (W.q2 (.int .i64 x33) t42 ?_)))))
 obtain ⟨x45, i46, h47⟩ := bd_inv h44
 have j48 := idx_inv i46
 refine W.pure (v := (selem v1 (Int.toNat x33 * 1))) rfl rfl (v_idx el46 sz64 (oo rfl ((fr36 25 rfl).trans rfl)) (oo rfl t42) (sl_len (RT.mono _ (GM.le.trans s18 s39) hp1)) j48.1 j48.2.1) (W.load1 (v := (.int .u32 x45)) (r := []) rfl rfl ag64 (pt_px rfl (At.int (At.le (At.le (sl_idx hp1 j48.2.2) (GM.le.trans s18 s39) (GM.le.trans s18 s39)) (GM.le.refl _) O38.fro))) (W.q1 (.int .i64 x33) rfl (W.q1 (.int .u32 x45) rfl (.nil (.seq (.region ?_))))))
 refine W.q2 (.int .u32 x23) ((fr36 7 rfl).trans rfl) (W.pure (v := (.int .u64 (IntKind.wrap .u64 x23))) rfl rfl (v_conv in64 in95 (oo rfl rfl)) (W.q2 (.int .u32 x45) rfl (W.pure (v := (.int .u64 (IntKind.wrap .u64 x45))) rfl rfl (v_conv in64 in95 (oo rfl rfl)) (W.q3 (.int .u64 (kwrap .u64 ((IntKind.wrap .u64 x23) * (IntKind.wrap .u64 x45)))) rfl rfl ?_))))
 obtain ⟨x49, e50, h51⟩ := lt_inv h47
 refine W.q2 v5 ((fr36 5 rfl).trans ((fr15 5 rfl).trans rfl)) (W.q2 (.int .i64 x12) ((fr36 6 rfl).trans rfl) (W.q2 (.int .i64 x33) rfl (W.q3 (.int .i64 (kwrap .i64 (x12 + x33))) rfl rfl ?_)))
 obtain ⟨x52, i53, h54⟩ := bd_inv h51
 have j55 := idx_inv i53
 refine W.pure (v := (selem v5 (Int.toNat (kwrap .i64 (x12 + x33)) * 1))) rfl rfl (v_idx el46 sz64 (oo rfl rfl) (oo rfl rfl) (O38.slLen (j := 0) rfl) j55.1 j55.2.1) (W.load1 (v := (.int .u32 x52)) (r := []) rfl rfl ag64 (pt_px rfl (At.int (O38.atSl (j := 0) rfl j55.2.2))) (W.pure (v := (.int .u64 (IntKind.wrap .u64 x52))) rfl rfl (v_conv in64 in95 (oo rfl rfl)) (W.q3 (.int .u64 (kwrap .u64 (x49 + (IntKind.wrap .u64 x52)))) (congrArg (Value.int .u64) e50) rfl (W.q2 (.int .u64 x32) t41 (W.q3 (.int .u64 (kwrap .u64 ((kwrap .u64 (x49 + (IntKind.wrap .u64 x52))) + x32))) rfl rfl ?_)))))
 obtain ⟨x56, e57, h58⟩ := lt_inv h54
 refine W.q1 (.int .u64 x56) (congrArg (Value.int .u64) e57) (.nil (.seq (.region (W.q2 v5 ((fr36 5 rfl).trans ((fr15 5 rfl).trans rfl)) (W.q2 (.int .i64 x12) ((fr36 6 rfl).trans rfl) (W.q2 (.int .i64 x33) rfl ?_))))))
 refine W.q3 (.int .i64 (kwrap .i64 (x12 + x33))) rfl rfl (W.q2 (.int .u64 x56) rfl (W.pure (v := (.int .u64 (Int.tmod x56 1000000000))) rfl rfl (v_rem (by decide) (oo rfl rfl) (oo rfl rfl)) (W.pure (v := (.int .u32 (IntKind.wrap .u32 (Int.tmod x56 1000000000)))) rfl rfl (v_conv in95 in64 (oo rfl rfl)) ?_)))
 obtain ⟨x59, i60, h61⟩ := bd_inv h58
 have j62 := idx_inv i60
 refine W.pure (v := (selem v5 (Int.toNat (kwrap .i64 (x12 + x33)) * 1))) rfl rfl (v_idx el46 sz64 (oo rfl rfl) (oo rfl rfl) (O38.slLen (j := 0) rfl) j62.1 j62.2.1) (W.lo rfl rfl (Lo.storeSl0 (j := 0) (y0 := IntKind.wrap .u32 (Int.tmod x56 1000000000)) (v := (.int .u32 (IntKind.wrap .u32 (Int.tmod x56 1000000000)))) rfl j62.2.2  rfl sz64 rfl rfl rfl O38) ?_)
 rintro v65 H66 ⟨O63, sm64⟩
 replace O63 : Ow G37 H66 (eSl v5 64 (rI .u32) (List.set x31 (Int.toNat (kwrap .i64 (x12 + x33))) (IntKind.wrap .u32 (Int.tmod x56 1000000000))) :: L) := O63
 refine .nil (.region (W.q2 (.int .u64 x56) rfl (W.pure (v := (.int .u64 (kwrap .u64 (Int.tdiv x56 1000000000)))) rfl rfl (v_quo (by decide) (oo rfl rfl) (oo rfl rfl)) (W.q1 (.int .u64 (kwrap .u64 (Int.tdiv x56 1000000000))) rfl (.nil (.region ?_))))))
 refine W.q3 (.int .i64 (kwrap .i64 (x33 + 1))) t42 rfl (W.q2 (.int .i64 (kwrap .i64 (x33 + 1))) rfl (.nil ?_))
 exact ⟨k30, Nat.lt_succ_self _, ⟨(List.set x31 (Int.toNat (kwrap .i64 (x12 + x33))) (IntKind.wrap .u32 (Int.tmod x56 1000000000))), kwrap .u64 (Int.tdiv x56 1000000000), kwrap .i64 (x33 + 1), _, h61, O63, s39, rfl, rfl⟩⟩
def g_nat_N_minus_l0 (K : Nat) (p1 : List Int) (p2 : Int) (p3 : Int) : Nat → List Int → Int → Int → Int → Option (List Int × Int)
  | 0, _, _, _, _ => none
  | k + 1, x5, x6, x7, x8 => (if (decide (x8 ≤ (List.length p1 : Int))) = true then (Option.bind ((if (decide (x8 < (List.length p1 : Int))) = true then ((idx p1 x8).bind fun x26 => (lt (kwrap .u64 (x7 + (kwrap .u64 (p3 * (IntKind.wrap .u64 x26))))) fun x30 => some x30)) else some x7)) (tu1 fun x34 => ((idx x5 (kwrap .i64 (p2 + x8))).bind fun x44 => (lt (kwrap .i64 ((IntKind.wrap .i64 x44) - (IntKind.wrap .i64 (Int.tmod x34 1000000000)))) fun x48 => (Option.bind ((if (decide ((kwrap .i64 (x48 - x6)) < 0)) = true then some (1, kwrap .i64 ((kwrap .i64 (x48 - x6)) + 1000000000)) else some (0, kwrap .i64 (x48 - x6)))) (tu2 fun x57 x58 => ((idx x5 (kwrap .i64 (p2 + x8))).bind fun x69 => g_nat_N_minus_l0 K p1 p2 p3 k (List.set x5 (Int.toNat (kwrap .i64 (p2 + x8))) (IntKind.wrap .u32 x58)) x57 (kwrap .u64 (Int.tdiv x34 1000000000)) (kwrap .i64 (x8 + 1))))))))) else some (x5, x6))
def g_nat_N_minus (K : Nat) (p0 : List Int) (p1 : List Int) (p2 : Int) (p3 : Int) : Option (Bool × List Int) := (Option.bind (g_nat_N_minus_l0 K p1 p2 p3 K p0 0 0 0) (tu2 fun x78 x79 => some (decide (x79 > 0), x78)))
set_option maxHeartbeats 4000000 in
theorem g_nat_N_minus_ok (K : Nat) {G : GM} {H : AH} {L : List Pc} (v0 : Value) (p0 : List Int) (v1 : Value) (p1 : List Int) (hp1 : (rSl (rI .u32)).rep G [v1] p1) (p2 : Int) (p3 : Int) (O : Ow G H (eSl v0 64 (rI .u32) p0 :: L)) (r : Bool × List Int) (h : g_nat_N_minus K p0 p1 p2 p3 = some r) :
    CR Tryz.prog 79 [v0, v1, (.int .i64 p2), (.int .u64 p3)] G H (eSl v0 64 (rI .u32) r.2 :: L) (fun v G' _ => v = .bool r.1) := by
 unfold g_nat_N_minus at h
 refine CR.of (calls_of_AW (n := 62) (fn := Tryz.f79) (R := fun v H' => ∃ G', Ow G' H' (eSl v0 64 (rI .u32) r.2 :: L) ∧ G.le G' ∧ v = .bool r.1) (by kernel_rfl) rfl rfl ?_)
 refine .seq (.region (W.q1 (.bool false) rfl (.nil (.seq (.region (W.q1 (.int .i64 0) rfl ?_))))))
 refine .nil (.seq (.region (W.q1 (.int .u64 0) rfl (.nil (.seq (.seq ?_))))))
 refine .region (W.q1 (.int .i64 0) rfl (.nil ?_))
 obtain ⟨q1, h2, h3⟩ := bd_inv h
 refine AW.midT (fun σ' H' => ∃ (y1 : List Int) (y2 : Int) (G' : GM), (y1, y2) = q1 ∧ Ow G' H' (eSl v0 64 (rI .u32) y1 :: L) ∧ GM.le G G' ∧ σ' 9 = .int .i64 y2) ?_ ?_
 rotate_left
 ·rintro σ80 H81 fr82 ⟨x78, x79, G83, rfl, O84, s85, t87⟩
  have h88 := tu2_inv h3
  refine .seq (.region (W.q2 (.int .i64 x79) t87 (W.q3 (.bool (decide (x79 > 0))) rfl rfl (W.q1 (.bool (decide (x79 > 0))) rfl (.nil (.ret ?_))))))
  obtain rfl := Option.some.inj h88
  refine ret1R (P := Tryz.prog) (fn := Tryz.f79) (n := 62) (R := fun v H' => ∃ G', Ow G' H' (eSl v0 64 (rI .u32) (decide (x79 > 0), x78).2 :: L) ∧ G.le G' ∧ v = .bool (decide (x79 > 0), x78).1) (v1 := (.bool (decide (x79 > 0)))) (by rfl) (rr_tmp (by rfl) (by exact rfl)) ?_
  exact ⟨_, O84, s85, rfl⟩
 refine .block (AW.loop (α := Nat) (fun k' σ' H' => ∃ (y1 : List Int) (y2 : Int) (y3 : Int) (y4 : Int) (G' : GM), g_nat_N_minus_l0 K p1 p2 p3 k' y1 y2 y3 y4 = some q1 ∧ Ow G' H' (eSl v0 64 (rI .u32) y1 :: L) ∧ GM.le G G' ∧ σ' 9 = .int .i64 y2 ∧ σ' 10 = .int .u64 y3 ∧ σ' 11 = .int .i64 y4) (fun k' => k') K ⟨p0, 0, 0, 0, _, h2, O, (GM.le.refl _), rfl, rfl, rfl⟩ ?_)
 rintro k4
 rintro σ9 H10 fr11 ⟨x5, x6, x7, x8, G12, h15, O13, s14, t16, t17, t18⟩
 rcases k4 with _ | k4
 ·exact none_absurd h15
 rw [g_nat_N_minus_l0] at h15
 refine .seq (.seq (.region (W.q2 (.int .i64 x8) t18 (W.q2 v1 ((fr11 1 rfl).trans rfl) (W.pure (v := (.int .i64 (List.length p1 : Int))) rfl rfl (len_sl (oo rfl rfl) (sl_len (RT.mono _ s14 hp1)) (elemT_inv el46)) (W.q3 (.bool (decide (x8 ≤ (List.length p1 : Int)))) rfl rfl ?_))))))
 refine .nil (.cond (b := decide (x8 ≤ (List.length p1 : Int))) rfl rfl (fun g19 => ?_) (fun g19 => ?_))
 rotate_left
 ·have h77 := neg_b g19 h15
  refine .exit ?_
  obtain rfl := Option.some.inj h77
  exact ⟨x5, x6, _, rfl, O13, s14, t16⟩
 have h20 := pos_inv g19 h15
 refine .skip (.seq (.block (.seq (.region (W.q2 (.int .u64 x7) t17 (W.q1 (.int .u64 x7) rfl ?_))))))
 refine .nil (.seq (.seq (.region (W.q2 (.int .i64 x8) t18 (W.q2 v1 ((fr11 1 rfl).trans rfl) (W.pure (v := (.int .i64 (List.length p1 : Int))) rfl rfl (len_sl (oo rfl rfl) (sl_len (RT.mono _ s14 hp1)) (elemT_inv el46)) ?_))))))
 refine W.q3 (.bool (decide (x8 < (List.length p1 : Int)))) rfl rfl (.nil ?_)
 obtain ⟨q21, h22, h23⟩ := bd_inv h20
 refine AW.midT (fun σ' H' => ∃ (y1 : Int) (G' : GM), y1 = q21 ∧ Ow G' H' (eSl v0 64 (rI .u32) x5 :: L) ∧ GM.le G12 G' ∧ σ' 12 = .int .u64 y1) ?_ ?_
 ·refine .cond (b := decide (x8 < (List.length p1 : Int))) rfl rfl (fun g24 => ?_) (fun g24 => ?_)
  rotate_left
  ·have h33 := neg_b g24 h22
   refine .skip ?_
   obtain rfl := Option.some.inj h33
   exact ⟨x7, _, rfl, O13, (GM.le.refl _), rfl⟩
  have h25 := pos_inv g24 h22
  refine .region (W.q2 (.int .u64 x7) rfl (W.q2 (.int .u64 p3) ((fr11 3 rfl).trans rfl) (W.q2 v1 ((fr11 1 rfl).trans rfl) (W.q2 (.int .i64 x8) t18 ?_))))
  obtain ⟨x26, i27, h28⟩ := bd_inv h25
  have j29 := idx_inv i27
  refine W.pure (v := (selem v1 (Int.toNat x8 * 1))) rfl rfl (v_idx el46 sz64 (oo rfl rfl) (oo rfl rfl) (sl_len (RT.mono _ s14 hp1)) j29.1 j29.2.1) (W.load1 (v := (.int .u32 x26)) (r := []) rfl rfl ag64 (pt_px rfl (At.int (At.le (At.le (sl_idx hp1 j29.2.2) s14 s14) (GM.le.refl _) O13.fro))) (W.pure (v := (.int .u64 (IntKind.wrap .u64 x26))) rfl rfl (v_conv in64 in95 (oo rfl rfl)) (W.q3 (.int .u64 (kwrap .u64 (p3 * (IntKind.wrap .u64 x26)))) rfl rfl (W.q3 (.int .u64 (kwrap .u64 (x7 + (kwrap .u64 (p3 * (IntKind.wrap .u64 x26)))))) rfl rfl ?_))))
  obtain ⟨x30, e31, h32⟩ := lt_inv h28
  refine W.q1 (.int .u64 x30) (congrArg (Value.int .u64) e31) (.nil ?_)
  obtain rfl := Option.some.inj h32
  exact ⟨x30, _, rfl, O13, (GM.le.refl _), rfl⟩
 rintro σ35 H36 fr37 ⟨x34, G38, rfl, O39, s40, t42⟩
 have h43 := tu1_inv h23
 refine .seq (.region (W.q2 (.int .u64 x34) t42 (W.pure (v := (.int .u64 (kwrap .u64 (Int.tdiv x34 1000000000)))) rfl rfl (v_quo (by decide) (oo rfl rfl) (oo rfl rfl)) (W.q1 (.int .u64 (kwrap .u64 (Int.tdiv x34 1000000000))) rfl (.nil (.seq ?_))))))
 refine .region (W.q2 v0 ((fr37 0 rfl).trans ((fr11 0 rfl).trans rfl)) (W.q2 (.int .i64 p2) ((fr37 2 rfl).trans ((fr11 2 rfl).trans rfl)) (W.q2 (.int .i64 x8) ((fr37 11 rfl).trans t18) (W.q3 (.int .i64 (kwrap .i64 (p2 + x8))) rfl rfl ?_))))
 obtain ⟨x44, i45, h46⟩ := bd_inv h43
 have j47 := idx_inv i45
 refine W.pure (v := (selem v0 (Int.toNat (kwrap .i64 (p2 + x8)) * 1))) rfl rfl (v_idx el46 sz64 (oo rfl rfl) (oo rfl rfl) (O39.slLen (j := 0) rfl) j47.1 j47.2.1) (W.load1 (v := (.int .u32 x44)) (r := []) rfl rfl ag64 (pt_px rfl (At.int (O39.atSl (j := 0) rfl j47.2.2))) (W.pure (v := (.int .i64 (IntKind.wrap .i64 x44))) rfl rfl (v_conv in64 in2 (oo rfl rfl)) (W.q2 (.int .u64 x34) t42 (W.pure (v := (.int .u64 (Int.tmod x34 1000000000))) rfl rfl (v_rem (by decide) (oo rfl rfl) (oo rfl rfl)) (W.pure (v := (.int .i64 (IntKind.wrap .i64 (Int.tmod x34 1000000000)))) rfl rfl (v_conv in95 in2 (oo rfl rfl)) (W.q3 (.int .i64 (kwrap .i64 ((IntKind.wrap .i64 x44) - (IntKind.wrap .i64 (Int.tmod x34 1000000000))))) rfl rfl ?_))))))
 obtain ⟨x48, e49, h50⟩ := lt_inv h46
 refine W.q2 (.int .i64 x6) ((fr37 9 rfl).trans t16) (W.q3 (.int .i64 (kwrap .i64 (x48 - x6))) (congrArg (Value.int .i64) e49) rfl (W.q1 (.int .i64 (kwrap .i64 (x48 - x6))) rfl (.nil (.seq (.region (W.q1 (.int .i64 0) rfl ?_))))))
 refine .nil (.seq (.seq (.region (W.q2 (.int .i64 (kwrap .i64 (x48 - x6))) rfl (W.q3 (.bool (decide ((kwrap .i64 (x48 - x6)) < 0))) rfl rfl (.nil ?_))))))
 obtain ⟨q51, h52, h53⟩ := bd_inv h50
 refine AW.midT (fun σ' H' => ∃ (y1 : Int) (y2 : Int) (G' : GM), (y1, y2) = q51 ∧ Ow G' H' (eSl v0 64 (rI .u32) x5 :: L) ∧ GM.le G38 G' ∧ σ' 9 = .int .i64 y1 ∧ σ' 13 = .int .i64 y2) ?_ ?_
 ·refine .cond (b := decide ((kwrap .i64 (x48 - x6)) < 0)) rfl rfl (fun g54 => ?_) (fun g54 => ?_)
  rotate_left
  ·have h56 := neg_b g54 h52
   refine .skip ?_
   obtain rfl := Option.some.inj h56
   exact ⟨0, kwrap .i64 (x48 - x6), _, rfl, O39, (GM.le.refl _), rfl, rfl⟩
  have h55 := pos_inv g54 h52
  refine .seq (.region (W.q2 (.int .i64 (kwrap .i64 (x48 - x6))) rfl (W.q3 (.int .i64 (kwrap .i64 ((kwrap .i64 (x48 - x6)) + 1000000000))) rfl rfl (W.q1 (.int .i64 (kwrap .i64 ((kwrap .i64 (x48 - x6)) + 1000000000))) rfl (.nil (.region ?_))))))
  refine W.q1 (.int .i64 1) rfl (.nil ?_)
  obtain rfl := Option.some.inj h55
  exact ⟨1, kwrap .i64 ((kwrap .i64 (x48 - x6)) + 1000000000), _, rfl, O39, (GM.le.refl _), rfl, rfl⟩
 rintro σ59 H60 fr61 ⟨x57, x58, G62, rfl, O63, s64, t66, t67⟩
 have h68 := tu2_inv h53
 refine .region (W.q2 v0 ((fr61 0 rfl).trans ((fr37 0 rfl).trans ((fr11 0 rfl).trans rfl))) (W.q2 (.int .i64 p2) ((fr61 2 rfl).trans ((fr37 2 rfl).trans ((fr11 2 rfl).trans rfl))) (W.q2 (.int .i64 x8) ((fr61 11 rfl).trans ((fr37 11 rfl).trans t18)) (W.q3 (.int .i64 (kwrap .i64 (p2 + x8))) rfl rfl (W.q2 (.int .i64 x58) t67 (W.pure (v := (.int .u32 (IntKind.wrap .u32 x58))) rfl rfl (v_conv in2 in64 (oo rfl rfl)) ?_))))))
 obtain ⟨x69, i70, h71⟩ := bd_inv h68
 have j72 := idx_inv i70
 refine W.pure (v := (selem v0 (Int.toNat (kwrap .i64 (p2 + x8)) * 1))) rfl rfl (v_idx el46 sz64 (oo rfl rfl) (oo rfl rfl) (O63.slLen (j := 0) rfl) j72.1 j72.2.1) (W.lo rfl rfl (Lo.storeSl0 (j := 0) (y0 := IntKind.wrap .u32 x58) (v := (.int .u32 (IntKind.wrap .u32 x58))) rfl j72.2.2  rfl sz64 rfl rfl rfl O63) ?_)
 rintro v75 H76 ⟨O73, sm74⟩
 replace O73 : Ow G62 H76 (eSl v0 64 (rI .u32) (List.set x5 (Int.toNat (kwrap .i64 (p2 + x8))) (IntKind.wrap .u32 x58)) :: L) := O73
 refine .nil (.region (W.q2 (.int .i64 x8) ((fr61 11 rfl).trans ((fr37 11 rfl).trans t18)) (W.q3 (.int .i64 (kwrap .i64 (x8 + 1))) rfl rfl (W.q1 (.int .i64 (kwrap .i64 (x8 + 1))) rfl (.nil ?_)))))
 exact ⟨k4, Nat.lt_succ_self _, ⟨(List.set x5 (Int.toNat (kwrap .i64 (p2 + x8))) (IntKind.wrap .u32 x58)), x57, kwrap .u64 (Int.tdiv x34 1000000000), kwrap .i64 (x8 + 1), _, h71, O73, (GM.le.trans s14 (GM.le.trans s40 s64)), t66, ((fr61 10 rfl).trans rfl), rfl⟩⟩
def g_nat_N_plus_l0 (K : Nat) (p1 : List Int) (p2 : Int) : Nat → List Int → Int → Int → Option (List Int)
  | 0, _, _, _ => none
  | k + 1, x5, x6, x7 => (if (decide (x7 ≤ (List.length p1 : Int))) = true then ((idx x5 (kwrap .i64 (p2 + x7))).bind fun x19 => (Option.bind ((if (decide (x7 < (List.length p1 : Int))) = true then ((idx p1 x7).bind fun x28 => some (kwrap .u32 ((kwrap .u32 (x19 + x6)) + x28))) else some (kwrap .u32 (x19 + x6)))) (tu1 fun x33 => ((idx x5 (kwrap .i64 (p2 + x7))).bind fun x43 => g_nat_N_plus_l0 K p1 p2 k (List.set x5 (Int.toNat (kwrap .i64 (p2 + x7))) (Int.tmod x33 1000000000)) (kwrap .u32 (Int.tdiv x33 1000000000)) (kwrap .i64 (x7 + 1)))))) else some x5)
def g_nat_N_plus (K : Nat) (p0 : List Int) (p1 : List Int) (p2 : Int) : Option (List Int) := (Option.bind (g_nat_N_plus_l0 K p1 p2 K p0 0 0) (tu1 fun x52 => some x52))
set_option maxHeartbeats 4000000 in
theorem g_nat_N_plus_ok (K : Nat) {G : GM} {H : AH} {L : List Pc} (v0 : Value) (p0 : List Int) (v1 : Value) (p1 : List Int) (hp1 : (rSl (rI .u32)).rep G [v1] p1) (p2 : Int) (O : Ow G H (eSl v0 64 (rI .u32) p0 :: L)) (r : List Int) (h : g_nat_N_plus K p0 p1 p2 = some r) :
    CR Tryz.prog 80 [v0, v1, (.int .i64 p2)] G H (eSl v0 64 (rI .u32) r :: L) (fun v G' _ => v = .tuple #[]) := by
 unfold g_nat_N_plus at h
 refine CR.of (calls_of_AW (n := 42) (fn := Tryz.f80) (R := fun v H' => ∃ G', Ow G' H' (eSl v0 64 (rI .u32) r :: L) ∧ G.le G' ∧ v = .tuple #[]) (by kernel_rfl) rfl rfl ?_)
 refine .seq (.region (W.q1 (.int .u32 0) rfl (.nil (.seq (.region (W.q1 (.int .i64 0) rfl ?_))))))
 refine .nil ?_
 obtain ⟨q1, h2, h3⟩ := bd_inv h
 refine AW.midT (fun σ' H' => ∃ (y1 : List Int) (G' : GM), y1 = q1 ∧ Ow G' H' (eSl v0 64 (rI .u32) y1 :: L) ∧ GM.le G G') ?_ ?_
 rotate_left
 ·rintro σ53 H54 fr55 ⟨x52, G56, rfl, O57, s58⟩
  have h60 := tu1_inv h3
  obtain rfl := Option.some.inj h60
  refine ret0R (P := Tryz.prog) (fn := Tryz.f80) (n := 42) (R := fun v H' => ∃ G', Ow G' H' (eSl v0 64 (rI .u32) x52 :: L) ∧ G.le G' ∧ v = .tuple #[])  (by rfl)  ?_
  exact ⟨_, O57, s58, rfl⟩
 refine .block (AW.loop (α := Nat) (fun k' σ' H' => ∃ (y1 : List Int) (y2 : Int) (y3 : Int) (G' : GM), g_nat_N_plus_l0 K p1 p2 k' y1 y2 y3 = some q1 ∧ Ow G' H' (eSl v0 64 (rI .u32) y1 :: L) ∧ GM.le G G' ∧ σ' 6 = .int .u32 y2 ∧ σ' 7 = .int .i64 y3) (fun k' => k') K ⟨p0, 0, 0, _, h2, O, (GM.le.refl _), rfl, rfl⟩ ?_)
 rintro k4
 rintro σ8 H9 fr10 ⟨x5, x6, x7, G11, h14, O12, s13, t15, t16⟩
 rcases k4 with _ | k4
 ·exact none_absurd h14
 rw [g_nat_N_plus_l0] at h14
 refine .seq (.seq (.region (W.q2 (.int .i64 x7) t16 (W.q2 v1 ((fr10 1 rfl).trans rfl) (W.pure (v := (.int .i64 (List.length p1 : Int))) rfl rfl (len_sl (oo rfl rfl) (sl_len (RT.mono _ s13 hp1)) (elemT_inv el46)) (W.q3 (.bool (decide (x7 ≤ (List.length p1 : Int)))) rfl rfl ?_))))))
 refine .nil (.cond (b := decide (x7 ≤ (List.length p1 : Int))) rfl rfl (fun g17 => ?_) (fun g17 => ?_))
 rotate_left
 ·have h51 := neg_b g17 h14
  refine .exit ?_
  obtain rfl := Option.some.inj h51
  exact ⟨x5, _, rfl, O12, s13⟩
 have h18 := pos_inv g17 h14
 refine .skip (.seq (.block (.seq (.region (W.q2 v0 ((fr10 0 rfl).trans rfl) (W.q2 (.int .i64 p2) ((fr10 2 rfl).trans rfl) ?_))))))
 refine W.q2 (.int .i64 x7) t16 (W.q3 (.int .i64 (kwrap .i64 (p2 + x7))) rfl rfl ?_)
 obtain ⟨x19, i20, h21⟩ := bd_inv h18
 have j22 := idx_inv i20
 refine W.pure (v := (selem v0 (Int.toNat (kwrap .i64 (p2 + x7)) * 1))) rfl rfl (v_idx el46 sz64 (oo rfl rfl) (oo rfl rfl) (O12.slLen (j := 0) rfl) j22.1 j22.2.1) (W.load1 (v := (.int .u32 x19)) (r := []) rfl rfl ag64 (pt_px rfl (At.int (O12.atSl (j := 0) rfl j22.2.2))) (W.q2 (.int .u32 x6) t15 (W.q3 (.int .u32 (kwrap .u32 (x19 + x6))) rfl rfl (W.q1 (.int .u32 (kwrap .u32 (x19 + x6))) rfl (.nil (.seq ?_))))))
 refine .seq (.region (W.q2 (.int .i64 x7) t16 (W.q2 v1 ((fr10 1 rfl).trans rfl) (W.pure (v := (.int .i64 (List.length p1 : Int))) rfl rfl (len_sl (oo rfl rfl) (sl_len (RT.mono _ s13 hp1)) (elemT_inv el46)) (W.q3 (.bool (decide (x7 < (List.length p1 : Int)))) rfl rfl (.nil ?_))))))
 obtain ⟨q23, h24, h25⟩ := bd_inv h21
 refine AW.midT (fun σ' H' => ∃ (y1 : Int) (G' : GM), y1 = q23 ∧ Ow G' H' (eSl v0 64 (rI .u32) x5 :: L) ∧ GM.le G11 G' ∧ σ' 8 = .int .u32 y1) ?_ ?_
 ·refine .cond (b := decide (x7 < (List.length p1 : Int))) rfl rfl (fun g26 => ?_) (fun g26 => ?_)
  rotate_left
  ·have h32 := neg_b g26 h24
   refine .skip ?_
   obtain rfl := Option.some.inj h32
   exact ⟨kwrap .u32 (x19 + x6), _, rfl, O12, (GM.le.refl _), rfl⟩
  have h27 := pos_inv g26 h24
  refine .region (W.q2 (.int .u32 (kwrap .u32 (x19 + x6))) rfl (W.q2 v1 ((fr10 1 rfl).trans rfl) (W.q2 (.int .i64 x7) t16 ?_)))
  obtain ⟨x28, i29, h30⟩ := bd_inv h27
  have j31 := idx_inv i29
  refine W.pure (v := (selem v1 (Int.toNat x7 * 1))) rfl rfl (v_idx el46 sz64 (oo rfl rfl) (oo rfl rfl) (sl_len (RT.mono _ s13 hp1)) j31.1 j31.2.1) (W.load1 (v := (.int .u32 x28)) (r := []) rfl rfl ag64 (pt_px rfl (At.int (At.le (At.le (sl_idx hp1 j31.2.2) s13 s13) (GM.le.refl _) O12.fro))) (W.q3 (.int .u32 (kwrap .u32 ((kwrap .u32 (x19 + x6)) + x28))) rfl rfl (W.q1 (.int .u32 (kwrap .u32 ((kwrap .u32 (x19 + x6)) + x28))) rfl (.nil ?_))))
  obtain rfl := Option.some.inj h30
  exact ⟨kwrap .u32 ((kwrap .u32 (x19 + x6)) + x28), _, rfl, O12, (GM.le.refl _), rfl⟩
 rintro σ34 H35 fr36 ⟨x33, G37, rfl, O38, s39, t41⟩
 have h42 := tu1_inv h25
 refine .seq (.region (W.q2 (.int .u32 x33) t41 (W.pure (v := (.int .u32 (kwrap .u32 (Int.tdiv x33 1000000000)))) rfl rfl (v_quo (by decide) (oo rfl rfl) (oo rfl rfl)) (W.q1 (.int .u32 (kwrap .u32 (Int.tdiv x33 1000000000))) rfl (.nil (.region ?_))))))
 refine W.q2 v0 ((fr36 0 rfl).trans ((fr10 0 rfl).trans rfl)) (W.q2 (.int .i64 p2) ((fr36 2 rfl).trans ((fr10 2 rfl).trans rfl)) (W.q2 (.int .i64 x7) ((fr36 7 rfl).trans t16) (W.q3 (.int .i64 (kwrap .i64 (p2 + x7))) rfl rfl (W.q2 (.int .u32 x33) t41 (W.pure (v := (.int .u32 (Int.tmod x33 1000000000))) rfl rfl (v_rem (by decide) (oo rfl rfl) (oo rfl rfl)) ?_)))))
 obtain ⟨x43, i44, h45⟩ := bd_inv h42
 have j46 := idx_inv i44
 refine W.pure (v := (selem v0 (Int.toNat (kwrap .i64 (p2 + x7)) * 1))) rfl rfl (v_idx el46 sz64 (oo rfl rfl) (oo rfl rfl) (O38.slLen (j := 0) rfl) j46.1 j46.2.1) (W.lo rfl rfl (Lo.storeSl0 (j := 0) (y0 := Int.tmod x33 1000000000) (v := (.int .u32 (Int.tmod x33 1000000000))) rfl j46.2.2  rfl sz64 rfl rfl rfl O38) ?_)
 rintro v49 H50 ⟨O47, sm48⟩
 replace O47 : Ow G37 H50 (eSl v0 64 (rI .u32) (List.set x5 (Int.toNat (kwrap .i64 (p2 + x7))) (Int.tmod x33 1000000000)) :: L) := O47
 refine .nil (.region (W.q2 (.int .i64 x7) ((fr36 7 rfl).trans t16) (W.q3 (.int .i64 (kwrap .i64 (x7 + 1))) rfl rfl (W.q1 (.int .i64 (kwrap .i64 (x7 + 1))) rfl (.nil ?_)))))
 exact ⟨k4, Nat.lt_succ_self _, ⟨(List.set x5 (Int.toNat (kwrap .i64 (p2 + x7))) (Int.tmod x33 1000000000)), kwrap .u32 (Int.tdiv x33 1000000000), kwrap .i64 (x7 + 1), _, h45, O47, (GM.le.trans s13 s39), rfl, rfl⟩⟩
def g_nat_N_Div_l0 (K : Nat) (p0 : List Int) : Nat → List Int → Option (List Int)
  | 0, _ => none
  | k + 1, x105 => (if (decide ((List.length x105 : Int) ≤ (List.length p0 : Int))) = true then (if List.length x105 + List.length [0] ≤ 16777216 then g_nat_N_Div_l0 K p0 k (x105 ++ [0]) else none) else some x105)
def g_nat_N_Div_l4 (K : Nat) (x88 : List Int) (x160 : List Int) (x161 : Int) : Nat → Int → Int → Option (Int)
  | 0, _, _ => none
  | k + 1, x212, x213 => (Option.bind ((if (decide (x212 ≥ 1000000000)) = true then some true else ((idx x88 (kwrap .i64 ((List.length x88 : Int) - 2))).bind fun x235 => (lt (kwrap .i64 ((kwrap .i64 (x161 + (List.length x88 : Int))) - 2)) fun x239 => ((idx x160 x239).bind fun x242 => (lt (kwrap .u64 ((kwrap .u64 (x213 * 1000000000)) + (IntKind.wrap .u64 x242))) fun x246 => (lt (decide ((kwrap .u64 (x212 * (IntKind.wrap .u64 x235))) > x246)) fun x249 => some x249))))))) (tu1 fun x252 => (if x252 = true then ((idx x88 (kwrap .i64 ((List.length x88 : Int) - 1))).bind fun x264 => (lt (decide ((kwrap .u64 (x213 + (IntKind.wrap .u64 x264))) ≥ 1000000000)) fun x268 => (if x268 = true then some (kwrap .u64 (x212 - 1)) else g_nat_N_Div_l4 K x88 x160 x161 k (kwrap .u64 (x212 - 1)) (kwrap .u64 (x213 + (IntKind.wrap .u64 x264)))))) else some x212)))
def g_nat_N_Div_l2 (K : Nat) (x88 : List Int) : Nat → List Int → List Int → Int → Option (List Int × List Int)
  | 0, _, _, _ => none
  | k + 1, x159, x160, x161 => (if (decide (x161 ≥ 0)) = true then ((idx x160 (kwrap .i64 (x161 + (List.length x88 : Int)))).bind fun x177 => (lt (kwrap .i64 ((kwrap .i64 (x161 + (List.length x88 : Int))) - 1)) fun x181 => ((idx x160 x181).bind fun x184 => (lt (kwrap .u64 ((kwrap .u64 ((IntKind.wrap .u64 x177) * 1000000000)) + (IntKind.wrap .u64 x184))) fun x188 => ((idx x88 (kwrap .i64 ((List.length x88 : Int) - 1))).bind fun x196 => (if (IntKind.wrap .u64 x196) ≠ 0 then ((idx x88 (kwrap .i64 ((List.length x88 : Int) - 1))).bind fun x202 => (if (IntKind.wrap .u64 x202) ≠ 0 then (Option.bind (g_nat_N_Div_l4 K x88 x160 x161 K (kwrap .u64 (Int.tdiv x188 (IntKind.wrap .u64 x196))) (Int.tmod x188 (IntKind.wrap .u64 x202))) (tu1 fun x275 => ((g_nat_N_minus K x160 x88 x161 x275).bind fun x286 => (Option.bind ((if x286.1 = true then ((g_nat_N_plus K x286.2 x88 x161).bind fun x302 => some (x302, kwrap .u64 (x275 - 1))) else some (x286.2, x275))) (tu2 fun x314 x315 => ((idx x159 x161).bind fun x325 => g_nat_N_Div_l2 K x88 k (List.set x159 (Int.toNat x161) (IntKind.wrap .u32 x315)) x314 (kwrap .i64 (x161 - 1)))))))) else none)) else none)))))) else some (x159, x160))
def g_nat_N_Div (K : Nat) (p0 : List Int) (p1 : List Int) : Option (List Int × List Int) := ((g_nat_N_Cmp K p0 p1).bind fun x1 => (if (decide (x1 < 0)) = true then some ([], p0) else (if ((List.length p1 : Int) == 1) = true then ((idx p1 0).bind fun x17 => ((g_nat_N_short K p0 x17).bind fun x21 => some (x21.1, x21.2))) else ((idx p1 (kwrap .i64 ((List.length p1 : Int) - 1))).bind fun x37 => (if (kwrap .u64 ((IntKind.wrap .u64 x37) + 1)) ≠ 0 then (lt (kwrap .u64 (Int.tdiv (1000000000 : Int) (kwrap .u64 ((IntKind.wrap .u64 x37) + 1)))) fun x43 => ((g_nat_N_Mul K p0 [IntKind.wrap .u32 x43]).bind fun x54 => (if List.length x54 + List.length [0] ≤ 16777216 then ((g_nat_N_Mul K p1 [IntKind.wrap .u32 x43]).bind fun x88 => (Option.bind (g_nat_N_Div_l0 K p0 K (x54 ++ [0])) (tu1 fun x130 => (lt (kwrap .i64 ((List.length x130 : Int) - (List.length x88 : Int))) fun x139 => (if 0 ≤ x139 ∧ x139 ≤ x139 ∧ x139 ≤ 16777216 then (lt (kwrap .i64 ((List.length x130 : Int) - (List.length x88 : Int))) fun x148 => (Option.bind (g_nat_N_Div_l2 K x88 K (List.replicate (Int.toNat x139) 0) x130 (kwrap .i64 (x148 - 1))) (tu2 fun x337 x338 => ((g_nat_N_trim K x338).bind fun x348 => ((g_nat_N_short K x348 (IntKind.wrap .u32 x43)).bind fun x365 => ((g_nat_N_trim K x337).bind fun x380 => some (x380, x365.1))))))) else none))))) else none))) else none)))))
set_option maxHeartbeats 4000000 in
theorem g_nat_N_Div_ok (K : Nat) {G : GM} {H : AH} {L : List Pc} (v0 : Value) (p0 : List Int) (hp0 : (rSl (rI .u32)).rep G [v0] p0) (v1 : Value) (p1 : List Int) (hp1 : (rSl (rI .u32)).rep G [v1] p1) (O : Ow G H (L)) (r : List Int × List Int) (h : g_nat_N_Div K p0 p1 = some r) :
    CR Tryz.prog 58 [v0, v1] G H (L) (fun v G' _ => ∃ (w0 : Value), ∃ (w1 : Value), v = .tuple #[w0, w1] ∧ (rSl (rI .u32)).rep G' [w0] r.1 ∧ (rSl (rI .u32)).rep G' [w1] r.2) := by
 unfold g_nat_N_Div at h
 refine CR.of (calls_of_AW (n := 171) (fn := Tryz.f58) (R := fun v H' => ∃ G', Ow G' H' (L) ∧ G.le G' ∧ ∃ (w0 : Value), ∃ (w1 : Value), v = .tuple #[w0, w1] ∧ (rSl (rI .u32)).rep G' [w0] r.1 ∧ (rSl (rI .u32)).rep G' [w1] r.2) (by kernel_rfl) rfl rfl ?_)
 refine .seq (.region (W.q1 (.slice none 0 0) rfl (W.q1 (.slice none 0 0) rfl (.nil (.seq (.seq ?_))))))
 refine .region (W.q2 v0 rfl (W.q2 v1 rfl ?_))
 obtain ⟨x1, i2, h3⟩ := bd_inv h
 refine W.lo rfl rfl (Lo.callP (ps := []) (ps' := []) rfl (fn := Tryz.f40) (by kernel_rfl) rfl (mc rfl (mc rfl mn)) O (fun L' O' => g_nat_N_Cmp_ok K v0 p0 hp0 v1 p1 hp1 O' _ i2)) ?_
 rintro v10 H11 ⟨G4, O5, s6, sm9, rfl⟩
 replace O5 : Ow G4 H11 (L) := O5
 refine W.q3 (.bool (decide (x1 < 0))) rfl rfl (.nil (.cond (b := decide (x1 < 0)) rfl rfl (fun g12 => ?_) (fun g12 => ?_)))
 ·have h13 := pos_inv g12 h3
  refine .seq (.region (W.q2 v0 rfl (W.q1 (.slice none 0 0) rfl (W.q1 v0 rfl (.nil (.ret ?_))))))
  obtain rfl := Option.some.inj h13
  refine ret2R (P := Tryz.prog) (fn := Tryz.f58) (n := 171) (R := fun v H' => ∃ G', Ow G' H' (L) ∧ G.le G' ∧ ∃ (w0 : Value), ∃ (w1 : Value), v = .tuple #[w0, w1] ∧ (rSl (rI .u32)).rep G' [w0] ([], p0).1 ∧ (rSl (rI .u32)).rep G' [w1] ([], p0).2) (v1 := (.slice none 0 0)) (v2 := v0) (by rfl) (rr_tmp (by rfl) (by exact rfl)) (rr_tmp (by rfl) (by exact rfl)) ?_
  exact ⟨_, O5, s6, (.slice none 0 0), v0, rfl, sl_nil, (RT.mono _ s6 hp0)⟩
 have h14 := neg_b g12 h3
 refine .skip (.seq (.seq (.region (W.q2 v1 rfl (W.pure (v := (.int .i64 (List.length p1 : Int))) rfl rfl (len_sl (oo rfl rfl) (sl_len (RT.mono _ s6 hp1)) (elemT_inv el46)) (W.q3 (.bool ((List.length p1 : Int) == 1)) rfl rfl ?_))))))
 refine .nil (.cond (b := ((List.length p1 : Int) == 1)) rfl rfl (fun g15 => ?_) (fun g15 => ?_))
 ·have h16 := pos_inv g15 h14
  refine .seq (.region (W.q2 v0 rfl (W.q2 v1 rfl ?_)))
  obtain ⟨x17, i18, h19⟩ := bd_inv h16
  have j20 := idx_inv i18
  refine W.pure (v := (selem v1 (Int.toNat 0 * 1))) rfl rfl (v_idx el46 sz64 (oo rfl rfl) (oo rfl rfl) (sl_len (RT.mono _ s6 hp1)) j20.1 j20.2.1) (W.load1 (v := (.int .u32 x17)) (r := []) rfl rfl ag64 (pt_px rfl (At.int (At.le (At.le (sl_idx hp1 j20.2.2) s6 s6) (GM.le.refl _) O5.fro))) ?_)
  obtain ⟨x21, i22, h23⟩ := bd_inv h19
  refine W.lo rfl rfl (Lo.callP (ps := []) (ps' := []) rfl (fn := Tryz.f78) (by kernel_rfl) rfl (mc rfl (mc rfl mn)) O5 (fun L' O' => g_nat_N_short_ok K v0 p0 (RT.mono _ s6 hp0) x17 O' _ i22)) ?_
  rintro v34 H35 ⟨G24, O25, s26, sm33, ⟨w28, w30, rfl, f29, f31⟩⟩
  replace O25 : Ow G24 H35 (L) := O25
  refine W.pure (v := w28) rfl rfl (v_extract (oo rfl rfl) rfl) (W.pure (v := w30) rfl rfl (v_extract (oo rfl rfl) rfl) (W.q1 w28 rfl (W.q1 w30 rfl (.nil (.ret ?_)))))
  obtain rfl := Option.some.inj h23
  refine ret2R (P := Tryz.prog) (fn := Tryz.f58) (n := 171) (R := fun v H' => ∃ G', Ow G' H' (L) ∧ G.le G' ∧ ∃ (w0 : Value), ∃ (w1 : Value), v = .tuple #[w0, w1] ∧ (rSl (rI .u32)).rep G' [w0] (x21.1, x21.2).1 ∧ (rSl (rI .u32)).rep G' [w1] (x21.1, x21.2).2) (v1 := w28) (v2 := w30) (by rfl) (rr_tmp (by rfl) (by exact rfl)) (rr_tmp (by rfl) (by exact rfl)) ?_
  exact ⟨_, O25, (GM.le.trans s6 s26), w28, w30, rfl, f29, f31⟩
 have h36 := neg_b g15 h14
 refine .skip (.seq (.region (W.q2 v1 rfl (W.q2 v1 rfl (W.pure (v := (.int .i64 (List.length p1 : Int))) rfl rfl (len_sl (oo rfl rfl) (sl_len (RT.mono _ s6 hp1)) (elemT_inv el46)) (W.q3 (.int .i64 (kwrap .i64 ((List.length p1 : Int) - 1))) rfl rfl ?_))))))
 obtain ⟨x37, i38, h39⟩ := bd_inv h36
 have j40 := idx_inv i38
 refine W.pure (v := (selem v1 (Int.toNat (kwrap .i64 ((List.length p1 : Int) - 1)) * 1))) rfl rfl (v_idx el46 sz64 (oo rfl rfl) (oo rfl rfl) (sl_len (RT.mono _ s6 hp1)) j40.1 j40.2.1) (W.load1 (v := (.int .u32 x37)) (r := []) rfl rfl ag64 (pt_px rfl (At.int (At.le (At.le (sl_idx hp1 j40.2.2) s6 s6) (GM.le.refl _) O5.fro))) (W.pure (v := (.int .u64 (IntKind.wrap .u64 x37))) rfl rfl (v_conv in64 in95 (oo rfl rfl)) (W.q3 (.int .u64 (kwrap .u64 ((IntKind.wrap .u64 x37) + 1))) rfl rfl ?_)))
 obtain ⟨g41, h42⟩ := gd_inv h39
 refine W.pure (v := (.int .u64 (kwrap .u64 (Int.tdiv (1000000000 : Int) (kwrap .u64 ((IntKind.wrap .u64 x37) + 1)))))) rfl rfl (v_quo g41 (oo rfl rfl) (oo rfl rfl)) ?_
 obtain ⟨x43, e44, h45⟩ := lt_inv h42
 refine W.pure (v := (.int .u32 (IntKind.wrap .u32 x43))) rfl rfl (v_conv in95 in64 (oo rfl (congrArg (Value.int .u64) e44))) (W.q1 (.int .u32 (IntKind.wrap .u32 x43)) rfl (.nil (.seq (.region (W.q2 v0 rfl (W.q2 (.int .u32 (IntKind.wrap .u32 x43)) rfl ?_))))))
 refine W.lo rfl rfl (Lo.buildSlice (r := (rI .u32)) (vs := [(.int .u32 (IntKind.wrap .u32 x43))]) (xs := [IntKind.wrap .u32 x43]) el46 ze64 sz64 (by kernel_rfl) rfl (qc rfl qn) rfl (.cons rfl .nil) O5) ?_
 rintro v48 H49 ⟨O46, sm47⟩
 obtain ⟨G50, O51, s52, f53⟩ := O46.frzSl (j := 0) rfl
 replace O51 : Ow G50 H49 (L) := O51
 obtain ⟨x54, i55, h56⟩ := bd_inv h45
 refine W.lo rfl rfl (Lo.callPF (ps := []) (pw := fun w => [eSl w 64 (rI .u32) x54]) rfl (fn := Tryz.f75) (by kernel_rfl) rfl (mc rfl (mc rfl mn)) O51 (fun L' O' => g_nat_N_Mul_ok K v0 p0 (RT.mono _ (GM.le.trans s6 s52) hp0) v48 [IntKind.wrap .u32 x43] f53 O' _ i55)) ?_
 rintro v65 H66 ⟨w62, G57, O58, s59, sm64, rfl⟩
 replace O58 : Ow G57 H66 (eSl w62 64 (rI .u32) x54 :: L) := O58
 refine W.lo rfl rfl (Lo.buildSlice (r := (rI .u32)) (vs := [(.int .u32 0)]) (xs := [0]) el46 ze64 sz64 (by kernel_rfl) rfl (qc rfl qn) rfl (.cons rfl .nil) O58) ?_
 rintro v69 H70 ⟨O67, sm68⟩
 obtain ⟨es72, e73, e74⟩ := src_own (j := 0) rfl O67
 obtain ⟨g75, h76⟩ := gd_inv h56
 refine W.lo rfl rfl (Lo.append (j := 1) (v := w62) rfl rfl el46 ni46 ze64 sz64 by64 (by decide) (by decide) rfl e73 e74 g75 O67) ?_
 rintro v78 H79 ⟨O71, sm77⟩
 replace O71 : Ow G57 H79 (eSl v69 64 (rI .u32) [0] :: eSl v78 64 (rI .u32) (x54 ++ [0]) :: L) := O71
 refine W.q2 v1 rfl (W.q2 (.int .u32 (IntKind.wrap .u32 x43)) rfl (W.lo rfl rfl (Lo.buildSlice (r := (rI .u32)) (vs := [(.int .u32 (IntKind.wrap .u32 x43))]) (xs := [IntKind.wrap .u32 x43]) el46 ze64 sz64 (by kernel_rfl) rfl (qc rfl qn) rfl (.cons rfl .nil) O71) ?_))
 rintro v82 H83 ⟨O80, sm81⟩
 obtain ⟨G84, O85, s86, f87⟩ := O80.frzSl (j := 0) rfl
 replace O85 : Ow G84 H83 (eSl v69 64 (rI .u32) [0] :: eSl v78 64 (rI .u32) (x54 ++ [0]) :: L) := O85
 obtain ⟨x88, i89, h90⟩ := bd_inv h76
 refine W.lo rfl rfl (Lo.callPF (ps := []) (pw := fun w => [eSl w 64 (rI .u32) x88]) rfl (fn := Tryz.f75) (by kernel_rfl) rfl (mc rfl (mc rfl mn)) O85 (fun L' O' => g_nat_N_Mul_ok K v1 p1 (RT.mono _ (GM.le.trans s6 (GM.le.trans s52 (GM.le.trans s59 s86))) hp1) v82 [IntKind.wrap .u32 x43] f87 O' _ i89)) ?_
 rintro v99 H100 ⟨w96, G91, O92, s93, sm98, rfl⟩
 replace O92 : Ow G91 H100 (eSl w96 64 (rI .u32) x88 :: eSl v69 64 (rI .u32) [0] :: eSl v78 64 (rI .u32) (x54 ++ [0]) :: L) := O92
 refine W.q1 v78 rfl (W.q1 w96 rfl (.nil (.seq ?_)))
 obtain ⟨q101, h102, h103⟩ := bd_inv h90
 refine AW.midT (fun σ' H' => ∃ (y1 : List Int) (G' : GM), y1 = q101 ∧ Ow G' H' (eSl w96 64 (rI .u32) x88 :: eSl v69 64 (rI .u32) [0] :: eSl (σ' 7) 64 (rI .u32) y1 :: L) ∧ GM.le G91 G') ?_ ?_
 ·refine .block (AW.loop (α := Nat) (fun k' σ' H' => ∃ (y1 : List Int) (G' : GM), g_nat_N_Div_l0 K p0 k' y1 = some q101 ∧ Ow G' H' (eSl w96 64 (rI .u32) x88 :: eSl v69 64 (rI .u32) [0] :: eSl (σ' 7) 64 (rI .u32) y1 :: L) ∧ GM.le G91 G') (fun k' => k') K ⟨(x54 ++ [0]), _, h102, O92, (GM.le.refl _)⟩ ?_)
  rintro k104
  rintro σ106 H107 fr108 ⟨x105, G109, h112, O110, s111⟩
  rcases k104 with _ | k104
  ·exact none_absurd h112
  rw [g_nat_N_Div_l0] at h112
  refine .seq (.seq (.region (W.q2 (σ106 7) rfl (W.pure (v := (.int .i64 (List.length x105 : Int))) rfl rfl (len_sl (oo rfl rfl) (O110.slLen (j := 2) rfl) (elemT_inv el46)) (W.q2 v0 ((fr108 0 rfl).trans rfl) (W.pure (v := (.int .i64 (List.length p0 : Int))) rfl rfl (len_sl (oo rfl rfl) (sl_len (RT.mono _ (GM.le.trans s6 (GM.le.trans s52 (GM.le.trans s59 (GM.le.trans s86 (GM.le.trans s93 s111))))) hp0)) (elemT_inv el46)) ?_))))))
  refine W.q3 (.bool (decide ((List.length x105 : Int) ≤ (List.length p0 : Int)))) rfl rfl (.nil (.cond (b := decide ((List.length x105 : Int) ≤ (List.length p0 : Int))) rfl rfl (fun g113 => ?_) (fun g113 => ?_)))
  rotate_left
  ·have h129 := neg_b g113 h112
   refine .exit ?_
   obtain rfl := Option.some.inj h129
   exact ⟨x105, _, rfl, O110, s111⟩
  have h114 := pos_inv g113 h112
  refine .skip (.block (.region (W.q2 (σ106 7) rfl (W.lo rfl rfl (Lo.buildSlice (r := (rI .u32)) (vs := [(.int .u32 0)]) (xs := [0]) el46 ze64 sz64 (by kernel_rfl) rfl (qc rfl qn) rfl (.cons rfl .nil) O110) ?_))))
  rintro v117 H118 ⟨O115, sm116⟩
  obtain ⟨es120, e121, e122⟩ := src_own (j := 0) rfl O115
  obtain ⟨g123, h124⟩ := gd_inv h114
  refine W.lo rfl rfl (Lo.append (j := 3) (v := (σ106 7)) rfl rfl el46 ni46 ze64 sz64 by64 (by decide) (by decide) rfl e121 e122 g123 O115) ?_
  rintro v126 H127 ⟨O119, sm125⟩
  replace O119 : Ow G109 H127 (eSl v117 64 (rI .u32) [0] :: eSl w96 64 (rI .u32) x88 :: eSl v69 64 (rI .u32) [0] :: eSl v126 64 (rI .u32) (x105 ++ [0]) :: L) := O119
  refine W.q1 v126 rfl (.nil ?_)
  have O128 : Ow G109 H127 (eSl w96 64 (rI .u32) x88 :: eSl v69 64 (rI .u32) [0] :: eSl v126 64 (rI .u32) (x105 ++ [0]) :: L) := O119.drop 0
  exact ⟨k104, Nat.lt_succ_self _, ⟨(x105 ++ [0]), _, h124, O128, s111⟩⟩
 rintro σ131 H132 fr133 ⟨x130, G134, rfl, O135, s136⟩
 have h138 := tu1_inv h103
 refine .seq (.region (W.q2 w96 ((fr133 8 rfl).trans rfl) (W.pure (v := (.int .i64 (List.length x88 : Int))) rfl rfl (len_sl (oo rfl rfl) (O135.slLen (j := 0) rfl) (elemT_inv el46)) (W.q1 (.int .i64 (List.length x88 : Int)) rfl (.nil (.seq ?_))))))
 refine .region (W.q2 (σ131 7) rfl (W.pure (v := (.int .i64 (List.length x130 : Int))) rfl rfl (len_sl (oo rfl rfl) (O135.slLen (j := 2) rfl) (elemT_inv el46)) (W.q2 (.int .i64 (List.length x88 : Int)) rfl (W.q3 (.int .i64 (kwrap .i64 ((List.length x130 : Int) - (List.length x88 : Int)))) rfl rfl ?_))))
 obtain ⟨x139, e140, h141⟩ := lt_inv h138
 obtain ⟨g143, h144⟩ := gd_inv h141
 refine W.lo rfl rfl (Lo.makeSlice (r := (rI .u32)) (x0 := 0) (a := x139) (c := x139) rfl el46 ze64 sz64 (by kernel_rfl) rfl by64 (by decide) (congrArg (Value.int .i64) e140) (congrArg (Value.int .i64) e140) g143 (zI .u32) O135) ?_
 rintro v146 H147 ⟨O142, sm145⟩
 refine W.q1 v146 rfl (.nil (.seq (.seq (.region (W.q2 (σ131 7) rfl (W.pure (v := (.int .i64 (List.length x130 : Int))) rfl rfl (len_sl (oo rfl rfl) (O142.slLen (j := 3) rfl) (elemT_inv el46)) ?_))))))
 refine W.q2 (.int .i64 (List.length x88 : Int)) rfl (W.q3 (.int .i64 (kwrap .i64 ((List.length x130 : Int) - (List.length x88 : Int)))) rfl rfl ?_)
 obtain ⟨x148, e149, h150⟩ := lt_inv h144
 refine W.q3 (.int .i64 (kwrap .i64 (x148 - 1))) (congrArg (Value.int .i64) e149) rfl (W.q1 (.int .i64 (kwrap .i64 (x148 - 1))) rfl (.nil ?_))
 obtain ⟨G151, O152, s153, f154⟩ := O142.frzSl (j := 1) rfl
 replace O152 : Ow G151 H147 (eSl v146 64 (rI .u32) (List.replicate (Int.toNat x139) 0) :: eSl v69 64 (rI .u32) [0] :: eSl (σ131 7) 64 (rI .u32) x130 :: L) := O152
 obtain ⟨q155, h156, h157⟩ := bd_inv h150
 refine AW.midT (fun σ' H' => ∃ (y1 : List Int) (y2 : List Int) (G' : GM), (y1, y2) = q155 ∧ Ow G' H' (eSl v146 64 (rI .u32) y1 :: eSl v69 64 (rI .u32) [0] :: eSl (σ131 7) 64 (rI .u32) y2 :: L) ∧ GM.le G151 G') ?_ ?_
 rotate_left
 ·rintro σ339 H340 fr341 ⟨x337, x338, G342, rfl, O343, s344⟩
  have h346 := tu2_inv h157
  refine .seq (.region (W.q2 (σ131 7) ((fr341 7 rfl).trans rfl) ?_))
  have O347 : Ow G342 H340 (eSl (σ131 7) 64 (rI .u32) x338 :: eSl v146 64 (rI .u32) x337 :: eSl v69 64 (rI .u32) [0] :: L) := O343.front (j := 2) rfl
  obtain ⟨x348, i349, h350⟩ := bd_inv h346
  refine W.lo rfl rfl (Lo.callPF (ps := [eSl (σ131 7) 64 (rI .u32) x338]) (pw := fun w => [eSl w 64 (rI .u32) x348]) rfl (fn := Tryz.f81) (by kernel_rfl) rfl (mc rfl mn) O347 (fun L' O' => g_nat_N_trim_ok K (σ131 7) x338 O' _ i349)) ?_
  rintro v359 H360 ⟨w356, G351, O352, s353, sm358, rfl⟩
  replace O352 : Ow G351 H360 (eSl w356 64 (rI .u32) x348 :: eSl v146 64 (rI .u32) x337 :: eSl v69 64 (rI .u32) [0] :: L) := O352
  refine W.q2 (.int .u32 (IntKind.wrap .u32 x43)) ((fr341 6 rfl).trans ((fr133 6 rfl).trans rfl)) ?_
  obtain ⟨G361, O362, s363, f364⟩ := O352.frzSl (j := 0) rfl
  replace O362 : Ow G361 H360 (eSl v146 64 (rI .u32) x337 :: eSl v69 64 (rI .u32) [0] :: L) := O362
  obtain ⟨x365, i366, h367⟩ := bd_inv h350
  refine W.lo rfl rfl (Lo.callP (ps := []) (ps' := []) rfl (fn := Tryz.f78) (by kernel_rfl) rfl (mc rfl (mc rfl mn)) O362 (fun L' O' => g_nat_N_short_ok K w356 x348 f364 (IntKind.wrap .u32 x43) O' _ i366)) ?_
  rintro v378 H379 ⟨G368, O369, s370, sm377, ⟨w372, w374, rfl, f373, f375⟩⟩
  replace O369 : Ow G368 H379 (eSl v146 64 (rI .u32) x337 :: eSl v69 64 (rI .u32) [0] :: L) := O369
  refine W.q2 (.tuple #[w372, w374]) rfl (W.pure (v := w372) rfl rfl (v_extract (oo rfl rfl) rfl) (W.pure (v := w374) rfl rfl (v_extract (oo rfl rfl) rfl) (W.q1 w372 rfl (W.q1 w374 rfl (.nil (.seq ?_))))))
  refine .region (W.q2 v146 ((fr341 10 rfl).trans rfl) ?_)
  obtain ⟨x380, i381, h382⟩ := bd_inv h367
  refine W.lo rfl rfl (Lo.callPF (ps := [eSl v146 64 (rI .u32) x337]) (pw := fun w => [eSl w 64 (rI .u32) x380]) rfl (fn := Tryz.f81) (by kernel_rfl) rfl (mc rfl mn) O369 (fun L' O' => g_nat_N_trim_ok K v146 x337 O' _ i381)) ?_
  rintro v391 H392 ⟨w388, G383, O384, s385, sm390, rfl⟩
  replace O384 : Ow G383 H392 (eSl w388 64 (rI .u32) x380 :: eSl v69 64 (rI .u32) [0] :: L) := O384
  refine W.q2 w372 rfl (W.q1 w388 rfl (W.q1 w372 rfl (.nil (.ret ?_))))
  obtain ⟨G393, O394, s395, f396⟩ := O384.frzSl (j := 0) rfl
  replace O394 : Ow G393 H392 (eSl v69 64 (rI .u32) [0] :: L) := O394
  have O397 : Ow G393 H392 (L) := O394.drop 0
  obtain rfl := Option.some.inj h382
  refine ret2R (P := Tryz.prog) (fn := Tryz.f58) (n := 171) (R := fun v H' => ∃ G', Ow G' H' (L) ∧ G.le G' ∧ ∃ (w0 : Value), ∃ (w1 : Value), v = .tuple #[w0, w1] ∧ (rSl (rI .u32)).rep G' [w0] (x380, x365.1).1 ∧ (rSl (rI .u32)).rep G' [w1] (x380, x365.1).2) (v1 := w388) (v2 := w372) (by rfl) (rr_tmp (by rfl) (by exact rfl)) (rr_tmp (by rfl) (by exact rfl)) ?_
  exact ⟨_, O397, (GM.le.trans s6 (GM.le.trans s52 (GM.le.trans s59 (GM.le.trans s86 (GM.le.trans s93 (GM.le.trans s136 (GM.le.trans s153 (GM.le.trans s344 (GM.le.trans s353 (GM.le.trans s363 (GM.le.trans s370 (GM.le.trans s385 s395)))))))))))), w388, w372, rfl, f396, (RT.mono _ (GM.le.trans s385 s395) f373)⟩
 refine .block (AW.loop (α := Nat) (fun k' σ' H' => ∃ (y1 : List Int) (y2 : List Int) (y3 : Int) (G' : GM), g_nat_N_Div_l2 K x88 k' y1 y2 y3 = some q155 ∧ Ow G' H' (eSl v146 64 (rI .u32) y1 :: eSl v69 64 (rI .u32) [0] :: eSl (σ131 7) 64 (rI .u32) y2 :: L) ∧ GM.le G151 G' ∧ σ' 11 = .int .i64 y3) (fun k' => k') K ⟨(List.replicate (Int.toNat x139) 0), x130, kwrap .i64 (x148 - 1), _, h156, O152, (GM.le.refl _), rfl⟩ ?_)
 rintro k158
 rintro σ162 H163 fr164 ⟨x159, x160, x161, G165, h168, O166, s167, t169⟩
 rcases k158 with _ | k158
 ·exact none_absurd h168
 rw [g_nat_N_Div_l2] at h168
 refine .seq (.seq (.region (W.q2 (.int .i64 x161) t169 (W.q3 (.bool (decide (x161 ≥ 0))) rfl rfl (.nil (.cond (b := decide (x161 ≥ 0)) rfl rfl (fun g170 => ?_) (fun g170 => ?_)))))))
 rotate_left
 ·have h336 := neg_b g170 h168
  refine .exit ?_
  obtain rfl := Option.some.inj h336
  exact ⟨x159, x160, _, rfl, O166, s167⟩
 have h171 := pos_inv g170 h168
 refine .skip (.seq (.block (.seq (.draw2 (M := [0, 0, 0, 6, 15, 31, 63, 127, 0, 0, 0, 1536, 3584, 7936, 16128, 32512, 65535, 131071]) mixed (by kernel_rfl) (by kernel_rfl) fun H172 N176 x173 F175 => ?_))))
 have O174 := O166.ext x173
 refine D2.q2 (σ131 7) ((fr164 7 rfl).trans rfl) (D2.q2 (.int .i64 x161) t169 (D2.q2 (.int .i64 (List.length x88 : Int)) ((fr164 9 rfl).trans rfl) (D2.q3 (.int .i64 (kwrap .i64 (x161 + (List.length x88 : Int)))) rfl rfl ?_)))
 obtain ⟨x177, i178, h179⟩ := bd_inv h171
 have j180 := idx_inv i178
 refine D2.pure (v := (selem (σ131 7) (Int.toNat (kwrap .i64 (x161 + (List.length x88 : Int))) * 1))) rfl rfl (v_idx el46 sz64 (oo rfl rfl) (oo rfl rfl) (O174.slLen (j := 2) rfl) j180.1 j180.2.1) (D2.load1' (v := (.int .u32 x177)) (r := []) rfl rfl ag64 (pt_px rfl (At.int (O174.atSl (j := 2) rfl j180.2.2))) fa_nil (D2.pure (v := (.int .u64 (IntKind.wrap .u64 x177))) rfl rfl (v_conv in64 in95 (oo rfl rfl)) (D2.q3 (.int .u64 (kwrap .u64 ((IntKind.wrap .u64 x177) * 1000000000))) rfl rfl (D2.q2 (σ131 7) ((fr164 7 rfl).trans rfl) (D2.q2 (.int .i64 x161) t169 (D2.q2 (.int .i64 (List.length x88 : Int)) ((fr164 9 rfl).trans rfl) ?_))))))
 refine D2.q3 (.int .i64 (kwrap .i64 (x161 + (List.length x88 : Int)))) rfl rfl (D2.q3 (.int .i64 (kwrap .i64 ((kwrap .i64 (x161 + (List.length x88 : Int))) - 1))) rfl rfl ?_)
 obtain ⟨x181, e182, h183⟩ := lt_inv h179
 obtain ⟨x184, i185, h186⟩ := bd_inv h183
 have j187 := idx_inv i185
 refine D2.pure (v := (selem (σ131 7) (Int.toNat x181 * 1))) rfl rfl (v_idx el46 sz64 (oo rfl rfl) (oo rfl (congrArg (Value.int .i64) e182)) (O174.slLen (j := 2) rfl) j187.1 j187.2.1) (D2.load1' (v := (.int .u32 x184)) (r := []) rfl rfl ag64 (pt_px rfl (At.int (O174.atSl (j := 2) rfl j187.2.2))) fa_nil (D2.pure (v := (.int .u64 (IntKind.wrap .u64 x184))) rfl rfl (v_conv in64 in95 (oo rfl rfl)) (D2.q3 (.int .u64 (kwrap .u64 ((kwrap .u64 ((IntKind.wrap .u64 x177) * 1000000000)) + (IntKind.wrap .u64 x184)))) rfl rfl ?_)))
 obtain ⟨x188, e189, h190⟩ := lt_inv h186
 refine D2.q1 (.int .u64 x188) (congrArg (Value.int .u64) e189) (.nil (.seq (.draw2 (M := [0, 0, 0, 4, 14, 30, 62, 127, 0, 0, 0, 1024, 3584, 7680, 15872, 32512, 255, 131071]) mixed (by kernel_rfl) (by kernel_rfl) fun H191 N195 x192 F194 => ?_)))
 have O193 := O174.ext x192
 refine D2.q2 (.int .u64 x188) rfl (D2.q2 w96 ((fr164 8 rfl).trans ((fr133 8 rfl).trans rfl)) (D2.q2 (.int .i64 (List.length x88 : Int)) ((fr164 9 rfl).trans rfl) (D2.q3 (.int .i64 (kwrap .i64 ((List.length x88 : Int) - 1))) rfl rfl ?_)))
 obtain ⟨x196, i197, h198⟩ := bd_inv h190
 have j199 := idx_inv i197
 refine D2.pure (v := (selem w96 (Int.toNat (kwrap .i64 ((List.length x88 : Int) - 1)) * 1))) rfl rfl (v_idx el46 sz64 (oo rfl rfl) (oo rfl rfl) (sl_len (RT.mono _ s167 f154)) j199.1 j199.2.1) (D2.load1' (v := (.int .u32 x196)) (r := []) rfl rfl ag64 (pt_px rfl (At.int (At.le (At.le (sl_idx f154 j199.2.2) s167 s167) (GM.le.refl _) O193.fro))) fa_nil (D2.pure (v := (.int .u64 (IntKind.wrap .u64 x196))) rfl rfl (v_conv in64 in95 (oo rfl rfl)) ?_))
 obtain ⟨g200, h201⟩ := gd_inv h198
 refine D2.pure (v := (.int .u64 (kwrap .u64 (Int.tdiv x188 (IntKind.wrap .u64 x196))))) rfl rfl (v_quo g200 (oo rfl rfl) (oo rfl rfl)) (D2.q2 (.int .u64 x188) rfl (D2.q2 w96 ((fr164 8 rfl).trans ((fr133 8 rfl).trans rfl)) (D2.q2 (.int .i64 (List.length x88 : Int)) ((fr164 9 rfl).trans rfl) (D2.q3 (.int .i64 (kwrap .i64 ((List.length x88 : Int) - 1))) rfl rfl ?_))))
 obtain ⟨x202, i203, h204⟩ := bd_inv h201
 have j205 := idx_inv i203
 refine D2.pure (v := (selem w96 (Int.toNat (kwrap .i64 ((List.length x88 : Int) - 1)) * 1))) rfl rfl (v_idx el46 sz64 (oo rfl rfl) (oo rfl rfl) (sl_len (RT.mono _ s167 f154)) j205.1 j205.2.1) (D2.load1' (v := (.int .u32 x202)) (r := []) rfl rfl ag64 (pt_px rfl (At.int (At.le (At.le (sl_idx f154 j205.2.2) s167 s167) (GM.le.refl _) O193.fro))) fa_nil (D2.pure (v := (.int .u64 (IntKind.wrap .u64 x202))) rfl rfl (v_conv in64 in95 (oo rfl rfl)) ?_))
 obtain ⟨g206, h207⟩ := gd_inv h204
 refine D2.pure (v := (.int .u64 (Int.tmod x188 (IntKind.wrap .u64 x202)))) rfl rfl (v_rem g206 (oo rfl rfl) (oo rfl rfl)) (D2.q1 (.int .u64 (kwrap .u64 (Int.tdiv x188 (IntKind.wrap .u64 x196)))) rfl (D2.q1 (.int .u64 (Int.tmod x188 (IntKind.wrap .u64 x202))) rfl (.nil (.seq ?_))))
 obtain ⟨q208, h209, h210⟩ := bd_inv h207
 refine AW.midT (fun σ' H' => ∃ (y1 : Int) (G' : GM), y1 = q208 ∧ Ow G' H' (eSl v146 64 (rI .u32) x159 :: eSl v69 64 (rI .u32) [0] :: eSl (σ131 7) 64 (rI .u32) x160 :: L) ∧ GM.le G165 G' ∧ σ' 13 = .int .u64 y1) ?_ ?_
 rotate_left
 ·rintro σ276 H277 fr278 ⟨x275, G279, rfl, O280, s281, t283⟩
  have h284 := tu1_inv h210
  refine .seq (.seq (.region (W.q2 (σ131 7) ((fr278 7 rfl).trans ((fr164 7 rfl).trans rfl)) (W.q2 w96 ((fr278 8 rfl).trans ((fr164 8 rfl).trans ((fr133 8 rfl).trans rfl))) (W.q2 (.int .i64 x161) ((fr278 11 rfl).trans t169) (W.q2 (.int .u64 x275) t283 ?_))))))
  have O285 : Ow G279 H277 (eSl (σ131 7) 64 (rI .u32) x160 :: eSl v146 64 (rI .u32) x159 :: eSl v69 64 (rI .u32) [0] :: L) := O280.front (j := 2) rfl
  obtain ⟨x286, i287, h288⟩ := bd_inv h284
  refine W.lo rfl rfl (Lo.callP (ps := [eSl (σ131 7) 64 (rI .u32) x160]) (ps' := [eSl (σ131 7) 64 (rI .u32) x286.2]) rfl (fn := Tryz.f79) (by kernel_rfl) rfl (mc rfl (mc rfl (mc rfl (mc rfl mn)))) O285 (fun L' O' => g_nat_N_minus_ok K (σ131 7) x160 w96 x88 (RT.mono _ (GM.le.trans s167 s281) f154) x161 x275 O' _ i287)) ?_
  rintro v295 H296 ⟨G289, O290, s291, sm294, rfl⟩
  replace O290 : Ow G289 H296 (eSl (σ131 7) 64 (rI .u32) x286.2 :: eSl v146 64 (rI .u32) x159 :: eSl v69 64 (rI .u32) [0] :: L) := O290
  refine .nil ?_
  obtain ⟨q297, h298, h299⟩ := bd_inv h288
  refine AW.midT (fun σ' H' => ∃ (y1 : List Int) (y2 : Int) (G' : GM), (y1, y2) = q297 ∧ Ow G' H' (eSl (σ131 7) 64 (rI .u32) y1 :: eSl v146 64 (rI .u32) x159 :: eSl v69 64 (rI .u32) [0] :: L) ∧ GM.le G289 G' ∧ σ' 13 = .int .u64 y2) ?_ ?_
  ·refine .cond (b := x286.1) rfl rfl (fun g300 => ?_) (fun g300 => ?_)
   rotate_left
   ·have h313 := neg_b g300 h298
    refine .skip ?_
    obtain rfl := Option.some.inj h313
    exact ⟨x286.2, x275, _, rfl, O290, (GM.le.refl _), t283⟩
   have h301 := pos_inv g300 h298
   refine .seq (.region (W.q2 (.int .u64 x275) t283 (W.q3 (.int .u64 (kwrap .u64 (x275 - 1))) rfl rfl (W.q1 (.int .u64 (kwrap .u64 (x275 - 1))) rfl (.nil (.region ?_))))))
   refine W.q2 (σ131 7) ((fr278 7 rfl).trans ((fr164 7 rfl).trans rfl)) (W.q2 w96 ((fr278 8 rfl).trans ((fr164 8 rfl).trans ((fr133 8 rfl).trans rfl))) (W.q2 (.int .i64 x161) ((fr278 11 rfl).trans t169) ?_))
   obtain ⟨x302, i303, h304⟩ := bd_inv h301
   refine W.lo rfl rfl (Lo.callP (ps := [eSl (σ131 7) 64 (rI .u32) x286.2]) (ps' := [eSl (σ131 7) 64 (rI .u32) x302]) rfl (fn := Tryz.f80) (by kernel_rfl) rfl (mc rfl (mc rfl (mc rfl mn))) O290 (fun L' O' => g_nat_N_plus_ok K (σ131 7) x286.2 w96 x88 (RT.mono _ (GM.le.trans s167 (GM.le.trans s281 s291)) f154) x161 O' _ i303)) ?_
   rintro v311 H312 ⟨G305, O306, s307, sm310, rfl⟩
   replace O306 : Ow G305 H312 (eSl (σ131 7) 64 (rI .u32) x302 :: eSl v146 64 (rI .u32) x159 :: eSl v69 64 (rI .u32) [0] :: L) := O306
   refine .nil ?_
   obtain rfl := Option.some.inj h304
   exact ⟨x302, kwrap .u64 (x275 - 1), _, rfl, O306, s307, rfl⟩
  rintro σ316 H317 fr318 ⟨x314, x315, G319, rfl, O320, s321, t323⟩
  have h324 := tu2_inv h299
  refine .region (W.q2 v146 ((fr318 10 rfl).trans ((fr278 10 rfl).trans ((fr164 10 rfl).trans rfl))) (W.q2 (.int .i64 x161) ((fr318 11 rfl).trans ((fr278 11 rfl).trans t169)) (W.q2 (.int .u64 x315) t323 (W.pure (v := (.int .u32 (IntKind.wrap .u32 x315))) rfl rfl (v_conv in95 in64 (oo rfl rfl)) ?_))))
  obtain ⟨x325, i326, h327⟩ := bd_inv h324
  have j328 := idx_inv i326
  refine W.pure (v := (selem v146 (Int.toNat x161 * 1))) rfl rfl (v_idx el46 sz64 (oo rfl rfl) (oo rfl rfl) (O320.slLen (j := 1) rfl) j328.1 j328.2.1) (W.lo rfl rfl (Lo.storeSl0 (j := 1) (y0 := IntKind.wrap .u32 x315) (v := (.int .u32 (IntKind.wrap .u32 x315))) rfl j328.2.2  rfl sz64 rfl rfl rfl O320) ?_)
  rintro v331 H332 ⟨O329, sm330⟩
  replace O329 : Ow G319 H332 (eSl (σ131 7) 64 (rI .u32) x314 :: eSl v146 64 (rI .u32) (List.set x159 (Int.toNat x161) (IntKind.wrap .u32 x315)) :: eSl v69 64 (rI .u32) [0] :: L) := O329
  refine .nil (.region (W.q2 (.int .i64 x161) ((fr318 11 rfl).trans ((fr278 11 rfl).trans t169)) (W.q3 (.int .i64 (kwrap .i64 (x161 - 1))) rfl rfl (W.q1 (.int .i64 (kwrap .i64 (x161 - 1))) rfl (.nil ?_)))))
  have O333 : Ow G319 H332 (eSl (σ131 7) 64 (rI .u32) x314 :: eSl v146 64 (rI .u32) (List.set x159 (Int.toNat x161) (IntKind.wrap .u32 x315)) :: eSl v69 64 (rI .u32) [0] :: L) := O329.front (j := 0) rfl
  have O334 : Ow G319 H332 (eSl v69 64 (rI .u32) [0] :: eSl (σ131 7) 64 (rI .u32) x314 :: eSl v146 64 (rI .u32) (List.set x159 (Int.toNat x161) (IntKind.wrap .u32 x315)) :: L) := O333.front (j := 2) rfl
  have O335 : Ow G319 H332 (eSl v146 64 (rI .u32) (List.set x159 (Int.toNat x161) (IntKind.wrap .u32 x315)) :: eSl v69 64 (rI .u32) [0] :: eSl (σ131 7) 64 (rI .u32) x314 :: L) := O334.front (j := 2) rfl
  exact ⟨k158, Nat.lt_succ_self _, ⟨(List.set x159 (Int.toNat x161) (IntKind.wrap .u32 x315)), x314, kwrap .i64 (x161 - 1), _, h327, O335, (GM.le.trans s167 (GM.le.trans s281 (GM.le.trans s291 s321))), rfl⟩⟩
 refine .block (AW.loop (α := Nat) (fun k' σ' H' => ∃ (y1 : Int) (y2 : Int) (G' : GM), g_nat_N_Div_l4 K x88 x160 x161 k' y1 y2 = some q208 ∧ Ow G' H' (eSl v146 64 (rI .u32) x159 :: eSl v69 64 (rI .u32) [0] :: eSl (σ131 7) 64 (rI .u32) x160 :: L) ∧ GM.le G165 G' ∧ σ' 13 = .int .u64 y1 ∧ σ' 14 = .int .u64 y2) (fun k' => k') K ⟨kwrap .u64 (Int.tdiv x188 (IntKind.wrap .u64 x196)), Int.tmod x188 (IntKind.wrap .u64 x202), _, h209, O193, (GM.le.refl _), rfl, rfl⟩ ?_)
 rintro k211
 rintro σ214 H215 fr216 ⟨x212, x213, G217, h220, O218, s219, t221, t222⟩
 rcases k211 with _ | k211
 ·exact none_absurd h220
 rw [g_nat_N_Div_l4] at h220
 refine .seq (.seq ?_)
 obtain ⟨q223, h224, h225⟩ := bd_inv h220
 refine AW.midT (fun σ' H' => ∃ (y1 : Bool) (G' : GM), y1 = q223 ∧ Ow G' H' (eSl v146 64 (rI .u32) x159 :: eSl v69 64 (rI .u32) [0] :: eSl (σ131 7) 64 (rI .u32) x160 :: L) ∧ GM.le G217 G' ∧ σ' 132 = .bool y1) ?_ ?_
 rotate_left
 ·rintro σ253 H254 fr255 ⟨x252, G256, rfl, O257, s258, t260⟩
  have h261 := tu1_inv h225
  refine .cond (b := x252) rfl t260 (fun g262 => ?_) (fun g262 => ?_)
  rotate_left
  ·have h274 := neg_b g262 h261
   refine .exit ?_
   obtain rfl := Option.some.inj h274
   exact ⟨x212, _, rfl, O257, (GM.le.trans s219 s258), ((fr255 13 rfl).trans t221)⟩
  have h263 := pos_inv g262 h261
  refine .skip (.block (.seq (.region (W.q2 (.int .u64 x212) ((fr255 13 rfl).trans t221) (W.q3 (.int .u64 (kwrap .u64 (x212 - 1))) rfl rfl (W.q1 (.int .u64 (kwrap .u64 (x212 - 1))) rfl ?_))))))
  refine .nil (.seq (.region (W.q2 (.int .u64 x213) ((fr255 14 rfl).trans t222) (W.q2 w96 ((fr255 8 rfl).trans ((fr216 8 rfl).trans ((fr164 8 rfl).trans ((fr133 8 rfl).trans rfl)))) (W.q2 (.int .i64 (List.length x88 : Int)) ((fr255 9 rfl).trans ((fr216 9 rfl).trans ((fr164 9 rfl).trans rfl))) (W.q3 (.int .i64 (kwrap .i64 ((List.length x88 : Int) - 1))) rfl rfl ?_))))))
  obtain ⟨x264, i265, h266⟩ := bd_inv h263
  have j267 := idx_inv i265
  refine W.pure (v := (selem w96 (Int.toNat (kwrap .i64 ((List.length x88 : Int) - 1)) * 1))) rfl rfl (v_idx el46 sz64 (oo rfl rfl) (oo rfl rfl) (sl_len (RT.mono _ (GM.le.trans s167 (GM.le.trans s219 s258)) f154)) j267.1 j267.2.1) (W.load1 (v := (.int .u32 x264)) (r := []) rfl rfl ag64 (pt_px rfl (At.int (At.le (At.le (sl_idx f154 j267.2.2) (GM.le.trans s167 (GM.le.trans s219 s258)) (GM.le.trans s167 (GM.le.trans s219 s258))) (GM.le.refl _) O257.fro))) (W.pure (v := (.int .u64 (IntKind.wrap .u64 x264))) rfl rfl (v_conv in64 in95 (oo rfl rfl)) (W.q3 (.int .u64 (kwrap .u64 (x213 + (IntKind.wrap .u64 x264)))) rfl rfl (W.q1 (.int .u64 (kwrap .u64 (x213 + (IntKind.wrap .u64 x264)))) rfl (.nil (.seq ?_))))))
  refine .region (W.q2 (.int .u64 (kwrap .u64 (x213 + (IntKind.wrap .u64 x264)))) rfl (W.q3 (.bool (decide ((kwrap .u64 (x213 + (IntKind.wrap .u64 x264))) ≥ 1000000000))) rfl rfl ?_))
  obtain ⟨x268, e269, h270⟩ := lt_inv h266
  refine .nil (.cond (b := x268) rfl (congrArg (Value.bool) e269) (fun g271 => ?_) (fun g271 => ?_))
  ·have h272 := pos_inv g271 h270
   refine .exit ?_
   obtain rfl := Option.some.inj h272
   exact ⟨kwrap .u64 (x212 - 1), _, rfl, O257, (GM.le.trans s219 s258), rfl⟩
  have h273 := neg_b g271 h270
  refine .skip ?_
  exact ⟨k211, Nat.lt_succ_self _, ⟨kwrap .u64 (x212 - 1), kwrap .u64 (x213 + (IntKind.wrap .u64 x264)), _, h273, O257, (GM.le.trans s219 s258), rfl, rfl⟩⟩
 refine .draw2 (M := [0, 1, 3, 7, 7, 7, 39, 119, 247, 503, 1023, 7, 2055, 7, 7, 7, 49159, 114695, 253959, 516103, 1040391, 2095111, 4194303, 8388607]) mixed (by kernel_rfl) (by kernel_rfl) fun H226 N230 x227 F229 => ?_
 have O228 := O218.ext x227
 refine D2.q2 (.int .u64 x212) t221 (D2.q3 (.bool (decide (x212 ≥ 1000000000))) rfl rfl (D2.q2 (.bool (decide (x212 ≥ 1000000000))) rfl (D2.splitAt (t := 111) (b := decide (x212 ≥ 1000000000)) rfl (fun g231 gv232 => ?_) (fun g231 gv232 => ?_))))
 ·have h233 := pos_inv g231 h224
  refine D2.skip (gk rfl rfl gv232 rfl) rfl (D2.skip (gk rfl rfl gv232 rfl) rfl (D2.skip (gk rfl rfl gv232 rfl) rfl (D2.skip (gk rfl rfl gv232 rfl) rfl (D2.skip (gk rfl rfl gv232 rfl) rfl (D2.skip (gk rfl rfl gv232 rfl) rfl (D2.skip (gk rfl rfl gv232 rfl) rfl ?_))))))
  refine D2.skip (gk rfl rfl gv232 rfl) rfl (D2.skip (gk rfl rfl gv232 rfl) rfl (D2.skip (gk rfl rfl gv232 rfl) rfl (D2.skip (gk rfl rfl gv232 rfl) rfl (D2.skip (gk rfl rfl gv232 rfl) rfl (D2.skip (gk rfl rfl gv232 rfl) rfl (D2.skip (gk rfl rfl gv232 rfl) rfl ?_))))))
  refine D2.skip (gk rfl rfl gv232 rfl) rfl (D2.skip (gk rfl rfl gv232 rfl) rfl (D2.skip (gk rfl rfl gv232 rfl) rfl (D2.skip (gk rfl rfl gv232 rfl) rfl (D2.skip (gk rfl rfl gv232 rfl) rfl (D2.skip (gk rfl rfl gv232 rfl) rfl (D2.pure (v := (.bool true)) rfl rfl (v_pickT (oo rfl gv232) (oo rfl rfl)) ?_))))))
  refine .nil ?_
  obtain rfl := Option.some.inj h233
  exact ⟨true, _, rfl, O228, (GM.le.refl _), rfl⟩
 have h234 := neg_b g231 h224
 refine D2.q2 (hg := gk rfl rfl gv232 rfl) (.int .u64 x212) t221 (D2.q2 (hg := gk rfl rfl gv232 rfl) w96 ((fr216 8 rfl).trans ((fr164 8 rfl).trans ((fr133 8 rfl).trans rfl))) (D2.q2 (hg := gk rfl rfl gv232 rfl) (.int .i64 (List.length x88 : Int)) ((fr216 9 rfl).trans ((fr164 9 rfl).trans rfl)) (D2.q3 (hg := gk rfl rfl gv232 rfl) (.int .i64 (kwrap .i64 ((List.length x88 : Int) - 2))) rfl rfl ?_)))
 obtain ⟨x235, i236, h237⟩ := bd_inv h234
 have j238 := idx_inv i236
 refine D2.pure (v := (selem w96 (Int.toNat (kwrap .i64 ((List.length x88 : Int) - 2)) * 1))) (gk rfl rfl gv232 rfl) rfl (v_idx el46 sz64 (oo rfl rfl) (oo rfl rfl) (sl_len (RT.mono _ (GM.le.trans s167 s219) f154)) j238.1 j238.2.1) (D2.load1' (v := (.int .u32 x235)) (r := []) (gk rfl rfl gv232 rfl) rfl ag64 (pt_px rfl (At.int (At.le (At.le (sl_idx f154 j238.2.2) (GM.le.trans s167 s219) (GM.le.trans s167 s219)) (GM.le.refl _) O228.fro))) fa_nil (D2.pure (v := (.int .u64 (IntKind.wrap .u64 x235))) (gk rfl rfl gv232 rfl) rfl (v_conv in64 in95 (oo rfl rfl)) (D2.q3 (hg := gk rfl rfl gv232 rfl) (.int .u64 (kwrap .u64 (x212 * (IntKind.wrap .u64 x235)))) rfl rfl (D2.q2 (hg := gk rfl rfl gv232 rfl) (.int .u64 x213) t222 (D2.q3 (hg := gk rfl rfl gv232 rfl) (.int .u64 (kwrap .u64 (x213 * 1000000000))) rfl rfl (D2.q2 (hg := gk rfl rfl gv232 rfl) (σ131 7) ((fr216 7 rfl).trans ((fr164 7 rfl).trans rfl)) ?_))))))
 refine D2.q2 (hg := gk rfl rfl gv232 rfl) (.int .i64 x161) ((fr216 11 rfl).trans t169) (D2.q2 (hg := gk rfl rfl gv232 rfl) (.int .i64 (List.length x88 : Int)) ((fr216 9 rfl).trans ((fr164 9 rfl).trans rfl)) (D2.q3 (hg := gk rfl rfl gv232 rfl) (.int .i64 (kwrap .i64 (x161 + (List.length x88 : Int)))) rfl rfl (D2.q3 (hg := gk rfl rfl gv232 rfl) (.int .i64 (kwrap .i64 ((kwrap .i64 (x161 + (List.length x88 : Int))) - 2))) rfl rfl ?_)))
 obtain ⟨x239, e240, h241⟩ := lt_inv h237
 obtain ⟨x242, i243, h244⟩ := bd_inv h241
 have j245 := idx_inv i243
 refine D2.pure (v := (selem (σ131 7) (Int.toNat x239 * 1))) (gk rfl rfl gv232 rfl) rfl (v_idx el46 sz64 (oo rfl rfl) (oo rfl (congrArg (Value.int .i64) e240)) (O228.slLen (j := 2) rfl) j245.1 j245.2.1) (D2.load1' (v := (.int .u32 x242)) (r := []) (gk rfl rfl gv232 rfl) rfl ag64 (pt_px rfl (At.int (O228.atSl (j := 2) rfl j245.2.2))) fa_nil (D2.pure (v := (.int .u64 (IntKind.wrap .u64 x242))) (gk rfl rfl gv232 rfl) rfl (v_conv in64 in95 (oo rfl rfl)) (D2.q3 (hg := gk rfl rfl gv232 rfl) (.int .u64 (kwrap .u64 ((kwrap .u64 (x213 * 1000000000)) + (IntKind.wrap .u64 x242)))) rfl rfl ?_)))
 obtain ⟨x246, e247, h248⟩ := lt_inv h244
 refine D2.q3 (hg := gk rfl rfl gv232 rfl) (.bool (decide ((kwrap .u64 (x212 * (IntKind.wrap .u64 x235))) > x246))) rfl (congrArg (Value.int .u64) e247) ?_
 obtain ⟨x249, e250, h251⟩ := lt_inv h248
 refine D2.pure (v := (.bool x249)) rfl rfl (v_pickF (oo rfl gv232) (oo rfl (congrArg (Value.bool) e250))) (.nil ?_)
 obtain rfl := Option.some.inj h251
 exact ⟨x249, _, rfl, O228, (GM.le.refl _), rfl⟩
def g_nat_N_Gcd_l0 (K : Nat) : Nat → List Int → List Int → Option (List Int)
  | 0, _, _ => none
  | k + 1, x5, x6 => (if (decide ((List.length x6 : Int) > 0)) = true then ((g_nat_N_Div K x5 x6).bind fun x18 => g_nat_N_Gcd_l0 K k x6 x18.2) else some x5)
def g_nat_N_Gcd (K : Nat) (p0 : List Int) (p1 : List Int) : Option (List Int) := (Option.bind (g_nat_N_Gcd_l0 K K p0 p1) (tu1 fun x34 => some x34))
set_option maxHeartbeats 4000000 in
theorem g_nat_N_Gcd_ok (K : Nat) {G : GM} {H : AH} {L : List Pc} (v0 : Value) (p0 : List Int) (hp0 : (rSl (rI .u32)).rep G [v0] p0) (v1 : Value) (p1 : List Int) (hp1 : (rSl (rI .u32)).rep G [v1] p1) (O : Ow G H (L)) (r : List Int) (h : g_nat_N_Gcd K p0 p1 = some r) :
    CR Tryz.prog 66 [v0, v1] G H (L) (fun v G' _ => ∃ (w0 : Value), w0 = v ∧ (rSl (rI .u32)).rep G' [w0] r) := by
 unfold g_nat_N_Gcd at h
 refine CR.of (calls_of_AW (n := 19) (fn := Tryz.f66) (R := fun v H' => ∃ G', Ow G' H' (L) ∧ G.le G' ∧ ∃ (w0 : Value), w0 = v ∧ (rSl (rI .u32)).rep G' [w0] r) (by kernel_rfl) rfl rfl ?_)
 refine .seq (.region (W.q1 (.slice none 0 0) rfl (.nil (.seq ?_))))
 obtain ⟨q1, h2, h3⟩ := bd_inv h
 refine AW.midT (fun σ' H' => ∃ (y1 : List Int) (G' : GM), y1 = q1 ∧ Ow G' H' (L) ∧ GM.le G G' ∧ (rSl (rI .u32)).rep G' [σ' 0] y1) ?_ ?_
 rotate_left
 ·rintro σ35 H36 fr37 ⟨x34, G38, rfl, O39, s40, f42⟩
  have h43 := tu1_inv h3
  refine .seq (.region (W.q2 (σ35 0) rfl (W.q1 (σ35 0) rfl (.nil (.ret ?_)))))
  obtain rfl := Option.some.inj h43
  refine ret1R (P := Tryz.prog) (fn := Tryz.f66) (n := 19) (R := fun v H' => ∃ G', Ow G' H' (L) ∧ G.le G' ∧ ∃ (w0 : Value), w0 = v ∧ (rSl (rI .u32)).rep G' [w0] x34) (v1 := (σ35 0)) (by rfl) (rr_tmp (by rfl) (by exact rfl)) ?_
  exact ⟨_, O39, s40, (σ35 0), rfl, f42⟩
 refine .block (AW.loop (α := Nat) (fun k' σ' H' => ∃ (y1 : List Int) (y2 : List Int) (G' : GM), g_nat_N_Gcd_l0 K k' y1 y2 = some q1 ∧ Ow G' H' (L) ∧ GM.le G G' ∧ (rSl (rI .u32)).rep G' [σ' 0] y1 ∧ (rSl (rI .u32)).rep G' [σ' 1] y2) (fun k' => k') K ⟨p0, p1, _, h2, O, (GM.le.refl _), hp0, hp1⟩ ?_)
 rintro k4
 rintro σ7 H8 fr9 ⟨x5, x6, G10, h13, O11, s12, f14, f15⟩
 rcases k4 with _ | k4
 ·exact none_absurd h13
 rw [g_nat_N_Gcd_l0] at h13
 refine .seq (.seq (.region (W.q2 (σ7 1) rfl (W.pure (v := (.int .i64 (List.length x6 : Int))) rfl rfl (len_sl (oo rfl rfl) (sl_len f15) (elemT_inv el46)) (W.q3 (.bool (decide ((List.length x6 : Int) > 0))) rfl rfl (.nil ?_))))))
 refine .cond (b := decide ((List.length x6 : Int) > 0)) rfl rfl (fun g16 => ?_) (fun g16 => ?_)
 rotate_left
 ·have h33 := neg_b g16 h13
  refine .exit ?_
  obtain rfl := Option.some.inj h33
  exact ⟨x5, _, rfl, O11, s12, f14⟩
 have h17 := pos_inv g16 h13
 refine .skip (.block (.seq (.region (W.q2 (σ7 0) rfl (W.q2 (σ7 1) rfl ?_)))))
 obtain ⟨x18, i19, h20⟩ := bd_inv h17
 refine W.lo rfl rfl (Lo.callP (ps := []) (ps' := []) rfl (fn := Tryz.f58) (by kernel_rfl) rfl (mc rfl (mc rfl mn)) O11 (fun L' O' => g_nat_N_Div_ok K (σ7 0) x5 f14 (σ7 1) x6 f15 O' _ i19)) ?_
 rintro v31 H32 ⟨G21, O22, s23, sm30, ⟨w25, w27, rfl, f26, f28⟩⟩
 replace O22 : Ow G21 H32 (L) := O22
 refine W.q2 (.tuple #[w25, w27]) rfl (W.pure (v := w25) rfl rfl (v_extract (oo rfl rfl) rfl) (W.pure (v := w27) rfl rfl (v_extract (oo rfl rfl) rfl) (W.q1 w25 rfl (W.q1 w27 rfl (.nil (.region ?_))))))
 refine W.q2 (σ7 1) rfl (W.q2 w27 rfl (W.q1 (σ7 1) rfl (W.q1 w27 rfl (.nil ?_))))
 exact ⟨k4, Nat.lt_succ_self _, ⟨x6, x18.2, _, h20, O22, (GM.le.trans s12 s23), (RT.mono _ s23 f15), f28⟩⟩
structure Q where
  neg : Bool
  num : List Int
  den : List Int
  deriving DecidableEq, Inhabited
def T_Q : RT Q := rIso (rP rB (rP (rSl (rI .u32)) (rSl (rI .u32)))) (fun s : Q => (s.neg, s.num, s.den))
theorem z_Q (G : GM) : T_Q.rep G ([.bool false] ++ ([.slice none 0 0] ++ [.slice none 0 0])) ((Q.mk false ([] : List Int) ([] : List Int))) := ⟨_, _, rfl, zB G, ⟨_, _, rfl, zL G, (zL G)⟩⟩
theorem p_Q_neg : Proj T_Q 0 rB (fun x => x.neg) := by
  have h := (Proj.iso (rP rB (rP (rSl (rI .u32)) (rSl (rI .u32)))) (fun s : Q => (s.neg, s.num, s.den))).comp (Proj.fst _ _)
  exact h
theorem u_Q_neg : Put T_Q 0 rB (fun x y => { x with neg := y }) := by
  have h := Put.comp (Proj.iso (rP rB (rP (rSl (rI .u32)) (rSl (rI .u32)))) (fun s : Q => (s.neg, s.num, s.den))) (Put.iso (rP rB (rP (rSl (rI .u32)) (rSl (rI .u32)))) (fun s : Q => (s.neg, s.num, s.den)) (fun _ q => ⟨q.1, q.2.1, q.2.2⟩) (fun _ _ => rfl)) (Put.fst _ _)
  exact h
theorem p_Q_num : Proj T_Q 1 (rSl (rI .u32)) (fun x => x.num) := by
  have h := (Proj.iso (rP rB (rP (rSl (rI .u32)) (rSl (rI .u32)))) (fun s : Q => (s.neg, s.num, s.den))).comp ((Proj.snd _ _).comp (Proj.fst _ _))
  exact h
theorem u_Q_num : Put T_Q 1 (rSl (rI .u32)) (fun x y => { x with num := y }) := by
  have h := Put.comp (Proj.iso (rP rB (rP (rSl (rI .u32)) (rSl (rI .u32)))) (fun s : Q => (s.neg, s.num, s.den))) (Put.iso (rP rB (rP (rSl (rI .u32)) (rSl (rI .u32)))) (fun s : Q => (s.neg, s.num, s.den)) (fun _ q => ⟨q.1, q.2.1, q.2.2⟩) (fun _ _ => rfl)) (Put.comp (Proj.snd _ _) (Put.snd _ _) (Put.fst _ _))
  exact h
theorem p_Q_den : Proj T_Q 2 (rSl (rI .u32)) (fun x => x.den) := by
  have h := (Proj.iso (rP rB (rP (rSl (rI .u32)) (rSl (rI .u32)))) (fun s : Q => (s.neg, s.num, s.den))).comp ((Proj.snd _ _).comp ((Proj.snd _ _).comp (Proj.self _)))
  exact h
theorem u_Q_den : Put T_Q 2 (rSl (rI .u32)) (fun x y => { x with den := y }) := by
  have h := Put.comp (Proj.iso (rP rB (rP (rSl (rI .u32)) (rSl (rI .u32)))) (fun s : Q => (s.neg, s.num, s.den))) (Put.iso (rP rB (rP (rSl (rI .u32)) (rSl (rI .u32)))) (fun s : Q => (s.neg, s.num, s.den)) (fun _ q => ⟨q.1, q.2.1, q.2.2⟩) (fun _ _ => rfl)) (Put.comp (Proj.snd _ _) (Put.snd _ _) (Put.comp (Proj.snd _ _) (Put.snd _ _) (Put.self _)))
  exact h
theorem bd_Q_ {G : GM}   : ∃ cs : List Value, (∀ {s : List Value} {d : Tmp} {ty : TypeId} {pos : String} {af : Array Edge} {g : Option (Nat × Bool)} {ps : Array (Nat × Operand)}, opndP s ps.toList = some [] → apure Tryz.prog s ⟨some d, .build 48 ps, ty, pos, af, g⟩ = some (.agg (List.toArray cs))) ∧ T_Q.rep G cs (Q.mk false ([] : List Int) ([] : List Int)) := by
  refine ⟨_, fun {s d ty pos af g ps} hps => v_buildS pl48 ze48 zo48 hps ?_, z_Q G⟩
  rfl
theorem bd_Q_0_1_2 {G : GM} (v0 : Value) {x0 : Bool} (v1 : Value) {x1 : List Int} (v2 : Value) {x2 : List Int} (h0 : rB.rep G v0.cells.toList x0) (h1 : (rSl (rI .u32)).rep G v1.cells.toList x1) (h2 : (rSl (rI .u32)).rep G v2.cells.toList x2) : ∃ cs : List Value, (∀ {s : List Value} {d : Tmp} {ty : TypeId} {pos : String} {af : Array Edge} {g : Option (Nat × Bool)} {ps : Array (Nat × Operand)}, opndP s ps.toList = some [(0, v0), (1, v1), (2, v2)] → apure Tryz.prog s ⟨some d, .build 48 ps, ty, pos, af, g⟩ = some (.agg (List.toArray cs))) ∧ T_Q.rep G cs (Q.mk x0 x1 x2) := by
  have k0 := (u_Q_neg G _ _ _ _ (z_Q G) h0).1
  have k1 := (u_Q_num G _ _ _ _ (k0) h1).1
  have k2 := (u_Q_den G _ _ _ _ (k1) h2).1
  refine ⟨_, fun {s d ty pos af g ps} hps => v_buildS pl48 ze48 zo48 hps ?_, k2⟩
  refine (fill_cons' (off := 0) (sz := 1) (cs := _) rfl (RT.len _ h0) (Nat.le_trans (Nat.le_of_ble_eq_true (m := 3) rfl) (Nat.le_of_eq (RT.len _ (z_Q G)).symm))).trans ?_
  refine (fill_cons' (off := 1) (sz := 1) (cs := _) rfl (RT.len _ h1) (Nat.le_trans (Nat.le_of_ble_eq_true (m := 3) rfl) (Nat.le_of_eq (RT.len _ (k0)).symm))).trans ?_
  refine (fill_cons' (off := 2) (sz := 1) (cs := _) rfl (RT.len _ h2) (Nat.le_trans (Nat.le_of_ble_eq_true (m := 3) rfl) (Nat.le_of_eq (RT.len _ (k1)).symm))).trans ?_
  rfl
def g_rat_low (K : Nat) (p0 : Bool) (p1 : List Int) (p2 : List Int) : Option Q := (if ((List.length p1 : Int) == 0) = true then some (Q.mk false ([] : List Int) ([] : List Int)) else ((g_nat_N_Gcd K p1 p2).bind fun x20 => ((g_nat_Of K 1).bind fun x33 => ((g_nat_N_Cmp K x20 x33).bind fun x46 => (Option.bind ((if (decide (x46 > 0)) = true then ((g_nat_N_Div K p1 x20).bind fun x62 => ((g_nat_N_Div K p2 x20).bind fun x77 => some (x62.1, x77.1))) else some (p1, p2))) (tu2 fun x93 x94 => some (Q.mk p0 x93 x94)))))))
set_option maxHeartbeats 4000000 in
theorem g_rat_low_ok (K : Nat) {G : GM} {H : AH} {L : List Pc} (p0 : Bool) (v1 : Value) (p1 : List Int) (hp1 : (rSl (rI .u32)).rep G [v1] p1) (v2 : Value) (p2 : List Int) (hp2 : (rSl (rI .u32)).rep G [v2] p2) (O : Ow G H (L)) (r : Q) (h : g_rat_low K p0 p1 p2 = some r) :
    CR Tryz.prog 47 [(.bool p0), v1, v2] G H (L) (fun v G' _ => ∃ (w0 : List Value), v = .agg (List.toArray w0) ∧ T_Q.rep G' w0 r) := by
 unfold g_rat_low at h
 refine CR.of (calls_of_AW (n := 35) (fn := Tryz.f47) (R := fun v H' => ∃ G', Ow G' H' (L) ∧ G.le G' ∧ ∃ (w0 : List Value), v = .agg (List.toArray w0) ∧ T_Q.rep G' w0 r) (by kernel_rfl) rfl rfl ?_)
 refine .seq (.region (W.lo rfl rfl (Lo.alloc (r := T_Q) (x0 := (Q.mk false ([] : List Int) ([] : List Int))) ze48 (by kernel_rfl) z_Q O) ?_))
 rintro v4 H5 ⟨b2, rfl, O1, sm3⟩
 refine .nil (.seq (.seq (.region (W.q2 v1 rfl (W.pure (v := (.int .i64 (List.length p1 : Int))) rfl rfl (len_sl (oo rfl rfl) (sl_len hp1) (elemT_inv el46)) (W.q3 (.bool ((List.length p1 : Int) == 0)) rfl rfl ?_))))))
 refine .nil (.cond (b := ((List.length p1 : Int) == 0)) rfl rfl (fun g6 => ?_) (fun g6 => ?_))
 ·have h7 := pos_inv g6 h
  refine .seq (.region ?_)
  obtain ⟨c8, e10, f9⟩ := bd_Q_
  refine W.pure (v := .agg (List.toArray c8)) rfl rfl (e10 (opndP_oo rfl qn')) (W.lo rfl rfl (Lo.storeVar (j := 0) (s := T_Q) (y0 := (Q.mk false ([] : List Int) ([] : List Int))) (v := (.agg (List.toArray c8))) (o := 0) rfl ((Put.at (Put.self _) _ _)) rfl sz48 rfl (by omega) rfl f9 O1) ?_)
  rintro v13 H14 ⟨O11, sm12⟩
  replace O11 : Ow G H14 (eVar b2 48 T_Q (Q.mk false ([] : List Int) ([] : List Int)) :: L) := O11
  refine .nil (.ret ?_)
  obtain ⟨c15, p16, f17⟩ := (O11.atVar (j := 0) rfl)
  have O18 : Ow G H14 (L) := O11.drop 0
  obtain rfl := Option.some.inj h7
  refine ret1R (P := Tryz.prog) (fn := Tryz.f47) (n := 35) (R := fun v H' => ∃ G', Ow G' H' (L) ∧ G.le G' ∧ ∃ (w0 : List Value), v = .agg (List.toArray w0) ∧ T_Q.rep G' w0 (Q.mk false ([] : List Int) ([] : List Int))) (v1 := (.agg (List.toArray c15))) (by rfl) (rr_cellA (p := (.pointer (some ⟨b2, 0, none⟩))) (by rfl) ag48 sz48 (by exact rfl) p16 (RT.len _ f17)) ?_
  exact ⟨_, O18, (GM.le.refl _), c15, rfl, f17⟩
 have h19 := neg_b g6 h
 refine .skip (.seq (.seq (.region (W.q2 v1 rfl (W.q2 v2 rfl ?_)))))
 obtain ⟨x20, i21, h22⟩ := bd_inv h19
 refine W.lo rfl rfl (Lo.callP (ps := []) (ps' := []) rfl (fn := Tryz.f66) (by kernel_rfl) rfl (mc rfl (mc rfl mn)) O1 (fun L' O' => g_nat_N_Gcd_ok K v1 p1 hp1 v2 p2 hp2 O' _ i21)) ?_
 rintro v31 H32 ⟨G23, O24, s25, sm30, ⟨w27, rfl, f28⟩⟩
 replace O24 : Ow G23 H32 (eVar b2 48 T_Q (Q.mk false ([] : List Int) ([] : List Int)) :: L) := O24
 refine W.q1 w27 rfl (.nil (.seq (.region (W.q2 w27 rfl ?_))))
 obtain ⟨x33, i34, h35⟩ := bd_inv h22
 refine W.lo rfl rfl (Lo.callPF (ps := []) (pw := fun w => [eSl w 64 (rI .u32) x33]) rfl (fn := Tryz.f41) (by kernel_rfl) rfl (mc rfl mn) O24 (fun L' O' => g_nat_Of_ok K 1 O' _ i34)) ?_
 rintro v44 H45 ⟨w41, G36, O37, s38, sm43, rfl⟩
 replace O37 : Ow G36 H45 (eSl w41 64 (rI .u32) x33 :: eVar b2 48 T_Q (Q.mk false ([] : List Int) ([] : List Int)) :: L) := O37
 obtain ⟨x46, i47, h48⟩ := bd_inv h35
 refine W.lo rfl rfl (Lo.callB (j := 0) rfl rfl (fn := Tryz.f40) (by kernel_rfl) rfl (mc rfl (mc rfl mn)) O37 (fun G' L' hG O' hB => g_nat_N_Cmp_ok K w27 x20 (RT.mono _ hG (RT.mono _ s38 f28)) w41 x33 hB O' _ i47)) ?_
 rintro v55 H56 ⟨G49, O50, s51, sm54, rfl⟩
 replace O50 : Ow G49 H56 (eSl w41 64 (rI .u32) x33 :: eVar b2 48 T_Q (Q.mk false ([] : List Int) ([] : List Int)) :: L) := O50
 refine W.q3 (.bool (decide (x46 > 0))) rfl rfl (.nil ?_)
 obtain ⟨q57, h58, h59⟩ := bd_inv h48
 refine AW.midT (fun σ' H' => ∃ (y1 : List Int) (y2 : List Int) (G' : GM), (y1, y2) = q57 ∧ Ow G' H' (eSl w41 64 (rI .u32) x33 :: eVar b2 48 T_Q (Q.mk false ([] : List Int) ([] : List Int)) :: L) ∧ GM.le G49 G' ∧ (rSl (rI .u32)).rep G' [σ' 1] y1 ∧ (rSl (rI .u32)).rep G' [σ' 2] y2) ?_ ?_
 rotate_left
 ·rintro σ95 H96 fr97 ⟨x93, x94, G98, rfl, O99, s100, f102, f103⟩
  have h104 := tu2_inv h59
  refine .seq (.region (W.q2 (.bool p0) ((fr97 0 rfl).trans rfl) (W.q2 (σ95 1) rfl (W.q2 (σ95 2) rfl ?_))))
  obtain ⟨c105, e107, f106⟩ := bd_Q_0_1_2 ((.bool p0)) ((σ95 1)) ((σ95 2)) (rfl) ((sl_cells f102)) ((sl_cells f103))
  refine W.pure (v := .agg (List.toArray c105)) rfl rfl (e107 (opndP_oo rfl (qc' rfl (qc' rfl (qc' rfl qn'))))) (W.lo rfl rfl (Lo.storeVar (j := 1) (s := T_Q) (y0 := (Q.mk p0 x93 x94)) (v := (.agg (List.toArray c105))) (o := 0) rfl ((Put.at (Put.self _) _ _)) rfl sz48 ((fr97 6 rfl).trans rfl) (by omega) rfl f106 O99) ?_)
  rintro v110 H111 ⟨O108, sm109⟩
  replace O108 : Ow G98 H111 (eSl w41 64 (rI .u32) x33 :: eVar b2 48 T_Q (Q.mk p0 x93 x94) :: L) := O108
  refine .nil (.ret ?_)
  obtain ⟨c112, p113, f114⟩ := (O108.atVar (j := 1) rfl)
  have O115 : Ow G98 H111 (eVar b2 48 T_Q (Q.mk p0 x93 x94) :: L) := O108.drop 0
  have O116 : Ow G98 H111 (L) := O115.drop 0
  obtain rfl := Option.some.inj h104
  refine ret1R (P := Tryz.prog) (fn := Tryz.f47) (n := 35) (R := fun v H' => ∃ G', Ow G' H' (L) ∧ G.le G' ∧ ∃ (w0 : List Value), v = .agg (List.toArray w0) ∧ T_Q.rep G' w0 (Q.mk p0 x93 x94)) (v1 := (.agg (List.toArray c112))) (by rfl) (rr_cellA (p := (.pointer (some ⟨b2, 0, none⟩))) (by rfl) ag48 sz48 (by exact ((fr97 6 rfl).trans rfl)) p113 (RT.len _ f114)) ?_
  exact ⟨_, O116, (GM.le.trans s25 (GM.le.trans s38 (GM.le.trans s51 s100))), c112, rfl, f114⟩
 refine .cond (b := decide (x46 > 0)) rfl rfl (fun g60 => ?_) (fun g60 => ?_)
 rotate_left
 ·have h92 := neg_b g60 h58
  refine .skip ?_
  obtain rfl := Option.some.inj h92
  exact ⟨p1, p2, _, rfl, O50, (GM.le.refl _), (RT.mono _ (GM.le.trans s25 (GM.le.trans s38 s51)) hp1), (RT.mono _ (GM.le.trans s25 (GM.le.trans s38 s51)) hp2)⟩
 have h61 := pos_inv g60 h58
 refine .seq (.region (W.q2 v1 rfl (W.q2 w27 rfl ?_)))
 obtain ⟨x62, i63, h64⟩ := bd_inv h61
 refine W.lo rfl rfl (Lo.callP (ps := []) (ps' := []) rfl (fn := Tryz.f58) (by kernel_rfl) rfl (mc rfl (mc rfl mn)) O50 (fun L' O' => g_nat_N_Div_ok K v1 p1 (RT.mono _ (GM.le.trans s25 (GM.le.trans s38 s51)) hp1) w27 x20 (RT.mono _ (GM.le.trans s38 s51) f28) O' _ i63)) ?_
 rintro v75 H76 ⟨G65, O66, s67, sm74, ⟨w69, w71, rfl, f70, f72⟩⟩
 replace O66 : Ow G65 H76 (eSl w41 64 (rI .u32) x33 :: eVar b2 48 T_Q (Q.mk false ([] : List Int) ([] : List Int)) :: L) := O66
 refine W.q2 (.tuple #[w69, w71]) rfl (W.pure (v := w69) rfl rfl (v_extract (oo rfl rfl) rfl) (W.pure (v := w71) rfl rfl (v_extract (oo rfl rfl) rfl) (W.q1 w69 rfl (.nil (.region (W.q2 v2 rfl ?_))))))
 refine W.q2 w27 rfl ?_
 obtain ⟨x77, i78, h79⟩ := bd_inv h64
 refine W.lo rfl rfl (Lo.callP (ps := []) (ps' := []) rfl (fn := Tryz.f58) (by kernel_rfl) rfl (mc rfl (mc rfl mn)) O66 (fun L' O' => g_nat_N_Div_ok K v2 p2 (RT.mono _ (GM.le.trans s25 (GM.le.trans s38 (GM.le.trans s51 s67))) hp2) w27 x20 (RT.mono _ (GM.le.trans s38 (GM.le.trans s51 s67)) f28) O' _ i78)) ?_
 rintro v90 H91 ⟨G80, O81, s82, sm89, ⟨w84, w86, rfl, f85, f87⟩⟩
 replace O81 : Ow G80 H91 (eSl w41 64 (rI .u32) x33 :: eVar b2 48 T_Q (Q.mk false ([] : List Int) ([] : List Int)) :: L) := O81
 refine W.q2 (.tuple #[w84, w86]) rfl (W.pure (v := w84) rfl rfl (v_extract (oo rfl rfl) rfl) (W.pure (v := w86) rfl rfl (v_extract (oo rfl rfl) rfl) (W.q1 w84 rfl (.nil ?_))))
 obtain rfl := Option.some.inj h79
 exact ⟨x62.1, x77.1, _, rfl, O81, (GM.le.trans s67 s82), (RT.mono _ s82 f70), f85⟩
def g_strings_trimLeftByte_l0 (K : Nat) (p1 : Int) : Nat → ByteArray → Option (ByteArray)
  | 0, _ => none
  | k + 1, x5 => (Option.bind ((if (decide ((x5.size : Int) > 0)) = true then ((bidx x5 0).bind fun x20 => some (x20 == p1)) else some false)) (tu1 fun x24 => (if x24 = true then ((ssl x5 1 (x5.size : Int)).bind fun x36 => g_strings_trimLeftByte_l0 K p1 k x36) else some x5)))
def g_strings_trimLeftByte (K : Nat) (p0 : ByteArray) (p1 : Int) : Option ByteArray := (Option.bind (g_strings_trimLeftByte_l0 K p1 K p0) (tu1 fun x40 => some x40))
set_option maxHeartbeats 4000000 in
theorem g_strings_trimLeftByte_ok (K : Nat) {G : GM} {H : AH} {L : List Pc} (p0 : ByteArray) (p1 : Int) (O : Ow G H (L)) (r : ByteArray) (h : g_strings_trimLeftByte K p0 p1 = some r) :
    CR Tryz.prog 90 [(.string p0), (.int .u8 p1)] G H (L) (fun v G' _ => v = .string r) := by
 unfold g_strings_trimLeftByte at h
 refine CR.of (calls_of_AW (n := 17) (fn := Tryz.f90) (R := fun v H' => ∃ G', Ow G' H' (L) ∧ G.le G' ∧ v = .string r) (by kernel_rfl) rfl rfl ?_)
 refine .seq (.region (W.q1 (.string (⟨#[]⟩ : ByteArray)) rfl (.nil (.seq ?_))))
 obtain ⟨q1, h2, h3⟩ := bd_inv h
 refine AW.midT (fun σ' H' => ∃ (y1 : ByteArray) (G' : GM), y1 = q1 ∧ Ow G' H' (L) ∧ GM.le G G' ∧ σ' 0 = .string y1) ?_ ?_
 rotate_left
 ·rintro σ41 H42 fr43 ⟨x40, G44, rfl, O45, s46, t48⟩
  have h49 := tu1_inv h3
  refine .seq (.region (W.q2 (.string x40) t48 (W.q1 (.string x40) rfl (.nil (.ret ?_)))))
  obtain rfl := Option.some.inj h49
  refine ret1R (P := Tryz.prog) (fn := Tryz.f90) (n := 17) (R := fun v H' => ∃ G', Ow G' H' (L) ∧ G.le G' ∧ v = .string x40) (v1 := (.string x40)) (by rfl) (rr_tmp (by rfl) (by exact rfl)) ?_
  exact ⟨_, O45, s46, rfl⟩
 refine .block (AW.loop (α := Nat) (fun k' σ' H' => ∃ (y1 : ByteArray) (G' : GM), g_strings_trimLeftByte_l0 K p1 k' y1 = some q1 ∧ Ow G' H' (L) ∧ GM.le G G' ∧ σ' 0 = .string y1) (fun k' => k') K ⟨p0, _, h2, O, (GM.le.refl _), rfl⟩ ?_)
 rintro k4
 rintro σ6 H7 fr8 ⟨x5, G9, h12, O10, s11, t13⟩
 rcases k4 with _ | k4
 ·exact none_absurd h12
 rw [g_strings_trimLeftByte_l0] at h12
 refine .seq (.seq ?_)
 obtain ⟨q14, h15, h16⟩ := bd_inv h12
 refine AW.midT (fun σ' H' => ∃ (y1 : Bool) (G' : GM), y1 = q14 ∧ Ow G' H' (L) ∧ GM.le G9 G' ∧ σ' 13 = .bool y1) ?_ ?_
 rotate_left
 ·rintro σ25 H26 fr27 ⟨x24, G28, rfl, O29, s30, t32⟩
  have h33 := tu1_inv h16
  refine .cond (b := x24) rfl t32 (fun g34 => ?_) (fun g34 => ?_)
  rotate_left
  ·have h39 := neg_b g34 h33
   refine .exit ?_
   obtain rfl := Option.some.inj h39
   exact ⟨x5, _, rfl, O29, (GM.le.trans s11 s30), ((fr27 0 rfl).trans t13)⟩
  have h35 := pos_inv g34 h33
  refine .skip (.block (.region (W.q2 (.string x5) ((fr27 0 rfl).trans t13) ?_)))
  obtain ⟨x36, i37, h38⟩ := bd_inv h35
  refine W.pure (v := (.string x36)) rfl rfl (v_sslL un9 (oo rfl rfl) (oo rfl rfl) i37) (W.q1 (.string x36) rfl (.nil ?_))
  exact ⟨k4, Nat.lt_succ_self _, ⟨x36, _, h38, O29, (GM.le.trans s11 s30), rfl⟩⟩
 refine .region (W.q2 (.string x5) t13 (W.pure (v := (.int .i64 (x5.size : Int))) rfl rfl (len_str (oo rfl rfl) un9) (W.q3 (.bool (decide ((x5.size : Int) > 0))) rfl rfl (W.q2 (.bool (decide ((x5.size : Int) > 0))) rfl (W.splitAt (t := 8) (b := decide ((x5.size : Int) > 0)) rfl (fun g17 gv18 => ?_) (fun g17 gv18 => ?_))))))
 rotate_left
 ·have h23 := neg_b g17 h15
  refine W.q6 rfl gv18 (W.q6 rfl gv18 (W.q6 rfl gv18 (W.q6 rfl gv18 (W.q5 (.bool false) gv18 rfl (.nil ?_)))))
  obtain rfl := Option.some.inj h23
  exact ⟨false, _, rfl, O10, (GM.le.refl _), rfl⟩
 have h19 := pos_inv g17 h15
 refine W.q2 (hg := gk rfl rfl gv18 rfl) (.string x5) t13 ?_
 obtain ⟨x20, i21, h22⟩ := bd_inv h19
 refine W.pure (v := (.int .u8 x20)) (gk rfl rfl gv18 rfl) rfl (v_sidx un9 (oo rfl rfl) (oo rfl rfl) i21) (W.q2 (hg := gk rfl rfl gv18 rfl) (.int .u8 p1) ((fr8 1 rfl).trans rfl) (W.q3 (hg := gk rfl rfl gv18 rfl) (.bool (x20 == p1)) rfl rfl (W.q4 (.bool (x20 == p1)) gv18 rfl (.nil ?_))))
 obtain rfl := Option.some.inj h22
 exact ⟨(x20 == p1), _, rfl, O10, (GM.le.refl _), rfl⟩
def g_strings_TrimLeft (K : Nat) (p0 : ByteArray) (p1 : ByteArray) : Option ByteArray := (Option.bind ((if (sEq p0 (⟨#[]⟩ : ByteArray)) = true then some true else some (sEq p1 (⟨#[]⟩ : ByteArray)))) (tu1 fun x8 => (if x8 = true then some p0 else (Option.bind ((if ((p1.size : Int) == 1) = true then ((bidx p1 0).bind fun x27 => some (decide (x27 < 128))) else some false)) (tu1 fun x31 => (if x31 = true then ((bidx p1 0).bind fun x43 => ((g_strings_trimLeftByte K p0 x43).bind fun x46 => some x46)) else none))))))
set_option maxHeartbeats 4000000 in
theorem g_strings_TrimLeft_ok (K : Nat) {G : GM} {H : AH} {L : List Pc} (p0 : ByteArray) (p1 : ByteArray) (O : Ow G H (L)) (r : ByteArray) (h : g_strings_TrimLeft K p0 p1 = some r) :
    CR Tryz.prog 87 [(.string p0), (.string p1)] G H (L) (fun v G' _ => v = .string r) := by
 unfold g_strings_TrimLeft at h
 refine CR.of (calls_of_AW (n := 37) (fn := Tryz.f87) (R := fun v H' => ∃ G', Ow G' H' (L) ∧ G.le G' ∧ v = .string r) (by kernel_rfl) rfl rfl ?_)
 refine .seq (.region (W.q1 (.string (⟨#[]⟩ : ByteArray)) rfl (.nil (.seq (.seq ?_)))))
 obtain ⟨q1, h2, h3⟩ := bd_inv h
 refine AW.midT (fun σ' H' => ∃ (y1 : Bool) (G' : GM), y1 = q1 ∧ Ow G' H' (L) ∧ GM.le G G' ∧ σ' 12 = .bool y1) ?_ ?_
 ·refine .region (W.q2 (.string p0) rfl (W.pure (v := (.bool (sEq p0 (⟨#[]⟩ : ByteArray)))) rfl rfl (vs_eql (oo rfl rfl) (oo rfl rfl)) (W.q2 (.bool (sEq p0 (⟨#[]⟩ : ByteArray))) rfl (W.splitAt (t := 9) (b := sEq p0 (⟨#[]⟩ : ByteArray)) rfl (fun g4 gv5 => ?_) (fun g4 gv5 => ?_)))))
  ·have h6 := pos_inv g4 h2
   refine W.q6 rfl gv5 (W.q6 rfl gv5 (W.q4 (.bool true) gv5 rfl (.nil ?_)))
   obtain rfl := Option.some.inj h6
   exact ⟨true, _, rfl, O, (GM.le.refl _), rfl⟩
  have h7 := neg_b g4 h2
  refine W.q2 (hg := gk rfl rfl gv5 rfl) (.string p1) rfl (W.pure (v := (.bool (sEq p1 (⟨#[]⟩ : ByteArray)))) (gk rfl rfl gv5 rfl) rfl (vs_eql (oo rfl rfl) (oo rfl rfl)) (W.q5 (.bool (sEq p1 (⟨#[]⟩ : ByteArray))) gv5 rfl (.nil ?_)))
  obtain rfl := Option.some.inj h7
  exact ⟨sEq p1 (⟨#[]⟩ : ByteArray), _, rfl, O, (GM.le.refl _), rfl⟩
 rintro σ9 H10 fr11 ⟨x8, G12, rfl, O13, s14, t16⟩
 have h17 := tu1_inv h3
 refine .cond (b := x8) rfl t16 (fun g18 => ?_) (fun g18 => ?_)
 ·have h19 := pos_inv g18 h17
  refine .seq (.region (W.q2 (.string p0) ((fr11 0 rfl).trans rfl) (W.q1 (.string p0) rfl (.nil (.ret ?_)))))
  obtain rfl := Option.some.inj h19
  refine ret1R (P := Tryz.prog) (fn := Tryz.f87) (n := 37) (R := fun v H' => ∃ G', Ow G' H' (L) ∧ G.le G' ∧ v = .string p0) (v1 := (.string p0)) (by rfl) (rr_tmp (by rfl) (by exact rfl)) ?_
  exact ⟨_, O13, s14, rfl⟩
 have h20 := neg_b g18 h17
 refine .skip (.seq (.seq ?_))
 obtain ⟨q21, h22, h23⟩ := bd_inv h20
 refine AW.midT (fun σ' H' => ∃ (y1 : Bool) (G' : GM), y1 = q21 ∧ Ow G' H' (L) ∧ GM.le G12 G' ∧ σ' 21 = .bool y1) ?_ ?_
 ·refine .region (W.q2 (.string p1) ((fr11 1 rfl).trans rfl) (W.pure (v := (.int .i64 (p1.size : Int))) rfl rfl (len_str (oo rfl rfl) un9) (W.q3 (.bool ((p1.size : Int) == 1)) rfl rfl (W.q2 (.bool ((p1.size : Int) == 1)) rfl (W.splitAt (t := 17) (b := ((p1.size : Int) == 1)) rfl (fun g24 gv25 => ?_) (fun g24 gv25 => ?_))))))
  rotate_left
  ·have h30 := neg_b g24 h22
   refine W.q6 rfl gv25 (W.q6 rfl gv25 (W.q6 rfl gv25 (W.q5 (.bool false) gv25 rfl (.nil ?_))))
   obtain rfl := Option.some.inj h30
   exact ⟨false, _, rfl, O13, (GM.le.refl _), rfl⟩
  have h26 := pos_inv g24 h22
  refine W.q2 (hg := gk rfl rfl gv25 rfl) (.string p1) ((fr11 1 rfl).trans rfl) ?_
  obtain ⟨x27, i28, h29⟩ := bd_inv h26
  refine W.pure (v := (.int .u8 x27)) (gk rfl rfl gv25 rfl) rfl (v_sidx un9 (oo rfl rfl) (oo rfl rfl) i28) (W.q3 (hg := gk rfl rfl gv25 rfl) (.bool (decide (x27 < 128))) rfl rfl (W.q4 (.bool (decide (x27 < 128))) gv25 rfl (.nil ?_)))
  obtain rfl := Option.some.inj h29
  exact ⟨decide (x27 < 128), _, rfl, O13, (GM.le.refl _), rfl⟩
 rintro σ32 H33 fr34 ⟨x31, G35, rfl, O36, s37, t39⟩
 have h40 := tu1_inv h23
 refine .cond (b := x31) rfl t39 (fun g41 => ?_) (fun g41 => ?_)
 rotate_left
 ·have h57 := neg_b g41 h40
  refine .skip (.seq (.seq (.region (W.q2 (.string p1) ((fr34 1 rfl).trans ((fr11 1 rfl).trans rfl)) ?_))))
  exact gap h57
 have h42 := pos_inv g41 h40
 refine .seq (.region (W.q2 (.string p0) ((fr34 0 rfl).trans ((fr11 0 rfl).trans rfl)) (W.q2 (.string p1) ((fr34 1 rfl).trans ((fr11 1 rfl).trans rfl)) ?_)))
 obtain ⟨x43, i44, h45⟩ := bd_inv h42
 refine W.pure (v := (.int .u8 x43)) rfl rfl (v_sidx un9 (oo rfl rfl) (oo rfl rfl) i44) ?_
 obtain ⟨x46, i47, h48⟩ := bd_inv h45
 refine W.lo rfl rfl (Lo.callP (ps := []) (ps' := []) rfl (fn := Tryz.f90) (by kernel_rfl) rfl (mc rfl (mc rfl mn)) O36 (fun L' O' => g_strings_trimLeftByte_ok K p0 x43 O' _ i47)) ?_
 rintro v55 H56 ⟨G49, O50, s51, sm54, rfl⟩
 replace O50 : Ow G49 H56 (L) := O50
 refine W.q1 (.string x46) rfl (.nil (.ret ?_))
 obtain rfl := Option.some.inj h48
 refine ret1R (P := Tryz.prog) (fn := Tryz.f87) (n := 37) (R := fun v H' => ∃ G', Ow G' H' (L) ∧ G.le G' ∧ v = .string x46) (v1 := (.string x46)) (by rfl) (rr_tmp (by rfl) (by exact rfl)) ?_
 exact ⟨_, O50, (GM.le.trans s14 (GM.le.trans s37 s51)), rfl⟩
def g_nat_N_Text_l2 (K : Nat) : Nat → List Int → Int → Int → Option (List Int)
  | 0, _, _, _ => none
  | k + 1, x39, x40, x41 => (if (decide (x41 ≥ 0)) = true then (lt (IntKind.wrap .u8 (kwrap .u32 ((48 : Int) + (Int.tmod x40 10)))) fun x53 => ((idx x39 x41).bind fun x56 => g_nat_N_Text_l2 K k (List.set x39 (Int.toNat x41) x53) (kwrap .u32 (Int.tdiv x40 10)) (kwrap .i64 (x41 - 1)))) else some x39)
def g_nat_N_Text_l0 (K : Nat) (p0 : List Int) : Nat → List Int → Int → Option (List Int)
  | 0, _, _ => none
  | k + 1, x14, x15 => (if (decide (x15 ≥ 0)) = true then ((idx p0 x15).bind fun x26 => (Option.bind (g_nat_N_Text_l2 K K (List.replicate 9 0) x26 8) (tu1 fun x65 => (if List.length x14 + List.length x65 ≤ 16777216 then g_nat_N_Text_l0 K p0 k (x14 ++ x65) (kwrap .i64 (x15 - 1)) else none)))) else some x14)
def g_nat_N_Text (K : Nat) (p0 : List Int) : Option ByteArray := (if ((List.length p0 : Int) == 0) = true then some (⟨#[48]⟩ : ByteArray) else (if 0 ≤ (0 : Int) ∧ (0 : Int) ≤ (kwrap .i64 ((9 : Int) * (List.length p0 : Int))) ∧ (kwrap .i64 ((9 : Int) * (List.length p0 : Int))) ≤ 16777216 then (Option.bind (g_nat_N_Text_l0 K p0 K (List.replicate (Int.toNat 0) 0) (kwrap .i64 ((List.length p0 : Int) - 1))) (tu1 fun x88 => (if 0 < List.length x88 then ((g_strings_TrimLeft K (strOfNums x88) (⟨#[48]⟩ : ByteArray)).bind fun x102 => some x102) else none))) else none))
set_option maxHeartbeats 4000000 in
theorem g_nat_N_Text_ok (K : Nat) {G : GM} {H : AH} {L : List Pc} (v0 : Value) (p0 : List Int) (hp0 : (rSl (rI .u32)).rep G [v0] p0) (O : Ow G H (L)) (r : ByteArray) (h : g_nat_N_Text K p0 = some r) :
    CR Tryz.prog 77 [v0] G H (L) (fun v G' _ => v = .string r) := by
 unfold g_nat_N_Text at h
 refine CR.of (calls_of_AW (n := 44) (fn := Tryz.f77) (R := fun v H' => ∃ G', Ow G' H' (L) ∧ G.le G' ∧ v = .string r) (by kernel_rfl) rfl rfl ?_)
 refine .seq (.region (W.q1 (.string (⟨#[]⟩ : ByteArray)) rfl (.nil (.seq (.seq (.region ?_))))))
 refine W.q2 v0 rfl (W.pure (v := (.int .i64 (List.length p0 : Int))) rfl rfl (len_sl (oo rfl rfl) (sl_len hp0) (elemT_inv el46)) (W.q3 (.bool ((List.length p0 : Int) == 0)) rfl rfl (.nil (.cond (b := ((List.length p0 : Int) == 0)) rfl rfl (fun g1 => ?_) (fun g1 => ?_)))))
 ·have h2 := pos_inv g1 h
  refine .seq (.region (W.q1 (.string (⟨#[48]⟩ : ByteArray)) rfl (.nil (.ret ?_))))
  obtain rfl := Option.some.inj h2
  refine ret1R (P := Tryz.prog) (fn := Tryz.f77) (n := 44) (R := fun v H' => ∃ G', Ow G' H' (L) ∧ G.le G' ∧ v = .string (⟨#[48]⟩ : ByteArray)) (v1 := (.string (⟨#[48]⟩ : ByteArray))) (by rfl) (rr_tmp (by rfl) (by exact rfl)) ?_
  exact ⟨_, O, (GM.le.refl _), rfl⟩
 have h3 := neg_b g1 h
 refine .skip (.seq (.region (W.q2 v0 rfl (W.pure (v := (.int .i64 (List.length p0 : Int))) rfl rfl (len_sl (oo rfl rfl) (sl_len hp0) (elemT_inv el46)) (W.q3 (.int .i64 (kwrap .i64 ((9 : Int) * (List.length p0 : Int)))) rfl rfl ?_)))))
 obtain ⟨g5, h6⟩ := gd_inv h3
 refine W.lo rfl rfl (Lo.makeSlice (r := (rI .u8)) (x0 := 0) (a := 0) (c := (kwrap .i64 ((9 : Int) * (List.length p0 : Int)))) rfl el99 ze5 sz5 (by kernel_rfl) rfl by5 (by decide) rfl rfl g5 (zI .u8) O) ?_
 rintro v8 H9 ⟨O4, sm7⟩
 refine W.q1 v8 rfl (.nil (.seq (.seq (.region (W.q2 v0 rfl (W.pure (v := (.int .i64 (List.length p0 : Int))) rfl rfl (len_sl (oo rfl rfl) (sl_len hp0) (elemT_inv el46)) ?_))))))
 refine W.q3 (.int .i64 (kwrap .i64 ((List.length p0 : Int) - 1))) rfl rfl (W.q1 (.int .i64 (kwrap .i64 ((List.length p0 : Int) - 1))) rfl (.nil ?_))
 obtain ⟨q10, h11, h12⟩ := bd_inv h6
 refine AW.midT (fun σ' H' => ∃ (y1 : List Int) (G' : GM), y1 = q10 ∧ Ow G' H' (eSl (σ' 3) 5 (rI .u8) y1 :: L) ∧ GM.le G G') ?_ ?_
 rotate_left
 ·rintro σ89 H90 fr91 ⟨x88, G92, rfl, O93, s94⟩
  have h96 := tu1_inv h12
  refine .seq (.region (W.q2 (σ89 3) rfl ?_))
  obtain ⟨es97, e98, e99⟩ := src_own (j := 0) rfl O93
  obtain ⟨g100, h101⟩ := gd_inv h96
  refine W.bytesStr rfl rfl el99 in5 un9 e98 e99 g100 ?_
  obtain ⟨x102, i103, h104⟩ := bd_inv h101
  refine W.lo rfl rfl (Lo.callP (ps := []) (ps' := []) rfl (fn := Tryz.f87) (by kernel_rfl) rfl (mc rfl (mc rfl mn)) O93 (fun L' O' => g_strings_TrimLeft_ok K (strOfNums x88) (⟨#[48]⟩ : ByteArray) O' _ i103)) ?_
  rintro v111 H112 ⟨G105, O106, s107, sm110, rfl⟩
  replace O106 : Ow G105 H112 (eSl (σ89 3) 5 (rI .u8) x88 :: L) := O106
  refine W.q1 (.string x102) rfl (.nil (.ret ?_))
  have O113 : Ow G105 H112 (L) := O106.drop 0
  obtain rfl := Option.some.inj h104
  refine ret1R (P := Tryz.prog) (fn := Tryz.f77) (n := 44) (R := fun v H' => ∃ G', Ow G' H' (L) ∧ G.le G' ∧ v = .string x102) (v1 := (.string x102)) (by rfl) (rr_tmp (by rfl) (by exact rfl)) ?_
  exact ⟨_, O113, (GM.le.trans s94 s107), rfl⟩
 refine .block (AW.loop (α := Nat) (fun k' σ' H' => ∃ (y1 : List Int) (y2 : Int) (G' : GM), g_nat_N_Text_l0 K p0 k' y1 y2 = some q10 ∧ Ow G' H' (eSl (σ' 3) 5 (rI .u8) y1 :: L) ∧ GM.le G G' ∧ σ' 4 = .int .i64 y2) (fun k' => k') K ⟨(List.replicate (Int.toNat 0) 0), kwrap .i64 ((List.length p0 : Int) - 1), _, h11, O4, (GM.le.refl _), rfl⟩ ?_)
 rintro k13
 rintro σ16 H17 fr18 ⟨x14, x15, G19, h22, O20, s21, t23⟩
 rcases k13 with _ | k13
 ·exact none_absurd h22
 rw [g_nat_N_Text_l0] at h22
 refine .seq (.seq (.region (W.q2 (.int .i64 x15) t23 (W.q3 (.bool (decide (x15 ≥ 0))) rfl rfl (.nil (.cond (b := decide (x15 ≥ 0)) rfl rfl (fun g24 => ?_) (fun g24 => ?_)))))))
 rotate_left
 ·have h87 := neg_b g24 h22
  refine .exit ?_
  obtain rfl := Option.some.inj h87
  exact ⟨x14, _, rfl, O20, s21⟩
 have h25 := pos_inv g24 h22
 refine .skip (.seq (.block (.seq (.region (W.q2 v0 ((fr18 0 rfl).trans rfl) (W.q2 (.int .i64 x15) t23 ?_))))))
 obtain ⟨x26, i27, h28⟩ := bd_inv h25
 have j29 := idx_inv i27
 refine W.pure (v := (selem v0 (Int.toNat x15 * 1))) rfl rfl (v_idx el46 sz64 (oo rfl rfl) (oo rfl rfl) (sl_len (RT.mono _ s21 hp0)) j29.1 j29.2.1) (W.load1 (v := (.int .u32 x26)) (r := []) rfl rfl ag64 (pt_px rfl (At.int (At.le (At.le (sl_idx hp0 j29.2.2) s21 s21) (GM.le.refl _) O20.fro))) (W.q1 (.int .u32 x26) rfl (.nil (.seq (.region (W.lo rfl rfl (Lo.alloc (r := (rArr 9 (rI .u8))) (x0 := (List.replicate 9 0)) ze100 (by kernel_rfl) (fun G => ⟨by simp, List.replicate 9 [.int .u8 0], rfl, All2.replicate ((zI .u8) G) 9⟩) O20) ?_))))))
 rintro v33 H34 ⟨b31, rfl, O30, sm32⟩
 refine .nil (.seq (.seq (.region (W.q1 (.int .i64 8) rfl (.nil ?_)))))
 obtain ⟨q35, h36, h37⟩ := bd_inv h28
 refine AW.midT (fun σ' H' => ∃ (y1 : List Int) (G' : GM), y1 = q35 ∧ Ow G' H' (eVar b31 100 (rArr 9 (rI .u8)) y1 :: eSl (σ16 3) 5 (rI .u8) x14 :: L) ∧ GM.le G19 G') ?_ ?_
 rotate_left
 ·rintro σ66 H67 fr68 ⟨x65, G69, rfl, O70, s71⟩
  have h73 := tu1_inv h37
  refine .region (W.q2 (σ16 3) ((fr68 3 rfl).trans rfl) ?_)
  obtain ⟨G74, O75, s76, f77⟩ := O70.frzVar (j := 0) rfl
  replace O75 : Ow G74 H67 (eSl (σ16 3) 5 (rI .u8) x14 :: L) := O75
  refine W.pure (v := (.slice (some ⟨b31, 0, some 0⟩) 9 9)) rfl rfl (v_slArr ar100 sz5 (oo rfl ((fr68 6 rfl).trans rfl))) ?_
  obtain ⟨es79, e80, e81⟩ := src_frz (slArr f77) O75
  obtain ⟨g82, h83⟩ := gd_inv h73
  refine W.lo rfl rfl (Lo.append (j := 0) (v := (σ16 3)) rfl rfl el99 ni99 ze5 sz5 by5 (by decide) (by decide) rfl e80 e81 g82 O75) ?_
  rintro v85 H86 ⟨O78, sm84⟩
  replace O78 : Ow G74 H86 (eSl v85 5 (rI .u8) (x14 ++ x65) :: L) := O78
  refine W.q1 v85 rfl (.nil (.region (W.q2 (.int .i64 x15) ((fr68 4 rfl).trans t23) (W.q3 (.int .i64 (kwrap .i64 (x15 - 1))) rfl rfl (W.q1 (.int .i64 (kwrap .i64 (x15 - 1))) rfl (.nil ?_))))))
  exact ⟨k13, Nat.lt_succ_self _, ⟨(x14 ++ x65), kwrap .i64 (x15 - 1), _, h83, O78, (GM.le.trans s21 (GM.le.trans s71 s76)), rfl⟩⟩
 refine .block (AW.loop (α := Nat) (fun k' σ' H' => ∃ (y1 : List Int) (y2 : Int) (y3 : Int) (G' : GM), g_nat_N_Text_l2 K k' y1 y2 y3 = some q35 ∧ Ow G' H' (eVar b31 100 (rArr 9 (rI .u8)) y1 :: eSl (σ16 3) 5 (rI .u8) x14 :: L) ∧ GM.le G19 G' ∧ σ' 5 = .int .u32 y2 ∧ σ' 7 = .int .i64 y3) (fun k' => k') K ⟨(List.replicate 9 0), x26, 8, _, h36, O30, (GM.le.refl _), rfl, rfl⟩ ?_)
 rintro k38
 rintro σ42 H43 fr44 ⟨x39, x40, x41, G45, h48, O46, s47, t49, t50⟩
 rcases k38 with _ | k38
 ·exact none_absurd h48
 rw [g_nat_N_Text_l2] at h48
 refine .seq (.seq (.region (W.q2 (.int .i64 x41) t50 (W.q3 (.bool (decide (x41 ≥ 0))) rfl rfl (.nil (.cond (b := decide (x41 ≥ 0)) rfl rfl (fun g51 => ?_) (fun g51 => ?_)))))))
 rotate_left
 ·have h64 := neg_b g51 h48
  refine .exit ?_
  obtain rfl := Option.some.inj h64
  exact ⟨x39, _, rfl, O46, s47⟩
 have h52 := pos_inv g51 h48
 refine .skip (.seq (.block (.seq (.region (W.q2 (.int .i64 x41) t50 (W.q2 (.int .u32 x40) t49 ?_))))))
 refine W.pure (v := (.int .u32 (Int.tmod x40 10))) rfl rfl (v_rem (by decide) (oo rfl rfl) (oo rfl rfl)) (W.q3 (.int .u32 (kwrap .u32 ((48 : Int) + (Int.tmod x40 10)))) rfl rfl (W.pure (v := (.int .u8 (IntKind.wrap .u8 (kwrap .u32 ((48 : Int) + (Int.tmod x40 10)))))) rfl rfl (v_conv in64 in5 (oo rfl rfl)) ?_))
 obtain ⟨x53, e54, h55⟩ := lt_inv h52
 obtain ⟨x56, i57, h58⟩ := bd_inv h55
 have j59 := idx_inv i57
 refine W.pure (v := (padd (.pointer (some ⟨b31, 0, none⟩)) (Int.toNat x41 * 1))) rfl rfl (v_idxAA ar100 sz5 (oo rfl ((fr44 6 rfl).trans rfl)) (oo rfl rfl) (O46.atVar (j := 0) rfl) j59.1 j59.2.1) (W.lo rfl rfl (Lo.storeVar (j := 0) (s := (rI .u8)) (y0 := x53) (v := (.int .u8 x53)) (o := Int.toNat x41 * 1) rfl ((PutAt.idx (List.getElem?_eq_some_iff.1 j59.2.2).1)) rfl sz5 rfl (by omega) (congrArg (Value.int .u8) e54) rfl O46) ?_)
 rintro v62 H63 ⟨O60, sm61⟩
 replace O60 : Ow G45 H63 (eVar b31 100 (rArr 9 (rI .u8)) (List.set x39 (Int.toNat x41) x53) :: eSl (σ16 3) 5 (rI .u8) x14 :: L) := O60
 refine .nil (.region (W.q2 (.int .u32 x40) t49 (W.pure (v := (.int .u32 (kwrap .u32 (Int.tdiv x40 10)))) rfl rfl (v_quo (by decide) (oo rfl rfl) (oo rfl rfl)) (W.q1 (.int .u32 (kwrap .u32 (Int.tdiv x40 10))) rfl (.nil (.region ?_))))))
 refine W.q2 (.int .i64 x41) t50 (W.q3 (.int .i64 (kwrap .i64 (x41 - 1))) rfl rfl (W.q1 (.int .i64 (kwrap .i64 (x41 - 1))) rfl (.nil ?_)))
 exact ⟨k38, Nat.lt_succ_self _, ⟨(List.set x39 (Int.toNat x41) x53), kwrap .u32 (Int.tdiv x40 10), kwrap .i64 (x41 - 1), _, h58, O60, s47, rfl, rfl⟩⟩
def g_nat_N_Digits (K : Nat) (p0 : List Int) : Option Int := ((g_nat_N_Text K p0).bind fun x1 => some (x1.size : Int))
set_option maxHeartbeats 4000000 in
theorem g_nat_N_Digits_ok (K : Nat) {G : GM} {H : AH} {L : List Pc} (v0 : Value) (p0 : List Int) (hp0 : (rSl (rI .u32)).rep G [v0] p0) (O : Ow G H (L)) (r : Int) (h : g_nat_N_Digits K p0 = some r) :
    CR Tryz.prog 82 [v0] G H (L) (fun v G' _ => v = .int .i64 r) := by
 unfold g_nat_N_Digits at h
 refine CR.of (calls_of_AW (n := 6) (fn := Tryz.f82) (R := fun v H' => ∃ G', Ow G' H' (L) ∧ G.le G' ∧ v = .int .i64 r) (by kernel_rfl) rfl rfl ?_)
 refine .seq (.region (W.q1 (.int .i64 0) rfl (.nil (.seq (.region (W.q2 v0 rfl ?_))))))
 obtain ⟨x1, i2, h3⟩ := bd_inv h
 refine W.lo rfl rfl (Lo.callP (ps := []) (ps' := []) rfl (fn := Tryz.f77) (by kernel_rfl) rfl (mc rfl mn) O (fun L' O' => g_nat_N_Text_ok K v0 p0 hp0 O' _ i2)) ?_
 rintro v10 H11 ⟨G4, O5, s6, sm9, rfl⟩
 replace O5 : Ow G4 H11 (L) := O5
 refine W.pure (v := (.int .i64 (x1.size : Int))) rfl rfl (len_str (oo rfl rfl) un9) (W.q1 (.int .i64 (x1.size : Int)) rfl (.nil (.ret ?_)))
 obtain rfl := Option.some.inj h3
 refine ret1R (P := Tryz.prog) (fn := Tryz.f82) (n := 6) (R := fun v H' => ∃ G', Ow G' H' (L) ∧ G.le G' ∧ v = .int .i64 (x1.size : Int)) (v1 := (.int .i64 (x1.size : Int))) (by rfl) (rr_tmp (by rfl) (by exact rfl)) ?_
 exact ⟨_, O5, s6, rfl⟩
def g_rat_Fits (K : Nat) (p0 : Q) : Option Int := (Option.bind (((g_nat_N_Digits K p0.num).bind fun x12 => (if (decide (x12 > 2000)) = true then some true else ((g_nat_N_Digits K p0.den).bind fun x30 => some (decide (x30 > 2000)))))) (tu1 fun x41 => (if x41 = true then some 2 else some 0)))
set_option maxHeartbeats 4000000 in
theorem g_rat_Fits_ok (K : Nat) {G : GM} {H : AH} {L : List Pc} (v0 : List Value) (p0 : Q) (hp0 : T_Q.rep G v0 p0) (O : Ow G H (L)) (r : Int) (h : g_rat_Fits K p0 = some r) :
    CR Tryz.prog 59 [.agg (List.toArray v0)] G H (L) (fun v G' _ => v = .int .i64 r) := by
 unfold g_rat_Fits at h
 refine CR.of (calls_of_AW (n := 13) (fn := Tryz.f59) (R := fun v H' => ∃ G', Ow G' H' (L) ∧ G.le G' ∧ v = .int .i64 r) (by kernel_rfl) rfl rfl ?_)
 refine .seq (.region (W.lo rfl rfl (Lo.box (r := T_Q) (x0 := p0) (v := (.agg (List.toArray v0))) rfl rfl hp0 O) ?_))
 rintro v4 H5 ⟨b2, rfl, O1, sm3⟩
 refine W.q1 (.int .i64 0) rfl (.nil (.seq (.seq ?_)))
 obtain ⟨q6, h7, h8⟩ := bd_inv h
 refine AW.midT (fun σ' H' => ∃ (y1 : Bool) (G' : GM), y1 = q6 ∧ Ow G' H' (eVar b2 48 T_Q p0 :: L) ∧ GM.le G G' ∧ σ' 12 = .bool y1) ?_ ?_
 rotate_left
 ·rintro σ42 H43 fr44 ⟨x41, G45, rfl, O46, s47, t49⟩
  have h50 := tu1_inv h8
  refine .cond (b := x41) rfl t49 (fun g51 => ?_) (fun g51 => ?_)
  ·have h52 := pos_inv g51 h50
   refine .seq (.region (W.q1 (.int .i64 2) rfl (.nil (.ret ?_))))
   have O53 : Ow G45 H43 (L) := O46.drop 0
   obtain rfl := Option.some.inj h52
   refine ret1R (P := Tryz.prog) (fn := Tryz.f59) (n := 13) (R := fun v H' => ∃ G', Ow G' H' (L) ∧ G.le G' ∧ v = .int .i64 2) (v1 := (.int .i64 2)) (by rfl) (rr_tmp (by rfl) (by exact rfl)) ?_
   exact ⟨_, O53, s47, rfl⟩
  have h54 := neg_b g51 h50
  refine .skip (.seq (.region (W.q1 (.int .i64 0) rfl (.nil (.ret ?_)))))
  have O55 : Ow G45 H43 (L) := O46.drop 0
  obtain rfl := Option.some.inj h54
  refine ret1R (P := Tryz.prog) (fn := Tryz.f59) (n := 13) (R := fun v H' => ∃ G', Ow G' H' (L) ∧ G.le G' ∧ v = .int .i64 0) (v1 := (.int .i64 0)) (by rfl) (rr_tmp (by rfl) (by exact rfl)) ?_
  exact ⟨_, O55, s47, rfl⟩
 refine .region (W.pure (v := (padd (.pointer (some ⟨b2, 0, none⟩)) 1)) rfl rfl (v_fldA fl48_1 (oo rfl rfl) (O1.atVar (j := 0) rfl)) ?_)
 obtain ⟨w9, p10, f11⟩ := At.sl (At.proj (O1.atVar (j := 0) rfl) p_Q_num)
 refine W.load1 (v := w9) (r := []) rfl rfl ag46 (pt_px rfl p10) ?_
 obtain ⟨x12, i13, h14⟩ := bd_inv h7
 refine W.lo rfl rfl (Lo.callP (ps := []) (ps' := []) rfl (fn := Tryz.f82) (by kernel_rfl) rfl (mc rfl mn) O1 (fun L' O' => g_nat_N_Digits_ok K w9 p0.num f11 O' _ i13)) ?_
 rintro v21 H22 ⟨G15, O16, s17, sm20, rfl⟩
 replace O16 : Ow G15 H22 (eVar b2 48 T_Q p0 :: L) := O16
 refine W.q3 (.bool (decide (x12 > 2000))) rfl rfl (W.q2 (.bool (decide (x12 > 2000))) rfl (W.splitAt (t := 7) (b := decide (x12 > 2000)) rfl (fun g23 gv24 => ?_) (fun g23 gv24 => ?_)))
 ·have h25 := pos_inv g23 h14
  refine W.q6 rfl gv24 (W.q6 rfl gv24 (W.q6 rfl gv24 (W.q6 rfl gv24 (W.q4 (.bool true) gv24 rfl (.nil ?_)))))
  obtain rfl := Option.some.inj h25
  exact ⟨true, _, rfl, O16, s17, rfl⟩
 have h26 := neg_b g23 h14
 refine W.pure (v := (padd (.pointer (some ⟨b2, 0, none⟩)) 2)) (gk rfl rfl gv24 rfl) rfl (v_fldA fl48_2 (oo rfl rfl) (O16.atVar (j := 0) rfl)) ?_
 obtain ⟨w27, p28, f29⟩ := At.sl (At.proj (O16.atVar (j := 0) rfl) p_Q_den)
 refine W.load1 (v := w27) (r := []) (gk rfl rfl gv24 rfl) rfl ag46 (pt_px rfl p28) ?_
 obtain ⟨x30, i31, h32⟩ := bd_inv h26
 refine W.lo (gk rfl rfl gv24 rfl) rfl (Lo.callP (ps := []) (ps' := []) rfl (fn := Tryz.f82) (by kernel_rfl) rfl (mc rfl mn) O16 (fun L' O' => g_nat_N_Digits_ok K w27 p0.den f29 O' _ i31)) ?_
 rintro v39 H40 ⟨G33, O34, s35, sm38, rfl⟩
 replace O34 : Ow G33 H40 (eVar b2 48 T_Q p0 :: L) := O34
 refine W.q3 (hg := gk rfl rfl gv24 rfl) (.bool (decide (x30 > 2000))) rfl rfl (W.q5 (.bool (decide (x30 > 2000))) gv24 rfl (.nil ?_))
 obtain rfl := Option.some.inj h32
 exact ⟨decide (x30 > 2000), _, rfl, O34, (GM.le.trans s17 s35), rfl⟩
def g_rat_Q_whole (K : Nat) (p0 : Q) : Option (List Int) := (if ((List.length p0.den : Int) == 0) = true then ((g_nat_Of K 1).bind fun x11 => some x11) else some p0.den)
set_option maxHeartbeats 4000000 in
theorem g_rat_Q_whole_ok (K : Nat) {G : GM} {H : AH} {L : List Pc} (v0 : List Value) (p0 : Q) (hp0 : T_Q.rep G v0 p0) (O : Ow G H (L)) (r : List Int) (h : g_rat_Q_whole K p0 = some r) :
    CR Tryz.prog 39 [.agg (List.toArray v0)] G H (L) (fun v G' _ => ∃ (w0 : Value), w0 = v ∧ (rSl (rI .u32)).rep G' [w0] r) := by
 unfold g_rat_Q_whole at h
 refine CR.of (calls_of_AW (n := 10) (fn := Tryz.f39) (R := fun v H' => ∃ G', Ow G' H' (L) ∧ G.le G' ∧ ∃ (w0 : Value), w0 = v ∧ (rSl (rI .u32)).rep G' [w0] r) (by kernel_rfl) rfl rfl ?_)
 refine .seq (.region (W.lo rfl rfl (Lo.box (r := T_Q) (x0 := p0) (v := (.agg (List.toArray v0))) rfl rfl hp0 O) ?_))
 rintro v4 H5 ⟨b2, rfl, O1, sm3⟩
 refine W.q1 (.slice none 0 0) rfl (.nil (.seq (.seq (.region (W.pure (v := (padd (.pointer (some ⟨b2, 0, none⟩)) 2)) rfl rfl (v_fldA fl48_2 (oo rfl rfl) (O1.atVar (j := 0) rfl)) ?_)))))
 obtain ⟨w6, p7, f8⟩ := At.sl (At.proj (O1.atVar (j := 0) rfl) p_Q_den)
 refine W.load1 (v := w6) (r := []) rfl rfl ag46 (pt_px rfl p7) (W.pure (v := (.int .i64 (List.length p0.den : Int))) rfl rfl (len_sl (oo rfl rfl) (sl_len f8) (elemT_inv el46)) (W.q3 (.bool ((List.length p0.den : Int) == 0)) rfl rfl (.nil (.cond (b := ((List.length p0.den : Int) == 0)) rfl rfl (fun g9 => ?_) (fun g9 => ?_)))))
 rotate_left
 ·have h29 := neg_b g9 h
  refine .skip (.seq (.region (W.pure (v := (padd (.pointer (some ⟨b2, 0, none⟩)) 2)) rfl rfl (v_fldA fl48_2 (oo rfl rfl) (O1.atVar (j := 0) rfl)) ?_)))
  obtain ⟨w30, p31, f32⟩ := At.sl (At.proj (O1.atVar (j := 0) rfl) p_Q_den)
  refine W.load1 (v := w30) (r := []) rfl rfl ag46 (pt_px rfl p31) (W.q1 w30 rfl (.nil (.ret ?_)))
  have O33 : Ow G H5 (L) := O1.drop 0
  obtain rfl := Option.some.inj h29
  refine ret1R (P := Tryz.prog) (fn := Tryz.f39) (n := 10) (R := fun v H' => ∃ G', Ow G' H' (L) ∧ G.le G' ∧ ∃ (w0 : Value), w0 = v ∧ (rSl (rI .u32)).rep G' [w0] p0.den) (v1 := w30) (by rfl) (rr_tmp (by rfl) (by exact rfl)) ?_
  exact ⟨_, O33, (GM.le.refl _), w30, rfl, f32⟩
 have h10 := pos_inv g9 h
 refine .seq (.region ?_)
 obtain ⟨x11, i12, h13⟩ := bd_inv h10
 refine W.lo rfl rfl (Lo.callPF (ps := []) (pw := fun w => [eSl w 64 (rI .u32) x11]) rfl (fn := Tryz.f41) (by kernel_rfl) rfl (mc rfl mn) O1 (fun L' O' => g_nat_Of_ok K 1 O' _ i12)) ?_
 rintro v22 H23 ⟨w19, G14, O15, s16, sm21, rfl⟩
 replace O15 : Ow G14 H23 (eSl w19 64 (rI .u32) x11 :: eVar b2 48 T_Q p0 :: L) := O15
 refine W.q1 w19 rfl (.nil (.ret ?_))
 obtain ⟨G24, O25, s26, f27⟩ := O15.frzSl (j := 0) rfl
 replace O25 : Ow G24 H23 (eVar b2 48 T_Q p0 :: L) := O25
 have O28 : Ow G24 H23 (L) := O25.drop 0
 obtain rfl := Option.some.inj h13
 refine ret1R (P := Tryz.prog) (fn := Tryz.f39) (n := 10) (R := fun v H' => ∃ G', Ow G' H' (L) ∧ G.le G' ∧ ∃ (w0 : Value), w0 = v ∧ (rSl (rI .u32)).rep G' [w0] x11) (v1 := w19) (by rfl) (rr_tmp (by rfl) (by exact rfl)) ?_
 exact ⟨_, O28, (GM.le.trans s16 s26), w19, rfl, f27⟩
def g_rat_Q_Out (K : Nat) (p0 : Q) : Option ByteArray := (if ((List.length p0.num : Int) == 0) = true then some (⟨#[48]⟩ : ByteArray) else ((g_nat_N_Text K p0.num).bind fun x16 => (Option.bind ((if p0.neg = true then (if ((⟨#[45]⟩ : ByteArray)).size + (x16).size ≤ 4611686018427387904 then some ((⟨#[45]⟩ : ByteArray) ++ x16) else none) else some x16)) (tu1 fun x35 => ((g_rat_Q_whole K p0).bind fun x48 => ((g_nat_N_Text K x48).bind fun x61 => (Option.bind ((if (!(sEq x61 (⟨#[49]⟩ : ByteArray))) = true then (if ((⟨#[47]⟩ : ByteArray)).size + (x61).size ≤ 4611686018427387904 then (if (x35).size + (((⟨#[47]⟩ : ByteArray) ++ x61)).size ≤ 4611686018427387904 then some (x35 ++ ((⟨#[47]⟩ : ByteArray) ++ x61)) else none) else none) else some x35)) (tu1 fun x82 => some x82))))))))
set_option maxHeartbeats 4000000 in
theorem g_rat_Q_Out_ok (K : Nat) {G : GM} {H : AH} {L : List Pc} (v0 : List Value) (p0 : Q) (hp0 : T_Q.rep G v0 p0) (O : Ow G H (L)) (r : ByteArray) (h : g_rat_Q_Out K p0 = some r) :
    CR Tryz.prog 55 [.agg (List.toArray v0)] G H (L) (fun v G' _ => v = .string r) := by
 unfold g_rat_Q_Out at h
 refine CR.of (calls_of_AW (n := 26) (fn := Tryz.f55) (R := fun v H' => ∃ G', Ow G' H' (L) ∧ G.le G' ∧ v = .string r) (by kernel_rfl) rfl rfl ?_)
 refine .seq (.region (W.lo rfl rfl (Lo.box (r := T_Q) (x0 := p0) (v := (.agg (List.toArray v0))) rfl rfl hp0 O) ?_))
 rintro v4 H5 ⟨b2, rfl, O1, sm3⟩
 refine W.q1 (.string (⟨#[]⟩ : ByteArray)) rfl (.nil (.seq (.seq (.region (W.pure (v := (padd (.pointer (some ⟨b2, 0, none⟩)) 1)) rfl rfl (v_fldA fl48_1 (oo rfl rfl) (O1.atVar (j := 0) rfl)) ?_)))))
 obtain ⟨w6, p7, f8⟩ := At.sl (At.proj (O1.atVar (j := 0) rfl) p_Q_num)
 refine W.load1 (v := w6) (r := []) rfl rfl ag46 (pt_px rfl p7) (W.pure (v := (.int .i64 (List.length p0.num : Int))) rfl rfl (len_sl (oo rfl rfl) (sl_len f8) (elemT_inv el46)) (W.q3 (.bool ((List.length p0.num : Int) == 0)) rfl rfl (.nil (.cond (b := ((List.length p0.num : Int) == 0)) rfl rfl (fun g9 => ?_) (fun g9 => ?_)))))
 ·have h10 := pos_inv g9 h
  refine .seq (.region (W.q1 (.string (⟨#[48]⟩ : ByteArray)) rfl (.nil (.ret ?_))))
  have O11 : Ow G H5 (L) := O1.drop 0
  obtain rfl := Option.some.inj h10
  refine ret1R (P := Tryz.prog) (fn := Tryz.f55) (n := 26) (R := fun v H' => ∃ G', Ow G' H' (L) ∧ G.le G' ∧ v = .string (⟨#[48]⟩ : ByteArray)) (v1 := (.string (⟨#[48]⟩ : ByteArray))) (by rfl) (rr_tmp (by rfl) (by exact rfl)) ?_
  exact ⟨_, O11, (GM.le.refl _), rfl⟩
 have h12 := neg_b g9 h
 refine .skip (.seq (.region (W.pure (v := (padd (.pointer (some ⟨b2, 0, none⟩)) 1)) rfl rfl (v_fldA fl48_1 (oo rfl rfl) (O1.atVar (j := 0) rfl)) ?_)))
 obtain ⟨w13, p14, f15⟩ := At.sl (At.proj (O1.atVar (j := 0) rfl) p_Q_num)
 refine W.load1 (v := w13) (r := []) rfl rfl ag46 (pt_px rfl p14) ?_
 obtain ⟨x16, i17, h18⟩ := bd_inv h12
 refine W.lo rfl rfl (Lo.callP (ps := []) (ps' := []) rfl (fn := Tryz.f77) (by kernel_rfl) rfl (mc rfl mn) O1 (fun L' O' => g_nat_N_Text_ok K w13 p0.num f15 O' _ i17)) ?_
 rintro v25 H26 ⟨G19, O20, s21, sm24, rfl⟩
 replace O20 : Ow G19 H26 (eVar b2 48 T_Q p0 :: L) := O20
 refine W.q1 (.string x16) rfl (.nil (.seq (.seq (.region (W.pure (v := (padd (.pointer (some ⟨b2, 0, none⟩)) 0)) rfl rfl (v_fldA fl48_0 (oo rfl rfl) (O20.atVar (j := 0) rfl)) (W.load1 (v := (.bool p0.neg)) (r := []) rfl rfl ag4 (pt_px rfl (At.bool (At.proj (O20.atVar (j := 0) rfl) p_Q_neg))) ?_))))))
 refine .nil ?_
 obtain ⟨q27, h28, h29⟩ := bd_inv h18
 refine AW.midT (fun σ' H' => ∃ (y1 : ByteArray) (G' : GM), y1 = q27 ∧ Ow G' H' (eVar b2 48 T_Q p0 :: L) ∧ GM.le G19 G' ∧ σ' 3 = .string y1) ?_ ?_
 ·refine .cond (b := p0.neg) rfl rfl (fun g30 => ?_) (fun g30 => ?_)
  rotate_left
  ·have h34 := neg_b g30 h28
   refine .skip ?_
   obtain rfl := Option.some.inj h34
   exact ⟨x16, _, rfl, O20, (GM.le.refl _), rfl⟩
  have h31 := pos_inv g30 h28
  refine .region (W.q2 (.string x16) rfl ?_)
  obtain ⟨g32, h33⟩ := gd_inv h31
  refine W.pure (v := (.string ((⟨#[45]⟩ : ByteArray) ++ x16))) rfl rfl (vs_add g32 (oo rfl rfl) (oo rfl rfl)) (W.q1 (.string ((⟨#[45]⟩ : ByteArray) ++ x16)) rfl (.nil ?_))
  obtain rfl := Option.some.inj h33
  exact ⟨((⟨#[45]⟩ : ByteArray) ++ x16), _, rfl, O20, (GM.le.refl _), rfl⟩
 rintro σ36 H37 fr38 ⟨x35, G39, rfl, O40, s41, t43⟩
 have h44 := tu1_inv h29
 refine .seq (.seq (.region ?_))
 obtain ⟨c45, p46, f47⟩ := (O40.atVar (j := 0) rfl)
 refine W.loadA (cs := c45) rfl rfl ag48 sz48 (pt_px ((fr38 1 rfl).trans rfl) p46) (RT.len _ f47) ?_
 obtain ⟨x48, i49, h50⟩ := bd_inv h44
 refine W.lo rfl rfl (Lo.callP (ps := []) (ps' := []) rfl (fn := Tryz.f39) (by kernel_rfl) rfl (mc rfl mn) O40 (fun L' O' => g_rat_Q_whole_ok K c45 p0 f47 O' _ i49)) ?_
 rintro v59 H60 ⟨G51, O52, s53, sm58, ⟨w55, rfl, f56⟩⟩
 replace O52 : Ow G51 H60 (eVar b2 48 T_Q p0 :: L) := O52
 obtain ⟨x61, i62, h63⟩ := bd_inv h50
 refine W.lo rfl rfl (Lo.callP (ps := []) (ps' := []) rfl (fn := Tryz.f77) (by kernel_rfl) rfl (mc rfl mn) O52 (fun L' O' => g_nat_N_Text_ok K w55 x48 f56 O' _ i62)) ?_
 rintro v70 H71 ⟨G64, O65, s66, sm69, rfl⟩
 replace O65 : Ow G64 H71 (eVar b2 48 T_Q p0 :: L) := O65
 refine W.q1 (.string x61) rfl (.nil (.seq (.region (W.q2 (.string x61) rfl (W.pure (v := (.bool (!(sEq x61 (⟨#[49]⟩ : ByteArray))))) rfl rfl (vs_neq (oo rfl rfl) (oo rfl rfl)) (.nil ?_))))))
 obtain ⟨q72, h73, h74⟩ := bd_inv h63
 refine AW.midT (fun σ' H' => ∃ (y1 : ByteArray) (G' : GM), y1 = q72 ∧ Ow G' H' (eVar b2 48 T_Q p0 :: L) ∧ GM.le G64 G' ∧ σ' 3 = .string y1) ?_ ?_
 rotate_left
 ·rintro σ83 H84 fr85 ⟨x82, G86, rfl, O87, s88, t90⟩
  have h91 := tu1_inv h74
  refine .seq (.region (W.q2 (.string x82) t90 (W.q1 (.string x82) rfl (.nil (.ret ?_)))))
  have O92 : Ow G86 H84 (L) := O87.drop 0
  obtain rfl := Option.some.inj h91
  refine ret1R (P := Tryz.prog) (fn := Tryz.f55) (n := 26) (R := fun v H' => ∃ G', Ow G' H' (L) ∧ G.le G' ∧ v = .string x82) (v1 := (.string x82)) (by rfl) (rr_tmp (by rfl) (by exact rfl)) ?_
  exact ⟨_, O92, (GM.le.trans s21 (GM.le.trans s41 (GM.le.trans s53 (GM.le.trans s66 s88)))), rfl⟩
 refine .cond (b := (!(sEq x61 (⟨#[49]⟩ : ByteArray)))) rfl rfl (fun g75 => ?_) (fun g75 => ?_)
 rotate_left
 ·have h81 := neg_b g75 h73
  refine .skip ?_
  obtain rfl := Option.some.inj h81
  exact ⟨x35, _, rfl, O65, (GM.le.refl _), t43⟩
 have h76 := pos_inv g75 h73
 refine .region (W.q2 (.string x35) t43 (W.q2 (.string x61) rfl ?_))
 obtain ⟨g77, h78⟩ := gd_inv h76
 refine W.pure (v := (.string ((⟨#[47]⟩ : ByteArray) ++ x61))) rfl rfl (vs_add g77 (oo rfl rfl) (oo rfl rfl)) ?_
 obtain ⟨g79, h80⟩ := gd_inv h78
 refine W.pure (v := (.string (x35 ++ ((⟨#[47]⟩ : ByteArray) ++ x61)))) rfl rfl (vs_add g79 (oo rfl rfl) (oo rfl rfl)) (W.q1 (.string (x35 ++ ((⟨#[47]⟩ : ByteArray) ++ x61))) rfl (.nil ?_))
 obtain rfl := Option.some.inj h80
 exact ⟨(x35 ++ ((⟨#[47]⟩ : ByteArray) ++ x61)), _, rfl, O65, (GM.le.refl _), rfl⟩
def g_rat_told (K : Nat) (p0 : Q) : Option (ByteArray × Int) := ((g_rat_Fits K p0).bind fun x9 => (if (x9 != 0) = true then some ((⟨#[]⟩ : ByteArray), x9) else ((g_rat_Q_Out K p0).bind fun x27 => some (x27, 0))))
set_option maxHeartbeats 4000000 in
theorem g_rat_told_ok (K : Nat) {G : GM} {H : AH} {L : List Pc} (v0 : List Value) (p0 : Q) (hp0 : T_Q.rep G v0 p0) (O : Ow G H (L)) (r : ByteArray × Int) (h : g_rat_told K p0 = some r) :
    CR Tryz.prog 46 [.agg (List.toArray v0)] G H (L) (fun v G' _ => v = .tuple #[.string r.1, .int .i64 r.2]) := by
 unfold g_rat_told at h
 refine CR.of (calls_of_AW (n := 12) (fn := Tryz.f46) (R := fun v H' => ∃ G', Ow G' H' (L) ∧ G.le G' ∧ v = .tuple #[.string r.1, .int .i64 r.2]) (by kernel_rfl) rfl rfl ?_)
 refine .seq (.region (W.lo rfl rfl (Lo.box (r := T_Q) (x0 := p0) (v := (.agg (List.toArray v0))) rfl rfl hp0 O) ?_))
 rintro v4 H5 ⟨b2, rfl, O1, sm3⟩
 refine W.q1 (.string (⟨#[]⟩ : ByteArray)) rfl (W.q1 (.int .i64 0) rfl (.nil (.seq (.seq (.region ?_)))))
 obtain ⟨c6, p7, f8⟩ := (O1.atVar (j := 0) rfl)
 refine W.loadA (cs := c6) rfl rfl ag48 sz48 (pt_px rfl p7) (RT.len _ f8) ?_
 obtain ⟨x9, i10, h11⟩ := bd_inv h
 refine W.lo rfl rfl (Lo.callP (ps := []) (ps' := []) rfl (fn := Tryz.f59) (by kernel_rfl) rfl (mc rfl mn) O1 (fun L' O' => g_rat_Fits_ok K c6 p0 f8 O' _ i10)) ?_
 rintro v18 H19 ⟨G12, O13, s14, sm17, rfl⟩
 replace O13 : Ow G12 H19 (eVar b2 48 T_Q p0 :: L) := O13
 refine W.q1 (.int .i64 x9) rfl (.nil (.seq (.region (W.q2 (.int .i64 x9) rfl (W.q3 (.bool (x9 != 0)) rfl rfl (.nil ?_))))))
 refine .cond (b := (x9 != 0)) rfl rfl (fun g20 => ?_) (fun g20 => ?_)
 ·have h21 := pos_inv g20 h11
  refine .seq (.region (W.q2 (.int .i64 x9) rfl (W.q1 (.string (⟨#[]⟩ : ByteArray)) rfl (W.q1 (.int .i64 x9) rfl (.nil (.ret ?_))))))
  have O22 : Ow G12 H19 (L) := O13.drop 0
  obtain rfl := Option.some.inj h21
  refine ret2R (P := Tryz.prog) (fn := Tryz.f46) (n := 12) (R := fun v H' => ∃ G', Ow G' H' (L) ∧ G.le G' ∧ v = .tuple #[.string ((⟨#[]⟩ : ByteArray), x9).1, .int .i64 ((⟨#[]⟩ : ByteArray), x9).2]) (v1 := (.string (⟨#[]⟩ : ByteArray))) (v2 := (.int .i64 x9)) (by rfl) (rr_tmp (by rfl) (by exact rfl)) (rr_tmp (by rfl) (by exact rfl)) ?_
  exact ⟨_, O22, s14, rfl⟩
 have h23 := neg_b g20 h11
 refine .skip (.seq (.region ?_))
 obtain ⟨c24, p25, f26⟩ := (O13.atVar (j := 0) rfl)
 refine W.loadA (cs := c24) rfl rfl ag48 sz48 (pt_px rfl p25) (RT.len _ f26) ?_
 obtain ⟨x27, i28, h29⟩ := bd_inv h23
 refine W.lo rfl rfl (Lo.callP (ps := []) (ps' := []) rfl (fn := Tryz.f55) (by kernel_rfl) rfl (mc rfl mn) O13 (fun L' O' => g_rat_Q_Out_ok K c24 p0 f26 O' _ i28)) ?_
 rintro v36 H37 ⟨G30, O31, s32, sm35, rfl⟩
 replace O31 : Ow G30 H37 (eVar b2 48 T_Q p0 :: L) := O31
 refine W.q1 (.string x27) rfl (W.q1 (.int .i64 0) rfl (.nil (.ret ?_)))
 have O38 : Ow G30 H37 (L) := O31.drop 0
 obtain rfl := Option.some.inj h29
 refine ret2R (P := Tryz.prog) (fn := Tryz.f46) (n := 12) (R := fun v H' => ∃ G', Ow G' H' (L) ∧ G.le G' ∧ v = .tuple #[.string (x27, 0).1, .int .i64 (x27, 0).2]) (v1 := (.string x27)) (v2 := (.int .i64 0)) (by rfl) (rr_tmp (by rfl) (by exact rfl)) (rr_tmp (by rfl) (by exact rfl)) ?_
 exact ⟨_, O38, (GM.le.trans s14 s32), rfl⟩
def g_rat_Of (K : Nat) (p0 : Int) (p1 : Int) : Option (ByteArray × Int) := (if (p1 == 0) = true then some ((⟨#[]⟩ : ByteArray), 10) else ((g_rat_size K p0).bind fun x4 => ((g_rat_size K p1).bind fun x17 => ((g_rat_low K (!((decide (p0 < 0)) == (decide (p1 < 0)))) x4 x17).bind fun x38 => ((g_rat_told K x38).bind fun x51 => some (x51.1, x51.2))))))
set_option maxHeartbeats 4000000 in
theorem g_rat_Of_ok (K : Nat) {G : GM} {H : AH} {L : List Pc} (p0 : Int) (p1 : Int) (O : Ow G H (L)) (r : ByteArray × Int) (h : g_rat_Of K p0 p1 = some r) :
    CR Tryz.prog 16 [(.int .i64 p0), (.int .i64 p1)] G H (L) (fun v G' _ => v = .tuple #[.string r.1, .int .i64 r.2]) := by
 unfold g_rat_Of at h
 refine CR.of (calls_of_AW (n := 21) (fn := Tryz.f16) (R := fun v H' => ∃ G', Ow G' H' (L) ∧ G.le G' ∧ v = .tuple #[.string r.1, .int .i64 r.2]) (by kernel_rfl) rfl rfl ?_)
 refine .seq (.region (W.q1 (.string (⟨#[]⟩ : ByteArray)) rfl (W.q1 (.int .i64 0) rfl (.nil (.seq (.seq ?_))))))
 refine .region (W.q2 (.int .i64 p1) rfl (W.q3 (.bool (p1 == 0)) rfl rfl (.nil (.cond (b := (p1 == 0)) rfl rfl (fun g1 => ?_) (fun g1 => ?_)))))
 ·have h2 := pos_inv g1 h
  refine .seq (.region (W.q1 (.string (⟨#[]⟩ : ByteArray)) rfl (W.q1 (.int .i64 10) rfl (.nil (.ret ?_)))))
  obtain rfl := Option.some.inj h2
  refine ret2R (P := Tryz.prog) (fn := Tryz.f16) (n := 21) (R := fun v H' => ∃ G', Ow G' H' (L) ∧ G.le G' ∧ v = .tuple #[.string ((⟨#[]⟩ : ByteArray), 10).1, .int .i64 ((⟨#[]⟩ : ByteArray), 10).2]) (v1 := (.string (⟨#[]⟩ : ByteArray))) (v2 := (.int .i64 10)) (by rfl) (rr_tmp (by rfl) (by exact rfl)) (rr_tmp (by rfl) (by exact rfl)) ?_
  exact ⟨_, O, (GM.le.refl _), rfl⟩
 have h3 := neg_b g1 h
 refine .skip (.seq (.region (W.q2 (.int .i64 p0) rfl (W.q3 (.bool (decide (p0 < 0))) rfl rfl (W.q2 (.int .i64 p1) rfl (W.q3 (.bool (decide (p1 < 0))) rfl rfl ?_))))))
 refine W.pure (v := (.bool (!((decide (p0 < 0)) == (decide (p1 < 0)))))) rfl rfl (bool_neq (oo rfl rfl) (oo rfl rfl) un4) (W.q2 (.int .i64 p0) rfl ?_)
 obtain ⟨x4, i5, h6⟩ := bd_inv h3
 refine W.lo rfl rfl (Lo.callPF (ps := []) (pw := fun w => [eSl w 64 (rI .u32) x4]) rfl (fn := Tryz.f48) (by kernel_rfl) rfl (mc rfl mn) O (fun L' O' => g_rat_size_ok K p0 O' _ i5)) ?_
 rintro v15 H16 ⟨w12, G7, O8, s9, sm14, rfl⟩
 replace O8 : Ow G7 H16 (eSl w12 64 (rI .u32) x4 :: L) := O8
 refine W.q2 (.int .i64 p1) rfl ?_
 obtain ⟨x17, i18, h19⟩ := bd_inv h6
 refine W.lo rfl rfl (Lo.callPF (ps := []) (pw := fun w => [eSl w 64 (rI .u32) x17]) rfl (fn := Tryz.f48) (by kernel_rfl) rfl (mc rfl mn) O8 (fun L' O' => g_rat_size_ok K p1 O' _ i18)) ?_
 rintro v28 H29 ⟨w25, G20, O21, s22, sm27, rfl⟩
 replace O21 : Ow G20 H29 (eSl w25 64 (rI .u32) x17 :: eSl w12 64 (rI .u32) x4 :: L) := O21
 obtain ⟨G30, O31, s32, f33⟩ := O21.frzSl (j := 1) rfl
 replace O31 : Ow G30 H29 (eSl w25 64 (rI .u32) x17 :: L) := O31
 obtain ⟨G34, O35, s36, f37⟩ := O31.frzSl (j := 0) rfl
 replace O35 : Ow G34 H29 (L) := O35
 obtain ⟨x38, i39, h40⟩ := bd_inv h19
 refine W.lo rfl rfl (Lo.callP (ps := []) (ps' := []) rfl (fn := Tryz.f47) (by kernel_rfl) rfl (mc rfl (mc rfl (mc rfl mn))) O35 (fun L' O' => g_rat_low_ok K (!((decide (p0 < 0)) == (decide (p1 < 0)))) w12 x4 (RT.mono _ s36 f33) w25 x17 f37 O' _ i39)) ?_
 rintro v49 H50 ⟨G41, O42, s43, sm48, ⟨c45, rfl, f46⟩⟩
 replace O42 : Ow G41 H50 (L) := O42
 obtain ⟨x51, i52, h53⟩ := bd_inv h40
 refine W.lo rfl rfl (Lo.callP (ps := []) (ps' := []) rfl (fn := Tryz.f46) (by kernel_rfl) rfl (mc rfl mn) O42 (fun L' O' => g_rat_told_ok K c45 x38 f46 O' _ i52)) ?_
 rintro v60 H61 ⟨G54, O55, s56, sm59, rfl⟩
 replace O55 : Ow G54 H61 (L) := O55
 refine W.pure (v := (.string x51.1)) rfl rfl (v_extract (oo rfl rfl) rfl) (W.pure (v := (.int .i64 x51.2)) rfl rfl (v_extract (oo rfl rfl) rfl) (W.q1 (.string x51.1) rfl (W.q1 (.int .i64 x51.2) rfl (.nil (.ret ?_)))))
 obtain rfl := Option.some.inj h53
 refine ret2R (P := Tryz.prog) (fn := Tryz.f16) (n := 21) (R := fun v H' => ∃ G', Ow G' H' (L) ∧ G.le G' ∧ v = .tuple #[.string (x51.1, x51.2).1, .int .i64 (x51.1, x51.2).2]) (v1 := (.string x51.1)) (v2 := (.int .i64 x51.2)) (by rfl) (rr_tmp (by rfl) (by exact rfl)) (rr_tmp (by rfl) (by exact rfl)) ?_
 exact ⟨_, O55, (GM.le.trans s9 (GM.le.trans s22 (GM.le.trans s32 (GM.le.trans s36 (GM.le.trans s43 s56))))), rfl⟩
def g_internal_stringslite_HasPrefix (K : Nat) (p0 : ByteArray) (p1 : ByteArray) : Option Bool := (Option.bind ((if (decide ((p0.size : Int) ≥ (p1.size : Int))) = true then ((ssl p0 0 (p1.size : Int)).bind fun x7 => some (sEq x7 p1)) else some false)) (tu1 fun x11 => some x11))
set_option maxHeartbeats 4000000 in
theorem g_internal_stringslite_HasPrefix_ok (K : Nat) {G : GM} {H : AH} {L : List Pc} (p0 : ByteArray) (p1 : ByteArray) (O : Ow G H (L)) (r : Bool) (h : g_internal_stringslite_HasPrefix K p0 p1 = some r) :
    CR Tryz.prog 88 [(.string p0), (.string p1)] G H (L) (fun v G' _ => v = .bool r) := by
 unfold g_internal_stringslite_HasPrefix at h
 refine CR.of (calls_of_AW (n := 18) (fn := Tryz.f88) (R := fun v H' => ∃ G', Ow G' H' (L) ∧ G.le G' ∧ v = .bool r) (by kernel_rfl) rfl rfl ?_)
 refine .seq (.region (W.q1 (.bool false) rfl (.nil (.seq ?_))))
 obtain ⟨q1, h2, h3⟩ := bd_inv h
 refine AW.midT (fun σ' H' => ∃ (y1 : Bool) (G' : GM), y1 = q1 ∧ Ow G' H' (L) ∧ GM.le G G' ∧ σ' 4 = .bool y1) ?_ ?_
 rotate_left
 ·rintro σ12 H13 fr14 ⟨x11, G15, rfl, O16, s17, t19⟩
  have h20 := tu1_inv h3
  refine .ret ?_
  obtain rfl := Option.some.inj h20
  refine ret1R (P := Tryz.prog) (fn := Tryz.f88) (n := 18) (R := fun v H' => ∃ G', Ow G' H' (L) ∧ G.le G' ∧ v = .bool x11) (v1 := (.bool x11)) (by rfl) (rr_tmp (by rfl) (by exact t19)) ?_
  exact ⟨_, O16, s17, rfl⟩
 refine .region (W.q2 (.string p0) rfl (W.pure (v := (.int .i64 (p0.size : Int))) rfl rfl (len_str (oo rfl rfl) un9) (W.q2 (.string p1) rfl (W.pure (v := (.int .i64 (p1.size : Int))) rfl rfl (len_str (oo rfl rfl) un9) (W.q3 (.bool (decide ((p0.size : Int) ≥ (p1.size : Int)))) rfl rfl (W.q2 (.bool (decide ((p0.size : Int) ≥ (p1.size : Int)))) rfl ?_))))))
 refine W.splitAt (t := 10) (b := decide ((p0.size : Int) ≥ (p1.size : Int))) rfl (fun g4 gv5 => ?_) (fun g4 gv5 => ?_)
 rotate_left
 ·have h10 := neg_b g4 h2
  refine W.q6 rfl gv5 (W.q6 rfl gv5 (W.q6 rfl gv5 (W.q6 rfl gv5 (W.q6 rfl gv5 (W.q6 rfl gv5 (W.q5 (.bool false) gv5 rfl ?_))))))
  refine W.q1 (.bool false) rfl (.nil ?_)
  obtain rfl := Option.some.inj h10
  exact ⟨false, _, rfl, O, (GM.le.refl _), rfl⟩
 have h6 := pos_inv g4 h2
 refine W.q2 (hg := gk rfl rfl gv5 rfl) (.string p0) rfl (W.q2 (hg := gk rfl rfl gv5 rfl) (.string p1) rfl (W.pure (v := (.int .i64 (p1.size : Int))) (gk rfl rfl gv5 rfl) rfl (len_str (oo rfl rfl) un9) ?_))
 obtain ⟨x7, i8, h9⟩ := bd_inv h6
 refine W.pure (v := (.string x7)) (gk rfl rfl gv5 rfl) rfl (v_sslH un9 (oo rfl rfl) (oo rfl rfl) i8) (W.q2 (hg := gk rfl rfl gv5 rfl) (.string p1) rfl (W.pure (v := (.bool (sEq x7 p1))) (gk rfl rfl gv5 rfl) rfl (vs_eql (oo rfl rfl) (oo rfl rfl)) (W.q4 (.bool (sEq x7 p1)) gv5 rfl (W.q1 (.bool (sEq x7 p1)) rfl (.nil ?_)))))
 obtain rfl := Option.some.inj h9
 exact ⟨sEq x7 p1, _, rfl, O, (GM.le.refl _), rfl⟩
def g_internal_stringslite_CutPrefix (K : Nat) (p0 : ByteArray) (p1 : ByteArray) : Option (ByteArray × Bool) := ((g_internal_stringslite_HasPrefix K p0 p1).bind fun x1 => (if (!x1) = true then some (p0, false) else ((ssl p0 (p1.size : Int) (p0.size : Int)).bind fun x15 => some (x15, true))))
set_option maxHeartbeats 4000000 in
theorem g_internal_stringslite_CutPrefix_ok (K : Nat) {G : GM} {H : AH} {L : List Pc} (p0 : ByteArray) (p1 : ByteArray) (O : Ow G H (L)) (r : ByteArray × Bool) (h : g_internal_stringslite_CutPrefix K p0 p1 = some r) :
    CR Tryz.prog 84 [(.string p0), (.string p1)] G H (L) (fun v G' _ => v = .tuple #[.string r.1, .bool r.2]) := by
 unfold g_internal_stringslite_CutPrefix at h
 refine CR.of (calls_of_AW (n := 15) (fn := Tryz.f84) (R := fun v H' => ∃ G', Ow G' H' (L) ∧ G.le G' ∧ v = .tuple #[.string r.1, .bool r.2]) (by kernel_rfl) rfl rfl ?_)
 refine .seq (.region (W.q1 (.string (⟨#[]⟩ : ByteArray)) rfl (W.q1 (.bool false) rfl (.nil (.seq (.seq ?_))))))
 refine .region (W.q2 (.string p0) rfl (W.q2 (.string p1) rfl ?_))
 obtain ⟨x1, i2, h3⟩ := bd_inv h
 refine W.lo rfl rfl (Lo.callP (ps := []) (ps' := []) rfl (fn := Tryz.f88) (by kernel_rfl) rfl (mc rfl (mc rfl mn)) O (fun L' O' => g_internal_stringslite_HasPrefix_ok K p0 p1 O' _ i2)) ?_
 rintro v10 H11 ⟨G4, O5, s6, sm9, rfl⟩
 replace O5 : Ow G4 H11 (L) := O5
 refine W.pure (v := (.bool (!x1))) rfl rfl (bool_not (a := x1) (oo rfl rfl)) (.nil (.cond (b := (!x1)) rfl rfl (fun g12 => ?_) (fun g12 => ?_)))
 ·have h13 := pos_inv g12 h3
  refine .seq (.region (W.q2 (.string p0) rfl (W.q1 (.string p0) rfl (W.q1 (.bool false) rfl (.nil (.ret ?_))))))
  obtain rfl := Option.some.inj h13
  refine ret2R (P := Tryz.prog) (fn := Tryz.f84) (n := 15) (R := fun v H' => ∃ G', Ow G' H' (L) ∧ G.le G' ∧ v = .tuple #[.string (p0, false).1, .bool (p0, false).2]) (v1 := (.string p0)) (v2 := (.bool false)) (by rfl) (rr_tmp (by rfl) (by exact rfl)) (rr_tmp (by rfl) (by exact rfl)) ?_
  exact ⟨_, O5, s6, rfl⟩
 have h14 := neg_b g12 h3
 refine .skip (.seq (.region (W.q2 (.string p0) rfl (W.q2 (.string p1) rfl (W.pure (v := (.int .i64 (p1.size : Int))) rfl rfl (len_str (oo rfl rfl) un9) ?_)))))
 obtain ⟨x15, i16, h17⟩ := bd_inv h14
 refine W.pure (v := (.string x15)) rfl rfl (v_sslL un9 (oo rfl rfl) (oo rfl rfl) i16) (W.q1 (.string x15) rfl (W.q1 (.bool true) rfl (.nil (.ret ?_))))
 obtain rfl := Option.some.inj h17
 refine ret2R (P := Tryz.prog) (fn := Tryz.f84) (n := 15) (R := fun v H' => ∃ G', Ow G' H' (L) ∧ G.le G' ∧ v = .tuple #[.string (x15, true).1, .bool (x15, true).2]) (v1 := (.string x15)) (v2 := (.bool true)) (by rfl) (rr_tmp (by rfl) (by exact rfl)) (rr_tmp (by rfl) (by exact rfl)) ?_
 exact ⟨_, O5, s6, rfl⟩
def g_strings_CutPrefix (K : Nat) (p0 : ByteArray) (p1 : ByteArray) : Option (ByteArray × Bool) := ((g_internal_stringslite_CutPrefix K p0 p1).bind fun x1 => some (x1.1, x1.2))
set_option maxHeartbeats 4000000 in
theorem g_strings_CutPrefix_ok (K : Nat) {G : GM} {H : AH} {L : List Pc} (p0 : ByteArray) (p1 : ByteArray) (O : Ow G H (L)) (r : ByteArray × Bool) (h : g_strings_CutPrefix K p0 p1 = some r) :
    CR Tryz.prog 62 [(.string p0), (.string p1)] G H (L) (fun v G' _ => v = .tuple #[.string r.1, .bool r.2]) := by
 unfold g_strings_CutPrefix at h
 refine CR.of (calls_of_AW (n := 11) (fn := Tryz.f62) (R := fun v H' => ∃ G', Ow G' H' (L) ∧ G.le G' ∧ v = .tuple #[.string r.1, .bool r.2]) (by kernel_rfl) rfl rfl ?_)
 refine .seq (.region (W.q1 (.string (⟨#[]⟩ : ByteArray)) rfl (W.q1 (.bool false) rfl (.nil (.seq (.region ?_))))))
 refine W.q2 (.string p0) rfl (W.q2 (.string p1) rfl ?_)
 obtain ⟨x1, i2, h3⟩ := bd_inv h
 refine W.lo rfl rfl (Lo.callP (ps := []) (ps' := []) rfl (fn := Tryz.f84) (by kernel_rfl) rfl (mc rfl (mc rfl mn)) O (fun L' O' => g_internal_stringslite_CutPrefix_ok K p0 p1 O' _ i2)) ?_
 rintro v10 H11 ⟨G4, O5, s6, sm9, rfl⟩
 replace O5 : Ow G4 H11 (L) := O5
 refine W.pure (v := (.string x1.1)) rfl rfl (v_extract (oo rfl rfl) rfl) (W.pure (v := (.bool x1.2)) rfl rfl (v_extract (oo rfl rfl) rfl) (W.q1 (.string x1.1) rfl (W.q1 (.bool x1.2) rfl (.nil (.ret ?_)))))
 obtain rfl := Option.some.inj h3
 refine ret2R (P := Tryz.prog) (fn := Tryz.f62) (n := 11) (R := fun v H' => ∃ G', Ow G' H' (L) ∧ G.le G' ∧ v = .tuple #[.string (x1.1, x1.2).1, .bool (x1.1, x1.2).2]) (v1 := (.string x1.1)) (v2 := (.bool x1.2)) (by rfl) (rr_tmp (by rfl) (by exact rfl)) (rr_tmp (by rfl) (by exact rfl)) ?_
 exact ⟨_, O5, s6, rfl⟩
def g_internal_stringslite_Index (K : Nat) (p0 : ByteArray) (p1 : ByteArray) : Option Int := (Option.bind ((if ((p1.size : Int) == 0) = true then some true else some (sEq p1 p0))) (tu1 fun x8 => (if x8 = true then some 0 else (if ((p1.size : Int) == 1) = true then ((bidx p1 0).bind fun x23 => ((g_internal_stringslite_IndexByte K p0 x23).bind fun x26 => some x26)) else (if (decide ((p1.size : Int) ≥ (p0.size : Int))) = true then some (-1) else none)))))
set_option maxHeartbeats 4000000 in
theorem g_internal_stringslite_Index_ok (K : Nat) {G : GM} {H : AH} {L : List Pc} (p0 : ByteArray) (p1 : ByteArray) (O : Ow G H (L)) (r : Int) (h : g_internal_stringslite_Index K p0 p1 = some r) :
    CR Tryz.prog 89 [(.string p0), (.string p1)] G H (L) (fun v G' _ => v = .int .i64 r) := by
 unfold g_internal_stringslite_Index at h
 refine CR.of (calls_of_AW (n := 143) (fn := Tryz.f89) (R := fun v H' => ∃ G', Ow G' H' (L) ∧ G.le G' ∧ v = .int .i64 r) (by kernel_rfl) rfl rfl ?_)
 refine .seq (.region (W.q1 (.int .i64 0) rfl (.nil (.seq (.region (W.q2 (.string p1) rfl ?_))))))
 refine W.pure (v := (.int .i64 (p1.size : Int))) rfl rfl (len_str (oo rfl rfl) un9) (W.q1 (.int .i64 (p1.size : Int)) rfl (.nil (.seq (.block (.seq ?_)))))
 obtain ⟨q1, h2, h3⟩ := bd_inv h
 refine AW.midT (fun σ' H' => ∃ (y1 : Bool) (G' : GM), y1 = q1 ∧ Ow G' H' (L) ∧ GM.le G G' ∧ σ' 16 = .bool y1) ?_ ?_
 ·refine .region (W.q2 (.int .i64 (p1.size : Int)) rfl (W.q3 (.bool ((p1.size : Int) == 0)) rfl rfl (W.q2 (.bool ((p1.size : Int) == 0)) rfl (W.splitAt (t := 19) (b := ((p1.size : Int) == 0)) rfl (fun g4 gv5 => ?_) (fun g4 gv5 => ?_)))))
  ·have h6 := pos_inv g4 h2
   refine W.q6 rfl gv5 (W.q6 rfl gv5 (W.q6 rfl gv5 (W.q4 (.bool true) gv5 rfl (W.q1 (.bool true) rfl (.nil ?_)))))
   obtain rfl := Option.some.inj h6
   exact ⟨true, _, rfl, O, (GM.le.refl _), rfl⟩
  have h7 := neg_b g4 h2
  refine W.q2 (hg := gk rfl rfl gv5 rfl) (.string p1) rfl (W.q2 (hg := gk rfl rfl gv5 rfl) (.string p0) rfl (W.pure (v := (.bool (sEq p1 p0))) (gk rfl rfl gv5 rfl) rfl (vs_eql (oo rfl rfl) (oo rfl rfl)) (W.q5 (.bool (sEq p1 p0)) gv5 rfl (W.q1 (.bool (sEq p1 p0)) rfl (.nil ?_)))))
  obtain rfl := Option.some.inj h7
  exact ⟨sEq p1 p0, _, rfl, O, (GM.le.refl _), rfl⟩
 rintro σ9 H10 fr11 ⟨x8, G12, rfl, O13, s14, t16⟩
 have h17 := tu1_inv h3
 refine .cond (b := x8) rfl t16 (fun g18 => ?_) (fun g18 => ?_)
 ·have h19 := pos_inv g18 h17
  refine .seq (.region (W.q1 (.int .i64 0) rfl (.nil (.ret ?_))))
  obtain rfl := Option.some.inj h19
  refine ret1R (P := Tryz.prog) (fn := Tryz.f89) (n := 143) (R := fun v H' => ∃ G', Ow G' H' (L) ∧ G.le G' ∧ v = .int .i64 0) (v1 := (.int .i64 0)) (by rfl) (rr_tmp (by rfl) (by exact rfl)) ?_
  exact ⟨_, O13, s14, rfl⟩
 have h20 := neg_b g18 h17
 refine .seq (.region (W.q2 (.int .i64 (p1.size : Int)) ((fr11 5 rfl).trans rfl) (W.q3 (.bool ((p1.size : Int) == 1)) rfl rfl (W.q1 (.bool ((p1.size : Int) == 1)) rfl (.nil (.cond (b := ((p1.size : Int) == 1)) rfl rfl (fun g21 => ?_) (fun g21 => ?_)))))))
 ·have h22 := pos_inv g21 h20
  refine .seq (.region (W.q2 (.string p0) ((fr11 0 rfl).trans rfl) (W.q2 (.string p1) ((fr11 1 rfl).trans rfl) ?_)))
  obtain ⟨x23, i24, h25⟩ := bd_inv h22
  refine W.pure (v := (.int .u8 x23)) rfl rfl (v_sidx un9 (oo rfl rfl) (oo rfl rfl) i24) ?_
  obtain ⟨x26, i27, h28⟩ := bd_inv h25
  refine W.lo rfl rfl (Lo.callP (ps := []) (ps' := []) rfl (fn := Tryz.f94) (by kernel_rfl) rfl (mc rfl (mc rfl mn)) O13 (fun L' O' => g_internal_stringslite_IndexByte_ok K p0 x23 O' _ i27)) ?_
  rintro v35 H36 ⟨G29, O30, s31, sm34, rfl⟩
  replace O30 : Ow G29 H36 (L) := O30
  refine W.q1 (.int .i64 x26) rfl (.nil (.ret ?_))
  obtain rfl := Option.some.inj h28
  refine ret1R (P := Tryz.prog) (fn := Tryz.f89) (n := 143) (R := fun v H' => ∃ G', Ow G' H' (L) ∧ G.le G' ∧ v = .int .i64 x26) (v1 := (.int .i64 x26)) (by rfl) (rr_tmp (by rfl) (by exact rfl)) ?_
  exact ⟨_, O30, (GM.le.trans s14 s31), rfl⟩
 have h37 := neg_b g21 h20
 refine .seq (.region (W.q2 (.int .i64 (p1.size : Int)) ((fr11 5 rfl).trans rfl) (W.q2 (.string p0) ((fr11 0 rfl).trans rfl) (W.pure (v := (.int .i64 (p0.size : Int))) rfl rfl (len_str (oo rfl rfl) un9) (W.q3 (.bool (decide ((p1.size : Int) ≥ (p0.size : Int)))) rfl rfl (W.q1 (.bool (decide ((p1.size : Int) ≥ (p0.size : Int)))) rfl ?_))))))
 refine .nil (.cond (b := decide ((p1.size : Int) ≥ (p0.size : Int))) rfl rfl (fun g38 => ?_) (fun g38 => ?_))
 rotate_left
 ·have h40 := neg_b g38 h37
  refine .seq (.region (W.q2 (.int .i64 (p1.size : Int)) ((fr11 5 rfl).trans rfl) ?_))
  exact gap h40
 have h39 := pos_inv g38 h37
 refine .seq (.region (W.q1 (.int .i64 (-1)) rfl (.nil (.ret ?_))))
 obtain rfl := Option.some.inj h39
 refine ret1R (P := Tryz.prog) (fn := Tryz.f89) (n := 143) (R := fun v H' => ∃ G', Ow G' H' (L) ∧ G.le G' ∧ v = .int .i64 (-1)) (v1 := (.int .i64 (-1))) (by rfl) (rr_tmp (by rfl) (by exact rfl)) ?_
 exact ⟨_, O13, s14, rfl⟩
def g_internal_stringslite_Cut (K : Nat) (p0 : ByteArray) (p1 : ByteArray) : Option (ByteArray × ByteArray × Bool) := ((g_internal_stringslite_Index K p0 p1).bind fun x1 => (if (decide (x1 ≥ 0)) = true then ((ssl p0 0 x1).bind fun x19 => ((ssl p0 (kwrap .i64 (x1 + (p1.size : Int))) (p0.size : Int)).bind fun x22 => some (x19, x22, true))) else some (p0, (⟨#[]⟩ : ByteArray), false)))
set_option maxHeartbeats 4000000 in
theorem g_internal_stringslite_Cut_ok (K : Nat) {G : GM} {H : AH} {L : List Pc} (p0 : ByteArray) (p1 : ByteArray) (O : Ow G H (L)) (r : ByteArray × ByteArray × Bool) (h : g_internal_stringslite_Cut K p0 p1 = some r) :
    CR Tryz.prog 85 [(.string p0), (.string p1)] G H (L) (fun v G' _ => v = .tuple #[.string r.1, .string r.2.1, .bool r.2.2]) := by
 unfold g_internal_stringslite_Cut at h
 refine CR.of (calls_of_AW (n := 23) (fn := Tryz.f85) (R := fun v H' => ∃ G', Ow G' H' (L) ∧ G.le G' ∧ v = .tuple #[.string r.1, .string r.2.1, .bool r.2.2]) (by kernel_rfl) rfl rfl ?_)
 refine .seq (.region (W.q1 (.string (⟨#[]⟩ : ByteArray)) rfl (W.q1 (.string (⟨#[]⟩ : ByteArray)) rfl (W.q1 (.bool false) rfl (.nil (.seq ?_))))))
 refine .seq (.region (W.q2 (.string p0) rfl (W.q2 (.string p1) rfl ?_)))
 obtain ⟨x1, i2, h3⟩ := bd_inv h
 refine W.lo rfl rfl (Lo.callP (ps := []) (ps' := []) rfl (fn := Tryz.f89) (by kernel_rfl) rfl (mc rfl (mc rfl mn)) O (fun L' O' => g_internal_stringslite_Index_ok K p0 p1 O' _ i2)) ?_
 rintro v10 H11 ⟨G4, O5, s6, sm9, rfl⟩
 replace O5 : Ow G4 H11 (L) := O5
 refine W.q1 (.int .i64 x1) rfl (.nil (.seq (.region (W.q2 (.int .i64 x1) rfl (W.q3 (.bool (decide (x1 ≥ 0))) rfl rfl (.nil ?_))))))
 refine .cond (b := decide (x1 ≥ 0)) rfl rfl (fun g12 => ?_) (fun g12 => ?_)
 rotate_left
 ·have h25 := neg_b g12 h3
  refine .skip (.seq (.region (W.q2 (.string p0) rfl (W.q1 (.string p0) rfl (W.q1 (.string (⟨#[]⟩ : ByteArray)) rfl (W.q1 (.bool false) rfl ?_))))))
  refine .nil (.ret ?_)
  obtain rfl := Option.some.inj h25
  refine ret3R (P := Tryz.prog) (fn := Tryz.f85) (n := 23) (R := fun v H' => ∃ G', Ow G' H' (L) ∧ G.le G' ∧ v = .tuple #[.string (p0, (⟨#[]⟩ : ByteArray), false).1, .string (p0, (⟨#[]⟩ : ByteArray), false).2.1, .bool (p0, (⟨#[]⟩ : ByteArray), false).2.2]) (v1 := (.string p0)) (v2 := (.string (⟨#[]⟩ : ByteArray))) (v3 := (.bool false)) (by rfl) (rr_tmp (by rfl) (by exact rfl)) (rr_tmp (by rfl) (by exact rfl)) (rr_tmp (by rfl) (by exact rfl)) ?_
  exact ⟨_, O5, s6, rfl⟩
 have h13 := pos_inv g12 h3
 refine .seq (.draw2 (M := [0, 0, 3, 0, 0, 0, 32, 112, 248, 7, 1023, 2047]) mixed (by kernel_rfl) (by kernel_rfl) fun H14 N18 x15 F17 => ?_)
 have O16 := O5.ext x15
 refine D2.q2 (.string p0) rfl (D2.q2 (.int .i64 x1) rfl ?_)
 obtain ⟨x19, i20, h21⟩ := bd_inv h13
 refine D2.pure (v := (.string x19)) rfl rfl (v_sslH un9 (oo rfl rfl) (oo rfl rfl) i20) (D2.q2 (.string p0) rfl (D2.q2 (.int .i64 x1) rfl (D2.q2 (.string p1) rfl (D2.pure (v := (.int .i64 (p1.size : Int))) rfl rfl (len_str (oo rfl rfl) un9) (D2.q3 (.int .i64 (kwrap .i64 (x1 + (p1.size : Int)))) rfl rfl ?_)))))
 obtain ⟨x22, i23, h24⟩ := bd_inv h21
 refine D2.pure (v := (.string x22)) rfl rfl (v_sslL un9 (oo rfl rfl) (oo rfl rfl) i23) (D2.q1 (.string x19) rfl (D2.q1 (.string x22) rfl (D2.q1 (.bool true) rfl (.nil (.ret ?_)))))
 obtain rfl := Option.some.inj h24
 refine ret3R (P := Tryz.prog) (fn := Tryz.f85) (n := 23) (R := fun v H' => ∃ G', Ow G' H' (L) ∧ G.le G' ∧ v = .tuple #[.string (x19, x22, true).1, .string (x19, x22, true).2.1, .bool (x19, x22, true).2.2]) (v1 := (.string x19)) (v2 := (.string x22)) (v3 := (.bool true)) (by rfl) (rr_tmp (by rfl) (by exact rfl)) (rr_tmp (by rfl) (by exact rfl)) (rr_tmp (by rfl) (by exact rfl)) ?_
 exact ⟨_, O16, s6, rfl⟩
def g_strings_Cut (K : Nat) (p0 : ByteArray) (p1 : ByteArray) : Option (ByteArray × ByteArray × Bool) := ((g_internal_stringslite_Cut K p0 p1).bind fun x1 => some (x1.1, x1.2.1, x1.2.2))
set_option maxHeartbeats 4000000 in
theorem g_strings_Cut_ok (K : Nat) {G : GM} {H : AH} {L : List Pc} (p0 : ByteArray) (p1 : ByteArray) (O : Ow G H (L)) (r : ByteArray × ByteArray × Bool) (h : g_strings_Cut K p0 p1 = some r) :
    CR Tryz.prog 63 [(.string p0), (.string p1)] G H (L) (fun v G' _ => v = .tuple #[.string r.1, .string r.2.1, .bool r.2.2]) := by
 unfold g_strings_Cut at h
 refine CR.of (calls_of_AW (n := 13) (fn := Tryz.f63) (R := fun v H' => ∃ G', Ow G' H' (L) ∧ G.le G' ∧ v = .tuple #[.string r.1, .string r.2.1, .bool r.2.2]) (by kernel_rfl) rfl rfl ?_)
 refine .seq (.region (W.q1 (.string (⟨#[]⟩ : ByteArray)) rfl (W.q1 (.string (⟨#[]⟩ : ByteArray)) rfl (W.q1 (.bool false) rfl (.nil (.seq ?_))))))
 refine .region (W.q2 (.string p0) rfl (W.q2 (.string p1) rfl ?_))
 obtain ⟨x1, i2, h3⟩ := bd_inv h
 refine W.lo rfl rfl (Lo.callP (ps := []) (ps' := []) rfl (fn := Tryz.f85) (by kernel_rfl) rfl (mc rfl (mc rfl mn)) O (fun L' O' => g_internal_stringslite_Cut_ok K p0 p1 O' _ i2)) ?_
 rintro v10 H11 ⟨G4, O5, s6, sm9, rfl⟩
 replace O5 : Ow G4 H11 (L) := O5
 refine W.pure (v := (.string x1.1)) rfl rfl (v_extract (oo rfl rfl) rfl) (W.pure (v := (.string x1.2.1)) rfl rfl (v_extract (oo rfl rfl) rfl) (W.pure (v := (.bool x1.2.2)) rfl rfl (v_extract (oo rfl rfl) rfl) (W.q1 (.string x1.1) rfl (W.q1 (.string x1.2.1) rfl (W.q1 (.bool x1.2.2) rfl (.nil ?_))))))
 refine .ret ?_
 obtain rfl := Option.some.inj h3
 refine ret3R (P := Tryz.prog) (fn := Tryz.f63) (n := 13) (R := fun v H' => ∃ G', Ow G' H' (L) ∧ G.le G' ∧ v = .tuple #[.string (x1.1, x1.2.1, x1.2.2).1, .string (x1.1, x1.2.1, x1.2.2).2.1, .bool (x1.1, x1.2.1, x1.2.2).2.2]) (v1 := (.string x1.1)) (v2 := (.string x1.2.1)) (v3 := (.bool x1.2.2)) (by rfl) (rr_tmp (by rfl) (by exact rfl)) (rr_tmp (by rfl) (by exact rfl)) (rr_tmp (by rfl) (by exact rfl)) ?_
 exact ⟨_, O5, s6, rfl⟩
end Go.Am.Tryz
