/- Rules for regions whose order is open, with blocks that are made beside; slices that are lent for a call. -/
import Derived.Test.YtlmgdnhnpkgheaaDoorG1Z7
import Derived.Test.YtlmgdnhnpkgheaaDoorProg
import Derived.BigRegion
import Derived.Shelf.Strings.Search1
import Derived.Laws.Strings
namespace Go.Am
open Go
noncomputable section
set_option linter.unusedSimpArgs false
set_option linter.unusedVariables false

def AWD2 (P : Program) (n : Nat) (ops : Array Oper) (M : List Nat) (N0 : Nat) (l : List Oper) (i : Nat) (R : ReadL) (L : LoudL) (A : AllocL) (σ : Nat → Value) (H : AH) (Q : (Nat → Value) → AH → Prop) : Prop :=
  ∃ es σ' H', DOps2 P ops M N0 l i R L A (toL n σ) H es (toL n σ') H' ∧ (∀ t, wrL l t = false → σ' t = σ t) ∧ Q σ' H'
/-- What is free for blocks that operations from i on make. -/
def Free (N0 m i : Nat) (H : AH) : Prop := ∀ k, i ≤ k → k < m → H.get (N0 + k) = none ∧ N0 + k < H.next

section
variable {P : Program} {n : Nat} {σ : Nat → Value} {H H1 : AH} {ops : Array Oper} {l : List Oper} {Q : (Nat → Value) → AH → Prop} {QX : QX} {d : Tmp} {dd : Option Tmp} {ty t yt e : TypeId} {pos : String} {af : Array Edge} {g : Option (Nat × Bool)} {v u w : Value} {x y c : Operand} {s : List Value} {cs : List Value}
  {M : List Nat} {N0 m : Nat} {R : ReadL} {L : LoudL} {A : AllocL} {i : Nat} {o : Oper} {op : Op} {Φ : Value → AH → Prop} {G : GM} {Ls : List Pc}

theorem AW.draw2 {id : Nat} (hmix : P.follows .mixedOrders = true) (hM : ancs ops.toList [] = M) (hord : orderOk ops M = true) (h : ∀ H1 N0, Ext H H1 → Free N0 ops.size 0 H1 → AWD2 P n ops M N0 ops.toList 0 [] [] [] σ H1 (QX .normal)) : AW P n (.region id ops true) σ H QX := by
  obtain ⟨es, σ', H', h1, h2, h3⟩ := h (reserve H ops.size) H.next (.reserve H _) (fun k _ hk => ⟨by rw [reserve_get, AH.get_def, if_neg (by omega)], by rw [reserve_next]; omega⟩)
  exact ⟨.normal, σ', H', .drawR2 hmix hM hord h1, h2, h3⟩
theorem AWD2.nil (h : Q σ H) : AWD2 P n ops M N0 [] i R L A σ H Q := ⟨[], σ, H, .nil, fun _ _ => rfl, h⟩
theorem D2.skip (hg : gok n ops σ g false) (hd : dok n dd = true) (hr : AWD2 P n ops M N0 l (i + 1) R L A (upo σ dd undef) H Q) : AWD2 P n ops M N0 (⟨dd, op, ty, pos, af, g⟩ :: l) i R L A σ H Q := by
  obtain ⟨es, σ', H', h1, h2, h3⟩ := hr
  exact ⟨_, σ', H', .skip (wanted_gok hg) (by rw [putd_upo hd]; exact h1), fr_upo h2, h3⟩
theorem D2.skipU {j : Nat} {want : Bool} {d' : Tmp} (h1 : (ops[j]?).bind (·.dst) = some d') (h2 : Nat.blt d' n = true) (h3 : σ d' = undef) (hd : dok n dd = true) (hr : AWD2 P n ops M N0 l (i + 1) R L A (upo σ dd undef) H Q) : AWD2 P n ops M N0 (⟨dd, op, ty, pos, af, some (j, want)⟩ :: l) i R L A σ H Q := by
  obtain ⟨es, σ', H', h4, h5, h6⟩ := hr
  exact ⟨_, σ', H', .skip (wanted_undef rfl h1 h2 h3) (by rw [putd_upo hd]; exact h4), fr_upo h5, h6⟩
theorem D2.pure (hg : gok n ops σ g true) (hd : Nat.blt d n = true) (h : apure P (toL n σ) ⟨some d, op, ty, pos, af, g⟩ = some v) (hr : AWD2 P n ops M N0 l (i + 1) R L A (up σ d v) H Q) : AWD2 P n ops M N0 (⟨some d, op, ty, pos, af, g⟩ :: l) i R L A σ H Q := by
  obtain ⟨es, σ', H', h1, h2, h3⟩ := hr
  exact ⟨_, σ', H', .pure (wanted_gok hg) h (by rw [putd_upo (d := some d) hd]; exact h1), fr_upo h2, h3⟩
theorem D2.splitAt {b : Bool} {t : Nat} (h : σ t = .bool b) (h1 : b = true → σ t = .bool true → AWD2 P n ops M N0 l i R L A σ H Q) (h2 : b = false → σ t = .bool false → AWD2 P n ops M N0 l i R L A σ H Q) : AWD2 P n ops M N0 l i R L A σ H Q := by
  cases b with
  | true => exact h1 rfl h
  | false => exact h2 rfl h
theorem D2.read {b : Nat} (hg : gok n ops σ g true) (hd : Nat.blt d n = true) (h : aread P (toL n σ) ⟨some d, op, ty, pos, af, g⟩ H.get = some v) (hb : readsOf (toL n σ) ⟨some d, op, ty, pos, af, g⟩ = some b)
    (hL : ∀ q ∈ L, (M.getD i 0).testBit q.1 = true ∨ q.2.2.get b = q.2.1.get b) (hr : AWD2 P n ops M N0 l (i + 1) ((i, b) :: R) L A (up σ d v) H Q) : AWD2 P n ops M N0 (⟨some d, op, ty, pos, af, g⟩ :: l) i R L A σ H Q := by
  obtain ⟨es, σ', H', h1, h2, h3⟩ := hr
  exact ⟨_, σ', H', .read (wanted_gok hg) h hb hL (by rw [putd_upo (d := some d) hd]; exact h1), fr_upo h2, h3⟩
theorem D2.load1' {r : List Value} (hg : gok n ops σ g true) (hd : (Nat.blt d n && ook n x) = true) (ha : isAggT P t = some false) (hp : Pt H (oval σ x) (v :: r)) (hL : ∀ q ∈ L, (M.getD i 0).testBit q.1 = true ∨ q.2.2.get (blkOf (oval σ x)) = q.2.1.get (blkOf (oval σ x)))
    (hr : AWD2 P n ops M N0 l (i + 1) ((i, blkOf (oval σ x)) :: R) L A (up σ d v) H Q) : AWD2 P n ops M N0 (⟨some d, .load t x, ty, pos, af, g⟩ :: l) i R L A σ H Q := by
  simp only [Bool.and_eq_true] at hd
  exact D2.read hg hd.1 (r_load1 ha (opnd_oval hd.2) hp) (reads_load hd.2 hp) hL hr
theorem D2.lo (hg : gok n ops σ g true) (hd : dok n dd = true) (hs : Loud P n ⟨dd, op, ty, pos, af, g⟩ σ H Φ) (hR : ∀ v H1, Φ v H1 → ∀ r ∈ R, (M.getD i 0).testBit r.1 = true ∨ H1.get r.2 = H.get r.2) (hL : ∀ q ∈ L, (M.getD i 0).testBit q.1 = true)
    (hA : ∀ v H1, Φ v H1 → ∀ r ∈ A, (M.getD i 0).testBit r.1 = true ∨ H1.get r.2 = H.get r.2) (hr : ∀ v H1, Φ v H1 → AWD2 P n ops M N0 l (i + 1) R ((i, H, H1) :: L) A (upo σ dd v) H1 Q) : AWD2 P n ops M N0 (⟨dd, op, ty, pos, af, g⟩ :: l) i R L A σ H Q := by
  obtain ⟨v, H1, h1, h2⟩ := hs
  obtain ⟨es, σ', H', k1, k2, k3⟩ := hr v H1 h2
  exact ⟨_, σ', H', .loud (wanted_gok hg) h1 (hR v H1 h2) hL (hA v H1 h2) (by rw [putd_upo hd]; exact k1), fr_upo k2, k3⟩

/-! ### Blocks that are made -/
/-- What an operation that makes a block gives: its value and the piece, by the block's number. -/
def AlOk (P : Program) (n : Nat) (o : Oper) (σ : Nat → Value) (G : GM) (val : Nat → Value) (pc : Nat → Pc) : Prop :=
  ∃ blk mk, aalloc P (toL n σ) o = some (blk, mk) ∧ ∀ b, mk.val b = val b ∧ (pc b).foot = [b] ∧ ∀ M : GM, M b = some blk → (pc b).ok G M
theorem exists_upd (H : AH) (b : Nat) (x : Option ABlk) (hb : b < H.next) : ∃ H1 : AH, (∀ c, H1.get c = Am.upd H.get b x c) ∧ H1.next = H.next := by
  refine ⟨⟨H.next, (List.range H.next).map fun j => Am.upd H.get b x (H.next - 1 - j)⟩, fun c => ?_, rfl⟩
  rw [AH.get_def]
  by_cases hc : c < H.next
  · rw [if_pos hc]
    have : H.next - 1 - c < H.next := by omega
    simp only [List.getD_eq_getElem?_getD, List.getElem?_map, List.getElem?_range this, Option.map_some, Option.getD_some]
    congr 1; omega
  · rw [if_neg hc, upd_other _ _ (by omega), AH.get_def, if_neg hc]
theorem Ow.newAt {b : Nat} {k : ABlk} (h : Ow G H Ls) (hb : H.get b = none) (hs : ∀ c, c ≠ b → H1.get c = H.get c) (p : Pc) (hf : p.foot = [b]) (hk : p.ok G H1.get) : Ow G H1 (p :: Ls) ∧ Same G Ls H H1 := by
  have hv : ∀ c, Vis G Ls c → c ≠ b := fun c hc e => by subst e; obtain ⟨k, hk⟩ := h.vis hc; rw [hb] at hk; cases hk
  have hsm : Same G Ls H H1 := fun c hc => hs c (hv c hc)
  refine ⟨⟨fun c k hc => ?_, fun i q hi => ?_, fun i j q1 q2 hij hi hj c hc => ?_, fun i q hi c hc => ?_⟩, hsm⟩
  · rw [hsm c (.inl ⟨k, hc⟩)]; exact h.fro c k hc
  · cases i with
    | zero => simp at hi; subst hi; exact hk
    | succ i => simp at hi; exact q.loc (fun c hc => hsm c (.inr ⟨i, q, hi, hc⟩)) (h.ok i q hi)
  · cases i with
    | zero =>
      simp at hi; subst hi
      rw [hf] at hc; simp at hc; subst hc
      cases j with
      | zero => exact absurd rfl hij
      | succ j => exact fun hc => hv c (.inr ⟨j, q2, by simpa using hj, hc⟩) rfl
    | succ i =>
      cases j with
      | zero => simp at hj; subst hj; rw [hf]; simp; exact hv c (.inr ⟨i, q1, by simpa using hi, hc⟩)
      | succ j => exact h.dis i j q1 q2 (by omega) (by simpa using hi) (by simpa using hj) c hc
  · cases i with
    | zero =>
      simp at hi; subst hi
      rw [hf] at hc; simp at hc; subst hc
      cases hg : G c with
      | none => rfl
      | some k => exact absurd rfl (hv c (.inl ⟨k, hg⟩))
    | succ i => exact h.apart i q (by simpa using hi) c hc
theorem D2.alloc {val : Nat → Value} {pc : Nat → Pc} (hg : gok n ops σ g true) (hd : Nat.blt d n = true) (hs : AlOk P n ⟨some d, op, ty, pos, af, g⟩ σ G val pc) (hF : Free N0 m i H) (hi : Nat.blt i m = true) (O : Ow G H Ls)
    (hr : ∀ b H1, Ow G H1 (pc b :: Ls) ∧ Same G Ls H H1 ∧ Free N0 m (i + 1) H1 → AWD2 P n ops M N0 l (i + 1) R [] ((i, b) :: A) (up σ d (val b)) H1 Q) : AWD2 P n ops M N0 (⟨some d, op, ty, pos, af, g⟩ :: l) i R [] A σ H Q := by
  obtain ⟨blk, mk, h1, h2⟩ := hs
  have hi' := blt_iff.1 hi
  obtain ⟨f1, f2⟩ := hF i (Nat.le_refl _) hi'
  obtain ⟨H1, h3, h4⟩ := exists_upd H (N0 + i) (some blk) f2
  obtain ⟨k1, k2, k3⟩ := h2 (N0 + i)
  obtain ⟨o1, o2⟩ := O.newAt (k := blk) f1 (fun c hc => by rw [h3, upd_other _ _ hc]) (pc (N0 + i)) k2 (k3 _ (by rw [h3]; exact upd_same _ _ _))
  obtain ⟨es, σ', H', q1, q2, q3⟩ := hr (N0 + i) H1 ⟨o1, o2, fun k hk hkm => by
    obtain ⟨g1, g2⟩ := hF k (by omega) hkm
    exact ⟨by rw [h3, upd_other _ _ (by omega)]; exact g1, by rw [h4]; exact g2⟩⟩
  refine ⟨_, σ', H', .alloc (wanted_gok hg) h1 f1 h3 h4 (by rw [putd_upo (d := some d) hd, k1]; exact q1), fr_upo (o := ⟨some d, op, ty, pos, af, g⟩) (v := val (N0 + i)) q2, q3⟩

variable {α : Type} {r : RT α}
theorem Free.up {i j : Nat} (h : Nat.ble i j = true) (F : Free N0 m i H) : Free N0 m j H := fun k hk hkm => F k (by have := Nat.le_of_ble_eq_true h; omega) hkm
theorem Al.alloc {z : Value} {x0 : α} (hz : (P.info? e).bind (·.zero) = some z) (hs : z.cells.all scalar = true) (hr : ∀ G, r.rep G z.cells.toList x0) : AlOk P n ⟨some d, .alloc e, ty, pos, af, g⟩ σ G (fun b => .pointer (some ⟨b, 0, none⟩)) (fun b => eVar b e r x0) := by
  obtain ⟨inf, hi, hz⟩ := Option.bind_eq_some_iff.1 hz
  exact ⟨⟨z.cells.toList, e, 1, true⟩, .ptr, by simp only [aalloc, hi, hz, Option.bind_some, hs, if_true], fun b => ⟨rfl, rfl, fun M hM => ⟨_, hM, hr _⟩⟩⟩
theorem Al.box {x0 : α} (hd : ook n x = true) (hx : oval σ x = v) (hr : r.rep G v.cells.toList x0) : AlOk P n ⟨some d, .box e x, ty, pos, af, g⟩ σ G (fun b => .pointer (some ⟨b, 0, none⟩)) (fun b => eVar b e r x0) :=
  ⟨⟨v.cells.toList, e, 1, true⟩, .ptr, by simp [aalloc, oo hd hx], fun b => ⟨rfl, rfl, fun M hM => ⟨_, hM, hr⟩⟩⟩
theorem Al.buildSlice {N : Nat} {ps : Array (Nat × Operand)} {vs : List Value} {xs : List α} {z : Value} (he : elemT P t = some e) (hz : (P.info? e).bind (·.zero) = some z) (hsz : szT P e = some r.sz) (hsc : (z.cells.all scalar && (z.cells.size != 0) && decide (N * r.sz ≤ 2 ^ 24)) = true)
    (ho : (ps.toList.all fun p => ook n p.2) = true) (hps : ps.toList.map (fun p => (p.1, oval σ p.2)) = (vs.zipIdx.map fun p => (p.2, p.1))) (hN : vs.length = N) (hr : All2 (fun v x => r.rep G v.cells.toList x) vs xs) :
    AlOk P n ⟨some d, .buildSlice t N ps, ty, pos, af, g⟩ σ G (fun b => .slice (some ⟨b, 0, some 0⟩) N N) (fun b => eSl (.slice (some ⟨b, 0, some 0⟩) N N) e r xs) := by
  obtain ⟨inf, hi, hsz⟩ := szT_inv hsz
  simp only [hi, Option.bind_some] at hz
  have hcs : All2 (r.rep G) (vs.map fun v => v.cells.toList) xs := by
    clear hps hN
    induction hr with
    | nil => exact .nil
    | cons h1 _ ih => exact .cons h1 ih
  have hvs : ∀ v ∈ vs, v.cells.size = r.sz := fun v hv => by
    have := hcs.each v.cells.toList (List.mem_map.2 ⟨v, hv, rfl⟩)
    simpa using this
  have hf : Instr.fill (fun j => some (j * r.sz, r.sz)) (zcells z.cells (N * r.sz)).toArray (vs.zipIdx.map fun p => (p.2, p.1)) = some (vs.map fun v => v.cells.toList).flatten.toArray := by
    have := fill_all (sz := r.sz) vs 0 (zcells z.cells (N * r.sz)) [] rfl (by simp) hvs (by simp [zcells_length, hN]) (by simp)
    simpa using this
  refine ⟨⟨(vs.map fun v => v.cells.toList).flatten, e, 1, true⟩, .sl N N (some 0), ?_, fun b => ⟨rfl, rfl, fun M hM => ⟨_, .inr ⟨b, some 0, N, [], 1, by simp [hN], by simpa using hM, ?_, by simp [hN], .inr rfl⟩, hcs⟩⟩⟩
  · simp only [aalloc, elemT_inv he, hi, hz, Option.bind_some, hsz, hsc, if_true, opndP_oo ho hps, hf, Option.map_some]
  · rw [List.append_nil, hcs.flatLen, ← hr.length, hN]

/-! ### Results -/
def RR (P : Program) (n : Nat) (σ : Nat → Value) (H : AH) (r : ResultVar) (v : Value) : Prop := aresult P (toL n σ) H r = some v
theorem rr_tmp {t : Tmp} (ht : Nat.blt t n = true) (hv : σ t = v) : RR P n σ H (.tmp t) v := by
  unfold RR aresult
  simp [List.getD_eq_getElem?_getD, toL_get (blt_iff.1 ht), hv]
theorem ret0R {fn : Func} {R : Value → AH → Prop} (hr : fn.results.toList = []) (h : R (.tuple #[]) H) : retQ P fn n R .ret σ H := ⟨.tuple #[], by simp [aret, hr, aresults], h⟩
theorem ret1R {fn : Func} {R : Value → AH → Prop} {r1 : ResultVar} {v1 : Value} (hr : fn.results.toList = [r1]) (h1 : RR P n σ H r1 v1) (h : R v1 H) : retQ P fn n R .ret σ H := ⟨v1, by unfold RR at h1; simp [aret, hr, aresults, h1], h⟩
theorem ret2R {fn : Func} {R : Value → AH → Prop} {r1 r2 : ResultVar} {v1 v2 : Value} (hr : fn.results.toList = [r1, r2]) (h1 : RR P n σ H r1 v1) (h2 : RR P n σ H r2 v2) (h : R (.tuple #[v1, v2]) H) : retQ P fn n R .ret σ H :=
  ⟨_, by unfold RR at h1 h2; simp [aret, hr, aresults, h1, h2], h⟩
theorem ret3R {fn : Func} {R : Value → AH → Prop} {r1 r2 r3 : ResultVar} {v1 v2 v3 : Value} (hr : fn.results.toList = [r1, r2, r3]) (h1 : RR P n σ H r1 v1) (h2 : RR P n σ H r2 v2) (h3 : RR P n σ H r3 v3) (h : R (.tuple #[v1, v2, v3]) H) : retQ P fn n R .ret σ H :=
  ⟨_, by unfold RR at h1 h2 h3; simp [aret, hr, aresults, h1, h2, h3], h⟩

/-! ### Slices that are lent -/
theorem Ow.reval {v v' : Value} {j : Nat} {xs : List α} (O : Ow G H Ls) (hj : Ls[j]? = some (eSl v e r xs)) (h : v' = v) : Ow G H (Ls.set j (eSl v' e r xs)) := by
  subst h
  exact O.put hj _ (fun b hb => .inl hb) (O.ok j _ hj) (fun b k hk _ => hk)

theorem Ow.lend {v : Value} {xs : List α} {j : Nat} (O : Ow G H Ls) (hj : Ls[j]? = some (eSl v e r xs)) : ∃ G1, G.le G1 ∧ Ow G1 H (Ls.eraseIdx j) ∧ (rSl r).rep G1 [v] xs ∧
    ∀ G2 H1, G1.le G2 → Ow G2 H1 ((Ls.eraseIdx j).map fun p => p.pin H.get) → ∃ G3, Ow G3 H1 Ls ∧ G.le G3 ∧ Same G Ls H H1 := by
  classical
  obtain ⟨G1, h1, h2, h3⟩ := O.freeze hj
  obtain ⟨G1', h1', h2', h3'⟩ := O.frzSl hj
  have hrep : (rSl r).rep G1 [v] xs := by
    obtain ⟨es, h4, h5⟩ := O.ok j _ hj
    refine ⟨v, es, rfl, SlO.slG (e := e) ?_ h5.each, h5.mono fun _ _ => r.mono h2⟩
    rcases h4 with h4 | ⟨b, tg, cap, rest, sz', rfl, hb, h⟩
    · exact .inl h4
    · exact .inr ⟨b, tg, cap, rest, sz', rfl, (h3 b (by simp [eSl, footV])).trans hb, h⟩
  refine ⟨G1, h2, h1, hrep, fun G2 H1 hle O2 => ?_⟩
  let F := (eSl v e r xs).foot
  have hFG : ∀ b k, G b = some k → b ∉ F := fun b k hb hF => by have := O.apart j _ hj b hF; rw [hb] at this; cases this
  have hsF : ∀ b ∈ F, H1.get b = H.get b := fun b hb => by
    obtain ⟨k, hk⟩ := (eSl v e r xs).bnd (O.ok j _ hj) b hb
    rw [hk]; exact O2.fro b k (hle b k (by rw [h3 b hb]; exact hk))
  have hL : ∀ i p, i ≠ j → Ls[i]? = some p → (∀ b ∈ p.foot, H1.get b = H.get b) ∧ ∀ b ∈ p.foot, G2 b = none := fun i p hij hi => by
    have : ((Ls.eraseIdx j).map fun p => p.pin H.get)[if i < j then i else i - 1]? = some (p.pin H.get) := by
      rw [List.getElem?_map, List.getElem?_eraseIdx]
      by_cases hlt : i < j
      · simp [hlt, hi]
      · have h1 : ¬ (i - 1 < j) := by omega
        simp only [hlt, if_false, h1]
        rw [show i - 1 + 1 = i by omega, hi]; rfl
    exact ⟨fun b hb => (O2.ok _ _ this b hb).1, fun b hb => O2.apart _ _ this b hb⟩
  have hG3 : G.le fun b => if b ∈ F then none else G2 b := fun b k hb => by
    simp only [if_neg (hFG b k hb)]; exact hle b k (h2 b k hb)
  refine ⟨fun b => if b ∈ F then none else G2 b, ⟨fun b k hb => ?_, fun i p hi => ?_, O.dis, fun i p hi b hb => ?_⟩, hG3, fun b hb => ?_⟩
  · by_cases hF : b ∈ F
    · simp [hF] at hb
    · exact O2.fro b k (by simpa [hF] using hb)
  · by_cases hij : i = j
    · subst hij
      rw [hj] at hi; cases hi
      exact (eSl v e r xs).loc hsF ((eSl v e r xs).mono hG3 (O.ok i _ hj))
    · exact p.loc (hL i p hij hi).1 (p.mono hG3 (O.ok i p hi))
  · by_cases hij : i = j
    · subst hij; rw [hj] at hi; cases hi; simp [F, hb]
    · by_cases hF : b ∈ F
      · simp [hF]
      · simp [hF, (hL i p hij hi).2 b hb]
  · rcases hb with ⟨k, hk⟩ | ⟨i, p, hi, hb⟩
    · rw [O.fro b k hk]; exact O2.fro b k (hle b k (h2 b k hk))
    · by_cases hij : i = j
      · subst hij; rw [hj] at hi; cases hi; exact hsF b hb
      · exact (hL i p hij hi).1 b hb
/-- A call that looks at a slice of our own, and hands back nothing that lies in memory. -/
theorem Lo.callB {f : FuncId} {args : Array Operand} {ats : Array TypeId} {al : List Value} {fn : Func} {j : Nat} {xs : List α} {Ψ : Value → Prop} (hj : Ls[j]? = some (eSl v e r xs)) (hd : args.toList.all (ook n) = true) (hf : P.funcs[f]? = some fn) (hnm : (fn.name == "runtime.NumGoroutine" || fn.body.isNone) = false)
    (ha : args.toList.map (oval σ) = al) (O : Ow G H Ls) (hc : ∀ G1 L, G.le G1 → Ow G1 H L → (rSl r).rep G1 [v] xs → CR P f al G1 H L fun v _ _ => Ψ v) :
    Loud P n ⟨some d, .call ⟨.value (.func f), args, ats⟩, ty, pos, af, g⟩ σ H fun v H1 => ∃ G', Ow G' H1 Ls ∧ G.le G' ∧ Same G Ls H H1 ∧ Ψ v := by
  obtain ⟨G1, h1, h2, h3, h4⟩ := O.lend hj
  have hp : Ow G1 H ((Ls.eraseIdx j).map fun p => p.pin H.get) := Ow.pin (ps := []) h2
  obtain ⟨v', H1, G2, k1, k2, k3, k4⟩ := hc G1 _ h1 hp h3
  obtain ⟨G3, q1, q2, q3⟩ := h4 G2 H1 k3 k2
  exact ⟨v', H1, call_step (fo := .func f) hd hf hnm ha k1, G3, q1, q2, q3, k4⟩
end
end
end Go.Am
/- Slices of slices that are written: a piece with all its rows; a row may be taken out and laid back. -/
namespace Go.Am
open Go
noncomputable section
set_option linter.unusedSimpArgs false
set_option linter.unusedVariables false

structure RowsOk {α : Type} (v : Value) (e : TypeId) (ws : List Value) (hs : List Nat) (e2 : TypeId) (r : RT α) (xss : List (List α)) (G M : GM) : Prop where
  out : SlO e 1 M v (ws.map fun w => [w])
  one : ∀ w ∈ ws, okCells [w] = true
  len : ws.length = xss.length
  row : ∀ i w, i ∉ hs → ws[i]? = some w → ∃ es xs, xss[i]? = some xs ∧ SlO e2 r.sz M w es ∧ All2 (r.rep G) es xs
  dis : ∀ i j w u, i ≠ j → i ∉ hs → j ∉ hs → ws[i]? = some w → ws[j]? = some u → ∀ b ∈ footV w, b ∉ footV u
  off : ∀ i w, i ∉ hs → ws[i]? = some w → ∀ b ∈ footV w, b ∉ footV v
theorem SlO.loc {e : TypeId} {sz : Nat} {M M' : GM} {v : Value} {es : List (List Value)} (hl : ∀ b ∈ footV v, M' b = M b) (h : SlO e sz M v es) : SlO e sz M' v es := by
  rcases h with h1 | ⟨b, tg, cap, rest, sz', rfl, hb, h⟩
  · exact .inl h1
  · exact .inr ⟨b, tg, cap, rest, sz', rfl, by rw [hl b (by simp [footV]), hb], h⟩
theorem SlO.bnd {e : TypeId} {sz : Nat} {M : GM} {v : Value} {es : List (List Value)} (h : SlO e sz M v es) : ∀ b ∈ footV v, ∃ k, M b = some k := fun c hc => by
  rcases h with ⟨rfl, _⟩ | ⟨b, tg, cap, rest, sz', rfl, hb, h⟩
  · simp [footV] at hc
  · simp [footV] at hc; subst hc; exact ⟨_, hb⟩

section
variable {α : Type} {r : RT α} {G : GM} {H H1 : AH} {L : List Pc} {v w w' u : Value} {e e2 : TypeId} {ws : List Value} {hs : List Nat} {xss : List (List α)} {xs : List α} {i j k : Nat}
end

section
variable {P : Program} {n : Nat} {σ : Nat → Value} {H H1 : AH} {d : Tmp} {dd : Option Tmp} {ty t e e2 : TypeId} {pos : String} {af : Array Edge} {g : Option (Nat × Bool)} {v u w w' : Value} {x y : Operand}
  {G : GM} {L : List Pc} {j i : Nat} {α : Type} {r : RT α} {ws : List Value} {xss : List (List α)}
end
end
end Go.Am
/- What the proofs ask of the program's types. -/
namespace Go.Am.Tryd
open Go Go.Am Go.Proofs
theorem in2 : intT Tryd.prog 2 = some Go.IntKind.i64 := by kernel_rfl
theorem sz3 : szT Tryd.prog 3 = some 1 := by kernel_rfl
theorem ze3 : (Tryd.prog.info? 3).bind (·.zero) = some (Go.Value.int Go.IntKind.i64 0) := by kernel_rfl
theorem ag3 : isAggT Tryd.prog 3 = some false := by kernel_rfl
theorem by3 : ((Tryd.prog.info? 3).map (·.bytes)) = some 8 := by kernel_rfl
theorem in3 : intT Tryd.prog 3 = some Go.IntKind.i64 := by kernel_rfl
theorem sz5 : szT Tryd.prog 5 = some 1 := by kernel_rfl
theorem ze5 : (Tryd.prog.info? 5).bind (·.zero) = some (Go.Value.int Go.IntKind.u8 0) := by kernel_rfl
theorem ag5 : isAggT Tryd.prog 5 = some false := by kernel_rfl
theorem by5 : ((Tryd.prog.info? 5).map (·.bytes)) = some 1 := by kernel_rfl
theorem in5 : intT Tryd.prog 5 = some Go.IntKind.u8 := by kernel_rfl
theorem un9 : Tryd.prog.underlying 9 = some Go.TypeDesc.string := by kernel_rfl
theorem sz23 : szT Tryd.prog 23 = some 1 := by kernel_rfl
theorem ze23 : (Tryd.prog.info? 23).bind (·.zero) = some (Go.Value.int Go.IntKind.i64 0) := by kernel_rfl
theorem ag23 : isAggT Tryd.prog 23 = some false := by kernel_rfl
theorem ni62 : notInt Tryd.prog 62 = true := by kernel_rfl
theorem el62 : elemT Tryd.prog 62 = some 5 := by kernel_rfl
theorem ni64 : notInt Tryd.prog 64 = true := by kernel_rfl
theorem el64 : elemT Tryd.prog 64 = some 108 := by kernel_rfl
theorem el70 : elemT Tryd.prog 70 = some 23 := by kernel_rfl
theorem el71 : elemT Tryd.prog 71 = some 3 := by kernel_rfl
theorem sz108 : szT Tryd.prog 108 = some 1 := by kernel_rfl
theorem ze108 : (Tryd.prog.info? 108).bind (·.zero) = some (Go.Value.int Go.IntKind.u32 0) := by kernel_rfl
theorem ag108 : isAggT Tryd.prog 108 = some false := by kernel_rfl
theorem by108 : ((Tryd.prog.info? 108).map (·.bytes)) = some 4 := by kernel_rfl
theorem in108 : intT Tryd.prog 108 = some Go.IntKind.u32 := by kernel_rfl
theorem in112 : intT Tryd.prog 112 = some Go.IntKind.u64 := by kernel_rfl
theorem ze116 : (Tryd.prog.info? 116).bind (·.zero) = some (Go.Value.agg #[Go.Value.int Go.IntKind.u8 0, Go.Value.int Go.IntKind.u8 0, Go.Value.int Go.IntKind.u8 0, Go.Value.int Go.IntKind.u8 0, Go.Value.int Go.IntKind.u8 0, Go.Value.int Go.IntKind.u8 0, Go.Value.int Go.IntKind.u8 0, Go.Value.int Go.IntKind.u8 0, Go.Value.int Go.IntKind.u8 0]) := by kernel_rfl
theorem ar116 : arrT Tryd.prog 116 = some (9, 5) := by kernel_rfl
theorem in118 : intT Tryd.prog 118 = some Go.IntKind.u64 := by kernel_rfl
theorem mixed : Tryd.prog.follows .mixedOrders = true := by kernel_rfl
end Go.Am.Tryd
/- Reads in an open region through a pointer that is known only by an equation. -/
namespace Go.Am
open Go
theorem gap {α : Type} {r : α} {C : Prop} (h : (none : Option α) = some r) : C := by cases h
section
variable {α : Type} {r : RT α} {G : GM} {b N : Nat} {xs : List α}
variable {P : Program} {d : Tmp} {ty t e : TypeId} {pos : String} {af : Array Edge} {g : Option (Nat × Bool)} {x : Operand} {s : List Value}
/-- The slice of a whole array. -/
theorem slArr (h : At G G (.pointer (some ⟨b, 0, none⟩)) (rArr N r) xs) : (rSl r).rep G [.slice (some ⟨b, 0, some 0⟩) N N] xs := by
  obtain ⟨cs, ⟨b', off, k, h1, h2, h3, h4⟩, hn, es, h5, h6⟩ := h
  cases h1
  have hl := h6.length
  have hf : cs.length = es.length * r.sz := by rw [h5, h6.flatLen, ← hl]
  refine ⟨_, es, rfl, ⟨h6.each, .inr (.inl ⟨b, 0, some 0, N, k, by rw [hl, hn], h2, by rw [← hf]; exact h3, by rw [← hf, h4, h5], by omega, .inr rfl⟩)⟩, h6⟩
theorem v_slArr {sz : Nat} (ha : arrT P t = some (N, e)) (hz : szT P e = some sz) (hx : opnd s x = some (.pointer (some ⟨b, 0, none⟩))) : apure P s ⟨some d, .slice t x none none none, ty, pos, af, g⟩ = some (.slice (some ⟨b, 0, some 0⟩) N N) := by
  unfold szT at hz
  cases hi : P.info? e with
  | none => rw [hi] at hz; cases hz
  | some inf => simp [apure, hx, aSlice, arrT_inv ha, hi, bnd, opndO]
end
section
variable {P : Program} {n : Nat} {σ : Nat → Value} {G : GM} {H : AH} {ops : Array Oper} {l : List Oper} {d : Tmp} {ty t u e : TypeId} {pos : String} {af : Array Edge} {g : Option (Nat × Bool)} {x : Operand}
theorem cells_u8 : ∀ (es : List (List Value)) (xs : List Int), All2 ((rI .u8).rep G) es xs → bytesOfCells es.flatten = some xs
  | _, _, .nil => rfl
  | _, _, .cons h r => by
    cases h
    have := cells_u8 _ _ r
    simp [bytesOfCells, this]
/-- A text of the bytes of a slice that is not empty. -/
theorem W.bytesStr {Q : (Nat → Value) → AH → Prop} {es : List (List Value)} {xs : List Int} (hg : gok n ops σ g true) (hd : (Nat.blt d n && ook n x) = true) (he : elemT P t = some e) (hi : intT P e = some .u8) (hu : P.underlying u = some .string)
    (hs : SlG H.get 1 (oval σ x) es) (h2 : All2 ((rI .u8).rep G) es xs) (h0 : 0 < xs.length) (hr : AWO P n ops l (up σ d (.string (strOfNums xs))) H Q) : AWO P n ops (⟨some d, .convert t u x, ty, pos, af, g⟩ :: l) σ H Q := by
  simp only [Bool.and_eq_true] at hd
  have hl := h2.length
  obtain ⟨_, ⟨_, h⟩ | ⟨b, off, tg, cap, k, h3, h4, h5, h6, _⟩ | ⟨_, _, _, _, _, h, _⟩⟩ := hs
  · rw [h] at hl; simp at hl; omega
  · have hx := opnd_oval (σ := σ) hd.2
    rw [h3] at hx
    rw [Nat.mul_one] at h5 h6
    refine W.read hg hd.1 ?_ ?_ hr
    · simp [apure, agen, isSel, Op.operands, hx, closed, scalar]
    · simp [aread, hx, aBytesStr, elemT_inv he, hu, h4, intT_inv hi, h5, h6, cells_u8 es xs h2]
  · rw [h] at hl; simp at hl; omega
end
end Go.Am
/- Parts of texts and of slices. -/
namespace Go.Am
open Go
set_option linter.unusedSimpArgs false
set_option linter.unusedVariables false
section
variable {P : Program} {d : Tmp} {ty t e : TypeId} {pos : String} {af : Array Edge} {g : Option (Nat × Bool)} {x xl xh : Operand} {s : List Value} {a r : ByteArray} {k k2 : IntKind} {l h : Int}
theorem ssl_inv (q : ssl a l h = some r) : 0 ≤ l ∧ l ≤ h ∧ h ≤ a.size ∧ r = a.extract l.toNat h.toNat := by
  unfold ssl at q
  split at q
  · rename_i c; cases q; exact ⟨c.1, c.2.1, c.2.2, rfl⟩
  · cases q
theorem bound_ok {y : Nat} {c : BoundsCode} (h0 : 0 ≤ l) (h1 : l ≤ y) : (Instr.sliceBound (.int k l) y c).pureRun P = some l.toNat := by
  unfold Instr.sliceBound
  simp [asIntOf, pureRun_bind, pureRun_pure, h0, h1]
theorem v_sslLH (hu : P.underlying t = some .string) (hx : opnd s x = some (.string a)) (hl : opnd s xl = some (.int k l)) (hh : opnd s xh = some (.int k2 h)) (q : ssl a l h = some r) : apure P s ⟨some d, .slice t x (some xl) (some xh) none, ty, pos, af, g⟩ = some (.string r) := by
  obtain ⟨h1, h2, h3, rfl⟩ := ssl_inv q
  have hc : ∀ b, closed (.string b) = true := fun _ => rfl
  have hi : ∀ k i, closed (.int k i) = true := fun _ _ => rfl
  have hl' : l ≤ (h.toNat : Nat) := by omega
  simp [apure, hx, hl, hh, agen, isSel, Op.operands, hc, hi, execOp, Instr.sliceAt, Instr.slice, Instr.sliceBounds, pureRun_bind, pureRun_map, pureRun_pure, pureRun_under hu, bound_ok (show 0 ≤ h by omega) h3, bound_ok h1 hl']
theorem v_sslL (hu : P.underlying t = some .string) (hx : opnd s x = some (.string a)) (hl : opnd s xl = some (.int k l)) (q : ssl a l (a.size : Int) = some r) : apure P s ⟨some d, .slice t x (some xl) none none, ty, pos, af, g⟩ = some (.string r) := by
  obtain ⟨h1, h2, h3, rfl⟩ := ssl_inv q
  have hc : ∀ b, closed (.string b) = true := fun _ => rfl
  have hi : ∀ k i, closed (.int k i) = true := fun _ _ => rfl
  simp [apure, hx, hl, agen, isSel, Op.operands, hc, hi, execOp, Instr.sliceAt, Instr.slice, Instr.sliceBounds, pureRun_bind, pureRun_map, pureRun_pure, pureRun_under hu, bound_ok h1 h2]
end
section
variable {α : Type} {R : RT α} {G : GM} {P : Program} {d : Tmp} {ty t e : TypeId} {pos : String} {af : Array Edge} {g : Option (Nat × Bool)} {x xl xh : Operand} {k k2 : IntKind} {v : Value} {xs ys : List α}
theorem lsl_inv {l h : Int} (q : lsl xs l h = some ys) : ∃ l' h' : Nat, l = l' ∧ h = h' ∧ l' ≤ h' ∧ h' ≤ xs.length ∧ ys = (xs.drop l').take (h' - l') := by
  unfold lsl at q
  split at q
  · rename_i c; cases q; exact ⟨l.toNat, h.toNat, by omega, by omega, by omega, by omega, rfl⟩
  · cases q
/-- A prefix of a piece is a piece. -/
theorem Ow.pre {H : AH} {L : List Pc} {j : Nat} {h : Int} (O : Ow G H L) (hj : L[j]? = some (eSl v e R xs)) (he : elemT P t = some e) (hz : szT P e = some R.sz) (q : lsl xs 0 h = some ys) : ∃ w, (∀ {s : List Value} {d ty pos af g x xh k2}, opnd s x = some v → opnd s xh = some (.int k2 h) → apure P s ⟨some d, .slice t x none (some xh) none, ty, pos, af, g⟩ = some w) ∧ Ow G H (L.set j (eSl w e R ys)) := by
  obtain ⟨l', h', h0, rfl, h1, h2, rfl⟩ := lsl_inv q
  obtain rfl : l' = 0 := by omega
  obtain ⟨inf, hinf, hsz⟩ := szT_inv hz
  obtain ⟨es, hs, hr⟩ := O.ok j _ hj
  have hlen := hr.length
  have hb0 : ∀ y, bnd none 0 y = some 0 := fun y => by simp [bnd]
  rcases hs with ⟨rfl, rfl⟩ | ⟨b, tg, cap, rest, sz', rfl, hb, hl, hcap, htg⟩
  · have e0 : xs.length = 0 := by simpa using hlen.symm
    obtain rfl : h' = 0 := by omega
    refine ⟨.slice none 0 0, fun {s d ty pos af g x xh k2} hx hh => ?_, ?_⟩
    · simp [apure, hx, opndO, hh, aSlice, elemT_inv he, hinf, bnd]
    · refine O.put hj _ (fun b hb => .inl hb) ⟨[], .inl ⟨rfl, rfl⟩, by simpa using All2.nil⟩ fun b k hk _ => hk
  · refine ⟨.slice (some ⟨b, 0, tg⟩) h' cap, fun {s d ty pos af g x xh k2} hx hh => ?_, ?_⟩
    · have hbh : bnd (some (.int k2 (h' : Int))) es.length cap = some h' := by simp [bnd]; omega
      have htt : tg = none ∨ tg = some 0 := htg.imp And.left id
      simp only [apure, hx, opndO, hh, Option.bind_some, Option.map_some, aSlice, elemT_inv he, hinf, hbh, hb0]
      rw [if_pos ⟨hcap, htt⟩]
      simp
    · refine O.put hj _ (fun b hb => .inl hb) ⟨es.take h', .inr ⟨b, tg, cap, (es.drop h').flatten ++ rest, sz', ?_, ?_, ?_, ?_, htg⟩, by simpa using hr.take h'⟩ fun b k hk _ => hk
      · rw [List.length_take]; congr 1; omega
      · rw [hb, ← List.append_assoc, ← List.flatten_append, List.take_append_drop]
      · rw [← List.append_assoc, ← List.flatten_append, List.take_append_drop]; exact hl
      · rw [List.length_take]; omega
/-- The length of a prefix of a piece. -/
theorem Ow.view {H : AH} {L : List Pc} {j : Nat} {h : Int} (O : Ow G H L) (hj : L[j]? = some (eSl v e R xs)) (he : elemT P t = some e) (hz : szT P e = some R.sz) (q : lsl xs 0 h = some ys) : ∃ w, (∀ {s : List Value} {d ty pos af g x xh k2}, opnd s x = some v → opnd s xh = some (.int k2 h) → apure P s ⟨some d, .slice t x none (some xh) none, ty, pos, af, g⟩ = some w) ∧ isSlV w ys.length := by
  obtain ⟨w, h1, h2⟩ := O.pre hj he hz q
  refine ⟨w, h1, ?_⟩
  have hjl : j < L.length := (List.getElem?_eq_some_iff.1 hj).1
  exact h2.slLen (j := j) (e := e) (r := R) (by rw [List.getElem?_set]; simp [hjl])
end
section
variable {P : Program} {d : Tmp} {ty src dst : TypeId} {pos : String} {af : Array Edge} {g : Option (Nat × Bool)} {x : Operand} {s : List Value} {a : ByteArray} {k k1 : IntKind} {n : Int}
end
end Go.Am
/- The place of a byte in a text: the library's function, by the shelf's contract, as a typed function. -/
namespace Go.Am.Tryd
open Go Go.Am Go.Proofs
set_option linter.unusedVariables false
end Go.Am.Tryd
