/- Rules for addresses, reading, making, writing and calls. -/
import Derived.Test.YtlmgdnhnpkgheaaDoorAmP
namespace Go.Am
open Go
noncomputable section
set_option linter.unusedSimpArgs false
set_option linter.unusedVariables false

def szT (P : Program) (t : TypeId) : Option Nat := (P.info? t).map (·.size)
def fldT (P : Program) (st : TypeId) (f : Nat) : Option Nat :=
  match P.underlying st with
  | some (.struct fs) => (fs[f]?).bind fun fld => (P.info? fld.type).bind fun i => if i.size = 0 then none else some fld.offset
  | _ => none
def elemT (P : Program) (t : TypeId) : Option TypeId := match P.underlying t with | some (.slice e) => some e | _ => none
def arrT (P : Program) (t : TypeId) : Option (Nat × TypeId) := match P.underlying t with | some (.array n e) => some (n, e) | _ => none
theorem elemT_inv {P : Program} {t e : TypeId} (h : elemT P t = some e) : P.underlying t = some (.slice e) := by
  unfold elemT at h; split at h
  · rename_i hu; cases h; exact hu
  · cases h
theorem arrT_inv {P : Program} {t e : TypeId} {n : Nat} (h : arrT P t = some (n, e)) : P.underlying t = some (.array n e) := by
  unfold arrT at h; split at h
  · rename_i hu; cases h; exact hu
  · cases h
theorem szT_inv {P : Program} {t : TypeId} {n : Nat} (h : szT P t = some n) : ∃ i, P.info? t = some i ∧ i.size = n := by
  obtain ⟨i, hi, h⟩ := Option.map_eq_some_iff.1 h
  exact ⟨i, hi, h⟩

section
variable {P : Program} {n : Nat} {σ : Nat → Value} {H H1 : AH} {ops : Array Oper} {l : List Oper} {Q : (Nat → Value) → AH → Prop} {d : Tmp} {ty t yt e : TypeId} {pos : String} {af : Array Edge} {g : Option (Nat × Bool)} {v u w : Value} {x y c : Operand} {s : List Value} {cs : List Value} {es : List (List Value)}

theorem oo (h : ook n x = true) (hv : oval σ x = v) : opnd (toL n σ) x = some v := opnd_oval' h hv

/-! ### Values -/
theorem v_idx {N sz : Nat} {k : IntKind} {i : Int} (he : elemT P t = some e) (hz : szT P e = some sz) (hx : opnd s x = some v) (hy : opnd s y = some (.int k i)) (hs : isSlV v N) (h0 : 0 ≤ i) (h1 : i.toNat < N) :
    apure P s ⟨some d, .indexAddr t x y, ty, pos, af, g⟩ = some (selem v (i.toNat * sz)) := by
  obtain ⟨inf, hi, rfl⟩ := szT_inv hz
  rcases hs with ⟨rfl, rfl⟩ | ⟨b, off, tg, cap, rfl⟩
  · omega
  · have h2 : i < N := by omega
    simp [apure, hx, hy, aIndexAddr, elemT_inv he, hi, h0, h2, selem]
theorem v_idxN {N sz : Nat} {k : IntKind} {i : Nat} (he : elemT P t = some e) (hz : szT P e = some sz) (hx : opnd s x = some v) (hy : opnd s y = some (.int k i)) (hs : isSlV v N) (h1 : i < N) :
    apure P s ⟨some d, .indexAddr t x y, ty, pos, af, g⟩ = some (selem v (i * sz)) := v_idx he hz hx hy hs (by omega) h1
theorem v_idxA {N sz : Nat} {k : IntKind} {i : Int} (he : arrT P t = some (N, e)) (hz : szT P e = some sz) (hx : opnd s x = some v) (hy : opnd s y = some (.int k i)) (hp : Pt H v cs) (h0 : 0 ≤ i) (h1 : i.toNat < N) :
    apure P s ⟨some d, .indexAddr t x y, ty, pos, af, g⟩ = some (padd v (i.toNat * sz)) := by
  obtain ⟨inf, hi, rfl⟩ := szT_inv hz
  obtain ⟨b, off, kk, rfl, _⟩ := hp
  have h2 : i < N := by omega
  simp [apure, hx, hy, aIndexAddr, arrT_inv he, hi, h0, h2, padd]
theorem v_fld {f k : Nat} (hf : fldT P t f = some k) (hx : opnd s x = some v) (hp : Pt H v cs) : apure P s ⟨some d, .fieldAddr t x f, ty, pos, af, g⟩ = some (padd v k) := by
  obtain ⟨b, off, kk, rfl, _⟩ := hp
  unfold fldT at hf
  split at hf
  · rename_i fs hu
    obtain ⟨fld, hfl, hf⟩ := Option.bind_eq_some_iff.1 hf
    obtain ⟨i, hi, hf⟩ := Option.bind_eq_some_iff.1 hf
    split at hf
    · cases hf
    · rename_i hz
      cases hf
      simp [apure, hx, aFieldAddr, hu, hfl, hi, hz, padd]
  · cases hf
theorem v_index {N sz : Nat} {k : IntKind} {i : Int} {a : Array Value} (he : arrT P t = some (N, e)) (hz : szT P e = some sz) (ha : isAggT P e = some false) (hx : opnd s x = some (.agg a)) (hy : opnd s y = some (.int k i)) (h0 : 0 ≤ i) (h1 : i.toNat < N)
    (hv : a.toList[i.toNat * sz]? = some v) : apure P s ⟨some d, .index t x y, ty, pos, af, g⟩ = some v := by
  obtain ⟨inf, hi, rfl⟩ := szT_inv hz
  have h2 : i < N := by omega
  simp only [apure, hx, hy, Option.bind_some, aIndex, arrT_inv he, hi]
  rw [if_pos ⟨h0, h2⟩]
  simpa [aPart, ha] using hv

theorem r_load1 {r : List Value} (ha : isAggT P t = some false) (hx : opnd s x = some u) (hp : Pt H u (v :: r)) : aread P s ⟨some d, .load t x, ty, pos, af, g⟩ H.get = some v := by
  obtain ⟨b, off, k, rfl, h2, h3, h4⟩ := hp
  have : k.cells[off]? = some v := by
    have := congrArg (·[0]?) h4
    simp at this
    simpa using this
  simp [aread, hx, aload, h2, ha, this]
theorem r_loadA {N : Nat} (ha : isAggT P t = some true) (hz : szT P t = some N) (hx : opnd s x = some u) (hp : Pt H u cs) (hN : cs.length = N) : aread P s ⟨some d, .load t x, ty, pos, af, g⟩ H.get = some (.agg cs.toArray) := by
  obtain ⟨inf, hi, rfl⟩ := szT_inv hz
  obtain ⟨b, off, k, rfl, h2, h3, h4⟩ := hp
  rw [hN] at h3 h4
  simp [aread, hx, aload, h2, ha, hi, h3, h4]

/-! ### Steps -/
theorem W.read {op : Op} (hg : gok n ops σ g true) (hd : Nat.blt d n = true) (h0 : apure P (toL n σ) ⟨some d, op, ty, pos, af, g⟩ = none) (h : aread P (toL n σ) ⟨some d, op, ty, pos, af, g⟩ H.get = some v) (hr : AWO P n ops l (up σ d v) H Q) :
    AWO P n ops (⟨some d, op, ty, pos, af, g⟩ :: l) σ H Q := .step (wanted_gok hg) hd (step_read h0 h) hr
theorem W.load1 {r : List Value} (hg : gok n ops σ g true) (hd : (Nat.blt d n && ook n x) = true) (ha : isAggT P t = some false) (hp : Pt H (oval σ x) (v :: r)) (hr : AWO P n ops l (up σ d v) H Q) :
    AWO P n ops (⟨some d, .load t x, ty, pos, af, g⟩ :: l) σ H Q := by
  simp only [Bool.and_eq_true] at hd
  exact W.read hg hd.1 rfl (r_load1 ha (opnd_oval hd.2) hp) hr
theorem W.loadA {N : Nat} (hg : gok n ops σ g true) (hd : (Nat.blt d n && ook n x) = true) (ha : isAggT P t = some true) (hz : szT P t = some N) (hp : Pt H (oval σ x) cs) (hN : cs.length = N) (hr : AWO P n ops l (up σ d (.agg cs.toArray)) H Q) :
    AWO P n ops (⟨some d, .load t x, ty, pos, af, g⟩ :: l) σ H Q := by
  simp only [Bool.and_eq_true] at hd
  exact W.read hg hd.1 rfl (r_loadA ha hz (opnd_oval hd.2) hp hN) hr
/-- What a new block gives. -/
structure NewB (H H1 : AH) (b : Nat) (k : ABlk) : Prop where
  ext : Ext H H1
  get : H1.get b = some k
  fresh : H.next ≤ b
  next : b < H1.next
theorem NewB.ne {b b' : Nat} {k k' : ABlk} (h : NewB H H1 b k) (h' : H.get b' = some k') : b' ≠ b := by
  have := lt_next h'; have := h.fresh; omega
theorem NewB.push (H : AH) (k : ABlk) : NewB H (H.push (some k)) H.next k := ⟨.push H _, get_push_new H _, Nat.le_refl _, by simp [AH.push]⟩
theorem W.alloc {z : Value} (hg : gok n ops σ g true) (hd : Nat.blt d n = true) (hz : (P.info? e).bind (·.zero) = some z) (hs : z.cells.all scalar = true)
    (hr : ∀ b H1, NewB H H1 b ⟨z.cells.toList, e, 1, true⟩ → AWO P n ops l (up σ d (.pointer (some ⟨b, 0, none⟩))) H1 Q) : AWO P n ops (⟨some d, .alloc e, ty, pos, af, g⟩ :: l) σ H Q :=
  .step (wanted_gok hg) hd (st_alloc hz hs) (hr _ _ (.push H _))
theorem W.box (hg : gok n ops σ g true) (hd : (Nat.blt d n && ook n x) = true) (hx : oval σ x = v)
    (hr : ∀ b H1, NewB H H1 b ⟨v.cells.toList, e, 1, true⟩ → AWO P n ops l (up σ d (.pointer (some ⟨b, 0, none⟩))) H1 Q) : AWO P n ops (⟨some d, .box e x, ty, pos, af, g⟩ :: l) σ H Q := by
  simp only [Bool.and_eq_true] at hd
  refine .step (wanted_gok hg) hd.1 (astep_ok (v := .pointer (some ⟨H.next, 0, none⟩)) (H' := H.push (some ⟨v.cells.toList, e, 1, true⟩)) ?_) (hr _ _ (.push H _))
  simp [astep, apure, aread, aalloc, oo hd.2 hx, MK.val]
/-- What a store into one block leaves. -/
structure SetB (H H1 : AH) (b : Nat) (k : ABlk) : Prop where
  get : H1.get b = some k
  other : ∀ b', b' ≠ b → H1.get b' = H.get b'
  next : H1.next = H.next
theorem SetB.old {b b' : Nat} {k k' : ABlk} (h : SetB H H1 b k) (h' : H.get b' = some k') (hn : b' ≠ b) : H1.get b' = some k' := (h.other b' hn).trans h'
theorem SetB.ext {H0 : AH} {b : Nat} {k : ABlk} (h : SetB H H1 b k) (h0 : Ext H0 H) (hb : H0.next ≤ b) : Ext H0 H1 :=
  ⟨by rw [h.next]; exact h0.1, fun b' k' hk => h.old (h0.2 _ _ hk) (by have := lt_next hk; omega)⟩
theorem SetB.set {b : Nat} {k k' : ABlk} (h : H.get b = some k) : SetB H (H.set b (some k')) b k' := by
  have hl := lt_next h
  refine ⟨?_, fun b' hb => ?_, rfl⟩
  · rw [get_set_upd _ _ h]; simp [upd]
  · rw [get_set_upd _ _ h]; simp [upd, hb]
theorem store_set {b off : Nat} {k : ABlk} {vs : List Value} (h : H.get b = some k) (ho : k.own = true) (hk : okCells vs = true) (hl : off + vs.length ≤ k.cells.length) :
    ∃ H1, awriteAt H b off vs = some H1 ∧ SetB H H1 b { k with cells := splice k.cells off vs } := by
  refine ⟨H.set b (some { k with cells := splice k.cells off vs }), ?_, .set h⟩
  simp [awriteAt, h, ho, hk, hl]
theorem W.store {t : TypeId} {b off N : Nat} {k : ABlk} {dd : Option Tmp} (hg : gok n ops σ g true) (hd : (dok n dd && ook n x && ook n y) = true) (hz : szT P t = some N) (hx : oval σ x = .pointer (some ⟨b, off, none⟩)) (hy : oval σ y = v) (hb : H.get b = some k)
    (ho : k.own = true) (hs : v.cells.size = N) (hok : okCells v.cells.toList = true) (hl : Nat.ble (off + N) k.cells.length = true)
    (hr : ∀ H1, SetB H H1 b { k with cells := splice k.cells off v.cells.toList } → AWO P n ops l (upo σ dd undef) H1 Q) : AWO P n ops (⟨dd, .store t x y, ty, pos, af, g⟩ :: l) σ H Q := by
  simp only [Bool.and_eq_true] at hd
  obtain ⟨inf, hi, rfl⟩ := szT_inv hz
  obtain ⟨H1, h1, h2⟩ := store_set (vs := v.cells.toList) hb ho hok (by have := Nat.le_of_ble_eq_true hl; simpa [hs] using this)
  refine .step (wanted_gok hg) hd.1.1 (astep_ok (v := undef) (H' := H1) ?_) (hr _ h2)
  simp [astep, apure, aread, aalloc, awrite, oo hd.1.2 hx, oo hd.2 hy, hi, hs, h1]
theorem W.call {f : FuncId} {args : Array Operand} {ats : Array TypeId} {al : List Value} {fn : Func} (hg : gok n ops σ g true) (hd : (Nat.blt d n && args.toList.all (ook n)) = true) (hf : P.funcs[f]? = some fn) (hnm : (fn.name == "runtime.NumGoroutine" || fn.body.isNone) = false)
    (ha : args.toList.map (oval σ) = al) (hc : ACalls P f al H v H1) (hr : AWO P n ops l (up σ d v) H1 Q) : AWO P n ops (⟨some d, .call ⟨.value (.func f), args, ats⟩, ty, pos, af, g⟩ :: l) σ H Q := by
  simp only [Bool.and_eq_true] at hd
  refine .step (wanted_gok hg) hd.1 (acall_ok (f := f) (args := al) ?_ hc) hr
  simp [acallee, opnd, hf, hnm, opndL_oval hd.2, ha]
theorem W.splitAt {b : Bool} {t : Nat} (h : σ t = .bool b) (h1 : b = true → σ t = .bool true → AWO P n ops l σ H Q) (h2 : b = false → σ t = .bool false → AWO P n ops l σ H Q) : AWO P n ops l σ H Q := by
  cases b with
  | true => exact h1 rfl h
  | false => exact h2 rfl h
theorem ret1V {fn : Func} {R : Value → AH → Prop} {t : Tmp} (hr : fn.results.toList = [.tmp t]) (ht : Nat.blt t n = true) (hv : σ t = v) (h : R v H) : retQ P fn n R .ret σ H := ret1 hr (blt_iff.1 ht) (hv ▸ h)
end
end
end Go.Am
