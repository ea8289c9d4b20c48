/- Rules for regions whose order is open, for slices that are made and grown, and for calls of function values. -/
import Derived.Test.YtlmgdnhnpkgheaaDoorAmR
namespace Go.Am
open Go
noncomputable section
set_option linter.unusedSimpArgs false
set_option linter.unusedVariables false

def blkOf : Value → Nat
  | .pointer (some a) => a.block
  | .slice (some a) _ _ => a.block
  | _ => 0
theorem Pt.blk {H : AH} {v : Value} {cs : List Value} (h : Pt H v cs) : (H.get (blkOf v)).isSome = true := by
  obtain ⟨b, off, k, rfl, h1, _⟩ := h
  simp [blkOf, h1]
theorem Pt.ne {H0 : AH} {v : Value} {cs : List Value} {c : Nat} (h : Pt H0 v cs) (hc : H0.next ≤ c) : blkOf v ≠ c := by
  obtain ⟨b, off, k, rfl, h1, _⟩ := h
  have := lt_next h1
  simp only [blkOf]; omega
theorem Ext.same {H H1 : AH} {b : Nat} (h : Ext H H1) (hb : (H.get b).isSome = true) : H1.get b = H.get b := by
  obtain ⟨k, hk⟩ := Option.isSome_iff_exists.1 hb
  rw [hk]; exact h.2 _ _ hk
def RS (H : AH) (R : ReadL) : Prop := ∀ r ∈ R, (H.get r.2).isSome = true
theorem RS.nil {H : AH} : RS H [] := fun r hr => by cases hr
theorem RS.cons {H : AH} {R : ReadL} {i b : Nat} (h : RS H R) (hb : (H.get b).isSome = true) : RS H ((i, b) :: R) := fun r hr => by
  rcases List.mem_cons.1 hr with rfl | hr
  · exact hb
  · exact h r hr
theorem RS.ext {H H1 : AH} {R : ReadL} (h : RS H R) (e : Ext H H1) : RS H1 R := fun r hr => by rw [e.same (h r hr)]; exact h r hr
theorem RS.set {H H1 : AH} {R : ReadL} {b : Nat} {k : ABlk} (h : RS H R) (e : SetB H H1 b k) : RS H1 R := fun r hr => by
  by_cases hb : r.2 = b
  · rw [hb, e.get]; rfl
  · rw [e.other _ hb]; exact h r hr
theorem fa_nil {α : Type} {p : α → Prop} : ∀ x ∈ ([] : List α), p x := fun x hx => by cases hx
theorem fa_cons {α : Type} {p : α → Prop} {a : α} {l : List α} (h : p a) (hl : ∀ x ∈ l, p x) : ∀ x ∈ a :: l, p x := fun x hx => by
  rcases List.mem_cons.1 hx with rfl | hx
  · exact h
  · exact hl x hx

theorem faR_bit {m j b c : Nat} {R : ReadL} (h : m.testBit j = true) (hl : ∀ r ∈ R, m.testBit r.1 = true ∨ r.2 ≠ c) : ∀ r ∈ (j, b) :: R, m.testBit r.1 = true ∨ r.2 ≠ c := fa_cons (.inl h) hl
theorem faR_ne {m j b c : Nat} {R : ReadL} (h : b ≠ c) (hl : ∀ r ∈ R, m.testBit r.1 = true ∨ r.2 ≠ c) : ∀ r ∈ (j, b) :: R, m.testBit r.1 = true ∨ r.2 ≠ c := fa_cons (.inr h) hl
theorem faL_bit {m j : Nat} {A B : AH} {L : LoudL} (h : m.testBit j = true) (hl : ∀ q ∈ L, m.testBit q.1 = true) : ∀ q ∈ (j, A, B) :: L, m.testBit q.1 = true := fa_cons h hl
theorem faQ_bit {m j c : Nat} {A B : AH} {L : LoudL} (h : m.testBit j = true) (hl : ∀ q ∈ L, m.testBit q.1 = true ∨ q.2.2.get c = q.2.1.get c) : ∀ q ∈ (j, A, B) :: L, m.testBit q.1 = true ∨ q.2.2.get c = q.2.1.get c := fa_cons (.inl h) hl
theorem faQ_eq {m j c : Nat} {A B : AH} {L : LoudL} (h : B.get c = A.get c) (hl : ∀ q ∈ L, m.testBit q.1 = true ∨ q.2.2.get c = q.2.1.get c) : ∀ q ∈ (j, A, B) :: L, m.testBit q.1 = true ∨ q.2.2.get c = q.2.1.get c := fa_cons (.inr h) hl
def AWD (P : Program) (n : Nat) (ops : Array Oper) (M : List Nat) (l : List Oper) (i : Nat) (R : ReadL) (L : LoudL) (σ : Nat → Value) (H : AH) (Q : (Nat → Value) → AH → Prop) : Prop :=
  ∃ es σ' H', DOps P ops M l i R L (toL n σ) H es (toL n σ') H' ∧ (∀ t, wrL l t = false → σ' t = σ t) ∧ Q σ' H'

section
variable {P : Program} {n : Nat} {σ : Nat → Value} {H H1 : AH} {ops : Array Oper} {l : List Oper} {Q : (Nat → Value) → AH → Prop} {QX : QX} {d : Tmp} {ty t yt e : TypeId} {pos : String} {af : Array Edge} {g : Option (Nat × Bool)} {v u w : Value} {x y c : Operand} {s : List Value} {cs : List Value}
  {es : List (List Value)} {M : List Nat} {R : ReadL} {L : LoudL} {i : Nat} {o : Oper}

theorem Ext.reserve (H : AH) : ∀ k, Ext H (reserve H k) := fun k => ⟨by rw [reserve_next]; omega, fun b x hb => by rw [reserve_get]; exact hb⟩
theorem AW.draw {id : Nat} (hmix : P.follows .mixedOrders = true) (hM : ancs ops.toList [] = M) (hord : orderOk ops M = true) (h : ∀ H1, Ext H H1 → AWD P n ops M ops.toList 0 [] [] σ H1 (QX .normal)) : AW P n (.region id ops true) σ H QX := by
  obtain ⟨es, σ', H', h1, h2, h3⟩ := h (reserve H ops.size) (.reserve H _)
  exact ⟨.normal, σ', H', .drawR hmix hM hord h1, h2, h3⟩
theorem AWD.nil (h : Q σ H) : AWD P n ops M [] i R L σ H Q := ⟨[], σ, H, .nil, fun _ _ => rfl, h⟩
theorem fr_upo {o : Oper} {l : List Oper} {σ σ' : Nat → Value} {v : Value} (h2 : ∀ t, wrL l t = false → σ' t = upo σ o.dst v t) : ∀ t, wrL (o :: l) t = false → σ' t = σ t :=
  fun t ht => (h2 t (by simp only [wrL, Bool.or_eq_false_iff] at ht; exact ht.2)).trans (wrL_upo ht σ v)
theorem D.skip {op : Op} {dd : Option Tmp} (hg : gok n ops σ g false) (hd : dok n dd = true) (hr : AWD P n ops M l (i + 1) R L (upo σ dd undef) H Q) : AWD P n ops M (⟨dd, op, ty, pos, af, g⟩ :: l) i R L σ H Q := by
  obtain ⟨es, σ', H', h1, h2, h3⟩ := hr
  exact ⟨_, σ', H', .skip (wanted_gok hg) (by rw [putd_upo hd]; exact h1), fr_upo h2, h3⟩
theorem D.pure {op : Op} (hg : gok n ops σ g true) (hd : Nat.blt d n = true) (h : apure P (toL n σ) ⟨some d, op, ty, pos, af, g⟩ = some v) (hr : AWD P n ops M l (i + 1) R L (up σ d v) H Q) : AWD P n ops M (⟨some d, op, ty, pos, af, g⟩ :: l) i R L σ H Q := by
  obtain ⟨es, σ', H', h1, h2, h3⟩ := hr
  exact ⟨_, σ', H', .pure (wanted_gok hg) h (by rw [putd_upo (d := some d) hd]; exact h1), fr_upo h2, h3⟩
theorem D.splitAt {b : Bool} {t : Nat} (h : σ t = .bool b) (h1 : b = true → σ t = .bool true → AWD P n ops M l i R L σ H Q) (h2 : b = false → σ t = .bool false → AWD P n ops M l i R L σ H Q) : AWD P n ops M l i R L σ H Q := by
  cases b with
  | true => exact h1 rfl h
  | false => exact h2 rfl h
theorem v_move {x : Operand} (h : opnd s x = some v) : apure P s ⟨some d, .move x, ty, pos, af, g⟩ = some v := h
theorem v_assign {x : Operand} (h : opnd s x = some v) : apure P s ⟨some d, .assign x, ty, pos, af, g⟩ = some v := h
theorem v_pickT (hc : opnd s c = some (.bool true)) (hx : opnd s x = some v) : apure P s ⟨some d, .pick c x y, ty, pos, af, g⟩ = some v := by simp [apure, hc, hx]
theorem v_pickF (hc : opnd s c = some (.bool false)) (hy : opnd s y = some v) : apure P s ⟨some d, .pick c x y, ty, pos, af, g⟩ = some v := by simp [apure, hc, hy]
theorem v_int {op : BinOp} {k : IntKind} {a b : Int} (hx : opnd s x = some (.int k a)) (hy : opnd s y = some (.int k b)) (hv : aint op k a b = some v) : apure P s ⟨some d, .binOp op t x y yt, ty, pos, af, g⟩ = some v := by
  simp [apure, hx, hy, abin, hv]
theorem v_add {a b : Int} (hx : opnd s x = some (.int .i64 a)) (hy : opnd s y = some (.int .i64 b)) (h1 : -9223372036854775808 ≤ a + b) (h2 : a + b ≤ 9223372036854775807) : apure P s ⟨some d, .binOp .add t x y yt, ty, pos, af, g⟩ = some (.int .i64 (a + b)) :=
  v_int hx hy (by simp [aint, kwrap_in (krange_i64 h1 h2)])
theorem v_sub {a b : Int} (hx : opnd s x = some (.int .i64 a)) (hy : opnd s y = some (.int .i64 b)) (h1 : -9223372036854775808 ≤ a - b) (h2 : a - b ≤ 9223372036854775807) : apure P s ⟨some d, .binOp .sub t x y yt, ty, pos, af, g⟩ = some (.int .i64 (a - b)) :=
  v_int hx hy (by simp [aint, kwrap_in (krange_i64 h1 h2)])
theorem v_mul {a b : Int} (hx : opnd s x = some (.int .i64 a)) (hy : opnd s y = some (.int .i64 b)) (h1 : -9223372036854775808 ≤ a * b) (h2 : a * b ≤ 9223372036854775807) : apure P s ⟨some d, .binOp .mul t x y yt, ty, pos, af, g⟩ = some (.int .i64 (a * b)) :=
  v_int hx hy (by simp [aint, kwrap_in (krange_i64 h1 h2)])
theorem v_inc {i : Nat} (hx : opnd s x = some (.int .i64 i)) (h2 : i < 9223372036854775807) : apure P s ⟨some d, .binOp .add t x (.const (.int .i64 1)) yt, ty, pos, af, g⟩ = some (.int .i64 ((i + 1 : Nat) : Int)) :=
  v_add (a := (i : Int)) (b := 1) hx rfl (by omega) (by omega)
theorem opndL_ooL {xs : List Operand} {vs : List Value} (h : xs.all (ook n) = true) (hv : xs.map (oval σ) = vs) : opndL (toL n σ) xs = some vs := by rw [opndL_oval h, hv]
theorem v_makeFunc {f : Fn} {xs ys : Array Operand} {a b : List Value} (hx : opndL s xs.toList = some a) (hy : opndL s ys.toList = some b) : apure P s ⟨some d, .makeFunc f xs ys, ty, pos, af, g⟩ = some (.func f ⟨a⟩ ⟨b⟩) := by
  simp [apure, hx, hy]
theorem v_extract {vs : Array Value} {k : Nat} (hx : opnd s x = some (.tuple vs)) (hv : vs[k]? = some v) : apure P s ⟨some d, .extract x k, ty, pos, af, g⟩ = some v := by simp [apure, hx, aExtract, hv]

theorem D.read {op : Op} {b : Nat} (hg : gok n ops σ g true) (hd : Nat.blt d n = true) (h : aread P (toL n σ) ⟨some d, op, ty, pos, af, g⟩ H.get = some v) (hb : readsOf (toL n σ) ⟨some d, op, ty, pos, af, g⟩ = some b)
    (hL : ∀ q ∈ L, (M.getD i 0).testBit q.1 = true ∨ q.2.2.get b = q.2.1.get b) (hr : AWD P n ops M l (i + 1) ((i, b) :: R) L (up σ d v) H Q) : AWD P n ops M (⟨some d, op, ty, pos, af, g⟩ :: l) i R L σ H Q := by
  obtain ⟨es, σ', H', h1, h2, h3⟩ := hr
  exact ⟨_, σ', H', .read (wanted_gok hg) h hb hL (by rw [putd_upo (d := some d) hd]; exact h1), fr_upo h2, h3⟩
theorem reads_load (hd : ook n x = true) (hp : Pt H (oval σ x) cs) : readsOf (toL n σ) ⟨some d, .load t x, ty, pos, af, g⟩ = some (blkOf (oval σ x)) := by
  obtain ⟨b, off, k, h1, _⟩ := hp
  simp [readsOf, opnd_oval hd, h1, blkOf]
theorem D.load1 {r : List Value} (hg : gok n ops σ g true) (hd : (Nat.blt d n && ook n x) = true) (ha : isAggT P t = some false) (hp : Pt H (oval σ x) (v :: r)) (hR : RS H R) (hL : ∀ q ∈ L, (M.getD i 0).testBit q.1 = true ∨ q.2.2.get (blkOf (oval σ x)) = q.2.1.get (blkOf (oval σ x)))
    (hr : RS H ((i, blkOf (oval σ x)) :: R) → AWD P n ops M l (i + 1) ((i, blkOf (oval σ x)) :: R) L (up σ d v) H Q) : AWD P n ops M (⟨some d, .load t x, ty, pos, af, g⟩ :: l) i R L σ H Q := by
  simp only [Bool.and_eq_true] at hd
  exact D.read hg hd.1 (r_load1 ha (opnd_oval hd.2) hp) (reads_load hd.2 hp) hL (hr (hR.cons hp.blk))
theorem D.loadA {N : Nat} (hg : gok n ops σ g true) (hd : (Nat.blt d n && ook n x) = true) (ha : isAggT P t = some true) (hz : szT P t = some N) (hp : Pt H (oval σ x) cs) (hN : cs.length = N) (hR : RS H R) (hL : ∀ q ∈ L, (M.getD i 0).testBit q.1 = true ∨ q.2.2.get (blkOf (oval σ x)) = q.2.1.get (blkOf (oval σ x)))
    (hr : RS H ((i, blkOf (oval σ x)) :: R) → AWD P n ops M l (i + 1) ((i, blkOf (oval σ x)) :: R) L (up σ d (.agg cs.toArray)) H Q) : AWD P n ops M (⟨some d, .load t x, ty, pos, af, g⟩ :: l) i R L σ H Q := by
  simp only [Bool.and_eq_true] at hd
  exact D.read hg hd.1 (r_loadA ha hz (opnd_oval hd.2) hp hN) (reads_load hd.2 hp) hL (hr (hR.cons hp.blk))
theorem D.loud {op : Op} {dd : Option Tmp} (hg : gok n ops σ g true) (hd : dok n dd = true) (hst : StepOk P ⟨dd, op, ty, pos, af, g⟩ (toL n σ) H v H1) (hR : ∀ r ∈ R, (M.getD i 0).testBit r.1 = true ∨ H1.get r.2 = H.get r.2) (hL : ∀ q ∈ L, (M.getD i 0).testBit q.1 = true)
    (hr : AWD P n ops M l (i + 1) R ((i, H, H1) :: L) (upo σ dd v) H1 Q) : AWD P n ops M (⟨dd, op, ty, pos, af, g⟩ :: l) i R L σ H Q := by
  obtain ⟨es, σ', H', h1, h2, h3⟩ := hr
  exact ⟨_, σ', H', .loud (wanted_gok hg) hst hR hL (by rw [putd_upo hd]; exact h1), fr_upo h2, h3⟩

theorem call_step {f : FuncId} {fo : Operand} {args : Array Operand} {ats : Array TypeId} {al : List Value} {fn : Func} (hd : args.toList.all (ook n) = true) (hf : P.funcs[f]? = some fn) (hnm : (fn.name == "runtime.NumGoroutine" || fn.body.isNone) = false)
    (ha : args.toList.map (oval σ) = al) (hc : ACalls P f al H v H1) : StepOk P ⟨some d, .call ⟨.value (.func f), args, ats⟩, ty, pos, af, g⟩ (toL n σ) H v H1 := by
  refine acall_ok (f := f) (args := al) ?_ hc
  simp [acallee, opnd, hf, hnm, opndL_oval hd, ha]
theorem callv_step {f : FuncId} {fo : Operand} {args : Array Operand} {ats : Array TypeId} {al : List Value} {a b : Array Value} {fn : Func} (hd : (ook n fo && args.toList.all (ook n)) = true) (hfo : oval σ fo = .func (.func f) a b) (hf : P.funcs[f]? = some fn) (hnm : (fn.name == "runtime.NumGoroutine" || fn.body.isNone) = false)
    (ha : args.toList.map (oval σ) = al) (hc : ACalls P f (a.toList ++ al ++ b.toList) H v H1) : StepOk P ⟨some d, .call ⟨.value fo, args, ats⟩, ty, pos, af, g⟩ (toL n σ) H v H1 := by
  simp only [Bool.and_eq_true] at hd
  refine acall_ok (f := f) (args := a.toList ++ al ++ b.toList) ?_ hc
  simp [acallee, opnd_oval' hd.1 hfo, hf, hnm, opndL_oval hd.2, ha]
theorem D.call {f : FuncId} {args : Array Operand} {ats : Array TypeId} {al : List Value} {fn : Func} (hg : gok n ops σ g true) (hd : (Nat.blt d n && args.toList.all (ook n)) = true) (hf : P.funcs[f]? = some fn) (hnm : (fn.name == "runtime.NumGoroutine" || fn.body.isNone) = false)
    (ha : args.toList.map (oval σ) = al) (hc : ACalls P f al H v H1) (he : Ext H H1) (hR : RS H R) (hL : ∀ q ∈ L, (M.getD i 0).testBit q.1 = true) (hr : RS H1 R → AWD P n ops M l (i + 1) R ((i, H, H1) :: L) (up σ d v) H1 Q) :
    AWD P n ops M (⟨some d, .call ⟨.value (.func f), args, ats⟩, ty, pos, af, g⟩ :: l) i R L σ H Q := by
  simp only [Bool.and_eq_true] at hd
  exact D.loud (dd := some d) hg hd.1 (call_step (fo := .func f) hd.2 hf hnm ha hc) (fun r hr' => .inr (he.same (hR r hr'))) hL (hr (hR.ext he))
theorem W.callv {f : FuncId} {fo : Operand} {args : Array Operand} {ats : Array TypeId} {al : List Value} {a b : Array Value} {fn : Func} (hg : gok n ops σ g true) (hd : (Nat.blt d n && (ook n fo && args.toList.all (ook n))) = true) (hfo : oval σ fo = .func (.func f) a b) (hf : P.funcs[f]? = some fn) (hnm : (fn.name == "runtime.NumGoroutine" || fn.body.isNone) = false)
    (ha : args.toList.map (oval σ) = al) (hc : ACalls P f (a.toList ++ al ++ b.toList) H v H1) (hr : AWO P n ops l (up σ d v) H1 Q) : AWO P n ops (⟨some d, .call ⟨.value fo, args, ats⟩, ty, pos, af, g⟩ :: l) σ H Q := by
  rw [Bool.and_eq_true] at hd
  exact .step (wanted_gok hg) hd.1 (callv_step hd.2 hfo hf hnm ha hc) hr
theorem store_step {t : TypeId} {b off N : Nat} {k : ABlk} {dd : Option Tmp} (hd : (ook n x && ook n y) = true) (hz : szT P t = some N) (hx : oval σ x = .pointer (some ⟨b, off, none⟩)) (hy : oval σ y = v) (hb : H.get b = some k)
    (ho : k.own = true) (hs : v.cells.size = N) (hok : okCells v.cells.toList = true) (hl : off + N ≤ k.cells.length) : ∃ H1, SetB H H1 b { k with cells := splice k.cells off v.cells.toList } ∧ StepOk P ⟨dd, .store t x y, ty, pos, af, g⟩ (toL n σ) H undef H1 := by
  simp only [Bool.and_eq_true] at hd
  obtain ⟨inf, hi, rfl⟩ := szT_inv hz
  obtain ⟨H1, h1, h2⟩ := store_set (vs := v.cells.toList) hb ho hok (by simpa [hs] using hl)
  refine ⟨H1, h2, astep_ok (v := undef) (H' := H1) ?_⟩
  simp [astep, apure, aread, aalloc, awrite, oo hd.1 hx, oo hd.2 hy, hi, hs, h1]
theorem D.store {t : TypeId} {b off N : Nat} {k : ABlk} {dd : Option Tmp} (hg : gok n ops σ g true) (hd : (dok n dd && (ook n x && ook n y)) = true) (hz : szT P t = some N) (hx : oval σ x = .pointer (some ⟨b, off, none⟩)) (hy : oval σ y = v) (hb : H.get b = some k)
    (ho : k.own = true) (hs : v.cells.size = N) (hok : okCells v.cells.toList = true) (hl : off + N ≤ k.cells.length) (hR : RS H R) (hne : ∀ r ∈ R, (M.getD i 0).testBit r.1 = true ∨ r.2 ≠ b) (hL : ∀ q ∈ L, (M.getD i 0).testBit q.1 = true)
    (hr : ∀ H1, SetB H H1 b { k with cells := splice k.cells off v.cells.toList } → RS H1 R → AWD P n ops M l (i + 1) R ((i, H, H1) :: L) (upo σ dd undef) H1 Q) : AWD P n ops M (⟨dd, .store t x y, ty, pos, af, g⟩ :: l) i R L σ H Q := by
  rw [Bool.and_eq_true] at hd
  obtain ⟨H1, h2, h3⟩ := store_step (dd := dd) (ty := ty) (pos := pos) (af := af) (g := g) hd.2 hz hx hy hb ho hs hok hl
  exact D.loud hg hd.1 h3 (fun r hr' => (hne r hr').imp (fun h => h) fun h => h2.other _ h) hL (hr H1 h2 (hR.set h2))
theorem W.storeL {t : TypeId} {b off N : Nat} {k : ABlk} {dd : Option Tmp} (hg : gok n ops σ g true) (hd : (dok n dd && (ook n x && ook n y)) = true) (hz : szT P t = some N) (hx : oval σ x = .pointer (some ⟨b, off, none⟩)) (hy : oval σ y = v) (hb : H.get b = some k)
    (ho : k.own = true) (hs : v.cells.size = N) (hok : okCells v.cells.toList = true) (hl : off + N ≤ k.cells.length)
    (hr : ∀ H1, SetB H H1 b { k with cells := splice k.cells off v.cells.toList } → AWO P n ops l (upo σ dd undef) H1 Q) : AWO P n ops (⟨dd, .store t x y, ty, pos, af, g⟩ :: l) σ H Q := by
  rw [Bool.and_eq_true] at hd
  obtain ⟨H1, h2, h3⟩ := store_step (dd := dd) (ty := ty) (pos := pos) (af := af) (g := g) hd.2 hz hx hy hb ho hs hok hl
  exact .step (wanted_gok hg) hd.1 h3 (hr H1 h2)

/-! ### Slices that are made -/
theorem opndP_oo {ps : List (Nat × Operand)} {vs : List (Nat × Value)} (h : (ps.all fun p => ook n p.2) = true) (hv : ps.map (fun p => (p.1, oval σ p.2)) = vs) : opndP (toL n σ) ps = some vs := by
  subst hv
  induction ps with
  | nil => rfl
  | cons p ps ih =>
    simp only [List.all_cons, Bool.and_eq_true] at h
    obtain ⟨i, x⟩ := p
    simp [opndP, opnd_oval h.1, ih h.2]
theorem W.makeSlice {N c1 : Nat} {z : Value} {sz : Nat} (hg : gok n ops σ g true) (hd : (Nat.blt d n && (ook n x && ook n y)) = true) (he : elemT P t = some e) (hz : (P.info? e).bind (·.zero) = some z) (hsz : szT P e = some sz) (hsc : (z.cells.all scalar && (z.cells.size != 0)) = true)
    (hby : ((P.info? e).map (·.bytes)) = some c1) (hx : oval σ x = .int .i64 (N : Int)) (hy : oval σ y = .int .i64 (N : Int)) (hN : N ≤ 16777216) (hb : c1 ≤ 1048576)
    (hr : ∀ b H1, NewB H H1 b ⟨zcells z.cells (N * sz), e, 1, true⟩ → AWO P n ops l (up σ d (.slice (some ⟨b, 0, some 0⟩) N N)) H1 Q) : AWO P n ops (⟨some d, .makeSlice t x y, ty, pos, af, g⟩ :: l) σ H Q := by
  simp only [Bool.and_eq_true] at hd
  obtain ⟨inf, hi, rfl⟩ := szT_inv hsz
  simp only [hi, Option.bind_some, Option.map_some, Option.some.injEq] at hz hby
  subst hby
  refine .step (wanted_gok hg) hd.1 (astep_ok (v := .slice (some ⟨H.next, 0, some 0⟩) N N) (H' := H.push (some ⟨zcells z.cells (N * inf.size), e, 1, true⟩)) ?_) (hr _ _ (.push H _))
  have hbnd : inf.bytes * N ≤ 2 ^ 48 := Nat.le_trans (Nat.mul_le_mul hb hN) (by decide)
  have hbnd' : (inf.bytes : Int) * (N : Int) ≤ 2 ^ 48 := by exact_mod_cast hbnd
  have h47 : (N : Int) ≤ 2 ^ 47 := by omega
  have hdec : (z.cells.all scalar && (z.cells.size != 0) && decide (0 ≤ (N : Int) ∧ (N : Int) ≤ (N : Int) ∧ (N : Int) ≤ 2 ^ 47 ∧ (inf.bytes : Int) * (N : Int) ≤ 2 ^ 48)) = true := by
    rw [hsc, Bool.true_and, decide_eq_true_iff]
    exact ⟨by omega, by omega, h47, hbnd'⟩
  have hal : aalloc P (toL n σ) ⟨some d, .makeSlice t x y, ty, pos, af, g⟩ = some (⟨zcells z.cells (N * inf.size), e, 1, true⟩, .sl N N (some 0)) := by
    simp only [aalloc, elemT_inv he, oo hd.2.1 hx, oo hd.2.2 hy, hi, hz, Option.bind_some, hdec, if_true, Int.toNat_natCast]
  simp only [astep, apure, aread, hal, MK.val]
theorem W.buildSlice {N : Nat} {ps : Array (Nat × Operand)} {vs : List (Nat × Value)} {z : Value} {sz : Nat} {r : Array Value} (hg : gok n ops σ g true) (hd : Nat.blt d n = true) (he : elemT P t = some e) (hz : (P.info? e).bind (·.zero) = some z) (hsz : szT P e = some sz) (hsc : (z.cells.all scalar && (z.cells.size != 0) && decide (N * sz ≤ 2 ^ 24)) = true)
    (hps : opndP (toL n σ) ps.toList = some vs) (hf : Instr.fill (fun j => some (j * sz, sz)) (zcells z.cells (N * sz)).toArray vs = some r)
    (hr : ∀ b H1, NewB H H1 b ⟨r.toList, e, 1, true⟩ → AWO P n ops l (up σ d (.slice (some ⟨b, 0, some 0⟩) N N)) H1 Q) : AWO P n ops (⟨some d, .buildSlice t N ps, ty, pos, af, g⟩ :: l) σ H Q := by
  obtain ⟨inf, hi, rfl⟩ := szT_inv hsz
  simp only [hi, Option.bind_some] at hz
  refine .step (wanted_gok hg) hd (astep_ok (v := .slice (some ⟨H.next, 0, some 0⟩) N N) (H' := H.push (some ⟨r.toList, e, 1, true⟩)) ?_) (hr _ _ (.push H _))
  have hal : aalloc P (toL n σ) ⟨some d, .buildSlice t N ps, ty, pos, af, g⟩ = some (⟨r.toList, e, 1, true⟩, .sl N N (some 0)) := by
    simp only [aalloc, elemT_inv he, hi, hz, Option.bind_some, hsc, if_true, hps, hf, Option.map_some]
  simp only [astep, apure, aread, hal, MK.val]
end
end
end Go.Am
