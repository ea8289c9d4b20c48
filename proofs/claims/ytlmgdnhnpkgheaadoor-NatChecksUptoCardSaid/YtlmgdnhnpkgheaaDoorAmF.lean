/- The operations that read the heap, make a block, or write. -/
import Derived.Test.YtlmgdnhnpkgheaaDoorAmE
import Derived.Laws.BytesArg
namespace Go.Am
open Go
noncomputable section
set_option linter.unusedSimpArgs false
set_option linter.unusedVariables false

/-! ### Reading -/
def aload (P : Program) (t : TypeId) (v : Value) (G : Nat → Option ABlk) : Option Value :=
  match v with
  | .pointer (some ⟨b, off, none⟩) => (G b).bind fun x =>
    match isAggT P t with
    | some true => (P.info? t).bind fun i => if off + i.size ≤ x.cells.length then some (.agg ((x.cells.drop off).take i.size).toArray) else none
    | some false => x.cells[off]?
    | none => none
  | _ => none
def bytesOfCells : List Value → Option (List Int)
  | [] => some []
  | .int .u8 n :: r => (bytesOfCells r).map (n :: ·)
  | _ => none
def aBytesStr (P : Program) (src dst : TypeId) (v : Value) (G : Nat → Option ABlk) : Option Value :=
  match v, P.underlying src, P.underlying dst with
  | .slice (some ⟨b, off, _⟩) l _, some (.slice e), some .string => (G b).bind fun x =>
    match P.underlying e with
    | some (.int .u8) => if off + l ≤ x.cells.length then (bytesOfCells ((x.cells.drop off).take l)).map fun xs => .string (strOfNums xs) else none
    | _ => none
  | .slice none 0 0, some (.slice e), some .string =>
    match P.underlying e with
    | some (.int .u8) => some (.string ⟨#[]⟩)
    | _ => none
  | _, _, _ => none
/-- The block that a reading operation looks into. -/
def readsOf (s : List Value) (o : Oper) : Option Nat :=
  match o.op with
  | .load _ x => match opnd s x with | some (.pointer (some a)) => some a.block | _ => none
  | .convert _ _ x => match opnd s x with | some (.slice (some a) _ _) => some a.block | _ => none
  | _ => none
def aread (P : Program) (s : List Value) (o : Oper) (G : Nat → Option ABlk) : Option Value :=
  match o.op with
  | .load t x => (opnd s x).bind fun v => aload P t v G
  | .convert src dst x => (opnd s x).bind fun v => aBytesStr P src dst v G
  | _ => none

/-! ### New blocks -/
inductive MK where
  | ptr
  | sl (l c : Nat) (tg : Option Nat)
def MK.val : MK → Nat → Value
  | .ptr, b => .pointer (some ⟨b, 0, none⟩)
  | .sl l c tg, b => .slice (some ⟨b, 0, tg⟩) l c
def zcells (z : Array Value) (n : Nat) : List Value := if z.size = 1 then List.replicate n (z[0]!) else ((Array.range n).map (fun i => z[i % z.size]!)).toList
def aalloc (P : Program) (s : List Value) (o : Oper) : Option (ABlk × MK) :=
  match o.op with
  | .alloc e => (P.info? e).bind fun i => i.zero.bind fun z => if z.cells.all scalar then some (⟨z.cells.toList, e, 1, true⟩, .ptr) else none
  | .box e x => (opnd s x).map fun v => (⟨v.cells.toList, e, 1, true⟩, .ptr)
  | .buildSlice t n ps => match P.underlying t with
    | some (.slice e) => (P.info? e).bind fun i => i.zero.bind fun z => if z.cells.all scalar && (z.cells.size != 0) && decide (n * i.size ≤ 2 ^ 24) then
        (opndP s ps.toList).bind fun l => (Instr.fill (fun j => some (j * i.size, i.size)) (zcells z.cells (n * i.size)).toArray l).map fun r => (⟨r.toList, e, 1, true⟩, .sl n n (some 0)) else none
    | _ => none
  | .makeSlice t lx cx => match P.underlying t, opnd s lx, opnd s cx with
    | some (.slice e), some (.int _ l), some (.int _ c) => (P.info? e).bind fun i => i.zero.bind fun z =>
      if z.cells.all scalar && (z.cells.size != 0) && decide (0 ≤ l ∧ l ≤ c ∧ c ≤ 2 ^ 47 ∧ i.bytes * c ≤ 2 ^ 48) then some (⟨zcells z.cells (c.toNat * i.size), e, 1, true⟩, .sl l.toNat c.toNat (some 0)) else none
    | _, _, _ => none
  | .convert src dst x => match P.underlying src, P.underlying dst, opnd s x with
    | some .string, some (.slice e), some (.string str) => match P.underlying e with
      | some (.int .u8) => some (⟨str.data.toList.map fun b => .int .u8 b.toNat, e, 1, false⟩, .sl str.size str.size none)
      | _ => none
    | _, _, _ => none
  | _ => none

/-! ### Writing -/
/-- What append and copy take: how many elements, and their cells. -/
def asrc (v : Value) (size : Nat) (G : Nat → Option ABlk) (cut : Option Nat) : Option (Nat × List Value) :=
  match v with
  | .slice none 0 _ => some (0, [])
  | .slice (some ⟨b, off, _⟩) n _ => let n' := (cut.map (Nat.min n)).getD n
    if n' = 0 then some (n, []) else (G b).bind fun x => if off + n' * size ≤ x.cells.length then some (n, (x.cells.drop off).take (n' * size)) else none
  | .string str => let n' := (cut.map (Nat.min str.size)).getD str.size
    if size = 1 then some (str.size, (str.data.toList.take n').map fun b => .int .u8 b.toNat) else none
  | _ => none
def notInt (P : Program) (t : TypeId) : Bool := match P.underlying t with | some (.int _) => false | some _ => true | none => false
def aappend (P : Program) (ts : Array TypeId) (sv xv : Value) (H : AH) : Option (Value × AH) :=
  match ts[0]?, ts[1]? with
  | some t, some xt =>
    match P.underlying t with
    | some (.slice e) => (P.info? e).bind fun i => i.zero.bind fun z =>
      if notInt P xt && decide (z.cells.size = i.size) && decide (0 < i.size) then
        (asrc xv i.size H.get none).bind fun (n, new) =>
          match sv with
          | .slice none 0 0 =>
            if n = 0 then some (sv, H)
            else if n * i.bytes ≤ 2 ^ 47 ∧ n ≤ 2 ^ 47 then some (.slice (some ⟨H.next, 0, none⟩) n n, H.push (some ⟨new, e, i.size, true⟩)) else none
          | .slice (some ⟨b, off, tg⟩) l c =>
            if n = 0 ∧ l ≤ c then some (sv, H) else
            (H.get b).bind fun x =>
              if l + n ≤ c then
                if x.own && okCells new && decide (off + (l + n) * i.size ≤ x.cells.length) then some (.slice (some ⟨b, off, tg⟩) (l + n) c, H.set b (some { x with cells := splice x.cells (off + l * i.size) new })) else none
              else if l ≤ c ∧ (l + n) * i.bytes ≤ 2 ^ 47 ∧ (l + n) ≤ 2 ^ 47 ∧ off + c * i.size ≤ x.cells.length then
                match tg with
                | some _ => some (.slice (some ⟨H.next, 0, none⟩) (l + n) (l + n), H.push (some ⟨(x.cells.drop off).take (l * i.size) ++ new, e, i.size, true⟩))
                | none => if x.own && decide (x.sz = i.size) && okCells new then some (.slice (some ⟨H.next, 0, none⟩) (l + n) (l + n), (H.set b none).push (some ⟨(x.cells.drop off).take (l * i.size) ++ new, e, i.size, true⟩)) else none
              else none
          | _ => none
      else none
    | _ => none
  | _, _ => none
def awriteAt (H : AH) (b off : Nat) (vs : List Value) : Option AH :=
  (H.get b).bind fun x => if x.own && okCells vs && decide (off + vs.length ≤ x.cells.length) then some (H.set b (some { x with cells := splice x.cells off vs })) else none
def acopy (P : Program) (ts : Array TypeId) (dv xv : Value) (H : AH) : Option (Value × AH) :=
  match ts[0]? with
  | some t => match P.underlying t with
    | some (.slice e) => (P.info? e).bind fun i =>
      match dv with
      | .slice (some ⟨b, off, _⟩) dl _ =>
        (asrc xv i.size H.get (some dl)).bind fun (n, new) => if new = [] then (if n = 0 ∨ dl = 0 then some (.int .i64 0, H) else none) else
          (awriteAt H b off new).map fun H' => (.int .i64 (Nat.min n dl), H')
      | _ => none
    | _ => none
  | none => none
def aclear (P : Program) (ts : Array TypeId) (v : Value) (H : AH) : Option (Value × AH) :=
  match ts[0]? with
  | some t => match v, P.underlying t with
    | .slice none _ _, some _ => some (.tuple #[], H)
    | .slice (some _) 0 _, some _ => some (.tuple #[], H)
    | .slice (some ⟨b, off, _⟩) n _, some (.slice e) => (P.info? e).bind fun i => i.zero.bind fun z =>
      if z.cells.all scalar && (z.cells.size != 0) then (awriteAt H b off (zcells z.cells (n * z.cells.size))).map fun H' => (.tuple #[], H') else none
    | _, _ => none
  | none => none
def awrite (P : Program) (s : List Value) (o : Oper) (H : AH) : Option (Value × AH) :=
  match o.op with
  | .store t x y => (opnd s x).bind fun p => (opnd s y).bind fun v => (P.info? t).bind fun i =>
    match p with
    | .pointer (some ⟨b, off, none⟩) => if v.cells.size = i.size then (awriteAt H b off v.cells.toList).map fun H' => (undef, H') else none
    | _ => none
  | .call c => match c.callee with
    | .builtin .append => match c.args.toList with
      | [x, y] => (opnd s x).bind fun v => (opnd s y).bind fun u => aappend P c.argTypes v u H
      | _ => none
    | .builtin .copy => match c.args.toList with
      | [x, y] => (opnd s x).bind fun v => (opnd s y).bind fun u => acopy P c.argTypes v u H
      | _ => none
    | .builtin .clear => match c.args.toList with
      | [x] => (opnd s x).bind fun v => aclear P c.argTypes v H
      | _ => none
    | _ => none
  | _ => none

/-! ### Reading is right -/
section
variable {P : Program} {ι : Ren} {s : List Value} {a : Act} {o : Oper} {G : Nat → Option ABlk} {n : Nat} {w : World}

theorem aload_ok {t : TypeId} {v v' r : Value} (h : aload P t v G = some r) (hv : VR ι v v') (hS : Sim n ι G w) : ∃ r', (Instr.loadAt t v').run P w = .ok r' w ∧ VR ι r r' := by
  unfold aload at h
  split at h
  · rename_i b off
    obtain ⟨cb, co, ex, hb, rfl⟩ := hv.ptr_inv
    cases hG : G b with
    | none => simp [hG] at h
    | some x =>
      simp only [hG, Option.bind_some] at h
      have hB := hS.blk b x cb co ex hG hb
      split at h
      · rename_i ha
        cases hi : P.info? t with
        | none => simp [hi] at h
        | some i =>
          simp only [hi, Option.bind_some] at h
          split at h
          · rename_i hl
            cases h
            obtain ⟨cs, e1, e2⟩ := read_ok (P := P) hB off i.size hl
            refine ⟨.agg cs.toArray, ?_, .agg e2⟩
            unfold isAggT at ha
            split at ha
            all_goals first
              | (cases ha; done)
              | (rename_i hu; simp [Instr.loadAt, Instr.sureAddr, loadVar, isAgg, run_underlying hu, sizeOf, typeInfo, hi, e1])
          · cases h
      · rename_i ha
        obtain ⟨v', e1, e2⟩ := hB.cell h
        refine ⟨v', ?_, e2⟩
        unfold isAggT at ha
        split at ha
        · cases ha
        · cases ha
        · rename_i d h1 h2 hu
          cases d <;> first
            | (exact absurd rfl (h1 _))
            | (exact absurd rfl (h2 _ _))
            | simp [Instr.loadAt, Instr.sureAddr, loadVar, isAgg, run_underlying hu, e1]
        · cases ha
      · cases h
  · cases h

theorem bytesOfCells_eq : ∀ {l : List Value} {xs : List Int}, bytesOfCells l = some xs → l = xs.map (.int .u8)
  | [], xs, h => by simp [bytesOfCells] at h; subst h; rfl
  | .int .u8 n :: r, xs, h => by
    simp only [bytesOfCells] at h
    cases hr : bytesOfCells r with
    | none => simp [hr] at h
    | some ys => simp [hr] at h; subst h; simp [bytesOfCells_eq hr]
  | .int .i8 _ :: _, _, h | .int .i16 _ :: _, _, h | .int .i32 _ :: _, _, h | .int .i64 _ :: _, _, h | .int .u16 _ :: _, _, h | .int .u32 _ :: _, _, h | .int .u64 _ :: _, _, h => by simp [bytesOfCells] at h
  | .bool _ :: _, _, h | .float _ _ :: _, _, h | .complex _ _ _ :: _, _, h | .string _ :: _, _, h | .pointer _ :: _, _, h | .slice _ _ _ :: _, _, h | .map _ :: _, _, h | .chan _ :: _, _, h | .func _ _ _ :: _, _, h | .nilFunc :: _, _, h | .iface _ _ :: _, _, h | .nilIface :: _, _, h | .agg _ :: _, _, h | .tuple _ :: _, _, h => by simp [bytesOfCells] at h

theorem aBytesStr_ok {src dst : TypeId} {v v' r : Value} (h : aBytesStr P src dst v G = some r) (hv : VR ι v v') (hS : Sim n ι G w) : ∃ r', (convert src dst v').run P w = .ok r' w ∧ VR ι r r' := by
  unfold aBytesStr at h
  split at h
  · rename_i b off tg l c e hs hd
    obtain ⟨cb, co, ex, o', c', hb, rfl, htg, hcs⟩ := hv.sl_inv
    cases hG : G b with
    | none => simp [hG] at h
    | some x =>
      simp only [hG, Option.bind_some] at h
      have hB := hS.blk b x cb co ex hG hb
      split at h
      · rename_i he
        split at h
        · rename_i hl
          cases hx : bytesOfCells ((x.cells.drop off).take l) with
          | none => simp [hx] at h
          | some xs =>
            simp [hx] at h
            subst h
            have heq := bytesOfCells_eq hx
            have hlen : xs.length = l := by have := congrArg List.length heq; simp at this; omega
            refine ⟨_, run_convert_bytes_arg w src e hs he cb o' l c' xs hlen (fun j hj => ?_) dst hd, .scal rfl⟩
            have ho : o' = co + off := by
              rcases hcs with ⟨_, h, _⟩ | ⟨_, h, _⟩ | ⟨h, _, _⟩
              · exact h
              · exact h
              · omega
            subst ho
            have hj' : x.cells[off + j]? = some (.int .u8 (xs.getD j 0)) := by
              have := congrArg (fun q => q[j]?) heq
              simp only [List.getElem?_take, if_pos hj, List.getElem?_drop, List.getElem?_map] at this
              rw [this, List.getD_eq_getElem?_getD, List.getElem?_eq_getElem (by omega)]; rfl
            obtain ⟨v', e1, e2⟩ := hB.cell hj'
            rw [Nat.add_assoc, e1, e2.scalar_eq rfl]
        · cases h
      · cases h
  · rename_i e hs hd
    have := hv.scalar_eq rfl; subst this
    split at h
    · rename_i he
      cases h
      exact ⟨_, run_convert_bytes_nil w src e hs he 0 0 dst hd, .scal rfl⟩
    · cases h
  · cases h

theorem aread_ok {v : Value} (h : aread P s o G = some v) (hS : Sim n ι G w) (hor : OR ι s a o) : ∃ v', (execOp a.eval o).run P w = .ok (.value v') w ∧ VR ι v v' := by
  unfold aread at h
  split at h
  · rename_i t x ho
    obtain ⟨u, hu, h⟩ := Option.bind_eq_some_iff.1 h
    obtain ⟨r, e1, e2⟩ := aload_ok h (hor x (by simp [ho, Op.operands]) u hu) hS
    exact ⟨r, by simp [execOp, ho, e1], e2⟩
  · rename_i src dst x ho
    obtain ⟨u, hu, h⟩ := Option.bind_eq_some_iff.1 h
    obtain ⟨r, e1, e2⟩ := aBytesStr_ok h (hor x (by simp [ho, Op.operands]) u hu) hS
    exact ⟨r, by simp [execOp, ho, e1], e2⟩
  · cases h
/-- Only the block that is looked into counts. -/
theorem aread_congr {G' : Nat → Option ABlk} (h : ∀ b, readsOf s o = some b → G' b = G b) : aread P s o G' = aread P s o G := by
  unfold aread readsOf at *
  split
  · rename_i t x ho
    simp only [ho] at h
    cases hq : opnd s x with
    | none => rfl
    | some v =>
      simp only [hq, Option.bind_some] at h ⊢
      unfold aload
      split
      · rename_i b off; rw [h b rfl]
      · rfl
  · rename_i src dst x ho
    simp only [ho] at h
    cases hq : opnd s x with
    | none => rfl
    | some v =>
      simp only [hq, Option.bind_some] at h ⊢
      unfold aBytesStr
      split
      · rw [h _ rfl]
      · rfl
      · rfl
  · rfl

/-! ### A new block is right -/
theorem zcells_eq (z : Array Value) (n : Nat) (hz : z.size ≠ 0) : (Array.range n).map (fun i => z[i % z.size]!) = (zcells z n).toArray := by
  unfold zcells
  split
  · rename_i h
    apply Array.ext'
    simp only [Array.toList_map, Array.toList_range]
    apply List.ext_getElem
    · simp
    · intro i h1 h2
      simp [h, Nat.mod_one]
  · apply Array.ext'; simp
theorem zcells_length (z : Array Value) (n : Nat) : (zcells z n).length = n := by unfold zcells; split <;> simp
theorem zcells_scalar {z : Value} (hall : z.cells.all scalar = true) (hz : z.cells.size ≠ 0) (n : Nat) : (zcells z.cells n).all scalar = true := by
  have hs : ∀ i, i < z.cells.size → scalar (z.cells[i]!) = true := fun i hi => by
    have := Array.all_eq_true_iff_forall_mem.1 hall (z.cells[i]) (Array.getElem_mem hi)
    rw [getElem!_pos z.cells i hi]; exact this
  unfold zcells
  split
  · rename_i h1
    have := hs 0 (by omega)
    simp only [List.all_replicate, this]; split <;> rfl
  · simp only [Array.toList_map, List.all_map, List.all_eq_true]
    intro i _
    exact hs _ (Nat.mod_lt _ (by omega))

theorem wrap_small {x : Int} (h0 : 0 ≤ x) (h1 : x ≤ 2 ^ 47) : IntKind.i64.wrap x = x := by
  have e : x % 2 ^ 64 = x := Int.emod_eq_of_lt h0 (by omega)
  have hlt : ¬ (2 ^ 63 ≤ x) := by omega
  simp [IntKind.wrap, IntKind.bits, IntKind.signed] at *
  rw [e, if_neg (by omega)]

/-- What a new block is: the machine makes it, behind all that there is; 'b' is the number that it gets. -/
theorem aalloc_ok {blk : ABlk} {k : MK} (h : aalloc P s o = some (blk, k)) (hS : Sim n ι G w) (hor : OR ι s a o) {b m : Nat} (hι : ι b = none) (hb : b < m) (hnm : n ≤ m) :
    ∃ ex v' w', (execOp a.eval o).run P w = .ok (.value v') w' ∧ VR (upd ι b (some (w.heap.size, 0, ex))) (k.val b) v' ∧ Sim m (upd ι b (some (w.heap.size, 0, ex))) (upd G b (some blk)) w' ∧
      ∀ j, j ≤ b → Evo j ι G w (upd ι b (some (w.heap.size, 0, ex))) (upd G b (some blk)) w' := by
  unfold aalloc at h
  split at h
  · rename_i e ho
    obtain ⟨i, hi, h⟩ := Option.bind_eq_some_iff.1 h
    obtain ⟨z, hz, h⟩ := Option.bind_eq_some_iff.1 h
    split at h
    · rename_i hc
      cases h
      refine ⟨0, .pointer (some ⟨w.heap.size, 0, none⟩), _, by simp [execOp, ho, Instr.alloc, zeroValue, typeInfo, hi, hz, newVar, newRow]; rfl, .ptr (co := 0) (upd_same _ _ _), ?_⟩
      exact hS.alloc hι hb hnm rfl rfl rfl rfl (fun j v hj => ⟨v, by simpa using hj, .scal (by
        have := Array.all_eq_true_iff_forall_mem.1 hc v (by simpa using List.mem_of_getElem? hj); exact this)⟩) (fun _ => ⟨by simp, rfl⟩)
    · cases h
  · rename_i e x ho
    cases hx : opnd s x with
    | none => simp [hx] at h
    | some v =>
      simp [hx] at h
      obtain ⟨rfl, rfl⟩ := h
      have hv := (hor x (by simp [ho, Op.operands]) v hx).cells
      refine ⟨0, .pointer (some ⟨w.heap.size, 0, none⟩), _, by simp [execOp, ho, Instr.box, newVar, newRow]; rfl, .ptr (co := 0) (upd_same _ _ _), ?_⟩
      exact hS.alloc hι hb hnm rfl rfl rfl rfl (fun j u hj => by
        obtain ⟨y, h1, h2⟩ := hv.get j u (by simpa using hj)
        exact ⟨y, by simpa using h1, h2⟩) (fun _ => ⟨by have := hv.length; simp at this ⊢; omega, rfl⟩)
  · rename_i t len ps ho
    split at h
    · rename_i e hu
      obtain ⟨i, hi, h⟩ := Option.bind_eq_some_iff.1 h
      obtain ⟨z, hz, h⟩ := Option.bind_eq_some_iff.1 h
      split at h
      · rename_i hc
        simp only [Bool.and_eq_true, decide_eq_true_eq, bne_iff_ne] at hc
        obtain ⟨⟨hc1, hc2⟩, hc3⟩ := hc
        obtain ⟨l, hl, h⟩ := Option.bind_eq_some_iff.1 h
        cases hf : Instr.fill (fun j => some (j * i.size, i.size)) (zcells z.cells (len * i.size)).toArray l with
        | none => simp [hf] at h
        | some r =>
          simp [hf] at h
          obtain ⟨rfl, rfl⟩ := h
          have hP := opndP_ok (a := a) hl (ι := ι) (fun x hx u hu => hor x.2 (by simp only [ho, Op.operands]; exact List.mem_toArray.2 (List.mem_map.2 ⟨x, hx, rfl⟩)) u hu)
          obtain ⟨r', e1, e2⟩ := fill_VR _ l _ _ (zcells z.cells (len * i.size)).toArray r hP (VRs.of_scalar (zcells_scalar hc1 hc2 _)) hf
          refine ⟨0, .slice (some ⟨w.heap.size, 0, none⟩) len len, { w with heap := w.heap.push (.cells r' e) }, ?_, .slT (co := 0) (upd_same _ _ _), ?_⟩
          · have hle : ¬ (len * i.size > 2 ^ 24) := by omega
            have e1' : Instr.fill (fun j => some (j * i.size, i.size)) (zcells z.cells (len * i.size)).toArray (ps.map fun p => (p.1, a.eval p.2)).toList = some r' := by simpa using e1
            by_cases h0 : len * i.size = 0
            · have hz0 : (Array.range (len * i.size)).map (fun j => (#[] : Array Value)[j % (#[] : Array Value).size]!) = (zcells z.cells (len * i.size)).toArray := by
                rw [h0]; unfold zcells; split <;> simp
              rw [h0] at e1' hz0 hle
              simp only [execOp, ho, Instr.buildSlice, Sem.run_bind, run_underlying hu, sizeOf, typeInfo, run_program, Result.andThen_ok, hi, Sem.run_pure, h0]
              simp only [Nat.not_lt_zero, gt_iff_lt, if_false, if_true, Sem.run_bind, Sem.run_pure, Result.andThen_ok, Nat.reducePow]
              rw [hz0, e1']
              simp [newRow]
            · simp only [execOp, ho, Instr.buildSlice, Sem.run_bind, run_underlying hu, sizeOf, typeInfo, run_program, Result.andThen_ok, hi, Sem.run_pure]
              rw [if_neg hle, if_neg h0]
              simp only [zeroValue, typeInfo, Sem.run_bind, run_program, Result.andThen_ok, hi, hz, Sem.run_pure]
              rw [zcells_eq _ _ hc2, e1']
              simp [newRow]
          · exact hS.alloc hι hb hnm rfl rfl rfl rfl (fun j u hj => by
              obtain ⟨y, h1, h2⟩ := e2.get j u hj
              exact ⟨y, by simpa using h1, h2⟩) (fun _ => ⟨by have := e2.length; simp at this ⊢; omega, rfl⟩)
      · cases h
    · cases h
  · rename_i t lx cx ho
    split at h
    · rename_i e kl l kc c hu hl hc
      obtain ⟨i, hi, h⟩ := Option.bind_eq_some_iff.1 h
      obtain ⟨z, hz, h⟩ := Option.bind_eq_some_iff.1 h
      split at h
      · rename_i hcond
        simp only [Bool.and_eq_true, decide_eq_true_eq, bne_iff_ne] at hcond
        obtain ⟨⟨hc1, hc2⟩, h0, hlc, hc47, hc48⟩ := hcond
        cases h
        have el := (hor lx (by simp [ho, Op.operands]) _ hl).scalar_eq rfl
        have ec := (hor cx (by simp [ho, Op.operands]) _ hc).scalar_eq rfl
        refine ⟨0, .slice (some ⟨w.heap.size, 0, none⟩) l.toNat c.toNat, { w with heap := w.heap.push (.cells (zcells z.cells (c.toNat * i.size)).toArray e) }, ?_, .slT (co := 0) (upd_same _ _ _), ?_⟩
        · have wl := wrap_small h0 (by omega)
          have wc := wrap_small (x := c) (by omega) (by omega)
          have hn : ¬ (c < 0) := by omega
          have hn2 : ¬ (2 ^ 48 < (i.bytes : Int) * c) := by omega
          have hn3 : ¬ (l < 0) := by omega
          have hn4 : ¬ (c < l) := by omega
          simp only [execOp, ho, Instr.makeSlice, Sem.run_bind, run_underlying hu, Result.andThen_ok, el, ec, asInt, asIntOf, Sem.run_pure, sizeOf, typeInfo, run_program, hi, wl, wc]
          have hcnd : (decide (c < 0) || decide ((i.bytes : Int) * c > 2 ^ 48) || decide (l < 0) || decide (l > c)) = false := by simp; omega
          rw [if_neg (by simpa using hcnd)]
          simp only [Sem.run_bind, Sem.run_pure, Result.andThen_ok, run_askRoom, sizeOf, typeInfo, run_program, hi]
          by_cases hz0 : c.toNat * i.size = 0
          · rw [if_pos hz0]
            have hzz : (Array.range (c.toNat * i.size)).map (fun j => (#[] : Array Value)[j % (#[] : Array Value).size]!) = (zcells z.cells (c.toNat * i.size)).toArray := by
              rw [hz0]; unfold zcells; split <;> simp
            simp only [Sem.run_pure, Result.andThen_ok, Sem.run_bind]
            rw [hzz]
            simp [newRow]
          · rw [if_neg hz0]
            simp only [zeroValue, typeInfo, Sem.run_bind, run_program, Result.andThen_ok, hi, hz, Sem.run_pure]
            rw [zcells_eq _ _ hc2]
            simp [newRow]
        · exact hS.alloc hι hb hnm rfl rfl rfl rfl (fun j u hj => ⟨u, by simpa using hj, .scal (by
            have := List.all_eq_true.1 (zcells_scalar hc1 hc2 (c.toNat * i.size)) u (List.mem_of_getElem? hj); exact this)⟩) (fun _ => ⟨by simp [zcells_length], rfl⟩)
      · cases h
    · cases h
  · rename_i src dst x ho
    split at h
    · rename_i e str hs hd hx
      split at h
      · rename_i he
        cases h
        have ex := (hor x (by simp [ho, Op.operands]) _ hx).scalar_eq rfl
        let cap := (Question.appendCap str.size 0 e).cut (w.tape w.drawn (.appendCap str.size 0 e))
        have hcap : str.size ≤ cap := by show str.size ≤ str.size + _; omega
        let arr : Array Value := (str.data.map fun b => .int .u8 b.toNat) ++ Array.replicate (cap - str.size) (.int .u8 0)
        let w1 : World := { w with heap := w.heap.push (.cells arr e (arr.size, arr.size + 1)), drawn := w.drawn + 1 }
        refine ⟨cap - str.size, .slice (some ⟨w.heap.size, 0, none⟩) str.size cap, w1, ?_, ?_, ?_⟩
        · have hf : ({ w with heap := w.heap.push (.cells arr e), drawn := w.drawn + 1 } : World).freeze ⟨w.heap.size, arr.size, none⟩ 1 = w1 := by
            simp only [World.freeze, w1]
            rw [if_neg (by omega)]
            congr 1
            apply Array.ext
            · simp
            · intro j h1 h2
              rw [Array.getElem_modify]
              split
              · rename_i hj; subst hj; simp
              · rename_i hj
                have hjl : j < w.heap.size := by simp at h2; omega
                simp [Array.getElem_push, hjl]
          have hsh : ({ w with heap := w.heap.push (.cells arr e), drawn := w.drawn + 1 } : World).shape? w.heap.size = some (e, arr.size) := by simp [World.shape?]
          simp only [execOp, ho, ex, convert, Sem.run_bind, run_underlying hs, run_underlying hd, run_underlying he, Result.andThen_ok, Conv.stringToBytes, run_choose, Question.forced, Bool.false_eq_true, if_false, newRow, run_newObj, Sem.run_pure, markStringish, run_shape]
          show ((Result.andThen (Result.andThen (Sem.run P (match World.shape? { w with heap := w.heap.push (.cells arr e), drawn := w.drawn + 1 } w.heap.size with | some (_, n) => freeze ⟨w.heap.size, n, none⟩ 1 | x => pure ()) _) _) _) = _)
          rw [hsh]
          simp only [run_freeze, Result.andThen_ok]
          exact congrArg (fun q => Result.ok (Next.value (Value.slice (some ⟨w.heap.size, 0, none⟩) str.size cap)) q) hf
        · have := VR.sl (ι := upd ι b (some (w.heap.size, 0, cap - str.size))) (o := 0) (l := str.size) (c := str.size) (upd_same _ _ _)
          rw [show str.size + (cap - str.size) = cap by omega] at this
          exact this
        · refine hS.alloc hι hb hnm (w1 := w1) (arr := arr) rfl rfl rfl rfl (fun j u hj => ⟨u, ?_, .scal ?_⟩) (fun h => by simp at h)
          · simp only [List.getElem?_map] at hj
            rw [Array.getElem?_append]
            cases hq : str.data.toList[j]? with
            | none => simp [hq] at hj
            | some q =>
              have hlt : j < str.data.size := by
                rcases Nat.lt_or_ge j str.data.size with h | h
                · exact h
                · rw [List.getElem?_eq_none (by simpa using h)] at hq; cases hq
              rw [if_pos (by simpa using hlt)]
              simp [hq] at hj ⊢
              rw [← hj]
              simp at hq
              rw [hq]; exact ⟨q, rfl, rfl⟩
          · simp only [List.getElem?_map] at hj
            cases hq : str.data.toList[j]? with
            | none => simp [hq] at hj
            | some q => simp [hq] at hj; subst hj; rfl
      · cases h
    · cases h
  · cases h
end
end
end Go.Am
