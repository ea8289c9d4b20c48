/- The operations that leave the heap alone and do not read it: one function, and that it is right. -/
import Derived.Test.YtlmgdnhnpkgheaaDoorAmD
namespace Go.Am
open Go
noncomputable section
set_option linter.unusedSimpArgs false
set_option linter.unusedVariables false

def isSel : Op → Bool | .select _ _ => true | _ => false
def agen (P : Program) (s : List Value) (o : Oper) : Option Value :=
  if isSel o.op then none else
  if o.op.operands.all (fun x => match opnd s x with | some v => closed v | none => false) then
    match (execOp (fun x => (opnd s x).getD undef) o).pureRun P with
    | some (.value v) => if closed v then some v else none
    | _ => none
  else none

/-- Whole numbers: cheap ways to what the general rule says. -/
def krange : IntKind → Int → Bool
  | .i8, n => decide (-128 ≤ n) && decide (n ≤ 127)
  | .i16, n => decide (-32768 ≤ n) && decide (n ≤ 32767)
  | .i32, n => decide (-2147483648 ≤ n) && decide (n ≤ 2147483647)
  | .i64, n => decide (-9223372036854775808 ≤ n) && decide (n ≤ 9223372036854775807)
  | .u8, n => decide (0 ≤ n) && decide (n ≤ 255)
  | .u16, n => decide (0 ≤ n) && decide (n ≤ 65535)
  | .u32, n => decide (0 ≤ n) && decide (n ≤ 4294967295)
  | .u64, n => decide (0 ≤ n) && decide (n ≤ 18446744073709551615)
def kwrap (k : IntKind) (n : Int) : Int := bif krange k n then n else k.wrap n
theorem kwrap_eq (k : IntKind) (n : Int) : kwrap k n = k.wrap n := by
  unfold kwrap
  cases h : krange k n with
  | false => rfl
  | true =>
    cases k <;> simp [krange] at h <;> simp [IntKind.wrap, IntKind.bits, IntKind.signed] <;> omega
def aint (op : BinOp) (k : IntKind) (a b : Int) : Option Value :=
  match op with
  | .add => some (.int k (kwrap k (a + b)))
  | .sub => some (.int k (kwrap k (a - b)))
  | .mul => some (.int k (kwrap k (a * b)))
  | .quo => if b = 0 then none else some (.int k (kwrap k (a.tdiv b)))
  | .rem => if b = 0 then none else some (.int k (a.tmod b))
  | .eql => some (.bool (a == b))
  | .neq => some (.bool (a != b))
  | .lss => some (.bool (decide (a < b)))
  | .leq => some (.bool (decide (a ≤ b)))
  | .gtr => some (.bool (decide (a > b)))
  | .geq => some (.bool (decide (a ≥ b)))
  | _ => none
def abin (op : BinOp) (v u : Value) : Option Value :=
  match v, u with
  | .int k a, .int k' b => if k = k' then aint op k a b else none
  | _, _ => none
def opndO (s : List Value) : Option Operand → Option (Option Value)
  | none => some none
  | some x => (opnd s x).map some
def opndL (s : List Value) : List Operand → Option (List Value)
  | [] => some []
  | x :: xs => (opnd s x).bind fun v => (opndL s xs).map (v :: ·)
def opndP (s : List Value) : List (Nat × Operand) → Option (List (Nat × Value))
  | [] => some []
  | (i, x) :: xs => (opnd s x).bind fun v => (opndP s xs).map ((i, v) :: ·)
def zeroOk (P : Program) (t : TypeId) : Bool := match P.info? t with | some i => (match i.zero with | some z => closed z | none => false) | none => false

def apure (P : Program) (s : List Value) (o : Oper) : Option Value :=
  match o.op with
  | .move x => opnd s x
  | .assign x => opnd s x
  | .pick c x y => match opnd s c with | some (.bool true) => opnd s x | some (.bool false) => opnd s y | _ => none
  | .fieldAddr t x f => (opnd s x).bind (aFieldAddr P t f)
  | .field t x f => (opnd s x).bind (aField P t f)
  | .indexAddr t x i => (opnd s x).bind fun v => (opnd s i).bind fun k => aIndexAddr P t v k
  | .index t x i => (opnd s x).bind fun v => match v with | .agg cs => (opnd s i).bind fun k => aIndex P t (.agg cs) k | _ => agen P s o
  | .slice t x lo hi mx => (opnd s x).bind fun v => match v with
    | .string _ => agen P s o
    | v => (opndO s lo).bind fun l => (opndO s hi).bind fun h => (opndO s mx).bind fun m => aSlice P t v l h m
  | .extract x i => (opnd s x).bind fun v => aExtract v i
  | .build t ps => if zeroOk P t then (opndP s ps.toList).bind fun l => (P.built t l).map .agg else none
  | .makeFunc f xs ys => (opndL s xs.toList).bind fun l => (opndL s ys.toList).map fun m => .func f ⟨l⟩ ⟨m⟩
  | .nilCheck x => (opnd s x).bind aNilCheck
  | .makeInterface t x => (opnd s x).bind (aMkIface P t)
  | .typeAssert x _ t ok => (opnd s x).bind fun v => aAssert P v t ok
  | .binOp op t x y _ => (opnd s x).bind fun v => (opnd s y).bind fun u =>
    match abin op v u with
    | some r => some r
    | none => if closed v && closed u then agen P s o else match op with
    | .eql => (aNil P t v u).map .bool
    | .neq => (aNil P t v u).map fun b => .bool (!b)
    | _ => none
  | .call c => match c.callee with
    | .builtin .len => match c.args.toList with
      | [x] => (opnd s x).bind fun v => match v with
        | .slice (some _) _ _ => (c.argTypes[0]?).bind fun t => aLen P t v
        | _ => agen P s o
      | _ => none
    | .builtin .append => none
    | .builtin .copy => none
    | .builtin .clear => none
    | .builtin _ => agen P s o
    | _ => none
  | .unOp _ _ _ => agen P s o
  | .convert _ _ _ => agen P s o
  | _ => none

section
variable {P : Program} {ι : Ren} {s : List Value} {a : Act} {o : Oper}

theorem agen_ok {v : Value} (h : agen P s o = some v) (hor : OR ι s a o) (w : World) : ∃ v', (execOp a.eval o).run P w = .ok (.value v') w ∧ VR ι v v' := by
  unfold agen at h
  split at h
  · cases h
  · rename_i hsel
    split at h
    · rename_i hall
      split at h
      · rename_i u hp
        split at h
        · rename_i hc
          cases h
          refine ⟨_, ?_, VR.of_closed hc⟩
          have hcon : execOp a.eval o = execOp (fun x => (opnd s x).getD undef) o := by
            refine execOp_congr o (fun cs b e => by rw [e] at hsel; simp [isSel] at hsel) fun x hx => ?_
            have hm := Array.all_eq_true_iff_forall_mem.1 hall x hx
            cases hq : opnd s x with
            | none => rw [hq] at hm; simp at hm
            | some q =>
              rw [hq] at hm
              rw [(hor x hx q hq).closed_eq hm]
              rfl
          rw [hcon]
          exact pureRun_run hp w
        · cases h
      · cases h
    · cases h

theorem opndO_ok {x : Option Operand} {v : Option Value} (h : opndO s x = some v) (hor : ∀ y, x = some y → ∀ u, opnd s y = some u → VR ι u (a.eval y)) : OVR ι v (x.map a.eval) := by
  cases x with
  | none => simp only [opndO] at h; cases h; simp [OVR]
  | some y =>
    simp only [opndO] at h
    cases hq : opnd s y with
    | none => simp [hq] at h
    | some u => simp only [hq, Option.map_some] at h; cases h; exact hor y rfl u hq
theorem opndL_ok : ∀ {xs : List Operand} {l : List Value}, opndL s xs = some l → (∀ x ∈ xs, ∀ v, opnd s x = some v → VR ι v (a.eval x)) → VRs ι l (xs.map a.eval)
  | [], l, h, _ => by simp only [opndL] at h; cases h; exact .nil
  | x :: xs, l, h, hor => by
    simp only [opndL] at h
    cases hx : opnd s x with
    | none => simp [hx] at h
    | some v =>
      cases hr : opndL s xs with
      | none => simp [hx, hr] at h
      | some r =>
        simp [hx, hr] at h
        subst h
        exact .cons (hor x (by simp) v hx) (opndL_ok hr fun y hy => hor y (by simp [hy]))
inductive PVR (ι : Ren) : List (Nat × Value) → List (Nat × Value) → Prop
  | nil : PVR ι [] []
  | cons {i : Nat} {v v' : Value} {l l' : List (Nat × Value)} : VR ι v v' → PVR ι l l' → PVR ι ((i, v) :: l) ((i, v') :: l')
theorem opndP_ok : ∀ {xs : List (Nat × Operand)} {l : List (Nat × Value)}, opndP s xs = some l → (∀ x ∈ xs, ∀ v, opnd s x.2 = some v → VR ι v (a.eval x.2)) → PVR ι l (xs.map fun p => (p.1, a.eval p.2))
  | [], l, h, _ => by simp only [opndP] at h; cases h; exact .nil
  | (i, x) :: xs, l, h, hor => by
    simp only [opndP] at h
    cases hx : opnd s x with
    | none => simp [hx] at h
    | some v =>
      cases hr : opndP s xs with
      | none => simp [hx, hr] at h
      | some r =>
        simp [hx, hr] at h
        subst h
        exact .cons (hor (i, x) (by simp) v hx) (opndP_ok hr fun y hy => hor y (by simp [hy]))

theorem foldl_set_VR : ∀ (l l' : List Value) (k off : Nat) (c c' : Array Value), VRs ι l l' → VRs ι c.toList c'.toList →
    VRs ι ((l.zipIdx k).foldl (fun cs x => cs.setIfInBounds (off + x.2) x.1) c).toList ((l'.zipIdx k).foldl (fun cs x => cs.setIfInBounds (off + x.2) x.1) c').toList
  | _, _, k, off, c, c', .nil, hc => hc
  | _, _, k, off, c, c', .cons (x := x) (y := y) (xs := xs) (ys := ys) h1 h2, hc => by
    simp only [List.zipIdx_cons, List.foldl_cons]
    refine foldl_set_VR xs ys (k + 1) off _ _ h2 ?_
    simpa using hc.set (off + k) h1
theorem fill_VR (place : Nat → Option (Nat × Nat)) : ∀ (l l' : List (Nat × Value)) (c c' r : Array Value), PVR ι l l' → VRs ι c.toList c'.toList → Instr.fill place c l = some r →
    ∃ r', Instr.fill place c' l' = some r' ∧ VRs ι r.toList r'.toList
  | _, _, c, c', r, .nil, hc, h => by simp only [Instr.fill] at h; cases h; exact ⟨c', rfl, hc⟩
  | _, _, c, c', r, .cons (i := i) (v := v) (v' := v') (l := l) (l' := l') hv hl, hc, h => by
    simp only [Instr.fill] at h ⊢
    cases hp : place i with
    | none => simp [hp] at h
    | some q =>
      obtain ⟨off, size⟩ := q
      simp only [hp] at h ⊢
      have e1 : v'.cells.size = v.cells.size := by simpa using hv.cells.length.symm
      have e2 : c'.size = c.size := by simpa using hc.length.symm
      rw [e1, e2]
      split at h
      · cases h
      · rename_i hcond
        rw [if_neg hcond]
        refine fill_VR place l l' _ _ r hl ?_ h
        have := foldl_set_VR (ι := ι) v.cells.toList v'.cells.toList 0 off c c' hv.cells hc
        have e : ∀ (q : Array Value) (arr : Array Value), arr.zipIdx.foldl (fun cs (x : Value × Nat) => cs.setIfInBounds (off + x.2) x.1) q = (arr.toList.zipIdx).foldl (fun cs x => cs.setIfInBounds (off + x.2) x.1) q := fun q arr => by
          rw [← Array.foldl_toList, Array.toList_zipIdx]
        have e1 := e c v.cells
        have e2 := e c' v'.cells
        rw [e1, e2]
        exact this
      
theorem built_VR {t : TypeId} {l l' : List (Nat × Value)} {r : Array Value} (hz : zeroOk P t = true) (hl : PVR ι l l') (h : P.built t l = some r) : ∃ r', P.built t l' = some r' ∧ VRs ι r.toList r'.toList := by
  unfold zeroOk at hz
  split at hz
  · rename_i it hit
    split at hz
    · rename_i z hzz
      have hcz : VRs ι z.cells.toList z.cells.toList := (VR.of_closed hz).cells
      unfold Program.built at h ⊢
      simp only [hit, hzz] at h ⊢
      cases hu : P.underlying t with
      | none => simp [hu] at h
      | some d =>
        simp only [hu] at h ⊢
        cases d <;> try (simp at h; done)
        case array n e =>
          simp only at h ⊢
          cases hie : P.info? e with
          | none => simp [hie] at h
          | some ie => simp only [hie, hzz] at h ⊢; exact fill_VR _ l l' _ _ r hl hcz h
        case struct fields =>
          simp only at h ⊢
          cases hp : fields.toList.mapM (fun f => (P.info? f.type).map fun i => (f.offset, i.size)) with
          | none => simp [hp] at h
          | some places => simp only [hp, hzz] at h ⊢; exact fill_VR _ l l' _ _ r hl hcz h
    · cases hz
  · cases hz

theorem binOp_nil {op : BinOp} {t : TypeId} {x y x' y' : Value} {r : Bool} (hop : op = .eql ∨ op = .neq) (h : aNil P t x y = some r) (hx : VR ι x x') (hy : VR ι y y') (ox oy : Operand) (w : World) :
    (do eqGuard op t ox oy x' y'; binOp op t x' y').run P w = .ok (.bool (if op = .eql then r else !r)) w := by
  have he := aNil_ok h hx hy w
  have hg : (eqGuard op t ox oy x' y').run P w = .ok () w ∧ (binOp op t x' y').run P w = .ok (.bool (if op = .eql then r else !r)) w := by
    unfold aNil at h
    split at h
    all_goals first | (cases h; done) | skip
    all_goals cases h
    · have := hx.scalar_eq rfl; subst this
      cases hy with
      | scal hs => simp [scalar] at hs
      | ptr hb => rcases hop with rfl | rfl <;> simp [eqGuard, binOp, he]
    · have := hy.scalar_eq rfl; subst this
      cases hx with
      | scal hs => simp [scalar] at hs
      | ptr hb => rcases hop with rfl | rfl <;> simp [eqGuard, binOp, he]
    · have := hx.scalar_eq rfl; subst this
      obtain ⟨a', c', rfl⟩ := hy.sl_some
      rcases hop with rfl | rfl <;> simp [eqGuard, binOp, he]
    · have := hy.scalar_eq rfl; subst this
      obtain ⟨a', c', rfl⟩ := hx.sl_some
      rcases hop with rfl | rfl <;> simp [eqGuard, binOp, he]
    · have := hx.scalar_eq rfl; subst this
      cases hy with
      | scal hs => simp [scalar] at hs
      | fn h1 h2 => rcases hop with rfl | rfl <;> simp [eqGuard, binOp, he]
    · have := hy.scalar_eq rfl; subst this
      cases hx with
      | scal hs => simp [scalar] at hs
      | fn h1 h2 => rcases hop with rfl | rfl <;> simp [eqGuard, binOp, he]
    · have := hx.scalar_eq rfl; subst this
      cases hy with
      | scal hs => simp [scalar] at hs
      | ifc hb => rcases hop with rfl | rfl <;> simp [eqGuard, binOp, he]
    · have := hy.scalar_eq rfl; subst this
      cases hx with
      | scal hs => simp [scalar] at hs
      | ifc hb => rcases hop with rfl | rfl <;> simp [eqGuard, binOp, he]
  simp [hg.1, hg.2]

theorem aAssert_ok {x r x' : Value} {xt t : TypeId} {ok : Bool} (h : aAssert P x t ok = some r) (hx : VR ι x x') : PureOk P ι (Instr.typeAssert x' xt t ok) r := by
  unfold aAssert at h
  split at h
  · cases h
  · rename_i d y t' v hne hu
    cases hx with
    | scal hs => simp [scalar] at hs
    | ifc hv =>
      rename_i v'
      split at h
      · rename_i e
        subst e
        cases h
        intro w
        refine ⟨if ok then .tuple #[v', .bool true] else v', ?_, ?_⟩
        · cases d <;> first | (exact absurd rfl (hne _)) | simp [Instr.typeAssert, run_underlying hu]
        · cases ok
          · exact hv
          · exact .tup (xs := [v, .bool true]) (ys := [v', .bool true]) (.cons hv (.cons (.scal rfl) .nil))
      · rename_i e
        split at h
        · rename_i hok
          subst hok
          cases hi : P.info? t with
          | none => simp [hi] at h
          | some i =>
            cases hz : i.zero with
            | none => simp [hi, hz] at h
            | some z =>
              simp only [hi, hz, Option.bind_some] at h
              split at h
              · rename_i hsc
                cases h
                intro w
                refine ⟨.tuple #[z, .bool false], ?_, .tup (xs := [z, .bool false]) (ys := [z, .bool false]) (.cons (.scal hsc) (.cons (.scal rfl) .nil))⟩
                cases d <;> first | (exact absurd rfl (hne _)) | simp [Instr.typeAssert, run_underlying hu, e, zeroValue, typeInfo, hi, hz]
              · cases h
        · cases h
  · cases h

theorem aint_ok {op : BinOp} {k : IntKind} {a b : Int} {r : Value} (h : aint op k a b = some r) (t : TypeId) (ox oy : Operand) (w : World) :
    (do eqGuard op t ox oy (.int k a) (.int k b); binOp op t (.int k a) (.int k b)).run P w = .ok r w ∧ scalar r = true := by
  unfold aint at h
  cases op <;> simp only at h <;> first
    | (cases h; done)
    | (cases h; exact ⟨by simp [eqGuard, binOp, Op.intArith, Op.intCmp, kwrap_eq], rfl⟩)
    | (split at h
       · cases h
       · rename_i hb
         cases h
         exact ⟨by simp [eqGuard, binOp, Op.intDiv, hb, kwrap_eq], rfl⟩)
theorem apure_ok {v : Value} (h : apure P s o = some v) (hor : OR ι s a o) (w : World) : ∃ v', (execOp a.eval o).run P w = .ok (.value v') w ∧ VR ι v v' := by
  have hop : ∀ x ∈ o.op.operands, ∀ v, opnd s x = some v → VR ι v (a.eval x) := hor
  unfold apure at h
  split at h
  · rename_i x ho
    exact ⟨a.eval x, by simp [execOp, ho], hop x (by simp [ho, Op.operands]) v h⟩
  · rename_i x ho
    exact ⟨a.eval x, by simp [execOp, ho], hop x (by simp [ho, Op.operands]) v h⟩
  · rename_i c x y ho
    split at h
    · rename_i hc
      have := (hop c (by simp [ho, Op.operands]) _ hc).scalar_eq rfl
      exact ⟨a.eval x, by simp [execOp, ho, this, asBool], hop x (by simp [ho, Op.operands]) v h⟩
    · rename_i hc
      have := (hop c (by simp [ho, Op.operands]) _ hc).scalar_eq rfl
      exact ⟨a.eval y, by simp [execOp, ho, this, asBool], hop y (by simp [ho, Op.operands]) v h⟩
    · cases h
  · rename_i t x f ho
    obtain ⟨u, hu, h⟩ := Option.bind_eq_some_iff.1 h
    obtain ⟨v', e1, e2⟩ := aFieldAddr_ok h (hop x (by simp [ho, Op.operands]) u hu) w
    exact ⟨v', by simp [execOp, ho, e1], e2⟩
  · rename_i t x f ho
    obtain ⟨u, hu, h⟩ := Option.bind_eq_some_iff.1 h
    obtain ⟨v', e1, e2⟩ := aField_ok h (hop x (by simp [ho, Op.operands]) u hu) w
    exact ⟨v', by simp [execOp, ho, e1], e2⟩
  · rename_i t x i ho
    obtain ⟨u, hu, h⟩ := Option.bind_eq_some_iff.1 h
    obtain ⟨k, hk, h⟩ := Option.bind_eq_some_iff.1 h
    obtain ⟨v', e1, e2⟩ := aIndexAddr_ok h (hop x (by simp [ho, Op.operands]) u hu) (hop i (by simp [ho, Op.operands]) k hk) w
    exact ⟨v', by simp [execOp, ho, e1], e2⟩
  · rename_i t x i ho
    obtain ⟨u, hu, h⟩ := Option.bind_eq_some_iff.1 h
    split at h
    · rename_i cs
      obtain ⟨k, hk, h⟩ := Option.bind_eq_some_iff.1 h
      obtain ⟨v', e1, e2⟩ := aIndex_ok h (hop x (by simp [ho, Op.operands]) _ hu) (hop i (by simp [ho, Op.operands]) k hk) w
      exact ⟨v', by simp [execOp, ho, e1], e2⟩
    · exact agen_ok h hor w
  · rename_i t x lo hi mx ho
    obtain ⟨u, hu, h⟩ := Option.bind_eq_some_iff.1 h
    split at h
    · exact agen_ok h hor w
    · obtain ⟨l, hl, h⟩ := Option.bind_eq_some_iff.1 h
      obtain ⟨hh, hhh, h⟩ := Option.bind_eq_some_iff.1 h
      obtain ⟨m, hm, h⟩ := Option.bind_eq_some_iff.1 h
      obtain ⟨v', e1, e2⟩ := aSlice_ok h (hop x (by simp [ho, Op.operands]) u hu) (opndO_ok hl fun y hy => hop y (by subst hy; simp [ho, Op.operands])) (opndO_ok hhh fun y hy => hop y (by subst hy; simp [ho, Op.operands]))
        (opndO_ok hm fun y hy => hop y (by subst hy; simp [ho, Op.operands])) w
      exact ⟨v', by simp [execOp, ho, e1], e2⟩
  · rename_i x i ho
    obtain ⟨u, hu, h⟩ := Option.bind_eq_some_iff.1 h
    obtain ⟨v', e1, e2⟩ := aExtract_ok (P := P) h (hop x (by simp [ho, Op.operands]) u hu) w
    exact ⟨v', by simp [execOp, ho, e1], e2⟩
  · rename_i t ps ho
    split at h
    · rename_i hz
      obtain ⟨l, hl, h⟩ := Option.bind_eq_some_iff.1 h
      cases hb : P.built t l with
      | none => simp [hb] at h
      | some r =>
        simp [hb] at h
        subst h
        have hP := opndP_ok (a := a) hl (ι := ι) (fun x hx u hu => hop x.2 (by simp only [ho, Op.operands]; exact List.mem_toArray.2 (List.mem_map.2 ⟨x, hx, rfl⟩)) u hu)
        obtain ⟨r', e1, e2⟩ := built_VR hz hP hb
        refine ⟨.agg r', ?_, .agg e2⟩
        have := run_build w t (ps.map fun p => (p.1, a.eval p.2)) r' (by simpa using e1)
        simp only [execOp, ho, Sem.run_bind, this, Result.andThen_ok, Sem.run_pure]
    · cases h
  · rename_i f xs ys ho
    obtain ⟨l, hl, h⟩ := Option.bind_eq_some_iff.1 h
    cases hm : opndL s ys.toList with
    | none => simp [hm] at h
    | some m =>
      simp [hm] at h
      subst h
      have h1 := opndL_ok (a := a) (ι := ι) hl fun x hx => hop x (by simp [ho, Op.operands]; exact .inl (by simpa using hx))
      have h2 := opndL_ok (a := a) (ι := ι) hm fun x hx => hop x (by simp [ho, Op.operands]; exact .inr (by simpa using hx))
      refine ⟨.func f (xs.map a.eval) (ys.map a.eval), by simp [execOp, ho, Instr.makeFunc], ?_⟩
      have e1 : xs.map a.eval = ⟨xs.toList.map a.eval⟩ := by apply Array.ext'; simp
      have e2 : ys.map a.eval = ⟨ys.toList.map a.eval⟩ := by apply Array.ext'; simp
      rw [e1, e2]
      exact .fn h1 h2
  · rename_i x ho
    obtain ⟨u, hu, h⟩ := Option.bind_eq_some_iff.1 h
    have hv := hop x (by simp [ho, Op.operands]) u hu
    unfold aNilCheck at h
    split at h
    · rename_i q
      cases h
      obtain ⟨b, off, tg⟩ := q
      cases hq : a.eval x with
      | pointer z =>
        cases z with
        | none => rw [hq] at hv; cases hv
        | some z => exact ⟨.pointer (some z), by simp [execOp, ho, hq], by rw [hq] at hv; exact hv⟩
      | _ => rw [hq] at hv; cases hv
    · rename_i f xs ys
      cases h
      generalize hq : a.eval x = q at hv
      cases hv with
      | scal hs => simp [scalar] at hs
      | fn h1 h2 => exact ⟨_, by simp only [execOp, ho, hq]; rfl, .fn h1 h2⟩
    · cases h
  · rename_i t x ho
    obtain ⟨u, hu, h⟩ := Option.bind_eq_some_iff.1 h
    obtain ⟨v', e1, e2⟩ := aMkIface_ok h (hop x (by simp [ho, Op.operands]) u hu) w
    exact ⟨v', by simp [execOp, ho, e1], e2⟩
  · rename_i x xt t ok ho
    obtain ⟨u, hu, h⟩ := Option.bind_eq_some_iff.1 h
    obtain ⟨v', e1, e2⟩ := aAssert_ok (xt := xt) h (hop x (by simp [ho, Op.operands]) u hu) w
    exact ⟨v', by simp [execOp, ho, e1], e2⟩
  · rename_i op t x y yt ho
    obtain ⟨u, hu, h⟩ := Option.bind_eq_some_iff.1 h
    obtain ⟨k, hk, h⟩ := Option.bind_eq_some_iff.1 h
    have h1 := hop x (by simp [ho, Op.operands]) u hu
    have h2 := hop y (by simp [ho, Op.operands]) k hk
    split at h
    · rename_i r hab
      cases h
      unfold abin at hab
      split at hab
      · rename_i k1 a1 k2 b1
        split at hab
        · rename_i hkk
          subst hkk
          obtain ⟨e1, e2⟩ := aint_ok (P := P) hab t x y w
          refine ⟨_, ?_, .scal e2⟩
          simp only [execOp, ho]
          rw [Sem.run_bind, h1.scalar_eq rfl, h2.scalar_eq rfl, e1]
          simp
        · cases hab
      · cases hab
    · split at h
      · exact agen_ok h hor w
      split at h
      · cases hn : aNil P t u k with
        | none => simp [hn] at h
        | some r =>
          simp [hn] at h; subst h
          have e1 := binOp_nil (op := .eql) (.inl rfl) hn h1 h2 x y w
          refine ⟨.bool r, ?_, .scal rfl⟩
          simp only [execOp, ho]
          rw [Sem.run_bind, e1]
          simp
      · cases hn : aNil P t u k with
        | none => simp [hn] at h
        | some r =>
          simp [hn] at h; subst h
          have e1 := binOp_nil (op := .neq) (.inr rfl) hn h1 h2 x y w
          refine ⟨.bool (!r), ?_, .scal rfl⟩
          simp only [execOp, ho]
          rw [Sem.run_bind, e1]
          simp
      · cases h
  · rename_i c ho
    split at h
    · rename_i hc
      split at h
      · rename_i x hx
        obtain ⟨u, hu, h⟩ := Option.bind_eq_some_iff.1 h
        split at h
        · rename_i q n cp
          obtain ⟨t, ht, h⟩ := Option.bind_eq_some_iff.1 h
          have hca : c.args = #[x] := by apply Array.ext'; simpa using hx
          have hv := hop x (by simp [ho, Op.operands, Call.operands, hca, hc]) _ hu
          obtain ⟨v', e1, e2⟩ := aLen_ok (ty := o.type) (ts := c.argTypes) ht h hv w
          refine ⟨v', ?_, e2⟩
          simp [execOp, ho, resolve, hc, hca, invoke, builtin, e1]
        · exact agen_ok h hor w
      · cases h
    · cases h
    · cases h
    · cases h
    · exact agen_ok h hor w
    · cases h
  · exact agen_ok h hor w
  · exact agen_ok h hor w
  · cases h
end
end
end Go.Am
