/- The abstract machine's operations that leave its heap alone and do not read it. -/
import Derived.Test.YtlmgdnhnpkgheaaDoorAmA
import Derived.Laws.Tables
namespace Go.Am
open Go
noncomputable section

def _root_.Go.Sem.pureRun {α : Type} (P : Program) : Sem α → Option α
  | .pure a => some a
  | .program k => (k P).pureRun P
  | .mark _ k => k.pureRun P
  | _ => none
theorem pureRun_run {α : Type} {P : Program} {e : Sem α} {a : α} (h : e.pureRun P = some a) (w : World) : e.run P w = .ok a w := by
  induction e with
  | pure b => simp only [Sem.pureRun] at h; cases h; rfl
  | program k ih => simp only [Sem.pureRun] at h; simpa [Sem.run] using ih P h
  | mark m k ih => simp only [Sem.pureRun] at h; simpa [Sem.run] using ih h
  | _ => simp [Sem.pureRun] at h

def opnd (s : List Value) : Operand → Option Value
  | .tmp t => some (rget undef s t)
  | .const v => if closed v then some v else none
  | .func f => some (.func (.func f) #[] #[])
  | .global _ => none

/-- The frame's variables stand for the concrete ones. -/
structure SR (ι : Ren) (s : List Value) (a : Act) : Prop where
  size : a.tmps.size = s.length
  val : ∀ t, VR ι (s.getD t undef) (a.tmps.getD t undef)
  defers : a.defers = []
theorem SR.mono {ι ι' : Ren} {s : List Value} {a : Act} (h : SR ι s a) (hs : ι.sub ι') : SR ι' s a := ⟨h.size, fun t => (h.val t).mono hs, h.defers⟩
theorem SR.opnd {ι : Ren} {s : List Value} {a : Act} (h : SR ι s a) {x : Operand} {v : Value} (hx : opnd s x = some v) : VR ι v (a.eval x) := by
  cases x with
  | tmp t => simp only [Am.opnd, rget_eq] at hx; cases hx; exact h.val t
  | const u =>
    simp only [Am.opnd] at hx
    split at hx
    · rename_i hc; cases hx; exact VR.of_closed hc
    · cases hx
  | func f => simp only [Am.opnd] at hx; cases hx; exact .fn (xs := []) (us := []) .nil .nil
  | global g => simp [Am.opnd] at hx
/-- Only what an operation looks at is asked. -/
def OR (ι : Ren) (s : List Value) (a : Act) (o : Oper) : Prop := ∀ x ∈ o.op.operands, ∀ v, opnd s x = some v → VR ι v (a.eval x)
theorem SR.or {ι : Ren} {s : List Value} {a : Act} (h : SR ι s a) (o : Oper) : OR ι s a o := fun _ _ _ hx => h.opnd hx

def putd (s : List Value) (d : Option Tmp) (v : Value) : List Value := match d with | some d => rset v s d | none => s
theorem putd_some (s : List Value) (d : Tmp) (v : Value) : putd s (some d) v = s.set d v := rset_eq v s d
theorem SR.put {ι : Ren} {s : List Value} {a : Act} (h : SR ι s a) (d : Option Tmp) {v v' : Value} (hv : VR ι v v') : SR ι (putd s d v) (a.put d v') := by
  cases d with
  | none => exact h
  | some d =>
    refine ⟨by simp [putd_some, Act.put, h.size], fun t => ?_, h.defers⟩
    have h1 := h.val t
    simp only [putd_some, Act.put]
    by_cases e : d = t
    · subst e
      by_cases hl : d < s.length
      · have hl' : d < a.tmps.size := by rw [h.size]; exact hl
        simpa [List.getD_eq_getElem?_getD, hl, hl'] using hv
      · have hl' : ¬ d < a.tmps.size := by rw [h.size]; exact hl
        simpa [List.getD_eq_getElem?_getD, hl, hl'] using VR.undef ι
    · simp only [List.getD_eq_getElem?_getD, List.getElem?_set, if_neg e] at h1 ⊢
      rw [Array.getD_eq_getD_getElem?, Array.getElem?_setIfInBounds, if_neg e, ← Array.getD_eq_getD_getElem?]
      exact h1

/-! ### Operations -/
section
variable (P : Program)

def aFieldAddr (st : TypeId) (f : Nat) (v : Value) : Option Value :=
  match v, P.underlying st with
  | .pointer (some ⟨b, off, none⟩), some (.struct fs) => (fs[f]?).bind fun fld => (P.info? fld.type).bind fun i => if i.size = 0 then none else some (.pointer (some ⟨b, off + fld.offset, none⟩))
  | _, _ => none
def isAggT (t : TypeId) : Option Bool :=
  match P.underlying t with
  | some (.struct _) => some true
  | some (.array _ _) => some true
  | some _ => some false
  | none => none
def aPart (t : TypeId) (cs : List Value) (off : Nat) : Option Value :=
  match isAggT P t, P.info? t with
  | some true, some i => if off + i.size ≤ cs.length then some (.agg ((cs.drop off).take i.size).toArray) else none
  | some false, _ => cs[off]?
  | _, _ => none
def aField (t : TypeId) (f : Nat) (v : Value) : Option Value :=
  match v, P.underlying t with
  | .agg cs, some (.struct fs) => (fs[f]?).bind fun fld => aPart P fld.type cs.toList fld.offset
  | _, _ => none
def aIndexAddr (t : TypeId) (v ix : Value) : Option Value :=
  match ix, v, P.underlying t with
  | .int _ i, .pointer (some ⟨b, off, none⟩), some (.array n e) => (P.info? e).bind fun inf => if 0 ≤ i ∧ i < n then some (.pointer (some ⟨b, off + i.toNat * inf.size, none⟩)) else none
  | .int _ i, .slice (some ⟨b, off, _⟩) len _, some (.slice e) => (P.info? e).bind fun inf => if 0 ≤ i ∧ i < len then some (.pointer (some ⟨b, off + i.toNat * inf.size, none⟩)) else none
  | _, _, _ => none
def aIndex (t : TypeId) (v ix : Value) : Option Value :=
  match ix, v, P.underlying t with
  | .int _ i, .agg cs, some (.array n e) => (P.info? e).bind fun inf => if 0 ≤ i ∧ i < n then aPart P e cs.toList (i.toNat * inf.size) else none
  | _, _, _ => none
def bnd (x : Option Value) (dflt : Nat) (y : Nat) : Option Nat :=
  match x with
  | none => some dflt
  | some (.int _ i) => if 0 ≤ i ∧ i ≤ y then some i.toNat else none
  | some _ => none
def aSlice (t : TypeId) (v : Value) (lo hi mx : Option Value) : Option Value :=
  match v, P.underlying t with
  | .slice (some ⟨b, off, tg⟩) len cap, some (.slice e) => (P.info? e).bind fun inf =>
    match mx with
    | none => (bnd hi len cap).bind fun h => (bnd lo 0 h).bind fun l => if len ≤ cap ∧ (tg = none ∨ tg = some 0) then some (.slice (some ⟨b, off + l * inf.size, tg⟩) (h - l) (cap - l)) else none
    | some m => if hi.isNone then none else (bnd (some m) 0 cap).bind fun m => (bnd hi 0 m).bind fun h => (bnd lo 0 h).bind fun l => if len ≤ cap ∧ (tg = none ∨ tg = some 0) then some (.slice (some ⟨b, off + l * inf.size, some 0⟩) (h - l) (m - l)) else none
  | .slice none 0 0, some (.slice e) => (P.info? e).bind fun _ => if mx.isSome && hi.isNone then none else
      (bnd mx 0 0).bind fun _ => (bnd hi 0 0).bind fun _ => (bnd lo 0 0).bind fun _ => some (.slice none 0 0)
  | .pointer (some ⟨b, off, none⟩), some (.array n e) => (P.info? e).bind fun inf =>
    if mx.isSome then none else (bnd hi n n).bind fun h => (bnd lo 0 h).bind fun l => some (.slice (some ⟨b, off + l * inf.size, some 0⟩) (h - l) (n - l))
  | _, _ => none
def aExtract (v : Value) (i : Nat) : Option Value := match v with | .tuple vs => vs[i]? | _ => none
def isNilV : Value → Bool
  | .pointer none | .slice none _ _ | .nilFunc | .nilIface | .map none => true
  | _ => false
/-- 'x == nil', one of the two being nil itself. -/
def aNil (t : TypeId) (x y : Value) : Option Bool :=
  match P.underlying t, x, y with
  | some (.pointer _), .pointer none, .pointer (some _) => some false
  | some (.pointer _), .pointer (some _), .pointer none => some false
  | some (.slice _), .slice none _ _, .slice (some _) _ _ => some false
  | some (.slice _), .slice (some _) _ _, .slice none _ _ => some false
  | some (.func _ _ _), .nilFunc, .func _ _ _ => some false
  | some (.func _ _ _), .func _ _ _, .nilFunc => some false
  | some (.interface _), .nilIface, .iface _ _ => some false
  | some (.interface _), .iface _ _, .nilIface => some false
  | _, _, _ => none
def aNilCheck (v : Value) : Option Value :=
  match v with
  | .pointer (some a) => some (.pointer (some a))
  | .func (.func f) xs ys => some (.func (.func f) xs ys)
  | _ => none
def aMkIface (t : TypeId) (v : Value) : Option Value :=
  match P.underlying t with
  | some (.interface _) => none
  | some _ => some (.iface t v)
  | none => none
def aAssert (x : Value) (asserted : TypeId) (commaOk : Bool) : Option Value :=
  match P.underlying asserted, x with
  | some (.interface _), _ => none
  | some _, .iface t v => if t = asserted then some (if commaOk then .tuple #[v, .bool true] else v)
      else if commaOk then ((P.info? asserted).bind (·.zero)).bind fun z => if scalar z then some (.tuple #[z, .bool false]) else none else none
  | _, _ => none
def aLen (t : TypeId) (v : Value) : Option Value :=
  match v, P.underlying t with
  | .slice (some _) n _, some (.slice _) => some (.int .i64 n)
  | .slice none n _, some (.slice _) => some (.int .i64 n)
  | _, _ => none
end
end
end Go.Am
