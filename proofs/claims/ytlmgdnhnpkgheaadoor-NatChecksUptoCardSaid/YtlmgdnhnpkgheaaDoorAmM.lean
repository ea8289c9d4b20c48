/- For proofs with variables: the frame as a function, and each operation's rule as an equation. -/
import Derived.Test.YtlmgdnhnpkgheaaDoorAmL
namespace Go.Am
open Go
noncomputable section
set_option linter.unusedSimpArgs false
set_option linter.unusedVariables false

/-- The frame's variables as a function. -/
def toL (n : Nat) (σ : Nat → Value) : List Value := (List.range n).map σ
theorem opnd_toL {n : Nat} {σ : Nat → Value} {t : Nat} (h : t < n) : opnd (toL n σ) (.tmp t) = some (σ t) := by
  simp [opnd, rget_eq, toL, List.getD_eq_getElem?_getD, h]
theorem opnd_const {s : List Value} {v : Value} (h : closed v = true) : opnd s (.const v) = some v := by simp [opnd, h]
theorem opnd_func {s : List Value} {f : FuncId} : opnd s (.func f) = some (.func (.func f) #[] #[]) := rfl
theorem putd_toL {n : Nat} {σ : Nat → Value} {d : Nat} {v : Value} (h : d < n) : putd (toL n σ) (some d) v = toL n (upd σ d v) := by
  rw [putd_some]
  unfold toL
  apply List.ext_getElem?
  intro i
  simp only [List.getElem?_set, List.getElem?_map, List.length_map, List.length_range]
  by_cases e : d = i
  · subst e; simp [h, upd]
  · have e' : ¬ i = d := fun h => e h.symm
    rw [if_neg e]
    by_cases hi : i < n
    · simp [hi, upd, e']
    · simp [hi]
theorem putd_none {s : List Value} {v : Value} : putd s none v = s := rfl
theorem toL_get {n : Nat} {σ : Nat → Value} {t : Nat} (h : t < n) : (toL n σ)[t]? = some (σ t) := by simp [toL, h]
theorem toL_args {n : Nat} (args : List Value) : args ++ List.replicate (n - args.length) undef = toL (max n args.length) (fun t => args.getD t undef) := by
  apply List.ext_getElem?
  intro i
  simp only [toL, List.getElem?_map, List.getElem?_append, List.getElem?_replicate]
  by_cases h : i < args.length
  · have h2 : i < max n args.length := by omega
    simp [h, h2, List.getD_eq_getElem?_getD]
  · by_cases h2 : i < n
    · have h3 : i - args.length < n - args.length := by omega
      have h4 : i < max n args.length := by omega
      simp [h, h3, h4, List.getD_eq_getElem?_getD]
    · have h3 : ¬ i - args.length < n - args.length := by omega
      have h4 : ¬ i < max n args.length := by omega
      simp [h, h3, h4]

section
variable {P : Program} {s : List Value} {H H' : AH} {d : Option Tmp} {ty : TypeId} {pos : String} {af : Array Edge} {g : Option (Nat × Bool)} {v : Value}

theorem step_pure {o : Oper} (h : apure P s o = some v) : StepOk P o s H v H := astep_ok (by simp [astep, h])
theorem step_read {o : Oper} (h0 : apure P s o = none) (h : aread P s o H.get = some v) : StepOk P o s H v H := astep_ok (by simp [astep, h0, h])
theorem st_move {x : Operand} (h : opnd s x = some v) : StepOk P ⟨d, .move x, ty, pos, af, g⟩ s H v H := step_pure h
theorem st_assign {x : Operand} (h : opnd s x = some v) : StepOk P ⟨d, .assign x, ty, pos, af, g⟩ s H v H := step_pure h
theorem st_pick {c x y : Operand} {b : Bool} (hc : opnd s c = some (.bool b)) (h : (if b then opnd s x else opnd s y) = some v) : StepOk P ⟨d, .pick c x y, ty, pos, af, g⟩ s H v H :=
  step_pure (by cases b <;> simpa [apure, hc] using h)
theorem st_int {op : BinOp} {t yt : TypeId} {x y : Operand} {k : IntKind} {a b : Int} (hx : opnd s x = some (.int k a)) (hy : opnd s y = some (.int k b)) (h : aint op k a b = some v) : StepOk P ⟨d, .binOp op t x y yt, ty, pos, af, g⟩ s H v H :=
  step_pure (by simp [apure, hx, hy, abin, h])
theorem st_load1 {t : TypeId} {x : Operand} {b off : Nat} {k : ABlk} (hx : opnd s x = some (.pointer (some ⟨b, off, none⟩))) (hg : H.get b = some k) (ht : isAggT P t = some false) (h : k.cells[off]? = some v) : StepOk P ⟨d, .load t x, ty, pos, af, g⟩ s H v H :=
  step_read rfl (by simp [aread, hx, aload, hg, ht, h])
theorem st_loadA {t : TypeId} {x : Operand} {b off n : Nat} {k : ABlk} (hx : opnd s x = some (.pointer (some ⟨b, off, none⟩))) (hg : H.get b = some k) (ht : isAggT P t = some true) (hn : (P.info? t).map (·.size) = some n) (hl : off + n ≤ k.cells.length) :
    StepOk P ⟨d, .load t x, ty, pos, af, g⟩ s H (.agg ((k.cells.drop off).take n).toArray) H :=
  step_read rfl (by
    obtain ⟨i, hi, rfl⟩ := Option.map_eq_some_iff.1 hn
    simp [aread, hx, aload, hg, ht, hi, hl])
theorem st_index {t e : TypeId} {x y : Operand} {b off len c n : Nat} {tg : Option Nat} {k : IntKind} {i : Int} (hx : opnd s x = some (.slice (some ⟨b, off, tg⟩) len c)) (hy : opnd s y = some (.int k i)) (ht : P.underlying t = some (.slice e)) (hn : (P.info? e).map (·.size) = some n)
    (h0 : 0 ≤ i) (h1 : i < len) : StepOk P ⟨d, .indexAddr t x y, ty, pos, af, g⟩ s H (.pointer (some ⟨b, off + i.toNat * n, none⟩)) H :=
  step_pure (by
    obtain ⟨inf, hi, rfl⟩ := Option.map_eq_some_iff.1 hn
    simp [apure, hx, hy, aIndexAddr, ht, hi, h0, h1])
theorem st_indexA {t e : TypeId} {x y : Operand} {b off len n : Nat} {k : IntKind} {i : Int} (hx : opnd s x = some (.pointer (some ⟨b, off, none⟩))) (hy : opnd s y = some (.int k i)) (ht : P.underlying t = some (.array len e)) (hn : (P.info? e).map (·.size) = some n)
    (h0 : 0 ≤ i) (h1 : i < len) : StepOk P ⟨d, .indexAddr t x y, ty, pos, af, g⟩ s H (.pointer (some ⟨b, off + i.toNat * n, none⟩)) H :=
  step_pure (by
    obtain ⟨inf, hi, rfl⟩ := Option.map_eq_some_iff.1 hn
    simp [apure, hx, hy, aIndexAddr, ht, hi, h0, h1])
theorem st_alloc {e : TypeId} {z : Value} (hz : (P.info? e).bind (·.zero) = some z) (hs : z.cells.all scalar = true) : StepOk P ⟨d, .alloc e, ty, pos, af, g⟩ s H (.pointer (some ⟨H.next, 0, none⟩)) (H.push (some ⟨z.cells.toList, e, 1, true⟩)) :=
  astep_ok (by
    obtain ⟨inf, hi, hz⟩ := Option.bind_eq_some_iff.1 hz
    have : aalloc P s ⟨d, .alloc e, ty, pos, af, g⟩ = some (⟨z.cells.toList, e, 1, true⟩, .ptr) := by simp only [aalloc, hi, hz, Option.bind_some, hs, if_true]
    simp only [astep, apure, aread, this]
    rfl)
end
end
end Go.Am
