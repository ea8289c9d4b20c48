/- For proofs with variables: the frame as a function, and each operation's rule as an equation. -/
import Derived.Test.YtlcdhgcfamjioaaAmLZ8
namespace Go.Am
open Go
noncomputable section
set_option linter.unusedSimpArgs false
set_option linter.unusedVariables false

/-- The frame's variables as a function. -/
def toL (n : Nat) (σ : Nat → Value) : List Value := (List.range n).map σ
theorem opnd_toL {n : Nat} {σ : Nat → Value} {t : Nat} (h : t < n) : opnd (toL n σ) (.tmp t) = some (σ t) := by
  simp [opnd, rget_eq, toL, List.getD_eq_getElem?_getD, h]
theorem opnd_const {s : List Value} {v : Value} (h : closed v = true) : opnd s (.const v) = some v := by simp [opnd, h]
theorem putd_toL {n : Nat} {σ : Nat → Value} {d : Nat} {v : Value} (h : d < n) : putd (toL n σ) (some d) v = toL n (upd σ d v) := by
  rw [putd_some]
  unfold toL
  apply List.ext_getElem?
  intro i
  simp only [List.getElem?_set, List.getElem?_map, List.length_map, List.length_range]
  by_cases e : d = i
  · subst e; simp [h, upd]
  · have e' : ¬ i = d := fun h => e h.symm
    rw [if_neg e]
    by_cases hi : i < n
    · simp [hi, upd, e']
    · simp [hi]
theorem toL_get {n : Nat} {σ : Nat → Value} {t : Nat} (h : t < n) : (toL n σ)[t]? = some (σ t) := by simp [toL, h]
theorem toL_args {n : Nat} (args : List Value) : args ++ List.replicate (n - args.length) undef = toL (max n args.length) (fun t => args.getD t undef) := by
  apply List.ext_getElem?
  intro i
  simp only [toL, List.getElem?_map, List.getElem?_append, List.getElem?_replicate]
  by_cases h : i < args.length
  · have h2 : i < max n args.length := by omega
    simp [h, h2, List.getD_eq_getElem?_getD]
  · by_cases h2 : i < n
    · have h3 : i - args.length < n - args.length := by omega
      have h4 : i < max n args.length := by omega
      simp [h, h3, h4, List.getD_eq_getElem?_getD]
    · have h3 : ¬ i - args.length < n - args.length := by omega
      have h4 : ¬ i < max n args.length := by omega
      simp [h, h3, h4]

section
variable {P : Program} {s : List Value} {H H' : AH} {d : Option Tmp} {ty : TypeId} {pos : String} {af : Array Edge} {g : Option (Nat × Bool)} {v : Value}

theorem step_pure {o : Oper} (h : apure P s o = some v) : StepOk P o s H v H := astep_ok (by simp [astep, h])
theorem step_read {o : Oper} (h0 : apure P s o = none) (h : aread P s o H.get = some v) : StepOk P o s H v H := astep_ok (by simp [astep, h0, h])
theorem st_alloc {e : TypeId} {z : Value} (hz : (P.info? e).bind (·.zero) = some z) (hs : z.cells.all scalar = true) : StepOk P ⟨d, .alloc e, ty, pos, af, g⟩ s H (.pointer (some ⟨H.next, 0, none⟩)) (H.push (some ⟨z.cells.toList, e, 1, true⟩)) :=
  astep_ok (by
    obtain ⟨inf, hi, hz⟩ := Option.bind_eq_some_iff.1 hz
    have : aalloc P s ⟨d, .alloc e, ty, pos, af, g⟩ = some (⟨z.cells.toList, e, 1, true⟩, .ptr) := by simp only [aalloc, hi, hz, Option.bind_some, hs, if_true]
    simp only [astep, apure, aread, this]
    rfl)
end
end
end Go.Am
