/- Rules for building arrays and structs, and for elements of arrays that are arrays. -/
import Derived.Test.YtlmgdnhnpkgheaaDoorAmW
namespace Go.Am
open Go
noncomputable section
set_option linter.unusedSimpArgs false
set_option linter.unusedVariables false
def plcT (P : Program) (t : TypeId) : Option (List (Nat × Nat)) :=
  match P.underlying t with
  | some (.struct fields) => fields.toList.mapM fun f => (P.info? f.type).map fun i => (f.offset, i.size)
  | _ => none
section
variable {P : Program} {n : Nat} {σ : Nat → Value} {d : Tmp} {ty t e : TypeId} {pos : String} {af : Array Edge} {g : Option (Nat × Bool)} {v : Value} {x y : Operand} {s : List Value}
theorem v_buildA {N sz : Nat} {z : Value} {ps : Array (Nat × Operand)} {vs : List (Nat × Value)} {cs : Array Value} (ha : arrT P t = some (N, e)) (hs : szT P e = some sz) (hz : (P.info? t).bind (·.zero) = some z) (hzo : zeroOk P t = true) (hps : opndP s ps.toList = some vs)
    (hf : Instr.fill (fun i => some (i * sz, sz)) z.cells vs = some cs) : apure P s ⟨some d, .build t ps, ty, pos, af, g⟩ = some (.agg cs) := by
  obtain ⟨ie, hi, rfl⟩ := szT_inv hs
  obtain ⟨it, hit, hz⟩ := Option.bind_eq_some_iff.1 hz
  have hb : P.built t vs = some cs := by
    unfold Program.built
    simp only [hit, arrT_inv ha, hz, hi]
    exact hf
  simp [apure, hzo, hps, hb]
theorem v_buildS {z : Value} {ps : Array (Nat × Operand)} {vs : List (Nat × Value)} {cs : Array Value} {pl : List (Nat × Nat)} (hp : plcT P t = some pl) (hz : (P.info? t).bind (·.zero) = some z) (hzo : zeroOk P t = true) (hps : opndP s ps.toList = some vs)
    (hf : Instr.fill (fun i => pl.toArray[i]?) z.cells vs = some cs) : apure P s ⟨some d, .build t ps, ty, pos, af, g⟩ = some (.agg cs) := by
  obtain ⟨it, hit, hz⟩ := Option.bind_eq_some_iff.1 hz
  have hb : P.built t vs = some cs := by
    unfold plcT at hp
    split at hp
    · rename_i fs hu
      unfold Program.built
      simp only [hit, hu, hz, hp]
      exact hf
    · cases hp
  simp [apure, hzo, hps, hb]
theorem v_indexAgg {N sz : Nat} {k : IntKind} {i : Int} {a : Array Value} (he : arrT P t = some (N, e)) (hz : szT P e = some sz) (ha : isAggT P e = some true) (hx : opnd s x = some (.agg a)) (hy : opnd s y = some (.int k i)) (h0 : 0 ≤ i) (h1 : i.toNat < N)
    (hl : i.toNat * sz + sz ≤ a.toList.length) : apure P s ⟨some d, .index t x y, ty, pos, af, g⟩ = some (.agg ((a.toList.drop (i.toNat * sz)).take sz).toArray) := by
  obtain ⟨inf, hi, rfl⟩ := szT_inv hz
  have h2 : i < N := by omega
  simp only [apure, hx, hy, Option.bind_some, aIndex, arrT_inv he, hi]
  rw [if_pos ⟨h0, h2⟩]
  simp only [aPart, ha, hi]
  rw [if_pos hl]
end
end
end Go.Am
