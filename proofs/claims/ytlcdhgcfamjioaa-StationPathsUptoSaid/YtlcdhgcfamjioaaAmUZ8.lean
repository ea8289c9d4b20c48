/- Function values as parameters, and several results. -/
import Derived.Test.YtlcdhgcfamjioaaAmTZ8
namespace Go.Am
open Go
noncomputable section
set_option linter.unusedSimpArgs false
set_option linter.unusedVariables false

/-- A function value from numbers below m to truth values that changes nothing. -/
def Used (P : Program) (H0 : AH) (uv : Value) (m : Nat) (U : Nat → Bool) : Prop :=
  ∃ f a b fn, uv = .func (.func f) a b ∧ P.funcs[f]? = some fn ∧ (fn.name == "runtime.NumGoroutine" || fn.body.isNone) = false ∧
    ∀ H1, Ext H0 H1 → ∀ k : Nat, k < m → ∃ v H2, ACalls P f (a.toList ++ [.int .i64 (k : Int)] ++ b.toList) H1 v H2 ∧ v = .bool (U k) ∧ Ext H1 H2
theorem Used.ext {P : Program} {H0 H1 : AH} {uv : Value} {m : Nat} {U : Nat → Bool} (h : Used P H0 uv m U) (e : Ext H0 H1) : Used P H1 uv m U := by
  obtain ⟨f, a, b, fn, h1, h2, h3, h4⟩ := h
  exact ⟨f, a, b, fn, h1, h2, h3, fun H2 e2 => h4 H2 (e.trans e2)⟩

section
variable {P : Program} {n : Nat} {σ : Nat → Value} {H H1 : AH} {ops : Array Oper} {l : List Oper} {Q : (Nat → Value) → AH → Prop} {d : Tmp} {ty t xt e : TypeId} {pos : String} {af : Array Edge} {g : Option (Nat × Bool)} {v w u : Value} {x y fo : Operand}

end
end
end Go.Am
