/- Function values as parameters, and several results. -/
import Derived.Test.YtlmgdnhnpkgheaaDoorAmT
namespace Go.Am
open Go
noncomputable section
set_option linter.unusedSimpArgs false
set_option linter.unusedVariables false

/-- A function value from numbers below m to truth values that changes nothing. -/
def Used (P : Program) (H0 : AH) (uv : Value) (m : Nat) (U : Nat → Bool) : Prop :=
  ∃ f a b fn, uv = .func (.func f) a b ∧ P.funcs[f]? = some fn ∧ (fn.name == "runtime.NumGoroutine" || fn.body.isNone) = false ∧
    ∀ H1, Ext H0 H1 → ∀ k : Nat, k < m → ∃ v H2, ACalls P f (a.toList ++ [.int .i64 (k : Int)] ++ b.toList) H1 v H2 ∧ v = .bool (U k) ∧ Ext H1 H2
theorem Used.ext {P : Program} {H0 H1 : AH} {uv : Value} {m : Nat} {U : Nat → Bool} (h : Used P H0 uv m U) (e : Ext H0 H1) : Used P H1 uv m U := by
  obtain ⟨f, a, b, fn, h1, h2, h3, h4⟩ := h
  exact ⟨f, a, b, fn, h1, h2, h3, fun H2 e2 => h4 H2 (e.trans e2)⟩

section
variable {P : Program} {n : Nat} {σ : Nat → Value} {H H1 : AH} {ops : Array Oper} {l : List Oper} {Q : (Nat → Value) → AH → Prop} {d : Tmp} {ty t xt e : TypeId} {pos : String} {af : Array Edge} {g : Option (Nat × Bool)} {v w u : Value} {x y fo : Operand}
theorem W.callU {m k : Nat} {U : Nat → Bool} {H0 : AH} {ats : Array TypeId} (hg : gok n ops σ g true) (hd : (Nat.blt d n && (ook n fo && (ook n x && true))) = true) (hu : Used P H0 (oval σ fo) m U) (he : Ext H0 H) (hx : oval σ x = .int .i64 (k : Int)) (hk : k < m)
    (hr : ∀ H1, Ext H H1 → AWO P n ops l (up σ d (.bool (U k))) H1 Q) : AWO P n ops (⟨some d, .call ⟨.value fo, #[x], ats⟩, ty, pos, af, g⟩ :: l) σ H Q := by
  obtain ⟨f, a, b, fn, h1, h2, h3, h4⟩ := hu
  obtain ⟨_, H2, h5, rfl, h6⟩ := h4 H he k hk
  rw [Bool.and_eq_true] at hd
  exact .step (wanted_gok hg) hd.1 (callv_step (by simpa using hd.2) h1 h2 h3 (by simp [hx]) h5) (hr H2 h6)

theorem ret2V {fn : Func} {R : Value → AH → Prop} {t1 t2 : Tmp} (hr : fn.results.toList = [.tmp t1, .tmp t2]) (h1 : (Nat.blt t1 n && Nat.blt t2 n) = true) (hv : σ t1 = v) (hw : σ t2 = w) (h : R (.tuple #[v, w]) H) : retQ P fn n R .ret σ H := by
  simp only [Bool.and_eq_true, blt_iff] at h1
  refine ⟨.tuple #[v, w], ?_, h⟩
  simp [aret, hr, aresults, aresult, List.getD_eq_getElem?_getD, toL_get h1.1, toL_get h1.2, hv, hw]
theorem ret3V {fn : Func} {R : Value → AH → Prop} {t1 t2 t3 : Tmp} (hr : fn.results.toList = [.tmp t1, .tmp t2, .tmp t3]) (h1 : (Nat.blt t1 n && (Nat.blt t2 n && Nat.blt t3 n)) = true) (hv : σ t1 = v) (hw : σ t2 = w) (hu : σ t3 = u) (h : R (.tuple #[v, w, u]) H) : retQ P fn n R .ret σ H := by
  simp only [Bool.and_eq_true, blt_iff] at h1
  refine ⟨.tuple #[v, w, u], ?_, h⟩
  simp [aret, hr, aresults, aresult, List.getD_eq_getElem?_getD, toL_get h1.1, toL_get h1.2.1, toL_get h1.2.2, hv, hw, hu]
end
end
end Go.Am
