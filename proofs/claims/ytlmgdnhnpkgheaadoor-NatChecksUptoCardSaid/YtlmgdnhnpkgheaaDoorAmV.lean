/- A run on closed values in an empty heap is a run in every heap. -/
import Derived.Test.YtlmgdnhnpkgheaaDoorAmU
namespace Go.Am
open Go
noncomputable section
set_option linter.unusedSimpArgs false
set_option linter.unusedVariables false
theorem VRs.closed_eq {ι : Ren} : ∀ {xs ys : List Value}, VRs ι xs ys → xs.all closed = true → ys = xs
  | _, _, .nil, _ => rfl
  | _, _, .cons hv h, hc => by
    simp only [List.all_cons, Bool.and_eq_true] at hc
    rw [h.closed_eq hc.2, hv.closed_eq hc.1]
theorem VRs.of_closed {ι : Ren} : ∀ {xs : List Value}, xs.all closed = true → VRs ι xs xs
  | [], _ => .nil
  | x :: xs, hc => by
    simp only [List.all_cons, Bool.and_eq_true] at hc
    exact .cons (VR.of_closed hc.1) (VRs.of_closed hc.2)
theorem ACalls.anyHeap {P : Program} {f : FuncId} {args : List Value} {v : Value} {H' : AH} (h : ACalls P f args ⟨0, []⟩ v H') (ha : args.all closed = true) (hv : closed v = true) (A : AH) : ACalls P f args A v A := by
  refine ⟨Nat.le_refl _, fun ι w cargs hS hargs => ?_⟩
  have he := hargs.closed_eq ha
  have hS0 : Sim (⟨0, []⟩ : AH).next (fun _ => none) (⟨0, []⟩ : AH).get w := by
    refine ⟨?_, ?_, ?_⟩
    · intro b x cb co ex _ h; cases h
    · intro b b' x x' cb co ex cb' co' ex' _ _ _ _ h; cases h
    · intro b y h; cases h
  refine (h.run (fun _ => none) w cargs hS0 (by rw [he]; exact .of_closed ha)).mono ?_
  rintro e w' ⟨ι', v', rfl, e2, e3, e4⟩
  have hsame : ∀ cb, cb < w.heap.size → w'.heap[cb]? = w.heap[cb]? := fun cb hcb => e4.same cb hcb (fun ⟨b, x, co, ex, _, _, h⟩ => by cases h)
  have hvv := e2.closed_eq hv
  refine ⟨ι, v', rfl, by rw [hvv]; exact VR.of_closed hv, hS.grow hsame, fun _ _ h => h, fun _ _ => rfl, fun _ h => .inl h, fun _ h => .inl h, fun cb hcb _ => hsame cb hcb, e4.size, e4.os, e4.tape, e4.output⟩
theorem run_closed {P : Program} (hmix : P.follows .mixedOrders = true) {f : FuncId} {rounds n : Nat} {v : Value} {args : List Value} (ha : args.all closed = true) (hv : closed v = true) (h : ((callF blkEq P noExt rounds n f args ⟨0, []⟩).map (·.1)) = some v) (A : AH) : ACalls P f args A v A := by
  obtain ⟨r, h1, h2⟩ := Option.map_eq_some_iff.1 h
  subst h2
  exact (callF_ok (fun f g h => by cases h) (fun x y => blkEq_eq) hmix rounds n f args _ _ _ h1).anyHeap ha hv A
end
end Go.Am
