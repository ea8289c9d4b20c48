/- Steps, calls and code: what the abstract machine does, the machine does. -/
import Derived.Test.YtlmgdnhnpkgheaaDoorAmG
import Derived.LoopN
namespace Go.Am
open Go
noncomputable section
set_option linter.unusedSimpArgs false
set_option linter.unusedVariables false

def astep (P : Program) (s : List Value) (o : Oper) (H : AH) : Option (Value × AH) :=
  match apure P s o with
  | some v => some (v, H)
  | none => match aread P s o H.get with
    | some v => some (v, H)
    | none => match aalloc P s o with
      | some (blk, k) => some (k.val H.next, H.push (some blk))
      | none => awrite P s o H

/-- One operation. -/
structure StepOk (P : Program) (o : Oper) (s : List Value) (H : AH) (v : Value) (H' : AH) : Prop where
  next : H.next ≤ H'.next
  run : ∀ ι a w, Sim H.next ι H.get w → OR ι s a o → ∀ (nx : Act → World → Prop) (Q : Exit → Act → World → Prop),
    (∀ ι' v' w', VR ι' v v' → Sim H'.next ι' H'.get w' → Evo H.next ι H.get w ι' H'.get w' → nx (a.put o.dst v') w') → o.wp P a w nx Q

/-- One call. -/
structure ACalls (P : Program) (f : FuncId) (args : List Value) (H : AH) (v : Value) (H' : AH) : Prop where
  next : H.next ≤ H'.next
  run : ∀ ι w cargs, Sim H.next ι H.get w → VRs ι args cargs.toList →
    Calls P f cargs w (fun e w' => ∃ ι' v', e = .returned v' ∧ VR ι' v v' ∧ Sim H'.next ι' H'.get w' ∧ Evo H.next ι H.get w ι' H'.get w')

/-- A piece of code. -/
structure ARun (P : Program) (c : Code) (s : List Value) (H : AH) (ex : Exit) (s' : List Value) (H' : AH) : Prop where
  next : H.next ≤ H'.next
  run : ∀ ι a w, Sim H.next ι H.get w → SR ι s a →
    c.wp P (fun e a' w' => e = ex ∧ ∃ ι', SR ι' s' a' ∧ Sim H'.next ι' H'.get w' ∧ Evo H.next ι H.get w ι' H'.get w') a w

section
variable {P : Program} {s s1 s' : List Value} {H H1 H' : AH} {o : Oper}

theorem aappend_next {ts : Array TypeId} {sv xv v : Value} (h : aappend P ts sv xv H = some (v, H')) : H.next ≤ H'.next := by
  unfold aappend at h
  split at h
  · split at h
    · obtain ⟨i, hi, h⟩ := Option.bind_eq_some_iff.1 h
      obtain ⟨z, hz, h⟩ := Option.bind_eq_some_iff.1 h
      split at h
      · obtain ⟨⟨n, new⟩, hsrc, h⟩ := Option.bind_eq_some_iff.1 h
        simp only at h
        split at h
        · split at h
          · cases h; exact Nat.le_refl _
          · split at h
            · cases h; simp
            · cases h
        · split at h
          · cases h; exact Nat.le_refl _
          · obtain ⟨x, hG, h⟩ := Option.bind_eq_some_iff.1 h
            split at h
            · split at h
              · cases h; exact Nat.le_refl _
              · cases h
            · split at h
              · split at h
                · cases h; simp
                · split at h
                  · cases h; simp
                  · cases h
              · cases h
        · cases h
      · cases h
    · cases h
  · cases h
theorem awriteAt_next {b off : Nat} {vs : List Value} (h : awriteAt H b off vs = some H') : H'.next = H.next := by
  unfold awriteAt at h
  obtain ⟨x, hG, h⟩ := Option.bind_eq_some_iff.1 h
  split at h
  · cases h; rfl
  · cases h
theorem awrite_next {v : Value} (h : awrite P s o H = some (v, H')) : H.next ≤ H'.next := by
  unfold awrite at h
  split at h
  · obtain ⟨p, hp, h⟩ := Option.bind_eq_some_iff.1 h
    obtain ⟨u, hu, h⟩ := Option.bind_eq_some_iff.1 h
    obtain ⟨i, hi, h⟩ := Option.bind_eq_some_iff.1 h
    split at h
    · split at h
      · obtain ⟨H2, h1, h2⟩ := Option.map_eq_some_iff.1 h
        cases h2; exact Nat.le_of_eq (awriteAt_next h1).symm
      · cases h
    · cases h
  · split at h
    · split at h
      · obtain ⟨u, hu, h⟩ := Option.bind_eq_some_iff.1 h
        obtain ⟨k, hk, h⟩ := Option.bind_eq_some_iff.1 h
        exact aappend_next h
      · cases h
    · split at h
      · obtain ⟨u, hu, h⟩ := Option.bind_eq_some_iff.1 h
        obtain ⟨k, hk, h⟩ := Option.bind_eq_some_iff.1 h
        unfold acopy at h
        split at h
        · split at h
          · obtain ⟨i, hi, h⟩ := Option.bind_eq_some_iff.1 h
            split at h
            · obtain ⟨⟨n, new⟩, hsrc, h⟩ := Option.bind_eq_some_iff.1 h
              simp only at h
              split at h
              · split at h
                · cases h; exact Nat.le_refl _
                · cases h
              · obtain ⟨H2, h1, h2⟩ := Option.map_eq_some_iff.1 h
                cases h2; exact Nat.le_of_eq (awriteAt_next h1).symm
            · cases h
          · cases h
        · cases h
      · cases h
    · split at h
      · obtain ⟨u, hu, h⟩ := Option.bind_eq_some_iff.1 h
        unfold aclear at h
        split at h
        · split at h
          · cases h; exact Nat.le_refl _
          · cases h; exact Nat.le_refl _
          · obtain ⟨i, hi, h⟩ := Option.bind_eq_some_iff.1 h
            obtain ⟨z, hz, h⟩ := Option.bind_eq_some_iff.1 h
            split at h
            · obtain ⟨H2, h1, h2⟩ := Option.map_eq_some_iff.1 h
              cases h2; exact Nat.le_of_eq (awriteAt_next h1).symm
            · cases h
          · cases h
        · cases h
      · cases h
    · cases h
  · cases h

theorem wp_of_run {a : Act} {w w' : World} {v' : Value} {nx : Act → World → Prop} {Q : Exit → Act → World → Prop}
    (h : (execOp a.eval o).run P w = .ok (.value v') w' ∨ ((execOp a.eval o).run P w = .ok .skip w' ∧ v' = undef)) (hn : nx (a.put o.dst v') w') : o.wp P a w nx Q := by
  unfold Oper.wp
  rcases h with h | ⟨h, rfl⟩
  · rw [h]; exact hn
  · rw [h]; exact hn

theorem astep_ok {v : Value} (h : astep P s o H = some (v, H')) : StepOk P o s H v H' := by
  unfold astep at h
  split at h
  · rename_i u hu
    cases h
    refine ⟨Nat.le_refl _, fun ι a w hS hor nx Q hn => ?_⟩
    obtain ⟨v', e1, e2⟩ := apure_ok hu hor w
    exact wp_of_run (.inl e1) (hn ι v' w e2 hS (Evo.refl _ _ _ _))
  · split at h
    · rename_i u hu
      cases h
      refine ⟨Nat.le_refl _, fun ι a w hS hor nx Q hn => ?_⟩
      obtain ⟨v', e1, e2⟩ := aread_ok hu hS hor
      exact wp_of_run (.inl e1) (hn ι v' w e2 hS (Evo.refl _ _ _ _))
    · split at h
      · rename_i blk k hk
        cases h
        refine ⟨by simp, fun ι a w hS hor nx Q hn => ?_⟩
        obtain ⟨ex, v', w', e1, e2, e3, e4⟩ := aalloc_ok (m := H.next + 1) (b := H.next) hk hS hor (next_free hS) (by omega) (by omega)
        rw [← get_push_upd] at e3
        refine wp_of_run (.inl e1) (hn _ v' w' e2 e3 ?_)
        have := e4 H.next (Nat.le_refl _)
        rw [← get_push_upd] at this
        exact this
      · refine ⟨awrite_next h, fun ι a w hS hor nx Q hn => ?_⟩
        obtain ⟨ι', v', w', e1, e2, e3, e4⟩ := awrite_ok h hor hS
        exact wp_of_run e1 (hn ι' v' w' e2 e3 e4)

/-- Whom an operation calls, with what. -/
def acallee (P : Program) (s : List Value) (o : Oper) : Option (FuncId × List Value) :=
  match o.op with
  | .call c => match c.callee with
    | .value f => match opnd s f with
      | some (.func (.func g) first captured) => match P.funcs[g]? with
        | some fn => if fn.name == "runtime.NumGoroutine" || fn.body.isNone then none else (opndL s c.args.toList).map fun l => (g, first.toList ++ l ++ captured.toList)
        | none => none
      | _ => none
    | _ => none
  | _ => none
theorem acall_ok {f : FuncId} {args : List Value} {v : Value} (h : acallee P s o = some (f, args)) (hc : ACalls P f args H v H') : StepOk P o s H v H' := by
  refine ⟨hc.next, fun ι a w hS hor nx Q hn => ?_⟩
  unfold acallee at h
  split at h
  · rename_i c ho
    split at h
    · rename_i fo hfo
      split at h
      · rename_i g first captured hq
        split at h
        · rename_i fn hfn
          split at h
          · cases h
          · rename_i hcond
            simp only [Bool.or_eq_true, not_or, Bool.not_eq_true] at hcond
            obtain ⟨l, hl, h2⟩ := Option.map_eq_some_iff.1 h
            cases h2
            have hf := hor fo (by simp [ho, Op.operands, Call.operands, hfo]) _ hq
            have hargs := opndL_ok (a := a) (ι := ι) hl fun x hx => hor x (by simp [ho, Op.operands, Call.operands]; exact .inr (by simpa using hx))
            cases hev : a.eval fo with
            | func g' first' captured' =>
              rw [hev] at hf
              cases hf with
              | scal hs => simp [scalar] at hs
              | fn h1 h2 =>
                rename_i xs ys us vs
                have hcall := hc.run ι w ((⟨ys⟩ ++ c.args.map a.eval : Array Value) ++ ⟨vs⟩) hS (by simpa using (h1.append hargs).append h2)
                have hrun : (execOp a.eval o).run P w = .ok (.enter f ((⟨ys⟩ ++ c.args.map a.eval : Array Value) ++ ⟨vs⟩)) w := by
                  have h1' : ¬ fn.name = "runtime.NumGoroutine" := by simpa using hcond.1
                  have h2' : ¬ fn.body = none := fun e => by rw [e] at hcond; simp at hcond
                  simp [execOp, ho, resolve, hfo, hev, Deferred.ofValue, invoke, callFunc, hfn, h1', h2']
                unfold Oper.wp
                rw [hrun]
                refine hcall.mono ?_
                rintro e w' ⟨ι', v', rfl, e2, e3, e4⟩
                exact hn ι' v' w' e2 e3 e4
            | _ => rw [hev] at hf; cases hf
        · cases h
      · cases h
    · cases h
  · cases h

/-! ### A region whose order is the text's -/
def ayield (ops : Array Oper) (s : List Value) (j : Nat) : Option Bool :=
  match ((ops[j]?).bind (·.dst)).bind (s[·]?) with
  | some (.bool b) => some b
  | _ => none
theorem VR.bool_iff {ι : Ren} {v v' : Value} (h : VR ι v v') (b : Bool) : v = .bool b ↔ v' = .bool b := by
  constructor
  · rintro rfl; exact h.scalar_eq rfl
  · rintro rfl; cases h; rfl
theorem SR.get {ι : Ren} {s : List Value} {a : Act} (h : SR ι s a) (d : Nat) : (s[d]? = none ∧ a.tmps[d]? = none) ∨ ∃ v v', s[d]? = some v ∧ a.tmps[d]? = some v' ∧ VR ι v v' := by
  have hv := h.val d
  rcases Nat.lt_or_ge d s.length with hl | hl
  · have hl' : d < a.tmps.size := by rw [h.size]; exact hl
    refine .inr ⟨s[d], a.tmps[d], List.getElem?_eq_getElem hl, Array.getElem?_eq_getElem hl', ?_⟩
    simpa [List.getD_eq_getElem?_getD, hl, Array.getD_eq_getD_getElem?, hl'] using hv
  · exact .inl ⟨List.getElem?_eq_none hl, Array.getElem?_eq_none (by rw [h.size]; exact hl)⟩
theorem ayield_ok {ι : Ren} {a : Act} {ops : Array Oper} (h : SR ι s a) (j : Nat) : yielded ops a.tmps j = ayield ops s j := by
  unfold yielded ayield
  cases hd : (ops[j]?).bind (·.dst) with
  | none => simp
  | some d =>
    simp only [Option.bind_some]
    rcases h.get d with ⟨h1, h2⟩ | ⟨v, v', h1, h2, hv⟩
    · rw [h1, h2]
    · rw [h1, h2]
      cases v with
      | bool b => rw [(hv.bool_iff b).1 rfl]
      | _ => cases v' with
        | bool b => have := (hv.bool_iff b).2 rfl; cases this
        | _ => rfl
theorem wanted_ok {ι : Ren} {a : Act} {ops : Array Oper} (h : SR ι s a) (o : Oper) : Region.wanted o (yielded ops a.tmps) = Region.wanted o (ayield ops s) := by
  unfold Region.wanted
  split
  · rfl
  · rw [ayield_ok h]

inductive AOps (P : Program) (ops : Array Oper) : List Oper → List Value → AH → List Value → AH → Prop
  | nil {s : List Value} {H : AH} : AOps P ops [] s H s H
  | skip {o : Oper} {rest : List Oper} {s s' : List Value} {H H' : AH} : Region.wanted o (ayield ops s) = false → AOps P ops rest (putd s o.dst undef) H s' H' → AOps P ops (o :: rest) s H s' H'
  | step {o : Oper} {rest : List Oper} {s s' : List Value} {H H1 H' : AH} {v : Value} : Region.wanted o (ayield ops s) = true → StepOk P o s H v H1 → AOps P ops rest (putd s o.dst v) H1 s' H' → AOps P ops (o :: rest) s H s' H'
theorem AOps.next {ops : Array Oper} {l : List Oper} (h : AOps P ops l s H s' H') : H.next ≤ H'.next := by
  induction h with
  | nil => exact Nat.le_refl _
  | skip _ _ ih => exact ih
  | step _ hs _ ih => exact Nat.le_trans hs.next ih
theorem AOps.wp {ops : Array Oper} {l : List Oper} (h : AOps P ops l s H s' H') : ∀ (ι : Ren) (a : Act) (w : World), Sim H.next ι H.get w → SR ι s a → ∀ (Q : Exit → Act → World → Prop),
    (∀ ι' a' w', SR ι' s' a' → Sim H'.next ι' H'.get w' → Evo H.next ι H.get w ι' H'.get w' → Q .normal a' w') → wpList P ops Q l a w := by
  induction h with
  | nil => exact fun ι a w hS hs Q hQ => hQ ι a w hs hS (Evo.refl _ _ _ _)
  | skip hw _ ih =>
    intro ι a w hS hs Q hQ
    rw [wpList, wanted_ok hs, hw, if_neg (by simp)]
    exact ih ι _ w hS (hs.put _ (VR.undef ι)) Q hQ
  | step hw hst hr ih =>
    intro ι a w hS hs Q hQ
    rw [wpList, wanted_ok hs, hw, if_pos rfl]
    refine .inl (hst.run ι a w hS (hs.or _) _ _ fun ι' v' w' hv hS' hE => ?_)
    exact ih ι' _ w' hS' ((hs.mono hE.sub).put _ hv) Q fun ι2 a2 w2 h1 h2 h3 => hQ ι2 a2 w2 h1 h2 (hE.trans h3 hst.next)

theorem ARun.region {id : Nat} {ops : Array Oper} (h : AOps P ops ops.toList s H s' H') : ARun P (.region id ops false) s H .normal s' H' :=
  ⟨h.next, fun ι a w hS hs => wp_region_list (h.wp ι a w hS hs _ fun ι' a' w' h1 h2 h3 => ⟨rfl, ι', h1, h2, h3⟩)⟩

/-! ### Code -/
theorem ARun.skip : ARun P .skip s H .normal s H := ⟨Nat.le_refl _, fun ι a w hS hs => wp_skip ⟨rfl, ι, hs, hS, Evo.refl _ _ _ _⟩⟩
theorem ARun.label {l : Nat} : ARun P (.label l) s H .normal s H := ⟨Nat.le_refl _, fun ι a w hS hs => wp_label ⟨rfl, ι, hs, hS, Evo.refl _ _ _ _⟩⟩
theorem ARun.exit {id : Nat} : ARun P (.exit id) s H (.exit id) s H := ⟨Nat.le_refl _, fun ι a w hS hs => wp_exit ⟨rfl, ι, hs, hS, Evo.refl _ _ _ _⟩⟩
theorem ARun.ret : ARun P .ret s H .ret s H := ⟨Nat.le_refl _, fun ι a w hS hs => wp_ret ⟨rfl, ι, hs, hS, Evo.refl _ _ _ _⟩⟩
theorem ARun.seq {x y : Code} {ex : Exit} (h1 : ARun P x s H .normal s1 H1) (h2 : ARun P y s1 H1 ex s' H') : ARun P (.seq x y) s H ex s' H' :=
  ⟨Nat.le_trans h1.next h2.next, fun ι a w hS hs => wp_seq (wp_mono (h1.run ι a w hS hs) fun e a1 w1 ⟨he, ι1, g1, g2, g3⟩ => by
    subst he
    exact wp_mono (h2.run ι1 a1 w1 g2 g1) fun e a2 w2 ⟨he, ι2, k1, k2, k3⟩ => ⟨he, ι2, k1, k2, g3.trans k3 h1.next⟩)⟩
theorem ARun.seq_out {x y : Code} {ex : Exit} (h1 : ARun P x s H ex s' H') (he : ex ≠ .normal) : ARun P (.seq x y) s H ex s' H' :=
  ⟨h1.next, fun ι a w hS hs => wp_seq (wp_mono (h1.run ι a w hS hs) fun e a1 w1 ⟨hx, g⟩ => by
    subst hx
    cases e <;> first | exact absurd rfl he | exact ⟨rfl, g⟩)⟩
theorem ARun.cond {c : Operand} {x y : Code} {ex : Exit} {b : Bool} (hc : opnd s c = some (.bool b)) (h : ARun P (if b then x else y) s H ex s' H') : ARun P (.cond c x y) s H ex s' H' :=
  ⟨h.next, fun ι a w hS hs => wp_cond ((hs.opnd hc).scalar_eq rfl) (h.run ι a w hS hs)⟩
theorem ARun.block {id : Nat} {c : Code} {ex : Exit} (h : ARun P c s H ex s' H') (he : ex ≠ .exit id) : ARun P (.block id c) s H ex s' H' :=
  ⟨h.next, fun ι a w hS hs => wp_block (wp_mono (h.run ι a w hS hs) fun e a1 w1 ⟨hx, g⟩ => by
    subst hx
    cases e <;> first | exact ⟨rfl, g⟩ | (rename_i k; simp only [Exit.inBlock]; rw [if_neg (fun e => he (by rw [e]))]; exact ⟨trivial, g⟩))⟩
theorem ARun.block_exit {id : Nat} {c : Code} (h : ARun P c s H (.exit id) s' H') : ARun P (.block id c) s H .normal s' H' :=
  ⟨h.next, fun ι a w hS hs => wp_block (wp_mono (h.run ι a w hS hs) fun e a1 w1 ⟨hx, g⟩ => by
    subst hx
    simp only [Exit.inBlock, if_true]
    exact ⟨trivial, g⟩)⟩

/-- The rounds of a loop. -/
inductive ALoop (P : Program) (c : Code) : List Value → AH → Exit → List Value → AH → Prop
  | again {s s1 s' : List Value} {H H1 H' : AH} {ex : Exit} : ARun P c s H .normal s1 H1 → ALoop P c s1 H1 ex s' H' → ALoop P c s H ex s' H'
  | out {s s' : List Value} {H H' : AH} {ex : Exit} : ARun P c s H ex s' H' → ex ≠ .normal → ALoop P c s H ex s' H'
theorem ALoop.next {c : Code} {ex : Exit} (h : ALoop P c s H ex s' H') : H.next ≤ H'.next := by
  induction h with
  | again h1 _ ih => exact Nat.le_trans h1.next ih
  | out h1 _ => exact h1.next
theorem ALoop.rounds {c : Code} {ex : Exit} (h : ALoop P c s H ex s' H') : ∃ n, ∀ (ι : Ren) (a : Act) (w : World), Sim H.next ι H.get w → SR ι s a →
    ∀ Q : Exit → Act → World → Prop, (∀ ι' a' w', SR ι' s' a' → Sim H'.next ι' H'.get w' → Evo H.next ι H.get w ι' H'.get w' → Q ex a' w') → Code.rounds P c Q n a w := by
  induction h with
  | again h1 _ ih =>
    obtain ⟨n, hn⟩ := ih
    refine ⟨n + 1, fun ι a w hS hs Q hQ => ?_⟩
    rw [rounds_succ]
    refine wp_mono (h1.run ι a w hS hs) fun e a1 w1 ⟨he, ι1, g1, g2, g3⟩ => ?_
    subst he
    exact hn ι1 a1 w1 g2 g1 Q fun ι2 a2 w2 k1 k2 k3 => hQ ι2 a2 w2 k1 k2 (g3.trans k3 h1.next)
  | out h1 he =>
    refine ⟨1, fun ι a w hS hs Q hQ => ?_⟩
    rw [rounds_succ]
    refine wp_mono (h1.run ι a w hS hs) fun e a1 w1 ⟨hx, ι1, g1, g2, g3⟩ => ?_
    subst hx
    have hq := hQ ι1 a1 w1 g1 g2 g3
    cases e <;> first | exact absurd rfl he | exact hq
theorem ARun.loop {c : Code} {ex : Exit} (h : ALoop P c s H ex s' H') : ARun P (.loop c) s H ex s' H' :=
  ⟨h.next, fun ι a w hS hs => by
    obtain ⟨n, hn⟩ := h.rounds
    exact wp_loop_rounds n (hn ι a w hS hs _ fun ι' a' w' g1 g2 g3 => ⟨rfl, ι', g1, g2, g3⟩)⟩

/-! ### Calls -/
/-- What a call hands back, out of its frame. -/
def aresult (P : Program) (s : List Value) (H : AH) : ResultVar → Option Value
  | .tmp t => some (s.getD t undef)
  | .cell a t => match s.getD a undef with
    | .pointer (some p) => aload P t (.pointer (some p)) H.get
    | _ => none
def aresults (P : Program) (s : List Value) (H : AH) : List ResultVar → Option (List Value)
  | [] => some []
  | r :: rs => (aresult P s H r).bind fun v => (aresults P s H rs).map (v :: ·)
def aret (P : Program) (fn : Func) (s : List Value) (H : AH) : Option Value :=
  (aresults P s H fn.results.toList).map fun
    | [v] => v
    | vs => .tuple ⟨vs⟩
theorem aresult_ok {ι : Ren} {a : Act} {w : World} {n : Nat} (hS : Sim n ι H.get w) (hs : SR ι s a) {r : ResultVar} {v : Value} (h : aresult P s H r = some v) :
    ∃ v', ((match r with | .tmp t => pure (a.tmps.getD t undef) | .cell b t => do loadVar t (← asAddr (a.tmps.getD b undef)) : Sem Value)).run P w = .ok v' w ∧ VR ι v v' := by
  cases r with
  | tmp t => simp only [aresult] at h; cases h; exact ⟨_, rfl, hs.val t⟩
  | cell b t =>
    simp only [aresult] at h
    split at h
    · rename_i p hp
      have hv := hs.val b
      rw [hp] at hv
      obtain ⟨bb, off, tg⟩ := p
      have hq := h
      unfold aload at hq
      split at hq
      · rename_i b' off' heq
        cases heq
        obtain ⟨cb, co, ex, hb, he⟩ := hv.ptr_inv
        obtain ⟨r', e1, e2⟩ := aload_ok h (VR.ptr hb) hS
        refine ⟨r', ?_, e2⟩
        simp only [he]
        simpa [Instr.loadAt, Instr.sureAddr, asAddr] using e1
      · cases hq
    · cases h
theorem aresults_ok {ι : Ren} {a : Act} {w : World} {n : Nat} (hS : Sim n ι H.get w) (hs : SR ι s a) : ∀ {rs : List ResultVar} {l : List Value}, aresults P s H rs = some l →
    ∃ l', (rs.mapM fun | .tmp t => pure (a.tmps.getD t undef) | .cell b t => do loadVar t (← asAddr (a.tmps.getD b undef)) : Sem (List Value)).run P w = .ok l' w ∧ VRs ι l l'
  | [], l, h => by simp only [aresults] at h; cases h; exact ⟨[], by simp, .nil⟩
  | r :: rs, l, h => by
    simp only [aresults] at h
    obtain ⟨v, hv, h⟩ := Option.bind_eq_some_iff.1 h
    obtain ⟨m, hm, h⟩ := Option.map_eq_some_iff.1 h
    subst h
    obtain ⟨v', e1, e2⟩ := aresult_ok hS hs hv
    obtain ⟨m', e3, e4⟩ := aresults_ok hS hs hm
    refine ⟨v' :: m', ?_, .cons e2 e4⟩
    rw [List.mapM_cons, Sem.run_bind, e1]
    simp only [Result.andThen_ok, Sem.run_bind, e3, Sem.run_pure]
theorem aret_ok {ι : Ren} {a : Act} {w : World} {n : Nat} {fn : Func} {v : Value} (hS : Sim n ι H.get w) (hs : SR ι s a) (h : aret P fn s H = some v) : ∃ v', (results fn a.tmps).run P w = .ok v' w ∧ VR ι v v' := by
  unfold aret at h
  obtain ⟨l, hl, h⟩ := Option.map_eq_some_iff.1 h
  obtain ⟨l', e1, e2⟩ := aresults_ok hS hs hl
  have hrun : (results fn a.tmps).run P w = .ok (if h : l'.toArray.size = 1 then l'.toArray[0] else .tuple l'.toArray) w := by
    unfold results
    rw [Array.mapM_eq_mapM_toList]
    simp only [Sem.run_bind, Sem.run_map]
    erw [e1]
    simp only [Result.andThen_ok, Sem.run_pure]
  refine ⟨_, hrun, ?_⟩
  subst h
  cases e2 with
  | nil => exact .tup .nil
  | cons hv hr =>
    cases hr with
    | nil => exact hv
    | cons hv2 hr2 => exact .tup (.cons hv (.cons hv2 hr2))
theorem ACalls.of_run {f : FuncId} {fn : Func} {c : Code} {args : List Value} {v : Value} {ex : Exit} (hf : P.funcs[f]? = some fn) (hb : fn.body = some c) (hex : ex = .normal ∨ ex = .ret)
    (h : ARun P c (args ++ List.replicate (fn.ntmps - args.length) undef) H ex s' H') (hr : aret P fn s' H' = some v) : ACalls P f args H v H' := by
  refine ⟨h.next, fun ι w cargs hS hv => calls_of_wp hf hb ?_⟩
  have hlen : cargs.size = args.length := by simpa using hv.length.symm
  have hs : SR ι (args ++ List.replicate (fn.ntmps - args.length) undef) { tmps := cargs ++ Array.replicate (fn.ntmps - cargs.size) undef, defers := [] } := by
    have hall : VRs ι (args ++ List.replicate (fn.ntmps - args.length) undef) (cargs ++ Array.replicate (fn.ntmps - cargs.size) undef).toList := by
      rw [Array.toList_append, Array.toList_replicate, hlen]
      refine hv.append ?_
      generalize fn.ntmps - args.length = k
      induction k with
      | zero => exact .nil
      | succ k ih => rw [List.replicate_succ]; exact .cons (VR.undef ι) ih
    refine ⟨by simp [hlen], fun t => ?_, rfl⟩
    have := hall.getD t
    rw [Array.getD_eq_getD_getElem?, ← Array.getElem?_toList, ← List.getD_eq_getElem?_getD]
    exact this
  refine wp_mono (h.run ι _ w hS hs) fun e a1 w1 ⟨he, ι1, g1, g2, g3⟩ => ?_
  obtain ⟨v', e1, e2⟩ := aret_ok g2 g1 hr
  subst he
  rcases hex with rfl | rfl
  · exact ⟨g1.defers, v', e1, ι1, v', rfl, e2, g2, g3⟩
  · exact ⟨g1.defers, v', e1, ι1, v', rfl, e2, g2, g3⟩
end
end
end Go.Am
