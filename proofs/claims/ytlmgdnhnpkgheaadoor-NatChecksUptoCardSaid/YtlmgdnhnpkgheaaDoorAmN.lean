/- For proofs with variables: what a piece of code comes to, with what follows as a predicate. -/
import Derived.Test.YtlmgdnhnpkgheaaDoorAmM
namespace Go.Am
open Go
noncomputable section
set_option linter.unusedSimpArgs false
set_option linter.unusedVariables false

/-! ### Frames -/
def up (σ : Nat → Value) (d : Nat) (v : Value) : Nat → Value := fun t => bif Nat.beq t d then v else σ t
theorem up_upd (σ : Nat → Value) (d : Nat) (v : Value) : up σ d v = upd σ d v := by
  funext t
  unfold up upd
  by_cases h : t = d
  · subst h; simp
  · have : Nat.beq t d = false := by cases e : Nat.beq t d with | false => rfl | true => exact absurd (Nat.eq_of_beq_eq_true e) h
    rw [this, if_neg h]; rfl
theorem up_ne {σ : Nat → Value} {d : Nat} {v : Value} {t : Nat} (h : t ≠ d) : up σ d v t = σ t := by rw [up_upd]; simp [upd, h]
def upo (σ : Nat → Value) (d : Option Tmp) (v : Value) : Nat → Value := match d with | some d => up σ d v | none => σ
def dok (n : Nat) (d : Option Tmp) : Bool := match d with | some d => Nat.blt d n | none => true
theorem blt_iff {a b : Nat} : Nat.blt a b = true ↔ a < b := by simp [Nat.blt, Nat.lt_iff_add_one_le]
theorem putd_upo {n : Nat} {σ : Nat → Value} {d : Option Tmp} {v : Value} (h : dok n d = true) : putd (toL n σ) d v = toL n (upo σ d v) := by
  cases d with
  | none => rfl
  | some d => rw [putd_toL (blt_iff.1 h)]; simp only [upo, up_upd]

def oval (σ : Nat → Value) : Operand → Value
  | .tmp t => σ t
  | .const v => v
  | .func f => .func (.func f) #[] #[]
  | .global _ => undef
def ook (n : Nat) : Operand → Bool
  | .tmp t => Nat.blt t n
  | .const v => closed v
  | .func _ => true
  | .global _ => false
theorem opnd_oval {n : Nat} {σ : Nat → Value} {x : Operand} (h : ook n x = true) : opnd (toL n σ) x = some (oval σ x) := by
  cases x with
  | tmp t => exact opnd_toL (blt_iff.1 h)
  | const v => exact opnd_const h
  | func f => rfl
  | global g => simp [ook] at h
theorem opnd_oval' {n : Nat} {σ : Nat → Value} {x : Operand} {v : Value} (h : ook n x = true) (hv : oval σ x = v) : opnd (toL n σ) x = some v := by rw [opnd_oval h, hv]
theorem opndL_oval {n : Nat} {σ : Nat → Value} : ∀ {xs : List Operand}, xs.all (ook n) = true → opndL (toL n σ) xs = some (xs.map (oval σ))
  | [], _ => rfl
  | x :: xs, h => by
    simp only [List.all_cons, Bool.and_eq_true] at h
    simp [opndL, opnd_oval h.1, opndL_oval h.2]

/-! ### What a piece of code writes -/
def wrL : List Oper → Nat → Bool
  | [], _ => false
  | o :: l, t => (match o.dst with | some d => Nat.beq t d | none => false) || wrL l t
def wrC : Code → Nat → Bool
  | .region _ ops _, t => wrL ops.toList t
  | .seq a b, t => wrC a t || wrC b t
  | .cond _ a b, t => wrC a t || wrC b t
  | .block _ c, t => wrC c t
  | .loop c, t => wrC c t
  | .scope c, t => wrC c t
  | .rangeFunc _ _ _ _, _ => true
  | _, _ => false
theorem wrL_upo {o : Oper} {l : List Oper} {t : Nat} (h : wrL (o :: l) t = false) (σ : Nat → Value) (v : Value) : upo σ o.dst v t = σ t := by
  simp only [wrL, Bool.or_eq_false_iff] at h
  cases hd : o.dst with
  | none => rfl
  | some d =>
    rw [hd] at h
    simp only [upo, up, h.1, cond_false]

/-! ### What comes next -/
abbrev QX := Exit → (Nat → Value) → AH → Prop
def AWO (P : Program) (n : Nat) (ops : Array Oper) (l : List Oper) (σ : Nat → Value) (H : AH) (Q : (Nat → Value) → AH → Prop) : Prop :=
  ∃ σ' H', AOps P ops l (toL n σ) H (toL n σ') H' ∧ (∀ t, wrL l t = false → σ' t = σ t) ∧ Q σ' H'
def AW (P : Program) (n : Nat) (c : Code) (σ : Nat → Value) (H : AH) (Q : QX) : Prop :=
  ∃ ex σ' H', ARun P c (toL n σ) H ex (toL n σ') H' ∧ (∀ t, wrC c t = false → σ' t = σ t) ∧ Q ex σ' H'

section
variable {P : Program} {n : Nat} {σ : Nat → Value} {H H1 : AH} {Q : QX} {ops : Array Oper} {l : List Oper} {QO : (Nat → Value) → AH → Prop} {o : Oper} {v : Value}

theorem AWO.nil (h : QO σ H) : AWO P n ops [] σ H QO := ⟨σ, H, .nil, fun _ _ => rfl, h⟩
theorem AWO.step (hw : Region.wanted o (ayield ops (toL n σ)) = true) (hd : dok n o.dst = true) (hs : StepOk P o (toL n σ) H v H1) (hr : AWO P n ops l (upo σ o.dst v) H1 QO) : AWO P n ops (o :: l) σ H QO := by
  obtain ⟨σ', H', h1, h2, h3⟩ := hr
  exact ⟨σ', H', .step hw hs (by rw [putd_upo hd]; exact h1), fun t ht => (h2 t (by simp only [wrL, Bool.or_eq_false_iff] at ht; exact ht.2)).trans (wrL_upo ht σ v), h3⟩
theorem AWO.skip (hw : Region.wanted o (ayield ops (toL n σ)) = false) (hd : dok n o.dst = true) (hr : AWO P n ops l (upo σ o.dst undef) H QO) : AWO P n ops (o :: l) σ H QO := by
  obtain ⟨σ', H', h1, h2, h3⟩ := hr
  exact ⟨σ', H', .skip hw (by rw [putd_upo hd]; exact h1), fun t ht => (h2 t (by simp only [wrL, Bool.or_eq_false_iff] at ht; exact ht.2)).trans (wrL_upo ht σ undef), h3⟩
/-- What the guard says of an operation: none, or the value of the operation that it looks at. -/
def gok (n : Nat) (ops : Array Oper) (σ : Nat → Value) (g : Option (Nat × Bool)) (r : Bool) : Prop :=
  match g with
  | none => r = true
  | some (j, want) => match (ops[j]?).bind (·.dst) with
    | some d => d < n ∧ ∃ b, σ d = .bool b ∧ r = (b == want)
    | none => False
theorem wanted_gok {r : Bool} (h : gok n ops σ o.guard r) : Region.wanted o (ayield ops (toL n σ)) = r := by
  unfold gok at h
  unfold Region.wanted
  cases hg : o.guard with
  | none => rw [hg] at h; exact h.symm
  | some p =>
    obtain ⟨j, want⟩ := p
    rw [hg] at h
    simp only at h ⊢
    unfold ayield
    split at h
    · rename_i d hd
      obtain ⟨hlt, b, hb, hr⟩ := h
      rw [hd, Option.bind_some, toL_get hlt, hb, hr]
      cases b <;> cases want <;> rfl
    · cases h

theorem AW.region {id : Nat} (h : AWO P n ops ops.toList σ H (Q .normal)) : AW P n (.region id ops false) σ H Q := by
  obtain ⟨σ', H', h1, h2, h3⟩ := h
  exact ⟨.normal, σ', H', .region h1, h2, h3⟩
def seqQ (P : Program) (n : Nat) (y : Code) (Q : QX) : QX := fun ex σ H => match ex with | .normal => AW P n y σ H Q | e => Q e σ H
theorem AW.seq {x y : Code} (h : AW P n x σ H (seqQ P n y Q)) : AW P n (.seq x y) σ H Q := by
  obtain ⟨ex, σ1, H1, h1, h2, h3⟩ := h
  by_cases he : ex = .normal
  · subst he
    obtain ⟨ex', σ', H', g1, g2, g3⟩ := h3
    exact ⟨ex', σ', H', .seq h1 g1, fun t ht => by simp only [wrC, Bool.or_eq_false_iff] at ht; exact (g2 t ht.2).trans (h2 t ht.1), g3⟩
  · refine ⟨ex, σ1, H1, .seq_out h1 he, fun t ht => by simp only [wrC, Bool.or_eq_false_iff] at ht; exact h2 t ht.1, ?_⟩
    cases ex <;> first | exact absurd rfl he | exact h3
theorem AW.skip (h : Q .normal σ H) : AW P n .skip σ H Q := ⟨_, σ, H, .skip, fun _ _ => rfl, h⟩
theorem AW.label {l : Nat} (h : Q .normal σ H) : AW P n (.label l) σ H Q := ⟨_, σ, H, .label, fun _ _ => rfl, h⟩
theorem AW.exit {id : Nat} (h : Q (.exit id) σ H) : AW P n (.exit id) σ H Q := ⟨_, σ, H, .exit, fun _ _ => rfl, h⟩
theorem AW.ret (h : Q .ret σ H) : AW P n .ret σ H Q := ⟨_, σ, H, .ret, fun _ _ => rfl, h⟩
theorem AW.cond {c : Operand} {x y : Code} {b : Bool} (ok : ook n c = true) (hc : oval σ c = .bool b) (ht : b = true → AW P n x σ H Q) (hf : b = false → AW P n y σ H Q) : AW P n (.cond c x y) σ H Q := by
  cases b with
  | true =>
    obtain ⟨ex, σ', H', h1, h2, h3⟩ := ht rfl
    exact ⟨ex, σ', H', .cond (b := true) (opnd_oval' ok hc) h1, fun t h => by simp only [wrC, Bool.or_eq_false_iff] at h; exact h2 t h.1, h3⟩
  | false =>
    obtain ⟨ex, σ', H', h1, h2, h3⟩ := hf rfl
    exact ⟨ex, σ', H', .cond (b := false) (opnd_oval' ok hc) h1, fun t h => by simp only [wrC, Bool.or_eq_false_iff] at h; exact h2 t h.2, h3⟩
theorem AW.condT {c : Operand} {x y : Code} (ok : ook n c = true) (hc : oval σ c = .bool true) (ht : AW P n x σ H Q) : AW P n (.cond c x y) σ H Q := AW.cond ok hc (fun _ => ht) (fun h => by cases h)
theorem AW.condF {c : Operand} {x y : Code} (ok : ook n c = true) (hc : oval σ c = .bool false) (ht : AW P n y σ H Q) : AW P n (.cond c x y) σ H Q := AW.cond ok hc (fun h => by cases h) (fun _ => ht)
def blockQ (id : Nat) (Q : QX) : QX := fun ex σ H => match ex with
  | .exit k => if k = id then Q .normal σ H else Q (.exit k) σ H
  | e => Q e σ H
theorem AW.block {id : Nat} {c : Code} (h : AW P n c σ H (blockQ id Q)) : AW P n (.block id c) σ H Q := by
  obtain ⟨ex, σ1, H1, h1, h2, h3⟩ := h
  by_cases he : ex = .exit id
  · subst he
    simp only [blockQ, if_true] at h3
    exact ⟨_, σ1, H1, .block_exit h1, h2, h3⟩
  · refine ⟨ex, σ1, H1, .block h1 he, h2, ?_⟩
    cases ex <;> simp only [blockQ] at h3 <;> first | exact h3 | (rename_i k; rw [if_neg (fun e => he (by rw [e]))] at h3; exact h3)
theorem AW.mono {c : Code} {Q' : QX} (h : AW P n c σ H Q) (hq : ∀ ex σ' H', (∀ t, wrC c t = false → σ' t = σ t) → Q ex σ' H' → Q' ex σ' H') : AW P n c σ H Q' := by
  obtain ⟨ex, σ', H', h1, h2, h3⟩ := h
  exact ⟨ex, σ', H', h1, h2, hq _ _ _ h2 h3⟩
def loopQ {α : Type} (I : α → (Nat → Value) → AH → Prop) (μ : α → Nat) (a : α) (Q : QX) : QX := fun ex σ H => match ex with
  | .normal => ∃ b, μ b < μ a ∧ I b σ H
  | e => Q e σ H
theorem AW.loop {α : Type} {c : Code} (I : α → (Nat → Value) → AH → Prop) (μ : α → Nat) (a : α) (h0 : I a σ H)
    (hs : ∀ a σ1 H1, (∀ t, wrC c t = false → σ1 t = σ t) → I a σ1 H1 → AW P n c σ1 H1 (loopQ I μ a Q)) : AW P n (.loop c) σ H Q := by
  suffices ∀ k a σ1 H1, μ a = k → (∀ t, wrC c t = false → σ1 t = σ t) → I a σ1 H1 → ∃ ex σ' H', ALoop P c (toL n σ1) H1 ex (toL n σ') H' ∧ (∀ t, wrC c t = false → σ' t = σ t) ∧ Q ex σ' H' by
    obtain ⟨ex, σ', H', h1, h2, h3⟩ := this _ a σ H rfl (fun _ _ => rfl) h0
    exact ⟨ex, σ', H', .loop h1, h2, h3⟩
  intro k
  induction k using Nat.strongRecOn with
  | ind k ih =>
    intro a σ1 H1 hk hf hI
    obtain ⟨ex, σ2, H2, h1, h2, h3⟩ := hs a σ1 H1 hf hI
    by_cases he : ex = .normal
    · subst he
      obtain ⟨b, hb, hI2⟩ := h3
      obtain ⟨ex', σ', H', g1, g2, g3⟩ := ih (μ b) (by omega) b σ2 H2 rfl (fun t ht => (h2 t ht).trans (hf t ht)) hI2
      exact ⟨ex', σ', H', .again h1 g1, g2, g3⟩
    · refine ⟨ex, σ2, H2, .out h1 he, fun t ht => (h2 t ht).trans (hf t ht), ?_⟩
      cases ex <;> first | exact absurd rfl he | exact h3

/-- A whole function. -/
def retQ (P : Program) (fn : Func) (n : Nat) (R : Value → AH → Prop) : QX := fun ex σ H => match ex with
  | .normal | .ret => ∃ v, aret P fn (toL n σ) H = some v ∧ R v H
  | _ => False
theorem calls_of_AW {f : FuncId} {fn : Func} {c : Code} {args : List Value} {R : Value → AH → Prop} (hf : P.funcs[f]? = some fn) (hb : fn.body = some c) (hn : max fn.ntmps args.length = n)
    (h : AW P n c (fun t => args.getD t undef) H (retQ P fn n R)) : ∃ v H', ACalls P f args H v H' ∧ R v H' := by
  subst hn
  obtain ⟨ex, σ', H', h1, h2, h3⟩ := h
  have hex : ex = .normal ∨ ex = .ret := by
    cases ex <;> first | exact .inl rfl | exact .inr rfl | exact h3.elim
  have h4 : ∃ v, aret P fn (toL (max fn.ntmps args.length) σ') H' = some v ∧ R v H' := by
    rcases hex with rfl | rfl <;> exact h3
  obtain ⟨v, hv, hR⟩ := h4
  exact ⟨v, H', .of_run hf hb hex (by rw [toL_args]; exact h1) hv, hR⟩
theorem aret1 {fn : Func} {t : Tmp} (hr : fn.results.toList = [.tmp t]) (ht : t < n) : aret P fn (toL n σ) H = some (σ t) := by
  simp [aret, hr, aresults, aresult, List.getD_eq_getElem?_getD, toL_get ht]
theorem ret1 {fn : Func} {R : Value → AH → Prop} {t : Tmp} (hr : fn.results.toList = [.tmp t]) (ht : t < n) (h : R (σ t) H) : retQ P fn n R .ret σ H := ⟨_, aret1 hr ht, h⟩
end
end
end Go.Am
