/- A region whose order is open: one run in the text's order tells what every order comes to. -/
import Derived.Test.YtlmgdnhnpkgheaaDoorAmH
import Derived.StillTail
namespace Go.Am
open Go
noncomputable section
set_option linter.unusedSimpArgs false
set_option linter.unusedVariables false

inductive Kd where
  | skip | pure | read | loud
  | alloc (blk : ABlk)

structure Tr where
  ss : Nat → List Value
  HH : Nat → AH
  vv : Nat → Value
  kd : Nat → Kd

/-- The run in the text's order, and what of it must be apart. 'B i j': operation j comes ahead of i in every order. -/
structure DrawOk (P : Program) (ops : Array Oper) (s0 : List Value) (H0 : AH) (T : Tr) (B : Nat → Nat → Bool) : Prop where
  s_0 : T.ss 0 = s0
  h_0 : ∀ b, (T.HH 0).get b = H0.get b
  next0 : (T.HH 0).next = H0.next + ops.size
  put : ∀ i o, ops[i]? = some o → T.ss (i + 1) = putd (T.ss i) o.dst (T.vv i)
  step : ∀ i o, ops[i]? = some o → match T.kd i with
    | .skip => Region.wanted o (ayield ops (T.ss i)) = false ∧ T.vv i = undef ∧ T.HH (i + 1) = T.HH i
    | .pure => Region.wanted o (ayield ops (T.ss i)) = true ∧ apure P (T.ss i) o = some (T.vv i) ∧ T.HH (i + 1) = T.HH i
    | .read => Region.wanted o (ayield ops (T.ss i)) = true ∧ aread P (T.ss i) o (T.HH i).get = some (T.vv i) ∧ T.HH (i + 1) = T.HH i
    | .alloc blk => Region.wanted o (ayield ops (T.ss i)) = true ∧ (∃ k, aalloc P (T.ss i) o = some (blk, k) ∧ T.vv i = k.val (H0.next + i)) ∧ (∀ b, (T.HH (i + 1)).get b = upd (T.HH i).get (H0.next + i) (some blk) b) ∧ (T.HH (i + 1)).next = (T.HH i).next
    | .loud => Region.wanted o (ayield ops (T.ss i)) = true ∧ StepOk P o (T.ss i) (T.HH i) (T.vv i) (T.HH (i + 1))
  res : ∀ i k blk, i ≤ k → k < ops.size → T.kd k = .alloc blk → (T.HH i).get (H0.next + k) = none
  bc : ∀ i j o, ops[i]? = some o → B i j = true → ∃ e ∈ o.after, Region.binds .any e = true ∧ (e.on = j ∨ B e.on j = true)
  back : ∀ i o, ops[i]? = some o → ∀ e ∈ o.after, Region.binds .any e = true → e.on < i
  tmp1 : ∀ i j oi oj d, i < j → ops[i]? = some oi → ops[j]? = some oj → oi.dst = some d → (d ∈ oj.looksAt ops ∨ oj.dst = some d) → B j i = true
  tmp2 : ∀ i j oi oj d, i < j → ops[i]? = some oi → ops[j]? = some oj → oj.dst = some d → d ∈ oi.looksAt ops → B j i = true
  ll : ∀ i j, i < j → j < ops.size → T.kd i = .loud → T.kd j = .loud → B j i = true
  rd : ∀ i p o b, ops[i]? = some o → p < ops.size → T.kd i = .read → readsOf (T.ss i) o = some b → T.kd p = .loud → B i p = true ∨ B p i = true ∨ (T.HH (p + 1)).get b = (T.HH p).get b
  al : ∀ k p blk, k < p → p < ops.size → T.kd k = .alloc blk → T.kd p = .loud → B p k = true ∨ (T.HH (p + 1)).get (H0.next + k) = (T.HH p).get (H0.next + k)

theorem putd_get (s : List Value) (d : Option Tmp) (v : Value) (t : Nat) (h : d ≠ some t) : (putd s d v)[t]? = s[t]? := by
  cases d with
  | none => rfl
  | some d => simp only [putd_some, List.getElem?_set]; rw [if_neg (fun e => h (by rw [e]))]
theorem putd_comm (s : List Value) (d d' : Option Tmp) (v v' : Value) (h : ∀ t, d = some t → d' ≠ some t) : putd (putd s d v) d' v' = putd (putd s d' v') d v := by
  cases d with
  | none => rfl
  | some d =>
    cases d' with
    | none => rfl
    | some d' => simp only [putd_some]; exact List.set_comm _ _ (fun e => h d rfl (by rw [e]))
theorem putd_same (s : List Value) (d : Option Tmp) (v v' : Value) (t : Nat) (h : s[t]? = none) : (putd s d v)[t]? = none := by
  cases d with
  | none => exact h
  | some d => simp at h ⊢; simpa [putd_some] using h
theorem opnd_congr {s s' : List Value} {x : Operand} (h : ∀ t, x = .tmp t → s[t]? = s'[t]?) : opnd s x = opnd s' x := by
  cases x <;> simp only [opnd, rget_eq]
  case tmp t => rw [List.getD_eq_getElem?_getD, List.getD_eq_getElem?_getD, h t rfl]

/-- The frame when the operations in 'S' have come up. -/
def slotsS (T : Tr) (ops : Array Oper) (s0 : List Value) (S : Nat → Bool) : Nat → List Value
  | 0 => s0
  | k + 1 => if S k then putd (slotsS T ops s0 S k) ((ops[k]?).bind (·.dst)) (T.vv k) else slotsS T ops s0 S k

section
variable {P : Program} {ops : Array Oper} {s0 : List Value} {H0 : AH} {T : Tr} {B : Nat → Nat → Bool} (D : DrawOk P ops s0 H0 T B)
include D

def Closed (ops : Array Oper) (S : Nat → Bool) : Prop := ∀ i o, ops[i]? = some o → S i = true → ∀ e ∈ o.after, Region.binds .any e = true → S e.on = true
omit D in
theorem lt_of_get {i : Nat} {o : Oper} (h : ops[i]? = some o) : i < ops.size := (Array.getElem?_eq_some_iff.1 h).1

theorem DrawOk.anc {S : Nat → Bool} (hS : Closed ops S) : ∀ i, i < ops.size → (∀ o, ops[i]? = some o → ∀ e ∈ o.after, Region.binds .any e = true → S e.on = true) → ∀ j, B i j = true → S j = true := by
  intro i
  induction i using Nat.strongRecOn with
  | _ i ih =>
    intro hi hr j hB
    obtain ⟨o, ho⟩ : ∃ o, ops[i]? = some o := ⟨_, Array.getElem?_eq_getElem hi⟩
    obtain ⟨e, he, hb, h⟩ := D.bc i j o ho hB
    have h1 := hr o ho e he hb
    rcases h with rfl | h
    · exact h1
    · have hlt := D.back i o ho e he hb
      exact ih e.on hlt (by omega) (fun o' ho' => hS e.on o' ho' h1) j h

/-- What an operation that comes up sees is what it sees in the text's order. -/
theorem DrawOk.slot_at {S : Nat → Bool} (hS : Closed ops S) {i : Nat} {o : Oper} (ho : ops[i]? = some o) (hi : S i = false) (hr : ∀ e ∈ o.after, Region.binds .any e = true → S e.on = true) {t : Nat} (ht : t ∈ o.looksAt ops) :
    (slotsS T ops s0 S ops.size)[t]? = (T.ss i)[t]? := by
  have hlt := lt_of_get ho
  have hanc := D.anc hS i hlt (fun o' ho' => by rw [ho] at ho'; cases ho'; exact hr)
  have h1 : ∀ m, m ≤ i → (slotsS T ops s0 S m)[t]? = (T.ss m)[t]? := by
    intro m
    induction m with
    | zero => intro _; rw [D.s_0]; rfl
    | succ m ih =>
      intro hm
      obtain ⟨om, hom⟩ : ∃ o, ops[m]? = some o := ⟨_, Array.getElem?_eq_getElem (by omega)⟩
      rw [D.put m om hom]
      simp only [slotsS, hom, Option.bind_some]
      by_cases hd : om.dst = some t
      · have hB := D.tmp1 m i om o t (by omega) hom ho hd (.inl ht)
        rw [if_pos (hanc m hB), hd]
        simp only [putd_some, List.getElem?_set]
        have hl : (slotsS T ops s0 S m).length = (T.ss m).length ∨ True := .inr trivial
        have := ih (by omega)
        by_cases hle : t < (T.ss m).length
        · have hle' : t < (slotsS T ops s0 S m).length := by
            rcases Nat.lt_or_ge t (slotsS T ops s0 S m).length with h | h
            · exact h
            · rw [List.getElem?_eq_none h, List.getElem?_eq_getElem hle] at this; cases this
          simp [hle, hle']
        · have hle' : ¬ t < (slotsS T ops s0 S m).length := fun h => by
            rw [List.getElem?_eq_getElem h, List.getElem?_eq_none (by omega)] at this; cases this
          simp [hle, hle']
      · rw [putd_get _ _ _ _ hd]
        split
        · rw [putd_get _ _ _ _ hd]; exact ih (by omega)
        · exact ih (by omega)
  have h2 : ∀ d, i + d ≤ ops.size → (slotsS T ops s0 S (i + d))[t]? = (slotsS T ops s0 S i)[t]? := by
    intro d
    induction d with
    | zero => intro _; rfl
    | succ d ih =>
      intro hm
      rw [← Nat.add_assoc]
      obtain ⟨om, hom⟩ : ∃ o, ops[i + d]? = some o := ⟨_, Array.getElem?_eq_getElem (by omega)⟩
      simp only [slotsS, hom, Option.bind_some]
      split
      · rename_i hSm
        have hd : om.dst ≠ some t := fun hd => by
          rcases Nat.eq_zero_or_pos d with h0 | h0
          · subst h0; rw [Nat.add_zero] at hSm; rw [hi] at hSm; cases hSm
          · have hB := D.tmp2 i (i + d) o om t (by omega) ho hom hd ht
            have := D.anc hS (i + d) (by omega) (fun o' ho' => hS (i + d) o' ho' hSm) i hB
            rw [hi] at this; cases this
        rw [putd_get _ _ _ _ hd]; exact ih (by omega)
      · exact ih (by omega)
  have := h2 (ops.size - i) (by omega)
  rw [show i + (ops.size - i) = ops.size by omega] at this
  rw [this, h1 i (Nat.le_refl _)]

theorem DrawOk.slot_put {S : Nat → Bool} (hS : Closed ops S) {i : Nat} {o : Oper} (ho : ops[i]? = some o) (hi : S i = false) :
    slotsS T ops s0 (fun k => if k = i then true else S k) ops.size = putd (slotsS T ops s0 S ops.size) o.dst (T.vv i) := by
  have hlt := lt_of_get ho
  have h1 : ∀ m, m ≤ i → slotsS T ops s0 (fun k => if k = i then true else S k) m = slotsS T ops s0 S m := by
    intro m
    induction m with
    | zero => intro _; rfl
    | succ m ih => intro hm; simp only [slotsS, ih (by omega)]; rw [if_neg (show ¬ m = i by omega)]
  have h2 : ∀ d, i + 1 + d ≤ ops.size → slotsS T ops s0 (fun k => if k = i then true else S k) (i + 1 + d) = putd (slotsS T ops s0 S (i + 1 + d)) o.dst (T.vv i) := by
    intro d
    induction d with
    | zero =>
      intro _
      simp only [Nat.add_zero, slotsS, if_true, h1 i (Nat.le_refl _), ho, Option.bind_some]
      rw [if_neg (by rw [hi]; simp)]
    | succ d ih =>
      intro hm
      rw [← Nat.add_assoc]
      obtain ⟨om, hom⟩ : ∃ o, ops[i + 1 + d]? = some o := ⟨_, Array.getElem?_eq_getElem (by omega)⟩
      rw [slotsS, slotsS]
      simp only [hom, Option.bind_some]
      rw [if_neg (show ¬ i + 1 + d = i by omega), ih (by omega)]
      split
      · rename_i hSm
        refine (putd_comm _ _ _ _ _ fun t ht hd => ?_)
        have hB := D.tmp1 i (i + 1 + d) o om t (by omega) ho hom ht (.inr hd)
        have := D.anc hS (i + 1 + d) (by omega) (fun o' ho' => hS _ o' ho' hSm) i hB
        rw [hi] at this; cases this
      · rfl
  have := h2 (ops.size - (i + 1)) (by omega)
  rwa [show i + 1 + (ops.size - (i + 1)) = ops.size by omega] at this

theorem DrawOk.slot_all {S : Nat → Bool} (h : ∀ i, i < ops.size → S i = true) : ∀ m, m ≤ ops.size → slotsS T ops s0 S m = T.ss m := by
  intro m
  induction m with
  | zero => intro _; exact D.s_0.symm
  | succ m ih =>
    intro hm
    obtain ⟨om, hom⟩ : ∃ o, ops[m]? = some o := ⟨_, Array.getElem?_eq_getElem (by omega)⟩
    rw [D.put m om hom]
    simp only [slotsS, hom, Option.bind_some, ih (by omega)]
    rw [if_pos (h m (by omega))]
omit D in
theorem slot_none : ∀ m, slotsS T ops s0 (fun _ => false) m = s0 := by
  intro m
  induction m with
  | zero => rfl
  | succ m ih => simp [slotsS, ih]

/-! the heap -/
def isA (T : Tr) (k : Nat) : Bool := match T.kd k with | .alloc _ => true | _ => false
def blkA (T : Tr) (k : Nat) : Option ABlk := match T.kd k with | .alloc b => some b | _ => none

theorem DrawOk.next_le : ∀ m, m ≤ ops.size → H0.next + ops.size ≤ (T.HH m).next := by
  intro m
  induction m with
  | zero => intro _; exact Nat.le_of_eq D.next0.symm
  | succ m ih =>
    intro hm
    obtain ⟨om, hom⟩ : ∃ o, ops[m]? = some o := ⟨_, Array.getElem?_eq_getElem (by omega)⟩
    have hs := D.step m om hom
    have := ih (by omega)
    cases hk : T.kd m with
    | skip => rw [hk] at hs; rw [hs.2.2]; exact this
    | pure => rw [hk] at hs; rw [hs.2.2]; exact this
    | read => rw [hk] at hs; rw [hs.2.2]; exact this
    | alloc blk => rw [hk] at hs; rw [hs.2.2.2]; exact this
    | loud => rw [hk] at hs; exact Nat.le_trans this hs.2.next

/-- A block that no loud operation of a stretch changes. -/
theorem DrawOk.chain {b lo : Nat} : ∀ d, lo + d ≤ ops.size → (∀ p, lo ≤ p → p < lo + d → T.kd p = .loud → (T.HH (p + 1)).get b = (T.HH p).get b) → (∀ p, lo ≤ p → p < lo + d → isA T p = true → b ≠ H0.next + p) →
    (T.HH (lo + d)).get b = (T.HH lo).get b := by
  intro d
  induction d with
  | zero => intro _ _ _; rfl
  | succ d ih =>
    intro hm hl ha
    have := ih (by omega) (fun p h1 h2 => hl p h1 (by omega)) (fun p h1 h2 => ha p h1 (by omega))
    rw [← this]
    obtain ⟨om, hom⟩ : ∃ o, ops[lo + d]? = some o := ⟨_, Array.getElem?_eq_getElem (by omega)⟩
    have hs := D.step (lo + d) om hom
    rw [← Nat.add_assoc]
    cases hk : T.kd (lo + d) with
    | skip => rw [hk] at hs; rw [hs.2.2]
    | pure => rw [hk] at hs; rw [hs.2.2]
    | read => rw [hk] at hs; rw [hs.2.2]
    | alloc blk => rw [hk] at hs; rw [hs.2.2.1 b, upd_other]; exact ha (lo + d) (by omega) (by omega) (by simp [isA, hk])
    | loud => exact hl (lo + d) (by omega) (by omega) hk
theorem DrawOk.next_chain {lo : Nat} : ∀ d, lo + d ≤ ops.size → (∀ p, lo ≤ p → p < lo + d → T.kd p ≠ .loud) → (T.HH (lo + d)).next = (T.HH lo).next := by
  intro d
  induction d with
  | zero => intro _ _; rfl
  | succ d ih =>
    intro hm hl
    rw [← ih (by omega) (fun p h1 h2 => hl p h1 (by omega))]
    obtain ⟨om, hom⟩ : ∃ o, ops[lo + d]? = some o := ⟨_, Array.getElem?_eq_getElem (by omega)⟩
    have hs := D.step (lo + d) om hom
    rw [← Nat.add_assoc]
    cases hk : T.kd (lo + d) with
    | skip => rw [hk] at hs; rw [hs.2.2]
    | pure => rw [hk] at hs; rw [hs.2.2]
    | read => rw [hk] at hs; rw [hs.2.2]
    | alloc blk => rw [hk] at hs; rw [hs.2.2.2]
    | loud => exact absurd hk (hl (lo + d) (by omega) (by omega))

/-- What the blocks hold when the operations in 'S' have come up, the next loud one being 'm'. -/
def GS (H0 : AH) (ops : Array Oper) (T : Tr) (S : Nat → Bool) (m : Nat) : Nat → Option ABlk := fun b =>
  if H0.next ≤ b ∧ b < H0.next + ops.size ∧ isA T (b - H0.next) = true then
    (if S (b - H0.next) then (if b - H0.next < m then (T.HH m).get b else blkA T (b - H0.next)) else none)
  else (T.HH m).get b

/-- 'm' is the next loud operation. -/
structure Next (ops : Array Oper) (T : Tr) (S : Nat → Bool) (m : Nat) : Prop where
  le : m ≤ ops.size
  loud : m < ops.size → T.kd m = .loud ∧ S m = false
  before : ∀ p, p < m → T.kd p = .loud → S p = true

omit D in
theorem exists_next (S : Nat → Bool) : ∃ m, Next ops T S m := by
  have h : ∀ k, k ≤ ops.size → (∃ m, Next ops T S m) ∨ ∀ p, p < k → T.kd p = .loud → S p = true := by
    intro k
    induction k with
    | zero => intro _; exact .inr fun p hp => by omega
    | succ k ih =>
      intro hk
      rcases ih (by omega) with h | h
      · exact .inl h
      · by_cases hl : T.kd k = .loud
        · cases hS : S k with
          | true =>
            refine .inr fun p hp hkp => ?_
            by_cases e : p = k
            · subst e; exact hS
            · exact h p (by omega) hkp
          | false => exact .inl ⟨k, by omega, fun _ => ⟨hl, hS⟩, h⟩
        · refine .inr fun p hp hkp => ?_
          by_cases e : p = k
          · subst e; exact absurd hkp hl
          · exact h p (by omega) hkp
  rcases h ops.size (Nat.le_refl _) with h | h
  · exact h
  · exact ⟨ops.size, Nat.le_refl _, fun h => by omega, h⟩

omit D in
theorem isA_blk {k : Nat} (h : isA T k = true) : ∃ blk, T.kd k = .alloc blk ∧ blkA T k = some blk := by
  unfold isA at h
  cases hk : T.kd k with
  | alloc blk => exact ⟨blk, rfl, by simp [blkA, hk]⟩
  | _ => rw [hk] at h; simp at h
omit D in
theorem GS_old {S : Nat → Bool} {m b : Nat} (h : ¬ (H0.next ≤ b ∧ b < H0.next + ops.size ∧ isA T (b - H0.next) = true)) : GS H0 ops T S m b = (T.HH m).get b := by
  unfold GS; rw [if_neg h]
omit D in
theorem GS_new {S : Nat → Bool} {m k : Nat} (hk : k < ops.size) (hA : isA T k = true) : GS H0 ops T S m (H0.next + k) = if S k then (if k < m then (T.HH m).get (H0.next + k) else blkA T k) else none := by
  unfold GS
  rw [if_pos ⟨by omega, by omega, by rw [Nat.add_sub_cancel_left]; exact hA⟩, Nat.add_sub_cancel_left]

omit D in
theorem getD_replicate_false_both (m j : Nat) : (Array.replicate m false).getD j false = false := by
  simp [Array.getD_eq_getD_getElem?, Array.getElem?_replicate]; split <;> rfl

structure Inv (P : Program) (ops : Array Oper) (s0 : List Value) (H0 : AH) (T : Tr) (B : Nat → Nat → Bool) (ι0 : Ren) (w0 : World) (S : Nat → Bool) (a : Act) (w : World) : Prop where
  closed : Closed ops S
  ex : ∃ ι m, Next ops T S m ∧ SR ι (slotsS T ops s0 S ops.size) a ∧ Sim (T.HH m).next ι (GS H0 ops T S m) w ∧ (∀ k, k < ops.size → isA T k = true → S k = false → ι (H0.next + k) = none) ∧
    Evo H0.next ι0 H0.get w0 ι (GS H0 ops T S m) w

omit D in
theorem Sim.restrict {n : Nat} {ι : Ren} {G G' : Nat → Option ABlk} {w : World} (h : Sim n ι G w) (hs : ∀ b x y, G' b = some x → ι b = some y → G b = some x) : Sim n ι G' w :=
  ⟨fun b x cb co ex hG hb => h.blk b x cb co ex (hs b x _ hG hb) hb, fun b b' x x' cb co ex cb' co' ex' hne hG hG' ho hi hi' => h.inj b b' x x' cb co ex cb' co' ex' hne (hs b x _ hG hi) (hs b' x' _ hG' hi') ho hi hi', h.dom⟩

/-- The next loud operation comes up. -/
theorem DrawOk.loud_step {ι : Ren} {S : Nat → Bool} {m : Nat} {o : Oper} {a : Act} {w : World} (hc : Closed ops S) (ho : ops[m]? = some o) (hm : Next ops T S m) (hSm : S m = false) (hkd : T.kd m = .loud)
    (hS : Sim (T.HH m).next ι (GS H0 ops T S m) w) (hfree : ∀ k, k < ops.size → isA T k = true → S k = false → ι (H0.next + k) = none) :
    Sim (T.HH m).next ι (T.HH m).get w ∧ ∀ ι' w', Sim (T.HH (m + 1)).next ι' (T.HH (m + 1)).get w' → Evo (T.HH m).next ι (T.HH m).get w ι' (T.HH (m + 1)).get w' →
      ∃ m', Next ops T (fun k => if k = m then true else S k) m' ∧ Sim (T.HH m').next ι' (GS H0 ops T (fun k => if k = m then true else S k) m') w' ∧
        (∀ k, k < ops.size → isA T k = true → (if k = m then true else S k) = false → ι' (H0.next + k) = none) ∧
        Evo H0.next ι (GS H0 ops T S m) w ι' (GS H0 ops T (fun k => if k = m then true else S k) m') w' := by
  have hlt := lt_of_get ho
  have hnle := D.next_le m (by omega)
  have hmA : isA T m = false := by simp [isA, hkd]
  have hsub : ∀ b x y, (T.HH m).get b = some x → ι b = some y → GS H0 ops T S m b = some x := fun b x y hG hb => by
    by_cases hA : H0.next ≤ b ∧ b < H0.next + ops.size ∧ isA T (b - H0.next) = true
    · obtain ⟨k, rfl⟩ : ∃ k, b = H0.next + k := ⟨b - H0.next, by omega⟩
      rw [Nat.add_sub_cancel_left] at hA
      have hk : k < ops.size := by omega
      rw [GS_new hk hA.2.2]
      cases hSk : S k with
      | false => rw [hfree k hk hA.2.2 hSk] at hb; cases hb
      | true =>
        rw [if_pos rfl]
        by_cases hkm : k < m
        · rw [if_pos hkm]; exact hG
        · obtain ⟨blk, hkk, _⟩ := isA_blk hA.2.2
          rw [D.res m k blk (by omega) hk hkk] at hG; cases hG
    · rw [GS_old hA]; exact hG
  have hS1 := hS.restrict hsub
  refine ⟨hS1, fun ι' w' hS' hE => ?_⟩
  obtain ⟨m', hm'⟩ := exists_next (T := T) (ops := ops) (fun k => if k = m then true else S k)
  -- what is loud behind m has not come up
  have hafter : ∀ p, m < p → p < ops.size → T.kd p = .loud → S p = false := fun p hp hps hkp => by
    cases hSp : S p with
    | false => rfl
    | true =>
      have := D.anc hc p hps (fun o' ho' => hc p o' ho' hSp) m (D.ll m p hp hps hkd hkp)
      rw [hSm] at this; cases this
  have hmm' : m < m' := by
    rcases Nat.lt_or_ge m m' with h | h
    · exact h
    · exfalso
      rcases Nat.lt_or_ge m' ops.size with h2 | h2
      · obtain ⟨h3, h4⟩ := hm'.loud h2
        by_cases e : m' = m
        · simp [e] at h4
        · simp only [if_neg e] at h4
          have := hm.before m' (by omega) h3
          rw [h4] at this; cases this
      · omega
  have hquiet : ∀ p, m + 1 ≤ p → p < m' → T.kd p ≠ .loud := fun p h1 h2 hk => by
    have h3 := hm'.before p h2 hk
    have := hm'.le
    have h4 := hafter p (by omega) (by omega) hk
    rw [if_neg (by omega), h4] at h3; cases h3
  have hnext : (T.HH m').next = (T.HH (m + 1)).next := by
    have := D.next_chain (lo := m + 1) (m' - (m + 1)) (by have := hm'.le; omega) (fun p h1 h2 => hquiet p h1 (by omega))
    rwa [show m + 1 + (m' - (m + 1)) = m' by omega] at this
  have hget : ∀ b, (∀ p, m + 1 ≤ p → p < m' → isA T p = true → b ≠ H0.next + p) → (T.HH m').get b = (T.HH (m + 1)).get b := fun b hb => by
    have := D.chain (lo := m + 1) (b := b) (m' - (m + 1)) (by have := hm'.le; omega) (fun p h1 h2 hk => absurd hk (hquiet p h1 (by omega))) (fun p h1 h2 => hb p h1 (by omega))
    rwa [show m + 1 + (m' - (m + 1)) = m' by omega] at this
  -- a block made early, behind m in the text
  have hearly : ∀ k, m < k → k < ops.size → isA T k = true → GS H0 ops T (fun k => if k = m then true else S k) m' (H0.next + k) = GS H0 ops T S m (H0.next + k) := fun k hk1 hk2 hA => by
    rw [GS_new hk2 hA, GS_new hk2 hA]
    rw [if_neg (show ¬ k = m by omega), if_neg (show ¬ k < m by omega)]
    split
    · split
      · rename_i hkm
        obtain ⟨blk, hkk, hbb⟩ := isA_blk hA
        rw [hbb]
        obtain ⟨ok, hok⟩ : ∃ o, ops[k]? = some o := ⟨_, Array.getElem?_eq_getElem hk2⟩
        have hs := D.step k ok hok
        rw [hkk] at hs
        have h1 := D.chain (lo := k + 1) (b := H0.next + k) (m' - (k + 1)) (by have := hm'.le; omega) (fun p h1 h2 hk => absurd hk (hquiet p (by omega) (by omega))) (fun p h1 h2 _ => by omega)
        rw [show k + 1 + (m' - (k + 1)) = m' by omega] at h1
        rw [h1, hs.2.2.1, upd_same]
      · rfl
    · rfl
  -- all else is as the step left it
  have hrest : ∀ b x, GS H0 ops T (fun k => if k = m then true else S k) m' b = some x → (∃ k, b = H0.next + k ∧ m < k ∧ k < ops.size ∧ isA T k = true ∧ GS H0 ops T S m b = some x) ∨ (T.HH (m + 1)).get b = some x := fun b x hG => by
    by_cases hA : H0.next ≤ b ∧ b < H0.next + ops.size ∧ isA T (b - H0.next) = true
    · obtain ⟨k, rfl⟩ : ∃ k, b = H0.next + k := ⟨b - H0.next, by omega⟩
      rw [Nat.add_sub_cancel_left] at hA
      have hk : k < ops.size := by omega
      by_cases hkm : m < k
      · exact .inl ⟨k, rfl, hkm, hk, hA.2.2, by rw [← hearly k hkm hk hA.2.2]; exact hG⟩
      · have hkne : k ≠ m := fun e => by rw [e, hmA] at hA; cases hA.2.2
        rw [GS_new hk hA.2.2] at hG
        simp only [if_neg hkne] at hG
        cases hSk : S k with
        | false => rw [hSk] at hG; simp at hG
        | true =>
          rw [hSk, if_pos rfl, if_pos (show k < m' by omega), hget (H0.next + k) (fun p h1 _ _ => by omega)] at hG
          exact .inr hG
    · rw [GS_old hA] at hG
      right
      rw [← hget b (fun p h1 h2 hp e => hA ⟨by omega, by have := hm'.le; omega, by rw [e, Nat.add_sub_cancel_left]; exact hp⟩)]
      exact hG
  have hk0 : ∀ k, k < ops.size → ι' (H0.next + k) = ι (H0.next + k) := fun k hk => hE.old _ (by omega)
  have hnotown : ∀ k x cb co ex, m < k → k < ops.size → isA T k = true → GS H0 ops T S m (H0.next + k) = some x → ι (H0.next + k) = some (cb, co, ex) → ¬ Own ι (T.HH m).get cb := fun k x cb co ex hk1 hk2 hA hG hi ⟨b, y, co2, ex2, hGb, hoy, hib⟩ => by
    have hne : b ≠ H0.next + k := fun e => by
      obtain ⟨blk, hkk, _⟩ := isA_blk hA
      rw [e, D.res m k blk (by omega) hk2 hkk] at hGb; cases hGb
    exact hS.inj b (H0.next + k) y x _ _ _ _ _ _ hne (hsub b y _ hGb hib) hG hoy hib hi rfl
  refine ⟨m', hm', ?_, ?_, ?_⟩
  · rw [hnext]
    refine ⟨?_, ?_, hS'.dom⟩
    · intro b x cb co ex hG hi
      rcases hrest b x hG with ⟨k, rfl, hk1, hk2, hA, hG0⟩ | hG1
      · rw [hk0 k hk2] at hi
        have hB := hS.blk _ x cb co ex hG0 hi
        exact hB.mono hE.sub (hE.same cb hB.lt (hnotown k x cb co ex hk1 hk2 hA hG0 hi))
      · exact hS'.blk b x cb co ex hG1 hi
    · intro b b' x x' cb co ex cb' co' ex' hne hG hG' hox hi hi' heq
      subst heq
      rcases hrest b x hG with ⟨k, rfl, hk1, hk2, hA, hG0⟩ | hG1
      · rw [hk0 k hk2] at hi
        rcases hrest b' x' hG' with ⟨k', rfl, hk1', hk2', hA', hG0'⟩ | hG1'
        · rw [hk0 k' hk2'] at hi'
          exact hS.inj _ _ x x' _ _ _ _ _ _ hne hG0 hG0' hox hi hi' rfl
        · have hltc := (hS.blk _ x cb co ex hG0 hi).lt
          rcases hE.img cb ⟨b', x', co', ex', hG1', hi'⟩ with ⟨b2, x2, co2, ex2, g1, g2⟩ | h
          · have hne2 : H0.next + k ≠ b2 := fun e => by
              obtain ⟨blk, hkk, _⟩ := isA_blk hA
              rw [← e, D.res m k blk (by omega) hk2 hkk] at g1; cases g1
            exact hS.inj _ b2 x x2 _ _ _ _ _ _ hne2 hG0 (hsub b2 x2 _ g1 g2) hox hi g2 rfl
          · omega
      · rcases hrest b' x' hG' with ⟨k', rfl, hk1', hk2', hA', hG0'⟩ | hG1'
        · rw [hk0 k' hk2'] at hi'
          have hltc := (hS.blk _ x' cb co' ex' hG0' hi').lt
          rcases hE.own cb ⟨b, x, co, ex, hG1, hox, hi⟩ with h | h
          · exact hnotown k' x' cb co' ex' hk1' hk2' hA' hG0' hi' h
          · omega
        · exact hS'.inj b b' x x' _ _ _ _ _ _ hne hG1 hG1' hox hi hi' rfl
  · intro k hk hA hSk
    by_cases e : k = m
    · subst e; rw [hmA] at hA; cases hA
    · rw [if_neg e] at hSk
      rw [hk0 k hk]; exact hfree k hk hA hSk
  · refine ⟨hE.sub, fun b hb => hE.old b (by omega), ?_, ?_, ?_, hE.size, hE.os, hE.tape, hE.output⟩
    · rintro cb ⟨b, x, co, ex, hG, hi⟩
      rcases hrest b x hG with ⟨k, rfl, hk1, hk2, hA, hG0⟩ | hG1
      · rw [hk0 k hk2] at hi
        exact .inl ⟨_, x, co, ex, hG0, hi⟩
      · rcases hE.img cb ⟨b, x, co, ex, hG1, hi⟩ with ⟨b2, x2, co2, ex2, g1, g2⟩ | h
        · exact .inl ⟨b2, x2, co2, ex2, hsub b2 x2 _ g1 g2, g2⟩
        · exact .inr h
    · rintro cb ⟨b, x, co, ex, hG, hox, hi⟩
      rcases hrest b x hG with ⟨k, rfl, hk1, hk2, hA, hG0⟩ | hG1
      · rw [hk0 k hk2] at hi
        exact .inl ⟨_, x, co, ex, hG0, hox, hi⟩
      · rcases hE.own cb ⟨b, x, co, ex, hG1, hox, hi⟩ with ⟨b2, x2, co2, ex2, g1, g3, g2⟩ | h
        · exact .inl ⟨b2, x2, co2, ex2, hsub b2 x2 _ g1 g2, g3, g2⟩
        · exact .inr h
    · intro cb hlt hno
      exact hE.same cb hlt fun ⟨b, x, co, ex, hG, hox, hi⟩ => hno ⟨b, x, co, ex, hsub b x _ hG hi, hox, hi⟩


omit D in
theorem quiet_step {ι : Ren} {S : Nat → Bool} {i m : Nat} {o : Oper} {w : World} (hc : Closed ops S) (ho : ops[i]? = some o) (hi : S i = false) (hr : ∀ e ∈ o.after, Region.binds .any e = true → S e.on = true)
    (hm : Next ops T S m) (hkd : T.kd i ≠ .loud) : Next ops T (fun k => if k = i then true else S k) m :=
  ⟨hm.le, fun h => by
    obtain ⟨h1, h2⟩ := hm.loud h
    exact ⟨h1, by rw [if_neg (fun e => hkd (by rw [← e]; exact h1))]; exact h2⟩, fun p hp hk => by
    split
    · rfl
    · exact hm.before p hp hk⟩

theorem DrawOk.read_same {ι : Ren} {S : Nat → Bool} {i m : Nat} {o : Oper} {a : Act} (hc : Closed ops S) (ho : ops[i]? = some o) (hi : S i = false) (hr : ∀ e ∈ o.after, Region.binds .any e = true → S e.on = true)
    (hm : Next ops T S m) (hkd : T.kd i = .read) {b : Nat} (hb : readsOf (T.ss i) o = some b) (hι : ∃ y, ι b = some y) (hlive : ∃ x, (T.HH i).get b = some x)
    (hfree : ∀ k, k < ops.size → isA T k = true → S k = false → ι (H0.next + k) = none) : GS H0 ops T S m b = (T.HH i).get b := by
  have hlt := lt_of_get ho
  have hanc := D.anc hc i hlt (fun o' ho' => by rw [ho] at ho'; cases ho'; exact hr)
  have hml := hm.le
  -- a loud operation between the two places leaves the block alone
  have hloud : ∀ p, p < ops.size → T.kd p = .loud → ((m ≤ p ∧ p < i) ∨ (i ≤ p ∧ p < m)) → (T.HH (p + 1)).get b = (T.HH p).get b := fun p hp hk hpos => by
    rcases D.rd i p o b ho hp hkd hb hk with h | h | h
    · exfalso
      have hSp := hanc p h
      rcases hpos with ⟨h1, h2⟩ | ⟨h1, h2⟩
      · -- m is loud and ahead of p, or is p
        have hmo := hm.loud (by omega)
        by_cases e : p = m
        · rw [e, hmo.2] at hSp; cases hSp
        · have := D.anc hc p hp (fun o' ho' => hc p o' ho' hSp) m (D.ll m p (by omega) hp hmo.1 hk)
          rw [hmo.2] at this; cases this
      · -- then i is not ahead of itself: p < i by the edges
        have hbk : ∀ q, q < ops.size → ∀ j, B q j = true → j < q := by
          intro q
          induction q using Nat.strongRecOn with
          | _ q ih =>
            intro hq j hB
            obtain ⟨oq, hoq⟩ : ∃ o, ops[q]? = some o := ⟨_, Array.getElem?_eq_getElem hq⟩
            obtain ⟨e, he, hbe, h⟩ := D.bc q j oq hoq hB
            have hlt2 := D.back q oq hoq e he hbe
            rcases h with rfl | h
            · exact hlt2
            · have := ih e.on hlt2 (by omega) j h; omega
        have := hbk i hlt p h
        omega
    · exfalso
      rcases hpos with ⟨h1, h2⟩ | ⟨h1, h2⟩
      · have hbk : ∀ q, q < ops.size → ∀ j, B q j = true → j < q := by
          intro q
          induction q using Nat.strongRecOn with
          | _ q ih =>
            intro hq j hB
            obtain ⟨oq, hoq⟩ : ∃ o, ops[q]? = some o := ⟨_, Array.getElem?_eq_getElem hq⟩
            obtain ⟨e, he, hbe, h⟩ := D.bc q j oq hoq hB
            have hlt2 := D.back q oq hoq e he hbe
            rcases h with rfl | h
            · exact hlt2
            · have := ih e.on hlt2 (by omega) j h; omega
        have := hbk p hp i h
        omega
      · have hSp := hm.before p h2 hk
        have := D.anc hc p hp (fun o' ho' => hc p o' ho' hSp) i h
        rw [hi] at this; cases this
    · exact h
  by_cases hA : H0.next ≤ b ∧ b < H0.next + ops.size ∧ isA T (b - H0.next) = true
  · obtain ⟨k, rfl⟩ : ∃ k, b = H0.next + k := ⟨b - H0.next, by omega⟩
    rw [Nat.add_sub_cancel_left] at hA
    have hk : k < ops.size := by omega
    have hSk : S k = true := by
      cases h : S k with
      | true => rfl
      | false => obtain ⟨y, hy⟩ := hι; rw [hfree k hk hA.2.2 h] at hy; cases hy
    obtain ⟨blk, hkk, hbb⟩ := isA_blk hA.2.2
    have hki : k < i := by
      rcases Nat.lt_or_ge k i with h | h
      · exact h
      · obtain ⟨x, hx⟩ := hlive; rw [D.res i k blk h hk hkk] at hx; cases hx
    rw [GS_new hk hA.2.2, if_pos hSk]
    by_cases hkm : k < m
    · rw [if_pos hkm]
      rcases Nat.le_total m i with h | h
      · have := D.chain (lo := m) (b := H0.next + k) (i - m) (by omega) (fun p h1 h2 hkp => hloud p (by omega) hkp (.inl ⟨h1, by omega⟩)) (fun p h1 h2 _ => by omega)
        rw [show m + (i - m) = i by omega] at this
        exact this.symm
      · have := D.chain (lo := i) (b := H0.next + k) (m - i) (by omega) (fun p h1 h2 hkp => hloud p (by omega) hkp (.inr ⟨h1, by omega⟩)) (fun p h1 h2 _ => by omega)
        rw [show i + (m - i) = m by omega] at this
        exact this
    · rw [if_neg hkm, hbb]
      obtain ⟨ok, hok⟩ : ∃ o, ops[k]? = some o := ⟨_, Array.getElem?_eq_getElem hk⟩
      have hs := D.step k ok hok
      rw [hkk] at hs
      have := D.chain (lo := k + 1) (b := H0.next + k) (i - (k + 1)) (by omega) (fun p h1 h2 hkp => hloud p (by omega) hkp (.inl ⟨by omega, by omega⟩)) (fun p h1 h2 _ => by omega)
      rw [show k + 1 + (i - (k + 1)) = i by omega, hs.2.2.1, upd_same] at this
      exact this.symm
  · rw [GS_old hA]
    have hne : ∀ p, p < ops.size → isA T p = true → b ≠ H0.next + p := fun p hp hAp e => hA ⟨by omega, by omega, by rw [e, Nat.add_sub_cancel_left]; exact hAp⟩
    rcases Nat.le_total m i with h | h
    · have := D.chain (lo := m) (b := b) (i - m) (by omega) (fun p h1 h2 hkp => hloud p (by omega) hkp (.inl ⟨h1, by omega⟩)) (fun p h1 h2 hp => hne p (by omega) hp)
      rw [show m + (i - m) = i by omega] at this
      exact this.symm
    · have := D.chain (lo := i) (b := b) (m - i) (by omega) (fun p h1 h2 hkp => hloud p (by omega) hkp (.inr ⟨h1, by omega⟩)) (fun p h1 h2 hp => hne p (by omega) hp)
      rw [show i + (m - i) = m by omega] at this
      exact this

theorem DrawOk.alloc_GS {S : Nat → Bool} {i m : Nat} {o : Oper} {blk : ABlk} (hc : Closed ops S) (ho : ops[i]? = some o) (hi : S i = false) (hm : Next ops T S m) (hkd : T.kd i = .alloc blk) :
    GS H0 ops T (fun k => if k = i then true else S k) m = upd (GS H0 ops T S m) (H0.next + i) (some blk) := by
  have hlt := lt_of_get ho
  have hA : isA T i = true := by simp [isA, hkd]
  have hbb : blkA T i = some blk := by simp [blkA, hkd]
  funext b
  by_cases e : b = H0.next + i
  · subst e
    rw [upd_same, GS_new hlt hA, if_pos (by simp)]
    by_cases him : i < m
    · rw [if_pos him]
      have hs := D.step i o ho
      rw [hkd] at hs
      have := D.chain (lo := i + 1) (b := H0.next + i) (m - (i + 1)) (by have := hm.le; omega) (fun p h1 h2 hkp => by
        rcases D.al i p blk (by omega) (by have := hm.le; omega) hkd hkp with h | h
        · have hSp := hm.before p (by omega) hkp
          have := D.anc hc p (by have := hm.le; omega) (fun o' ho' => hc p o' ho' hSp) i h
          rw [hi] at this; cases this
        · exact h) (fun p h1 h2 _ => by omega)
      rw [show i + 1 + (m - (i + 1)) = m by omega] at this
      rw [this, hs.2.2.1, upd_same]
    · rw [if_neg him, hbb]
  · rw [upd_other _ _ e]
    unfold GS
    split
    · rename_i hA'
      simp only [if_neg (show ¬ b - H0.next = i by omega)]
    · rfl

omit D in
theorem quiet_GS {S : Nat → Bool} {i m : Nat} (hA : isA T i = false) : GS H0 ops T (fun k => if k = i then true else S k) m = GS H0 ops T S m := by
  funext b
  unfold GS
  split
  · rename_i hA'
    have hne : ¬ b - H0.next = i := fun e => by rw [e, hA] at hA'; cases hA'.2.2
    simp only [if_neg hne]
  · rfl

/-- ONE STEP, WHICHEVER MAY COME UP. -/
theorem DrawOk.one {ι0 : Ren} {w0 : World} {S : Nat → Bool} {i : Nat} {o : Oper} {a : Act} {w : World} (hI : Inv P ops s0 H0 T B ι0 w0 S a w) (ho : ops[i]? = some o) (hi : S i = false) (hr : ∀ e ∈ o.after, Region.binds .any e = true → S e.on = true)
    {K : Act → World → Prop} {Q : Exit → Act → World → Prop} (hK : ∀ a' w', Inv P ops s0 H0 T B ι0 w0 (fun k => if k = i then true else S k) a' w' → K a' w') : wpOp P ops Q i K a w := by
  obtain ⟨hc, ι, m, hm, hs, hS, hfree, hE⟩ := hI
  have hlt := lt_of_get ho
  have hclosed : Closed ops (fun k => if k = i then true else S k) := fun j oj hoj hSj e he hb => by
    by_cases ej : j = i
    · subst ej
      rw [ho] at hoj; cases hoj
      have := hr e he hb
      simp [this]
    · simp only [if_neg ej] at hSj
      have := hc j oj hoj hSj e he hb
      simp [this]
  -- what the operation looks at
  have hlook : ∀ t, t ∈ o.looksAt ops → (slotsS T ops s0 S ops.size)[t]? = (T.ss i)[t]? := fun t ht => D.slot_at hc ho hi hr ht
  have hwant : Region.wanted o (yielded ops a.tmps) = Region.wanted o (ayield ops (T.ss i)) := by
    rw [wanted_ok hs]
    unfold Region.wanted
    cases hg : o.guard with
    | none => rfl
    | some q =>
      obtain ⟨j, want⟩ := q
      simp only
      have : ayield ops (slotsS T ops s0 S ops.size) j = ayield ops (T.ss i) j := by
        unfold ayield
        cases hd : (ops[j]?).bind (·.dst) with
        | none => rfl
        | some d =>
          simp only [Option.bind_some]
          rw [hlook d (by simp [Oper.looksAt, hg, hd])]
      rw [this]
  have hor : OR ι (T.ss i) a o := fun x hx v hv => hs.opnd (by
    rw [← hv]
    refine opnd_congr fun t ht => hlook t ?_
    subst ht
    exact List.mem_append_left _ (List.mem_filterMap.2 ⟨.tmp t, by simpa using hx, rfl⟩))
  have hslot := D.slot_put hc ho hi
  have hst := D.step i o ho
  unfold wpOp
  simp only [ho]
  rw [hwant]
  -- a step that leaves the heap alone
  have quiet : isA T i = false → T.kd i ≠ .loud → ∀ v', VR ι (T.vv i) v' → K (a.put o.dst v') w := fun hA hnl v' hv => hK _ _ ⟨hclosed, ι, m, quiet_step (ι := ι) (w := w) hc ho hi hr hm hnl, by rw [hslot]; exact hs.put _ hv, by rw [quiet_GS hA]; exact hS,
    fun k hk hAk hSk => hfree k hk hAk (by
      by_cases e : k = i
      · simp [e] at hSk
      · simpa [e] using hSk), by rw [quiet_GS hA]; exact hE⟩
  cases hk : T.kd i with
  | skip =>
    rw [hk] at hst
    rw [hst.1, if_neg (by simp)]
    refine quiet (by simp [isA, hk]) (by rw [hk]; simp) undef ?_
    rw [hst.2.1]; exact VR.undef ι
  | pure =>
    rw [hk] at hst
    rw [hst.1, if_pos rfl]
    obtain ⟨v', e1, e2⟩ := apure_ok hst.2.1 hor w
    exact .inl (wp_of_run (.inl e1) (quiet (by simp [isA, hk]) (by rw [hk]; simp) v' e2))
  | read =>
    rw [hk] at hst
    rw [hst.1, if_pos rfl]
    have hread : aread P (T.ss i) o (GS H0 ops T S m) = some (T.vv i) := by
      rw [← hst.2.1]
      refine aread_congr fun b hb => ?_
      have hlive : ∃ x, (T.HH i).get b = some x := by
        cases hq : (T.HH i).get b with
        | some x => exact ⟨x, rfl⟩
        | none =>
          exfalso
          have h2 := hst.2.1
          unfold aread at h2
          unfold readsOf at hb
          split at h2
          · rename_i t x hop
            simp only [hop] at hb
            cases hx : opnd (T.ss i) x with
            | none => simp [hx] at hb
            | some v =>
              rw [hx] at hb h2
              simp only [Option.bind_some] at h2
              unfold aload at h2
              split at h2
              · simp at hb; subst hb; rw [hq] at h2; simp at h2
              · cases h2
          · rename_i src dst x hop
            simp only [hop] at hb
            cases hx : opnd (T.ss i) x with
            | none => simp [hx] at hb
            | some v =>
              rw [hx] at hb h2
              simp only [Option.bind_some] at h2
              unfold aBytesStr at h2
              split at h2
              · simp at hb; subst hb; rw [hq] at h2; simp at h2
              · simp at hb
              · cases h2
          · cases h2
      have hι : ∃ y, ι b = some y := by
        unfold readsOf at hb
        split at hb
        · rename_i t x hop
          split at hb
          · rename_i q hx
            cases hb
            have hv := hor x (by simp [hop, Op.operands]) _ hx
            generalize a.eval x = z at hv
            cases hv with
            | scal h => simp [scalar] at h
            | ptr h => exact ⟨_, h⟩
          · cases hb
        · rename_i src dst x hop
          split at hb
          · rename_i q l c hx
            cases hb
            have hv := hor x (by simp [hop, Op.operands]) _ hx
            generalize a.eval x = z at hv
            cases hv with
            | scal h => simp [scalar] at h
            | sl h => exact ⟨_, h⟩
            | slT h => exact ⟨_, h⟩
            | sl0 h _ => exact ⟨_, h⟩
          · cases hb
        · cases hb
      exact D.read_same (a := a) hc ho hi hr hm hk hb hι hlive hfree
    obtain ⟨v', e1, e2⟩ := aread_ok hread hS hor
    exact .inl (wp_of_run (.inl e1) (quiet (by simp [isA, hk]) (by rw [hk]; simp) v' e2))
  | alloc blk =>
    rw [hk] at hst
    rw [hst.1, if_pos rfl]
    obtain ⟨k, hal, hvk⟩ := hst.2.1
    have hA : isA T i = true := by simp [isA, hk]
    have hnle := D.next_le m hm.le
    obtain ⟨ex, v', w', e1, e2, e3, e4⟩ := aalloc_ok (m := (T.HH m).next) (b := H0.next + i) hal hS hor (hfree i hlt hA hi) (by omega) (Nat.le_refl _)
    refine .inl (wp_of_run (.inl e1) (hK _ _ ⟨hclosed, upd ι (H0.next + i) (some (w.heap.size, 0, ex)), m, quiet_step (ι := ι) (w := w) hc ho hi hr hm (by rw [hk]; simp), ?_, ?_, ?_, ?_⟩))
    · rw [hslot]
      have hev := e4 (H0.next + i) (Nat.le_refl _)
      exact (hs.mono hev.sub).put _ (by rw [hvk]; exact e2)
    · rw [D.alloc_GS hc ho hi hm hk]; exact e3
    · intro k' hk' hAk hSk
      by_cases e : k' = i
      · simp [e] at hSk
      · rw [upd_other _ _ (by omega)]
        exact hfree k' hk' hAk (by simpa [e] using hSk)
    · rw [D.alloc_GS hc ho hi hm hk]
      exact hE.trans (e4 H0.next (by omega)) (Nat.le_refl _)
  | loud =>
    rw [hk] at hst
    rw [hst.1, if_pos rfl]
    have him : i = m := by
      have hanc := D.anc hc i hlt (fun o' ho' => by rw [ho] at ho'; cases ho'; exact hr)
      rcases Nat.lt_trichotomy i m with h | h | h
      · have := hm.before i h hk
        rw [hi] at this; cases this
      · exact h
      · obtain ⟨h1, h2⟩ := hm.loud (by omega)
        have := hanc m (D.ll m i h hlt h1 hk)
        rw [h2] at this; cases this
    subst him
    obtain ⟨h1, h2⟩ := D.loud_step (a := a) hc ho hm hi hk hS hfree
    refine .inl (hst.2.run ι a w h1 hor K Q fun ι' v' w' hv hS' hE' => ?_)
    obtain ⟨m', g1, g2, g3, g4⟩ := h2 ι' w' hS' hE'
    refine hK _ _ ⟨hclosed, ι', m', g1, ?_, g2, g3, hE.trans g4 (Nat.le_refl _)⟩
    rw [hslot]
    exact (hs.mono hE'.sub).put _ hv

theorem DrawOk.any {ι0 : Ren} {w0 : World} {Q : Exit → Act → World → Prop} (hQ : ∀ ι a w, SR ι (T.ss ops.size) a → Sim (T.HH ops.size).next ι (T.HH ops.size).get w → Evo H0.next ι0 H0.get w0 ι (T.HH ops.size).get w → Q .normal a w) :
    ∀ (fuel : Nat) (listed : Array Bool) (a : Act) (w : World), listed.size = ops.size → ((List.range ops.size).filter fun i => !listed.getD i false).length ≤ fuel → Inv P ops s0 H0 T B ι0 w0 (fun i => listed.getD i false) a w → wpAny P .any ops Q fuel listed a w := by
  have hdone : ∀ (listed : Array Bool) (a : Act) (w : World), (∀ i, i < ops.size → listed.getD i false = true) → Inv P ops s0 H0 T B ι0 w0 (fun i => listed.getD i false) a w → Q .normal a w := by
    intro listed a w hall ⟨_, ι, m, hm, hs, hS, _, hE⟩
    have hmn : m = ops.size := by
      rcases Nat.lt_or_ge m ops.size with h | h
      · have := (hm.loud h).2
        simp only [hall m h] at this; cases this
      · have := hm.le; omega
    subst hmn
    rw [D.slot_all hall _ (Nat.le_refl _)] at hs
    have hG : GS H0 ops T (fun i => listed.getD i false) ops.size = (T.HH ops.size).get := by
      funext b
      unfold GS
      split
      · rename_i hA
        rw [if_pos (hall _ (by omega)), if_pos (by omega)]
      · rfl
    rw [hG] at hS hE
    exact hQ ι a w hs hS hE
  have hready : ∀ listed : Array Bool, listed.size = ops.size → Region.ready .any ops listed = [] → ∀ i, i < ops.size → listed.getD i false = true := by
    intro listed hsz hr i
    induction i using Nat.strongRecOn with
    | _ i ih =>
      intro hi
      cases hl : listed.getD i false with
      | true => rfl
      | false =>
        exfalso
        obtain ⟨o, ho⟩ : ∃ o, ops[i]? = some o := ⟨_, Array.getElem?_eq_getElem hi⟩
        have hmem : i ∈ Region.ready .any ops listed := by
          refine mem_ready.2 ⟨?_, o, ho, fun e he hb => ?_⟩
          · exact getD_in (by omega) hl
          · have := D.back i o ho e he hb
            exact ih e.on this (by omega)
        rw [hr] at hmem
        cases hmem
  intro fuel
  induction fuel with
  | zero =>
    intro listed a w hsz hcount hI
    have hall : ∀ i, i < ops.size → listed.getD i false = true := fun i hi => by
      have h0 : ((List.range ops.size).filter fun i => !listed.getD i false) = [] := List.eq_nil_of_length_eq_zero (by omega)
      have := (List.filter_eq_nil_iff.1 h0) i (List.mem_range.2 hi)
      simpa using this
    refine ⟨?_, hdone listed a w hall hI⟩
    cases hr : Region.ready .any ops listed with
    | nil => rfl
    | cons i rest =>
      have hmem : i ∈ Region.ready .any ops listed := by rw [hr]; simp
      obtain ⟨h1, o, ho, _⟩ := mem_ready.1 hmem
      have := hall i (lt_of_get ho)
      rw [getD_both h1] at this; cases this
  | succ fuel ih =>
    intro listed a w hsz hcount hI
    refine ⟨fun hr => hdone listed a w (hready listed hsz hr) hI, fun i hi => ?_⟩
    obtain ⟨h1, o, ho, hall⟩ := mem_ready.1 hi
    have hilt := lt_of_get ho
    refine D.one hI ho (getD_both h1) hall fun a' w' hI' => ih _ a' w' (by simpa using hsz) ?_ ?_
    · -- one fewer is left
      have hlen : ((List.range ops.size).filter fun k => !(listed.setIfInBounds i true).getD k false).length < ((List.range ops.size).filter fun k => !listed.getD k false).length := by
        have hsub : ((List.range ops.size).filter fun k => !(listed.setIfInBounds i true).getD k false) = (((List.range ops.size).filter fun k => !listed.getD k false).filter fun k => k != i) := by
          rw [List.filter_filter]
          refine List.filter_congr fun k hk => ?_
          by_cases e : k = i
          · subst e
            have : (listed.setIfInBounds k true).getD k false = true := by simp [Array.getD_eq_getD_getElem?, Array.getElem?_setIfInBounds, hsz, hilt]
            simp [this]
          · rw [getD_set_ne false (fun h => e h.symm)]
            simp [e]
        rw [hsub]
        have hmem : i ∈ (List.range ops.size).filter fun k => !listed.getD k false := List.mem_filter.2 ⟨List.mem_range.2 hilt, by simp [getD_both h1]⟩
        refine List.length_filter_lt_length_iff_exists.2 ⟨i, hmem, by simp⟩
      omega
    · have : (fun k => (listed.setIfInBounds i true).getD k false) = fun k => if k = i then true else listed.getD k false := by
        funext k
        by_cases e : k = i
        · subst e
          simp [Array.getD_eq_getD_getElem?, Array.getElem?_setIfInBounds, hsz, hilt]
        · rw [getD_set_ne false (fun h => e h.symm), if_neg e]
      rw [this]
      exact hI'

/-- A REGION WHOSE ORDER IS OPEN. -/
theorem ARun.draw {id : Nat} (hmix : P.follows .mixedOrders = true) : ARun P (.region id ops true) s0 H0 .normal (T.ss ops.size) (T.HH ops.size) := by
  refine ⟨by have := D.next_le ops.size (Nat.le_refl _); omega, fun ι a w hS hs => wp_region_any hmix ?_⟩
  have hS1 : Sim H0.next ι H0.get { w with drawn := w.drawn + 1 } := hS.grow (fun _ _ => rfl)
  have hE1 : Evo H0.next ι H0.get w ι H0.get { w with drawn := w.drawn + 1 } := ⟨fun _ _ h => h, fun _ _ => rfl, fun _ h => .inl h, fun _ h => .inl h, fun _ _ _ => rfl, Nat.le_refl _, rfl, rfl, rfl⟩
  have hf : (fun i => (Array.replicate ops.size false).getD i false) = fun _ => false := by
    funext i; exact getD_replicate_false_both _ _
  refine D.any (ι0 := ι) (w0 := w) (fun ι' a' w' h1 h2 h3 => ⟨rfl, ι', h1, h2, h3⟩) ops.size _ a _ (by simp) (by
    have := List.length_filter_le (fun i => !(Array.replicate ops.size false).getD i false) (List.range ops.size)
    simpa using this) ?_
  rw [hf]
  obtain ⟨m, hm⟩ := exists_next (T := T) (ops := ops) (fun _ => false)
  have hq : ∀ p, p < m → T.kd p ≠ .loud := fun p hp hk => by have := hm.before p hp hk; cases this
  have hG : GS H0 ops T (fun _ => false) m = H0.get := by
    funext b
    by_cases hA : H0.next ≤ b ∧ b < H0.next + ops.size ∧ isA T (b - H0.next) = true
    · unfold GS
      rw [if_pos hA, if_neg (by simp)]
      rw [AH.get_def, if_neg (by omega)]
    · rw [GS_old hA]
      have := D.chain (lo := 0) (b := b) m (by have := hm.le; omega) (fun p _ h2 hk => absurd hk (hq p (by omega))) (fun p _ h2 hp e => hA ⟨by omega, by have := hm.le; omega, by rw [e, Nat.add_sub_cancel_left]; exact hp⟩)
      rw [Nat.zero_add] at this
      rw [this, D.h_0]
  refine ⟨fun _ _ _ h => (by cases h), ι, m, hm, by rw [slot_none]; exact hs, ?_, ?_, by rw [hG]; exact hE1⟩
  · rw [hG]
    exact ⟨hS1.blk, hS1.inj, fun b y hb => Nat.lt_of_lt_of_le (hS1.dom b y hb) (by have := D.next_le m hm.le; omega)⟩
  · intro k hk _ _
    cases hq : ι (H0.next + k) with
    | none => rfl
    | some y => have := hS1.dom _ y hq; omega
end
end
end Go.Am
