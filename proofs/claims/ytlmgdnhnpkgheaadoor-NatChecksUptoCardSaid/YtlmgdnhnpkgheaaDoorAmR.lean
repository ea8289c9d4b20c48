/- Regions whose order is open, for proofs with variables: one run in the text's order, with what it reads and what changes the heap. -/
import Derived.Test.YtlmgdnhnpkgheaaDoorAmQ
namespace Go.Am
open Go
noncomputable section
set_option linter.unusedSimpArgs false
set_option linter.unusedVariables false

abbrev LoudL := List (Nat × AH × AH)
abbrev ReadL := List (Nat × Nat)
inductive DOps (P : Program) (ops : Array Oper) (M : List Nat) : List Oper → Nat → ReadL → LoudL → List Value → AH → List Ent → List Value → AH → Prop
  | nil {i : Nat} {R : ReadL} {L : LoudL} {s : List Value} {H : AH} : DOps P ops M [] i R L s H [] s H
  | skip {o : Oper} {l : List Oper} {i : Nat} {R : ReadL} {L : LoudL} {s s' : List Value} {H H' : AH} {es : List Ent} : Region.wanted o (ayield ops s) = false →
      DOps P ops M l (i + 1) R L (putd s o.dst undef) H es s' H' → DOps P ops M (o :: l) i R L s H (⟨s, H, undef, .skip, none⟩ :: es) s' H'
  | pure {o : Oper} {l : List Oper} {i : Nat} {R : ReadL} {L : LoudL} {s s' : List Value} {H H' : AH} {es : List Ent} {v : Value} : Region.wanted o (ayield ops s) = true → apure P s o = some v →
      DOps P ops M l (i + 1) R L (putd s o.dst v) H es s' H' → DOps P ops M (o :: l) i R L s H (⟨s, H, v, .pure, none⟩ :: es) s' H'
  | read {o : Oper} {l : List Oper} {i b : Nat} {R : ReadL} {L : LoudL} {s s' : List Value} {H H' : AH} {es : List Ent} {v : Value} : Region.wanted o (ayield ops s) = true → aread P s o H.get = some v →
      readsOf s o = some b → (∀ q ∈ L, (M.getD i 0).testBit q.1 = true ∨ q.2.2.get b = q.2.1.get b) →
      DOps P ops M l (i + 1) ((i, b) :: R) L (putd s o.dst v) H es s' H' → DOps P ops M (o :: l) i R L s H (⟨s, H, v, .read, some b⟩ :: es) s' H'
  | loud {o : Oper} {l : List Oper} {i : Nat} {R : ReadL} {L : LoudL} {s s' : List Value} {H H1 H' : AH} {es : List Ent} {v : Value} : Region.wanted o (ayield ops s) = true → StepOk P o s H v H1 →
      (∀ r ∈ R, (M.getD i 0).testBit r.1 = true ∨ H1.get r.2 = H.get r.2) → (∀ q ∈ L, (M.getD i 0).testBit q.1 = true) →
      DOps P ops M l (i + 1) R ((i, H, H1) :: L) (putd s o.dst v) H1 es s' H' → DOps P ops M (o :: l) i R L s H (⟨s, H, v, .loud, none⟩ :: es) s' H'

/-- What a run tells of each of its entries. -/
structure DSpec (P : Program) (ops : Array Oper) (M : List Nat) (N0 : Nat) (l : List Oper) (i : Nat) (R : ReadL) (L : LoudL) (s : List Value) (H : AH) (es : List Ent) (s' : List Value) (H' : AH) : Prop where
  len : es.length = l.length
  s0 : seqS es s' 0 = s
  h0 : seqH es H' 0 = H
  each : ∀ k o, l[k]? = some o → ∃ rb, (∃ e, es[k]? = some e ∧ e.rb = rb) ∧ KdSpec P ops N0 (i + k) (seqS es s' k) o (seqH es H' k) (seqV es k) (seqH es H' (k + 1)) (seqK es k) ∧ (seqK es k = .read → rb = readsOf (seqS es s' k) o) ∧ seqS es s' (k + 1) = putd (seqS es s' k) o.dst (seqV es k)
  noal : ∀ k b, seqK es k ≠ .alloc b
  rl : ∀ k, k < l.length → seqK es k = .loud → ∀ r ∈ R, (M.getD (i + k) 0).testBit r.1 = true ∨ (seqH es H' (k + 1)).get r.2 = (seqH es H' k).get r.2
  ll : ∀ k, k < l.length → seqK es k = .loud → ∀ q ∈ L, (M.getD (i + k) 0).testBit q.1 = true
  lr : ∀ k e b, es[k]? = some e → e.rb = some b → ∀ q ∈ L, (M.getD (i + k) 0).testBit q.1 = true ∨ q.2.2.get b = q.2.1.get b
  ll2 : ∀ j k, j < k → k < l.length → seqK es j = .loud → seqK es k = .loud → (M.getD (i + k) 0).testBit (i + j) = true
  rl2 : ∀ j k e b, j < k → k < l.length → es[j]? = some e → e.rb = some b → seqK es k = .loud → (M.getD (i + k) 0).testBit (i + j) = true ∨ (seqH es H' (k + 1)).get b = (seqH es H' k).get b
  lr2 : ∀ j k e b, j < k → es[k]? = some e → e.rb = some b → seqK es j = .loud → (M.getD (i + k) 0).testBit (i + j) = true ∨ (seqH es H' (j + 1)).get b = (seqH es H' j).get b

section
variable {P : Program} {ops : Array Oper} {M : List Nat} {N0 : Nat}
theorem seqS_succ (e : Ent) (es : List Ent) (s' : List Value) (k : Nat) : seqS (e :: es) s' (k + 1) = seqS es s' k := by simp [seqS]
theorem seqH_succ (e : Ent) (es : List Ent) (H' : AH) (k : Nat) : seqH (e :: es) H' (k + 1) = seqH es H' k := by simp [seqH]
theorem seqV_succ (e : Ent) (es : List Ent) (k : Nat) : seqV (e :: es) (k + 1) = seqV es k := by simp [seqV]
theorem seqK_succ (e : Ent) (es : List Ent) (k : Nat) : seqK (e :: es) (k + 1) = seqK es k := by simp [seqK]

theorem DSpec.cons {o : Oper} {l : List Oper} {i : Nat} {R R1 : ReadL} {L L1 : LoudL} {s s1 s' : List Value} {H H1 H' : AH} {es : List Ent} {v : Value} {kd : Kd} {rb : Option Nat}
    (h : DSpec P ops M N0 l (i + 1) R1 L1 s1 H1 es s' H') (hs1 : s1 = putd s o.dst v) (hk : KdSpec P ops N0 i s o H v H1 kd) (hrd : kd = .read → rb = readsOf s o) (hal : ∀ b, kd ≠ .alloc b)
    (hR : ∀ r ∈ R, r ∈ R1) (hL : ∀ q ∈ L, q ∈ L1) (hRn : ∀ b, rb = some b → (i, b) ∈ R1) (hLn : kd = .loud → (i, H, H1) ∈ L1)
    (c1 : kd = .loud → ∀ r ∈ R, (M.getD i 0).testBit r.1 = true ∨ H1.get r.2 = H.get r.2) (c2 : kd = .loud → ∀ q ∈ L, (M.getD i 0).testBit q.1 = true)
    (c3 : ∀ b, rb = some b → ∀ q ∈ L, (M.getD i 0).testBit q.1 = true ∨ q.2.2.get b = q.2.1.get b) :
    DSpec P ops M N0 (o :: l) i R L s H (⟨s, H, v, kd, rb⟩ :: es) s' H' := by
  have e1 : ∀ k, seqS (⟨s, H, v, kd, rb⟩ :: es) s' (k + 1) = seqS es s' k := seqS_succ _ _ _
  have e2 : ∀ k, seqH (⟨s, H, v, kd, rb⟩ :: es) H' (k + 1) = seqH es H' k := seqH_succ _ _ _
  have e3 : ∀ k, seqV (⟨s, H, v, kd, rb⟩ :: es) (k + 1) = seqV es k := seqV_succ _ _
  have e4 : ∀ k, seqK (⟨s, H, v, kd, rb⟩ :: es) (k + 1) = seqK es k := seqK_succ _ _
  have z1 : seqS (⟨s, H, v, kd, rb⟩ :: es) s' 0 = s := rfl
  have z2 : seqH (⟨s, H, v, kd, rb⟩ :: es) H' 0 = H := rfl
  have z3 : seqV (⟨s, H, v, kd, rb⟩ :: es) 0 = v := rfl
  have z4 : seqK (⟨s, H, v, kd, rb⟩ :: es) 0 = kd := rfl
  have ad : ∀ k, i + (k + 1) = i + 1 + k := fun k => by omega
  refine ⟨by simp [h.len], rfl, rfl, ?_, ?_, ?_, ?_, ?_, ?_, ?_, ?_⟩
  · intro k oj hj
    cases k with
    | zero =>
      simp at hj; subst hj
      refine ⟨rb, ⟨_, rfl, rfl⟩, ?_, ?_, ?_⟩
      · rw [z1, z2, z3, z4, e2, h.h0]; exact hk
      · rw [z4, z1]; exact hrd
      · rw [e1, h.s0, z1, z3, hs1]
    | succ k =>
      obtain ⟨rb', ⟨e, he, hrb⟩, g1, g2, g3⟩ := h.each k oj (by simpa using hj)
      refine ⟨rb', ⟨e, by simpa using he, hrb⟩, ?_, ?_, ?_⟩
      · rw [e1, e2, e2, e3, e4, ad]; exact g1
      · rw [e4, e1]; exact g2
      · rw [e1, e1, e3]; exact g3
  · intro k b
    cases k with
    | zero => rw [z4]; exact hal b
    | succ k => rw [e4]; exact h.noal k b
  · intro k hk' hkd r hr
    cases k with
    | zero => rw [e2, z2, h.h0]; rw [z4] at hkd; exact c1 hkd r hr
    | succ k => rw [e2, e2, ad]; rw [e4] at hkd; exact h.rl k (by simpa using hk') hkd r (hR r hr)
  · intro k hk' hkd q hq
    cases k with
    | zero => rw [z4] at hkd; exact c2 hkd q hq
    | succ k => rw [ad]; rw [e4] at hkd; exact h.ll k (by simpa using hk') hkd q (hL q hq)
  · intro k e b he hb q hq
    cases k with
    | zero => simp at he; subst he; exact c3 b hb q hq
    | succ k => rw [ad]; exact h.lr k e b (by simpa using he) hb q (hL q hq)
  · intro j k hjk hk' hj hkd
    cases k with
    | zero => omega
    | succ k =>
      rw [e4] at hkd
      cases j with
      | zero => rw [z4] at hj; rw [ad]; exact h.ll k (by simpa using hk') hkd _ (hLn hj)
      | succ j => rw [e4] at hj; rw [ad k, ad j]; exact h.ll2 j k (by omega) (by simpa using hk') hj hkd
  · intro j k e b hjk hk' he hb hkd
    cases k with
    | zero => omega
    | succ k =>
      rw [e4] at hkd
      cases j with
      | zero => simp at he; subst he; rw [e2, e2, ad]; exact h.rl k (by simpa using hk') hkd _ (hRn b hb)
      | succ j => rw [e2, e2, ad k, ad j]; exact h.rl2 j k e b (by omega) (by simpa using hk') (by simpa using he) hb hkd
  · intro j k e b hjk he hb hj
    cases k with
    | zero => omega
    | succ k =>
      cases j with
      | zero => rw [z4] at hj; rw [e2, z2, h.h0, ad]; exact h.lr k e b (by simpa using he) hb _ (hLn hj)
      | succ j => rw [e4] at hj; rw [e2, e2, ad k, ad j]; exact h.lr2 j k e b (by omega) (by simpa using he) hb hj

theorem DOps.spec {l : List Oper} {i : Nat} {R : ReadL} {L : LoudL} {s s' : List Value} {H H' : AH} {es : List Ent} (h : DOps P ops M l i R L s H es s' H') : DSpec P ops M N0 l i R L s H es s' H' := by
  induction h with
  | nil =>
    refine ⟨rfl, rfl, rfl, fun k o ho => by simp at ho, fun k b => by simp [seqK], fun k hk => by simp at hk, fun k hk => by simp at hk, fun k e b he => by simp at he, fun j k _ hk => by simp at hk, fun j k e b _ hk => by simp at hk, fun j k e b _ he => by simp at he⟩
  | skip hw _ ih => exact ih.cons rfl ⟨hw, rfl, rfl⟩ (fun h => by cases h) (fun b h => by cases h) (fun _ h => h) (fun _ h => h) (fun b h => by cases h) (fun h => by cases h) (fun h => by cases h) (fun h => by cases h) (fun b h => by cases h)
  | pure hw hv _ ih => exact ih.cons rfl ⟨hw, hv, rfl⟩ (fun h => by cases h) (fun b h => by cases h) (fun _ h => h) (fun _ h => h) (fun b h => by cases h) (fun h => by cases h) (fun h => by cases h) (fun h => by cases h) (fun b h => by cases h)
  | read hw hv hb hc _ ih =>
    exact ih.cons rfl ⟨hw, hv, rfl⟩ (fun _ => hb.symm) (fun b h => by cases h) (fun _ h => List.mem_cons_of_mem _ h) (fun _ h => h) (fun b h => by cases h; exact List.mem_cons_self) (fun h => by cases h) (fun h => by cases h) (fun h => by cases h) (fun b h => by cases h; exact hc)
  | loud hw hst hc1 hc2 _ ih =>
    exact ih.cons rfl ⟨hw, hst⟩ (fun h => by cases h) (fun b h => by cases h) (fun _ h => h) (fun _ h => List.mem_cons_of_mem _ h) (fun b h => by cases h) (fun _ => List.mem_cons_self) (fun _ => hc1) (fun _ => hc2) (fun b h => by cases h)

theorem ARun.drawR {id : Nat} {s s' : List Value} {H H' : AH} {es : List Ent} (hmix : P.follows .mixedOrders = true) (hM : ancs ops.toList [] = M) (hord : orderOk ops M = true) (h : DOps P ops M ops.toList 0 [] [] s (reserve H ops.size) es s' H') :
    ARun P (.region id ops true) s H .normal s' H' := by
  have S := h.spec (N0 := H.next)
  have hlen : es.length = ops.size := by simpa using S.len
  have hfin : seqS es s' ops.size = s' ∧ seqH es H' ops.size = H' := by
    unfold seqS seqH
    rw [List.getElem?_eq_none (by omega)]
    exact ⟨rfl, rfl⟩
  subst hM
  have hord' : ∀ j oj, ops[j]? = some oj → (∀ e ∈ oj.after, Region.binds .any e = true → e.on < j) ∧ ∀ i oi, i < j → ops[i]? = some oi → ((ancs ops.toList []).getD j 0).testBit i = true ∨
      ((∀ d, oi.dst = some d → d ∉ oj.looksAt ops ∧ oj.dst ≠ some d) ∧ ∀ d, oj.dst = some d → d ∉ oi.looksAt ops) := fun j oj hj => by
    have hjl := lt_of_get hj
    have h1 := allI_spec hord j hjl
    simp only [hj, Bool.and_eq_true] at h1
    refine ⟨fun e he hb => ?_, fun i oi hij hi => ?_⟩
    · have := List.all_eq_true.1 h1.1 e (by simpa using he)
      simp [hb] at this
      exact this
    · have h2 := allI_spec h1.2 i hij
      simp only [hi, Bool.or_eq_true, Bool.and_eq_true, Bool.not_eq_true'] at h2
      refine h2.imp (fun h => h) fun ⟨g1, g2⟩ => ⟨fun d hd => ?_, fun d hd => ?_⟩
      · simp only [hd, Bool.or_eq_false_iff] at g1
        exact ⟨fun hm => by have := g1.1; simp at this; exact this hm, fun e => by have := g1.2; simp [e] at this⟩
      · simp only [hd] at g2
        exact fun hm => by simp at g2; exact g2 hm
  have hE := fun i o (ho : ops[i]? = some o) => S.each i o (by simpa using ho)
  have D : DrawOk P ops s H ⟨seqS es s', seqH es H', seqV es, seqK es⟩ (fun i j => ((ancs ops.toList []).getD i 0).testBit j) := by
    refine ⟨S.s0, fun b => ?_, ?_, fun i o ho => ?_, fun i o ho => ?_, fun i k blk _ _ hk => absurd hk (S.noal k blk), ?_, fun i o ho => (hord' i o ho).1, ?_, ?_, ?_, ?_, fun k p blk _ _ hk => absurd hk (S.noal k blk)⟩
    · show (seqH es H' 0).get b = _
      rw [S.h0, reserve_get]
    · show (seqH es H' 0).next = _
      rw [S.h0, reserve_next]
    · obtain ⟨rb, _, _, _, h4⟩ := hE i o ho; exact h4
    · obtain ⟨rb, _, h3, _, _⟩ := hE i o ho
      rw [Nat.zero_add] at h3
      exact h3
    · intro i j o ho hB
      have := ancs_spec ops.toList [] [] rfl (fun i j o ho => by simp at ho) i j o (by simpa using ho) hB
      obtain ⟨e, he, h⟩ := this
      exact ⟨e, by simpa using he, h⟩
    · intro i j oi oj d hij hi hj hd hor
      rcases (hord' j oj hj).2 i oi hij hi with h | ⟨h, _⟩
      · exact h
      · rcases hor with h' | h'
        · exact absurd h' (h d hd).1
        · exact absurd h' (h d hd).2
    · intro i j oi oj d hij hi hj hd hm
      rcases (hord' j oj hj).2 i oi hij hi with h | ⟨_, h⟩
      · exact h
      · exact absurd hm (h d hd)
    · intro i j hij hj hki hkj
      have := S.ll2 i j hij (by simpa using hj) hki hkj
      simpa using this
    · intro i p o b ho hp hki hb hkp
      obtain ⟨rb, ⟨e, he1, he2⟩, h3, h4, _⟩ := hE i o ho
      have hrb : rb = some b := (h4 hki).trans hb
      rcases Nat.lt_trichotomy i p with hip | rfl | hip
      · have := S.rl2 i p e b hip (by simpa using hp) he1 (by rw [he2, hrb]) hkp
        rw [Nat.zero_add, Nat.zero_add] at this
        exact .inr this
      · have h1 : seqK es i = .loud := hkp
        have h2 : seqK es i = .read := hki
        rw [h1] at h2; cases h2
      · have := S.lr2 p i e b hip he1 (by rw [he2, hrb]) hkp
        rw [Nat.zero_add, Nat.zero_add] at this
        rcases this with h | h
        · exact .inl h
        · exact .inr (.inr h)
  have := ARun.draw D (id := id) hmix
  simp only [hfin.1, hfin.2] at this
  exact this
end
end
end Go.Am
