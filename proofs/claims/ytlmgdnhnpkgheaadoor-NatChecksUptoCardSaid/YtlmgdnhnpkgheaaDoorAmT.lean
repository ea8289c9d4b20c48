/- Slices that are grown by append. -/
import Derived.Test.YtlmgdnhnpkgheaaDoorAmS
namespace Go.Am
open Go
noncomputable section
set_option linter.unusedSimpArgs false
set_option linter.unusedVariables false

/-- A slice of our own that append may give up. -/
def Bld (H : AH) (N : Nat) (e : TypeId) (sz : Nat) (v : Value) (es : List (List Value)) : Prop :=
  (∀ x ∈ es, x.length = sz) ∧ ((v = .slice none 0 0 ∧ es = []) ∨ ∃ b, N ≤ b ∧ v = .slice (some ⟨b, 0, none⟩) es.length es.length ∧ H.get b = some ⟨es.flatten, e, sz, true⟩)
def Apart (v : Value) (b : Nat) : Prop := ∀ a l c, v = .slice (some a) l c → a.block ≠ b
theorem Bld.nil (H : AH) (N : Nat) (e : TypeId) (sz : Nat) : Bld H N e sz (.slice none 0 0) [] := ⟨by simp, .inl ⟨rfl, rfl⟩⟩
theorem Bld.sl {H : AH} {N : Nat} {e : TypeId} {sz : Nat} {v : Value} {es : List (List Value)} (h : Bld H N e sz v es) : Sl H sz v es := by
  obtain ⟨h0, h | ⟨b, hb, h1, h2⟩⟩ := h
  · exact ⟨h0, .inl h⟩
  · exact ⟨h0, .inr (.inl ⟨b, 0, none, _, _, h1, h2, by simp [flat_len h0], by rw [← flat_len h0]; exact List.take_length⟩)⟩
theorem Bld.keep {H H1 : AH} {N : Nat} {e : TypeId} {sz : Nat} {v : Value} {es : List (List Value)} (h : Bld H N e sz v es) (hk : ∀ b k, H.get b = some k → (∃ a l c, v = .slice (some a) l c ∧ a.block = b) → H1.get b = some k) : Bld H1 N e sz v es := by
  obtain ⟨h0, h | ⟨b, hb, h1, h2⟩⟩ := h
  · exact ⟨h0, .inl h⟩
  · exact ⟨h0, .inr ⟨b, hb, h1, hk b _ h2 ⟨_, _, _, h1, rfl⟩⟩⟩
theorem Bld.ext {H H1 : AH} {N : Nat} {e : TypeId} {sz : Nat} {v : Value} {es : List (List Value)} (h : Bld H N e sz v es) (x : Ext H H1) : Bld H1 N e sz v es := h.keep fun b k hk _ => x.2 b k hk
theorem Bld.set {H H1 : AH} {N b : Nat} {k : ABlk} {e : TypeId} {sz : Nat} {v : Value} {es : List (List Value)} (h : Bld H N e sz v es) (x : SetB H H1 b k) (ha : Apart v b) : Bld H1 N e sz v es :=
  h.keep fun b' k' hk ⟨a, l, c, hv, hb⟩ => x.old hk (by rw [← hb]; exact ha a l c hv)
theorem Bld.apart {H : AH} {N : Nat} {e : TypeId} {sz : Nat} {v : Value} {es : List (List Value)} (h : Bld H N e sz v es) {b : Nat} (hb : H.next ≤ b) : Apart v b := by
  obtain ⟨h0, ⟨rfl, _⟩ | ⟨b', hb', rfl, h2⟩⟩ := h
  · intro a l c h; cases h
  · intro a l c h; cases h; have := lt_next h2; show b' ≠ b; omega
theorem Sl.one {H : AH} {b sz : Nat} {k : ABlk} {c : List Value} {tg : Option Nat} {cap : Nat} (h : H.get b = some k) (hc : k.cells = c) (hl : c.length = sz) : Sl H sz (.slice (some ⟨b, 0, tg⟩) 1 cap) [c] :=
  ⟨by simp [hl], .inr (.inl ⟨b, 0, tg, cap, k, rfl, h, by simp [hc, hl], by subst hc; rw [← hl]; simp⟩)⟩
/-- What append gives. -/
structure App (H H1 : AH) (v v' : Value) : Prop where
  keep : ∀ b k, H.get b = some k → Apart v b → H1.get b = some k ∧ Apart v' b
  next : H.next ≤ H1.next
theorem App.ext {H0 H H1 : AH} {N : Nat} {e : TypeId} {sz : Nat} {v v' : Value} {es : List (List Value)} (h : App H H1 v v') (h0 : Ext H0 H) (hb : Bld H N e sz v es) (hN : H0.next ≤ N) : Ext H0 H1 := by
  refine ⟨Nat.le_trans h0.1 h.next, fun b k hk => (h.keep b k (h0.2 b k hk) ?_).1⟩
  obtain ⟨_, ⟨rfl, _⟩ | ⟨b', hb', rfl, h2⟩⟩ := hb
  · intro a l c h; cases h
  · intro a l c h; cases h; have := lt_next hk; show b' ≠ b; omega

section
variable {P : Program} {n : Nat} {σ : Nat → Value} {H H1 : AH} {ops : Array Oper} {l : List Oper} {Q : (Nat → Value) → AH → Prop} {d : Tmp} {ty t xt e : TypeId} {pos : String} {af : Array Edge} {g : Option (Nat × Bool)} {v w : Value} {x y : Operand} {es es2 : List (List Value)}

theorem asrc_sl {sz : Nat} (h : Sl H sz w es2) : asrc w sz H.get none = some (es2.length, es2.flatten) := by
  obtain ⟨h0, ⟨rfl, rfl⟩ | ⟨b, off, tg, cap, k, rfl, h2, h3, h4⟩ | ⟨b, off, tg, cap, rfl, rfl⟩⟩ := h
  · rfl
  rotate_left
  · simp [asrc]
  · simp only [asrc, Option.map_none, Option.getD_none]
    by_cases hz : es2.length = 0
    · have : es2 = [] := List.length_eq_zero_iff.1 hz
      subst this; simp
    · rw [if_neg hz]
      simp [h2, h3, h4]
theorem append_ok {N sz c1 : Nat} {z : Value} (he : elemT P t = some e) (hxt : notInt P xt = true) (hz : (P.info? e).bind (·.zero) = some z) (hsz : szT P e = some sz) (hby : ((P.info? e).map (·.bytes)) = some c1) (hzs : (decide (z.cells.size = sz) && decide (0 < sz)) = true) (hc1 : c1 ≤ 1048576)
    (hv : Bld H N e sz v es) (hw : Sl H sz w es2) (hok : okCells es2.flatten = true) (hlen : es.length + es2.length ≤ 16777216) (hN : N ≤ H.next) :
    ∃ v' H1, aappend P #[t, xt] v w H = some (v', H1) ∧ Bld H1 N e sz v' (es ++ es2) ∧ App H H1 v v' := by
  obtain ⟨inf, hi, rfl⟩ := szT_inv hsz
  simp only [hi, Option.bind_some, Option.map_some, Option.some.injEq] at hz hby
  subst hby
  simp only [Bool.and_eq_true, decide_eq_true_eq] at hzs
  have hbytes : ∀ m, m ≤ 16777216 → m * inf.bytes ≤ 2 ^ 47 := fun m hm => Nat.le_trans (Nat.mul_le_mul hm hc1) (by decide)
  have hall : ∀ x ∈ es ++ es2, x.length = inf.size := fun x hx => by
    rcases List.mem_append.1 hx with h | h
    · exact hv.1 x h
    · exact hw.1 x h
  have hcond : (notInt P xt && decide (z.cells.size = inf.size) && decide (0 < inf.size)) = true := by simp [hxt, hzs]
  obtain ⟨h0, ⟨rfl, rfl⟩ | ⟨b, hb, rfl, h2⟩⟩ := hv
  · by_cases hn : es2.length = 0
    · have : es2 = [] := List.length_eq_zero_iff.1 hn
      subst this
      refine ⟨.slice none 0 0, H, ?_, ⟨hall, .inl ⟨rfl, rfl⟩⟩, fun b k hk ha => ⟨hk, ha⟩, Nat.le_refl _⟩
      simp [aappend, elemT_inv he, hi, hz, hxt, hzs, asrc_sl hw]
    · refine ⟨.slice (some ⟨H.next, 0, none⟩) es2.length es2.length, H.push (some ⟨es2.flatten, e, inf.size, true⟩), ?_, ⟨hall, .inr ⟨H.next, hN, by simp, by simpa using get_push_new H _⟩⟩, fun b k hk ha => ⟨get_push_old hk, ?_⟩, by simp [AH.push]⟩
      · have h47 : es2.length ≤ 2 ^ 47 := by simp at hlen; omega
        have hby2 := hbytes es2.length (by simpa using hlen)
        simp only [aappend, List.getElem?_toArray, List.getElem?_cons_zero, List.getElem?_cons_succ, elemT_inv he, hi, hz, Option.bind_some, hcond, if_true, asrc_sl hw]
        rw [if_neg hn, if_pos ⟨hby2, h47⟩]
      · intro a l c h; cases h; have := lt_next hk; show H.next ≠ b; omega
  · by_cases hn : es2.length = 0
    · have : es2 = [] := List.length_eq_zero_iff.1 hn
      subst this
      refine ⟨.slice (some ⟨b, 0, none⟩) es.length es.length, H, ?_, ⟨hall, .inr ⟨b, hb, by simp, by simpa using h2⟩⟩, fun b k hk ha => ⟨hk, ha⟩, Nat.le_refl _⟩
      simp [aappend, elemT_inv he, hi, hz, hxt, hzs, asrc_sl hw]
    · refine ⟨.slice (some ⟨H.next, 0, none⟩) (es.length + es2.length) (es.length + es2.length), (H.set b none).push (some ⟨es.flatten ++ es2.flatten, e, inf.size, true⟩), ?_, ⟨hall, .inr ⟨H.next, hN, by simp, ?_⟩⟩, fun b' k hk ha => ⟨?_, ?_⟩, by simp [AH.push, AH.set]⟩
      · have h47 : es.length + es2.length ≤ 2 ^ 47 := by omega
        have hby2 := hbytes _ hlen
        have hlf := flat_len h0
        simp only [aappend, List.getElem?_toArray, List.getElem?_cons_zero, List.getElem?_cons_succ, elemT_inv he, hi, hz, Option.bind_some, hcond, if_true, asrc_sl hw]
        rw [if_neg (fun h => hn h.1)]
        simp only [h2, Option.bind_some]
        rw [if_neg (by omega), if_pos ⟨Nat.le_refl _, hby2, h47, by simp [hlf]⟩]
        have htk : (es.flatten.drop 0).take (es.length * inf.size) = es.flatten := by rw [← hlf]; exact List.take_length
        have hc3 : (true && decide (inf.size = inf.size) && okCells es2.flatten) = true := by simp [hok]
        rw [List.drop_zero] at htk
        simp [htk, hok]
      · have := get_push_new (H.set b none) (some ⟨es.flatten ++ es2.flatten, e, inf.size, true⟩)
        simpa [AH.set] using this
      · have hne : b' ≠ b := fun h => ha _ _ _ rfl h.symm
        apply get_push_old
        rw [get_set_upd _ _ h2]
        simp [upd, hne, hk]
      · intro a l c h; cases h; have := lt_next hk; show H.next ≠ b'; omega
theorem W.append {N sz c1 : Nat} {z : Value} (hg : gok n ops σ g true) (hd : (Nat.blt d n && (ook n x && ook n y)) = true) (he : elemT P t = some e) (hxt : notInt P xt = true) (hz : (P.info? e).bind (·.zero) = some z) (hsz : szT P e = some sz) (hby : ((P.info? e).map (·.bytes)) = some c1) (hzs : (decide (z.cells.size = sz) && decide (0 < sz)) = true) (hc1 : c1 ≤ 1048576)
    (hv : Bld H N e sz (oval σ x) es) (hw : Sl H sz (oval σ y) es2) (hok : okCells es2.flatten = true) (hlen : es.length + es2.length ≤ 16777216) (hN : N ≤ H.next)
    (hr : ∀ v' H1, Bld H1 N e sz v' (es ++ es2) → App H H1 (oval σ x) v' → AWO P n ops l (up σ d v') H1 Q) : AWO P n ops (⟨some d, .call ⟨.builtin .append, #[x, y], #[t, xt]⟩, ty, pos, af, g⟩ :: l) σ H Q := by
  simp only [Bool.and_eq_true] at hd
  obtain ⟨v', H1, h1, h2, h3⟩ := append_ok he hxt hz hsz hby hzs hc1 hv hw hok hlen hN
  refine .step (wanted_gok hg) hd.1 (astep_ok (v := v') (H' := H1) ?_) (hr v' H1 h2 h3)
  simp only [astep, apure, aread, aalloc, awrite, List.toList_toArray, opnd_oval hd.2.1, opnd_oval hd.2.2, Option.bind_some]
  exact h1
end
end
end Go.Am
