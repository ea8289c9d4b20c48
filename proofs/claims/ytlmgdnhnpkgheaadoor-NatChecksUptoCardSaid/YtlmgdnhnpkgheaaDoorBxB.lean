/- What a function owns while it runs: pieces with their blocks, beside what is frozen. -/
import Derived.Test.YtlmgdnhnpkgheaaDoorBxA
namespace Go.Am
open Go
noncomputable section
set_option linter.unusedSimpArgs false
set_option linter.unusedVariables false

/-- A piece of the heap that may change: its blocks, and what is known of them. -/
structure Pc where
  foot : List Nat
  ok : GM → GM → Prop
  mono : ∀ {G G' M : GM}, G.le G' → ok G M → ok G' M
  loc : ∀ {G M M' : GM}, (∀ b ∈ foot, M' b = M b) → ok G M → ok G M'
  bnd : ∀ {G M : GM}, ok G M → ∀ b ∈ foot, ∃ k, M b = some k
structure Ow (G : GM) (H : AH) (L : List Pc) : Prop where
  fro : G.le H.get
  ok : ∀ (i : Nat) (e : Pc), L[i]? = some e → e.ok G H.get
  dis : ∀ (i j : Nat) (e e' : Pc), i ≠ j → L[i]? = some e → L[j]? = some e' → ∀ b ∈ e.foot, b ∉ e'.foot
  apart : ∀ (i : Nat) (e : Pc), L[i]? = some e → ∀ b ∈ e.foot, G b = none
/-- Blocks that are frozen or owned. -/
def Vis (G : GM) (L : List Pc) (b : Nat) : Prop := (∃ k, G b = some k) ∨ ∃ (i : Nat) (e : Pc), L[i]? = some e ∧ b ∈ e.foot
def Same (G : GM) (L : List Pc) (H H1 : AH) : Prop := ∀ b, Vis G L b → H1.get b = H.get b

section
variable {G G' : GM} {H H1 : AH} {L : List Pc} {e e' : Pc} {j b : Nat} {k : ABlk}
theorem Ow.vis (h : Ow G H L) (hb : Vis G L b) : ∃ k, H.get b = some k := by
  rcases hb with ⟨k, hk⟩ | ⟨i, e, hi, hb⟩
  · exact ⟨k, h.fro b k hk⟩
  · exact e.bnd (h.ok i e hi) b hb
theorem Ow.lt (h : Ow G H L) (hb : Vis G L b) : b < H.next := by
  obtain ⟨k, hk⟩ := h.vis hb
  exact lt_next hk
theorem Ow.le (h : Ow G H L) (hG : G.le H.get → G'.le H.get) (hGG : G.le G') (ha : ∀ (i : Nat) (e : Pc), L[i]? = some e → ∀ b ∈ e.foot, G' b = none) : Ow G' H L :=
  ⟨hG h.fro, fun i e hi => e.mono hGG (h.ok i e hi), h.dis, ha⟩
theorem Ow.ext (h : Ow G H L) (x : Ext H H1) : Ow G H1 L :=
  ⟨fun b k hb => x.2 b k (h.fro b k hb), fun i e hi => e.loc (fun b hb => by obtain ⟨k, hk⟩ := e.bnd (h.ok i e hi) b hb; rw [hk]; exact x.2 b k hk) (h.ok i e hi), h.dis, h.apart⟩
theorem Ow.same (h : Ow G H L) (x : Ext H H1) : Same G L H H1 := fun b hb => by obtain ⟨k, hk⟩ := h.vis hb; rw [hk]; exact x.2 b k hk
/-- A new block. -/
theorem Ow.new (h : Ow G H L) (nb : NewB H H1 b k) (e : Pc) (hf : e.foot = [b]) (hk : e.ok G H1.get) : Ow G H1 (e :: L) := by
  have h1 := h.ext nb.ext
  have hb : ∀ c, Vis G L c → c ≠ b := fun c hc => by have := h.lt hc; have := nb.fresh; omega
  refine ⟨h1.fro, fun i e' hi => ?_, fun i j e1 e2 hij hi hj c hc => ?_, fun i e' hi c hc => ?_⟩
  · cases i with
    | zero => simp at hi; subst hi; exact hk
    | succ i => exact h1.ok i e' (by simpa using hi)
  · cases i with
    | zero =>
      simp at hi; subst hi
      rw [hf] at hc; simp at hc; subst hc
      cases j with
      | zero => exact absurd rfl hij
      | succ j => exact fun hc => hb c (.inr ⟨j, e2, by simpa using hj, hc⟩) rfl
    | succ i =>
      cases j with
      | zero => simp at hj; subst hj; rw [hf]; simp; exact hb c (.inr ⟨i, e1, by simpa using hi, hc⟩)
      | succ j => exact h.dis i j e1 e2 (by omega) (by simpa using hi) (by simpa using hj) c hc
  · cases i with
    | zero =>
      simp at hi; subst hi
      rw [hf] at hc; simp at hc; subst hc
      cases hg : G c with
      | none => rfl
      | some k => exact absurd rfl (hb c (.inl ⟨k, hg⟩))
    | succ i => exact h.apart i e' (by simpa using hi) c hc
/-- One piece in place of another. -/
theorem Ow.put (h : Ow G H L) (hj : L[j]? = some e) (e' : Pc) (hf : ∀ b ∈ e'.foot, b ∈ e.foot ∨ H.next ≤ b) (hk : e'.ok G H1.get) (hs : ∀ b k, H.get b = some k → b ∉ e.foot → H1.get b = some k) : Ow G H1 (L.set j e') := by
  have hjl : j < L.length := (List.getElem?_eq_some_iff.1 hj).1
  have hset : ∀ (i : Nat) (x : Pc), (L.set j e')[i]? = some x → (i = j ∧ x = e') ∨ (i ≠ j ∧ L[i]? = some x) := fun i x hx => by
    rw [List.getElem?_set] at hx
    by_cases hij : j = i
    · subst hij; simp [hjl] at hx; exact .inl ⟨rfl, hx.symm⟩
    · rw [if_neg hij] at hx; exact .inr ⟨fun e => hij e.symm, hx⟩
  have hold : ∀ (i : Nat) (x : Pc), i ≠ j → L[i]? = some x → ∀ b ∈ x.foot, H1.get b = H.get b := fun i x hij hx b hb => by
    obtain ⟨k, hk⟩ := x.bnd (h.ok i x hx) b hb
    rw [hk]; exact hs b k hk (h.dis i j x e hij hx hj b hb)
  refine ⟨fun b k hb => hs b k (h.fro b k hb) fun hc => ?_, fun i x hx => ?_, fun i i' x x' hii hx hx' b hb => ?_, fun i x hx b hb => ?_⟩
  · have := h.apart j e hj b hc; rw [hb] at this; cases this
  · rcases hset i x hx with ⟨rfl, rfl⟩ | ⟨hij, hx2⟩
    · exact hk
    · exact x.loc (hold i x hij hx2) (h.ok i x hx2)
  · rcases hset i x hx with ⟨rfl, rfl⟩ | ⟨hij, hx2⟩
    · rcases hset i' x' hx' with ⟨rfl, rfl⟩ | ⟨hij', hx2'⟩
      · exact absurd rfl hii
      · intro hc
        rcases hf b hb with h1 | h1
        · exact h.dis i i' e x' hii hj hx2' b h1 hc
        · have := h.lt (.inr ⟨i', x', hx2', hc⟩); omega
    · rcases hset i' x' hx' with ⟨rfl, rfl⟩ | ⟨hij', hx2'⟩
      · intro hc
        rcases hf b hc with h1 | h1
        · exact h.dis i i' x e hii hx2 hj b hb h1
        · have := h.lt (.inr ⟨i, x, hx2, hb⟩); omega
      · exact h.dis i i' x x' hii hx2 hx2' b hb
  · rcases hset i x hx with ⟨rfl, rfl⟩ | ⟨hij, hx2⟩
    · rcases hf b hb with h1 | h1
      · exact h.apart i e hj b h1
      · cases hg : G b with
        | none => rfl
        | some k => have := h.lt (.inl ⟨k, hg⟩); omega
    · exact h.apart i x hx2 b hb
theorem erase_get {α : Type} {L : List α} {j i : Nat} {x : α} (h : (L.eraseIdx j)[i]? = some x) : ∃ i', L[i']? = some x ∧ i' ≠ j ∧ (∀ m, (if m < j then m else m + 1) = i' ↔ m = i) := by
  rw [List.getElem?_eraseIdx] at h
  split at h
  · refine ⟨i, h, by omega, fun m => ?_⟩
    split <;> omega
  · refine ⟨i + 1, h, by omega, fun m => ?_⟩
    split <;> omega
/-- A piece is let go. -/
theorem Ow.drop (h : Ow G H L) (j : Nat) : Ow G H (L.eraseIdx j) := by
  refine ⟨h.fro, fun i x hx => ?_, fun i i' x x' hii hx hx' => ?_, fun i x hx => ?_⟩
  · obtain ⟨m, hm, _⟩ := erase_get hx; exact h.ok m x hm
  · obtain ⟨m, hm, _, h1⟩ := erase_get hx
    obtain ⟨m', hm', _, h2⟩ := erase_get hx'
    refine h.dis m m' x x' (fun e => hii ?_) hm hm'
    have a := (h1 i).2 rfl
    have b := (h2 i').2 rfl
    rw [← e] at b
    exact ((h1 i').1 b).symm
  · obtain ⟨m, hm, _⟩ := erase_get hx; exact h.apart m x hm
/-- A piece is frozen. -/
theorem Ow.freeze (h : Ow G H L) (hj : L[j]? = some e) : ∃ G', Ow G' H (L.eraseIdx j) ∧ G.le G' ∧ ∀ b ∈ e.foot, G' b = H.get b := by
  classical
  refine ⟨fun b => if b ∈ e.foot then H.get b else G b, ?_, fun b k hb => ?_, fun b hb => by simp [hb]⟩
  · have hle : G.le fun b => if b ∈ e.foot then H.get b else G b := fun b k hb => by
      by_cases hc : b ∈ e.foot
      · have := h.apart j e hj b hc; rw [hb] at this; cases this
      · simp [hc, hb]
    refine (h.drop j).le (fun _ b k hb => ?_) hle fun i x hx b hb => ?_
    · by_cases hc : b ∈ e.foot
      · simpa [hc] using hb
      · exact h.fro b k (by simpa [hc] using hb)
    · obtain ⟨m, hm, hne, _⟩ := erase_get hx
      have hc : b ∉ e.foot := h.dis m j x e hne hm hj b hb
      simp [hc, h.apart m x hm b hb]
  · by_cases hc : b ∈ e.foot
    · have := h.apart j e hj b hc; rw [hb] at this; cases this
    · simp [hc, hb]
/-- A piece is laid ahead of the others. -/
theorem Ow.front (h : Ow G H L) (hj : L[j]? = some e) : Ow G H (e :: L.eraseIdx j) := by
  have d := h.drop j
  refine ⟨h.fro, fun i x hx => ?_, fun i i' x x' hii hx hx' b hb => ?_, fun i x hx => ?_⟩
  · cases i with
    | zero => simp at hx; subst hx; exact h.ok j _ hj
    | succ i => exact d.ok i x (by simpa using hx)
  · cases i with
    | zero =>
      simp at hx; subst hx
      cases i' with
      | zero => exact absurd rfl hii
      | succ i' =>
        obtain ⟨m, hm, hne, _⟩ := erase_get (by simpa using hx')
        exact h.dis j m _ x' (fun e => hne e.symm) hj hm b hb
    | succ i =>
      cases i' with
      | zero =>
        simp at hx'; subst hx'
        obtain ⟨m, hm, hne, _⟩ := erase_get (by simpa using hx)
        exact h.dis m j x _ hne hm hj b hb
      | succ i' => exact d.dis i i' x x' (by omega) (by simpa using hx) (by simpa using hx') b hb
  · cases i with
    | zero => simp at hx; subst hx; exact h.apart j _ hj
    | succ i => exact d.apart i x (by simpa using hx)
/-- Everything stays in its place, word for word. -/
def Pc.pin (e : Pc) (M0 : GM) : Pc := ⟨e.foot, fun _ M => ∀ b ∈ e.foot, M b = M0 b ∧ ∃ k, M0 b = some k, fun _ h => h, fun hl h b hb => by rw [hl b hb]; exact h b hb, fun h b hb => by obtain ⟨h1, k, hk⟩ := h b hb; exact ⟨k, by rw [h1, hk]⟩⟩
theorem Ow.re {L2 : List Pc} (h : Ow G H L) (hl : ∀ (i : Nat) (x : Pc), L2[i]? = some x → ∃ y : Pc, L[i]? = some y ∧ y.foot = x.foot ∧ (y.ok G H.get → x.ok G H.get)) : Ow G H L2 := by
  refine ⟨h.fro, fun i x hx => ?_, fun i i' x x' hii hx hx' => ?_, fun i x hx => ?_⟩
  · obtain ⟨y, hy, _, h1⟩ := hl i x hx; exact h1 (h.ok i y hy)
  · obtain ⟨y, hy, e1, _⟩ := hl i x hx
    obtain ⟨y', hy', e2, _⟩ := hl i' x' hx'
    rw [← e1, ← e2]; exact h.dis i i' y y' hii hy hy'
  · obtain ⟨y, hy, e1, _⟩ := hl i x hx
    rw [← e1]; exact h.apart i y hy
theorem Ow.pin {ps : List Pc} (h : Ow G H (ps ++ L)) : Ow G H (ps ++ L.map fun e => e.pin H.get) := by
  refine h.re fun i x hx => ?_
  rw [List.getElem?_append] at hx ⊢
  split at hx
  · exact ⟨x, by rw [if_pos (by assumption)]; exact hx, rfl, fun h => h⟩
  · rename_i hi
    rw [List.getElem?_map] at hx
    obtain ⟨e, he, rfl⟩ := Option.map_eq_some_iff.1 hx
    exact ⟨e, by rw [if_neg hi]; exact he, rfl, fun ho b hb => ⟨rfl, e.bnd ho b hb⟩⟩
theorem Ow.unpin {ps ps' : List Pc} (h : Ow G H (ps ++ L)) (hG : G.le G') (h' : Ow G' H1 (ps' ++ L.map fun e => e.pin H.get)) : Ow G' H1 (ps' ++ L) ∧ Same G L H H1 := by
  have hL : ∀ (i : Nat) (e : Pc), L[i]? = some e → e.ok G H.get ∧ (∀ b ∈ e.foot, H1.get b = H.get b) := fun i e he => by
    have e1 : (ps ++ L)[ps.length + i]? = some e := by rw [List.getElem?_append_right (by omega)]; simpa using he
    have e2 : (ps' ++ L.map fun e => e.pin H.get)[ps'.length + i]? = some (e.pin H.get) := by rw [List.getElem?_append_right (by omega)]; simp [he]
    exact ⟨h.ok _ _ e1, fun b hb => (h'.ok _ _ e2 b hb).1⟩
  refine ⟨h'.re fun i x hx => ?_, fun b hb => ?_⟩
  · rw [List.getElem?_append] at hx ⊢
    split at hx
    · exact ⟨x, by rw [if_pos (by assumption)]; exact hx, rfl, fun h => h⟩
    · rename_i hi
      obtain ⟨k1, k2⟩ := hL _ _ hx
      exact ⟨x.pin H.get, by rw [if_neg hi, List.getElem?_map, hx]; rfl, rfl, fun _ => x.loc k2 (x.mono hG k1)⟩
  · rcases hb with ⟨k, hk⟩ | ⟨i, e, hi, hb⟩
    · rw [h.fro b k hk]; exact h'.fro b k (hG b k hk)
    · exact (hL i e hi).2 b hb
end

/-! ### Kinds of pieces -/
/-- A variable in a block of its own. -/
def eVar {α : Type} (b : Nat) (e : TypeId) (r : RT α) (x : α) : Pc :=
  ⟨[b], fun G M => ∃ cs, M b = some ⟨cs, e, 1, true⟩ ∧ r.rep G cs x, fun hG ⟨cs, h1, h2⟩ => ⟨cs, h1, r.mono hG h2⟩, fun hl ⟨cs, h1, h2⟩ => ⟨cs, by rw [hl b (by simp), h1], h2⟩, fun ⟨cs, h1, _⟩ c hc => by simp at hc; subst hc; exact ⟨_, h1⟩⟩
def footV : Value → List Nat
  | .slice (some a) _ _ => [a.block]
  | _ => []
/-- A slice with its block: it may be written and grown. -/
def SlO (e : TypeId) (sz : Nat) (M : GM) (v : Value) (es : List (List Value)) : Prop :=
  (v = .slice none 0 0 ∧ es = []) ∨ ∃ b tg cap rest sz', v = .slice (some ⟨b, 0, tg⟩) es.length cap ∧ M b = some ⟨es.flatten ++ rest, e, sz', true⟩ ∧ (es.flatten ++ rest).length = cap * sz ∧ es.length ≤ cap ∧ ((tg = none ∧ sz' = sz) ∨ tg = some 0)
def eSl {α : Type} (v : Value) (e : TypeId) (r : RT α) (xs : List α) : Pc :=
  ⟨footV v, fun G M => ∃ es, SlO e r.sz M v es ∧ All2 (r.rep G) es xs, fun hG ⟨es, h1, h2⟩ => ⟨es, h1, h2.mono fun _ _ => r.mono hG⟩,
    fun hl ⟨es, h1, h2⟩ => ⟨es, by
      rcases h1 with h1 | ⟨b, tg, cap, rest, sz', rfl, hb, h⟩
      · exact .inl h1
      · exact .inr ⟨b, tg, cap, rest, sz', rfl, by rw [hl b (by simp [footV]), hb], h⟩, h2⟩,
    fun ⟨es, h1, _⟩ c hc => by
      rcases h1 with ⟨rfl, _⟩ | ⟨b, tg, cap, rest, sz', rfl, hb, h⟩
      · simp [footV] at hc
      · simp [footV] at hc; subst hc; exact ⟨_, hb⟩⟩
section
variable {α β : Type} {r : RT α} {s : RT β} {G : GM} {H H1 : AH} {L : List Pc} {v : Value} {x : α} {xs : List α} {e : TypeId} {b j : Nat}
theorem SlO.slG {e : TypeId} {sz : Nat} {M : GM} {es : List (List Value)} (h : SlO e sz M v es) (hs : ∀ x ∈ es, x.length = sz) : SlG M sz v es := by
  rcases h with ⟨rfl, rfl⟩ | ⟨b, tg, cap, rest, sz', rfl, hb, h1, h2, h3⟩
  · exact ⟨hs, .inl ⟨rfl, rfl⟩⟩
  · refine ⟨hs, .inr (.inl ⟨b, 0, tg, cap, _, rfl, hb, ?_, ?_, h2, ?_⟩)⟩
    · simp [flat_len hs]
    · rw [List.drop_zero, ← flat_len hs, List.take_left]
    · rcases h3 with h | h
      · exact .inl h.1
      · exact .inr h
theorem Ow.atVar (h : Ow G H L) (hj : L[j]? = some (eVar b e r x)) : At G H.get (.pointer (some ⟨b, 0, none⟩)) r x := by
  obtain ⟨cs, h1, h2⟩ := h.ok j _ hj
  exact ⟨cs, ⟨b, 0, _, rfl, h1, by simp, by simp⟩, h2⟩
theorem Ow.slLen (h : Ow G H L) (hj : L[j]? = some (eSl v e r xs)) : isSlV v xs.length := by
  obtain ⟨es, h1, h2⟩ := h.ok j _ hj
  rw [← h2.length]; exact (h1.slG h2.each).isSl
theorem Ow.atSl {i : Nat} (h : Ow G H L) (hj : L[j]? = some (eSl v e r xs)) (hi : xs[i]? = some x) : At G H.get (selem v (i * r.sz)) r x := by
  obtain ⟨es, h1, h2⟩ := h.ok j _ hj
  obtain ⟨c, hc, hr⟩ := h2.get hi
  exact ⟨c, (h1.slG h2.each).idx hc, hr⟩
theorem Ow.frzVar (h : Ow G H L) (hj : L[j]? = some (eVar b e r x)) : ∃ G', Ow G' H (L.eraseIdx j) ∧ G.le G' ∧ At G' G' (.pointer (some ⟨b, 0, none⟩)) r x := by
  obtain ⟨G', h1, h2, h3⟩ := h.freeze hj
  obtain ⟨cs, h4, h5⟩ := h.ok j _ hj
  exact ⟨G', h1, h2, cs, ⟨b, 0, _, rfl, (h3 b (by simp [eVar])).trans h4, by simp, by simp⟩, r.mono h2 h5⟩
theorem Ow.frzSl (h : Ow G H L) (hj : L[j]? = some (eSl v e r xs)) : ∃ G', Ow G' H (L.eraseIdx j) ∧ G.le G' ∧ (rSl r).rep G' [v] xs := by
  obtain ⟨G', h1, h2, h3⟩ := h.freeze hj
  obtain ⟨es, h4, h5⟩ := h.ok j _ hj
  refine ⟨G', h1, h2, v, es, rfl, SlO.slG (e := e) ?_ h5.each, h5.mono fun _ _ => r.mono h2⟩
  rcases h4 with h4 | ⟨b, tg, cap, rest, sz', rfl, hb, h⟩
  · exact .inl h4
  · exact .inr ⟨b, tg, cap, rest, sz', rfl, (h3 b (by simp [eSl, footV])).trans hb, h⟩
theorem vis_at {M : GM} (h : At G M v r x) (hM : M = G) : Vis G L (blkOf v) := by
  obtain ⟨cs, h1, _⟩ := h
  obtain ⟨k, hk⟩ := h1.blk
  exact .inl ⟨k, by rw [← hM]; exact hk⟩
end

/-! ### Calls and loud operations -/
/-- What a call comes to. -/
def CR (P : Program) (f : FuncId) (args : List Value) (G : GM) (H : AH) (L : List Pc) (Φ : Value → GM → AH → Prop) : Prop :=
  ∃ v H' G', ACalls P f args H v H' ∧ Ow G' H' L ∧ G.le G' ∧ Φ v G' H'
def Loud (P : Program) (n : Nat) (o : Oper) (σ : Nat → Value) (H : AH) (Φ : Value → AH → Prop) : Prop := ∃ v H1, StepOk P o (toL n σ) H v H1 ∧ Φ v H1
section
variable {P : Program} {n : Nat} {σ : Nat → Value} {H H1 : AH} {ops : Array Oper} {l : List Oper} {Q : (Nat → Value) → AH → Prop} {d : Tmp} {dd : Option Tmp} {ty t yt e : TypeId} {pos : String} {af : Array Edge} {g : Option (Nat × Bool)} {v u w : Value} {x y c : Operand}
  {M : List Nat} {R : ReadL} {LL : LoudL} {i : Nat} {op : Op} {Φ : Value → AH → Prop} {G : GM} {L : List Pc}
theorem W.lo (hg : gok n ops σ g true) (hd : dok n dd = true) (hs : Loud P n ⟨dd, op, ty, pos, af, g⟩ σ H Φ) (hr : ∀ v H1, Φ v H1 → AWO P n ops l (upo σ dd v) H1 Q) : AWO P n ops (⟨dd, op, ty, pos, af, g⟩ :: l) σ H Q := by
  obtain ⟨v, H1, h1, h2⟩ := hs
  exact .step (wanted_gok hg) hd h1 (hr v H1 h2)
theorem D.lo (hg : gok n ops σ g true) (hd : dok n dd = true) (hs : Loud P n ⟨dd, op, ty, pos, af, g⟩ σ H Φ) (hR : ∀ v H1, Φ v H1 → ∀ r ∈ R, (M.getD i 0).testBit r.1 = true ∨ H1.get r.2 = H.get r.2) (hL : ∀ q ∈ LL, (M.getD i 0).testBit q.1 = true)
    (hr : ∀ v H1, Φ v H1 → AWD P n ops M l (i + 1) R ((i, H, H1) :: LL) (upo σ dd v) H1 Q) : AWD P n ops M (⟨dd, op, ty, pos, af, g⟩ :: l) i R LL σ H Q := by
  obtain ⟨v, H1, h1, h2⟩ := hs
  exact D.loud hg hd h1 (hR v H1 h2) hL (hr v H1 h2)
theorem faR1 {m j b : Nat} {R : ReadL} {A B : AH} (h : m.testBit j = true ∨ B.get b = A.get b) (hl : ∀ r ∈ R, m.testBit r.1 = true ∨ B.get r.2 = A.get r.2) : ∀ r ∈ (j, b) :: R, m.testBit r.1 = true ∨ B.get r.2 = A.get r.2 := fa_cons h hl
theorem D.load1' {r : List Value} (hg : gok n ops σ g true) (hd : (Nat.blt d n && ook n x) = true) (ha : isAggT P t = some false) (hp : Pt H (oval σ x) (v :: r)) (hL : ∀ q ∈ LL, (M.getD i 0).testBit q.1 = true ∨ q.2.2.get (blkOf (oval σ x)) = q.2.1.get (blkOf (oval σ x)))
    (hr : AWD P n ops M l (i + 1) ((i, blkOf (oval σ x)) :: R) LL (up σ d v) H Q) : AWD P n ops M (⟨some d, .load t x, ty, pos, af, g⟩ :: l) i R LL σ H Q := by
  simp only [Bool.and_eq_true] at hd
  exact D.read hg hd.1 (r_load1 ha (opnd_oval hd.2) hp) (reads_load hd.2 hp) hL hr
theorem D.loadA' {N : Nat} {cs : List Value} (hg : gok n ops σ g true) (hd : (Nat.blt d n && ook n x) = true) (ha : isAggT P t = some true) (hz : szT P t = some N) (hp : Pt H (oval σ x) cs) (hN : cs.length = N) (hL : ∀ q ∈ LL, (M.getD i 0).testBit q.1 = true ∨ q.2.2.get (blkOf (oval σ x)) = q.2.1.get (blkOf (oval σ x)))
    (hr : AWD P n ops M l (i + 1) ((i, blkOf (oval σ x)) :: R) LL (up σ d (.agg cs.toArray)) H Q) : AWD P n ops M (⟨some d, .load t x, ty, pos, af, g⟩ :: l) i R LL σ H Q := by
  simp only [Bool.and_eq_true] at hd
  exact D.read hg hd.1 (r_loadA ha hz (opnd_oval hd.2) hp hN) (reads_load hd.2 hp) hL hr

/-- A call whose contract speaks of any pieces: they stay, word for word; the first ones may change. -/
theorem Lo.callP {f : FuncId} {args : Array Operand} {ats : Array TypeId} {al : List Value} {fn : Func} {ps ps' : List Pc} {Ψ : Value → GM → Prop} (hd : args.toList.all (ook n) = true) (hf : P.funcs[f]? = some fn) (hnm : (fn.name == "runtime.NumGoroutine" || fn.body.isNone) = false)
    (ha : args.toList.map (oval σ) = al) (O : Ow G H (ps ++ L)) (hc : ∀ L, Ow G H (ps ++ L) → CR P f al G H (ps' ++ L) fun v G' _ => Ψ v G') :
    Loud P n ⟨some d, .call ⟨.value (.func f), args, ats⟩, ty, pos, af, g⟩ σ H fun v H1 => ∃ G', Ow G' H1 (ps' ++ L) ∧ G.le G' ∧ Same G L H H1 ∧ Ψ v G' := by
  obtain ⟨v, H1, G', h1, h2, h3, h4⟩ := hc _ O.pin
  obtain ⟨u1, u2⟩ := O.unpin h3 h2
  exact ⟨v, H1, call_step (fo := .func f) hd hf hnm ha h1, G', u1, h3, u2, h4⟩
theorem Lo.callvP {f : FuncId} {fo : Operand} {args : Array Operand} {ats : Array TypeId} {al : List Value} {a b : Array Value} {fn : Func} {ps ps' : List Pc} {Ψ : Value → GM → Prop} (hd : (ook n fo && args.toList.all (ook n)) = true) (hfo : oval σ fo = .func (.func f) a b) (hf : P.funcs[f]? = some fn) (hnm : (fn.name == "runtime.NumGoroutine" || fn.body.isNone) = false)
    (ha : args.toList.map (oval σ) = al) (O : Ow G H (ps ++ L)) (hc : ∀ L, Ow G H (ps ++ L) → CR P f (a.toList ++ al ++ b.toList) G H (ps' ++ L) fun v G' _ => Ψ v G') :
    Loud P n ⟨some d, .call ⟨.value fo, args, ats⟩, ty, pos, af, g⟩ σ H fun v H1 => ∃ G', Ow G' H1 (ps' ++ L) ∧ G.le G' ∧ Same G L H H1 ∧ Ψ v G' := by
  obtain ⟨v, H1, G', h1, h2, h3, h4⟩ := hc _ O.pin
  obtain ⟨u1, u2⟩ := O.unpin h3 h2
  exact ⟨v, H1, callv_step hd hfo hf hnm ha h1, G', u1, h3, u2, h4⟩
/-- A function value that leaves every piece as it is. -/
def FnOk {α β : Type} (P : Program) (G : GM) (v : Value) (A : GM → List Value → α → Prop) (B : GM → Value → β → Prop) (F : α → Option β) : Prop :=
  ∃ f a b fn, v = .func (.func f) a b ∧ P.funcs[f]? = some fn ∧ (fn.name == "runtime.NumGoroutine" || fn.body.isNone) = false ∧
    ∀ G1 H L vs x r, G.le G1 → Ow G1 H L → A G1 vs x → F x = some r → CR P f (a.toList ++ vs ++ b.toList) G1 H L fun v G' _ => B G' v r
theorem FnOk.le {α β : Type} {G G' : GM} {v : Value} {A : GM → List Value → α → Prop} {B : GM → Value → β → Prop} {F : α → Option β} (h : FnOk P G v A B F) (e : G.le G') : FnOk P G' v A B F := by
  obtain ⟨f, a, b, fn, h1, h2, h3, h4⟩ := h
  exact ⟨f, a, b, fn, h1, h2, h3, fun G1 H L vs x r hG => h4 G1 H L vs x r (e.trans hG)⟩
theorem Lo.callF {α β : Type} {fo : Operand} {args : Array Operand} {ats : Array TypeId} {al : List Value} {A : GM → List Value → α → Prop} {B : GM → Value → β → Prop} {F : α → Option β} {x0 : α} {r : β} (hd : (ook n fo && args.toList.all (ook n)) = true) (hfo : oval σ fo = v) (hu : FnOk P G v A B F)
    (ha : args.toList.map (oval σ) = al) (hA : A G al x0) (hF : F x0 = some r) (O : Ow G H L) :
    Loud P n ⟨some d, .call ⟨.value fo, args, ats⟩, ty, pos, af, g⟩ σ H fun v H1 => ∃ G', Ow G' H1 L ∧ G.le G' ∧ Same G L H H1 ∧ B G' v r := by
  obtain ⟨f, a, b, fn, rfl, h2, h3, h4⟩ := hu
  exact Lo.callvP (ps := []) (ps' := []) hd hfo h2 h3 ha O fun L O => h4 G H L al x0 r (GM.le.refl _) O hA hF
theorem mc {xs : List Operand} {vs : List Value} (h : oval σ x = v) (hl : xs.map (oval σ) = vs) : (x :: xs).map (oval σ) = v :: vs := by simp [h, hl]
theorem mn : ([] : List Operand).map (oval σ) = [] := rfl
end
end
end Go.Am
