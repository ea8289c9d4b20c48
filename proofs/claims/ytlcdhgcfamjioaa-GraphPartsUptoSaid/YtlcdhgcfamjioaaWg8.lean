/- Walk: Joined. -/
import Derived.Test.YtlcdhgcfamjioaaWg7
namespace Go.Am.Try
open Go Go.Am Go.Proofs
set_option linter.unusedVariables false
set_option linter.unusedSimpArgs false
def rowB (n : Nat) (f : Nat → Bool) : ABlk := ⟨(List.range n).map (fun k => Value.bool (f k)), 4, 1, true⟩
def outB (n i : Nat) (bs : Nat → Nat) : ABlk := ⟨(List.range n).map (fun a => if a < i then Value.slice (some ⟨bs a, 0, some 0⟩) n n else .slice none 0 0), 30, 1, true⟩
def idM (a b : Nat) : Bool := a == b
def updN (bs : Nat → Nat) (i b : Nat) : Nat → Nat := fun a => if a = i then b else bs a
def setM (M : Nat → Nat → Bool) (x y : Nat) (v : Bool) : Nat → Nat → Bool := fun a b => if a = x ∧ b = y then v else M a b
def JOk (l : List (Int × Int)) (U : Nat → Bool) (n : Nat) (M : Nat → Nat → Bool) (e : Nat) : Prop :=
  ∀ a b, a < n → b < n → (M a b = true ↔ a = b ∨ ∃ k, k < e ∧ U k = true ∧ (l.getD k (0, 0) = ((a : Int), (b : Int)) ∨ l.getD k (0, 0) = ((b : Int), (a : Int))))
structure WOk (l : List (Int × Int)) (U : Nat → Bool) (n : Nat) (M : Nat → Nat → Bool) (m : Nat) : Prop where
  sound : ∀ a b, a < n → b < n → M a b = true → Con l U a b
  refl : ∀ a < n, M a a = true
  edge : ∀ a b, a < n → b < n → Edg l U a b → M a b = true
  tr : ∀ c < m, ∀ a b, a < n → b < n → M a c = true → M c b = true → M a b = true
def phM (M : Nat → Nat → Bool) (m i k a b : Nat) : Bool := if a < i ∨ (a = i ∧ b < k) then (M a b || (M a m && M m b)) else M a b
theorem splice_row {n i : Nat} (F : Nat → Value) (hi : i < n) {v : Value} (hv : v.cells.toList = [v]) : splice ((List.range n).map F) (0 + i * 1) v.cells.toList = (List.range n).map (fun a => if a = i then v else F a) := by
  rw [hv, Nat.zero_add, Nat.mul_one]
  apply List.ext_getElem?
  intro j
  unfold splice
  simp only [List.getElem?_append, List.length_append, List.length_take, List.length_map, List.length_range, List.length_cons, List.length_nil, List.getElem?_map, List.getElem?_take, List.getElem?_drop]
  rcases Nat.lt_trichotomy j i with h1 | h1 | h1
  · have e : ¬ j = i := by omega
    have hjn : j < n := by omega
    rw [if_pos (by omega), if_pos (by omega), if_pos h1]
    simp [hjn, e]
  · subst h1
    rw [if_pos (by omega), if_neg (by omega)]
    have : j - min j n = 0 := by omega
    simp [this, hi]
  · rw [if_neg (by omega)]
    have e : ¬ j = i := by omega
    have h2 : i + 1 + (j - (min i n + (0 + 1))) = j := by omega
    simp only [h2]
    by_cases hjn : j < n
    · simp [hjn, e]
    · simp [hjn]
theorem Pt.row {H : AH} {b n i : Nat} {e : TypeId} {sz : Nat} {ow : Bool} {F : Nat → Value} {v : Value} (hb : H.get b = some ⟨(List.range n).map F, e, sz, ow⟩) (hi : i < n) (hv : F i = v) : Pt H (.pointer (some ⟨b, 0 + i * 1, none⟩)) [v] := by
  subst hv
  refine ⟨b, _, _, rfl, hb, by simp; omega, ?_⟩
  apply List.ext_getElem?
  intro j
  cases j with
  | zero => simp [hi]
  | succ j => simp; omega
theorem zcells_bool (n : Nat) : zcells (Value.bool false).cells n = List.replicate n (.bool false) := by simp [zcells, Value.cells]
theorem zcells_boolL (n : Nat) : (zcells (Value.bool false).cells (n * 1)).length = n := by simp [zcells_bool]
theorem row_first {n i : Nat} (hi : i < n) : splice (zcells (Value.bool false).cells (n * 1)) (0 + i * 1) (Value.bool true).cells.toList = (List.range n).map (fun k => Value.bool (idM i k)) := by
  have h : zcells (Value.bool false).cells (n * 1) = (List.range n).map (fun _ => Value.bool false) := by rw [zcells_bool, Nat.mul_one]; simp [List.map_const']
  rw [h, splice_row _ hi rfl]
  apply List.map_congr_left
  intro a _
  by_cases e : a = i
  · subst e; simp [idM]
  · have : ¬ i = a := fun h => e h.symm
    simp [idM, e, this]
theorem out_0 (n : Nat) : (⟨zcells (Value.slice none 0 0).cells (n * 1), 30, 1, true⟩ : ABlk) = outB n 0 (fun _ => 0) := by
  simp [outB, zcells, Value.cells, List.map_const']
theorem out_step (n i : Nat) (bs : Nat → Nat) (b : Nat) : (⟨(List.range n).map (fun a => if a = i then Value.slice (some ⟨b, 0, some 0⟩) n n else if a < i then Value.slice (some ⟨bs a, 0, some 0⟩) n n else .slice none 0 0), 30, 1, true⟩ : ABlk) = outB n (i + 1) (updN bs i b) := by
  unfold outB
  congr 1
  apply List.map_congr_left
  intro a _
  by_cases e : a = i
  · subst e; simp [updN]
  · by_cases h : a < i
    · simp [updN, e, h, show a < i + 1 by omega]
    · simp [updN, e, h, show ¬ a < i + 1 by omega]
theorem fam_new {H : AH} {n i b : Nat} {bs : Nat → Nat} (fm : ∀ a < i, H.get (bs a) = some (rowB n (idM a))) (hb : H.get b = some ⟨(List.range n).map (fun k => Value.bool (idM i k)), 4, 1, true⟩) : ∀ a < i + 1, H.get (updN bs i b a) = some (rowB n (idM a)) := by
  intro a ha
  unfold updN
  by_cases e : a = i
  · subst e; rw [if_pos rfl]; exact hb
  · rw [if_neg e]; exact fm a (by omega)
theorem gt_new {N i b : Nat} {bs : Nat → Nat} (h : ∀ a < i, N ≤ bs a) (hb : N ≤ b) : ∀ a < i + 1, N ≤ updN bs i b a := by
  intro a ha
  unfold updN
  by_cases e : a = i
  · rw [if_pos e]; exact hb
  · rw [if_neg e]; exact h a (by omega)
theorem ne_new {N i b : Nat} {bs : Nat → Nat} (h : ∀ a < i, bs a ≠ N) (hb : b ≠ N) : ∀ a < i + 1, updN bs i b a ≠ N := by
  intro a ha
  unfold updN
  by_cases e : a = i
  · rw [if_pos e]; exact hb
  · rw [if_neg e]; exact h a (by omega)
theorem inj_new {i b : Nat} {bs : Nat → Nat} (h : ∀ a c, a < i → c < i → bs a = bs c → a = c) (hb : ∀ a < i, bs a ≠ b) : ∀ a c, a < i + 1 → c < i + 1 → updN bs i b a = updN bs i b c → a = c := by
  intro a c ha hc
  unfold updN
  by_cases e : a = i
  · rw [if_pos e]
    by_cases e2 : c = i
    · intro _; omega
    · rw [if_neg e2]; intro h2; exact absurd h2.symm (hb c (by omega))
  · rw [if_neg e]
    by_cases e2 : c = i
    · rw [if_pos e2]; intro h2; exact absurd h2 (hb a (by omega))
    · rw [if_neg e2]; exact h a c (by omega) (by omega)
theorem fam_set {H H1 : AH} {n x y : Nat} {bs : Nat → Nat} {M : Nat → Nat → Bool} {v : Bool} (hinj : ∀ a c, a < n → c < n → bs a = bs c → a = c) (fm : ∀ a < n, H.get (bs a) = some (rowB n (M a))) (hx : x < n) (hy : y < n)
    (sb : SetB H H1 (bs x) { rowB n (M x) with cells := splice (rowB n (M x)).cells (0 + y * 1) (Value.bool v).cells.toList }) : ∀ a < n, H1.get (bs a) = some (rowB n (setM M x y v a)) := by
  intro a ha
  by_cases e : a = x
  · subst e
    rw [sb.get]
    have := splice_row (n := n) (fun k => Value.bool (M a k)) hy (v := Value.bool v) rfl
    simp only [rowB, this]
    congr 2
    apply List.map_congr_left
    intro k _
    by_cases e2 : k = y
    · simp [setM, e2]
    · simp [setM, e2]
  · rw [sb.other _ (fun h => e (hinj a x ha hx h)), fm a ha]
    congr 2
    funext k
    simp [setM, e]
theorem j_0 (l : List (Int × Int)) (U : Nat → Bool) (n : Nat) : JOk l U n idM 0 := by
  intro a b ha hb
  simp [idM]
theorem j_no {l : List (Int × Int)} {U : Nat → Bool} {n e : Nat} {M : Nat → Nat → Bool} (h : JOk l U n M e) (hU : U e = false) : JOk l U n M (e + 1) := by
  intro a b ha hb
  rw [h a b ha hb]
  constructor
  · rintro (h | ⟨k, h1, h2⟩)
    · exact .inl h
    · exact .inr ⟨k, by omega, h2⟩
  · rintro (h | ⟨k, h1, h2, h3⟩)
    · exact .inl h
    · refine .inr ⟨k, ?_, h2, h3⟩
      have : k ≠ e := fun e2 => by rw [e2, hU] at h2; cases h2
      omega
theorem j_yes {l : List (Int × Int)} {U : Nat → Bool} {n e : Nat} {M : Nat → Nat → Bool} (vl : Valid n l) (h : JOk l U n M e) (he : e < l.length) (hU : U e = true) :
    JOk l U n (setM (setM M (l.getD e (0, 0)).1.toNat (l.getD e (0, 0)).2.toNat true) (l.getD e (0, 0)).2.toNat (l.getD e (0, 0)).1.toNat true) (e + 1) := by
  have hv := vl e he
  have hp : l.getD e (0, 0) = (((l.getD e (0, 0)).1.toNat : Int), ((l.getD e (0, 0)).2.toNat : Int)) := by
    rw [Int.toNat_of_nonneg hv.1, Int.toNat_of_nonneg hv.2.2.1]
  generalize hx0 : (l.getD e (0, 0)).1.toNat = x0 at *
  generalize hx1 : (l.getD e (0, 0)).2.toNat = x1 at *
  intro a b ha hb
  unfold setM
  by_cases c1 : a = x1 ∧ b = x0
  · rw [if_pos c1]
    refine ⟨fun _ => .inr ⟨e, Nat.lt_succ_self e, hU, .inr ?_⟩, fun _ => rfl⟩
    rw [hp, c1.1, c1.2]
  · rw [if_neg c1]
    by_cases c2 : a = x0 ∧ b = x1
    · rw [if_pos c2]
      refine ⟨fun _ => .inr ⟨e, Nat.lt_succ_self e, hU, .inl ?_⟩, fun _ => rfl⟩
      rw [hp, c2.1, c2.2]
    · rw [if_neg c2, h a b ha hb]
      constructor
      · rintro (h | ⟨k, h1, h2⟩)
        · exact .inl h
        · exact .inr ⟨k, by omega, h2⟩
      · rintro (h | ⟨k, h1, h2, h3⟩)
        · exact .inl h
        · rcases Nat.lt_succ_iff_lt_or_eq.1 h1 with h4 | h4
          · exact .inr ⟨k, h4, h2, h3⟩
          · exfalso
            rw [h4, hp] at h3
            simp only [Prod.mk.injEq] at h3
            omega
theorem w_0 {l : List (Int × Int)} {U : Nat → Bool} {n e : Nat} {M : Nat → Nat → Bool} (h : JOk l U n M e) (he : e = l.length) : WOk l U n M 0 := by
  subst he
  refine ⟨fun a b ha hb hm => ?_, fun a ha => (h a a ha ha).2 (.inl rfl), fun a b ha hb e => ?_, fun c hc => by omega⟩
  · rcases (h a b ha hb).1 hm with rfl | ⟨k, h1, h2, h3⟩
    · exact .refl _
    · exact .tail (.refl _) ⟨k, h1, h2, h3⟩
  · obtain ⟨k, h1, h2, h3⟩ := e
    exact (h a b ha hb).2 (.inr ⟨k, h1, h2, h3⟩)
theorem ph_00 {n : Nat} (M : Nat → Nat → Bool) (m : Nat) : ∀ a b, a < n → b < n → M a b = phM M m 0 0 a b := by
  intro a b _ _
  simp [phM]
theorem ph_step {M B : Nat → Nat → Bool} {n m i k : Nat} {v : Bool} (h : ∀ a b, a < n → b < n → B a b = phM M m i k a b) (hi : i < n) (hk : k < n) (hm : m < n) (hv : v = (B i k || (B i m && B m k))) : ∀ a b, a < n → b < n → setM B i k v a b = phM M m i (k + 1) a b := by
  have h1 : B i k = M i k := by rw [h i k hi hk]; simp [phM]
  have h2 : B i m = M i m := by
    rw [h i m hi hm]; unfold phM
    split
    · cases M i m <;> simp
    · rfl
  have h3 : B m k = M m k := by
    rw [h m k hm hk]; unfold phM
    split
    · cases M m k <;> simp
    · rfl
  intro a b ha hb
  unfold setM
  by_cases e : a = i ∧ b = k
  · obtain ⟨rfl, rfl⟩ := e
    rw [if_pos ⟨rfl, rfl⟩, hv, h1, h2, h3]
    unfold phM
    rw [if_pos (.inr ⟨rfl, Nat.lt_succ_self _⟩)]
  · rw [if_neg e, h a b ha hb]
    have hc : (a < i ∨ (a = i ∧ b < k)) ↔ (a < i ∨ (a = i ∧ b < k + 1)) := by omega
    simp only [phM, hc]
theorem ph_row {M B : Nat → Nat → Bool} {n m i k : Nat} (h : ∀ a b, a < n → b < n → B a b = phM M m i k a b) (hk : n ≤ k) : ∀ a b, a < n → b < n → B a b = phM M m (i + 1) 0 a b := by
  intro a b ha hb
  rw [h a b ha hb]
  have hc : (a < i ∨ (a = i ∧ b < k)) ↔ (a < i + 1 ∨ (a = i + 1 ∧ b < 0)) := by omega
  simp only [phM, hc]
theorem w_next {l : List (Int × Int)} {U : Nat → Bool} {n m i : Nat} {M A : Nat → Nat → Bool} (h : WOk l U n M m) (hm : m < n) (hA : ∀ a b, a < n → b < n → A a b = phM M m i 0 a b) (hi : n ≤ i) : WOk l U n A (m + 1) := by
  have key : ∀ a b, a < n → b < n → (A a b = true ↔ M a b = true ∨ (M a m = true ∧ M m b = true)) := by
    intro a b ha hb
    rw [hA a b ha hb]
    unfold phM
    rw [if_pos (.inl (by omega)), Bool.or_eq_true, Bool.and_eq_true]
  refine ⟨fun a b ha hb e => ?_, fun a ha => (key a a ha ha).2 (.inl (h.refl a ha)), fun a b ha hb e => (key a b ha hb).2 (.inl (h.edge a b ha hb e)), fun c hc a b ha hb e1 e2 => ?_⟩
  · rcases (key a b ha hb).1 e with e | ⟨e1, e2⟩
    · exact h.sound a b ha hb e
    · exact (h.sound a m ha hm e1).trans (h.sound m b hm hb e2)
  · have hcn : c < n := by omega
    rw [key a b ha hb]
    rcases Nat.lt_succ_iff_lt_or_eq.1 hc with hc | rfl
    · rcases (key a c ha hcn).1 e1 with e1 | ⟨e1, e1'⟩ <;> rcases (key c b hcn hb).1 e2 with e2 | ⟨e2, e2'⟩
      · exact .inl (h.tr c hc a b ha hb e1 e2)
      · exact .inr ⟨h.tr c hc a m ha hm e1 e2, e2'⟩
      · exact .inr ⟨e1, h.tr c hc m b hm hb e1' e2⟩
      · exact .inr ⟨e1, e2'⟩
    · have f1 : M a c = true := by rcases (key a c ha hcn).1 e1 with e | ⟨e, _⟩ <;> exact e
      have f2 : M c b = true := by rcases (key c b hcn hb).1 e2 with e | ⟨_, e⟩ <;> exact e
      exact .inr ⟨f1, f2⟩
theorem w_end {l : List (Int × Int)} {U : Nat → Bool} {n : Nat} {M : Nat → Nat → Bool} {m : Nat} (vl : Valid n l) (h : WOk l U n M m) (hm : n ≤ m) {a b : Nat} (ha : a < n) (hb : b < n) : M a b = true ↔ Con l U a b := by
  refine ⟨h.sound a b ha hb, fun c => ?_⟩
  have : b < n ∧ M a b = true := by
    clear hb
    induction c with
    | refl => exact ⟨ha, h.refl a ha⟩
    | tail _ e ih =>
      rename_i x y _
      obtain ⟨hx, hm1⟩ := ih
      have hy : y < n := by
        obtain ⟨k, h1, h2, h3⟩ := e
        have hv := vl k h1
        rcases h3 with h3 | h3 <;> (rw [h3] at hv; simp at hv; omega)
      exact ⟨hy, h.tr x (by omega) a y ha hy hm1 (h.edge x y hx hy e)⟩
  exact this.2
theorem flat_one {α β : Type} (L : List α) (F : α → β) : (L.map fun i => [F i]).flatten = L.map F := by
  induction L with
  | nil => rfl
  | cons x L ih => simp [ih]
theorem sl_rows {H : AH} {b n : Nat} {F : Nat → Value} {e : TypeId} (hb : H.get b = some ⟨(List.range n).map F, e, 1, true⟩) : Sl H 1 (.slice (some ⟨b, 0, some 0⟩) n n) ((List.range n).map fun i => [F i]) := by
  refine ⟨by simp, .inr (.inl ⟨b, 0, some 0, n, _, by simp, hb, by simp, ?_⟩)⟩
  rw [flat_one]
  simp only [List.drop_zero, List.length_map, List.length_range, Nat.mul_one]
  exact List.take_of_length_le (by simp)
theorem sl_row {H : AH} {b n : Nat} {f : Nat → Bool} (hb : H.get b = some (rowB n f)) : Sl H 1 (.slice (some ⟨b, 0, some 0⟩) n n) ((List.range n).map fun k => [Value.bool (f k)]) := sl_rows hb
theorem sl_out {H : AH} {b n : Nat} {bs : Nat → Nat} (hb : H.get b = some (outB n n bs)) : Sl H 1 (.slice (some ⟨b, 0, some 0⟩) n n) ((List.range n).map fun i => [Value.slice (some ⟨bs i, 0, some 0⟩) n n]) := by
  have h : (List.range n).map (fun a => if a < n then Value.slice (some ⟨bs a, 0, some 0⟩) n n else .slice none 0 0) = (List.range n).map (fun a => Value.slice (some ⟨bs a, 0, some 0⟩) n n) := by
    apply List.map_congr_left
    intro a ha
    rw [if_pos (List.mem_range.1 ha)]
  rw [outB, h] at hb
  exact sl_rows hb

theorem f14_ok (H : AH) (n : Nat) (lv uv : Value) (l : List (Int × Int)) (U : Nat → Bool) (hn : n ≤ 24) (hll : l.length ≤ 64) (hl : Sl H 2 lv (l.map pr)) (vl : Valid n l) (hu : Used Try.prog H uv l.length U) : ∃ v H', ACalls Try.prog 14 [.int .i64 (n : Int), lv, uv] H v H' ∧ (fun v H' => (∃ (rv : Nat → Value) (M : Nat → Nat → Bool), Sl H' 1 v ((List.range n).map fun i => [rv i]) ∧ (∀ i < n, Sl H' 1 (rv i) ((List.range n).map fun k => [Value.bool (M i k)])) ∧ ∀ a b, a < n → b < n → (M a b = true ↔ Con l U a b)) ∧ Ext H H') v H' := by
  have he : ∀ i, i < l.length → (l.map pr)[i]? = some [.int .i64 (l.getD i (0,0)).1, .int .i64 (l.getD i (0,0)).2] := by
    intro i hi
    simp [hi, pr, List.getD_eq_getElem?_getD]
  refine calls_of_AW (n := 107) (fn := Try.f14) (by kernel_rfl) rfl rfl ?_
  refine .seq ?_
  refine .region ?_
  refine W.pure (v := _) rfl rfl (v_assign (oo rfl rfl)) ?_
  refine .nil ?_
  refine .seq ?_
  refine .region ?_
  refine W.pure (v := .int _ _) rfl rfl (v_move (oo rfl rfl)) ?_
  refine W.makeSlice (N := n) rfl rfl el31 ze30 sz30 (by kernel_rfl) by30 rfl rfl (by omega) (by decide) fun b1 H2 nb3 => ?_
  have fr4 := Nat.le_trans ((Ext.refl _)).1 nb3.fresh
  have e5 := Ext.trans (Ext.refl _) nb3.ext
  have k6 := nb3.get
  refine W.pure (v := .slice (some ⟨b1, 0, some 0⟩) n n) rfl rfl (v_assign (oo rfl rfl)) ?_
  refine .nil ?_
  refine .seq ?_
  refine .seq ?_
  refine .region ?_
  refine W.pure (v := .slice (some ⟨b1, 0, some 0⟩) n n) rfl rfl (v_move (oo rfl rfl)) ?_
  refine W.pure rfl rfl (len_sl (oo rfl rfl) (Or.inr ⟨_, _, _, _, rfl⟩) (elemT_inv el31)) ?_
  refine W.pure (v := .int _ _) rfl rfl (v_move (oo rfl rfl)) ?_
  refine .nil ?_
  refine .block ?_
  refine AW.loop (α := Nat × (Nat → Nat)) (fun (i, bs) σ' H' => (Ext H H') ∧ (σ' 18 = .int .i64 (i : Nat)) ∧ (H'.get b1 = some (outB n i bs)) ∧ (∀ a < i, H'.get (bs a) = some (rowB n (idM a))) ∧ (∀ a < i, bs a ≠ b1) ∧ (∀ a < i, H.next ≤ bs a) ∧ (∀ a b, a < i → b < i → bs a = bs b → a = b) ∧ (i ≤ n)) (fun (i, bs) => n - i) (0, fun _ => 0) ⟨e5, rfl, (k6.trans (congrArg some (out_0 n))), (fun a ha => absurd ha (Nat.not_lt_zero a)), (fun a ha => absurd ha (Nat.not_lt_zero a)), (fun a ha => absurd ha (Nat.not_lt_zero a)), (fun a _ ha => absurd ha (Nat.not_lt_zero a)), (Nat.zero_le _)⟩ ?_
  rintro ⟨i, bs⟩ σ11 H12 fr13 ⟨e7, t18_8, k9, fm10, hgt, hlo, hinj, hin⟩
  have h0_14 : σ11 0 = _ := (fr13 0 rfl).trans rfl
  have h1_15 : σ11 1 = lv := (fr13 1 rfl).trans rfl
  have h2_16 : σ11 2 = uv := (fr13 2 rfl).trans rfl
  have h7_17 : σ11 7 = .slice (some ⟨b1, 0, some 0⟩) n n := (fr13 7 rfl).trans rfl
  have h9_18 : σ11 9 = _ := (fr13 9 rfl).trans rfl
  have h10_19 : σ11 10 = _ := (fr13 10 rfl).trans rfl
  have h11_20 : σ11 11 = _ := (fr13 11 rfl).trans rfl
  have h12_21 : σ11 12 = _ := (fr13 12 rfl).trans rfl
  have h13_22 : σ11 13 = _ := (fr13 13 rfl).trans rfl
  have h17_23 : σ11 17 = _ := (fr13 17 rfl).trans rfl
  have h33_24 : σ11 33 = _ := (fr13 33 rfl).trans rfl
  have h34_25 : σ11 34 = _ := (fr13 34 rfl).trans rfl
  have h35_26 : σ11 35 = _ := (fr13 35 rfl).trans rfl
  have h36_27 : σ11 36 = _ := (fr13 36 rfl).trans rfl
  have h37_28 : σ11 37 = _ := (fr13 37 rfl).trans rfl
  have h38_29 : σ11 38 = _ := (fr13 38 rfl).trans rfl
  have h39_30 : σ11 39 = _ := (fr13 39 rfl).trans rfl
  have h40_31 : σ11 40 = _ := (fr13 40 rfl).trans rfl
  have h41_32 : σ11 41 = _ := (fr13 41 rfl).trans rfl
  have h42_33 : σ11 42 = _ := (fr13 42 rfl).trans rfl
  have h43_34 : σ11 43 = _ := (fr13 43 rfl).trans rfl
  have h44_35 : σ11 44 = _ := (fr13 44 rfl).trans rfl
  have h45_36 : σ11 45 = _ := (fr13 45 rfl).trans rfl
  have h46_37 : σ11 46 = _ := (fr13 46 rfl).trans rfl
  have h47_38 : σ11 47 = _ := (fr13 47 rfl).trans rfl
  have h48_39 : σ11 48 = _ := (fr13 48 rfl).trans rfl
  have h49_40 : σ11 49 = _ := (fr13 49 rfl).trans rfl
  have h50_41 : σ11 50 = _ := (fr13 50 rfl).trans rfl
  have h51_42 : σ11 51 = _ := (fr13 51 rfl).trans rfl
  have h52_43 : σ11 52 = _ := (fr13 52 rfl).trans rfl
  have h53_44 : σ11 53 = _ := (fr13 53 rfl).trans rfl
  have h54_45 : σ11 54 = _ := (fr13 54 rfl).trans rfl
  have h55_46 : σ11 55 = _ := (fr13 55 rfl).trans rfl
  have h56_47 : σ11 56 = _ := (fr13 56 rfl).trans rfl
  have h57_48 : σ11 57 = _ := (fr13 57 rfl).trans rfl
  have h58_49 : σ11 58 = _ := (fr13 58 rfl).trans rfl
  have h59_50 : σ11 59 = _ := (fr13 59 rfl).trans rfl
  have h60_51 : σ11 60 = _ := (fr13 60 rfl).trans rfl
  have h61_52 : σ11 61 = _ := (fr13 61 rfl).trans rfl
  have h62_53 : σ11 62 = _ := (fr13 62 rfl).trans rfl
  have h63_54 : σ11 63 = _ := (fr13 63 rfl).trans rfl
  have h64_55 : σ11 64 = _ := (fr13 64 rfl).trans rfl
  have h65_56 : σ11 65 = _ := (fr13 65 rfl).trans rfl
  have h66_57 : σ11 66 = _ := (fr13 66 rfl).trans rfl
  have h67_58 : σ11 67 = _ := (fr13 67 rfl).trans rfl
  have h68_59 : σ11 68 = _ := (fr13 68 rfl).trans rfl
  have h69_60 : σ11 69 = _ := (fr13 69 rfl).trans rfl
  have h70_61 : σ11 70 = _ := (fr13 70 rfl).trans rfl
  have h71_62 : σ11 71 = _ := (fr13 71 rfl).trans rfl
  have h72_63 : σ11 72 = _ := (fr13 72 rfl).trans rfl
  have h73_64 : σ11 73 = _ := (fr13 73 rfl).trans rfl
  have h74_65 : σ11 74 = _ := (fr13 74 rfl).trans rfl
  have h75_66 : σ11 75 = _ := (fr13 75 rfl).trans rfl
  have h76_67 : σ11 76 = _ := (fr13 76 rfl).trans rfl
  have h77_68 : σ11 77 = _ := (fr13 77 rfl).trans rfl
  have h78_69 : σ11 78 = _ := (fr13 78 rfl).trans rfl
  have h79_70 : σ11 79 = _ := (fr13 79 rfl).trans rfl
  have h80_71 : σ11 80 = _ := (fr13 80 rfl).trans rfl
  have h81_72 : σ11 81 = _ := (fr13 81 rfl).trans rfl
  have h82_73 : σ11 82 = _ := (fr13 82 rfl).trans rfl
  have h83_74 : σ11 83 = _ := (fr13 83 rfl).trans rfl
  have h84_75 : σ11 84 = _ := (fr13 84 rfl).trans rfl
  have h85_76 : σ11 85 = _ := (fr13 85 rfl).trans rfl
  have h86_77 : σ11 86 = _ := (fr13 86 rfl).trans rfl
  have h87_78 : σ11 87 = _ := (fr13 87 rfl).trans rfl
  have h88_79 : σ11 88 = _ := (fr13 88 rfl).trans rfl
  have h89_80 : σ11 89 = _ := (fr13 89 rfl).trans rfl
  have h90_81 : σ11 90 = _ := (fr13 90 rfl).trans rfl
  have h91_82 : σ11 91 = _ := (fr13 91 rfl).trans rfl
  have h92_83 : σ11 92 = _ := (fr13 92 rfl).trans rfl
  have h93_84 : σ11 93 = _ := (fr13 93 rfl).trans rfl
  have h94_85 : σ11 94 = _ := (fr13 94 rfl).trans rfl
  have h95_86 : σ11 95 = _ := (fr13 95 rfl).trans rfl
  have h96_87 : σ11 96 = _ := (fr13 96 rfl).trans rfl
  have h97_88 : σ11 97 = _ := (fr13 97 rfl).trans rfl
  have h98_89 : σ11 98 = _ := (fr13 98 rfl).trans rfl
  have h99_90 : σ11 99 = _ := (fr13 99 rfl).trans rfl
  have h100_91 : σ11 100 = _ := (fr13 100 rfl).trans rfl
  have h101_92 : σ11 101 = _ := (fr13 101 rfl).trans rfl
  have h102_93 : σ11 102 = _ := (fr13 102 rfl).trans rfl
  have h103_94 : σ11 103 = _ := (fr13 103 rfl).trans rfl
  have h104_95 : σ11 104 = _ := (fr13 104 rfl).trans rfl
  have h105_96 : σ11 105 = _ := (fr13 105 rfl).trans rfl
  have h106_97 : σ11 106 = _ := (fr13 106 rfl).trans rfl
  refine .seq ?_
  refine .region ?_
  refine W.pure rfl rfl (v_int (oo rfl t18_8) (oo rfl h17_23) rfl) ?_
  refine .nil ?_
  refine .seq ?_
  refine .cond rfl rfl (fun g98 => ?_) (fun g98 => ?_)
  · try simp only [decide_eq_true_eq, decide_eq_false_iff_not, beq_iff_eq, bne_iff_ne, beq_eq_false_iff_ne, bne_eq_false_iff_eq, List.length_map, gt_iff_lt, ge_iff_le, Int.not_lt, Int.not_le] at g98
    have hi : i < n := by omega
    refine .skip ?_
    refine .seq ?_
    refine .block ?_
    refine .seq ?_
    refine .region ?_
    refine W.pure (v := .int _ _) rfl rfl (v_move (oo rfl t18_8)) ?_
    refine W.pure (v := .int _ _) rfl rfl (v_assign (oo rfl rfl)) ?_
    refine .nil ?_
    refine .seq ?_
    refine .region ?_
    refine W.pure (v := .slice (some ⟨b1, 0, some 0⟩) n n) rfl rfl (v_move (oo rfl h7_17)) ?_
    refine W.pure (v := .int _ _) rfl rfl (v_move (oo rfl rfl)) ?_
    refine W.pure (v := .int _ _) rfl rfl (v_move (oo rfl h0_14)) ?_
    refine W.makeSlice (N := n) rfl rfl el30 ze4 sz4 (by kernel_rfl) by4 rfl rfl (by omega) (by decide) fun b99 H100 nb101 => ?_
    have fr102 := Nat.le_trans (e7).1 nb101.fresh
    have ne103 := nb101.ne k9
    have e104 := Ext.trans e7 nb101.ext
    have k105 := (nb101.ext).2 _ _ k9
    have fm106 := fun a ha => (nb101.ext).2 _ _ (fm10 a ha)
    have k107 := nb101.get
    refine W.pure rfl rfl (v_idxN el31 sz30 (oo rfl rfl) (oo rfl rfl) (Or.inr ⟨_, _, _, _, rfl⟩) hi) ?_
    refine W.storeL (v := .slice (some ⟨b99, 0, some 0⟩) n n) rfl rfl sz30 rfl rfl k105 rfl rfl rfl (by simp only [outB, List.length_map, List.length_range]; omega)  fun H108 sb109 => ?_
    have e110 := sb109.ext e104 fr4
    have k111 := (sb109.get).trans (congrArg (fun c => some (⟨c, 30, 1, true⟩ : ABlk)) (splice_row _ hi rfl))
    have k112 := sb109.old k107 (Ne.symm ne103)
    have fm113 := fun a ha => sb109.old (fm106 a ha) (hgt a ha)
    refine .nil ?_
    refine .region ?_
    refine W.pure (v := .slice (some ⟨b1, 0, some 0⟩) n n) rfl rfl (v_move (oo rfl h7_17)) ?_
    refine W.pure (v := .int _ _) rfl rfl (v_move (oo rfl rfl)) ?_
    refine W.pure rfl rfl (v_idxN el31 sz30 (oo rfl rfl) (oo rfl rfl) (Or.inr ⟨_, _, _, _, rfl⟩) hi) ?_
    refine W.load1 rfl rfl ag30 (Pt.row k111 hi (if_pos rfl)) ?_
    refine W.pure (v := .int _ _) rfl rfl (v_move (oo rfl rfl)) ?_
    refine W.pure rfl rfl (v_idxN el30 sz4 (oo rfl rfl) (oo rfl rfl) (Or.inr ⟨_, _, _, _, rfl⟩) hi) ?_
    refine W.storeL (v := .bool _) rfl rfl sz4 rfl rfl k112 rfl rfl rfl (by simp only [zcells_boolL]; omega)  fun H114 sb115 => ?_
    have e116 := sb115.ext e110 fr102
    have k117 := sb115.old k111 ne103
    have k118 := (sb115.get).trans (congrArg (fun c => some (⟨c, 4, 1, true⟩ : ABlk)) (row_first hi))
    have fm119 := fun a ha => sb115.old (fm113 a ha) (nb101.ne (fm10 a ha))
    refine .nil ?_
    refine .region ?_
    refine W.pure rfl rfl (v_inc (oo rfl t18_8) (by omega)) ?_
    refine W.pure (v := .int _ _) rfl rfl (v_move (oo rfl rfl)) ?_
    refine .nil ?_
    refine ⟨(i + 1, updN bs i b99), by dsimp only; omega, e116, rfl, (k117.trans (congrArg some (out_step n i bs _))), (fam_new fm119 k118), (ne_new hgt (Ne.symm ne103)), (gt_new hlo fr102), (inj_new hinj (fun a ha => (nb101.ne (fm10 a ha)))), (by omega)⟩
  · try simp only [decide_eq_true_eq, decide_eq_false_iff_not, beq_iff_eq, bne_iff_ne, beq_eq_false_iff_ne, bne_eq_false_iff_eq, List.length_map, gt_iff_lt, ge_iff_le, Int.not_lt, Int.not_le] at g98
    refine .exit ?_
    refine .seq ?_
    refine .seq ?_
    refine .region ?_
    refine W.pure (v := lv) rfl rfl (v_move (oo rfl h1_15)) ?_
    refine W.pure rfl rfl (len_sl (oo rfl rfl) (Sl.isSl (hl.ext e7)) (elemT_inv el22)) ?_
    refine W.pure (v := .int _ _) rfl rfl (v_move (oo rfl rfl)) ?_
    refine .nil ?_
    refine .block ?_
    refine AW.loop (α := Nat × (Nat → Nat → Bool)) (fun (e, M) σ' H' => (Ext H H') ∧ (σ' 35 = .int .i64 (e : Nat)) ∧ (H'.get b1 = some (outB n n bs)) ∧ (∀ a < n, H'.get (bs a) = some (rowB n (M a))) ∧ (JOk l U n M e) ∧ (e ≤ l.length)) (fun (e, M) => l.length - e) (0, idM) ⟨e7, rfl, (by have h := k9; rw [show i = n by omega] at h; exact h), (fun a ha => fm10 a (by omega)), (j_0 l U n), (Nat.zero_le _)⟩ ?_
    rintro ⟨e, M⟩ σ124 H125 fr126 ⟨e120, t35_121, k122, fm123, hJ, hel⟩
    have h0_127 : σ124 0 = _ := (fr126 0 rfl).trans h0_14
    have h2_128 : σ124 2 = uv := (fr126 2 rfl).trans h2_16
    have h7_129 : σ124 7 = .slice (some ⟨b1, 0, some 0⟩) n n := (fr126 7 rfl).trans h7_17
    have h11_130 : σ124 11 = _ := (fr126 11 rfl).trans h11_20
    have h12_131 : σ124 12 = _ := (fr126 12 rfl).trans h12_21
    have h13_132 : σ124 13 = _ := (fr126 13 rfl).trans h13_22
    have h33_133 : σ124 33 = lv := (fr126 33 rfl).trans rfl
    have h34_134 : σ124 34 = _ := (fr126 34 rfl).trans rfl
    have h60_135 : σ124 60 = _ := (fr126 60 rfl).trans h60_51
    have h61_136 : σ124 61 = _ := (fr126 61 rfl).trans h61_52
    have h62_137 : σ124 62 = _ := (fr126 62 rfl).trans h62_53
    have h63_138 : σ124 63 = _ := (fr126 63 rfl).trans h63_54
    have h64_139 : σ124 64 = _ := (fr126 64 rfl).trans h64_55
    have h65_140 : σ124 65 = _ := (fr126 65 rfl).trans h65_56
    have h66_141 : σ124 66 = _ := (fr126 66 rfl).trans h66_57
    have h67_142 : σ124 67 = _ := (fr126 67 rfl).trans h67_58
    have h68_143 : σ124 68 = _ := (fr126 68 rfl).trans h68_59
    have h69_144 : σ124 69 = _ := (fr126 69 rfl).trans h69_60
    have h70_145 : σ124 70 = _ := (fr126 70 rfl).trans h70_61
    have h71_146 : σ124 71 = _ := (fr126 71 rfl).trans h71_62
    have h72_147 : σ124 72 = _ := (fr126 72 rfl).trans h72_63
    have h73_148 : σ124 73 = _ := (fr126 73 rfl).trans h73_64
    have h74_149 : σ124 74 = _ := (fr126 74 rfl).trans h74_65
    have h75_150 : σ124 75 = _ := (fr126 75 rfl).trans h75_66
    have h76_151 : σ124 76 = _ := (fr126 76 rfl).trans h76_67
    have h77_152 : σ124 77 = _ := (fr126 77 rfl).trans h77_68
    have h78_153 : σ124 78 = _ := (fr126 78 rfl).trans h78_69
    have h79_154 : σ124 79 = _ := (fr126 79 rfl).trans h79_70
    have h80_155 : σ124 80 = _ := (fr126 80 rfl).trans h80_71
    have h81_156 : σ124 81 = _ := (fr126 81 rfl).trans h81_72
    have h82_157 : σ124 82 = _ := (fr126 82 rfl).trans h82_73
    have h83_158 : σ124 83 = _ := (fr126 83 rfl).trans h83_74
    have h84_159 : σ124 84 = _ := (fr126 84 rfl).trans h84_75
    have h85_160 : σ124 85 = _ := (fr126 85 rfl).trans h85_76
    have h86_161 : σ124 86 = _ := (fr126 86 rfl).trans h86_77
    have h87_162 : σ124 87 = _ := (fr126 87 rfl).trans h87_78
    have h88_163 : σ124 88 = _ := (fr126 88 rfl).trans h88_79
    have h89_164 : σ124 89 = _ := (fr126 89 rfl).trans h89_80
    have h90_165 : σ124 90 = _ := (fr126 90 rfl).trans h90_81
    have h91_166 : σ124 91 = _ := (fr126 91 rfl).trans h91_82
    have h92_167 : σ124 92 = _ := (fr126 92 rfl).trans h92_83
    have h93_168 : σ124 93 = _ := (fr126 93 rfl).trans h93_84
    have h94_169 : σ124 94 = _ := (fr126 94 rfl).trans h94_85
    have h95_170 : σ124 95 = _ := (fr126 95 rfl).trans h95_86
    have h96_171 : σ124 96 = _ := (fr126 96 rfl).trans h96_87
    have h97_172 : σ124 97 = _ := (fr126 97 rfl).trans h97_88
    have h98_173 : σ124 98 = _ := (fr126 98 rfl).trans h98_89
    have h99_174 : σ124 99 = _ := (fr126 99 rfl).trans h99_90
    have h100_175 : σ124 100 = _ := (fr126 100 rfl).trans h100_91
    have h101_176 : σ124 101 = _ := (fr126 101 rfl).trans h101_92
    have h102_177 : σ124 102 = _ := (fr126 102 rfl).trans h102_93
    have h103_178 : σ124 103 = _ := (fr126 103 rfl).trans h103_94
    have h104_179 : σ124 104 = _ := (fr126 104 rfl).trans h104_95
    have h105_180 : σ124 105 = _ := (fr126 105 rfl).trans h105_96
    have h106_181 : σ124 106 = _ := (fr126 106 rfl).trans h106_97
    have hgt := fun a (ha : a < n) => hgt a (show a < i by omega)
    have hlo := fun a (ha : a < n) => hlo a (show a < i by omega)
    have hinj := fun a b (ha : a < n) (hb : b < n) => hinj a b (show a < i by omega) (show b < i by omega)
    refine .seq ?_
    refine .region ?_
    refine W.pure rfl rfl (v_int (oo rfl t35_121) (oo rfl h34_134) rfl) ?_
    refine .nil ?_
    refine .seq ?_
    refine .cond rfl rfl (fun g182 => ?_) (fun g182 => ?_)
    · try simp only [decide_eq_true_eq, decide_eq_false_iff_not, beq_iff_eq, bne_iff_ne, beq_eq_false_iff_ne, bne_eq_false_iff_eq, List.length_map, gt_iff_lt, ge_iff_le, Int.not_lt, Int.not_le] at g182
      have he2 : e < l.length := by omega
      refine .skip ?_
      refine .seq ?_
      refine .block ?_
      refine .seq ?_
      refine .region ?_
      refine W.pure (v := .int _ _) rfl rfl (v_move (oo rfl t35_121)) ?_
      refine W.pure rfl rfl (v_idxN el22 sz29 (oo rfl h33_133) (oo rfl t35_121) (Sl.isSl (hl.ext e120)) (by simpa using he2)) ?_
      refine W.loadA rfl rfl ag29 sz29 (Sl.idx (hl.ext e120) (he e he2)) rfl ?_
      refine W.alloc rfl rfl ze29 (by kernel_rfl) fun b183 H184 nb185 => ?_
      have fr186 := Nat.le_trans (e120).1 nb185.fresh
      have ne187 := nb185.ne k122
      have e188 := Ext.trans e120 nb185.ext
      have k189 := (nb185.ext).2 _ _ k122
      have fm190 := fun a ha => (nb185.ext).2 _ _ (fm123 a ha)
      have k191 := nb185.get
      refine W.pure (v := .int _ _) rfl rfl (v_assign (oo rfl rfl)) ?_
      refine W.storeL (v := .agg _) rfl rfl sz29 rfl rfl k191 rfl rfl rfl (Nat.le_of_ble_eq_true rfl)  fun H192 sb193 => ?_
      have e194 := sb193.ext e188 fr186
      have k195 := sb193.old k189 ne187
      have k196 := sb193.get
      have fm197 := fun a ha => sb193.old (fm190 a ha) (nb185.ne (fm123 a ha))
      refine .nil ?_
      refine .seq ?_
      refine .region ?_
      refine W.pure (v := uv) rfl rfl (v_move (oo rfl h2_128)) ?_
      refine W.pure (v := .int _ _) rfl rfl (v_move (oo rfl rfl)) ?_
      refine W.callU (k := e) rfl rfl (hu.ext e194) (Ext.refl _) rfl he2 fun H198 x199 => ?_
      have e200 := Ext.trans e194 x199
      have k201 := (x199).2 _ _ k195
      have k202 := (x199).2 _ _ k196
      have fm203 := fun a ha => (x199).2 _ _ (fm197 a ha)
      refine .nil ?_
      refine .cond rfl rfl (fun g204 => ?_) (fun g204 => ?_)
      · try simp only [decide_eq_true_eq, decide_eq_false_iff_not, beq_iff_eq, bne_iff_ne, beq_eq_false_iff_ne, bne_eq_false_iff_eq, List.length_map, gt_iff_lt, ge_iff_le, Int.not_lt, Int.not_le] at g204
        refine .draw (M := [0, 0, 2, 7, 15, 0, 32, 0, 0, 256, 896, 1920, 0, 4096, 4095, 20479, 65535, 131071]) mixed (by kernel_rfl) (by kernel_rfl) fun H205 x206 => ?_
        have e207 := Ext.trans e200 x206
        have k208 := (x206).2 _ _ k201
        have k209 := (x206).2 _ _ k202
        have fm210 := fun a ha => (x206).2 _ _ (fm203 a ha)
        refine D.pure (v := .slice (some ⟨b1, 0, some 0⟩) n n) rfl rfl (v_move (oo rfl h7_129)) ?_
        refine D.pure rfl rfl (v_idxA ar29 sz3 (oo rfl rfl) (oo rfl rfl) (Pt.loc k209) (by decide) (by decide)) ?_
        refine D.load1 rfl rfl ag3 (Pt.sub (Pt.loc k209) 0 1 rfl) RS.nil fa_nil fun rs211 => ?_
        refine D.pure rfl rfl (v_idx el31 sz30 (oo rfl rfl) (oo rfl rfl) (Or.inr ⟨_, _, _, _, rfl⟩) (vl e he2).1 (vl e he2).2.1) ?_
        refine D.load1 rfl rfl ag30 (Pt.row k208 (i := (l.getD e (0, 0)).1.toNat) (vl e he2).2.1 (if_pos (vl e he2).2.1)) rs211 fa_nil fun rs212 => ?_
        refine D.pure rfl rfl (v_idxA ar29 sz3 (oo rfl rfl) (oo rfl rfl) (Pt.loc k209) (by decide) (by decide)) ?_
        refine D.load1 rfl rfl ag3 (Pt.sub (Pt.loc k209) 1 1 rfl) rs212 fa_nil fun rs213 => ?_
        refine D.pure (v := .slice (some ⟨b1, 0, some 0⟩) n n) rfl rfl (v_move (oo rfl h7_129)) ?_
        refine D.pure rfl rfl (v_idxA ar29 sz3 (oo rfl rfl) (oo rfl rfl) (Pt.loc k209) (by decide) (by decide)) ?_
        refine D.load1 rfl rfl ag3 (Pt.sub (Pt.loc k209) 1 1 rfl) rs213 fa_nil fun rs214 => ?_
        refine D.pure rfl rfl (v_idx el31 sz30 (oo rfl rfl) (oo rfl rfl) (Or.inr ⟨_, _, _, _, rfl⟩) (vl e he2).2.2.1 (vl e he2).2.2.2) ?_
        refine D.load1 rfl rfl ag30 (Pt.row k208 (i := (l.getD e (0, 0)).2.toNat) (vl e he2).2.2.2 (if_pos (vl e he2).2.2.2)) rs214 fa_nil fun rs215 => ?_
        refine D.pure rfl rfl (v_idxA ar29 sz3 (oo rfl rfl) (oo rfl rfl) (Pt.loc k209) (by decide) (by decide)) ?_
        refine D.load1 rfl rfl ag3 (Pt.sub (Pt.loc k209) 0 1 rfl) rs215 fa_nil fun rs216 => ?_
        refine D.pure rfl rfl (v_idx el30 sz4 (oo rfl rfl) (oo rfl rfl) (Or.inr ⟨_, _, _, _, rfl⟩) (vl e he2).2.2.1 (vl e he2).2.2.2) ?_
        refine D.store (v := .bool _) rfl rfl sz4 rfl rfl (fm210 ((l.getD e (0, 0)).1.toNat) (vl e he2).2.1) rfl rfl rfl (by simp only [rowB, List.length_map, List.length_range]; have := (vl e he2).2.2.2; omega) rs216 (faR_ne (Ne.symm ((fun a ha => (nb185.ne (fm123 a ha))) ((l.getD e (0, 0)).1.toNat) (vl e he2).2.1)) (faR_bit (by decide) (faR_bit (by decide) (faR_bit (by decide) (faR_bit (by decide) (faR_bit (by decide) fa_nil)))))) fa_nil fun H217 sb218 rs219 => ?_
        have e220 := sb218.ext e207 (hlo ((l.getD e (0, 0)).1.toNat) (vl e he2).2.1)
        have k221 := sb218.old k208 (Ne.symm ((fun a ha => (hgt a ha)) ((l.getD e (0, 0)).1.toNat) (vl e he2).2.1))
        have k222 := sb218.old k209 (Ne.symm ((fun a ha => (nb185.ne (fm123 a ha))) ((l.getD e (0, 0)).1.toNat) (vl e he2).2.1))
        have fm223 := fam_set hinj fm210 (vl e he2).2.1 (vl e he2).2.2.2 sb218
        refine D.pure rfl rfl (v_idx el30 sz4 (oo rfl rfl) (oo rfl rfl) (Or.inr ⟨_, _, _, _, rfl⟩) (vl e he2).1 (vl e he2).2.1) ?_
        refine D.store (v := .bool _) rfl rfl sz4 rfl rfl (fm223 ((l.getD e (0, 0)).2.toNat) (vl e he2).2.2.2) rfl rfl rfl (by simp only [rowB, List.length_map, List.length_range]; have := (vl e he2).2.1; omega) rs219 (faR_bit (by decide) (faR_bit (by decide) (faR_bit (by decide) (faR_bit (by decide) (faR_bit (by decide) (faR_bit (by decide) fa_nil)))))) (faL_bit (by decide) fa_nil) fun H224 sb225 rs226 => ?_
        have e227 := sb225.ext e220 (hlo ((l.getD e (0, 0)).2.toNat) (vl e he2).2.2.2)
        have k228 := sb225.old k221 (Ne.symm ((fun a ha => (hgt a ha)) ((l.getD e (0, 0)).2.toNat) (vl e he2).2.2.2))
        have k229 := sb225.old k222 (Ne.symm ((fun a ha => (nb185.ne (fm123 a ha))) ((l.getD e (0, 0)).2.toNat) (vl e he2).2.2.2))
        have fm230 := fam_set hinj fm223 (vl e he2).2.2.2 (vl e he2).2.1 sb225
        refine .nil ?_
        refine .region ?_
        refine W.pure rfl rfl (v_inc (oo rfl t35_121) (by omega)) ?_
        refine W.pure (v := .int _ _) rfl rfl (v_move (oo rfl rfl)) ?_
        refine .nil ?_
        refine ⟨(e + 1, setM (setM M (l.getD e (0, 0)).1.toNat (l.getD e (0, 0)).2.toNat true) (l.getD e (0, 0)).2.toNat (l.getD e (0, 0)).1.toNat true), by dsimp only; omega, e227, rfl, k228, fm230, (j_yes vl hJ he2 g204), (by omega)⟩
      · try simp only [decide_eq_true_eq, decide_eq_false_iff_not, beq_iff_eq, bne_iff_ne, beq_eq_false_iff_ne, bne_eq_false_iff_eq, List.length_map, gt_iff_lt, ge_iff_le, Int.not_lt, Int.not_le] at g204
        refine .skip ?_
        refine .region ?_
        refine W.pure rfl rfl (v_inc (oo rfl t35_121) (by omega)) ?_
        refine W.pure (v := .int _ _) rfl rfl (v_move (oo rfl rfl)) ?_
        refine .nil ?_
        refine ⟨(e + 1, M), by dsimp only; omega, e200, rfl, k201, fm203, (j_no hJ g204), (by omega)⟩
    · try simp only [decide_eq_true_eq, decide_eq_false_iff_not, beq_iff_eq, bne_iff_ne, beq_eq_false_iff_ne, bne_eq_false_iff_eq, List.length_map, gt_iff_lt, ge_iff_le, Int.not_lt, Int.not_le] at g182
      refine .exit ?_
      refine .seq ?_
      refine .seq ?_
      refine .region ?_
      refine W.pure (v := .int _ _) rfl rfl (v_move (oo rfl h0_127)) ?_
      refine W.pure (v := .int _ _) rfl rfl (v_move (oo rfl rfl)) ?_
      refine .nil ?_
      refine .block ?_
      refine AW.loop (α := Nat × (Nat → Nat → Bool)) (fun (m, M) σ' H' => (Ext H H') ∧ (σ' 61 = .int .i64 (m : Nat)) ∧ (H'.get b1 = some (outB n n bs)) ∧ (∀ a < n, H'.get (bs a) = some (rowB n (M a))) ∧ (WOk l U n M m)) (fun (m, M) => n - m) (0, M) ⟨e120, rfl, k122, fm123, (w_0 hJ (by omega))⟩ ?_
      rintro ⟨m, M⟩ σ235 H236 fr237 ⟨e231, t61_232, k233, fm234, hW⟩
      have h0_238 : σ235 0 = _ := (fr237 0 rfl).trans h0_127
      have h7_239 : σ235 7 = .slice (some ⟨b1, 0, some 0⟩) n n := (fr237 7 rfl).trans h7_129
      have h60_240 : σ235 60 = _ := (fr237 60 rfl).trans rfl
      have h106_241 : σ235 106 = _ := (fr237 106 rfl).trans h106_181
      refine .seq ?_
      refine .region ?_
      refine W.pure rfl rfl (v_int (oo rfl t61_232) (oo rfl h60_240) rfl) ?_
      refine .nil ?_
      refine .seq ?_
      refine .cond rfl rfl (fun g242 => ?_) (fun g242 => ?_)
      · try simp only [decide_eq_true_eq, decide_eq_false_iff_not, beq_iff_eq, bne_iff_ne, beq_eq_false_iff_ne, bne_eq_false_iff_eq, List.length_map, gt_iff_lt, ge_iff_le, Int.not_lt, Int.not_le] at g242
        have hm : m < n := by omega
        refine .skip ?_
        refine .seq ?_
        refine .block ?_
        refine .seq ?_
        refine .region ?_
        refine W.pure (v := .int _ _) rfl rfl (v_move (oo rfl t61_232)) ?_
        refine W.pure (v := .int _ _) rfl rfl (v_assign (oo rfl rfl)) ?_
        refine .nil ?_
        refine .seq ?_
        refine .region ?_
        refine W.pure (v := .int _ _) rfl rfl (v_move (oo rfl h0_238)) ?_
        refine W.pure (v := .int _ _) rfl rfl (v_move (oo rfl rfl)) ?_
        refine .nil ?_
        refine .block ?_
        refine AW.loop (α := Nat × (Nat → Nat → Bool)) (fun (i, A) σ' H' => (Ext H H') ∧ (σ' 65 = .int .i64 (i : Nat)) ∧ (H'.get b1 = some (outB n n bs)) ∧ (∀ a < n, H'.get (bs a) = some (rowB n (A a))) ∧ (∀ a b, a < n → b < n → A a b = phM M m i 0 a b)) (fun (i, A) => n - i) (0, M) ⟨e231, rfl, k233, fm234, (ph_00 M m)⟩ ?_
        rintro ⟨i, A⟩ σ247 H248 fr249 ⟨e243, t65_244, k245, fm246, hA⟩
        have h0_250 : σ247 0 = _ := (fr249 0 rfl).trans h0_238
        have h7_251 : σ247 7 = .slice (some ⟨b1, 0, some 0⟩) n n := (fr249 7 rfl).trans h7_239
        have h11_252 : σ247 11 = _ := (fr249 11 rfl).trans rfl
        have h61_253 : σ247 61 = _ := (fr249 61 rfl).trans t61_232
        have h64_254 : σ247 64 = _ := (fr249 64 rfl).trans rfl
        have h105_255 : σ247 105 = _ := (fr249 105 rfl).trans rfl
        have h106_256 : σ247 106 = _ := (fr249 106 rfl).trans h106_241
        refine .seq ?_
        refine .region ?_
        refine W.pure rfl rfl (v_int (oo rfl t65_244) (oo rfl h64_254) rfl) ?_
        refine .nil ?_
        refine .seq ?_
        refine .cond rfl rfl (fun g257 => ?_) (fun g257 => ?_)
        · try simp only [decide_eq_true_eq, decide_eq_false_iff_not, beq_iff_eq, bne_iff_ne, beq_eq_false_iff_ne, bne_eq_false_iff_eq, List.length_map, gt_iff_lt, ge_iff_le, Int.not_lt, Int.not_le] at g257
          have hi : i < n := by omega
          refine .skip ?_
          refine .seq ?_
          refine .block ?_
          refine .seq ?_
          refine .region ?_
          refine W.pure (v := .int _ _) rfl rfl (v_move (oo rfl t65_244)) ?_
          refine W.pure (v := .int _ _) rfl rfl (v_assign (oo rfl rfl)) ?_
          refine .nil ?_
          refine .seq ?_
          refine .region ?_
          refine W.pure (v := .int _ _) rfl rfl (v_move (oo rfl h0_250)) ?_
          refine W.pure (v := .int _ _) rfl rfl (v_move (oo rfl rfl)) ?_
          refine .nil ?_
          refine .block ?_
          refine AW.loop (α := Nat × (Nat → Nat → Bool)) (fun (k, B) σ' H' => (Ext H H') ∧ (σ' 69 = .int .i64 (k : Nat)) ∧ (H'.get b1 = some (outB n n bs)) ∧ (∀ a < n, H'.get (bs a) = some (rowB n (B a))) ∧ (∀ a b, a < n → b < n → B a b = phM M m i k a b)) (fun (k, B) => n - k) (0, A) ⟨e243, rfl, k245, fm246, hA⟩ ?_
          rintro ⟨k, B⟩ σ262 H263 fr264 ⟨e258, t69_259, k260, fm261, hB⟩
          have h7_265 : σ262 7 = .slice (some ⟨b1, 0, some 0⟩) n n := (fr264 7 rfl).trans h7_251
          have h11_266 : σ262 11 = _ := (fr264 11 rfl).trans h11_252
          have h12_267 : σ262 12 = _ := (fr264 12 rfl).trans rfl
          have h61_268 : σ262 61 = _ := (fr264 61 rfl).trans h61_253
          have h65_269 : σ262 65 = _ := (fr264 65 rfl).trans t65_244
          have h68_270 : σ262 68 = _ := (fr264 68 rfl).trans rfl
          have h104_271 : σ262 104 = _ := (fr264 104 rfl).trans rfl
          have h105_272 : σ262 105 = _ := (fr264 105 rfl).trans h105_255
          have h106_273 : σ262 106 = _ := (fr264 106 rfl).trans h106_256
          refine .seq ?_
          refine .region ?_
          refine W.pure rfl rfl (v_int (oo rfl t69_259) (oo rfl h68_270) rfl) ?_
          refine .nil ?_
          refine .seq ?_
          refine .cond rfl rfl (fun g274 => ?_) (fun g274 => ?_)
          · try simp only [decide_eq_true_eq, decide_eq_false_iff_not, beq_iff_eq, bne_iff_ne, beq_eq_false_iff_ne, bne_eq_false_iff_eq, List.length_map, gt_iff_lt, ge_iff_le, Int.not_lt, Int.not_le] at g274
            have hk : k < n := by omega
            refine .skip ?_
            refine .seq ?_
            refine .block ?_
            refine .seq ?_
            refine .region ?_
            refine W.pure (v := .int _ _) rfl rfl (v_move (oo rfl t69_259)) ?_
            refine W.pure (v := .int _ _) rfl rfl (v_assign (oo rfl rfl)) ?_
            refine .nil ?_
            refine .draw (M := [0, 0, 3, 7, 0, 0, 0, 96, 224, 0, 992, 2016, 4064, 8160, 8160, 32736, 65504, 8160, 262112, 524256, 1048544, 2097120, 2097120, 8388576, 16777184, 2097120, 67108832, 134217696, 268435424, 536870880, 1073741823, 2147483647]) mixed (by kernel_rfl) (by kernel_rfl) fun H275 x276 => ?_
            have e277 := Ext.trans e258 x276
            have k278 := (x276).2 _ _ k260
            have fm279 := fun a ha => (x276).2 _ _ (fm261 a ha)
            refine D.pure (v := .slice (some ⟨b1, 0, some 0⟩) n n) rfl rfl (v_move (oo rfl h7_265)) ?_
            refine D.pure (v := .int _ _) rfl rfl (v_move (oo rfl h12_267)) ?_
            refine D.pure rfl rfl (v_idxN el31 sz30 (oo rfl rfl) (oo rfl rfl) (Or.inr ⟨_, _, _, _, rfl⟩) hi) ?_
            refine D.load1 rfl rfl ag30 (Pt.row k278 (i := i) hi (if_pos hi)) RS.nil fa_nil fun rs280 => ?_
            refine D.pure (v := .int _ _) rfl rfl (v_move (oo rfl rfl)) ?_
            refine D.pure (v := .slice (some ⟨b1, 0, some 0⟩) n n) rfl rfl (v_move (oo rfl h7_265)) ?_
            refine D.pure (v := .int _ _) rfl rfl (v_move (oo rfl h12_267)) ?_
            refine D.pure rfl rfl (v_idxN el31 sz30 (oo rfl rfl) (oo rfl rfl) (Or.inr ⟨_, _, _, _, rfl⟩) hi) ?_
            refine D.load1 rfl rfl ag30 (Pt.row k278 (i := i) hi (if_pos hi)) rs280 fa_nil fun rs281 => ?_
            refine D.pure (v := .int _ _) rfl rfl (v_move (oo rfl rfl)) ?_
            refine D.pure rfl rfl (v_idxN el30 sz4 (oo rfl rfl) (oo rfl rfl) (Or.inr ⟨_, _, _, _, rfl⟩) hk) ?_
            refine D.load1 rfl rfl ag4 (Pt.row (fm279 (i) hi) (i := k) hk rfl) rs281 fa_nil fun rs282 => ?_
            refine D.pure (v := .bool _) rfl rfl (v_move (oo rfl rfl)) ?_
            refine D.splitAt (t := 84) rfl (fun g283 gv284 => ?_) (fun g283 gv284 => ?_)
            · try simp only [decide_eq_true_eq, decide_eq_false_iff_not, beq_iff_eq, bne_iff_ne, beq_eq_false_iff_ne, bne_eq_false_iff_eq, List.length_map, gt_iff_lt, ge_iff_le, Int.not_lt, Int.not_le] at g283
              refine D.skip (gk rfl rfl gv284 rfl) rfl ?_
              refine D.skip (gk rfl rfl gv284 rfl) rfl ?_
              refine D.skip (gk rfl rfl gv284 rfl) rfl ?_
              refine D.skip (gk rfl rfl gv284 rfl) rfl ?_
              refine D.skip (gk rfl rfl gv284 rfl) rfl ?_
              refine D.skip (gk rfl rfl gv284 rfl) rfl ?_
              refine D.skip (gk rfl rfl gv284 rfl) rfl ?_
              refine D.skip (gk rfl rfl gv284 rfl) rfl ?_
              refine D.skipU rfl rfl rfl rfl ?_
              refine D.skipU rfl rfl rfl rfl ?_
              refine D.skipU rfl rfl rfl rfl ?_
              refine D.skipU rfl rfl rfl rfl ?_
              refine D.skipU rfl rfl rfl rfl ?_
              refine D.skipU rfl rfl rfl rfl ?_
              refine D.skipU rfl rfl rfl rfl ?_
              refine D.skip (gk rfl rfl gv284 rfl) rfl ?_
              refine D.pure (v := .bool _) rfl rfl (v_pickT (oo rfl gv284) (oo rfl rfl)) ?_
              refine D.pure rfl rfl (v_idxN el30 sz4 (oo rfl rfl) (oo rfl rfl) (Or.inr ⟨_, _, _, _, rfl⟩) hk) ?_
              refine D.store (v := .bool _) rfl rfl sz4 rfl rfl (fm279 (i) hi) rfl rfl rfl (by simp only [rowB, List.length_map, List.length_range]; omega) rs282 (faR_bit (by decide) (faR_bit (by decide) (faR_bit (by decide) fa_nil))) fa_nil fun H285 sb286 rs287 => ?_
              have e288 := sb286.ext e277 (hlo (i) hi)
              have k289 := sb286.old k278 (Ne.symm ((fun a ha => (hgt a ha)) (i) hi))
              have fm290 := fam_set hinj fm279 hi hk sb286
              refine .nil ?_
              refine .region ?_
              refine W.pure rfl rfl (v_inc (oo rfl t69_259) (by omega)) ?_
              refine W.pure (v := .int _ _) rfl rfl (v_move (oo rfl rfl)) ?_
              refine .nil ?_
              refine ⟨(k + 1, setM B i k true), by dsimp only; omega, e288, rfl, k289, fm290, (ph_step hB hi hk hm (by simp [g283]))⟩
            · try simp only [decide_eq_true_eq, decide_eq_false_iff_not, beq_iff_eq, bne_iff_ne, beq_eq_false_iff_ne, bne_eq_false_iff_eq, List.length_map, gt_iff_lt, ge_iff_le, Int.not_lt, Int.not_le] at g283
              refine D.pure (v := .slice (some ⟨b1, 0, some 0⟩) n n) (gk rfl rfl gv284 rfl) rfl (v_move (oo rfl h7_265)) ?_
              refine D.pure (v := .int _ _) (gk rfl rfl gv284 rfl) rfl (v_move (oo rfl h12_267)) ?_
              refine D.pure (gk rfl rfl gv284 rfl) rfl (v_idxN el31 sz30 (oo rfl rfl) (oo rfl rfl) (Or.inr ⟨_, _, _, _, rfl⟩) hi) ?_
              refine D.load1 (gk rfl rfl gv284 rfl) rfl ag30 (Pt.row k278 (i := i) hi (if_pos hi)) rs282 fa_nil fun rs291 => ?_
              refine D.pure (v := .int _ _) (gk rfl rfl gv284 rfl) rfl (v_move (oo rfl h11_266)) ?_
              refine D.pure (gk rfl rfl gv284 rfl) rfl (v_idxN el30 sz4 (oo rfl rfl) (oo rfl rfl) (Or.inr ⟨_, _, _, _, rfl⟩) hm) ?_
              refine D.load1 (gk rfl rfl gv284 rfl) rfl ag4 (Pt.row (fm279 (i) hi) (i := m) hm rfl) rs291 fa_nil fun rs292 => ?_
              refine D.pure (v := .bool _) (gk rfl rfl gv284 rfl) rfl (v_move (oo rfl rfl)) ?_
              refine D.splitAt (t := 92) rfl (fun g293 gv294 => ?_) (fun g293 gv294 => ?_)
              · try simp only [decide_eq_true_eq, decide_eq_false_iff_not, beq_iff_eq, bne_iff_ne, beq_eq_false_iff_ne, bne_eq_false_iff_eq, List.length_map, gt_iff_lt, ge_iff_le, Int.not_lt, Int.not_le] at g293
                refine D.pure (v := .slice (some ⟨b1, 0, some 0⟩) n n) (gk rfl rfl gv294 rfl) rfl (v_move (oo rfl h7_265)) ?_
                refine D.pure (v := .int _ _) (gk rfl rfl gv294 rfl) rfl (v_move (oo rfl h11_266)) ?_
                refine D.pure (gk rfl rfl gv294 rfl) rfl (v_idxN el31 sz30 (oo rfl rfl) (oo rfl rfl) (Or.inr ⟨_, _, _, _, rfl⟩) hm) ?_
                refine D.load1 (gk rfl rfl gv294 rfl) rfl ag30 (Pt.row k278 (i := m) hm (if_pos hm)) rs292 fa_nil fun rs295 => ?_
                refine D.pure (v := .int _ _) (gk rfl rfl gv294 rfl) rfl (v_move (oo rfl rfl)) ?_
                refine D.pure (gk rfl rfl gv294 rfl) rfl (v_idxN el30 sz4 (oo rfl rfl) (oo rfl rfl) (Or.inr ⟨_, _, _, _, rfl⟩) hk) ?_
                refine D.load1 (gk rfl rfl gv294 rfl) rfl ag4 (Pt.row (fm279 (m) hm) (i := k) hk rfl) rs295 fa_nil fun rs296 => ?_
                refine D.pure (v := .bool _) (gk rfl rfl gv284 rfl) rfl (v_pickT (oo rfl gv294) (oo rfl rfl)) ?_
                refine D.pure (v := .bool _) rfl rfl (v_pickF (oo rfl gv284) (oo rfl rfl)) ?_
                refine D.pure rfl rfl (v_idxN el30 sz4 (oo rfl rfl) (oo rfl rfl) (Or.inr ⟨_, _, _, _, rfl⟩) hk) ?_
                refine D.store (v := .bool _) rfl rfl sz4 rfl rfl (fm279 (i) hi) rfl rfl rfl (by simp only [rowB, List.length_map, List.length_range]; omega) rs296 (faR_bit (by decide) (faR_bit (by decide) (faR_bit (by decide) (faR_bit (by decide) (faR_bit (by decide) (faR_bit (by decide) (faR_bit (by decide) fa_nil))))))) fa_nil fun H297 sb298 rs299 => ?_
                have e300 := sb298.ext e277 (hlo (i) hi)
                have k301 := sb298.old k278 (Ne.symm ((fun a ha => (hgt a ha)) (i) hi))
                have fm302 := fam_set hinj fm279 hi hk sb298
                refine .nil ?_
                refine .region ?_
                refine W.pure rfl rfl (v_inc (oo rfl t69_259) (by omega)) ?_
                refine W.pure (v := .int _ _) rfl rfl (v_move (oo rfl rfl)) ?_
                refine .nil ?_
                refine ⟨(k + 1, setM B i k (B m k)), by dsimp only; omega, e300, rfl, k301, fm302, (ph_step hB hi hk hm (by simp [g293, g283]))⟩
              · try simp only [decide_eq_true_eq, decide_eq_false_iff_not, beq_iff_eq, bne_iff_ne, beq_eq_false_iff_ne, bne_eq_false_iff_eq, List.length_map, gt_iff_lt, ge_iff_le, Int.not_lt, Int.not_le] at g293
                refine D.skip (gk rfl rfl gv294 rfl) rfl ?_
                refine D.skip (gk rfl rfl gv294 rfl) rfl ?_
                refine D.skip (gk rfl rfl gv294 rfl) rfl ?_
                refine D.skip (gk rfl rfl gv294 rfl) rfl ?_
                refine D.skip (gk rfl rfl gv294 rfl) rfl ?_
                refine D.skip (gk rfl rfl gv294 rfl) rfl ?_
                refine D.skip (gk rfl rfl gv294 rfl) rfl ?_
                refine D.pure (v := .bool _) (gk rfl rfl gv284 rfl) rfl (v_pickF (oo rfl gv294) (oo rfl rfl)) ?_
                refine D.pure (v := .bool _) rfl rfl (v_pickF (oo rfl gv284) (oo rfl rfl)) ?_
                refine D.pure rfl rfl (v_idxN el30 sz4 (oo rfl rfl) (oo rfl rfl) (Or.inr ⟨_, _, _, _, rfl⟩) hk) ?_
                refine D.store (v := .bool _) rfl rfl sz4 rfl rfl (fm279 (i) hi) rfl rfl rfl (by simp only [rowB, List.length_map, List.length_range]; omega) rs292 (faR_bit (by decide) (faR_bit (by decide) (faR_bit (by decide) (faR_bit (by decide) (faR_bit (by decide) fa_nil))))) fa_nil fun H303 sb304 rs305 => ?_
                have e306 := sb304.ext e277 (hlo (i) hi)
                have k307 := sb304.old k278 (Ne.symm ((fun a ha => (hgt a ha)) (i) hi))
                have fm308 := fam_set hinj fm279 hi hk sb304
                refine .nil ?_
                refine .region ?_
                refine W.pure rfl rfl (v_inc (oo rfl t69_259) (by omega)) ?_
                refine W.pure (v := .int _ _) rfl rfl (v_move (oo rfl rfl)) ?_
                refine .nil ?_
                refine ⟨(k + 1, setM B i k false), by dsimp only; omega, e306, rfl, k307, fm308, (ph_step hB hi hk hm (by simp [g293, g283]))⟩
          · try simp only [decide_eq_true_eq, decide_eq_false_iff_not, beq_iff_eq, bne_iff_ne, beq_eq_false_iff_ne, bne_eq_false_iff_eq, List.length_map, gt_iff_lt, ge_iff_le, Int.not_lt, Int.not_le] at g274
            refine .exit ?_
            refine .region ?_
            refine W.pure rfl rfl (v_inc (oo rfl h65_269) (by omega)) ?_
            refine W.pure (v := .int _ _) rfl rfl (v_move (oo rfl rfl)) ?_
            refine .nil ?_
            refine ⟨(i + 1, B), by dsimp only; omega, e258, rfl, k260, fm261, (ph_row hB (by omega))⟩
        · try simp only [decide_eq_true_eq, decide_eq_false_iff_not, beq_iff_eq, bne_iff_ne, beq_eq_false_iff_ne, bne_eq_false_iff_eq, List.length_map, gt_iff_lt, ge_iff_le, Int.not_lt, Int.not_le] at g257
          refine .exit ?_
          refine .region ?_
          refine W.pure rfl rfl (v_inc (oo rfl h61_253) (by omega)) ?_
          refine W.pure (v := .int _ _) rfl rfl (v_move (oo rfl rfl)) ?_
          refine .nil ?_
          refine ⟨(m + 1, A), by dsimp only; omega, e243, rfl, k245, fm246, (w_next hW hm hA (by omega))⟩
      · try simp only [decide_eq_true_eq, decide_eq_false_iff_not, beq_iff_eq, bne_iff_ne, beq_eq_false_iff_ne, bne_eq_false_iff_eq, List.length_map, gt_iff_lt, ge_iff_le, Int.not_lt, Int.not_le] at g242
        refine .exit ?_
        refine .seq ?_
        refine .region ?_
        refine W.pure (v := .slice (some ⟨b1, 0, some 0⟩) n n) rfl rfl (v_move (oo rfl h7_239)) ?_
        refine W.pure (v := .slice (some ⟨b1, 0, some 0⟩) n n) rfl rfl (v_assign (oo rfl rfl)) ?_
        refine .nil ?_
        refine .ret ?_
        refine ret1V (P := Try.prog) (fn := Try.f14) (n := 107) (R := fun v H' => (∃ (rv : Nat → Value) (M : Nat → Nat → Bool), Sl H' 1 v ((List.range n).map fun i => [rv i]) ∧ (∀ i < n, Sl H' 1 (rv i) ((List.range n).map fun k => [Value.bool (M i k)])) ∧ ∀ a b, a < n → b < n → (M a b = true ↔ Con l U a b)) ∧ Ext H H') (v := .slice (some ⟨b1, 0, some 0⟩) n n) (by rfl) (by rfl) (by exact rfl) ?_
        -- leaf 1
        exact ⟨⟨fun i => .slice (some ⟨bs i, 0, some 0⟩) n n, M, sl_out k233, fun i hi => sl_row (fm234 i hi), fun a b ha hb => w_end vl hW (by omega) ha hb⟩, e231⟩
end Go.Am.Try
