/- From a statement's arguments to an abstract heap: what was read as data lies there in blocks that may only be read. -/
import Derived.Test.YtlmgdnhnpkgheaaDoorAmK
import GoSem.ClaimChange
import Derived.OpenShut
import Derived.ChangeArms
import Derived.Below
namespace Go.Am
open Go
set_option linter.unusedSimpArgs false
set_option linter.unusedVariables false

def contig (P : Program) : Nat → List Field → Option Nat
  | off, [] => some off
  | off, f :: fs => if f.offset = off then contig P (off + P.cellsOf f.type) fs else none
/-- Types without slices, maps, pointers and the like. -/
def flatT (P : Program) : Nat → TypeId → Bool
  | 0, _ => false
  | n + 1, t => match P.underlying t with
    | some .bool | some (.int _) | some .string => P.cellsOf t == 1
    | some (.struct fs) => contig P 0 fs.toList == some (P.cellsOf t) && fs.toList.all fun f => flatT P n f.type
    | some (.array k e) => P.cellsOf t == k * P.cellsOf e && flatT P n e
    | _ => false
/-- Slices of such, and structs and arrays of all these. -/
def okT (P : Program) : Nat → TypeId → Bool
  | 0, _ => false
  | n + 1, t => match P.underlying t with
    | some .bool | some (.int _) | some .string => P.cellsOf t == 1
    | some (.slice e) => P.cellsOf t == 1 && P.cellsOf e != 0 && flatT P n e
    | some (.struct fs) => contig P 0 fs.toList == some (P.cellsOf t) && fs.toList.all fun f => okT P n f.type
    | some (.array k e) => P.cellsOf t == k * P.cellsOf e && okT P n e
    | _ => false

section
variable {H : Type}
def AllD (R : TypeId → List Value → DataW H → Prop) (sz : TypeId → Nat) : List TypeId → List (List Value) → List (DataW H) → Prop
  | [], [], [] => True
  | t :: ts, c :: cs, d :: ds => (R t c d ∧ c.length = sz t) ∧ AllD R sz ts cs ds
  | _, _, _ => False
theorem AllD.append {R : TypeId → List Value → DataW H → Prop} {sz : TypeId → Nat} : ∀ {ts : List TypeId} {cs : List (List Value)} {ds : List (DataW H)} {ts' : List TypeId} {cs' : List (List Value)} {ds' : List (DataW H)},
    AllD R sz ts cs ds → AllD R sz ts' cs' ds' → AllD R sz (ts ++ ts') (cs ++ cs') (ds ++ ds')
  | [], [], [], _, _, _, _, h => h
  | _ :: _, _ :: _, _ :: _, _, _, _, h1, h => ⟨h1.1, AllD.append h1.2 h⟩
theorem AllD.mono {R R' : TypeId → List Value → DataW H → Prop} {sz : TypeId → Nat} (hR : ∀ t c d, R t c d → R' t c d) : ∀ {ts : List TypeId} {cs : List (List Value)} {ds : List (DataW H)}, AllD R sz ts cs ds → AllD R' sz ts cs ds
  | [], [], [], _ => trivial
  | _ :: _, _ :: _, _ :: _, h => ⟨⟨hR _ _ _ h.1.1, h.1.2⟩, AllD.mono hR h.2⟩
theorem AllD.length {R : TypeId → List Value → DataW H → Prop} {sz : TypeId → Nat} : ∀ {ts : List TypeId} {cs : List (List Value)} {ds : List (DataW H)}, AllD R sz ts cs ds → cs.length = ts.length ∧ ds.length = ts.length
  | [], [], [], _ => ⟨rfl, rfl⟩
  | _ :: _, _ :: _, _ :: _, h => by have := AllD.length h.2; simp [this]

/-- An abstract value that reads as a datum. -/
def AData (P : Program) (G : Nat → Option ABlk) : Nat → TypeId → List Value → DataW H → Prop
  | 0, _, _, _ => False
  | n + 1, t, cs, d => match P.underlying t with
    | some .bool => ∃ b, cs = [.bool b] ∧ d = .lit (.bool b)
    | some (.int k) => ∃ x, cs = [.int k x] ∧ d = .lit (.int k x) ∧ (Lit.int k x).wf = true
    | some .string => ∃ s : ByteArray, cs = [.string s] ∧ d = .lit (.string s.data.toList) ∧ s.size ≤ maxLen
    | some (.slice e) => (cs = [.slice none 0 0] ∧ d = .nil) ∨ ∃ b len cap elems spare css, cs = [.slice (some ⟨b, 0, some 0⟩) len cap] ∧ d = .slice elems spare ∧ elems.length = len ∧ len + spare.length = cap ∧ cap ≤ maxLen ∧
        (cap = 0 ∨ ∃ x, G b = some x ∧ x.own = false ∧ x.cells = css.flatten) ∧ AllD (AData P G n) P.cellsOf (List.replicate cap e) css (elems ++ spare)
    | some (.struct fs) => ∃ css parts, cs = css.flatten ∧ d = .agg parts ∧ AllD (AData P G n) P.cellsOf (fs.toList.map (·.type)) css parts
    | some (.array k e) => ∃ css parts, cs = css.flatten ∧ d = .agg parts ∧ AllD (AData P G n) P.cellsOf (List.replicate k e) css parts
    | _ => False
theorem AData.mono {P : Program} {G G' : Nat → Option ABlk} (hG : ∀ b x, G b = some x → G' b = some x) : ∀ (n : Nat) (t : TypeId) (cs : List Value) (d : DataW H), AData P G n t cs d → AData P G' n t cs d
  | 0, _, _, _, h => h.elim
  | n + 1, t, cs, d, h => by
    have ih : ∀ t cs d, AData P G n t cs d → AData P G' n t cs d := AData.mono hG n
    unfold AData at h ⊢
    split at h
    · exact h
    · exact h
    · exact h
    · rcases h with h | ⟨b, len, cap, elems, spare, css, h1, h2, h3, h4, h5, h6, h7⟩
      · exact .inl h
      · refine .inr ⟨b, len, cap, elems, spare, css, h1, h2, h3, h4, h5, ?_, h7.mono ih⟩
        rcases h6 with h6 | ⟨x, g1, g2⟩
        · exact .inl h6
        · exact .inr ⟨x, hG b x g1, g2⟩
    · obtain ⟨css, parts, h1, h2, h3⟩ := h; exact ⟨css, parts, h1, h2, h3.mono ih⟩
    · obtain ⟨css, parts, h1, h2, h3⟩ := h; exact ⟨css, parts, h1, h2, h3.mono ih⟩
    · exact h

theorem contig_flatten {P : Program} {cs : List Value} : ∀ (fs : List Field) (off tot : Nat), contig P off fs = some tot → tot = cs.length → off ≤ tot → (fs.map fun f => (cs.drop f.offset).take (P.cellsOf f.type)).flatten = cs.drop off
  | [], off, tot, h, ht, _ => by simp only [contig] at h; cases h; simp [ht]
  | f :: fs, off, tot, h, ht, hle => by
    simp only [contig] at h
    split at h
    · rename_i hf
      have hm : ∀ (fs : List Field) (off tot : Nat), contig P off fs = some tot → off ≤ tot := by
        intro fs
        induction fs with
        | nil => intro off tot h; simp only [contig] at h; cases h; exact Nat.le_refl _
        | cons f fs ih =>
          intro off tot h
          simp only [contig] at h
          split at h
          · have := ih _ _ h; omega
          · cases h
      have := contig_flatten fs _ tot h ht (hm _ _ _ h)
      simp only [List.map_cons, List.flatten_cons, this, hf]
      rw [← List.drop_drop]
      exact List.take_append_drop _ _
    · cases h

theorem AllD.of_get {R : TypeId → List Value → DataW H → Prop} {sz : TypeId → Nat} : ∀ {ts : List TypeId} {cs : List (List Value)} {ds : List (DataW H)}, cs.length = ts.length → ds.length = ts.length →
    (∀ (i : Nat) (t : TypeId) (c : List Value) (d : DataW H), ts[i]? = some t → cs[i]? = some c → ds[i]? = some d → R t c d ∧ c.length = sz t) → AllD R sz ts cs ds
  | [], [], [], _, _, _ => trivial
  | [], _ :: _, _, h, _, _ => by simp at h
  | [], [], _ :: _, _, h, _ => by simp at h
  | _ :: _, [], _, h, _, _ => by simp at h
  | _ :: _, _ :: _, [], _, h, _ => by simp at h
  | t :: ts, c :: cs, d :: ds, h1, h2, h => ⟨h 0 t c d rfl rfl rfl, AllD.of_get (by simpa using h1) (by simpa using h2) fun i t' c' d' a b e => h (i + 1) t' c' d' (by simpa using a) (by simpa using b) (by simpa using e)⟩
theorem AllD.get {R : TypeId → List Value → DataW H → Prop} {sz : TypeId → Nat} : ∀ {ts : List TypeId} {cs : List (List Value)} {ds : List (DataW H)}, AllD R sz ts cs ds → ∀ (i : Nat) (t : TypeId), ts[i]? = some t →
    ∃ c d, cs[i]? = some c ∧ ds[i]? = some d ∧ R t c d ∧ c.length = sz t
  | [], [], [], _, i, t, h => by simp at h
  | t :: ts, c :: cs, d :: ds, h, 0, t', ht => by simp at ht; subst ht; exact ⟨c, d, rfl, rfl, h.1.1, h.1.2⟩
  | t :: ts, c :: cs, d :: ds, h, i + 1, t', ht => by simpa using AllD.get h.2 i t' (by simpa using ht)

theorem range_map_const {α : Type} (n : Nat) (x : α) : (List.range n).map (fun _ => x) = List.replicate n x := by
  apply List.ext_getElem
  · simp
  · intro i h1 h2; simp

section
variable {enc : TypeId × Value → H} {P : Program} {w : World} {sp : Nat → Bool} {t : TypeId}

theorem all_flatten {css : List (List Value)} (h : ∀ c ∈ css, c.all scalar = true) : css.flatten.all scalar = true := by
  simp only [List.all_eq_true] at h ⊢
  intro v hv
  obtain ⟨c, hc, hvc⟩ := List.mem_flatten.1 hv
  exact h c hc v hvc

theorem contig_cells {cs : List Value} {fs : List Field} (h : contig P 0 fs = some (P.cellsOf t)) (hl : cs.length = P.cellsOf t) : (fs.map fun f => (cs.drop f.offset).take (P.cellsOf f.type)).flatten = cs := by
  have := contig_flatten (P := P) (cs := cs) fs 0 _ h hl.symm (Nat.zero_le _)
  simpa using this
theorem array_cells {cs : List Value} (k sz : Nat) (hl : cs.length = k * sz) : ((List.range k).map fun i => (cs.drop (i * sz)).take sz).flatten = cs := by
  induction k generalizing cs with
  | zero => simp at hl; simp [hl]
  | succ k ih =>
    rw [List.range_succ_eq_map, List.map_cons, List.flatten_cons, List.map_map]
    have h1 := ih (cs := cs.drop sz) (by simp [hl, Nat.add_mul])
    have h2 : ((fun i => (cs.drop (i * sz)).take sz) ∘ Nat.succ) = fun i => ((cs.drop sz).drop (i * sz)).take sz := by
      funext i; simp [List.drop_drop, Nat.add_mul, Nat.add_comm]
    rw [h2, h1]
    simp
theorem take_len {cs : List Value} {o n : Nat} (h : o + n ≤ cs.length) : ((cs.drop o).take n).length = n := by simp; omega
theorem contig_in {fs : List Field} : ∀ {off tot : Nat}, contig P off fs = some tot → ∀ f ∈ fs, f.offset + P.cellsOf f.type ≤ tot := by
  induction fs with
  | nil => intro off tot _ f hf; cases hf
  | cons g fs ih =>
    intro off tot h f hf
    simp only [contig] at h
    split at h
    · rename_i hg
      have hm : ∀ (fs : List Field) (off tot : Nat), contig P off fs = some tot → off ≤ tot := by
        intro fs
        induction fs with
        | nil => intro off tot h; simp only [contig] at h; cases h; exact Nat.le_refl _
        | cons f fs ih =>
          intro off tot h
          simp only [contig] at h
          split at h
          · have := ih _ _ h; omega
          · cases h
      rcases List.mem_cons.1 hf with rfl | hf
      · have := hm _ _ _ h; omega
      · exact ih h f hf
    · cases h

theorem flat_reads (G : Nat → Option ABlk) : ∀ (n fuel : Nat) (t : TypeId) (cs : List Value) (d : DataW H) (ps : List MemPlace), flatT P n t = true → DataW.trod enc P w 0 sp true fuel t cs = some (d, ps) →
    AData P G n t cs d ∧ cs.length = P.cellsOf t ∧ cs.all scalar = true
  | 0, _, _, _, _, _, h, _ => by simp [flatT] at h
  | n + 1, fuel, t, cs, d, ps, hf, h => by
    unfold flatT at hf
    unfold AData
    split at hf
    · rename_i hu
      obtain ⟨b, rfl, e⟩ := DataW.trod_bool hu h
      cases e
      simp only [hu]
      exact ⟨⟨b, rfl, rfl⟩, by simpa using (beq_iff_eq.1 hf).symm, rfl⟩
    · rename_i k hu
      obtain ⟨b, rfl, e, hw⟩ := DataW.trod_int hu h
      cases e
      simp only [hu]
      exact ⟨⟨b, rfl, rfl, hw⟩, by simpa using (beq_iff_eq.1 hf).symm, rfl⟩
    · rename_i hu
      obtain ⟨b, rfl, e, hw⟩ := DataW.trod_string hu h
      cases e
      simp only [hu]
      exact ⟨⟨b, rfl, rfl, hw⟩, by simpa using (beq_iff_eq.1 hf).symm, rfl⟩
    · rename_i fs hu
      simp only [Bool.and_eq_true, beq_iff_eq] at hf
      obtain ⟨hcon, hall⟩ := hf
      obtain ⟨xs, m, rfl, e, hl, hxl, hget⟩ := DataW.trod_struct hu h
      cases e
      simp only [hu]
      have key : ∀ (i : Nat) (f : Field), fs[i]? = some f → ∃ d q, xs[i]? = some (d, q) ∧ AData P G n f.type ((cs.drop f.offset).take (P.cellsOf f.type)) d ∧ ((cs.drop f.offset).take (P.cellsOf f.type)).length = P.cellsOf f.type ∧ ((cs.drop f.offset).take (P.cellsOf f.type)).all scalar = true := fun i f hfi => by
        have hi : i < xs.length := by rw [hxl]; exact (Array.getElem?_eq_some_iff.1 hfi).1
        have h1 := hget i f hfi
        obtain ⟨d2, q, hq⟩ : ∃ d q, xs[i]? = some (d, q) := ⟨xs[i].1, xs[i].2, by rw [List.getElem?_eq_getElem hi]⟩
        rw [hq] at h1
        have hft := List.all_eq_true.1 hall f (by simpa using Array.mem_of_getElem? hfi)
        obtain ⟨g1, g2, g3⟩ := flat_reads G n m f.type _ _ _ hft h1
        exact ⟨d2, q, hq, g1, g2, g3⟩
      refine ⟨⟨fs.toList.map fun f => (cs.drop f.offset).take (P.cellsOf f.type), xs.map (·.1), (contig_cells hcon hl).symm, rfl, ?_⟩, hl, ?_⟩
      · refine AllD.of_get (by simp) (by simp [hxl]) fun i t' c d' ht hc hd => ?_
        simp only [List.getElem?_map, Option.map_eq_some_iff, Array.getElem?_toList] at ht hc hd
        obtain ⟨f, hf, rfl⟩ := ht
        obtain ⟨f', hf', rfl⟩ := hc
        rw [hf] at hf'; cases hf'
        obtain ⟨y, hy, rfl⟩ := hd
        obtain ⟨d2, q, g0, g1, g2, _⟩ := key i f hf
        rw [g0] at hy; cases hy
        exact ⟨g1, g2⟩
      · rw [← contig_cells hcon hl]
        refine all_flatten fun c hc => ?_
        obtain ⟨f, hf, rfl⟩ := List.mem_map.1 hc
        obtain ⟨i, hi⟩ := List.mem_iff_getElem?.1 hf
        obtain ⟨_, _, _, _, _, g3⟩ := key i f (by simpa using hi)
        exact g3
    · rename_i k e hu
      simp only [Bool.and_eq_true, beq_iff_eq] at hf
      obtain ⟨hsz, hfe⟩ := hf
      obtain ⟨xs, m, rfl, eq, hl, hxl, hget⟩ := DataW.trod_array hu h
      cases eq
      simp only [hu]
      have key : ∀ i, i < k → ∃ d q, xs[i]? = some (d, q) ∧ AData P G n e ((cs.drop (i * P.cellsOf e)).take (P.cellsOf e)) d ∧ ((cs.drop (i * P.cellsOf e)).take (P.cellsOf e)).length = P.cellsOf e ∧ ((cs.drop (i * P.cellsOf e)).take (P.cellsOf e)).all scalar = true := fun i hi => by
        have hi' : i < xs.length := by omega
        have h1 := hget i hi
        obtain ⟨d2, q, hq⟩ : ∃ d q, xs[i]? = some (d, q) := ⟨xs[i].1, xs[i].2, by rw [List.getElem?_eq_getElem hi']⟩
        rw [hq] at h1
        obtain ⟨g1, g2, g3⟩ := flat_reads G n m e _ _ _ hfe h1
        exact ⟨d2, q, hq, g1, g2, g3⟩
      refine ⟨⟨(List.range k).map fun i => (cs.drop (i * P.cellsOf e)).take (P.cellsOf e), xs.map (·.1), (array_cells k _ (by rw [hl, hsz])).symm, rfl, ?_⟩, hl, ?_⟩
      · refine AllD.of_get (by simp) (by simp [hxl]) fun i t' c d' ht hc hd => ?_
        simp only [List.getElem?_map, Option.map_eq_some_iff] at hc hd
        obtain ⟨j, hj, rfl⟩ := hc
        have hik : i < k ∧ j = i := by
          obtain ⟨h1, h2⟩ := List.getElem?_eq_some_iff.1 hj
          simp at h1 h2
          exact ⟨h1, h2.symm⟩
        obtain ⟨hik, rfl⟩ := hik
        rw [List.getElem?_replicate, if_pos hik] at ht
        cases ht
        obtain ⟨y, hy, rfl⟩ := hd
        obtain ⟨d2, q, g0, g1, g2, _⟩ := key j hik
        rw [g0] at hy; cases hy
        exact ⟨g1, g2⟩
      · have := array_cells (cs := cs) k (P.cellsOf e) (by rw [hl, hsz])
        rw [← this]
        refine all_flatten fun c hc => ?_
        obtain ⟨i, hi, rfl⟩ := List.mem_map.1 hc
        obtain ⟨_, _, _, _, _, g3⟩ := key i (List.mem_range.1 hi)
        exact g3
    · cases hf

/-! ### Slices too -/
/-- A heap of blocks that may only be read, more and more of them. -/
structure Lift (w : World) (A : AH) (ι : Ren) (A' : AH) (ι' : Ren) : Prop where
  next : A.next ≤ A'.next
  get : ∀ b x, A.get b = some x → A'.get b = some x
  sub : ι.sub ι'
  sim : Sim A'.next ι' A'.get w
  ro : ∀ b x, A'.get b = some x → x.own = false
theorem Lift.trans {A A1 A2 : AH} {ι ι1 ι2 : Ren} (h : Lift w A ι A1 ι1) (k : Lift w A1 ι1 A2 ι2) : Lift w A ι A2 ι2 :=
  ⟨Nat.le_trans h.next k.next, fun b x hb => k.get b x (h.get b x hb), fun b y hb => k.sub b y (h.sub b y hb), k.sim, k.ro⟩

theorem mapM_range_get {α : Type} {f : Nat → Option α} : ∀ (n : Nat) (l : List α), (List.range n).mapM f = some l → l.length = n ∧ ∀ i, i < n → f i = l[i]? := fun n l h =>
  ⟨by simpa using mapM_some_length h, fun i hi => mapM_some_get h i i (by simp [hi])⟩
theorem flatten_get {α : Type} (sz : Nat) (hsz : sz ≠ 0) : ∀ (css : List (List α)), (∀ c ∈ css, c.length = sz) → ∀ j v, css.flatten[j]? = some v → ∃ c, css[j / sz]? = some c ∧ c[j % sz]? = some v
  | [], _, j, v, h => by simp at h
  | c :: css, hc, j, v, h => by
    have hcl := hc c (by simp)
    simp only [List.flatten_cons, List.getElem?_append] at h
    split at h
    · rename_i hlt
      have hj : j < sz := by omega
      refine ⟨c, by rw [Nat.div_eq_of_lt hj]; rfl, by rw [Nat.mod_eq_of_lt hj]; exact h⟩
    · rename_i hlt
      obtain ⟨c', h1, h2⟩ := flatten_get sz hsz css (fun x hx => hc x (by simp [hx])) (j - c.length) v h
      rw [hcl] at h1 h2
      have e : j = (j - sz) + sz := by omega
      refine ⟨c', ?_, ?_⟩
      · rw [e, Nat.add_div_right _ (by omega)]; simpa using h1
      · rw [e, Nat.add_mod_right]; exact h2

theorem lift_slice {A : AH} {ι : Ren} (hS : Sim A.next ι A.get w) (hro : ∀ b x, A.get b = some x → x.own = false) {n fuel : Nat} {t e : TypeId} {cs : List Value} {d : DataW H} {ps : List MemPlace}
    (hu : P.underlying t = some (.slice e)) (he0 : P.cellsOf e ≠ 0) (hfe : flatT P n e = true) (hsp : ∀ a l c, Value.slice (some a) l c ∈ cs → a.spot = none)
    (h : DataW.trod enc P w 0 (fun _ => true) true fuel t cs = some (d, ps)) :
    ∃ A' ι' acs, Lift w A ι A' ι' ∧ VRs ι' acs cs ∧ AData P A'.get (n + 1) t acs d ∧ acs.length = 1 := by
  rcases DataW.trod_slice hu h with ⟨rfl, e1⟩ | ⟨a, len, cap, elems, rest, m, rfl, rfl, e1, _, hlen, hcap, hel, hget, hrest, _⟩
  · cases e1
    refine ⟨A, ι, [.slice none 0 0], ⟨Nat.le_refl _, fun _ _ h => h, fun _ _ h => h, hS, hro⟩, .cons (.scal rfl) .nil, ?_, rfl⟩
    unfold AData
    simp only [hu]
    exact .inl (by simp)
  · cases e1
    obtain ⟨hrl, hrget⟩ := hrest rfl
    have hspot : a.spot = none := hsp a len cap (by simp)
    obtain ⟨ab, ao, asp⟩ := a
    simp only at hspot
    subst hspot
    let cl : Nat → List Value := fun i => (w.cells? 0 ((⟨ab, ao, none⟩ : Addr).add (i * P.cellsOf e)) (P.cellsOf e)).getD []
    -- each element
    have key : ∀ i, i < cap → ∃ d q, (elems ++ rest)[i]? = some (d, q) ∧ w.cells? 0 ((⟨ab, ao, none⟩ : Addr).add (i * P.cellsOf e)) (P.cellsOf e) = some (cl i) ∧ AData P A.get n e (cl i) d ∧ (cl i).length = P.cellsOf e ∧ (cl i).all scalar = true := fun i hi => by
      have hall : (w.cells? 0 ((⟨ab, ao, none⟩ : Addr).add (i * P.cellsOf e)) (P.cellsOf e)).bind (DataW.trod enc P w 0 (fun _ => true) true m e) = (elems ++ rest)[i]? := by
        by_cases hil : i < len
        · rw [hget i hil, List.getElem?_append, if_pos (by omega)]
        · have := hrget (i - len) (by omega)
          rw [show len + (i - len) = i by omega] at this
          rw [this, List.getElem?_append, if_neg (by omega), hel]
      have hil : i < (elems ++ rest).length := by simp; omega
      obtain ⟨d2, q, hq⟩ : ∃ d q, (elems ++ rest)[i]? = some (d, q) := ⟨(elems ++ rest)[i].1, (elems ++ rest)[i].2, by rw [List.getElem?_eq_getElem hil]⟩
      rw [hq] at hall
      obtain ⟨cs', h1, h2⟩ := Option.bind_eq_some_iff.1 hall
      have hcl : cl i = cs' := by simp [cl, h1]
      obtain ⟨g1, g2, g3⟩ := flat_reads A.get n m e cs' d2 q hfe h2
      exact ⟨d2, q, hq, by rw [h1, hcl], by rw [hcl]; exact g1, by rw [hcl]; exact g2, by rw [hcl]; exact g3⟩
    let css := (List.range cap).map cl
    have hcssl : ∀ c ∈ css, c.length = P.cellsOf e := fun c hc => by
      obtain ⟨i, hi, rfl⟩ := List.mem_map.1 hc
      obtain ⟨_, _, _, _, _, g, _⟩ := key i (List.mem_range.1 hi)
      exact g
    have hcell : ∀ j v, css.flatten[j]? = some v → w.cell? ⟨ab, ao + j, none⟩ = some v ∧ scalar v = true := fun j v hj => by
      obtain ⟨c, h1, h2⟩ := flatten_get (P.cellsOf e) he0 css hcssl j v hj
      simp only [css, List.getElem?_map, Option.map_eq_some_iff] at h1
      obtain ⟨i, hi, rfl⟩ := h1
      obtain ⟨h3, h4⟩ := List.getElem?_eq_some_iff.1 hi
      simp at h3 h4
      subst h4
      obtain ⟨_, _, _, g1, _, g2, g3⟩ := key _ h3
      unfold World.cells? at g1
      rw [if_pos (Nat.zero_le _)] at g1
      obtain ⟨_, g5⟩ := mapM_range_get _ _ g1
      have hlt : j % P.cellsOf e < P.cellsOf e := Nat.mod_lt _ (by omega)
      have := g5 _ hlt
      rw [h2] at this
      simp only [add_addr] at this
      refine ⟨?_, List.all_eq_true.1 g3 v (List.mem_of_getElem? h2)⟩
      rw [← this]
      congr 2
      have := Nat.div_add_mod j (P.cellsOf e)
      rw [Nat.mul_comm] at this
      omega
    by_cases hc0 : cap = 0
    · -- no cells: the block itself may be anything
      subst hc0
      have hl0 : len = 0 := by omega
      subst hl0
      have hfree := next_free hS
      refine ⟨A.push none, upd ι A.next (some (ab, ao, 0)), [.slice (some ⟨A.next, 0, some 0⟩) 0 0], ⟨by simp, fun b x hb => by rw [AH.get_push_old _ _ (AH.lt_of_get hb)]; exact hb, sub_upd hfree, ?_, ?_⟩, ?_, ?_, rfl⟩
      · refine ⟨fun b x cb co ex hG hi => ?_, fun b b' x x' cb co ex cb' co' ex' hne hG hG' ho hi hi' => ?_, fun b y hb => ?_⟩
        · rw [AH.get_push] at hG
          split at hG
          · cases hG
          · rename_i hne
            rw [upd_other _ _ hne] at hi
            exact (hS.blk b x cb co ex hG hi).mono (sub_upd hfree) rfl
        · rw [AH.get_push] at hG
          split at hG
          · cases hG
          · have := hro b x hG; rw [this] at ho; cases ho
        · by_cases e : b = A.next
          · subst e; simp
          · rw [upd_other _ _ e] at hb
            have := hS.dom b y hb
            simp; omega
      · intro b x hb
        rw [AH.get_push] at hb
        split at hb
        · cases hb
        · exact hro b x hb
      · have := VR.slT (ι := upd ι A.next (some (ab, ao, 0))) (o := 0) (l := 0) (c := 0) (upd_same _ _ _)
        exact .cons this .nil
      · unfold AData
        simp only [hu]
        have he : elems = [] := List.eq_nil_of_length_eq_zero (by omega)
        have hr : rest = [] := List.eq_nil_of_length_eq_zero (by omega)
        subst he hr
        exact .inr ⟨A.next, 0, 0, [], [], [], rfl, rfl, rfl, rfl, by omega, .inl rfl, trivial⟩
    · have hfree := next_free hS
      have h00 : css.flatten[0]? ≠ none := fun h => by
        have hk := key 0 (by omega)
        obtain ⟨_, _, _, _, _, g2, _⟩ := hk
        have hlen : css.flatten.length = 0 := by
          rcases Nat.eq_zero_or_pos css.flatten.length with h' | h'
          · exact h'
          · rw [List.getElem?_eq_getElem h'] at h; cases h
        have hmem : cl 0 ∈ css := List.mem_map.2 ⟨0, List.mem_range.2 (by omega), rfl⟩
        have : (cl 0).length ≤ css.flatten.length := by
          obtain ⟨l1, l2, e⟩ := List.append_of_mem hmem
          rw [e]; simp; omega
        omega
      obtain ⟨v0, hv0⟩ := Option.ne_none_iff_exists'.1 h00
      obtain ⟨hc0', _⟩ := hcell 0 v0 hv0
      obtain ⟨arr, el, fr, harr⟩ : ∃ arr el fr, w.heap[ab]? = some (.cells arr el fr) := by
        unfold World.cell? at hc0'
        split at hc0'
        · rename_i arr el fr hh; exact ⟨arr, el, fr, hh⟩
        · cases hc0'
      have hlt : ab < w.heap.size := (Array.getElem?_eq_some_iff.1 harr).1
      refine ⟨A.push (some ⟨css.flatten, e, 1, false⟩), upd ι A.next (some (ab, ao, 0)), [.slice (some ⟨A.next, 0, some 0⟩) len cap], ⟨by simp, fun b x hb => by rw [AH.get_push_old _ _ (AH.lt_of_get hb)]; exact hb, sub_upd hfree, ?_, ?_⟩, ?_, ?_, rfl⟩
      · refine ⟨fun b x cb co ex hG hi => ?_, fun b b' x x' cb co ex cb' co' ex' hne hG hG' ho hi hi' => ?_, fun b y hb => ?_⟩
        · rw [AH.get_push] at hG
          split at hG
          · rename_i e; subst e
            cases hG
            rw [upd_same] at hi; cases hi
            refine ⟨arr, el, fr, harr, fun j v hj => ?_, fun h => by cases h⟩
            obtain ⟨h1, h2⟩ := hcell j v hj
            refine ⟨v, ?_, .scal h2⟩
            simpa [World.cell?, harr] using h1
          · rename_i hne
            rw [upd_other _ _ hne] at hi
            exact (hS.blk b x cb co ex hG hi).mono (sub_upd hfree) rfl
        · rw [AH.get_push] at hG
          split at hG
          · cases hG; cases ho
          · have := hro b x hG; rw [this] at ho; cases ho
        · by_cases e : b = A.next
          · subst e; simp
          · rw [upd_other _ _ e] at hb
            have := hS.dom b y hb
            simp; omega
      · intro b x hb
        rw [AH.get_push] at hb
        split at hb
        · cases hb; rfl
        · exact hro b x hb
      · have := VR.slT (ι := upd ι A.next (some (ab, ao, 0))) (o := 0) (l := len) (c := cap) (upd_same _ _ _)
        exact .cons this .nil
      · unfold AData
        simp only [hu]
        refine .inr ⟨A.next, len, cap, elems.map (·.1), rest.map (·.1), css, rfl, rfl, by simp [hel], by simp; omega, hcap, .inr ⟨_, AH.get_push_new _ _, rfl, rfl⟩, ?_⟩
        refine AllD.of_get (by simp [css]) (by simp; omega) fun i t' c d' ht hc hd => ?_
        have hi : i < cap := by
          rw [List.getElem?_replicate] at ht
          split at ht
          · assumption
          · cases ht
        rw [List.getElem?_replicate, if_pos hi] at ht
        cases ht
        obtain ⟨d2, q, g1, _, g2, g3, _⟩ := key i hi
        have hc' : c = cl i := by
          simp only [css, List.getElem?_map, Option.map_eq_some_iff] at hc
          obtain ⟨j, hj, rfl⟩ := hc
          obtain ⟨_, h4⟩ := List.getElem?_eq_some_iff.1 hj
          simp at h4
          rw [h4]
        have hd' : d' = d2 := by
          rw [← List.map_append, List.getElem?_map, g1] at hd
          simpa using hd.symm
        subst hc' hd'
        exact ⟨AData.mono (fun b x hb => by rw [AH.get_push_old _ _ (AH.lt_of_get hb)]; exact hb) n _ _ _ g2, g3⟩

/-- One after the other. -/
theorem lift_many {n : Nat} (one : ∀ (A : AH) (ι : Ren) (fuel : Nat) (t : TypeId) (cs : List Value) (d : DataW H) (ps : List MemPlace), Sim A.next ι A.get w → (∀ b x, A.get b = some x → x.own = false) → okT P n t = true → (∀ a l c, Value.slice (some a) l c ∈ cs → a.spot = none) →
      DataW.trod enc P w 0 (fun _ => true) true fuel t cs = some (d, ps) → ∃ A' ι' acs, Lift w A ι A' ι' ∧ VRs ι' acs cs ∧ AData P A'.get n t acs d ∧ acs.length = P.cellsOf t) (fuel : Nat) :
    ∀ (its : List (TypeId × List Value × DataW H × List MemPlace)) (A : AH) (ι : Ren), Sim A.next ι A.get w → (∀ b x, A.get b = some x → x.own = false) →
      (∀ q ∈ its, okT P n q.1 = true ∧ (∀ a l c, Value.slice (some a) l c ∈ q.2.1 → a.spot = none) ∧ DataW.trod enc P w 0 (fun _ => true) true fuel q.1 q.2.1 = some q.2.2) →
      ∃ A' ι' acss, Lift w A ι A' ι' ∧ VRs ι' acss.flatten (its.map (·.2.1)).flatten ∧ AllD (AData P A'.get n) P.cellsOf (its.map (·.1)) acss (its.map (·.2.2.1))
  | [], A, ι, hS, hro, _ => ⟨A, ι, [], ⟨Nat.le_refl _, fun _ _ h => h, fun _ _ h => h, hS, hro⟩, .nil, trivial⟩
  | q :: its, A, ι, hS, hro, h => by
    obtain ⟨h1, h2, h3⟩ := h q (by simp)
    obtain ⟨t, cs, d, ps⟩ := q
    obtain ⟨A1, ι1, acs, l1, v1, a1, e1⟩ := one A ι fuel t cs d ps hS hro h1 h2 h3
    obtain ⟨A2, ι2, acss, l2, v2, a2⟩ := lift_many one fuel its A1 ι1 l1.sim l1.ro fun q hq => h q (by simp [hq])
    refine ⟨A2, ι2, acs :: acss, l1.trans l2, ?_, ⟨AData.mono l2.get n _ _ _ a1, e1⟩, a2⟩
    simp only [List.flatten_cons, List.map_cons]
    exact (v1.mono l2.sub).append v2

theorem lift_one : ∀ (n : Nat) (A : AH) (ι : Ren) (fuel : Nat) (t : TypeId) (cs : List Value) (d : DataW H) (ps : List MemPlace), Sim A.next ι A.get w → (∀ b x, A.get b = some x → x.own = false) → okT P n t = true → (∀ a l c, Value.slice (some a) l c ∈ cs → a.spot = none) →
      DataW.trod enc P w 0 (fun _ => true) true fuel t cs = some (d, ps) → ∃ A' ι' acs, Lift w A ι A' ι' ∧ VRs ι' acs cs ∧ AData P A'.get n t acs d ∧ acs.length = P.cellsOf t
  | 0, _, _, _, _, _, _, _, _, _, h, _, _ => by simp [okT] at h
  | n + 1, A, ι, fuel, t, cs, d, ps, hS, hro, hok, hsp, h => by
    have triv : Lift w A ι A ι := ⟨Nat.le_refl _, fun _ _ h => h, fun _ _ h => h, hS, hro⟩
    unfold okT at hok
    split at hok
    · rename_i hu
      obtain ⟨b, rfl, e⟩ := DataW.trod_bool hu h
      cases e
      refine ⟨A, ι, [.bool b], triv, .cons (.scal rfl) .nil, ?_, by simpa using (beq_iff_eq.1 hok).symm⟩
      unfold AData; simp only [hu]; exact ⟨b, rfl, rfl⟩
    · rename_i k hu
      obtain ⟨b, rfl, e, hw⟩ := DataW.trod_int hu h
      cases e
      refine ⟨A, ι, [.int k b], triv, .cons (.scal rfl) .nil, ?_, by simpa using (beq_iff_eq.1 hok).symm⟩
      unfold AData; simp only [hu]; exact ⟨b, rfl, rfl, hw⟩
    · rename_i hu
      obtain ⟨b, rfl, e, hw⟩ := DataW.trod_string hu h
      cases e
      refine ⟨A, ι, [.string b], triv, .cons (.scal rfl) .nil, ?_, by simpa using (beq_iff_eq.1 hok).symm⟩
      unfold AData; simp only [hu]; exact ⟨b, rfl, rfl, hw⟩
    · rename_i e hu
      simp only [Bool.and_eq_true, bne_iff_ne, beq_iff_eq] at hok
      obtain ⟨⟨hc, he0⟩, hfe⟩ := hok
      obtain ⟨A', ι', acs, g1, g2, g3, g4⟩ := lift_slice hS hro (n := n) hu he0 hfe hsp h
      exact ⟨A', ι', acs, g1, g2, g3, by rw [g4, hc]⟩
    · rename_i fs hu
      simp only [Bool.and_eq_true, beq_iff_eq] at hok
      obtain ⟨hcon, hall⟩ := hok
      obtain ⟨xs, m, rfl, e, hl, hxl, hget⟩ := DataW.trod_struct hu h
      cases e
      let its : List (TypeId × List Value × DataW H × List MemPlace) := (fs.toList.zip xs).map fun q => (q.1.type, (cs.drop q.1.offset).take (P.cellsOf q.1.type), q.2)
      obtain ⟨A', ι', acss, g1, g2, g3⟩ := lift_many (lift_one n) m its A ι hS hro (fun q hq => by
        obtain ⟨⟨f, x⟩, hz, rfl⟩ := List.mem_map.1 hq
        obtain ⟨i, hi⟩ := List.mem_iff_getElem?.1 hz
        obtain ⟨h1, h2⟩ := List.getElem?_zip_eq_some.1 hi
        refine ⟨List.all_eq_true.1 hall f (List.mem_of_getElem? h1), fun a l c hm => hsp a l c (List.mem_of_mem_drop (List.mem_of_mem_take hm)), ?_⟩
        rw [← h2]
        exact hget i f (by simpa using h1))
      have hlz : fs.toList.length = xs.length := by simp [hxl]
      have e1 : its.map (·.1) = fs.toList.map (·.type) := by
        simp only [its, List.map_map]
        rw [← List.map_fst_zip (l₁ := fs.toList) (l₂ := xs) (by omega), List.map_map]; simp [Function.comp_def, List.map_fst_zip, hlz]
      have e2 : its.map (·.2.1) = fs.toList.map fun f => (cs.drop f.offset).take (P.cellsOf f.type) := by
        have : its.map (·.2.1) = ((fs.toList.zip xs).map (·.1)).map fun f => (cs.drop f.offset).take (P.cellsOf f.type) := by simp [its, List.map_map, Function.comp_def]
        rw [this, List.map_fst_zip (by omega)]
      have e3 : its.map (·.2.2.1) = xs.map (·.1) := by
        have : its.map (·.2.2.1) = ((fs.toList.zip xs).map (·.2)).map (·.1) := by simp [its, List.map_map, Function.comp_def]
        rw [this, List.map_snd_zip (by omega)]
      rw [e2, contig_cells hcon hl] at g2
      rw [e1, e3] at g3
      refine ⟨A', ι', acss.flatten, g1, g2, ?_, ?_⟩
      · unfold AData; simp only [hu]; exact ⟨acss, _, rfl, rfl, g3⟩
      · rw [g2.length, hl]
    · rename_i k e hu
      simp only [Bool.and_eq_true, beq_iff_eq] at hok
      obtain ⟨hsz, hfe⟩ := hok
      obtain ⟨xs, m, rfl, eq, hl, hxl, hget⟩ := DataW.trod_array hu h
      cases eq
      let its : List (TypeId × List Value × DataW H × List MemPlace) := ((List.range k).zip xs).map fun q => (e, (cs.drop (q.1 * P.cellsOf e)).take (P.cellsOf e), q.2)
      obtain ⟨A', ι', acss, g1, g2, g3⟩ := lift_many (lift_one n) m its A ι hS hro (fun q hq => by
        obtain ⟨⟨j, x⟩, hz, rfl⟩ := List.mem_map.1 hq
        obtain ⟨i, hi⟩ := List.mem_iff_getElem?.1 hz
        obtain ⟨h1, h2⟩ := List.getElem?_zip_eq_some.1 hi
        obtain ⟨h3, h4⟩ := List.getElem?_eq_some_iff.1 h1
        simp at h3 h4
        subst h4
        refine ⟨hfe, fun a l c hm => hsp a l c (List.mem_of_mem_drop (List.mem_of_mem_take hm)), ?_⟩
        rw [← h2]
        exact hget i h3)
      have hlz : (List.range k).length = xs.length := by simp [hxl]
      have e1 : its.map (·.1) = List.replicate k e := by
        have : its.map (·.1) = ((List.range k).zip xs).map fun _ => e := by simp [its, List.map_map, Function.comp_def]
        rw [this, List.map_const']; simp [hxl]
      have e2 : its.map (·.2.1) = (List.range k).map fun i => (cs.drop (i * P.cellsOf e)).take (P.cellsOf e) := by
        have : its.map (·.2.1) = (((List.range k).zip xs).map (·.1)).map fun i => (cs.drop (i * P.cellsOf e)).take (P.cellsOf e) := by simp [its, List.map_map, Function.comp_def]
        rw [this, List.map_fst_zip (by omega)]
      have e3 : its.map (·.2.2.1) = xs.map (·.1) := by
        have : its.map (·.2.2.1) = (((List.range k).zip xs).map (·.2)).map (·.1) := by simp [its, List.map_map, Function.comp_def]
        rw [this, List.map_snd_zip (by omega)]
      rw [e2, array_cells k _ (by rw [hl, hsz])] at g2
      rw [e1, e3] at g3
      refine ⟨A', ι', acss.flatten, g1, g2, ?_, ?_⟩
      · unfold AData; simp only [hu]; exact ⟨acss, _, rfl, rfl, g3⟩
      · rw [g2.length, hl]
    · cases hok

/-! ### Arguments -/
def AVal (P : Program) (G : Nat → Option ABlk) (n : Nat) (t : TypeId) (v : Value) (d : DataW H) : Prop :=
  match P.underlying t with
  | some (.struct _) | some (.array _ _) => ∃ cs, v = .agg ⟨cs⟩ ∧ AData P G n t cs d
  | _ => AData P G n t [v] d
theorem AVal.mono {G G' : Nat → Option ABlk} (hG : ∀ b x, G b = some x → G' b = some x) {n : Nat} {t : TypeId} {v : Value} {d : DataW H} (h : AVal P G n t v d) : AVal P G' n t v d := by
  unfold AVal at h ⊢
  split at h
  · obtain ⟨cs, h1, h2⟩ := h; exact ⟨cs, h1, h2.mono hG⟩
  · obtain ⟨cs, h1, h2⟩ := h; exact ⟨cs, h1, h2.mono hG⟩
  · exact AData.mono hG _ _ _ _ h
def AArgs (P : Program) (G : Nat → Option ABlk) (n : Nat) : List TypeId → List Value → List (DataW H) → Prop
  | [], [], [] => True
  | t :: ts, v :: vs, d :: ds => AVal P G n t v d ∧ AArgs P G n ts vs ds
  | _, _, _ => False

theorem spot_of_ok {base : Nat} {t : TypeId} {v : Value} (h : Value.okWide P w .any base t v) : ∀ a l c, Value.slice (some a) l c ∈ v.cells.toList → a.spot = none := by
  have cell : ∀ t v a l c, Cell.okWide P w .any base t v → v = .slice (some a) l c → a.spot = none := fun t v a l c h e => by
    subst e
    unfold Cell.okWide at h
    split at h <;> try (rename_i he; cases he; done)
    all_goals first
      | (rename_i h1 h2; cases h2; done)
      | skip
    unfold Cell.ok at h
    split at h <;> first
      | exact h.elim
      | (rename_i he; cases he; done)
      | (rename_i h1 h2; cases h2; done)
      | (rename_i h1 h2; cases h2; exact h.2.2.2.1)
  intro a l c hm
  unfold Value.okWide at h
  split at h
  · obtain ⟨cs, rfl, _, ts, _, _, hc⟩ := h
    obtain ⟨i, hi⟩ := List.mem_iff_getElem?.1 hm
    obtain ⟨u, _, hu⟩ := hc i _ (by simpa [Value.cells] using hi)
    exact cell u _ a l c hu rfl
  · obtain ⟨cs, rfl, _, ts, _, _, hc⟩ := h
    obtain ⟨i, hi⟩ := List.mem_iff_getElem?.1 hm
    obtain ⟨u, _, hu⟩ := hc i _ (by simpa [Value.cells] using hi)
    exact cell u _ a l c hu rfl
  · have hv : v.cells.toList = [v] := by
      cases v with
      | agg cs => unfold Cell.okWide at h; split at h <;> try (rename_i h1 h2; cases h2; done)
                  unfold Cell.ok at h; split at h <;> first | exact h.elim | (rename_i h1 h2; cases h2; done)
      | _ => rfl
    rw [hv] at hm
    simp at hm
    exact cell t v a l c h hm.symm

theorem lift_args {n base : Nat} : ∀ (ts : List TypeId) (vs : List Value) (ds : List (DataW H)) (ps : List MemPlace) (A : AH) (ι : Ren), Sim A.next ι A.get w → (∀ b x, A.get b = some x → x.own = false) →
    (∀ t ∈ ts, okT P n t = true) → (∀ (j : Nat) t v, ts[j]? = some t → vs[j]? = some v → Value.okWide P w .any base t v) → DataW.TrodAll enc P w 0 (fun _ => true) true ts vs ds ps →
    ∃ A' ι' avs, Lift w A ι A' ι' ∧ VRs ι' avs vs ∧ AArgs P A'.get n ts avs ds
  | [], [], [], _, A, ι, hS, hro, _, _, _ => ⟨A, ι, [], ⟨Nat.le_refl _, fun _ _ h => h, fun _ _ h => h, hS, hro⟩, .nil, trivial⟩
  | [], [], _ :: _, _, _, _, _, _, _, _, h => h.elim
  | [], _ :: _, _, _, _, _, _, _, _, _, h => h.elim
  | _ :: _, [], _, _, _, _, _, _, _, _, h => h.elim
  | _ :: _, _ :: _, [], _, _, _, _, _, _, _, h => h.elim
  | t :: ts, v :: vs, d :: ds, ps, A, ι, hS, hro, hok, hval, h => by
    obtain ⟨p, q, ⟨fuel, h1⟩, h2, _⟩ := h
    have hv := hval 0 t v rfl rfl
    obtain ⟨A1, ι1, acs, l1, v1, a1, e1⟩ := lift_one n A ι fuel t v.cells.toList d p hS hro (hok t (by simp)) (spot_of_ok hv) h1
    obtain ⟨A2, ι2, avs, l2, v2, a2⟩ := lift_args ts vs ds q A1 ι1 l1.sim l1.ro (fun t ht => hok t (by simp [ht])) (fun j t v ht hv => hval (j + 1) t v (by simpa using ht) (by simpa using hv)) h2
    have hfin : ∃ av, VR ι1 av v ∧ AVal P A1.get n t av d := by
      unfold Value.okWide at hv
      unfold AVal
      split at hv
      · rename_i fs hu
        obtain ⟨cs, rfl, _⟩ := hv
        simp only [hu]
        exact ⟨.agg ⟨acs⟩, .agg (ys := cs.toList) v1, acs, rfl, a1⟩
      · rename_i k e hu
        obtain ⟨cs, rfl, _⟩ := hv
        simp only [hu]
        exact ⟨.agg ⟨acs⟩, .agg (ys := cs.toList) v1, acs, rfl, a1⟩
      · rename_i hn1 hn2
        have hcv : v.cells.toList = [v] := by
          cases v with
          | agg cs => unfold Cell.okWide at hv; split at hv <;> try (rename_i h1 h2; cases h2; done)
                      unfold Cell.ok at hv; split at hv <;> first | exact hv.elim | (rename_i h1 h2; cases h2; done)
          | _ => rfl
        rw [hcv] at v1
        cases v1 with
        | cons hx hr =>
          cases hr
          rename_i av
          refine ⟨av, hx, ?_⟩
          cases hu : P.underlying t with
          | none => exact a1
          | some dd =>
            cases dd <;> first
              | exact a1
              | (exact absurd hu (hn1 _))
              | (exact absurd hu (hn2 _ _))
    obtain ⟨av, hav, hAV⟩ := hfin
    exact ⟨A2, ι2, av :: avs, l1.trans l2, .cons (hav.mono l2.sub) v2, hAV.mono l2.get, a2⟩

/-- FROM A CONTRACT OVER ABSTRACT ARGUMENTS TO THE CALL: the memory that there was is as it was. -/
theorem calls_of_law {n base : Nat} {f : FuncId} {ts : List TypeId} {args : Array Value} {ds : List (DataW H)} {ps : List MemPlace} (hok : ∀ t ∈ ts, okT P n t = true)
    (hval : ∀ (j : Nat) t v, ts[j]? = some t → args[j]? = some v → Value.okWide P w .any base t v) (h : DataW.TrodAll enc P w 0 (fun _ => true) true ts args.toList ds ps) {r : Value} (hr : closed r = true)
    (hlaw : ∀ (A : AH) (avs : List Value), AArgs P A.get n ts avs ds → ∃ A', ACalls P f avs A r A') :
    Calls P f args w fun e w' => e = .returned r ∧ RowKit.Below w.heap.size w w' := by
  have hS0 : Sim (⟨0, []⟩ : AH).next (fun _ => none) (⟨0, []⟩ : AH).get w :=
    ⟨fun b x cb co ex hG _ => (by simp [AH.get_def] at hG), fun b b' x x' cb co ex cb' co' ex' _ hG => (by simp [AH.get_def] at hG), fun b y hb => (by cases hb)⟩
  obtain ⟨A, ι, avs, l, hv, ha⟩ := lift_args (enc := enc) ts args.toList ds ps ⟨0, []⟩ (fun _ => none) hS0 (fun b x hG => by simp [AH.get_def] at hG) hok (fun j t v ht hv => hval j t v ht (by simpa using hv)) h
  obtain ⟨A', hc⟩ := hlaw A avs ha
  refine (hc.run ι w args l.sim hv).mono fun e w' ⟨ι', v', he, hr', hS', hE⟩ => ?_
  refine ⟨by rw [he, hr'.closed_eq hr], hE.os, hE.tape, hE.output, hE.size, fun k hk => hE.same k hk ?_⟩
  rintro ⟨b, x, co, ex, hG, ho, _⟩
  rw [l.ro b x hG] at ho; cases ho
end
end
end Go.Am
