/- Slices of slices that are written: a piece with all its rows; a row may be taken out and laid back. -/
import Derived.Test.YtlmgdnhnpkgheaaDoorBxF
namespace Go.Am
open Go
noncomputable section
set_option linter.unusedSimpArgs false
set_option linter.unusedVariables false

def rowFoot (ws : List Value) (hs : List Nat) : List Nat := ((List.range ws.length).filter fun i => !hs.contains i).flatMap fun i => footV (ws.getD i .nilFunc)
theorem mem_rowFoot {ws : List Value} {hs : List Nat} {b : Nat} : b ∈ rowFoot ws hs ↔ ∃ i w, i ∉ hs ∧ ws[i]? = some w ∧ b ∈ footV w := by
  unfold rowFoot
  simp only [List.mem_flatMap, List.mem_filter, List.mem_range]
  constructor
  · rintro ⟨i, ⟨h1, h2⟩, h3⟩
    refine ⟨i, ws[i], by simpa using h2, List.getElem?_eq_getElem h1, ?_⟩
    simpa [List.getD_eq_getElem?_getD, h1] using h3
  · rintro ⟨i, w, h1, h2, h3⟩
    have hl := (List.getElem?_eq_some_iff.1 h2).1
    exact ⟨i, ⟨hl, by simpa using h1⟩, by simpa [List.getD_eq_getElem?_getD, h2] using h3⟩
structure RowsOk {α : Type} (v : Value) (e : TypeId) (ws : List Value) (hs : List Nat) (e2 : TypeId) (r : RT α) (xss : List (List α)) (G M : GM) : Prop where
  out : SlO e 1 M v (ws.map fun w => [w])
  one : ∀ w ∈ ws, okCells [w] = true
  len : ws.length = xss.length
  row : ∀ i w, i ∉ hs → ws[i]? = some w → ∃ es xs, xss[i]? = some xs ∧ SlO e2 r.sz M w es ∧ All2 (r.rep G) es xs
  dis : ∀ i j w u, i ≠ j → i ∉ hs → j ∉ hs → ws[i]? = some w → ws[j]? = some u → ∀ b ∈ footV w, b ∉ footV u
  off : ∀ i w, i ∉ hs → ws[i]? = some w → ∀ b ∈ footV w, b ∉ footV v
theorem SlO.loc {e : TypeId} {sz : Nat} {M M' : GM} {v : Value} {es : List (List Value)} (hl : ∀ b ∈ footV v, M' b = M b) (h : SlO e sz M v es) : SlO e sz M' v es := by
  rcases h with h1 | ⟨b, tg, cap, rest, sz', rfl, hb, h⟩
  · exact .inl h1
  · exact .inr ⟨b, tg, cap, rest, sz', rfl, by rw [hl b (by simp [footV]), hb], h⟩
theorem SlO.bnd {e : TypeId} {sz : Nat} {M : GM} {v : Value} {es : List (List Value)} (h : SlO e sz M v es) : ∀ b ∈ footV v, ∃ k, M b = some k := fun c hc => by
  rcases h with ⟨rfl, _⟩ | ⟨b, tg, cap, rest, sz', rfl, hb, h⟩
  · simp [footV] at hc
  · simp [footV] at hc; subst hc; exact ⟨_, hb⟩
def eRows {α : Type} (v : Value) (e : TypeId) (ws : List Value) (hs : List Nat) (e2 : TypeId) (r : RT α) (xss : List (List α)) : Pc :=
  ⟨footV v ++ rowFoot ws hs, RowsOk v e ws hs e2 r xss,
    fun hG h => ⟨h.out, h.one, h.len, fun i w hi hw => by obtain ⟨es, xs, h1, h2, h3⟩ := h.row i w hi hw; exact ⟨es, xs, h1, h2, h3.mono fun _ _ => r.mono hG⟩, h.dis, h.off⟩,
    fun hl h => ⟨h.out.loc fun b hb => hl b (List.mem_append_left _ hb), h.one, h.len, fun i w hi hw => by
      obtain ⟨es, xs, h1, h2, h3⟩ := h.row i w hi hw
      exact ⟨es, xs, h1, h2.loc fun b hb => hl b (List.mem_append_right _ (mem_rowFoot.2 ⟨i, w, hi, hw, hb⟩)), h3⟩, h.dis, h.off⟩,
    fun h b hb => by
      rcases List.mem_append.1 hb with hb | hb
      · exact h.out.bnd b hb
      · obtain ⟨i, w, hi, hw, hb⟩ := mem_rowFoot.1 hb
        obtain ⟨es, xs, h1, h2, h3⟩ := h.row i w hi hw
        exact h2.bnd b hb⟩

section
variable {α : Type} {r : RT α} {G : GM} {H H1 : AH} {L : List Pc} {v w w' u : Value} {e e2 : TypeId} {ws : List Value} {hs : List Nat} {xss : List (List α)} {xs : List α} {i j k : Nat}
theorem Ow.rowsOk (O : Ow G H L) (hj : L[j]? = some (eRows v e ws hs e2 r xss)) : RowsOk v e ws hs e2 r xss G H.get := O.ok j _ hj
theorem Ow.rowsLen (O : Ow G H L) (hj : L[j]? = some (eRows v e ws hs e2 r xss)) : isSlV v xss.length := by
  have h := O.rowsOk hj
  have hl : (ws.map fun w => [w]).length = xss.length := by rw [List.length_map, h.len]
  have := (h.out.slG (sz := 1) (by simp)).isSl
  rw [hl] at this; exact this
theorem Ow.rowVal (O : Ow G H L) (hj : L[j]? = some (eRows v e ws hs e2 r xss)) (hi : xss[i]? = some xs) : ∃ w, ws[i]? = some w ∧ PtG H.get (selem v (i * 1)) [w] ∧ okCells [w] = true := by
  have h := O.rowsOk hj
  have hl : i < ws.length := by rw [h.len]; exact (List.getElem?_eq_some_iff.1 hi).1
  refine ⟨ws[i], List.getElem?_eq_getElem hl, (h.out.slG (sz := 1) (by simp)).idx (by simp [hl]), h.one _ (List.getElem_mem hl)⟩
theorem set_at {l : List Value} {i : Nat} {a b : Value} (h : l[i]? = some a) : (l.set i b)[i]? = some b := by
  have := (List.getElem?_eq_some_iff.1 h).1
  simp [this]
theorem Ow.footRows (O : Ow G H L) (hj : L[j]? = some (eRows v e ws hs e2 r xss)) (hi : xss[i]? = some xs) {k : Nat} : blkOf (selem v k) ∈ (eRows v e ws hs e2 r xss).foot := by
  have h := O.rowsOk hj
  have hl := (List.getElem?_eq_some_iff.1 hi).1
  refine List.mem_append_left _ ?_
  rcases h.out with ⟨rfl, hn⟩ | ⟨b, tg, cap, rest, sz', rfl, _⟩
  · simp at hn; have := h.len; rw [hn] at this; simp at this; omega
  · simp [selem, blkOf, footV]
/-- A row is taken out. -/
theorem Ow.takeRow (O : Ow G H L) (hj : L[j]? = some (eRows v e ws hs e2 r xss)) (hw : ws[i]? = some w) (hi : xss[i]? = some xs) (hh : i ∉ hs) : Ow G H (eSl w e2 r xs :: L.set j (eRows v e ws (i :: hs) e2 r xss)) := by
  have h := O.rowsOk hj
  have hjl : j < L.length := (List.getElem?_eq_some_iff.1 hj).1
  have hfr : ∀ b, b ∈ footV w → b ∈ (eRows v e ws hs e2 r xss).foot := fun b hb => List.mem_append_right _ (mem_rowFoot.2 ⟨i, w, hh, hw, hb⟩)
  have hsub : ∀ b, b ∈ (eRows v e ws (i :: hs) e2 r xss).foot → b ∈ (eRows v e ws hs e2 r xss).foot ∧ b ∉ footV w := fun b hb => by
    rcases List.mem_append.1 hb with hb | hb
    · exact ⟨List.mem_append_left _ hb, fun hc => h.off i w hh hw b hc hb⟩
    · obtain ⟨m, u, hm, hu, hb⟩ := mem_rowFoot.1 hb
      simp only [List.mem_cons, not_or] at hm
      exact ⟨List.mem_append_right _ (mem_rowFoot.2 ⟨m, u, hm.2, hu, hb⟩), fun hc => h.dis m i u w hm.1 hm.2 hh hu hw b hb hc⟩
  have hset : ∀ (m : Nat) (x : Pc), (L.set j (eRows v e ws (i :: hs) e2 r xss))[m]? = some x → (m = j ∧ x = eRows v e ws (i :: hs) e2 r xss) ∨ (m ≠ j ∧ L[m]? = some x) := fun m x hx => by
    rw [List.getElem?_set] at hx
    by_cases hm : j = m
    · subst hm; simp [hjl] at hx; exact .inl ⟨rfl, hx.symm⟩
    · rw [if_neg hm] at hx; exact .inr ⟨fun e => hm e.symm, hx⟩
  refine ⟨O.fro, fun m x hx => ?_, fun m m' x x' hmm hx hx' b hb => ?_, fun m x hx b hb => ?_⟩
  · cases m with
    | zero =>
      simp at hx; subst hx
      obtain ⟨es, xs', h1, h2, h3⟩ := h.row i w hh hw
      rw [hi] at h1; cases h1
      exact ⟨es, h2, h3⟩
    | succ m =>
      simp only [List.getElem?_cons_succ] at hx
      rcases hset m x hx with ⟨rfl, rfl⟩ | ⟨_, hx⟩
      · exact ⟨h.out, h.one, h.len, fun m u hm hu => h.row m u (fun hc => hm (List.mem_cons_of_mem _ hc)) hu, fun a c w u hac ha hc => h.dis a c w u hac (fun hq => ha (List.mem_cons_of_mem _ hq)) (fun hq => hc (List.mem_cons_of_mem _ hq)), fun m u hm => h.off m u fun hc => hm (List.mem_cons_of_mem _ hc)⟩
      · exact O.ok m x hx
  · cases m with
    | zero =>
      simp at hx; subst hx
      cases m' with
      | zero => exact absurd rfl hmm
      | succ m' =>
        simp only [List.getElem?_cons_succ] at hx'
        rcases hset m' x' hx' with ⟨rfl, rfl⟩ | ⟨hm, hx'⟩
        · exact fun hc => (hsub b hc).2 hb
        · exact fun hc => O.dis j m' _ x' (fun e => hm e.symm) hj hx' b (hfr b hb) hc
    | succ m =>
      simp only [List.getElem?_cons_succ] at hx
      cases m' with
      | zero =>
        simp at hx'; subst hx'
        intro hc
        rcases hset m x hx with ⟨rfl, rfl⟩ | ⟨hm, hx2⟩
        · exact (hsub b hb).2 hc
        · exact O.dis m j x _ hm hx2 hj b hb (hfr b hc)
      | succ m' =>
        simp only [List.getElem?_cons_succ] at hx'
        rcases hset m x hx with ⟨rfl, rfl⟩ | ⟨hm, hx2⟩
        · rcases hset m' x' hx' with ⟨rfl, rfl⟩ | ⟨hm', hx'⟩
          · exact absurd rfl hmm
          · exact O.dis _ m' _ x' (fun e => hm' e.symm) hj hx' b (hsub b hb).1
        · rcases hset m' x' hx' with ⟨rfl, rfl⟩ | ⟨hm', hx3⟩
          · exact fun hc => O.dis m _ x _ hm hx2 hj b hb (hsub b hc).1
          · exact O.dis m m' x x' (by omega) hx2 hx3 b hb
  · cases m with
    | zero => simp at hx; subst hx; exact O.apart j _ hj b (hfr b hb)
    | succ m =>
      simp only [List.getElem?_cons_succ] at hx
      rcases hset m x hx with ⟨rfl, rfl⟩ | ⟨_, hx⟩
      · exact O.apart _ _ hj b (hsub b hb).1
      · exact O.apart m x hx b hb
/-- A row that lies in the hole is laid back. -/
theorem Ow.putRow (O : Ow G H (eSl w e2 r xs :: L)) (hj : L[j]? = some (eRows v e ws [i] e2 r xss)) (hw : ws[i]? = some w) : Ow G H (L.set j (eRows v e ws [] e2 r (xss.set i xs))) := by
  have hj1 : (eSl w e2 r xs :: L)[j + 1]? = some (eRows v e ws [i] e2 r xss) := by simpa using hj
  have h : RowsOk v e ws [i] e2 r xss G H.get := O.ok (j + 1) _ hj1
  have hjl : j < L.length := (List.getElem?_eq_some_iff.1 hj).1
  obtain ⟨es, h4, h5⟩ := O.ok 0 _ rfl
  have hil : i < xss.length := by rw [← h.len]; exact (List.getElem?_eq_some_iff.1 hw).1
  have hdw : ∀ b ∈ footV w, b ∉ (eRows v e ws [i] e2 r xss).foot := O.dis 0 (j + 1) _ _ (by omega) rfl hj1
  have hfoot : ∀ b, b ∈ (eRows v e ws [] e2 r (xss.set i xs)).foot → b ∈ (eRows v e ws [i] e2 r xss).foot ∨ b ∈ footV w := fun b hb => by
    rcases List.mem_append.1 hb with hb | hb
    · exact .inl (List.mem_append_left _ hb)
    · obtain ⟨m, u, hm, hu, hb⟩ := mem_rowFoot.1 hb
      by_cases hmi : m = i
      · subst hmi; rw [hw] at hu; cases hu; exact .inr hb
      · exact .inl (List.mem_append_right _ (mem_rowFoot.2 ⟨m, u, by simpa using hmi, hu, hb⟩))
  have hset : ∀ (m : Nat) (x : Pc), (L.set j (eRows v e ws [] e2 r (xss.set i xs)))[m]? = some x → (m = j ∧ x = eRows v e ws [] e2 r (xss.set i xs)) ∨ (m ≠ j ∧ L[m]? = some x) := fun m x hx => by
    rw [List.getElem?_set] at hx
    by_cases hm : j = m
    · subst hm; simp [hjl] at hx; exact .inl ⟨rfl, hx.symm⟩
    · rw [if_neg hm] at hx; exact .inr ⟨fun e => hm e.symm, hx⟩
  have hother : ∀ m x, m ≠ j → L[m]? = some x → ∀ b ∈ x.foot, b ∉ (eRows v e ws [i] e2 r xss).foot ∧ b ∉ footV w := fun m x hm hx b hb =>
    ⟨O.dis (m + 1) (j + 1) x _ (by omega) (by simpa using hx) hj1 b hb, fun hc => O.dis 0 (m + 1) _ x (by omega) rfl (by simpa using hx) b hc hb⟩
  refine ⟨O.fro, fun m x hx => ?_, fun m m' x x' hmm hx hx' b hb hc => ?_, fun m x hx b hb => ?_⟩
  · rcases hset m x hx with ⟨rfl, rfl⟩ | ⟨_, hx⟩
    · refine ⟨h.out, h.one, by simpa using h.len, fun m u _ hu => ?_, fun a c w1 u1 hac _ _ hw1 hu1 b hb hc => ?_, fun m u _ hu b hb hc => ?_⟩
      · by_cases hmi : m = i
        · subst hmi; rw [hw] at hu; cases hu
          exact ⟨es, xs, by simp [hil], h4, h5⟩
        · obtain ⟨es', xs', k1, k2⟩ := h.row m u (by simpa using hmi) hu
          exact ⟨es', xs', by rw [List.getElem?_set, if_neg (fun e => hmi e.symm)]; exact k1, k2⟩
      · by_cases ha : a = i
        · subst ha; rw [hw] at hw1; cases hw1
          exact hdw b hb (List.mem_append_right _ (mem_rowFoot.2 ⟨c, u1, by simpa using fun e : c = a => hac e.symm, hu1, hc⟩))
        · by_cases hci : c = i
          · subst hci; rw [hw] at hu1; cases hu1
            exact hdw b hc (List.mem_append_right _ (mem_rowFoot.2 ⟨a, w1, by simpa using ha, hw1, hb⟩))
          · exact h.dis a c w1 u1 hac (by simpa using ha) (by simpa using hci) hw1 hu1 b hb hc
      · by_cases hmi : m = i
        · subst hmi; rw [hw] at hu; cases hu
          exact hdw b hb (List.mem_append_left _ hc)
        · exact h.off m u (by simpa using hmi) hu b hb hc
    · exact O.ok (m + 1) x (by simpa using hx)
  · rcases hset m x hx with ⟨rfl, rfl⟩ | ⟨hm, hx2⟩
    · rcases hset m' x' hx' with ⟨rfl, rfl⟩ | ⟨hm', hx'⟩
      · exact absurd rfl hmm
      · obtain ⟨k1, k2⟩ := hother m' x' hm' hx' b hc
        rcases hfoot b hb with h | h
        · exact k1 h
        · exact k2 h
    · rcases hset m' x' hx' with ⟨rfl, rfl⟩ | ⟨hm', hx3⟩
      · obtain ⟨k1, k2⟩ := hother m x hm hx2 b hb
        rcases hfoot b hc with h | h
        · exact k1 h
        · exact k2 h
      · exact O.dis (m + 1) (m' + 1) x x' (by omega) (by simpa using hx2) (by simpa using hx3) b hb hc
  · rcases hset m x hx with ⟨rfl, rfl⟩ | ⟨_, hx⟩
    · rcases hfoot b hb with h | h
      · exact O.apart _ _ hj1 b h
      · exact O.apart 0 _ rfl b h
    · exact O.apart (m + 1) x (by simpa using hx) b hb
theorem Ow.putRow0 (O : Ow G H (eSl w e2 r xs :: L)) (hj : L[j]? = some (eRows v e ws [i] e2 r xss)) (hw : ws[i]? = some w) (hi : xss[i]? = some xs) : Ow G H (L.set j (eRows v e ws [] e2 r xss)) := by
  have := O.putRow hj hw
  have hl := (List.getElem?_eq_some_iff.1 hi).1
  have he : xss.set i xs = xss := by
    apply List.ext_getElem?
    intro m
    rw [List.getElem?_set]
    by_cases hm : i = m
    · subst hm; simp [hl, hi.symm]
    · rw [if_neg hm]
  rw [he] at this; exact this
theorem Ow.frzRows (O : Ow G H L) (hj : L[j]? = some (eRows v e ws [] e2 r xss)) : ∃ G', Ow G' H (L.eraseIdx j) ∧ G.le G' ∧ (rSl (rSl r)).rep G' [v] xss := by
  obtain ⟨G', h1, h2, h3⟩ := O.freeze hj
  have h := O.rowsOk hj
  refine ⟨G', h1, h2, v, ws.map fun w => [w], rfl, ?_, ?_⟩
  · exact (h.out.loc fun b hb => h3 b (List.mem_append_left _ hb)).slG (by simp [rSl])
  · have key : ∀ (ws : List Value) (xss : List (List α)), ws.length = xss.length → (∀ (i : Nat) (w : Value), ws[i]? = some w → ∃ xs, xss[i]? = some xs ∧ (rSl r).rep G' [w] xs) → All2 ((rSl r).rep G') (ws.map fun w => [w]) xss := by
      intro ws
      induction ws with
      | nil => intro xss hl _; cases xss with
        | nil => exact .nil
        | cons _ _ => simp at hl
      | cons w ws ih => intro xss hl hr; cases xss with
        | nil => simp at hl
        | cons xs xss =>
          obtain ⟨xs', k1, k2⟩ := hr 0 w rfl
          simp at k1; subst k1
          exact .cons k2 (ih xss (by simpa using hl) fun i u hu => by simpa using hr (i + 1) u (by simpa using hu))
    refine key ws xss h.len fun i w hw => ?_
    obtain ⟨es, xs, k1, k2, k3⟩ := h.row i w (by simp) hw
    exact ⟨xs, k1, w, es, rfl, (k2.loc fun b hb => h3 b (List.mem_append_right _ (mem_rowFoot.2 ⟨i, w, by simp, hw, hb⟩))).slG k3.each, k3.mono fun _ _ => r.mono h2⟩
end

section
variable {P : Program} {n : Nat} {σ : Nat → Value} {H H1 : AH} {d : Tmp} {dd : Option Tmp} {ty t e e2 : TypeId} {pos : String} {af : Array Edge} {g : Option (Nat × Bool)} {v u w w' : Value} {x y : Operand}
  {G : GM} {L : List Pc} {j i : Nat} {α : Type} {r : RT α} {ws : List Value} {xss : List (List α)}
theorem Lo.makeRows {a c : Int} {k1 k2 : IntKind} {c1 : Nat} (r : RT α) (e2 : TypeId) (hd : (ook n x && ook n y) = true) (he : elemT P t = some e) (hz : (P.info? e).bind (·.zero) = some (.slice none 0 0)) (hsz : szT P e = some 1)
    (hby : ((P.info? e).map (·.bytes)) = some c1) (hb : c1 ≤ 1048576) (hx : oval σ x = .int k1 a) (hy : oval σ y = .int k2 c) (h : 0 ≤ a ∧ a ≤ c ∧ c ≤ 16777216) (O : Ow G H L) :
    Loud P n ⟨some d, .makeSlice t x y, ty, pos, af, g⟩ σ H fun v H1 => ∃ ws, Ow G H1 (eRows v e ws [] e2 r (List.replicate a.toNat []) :: L) ∧ Same G L H H1 := by
  have hd' := hd
  simp only [Bool.and_eq_true] at hd
  obtain ⟨inf, hi, hsz⟩ := szT_inv hsz
  simp only [hi, Option.bind_some, Option.map_some, Option.some.injEq] at hz hby
  subst hby
  obtain ⟨h0, h1, h2⟩ := h
  have nb := NewB.push H ⟨zcells (Value.slice none 0 0).cells (c.toNat * inf.size), e, 1, true⟩
  refine ⟨.slice (some ⟨H.next, 0, some 0⟩) a.toNat c.toNat, H.push (some ⟨zcells (Value.slice none 0 0).cells (c.toNat * inf.size), e, 1, true⟩), astep_ok ?_, List.replicate a.toNat (.slice none 0 0), O.new nb _ ?_ ?_, O.same nb.ext⟩
  · have hbnd : inf.bytes * c.toNat ≤ 2 ^ 48 := Nat.le_trans (Nat.mul_le_mul hb (show c.toNat ≤ 16777216 by omega)) (by decide)
    have hbnd' : (inf.bytes : Int) * c ≤ 2 ^ 48 := by
      have : ((inf.bytes * c.toNat : Nat) : Int) ≤ ((2 ^ 48 : Nat) : Int) := Int.ofNat_le.2 hbnd
      rw [Int.natCast_mul, Int.toNat_of_nonneg (by omega)] at this
      simpa using this
    have hdec : ((Value.slice none 0 0).cells.all scalar && ((Value.slice none 0 0).cells.size != 0) && decide (0 ≤ a ∧ a ≤ c ∧ c ≤ 2 ^ 47 ∧ (inf.bytes : Int) * c ≤ 2 ^ 48)) = true := by
      have : ((Value.slice none 0 0).cells.all scalar && ((Value.slice none 0 0).cells.size != 0)) = true := by simp [Value.cells, scalar]
      rw [this, Bool.true_and, decide_eq_true_iff]
      exact ⟨h0, h1, by omega, hbnd'⟩
    have hal : aalloc P (toL n σ) ⟨some d, .makeSlice t x y, ty, pos, af, g⟩ = some (⟨zcells (Value.slice none 0 0).cells (c.toNat * inf.size), e, 1, true⟩, .sl a.toNat c.toNat (some 0)) := by
      simp only [aalloc, elemT_inv he, oo hd.1 hx, oo hd.2 hy, hi, hz, Option.bind_some, hdec, if_true]
    simp only [astep, apure, aread, hal, MK.val]
  · have : rowFoot (List.replicate a.toNat (.slice none 0 0)) [] = [] := by
      cases hq : rowFoot (List.replicate a.toNat (.slice none 0 0)) [] with
      | nil => rfl
      | cons b l =>
        have hb : b ∈ rowFoot (List.replicate a.toNat (.slice none 0 0)) [] := by rw [hq]; simp
        obtain ⟨i, w, _, hw, hb⟩ := mem_rowFoot.1 hb
        rw [List.getElem?_replicate] at hw
        split at hw
        · cases hw; simp [footV] at hb
        · cases hw
    show footV _ ++ rowFoot _ _ = _
    rw [this]; rfl
  · rw [hsz] at nb ⊢
    have hzc : zcells (Value.slice none 0 0).cells (c.toNat * 1) = (List.replicate c.toNat [Value.slice none 0 0]).flatten := zcells_mul (z := (Value.slice none 0 0).cells) c.toNat
    rw [hzc] at nb ⊢
    have hw0 : ∀ (i : Nat) (w : Value), (List.replicate a.toNat (Value.slice none 0 0))[i]? = some w → w = .slice none 0 0 ∧ i < a.toNat := fun i w hw => by
      rw [List.getElem?_replicate] at hw
      split at hw
      · cases hw; exact ⟨rfl, by assumption⟩
      · cases hw
    refine ⟨.inr ⟨H.next, some 0, c.toNat, (List.replicate (c.toNat - a.toNat) [Value.slice none 0 0]).flatten, 1, by simp, ?_, ?_, by simp; omega, .inr rfl⟩, fun w hw => ?_, by simp, fun i w _ hw => ?_, fun i j w u _ _ _ hw _ b hb => ?_, fun i w _ hw b hb => ?_⟩
    · rw [nb.get, List.map_replicate, ← List.flatten_append, List.replicate_append_replicate]; congr 5; omega
    · rw [List.map_replicate, ← List.flatten_append, List.replicate_append_replicate, flat_len (sz := 1) (by intro q hq; rw [List.mem_replicate] at hq; rw [hq.2]; rfl)]
      rw [List.length_replicate]; omega
    · rw [List.mem_replicate] at hw; rw [hw.2]; rfl
    · obtain ⟨rfl, hl⟩ := hw0 i w hw
      exact ⟨[], [], by simp [hl], .inl ⟨rfl, rfl⟩, .nil⟩
    · obtain ⟨rfl, hl⟩ := hw0 i w hw; simp [footV] at hb
    · obtain ⟨rfl, hl⟩ := hw0 i w hw; simp [footV] at hb
/-- The value of a row is written into its hole. -/
theorem Lo.storeRow (hj : L[j]? = some (eRows v e ws [i] e2 r xss)) (hi : i < xss.length) (hd : (ook n x && ook n y) = true) (hz : szT P t = some 1) (hx : oval σ x = selem v (i * 1)) (hy : oval σ y = w') (hok : okCells [w'] = true) (hc : w'.cells.toList = [w']) (O : Ow G H L) :
    Loud P n ⟨dd, .store t x y, ty, pos, af, g⟩ σ H fun u H1 => Ow G H1 (L.set j (eRows v e (ws.set i w') [i] e2 r xss)) ∧ (∀ b', b' ∉ footV v → H1.get b' = H.get b') := by
  have h := O.rowsOk hj
  have hil : i < ws.length := by rw [h.len]; exact hi
  have hout := h.out
  rcases hout with ⟨rfl, hn⟩ | ⟨b, tg, cap, rest, sz', rfl, hb, hl, hcap, htg⟩
  · simp at hn; subst hn; simp at hil
  · have hfl : (ws.map fun w => [w]).flatten.length = ws.length := by rw [flat_len (sz := 1) (by simp)]; simp
    have hsz : w'.cells.size = 1 := by have := congrArg List.length hc; simpa using this
    obtain ⟨H1, h3, h4⟩ := store_step (P := P) (dd := dd) (ty := ty) (pos := pos) (af := af) (g := g) (off := 0 + i * 1) hd hz hx hy hb rfl hsz (by rw [hc]; exact hok) (by show _ ≤ ((ws.map fun w => [w]).flatten ++ rest).length; rw [List.length_append, hfl]; omega)
    have hrows : ∀ (m : Nat) (u : Value), m ≠ i → ((ws.set i w')[m]? = some u ↔ ws[m]? = some u) := fun m u hm => by rw [List.getElem?_set, if_neg (fun e => hm e.symm)]
    refine ⟨_, H1, h4, O.put hj _ (fun c hc' => .inl ?_) ⟨?_, ?_, by simpa using h.len, fun m u hm hu => ?_, fun a c w1 u1 hac ha hc' hw1 hu1 => ?_, fun m u hm hu => ?_⟩ (fun c k hk hc' => h3.old hk fun e => hc' (List.mem_append_left _ (by simp [footV, e]))), fun c hc' => h3.other c (by simpa [footV] using hc')⟩
    · rcases List.mem_append.1 hc' with q | q
      · exact List.mem_append_left _ q
      · obtain ⟨m, u, hm, hu, q⟩ := mem_rowFoot.1 q
        have hm' : m ≠ i := by simpa using hm
        exact List.mem_append_right _ (mem_rowFoot.2 ⟨m, u, hm, (hrows m u hm').1 hu, q⟩)
    · refine .inr ⟨b, tg, cap, rest, sz', by simp, ?_, ?_, by simpa using hcap, htg⟩
      · rw [h3.get]
        congr 2
        rw [List.map_set, ← flat_set (sz := 1) (by simp) rfl (by simpa using hil), hc]
        simp only [Nat.zero_add, splice]
        rw [List.take_append_of_le_length (by rw [hfl]; omega), List.drop_append_of_le_length (by rw [hfl]; simp; omega)]
        simp [List.append_assoc]
      · rw [List.length_append] at hl ⊢
        rw [flat_len (sz := 1) (fun q hq => by obtain ⟨u, _, rfl⟩ := List.mem_map.1 hq; rfl)]
        rw [hfl] at hl
        simpa using hl
    · intro q hq
      rcases List.mem_or_eq_of_mem_set hq with q' | q'
      · exact h.one q q'
      · rw [q']; exact hok
    · have hm' : m ≠ i := by simpa using hm
      obtain ⟨es, xs, k1, k2, k3⟩ := h.row m u hm ((hrows m u hm').1 hu)
      refine ⟨es, xs, k1, k2.loc fun c hc' => h3.other c fun e => ?_, k3⟩
      subst e
      exact h.off m u hm ((hrows m u hm').1 hu) _ hc' (by simp [footV])
    · have ha' : a ≠ i := by simpa using ha
      have hc'' : c ≠ i := by simpa using hc'
      exact h.dis a c w1 u1 hac ha hc' ((hrows a w1 ha').1 hw1) ((hrows c u1 hc'').1 hu1)
    · have hm' : m ≠ i := by simpa using hm
      exact h.off m u hm ((hrows m u hm').1 hu)
theorem Ow.cellsSl {v : Value} {xs : List α} (O : Ow G H L) (hj : L[j]? = some (eSl v e r xs)) : okCells [v] = true ∧ v.cells.toList = [v] := by
  rcases O.slLen hj with ⟨rfl, _⟩ | ⟨b, off, tg, cap, rfl⟩ <;> exact ⟨rfl, rfl⟩
end
end
end Go.Am
