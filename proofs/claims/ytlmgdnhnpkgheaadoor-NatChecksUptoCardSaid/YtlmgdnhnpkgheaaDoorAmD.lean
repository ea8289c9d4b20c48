/- How a heap and what it stands for turn together: a new block, a store, a block that is given up, a block that goes on under a new number. -/
import Derived.Test.YtlmgdnhnpkgheaaDoorAmC
import Derived.Laws.CopyRow
namespace Go.Am
open Go
set_option linter.unusedSimpArgs false
set_option linter.unusedVariables false

def upd {α : Type} (f : Nat → α) (b : Nat) (v : α) : Nat → α := fun c => if c = b then v else f c
theorem upd_same {α : Type} (f : Nat → α) (b : Nat) (v : α) : upd f b v b = v := by simp [upd]
theorem upd_other {α : Type} (f : Nat → α) {b c : Nat} (v : α) (h : c ≠ b) : upd f b v c = f c := by simp [upd, h]
theorem get_push_upd (H : AH) (x : Option ABlk) : (H.push x).get = upd H.get H.next x := by funext b; rw [AH.get_push]; rfl
theorem get_set_upd (H : AH) {b : Nat} {y : ABlk} (x : Option ABlk) (hb : H.get b = some y) : (H.set b x).get = upd H.get b x := by funext c; rw [AH.get_set x hb]; rfl

theorem sub_upd {ι : Ren} {b : Nat} {y : Nat × Nat × Nat} (h : ι b = none) : ι.sub (upd ι b (some y)) := fun c z hc => by
  rw [upd_other]
  · exact hc
  · intro e; subst e; rw [h] at hc; cases hc

section
variable {n : Nat} {ι : Ren} {G : Nat → Option ABlk} {w : World}

theorem Sim.not_own_of_img {b : Nat} {x : ABlk} {cb co ex : Nat} (h : Sim n ι G w) (hb : G b = some x) (ho : x.own = true) (hi : ι b = some (cb, co, ex)) {b' : Nat} {x' : ABlk} {co' ex' : Nat} (hb' : G b' = some x') (hi' : ι b' = some (cb, co', ex')) : b' = b := by
  apply Classical.byContradiction
  intro e
  exact h.inj b b' x x' _ _ _ _ _ _ (Ne.symm e) hb hb' ho hi hi' rfl

/-- A new block. -/
theorem Sim.alloc {m b : Nat} (h : Sim n ι G w) (hι : ι b = none) (hb : b < m) (hnm : n ≤ m) {x : ABlk} {arr : Array Value} {el : TypeId} {fr : Nat × Nat} {ex : Nat} {w1 : World}
    (hw : w1.heap = w.heap.push (.cells arr el fr)) (hos : w1.os = w.os) (htape : w1.tape = w.tape) (hout : w1.output = w.output)
    (hc : ∀ (j : Nat) (v : Value), x.cells[j]? = some v → ∃ v', arr[j]? = some v' ∧ VR ι v v') (hx : x.own = true → x.cells.length + ex * x.sz ≤ arr.size ∧ fr = (0, 0)) :
    Sim m (upd ι b (some (w.heap.size, 0, ex))) (upd G b (some x)) w1 ∧ ∀ k, k ≤ b → Evo k ι G w (upd ι b (some (w.heap.size, 0, ex))) (upd G b (some x)) w1 := by
  have hsub := sub_upd (y := (w.heap.size, 0, ex)) hι
  have hold : ∀ cb, cb < w.heap.size → w1.heap[cb]? = w.heap[cb]? := fun cb hlt => by rw [hw, Array.getElem?_push, if_neg (by omega)]
  have hnew : w1.heap[w.heap.size]? = some (.cells arr el fr) := by rw [hw, Array.getElem?_push, if_pos rfl]
  refine ⟨⟨?_, ?_, ?_⟩, fun k hk => ⟨hsub, ?_, ?_, ?_, ?_, ?_, hos, htape, hout⟩⟩
  · intro c y cb co ex' hG hc'
    by_cases e : c = b
    · subst e
      rw [upd_same] at hG hc'
      cases hG; cases hc'
      refine ⟨arr, el, fr, hnew, fun j v hj => ?_, fun ho => ?_⟩
      · obtain ⟨v', a, b'⟩ := hc j v hj
        exact ⟨v', by rw [Nat.zero_add]; exact a, b'.mono hsub⟩
      · obtain ⟨a, b'⟩ := hx ho
        exact ⟨by omega, b'⟩
    · rw [upd_other _ _ e] at hG hc'
      have hB := h.blk c y cb co ex' hG hc'
      exact hB.mono hsub (hold cb hB.lt)
  · intro c c' y y' cb co e1 cb' co' e1' hne hG hG' ho hi hi'
    by_cases e : c = b
    · subst e
      rw [upd_same] at hG hi
      cases hG; cases hi
      have e' : c' ≠ c := Ne.symm hne
      rw [upd_other _ _ e'] at hG' hi'
      have := (h.blk c' y' cb' co' e1' hG' hi').lt
      omega
    · rw [upd_other _ _ e] at hG hi
      by_cases e' : c' = b
      · subst e'
        rw [upd_same] at hG' hi'
        cases hG'; cases hi'
        have := (h.blk c y cb co e1 hG hi).lt
        omega
      · rw [upd_other _ _ e'] at hG' hi'
        exact h.inj c c' y y' _ _ _ _ _ _ hne hG hG' ho hi hi'
  · intro c y hc'
    by_cases e : c = b
    · subst e; exact hb
    · rw [upd_other _ _ e] at hc'
      exact Nat.lt_of_lt_of_le (h.dom c y hc') hnm
  · intro c hc'
    exact upd_other _ _ (by omega)
  · rintro cb ⟨c, y, co, e1, hG, hi⟩
    by_cases e : c = b
    · subst e; rw [upd_same] at hi; cases hi; exact .inr (Nat.le_refl _)
    · rw [upd_other _ _ e] at hG hi; exact .inl ⟨c, y, co, e1, hG, hi⟩
  · rintro cb ⟨c, y, co, e1, hG, ho, hi⟩
    by_cases e : c = b
    · subst e; rw [upd_same] at hi; cases hi; exact .inr (Nat.le_refl _)
    · rw [upd_other _ _ e] at hG hi; exact .inl ⟨c, y, co, e1, hG, ho, hi⟩
  · intro cb hlt _; exact hold cb hlt
  · rw [hw]; simp

/-- A block of one's own is written. -/
theorem Sim.write {b : Nat} {x x' : ABlk} {cb co ex : Nat} {w1 : World} (h : Sim n ι G w) (hb : G b = some x) (ho : x.own = true) (hi : ι b = some (cb, co, ex))
    (hB : BlkOk ι x' cb co ex w1) (hother : ∀ k, k ≠ cb → w1.heap[k]? = w.heap[k]?) (hs : w1.heap.size = w.heap.size) (hos : w1.os = w.os) (htape : w1.tape = w.tape) (hout : w1.output = w.output) :
    Sim n ι (upd G b (some x')) w1 ∧ ∀ k, Evo k ι G w ι (upd G b (some x')) w1 := by
  refine ⟨⟨?_, ?_, h.dom⟩, fun k => ⟨fun _ _ h => h, fun _ _ => rfl, ?_, ?_, ?_, by omega, hos, htape, hout⟩⟩
  · intro c y cb' co' ex' hG hc'
    by_cases e : c = b
    · subst e
      rw [upd_same] at hG
      cases hG
      rw [hi] at hc'; cases hc'
      exact hB
    · rw [upd_other _ _ e] at hG
      have hB' := h.blk c y cb' co' ex' hG hc'
      have hne : cb' ≠ cb := fun e' => by subst e'; exact e (h.not_own_of_img hb ho hi hG hc')
      exact hB'.mono (fun _ _ h => h) (hother cb' hne)
  · intro c c' y y' cb1 co1 e1 cb2 co2 e2 hne hG hG' hoy h1 h2 heq
    by_cases e : c = b
    · subst e
      rw [upd_other _ _ (Ne.symm hne)] at hG'
      rw [hi] at h1; cases h1
      exact h.inj c c' x y' _ _ _ _ _ _ hne hb hG' ho hi h2 heq
    · rw [upd_other _ _ e] at hG
      by_cases e' : c' = b
      · subst e'
        exact h.inj c c' y x _ _ _ _ _ _ hne hG hb hoy h1 h2 heq
      · rw [upd_other _ _ e'] at hG'
        exact h.inj c c' y y' _ _ _ _ _ _ hne hG hG' hoy h1 h2 heq
  · rintro cb' ⟨c, y, co', e1, hG, hi'⟩
    by_cases e : c = b
    · subst e; exact .inl ⟨c, x, co', e1, hb, hi'⟩
    · rw [upd_other _ _ e] at hG; exact .inl ⟨c, y, co', e1, hG, hi'⟩
  · rintro cb' ⟨c, y, co', e1, hG, ho', hi'⟩
    by_cases e : c = b
    · subst e; exact .inl ⟨c, x, co', e1, hb, ho, hi'⟩
    · rw [upd_other _ _ e] at hG; exact .inl ⟨c, y, co', e1, hG, ho', hi'⟩
  · intro cb' hlt hn
    exact hother cb' fun e => by subst e; exact hn ⟨b, x, co, ex, hb, ho, hi⟩

/-- A block is given up. -/
theorem Sim.kill {b : Nat} (h : Sim n ι G w) : Sim n ι (upd G b none) w ∧ ∀ k, Evo k ι G w ι (upd G b none) w := by
  have hs : ∀ c y, upd G b none c = some y → G c = some y := fun c y hc => by
    by_cases e : c = b
    · subst e; rw [upd_same] at hc; cases hc
    · rwa [upd_other _ _ e] at hc
  exact ⟨⟨fun c y cb co ex hG hc => h.blk c y cb co ex (hs c y hG) hc, fun c c' y y' cb co e cb' co' e' hne hG hG' => h.inj c c' y y' cb co e cb' co' e' hne (hs c y hG) (hs c' y' hG'), h.dom⟩,
    fun k => ⟨fun _ _ h => h, fun _ _ => rfl, fun cb ⟨c, y, co, e, hG, hi⟩ => .inl ⟨c, y, co, e, hs c y hG, hi⟩, fun cb ⟨c, y, co, e, hG, ho, hi⟩ => .inl ⟨c, y, co, e, hs c y hG, ho, hi⟩, fun _ _ _ => rfl, Nat.le_refl _, rfl, rfl, rfl⟩⟩

/-- A block of one's own goes on under a new number (an append that found room). -/
theorem Sim.move {m b b' : Nat} {x x' : ABlk} {cb co ex co' ex' : Nat} {w1 : World} (h : Sim n ι G w) (hb : G b = some x) (ho : x.own = true) (hi : ι b = some (cb, co, ex))
    (hι : ι b' = none) (hm : b' < m) (hnm : n ≤ m) (hbb : b' ≠ b) (ho' : x'.own = true)
    (hB : BlkOk (upd ι b' (some (cb, co', ex'))) x' cb co' ex' w1) (hother : ∀ k, k ≠ cb → w1.heap[k]? = w.heap[k]?) (hs : w1.heap.size = w.heap.size) (hos : w1.os = w.os) (htape : w1.tape = w.tape) (hout : w1.output = w.output) :
    Sim m (upd ι b' (some (cb, co', ex'))) (upd (upd G b none) b' (some x')) w1 ∧ ∀ k, k ≤ b' → Evo k ι G w (upd ι b' (some (cb, co', ex'))) (upd (upd G b none) b' (some x')) w1 := by
  have hsub := sub_upd (y := (cb, co', ex')) hι
  have hold : ∀ c y, c ≠ b' → upd (upd G b none) b' (some x') c = some y → c ≠ b ∧ G c = some y := fun c y hne hc => by
    rw [upd_other _ _ hne] at hc
    by_cases e : c = b
    · subst e; rw [upd_same] at hc; cases hc
    · rw [upd_other _ _ e] at hc; exact ⟨e, hc⟩
  have hfar : ∀ c y cb2 co2 ex2, c ≠ b' → upd (upd G b none) b' (some x') c = some y → upd ι b' (some (cb, co', ex')) c = some (cb2, co2, ex2) → cb2 ≠ cb := fun c y cb2 co2 ex2 hne hG hi2 heq => by
    obtain ⟨h1, h2⟩ := hold c y hne hG
    rw [upd_other _ _ hne] at hi2
    subst heq
    exact h1 (h.not_own_of_img hb ho hi h2 hi2)
  refine ⟨⟨?_, ?_, ?_⟩, fun k hk => ⟨hsub, ?_, ?_, ?_, ?_, by omega, hos, htape, hout⟩⟩
  · intro c y cb2 co2 ex2 hG hi2
    by_cases e : c = b'
    · subst e
      rw [upd_same] at hG hi2
      cases hG; cases hi2
      exact hB
    · have hne := hfar c y cb2 co2 ex2 e hG hi2
      obtain ⟨h1, h2⟩ := hold c y e hG
      rw [upd_other _ _ e] at hi2
      exact (h.blk c y cb2 co2 ex2 h2 hi2).mono hsub (hother cb2 hne)
  · intro c c' y y' cb1 co1 e1 cb2 co2 e2 hne hG hG' hoy h1 h2 heq
    by_cases e : c = b'
    · subst e
      rw [upd_same] at h1; cases h1
      exact hfar c' y' cb2 co2 e2 (Ne.symm hne) hG' h2 heq.symm
    · by_cases e' : c' = b'
      · subst e'
        rw [upd_same] at h2; cases h2
        exact hfar c y cb1 co1 e1 e hG h1 heq
      · obtain ⟨_, g1⟩ := hold c y e hG
        obtain ⟨_, g2⟩ := hold c' y' e' hG'
        rw [upd_other _ _ e] at h1
        rw [upd_other _ _ e'] at h2
        exact h.inj c c' y y' _ _ _ _ _ _ hne g1 g2 hoy h1 h2 heq
  · intro c y hc'
    by_cases e : c = b'
    · subst e; exact hm
    · rw [upd_other _ _ e] at hc'
      exact Nat.lt_of_lt_of_le (h.dom c y hc') hnm
  · intro c hc'
    exact upd_other _ _ (by omega)
  · rintro cb' ⟨c, y, co2, e1, hG, hi'⟩
    by_cases e : c = b'
    · subst e; rw [upd_same] at hi'; cases hi'; exact .inl ⟨b, x, co, ex, hb, hi⟩
    · obtain ⟨_, g1⟩ := hold c y e hG
      rw [upd_other _ _ e] at hi'
      exact .inl ⟨c, y, co2, e1, g1, hi'⟩
  · rintro cb' ⟨c, y, co2, e1, hG, ho2, hi'⟩
    by_cases e : c = b'
    · subst e; rw [upd_same] at hi'; cases hi'; exact .inl ⟨b, x, co, ex, hb, ho, hi⟩
    · obtain ⟨_, g1⟩ := hold c y e hG
      rw [upd_other _ _ e] at hi'
      exact .inl ⟨c, y, co2, e1, g1, ho2, hi'⟩
  · intro cb' hlt hn
    exact hother cb' fun e => by subst e; exact hn ⟨b, x, co, ex, hb, ho, hi⟩
end

/-! ### Cells read and written -/
def splice (cells : List Value) (off : Nat) (vs : List Value) : List Value := cells.take off ++ vs ++ cells.drop (off + vs.length)
theorem splice_length {cells : List Value} {off : Nat} {vs : List Value} (h : off + vs.length ≤ cells.length) : (splice cells off vs).length = cells.length := by
  simp [splice]; omega
theorem splice_get (cells : List Value) (off : Nat) (vs : List Value) (h : off + vs.length ≤ cells.length) (j : Nat) :
    (splice cells off vs)[j]? = if off ≤ j ∧ j < off + vs.length then vs[j - off]? else cells[j]? := by
  unfold splice
  rw [List.append_assoc, List.getElem?_append, List.length_take, Nat.min_eq_left (by omega)]
  by_cases h1 : j < off
  · rw [if_pos h1, if_neg (by omega), List.getElem?_take, if_pos h1]
  · rw [if_neg h1, List.getElem?_append]
    by_cases h2 : j - off < vs.length
    · rw [if_pos h2, if_pos (by omega)]
    · rw [if_neg h2, if_neg (by omega), List.getElem?_drop]
      congr 1; omega
def okCells (vs : List Value) : Bool := vs.all (·.oneCell')
theorem VR.oneCell {ι : Ren} {v v' : Value} (h : VR ι v v') : v'.oneCell' = v.oneCell' := by cases h <;> rfl
theorem VRs.okCells {ι : Ren} : ∀ {xs ys : List Value}, VRs ι xs ys → Am.okCells xs = true → ∀ v ∈ ys, v.oneCell' = true
  | _, _, .nil, _, v, h => by simp at h
  | _, _, .cons h1 h2, h, v, hv => by
    simp [Am.okCells] at h
    rcases List.mem_cons.1 hv with rfl | hv
    · rw [h1.oneCell]; exact h.1
    · exact h2.okCells (by simpa [Am.okCells] using h.2) v hv

theorem read_ok {P : Program} {ι : Ren} {x : ABlk} {cb co ex : Nat} {w : World} (h : BlkOk ι x cb co ex w) (off k : Nat) (hk : off + k ≤ x.cells.length) :
    ∃ cs, (loadCells ⟨cb, co + off, none⟩ k).run P w = .ok cs.toArray w ∧ VRs ι ((x.cells.drop off).take k) cs := by
  obtain ⟨arr, el, fr, h1, h2, _⟩ := h.lies
  have hex : ∃ cs : List Value, cs.length = k ∧ ∀ j, j < k → ∃ v', cs[j]? = some v' ∧ arr[co + (off + j)]? = some v' ∧ ∃ v, x.cells[off + j]? = some v ∧ VR ι v v' := by
    induction k with
    | zero => exact ⟨[], rfl, fun j hj => by omega⟩
    | succ k ih =>
      obtain ⟨cs, hl, hcs⟩ := ih (by omega)
      obtain ⟨v, hv⟩ : ∃ v, x.cells[off + k]? = some v := ⟨_, List.getElem?_eq_getElem (by omega)⟩
      obtain ⟨v', ha, hvr⟩ := h2 _ v hv
      refine ⟨cs ++ [v'], by simp [hl], fun j hj => ?_⟩
      by_cases e : j = k
      · subst e
        exact ⟨v', by rw [List.getElem?_append, if_neg (by omega)]; simp [hl], ha, v, hv, hvr⟩
      · obtain ⟨u, a, b, c⟩ := hcs j (by omega)
        exact ⟨u, by rw [List.getElem?_append, if_pos (by omega)]; exact a, b, c⟩
  obtain ⟨cs, hl, hcs⟩ := hex
  refine ⟨cs, ?_, ?_⟩
  · have := run_loadCells_list (P := P) w ⟨cb, co + off, none⟩ cs (fun j v hj => ?_)
    · rw [hl] at this; exact this
    · have hjk : j < k := by
        rcases Nat.lt_or_ge j k with h | h
        · exact h
        · rw [List.getElem?_eq_none (by omega)] at hj; cases hj
      obtain ⟨u, a, b, _⟩ := hcs j hjk
      rw [a] at hj; cases hj
      simp [add_addr, World.cell?, h1, Nat.add_assoc, b]
  · refine VRs.of_get (by simp [hl]; omega) fun j v v' hv hv' => ?_
    rw [List.getElem?_take] at hv
    split at hv
    · rename_i hjk
      obtain ⟨u, a, b, v0, c, d⟩ := hcs j hjk
      rw [List.getElem?_drop, c] at hv; cases hv
      rw [a] at hv'; cases hv'
      exact d
    · cases hv

theorem write_ok {P : Program} {n : Nat} {ι : Ren} {G : Nat → Option ABlk} {w : World} (h : Sim n ι G w) {b : Nat} {x : ABlk} {cb co ex : Nat} (hb : G b = some x) (ho : x.own = true) (hi : ι b = some (cb, co, ex))
    (off : Nat) {vs vs' : List Value} (hv : VRs ι vs vs') (hok : okCells vs = true) (hl : off + vs.length ≤ x.cells.length) :
    ∃ w1, (storeCells ⟨cb, co + off, none⟩ vs').run P w = .ok () w1 ∧ Sim n ι (upd G b (some { x with cells := splice x.cells off vs })) w1 ∧ ∀ k, Evo k ι G w ι (upd G b (some { x with cells := splice x.cells off vs })) w1 := by
  obtain ⟨arr, el, fr, h1, h2, h3⟩ := (h.blk b x cb co ex hb hi).lies
  obtain ⟨h3, h4⟩ := h3 ho
  subst h4
  have hlen := hv.length
  have hst := run_storeCells_at P cb (co + off) el vs' 0 arr w h1 (by omega) (hv.okCells hok)
  simp only [Nat.add_zero] at hst
  refine ⟨_, hst, ?_⟩
  have hw := setRow_heap w cb arr (arr.toList.take (co + off) ++ vs' ++ arr.toList.drop (co + off + vs'.length)).toArray el (0, 0) h1
  have hget : ∀ j, (arr.toList.take (co + off) ++ vs' ++ arr.toList.drop (co + off + vs'.length)).toArray[j]? = if co + off ≤ j ∧ j < co + off + vs'.length then vs'[j - (co + off)]? else arr[j]? := fun j => by
    have := splice_get arr.toList (co + off) vs' (by simp; omega) j
    simpa [splice] using this
  refine h.write (x' := { x with cells := splice x.cells off vs }) hb ho hi ⟨_, el, (0, 0), hw, fun j v hj => ?_, fun _ => ⟨?_, rfl⟩⟩ (fun k hk => setRow_other w cb k _ hk) (by simp) (by simp) (by simp) (by simp)
  · simp only at hj
    rw [splice_get _ _ _ hl] at hj
    split at hj
    · rename_i hr
      obtain ⟨v', a, c⟩ := hv.get _ v hj
      refine ⟨v', ?_, c⟩
      rw [hget, if_pos (by omega), show co + j - (co + off) = j - off by omega]
      exact a
    · rename_i hr
      obtain ⟨v', a, c⟩ := h2 j v hj
      refine ⟨v', ?_, c⟩
      rw [hget, if_neg (by omega)]
      exact a
  · simp only [splice_length hl]
    have : (arr.toList.take (co + off) ++ vs' ++ arr.toList.drop (co + off + vs'.length)).length = arr.size := by simp; omega
    simp only [List.size_toArray, this]
    omega
end Go.Am
