/- What each operation does to typed data. -/
import Derived.Test.YtlmgdnhnpkgheaaDoorBxB
namespace Go.Am
open Go
noncomputable section
set_option linter.unusedSimpArgs false
set_option linter.unusedVariables false

def PutAt {α β : Type} (r : RT α) (o : Nat) (s : RT β) (x : α) (y : β) (x' : α) : Prop := ∀ (G : GM) (cs c : List Value), r.rep G cs x → s.rep G c y → r.rep G (splice cs o c) x' ∧ o + s.sz ≤ r.sz
theorem Put.at {α β : Type} {r : RT α} {o : Nat} {s : RT β} {u : α → β → α} (h : Put r o s u) (x : α) (y : β) : PutAt r o s x y (u x y) := fun G cs c h1 h2 => h G cs x c y h1 h2
theorem PutAt.idx {α : Type} {r : RT α} {n i : Nat} {xs : List α} {y : α} (hi : i < xs.length) : PutAt (rArr n r) (i * r.sz) r xs y (xs.set i y) := fun G cs c h1 h2 => arr_set h1 hi h2
theorem PutAt.comp {α β γ : Type} {r : RT α} {s : RT β} {t : RT γ} {o o' : Nat} {f : α → β} {u : α → β → α} {x : α} {y : γ} {z : β} (h : Proj r o s f) (hu : Put r o s u) (k : PutAt s o' t (f x) y z) : PutAt r (o + o') t x y (u x z) := fun G cs c h1 h2 => by
  obtain ⟨a1, a2⟩ := h G cs x h1
  obtain ⟨b1, b2⟩ := k G _ c a1 h2
  obtain ⟨c1, c2⟩ := hu G cs x _ _ h1 b1
  have e1 := r.len h1
  have e2 := t.len h2
  rw [splice_splice (by omega) (by omega)] at c1
  exact ⟨c1, by omega⟩
theorem PutAt.compI {α γ : Type} {r : RT α} {t : RT γ} {n i o' : Nat} {xs : List α} {x z : α} {y : γ} (hi : xs[i]? = some x) (k : PutAt r o' t x y z) : PutAt (rArr n r) (i * r.sz + o') t xs y (xs.set i z) := fun G cs c h1 h2 => by
  obtain ⟨a1, a2⟩ := arr_idx h1 hi
  obtain ⟨b1, b2⟩ := k G _ c a1 h2
  obtain ⟨c1, c2⟩ := arr_set h1 (List.getElem?_eq_some_iff.1 hi).1 b1
  have e1 := (rArr n r).len h1
  have e2 := t.len h2
  have e3 : (rArr n r).sz = n * r.sz := rfl
  rw [splice_splice (by omega) (by omega)] at c1
  exact ⟨c1, by omega⟩

section
variable {P : Program} {n : Nat} {σ : Nat → Value} {H H1 : AH} {ops : Array Oper} {l : List Oper} {d : Tmp} {dd : Option Tmp} {ty t xt yt e : TypeId} {pos : String} {af : Array Edge} {g : Option (Nat × Bool)} {v u w p : Value} {x y c : Operand}
  {G : GM} {L : List Pc} {j : Nat} {α β : Type} {r : RT α} {s : RT β}

/-! ### New blocks -/
theorem Lo.alloc {z : Value} {x0 : α} (hz : (P.info? e).bind (·.zero) = some z) (hs : z.cells.all scalar = true) (hr : ∀ G, r.rep G z.cells.toList x0) (O : Ow G H L) :
    Loud P n ⟨some d, .alloc e, ty, pos, af, g⟩ σ H fun v H1 => ∃ b, v = .pointer (some ⟨b, 0, none⟩) ∧ Ow G H1 (eVar b e r x0 :: L) ∧ Same G L H H1 := by
  have nb := NewB.push H ⟨z.cells.toList, e, 1, true⟩
  exact ⟨_, _, st_alloc hz hs, H.next, rfl, O.new nb _ rfl ⟨_, nb.get, hr _⟩, O.same nb.ext⟩
theorem Lo.box {x0 : α} (hd : ook n x = true) (hx : oval σ x = v) (hr : r.rep G v.cells.toList x0) (O : Ow G H L) :
    Loud P n ⟨some d, .box e x, ty, pos, af, g⟩ σ H fun v H1 => ∃ b, v = .pointer (some ⟨b, 0, none⟩) ∧ Ow G H1 (eVar b e r x0 :: L) ∧ Same G L H H1 := by
  have nb := NewB.push H ⟨v.cells.toList, e, 1, true⟩
  refine ⟨.pointer (some ⟨H.next, 0, none⟩), H.push (some ⟨v.cells.toList, e, 1, true⟩), astep_ok ?_, H.next, rfl, O.new nb _ rfl ⟨_, nb.get, hr⟩, O.same nb.ext⟩
  simp [astep, apure, aread, aalloc, oo hd hx, MK.val]
theorem zcells_mul {z : Array Value} : ∀ m, zcells z (m * z.size) = (List.replicate m z.toList).flatten := by
  intro m
  unfold zcells
  split
  · rename_i h1
    obtain ⟨a, ha⟩ := List.length_eq_one_iff.1 (show z.toList.length = 1 by rw [Array.length_toList]; exact h1)
    have hz : z = #[a] := by apply Array.ext'; rw [ha]
    subst hz
    show List.replicate (m * 1) a = (List.replicate m [a]).flatten
    rw [Nat.mul_one]
    induction m with
    | zero => rfl
    | succ m ih => rw [List.replicate_succ, List.replicate_succ, List.flatten_cons, ih]; rfl
  · simp only [Array.toList_map, Array.toList_range]
    induction m with
    | zero => simp
    | succ m ih =>
      rw [List.replicate_succ', List.flatten_append, ← ih, Nat.add_mul, Nat.one_mul, List.range_add, List.map_append]
      congr 1
      simp only [List.map_map, List.flatten_cons, List.flatten_nil, List.append_nil]
      apply List.ext_getElem
      · simp
      · intro i h1 h2
        simp at h1
        simp only [List.getElem_map, List.getElem_range, Function.comp]
        rw [Nat.mul_add_mod_self_right, Nat.mod_eq_of_lt h1, getElem!_pos z i h1]
        simp
theorem Lo.makeSlice {a c : Int} {k1 k2 : IntKind} {z : Value} {x0 : α} {c1 : Nat} (hd : (ook n x && ook n y) = true) (he : elemT P t = some e) (hz : (P.info? e).bind (·.zero) = some z) (hsz : szT P e = some r.sz) (hsc : (z.cells.all scalar && (z.cells.size != 0)) = true) (hzs : z.cells.size = r.sz)
    (hby : ((P.info? e).map (·.bytes)) = some c1) (hb : c1 ≤ 1048576) (hx : oval σ x = .int k1 a) (hy : oval σ y = .int k2 c) (h : 0 ≤ a ∧ a ≤ c ∧ c ≤ 16777216) (hr : ∀ G, r.rep G z.cells.toList x0) (O : Ow G H L) :
    Loud P n ⟨some d, .makeSlice t x y, ty, pos, af, g⟩ σ H fun v H1 => Ow G H1 (eSl v e r (List.replicate a.toNat x0) :: L) ∧ Same G L H H1 := by
  simp only [Bool.and_eq_true] at hd
  obtain ⟨inf, hi, hsz⟩ := szT_inv hsz
  simp only [hi, Option.bind_some, Option.map_some, Option.some.injEq] at hz hby
  subst hby
  obtain ⟨h0, h1, h2⟩ := h
  have nb := NewB.push H ⟨zcells z.cells (c.toNat * inf.size), e, 1, true⟩
  refine ⟨.slice (some ⟨H.next, 0, some 0⟩) a.toNat c.toNat, H.push (some ⟨zcells z.cells (c.toNat * inf.size), e, 1, true⟩), astep_ok ?_, O.new nb _ rfl ?_, O.same nb.ext⟩
  · have hbnd : inf.bytes * c.toNat ≤ 2 ^ 48 := Nat.le_trans (Nat.mul_le_mul hb (show c.toNat ≤ 16777216 by omega)) (by decide)
    have hbnd' : (inf.bytes : Int) * c ≤ 2 ^ 48 := by
      have : ((inf.bytes * c.toNat : Nat) : Int) ≤ ((2 ^ 48 : Nat) : Int) := Int.ofNat_le.2 hbnd
      rw [Int.natCast_mul, Int.toNat_of_nonneg (by omega)] at this
      simpa using this
    have hdec : (z.cells.all scalar && (z.cells.size != 0) && decide (0 ≤ a ∧ a ≤ c ∧ c ≤ 2 ^ 47 ∧ (inf.bytes : Int) * c ≤ 2 ^ 48)) = true := by
      rw [hsc, Bool.true_and, decide_eq_true_iff]
      exact ⟨h0, h1, by omega, hbnd'⟩
    have hal : aalloc P (toL n σ) ⟨some d, .makeSlice t x y, ty, pos, af, g⟩ = some (⟨zcells z.cells (c.toNat * inf.size), e, 1, true⟩, .sl a.toNat c.toNat (some 0)) := by
      simp only [aalloc, elemT_inv he, oo hd.1 hx, oo hd.2 hy, hi, hz, Option.bind_some, hdec, if_true]
    simp only [astep, apure, aread, hal, MK.val]
  · rw [hsz, ← hzs, zcells_mul] at nb ⊢
    refine ⟨List.replicate a.toNat z.cells.toList, .inr ⟨H.next, some 0, c.toNat, (List.replicate (c.toNat - a.toNat) z.cells.toList).flatten, 1, by simp, ?_, ?_, by simp; omega, .inr rfl⟩, All2.replicate (hr _) _⟩
    · rw [nb.get, ← List.flatten_append, List.replicate_append_replicate]; congr 5; omega
    · rw [← List.flatten_append, List.replicate_append_replicate, flat_len (sz := r.sz) (by intro q hq; rw [List.mem_replicate] at hq; rw [hq.2]; simpa using hzs)]
      rw [List.length_replicate]; congr 1; omega

theorem foldl_setI (c : List Value) : ∀ (off k : Nat) (cs : Array Value), off + k + c.length ≤ cs.size → ((c.zipIdx k).foldl (fun cs p => cs.setIfInBounds (off + p.2) p.1) cs) = (cs.toList.take (off + k) ++ c ++ cs.toList.drop (off + k + c.length)).toArray := by
  induction c with
  | nil => intro off k cs h; simp
  | cons a c ih =>
    intro off k cs h
    simp only [List.length_cons] at h
    simp only [List.zipIdx_cons, List.foldl_cons]
    rw [ih off (k + 1) _ (by simp; omega)]
    have t1 : (cs.toList.set (off + k) a).take (off + k + 1) = cs.toList.take (off + k) ++ [a] := by
      rw [List.take_add_one, List.take_set_of_le (Nat.le_refl _), List.getElem?_set_self (by simp; omega)]; rfl
    have t2 : (cs.toList.set (off + k) a).drop (off + k + 1 + c.length) = cs.toList.drop (off + k + 1 + c.length) := List.drop_set_of_lt (by omega)
    rw [Array.toList_setIfInBounds, show off + (k + 1) = off + k + 1 by omega, t1, t2]
    simp [Nat.add_assoc, Nat.add_comm 1]
theorem fill_cons {place : Nat → Option (Nat × Nat)} {cells : Array Value} {i off : Nat} {v : Value} {rest : List (Nat × Value)} (hp : place i = some (off, v.cells.size)) (hf : off + v.cells.size ≤ cells.size) :
    Instr.fill place cells ((i, v) :: rest) = Instr.fill place (splice cells.toList off v.cells.toList).toArray rest := by
  rw [Instr.fill, hp]
  simp only
  rw [if_neg (by simp; omega)]
  congr 1
  have := foldl_setI v.cells.toList off 0 cells (by simpa using hf)
  simp only [Nat.add_zero] at this
  rw [splice, ← this, ← Array.foldl_toList, Array.toList_zipIdx]
/-- Elements one after the other. -/
theorem fill_all {sz : Nat} : ∀ (vs : List Value) (k : Nat) (cells : List Value) (pre : List (List Value)), pre.length = k → (∀ c ∈ pre, c.length = sz) → (∀ v ∈ vs, v.cells.size = sz) → cells.length = (k + vs.length) * sz → cells.take (k * sz) = pre.flatten →
    Instr.fill (fun j => some (j * sz, sz)) cells.toArray (vs.zipIdx k |>.map fun p => (p.2, p.1)) = some ((pre ++ vs.map fun v => v.cells.toList).flatten).toArray
  | [], k, cells, pre, hk, hpre, _, hl, ht => by
    simp only [List.zipIdx_nil, List.map_nil, Instr.fill, List.append_nil]
    rw [← ht, List.take_of_length_le (by simp at hl; omega)]
  | v :: vs, k, cells, pre, hk, hpre, hv, hl, ht => by
    have hvs := hv v (by simp)
    have e1 : (k + (vs.length + 1)) * sz = k * sz + sz + vs.length * sz := by rw [Nat.add_mul, Nat.add_mul, Nat.one_mul]; omega
    have hl' : cells.length = k * sz + sz + vs.length * sz := by rw [hl, ← e1]; simp
    simp only [List.zipIdx_cons, List.map_cons]
    rw [fill_cons (off := k * sz) (by simp [hvs]) (by simp; omega)]
    have hvl : v.cells.toList.length = sz := by simpa using hvs
    have := fill_all vs (k + 1) (splice cells (k * sz) v.cells.toList) (pre ++ [v.cells.toList]) (by simp [hk]) (by
      intro c hc; rcases List.mem_append.1 hc with h | h
      · exact hpre c h
      · simp at h; subst h; exact hvl) (fun u hu => hv u (by simp [hu])) (by rw [splice_length (by omega), hl', Nat.add_mul, Nat.add_mul, Nat.one_mul]) (by
      rw [splice, ht]
      have e2 : (k + 1) * sz = (pre.flatten ++ v.cells.toList).length := by rw [List.length_append, flat_len hpre, hvl, hk, Nat.add_mul, Nat.one_mul]
      rw [e2, List.take_left]; simp)
    simp only [List.toList_toArray] at this ⊢
    rw [this]
    simp
theorem Lo.buildSlice {N : Nat} {ps : Array (Nat × Operand)} {vs : List Value} {xs : List α} {z : Value} (he : elemT P t = some e) (hz : (P.info? e).bind (·.zero) = some z) (hsz : szT P e = some r.sz) (hsc : (z.cells.all scalar && (z.cells.size != 0) && decide (N * r.sz ≤ 2 ^ 24)) = true)
    (ho : (ps.toList.all fun p => ook n p.2) = true) (hps : ps.toList.map (fun p => (p.1, oval σ p.2)) = (vs.zipIdx.map fun p => (p.2, p.1))) (hN : vs.length = N) (hr : All2 (fun v x => r.rep G v.cells.toList x) vs xs) (O : Ow G H L) :
    Loud P n ⟨some d, .buildSlice t N ps, ty, pos, af, g⟩ σ H fun v H1 => Ow G H1 (eSl v e r xs :: L) ∧ Same G L H H1 := by
  obtain ⟨inf, hi, hsz⟩ := szT_inv hsz
  simp only [hi, Option.bind_some] at hz
  have hcs : All2 (r.rep G) (vs.map fun v => v.cells.toList) xs := by
    clear hps hN
    induction hr with
    | nil => exact .nil
    | cons h1 _ ih => exact .cons h1 ih
  have hvs : ∀ v ∈ vs, v.cells.size = r.sz := fun v hv => by
    have := hcs.each v.cells.toList (List.mem_map.2 ⟨v, hv, rfl⟩)
    simpa using this
  have hf : Instr.fill (fun j => some (j * r.sz, r.sz)) (zcells z.cells (N * r.sz)).toArray (vs.zipIdx.map fun p => (p.2, p.1)) = some (vs.map fun v => v.cells.toList).flatten.toArray := by
    have := fill_all (sz := r.sz) vs 0 (zcells z.cells (N * r.sz)) [] rfl (by simp) hvs (by simp [zcells_length, hN]) (by simp)
    simpa using this
  have nb := NewB.push H ⟨(vs.map fun v => v.cells.toList).flatten, e, 1, true⟩
  refine ⟨.slice (some ⟨H.next, 0, some 0⟩) N N, H.push (some ⟨(vs.map fun v => v.cells.toList).flatten, e, 1, true⟩), astep_ok ?_, O.new nb _ rfl ?_, O.same nb.ext⟩
  · have hal : aalloc P (toL n σ) ⟨some d, .buildSlice t N ps, ty, pos, af, g⟩ = some (⟨(vs.map fun v => v.cells.toList).flatten, e, 1, true⟩, .sl N N (some 0)) := by
      simp only [aalloc, elemT_inv he, hi, hz, Option.bind_some, hsz, hsc, if_true, opndP_oo ho hps, hf, Option.map_some]
    simp only [astep, apure, aread, hal, MK.val]
  · refine ⟨_, .inr ⟨H.next, some 0, N, [], 1, by simp [hN], by simpa using nb.get, ?_, by simp [hN], .inr rfl⟩, hcs⟩
    rw [List.append_nil, hcs.flatLen, ← hr.length, hN]

/-! ### Stores -/
theorem Lo.storeVar {b o : Nat} {x0 x1 : α} {y0 : β} (hj : L[j]? = some (eVar b e r x0)) (hp : PutAt r o s x0 y0 x1) (hd : (ook n x && ook n y) = true) (hz : szT P t = some s.sz) {off : Nat} (hx : oval σ x = .pointer (some ⟨b, off, none⟩)) (ho : off = o) (hy : oval σ y = v) (hv : s.rep G v.cells.toList y0) (O : Ow G H L) :
    Loud P n ⟨dd, .store t x y, ty, pos, af, g⟩ σ H fun v H1 => Ow G H1 (L.set j (eVar b e r x1)) ∧ ∀ b', b' ≠ b → H1.get b' = H.get b' := by
  subst ho
  obtain ⟨cs, h1, h2⟩ := O.ok j _ hj
  obtain ⟨p1, p2⟩ := hp G cs _ h2 hv
  have hsz : v.cells.size = s.sz := by simpa using s.len hv
  obtain ⟨H1, h3, h4⟩ := store_step (P := P) (dd := dd) (ty := ty) (pos := pos) (af := af) (g := g) hd hz hx hy h1 rfl hsz (s.one hv) (by have := r.len h2; simp; omega)
  refine ⟨_, H1, h4, O.put hj _ (fun b' hb' => .inl hb') ⟨_, h3.get, p1⟩ (fun b' k hk hb' => h3.old hk (by simpa [eVar] using hb')), h3.other⟩
theorem Lo.storeSl {i o : Nat} {xs : List α} {x0 x1 : α} {y0 : β} (hj : L[j]? = some (eSl w e r xs)) (hi : xs[i]? = some x0) (hp : PutAt r o s x0 y0 x1) (hd : (ook n x && ook n y) = true) (hz : szT P t = some s.sz) (hx : oval σ x = padd (selem w (i * r.sz)) o) (hy : oval σ y = v) (hv : s.rep G v.cells.toList y0) (O : Ow G H L) :
    Loud P n ⟨dd, .store t x y, ty, pos, af, g⟩ σ H fun v H1 => Ow G H1 (L.set j (eSl w e r (xs.set i x1))) ∧ ∀ b', b' ≠ blkOf w → H1.get b' = H.get b' := by
  obtain ⟨es, h1, h2⟩ := O.ok j _ hj
  obtain ⟨c, hc, hr⟩ := h2.get hi
  have hil : i < es.length := (List.getElem?_eq_some_iff.1 hc).1
  rcases h1 with ⟨rfl, rfl⟩ | ⟨b, tg, cap, rest, sz', rfl, hb, hl, hcap, htg⟩
  · simp at hil
  · have hlen := h2.each
    obtain ⟨p1, p2⟩ := hp G c _ hr hv
    have hsz : v.cells.size = s.sz := by simpa using s.len hv
    have hvl : v.cells.toList.length = s.sz := by simpa using hsz
    have hfl : es.flatten.length = es.length * r.sz := flat_len hlen
    have hmul : i * r.sz + r.sz ≤ es.length * r.sz := by
      have := Nat.mul_le_mul_right r.sz (show i + 1 ≤ es.length from hil)
      rw [Nat.add_mul, Nat.one_mul] at this; exact this
    obtain ⟨H1, h3, h4⟩ := store_step (P := P) (dd := dd) (ty := ty) (pos := pos) (af := af) (g := g) (off := 0 + i * r.sz + o) hd hz hx hy hb rfl hsz (s.one hv) (by show _ ≤ (es.flatten ++ rest).length; rw [List.length_append, hfl]; omega)
    refine ⟨_, H1, h4, O.put hj _ (fun b' hb' => .inl hb') ⟨es.set i (splice c o v.cells.toList), .inr ⟨b, tg, cap, rest, sz', by simp, ?_, ?_, by simpa using hcap, htg⟩, h2.set i p1⟩ (fun b' k hk hb' => h3.old hk (by simpa [eSl, footV] using hb')), h3.other⟩
    · rw [h3.get]
      congr 2
      have hcl : c.length = r.sz := hlen c (List.mem_of_getElem? hc)
      have hsp : (splice c o v.cells.toList).length = r.sz := by rw [splice_length (by omega)]; exact hcl
      rw [← flat_set hlen hsp hil]
      have hg : (es.flatten.drop (i * r.sz)).take r.sz = c := flat_get hlen hc
      have e1 : splice es.flatten (i * r.sz) (splice c o v.cells.toList) = splice es.flatten (i * r.sz + o) v.cells.toList := by
        conv => lhs; rw [← hg]
        exact splice_splice (by omega) (by omega)
      rw [e1]
      simp only [Nat.zero_add, splice]
      rw [List.take_append_of_le_length (by omega), List.drop_append_of_le_length (by omega)]
      simp [List.append_assoc]
    · rw [List.length_append] at hl ⊢
      have hcl : c.length = r.sz := hlen c (List.mem_of_getElem? hc)
      rw [flat_len (sz := r.sz) (fun q hq => by
        rcases List.mem_or_eq_of_mem_set hq with h | h
        · exact hlen q h
        · rw [h, splice_length (by omega)]; exact hcl)]
      simp; omega

/-! ### append -/
theorem asrc_slG {sz : Nat} {es2 : List (List Value)} (h : SlG H.get sz w es2) : asrc w sz H.get none = some (es2.length, es2.flatten) := asrc_sl h.sl
theorem Lo.append {c1 : Nat} {z : Value} {xs ys : List α} {es2 : List (List Value)} (hj : L[j]? = some (eSl v e r xs)) (hd : (ook n x && ook n y) = true) (he : elemT P t = some e) (hxt : notInt P xt = true) (hz : (P.info? e).bind (·.zero) = some z) (hsz : szT P e = some r.sz) (hby : ((P.info? e).map (·.bytes)) = some c1)
    (hzs : (decide (z.cells.size = r.sz) && decide (0 < r.sz)) = true) (hc1 : c1 ≤ 1048576) (hx : oval σ x = v) (hw : SlG H.get r.sz (oval σ y) es2) (hr : All2 (r.rep G) es2 ys) (hlen : xs.length + ys.length ≤ 16777216) (O : Ow G H L) :
    Loud P n ⟨some d, .call ⟨.builtin .append, #[x, y], #[t, xt]⟩, ty, pos, af, g⟩ σ H fun v' H1 => Ow G H1 (L.set j (eSl v' e r (xs ++ ys))) ∧ (∀ b, (H.get b).isSome = true → b ∉ footV v → H1.get b = H.get b) := by
  simp only [Bool.and_eq_true] at hd
  obtain ⟨inf, hi, hsz⟩ := szT_inv hsz
  simp only [hi, Option.bind_some, Option.map_some, Option.some.injEq] at hz hby
  subst hby
  simp only [Bool.and_eq_true, decide_eq_true_eq] at hzs
  obtain ⟨es, hso, hre⟩ := O.ok j _ hj
  have e1 := hre.length
  have e2 := hr.length
  have hbytes : ∀ m, m ≤ 16777216 → m * inf.bytes ≤ 2 ^ 47 := fun m hm => Nat.le_trans (Nat.mul_le_mul hm hc1) (by decide)
  have hcond : (notInt P xt && decide (z.cells.size = inf.size) && decide (0 < inf.size)) = true := by simp [hxt, hzs, hsz]
  have hok := hr.okFlat
  have hsrc : asrc (oval σ y) inf.size H.get none = some (es2.length, es2.flatten) := by rw [hsz]; exact asrc_slG hw
  have hfl := flat_len hre.each
  have hfl2 := flat_len hr.each
  have key : ∃ v' H1, aappend P #[t, xt] v (oval σ y) H = some (v', H1) ∧ (∀ b ∈ footV v', b ∈ footV v ∨ H.next ≤ b) ∧ SlO e r.sz H1.get v' (es ++ es2) ∧ (∀ b k, H.get b = some k → b ∉ footV v → H1.get b = some k) := by
    rcases hso with ⟨rfl, rfl⟩ | ⟨b, tg, cap, rest, sz', rfl, hb, hl, hcap, htg⟩
    · by_cases hn : es2.length = 0
      · have : es2 = [] := List.length_eq_zero_iff.1 hn
        subst this
        refine ⟨.slice none 0 0, H, ?_, fun b hb => .inl hb, .inl ⟨rfl, rfl⟩, fun b k hk _ => hk⟩
        simp only [aappend, List.getElem?_toArray, List.getElem?_cons_zero, List.getElem?_cons_succ, elemT_inv he, hi, hz, Option.bind_some, hcond, if_true, hsrc]
        rw [if_pos hn]
      · refine ⟨.slice (some ⟨H.next, 0, none⟩) es2.length es2.length, H.push (some ⟨es2.flatten, e, inf.size, true⟩), ?_, fun b hb => ?_, .inr ⟨H.next, none, es2.length, [], inf.size, by simp, by simpa using get_push_new H _, by simpa using hfl2, by simp, .inl ⟨rfl, hsz⟩⟩, fun b k hk _ => get_push_old hk⟩
        · have h47 : es2.length ≤ 2 ^ 47 := by omega
          have hby2 := hbytes es2.length (by omega)
          simp only [aappend, List.getElem?_toArray, List.getElem?_cons_zero, List.getElem?_cons_succ, elemT_inv he, hi, hz, Option.bind_some, hcond, if_true, hsrc]
          rw [if_neg hn, if_pos ⟨hby2, h47⟩]
        · simp [footV] at hb; exact .inr (by omega)
    · have hlt := lt_next hb
      by_cases hn : es2.length = 0
      · have : es2 = [] := List.length_eq_zero_iff.1 hn
        subst this
        refine ⟨.slice (some ⟨b, 0, tg⟩) es.length cap, H, ?_, fun b hb => .inl hb, .inr ⟨b, tg, cap, rest, sz', by simp, by simpa using hb, by simpa using hl, by simpa using hcap, htg⟩, fun b k hk _ => hk⟩
        simp only [aappend, List.getElem?_toArray, List.getElem?_cons_zero, List.getElem?_cons_succ, elemT_inv he, hi, hz, Option.bind_some, hcond, if_true, hsrc]
        rw [if_pos ⟨hn, hcap⟩]
      · have hnn : ¬ (es2.length = 0 ∧ es.length ≤ cap) := fun h => hn h.1
        by_cases hroom : es.length + es2.length ≤ cap
        · have hrl : rest.length = cap * r.sz - es.length * r.sz := by rw [List.length_append] at hl; omega
          have hm1 : (es.length + es2.length) * r.sz ≤ cap * r.sz := Nat.mul_le_mul_right _ hroom
          rw [Nat.add_mul] at hm1
          have sb := SetB.set (k' := ⟨splice (es.flatten ++ rest) (0 + es.length * inf.size) es2.flatten, e, sz', true⟩) hb
          refine ⟨.slice (some ⟨b, 0, tg⟩) (es.length + es2.length) cap, _, ?_, fun b hb => .inl hb, .inr ⟨b, tg, cap, rest.drop (es2.length * r.sz), sz', by simp, ?_, ?_, by simpa using hroom, htg⟩, fun b' k hk hb' => sb.old hk (by simpa [footV] using hb')⟩
          · simp only [aappend, List.getElem?_toArray, List.getElem?_cons_zero, List.getElem?_cons_succ, elemT_inv he, hi, hz, Option.bind_some, hcond, if_true, hsrc]
            rw [if_neg hnn]
            simp only [hb, Option.bind_some]
            have hfit : 0 + (es.length + es2.length) * inf.size ≤ (es.flatten ++ rest).length := by rw [hl, hsz, Nat.add_mul]; omega
            rw [if_pos hroom, if_pos (by simp only [Bool.and_eq_true, decide_eq_true_eq]; exact ⟨⟨trivial, hok⟩, hfit⟩)]
          · rw [sb.get]
            congr 2
            simp only [Nat.zero_add, splice, hsz]
            rw [← hfl, List.take_left, ← List.drop_drop, List.drop_left, hfl2]
            simp
          · simp only [List.flatten_append, List.length_append, List.length_drop, hrl, hfl, hfl2]; omega
        · have h47 : es.length + es2.length ≤ 2 ^ 47 := by omega
          have hby2 := hbytes _ (show es.length + es2.length ≤ 16777216 by omega)
          have hins : 0 + cap * inf.size ≤ (es.flatten ++ rest).length := by rw [hl, hsz]; omega
          have htk : ((es.flatten ++ rest).drop 0).take (es.length * inf.size) = es.flatten := by rw [List.drop_zero, hsz, ← hfl, List.take_left]
          rcases htg with ⟨rfl, rfl⟩ | rfl
          · refine ⟨.slice (some ⟨H.next, 0, none⟩) (es.length + es2.length) (es.length + es2.length), (H.set b none).push (some ⟨es.flatten ++ es2.flatten, e, inf.size, true⟩), ?_, fun c hc => ?_, .inr ⟨H.next, none, es.length + es2.length, [], inf.size, by simp, ?_, by simp [hfl, hfl2, Nat.add_mul], by simp, .inl ⟨rfl, hsz⟩⟩, fun b' k hk hb' => ?_⟩
            · simp only [aappend, List.getElem?_toArray, List.getElem?_cons_zero, List.getElem?_cons_succ, elemT_inv he, hi, hz, Option.bind_some, hcond, if_true, hsrc]
              rw [if_neg hnn]
              simp only [hb, Option.bind_some]
              rw [if_neg hroom, if_pos ⟨hcap, hby2, h47, hins⟩, if_pos (by simp [hok, hsz])]
              simp only [htk]
            · simp [footV, AH.set] at hc; exact .inr (by omega)
            · have := get_push_new (H.set b none) (some ⟨es.flatten ++ es2.flatten, e, inf.size, true⟩)
              simpa [AH.set] using this
            · apply get_push_old
              rw [get_set_upd _ _ hb]
              have : b' ≠ b := by simpa [footV] using hb'
              simp [upd, this, hk]
          · refine ⟨.slice (some ⟨H.next, 0, none⟩) (es.length + es2.length) (es.length + es2.length), H.push (some ⟨es.flatten ++ es2.flatten, e, inf.size, true⟩), ?_, fun c hc => ?_, .inr ⟨H.next, none, es.length + es2.length, [], inf.size, by simp, by simpa using get_push_new H _, by simp [hfl, hfl2, Nat.add_mul], by simp, .inl ⟨rfl, hsz⟩⟩, fun b' k hk _ => get_push_old hk⟩
            · simp only [aappend, List.getElem?_toArray, List.getElem?_cons_zero, List.getElem?_cons_succ, elemT_inv he, hi, hz, Option.bind_some, hcond, if_true, hsrc]
              rw [if_neg hnn]
              simp only [hb, Option.bind_some]
              rw [if_neg hroom, if_pos ⟨hcap, hby2, h47, hins⟩]
              simp only [htk]
            · simp [footV] at hc; exact .inr (by omega)
  obtain ⟨v', H1, h1, h2, h3, h4⟩ := key
  refine ⟨v', H1, astep_ok ?_, O.put hj _ h2 ⟨_, h3, hre.append hr⟩ h4, fun b hb hf => ?_⟩
  · simp only [astep, apure, aread, aalloc, awrite, List.toList_toArray, opnd_oval hd.1, opnd_oval hd.2, Option.bind_some, hx]
    exact h1
  · obtain ⟨k, hk⟩ := Option.isSome_iff_exists.1 hb
    rw [hk]; exact h4 b k hk hf
/-- What append takes: a frozen slice, or a piece. -/
theorem src_frz {xs : List α} (h : (rSl r).rep G [v] xs) (O : Ow G H L) : ∃ es, SlG H.get r.sz v es ∧ All2 (r.rep G) es xs := by
  obtain ⟨v', es, hv, h1, h2⟩ := h
  cases hv
  exact ⟨es, h1.le O.fro, h2⟩
theorem src_own {xs : List α} (hj : L[j]? = some (eSl v e r xs)) (O : Ow G H L) : ∃ es, SlG H.get r.sz v es ∧ All2 (r.rep G) es xs := by
  obtain ⟨es, h1, h2⟩ := O.ok j _ hj
  exact ⟨es, h1.slG h2.each, h2⟩
/-- An empty slice is a piece. -/
theorem Ow.nilSl (O : Ow G H L) (e : TypeId) (r : RT α) : Ow G H (eSl (.slice none 0 0) e r [] :: L) := by
  refine ⟨O.fro, fun i x hx => ?_, fun i i' x x' hii hx hx' b hb => ?_, fun i x hx b hb => ?_⟩
  · cases i with
    | zero => simp at hx; subst hx; exact ⟨[], .inl ⟨rfl, rfl⟩, .nil⟩
    | succ i => exact O.ok i x (by simpa using hx)
  · cases i with
    | zero => simp at hx; subst hx; simp [eSl, footV] at hb
    | succ i =>
      cases i' with
      | zero => simp at hx'; subst hx'; simp [eSl, footV]
      | succ i' => exact O.dis i i' x x' (by omega) (by simpa using hx) (by simpa using hx') b hb
  · cases i with
    | zero => simp at hx; subst hx; simp [eSl, footV] at hb
    | succ i => exact O.apart i x (by simpa using hx) b hb
end

/-! ### The control of a printed function -/
theorem gd_inv {α : Type} {c : Prop} [Decidable c] {a : Option α} {r : α} (h : (if c then a else none) = some r) : c ∧ a = some r := by
  split at h
  · exact ⟨by assumption, h⟩
  · cases h
theorem pos_inv {α : Type} {c : Prop} [Decidable c] {a b : Option α} {r : α} (hc : c) (h : (if c then a else b) = some r) : a = some r := by rwa [if_pos hc] at h
theorem neg_inv {α : Type} {c : Prop} [Decidable c] {a b : Option α} {r : α} (hc : ¬ c) (h : (if c then a else b) = some r) : b = some r := by rwa [if_neg hc] at h
theorem bd_inv {α β : Type} {m : Option α} {f : α → Option β} {r : β} (h : m.bind f = some r) : ∃ x, m = some x ∧ f x = some r := Option.bind_eq_some_iff.1 h
def lt {α β : Type} (x : α) (f : α → Option β) : Option β := f x
theorem lt_inv {α β : Type} {x : α} {f : α → Option β} {r : β} (h : lt x f = some r) : ∃ y, x = y ∧ f y = some r := ⟨x, rfl, h⟩
def bindS {α β γ : Type} (m : Option (α ⊕ β)) (f : α → Option γ) (g : β → Option γ) : Option γ := m.bind fun x => match x with | .inl a => f a | .inr b => g b
def outS {α β γ : Type} (x : α ⊕ β) (f : α → Option γ) (g : β → Option γ) : Option γ := match x with | .inl a => f a | .inr b => g b
theorem bindS_inv {α β γ : Type} {m : Option (α ⊕ β)} {f : α → Option γ} {g : β → Option γ} {r : γ} (h : bindS m f g = some r) : ∃ x, m = some x ∧ outS x f g = some r := Option.bind_eq_some_iff.1 h
def midQ (Φ : (Nat → Value) → AH → Prop) (Q : QX) : QX := fun ex σ H => match ex with | .normal => Φ σ H | e => Q e σ H
theorem AW.mid {P : Program} {n : Nat} {σ : Nat → Value} {H : AH} {x y : Code} {Q : QX} (Φ : (Nat → Value) → AH → Prop) (h : AW P n x σ H (midQ Φ Q)) (hr : ∀ σ' H', (∀ t, wrC x t = false → σ' t = σ t) → Φ σ' H' → AW P n y σ' H' Q) : AW P n (.seq x y) σ H Q :=
  .seq (h.mono fun ex σ' H' hf hq => by cases ex <;> first | exact hr σ' H' hf hq | exact hq)
end
end Go.Am
