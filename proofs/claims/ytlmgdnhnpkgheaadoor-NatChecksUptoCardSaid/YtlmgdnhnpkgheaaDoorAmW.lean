/- Rules for conversions of integers, parts of slices, copy. -/
import Derived.Test.YtlmgdnhnpkgheaaDoorAmV
namespace Go.Am
open Go
noncomputable section
set_option linter.unusedSimpArgs false
set_option linter.unusedVariables false
section
variable {P : Program} {n : Nat} {σ : Nat → Value} {H H1 : AH} {ops : Array Oper} {l : List Oper} {Q : (Nat → Value) → AH → Prop} {d : Tmp} {ty t xt e src dst : TypeId} {pos : String} {af : Array Edge} {g : Option (Nat × Bool)} {v w u : Value} {x y : Operand} {s : List Value} {M : List Nat} {R : ReadL} {L : LoudL} {i : Nat}

def intT (P : Program) (t : TypeId) : Option IntKind := match P.underlying t with | some (.int k) => some k | _ => none
theorem intT_inv {k : IntKind} (h : intT P t = some k) : P.underlying t = some (.int k) := by
  unfold intT at h; split at h
  · rename_i hu; cases h; exact hu
  · cases h
theorem v_conv {k k1 k2 : IntKind} {a : Int} (h1 : intT P src = some k1) (h2 : intT P dst = some k2) (hx : opnd s x = some (.int k a)) : apure P s ⟨some d, .convert src dst x, ty, pos, af, g⟩ = some (.int k2 (k2.wrap a)) := by
  have hc : ∀ k a, closed (.int k a) = true := fun _ _ => rfl
  have hq : (convert src dst (.int k a)).pureRun P = some (.int k2 (k2.wrap a)) := by
    unfold convert
    rw [pureRun_bind, pureRun_under (intT_inv h1), Option.bind_some, pureRun_bind, pureRun_under (intT_inv h2)]
    rfl
  simp [apure, hx, agen, isSel, Op.operands, hc, execOp, pureRun_bind, pureRun_map, pureRun_pure, hq]
theorem v_sliceLo {b off len cap sz : Nat} {tg : Option Nat} {k : IntKind} {j : Nat} {xl : Operand} (he : elemT P t = some e) (hz : szT P e = some sz) (hx : opnd s x = some (.slice (some ⟨b, off, tg⟩) len cap)) (hy : opnd s xl = some (.int k j)) (hj : j ≤ len) (hc : len ≤ cap) (ht : tg = none ∨ tg = some 0) :
    apure P s ⟨some d, .slice t x (some xl) none none, ty, pos, af, g⟩ = some (.slice (some ⟨b, off + j * sz, tg⟩) (len - j) (cap - j)) := by
  obtain ⟨inf, hi, rfl⟩ := szT_inv hz
  simp [apure, hx, hy, opndO, aSlice, elemT_inv he, hi, bnd, hj, hc, ht]
theorem v_sliceHi {b off len cap sz : Nat} {tg : Option Nat} {k : IntKind} {j : Nat} {xh : Operand} (he : elemT P t = some e) (hz : szT P e = some sz) (hx : opnd s x = some (.slice (some ⟨b, off, tg⟩) len cap)) (hy : opnd s xh = some (.int k j)) (hj : j ≤ cap) (hc : len ≤ cap) (ht : tg = none ∨ tg = some 0) :
    apure P s ⟨some d, .slice t x none (some xh) none, ty, pos, af, g⟩ = some (.slice (some ⟨b, off, tg⟩) j cap) := by
  obtain ⟨inf, hi, rfl⟩ := szT_inv hz
  simp [apure, hx, hy, opndO, aSlice, elemT_inv he, hi, bnd, hj, hc, ht]
/-- copy, where something is copied. -/
theorem copy_step {b off dl cap b2 off2 n2 c2 sz : Nat} {tg tg2 : Option Nat} {k k2 : ABlk} {dd : Option Tmp} (hd : (ook n x && ook n y) = true) (he : elemT P t = some e) (hz : szT P e = some sz) (hx : oval σ x = .slice (some ⟨b, off, tg⟩) dl cap) (hy : oval σ y = .slice (some ⟨b2, off2, tg2⟩) n2 c2)
    (hk : H.get b = some k) (hk2 : H.get b2 = some k2) (ho : k.own = true) (hp : 0 < min dl n2) (hsz : 0 < sz) (hl2 : off2 + min dl n2 * sz ≤ k2.cells.length) (hl : off + min dl n2 * sz ≤ k.cells.length) (hok : okCells ((k2.cells.drop off2).take (min dl n2 * sz)) = true) :
    ∃ H1, SetB H H1 b { k with cells := splice k.cells off ((k2.cells.drop off2).take (min dl n2 * sz)) } ∧ StepOk P ⟨dd, .call ⟨.builtin .copy, #[x, y], #[t, xt]⟩, ty, pos, af, g⟩ (toL n σ) H (.int .i64 (min n2 dl : Nat)) H1 := by
  simp only [Bool.and_eq_true] at hd
  obtain ⟨inf, hi, rfl⟩ := szT_inv hz
  have hlen : ((k2.cells.drop off2).take (min dl n2 * inf.size)).length = min dl n2 * inf.size := by simp; omega
  obtain ⟨H1, h1, h2⟩ := store_set (off := off) (vs := (k2.cells.drop off2).take (min dl n2 * inf.size)) hk ho hok (by rw [hlen]; exact hl)
  refine ⟨H1, h2, astep_ok ?_⟩
  have hmul : 0 < min dl n2 * inf.size := Nat.mul_pos hp hsz
  have hne : (k2.cells.drop off2).take (min dl n2 * inf.size) ≠ [] := fun h => by rw [h] at hlen; simp at hlen; omega
  have hq : acopy P #[t, xt] (.slice (some ⟨b, off, tg⟩) dl cap) (.slice (some ⟨b2, off2, tg2⟩) n2 c2) H = some (.int .i64 (min n2 dl : Nat), H1) := by
    have hm : Nat.min dl n2 = min dl n2 := rfl
    have hm2 : Nat.min n2 dl = min dl n2 := Nat.min_comm n2 dl
    have hm3 : min n2 dl = min dl n2 := Nat.min_comm n2 dl
    simp only [acopy, List.getElem?_toArray, List.getElem?_cons_zero, elemT_inv he, hi, Option.bind_some, asrc, Option.map_some, Option.getD_some, hm, hm2, hm3]
    rw [if_neg (by omega)]
    simp only [hk2, Option.bind_some]
    rw [if_pos hl2]
    simp only [Option.bind_some]
    rw [if_neg hne, h1]
    simp only [Option.map_some, hm2]
  simp only [astep, apure, aread, aalloc, awrite, List.toList_toArray, oo hd.1 hx, oo hd.2 hy, Option.bind_some]
  exact hq
theorem copy_none {b off dl cap sz : Nat} {tg : Option Nat} {dd : Option Tmp} {n2 : Nat} (hd : (ook n x && ook n y) = true) (he : elemT P t = some e) (hz : szT P e = some sz) (hx : oval σ x = .slice (some ⟨b, off, tg⟩) dl cap) (hs : isSlV (oval σ y) n2) (hp : min dl n2 = 0) :
    StepOk P ⟨dd, .call ⟨.builtin .copy, #[x, y], #[t, xt]⟩, ty, pos, af, g⟩ (toL n σ) H (.int .i64 0) H := by
  simp only [Bool.and_eq_true] at hd
  obtain ⟨inf, hi, rfl⟩ := szT_inv hz
  refine astep_ok ?_
  have hq : acopy P #[t, xt] (.slice (some ⟨b, off, tg⟩) dl cap) (oval σ y) H = some (.int .i64 0, H) := by
    rcases hs with ⟨hy, rfl⟩ | ⟨b2, off2, tg2, c2, hy⟩
    · simp [acopy, elemT_inv he, hi, asrc, hy]
    · have hm : Nat.min n2 dl = 0 := (Nat.min_comm n2 dl).trans hp
      have hor : n2 = 0 ∨ dl = 0 := by omega
      simp only [acopy, List.getElem?_toArray, List.getElem?_cons_zero, elemT_inv he, hi, Option.bind_some, hy, asrc, Option.map_some, Option.getD_some]
      rw [if_pos hm, Option.bind_some]
      rw [if_pos rfl, if_pos hor]
  simp only [astep, apure, aread, aalloc, awrite, List.toList_toArray, oo hd.1 hx, opnd_oval hd.2, Option.bind_some]
  exact hq
theorem W.step {dd : Option Tmp} {op : Op} (hg : gok n ops σ g true) (hd : dok n dd = true) (hs : StepOk P ⟨dd, op, ty, pos, af, g⟩ (toL n σ) H v H1) (hr : AWO P n ops l (upo σ dd v) H1 Q) : AWO P n ops (⟨dd, op, ty, pos, af, g⟩ :: l) σ H Q :=
  .step (wanted_gok hg) hd hs hr
theorem v_conv' {k k1 k2 : IntKind} {a a' : Int} (h1 : intT P src = some k1) (h2 : intT P dst = some k2) (hx : opnd s x = some (.int k a)) (hw : k2.wrap a = a') : apure P s ⟨some d, .convert src dst x, ty, pos, af, g⟩ = some (.int k2 a') := by
  rw [v_conv h1 h2 hx, hw]
theorem W.copy {b off dl cap b2 off2 n2 c2 sz : Nat} {tg tg2 : Option Nat} {k k2 : ABlk} (hg : gok n ops σ g true) (hd : (Nat.blt d n && (ook n x && ook n y)) = true) (he : elemT P t = some e) (hz : szT P e = some sz) (hx : oval σ x = .slice (some ⟨b, off, tg⟩) dl cap) (hy : oval σ y = .slice (some ⟨b2, off2, tg2⟩) n2 c2)
    (hk : H.get b = some k) (hk2 : H.get b2 = some k2) (ho : k.own = true) (hp : 0 < min dl n2) (hsz : 0 < sz) (hl2 : off2 + min dl n2 * sz ≤ k2.cells.length) (hl : off + min dl n2 * sz ≤ k.cells.length) (hok : okCells ((k2.cells.drop off2).take (min dl n2 * sz)) = true)
    (hr : ∀ H1, SetB H H1 b { k with cells := splice k.cells off ((k2.cells.drop off2).take (min dl n2 * sz)) } → AWO P n ops l (up σ d (.int .i64 (min n2 dl : Nat))) H1 Q) : AWO P n ops (⟨some d, .call ⟨.builtin .copy, #[x, y], #[t, xt]⟩, ty, pos, af, g⟩ :: l) σ H Q := by
  rw [Bool.and_eq_true] at hd
  obtain ⟨H1, h1, h2⟩ := copy_step (P := P) (dd := some d) (t := t) (xt := xt) (ty := ty) (pos := pos) (af := af) (g := g) hd.2 he hz hx hy hk hk2 ho hp hsz hl2 hl hok
  exact .step (wanted_gok hg) hd.1 h2 (hr H1 h1)
theorem W.copy0 {b off dl cap sz n2 : Nat} {tg : Option Nat} (hg : gok n ops σ g true) (hd : (Nat.blt d n && (ook n x && ook n y)) = true) (he : elemT P t = some e) (hz : szT P e = some sz) (hx : oval σ x = .slice (some ⟨b, off, tg⟩) dl cap) (hs : isSlV (oval σ y) n2) (hp : min dl n2 = 0)
    (hr : AWO P n ops l (up σ d (.int .i64 0)) H Q) : AWO P n ops (⟨some d, .call ⟨.builtin .copy, #[x, y], #[t, xt]⟩, ty, pos, af, g⟩ :: l) σ H Q := by
  rw [Bool.and_eq_true] at hd
  exact .step (wanted_gok hg) hd.1 (copy_none hd.2 he hz hx hs hp) hr
theorem D.copy {b off dl cap b2 off2 n2 c2 sz : Nat} {tg tg2 : Option Nat} {k k2 : ABlk} (hg : gok n ops σ g true) (hd : (Nat.blt d n && (ook n x && ook n y)) = true) (he : elemT P t = some e) (hz : szT P e = some sz) (hx : oval σ x = .slice (some ⟨b, off, tg⟩) dl cap) (hy : oval σ y = .slice (some ⟨b2, off2, tg2⟩) n2 c2)
    (hk : H.get b = some k) (hk2 : H.get b2 = some k2) (ho : k.own = true) (hp : 0 < min dl n2) (hsz : 0 < sz) (hl2 : off2 + min dl n2 * sz ≤ k2.cells.length) (hl : off + min dl n2 * sz ≤ k.cells.length) (hok : okCells ((k2.cells.drop off2).take (min dl n2 * sz)) = true)
    (hR : RS H R) (hne : ∀ r ∈ R, (M.getD i 0).testBit r.1 = true ∨ r.2 ≠ b) (hL : ∀ q ∈ L, (M.getD i 0).testBit q.1 = true)
    (hr : ∀ H1, SetB H H1 b { k with cells := splice k.cells off ((k2.cells.drop off2).take (min dl n2 * sz)) } → RS H1 R → AWD P n ops M l (i + 1) R ((i, H, H1) :: L) (up σ d (.int .i64 (min n2 dl : Nat))) H1 Q) : AWD P n ops M (⟨some d, .call ⟨.builtin .copy, #[x, y], #[t, xt]⟩, ty, pos, af, g⟩ :: l) i R L σ H Q := by
  rw [Bool.and_eq_true] at hd
  obtain ⟨H1, h1, h2⟩ := copy_step (P := P) (dd := some d) (t := t) (xt := xt) (ty := ty) (pos := pos) (af := af) (g := g) hd.2 he hz hx hy hk hk2 ho hp hsz hl2 hl hok
  exact D.loud (dd := some d) hg hd.1 h2 (fun r hr' => (hne r hr').imp (fun h => h) fun h => h1.other _ h) hL (hr H1 h1 (hR.set h1))
theorem wanted_undef {j : Nat} {want : Bool} {d' : Tmp} {o : Oper} (ho : o.guard = some (j, want)) (h1 : (ops[j]?).bind (·.dst) = some d') (h2 : Nat.blt d' n = true) (h3 : σ d' = undef) : Region.wanted o (ayield ops (toL n σ)) = false := by
  unfold Region.wanted ayield
  rw [ho]
  simp only [h1, Option.bind_some, toL_get (blt_iff.1 h2), h3]
  rfl
theorem W.skipU {op : Op} {dd : Option Tmp} {j : Nat} {want : Bool} {d' : Tmp} (h1 : (ops[j]?).bind (·.dst) = some d') (h2 : Nat.blt d' n = true) (h3 : σ d' = undef) (hd : dok n dd = true) (hr : AWO P n ops l (upo σ dd undef) H Q) : AWO P n ops (⟨dd, op, ty, pos, af, some (j, want)⟩ :: l) σ H Q :=
  .skip (wanted_undef rfl h1 h2 h3) hd hr
theorem D.skipU {op : Op} {dd : Option Tmp} {j : Nat} {want : Bool} {d' : Tmp} (h1 : (ops[j]?).bind (·.dst) = some d') (h2 : Nat.blt d' n = true) (h3 : σ d' = undef) (hd : dok n dd = true) (hr : AWD P n ops M l (i + 1) R L (upo σ dd undef) H Q) : AWD P n ops M (⟨dd, op, ty, pos, af, some (j, want)⟩ :: l) i R L σ H Q := by
  obtain ⟨es, σ', H', h4, h5, h6⟩ := hr
  exact ⟨_, σ', H', .skip (wanted_undef rfl h1 h2 h3) (by rw [putd_upo hd]; exact h4), fr_upo h5, h6⟩
end
end
end Go.Am
