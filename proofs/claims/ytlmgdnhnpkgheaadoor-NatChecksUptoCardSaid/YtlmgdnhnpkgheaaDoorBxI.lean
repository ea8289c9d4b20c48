/- Parts of texts and of slices. -/
import Derived.Test.YtlmgdnhnpkgheaaDoorBxH
namespace Go.Am
open Go
set_option linter.unusedSimpArgs false
set_option linter.unusedVariables false
section
variable {P : Program} {d : Tmp} {ty t e : TypeId} {pos : String} {af : Array Edge} {g : Option (Nat × Bool)} {x xl xh : Operand} {s : List Value} {a r : ByteArray} {k k2 : IntKind} {l h : Int}
theorem ssl_inv (q : ssl a l h = some r) : 0 ≤ l ∧ l ≤ h ∧ h ≤ a.size ∧ r = a.extract l.toNat h.toNat := by
  unfold ssl at q
  split at q
  · rename_i c; cases q; exact ⟨c.1, c.2.1, c.2.2, rfl⟩
  · cases q
theorem bound_ok {y : Nat} {c : BoundsCode} (h0 : 0 ≤ l) (h1 : l ≤ y) : (Instr.sliceBound (.int k l) y c).pureRun P = some l.toNat := by
  unfold Instr.sliceBound
  simp [asIntOf, pureRun_bind, pureRun_pure, h0, h1]
theorem v_sslLH (hu : P.underlying t = some .string) (hx : opnd s x = some (.string a)) (hl : opnd s xl = some (.int k l)) (hh : opnd s xh = some (.int k2 h)) (q : ssl a l h = some r) : apure P s ⟨some d, .slice t x (some xl) (some xh) none, ty, pos, af, g⟩ = some (.string r) := by
  obtain ⟨h1, h2, h3, rfl⟩ := ssl_inv q
  have hc : ∀ b, closed (.string b) = true := fun _ => rfl
  have hi : ∀ k i, closed (.int k i) = true := fun _ _ => rfl
  have hl' : l ≤ (h.toNat : Nat) := by omega
  simp [apure, hx, hl, hh, agen, isSel, Op.operands, hc, hi, execOp, Instr.sliceAt, Instr.slice, Instr.sliceBounds, pureRun_bind, pureRun_map, pureRun_pure, pureRun_under hu, bound_ok (show 0 ≤ h by omega) h3, bound_ok h1 hl']
theorem v_sslL (hu : P.underlying t = some .string) (hx : opnd s x = some (.string a)) (hl : opnd s xl = some (.int k l)) (q : ssl a l (a.size : Int) = some r) : apure P s ⟨some d, .slice t x (some xl) none none, ty, pos, af, g⟩ = some (.string r) := by
  obtain ⟨h1, h2, h3, rfl⟩ := ssl_inv q
  have hc : ∀ b, closed (.string b) = true := fun _ => rfl
  have hi : ∀ k i, closed (.int k i) = true := fun _ _ => rfl
  simp [apure, hx, hl, agen, isSel, Op.operands, hc, hi, execOp, Instr.sliceAt, Instr.slice, Instr.sliceBounds, pureRun_bind, pureRun_map, pureRun_pure, pureRun_under hu, bound_ok h1 h2]
theorem v_sslH (hu : P.underlying t = some .string) (hx : opnd s x = some (.string a)) (hh : opnd s xh = some (.int k2 h)) (q : ssl a 0 h = some r) : apure P s ⟨some d, .slice t x none (some xh) none, ty, pos, af, g⟩ = some (.string r) := by
  obtain ⟨h1, h2, h3, rfl⟩ := ssl_inv q
  have hc : ∀ b, closed (.string b) = true := fun _ => rfl
  have hi : ∀ k i, closed (.int k i) = true := fun _ _ => rfl
  simp [apure, hx, hh, agen, isSel, Op.operands, hc, hi, execOp, Instr.sliceAt, Instr.slice, Instr.sliceBounds, pureRun_bind, pureRun_map, pureRun_pure, pureRun_under hu, bound_ok (show 0 ≤ h by omega) h3]
end
section
variable {α : Type} {R : RT α} {G : GM} {P : Program} {d : Tmp} {ty t e : TypeId} {pos : String} {af : Array Edge} {g : Option (Nat × Bool)} {x xl xh : Operand} {k k2 : IntKind} {v : Value} {xs ys : List α}
theorem sl_form (f : (rSl R).rep G [v] xs) : ∃ a n c, v = .slice a n c := by
  obtain ⟨v', es, hv, ⟨_, ⟨h, _⟩ | ⟨b, off, tg, cap, k, h, _⟩ | ⟨b, off, tg, cap, h, _⟩⟩, _⟩ := f
  · cases hv; exact ⟨_, _, _, h⟩
  · cases hv; exact ⟨_, _, _, h⟩
  · cases hv; exact ⟨_, _, _, h⟩
theorem flat_drop {sz : Nat} : ∀ (es : List (List Value)) (k : Nat), (∀ x ∈ es, x.length = sz) → es.flatten.drop (k * sz) = (es.drop k).flatten
  | [], _, _ => by simp
  | x :: r, 0, _ => by simp
  | x :: r, k + 1, h => by
    have h1 := h x (by simp)
    have := flat_drop r k (fun y hy => h y (by simp [hy]))
    rw [List.drop_succ_cons, List.flatten_cons, Nat.add_mul, Nat.one_mul, Nat.add_comm, ← h1, List.drop_length_add_append, h1, this]
theorem flat_take' {sz : Nat} : ∀ (es : List (List Value)) (k : Nat), (∀ x ∈ es, x.length = sz) → es.flatten.take (k * sz) = (es.take k).flatten
  | [], _, _ => by simp
  | x :: r, 0, _ => by simp
  | x :: r, k + 1, h => by
    have h1 := h x (by simp)
    have := flat_take' r k (fun y hy => h y (by simp [hy]))
    rw [List.take_succ_cons, List.flatten_cons, List.flatten_cons, Nat.add_mul, Nat.one_mul, Nat.add_comm, ← h1, List.take_length_add_append, h1, this]
theorem aSlice_sub (f : (rSl R).rep G [v] xs) (he : elemT P t = some e) (hz : szT P e = some R.sz) {lo hi : Option Value} {l h : Nat} (hlo : (lo = none ∧ l = 0) ∨ ∃ k, lo = some (.int k l)) (hhi : (hi = none ∧ h = xs.length) ∨ ∃ k, hi = some (.int k h)) (hl : l ≤ h) (hh : h ≤ xs.length) :
    ∃ w, aSlice P t v lo hi none = some w ∧ (rSl R).rep G [w] ((xs.drop l).take (h - l)) := by
  obtain ⟨inf, hinf, hsz⟩ := szT_inv hz
  obtain ⟨v', es, hv, ⟨hes, hs⟩, h2⟩ := f
  cases hv
  have hlen := h2.length
  have hbl : ∀ y, h ≤ y → (bnd lo 0 h) = some l := fun y _ => by
    rcases hlo with ⟨rfl, rfl⟩ | ⟨k, rfl⟩
    · rfl
    · simp [bnd, hl]
  have hbh : ∀ len cap, len = xs.length → h ≤ cap → bnd hi len cap = some h := fun len cap e1 e2 => by
    rcases hhi with ⟨rfl, rfl⟩ | ⟨k, rfl⟩
    · simp [bnd, e1]
    · simp [bnd, e2]
  rcases hs with ⟨rfl, rfl⟩ | ⟨b, off, tg, cap, k, rfl, h3, h4, h5, h6, h7⟩ | ⟨b, off, tg, cap, rfl, rfl, h7⟩
  · have e0 : xs.length = 0 := by simpa using hlen.symm
    have e1 : h = 0 := by omega
    subst e1
    have e2 : l = 0 := by omega
    subst e2
    refine ⟨.slice none 0 0, ?_, ?_⟩
    · simp [aSlice, elemT_inv he, hinf, hbh 0 0 e0.symm (Nat.le_refl _), hbl 0 (Nat.le_refl _), show bnd none 0 0 = some 0 from rfl]
    · simpa using (sl_nil : (rSl R).rep G [.slice none 0 0] [])
  · refine ⟨.slice (some ⟨b, off + l * R.sz, tg⟩) (h - l) (cap - l), ?_, ?_⟩
    · simp only [aSlice, elemT_inv he, hinf, Option.bind_some, hbh _ _ hlen (show h ≤ cap by omega), hbl h (Nat.le_refl _), hsz]
      rw [if_pos ⟨h6, h7⟩]
    · have hl2 : ((es.drop l).take (h - l)).length = h - l := by rw [List.length_take, List.length_drop]; omega
      refine ⟨_, (es.drop l).take (h - l), rfl, ⟨fun c hc => hes c (List.mem_of_mem_drop (List.mem_of_mem_take hc)), .inr (.inl ⟨b, off + l * R.sz, tg, cap - l, k, by rw [hl2], h3, ?_, ?_, by rw [hl2]; omega, h7⟩)⟩, (h2.drop l).take (h - l)⟩
      · rw [hl2]
        have : (l + (h - l)) * R.sz ≤ es.length * R.sz := Nat.mul_le_mul_right _ (by omega)
        rw [Nat.add_mul] at this
        omega
      · rw [hl2, ← List.drop_drop, ← flat_take' _ _ (fun c hc => hes c (List.mem_of_mem_drop hc)), ← flat_drop _ _ hes, ← h5, List.drop_take, List.take_take]
        congr 1
        have h8 : (h - l) * R.sz ≤ es.length * R.sz - l * R.sz := by rw [← Nat.sub_mul]; exact Nat.mul_le_mul_right _ (by omega)
        omega
  · have e0 : xs.length = 0 := by simpa using hlen.symm
    have e1 : h = 0 := by omega
    subst e1
    have e2 : l = 0 := by omega
    subst e2
    refine ⟨.slice (some ⟨b, off + 0 * R.sz, tg⟩) 0 cap, ?_, ?_⟩
    · simp only [aSlice, elemT_inv he, hinf, Option.bind_some, hbh _ _ e0.symm (Nat.zero_le _), hbl 0 (Nat.le_refl _), hsz]
      rw [if_pos ⟨Nat.zero_le _, h7⟩]
      simp
    · simp only [List.drop_zero, Nat.sub_zero, List.take_zero]
      exact ⟨_, [], rfl, ⟨by simp, .inr (.inr ⟨b, off + 0 * R.sz, tg, cap, rfl, rfl, h7⟩)⟩, .nil⟩
theorem lsl_inv {l h : Int} (q : lsl xs l h = some ys) : ∃ l' h' : Nat, l = l' ∧ h = h' ∧ l' ≤ h' ∧ h' ≤ xs.length ∧ ys = (xs.drop l').take (h' - l') := by
  unfold lsl at q
  split at q
  · rename_i c; cases q; exact ⟨l.toNat, h.toNat, by omega, by omega, by omega, by omega, rfl⟩
  · cases q
theorem sub_slLH {l h : Int} (f : (rSl R).rep G [v] xs) (he : elemT P t = some e) (hz : szT P e = some R.sz) (q : lsl xs l h = some ys) : ∃ w, (∀ {s : List Value} {d ty pos af g x xl xh k k2}, opnd s x = some v → opnd s xl = some (.int k l) → opnd s xh = some (.int k2 h) → apure P s ⟨some d, .slice t x (some xl) (some xh) none, ty, pos, af, g⟩ = some w) ∧ (rSl R).rep G [w] ys := by
  obtain ⟨l', h', rfl, rfl, h1, h2, rfl⟩ := lsl_inv q
  obtain ⟨a, n, c, rfl⟩ := sl_form f
  obtain ⟨w, h3, h4⟩ := aSlice_sub f he hz (lo := some (.int .i64 l')) (hi := some (.int .i64 h')) (.inr ⟨_, rfl⟩) (.inr ⟨_, rfl⟩) h1 h2
  refine ⟨w, fun {s d ty pos af g x xl xh k k2} hx hl hh => ?_, h4⟩
  obtain ⟨w', h5, _⟩ := aSlice_sub f he hz (lo := some (.int k l')) (hi := some (.int k2 h')) (.inr ⟨_, rfl⟩) (.inr ⟨_, rfl⟩) h1 h2
  have h6 : aSlice P t (.slice a n c) (some (.int k l')) (some (.int k2 h')) none = aSlice P t (.slice a n c) (some (.int .i64 l')) (some (.int .i64 h')) none := rfl
  simp [apure, hx, opndO, hl, hh, h6, h3]
theorem sub_slL {l : Int} (f : (rSl R).rep G [v] xs) (he : elemT P t = some e) (hz : szT P e = some R.sz) (q : lsl xs l (xs.length : Int) = some ys) : ∃ w, (∀ {s : List Value} {d ty pos af g x xl k}, opnd s x = some v → opnd s xl = some (.int k l) → apure P s ⟨some d, .slice t x (some xl) none none, ty, pos, af, g⟩ = some w) ∧ (rSl R).rep G [w] ys := by
  obtain ⟨l', h', rfl, h0, h1, h2, rfl⟩ := lsl_inv q
  obtain rfl : h' = xs.length := by omega
  obtain ⟨a, n, c, rfl⟩ := sl_form f
  obtain ⟨w, h3, h4⟩ := aSlice_sub f he hz (lo := some (.int .i64 l')) (hi := none) (.inr ⟨_, rfl⟩) (.inl ⟨rfl, rfl⟩) h1 h2
  refine ⟨w, fun {s d ty pos af g x xl k} hx hl => ?_, h4⟩
  have h6 : aSlice P t (.slice a n c) (some (.int k l')) none none = aSlice P t (.slice a n c) (some (.int .i64 l')) none none := rfl
  simp [apure, hx, opndO, hl, h6, h3]
theorem sub_slH {h : Int} (f : (rSl R).rep G [v] xs) (he : elemT P t = some e) (hz : szT P e = some R.sz) (q : lsl xs 0 h = some ys) : ∃ w, (∀ {s : List Value} {d ty pos af g x xh k2}, opnd s x = some v → opnd s xh = some (.int k2 h) → apure P s ⟨some d, .slice t x none (some xh) none, ty, pos, af, g⟩ = some w) ∧ (rSl R).rep G [w] ys := by
  obtain ⟨l', h', h0, rfl, h1, h2, rfl⟩ := lsl_inv q
  obtain rfl : l' = 0 := by omega
  obtain ⟨a, n, c, rfl⟩ := sl_form f
  obtain ⟨w, h3, h4⟩ := aSlice_sub f he hz (lo := none) (hi := some (.int .i64 h')) (.inl ⟨rfl, rfl⟩) (.inr ⟨_, rfl⟩) h1 h2
  refine ⟨w, fun {s d ty pos af g x xh k2} hx hh => ?_, h4⟩
  have h6 : aSlice P t (.slice a n c) none (some (.int k2 h')) none = aSlice P t (.slice a n c) none (some (.int .i64 h')) none := rfl
  simp [apure, hx, opndO, hh, h6, h3]
end
end Go.Am
