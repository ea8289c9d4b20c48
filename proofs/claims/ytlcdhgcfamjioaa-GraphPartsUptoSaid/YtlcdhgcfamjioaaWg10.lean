/- GraphParts over the statement's reading of its arguments. -/
import Derived.Test.YtlcdhgcfamjioaaWg9
import Derived.Test.YtlcdhgcfamjioaaAmL
import Derived.Test.YtlcdhgcfamjioaaRows
namespace Go.Am.Try
open Go Go.Am Go.Proofs Go.Proofs.Ytlcdhgcfamjioaa
set_option maxRecDepth 20000
set_option linter.constructorNameAsVariable false
set_option linter.unusedVariables false
set_option linter.unusedSimpArgs false
theorem uInt : Try.prog.underlying 3 = some (.int .i64) := by kernel_rfl
theorem uSl : Try.prog.underlying 22 = some (.slice 29) := by kernel_rfl
theorem uArr : Try.prog.underlying 29 = some (.array 2 3) := by kernel_rfl
theorem int_of {H : Type} {G : Nat → Option ABlk} {n : Nat} {c : List Value} {d : DataW H} (h : AData Try.prog G (n + 1) 3 c d) : ∃ x : Int, c = [.int .i64 x] := by
  unfold AData at h
  simp only [uInt] at h
  obtain ⟨x, h1, _⟩ := h
  exact ⟨x, h1⟩
theorem pair_of {H : Type} {G : Nat → Option ABlk} {n : Nat} {c : List Value} {d : DataW H} (h : AData Try.prog G (n + 2) 29 c d) : ∃ p : Int × Int, c = pr p := by
  unfold AData at h
  simp only [uArr] at h
  obtain ⟨css, parts, h1, _, h3⟩ := h
  match css, parts, h3 with
  | [a, b], [d1, d2], h3 =>
    simp only [List.replicate, AllD] at h3
    obtain ⟨x, hx⟩ := int_of h3.1.1
    obtain ⟨y, hy⟩ := int_of h3.2.1.1
    exact ⟨(x, y), by rw [h1, hx, hy]; simp [pr]⟩
  | [], _, h3 => simp [List.replicate, AllD] at h3
  | [_], [], h3 => simp [List.replicate, AllD] at h3
  | [_], _ :: _, h3 => simp [List.replicate, AllD] at h3
  | [_, _], [], h3 => simp [List.replicate, AllD] at h3
  | [_, _], [_], h3 => simp [List.replicate, AllD] at h3
  | [_, _], _ :: _ :: _ :: _, h3 => simp [List.replicate, AllD] at h3
  | _ :: _ :: _ :: _, [], h3 => simp [List.replicate, AllD] at h3
  | _ :: _ :: _ :: _, [_], h3 => simp [List.replicate, AllD] at h3
  | _ :: _ :: _ :: _, _ :: _ :: _, h3 => simp [List.replicate, AllD] at h3
theorem allD_map {H α : Type} {R : TypeId → List Value → DataW H → Prop} {sz : TypeId → Nat} {t : TypeId} {f : α → List Value} (hR : ∀ c d, R t c d → ∃ p, c = f p) : ∀ (k : Nat) (css : List (List Value)) (ds : List (DataW H)), AllD R sz (List.replicate k t) css ds → ∃ ps : List α, css = ps.map f ∧ ps.length = k
  | 0, [], [], _ => ⟨[], rfl, rfl⟩
  | 0, _ :: _, _, h => by simp [List.replicate, AllD] at h
  | 0, [], _ :: _, h => by simp [List.replicate, AllD] at h
  | k + 1, [], _, h => by simp [List.replicate, AllD] at h
  | k + 1, _ :: _, [], h => by simp [List.replicate, AllD] at h
  | k + 1, c :: css, d :: ds, h => by
    simp only [List.replicate, AllD] at h
    obtain ⟨p, hp⟩ := hR _ _ h.1.1
    obtain ⟨ps, h1, h2⟩ := allD_map hR k css ds h.2
    exact ⟨p :: ps, by simp [hp, h1], by simp [h2]⟩
theorem bulk_pos {H : Type} (d : DataW H) : 1 ≤ Rows.uptoBulk d := by
  cases d with
  | lit l => cases l <;> simp [Rows.uptoBulk]
  | _ => simp [Rows.uptoBulk]
theorem bulk_len {H : Type} : ∀ (ds : List (DataW H)), ds.length ≤ Rows.uptoBulkAll ds
  | [] => Nat.zero_le _
  | d :: r => by
    have := bulk_len r
    have := bulk_pos d
    simp only [Rows.uptoBulkAll, List.length_cons]; omega
theorem flat_take {α : Type} {sz : Nat} : ∀ (es : List (List α)) (k : Nat), (∀ x ∈ es, x.length = sz) → es.flatten.take (k * sz) = (es.take k).flatten
  | [], _, _ => by simp
  | x :: r, 0, _ => by simp
  | x :: r, k + 1, h => by
    have h1 := h x (by simp)
    have := flat_take r k (fun y hy => h y (by simp [hy]))
    rw [List.take_succ_cons, List.flatten_cons, List.flatten_cons, Nat.add_mul, Nat.one_mul, Nat.add_comm, ← h1, List.take_length_add_append, h1, this]
theorem pairs_of {H : Type} {A : AH} {n : Nat} {v : Value} {d : DataW H} (h : AData Try.prog A.get (n + 3) 22 [v] d) : ∃ l : List (Int × Int), Sl A 2 v (l.map pr) ∧ l.length ≤ Rows.uptoBulk d := by
  unfold AData at h
  simp only [uSl] at h
  rcases h with ⟨h1, h2⟩ | ⟨b, len, cap, elems, spare, css, h1, h2, h3, h4, _, h6, h7⟩
  · cases h1
    exact ⟨[], Sl.nil A 2, Nat.zero_le _⟩
  · cases h1
    obtain ⟨ps, e1, e2⟩ := allD_map (f := pr) (fun c d hc => pair_of hc) cap css _ h7
    have hb : len ≤ Rows.uptoBulk d := by
      have := bulk_len elems
      rw [h2]; simp only [Rows.uptoBulk]; omega
    rcases h6 with h6 | ⟨x, g1, _, g3⟩
    · have hl0 : len = 0 := by omega
      subst hl0
      exact ⟨[], ⟨by simp, .inr (.inr ⟨b, 0, some 0, cap, rfl, rfl⟩)⟩, Nat.zero_le _⟩
    · have hlp : (ps.take len).length = len := by simp; omega
      have hall : ∀ y ∈ ps.map pr, y.length = 2 := fun y hy => by
        obtain ⟨p, _, rfl⟩ := List.mem_map.1 hy
        rfl
      refine ⟨ps.take len, ⟨fun y hy => ?_, .inr (.inl ⟨b, 0, some 0, cap, x, ?_, g1, ?_, ?_⟩)⟩, by rw [hlp]; exact hb⟩
      · obtain ⟨p, _, rfl⟩ := List.mem_map.1 hy
        rfl
      · rw [List.length_map, hlp]
      · rw [List.length_map, hlp, g3, e1, flat_len hall, List.length_map]; omega
      · rw [List.length_map, hlp, g3, e1, List.drop_zero, flat_take _ _ hall, List.map_take]
theorem graphParts {H : Type} (A : AH) (avs : List Value) (ds : List (DataW H)) (hb : Rows.uptoBulkAll ds ≤ 1048576) (ha : AArgs Try.prog A.get 4 [3, 22] avs ds) : ∃ A', ACalls Try.prog 3 avs A (.bool true) A' := by
  match avs, ds, ha with
  | [v1, v2], [d1, d2], ha =>
    simp only [AArgs, AVal, uInt, uSl] at ha
    obtain ⟨x, hx⟩ := int_of ha.1
    obtain ⟨l, h1, h2⟩ := pairs_of ha.2.1
    simp only [Rows.uptoBulkAll] at hb
    cases hx
    obtain ⟨v, A', h3, rfl, _⟩ := f3_ok A x v2 l h1 (by omega)
    exact ⟨A', h3⟩
  | [], _, ha => simp [AArgs] at ha
  | [_], [], ha => simp [AArgs] at ha
  | [_], _ :: _, ha => simp [AArgs] at ha
  | [_, _], [], ha => simp [AArgs] at ha
  | [_, _], [_], ha => simp [AArgs] at ha
  | [_, _], _ :: _ :: _ :: _, ha => simp [AArgs] at ha
  | _ :: _ :: _ :: _, [], ha => simp [AArgs] at ha
  | _ :: _ :: _ :: _, [_], ha => simp [AArgs] at ha
  | _ :: _ :: _ :: _, _ :: _ :: _, ha => simp [AArgs] at ha
end Go.Am.Try
