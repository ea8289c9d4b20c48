/- Plain law: buses of a network, by both sides. -/
import Derived.Test.YtlcdhgcfamjioaaS8L3dZ8
import Derived.Test.YtlcdhgcfamjioaaS8GPZ8
namespace Go.Am.Try
open Go Go.Am Go.Proofs
set_option linter.unusedSimpArgs false
set_option linter.unusedVariables false
variable {K : Nat} {n : Network}
/-! ### Places of names -/
def posS : List ByteArray → ByteArray → Int
  | [], _ => -1
  | x :: l, s => if sEq s x then 0 else if posS l s < 0 then -1 else posS l s + 1
theorem posS_range : ∀ (l : List ByteArray) (s : ByteArray), -1 ≤ posS l s ∧ posS l s < l.length
  | [], s => by simp [posS]
  | x :: l, s => by
    have := posS_range l s
    simp only [posS, List.length_cons]
    split
    · omega
    · split <;> omega
theorem posS_has : ∀ (l : List ByteArray) (s : ByteArray), hasS l s = decide (0 ≤ posS l s)
  | [], s => by simp [posS, hasS]
  | x :: l, s => by
    have h1 := posS_has l s
    have h2 := posS_range l s
    unfold hasS at h1 ⊢
    simp only [posS, List.any_cons, h1]
    by_cases h : sEq s x = true
    · simp [h]
    · simp only [h, Bool.false_or, Bool.false_eq_true, if_false]
      by_cases h3 : posS l s < 0
      · have h4 : ¬ 0 ≤ posS l s := by omega
        simp [h3, h4]
      · have h4 : 0 ≤ posS l s := by omega
        have h5 : 0 ≤ posS l s + 1 := by omega
        simp [h3, h4, h5]
theorem posS_loop (l : List ByteArray) (s : ByteArray) (hl : l.length ≤ 1048576) (f : Nat → Int → Option (Int ⊕ Unit))
    (h : ∀ k (i : Nat) x, l[i]? = some x → f (k + 1) i = if sEq s x then some (.inl (i : Int)) else f k ((i + 1 : Nat) : Int)) (h0 : ∀ k, f (k + 1) l.length = some (.inr ())) : ∀ d k (i : Nat), l.length - i = d → i ≤ l.length → d < k → f k i = some (if posS (l.drop i) s < 0 then .inr () else .inl (i + posS (l.drop i) s)) := by
  intro d
  induction d with
  | zero =>
    intro k i hd hi hk
    obtain ⟨k, rfl⟩ : ∃ m, k = m + 1 := ⟨k - 1, by omega⟩
    have : i = l.length := by omega
    subst this
    rw [h0, List.drop_length]; rfl
  | succ d ih =>
    intro k i hd hi hk
    obtain ⟨k, rfl⟩ : ∃ m, k = m + 1 := ⟨k - 1, by omega⟩
    have hx : l[i]? = some l[i] := List.getElem?_eq_getElem (by omega)
    rw [h k i _ hx, List.drop_eq_getElem_cons (show i < l.length by omega), ih k (i + 1) (by omega) (by omega) (by omega)]
    have hr := posS_range (l.drop (i + 1)) s
    simp only [posS]
    by_cases hq : sEq s l[i] = true
    · simp [hq]
    · simp only [hq, Bool.false_eq_true, if_false]
      by_cases h3 : posS (l.drop (i + 1)) s < 0
      · simp [h3]
      · have h4 : ¬ posS (l.drop (i + 1)) s + 1 < 0 := by omega
        rw [if_neg h3, if_neg h3, if_neg h4]
        congr 2; omega
theorem index_prog (K : Nat) (l : List ByteArray) (s : ByteArray) (hl : l.length ≤ 1048576) (hK : l.length < K) : g_slices_Index_string_string K l s = some (posS l s) := by
  have h := posS_loop l s hl (fun k i => g_slices_Index_string_string_l0 K l s k i)
    (fun k i x hx => by
      have hi := lt_of hx
      show g_slices_Index_string_string_l0 K l s (k + 1) i = _
      rw [g_slices_Index_string_string_l0, lt_nat hi]
      simp only [if_true, idx_nat hx, Option.bind_some, kw1 hi (by omega)])
    (fun k => by
      show g_slices_Index_string_string_l0 K l s (k + 1) l.length = _
      rw [g_slices_Index_string_string_l0, nlt_nat (Nat.le_refl _)]; simp) l.length K 0 (by omega) (by omega) hK
  unfold g_slices_Index_string_string
  rw [show ((0 : Nat) : Int) = 0 from rfl, List.drop_zero] at h
  rw [h]
  have hr := posS_range l s
  by_cases h0 : posS l s < 0
  · have : posS l s = -1 := by omega
    simp [bindS, tu0, tu1, this]
  · simp [bindS, tu0, tu1, h0]
theorem place_ref (K : Nat) (l : List ByteArray) (s : ByteArray) (hl : l.length ≤ 1048576) (hK : l.length < K) : g_R_Place K l s = some (posS l s) := by
  have h := posS_loop l s hl (fun k i => g_R_Place_l0 K l s k i)
    (fun k i x hx => by
      have hi := lt_of hx
      show g_R_Place_l0 K l s (k + 1) i = _
      rw [g_R_Place_l0, lt_nat hi]
      simp only [if_true, idx_nat hx, Option.bind_some, kw1 hi (by omega), sEq_comm x s])
    (fun k => by
      show g_R_Place_l0 K l s (k + 1) l.length = _
      rw [g_R_Place_l0, nlt_nat (Nat.le_refl _)]; simp) l.length K 0 (by omega) (by omega) hK
  unfold g_R_Place
  rw [show ((0 : Nat) : Int) = 0 from rfl, List.drop_zero] at h
  rw [h]
  have hr := posS_range l s
  by_cases h0 : posS l s < 0
  · have : posS l s = -1 := by omega
    simp [bindS, tu0, tu1, this]
  · simp [bindS, tu0, tu1, h0]
/-! ### A network without fault -/
structure Good (n : Network) : Prop where
  big : n.Nodes.length ≤ 24 ∧ n.Switches.length ≤ 32 ∧ n.Branches.length ≤ 24 ∧ n.Gens.length ≤ 10 ∧ n.Loads.length ≤ 12 ∧ n.Stores.length ≤ 4
  ends : ∀ x ∈ itemsS n, x.nodes.all (hasS n.Nodes) = true
theorem runS_mem {α S E : Type} (c : α → S → E ⊕ S) : ∀ (xs : List α) (s s' : S), runS c xs s = .inr s' → ∀ x ∈ xs, ∃ s1 s2, c x s1 = .inr s2
  | [], _, _, _, x, hx => by simp at hx
  | y :: xs, s, s', h, x, hx => by
    simp only [runS] at h
    cases hc : c y s with
    | inl e => rw [hc] at h; cases h
    | inr s1 =>
      rw [hc] at h
      rcases List.mem_cons.1 hx with rfl | hx
      · exact ⟨s, s1, hc⟩
      · exact runS_mem c xs s1 s' h x hx
theorem runS_err {α S E : Type} (c : α → S → E ⊕ S) (P : E → Prop) (hP : ∀ x s e, c x s = .inl e → P e) : ∀ (xs : List α) (s : S) (e : E), runS c xs s = .inl e → P e
  | [], _, _, h => by cases h
  | y :: xs, s, e, h => by
    simp only [runS] at h
    cases hc : c y s with
    | inl e' => rw [hc] at h; cases h; exact hP y s _ hc
    | inr s1 => rw [hc] at h; exact runS_err c P hP xs s1 e h
theorem chkI_err (n : Network) (x : Item) (m : List ByteArray) (e : Int) (h : chkI n x m = .inl e) : e ≠ 0 := by
  unfold chkI at h
  split at h
  · rename_i h1; cases h; simpa using h1
  · split at h
    · cases h; decide
    · split at h
      · cases h; decide
      · cases h
theorem chkI_ends (n : Network) (x : Item) (m m' : List ByteArray) (h : chkI n x m = .inr m') : x.nodes.all (hasS n.Nodes) = true := by
  unfold chkI at h
  split at h
  · cases h
  · rename_i h1
    unfold devS at h1
    split at h1
    · rename_i h2; exact absurd h2 h1
    · unfold endsS at h1
      split at h1
      · rename_i h3; exact h3
      · simp at h1
theorem good_of (h : netS n = 0) : Good n := by
  unfold netS at h
  split at h
  · omega
  · rename_i hb
    have hb' : n.Nodes.length ≤ 24 ∧ n.Switches.length ≤ 32 ∧ n.Branches.length ≤ 24 ∧ n.Gens.length ≤ 10 ∧ n.Loads.length ≤ 12 ∧ n.Stores.length ≤ 4 := by
      unfold bigS at hb; simp at hb; omega
    refine ⟨hb', ?_⟩
    cases r0 : runS chkN n.Nodes [] with
    | inl e =>
      rw [r0] at h
      have : e ≠ 0 := runS_err chkN (fun e => e ≠ 0) (fun x s e he => by
        unfold chkN at he
        split at he
        · rename_i h1; cases he; simpa using h1
        · cases he) _ _ _ r0
      exact absurd h this
    | inr m =>
      rw [r0] at h
      simp only [Sum.elim_inr] at h
      cases r1 : runS (chkI n) (itemsS n) m with
      | inl e =>
        rw [r1] at h
        exact absurd h (runS_err (chkI n) (fun e => e ≠ 0) (chkI_err n) _ _ _ r1)
      | inr m' =>
        intro x hx
        obtain ⟨s1, s2, h2⟩ := runS_mem (chkI n) _ _ _ r1 x hx
        exact chkI_ends n x s1 s2 h2
theorem Good.sw (G : Good n) {x : Switch} (h : x ∈ n.Switches) : 0 ≤ posS n.Nodes x.A ∧ 0 ≤ posS n.Nodes x.B := by
  have := G.ends (iSw x) (by unfold itemsS; simp; exact .inl ⟨x, h, rfl⟩)
  simpa [iSw, posS_has] using this
theorem Good.br (G : Good n) {x : Branch} (h : x ∈ n.Branches) : 0 ≤ posS n.Nodes x.From ∧ 0 ≤ posS n.Nodes x.To := by
  have := G.ends (iBr x) (by unfold itemsS; simp; exact .inr (.inl ⟨x, h, rfl⟩))
  simpa [iBr, posS_has] using this
theorem Good.ge (G : Good n) {x : Gen} (h : x ∈ n.Gens) : 0 ≤ posS n.Nodes x.Node := by
  have := G.ends (iGe x) (by unfold itemsS; simp; exact .inr (.inr (.inl ⟨x, h, rfl⟩)))
  simpa [iGe, posS_has] using this
theorem Good.st (G : Good n) {x : Store} (h : x ∈ n.Stores) : 0 ≤ posS n.Nodes x.Node := by
  have := G.ends (iSt x) (by unfold itemsS; simp; exact .inr (.inr (.inr (.inr ⟨x, h, rfl⟩))))
  simpa [iSt, posS_has] using this
/-! ### Buses -/
def edgesL (n : Network) : List (Int × Int) := n.Switches.map fun x => (posS n.Nodes x.A, posS n.Nodes x.B)
def usedS (n : Network) (i : Nat) : Bool := match n.Switches[i]? with | some x => !x.Open | none => false
theorem edges_valid (G : Good n) : Valid n.Nodes.length (edgesL n) := by
  intro i hi
  have hi' : i < n.Switches.length := by simpa [edgesL] using hi
  have h := G.sw (List.getElem_mem hi')
  have h1 := posS_range n.Nodes n.Switches[i].A
  have h2 := posS_range n.Nodes n.Switches[i].B
  have : (edgesL n).getD i (0, 0) = (posS n.Nodes n.Switches[i].A, posS n.Nodes n.Switches[i].B) := by simp [edgesL, List.getD_eq_getElem?_getD, hi']
  rw [this]
  simp only
  omega
theorem edges_prog (G : Good n) (hK : 200 < K) : g_station_Edges K n = some ((edgesL n).map two) := by
  obtain ⟨a1, a2, _⟩ := G.big
  have h : g_station_Edges_l0 K n K [] 0 = _ := loop_acc0 n.Switches (fun k acc i => g_station_Edges_l0 K n k acc i) (fun x => two (posS n.Nodes x.A, posS n.Nodes x.B)) []
    (fun k acc i x hx hl => by
      have hi := lt_of hx
      have h9 : acc.length + 1 ≤ 16777216 := by simp at hl; omega
      show g_station_Edges_l0 K n (k + 1) acc i = _
      rw [g_station_Edges_l0, lt_nat hi]
      simp only [if_true, idx_nat hx, Option.bind_some, index_prog K n.Nodes _ (show n.Nodes.length ≤ 1048576 by omega) (show n.Nodes.length < K by omega), kw1 hi (by omega), two, List.length_cons, List.length_nil]
      rw [if_pos (show acc.length + (0 + 1) ≤ 16777216 by omega)])
    (fun k acc i hi => by
      show g_station_Edges_l0 K n (k + 1) acc i = _
      rw [g_station_Edges_l0, nlt_nat hi]; simp) K (by omega)
  unfold g_station_Edges
  rw [h]
  simp [tu1, edgesL]
theorem switching_ref (G : Good n) (hK : 200 < K) : g_R_Switching K n = some ((edgesL n).map two) := by
  obtain ⟨a1, a2, _⟩ := G.big
  have h : g_R_Switching_l0 K n K [] 0 = _ := loop_acc0 n.Switches (fun k acc i => g_R_Switching_l0 K n k acc i) (fun x => two (posS n.Nodes x.A, posS n.Nodes x.B)) []
    (fun k acc i x hx hl => by
      have hi := lt_of hx
      have h9 : acc.length + 1 ≤ 16777216 := by simp at hl; omega
      show g_R_Switching_l0 K n (k + 1) acc i = _
      rw [g_R_Switching_l0, lt_nat hi]
      simp only [if_true, idx_nat hx, Option.bind_some, place_ref K n.Nodes _ (show n.Nodes.length ≤ 1048576 by omega) (show n.Nodes.length < K by omega), kw1 hi (by omega), two, List.length_cons, List.length_nil]
      rw [if_pos (show acc.length + (0 + 1) ≤ 16777216 by omega)])
    (fun k acc i hi => by
      show g_R_Switching_l0 K n (k + 1) acc i = _
      rw [g_R_Switching_l0, nlt_nat hi]; simp) K (by omega)
  unfold g_R_Switching
  rw [h]
  simp [tu1, edgesL]
theorem used_prog {i : Nat} (hi : i < (edgesL n).length) : g_station_Buses_1 K (i : Int) n = some (usedS n i) := by
  have hi' : i < n.Switches.length := by simpa [edgesL] using hi
  have hx : n.Switches[i]? = some n.Switches[i] := List.getElem?_eq_getElem hi'
  unfold g_station_Buses_1 usedS
  rw [idx_nat hx, hx]; rfl
theorem used_ref {i : Nat} (hi : i < (edgesL n).length) : g_R_Closed_1 K (i : Int) n = some (usedS n i) := by
  have hi' : i < n.Switches.length := by simpa [edgesL] using hi
  have hx : n.Switches[i]? = some n.Switches[i] := List.getElem?_eq_getElem hi'
  unfold g_R_Closed_1 usedS
  rw [idx_nat hx, hx]; rfl
theorem buses_ok (G : Good n) (hK : 200 < K) : ∃ xs m, g_station_Buses K n = some xs ∧ g_R_Buses K n = some xs ∧ Outer (edgesL n) (usedS n) n.Nodes.length xs m n.Nodes.length := by
  obtain ⟨a1, a2, _⟩ := G.big
  have hl : (edgesL n).length ≤ 32 := by simp [edgesL]; omega
  obtain ⟨xs, m, M, h1, h2, h3, h4⟩ := parts_numbers (K := K) (edges_valid G) (by omega) a1 (by omega) (by omega) (u := fun x => g_station_Buses_1 K x n) (u' := fun x => g_R_Closed_1 K x n) (U := usedS n) (fun i hi => used_prog hi) (fun i hi => used_ref hi)
  refine ⟨xs, m, ?_, ?_, h4⟩
  · unfold g_station_Buses
    rw [edges_prog G hK]
    simp only [Option.bind_some, h1]
  · unfold g_R_Buses g_R_Closed
    rw [switching_ref G hK]
    simp only [Option.bind_some, h2, h3]
/-! ### How many -/
def cntS (xs : List Int) : Int := xs.foldl (fun a x => imax a (x + 1)) 0
theorem cnt_ge : ∀ (xs : List Int) (a : Int), a ≤ xs.foldl (fun a x => imax a (x + 1)) a ∧ ∀ x ∈ xs, x + 1 ≤ xs.foldl (fun a x => imax a (x + 1)) a
  | [], a => ⟨Int.le_refl _, fun x h => by simp at h⟩
  | y :: xs, a => by
    obtain ⟨h1, h2⟩ := cnt_ge xs (imax a (y + 1))
    have h3 : a ≤ imax a (y + 1) ∧ y + 1 ≤ imax a (y + 1) := by unfold imax; split <;> omega
    simp only [List.foldl_cons]
    refine ⟨by omega, fun x hx => ?_⟩
    rcases List.mem_cons.1 hx with rfl | hx
    · omega
    · exact h2 x hx
theorem cnt_le' (B : Int) : ∀ (xs : List Int) (a : Int), a ≤ B → (∀ x ∈ xs, x + 1 ≤ B) → xs.foldl (fun a x => imax a (x + 1)) a ≤ B
  | [], a, h, _ => h
  | y :: xs, a, h, hx => by
    simp only [List.foldl_cons]
    refine cnt_le' B xs _ ?_ (fun x h' => hx x (by simp [h']))
    have := hx y (by simp)
    unfold imax; split <;> omega
theorem cnt_loop {R : Type} (xs : List Int) (hb : ∀ x ∈ xs, -1 ≤ x ∧ x ≤ 1048576) (f : Nat → Int → Int → Option Int)
    (h : ∀ k a (i : Nat) x, xs[i]? = some x → f (k + 1) a i = f k (imax a (x + 1)) ((i + 1 : Nat) : Int)) (h0 : ∀ k a, f (k + 1) a xs.length = some a) : ∀ d k a (i : Nat), xs.length - i = d → i ≤ xs.length → d < k → f k a i = some ((xs.drop i).foldl (fun a x => imax a (x + 1)) a) := by
  intro d
  induction d with
  | zero =>
    intro k a i hd hi hk
    obtain ⟨k, rfl⟩ : ∃ m, k = m + 1 := ⟨k - 1, by omega⟩
    have : i = xs.length := by omega
    subst this
    rw [h0, List.drop_length]; rfl
  | succ d ih =>
    intro k a i hd hi hk
    obtain ⟨k, rfl⟩ : ∃ m, k = m + 1 := ⟨k - 1, by omega⟩
    have hx : xs[i]? = some xs[i] := List.getElem?_eq_getElem (by omega)
    rw [h k a i _ hx, List.drop_eq_getElem_cons (show i < xs.length by omega), ih k _ (i + 1) (by omega) (by omega) (by omega)]
    rfl
theorem count_prog {xs : List Int} (hb : ∀ x ∈ xs, -1 ≤ x ∧ x ≤ 1048576) (hl : xs.length ≤ 1048576) (hK : xs.length < K) : g_graph_Count K xs = some (cntS xs) := by
  have h := cnt_loop (R := Unit) xs hb (fun k a i => g_graph_Count_l0 K xs k a i)
    (fun k a i x hx => by
      have hi := lt_of hx
      have := hb x (mem_of hx)
      show g_graph_Count_l0 K xs (k + 1) a i = _
      rw [g_graph_Count_l0, lt_nat hi]
      simp only [if_true, idx_nat hx, Option.bind_some, kw1 hi (by omega), kw (a := x + 1) (by omega) (by omega)])
    (fun k a => by
      show g_graph_Count_l0 K xs (k + 1) a xs.length = _
      rw [g_graph_Count_l0, nlt_nat (Nat.le_refl _)]; simp) xs.length K 0 0 (by omega) (by omega) hK
  unfold g_graph_Count cntS
  rw [show ((0 : Nat) : Int) = 0 from rfl, List.drop_zero] at h
  rw [h]; simp [tu1]
theorem most_ref {xs : List Int} (hb : ∀ x ∈ xs, -1 ≤ x ∧ x ≤ 1048576) (hl : xs.length ≤ 1048576) (hK : xs.length < K) : g_R_Most K xs = some (cntS xs) := by
  have h := cnt_loop (R := Unit) xs hb (fun k a i => g_R_Most_l0 K xs k a i)
    (fun k a i x hx => by
      have hi := lt_of hx
      have := hb x (mem_of hx)
      show g_R_Most_l0 K xs (k + 1) a i = _
      rw [g_R_Most_l0, lt_nat hi]
      simp only [if_true, idx_nat hx, Option.bind_some, kw1 hi (by omega), kw (a := x + 1) (by omega) (by omega)]
      unfold imax
      by_cases h1 : x ≥ a
      · have : x + 1 > a := by omega
        simp [h1, this, tu1]
      · have : ¬ x + 1 > a := by omega
        simp [h1, this, tu1])
    (fun k a => by
      show g_R_Most_l0 K xs (k + 1) a xs.length = _
      rw [g_R_Most_l0, nlt_nat (Nat.le_refl _)]; simp) xs.length K 0 0 (by omega) (by omega) hK
  unfold g_R_Most cntS
  rw [show ((0 : Nat) : Int) = 0 from rfl, List.drop_zero] at h
  rw [h]; simp [tu1]
theorem outer_mem {l : List (Int × Int)} {U : Nat → Bool} {N m : Nat} {xs : List Int} (h : Outer l U N xs m N) : ∀ x ∈ xs, 0 ≤ x ∧ x < m := by
  intro x hx
  obtain ⟨i, hi, rfl⟩ := List.mem_iff_getElem.1 hx
  have h1 := h.len
  have h2 := h.done i (by omega) (by omega)
  have h3 := h.rng i (by omega)
  have : xs.getD i 0 = xs[i] := by simp [List.getD_eq_getElem?_getD, hi]
  rw [this] at h2 h3
  omega
theorem equal_str (K : Nat) (xs : List ByteArray) (hl : xs.length ≤ 1048576) (hK : xs.length < K) (f : Nat → Int → Option (Bool ⊕ Unit))
    (h : ∀ k (i : Nat) x, xs[i]? = some x → f (k + 1) i = f k ((i + 1 : Nat) : Int)) (h0 : ∀ k, f (k + 1) xs.length = some (.inr ())) : f K 0 = some (.inr ()) := by
  have : ∃ r, f K 0 = some r ∧ r = .inr () := by
    refine loop_inv (S := Unit) xs.length (fun k _ i => f k i) (fun _ _ => True) _ ?_ ?_ K () hK trivial
    · rintro k _ i hi _
      right
      exact ⟨(), trivial, h k i _ (List.getElem?_eq_getElem hi)⟩
    · rintro k _ i rfl _
      exact ⟨_, h0 k, rfl⟩
  obtain ⟨r, h1, rfl⟩ := this
  exact h1
end Go.Am.Try
