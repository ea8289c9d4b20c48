/- Plain law: StationPaths answers true. -/
import Derived.Test.YtlcdhgcfamjioaaS8NBZ8
import Derived.Test.YtlcdhgcfamjioaaS8GSZ8
namespace Go.Am.Try
open Go Go.Am Go.Proofs
set_option linter.unusedSimpArgs false
set_option linter.unusedVariables false
variable {K : Nat} {n : Network} {xs : List Int} {m : Nat}
/-! ### Lines that lead nowhere change no way -/
theorem wk_loops {l : List (Int × Int)} {U U' : Nat → Bool} {to : Nat} (h : ∀ e < l.length, U' e = true → U e = true ∨ (l.getD e (0, 0)).1 = (l.getD e (0, 0)).2) : ∀ k v, Wk l U' to k v → ∃ j ≤ k, Wk l U to j v
  | 0, v, hv => ⟨0, Nat.le_refl _, hv⟩
  | k + 1, v, ⟨w, ⟨e, he, hu, h3⟩, hw⟩ => by
    obtain ⟨j, hj, hjw⟩ := wk_loops h k w hw
    rcases h e he hu with h4 | h4
    · exact ⟨j + 1, by omega, w, ⟨e, he, h4, h3⟩, hjw⟩
    · have : v = w := by rcases h3 with h3 | h3 <;> (rw [h3] at h4; simp at h4; omega)
      subst this
      exact ⟨j, by omega, hjw⟩
theorem find_congr {β : Type} {f g : Nat → Option β} {N : Nat} (h : ∀ i < N, f i = g i) : (List.range N).findSome? f = (List.range N).findSome? g := by
  induction N with
  | zero => rfl
  | succ N ih => rw [List.range_succ, List.findSome?_append, List.findSome?_append, ih fun i hi => h i (by omega)]; simp [h N (Nat.lt_succ_self N)]
theorem way_loops {l : List (Int × Int)} {U U' : Nat → Bool} {to N : Nat} (vl : Valid N l) (h : ∀ e < l.length, U' e = true → U e = true ∨ (l.getD e (0, 0)).1 = (l.getD e (0, 0)).2) (h' : ∀ e < l.length, U e = true → U' e = true) :
    ∀ k v, v < N → (∀ j < k, ¬ Wk l U to j v) → wayS l U' to k v = wayS l U to k v := by
  intro k
  induction k with
  | zero => intro v _ _; rfl
  | succ k ih =>
    intro v hv hno
    unfold wayS
    refine find_congr fun e he => ?_
    obtain ⟨A, B, hAB, hA, hB⟩ := lines_at vl he
    rw [hAB]
    simp only
    by_cases hU : U e = true
    · rw [hU, h' e he hU]
      by_cases hc : ((A : Int) == (v : Int) || (B : Int) == (v : Int)) = true
      · simp only [hc, Bool.and_self, if_true]
        simp only [Bool.or_eq_true, beq_iff_eq] at hc
        have hw : ((A : Int) + (B : Int) - v).toNat < N := by omega
        rw [ih _ hw fun j hj hwk => hno (j + 1) (by omega) ⟨_, ⟨e, he, hU, ?_⟩, hwk⟩]
        rcases hc with hc | hc
        · left; rw [hAB, hc]; congr 1; omega
        · right; rw [hAB, hc]; congr 1; omega
      · simp [hc]
    · have hU0 : U e = false := by simpa using hU
      rw [hU0]
      simp only [Bool.false_and, Bool.false_eq_true, if_false]
      by_cases hc : (U' e && ((A : Int) == (v : Int) || (B : Int) == (v : Int))) = true
      · rw [if_pos hc]
        simp only [Bool.and_eq_true, Bool.or_eq_true, beq_iff_eq] at hc
        have hl : (A : Int) = B := by
          rcases h e he hc.1 with h1 | h1
          · exact absurd h1 hU
          · rw [hAB] at h1; exact h1
        have hw : ((A : Int) + (B : Int) - v).toNat = v := by omega
        rw [hw]
        cases hq : wayS l U' to k v with
        | none => rfl
        | some es =>
          have h1 := (way_some vl k v hv).1 (show (wayS l U' to k v).isSome = true by rw [hq]; rfl)
          obtain ⟨j, hj, h2⟩ := wk_loops h k v h1
          exact absurd h2 (hno j (by omega))
      · rw [if_neg hc]
theorem spec_loops {l : List (Int × Int)} {U U' : Nat → Bool} {fr to N : Nat} (vl : Valid N l) (hf : fr < N) (h : ∀ e < l.length, U' e = true → U e = true ∨ (l.getD e (0, 0)).1 = (l.getD e (0, 0)).2) (h' : ∀ e < l.length, U e = true → U' e = true) {r : List Int × Bool} (hr : WaySpec l U N fr to r) : WaySpec l U' N fr to r := by
  rcases hr with ⟨rfl, hno⟩ | ⟨k, es, rfl, hk, hw, hmin⟩
  · refine .inl ⟨rfl, fun k hk => ?_⟩
    obtain ⟨j, _, hj⟩ := wk_loops h k fr hk
    exact hno j hj
  · refine .inr ⟨k, es, rfl, hk, by rw [way_loops vl h h' k fr hf hmin]; exact hw, fun j hj hwk => ?_⟩
    obtain ⟨i, hi, hwi⟩ := wk_loops h j fr hwk
    exact hmin i (by omega) hwi
theorem way_mem {N to : Nat} {l : List (Int × Int)} {U : Nat → Bool} (vl : Valid N l) : ∀ k v es, v < N → wayS l U to k v = some es → es.length = k ∧ ∀ e ∈ es, e < l.length := by
  intro k
  induction k with
  | zero =>
    intro v es _ h
    unfold wayS at h
    split at h
    · cases h; exact ⟨rfl, by simp⟩
    · cases h
  | succ k ih =>
    intro v es hv h
    unfold wayS at h
    obtain ⟨e, he, h2⟩ := List.exists_of_findSome?_eq_some h
    have he := List.mem_range.1 he
    obtain ⟨A, B, hAB, hA, hB⟩ := lines_at vl he
    rw [hAB] at h2
    split at h2
    · rename_i hc
      simp only [Bool.and_eq_true, Bool.or_eq_true, beq_iff_eq] at hc
      simp only at h2
      cases hq : wayS l U to k ((A : Int) + (B : Int) - v).toNat with
      | none => rw [hq] at h2; cases h2
      | some es' =>
        rw [hq] at h2
        cases h2
        obtain ⟨g1, g2⟩ := ih _ es' (by omega) hq
        refine ⟨by simp [g1], fun x hx => ?_⟩
        rcases List.mem_cons.1 hx with rfl | hx
        · exact he
        · exact g2 x hx
    · cases h2
/-- Numbers of switches, and not too many. -/
def FewS (n : Network) (r : List Int) : Prop := r.length ≤ 1048576 ∧ ∀ x ∈ r, 0 ≤ x ∧ x < n.Switches.length
theorem spec_few {l : List (Int × Int)} {U : Nat → Bool} {fr to N : Nat} (vl : Valid N l) (hl : l.length = n.Switches.length) (hN : N ≤ 24) (hf : fr < N) {r : List Int × Bool} (hr : WaySpec l U N fr to r) : FewS n r.1 ∧ r.1.length ≤ 24 := by
  rcases hr with ⟨rfl, _⟩ | ⟨k, es, rfl, hk, hw, _⟩
  · exact ⟨⟨by simp, by simp⟩, by simp⟩
  · obtain ⟨h1, h2⟩ := way_mem vl k fr es hf hw
    refine ⟨⟨by simp; omega, fun x hx => ?_⟩, by simp; omega⟩
    obtain ⟨e, he, rfl⟩ := List.mem_map.1 hx
    have := h2 e he
    simp only [Int.ofNat_eq_natCast]
    omega
/-! ### Names of switches -/
def swS (n : Network) (x : Int) : ByteArray := match n.Switches[x.toNat]? with | some s => s.Name | none => ⟨#[]⟩
theorem sw_at {x : Int} (h0 : 0 ≤ x) (h : x < n.Switches.length) : ∃ s, idx n.Switches x = some s ∧ s.Name = swS n x := by
  obtain ⟨p, rfl⟩ := Int.eq_ofNat_of_zero_le h0
  have hx : n.Switches[p]? = some n.Switches[p] := List.getElem?_eq_getElem (by omega)
  exact ⟨_, idx_nat hx, by unfold swS; rw [Int.toNat_natCast, hx]⟩
theorem named_loop (r : List Int) (hF : FewS n r) (l : Nat → List ByteArray → Int → Option (List ByteArray))
    (h : ∀ k acc (i : Nat) x s, r[i]? = some x → acc.length ≤ 1048576 → idx n.Switches x = some s → l (k + 1) acc i = l k (acc ++ [s.Name]) ((i + 1 : Nat) : Int)) (h0 : ∀ k acc (i : Nat), r.length ≤ i → l (k + 1) acc i = some acc) (hK : r.length < K) : l K [] 0 = some (r.map (swS n)) := by
  have := loop_acc0 r l (swS n) []
    (fun k acc i x hx hl => by
      obtain ⟨g1, g2⟩ := hF.2 x (mem_of hx)
      obtain ⟨s, h1, h2⟩ := sw_at g1 g2
      have hi := lt_of hx
      have := hF.1
      rw [h k acc i x s hx (by simp at hl; omega) h1, h2]) h0 K hK
  simpa using this
theorem path_names {r : List Int × Bool} (hF : FewS n r.1) (hK : r.1.length < K) : g_station_Path_l0 K n r K [] 0 = some (r.1.map (swS n)) :=
  named_loop r.1 hF (fun k acc i => g_station_Path_l0 K n r k acc i)
    (fun k acc i x s hx hl hs => by
      have hi := lt_of hx
      have := hF.1
      show g_station_Path_l0 K n r (k + 1) acc i = _
      rw [g_station_Path_l0, lt_nat hi, if_pos rfl, idx_nat hx]
      simp only [Option.bind_some, hs, List.length_cons, List.length_nil, kw1 hi (by omega)]
      rw [if_pos (by omega)])
    (fun k acc i hi => by
      show g_station_Path_l0 K n r (k + 1) acc i = _
      rw [g_station_Path_l0, nlt_nat hi]; simp) hK
theorem join_names {r : List Int × Bool} (hF : FewS n r.1) (hK : r.1.length < K) : g_station_Join_l2 K n r K [] 0 = some (r.1.map (swS n)) :=
  named_loop r.1 hF (fun k acc i => g_station_Join_l2 K n r k acc i)
    (fun k acc i x s hx hl hs => by
      have hi := lt_of hx
      have := hF.1
      show g_station_Join_l2 K n r (k + 1) acc i = _
      rw [g_station_Join_l2, lt_nat hi, if_pos rfl, idx_nat hx]
      simp only [Option.bind_some, hs, List.length_cons, List.length_nil, kw1 hi (by omega)]
      rw [if_pos (by omega)])
    (fun k acc i hi => by
      show g_station_Join_l2 K n r (k + 1) acc i = _
      rw [g_station_Join_l2, nlt_nat hi]; simp) hK
theorem law_names {r : List Int} (hF : FewS n r) (hK : r.length < K) : g_law_named K n r = some (r.map (swS n)) := by
  have h := named_loop r hF (fun k acc i => g_law_named_l0 K n r k acc i)
    (fun k acc i x s hx hl hs => by
      have hi := lt_of hx
      have := hF.1
      show g_law_named_l0 K n r (k + 1) acc i = _
      rw [g_law_named_l0, lt_nat hi, if_pos rfl, idx_nat hx]
      simp only [Option.bind_some, hs, List.length_cons, List.length_nil, kw1 hi (by omega)]
      rw [if_pos (by omega)])
    (fun k acc i hi => by
      show g_law_named_l0 K n r (k + 1) acc i = _
      rw [g_law_named_l0, nlt_nat hi]; simp) hK
  unfold g_law_named
  rw [h]; rfl
/-! ### The program's paths -/
theorem two_ok (F : Fits K n) (G : Good n) (h0 : netS n = 0) (s t : ByteArray) : g_station_two K n s t = some (if posS n.Nodes s < 0 ∨ posS n.Nodes t < 0 then (0, 0, 6) else (posS n.Nodes s, posS n.Nodes t, 0)) := by
  have hK := F.many
  obtain ⟨a1, _⟩ := G.big
  unfold g_station_two g_netmodel_Node
  rw [check_prog F, index_prog K n.Nodes s (by omega) (by omega), index_prog K n.Nodes t (by omega) (by omega), h0]
  by_cases h1 : posS n.Nodes s < 0
  · simp [h1]
  · by_cases h2 : posS n.Nodes t < 0
    · simp [h1, h2]
    · simp [h1, h2]
theorem two_bad (F : Fits K n) (h0 : netS n ≠ 0) (s t : ByteArray) : g_station_two K n s t = some (0, 0, netS n) := by
  unfold g_station_two g_netmodel_Node
  rw [check_prog F]
  simp [h0]
def outN (n : Network) (r : List Int × Bool) : List ByteArray × Int := if r.2 then (r.1.map (swS n), 0) else ([], 8)
theorem path_used {i : Nat} (hi : i < (edgesL n).length) : g_station_Path_1 K (i : Int) n = some (usedS n i) := by
  have hi' : i < n.Switches.length := by simpa [edgesL] using hi
  have hx : n.Switches[i]? = some n.Switches[i] := List.getElem?_eq_getElem hi'
  unfold g_station_Path_1 usedS
  rw [idx_nat hx, hx]; rfl
theorem edges_len : (edgesL n).length = n.Switches.length := by simp [edgesL]
theorem path_ok (F : Fits K n) (G : Good n) (h0 : netS n = 0) {s t : ByteArray} {a b : Nat} (hs : posS n.Nodes s = a) (ht : posS n.Nodes t = b) : ∃ r, WaySpec (edgesL n) (usedS n) n.Nodes.length a b r ∧ g_station_Path K n s t = some (outN n r) := by
  have hK := F.many
  obtain ⟨a1, a2, _⟩ := G.big
  have r1 := posS_range n.Nodes s
  have r2 := posS_range n.Nodes t
  have hel := edges_len (n := n)
  obtain ⟨r, h1, h2⟩ := way_ok (K := K) (u := fun x => g_station_Path_1 K x n) (U := usedS n) (fr := a) (to := b) (edges_valid G) (by omega) a1 (by omega) (fun i hi => path_used hi) (by omega) (by omega)
  refine ⟨r, h2, ?_⟩
  obtain ⟨hF, hFl⟩ := spec_few (edges_valid G) hel a1 (by omega) h2
  unfold g_station_Path
  rw [two_ok F G h0, hs, ht, if_neg (by omega), edges_prog G hK]
  simp only [Option.bind_some, bne_self_eq_false, Bool.false_eq_true, if_false, h1, path_names hF (show r.1.length < K by omega), tu1, outN]
  cases r.2 <;> simp
def jlL (n : Network) (xs : List Int) : List (Int × Int) := (edgesL n).map fun p => (xs.getD p.1.toNat 0, xs.getD p.2.toNat 0)
def openS (n : Network) (i : Nat) : Bool := match n.Switches[i]? with | some x => x.Open | none => false
def joinU (n : Network) (xs : List Int) (i : Nat) : Bool := openS n i && ((jlL n xs).getD i (0, 0)).1 != ((jlL n xs).getD i (0, 0)).2
theorem jl_at {i : Nat} (hi : i < (edgesL n).length) : (jlL n xs).getD i (0, 0) = (xs.getD ((edgesL n).getD i (0, 0)).1.toNat 0, xs.getD ((edgesL n).getD i (0, 0)).2.toNat 0) := by
  simp [jlL, List.getD_eq_getElem?_getD, hi]
theorem jl_valid (G : Good n) (hO : Outer (edgesL n) (usedS n) n.Nodes.length xs m n.Nodes.length) : Valid m (jlL n xs) := by
  intro i hi
  have hi' : i < (edgesL n).length := by simpa [jlL] using hi
  have h := edges_valid G i hi'
  have g1 := hO.done _ h.2.1 h.2.1
  have g2 := hO.done _ h.2.2.2 h.2.2.2
  have g3 := (hO.rng _ h.2.1).2
  have g4 := (hO.rng _ h.2.2.2).2
  rw [jl_at hi']
  simp only
  omega
theorem jl_loop (G : Good n) (hl : xs.length = n.Nodes.length) (hK : 200 < K) (f : Nat → List (List Int) → Int → Option (List (List Int)))
    (h : ∀ k acc (i : Nat) (A B : Int), i < (edgesL n).length → idx ((edgesL n).map two) (i : Int) = some [A, B] → acc.length ≤ 100 → idx xs A = some (xs.getD A.toNat 0) → idx xs B = some (xs.getD B.toNat 0) → f (k + 1) acc i = f k (acc ++ [[xs.getD A.toNat 0, xs.getD B.toNat 0]]) ((i + 1 : Nat) : Int))
    (h0 : ∀ k acc (i : Nat), (edgesL n).length ≤ i → f (k + 1) acc i = some acc) : f K [] 0 = some ((jlL n xs).map two) := by
  obtain ⟨a1, a2, _⟩ := G.big
  have hel := edges_len (n := n)
  have := loop_acc0 (edgesL n) f (fun p => two (xs.getD p.1.toNat 0, xs.getD p.2.toNat 0)) []
    (fun k acc i x hx hlen => by
      have hi := lt_of hx
      have hv := edges_valid G i hi
      have hxe : (edgesL n).getD i (0, 0) = x := by rw [List.getD_eq_getElem?_getD, hx]; rfl
      rw [hxe] at hv
      have e1 : ∀ A : Int, 0 ≤ A → A.toNat < xs.length → idx xs A = some (xs.getD A.toNat 0) := fun A g1 g2 => by
        obtain ⟨q, rfl⟩ := Int.eq_ofNat_of_zero_le g1
        rw [Int.toNat_natCast] at g2 ⊢
        exact idx_getD g2
      rw [h k acc i x.1 x.2 hi (idx_nat (by simp [hx, two])) (by simp at hlen; omega) (e1 _ hv.1 (by omega)) (e1 _ hv.2.2.1 (by omega))]
      rfl) h0 K (by omega)
  rw [this]
  simp [jlL]
theorem join_edges (G : Good n) (hl : xs.length = n.Nodes.length) (hK : 200 < K) : g_station_Join_l0 K xs ((edgesL n).map two) K [] 0 = some ((jlL n xs).map two) :=
  jl_loop G hl hK (fun k acc i => g_station_Join_l0 K xs ((edgesL n).map two) k acc i)
    (fun k acc i A B hi hx hlen h1 h2 => by
      have e0 : decide ((i : Int) < ((((edgesL n).map two).length : Nat) : Int)) = true := by rw [List.length_map]; exact lt_nat hi
      have hel := edges_len (n := n)
      have := (G.big).2.1
      show g_station_Join_l0 K xs ((edgesL n).map two) (k + 1) acc i = _
      rw [g_station_Join_l0, e0, if_pos rfl, hx]
      simp only [Option.bind_some, idx_two0, idx_two1, h1, h2, List.length_cons, List.length_nil, kw1 hi (by omega)]
      rw [if_pos (by omega)])
    (fun k acc i hi => by
      have e0 : decide ((i : Int) < ((((edgesL n).map two).length : Nat) : Int)) = false := by rw [List.length_map]; exact nlt_nat hi
      show g_station_Join_l0 K xs ((edgesL n).map two) (k + 1) acc i = _
      rw [g_station_Join_l0, e0]; simp)
theorem law_edges (G : Good n) (hl : xs.length = n.Nodes.length) (hK : 200 < K) : g_law_StationPaths_l0 K xs ((edgesL n).map two) K [] 0 = some ((jlL n xs).map two) :=
  jl_loop G hl hK (fun k acc i => g_law_StationPaths_l0 K xs ((edgesL n).map two) k acc i)
    (fun k acc i A B hi hx hlen h1 h2 => by
      have e0 : decide ((i : Int) < ((((edgesL n).map two).length : Nat) : Int)) = true := by rw [List.length_map]; exact lt_nat hi
      have hel := edges_len (n := n)
      have := (G.big).2.1
      show g_law_StationPaths_l0 K xs ((edgesL n).map two) (k + 1) acc i = _
      rw [g_law_StationPaths_l0, e0, if_pos rfl, hx]
      simp only [Option.bind_some, idx_two0, idx_two1, h1, h2, List.length_cons, List.length_nil, kw1 hi (by omega)]
      rw [if_pos (by omega)])
    (fun k acc i hi => by
      have e0 : decide ((i : Int) < ((((edgesL n).map two).length : Nat) : Int)) = false := by rw [List.length_map]; exact nlt_nat hi
      show g_law_StationPaths_l0 K xs ((edgesL n).map two) (k + 1) acc i = _
      rw [g_law_StationPaths_l0, e0]; simp)
theorem jl_len : (jlL n xs).length = n.Switches.length := by simp [jlL, edgesL]
theorem join_used {i : Nat} (hi : i < (jlL n xs).length) : g_station_Join_1 K (i : Int) n ((jlL n xs).map two) = some (joinU n xs i) := by
  have hi' : i < n.Switches.length := by rw [← jl_len (n := n) (xs := xs)]; exact hi
  have hx : n.Switches[i]? = some n.Switches[i] := List.getElem?_eq_getElem hi'
  unfold g_station_Join_1 joinU openS
  rw [idx_nat hx, hx, idx_lines hi]
  simp only [Option.bind_some, two, idx_two0, idx_two1]
  cases n.Switches[i].Open <;> simp [tu1]
theorem open_used {i : Nat} (hi : i < (jlL n xs).length) : g_law_StationPaths_1 K (i : Int) n = some (openS n i) := by
  have hi' : i < n.Switches.length := by rw [← jl_len (n := n) (xs := xs)]; exact hi
  have hx : n.Switches[i]? = some n.Switches[i] := List.getElem?_eq_getElem hi'
  unfold g_law_StationPaths_1 openS
  rw [idx_nat hx, hx]; rfl
theorem outer_cnt {l : List (Int × Int)} {U : Nat → Bool} {N m : Nat} {xs : List Int} (h : Outer l U N xs m N) : cntS xs = m := by
  have h1 := outer_mem h
  have h2 : cntS xs ≤ m := cnt_le' m xs 0 (by omega) (fun x hx => by have := h1 x hx; omega)
  have h3 : 0 ≤ cntS xs := (cnt_ge xs 0).1
  by_cases h0 : m = 0
  · omega
  · obtain ⟨j, hj, hjn, e⟩ := h.last (by omega)
    have hm : xs.getD j 0 ∈ xs := by
      rw [List.getD_eq_getElem?_getD, List.getElem?_eq_getElem (by rw [h.len]; exact hjn)]
      simp
    have : xs.getD j 0 + 1 ≤ cntS xs := (cnt_ge xs 0).2 _ hm
    omega
theorem equal_self_str (ys : List ByteArray) (hl : ys.length ≤ 1048576) (hK : ys.length < K) : g_slices_Equal_string_string K ys ys = some true := by
  have h := equal_str K ys hl hK (fun k i => g_slices_Equal_string_string_l0 K ys ys k i)
    (fun k i x hx => by
      have hi := lt_of hx
      have : sEq x x = true := sEq_iff.2 rfl
      show g_slices_Equal_string_string_l0 K ys ys (k + 1) i = _
      rw [g_slices_Equal_string_string_l0, lt_nat hi]
      simp only [if_true, idx_nat hx, Option.bind_some, this, Bool.not_true, Bool.false_eq_true, if_false, kw1 hi (by omega)])
    (fun k => by
      show g_slices_Equal_string_string_l0 K ys ys (k + 1) ys.length = _
      rw [g_slices_Equal_string_string_l0, nlt_nat (Nat.le_refl _)]; simp)
  unfold g_slices_Equal_string_string
  rw [h]; simp [bindS, tu0]
theorem paths_law8 (F : Fits K n) (s t : ByteArray) : g_law_StationPaths K n s t = (g_law_stationFact K).bind fun c => some c := by
  have hK := F.many
  have hF : g_law_stationFact K = some true := rfl
  by_cases h0 : netS n = 0
  · have G := good_of h0
    obtain ⟨a1, a2, a3, a4, a5, a6⟩ := G.big
    have r1 := posS_range n.Nodes s
    have r2 := posS_range n.Nodes t
    by_cases hbad : posS n.Nodes s < 0 ∨ posS n.Nodes t < 0
    · have hP : g_station_Path K n s t = some ([], 6) := by
        unfold g_station_Path; rw [two_ok F G h0, if_pos hbad]; rfl
      have hJ : g_station_Join K n s t = some ([], 6) := by
        unfold g_station_Join; rw [two_ok F G h0, if_pos hbad]; rfl
      have w00 : kwrap .i64 ((([] : List ByteArray).length : Int) + (([] : List ByteArray).length : Int)) = 0 := by simp only [List.length_nil]; exact kw (by omega) (by omega)
      unfold g_law_StationPaths
      rw [hF, hP, hJ, err_ref F, has_ref K n.Nodes s (by omega) (by omega), has_ref K n.Nodes t (by omega) (by omega), posS_has, posS_has, h0]
      have hcond : (if (!decide (0 ≤ posS n.Nodes s)) = true then some true else ((some (decide (0 ≤ posS n.Nodes t))).bind fun x94 => some (!x94))) = some true := by
        by_cases h1 : posS n.Nodes s < 0
        · have : ¬ 0 ≤ posS n.Nodes s := by omega
          simp [this]
        · have h2 : ¬ 0 ≤ posS n.Nodes t := by omega
          have h3 : 0 ≤ posS n.Nodes s := by omega
          simp [h2, h3]
      simp only [Option.bind_some, Bool.not_true, Bool.false_eq_true, if_false, beq_self_eq_true, if_true] at hcond ⊢
      rw [hcond]
      simp only [Option.bind_some, tu1, if_true, beq_self_eq_true, lt, w00]
      rfl
    · obtain ⟨a, ha⟩ := Int.eq_ofNat_of_zero_le (show 0 ≤ posS n.Nodes s by omega)
      obtain ⟨b, hb⟩ := Int.eq_ofNat_of_zero_le (show 0 ≤ posS n.Nodes t by omega)
      obtain ⟨p, hp1, hp2⟩ := path_ok F G h0 ha hb
      obtain ⟨xs, m, h1, h2, hO⟩ := buses_ok (K := K) G hK
      have hlx := hO.len
      have hm : m ≤ 24 := Nat.le_trans hO.few a1
      have hel := edges_len (n := n)
      have hjl := jl_len (n := n) (xs := xs)
      have hxb : ∀ x ∈ xs, -1 ≤ x ∧ x ≤ 1048576 := fun x hx => by have := outer_mem hO x hx; omega
      have hcount := count_prog (K := K) hxb (by omega) (by omega)
      have hmost := most_ref (K := K) hxb (by omega) (by omega)
      rw [outer_cnt hO] at hcount hmost
      have hat : ∀ j, j < n.Nodes.length → ∃ c : Nat, xs.getD j 0 = c ∧ c < m := fun j hj => by
        have g1 := hO.done j hj hj
        have g2 := (hO.rng j hj).2
        obtain ⟨c, hc⟩ := Int.eq_ofNat_of_zero_le g1
        exact ⟨c, hc, by omega⟩
      obtain ⟨c, hc, hcm⟩ := hat a (by omega)
      obtain ⟨d, hd, hdm⟩ := hat b (by omega)
      have vj := jl_valid G hO
      obtain ⟨q, hq1, hq2⟩ := way_ok (K := K) (u := fun x => g_station_Join_1 K x n ((jlL n xs).map two)) (U := joinU n xs) (fr := c) (to := d) vj (by omega) hm (by omega) (fun i hi => join_used hi) hcm hdm
      obtain ⟨fp, fpl⟩ := spec_few (edges_valid G) hel a1 (show a < n.Nodes.length by omega) hp1
      obtain ⟨fq, fql⟩ := spec_few vj hjl hm hcm hq2
      have hJ : g_station_Join K n s t = some (outN n q) := by
        unfold g_station_Join
        rw [two_ok F G h0, if_neg hbad, ha, hb]
        simp only [Option.bind_some, bne_self_eq_false, Bool.false_eq_true, if_false, h1, edges_prog G hK, join_edges G hlx hK, tu1, hcount, idx_getD (show a < xs.length by omega), idx_getD (show b < xs.length by omega), hc, hd, hq1, join_names fq (show q.1.length < K by omega), outN]
        cases q.2 <;> simp
      have hS1 := shortest_ok (K := K) (u := fun x => g_R_Closed_1 K x n) (edges_valid G) (by omega) a1 (by omega) (fun i hi => used_ref hi) (show a < n.Nodes.length by omega) (show b < n.Nodes.length by omega) hp1
      have hq3 : WaySpec (jlL n xs) (openS n) m c d q := spec_loops vj hcm (fun e he hu => by
        by_cases hl : ((jlL n xs).getD e (0, 0)).1 = ((jlL n xs).getD e (0, 0)).2
        · exact .inr hl
        · left
          unfold joinU
          rw [hu]
          simpa using hl) (fun e he hu => by
        unfold joinU at hu
        simp only [Bool.and_eq_true] at hu
        exact hu.1) hq2
      have hS2 := shortest_ok (K := K) (u := fun x => g_law_StationPaths_1 K x n) vj (by omega) hm (by omega) (fun i hi => open_used (xs := xs) hi) hcm hdm hq3
      unfold g_law_StationPaths
      rw [hF, hp2, hJ, err_ref F, has_ref K n.Nodes s (by omega) (by omega), has_ref K n.Nodes t (by omega) (by omega), posS_has, posS_has, h0, place_ref K n.Nodes s (by omega) (by omega), place_ref K n.Nodes t (by omega) (by omega), ha, hb, switching_ref G hK, h2]
      have g1 : decide (0 ≤ (a : Int)) = true := by simp
      have g2 : decide (0 ≤ (b : Int)) = true := by simp
      have hw : ∃ w, g_law_wide K n = some w := by
        unfold g_law_wide
        cases decide ((List.length n.Nodes : Int) > 8) <;> cases decide ((List.length n.Branches : Int) > 10) <;> exact ⟨_, rfl⟩
      obtain ⟨w, hw⟩ := hw
      simp only [Option.bind_some, Bool.not_true, Bool.false_eq_true, if_false, beq_self_eq_true, if_true, g1, g2, tu1, bne_self_eq_false, hw, g_R_Closed, hmost, hS1, law_edges G hlx hK, idx_getD (show a < xs.length by omega), idx_getD (show b < xs.length by omega), hc, hd, hS2, law_names fp (show p.1.length < K by omega), law_names fq (show q.1.length < K by omega)]
      have hww : (if w = true then some true else some (decide ((List.length n.Switches : Int) > 8))) = some (w || decide ((List.length n.Switches : Int) > 8)) := by cases w <;> rfl
      rw [hww]
      have e1 := equal_self_str (K := K) (p.1.map (swS n)) (by simp; omega) (by simp; omega)
      have e2 := equal_self_str (K := K) (q.1.map (swS n)) (by simp; omega) (by simp; omega)
      simp only [Option.bind_some]
      cases (w || decide ((List.length n.Switches : Int) > 8)) with
      | true => rfl
      | false =>
        unfold outN
        cases hp : p.2 <;> cases hq : q.2 <;> simp [e1, e2]
  · have hP : g_station_Path K n s t = some ([], netS n) := by
      unfold g_station_Path; rw [two_bad F h0]; simp [h0]
    have hJ : g_station_Join K n s t = some ([], netS n) := by
      unfold g_station_Join; rw [two_bad F h0]; simp [h0]
    have w00 : kwrap .i64 ((([] : List ByteArray).length : Int) + (([] : List ByteArray).length : Int)) = 0 := by simp only [List.length_nil]; exact kw (by omega) (by omega)
    have hb : (netS n != 0) = true := by simpa using h0
    have hb' : (netS n == 0) = false := by simpa using h0
    unfold g_law_StationPaths
    rw [hF, hP, hJ, err_ref F]
    simp only [Option.bind_some, Bool.not_true, Bool.false_eq_true, if_false, hb, hb', if_true, tu1, beq_self_eq_true, lt, w00]
def I_Switch (B : Nat) (x : Switch) : Prop := x.Name.size ≤ B ∧ x.A.size ≤ B ∧ x.B.size ≤ B ∧ True ∧ True
def I_Branch (B : Nat) (x : Branch) : Prop := x.Name.size ≤ B ∧ x.From.size ≤ B ∧ x.To.size ≤ B ∧ krange .i64 x.X = true ∧ krange .i64 x.Tap = true ∧ krange .i64 x.Shift = true ∧ krange .i64 x.Limit = true ∧ krange .i64 x.Short = true ∧ krange .i64 x.Hold = true
def I_Gen (B : Nat) (x : Gen) : Prop := x.Name.size ≤ B ∧ x.Node.size ≤ B ∧ krange .i64 x.Least = true ∧ krange .i64 x.Most = true ∧ krange .i64 x.Ramp = true
def I_Load_ (B : Nat) (x : Load_) : Prop := x.Name.size ≤ B ∧ x.Node.size ≤ B ∧ krange .i64 x.Demand = true
def I_Store (B : Nat) (x : Store) : Prop := x.Name.size ≤ B ∧ x.Node.size ≤ B ∧ krange .i64 x.Charge = true ∧ krange .i64 x.Discharge = true ∧ krange .i64 x.Capacity = true
def I_Network (B : Nat) (x : Network) : Prop := (x.Nodes.length ≤ B ∧ ∀ y ∈ x.Nodes, y.size ≤ B) ∧ (x.Switches.length ≤ B ∧ ∀ y ∈ x.Switches, I_Switch B y) ∧ (x.Branches.length ≤ B ∧ ∀ y ∈ x.Branches, I_Branch B y) ∧ (x.Gens.length ≤ B ∧ ∀ y ∈ x.Gens, I_Gen B y) ∧ (x.Loads.length ≤ B ∧ ∀ y ∈ x.Loads, I_Load_ B y) ∧ (x.Stores.length ≤ B ∧ ∀ y ∈ x.Stores, I_Store B y)
theorem fits_of {n : Network} (h : I_Network 1048576 n) : Fits 1048577 n := by
  obtain ⟨h1, h2, h3, h4, h5, h6⟩ := h
  have sh : ∀ s : ByteArray, s.size ≤ 1048576 → Sh 1048577 s := fun s h => ⟨by omega, h⟩
  exact ⟨by omega, fun s q => sh s (h1.2 s q), fun x q => sh _ (h2.2 x q).1, fun x q => sh _ (h3.2 x q).1, fun x q => sh _ (h4.2 x q).1, fun x q => sh _ (h5.2 x q).1, fun x q => sh _ (h6.2 x q).1⟩
theorem stationPaths_true {n : Network} {s t : ByteArray} (h : I_Network 1048576 n) (hs : s.size ≤ 1048576) (ht : t.size ≤ 1048576) : ∃ K, g_law_StationPaths K n s t = some true :=
  ⟨1048577, by rw [paths_law8 (fits_of h) s t]; rfl⟩
end Go.Am.Try
