/- Plain law: TopologyParts answers true. -/
import Derived.Test.YtlcdhgcfamjioaaS6L6aZ6
namespace Go.Am.Try
open Go Go.Am Go.Proofs
set_option linter.unusedSimpArgs false
set_option linter.unusedVariables false
variable {K : Nat} {n : Network} {xs is : List Int} {m mi : Nat}
theorem idx_pos {cs : List Int} {p : Int} (h0 : 0 ≤ p) (h : p < cs.length) : idx cs p = some (cs.getD p.toNat 0) := by
  obtain ⟨q, rfl⟩ := Int.eq_ofNat_of_zero_le h0
  rw [Int.toNat_natCast]
  exact idx_getD (by omega)
theorem wires_prog (G : Good n) (hO : Outer (edgesL n) (usedS n) n.Nodes.length xs m n.Nodes.length) (hK : 200 < K) : g_topology_Wires K n xs = some ((wiresL n xs).map two) := by
  obtain ⟨a1, a2, a3, _⟩ := G.big
  have hlen := hO.len
  have h : g_topology_Wires_l0 K n xs K [] 0 = _ := loop_acc0 n.Branches (fun k acc i => g_topology_Wires_l0 K n xs k acc i) (fun x => two (xs.getD (posS n.Nodes x.From).toNat 0, xs.getD (posS n.Nodes x.To).toNat 0)) []
    (fun k acc i x hx hl => by
      have hi := lt_of hx
      have h9 : acc.length + (0 + 1) ≤ 16777216 := by simp at hl; omega
      have hb := G.br (mem_of hx)
      have h1 := posS_range n.Nodes x.From
      have h2 := posS_range n.Nodes x.To
      show g_topology_Wires_l0 K n xs (k + 1) acc i = _
      rw [g_topology_Wires_l0, lt_nat hi]
      simp only [if_true, idx_nat hx, Option.bind_some, index_prog K n.Nodes _ (show n.Nodes.length ≤ 1048576 by omega) (show n.Nodes.length < K by omega), idx_pos hb.1 (show posS n.Nodes x.From < xs.length by omega), idx_pos hb.2 (show posS n.Nodes x.To < xs.length by omega), kw1 hi (by omega), two, List.length_cons, List.length_nil]
      rw [if_pos h9])
    (fun k acc i hi => by
      show g_topology_Wires_l0 K n xs (k + 1) acc i = _
      rw [g_topology_Wires_l0, nlt_nat hi]; simp) K (by omega)
  unfold g_topology_Wires
  rw [h]
  simp [tu1, wiresL]
theorem both_ref (G : Good n) (hK : 200 < K) : g_R_Topology_l0 K n K ((edgesL n).map two) 0 = some ((edgesL n ++ bothL n).map two) := by
  obtain ⟨a1, a2, a3, _⟩ := G.big
  have hel : (edgesL n).length ≤ 32 := by simp [edgesL]; omega
  have h : g_R_Topology_l0 K n K ((edgesL n).map two) 0 = _ := loop_acc0 n.Branches (fun k acc i => g_R_Topology_l0 K n k acc i) (fun x => two (posS n.Nodes x.From, posS n.Nodes x.To)) ((edgesL n).map two)
    (fun k acc i x hx hl => by
      have hi := lt_of hx
      have h9 : acc.length + (0 + 1) ≤ 16777216 := by simp at hl; omega
      show g_R_Topology_l0 K n (k + 1) acc i = _
      rw [g_R_Topology_l0, lt_nat hi]
      simp only [if_true, idx_nat hx, Option.bind_some, place_ref K n.Nodes _ (show n.Nodes.length ≤ 1048576 by omega) (show n.Nodes.length < K by omega), kw1 hi (by omega), two, List.length_cons, List.length_nil]
      rw [if_pos h9])
    (fun k acc i hi => by
      show g_R_Topology_l0 K n (k + 1) acc i = _
      rw [g_R_Topology_l0, nlt_nat hi]; simp) K (by omega)
  rw [h, List.map_append]
  simp [bothL]
theorem all_ref {i : Nat} (hi : i < (edgesL n ++ bothL n).length) : g_R_Topology_1 K (i : Int) (((edgesL n).map two).length : Int) n = some (allU n i) := by
  unfold g_R_Topology_1 allU
  rw [List.length_map]
  by_cases h : (edgesL n).length ≤ i
  · have h' : (i : Int) ≥ ((edgesL n).length : Int) := by omega
    simp [h, h', tu1]
  · have h' : ¬ (i : Int) ≥ ((edgesL n).length : Int) := by omega
    have hi' : i < n.Switches.length := by simp [edgesL] at h; omega
    have hx : n.Switches[i]? = some n.Switches[i] := List.getElem?_eq_getElem hi'
    simp only [h, h', decide_false, Bool.false_eq_true, if_false, idx_nat hx, Option.bind_some, tu1, usedS, hx]
theorem outer_of_num {l : List (Int × Int)} {U : Nat → Bool} {N : Nat} {M : Nat → Nat → Bool} {cs : List Int} (hM : ∀ a b, a < N → b < N → (M a b = true ↔ Con l U a b)) (hN : NumOk M cs m N) : Outer l U N cs m N :=
  ⟨hN.len, fun i hi => by have := hN.rng i hi; omega, fun i _ hi => (hN.rng i hi).1, fun i j hi hj _ => (hN.cls i j hi hj).trans (hM i j hi hj), fun h => by
    obtain ⟨a, h1, h2⟩ := hN.last h
    exact ⟨a, h1, h1, h2⟩, hN.rgs, hN.few⟩
theorem tab_ok {gs : List Int} (hl : xs.length ≤ 24) (hg : gs.length = xs.length) (hK : 200 < K) (hx : ∀ i < xs.length, 0 ≤ xs.getD i 0 ∧ xs.getD i 0 < m) : ∃ T, g_R_Topology_l2 K xs gs K (List.replicate m 0) 0 = some T ∧ Tab xs gs m xs.length T := by
  refine loop_inv (S := List Int) xs.length (fun k s i => g_R_Topology_l2 K xs gs k s i) (fun T i => Tab xs gs m i T) _ ?_ ?_ K _ (by omega) ⟨by simp, fun b _ ⟨j, hj, _⟩ => by omega⟩
  · rintro k T i hi hT
    right
    obtain ⟨h1, h2⟩ := hx i hi
    obtain ⟨b, hb⟩ := Int.eq_ofNat_of_zero_le h1
    have hbm : b < T.length := by rw [hT.len]; omega
    refine ⟨T.set b (gs.getD i 0), ⟨by simp [hT.len], fun c hc hex => ?_⟩, ?_⟩
    · by_cases e : c = b
      · subst e
        exact ⟨i, Nat.lt_succ_self i, hb, by rw [getD_set hbm, if_pos rfl]⟩
      · obtain ⟨j, hj, hjc⟩ := hex
        have hji : j ≠ i := fun h => by subst h; omega
        obtain ⟨j', g1, g2, g3⟩ := hT.at_ c hc ⟨j, by omega, hjc⟩
        exact ⟨j', by omega, g2, by rw [getD_set hbm, if_neg e]; exact g3⟩
    · show g_R_Topology_l2 K xs gs (k + 1) T i = _
      rw [g_R_Topology_l2, lt_nat hi, if_pos rfl, idx_getD hi, idx_getD (show i < gs.length by omega)]
      simp only [Option.bind_some, hb, idx_getD hbm, Int.toNat_natCast, kw1 hi (by omega)]
  · rintro k T i rfl hT
    refine ⟨T, ?_, hT⟩
    show g_R_Topology_l2 K xs gs (k + 1) T xs.length = _
    rw [g_R_Topology_l2, nlt_nat (Nat.le_refl _)]; simp
theorem ints_ok {l : List (Int × Int)} {U : Nat → Bool} {N : Nat} (h : Outer l U N xs m N) (hN : N ≤ 24) : ∀ x ∈ xs, -1 ≤ x ∧ x ≤ 1048576 := fun x hx => by
  have h1 := outer_mem h x hx
  have h2 := h.few
  omega
theorem topo_ok (G : Good n) (hK : 200 < K) : ∃ xs m is mi, g_topology_Fresh K n = some ⟨xs, is⟩ ∧ g_R_Topology K n = some ⟨xs, is⟩ ∧ Outer (edgesL n) (usedS n) n.Nodes.length xs m n.Nodes.length ∧ Outer (wiresL n xs) allT m is mi m := by
  obtain ⟨a1, a2, a3, _⟩ := G.big
  have hel : (edgesL n).length ≤ 32 := by simp [edgesL]; omega
  obtain ⟨xs, m, h1, h2, hO⟩ := buses_ok (K := K) G hK
  have hlen := hO.len
  have hm : m ≤ 24 := Nat.le_trans hO.few a1
  have hb := ints_ok hO a1
  have hwl : (wiresL n xs).length ≤ 24 := by simp [wiresL]; omega
  obtain ⟨is, mi, h3, hI⟩ := parts_ok (K := K) (u := fun x => g_topology_Fresh_1 K x) (U := allT) (wires_valid G hO) (by omega) hm (by omega) (by omega) (fun i _ => rfl)
  have hbl : (edgesL n ++ bothL n).length ≤ 100 := by simp [bothL]; omega
  obtain ⟨M, h4, hM⟩ := joined_ok (K := K) (u := fun x => g_R_Topology_1 K x (((edgesL n).map two).length : Int) n) (both_valid G) (by omega) a1 (by omega) (by omega) (fun i hi => all_ref hi)
  obtain ⟨gs, mg, h5, hN⟩ := numbers_ok (K := K) a1 (by omega) (eqv_of hM)
  have hg := outer_of_num hM hN
  obtain ⟨T, h6, hT⟩ := tab_ok (K := K) (m := m) (gs := gs) (show xs.length ≤ 24 by omega) (by rw [hN.len, hlen]) hK (fun i hi => outer_at hO (by omega))
  rw [hlen] at hT
  have hs := same_islands G hO hg hI hT
  subst hs
  refine ⟨xs, m, is, mi, ?_, ?_, hO, hI⟩
  · unfold g_topology_Fresh
    rw [h1]
    simp only [Option.bind_some, count_prog (K := K) hb (by omega) (by omega), outer_cnt hO, wires_prog G hO hK, h3]
  · unfold g_R_Topology
    rw [h2]
    simp only [Option.bind_some, switching_ref G hK, both_ref G hK, tu1, h4, h5, most_ref (K := K) hb (by omega) (by omega), outer_cnt hO]
    rw [if_pos (by omega)]
    simp only [Int.toNat_natCast, h6, Option.bind_some]
/-! ### Live islands -/
def islN (n : Network) (xs is : List Int) (s : ByteArray) : Nat := (is.getD (xs.getD (posS n.Nodes s).toNat 0).toNat 0).toNat
structure Top (n : Network) (xs is : List Int) (m mi : Nat) : Prop where
  bus : Outer (edgesL n) (usedS n) n.Nodes.length xs m n.Nodes.length
  isl : Outer (wiresL n xs) allT m is mi m
theorem top_at (hT : Top n xs is m mi) {j : Nat} (hj : j < n.Nodes.length) : ∃ b c : Nat, xs.getD j 0 = b ∧ b < m ∧ is.getD b 0 = c ∧ c < mi := by
  obtain ⟨h1, h2⟩ := outer_at hT.bus hj
  obtain ⟨b, hb⟩ := Int.eq_ofNat_of_zero_le h1
  have hbm : b < m := by omega
  obtain ⟨h3, h4⟩ := outer_at hT.isl hbm
  obtain ⟨c, hc⟩ := Int.eq_ofNat_of_zero_le h3
  exact ⟨b, c, hb, hbm, hc, by omega⟩
theorem live_1 (G : Good n) (hK : 200 < K) (hT : Top n xs is m mi) {s : ByteArray} (hs : 0 ≤ posS n.Nodes s) (f : Nat → Bool) : islN n xs is s < mi ∧ g_topology_Live_1 K s (rowM mi f) ⟨xs, is⟩ n = some (rowM mi fun i => if i = islN n xs is s then true else f i) := by
  obtain ⟨a1, _⟩ := G.big
  have hr := posS_range n.Nodes s
  obtain ⟨p, hp⟩ := Int.eq_ofNat_of_zero_le hs
  have hpn : p < n.Nodes.length := by omega
  obtain ⟨b, c, h1, h2, h3, h4⟩ := top_at hT hpn
  have hlx := hT.bus.len
  have hli := hT.isl.len
  have hi : islN n xs is s = c := by unfold islN; rw [hp, Int.toNat_natCast, h1, Int.toNat_natCast, h3, Int.toNat_natCast]
  rw [hi]
  refine ⟨h4, ?_⟩
  unfold g_topology_Live_1
  rw [index_prog K n.Nodes s (by omega) (by omega), hp]
  simp only [Option.bind_some, idx_getD (show p < xs.length by omega), h1, idx_getD (show b < is.length by omega), h3, idx_row h4, Int.toNat_natCast]
  unfold rowM
  rw [set_range h4]
theorem take_any {α : Type} {l : List α} {i : Nat} {x : α} (hx : l[i]? = some x) (p : α → Bool) : (l.take (i + 1)).any p = ((l.take i).any p || p x) := by
  rw [List.take_add_one, hx, List.any_append]
  simp
theorem live_l0 (G : Good n) (hK : 200 < K) (hT : Top n xs is m mi) : g_topology_Live_l0 K n ⟨xs, is⟩ K (rowM mi fun _ => false) 0 = some (rowM mi fun i => n.Gens.any fun x => islN n xs is x.Node == i) := by
  obtain ⟨a1, a2, a3, a4, a5, a6⟩ := G.big
  suffices h : ∃ r, g_topology_Live_l0 K n ⟨xs, is⟩ K (rowM mi fun _ => false) 0 = some r ∧ r = rowM mi fun i => n.Gens.any fun x => islN n xs is x.Node == i by
    obtain ⟨r, h1, rfl⟩ := h; exact h1
  refine loop_inv (S := List Bool) n.Gens.length (fun k s i => g_topology_Live_l0 K n ⟨xs, is⟩ k s i) (fun s g => s = rowM mi fun i => (n.Gens.take g).any fun x => islN n xs is x.Node == i) _ ?_ ?_ K _ (by omega) (by simp)
  · rintro k _ g hg rfl
    right
    refine ⟨_, rfl, ?_⟩
    have hx : n.Gens[g]? = some n.Gens[g] := List.getElem?_eq_getElem hg
    have h1 := (live_1 G hK hT (G.ge (mem_of hx)) (fun i => (n.Gens.take g).any fun x => islN n xs is x.Node == i)).2
    show g_topology_Live_l0 K n ⟨xs, is⟩ (k + 1) _ g = _
    rw [g_topology_Live_l0, lt_nat hg, if_pos rfl, idx_nat hx]
    simp only [Option.bind_some, h1, kw1 hg (by omega)]
    congr 2
    funext i
    rw [take_any hx]
    by_cases e : i = islN n xs is n.Gens[g].Node
    · simp [e]
    · have e2 : (islN n xs is n.Gens[g].Node == i) = false := by simp; exact fun h => e h.symm
      simp [e, e2]
  · rintro k _ g rfl rfl
    refine ⟨_, ?_, rfl⟩
    show g_topology_Live_l0 K n ⟨xs, is⟩ (k + 1) _ n.Gens.length = _
    rw [g_topology_Live_l0, nlt_nat (Nat.le_refl _), List.take_length]; simp
def flagS (n : Network) (xs is : List Int) (i : Nat) : Bool := (n.Gens.any fun x => islN n xs is x.Node == i) || n.Stores.any fun x => islN n xs is x.Node == i
theorem live_l2 (G : Good n) (hK : 200 < K) (hT : Top n xs is m mi) : g_topology_Live_l2 K n ⟨xs, is⟩ K (rowM mi fun i => n.Gens.any fun x => islN n xs is x.Node == i) 0 = some (rowM mi (flagS n xs is)) := by
  obtain ⟨a1, a2, a3, a4, a5, a6⟩ := G.big
  suffices h : ∃ r, g_topology_Live_l2 K n ⟨xs, is⟩ K (rowM mi fun i => n.Gens.any fun x => islN n xs is x.Node == i) 0 = some r ∧ r = rowM mi (flagS n xs is) by
    obtain ⟨r, h1, rfl⟩ := h; exact h1
  refine loop_inv (S := List Bool) n.Stores.length (fun k s i => g_topology_Live_l2 K n ⟨xs, is⟩ k s i) (fun s g => s = rowM mi fun i => (n.Gens.any fun x => islN n xs is x.Node == i) || (n.Stores.take g).any fun x => islN n xs is x.Node == i) _ ?_ ?_ K _ (by omega) (by simp)
  · rintro k _ g hg rfl
    right
    refine ⟨_, rfl, ?_⟩
    have hx : n.Stores[g]? = some n.Stores[g] := List.getElem?_eq_getElem hg
    have h1 := (live_1 G hK hT (G.st (mem_of hx)) (fun i => (n.Gens.any fun x => islN n xs is x.Node == i) || (n.Stores.take g).any fun x => islN n xs is x.Node == i)).2
    show g_topology_Live_l2 K n ⟨xs, is⟩ (k + 1) _ g = _
    rw [g_topology_Live_l2, lt_nat hg, if_pos rfl, idx_nat hx]
    simp only [Option.bind_some, h1, kw1 hg (by omega)]
    congr 2
    funext i
    rw [take_any hx]
    by_cases e : i = islN n xs is n.Stores[g].Node
    · simp [e]
    · have e2 : (islN n xs is n.Stores[g].Node == i) = false := by simp; exact fun h => e h.symm
      simp [e, e2]
  · rintro k _ g rfl rfl
    refine ⟨_, ?_, rfl⟩
    show g_topology_Live_l2 K n ⟨xs, is⟩ (k + 1) _ n.Stores.length = _
    rw [g_topology_Live_l2, nlt_nat (Nat.le_refl _), List.take_length]; simp only [Bool.false_eq_true, if_false]; rfl
/-! ### Names are met once -/
theorem chkN_inv {x : ByteArray} {m m' : List ByteArray} (h : chkN x m = .inr m') : m' = m ++ [x] ∧ hasS m x = false := by
  unfold chkN addS at h
  cases hn : nameS x with
  | false => simp [hn] at h
  | true =>
    cases hs : hasS m x with
    | true => simp [hn, hs] at h
    | false => simp [hn, hs] at h; exact ⟨h.symm, rfl⟩
theorem runN_inv : ∀ (xs : List ByteArray) (m m' : List ByteArray), runS chkN xs m = .inr m' → ∀ j (hj : j < xs.length), hasS (m ++ xs.take j) xs[j] = false
  | [], _, _, _, j, hj => by simp at hj
  | x :: xs, m, m', h, j, hj => by
    simp only [runS] at h
    cases hc : chkN x m with
    | inl e => rw [hc] at h; cases h
    | inr m1 =>
      rw [hc] at h
      obtain ⟨rfl, h2⟩ := chkN_inv hc
      cases j with
      | zero => simpa using h2
      | succ j =>
        have := runN_inv xs _ m' h j (by simpa using hj)
        simpa using this
theorem posS_uniq : ∀ (l : List ByteArray) (s : ByteArray) (j : Nat) (hj : j < l.length), hasS (l.take j) s = false → sEq s l[j] = true → posS l s = j
  | x :: l, s, 0, _, _, h => by simp only [posS]; rw [if_pos (by simpa using h)]; rfl
  | x :: l, s, j + 1, hj, h1, h2 => by
    simp only [List.take_succ_cons, hasS, List.any_cons, Bool.or_eq_false_iff] at h1
    have h3 := posS_uniq l s j (by simpa using hj) h1.2 (by simpa using h2)
    simp only [posS, h1.1, Bool.false_eq_true, if_false, h3]
    rw [if_neg (by omega)]; omega
theorem posS_at : ∀ (l : List ByteArray) (s d : ByteArray), 0 ≤ posS l s → sEq s (l.getD (posS l s).toNat d) = true
  | [], s, d, h => by simp [posS] at h
  | x :: l, s, d, h => by
    simp only [posS] at h ⊢
    by_cases hq : sEq s x = true
    · simp [hq]
    · simp only [hq, Bool.false_eq_true, if_false] at h ⊢
      by_cases h3 : posS l s < 0
      · rw [if_pos h3] at h; omega
      · rw [if_neg h3]
        have h4 := posS_at l s d (by omega)
        have h5 : (posS l s + 1).toNat = (posS l s).toNat + 1 := by omega
        rw [h5]; simpa using h4
def nodeS (n : Network) (j : Nat) : ByteArray := n.Nodes.getD j ⟨#[]⟩
theorem pos_node (h : netS n = 0) {j : Nat} (hj : j < n.Nodes.length) : posS n.Nodes (nodeS n j) = j := by
  unfold netS at h
  split at h
  · omega
  · cases r0 : runS chkN n.Nodes [] with
    | inl e =>
      rw [r0] at h
      have : e ≠ 0 := runS_err chkN (fun e => e ≠ 0) (fun x s e he => by
        unfold chkN at he
        split at he
        · rename_i h1; cases he; simpa using h1
        · cases he) _ _ _ r0
      exact absurd h this
    | inr m' =>
      have h1 := runN_inv n.Nodes [] m' r0 j hj
      have h2 : nodeS n j = n.Nodes[j] := by simp [nodeS, List.getD_eq_getElem?_getD, hj]
      rw [h2]
      exact posS_uniq n.Nodes _ j hj (by simpa using h1) (sEq_iff.2 rfl)
def hitS (n : Network) (xs is : List Int) (i j : Nat) : Bool := is.getD (xs.getD j 0).toNat 0 == (i : Int) && ((n.Gens.any fun x => sEq x.Node (nodeS n j)) || n.Stores.any fun x => sEq x.Node (nodeS n j))
theorem flag_hit (h0 : netS n = 0) (G : Good n) (hT : Top n xs is m mi) (i : Nat) : flagS n xs is i = (List.range n.Nodes.length).any (hitS n xs is i) := by
  have fwd : ∀ s : ByteArray, 0 ≤ posS n.Nodes s → islN n xs is s = i → (posS n.Nodes s).toNat < n.Nodes.length ∧ is.getD (xs.getD (posS n.Nodes s).toNat 0).toNat 0 = (i : Int) ∧ sEq s (nodeS n (posS n.Nodes s).toNat) = true := fun s hs hi => by
    have hr := posS_range n.Nodes s
    have hj : (posS n.Nodes s).toNat < n.Nodes.length := by omega
    obtain ⟨b, c, h1, h2, h3, h4⟩ := top_at hT hj
    refine ⟨hj, ?_, posS_at n.Nodes s _ hs⟩
    unfold islN at hi
    rw [h1, Int.toNat_natCast, h3, Int.toNat_natCast] at hi
    rw [h1, Int.toNat_natCast, h3, hi]
  have bwd : ∀ (s : ByteArray) (j : Nat), j < n.Nodes.length → is.getD (xs.getD j 0).toNat 0 = (i : Int) → sEq s (nodeS n j) = true → islN n xs is s = i := fun s j hj h1 h2 => by
    rw [sEq_iff.1 h2]
    unfold islN
    rw [pos_node h0 hj, Int.toNat_natCast, h1, Int.toNat_natCast]
  rw [Bool.eq_iff_iff]
  unfold flagS hitS
  simp only [Bool.or_eq_true, List.any_eq_true, Bool.and_eq_true, beq_iff_eq, List.mem_range]
  constructor
  · rintro (⟨x, hx, h⟩ | ⟨x, hx, h⟩)
    · obtain ⟨g1, g2, g3⟩ := fwd x.Node (G.ge hx) h
      exact ⟨_, g1, g2, .inl ⟨x, hx, g3⟩⟩
    · obtain ⟨g1, g2, g3⟩ := fwd x.Node (G.st hx) h
      exact ⟨_, g1, g2, .inr ⟨x, hx, g3⟩⟩
  · rintro ⟨j, hj, h1, ⟨x, hx, h2⟩ | ⟨x, hx, h2⟩⟩
    · exact .inl ⟨x, hx, bwd _ j hj h1 h2⟩
    · exact .inr ⟨x, hx, bwd _ j hj h1 h2⟩
theorem contains_Gen (l : List Gen) (f : Gen → Option Bool) (g : Gen → Bool) (hf : ∀ x, f x = some (g x)) (hl : l.length ≤ 1048576) (hK : l.length < K) : g_slices_ContainsFunc_api_Gen_api_Gen K l f = some (l.any g) := by
  have : ∃ r, g_slices_IndexFunc_api_Gen_api_Gen_l0 K l f K 0 = some r ∧ ((∃ j : Nat, r = .inl (j : Int) ∧ l.any g = true) ∨ (r = .inr () ∧ l.any g = false)) := by
    refine loop_inv (S := Unit) l.length (fun k _ i => g_slices_IndexFunc_api_Gen_api_Gen_l0 K l f k i) (fun _ i => (l.take i).any g = false) _ ?_ ?_ K () hK (by simp)
    · rintro k _ i hi hno
      have hx : l[i]? = some l[i] := List.getElem?_eq_getElem hi
      show (∃ r, g_slices_IndexFunc_api_Gen_api_Gen_l0 K l f (k + 1) i = some r ∧ _) ∨ _
      rw [g_slices_IndexFunc_api_Gen_api_Gen_l0, lt_nat hi, if_pos rfl, idx_nat hx]
      simp only [Option.bind_some, hf, kw1 hi (by omega)]
      cases hg : g l[i] with
      | true => exact .inl ⟨_, rfl, .inl ⟨i, rfl, List.any_eq_true.2 ⟨_, List.getElem_mem hi, hg⟩⟩⟩
      | false => exact .inr ⟨(), by rw [take_any hx, hno, hg]; rfl, by simp⟩
    · rintro k _ i rfl hno
      refine ⟨.inr (), ?_, .inr ⟨rfl, by rw [List.take_length] at hno; exact hno⟩⟩
      show g_slices_IndexFunc_api_Gen_api_Gen_l0 K l f (k + 1) l.length = _
      rw [g_slices_IndexFunc_api_Gen_api_Gen_l0, nlt_nat (Nat.le_refl _)]; simp
  obtain ⟨r, h1, h2⟩ := this
  unfold g_slices_ContainsFunc_api_Gen_api_Gen g_slices_IndexFunc_api_Gen_api_Gen
  rw [h1]
  rcases h2 with ⟨j, rfl, h3⟩ | ⟨rfl, h3⟩
  · simp [bindS, tu1, h3]
  · simp [bindS, tu0, h3]
theorem contains_Store (l : List Store) (f : Store → Option Bool) (g : Store → Bool) (hf : ∀ x, f x = some (g x)) (hl : l.length ≤ 1048576) (hK : l.length < K) : g_slices_ContainsFunc_api_Store_api_Store K l f = some (l.any g) := by
  have : ∃ r, g_slices_IndexFunc_api_Store_api_Store_l0 K l f K 0 = some r ∧ ((∃ j : Nat, r = .inl (j : Int) ∧ l.any g = true) ∨ (r = .inr () ∧ l.any g = false)) := by
    refine loop_inv (S := Unit) l.length (fun k _ i => g_slices_IndexFunc_api_Store_api_Store_l0 K l f k i) (fun _ i => (l.take i).any g = false) _ ?_ ?_ K () hK (by simp)
    · rintro k _ i hi hno
      have hx : l[i]? = some l[i] := List.getElem?_eq_getElem hi
      show (∃ r, g_slices_IndexFunc_api_Store_api_Store_l0 K l f (k + 1) i = some r ∧ _) ∨ _
      rw [g_slices_IndexFunc_api_Store_api_Store_l0, lt_nat hi, if_pos rfl, idx_nat hx]
      simp only [Option.bind_some, hf, kw1 hi (by omega)]
      cases hg : g l[i] with
      | true => exact .inl ⟨_, rfl, .inl ⟨i, rfl, List.any_eq_true.2 ⟨_, List.getElem_mem hi, hg⟩⟩⟩
      | false => exact .inr ⟨(), by rw [take_any hx, hno, hg]; rfl, by simp⟩
    · rintro k _ i rfl hno
      refine ⟨.inr (), ?_, .inr ⟨rfl, by rw [List.take_length] at hno; exact hno⟩⟩
      show g_slices_IndexFunc_api_Store_api_Store_l0 K l f (k + 1) l.length = _
      rw [g_slices_IndexFunc_api_Store_api_Store_l0, nlt_nat (Nat.le_refl _)]; simp
  obtain ⟨r, h1, h2⟩ := this
  unfold g_slices_ContainsFunc_api_Store_api_Store g_slices_IndexFunc_api_Store_api_Store
  rw [h1]
  rcases h2 with ⟨j, rfl, h3⟩ | ⟨rfl, h3⟩
  · simp [bindS, tu1, h3]
  · simp [bindS, tu0, h3]
theorem law_l2 (G : Good n) (hK : 200 < K) (hT : Top n xs is m mi) (i : Nat) : g_law_TopologyParts_l2 K n ⟨xs, is⟩ i K false 0 = some ((List.range n.Nodes.length).any (hitS n xs is i)) := by
  obtain ⟨a1, a2, a3, a4, a5, a6⟩ := G.big
  suffices h : ∃ r, g_law_TopologyParts_l2 K n ⟨xs, is⟩ i K false 0 = some r ∧ r = (List.range n.Nodes.length).any (hitS n xs is i) by
    obtain ⟨r, h1, rfl⟩ := h; exact h1
  refine loop_inv (S := Bool) n.Nodes.length (fun k s j => g_law_TopologyParts_l2 K n ⟨xs, is⟩ i k s j) (fun s j => s = (List.range j).any (hitS n xs is i)) _ ?_ ?_ K _ (by omega) rfl
  · rintro k _ j hj rfl
    right
    refine ⟨_, rfl, ?_⟩
    obtain ⟨b, c, h1, h2, h3, h4⟩ := top_at hT hj
    have hlx := hT.bus.len
    have hli := hT.isl.len
    have hn : idx n.Nodes (j : Int) = some (nodeS n j) := idx_getG _ (by omega)
    show g_law_TopologyParts_l2 K n ⟨xs, is⟩ i (k + 1) _ j = _
    rw [g_law_TopologyParts_l2, lt_nat hj, if_pos rfl, hn, List.range_succ, List.any_append]
    simp only [Option.bind_some, idx_getD (show j < xs.length by omega), h1, idx_getD (show b < is.length by omega), h3, kw1 hj (by omega), List.any_cons, List.any_nil, Bool.or_false,
      contains_Gen (K := K) n.Gens (fun x => g_law_TopologyParts_1 K x (nodeS n j)) (fun x => sEq x.Node (nodeS n j)) (fun _ => rfl) (by omega) (by omega),
      contains_Store (K := K) n.Stores (fun x => g_law_TopologyParts_2 K x (nodeS n j)) (fun x => sEq x.Node (nodeS n j)) (fun _ => rfl) (by omega) (by omega)]
    have hh : hitS n xs is i j = ((c : Int) == (i : Int) && ((n.Gens.any fun x => sEq x.Node (nodeS n j)) || n.Stores.any fun x => sEq x.Node (nodeS n j))) := by
      unfold hitS; rw [h1, Int.toNat_natCast, h3]
    rw [hh]
    generalize (List.range j).any (hitS n xs is i) = q1
    generalize (n.Gens.any fun x => sEq x.Node (nodeS n j)) = q2
    generalize (n.Stores.any fun x => sEq x.Node (nodeS n j)) = q3
    generalize ((c : Int) == (i : Int)) = q4
    cases q1 <;> cases q2 <;> cases q3 <;> cases q4 <;> simp [tu1]
  · rintro k _ j rfl rfl
    refine ⟨_, ?_, rfl⟩
    show g_law_TopologyParts_l2 K n ⟨xs, is⟩ i (k + 1) _ n.Nodes.length = _
    rw [g_law_TopologyParts_l2, nlt_nat (Nat.le_refl _)]; simp
theorem law_l0 (h0 : netS n = 0) (G : Good n) (hK : 200 < K) (hT : Top n xs is m mi) (hmi : mi ≤ 24) : g_law_TopologyParts_l0 K (rowM mi (flagS n xs is), 0) n ⟨xs, is⟩ K 0 = some (.inr ()) := by
  have hlen : (rowM mi (flagS n xs is)).length = mi := by simp [rowM]
  have : ∃ r, g_law_TopologyParts_l0 K (rowM mi (flagS n xs is), 0) n ⟨xs, is⟩ K 0 = some r ∧ r = .inr () := by
    refine loop_inv (S := Unit) mi (fun k _ i => g_law_TopologyParts_l0 K (rowM mi (flagS n xs is), 0) n ⟨xs, is⟩ k i) (fun _ _ => True) _ ?_ ?_ K () (by omega) trivial
    · rintro k _ i hi _
      right
      refine ⟨(), trivial, ?_⟩
      show g_law_TopologyParts_l0 K (rowM mi (flagS n xs is), 0) n ⟨xs, is⟩ (k + 1) i = _
      rw [g_law_TopologyParts_l0]
      simp only [hlen, lt_nat hi, if_true, idx_row hi, Option.bind_some, law_l2 G hK hT i, tu1, flag_hit h0 G hT i, beq_self_eq_true, Bool.not_true, Bool.false_eq_true, if_false, kw1 hi (by omega)]
    · rintro k _ i rfl _
      refine ⟨_, ?_, rfl⟩
      show g_law_TopologyParts_l0 K (rowM i (flagS n xs is), 0) n ⟨xs, is⟩ (k + 1) i = _
      rw [g_law_TopologyParts_l0]
      simp only [hlen, nlt_nat (Nat.le_refl _)]; simp
  obtain ⟨r, h1, rfl⟩ := this
  exact h1
theorem equal_self (ys : List Int) (hl : ys.length ≤ 1048576) (hK : ys.length < K) : g_slices_Equal_int_int K ys ys = some true := by
  unfold g_slices_Equal_int_int
  have : ∃ r, g_slices_Equal_int_int_l0 K ys ys K 0 = some r ∧ r = .inr () := by
    refine loop_inv (S := Unit) ys.length (fun k _ i => g_slices_Equal_int_int_l0 K ys ys k i) (fun _ _ => True) _ ?_ ?_ K () hK trivial
    · rintro k _ i hi _
      right
      refine ⟨(), trivial, ?_⟩
      show g_slices_Equal_int_int_l0 K ys ys (k + 1) i = _
      rw [g_slices_Equal_int_int_l0, lt_nat hi]
      simp only [if_true, idx_getD hi, Option.bind_some, kw1 hi (by omega), bne_self_eq_false, Bool.false_eq_true, if_false]
    · rintro k _ i rfl _
      refine ⟨_, ?_, rfl⟩
      show g_slices_Equal_int_int_l0 K ys ys (k + 1) ys.length = _
      rw [g_slices_Equal_int_int_l0, nlt_nat (Nat.le_refl _)]; simp
  obtain ⟨r, h1, rfl⟩ := this
  rw [h1]
  simp [bindS, tu0]
theorem topo_law (F : Fits K n) : g_law_TopologyParts K n = (g_law_topologyFact K).bind fun c => some c := by
  have hK := F.many
  have hF : g_law_topologyFact K = some true := rfl
  unfold g_law_TopologyParts g_topology_Of g_topology_Live
  rw [check_prog F, err_ref F, hF]
  simp only [Option.bind_some, Bool.not_true, Bool.false_eq_true, if_false]
  by_cases h0 : netS n = 0
  · have G := good_of h0
    obtain ⟨a1, a2, a3, a4, a5, a6⟩ := G.big
    obtain ⟨xs, m, is, mi, h1, h2, hO, hI⟩ := topo_ok (K := K) G hK
    have hT : Top n xs is m mi := ⟨hO, hI⟩
    have hlx := hO.len
    have hli := hI.len
    have hm : m ≤ 24 := Nat.le_trans hO.few a1
    have hmi : mi ≤ 24 := Nat.le_trans hI.few hm
    have hbi := ints_ok hI hm
    have hcount := count_prog (K := K) hbi (by omega) (by omega)
    have hmost := most_ref (K := K) hbi (by omega) (by omega)
    rw [outer_cnt hI] at hcount hmost
    have hrep : List.replicate mi false = rowM mi (fun _ => false) := by simp [rowM, List.map_const']
    have hrl : (rowM mi (flagS n xs is)).length = mi := by simp [rowM]
    simp only [h0, bne_self_eq_false, Bool.false_eq_true, if_false, h1, h2, hcount, hmost, Option.bind_some]
    rw [if_pos (by omega)]
    simp only [Int.toNat_natCast, hrep, live_l0 G hK hT, live_l2 G hK hT, tu1, Option.bind_some, bne_self_eq_false, Bool.false_eq_true, if_false, equal_self (K := K) xs (by omega) (by omega), equal_self (K := K) is (by omega) (by omega), Bool.not_true, hrl, law_l0 h0 G hK hT hmi, bindS, tu0]
  · have hb : (netS n != 0) = true := by simpa using h0
    have w0 : kwrap .i64 ((([] : List Int).length : Int) + (([] : List Int).length : Int)) = 0 := by simp only [List.length_nil]; exact kw (by omega) (by omega)
    have w1 : kwrap .i64 (0 + (([] : List Bool).length : Int)) = 0 := by simp only [List.length_nil]; exact kw (by omega) (by omega)
    simp only [hb, if_true, Option.bind_some, beq_self_eq_true, lt, w0, w1, tu1]
def I_Switch (B : Nat) (x : Switch) : Prop := x.Name.size ≤ B ∧ x.A.size ≤ B ∧ x.B.size ≤ B ∧ True ∧ True
def I_Branch (B : Nat) (x : Branch) : Prop := x.Name.size ≤ B ∧ x.From.size ≤ B ∧ x.To.size ≤ B ∧ krange .i64 x.X = true ∧ krange .i64 x.Tap = true ∧ krange .i64 x.Shift = true ∧ krange .i64 x.Limit = true ∧ krange .i64 x.Short = true ∧ krange .i64 x.Hold = true
def I_Gen (B : Nat) (x : Gen) : Prop := x.Name.size ≤ B ∧ x.Node.size ≤ B ∧ krange .i64 x.Least = true ∧ krange .i64 x.Most = true ∧ krange .i64 x.Ramp = true
def I_Load_ (B : Nat) (x : Load_) : Prop := x.Name.size ≤ B ∧ x.Node.size ≤ B ∧ krange .i64 x.Demand = true
def I_Store (B : Nat) (x : Store) : Prop := x.Name.size ≤ B ∧ x.Node.size ≤ B ∧ krange .i64 x.Charge = true ∧ krange .i64 x.Discharge = true ∧ krange .i64 x.Capacity = true
def I_Network (B : Nat) (x : Network) : Prop := (x.Nodes.length ≤ B ∧ ∀ y ∈ x.Nodes, y.size ≤ B) ∧ (x.Switches.length ≤ B ∧ ∀ y ∈ x.Switches, I_Switch B y) ∧ (x.Branches.length ≤ B ∧ ∀ y ∈ x.Branches, I_Branch B y) ∧ (x.Gens.length ≤ B ∧ ∀ y ∈ x.Gens, I_Gen B y) ∧ (x.Loads.length ≤ B ∧ ∀ y ∈ x.Loads, I_Load_ B y) ∧ (x.Stores.length ≤ B ∧ ∀ y ∈ x.Stores, I_Store B y)
theorem fits_of {n : Network} (h : I_Network 1048576 n) : Fits 1048577 n := by
  obtain ⟨h1, h2, h3, h4, h5, h6⟩ := h
  have sh : ∀ s : ByteArray, s.size ≤ 1048576 → Sh 1048577 s := fun s h => ⟨by omega, h⟩
  exact ⟨by omega, fun s q => sh s (h1.2 s q), fun x q => sh _ (h2.2 x q).1, fun x q => sh _ (h3.2 x q).1, fun x q => sh _ (h4.2 x q).1, fun x q => sh _ (h5.2 x q).1, fun x q => sh _ (h6.2 x q).1⟩
theorem topologyParts_true {n : Network} (h : I_Network 1048576 n) : ∃ K, g_law_TopologyParts K n = some true :=
  ⟨1048577, by rw [topo_law (fits_of h)]; rfl⟩
end Go.Am.Try
