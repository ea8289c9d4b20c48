/- Plain law: NetmodelChecks answers true. -/
import Derived.Test.YtlcdhgcfamjioaaS8L3cZ8
namespace Go.Am.Try
open Go Go.Am Go.Proofs
set_option linter.unusedSimpArgs false
set_option linter.unusedVariables false
variable {K : Nat} {n : Network}

theorem src_l0 (F : Fits K n) (hn : n.Nodes.length ≤ 24) (hx : n.Gens.length ≤ 32) (m : List ByteArray) (hmm : m.length ≤ 110) : ∃ q, g_netmodel_sources_l0 K n K ⟨m⟩ m 0 = some (Sum.elim (fun e => .inl (e, q)) (fun m => .inr (gNL m)) (runS (fun x => chkI n (iGe x)) n.Gens m)) := by
  have hm := F.many
  have h : g_netmodel_sources_l0 K n K (gNL m).1 (gNL m).2 0 = _ := dev_loop F hn n.Gens iGe (fun k (s : NL) i => g_netmodel_sources_l0 K n k s.1 s.2 i) hx m hmm
    (fun x s => if (devS n s.2 x.Name [x.Node]).1 != 0 then .inl ((devS n s.2 x.Name [x.Node]).1, (⟨(devS n s.2 x.Name [x.Node]).2⟩ : Netmodel_names)) else if inS x.Least 0 100000 && inS x.Most x.Least 100000 && inS x.Ramp 0 100000 then .inr (gNL (devS n s.2 x.Name [x.Node]).2) else .inl (4, ⟨(devS n s.2 x.Name [x.Node]).2⟩))
    (fun k s i x hx' hI => by
      obtain ⟨h1, h2⟩ := F.ge x (mem_of hx')
      have hi := lt_of hx'
      show g_netmodel_sources_l0 K n (k + 1) s.1 s.2 i = _
      rw [g_netmodel_sources_l0, lt_nat hi]
      simp only [if_true, idx_nat hx', Option.bind_some, dev_prog hm hn ⟨s.2⟩ x.Name [x.Node] h1 h2 (by show s.2.length ≤ 150; omega) (by simp), kw1 hi (by omega), within_prog]
      by_cases h : ((devS n s.2 x.Name [x.Node]).1 != 0) = true <;> by_cases h2 : inS x.Least 0 100000 = true <;> by_cases h3 : inS x.Most x.Least 100000 = true <;> by_cases h4 : inS x.Ramp 0 100000 = true <;> simp [gNL, h, h2, h3, h4, tu1])
    (fun x s s' hc => by
      have := devS_len n s.2 x.Name [x.Node]
      split at hc
      · cases hc
      · split at hc
        · cases hc; exact this
        · cases hc)
    (fun k s i hi => by
      show g_netmodel_sources_l0 K n (k + 1) s.1 s.2 i = _
      rw [g_netmodel_sources_l0, nlt_nat hi]; simp)
  obtain ⟨q, hq⟩ := runS_rel (fun x => chkI n (iGe x)) gNL (fun x (s : NL) => if (devS n s.2 x.Name [x.Node]).1 != 0 then .inl ((devS n s.2 x.Name [x.Node]).1, (⟨(devS n s.2 x.Name [x.Node]).2⟩ : Netmodel_names)) else if inS x.Least 0 100000 && inS x.Most x.Least 100000 && inS x.Ramp 0 100000 then .inr (gNL (devS n s.2 x.Name [x.Node]).2) else .inl (4, ⟨(devS n s.2 x.Name [x.Node]).2⟩)) (⟨[]⟩ : Netmodel_names)
    (fun x s => ⟨⟨(devS n s x.Name [x.Node]).2⟩, by simp only [chkI, iGe, gNL, apS, Bool.false_and]; by_cases h : ((devS n s x.Name [x.Node]).1 != 0) = true <;> by_cases h2 : inS x.Least 0 100000 = true <;> by_cases h3 : inS x.Most x.Least 100000 = true <;> by_cases h4 : inS x.Ramp 0 100000 = true <;> simp [h, h2, h3, h4]⟩) n.Gens m
  rw [hq] at h
  exact ⟨q, h⟩
theorem src_l2 (F : Fits K n) (hn : n.Nodes.length ≤ 24) (hx : n.Loads.length ≤ 32) (m : List ByteArray) (hmm : m.length ≤ 110) : ∃ q, g_netmodel_sources_l2 K n K ⟨m⟩ m 0 = some (Sum.elim (fun e => .inl (e, q)) (fun m => .inr (gNL m)) (runS (fun x => chkI n (iLo x)) n.Loads m)) := by
  have hm := F.many
  have h : g_netmodel_sources_l2 K n K (gNL m).1 (gNL m).2 0 = _ := dev_loop F hn n.Loads iLo (fun k (s : NL) i => g_netmodel_sources_l2 K n k s.1 s.2 i) hx m hmm
    (fun x s => if (devS n s.2 x.Name [x.Node]).1 != 0 then .inl ((devS n s.2 x.Name [x.Node]).1, (⟨(devS n s.2 x.Name [x.Node]).2⟩ : Netmodel_names)) else if inS x.Demand 0 100000 then .inr (gNL (devS n s.2 x.Name [x.Node]).2) else .inl (4, ⟨(devS n s.2 x.Name [x.Node]).2⟩))
    (fun k s i x hx' hI => by
      obtain ⟨h1, h2⟩ := F.lo x (mem_of hx')
      have hi := lt_of hx'
      show g_netmodel_sources_l2 K n (k + 1) s.1 s.2 i = _
      rw [g_netmodel_sources_l2, lt_nat hi]
      simp only [if_true, idx_nat hx', Option.bind_some, dev_prog hm hn ⟨s.2⟩ x.Name [x.Node] h1 h2 (by show s.2.length ≤ 150; omega) (by simp), kw1 hi (by omega), within_prog]
      by_cases h : ((devS n s.2 x.Name [x.Node]).1 != 0) = true <;> by_cases h2 : inS x.Demand 0 100000 = true <;> simp [gNL, h, h2, tu1])
    (fun x s s' hc => by
      have := devS_len n s.2 x.Name [x.Node]
      split at hc
      · cases hc
      · split at hc
        · cases hc; exact this
        · cases hc)
    (fun k s i hi => by
      show g_netmodel_sources_l2 K n (k + 1) s.1 s.2 i = _
      rw [g_netmodel_sources_l2, nlt_nat hi]; simp)
  obtain ⟨q, hq⟩ := runS_rel (fun x => chkI n (iLo x)) gNL (fun x (s : NL) => if (devS n s.2 x.Name [x.Node]).1 != 0 then .inl ((devS n s.2 x.Name [x.Node]).1, (⟨(devS n s.2 x.Name [x.Node]).2⟩ : Netmodel_names)) else if inS x.Demand 0 100000 then .inr (gNL (devS n s.2 x.Name [x.Node]).2) else .inl (4, ⟨(devS n s.2 x.Name [x.Node]).2⟩)) (⟨[]⟩ : Netmodel_names)
    (fun x s => ⟨⟨(devS n s x.Name [x.Node]).2⟩, by simp only [chkI, iLo, gNL, apS, Bool.false_and]; by_cases h : ((devS n s x.Name [x.Node]).1 != 0) = true <;> by_cases h2 : inS x.Demand 0 100000 = true <;> simp [h, h2]⟩) n.Loads m
  rw [hq] at h
  exact ⟨q, h⟩
theorem src_l4 (F : Fits K n) (hn : n.Nodes.length ≤ 24) (hx : n.Stores.length ≤ 32) (m : List ByteArray) (hmm : m.length ≤ 110) : ∃ q, g_netmodel_sources_l4 K n K ⟨m⟩ m 0 = some (Sum.elim (fun e => .inl (e, q)) (fun m => .inr (gNL m)) (runS (fun x => chkI n (iSt x)) n.Stores m)) := by
  have hm := F.many
  have h : g_netmodel_sources_l4 K n K (gNL m).1 (gNL m).2 0 = _ := dev_loop F hn n.Stores iSt (fun k (s : NL) i => g_netmodel_sources_l4 K n k s.1 s.2 i) hx m hmm
    (fun x s => if (devS n s.2 x.Name [x.Node]).1 != 0 then .inl ((devS n s.2 x.Name [x.Node]).1, (⟨(devS n s.2 x.Name [x.Node]).2⟩ : Netmodel_names)) else if inS x.Charge 0 100000 && inS x.Discharge 0 100000 && inS x.Capacity 0 100000 then .inr (gNL (devS n s.2 x.Name [x.Node]).2) else .inl (4, ⟨(devS n s.2 x.Name [x.Node]).2⟩))
    (fun k s i x hx' hI => by
      obtain ⟨h1, h2⟩ := F.st x (mem_of hx')
      have hi := lt_of hx'
      show g_netmodel_sources_l4 K n (k + 1) s.1 s.2 i = _
      rw [g_netmodel_sources_l4, lt_nat hi]
      simp only [if_true, idx_nat hx', Option.bind_some, dev_prog hm hn ⟨s.2⟩ x.Name [x.Node] h1 h2 (by show s.2.length ≤ 150; omega) (by simp), kw1 hi (by omega), within_prog]
      by_cases h : ((devS n s.2 x.Name [x.Node]).1 != 0) = true <;> by_cases h2 : inS x.Charge 0 100000 = true <;> by_cases h3 : inS x.Discharge 0 100000 = true <;> by_cases h4 : inS x.Capacity 0 100000 = true <;> simp [gNL, h, h2, h3, h4, tu1])
    (fun x s s' hc => by
      have := devS_len n s.2 x.Name [x.Node]
      split at hc
      · cases hc
      · split at hc
        · cases hc; exact this
        · cases hc)
    (fun k s i hi => by
      show g_netmodel_sources_l4 K n (k + 1) s.1 s.2 i = _
      rw [g_netmodel_sources_l4, nlt_nat hi]; simp)
  obtain ⟨q, hq⟩ := runS_rel (fun x => chkI n (iSt x)) gNL (fun x (s : NL) => if (devS n s.2 x.Name [x.Node]).1 != 0 then .inl ((devS n s.2 x.Name [x.Node]).1, (⟨(devS n s.2 x.Name [x.Node]).2⟩ : Netmodel_names)) else if inS x.Charge 0 100000 && inS x.Discharge 0 100000 && inS x.Capacity 0 100000 then .inr (gNL (devS n s.2 x.Name [x.Node]).2) else .inl (4, ⟨(devS n s.2 x.Name [x.Node]).2⟩)) (⟨[]⟩ : Netmodel_names)
    (fun x s => ⟨⟨(devS n s x.Name [x.Node]).2⟩, by simp only [chkI, iSt, gNL, apS, Bool.false_and]; by_cases h : ((devS n s x.Name [x.Node]).1 != 0) = true <;> by_cases h2 : inS x.Charge 0 100000 = true <;> by_cases h3 : inS x.Discharge 0 100000 = true <;> by_cases h4 : inS x.Capacity 0 100000 = true <;> simp [h, h2, h3, h4]⟩) n.Stores m
  rw [hq] at h
  exact ⟨q, h⟩
theorem src (F : Fits K n) (hb : bigS n = false) (m : List ByteArray) (hmm : m.length ≤ 80) : ∃ q, g_netmodel_sources K n ⟨m⟩ = some (Sum.elim (fun e => e) (fun _ => 0) (runS (chkI n) (n.Gens.map iGe ++ n.Loads.map iLo ++ n.Stores.map iSt) m), q) := by
  have hb' : n.Nodes.length ≤ 24 ∧ n.Switches.length ≤ 32 ∧ n.Branches.length ≤ 24 ∧ n.Gens.length ≤ 10 ∧ n.Loads.length ≤ 12 ∧ n.Stores.length ≤ 4 := by
    unfold bigS at hb; simp at hb; omega
  obtain ⟨a1, a2, a3, a4, a5, a6⟩ := hb'
  obtain ⟨q1, h1⟩ := src_l0 F a1 (by omega) m (by omega)
  unfold g_netmodel_sources
  simp only [h1, runS_append, runS_map]
  cases r1 : runS (fun x => chkI n (iGe x)) n.Gens m with
  | inl e => exact ⟨q1, by simp [bindS, tu2]⟩
  | inr m1 =>
    have b1 := runS_len iGe n.Gens m m1 r1
    obtain ⟨q2, h2⟩ := src_l2 F a1 (by omega) m1 (by omega)
    simp only [Sum.elim_inr, bindS, tu2, Option.bind_some, gNL, h2]
    cases r2 : runS (fun x => chkI n (iLo x)) n.Loads m1 with
    | inl e => exact ⟨q2, by simp [runS_append, runS_map, r2]⟩
    | inr m2 =>
      have b2 := runS_len iLo n.Loads m1 m2 r2
      obtain ⟨q3, h3⟩ := src_l4 F a1 (by omega) m2 (by omega)
      simp only [Sum.elim_inr, Option.bind_some, gNL, h3]
      cases r3 : runS (fun x => chkI n (iSt x)) n.Stores m2 with
      | inl e => exact ⟨q3, by simp [runS_append, runS_map, r2, r3]⟩
      | inr m3 => exact ⟨⟨m3⟩, by simp [gNL, runS_append, runS_map, r2, r3]⟩
theorem sizes_prog (K : Nat) (n : Network) : g_netmodel_sizes K n = some (if bigS n then 2 else 0) := by
  unfold g_netmodel_sizes bigS
  by_cases a1 : (n.Nodes.length : Int) > 24 <;> by_cases a2 : (n.Switches.length : Int) > 32 <;> by_cases a3 : (n.Branches.length : Int) > 24 <;> by_cases a4 : (n.Gens.length : Int) > 10 <;> by_cases a5 : (n.Loads.length : Int) > 12 <;> by_cases a6 : (n.Stores.length : Int) > 4 <;>
    simp [a1, a2, a3, a4, a5, a6, tu1] <;> omega
theorem runN_len (n : Network) : ∀ (xs : List ByteArray) (m m' : List ByteArray), runS chkN xs m = .inr m' → m'.length ≤ m.length + xs.length
  | [], m, m', h => by cases h; simp
  | x :: xs, m, m', h => by
    simp only [runS] at h
    cases hq : chkN x m with
    | inl e => rw [hq] at h; cases h
    | inr m1 =>
      rw [hq] at h
      have h1 := runN_len n xs m1 m' h
      have h2 : m1.length ≤ m.length + 1 := by
        unfold chkN at hq
        have h3 := addS_len m x
        split at hq
        · cases hq
        · cases hq; exact h3
      simp; omega
theorem check_prog (F : Fits K n) : g_netmodel_Check K n = some (netS n) := by
  unfold g_netmodel_Check netS
  rw [sizes_prog]
  cases hb : bigS n with
  | true => simp
  | false =>
  have hb' : n.Nodes.length ≤ 24 ∧ n.Switches.length ≤ 32 ∧ n.Branches.length ≤ 24 ∧ n.Gens.length ≤ 10 ∧ n.Loads.length ≤ 12 ∧ n.Stores.length ≤ 4 := by
    unfold bigS at hb; simp at hb; omega
  obtain ⟨a1, a2, a3, a4, a5, a6⟩ := hb'
  simp only [Option.bind_some, chk_l0 F a1]
  cases r0 : runS chkN n.Nodes [] with
  | inl e => simp [bindS, tu1]
  | inr m =>
    have b0 := runN_len n n.Nodes [] m r0
    simp only [Sum.elim_inr, bindS, tu1, tu2, Option.bind_some, gNL, chk_l2 F a1 (by omega) m (by simp at b0; omega), itemsS, List.append_assoc, runS_append (chkI n) (n.Switches.map iSw), runS_append (chkI n) (n.Branches.map iBr)]
    simp only [runS_map (chkI n) iSw]
    cases r1 : runS (fun x => chkI n (iSw x)) n.Switches m with
    | inl e => simp
    | inr m1 =>
      have b1 := runS_len iSw n.Switches m m1 r1
      simp only [Sum.elim_inr, Option.bind_some, gNL, chk_l4 F a1 (by omega) m1 (by simp at b0; omega), runS_append (chkI n) (n.Branches.map iBr), runS_map (chkI n) iBr]
      cases r2 : runS (fun x => chkI n (iBr x)) n.Branches m1 with
      | inl e => simp
      | inr m2 =>
        have b2 := runS_len iBr n.Branches m1 m2 r2
        obtain ⟨q, h3⟩ := src F hb m2 (by simp at b0; omega)
        simp only [Sum.elim_inr, Option.bind_some, gNL, h3, List.append_assoc]
        cases runS (chkI n) (n.Gens.map iGe ++ (n.Loads.map iLo ++ n.Stores.map iSt)) m2 <;> simp

theorem items_l0 (acc : List Item) (ha : acc.length ≤ 100) (hx : n.Switches.length ≤ 32) (hK : 200 < K) : g_R_items_l0 K n K acc 0 = some (acc ++ n.Switches.map iSw) :=
  loop_acc0 n.Switches (fun k acc i => g_R_items_l0 K n k acc i) iSw acc
    (fun k acc' i x hx' hl => by
      have hi := lt_of hx'
      have h9 : acc'.length + 1 ≤ 16777216 := by omega
      show g_R_items_l0 K n (k + 1) acc' i = _
      rw [g_R_items_l0, lt_nat hi]
      simp only [if_true, idx_nat hx', Option.bind_some, kw1 hi (by omega), in_ref, branch_ref, List.length_cons, List.length_nil]
      simp [iSw, tu1, h9])
    (fun k acc i hi => by
      show g_R_items_l0 K n (k + 1) acc i = _
      rw [g_R_items_l0, nlt_nat hi]; simp) K (by omega)
theorem items_l2 (acc : List Item) (ha : acc.length ≤ 100) (hx : n.Branches.length ≤ 32) (hK : 200 < K) : g_R_items_l2 K n K acc 0 = some (acc ++ n.Branches.map iBr) :=
  loop_acc0 n.Branches (fun k acc i => g_R_items_l2 K n k acc i) iBr acc
    (fun k acc' i x hx' hl => by
      have hi := lt_of hx'
      have h9 : acc'.length + 1 ≤ 16777216 := by omega
      show g_R_items_l2 K n (k + 1) acc' i = _
      rw [g_R_items_l2, lt_nat hi]
      simp only [if_true, idx_nat hx', Option.bind_some, kw1 hi (by omega), in_ref, branch_ref, List.length_cons, List.length_nil]
      by_cases h2 : brS x = true <;> simp [iBr, tu1, h9, h2])
    (fun k acc i hi => by
      show g_R_items_l2 K n (k + 1) acc i = _
      rw [g_R_items_l2, nlt_nat hi]; simp) K (by omega)
theorem items_l4 (acc : List Item) (ha : acc.length ≤ 100) (hx : n.Gens.length ≤ 32) (hK : 200 < K) : g_R_items_l4 K n K acc 0 = some (acc ++ n.Gens.map iGe) :=
  loop_acc0 n.Gens (fun k acc i => g_R_items_l4 K n k acc i) iGe acc
    (fun k acc' i x hx' hl => by
      have hi := lt_of hx'
      have h9 : acc'.length + 1 ≤ 16777216 := by omega
      show g_R_items_l4 K n (k + 1) acc' i = _
      rw [g_R_items_l4, lt_nat hi]
      simp only [if_true, idx_nat hx', Option.bind_some, kw1 hi (by omega), in_ref, branch_ref, List.length_cons, List.length_nil]
      by_cases h2 : inS x.Least 0 100000 = true <;> by_cases h3 : inS x.Most x.Least 100000 = true <;> by_cases h4 : inS x.Ramp 0 100000 = true <;> simp [iGe, tu1, h9, h2, h3, h4])
    (fun k acc i hi => by
      show g_R_items_l4 K n (k + 1) acc i = _
      rw [g_R_items_l4, nlt_nat hi]; simp) K (by omega)
theorem items_l6 (acc : List Item) (ha : acc.length ≤ 100) (hx : n.Loads.length ≤ 32) (hK : 200 < K) : g_R_items_l6 K n K acc 0 = some (acc ++ n.Loads.map iLo) :=
  loop_acc0 n.Loads (fun k acc i => g_R_items_l6 K n k acc i) iLo acc
    (fun k acc' i x hx' hl => by
      have hi := lt_of hx'
      have h9 : acc'.length + 1 ≤ 16777216 := by omega
      show g_R_items_l6 K n (k + 1) acc' i = _
      rw [g_R_items_l6, lt_nat hi]
      simp only [if_true, idx_nat hx', Option.bind_some, kw1 hi (by omega), in_ref, branch_ref, List.length_cons, List.length_nil]
      by_cases h2 : inS x.Demand 0 100000 = true <;> simp [iLo, tu1, h9, h2])
    (fun k acc i hi => by
      show g_R_items_l6 K n (k + 1) acc i = _
      rw [g_R_items_l6, nlt_nat hi]; simp) K (by omega)
theorem items_l8 (acc : List Item) (ha : acc.length ≤ 100) (hx : n.Stores.length ≤ 32) (hK : 200 < K) : g_R_items_l8 K n K acc 0 = some (acc ++ n.Stores.map iSt) :=
  loop_acc0 n.Stores (fun k acc i => g_R_items_l8 K n k acc i) iSt acc
    (fun k acc' i x hx' hl => by
      have hi := lt_of hx'
      have h9 : acc'.length + 1 ≤ 16777216 := by omega
      show g_R_items_l8 K n (k + 1) acc' i = _
      rw [g_R_items_l8, lt_nat hi]
      simp only [if_true, idx_nat hx', Option.bind_some, kw1 hi (by omega), in_ref, branch_ref, List.length_cons, List.length_nil]
      by_cases h2 : inS x.Charge 0 100000 = true <;> by_cases h3 : inS x.Discharge 0 100000 = true <;> by_cases h4 : inS x.Capacity 0 100000 = true <;> simp [iSt, tu1, h9, h2, h3, h4])
    (fun k acc i hi => by
      show g_R_items_l8 K n (k + 1) acc i = _
      rw [g_R_items_l8, nlt_nat hi]; simp) K (by omega)
theorem items_ref (hb : bigS n = false) (hK : 200 < K) : g_R_items K n = some (itemsS n) := by
  have hb' : n.Nodes.length ≤ 24 ∧ n.Switches.length ≤ 32 ∧ n.Branches.length ≤ 24 ∧ n.Gens.length ≤ 10 ∧ n.Loads.length ≤ 12 ∧ n.Stores.length ≤ 4 := by
    unfold bigS at hb; simp at hb; omega
  obtain ⟨a1, a2, a3, a4, a5, a6⟩ := hb'
  unfold g_R_items itemsS
  rw [items_l0 [] (by simp) (by omega) hK]
  simp only [Option.bind_some, tu1, List.nil_append]
  rw [items_l2 _ (by simp; omega) (by omega) hK]
  simp only [Option.bind_some]
  rw [items_l4 _ (by simp; omega) (by omega) hK]
  simp only [Option.bind_some]
  rw [items_l6 _ (by simp; omega) (by omega) hK]
  simp only [Option.bind_some]
  rw [items_l8 _ (by simp; omega) (by omega) hK]
  simp
/-- Items of a network: names fit, and one or two nodes. -/
def OkI (K : Nat) (x : Item) : Prop := Sh K x.name ∧ x.nodes.length ≤ 2 ∧ (x.apart = true → x.nodes.length = 2)
theorem okI (F : Fits K n) : ∀ x ∈ itemsS n, OkI K x := by
  intro x hx
  unfold itemsS at hx
  simp only [List.mem_append, List.mem_map] at hx
  rcases hx with (((⟨y, hy, rfl⟩ | ⟨y, hy, rfl⟩) | ⟨y, hy, rfl⟩) | ⟨y, hy, rfl⟩) | ⟨y, hy, rfl⟩
  · exact ⟨F.sw y hy, by simp [iSw], by simp [iSw]⟩
  · exact ⟨F.br y hy, by simp [iBr], by simp [iBr]⟩
  · exact ⟨F.ge y hy, by simp [iGe], by simp [iGe]⟩
  · exact ⟨F.lo y hy, by simp [iLo], by simp [iLo]⟩
  · exact ⟨F.st y hy, by simp [iSt], by simp [iSt]⟩
theorem err_l0 (F : Fits K n) (hn : n.Nodes.length ≤ 24) : g_R_NetError_l0 K n K [] 0 = some (runS chkN n.Nodes []) := by
  have hm := F.many
  exact loop_sum0 n.Nodes (fun k s i => g_R_NetError_l0 K n k s i) chkN (fun s i => s.length ≤ i)
    (fun k s i x hx hI => by
      obtain ⟨h1, h2⟩ := F.nodes x (mem_of hx)
      have hi := lt_of hx
      show g_R_NetError_l0 K n (k + 1) s i = _
      rw [g_R_NetError_l0, lt_nat hi]
      simp only [if_true, idx_nat hx, Option.bind_some, add_ref hm s x h1 h2 (by omega), kw1 hi (by omega), chkN]
      by_cases h : ((addS s x).1 != 0) = true <;> simp [h])
    (fun s i x s' hx hI hc => by
      have := addS_len s x
      unfold chkN at hc
      split at hc
      · cases hc
      · cases hc; omega)
    (fun k s i hi => by
      show g_R_NetError_l0 K n (k + 1) s i = _
      rw [g_R_NetError_l0, nlt_nat hi]; simp) K [] (by omega) (by simp)
theorem err_l2 (F : Fits K n) (hb : bigS n = false) (m : List ByteArray) (hmm : m.length ≤ 24) : g_R_NetError_l2 K (itemsS n) n K m 0 = some (runS (chkI n) (itemsS n) m) := by
  have hb' : n.Nodes.length ≤ 24 ∧ n.Switches.length ≤ 32 ∧ n.Branches.length ≤ 24 ∧ n.Gens.length ≤ 10 ∧ n.Loads.length ≤ 12 ∧ n.Stores.length ≤ 4 := by
    unfold bigS at hb; simp at hb; omega
  obtain ⟨a1, a2, a3, a4, a5, a6⟩ := hb'
  have hl : (itemsS n).length ≤ 82 := by unfold itemsS; simp; omega
  have hm := F.many
  exact loop_sum0 (itemsS n) (fun k s i => g_R_NetError_l2 K (itemsS n) n k s i) (chkI n) (fun s i => s.length ≤ 24 + i)
    (fun k s i x hx hI => by
      obtain ⟨⟨h1, h2⟩, h3, h4⟩ := okI F x (mem_of hx)
      have hi := lt_of hx
      show g_R_NetError_l2 K (itemsS n) n (k + 1) s i = _
      rw [g_R_NetError_l2, lt_nat hi]
      simp only [if_true, idx_nat hx, Option.bind_some, add_ref hm s x.name h1 h2 (by omega), kw1 hi (by omega), chkI, devS, endsS, ends_ref x (show n.Nodes.length ≤ 1048576 by omega) (show n.Nodes.length < K by omega) (show x.nodes.length < K by omega) (by omega)]
      by_cases hA : ((addS s x.name).1 != 0) = true
      · simp [hA]
      · by_cases hE : x.nodes.all (hasS n.Nodes) = true
        · by_cases hp : x.apart = true
          · have h5 := h4 hp
            match hnd : x.nodes, h5 with
            | [a, b], _ =>
              rw [hnd] at hE
              by_cases hs : sEq a b = true <;> by_cases hB : x.bad = true <;> simp [hA, hE, hp, hs, hB, hnd, apS, bindS, tu0, tu1, idx]
          · by_cases hB : x.bad = true <;> simp [hA, hE, hp, hB, apS, bindS, tu0, tu1]
        · simp [hA, hE, bindS, tu1, tu0])
    (fun s i x s' hx hI hc => by
      have h3 := devS_len n s x.name x.nodes
      unfold chkI at hc
      split at hc
      · cases hc
      · split at hc
        · cases hc
        · split at hc
          · cases hc
          · cases hc; omega)
    (fun k s i hi => by
      show g_R_NetError_l2 K (itemsS n) n (k + 1) s i = _
      rw [g_R_NetError_l2, nlt_nat hi]; simp) K m (by omega) hmm
theorem err_ref (F : Fits K n) : g_R_NetError K n = some (netS n) := by
  unfold g_R_NetError netS
  have hz : (if (decide ((List.length n.Nodes : Int) > 24)) = true then some true else (if (decide ((List.length n.Switches : Int) > 32)) = true then some true else (if (decide ((List.length n.Branches : Int) > 24)) = true then some true else (if (decide ((List.length n.Gens : Int) > 10)) = true then some true else (if (decide ((List.length n.Loads : Int) > 12)) = true then some true else some (decide ((List.length n.Stores : Int) > 4))))))) = some (bigS n) := by
    unfold bigS
    by_cases a1 : (n.Nodes.length : Int) > 24 <;> by_cases a2 : (n.Switches.length : Int) > 32 <;> by_cases a3 : (n.Branches.length : Int) > 24 <;> by_cases a4 : (n.Gens.length : Int) > 10 <;> by_cases a5 : (n.Loads.length : Int) > 12 <;> by_cases a6 : (n.Stores.length : Int) > 4 <;> simp [a1, a2, a3, a4, a5, a6] <;> omega
  rw [hz]
  simp only [Option.bind_some, tu1]
  cases hb : bigS n with
  | true => simp
  | false =>
  have hb' : n.Nodes.length ≤ 24 := by unfold bigS at hb; simp at hb; omega
  simp only [err_l0 F hb', Bool.false_eq_true, if_false, bindS, Option.bind_some]
  cases r0 : runS chkN n.Nodes [] with
  | inl e => simp
  | inr m =>
    have b0 := runN_len n n.Nodes [] m r0
    simp only [items_ref hb F.many, Option.bind_some, err_l2 F hb m (by simp at b0; omega), Sum.elim_inr]
    cases runS (chkI n) (itemsS n) m <;> simp
end Go.Am.Try
