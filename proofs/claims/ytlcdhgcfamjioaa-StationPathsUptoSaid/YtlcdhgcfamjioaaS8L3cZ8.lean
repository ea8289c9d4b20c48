/- Plain law: NetmodelChecks answers true. -/
import Derived.Test.YtlcdhgcfamjioaaS8L3bZ8
namespace Go.Am.Try
open Go Go.Am Go.Proofs
set_option linter.unusedSimpArgs false
set_option linter.unusedVariables false
variable {K : Nat} {n : Network}
theorem runS_rel {α S T E Q : Type} (chk : α → S → E ⊕ S) (g : S → T) (chk' : α → T → (E × Q) ⊕ T) (q0 : Q) (h : ∀ x s, ∃ q, chk' x (g s) = Sum.elim (fun e => .inl (e, q)) (fun s' => .inr (g s')) (chk x s)) :
    ∀ (xs : List α) (s : S), ∃ q, runS chk' xs (g s) = Sum.elim (fun e => .inl (e, q)) (fun s' => .inr (g s')) (runS chk xs s)
  | [], s => ⟨q0, rfl⟩
  | x :: xs, s => by
    simp only [runS]
    obtain ⟨q, hq⟩ := h x s
    rw [hq]
    cases chk x s with
    | inl e => exact ⟨q, rfl⟩
    | inr s' => exact runS_rel chk g chk' q0 h xs s'

/-- Names, short enough. -/
def Sh (K : Nat) (s : ByteArray) : Prop := s.size < K ∧ s.size ≤ 1048576
structure Fits (K : Nat) (n : Network) : Prop where
  many : 200 < K
  nodes : ∀ s ∈ n.Nodes, Sh K s
  sw : ∀ x ∈ n.Switches, Sh K x.Name
  br : ∀ x ∈ n.Branches, Sh K x.Name
  ge : ∀ x ∈ n.Gens, Sh K x.Name
  lo : ∀ x ∈ n.Loads, Sh K x.Name
  st : ∀ x ∈ n.Stores, Sh K x.Name
abbrev NL := Netmodel_names × List ByteArray
def gNL (m : List ByteArray) : NL := (⟨m⟩, m)
theorem mem_of {α : Type} {xs : List α} {i : Nat} {x : α} (h : xs[i]? = some x) : x ∈ xs := List.mem_of_getElem? h
theorem lt_of {α : Type} {xs : List α} {i : Nat} {x : α} (h : xs[i]? = some x) : i < xs.length := (List.getElem?_eq_some_iff.1 h).1

theorem chk_l0 (F : Fits K n) (hn : n.Nodes.length ≤ 24) : g_netmodel_Check_l0 K n K ⟨[]⟩ [] 0 = some (Sum.elim .inl (fun m => .inr (gNL m)) (runS chkN n.Nodes [])) := by
  have hm := F.many
  have h : g_netmodel_Check_l0 K n K (gNL []).1 (gNL []).2 0 = _ := loop_sum0 n.Nodes (fun k (s : NL) i => g_netmodel_Check_l0 K n k s.1 s.2 i)
    (fun x s => if (addS s.2 x).1 != 0 then .inl (addS s.2 x).1 else .inr (gNL (addS s.2 x).2)) (fun s i => s.2.length ≤ i)
    (fun k s i x hx hI => by
      obtain ⟨h1, h2⟩ := F.nodes x (mem_of hx)
      have hi := lt_of hx
      show g_netmodel_Check_l0 K n (k + 1) s.1 s.2 i = _
      rw [g_netmodel_Check_l0, lt_nat hi]
      simp only [if_true, idx_nat hx, Option.bind_some, add_prog hm ⟨s.2⟩ x h1 h2 (by show s.2.length ≤ 150; omega), kw1 hi (by omega)]
      by_cases h : ((addS s.2 x).1 != 0) = true <;> simp [h, gNL])
    (fun s i x s' hx hI hc => by
      have := addS_len s.2 x
      split at hc
      · cases hc
      · cases hc; show (addS s.2 x).2.length ≤ i + 1; omega)
    (fun k s i hi => by
      show g_netmodel_Check_l0 K n (k + 1) s.1 s.2 i = _
      rw [g_netmodel_Check_l0, nlt_nat hi]; simp) K (gNL []) (by omega) (by simp [gNL])
  rw [runS_pair chkN gNL _ (fun x s => by unfold chkN; by_cases h : ((addS s x).1 != 0) = true <;> simp [h, gNL])] at h
  exact h
/-- The five loops over devices. -/
theorem dev_loop {α E : Type} (F : Fits K n) (hn : n.Nodes.length ≤ 24) (xs : List α) (it : α → Item) (l : Nat → NL → Int → Option (E ⊕ NL)) (hx : xs.length ≤ 32) (m : List ByteArray) (hmm : m.length ≤ 110)
    (c : α → NL → E ⊕ NL) (h : ∀ k (s : NL) (i : Nat) x, xs[i]? = some x → s.2.length ≤ 145 → l (k + 1) s i = Sum.elim (fun e => some (.inl e)) (fun s' => l k s' ((i + 1 : Nat) : Int)) (c x s))
    (hc : ∀ x s s', c x s = .inr s' → s'.2.length ≤ s.2.length + 1) (h0 : ∀ k s (i : Nat), xs.length ≤ i → l (k + 1) s i = some (.inr s)) : l K (gNL m) 0 = some (runS c xs (gNL m)) := by
  have hm := F.many
  refine loop_sum0 xs l c (fun s i => s.2.length ≤ m.length + i) (fun k s i x hx' hI => h k s i x hx' (by have := lt_of hx'; omega)) (fun s i x s' hx' hI hc' => by have := hc x s s' hc'; omega) h0 K (gNL m) (by omega) (by simp [gNL])
theorem runS_len {α : Type} {n : Network} (it : α → Item) : ∀ (xs : List α) (m m' : List ByteArray), runS (fun x => chkI n (it x)) xs m = .inr m' → m'.length ≤ m.length + xs.length
  | [], m, m', h => by cases h; simp
  | x :: xs, m, m', h => by
    simp only [runS] at h
    cases hq : chkI n (it x) m with
    | inl e => rw [hq] at h; cases h
    | inr m1 =>
      rw [hq] at h
      have h1 := runS_len it xs m1 m' h
      have h2 : m1.length ≤ m.length + 1 := by
        unfold chkI at hq
        have h3 := devS_len n m (it x).name (it x).nodes
        split at hq
        · cases hq
        · split at hq
          · cases hq
          · split at hq
            · cases hq
            · cases hq; exact h3
      simp; omega
theorem chk_l2 (F : Fits K n) (hn : n.Nodes.length ≤ 24) (hx : n.Switches.length ≤ 32) (m : List ByteArray) (hmm : m.length ≤ 110) : g_netmodel_Check_l2 K n K ⟨m⟩ m 0 = some (Sum.elim .inl (fun m => .inr (gNL m)) (runS (fun x => chkI n (iSw x)) n.Switches m)) := by
  have hm := F.many
  have h : g_netmodel_Check_l2 K n K (gNL m).1 (gNL m).2 0 = _ := dev_loop F hn n.Switches iSw (fun k (s : NL) i => g_netmodel_Check_l2 K n k s.1 s.2 i) hx m hmm
    (fun x s => if (devS n s.2 x.Name [x.A, x.B]).1 != 0 then .inl (devS n s.2 x.Name [x.A, x.B]).1 else if sEq x.A x.B then .inl 3 else .inr (gNL (devS n s.2 x.Name [x.A, x.B]).2))
    (fun k s i x hx' hI => by
      obtain ⟨h1, h2⟩ := F.sw x (mem_of hx')
      have hi := lt_of hx'
      show g_netmodel_Check_l2 K n (k + 1) s.1 s.2 i = _
      rw [g_netmodel_Check_l2, lt_nat hi]
      simp only [if_true, idx_nat hx', Option.bind_some, dev_prog hm hn ⟨s.2⟩ x.Name [x.A, x.B] h1 h2 (by show s.2.length ≤ 150; omega) (by simp), kw1 hi (by omega)]
      by_cases h : ((devS n s.2 x.Name [x.A, x.B]).1 != 0) = true <;> by_cases h2 : sEq x.A x.B = true <;> simp [gNL, h, h2])
    (fun x s s' hc => by
      have := devS_len n s.2 x.Name [x.A, x.B]
      split at hc
      · cases hc
      · split at hc
        · cases hc
        · cases hc; exact this)
    (fun k s i hi => by
      show g_netmodel_Check_l2 K n (k + 1) s.1 s.2 i = _
      rw [g_netmodel_Check_l2, nlt_nat hi]; simp)
  rw [runS_pair (fun x => chkI n (iSw x)) gNL _ (fun x s => by simp only [chkI, iSw, gNL, apS, Bool.true_and]; by_cases h : ((devS n s x.Name [x.A, x.B]).1 != 0) = true <;> by_cases h2 : sEq x.A x.B = true <;> simp [h, h2])] at h
  exact h
theorem chk_l4 (F : Fits K n) (hn : n.Nodes.length ≤ 24) (hx : n.Branches.length ≤ 32) (m : List ByteArray) (hmm : m.length ≤ 110) : g_netmodel_Check_l4 K n K ⟨m⟩ m 0 = some (Sum.elim .inl (fun m => .inr (gNL m)) (runS (fun x => chkI n (iBr x)) n.Branches m)) := by
  have hm := F.many
  have h : g_netmodel_Check_l4 K n K (gNL m).1 (gNL m).2 0 = _ := dev_loop F hn n.Branches iBr (fun k (s : NL) i => g_netmodel_Check_l4 K n k s.1 s.2 i) hx m hmm
    (fun x s => if (devS n s.2 x.Name [x.From, x.To]).1 != 0 then .inl (devS n s.2 x.Name [x.From, x.To]).1 else if sEq x.From x.To then .inl 3 else if brS x then .inr (gNL (devS n s.2 x.Name [x.From, x.To]).2) else .inl 4)
    (fun k s i x hx' hI => by
      obtain ⟨h1, h2⟩ := F.br x (mem_of hx')
      have hi := lt_of hx'
      show g_netmodel_Check_l4 K n (k + 1) s.1 s.2 i = _
      rw [g_netmodel_Check_l4, lt_nat hi]
      simp only [if_true, idx_nat hx', Option.bind_some, dev_prog hm hn ⟨s.2⟩ x.Name [x.From, x.To] h1 h2 (by show s.2.length ≤ 150; omega) (by simp), kw1 hi (by omega), branch_prog]
      by_cases h : ((devS n s.2 x.Name [x.From, x.To]).1 != 0) = true <;> by_cases h2 : sEq x.From x.To = true <;> by_cases h3 : brS x = true <;> simp [gNL, h, h2, h3])
    (fun x s s' hc => by
      have := devS_len n s.2 x.Name [x.From, x.To]
      split at hc
      · cases hc
      · split at hc
        · cases hc
        · split at hc
          · cases hc; exact this
          · cases hc)
    (fun k s i hi => by
      show g_netmodel_Check_l4 K n (k + 1) s.1 s.2 i = _
      rw [g_netmodel_Check_l4, nlt_nat hi]; simp)
  rw [runS_pair (fun x => chkI n (iBr x)) gNL _ (fun x s => by simp only [chkI, iBr, gNL, apS, Bool.true_and]; by_cases h : ((devS n s x.Name [x.From, x.To]).1 != 0) = true <;> by_cases h2 : sEq x.From x.To = true <;> by_cases h3 : brS x = true <;> simp [h, h2, h3])] at h
  exact h
end Go.Am.Try
