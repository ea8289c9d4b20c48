/- Plain law: the program's and the reference's checks of a network are the same. -/
import Derived.Test.YtlcdhgcfamjioaaS8L3Z8
namespace Go.Am.Try
open Go Go.Am Go.Proofs
set_option linter.unusedSimpArgs false
set_option linter.unusedVariables false

/-! ### What both sides say -/
def addS (met : List ByteArray) (s : ByteArray) : Int × List ByteArray := if !nameS s then (5, met) else if hasS met s then (7, met) else (0, met ++ [s])
def endsS (n : Network) (l : List ByteArray) : Int := if l.all (hasS n.Nodes) then 0 else 6
def devS (n : Network) (met : List ByteArray) (s : ByteArray) (l : List ByteArray) : Int × List ByteArray := if (addS met s).1 != 0 then addS met s else (endsS n l, (addS met s).2)
def inS (a b c : Int) : Bool := decide (a ≥ b) && decide (a ≤ c)
def brS (b : Branch) : Bool := inS b.X 1 10000 && inS b.Tap 500 1500 && inS b.Shift (-1000) 1000 && inS b.Limit 0 100000 && inS b.Short b.Limit 100000 && inS b.Hold 0 200000
def chkN (x : ByteArray) (met : List ByteArray) : Int ⊕ List ByteArray := if (addS met x).1 != 0 then .inl (addS met x).1 else .inr (addS met x).2
def apS (x : Item) : Bool := x.apart && (match x.nodes with | a :: b :: _ => sEq a b | _ => false)
def chkI (n : Network) (x : Item) (met : List ByteArray) : Int ⊕ List ByteArray :=
  if (devS n met x.name x.nodes).1 != 0 then .inl (devS n met x.name x.nodes).1 else
  if apS x then .inl 3 else if x.bad then .inl 4 else .inr (devS n met x.name x.nodes).2
def iSw (s : Switch) : Item := ⟨s.Name, [s.A, s.B], true, false⟩
def iBr (b : Branch) : Item := ⟨b.Name, [b.From, b.To], true, !brS b⟩
def iGe (g : Gen) : Item := ⟨g.Name, [g.Node], false, !(inS g.Least 0 100000 && inS g.Most g.Least 100000 && inS g.Ramp 0 100000)⟩
def iLo (d : Load_) : Item := ⟨d.Name, [d.Node], false, !inS d.Demand 0 100000⟩
def iSt (s : Store) : Item := ⟨s.Name, [s.Node], false, !(inS s.Charge 0 100000 && inS s.Discharge 0 100000 && inS s.Capacity 0 100000)⟩
def itemsS (n : Network) : List Item := n.Switches.map iSw ++ n.Branches.map iBr ++ n.Gens.map iGe ++ n.Loads.map iLo ++ n.Stores.map iSt
def bigS (n : Network) : Bool := decide (n.Nodes.length > 24) || decide (n.Switches.length > 32) || decide (n.Branches.length > 24) || decide (n.Gens.length > 10) || decide (n.Loads.length > 12) || decide (n.Stores.length > 4)
def netS (n : Network) : Int := if bigS n then 2 else Sum.elim id (fun met => Sum.elim id (fun _ => 0) (runS (chkI n) (itemsS n) met)) (runS chkN n.Nodes [])

theorem addS_len (met : List ByteArray) (s : ByteArray) : (addS met s).2.length ≤ met.length + 1 := by
  unfold addS
  split
  · simp
  · split <;> simp
theorem devS_len (n : Network) (met : List ByteArray) (s : ByteArray) (l : List ByteArray) : (devS n met s l).2.length ≤ met.length + 1 := by
  unfold devS
  split <;> exact addS_len met s
/-! ### Texts of the arguments are short, lists are short. -/
structure Fit (K : Nat) (n : Network) : Prop where
  nodes : ∀ s ∈ n.Nodes, s.size < K
  sw : ∀ x ∈ n.Switches, x.Name.size < K
  br : ∀ x ∈ n.Branches, x.Name.size < K
  ge : ∀ x ∈ n.Gens, x.Name.size < K
  lo : ∀ x ∈ n.Loads, x.Name.size < K
  st : ∀ x ∈ n.Stores, x.Name.size < K
  many : 200 < K
variable {K : Nat} {n : Network}

theorem add_prog (hK : 200 < K) (p : Netmodel_names) (s : ByteArray) (hs : s.size < K) (hs' : s.size ≤ 1048576) (hp : p.l.length ≤ 150) : g_netmodel_names_add K p s = some ((addS p.l s).1, ⟨(addS p.l s).2⟩) := by
  unfold g_netmodel_names_add addS
  rw [name_prog K s hs' hs]
  simp only [Option.bind_some]
  cases nameS s with
  | false => simp
  | true =>
    rw [contains_prog K p.l s (by omega) (by omega)]
    cases hasS p.l s with
    | true => simp
    | false =>
      have : p.l.length + 1 ≤ 16777216 := by omega
      simp [this]
theorem add_ref (hK : 200 < K) (p : List ByteArray) (s : ByteArray) (hs : s.size < K) (hs' : s.size ≤ 1048576) (hp : p.length ≤ 150) : g_R_NetError_1 K s p = some (addS p s) := by
  unfold g_R_NetError_1 addS
  rw [isname_ref K s hs' hs]
  simp only [Option.bind_some]
  cases nameS s with
  | false => simp
  | true =>
    rw [has_ref K p s (by omega) (by omega)]
    cases hasS p s with
    | true => simp
    | false =>
      have : p.length + 1 ≤ 16777216 := by omega
      simp [this]
theorem runS_all {E : Type} (p : ByteArray → Bool) (e : E) : ∀ (l : List ByteArray), runS (fun x (_ : Unit) => if p x then .inr () else .inl e) l () = if l.all p then .inr () else .inl e
  | [] => rfl
  | x :: l => by
    simp only [runS, List.all_cons]
    by_cases hp : p x = true
    · simp only [hp, if_true, Bool.true_and]; exact runS_all p e l
    · simp [hp]
theorem ends_prog (l : List ByteArray) (hn : n.Nodes.length ≤ 1048576) (hn' : n.Nodes.length < K) (hl : l.length < K) (hl' : l.length ≤ 1048576) : g_netmodel_ends K n l = some (endsS n l) := by
  have h : g_netmodel_ends_l0 K n l K 0 = _ := loop_sum0 l (fun k (_ : Unit) i => g_netmodel_ends_l0 K n l k i) (fun x (_ : Unit) => if hasS n.Nodes x then .inr () else .inl (6 : Int)) (fun _ _ => True)
    (fun k s i x hx _ => by
      have hi := (List.getElem?_eq_some_iff.1 hx).1
      show g_netmodel_ends_l0 K n l (k + 1) i = _
      rw [g_netmodel_ends_l0, lt_nat hi]
      simp only [if_true, idx_nat hx, Option.bind_some, contains_prog K n.Nodes x hn hn', kw1 hi (by omega)]
      cases hasS n.Nodes x <;> simp)
    (fun _ _ _ _ _ _ _ => trivial)
    (fun k s i hi => by
      show g_netmodel_ends_l0 K n l (k + 1) i = _
      rw [g_netmodel_ends_l0, nlt_nat hi]; simp) K () hl trivial
  unfold g_netmodel_ends endsS
  rw [h, runS_all]
  cases l.all (hasS n.Nodes) <;> simp [bindS, tu0, tu1]
theorem ends_ref (x : Item) (hn : n.Nodes.length ≤ 1048576) (hn' : n.Nodes.length < K) (hl : x.nodes.length < K) (hl' : x.nodes.length ≤ 1048576) : g_R_NetError_l4 K n x K 0 = some (if x.nodes.all (hasS n.Nodes) then .inr () else .inl 6) := by
  have h : g_R_NetError_l4 K n x K 0 = _ := loop_sum0 x.nodes (fun k (_ : Unit) i => g_R_NetError_l4 K n x k i) (fun x (_ : Unit) => if hasS n.Nodes x then .inr () else .inl (6 : Int)) (fun _ _ => True)
    (fun k s i y hx _ => by
      have hi := (List.getElem?_eq_some_iff.1 hx).1
      show g_R_NetError_l4 K n x (k + 1) i = _
      rw [g_R_NetError_l4, lt_nat hi]
      simp only [if_true, idx_nat hx, Option.bind_some, has_ref K n.Nodes y hn hn', kw1 hi (by omega)]
      cases hasS n.Nodes y <;> simp)
    (fun _ _ _ _ _ _ _ => trivial)
    (fun k s i hi => by
      show g_R_NetError_l4 K n x (k + 1) i = _
      rw [g_R_NetError_l4, nlt_nat hi]; simp) K () hl trivial
  rw [h, runS_all]
theorem dev_prog (hK : 200 < K) (hn : n.Nodes.length ≤ 24) (p : Netmodel_names) (s : ByteArray) (l : List ByteArray) (hs : s.size < K) (hs' : s.size ≤ 1048576) (hp : p.l.length ≤ 150) (hl : l.length ≤ 2) :
    g_netmodel_device K n p s l = some ((devS n p.l s l).1, ⟨(devS n p.l s l).2⟩) := by
  unfold g_netmodel_device devS
  rw [add_prog hK _ s hs hs' hp]
  simp only [Option.bind_some]
  cases h : (addS p.l s).1 != 0 with
  | true => simp [h]
  | false =>
    rw [ends_prog l (by omega) (by omega) (by omega) (by omega)]
    simp [h]
theorem within_prog (K : Nat) (a b c : Int) : g_netmodel_within K a b c = some (inS a b c) := by
  unfold g_netmodel_within inS
  cases decide (a ≥ b) <;> simp [tu1]
theorem in_ref (K : Nat) (a b c : Int) : g_R_in K a b c = some (inS a b c) := by
  have h1 : decide (a ≥ b) = !decide (a < b) := by by_cases h : a < b <;> simp [h] <;> omega
  have h2 : decide (a ≤ c) = !decide (a > c) := by by_cases h : a > c <;> simp [h] <;> omega
  unfold g_R_in inS
  rw [h1, h2]
  cases decide (a < b) <;> simp [tu1]
theorem branch_prog (K : Nat) (b : Branch) : g_netmodel_Branch K b = some (if brS b then 0 else 4) := by
  unfold g_netmodel_Branch brS
  simp only [within_prog, Option.bind_some]
  cases inS b.X 1 10000 <;> cases inS b.Tap 500 1500 <;> cases inS b.Shift (-1000) 1000 <;> cases inS b.Limit 0 100000 <;> cases inS b.Short b.Limit 100000 <;> cases inS b.Hold 0 200000 <;> rfl
theorem branch_ref (K : Nat) (b : Branch) : g_R_BranchError K b = some (if brS b then 0 else 4) := by
  unfold g_R_BranchError brS
  simp only [in_ref, Option.bind_some]
  cases inS b.X 1 10000 <;> cases inS b.Tap 500 1500 <;> cases inS b.Shift (-1000) 1000 <;> cases inS b.Limit 0 100000 <;> cases inS b.Short b.Limit 100000 <;> cases inS b.Hold 0 200000 <;> rfl
end Go.Am.Try
