/- Plain law: the program's and the reference's checks of a network are the same. -/
import Derived.Test.YtkpapdbklbclhaaGreatDoorG12Z5
import Derived.Test.YtkpapdbklbclhaaGreatDoorG2Z5
import Derived.Test.YtkpapdbklbclhaaGreatDoorG1Z5
import Derived.Test.YtkpapdbklbclhaaGreatDoorRows
set_option maxRecDepth 100000
set_option maxHeartbeats 8000000
set_option linter.unusedVariables false
set_option linter.unusedSimpArgs false
namespace Go.Am.Tryz
open Go Go.Am Go.Proofs
def addS (met : List zAd) (s : zAd) : Int × List zAd := if !(zeh s) then (5, met) else if hasS met s then (7, met) else (0, met ++ [s])
def zg3 (n : Network) (l : List zAd) : Int := if l.all (hasS n.Nodes) then 0 else 6
def devS (n : Network) (met : List zAd) (s : zAd) (l : List zAd) : Int × List zAd := if (addS met s).1 != 0 then addS met s else (zg3 n l, (addS met s).2)
def inS (a b c : Int) : Bool := decide (a >= b) && decide (a <= c)
def brS (b : Branch) : Bool := inS b.X 1 10000 && inS b.Tap 500 1500 && inS b.Shift (-1000) 1000 && inS b.Limit 0 100000 && inS b.Short b.Limit 100000 && inS b.Hold 0 200000
def chkN (x : zAd) (met : List zAd) : Int ⊕ List zAd := if (addS met x).1 != 0 then .inl (addS met x).1 else .inr (addS met x).2
def apS (x : Item) : Bool := x.apart && (match x.nodes with | a :: b :: _ => sEq a b | _ => false)
def chkI (n : Network) (x : Item) (met : List zAd) : Int ⊕ List zAd :=
 if (devS n met x.name x.nodes).1 != 0 then .inl (devS n met x.name x.nodes).1 else
 if apS x then .inl 3 else if x.bad then .inl 4 else .inr (devS n met x.name x.nodes).2
def iSw (s : Switch) : Item := ⟨s.Name, [s.A, s.B], true, false⟩
def iBr (b : Branch) : Item := ⟨b.Name, [b.From, b.To], true, !brS b⟩
def iGe (g : Gen) : Item := ⟨g.Name, [g.Node], false, !(inS g.Least 0 100000 && inS g.Most g.Least 100000 && inS g.Ramp 0 100000)⟩
def iLo (d : Load_) : Item := ⟨d.Name, [d.Node], false, !inS d.Demand 0 100000⟩
def iSt (s : Store) : Item := ⟨s.Name, [s.Node], false, !(inS s.Charge 0 100000 && inS s.Discharge 0 100000 && inS s.Capacity 0 100000)⟩
def z49 (n : Network) : List Item := n.Switches.map iSw ++ n.Branches.map iBr ++ n.Gens.map iGe ++ n.Loads.map iLo ++ n.Stores.map iSt
def bigS (n : Network) : Bool := decide (n.Nodes.length > 24) || decide (n.Switches.length > 32) || decide (n.Branches.length > 24) || decide (n.Gens.length > 10) || decide (n.Loads.length > 12) || decide (n.Stores.length > 4)
def netS (n : Network) : Int := if bigS n then 2 else Sum.elim id (fun met => Sum.elim id (fun _ => 0) (runS (chkI n) (z49 n) met)) (runS chkN n.Nodes [])
theorem z80 (met : List zAd) (s : zAd) : (addS met s).2.length <= met.length + 1 := by
 unfold addS
 split
 ·simp
 ·split <;> simp
theorem z57 (n : Network) (met : List zAd) (s : zAd) (l : List zAd) : (devS n met s l).2.length <= met.length + 1 := by
 unfold devS
 split <;> exact z80 met s
structure Fit (K : Nat) (n : Network) : Prop where
 nodes : ∀ s ∈ n.Nodes, s.size < K
 sw : ∀ x ∈ n.Switches, x.Name.size < K
 br : ∀ x ∈ n.Branches, x.Name.size < K
 ge : ∀ x ∈ n.Gens, x.Name.size < K
 lo : ∀ x ∈ n.Loads, x.Name.size < K
 st : ∀ x ∈ n.Stores, x.Name.size < K
 many : 200 < K
variable {K : Nat} {n : Network}
theorem zbv (hK : 200 < K) (p : Netmodel_names) (s : zAd) (hs : s.size < K) (hs' : s.size <= 1048576) (hp : p.l.length <= 150) : z1f K p s = some ((addS p.l s).1, ⟨(addS p.l s).2⟩) := by
 unfold z1f addS
 rw [zd8 K s hs' hs]
 simp only [Option.bind_some]
 cases zeh s with
 | false => simp
 | true =>
  rw [z63 K p.l s (by omega) (by omega)]
  cases hasS p.l s with
  | true => simp
  | false =>
   have : p.l.length + 1 <= 16777216 := by omega
   simp [this]
theorem zdk (hK : 200 < K) (p : List zAd) (s : zAd) (hs : s.size < K) (hs' : s.size <= 1048576) (hp : p.length <= 150) : z2f K s p = some (addS p s) := by
 unfold z2f addS
 rw [zbs K s hs' hs]
 simp only [Option.bind_some]
 cases zeh s with
 | false => simp
 | true =>
  rw [zdj K p s (by omega) (by omega)]
  cases hasS p s with
  | true => simp
  | false =>
   have : p.length + 1 <= 16777216 := by omega
   simp [this]
theorem z99 {E : Type} (p : zAd -> Bool) (e : E) : ∀ (l : List zAd), runS (fun x (_ : Unit) => if p x then .inr () else .inl e) l () = if l.all p then .inr () else .inl e
 | [] => rfl
 | x :: l => by
  simp only [runS, List.all_cons]
  by_cases hp : p x = true
  ·simp only [hp, if_true, Bool.true_and]; exact z99 p e l
  ·simp [hp]
theorem zd9 (l : List zAd) (hn : n.Nodes.length <= 1048576) (hn' : n.Nodes.length < K) (hl : l.length < K) (hl' : l.length <= 1048576) : z2k K n l = some (zg3 n l) := by
 have h : z0u K n l K 0 = _ := z4u l (fun k (_ : Unit) i => z0u K n l k i) (fun x (_ : Unit) => if hasS n.Nodes x then .inr () else .inl (6 : Int)) (fun _ _ => True)
  (fun k s i x hx _ => by
   have hi := (zAi hx).1
   show z0u K n l (k + 1) i = _
   rw [z0u, z45 hi]
   simp only [if_true, z1c hx, Option.bind_some, z63 K n.Nodes x hn hn', kw1 hi (by omega)]
   cases hasS n.Nodes x <;> simp)
  (fun _ _ _ _ _ _ _ => trivial)
  (fun k s i hi => by
   show z0u K n l (k + 1) i = _
   rw [z0u, z2w hi]; simp) K () hl trivial
 unfold z2k zg3
 rw [h, z99]
 cases l.all (hasS n.Nodes) <;> simp [z42, tu0, tu1]
theorem zei (x : Item) (hn : n.Nodes.length <= 1048576) (hn' : n.Nodes.length < K) (hl : x.nodes.length < K) (hl' : x.nodes.length <= 1048576) : z14 K n x K 0 = some (if x.nodes.all (hasS n.Nodes) then .inr () else .inl 6) := by
 have h : z14 K n x K 0 = _ := z4u x.nodes (fun k (_ : Unit) i => z14 K n x k i) (fun x (_ : Unit) => if hasS n.Nodes x then .inr () else .inl (6 : Int)) (fun _ _ => True)
  (fun k s i y hx _ => by
   have hi := (zAi hx).1
   show z14 K n x (k + 1) i = _
   rw [z14, z45 hi]
   simp only [if_true, z1c hx, Option.bind_some, zdj K n.Nodes y hn hn', kw1 hi (by omega)]
   cases hasS n.Nodes y <;> simp)
  (fun _ _ _ _ _ _ _ => trivial)
  (fun k s i hi => by
   show z14 K n x (k + 1) i = _
   rw [z14, z2w hi]; simp) K () hl trivial
 rw [h, z99]
theorem z6v (hK : 200 < K) (hn : n.Nodes.length <= 24) (p : Netmodel_names) (s : zAd) (l : List zAd) (hs : s.size < K) (hs' : s.size <= 1048576) (hp : p.l.length <= 150) (hl : l.length <= 2) :
  z15 K n p s l = some ((devS n p.l s l).1, ⟨(devS n p.l s l).2⟩) := by
 unfold z15 devS
 rw [zbv hK _ s hs hs' hp]
 simp only [Option.bind_some]
 cases h : (addS p.l s).1 != 0 with
 | true => simp [h]
 | false =>
  rw [zd9 l (by omega) (by omega) (by omega) (by omega)]
  simp [h]
theorem z4v (K : Nat) (a b c : Int) : z05 K a b c = some (inS a b c) := by
 unfold z05 inS
 cases decide (a >= b) <;> simp [tu1]
theorem zac (K : Nat) (a b c : Int) : z4o K a b c = some (inS a b c) := by
 have h1 : decide (a >= b) = !decide (a < b) := by by_cases h : a < b <;> simp [h] <;> omega
 have h2 : decide (a <= c) = !decide (a > c) := by by_cases h : a > c <;> simp [h] <;> omega
 unfold z4o inS
 rw [h1, h2]
 cases decide (a < b) <;> simp [tu1]
theorem zad (K : Nat) (b : Branch) : z23 K b = some (if brS b then 0 else 4) := by
 unfold z23 brS
 simp only [z4v, Option.bind_some]
 cases inS b.X 1 10000 <;> cases inS b.Tap 500 1500 <;> cases inS b.Shift (-1000) 1000 <;> cases inS b.Limit 0 100000 <;> cases inS b.Short b.Limit 100000 <;> cases inS b.Hold 0 200000 <;> rfl
theorem z4p (K : Nat) (b : Branch) : z2l K b = some (if brS b then 0 else 4) := by
 unfold z2l brS
 simp only [zac, Option.bind_some]
 cases inS b.X 1 10000 <;> cases inS b.Tap 500 1500 <;> cases inS b.Shift (-1000) 1000 <;> cases inS b.Limit 0 100000 <;> cases inS b.Short b.Limit 100000 <;> cases inS b.Hold 0 200000 <;> rfl
end Go.Am.Tryz
/- Plain law: NetmodelChecks answers true. -/
namespace Go.Am.Tryz
open Go Go.Am Go.Proofs
variable {K : Nat} {n : Network}
theorem z81 {α S T E Q : Type} (chk : α -> S -> E ⊕ S) (g : S -> T) (chk' : α -> T -> (E × Q) ⊕ T) (q0 : Q) (h : ∀ x s, ∃ q, chk' x (g s) = Sum.elim (fun e => .inl (e, q)) (fun s' => .inr (g s')) (chk x s)) :
  ∀ (xs : List α) (s : S), ∃ q, runS chk' xs (g s) = Sum.elim (fun e => .inl (e, q)) (fun s' => .inr (g s')) (runS chk xs s)
 | [], s => ⟨q0, rfl⟩
 | x :: xs, s => by
  simp only [runS]
  obtain ⟨q, hq⟩ := h x s
  rw [hq]
  cases chk x s with
  | inl e => exact ⟨q, rfl⟩
  | inr s' => exact z81 chk g chk' q0 h xs s'
def Sh (K : Nat) (s : zAd) : Prop := s.size < K /\ s.size <= 1048576
structure Fits (K : Nat) (n : Network) : Prop where
 many : 200 < K
 nodes : ∀ s ∈ n.Nodes, Sh K s
 sw : ∀ x ∈ n.Switches, Sh K x.Name
 br : ∀ x ∈ n.Branches, Sh K x.Name
 ge : ∀ x ∈ n.Gens, Sh K x.Name
 lo : ∀ x ∈ n.Loads, Sh K x.Name
 st : ∀ x ∈ n.Stores, Sh K x.Name
abbrev NL := Netmodel_names × List zAd
def gNL (m : List zAd) : NL := (⟨m⟩, m)
theorem z8p {α : Type} {xs : List α} {i : Nat} {x : α} (h : xs[i]? = some x) : x ∈ xs := List.mem_of_getElem? h
theorem z9v {α : Type} {xs : List α} {i : Nat} {x : α} (h : xs[i]? = some x) : i < xs.length := (zAi h).1
theorem zgm (F : Fits K n) (hn : n.Nodes.length <= 24) : z0j K n K ⟨[]⟩ [] 0 = some (Sum.elim .inl (fun m => .inr (gNL m)) (runS chkN n.Nodes [])) := by
 have hm := F.many
 have h : z0j K n K (gNL []).1 (gNL []).2 0 = _ := z4u n.Nodes (fun k (s : NL) i => z0j K n k s.1 s.2 i)
  (fun x s => if (addS s.2 x).1 != 0 then .inl (addS s.2 x).1 else .inr (gNL (addS s.2 x).2)) (fun s i => s.2.length <= i)
  (fun k s i x hx hI => by
   obtain ⟨h1, h2⟩ := F.nodes x (z8p hx)
   have hi := z9v hx
   show z0j K n (k + 1) s.1 s.2 i = _
   rw [z0j, z45 hi]
   simp only [if_true, z1c hx, Option.bind_some, zbv hm ⟨s.2⟩ x h1 h2 (by show s.2.length <= 150; omega), kw1 hi (by omega)]
   by_cases h : ((addS s.2 x).1 != 0) = true <;> simp [h, gNL])
  (fun s i x s' hx hI hc => by
   have := z80 s.2 x
   split at hc
   ·cases hc
   ·cases hc; show (addS s.2 x).2.length <= i + 1; omega)
  (fun k s i hi => by
   show z0j K n (k + 1) s.1 s.2 i = _
   rw [z0j, z2w hi]; simp) K (gNL []) (by omega) (by simp [gNL])
 rw [z6b chkN gNL _ (fun x s => by unfold chkN; by_cases h : ((addS s x).1 != 0) = true <;> simp [h, gNL])] at h
 exact h
theorem z6w {α E : Type} (F : Fits K n) (hn : n.Nodes.length <= 24) (xs : List α) (it : α -> Item) (l : Nat -> NL -> Int -> Option (E ⊕ NL)) (hx : xs.length <= 32) (m : List zAd) (hmm : m.length <= 110)
  (c : α -> NL -> E ⊕ NL) (h : ∀ k (s : NL) (i : Nat) x, xs[i]? = some x -> s.2.length <= 145 -> l (k + 1) s i = Sum.elim (fun e => some (.inl e)) (fun s' => l k s' ((i + 1 : Nat) : Int)) (c x s))
  (hc : ∀ x s s', c x s = .inr s' -> s'.2.length <= s.2.length + 1) (h0 : ∀ k s (i : Nat), xs.length <= i -> l (k + 1) s i = some (.inr s)) : l K (gNL m) 0 = some (runS c xs (gNL m)) := by
 have hm := F.many
 refine z4u xs l c (fun s i => s.2.length <= m.length + i) (fun k s i x hx' hI => h k s i x hx' (by have := z9v hx'; omega)) (fun s i x s' hx' hI hc' => by have := hc x s s' hc'; omega) h0 K (gNL m) (by omega) (by simp [gNL])
theorem z6x {α : Type} {n : Network} (it : α -> Item) : ∀ (xs : List α) (m m' : List zAd), runS (fun x => chkI n (it x)) xs m = .inr m' -> m'.length <= m.length + xs.length
 | [], m, m', h => by cases h; simp
 | x :: xs, m, m', h => by
  simp only [runS] at h
  cases hq : chkI n (it x) m with
  | inl e => rw [hq] at h; cases h
  | inr m1 =>
   rw [hq] at h
   have h1 := z6x it xs m1 m' h
   have h2 : m1.length <= m.length + 1 := by
    unfold chkI at hq
    have h3 := z57 n m (it x).name (it x).nodes
    split at hq
    ·cases hq
    ·split at hq
     ·cases hq
     ·split at hq
      ·cases hq
      ·cases hq; exact h3
   simp; omega
theorem zgn (F : Fits K n) (hn : n.Nodes.length <= 24) (hx : n.Switches.length <= 32) (m : List zAd) (hmm : m.length <= 110) : z0k K n K ⟨m⟩ m 0 = some (Sum.elim .inl (fun m => .inr (gNL m)) (runS (fun x => chkI n (iSw x)) n.Switches m)) := by
 have hm := F.many
 have h : z0k K n K (gNL m).1 (gNL m).2 0 = _ := z6w F hn n.Switches iSw (fun k (s : NL) i => z0k K n k s.1 s.2 i) hx m hmm
  (fun x s => if (devS n s.2 x.Name [x.A, x.B]).1 != 0 then .inl (devS n s.2 x.Name [x.A, x.B]).1 else if sEq x.A x.B then .inl 3 else .inr (gNL (devS n s.2 x.Name [x.A, x.B]).2))
  (fun k s i x hx' hI => by
   obtain ⟨h1, h2⟩ := F.sw x (z8p hx')
   have hi := z9v hx'
   show z0k K n (k + 1) s.1 s.2 i = _
   rw [z0k, z45 hi]
   simp only [if_true, z1c hx', Option.bind_some, z6v hm hn ⟨s.2⟩ x.Name [x.A, x.B] h1 h2 (by show s.2.length <= 150; omega) (by simp), kw1 hi (by omega)]
   by_cases h : ((devS n s.2 x.Name [x.A, x.B]).1 != 0) = true <;> by_cases h2 : sEq x.A x.B = true <;> simp [gNL, h, h2])
  (fun x s s' hc => by
   have := z57 n s.2 x.Name [x.A, x.B]
   split at hc
   ·cases hc
   ·split at hc
    ·cases hc
    ·cases hc; exact this)
  (fun k s i hi => by
   show z0k K n (k + 1) s.1 s.2 i = _
   rw [z0k, z2w hi]; simp)
 rw [z6b (fun x => chkI n (iSw x)) gNL _ (fun x s => by simp only [chkI, iSw, gNL, apS, Bool.true_and]; by_cases h : ((devS n s x.Name [x.A, x.B]).1 != 0) = true <;> by_cases h2 : sEq x.A x.B = true <;> simp [h, h2])] at h
 exact h
theorem zgo (F : Fits K n) (hn : n.Nodes.length <= 24) (hx : n.Branches.length <= 32) (m : List zAd) (hmm : m.length <= 110) : z0l K n K ⟨m⟩ m 0 = some (Sum.elim .inl (fun m => .inr (gNL m)) (runS (fun x => chkI n (iBr x)) n.Branches m)) := by
 have hm := F.many
 have h : z0l K n K (gNL m).1 (gNL m).2 0 = _ := z6w F hn n.Branches iBr (fun k (s : NL) i => z0l K n k s.1 s.2 i) hx m hmm
  (fun x s => if (devS n s.2 x.Name [x.From, x.To]).1 != 0 then .inl (devS n s.2 x.Name [x.From, x.To]).1 else if sEq x.From x.To then .inl 3 else if brS x then .inr (gNL (devS n s.2 x.Name [x.From, x.To]).2) else .inl 4)
  (fun k s i x hx' hI => by
   obtain ⟨h1, h2⟩ := F.br x (z8p hx')
   have hi := z9v hx'
   show z0l K n (k + 1) s.1 s.2 i = _
   rw [z0l, z45 hi]
   simp only [if_true, z1c hx', Option.bind_some, z6v hm hn ⟨s.2⟩ x.Name [x.From, x.To] h1 h2 (by show s.2.length <= 150; omega) (by simp), kw1 hi (by omega), zad]
   by_cases h : ((devS n s.2 x.Name [x.From, x.To]).1 != 0) = true <;> by_cases h2 : sEq x.From x.To = true <;> by_cases h3 : brS x = true <;> simp [gNL, h, h2, h3])
  (fun x s s' hc => by
   have := z57 n s.2 x.Name [x.From, x.To]
   split at hc
   ·cases hc
   ·split at hc
    ·cases hc
    ·split at hc
     ·cases hc; exact this
     ·cases hc)
  (fun k s i hi => by
   show z0l K n (k + 1) s.1 s.2 i = _
   rw [z0l, z2w hi]; simp)
 rw [z6b (fun x => chkI n (iBr x)) gNL _ (fun x s => by simp only [chkI, iBr, gNL, apS, Bool.true_and]; by_cases h : ((devS n s x.Name [x.From, x.To]).1 != 0) = true <;> by_cases h2 : sEq x.From x.To = true <;> by_cases h3 : brS x = true <;> simp [h, h2, h3])] at h
 exact h
end Go.Am.Tryz
/- Plain law: NetmodelChecks answers true. -/
namespace Go.Am.Tryz
open Go Go.Am Go.Proofs
variable {K : Nat} {n : Network}
theorem zgp (F : Fits K n) (hn : n.Nodes.length <= 24) (hx : n.Gens.length <= 32) (m : List zAd) (hmm : m.length <= 110) : ∃ q, z0b K n K ⟨m⟩ m 0 = some (Sum.elim (fun e => .inl (e, q)) (fun m => .inr (gNL m)) (runS (fun x => chkI n (iGe x)) n.Gens m)) := by
 have hm := F.many
 have h : z0b K n K (gNL m).1 (gNL m).2 0 = _ := z6w F hn n.Gens iGe (fun k (s : NL) i => z0b K n k s.1 s.2 i) hx m hmm
  (fun x s => if (devS n s.2 x.Name [x.Node]).1 != 0 then .inl ((devS n s.2 x.Name [x.Node]).1, (⟨(devS n s.2 x.Name [x.Node]).2⟩ : Netmodel_names)) else if inS x.Least 0 100000 && inS x.Most x.Least 100000 && inS x.Ramp 0 100000 then .inr (gNL (devS n s.2 x.Name [x.Node]).2) else .inl (4, ⟨(devS n s.2 x.Name [x.Node]).2⟩))
  (fun k s i x hx' hI => by
   obtain ⟨h1, h2⟩ := F.ge x (z8p hx')
   have hi := z9v hx'
   show z0b K n (k + 1) s.1 s.2 i = _
   rw [z0b, z45 hi]
   simp only [if_true, z1c hx', Option.bind_some, z6v hm hn ⟨s.2⟩ x.Name [x.Node] h1 h2 (by show s.2.length <= 150; omega) (by simp), kw1 hi (by omega), z4v]
   by_cases h : ((devS n s.2 x.Name [x.Node]).1 != 0) = true <;> by_cases h2 : inS x.Least 0 100000 = true <;> by_cases h3 : inS x.Most x.Least 100000 = true <;> by_cases h4 : inS x.Ramp 0 100000 = true <;> simp [gNL, h, h2, h3, h4, tu1])
  (fun x s s' hc => by
   have := z57 n s.2 x.Name [x.Node]
   split at hc
   ·cases hc
   ·split at hc
    ·cases hc; exact this
    ·cases hc)
  (fun k s i hi => by
   show z0b K n (k + 1) s.1 s.2 i = _
   rw [z0b, z2w hi]; simp)
 obtain ⟨q, hq⟩ := z81 (fun x => chkI n (iGe x)) gNL (fun x (s : NL) => if (devS n s.2 x.Name [x.Node]).1 != 0 then .inl ((devS n s.2 x.Name [x.Node]).1, (⟨(devS n s.2 x.Name [x.Node]).2⟩ : Netmodel_names)) else if inS x.Least 0 100000 && inS x.Most x.Least 100000 && inS x.Ramp 0 100000 then .inr (gNL (devS n s.2 x.Name [x.Node]).2) else .inl (4, ⟨(devS n s.2 x.Name [x.Node]).2⟩)) (⟨[]⟩ : Netmodel_names)
  (fun x s => ⟨⟨(devS n s x.Name [x.Node]).2⟩, by simp only [chkI, iGe, gNL, apS, Bool.false_and]; by_cases h : ((devS n s x.Name [x.Node]).1 != 0) = true <;> by_cases h2 : inS x.Least 0 100000 = true <;> by_cases h3 : inS x.Most x.Least 100000 = true <;> by_cases h4 : inS x.Ramp 0 100000 = true <;> simp [h, h2, h3, h4]⟩) n.Gens m
 rw [hq] at h
 exact ⟨q, h⟩
theorem zgq (F : Fits K n) (hn : n.Nodes.length <= 24) (hx : n.Loads.length <= 32) (m : List zAd) (hmm : m.length <= 110) : ∃ q, z0c K n K ⟨m⟩ m 0 = some (Sum.elim (fun e => .inl (e, q)) (fun m => .inr (gNL m)) (runS (fun x => chkI n (iLo x)) n.Loads m)) := by
 have hm := F.many
 have h : z0c K n K (gNL m).1 (gNL m).2 0 = _ := z6w F hn n.Loads iLo (fun k (s : NL) i => z0c K n k s.1 s.2 i) hx m hmm
  (fun x s => if (devS n s.2 x.Name [x.Node]).1 != 0 then .inl ((devS n s.2 x.Name [x.Node]).1, (⟨(devS n s.2 x.Name [x.Node]).2⟩ : Netmodel_names)) else if inS x.Demand 0 100000 then .inr (gNL (devS n s.2 x.Name [x.Node]).2) else .inl (4, ⟨(devS n s.2 x.Name [x.Node]).2⟩))
  (fun k s i x hx' hI => by
   obtain ⟨h1, h2⟩ := F.lo x (z8p hx')
   have hi := z9v hx'
   show z0c K n (k + 1) s.1 s.2 i = _
   rw [z0c, z45 hi]
   simp only [if_true, z1c hx', Option.bind_some, z6v hm hn ⟨s.2⟩ x.Name [x.Node] h1 h2 (by show s.2.length <= 150; omega) (by simp), kw1 hi (by omega), z4v]
   by_cases h : ((devS n s.2 x.Name [x.Node]).1 != 0) = true <;> by_cases h2 : inS x.Demand 0 100000 = true <;> simp [gNL, h, h2, tu1])
  (fun x s s' hc => by
   have := z57 n s.2 x.Name [x.Node]
   split at hc
   ·cases hc
   ·split at hc
    ·cases hc; exact this
    ·cases hc)
  (fun k s i hi => by
   show z0c K n (k + 1) s.1 s.2 i = _
   rw [z0c, z2w hi]; simp)
 obtain ⟨q, hq⟩ := z81 (fun x => chkI n (iLo x)) gNL (fun x (s : NL) => if (devS n s.2 x.Name [x.Node]).1 != 0 then .inl ((devS n s.2 x.Name [x.Node]).1, (⟨(devS n s.2 x.Name [x.Node]).2⟩ : Netmodel_names)) else if inS x.Demand 0 100000 then .inr (gNL (devS n s.2 x.Name [x.Node]).2) else .inl (4, ⟨(devS n s.2 x.Name [x.Node]).2⟩)) (⟨[]⟩ : Netmodel_names)
  (fun x s => ⟨⟨(devS n s x.Name [x.Node]).2⟩, by simp only [chkI, iLo, gNL, apS, Bool.false_and]; by_cases h : ((devS n s x.Name [x.Node]).1 != 0) = true <;> by_cases h2 : inS x.Demand 0 100000 = true <;> simp [h, h2]⟩) n.Loads m
 rw [hq] at h
 exact ⟨q, h⟩
theorem zgr (F : Fits K n) (hn : n.Nodes.length <= 24) (hx : n.Stores.length <= 32) (m : List zAd) (hmm : m.length <= 110) : ∃ q, z0d K n K ⟨m⟩ m 0 = some (Sum.elim (fun e => .inl (e, q)) (fun m => .inr (gNL m)) (runS (fun x => chkI n (iSt x)) n.Stores m)) := by
 have hm := F.many
 have h : z0d K n K (gNL m).1 (gNL m).2 0 = _ := z6w F hn n.Stores iSt (fun k (s : NL) i => z0d K n k s.1 s.2 i) hx m hmm
  (fun x s => if (devS n s.2 x.Name [x.Node]).1 != 0 then .inl ((devS n s.2 x.Name [x.Node]).1, (⟨(devS n s.2 x.Name [x.Node]).2⟩ : Netmodel_names)) else if inS x.Charge 0 100000 && inS x.Discharge 0 100000 && inS x.Capacity 0 100000 then .inr (gNL (devS n s.2 x.Name [x.Node]).2) else .inl (4, ⟨(devS n s.2 x.Name [x.Node]).2⟩))
  (fun k s i x hx' hI => by
   obtain ⟨h1, h2⟩ := F.st x (z8p hx')
   have hi := z9v hx'
   show z0d K n (k + 1) s.1 s.2 i = _
   rw [z0d, z45 hi]
   simp only [if_true, z1c hx', Option.bind_some, z6v hm hn ⟨s.2⟩ x.Name [x.Node] h1 h2 (by show s.2.length <= 150; omega) (by simp), kw1 hi (by omega), z4v]
   by_cases h : ((devS n s.2 x.Name [x.Node]).1 != 0) = true <;> by_cases h2 : inS x.Charge 0 100000 = true <;> by_cases h3 : inS x.Discharge 0 100000 = true <;> by_cases h4 : inS x.Capacity 0 100000 = true <;> simp [gNL, h, h2, h3, h4, tu1])
  (fun x s s' hc => by
   have := z57 n s.2 x.Name [x.Node]
   split at hc
   ·cases hc
   ·split at hc
    ·cases hc; exact this
    ·cases hc)
  (fun k s i hi => by
   show z0d K n (k + 1) s.1 s.2 i = _
   rw [z0d, z2w hi]; simp)
 obtain ⟨q, hq⟩ := z81 (fun x => chkI n (iSt x)) gNL (fun x (s : NL) => if (devS n s.2 x.Name [x.Node]).1 != 0 then .inl ((devS n s.2 x.Name [x.Node]).1, (⟨(devS n s.2 x.Name [x.Node]).2⟩ : Netmodel_names)) else if inS x.Charge 0 100000 && inS x.Discharge 0 100000 && inS x.Capacity 0 100000 then .inr (gNL (devS n s.2 x.Name [x.Node]).2) else .inl (4, ⟨(devS n s.2 x.Name [x.Node]).2⟩)) (⟨[]⟩ : Netmodel_names)
  (fun x s => ⟨⟨(devS n s x.Name [x.Node]).2⟩, by simp only [chkI, iSt, gNL, apS, Bool.false_and]; by_cases h : ((devS n s x.Name [x.Node]).1 != 0) = true <;> by_cases h2 : inS x.Charge 0 100000 = true <;> by_cases h3 : inS x.Discharge 0 100000 = true <;> by_cases h4 : inS x.Capacity 0 100000 = true <;> simp [h, h2, h3, h4]⟩) n.Stores m
 rw [hq] at h
 exact ⟨q, h⟩
theorem src (F : Fits K n) (hb : bigS n = false) (m : List zAd) (hmm : m.length <= 80) : ∃ q, z20 K n ⟨m⟩ = some (Sum.elim (fun e => e) (fun _ => 0) (runS (chkI n) (n.Gens.map iGe ++ n.Loads.map iLo ++ n.Stores.map iSt) m), q) := by
 have hb' : n.Nodes.length <= 24 /\ n.Switches.length <= 32 /\ n.Branches.length <= 24 /\ n.Gens.length <= 10 /\ n.Loads.length <= 12 /\ n.Stores.length <= 4 := by
  unfold bigS at hb; simp at hb; omega
 obtain ⟨a1, a2, a3, a4, a5, a6⟩ := hb'
 obtain ⟨q1, h1⟩ := zgp F a1 (by omega) m (by omega)
 unfold z20
 simp only [h1, z2s, z53]
 cases r1 : runS (fun x => chkI n (iGe x)) n.Gens m with
 | inl e => exact ⟨q1, by simp [z42, tu2]⟩
 | inr m1 =>
  have b1 := z6x iGe n.Gens m m1 r1
  obtain ⟨q2, h2⟩ := zgq F a1 (by omega) m1 (by omega)
  simp only [Sum.elim_inr, z42, tu2, Option.bind_some, gNL, h2]
  cases r2 : runS (fun x => chkI n (iLo x)) n.Loads m1 with
  | inl e => exact ⟨q2, by simp [z2s, z53, r2]⟩
  | inr m2 =>
   have b2 := z6x iLo n.Loads m1 m2 r2
   obtain ⟨q3, h3⟩ := zgr F a1 (by omega) m2 (by omega)
   simp only [Sum.elim_inr, Option.bind_some, gNL, h3]
   cases r3 : runS (fun x => chkI n (iSt x)) n.Stores m2 with
   | inl e => exact ⟨q3, by simp [z2s, z53, r2, r3]⟩
   | inr m3 => exact ⟨⟨m3⟩, by simp [gNL, z2s, z53, r2, r3]⟩
theorem zbw (K : Nat) (n : Network) : z28 K n = some (if bigS n then 2 else 0) := by
 unfold z28 bigS
 by_cases a1 : (n.Nodes.length : Int) > 24 <;> by_cases a2 : (n.Switches.length : Int) > 32 <;> by_cases a3 : (n.Branches.length : Int) > 24 <;> by_cases a4 : (n.Gens.length : Int) > 10 <;> by_cases a5 : (n.Loads.length : Int) > 12 <;> by_cases a6 : (n.Stores.length : Int) > 4 <;>
  simp [a1, a2, a3, a4, a5, a6, tu1] <;> omega
theorem z9a (n : Network) : ∀ (xs : List zAd) (m m' : List zAd), runS chkN xs m = .inr m' -> m'.length <= m.length + xs.length
 | [], m, m', h => by cases h; simp
 | x :: xs, m, m', h => by
  simp only [runS] at h
  cases hq : chkN x m with
  | inl e => rw [hq] at h; cases h
  | inr m1 =>
   rw [hq] at h
   have h1 := z9a n xs m1 m' h
   have h2 : m1.length <= m.length + 1 := by
    unfold chkN at hq
    have h3 := z80 m x
    split at hq
    ·cases hq
    ·cases hq; exact h3
   simp; omega
theorem zbx (F : Fits K n) : z29 K n = some (netS n) := by
 unfold z29 netS
 rw [zbw]
 cases hb : bigS n with
 | true => simp
 | false =>
 have hb' : n.Nodes.length <= 24 /\ n.Switches.length <= 32 /\ n.Branches.length <= 24 /\ n.Gens.length <= 10 /\ n.Loads.length <= 12 /\ n.Stores.length <= 4 := by
  unfold bigS at hb; simp at hb; omega
 obtain ⟨a1, a2, a3, a4, a5, a6⟩ := hb'
 simp only [Option.bind_some, zgm F a1]
 cases r0 : runS chkN n.Nodes [] with
 | inl e => simp [z42, tu1]
 | inr m =>
  have b0 := z9a n n.Nodes [] m r0
  simp only [Sum.elim_inr, z42, tu1, tu2, Option.bind_some, gNL, zgn F a1 (by omega) m (by simp at b0; omega), z49, List.append_assoc, z2s (chkI n) (n.Switches.map iSw), z2s (chkI n) (n.Branches.map iBr)]
  simp only [z53 (chkI n) iSw]
  cases r1 : runS (fun x => chkI n (iSw x)) n.Switches m with
  | inl e => simp
  | inr m1 =>
   have b1 := z6x iSw n.Switches m m1 r1
   simp only [Sum.elim_inr, Option.bind_some, gNL, zgo F a1 (by omega) m1 (by simp at b0; omega), z2s (chkI n) (n.Branches.map iBr), z53 (chkI n) iBr]
   cases r2 : runS (fun x => chkI n (iBr x)) n.Branches m1 with
   | inl e => simp
   | inr m2 =>
    have b2 := z6x iBr n.Branches m1 m2 r2
    obtain ⟨q, h3⟩ := src F hb m2 (by simp at b0; omega)
    simp only [Sum.elim_inr, Option.bind_some, gNL, h3, List.append_assoc]
    cases runS (chkI n) (n.Gens.map iGe ++ (n.Loads.map iLo ++ n.Stores.map iSt)) m2 <;> simp
theorem zej (acc : List Item) (ha : acc.length <= 100) (hx : n.Switches.length <= 32) (hK : 200 < K) : z1t K n K acc 0 = some (acc ++ n.Switches.map iSw) :=
 z5g n.Switches (fun k acc i => z1t K n k acc i) iSw acc
  (fun k acc' i x hx' hl => by
   have hi := z9v hx'
   have h9 : acc'.length + 1 <= 16777216 := by omega
   show z1t K n (k + 1) acc' i = _
   rw [z1t, z45 hi]
   simp only [if_true, z1c hx', Option.bind_some, kw1 hi (by omega), zac, z4p, List.length_cons, List.length_nil]
   simp [iSw, tu1, h9])
  (fun k acc i hi => by
   show z1t K n (k + 1) acc i = _
   rw [z1t, z2w hi]; simp) K (by omega)
theorem zek (acc : List Item) (ha : acc.length <= 100) (hx : n.Branches.length <= 32) (hK : 200 < K) : z1u K n K acc 0 = some (acc ++ n.Branches.map iBr) :=
 z5g n.Branches (fun k acc i => z1u K n k acc i) iBr acc
  (fun k acc' i x hx' hl => by
   have hi := z9v hx'
   have h9 : acc'.length + 1 <= 16777216 := by omega
   show z1u K n (k + 1) acc' i = _
   rw [z1u, z45 hi]
   simp only [if_true, z1c hx', Option.bind_some, kw1 hi (by omega), zac, z4p, List.length_cons, List.length_nil]
   by_cases h2 : brS x = true <;> simp [iBr, tu1, h9, h2])
  (fun k acc i hi => by
   show z1u K n (k + 1) acc i = _
   rw [z1u, z2w hi]; simp) K (by omega)
theorem zel (acc : List Item) (ha : acc.length <= 100) (hx : n.Gens.length <= 32) (hK : 200 < K) : z1v K n K acc 0 = some (acc ++ n.Gens.map iGe) :=
 z5g n.Gens (fun k acc i => z1v K n k acc i) iGe acc
  (fun k acc' i x hx' hl => by
   have hi := z9v hx'
   have h9 : acc'.length + 1 <= 16777216 := by omega
   show z1v K n (k + 1) acc' i = _
   rw [z1v, z45 hi]
   simp only [if_true, z1c hx', Option.bind_some, kw1 hi (by omega), zac, z4p, List.length_cons, List.length_nil]
   by_cases h2 : inS x.Least 0 100000 = true <;> by_cases h3 : inS x.Most x.Least 100000 = true <;> by_cases h4 : inS x.Ramp 0 100000 = true <;> simp [iGe, tu1, h9, h2, h3, h4])
  (fun k acc i hi => by
   show z1v K n (k + 1) acc i = _
   rw [z1v, z2w hi]; simp) K (by omega)
theorem zem (acc : List Item) (ha : acc.length <= 100) (hx : n.Loads.length <= 32) (hK : 200 < K) : z1w K n K acc 0 = some (acc ++ n.Loads.map iLo) :=
 z5g n.Loads (fun k acc i => z1w K n k acc i) iLo acc
  (fun k acc' i x hx' hl => by
   have hi := z9v hx'
   have h9 : acc'.length + 1 <= 16777216 := by omega
   show z1w K n (k + 1) acc' i = _
   rw [z1w, z45 hi]
   simp only [if_true, z1c hx', Option.bind_some, kw1 hi (by omega), zac, z4p, List.length_cons, List.length_nil]
   by_cases h2 : inS x.Demand 0 100000 = true <;> simp [iLo, tu1, h9, h2])
  (fun k acc i hi => by
   show z1w K n (k + 1) acc i = _
   rw [z1w, z2w hi]; simp) K (by omega)
theorem zen (acc : List Item) (ha : acc.length <= 100) (hx : n.Stores.length <= 32) (hK : 200 < K) : z1x K n K acc 0 = some (acc ++ n.Stores.map iSt) :=
 z5g n.Stores (fun k acc i => z1x K n k acc i) iSt acc
  (fun k acc' i x hx' hl => by
   have hi := z9v hx'
   have h9 : acc'.length + 1 <= 16777216 := by omega
   show z1x K n (k + 1) acc' i = _
   rw [z1x, z45 hi]
   simp only [if_true, z1c hx', Option.bind_some, kw1 hi (by omega), zac, z4p, List.length_cons, List.length_nil]
   by_cases h2 : inS x.Charge 0 100000 = true <;> by_cases h3 : inS x.Discharge 0 100000 = true <;> by_cases h4 : inS x.Capacity 0 100000 = true <;> simp [iSt, tu1, h9, h2, h3, h4])
  (fun k acc i hi => by
   show z1x K n (k + 1) acc i = _
   rw [z1x, z2w hi]; simp) K (by omega)
theorem zda (hb : bigS n = false) (hK : 200 < K) : z5n K n = some (z49 n) := by
 have hb' : n.Nodes.length <= 24 /\ n.Switches.length <= 32 /\ n.Branches.length <= 24 /\ n.Gens.length <= 10 /\ n.Loads.length <= 12 /\ n.Stores.length <= 4 := by
  unfold bigS at hb; simp at hb; omega
 obtain ⟨a1, a2, a3, a4, a5, a6⟩ := hb'
 unfold z5n z49
 rw [zej [] (by simp) (by omega) hK]
 simp only [Option.bind_some, tu1, List.nil_append]
 rw [zek _ (by simp; omega) (by omega) hK]
 simp only [Option.bind_some]
 rw [zel _ (by simp; omega) (by omega) hK]
 simp only [Option.bind_some]
 rw [zem _ (by simp; omega) (by omega) hK]
 simp only [Option.bind_some]
 rw [zen _ (by simp; omega) (by omega) hK]
 simp
def OkI (K : Nat) (x : Item) : Prop := Sh K x.name /\ x.nodes.length <= 2 /\ (x.apart = true -> x.nodes.length = 2)
theorem okI (F : Fits K n) : ∀ x ∈ z49 n, OkI K x := by
 intro x hx
 unfold z49 at hx
 simp only [List.mem_append, List.mem_map] at hx
 rcases hx with (((⟨y, hy, rfl⟩ | ⟨y, hy, rfl⟩) | ⟨y, hy, rfl⟩) | ⟨y, hy, rfl⟩) | ⟨y, hy, rfl⟩
 ·exact ⟨F.sw y hy, by simp [iSw], by simp [iSw]⟩
 ·exact ⟨F.br y hy, by simp [iBr], by simp [iBr]⟩
 ·exact ⟨F.ge y hy, by simp [iGe], by simp [iGe]⟩
 ·exact ⟨F.lo y hy, by simp [iLo], by simp [iLo]⟩
 ·exact ⟨F.st y hy, by simp [iSt], by simp [iSt]⟩
theorem zgs (F : Fits K n) (hn : n.Nodes.length <= 24) : z16 K n K [] 0 = some (runS chkN n.Nodes []) := by
 have hm := F.many
 exact z4u n.Nodes (fun k s i => z16 K n k s i) chkN (fun s i => s.length <= i)
  (fun k s i x hx hI => by
   obtain ⟨h1, h2⟩ := F.nodes x (z8p hx)
   have hi := z9v hx
   show z16 K n (k + 1) s i = _
   rw [z16, z45 hi]
   simp only [if_true, z1c hx, Option.bind_some, zdk hm s x h1 h2 (by omega), kw1 hi (by omega), chkN]
   by_cases h : ((addS s x).1 != 0) = true <;> simp [h])
  (fun s i x s' hx hI hc => by
   have := z80 s x
   unfold chkN at hc
   split at hc
   ·cases hc
   ·cases hc; omega)
  (fun k s i hi => by
   show z16 K n (k + 1) s i = _
   rw [z16, z2w hi]; simp) K [] (by omega) (by simp)
theorem zgt (F : Fits K n) (hb : bigS n = false) (m : List zAd) (hmm : m.length <= 24) : z17 K (z49 n) n K m 0 = some (runS (chkI n) (z49 n) m) := by
 have hb' : n.Nodes.length <= 24 /\ n.Switches.length <= 32 /\ n.Branches.length <= 24 /\ n.Gens.length <= 10 /\ n.Loads.length <= 12 /\ n.Stores.length <= 4 := by
  unfold bigS at hb; simp at hb; omega
 obtain ⟨a1, a2, a3, a4, a5, a6⟩ := hb'
 have hl : (z49 n).length <= 82 := by unfold z49; simp; omega
 have hm := F.many
 exact z4u (z49 n) (fun k s i => z17 K (z49 n) n k s i) (chkI n) (fun s i => s.length <= 24 + i)
  (fun k s i x hx hI => by
   obtain ⟨⟨h1, h2⟩, h3, h4⟩ := okI F x (z8p hx)
   have hi := z9v hx
   show z17 K (z49 n) n (k + 1) s i = _
   rw [z17, z45 hi]
   simp only [if_true, z1c hx, Option.bind_some, zdk hm s x.name h1 h2 (by omega), kw1 hi (by omega), chkI, devS, zg3, zei x (show n.Nodes.length <= 1048576 by omega) (show n.Nodes.length < K by omega) (show x.nodes.length < K by omega) (by omega)]
   by_cases hA : ((addS s x.name).1 != 0) = true
   ·simp [hA]
   ·by_cases hE : x.nodes.all (hasS n.Nodes) = true
    ·by_cases hp : x.apart = true
     ·have h5 := h4 hp
      match hnd : x.nodes, h5 with
      | [a, b], _ =>
       rw [hnd] at hE
       by_cases hs : sEq a b = true <;> by_cases hB : x.bad = true <;> simp [hA, hE, hp, hs, hB, hnd, apS, z42, tu0, tu1, idx]
     ·by_cases hB : x.bad = true <;> simp [hA, hE, hp, hB, apS, z42, tu0, tu1]
    ·simp [hA, hE, z42, tu1, tu0])
  (fun s i x s' hx hI hc => by
   have h3 := z57 n s x.name x.nodes
   unfold chkI at hc
   split at hc
   ·cases hc
   ·split at hc
    ·cases hc
    ·split at hc
     ·cases hc
     ·cases hc; omega)
  (fun k s i hi => by
   show z17 K (z49 n) n (k + 1) s i = _
   rw [z17, z2w hi]; simp) K m (by omega) hmm
theorem zfv (F : Fits K n) : z3r K n = some (netS n) := by
 unfold z3r netS
 have hz : (if (decide ((List.length n.Nodes : Int) > 24)) = true then some true else (if (decide ((List.length n.Switches : Int) > 32)) = true then some true else (if (decide ((List.length n.Branches : Int) > 24)) = true then some true else (if (decide ((List.length n.Gens : Int) > 10)) = true then some true else (if (decide ((List.length n.Loads : Int) > 12)) = true then some true else some (decide ((List.length n.Stores : Int) > 4))))))) = some (bigS n) := by
  unfold bigS
  by_cases a1 : (n.Nodes.length : Int) > 24 <;> by_cases a2 : (n.Switches.length : Int) > 32 <;> by_cases a3 : (n.Branches.length : Int) > 24 <;> by_cases a4 : (n.Gens.length : Int) > 10 <;> by_cases a5 : (n.Loads.length : Int) > 12 <;> by_cases a6 : (n.Stores.length : Int) > 4 <;> simp [a1, a2, a3, a4, a5, a6] <;> omega
 rw [hz]
 simp only [Option.bind_some, tu1]
 cases hb : bigS n with
 | true => simp
 | false =>
 have hb' : n.Nodes.length <= 24 := by unfold bigS at hb; simp at hb; omega
 simp only [zgs F hb', Bool.false_eq_true, if_false, z42, Option.bind_some]
 cases r0 : runS chkN n.Nodes [] with
 | inl e => simp
 | inr m =>
  have b0 := z9a n n.Nodes [] m r0
  simp only [zda hb F.many, Option.bind_some, zgt F hb m (by simp at b0; omega), Sum.elim_inr]
  cases runS (chkI n) (z49 n) m <;> simp
end Go.Am.Tryz
/- Numbers: digits in a base, the least one first; decimal texts. Plain, no program. -/
namespace Go.Am
open Go
def DigB (B : Int) (l : List Int) : Prop := ∀ d ∈ l, 0 <= d /\ d < B
theorem DigB.nil (B : Int) : DigB B [] := fun d h => by simp at h
theorem DigB.cons {B d : Int} {l : List Int} (h : DigB B (d :: l)) : (0 <= d /\ d < B) /\ DigB B l := ⟨h d (by simp), fun x hx => h x (by simp [hx])⟩
def CanB (B : Int) (l : List Int) : Prop := DigB B l /\ l.getLast? ≠ some 0
theorem CanB.tail {B d : Int} {l : List Int} (h : CanB B (d :: l)) : CanB B l := by
 refine ⟨h.1.cons.2, fun e => h.2 ?_⟩
 cases l with
 | nil => simp at e
 | cons x l => rw [List.getLast?_cons_cons]; exact e
end Go.Am
/- Graphs: connected parts, their numbers, closure of a matrix, ways. Plain, no program. -/
namespace Go.Am
open Go
def Edg (l : List (Int × Int)) (U : Nat -> Bool) (a b : Nat) : Prop := ∃ k, k < l.length /\ U k = true /\ (l.getD k (0, 0) = ((a : Int), (b : Int)) \/ l.getD k (0, 0) = ((b : Int), (a : Int)))
inductive Con (l : List (Int × Int)) (U : Nat -> Bool) : Nat -> Nat -> Prop
 | refl (a : Nat) : Con l U a a
 | tail {a b c : Nat} : Con l U a b -> Edg l U b c -> Con l U a c
structure Outer (l : List (Int × Int)) (U : Nat -> Bool) (n : Nat) (cs : List Int) (m s : Nat) : Prop where
 len : cs.length = n
 rng : ∀ i < n, -1 <= cs.getD i 0 /\ cs.getD i 0 < m
 done : ∀ i < s, i < n -> 0 <= cs.getD i 0
 cls : ∀ i j, i < n -> j < n -> 0 <= cs.getD i 0 -> (cs.getD i 0 = cs.getD j 0 ↔ Con l U i j)
 last : 0 < m -> ∃ j < s, j < n /\ cs.getD j 0 = (m : Int) - 1
 rgs : ∀ i < n, 0 < cs.getD i 0 -> ∃ j < i, cs.getD j 0 = cs.getD i 0 - 1
 few : m <= s
structure Mid (l : List (Int × Int)) (U : Nat -> Bool) (n : Nat) (base : List Int) (m s : Nat) (cs : List Int) : Prop where
 len : cs.length = n
 own : ∀ i < n, (cs.getD i 0 = m /\ base.getD i 0 = -1 /\ Con l U s i) \/ cs.getD i 0 = base.getD i 0
 start : cs.getD s 0 = m
theorem Edg.symm {l : List (Int × Int)} {U : Nat -> Bool} {a b : Nat} (h : Edg l U a b) : Edg l U b a := by
 obtain ⟨k, h1, h2, h3⟩ := h
 exact ⟨k, h1, h2, h3.symm⟩
theorem Con.trans {l : List (Int × Int)} {U : Nat -> Bool} {a b c : Nat} (h : Con l U a b) (k : Con l U b c) : Con l U a c := by
 induction k with
 | refl => exact h
 | tail _ e ih => exact .tail ih e
theorem Con.symm {l : List (Int × Int)} {U : Nat -> Bool} {a b : Nat} (h : Con l U a b) : Con l U b a := by
 induction h with
 | refl => exact .refl _
 | tail _ e ih => exact (Con.tail (.refl _) e.symm).trans ih
structure EqvOn (M : Nat -> Nat -> Bool) (n : Nat) : Prop where
 refl : ∀ a < n, M a a = true
 symm : ∀ a b, a < n -> b < n -> M a b = true -> M b a = true
 trans : ∀ a b c, a < n -> b < n -> c < n -> M a b = true -> M b c = true -> M a c = true
structure NumOk (M : Nat -> Nat -> Bool) (cs : List Int) (m i : Nat) : Prop where
 len : cs.length = i
 rng : ∀ a < i, 0 <= cs.getD a 0 /\ cs.getD a 0 < m
 cls : ∀ a b, a < i -> b < i -> (cs.getD a 0 = cs.getD b 0 ↔ M a b = true)
 last : 0 < m -> ∃ a < i, cs.getD a 0 = (m : Int) - 1
 rgs : ∀ a < i, 0 < cs.getD a 0 -> ∃ b < a, cs.getD b 0 = cs.getD a 0 - 1
 few : m <= i
structure WOk (l : List (Int × Int)) (U : Nat -> Bool) (n : Nat) (M : Nat -> Nat -> Bool) (m : Nat) : Prop where
 sound : ∀ a b, a < n -> b < n -> M a b = true -> Con l U a b
 refl : ∀ a < n, M a a = true
 edge : ∀ a b, a < n -> b < n -> Edg l U a b -> M a b = true
 tr : ∀ c < m, ∀ a b, a < n -> b < n -> M a c = true -> M c b = true -> M a b = true
def Wk (l : List (Int × Int)) (U : Nat -> Bool) (to : Nat) : Nat -> Nat -> Prop
 | 0, v => v = to
 | k + 1, v => ∃ w, Edg l U v w /\ Wk l U to k w
structure FarOk (l : List (Int × Int)) (U : Nat -> Bool) (n to : Nat) (fs : List Int) (d : Nat) : Prop where
 len : fs.length = n
 rng : ∀ v < n, -1 <= fs.getD v 0
 fnd : ∀ v < n, ∀ k : Nat, fs.getD v 0 = k -> k <= d /\ Wk l U to k v /\ ∀ j < k, ¬ Wk l U to j v
 nof : ∀ v < n, fs.getD v 0 = -1 -> ∀ j ≤ d, ¬ Wk l U to j v
structure Rnd (l : List (Int × Int)) (U : Nat -> Bool) (n to : Nat) (fs gs : List Int) (d : Nat) : Prop where
 len : gs.length = n
 old : ∀ v < n, gs.getD v 0 = fs.getD v 0 \/ (fs.getD v 0 = -1 /\ gs.getD v 0 = (d : Int) + 1 /\ Wk l U to (d + 1) v)
def neg (n : Nat) (fs : List Int) : Nat := ((List.range n).filter fun v => fs.getD v 0 == -1).length
theorem zfw {S R : Type} (l : Nat -> S -> Option R) (I : S -> Prop) (mu : S -> Nat) (Q : R -> Prop)
  (h : ∀ k s, I s -> (∃ r, l (k + 1) s = some r /\ Q r) \/ ∃ s', I s' /\ mu s' < mu s /\ l (k + 1) s = l k s') : ∀ k s, mu s < k -> I s -> ∃ r, l k s = some r /\ Q r := by
 intro k
 induction k with
 | zero => intro s h1; omega
 | succ k ih =>
  intro s h1 hI
  rcases h k s hI with h2 | ⟨s', h2, h3, h4⟩
  ·exact h2
  ·rw [h4]; exact ih s' (by omega) h2
def two (p : Int × Int) : List Int := [p.1, p.2]
end Go.Am
/- Plain lemmas: rules for typed functions over whole numbers; digits set in place; the guess of a digit of a quotient. -/
namespace Go.Am
open Go
theorem z2y {α β : Type} (a : α) (f : α -> Option β) : Option.bind (some a) f = f a := (rfl)
theorem tu0a {β : Type} (g : Option β) (u : Unit) : tu0 g u = g := (rfl)
theorem tu1a {α β : Type} (g : α -> Option β) (a : α) : tu1 g a = g a := (rfl)
theorem tu2a {α1 α2 β : Type} (g : α1 -> α2 -> Option β) (p : α1 × α2) : tu2 g p = g p.1 p.2 := (rfl)
theorem zdb {α β γ : Type} (a : α) (f : α -> Option γ) (g : β -> Option γ) : z42 (some (.inl a)) f g = f a := (rfl)
theorem zeo {α β γ : Type} (b : β) (f : α -> Option γ) (g : β -> Option γ) : z42 (some (.inr b)) f g = g b := (rfl)
theorem k64 {a : Int} (h1 : -9223372036854775808 <= a) (h2 : a <= 9223372036854775807) : z0n .i64 a = a := kw h1 h2
theorem zag {S R : Type} (l : Nat -> S -> Option R) (I : S -> Prop) (mu : S -> Nat) (Q : R -> Prop)
  (h : ∀ k s, I s -> (∃ r, l (k + 1) s = some r /\ Q r) \/ ∃ s', l (k + 1) s = l k s' /\ mu s' < mu s /\ I s') {k : Nat} (s : S) (hk : mu s < k) (hI : I s) : ∃ r, l k s = some r /\ Q r :=
 zfw l I mu Q (fun k s hs => (h k s hs).imp id fun ⟨s', a, b, c⟩ => ⟨s', c, b, a⟩) k s hk hI
theorem DigB.set {B d : Int} {l : List Int} (h : DigB B l) (p : Nat) (hd : 0 <= d /\ d < B) : DigB B (l.set p d) := fun x hx => by
 rcases List.mem_or_eq_of_mem_set hx with h1 | h1
 ·exact h x h1
 ·subst h1; exact hd
theorem DigB.take {B : Int} {l : List Int} (h : DigB B l) (k : Nat) : DigB B (l.take k) := fun x hx => h x (List.mem_of_mem_take hx)
theorem DigB.drop {B : Int} {l : List Int} (h : DigB B l) (k : Nat) : DigB B (l.drop k) := fun x hx => h x (List.mem_of_mem_drop hx)
theorem zfx {a b c : Int} (hc : 0 <= c) (h : a <= b) : c * a <= c * b := Int.mul_le_mul_of_nonneg_left h hc
theorem zep {a b : Int} (ha : 0 <= a) (hb : 0 <= b) : 0 <= a * b := Int.mul_nonneg ha hb
structure Kn (B P v1 v2 vl top u3 ul q : Int) : Prop where
 B1 : 1 < B
 P0 : 0 < P
 v1p : 1 <= v1
 v2p : 0 <= v2
 v2b : v2 < B
 vlp : 0 <= vl
 vlb : vl < P
 tp : 0 <= top
 u3p : 0 <= u3
 u3b : u3 < B
 ulp : 0 <= ul
 ulb : ul < P
 q0 : 0 <= q
 qB : q < B
 lo : q * (P * (B * v1 + v2) + vl) <= P * (B * top + u3) + ul
 hi : P * (B * top + u3) + ul < (q + 1) * (P * (B * v1 + v2) + vl)
section
variable {B P v1 v2 vl top u3 ul q g r : Int}
theorem Kn.first (h : Kn B P v1 v2 vl top u3 ul q) : q <= top / v1 := by
 obtain ⟨B1, P0, v1p, v2p, v2b, vlp, vlb, tp, u3p, u3b, ulp, ulb, q0, qB, lo, hi⟩ := h
 rw [Int.le_ediv_iff_mul_le (by omega)]
 refine Int.le_of_lt_add_one (Int.not_le.1 fun hc => ?_)
 have a1 := zfx (Int.le_of_lt (Int.mul_pos P0 (show 0 < B by omega))) hc
 have a2 := zep (Int.le_of_lt P0) (zep q0 v2p)
 have a3 := zep q0 vlp
 have a4 := zfx (Int.le_of_lt P0) (show u3 <= B - 1 by omega)
 grind
end
end Go.Am
/- Plain law: FlowInjects answers true. -/
namespace Go.Am.Tryz
open Go Go.Am Go.Proofs
section
variable {K : Nat} {n : Network}
theorem z9w : ∀ (xs : List Item) (m m' : List zAd), runS (chkI n) xs m = .inr m' -> ∀ x ∈ xs, x.bad = false
 | [], _, _, _, x, hx => by simp at hx
 | y :: xs, m, m', h, x, hx => by
  rw [runS] at h
  cases hc : chkI n y m with
  | inl e => rw [hc] at h; cases h
  | inr m1 =>
   rw [hc] at h
   have hy : y.bad = false := by
    unfold chkI at hc
    split at hc
    ·cases hc
    ·split at hc
     ·cases hc
     ·split at hc
      ·cases hc
      ·rename_i hb; simpa using hb
   rcases List.mem_cons.1 hx with rfl | h1
   ·exact hy
   ·exact z9w xs m1 m' h x h1
structure GoodN (n : Network) : Prop where
 nodes : n.Nodes.length <= 24
 gens : n.Gens.length <= 10
 loads : n.Loads.length <= 12
 stores : n.Stores.length <= 4
 ge : ∀ g ∈ n.Gens, 0 <= g.Least /\ g.Least <= 100000 /\ g.Least <= g.Most /\ g.Most <= 100000
 lo : ∀ d ∈ n.Loads, 0 <= d.Demand /\ d.Demand <= 100000
 st : ∀ x ∈ n.Stores, 0 <= x.Charge /\ x.Charge <= 100000 /\ 0 <= x.Discharge /\ x.Discharge <= 100000
theorem zh6 (h : netS n = 0) : GoodN n := by
 unfold netS at h
 split at h
 ·cases h
 ·rename_i hb
  have hb : bigS n = false := by simpa using hb
  unfold bigS at hb
  simp only [Bool.or_eq_false_iff, decide_eq_false_iff_not] at hb
  cases hr : runS chkN n.Nodes [] with
  | inl e =>
   rw [hr] at h
   exfalso
   have : e = 0 := h
   subst this
   -- a code of an error is not nought
   have key : ∀ (xs : List zAd) (m : List zAd), runS chkN xs m ≠ .inl 0 := by
    intro xs
    induction xs with
    | nil => intro m e; cases e
    | cons x xs ih =>
     intro m e
     rw [runS] at e
     unfold chkN at e
     split at e
     ·rename_i hq
      simp only [Sum.elim_inl, Sum.inl.injEq] at e
      rw [e] at hq; simp at hq
     ·exact ih _ e
   exact key _ _ hr
  | inr met =>
   rw [hr] at h
   simp only [Sum.elim_inr] at h
   cases hi : runS (chkI n) (z49 n) met with
   | inl e =>
    rw [hi] at h
    exfalso
    have : e = 0 := h
    subst this
    have key : ∀ (xs : List Item) (m : List zAd), runS (chkI n) xs m ≠ .inl 0 := by
     intro xs
     induction xs with
     | nil => intro m e; cases e
     | cons x xs ih =>
      intro m e
      rw [runS] at e
      unfold chkI at e
      split at e
      ·rename_i hq
       simp only [Sum.elim_inl, Sum.inl.injEq] at e
       rw [e] at hq; simp at hq
      ·split at e
       ·simp at e
       ·split at e
        ·simp at e
        ·exact ih _ e
    exact key _ _ hi
   | inr m' =>
    have good := z9w _ _ _ hi
    refine ⟨by omega, by omega, by omega, by omega, fun g hg => ?_, fun d hd => ?_, fun x hx => ?_⟩
    ·have := good (iGe g) (by unfold z49; simp only [List.mem_append, List.mem_map]; exact .inl (.inl (.inr ⟨g, hg, rfl⟩)))
     simp only [iGe, inS, Bool.not_eq_false', Bool.and_eq_true, decide_eq_true_eq] at this
     omega
    ·have := good (iLo d) (by unfold z49; simp only [List.mem_append, List.mem_map]; exact .inl (.inr ⟨d, hd, rfl⟩))
     simp only [iLo, inS, Bool.not_eq_false', Bool.and_eq_true, decide_eq_true_eq] at this
     omega
    ·have := good (iSt x) (by unfold z49; simp only [List.mem_append, List.mem_map]; exact .inr ⟨x, hx, rfl⟩)
     simp only [iSt, inS, Bool.not_eq_false', Bool.and_eq_true, decide_eq_true_eq] at this
     omega
def GS (xs : List (zAd × Int)) (s : zAd) : Int := (xs.map fun d => if sEq d.1 s = true then d.2 else 0).sum
theorem z7z (a b : zAd) : sEq a b = sEq b a := Bool.eq_iff_iff.2 (by rw [sEq_iff, sEq_iff]; exact eq_comm)
theorem z7b {xs : List (zAd × Int)} {i : Nat} (h : i < xs.length) (s : zAd) : GS (xs.take (i + 1)) s = GS (xs.take i) s + (if sEq xs[i].1 s = true then xs[i].2 else 0) := by
 unfold GS
 rw [List.take_add_one, zAh h, Option.toList_some, List.map_append, List.sum_append]
 simp
theorem zeq {xs : List (zAd × Int)} (hb : ∀ d ∈ xs, -100000 <= d.2 /\ d.2 <= 100000) (s : zAd) : -(100000 * (xs.length : Int)) <= GS xs s /\ GS xs s <= 100000 * (xs.length : Int) := by
 induction xs with
 | nil => unfold GS; simp
 | cons d xs ih =>
  have h1 := ih fun q hq => hb q (List.mem_cons_of_mem _ hq)
  have h2 := hb d List.mem_cons_self
  unfold GS at h1 ⊢
  simp only [List.map_cons, List.sum_cons, List.length_cons]
  by_cases c : sEq d.1 s = true
  ·rw [if_pos c]; omega
  ·rw [if_neg c]; omega
theorem z6y (xs : List (zAd × Int)) : xs.take xs.length = xs := List.take_of_length_le (Nat.le_refl _)
theorem zer {F : zAd -> Int} {d : zAd} {p : Int} (hn : n.Nodes.length <= 24) (hF : ∀ s, -3000000 <= F s /\ F s <= 3000000) (hp : -100000 <= p /\ p <= 100000) (hK : 200 < K) :
  z1s K d p n (n.Nodes.map F) = some (n.Nodes.map fun s => F s + if sEq d s = true then p else 0) := by
 have key : ∃ r : List Int, z12 K d p n K (n.Nodes.map F) 0 = some r /\ r = n.Nodes.map fun s => F s + if sEq d s = true then p else 0 := by
  refine zag (fun k (s : List Int × Int) => z12 K d p n k s.1 s.2) (fun s => ∃ i : Nat, s.2 = i /\ i <= n.Nodes.length /\ s.1.length = n.Nodes.length /\ ∀ j (h : j < n.Nodes.length), s.1[j]? = some (if j < i then F n.Nodes[j] + (if sEq d n.Nodes[j] = true then p else 0) else F n.Nodes[j])) (fun s => (n.Nodes.length + 1 - s.2 : Int).toNat) _ ?_ ((n.Nodes.map F, 0) : List Int × Int) (by dsimp only; omega) ⟨0, rfl, by omega, by simp, fun j h => by simp [h]⟩
  rintro k ⟨out, _⟩ ⟨i, rfl, h0, h1, h2⟩
  dsimp only at h1 h2 ⊢
  by_cases hi : i < n.Nodes.length
  ·right
   have hx : idx n.Nodes (i : Int) = some n.Nodes[i] := z1c (zAh hi)
   have ho := h2 i hi
   rw [if_neg (by omega)] at ho
   have hy : idx out (i : Int) = some (F n.Nodes[i]) := z1c ho
   have hf := hF n.Nodes[i]
   by_cases c : sEq d n.Nodes[i] = true
   ·have c' : sEq n.Nodes[i] d = true := by rw [z7z]; exact c
    refine ⟨(out.set i (F n.Nodes[i] + p), (i : Int) + 1), ?_, by dsimp only; omega, i + 1, rfl, by omega, by simp [h1], fun j h => ?_⟩
    ·rw [z12, if_pos (decide_eq_true (by omega)), hx, z2y, if_pos c', hy, z2y, z2y, z2y, tu1a, k64 (by omega) (by omega), k64 (by omega) (by omega), Int.toNat_natCast]
    ·dsimp only
     rw [List.getElem?_set]
     by_cases e : i = j
     ·subst e
      rw [if_pos rfl, if_pos (by omega)]
      simp only [if_pos (show i < i + 1 by omega), if_pos c]
     ·rw [if_neg e, h2 j h]
      by_cases q : j < i
      ·simp only [if_pos q, if_pos (show j < i + 1 by omega)]
      ·simp only [if_neg q, if_neg (show ¬ j < i + 1 by omega)]
   ·have c' : ¬ sEq n.Nodes[i] d = true := by rw [z7z]; exact c
    refine ⟨(out, (i : Int) + 1), ?_, by dsimp only; omega, i + 1, rfl, by omega, h1, fun j h => ?_⟩
    ·rw [z12, if_pos (decide_eq_true (by omega)), hx, z2y, if_neg c', z2y, tu1a, k64 (by omega) (by omega)]
    ·rw [h2 j h]
     by_cases q : j < i
     ·simp only [if_pos q, if_pos (show j < i + 1 by omega)]
     ·simp only [if_neg q]
      by_cases e : j = i
      ·subst e; simp only [if_pos (show j < j + 1 by omega), if_neg c]; simp
      ·simp only [if_neg (show ¬ j < i + 1 by omega)]
  ·left
   refine ⟨out, by rw [z12, if_neg (by simp; omega)], List.ext_getElem? fun j => ?_⟩
   by_cases h : j < n.Nodes.length
   ·rw [h2 j h, if_pos (by omega), List.getElem?_map, zAh h]; rfl
   ·rw [List.getElem?_eq_none (by omega), List.getElem?_eq_none (by simp; omega)]
 obtain ⟨r, r1, rfl⟩ := key
 unfold z1s
 rw [r1]; rfl
end
end Go.Am.Tryz
/- Plain law: the loops of Inject and of its statement. -/
namespace Go.Am.Tryz
open Go Go.Am Go.Proofs
section
variable {K : Nat} {n : Network}
theorem z2b {xs : List (zAd × Int)} {i : Nat} (hi : i <= xs.length) (hb : ∀ j (h : j < xs.length), j < i -> -100000 <= xs[j].2 /\ xs[j].2 <= 100000) (s : zAd) : -(100000 * (i : Int)) <= GS (xs.take i) s /\ GS (xs.take i) s <= 100000 * (i : Int) := by
 have := zeq (xs := xs.take i) (fun d hd => by
  obtain ⟨j, hj, rfl⟩ := List.getElem_of_mem hd
  rw [List.getElem_take]
  simp only [List.length_take] at hj
  exact hb j (by omega) (by omega)) s
 rw [List.length_take, show min i xs.length = i by omega] at this
 exact this
def badG (g : Gen) (v : Int) : Bool := (v != 0) && (decide (v < g.Least) || decide (v > g.Most))
def badS (x : Store) (v : Int) : Bool := decide (v < -x.Charge) || decide (v > x.Discharge)
def oor (v : Int) : Bool := decide (v < -100000) || decide (v > 100000)
def dG (n : Network) (l : List Int) : List (zAd × Int) := List.zipWith (fun (g : Gen) v => (g.Node, v)) n.Gens l
def dS (n : Network) (l : List Int) : List (zAd × Int) := List.zipWith (fun (x : Store) v => (x.Node, v)) n.Stores l
def dL (n : Network) : List (zAd × Int) := n.Loads.map fun d => (d.Node, -d.Demand)
def bG (n : Network) (l : List Int) : List Bool := List.zipWith badG n.Gens l
def bS (n : Network) (l : List Int) : List Bool := List.zipWith badS n.Stores l
theorem z82 {bs : List Bool} {i : Nat} (h : i < bs.length) : (bs.take (i + 1)).any id = ((bs.take i).any id || bs[i]) := by
 rw [List.take_add_one, zAh h, Option.toList_some, List.any_append]; simp
theorem zby {bs : List Bool} {i j : Nat} (h : (bs.take i).any id = false) (hj : j < bs.length) (hi : j < i) : bs[j] = false := by
 rw [List.any_eq_false] at h
 have := h bs[j] (List.mem_iff_getElem.2 ⟨j, by simp; omega, by rw [List.getElem_take]⟩)
 simpa using this
theorem z83 (bs : List Bool) : (bs.take bs.length).any id = bs.any id := by rw [List.take_of_length_le (Nat.le_refl _)]
theorem zgy {g : Gen} {v : Int} : (if (v != 0) = true then (if decide (v < g.Least) = true then some true else some (decide (v > g.Most))) else some false) = some (badG g v) := by
 unfold badG
 cases (v != 0) <;> cases decide (v < g.Least) <;> simp
theorem zgu {g : Gen} {v : Int} : (if (v != 0) = true then (if decide (v >= g.Least) = true then some (!(decide (v <= g.Most))) else some true) else some false) = some (badG g v) := by
 unfold badG
 by_cases a : v < g.Least
 ·rw [decide_eq_true a, decide_eq_false (show ¬ v >= g.Least by omega)]; cases (v != 0) <;> simp
 ·rw [decide_eq_false a, decide_eq_true (show v >= g.Least by omega)]
  by_cases b : v > g.Most
  ·rw [decide_eq_true b, decide_eq_false (show ¬ v <= g.Most by omega)]; cases (v != 0) <;> simp
  ·rw [decide_eq_false b, decide_eq_true (show v <= g.Most by omega)]; cases (v != 0) <;> simp
theorem zgz {x : Store} {v : Int} : (if decide (v < -x.Charge) = true then some true else some (decide (v > x.Discharge))) = some (badS x v) := by
 unfold badS
 cases decide (v < -x.Charge) <;> simp
theorem zgv {x : Store} {v : Int} : (if decide (v >= -x.Charge) = true then some (!(decide (v <= x.Discharge))) else some true) = some (badS x v) := by
 unfold badS
 by_cases a : v < -x.Charge
 ·rw [decide_eq_true a, decide_eq_false (show ¬ v >= -x.Charge by omega)]; simp
 ·rw [decide_eq_false a, decide_eq_true (show v >= -x.Charge by omega)]
  by_cases b : v > x.Discharge
  ·rw [decide_eq_true b, decide_eq_false (show ¬ v <= x.Discharge by omega)]; simp
  ·rw [decide_eq_false b, decide_eq_true (show v <= x.Discharge by omega)]; simp
theorem okG {g : Gen} {v : Int} (hg : 0 <= g.Least /\ g.Least <= 100000 /\ g.Least <= g.Most /\ g.Most <= 100000) (h : badG g v = false) : -100000 <= v /\ v <= 100000 := by
 unfold badG at h
 by_cases c : v = 0
 ·omega
 ·have : (v != 0) = true := by simpa using c
  rw [this] at h
  simp at h
  omega
theorem okS' {x : Store} {v : Int} (hx : 0 <= x.Charge /\ x.Charge <= 100000 /\ 0 <= x.Discharge /\ x.Discharge <= 100000) (h : badS x v = false) : -100000 <= v /\ v <= 100000 := by
 unfold badS at h
 simp at h
 omega
theorem zdc (G : GoodN n) {l : List Int} (hl : l.length = n.Gens.length) (hK : 200 < K) :
  z0y K n l K (n.Nodes.map (GS [])) 0 = some (if (bG n l).any id then .inl ([], 17) else .inr (n.Nodes.map (GS (dG n l)))) := by
 have hdl : (dG n l).length = n.Gens.length := by simp [dG, hl]
 have hbl : (bG n l).length = n.Gens.length := by simp [bG, hl]
 have hgl := G.gens
 have hv : ∀ j (h : j < n.Gens.length), (bG n l)[j]'(by omega) = false -> -100000 <= ((dG n l)[j]'(by omega)).2 /\ ((dG n l)[j]'(by omega)).2 <= 100000 := fun j h hb => by
  simp only [bG, List.getElem_zipWith] at hb
  simp only [dG, List.getElem_zipWith]
  exact okG (G.ge _ (List.getElem_mem h)) hb
 have key : ∃ r, z0y K n l K (n.Nodes.map (GS [])) 0 = some r /\ r = if (bG n l).any id then .inl ([], 17) else .inr (n.Nodes.map (GS (dG n l))) := by
  refine zag (fun k (s : List Int × Int) => z0y K n l k s.1 s.2) (fun s => ∃ i : Nat, s.2 = i /\ i <= n.Gens.length /\ s.1 = n.Nodes.map (GS ((dG n l).take i)) /\ ((bG n l).take i).any id = false) (fun s => (n.Gens.length + 1 - s.2 : Int).toNat) _ ?_ ((n.Nodes.map (GS []), 0) : List Int × Int) (by dsimp only; omega) ⟨0, rfl, by omega, by simp, by simp⟩
  rintro k ⟨out, _⟩ ⟨i, rfl, h0, rfl, h2⟩
  dsimp only
  by_cases hi : i < n.Gens.length
  ·have hx : idx n.Gens (i : Int) = some n.Gens[i] := z1c (zAh hi)
   have hy : idx l (i : Int) = some l[i] := z1c (zAh (by omega))
   have hbi : (bG n l)[i]'(by omega) = badG n.Gens[i] l[i] := by simp [bG]
   cases hb : badG n.Gens[i] l[i] with
   | true =>
    left
    have hany : (bG n l).any id = true := List.any_eq_true.2 ⟨(bG n l)[i]'(by omega), List.getElem_mem _, by rw [hbi, hb]; rfl⟩
    refine ⟨.inl ([], 17), ?_, by rw [hany]; rfl⟩
    rw [z0y, if_pos (decide_eq_true (by omega)), hx, z2y, hy]
    simp only [z2y]
    rw [zgy, hb, z2y, tu1a, if_pos rfl]
   | false =>
    right
    have hp := okG (G.ge _ (List.getElem_mem hi)) hb
    have ha := zer (K := K) (n := n) (F := GS ((dG n l).take i)) (d := n.Gens[i].Node) (p := l[i]) G.nodes (fun s => by
     have := z2b (xs := dG n l) (i := i) (by omega) (fun j h hj => hv j (by omega) (zby h2 (by omega) hj)) s
     omega) hp hK
    refine ⟨(n.Nodes.map (GS ((dG n l).take (i + 1))), (i : Int) + 1), ?_, by dsimp only; omega, i + 1, rfl, by omega, rfl, by rw [z82 (by omega), h2, hbi, hb]; rfl⟩
    rw [z0y, if_pos (decide_eq_true (by omega)), hx, z2y, hy]
    simp only [z2y]
    rw [zgy, hb, z2y, tu1a, if_neg (by simp), ha, z2y, k64 (by omega) (by omega)]
    congr 2
    funext s
    rw [z7b (by omega)]
    simp [dG]
  ·left
   have e : i = n.Gens.length := by omega
   subst e
   refine ⟨.inr (n.Nodes.map (GS (dG n l))), ?_, ?_⟩
   ·rw [z0y, if_neg (by simp), <- hdl, z6y]
   ·rw [<- hbl, z83] at h2
    rw [h2]; rfl
 obtain ⟨r, r1, rfl⟩ := key
 exact r1
theorem zae (G : GoodN n) {l : List Int} {F : zAd -> Int} (hF : ∀ s, -1000000 <= F s /\ F s <= 1000000) (hl : l.length = n.Stores.length) (hK : 200 < K) :
  z0t K n l K (n.Nodes.map F) 0 = some (if (bS n l).any id then .inl ([], 17) else .inr (n.Nodes.map fun s => F s + GS (dS n l) s)) := by
 have hdl : (dS n l).length = n.Stores.length := by simp [dS, hl]
 have hbl : (bS n l).length = n.Stores.length := by simp [bS, hl]
 have hgl := G.stores
 have hv : ∀ j (h : j < n.Stores.length), (bS n l)[j]'(by omega) = false -> -100000 <= ((dS n l)[j]'(by omega)).2 /\ ((dS n l)[j]'(by omega)).2 <= 100000 := fun j h hb => by
  simp only [bS, List.getElem_zipWith] at hb
  simp only [dS, List.getElem_zipWith]
  exact okS' (G.st _ (List.getElem_mem h)) hb
 have key : ∃ r, z0t K n l K (n.Nodes.map F) 0 = some r /\ r = if (bS n l).any id then .inl ([], 17) else .inr (n.Nodes.map fun s => F s + GS (dS n l) s) := by
  refine zag (fun k (s : List Int × Int) => z0t K n l k s.1 s.2) (fun s => ∃ i : Nat, s.2 = i /\ i <= n.Stores.length /\ s.1 = n.Nodes.map (fun s => F s + GS ((dS n l).take i) s) /\ ((bS n l).take i).any id = false) (fun s => (n.Stores.length + 1 - s.2 : Int).toNat) _ ?_ ((n.Nodes.map F, 0) : List Int × Int) (by dsimp only; omega) ⟨0, rfl, by omega, by simp [GS], by simp⟩
  rintro k ⟨out, _⟩ ⟨i, rfl, h0, rfl, h2⟩
  dsimp only
  by_cases hi : i < n.Stores.length
  ·have hx : idx n.Stores (i : Int) = some n.Stores[i] := z1c (zAh hi)
   have hy : idx l (i : Int) = some l[i] := z1c (zAh (by omega))
   have hst := G.st _ (List.getElem_mem hi)
   have hw : z0n .i64 (-n.Stores[i].Charge) = -n.Stores[i].Charge := k64 (by omega) (by omega)
   have hbi : (bS n l)[i]'(by omega) = badS n.Stores[i] l[i] := by simp [bS]
   cases hb : badS n.Stores[i] l[i] with
   | true =>
    left
    have hany : (bS n l).any id = true := List.any_eq_true.2 ⟨(bS n l)[i]'(by omega), List.getElem_mem _, by rw [hbi, hb]; rfl⟩
    refine ⟨.inl ([], 17), ?_, by rw [hany]; rfl⟩
    rw [z0t, if_pos (decide_eq_true (by omega)), hx, z2y, hy, hw]
    simp only [z2y]
    rw [zgz, hb, z2y, tu1a, if_pos rfl]
   | false =>
    right
    have hp := okS' hst hb
    have ha := zer (K := K) (n := n) (F := fun s => F s + GS ((dS n l).take i) s) (d := n.Stores[i].Node) (p := l[i]) G.nodes (fun s => by
     have := z2b (xs := dS n l) (i := i) (by omega) (fun j h hj => hv j (by omega) (zby h2 (by omega) hj)) s
     have := hF s
     omega) hp hK
    refine ⟨(n.Nodes.map (fun s => F s + GS ((dS n l).take (i + 1)) s), (i : Int) + 1), ?_, by dsimp only; omega, i + 1, rfl, by omega, rfl, by rw [z82 (by omega), h2, hbi, hb]; rfl⟩
    rw [z0t, if_pos (decide_eq_true (by omega)), hx, z2y, hy, hw]
    simp only [z2y]
    rw [zgz, hb, z2y, tu1a, if_neg (by simp), ha, z2y, k64 (by omega) (by omega)]
    congr 2
    funext s
    rw [z7b (by omega)]
    simp [dS]
    omega
  ·left
   have e : i = n.Stores.length := by omega
   subst e
   refine ⟨.inr (n.Nodes.map fun s => F s + GS (dS n l) s), ?_, ?_⟩
   ·rw [z0t, if_neg (by simp), <- hdl, z6y]
   ·rw [<- hbl, z83] at h2
    rw [h2]; rfl
 obtain ⟨r, r1, rfl⟩ := key
 exact r1
theorem zbz (G : GoodN n) {F : zAd -> Int} (hF : ∀ s, -1500000 <= F s /\ F s <= 1500000) (hK : 200 < K) : z0z K n K (n.Nodes.map F) 0 = some (n.Nodes.map fun s => F s + GS (dL n) s) := by
 have hdl : (dL n).length = n.Loads.length := by simp [dL]
 have hgl := G.loads
 have hv : ∀ j (h : j < n.Loads.length), -100000 <= ((dL n)[j]'(by omega)).2 /\ ((dL n)[j]'(by omega)).2 <= 100000 := fun j h => by
  have := G.lo _ (List.getElem_mem h)
  simp only [dL, List.getElem_map]
  omega
 have key : ∃ r, z0z K n K (n.Nodes.map F) 0 = some r /\ r = n.Nodes.map fun s => F s + GS (dL n) s := by
  refine zag (fun k (s : List Int × Int) => z0z K n k s.1 s.2) (fun s => ∃ i : Nat, s.2 = i /\ i <= n.Loads.length /\ s.1 = n.Nodes.map (fun s => F s + GS ((dL n).take i) s)) (fun s => (n.Loads.length + 1 - s.2 : Int).toNat) _ ?_ ((n.Nodes.map F, 0) : List Int × Int) (by dsimp only; omega) ⟨0, rfl, by omega, by simp [GS]⟩
  rintro k ⟨out, _⟩ ⟨i, rfl, h0, rfl⟩
  dsimp only
  by_cases hi : i < n.Loads.length
  ·right
   have hx : idx n.Loads (i : Int) = some n.Loads[i] := z1c (zAh hi)
   have hd := G.lo _ (List.getElem_mem hi)
   have hw : z0n .i64 (-n.Loads[i].Demand) = -n.Loads[i].Demand := k64 (by omega) (by omega)
   have ha := zer (K := K) (n := n) (F := fun s => F s + GS ((dL n).take i) s) (d := n.Loads[i].Node) (p := -n.Loads[i].Demand) G.nodes (fun s => by
    have := z2b (xs := dL n) (i := i) (by omega) (fun j h hj => hv j (by omega)) s
    have := hF s
    omega) (by omega) hK
   refine ⟨(n.Nodes.map (fun s => F s + GS ((dL n).take (i + 1)) s), (i : Int) + 1), ?_, by dsimp only; omega, i + 1, rfl, by omega, rfl⟩
   rw [z0z, if_pos (decide_eq_true (by omega)), hx, z2y, hw, ha, z2y, k64 (by omega) (by omega)]
   congr 2
   funext s
   rw [z7b (by omega)]
   simp [dL]
   omega
  ·left
   have e : i = n.Loads.length := by omega
   subst e
   exact ⟨_, by rw [z0z, if_neg (by simp)], by rw [<- hdl, z6y]⟩
 obtain ⟨r, r1, rfl⟩ := key
 exact r1
theorem zc0 {l : List Int} (hl : l.length <= 24) (hK : 200 < K) : z10 K l K 0 = some (if l.any oor then .inl ([], 4) else .inr ()) := by
 have key : ∃ r, z10 K l K 0 = some r /\ r = if l.any oor then .inl ([], 4) else .inr () := by
  refine zag (fun k (s : Int) => z10 K l k s) (fun s => ∃ i : Nat, s = i /\ i <= l.length /\ (l.take i).any oor = false) (fun s => (l.length + 1 - s : Int).toNat) _ ?_ (0 : Int) (by omega) ⟨0, rfl, by omega, by simp⟩
  rintro k _ ⟨i, rfl, h0, h2⟩
  by_cases hi : i < l.length
  ·have hx : idx l (i : Int) = some l[i] := z1c (zAh hi)
   have hc : (if decide (l[i] < (-100000)) = true then some true else some (decide (l[i] > 100000))) = some (oor l[i]) := by unfold oor; cases decide (l[i] < (-100000)) <;> simp
   cases hb : oor l[i] with
   | true =>
    left
    refine ⟨.inl ([], 4), ?_, by rw [List.any_eq_true.2 ⟨l[i], List.getElem_mem hi, hb⟩]; rfl⟩
    rw [z10, if_pos (decide_eq_true (by omega)), hx, z2y, hc, hb, z2y, tu1a, if_pos rfl]
   | false =>
    right
    refine ⟨(i : Int) + 1, ?_, by omega, i + 1, rfl, by omega, by rw [List.take_add_one, zAh hi, List.any_append, h2]; simp [hb]⟩
    rw [z10, if_pos (decide_eq_true (by omega)), hx, z2y, hc, hb, z2y, tu1a, if_neg (by simp), k64 (by omega) (by omega)]
  ·left
   have e : i = l.length := by omega
   subst e
   rw [List.take_of_length_le (Nat.le_refl _)] at h2
   exact ⟨.inr (), by rw [z10, if_neg (by simp)], by rw [h2]; rfl⟩
 obtain ⟨r, r1, rfl⟩ := key
 exact r1
end
end Go.Am.Tryz
/- Plain law: FlowInjects answers true. -/
namespace Go.Am.Tryz
open Go Go.Am Go.Proofs
section
variable {K : Nat} {n : Network}
theorem zes (G : GoodN n) {l : List Int} (hl : l.length = n.Gens.length) (hK : 200 < K) : z0p K n l K 0 0 = some (if (bG n l).any id then 17 else 0) := by
 have hbl : (bG n l).length = n.Gens.length := by simp [bG, hl]
 have hgl := G.gens
 have key : ∃ r, z0p K n l K 0 0 = some r /\ r = if (bG n l).any id then (17 : Int) else 0 := by
  refine zag (fun k (s : Int × Int) => z0p K n l k s.1 s.2) (fun s => ∃ i : Nat, s.2 = i /\ i <= n.Gens.length /\ s.1 = if ((bG n l).take i).any id then 17 else 0) (fun s => (n.Gens.length + 1 - s.2 : Int).toNat) _ ?_ ((0, 0) : Int × Int) (by dsimp only; omega) ⟨0, rfl, by omega, by simp⟩
  rintro k ⟨w, _⟩ ⟨i, rfl, h0, rfl⟩
  dsimp only
  by_cases hi : i < n.Gens.length
  ·right
   have hx : idx n.Gens (i : Int) = some n.Gens[i] := z1c (zAh hi)
   have hy : idx l (i : Int) = some l[i] := z1c (zAh (by omega))
   have hbi : (bG n l)[i]'(by omega) = badG n.Gens[i] l[i] := by simp [bG]
   refine ⟨(if ((bG n l).take (i + 1)).any id then 17 else 0, (i : Int) + 1), ?_, by dsimp only; omega, i + 1, rfl, by omega, rfl⟩
   rw [z0p, if_pos (decide_eq_true (by omega)), hx, z2y, hy]
   simp only [z2y]
   rw [zgu, z2y, tu1a, z82 (by omega), hbi, k64 (by omega) (by omega)]
   cases badG n.Gens[i] l[i] <;> cases ((bG n l).take i).any id <;> rfl
  ·left
   have e : i = n.Gens.length := by omega
   subst e
   refine ⟨_, by rw [z0p, if_neg (by simp)], ?_⟩
   rw [<- hbl, z83]
 obtain ⟨r, r1, rfl⟩ := key
 exact r1
theorem zc1 (G : GoodN n) {l : List Int} {w : Int} (hl : l.length = n.Stores.length) (hK : 200 < K) : z0m K n l K w 0 = some (if (bS n l).any id then 17 else w) := by
 have hbl : (bS n l).length = n.Stores.length := by simp [bS, hl]
 have hgl := G.stores
 have key : ∃ r, z0m K n l K w 0 = some r /\ r = if (bS n l).any id then (17 : Int) else w := by
  refine zag (fun k (s : Int × Int) => z0m K n l k s.1 s.2) (fun s => ∃ i : Nat, s.2 = i /\ i <= n.Stores.length /\ s.1 = if ((bS n l).take i).any id then 17 else w) (fun s => (n.Stores.length + 1 - s.2 : Int).toNat) _ ?_ ((w, 0) : Int × Int) (by dsimp only; omega) ⟨0, rfl, by omega, by simp⟩
  rintro k ⟨w', _⟩ ⟨i, rfl, h0, rfl⟩
  dsimp only
  by_cases hi : i < n.Stores.length
  ·right
   have hx : idx n.Stores (i : Int) = some n.Stores[i] := z1c (zAh hi)
   have hy : idx l (i : Int) = some l[i] := z1c (zAh (by omega))
   have hst := G.st _ (List.getElem_mem hi)
   have hw : z0n .i64 (-n.Stores[i].Charge) = -n.Stores[i].Charge := k64 (by omega) (by omega)
   have hbi : (bS n l)[i]'(by omega) = badS n.Stores[i] l[i] := by simp [bS]
   refine ⟨(if ((bS n l).take (i + 1)).any id then 17 else w, (i : Int) + 1), ?_, by dsimp only; omega, i + 1, rfl, by omega, rfl⟩
   rw [z0m, if_pos (decide_eq_true (by omega)), hx, z2y, hy, hw]
   simp only [z2y]
   rw [zgv, z2y, tu1a, z82 (by omega), hbi, k64 (by omega) (by omega)]
   cases badS n.Stores[i] l[i] <;> cases ((bS n l).take i).any id <;> rfl
  ·left
   have e : i = n.Stores.length := by omega
   subst e
   refine ⟨_, by rw [z0m, if_neg (by simp)], ?_⟩
   rw [<- hbl, z83]
 obtain ⟨r, r1, rfl⟩ := key
 exact r1
theorem sumG (G : GoodN n) {l : List Int} {s : zAd} (hl : l.length = n.Gens.length) (hb : (bG n l).any id = false) (hK : 200 < K) : z0q K n l s K 0 0 = some (GS (dG n l) s) := by
 have hdl : (dG n l).length = n.Gens.length := by simp [dG, hl]
 have hbl : (bG n l).length = n.Gens.length := by simp [bG, hl]
 have hgl := G.gens
 have hv : ∀ j (h : j < (dG n l).length), -100000 <= ((dG n l)[j]).2 /\ ((dG n l)[j]).2 <= 100000 := fun j h => by
  have h' : j < n.Gens.length := by omega
  have hbj : (bG n l)[j]'(by omega) = false := by
   rw [List.any_eq_false] at hb
   simpa using hb _ (List.getElem_mem (by omega))
  simp only [bG, List.getElem_zipWith] at hbj
  simp only [dG, List.getElem_zipWith]
  exact okG (G.ge _ (List.getElem_mem h')) hbj
 have key : ∃ r, z0q K n l s K 0 0 = some r /\ r = GS (dG n l) s := by
  refine zag (fun k (q : Int × Int) => z0q K n l s k q.1 q.2) (fun q => ∃ i : Nat, q.2 = i /\ i <= n.Gens.length /\ q.1 = GS ((dG n l).take i) s) (fun q => (n.Gens.length + 1 - q.2 : Int).toNat) _ ?_ ((0, 0) : Int × Int) (by dsimp only; omega) ⟨0, rfl, by omega, by simp [GS]⟩
  rintro k ⟨w', _⟩ ⟨i, rfl, h0, rfl⟩
  dsimp only
  by_cases hi : i < n.Gens.length
  ·right
   have hx : idx n.Gens (i : Int) = some n.Gens[i] := z1c (zAh hi)
   have hy : idx l (i : Int) = some l[i] := z1c (zAh (by omega))
   have hB := z2b (xs := dG n l) (i := i) (by omega) (fun j h _ => hv j h) s
   have hvi := hv i (by omega)
   simp only [dG, List.getElem_zipWith] at hvi
   refine ⟨(GS ((dG n l).take (i + 1)) s, (i : Int) + 1), ?_, by dsimp only; omega, i + 1, rfl, by omega, rfl⟩
   rw [z0q, if_pos (decide_eq_true (by omega)), hx, z2y, z7b (by omega)]
   simp only [dG, List.getElem_zipWith] at hB ⊢
   by_cases c : sEq n.Gens[i].Node s = true
   ·rw [if_pos c, if_pos c, hy, z2y, z2y, tu1a, k64 (by omega) (by omega), k64 (by omega) (by omega)]
   ·rw [if_neg c, if_neg c, z2y, tu1a, k64 (by omega) (by omega), Int.add_zero]
  ·left
   have e : i = n.Gens.length := by omega
   subst e
   refine ⟨_, by rw [z0q, if_neg (by simp)], ?_⟩
   rw [<- hdl, z6y]
 obtain ⟨r, r1, rfl⟩ := key
 exact r1
theorem sumS (G : GoodN n) {l : List Int} {s : zAd} {w : Int} (hw : -1000000 <= w /\ w <= 1000000) (hl : l.length = n.Stores.length) (hb : (bS n l).any id = false) (hK : 200 < K) : z0r K n l s K w 0 = some (w + GS (dS n l) s) := by
 have hdl : (dS n l).length = n.Stores.length := by simp [dS, hl]
 have hbl : (bS n l).length = n.Stores.length := by simp [bS, hl]
 have hgl := G.stores
 have hv : ∀ j (h : j < (dS n l).length), -100000 <= ((dS n l)[j]).2 /\ ((dS n l)[j]).2 <= 100000 := fun j h => by
  have h' : j < n.Stores.length := by omega
  have hbj : (bS n l)[j]'(by omega) = false := by
   rw [List.any_eq_false] at hb
   simpa using hb _ (List.getElem_mem (by omega))
  simp only [bS, List.getElem_zipWith] at hbj
  simp only [dS, List.getElem_zipWith]
  exact okS' (G.st _ (List.getElem_mem h')) hbj
 have key : ∃ r, z0r K n l s K w 0 = some r /\ r = w + GS (dS n l) s := by
  refine zag (fun k (q : Int × Int) => z0r K n l s k q.1 q.2) (fun q => ∃ i : Nat, q.2 = i /\ i <= n.Stores.length /\ q.1 = w + GS ((dS n l).take i) s) (fun q => (n.Stores.length + 1 - q.2 : Int).toNat) _ ?_ ((w, 0) : Int × Int) (by dsimp only; omega) ⟨0, rfl, by omega, by simp [GS]⟩
  rintro k ⟨w', _⟩ ⟨i, rfl, h0, rfl⟩
  dsimp only
  by_cases hi : i < n.Stores.length
  ·right
   have hx : idx n.Stores (i : Int) = some n.Stores[i] := z1c (zAh hi)
   have hy : idx l (i : Int) = some l[i] := z1c (zAh (by omega))
   have hB := z2b (xs := dS n l) (i := i) (by omega) (fun j h _ => hv j h) s
   have hvi := hv i (by omega)
   simp only [dS, List.getElem_zipWith] at hvi
   refine ⟨(w + GS ((dS n l).take (i + 1)) s, (i : Int) + 1), ?_, by dsimp only; omega, i + 1, rfl, by omega, rfl⟩
   rw [z0r, if_pos (decide_eq_true (by omega)), hx, z2y, z7b (by omega)]
   simp only [dS, List.getElem_zipWith] at hB ⊢
   by_cases c : sEq n.Stores[i].Node s = true
   ·rw [if_pos c, if_pos c, hy, z2y, z2y, tu1a, k64 (by omega) (by omega), k64 (by omega) (by omega), Int.add_assoc]
   ·rw [if_neg c, if_neg c, z2y, tu1a, k64 (by omega) (by omega), Int.add_zero]
  ·left
   have e : i = n.Stores.length := by omega
   subst e
   refine ⟨_, by rw [z0r, if_neg (by simp)], ?_⟩
   rw [<- hdl, z6y]
 obtain ⟨r, r1, rfl⟩ := key
 exact r1
theorem sumL (G : GoodN n) {s : zAd} {w : Int} (hw : -1500000 <= w /\ w <= 1500000) (hK : 200 < K) : z0o K n s K w 0 = some (w + GS (dL n) s) := by
 have hdl : (dL n).length = n.Loads.length := by simp [dL]
 have hgl := G.loads
 have hv : ∀ j (h : j < (dL n).length), -100000 <= ((dL n)[j]).2 /\ ((dL n)[j]).2 <= 100000 := fun j h => by
  have h' : j < n.Loads.length := by omega
  have := G.lo _ (List.getElem_mem h')
  simp only [dL, List.getElem_map]
  omega
 have key : ∃ r, z0o K n s K w 0 = some r /\ r = w + GS (dL n) s := by
  refine zag (fun k (q : Int × Int) => z0o K n s k q.1 q.2) (fun q => ∃ i : Nat, q.2 = i /\ i <= n.Loads.length /\ q.1 = w + GS ((dL n).take i) s) (fun q => (n.Loads.length + 1 - q.2 : Int).toNat) _ ?_ ((w, 0) : Int × Int) (by dsimp only; omega) ⟨0, rfl, by omega, by simp [GS]⟩
  rintro k ⟨w', _⟩ ⟨i, rfl, h0, rfl⟩
  dsimp only
  by_cases hi : i < n.Loads.length
  ·right
   have hx : idx n.Loads (i : Int) = some n.Loads[i] := z1c (zAh hi)
   have hB := z2b (xs := dL n) (i := i) (by omega) (fun j h _ => hv j h) s
   have hd := G.lo _ (List.getElem_mem hi)
   refine ⟨(w + GS ((dL n).take (i + 1)) s, (i : Int) + 1), ?_, by dsimp only; omega, i + 1, rfl, by omega, rfl⟩
   rw [z0o, if_pos (decide_eq_true (by omega)), hx, z2y, z7b (by omega)]
   simp only [dL, List.getElem_map] at hB ⊢
   by_cases c : sEq n.Loads[i].Node s = true
   ·rw [if_pos c, if_pos c, z2y, tu1a, k64 (by omega) (by omega), k64 (by omega) (by omega)]
    congr 1
    omega
   ·rw [if_neg c, if_neg c, z2y, tu1a, k64 (by omega) (by omega), Int.add_zero]
  ·left
   have e : i = n.Loads.length := by omega
   subst e
   refine ⟨_, by rw [z0o, if_neg (by simp)], ?_⟩
   rw [<- hdl, z6y]
 obtain ⟨r, r1, rfl⟩ := key
 exact r1
theorem zc2 {xs : List (zAd × Int)} (hv : ∀ j (h : j < xs.length), -100000 <= (xs[j]).2 /\ (xs[j]).2 <= 100000) (s : zAd) : -(100000 * (xs.length : Int)) <= GS xs s /\ GS xs s <= 100000 * (xs.length : Int) := by
 have := z2b (xs := xs) (i := xs.length) (Nat.le_refl _) (fun j h _ => hv j h) s
 rwa [z6y] at this
theorem z9b (G : GoodN n) {l : List Int} (hl : l.length = n.Gens.length) (hb : (bG n l).any id = false) (s : zAd) : -1000000 <= GS (dG n l) s /\ GS (dG n l) s <= 1000000 := by
 have hdl : (dG n l).length = n.Gens.length := by simp [dG, hl]
 have hbl : (bG n l).length = n.Gens.length := by simp [bG, hl]
 have hgl := G.gens
 have := zc2 (xs := dG n l) (fun j h => by
  have h' : j < n.Gens.length := by omega
  have hbj : (bG n l)[j]'(by omega) = false := by
   rw [List.any_eq_false] at hb
   simpa using hb _ (List.getElem_mem (by omega))
  simp only [bG, List.getElem_zipWith] at hbj
  simp only [dG, List.getElem_zipWith]
  exact okG (G.ge _ (List.getElem_mem h')) hbj) s
 omega
theorem zc3 (G : GoodN n) {l : List Int} (hl : l.length = n.Stores.length) (hb : (bS n l).any id = false) (s : zAd) : -400000 <= GS (dS n l) s /\ GS (dS n l) s <= 400000 := by
 have hdl : (dS n l).length = n.Stores.length := by simp [dS, hl]
 have hbl : (bS n l).length = n.Stores.length := by simp [bS, hl]
 have hgl := G.stores
 have := zc2 (xs := dS n l) (fun j h => by
  have h' : j < n.Stores.length := by omega
  have hbj : (bS n l)[j]'(by omega) = false := by
   rw [List.any_eq_false] at hb
   simpa using hb _ (List.getElem_mem (by omega))
  simp only [bS, List.getElem_zipWith] at hbj
  simp only [dS, List.getElem_zipWith]
  exact okS' (G.st _ (List.getElem_mem h')) hbj) s
 omega
def tot (n : Network) (a b : List Int) (s : zAd) : Int := GS (dG n a) s + GS (dS n b) s + GS (dL n) s
theorem zdd (G : GoodN n) {a b : List Int} (ha : a.length = n.Gens.length) (hb : b.length = n.Stores.length) (h1 : (bG n a).any id = false) (h2 : (bS n b).any id = false) (hK : 200 < K) :
  z0s K n a b K [] 0 0 = some (n.Nodes.map (tot n a b), if (n.Nodes.map (tot n a b)).any oor then 4 else 0) := by
 have hnl := G.nodes
 have key : ∃ r, z0s K n a b K [] 0 0 = some r /\ r = (n.Nodes.map (tot n a b), if (n.Nodes.map (tot n a b)).any oor then (4 : Int) else 0) := by
  refine zag (fun k (q : List Int × Int × Int) => z0s K n a b k q.1 q.2.1 q.2.2) (fun q => ∃ i : Nat, q.2.2 = i /\ i <= n.Nodes.length /\ q.1 = (n.Nodes.take i).map (tot n a b) /\ q.2.1 = if ((n.Nodes.take i).map (tot n a b)).any oor then 4 else 0) (fun q => (n.Nodes.length + 1 - q.2.2 : Int).toNat) _ ?_ (([], 0, 0) : List Int × Int × Int) (by dsimp only; omega) ⟨0, rfl, by omega, by simp, by simp⟩
  rintro k ⟨out, w, _⟩ ⟨i, rfl, h0, rfl, rfl⟩
  dsimp only
  by_cases hi : i < n.Nodes.length
  ·right
   have hx : idx n.Nodes (i : Int) = some n.Nodes[i] := z1c (zAh hi)
   have b1 := z9b G ha h1 n.Nodes[i]
   have b2 := zc3 G hb h2 n.Nodes[i]
   have s1 := sumG (K := K) (s := n.Nodes[i]) G ha h1 hK
   have s2 := sumS (K := K) (s := n.Nodes[i]) G b1 hb h2 hK
   have s3 := sumL (K := K) (n := n) (s := n.Nodes[i]) (w := GS (dG n a) n.Nodes[i] + GS (dS n b) n.Nodes[i]) G (by omega) hK
   have hc : (if decide (tot n a b n.Nodes[i] < (-100000)) = true then some true else some (decide (tot n a b n.Nodes[i] > 100000))) = some (oor (tot n a b n.Nodes[i])) := by unfold oor; cases decide (tot n a b n.Nodes[i] < (-100000)) <;> simp
   have ht : (n.Nodes.take (i + 1)).map (tot n a b) = (n.Nodes.take i).map (tot n a b) ++ [tot n a b n.Nodes[i]] := by rw [List.take_add_one, zAh hi, List.map_append]; rfl
   refine ⟨((n.Nodes.take (i + 1)).map (tot n a b), (if ((n.Nodes.take (i + 1)).map (tot n a b)).any oor then 4 else 0), (i : Int) + 1), ?_, by dsimp only; omega, i + 1, rfl, by omega, rfl, rfl⟩
   rw [z0s, if_pos (decide_eq_true (by omega)), hx, z2y, s1, z2y, tu1a, s2, z2y, tu1a, s3, z2y, tu1a]
   rw [show GS (dG n a) n.Nodes[i] + GS (dS n b) n.Nodes[i] + GS (dL n) n.Nodes[i] = tot n a b n.Nodes[i] from rfl, hc, z2y, tu1a, ht, List.any_append, k64 (by omega) (by omega)]
   have hle : ((n.Nodes.take i).map (tot n a b)).length + [tot n a b n.Nodes[i]].length <= 16777216 := by simp; omega
   simp only [if_pos hle, List.any_cons, List.any_nil, Bool.or_false]
   cases oor (tot n a b n.Nodes[i]) <;> cases ((n.Nodes.take i).map (tot n a b)).any oor <;> rfl
  ·left
   have e : i = n.Nodes.length := by omega
   subst e
   exact ⟨_, by rw [z0s, if_neg (by simp)], by rw [List.take_of_length_le (Nat.le_refl _)]⟩
 obtain ⟨r, r1, rfl⟩ := key
 exact r1
theorem zet {l : List Int} (hl : l.length <= 1000) (hK : 2000 < K) : z1j K l l = some true := by
 have key : ∃ r, z0i K l l K 0 = some r /\ r = .inr () := by
  refine zag (fun k (s : Int) => z0i K l l k s) (fun s => ∃ i : Nat, s = i /\ i <= l.length) (fun s => (l.length + 1 - s : Int).toNat) _ ?_ (0 : Int) (by omega) ⟨0, rfl, by omega⟩
  rintro k _ ⟨i, rfl, h0⟩
  by_cases hi : i < l.length
  ·right
   have hx : idx l (i : Int) = some l[i] := z1c (zAh hi)
   refine ⟨(i : Int) + 1, ?_, by omega, i + 1, rfl, by omega⟩
   rw [z0i, if_pos (decide_eq_true (by omega)), hx, z2y, z2y, if_neg (by simp), k64 (by omega) (by omega)]
  ·left
   exact ⟨.inr (), by rw [z0i, if_neg (by simp; omega)], rfl⟩
 obtain ⟨r, r1, rfl⟩ := key
 unfold z1j
 rw [if_neg (by simp), r1]
 rfl
theorem z6z {n : Network} {a b : List Int} {K : Nat} (F : Fits K n) (hK : 2000 < K) (hl : a.length <= 1048576 /\ b.length <= 1048576) : z24 K n a b = some true := by
 have hK2 : 200 < K := by omega
 unfold z24
 rw [show z46 K = some true from rfl, z2y, if_neg (by simp), zfv F]
 have hI : z3d K n a b = (if (netS n != 0) = true then some ([], netS n) else (Option.bind ((if ((List.length a : Int) != (List.length n.Gens : Int)) = true then some true else some ((List.length b : Int) != (List.length n.Stores : Int)))) (tu1 fun x38 => (if x38 = true then some ([], 3) else (if 0 <= (List.length n.Nodes : Int) /\ (List.length n.Nodes : Int) <= (List.length n.Nodes : Int) /\ (List.length n.Nodes : Int) <= 16777216 then (z42 (z0y K n a K (List.replicate (Int.toNat (List.length n.Nodes : Int)) 0) 0) (tu2 fun a422 a423 => some (a422, a423)) (tu1 fun x184 => (z42 (z0t K n b K x184 0) (tu2 fun a420 a421 => some (a420, a421)) (tu1 fun x293 => (Option.bind (z0z K n K x293 0) (tu1 fun x355 => (z42 (z10 K x355 K 0) (tu2 fun a418 a419 => some (a418, a419)) (tu0 (some (x355, 0)))))))))) else none))))) := by
  unfold z3d
  rw [zbx F, z2y]
 rw [hI]
 by_cases h0 : netS n = 0
 ·have G := zh6 h0
  have hnl := G.nodes
  have hz : (netS n != 0) = false := by simp [h0]
  by_cases hd : a.length ≠ n.Gens.length \/ b.length ≠ n.Stores.length
  ·have hq : (if ((a.length : Int) != (n.Gens.length : Int)) = true then some true else some ((b.length : Int) != (n.Stores.length : Int))) = some true := by
    by_cases c : a.length = n.Gens.length
    ·have c2 : b.length ≠ n.Stores.length := hd.resolve_left (fun k => k c)
     have : ((b.length : Int) != (n.Stores.length : Int)) = true := by rw [bne_iff_ne]; omega
     rw [c, this]; simp
    ·have : ((a.length : Int) != (n.Gens.length : Int)) = true := by rw [bne_iff_ne]; omega
     rw [this]; rfl
   rw [hz, hq, h0]
   simp [z2y, tu1a, tu2a]
  ·have ha : a.length = n.Gens.length := Decidable.byContradiction fun c => hd (.inl c)
   have hb : b.length = n.Stores.length := Decidable.byContradiction fun c => hd (.inr c)
   have hq : (if ((a.length : Int) != (n.Gens.length : Int)) = true then some true else some ((b.length : Int) != (n.Stores.length : Int))) = some false := by rw [ha, hb]; simp
   have hrep : List.replicate (Int.toNat (n.Nodes.length : Int)) (0 : Int) = n.Nodes.map (GS []) := by
    rw [Int.toNat_natCast]
    refine List.ext_getElem (by simp) fun j h1 h2 => ?_
    simp [GS]
   rw [hz, hq, h0, hrep, zdc G ha hK2]
   simp only [z2y, tu1a, if_false, Bool.false_eq_true, if_pos (show 0 <= (n.Nodes.length : Int) /\ (n.Nodes.length : Int) <= (n.Nodes.length : Int) /\ (n.Nodes.length : Int) <= 16777216 by omega)]
   have g1 := zes (K := K) G ha hK2
   have g2 : ∀ w, z0m K n b K w 0 = some (if (bS n b).any id then 17 else w) := fun w => zc1 (K := K) G hb hK2
   cases h1 : (bG n a).any id with
   | true =>
    rw [h1] at g1
    cases h2 : (bS n b).any id <;> simp [z2y, tu1a, tu2a, zdb, g1, g2, h2]
   | false =>
    rw [h1] at g1
    have p2 := zae (K := K) (F := GS (dG n a)) G (fun s => z9b G ha h1 s) hb hK2
    cases h2 : (bS n b).any id with
    | true =>
     rw [h2] at p2
     simp [z2y, tu1a, tu2a, zdb, zeo, p2, g1, g2, h2]
    | false =>
     rw [h2] at p2
     have p3 := zbz (K := K) (n := n) (F := fun s => GS (dG n a) s + GS (dS n b) s) G (fun s => by
      have := z9b G ha h1 s
      have := zc3 G hb h2 s
      omega) hK2
     have p4 := zc0 (K := K) (l := n.Nodes.map (tot n a b)) (by simpa using hnl) hK2
     have p5 := zdd (K := K) G ha hb h1 h2 hK2
     have p6 := zet (K := K) (l := n.Nodes.map (tot n a b)) (by simp; omega) hK
     have p3' : z0z K n K (n.Nodes.map fun s => GS (dG n a) s + GS (dS n b) s) 0 = some (n.Nodes.map (tot n a b)) := p3
     have p2' : z0t K n b K (n.Nodes.map (GS (dG n a))) 0 = some (.inr (n.Nodes.map fun s => GS (dG n a) s + GS (dS n b) s)) := p2
     cases h3 : (n.Nodes.map (tot n a b)).any oor with
     | true =>
      rw [h3] at p4 p5
      simp [z2y, tu1a, tu2a, zdb, zeo, p2', p3', p4, p5, p6, g1, g2, h2]
     | false =>
      rw [h3] at p4 p5
      simp [z2y, tu1a, tu2a, tu0a, zdb, zeo, p2', p3', p4, p5, p6, g1, g2, h2]
 ·have hz : (netS n != 0) = true := by simpa using h0
  simp [hz, h0, z2y, tu1a, tu2a]
end
def zc4 (B : Nat) (x : Switch) : Prop := x.Name.size <= B /\ x.A.size <= B /\ x.B.size <= B /\ True /\ True
def zc5 (B : Nat) (x : Branch) : Prop := x.Name.size <= B /\ x.From.size <= B /\ x.To.size <= B /\ z3h .i64 x.X = true /\ z3h .i64 x.Tap = true /\ z3h .i64 x.Shift = true /\ z3h .i64 x.Limit = true /\ z3h .i64 x.Short = true /\ z3h .i64 x.Hold = true
def zh0 (B : Nat) (x : Gen) : Prop := x.Name.size <= B /\ x.Node.size <= B /\ z3h .i64 x.Least = true /\ z3h .i64 x.Most = true /\ z3h .i64 x.Ramp = true
def zdl (B : Nat) (x : Load_) : Prop := x.Name.size <= B /\ x.Node.size <= B /\ z3h .i64 x.Demand = true
def zdm (B : Nat) (x : Store) : Prop := x.Name.size <= B /\ x.Node.size <= B /\ z3h .i64 x.Charge = true /\ z3h .i64 x.Discharge = true /\ z3h .i64 x.Capacity = true
def z9x (B : Nat) (x : Network) : Prop := (x.Nodes.length <= B /\ ∀ y ∈ x.Nodes, y.size <= B) /\ (x.Switches.length <= B /\ ∀ y ∈ x.Switches, zc4 B y) /\ (x.Branches.length <= B /\ ∀ y ∈ x.Branches, zc5 B y) /\ (x.Gens.length <= B /\ ∀ y ∈ x.Gens, zh0 B y) /\ (x.Loads.length <= B /\ ∀ y ∈ x.Loads, zdl B y) /\ (x.Stores.length <= B /\ ∀ y ∈ x.Stores, zdm B y)
theorem z70 {n : Network} {a b : List Int} (h : z9x 1048576 n) (ha : a.length <= 1048576 /\ ∀ y ∈ a, z3h .i64 y = true) (hb : b.length <= 1048576 /\ ∀ y ∈ b, z3h .i64 y = true) : ∃ K, z24 K n a b = some true := by
 obtain ⟨h1, h2, h3, h4, h5, h6⟩ := h
 have sh : ∀ s : zAd, s.size <= 1048576 -> Sh 1048577 s := fun s h => ⟨by omega, h⟩
 have F : Fits 1048577 n := ⟨by omega, fun s q => sh s (h1.2 s q), fun x q => sh _ (h2.2 x q).1, fun x q => sh _ (h3.2 x q).1, fun x q => sh _ (h4.2 x q).1, fun x q => sh _ (h5.2 x q).1, fun x q => sh _ (h6.2 x q).1⟩
 exact ⟨1048577, z6z F (by omega) ⟨ha.1, hb.1⟩⟩
end Go.Am.Tryz
/- From a statement's arguments, read as data, to typed data. -/
namespace Go.Am
open Go Go.Proofs.YtkpapdbklbclhaaGreatDoor
section
variable {H : Type} {P : Program} {G : GM} {n B : Nat} {t e : TypeId} {α β S : Type} {r : RT α} {s : RT β} {I : α -> Prop} {J : β -> Prop}
theorem zeu {H : Type} (d : DataW H) : 1 <= Rows.uptoBulk d := by
 cases d with
 | lit l => cases l <;> simp [Rows.uptoBulk]
 | _ => simp [Rows.uptoBulk]
theorem zc6 {H : Type} : ∀ (ds : List (DataW H)), ds.length <= Rows.uptoBulkAll ds
 | [] => Nat.zero_le _
 | d :: r => by
  have := zc6 r
  have := zeu d
  simp only [Rows.uptoBulkAll, List.length_cons]; omega
def Arg (H : Type) (P : Program) (G : GM) (n : Nat) (t : TypeId) (r : RT α) (B : Nat) (I : α -> Prop) : Prop := ∀ (cs : List Value) (d : DataW H), AData P G n t cs d -> Rows.uptoBulk d <= B -> ∃ x, r.rep G cs x /\ I x
def ArgS (H : Type) (P : Program) (G : GM) (n : Nat) (ts : List TypeId) (r : RT α) (B : Nat) (I : α -> Prop) : Prop :=
 ∀ (css : List (List Value)) (ds : List (DataW H)), AllD (AData P G n) P.cellsOf ts css ds -> Rows.uptoBulkAll ds <= B -> ∃ x, r.rep G css.flatten x /\ I x
theorem zev {k : IntKind} {x : Int} (h : (Lit.int k x).wf = true) : z3h k x = true := by
 cases k <;> simp [Lit.wf, IntKind.min, IntKind.max, IntKind.signed, IntKind.bits] at h <;> simp [z3h] <;> omega
theorem Arg.mono {I J : α -> Prop} (h : Arg H P G n t r B I) (k : ∀ x, I x -> J x) : Arg H P G n t r B J := fun cs d hd hb => by
 obtain ⟨x, h1, h2⟩ := h cs d hd hb
 exact ⟨x, h1, k x h2⟩
theorem Arg.int {k : IntKind} (hu : P.underlying t = some (.int k)) : Arg H P G (n + 1) t (rI k) B (fun x => z3h k x = true) := fun cs d h _ => by
 unfold AData at h
 simp only [hu] at h
 obtain ⟨x, h1, h2, h3⟩ := h
 exact ⟨x, h1, zev h3⟩
theorem Arg.bool (hu : P.underlying t = some .bool) : Arg H P G (n + 1) t rB B (fun _ => True) := fun cs d h _ => by
 unfold AData at h
 simp only [hu] at h
 obtain ⟨x, h1, _⟩ := h
 exact ⟨x, h1, trivial⟩
theorem Arg.str (hu : P.underlying t = some .string) : Arg H P G (n + 1) t rS B (fun x => x.size <= B) := fun cs d h hb => by
 unfold AData at h
 simp only [hu] at h
 obtain ⟨x, h1, h2, _⟩ := h
 refine ⟨x, h1, ?_⟩
 rw [h2] at hb
 simp only [Rows.uptoBulk, Array.length_toList] at hb
 have : x.data.size = x.size := rfl
 omega
theorem z84 (h : Arg H P G n e r B I) : ∀ (k : Nat) (css : List (List Value)) (ds : List (DataW H)), AllD (AData P G n) P.cellsOf (List.replicate k e) css ds -> Rows.uptoBulkAll ds <= B -> ∃ xs : List α, All2 (r.rep G) css xs /\ (∀ x ∈ xs, I x) /\ xs.length = k
 | 0, [], [], _, _ => ⟨[], .nil, by simp, rfl⟩
 | 0, _ :: _, _, h, _ => by simp [List.replicate, AllD] at h
 | 0, [], _ :: _, h, _ => by simp [List.replicate, AllD] at h
 | k + 1, [], _, h, _ => by simp [List.replicate, AllD] at h
 | k + 1, _ :: _, [], h, _ => by simp [List.replicate, AllD] at h
 | k + 1, c :: css, d :: ds, hA, hb => by
  simp only [List.replicate, AllD] at hA
  simp only [Rows.uptoBulkAll] at hb
  obtain ⟨x, h1, h2⟩ := h _ _ hA.1.1 (by omega)
  obtain ⟨xs, h3, h4, h5⟩ := z84 h k css ds hA.2 (by omega)
  refine ⟨x :: xs, .cons h1 h3, fun y hy => ?_, by simp [h5]⟩
  rcases List.mem_cons.1 hy with rfl | hy
  ·exact h2
  ·exact h4 y hy
theorem z9y {R : TypeId -> List Value -> DataW H -> Prop} {sz : TypeId -> Nat} : ∀ (k : Nat) {ts : List TypeId} {cs : List (List Value)} {ds : List (DataW H)}, AllD R sz ts cs ds -> AllD R sz (ts.take k) (cs.take k) (ds.take k)
 | 0, _, _, _, _ => by simp [AllD]
 | k + 1, [], [], [], _ => by simp [AllD]
 | k + 1, _ :: _, _ :: _, _ :: _, h => by simp only [List.take_succ_cons]; exact ⟨h.1, z9y k h.2⟩
theorem zc7 {R : TypeId -> List Value -> DataW H -> Prop} {sz : TypeId -> Nat} {e : TypeId} : ∀ (k : Nat) (css : List (List Value)) (ds : List (DataW H)), AllD R sz (List.replicate k e) css ds -> ∀ c ∈ css, c.length = sz e
 | 0, [], [], _, c, hc => by simp at hc
 | 0, _ :: _, _, h, _, _ => by simp [List.replicate, AllD] at h
 | 0, [], _ :: _, h, _, _ => by simp [List.replicate, AllD] at h
 | k + 1, [], _, h, _, _ => by simp [List.replicate, AllD] at h
 | k + 1, _ :: _, [], h, _, _ => by simp [List.replicate, AllD] at h
 | k + 1, c :: css, d :: ds, hA, u, hu => by
  simp only [List.replicate, AllD] at hA
  rcases List.mem_cons.1 hu with rfl | hu
  ·exact hA.1.2
  ·exact zc7 k css ds hA.2 u hu
theorem Arg.sl (hu : P.underlying t = some (.slice e)) (h : Arg H P G n e r B I) : Arg H P G (n + 1) t (rSl r) B (fun xs => xs.length <= B /\ ∀ x ∈ xs, I x) := fun cs d hA hb => by
 unfold AData at hA
 simp only [hu] at hA
 rcases hA with ⟨h1, h2⟩ | ⟨b, len, cap, elems, spare, css, h1, h2, h3, h4, _, h6, h7⟩
 ·subst h1
  exact ⟨[], zdz, Nat.zero_le _, by simp⟩
 ·subst h2
  simp only [Rows.uptoBulk] at hb
  have hlen := zc6 elems
  have h8 := z9y len h7
  rw [List.take_replicate, show min len cap = len by omega, <- h3, List.take_left] at h8
  obtain ⟨xs, k1, k2, k3⟩ := z84 h elems.length (css.take elems.length) elems h8 (by omega)
  refine ⟨xs, ?_, by omega, k2⟩
  have hcl := zc7 _ _ _ h7
  have hel := k1.length
  by_cases hz : elems.length = 0
  ·have hx : xs = [] := List.length_eq_zero_iff.1 (by omega)
   subst hx
   refine ⟨_, [], h1, ⟨by simp, .inr (.inr ⟨b, 0, some 0, cap, by rw [<- h3, hz], rfl, .inr rfl⟩)⟩, .nil⟩
  ·rcases h6 with h6 | ⟨x, g1, _, g3⟩
   ·omega
   ·refine ⟨_, css.take elems.length, h1, ⟨k1.each, .inr (.inl ⟨b, 0, some 0, cap, x, by rw [hel, k3, <- h3], g1, ?_, ?_, by rw [hel, k3]; omega, .inr rfl⟩)⟩, k1⟩
    ·rw [g3]
     have h9 : css.flatten = (css.take elems.length).flatten ++ (css.drop elems.length).flatten := by rw [<- List.flatten_append, List.take_append_drop]
     rw [h9, List.length_append, k1.flatLen, hel]; omega
    ·rw [g3, List.drop_zero]
     have h9 : css.flatten = (css.take elems.length).flatten ++ (css.drop elems.length).flatten := by rw [<- List.flatten_append, List.take_append_drop]
     have h10 : (css.take elems.length).length * r.sz = (css.take elems.length).flatten.length := by rw [k1.flatLen, hel]
     rw [h9, h10, List.take_left]
theorem Arg.arr {k : Nat} (hu : P.underlying t = some (.array k e)) (h : Arg H P G n e r B I) : Arg H P G (n + 1) t (rArr k r) B (fun xs => xs.length = k /\ ∀ x ∈ xs, I x) := fun cs d hA hb => by
 unfold AData at hA
 simp only [hu] at hA
 obtain ⟨css, parts, h1, h2, h3⟩ := hA
 subst h2
 simp only [Rows.uptoBulk] at hb
 obtain ⟨xs, k1, k2, k3⟩ := z84 h k css parts h3 (by omega)
 exact ⟨xs, ⟨k3, css, h1, k1⟩, k3, k2⟩
theorem ArgS.one (h : Arg H P G n t r B I) : ArgS H P G n [t] r B I := fun css ds hA hb => by
 match css, ds, hA with
 | [c], [d], hA =>
  simp only [Rows.uptoBulkAll] at hb
  obtain ⟨x, h1, h2⟩ := h c d hA.1.1 (by omega)
  exact ⟨x, by simpa using h1, h2⟩
 | [], _, hA => simp [AllD] at hA
 | _ :: _ :: _, [], hA => simp [AllD] at hA
 | _ :: _ :: _, [_], hA => simp [AllD] at hA
 | _ :: _ :: _, _ :: _ :: _, hA => simp [AllD] at hA
 | [_], [], hA => simp [AllD] at hA
 | [_], _ :: _ :: _, hA => simp [AllD] at hA
theorem ArgS.cons {ts : List TypeId} (h : Arg H P G n t r B I) (k : ArgS H P G n ts s B J) : ArgS H P G n (t :: ts) (rP r s) B (fun x => I x.1 /\ J x.2) := fun css ds hA hb => by
 match css, ds, hA with
 | c :: css, d :: ds, hA =>
  simp only [Rows.uptoBulkAll] at hb
  obtain ⟨x, h1, h2⟩ := h c d hA.1.1 (by omega)
  obtain ⟨y, h3, h4⟩ := k css ds hA.2 (by omega)
  exact ⟨(x, y), ⟨c, css.flatten, by simp, h1, h3⟩, h2, h4⟩
 | [], _, hA => simp [AllD] at hA
 | _ :: _, [], hA => simp [AllD] at hA
theorem Arg.struct {fs : Array Field} {ts : List TypeId} (hu : P.underlying t = some (.struct fs)) (hts : fs.toList.map (·.type) = ts) (h : ArgS H P G n ts r B I) (f : S -> α) (g : α -> S) (hg : ∀ p, f (g p) = p) : Arg H P G (n + 1) t (rIso r f) B (fun x => I (f x)) := fun cs d hA hb => by
 unfold AData at hA
 simp only [hu] at hA
 obtain ⟨css, parts, h1, h2, h3⟩ := hA
 subst h2
 simp only [Rows.uptoBulk] at hb
 rw [hts] at h3
 obtain ⟨p, k1, k2⟩ := h css parts h3 (by omega)
 exact ⟨g p, by rw [h1]; show r.rep G css.flatten (f (g p)); rw [hg]; exact k1, by show I (f (g p)); rw [hg]; exact k2⟩
theorem AArgs.cons_inv {ts : List TypeId} {avs : List Value} {ds : List (DataW H)} (h : AArgs P G n (t :: ts) avs ds) : ∃ v vs d dr, avs = v :: vs /\ ds = d :: dr /\ AVal P G n t v d /\ AArgs P G n ts vs dr := by
 match avs, ds, h with
 | v :: vs, d :: dr, h => exact ⟨v, vs, d, dr, rfl, rfl, h.1, h.2⟩
 | [], _, h => simp [AArgs] at h
 | _ :: _, [], h => simp [AArgs] at h
theorem AArgs.nil_inv {avs : List Value} {ds : List (DataW H)} (h : AArgs P G n [] avs ds) : avs = [] /\ ds = [] := by
 match avs, ds, h with
 | [], [], h => exact ⟨rfl, rfl⟩
 | [], _ :: _, h => simp [AArgs] at h
 | _ :: _, _, h => simp [AArgs] at h
theorem AVal.one {v : Value} {d : DataW H} (hu : z22 P t = some false) (h : AVal P G n t v d) : AData P G n t [v] d := by
 unfold AVal at h
 unfold z22 at hu
 split at h
 ·rename_i q; rw [q] at hu; cases hu
 ·rename_i q; rw [q] at hu; cases hu
 ·exact h
theorem AVal.agg {v : Value} {d : DataW H} (hu : z22 P t = some true) (h : AVal P G n t v d) : ∃ cs, v = .agg (List.toArray cs) /\ AData P G n t cs d := by
 unfold AVal at h
 unfold z22 at hu
 split at h
 ·exact h
 ·exact h
 ·rename_i q1 q2
  split at hu
  ·rename_i q; exact absurd q (q1 _)
  ·rename_i q; exact absurd q (q2 _ _)
  ·cases hu
  ·cases hu
theorem Ow.empty (A : AH) : Ow A.get A [] := ⟨fun _ _ h => h, fun i e h => by simp at h, fun i j e e' _ h => by simp at h, fun i e h => by simp at h⟩
theorem CR.done {f : FuncId} {args : List Value} {A : AH} {b : Value} (h : CR P f args A.get A [] fun v _ _ => v = b) : ∃ A', ACalls P f args A b A' := by
 obtain ⟨v, H', G', h1, _, _, rfl⟩ := h
 exact ⟨H', h1⟩
end
end Go.Am
/- FlowInjects over the statement's reading of its arguments. -/
namespace Go.Am.Tryz
open Go Go.Am Go.Proofs Go.Proofs.YtkpapdbklbclhaaGreatDoor
theorem zew {H : Type} {G : GM} {B n : Nat} : Arg H Tryz.prog G (n + 2) 67 T_Switch B (zc4 B) := by
 have h : ArgS H Tryz.prog G (n + 1) [9, 9, 9, 4, 4] _ B _ := (ArgS.cons (Arg.str (t := 9) (by kernel_rfl)) (ArgS.cons (Arg.str (t := 9) (by kernel_rfl)) (ArgS.cons (Arg.str (t := 9) (by kernel_rfl)) (ArgS.cons (Arg.bool (t := 4) (by kernel_rfl)) (ArgS.one (Arg.bool (t := 4) (by kernel_rfl)))))))
 exact Arg.mono (Arg.struct (fs := #[{ name := "Name", type := 9, offset := 0, embedded := false, tag := "", pkgPath := "", byteOffset := 0 }, { name := "A", type := 9, offset := 1, embedded := false, tag := "", pkgPath := "", byteOffset := 16 }, { name := "B", type := 9, offset := 2, embedded := false, tag := "", pkgPath := "", byteOffset := 32 }, { name := "Breaker", type := 4, offset := 3, embedded := false, tag := "", pkgPath := "", byteOffset := 48 }, { name := "Open", type := 4, offset := 4, embedded := false, tag := "", pkgPath := "", byteOffset := 49 }]) (by kernel_rfl) rfl h _ (fun p : zAd × zAd × zAd × Bool × Bool => Switch.mk p.1 p.2.1 p.2.2.1 p.2.2.2.1 p.2.2.2.2) (fun _ => rfl)) fun _ h => h
theorem zex {H : Type} {G : GM} {B n : Nat} : Arg H Tryz.prog G (n + 2) 65 T_Branch B (zc5 B) := by
 have h : ArgS H Tryz.prog G (n + 1) [9, 9, 9, 3, 3, 3, 3, 3, 3] _ B _ := (ArgS.cons (Arg.str (t := 9) (by kernel_rfl)) (ArgS.cons (Arg.str (t := 9) (by kernel_rfl)) (ArgS.cons (Arg.str (t := 9) (by kernel_rfl)) (ArgS.cons (Arg.int (t := 3) (k := .i64) (by kernel_rfl)) (ArgS.cons (Arg.int (t := 3) (k := .i64) (by kernel_rfl)) (ArgS.cons (Arg.int (t := 3) (k := .i64) (by kernel_rfl)) (ArgS.cons (Arg.int (t := 3) (k := .i64) (by kernel_rfl)) (ArgS.cons (Arg.int (t := 3) (k := .i64) (by kernel_rfl)) (ArgS.one (Arg.int (t := 3) (k := .i64) (by kernel_rfl)))))))))))
 exact Arg.mono (Arg.struct (fs := #[{ name := "Name", type := 9, offset := 0, embedded := false, tag := "", pkgPath := "", byteOffset := 0 }, { name := "From", type := 9, offset := 1, embedded := false, tag := "", pkgPath := "", byteOffset := 16 }, { name := "To", type := 9, offset := 2, embedded := false, tag := "", pkgPath := "", byteOffset := 32 }, { name := "X", type := 3, offset := 3, embedded := false, tag := "", pkgPath := "", byteOffset := 48 }, { name := "Tap", type := 3, offset := 4, embedded := false, tag := "", pkgPath := "", byteOffset := 56 }, { name := "Shift", type := 3, offset := 5, embedded := false, tag := "", pkgPath := "", byteOffset := 64 }, { name := "Limit", type := 3, offset := 6, embedded := false, tag := "", pkgPath := "", byteOffset := 72 }, { name := "Short", type := 3, offset := 7, embedded := false, tag := "", pkgPath := "", byteOffset := 80 }, { name := "Hold", type := 3, offset := 8, embedded := false, tag := "", pkgPath := "", byteOffset := 88 }]) (by kernel_rfl) rfl h _ (fun p : zAd × zAd × zAd × Int × Int × Int × Int × Int × Int => Branch.mk p.1 p.2.1 p.2.2.1 p.2.2.2.1 p.2.2.2.2.1 p.2.2.2.2.2.1 p.2.2.2.2.2.2.1 p.2.2.2.2.2.2.2.1 p.2.2.2.2.2.2.2.2) (fun _ => rfl)) fun _ h => h
theorem zh7 {H : Type} {G : GM} {B n : Nat} : Arg H Tryz.prog G (n + 2) 37 T_Gen B (zh0 B) := by
 have h : ArgS H Tryz.prog G (n + 1) [9, 9, 3, 3, 3] _ B _ := (ArgS.cons (Arg.str (t := 9) (by kernel_rfl)) (ArgS.cons (Arg.str (t := 9) (by kernel_rfl)) (ArgS.cons (Arg.int (t := 3) (k := .i64) (by kernel_rfl)) (ArgS.cons (Arg.int (t := 3) (k := .i64) (by kernel_rfl)) (ArgS.one (Arg.int (t := 3) (k := .i64) (by kernel_rfl)))))))
 exact Arg.mono (Arg.struct (fs := #[{ name := "Name", type := 9, offset := 0, embedded := false, tag := "", pkgPath := "", byteOffset := 0 }, { name := "Node", type := 9, offset := 1, embedded := false, tag := "", pkgPath := "", byteOffset := 16 }, { name := "Least", type := 3, offset := 2, embedded := false, tag := "", pkgPath := "", byteOffset := 32 }, { name := "Most", type := 3, offset := 3, embedded := false, tag := "", pkgPath := "", byteOffset := 40 }, { name := "Ramp", type := 3, offset := 4, embedded := false, tag := "", pkgPath := "", byteOffset := 48 }]) (by kernel_rfl) rfl h _ (fun p : zAd × zAd × Int × Int × Int => Gen.mk p.1 p.2.1 p.2.2.1 p.2.2.2.1 p.2.2.2.2) (fun _ => rfl)) fun _ h => h
theorem zfy {H : Type} {G : GM} {B n : Nat} : Arg H Tryz.prog G (n + 2) 41 T_Load_ B (zdl B) := by
 have h : ArgS H Tryz.prog G (n + 1) [9, 9, 3] _ B _ := (ArgS.cons (Arg.str (t := 9) (by kernel_rfl)) (ArgS.cons (Arg.str (t := 9) (by kernel_rfl)) (ArgS.one (Arg.int (t := 3) (k := .i64) (by kernel_rfl)))))
 exact Arg.mono (Arg.struct (fs := #[{ name := "Name", type := 9, offset := 0, embedded := false, tag := "", pkgPath := "", byteOffset := 0 }, { name := "Node", type := 9, offset := 1, embedded := false, tag := "", pkgPath := "", byteOffset := 16 }, { name := "Demand", type := 3, offset := 2, embedded := false, tag := "", pkgPath := "", byteOffset := 32 }]) (by kernel_rfl) rfl h _ (fun p : zAd × zAd × Int => Load_.mk p.1 p.2.1 p.2.2) (fun _ => rfl)) fun _ h => h
theorem zfz {H : Type} {G : GM} {B n : Nat} : Arg H Tryz.prog G (n + 2) 39 T_Store B (zdm B) := by
 have h : ArgS H Tryz.prog G (n + 1) [9, 9, 3, 3, 3] _ B _ := (ArgS.cons (Arg.str (t := 9) (by kernel_rfl)) (ArgS.cons (Arg.str (t := 9) (by kernel_rfl)) (ArgS.cons (Arg.int (t := 3) (k := .i64) (by kernel_rfl)) (ArgS.cons (Arg.int (t := 3) (k := .i64) (by kernel_rfl)) (ArgS.one (Arg.int (t := 3) (k := .i64) (by kernel_rfl)))))))
 exact Arg.mono (Arg.struct (fs := #[{ name := "Name", type := 9, offset := 0, embedded := false, tag := "", pkgPath := "", byteOffset := 0 }, { name := "Node", type := 9, offset := 1, embedded := false, tag := "", pkgPath := "", byteOffset := 16 }, { name := "Charge", type := 3, offset := 2, embedded := false, tag := "", pkgPath := "", byteOffset := 32 }, { name := "Discharge", type := 3, offset := 3, embedded := false, tag := "", pkgPath := "", byteOffset := 40 }, { name := "Capacity", type := 3, offset := 4, embedded := false, tag := "", pkgPath := "", byteOffset := 48 }]) (by kernel_rfl) rfl h _ (fun p : zAd × zAd × Int × Int × Int => Store.mk p.1 p.2.1 p.2.2.1 p.2.2.2.1 p.2.2.2.2) (fun _ => rfl)) fun _ h => h
theorem zde {H : Type} {G : GM} {B n : Nat} : Arg H Tryz.prog G (n + 4) 29 T_Network B (z9x B) := by
 have h : ArgS H Tryz.prog G (n + 3) [22, 23, 24, 25, 26, 27] _ B _ := (ArgS.cons (Arg.sl (t := 22) (e := 9) (by kernel_rfl) (Arg.str (t := 9) (by kernel_rfl))) (ArgS.cons (Arg.sl (t := 23) (e := 67) (by kernel_rfl) zew) (ArgS.cons (Arg.sl (t := 24) (e := 65) (by kernel_rfl) zex) (ArgS.cons (Arg.sl (t := 25) (e := 37) (by kernel_rfl) zh7) (ArgS.cons (Arg.sl (t := 26) (e := 41) (by kernel_rfl) zfy) (ArgS.one (Arg.sl (t := 27) (e := 39) (by kernel_rfl) zfz)))))))
 exact Arg.mono (Arg.struct (fs := #[{ name := "Nodes", type := 22, offset := 0, embedded := false, tag := "", pkgPath := "", byteOffset := 0 }, { name := "Switches", type := 23, offset := 1, embedded := false, tag := "", pkgPath := "", byteOffset := 24 }, { name := "Branches", type := 24, offset := 2, embedded := false, tag := "", pkgPath := "", byteOffset := 48 }, { name := "Gens", type := 25, offset := 3, embedded := false, tag := "", pkgPath := "", byteOffset := 72 }, { name := "Loads", type := 26, offset := 4, embedded := false, tag := "", pkgPath := "", byteOffset := 96 }, { name := "Stores", type := 27, offset := 5, embedded := false, tag := "", pkgPath := "", byteOffset := 120 }]) (by kernel_rfl) rfl h _ (fun p : List zAd × List Switch × List Branch × List Gen × List Load_ × List Store => Network.mk p.1 p.2.1 p.2.2.1 p.2.2.2.1 p.2.2.2.2.1 p.2.2.2.2.2) (fun _ => rfl)) fun _ h => h
theorem flowInjects {H : Type} (A : AH) (avs : List Value) (ds : List (DataW H)) (hb : Rows.uptoBulkAll ds <= 1048576) (ha : AArgs Tryz.prog A.get 4 [29, 30, 30] avs ds) : ∃ A', ACalls Tryz.prog 3 avs A (.bool true) A' := by
 obtain ⟨v0, vs0, d0, ds0, rfl, rfl, a0, ha⟩ := AArgs.cons_inv ha
 obtain ⟨v1, vs1, d1, ds1, rfl, rfl, a1, ha⟩ := AArgs.cons_inv ha
 obtain ⟨v2, vs2, d2, ds2, rfl, rfl, a2, ha⟩ := AArgs.cons_inv ha
 obtain ⟨rfl, rfl⟩ := AArgs.nil_inv ha
 simp only [Rows.uptoBulkAll] at hb
 obtain ⟨c0, e0, b0⟩ := AVal.agg (by kernel_rfl) a0
 obtain ⟨x0, r0, i0⟩ := (zde : Arg H Tryz.prog A.get 4 29 _ 1048576 _) c0 d0 b0 (by omega)
 subst e0
 obtain ⟨x1, r1, i1⟩ := ((Arg.sl (t := 30) (e := 3) (by kernel_rfl) (Arg.int (t := 3) (k := .i64) (by kernel_rfl))) : Arg H Tryz.prog A.get 4 30 _ 1048576 _) [v1] d1 (AVal.one (by kernel_rfl) a1) (by omega)
 obtain ⟨x2, r2, i2⟩ := ((Arg.sl (t := 30) (e := 3) (by kernel_rfl) (Arg.int (t := 3) (k := .i64) (by kernel_rfl))) : Arg H Tryz.prog A.get 4 30 _ 1048576 _) [v2] d2 (AVal.one (by kernel_rfl) a2) (by omega)
 obtain ⟨K, hK⟩ := z70 i0 i1 i2
 exact CR.done (z56 K c0 x0 r0 v1 x1 r1 v2 x2 r2 (Ow.empty A) true hK)
end Go.Am.Tryz
