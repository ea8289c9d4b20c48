/- NetmodelChecks answers true for arguments of bulk at most 1048576. -/
import Derived.Test.YtlcdhgcfamjioaaL3d
namespace Go.Am.Try
open Go Go.Am Go.Proofs
def I_Switch (B : Nat) (x : Switch) : Prop := x.Name.size ≤ B ∧ x.A.size ≤ B ∧ x.B.size ≤ B ∧ True ∧ True
def I_Branch (B : Nat) (x : Branch) : Prop := x.Name.size ≤ B ∧ x.From.size ≤ B ∧ x.To.size ≤ B ∧ krange .i64 x.X = true ∧ krange .i64 x.Tap = true ∧ krange .i64 x.Shift = true ∧ krange .i64 x.Limit = true ∧ krange .i64 x.Short = true ∧ krange .i64 x.Hold = true
def I_Gen (B : Nat) (x : Gen) : Prop := x.Name.size ≤ B ∧ x.Node.size ≤ B ∧ krange .i64 x.Least = true ∧ krange .i64 x.Most = true ∧ krange .i64 x.Ramp = true
def I_Load_ (B : Nat) (x : Load_) : Prop := x.Name.size ≤ B ∧ x.Node.size ≤ B ∧ krange .i64 x.Demand = true
def I_Store (B : Nat) (x : Store) : Prop := x.Name.size ≤ B ∧ x.Node.size ≤ B ∧ krange .i64 x.Charge = true ∧ krange .i64 x.Discharge = true ∧ krange .i64 x.Capacity = true
def I_Network (B : Nat) (x : Network) : Prop := (x.Nodes.length ≤ B ∧ ∀ y ∈ x.Nodes, y.size ≤ B) ∧ (x.Switches.length ≤ B ∧ ∀ y ∈ x.Switches, I_Switch B y) ∧ (x.Branches.length ≤ B ∧ ∀ y ∈ x.Branches, I_Branch B y) ∧ (x.Gens.length ≤ B ∧ ∀ y ∈ x.Gens, I_Gen B y) ∧ (x.Loads.length ≤ B ∧ ∀ y ∈ x.Loads, I_Load_ B y) ∧ (x.Stores.length ≤ B ∧ ∀ y ∈ x.Stores, I_Store B y)
theorem netmodelChecks_true {n : Network} {s : ByteArray} {b : Branch} (h : I_Network 1048576 n) (hs : s.size ≤ 1048576) (hb : I_Branch 1048576 b) : ∃ K, g_law_NetmodelChecks K n s b = some true := by
  obtain ⟨h1, h2, h3, h4, h5, h6⟩ := h
  have sh : ∀ s : ByteArray, s.size ≤ 1048576 → Sh 1048577 s := fun s h => ⟨by omega, h⟩
  have F : Fits 1048577 n := ⟨by omega, fun s q => sh s (h1.2 s q), fun x q => sh _ (h2.2 x q).1, fun x q => sh _ (h3.2 x q).1, fun x q => sh _ (h4.2 x q).1, fun x q => sh _ (h5.2 x q).1, fun x q => sh _ (h6.2 x q).1⟩
  exact ⟨1048577, by rw [net_law F s (sh s hs) b]; rfl⟩
end Go.Am.Try
