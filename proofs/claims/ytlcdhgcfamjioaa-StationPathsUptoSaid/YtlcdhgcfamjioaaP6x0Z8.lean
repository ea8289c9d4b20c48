/- Typed functions with the same answers as the program's, and the walks that show it. -/
import Derived.Test.YtlcdhgcfamjioaaFa37Z8
import Derived.Test.YtlcdhgcfamjioaaWg3bZ8
import Derived.Test.YtlcdhgcfamjioaaBxHZ8
namespace Go.Am.Try
open Go Go.Am Go.Proofs
set_option linter.unusedVariables false
set_option linter.unusedSimpArgs false
set_option maxRecDepth 10000

structure Switch where
 Name : ByteArray
 A : ByteArray
 B : ByteArray
 Breaker : Bool
 Open : Bool
 deriving DecidableEq, Inhabited
def T_Switch : RT Switch := rIso (rP rS (rP rS (rP rS (rP rB rB)))) (fun s : Switch => (s.Name, s.A, s.B, s.Breaker, s.Open))
theorem z_Switch (G : GM) : T_Switch.rep G ([.string ByteArray.empty] ++ ([.string ByteArray.empty] ++ ([.string ByteArray.empty] ++ ([.bool false] ++ [.bool false])))) ((Switch.mk ByteArray.empty ByteArray.empty ByteArray.empty false false)) := ⟨_, _, rfl, zS G, ⟨_, _, rfl, zS G, ⟨_, _, rfl, zS G, ⟨_, _, rfl, zB G, (zB G)⟩⟩⟩⟩
theorem p_Switch_Name : Proj T_Switch 0 rS (fun x => x.Name) := by
 have h := (Proj.iso (rP rS (rP rS (rP rS (rP rB rB)))) (fun s : Switch => (s.Name, s.A, s.B, s.Breaker, s.Open))).comp (Proj.fst _ _)
 exact h
theorem p_Switch_A : Proj T_Switch 1 rS (fun x => x.A) := by
 have h := (Proj.iso (rP rS (rP rS (rP rS (rP rB rB)))) (fun s : Switch => (s.Name, s.A, s.B, s.Breaker, s.Open))).comp ((Proj.snd _ _).comp (Proj.fst _ _))
 exact h
theorem p_Switch_B : Proj T_Switch 2 rS (fun x => x.B) := by
 have h := (Proj.iso (rP rS (rP rS (rP rS (rP rB rB)))) (fun s : Switch => (s.Name, s.A, s.B, s.Breaker, s.Open))).comp ((Proj.snd _ _).comp ((Proj.snd _ _).comp (Proj.fst _ _)))
 exact h
theorem p_Switch_Open : Proj T_Switch 4 rB (fun x => x.Open) := by
 have h := (Proj.iso (rP rS (rP rS (rP rS (rP rB rB)))) (fun s : Switch => (s.Name, s.A, s.B, s.Breaker, s.Open))).comp ((Proj.snd _ _).comp ((Proj.snd _ _).comp ((Proj.snd _ _).comp ((Proj.snd _ _).comp (Proj.self _)))))
 exact h
structure Branch where
 Name : ByteArray
 From : ByteArray
 To : ByteArray
 X : Int
 Tap : Int
 Shift : Int
 Limit : Int
 Short : Int
 Hold : Int
 deriving DecidableEq, Inhabited
def T_Branch : RT Branch := rIso (rP rS (rP rS (rP rS (rP (rI .i64) (rP (rI .i64) (rP (rI .i64) (rP (rI .i64) (rP (rI .i64) (rI .i64))))))))) (fun s : Branch => (s.Name, s.From, s.To, s.X, s.Tap, s.Shift, s.Limit, s.Short, s.Hold))
theorem z_Branch (G : GM) : T_Branch.rep G ([.string ByteArray.empty] ++ ([.string ByteArray.empty] ++ ([.string ByteArray.empty] ++ ([.int .i64 0] ++ ([.int .i64 0] ++ ([.int .i64 0] ++ ([.int .i64 0] ++ ([.int .i64 0] ++ [.int .i64 0])))))))) ((Branch.mk ByteArray.empty ByteArray.empty ByteArray.empty 0 0 0 0 0 0)) := ⟨_, _, rfl, zS G, ⟨_, _, rfl, zS G, ⟨_, _, rfl, zS G, ⟨_, _, rfl, (zI .i64) G, ⟨_, _, rfl, (zI .i64) G, ⟨_, _, rfl, (zI .i64) G, ⟨_, _, rfl, (zI .i64) G, ⟨_, _, rfl, (zI .i64) G, ((zI .i64) G)⟩⟩⟩⟩⟩⟩⟩⟩
theorem p_Branch_Name : Proj T_Branch 0 rS (fun x => x.Name) := by
 have h := (Proj.iso (rP rS (rP rS (rP rS (rP (rI .i64) (rP (rI .i64) (rP (rI .i64) (rP (rI .i64) (rP (rI .i64) (rI .i64))))))))) (fun s : Branch => (s.Name, s.From, s.To, s.X, s.Tap, s.Shift, s.Limit, s.Short, s.Hold))).comp (Proj.fst _ _)
 exact h
theorem p_Branch_From : Proj T_Branch 1 rS (fun x => x.From) := by
 have h := (Proj.iso (rP rS (rP rS (rP rS (rP (rI .i64) (rP (rI .i64) (rP (rI .i64) (rP (rI .i64) (rP (rI .i64) (rI .i64))))))))) (fun s : Branch => (s.Name, s.From, s.To, s.X, s.Tap, s.Shift, s.Limit, s.Short, s.Hold))).comp ((Proj.snd _ _).comp (Proj.fst _ _))
 exact h
theorem p_Branch_To : Proj T_Branch 2 rS (fun x => x.To) := by
 have h := (Proj.iso (rP rS (rP rS (rP rS (rP (rI .i64) (rP (rI .i64) (rP (rI .i64) (rP (rI .i64) (rP (rI .i64) (rI .i64))))))))) (fun s : Branch => (s.Name, s.From, s.To, s.X, s.Tap, s.Shift, s.Limit, s.Short, s.Hold))).comp ((Proj.snd _ _).comp ((Proj.snd _ _).comp (Proj.fst _ _)))
 exact h
theorem p_Branch_X : Proj T_Branch 3 (rI .i64) (fun x => x.X) := by
 have h := (Proj.iso (rP rS (rP rS (rP rS (rP (rI .i64) (rP (rI .i64) (rP (rI .i64) (rP (rI .i64) (rP (rI .i64) (rI .i64))))))))) (fun s : Branch => (s.Name, s.From, s.To, s.X, s.Tap, s.Shift, s.Limit, s.Short, s.Hold))).comp ((Proj.snd _ _).comp ((Proj.snd _ _).comp ((Proj.snd _ _).comp (Proj.fst _ _))))
 exact h
theorem p_Branch_Tap : Proj T_Branch 4 (rI .i64) (fun x => x.Tap) := by
 have h := (Proj.iso (rP rS (rP rS (rP rS (rP (rI .i64) (rP (rI .i64) (rP (rI .i64) (rP (rI .i64) (rP (rI .i64) (rI .i64))))))))) (fun s : Branch => (s.Name, s.From, s.To, s.X, s.Tap, s.Shift, s.Limit, s.Short, s.Hold))).comp ((Proj.snd _ _).comp ((Proj.snd _ _).comp ((Proj.snd _ _).comp ((Proj.snd _ _).comp (Proj.fst _ _)))))
 exact h
theorem p_Branch_Shift : Proj T_Branch 5 (rI .i64) (fun x => x.Shift) := by
 have h := (Proj.iso (rP rS (rP rS (rP rS (rP (rI .i64) (rP (rI .i64) (rP (rI .i64) (rP (rI .i64) (rP (rI .i64) (rI .i64))))))))) (fun s : Branch => (s.Name, s.From, s.To, s.X, s.Tap, s.Shift, s.Limit, s.Short, s.Hold))).comp ((Proj.snd _ _).comp ((Proj.snd _ _).comp ((Proj.snd _ _).comp ((Proj.snd _ _).comp ((Proj.snd _ _).comp (Proj.fst _ _))))))
 exact h
theorem p_Branch_Limit : Proj T_Branch 6 (rI .i64) (fun x => x.Limit) := by
 have h := (Proj.iso (rP rS (rP rS (rP rS (rP (rI .i64) (rP (rI .i64) (rP (rI .i64) (rP (rI .i64) (rP (rI .i64) (rI .i64))))))))) (fun s : Branch => (s.Name, s.From, s.To, s.X, s.Tap, s.Shift, s.Limit, s.Short, s.Hold))).comp ((Proj.snd _ _).comp ((Proj.snd _ _).comp ((Proj.snd _ _).comp ((Proj.snd _ _).comp ((Proj.snd _ _).comp ((Proj.snd _ _).comp (Proj.fst _ _)))))))
 exact h
theorem p_Branch_Short : Proj T_Branch 7 (rI .i64) (fun x => x.Short) := by
 have h := (Proj.iso (rP rS (rP rS (rP rS (rP (rI .i64) (rP (rI .i64) (rP (rI .i64) (rP (rI .i64) (rP (rI .i64) (rI .i64))))))))) (fun s : Branch => (s.Name, s.From, s.To, s.X, s.Tap, s.Shift, s.Limit, s.Short, s.Hold))).comp ((Proj.snd _ _).comp ((Proj.snd _ _).comp ((Proj.snd _ _).comp ((Proj.snd _ _).comp ((Proj.snd _ _).comp ((Proj.snd _ _).comp ((Proj.snd _ _).comp (Proj.fst _ _))))))))
 exact h
theorem p_Branch_Hold : Proj T_Branch 8 (rI .i64) (fun x => x.Hold) := by
 have h := (Proj.iso (rP rS (rP rS (rP rS (rP (rI .i64) (rP (rI .i64) (rP (rI .i64) (rP (rI .i64) (rP (rI .i64) (rI .i64))))))))) (fun s : Branch => (s.Name, s.From, s.To, s.X, s.Tap, s.Shift, s.Limit, s.Short, s.Hold))).comp ((Proj.snd _ _).comp ((Proj.snd _ _).comp ((Proj.snd _ _).comp ((Proj.snd _ _).comp ((Proj.snd _ _).comp ((Proj.snd _ _).comp ((Proj.snd _ _).comp ((Proj.snd _ _).comp (Proj.self _)))))))))
 exact h
structure Gen where
 Name : ByteArray
 Node : ByteArray
 Least : Int
 Most : Int
 Ramp : Int
 deriving DecidableEq, Inhabited
def T_Gen : RT Gen := rIso (rP rS (rP rS (rP (rI .i64) (rP (rI .i64) (rI .i64))))) (fun s : Gen => (s.Name, s.Node, s.Least, s.Most, s.Ramp))
theorem z_Gen (G : GM) : T_Gen.rep G ([.string ByteArray.empty] ++ ([.string ByteArray.empty] ++ ([.int .i64 0] ++ ([.int .i64 0] ++ [.int .i64 0])))) ((Gen.mk ByteArray.empty ByteArray.empty 0 0 0)) := ⟨_, _, rfl, zS G, ⟨_, _, rfl, zS G, ⟨_, _, rfl, (zI .i64) G, ⟨_, _, rfl, (zI .i64) G, ((zI .i64) G)⟩⟩⟩⟩
theorem p_Gen_Name : Proj T_Gen 0 rS (fun x => x.Name) := by
 have h := (Proj.iso (rP rS (rP rS (rP (rI .i64) (rP (rI .i64) (rI .i64))))) (fun s : Gen => (s.Name, s.Node, s.Least, s.Most, s.Ramp))).comp (Proj.fst _ _)
 exact h
theorem p_Gen_Node : Proj T_Gen 1 rS (fun x => x.Node) := by
 have h := (Proj.iso (rP rS (rP rS (rP (rI .i64) (rP (rI .i64) (rI .i64))))) (fun s : Gen => (s.Name, s.Node, s.Least, s.Most, s.Ramp))).comp ((Proj.snd _ _).comp (Proj.fst _ _))
 exact h
theorem p_Gen_Least : Proj T_Gen 2 (rI .i64) (fun x => x.Least) := by
 have h := (Proj.iso (rP rS (rP rS (rP (rI .i64) (rP (rI .i64) (rI .i64))))) (fun s : Gen => (s.Name, s.Node, s.Least, s.Most, s.Ramp))).comp ((Proj.snd _ _).comp ((Proj.snd _ _).comp (Proj.fst _ _)))
 exact h
theorem p_Gen_Most : Proj T_Gen 3 (rI .i64) (fun x => x.Most) := by
 have h := (Proj.iso (rP rS (rP rS (rP (rI .i64) (rP (rI .i64) (rI .i64))))) (fun s : Gen => (s.Name, s.Node, s.Least, s.Most, s.Ramp))).comp ((Proj.snd _ _).comp ((Proj.snd _ _).comp ((Proj.snd _ _).comp (Proj.fst _ _))))
 exact h
theorem p_Gen_Ramp : Proj T_Gen 4 (rI .i64) (fun x => x.Ramp) := by
 have h := (Proj.iso (rP rS (rP rS (rP (rI .i64) (rP (rI .i64) (rI .i64))))) (fun s : Gen => (s.Name, s.Node, s.Least, s.Most, s.Ramp))).comp ((Proj.snd _ _).comp ((Proj.snd _ _).comp ((Proj.snd _ _).comp ((Proj.snd _ _).comp (Proj.self _)))))
 exact h
structure Load_ where
 Name : ByteArray
 Node : ByteArray
 Demand : Int
 deriving DecidableEq, Inhabited
def T_Load_ : RT Load_ := rIso (rP rS (rP rS (rI .i64))) (fun s : Load_ => (s.Name, s.Node, s.Demand))
theorem z_Load_ (G : GM) : T_Load_.rep G ([.string ByteArray.empty] ++ ([.string ByteArray.empty] ++ [.int .i64 0])) ((Load_.mk ByteArray.empty ByteArray.empty 0)) := ⟨_, _, rfl, zS G, ⟨_, _, rfl, zS G, ((zI .i64) G)⟩⟩
theorem p_Load__Name : Proj T_Load_ 0 rS (fun x => x.Name) := by
 have h := (Proj.iso (rP rS (rP rS (rI .i64))) (fun s : Load_ => (s.Name, s.Node, s.Demand))).comp (Proj.fst _ _)
 exact h
theorem p_Load__Node : Proj T_Load_ 1 rS (fun x => x.Node) := by
 have h := (Proj.iso (rP rS (rP rS (rI .i64))) (fun s : Load_ => (s.Name, s.Node, s.Demand))).comp ((Proj.snd _ _).comp (Proj.fst _ _))
 exact h
theorem p_Load__Demand : Proj T_Load_ 2 (rI .i64) (fun x => x.Demand) := by
 have h := (Proj.iso (rP rS (rP rS (rI .i64))) (fun s : Load_ => (s.Name, s.Node, s.Demand))).comp ((Proj.snd _ _).comp ((Proj.snd _ _).comp (Proj.self _)))
 exact h
structure Store where
 Name : ByteArray
 Node : ByteArray
 Charge : Int
 Discharge : Int
 Capacity : Int
 deriving DecidableEq, Inhabited
def T_Store : RT Store := rIso (rP rS (rP rS (rP (rI .i64) (rP (rI .i64) (rI .i64))))) (fun s : Store => (s.Name, s.Node, s.Charge, s.Discharge, s.Capacity))
theorem z_Store (G : GM) : T_Store.rep G ([.string ByteArray.empty] ++ ([.string ByteArray.empty] ++ ([.int .i64 0] ++ ([.int .i64 0] ++ [.int .i64 0])))) ((Store.mk ByteArray.empty ByteArray.empty 0 0 0)) := ⟨_, _, rfl, zS G, ⟨_, _, rfl, zS G, ⟨_, _, rfl, (zI .i64) G, ⟨_, _, rfl, (zI .i64) G, ((zI .i64) G)⟩⟩⟩⟩
theorem p_Store_Name : Proj T_Store 0 rS (fun x => x.Name) := by
 have h := (Proj.iso (rP rS (rP rS (rP (rI .i64) (rP (rI .i64) (rI .i64))))) (fun s : Store => (s.Name, s.Node, s.Charge, s.Discharge, s.Capacity))).comp (Proj.fst _ _)
 exact h
theorem p_Store_Node : Proj T_Store 1 rS (fun x => x.Node) := by
 have h := (Proj.iso (rP rS (rP rS (rP (rI .i64) (rP (rI .i64) (rI .i64))))) (fun s : Store => (s.Name, s.Node, s.Charge, s.Discharge, s.Capacity))).comp ((Proj.snd _ _).comp (Proj.fst _ _))
 exact h
theorem p_Store_Charge : Proj T_Store 2 (rI .i64) (fun x => x.Charge) := by
 have h := (Proj.iso (rP rS (rP rS (rP (rI .i64) (rP (rI .i64) (rI .i64))))) (fun s : Store => (s.Name, s.Node, s.Charge, s.Discharge, s.Capacity))).comp ((Proj.snd _ _).comp ((Proj.snd _ _).comp (Proj.fst _ _)))
 exact h
theorem p_Store_Discharge : Proj T_Store 3 (rI .i64) (fun x => x.Discharge) := by
 have h := (Proj.iso (rP rS (rP rS (rP (rI .i64) (rP (rI .i64) (rI .i64))))) (fun s : Store => (s.Name, s.Node, s.Charge, s.Discharge, s.Capacity))).comp ((Proj.snd _ _).comp ((Proj.snd _ _).comp ((Proj.snd _ _).comp (Proj.fst _ _))))
 exact h
theorem p_Store_Capacity : Proj T_Store 4 (rI .i64) (fun x => x.Capacity) := by
 have h := (Proj.iso (rP rS (rP rS (rP (rI .i64) (rP (rI .i64) (rI .i64))))) (fun s : Store => (s.Name, s.Node, s.Charge, s.Discharge, s.Capacity))).comp ((Proj.snd _ _).comp ((Proj.snd _ _).comp ((Proj.snd _ _).comp ((Proj.snd _ _).comp (Proj.self _)))))
 exact h
structure Network where
 Nodes : List ByteArray
 Switches : List Switch
 Branches : List Branch
 Gens : List Gen
 Loads : List Load_
 Stores : List Store
 deriving DecidableEq, Inhabited
def T_Network : RT Network := rIso (rP (rSl rS) (rP (rSl T_Switch) (rP (rSl T_Branch) (rP (rSl T_Gen) (rP (rSl T_Load_) (rSl T_Store)))))) (fun s : Network => (s.Nodes, s.Switches, s.Branches, s.Gens, s.Loads, s.Stores))
theorem p_Network_Nodes : Proj T_Network 0 (rSl rS) (fun x => x.Nodes) := by
 have h := (Proj.iso (rP (rSl rS) (rP (rSl T_Switch) (rP (rSl T_Branch) (rP (rSl T_Gen) (rP (rSl T_Load_) (rSl T_Store)))))) (fun s : Network => (s.Nodes, s.Switches, s.Branches, s.Gens, s.Loads, s.Stores))).comp (Proj.fst _ _)
 exact h
theorem p_Network_Switches : Proj T_Network 1 (rSl T_Switch) (fun x => x.Switches) := by
 have h := (Proj.iso (rP (rSl rS) (rP (rSl T_Switch) (rP (rSl T_Branch) (rP (rSl T_Gen) (rP (rSl T_Load_) (rSl T_Store)))))) (fun s : Network => (s.Nodes, s.Switches, s.Branches, s.Gens, s.Loads, s.Stores))).comp ((Proj.snd _ _).comp (Proj.fst _ _))
 exact h
theorem p_Network_Branches : Proj T_Network 2 (rSl T_Branch) (fun x => x.Branches) := by
 have h := (Proj.iso (rP (rSl rS) (rP (rSl T_Switch) (rP (rSl T_Branch) (rP (rSl T_Gen) (rP (rSl T_Load_) (rSl T_Store)))))) (fun s : Network => (s.Nodes, s.Switches, s.Branches, s.Gens, s.Loads, s.Stores))).comp ((Proj.snd _ _).comp ((Proj.snd _ _).comp (Proj.fst _ _)))
 exact h
theorem p_Network_Gens : Proj T_Network 3 (rSl T_Gen) (fun x => x.Gens) := by
 have h := (Proj.iso (rP (rSl rS) (rP (rSl T_Switch) (rP (rSl T_Branch) (rP (rSl T_Gen) (rP (rSl T_Load_) (rSl T_Store)))))) (fun s : Network => (s.Nodes, s.Switches, s.Branches, s.Gens, s.Loads, s.Stores))).comp ((Proj.snd _ _).comp ((Proj.snd _ _).comp ((Proj.snd _ _).comp (Proj.fst _ _))))
 exact h
theorem p_Network_Loads : Proj T_Network 4 (rSl T_Load_) (fun x => x.Loads) := by
 have h := (Proj.iso (rP (rSl rS) (rP (rSl T_Switch) (rP (rSl T_Branch) (rP (rSl T_Gen) (rP (rSl T_Load_) (rSl T_Store)))))) (fun s : Network => (s.Nodes, s.Switches, s.Branches, s.Gens, s.Loads, s.Stores))).comp ((Proj.snd _ _).comp ((Proj.snd _ _).comp ((Proj.snd _ _).comp ((Proj.snd _ _).comp (Proj.fst _ _)))))
 exact h
theorem p_Network_Stores : Proj T_Network 5 (rSl T_Store) (fun x => x.Stores) := by
 have h := (Proj.iso (rP (rSl rS) (rP (rSl T_Switch) (rP (rSl T_Branch) (rP (rSl T_Gen) (rP (rSl T_Load_) (rSl T_Store)))))) (fun s : Network => (s.Nodes, s.Switches, s.Branches, s.Gens, s.Loads, s.Stores))).comp ((Proj.snd _ _).comp ((Proj.snd _ _).comp ((Proj.snd _ _).comp ((Proj.snd _ _).comp ((Proj.snd _ _).comp (Proj.self _))))))
 exact h
def g_netmodel_sizes (K : Nat) (p0 : Network) : Option Int := (Option.bind ((if (decide ((List.length p0.Nodes : Int) > 24)) = true then some true else (if (decide ((List.length p0.Switches : Int) > 32)) = true then some true else some (decide ((List.length p0.Branches : Int) > 24))))) (tu1 fun x26 => (if x26 = true then some 2 else (Option.bind ((if (decide ((List.length p0.Gens : Int) > 10)) = true then some true else (if (decide ((List.length p0.Loads : Int) > 12)) = true then some true else some (decide ((List.length p0.Stores : Int) > 4))))) (tu1 fun x60 => (if x60 = true then some 2 else some 0))))))
set_option maxHeartbeats 4000000 in
theorem g_netmodel_sizes_ok (K : Nat) {G : GM} {H : AH} {L : List Pc} (v0 : List Value) (p0 : Network) (hp0 : T_Network.rep G v0 p0) (O : Ow G H (L)) (r : Int) (h : g_netmodel_sizes K p0 = some r) :
  CR Try.prog 66 [.agg (List.toArray v0)] G H (L) (fun v G' _ => v = .int .i64 r) := by
 unfold g_netmodel_sizes at h
 refine CR.of (calls_of_AW (n := 35) (fn := Try.f66) (R := fun v H' => ∃ G', Ow G' H' (L) ∧ G.le G' ∧ v = .int .i64 r) (by kernel_rfl) rfl rfl ?_)
 refine .seq ?_
 refine .region ?_
 refine W.lo rfl rfl (Lo.box (r := T_Network) (x0 := p0) (v := (.agg (List.toArray v0))) rfl rfl hp0 O) ?_
 rintro v4 H5 ⟨b2, rfl, O1, sm3⟩
 refine W.pure (v := (.int .i64 0)) rfl rfl (v_assign (oo rfl rfl)) ?_
 refine .nil ?_
 refine .seq ?_
 refine .seq ?_
 obtain ⟨q6, h7, h8⟩ := bd_inv h
 refine AW.midT (fun σ' H' => ∃ (y1 : Bool) (G' : GM), y1 = q6 ∧ Ow G' H' (eVar b2 48 T_Network p0 :: L) ∧ GM.le G G' ∧ σ' 18 = .bool y1) ?_ ?_
 ·refine .region ?_
  refine W.pure (v := (padd (.pointer (some ⟨b2, 0, none⟩)) 0)) rfl rfl (v_fldA fl48_0 (oo rfl rfl) (O1.atVar (j := 0) rfl)) ?_
  obtain ⟨w9, p10, f11⟩ := At.sl (At.proj (O1.atVar (j := 0) rfl) p_Network_Nodes)
  refine W.load1 (v := w9) (r := []) rfl rfl ag41 (pt_px rfl p10) ?_
  refine W.pure (v := (.int .i64 (List.length p0.Nodes : Int))) rfl rfl (len_sl (oo rfl rfl) (sl_len f11) (elemT_inv el41)) ?_
  refine W.pure (v := (.bool (decide ((List.length p0.Nodes : Int) > 24)))) rfl rfl (v_int (oo rfl rfl) (oo rfl rfl) rfl) ?_
  refine W.pure (v := (.bool (decide ((List.length p0.Nodes : Int) > 24)))) rfl rfl (v_move (oo rfl rfl)) ?_
  refine W.splitAt (t := 7) (b := decide ((List.length p0.Nodes : Int) > 24)) rfl (fun g12 gv13 => ?_) (fun g12 gv13 => ?_)
  ·have h14 := pos_inv g12 h7
   refine W.skip (gk rfl rfl gv13 rfl) rfl ?_
   refine W.skip (gk rfl rfl gv13 rfl) rfl ?_
   refine W.skip (gk rfl rfl gv13 rfl) rfl ?_
   refine W.skip (gk rfl rfl gv13 rfl) rfl ?_
   refine W.pure (v := (.bool true)) rfl rfl (v_pickT (oo rfl gv13) (oo rfl rfl)) ?_
   refine W.pure (v := (.bool true)) rfl rfl (v_move (oo rfl rfl)) ?_
   refine W.skip (gk rfl rfl rfl rfl) rfl ?_
   refine W.skip (gk rfl rfl rfl rfl) rfl ?_
   refine W.skip (gk rfl rfl rfl rfl) rfl ?_
   refine W.skip (gk rfl rfl rfl rfl) rfl ?_
   refine W.pure (v := (.bool true)) rfl rfl (v_pickT (oo rfl rfl) (oo rfl rfl)) ?_
   refine .nil ?_
   obtain rfl := Option.some.inj h14
   exact ⟨true, _, rfl, O1, (GM.le.refl _), rfl⟩
  ·have h15 := neg_b g12 h7
   refine W.pure (v := (padd (.pointer (some ⟨b2, 0, none⟩)) 1)) (gk rfl rfl gv13 rfl) rfl (v_fldA fl48_1 (oo rfl rfl) (O1.atVar (j := 0) rfl)) ?_
   obtain ⟨w16, p17, f18⟩ := At.sl (At.proj (O1.atVar (j := 0) rfl) p_Network_Switches)
   refine W.load1 (v := w16) (r := []) (gk rfl rfl gv13 rfl) rfl ag42 (pt_px rfl p17) ?_
   refine W.pure (v := (.int .i64 (List.length p0.Switches : Int))) (gk rfl rfl gv13 rfl) rfl (len_sl (oo rfl rfl) (sl_len f18) (elemT_inv el42)) ?_
   refine W.pure (v := (.bool (decide ((List.length p0.Switches : Int) > 32)))) (gk rfl rfl gv13 rfl) rfl (v_int (oo rfl rfl) (oo rfl rfl) rfl) ?_
   refine W.pure (v := (.bool (decide ((List.length p0.Switches : Int) > 32)))) rfl rfl (v_pickF (oo rfl gv13) (oo rfl rfl)) ?_
   refine W.pure (v := (.bool (decide ((List.length p0.Switches : Int) > 32)))) rfl rfl (v_move (oo rfl rfl)) ?_
   refine W.splitAt (t := 13) (b := decide ((List.length p0.Switches : Int) > 32)) rfl (fun g19 gv20 => ?_) (fun g19 gv20 => ?_)
   ·have h21 := pos_inv g19 h15
    refine W.skip (gk rfl rfl gv20 rfl) rfl ?_
    refine W.skip (gk rfl rfl gv20 rfl) rfl ?_
    refine W.skip (gk rfl rfl gv20 rfl) rfl ?_
    refine W.skip (gk rfl rfl gv20 rfl) rfl ?_
    refine W.pure (v := (.bool true)) rfl rfl (v_pickT (oo rfl gv20) (oo rfl rfl)) ?_
    refine .nil ?_
    obtain rfl := Option.some.inj h21
    exact ⟨true, _, rfl, O1, (GM.le.refl _), rfl⟩
   ·have h22 := neg_b g19 h15
    refine W.pure (v := (padd (.pointer (some ⟨b2, 0, none⟩)) 2)) (gk rfl rfl gv20 rfl) rfl (v_fldA fl48_2 (oo rfl rfl) (O1.atVar (j := 0) rfl)) ?_
    obtain ⟨w23, p24, f25⟩ := At.sl (At.proj (O1.atVar (j := 0) rfl) p_Network_Branches)
    refine W.load1 (v := w23) (r := []) (gk rfl rfl gv20 rfl) rfl ag43 (pt_px rfl p24) ?_
    refine W.pure (v := (.int .i64 (List.length p0.Branches : Int))) (gk rfl rfl gv20 rfl) rfl (len_sl (oo rfl rfl) (sl_len f25) (elemT_inv el43)) ?_
    refine W.pure (v := (.bool (decide ((List.length p0.Branches : Int) > 24)))) (gk rfl rfl gv20 rfl) rfl (v_int (oo rfl rfl) (oo rfl rfl) rfl) ?_
    refine W.pure (v := (.bool (decide ((List.length p0.Branches : Int) > 24)))) rfl rfl (v_pickF (oo rfl gv20) (oo rfl rfl)) ?_
    refine .nil ?_
    obtain rfl := Option.some.inj h22
    exact ⟨decide ((List.length p0.Branches : Int) > 24), _, rfl, O1, (GM.le.refl _), rfl⟩
 ·rintro σ27 H28 fr29 ⟨x26, G30, rfl, O31, s32, t34⟩
  have h35 := tu1_inv h8
  refine .cond (b := x26) rfl t34 (fun g36 => ?_) (fun g36 => ?_)
  ·have h37 := pos_inv g36 h35
   refine .seq ?_
   refine .region ?_
   refine W.pure (v := (.int .i64 2)) rfl rfl (v_assign (oo rfl rfl)) ?_
   refine .nil ?_
   refine .ret ?_
   have O38 : Ow G30 H28 (L) := O31.drop 0
   obtain rfl := Option.some.inj h37
   refine ret1R (P := Try.prog) (fn := Try.f66) (n := 35) (R := fun v H' => ∃ G', Ow G' H' (L) ∧ G.le G' ∧ v = .int .i64 2) (v1 := (.int .i64 2)) (by rfl) (rr_tmp (by rfl) (by exact rfl)) ?_
   exact ⟨_, O38, s32, rfl⟩
  ·have h39 := neg_b g36 h35
   refine .skip ?_
   refine .seq ?_
   refine .seq ?_
   obtain ⟨q40, h41, h42⟩ := bd_inv h39
   refine AW.midT (fun σ' H' => ∃ (y1 : Bool) (G' : GM), y1 = q40 ∧ Ow G' H' (eVar b2 48 T_Network p0 :: L) ∧ GM.le G30 G' ∧ σ' 34 = .bool y1) ?_ ?_
   ·refine .region ?_
    refine W.pure (v := (padd (.pointer (some ⟨b2, 0, none⟩)) 3)) rfl rfl (v_fldA fl48_3 (oo rfl ((fr29 1 rfl).trans rfl)) (O31.atVar (j := 0) rfl)) ?_
    obtain ⟨w43, p44, f45⟩ := At.sl (At.proj (O31.atVar (j := 0) rfl) p_Network_Gens)
    refine W.load1 (v := w43) (r := []) rfl rfl ag44 (pt_px rfl p44) ?_
    refine W.pure (v := (.int .i64 (List.length p0.Gens : Int))) rfl rfl (len_sl (oo rfl rfl) (sl_len f45) (elemT_inv el44)) ?_
    refine W.pure (v := (.bool (decide ((List.length p0.Gens : Int) > 10)))) rfl rfl (v_int (oo rfl rfl) (oo rfl rfl) rfl) ?_
    refine W.pure (v := (.bool (decide ((List.length p0.Gens : Int) > 10)))) rfl rfl (v_move (oo rfl rfl)) ?_
    refine W.splitAt (t := 23) (b := decide ((List.length p0.Gens : Int) > 10)) rfl (fun g46 gv47 => ?_) (fun g46 gv47 => ?_)
    ·have h48 := pos_inv g46 h41
     refine W.skip (gk rfl rfl gv47 rfl) rfl ?_
     refine W.skip (gk rfl rfl gv47 rfl) rfl ?_
     refine W.skip (gk rfl rfl gv47 rfl) rfl ?_
     refine W.skip (gk rfl rfl gv47 rfl) rfl ?_
     refine W.pure (v := (.bool true)) rfl rfl (v_pickT (oo rfl gv47) (oo rfl rfl)) ?_
     refine W.pure (v := (.bool true)) rfl rfl (v_move (oo rfl rfl)) ?_
     refine W.skip (gk rfl rfl rfl rfl) rfl ?_
     refine W.skip (gk rfl rfl rfl rfl) rfl ?_
     refine W.skip (gk rfl rfl rfl rfl) rfl ?_
     refine W.skip (gk rfl rfl rfl rfl) rfl ?_
     refine W.pure (v := (.bool true)) rfl rfl (v_pickT (oo rfl rfl) (oo rfl rfl)) ?_
     refine .nil ?_
     obtain rfl := Option.some.inj h48
     exact ⟨true, _, rfl, O31, (GM.le.refl _), rfl⟩
    ·have h49 := neg_b g46 h41
     refine W.pure (v := (padd (.pointer (some ⟨b2, 0, none⟩)) 4)) (gk rfl rfl gv47 rfl) rfl (v_fldA fl48_4 (oo rfl ((fr29 1 rfl).trans rfl)) (O31.atVar (j := 0) rfl)) ?_
     obtain ⟨w50, p51, f52⟩ := At.sl (At.proj (O31.atVar (j := 0) rfl) p_Network_Loads)
     refine W.load1 (v := w50) (r := []) (gk rfl rfl gv47 rfl) rfl ag45 (pt_px rfl p51) ?_
     refine W.pure (v := (.int .i64 (List.length p0.Loads : Int))) (gk rfl rfl gv47 rfl) rfl (len_sl (oo rfl rfl) (sl_len f52) (elemT_inv el45)) ?_
     refine W.pure (v := (.bool (decide ((List.length p0.Loads : Int) > 12)))) (gk rfl rfl gv47 rfl) rfl (v_int (oo rfl rfl) (oo rfl rfl) rfl) ?_
     refine W.pure (v := (.bool (decide ((List.length p0.Loads : Int) > 12)))) rfl rfl (v_pickF (oo rfl gv47) (oo rfl rfl)) ?_
     refine W.pure (v := (.bool (decide ((List.length p0.Loads : Int) > 12)))) rfl rfl (v_move (oo rfl rfl)) ?_
     refine W.splitAt (t := 29) (b := decide ((List.length p0.Loads : Int) > 12)) rfl (fun g53 gv54 => ?_) (fun g53 gv54 => ?_)
     ·have h55 := pos_inv g53 h49
      refine W.skip (gk rfl rfl gv54 rfl) rfl ?_
      refine W.skip (gk rfl rfl gv54 rfl) rfl ?_
      refine W.skip (gk rfl rfl gv54 rfl) rfl ?_
      refine W.skip (gk rfl rfl gv54 rfl) rfl ?_
      refine W.pure (v := (.bool true)) rfl rfl (v_pickT (oo rfl gv54) (oo rfl rfl)) ?_
      refine .nil ?_
      obtain rfl := Option.some.inj h55
      exact ⟨true, _, rfl, O31, (GM.le.refl _), rfl⟩
     ·have h56 := neg_b g53 h49
      refine W.pure (v := (padd (.pointer (some ⟨b2, 0, none⟩)) 5)) (gk rfl rfl gv54 rfl) rfl (v_fldA fl48_5 (oo rfl ((fr29 1 rfl).trans rfl)) (O31.atVar (j := 0) rfl)) ?_
      obtain ⟨w57, p58, f59⟩ := At.sl (At.proj (O31.atVar (j := 0) rfl) p_Network_Stores)
      refine W.load1 (v := w57) (r := []) (gk rfl rfl gv54 rfl) rfl ag46 (pt_px rfl p58) ?_
      refine W.pure (v := (.int .i64 (List.length p0.Stores : Int))) (gk rfl rfl gv54 rfl) rfl (len_sl (oo rfl rfl) (sl_len f59) (elemT_inv el46)) ?_
      refine W.pure (v := (.bool (decide ((List.length p0.Stores : Int) > 4)))) (gk rfl rfl gv54 rfl) rfl (v_int (oo rfl rfl) (oo rfl rfl) rfl) ?_
      refine W.pure (v := (.bool (decide ((List.length p0.Stores : Int) > 4)))) rfl rfl (v_pickF (oo rfl gv54) (oo rfl rfl)) ?_
      refine .nil ?_
      obtain rfl := Option.some.inj h56
      exact ⟨decide ((List.length p0.Stores : Int) > 4), _, rfl, O31, (GM.le.refl _), rfl⟩
   ·rintro σ61 H62 fr63 ⟨x60, G64, rfl, O65, s66, t68⟩
    have h69 := tu1_inv h42
    refine .cond (b := x60) rfl t68 (fun g70 => ?_) (fun g70 => ?_)
    ·have h71 := pos_inv g70 h69
     refine .seq ?_
     refine .region ?_
     refine W.pure (v := (.int .i64 2)) rfl rfl (v_assign (oo rfl rfl)) ?_
     refine .nil ?_
     refine .ret ?_
     have O72 : Ow G64 H62 (L) := O65.drop 0
     obtain rfl := Option.some.inj h71
     refine ret1R (P := Try.prog) (fn := Try.f66) (n := 35) (R := fun v H' => ∃ G', Ow G' H' (L) ∧ G.le G' ∧ v = .int .i64 2) (v1 := (.int .i64 2)) (by rfl) (rr_tmp (by rfl) (by exact rfl)) ?_
     exact ⟨_, O72, (GM.le.trans s32 s66), rfl⟩
    ·have h73 := neg_b g70 h69
     refine .skip ?_
     refine .seq ?_
     refine .region ?_
     refine W.pure (v := (.int .i64 0)) rfl rfl (v_assign (oo rfl rfl)) ?_
     refine .nil ?_
     refine .ret ?_
     have O74 : Ow G64 H62 (L) := O65.drop 0
     obtain rfl := Option.some.inj h73
     refine ret1R (P := Try.prog) (fn := Try.f66) (n := 35) (R := fun v H' => ∃ G', Ow G' H' (L) ∧ G.le G' ∧ v = .int .i64 0) (v1 := (.int .i64 0)) (by rfl) (rr_tmp (by rfl) (by exact rfl)) ?_
     exact ⟨_, O74, (GM.le.trans s32 s66), rfl⟩
def g_netmodel_Name_l0 (K : Nat) (p0 : ByteArray) : Nat → Int → Option (Bool ⊕ Unit)
 | 0, _ => none
 | k + 1, x12 => (if (decide (x12 < (List.length (bytesOf p0) : Int))) = true then ((idx (bytesOf p0) x12).bind fun x23 => (Option.bind ((if (decide (x23 ≥ 65)) = true then some (decide (x23 ≤ 90)) else some false)) (tu1 fun x34 => (Option.bind ((if (!x34) = true then (if (x12 == 0) = true then some true else (if (decide (x23 < 48)) = true then some true else some (decide (x23 > 57)))) else some false)) (tu1 fun x59 => (if x59 = true then some (.inl false) else g_netmodel_Name_l0 K p0 k (kwrap .i64 (x12 + 1)))))))) else some (.inr ()))
def g_netmodel_Name (K : Nat) (p0 : ByteArray) : Option Bool := (bindS (g_netmodel_Name_l0 K p0 K 0) (tu1 fun a99 => some a99) (tu0 (Option.bind ((if (!(sEq p0 (⟨#[]⟩ : ByteArray))) = true then some (decide ((p0.size : Int) ≤ 8)) else some false)) (tu1 fun x89 => some x89))))
set_option maxHeartbeats 4000000 in
theorem g_netmodel_Name_ok (K : Nat) {G : GM} {H : AH} {L : List Pc} (p0 : ByteArray) (O : Ow G H (L)) (r : Bool) (h : g_netmodel_Name K p0 = some r) :
  CR Try.prog 24 [(.string p0)] G H (L) (fun v G' _ => v = .bool r) := by
 unfold g_netmodel_Name at h
 refine CR.of (calls_of_AW (n := 42) (fn := Try.f24) (R := fun v H' => ∃ G', Ow G' H' (L) ∧ G.le G' ∧ v = .bool r) (by kernel_rfl) rfl rfl ?_)
 refine .seq ?_
 refine .region ?_
 refine W.pure (v := (.bool false)) rfl rfl (v_assign (oo rfl rfl)) ?_
 refine .nil ?_
 refine .seq ?_
 refine .seq ?_
 refine .region ?_
 refine W.pure (v := (.string p0)) rfl rfl (v_move (oo rfl rfl)) ?_
 refine W.lo rfl rfl (Lo.bytes rfl un9 el115 in5 rfl O) ?_
 rintro v6 H7 ⟨G2, O1, s3, sm5, f4⟩
 refine W.pure (v := (.int .i64 (List.length (bytesOf p0) : Int))) rfl rfl (len_sl (oo rfl rfl) (sl_len f4) (elemT_inv el115)) ?_
 refine W.pure (v := (.int .i64 0)) rfl rfl (v_move (oo rfl rfl)) ?_
 refine .nil ?_
 obtain ⟨q8, h9, h10⟩ := bindS_inv h
 refine AW.midT (fun σ' H' => ∃  (G' : GM), (.inr ()) = q8 ∧ Ow G' H' (L) ∧ GM.le G2 G') ?_ ?_
 ·refine .block ?_
  refine AW.loop (α := Nat) (fun k' σ' H' => ∃ (y1 : Int) (G' : GM), g_netmodel_Name_l0 K p0 k' y1 = some q8 ∧ Ow G' H' (L) ∧ GM.le G2 G' ∧ σ' 9 = .int .i64 y1) (fun k' => k') K ⟨0, _, h9, O1, (GM.le.refl _), rfl⟩ ?_
  rintro k11
  rintro σ13 H14 fr15 ⟨x12, G16, h19, O17, s18, t20⟩
  rcases k11 with _ | k11
  ·exact none_absurd h19
  rw [g_netmodel_Name_l0] at h19
  refine .seq ?_
  refine .region ?_
  refine W.pure (v := (.bool (decide (x12 < (List.length (bytesOf p0) : Int))))) rfl rfl (v_int (oo rfl t20) (oo rfl ((fr15 8 rfl).trans rfl)) rfl) ?_
  refine .nil ?_
  refine .seq ?_
  refine .cond (b := decide (x12 < (List.length (bytesOf p0) : Int))) rfl rfl (fun g21 => ?_) (fun g21 => ?_)
  ·have h22 := pos_inv g21 h19
   refine .skip ?_
   refine .seq ?_
   refine .block ?_
   refine .seq ?_
   refine .region ?_
   refine W.pure (v := (.int .i64 x12)) rfl rfl (v_move (oo rfl t20)) ?_
   obtain ⟨x23, i24, h25⟩ := bd_inv h22
   have j26 := idx_inv i24
   refine W.pure (v := (selem v6 (Int.toNat x12 * 1))) rfl rfl (v_idx el115 sz5 (oo rfl ((fr15 7 rfl).trans rfl)) (oo rfl t20) (sl_len (RT.mono _ s18 f4)) j26.1 j26.2.1) ?_
   refine W.load1 (v := (.int .u8 x23)) (r := []) rfl rfl ag5 (pt_px rfl (At.int (At.le (At.le (sl_idx f4 j26.2.2) s18 s18) (GM.le.refl _) O17.fro))) ?_
   refine W.pure (v := (.int .i64 x12)) rfl rfl (v_assign (oo rfl rfl)) ?_
   refine W.pure (v := (.int .u8 x23)) rfl rfl (v_assign (oo rfl rfl)) ?_
   refine .nil ?_
   refine .seq ?_
   obtain ⟨q27, h28, h29⟩ := bd_inv h25
   refine AW.midT (fun σ' H' => ∃ (y1 : Bool) (G' : GM), y1 = q27 ∧ Ow G' H' (L) ∧ GM.le G16 G' ∧ σ' 5 = .bool y1) ?_ ?_
   ·refine .region ?_
    refine W.pure (v := (.int .u8 x23)) rfl rfl (v_move (oo rfl rfl)) ?_
    refine W.pure (v := (.bool (decide (x23 ≥ 65)))) rfl rfl (v_int (oo rfl rfl) (oo rfl rfl) rfl) ?_
    refine W.pure (v := (.bool (decide (x23 ≥ 65)))) rfl rfl (v_move (oo rfl rfl)) ?_
    refine W.splitAt (t := 16) (b := decide (x23 ≥ 65)) rfl (fun g30 gv31 => ?_) (fun g30 gv31 => ?_)
    ·have h32 := pos_inv g30 h28
     refine W.pure (v := (.int .u8 x23)) (gk rfl rfl gv31 rfl) rfl (v_move (oo rfl rfl)) ?_
     refine W.pure (v := (.bool (decide (x23 ≤ 90)))) (gk rfl rfl gv31 rfl) rfl (v_int (oo rfl rfl) (oo rfl rfl) rfl) ?_
     refine W.pure (v := (.bool (decide (x23 ≤ 90)))) rfl rfl (v_pickT (oo rfl gv31) (oo rfl rfl)) ?_
     refine W.pure (v := (.bool (decide (x23 ≤ 90)))) rfl rfl (v_assign (oo rfl rfl)) ?_
     refine .nil ?_
     obtain rfl := Option.some.inj h32
     exact ⟨decide (x23 ≤ 90), _, rfl, O17, (GM.le.refl _), rfl⟩
    ·have h33 := neg_b g30 h28
     refine W.skip (gk rfl rfl gv31 rfl) rfl ?_
     refine W.skip (gk rfl rfl gv31 rfl) rfl ?_
     refine W.pure (v := (.bool false)) rfl rfl (v_pickF (oo rfl gv31) (oo rfl rfl)) ?_
     refine W.pure (v := (.bool false)) rfl rfl (v_assign (oo rfl rfl)) ?_
     refine .nil ?_
     obtain rfl := Option.some.inj h33
     exact ⟨false, _, rfl, O17, (GM.le.refl _), rfl⟩
   ·rintro σ35 H36 fr37 ⟨x34, G38, rfl, O39, s40, t42⟩
    have h43 := tu1_inv h29
    refine .seq ?_
    obtain ⟨q44, h45, h46⟩ := bd_inv h43
    refine AW.midT (fun σ' H' => ∃ (y1 : Bool) (G' : GM), y1 = q44 ∧ Ow G' H' (L) ∧ GM.le G38 G' ∧ σ' 33 = .bool y1) ?_ ?_
    ·refine .region ?_
     refine W.pure (v := (.bool x34)) rfl rfl (v_move (oo rfl t42)) ?_
     refine W.pure (v := (.bool (!x34))) rfl rfl (bool_not (a := x34) (oo rfl rfl)) ?_
     refine W.pure (v := (.bool (!x34))) rfl rfl (v_move (oo rfl rfl)) ?_
     refine W.splitAt (t := 22) (b := (!x34)) rfl (fun g47 gv48 => ?_) (fun g47 gv48 => ?_)
     ·have h49 := pos_inv g47 h45
      refine W.pure (v := (.int .i64 x12)) (gk rfl rfl gv48 rfl) rfl (v_move (oo rfl ((fr37 3 rfl).trans rfl))) ?_
      refine W.pure (v := (.bool (x12 == 0))) (gk rfl rfl gv48 rfl) rfl (v_int (oo rfl rfl) (oo rfl rfl) rfl) ?_
      refine W.pure (v := (.bool (x12 == 0))) (gk rfl rfl gv48 rfl) rfl (v_move (oo rfl rfl)) ?_
      refine W.splitAt (t := 25) (b := (x12 == 0)) rfl (fun g50 gv51 => ?_) (fun g50 gv51 => ?_)
      ·have h52 := pos_inv g50 h49
       refine W.skip (gk rfl rfl gv51 rfl) rfl ?_
       refine W.skip (gk rfl rfl gv51 rfl) rfl ?_
       refine W.pure (v := (.bool true)) (gk rfl rfl gv48 rfl) rfl (v_pickT (oo rfl gv51) (oo rfl rfl)) ?_
       refine W.pure (v := (.bool true)) (gk rfl rfl gv48 rfl) rfl (v_move (oo rfl rfl)) ?_
       refine W.skip (gk rfl rfl rfl rfl) rfl ?_
       refine W.skip (gk rfl rfl rfl rfl) rfl ?_
       refine W.pure (v := (.bool true)) (gk rfl rfl gv48 rfl) rfl (v_pickT (oo rfl rfl) (oo rfl rfl)) ?_
       refine W.pure (v := (.bool true)) rfl rfl (v_pickT (oo rfl gv48) (oo rfl rfl)) ?_
       refine .nil ?_
       obtain rfl := Option.some.inj h52
       exact ⟨true, _, rfl, O39, (GM.le.refl _), rfl⟩
      ·have h53 := neg_b g50 h49
       refine W.pure (v := (.int .u8 x23)) (gk rfl rfl gv51 rfl) rfl (v_move (oo rfl ((fr37 4 rfl).trans rfl))) ?_
       refine W.pure (v := (.bool (decide (x23 < 48)))) (gk rfl rfl gv51 rfl) rfl (v_int (oo rfl rfl) (oo rfl rfl) rfl) ?_
       refine W.pure (v := (.bool (decide (x23 < 48)))) (gk rfl rfl gv48 rfl) rfl (v_pickF (oo rfl gv51) (oo rfl rfl)) ?_
       refine W.pure (v := (.bool (decide (x23 < 48)))) (gk rfl rfl gv48 rfl) rfl (v_move (oo rfl rfl)) ?_
       refine W.splitAt (t := 29) (b := decide (x23 < 48)) rfl (fun g54 gv55 => ?_) (fun g54 gv55 => ?_)
       ·have h56 := pos_inv g54 h53
        refine W.skip (gk rfl rfl gv55 rfl) rfl ?_
        refine W.skip (gk rfl rfl gv55 rfl) rfl ?_
        refine W.pure (v := (.bool true)) (gk rfl rfl gv48 rfl) rfl (v_pickT (oo rfl gv55) (oo rfl rfl)) ?_
        refine W.pure (v := (.bool true)) rfl rfl (v_pickT (oo rfl gv48) (oo rfl rfl)) ?_
        refine .nil ?_
        obtain rfl := Option.some.inj h56
        exact ⟨true, _, rfl, O39, (GM.le.refl _), rfl⟩
       ·have h57 := neg_b g54 h53
        refine W.pure (v := (.int .u8 x23)) (gk rfl rfl gv55 rfl) rfl (v_move (oo rfl ((fr37 4 rfl).trans rfl))) ?_
        refine W.pure (v := (.bool (decide (x23 > 57)))) (gk rfl rfl gv55 rfl) rfl (v_int (oo rfl rfl) (oo rfl rfl) rfl) ?_
        refine W.pure (v := (.bool (decide (x23 > 57)))) (gk rfl rfl gv48 rfl) rfl (v_pickF (oo rfl gv55) (oo rfl rfl)) ?_
        refine W.pure (v := (.bool (decide (x23 > 57)))) rfl rfl (v_pickT (oo rfl gv48) (oo rfl rfl)) ?_
        refine .nil ?_
        obtain rfl := Option.some.inj h57
        exact ⟨decide (x23 > 57), _, rfl, O39, (GM.le.refl _), rfl⟩
     ·have h58 := neg_b g47 h45
      refine W.skip (gk rfl rfl gv48 rfl) rfl ?_
      refine W.skip (gk rfl rfl gv48 rfl) rfl ?_
      refine W.skip (gk rfl rfl gv48 rfl) rfl ?_
      refine W.skipU rfl rfl rfl rfl ?_
      refine W.skipU rfl rfl rfl rfl ?_
      refine W.skip (gk rfl rfl gv48 rfl) rfl ?_
      refine W.skip (gk rfl rfl gv48 rfl) rfl ?_
      refine W.skipU rfl rfl rfl rfl ?_
      refine W.skipU rfl rfl rfl rfl ?_
      refine W.skip (gk rfl rfl gv48 rfl) rfl ?_
      refine W.pure (v := (.bool false)) rfl rfl (v_pickF (oo rfl gv48) (oo rfl rfl)) ?_
      refine .nil ?_
      obtain rfl := Option.some.inj h58
      exact ⟨false, _, rfl, O39, (GM.le.refl _), rfl⟩
    ·rintro σ60 H61 fr62 ⟨x59, G63, rfl, O64, s65, t67⟩
     have h68 := tu1_inv h46
     refine .cond (b := x59) rfl t67 (fun g69 => ?_) (fun g69 => ?_)
     ·have h70 := pos_inv g69 h68
      refine .seq ?_
      refine .region ?_
      refine W.pure (v := (.bool false)) rfl rfl (v_assign (oo rfl rfl)) ?_
      refine .nil ?_
      refine .ret ?_
      obtain rfl := Option.some.inj h70
      have h71 := tu1_inv (outS_l h10)
      obtain rfl := Option.some.inj h71
      refine ret1R (P := Try.prog) (fn := Try.f24) (n := 42) (R := fun v H' => ∃ G', Ow G' H' (L) ∧ G.le G' ∧ v = .bool false) (v1 := (.bool false)) (by rfl) (rr_tmp (by rfl) (by exact rfl)) ?_
      exact ⟨_, O64, (GM.le.trans s3 (GM.le.trans s18 (GM.le.trans s40 s65))), rfl⟩
     ·have h72 := neg_b g69 h68
      refine .skip ?_
      refine .region ?_
      refine W.pure (v := (.int .i64 (kwrap .i64 (x12 + 1)))) rfl rfl (v_int (oo rfl ((fr62 9 rfl).trans ((fr37 9 rfl).trans t20))) (oo rfl rfl) rfl) ?_
      refine W.pure (v := (.int .i64 (kwrap .i64 (x12 + 1)))) rfl rfl (v_move (oo rfl rfl)) ?_
      refine .nil ?_
      exact ⟨k11, Nat.lt_succ_self _, ⟨kwrap .i64 (x12 + 1), _, h72, O64, (GM.le.trans s18 (GM.le.trans s40 s65)), rfl⟩⟩
  ·have h73 := neg_b g21 h19
   refine .exit ?_
   obtain rfl := Option.some.inj h73
   exact ⟨_, rfl, O17, s18⟩
 ·rintro σ74 H75 fr76 ⟨G77, rfl, O78, s79⟩
  have h81 := tu0_inv (outS_r h10)
  refine .seq ?_
  obtain ⟨q82, h83, h84⟩ := bd_inv h81
  refine AW.midT (fun σ' H' => ∃ (y1 : Bool) (G' : GM), y1 = q82 ∧ Ow G' H' (L) ∧ GM.le G77 G' ∧ σ' 2 = .bool y1) ?_ ?_
  ·refine .region ?_
   refine W.pure (v := (.string p0)) rfl rfl (v_move (oo rfl ((fr76 0 rfl).trans rfl))) ?_
   refine W.pure (v := (.bool (!(sEq p0 (⟨#[]⟩ : ByteArray))))) rfl rfl (vs_neq (oo rfl rfl) (oo rfl rfl)) ?_
   refine W.pure (v := (.bool (!(sEq p0 (⟨#[]⟩ : ByteArray))))) rfl rfl (v_move (oo rfl rfl)) ?_
   refine W.splitAt (t := 37) (b := (!(sEq p0 (⟨#[]⟩ : ByteArray)))) rfl (fun g85 gv86 => ?_) (fun g85 gv86 => ?_)
   ·have h87 := pos_inv g85 h83
    refine W.pure (v := (.string p0)) (gk rfl rfl gv86 rfl) rfl (v_move (oo rfl ((fr76 0 rfl).trans rfl))) ?_
    refine W.pure (v := (.int .i64 (p0.size : Int))) (gk rfl rfl gv86 rfl) rfl (len_str (oo rfl rfl) un9) ?_
    refine W.pure (v := (.bool (decide ((p0.size : Int) ≤ 8)))) (gk rfl rfl gv86 rfl) rfl (v_int (oo rfl rfl) (oo rfl rfl) rfl) ?_
    refine W.pure (v := (.bool (decide ((p0.size : Int) ≤ 8)))) rfl rfl (v_pickT (oo rfl gv86) (oo rfl rfl)) ?_
    refine W.pure (v := (.bool (decide ((p0.size : Int) ≤ 8)))) rfl rfl (v_assign (oo rfl rfl)) ?_
    refine .nil ?_
    obtain rfl := Option.some.inj h87
    exact ⟨decide ((p0.size : Int) ≤ 8), _, rfl, O78, (GM.le.refl _), rfl⟩
   ·have h88 := neg_b g85 h83
    refine W.skip (gk rfl rfl gv86 rfl) rfl ?_
    refine W.skip (gk rfl rfl gv86 rfl) rfl ?_
    refine W.skip (gk rfl rfl gv86 rfl) rfl ?_
    refine W.pure (v := (.bool false)) rfl rfl (v_pickF (oo rfl gv86) (oo rfl rfl)) ?_
    refine W.pure (v := (.bool false)) rfl rfl (v_assign (oo rfl rfl)) ?_
    refine .nil ?_
    obtain rfl := Option.some.inj h88
    exact ⟨false, _, rfl, O78, (GM.le.refl _), rfl⟩
  ·rintro σ90 H91 fr92 ⟨x89, G93, rfl, O94, s95, t97⟩
   have h98 := tu1_inv h84
   refine .ret ?_
   obtain rfl := Option.some.inj h98
   refine ret1R (P := Try.prog) (fn := Try.f24) (n := 42) (R := fun v H' => ∃ G', Ow G' H' (L) ∧ G.le G' ∧ v = .bool x89) (v1 := (.bool x89)) (by rfl) (rr_tmp (by rfl) (by exact t97)) ?_
   exact ⟨_, O94, (GM.le.trans s3 (GM.le.trans s79 s95)), rfl⟩
def g_slices_Index_string_string_l0 (K : Nat) (p0 : List ByteArray) (p1 : ByteArray) : Nat → Int → Option (Int ⊕ Unit)
 | 0, _ => none
 | k + 1, x5 => (if (decide (x5 < (List.length p0 : Int))) = true then ((idx p0 x5).bind fun x16 => (if (sEq p1 x16) = true then some (.inl x5) else g_slices_Index_string_string_l0 K p0 p1 k (kwrap .i64 (x5 + 1)))) else some (.inr ()))
def g_slices_Index_string_string (K : Nat) (p0 : List ByteArray) (p1 : ByteArray) : Option Int := (bindS (g_slices_Index_string_string_l0 K p0 p1 K 0) (tu1 fun a33 => some a33) (tu0 (some (-1))))
set_option maxHeartbeats 4000000 in
theorem g_slices_Index_string_string_ok (K : Nat) {G : GM} {H : AH} {L : List Pc} (v0 : Value) (p0 : List ByteArray) (hp0 : (rSl rS).rep G [v0] p0) (p1 : ByteArray) (O : Ow G H (L)) (r : Int) (h : g_slices_Index_string_string K p0 p1 = some r) :
  CR Try.prog 82 [v0, (.string p1)] G H (L) (fun v G' _ => v = .int .i64 r) := by
 unfold g_slices_Index_string_string at h
 refine CR.of (calls_of_AW (n := 19) (fn := Try.f82) (R := fun v H' => ∃ G', Ow G' H' (L) ∧ G.le G' ∧ v = .int .i64 r) (by kernel_rfl) rfl rfl ?_)
 refine .seq ?_
 refine .region ?_
 refine W.pure (v := (.int .i64 0)) rfl rfl (v_assign (oo rfl rfl)) ?_
 refine .nil ?_
 refine .seq ?_
 refine .seq ?_
 refine .region ?_
 refine W.pure (v := v0) rfl rfl (v_move (oo rfl rfl)) ?_
 refine W.pure (v := (.int .i64 (List.length p0 : Int))) rfl rfl (len_sl (oo rfl rfl) (sl_len hp0) (elemT_inv el41)) ?_
 refine W.pure (v := (.int .i64 0)) rfl rfl (v_move (oo rfl rfl)) ?_
 refine .nil ?_
 obtain ⟨q1, h2, h3⟩ := bindS_inv h
 refine AW.midT (fun σ' H' => ∃  (G' : GM), (.inr ()) = q1 ∧ Ow G' H' (L) ∧ GM.le G G') ?_ ?_
 ·refine .block ?_
  refine AW.loop (α := Nat) (fun k' σ' H' => ∃ (y1 : Int) (G' : GM), g_slices_Index_string_string_l0 K p0 p1 k' y1 = some q1 ∧ Ow G' H' (L) ∧ GM.le G G' ∧ σ' 8 = .int .i64 y1) (fun k' => k') K ⟨0, _, h2, O, (GM.le.refl _), rfl⟩ ?_
  rintro k4
  rintro σ6 H7 fr8 ⟨x5, G9, h12, O10, s11, t13⟩
  rcases k4 with _ | k4
  ·exact none_absurd h12
  rw [g_slices_Index_string_string_l0] at h12
  refine .seq ?_
  refine .region ?_
  refine W.pure (v := (.bool (decide (x5 < (List.length p0 : Int))))) rfl rfl (v_int (oo rfl t13) (oo rfl ((fr8 7 rfl).trans rfl)) rfl) ?_
  refine .nil ?_
  refine .seq ?_
  refine .cond (b := decide (x5 < (List.length p0 : Int))) rfl rfl (fun g14 => ?_) (fun g14 => ?_)
  ·have h15 := pos_inv g14 h12
   refine .skip ?_
   refine .seq ?_
   refine .block ?_
   refine .seq ?_
   refine .region ?_
   refine W.pure (v := (.int .i64 x5)) rfl rfl (v_move (oo rfl t13)) ?_
   refine W.pure (v := (.int .i64 x5)) rfl rfl (v_assign (oo rfl rfl)) ?_
   refine .nil ?_
   refine .seq ?_
   refine .region ?_
   refine W.pure (v := (.string p1)) rfl rfl (v_move (oo rfl ((fr8 1 rfl).trans rfl))) ?_
   refine W.pure (v := v0) rfl rfl (v_move (oo rfl ((fr8 0 rfl).trans rfl))) ?_
   refine W.pure (v := (.int .i64 x5)) rfl rfl (v_move (oo rfl rfl)) ?_
   obtain ⟨x16, i17, h18⟩ := bd_inv h15
   have j19 := idx_inv i17
   refine W.pure (v := (selem v0 (Int.toNat x5 * 1))) rfl rfl (v_idx el41 sz9 (oo rfl rfl) (oo rfl rfl) (sl_len (RT.mono _ s11 hp0)) j19.1 j19.2.1) ?_
   refine W.load1 (v := (.string x16)) (r := []) rfl rfl ag9 (pt_px rfl (At.str (At.le (At.le (sl_idx hp0 j19.2.2) s11 s11) (GM.le.refl _) O10.fro))) ?_
   refine W.pure (v := (.bool (sEq p1 x16))) rfl rfl (vs_eql (oo rfl rfl) (oo rfl rfl)) ?_
   refine .nil ?_
   refine .cond (b := sEq p1 x16) rfl rfl (fun g20 => ?_) (fun g20 => ?_)
   ·have h21 := pos_inv g20 h18
    refine .seq ?_
    refine .region ?_
    refine W.pure (v := (.int .i64 x5)) rfl rfl (v_move (oo rfl rfl)) ?_
    refine W.pure (v := (.int .i64 x5)) rfl rfl (v_assign (oo rfl rfl)) ?_
    refine .nil ?_
    refine .ret ?_
    obtain rfl := Option.some.inj h21
    have h22 := tu1_inv (outS_l h3)
    obtain rfl := Option.some.inj h22
    refine ret1R (P := Try.prog) (fn := Try.f82) (n := 19) (R := fun v H' => ∃ G', Ow G' H' (L) ∧ G.le G' ∧ v = .int .i64 x5) (v1 := (.int .i64 x5)) (by rfl) (rr_tmp (by rfl) (by exact rfl)) ?_
    exact ⟨_, O10, s11, rfl⟩
   ·have h23 := neg_b g20 h18
    refine .skip ?_
    refine .region ?_
    refine W.pure (v := (.int .i64 (kwrap .i64 (x5 + 1)))) rfl rfl (v_int (oo rfl t13) (oo rfl rfl) rfl) ?_
    refine W.pure (v := (.int .i64 (kwrap .i64 (x5 + 1)))) rfl rfl (v_move (oo rfl rfl)) ?_
    refine .nil ?_
    exact ⟨k4, Nat.lt_succ_self _, ⟨kwrap .i64 (x5 + 1), _, h23, O10, s11, rfl⟩⟩
  ·have h24 := neg_b g14 h12
   refine .exit ?_
   obtain rfl := Option.some.inj h24
   exact ⟨_, rfl, O10, s11⟩
 ·rintro σ25 H26 fr27 ⟨G28, rfl, O29, s30⟩
  have h32 := tu0_inv (outS_r h3)
  refine .seq ?_
  refine .region ?_
  refine W.pure (v := (.int .i64 (-1))) rfl rfl (v_assign (oo rfl rfl)) ?_
  refine .nil ?_
  refine .ret ?_
  obtain rfl := Option.some.inj h32
  refine ret1R (P := Try.prog) (fn := Try.f82) (n := 19) (R := fun v H' => ∃ G', Ow G' H' (L) ∧ G.le G' ∧ v = .int .i64 (-1)) (v1 := (.int .i64 (-1))) (by rfl) (rr_tmp (by rfl) (by exact rfl)) ?_
  exact ⟨_, O29, s30, rfl⟩
def g_slices_Contains_string_string (K : Nat) (p0 : List ByteArray) (p1 : ByteArray) : Option Bool := ((g_slices_Index_string_string K p0 p1).bind fun x1 => some (decide (x1 ≥ 0)))
set_option maxHeartbeats 4000000 in
theorem g_slices_Contains_string_string_ok (K : Nat) {G : GM} {H : AH} {L : List Pc} (v0 : Value) (p0 : List ByteArray) (hp0 : (rSl rS).rep G [v0] p0) (p1 : ByteArray) (O : Ow G H (L)) (r : Bool) (h : g_slices_Contains_string_string K p0 p1 = some r) :
  CR Try.prog 117 [v0, (.string p1)] G H (L) (fun v G' _ => v = .bool r) := by
 unfold g_slices_Contains_string_string at h
 refine CR.of (calls_of_AW (n := 9) (fn := Try.f117) (R := fun v H' => ∃ G', Ow G' H' (L) ∧ G.le G' ∧ v = .bool r) (by kernel_rfl) rfl rfl ?_)
 refine .seq ?_
 refine .region ?_
 refine W.pure (v := (.bool false)) rfl rfl (v_assign (oo rfl rfl)) ?_
 refine .nil ?_
 refine .seq ?_
 refine .region ?_
 refine W.pure (v := v0) rfl rfl (v_move (oo rfl rfl)) ?_
 refine W.pure (v := (.string p1)) rfl rfl (v_move (oo rfl rfl)) ?_
 obtain ⟨x1, i2, h3⟩ := bd_inv h
 refine W.lo rfl rfl (Lo.callP (ps := []) (ps' := []) rfl (fn := Try.f82) (by kernel_rfl) rfl (mc rfl (mc rfl mn)) O (fun L' O' => g_slices_Index_string_string_ok K v0 p0 hp0 p1 O' _ i2)) ?_
 rintro v10 H11 ⟨G4, O5, s6, sm9, rfl⟩
 replace O5 : Ow G4 H11 (L) := O5
 refine W.pure (v := (.bool (decide (x1 ≥ 0)))) rfl rfl (v_int (oo rfl rfl) (oo rfl rfl) rfl) ?_
 refine W.pure (v := (.bool (decide (x1 ≥ 0)))) rfl rfl (v_assign (oo rfl rfl)) ?_
 refine .nil ?_
 refine .ret ?_
 obtain rfl := Option.some.inj h3
 refine ret1R (P := Try.prog) (fn := Try.f117) (n := 9) (R := fun v H' => ∃ G', Ow G' H' (L) ∧ G.le G' ∧ v = .bool (decide (x1 ≥ 0))) (v1 := (.bool (decide (x1 ≥ 0)))) (by rfl) (rr_tmp (by rfl) (by exact rfl)) ?_
 exact ⟨_, O5, s6, rfl⟩
structure Netmodel_names where
 l : List ByteArray
 deriving DecidableEq, Inhabited
def TR_Netmodel_names_0 : RT (Netmodel_names × Value) := rIso rV (fun s : Netmodel_names × Value => (s.2))
theorem p_TR_Netmodel_names_0_l : Proj TR_Netmodel_names_0 0 rV (fun x => x.2) := by
 have h := (Proj.iso rV (fun s : Netmodel_names × Value => (s.2))).comp (Proj.self _)
 exact h
theorem u_TR_Netmodel_names_0_l : Put TR_Netmodel_names_0 0 rV (fun x y => (x.1, y)) := by
 have h := Put.comp (Proj.iso rV (fun s : Netmodel_names × Value => (s.2))) (Put.iso rV (fun s : Netmodel_names × Value => (s.2)) (fun x q => (x.1, q)) (fun _ _ => rfl)) (Put.self _)
 exact h
def g_netmodel_names_add (K : Nat) (p0 : Netmodel_names) (p1 : ByteArray) : Option (Int × Netmodel_names) := ((g_netmodel_Name K p1).bind fun x1 => (if (!x1) = true then some (5, (Netmodel_names.mk p0.l)) else ((g_slices_Contains_string_string K p0.l p1).bind fun x15 => (if x15 = true then some (7, (Netmodel_names.mk p0.l)) else (if List.length p0.l + List.length [p1] ≤ 16777216 then some (0, (Netmodel_names.mk (p0.l ++ [p1]))) else none)))))
set_option maxHeartbeats 4000000 in
theorem g_netmodel_names_add_ok (K : Nat) {G : GM} {H : AH} {L : List Pc} (b0 : Nat) (v0 : Value) (p0 : Netmodel_names) (p1 : ByteArray) (O : Ow G H (eVar b0 106 TR_Netmodel_names_0 (p0, v0) :: eSl v0 9 rS p0.l :: L)) (r : Int × Netmodel_names) (h : g_netmodel_names_add K p0 p1 = some r) :
  CRF Try.prog 67 [.pointer (some ⟨b0, 0, none⟩), (.string p1)] G H (fun wl => (eVar b0 106 TR_Netmodel_names_0 (r.2, wl) :: eSl wl 9 rS r.2.l :: L)) (fun wl v G' => v = .int .i64 r.1) := by
 unfold g_netmodel_names_add at h
 refine CRF.of (calls_of_AW (n := 24) (fn := Try.f67) (R := fun v H' => ∃ wl G', Ow G' H' (eVar b0 106 TR_Netmodel_names_0 (r.2, wl) :: eSl wl 9 rS r.2.l :: L) ∧ G.le G' ∧ v = .int .i64 r.1) (by kernel_rfl) rfl rfl ?_)
 refine .seq ?_
 refine .region ?_
 refine W.pure (v := (.int .i64 0)) rfl rfl (v_assign (oo rfl rfl)) ?_
 refine .nil ?_
 refine .seq ?_
 refine .seq ?_
 refine .region ?_
 refine W.pure (v := (.string p1)) rfl rfl (v_move (oo rfl rfl)) ?_
 obtain ⟨x1, i2, h3⟩ := bd_inv h
 refine W.lo rfl rfl (Lo.callP (ps := []) (ps' := []) rfl (fn := Try.f24) (by kernel_rfl) rfl (mc rfl mn) O (fun L' O' => g_netmodel_Name_ok K p1 O' _ i2)) ?_
 rintro v10 H11 ⟨G4, O5, s6, sm9, rfl⟩
 replace O5 : Ow G4 H11 (eVar b0 106 TR_Netmodel_names_0 (p0, v0) :: eSl v0 9 rS p0.l :: L) := O5
 refine W.pure (v := (.bool (!x1))) rfl rfl (bool_not (a := x1) (oo rfl rfl)) ?_
 refine .nil ?_
 refine .cond (b := (!x1)) rfl rfl (fun g12 => ?_) (fun g12 => ?_)
 ·have h13 := pos_inv g12 h3
  refine .seq ?_
  refine .region ?_
  refine W.pure (v := (.int .i64 5)) rfl rfl (v_assign (oo rfl rfl)) ?_
  refine .nil ?_
  refine .ret ?_
  obtain rfl := Option.some.inj h13
  refine ret1R (P := Try.prog) (fn := Try.f67) (n := 24) (R := fun v H' => ∃ wl G', Ow G' H' (eVar b0 106 TR_Netmodel_names_0 ((5, (Netmodel_names.mk p0.l)).2, wl) :: eSl wl 9 rS (5, (Netmodel_names.mk p0.l)).2.l :: L) ∧ G.le G' ∧ v = .int .i64 (5, (Netmodel_names.mk p0.l)).1) (v1 := (.int .i64 5)) (by rfl) (rr_tmp (by rfl) (by exact rfl)) ?_
  exact ⟨v0, _, O5, s6, rfl⟩
 ·have h14 := neg_b g12 h3
  refine .skip ?_
  refine .seq ?_
  refine .seq ?_
  refine .region ?_
  refine W.pure (v := (.pointer (some ⟨b0, 0, none⟩))) rfl rfl (v_move (oo rfl rfl)) ?_
  refine W.pure (v := (.pointer (some ⟨b0, 0, none⟩))) rfl rfl (v_nilck (oo rfl rfl) (O5.atVar (j := 0) rfl)) ?_
  refine W.pure (v := (padd (.pointer (some ⟨b0, 0, none⟩)) 0)) rfl rfl (v_fldA fl106_0 (oo rfl rfl) (O5.atVar (j := 0) rfl)) ?_
  refine W.load1 (v := v0) (r := []) rfl rfl ag41 (pt_px rfl (At.raw (At.proj (O5.atVar (j := 0) rfl) p_TR_Netmodel_names_0_l))) ?_
  refine W.pure (v := (.string p1)) rfl rfl (v_move (oo rfl rfl)) ?_
  obtain ⟨x15, i16, h17⟩ := bd_inv h14
  refine W.lo rfl rfl (Lo.callB (j := 1) rfl rfl (fn := Try.f117) (by kernel_rfl) rfl (mc rfl (mc rfl mn)) O5 (fun G' L' hG O' hB => g_slices_Contains_string_string_ok K v0 p0.l hB p1 O' _ i16)) ?_
  rintro v24 H25 ⟨G18, O19, s20, sm23, rfl⟩
  replace O19 : Ow G18 H25 (eVar b0 106 TR_Netmodel_names_0 (p0, v0) :: eSl v0 9 rS p0.l :: L) := O19
  refine .nil ?_
  refine .cond (b := x15) rfl rfl (fun g26 => ?_) (fun g26 => ?_)
  ·have h27 := pos_inv g26 h17
   refine .seq ?_
   refine .region ?_
   refine W.pure (v := (.int .i64 7)) rfl rfl (v_assign (oo rfl rfl)) ?_
   refine .nil ?_
   refine .ret ?_
   obtain rfl := Option.some.inj h27
   refine ret1R (P := Try.prog) (fn := Try.f67) (n := 24) (R := fun v H' => ∃ wl G', Ow G' H' (eVar b0 106 TR_Netmodel_names_0 ((7, (Netmodel_names.mk p0.l)).2, wl) :: eSl wl 9 rS (7, (Netmodel_names.mk p0.l)).2.l :: L) ∧ G.le G' ∧ v = .int .i64 (7, (Netmodel_names.mk p0.l)).1) (v1 := (.int .i64 7)) (by rfl) (rr_tmp (by rfl) (by exact rfl)) ?_
   exact ⟨v0, _, O19, (GM.le.trans s6 s20), rfl⟩
  ·have h28 := neg_b g26 h17
   refine .skip ?_
   refine .seq ?_
   refine .region ?_
   refine W.pure (v := (.pointer (some ⟨b0, 0, none⟩))) rfl rfl (v_move (oo rfl rfl)) ?_
   refine W.pure (v := (.pointer (some ⟨b0, 0, none⟩))) rfl rfl (v_move (oo rfl rfl)) ?_
   refine W.pure (v := (.pointer (some ⟨b0, 0, none⟩))) rfl rfl (v_nilck (oo rfl rfl) (O19.atVar (j := 0) rfl)) ?_
   refine W.pure (v := (padd (.pointer (some ⟨b0, 0, none⟩)) 0)) rfl rfl (v_fldA fl106_0 (oo rfl rfl) (O19.atVar (j := 0) rfl)) ?_
   refine W.load1 (v := v0) (r := []) rfl rfl ag41 (pt_px rfl (At.raw (At.proj (O19.atVar (j := 0) rfl) p_TR_Netmodel_names_0_l))) ?_
   refine W.pure (v := (.string p1)) rfl rfl (v_move (oo rfl rfl)) ?_
   refine W.lo rfl rfl (Lo.buildSlice (r := rS) (vs := [(.string p1)]) (xs := [p1]) el41 ze9 sz9 (by kernel_rfl) rfl (qc rfl qn) rfl (.cons rfl .nil) O19) ?_
   rintro v31 H32 ⟨O29, sm30⟩
   obtain ⟨es34, e35, e36⟩ := src_own (j := 0) rfl O29
   obtain ⟨g37, h38⟩ := gd_inv h28
   refine W.lo rfl rfl (Lo.append (j := 2) (v := v0) rfl rfl el41 ni41 ze9 sz9 by9 (by decide) (by decide) rfl e35 e36 g37 O29) ?_
   rintro v40 H41 ⟨O33, sm39⟩
   replace O33 : Ow G18 H41 (eSl v31 9 rS [p1] :: eVar b0 106 TR_Netmodel_names_0 (p0, v0) :: eSl v40 9 rS (p0.l ++ [p1]) :: L) := O33
   refine W.pure (v := (.pointer (some ⟨b0, 0, none⟩))) rfl rfl (v_nilck (oo rfl rfl) (O33.atVar (j := 1) rfl)) ?_
   refine W.pure (v := (padd (.pointer (some ⟨b0, 0, none⟩)) 0)) rfl rfl (v_fldA fl106_0 (oo rfl rfl) (O33.atVar (j := 1) rfl)) ?_
   refine W.lo rfl rfl (Lo.storeVar (j := 1) (s := rV) (y0 := v40) (v := v40) (o := 0) rfl ((Put.at u_TR_Netmodel_names_0_l _ _)) rfl sz41 rfl (by omega) rfl (rv_ok (O33.slLen (j := 2) rfl)) O33) ?_
   rintro v44 H45 ⟨O42, sm43⟩
   replace O42 : Ow G18 H45 (eSl v31 9 rS [p1] :: eVar b0 106 TR_Netmodel_names_0 (p0, v40) :: eSl v40 9 rS (p0.l ++ [p1]) :: L) := O42
   refine .nil ?_
   refine .seq ?_
   refine .region ?_
   refine W.pure (v := (.int .i64 0)) rfl rfl (v_assign (oo rfl rfl)) ?_
   refine .nil ?_
   refine .ret ?_
   have O46 : Ow G18 H45 (eVar b0 106 TR_Netmodel_names_0 (p0, v40) :: eSl v40 9 rS (p0.l ++ [p1]) :: L) := O42.drop 0
   obtain rfl := Option.some.inj h38
   refine ret1R (P := Try.prog) (fn := Try.f67) (n := 24) (R := fun v H' => ∃ wl G', Ow G' H' (eVar b0 106 TR_Netmodel_names_0 ((0, (Netmodel_names.mk (p0.l ++ [p1]))).2, wl) :: eSl wl 9 rS (0, (Netmodel_names.mk (p0.l ++ [p1]))).2.l :: L) ∧ G.le G' ∧ v = .int .i64 (0, (Netmodel_names.mk (p0.l ++ [p1]))).1) (v1 := (.int .i64 0)) (by rfl) (rr_tmp (by rfl) (by exact rfl)) ?_
   exact ⟨v40, _, O46, (GM.le.trans s6 s20), rfl⟩
def g_netmodel_ends_l0 (K : Nat) (p0 : Network) (p1 : List ByteArray) : Nat → Int → Option (Int ⊕ Unit)
 | 0, _ => none
 | k + 1, x10 => (if (decide (x10 < (List.length p1 : Int))) = true then ((idx p1 x10).bind fun x21 => ((g_slices_Contains_string_string K p0.Nodes x21).bind fun x28 => (if (!x28) = true then some (.inl 6) else g_netmodel_ends_l0 K p0 p1 k (kwrap .i64 (x10 + 1))))) else some (.inr ()))
def g_netmodel_ends (K : Nat) (p0 : Network) (p1 : List ByteArray) : Option Int := (bindS (g_netmodel_ends_l0 K p0 p1 K 0) (tu1 fun a54 => some a54) (tu0 (some 0)))
set_option maxHeartbeats 4000000 in
theorem g_netmodel_ends_ok (K : Nat) {G : GM} {H : AH} {L : List Pc} (v0 : List Value) (p0 : Network) (hp0 : T_Network.rep G v0 p0) (v1 : Value) (p1 : List ByteArray) (hp1 : (rSl rS).rep G [v1] p1) (O : Ow G H (L)) (r : Int) (h : g_netmodel_ends K p0 p1 = some r) :
  CR Try.prog 118 [.agg (List.toArray v0), v1] G H (L) (fun v G' _ => v = .int .i64 r) := by
 unfold g_netmodel_ends at h
 refine CR.of (calls_of_AW (n := 19) (fn := Try.f118) (R := fun v H' => ∃ G', Ow G' H' (L) ∧ G.le G' ∧ v = .int .i64 r) (by kernel_rfl) rfl rfl ?_)
 refine .seq ?_
 refine .region ?_
 refine W.lo rfl rfl (Lo.box (r := T_Network) (x0 := p0) (v := (.agg (List.toArray v0))) rfl rfl hp0 O) ?_
 rintro v4 H5 ⟨b2, rfl, O1, sm3⟩
 refine W.pure (v := (.int .i64 0)) rfl rfl (v_assign (oo rfl rfl)) ?_
 refine .nil ?_
 refine .seq ?_
 refine .seq ?_
 refine .region ?_
 refine W.pure (v := v1) rfl rfl (v_move (oo rfl rfl)) ?_
 refine W.pure (v := (.int .i64 (List.length p1 : Int))) rfl rfl (len_sl (oo rfl rfl) (sl_len hp1) (elemT_inv el41)) ?_
 refine W.pure (v := (.int .i64 0)) rfl rfl (v_move (oo rfl rfl)) ?_
 refine .nil ?_
 obtain ⟨q6, h7, h8⟩ := bindS_inv h
 refine AW.midT (fun σ' H' => ∃  (G' : GM), (.inr ()) = q6 ∧ Ow G' H' (eVar b2 48 T_Network p0 :: L) ∧ GM.le G G') ?_ ?_
 ·refine .block ?_
  refine AW.loop (α := Nat) (fun k' σ' H' => ∃ (y1 : Int) (G' : GM), g_netmodel_ends_l0 K p0 p1 k' y1 = some q6 ∧ Ow G' H' (eVar b2 48 T_Network p0 :: L) ∧ GM.le G G' ∧ σ' 9 = .int .i64 y1) (fun k' => k') K ⟨0, _, h7, O1, (GM.le.refl _), rfl⟩ ?_
  rintro k9
  rintro σ11 H12 fr13 ⟨x10, G14, h17, O15, s16, t18⟩
  rcases k9 with _ | k9
  ·exact none_absurd h17
  rw [g_netmodel_ends_l0] at h17
  refine .seq ?_
  refine .region ?_
  refine W.pure (v := (.bool (decide (x10 < (List.length p1 : Int))))) rfl rfl (v_int (oo rfl t18) (oo rfl ((fr13 8 rfl).trans rfl)) rfl) ?_
  refine .nil ?_
  refine .seq ?_
  refine .cond (b := decide (x10 < (List.length p1 : Int))) rfl rfl (fun g19 => ?_) (fun g19 => ?_)
  ·have h20 := pos_inv g19 h17
   refine .skip ?_
   refine .seq ?_
   refine .block ?_
   refine .seq ?_
   refine .region ?_
   obtain ⟨x21, i22, h23⟩ := bd_inv h20
   have j24 := idx_inv i22
   refine W.pure (v := (selem v1 (Int.toNat x10 * 1))) rfl rfl (v_idx el41 sz9 (oo rfl ((fr13 7 rfl).trans rfl)) (oo rfl t18) (sl_len (RT.mono _ s16 hp1)) j24.1 j24.2.1) ?_
   refine W.load1 (v := (.string x21)) (r := []) rfl rfl ag9 (pt_px rfl (At.str (At.le (At.le (sl_idx hp1 j24.2.2) s16 s16) (GM.le.refl _) O15.fro))) ?_
   refine W.pure (v := (.string x21)) rfl rfl (v_assign (oo rfl rfl)) ?_
   refine .nil ?_
   refine .seq ?_
   refine .region ?_
   refine W.pure (v := (padd (.pointer (some ⟨b2, 0, none⟩)) 0)) rfl rfl (v_fldA fl48_0 (oo rfl ((fr13 2 rfl).trans rfl)) (O15.atVar (j := 0) rfl)) ?_
   obtain ⟨w25, p26, f27⟩ := At.sl (At.proj (O15.atVar (j := 0) rfl) p_Network_Nodes)
   refine W.load1 (v := w25) (r := []) rfl rfl ag41 (pt_px rfl p26) ?_
   refine W.pure (v := (.string x21)) rfl rfl (v_move (oo rfl rfl)) ?_
   obtain ⟨x28, i29, h30⟩ := bd_inv h23
   refine W.lo rfl rfl (Lo.callP (ps := []) (ps' := []) rfl (fn := Try.f117) (by kernel_rfl) rfl (mc rfl (mc rfl mn)) O15 (fun L' O' => g_slices_Contains_string_string_ok K w25 p0.Nodes f27 x21 O' _ i29)) ?_
   rintro v37 H38 ⟨G31, O32, s33, sm36, rfl⟩
   replace O32 : Ow G31 H38 (eVar b2 48 T_Network p0 :: L) := O32
   refine W.pure (v := (.bool (!x28))) rfl rfl (bool_not (a := x28) (oo rfl rfl)) ?_
   refine .nil ?_
   refine .cond (b := (!x28)) rfl rfl (fun g39 => ?_) (fun g39 => ?_)
   ·have h40 := pos_inv g39 h30
    refine .seq ?_
    refine .region ?_
    refine W.pure (v := (.int .i64 6)) rfl rfl (v_assign (oo rfl rfl)) ?_
    refine .nil ?_
    refine .ret ?_
    have O41 : Ow G31 H38 (L) := O32.drop 0
    obtain rfl := Option.some.inj h40
    have h42 := tu1_inv (outS_l h8)
    obtain rfl := Option.some.inj h42
    refine ret1R (P := Try.prog) (fn := Try.f118) (n := 19) (R := fun v H' => ∃ G', Ow G' H' (L) ∧ G.le G' ∧ v = .int .i64 6) (v1 := (.int .i64 6)) (by rfl) (rr_tmp (by rfl) (by exact rfl)) ?_
    exact ⟨_, O41, (GM.le.trans s16 s33), rfl⟩
   ·have h43 := neg_b g39 h30
    refine .skip ?_
    refine .region ?_
    refine W.pure (v := (.int .i64 (kwrap .i64 (x10 + 1)))) rfl rfl (v_int (oo rfl t18) (oo rfl rfl) rfl) ?_
    refine W.pure (v := (.int .i64 (kwrap .i64 (x10 + 1)))) rfl rfl (v_move (oo rfl rfl)) ?_
    refine .nil ?_
    exact ⟨k9, Nat.lt_succ_self _, ⟨kwrap .i64 (x10 + 1), _, h43, O32, (GM.le.trans s16 s33), rfl⟩⟩
  ·have h44 := neg_b g19 h17
   refine .exit ?_
   obtain rfl := Option.some.inj h44
   exact ⟨_, rfl, O15, s16⟩
 ·rintro σ45 H46 fr47 ⟨G48, rfl, O49, s50⟩
  have h52 := tu0_inv (outS_r h8)
  refine .seq ?_
  refine .region ?_
  refine W.pure (v := (.int .i64 0)) rfl rfl (v_assign (oo rfl rfl)) ?_
  refine .nil ?_
  refine .ret ?_
  have O53 : Ow G48 H46 (L) := O49.drop 0
  obtain rfl := Option.some.inj h52
  refine ret1R (P := Try.prog) (fn := Try.f118) (n := 19) (R := fun v H' => ∃ G', Ow G' H' (L) ∧ G.le G' ∧ v = .int .i64 0) (v1 := (.int .i64 0)) (by rfl) (rr_tmp (by rfl) (by exact rfl)) ?_
  exact ⟨_, O53, s50, rfl⟩
def g_netmodel_device (K : Nat) (p0 : Network) (p1 : Netmodel_names) (p2 : ByteArray) (p3 : List ByteArray) : Option (Int × Netmodel_names) := ((g_netmodel_names_add K (Netmodel_names.mk p1.l) p2).bind fun x9 => (if (x9.1 != 0) = true then some (x9.1, (Netmodel_names.mk x9.2.l)) else ((g_netmodel_ends K p0 p3).bind fun x27 => some (x27, (Netmodel_names.mk x9.2.l)))))
set_option maxHeartbeats 4000000 in
theorem g_netmodel_device_ok (K : Nat) {G : GM} {H : AH} {L : List Pc} (v0 : List Value) (p0 : Network) (hp0 : T_Network.rep G v0 p0) (b1 : Nat) (v1 : Value) (p1 : Netmodel_names) (p2 : ByteArray) (v3 : Value) (p3 : List ByteArray) (hp3 : (rSl rS).rep G [v3] p3) (O : Ow G H (eVar b1 106 TR_Netmodel_names_0 (p1, v1) :: eSl v1 9 rS p1.l :: L)) (r : Int × Netmodel_names) (h : g_netmodel_device K p0 p1 p2 p3 = some r) :
  CRF Try.prog 68 [.agg (List.toArray v0), .pointer (some ⟨b1, 0, none⟩), (.string p2), v3] G H (fun wl => (eVar b1 106 TR_Netmodel_names_0 (r.2, wl) :: eSl wl 9 rS r.2.l :: L)) (fun wl v G' => v = .int .i64 r.1) := by
 unfold g_netmodel_device at h
 refine CRF.of (calls_of_AW (n := 19) (fn := Try.f68) (R := fun v H' => ∃ wl G', Ow G' H' (eVar b1 106 TR_Netmodel_names_0 (r.2, wl) :: eSl wl 9 rS r.2.l :: L) ∧ G.le G' ∧ v = .int .i64 r.1) (by kernel_rfl) rfl rfl ?_)
 refine .seq ?_
 refine .region ?_
 refine W.lo rfl rfl (Lo.box (r := T_Network) (x0 := p0) (v := (.agg (List.toArray v0))) rfl rfl hp0 O) ?_
 rintro v4 H5 ⟨b2, rfl, O1, sm3⟩
 refine W.pure (v := (.int .i64 0)) rfl rfl (v_assign (oo rfl rfl)) ?_
 refine .nil ?_
 refine .seq ?_
 refine .seq ?_
 refine .region ?_
 refine W.pure (v := (.pointer (some ⟨b1, 0, none⟩))) rfl rfl (v_move (oo rfl rfl)) ?_
 refine W.pure (v := (.string p2)) rfl rfl (v_move (oo rfl rfl)) ?_
 have O6 : Ow G H5 (eVar b2 48 T_Network p0 :: eVar b1 106 TR_Netmodel_names_0 (p1, v1) :: eSl v1 9 rS p1.l :: L) := O1.front (j := 0) rfl
 have O7 : Ow G H5 (eSl v1 9 rS p1.l :: eVar b2 48 T_Network p0 :: eVar b1 106 TR_Netmodel_names_0 (p1, v1) :: L) := O6.front (j := 2) rfl
 have O8 : Ow G H5 (eVar b1 106 TR_Netmodel_names_0 (p1, v1) :: eSl v1 9 rS p1.l :: eVar b2 48 T_Network p0 :: L) := O7.front (j := 2) rfl
 obtain ⟨x9, i10, h11⟩ := bd_inv h
 refine W.lo rfl rfl (Lo.callPF (ps := [eVar b1 106 TR_Netmodel_names_0 (p1, v1), eSl v1 9 rS p1.l]) (pw := fun w => [eVar b1 106 TR_Netmodel_names_0 (x9.2, w), eSl w 9 rS x9.2.l]) rfl (fn := Try.f67) (by kernel_rfl) rfl (mc rfl (mc rfl mn)) O8 (fun L' O' => g_netmodel_names_add_ok K b1 v1 (Netmodel_names.mk p1.l) p2 O' _ i10)) ?_
 rintro v18 H19 ⟨w16, G12, O13, s14, sm17, rfl⟩
 replace O13 : Ow G12 H19 (eVar b1 106 TR_Netmodel_names_0 (x9.2, w16) :: eSl w16 9 rS x9.2.l :: eVar b2 48 T_Network p0 :: L) := O13
 refine W.pure (v := (.int .i64 x9.1)) rfl rfl (v_assign (oo rfl rfl)) ?_
 refine .nil ?_
 refine .seq ?_
 refine .region ?_
 refine W.pure (v := (.int .i64 x9.1)) rfl rfl (v_move (oo rfl rfl)) ?_
 refine W.pure (v := (.bool (x9.1 != 0))) rfl rfl (v_int (oo rfl rfl) (oo rfl rfl) rfl) ?_
 refine .nil ?_
 refine .cond (b := (x9.1 != 0)) rfl rfl (fun g20 => ?_) (fun g20 => ?_)
 ·have h21 := pos_inv g20 h11
  refine .seq ?_
  refine .region ?_
  refine W.pure (v := (.int .i64 x9.1)) rfl rfl (v_move (oo rfl rfl)) ?_
  refine W.pure (v := (.int .i64 x9.1)) rfl rfl (v_assign (oo rfl rfl)) ?_
  refine .nil ?_
  refine .ret ?_
  have O22 : Ow G12 H19 (eVar b1 106 TR_Netmodel_names_0 (x9.2, w16) :: eSl w16 9 rS x9.2.l :: L) := O13.drop 2
  obtain rfl := Option.some.inj h21
  refine ret1R (P := Try.prog) (fn := Try.f68) (n := 19) (R := fun v H' => ∃ wl G', Ow G' H' (eVar b1 106 TR_Netmodel_names_0 ((x9.1, (Netmodel_names.mk x9.2.l)).2, wl) :: eSl wl 9 rS (x9.1, (Netmodel_names.mk x9.2.l)).2.l :: L) ∧ G.le G' ∧ v = .int .i64 (x9.1, (Netmodel_names.mk x9.2.l)).1) (v1 := (.int .i64 x9.1)) (by rfl) (rr_tmp (by rfl) (by exact rfl)) ?_
  exact ⟨w16, _, O22, s14, rfl⟩
 ·have h23 := neg_b g20 h11
  refine .skip ?_
  refine .seq ?_
  refine .region ?_
  obtain ⟨c24, p25, f26⟩ := (O13.atVar (j := 2) rfl)
  refine W.loadA (cs := c24) rfl rfl ag48 sz48 (pt_px rfl p25) (RT.len _ f26) ?_
  refine W.pure (v := v3) rfl rfl (v_move (oo rfl rfl)) ?_
  obtain ⟨x27, i28, h29⟩ := bd_inv h23
  refine W.lo rfl rfl (Lo.callP (ps := []) (ps' := []) rfl (fn := Try.f118) (by kernel_rfl) rfl (mc rfl (mc rfl mn)) O13 (fun L' O' => g_netmodel_ends_ok K c24 p0 f26 v3 p3 (RT.mono _ s14 hp3) O' _ i28)) ?_
  rintro v36 H37 ⟨G30, O31, s32, sm35, rfl⟩
  replace O31 : Ow G30 H37 (eVar b1 106 TR_Netmodel_names_0 (x9.2, w16) :: eSl w16 9 rS x9.2.l :: eVar b2 48 T_Network p0 :: L) := O31
  refine W.pure (v := (.int .i64 x27)) rfl rfl (v_assign (oo rfl rfl)) ?_
  refine .nil ?_
  refine .ret ?_
  have O38 : Ow G30 H37 (eVar b1 106 TR_Netmodel_names_0 (x9.2, w16) :: eSl w16 9 rS x9.2.l :: L) := O31.drop 2
  obtain rfl := Option.some.inj h29
  refine ret1R (P := Try.prog) (fn := Try.f68) (n := 19) (R := fun v H' => ∃ wl G', Ow G' H' (eVar b1 106 TR_Netmodel_names_0 ((x27, (Netmodel_names.mk x9.2.l)).2, wl) :: eSl wl 9 rS (x27, (Netmodel_names.mk x9.2.l)).2.l :: L) ∧ G.le G' ∧ v = .int .i64 (x27, (Netmodel_names.mk x9.2.l)).1) (v1 := (.int .i64 x27)) (by rfl) (rr_tmp (by rfl) (by exact rfl)) ?_
  exact ⟨w16, _, O38, (GM.le.trans s14 s32), rfl⟩
def g_netmodel_within (K : Nat) (p0 : Int) (p1 : Int) (p2 : Int) : Option Bool := (Option.bind ((if (decide (p0 ≥ p1)) = true then some (decide (p0 ≤ p2)) else some false)) (tu1 fun x8 => some x8))
set_option maxHeartbeats 4000000 in
theorem g_netmodel_within_ok (K : Nat) {G : GM} {H : AH} {L : List Pc} (p0 : Int) (p1 : Int) (p2 : Int) (O : Ow G H (L)) (r : Bool) (h : g_netmodel_within K p0 p1 p2 = some r) :
  CR Try.prog 72 [(.int .i64 p0), (.int .i64 p1), (.int .i64 p2)] G H (L) (fun v G' _ => v = .bool r) := by
 unfold g_netmodel_within at h
 refine CR.of (calls_of_AW (n := 15) (fn := Try.f72) (R := fun v H' => ∃ G', Ow G' H' (L) ∧ G.le G' ∧ v = .bool r) (by kernel_rfl) rfl rfl ?_)
 refine .seq ?_
 refine .region ?_
 refine W.pure (v := (.bool false)) rfl rfl (v_assign (oo rfl rfl)) ?_
 refine .nil ?_
 refine .seq ?_
 obtain ⟨q1, h2, h3⟩ := bd_inv h
 refine AW.midT (fun σ' H' => ∃ (y1 : Bool) (G' : GM), y1 = q1 ∧ Ow G' H' (L) ∧ GM.le G G' ∧ σ' 6 = .bool y1) ?_ ?_
 ·refine .region ?_
  refine W.pure (v := (.int .i64 p0)) rfl rfl (v_move (oo rfl rfl)) ?_
  refine W.pure (v := (.int .i64 p1)) rfl rfl (v_move (oo rfl rfl)) ?_
  refine W.pure (v := (.bool (decide (p0 ≥ p1)))) rfl rfl (v_int (oo rfl rfl) (oo rfl rfl) rfl) ?_
  refine W.pure (v := (.bool (decide (p0 ≥ p1)))) rfl rfl (v_move (oo rfl rfl)) ?_
  refine W.splitAt (t := 10) (b := decide (p0 ≥ p1)) rfl (fun g4 gv5 => ?_) (fun g4 gv5 => ?_)
  ·have h6 := pos_inv g4 h2
   refine W.pure (v := (.int .i64 p0)) (gk rfl rfl gv5 rfl) rfl (v_move (oo rfl rfl)) ?_
   refine W.pure (v := (.int .i64 p2)) (gk rfl rfl gv5 rfl) rfl (v_move (oo rfl rfl)) ?_
   refine W.pure (v := (.bool (decide (p0 ≤ p2)))) (gk rfl rfl gv5 rfl) rfl (v_int (oo rfl rfl) (oo rfl rfl) rfl) ?_
   refine W.pure (v := (.bool (decide (p0 ≤ p2)))) rfl rfl (v_pickT (oo rfl gv5) (oo rfl rfl)) ?_
   refine W.pure (v := (.bool (decide (p0 ≤ p2)))) rfl rfl (v_assign (oo rfl rfl)) ?_
   refine .nil ?_
   obtain rfl := Option.some.inj h6
   exact ⟨decide (p0 ≤ p2), _, rfl, O, (GM.le.refl _), rfl⟩
  ·have h7 := neg_b g4 h2
   refine W.skip (gk rfl rfl gv5 rfl) rfl ?_
   refine W.skip (gk rfl rfl gv5 rfl) rfl ?_
   refine W.skip (gk rfl rfl gv5 rfl) rfl ?_
   refine W.pure (v := (.bool false)) rfl rfl (v_pickF (oo rfl gv5) (oo rfl rfl)) ?_
   refine W.pure (v := (.bool false)) rfl rfl (v_assign (oo rfl rfl)) ?_
   refine .nil ?_
   obtain rfl := Option.some.inj h7
   exact ⟨false, _, rfl, O, (GM.le.refl _), rfl⟩
 ·rintro σ9 H10 fr11 ⟨x8, G12, rfl, O13, s14, t16⟩
  have h17 := tu1_inv h3
  refine .ret ?_
  obtain rfl := Option.some.inj h17
  refine ret1R (P := Try.prog) (fn := Try.f72) (n := 15) (R := fun v H' => ∃ G', Ow G' H' (L) ∧ G.le G' ∧ v = .bool x8) (v1 := (.bool x8)) (by rfl) (rr_tmp (by rfl) (by exact t16)) ?_
  exact ⟨_, O13, s14, rfl⟩
def g_netmodel_Branch (K : Nat) (p0 : Branch) : Option Int := (Option.bind (((g_netmodel_within K p0.X 1 10000).bind fun x9 => (if (!x9) = true then some true else ((g_netmodel_within K p0.Tap 500 1500).bind fun x24 => (if (!x24) = true then some true else ((g_netmodel_within K p0.Shift (-1000) 1000).bind fun x39 => some (!x39))))))) (tu1 fun x50 => (if x50 = true then some 4 else (Option.bind (((g_netmodel_within K p0.Limit 0 100000).bind fun x67 => (if (!x67) = true then some true else ((g_netmodel_within K p0.Short p0.Limit 100000).bind fun x82 => (if (!x82) = true then some true else ((g_netmodel_within K p0.Hold 0 200000).bind fun x97 => some (!x97))))))) (tu1 fun x108 => (if x108 = true then some 4 else some 0))))))
set_option maxHeartbeats 4000000 in
theorem g_netmodel_Branch_ok (K : Nat) {G : GM} {H : AH} {L : List Pc} (v0 : List Value) (p0 : Branch) (hp0 : T_Branch.rep G v0 p0) (O : Ow G H (L)) (r : Int) (h : g_netmodel_Branch K p0 = some r) :
  CR Try.prog 26 [.agg (List.toArray v0)] G H (L) (fun v G' _ => v = .int .i64 r) := by
 unfold g_netmodel_Branch at h
 refine CR.of (calls_of_AW (n := 37) (fn := Try.f26) (R := fun v H' => ∃ G', Ow G' H' (L) ∧ G.le G' ∧ v = .int .i64 r) (by kernel_rfl) rfl rfl ?_)
 refine .seq ?_
 refine .region ?_
 refine W.lo rfl rfl (Lo.box (r := T_Branch) (x0 := p0) (v := (.agg (List.toArray v0))) rfl rfl hp0 O) ?_
 rintro v4 H5 ⟨b2, rfl, O1, sm3⟩
 refine W.pure (v := (.int .i64 0)) rfl rfl (v_assign (oo rfl rfl)) ?_
 refine .nil ?_
 refine .seq ?_
 refine .seq ?_
 obtain ⟨q6, h7, h8⟩ := bd_inv h
 refine AW.midT (fun σ' H' => ∃ (y1 : Bool) (G' : GM), y1 = q6 ∧ Ow G' H' (eVar b2 50 T_Branch p0 :: L) ∧ GM.le G G' ∧ σ' 18 = .bool y1) ?_ ?_
 ·refine .region ?_
  refine W.pure (v := (padd (.pointer (some ⟨b2, 0, none⟩)) 3)) rfl rfl (v_fldA fl50_3 (oo rfl rfl) (O1.atVar (j := 0) rfl)) ?_
  refine W.load1 (v := (.int .i64 p0.X)) (r := []) rfl rfl ag3 (pt_px rfl (At.int (At.proj (O1.atVar (j := 0) rfl) p_Branch_X))) ?_
  obtain ⟨x9, i10, h11⟩ := bd_inv h7
  refine W.lo rfl rfl (Lo.callP (ps := []) (ps' := []) rfl (fn := Try.f72) (by kernel_rfl) rfl (mc rfl (mc rfl (mc rfl mn))) O1 (fun L' O' => g_netmodel_within_ok K p0.X 1 10000 O' _ i10)) ?_
  rintro v18 H19 ⟨G12, O13, s14, sm17, rfl⟩
  replace O13 : Ow G12 H19 (eVar b2 50 T_Branch p0 :: L) := O13
  refine W.pure (v := (.bool (!x9))) rfl rfl (bool_not (a := x9) (oo rfl rfl)) ?_
  refine W.pure (v := (.bool (!x9))) rfl rfl (v_move (oo rfl rfl)) ?_
  refine W.splitAt (t := 7) (b := (!x9)) rfl (fun g20 gv21 => ?_) (fun g20 gv21 => ?_)
  ·have h22 := pos_inv g20 h11
   refine W.skip (gk rfl rfl gv21 rfl) rfl ?_
   refine W.skip (gk rfl rfl gv21 rfl) rfl ?_
   refine W.skip (gk rfl rfl gv21 rfl) rfl ?_
   refine W.skip (gk rfl rfl gv21 rfl) rfl ?_
   refine W.pure (v := (.bool true)) rfl rfl (v_pickT (oo rfl gv21) (oo rfl rfl)) ?_
   refine W.pure (v := (.bool true)) rfl rfl (v_move (oo rfl rfl)) ?_
   refine W.skip (gk rfl rfl rfl rfl) rfl ?_
   refine W.skip (gk rfl rfl rfl rfl) rfl ?_
   refine W.skip (gk rfl rfl rfl rfl) rfl ?_
   refine W.skip (gk rfl rfl rfl rfl) rfl ?_
   refine W.pure (v := (.bool true)) rfl rfl (v_pickT (oo rfl rfl) (oo rfl rfl)) ?_
   refine .nil ?_
   obtain rfl := Option.some.inj h22
   exact ⟨true, _, rfl, O13, s14, rfl⟩
  ·have h23 := neg_b g20 h11
   refine W.pure (v := (padd (.pointer (some ⟨b2, 0, none⟩)) 4)) (gk rfl rfl gv21 rfl) rfl (v_fldA fl50_4 (oo rfl rfl) (O13.atVar (j := 0) rfl)) ?_
   refine W.load1 (v := (.int .i64 p0.Tap)) (r := []) (gk rfl rfl gv21 rfl) rfl ag3 (pt_px rfl (At.int (At.proj (O13.atVar (j := 0) rfl) p_Branch_Tap))) ?_
   obtain ⟨x24, i25, h26⟩ := bd_inv h23
   refine W.lo (gk rfl rfl gv21 rfl) rfl (Lo.callP (ps := []) (ps' := []) rfl (fn := Try.f72) (by kernel_rfl) rfl (mc rfl (mc rfl (mc rfl mn))) O13 (fun L' O' => g_netmodel_within_ok K p0.Tap 500 1500 O' _ i25)) ?_
   rintro v33 H34 ⟨G27, O28, s29, sm32, rfl⟩
   replace O28 : Ow G27 H34 (eVar b2 50 T_Branch p0 :: L) := O28
   refine W.pure (v := (.bool (!x24))) (gk rfl rfl gv21 rfl) rfl (bool_not (a := x24) (oo rfl rfl)) ?_
   refine W.pure (v := (.bool (!x24))) rfl rfl (v_pickF (oo rfl gv21) (oo rfl rfl)) ?_
   refine W.pure (v := (.bool (!x24))) rfl rfl (v_move (oo rfl rfl)) ?_
   refine W.splitAt (t := 13) (b := (!x24)) rfl (fun g35 gv36 => ?_) (fun g35 gv36 => ?_)
   ·have h37 := pos_inv g35 h26
    refine W.skip (gk rfl rfl gv36 rfl) rfl ?_
    refine W.skip (gk rfl rfl gv36 rfl) rfl ?_
    refine W.skip (gk rfl rfl gv36 rfl) rfl ?_
    refine W.skip (gk rfl rfl gv36 rfl) rfl ?_
    refine W.pure (v := (.bool true)) rfl rfl (v_pickT (oo rfl gv36) (oo rfl rfl)) ?_
    refine .nil ?_
    obtain rfl := Option.some.inj h37
    exact ⟨true, _, rfl, O28, (GM.le.trans s14 s29), rfl⟩
   ·have h38 := neg_b g35 h26
    refine W.pure (v := (padd (.pointer (some ⟨b2, 0, none⟩)) 5)) (gk rfl rfl gv36 rfl) rfl (v_fldA fl50_5 (oo rfl rfl) (O28.atVar (j := 0) rfl)) ?_
    refine W.load1 (v := (.int .i64 p0.Shift)) (r := []) (gk rfl rfl gv36 rfl) rfl ag3 (pt_px rfl (At.int (At.proj (O28.atVar (j := 0) rfl) p_Branch_Shift))) ?_
    obtain ⟨x39, i40, h41⟩ := bd_inv h38
    refine W.lo (gk rfl rfl gv36 rfl) rfl (Lo.callP (ps := []) (ps' := []) rfl (fn := Try.f72) (by kernel_rfl) rfl (mc rfl (mc rfl (mc rfl mn))) O28 (fun L' O' => g_netmodel_within_ok K p0.Shift (-1000) 1000 O' _ i40)) ?_
    rintro v48 H49 ⟨G42, O43, s44, sm47, rfl⟩
    replace O43 : Ow G42 H49 (eVar b2 50 T_Branch p0 :: L) := O43
    refine W.pure (v := (.bool (!x39))) (gk rfl rfl gv36 rfl) rfl (bool_not (a := x39) (oo rfl rfl)) ?_
    refine W.pure (v := (.bool (!x39))) rfl rfl (v_pickF (oo rfl gv36) (oo rfl rfl)) ?_
    refine .nil ?_
    obtain rfl := Option.some.inj h41
    exact ⟨(!x39), _, rfl, O43, (GM.le.trans s14 (GM.le.trans s29 s44)), rfl⟩
 ·rintro σ51 H52 fr53 ⟨x50, G54, rfl, O55, s56, t58⟩
  have h59 := tu1_inv h8
  refine .cond (b := x50) rfl t58 (fun g60 => ?_) (fun g60 => ?_)
  ·have h61 := pos_inv g60 h59
   refine .seq ?_
   refine .region ?_
   refine W.pure (v := (.int .i64 4)) rfl rfl (v_assign (oo rfl rfl)) ?_
   refine .nil ?_
   refine .ret ?_
   have O62 : Ow G54 H52 (L) := O55.drop 0
   obtain rfl := Option.some.inj h61
   refine ret1R (P := Try.prog) (fn := Try.f26) (n := 37) (R := fun v H' => ∃ G', Ow G' H' (L) ∧ G.le G' ∧ v = .int .i64 4) (v1 := (.int .i64 4)) (by rfl) (rr_tmp (by rfl) (by exact rfl)) ?_
   exact ⟨_, O62, s56, rfl⟩
  ·have h63 := neg_b g60 h59
   refine .skip ?_
   refine .seq ?_
   refine .seq ?_
   obtain ⟨q64, h65, h66⟩ := bd_inv h63
   refine AW.midT (fun σ' H' => ∃ (y1 : Bool) (G' : GM), y1 = q64 ∧ Ow G' H' (eVar b2 50 T_Branch p0 :: L) ∧ GM.le G54 G' ∧ σ' 36 = .bool y1) ?_ ?_
   ·refine .region ?_
    refine W.pure (v := (padd (.pointer (some ⟨b2, 0, none⟩)) 6)) rfl rfl (v_fldA fl50_6 (oo rfl ((fr53 1 rfl).trans rfl)) (O55.atVar (j := 0) rfl)) ?_
    refine W.load1 (v := (.int .i64 p0.Limit)) (r := []) rfl rfl ag3 (pt_px rfl (At.int (At.proj (O55.atVar (j := 0) rfl) p_Branch_Limit))) ?_
    obtain ⟨x67, i68, h69⟩ := bd_inv h65
    refine W.lo rfl rfl (Lo.callP (ps := []) (ps' := []) rfl (fn := Try.f72) (by kernel_rfl) rfl (mc rfl (mc rfl (mc rfl mn))) O55 (fun L' O' => g_netmodel_within_ok K p0.Limit 0 100000 O' _ i68)) ?_
    rintro v76 H77 ⟨G70, O71, s72, sm75, rfl⟩
    replace O71 : Ow G70 H77 (eVar b2 50 T_Branch p0 :: L) := O71
    refine W.pure (v := (.bool (!x67))) rfl rfl (bool_not (a := x67) (oo rfl rfl)) ?_
    refine W.pure (v := (.bool (!x67))) rfl rfl (v_move (oo rfl rfl)) ?_
    refine W.splitAt (t := 23) (b := (!x67)) rfl (fun g78 gv79 => ?_) (fun g78 gv79 => ?_)
    ·have h80 := pos_inv g78 h69
     refine W.skip (gk rfl rfl gv79 rfl) rfl ?_
     refine W.skip (gk rfl rfl gv79 rfl) rfl ?_
     refine W.skip (gk rfl rfl gv79 rfl) rfl ?_
     refine W.skip (gk rfl rfl gv79 rfl) rfl ?_
     refine W.skip (gk rfl rfl gv79 rfl) rfl ?_
     refine W.skip (gk rfl rfl gv79 rfl) rfl ?_
     refine W.pure (v := (.bool true)) rfl rfl (v_pickT (oo rfl gv79) (oo rfl rfl)) ?_
     refine W.pure (v := (.bool true)) rfl rfl (v_move (oo rfl rfl)) ?_
     refine W.skip (gk rfl rfl rfl rfl) rfl ?_
     refine W.skip (gk rfl rfl rfl rfl) rfl ?_
     refine W.skip (gk rfl rfl rfl rfl) rfl ?_
     refine W.skip (gk rfl rfl rfl rfl) rfl ?_
     refine W.pure (v := (.bool true)) rfl rfl (v_pickT (oo rfl rfl) (oo rfl rfl)) ?_
     refine .nil ?_
     obtain rfl := Option.some.inj h80
     exact ⟨true, _, rfl, O71, s72, rfl⟩
    ·have h81 := neg_b g78 h69
     refine W.pure (v := (padd (.pointer (some ⟨b2, 0, none⟩)) 7)) (gk rfl rfl gv79 rfl) rfl (v_fldA fl50_7 (oo rfl ((fr53 1 rfl).trans rfl)) (O71.atVar (j := 0) rfl)) ?_
     refine W.load1 (v := (.int .i64 p0.Short)) (r := []) (gk rfl rfl gv79 rfl) rfl ag3 (pt_px rfl (At.int (At.proj (O71.atVar (j := 0) rfl) p_Branch_Short))) ?_
     refine W.pure (v := (padd (.pointer (some ⟨b2, 0, none⟩)) 6)) (gk rfl rfl gv79 rfl) rfl (v_fldA fl50_6 (oo rfl ((fr53 1 rfl).trans rfl)) (O71.atVar (j := 0) rfl)) ?_
     refine W.load1 (v := (.int .i64 p0.Limit)) (r := []) (gk rfl rfl gv79 rfl) rfl ag3 (pt_px rfl (At.int (At.proj (O71.atVar (j := 0) rfl) p_Branch_Limit))) ?_
     obtain ⟨x82, i83, h84⟩ := bd_inv h81
     refine W.lo (gk rfl rfl gv79 rfl) rfl (Lo.callP (ps := []) (ps' := []) rfl (fn := Try.f72) (by kernel_rfl) rfl (mc rfl (mc rfl (mc rfl mn))) O71 (fun L' O' => g_netmodel_within_ok K p0.Short p0.Limit 100000 O' _ i83)) ?_
     rintro v91 H92 ⟨G85, O86, s87, sm90, rfl⟩
     replace O86 : Ow G85 H92 (eVar b2 50 T_Branch p0 :: L) := O86
     refine W.pure (v := (.bool (!x82))) (gk rfl rfl gv79 rfl) rfl (bool_not (a := x82) (oo rfl rfl)) ?_
     refine W.pure (v := (.bool (!x82))) rfl rfl (v_pickF (oo rfl gv79) (oo rfl rfl)) ?_
     refine W.pure (v := (.bool (!x82))) rfl rfl (v_move (oo rfl rfl)) ?_
     refine W.splitAt (t := 31) (b := (!x82)) rfl (fun g93 gv94 => ?_) (fun g93 gv94 => ?_)
     ·have h95 := pos_inv g93 h84
      refine W.skip (gk rfl rfl gv94 rfl) rfl ?_
      refine W.skip (gk rfl rfl gv94 rfl) rfl ?_
      refine W.skip (gk rfl rfl gv94 rfl) rfl ?_
      refine W.skip (gk rfl rfl gv94 rfl) rfl ?_
      refine W.pure (v := (.bool true)) rfl rfl (v_pickT (oo rfl gv94) (oo rfl rfl)) ?_
      refine .nil ?_
      obtain rfl := Option.some.inj h95
      exact ⟨true, _, rfl, O86, (GM.le.trans s72 s87), rfl⟩
     ·have h96 := neg_b g93 h84
      refine W.pure (v := (padd (.pointer (some ⟨b2, 0, none⟩)) 8)) (gk rfl rfl gv94 rfl) rfl (v_fldA fl50_8 (oo rfl ((fr53 1 rfl).trans rfl)) (O86.atVar (j := 0) rfl)) ?_
      refine W.load1 (v := (.int .i64 p0.Hold)) (r := []) (gk rfl rfl gv94 rfl) rfl ag3 (pt_px rfl (At.int (At.proj (O86.atVar (j := 0) rfl) p_Branch_Hold))) ?_
      obtain ⟨x97, i98, h99⟩ := bd_inv h96
      refine W.lo (gk rfl rfl gv94 rfl) rfl (Lo.callP (ps := []) (ps' := []) rfl (fn := Try.f72) (by kernel_rfl) rfl (mc rfl (mc rfl (mc rfl mn))) O86 (fun L' O' => g_netmodel_within_ok K p0.Hold 0 200000 O' _ i98)) ?_
      rintro v106 H107 ⟨G100, O101, s102, sm105, rfl⟩
      replace O101 : Ow G100 H107 (eVar b2 50 T_Branch p0 :: L) := O101
      refine W.pure (v := (.bool (!x97))) (gk rfl rfl gv94 rfl) rfl (bool_not (a := x97) (oo rfl rfl)) ?_
      refine W.pure (v := (.bool (!x97))) rfl rfl (v_pickF (oo rfl gv94) (oo rfl rfl)) ?_
      refine .nil ?_
      obtain rfl := Option.some.inj h99
      exact ⟨(!x97), _, rfl, O101, (GM.le.trans s72 (GM.le.trans s87 s102)), rfl⟩
   ·rintro σ109 H110 fr111 ⟨x108, G112, rfl, O113, s114, t116⟩
    have h117 := tu1_inv h66
    refine .cond (b := x108) rfl t116 (fun g118 => ?_) (fun g118 => ?_)
    ·have h119 := pos_inv g118 h117
     refine .seq ?_
     refine .region ?_
     refine W.pure (v := (.int .i64 4)) rfl rfl (v_assign (oo rfl rfl)) ?_
     refine .nil ?_
     refine .ret ?_
     have O120 : Ow G112 H110 (L) := O113.drop 0
     obtain rfl := Option.some.inj h119
     refine ret1R (P := Try.prog) (fn := Try.f26) (n := 37) (R := fun v H' => ∃ G', Ow G' H' (L) ∧ G.le G' ∧ v = .int .i64 4) (v1 := (.int .i64 4)) (by rfl) (rr_tmp (by rfl) (by exact rfl)) ?_
     exact ⟨_, O120, (GM.le.trans s56 s114), rfl⟩
    ·have h121 := neg_b g118 h117
     refine .skip ?_
     refine .seq ?_
     refine .region ?_
     refine W.pure (v := (.int .i64 0)) rfl rfl (v_assign (oo rfl rfl)) ?_
     refine .nil ?_
     refine .ret ?_
     have O122 : Ow G112 H110 (L) := O113.drop 0
     obtain rfl := Option.some.inj h121
     refine ret1R (P := Try.prog) (fn := Try.f26) (n := 37) (R := fun v H' => ∃ G', Ow G' H' (L) ∧ G.le G' ∧ v = .int .i64 0) (v1 := (.int .i64 0)) (by rfl) (rr_tmp (by rfl) (by exact rfl)) ?_
     exact ⟨_, O122, (GM.le.trans s56 s114), rfl⟩
def g_netmodel_sources_l0 (K : Nat) (p0 : Network) : Nat → Netmodel_names → List ByteArray → Int → Option ((Int × Netmodel_names) ⊕ (Netmodel_names × List ByteArray))
 | 0, _, _, _ => none
 | k + 1, x13, x14, x15 => (if (decide (x15 < (List.length p0.Gens : Int))) = true then ((idx p0.Gens x15).bind fun x27 => ((g_netmodel_device K p0 (Netmodel_names.mk x14) x27.Name [x27.Node]).bind fun x58 => (if (x58.1 != 0) = true then some (.inl (x58.1, (Netmodel_names.mk x58.2.l))) else (Option.bind (((g_netmodel_within K x27.Least 0 100000).bind fun x78 => (if (!x78) = true then some true else ((g_netmodel_within K x27.Most x27.Least 100000).bind fun x93 => (if (!x93) = true then some true else ((g_netmodel_within K x27.Ramp 0 100000).bind fun x108 => some (!x108))))))) (tu1 fun x119 => (if x119 = true then some (.inl (4, (Netmodel_names.mk x58.2.l))) else g_netmodel_sources_l0 K p0 k x58.2 x58.2.l (kwrap .i64 (x15 + 1)))))))) else some (.inr (x13, x14)))
def g_netmodel_sources_l2 (K : Nat) (p0 : Network) : Nat → Netmodel_names → List ByteArray → Int → Option ((Int × Netmodel_names) ⊕ (Netmodel_names × List ByteArray))
 | 0, _, _, _ => none
 | k + 1, x158, x159, x160 => (if (decide (x160 < (List.length p0.Loads : Int))) = true then ((idx p0.Loads x160).bind fun x172 => ((g_netmodel_device K p0 (Netmodel_names.mk x159) x172.Name [x172.Node]).bind fun x203 => (if (x203.1 != 0) = true then some (.inl (x203.1, (Netmodel_names.mk x203.2.l))) else ((g_netmodel_within K x172.Demand 0 100000).bind fun x220 => (if (!x220) = true then some (.inl (4, (Netmodel_names.mk x203.2.l))) else g_netmodel_sources_l2 K p0 k x203.2 x203.2.l (kwrap .i64 (x160 + 1))))))) else some (.inr (x158, x159)))
def g_netmodel_sources_l4 (K : Nat) (p0 : Network) : Nat → Netmodel_names → List ByteArray → Int → Option ((Int × Netmodel_names) ⊕ (Netmodel_names × List ByteArray))
 | 0, _, _, _ => none
 | k + 1, x260, x261, x262 => (if (decide (x262 < (List.length p0.Stores : Int))) = true then ((idx p0.Stores x262).bind fun x274 => ((g_netmodel_device K p0 (Netmodel_names.mk x261) x274.Name [x274.Node]).bind fun x305 => (if (x305.1 != 0) = true then some (.inl (x305.1, (Netmodel_names.mk x305.2.l))) else (Option.bind (((g_netmodel_within K x274.Charge 0 100000).bind fun x325 => (if (!x325) = true then some true else ((g_netmodel_within K x274.Discharge 0 100000).bind fun x340 => (if (!x340) = true then some true else ((g_netmodel_within K x274.Capacity 0 100000).bind fun x355 => some (!x355))))))) (tu1 fun x366 => (if x366 = true then some (.inl (4, (Netmodel_names.mk x305.2.l))) else g_netmodel_sources_l4 K p0 k x305.2 x305.2.l (kwrap .i64 (x262 + 1)))))))) else some (.inr (x260, x261)))
def g_netmodel_sources (K : Nat) (p0 : Network) (p1 : Netmodel_names) : Option (Int × Netmodel_names) := (bindS (g_netmodel_sources_l0 K p0 K p1 p1.l 0) (tu2 fun a403 a404 => some (a403, a404)) (tu2 fun x140 x141 => (bindS (g_netmodel_sources_l2 K p0 K x140 x141 0) (tu2 fun a401 a402 => some (a401, a402)) (tu2 fun x242 x243 => (bindS (g_netmodel_sources_l4 K p0 K x242 x243 0) (tu2 fun a399 a400 => some (a399, a400)) (tu2 fun x387 x388 => some (0, (Netmodel_names.mk x388))))))))
set_option maxHeartbeats 4000000 in
theorem g_netmodel_sources_ok (K : Nat) {G : GM} {H : AH} {L : List Pc} (v0 : List Value) (p0 : Network) (hp0 : T_Network.rep G v0 p0) (b1 : Nat) (v1 : Value) (p1 : Netmodel_names) (O : Ow G H (eVar b1 106 TR_Netmodel_names_0 (p1, v1) :: eSl v1 9 rS p1.l :: L)) (r : Int × Netmodel_names) (h : g_netmodel_sources K p0 p1 = some r) :
  CRF Try.prog 69 [.agg (List.toArray v0), .pointer (some ⟨b1, 0, none⟩)] G H (fun wl => (eVar b1 106 TR_Netmodel_names_0 (r.2, wl) :: eSl wl 9 rS r.2.l :: L)) (fun wl v G' => v = .int .i64 r.1) := by
 unfold g_netmodel_sources at h
 refine CRF.of (calls_of_AW (n := 109) (fn := Try.f69) (R := fun v H' => ∃ wl G', Ow G' H' (eVar b1 106 TR_Netmodel_names_0 (r.2, wl) :: eSl wl 9 rS r.2.l :: L) ∧ G.le G' ∧ v = .int .i64 r.1) (by kernel_rfl) rfl rfl ?_)
 refine .seq ?_
 refine .region ?_
 refine W.lo rfl rfl (Lo.box (r := T_Network) (x0 := p0) (v := (.agg (List.toArray v0))) rfl rfl hp0 O) ?_
 rintro v4 H5 ⟨b2, rfl, O1, sm3⟩
 refine W.pure (v := (.int .i64 0)) rfl rfl (v_assign (oo rfl rfl)) ?_
 refine .nil ?_
 refine .seq ?_
 refine .seq ?_
 refine .region ?_
 refine W.pure (v := (padd (.pointer (some ⟨b2, 0, none⟩)) 3)) rfl rfl (v_fldA fl48_3 (oo rfl rfl) (O1.atVar (j := 0) rfl)) ?_
 obtain ⟨w6, p7, f8⟩ := At.sl (At.proj (O1.atVar (j := 0) rfl) p_Network_Gens)
 refine W.load1 (v := w6) (r := []) rfl rfl ag44 (pt_px rfl p7) ?_
 refine W.pure (v := (.int .i64 (List.length p0.Gens : Int))) rfl rfl (len_sl (oo rfl rfl) (sl_len f8) (elemT_inv el44)) ?_
 refine W.pure (v := (.int .i64 0)) rfl rfl (v_move (oo rfl rfl)) ?_
 refine .nil ?_
 obtain ⟨q9, h10, h11⟩ := bindS_inv h
 refine AW.midT (fun σ' H' => ∃ (y1 : Netmodel_names) (y2 : List ByteArray) (w_k1 : Value) (G' : GM), (.inr (y1, y2)) = q9 ∧ Ow G' H' (eVar b2 48 T_Network p0 :: eVar b1 106 TR_Netmodel_names_0 (y1, w_k1) :: eSl w_k1 9 rS y2 :: L) ∧ GM.le G G') ?_ ?_
 ·refine .block ?_
  refine AW.loop (α := Nat) (fun k' σ' H' => ∃ (y1 : Netmodel_names) (y2 : List ByteArray) (y3 : Int) (w_k1 : Value) (G' : GM), g_netmodel_sources_l0 K p0 k' y1 y2 y3 = some q9 ∧ Ow G' H' (eVar b2 48 T_Network p0 :: eVar b1 106 TR_Netmodel_names_0 (y1, w_k1) :: eSl w_k1 9 rS y2 :: L) ∧ GM.le G G' ∧ σ' 17 = .int .i64 y3) (fun k' => k') K ⟨p1, p1.l, 0, v1, _, h10, O1, (GM.le.refl _), rfl⟩ ?_
  rintro k12
  rintro σ16 H17 fr18 ⟨x13, x14, x15, w23, G19, h22, O20, s21, t24⟩
  rcases k12 with _ | k12
  ·exact none_absurd h22
  rw [g_netmodel_sources_l0] at h22
  refine .seq ?_
  refine .region ?_
  refine W.pure (v := (.bool (decide (x15 < (List.length p0.Gens : Int))))) rfl rfl (v_int (oo rfl t24) (oo rfl ((fr18 16 rfl).trans rfl)) rfl) ?_
  refine .nil ?_
  refine .seq ?_
  refine .cond (b := decide (x15 < (List.length p0.Gens : Int))) rfl rfl (fun g25 => ?_) (fun g25 => ?_)
  ·have h26 := pos_inv g25 h22
   refine .skip ?_
   refine .seq ?_
   refine .block ?_
   refine .seq ?_
   refine .region ?_
   obtain ⟨x27, i28, h29⟩ := bd_inv h26
   have j30 := idx_inv i28
   refine W.pure (v := (selem w6 (Int.toNat x15 * 5))) rfl rfl (v_idx el44 sz65 (oo rfl ((fr18 15 rfl).trans rfl)) (oo rfl t24) (sl_len (RT.mono _ s21 f8)) j30.1 j30.2.1) ?_
   obtain ⟨c31, p32, f33⟩ := (At.le (At.le (sl_idx f8 j30.2.2) s21 s21) (GM.le.refl _) O20.fro)
   refine W.loadA (cs := c31) rfl rfl ag65 sz65 (pt_px rfl p32) (RT.len _ f33) ?_
   refine W.lo rfl rfl (Lo.alloc (r := T_Gen) (x0 := (Gen.mk ByteArray.empty ByteArray.empty 0 0 0)) ze65 (by kernel_rfl) z_Gen O20) ?_
   rintro v37 H38 ⟨b35, rfl, O34, sm36⟩
   refine W.lo rfl rfl (Lo.storeVar (j := 0) (s := T_Gen) (y0 := x27) (v := (.agg (List.toArray c31))) (o := 0) rfl ((Put.at (Put.self _) _ _)) rfl sz65 rfl (by omega) rfl f33 O34) ?_
   rintro v41 H42 ⟨O39, sm40⟩
   replace O39 : Ow G19 H42 (eVar b35 65 T_Gen x27 :: eVar b2 48 T_Network p0 :: eVar b1 106 TR_Netmodel_names_0 (x13, w23) :: eSl w23 9 rS x14 :: L) := O39
   refine .nil ?_
   refine .seq ?_
   refine .seq ?_
   refine .region ?_
   obtain ⟨c43, p44, f45⟩ := (O39.atVar (j := 1) rfl)
   refine W.loadA (cs := c43) rfl rfl ag48 sz48 (pt_px ((fr18 2 rfl).trans rfl) p44) (RT.len _ f45) ?_
   refine W.pure (v := (.pointer (some ⟨b1, 0, none⟩))) rfl rfl (v_move (oo rfl ((fr18 1 rfl).trans rfl))) ?_
   refine W.pure (v := (padd (.pointer (some ⟨b35, 0, none⟩)) 0)) rfl rfl (v_fldA fl65_0 (oo rfl rfl) (O39.atVar (j := 0) rfl)) ?_
   refine W.load1 (v := (.string x27.Name)) (r := []) rfl rfl ag9 (pt_px rfl (At.str (At.proj (O39.atVar (j := 0) rfl) p_Gen_Name))) ?_
   refine W.pure (v := (padd (.pointer (some ⟨b35, 0, none⟩)) 1)) rfl rfl (v_fldA fl65_1 (oo rfl rfl) (O39.atVar (j := 0) rfl)) ?_
   refine W.load1 (v := (.string x27.Node)) (r := []) rfl rfl ag9 (pt_px rfl (At.str (At.proj (O39.atVar (j := 0) rfl) p_Gen_Node))) ?_
   refine W.lo rfl rfl (Lo.buildSlice (r := rS) (vs := [(.string x27.Node)]) (xs := [x27.Node]) el41 ze9 sz9 (by kernel_rfl) rfl (qc rfl qn) rfl (.cons rfl .nil) O39) ?_
   rintro v48 H49 ⟨O46, sm47⟩
   obtain ⟨G50, O51, s52, f53⟩ := O46.frzSl (j := 0) rfl
   replace O51 : Ow G50 H49 (eVar b35 65 T_Gen x27 :: eVar b2 48 T_Network p0 :: eVar b1 106 TR_Netmodel_names_0 (x13, w23) :: eSl w23 9 rS x14 :: L) := O51
   have O54 : Ow G50 H49 (eVar b2 48 T_Network p0 :: eVar b35 65 T_Gen x27 :: eVar b1 106 TR_Netmodel_names_0 (x13, w23) :: eSl w23 9 rS x14 :: L) := O51.front (j := 1) rfl
   have O55 : Ow G50 H49 (eVar b35 65 T_Gen x27 :: eVar b2 48 T_Network p0 :: eVar b1 106 TR_Netmodel_names_0 (x13, w23) :: eSl w23 9 rS x14 :: L) := O54.front (j := 1) rfl
   have O56 : Ow G50 H49 (eSl w23 9 rS x14 :: eVar b35 65 T_Gen x27 :: eVar b2 48 T_Network p0 :: eVar b1 106 TR_Netmodel_names_0 (x13, w23) :: L) := O55.front (j := 3) rfl
   have O57 : Ow G50 H49 (eVar b1 106 TR_Netmodel_names_0 (x13, w23) :: eSl w23 9 rS x14 :: eVar b35 65 T_Gen x27 :: eVar b2 48 T_Network p0 :: L) := O56.front (j := 3) rfl
   obtain ⟨x58, i59, h60⟩ := bd_inv h29
   refine W.lo rfl rfl (Lo.callPF (ps := [eVar b1 106 TR_Netmodel_names_0 (x13, w23), eSl w23 9 rS x14]) (pw := fun w => [eVar b1 106 TR_Netmodel_names_0 (x58.2, w), eSl w 9 rS x58.2.l]) rfl (fn := Try.f68) (by kernel_rfl) rfl (mc rfl (mc rfl (mc rfl (mc rfl mn)))) O57 (fun L' O' => g_netmodel_device_ok K c43 p0 (RT.mono _ s52 f45) b1 w23 (Netmodel_names.mk x14) x27.Name v48 [x27.Node] f53 O' _ i59)) ?_
   rintro v67 H68 ⟨w65, G61, O62, s63, sm66, rfl⟩
   replace O62 : Ow G61 H68 (eVar b1 106 TR_Netmodel_names_0 (x58.2, w65) :: eSl w65 9 rS x58.2.l :: eVar b35 65 T_Gen x27 :: eVar b2 48 T_Network p0 :: L) := O62
   refine W.pure (v := (.int .i64 x58.1)) rfl rfl (v_assign (oo rfl rfl)) ?_
   refine .nil ?_
   refine .seq ?_
   refine .region ?_
   refine W.pure (v := (.int .i64 x58.1)) rfl rfl (v_move (oo rfl rfl)) ?_
   refine W.pure (v := (.bool (x58.1 != 0))) rfl rfl (v_int (oo rfl rfl) (oo rfl rfl) rfl) ?_
   refine .nil ?_
   refine .cond (b := (x58.1 != 0)) rfl rfl (fun g69 => ?_) (fun g69 => ?_)
   ·have h70 := pos_inv g69 h60
    refine .seq ?_
    refine .region ?_
    refine W.pure (v := (.int .i64 x58.1)) rfl rfl (v_move (oo rfl rfl)) ?_
    refine W.pure (v := (.int .i64 x58.1)) rfl rfl (v_assign (oo rfl rfl)) ?_
    refine .nil ?_
    refine .ret ?_
    have O71 : Ow G61 H68 (eVar b1 106 TR_Netmodel_names_0 (x58.2, w65) :: eSl w65 9 rS x58.2.l :: eVar b2 48 T_Network p0 :: L) := O62.drop 2
    have O72 : Ow G61 H68 (eVar b1 106 TR_Netmodel_names_0 (x58.2, w65) :: eSl w65 9 rS x58.2.l :: L) := O71.drop 2
    obtain rfl := Option.some.inj h70
    have h73 := tu2_inv (outS_l h11)
    obtain rfl := Option.some.inj h73
    refine ret1R (P := Try.prog) (fn := Try.f69) (n := 109) (R := fun v H' => ∃ wl G', Ow G' H' (eVar b1 106 TR_Netmodel_names_0 ((x58.1, (Netmodel_names.mk x58.2.l)).2, wl) :: eSl wl 9 rS (x58.1, (Netmodel_names.mk x58.2.l)).2.l :: L) ∧ G.le G' ∧ v = .int .i64 (x58.1, (Netmodel_names.mk x58.2.l)).1) (v1 := (.int .i64 x58.1)) (by rfl) (rr_tmp (by rfl) (by exact rfl)) ?_
    exact ⟨w65, _, O72, (GM.le.trans s21 (GM.le.trans s52 s63)), rfl⟩
   ·have h74 := neg_b g69 h60
    refine .skip ?_
    refine .seq ?_
    obtain ⟨q75, h76, h77⟩ := bd_inv h74
    refine AW.midT (fun σ' H' => ∃ (y1 : Bool) (G' : GM), y1 = q75 ∧ Ow G' H' (eVar b1 106 TR_Netmodel_names_0 (x58.2, w65) :: eSl w65 9 rS x58.2.l :: eVar b35 65 T_Gen x27 :: eVar b2 48 T_Network p0 :: L) ∧ GM.le G61 G' ∧ σ' 49 = .bool y1) ?_ ?_
    ·refine .region ?_
     refine W.pure (v := (padd (.pointer (some ⟨b35, 0, none⟩)) 2)) rfl rfl (v_fldA fl65_2 (oo rfl rfl) (O62.atVar (j := 2) rfl)) ?_
     refine W.load1 (v := (.int .i64 x27.Least)) (r := []) rfl rfl ag3 (pt_px rfl (At.int (At.proj (O62.atVar (j := 2) rfl) p_Gen_Least))) ?_
     obtain ⟨x78, i79, h80⟩ := bd_inv h76
     refine W.lo rfl rfl (Lo.callP (ps := []) (ps' := []) rfl (fn := Try.f72) (by kernel_rfl) rfl (mc rfl (mc rfl (mc rfl mn))) O62 (fun L' O' => g_netmodel_within_ok K x27.Least 0 100000 O' _ i79)) ?_
     rintro v87 H88 ⟨G81, O82, s83, sm86, rfl⟩
     replace O82 : Ow G81 H88 (eVar b1 106 TR_Netmodel_names_0 (x58.2, w65) :: eSl w65 9 rS x58.2.l :: eVar b35 65 T_Gen x27 :: eVar b2 48 T_Network p0 :: L) := O82
     refine W.pure (v := (.bool (!x78))) rfl rfl (bool_not (a := x78) (oo rfl rfl)) ?_
     refine W.pure (v := (.bool (!x78))) rfl rfl (v_move (oo rfl rfl)) ?_
     refine W.splitAt (t := 36) (b := (!x78)) rfl (fun g89 gv90 => ?_) (fun g89 gv90 => ?_)
     ·have h91 := pos_inv g89 h80
      refine W.skip (gk rfl rfl gv90 rfl) rfl ?_
      refine W.skip (gk rfl rfl gv90 rfl) rfl ?_
      refine W.skip (gk rfl rfl gv90 rfl) rfl ?_
      refine W.skip (gk rfl rfl gv90 rfl) rfl ?_
      refine W.skip (gk rfl rfl gv90 rfl) rfl ?_
      refine W.skip (gk rfl rfl gv90 rfl) rfl ?_
      refine W.pure (v := (.bool true)) rfl rfl (v_pickT (oo rfl gv90) (oo rfl rfl)) ?_
      refine W.pure (v := (.bool true)) rfl rfl (v_move (oo rfl rfl)) ?_
      refine W.skip (gk rfl rfl rfl rfl) rfl ?_
      refine W.skip (gk rfl rfl rfl rfl) rfl ?_
      refine W.skip (gk rfl rfl rfl rfl) rfl ?_
      refine W.skip (gk rfl rfl rfl rfl) rfl ?_
      refine W.pure (v := (.bool true)) rfl rfl (v_pickT (oo rfl rfl) (oo rfl rfl)) ?_
      refine .nil ?_
      obtain rfl := Option.some.inj h91
      exact ⟨true, _, rfl, O82, s83, rfl⟩
     ·have h92 := neg_b g89 h80
      refine W.pure (v := (padd (.pointer (some ⟨b35, 0, none⟩)) 3)) (gk rfl rfl gv90 rfl) rfl (v_fldA fl65_3 (oo rfl rfl) (O82.atVar (j := 2) rfl)) ?_
      refine W.load1 (v := (.int .i64 x27.Most)) (r := []) (gk rfl rfl gv90 rfl) rfl ag3 (pt_px rfl (At.int (At.proj (O82.atVar (j := 2) rfl) p_Gen_Most))) ?_
      refine W.pure (v := (padd (.pointer (some ⟨b35, 0, none⟩)) 2)) (gk rfl rfl gv90 rfl) rfl (v_fldA fl65_2 (oo rfl rfl) (O82.atVar (j := 2) rfl)) ?_
      refine W.load1 (v := (.int .i64 x27.Least)) (r := []) (gk rfl rfl gv90 rfl) rfl ag3 (pt_px rfl (At.int (At.proj (O82.atVar (j := 2) rfl) p_Gen_Least))) ?_
      obtain ⟨x93, i94, h95⟩ := bd_inv h92
      refine W.lo (gk rfl rfl gv90 rfl) rfl (Lo.callP (ps := []) (ps' := []) rfl (fn := Try.f72) (by kernel_rfl) rfl (mc rfl (mc rfl (mc rfl mn))) O82 (fun L' O' => g_netmodel_within_ok K x27.Most x27.Least 100000 O' _ i94)) ?_
      rintro v102 H103 ⟨G96, O97, s98, sm101, rfl⟩
      replace O97 : Ow G96 H103 (eVar b1 106 TR_Netmodel_names_0 (x58.2, w65) :: eSl w65 9 rS x58.2.l :: eVar b35 65 T_Gen x27 :: eVar b2 48 T_Network p0 :: L) := O97
      refine W.pure (v := (.bool (!x93))) (gk rfl rfl gv90 rfl) rfl (bool_not (a := x93) (oo rfl rfl)) ?_
      refine W.pure (v := (.bool (!x93))) rfl rfl (v_pickF (oo rfl gv90) (oo rfl rfl)) ?_
      refine W.pure (v := (.bool (!x93))) rfl rfl (v_move (oo rfl rfl)) ?_
      refine W.splitAt (t := 44) (b := (!x93)) rfl (fun g104 gv105 => ?_) (fun g104 gv105 => ?_)
      ·have h106 := pos_inv g104 h95
       refine W.skip (gk rfl rfl gv105 rfl) rfl ?_
       refine W.skip (gk rfl rfl gv105 rfl) rfl ?_
       refine W.skip (gk rfl rfl gv105 rfl) rfl ?_
       refine W.skip (gk rfl rfl gv105 rfl) rfl ?_
       refine W.pure (v := (.bool true)) rfl rfl (v_pickT (oo rfl gv105) (oo rfl rfl)) ?_
       refine .nil ?_
       obtain rfl := Option.some.inj h106
       exact ⟨true, _, rfl, O97, (GM.le.trans s83 s98), rfl⟩
      ·have h107 := neg_b g104 h95
       refine W.pure (v := (padd (.pointer (some ⟨b35, 0, none⟩)) 4)) (gk rfl rfl gv105 rfl) rfl (v_fldA fl65_4 (oo rfl rfl) (O97.atVar (j := 2) rfl)) ?_
       refine W.load1 (v := (.int .i64 x27.Ramp)) (r := []) (gk rfl rfl gv105 rfl) rfl ag3 (pt_px rfl (At.int (At.proj (O97.atVar (j := 2) rfl) p_Gen_Ramp))) ?_
       obtain ⟨x108, i109, h110⟩ := bd_inv h107
       refine W.lo (gk rfl rfl gv105 rfl) rfl (Lo.callP (ps := []) (ps' := []) rfl (fn := Try.f72) (by kernel_rfl) rfl (mc rfl (mc rfl (mc rfl mn))) O97 (fun L' O' => g_netmodel_within_ok K x27.Ramp 0 100000 O' _ i109)) ?_
       rintro v117 H118 ⟨G111, O112, s113, sm116, rfl⟩
       replace O112 : Ow G111 H118 (eVar b1 106 TR_Netmodel_names_0 (x58.2, w65) :: eSl w65 9 rS x58.2.l :: eVar b35 65 T_Gen x27 :: eVar b2 48 T_Network p0 :: L) := O112
       refine W.pure (v := (.bool (!x108))) (gk rfl rfl gv105 rfl) rfl (bool_not (a := x108) (oo rfl rfl)) ?_
       refine W.pure (v := (.bool (!x108))) rfl rfl (v_pickF (oo rfl gv105) (oo rfl rfl)) ?_
       refine .nil ?_
       obtain rfl := Option.some.inj h110
       exact ⟨(!x108), _, rfl, O112, (GM.le.trans s83 (GM.le.trans s98 s113)), rfl⟩
    ·rintro σ120 H121 fr122 ⟨x119, G123, rfl, O124, s125, t127⟩
     have h128 := tu1_inv h77
     refine .cond (b := x119) rfl t127 (fun g129 => ?_) (fun g129 => ?_)
     ·have h130 := pos_inv g129 h128
      refine .seq ?_
      refine .region ?_
      refine W.pure (v := (.int .i64 4)) rfl rfl (v_assign (oo rfl rfl)) ?_
      refine .nil ?_
      refine .ret ?_
      have O131 : Ow G123 H121 (eVar b1 106 TR_Netmodel_names_0 (x58.2, w65) :: eSl w65 9 rS x58.2.l :: eVar b2 48 T_Network p0 :: L) := O124.drop 2
      have O132 : Ow G123 H121 (eVar b1 106 TR_Netmodel_names_0 (x58.2, w65) :: eSl w65 9 rS x58.2.l :: L) := O131.drop 2
      obtain rfl := Option.some.inj h130
      have h133 := tu2_inv (outS_l h11)
      obtain rfl := Option.some.inj h133
      refine ret1R (P := Try.prog) (fn := Try.f69) (n := 109) (R := fun v H' => ∃ wl G', Ow G' H' (eVar b1 106 TR_Netmodel_names_0 ((4, (Netmodel_names.mk x58.2.l)).2, wl) :: eSl wl 9 rS (4, (Netmodel_names.mk x58.2.l)).2.l :: L) ∧ G.le G' ∧ v = .int .i64 (4, (Netmodel_names.mk x58.2.l)).1) (v1 := (.int .i64 4)) (by rfl) (rr_tmp (by rfl) (by exact rfl)) ?_
      exact ⟨w65, _, O132, (GM.le.trans s21 (GM.le.trans s52 (GM.le.trans s63 s125))), rfl⟩
     ·have h134 := neg_b g129 h128
      refine .skip ?_
      refine .region ?_
      refine W.pure (v := (.int .i64 (kwrap .i64 (x15 + 1)))) rfl rfl (v_int (oo rfl ((fr122 17 rfl).trans t24)) (oo rfl rfl) rfl) ?_
      refine W.pure (v := (.int .i64 (kwrap .i64 (x15 + 1)))) rfl rfl (v_move (oo rfl rfl)) ?_
      refine .nil ?_
      have O135 : Ow G123 H121 (eVar b1 106 TR_Netmodel_names_0 (x58.2, w65) :: eSl w65 9 rS x58.2.l :: eVar b2 48 T_Network p0 :: L) := O124.drop 2
      have O136 : Ow G123 H121 (eSl w65 9 rS x58.2.l :: eVar b1 106 TR_Netmodel_names_0 (x58.2, w65) :: eVar b2 48 T_Network p0 :: L) := O135.front (j := 1) rfl
      have O137 : Ow G123 H121 (eVar b1 106 TR_Netmodel_names_0 (x58.2, w65) :: eSl w65 9 rS x58.2.l :: eVar b2 48 T_Network p0 :: L) := O136.front (j := 1) rfl
      have O138 : Ow G123 H121 (eVar b2 48 T_Network p0 :: eVar b1 106 TR_Netmodel_names_0 (x58.2, w65) :: eSl w65 9 rS x58.2.l :: L) := O137.front (j := 2) rfl
      exact ⟨k12, Nat.lt_succ_self _, ⟨x58.2, x58.2.l, kwrap .i64 (x15 + 1), w65, _, h134, O138, (GM.le.trans s21 (GM.le.trans s52 (GM.le.trans s63 s125))), rfl⟩⟩
  ·have h139 := neg_b g25 h22
   refine .exit ?_
   obtain rfl := Option.some.inj h139
   exact ⟨x13, x14, w23, _, rfl, O20, s21⟩
 ·rintro σ142 H143 fr144 ⟨x140, x141, w149, G145, rfl, O146, s147⟩
  have h150 := tu2_inv (outS_r h11)
  refine .seq ?_
  refine .seq ?_
  refine .region ?_
  refine W.pure (v := (padd (.pointer (some ⟨b2, 0, none⟩)) 4)) rfl rfl (v_fldA fl48_4 (oo rfl ((fr144 2 rfl).trans rfl)) (O146.atVar (j := 0) rfl)) ?_
  obtain ⟨w151, p152, f153⟩ := At.sl (At.proj (O146.atVar (j := 0) rfl) p_Network_Loads)
  refine W.load1 (v := w151) (r := []) rfl rfl ag45 (pt_px rfl p152) ?_
  refine W.pure (v := (.int .i64 (List.length p0.Loads : Int))) rfl rfl (len_sl (oo rfl rfl) (sl_len f153) (elemT_inv el45)) ?_
  refine W.pure (v := (.int .i64 0)) rfl rfl (v_move (oo rfl rfl)) ?_
  refine .nil ?_
  obtain ⟨q154, h155, h156⟩ := bindS_inv h150
  refine AW.midT (fun σ' H' => ∃ (y1 : Netmodel_names) (y2 : List ByteArray) (w_k1 : Value) (G' : GM), (.inr (y1, y2)) = q154 ∧ Ow G' H' (eVar b2 48 T_Network p0 :: eVar b1 106 TR_Netmodel_names_0 (y1, w_k1) :: eSl w_k1 9 rS y2 :: L) ∧ GM.le G145 G') ?_ ?_
  ·refine .block ?_
   refine AW.loop (α := Nat) (fun k' σ' H' => ∃ (y1 : Netmodel_names) (y2 : List ByteArray) (y3 : Int) (w_k1 : Value) (G' : GM), g_netmodel_sources_l2 K p0 k' y1 y2 y3 = some q154 ∧ Ow G' H' (eVar b2 48 T_Network p0 :: eVar b1 106 TR_Netmodel_names_0 (y1, w_k1) :: eSl w_k1 9 rS y2 :: L) ∧ GM.le G145 G' ∧ σ' 54 = .int .i64 y3) (fun k' => k') K ⟨x140, x141, 0, w149, _, h155, O146, (GM.le.refl _), rfl⟩ ?_
   rintro k157
   rintro σ161 H162 fr163 ⟨x158, x159, x160, w168, G164, h167, O165, s166, t169⟩
   rcases k157 with _ | k157
   ·exact none_absurd h167
   rw [g_netmodel_sources_l2] at h167
   refine .seq ?_
   refine .region ?_
   refine W.pure (v := (.bool (decide (x160 < (List.length p0.Loads : Int))))) rfl rfl (v_int (oo rfl t169) (oo rfl ((fr163 53 rfl).trans rfl)) rfl) ?_
   refine .nil ?_
   refine .seq ?_
   refine .cond (b := decide (x160 < (List.length p0.Loads : Int))) rfl rfl (fun g170 => ?_) (fun g170 => ?_)
   ·have h171 := pos_inv g170 h167
    refine .skip ?_
    refine .seq ?_
    refine .block ?_
    refine .seq ?_
    refine .region ?_
    obtain ⟨x172, i173, h174⟩ := bd_inv h171
    have j175 := idx_inv i173
    refine W.pure (v := (selem w151 (Int.toNat x160 * 3))) rfl rfl (v_idx el45 sz137 (oo rfl ((fr163 52 rfl).trans rfl)) (oo rfl t169) (sl_len (RT.mono _ s166 f153)) j175.1 j175.2.1) ?_
    obtain ⟨c176, p177, f178⟩ := (At.le (At.le (sl_idx f153 j175.2.2) s166 s166) (GM.le.refl _) O165.fro)
    refine W.loadA (cs := c176) rfl rfl ag137 sz137 (pt_px rfl p177) (RT.len _ f178) ?_
    refine W.lo rfl rfl (Lo.alloc (r := T_Load_) (x0 := (Load_.mk ByteArray.empty ByteArray.empty 0)) ze137 (by kernel_rfl) z_Load_ O165) ?_
    rintro v182 H183 ⟨b180, rfl, O179, sm181⟩
    refine W.lo rfl rfl (Lo.storeVar (j := 0) (s := T_Load_) (y0 := x172) (v := (.agg (List.toArray c176))) (o := 0) rfl ((Put.at (Put.self _) _ _)) rfl sz137 rfl (by omega) rfl f178 O179) ?_
    rintro v186 H187 ⟨O184, sm185⟩
    replace O184 : Ow G164 H187 (eVar b180 137 T_Load_ x172 :: eVar b2 48 T_Network p0 :: eVar b1 106 TR_Netmodel_names_0 (x158, w168) :: eSl w168 9 rS x159 :: L) := O184
    refine .nil ?_
    refine .seq ?_
    refine .seq ?_
    refine .region ?_
    obtain ⟨c188, p189, f190⟩ := (O184.atVar (j := 1) rfl)
    refine W.loadA (cs := c188) rfl rfl ag48 sz48 (pt_px ((fr163 2 rfl).trans ((fr144 2 rfl).trans rfl)) p189) (RT.len _ f190) ?_
    refine W.pure (v := (.pointer (some ⟨b1, 0, none⟩))) rfl rfl (v_move (oo rfl ((fr163 1 rfl).trans ((fr144 1 rfl).trans rfl)))) ?_
    refine W.pure (v := (padd (.pointer (some ⟨b180, 0, none⟩)) 0)) rfl rfl (v_fldA fl137_0 (oo rfl rfl) (O184.atVar (j := 0) rfl)) ?_
    refine W.load1 (v := (.string x172.Name)) (r := []) rfl rfl ag9 (pt_px rfl (At.str (At.proj (O184.atVar (j := 0) rfl) p_Load__Name))) ?_
    refine W.pure (v := (padd (.pointer (some ⟨b180, 0, none⟩)) 1)) rfl rfl (v_fldA fl137_1 (oo rfl rfl) (O184.atVar (j := 0) rfl)) ?_
    refine W.load1 (v := (.string x172.Node)) (r := []) rfl rfl ag9 (pt_px rfl (At.str (At.proj (O184.atVar (j := 0) rfl) p_Load__Node))) ?_
    refine W.lo rfl rfl (Lo.buildSlice (r := rS) (vs := [(.string x172.Node)]) (xs := [x172.Node]) el41 ze9 sz9 (by kernel_rfl) rfl (qc rfl qn) rfl (.cons rfl .nil) O184) ?_
    rintro v193 H194 ⟨O191, sm192⟩
    obtain ⟨G195, O196, s197, f198⟩ := O191.frzSl (j := 0) rfl
    replace O196 : Ow G195 H194 (eVar b180 137 T_Load_ x172 :: eVar b2 48 T_Network p0 :: eVar b1 106 TR_Netmodel_names_0 (x158, w168) :: eSl w168 9 rS x159 :: L) := O196
    have O199 : Ow G195 H194 (eVar b2 48 T_Network p0 :: eVar b180 137 T_Load_ x172 :: eVar b1 106 TR_Netmodel_names_0 (x158, w168) :: eSl w168 9 rS x159 :: L) := O196.front (j := 1) rfl
    have O200 : Ow G195 H194 (eVar b180 137 T_Load_ x172 :: eVar b2 48 T_Network p0 :: eVar b1 106 TR_Netmodel_names_0 (x158, w168) :: eSl w168 9 rS x159 :: L) := O199.front (j := 1) rfl
    have O201 : Ow G195 H194 (eSl w168 9 rS x159 :: eVar b180 137 T_Load_ x172 :: eVar b2 48 T_Network p0 :: eVar b1 106 TR_Netmodel_names_0 (x158, w168) :: L) := O200.front (j := 3) rfl
    have O202 : Ow G195 H194 (eVar b1 106 TR_Netmodel_names_0 (x158, w168) :: eSl w168 9 rS x159 :: eVar b180 137 T_Load_ x172 :: eVar b2 48 T_Network p0 :: L) := O201.front (j := 3) rfl
    obtain ⟨x203, i204, h205⟩ := bd_inv h174
    refine W.lo rfl rfl (Lo.callPF (ps := [eVar b1 106 TR_Netmodel_names_0 (x158, w168), eSl w168 9 rS x159]) (pw := fun w => [eVar b1 106 TR_Netmodel_names_0 (x203.2, w), eSl w 9 rS x203.2.l]) rfl (fn := Try.f68) (by kernel_rfl) rfl (mc rfl (mc rfl (mc rfl (mc rfl mn)))) O202 (fun L' O' => g_netmodel_device_ok K c188 p0 (RT.mono _ s197 f190) b1 w168 (Netmodel_names.mk x159) x172.Name v193 [x172.Node] f198 O' _ i204)) ?_
    rintro v212 H213 ⟨w210, G206, O207, s208, sm211, rfl⟩
    replace O207 : Ow G206 H213 (eVar b1 106 TR_Netmodel_names_0 (x203.2, w210) :: eSl w210 9 rS x203.2.l :: eVar b180 137 T_Load_ x172 :: eVar b2 48 T_Network p0 :: L) := O207
    refine W.pure (v := (.int .i64 x203.1)) rfl rfl (v_assign (oo rfl rfl)) ?_
    refine .nil ?_
    refine .seq ?_
    refine .region ?_
    refine W.pure (v := (.int .i64 x203.1)) rfl rfl (v_move (oo rfl rfl)) ?_
    refine W.pure (v := (.bool (x203.1 != 0))) rfl rfl (v_int (oo rfl rfl) (oo rfl rfl) rfl) ?_
    refine .nil ?_
    refine .cond (b := (x203.1 != 0)) rfl rfl (fun g214 => ?_) (fun g214 => ?_)
    ·have h215 := pos_inv g214 h205
     refine .seq ?_
     refine .region ?_
     refine W.pure (v := (.int .i64 x203.1)) rfl rfl (v_move (oo rfl rfl)) ?_
     refine W.pure (v := (.int .i64 x203.1)) rfl rfl (v_assign (oo rfl rfl)) ?_
     refine .nil ?_
     refine .ret ?_
     have O216 : Ow G206 H213 (eVar b1 106 TR_Netmodel_names_0 (x203.2, w210) :: eSl w210 9 rS x203.2.l :: eVar b2 48 T_Network p0 :: L) := O207.drop 2
     have O217 : Ow G206 H213 (eVar b1 106 TR_Netmodel_names_0 (x203.2, w210) :: eSl w210 9 rS x203.2.l :: L) := O216.drop 2
     obtain rfl := Option.some.inj h215
     have h218 := tu2_inv (outS_l h156)
     obtain rfl := Option.some.inj h218
     refine ret1R (P := Try.prog) (fn := Try.f69) (n := 109) (R := fun v H' => ∃ wl G', Ow G' H' (eVar b1 106 TR_Netmodel_names_0 ((x203.1, (Netmodel_names.mk x203.2.l)).2, wl) :: eSl wl 9 rS (x203.1, (Netmodel_names.mk x203.2.l)).2.l :: L) ∧ G.le G' ∧ v = .int .i64 (x203.1, (Netmodel_names.mk x203.2.l)).1) (v1 := (.int .i64 x203.1)) (by rfl) (rr_tmp (by rfl) (by exact rfl)) ?_
     exact ⟨w210, _, O217, (GM.le.trans s147 (GM.le.trans s166 (GM.le.trans s197 s208))), rfl⟩
    ·have h219 := neg_b g214 h205
     refine .skip ?_
     refine .seq ?_
     refine .region ?_
     refine W.pure (v := (padd (.pointer (some ⟨b180, 0, none⟩)) 2)) rfl rfl (v_fldA fl137_2 (oo rfl rfl) (O207.atVar (j := 2) rfl)) ?_
     refine W.load1 (v := (.int .i64 x172.Demand)) (r := []) rfl rfl ag3 (pt_px rfl (At.int (At.proj (O207.atVar (j := 2) rfl) p_Load__Demand))) ?_
     obtain ⟨x220, i221, h222⟩ := bd_inv h219
     refine W.lo rfl rfl (Lo.callP (ps := []) (ps' := []) rfl (fn := Try.f72) (by kernel_rfl) rfl (mc rfl (mc rfl (mc rfl mn))) O207 (fun L' O' => g_netmodel_within_ok K x172.Demand 0 100000 O' _ i221)) ?_
     rintro v229 H230 ⟨G223, O224, s225, sm228, rfl⟩
     replace O224 : Ow G223 H230 (eVar b1 106 TR_Netmodel_names_0 (x203.2, w210) :: eSl w210 9 rS x203.2.l :: eVar b180 137 T_Load_ x172 :: eVar b2 48 T_Network p0 :: L) := O224
     refine W.pure (v := (.bool (!x220))) rfl rfl (bool_not (a := x220) (oo rfl rfl)) ?_
     refine .nil ?_
     refine .cond (b := (!x220)) rfl rfl (fun g231 => ?_) (fun g231 => ?_)
     ·have h232 := pos_inv g231 h222
      refine .seq ?_
      refine .region ?_
      refine W.pure (v := (.int .i64 4)) rfl rfl (v_assign (oo rfl rfl)) ?_
      refine .nil ?_
      refine .ret ?_
      have O233 : Ow G223 H230 (eVar b1 106 TR_Netmodel_names_0 (x203.2, w210) :: eSl w210 9 rS x203.2.l :: eVar b2 48 T_Network p0 :: L) := O224.drop 2
      have O234 : Ow G223 H230 (eVar b1 106 TR_Netmodel_names_0 (x203.2, w210) :: eSl w210 9 rS x203.2.l :: L) := O233.drop 2
      obtain rfl := Option.some.inj h232
      have h235 := tu2_inv (outS_l h156)
      obtain rfl := Option.some.inj h235
      refine ret1R (P := Try.prog) (fn := Try.f69) (n := 109) (R := fun v H' => ∃ wl G', Ow G' H' (eVar b1 106 TR_Netmodel_names_0 ((4, (Netmodel_names.mk x203.2.l)).2, wl) :: eSl wl 9 rS (4, (Netmodel_names.mk x203.2.l)).2.l :: L) ∧ G.le G' ∧ v = .int .i64 (4, (Netmodel_names.mk x203.2.l)).1) (v1 := (.int .i64 4)) (by rfl) (rr_tmp (by rfl) (by exact rfl)) ?_
      exact ⟨w210, _, O234, (GM.le.trans s147 (GM.le.trans s166 (GM.le.trans s197 (GM.le.trans s208 s225)))), rfl⟩
     ·have h236 := neg_b g231 h222
      refine .skip ?_
      refine .region ?_
      refine W.pure (v := (.int .i64 (kwrap .i64 (x160 + 1)))) rfl rfl (v_int (oo rfl t169) (oo rfl rfl) rfl) ?_
      refine W.pure (v := (.int .i64 (kwrap .i64 (x160 + 1)))) rfl rfl (v_move (oo rfl rfl)) ?_
      refine .nil ?_
      have O237 : Ow G223 H230 (eVar b1 106 TR_Netmodel_names_0 (x203.2, w210) :: eSl w210 9 rS x203.2.l :: eVar b2 48 T_Network p0 :: L) := O224.drop 2
      have O238 : Ow G223 H230 (eSl w210 9 rS x203.2.l :: eVar b1 106 TR_Netmodel_names_0 (x203.2, w210) :: eVar b2 48 T_Network p0 :: L) := O237.front (j := 1) rfl
      have O239 : Ow G223 H230 (eVar b1 106 TR_Netmodel_names_0 (x203.2, w210) :: eSl w210 9 rS x203.2.l :: eVar b2 48 T_Network p0 :: L) := O238.front (j := 1) rfl
      have O240 : Ow G223 H230 (eVar b2 48 T_Network p0 :: eVar b1 106 TR_Netmodel_names_0 (x203.2, w210) :: eSl w210 9 rS x203.2.l :: L) := O239.front (j := 2) rfl
      exact ⟨k157, Nat.lt_succ_self _, ⟨x203.2, x203.2.l, kwrap .i64 (x160 + 1), w210, _, h236, O240, (GM.le.trans s166 (GM.le.trans s197 (GM.le.trans s208 s225))), rfl⟩⟩
   ·have h241 := neg_b g170 h167
    refine .exit ?_
    obtain rfl := Option.some.inj h241
    exact ⟨x158, x159, w168, _, rfl, O165, s166⟩
  ·rintro σ244 H245 fr246 ⟨x242, x243, w251, G247, rfl, O248, s249⟩
   have h252 := tu2_inv (outS_r h156)
   refine .seq ?_
   refine .seq ?_
   refine .region ?_
   refine W.pure (v := (padd (.pointer (some ⟨b2, 0, none⟩)) 5)) rfl rfl (v_fldA fl48_5 (oo rfl ((fr246 2 rfl).trans ((fr144 2 rfl).trans rfl))) (O248.atVar (j := 0) rfl)) ?_
   obtain ⟨w253, p254, f255⟩ := At.sl (At.proj (O248.atVar (j := 0) rfl) p_Network_Stores)
   refine W.load1 (v := w253) (r := []) rfl rfl ag46 (pt_px rfl p254) ?_
   refine W.pure (v := (.int .i64 (List.length p0.Stores : Int))) rfl rfl (len_sl (oo rfl rfl) (sl_len f255) (elemT_inv el46)) ?_
   refine W.pure (v := (.int .i64 0)) rfl rfl (v_move (oo rfl rfl)) ?_
   refine .nil ?_
   obtain ⟨q256, h257, h258⟩ := bindS_inv h252
   refine AW.midT (fun σ' H' => ∃ (y1 : Netmodel_names) (y2 : List ByteArray) (w_k1 : Value) (G' : GM), (.inr (y1, y2)) = q256 ∧ Ow G' H' (eVar b2 48 T_Network p0 :: eVar b1 106 TR_Netmodel_names_0 (y1, w_k1) :: eSl w_k1 9 rS y2 :: L) ∧ GM.le G247 G') ?_ ?_
   ·refine .block ?_
    refine AW.loop (α := Nat) (fun k' σ' H' => ∃ (y1 : Netmodel_names) (y2 : List ByteArray) (y3 : Int) (w_k1 : Value) (G' : GM), g_netmodel_sources_l4 K p0 k' y1 y2 y3 = some q256 ∧ Ow G' H' (eVar b2 48 T_Network p0 :: eVar b1 106 TR_Netmodel_names_0 (y1, w_k1) :: eSl w_k1 9 rS y2 :: L) ∧ GM.le G247 G' ∧ σ' 77 = .int .i64 y3) (fun k' => k') K ⟨x242, x243, 0, w251, _, h257, O248, (GM.le.refl _), rfl⟩ ?_
    rintro k259
    rintro σ263 H264 fr265 ⟨x260, x261, x262, w270, G266, h269, O267, s268, t271⟩
    rcases k259 with _ | k259
    ·exact none_absurd h269
    rw [g_netmodel_sources_l4] at h269
    refine .seq ?_
    refine .region ?_
    refine W.pure (v := (.bool (decide (x262 < (List.length p0.Stores : Int))))) rfl rfl (v_int (oo rfl t271) (oo rfl ((fr265 76 rfl).trans rfl)) rfl) ?_
    refine .nil ?_
    refine .seq ?_
    refine .cond (b := decide (x262 < (List.length p0.Stores : Int))) rfl rfl (fun g272 => ?_) (fun g272 => ?_)
    ·have h273 := pos_inv g272 h269
     refine .skip ?_
     refine .seq ?_
     refine .block ?_
     refine .seq ?_
     refine .region ?_
     obtain ⟨x274, i275, h276⟩ := bd_inv h273
     have j277 := idx_inv i275
     refine W.pure (v := (selem w253 (Int.toNat x262 * 5))) rfl rfl (v_idx el46 sz69 (oo rfl ((fr265 75 rfl).trans rfl)) (oo rfl t271) (sl_len (RT.mono _ s268 f255)) j277.1 j277.2.1) ?_
     obtain ⟨c278, p279, f280⟩ := (At.le (At.le (sl_idx f255 j277.2.2) s268 s268) (GM.le.refl _) O267.fro)
     refine W.loadA (cs := c278) rfl rfl ag69 sz69 (pt_px rfl p279) (RT.len _ f280) ?_
     refine W.lo rfl rfl (Lo.alloc (r := T_Store) (x0 := (Store.mk ByteArray.empty ByteArray.empty 0 0 0)) ze69 (by kernel_rfl) z_Store O267) ?_
     rintro v284 H285 ⟨b282, rfl, O281, sm283⟩
     refine W.lo rfl rfl (Lo.storeVar (j := 0) (s := T_Store) (y0 := x274) (v := (.agg (List.toArray c278))) (o := 0) rfl ((Put.at (Put.self _) _ _)) rfl sz69 rfl (by omega) rfl f280 O281) ?_
     rintro v288 H289 ⟨O286, sm287⟩
     replace O286 : Ow G266 H289 (eVar b282 69 T_Store x274 :: eVar b2 48 T_Network p0 :: eVar b1 106 TR_Netmodel_names_0 (x260, w270) :: eSl w270 9 rS x261 :: L) := O286
     refine .nil ?_
     refine .seq ?_
     refine .seq ?_
     refine .region ?_
     obtain ⟨c290, p291, f292⟩ := (O286.atVar (j := 1) rfl)
     refine W.loadA (cs := c290) rfl rfl ag48 sz48 (pt_px ((fr265 2 rfl).trans ((fr246 2 rfl).trans ((fr144 2 rfl).trans rfl))) p291) (RT.len _ f292) ?_
     refine W.pure (v := (.pointer (some ⟨b1, 0, none⟩))) rfl rfl (v_move (oo rfl ((fr265 1 rfl).trans ((fr246 1 rfl).trans ((fr144 1 rfl).trans rfl))))) ?_
     refine W.pure (v := (padd (.pointer (some ⟨b282, 0, none⟩)) 0)) rfl rfl (v_fldA fl69_0 (oo rfl rfl) (O286.atVar (j := 0) rfl)) ?_
     refine W.load1 (v := (.string x274.Name)) (r := []) rfl rfl ag9 (pt_px rfl (At.str (At.proj (O286.atVar (j := 0) rfl) p_Store_Name))) ?_
     refine W.pure (v := (padd (.pointer (some ⟨b282, 0, none⟩)) 1)) rfl rfl (v_fldA fl69_1 (oo rfl rfl) (O286.atVar (j := 0) rfl)) ?_
     refine W.load1 (v := (.string x274.Node)) (r := []) rfl rfl ag9 (pt_px rfl (At.str (At.proj (O286.atVar (j := 0) rfl) p_Store_Node))) ?_
     refine W.lo rfl rfl (Lo.buildSlice (r := rS) (vs := [(.string x274.Node)]) (xs := [x274.Node]) el41 ze9 sz9 (by kernel_rfl) rfl (qc rfl qn) rfl (.cons rfl .nil) O286) ?_
     rintro v295 H296 ⟨O293, sm294⟩
     obtain ⟨G297, O298, s299, f300⟩ := O293.frzSl (j := 0) rfl
     replace O298 : Ow G297 H296 (eVar b282 69 T_Store x274 :: eVar b2 48 T_Network p0 :: eVar b1 106 TR_Netmodel_names_0 (x260, w270) :: eSl w270 9 rS x261 :: L) := O298
     have O301 : Ow G297 H296 (eVar b2 48 T_Network p0 :: eVar b282 69 T_Store x274 :: eVar b1 106 TR_Netmodel_names_0 (x260, w270) :: eSl w270 9 rS x261 :: L) := O298.front (j := 1) rfl
     have O302 : Ow G297 H296 (eVar b282 69 T_Store x274 :: eVar b2 48 T_Network p0 :: eVar b1 106 TR_Netmodel_names_0 (x260, w270) :: eSl w270 9 rS x261 :: L) := O301.front (j := 1) rfl
     have O303 : Ow G297 H296 (eSl w270 9 rS x261 :: eVar b282 69 T_Store x274 :: eVar b2 48 T_Network p0 :: eVar b1 106 TR_Netmodel_names_0 (x260, w270) :: L) := O302.front (j := 3) rfl
     have O304 : Ow G297 H296 (eVar b1 106 TR_Netmodel_names_0 (x260, w270) :: eSl w270 9 rS x261 :: eVar b282 69 T_Store x274 :: eVar b2 48 T_Network p0 :: L) := O303.front (j := 3) rfl
     obtain ⟨x305, i306, h307⟩ := bd_inv h276
     refine W.lo rfl rfl (Lo.callPF (ps := [eVar b1 106 TR_Netmodel_names_0 (x260, w270), eSl w270 9 rS x261]) (pw := fun w => [eVar b1 106 TR_Netmodel_names_0 (x305.2, w), eSl w 9 rS x305.2.l]) rfl (fn := Try.f68) (by kernel_rfl) rfl (mc rfl (mc rfl (mc rfl (mc rfl mn)))) O304 (fun L' O' => g_netmodel_device_ok K c290 p0 (RT.mono _ s299 f292) b1 w270 (Netmodel_names.mk x261) x274.Name v295 [x274.Node] f300 O' _ i306)) ?_
     rintro v314 H315 ⟨w312, G308, O309, s310, sm313, rfl⟩
     replace O309 : Ow G308 H315 (eVar b1 106 TR_Netmodel_names_0 (x305.2, w312) :: eSl w312 9 rS x305.2.l :: eVar b282 69 T_Store x274 :: eVar b2 48 T_Network p0 :: L) := O309
     refine W.pure (v := (.int .i64 x305.1)) rfl rfl (v_assign (oo rfl rfl)) ?_
     refine .nil ?_
     refine .seq ?_
     refine .region ?_
     refine W.pure (v := (.int .i64 x305.1)) rfl rfl (v_move (oo rfl rfl)) ?_
     refine W.pure (v := (.bool (x305.1 != 0))) rfl rfl (v_int (oo rfl rfl) (oo rfl rfl) rfl) ?_
     refine .nil ?_
     refine .cond (b := (x305.1 != 0)) rfl rfl (fun g316 => ?_) (fun g316 => ?_)
     ·have h317 := pos_inv g316 h307
      refine .seq ?_
      refine .region ?_
      refine W.pure (v := (.int .i64 x305.1)) rfl rfl (v_move (oo rfl rfl)) ?_
      refine W.pure (v := (.int .i64 x305.1)) rfl rfl (v_assign (oo rfl rfl)) ?_
      refine .nil ?_
      refine .ret ?_
      have O318 : Ow G308 H315 (eVar b1 106 TR_Netmodel_names_0 (x305.2, w312) :: eSl w312 9 rS x305.2.l :: eVar b2 48 T_Network p0 :: L) := O309.drop 2
      have O319 : Ow G308 H315 (eVar b1 106 TR_Netmodel_names_0 (x305.2, w312) :: eSl w312 9 rS x305.2.l :: L) := O318.drop 2
      obtain rfl := Option.some.inj h317
      have h320 := tu2_inv (outS_l h258)
      obtain rfl := Option.some.inj h320
      refine ret1R (P := Try.prog) (fn := Try.f69) (n := 109) (R := fun v H' => ∃ wl G', Ow G' H' (eVar b1 106 TR_Netmodel_names_0 ((x305.1, (Netmodel_names.mk x305.2.l)).2, wl) :: eSl wl 9 rS (x305.1, (Netmodel_names.mk x305.2.l)).2.l :: L) ∧ G.le G' ∧ v = .int .i64 (x305.1, (Netmodel_names.mk x305.2.l)).1) (v1 := (.int .i64 x305.1)) (by rfl) (rr_tmp (by rfl) (by exact rfl)) ?_
      exact ⟨w312, _, O319, (GM.le.trans s147 (GM.le.trans s249 (GM.le.trans s268 (GM.le.trans s299 s310)))), rfl⟩
     ·have h321 := neg_b g316 h307
      refine .skip ?_
      refine .seq ?_
      obtain ⟨q322, h323, h324⟩ := bd_inv h321
      refine AW.midT (fun σ' H' => ∃ (y1 : Bool) (G' : GM), y1 = q322 ∧ Ow G' H' (eVar b1 106 TR_Netmodel_names_0 (x305.2, w312) :: eSl w312 9 rS x305.2.l :: eVar b282 69 T_Store x274 :: eVar b2 48 T_Network p0 :: L) ∧ GM.le G308 G' ∧ σ' 107 = .bool y1) ?_ ?_
      ·refine .region ?_
       refine W.pure (v := (padd (.pointer (some ⟨b282, 0, none⟩)) 2)) rfl rfl (v_fldA fl69_2 (oo rfl rfl) (O309.atVar (j := 2) rfl)) ?_
       refine W.load1 (v := (.int .i64 x274.Charge)) (r := []) rfl rfl ag3 (pt_px rfl (At.int (At.proj (O309.atVar (j := 2) rfl) p_Store_Charge))) ?_
       obtain ⟨x325, i326, h327⟩ := bd_inv h323
       refine W.lo rfl rfl (Lo.callP (ps := []) (ps' := []) rfl (fn := Try.f72) (by kernel_rfl) rfl (mc rfl (mc rfl (mc rfl mn))) O309 (fun L' O' => g_netmodel_within_ok K x274.Charge 0 100000 O' _ i326)) ?_
       rintro v334 H335 ⟨G328, O329, s330, sm333, rfl⟩
       replace O329 : Ow G328 H335 (eVar b1 106 TR_Netmodel_names_0 (x305.2, w312) :: eSl w312 9 rS x305.2.l :: eVar b282 69 T_Store x274 :: eVar b2 48 T_Network p0 :: L) := O329
       refine W.pure (v := (.bool (!x325))) rfl rfl (bool_not (a := x325) (oo rfl rfl)) ?_
       refine W.pure (v := (.bool (!x325))) rfl rfl (v_move (oo rfl rfl)) ?_
       refine W.splitAt (t := 96) (b := (!x325)) rfl (fun g336 gv337 => ?_) (fun g336 gv337 => ?_)
       ·have h338 := pos_inv g336 h327
        refine W.skip (gk rfl rfl gv337 rfl) rfl ?_
        refine W.skip (gk rfl rfl gv337 rfl) rfl ?_
        refine W.skip (gk rfl rfl gv337 rfl) rfl ?_
        refine W.skip (gk rfl rfl gv337 rfl) rfl ?_
        refine W.pure (v := (.bool true)) rfl rfl (v_pickT (oo rfl gv337) (oo rfl rfl)) ?_
        refine W.pure (v := (.bool true)) rfl rfl (v_move (oo rfl rfl)) ?_
        refine W.skip (gk rfl rfl rfl rfl) rfl ?_
        refine W.skip (gk rfl rfl rfl rfl) rfl ?_
        refine W.skip (gk rfl rfl rfl rfl) rfl ?_
        refine W.skip (gk rfl rfl rfl rfl) rfl ?_
        refine W.pure (v := (.bool true)) rfl rfl (v_pickT (oo rfl rfl) (oo rfl rfl)) ?_
        refine .nil ?_
        obtain rfl := Option.some.inj h338
        exact ⟨true, _, rfl, O329, s330, rfl⟩
       ·have h339 := neg_b g336 h327
        refine W.pure (v := (padd (.pointer (some ⟨b282, 0, none⟩)) 3)) (gk rfl rfl gv337 rfl) rfl (v_fldA fl69_3 (oo rfl rfl) (O329.atVar (j := 2) rfl)) ?_
        refine W.load1 (v := (.int .i64 x274.Discharge)) (r := []) (gk rfl rfl gv337 rfl) rfl ag3 (pt_px rfl (At.int (At.proj (O329.atVar (j := 2) rfl) p_Store_Discharge))) ?_
        obtain ⟨x340, i341, h342⟩ := bd_inv h339
        refine W.lo (gk rfl rfl gv337 rfl) rfl (Lo.callP (ps := []) (ps' := []) rfl (fn := Try.f72) (by kernel_rfl) rfl (mc rfl (mc rfl (mc rfl mn))) O329 (fun L' O' => g_netmodel_within_ok K x274.Discharge 0 100000 O' _ i341)) ?_
        rintro v349 H350 ⟨G343, O344, s345, sm348, rfl⟩
        replace O344 : Ow G343 H350 (eVar b1 106 TR_Netmodel_names_0 (x305.2, w312) :: eSl w312 9 rS x305.2.l :: eVar b282 69 T_Store x274 :: eVar b2 48 T_Network p0 :: L) := O344
        refine W.pure (v := (.bool (!x340))) (gk rfl rfl gv337 rfl) rfl (bool_not (a := x340) (oo rfl rfl)) ?_
        refine W.pure (v := (.bool (!x340))) rfl rfl (v_pickF (oo rfl gv337) (oo rfl rfl)) ?_
        refine W.pure (v := (.bool (!x340))) rfl rfl (v_move (oo rfl rfl)) ?_
        refine W.splitAt (t := 102) (b := (!x340)) rfl (fun g351 gv352 => ?_) (fun g351 gv352 => ?_)
        ·have h353 := pos_inv g351 h342
         refine W.skip (gk rfl rfl gv352 rfl) rfl ?_
         refine W.skip (gk rfl rfl gv352 rfl) rfl ?_
         refine W.skip (gk rfl rfl gv352 rfl) rfl ?_
         refine W.skip (gk rfl rfl gv352 rfl) rfl ?_
         refine W.pure (v := (.bool true)) rfl rfl (v_pickT (oo rfl gv352) (oo rfl rfl)) ?_
         refine .nil ?_
         obtain rfl := Option.some.inj h353
         exact ⟨true, _, rfl, O344, (GM.le.trans s330 s345), rfl⟩
        ·have h354 := neg_b g351 h342
         refine W.pure (v := (padd (.pointer (some ⟨b282, 0, none⟩)) 4)) (gk rfl rfl gv352 rfl) rfl (v_fldA fl69_4 (oo rfl rfl) (O344.atVar (j := 2) rfl)) ?_
         refine W.load1 (v := (.int .i64 x274.Capacity)) (r := []) (gk rfl rfl gv352 rfl) rfl ag3 (pt_px rfl (At.int (At.proj (O344.atVar (j := 2) rfl) p_Store_Capacity))) ?_
         obtain ⟨x355, i356, h357⟩ := bd_inv h354
         refine W.lo (gk rfl rfl gv352 rfl) rfl (Lo.callP (ps := []) (ps' := []) rfl (fn := Try.f72) (by kernel_rfl) rfl (mc rfl (mc rfl (mc rfl mn))) O344 (fun L' O' => g_netmodel_within_ok K x274.Capacity 0 100000 O' _ i356)) ?_
         rintro v364 H365 ⟨G358, O359, s360, sm363, rfl⟩
         replace O359 : Ow G358 H365 (eVar b1 106 TR_Netmodel_names_0 (x305.2, w312) :: eSl w312 9 rS x305.2.l :: eVar b282 69 T_Store x274 :: eVar b2 48 T_Network p0 :: L) := O359
         refine W.pure (v := (.bool (!x355))) (gk rfl rfl gv352 rfl) rfl (bool_not (a := x355) (oo rfl rfl)) ?_
         refine W.pure (v := (.bool (!x355))) rfl rfl (v_pickF (oo rfl gv352) (oo rfl rfl)) ?_
         refine .nil ?_
         obtain rfl := Option.some.inj h357
         exact ⟨(!x355), _, rfl, O359, (GM.le.trans s330 (GM.le.trans s345 s360)), rfl⟩
      ·rintro σ367 H368 fr369 ⟨x366, G370, rfl, O371, s372, t374⟩
       have h375 := tu1_inv h324
       refine .cond (b := x366) rfl t374 (fun g376 => ?_) (fun g376 => ?_)
       ·have h377 := pos_inv g376 h375
        refine .seq ?_
        refine .region ?_
        refine W.pure (v := (.int .i64 4)) rfl rfl (v_assign (oo rfl rfl)) ?_
        refine .nil ?_
        refine .ret ?_
        have O378 : Ow G370 H368 (eVar b1 106 TR_Netmodel_names_0 (x305.2, w312) :: eSl w312 9 rS x305.2.l :: eVar b2 48 T_Network p0 :: L) := O371.drop 2
        have O379 : Ow G370 H368 (eVar b1 106 TR_Netmodel_names_0 (x305.2, w312) :: eSl w312 9 rS x305.2.l :: L) := O378.drop 2
        obtain rfl := Option.some.inj h377
        have h380 := tu2_inv (outS_l h258)
        obtain rfl := Option.some.inj h380
        refine ret1R (P := Try.prog) (fn := Try.f69) (n := 109) (R := fun v H' => ∃ wl G', Ow G' H' (eVar b1 106 TR_Netmodel_names_0 ((4, (Netmodel_names.mk x305.2.l)).2, wl) :: eSl wl 9 rS (4, (Netmodel_names.mk x305.2.l)).2.l :: L) ∧ G.le G' ∧ v = .int .i64 (4, (Netmodel_names.mk x305.2.l)).1) (v1 := (.int .i64 4)) (by rfl) (rr_tmp (by rfl) (by exact rfl)) ?_
        exact ⟨w312, _, O379, (GM.le.trans s147 (GM.le.trans s249 (GM.le.trans s268 (GM.le.trans s299 (GM.le.trans s310 s372))))), rfl⟩
       ·have h381 := neg_b g376 h375
        refine .skip ?_
        refine .region ?_
        refine W.pure (v := (.int .i64 (kwrap .i64 (x262 + 1)))) rfl rfl (v_int (oo rfl ((fr369 77 rfl).trans t271)) (oo rfl rfl) rfl) ?_
        refine W.pure (v := (.int .i64 (kwrap .i64 (x262 + 1)))) rfl rfl (v_move (oo rfl rfl)) ?_
        refine .nil ?_
        have O382 : Ow G370 H368 (eVar b1 106 TR_Netmodel_names_0 (x305.2, w312) :: eSl w312 9 rS x305.2.l :: eVar b2 48 T_Network p0 :: L) := O371.drop 2
        have O383 : Ow G370 H368 (eSl w312 9 rS x305.2.l :: eVar b1 106 TR_Netmodel_names_0 (x305.2, w312) :: eVar b2 48 T_Network p0 :: L) := O382.front (j := 1) rfl
        have O384 : Ow G370 H368 (eVar b1 106 TR_Netmodel_names_0 (x305.2, w312) :: eSl w312 9 rS x305.2.l :: eVar b2 48 T_Network p0 :: L) := O383.front (j := 1) rfl
        have O385 : Ow G370 H368 (eVar b2 48 T_Network p0 :: eVar b1 106 TR_Netmodel_names_0 (x305.2, w312) :: eSl w312 9 rS x305.2.l :: L) := O384.front (j := 2) rfl
        exact ⟨k259, Nat.lt_succ_self _, ⟨x305.2, x305.2.l, kwrap .i64 (x262 + 1), w312, _, h381, O385, (GM.le.trans s268 (GM.le.trans s299 (GM.le.trans s310 s372))), rfl⟩⟩
    ·have h386 := neg_b g272 h269
     refine .exit ?_
     obtain rfl := Option.some.inj h386
     exact ⟨x260, x261, w270, _, rfl, O267, s268⟩
   ·rintro σ389 H390 fr391 ⟨x387, x388, w396, G392, rfl, O393, s394⟩
    have h397 := tu2_inv (outS_r h258)
    refine .seq ?_
    refine .region ?_
    refine W.pure (v := (.int .i64 0)) rfl rfl (v_assign (oo rfl rfl)) ?_
    refine .nil ?_
    refine .ret ?_
    have O398 : Ow G392 H390 (eVar b1 106 TR_Netmodel_names_0 (x387, w396) :: eSl w396 9 rS x388 :: L) := O393.drop 0
    obtain rfl := Option.some.inj h397
    refine ret1R (P := Try.prog) (fn := Try.f69) (n := 109) (R := fun v H' => ∃ wl G', Ow G' H' (eVar b1 106 TR_Netmodel_names_0 ((0, (Netmodel_names.mk x388)).2, wl) :: eSl wl 9 rS (0, (Netmodel_names.mk x388)).2.l :: L) ∧ G.le G' ∧ v = .int .i64 (0, (Netmodel_names.mk x388)).1) (v1 := (.int .i64 0)) (by rfl) (rr_tmp (by rfl) (by exact rfl)) ?_
    exact ⟨w396, _, O398, (GM.le.trans s147 (GM.le.trans s249 s394)), rfl⟩
def g_netmodel_Check_l0 (K : Nat) (p0 : Network) : Nat → Netmodel_names → List ByteArray → Int → Option (Int ⊕ (Netmodel_names × List ByteArray))
 | 0, _, _, _ => none
 | k + 1, x37, x38, x39 => (if (decide (x39 < (List.length p0.Nodes : Int))) = true then ((idx p0.Nodes x39).bind fun x51 => ((g_netmodel_names_add K (Netmodel_names.mk x38) x51).bind fun x55 => (if (x55.1 != 0) = true then some (.inl x55.1) else g_netmodel_Check_l0 K p0 k x55.2 x55.2.l (kwrap .i64 (x39 + 1))))) else some (.inr (x37, x38)))
def g_netmodel_Check_l2 (K : Nat) (p0 : Network) : Nat → Netmodel_names → List ByteArray → Int → Option (Int ⊕ (Netmodel_names × List ByteArray))
 | 0, _, _, _ => none
 | k + 1, x92, x93, x94 => (if (decide (x94 < (List.length p0.Switches : Int))) = true then ((idx p0.Switches x94).bind fun x106 => ((g_netmodel_device K p0 (Netmodel_names.mk x93) x106.Name [x106.A, x106.B]).bind fun x137 => (if (x137.1 != 0) = true then some (.inl x137.1) else (if (sEq x106.A x106.B) = true then some (.inl 3) else g_netmodel_Check_l2 K p0 k x137.2 x137.2.l (kwrap .i64 (x94 + 1)))))) else some (.inr (x92, x93)))
def g_netmodel_Check_l4 (K : Nat) (p0 : Network) : Nat → Netmodel_names → List ByteArray → Int → Option (Int ⊕ (Netmodel_names × List ByteArray))
 | 0, _, _, _ => none
 | k + 1, x184, x185, x186 => (if (decide (x186 < (List.length p0.Branches : Int))) = true then ((idx p0.Branches x186).bind fun x198 => ((g_netmodel_device K p0 (Netmodel_names.mk x185) x198.Name [x198.From, x198.To]).bind fun x229 => (if (x229.1 != 0) = true then some (.inl x229.1) else (if (sEq x198.From x198.To) = true then some (.inl 3) else ((g_netmodel_Branch K x198).bind fun x259 => (if (x259 != 0) = true then some (.inl x259) else g_netmodel_Check_l4 K p0 k x229.2 x229.2.l (kwrap .i64 (x186 + 1)))))))) else some (.inr (x184, x185)))
def g_netmodel_Check (K : Nat) (p0 : Network) : Option Int := ((g_netmodel_sizes K p0).bind fun x9 => (if (x9 != 0) = true then some x9 else (bindS (g_netmodel_Check_l0 K p0 K (Netmodel_names.mk ([] : List ByteArray)) [] 0) (tu1 fun a310 => some a310) (tu2 fun x74 x75 => (bindS (g_netmodel_Check_l2 K p0 K x74 x75 0) (tu1 fun a309 => some a309) (tu2 fun x166 x167 => (bindS (g_netmodel_Check_l4 K p0 K x166 x167 0) (tu1 fun a308 => some a308) (tu2 fun x280 x281 => ((g_netmodel_sources K p0 (Netmodel_names.mk x281)).bind fun x294 => some x294.1)))))))))
set_option maxHeartbeats 4000000 in
theorem g_netmodel_Check_ok (K : Nat) {G : GM} {H : AH} {L : List Pc} (v0 : List Value) (p0 : Network) (hp0 : T_Network.rep G v0 p0) (O : Ow G H (L)) (r : Int) (h : g_netmodel_Check K p0 = some r) :
  CR Try.prog 22 [.agg (List.toArray v0)] G H (L) (fun v G' _ => v = .int .i64 r) := by
 unfold g_netmodel_Check at h
 refine CR.of (calls_of_AW (n := 90) (fn := Try.f22) (R := fun v H' => ∃ G', Ow G' H' (L) ∧ G.le G' ∧ v = .int .i64 r) (by kernel_rfl) rfl rfl ?_)
 refine .seq ?_
 refine .region ?_
 refine W.lo rfl rfl (Lo.box (r := T_Network) (x0 := p0) (v := (.agg (List.toArray v0))) rfl rfl hp0 O) ?_
 rintro v4 H5 ⟨b2, rfl, O1, sm3⟩
 refine W.pure (v := (.int .i64 0)) rfl rfl (v_assign (oo rfl rfl)) ?_
 refine .nil ?_
 refine .seq ?_
 refine .seq ?_
 refine .region ?_
 obtain ⟨c6, p7, f8⟩ := (O1.atVar (j := 0) rfl)
 refine W.loadA (cs := c6) rfl rfl ag48 sz48 (pt_px rfl p7) (RT.len _ f8) ?_
 obtain ⟨x9, i10, h11⟩ := bd_inv h
 refine W.lo rfl rfl (Lo.callP (ps := []) (ps' := []) rfl (fn := Try.f66) (by kernel_rfl) rfl (mc rfl mn) O1 (fun L' O' => g_netmodel_sizes_ok K c6 p0 f8 O' _ i10)) ?_
 rintro v18 H19 ⟨G12, O13, s14, sm17, rfl⟩
 replace O13 : Ow G12 H19 (eVar b2 48 T_Network p0 :: L) := O13
 refine W.pure (v := (.int .i64 x9)) rfl rfl (v_assign (oo rfl rfl)) ?_
 refine .nil ?_
 refine .seq ?_
 refine .region ?_
 refine W.pure (v := (.int .i64 x9)) rfl rfl (v_move (oo rfl rfl)) ?_
 refine W.pure (v := (.bool (x9 != 0))) rfl rfl (v_int (oo rfl rfl) (oo rfl rfl) rfl) ?_
 refine .nil ?_
 refine .cond (b := (x9 != 0)) rfl rfl (fun g20 => ?_) (fun g20 => ?_)
 ·have h21 := pos_inv g20 h11
  refine .seq ?_
  refine .region ?_
  refine W.pure (v := (.int .i64 x9)) rfl rfl (v_move (oo rfl rfl)) ?_
  refine W.pure (v := (.int .i64 x9)) rfl rfl (v_assign (oo rfl rfl)) ?_
  refine .nil ?_
  refine .ret ?_
  have O22 : Ow G12 H19 (L) := O13.drop 0
  obtain rfl := Option.some.inj h21
  refine ret1R (P := Try.prog) (fn := Try.f22) (n := 90) (R := fun v H' => ∃ G', Ow G' H' (L) ∧ G.le G' ∧ v = .int .i64 x9) (v1 := (.int .i64 x9)) (by rfl) (rr_tmp (by rfl) (by exact rfl)) ?_
  exact ⟨_, O22, s14, rfl⟩
 ·have h23 := neg_b g20 h11
  refine .skip ?_
  refine .seq ?_
  refine .region ?_
  have O26 := O13.nilSl 9 rS
  refine W.lo rfl rfl (Lo.alloc (r := TR_Netmodel_names_0) (x0 := ((Netmodel_names.mk ([] : List ByteArray)), .slice none 0 0)) ze106 (by kernel_rfl) (fun G => (zV G)) O26) ?_
  rintro v28 H29 ⟨b25, rfl, O24, sm27⟩
  refine .nil ?_
  refine .seq ?_
  refine .seq ?_
  refine .region ?_
  refine W.pure (v := (padd (.pointer (some ⟨b2, 0, none⟩)) 0)) rfl rfl (v_fldA fl48_0 (oo rfl rfl) (O24.atVar (j := 2) rfl)) ?_
  obtain ⟨w30, p31, f32⟩ := At.sl (At.proj (O24.atVar (j := 2) rfl) p_Network_Nodes)
  refine W.load1 (v := w30) (r := []) rfl rfl ag41 (pt_px rfl p31) ?_
  refine W.pure (v := (.int .i64 (List.length p0.Nodes : Int))) rfl rfl (len_sl (oo rfl rfl) (sl_len f32) (elemT_inv el41)) ?_
  refine W.pure (v := (.int .i64 0)) rfl rfl (v_move (oo rfl rfl)) ?_
  refine .nil ?_
  obtain ⟨q33, h34, h35⟩ := bindS_inv h23
  refine AW.midT (fun σ' H' => ∃ (y1 : Netmodel_names) (y2 : List ByteArray) (w_l4 : Value) (G' : GM), (.inr (y1, y2)) = q33 ∧ Ow G' H' (eVar b25 106 TR_Netmodel_names_0 (y1, w_l4) :: eSl w_l4 9 rS y2 :: eVar b2 48 T_Network p0 :: L) ∧ GM.le G12 G') ?_ ?_
  ·refine .block ?_
   refine AW.loop (α := Nat) (fun k' σ' H' => ∃ (y1 : Netmodel_names) (y2 : List ByteArray) (y3 : Int) (w_l4 : Value) (G' : GM), g_netmodel_Check_l0 K p0 k' y1 y2 y3 = some q33 ∧ Ow G' H' (eVar b25 106 TR_Netmodel_names_0 (y1, w_l4) :: eSl w_l4 9 rS y2 :: eVar b2 48 T_Network p0 :: L) ∧ GM.le G12 G' ∧ σ' 23 = .int .i64 y3) (fun k' => k') K ⟨(Netmodel_names.mk ([] : List ByteArray)), [], 0, (.slice none 0 0), _, h34, O24, (GM.le.refl _), rfl⟩ ?_
   rintro k36
   rintro σ40 H41 fr42 ⟨x37, x38, x39, w47, G43, h46, O44, s45, t48⟩
   rcases k36 with _ | k36
   ·exact none_absurd h46
   rw [g_netmodel_Check_l0] at h46
   refine .seq ?_
   refine .region ?_
   refine W.pure (v := (.bool (decide (x39 < (List.length p0.Nodes : Int))))) rfl rfl (v_int (oo rfl t48) (oo rfl ((fr42 22 rfl).trans rfl)) rfl) ?_
   refine .nil ?_
   refine .seq ?_
   refine .cond (b := decide (x39 < (List.length p0.Nodes : Int))) rfl rfl (fun g49 => ?_) (fun g49 => ?_)
   ·have h50 := pos_inv g49 h46
    refine .skip ?_
    refine .seq ?_
    refine .block ?_
    refine .seq ?_
    refine .region ?_
    obtain ⟨x51, i52, h53⟩ := bd_inv h50
    have j54 := idx_inv i52
    refine W.pure (v := (selem w30 (Int.toNat x39 * 1))) rfl rfl (v_idx el41 sz9 (oo rfl ((fr42 21 rfl).trans rfl)) (oo rfl t48) (sl_len (RT.mono _ s45 f32)) j54.1 j54.2.1) ?_
    refine W.load1 (v := (.string x51)) (r := []) rfl rfl ag9 (pt_px rfl (At.str (At.le (At.le (sl_idx f32 j54.2.2) s45 s45) (GM.le.refl _) O44.fro))) ?_
    refine W.pure (v := (.string x51)) rfl rfl (v_assign (oo rfl rfl)) ?_
    refine .nil ?_
    refine .seq ?_
    refine .region ?_
    refine W.pure (v := (.string x51)) rfl rfl (v_move (oo rfl rfl)) ?_
    obtain ⟨x55, i56, h57⟩ := bd_inv h53
    refine W.lo rfl rfl (Lo.callPF (ps := [eVar b25 106 TR_Netmodel_names_0 (x37, w47), eSl w47 9 rS x38]) (pw := fun w => [eVar b25 106 TR_Netmodel_names_0 (x55.2, w), eSl w 9 rS x55.2.l]) rfl (fn := Try.f67) (by kernel_rfl) rfl (mc ((fr42 4 rfl).trans rfl) (mc rfl mn)) O44 (fun L' O' => g_netmodel_names_add_ok K b25 w47 (Netmodel_names.mk x38) x51 O' _ i56)) ?_
    rintro v64 H65 ⟨w62, G58, O59, s60, sm63, rfl⟩
    replace O59 : Ow G58 H65 (eVar b25 106 TR_Netmodel_names_0 (x55.2, w62) :: eSl w62 9 rS x55.2.l :: eVar b2 48 T_Network p0 :: L) := O59
    refine W.pure (v := (.int .i64 x55.1)) rfl rfl (v_assign (oo rfl rfl)) ?_
    refine .nil ?_
    refine .seq ?_
    refine .region ?_
    refine W.pure (v := (.int .i64 x55.1)) rfl rfl (v_move (oo rfl rfl)) ?_
    refine W.pure (v := (.bool (x55.1 != 0))) rfl rfl (v_int (oo rfl rfl) (oo rfl rfl) rfl) ?_
    refine .nil ?_
    refine .cond (b := (x55.1 != 0)) rfl rfl (fun g66 => ?_) (fun g66 => ?_)
    ·have h67 := pos_inv g66 h57
     refine .seq ?_
     refine .region ?_
     refine W.pure (v := (.int .i64 x55.1)) rfl rfl (v_move (oo rfl rfl)) ?_
     refine W.pure (v := (.int .i64 x55.1)) rfl rfl (v_assign (oo rfl rfl)) ?_
     refine .nil ?_
     refine .ret ?_
     have O68 : Ow G58 H65 (eSl w62 9 rS x55.2.l :: eVar b2 48 T_Network p0 :: L) := O59.drop 0
     have O69 : Ow G58 H65 (eVar b2 48 T_Network p0 :: L) := O68.drop 0
     have O70 : Ow G58 H65 (L) := O69.drop 0
     obtain rfl := Option.some.inj h67
     have h71 := tu1_inv (outS_l h35)
     obtain rfl := Option.some.inj h71
     refine ret1R (P := Try.prog) (fn := Try.f22) (n := 90) (R := fun v H' => ∃ G', Ow G' H' (L) ∧ G.le G' ∧ v = .int .i64 x55.1) (v1 := (.int .i64 x55.1)) (by rfl) (rr_tmp (by rfl) (by exact rfl)) ?_
     exact ⟨_, O70, (GM.le.trans s14 (GM.le.trans s45 s60)), rfl⟩
    ·have h72 := neg_b g66 h57
     refine .skip ?_
     refine .region ?_
     refine W.pure (v := (.int .i64 (kwrap .i64 (x39 + 1)))) rfl rfl (v_int (oo rfl t48) (oo rfl rfl) rfl) ?_
     refine W.pure (v := (.int .i64 (kwrap .i64 (x39 + 1)))) rfl rfl (v_move (oo rfl rfl)) ?_
     refine .nil ?_
     exact ⟨k36, Nat.lt_succ_self _, ⟨x55.2, x55.2.l, kwrap .i64 (x39 + 1), w62, _, h72, O59, (GM.le.trans s45 s60), rfl⟩⟩
   ·have h73 := neg_b g49 h46
    refine .exit ?_
    obtain rfl := Option.some.inj h73
    exact ⟨x37, x38, w47, _, rfl, O44, s45⟩
  ·rintro σ76 H77 fr78 ⟨x74, x75, w83, G79, rfl, O80, s81⟩
   have h84 := tu2_inv (outS_r h35)
   refine .seq ?_
   refine .seq ?_
   refine .region ?_
   refine W.pure (v := (padd (.pointer (some ⟨b2, 0, none⟩)) 1)) rfl rfl (v_fldA fl48_1 (oo rfl ((fr78 1 rfl).trans rfl)) (O80.atVar (j := 2) rfl)) ?_
   obtain ⟨w85, p86, f87⟩ := At.sl (At.proj (O80.atVar (j := 2) rfl) p_Network_Switches)
   refine W.load1 (v := w85) (r := []) rfl rfl ag42 (pt_px rfl p86) ?_
   refine W.pure (v := (.int .i64 (List.length p0.Switches : Int))) rfl rfl (len_sl (oo rfl rfl) (sl_len f87) (elemT_inv el42)) ?_
   refine W.pure (v := (.int .i64 0)) rfl rfl (v_move (oo rfl rfl)) ?_
   refine .nil ?_
   obtain ⟨q88, h89, h90⟩ := bindS_inv h84
   refine AW.midT (fun σ' H' => ∃ (y1 : Netmodel_names) (y2 : List ByteArray) (w_l4 : Value) (G' : GM), (.inr (y1, y2)) = q88 ∧ Ow G' H' (eVar b25 106 TR_Netmodel_names_0 (y1, w_l4) :: eSl w_l4 9 rS y2 :: eVar b2 48 T_Network p0 :: L) ∧ GM.le G79 G') ?_ ?_
   ·refine .block ?_
    refine AW.loop (α := Nat) (fun k' σ' H' => ∃ (y1 : Netmodel_names) (y2 : List ByteArray) (y3 : Int) (w_l4 : Value) (G' : GM), g_netmodel_Check_l2 K p0 k' y1 y2 y3 = some q88 ∧ Ow G' H' (eVar b25 106 TR_Netmodel_names_0 (y1, w_l4) :: eSl w_l4 9 rS y2 :: eVar b2 48 T_Network p0 :: L) ∧ GM.le G79 G' ∧ σ' 36 = .int .i64 y3) (fun k' => k') K ⟨x74, x75, 0, w83, _, h89, O80, (GM.le.refl _), rfl⟩ ?_
    rintro k91
    rintro σ95 H96 fr97 ⟨x92, x93, x94, w102, G98, h101, O99, s100, t103⟩
    rcases k91 with _ | k91
    ·exact none_absurd h101
    rw [g_netmodel_Check_l2] at h101
    refine .seq ?_
    refine .region ?_
    refine W.pure (v := (.bool (decide (x94 < (List.length p0.Switches : Int))))) rfl rfl (v_int (oo rfl t103) (oo rfl ((fr97 35 rfl).trans rfl)) rfl) ?_
    refine .nil ?_
    refine .seq ?_
    refine .cond (b := decide (x94 < (List.length p0.Switches : Int))) rfl rfl (fun g104 => ?_) (fun g104 => ?_)
    ·have h105 := pos_inv g104 h101
     refine .skip ?_
     refine .seq ?_
     refine .block ?_
     refine .seq ?_
     refine .region ?_
     obtain ⟨x106, i107, h108⟩ := bd_inv h105
     have j109 := idx_inv i107
     refine W.pure (v := (selem w85 (Int.toNat x94 * 5))) rfl rfl (v_idx el42 sz81 (oo rfl ((fr97 34 rfl).trans rfl)) (oo rfl t103) (sl_len (RT.mono _ s100 f87)) j109.1 j109.2.1) ?_
     obtain ⟨c110, p111, f112⟩ := (At.le (At.le (sl_idx f87 j109.2.2) s100 s100) (GM.le.refl _) O99.fro)
     refine W.loadA (cs := c110) rfl rfl ag81 sz81 (pt_px rfl p111) (RT.len _ f112) ?_
     refine W.lo rfl rfl (Lo.alloc (r := T_Switch) (x0 := (Switch.mk ByteArray.empty ByteArray.empty ByteArray.empty false false)) ze81 (by kernel_rfl) z_Switch O99) ?_
     rintro v116 H117 ⟨b114, rfl, O113, sm115⟩
     refine W.lo rfl rfl (Lo.storeVar (j := 0) (s := T_Switch) (y0 := x106) (v := (.agg (List.toArray c110))) (o := 0) rfl ((Put.at (Put.self _) _ _)) rfl sz81 rfl (by omega) rfl f112 O113) ?_
     rintro v120 H121 ⟨O118, sm119⟩
     replace O118 : Ow G98 H121 (eVar b114 81 T_Switch x106 :: eVar b25 106 TR_Netmodel_names_0 (x92, w102) :: eSl w102 9 rS x93 :: eVar b2 48 T_Network p0 :: L) := O118
     refine .nil ?_
     refine .seq ?_
     refine .seq ?_
     refine .region ?_
     obtain ⟨c122, p123, f124⟩ := (O118.atVar (j := 3) rfl)
     refine W.loadA (cs := c122) rfl rfl ag48 sz48 (pt_px ((fr97 1 rfl).trans ((fr78 1 rfl).trans rfl)) p123) (RT.len _ f124) ?_
     refine W.pure (v := (padd (.pointer (some ⟨b114, 0, none⟩)) 0)) rfl rfl (v_fldA fl81_0 (oo rfl rfl) (O118.atVar (j := 0) rfl)) ?_
     refine W.load1 (v := (.string x106.Name)) (r := []) rfl rfl ag9 (pt_px rfl (At.str (At.proj (O118.atVar (j := 0) rfl) p_Switch_Name))) ?_
     refine W.pure (v := (padd (.pointer (some ⟨b114, 0, none⟩)) 1)) rfl rfl (v_fldA fl81_1 (oo rfl rfl) (O118.atVar (j := 0) rfl)) ?_
     refine W.load1 (v := (.string x106.A)) (r := []) rfl rfl ag9 (pt_px rfl (At.str (At.proj (O118.atVar (j := 0) rfl) p_Switch_A))) ?_
     refine W.pure (v := (padd (.pointer (some ⟨b114, 0, none⟩)) 2)) rfl rfl (v_fldA fl81_2 (oo rfl rfl) (O118.atVar (j := 0) rfl)) ?_
     refine W.load1 (v := (.string x106.B)) (r := []) rfl rfl ag9 (pt_px rfl (At.str (At.proj (O118.atVar (j := 0) rfl) p_Switch_B))) ?_
     refine W.lo rfl rfl (Lo.buildSlice (r := rS) (vs := [(.string x106.A), (.string x106.B)]) (xs := [x106.A, x106.B]) el41 ze9 sz9 (by kernel_rfl) rfl (qc rfl (qc rfl qn)) rfl (.cons rfl (.cons rfl .nil)) O118) ?_
     rintro v127 H128 ⟨O125, sm126⟩
     obtain ⟨G129, O130, s131, f132⟩ := O125.frzSl (j := 0) rfl
     replace O130 : Ow G129 H128 (eVar b114 81 T_Switch x106 :: eVar b25 106 TR_Netmodel_names_0 (x92, w102) :: eSl w102 9 rS x93 :: eVar b2 48 T_Network p0 :: L) := O130
     have O133 : Ow G129 H128 (eVar b2 48 T_Network p0 :: eVar b114 81 T_Switch x106 :: eVar b25 106 TR_Netmodel_names_0 (x92, w102) :: eSl w102 9 rS x93 :: L) := O130.front (j := 3) rfl
     have O134 : Ow G129 H128 (eVar b114 81 T_Switch x106 :: eVar b2 48 T_Network p0 :: eVar b25 106 TR_Netmodel_names_0 (x92, w102) :: eSl w102 9 rS x93 :: L) := O133.front (j := 1) rfl
     have O135 : Ow G129 H128 (eSl w102 9 rS x93 :: eVar b114 81 T_Switch x106 :: eVar b2 48 T_Network p0 :: eVar b25 106 TR_Netmodel_names_0 (x92, w102) :: L) := O134.front (j := 3) rfl
     have O136 : Ow G129 H128 (eVar b25 106 TR_Netmodel_names_0 (x92, w102) :: eSl w102 9 rS x93 :: eVar b114 81 T_Switch x106 :: eVar b2 48 T_Network p0 :: L) := O135.front (j := 3) rfl
     obtain ⟨x137, i138, h139⟩ := bd_inv h108
     refine W.lo rfl rfl (Lo.callPF (ps := [eVar b25 106 TR_Netmodel_names_0 (x92, w102), eSl w102 9 rS x93]) (pw := fun w => [eVar b25 106 TR_Netmodel_names_0 (x137.2, w), eSl w 9 rS x137.2.l]) rfl (fn := Try.f68) (by kernel_rfl) rfl (mc rfl (mc ((fr97 4 rfl).trans ((fr78 4 rfl).trans rfl)) (mc rfl (mc rfl mn)))) O136 (fun L' O' => g_netmodel_device_ok K c122 p0 (RT.mono _ s131 f124) b25 w102 (Netmodel_names.mk x93) x106.Name v127 [x106.A, x106.B] f132 O' _ i138)) ?_
     rintro v146 H147 ⟨w144, G140, O141, s142, sm145, rfl⟩
     replace O141 : Ow G140 H147 (eVar b25 106 TR_Netmodel_names_0 (x137.2, w144) :: eSl w144 9 rS x137.2.l :: eVar b114 81 T_Switch x106 :: eVar b2 48 T_Network p0 :: L) := O141
     refine W.pure (v := (.int .i64 x137.1)) rfl rfl (v_assign (oo rfl rfl)) ?_
     refine .nil ?_
     refine .seq ?_
     refine .region ?_
     refine W.pure (v := (.int .i64 x137.1)) rfl rfl (v_move (oo rfl rfl)) ?_
     refine W.pure (v := (.bool (x137.1 != 0))) rfl rfl (v_int (oo rfl rfl) (oo rfl rfl) rfl) ?_
     refine .nil ?_
     refine .cond (b := (x137.1 != 0)) rfl rfl (fun g148 => ?_) (fun g148 => ?_)
     ·have h149 := pos_inv g148 h139
      refine .seq ?_
      refine .region ?_
      refine W.pure (v := (.int .i64 x137.1)) rfl rfl (v_move (oo rfl rfl)) ?_
      refine W.pure (v := (.int .i64 x137.1)) rfl rfl (v_assign (oo rfl rfl)) ?_
      refine .nil ?_
      refine .ret ?_
      have O150 : Ow G140 H147 (eSl w144 9 rS x137.2.l :: eVar b114 81 T_Switch x106 :: eVar b2 48 T_Network p0 :: L) := O141.drop 0
      have O151 : Ow G140 H147 (eVar b114 81 T_Switch x106 :: eVar b2 48 T_Network p0 :: L) := O150.drop 0
      have O152 : Ow G140 H147 (eVar b2 48 T_Network p0 :: L) := O151.drop 0
      have O153 : Ow G140 H147 (L) := O152.drop 0
      obtain rfl := Option.some.inj h149
      have h154 := tu1_inv (outS_l h90)
      obtain rfl := Option.some.inj h154
      refine ret1R (P := Try.prog) (fn := Try.f22) (n := 90) (R := fun v H' => ∃ G', Ow G' H' (L) ∧ G.le G' ∧ v = .int .i64 x137.1) (v1 := (.int .i64 x137.1)) (by rfl) (rr_tmp (by rfl) (by exact rfl)) ?_
      exact ⟨_, O153, (GM.le.trans s14 (GM.le.trans s81 (GM.le.trans s100 (GM.le.trans s131 s142)))), rfl⟩
     ·have h155 := neg_b g148 h139
      refine .skip ?_
      refine .seq ?_
      refine .region ?_
      refine W.pure (v := (padd (.pointer (some ⟨b114, 0, none⟩)) 1)) rfl rfl (v_fldA fl81_1 (oo rfl rfl) (O141.atVar (j := 2) rfl)) ?_
      refine W.load1 (v := (.string x106.A)) (r := []) rfl rfl ag9 (pt_px rfl (At.str (At.proj (O141.atVar (j := 2) rfl) p_Switch_A))) ?_
      refine W.pure (v := (padd (.pointer (some ⟨b114, 0, none⟩)) 2)) rfl rfl (v_fldA fl81_2 (oo rfl rfl) (O141.atVar (j := 2) rfl)) ?_
      refine W.load1 (v := (.string x106.B)) (r := []) rfl rfl ag9 (pt_px rfl (At.str (At.proj (O141.atVar (j := 2) rfl) p_Switch_B))) ?_
      refine W.pure (v := (.bool (sEq x106.A x106.B))) rfl rfl (vs_eql (oo rfl rfl) (oo rfl rfl)) ?_
      refine .nil ?_
      refine .cond (b := sEq x106.A x106.B) rfl rfl (fun g156 => ?_) (fun g156 => ?_)
      ·have h157 := pos_inv g156 h155
       refine .seq ?_
       refine .region ?_
       refine W.pure (v := (.int .i64 3)) rfl rfl (v_assign (oo rfl rfl)) ?_
       refine .nil ?_
       refine .ret ?_
       have O158 : Ow G140 H147 (eSl w144 9 rS x137.2.l :: eVar b114 81 T_Switch x106 :: eVar b2 48 T_Network p0 :: L) := O141.drop 0
       have O159 : Ow G140 H147 (eVar b114 81 T_Switch x106 :: eVar b2 48 T_Network p0 :: L) := O158.drop 0
       have O160 : Ow G140 H147 (eVar b2 48 T_Network p0 :: L) := O159.drop 0
       have O161 : Ow G140 H147 (L) := O160.drop 0
       obtain rfl := Option.some.inj h157
       have h162 := tu1_inv (outS_l h90)
       obtain rfl := Option.some.inj h162
       refine ret1R (P := Try.prog) (fn := Try.f22) (n := 90) (R := fun v H' => ∃ G', Ow G' H' (L) ∧ G.le G' ∧ v = .int .i64 3) (v1 := (.int .i64 3)) (by rfl) (rr_tmp (by rfl) (by exact rfl)) ?_
       exact ⟨_, O161, (GM.le.trans s14 (GM.le.trans s81 (GM.le.trans s100 (GM.le.trans s131 s142)))), rfl⟩
      ·have h163 := neg_b g156 h155
       refine .skip ?_
       refine .region ?_
       refine W.pure (v := (.int .i64 (kwrap .i64 (x94 + 1)))) rfl rfl (v_int (oo rfl t103) (oo rfl rfl) rfl) ?_
       refine W.pure (v := (.int .i64 (kwrap .i64 (x94 + 1)))) rfl rfl (v_move (oo rfl rfl)) ?_
       refine .nil ?_
       have O164 : Ow G140 H147 (eVar b25 106 TR_Netmodel_names_0 (x137.2, w144) :: eSl w144 9 rS x137.2.l :: eVar b2 48 T_Network p0 :: L) := O141.drop 2
       exact ⟨k91, Nat.lt_succ_self _, ⟨x137.2, x137.2.l, kwrap .i64 (x94 + 1), w144, _, h163, O164, (GM.le.trans s100 (GM.le.trans s131 s142)), rfl⟩⟩
    ·have h165 := neg_b g104 h101
     refine .exit ?_
     obtain rfl := Option.some.inj h165
     exact ⟨x92, x93, w102, _, rfl, O99, s100⟩
   ·rintro σ168 H169 fr170 ⟨x166, x167, w175, G171, rfl, O172, s173⟩
    have h176 := tu2_inv (outS_r h90)
    refine .seq ?_
    refine .seq ?_
    refine .region ?_
    refine W.pure (v := (padd (.pointer (some ⟨b2, 0, none⟩)) 2)) rfl rfl (v_fldA fl48_2 (oo rfl ((fr170 1 rfl).trans ((fr78 1 rfl).trans rfl))) (O172.atVar (j := 2) rfl)) ?_
    obtain ⟨w177, p178, f179⟩ := At.sl (At.proj (O172.atVar (j := 2) rfl) p_Network_Branches)
    refine W.load1 (v := w177) (r := []) rfl rfl ag43 (pt_px rfl p178) ?_
    refine W.pure (v := (.int .i64 (List.length p0.Branches : Int))) rfl rfl (len_sl (oo rfl rfl) (sl_len f179) (elemT_inv el43)) ?_
    refine W.pure (v := (.int .i64 0)) rfl rfl (v_move (oo rfl rfl)) ?_
    refine .nil ?_
    obtain ⟨q180, h181, h182⟩ := bindS_inv h176
    refine AW.midT (fun σ' H' => ∃ (y1 : Netmodel_names) (y2 : List ByteArray) (w_l4 : Value) (G' : GM), (.inr (y1, y2)) = q180 ∧ Ow G' H' (eVar b25 106 TR_Netmodel_names_0 (y1, w_l4) :: eSl w_l4 9 rS y2 :: eVar b2 48 T_Network p0 :: L) ∧ GM.le G171 G') ?_ ?_
    ·refine .block ?_
     refine AW.loop (α := Nat) (fun k' σ' H' => ∃ (y1 : Netmodel_names) (y2 : List ByteArray) (y3 : Int) (w_l4 : Value) (G' : GM), g_netmodel_Check_l4 K p0 k' y1 y2 y3 = some q180 ∧ Ow G' H' (eVar b25 106 TR_Netmodel_names_0 (y1, w_l4) :: eSl w_l4 9 rS y2 :: eVar b2 48 T_Network p0 :: L) ∧ GM.le G171 G' ∧ σ' 61 = .int .i64 y3) (fun k' => k') K ⟨x166, x167, 0, w175, _, h181, O172, (GM.le.refl _), rfl⟩ ?_
     rintro k183
     rintro σ187 H188 fr189 ⟨x184, x185, x186, w194, G190, h193, O191, s192, t195⟩
     rcases k183 with _ | k183
     ·exact none_absurd h193
     rw [g_netmodel_Check_l4] at h193
     refine .seq ?_
     refine .region ?_
     refine W.pure (v := (.bool (decide (x186 < (List.length p0.Branches : Int))))) rfl rfl (v_int (oo rfl t195) (oo rfl ((fr189 60 rfl).trans rfl)) rfl) ?_
     refine .nil ?_
     refine .seq ?_
     refine .cond (b := decide (x186 < (List.length p0.Branches : Int))) rfl rfl (fun g196 => ?_) (fun g196 => ?_)
     ·have h197 := pos_inv g196 h193
      refine .skip ?_
      refine .seq ?_
      refine .block ?_
      refine .seq ?_
      refine .region ?_
      obtain ⟨x198, i199, h200⟩ := bd_inv h197
      have j201 := idx_inv i199
      refine W.pure (v := (selem w177 (Int.toNat x186 * 9))) rfl rfl (v_idx el43 sz50 (oo rfl ((fr189 59 rfl).trans rfl)) (oo rfl t195) (sl_len (RT.mono _ s192 f179)) j201.1 j201.2.1) ?_
      obtain ⟨c202, p203, f204⟩ := (At.le (At.le (sl_idx f179 j201.2.2) s192 s192) (GM.le.refl _) O191.fro)
      refine W.loadA (cs := c202) rfl rfl ag50 sz50 (pt_px rfl p203) (RT.len _ f204) ?_
      refine W.lo rfl rfl (Lo.alloc (r := T_Branch) (x0 := (Branch.mk ByteArray.empty ByteArray.empty ByteArray.empty 0 0 0 0 0 0)) ze50 (by kernel_rfl) z_Branch O191) ?_
      rintro v208 H209 ⟨b206, rfl, O205, sm207⟩
      refine W.lo rfl rfl (Lo.storeVar (j := 0) (s := T_Branch) (y0 := x198) (v := (.agg (List.toArray c202))) (o := 0) rfl ((Put.at (Put.self _) _ _)) rfl sz50 rfl (by omega) rfl f204 O205) ?_
      rintro v212 H213 ⟨O210, sm211⟩
      replace O210 : Ow G190 H213 (eVar b206 50 T_Branch x198 :: eVar b25 106 TR_Netmodel_names_0 (x184, w194) :: eSl w194 9 rS x185 :: eVar b2 48 T_Network p0 :: L) := O210
      refine .nil ?_
      refine .seq ?_
      refine .seq ?_
      refine .region ?_
      obtain ⟨c214, p215, f216⟩ := (O210.atVar (j := 3) rfl)
      refine W.loadA (cs := c214) rfl rfl ag48 sz48 (pt_px ((fr189 1 rfl).trans ((fr170 1 rfl).trans ((fr78 1 rfl).trans rfl))) p215) (RT.len _ f216) ?_
      refine W.pure (v := (padd (.pointer (some ⟨b206, 0, none⟩)) 0)) rfl rfl (v_fldA fl50_0 (oo rfl rfl) (O210.atVar (j := 0) rfl)) ?_
      refine W.load1 (v := (.string x198.Name)) (r := []) rfl rfl ag9 (pt_px rfl (At.str (At.proj (O210.atVar (j := 0) rfl) p_Branch_Name))) ?_
      refine W.pure (v := (padd (.pointer (some ⟨b206, 0, none⟩)) 1)) rfl rfl (v_fldA fl50_1 (oo rfl rfl) (O210.atVar (j := 0) rfl)) ?_
      refine W.load1 (v := (.string x198.From)) (r := []) rfl rfl ag9 (pt_px rfl (At.str (At.proj (O210.atVar (j := 0) rfl) p_Branch_From))) ?_
      refine W.pure (v := (padd (.pointer (some ⟨b206, 0, none⟩)) 2)) rfl rfl (v_fldA fl50_2 (oo rfl rfl) (O210.atVar (j := 0) rfl)) ?_
      refine W.load1 (v := (.string x198.To)) (r := []) rfl rfl ag9 (pt_px rfl (At.str (At.proj (O210.atVar (j := 0) rfl) p_Branch_To))) ?_
      refine W.lo rfl rfl (Lo.buildSlice (r := rS) (vs := [(.string x198.From), (.string x198.To)]) (xs := [x198.From, x198.To]) el41 ze9 sz9 (by kernel_rfl) rfl (qc rfl (qc rfl qn)) rfl (.cons rfl (.cons rfl .nil)) O210) ?_
      rintro v219 H220 ⟨O217, sm218⟩
      obtain ⟨G221, O222, s223, f224⟩ := O217.frzSl (j := 0) rfl
      replace O222 : Ow G221 H220 (eVar b206 50 T_Branch x198 :: eVar b25 106 TR_Netmodel_names_0 (x184, w194) :: eSl w194 9 rS x185 :: eVar b2 48 T_Network p0 :: L) := O222
      have O225 : Ow G221 H220 (eVar b2 48 T_Network p0 :: eVar b206 50 T_Branch x198 :: eVar b25 106 TR_Netmodel_names_0 (x184, w194) :: eSl w194 9 rS x185 :: L) := O222.front (j := 3) rfl
      have O226 : Ow G221 H220 (eVar b206 50 T_Branch x198 :: eVar b2 48 T_Network p0 :: eVar b25 106 TR_Netmodel_names_0 (x184, w194) :: eSl w194 9 rS x185 :: L) := O225.front (j := 1) rfl
      have O227 : Ow G221 H220 (eSl w194 9 rS x185 :: eVar b206 50 T_Branch x198 :: eVar b2 48 T_Network p0 :: eVar b25 106 TR_Netmodel_names_0 (x184, w194) :: L) := O226.front (j := 3) rfl
      have O228 : Ow G221 H220 (eVar b25 106 TR_Netmodel_names_0 (x184, w194) :: eSl w194 9 rS x185 :: eVar b206 50 T_Branch x198 :: eVar b2 48 T_Network p0 :: L) := O227.front (j := 3) rfl
      obtain ⟨x229, i230, h231⟩ := bd_inv h200
      refine W.lo rfl rfl (Lo.callPF (ps := [eVar b25 106 TR_Netmodel_names_0 (x184, w194), eSl w194 9 rS x185]) (pw := fun w => [eVar b25 106 TR_Netmodel_names_0 (x229.2, w), eSl w 9 rS x229.2.l]) rfl (fn := Try.f68) (by kernel_rfl) rfl (mc rfl (mc ((fr189 4 rfl).trans ((fr170 4 rfl).trans ((fr78 4 rfl).trans rfl))) (mc rfl (mc rfl mn)))) O228 (fun L' O' => g_netmodel_device_ok K c214 p0 (RT.mono _ s223 f216) b25 w194 (Netmodel_names.mk x185) x198.Name v219 [x198.From, x198.To] f224 O' _ i230)) ?_
      rintro v238 H239 ⟨w236, G232, O233, s234, sm237, rfl⟩
      replace O233 : Ow G232 H239 (eVar b25 106 TR_Netmodel_names_0 (x229.2, w236) :: eSl w236 9 rS x229.2.l :: eVar b206 50 T_Branch x198 :: eVar b2 48 T_Network p0 :: L) := O233
      refine W.pure (v := (.int .i64 x229.1)) rfl rfl (v_assign (oo rfl rfl)) ?_
      refine .nil ?_
      refine .seq ?_
      refine .region ?_
      refine W.pure (v := (.int .i64 x229.1)) rfl rfl (v_move (oo rfl rfl)) ?_
      refine W.pure (v := (.bool (x229.1 != 0))) rfl rfl (v_int (oo rfl rfl) (oo rfl rfl) rfl) ?_
      refine .nil ?_
      refine .cond (b := (x229.1 != 0)) rfl rfl (fun g240 => ?_) (fun g240 => ?_)
      ·have h241 := pos_inv g240 h231
       refine .seq ?_
       refine .region ?_
       refine W.pure (v := (.int .i64 x229.1)) rfl rfl (v_move (oo rfl rfl)) ?_
       refine W.pure (v := (.int .i64 x229.1)) rfl rfl (v_assign (oo rfl rfl)) ?_
       refine .nil ?_
       refine .ret ?_
       have O242 : Ow G232 H239 (eSl w236 9 rS x229.2.l :: eVar b206 50 T_Branch x198 :: eVar b2 48 T_Network p0 :: L) := O233.drop 0
       have O243 : Ow G232 H239 (eVar b206 50 T_Branch x198 :: eVar b2 48 T_Network p0 :: L) := O242.drop 0
       have O244 : Ow G232 H239 (eVar b2 48 T_Network p0 :: L) := O243.drop 0
       have O245 : Ow G232 H239 (L) := O244.drop 0
       obtain rfl := Option.some.inj h241
       have h246 := tu1_inv (outS_l h182)
       obtain rfl := Option.some.inj h246
       refine ret1R (P := Try.prog) (fn := Try.f22) (n := 90) (R := fun v H' => ∃ G', Ow G' H' (L) ∧ G.le G' ∧ v = .int .i64 x229.1) (v1 := (.int .i64 x229.1)) (by rfl) (rr_tmp (by rfl) (by exact rfl)) ?_
       exact ⟨_, O245, (GM.le.trans s14 (GM.le.trans s81 (GM.le.trans s173 (GM.le.trans s192 (GM.le.trans s223 s234))))), rfl⟩
      ·have h247 := neg_b g240 h231
       refine .skip ?_
       refine .seq ?_
       refine .seq ?_
       refine .region ?_
       refine W.pure (v := (padd (.pointer (some ⟨b206, 0, none⟩)) 1)) rfl rfl (v_fldA fl50_1 (oo rfl rfl) (O233.atVar (j := 2) rfl)) ?_
       refine W.load1 (v := (.string x198.From)) (r := []) rfl rfl ag9 (pt_px rfl (At.str (At.proj (O233.atVar (j := 2) rfl) p_Branch_From))) ?_
       refine W.pure (v := (padd (.pointer (some ⟨b206, 0, none⟩)) 2)) rfl rfl (v_fldA fl50_2 (oo rfl rfl) (O233.atVar (j := 2) rfl)) ?_
       refine W.load1 (v := (.string x198.To)) (r := []) rfl rfl ag9 (pt_px rfl (At.str (At.proj (O233.atVar (j := 2) rfl) p_Branch_To))) ?_
       refine W.pure (v := (.bool (sEq x198.From x198.To))) rfl rfl (vs_eql (oo rfl rfl) (oo rfl rfl)) ?_
       refine .nil ?_
       refine .cond (b := sEq x198.From x198.To) rfl rfl (fun g248 => ?_) (fun g248 => ?_)
       ·have h249 := pos_inv g248 h247
        refine .seq ?_
        refine .region ?_
        refine W.pure (v := (.int .i64 3)) rfl rfl (v_assign (oo rfl rfl)) ?_
        refine .nil ?_
        refine .ret ?_
        have O250 : Ow G232 H239 (eSl w236 9 rS x229.2.l :: eVar b206 50 T_Branch x198 :: eVar b2 48 T_Network p0 :: L) := O233.drop 0
        have O251 : Ow G232 H239 (eVar b206 50 T_Branch x198 :: eVar b2 48 T_Network p0 :: L) := O250.drop 0
        have O252 : Ow G232 H239 (eVar b2 48 T_Network p0 :: L) := O251.drop 0
        have O253 : Ow G232 H239 (L) := O252.drop 0
        obtain rfl := Option.some.inj h249
        have h254 := tu1_inv (outS_l h182)
        obtain rfl := Option.some.inj h254
        refine ret1R (P := Try.prog) (fn := Try.f22) (n := 90) (R := fun v H' => ∃ G', Ow G' H' (L) ∧ G.le G' ∧ v = .int .i64 3) (v1 := (.int .i64 3)) (by rfl) (rr_tmp (by rfl) (by exact rfl)) ?_
        exact ⟨_, O253, (GM.le.trans s14 (GM.le.trans s81 (GM.le.trans s173 (GM.le.trans s192 (GM.le.trans s223 s234))))), rfl⟩
       ·have h255 := neg_b g248 h247
        refine .skip ?_
        refine .seq ?_
        refine .region ?_
        obtain ⟨c256, p257, f258⟩ := (O233.atVar (j := 2) rfl)
        refine W.loadA (cs := c256) rfl rfl ag50 sz50 (pt_px rfl p257) (RT.len _ f258) ?_
        obtain ⟨x259, i260, h261⟩ := bd_inv h255
        refine W.lo rfl rfl (Lo.callP (ps := []) (ps' := []) rfl (fn := Try.f26) (by kernel_rfl) rfl (mc rfl mn) O233 (fun L' O' => g_netmodel_Branch_ok K c256 x198 f258 O' _ i260)) ?_
        rintro v268 H269 ⟨G262, O263, s264, sm267, rfl⟩
        replace O263 : Ow G262 H269 (eVar b25 106 TR_Netmodel_names_0 (x229.2, w236) :: eSl w236 9 rS x229.2.l :: eVar b206 50 T_Branch x198 :: eVar b2 48 T_Network p0 :: L) := O263
        refine W.pure (v := (.int .i64 x259)) rfl rfl (v_assign (oo rfl rfl)) ?_
        refine .nil ?_
        refine .seq ?_
        refine .region ?_
        refine W.pure (v := (.int .i64 x259)) rfl rfl (v_move (oo rfl rfl)) ?_
        refine W.pure (v := (.bool (x259 != 0))) rfl rfl (v_int (oo rfl rfl) (oo rfl rfl) rfl) ?_
        refine .nil ?_
        refine .cond (b := (x259 != 0)) rfl rfl (fun g270 => ?_) (fun g270 => ?_)
        ·have h271 := pos_inv g270 h261
         refine .seq ?_
         refine .region ?_
         refine W.pure (v := (.int .i64 x259)) rfl rfl (v_move (oo rfl rfl)) ?_
         refine W.pure (v := (.int .i64 x259)) rfl rfl (v_assign (oo rfl rfl)) ?_
         refine .nil ?_
         refine .ret ?_
         have O272 : Ow G262 H269 (eSl w236 9 rS x229.2.l :: eVar b206 50 T_Branch x198 :: eVar b2 48 T_Network p0 :: L) := O263.drop 0
         have O273 : Ow G262 H269 (eVar b206 50 T_Branch x198 :: eVar b2 48 T_Network p0 :: L) := O272.drop 0
         have O274 : Ow G262 H269 (eVar b2 48 T_Network p0 :: L) := O273.drop 0
         have O275 : Ow G262 H269 (L) := O274.drop 0
         obtain rfl := Option.some.inj h271
         have h276 := tu1_inv (outS_l h182)
         obtain rfl := Option.some.inj h276
         refine ret1R (P := Try.prog) (fn := Try.f22) (n := 90) (R := fun v H' => ∃ G', Ow G' H' (L) ∧ G.le G' ∧ v = .int .i64 x259) (v1 := (.int .i64 x259)) (by rfl) (rr_tmp (by rfl) (by exact rfl)) ?_
         exact ⟨_, O275, (GM.le.trans s14 (GM.le.trans s81 (GM.le.trans s173 (GM.le.trans s192 (GM.le.trans s223 (GM.le.trans s234 s264)))))), rfl⟩
        ·have h277 := neg_b g270 h261
         refine .skip ?_
         refine .region ?_
         refine W.pure (v := (.int .i64 (kwrap .i64 (x186 + 1)))) rfl rfl (v_int (oo rfl t195) (oo rfl rfl) rfl) ?_
         refine W.pure (v := (.int .i64 (kwrap .i64 (x186 + 1)))) rfl rfl (v_move (oo rfl rfl)) ?_
         refine .nil ?_
         have O278 : Ow G262 H269 (eVar b25 106 TR_Netmodel_names_0 (x229.2, w236) :: eSl w236 9 rS x229.2.l :: eVar b2 48 T_Network p0 :: L) := O263.drop 2
         exact ⟨k183, Nat.lt_succ_self _, ⟨x229.2, x229.2.l, kwrap .i64 (x186 + 1), w236, _, h277, O278, (GM.le.trans s192 (GM.le.trans s223 (GM.le.trans s234 s264))), rfl⟩⟩
     ·have h279 := neg_b g196 h193
      refine .exit ?_
      obtain rfl := Option.some.inj h279
      exact ⟨x184, x185, w194, _, rfl, O191, s192⟩
    ·rintro σ282 H283 fr284 ⟨x280, x281, w289, G285, rfl, O286, s287⟩
     have h290 := tu2_inv (outS_r h182)
     refine .seq ?_
     refine .region ?_
     obtain ⟨c291, p292, f293⟩ := (O286.atVar (j := 2) rfl)
     refine W.loadA (cs := c291) rfl rfl ag48 sz48 (pt_px ((fr284 1 rfl).trans ((fr170 1 rfl).trans ((fr78 1 rfl).trans rfl))) p292) (RT.len _ f293) ?_
     obtain ⟨x294, i295, h296⟩ := bd_inv h290
     refine W.lo rfl rfl (Lo.callPF (ps := [eVar b25 106 TR_Netmodel_names_0 (x280, w289), eSl w289 9 rS x281]) (pw := fun w => [eVar b25 106 TR_Netmodel_names_0 (x294.2, w), eSl w 9 rS x294.2.l]) rfl (fn := Try.f69) (by kernel_rfl) rfl (mc rfl (mc ((fr284 4 rfl).trans ((fr170 4 rfl).trans ((fr78 4 rfl).trans rfl))) mn)) O286 (fun L' O' => g_netmodel_sources_ok K c291 p0 f293 b25 w289 (Netmodel_names.mk x281) O' _ i295)) ?_
     rintro v303 H304 ⟨w301, G297, O298, s299, sm302, rfl⟩
     replace O298 : Ow G297 H304 (eVar b25 106 TR_Netmodel_names_0 (x294.2, w301) :: eSl w301 9 rS x294.2.l :: eVar b2 48 T_Network p0 :: L) := O298
     refine W.pure (v := (.int .i64 x294.1)) rfl rfl (v_assign (oo rfl rfl)) ?_
     refine .nil ?_
     refine .ret ?_
     have O305 : Ow G297 H304 (eSl w301 9 rS x294.2.l :: eVar b2 48 T_Network p0 :: L) := O298.drop 0
     have O306 : Ow G297 H304 (eVar b2 48 T_Network p0 :: L) := O305.drop 0
     have O307 : Ow G297 H304 (L) := O306.drop 0
     obtain rfl := Option.some.inj h296
     refine ret1R (P := Try.prog) (fn := Try.f22) (n := 90) (R := fun v H' => ∃ G', Ow G' H' (L) ∧ G.le G' ∧ v = .int .i64 x294.1) (v1 := (.int .i64 x294.1)) (by rfl) (rr_tmp (by rfl) (by exact rfl)) ?_
     exact ⟨_, O307, (GM.le.trans s14 (GM.le.trans s81 (GM.le.trans s173 (GM.le.trans s287 s299)))), rfl⟩
def g_netmodel_Node (K : Nat) (p0 : Network) (p1 : ByteArray) : Option (Int × Int) := ((g_netmodel_Check K p0).bind fun x9 => (if (x9 != 0) = true then some (0, x9) else ((g_slices_Index_string_string K p0.Nodes p1).bind fun x27 => (if (decide (x27 < 0)) = true then some (0, 6) else some (x27, 0)))))
set_option maxHeartbeats 4000000 in
theorem g_netmodel_Node_ok (K : Nat) {G : GM} {H : AH} {L : List Pc} (v0 : List Value) (p0 : Network) (hp0 : T_Network.rep G v0 p0) (p1 : ByteArray) (O : Ow G H (L)) (r : Int × Int) (h : g_netmodel_Node K p0 p1 = some r) :
  CR Try.prog 61 [.agg (List.toArray v0), (.string p1)] G H (L) (fun v G' _ => v = .tuple #[.int .i64 r.1, .int .i64 r.2]) := by
 unfold g_netmodel_Node at h
 refine CR.of (calls_of_AW (n := 20) (fn := Try.f61) (R := fun v H' => ∃ G', Ow G' H' (L) ∧ G.le G' ∧ v = .tuple #[.int .i64 r.1, .int .i64 r.2]) (by kernel_rfl) rfl rfl ?_)
 refine .seq ?_
 refine .region ?_
 refine W.lo rfl rfl (Lo.box (r := T_Network) (x0 := p0) (v := (.agg (List.toArray v0))) rfl rfl hp0 O) ?_
 rintro v4 H5 ⟨b2, rfl, O1, sm3⟩
 refine W.pure (v := (.int .i64 0)) rfl rfl (v_assign (oo rfl rfl)) ?_
 refine W.pure (v := (.int .i64 0)) rfl rfl (v_assign (oo rfl rfl)) ?_
 refine .nil ?_
 refine .seq ?_
 refine .seq ?_
 refine .region ?_
 obtain ⟨c6, p7, f8⟩ := (O1.atVar (j := 0) rfl)
 refine W.loadA (cs := c6) rfl rfl ag48 sz48 (pt_px rfl p7) (RT.len _ f8) ?_
 obtain ⟨x9, i10, h11⟩ := bd_inv h
 refine W.lo rfl rfl (Lo.callP (ps := []) (ps' := []) rfl (fn := Try.f22) (by kernel_rfl) rfl (mc rfl mn) O1 (fun L' O' => g_netmodel_Check_ok K c6 p0 f8 O' _ i10)) ?_
 rintro v18 H19 ⟨G12, O13, s14, sm17, rfl⟩
 replace O13 : Ow G12 H19 (eVar b2 48 T_Network p0 :: L) := O13
 refine W.pure (v := (.int .i64 x9)) rfl rfl (v_assign (oo rfl rfl)) ?_
 refine .nil ?_
 refine .seq ?_
 refine .region ?_
 refine W.pure (v := (.int .i64 x9)) rfl rfl (v_move (oo rfl rfl)) ?_
 refine W.pure (v := (.bool (x9 != 0))) rfl rfl (v_int (oo rfl rfl) (oo rfl rfl) rfl) ?_
 refine .nil ?_
 refine .cond (b := (x9 != 0)) rfl rfl (fun g20 => ?_) (fun g20 => ?_)
 ·have h21 := pos_inv g20 h11
  refine .seq ?_
  refine .region ?_
  refine W.pure (v := (.int .i64 x9)) rfl rfl (v_move (oo rfl rfl)) ?_
  refine W.pure (v := (.int .i64 0)) rfl rfl (v_assign (oo rfl rfl)) ?_
  refine W.pure (v := (.int .i64 x9)) rfl rfl (v_assign (oo rfl rfl)) ?_
  refine .nil ?_
  refine .ret ?_
  have O22 : Ow G12 H19 (L) := O13.drop 0
  obtain rfl := Option.some.inj h21
  refine ret2R (P := Try.prog) (fn := Try.f61) (n := 20) (R := fun v H' => ∃ G', Ow G' H' (L) ∧ G.le G' ∧ v = .tuple #[.int .i64 (0, x9).1, .int .i64 (0, x9).2]) (v1 := (.int .i64 0)) (v2 := (.int .i64 x9)) (by rfl) (rr_tmp (by rfl) (by exact rfl)) (rr_tmp (by rfl) (by exact rfl)) ?_
  exact ⟨_, O22, s14, rfl⟩
 ·have h23 := neg_b g20 h11
  refine .skip ?_
  refine .seq ?_
  refine .region ?_
  refine W.pure (v := (padd (.pointer (some ⟨b2, 0, none⟩)) 0)) rfl rfl (v_fldA fl48_0 (oo rfl rfl) (O13.atVar (j := 0) rfl)) ?_
  obtain ⟨w24, p25, f26⟩ := At.sl (At.proj (O13.atVar (j := 0) rfl) p_Network_Nodes)
  refine W.load1 (v := w24) (r := []) rfl rfl ag41 (pt_px rfl p25) ?_
  refine W.pure (v := (.string p1)) rfl rfl (v_move (oo rfl rfl)) ?_
  obtain ⟨x27, i28, h29⟩ := bd_inv h23
  refine W.lo rfl rfl (Lo.callP (ps := []) (ps' := []) rfl (fn := Try.f82) (by kernel_rfl) rfl (mc rfl (mc rfl mn)) O13 (fun L' O' => g_slices_Index_string_string_ok K w24 p0.Nodes f26 p1 O' _ i28)) ?_
  rintro v36 H37 ⟨G30, O31, s32, sm35, rfl⟩
  replace O31 : Ow G30 H37 (eVar b2 48 T_Network p0 :: L) := O31
  refine W.pure (v := (.int .i64 x27)) rfl rfl (v_assign (oo rfl rfl)) ?_
  refine .nil ?_
  refine .seq ?_
  refine .seq ?_
  refine .region ?_
  refine W.pure (v := (.int .i64 x27)) rfl rfl (v_move (oo rfl rfl)) ?_
  refine W.pure (v := (.bool (decide (x27 < 0)))) rfl rfl (v_int (oo rfl rfl) (oo rfl rfl) rfl) ?_
  refine .nil ?_
  refine .cond (b := decide (x27 < 0)) rfl rfl (fun g38 => ?_) (fun g38 => ?_)
  ·have h39 := pos_inv g38 h29
   refine .seq ?_
   refine .region ?_
   refine W.pure (v := (.int .i64 0)) rfl rfl (v_assign (oo rfl rfl)) ?_
   refine W.pure (v := (.int .i64 6)) rfl rfl (v_assign (oo rfl rfl)) ?_
   refine .nil ?_
   refine .ret ?_
   have O40 : Ow G30 H37 (L) := O31.drop 0
   obtain rfl := Option.some.inj h39
   refine ret2R (P := Try.prog) (fn := Try.f61) (n := 20) (R := fun v H' => ∃ G', Ow G' H' (L) ∧ G.le G' ∧ v = .tuple #[.int .i64 (0, 6).1, .int .i64 (0, 6).2]) (v1 := (.int .i64 0)) (v2 := (.int .i64 6)) (by rfl) (rr_tmp (by rfl) (by exact rfl)) (rr_tmp (by rfl) (by exact rfl)) ?_
   exact ⟨_, O40, (GM.le.trans s14 s32), rfl⟩
  ·have h41 := neg_b g38 h29
   refine .skip ?_
   refine .seq ?_
   refine .region ?_
   refine W.pure (v := (.int .i64 x27)) rfl rfl (v_move (oo rfl rfl)) ?_
   refine W.pure (v := (.int .i64 x27)) rfl rfl (v_assign (oo rfl rfl)) ?_
   refine W.pure (v := (.int .i64 0)) rfl rfl (v_assign (oo rfl rfl)) ?_
   refine .nil ?_
   refine .ret ?_
   have O42 : Ow G30 H37 (L) := O31.drop 0
   obtain rfl := Option.some.inj h41
   refine ret2R (P := Try.prog) (fn := Try.f61) (n := 20) (R := fun v H' => ∃ G', Ow G' H' (L) ∧ G.le G' ∧ v = .tuple #[.int .i64 (x27, 0).1, .int .i64 (x27, 0).2]) (v1 := (.int .i64 x27)) (v2 := (.int .i64 0)) (by rfl) (rr_tmp (by rfl) (by exact rfl)) (rr_tmp (by rfl) (by exact rfl)) ?_
   exact ⟨_, O42, (GM.le.trans s14 s32), rfl⟩
def g_station_two (K : Nat) (p0 : Network) (p1 : ByteArray) (p2 : ByteArray) : Option (Int × Int × Int) := ((g_netmodel_Node K p0 p1).bind fun x9 => (if (x9.2 != 0) = true then some (0, 0, x9.2) else ((g_netmodel_Node K p0 p2).bind fun x27 => (if (x27.2 != 0) = true then some (0, 0, x27.2) else some (x9.1, x27.1, 0)))))
set_option maxHeartbeats 4000000 in
theorem g_station_two_ok (K : Nat) {G : GM} {H : AH} {L : List Pc} (v0 : List Value) (p0 : Network) (hp0 : T_Network.rep G v0 p0) (p1 : ByteArray) (p2 : ByteArray) (O : Ow G H (L)) (r : Int × Int × Int) (h : g_station_two K p0 p1 p2 = some r) :
  CR Try.prog 87 [.agg (List.toArray v0), (.string p1), (.string p2)] G H (L) (fun v G' _ => v = .tuple #[.int .i64 r.1, .int .i64 r.2.1, .int .i64 r.2.2]) := by
 unfold g_station_two at h
 refine CR.of (calls_of_AW (n := 32) (fn := Try.f87) (R := fun v H' => ∃ G', Ow G' H' (L) ∧ G.le G' ∧ v = .tuple #[.int .i64 r.1, .int .i64 r.2.1, .int .i64 r.2.2]) (by kernel_rfl) rfl rfl ?_)
 refine .seq ?_
 refine .region ?_
 refine W.lo rfl rfl (Lo.box (r := T_Network) (x0 := p0) (v := (.agg (List.toArray v0))) rfl rfl hp0 O) ?_
 rintro v4 H5 ⟨b2, rfl, O1, sm3⟩
 refine W.pure (v := (.int .i64 0)) rfl rfl (v_assign (oo rfl rfl)) ?_
 refine W.pure (v := (.int .i64 0)) rfl rfl (v_assign (oo rfl rfl)) ?_
 refine W.pure (v := (.int .i64 0)) rfl rfl (v_assign (oo rfl rfl)) ?_
 refine .nil ?_
 refine .seq ?_
 refine .region ?_
 obtain ⟨c6, p7, f8⟩ := (O1.atVar (j := 0) rfl)
 refine W.loadA (cs := c6) rfl rfl ag48 sz48 (pt_px rfl p7) (RT.len _ f8) ?_
 refine W.pure (v := (.string p1)) rfl rfl (v_move (oo rfl rfl)) ?_
 obtain ⟨x9, i10, h11⟩ := bd_inv h
 refine W.lo rfl rfl (Lo.callP (ps := []) (ps' := []) rfl (fn := Try.f61) (by kernel_rfl) rfl (mc rfl (mc rfl mn)) O1 (fun L' O' => g_netmodel_Node_ok K c6 p0 f8 p1 O' _ i10)) ?_
 rintro v18 H19 ⟨G12, O13, s14, sm17, rfl⟩
 replace O13 : Ow G12 H19 (eVar b2 48 T_Network p0 :: L) := O13
 refine W.pure (v := (.tuple #[(.int .i64 x9.1), (.int .i64 x9.2)])) rfl rfl (v_move (oo rfl rfl)) ?_
 refine W.pure (v := (.int .i64 x9.1)) rfl rfl (v_extract (oo rfl rfl) rfl) ?_
 refine W.pure (v := (.int .i64 x9.2)) rfl rfl (v_extract (oo rfl rfl) rfl) ?_
 refine W.pure (v := (.int .i64 x9.1)) rfl rfl (v_assign (oo rfl rfl)) ?_
 refine W.pure (v := (.int .i64 x9.2)) rfl rfl (v_assign (oo rfl rfl)) ?_
 refine .nil ?_
 refine .seq ?_
 refine .seq ?_
 refine .region ?_
 refine W.pure (v := (.int .i64 x9.2)) rfl rfl (v_move (oo rfl rfl)) ?_
 refine W.pure (v := (.bool (x9.2 != 0))) rfl rfl (v_int (oo rfl rfl) (oo rfl rfl) rfl) ?_
 refine .nil ?_
 refine .cond (b := (x9.2 != 0)) rfl rfl (fun g20 => ?_) (fun g20 => ?_)
 ·have h21 := pos_inv g20 h11
  refine .seq ?_
  refine .region ?_
  refine W.pure (v := (.int .i64 x9.2)) rfl rfl (v_move (oo rfl rfl)) ?_
  refine W.pure (v := (.int .i64 0)) rfl rfl (v_assign (oo rfl rfl)) ?_
  refine W.pure (v := (.int .i64 0)) rfl rfl (v_assign (oo rfl rfl)) ?_
  refine W.pure (v := (.int .i64 x9.2)) rfl rfl (v_assign (oo rfl rfl)) ?_
  refine .nil ?_
  refine .ret ?_
  have O22 : Ow G12 H19 (L) := O13.drop 0
  obtain rfl := Option.some.inj h21
  refine ret3R (P := Try.prog) (fn := Try.f87) (n := 32) (R := fun v H' => ∃ G', Ow G' H' (L) ∧ G.le G' ∧ v = .tuple #[.int .i64 (0, 0, x9.2).1, .int .i64 (0, 0, x9.2).2.1, .int .i64 (0, 0, x9.2).2.2]) (v1 := (.int .i64 0)) (v2 := (.int .i64 0)) (v3 := (.int .i64 x9.2)) (by rfl) (rr_tmp (by rfl) (by exact rfl)) (rr_tmp (by rfl) (by exact rfl)) (rr_tmp (by rfl) (by exact rfl)) ?_
  exact ⟨_, O22, s14, rfl⟩
 ·have h23 := neg_b g20 h11
  refine .skip ?_
  refine .seq ?_
  refine .region ?_
  obtain ⟨c24, p25, f26⟩ := (O13.atVar (j := 0) rfl)
  refine W.loadA (cs := c24) rfl rfl ag48 sz48 (pt_px rfl p25) (RT.len _ f26) ?_
  refine W.pure (v := (.string p2)) rfl rfl (v_move (oo rfl rfl)) ?_
  obtain ⟨x27, i28, h29⟩ := bd_inv h23
  refine W.lo rfl rfl (Lo.callP (ps := []) (ps' := []) rfl (fn := Try.f61) (by kernel_rfl) rfl (mc rfl (mc rfl mn)) O13 (fun L' O' => g_netmodel_Node_ok K c24 p0 f26 p2 O' _ i28)) ?_
  rintro v36 H37 ⟨G30, O31, s32, sm35, rfl⟩
  replace O31 : Ow G30 H37 (eVar b2 48 T_Network p0 :: L) := O31
  refine W.pure (v := (.tuple #[(.int .i64 x27.1), (.int .i64 x27.2)])) rfl rfl (v_move (oo rfl rfl)) ?_
  refine W.pure (v := (.int .i64 x27.1)) rfl rfl (v_extract (oo rfl rfl) rfl) ?_
  refine W.pure (v := (.int .i64 x27.2)) rfl rfl (v_extract (oo rfl rfl) rfl) ?_
  refine W.pure (v := (.int .i64 x27.1)) rfl rfl (v_assign (oo rfl rfl)) ?_
  refine W.pure (v := (.int .i64 x27.2)) rfl rfl (v_assign (oo rfl rfl)) ?_
  refine .nil ?_
  refine .seq ?_
  refine .seq ?_
  refine .region ?_
  refine W.pure (v := (.int .i64 x27.2)) rfl rfl (v_move (oo rfl rfl)) ?_
  refine W.pure (v := (.bool (x27.2 != 0))) rfl rfl (v_int (oo rfl rfl) (oo rfl rfl) rfl) ?_
  refine .nil ?_
  refine .cond (b := (x27.2 != 0)) rfl rfl (fun g38 => ?_) (fun g38 => ?_)
  ·have h39 := pos_inv g38 h29
   refine .seq ?_
   refine .region ?_
   refine W.pure (v := (.int .i64 x27.2)) rfl rfl (v_move (oo rfl rfl)) ?_
   refine W.pure (v := (.int .i64 0)) rfl rfl (v_assign (oo rfl rfl)) ?_
   refine W.pure (v := (.int .i64 0)) rfl rfl (v_assign (oo rfl rfl)) ?_
   refine W.pure (v := (.int .i64 x27.2)) rfl rfl (v_assign (oo rfl rfl)) ?_
   refine .nil ?_
   refine .ret ?_
   have O40 : Ow G30 H37 (L) := O31.drop 0
   obtain rfl := Option.some.inj h39
   refine ret3R (P := Try.prog) (fn := Try.f87) (n := 32) (R := fun v H' => ∃ G', Ow G' H' (L) ∧ G.le G' ∧ v = .tuple #[.int .i64 (0, 0, x27.2).1, .int .i64 (0, 0, x27.2).2.1, .int .i64 (0, 0, x27.2).2.2]) (v1 := (.int .i64 0)) (v2 := (.int .i64 0)) (v3 := (.int .i64 x27.2)) (by rfl) (rr_tmp (by rfl) (by exact rfl)) (rr_tmp (by rfl) (by exact rfl)) (rr_tmp (by rfl) (by exact rfl)) ?_
   exact ⟨_, O40, (GM.le.trans s14 s32), rfl⟩
  ·have h41 := neg_b g38 h29
   refine .skip ?_
   refine .seq ?_
   refine .region ?_
   refine W.pure (v := (.int .i64 x9.1)) rfl rfl (v_move (oo rfl rfl)) ?_
   refine W.pure (v := (.int .i64 x27.1)) rfl rfl (v_move (oo rfl rfl)) ?_
   refine W.pure (v := (.int .i64 x9.1)) rfl rfl (v_assign (oo rfl rfl)) ?_
   refine W.pure (v := (.int .i64 x27.1)) rfl rfl (v_assign (oo rfl rfl)) ?_
   refine W.pure (v := (.int .i64 0)) rfl rfl (v_assign (oo rfl rfl)) ?_
   refine .nil ?_
   refine .ret ?_
   have O42 : Ow G30 H37 (L) := O31.drop 0
   obtain rfl := Option.some.inj h41
   refine ret3R (P := Try.prog) (fn := Try.f87) (n := 32) (R := fun v H' => ∃ G', Ow G' H' (L) ∧ G.le G' ∧ v = .tuple #[.int .i64 (x9.1, x27.1, 0).1, .int .i64 (x9.1, x27.1, 0).2.1, .int .i64 (x9.1, x27.1, 0).2.2]) (v1 := (.int .i64 x9.1)) (v2 := (.int .i64 x27.1)) (v3 := (.int .i64 0)) (by rfl) (rr_tmp (by rfl) (by exact rfl)) (rr_tmp (by rfl) (by exact rfl)) (rr_tmp (by rfl) (by exact rfl)) ?_
   exact ⟨_, O42, (GM.le.trans s14 s32), rfl⟩
def g_station_Edges_l0 (K : Nat) (p0 : Network) : Nat → List (List Int) → Int → Option (List (List Int))
 | 0, _, _ => none
 | k + 1, x14, x15 => (if (decide (x15 < (List.length p0.Switches : Int))) = true then ((idx p0.Switches x15).bind fun x26 => ((g_slices_Index_string_string K p0.Nodes x26.A).bind fun x50 => ((g_slices_Index_string_string K p0.Nodes x26.B).bind fun x64 => (if List.length x14 + List.length [[x50, x64]] ≤ 16777216 then g_station_Edges_l0 K p0 k (x14 ++ [[x50, x64]]) (kwrap .i64 (x15 + 1)) else none)))) else some x14)
def g_station_Edges (K : Nat) (p0 : Network) : Option (List (List Int)) := (Option.bind (g_station_Edges_l0 K p0 K [] 0) (tu1 fun x96 => some x96))
set_option maxHeartbeats 4000000 in
theorem g_station_Edges_ok (K : Nat) {G : GM} {H : AH} {L : List Pc} (v0 : List Value) (p0 : Network) (hp0 : T_Network.rep G v0 p0) (O : Ow G H (L)) (r : List (List Int)) (h : g_station_Edges K p0 = some r) :
  CRF Try.prog 88 [.agg (List.toArray v0)] G H (fun w0 => (eSl w0 29 (rArr 2 (rI .i64)) r :: L)) (fun w0 v G' => w0 = v) := by
 unfold g_station_Edges at h
 refine CRF.of (calls_of_AW (n := 29) (fn := Try.f88) (R := fun v H' => ∃ w0 G', Ow G' H' (eSl w0 29 (rArr 2 (rI .i64)) r :: L) ∧ G.le G' ∧ w0 = v) (by kernel_rfl) rfl rfl ?_)
 refine .seq ?_
 refine .region ?_
 refine W.lo rfl rfl (Lo.box (r := T_Network) (x0 := p0) (v := (.agg (List.toArray v0))) rfl rfl hp0 O) ?_
 rintro v4 H5 ⟨b2, rfl, O1, sm3⟩
 refine W.pure (v := (.slice none 0 0)) rfl rfl (v_assign (oo rfl rfl)) ?_
 refine .nil ?_
 refine .seq ?_
 refine .region ?_
 refine W.pure (v := (.slice none 0 0)) rfl rfl (v_assign (oo rfl rfl)) ?_
 refine .nil ?_
 refine .seq ?_
 refine .seq ?_
 refine .region ?_
 refine W.pure (v := (padd (.pointer (some ⟨b2, 0, none⟩)) 1)) rfl rfl (v_fldA fl48_1 (oo rfl rfl) (O1.atVar (j := 0) rfl)) ?_
 obtain ⟨w6, p7, f8⟩ := At.sl (At.proj (O1.atVar (j := 0) rfl) p_Network_Switches)
 refine W.load1 (v := w6) (r := []) rfl rfl ag42 (pt_px rfl p7) ?_
 refine W.pure (v := (.int .i64 (List.length p0.Switches : Int))) rfl rfl (len_sl (oo rfl rfl) (sl_len f8) (elemT_inv el42)) ?_
 refine W.pure (v := (.int .i64 0)) rfl rfl (v_move (oo rfl rfl)) ?_
 refine .nil ?_
 obtain ⟨q9, h10, h11⟩ := bd_inv h
 refine AW.midT (fun σ' H' => ∃ (y1 : List (List Int)) (G' : GM), y1 = q9 ∧ Ow G' H' (eVar b2 48 T_Network p0 :: eSl (σ' 3) 29 (rArr 2 (rI .i64)) y1 :: L) ∧ GM.le G G') ?_ ?_
 ·refine .block ?_
  have O12 := O1.nilSl 29 (rArr 2 (rI .i64))
  refine AW.loop (α := Nat) (fun k' σ' H' => ∃ (y1 : List (List Int)) (y2 : Int) (G' : GM), g_station_Edges_l0 K p0 k' y1 y2 = some q9 ∧ Ow G' H' (eSl (σ' 3) 29 (rArr 2 (rI .i64)) y1 :: eVar b2 48 T_Network p0 :: L) ∧ GM.le G G' ∧ σ' 9 = .int .i64 y2) (fun k' => k') K ⟨[], 0, _, h10, O12, (GM.le.refl _), rfl⟩ ?_
  rintro k13
  rintro σ16 H17 fr18 ⟨x14, x15, G19, h22, O20, s21, t23⟩
  rcases k13 with _ | k13
  ·exact none_absurd h22
  rw [g_station_Edges_l0] at h22
  refine .seq ?_
  refine .region ?_
  refine W.pure (v := (.bool (decide (x15 < (List.length p0.Switches : Int))))) rfl rfl (v_int (oo rfl t23) (oo rfl ((fr18 8 rfl).trans rfl)) rfl) ?_
  refine .nil ?_
  refine .seq ?_
  refine .cond (b := decide (x15 < (List.length p0.Switches : Int))) rfl rfl (fun g24 => ?_) (fun g24 => ?_)
  ·have h25 := pos_inv g24 h22
   refine .skip ?_
   refine .seq ?_
   refine .block ?_
   refine .seq ?_
   refine .region ?_
   obtain ⟨x26, i27, h28⟩ := bd_inv h25
   have j29 := idx_inv i27
   refine W.pure (v := (selem w6 (Int.toNat x15 * 5))) rfl rfl (v_idx el42 sz81 (oo rfl ((fr18 7 rfl).trans rfl)) (oo rfl t23) (sl_len (RT.mono _ s21 f8)) j29.1 j29.2.1) ?_
   obtain ⟨c30, p31, f32⟩ := (At.le (At.le (sl_idx f8 j29.2.2) s21 s21) (GM.le.refl _) O20.fro)
   refine W.loadA (cs := c30) rfl rfl ag81 sz81 (pt_px rfl p31) (RT.len _ f32) ?_
   refine W.lo rfl rfl (Lo.alloc (r := T_Switch) (x0 := (Switch.mk ByteArray.empty ByteArray.empty ByteArray.empty false false)) ze81 (by kernel_rfl) z_Switch O20) ?_
   rintro v36 H37 ⟨b34, rfl, O33, sm35⟩
   refine W.lo rfl rfl (Lo.storeVar (j := 0) (s := T_Switch) (y0 := x26) (v := (.agg (List.toArray c30))) (o := 0) rfl ((Put.at (Put.self _) _ _)) rfl sz81 rfl (by omega) rfl f32 O33) ?_
   rintro v40 H41 ⟨O38, sm39⟩
   replace O38 : Ow G19 H41 (eVar b34 81 T_Switch x26 :: eSl (σ16 3) 29 (rArr 2 (rI .i64)) x14 :: eVar b2 48 T_Network p0 :: L) := O38
   refine .nil ?_
   refine .draw2 (M := [0, 0, 2, 0, 8, 30, 0, 64, 0, 256, 1022, 2046, 4094, 8191, 16383]) mixed (by kernel_rfl) (by kernel_rfl) fun H42 N46 x43 F45 => ?_
   have O44 := O38.ext x43
   refine D2.pure (v := (σ16 3)) rfl rfl (v_move (oo rfl rfl)) ?_
   refine D2.pure (v := (padd (.pointer (some ⟨b2, 0, none⟩)) 0)) rfl rfl (v_fldA fl48_0 (oo rfl ((fr18 1 rfl).trans rfl)) (O44.atVar (j := 2) rfl)) ?_
   obtain ⟨w47, p48, f49⟩ := At.sl (At.proj (O44.atVar (j := 2) rfl) p_Network_Nodes)
   refine D2.load1' (v := w47) (r := []) rfl rfl ag41 (pt_px rfl p48) fa_nil ?_
   refine D2.pure (v := (padd (.pointer (some ⟨b34, 0, none⟩)) 1)) rfl rfl (v_fldA fl81_1 (oo rfl rfl) (O44.atVar (j := 0) rfl)) ?_
   refine D2.load1' (v := (.string x26.A)) (r := []) rfl rfl ag9 (pt_px rfl (At.str (At.proj (O44.atVar (j := 0) rfl) p_Switch_A))) fa_nil ?_
   obtain ⟨x50, i51, h52⟩ := bd_inv h28
   refine D2.lo rfl rfl (Lo.callP (ps := []) (ps' := []) rfl (fn := Try.f82) (by kernel_rfl) rfl (mc rfl (mc rfl mn)) O44 (fun L' O' => g_slices_Index_string_string_ok K w47 p0.Nodes f49 x26.A O' _ i51)) ?_ fa_nil ?_ ?_
   ·rintro v59 H60 ⟨G53, O54, s55, sm58, rfl⟩; exact (faR1 (.inl (by decide)) (faR1 (.inl (by decide)) fa_nil))
   ·rintro v59 H60 ⟨G53, O54, s55, sm58, rfl⟩; exact fa_nil
   rintro v59 H60 ⟨G53, O54, s55, sm58, rfl⟩
   replace O54 : Ow G53 H60 (eVar b34 81 T_Switch x26 :: eSl (σ16 3) 29 (rArr 2 (rI .i64)) x14 :: eVar b2 48 T_Network p0 :: L) := O54
   refine D2.pure (v := (padd (.pointer (some ⟨b2, 0, none⟩)) 0)) rfl rfl (v_fldA fl48_0 (oo rfl ((fr18 1 rfl).trans rfl)) (O54.atVar (j := 2) rfl)) ?_
   obtain ⟨w61, p62, f63⟩ := At.sl (At.proj (O54.atVar (j := 2) rfl) p_Network_Nodes)
   refine D2.load1' (v := w61) (r := []) rfl rfl ag41 (pt_px rfl p62) (faQ_eq (sm58 _ (Or.inr ⟨2, _, rfl, List.mem_singleton.2 rfl⟩)) fa_nil) ?_
   refine D2.pure (v := (padd (.pointer (some ⟨b34, 0, none⟩)) 2)) rfl rfl (v_fldA fl81_2 (oo rfl rfl) (O54.atVar (j := 0) rfl)) ?_
   refine D2.load1' (v := (.string x26.B)) (r := []) rfl rfl ag9 (pt_px rfl (At.str (At.proj (O54.atVar (j := 0) rfl) p_Switch_B))) (faQ_eq (sm58 _ (Or.inr ⟨0, _, rfl, List.mem_singleton.2 rfl⟩)) fa_nil) ?_
   obtain ⟨x64, i65, h66⟩ := bd_inv h52
   refine D2.lo rfl rfl (Lo.callP (ps := []) (ps' := []) rfl (fn := Try.f82) (by kernel_rfl) rfl (mc rfl (mc rfl mn)) O54 (fun L' O' => g_slices_Index_string_string_ok K w61 p0.Nodes f63 x26.B O' _ i65)) ?_ (faL_bit (by decide) fa_nil) ?_ ?_
   ·rintro v73 H74 ⟨G67, O68, s69, sm72, rfl⟩; exact (faR1 (.inl (by decide)) (faR1 (.inl (by decide)) (faR1 (.inl (by decide)) (faR1 (.inl (by decide)) fa_nil))))
   ·rintro v73 H74 ⟨G67, O68, s69, sm72, rfl⟩; exact fa_nil
   rintro v73 H74 ⟨G67, O68, s69, sm72, rfl⟩
   replace O68 : Ow G67 H74 (eVar b34 81 T_Switch x26 :: eSl (σ16 3) 29 (rArr 2 (rI .i64)) x14 :: eVar b2 48 T_Network p0 :: L) := O68
   obtain ⟨c75, e77, f76⟩ := v_buildAA (P := Try.prog) (r := (rI .i64)) (vs := [(.int .i64 x50), (.int .i64 x64)]) (xs := [x50, x64]) ar29 sz3 ze29 zo29 rfl (by kernel_rfl) (.cons rfl (.cons rfl .nil))
   refine D2.pure (v := .agg (List.toArray c75)) rfl rfl (e77 (opndP_oo rfl (qc rfl (qc rfl qn)))) ?_
   refine D2.lo rfl rfl (Lo.buildSlice (r := (rArr 2 (rI .i64))) (vs := [(.agg (List.toArray c75))]) (xs := [[x50, x64]]) el22 ze29 sz29 (by kernel_rfl) rfl (qc rfl qn) rfl (.cons f76 .nil) O68) ?_ (faL_bit (by decide) (faL_bit (by decide) fa_nil)) ?_ ?_
   ·rintro v80 H81 ⟨O78, sm79⟩; exact (faR1 (.inl (by decide)) (faR1 (.inl (by decide)) (faR1 (.inl (by decide)) (faR1 (.inl (by decide)) fa_nil))))
   ·rintro v80 H81 ⟨O78, sm79⟩; exact fa_nil
   rintro v80 H81 ⟨O78, sm79⟩
   obtain ⟨es83, e84, e85⟩ := src_own (j := 0) rfl O78
   obtain ⟨g86, h87⟩ := gd_inv h66
   refine D2.lo rfl rfl (Lo.append (j := 2) (v := (σ16 3)) rfl rfl el22 ni22 ze29 sz29 by29 (by decide) (by decide) rfl e84 e85 g86 O78) ?_ (faL_bit (by decide) (faL_bit (by decide) (faL_bit (by decide) fa_nil))) ?_ ?_
   ·rintro v89 H90 ⟨O82, sm88⟩; exact (faR1 (.inl (by decide)) (faR1 (.inl (by decide)) (faR1 (.inl (by decide)) (faR1 (.inl (by decide)) fa_nil))))
   ·rintro v89 H90 ⟨O82, sm88⟩; exact fa_nil
   rintro v89 H90 ⟨O82, sm88⟩
   replace O82 : Ow G67 H90 (eSl v80 29 (rArr 2 (rI .i64)) [[x50, x64]] :: eVar b34 81 T_Switch x26 :: eSl v89 29 (rArr 2 (rI .i64)) (x14 ++ [[x50, x64]]) :: eVar b2 48 T_Network p0 :: L) := O82
   refine D2.pure (v := v89) rfl rfl (v_assign (oo rfl rfl)) ?_
   refine .nil ?_
   refine .region ?_
   refine W.pure (v := (.int .i64 (kwrap .i64 (x15 + 1)))) rfl rfl (v_int (oo rfl t23) (oo rfl rfl) rfl) ?_
   refine W.pure (v := (.int .i64 (kwrap .i64 (x15 + 1)))) rfl rfl (v_move (oo rfl rfl)) ?_
   refine .nil ?_
   have O91 : Ow G67 H90 (eVar b34 81 T_Switch x26 :: eSl v89 29 (rArr 2 (rI .i64)) (x14 ++ [[x50, x64]]) :: eVar b2 48 T_Network p0 :: L) := O82.drop 0
   have O92 : Ow G67 H90 (eSl v89 29 (rArr 2 (rI .i64)) (x14 ++ [[x50, x64]]) :: eVar b2 48 T_Network p0 :: L) := O91.drop 0
   exact ⟨k13, Nat.lt_succ_self _, ⟨(x14 ++ [[x50, x64]]), kwrap .i64 (x15 + 1), _, h87, O92, (GM.le.trans s21 (GM.le.trans s55 s69)), rfl⟩⟩
  ·have h93 := neg_b g24 h22
   refine .exit ?_
   have O94 : Ow G19 H17 (eSl (σ16 3) 29 (rArr 2 (rI .i64)) x14 :: eVar b2 48 T_Network p0 :: L) := O20.front (j := 0) rfl
   have O95 : Ow G19 H17 (eVar b2 48 T_Network p0 :: eSl (σ16 3) 29 (rArr 2 (rI .i64)) x14 :: L) := O94.front (j := 1) rfl
   obtain rfl := Option.some.inj h93
   exact ⟨x14, _, rfl, O95, s21⟩
 ·rintro σ97 H98 fr99 ⟨x96, G100, rfl, O101, s102⟩
  have h104 := tu1_inv h11
  refine .seq ?_
  refine .region ?_
  refine W.pure (v := (σ97 3)) rfl rfl (v_move (oo rfl rfl)) ?_
  refine W.pure (v := (σ97 3)) rfl rfl (v_assign (oo rfl rfl)) ?_
  refine .nil ?_
  refine .ret ?_
  have O105 : Ow G100 H98 (eSl (σ97 3) 29 (rArr 2 (rI .i64)) x96 :: L) := O101.drop 0
  obtain rfl := Option.some.inj h104
  refine ret1R (P := Try.prog) (fn := Try.f88) (n := 29) (R := fun v H' => ∃ w0 G', Ow G' H' (eSl w0 29 (rArr 2 (rI .i64)) x96 :: L) ∧ G.le G' ∧ w0 = v) (v1 := (σ97 3)) (by rfl) (rr_tmp (by rfl) (by exact rfl)) ?_
  exact ⟨(σ97 3), _, O105, s102, rfl⟩
def g_station_Path_1 (K : Nat) (p0 : Int) (p1 : Network) : Option Bool := ((idx p1.Switches p0).bind fun x4 => some (!x4.Open))
set_option maxHeartbeats 4000000 in
theorem g_station_Path_1_ok (K : Nat) {G : GM} {H : AH} {L : List Pc} (p0 : Int) (v1 : Value) (p1 : Network) (hp1 : At G G v1 T_Network p1) (O : Ow G H (L)) (r : Bool) (h : g_station_Path_1 K p0 p1 = some r) :
  CR Try.prog 89 [(.int .i64 p0), v1] G H (L) (fun v G' _ => v = .bool r) := by
 unfold g_station_Path_1 at h
 refine CR.of (calls_of_AW (n := 11) (fn := Try.f89) (R := fun v H' => ∃ G', Ow G' H' (L) ∧ G.le G' ∧ v = .bool r) (by kernel_rfl) rfl rfl ?_)
 refine .seq ?_
 refine .region ?_
 refine W.pure (v := (.bool false)) rfl rfl (v_assign (oo rfl rfl)) ?_
 refine .nil ?_
 refine .seq ?_
 refine .region ?_
 refine W.pure (v := (padd v1 1)) rfl rfl (v_fldA fl48_1 (oo rfl rfl) (At.le hp1 (GM.le.refl _) O.fro)) ?_
 obtain ⟨w1, p2, f3⟩ := At.sl (At.proj hp1 p_Network_Switches)
 replace p2 := PtG.le p2 O.fro
 refine W.load1 (v := w1) (r := []) rfl rfl ag42 (pt_px rfl p2) ?_
 refine W.pure (v := (.int .i64 p0)) rfl rfl (v_move (oo rfl rfl)) ?_
 obtain ⟨x4, i5, h6⟩ := bd_inv h
 have j7 := idx_inv i5
 refine W.pure (v := (selem w1 (Int.toNat p0 * 5))) rfl rfl (v_idx el42 sz81 (oo rfl rfl) (oo rfl rfl) (sl_len f3) j7.1 j7.2.1) ?_
 refine W.pure (v := (padd (selem w1 (Int.toNat p0 * 5)) 4)) rfl rfl (v_fldA fl81_4 (oo rfl rfl) (At.le (sl_idx f3 j7.2.2) (GM.le.refl _) O.fro)) ?_
 refine W.load1 (v := (.bool x4.Open)) (r := []) rfl rfl ag4 (pt_px rfl (At.bool (At.le (At.proj (sl_idx f3 j7.2.2) p_Switch_Open) (GM.le.refl _) O.fro))) ?_
 refine W.pure (v := (.bool (!x4.Open))) rfl rfl (bool_not (a := x4.Open) (oo rfl rfl)) ?_
 refine W.pure (v := (.bool (!x4.Open))) rfl rfl (v_assign (oo rfl rfl)) ?_
 refine .nil ?_
 refine .ret ?_
 obtain rfl := Option.some.inj h6
 refine ret1R (P := Try.prog) (fn := Try.f89) (n := 11) (R := fun v H' => ∃ G', Ow G' H' (L) ∧ G.le G' ∧ v = .bool (!x4.Open)) (v1 := (.bool (!x4.Open))) (by rfl) (rr_tmp (by rfl) (by exact rfl)) ?_
 exact ⟨_, O, (GM.le.refl _), rfl⟩
end Go.Am.Try
