/- Typed functions with the same answers as the program's, and the walks that show it. -/
import Derived.Test.YtkpapdbklbclhaaGreatDoorG2Z5
import Derived.Test.YtkpapdbklbclhaaGreatDoorG10Z5
set_option maxRecDepth 100000
set_option maxHeartbeats 8000000
set_option linter.unusedVariables false
set_option linter.unusedSimpArgs false
namespace Go.Am.Tryz
open Go Go.Am Go.Proofs
variable (K : Nat) {G : GM} {H : AH} {L : List Pc}
structure Switch where
  Name : zAd
  A : zAd
  B : zAd
  Breaker : Bool
  Open : Bool
  deriving DecidableEq, Inhabited
def T_Switch : RT Switch := rIso (rP rS (rP rS (rP rS (rP rB rB)))) (fun s : Switch => (s.Name, s.A, s.B, s.Breaker, s.Open))
theorem zbn (G : GM) : T_Switch.rep G ([.string ByteArray.empty] ++ ([.string ByteArray.empty] ++ ([.string ByteArray.empty] ++ ([.bool false] ++ [.bool false])))) ((Switch.mk ByteArray.empty ByteArray.empty ByteArray.empty false false)) := ⟨_, _, rfl, zS G, ⟨_, _, rfl, zS G, ⟨_, _, rfl, zS G, ⟨_, _, rfl, zB G, (zB G)⟩⟩⟩⟩
theorem z60 : Proj T_Switch 0 rS (fun x => x.Name) := by
  have h := (Proj.iso (rP rS (rP rS (rP rS (rP rB rB)))) (fun s : Switch => (s.Name, s.A, s.B, s.Breaker, s.Open))).comp (Proj.fst _ _)
  exact h
theorem z6p : Proj T_Switch 1 rS (fun x => x.A) := by
  have h := (Proj.iso (rP rS (rP rS (rP rS (rP rB rB)))) (fun s : Switch => (s.Name, s.A, s.B, s.Breaker, s.Open))).comp ((Proj.snd _ _).comp (Proj.fst _ _))
  exact h
theorem z6q : Proj T_Switch 2 rS (fun x => x.B) := by
  have h := (Proj.iso (rP rS (rP rS (rP rS (rP rB rB)))) (fun s : Switch => (s.Name, s.A, s.B, s.Breaker, s.Open))).comp ((Proj.snd _ _).comp ((Proj.snd _ _).comp (Proj.fst _ _)))
  exact h
structure Branch where
  Name : zAd
  From : zAd
  To : zAd
  X : Int
  Tap : Int
  Shift : Int
  Limit : Int
  Short : Int
  Hold : Int
  deriving DecidableEq, Inhabited
def T_Branch : RT Branch := rIso (rP rS (rP rS (rP rS (rP (rI .i64) (rP (rI .i64) (rP (rI .i64) (rP (rI .i64) (rP (rI .i64) (rI .i64))))))))) (fun s : Branch => (s.Name, s.From, s.To, s.X, s.Tap, s.Shift, s.Limit, s.Short, s.Hold))
theorem zbo (G : GM) : T_Branch.rep G ([.string ByteArray.empty] ++ ([.string ByteArray.empty] ++ ([.string ByteArray.empty] ++ ([.int .i64 0] ++ ([.int .i64 0] ++ ([.int .i64 0] ++ ([.int .i64 0] ++ ([.int .i64 0] ++ [.int .i64 0])))))))) ((Branch.mk ByteArray.empty ByteArray.empty ByteArray.empty 0 0 0 0 0 0)) := ⟨_, _, rfl, zS G, ⟨_, _, rfl, zS G, ⟨_, _, rfl, zS G, ⟨_, _, rfl, (zI .i64) G, ⟨_, _, rfl, (zI .i64) G, ⟨_, _, rfl, (zI .i64) G, ⟨_, _, rfl, (zI .i64) G, ⟨_, _, rfl, (zI .i64) G, ((zI .i64) G)⟩⟩⟩⟩⟩⟩⟩⟩
theorem z61 : Proj T_Branch 0 rS (fun x => x.Name) := by
  have h := (Proj.iso (rP rS (rP rS (rP rS (rP (rI .i64) (rP (rI .i64) (rP (rI .i64) (rP (rI .i64) (rP (rI .i64) (rI .i64))))))))) (fun s : Branch => (s.Name, s.From, s.To, s.X, s.Tap, s.Shift, s.Limit, s.Short, s.Hold))).comp (Proj.fst _ _)
  exact h
theorem z4l : Proj T_Branch 1 rS (fun x => x.From) := by
  have h := (Proj.iso (rP rS (rP rS (rP rS (rP (rI .i64) (rP (rI .i64) (rP (rI .i64) (rP (rI .i64) (rP (rI .i64) (rI .i64))))))))) (fun s : Branch => (s.Name, s.From, s.To, s.X, s.Tap, s.Shift, s.Limit, s.Short, s.Hold))).comp ((Proj.snd _ _).comp (Proj.fst _ _))
  exact h
theorem z5u : Proj T_Branch 2 rS (fun x => x.To) := by
  have h := (Proj.iso (rP rS (rP rS (rP rS (rP (rI .i64) (rP (rI .i64) (rP (rI .i64) (rP (rI .i64) (rP (rI .i64) (rI .i64))))))))) (fun s : Branch => (s.Name, s.From, s.To, s.X, s.Tap, s.Shift, s.Limit, s.Short, s.Hold))).comp ((Proj.snd _ _).comp ((Proj.snd _ _).comp (Proj.fst _ _)))
  exact h
theorem z8j : Proj T_Branch 3 (rI .i64) (fun x => x.X) := by
  have h := (Proj.iso (rP rS (rP rS (rP rS (rP (rI .i64) (rP (rI .i64) (rP (rI .i64) (rP (rI .i64) (rP (rI .i64) (rI .i64))))))))) (fun s : Branch => (s.Name, s.From, s.To, s.X, s.Tap, s.Shift, s.Limit, s.Short, s.Hold))).comp ((Proj.snd _ _).comp ((Proj.snd _ _).comp ((Proj.snd _ _).comp (Proj.fst _ _))))
  exact h
theorem z6r : Proj T_Branch 4 (rI .i64) (fun x => x.Tap) := by
  have h := (Proj.iso (rP rS (rP rS (rP rS (rP (rI .i64) (rP (rI .i64) (rP (rI .i64) (rP (rI .i64) (rP (rI .i64) (rI .i64))))))))) (fun s : Branch => (s.Name, s.From, s.To, s.X, s.Tap, s.Shift, s.Limit, s.Short, s.Hold))).comp ((Proj.snd _ _).comp ((Proj.snd _ _).comp ((Proj.snd _ _).comp ((Proj.snd _ _).comp (Proj.fst _ _)))))
  exact h
theorem z5h : Proj T_Branch 5 (rI .i64) (fun x => x.Shift) := by
  have h := (Proj.iso (rP rS (rP rS (rP rS (rP (rI .i64) (rP (rI .i64) (rP (rI .i64) (rP (rI .i64) (rP (rI .i64) (rI .i64))))))))) (fun s : Branch => (s.Name, s.From, s.To, s.X, s.Tap, s.Shift, s.Limit, s.Short, s.Hold))).comp ((Proj.snd _ _).comp ((Proj.snd _ _).comp ((Proj.snd _ _).comp ((Proj.snd _ _).comp ((Proj.snd _ _).comp (Proj.fst _ _))))))
  exact h
theorem z3j : Proj T_Branch 6 (rI .i64) (fun x => x.Limit) := by
  have h := (Proj.iso (rP rS (rP rS (rP rS (rP (rI .i64) (rP (rI .i64) (rP (rI .i64) (rP (rI .i64) (rP (rI .i64) (rI .i64))))))))) (fun s : Branch => (s.Name, s.From, s.To, s.X, s.Tap, s.Shift, s.Limit, s.Short, s.Hold))).comp ((Proj.snd _ _).comp ((Proj.snd _ _).comp ((Proj.snd _ _).comp ((Proj.snd _ _).comp ((Proj.snd _ _).comp ((Proj.snd _ _).comp (Proj.fst _ _)))))))
  exact h
theorem z5i : Proj T_Branch 7 (rI .i64) (fun x => x.Short) := by
  have h := (Proj.iso (rP rS (rP rS (rP rS (rP (rI .i64) (rP (rI .i64) (rP (rI .i64) (rP (rI .i64) (rP (rI .i64) (rI .i64))))))))) (fun s : Branch => (s.Name, s.From, s.To, s.X, s.Tap, s.Shift, s.Limit, s.Short, s.Hold))).comp ((Proj.snd _ _).comp ((Proj.snd _ _).comp ((Proj.snd _ _).comp ((Proj.snd _ _).comp ((Proj.snd _ _).comp ((Proj.snd _ _).comp ((Proj.snd _ _).comp (Proj.fst _ _))))))))
  exact h
theorem z62 : Proj T_Branch 8 (rI .i64) (fun x => x.Hold) := by
  have h := (Proj.iso (rP rS (rP rS (rP rS (rP (rI .i64) (rP (rI .i64) (rP (rI .i64) (rP (rI .i64) (rP (rI .i64) (rI .i64))))))))) (fun s : Branch => (s.Name, s.From, s.To, s.X, s.Tap, s.Shift, s.Limit, s.Short, s.Hold))).comp ((Proj.snd _ _).comp ((Proj.snd _ _).comp ((Proj.snd _ _).comp ((Proj.snd _ _).comp ((Proj.snd _ _).comp ((Proj.snd _ _).comp ((Proj.snd _ _).comp ((Proj.snd _ _).comp (Proj.self _)))))))))
  exact h
structure Gen where
  Name : zAd
  Node : zAd
  Least : Int
  Most : Int
  Ramp : Int
  deriving DecidableEq, Inhabited
def T_Gen : RT Gen := rIso (rP rS (rP rS (rP (rI .i64) (rP (rI .i64) (rI .i64))))) (fun s : Gen => (s.Name, s.Node, s.Least, s.Most, s.Ramp))
theorem zft (G : GM) : T_Gen.rep G ([.string ByteArray.empty] ++ ([.string ByteArray.empty] ++ ([.int .i64 0] ++ ([.int .i64 0] ++ [.int .i64 0])))) ((Gen.mk ByteArray.empty ByteArray.empty 0 0 0)) := ⟨_, _, rfl, zS G, ⟨_, _, rfl, zS G, ⟨_, _, rfl, (zI .i64) G, ⟨_, _, rfl, (zI .i64) G, ((zI .i64) G)⟩⟩⟩⟩
theorem z8k : Proj T_Gen 0 rS (fun x => x.Name) := by
  have h := (Proj.iso (rP rS (rP rS (rP (rI .i64) (rP (rI .i64) (rI .i64))))) (fun s : Gen => (s.Name, s.Node, s.Least, s.Most, s.Ramp))).comp (Proj.fst _ _)
  exact h
theorem z5j : Proj T_Gen 1 rS (fun x => x.Node) := by
  have h := (Proj.iso (rP rS (rP rS (rP (rI .i64) (rP (rI .i64) (rI .i64))))) (fun s : Gen => (s.Name, s.Node, s.Least, s.Most, s.Ramp))).comp ((Proj.snd _ _).comp (Proj.fst _ _))
  exact h
theorem z3n : Proj T_Gen 2 (rI .i64) (fun x => x.Least) := by
  have h := (Proj.iso (rP rS (rP rS (rP (rI .i64) (rP (rI .i64) (rI .i64))))) (fun s : Gen => (s.Name, s.Node, s.Least, s.Most, s.Ramp))).comp ((Proj.snd _ _).comp ((Proj.snd _ _).comp (Proj.fst _ _)))
  exact h
theorem z5k : Proj T_Gen 3 (rI .i64) (fun x => x.Most) := by
  have h := (Proj.iso (rP rS (rP rS (rP (rI .i64) (rP (rI .i64) (rI .i64))))) (fun s : Gen => (s.Name, s.Node, s.Least, s.Most, s.Ramp))).comp ((Proj.snd _ _).comp ((Proj.snd _ _).comp ((Proj.snd _ _).comp (Proj.fst _ _))))
  exact h
theorem z8l : Proj T_Gen 4 (rI .i64) (fun x => x.Ramp) := by
  have h := (Proj.iso (rP rS (rP rS (rP (rI .i64) (rP (rI .i64) (rI .i64))))) (fun s : Gen => (s.Name, s.Node, s.Least, s.Most, s.Ramp))).comp ((Proj.snd _ _).comp ((Proj.snd _ _).comp ((Proj.snd _ _).comp ((Proj.snd _ _).comp (Proj.self _)))))
  exact h
structure Load_ where
  Name : zAd
  Node : zAd
  Demand : Int
  deriving DecidableEq, Inhabited
def T_Load_ : RT Load_ := rIso (rP rS (rP rS (rI .i64))) (fun s : Load_ => (s.Name, s.Node, s.Demand))
theorem z9u (G : GM) : T_Load_.rep G ([.string ByteArray.empty] ++ ([.string ByteArray.empty] ++ [.int .i64 0])) ((Load_.mk ByteArray.empty ByteArray.empty 0)) := ⟨_, _, rfl, zS G, ⟨_, _, rfl, zS G, ((zI .i64) G)⟩⟩
theorem z6s : Proj T_Load_ 0 rS (fun x => x.Name) := by
  have h := (Proj.iso (rP rS (rP rS (rI .i64))) (fun s : Load_ => (s.Name, s.Node, s.Demand))).comp (Proj.fst _ _)
  exact h
theorem z47 : Proj T_Load_ 1 rS (fun x => x.Node) := by
  have h := (Proj.iso (rP rS (rP rS (rI .i64))) (fun s : Load_ => (s.Name, s.Node, s.Demand))).comp ((Proj.snd _ _).comp (Proj.fst _ _))
  exact h
theorem z3k : Proj T_Load_ 2 (rI .i64) (fun x => x.Demand) := by
  have h := (Proj.iso (rP rS (rP rS (rI .i64))) (fun s : Load_ => (s.Name, s.Node, s.Demand))).comp ((Proj.snd _ _).comp ((Proj.snd _ _).comp (Proj.self _)))
  exact h
structure Store where
  Name : zAd
  Node : zAd
  Charge : Int
  Discharge : Int
  Capacity : Int
  deriving DecidableEq, Inhabited
def T_Store : RT Store := rIso (rP rS (rP rS (rP (rI .i64) (rP (rI .i64) (rI .i64))))) (fun s : Store => (s.Name, s.Node, s.Charge, s.Discharge, s.Capacity))
theorem z8m (G : GM) : T_Store.rep G ([.string ByteArray.empty] ++ ([.string ByteArray.empty] ++ ([.int .i64 0] ++ ([.int .i64 0] ++ [.int .i64 0])))) ((Store.mk ByteArray.empty ByteArray.empty 0 0 0)) := ⟨_, _, rfl, zS G, ⟨_, _, rfl, zS G, ⟨_, _, rfl, (zI .i64) G, ⟨_, _, rfl, (zI .i64) G, ((zI .i64) G)⟩⟩⟩⟩
theorem z6t : Proj T_Store 0 rS (fun x => x.Name) := by
  have h := (Proj.iso (rP rS (rP rS (rP (rI .i64) (rP (rI .i64) (rI .i64))))) (fun s : Store => (s.Name, s.Node, s.Charge, s.Discharge, s.Capacity))).comp (Proj.fst _ _)
  exact h
theorem z48 : Proj T_Store 1 rS (fun x => x.Node) := by
  have h := (Proj.iso (rP rS (rP rS (rP (rI .i64) (rP (rI .i64) (rI .i64))))) (fun s : Store => (s.Name, s.Node, s.Charge, s.Discharge, s.Capacity))).comp ((Proj.snd _ _).comp (Proj.fst _ _))
  exact h
theorem z3l : Proj T_Store 2 (rI .i64) (fun x => x.Charge) := by
  have h := (Proj.iso (rP rS (rP rS (rP (rI .i64) (rP (rI .i64) (rI .i64))))) (fun s : Store => (s.Name, s.Node, s.Charge, s.Discharge, s.Capacity))).comp ((Proj.snd _ _).comp ((Proj.snd _ _).comp (Proj.fst _ _)))
  exact h
theorem z2m : Proj T_Store 3 (rI .i64) (fun x => x.Discharge) := by
  have h := (Proj.iso (rP rS (rP rS (rP (rI .i64) (rP (rI .i64) (rI .i64))))) (fun s : Store => (s.Name, s.Node, s.Charge, s.Discharge, s.Capacity))).comp ((Proj.snd _ _).comp ((Proj.snd _ _).comp ((Proj.snd _ _).comp (Proj.fst _ _))))
  exact h
theorem z4m : Proj T_Store 4 (rI .i64) (fun x => x.Capacity) := by
  have h := (Proj.iso (rP rS (rP rS (rP (rI .i64) (rP (rI .i64) (rI .i64))))) (fun s : Store => (s.Name, s.Node, s.Charge, s.Discharge, s.Capacity))).comp ((Proj.snd _ _).comp ((Proj.snd _ _).comp ((Proj.snd _ _).comp ((Proj.snd _ _).comp (Proj.self _)))))
  exact h
structure Network where
  Nodes : List zAd
  Switches : List Switch
  Branches : List Branch
  Gens : List Gen
  Loads : List Load_
  Stores : List Store
  deriving DecidableEq, Inhabited
def T_Network : RT Network := rIso (rP (rSl rS) (rP (rSl T_Switch) (rP (rSl T_Branch) (rP (rSl T_Gen) (rP (rSl T_Load_) (rSl T_Store)))))) (fun s : Network => (s.Nodes, s.Switches, s.Branches, s.Gens, s.Loads, s.Stores))
theorem z1h : Proj T_Network 0 (rSl rS) (fun x => x.Nodes) := by
  have h := (Proj.iso (rP (rSl rS) (rP (rSl T_Switch) (rP (rSl T_Branch) (rP (rSl T_Gen) (rP (rSl T_Load_) (rSl T_Store)))))) (fun s : Network => (s.Nodes, s.Switches, s.Branches, s.Gens, s.Loads, s.Stores))).comp (Proj.fst _ _)
  exact h
theorem z2d : Proj T_Network 1 (rSl T_Switch) (fun x => x.Switches) := by
  have h := (Proj.iso (rP (rSl rS) (rP (rSl T_Switch) (rP (rSl T_Branch) (rP (rSl T_Gen) (rP (rSl T_Load_) (rSl T_Store)))))) (fun s : Network => (s.Nodes, s.Switches, s.Branches, s.Gens, s.Loads, s.Stores))).comp ((Proj.snd _ _).comp (Proj.fst _ _))
  exact h
theorem z2e : Proj T_Network 2 (rSl T_Branch) (fun x => x.Branches) := by
  have h := (Proj.iso (rP (rSl rS) (rP (rSl T_Switch) (rP (rSl T_Branch) (rP (rSl T_Gen) (rP (rSl T_Load_) (rSl T_Store)))))) (fun s : Network => (s.Nodes, s.Switches, s.Branches, s.Gens, s.Loads, s.Stores))).comp ((Proj.snd _ _).comp ((Proj.snd _ _).comp (Proj.fst _ _)))
  exact h
theorem z1l : Proj T_Network 3 (rSl T_Gen) (fun x => x.Gens) := by
  have h := (Proj.iso (rP (rSl rS) (rP (rSl T_Switch) (rP (rSl T_Branch) (rP (rSl T_Gen) (rP (rSl T_Load_) (rSl T_Store)))))) (fun s : Network => (s.Nodes, s.Switches, s.Branches, s.Gens, s.Loads, s.Stores))).comp ((Proj.snd _ _).comp ((Proj.snd _ _).comp ((Proj.snd _ _).comp (Proj.fst _ _))))
  exact h
theorem z25 : Proj T_Network 4 (rSl T_Load_) (fun x => x.Loads) := by
  have h := (Proj.iso (rP (rSl rS) (rP (rSl T_Switch) (rP (rSl T_Branch) (rP (rSl T_Gen) (rP (rSl T_Load_) (rSl T_Store)))))) (fun s : Network => (s.Nodes, s.Switches, s.Branches, s.Gens, s.Loads, s.Stores))).comp ((Proj.snd _ _).comp ((Proj.snd _ _).comp ((Proj.snd _ _).comp ((Proj.snd _ _).comp (Proj.fst _ _)))))
  exact h
theorem z19 : Proj T_Network 5 (rSl T_Store) (fun x => x.Stores) := by
  have h := (Proj.iso (rP (rSl rS) (rP (rSl T_Switch) (rP (rSl T_Branch) (rP (rSl T_Gen) (rP (rSl T_Load_) (rSl T_Store)))))) (fun s : Network => (s.Nodes, s.Switches, s.Branches, s.Gens, s.Loads, s.Stores))).comp ((Proj.snd _ _).comp ((Proj.snd _ _).comp ((Proj.snd _ _).comp ((Proj.snd _ _).comp ((Proj.snd _ _).comp (Proj.self _))))))
  exact h
def z28 (K : Nat) (p0 : Network) : Option Int := (Option.bind ((if (decide ((List.length p0.Nodes : Int) > 24)) = true then some true else (if (decide ((List.length p0.Switches : Int) > 32)) = true then some true else some (decide ((List.length p0.Branches : Int) > 24))))) (tu1 fun x26 => (if x26 = true then some 2 else (Option.bind ((if (decide ((List.length p0.Gens : Int) > 10)) = true then some true else (if (decide ((List.length p0.Loads : Int) > 12)) = true then some true else some (decide ((List.length p0.Stores : Int) > 4))))) (tu1 fun x60 => (if x60 = true then some 2 else some 0))))))
theorem z5l (v0 : List Value) (p0 : Network) (hp0 : T_Network.rep G v0 p0) (O : Ow G H (L)) (r : Int) (h : z28 K p0 = some r) :
    CR Tryz.prog 36 [.agg (List.toArray v0)] G H (L) (fun v G' _ => v = .int .i64 r) := by
 unfold z28 at h
 refine CR.og (n := 35) (fn := Tryz.f36) (by kernel_rfl) rfl rfl fun R kr => (.seq (.region (W.lo rfl rfl (Lo.box (r := T_Network) (x0 := p0) (v := (.agg (List.toArray v0))) rfl rfl hp0 O) ?_)))
 rintro v4 H5 ⟨b2, rfl, O1, sm3⟩
 refine W.q1 (.int .i64 0) rfl (.nil (.seq (.seq ?_)))
 obtain ⟨q6, h7, h8⟩ := z03 h
 refine AW.midT (fun σ' H' => ∃ (y1 : Bool) (G' : GM), y1 = q6 /\ Ow G' H' (eVar b2 29 T_Network p0 :: L) /\ GM.le G G' /\ σ' 18 = .bool y1) ?_ ?_
 .refine .region (W.pure (v := (padd (.pointer (some ⟨b2, 0, none⟩)) 0)) rfl rfl (z04 z7w (oo rfl rfl) (O1.atVar (j := 0) rfl)) ?_)
  obtain ⟨w9, p10, f11⟩ := At.sl (At.proj (O1.atVar (j := 0) rfl) z1h)
  refine W.load1 (v := w9) (r := []) rfl rfl ag22 (z0g rfl p10) (W.pure (v := (.int .i64 (List.length p0.Nodes : Int))) rfl rfl (z1g (oo rfl rfl) (z0f f11) (z02 el22)) (W.q3 (.bool (decide ((List.length p0.Nodes : Int) > 24))) rfl rfl (W.q2 (.bool (decide ((List.length p0.Nodes : Int) > 24))) rfl (W.splitAt (t := 7) (b := decide ((List.length p0.Nodes : Int) > 24)) rfl (fun g12 gv13 => ?_) (fun g12 gv13 => ?_)))))
  .have h14 := z01 g12 h7
   refine W.q6 rfl gv13 (W.q6 rfl gv13 (W.q6 rfl gv13 (W.q6 rfl gv13 (W.q4 (.bool true) gv13 rfl (W.q2 (.bool true) rfl (W.q6 rfl rfl ?_))))))
   refine W.q6 rfl rfl (W.q6 rfl rfl (W.q6 rfl rfl (W.q4 (.bool true) rfl rfl (.nil ?_))))
   obtain rfl := zAa h14
   exact ⟨true, _, rfl, O1, (zAf _), rfl⟩
  have h15 := z11 g12 h7
  refine W.pure (v := (padd (.pointer (some ⟨b2, 0, none⟩)) 1)) (gk rfl rfl gv13 rfl) rfl (z04 zcw (oo rfl rfl) (O1.atVar (j := 0) rfl)) ?_
  obtain ⟨w16, p17, f18⟩ := At.sl (At.proj (O1.atVar (j := 0) rfl) z2d)
  refine W.load1 (v := w16) (r := []) (gk rfl rfl gv13 rfl) rfl ag23 (z0g rfl p17) (W.pure (v := (.int .i64 (List.length p0.Switches : Int))) (gk rfl rfl gv13 rfl) rfl (z1g (oo rfl rfl) (z0f f18) (z02 el23)) (W.q3 (hg := gk rfl rfl gv13 rfl) (.bool (decide ((List.length p0.Switches : Int) > 32))) rfl rfl (W.q5 (.bool (decide ((List.length p0.Switches : Int) > 32))) gv13 rfl (W.q2 (.bool (decide ((List.length p0.Switches : Int) > 32))) rfl (W.splitAt (t := 13) (b := decide ((List.length p0.Switches : Int) > 32)) rfl (fun g19 gv20 => ?_) (fun g19 gv20 => ?_))))))
  .have h21 := z01 g19 h15
   refine W.q6 rfl gv20 (W.q6 rfl gv20 (W.q6 rfl gv20 (W.q6 rfl gv20 (W.q4 (.bool true) gv20 rfl (.nil ?_)))))
   obtain rfl := zAa h21
   exact ⟨true, _, rfl, O1, (zAf _), rfl⟩
  have h22 := z11 g19 h15
  refine W.pure (v := (padd (.pointer (some ⟨b2, 0, none⟩)) 2)) (gk rfl rfl gv20 rfl) rfl (z04 zcx (oo rfl rfl) (O1.atVar (j := 0) rfl)) ?_
  obtain ⟨w23, p24, f25⟩ := At.sl (At.proj (O1.atVar (j := 0) rfl) z2e)
  refine W.load1 (v := w23) (r := []) (gk rfl rfl gv20 rfl) rfl ag24 (z0g rfl p24) (W.pure (v := (.int .i64 (List.length p0.Branches : Int))) (gk rfl rfl gv20 rfl) rfl (z1g (oo rfl rfl) (z0f f25) (z02 el24)) (W.q3 (hg := gk rfl rfl gv20 rfl) (.bool (decide ((List.length p0.Branches : Int) > 24))) rfl rfl (W.q5 (.bool (decide ((List.length p0.Branches : Int) > 24))) gv20 rfl (.nil ?_))))
  obtain rfl := zAa h22
  exact ⟨decide ((List.length p0.Branches : Int) > 24), _, rfl, O1, (zAf _), rfl⟩
 rintro σ27 H28 fr29 ⟨x26, G30, rfl, O31, s32, t34⟩
 have h35 := z08 h8
 refine .cond (b := x26) rfl t34 (fun g36 => ?_) (fun g36 => ?_)
 .have h37 := z01 g36 h35
  refine .seq (.region (W.q1 (.int .i64 2) rfl (.nil (.ret ?_))))
  have O38 : Ow G30 H28 (L) := O31.drop 0
  obtain rfl := zAa h37
  exact z3t kr (v1 := (.int .i64 2)) (by rfl) (z0w (by rfl) (by exact rfl)) O38 s32 rfl
 have h39 := z11 g36 h35
 refine .skip (.seq (.seq ?_))
 obtain ⟨q40, h41, h42⟩ := z03 h39
 refine AW.midT (fun σ' H' => ∃ (y1 : Bool) (G' : GM), y1 = q40 /\ Ow G' H' (eVar b2 29 T_Network p0 :: L) /\ GM.le G30 G' /\ σ' 34 = .bool y1) ?_ ?_
 rotate_left
 .rintro σ61 H62 fr63 ⟨x60, G64, rfl, O65, s66, t68⟩
  have h69 := z08 h42
  refine .cond (b := x60) rfl t68 (fun g70 => ?_) (fun g70 => ?_)
  .have h71 := z01 g70 h69
   refine .seq (.region (W.q1 (.int .i64 2) rfl (.nil (.ret ?_))))
   have O72 : Ow G64 H62 (L) := O65.drop 0
   obtain rfl := zAa h71
   exact z3t kr (v1 := (.int .i64 2)) (by rfl) (z0w (by rfl) (by exact rfl)) O72 (zAe s32 s66) rfl
  have h73 := z11 g70 h69
  refine .skip (.seq (.region (W.q1 (.int .i64 0) rfl (.nil (.ret ?_)))))
  have O74 : Ow G64 H62 (L) := O65.drop 0
  obtain rfl := zAa h73
  exact z3t kr (v1 := (.int .i64 0)) (by rfl) (z0w (by rfl) (by exact rfl)) O74 (zAe s32 s66) rfl
 refine .region (W.pure (v := (padd (.pointer (some ⟨b2, 0, none⟩)) 3)) rfl rfl (z04 z7x (oo rfl ((fr29 1 rfl).trans rfl)) (O31.atVar (j := 0) rfl)) ?_)
 obtain ⟨w43, p44, f45⟩ := At.sl (At.proj (O31.atVar (j := 0) rfl) z1l)
 refine W.load1 (v := w43) (r := []) rfl rfl ag25 (z0g rfl p44) (W.pure (v := (.int .i64 (List.length p0.Gens : Int))) rfl rfl (z1g (oo rfl rfl) (z0f f45) (z02 el25)) (W.q3 (.bool (decide ((List.length p0.Gens : Int) > 10))) rfl rfl (W.q2 (.bool (decide ((List.length p0.Gens : Int) > 10))) rfl (W.splitAt (t := 23) (b := decide ((List.length p0.Gens : Int) > 10)) rfl (fun g46 gv47 => ?_) (fun g46 gv47 => ?_)))))
 .have h48 := z01 g46 h41
  refine W.q6 rfl gv47 (W.q6 rfl gv47 (W.q6 rfl gv47 (W.q6 rfl gv47 (W.q4 (.bool true) gv47 rfl (W.q2 (.bool true) rfl (W.q6 rfl rfl ?_))))))
  refine W.q6 rfl rfl (W.q6 rfl rfl (W.q6 rfl rfl (W.q4 (.bool true) rfl rfl (.nil ?_))))
  obtain rfl := zAa h48
  exact ⟨true, _, rfl, O31, (zAf _), rfl⟩
 have h49 := z11 g46 h41
 refine W.pure (v := (padd (.pointer (some ⟨b2, 0, none⟩)) 4)) (gk rfl rfl gv47 rfl) rfl (z04 za6 (oo rfl ((fr29 1 rfl).trans rfl)) (O31.atVar (j := 0) rfl)) ?_
 obtain ⟨w50, p51, f52⟩ := At.sl (At.proj (O31.atVar (j := 0) rfl) z25)
 refine W.load1 (v := w50) (r := []) (gk rfl rfl gv47 rfl) rfl ag26 (z0g rfl p51) (W.pure (v := (.int .i64 (List.length p0.Loads : Int))) (gk rfl rfl gv47 rfl) rfl (z1g (oo rfl rfl) (z0f f52) (z02 el26)) (W.q3 (hg := gk rfl rfl gv47 rfl) (.bool (decide ((List.length p0.Loads : Int) > 12))) rfl rfl (W.q5 (.bool (decide ((List.length p0.Loads : Int) > 12))) gv47 rfl (W.q2 (.bool (decide ((List.length p0.Loads : Int) > 12))) rfl (W.splitAt (t := 29) (b := decide ((List.length p0.Loads : Int) > 12)) rfl (fun g53 gv54 => ?_) (fun g53 gv54 => ?_))))))
 .have h55 := z01 g53 h49
  refine W.q6 rfl gv54 (W.q6 rfl gv54 (W.q6 rfl gv54 (W.q6 rfl gv54 (W.q4 (.bool true) gv54 rfl (.nil ?_)))))
  obtain rfl := zAa h55
  exact ⟨true, _, rfl, O31, (zAf _), rfl⟩
 have h56 := z11 g53 h49
 refine W.pure (v := (padd (.pointer (some ⟨b2, 0, none⟩)) 5)) (gk rfl rfl gv54 rfl) rfl (z04 z7y (oo rfl ((fr29 1 rfl).trans rfl)) (O31.atVar (j := 0) rfl)) ?_
 obtain ⟨w57, p58, f59⟩ := At.sl (At.proj (O31.atVar (j := 0) rfl) z19)
 refine W.load1 (v := w57) (r := []) (gk rfl rfl gv54 rfl) rfl ag27 (z0g rfl p58) (W.pure (v := (.int .i64 (List.length p0.Stores : Int))) (gk rfl rfl gv54 rfl) rfl (z1g (oo rfl rfl) (z0f f59) (z02 el27)) (W.q3 (hg := gk rfl rfl gv54 rfl) (.bool (decide ((List.length p0.Stores : Int) > 4))) rfl rfl (W.q5 (.bool (decide ((List.length p0.Stores : Int) > 4))) gv54 rfl (.nil ?_))))
 obtain rfl := zAa h56
 exact ⟨decide ((List.length p0.Stores : Int) > 4), _, rfl, O31, (zAf _), rfl⟩
def z1e (K : Nat) (p0 : zAd) : Nat -> Int -> Option (Bool ⊕ Unit)
  | 0, _ => none
  | k + 1, x12 => (if (decide (x12 < (List.length (z1p p0) : Int))) = true then ((idx (z1p p0) x12).bind fun x23 => (Option.bind ((if (decide (x23 >= 65)) = true then some (decide (x23 <= 90)) else some false)) (tu1 fun x34 => (Option.bind ((if (!x34) = true then (if (x12 == 0) = true then some true else (if (decide (x23 < 48)) = true then some true else some (decide (x23 > 57)))) else some false)) (tu1 fun x59 => (if x59 = true then some (.inl false) else z1e K p0 k (z0n .i64 (x12 + 1)))))))) else some (.inr ()))
def z2j (K : Nat) (p0 : zAd) : Option Bool := (z42 (z1e K p0 K 0) (tu1 fun a99 => some a99) (tu0 (Option.bind ((if (!(sEq p0 (⟨#[]⟩ : zAd))) = true then some (decide ((p0.size : Int) <= 8)) else some false)) (tu1 fun x89 => some x89))))
theorem z5v (p0 : zAd) (O : Ow G H (L)) (r : Bool) (h : z2j K p0 = some r) :
    CR Tryz.prog 65 [(.string p0)] G H (L) (fun v G' _ => v = .bool r) := by
 unfold z2j at h
 refine CR.og (n := 42) (fn := Tryz.f65) (by kernel_rfl) rfl rfl fun R kr => (.seq (.region (W.q1 (.bool false) rfl (.nil (.seq (.seq ?_))))))
 refine .region (W.q2 (.string p0) rfl (W.lo rfl rfl (Lo.bytes rfl un9 zgf in5 rfl O) ?_))
 rintro v6 H7 ⟨G2, O1, s3, sm5, f4⟩
 refine W.pure (v := (.int .i64 (List.length (z1p p0) : Int))) rfl rfl (z1g (oo rfl rfl) (z0f f4) (z02 zgf)) (W.q2 (.int .i64 0) rfl (.nil ?_))
 obtain ⟨q8, h9, h10⟩ := z1o h
 refine AW.midT (fun σ' H' => ∃  (G' : GM), (.inr ()) = q8 /\ Ow G' H' (L) /\ GM.le G2 G') ?_ ?_
 rotate_left
 .rintro σ74 H75 fr76 ⟨G77, rfl, O78, s79⟩
  have h81 := z5z (z4d h10)
  refine .seq ?_
  obtain ⟨q82, h83, h84⟩ := z03 h81
  refine AW.midT (fun σ' H' => ∃ (y1 : Bool) (G' : GM), y1 = q82 /\ Ow G' H' (L) /\ GM.le G77 G' /\ σ' 2 = .bool y1) ?_ ?_
  rotate_left
  .rintro σ90 H91 fr92 ⟨x89, G93, rfl, O94, s95, t97⟩
   have h98 := z08 h84
   refine .ret ?_
   obtain rfl := zAa h98
   exact z3t kr (v1 := (.bool x89)) (by rfl) (z0w (by rfl) (by exact t97)) O94 (zAe s3 (zAe s79 s95)) rfl
  refine .region (W.q2 (.string p0) ((fr76 0 rfl).trans rfl) (W.pure (v := (.bool (!(sEq p0 (⟨#[]⟩ : zAd))))) rfl rfl (zga (oo rfl rfl) (oo rfl rfl)) (W.q2 (.bool (!(sEq p0 (⟨#[]⟩ : zAd)))) rfl (W.splitAt (t := 37) (b := (!(sEq p0 (⟨#[]⟩ : zAd)))) rfl (fun g85 gv86 => ?_) (fun g85 gv86 => ?_)))))
  rotate_left
  .have h88 := z11 g85 h83
   refine W.q6 rfl gv86 (W.q6 rfl gv86 (W.q6 rfl gv86 (W.q5 (.bool false) gv86 rfl (W.q1 (.bool false) rfl (.nil ?_)))))
   obtain rfl := zAa h88
   exact ⟨false, _, rfl, O78, (zAf _), rfl⟩
  have h87 := z01 g85 h83
  refine W.q2 (hg := gk rfl rfl gv86 rfl) (.string p0) ((fr76 0 rfl).trans rfl) (W.pure (v := (.int .i64 (p0.size : Int))) (gk rfl rfl gv86 rfl) rfl (z9l (oo rfl rfl) un9) (W.q3 (hg := gk rfl rfl gv86 rfl) (.bool (decide ((p0.size : Int) <= 8))) rfl rfl (W.q4 (.bool (decide ((p0.size : Int) <= 8))) gv86 rfl (W.q1 (.bool (decide ((p0.size : Int) <= 8))) rfl (.nil ?_)))))
  obtain rfl := zAa h87
  exact ⟨decide ((p0.size : Int) <= 8), _, rfl, O78, (zAf _), rfl⟩
 refine .block (AW.loop (α := Nat) (fun k' σ' H' => ∃ (y1 : Int) (G' : GM), z1e K p0 k' y1 = some q8 /\ Ow G' H' (L) /\ GM.le G2 G' /\ σ' 9 = .int .i64 y1) (fun k' => k') K ⟨0, _, h9, O1, (zAf _), rfl⟩ ?_)
 rintro k11
 rintro σ13 H14 fr15 ⟨x12, G16, h19, O17, s18, t20⟩
 rcases k11 with _ | k11
 .exact z06 h19
 rw [z1e] at h19
 refine .seq (.region (W.q3 (.bool (decide (x12 < (List.length (z1p p0) : Int)))) t20 ((fr15 8 rfl).trans rfl) (.nil (.seq (.cond (b := decide (x12 < (List.length (z1p p0) : Int))) rfl rfl (fun g21 => ?_) (fun g21 => ?_))))))
 rotate_left
 .have h73 := z11 g21 h19
  refine .exit ?_
  obtain rfl := zAa h73
  exact ⟨_, rfl, O17, s18⟩
 have h22 := z01 g21 h19
 refine .skip (.seq (.block (.seq (.region (W.q2 _ t20 ?_)))))
 obtain ⟨x23, i24, h25⟩ := z03 h22
 have j26 := z0v i24
 refine W.pure (v := (z2z v6 (Int.toNat x12 * 1))) rfl rfl (z3i zgf sz5 (oo rfl ((fr15 7 rfl).trans rfl)) (oo rfl t20) (z0f (RT.mono _ s18 f4)) j26.1 j26.2.1) (W.load1 (v := (.int .u8 x23)) (r := []) rfl rfl ag5 (z0g rfl (At.int (At.le (At.le (z1q f4 j26.2.2) s18 s18) (zAf _) O17.fro))) (W.q1 (.int .i64 x12) rfl (W.q1 (.int .u8 x23) rfl (.nil (.seq ?_)))))
 obtain ⟨q27, h28, h29⟩ := z03 h25
 refine AW.midT (fun σ' H' => ∃ (y1 : Bool) (G' : GM), y1 = q27 /\ Ow G' H' (L) /\ GM.le G16 G' /\ σ' 5 = .bool y1) ?_ ?_
 .refine .region (W.q2 (.int .u8 x23) rfl (W.q3 (.bool (decide (x23 >= 65))) rfl rfl (W.q2 (.bool (decide (x23 >= 65))) rfl (W.splitAt (t := 16) (b := decide (x23 >= 65)) rfl (fun g30 gv31 => ?_) (fun g30 gv31 => ?_)))))
  rotate_left
  .have h33 := z11 g30 h28
   refine W.q6 rfl gv31 (W.q6 rfl gv31 (W.q5 (.bool false) gv31 rfl (W.q1 (.bool false) rfl (.nil ?_))))
   obtain rfl := zAa h33
   exact ⟨false, _, rfl, O17, (zAf _), rfl⟩
  have h32 := z01 g30 h28
  refine W.q2 (hg := gk rfl rfl gv31 rfl) (.int .u8 x23) rfl (W.q3 (hg := gk rfl rfl gv31 rfl) (.bool (decide (x23 <= 90))) rfl rfl (W.q4 (.bool (decide (x23 <= 90))) gv31 rfl (W.q1 (.bool (decide (x23 <= 90))) rfl (.nil ?_))))
  obtain rfl := zAa h32
  exact ⟨decide (x23 <= 90), _, rfl, O17, (zAf _), rfl⟩
 rintro σ35 H36 fr37 ⟨x34, G38, rfl, O39, s40, t42⟩
 have h43 := z08 h29
 refine .seq ?_
 obtain ⟨q44, h45, h46⟩ := z03 h43
 refine AW.midT (fun σ' H' => ∃ (y1 : Bool) (G' : GM), y1 = q44 /\ Ow G' H' (L) /\ GM.le G38 G' /\ σ' 33 = .bool y1) ?_ ?_
 rotate_left
 .rintro σ60 H61 fr62 ⟨x59, G63, rfl, O64, s65, t67⟩
  have h68 := z08 h46
  refine .cond (b := x59) rfl t67 (fun g69 => ?_) (fun g69 => ?_)
  .have h70 := z01 g69 h68
   refine .seq (.region (W.q1 (.bool false) rfl (.nil (.ret ?_))))
   obtain rfl := zAa h70
   have h71 := z08 (z36 h10)
   obtain rfl := zAa h71
   exact z3t kr (v1 := (.bool false)) (by rfl) (z0w (by rfl) (by exact rfl)) O64 (zAe s3 (zAe s18 (zAe s40 s65))) rfl
  have h72 := z11 g69 h68
  refine .skip (.region (W.q3 (.int .i64 (z0n .i64 (x12 + 1))) ((fr62 9 rfl).trans ((fr37 9 rfl).trans t20)) rfl (W.q2 (.int .i64 (z0n .i64 (x12 + 1))) rfl (.nil ?_))))
  exact ⟨k11, zAg _, ⟨z0n .i64 (x12 + 1), _, h72, O64, (zAe s18 (zAe s40 s65)), rfl⟩⟩
 refine .region (W.q2 _ t42 (W.pure (v := (.bool (!x34))) rfl rfl (z13 (a := x34) (oo rfl rfl)) (W.q2 (.bool (!x34)) rfl (W.splitAt (t := 22) (b := (!x34)) rfl (fun g47 gv48 => ?_) (fun g47 gv48 => ?_)))))
 rotate_left
 .have h58 := z11 g47 h45
  refine W.q6 rfl gv48 (W.q6 rfl gv48 (W.q6 rfl gv48 (W.skipU rfl rfl rfl rfl (W.skipU rfl rfl rfl rfl (W.q6 rfl gv48 (W.q6 rfl gv48 ?_))))))
  refine W.skipU rfl rfl rfl rfl (W.skipU rfl rfl rfl rfl (W.q6 rfl gv48 (W.q5 (.bool false) gv48 rfl (.nil ?_))))
  obtain rfl := zAa h58
  exact ⟨false, _, rfl, O39, (zAf _), rfl⟩
 have h49 := z01 g47 h45
 refine W.q2 (hg := gk rfl rfl gv48 rfl) (.int .i64 x12) ((fr37 3 rfl).trans rfl) (W.q3 (hg := gk rfl rfl gv48 rfl) (.bool (x12 == 0)) rfl rfl (W.q2 (hg := gk rfl rfl gv48 rfl) (.bool (x12 == 0)) rfl (W.splitAt (t := 25) (b := (x12 == 0)) rfl (fun g50 gv51 => ?_) (fun g50 gv51 => ?_))))
 .have h52 := z01 g50 h49
  refine W.q6 rfl gv51 (W.q6 rfl gv51 (W.q4 (hg := gk rfl rfl gv48 rfl) (.bool true) gv51 rfl (W.q2 (hg := gk rfl rfl gv48 rfl) (.bool true) rfl (W.q6 rfl rfl (W.q6 rfl rfl (W.q4 (hg := gk rfl rfl gv48 rfl) (.bool true) rfl rfl ?_))))))
  refine W.q4 (.bool true) gv48 rfl (.nil ?_)
  obtain rfl := zAa h52
  exact ⟨true, _, rfl, O39, (zAf _), rfl⟩
 have h53 := z11 g50 h49
 refine W.q2 (hg := gk rfl rfl gv51 rfl) (.int .u8 x23) ((fr37 4 rfl).trans rfl) (W.q3 (hg := gk rfl rfl gv51 rfl) (.bool (decide (x23 < 48))) rfl rfl (W.q5 (hg := gk rfl rfl gv48 rfl) (.bool (decide (x23 < 48))) gv51 rfl (W.q2 (hg := gk rfl rfl gv48 rfl) (.bool (decide (x23 < 48))) rfl (W.splitAt (t := 29) (b := decide (x23 < 48)) rfl (fun g54 gv55 => ?_) (fun g54 gv55 => ?_)))))
 .have h56 := z01 g54 h53
  refine W.q6 rfl gv55 (W.q6 rfl gv55 (W.q4 (hg := gk rfl rfl gv48 rfl) (.bool true) gv55 rfl (W.q4 (.bool true) gv48 rfl (.nil ?_))))
  obtain rfl := zAa h56
  exact ⟨true, _, rfl, O39, (zAf _), rfl⟩
 have h57 := z11 g54 h53
 refine W.q2 (hg := gk rfl rfl gv55 rfl) (.int .u8 x23) ((fr37 4 rfl).trans rfl) (W.q3 (hg := gk rfl rfl gv55 rfl) (.bool (decide (x23 > 57))) rfl rfl (W.q5 (hg := gk rfl rfl gv48 rfl) (.bool (decide (x23 > 57))) gv55 rfl (W.q4 (.bool (decide (x23 > 57))) gv48 rfl (.nil ?_))))
 obtain rfl := zAa h57
 exact ⟨decide (x23 > 57), _, rfl, O39, (zAf _), rfl⟩
def z09 (K : Nat) (p0 : List zAd) (p1 : zAd) : Nat -> Int -> Option (Int ⊕ Unit)
  | 0, _ => none
  | k + 1, x5 => (if (decide (x5 < (List.length p0 : Int))) = true then ((idx p0 x5).bind fun x16 => (if (sEq p1 x16) = true then some (.inl x5) else z09 K p0 p1 k (z0n .i64 (x5 + 1)))) else some (.inr ()))
def z1a (K : Nat) (p0 : List zAd) (p1 : zAd) : Option Int := (z42 (z09 K p0 p1 K 0) (tu1 fun a33 => some a33) (tu0 (some (-1))))
theorem z3c (v0 : Value) (p0 : List zAd) (hp0 : (rSl rS).rep G [v0] p0) (p1 : zAd) (O : Ow G H (L)) (r : Int) (h : z1a K p0 p1 = some r) :
    CR Tryz.prog 69 [v0, (.string p1)] G H (L) (fun v G' _ => v = .int .i64 r) := by
 unfold z1a at h
 refine CR.og (n := 19) (fn := Tryz.f69) (by kernel_rfl) rfl rfl fun R kr => (.seq (.region (W.q1 (.int .i64 0) rfl (.nil (.seq (.seq ?_))))))
 refine .region (W.q2 v0 rfl (W.pure (v := (.int .i64 (List.length p0 : Int))) rfl rfl (z1g (oo rfl rfl) (z0f hp0) (z02 el22)) (W.q2 (.int .i64 0) rfl (.nil ?_))))
 obtain ⟨q1, h2, h3⟩ := z1o h
 refine AW.midT (fun σ' H' => ∃  (G' : GM), (.inr ()) = q1 /\ Ow G' H' (L) /\ GM.le G G') ?_ ?_
 rotate_left
 .rintro σ25 H26 fr27 ⟨G28, rfl, O29, s30⟩
  have h32 := z5z (z4d h3)
  refine .seq (.region (W.q1 (.int .i64 (-1)) rfl (.nil (.ret ?_))))
  obtain rfl := zAa h32
  exact z3t kr (v1 := (.int .i64 (-1))) (by rfl) (z0w (by rfl) (by exact rfl)) O29 s30 rfl
 refine .block (AW.loop (α := Nat) (fun k' σ' H' => ∃ (y1 : Int) (G' : GM), z09 K p0 p1 k' y1 = some q1 /\ Ow G' H' (L) /\ GM.le G G' /\ σ' 8 = .int .i64 y1) (fun k' => k') K ⟨0, _, h2, O, (zAf _), rfl⟩ ?_)
 rintro k4
 rintro σ6 H7 fr8 ⟨x5, G9, h12, O10, s11, t13⟩
 rcases k4 with _ | k4
 .exact z06 h12
 rw [z09] at h12
 refine .seq (.region (W.q3 (.bool (decide (x5 < (List.length p0 : Int)))) t13 ((fr8 7 rfl).trans rfl) (.nil (.seq (.cond (b := decide (x5 < (List.length p0 : Int))) rfl rfl (fun g14 => ?_) (fun g14 => ?_))))))
 rotate_left
 .have h24 := z11 g14 h12
  refine .exit ?_
  obtain rfl := zAa h24
  exact ⟨_, rfl, O10, s11⟩
 have h15 := z01 g14 h12
 refine .skip (.seq (.block (.seq (.region (W.q2 _ t13 (W.q1 (.int .i64 x5) rfl ?_))))))
 refine .nil (.seq (.region (W.q2 (.string p1) ((fr8 1 rfl).trans rfl) (W.q2 v0 ((fr8 0 rfl).trans rfl) (W.q2 (.int .i64 x5) rfl ?_)))))
 obtain ⟨x16, i17, h18⟩ := z03 h15
 have j19 := z0v i17
 refine W.pure (v := (z2z v0 (Int.toNat x5 * 1))) rfl rfl (z3i el22 sz9 (oo rfl rfl) (oo rfl rfl) (z0f (RT.mono _ s11 hp0)) j19.1 j19.2.1) (W.load1 (v := (.string x16)) (r := []) rfl rfl ag9 (z0g rfl (At.str (At.le (At.le (z1q hp0 j19.2.2) s11 s11) (zAf _) O10.fro))) (W.pure (v := (.bool (sEq p1 x16))) rfl rfl (z7v (oo rfl rfl) (oo rfl rfl)) (.nil (.cond (b := sEq p1 x16) rfl rfl (fun g20 => ?_) (fun g20 => ?_)))))
 rotate_left
 .have h23 := z11 g20 h18
  refine .skip (.region (W.q3 (.int .i64 (z0n .i64 (x5 + 1))) t13 rfl (W.q2 (.int .i64 (z0n .i64 (x5 + 1))) rfl (.nil ?_))))
  exact ⟨k4, zAg _, ⟨z0n .i64 (x5 + 1), _, h23, O10, s11, rfl⟩⟩
 have h21 := z01 g20 h18
 refine .seq (.region (W.q2 (.int .i64 x5) rfl (W.q1 (.int .i64 x5) rfl (.nil (.ret ?_)))))
 obtain rfl := zAa h21
 have h22 := z08 (z36 h3)
 obtain rfl := zAa h22
 exact z3t kr (v1 := (.int .i64 x5)) (by rfl) (z0w (by rfl) (by exact rfl)) O10 s11 rfl
def z0h (K : Nat) (p0 : List zAd) (p1 : zAd) : Option Bool := ((z1a K p0 p1).bind fun x1 => some (decide (x1 >= 0)))
theorem z1r (v0 : Value) (p0 : List zAd) (hp0 : (rSl rS).rep G [v0] p0) (p1 : zAd) (O : Ow G H (L)) (r : Bool) (h : z0h K p0 p1 = some r) :
    CR Tryz.prog 66 [v0, (.string p1)] G H (L) (fun v G' _ => v = .bool r) := by
 unfold z0h at h
 refine CR.og (n := 9) (fn := Tryz.f66) (by kernel_rfl) rfl rfl fun R kr => (.seq (.region (W.q1 (.bool false) rfl (.nil (.seq (.region ?_))))))
 refine W.q2 v0 rfl (W.q2 (.string p1) rfl ?_)
 obtain ⟨x1, i2, h3⟩ := z03 h
 refine W.lo rfl rfl (Lo.cP rfl (fn := Tryz.f69) (by kernel_rfl) rfl (mc rfl (mc rfl mn)) O (fun L' O' => z3c K v0 p0 hp0 p1 O' _ i2)) ?_
 rintro v10 H11 ⟨G4, O5, s6, sm9, rfl⟩
 refine W.q3 (.bool (decide (x1 >= 0))) rfl rfl (W.q1 (.bool (decide (x1 >= 0))) rfl (.nil (.ret ?_)))
 obtain rfl := zAa h3
 exact z3t kr (v1 := (.bool (decide (x1 >= 0)))) (by rfl) (z0w (by rfl) (by exact rfl)) O5 s6 rfl
structure Netmodel_names where
  l : List zAd
  deriving DecidableEq, Inhabited
def z00 : RT (Netmodel_names × Value) := rIso rV (fun s : Netmodel_names × Value => (s.2))
theorem z31 : Proj z00 0 rV (fun x => x.2) := by
  have h := (Proj.iso rV (fun s : Netmodel_names × Value => (s.2))).comp (Proj.self _)
  exact h
theorem z4e : Put z00 0 rV (fun x y => (x.1, y)) := by
  have h := Put.comp (Proj.iso rV (fun s : Netmodel_names × Value => (s.2))) (Put.iso rV (fun s : Netmodel_names × Value => (s.2)) (fun x q => (x.1, q)) (fun _ _ => rfl)) (Put.self _)
  exact h
def z1f (K : Nat) (p0 : Netmodel_names) (p1 : zAd) : Option (Int × Netmodel_names) := ((z2j K p1).bind fun x1 => (if (!x1) = true then some (5, (Netmodel_names.mk p0.l)) else ((z0h K p0.l p1).bind fun x15 => (if x15 = true then some (7, (Netmodel_names.mk p0.l)) else (if List.length p0.l + List.length [p1] <= 16777216 then some (0, (Netmodel_names.mk (p0.l ++ [p1]))) else none)))))
theorem z32 (b0 : Nat) (v0 : Value) (p0 : Netmodel_names) (p1 : zAd) (O : Ow G H (eVar b0 97 z00 (p0, v0) :: eSl v0 9 rS p0.l :: L)) (r : Int × Netmodel_names) (h : z1f K p0 p1 = some r) :
    CRF Tryz.prog 37 [.pointer (some ⟨b0, 0, none⟩), (.string p1)] G H (fun wl => (eVar b0 97 z00 (r.2, wl) :: eSl wl 9 rS r.2.l :: L)) (fun wl v G' => v = .int .i64 r.1) := by
 unfold z1f at h
 refine CRF.og (n := 24) (fn := Tryz.f37) (by kernel_rfl) rfl rfl fun R kr => (.seq (.region (W.q1 (.int .i64 0) rfl (.nil (.seq (.seq ?_))))))
 refine .region (W.q2 (.string p1) rfl ?_)
 obtain ⟨x1, i2, h3⟩ := z03 h
 refine W.lo rfl rfl (Lo.cP rfl (fn := Tryz.f65) (by kernel_rfl) rfl (mc rfl mn) O (fun L' O' => z5v K p1 O' _ i2)) ?_
 rintro v10 H11 ⟨G4, O5, s6, sm9, rfl⟩
 refine W.pure (v := (.bool (!x1))) rfl rfl (z13 (a := x1) (oo rfl rfl)) (.nil (.cond (b := (!x1)) rfl rfl (fun g12 => ?_) (fun g12 => ?_)))
 .have h13 := z01 g12 h3
  refine .seq (.region (W.q1 (.int .i64 5) rfl (.nil (.ret ?_))))
  obtain rfl := zAa h13
  exact z4w kr v0 (v1 := (.int .i64 5)) (by rfl) (z0w (by rfl) (by exact rfl)) O5 s6 rfl
 have h14 := z11 g12 h3
 refine .skip (.seq (.seq (.region (W.q2 (.pointer (some ⟨b0, 0, none⟩)) rfl (W.pure (v := (.pointer (some ⟨b0, 0, none⟩))) rfl rfl (zbg (oo rfl rfl) (O5.atVar (j := 0) rfl)) (W.pure (v := (padd (.pointer (some ⟨b0, 0, none⟩)) 0)) rfl rfl (z04 ze8 (oo rfl rfl) (O5.atVar (j := 0) rfl)) ?_))))))
 refine W.load1 (v := v0) (r := []) rfl rfl ag22 (z0g rfl (At.raw (At.proj (O5.atVar (j := 0) rfl) z31))) (W.q2 (.string p1) rfl ?_)
 obtain ⟨x15, i16, h17⟩ := z03 h14
 refine W.lo rfl rfl (Lo.callB (j := 1) rfl rfl (fn := Tryz.f66) (by kernel_rfl) rfl (mc rfl (mc rfl mn)) O5 (fun G' L' hG O' hB => z1r K v0 p0.l hB p1 O' _ i16)) ?_
 rintro v24 H25 ⟨G18, O19, s20, sm23, rfl⟩
 refine .nil (.cond (b := x15) rfl rfl (fun g26 => ?_) (fun g26 => ?_))
 .have h27 := z01 g26 h17
  refine .seq (.region (W.q1 (.int .i64 7) rfl (.nil (.ret ?_))))
  obtain rfl := zAa h27
  exact z4w kr v0 (v1 := (.int .i64 7)) (by rfl) (z0w (by rfl) (by exact rfl)) O19 (zAe s6 s20) rfl
 have h28 := z11 g26 h17
 refine .skip (.seq (.region (W.q2 (.pointer (some ⟨b0, 0, none⟩)) rfl (W.q2 (.pointer (some ⟨b0, 0, none⟩)) rfl (W.pure (v := (.pointer (some ⟨b0, 0, none⟩))) rfl rfl (zbg (oo rfl rfl) (O19.atVar (j := 0) rfl)) (W.pure (v := (padd (.pointer (some ⟨b0, 0, none⟩)) 0)) rfl rfl (z04 ze8 (oo rfl rfl) (O19.atVar (j := 0) rfl)) ?_))))))
 refine W.load1 (v := v0) (r := []) rfl rfl ag22 (z0g rfl (At.raw (At.proj (O19.atVar (j := 0) rfl) z31))) (W.q2 (.string p1) rfl (W.lo rfl rfl (Lo.buildSlice (r := rS) (vs := [(.string p1)]) (xs := [p1]) el22 ze9 sz9 (by kernel_rfl) rfl (qc rfl qn) rfl (.cons rfl .nil) O19) ?_))
 rintro v31 H32 ⟨O29, sm30⟩
 obtain ⟨es34, e35, e36⟩ := z4b (j := 0) rfl O29
 obtain ⟨g37, h38⟩ := z5s h28
 refine W.lo rfl rfl (Lo.append (j := 2) (v := v0) rfl rfl el22 ni22 ze9 sz9 by9 (by decide) (by decide) rfl e35 e36 g37 O29) ?_
 rintro v40 H41 ⟨O33, sm39⟩
 refine W.pure (v := (.pointer (some ⟨b0, 0, none⟩))) rfl rfl (zbg (oo rfl rfl) (O33.atVar (j := 1) rfl)) (W.pure (v := (padd (.pointer (some ⟨b0, 0, none⟩)) 0)) rfl rfl (z04 ze8 (oo rfl rfl) (O33.atVar (j := 1) rfl)) (W.lo rfl rfl (Lo.storeVar (j := 1) (s := rV) (y0 := v40) (v := v40) (o := 0) rfl ((Put.at z4e _ _)) rfl sz22 rfl (by omega) rfl (zg9 (O33.slLen (j := 2) rfl)) O33) ?_))
 rintro v44 H45 ⟨O42, sm43⟩
 refine .nil (.seq (.region (W.q1 (.int .i64 0) rfl (.nil (.ret ?_)))))
 have O46 : Ow G18 H45 (eVar b0 97 z00 (p0, v40) :: eSl v40 9 rS (p0.l ++ [p1]) :: L) := O42.drop 0
 obtain rfl := zAa h38
 exact z4w kr v40 (v1 := (.int .i64 0)) (by rfl) (z0w (by rfl) (by exact rfl)) O46 (zAe s6 s20) rfl
def z0u (K : Nat) (p0 : Network) (p1 : List zAd) : Nat -> Int -> Option (Int ⊕ Unit)
  | 0, _ => none
  | k + 1, x10 => (if (decide (x10 < (List.length p1 : Int))) = true then ((idx p1 x10).bind fun x21 => ((z0h K p0.Nodes x21).bind fun x28 => (if (!x28) = true then some (.inl 6) else z0u K p0 p1 k (z0n .i64 (x10 + 1))))) else some (.inr ()))
def z2k (K : Nat) (p0 : Network) (p1 : List zAd) : Option Int := (z42 (z0u K p0 p1 K 0) (tu1 fun a54 => some a54) (tu0 (some 0)))
theorem z5w (v0 : List Value) (p0 : Network) (hp0 : T_Network.rep G v0 p0) (v1 : Value) (p1 : List zAd) (hp1 : (rSl rS).rep G [v1] p1) (O : Ow G H (L)) (r : Int) (h : z2k K p0 p1 = some r) :
    CR Tryz.prog 67 [.agg (List.toArray v0), v1] G H (L) (fun v G' _ => v = .int .i64 r) := by
 unfold z2k at h
 refine CR.og (n := 19) (fn := Tryz.f67) (by kernel_rfl) rfl rfl fun R kr => (.seq (.region (W.lo rfl rfl (Lo.box (r := T_Network) (x0 := p0) (v := (.agg (List.toArray v0))) rfl rfl hp0 O) ?_)))
 rintro v4 H5 ⟨b2, rfl, O1, sm3⟩
 refine W.q1 (.int .i64 0) rfl (.nil (.seq (.seq (.region (W.q2 v1 rfl (W.pure (v := (.int .i64 (List.length p1 : Int))) rfl rfl (z1g (oo rfl rfl) (z0f hp1) (z02 el22)) ?_))))))
 refine W.q2 (.int .i64 0) rfl (.nil ?_)
 obtain ⟨q6, h7, h8⟩ := z1o h
 refine AW.midT (fun σ' H' => ∃  (G' : GM), (.inr ()) = q6 /\ Ow G' H' (eVar b2 29 T_Network p0 :: L) /\ GM.le G G') ?_ ?_
 rotate_left
 .rintro σ45 H46 fr47 ⟨G48, rfl, O49, s50⟩
  have h52 := z5z (z4d h8)
  refine .seq (.region (W.q1 (.int .i64 0) rfl (.nil (.ret ?_))))
  have O53 : Ow G48 H46 (L) := O49.drop 0
  obtain rfl := zAa h52
  exact z3t kr (v1 := (.int .i64 0)) (by rfl) (z0w (by rfl) (by exact rfl)) O53 s50 rfl
 refine .block (AW.loop (α := Nat) (fun k' σ' H' => ∃ (y1 : Int) (G' : GM), z0u K p0 p1 k' y1 = some q6 /\ Ow G' H' (eVar b2 29 T_Network p0 :: L) /\ GM.le G G' /\ σ' 9 = .int .i64 y1) (fun k' => k') K ⟨0, _, h7, O1, (zAf _), rfl⟩ ?_)
 rintro k9
 rintro σ11 H12 fr13 ⟨x10, G14, h17, O15, s16, t18⟩
 rcases k9 with _ | k9
 .exact z06 h17
 rw [z0u] at h17
 refine .seq (.region (W.q3 (.bool (decide (x10 < (List.length p1 : Int)))) t18 ((fr13 8 rfl).trans rfl) (.nil (.seq (.cond (b := decide (x10 < (List.length p1 : Int))) rfl rfl (fun g19 => ?_) (fun g19 => ?_))))))
 rotate_left
 .have h44 := z11 g19 h17
  refine .exit ?_
  obtain rfl := zAa h44
  exact ⟨_, rfl, O15, s16⟩
 have h20 := z01 g19 h17
 refine .skip (.seq (.block (.seq (.region ?_))))
 obtain ⟨x21, i22, h23⟩ := z03 h20
 have j24 := z0v i22
 refine W.pure (v := (z2z v1 (Int.toNat x10 * 1))) rfl rfl (z3i el22 sz9 (oo rfl ((fr13 7 rfl).trans rfl)) (oo rfl t18) (z0f (RT.mono _ s16 hp1)) j24.1 j24.2.1) (W.load1 (v := (.string x21)) (r := []) rfl rfl ag9 (z0g rfl (At.str (At.le (At.le (z1q hp1 j24.2.2) s16 s16) (zAf _) O15.fro))) (W.q1 (.string x21) rfl (.nil (.seq (.region (W.pure (v := (padd (.pointer (some ⟨b2, 0, none⟩)) 0)) rfl rfl (z04 z7w (oo rfl ((fr13 2 rfl).trans rfl)) (O15.atVar (j := 0) rfl)) ?_))))))
 obtain ⟨w25, p26, f27⟩ := At.sl (At.proj (O15.atVar (j := 0) rfl) z1h)
 refine W.load1 (v := w25) (r := []) rfl rfl ag22 (z0g rfl p26) (W.q2 (.string x21) rfl ?_)
 obtain ⟨x28, i29, h30⟩ := z03 h23
 refine W.lo rfl rfl (Lo.cP rfl (fn := Tryz.f66) (by kernel_rfl) rfl (mc rfl (mc rfl mn)) O15 (fun L' O' => z1r K w25 p0.Nodes f27 x21 O' _ i29)) ?_
 rintro v37 H38 ⟨G31, O32, s33, sm36, rfl⟩
 refine W.pure (v := (.bool (!x28))) rfl rfl (z13 (a := x28) (oo rfl rfl)) (.nil (.cond (b := (!x28)) rfl rfl (fun g39 => ?_) (fun g39 => ?_)))
 rotate_left
 .have h43 := z11 g39 h30
  refine .skip (.region (W.q3 (.int .i64 (z0n .i64 (x10 + 1))) t18 rfl (W.q2 (.int .i64 (z0n .i64 (x10 + 1))) rfl (.nil ?_))))
  exact ⟨k9, zAg _, ⟨z0n .i64 (x10 + 1), _, h43, O32, (zAe s16 s33), rfl⟩⟩
 have h40 := z01 g39 h30
 refine .seq (.region (W.q1 (.int .i64 6) rfl (.nil (.ret ?_))))
 have O41 : Ow G31 H38 (L) := O32.drop 0
 obtain rfl := zAa h40
 have h42 := z08 (z36 h8)
 obtain rfl := zAa h42
 exact z3t kr (v1 := (.int .i64 6)) (by rfl) (z0w (by rfl) (by exact rfl)) O41 (zAe s16 s33) rfl
def z15 (K : Nat) (p0 : Network) (p1 : Netmodel_names) (p2 : zAd) (p3 : List zAd) : Option (Int × Netmodel_names) := ((z1f K (Netmodel_names.mk p1.l) p2).bind fun x9 => (if (x9.1 != 0) = true then some (x9.1, (Netmodel_names.mk x9.2.l)) else ((z2k K p0 p3).bind fun x27 => some (x27, (Netmodel_names.mk x9.2.l)))))
theorem z1n (v0 : List Value) (p0 : Network) (hp0 : T_Network.rep G v0 p0) (b1 : Nat) (v1 : Value) (p1 : Netmodel_names) (p2 : zAd) (v3 : Value) (p3 : List zAd) (hp3 : (rSl rS).rep G [v3] p3) (O : Ow G H (eVar b1 97 z00 (p1, v1) :: eSl v1 9 rS p1.l :: L)) (r : Int × Netmodel_names) (h : z15 K p0 p1 p2 p3 = some r) :
    CRF Tryz.prog 38 [.agg (List.toArray v0), .pointer (some ⟨b1, 0, none⟩), (.string p2), v3] G H (fun wl => (eVar b1 97 z00 (r.2, wl) :: eSl wl 9 rS r.2.l :: L)) (fun wl v G' => v = .int .i64 r.1) := by
 unfold z15 at h
 refine CRF.og (n := 19) (fn := Tryz.f38) (by kernel_rfl) rfl rfl fun R kr => (.seq (.region (W.lo rfl rfl (Lo.box (r := T_Network) (x0 := p0) (v := (.agg (List.toArray v0))) rfl rfl hp0 O) ?_)))
 rintro v4 H5 ⟨b2, rfl, O1, sm3⟩
 refine W.q1 (.int .i64 0) rfl (.nil (.seq (.seq (.region (W.q2 (.pointer (some ⟨b1, 0, none⟩)) rfl (W.q2 (.string p2) rfl ?_))))))
 have O6 : Ow G H5 (eVar b2 29 T_Network p0 :: eVar b1 97 z00 (p1, v1) :: eSl v1 9 rS p1.l :: L) := O1.front (j := 0) rfl
 have O7 : Ow G H5 (eSl v1 9 rS p1.l :: eVar b2 29 T_Network p0 :: eVar b1 97 z00 (p1, v1) :: L) := O6.front (j := 2) rfl
 have O8 : Ow G H5 (eVar b1 97 z00 (p1, v1) :: eSl v1 9 rS p1.l :: eVar b2 29 T_Network p0 :: L) := O7.front (j := 2) rfl
 obtain ⟨x9, i10, h11⟩ := z03 h
 refine W.lo rfl rfl (Lo.callPF (ps := [eVar b1 97 z00 (p1, v1), eSl v1 9 rS p1.l]) (pw := fun w => [eVar b1 97 z00 (x9.2, w), eSl w 9 rS x9.2.l]) rfl (fn := Tryz.f37) (by kernel_rfl) rfl (mc rfl (mc rfl mn)) O8 (fun L' O' => z32 K b1 v1 (Netmodel_names.mk p1.l) p2 O' _ i10)) ?_
 rintro v18 H19 ⟨w16, G12, O13, s14, sm17, rfl⟩
 refine W.q1 (.int .i64 x9.1) rfl (.nil (.seq (.region (W.q2 (.int .i64 x9.1) rfl (W.q3 (.bool (x9.1 != 0)) rfl rfl (.nil ?_))))))
 refine .cond (b := (x9.1 != 0)) rfl rfl (fun g20 => ?_) (fun g20 => ?_)
 .have h21 := z01 g20 h11
  refine .seq (.region (W.q2 (.int .i64 x9.1) rfl (W.q1 (.int .i64 x9.1) rfl (.nil (.ret ?_)))))
  have O22 : Ow G12 H19 (eVar b1 97 z00 (x9.2, w16) :: eSl w16 9 rS x9.2.l :: L) := O13.drop 2
  obtain rfl := zAa h21
  exact z4w kr w16 (v1 := (.int .i64 x9.1)) (by rfl) (z0w (by rfl) (by exact rfl)) O22 s14 rfl
 have h23 := z11 g20 h11
 refine .skip (.seq (.region ?_))
 obtain ⟨c24, p25, f26⟩ := (O13.atVar (j := 2) rfl)
 refine W.loadA (cs := c24) rfl rfl ag29 sz29 (z0g rfl p25) (RT.len _ f26) (W.q2 v3 rfl ?_)
 obtain ⟨x27, i28, h29⟩ := z03 h23
 refine W.lo rfl rfl (Lo.cP rfl (fn := Tryz.f67) (by kernel_rfl) rfl (mc rfl (mc rfl mn)) O13 (fun L' O' => z5w K c24 p0 f26 v3 p3 (RT.mono _ s14 hp3) O' _ i28)) ?_
 rintro v36 H37 ⟨G30, O31, s32, sm35, rfl⟩
 refine W.q1 (.int .i64 x27) rfl (.nil (.ret ?_))
 have O38 : Ow G30 H37 (eVar b1 97 z00 (x9.2, w16) :: eSl w16 9 rS x9.2.l :: L) := O31.drop 2
 obtain rfl := zAa h29
 exact z4w kr w16 (v1 := (.int .i64 x27)) (by rfl) (z0w (by rfl) (by exact rfl)) O38 (zAe s14 s32) rfl
def z05 (K : Nat) (p0 : Int) (p1 : Int) (p2 : Int) : Option Bool := (Option.bind ((if (decide (p0 >= p1)) = true then some (decide (p0 <= p2)) else some false)) (tu1 fun x8 => some x8))
theorem z07 (p0 : Int) (p1 : Int) (p2 : Int) (O : Ow G H (L)) (r : Bool) (h : z05 K p0 p1 p2 = some r) :
    CR Tryz.prog 68 [(.int .i64 p0), (.int .i64 p1), (.int .i64 p2)] G H (L) (fun v G' _ => v = .bool r) := by
 unfold z05 at h
 refine CR.og (n := 15) (fn := Tryz.f68) (by kernel_rfl) rfl rfl fun R kr => (.seq (.region (W.q1 (.bool false) rfl (.nil (.seq ?_)))))
 obtain ⟨q1, h2, h3⟩ := z03 h
 refine AW.midT (fun σ' H' => ∃ (y1 : Bool) (G' : GM), y1 = q1 /\ Ow G' H' (L) /\ GM.le G G' /\ σ' 6 = .bool y1) ?_ ?_
 rotate_left
 .rintro σ9 H10 fr11 ⟨x8, G12, rfl, O13, s14, t16⟩
  have h17 := z08 h3
  refine .ret ?_
  obtain rfl := zAa h17
  exact z3t kr (v1 := (.bool x8)) (by rfl) (z0w (by rfl) (by exact t16)) O13 s14 rfl
 refine .region (W.q2 (.int .i64 p0) rfl (W.q2 (.int .i64 p1) rfl (W.q3 (.bool (decide (p0 >= p1))) rfl rfl (W.q2 (.bool (decide (p0 >= p1))) rfl (W.splitAt (t := 10) (b := decide (p0 >= p1)) rfl (fun g4 gv5 => ?_) (fun g4 gv5 => ?_))))))
 rotate_left
 .have h7 := z11 g4 h2
  refine W.q6 rfl gv5 (W.q6 rfl gv5 (W.q6 rfl gv5 (W.q5 (.bool false) gv5 rfl (W.q1 (.bool false) rfl (.nil ?_)))))
  obtain rfl := zAa h7
  exact ⟨false, _, rfl, O, (zAf _), rfl⟩
 have h6 := z01 g4 h2
 refine W.q2 (hg := gk rfl rfl gv5 rfl) (.int .i64 p0) rfl (W.q2 (hg := gk rfl rfl gv5 rfl) (.int .i64 p2) rfl (W.q3 (hg := gk rfl rfl gv5 rfl) (.bool (decide (p0 <= p2))) rfl rfl (W.q4 (.bool (decide (p0 <= p2))) gv5 rfl (W.q1 (.bool (decide (p0 <= p2))) rfl (.nil ?_)))))
 obtain rfl := zAa h6
 exact ⟨decide (p0 <= p2), _, rfl, O, (zAf _), rfl⟩
def z23 (K : Nat) (p0 : Branch) : Option Int := (Option.bind (((z05 K p0.X 1 10000).bind fun x9 => (if (!x9) = true then some true else ((z05 K p0.Tap 500 1500).bind fun x24 => (if (!x24) = true then some true else ((z05 K p0.Shift (-1000) 1000).bind fun x39 => some (!x39))))))) (tu1 fun x50 => (if x50 = true then some 4 else (Option.bind (((z05 K p0.Limit 0 100000).bind fun x67 => (if (!x67) = true then some true else ((z05 K p0.Short p0.Limit 100000).bind fun x82 => (if (!x82) = true then some true else ((z05 K p0.Hold 0 200000).bind fun x97 => some (!x97))))))) (tu1 fun x108 => (if x108 = true then some 4 else some 0))))))
theorem z54 (v0 : List Value) (p0 : Branch) (hp0 : T_Branch.rep G v0 p0) (O : Ow G H (L)) (r : Int) (h : z23 K p0 = some r) :
    CR Tryz.prog 39 [.agg (List.toArray v0)] G H (L) (fun v G' _ => v = .int .i64 r) := by
 unfold z23 at h
 refine CR.og (n := 37) (fn := Tryz.f39) (by kernel_rfl) rfl rfl fun R kr => (.seq (.region (W.lo rfl rfl (Lo.box (r := T_Branch) (x0 := p0) (v := (.agg (List.toArray v0))) rfl rfl hp0 O) ?_)))
 rintro v4 H5 ⟨b2, rfl, O1, sm3⟩
 refine W.q1 (.int .i64 0) rfl (.nil (.seq (.seq ?_)))
 obtain ⟨q6, h7, h8⟩ := z03 h
 refine AW.midT (fun σ' H' => ∃ (y1 : Bool) (G' : GM), y1 = q6 /\ Ow G' H' (eVar b2 65 T_Branch p0 :: L) /\ GM.le G G' /\ σ' 18 = .bool y1) ?_ ?_
 .refine .region (W.pure (v := (padd (.pointer (some ⟨b2, 0, none⟩)) 3)) rfl rfl (z04 zfj (oo rfl rfl) (O1.atVar (j := 0) rfl)) (W.load1 (v := (.int .i64 p0.X)) (r := []) rfl rfl ag3 (z0g rfl (At.int (At.proj (O1.atVar (j := 0) rfl) z8j))) ?_))
  obtain ⟨x9, i10, h11⟩ := z03 h7
  refine W.lo rfl rfl (Lo.cP rfl (fn := Tryz.f68) (by kernel_rfl) rfl (mc rfl (mc rfl (mc rfl mn))) O1 (fun L' O' => z07 K p0.X 1 10000 O' _ i10)) ?_
  rintro v18 H19 ⟨G12, O13, s14, sm17, rfl⟩
  refine W.pure (v := (.bool (!x9))) rfl rfl (z13 (a := x9) (oo rfl rfl)) (W.q2 (.bool (!x9)) rfl (W.splitAt (t := 7) (b := (!x9)) rfl (fun g20 gv21 => ?_) (fun g20 gv21 => ?_)))
  .have h22 := z01 g20 h11
   refine W.q6 rfl gv21 (W.q6 rfl gv21 (W.q6 rfl gv21 (W.q6 rfl gv21 (W.q4 (.bool true) gv21 rfl (W.q2 (.bool true) rfl (W.q6 rfl rfl ?_))))))
   refine W.q6 rfl rfl (W.q6 rfl rfl (W.q6 rfl rfl (W.q4 (.bool true) rfl rfl (.nil ?_))))
   obtain rfl := zAa h22
   exact ⟨true, _, rfl, O13, s14, rfl⟩
  have h23 := z11 g20 h11
  refine W.pure (v := (padd (.pointer (some ⟨b2, 0, none⟩)) 4)) (gk rfl rfl gv21 rfl) rfl (z04 zfk (oo rfl rfl) (O13.atVar (j := 0) rfl)) (W.load1 (v := (.int .i64 p0.Tap)) (r := []) (gk rfl rfl gv21 rfl) rfl ag3 (z0g rfl (At.int (At.proj (O13.atVar (j := 0) rfl) z6r))) ?_)
  obtain ⟨x24, i25, h26⟩ := z03 h23
  refine W.lo (gk rfl rfl gv21 rfl) rfl (Lo.cP rfl (fn := Tryz.f68) (by kernel_rfl) rfl (mc rfl (mc rfl (mc rfl mn))) O13 (fun L' O' => z07 K p0.Tap 500 1500 O' _ i25)) ?_
  rintro v33 H34 ⟨G27, O28, s29, sm32, rfl⟩
  refine W.pure (v := (.bool (!x24))) (gk rfl rfl gv21 rfl) rfl (z13 (a := x24) (oo rfl rfl)) (W.q5 (.bool (!x24)) gv21 rfl (W.q2 (.bool (!x24)) rfl (W.splitAt (t := 13) (b := (!x24)) rfl (fun g35 gv36 => ?_) (fun g35 gv36 => ?_))))
  .have h37 := z01 g35 h26
   refine W.q6 rfl gv36 (W.q6 rfl gv36 (W.q6 rfl gv36 (W.q6 rfl gv36 (W.q4 (.bool true) gv36 rfl (.nil ?_)))))
   obtain rfl := zAa h37
   exact ⟨true, _, rfl, O28, (zAe s14 s29), rfl⟩
  have h38 := z11 g35 h26
  refine W.pure (v := (padd (.pointer (some ⟨b2, 0, none⟩)) 5)) (gk rfl rfl gv36 rfl) rfl (z04 zfl (oo rfl rfl) (O28.atVar (j := 0) rfl)) (W.load1 (v := (.int .i64 p0.Shift)) (r := []) (gk rfl rfl gv36 rfl) rfl ag3 (z0g rfl (At.int (At.proj (O28.atVar (j := 0) rfl) z5h))) ?_)
  obtain ⟨x39, i40, h41⟩ := z03 h38
  refine W.lo (gk rfl rfl gv36 rfl) rfl (Lo.cP rfl (fn := Tryz.f68) (by kernel_rfl) rfl (mc rfl (mc rfl (mc rfl mn))) O28 (fun L' O' => z07 K p0.Shift (-1000) 1000 O' _ i40)) ?_
  rintro v48 H49 ⟨G42, O43, s44, sm47, rfl⟩
  refine W.pure (v := (.bool (!x39))) (gk rfl rfl gv36 rfl) rfl (z13 (a := x39) (oo rfl rfl)) (W.q5 (.bool (!x39)) gv36 rfl (.nil ?_))
  obtain rfl := zAa h41
  exact ⟨(!x39), _, rfl, O43, (zAe s14 (zAe s29 s44)), rfl⟩
 rintro σ51 H52 fr53 ⟨x50, G54, rfl, O55, s56, t58⟩
 have h59 := z08 h8
 refine .cond (b := x50) rfl t58 (fun g60 => ?_) (fun g60 => ?_)
 .have h61 := z01 g60 h59
  refine .seq (.region (W.q1 (.int .i64 4) rfl (.nil (.ret ?_))))
  have O62 : Ow G54 H52 (L) := O55.drop 0
  obtain rfl := zAa h61
  exact z3t kr (v1 := (.int .i64 4)) (by rfl) (z0w (by rfl) (by exact rfl)) O62 s56 rfl
 have h63 := z11 g60 h59
 refine .skip (.seq (.seq ?_))
 obtain ⟨q64, h65, h66⟩ := z03 h63
 refine AW.midT (fun σ' H' => ∃ (y1 : Bool) (G' : GM), y1 = q64 /\ Ow G' H' (eVar b2 65 T_Branch p0 :: L) /\ GM.le G54 G' /\ σ' 36 = .bool y1) ?_ ?_
 rotate_left
 .rintro σ109 H110 fr111 ⟨x108, G112, rfl, O113, s114, t116⟩
  have h117 := z08 h66
  refine .cond (b := x108) rfl t116 (fun g118 => ?_) (fun g118 => ?_)
  .have h119 := z01 g118 h117
   refine .seq (.region (W.q1 (.int .i64 4) rfl (.nil (.ret ?_))))
   have O120 : Ow G112 H110 (L) := O113.drop 0
   obtain rfl := zAa h119
   exact z3t kr (v1 := (.int .i64 4)) (by rfl) (z0w (by rfl) (by exact rfl)) O120 (zAe s56 s114) rfl
  have h121 := z11 g118 h117
  refine .skip (.seq (.region (W.q1 (.int .i64 0) rfl (.nil (.ret ?_)))))
  have O122 : Ow G112 H110 (L) := O113.drop 0
  obtain rfl := zAa h121
  exact z3t kr (v1 := (.int .i64 0)) (by rfl) (z0w (by rfl) (by exact rfl)) O122 (zAe s56 s114) rfl
 refine .region (W.pure (v := (padd (.pointer (some ⟨b2, 0, none⟩)) 6)) rfl rfl (z04 zd5 (oo rfl ((fr53 1 rfl).trans rfl)) (O55.atVar (j := 0) rfl)) (W.load1 (v := (.int .i64 p0.Limit)) (r := []) rfl rfl ag3 (z0g rfl (At.int (At.proj (O55.atVar (j := 0) rfl) z3j))) ?_))
 obtain ⟨x67, i68, h69⟩ := z03 h65
 refine W.lo rfl rfl (Lo.cP rfl (fn := Tryz.f68) (by kernel_rfl) rfl (mc rfl (mc rfl (mc rfl mn))) O55 (fun L' O' => z07 K p0.Limit 0 100000 O' _ i68)) ?_
 rintro v76 H77 ⟨G70, O71, s72, sm75, rfl⟩
 refine W.pure (v := (.bool (!x67))) rfl rfl (z13 (a := x67) (oo rfl rfl)) (W.q2 (.bool (!x67)) rfl (W.splitAt (t := 23) (b := (!x67)) rfl (fun g78 gv79 => ?_) (fun g78 gv79 => ?_)))
 .have h80 := z01 g78 h69
  refine W.q6 rfl gv79 (W.q6 rfl gv79 (W.q6 rfl gv79 (W.q6 rfl gv79 (W.q6 rfl gv79 (W.q6 rfl gv79 (W.q4 (.bool true) gv79 rfl ?_))))))
  refine W.q2 (.bool true) rfl (W.q6 rfl rfl (W.q6 rfl rfl (W.q6 rfl rfl (W.q6 rfl rfl (W.q4 (.bool true) rfl rfl (.nil ?_))))))
  obtain rfl := zAa h80
  exact ⟨true, _, rfl, O71, s72, rfl⟩
 have h81 := z11 g78 h69
 refine W.pure (v := (padd (.pointer (some ⟨b2, 0, none⟩)) 7)) (gk rfl rfl gv79 rfl) rfl (z04 zfm (oo rfl ((fr53 1 rfl).trans rfl)) (O71.atVar (j := 0) rfl)) (W.load1 (v := (.int .i64 p0.Short)) (r := []) (gk rfl rfl gv79 rfl) rfl ag3 (z0g rfl (At.int (At.proj (O71.atVar (j := 0) rfl) z5i))) (W.pure (v := (padd (.pointer (some ⟨b2, 0, none⟩)) 6)) (gk rfl rfl gv79 rfl) rfl (z04 zd5 (oo rfl ((fr53 1 rfl).trans rfl)) (O71.atVar (j := 0) rfl)) (W.load1 (v := (.int .i64 p0.Limit)) (r := []) (gk rfl rfl gv79 rfl) rfl ag3 (z0g rfl (At.int (At.proj (O71.atVar (j := 0) rfl) z3j))) ?_)))
 obtain ⟨x82, i83, h84⟩ := z03 h81
 refine W.lo (gk rfl rfl gv79 rfl) rfl (Lo.cP rfl (fn := Tryz.f68) (by kernel_rfl) rfl (mc rfl (mc rfl (mc rfl mn))) O71 (fun L' O' => z07 K p0.Short p0.Limit 100000 O' _ i83)) ?_
 rintro v91 H92 ⟨G85, O86, s87, sm90, rfl⟩
 refine W.pure (v := (.bool (!x82))) (gk rfl rfl gv79 rfl) rfl (z13 (a := x82) (oo rfl rfl)) (W.q5 (.bool (!x82)) gv79 rfl (W.q2 (.bool (!x82)) rfl (W.splitAt (t := 31) (b := (!x82)) rfl (fun g93 gv94 => ?_) (fun g93 gv94 => ?_))))
 .have h95 := z01 g93 h84
  refine W.q6 rfl gv94 (W.q6 rfl gv94 (W.q6 rfl gv94 (W.q6 rfl gv94 (W.q4 (.bool true) gv94 rfl (.nil ?_)))))
  obtain rfl := zAa h95
  exact ⟨true, _, rfl, O86, (zAe s72 s87), rfl⟩
 have h96 := z11 g93 h84
 refine W.pure (v := (padd (.pointer (some ⟨b2, 0, none⟩)) 8)) (gk rfl rfl gv94 rfl) rfl (z04 zfn (oo rfl ((fr53 1 rfl).trans rfl)) (O86.atVar (j := 0) rfl)) (W.load1 (v := (.int .i64 p0.Hold)) (r := []) (gk rfl rfl gv94 rfl) rfl ag3 (z0g rfl (At.int (At.proj (O86.atVar (j := 0) rfl) z62))) ?_)
 obtain ⟨x97, i98, h99⟩ := z03 h96
 refine W.lo (gk rfl rfl gv94 rfl) rfl (Lo.cP rfl (fn := Tryz.f68) (by kernel_rfl) rfl (mc rfl (mc rfl (mc rfl mn))) O86 (fun L' O' => z07 K p0.Hold 0 200000 O' _ i98)) ?_
 rintro v106 H107 ⟨G100, O101, s102, sm105, rfl⟩
 refine W.pure (v := (.bool (!x97))) (gk rfl rfl gv94 rfl) rfl (z13 (a := x97) (oo rfl rfl)) (W.q5 (.bool (!x97)) gv94 rfl (.nil ?_))
 obtain rfl := zAa h99
 exact ⟨(!x97), _, rfl, O101, (zAe s72 (zAe s87 s102)), rfl⟩
def z0b (K : Nat) (p0 : Network) : Nat -> Netmodel_names -> List zAd -> Int -> Option ((Int × Netmodel_names) ⊕ (Netmodel_names × List zAd))
  | 0, _, _, _ => none
  | k + 1, x13, x14, x15 => (if (decide (x15 < (List.length p0.Gens : Int))) = true then ((idx p0.Gens x15).bind fun x27 => ((z15 K p0 (Netmodel_names.mk x14) x27.Name [x27.Node]).bind fun x58 => (if (x58.1 != 0) = true then some (.inl (x58.1, (Netmodel_names.mk x58.2.l))) else (Option.bind (((z05 K x27.Least 0 100000).bind fun x78 => (if (!x78) = true then some true else ((z05 K x27.Most x27.Least 100000).bind fun x93 => (if (!x93) = true then some true else ((z05 K x27.Ramp 0 100000).bind fun x108 => some (!x108))))))) (tu1 fun x119 => (if x119 = true then some (.inl (4, (Netmodel_names.mk x58.2.l))) else z0b K p0 k x58.2 x58.2.l (z0n .i64 (x15 + 1)))))))) else some (.inr (x13, x14)))
def z0c (K : Nat) (p0 : Network) : Nat -> Netmodel_names -> List zAd -> Int -> Option ((Int × Netmodel_names) ⊕ (Netmodel_names × List zAd))
  | 0, _, _, _ => none
  | k + 1, x158, x159, x160 => (if (decide (x160 < (List.length p0.Loads : Int))) = true then ((idx p0.Loads x160).bind fun x172 => ((z15 K p0 (Netmodel_names.mk x159) x172.Name [x172.Node]).bind fun x203 => (if (x203.1 != 0) = true then some (.inl (x203.1, (Netmodel_names.mk x203.2.l))) else ((z05 K x172.Demand 0 100000).bind fun x220 => (if (!x220) = true then some (.inl (4, (Netmodel_names.mk x203.2.l))) else z0c K p0 k x203.2 x203.2.l (z0n .i64 (x160 + 1))))))) else some (.inr (x158, x159)))
def z0d (K : Nat) (p0 : Network) : Nat -> Netmodel_names -> List zAd -> Int -> Option ((Int × Netmodel_names) ⊕ (Netmodel_names × List zAd))
  | 0, _, _, _ => none
  | k + 1, x260, x261, x262 => (if (decide (x262 < (List.length p0.Stores : Int))) = true then ((idx p0.Stores x262).bind fun x274 => ((z15 K p0 (Netmodel_names.mk x261) x274.Name [x274.Node]).bind fun x305 => (if (x305.1 != 0) = true then some (.inl (x305.1, (Netmodel_names.mk x305.2.l))) else (Option.bind (((z05 K x274.Charge 0 100000).bind fun x325 => (if (!x325) = true then some true else ((z05 K x274.Discharge 0 100000).bind fun x340 => (if (!x340) = true then some true else ((z05 K x274.Capacity 0 100000).bind fun x355 => some (!x355))))))) (tu1 fun x366 => (if x366 = true then some (.inl (4, (Netmodel_names.mk x305.2.l))) else z0d K p0 k x305.2 x305.2.l (z0n .i64 (x262 + 1)))))))) else some (.inr (x260, x261)))
def z20 (K : Nat) (p0 : Network) (p1 : Netmodel_names) : Option (Int × Netmodel_names) := (z42 (z0b K p0 K p1 p1.l 0) (tu2 fun a403 a404 => some (a403, a404)) (tu2 fun x140 x141 => (z42 (z0c K p0 K x140 x141 0) (tu2 fun a401 a402 => some (a401, a402)) (tu2 fun x242 x243 => (z42 (z0d K p0 K x242 x243 0) (tu2 fun a399 a400 => some (a399, a400)) (tu2 fun x387 x388 => some (0, (Netmodel_names.mk x388))))))))
theorem z4x (v0 : List Value) (p0 : Network) (hp0 : T_Network.rep G v0 p0) (b1 : Nat) (v1 : Value) (p1 : Netmodel_names) (O : Ow G H (eVar b1 97 z00 (p1, v1) :: eSl v1 9 rS p1.l :: L)) (r : Int × Netmodel_names) (h : z20 K p0 p1 = some r) :
    CRF Tryz.prog 40 [.agg (List.toArray v0), .pointer (some ⟨b1, 0, none⟩)] G H (fun wl => (eVar b1 97 z00 (r.2, wl) :: eSl wl 9 rS r.2.l :: L)) (fun wl v G' => v = .int .i64 r.1) := by
 unfold z20 at h
 refine CRF.og (n := 109) (fn := Tryz.f40) (by kernel_rfl) rfl rfl fun R kr => (.seq (.region (W.lo rfl rfl (Lo.box (r := T_Network) (x0 := p0) (v := (.agg (List.toArray v0))) rfl rfl hp0 O) ?_)))
 rintro v4 H5 ⟨b2, rfl, O1, sm3⟩
 refine W.q1 (.int .i64 0) rfl (.nil (.seq (.seq (.region (W.pure (v := (padd (.pointer (some ⟨b2, 0, none⟩)) 3)) rfl rfl (z04 z7x (oo rfl rfl) (O1.atVar (j := 0) rfl)) ?_)))))
 obtain ⟨w6, p7, f8⟩ := At.sl (At.proj (O1.atVar (j := 0) rfl) z1l)
 refine W.load1 (v := w6) (r := []) rfl rfl ag25 (z0g rfl p7) (W.pure (v := (.int .i64 (List.length p0.Gens : Int))) rfl rfl (z1g (oo rfl rfl) (z0f f8) (z02 el25)) (W.q2 (.int .i64 0) rfl (.nil ?_)))
 obtain ⟨q9, h10, h11⟩ := z1o h
 refine AW.midT (fun σ' H' => ∃ (y1 : Netmodel_names) (y2 : List zAd) (w_k1 : Value) (G' : GM), (.inr (y1, y2)) = q9 /\ Ow G' H' (eVar b2 29 T_Network p0 :: eVar b1 97 z00 (y1, w_k1) :: eSl w_k1 9 rS y2 :: L) /\ GM.le G G') ?_ ?_
 .refine .block (AW.loop (α := Nat) (fun k' σ' H' => ∃ (y1 : Netmodel_names) (y2 : List zAd) (y3 : Int) (w_k1 : Value) (G' : GM), z0b K p0 k' y1 y2 y3 = some q9 /\ Ow G' H' (eVar b2 29 T_Network p0 :: eVar b1 97 z00 (y1, w_k1) :: eSl w_k1 9 rS y2 :: L) /\ GM.le G G' /\ σ' 17 = .int .i64 y3) (fun k' => k') K ⟨p1, p1.l, 0, v1, _, h10, O1, (zAf _), rfl⟩ ?_)
  rintro k12
  rintro σ16 H17 fr18 ⟨x13, x14, x15, w23, G19, h22, O20, s21, t24⟩
  rcases k12 with _ | k12
  .exact z06 h22
  rw [z0b] at h22
  refine .seq (.region (W.q3 (.bool (decide (x15 < (List.length p0.Gens : Int)))) t24 ((fr18 16 rfl).trans rfl) (.nil (.seq (.cond (b := decide (x15 < (List.length p0.Gens : Int))) rfl rfl (fun g25 => ?_) (fun g25 => ?_))))))
  rotate_left
  .have h139 := z11 g25 h22
   refine .exit ?_
   obtain rfl := zAa h139
   exact ⟨x13, x14, w23, _, rfl, O20, s21⟩
  have h26 := z01 g25 h22
  refine .skip (.seq (.block (.seq (.region ?_))))
  obtain ⟨x27, i28, h29⟩ := z03 h26
  have j30 := z0v i28
  refine W.pure (v := (z2z w6 (Int.toNat x15 * 5))) rfl rfl (z3i el25 sz37 (oo rfl ((fr18 15 rfl).trans rfl)) (oo rfl t24) (z0f (RT.mono _ s21 f8)) j30.1 j30.2.1) ?_
  obtain ⟨c31, p32, f33⟩ := (At.le (At.le (z1q f8 j30.2.2) s21 s21) (zAf _) O20.fro)
  refine W.loadA (cs := c31) rfl rfl ag37 sz37 (z0g rfl p32) (RT.len _ f33) (W.lo rfl rfl (Lo.alloc (r := T_Gen) (x0 := (Gen.mk ByteArray.empty ByteArray.empty 0 0 0)) ze37 (by kernel_rfl) zft O20) ?_)
  rintro v37 H38 ⟨b35, rfl, O34, sm36⟩
  refine W.lo rfl rfl (Lo.storeVar (j := 0) (s := T_Gen) (y0 := x27) (v := (.agg (List.toArray c31))) (o := 0) rfl ((Put.at (Put.self _) _ _)) rfl sz37 rfl (by omega) rfl f33 O34) ?_
  rintro v41 H42 ⟨O39, sm40⟩
  refine .nil (.seq (.seq (.region ?_)))
  obtain ⟨c43, p44, f45⟩ := (O39.atVar (j := 1) rfl)
  refine W.loadA (cs := c43) rfl rfl ag29 sz29 (z0g ((fr18 2 rfl).trans rfl) p44) (RT.len _ f45) (W.q2 (.pointer (some ⟨b1, 0, none⟩)) ((fr18 1 rfl).trans rfl) (W.pure (v := (padd (.pointer (some ⟨b35, 0, none⟩)) 0)) rfl rfl (z04 zfd (oo rfl rfl) (O39.atVar (j := 0) rfl)) (W.load1 (v := (.string x27.Name)) (r := []) rfl rfl ag9 (z0g rfl (At.str (At.proj (O39.atVar (j := 0) rfl) z8k))) (W.pure (v := (padd (.pointer (some ⟨b35, 0, none⟩)) 1)) rfl rfl (z04 zcy (oo rfl rfl) (O39.atVar (j := 0) rfl)) (W.load1 (v := (.string x27.Node)) (r := []) rfl rfl ag9 (z0g rfl (At.str (At.proj (O39.atVar (j := 0) rfl) z5j))) (W.lo rfl rfl (Lo.buildSlice (r := rS) (vs := [(.string x27.Node)]) (xs := [x27.Node]) el22 ze9 sz9 (by kernel_rfl) rfl (qc rfl qn) rfl (.cons rfl .nil) O39) ?_))))))
  rintro v48 H49 ⟨O46, sm47⟩
  obtain ⟨G50, O51, s52, f53⟩ := O46.frzSl (j := 0) rfl
  have O54 : Ow G50 H49 (eVar b2 29 T_Network p0 :: eVar b35 37 T_Gen x27 :: eVar b1 97 z00 (x13, w23) :: eSl w23 9 rS x14 :: L) := O51.front (j := 1) rfl
  have O55 : Ow G50 H49 (eVar b35 37 T_Gen x27 :: eVar b2 29 T_Network p0 :: eVar b1 97 z00 (x13, w23) :: eSl w23 9 rS x14 :: L) := O54.front (j := 1) rfl
  have O56 : Ow G50 H49 (eSl w23 9 rS x14 :: eVar b35 37 T_Gen x27 :: eVar b2 29 T_Network p0 :: eVar b1 97 z00 (x13, w23) :: L) := O55.front (j := 3) rfl
  have O57 : Ow G50 H49 (eVar b1 97 z00 (x13, w23) :: eSl w23 9 rS x14 :: eVar b35 37 T_Gen x27 :: eVar b2 29 T_Network p0 :: L) := O56.front (j := 3) rfl
  obtain ⟨x58, i59, h60⟩ := z03 h29
  refine W.lo rfl rfl (Lo.callPF (ps := [eVar b1 97 z00 (x13, w23), eSl w23 9 rS x14]) (pw := fun w => [eVar b1 97 z00 (x58.2, w), eSl w 9 rS x58.2.l]) rfl (fn := Tryz.f38) (by kernel_rfl) rfl (mc rfl (mc rfl (mc rfl (mc rfl mn)))) O57 (fun L' O' => z1n K c43 p0 (RT.mono _ s52 f45) b1 w23 (Netmodel_names.mk x14) x27.Name v48 [x27.Node] f53 O' _ i59)) ?_
  rintro v67 H68 ⟨w65, G61, O62, s63, sm66, rfl⟩
  refine W.q1 (.int .i64 x58.1) rfl (.nil (.seq (.region (W.q2 (.int .i64 x58.1) rfl (W.q3 (.bool (x58.1 != 0)) rfl rfl (.nil ?_))))))
  refine .cond (b := (x58.1 != 0)) rfl rfl (fun g69 => ?_) (fun g69 => ?_)
  .have h70 := z01 g69 h60
   refine .seq (.region (W.q2 (.int .i64 x58.1) rfl (W.q1 (.int .i64 x58.1) rfl (.nil (.ret ?_)))))
   have O71 : Ow G61 H68 (eVar b1 97 z00 (x58.2, w65) :: eSl w65 9 rS x58.2.l :: eVar b2 29 T_Network p0 :: L) := O62.drop 2
   have O72 : Ow G61 H68 (eVar b1 97 z00 (x58.2, w65) :: eSl w65 9 rS x58.2.l :: L) := O71.drop 2
   obtain rfl := zAa h70
   have h73 := z3b (z36 h11)
   obtain rfl := zAa h73
   exact z4w kr w65 (v1 := (.int .i64 x58.1)) (by rfl) (z0w (by rfl) (by exact rfl)) O72 (zAe s21 (zAe s52 s63)) rfl
  have h74 := z11 g69 h60
  refine .skip (.seq ?_)
  obtain ⟨q75, h76, h77⟩ := z03 h74
  refine AW.midT (fun σ' H' => ∃ (y1 : Bool) (G' : GM), y1 = q75 /\ Ow G' H' (eVar b1 97 z00 (x58.2, w65) :: eSl w65 9 rS x58.2.l :: eVar b35 37 T_Gen x27 :: eVar b2 29 T_Network p0 :: L) /\ GM.le G61 G' /\ σ' 49 = .bool y1) ?_ ?_
  rotate_left
  .rintro σ120 H121 fr122 ⟨x119, G123, rfl, O124, s125, t127⟩
   have h128 := z08 h77
   refine .cond (b := x119) rfl t127 (fun g129 => ?_) (fun g129 => ?_)
   .have h130 := z01 g129 h128
    refine .seq (.region (W.q1 (.int .i64 4) rfl (.nil (.ret ?_))))
    have O131 : Ow G123 H121 (eVar b1 97 z00 (x58.2, w65) :: eSl w65 9 rS x58.2.l :: eVar b2 29 T_Network p0 :: L) := O124.drop 2
    have O132 : Ow G123 H121 (eVar b1 97 z00 (x58.2, w65) :: eSl w65 9 rS x58.2.l :: L) := O131.drop 2
    obtain rfl := zAa h130
    have h133 := z3b (z36 h11)
    obtain rfl := zAa h133
    exact z4w kr w65 (v1 := (.int .i64 4)) (by rfl) (z0w (by rfl) (by exact rfl)) O132 (zAe s21 (zAe s52 (zAe s63 s125))) rfl
   have h134 := z11 g129 h128
   refine .skip (.region (W.q3 (.int .i64 (z0n .i64 (x15 + 1))) ((fr122 17 rfl).trans t24) rfl (W.q2 (.int .i64 (z0n .i64 (x15 + 1))) rfl (.nil ?_))))
   have O135 : Ow G123 H121 (eVar b1 97 z00 (x58.2, w65) :: eSl w65 9 rS x58.2.l :: eVar b2 29 T_Network p0 :: L) := O124.drop 2
   have O136 : Ow G123 H121 (eSl w65 9 rS x58.2.l :: eVar b1 97 z00 (x58.2, w65) :: eVar b2 29 T_Network p0 :: L) := O135.front (j := 1) rfl
   have O137 : Ow G123 H121 (eVar b1 97 z00 (x58.2, w65) :: eSl w65 9 rS x58.2.l :: eVar b2 29 T_Network p0 :: L) := O136.front (j := 1) rfl
   have O138 : Ow G123 H121 (eVar b2 29 T_Network p0 :: eVar b1 97 z00 (x58.2, w65) :: eSl w65 9 rS x58.2.l :: L) := O137.front (j := 2) rfl
   exact ⟨k12, zAg _, ⟨x58.2, x58.2.l, z0n .i64 (x15 + 1), w65, _, h134, O138, (zAe s21 (zAe s52 (zAe s63 s125))), rfl⟩⟩
  refine .region (W.pure (v := (padd (.pointer (some ⟨b35, 0, none⟩)) 2)) rfl rfl (z04 za7 (oo rfl rfl) (O62.atVar (j := 2) rfl)) (W.load1 (v := (.int .i64 x27.Least)) (r := []) rfl rfl ag3 (z0g rfl (At.int (At.proj (O62.atVar (j := 2) rfl) z3n))) ?_))
  obtain ⟨x78, i79, h80⟩ := z03 h76
  refine W.lo rfl rfl (Lo.cP rfl (fn := Tryz.f68) (by kernel_rfl) rfl (mc rfl (mc rfl (mc rfl mn))) O62 (fun L' O' => z07 K x27.Least 0 100000 O' _ i79)) ?_
  rintro v87 H88 ⟨G81, O82, s83, sm86, rfl⟩
  refine W.pure (v := (.bool (!x78))) rfl rfl (z13 (a := x78) (oo rfl rfl)) (W.q2 (.bool (!x78)) rfl (W.splitAt (t := 36) (b := (!x78)) rfl (fun g89 gv90 => ?_) (fun g89 gv90 => ?_)))
  .have h91 := z01 g89 h80
   refine W.q6 rfl gv90 (W.q6 rfl gv90 (W.q6 rfl gv90 (W.q6 rfl gv90 (W.q6 rfl gv90 (W.q6 rfl gv90 (W.q4 (.bool true) gv90 rfl ?_))))))
   refine W.q2 (.bool true) rfl (W.q6 rfl rfl (W.q6 rfl rfl (W.q6 rfl rfl (W.q6 rfl rfl (W.q4 (.bool true) rfl rfl (.nil ?_))))))
   obtain rfl := zAa h91
   exact ⟨true, _, rfl, O82, s83, rfl⟩
  have h92 := z11 g89 h80
  refine W.pure (v := (padd (.pointer (some ⟨b35, 0, none⟩)) 3)) (gk rfl rfl gv90 rfl) rfl (z04 zcz (oo rfl rfl) (O82.atVar (j := 2) rfl)) (W.load1 (v := (.int .i64 x27.Most)) (r := []) (gk rfl rfl gv90 rfl) rfl ag3 (z0g rfl (At.int (At.proj (O82.atVar (j := 2) rfl) z5k))) (W.pure (v := (padd (.pointer (some ⟨b35, 0, none⟩)) 2)) (gk rfl rfl gv90 rfl) rfl (z04 za7 (oo rfl rfl) (O82.atVar (j := 2) rfl)) (W.load1 (v := (.int .i64 x27.Least)) (r := []) (gk rfl rfl gv90 rfl) rfl ag3 (z0g rfl (At.int (At.proj (O82.atVar (j := 2) rfl) z3n))) ?_)))
  obtain ⟨x93, i94, h95⟩ := z03 h92
  refine W.lo (gk rfl rfl gv90 rfl) rfl (Lo.cP rfl (fn := Tryz.f68) (by kernel_rfl) rfl (mc rfl (mc rfl (mc rfl mn))) O82 (fun L' O' => z07 K x27.Most x27.Least 100000 O' _ i94)) ?_
  rintro v102 H103 ⟨G96, O97, s98, sm101, rfl⟩
  refine W.pure (v := (.bool (!x93))) (gk rfl rfl gv90 rfl) rfl (z13 (a := x93) (oo rfl rfl)) (W.q5 (.bool (!x93)) gv90 rfl (W.q2 (.bool (!x93)) rfl (W.splitAt (t := 44) (b := (!x93)) rfl (fun g104 gv105 => ?_) (fun g104 gv105 => ?_))))
  .have h106 := z01 g104 h95
   refine W.q6 rfl gv105 (W.q6 rfl gv105 (W.q6 rfl gv105 (W.q6 rfl gv105 (W.q4 (.bool true) gv105 rfl (.nil ?_)))))
   obtain rfl := zAa h106
   exact ⟨true, _, rfl, O97, (zAe s83 s98), rfl⟩
  have h107 := z11 g104 h95
  refine W.pure (v := (padd (.pointer (some ⟨b35, 0, none⟩)) 4)) (gk rfl rfl gv105 rfl) rfl (z04 zfe (oo rfl rfl) (O97.atVar (j := 2) rfl)) (W.load1 (v := (.int .i64 x27.Ramp)) (r := []) (gk rfl rfl gv105 rfl) rfl ag3 (z0g rfl (At.int (At.proj (O97.atVar (j := 2) rfl) z8l))) ?_)
  obtain ⟨x108, i109, h110⟩ := z03 h107
  refine W.lo (gk rfl rfl gv105 rfl) rfl (Lo.cP rfl (fn := Tryz.f68) (by kernel_rfl) rfl (mc rfl (mc rfl (mc rfl mn))) O97 (fun L' O' => z07 K x27.Ramp 0 100000 O' _ i109)) ?_
  rintro v117 H118 ⟨G111, O112, s113, sm116, rfl⟩
  refine W.pure (v := (.bool (!x108))) (gk rfl rfl gv105 rfl) rfl (z13 (a := x108) (oo rfl rfl)) (W.q5 (.bool (!x108)) gv105 rfl (.nil ?_))
  obtain rfl := zAa h110
  exact ⟨(!x108), _, rfl, O112, (zAe s83 (zAe s98 s113)), rfl⟩
 rintro σ142 H143 fr144 ⟨x140, x141, w149, G145, rfl, O146, s147⟩
 have h150 := z3b (z4d h11)
 refine .seq (.seq (.region (W.pure (v := (padd (.pointer (some ⟨b2, 0, none⟩)) 4)) rfl rfl (z04 za6 (oo rfl ((fr144 2 rfl).trans rfl)) (O146.atVar (j := 0) rfl)) ?_)))
 obtain ⟨w151, p152, f153⟩ := At.sl (At.proj (O146.atVar (j := 0) rfl) z25)
 refine W.load1 (v := w151) (r := []) rfl rfl ag26 (z0g rfl p152) (W.pure (v := (.int .i64 (List.length p0.Loads : Int))) rfl rfl (z1g (oo rfl rfl) (z0f f153) (z02 el26)) (W.q2 (.int .i64 0) rfl (.nil ?_)))
 obtain ⟨q154, h155, h156⟩ := z1o h150
 refine AW.midT (fun σ' H' => ∃ (y1 : Netmodel_names) (y2 : List zAd) (w_k1 : Value) (G' : GM), (.inr (y1, y2)) = q154 /\ Ow G' H' (eVar b2 29 T_Network p0 :: eVar b1 97 z00 (y1, w_k1) :: eSl w_k1 9 rS y2 :: L) /\ GM.le G145 G') ?_ ?_
 .refine .block (AW.loop (α := Nat) (fun k' σ' H' => ∃ (y1 : Netmodel_names) (y2 : List zAd) (y3 : Int) (w_k1 : Value) (G' : GM), z0c K p0 k' y1 y2 y3 = some q154 /\ Ow G' H' (eVar b2 29 T_Network p0 :: eVar b1 97 z00 (y1, w_k1) :: eSl w_k1 9 rS y2 :: L) /\ GM.le G145 G' /\ σ' 54 = .int .i64 y3) (fun k' => k') K ⟨x140, x141, 0, w149, _, h155, O146, (zAf _), rfl⟩ ?_)
  rintro k157
  rintro σ161 H162 fr163 ⟨x158, x159, x160, w168, G164, h167, O165, s166, t169⟩
  rcases k157 with _ | k157
  .exact z06 h167
  rw [z0c] at h167
  refine .seq (.region (W.q3 (.bool (decide (x160 < (List.length p0.Loads : Int)))) t169 ((fr163 53 rfl).trans rfl) (.nil (.seq (.cond (b := decide (x160 < (List.length p0.Loads : Int))) rfl rfl (fun g170 => ?_) (fun g170 => ?_))))))
  rotate_left
  .have h241 := z11 g170 h167
   refine .exit ?_
   obtain rfl := zAa h241
   exact ⟨x158, x159, w168, _, rfl, O165, s166⟩
  have h171 := z01 g170 h167
  refine .skip (.seq (.block (.seq (.region ?_))))
  obtain ⟨x172, i173, h174⟩ := z03 h171
  have j175 := z0v i173
  refine W.pure (v := (z2z w151 (Int.toNat x160 * 3))) rfl rfl (z3i el26 sz41 (oo rfl ((fr163 52 rfl).trans rfl)) (oo rfl t169) (z0f (RT.mono _ s166 f153)) j175.1 j175.2.1) ?_
  obtain ⟨c176, p177, f178⟩ := (At.le (At.le (z1q f153 j175.2.2) s166 s166) (zAf _) O165.fro)
  refine W.loadA (cs := c176) rfl rfl ag41 sz41 (z0g rfl p177) (RT.len _ f178) (W.lo rfl rfl (Lo.alloc (r := T_Load_) (x0 := (Load_.mk ByteArray.empty ByteArray.empty 0)) ze41 (by kernel_rfl) z9u O165) ?_)
  rintro v182 H183 ⟨b180, rfl, O179, sm181⟩
  refine W.lo rfl rfl (Lo.storeVar (j := 0) (s := T_Load_) (y0 := x172) (v := (.agg (List.toArray c176))) (o := 0) rfl ((Put.at (Put.self _) _ _)) rfl sz41 rfl (by omega) rfl f178 O179) ?_
  rintro v186 H187 ⟨O184, sm185⟩
  refine .nil (.seq (.seq (.region ?_)))
  obtain ⟨c188, p189, f190⟩ := (O184.atVar (j := 1) rfl)
  refine W.loadA (cs := c188) rfl rfl ag29 sz29 (z0g ((fr163 2 rfl).trans ((fr144 2 rfl).trans rfl)) p189) (RT.len _ f190) (W.q2 (.pointer (some ⟨b1, 0, none⟩)) ((fr163 1 rfl).trans ((fr144 1 rfl).trans rfl)) (W.pure (v := (padd (.pointer (some ⟨b180, 0, none⟩)) 0)) rfl rfl (z04 zfh (oo rfl rfl) (O184.atVar (j := 0) rfl)) (W.load1 (v := (.string x172.Name)) (r := []) rfl rfl ag9 (z0g rfl (At.str (At.proj (O184.atVar (j := 0) rfl) z6s))) (W.pure (v := (padd (.pointer (some ⟨b180, 0, none⟩)) 1)) rfl rfl (z04 zd3 (oo rfl rfl) (O184.atVar (j := 0) rfl)) (W.load1 (v := (.string x172.Node)) (r := []) rfl rfl ag9 (z0g rfl (At.str (At.proj (O184.atVar (j := 0) rfl) z47))) (W.lo rfl rfl (Lo.buildSlice (r := rS) (vs := [(.string x172.Node)]) (xs := [x172.Node]) el22 ze9 sz9 (by kernel_rfl) rfl (qc rfl qn) rfl (.cons rfl .nil) O184) ?_))))))
  rintro v193 H194 ⟨O191, sm192⟩
  obtain ⟨G195, O196, s197, f198⟩ := O191.frzSl (j := 0) rfl
  have O199 : Ow G195 H194 (eVar b2 29 T_Network p0 :: eVar b180 41 T_Load_ x172 :: eVar b1 97 z00 (x158, w168) :: eSl w168 9 rS x159 :: L) := O196.front (j := 1) rfl
  have O200 : Ow G195 H194 (eVar b180 41 T_Load_ x172 :: eVar b2 29 T_Network p0 :: eVar b1 97 z00 (x158, w168) :: eSl w168 9 rS x159 :: L) := O199.front (j := 1) rfl
  have O201 : Ow G195 H194 (eSl w168 9 rS x159 :: eVar b180 41 T_Load_ x172 :: eVar b2 29 T_Network p0 :: eVar b1 97 z00 (x158, w168) :: L) := O200.front (j := 3) rfl
  have O202 : Ow G195 H194 (eVar b1 97 z00 (x158, w168) :: eSl w168 9 rS x159 :: eVar b180 41 T_Load_ x172 :: eVar b2 29 T_Network p0 :: L) := O201.front (j := 3) rfl
  obtain ⟨x203, i204, h205⟩ := z03 h174
  refine W.lo rfl rfl (Lo.callPF (ps := [eVar b1 97 z00 (x158, w168), eSl w168 9 rS x159]) (pw := fun w => [eVar b1 97 z00 (x203.2, w), eSl w 9 rS x203.2.l]) rfl (fn := Tryz.f38) (by kernel_rfl) rfl (mc rfl (mc rfl (mc rfl (mc rfl mn)))) O202 (fun L' O' => z1n K c188 p0 (RT.mono _ s197 f190) b1 w168 (Netmodel_names.mk x159) x172.Name v193 [x172.Node] f198 O' _ i204)) ?_
  rintro v212 H213 ⟨w210, G206, O207, s208, sm211, rfl⟩
  refine W.q1 (.int .i64 x203.1) rfl (.nil (.seq (.region (W.q2 (.int .i64 x203.1) rfl (W.q3 (.bool (x203.1 != 0)) rfl rfl (.nil ?_))))))
  refine .cond (b := (x203.1 != 0)) rfl rfl (fun g214 => ?_) (fun g214 => ?_)
  .have h215 := z01 g214 h205
   refine .seq (.region (W.q2 (.int .i64 x203.1) rfl (W.q1 (.int .i64 x203.1) rfl (.nil (.ret ?_)))))
   have O216 : Ow G206 H213 (eVar b1 97 z00 (x203.2, w210) :: eSl w210 9 rS x203.2.l :: eVar b2 29 T_Network p0 :: L) := O207.drop 2
   have O217 : Ow G206 H213 (eVar b1 97 z00 (x203.2, w210) :: eSl w210 9 rS x203.2.l :: L) := O216.drop 2
   obtain rfl := zAa h215
   have h218 := z3b (z36 h156)
   obtain rfl := zAa h218
   exact z4w kr w210 (v1 := (.int .i64 x203.1)) (by rfl) (z0w (by rfl) (by exact rfl)) O217 (zAe s147 (zAe s166 (zAe s197 s208))) rfl
  have h219 := z11 g214 h205
  refine .skip (.seq (.region (W.pure (v := (padd (.pointer (some ⟨b180, 0, none⟩)) 2)) rfl rfl (z04 zd4 (oo rfl rfl) (O207.atVar (j := 2) rfl)) (W.load1 (v := (.int .i64 x172.Demand)) (r := []) rfl rfl ag3 (z0g rfl (At.int (At.proj (O207.atVar (j := 2) rfl) z3k))) ?_))))
  obtain ⟨x220, i221, h222⟩ := z03 h219
  refine W.lo rfl rfl (Lo.cP rfl (fn := Tryz.f68) (by kernel_rfl) rfl (mc rfl (mc rfl (mc rfl mn))) O207 (fun L' O' => z07 K x172.Demand 0 100000 O' _ i221)) ?_
  rintro v229 H230 ⟨G223, O224, s225, sm228, rfl⟩
  refine W.pure (v := (.bool (!x220))) rfl rfl (z13 (a := x220) (oo rfl rfl)) (.nil (.cond (b := (!x220)) rfl rfl (fun g231 => ?_) (fun g231 => ?_)))
  .have h232 := z01 g231 h222
   refine .seq (.region (W.q1 (.int .i64 4) rfl (.nil (.ret ?_))))
   have O233 : Ow G223 H230 (eVar b1 97 z00 (x203.2, w210) :: eSl w210 9 rS x203.2.l :: eVar b2 29 T_Network p0 :: L) := O224.drop 2
   have O234 : Ow G223 H230 (eVar b1 97 z00 (x203.2, w210) :: eSl w210 9 rS x203.2.l :: L) := O233.drop 2
   obtain rfl := zAa h232
   have h235 := z3b (z36 h156)
   obtain rfl := zAa h235
   exact z4w kr w210 (v1 := (.int .i64 4)) (by rfl) (z0w (by rfl) (by exact rfl)) O234 (zAe s147 (zAe s166 (zAe s197 (zAe s208 s225)))) rfl
  have h236 := z11 g231 h222
  refine .skip (.region (W.q3 (.int .i64 (z0n .i64 (x160 + 1))) t169 rfl (W.q2 (.int .i64 (z0n .i64 (x160 + 1))) rfl (.nil ?_))))
  have O237 : Ow G223 H230 (eVar b1 97 z00 (x203.2, w210) :: eSl w210 9 rS x203.2.l :: eVar b2 29 T_Network p0 :: L) := O224.drop 2
  have O238 : Ow G223 H230 (eSl w210 9 rS x203.2.l :: eVar b1 97 z00 (x203.2, w210) :: eVar b2 29 T_Network p0 :: L) := O237.front (j := 1) rfl
  have O239 : Ow G223 H230 (eVar b1 97 z00 (x203.2, w210) :: eSl w210 9 rS x203.2.l :: eVar b2 29 T_Network p0 :: L) := O238.front (j := 1) rfl
  have O240 : Ow G223 H230 (eVar b2 29 T_Network p0 :: eVar b1 97 z00 (x203.2, w210) :: eSl w210 9 rS x203.2.l :: L) := O239.front (j := 2) rfl
  exact ⟨k157, zAg _, ⟨x203.2, x203.2.l, z0n .i64 (x160 + 1), w210, _, h236, O240, (zAe s166 (zAe s197 (zAe s208 s225))), rfl⟩⟩
 rintro σ244 H245 fr246 ⟨x242, x243, w251, G247, rfl, O248, s249⟩
 have h252 := z3b (z4d h156)
 refine .seq (.seq (.region (W.pure (v := (padd (.pointer (some ⟨b2, 0, none⟩)) 5)) rfl rfl (z04 z7y (oo rfl ((fr246 2 rfl).trans ((fr144 2 rfl).trans rfl))) (O248.atVar (j := 0) rfl)) ?_)))
 obtain ⟨w253, p254, f255⟩ := At.sl (At.proj (O248.atVar (j := 0) rfl) z19)
 refine W.load1 (v := w253) (r := []) rfl rfl ag27 (z0g rfl p254) (W.pure (v := (.int .i64 (List.length p0.Stores : Int))) rfl rfl (z1g (oo rfl rfl) (z0f f255) (z02 el27)) (W.q2 (.int .i64 0) rfl (.nil ?_)))
 obtain ⟨q256, h257, h258⟩ := z1o h252
 refine AW.midT (fun σ' H' => ∃ (y1 : Netmodel_names) (y2 : List zAd) (w_k1 : Value) (G' : GM), (.inr (y1, y2)) = q256 /\ Ow G' H' (eVar b2 29 T_Network p0 :: eVar b1 97 z00 (y1, w_k1) :: eSl w_k1 9 rS y2 :: L) /\ GM.le G247 G') ?_ ?_
 rotate_left
 .rintro σ389 H390 fr391 ⟨x387, x388, w396, G392, rfl, O393, s394⟩
  have h397 := z3b (z4d h258)
  refine .seq (.region (W.q1 (.int .i64 0) rfl (.nil (.ret ?_))))
  have O398 : Ow G392 H390 (eVar b1 97 z00 (x387, w396) :: eSl w396 9 rS x388 :: L) := O393.drop 0
  obtain rfl := zAa h397
  exact z4w kr w396 (v1 := (.int .i64 0)) (by rfl) (z0w (by rfl) (by exact rfl)) O398 (zAe s147 (zAe s249 s394)) rfl
 refine .block (AW.loop (α := Nat) (fun k' σ' H' => ∃ (y1 : Netmodel_names) (y2 : List zAd) (y3 : Int) (w_k1 : Value) (G' : GM), z0d K p0 k' y1 y2 y3 = some q256 /\ Ow G' H' (eVar b2 29 T_Network p0 :: eVar b1 97 z00 (y1, w_k1) :: eSl w_k1 9 rS y2 :: L) /\ GM.le G247 G' /\ σ' 77 = .int .i64 y3) (fun k' => k') K ⟨x242, x243, 0, w251, _, h257, O248, (zAf _), rfl⟩ ?_)
 rintro k259
 rintro σ263 H264 fr265 ⟨x260, x261, x262, w270, G266, h269, O267, s268, t271⟩
 rcases k259 with _ | k259
 .exact z06 h269
 rw [z0d] at h269
 refine .seq (.region (W.q3 (.bool (decide (x262 < (List.length p0.Stores : Int)))) t271 ((fr265 76 rfl).trans rfl) (.nil (.seq (.cond (b := decide (x262 < (List.length p0.Stores : Int))) rfl rfl (fun g272 => ?_) (fun g272 => ?_))))))
 rotate_left
 .have h386 := z11 g272 h269
  refine .exit ?_
  obtain rfl := zAa h386
  exact ⟨x260, x261, w270, _, rfl, O267, s268⟩
 have h273 := z01 g272 h269
 refine .skip (.seq (.block (.seq (.region ?_))))
 obtain ⟨x274, i275, h276⟩ := z03 h273
 have j277 := z0v i275
 refine W.pure (v := (z2z w253 (Int.toNat x262 * 5))) rfl rfl (z3i el27 sz39 (oo rfl ((fr265 75 rfl).trans rfl)) (oo rfl t271) (z0f (RT.mono _ s268 f255)) j277.1 j277.2.1) ?_
 obtain ⟨c278, p279, f280⟩ := (At.le (At.le (z1q f255 j277.2.2) s268 s268) (zAf _) O267.fro)
 refine W.loadA (cs := c278) rfl rfl ag39 sz39 (z0g rfl p279) (RT.len _ f280) (W.lo rfl rfl (Lo.alloc (r := T_Store) (x0 := (Store.mk ByteArray.empty ByteArray.empty 0 0 0)) ze39 (by kernel_rfl) z8m O267) ?_)
 rintro v284 H285 ⟨b282, rfl, O281, sm283⟩
 refine W.lo rfl rfl (Lo.storeVar (j := 0) (s := T_Store) (y0 := x274) (v := (.agg (List.toArray c278))) (o := 0) rfl ((Put.at (Put.self _) _ _)) rfl sz39 rfl (by omega) rfl f280 O281) ?_
 rintro v288 H289 ⟨O286, sm287⟩
 refine .nil (.seq (.seq (.region ?_)))
 obtain ⟨c290, p291, f292⟩ := (O286.atVar (j := 1) rfl)
 refine W.loadA (cs := c290) rfl rfl ag29 sz29 (z0g ((fr265 2 rfl).trans ((fr246 2 rfl).trans ((fr144 2 rfl).trans rfl))) p291) (RT.len _ f292) (W.q2 (.pointer (some ⟨b1, 0, none⟩)) ((fr265 1 rfl).trans ((fr246 1 rfl).trans ((fr144 1 rfl).trans rfl))) (W.pure (v := (padd (.pointer (some ⟨b282, 0, none⟩)) 0)) rfl rfl (z04 zff (oo rfl rfl) (O286.atVar (j := 0) rfl)) (W.load1 (v := (.string x274.Name)) (r := []) rfl rfl ag9 (z0g rfl (At.str (At.proj (O286.atVar (j := 0) rfl) z6t))) (W.pure (v := (padd (.pointer (some ⟨b282, 0, none⟩)) 1)) rfl rfl (z04 zd0 (oo rfl rfl) (O286.atVar (j := 0) rfl)) (W.load1 (v := (.string x274.Node)) (r := []) rfl rfl ag9 (z0g rfl (At.str (At.proj (O286.atVar (j := 0) rfl) z48))) (W.lo rfl rfl (Lo.buildSlice (r := rS) (vs := [(.string x274.Node)]) (xs := [x274.Node]) el22 ze9 sz9 (by kernel_rfl) rfl (qc rfl qn) rfl (.cons rfl .nil) O286) ?_))))))
 rintro v295 H296 ⟨O293, sm294⟩
 obtain ⟨G297, O298, s299, f300⟩ := O293.frzSl (j := 0) rfl
 have O301 : Ow G297 H296 (eVar b2 29 T_Network p0 :: eVar b282 39 T_Store x274 :: eVar b1 97 z00 (x260, w270) :: eSl w270 9 rS x261 :: L) := O298.front (j := 1) rfl
 have O302 : Ow G297 H296 (eVar b282 39 T_Store x274 :: eVar b2 29 T_Network p0 :: eVar b1 97 z00 (x260, w270) :: eSl w270 9 rS x261 :: L) := O301.front (j := 1) rfl
 have O303 : Ow G297 H296 (eSl w270 9 rS x261 :: eVar b282 39 T_Store x274 :: eVar b2 29 T_Network p0 :: eVar b1 97 z00 (x260, w270) :: L) := O302.front (j := 3) rfl
 have O304 : Ow G297 H296 (eVar b1 97 z00 (x260, w270) :: eSl w270 9 rS x261 :: eVar b282 39 T_Store x274 :: eVar b2 29 T_Network p0 :: L) := O303.front (j := 3) rfl
 obtain ⟨x305, i306, h307⟩ := z03 h276
 refine W.lo rfl rfl (Lo.callPF (ps := [eVar b1 97 z00 (x260, w270), eSl w270 9 rS x261]) (pw := fun w => [eVar b1 97 z00 (x305.2, w), eSl w 9 rS x305.2.l]) rfl (fn := Tryz.f38) (by kernel_rfl) rfl (mc rfl (mc rfl (mc rfl (mc rfl mn)))) O304 (fun L' O' => z1n K c290 p0 (RT.mono _ s299 f292) b1 w270 (Netmodel_names.mk x261) x274.Name v295 [x274.Node] f300 O' _ i306)) ?_
 rintro v314 H315 ⟨w312, G308, O309, s310, sm313, rfl⟩
 refine W.q1 (.int .i64 x305.1) rfl (.nil (.seq (.region (W.q2 (.int .i64 x305.1) rfl (W.q3 (.bool (x305.1 != 0)) rfl rfl (.nil ?_))))))
 refine .cond (b := (x305.1 != 0)) rfl rfl (fun g316 => ?_) (fun g316 => ?_)
 .have h317 := z01 g316 h307
  refine .seq (.region (W.q2 (.int .i64 x305.1) rfl (W.q1 (.int .i64 x305.1) rfl (.nil (.ret ?_)))))
  have O318 : Ow G308 H315 (eVar b1 97 z00 (x305.2, w312) :: eSl w312 9 rS x305.2.l :: eVar b2 29 T_Network p0 :: L) := O309.drop 2
  have O319 : Ow G308 H315 (eVar b1 97 z00 (x305.2, w312) :: eSl w312 9 rS x305.2.l :: L) := O318.drop 2
  obtain rfl := zAa h317
  have h320 := z3b (z36 h258)
  obtain rfl := zAa h320
  exact z4w kr w312 (v1 := (.int .i64 x305.1)) (by rfl) (z0w (by rfl) (by exact rfl)) O319 (zAe s147 (zAe s249 (zAe s268 (zAe s299 s310)))) rfl
 have h321 := z11 g316 h307
 refine .skip (.seq ?_)
 obtain ⟨q322, h323, h324⟩ := z03 h321
 refine AW.midT (fun σ' H' => ∃ (y1 : Bool) (G' : GM), y1 = q322 /\ Ow G' H' (eVar b1 97 z00 (x305.2, w312) :: eSl w312 9 rS x305.2.l :: eVar b282 39 T_Store x274 :: eVar b2 29 T_Network p0 :: L) /\ GM.le G308 G' /\ σ' 107 = .bool y1) ?_ ?_
 rotate_left
 .rintro σ367 H368 fr369 ⟨x366, G370, rfl, O371, s372, t374⟩
  have h375 := z08 h324
  refine .cond (b := x366) rfl t374 (fun g376 => ?_) (fun g376 => ?_)
  .have h377 := z01 g376 h375
   refine .seq (.region (W.q1 (.int .i64 4) rfl (.nil (.ret ?_))))
   have O378 : Ow G370 H368 (eVar b1 97 z00 (x305.2, w312) :: eSl w312 9 rS x305.2.l :: eVar b2 29 T_Network p0 :: L) := O371.drop 2
   have O379 : Ow G370 H368 (eVar b1 97 z00 (x305.2, w312) :: eSl w312 9 rS x305.2.l :: L) := O378.drop 2
   obtain rfl := zAa h377
   have h380 := z3b (z36 h258)
   obtain rfl := zAa h380
   exact z4w kr w312 (v1 := (.int .i64 4)) (by rfl) (z0w (by rfl) (by exact rfl)) O379 (zAe s147 (zAe s249 (zAe s268 (zAe s299 (zAe s310 s372))))) rfl
  have h381 := z11 g376 h375
  refine .skip (.region (W.q3 (.int .i64 (z0n .i64 (x262 + 1))) ((fr369 77 rfl).trans t271) rfl (W.q2 (.int .i64 (z0n .i64 (x262 + 1))) rfl (.nil ?_))))
  have O382 : Ow G370 H368 (eVar b1 97 z00 (x305.2, w312) :: eSl w312 9 rS x305.2.l :: eVar b2 29 T_Network p0 :: L) := O371.drop 2
  have O383 : Ow G370 H368 (eSl w312 9 rS x305.2.l :: eVar b1 97 z00 (x305.2, w312) :: eVar b2 29 T_Network p0 :: L) := O382.front (j := 1) rfl
  have O384 : Ow G370 H368 (eVar b1 97 z00 (x305.2, w312) :: eSl w312 9 rS x305.2.l :: eVar b2 29 T_Network p0 :: L) := O383.front (j := 1) rfl
  have O385 : Ow G370 H368 (eVar b2 29 T_Network p0 :: eVar b1 97 z00 (x305.2, w312) :: eSl w312 9 rS x305.2.l :: L) := O384.front (j := 2) rfl
  exact ⟨k259, zAg _, ⟨x305.2, x305.2.l, z0n .i64 (x262 + 1), w312, _, h381, O385, (zAe s268 (zAe s299 (zAe s310 s372))), rfl⟩⟩
 refine .region (W.pure (v := (padd (.pointer (some ⟨b282, 0, none⟩)) 2)) rfl rfl (z04 zd1 (oo rfl rfl) (O309.atVar (j := 2) rfl)) (W.load1 (v := (.int .i64 x274.Charge)) (r := []) rfl rfl ag3 (z0g rfl (At.int (At.proj (O309.atVar (j := 2) rfl) z3l))) ?_))
 obtain ⟨x325, i326, h327⟩ := z03 h323
 refine W.lo rfl rfl (Lo.cP rfl (fn := Tryz.f68) (by kernel_rfl) rfl (mc rfl (mc rfl (mc rfl mn))) O309 (fun L' O' => z07 K x274.Charge 0 100000 O' _ i326)) ?_
 rintro v334 H335 ⟨G328, O329, s330, sm333, rfl⟩
 refine W.pure (v := (.bool (!x325))) rfl rfl (z13 (a := x325) (oo rfl rfl)) (W.q2 (.bool (!x325)) rfl (W.splitAt (t := 96) (b := (!x325)) rfl (fun g336 gv337 => ?_) (fun g336 gv337 => ?_)))
 .have h338 := z01 g336 h327
  refine W.q6 rfl gv337 (W.q6 rfl gv337 (W.q6 rfl gv337 (W.q6 rfl gv337 (W.q4 (.bool true) gv337 rfl (W.q2 (.bool true) rfl (W.q6 rfl rfl ?_))))))
  refine W.q6 rfl rfl (W.q6 rfl rfl (W.q6 rfl rfl (W.q4 (.bool true) rfl rfl (.nil ?_))))
  obtain rfl := zAa h338
  exact ⟨true, _, rfl, O329, s330, rfl⟩
 have h339 := z11 g336 h327
 refine W.pure (v := (padd (.pointer (some ⟨b282, 0, none⟩)) 3)) (gk rfl rfl gv337 rfl) rfl (z04 zd2 (oo rfl rfl) (O329.atVar (j := 2) rfl)) (W.load1 (v := (.int .i64 x274.Discharge)) (r := []) (gk rfl rfl gv337 rfl) rfl ag3 (z0g rfl (At.int (At.proj (O329.atVar (j := 2) rfl) z2m))) ?_)
 obtain ⟨x340, i341, h342⟩ := z03 h339
 refine W.lo (gk rfl rfl gv337 rfl) rfl (Lo.cP rfl (fn := Tryz.f68) (by kernel_rfl) rfl (mc rfl (mc rfl (mc rfl mn))) O329 (fun L' O' => z07 K x274.Discharge 0 100000 O' _ i341)) ?_
 rintro v349 H350 ⟨G343, O344, s345, sm348, rfl⟩
 refine W.pure (v := (.bool (!x340))) (gk rfl rfl gv337 rfl) rfl (z13 (a := x340) (oo rfl rfl)) (W.q5 (.bool (!x340)) gv337 rfl (W.q2 (.bool (!x340)) rfl (W.splitAt (t := 102) (b := (!x340)) rfl (fun g351 gv352 => ?_) (fun g351 gv352 => ?_))))
 .have h353 := z01 g351 h342
  refine W.q6 rfl gv352 (W.q6 rfl gv352 (W.q6 rfl gv352 (W.q6 rfl gv352 (W.q4 (.bool true) gv352 rfl (.nil ?_)))))
  obtain rfl := zAa h353
  exact ⟨true, _, rfl, O344, (zAe s330 s345), rfl⟩
 have h354 := z11 g351 h342
 refine W.pure (v := (padd (.pointer (some ⟨b282, 0, none⟩)) 4)) (gk rfl rfl gv352 rfl) rfl (z04 zfg (oo rfl rfl) (O344.atVar (j := 2) rfl)) (W.load1 (v := (.int .i64 x274.Capacity)) (r := []) (gk rfl rfl gv352 rfl) rfl ag3 (z0g rfl (At.int (At.proj (O344.atVar (j := 2) rfl) z4m))) ?_)
 obtain ⟨x355, i356, h357⟩ := z03 h354
 refine W.lo (gk rfl rfl gv352 rfl) rfl (Lo.cP rfl (fn := Tryz.f68) (by kernel_rfl) rfl (mc rfl (mc rfl (mc rfl mn))) O344 (fun L' O' => z07 K x274.Capacity 0 100000 O' _ i356)) ?_
 rintro v364 H365 ⟨G358, O359, s360, sm363, rfl⟩
 refine W.pure (v := (.bool (!x355))) (gk rfl rfl gv352 rfl) rfl (z13 (a := x355) (oo rfl rfl)) (W.q5 (.bool (!x355)) gv352 rfl (.nil ?_))
 obtain rfl := zAa h357
 exact ⟨(!x355), _, rfl, O359, (zAe s330 (zAe s345 s360)), rfl⟩
def z0j (K : Nat) (p0 : Network) : Nat -> Netmodel_names -> List zAd -> Int -> Option (Int ⊕ (Netmodel_names × List zAd))
  | 0, _, _, _ => none
  | k + 1, x37, x38, x39 => (if (decide (x39 < (List.length p0.Nodes : Int))) = true then ((idx p0.Nodes x39).bind fun x51 => ((z1f K (Netmodel_names.mk x38) x51).bind fun x55 => (if (x55.1 != 0) = true then some (.inl x55.1) else z0j K p0 k x55.2 x55.2.l (z0n .i64 (x39 + 1))))) else some (.inr (x37, x38)))
def z0k (K : Nat) (p0 : Network) : Nat -> Netmodel_names -> List zAd -> Int -> Option (Int ⊕ (Netmodel_names × List zAd))
  | 0, _, _, _ => none
  | k + 1, x92, x93, x94 => (if (decide (x94 < (List.length p0.Switches : Int))) = true then ((idx p0.Switches x94).bind fun x106 => ((z15 K p0 (Netmodel_names.mk x93) x106.Name [x106.A, x106.B]).bind fun x137 => (if (x137.1 != 0) = true then some (.inl x137.1) else (if (sEq x106.A x106.B) = true then some (.inl 3) else z0k K p0 k x137.2 x137.2.l (z0n .i64 (x94 + 1)))))) else some (.inr (x92, x93)))
def z0l (K : Nat) (p0 : Network) : Nat -> Netmodel_names -> List zAd -> Int -> Option (Int ⊕ (Netmodel_names × List zAd))
  | 0, _, _, _ => none
  | k + 1, x184, x185, x186 => (if (decide (x186 < (List.length p0.Branches : Int))) = true then ((idx p0.Branches x186).bind fun x198 => ((z15 K p0 (Netmodel_names.mk x185) x198.Name [x198.From, x198.To]).bind fun x229 => (if (x229.1 != 0) = true then some (.inl x229.1) else (if (sEq x198.From x198.To) = true then some (.inl 3) else ((z23 K x198).bind fun x259 => (if (x259 != 0) = true then some (.inl x259) else z0l K p0 k x229.2 x229.2.l (z0n .i64 (x186 + 1)))))))) else some (.inr (x184, x185)))
def z29 (K : Nat) (p0 : Network) : Option Int := ((z28 K p0).bind fun x9 => (if (x9 != 0) = true then some x9 else (z42 (z0j K p0 K (Netmodel_names.mk ([] : List zAd)) [] 0) (tu1 fun a310 => some a310) (tu2 fun x74 x75 => (z42 (z0k K p0 K x74 x75 0) (tu1 fun a309 => some a309) (tu2 fun x166 x167 => (z42 (z0l K p0 K x166 x167 0) (tu1 fun a308 => some a308) (tu2 fun x280 x281 => ((z20 K p0 (Netmodel_names.mk x281)).bind fun x294 => some x294.1)))))))))
theorem z5m (v0 : List Value) (p0 : Network) (hp0 : T_Network.rep G v0 p0) (O : Ow G H (L)) (r : Int) (h : z29 K p0 = some r) :
    CR Tryz.prog 14 [.agg (List.toArray v0)] G H (L) (fun v G' _ => v = .int .i64 r) := by
 unfold z29 at h
 refine CR.og (n := 90) (fn := Tryz.f14) (by kernel_rfl) rfl rfl fun R kr => (.seq (.region (W.lo rfl rfl (Lo.box (r := T_Network) (x0 := p0) (v := (.agg (List.toArray v0))) rfl rfl hp0 O) ?_)))
 rintro v4 H5 ⟨b2, rfl, O1, sm3⟩
 refine W.q1 (.int .i64 0) rfl (.nil (.seq (.seq (.region ?_))))
 obtain ⟨c6, p7, f8⟩ := (O1.atVar (j := 0) rfl)
 refine W.loadA (cs := c6) rfl rfl ag29 sz29 (z0g rfl p7) (RT.len _ f8) ?_
 obtain ⟨x9, i10, h11⟩ := z03 h
 refine W.lo rfl rfl (Lo.cP rfl (fn := Tryz.f36) (by kernel_rfl) rfl (mc rfl mn) O1 (fun L' O' => z5l K c6 p0 f8 O' _ i10)) ?_
 rintro v18 H19 ⟨G12, O13, s14, sm17, rfl⟩
 refine W.q1 (.int .i64 x9) rfl (.nil (.seq (.region (W.q2 (.int .i64 x9) rfl (W.q3 (.bool (x9 != 0)) rfl rfl (.nil ?_))))))
 refine .cond (b := (x9 != 0)) rfl rfl (fun g20 => ?_) (fun g20 => ?_)
 .have h21 := z01 g20 h11
  refine .seq (.region (W.q2 (.int .i64 x9) rfl (W.q1 (.int .i64 x9) rfl (.nil (.ret ?_)))))
  have O22 : Ow G12 H19 (L) := O13.drop 0
  obtain rfl := zAa h21
  exact z3t kr (v1 := (.int .i64 x9)) (by rfl) (z0w (by rfl) (by exact rfl)) O22 s14 rfl
 have h23 := z11 g20 h11
 refine .skip (.seq (.region ?_))
 have O26 := O13.nilSl 9 rS
 refine W.lo rfl rfl (Lo.alloc (r := z00) (x0 := ((Netmodel_names.mk ([] : List zAd)), .slice none 0 0)) ze97 (by kernel_rfl) (fun G => (zV G)) O26) ?_
 rintro v28 H29 ⟨b25, rfl, O24, sm27⟩
 refine .nil (.seq (.seq (.region (W.pure (v := (padd (.pointer (some ⟨b2, 0, none⟩)) 0)) rfl rfl (z04 z7w (oo rfl rfl) (O24.atVar (j := 2) rfl)) ?_))))
 obtain ⟨w30, p31, f32⟩ := At.sl (At.proj (O24.atVar (j := 2) rfl) z1h)
 refine W.load1 (v := w30) (r := []) rfl rfl ag22 (z0g rfl p31) (W.pure (v := (.int .i64 (List.length p0.Nodes : Int))) rfl rfl (z1g (oo rfl rfl) (z0f f32) (z02 el22)) (W.q2 (.int .i64 0) rfl (.nil ?_)))
 obtain ⟨q33, h34, h35⟩ := z1o h23
 refine AW.midT (fun σ' H' => ∃ (y1 : Netmodel_names) (y2 : List zAd) (w_l4 : Value) (G' : GM), (.inr (y1, y2)) = q33 /\ Ow G' H' (eVar b25 97 z00 (y1, w_l4) :: eSl w_l4 9 rS y2 :: eVar b2 29 T_Network p0 :: L) /\ GM.le G12 G') ?_ ?_
 .refine .block (AW.loop (α := Nat) (fun k' σ' H' => ∃ (y1 : Netmodel_names) (y2 : List zAd) (y3 : Int) (w_l4 : Value) (G' : GM), z0j K p0 k' y1 y2 y3 = some q33 /\ Ow G' H' (eVar b25 97 z00 (y1, w_l4) :: eSl w_l4 9 rS y2 :: eVar b2 29 T_Network p0 :: L) /\ GM.le G12 G' /\ σ' 23 = .int .i64 y3) (fun k' => k') K ⟨(Netmodel_names.mk ([] : List zAd)), [], 0, (.slice none 0 0), _, h34, O24, (zAf _), rfl⟩ ?_)
  rintro k36
  rintro σ40 H41 fr42 ⟨x37, x38, x39, w47, G43, h46, O44, s45, t48⟩
  rcases k36 with _ | k36
  .exact z06 h46
  rw [z0j] at h46
  refine .seq (.region (W.q3 (.bool (decide (x39 < (List.length p0.Nodes : Int)))) t48 ((fr42 22 rfl).trans rfl) (.nil (.seq (.cond (b := decide (x39 < (List.length p0.Nodes : Int))) rfl rfl (fun g49 => ?_) (fun g49 => ?_))))))
  rotate_left
  .have h73 := z11 g49 h46
   refine .exit ?_
   obtain rfl := zAa h73
   exact ⟨x37, x38, w47, _, rfl, O44, s45⟩
  have h50 := z01 g49 h46
  refine .skip (.seq (.block (.seq (.region ?_))))
  obtain ⟨x51, i52, h53⟩ := z03 h50
  have j54 := z0v i52
  refine W.pure (v := (z2z w30 (Int.toNat x39 * 1))) rfl rfl (z3i el22 sz9 (oo rfl ((fr42 21 rfl).trans rfl)) (oo rfl t48) (z0f (RT.mono _ s45 f32)) j54.1 j54.2.1) (W.load1 (v := (.string x51)) (r := []) rfl rfl ag9 (z0g rfl (At.str (At.le (At.le (z1q f32 j54.2.2) s45 s45) (zAf _) O44.fro))) (W.q1 (.string x51) rfl (.nil (.seq (.region (W.q2 (.string x51) rfl ?_))))))
  obtain ⟨x55, i56, h57⟩ := z03 h53
  refine W.lo rfl rfl (Lo.callPF (ps := [eVar b25 97 z00 (x37, w47), eSl w47 9 rS x38]) (pw := fun w => [eVar b25 97 z00 (x55.2, w), eSl w 9 rS x55.2.l]) rfl (fn := Tryz.f37) (by kernel_rfl) rfl (mc ((fr42 4 rfl).trans rfl) (mc rfl mn)) O44 (fun L' O' => z32 K b25 w47 (Netmodel_names.mk x38) x51 O' _ i56)) ?_
  rintro v64 H65 ⟨w62, G58, O59, s60, sm63, rfl⟩
  refine W.q1 (.int .i64 x55.1) rfl (.nil (.seq (.region (W.q2 (.int .i64 x55.1) rfl (W.q3 (.bool (x55.1 != 0)) rfl rfl (.nil ?_))))))
  refine .cond (b := (x55.1 != 0)) rfl rfl (fun g66 => ?_) (fun g66 => ?_)
  rotate_left
  .have h72 := z11 g66 h57
   refine .skip (.region (W.q3 (.int .i64 (z0n .i64 (x39 + 1))) t48 rfl (W.q2 (.int .i64 (z0n .i64 (x39 + 1))) rfl (.nil ?_))))
   exact ⟨k36, zAg _, ⟨x55.2, x55.2.l, z0n .i64 (x39 + 1), w62, _, h72, O59, (zAe s45 s60), rfl⟩⟩
  have h67 := z01 g66 h57
  refine .seq (.region (W.q2 (.int .i64 x55.1) rfl (W.q1 (.int .i64 x55.1) rfl (.nil (.ret ?_)))))
  have O68 : Ow G58 H65 (eSl w62 9 rS x55.2.l :: eVar b2 29 T_Network p0 :: L) := O59.drop 0
  have O69 : Ow G58 H65 (eVar b2 29 T_Network p0 :: L) := O68.drop 0
  have O70 : Ow G58 H65 (L) := O69.drop 0
  obtain rfl := zAa h67
  have h71 := z08 (z36 h35)
  obtain rfl := zAa h71
  exact z3t kr (v1 := (.int .i64 x55.1)) (by rfl) (z0w (by rfl) (by exact rfl)) O70 (zAe s14 (zAe s45 s60)) rfl
 rintro σ76 H77 fr78 ⟨x74, x75, w83, G79, rfl, O80, s81⟩
 have h84 := z3b (z4d h35)
 refine .seq (.seq (.region (W.pure (v := (padd (.pointer (some ⟨b2, 0, none⟩)) 1)) rfl rfl (z04 zcw (oo rfl ((fr78 1 rfl).trans rfl)) (O80.atVar (j := 2) rfl)) ?_)))
 obtain ⟨w85, p86, f87⟩ := At.sl (At.proj (O80.atVar (j := 2) rfl) z2d)
 refine W.load1 (v := w85) (r := []) rfl rfl ag23 (z0g rfl p86) (W.pure (v := (.int .i64 (List.length p0.Switches : Int))) rfl rfl (z1g (oo rfl rfl) (z0f f87) (z02 el23)) (W.q2 (.int .i64 0) rfl (.nil ?_)))
 obtain ⟨q88, h89, h90⟩ := z1o h84
 refine AW.midT (fun σ' H' => ∃ (y1 : Netmodel_names) (y2 : List zAd) (w_l4 : Value) (G' : GM), (.inr (y1, y2)) = q88 /\ Ow G' H' (eVar b25 97 z00 (y1, w_l4) :: eSl w_l4 9 rS y2 :: eVar b2 29 T_Network p0 :: L) /\ GM.le G79 G') ?_ ?_
 .refine .block (AW.loop (α := Nat) (fun k' σ' H' => ∃ (y1 : Netmodel_names) (y2 : List zAd) (y3 : Int) (w_l4 : Value) (G' : GM), z0k K p0 k' y1 y2 y3 = some q88 /\ Ow G' H' (eVar b25 97 z00 (y1, w_l4) :: eSl w_l4 9 rS y2 :: eVar b2 29 T_Network p0 :: L) /\ GM.le G79 G' /\ σ' 36 = .int .i64 y3) (fun k' => k') K ⟨x74, x75, 0, w83, _, h89, O80, (zAf _), rfl⟩ ?_)
  rintro k91
  rintro σ95 H96 fr97 ⟨x92, x93, x94, w102, G98, h101, O99, s100, t103⟩
  rcases k91 with _ | k91
  .exact z06 h101
  rw [z0k] at h101
  refine .seq (.region (W.q3 (.bool (decide (x94 < (List.length p0.Switches : Int)))) t103 ((fr97 35 rfl).trans rfl) (.nil (.seq (.cond (b := decide (x94 < (List.length p0.Switches : Int))) rfl rfl (fun g104 => ?_) (fun g104 => ?_))))))
  rotate_left
  .have h165 := z11 g104 h101
   refine .exit ?_
   obtain rfl := zAa h165
   exact ⟨x92, x93, w102, _, rfl, O99, s100⟩
  have h105 := z01 g104 h101
  refine .skip (.seq (.block (.seq (.region ?_))))
  obtain ⟨x106, i107, h108⟩ := z03 h105
  have j109 := z0v i107
  refine W.pure (v := (z2z w85 (Int.toNat x94 * 5))) rfl rfl (z3i el23 sz67 (oo rfl ((fr97 34 rfl).trans rfl)) (oo rfl t103) (z0f (RT.mono _ s100 f87)) j109.1 j109.2.1) ?_
  obtain ⟨c110, p111, f112⟩ := (At.le (At.le (z1q f87 j109.2.2) s100 s100) (zAf _) O99.fro)
  refine W.loadA (cs := c110) rfl rfl ag67 sz67 (z0g rfl p111) (RT.len _ f112) (W.lo rfl rfl (Lo.alloc (r := T_Switch) (x0 := (Switch.mk ByteArray.empty ByteArray.empty ByteArray.empty false false)) ze67 (by kernel_rfl) zbn O99) ?_)
  rintro v116 H117 ⟨b114, rfl, O113, sm115⟩
  refine W.lo rfl rfl (Lo.storeVar (j := 0) (s := T_Switch) (y0 := x106) (v := (.agg (List.toArray c110))) (o := 0) rfl ((Put.at (Put.self _) _ _)) rfl sz67 rfl (by omega) rfl f112 O113) ?_
  rintro v120 H121 ⟨O118, sm119⟩
  refine .nil (.seq (.seq (.region ?_)))
  obtain ⟨c122, p123, f124⟩ := (O118.atVar (j := 3) rfl)
  refine W.loadA (cs := c122) rfl rfl ag29 sz29 (z0g ((fr97 1 rfl).trans ((fr78 1 rfl).trans rfl)) p123) (RT.len _ f124) (W.pure (v := (padd (.pointer (some ⟨b114, 0, none⟩)) 0)) rfl rfl (z04 zfo (oo rfl rfl) (O118.atVar (j := 0) rfl)) (W.load1 (v := (.string x106.Name)) (r := []) rfl rfl ag9 (z0g rfl (At.str (At.proj (O118.atVar (j := 0) rfl) z60))) (W.pure (v := (padd (.pointer (some ⟨b114, 0, none⟩)) 1)) rfl rfl (z04 ze6 (oo rfl rfl) (O118.atVar (j := 0) rfl)) (W.load1 (v := (.string x106.A)) (r := []) rfl rfl ag9 (z0g rfl (At.str (At.proj (O118.atVar (j := 0) rfl) z6p))) (W.pure (v := (padd (.pointer (some ⟨b114, 0, none⟩)) 2)) rfl rfl (z04 ze7 (oo rfl rfl) (O118.atVar (j := 0) rfl)) (W.load1 (v := (.string x106.B)) (r := []) rfl rfl ag9 (z0g rfl (At.str (At.proj (O118.atVar (j := 0) rfl) z6q))) ?_))))))
  refine W.lo rfl rfl (Lo.buildSlice (r := rS) (vs := [(.string x106.A), (.string x106.B)]) (xs := [x106.A, x106.B]) el22 ze9 sz9 (by kernel_rfl) rfl (qc rfl (qc rfl qn)) rfl (.cons rfl (.cons rfl .nil)) O118) ?_
  rintro v127 H128 ⟨O125, sm126⟩
  obtain ⟨G129, O130, s131, f132⟩ := O125.frzSl (j := 0) rfl
  have O133 : Ow G129 H128 (eVar b2 29 T_Network p0 :: eVar b114 67 T_Switch x106 :: eVar b25 97 z00 (x92, w102) :: eSl w102 9 rS x93 :: L) := O130.front (j := 3) rfl
  have O134 : Ow G129 H128 (eVar b114 67 T_Switch x106 :: eVar b2 29 T_Network p0 :: eVar b25 97 z00 (x92, w102) :: eSl w102 9 rS x93 :: L) := O133.front (j := 1) rfl
  have O135 : Ow G129 H128 (eSl w102 9 rS x93 :: eVar b114 67 T_Switch x106 :: eVar b2 29 T_Network p0 :: eVar b25 97 z00 (x92, w102) :: L) := O134.front (j := 3) rfl
  have O136 : Ow G129 H128 (eVar b25 97 z00 (x92, w102) :: eSl w102 9 rS x93 :: eVar b114 67 T_Switch x106 :: eVar b2 29 T_Network p0 :: L) := O135.front (j := 3) rfl
  obtain ⟨x137, i138, h139⟩ := z03 h108
  refine W.lo rfl rfl (Lo.callPF (ps := [eVar b25 97 z00 (x92, w102), eSl w102 9 rS x93]) (pw := fun w => [eVar b25 97 z00 (x137.2, w), eSl w 9 rS x137.2.l]) rfl (fn := Tryz.f38) (by kernel_rfl) rfl (mc rfl (mc ((fr97 4 rfl).trans ((fr78 4 rfl).trans rfl)) (mc rfl (mc rfl mn)))) O136 (fun L' O' => z1n K c122 p0 (RT.mono _ s131 f124) b25 w102 (Netmodel_names.mk x93) x106.Name v127 [x106.A, x106.B] f132 O' _ i138)) ?_
  rintro v146 H147 ⟨w144, G140, O141, s142, sm145, rfl⟩
  refine W.q1 (.int .i64 x137.1) rfl (.nil (.seq (.region (W.q2 (.int .i64 x137.1) rfl (W.q3 (.bool (x137.1 != 0)) rfl rfl (.nil ?_))))))
  refine .cond (b := (x137.1 != 0)) rfl rfl (fun g148 => ?_) (fun g148 => ?_)
  .have h149 := z01 g148 h139
   refine .seq (.region (W.q2 (.int .i64 x137.1) rfl (W.q1 (.int .i64 x137.1) rfl (.nil (.ret ?_)))))
   have O150 : Ow G140 H147 (eSl w144 9 rS x137.2.l :: eVar b114 67 T_Switch x106 :: eVar b2 29 T_Network p0 :: L) := O141.drop 0
   have O151 : Ow G140 H147 (eVar b114 67 T_Switch x106 :: eVar b2 29 T_Network p0 :: L) := O150.drop 0
   have O152 : Ow G140 H147 (eVar b2 29 T_Network p0 :: L) := O151.drop 0
   have O153 : Ow G140 H147 (L) := O152.drop 0
   obtain rfl := zAa h149
   have h154 := z08 (z36 h90)
   obtain rfl := zAa h154
   exact z3t kr (v1 := (.int .i64 x137.1)) (by rfl) (z0w (by rfl) (by exact rfl)) O153 (zAe s14 (zAe s81 (zAe s100 (zAe s131 s142)))) rfl
  have h155 := z11 g148 h139
  refine .skip (.seq (.region (W.pure (v := (padd (.pointer (some ⟨b114, 0, none⟩)) 1)) rfl rfl (z04 ze6 (oo rfl rfl) (O141.atVar (j := 2) rfl)) (W.load1 (v := (.string x106.A)) (r := []) rfl rfl ag9 (z0g rfl (At.str (At.proj (O141.atVar (j := 2) rfl) z6p))) (W.pure (v := (padd (.pointer (some ⟨b114, 0, none⟩)) 2)) rfl rfl (z04 ze7 (oo rfl rfl) (O141.atVar (j := 2) rfl)) (W.load1 (v := (.string x106.B)) (r := []) rfl rfl ag9 (z0g rfl (At.str (At.proj (O141.atVar (j := 2) rfl) z6q))) ?_))))))
  refine W.pure (v := (.bool (sEq x106.A x106.B))) rfl rfl (z7v (oo rfl rfl) (oo rfl rfl)) (.nil (.cond (b := sEq x106.A x106.B) rfl rfl (fun g156 => ?_) (fun g156 => ?_)))
  rotate_left
  .have h163 := z11 g156 h155
   refine .skip (.region (W.q3 (.int .i64 (z0n .i64 (x94 + 1))) t103 rfl (W.q2 (.int .i64 (z0n .i64 (x94 + 1))) rfl (.nil ?_))))
   have O164 : Ow G140 H147 (eVar b25 97 z00 (x137.2, w144) :: eSl w144 9 rS x137.2.l :: eVar b2 29 T_Network p0 :: L) := O141.drop 2
   exact ⟨k91, zAg _, ⟨x137.2, x137.2.l, z0n .i64 (x94 + 1), w144, _, h163, O164, (zAe s100 (zAe s131 s142)), rfl⟩⟩
  have h157 := z01 g156 h155
  refine .seq (.region (W.q1 (.int .i64 3) rfl (.nil (.ret ?_))))
  have O158 : Ow G140 H147 (eSl w144 9 rS x137.2.l :: eVar b114 67 T_Switch x106 :: eVar b2 29 T_Network p0 :: L) := O141.drop 0
  have O159 : Ow G140 H147 (eVar b114 67 T_Switch x106 :: eVar b2 29 T_Network p0 :: L) := O158.drop 0
  have O160 : Ow G140 H147 (eVar b2 29 T_Network p0 :: L) := O159.drop 0
  have O161 : Ow G140 H147 (L) := O160.drop 0
  obtain rfl := zAa h157
  have h162 := z08 (z36 h90)
  obtain rfl := zAa h162
  exact z3t kr (v1 := (.int .i64 3)) (by rfl) (z0w (by rfl) (by exact rfl)) O161 (zAe s14 (zAe s81 (zAe s100 (zAe s131 s142)))) rfl
 rintro σ168 H169 fr170 ⟨x166, x167, w175, G171, rfl, O172, s173⟩
 have h176 := z3b (z4d h90)
 refine .seq (.seq (.region (W.pure (v := (padd (.pointer (some ⟨b2, 0, none⟩)) 2)) rfl rfl (z04 zcx (oo rfl ((fr170 1 rfl).trans ((fr78 1 rfl).trans rfl))) (O172.atVar (j := 2) rfl)) ?_)))
 obtain ⟨w177, p178, f179⟩ := At.sl (At.proj (O172.atVar (j := 2) rfl) z2e)
 refine W.load1 (v := w177) (r := []) rfl rfl ag24 (z0g rfl p178) (W.pure (v := (.int .i64 (List.length p0.Branches : Int))) rfl rfl (z1g (oo rfl rfl) (z0f f179) (z02 el24)) (W.q2 (.int .i64 0) rfl (.nil ?_)))
 obtain ⟨q180, h181, h182⟩ := z1o h176
 refine AW.midT (fun σ' H' => ∃ (y1 : Netmodel_names) (y2 : List zAd) (w_l4 : Value) (G' : GM), (.inr (y1, y2)) = q180 /\ Ow G' H' (eVar b25 97 z00 (y1, w_l4) :: eSl w_l4 9 rS y2 :: eVar b2 29 T_Network p0 :: L) /\ GM.le G171 G') ?_ ?_
 rotate_left
 .rintro σ282 H283 fr284 ⟨x280, x281, w289, G285, rfl, O286, s287⟩
  have h290 := z3b (z4d h182)
  refine .seq (.region ?_)
  obtain ⟨c291, p292, f293⟩ := (O286.atVar (j := 2) rfl)
  refine W.loadA (cs := c291) rfl rfl ag29 sz29 (z0g ((fr284 1 rfl).trans ((fr170 1 rfl).trans ((fr78 1 rfl).trans rfl))) p292) (RT.len _ f293) ?_
  obtain ⟨x294, i295, h296⟩ := z03 h290
  refine W.lo rfl rfl (Lo.callPF (ps := [eVar b25 97 z00 (x280, w289), eSl w289 9 rS x281]) (pw := fun w => [eVar b25 97 z00 (x294.2, w), eSl w 9 rS x294.2.l]) rfl (fn := Tryz.f40) (by kernel_rfl) rfl (mc rfl (mc ((fr284 4 rfl).trans ((fr170 4 rfl).trans ((fr78 4 rfl).trans rfl))) mn)) O286 (fun L' O' => z4x K c291 p0 f293 b25 w289 (Netmodel_names.mk x281) O' _ i295)) ?_
  rintro v303 H304 ⟨w301, G297, O298, s299, sm302, rfl⟩
  refine W.q1 (.int .i64 x294.1) rfl (.nil (.ret ?_))
  have O305 : Ow G297 H304 (eSl w301 9 rS x294.2.l :: eVar b2 29 T_Network p0 :: L) := O298.drop 0
  have O306 : Ow G297 H304 (eVar b2 29 T_Network p0 :: L) := O305.drop 0
  have O307 : Ow G297 H304 (L) := O306.drop 0
  obtain rfl := zAa h296
  exact z3t kr (v1 := (.int .i64 x294.1)) (by rfl) (z0w (by rfl) (by exact rfl)) O307 (zAe s14 (zAe s81 (zAe s173 (zAe s287 s299)))) rfl
 refine .block (AW.loop (α := Nat) (fun k' σ' H' => ∃ (y1 : Netmodel_names) (y2 : List zAd) (y3 : Int) (w_l4 : Value) (G' : GM), z0l K p0 k' y1 y2 y3 = some q180 /\ Ow G' H' (eVar b25 97 z00 (y1, w_l4) :: eSl w_l4 9 rS y2 :: eVar b2 29 T_Network p0 :: L) /\ GM.le G171 G' /\ σ' 61 = .int .i64 y3) (fun k' => k') K ⟨x166, x167, 0, w175, _, h181, O172, (zAf _), rfl⟩ ?_)
 rintro k183
 rintro σ187 H188 fr189 ⟨x184, x185, x186, w194, G190, h193, O191, s192, t195⟩
 rcases k183 with _ | k183
 .exact z06 h193
 rw [z0l] at h193
 refine .seq (.region (W.q3 (.bool (decide (x186 < (List.length p0.Branches : Int)))) t195 ((fr189 60 rfl).trans rfl) (.nil (.seq (.cond (b := decide (x186 < (List.length p0.Branches : Int))) rfl rfl (fun g196 => ?_) (fun g196 => ?_))))))
 rotate_left
 .have h279 := z11 g196 h193
  refine .exit ?_
  obtain rfl := zAa h279
  exact ⟨x184, x185, w194, _, rfl, O191, s192⟩
 have h197 := z01 g196 h193
 refine .skip (.seq (.block (.seq (.region ?_))))
 obtain ⟨x198, i199, h200⟩ := z03 h197
 have j201 := z0v i199
 refine W.pure (v := (z2z w177 (Int.toNat x186 * 9))) rfl rfl (z3i el24 sz65 (oo rfl ((fr189 59 rfl).trans rfl)) (oo rfl t195) (z0f (RT.mono _ s192 f179)) j201.1 j201.2.1) ?_
 obtain ⟨c202, p203, f204⟩ := (At.le (At.le (z1q f179 j201.2.2) s192 s192) (zAf _) O191.fro)
 refine W.loadA (cs := c202) rfl rfl ag65 sz65 (z0g rfl p203) (RT.len _ f204) (W.lo rfl rfl (Lo.alloc (r := T_Branch) (x0 := (Branch.mk ByteArray.empty ByteArray.empty ByteArray.empty 0 0 0 0 0 0)) ze65 (by kernel_rfl) zbo O191) ?_)
 rintro v208 H209 ⟨b206, rfl, O205, sm207⟩
 refine W.lo rfl rfl (Lo.storeVar (j := 0) (s := T_Branch) (y0 := x198) (v := (.agg (List.toArray c202))) (o := 0) rfl ((Put.at (Put.self _) _ _)) rfl sz65 rfl (by omega) rfl f204 O205) ?_
 rintro v212 H213 ⟨O210, sm211⟩
 refine .nil (.seq (.seq (.region ?_)))
 obtain ⟨c214, p215, f216⟩ := (O210.atVar (j := 3) rfl)
 refine W.loadA (cs := c214) rfl rfl ag29 sz29 (z0g ((fr189 1 rfl).trans ((fr170 1 rfl).trans ((fr78 1 rfl).trans rfl))) p215) (RT.len _ f216) (W.pure (v := (padd (.pointer (some ⟨b206, 0, none⟩)) 0)) rfl rfl (z04 zfi (oo rfl rfl) (O210.atVar (j := 0) rfl)) (W.load1 (v := (.string x198.Name)) (r := []) rfl rfl ag9 (z0g rfl (At.str (At.proj (O210.atVar (j := 0) rfl) z61))) (W.pure (v := (padd (.pointer (some ⟨b206, 0, none⟩)) 1)) rfl rfl (z04 ze4 (oo rfl rfl) (O210.atVar (j := 0) rfl)) (W.load1 (v := (.string x198.From)) (r := []) rfl rfl ag9 (z0g rfl (At.str (At.proj (O210.atVar (j := 0) rfl) z4l))) (W.pure (v := (padd (.pointer (some ⟨b206, 0, none⟩)) 2)) rfl rfl (z04 ze5 (oo rfl rfl) (O210.atVar (j := 0) rfl)) (W.load1 (v := (.string x198.To)) (r := []) rfl rfl ag9 (z0g rfl (At.str (At.proj (O210.atVar (j := 0) rfl) z5u))) ?_))))))
 refine W.lo rfl rfl (Lo.buildSlice (r := rS) (vs := [(.string x198.From), (.string x198.To)]) (xs := [x198.From, x198.To]) el22 ze9 sz9 (by kernel_rfl) rfl (qc rfl (qc rfl qn)) rfl (.cons rfl (.cons rfl .nil)) O210) ?_
 rintro v219 H220 ⟨O217, sm218⟩
 obtain ⟨G221, O222, s223, f224⟩ := O217.frzSl (j := 0) rfl
 have O225 : Ow G221 H220 (eVar b2 29 T_Network p0 :: eVar b206 65 T_Branch x198 :: eVar b25 97 z00 (x184, w194) :: eSl w194 9 rS x185 :: L) := O222.front (j := 3) rfl
 have O226 : Ow G221 H220 (eVar b206 65 T_Branch x198 :: eVar b2 29 T_Network p0 :: eVar b25 97 z00 (x184, w194) :: eSl w194 9 rS x185 :: L) := O225.front (j := 1) rfl
 have O227 : Ow G221 H220 (eSl w194 9 rS x185 :: eVar b206 65 T_Branch x198 :: eVar b2 29 T_Network p0 :: eVar b25 97 z00 (x184, w194) :: L) := O226.front (j := 3) rfl
 have O228 : Ow G221 H220 (eVar b25 97 z00 (x184, w194) :: eSl w194 9 rS x185 :: eVar b206 65 T_Branch x198 :: eVar b2 29 T_Network p0 :: L) := O227.front (j := 3) rfl
 obtain ⟨x229, i230, h231⟩ := z03 h200
 refine W.lo rfl rfl (Lo.callPF (ps := [eVar b25 97 z00 (x184, w194), eSl w194 9 rS x185]) (pw := fun w => [eVar b25 97 z00 (x229.2, w), eSl w 9 rS x229.2.l]) rfl (fn := Tryz.f38) (by kernel_rfl) rfl (mc rfl (mc ((fr189 4 rfl).trans ((fr170 4 rfl).trans ((fr78 4 rfl).trans rfl))) (mc rfl (mc rfl mn)))) O228 (fun L' O' => z1n K c214 p0 (RT.mono _ s223 f216) b25 w194 (Netmodel_names.mk x185) x198.Name v219 [x198.From, x198.To] f224 O' _ i230)) ?_
 rintro v238 H239 ⟨w236, G232, O233, s234, sm237, rfl⟩
 refine W.q1 (.int .i64 x229.1) rfl (.nil (.seq (.region (W.q2 (.int .i64 x229.1) rfl (W.q3 (.bool (x229.1 != 0)) rfl rfl (.nil ?_))))))
 refine .cond (b := (x229.1 != 0)) rfl rfl (fun g240 => ?_) (fun g240 => ?_)
 .have h241 := z01 g240 h231
  refine .seq (.region (W.q2 (.int .i64 x229.1) rfl (W.q1 (.int .i64 x229.1) rfl (.nil (.ret ?_)))))
  have O242 : Ow G232 H239 (eSl w236 9 rS x229.2.l :: eVar b206 65 T_Branch x198 :: eVar b2 29 T_Network p0 :: L) := O233.drop 0
  have O243 : Ow G232 H239 (eVar b206 65 T_Branch x198 :: eVar b2 29 T_Network p0 :: L) := O242.drop 0
  have O244 : Ow G232 H239 (eVar b2 29 T_Network p0 :: L) := O243.drop 0
  have O245 : Ow G232 H239 (L) := O244.drop 0
  obtain rfl := zAa h241
  have h246 := z08 (z36 h182)
  obtain rfl := zAa h246
  exact z3t kr (v1 := (.int .i64 x229.1)) (by rfl) (z0w (by rfl) (by exact rfl)) O245 (zAe s14 (zAe s81 (zAe s173 (zAe s192 (zAe s223 s234))))) rfl
 have h247 := z11 g240 h231
 refine .skip (.seq (.seq (.region (W.pure (v := (padd (.pointer (some ⟨b206, 0, none⟩)) 1)) rfl rfl (z04 ze4 (oo rfl rfl) (O233.atVar (j := 2) rfl)) (W.load1 (v := (.string x198.From)) (r := []) rfl rfl ag9 (z0g rfl (At.str (At.proj (O233.atVar (j := 2) rfl) z4l))) (W.pure (v := (padd (.pointer (some ⟨b206, 0, none⟩)) 2)) rfl rfl (z04 ze5 (oo rfl rfl) (O233.atVar (j := 2) rfl)) ?_))))))
 refine W.load1 (v := (.string x198.To)) (r := []) rfl rfl ag9 (z0g rfl (At.str (At.proj (O233.atVar (j := 2) rfl) z5u))) (W.pure (v := (.bool (sEq x198.From x198.To))) rfl rfl (z7v (oo rfl rfl) (oo rfl rfl)) (.nil (.cond (b := sEq x198.From x198.To) rfl rfl (fun g248 => ?_) (fun g248 => ?_))))
 .have h249 := z01 g248 h247
  refine .seq (.region (W.q1 (.int .i64 3) rfl (.nil (.ret ?_))))
  have O250 : Ow G232 H239 (eSl w236 9 rS x229.2.l :: eVar b206 65 T_Branch x198 :: eVar b2 29 T_Network p0 :: L) := O233.drop 0
  have O251 : Ow G232 H239 (eVar b206 65 T_Branch x198 :: eVar b2 29 T_Network p0 :: L) := O250.drop 0
  have O252 : Ow G232 H239 (eVar b2 29 T_Network p0 :: L) := O251.drop 0
  have O253 : Ow G232 H239 (L) := O252.drop 0
  obtain rfl := zAa h249
  have h254 := z08 (z36 h182)
  obtain rfl := zAa h254
  exact z3t kr (v1 := (.int .i64 3)) (by rfl) (z0w (by rfl) (by exact rfl)) O253 (zAe s14 (zAe s81 (zAe s173 (zAe s192 (zAe s223 s234))))) rfl
 have h255 := z11 g248 h247
 refine .skip (.seq (.region ?_))
 obtain ⟨c256, p257, f258⟩ := (O233.atVar (j := 2) rfl)
 refine W.loadA (cs := c256) rfl rfl ag65 sz65 (z0g rfl p257) (RT.len _ f258) ?_
 obtain ⟨x259, i260, h261⟩ := z03 h255
 refine W.lo rfl rfl (Lo.cP rfl (fn := Tryz.f39) (by kernel_rfl) rfl (mc rfl mn) O233 (fun L' O' => z54 K c256 x198 f258 O' _ i260)) ?_
 rintro v268 H269 ⟨G262, O263, s264, sm267, rfl⟩
 refine W.q1 (.int .i64 x259) rfl (.nil (.seq (.region (W.q2 (.int .i64 x259) rfl (W.q3 (.bool (x259 != 0)) rfl rfl (.nil ?_))))))
 refine .cond (b := (x259 != 0)) rfl rfl (fun g270 => ?_) (fun g270 => ?_)
 rotate_left
 .have h277 := z11 g270 h261
  refine .skip (.region (W.q3 (.int .i64 (z0n .i64 (x186 + 1))) t195 rfl (W.q2 (.int .i64 (z0n .i64 (x186 + 1))) rfl (.nil ?_))))
  have O278 : Ow G262 H269 (eVar b25 97 z00 (x229.2, w236) :: eSl w236 9 rS x229.2.l :: eVar b2 29 T_Network p0 :: L) := O263.drop 2
  exact ⟨k183, zAg _, ⟨x229.2, x229.2.l, z0n .i64 (x186 + 1), w236, _, h277, O278, (zAe s192 (zAe s223 (zAe s234 s264))), rfl⟩⟩
 have h271 := z01 g270 h261
 refine .seq (.region (W.q2 (.int .i64 x259) rfl (W.q1 (.int .i64 x259) rfl (.nil (.ret ?_)))))
 have O272 : Ow G262 H269 (eSl w236 9 rS x229.2.l :: eVar b206 65 T_Branch x198 :: eVar b2 29 T_Network p0 :: L) := O263.drop 0
 have O273 : Ow G262 H269 (eVar b206 65 T_Branch x198 :: eVar b2 29 T_Network p0 :: L) := O272.drop 0
 have O274 : Ow G262 H269 (eVar b2 29 T_Network p0 :: L) := O273.drop 0
 have O275 : Ow G262 H269 (L) := O274.drop 0
 obtain rfl := zAa h271
 have h276 := z08 (z36 h182)
 obtain rfl := zAa h276
 exact z3t kr (v1 := (.int .i64 x259)) (by rfl) (z0w (by rfl) (by exact rfl)) O275 (zAe s14 (zAe s81 (zAe s173 (zAe s192 (zAe s223 (zAe s234 s264)))))) rfl
def z12 (K : Nat) (p0 : zAd) (p1 : Int) (p2 : Network) : Nat -> List Int -> Int -> Option (List Int)
  | 0, _, _ => none
  | k + 1, x12, x13 => (if (decide (x13 < (List.length p2.Nodes : Int))) = true then (Option.bind (((idx p2.Nodes x13).bind fun x27 => (if (sEq x27 p0) = true then ((idx x12 x13).bind fun x33 => ((idx x12 x13).bind fun x37 => some (List.set x12 (Int.toNat x13) (z0n .i64 (x33 + p1))))) else some x12))) (tu1 fun x46 => z12 K p0 p1 p2 k x46 (z0n .i64 (x13 + 1)))) else some x12)
def z1s (K : Nat) (p0 : zAd) (p1 : Int) (p2 : Network) (p3 : List Int) : Option (List Int) := (Option.bind (z12 K p0 p1 p2 K p3 0) (tu1 fun x56 => some x56))
theorem z37 (p0 : zAd) (p1 : Int) (v2 : Value) (p2 : Network) (hp2 : At G G v2 T_Network p2) (b3 : Nat) (v3 : Value) (p3 : List Int) (O : Ow G H (eVar b3 30 rV v3 :: eSl v3 3 (rI .i64) p3 :: L)) (r : List Int) (h : z1s K p0 p1 p2 p3 = some r) :
    CRF Tryz.prog 15 [(.string p0), (.int .i64 p1), v2, .pointer (some ⟨b3, 0, none⟩)] G H (fun wl => (eVar b3 30 rV wl :: eSl wl 3 (rI .i64) r :: L)) (fun wl v G' => v = .tuple #[]) := by
 unfold z1s at h
 refine CRF.og (n := 27) (fn := Tryz.f15) (by kernel_rfl) rfl rfl fun R kr => (.seq (.region (W.pure (v := (padd v2 0)) rfl rfl (z04 z7w (oo rfl rfl) (At.le hp2 (zAf _) O.fro)) ?_)))
 obtain ⟨w5, p6, f7⟩ := At.sl (At.proj hp2 z1h)
 replace p6 := PtG.le p6 O.fro
 refine W.load1 (v := w5) (r := []) rfl rfl ag22 (z0g rfl p6) (W.pure (v := (.int .i64 (List.length p2.Nodes : Int))) rfl rfl (z1g (oo rfl rfl) (z0f f7) (z02 el22)) (W.q2 (.int .i64 0) rfl (.nil ?_)))
 obtain ⟨q8, h9, h10⟩ := z03 h
 refine AW.midT (fun σ' H' => ∃ (y1 : List Int) (G' : GM), y1 = q8 /\ Ow G' H' (eVar b3 30 rV v3 :: eSl v3 3 (rI .i64) y1 :: L) /\ GM.le G G') ?_ ?_
 rotate_left
 .rintro σ57 H58 fr59 ⟨x56, G60, rfl, O61, s62⟩
  have h64 := z08 h10
  obtain rfl := zAa h64
  exact zgg kr v3  (by rfl)  O61 s62 rfl
 refine .block (AW.loop (α := Nat) (fun k' σ' H' => ∃ (y1 : List Int) (y2 : Int) (G' : GM), z12 K p0 p1 p2 k' y1 y2 = some q8 /\ Ow G' H' (eVar b3 30 rV v3 :: eSl v3 3 (rI .i64) y1 :: L) /\ GM.le G G' /\ σ' 11 = .int .i64 y2) (fun k' => k') K ⟨p3, 0, _, h9, O, (zAf _), rfl⟩ ?_)
 rintro k11
 rintro σ14 H15 fr16 ⟨x12, x13, G17, h20, O18, s19, t21⟩
 rcases k11 with _ | k11
 .exact z06 h20
 rw [z12] at h20
 refine .seq (.region (W.q3 (.bool (decide (x13 < (List.length p2.Nodes : Int)))) t21 ((fr16 10 rfl).trans rfl) (.nil (.seq (.cond (b := decide (x13 < (List.length p2.Nodes : Int))) rfl rfl (fun g22 => ?_) (fun g22 => ?_))))))
 rotate_left
 .have h55 := z11 g22 h20
  refine .exit ?_
  obtain rfl := zAa h55
  exact ⟨x12, _, rfl, O18, s19⟩
 have h23 := z01 g22 h20
 refine .skip (.seq ?_)
 obtain ⟨q24, h25, h26⟩ := z03 h23
 refine AW.midT (fun σ' H' => ∃ (y1 : List Int) (G' : GM), y1 = q24 /\ Ow G' H' (eVar b3 30 rV v3 :: eSl v3 3 (rI .i64) y1 :: L) /\ GM.le G17 G') ?_ ?_
 rotate_left
 .rintro σ47 H48 fr49 ⟨x46, G50, rfl, O51, s52⟩
  have h54 := z08 h26
  refine .region (W.q3 (.int .i64 (z0n .i64 (x13 + 1))) ((fr49 11 rfl).trans t21) rfl (W.q2 (.int .i64 (z0n .i64 (x13 + 1))) rfl (.nil ?_)))
  exact ⟨k11, zAg _, ⟨x46, z0n .i64 (x13 + 1), _, h54, O51, (zAe s19 s52), rfl⟩⟩
 refine .block (.seq (.region (W.q2 _ t21 ?_)))
 obtain ⟨x27, i28, h29⟩ := z03 h25
 have j30 := z0v i28
 refine W.pure (v := (z2z w5 (Int.toNat x13 * 1))) rfl rfl (z3i el22 sz9 (oo rfl ((fr16 9 rfl).trans rfl)) (oo rfl t21) (z0f (RT.mono _ s19 f7)) j30.1 j30.2.1) (W.load1 (v := (.string x27)) (r := []) rfl rfl ag9 (z0g rfl (At.str (At.le (At.le (z1q f7 j30.2.2) s19 s19) (zAf _) O18.fro))) (W.q1 (.int .i64 x13) rfl (W.q1 (.string x27) rfl (.nil (.seq (.region ?_))))))
 refine W.q2 (.string x27) rfl (W.q2 (.string p0) ((fr16 0 rfl).trans rfl) (W.pure (v := (.bool (sEq x27 p0))) rfl rfl (z7v (oo rfl rfl) (oo rfl rfl)) (.nil (.cond (b := sEq x27 p0) rfl rfl (fun g31 => ?_) (fun g31 => ?_)))))
 rotate_left
 .have h45 := z11 g31 h29
  refine .skip ?_
  obtain rfl := zAa h45
  exact ⟨x12, _, rfl, O18, (zAf _)⟩
 have h32 := z01 g31 h29
 refine .region (W.load1 (v := v3) (r := []) rfl rfl ag30 (z0g ((fr16 3 rfl).trans rfl) (At.raw (O18.atVar (j := 0) rfl))) (W.q2 (.int .i64 x13) rfl ?_))
 obtain ⟨x33, i34, h35⟩ := z03 h32
 have j36 := z0v i34
 refine W.pure (v := (z2z v3 (Int.toNat x13 * 1))) rfl rfl (z3i el30 sz3 (oo rfl rfl) (oo rfl rfl) (O18.slLen (j := 1) rfl) j36.1 j36.2.1) (W.load1 (v := (.int .i64 x33)) (r := []) rfl rfl ag3 (z0g rfl (At.int (O18.atSl (j := 1) rfl j36.2.2))) (W.q2 (.int .i64 p1) ((fr16 1 rfl).trans rfl) (W.q3 (.int .i64 (z0n .i64 (x33 + p1))) rfl rfl ?_)))
 obtain ⟨x37, i38, h39⟩ := z03 h35
 have j40 := z0v i38
 refine W.pure (v := (z2z v3 (Int.toNat x13 * 1))) rfl rfl (z3i el30 sz3 (oo rfl rfl) (oo rfl rfl) (O18.slLen (j := 1) rfl) j40.1 j40.2.1) (W.lo rfl rfl (Lo.storeSl0 (j := 1) (y0 := z0n .i64 (x33 + p1)) (v := (.int .i64 (z0n .i64 (x33 + p1)))) rfl j40.2.2  rfl sz3 rfl rfl rfl O18) ?_)
 rintro v43 H44 ⟨O41, sm42⟩
 refine .nil ?_
 obtain rfl := zAa h39
 exact ⟨(List.set x12 (Int.toNat x13) (z0n .i64 (x33 + p1))), _, rfl, O41, (zAf _)⟩
end Go.Am.Tryz
