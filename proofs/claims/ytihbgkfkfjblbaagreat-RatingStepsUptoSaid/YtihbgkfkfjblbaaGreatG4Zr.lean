/- Typed functions with the same answers as the program's, and the walks that show it. -/
import Derived.Test.YtihbgkfkfjblbaaGreatG2Zr
import Derived.Test.YtihbgkfkfjblbaaGreatG3Zr
set_option maxRecDepth 100000
set_option maxHeartbeats 8000000
set_option linter.unusedVariables false
set_option linter.unusedSimpArgs false
namespace Go.Am.Tryz
open Go Go.Am Go.Proofs
variable (K : Nat) {G : GM} {H : AH} {L : List Pc}
structure Switch where
  Name : zAd
  A : zAd
  B : zAd
  Breaker : Bool
  Open : Bool
  deriving DecidableEq, Inhabited
def z1d : RT Switch := rIso (rP rS (rP rS (rP rS (rP rB rB)))) (fun s : Switch => (s.Name, s.A, s.B, s.Breaker, s.Open))
theorem zlk (G : GM) : z1d.rep G ([.string ByteArray.empty] ++ ([.string ByteArray.empty] ++ ([.string ByteArray.empty] ++ ([.bool false] ++ [.bool false])))) ((Switch.mk ByteArray.empty ByteArray.empty ByteArray.empty false false)) := ⟨_, _, rfl, zS G, ⟨_, _, rfl, zS G, ⟨_, _, rfl, zS G, ⟨_, _, rfl, zB G, (zB G)⟩⟩⟩⟩
theorem zc7 : Proj z1d 0 rS (fun x => x.Name) := by
  have h := (Proj.iso (rP rS (rP rS (rP rS (rP rB rB)))) (fun s : Switch => (s.Name, s.A, s.B, s.Breaker, s.Open))).comp (Proj.fst _ _)
  exact h
theorem zd9 : Proj z1d 1 rS (fun x => x.A) := by
  have h := (Proj.iso (rP rS (rP rS (rP rS (rP rB rB)))) (fun s : Switch => (s.Name, s.A, s.B, s.Breaker, s.Open))).comp ((Proj.snd _ _).comp (Proj.fst _ _))
  exact h
theorem zda : Proj z1d 2 rS (fun x => x.B) := by
  have h := (Proj.iso (rP rS (rP rS (rP rS (rP rB rB)))) (fun s : Switch => (s.Name, s.A, s.B, s.Breaker, s.Open))).comp ((Proj.snd _ _).comp ((Proj.snd _ _).comp (Proj.fst _ _)))
  exact h
structure Branch where
  Name : zAd
  From : zAd
  To : zAd
  X : Int
  Tap : Int
  Shift : Int
  Limit : Int
  Short : Int
  Hold : Int
  deriving DecidableEq, Inhabited
def z0d : RT Branch := rIso (rP rS (rP rS (rP rS (rP (rI .i64) (rP (rI .i64) (rP (rI .i64) (rP (rI .i64) (rP (rI .i64) (rI .i64))))))))) (fun s : Branch => (s.Name, s.From, s.To, s.X, s.Tap, s.Shift, s.Limit, s.Short, s.Hold))
theorem zai (G : GM) : z0d.rep G ([.string ByteArray.empty] ++ ([.string ByteArray.empty] ++ ([.string ByteArray.empty] ++ ([.int .i64 0] ++ ([.int .i64 0] ++ ([.int .i64 0] ++ ([.int .i64 0] ++ ([.int .i64 0] ++ [.int .i64 0])))))))) ((Branch.mk ByteArray.empty ByteArray.empty ByteArray.empty 0 0 0 0 0 0)) := ⟨_, _, rfl, zS G, ⟨_, _, rfl, zS G, ⟨_, _, rfl, zS G, ⟨_, _, rfl, (zI .i64) G, ⟨_, _, rfl, (zI .i64) G, ⟨_, _, rfl, (zI .i64) G, ⟨_, _, rfl, (zI .i64) G, ⟨_, _, rfl, (zI .i64) G, ((zI .i64) G)⟩⟩⟩⟩⟩⟩⟩⟩
theorem z5m : Proj z0d 0 rS (fun x => x.Name) := by
  have h := (Proj.iso (rP rS (rP rS (rP rS (rP (rI .i64) (rP (rI .i64) (rP (rI .i64) (rP (rI .i64) (rP (rI .i64) (rI .i64))))))))) (fun s : Branch => (s.Name, s.From, s.To, s.X, s.Tap, s.Shift, s.Limit, s.Short, s.Hold))).comp (Proj.fst _ _)
  exact h
theorem z99 : Proj z0d 1 rS (fun x => x.From) := by
  have h := (Proj.iso (rP rS (rP rS (rP rS (rP (rI .i64) (rP (rI .i64) (rP (rI .i64) (rP (rI .i64) (rP (rI .i64) (rI .i64))))))))) (fun s : Branch => (s.Name, s.From, s.To, s.X, s.Tap, s.Shift, s.Limit, s.Short, s.Hold))).comp ((Proj.snd _ _).comp (Proj.fst _ _))
  exact h
theorem zbs : Proj z0d 2 rS (fun x => x.To) := by
  have h := (Proj.iso (rP rS (rP rS (rP rS (rP (rI .i64) (rP (rI .i64) (rP (rI .i64) (rP (rI .i64) (rP (rI .i64) (rI .i64))))))))) (fun s : Branch => (s.Name, s.From, s.To, s.X, s.Tap, s.Shift, s.Limit, s.Short, s.Hold))).comp ((Proj.snd _ _).comp ((Proj.snd _ _).comp (Proj.fst _ _)))
  exact h
theorem zgr : Proj z0d 3 (rI .i64) (fun x => x.X) := by
  have h := (Proj.iso (rP rS (rP rS (rP rS (rP (rI .i64) (rP (rI .i64) (rP (rI .i64) (rP (rI .i64) (rP (rI .i64) (rI .i64))))))))) (fun s : Branch => (s.Name, s.From, s.To, s.X, s.Tap, s.Shift, s.Limit, s.Short, s.Hold))).comp ((Proj.snd _ _).comp ((Proj.snd _ _).comp ((Proj.snd _ _).comp (Proj.fst _ _))))
  exact h
theorem zdb : Proj z0d 4 (rI .i64) (fun x => x.Tap) := by
  have h := (Proj.iso (rP rS (rP rS (rP rS (rP (rI .i64) (rP (rI .i64) (rP (rI .i64) (rP (rI .i64) (rP (rI .i64) (rI .i64))))))))) (fun s : Branch => (s.Name, s.From, s.To, s.X, s.Tap, s.Shift, s.Limit, s.Short, s.Hold))).comp ((Proj.snd _ _).comp ((Proj.snd _ _).comp ((Proj.snd _ _).comp ((Proj.snd _ _).comp (Proj.fst _ _)))))
  exact h
theorem zb6 : Proj z0d 5 (rI .i64) (fun x => x.Shift) := by
  have h := (Proj.iso (rP rS (rP rS (rP rS (rP (rI .i64) (rP (rI .i64) (rP (rI .i64) (rP (rI .i64) (rP (rI .i64) (rI .i64))))))))) (fun s : Branch => (s.Name, s.From, s.To, s.X, s.Tap, s.Shift, s.Limit, s.Short, s.Hold))).comp ((Proj.snd _ _).comp ((Proj.snd _ _).comp ((Proj.snd _ _).comp ((Proj.snd _ _).comp ((Proj.snd _ _).comp (Proj.fst _ _))))))
  exact h
theorem z4v : Proj z0d 6 (rI .i64) (fun x => x.Limit) := by
  have h := (Proj.iso (rP rS (rP rS (rP rS (rP (rI .i64) (rP (rI .i64) (rP (rI .i64) (rP (rI .i64) (rP (rI .i64) (rI .i64))))))))) (fun s : Branch => (s.Name, s.From, s.To, s.X, s.Tap, s.Shift, s.Limit, s.Short, s.Hold))).comp ((Proj.snd _ _).comp ((Proj.snd _ _).comp ((Proj.snd _ _).comp ((Proj.snd _ _).comp ((Proj.snd _ _).comp ((Proj.snd _ _).comp (Proj.fst _ _)))))))
  exact h
theorem z73 : Proj z0d 7 (rI .i64) (fun x => x.Short) := by
  have h := (Proj.iso (rP rS (rP rS (rP rS (rP (rI .i64) (rP (rI .i64) (rP (rI .i64) (rP (rI .i64) (rP (rI .i64) (rI .i64))))))))) (fun s : Branch => (s.Name, s.From, s.To, s.X, s.Tap, s.Shift, s.Limit, s.Short, s.Hold))).comp ((Proj.snd _ _).comp ((Proj.snd _ _).comp ((Proj.snd _ _).comp ((Proj.snd _ _).comp ((Proj.snd _ _).comp ((Proj.snd _ _).comp ((Proj.snd _ _).comp (Proj.fst _ _))))))))
  exact h
theorem z5n : Proj z0d 8 (rI .i64) (fun x => x.Hold) := by
  have h := (Proj.iso (rP rS (rP rS (rP rS (rP (rI .i64) (rP (rI .i64) (rP (rI .i64) (rP (rI .i64) (rP (rI .i64) (rI .i64))))))))) (fun s : Branch => (s.Name, s.From, s.To, s.X, s.Tap, s.Shift, s.Limit, s.Short, s.Hold))).comp ((Proj.snd _ _).comp ((Proj.snd _ _).comp ((Proj.snd _ _).comp ((Proj.snd _ _).comp ((Proj.snd _ _).comp ((Proj.snd _ _).comp ((Proj.snd _ _).comp ((Proj.snd _ _).comp (Proj.self _)))))))))
  exact h
structure Gen where
  Name : zAd
  Node : zAd
  Least : Int
  Most : Int
  Ramp : Int
  deriving DecidableEq, Inhabited
def z8v : RT Gen := rIso (rP rS (rP rS (rP (rI .i64) (rP (rI .i64) (rI .i64))))) (fun s : Gen => (s.Name, s.Node, s.Least, s.Most, s.Ramp))
theorem zuk (G : GM) : z8v.rep G ([.string ByteArray.empty] ++ ([.string ByteArray.empty] ++ ([.int .i64 0] ++ ([.int .i64 0] ++ [.int .i64 0])))) ((Gen.mk ByteArray.empty ByteArray.empty 0 0 0)) := ⟨_, _, rfl, zS G, ⟨_, _, rfl, zS G, ⟨_, _, rfl, (zI .i64) G, ⟨_, _, rfl, (zI .i64) G, ((zI .i64) G)⟩⟩⟩⟩
theorem zgs : Proj z8v 0 rS (fun x => x.Name) := by
  have h := (Proj.iso (rP rS (rP rS (rP (rI .i64) (rP (rI .i64) (rI .i64))))) (fun s : Gen => (s.Name, s.Node, s.Least, s.Most, s.Ramp))).comp (Proj.fst _ _)
  exact h
theorem zgt : Proj z8v 1 rS (fun x => x.Node) := by
  have h := (Proj.iso (rP rS (rP rS (rP (rI .i64) (rP (rI .i64) (rI .i64))))) (fun s : Gen => (s.Name, s.Node, s.Least, s.Most, s.Ramp))).comp ((Proj.snd _ _).comp (Proj.fst _ _))
  exact h
theorem za0 : Proj z8v 2 (rI .i64) (fun x => x.Least) := by
  have h := (Proj.iso (rP rS (rP rS (rP (rI .i64) (rP (rI .i64) (rI .i64))))) (fun s : Gen => (s.Name, s.Node, s.Least, s.Most, s.Ramp))).comp ((Proj.snd _ _).comp ((Proj.snd _ _).comp (Proj.fst _ _)))
  exact h
theorem zgu : Proj z8v 3 (rI .i64) (fun x => x.Most) := by
  have h := (Proj.iso (rP rS (rP rS (rP (rI .i64) (rP (rI .i64) (rI .i64))))) (fun s : Gen => (s.Name, s.Node, s.Least, s.Most, s.Ramp))).comp ((Proj.snd _ _).comp ((Proj.snd _ _).comp ((Proj.snd _ _).comp (Proj.fst _ _))))
  exact h
theorem zgv : Proj z8v 4 (rI .i64) (fun x => x.Ramp) := by
  have h := (Proj.iso (rP rS (rP rS (rP (rI .i64) (rP (rI .i64) (rI .i64))))) (fun s : Gen => (s.Name, s.Node, s.Least, s.Most, s.Ramp))).comp ((Proj.snd _ _).comp ((Proj.snd _ _).comp ((Proj.snd _ _).comp ((Proj.snd _ _).comp (Proj.self _)))))
  exact h
structure Load_ where
  Name : zAd
  Node : zAd
  Demand : Int
  deriving DecidableEq, Inhabited
def z2p : RT Load_ := rIso (rP rS (rP rS (rI .i64))) (fun s : Load_ => (s.Name, s.Node, s.Demand))
theorem zp5 (G : GM) : z2p.rep G ([.string ByteArray.empty] ++ ([.string ByteArray.empty] ++ [.int .i64 0])) ((Load_.mk ByteArray.empty ByteArray.empty 0)) := ⟨_, _, rfl, zS G, ⟨_, _, rfl, zS G, ((zI .i64) G)⟩⟩
theorem zdc : Proj z2p 0 rS (fun x => x.Name) := by
  have h := (Proj.iso (rP rS (rP rS (rI .i64))) (fun s : Load_ => (s.Name, s.Node, s.Demand))).comp (Proj.fst _ _)
  exact h
theorem zdd : Proj z2p 1 rS (fun x => x.Node) := by
  have h := (Proj.iso (rP rS (rP rS (rI .i64))) (fun s : Load_ => (s.Name, s.Node, s.Demand))).comp ((Proj.snd _ _).comp (Proj.fst _ _))
  exact h
theorem zb7 : Proj z2p 2 (rI .i64) (fun x => x.Demand) := by
  have h := (Proj.iso (rP rS (rP rS (rI .i64))) (fun s : Load_ => (s.Name, s.Node, s.Demand))).comp ((Proj.snd _ _).comp ((Proj.snd _ _).comp (Proj.self _)))
  exact h
structure Store where
  Name : zAd
  Node : zAd
  Charge : Int
  Discharge : Int
  Capacity : Int
  deriving DecidableEq, Inhabited
def z2d : RT Store := rIso (rP rS (rP rS (rP (rI .i64) (rP (rI .i64) (rI .i64))))) (fun s : Store => (s.Name, s.Node, s.Charge, s.Discharge, s.Capacity))
theorem zp6 (G : GM) : z2d.rep G ([.string ByteArray.empty] ++ ([.string ByteArray.empty] ++ ([.int .i64 0] ++ ([.int .i64 0] ++ [.int .i64 0])))) ((Store.mk ByteArray.empty ByteArray.empty 0 0 0)) := ⟨_, _, rfl, zS G, ⟨_, _, rfl, zS G, ⟨_, _, rfl, (zI .i64) G, ⟨_, _, rfl, (zI .i64) G, ((zI .i64) G)⟩⟩⟩⟩
theorem zde : Proj z2d 0 rS (fun x => x.Name) := by
  have h := (Proj.iso (rP rS (rP rS (rP (rI .i64) (rP (rI .i64) (rI .i64))))) (fun s : Store => (s.Name, s.Node, s.Charge, s.Discharge, s.Capacity))).comp (Proj.fst _ _)
  exact h
theorem zdf : Proj z2d 1 rS (fun x => x.Node) := by
  have h := (Proj.iso (rP rS (rP rS (rP (rI .i64) (rP (rI .i64) (rI .i64))))) (fun s : Store => (s.Name, s.Node, s.Charge, s.Discharge, s.Capacity))).comp ((Proj.snd _ _).comp (Proj.fst _ _))
  exact h
theorem zb8 : Proj z2d 2 (rI .i64) (fun x => x.Charge) := by
  have h := (Proj.iso (rP rS (rP rS (rP (rI .i64) (rP (rI .i64) (rI .i64))))) (fun s : Store => (s.Name, s.Node, s.Charge, s.Discharge, s.Capacity))).comp ((Proj.snd _ _).comp ((Proj.snd _ _).comp (Proj.fst _ _)))
  exact h
theorem z8w : Proj z2d 3 (rI .i64) (fun x => x.Discharge) := by
  have h := (Proj.iso (rP rS (rP rS (rP (rI .i64) (rP (rI .i64) (rI .i64))))) (fun s : Store => (s.Name, s.Node, s.Charge, s.Discharge, s.Capacity))).comp ((Proj.snd _ _).comp ((Proj.snd _ _).comp ((Proj.snd _ _).comp (Proj.fst _ _))))
  exact h
theorem z9a : Proj z2d 4 (rI .i64) (fun x => x.Capacity) := by
  have h := (Proj.iso (rP rS (rP rS (rP (rI .i64) (rP (rI .i64) (rI .i64))))) (fun s : Store => (s.Name, s.Node, s.Charge, s.Discharge, s.Capacity))).comp ((Proj.snd _ _).comp ((Proj.snd _ _).comp ((Proj.snd _ _).comp ((Proj.snd _ _).comp (Proj.self _)))))
  exact h
structure Network where
  Nodes : List zAd
  Switches : List Switch
  Branches : List Branch
  Gens : List Gen
  Loads : List Load_
  Stores : List Store
  deriving DecidableEq, Inhabited
def z07 : RT Network := rIso (rP (rSl rS) (rP (rSl z1d) (rP (rSl z0d) (rP (rSl z8v) (rP (rSl z2p) (rSl z2d)))))) (fun s : Network => (s.Nodes, s.Switches, s.Branches, s.Gens, s.Loads, s.Stores))
theorem zfl (G : GM) : z07.rep G ([.slice none 0 0] ++ ([.slice none 0 0] ++ ([.slice none 0 0] ++ ([.slice none 0 0] ++ ([.slice none 0 0] ++ [.slice none 0 0]))))) ((Network.mk ([] : List zAd) ([] : List Switch) ([] : List Branch) ([] : List Gen) ([] : List Load_) ([] : List Store))) := ⟨_, _, rfl, zL G, ⟨_, _, rfl, zL G, ⟨_, _, rfl, zL G, ⟨_, _, rfl, zL G, ⟨_, _, rfl, zL G, (zL G)⟩⟩⟩⟩⟩
theorem z3l : Proj z07 0 (rSl rS) (fun x => x.Nodes) := by
  have h := (Proj.iso (rP (rSl rS) (rP (rSl z1d) (rP (rSl z0d) (rP (rSl z8v) (rP (rSl z2p) (rSl z2d)))))) (fun s : Network => (s.Nodes, s.Switches, s.Branches, s.Gens, s.Loads, s.Stores))).comp (Proj.fst _ _)
  exact h
theorem zed : Put z07 0 (rSl rS) (fun x y => { x with Nodes := y }) := by
  have h := Put.comp (Proj.iso (rP (rSl rS) (rP (rSl z1d) (rP (rSl z0d) (rP (rSl z8v) (rP (rSl z2p) (rSl z2d)))))) (fun s : Network => (s.Nodes, s.Switches, s.Branches, s.Gens, s.Loads, s.Stores))) (Put.iso (rP (rSl rS) (rP (rSl z1d) (rP (rSl z0d) (rP (rSl z8v) (rP (rSl z2p) (rSl z2d)))))) (fun s : Network => (s.Nodes, s.Switches, s.Branches, s.Gens, s.Loads, s.Stores)) (fun _ q => ⟨q.1, q.2.1, q.2.2.1, q.2.2.2.1, q.2.2.2.2.1, q.2.2.2.2.2⟩) (fun _ _ => rfl)) (Put.fst _ _)
  exact h
theorem z3w : Proj z07 1 (rSl z1d) (fun x => x.Switches) := by
  have h := (Proj.iso (rP (rSl rS) (rP (rSl z1d) (rP (rSl z0d) (rP (rSl z8v) (rP (rSl z2p) (rSl z2d)))))) (fun s : Network => (s.Nodes, s.Switches, s.Branches, s.Gens, s.Loads, s.Stores))).comp ((Proj.snd _ _).comp (Proj.fst _ _))
  exact h
theorem zbt : Put z07 1 (rSl z1d) (fun x y => { x with Switches := y }) := by
  have h := Put.comp (Proj.iso (rP (rSl rS) (rP (rSl z1d) (rP (rSl z0d) (rP (rSl z8v) (rP (rSl z2p) (rSl z2d)))))) (fun s : Network => (s.Nodes, s.Switches, s.Branches, s.Gens, s.Loads, s.Stores))) (Put.iso (rP (rSl rS) (rP (rSl z1d) (rP (rSl z0d) (rP (rSl z8v) (rP (rSl z2p) (rSl z2d)))))) (fun s : Network => (s.Nodes, s.Switches, s.Branches, s.Gens, s.Loads, s.Stores)) (fun _ q => ⟨q.1, q.2.1, q.2.2.1, q.2.2.2.1, q.2.2.2.2.1, q.2.2.2.2.2⟩) (fun _ _ => rfl)) (Put.comp (Proj.snd _ _) (Put.snd _ _) (Put.fst _ _))
  exact h
theorem z0z : Proj z07 2 (rSl z0d) (fun x => x.Branches) := by
  have h := (Proj.iso (rP (rSl rS) (rP (rSl z1d) (rP (rSl z0d) (rP (rSl z8v) (rP (rSl z2p) (rSl z2d)))))) (fun s : Network => (s.Nodes, s.Switches, s.Branches, s.Gens, s.Loads, s.Stores))).comp ((Proj.snd _ _).comp ((Proj.snd _ _).comp (Proj.fst _ _)))
  exact h
theorem zbu : Put z07 2 (rSl z0d) (fun x y => { x with Branches := y }) := by
  have h := Put.comp (Proj.iso (rP (rSl rS) (rP (rSl z1d) (rP (rSl z0d) (rP (rSl z8v) (rP (rSl z2p) (rSl z2d)))))) (fun s : Network => (s.Nodes, s.Switches, s.Branches, s.Gens, s.Loads, s.Stores))) (Put.iso (rP (rSl rS) (rP (rSl z1d) (rP (rSl z0d) (rP (rSl z8v) (rP (rSl z2p) (rSl z2d)))))) (fun s : Network => (s.Nodes, s.Switches, s.Branches, s.Gens, s.Loads, s.Stores)) (fun _ q => ⟨q.1, q.2.1, q.2.2.1, q.2.2.2.1, q.2.2.2.2.1, q.2.2.2.2.2⟩) (fun _ _ => rfl)) (Put.comp (Proj.snd _ _) (Put.snd _ _) (Put.comp (Proj.snd _ _) (Put.snd _ _) (Put.fst _ _)))
  exact h
theorem z60 : Proj z07 3 (rSl z8v) (fun x => x.Gens) := by
  have h := (Proj.iso (rP (rSl rS) (rP (rSl z1d) (rP (rSl z0d) (rP (rSl z8v) (rP (rSl z2p) (rSl z2d)))))) (fun s : Network => (s.Nodes, s.Switches, s.Branches, s.Gens, s.Loads, s.Stores))).comp ((Proj.snd _ _).comp ((Proj.snd _ _).comp ((Proj.snd _ _).comp (Proj.fst _ _))))
  exact h
theorem zfm : Put z07 3 (rSl z8v) (fun x y => { x with Gens := y }) := by
  have h := Put.comp (Proj.iso (rP (rSl rS) (rP (rSl z1d) (rP (rSl z0d) (rP (rSl z8v) (rP (rSl z2p) (rSl z2d)))))) (fun s : Network => (s.Nodes, s.Switches, s.Branches, s.Gens, s.Loads, s.Stores))) (Put.iso (rP (rSl rS) (rP (rSl z1d) (rP (rSl z0d) (rP (rSl z8v) (rP (rSl z2p) (rSl z2d)))))) (fun s : Network => (s.Nodes, s.Switches, s.Branches, s.Gens, s.Loads, s.Stores)) (fun _ q => ⟨q.1, q.2.1, q.2.2.1, q.2.2.2.1, q.2.2.2.2.1, q.2.2.2.2.2⟩) (fun _ _ => rfl)) (Put.comp (Proj.snd _ _) (Put.snd _ _) (Put.comp (Proj.snd _ _) (Put.snd _ _) (Put.comp (Proj.snd _ _) (Put.snd _ _) (Put.fst _ _))))
  exact h
theorem z57 : Proj z07 4 (rSl z2p) (fun x => x.Loads) := by
  have h := (Proj.iso (rP (rSl rS) (rP (rSl z1d) (rP (rSl z0d) (rP (rSl z8v) (rP (rSl z2p) (rSl z2d)))))) (fun s : Network => (s.Nodes, s.Switches, s.Branches, s.Gens, s.Loads, s.Stores))).comp ((Proj.snd _ _).comp ((Proj.snd _ _).comp ((Proj.snd _ _).comp ((Proj.snd _ _).comp (Proj.fst _ _)))))
  exact h
theorem zee : Put z07 4 (rSl z2p) (fun x y => { x with Loads := y }) := by
  have h := Put.comp (Proj.iso (rP (rSl rS) (rP (rSl z1d) (rP (rSl z0d) (rP (rSl z8v) (rP (rSl z2p) (rSl z2d)))))) (fun s : Network => (s.Nodes, s.Switches, s.Branches, s.Gens, s.Loads, s.Stores))) (Put.iso (rP (rSl rS) (rP (rSl z1d) (rP (rSl z0d) (rP (rSl z8v) (rP (rSl z2p) (rSl z2d)))))) (fun s : Network => (s.Nodes, s.Switches, s.Branches, s.Gens, s.Loads, s.Stores)) (fun _ q => ⟨q.1, q.2.1, q.2.2.1, q.2.2.2.1, q.2.2.2.2.1, q.2.2.2.2.2⟩) (fun _ _ => rfl)) (Put.comp (Proj.snd _ _) (Put.snd _ _) (Put.comp (Proj.snd _ _) (Put.snd _ _) (Put.comp (Proj.snd _ _) (Put.snd _ _) (Put.comp (Proj.snd _ _) (Put.snd _ _) (Put.fst _ _)))))
  exact h
theorem z4n : Proj z07 5 (rSl z2d) (fun x => x.Stores) := by
  have h := (Proj.iso (rP (rSl rS) (rP (rSl z1d) (rP (rSl z0d) (rP (rSl z8v) (rP (rSl z2p) (rSl z2d)))))) (fun s : Network => (s.Nodes, s.Switches, s.Branches, s.Gens, s.Loads, s.Stores))).comp ((Proj.snd _ _).comp ((Proj.snd _ _).comp ((Proj.snd _ _).comp ((Proj.snd _ _).comp ((Proj.snd _ _).comp (Proj.self _))))))
  exact h
theorem zdg : Put z07 5 (rSl z2d) (fun x y => { x with Stores := y }) := by
  have h := Put.comp (Proj.iso (rP (rSl rS) (rP (rSl z1d) (rP (rSl z0d) (rP (rSl z8v) (rP (rSl z2p) (rSl z2d)))))) (fun s : Network => (s.Nodes, s.Switches, s.Branches, s.Gens, s.Loads, s.Stores))) (Put.iso (rP (rSl rS) (rP (rSl z1d) (rP (rSl z0d) (rP (rSl z8v) (rP (rSl z2p) (rSl z2d)))))) (fun s : Network => (s.Nodes, s.Switches, s.Branches, s.Gens, s.Loads, s.Stores)) (fun _ q => ⟨q.1, q.2.1, q.2.2.1, q.2.2.2.1, q.2.2.2.2.1, q.2.2.2.2.2⟩) (fun _ _ => rfl)) (Put.comp (Proj.snd _ _) (Put.snd _ _) (Put.comp (Proj.snd _ _) (Put.snd _ _) (Put.comp (Proj.snd _ _) (Put.snd _ _) (Put.comp (Proj.snd _ _) (Put.snd _ _) (Put.comp (Proj.snd _ _) (Put.snd _ _) (Put.self _))))))
  exact h
def z4o (K : Nat) (a : Network) : Option Int := (Option.bind ((if (decide ((a.Nodes.length : Int) > 24)) = true then some true else (if (decide ((a.Switches.length : Int) > 32)) = true then some true else some (decide ((a.Branches.length : Int) > 24))))) (tu1 fun b => (if b = true then some 2 else (Option.bind ((if (decide ((a.Gens.length : Int) > 10)) = true then some true else (if (decide ((a.Loads.length : Int) > 12)) = true then some true else some (decide ((a.Stores.length : Int) > 4))))) (tu1 fun c => (if c = true then some 2 else some 0))))))
theorem zb9 (M : List Value) (a : Network) (P : z07.rep G M a) (O : Ow G H (L)) (r : Int) (h : z4o K a = some r) :
    CR Tryz.prog 34 [.agg M.toArray] G H (L) (fun v m _ => v = .int .i64 r) := by
 unfold z4o at h
 refine CR.og (n := 35) (fn := Tryz.f34) (by kernel_rfl) rfl rfl fun R kr => (.seq (.region (W.ln (Lo.box (r := z07) (x0 := a) (v := (.agg M.toArray)) rfl rfl P O) ?_)))
 rintro aR aS ⟨k, rfl, i, aN⟩
 refine W.p1 (.int .i64 0) (.nil (.seq (.seq ?_)))
 obtain ⟨aH, S, aI⟩ := z00 h
 refine AW.midT (fun o N => ∃ (p : Bool) (m : GM), p = aH /\ Ow m N (eVar k 29 z07 a :: L) /\ GM.le G m /\ o 18 = .bool p) ?_ ?_
 .refine .region (W.pv (padd (.pointer (some ⟨k, 0, none⟩)) 0) (z0f zhp ov (i.atVar (j := 0) rfl)) ?_)
  obtain ⟨aJ, T, U⟩ := At.sl (At.proj (i.atVar (j := 0) rfl) z3l)
  refine W.l1 aJ ag22 (z0i rfl T) (W.pv (.int .i64 (a.Nodes.length : Int)) (z0q ov (z0g U) (z05 el22)) (W.p3 (.bool (decide ((a.Nodes.length : Int) > 24))) (W.p2 (.bool (decide ((a.Nodes.length : Int) > 24))) (W.splitAt (t := 7) (b := decide ((a.Nodes.length : Int) > 24)) rfl (fun q c => ?_) (fun q c => ?_)))))
  .have V := z01 q S
   refine W.q6 rfl c (W.q6 rfl c (W.q6 rfl c (W.q6 rfl c (W.q4 (.bool true) c rfl (W.p2 (.bool true) (W.q6 rfl rfl ?_))))))
   refine W.q6 rfl rfl (W.q6 rfl rfl (W.q6 rfl rfl (W.q4 (.bool true) rfl rfl (.nil ?_))))
   obtain rfl := zAa V
   exact ⟨true, _, rfl, i, (zAf _), rfl⟩
  have A := z0h q S
  refine W.pure (v := (padd (.pointer (some ⟨k, 0, none⟩)) 1)) (gl rfl c) rfl (z0f zlb ov (i.atVar (j := 0) rfl)) ?_
  obtain ⟨X, Y, Z⟩ := At.sl (At.proj (i.atVar (j := 0) rfl) z3w)
  refine W.load1 (v := X) (r := []) (gl rfl c) rfl ag23 (z0i rfl Y) (W.pure (v := (.int .i64 (a.Switches.length : Int))) (gl rfl c) rfl (z0q ov (z0g Z) (z05 el23)) (W.q3 (hg := gk rfl rfl c rfl) (.bool (decide ((a.Switches.length : Int) > 32))) rfl rfl (W.q5 (.bool (decide ((a.Switches.length : Int) > 32))) c rfl (W.p2 (.bool (decide ((a.Switches.length : Int) > 32))) (W.splitAt (t := 13) (b := decide ((a.Switches.length : Int) > 32)) rfl (fun s d => ?_) (fun s d => ?_))))))
  .have aa := z01 s A
   refine W.q6 rfl d (W.q6 rfl d (W.q6 rfl d (W.q6 rfl d (W.q4 (.bool true) d rfl (.nil ?_)))))
   obtain rfl := zAa aa
   exact ⟨true, _, rfl, i, (zAf _), rfl⟩
  have ab := z0h s A
  refine W.pure (v := (padd (.pointer (some ⟨k, 0, none⟩)) 2)) (gl rfl d) rfl (z0f zd8 ov (i.atVar (j := 0) rfl)) ?_
  obtain ⟨ac, ad, ae⟩ := At.sl (At.proj (i.atVar (j := 0) rfl) z0z)
  refine W.load1 (v := ac) (r := []) (gl rfl d) rfl ag24 (z0i rfl ad) (W.pure (v := (.int .i64 (a.Branches.length : Int))) (gl rfl d) rfl (z0q ov (z0g ae) (z05 el24)) (W.q3 (hg := gk rfl rfl d rfl) (.bool (decide ((a.Branches.length : Int) > 24))) rfl rfl (W.q5 (.bool (decide ((a.Branches.length : Int) > 24))) d rfl (.nil ?_))))
  obtain rfl := zAa ab
  exact ⟨decide ((a.Branches.length : Int) > 24), _, rfl, i, (zAf _), rfl⟩
 rintro aK aO l ⟨af, ag, rfl, g, u, ah⟩
 have B := z0a aI
 refine .cond (b := af) rfl ah (fun w => ?_) (fun w => ?_)
 .have ai := z01 w B
  refine .seq (.region (W.p1 (.int .i64 2) (.nil (.ret ?_))))
  have aj := g.drop 0
  obtain rfl := zAa ai
  exact z1m kr (v1 := (.int .i64 2)) (by rfl) rt aj u rfl
 have ak := z0h w B
 refine .skip (.seq (.seq ?_))
 obtain ⟨al, C, am⟩ := z00 ak
 refine AW.midT (fun o N => ∃ (p : Bool) (m : GM), p = al /\ Ow m N (eVar k 29 z07 a :: L) /\ GM.le ag m /\ o 34 = .bool p) ?_ ?_
 rotate_left
 .rintro aL aP aM ⟨an, aQ, rfl, E, F, ao⟩
  have I := z0a am
  refine .cond (b := an) rfl ao (fun x => ?_) (fun x => ?_)
  .have ap := z01 x I
   refine .seq (.region (W.p1 (.int .i64 2) (.nil (.ret ?_))))
   have aq := E.drop 0
   obtain rfl := zAa ap
   exact z1m kr (v1 := (.int .i64 2)) (by rfl) rt aq (zAe u F) rfl
  have ar := z0h x I
  refine .skip (.seq (.region (W.p1 (.int .i64 0) (.nil (.ret ?_)))))
  have au := E.drop 0
  obtain rfl := zAa ar
  exact z1m kr (v1 := (.int .i64 0)) (by rfl) rt au (zAe u F) rfl
 refine .region (W.pv (padd (.pointer (some ⟨k, 0, none⟩)) 3) (z0f zlc (ou (ft (l 1 rfl) rfl)) (g.atVar (j := 0) rfl)) ?_)
 obtain ⟨av, aw, ax⟩ := At.sl (At.proj (g.atVar (j := 0) rfl) z60)
 refine W.l1 av ag25 (z0i rfl aw) (W.pv (.int .i64 (a.Gens.length : Int)) (z0q ov (z0g ax) (z05 el25)) (W.p3 (.bool (decide ((a.Gens.length : Int) > 10))) (W.p2 (.bool (decide ((a.Gens.length : Int) > 10))) (W.splitAt (t := 23) (b := decide ((a.Gens.length : Int) > 10)) rfl (fun y e => ?_) (fun y e => ?_)))))
 .have ay := z01 y C
  refine W.q6 rfl e (W.q6 rfl e (W.q6 rfl e (W.q6 rfl e (W.q4 (.bool true) e rfl (W.p2 (.bool true) (W.q6 rfl rfl ?_))))))
  refine W.q6 rfl rfl (W.q6 rfl rfl (W.q6 rfl rfl (W.q4 (.bool true) rfl rfl (.nil ?_))))
  obtain rfl := zAa ay
  exact ⟨true, _, rfl, g, (zAf _), rfl⟩
 have J := z0h y C
 refine W.pure (v := (padd (.pointer (some ⟨k, 0, none⟩)) 4)) (gl rfl e) rfl (z0f zld (ou (ft (l 1 rfl) rfl)) (g.atVar (j := 0) rfl)) ?_
 obtain ⟨az, aA, aB⟩ := At.sl (At.proj (g.atVar (j := 0) rfl) z57)
 refine W.load1 (v := az) (r := []) (gl rfl e) rfl ag26 (z0i rfl aA) (W.pure (v := (.int .i64 (a.Loads.length : Int))) (gl rfl e) rfl (z0q ov (z0g aB) (z05 el26)) (W.q3 (hg := gk rfl rfl e rfl) (.bool (decide ((a.Loads.length : Int) > 12))) rfl rfl (W.q5 (.bool (decide ((a.Loads.length : Int) > 12))) e rfl (W.p2 (.bool (decide ((a.Loads.length : Int) > 12))) (W.splitAt (t := 29) (b := decide ((a.Loads.length : Int) > 12)) rfl (fun z f => ?_) (fun z f => ?_))))))
 .have aC := z01 z J
  refine W.q6 rfl f (W.q6 rfl f (W.q6 rfl f (W.q6 rfl f (W.q4 (.bool true) f rfl (.nil ?_)))))
  obtain rfl := zAa aC
  exact ⟨true, _, rfl, g, (zAf _), rfl⟩
 have aD := z0h z J
 refine W.pure (v := (padd (.pointer (some ⟨k, 0, none⟩)) 5)) (gl rfl f) rfl (z0f zle (ou (ft (l 1 rfl) rfl)) (g.atVar (j := 0) rfl)) ?_
 obtain ⟨aE, aF, aG⟩ := At.sl (At.proj (g.atVar (j := 0) rfl) z4n)
 refine W.load1 (v := aE) (r := []) (gl rfl f) rfl ag27 (z0i rfl aF) (W.pure (v := (.int .i64 (a.Stores.length : Int))) (gl rfl f) rfl (z0q ov (z0g aG) (z05 el27)) (W.q3 (hg := gk rfl rfl f rfl) (.bool (decide ((a.Stores.length : Int) > 4))) rfl rfl (W.q5 (.bool (decide ((a.Stores.length : Int) > 4))) f rfl (.nil ?_))))
 obtain rfl := zAa aD
 exact ⟨decide ((a.Stores.length : Int) > 4), _, rfl, g, (zAf _), rfl⟩
def z2i (K : Nat) (c : zAd) : Nat -> Int -> Option (Bool ⊕ Unit)
  | 0, _ => none
  | k + 1, a => (if (decide (a < ((z04 c).length : Int))) = true then ((idx (z04 c) a).bind fun b => (Option.bind ((if (decide (b >= 65)) = true then some (decide (b <= 90)) else some false)) (tu1 fun d => (Option.bind ((if (!d) = true then (if (a == 0) = true then some true else (if (decide (b < 48)) = true then some true else some (decide (b > 57)))) else some false)) (tu1 fun e => (if e = true then some (.inl false) else z2i K c k (z03 .i64 (a + 1)))))))) else some (.inr ()))
def z58 (K : Nat) (a : zAd) : Option Bool := (z70 (z2i K a K 0) (tu1 fun b => some b) (tu0 (Option.bind ((if (!(sEq a (⟨#[]⟩ : zAd))) = true then some (decide ((a.size : Int) <= 8)) else some false)) (tu1 fun c => some c))))
theorem zbv (f : zAd) (O : Ow G H (L)) (r : Bool) (h : z58 K f = some r) :
    CR Tryz.prog 60 [(.string f)] G H (L) (fun v i _ => v = .bool r) := by
 unfold z58 at h
 refine CR.og (n := 42) (fn := Tryz.f60) (by kernel_rfl) rfl rfl fun R kr => (.seq (.region (W.p1 (.bool false) (.nil (.seq (.seq ?_))))))
 refine .region (W.p2 (.string f) (W.ln (Lo.bytes rfl un9 zjz in5 rfl O) ?_))
 rintro aW bd ⟨ai, aX, aj, a5, af⟩
 refine W.pv (.int .i64 ((z04 f).length : Int)) (z0q ov (z0g af) (z05 zjz)) (W.p2 (.int .i64 0) (.nil ?_))
 obtain ⟨ak, aY, T⟩ := z1w h
 refine AW.midT (fun m q => ∃  (i : GM), (.inr ()) = ak /\ Ow i q (L) /\ GM.le ai i) ?_ ?_
 rotate_left
 .rintro aZ a6 A ⟨al, rfl, U, am⟩
  have an := z7i (z72 T)
  refine .seq ?_
  obtain ⟨ao, V, ap⟩ := z00 an
  refine AW.midT (fun m q => ∃ (o : Bool) (i : GM), o = ao /\ Ow i q (L) /\ GM.le al i /\ m 2 = .bool o) ?_ ?_
  rotate_left
  .rintro a0 a7 a1 ⟨aq, a8, rfl, ar, au, av⟩
   have aw := z0a ap
   refine .ret ?_
   obtain rfl := zAa aw
   exact z1m kr (v1 := (.bool aq)) (by rfl) (zhn (by rfl) (by exact av)) ar (zAe aj (zAe am au)) rfl
  refine .region (W.q2 (.string f) (ft (A 0 rfl) rfl) (W.pv (.bool (!(sEq f (⟨#[]⟩ : zAd)))) (znm ov ov) (W.p2 (.bool (!(sEq f (⟨#[]⟩ : zAd)))) (W.splitAt (t := 37) (b := (!(sEq f (⟨#[]⟩ : zAd)))) rfl (fun B e => ?_) (fun B e => ?_)))))
  rotate_left
  .have ax := z0h B V
   refine W.q6 rfl e (W.q6 rfl e (W.q6 rfl e (W.q5 (.bool false) e rfl (W.p1 (.bool false) (.nil ?_)))))
   obtain rfl := zAa ax
   exact ⟨false, _, rfl, U, (zAf _), rfl⟩
  have ay := z01 B V
  refine W.q2 (hg := gk rfl rfl e rfl) (.string f) (ft (A 0 rfl) rfl) (W.pure (v := (.int .i64 (f.size : Int))) (gl rfl e) rfl (z2c ov un9) (W.q3 (hg := gk rfl rfl e rfl) (.bool (decide ((f.size : Int) <= 8))) rfl rfl (W.q4 (.bool (decide ((f.size : Int) <= 8))) e rfl (W.p1 (.bool (decide ((f.size : Int) <= 8))) (.nil ?_)))))
  obtain rfl := zAa ay
  exact ⟨decide ((f.size : Int) <= 8), _, rfl, U, (zAf _), rfl⟩
 refine .block (AW.loop (α := Nat) (fun ag m q => ∃ (o : Int) (i : GM), z2i K f ag o = some ak /\ Ow i q (L) /\ GM.le ai i /\ m 9 = .int .i64 o) (fun ag => ag) K ⟨0, _, aY, aX, (zAf _), rfl⟩ ?_)
 rintro C
 rintro a2 a9 E ⟨g, az, u, w, p, x⟩
 rcases C with _ | C
 .exact z09 u
 rw [z2i] at u
 refine .seq (.region (W.q3 (.bool (decide (g < ((z04 f).length : Int)))) x (ft (E 8 rfl) rfl) (.nil (.seq (.cond (b := decide (g < ((z04 f).length : Int))) rfl rfl (fun F => ?_) (fun F => ?_))))))
 rotate_left
 .have aA := z0h F u
  refine .exit ?_
  obtain rfl := zAa aA
  exact ⟨_, rfl, w, p⟩
 have aB := z01 F u
 refine .skip (.seq (.block (.seq (.region (W.q2 _ x ?_)))))
 obtain ⟨d, aC, aD⟩ := z00 aB
 have I := z0c aC
 refine W.pv (z1v aW (g.toNat * 1)) (z2a zjz sz5 (ou (ft (E 7 rfl) rfl)) (ou x) (z0g (RT.mono _ p af)) I.1 I.2.1) (W.l1 (.int .u8 d) ag5 (z0i rfl (At.int (At.le (At.le (z1h af I.2.2) p p) (zAf _) w.fro))) (W.p1 (.int .i64 g) (W.p1 (.int .u8 d) (.nil (.seq ?_)))))
 obtain ⟨aE, X, aF⟩ := z00 aD
 refine AW.midT (fun m q => ∃ (o : Bool) (i : GM), o = aE /\ Ow i q (L) /\ GM.le az i /\ m 5 = .bool o) ?_ ?_
 .refine .region (W.p2 (.int .u8 d) (W.p3 (.bool (decide (d >= 65))) (W.p2 (.bool (decide (d >= 65))) (W.splitAt (t := 16) (b := decide (d >= 65)) rfl (fun J j => ?_) (fun J j => ?_)))))
  rotate_left
  .have aG := z0h J X
   refine W.q6 rfl j (W.q6 rfl j (W.q5 (.bool false) j rfl (W.p1 (.bool false) (.nil ?_))))
   obtain rfl := zAa aG
   exact ⟨false, _, rfl, w, (zAf _), rfl⟩
  have aH := z01 J X
  refine W.q2 (hg := gk rfl rfl j rfl) (.int .u8 d) rfl (W.q3 (hg := gk rfl rfl j rfl) (.bool (decide (d <= 90))) rfl rfl (W.q4 (.bool (decide (d <= 90))) j rfl (W.p1 (.bool (decide (d <= 90))) (.nil ?_))))
  obtain rfl := zAa aH
  exact ⟨decide (d <= 90), _, rfl, w, (zAf _), rfl⟩
 rintro a3 ba s ⟨y, aI, rfl, z, Y, aJ⟩
 have aK := z0a aF
 refine .seq ?_
 obtain ⟨aL, Z, aM⟩ := z00 aK
 refine AW.midT (fun m q => ∃ (o : Bool) (i : GM), o = aL /\ Ow i q (L) /\ GM.le aI i /\ m 33 = .bool o) ?_ ?_
 rotate_left
 .rintro a4 bb ah ⟨aN, bc, rfl, aa, ab, aO⟩
  have ac := z0a aM
  refine .cond (b := aN) rfl aO (fun M => ?_) (fun M => ?_)
  .have aP := z01 M ac
   refine .seq (.region (W.p1 (.bool false) (.nil (.ret ?_))))
   obtain rfl := zAa aP
   have aQ := z0a (z3z T)
   obtain rfl := zAa aQ
   exact z1m kr (v1 := (.bool false)) (by rfl) rt aa (zAe aj (zAe p (zAe Y ab))) rfl
  have aR := z0h M ac
  refine .skip (.region (W.q3 (.int .i64 (z03 .i64 (g + 1))) (ft (ah 9 rfl) (ft (s 9 rfl) x)) rfl (W.p2 (.int .i64 (z03 .i64 (g + 1))) (.nil ?_))))
  exact ⟨C, zAg _, ⟨z03 .i64 (g + 1), _, aR, aa, (zAe p (zAe Y ab)), rfl⟩⟩
 refine .region (W.q2 _ aJ (W.pv (.bool (!y)) (z1g (a := y) ov) (W.p2 (.bool (!y)) (W.splitAt (t := 22) (b := (!y)) rfl (fun N c => ?_) (fun N c => ?_)))))
 rotate_left
 .have aS := z0h N Z
  refine W.q6 rfl c (W.q6 rfl c (W.q6 rfl c (W.skipU rfl rfl rfl rfl (W.skipU rfl rfl rfl rfl (W.q6 rfl c (W.q6 rfl c ?_))))))
  refine W.skipU rfl rfl rfl rfl (W.skipU rfl rfl rfl rfl (W.q6 rfl c (W.q5 (.bool false) c rfl (.nil ?_))))
  obtain rfl := zAa aS
  exact ⟨false, _, rfl, z, (zAf _), rfl⟩
 have ad := z01 N Z
 refine W.q2 (hg := gk rfl rfl c rfl) (.int .i64 g) (ft (s 3 rfl) rfl) (W.q3 (hg := gk rfl rfl c rfl) (.bool (g == 0)) rfl rfl (W.q2 (hg := gk rfl rfl c rfl) (.bool (g == 0)) rfl (W.splitAt (t := 25) (b := (g == 0)) rfl (fun P k => ?_) (fun P k => ?_))))
 .have aT := z01 P ad
  refine W.q6 rfl k (W.q6 rfl k (W.q4 (hg := gk rfl rfl c rfl) (.bool true) k rfl (W.q2 (hg := gk rfl rfl c rfl) (.bool true) rfl (W.q6 rfl rfl (W.q6 rfl rfl (W.q4 (hg := gk rfl rfl c rfl) (.bool true) rfl rfl ?_))))))
  refine W.q4 (.bool true) c rfl (.nil ?_)
  obtain rfl := zAa aT
  exact ⟨true, _, rfl, z, (zAf _), rfl⟩
 have ae := z0h P ad
 refine W.q2 (hg := gk rfl rfl k rfl) (.int .u8 d) (ft (s 4 rfl) rfl) (W.q3 (hg := gk rfl rfl k rfl) (.bool (decide (d < 48))) rfl rfl (W.q5 (hg := gk rfl rfl c rfl) (.bool (decide (d < 48))) k rfl (W.q2 (hg := gk rfl rfl c rfl) (.bool (decide (d < 48))) rfl (W.splitAt (t := 29) (b := decide (d < 48)) rfl (fun S l => ?_) (fun S l => ?_)))))
 .have aU := z01 S ae
  refine W.q6 rfl l (W.q6 rfl l (W.q4 (hg := gk rfl rfl c rfl) (.bool true) l rfl (W.q4 (.bool true) c rfl (.nil ?_))))
  obtain rfl := zAa aU
  exact ⟨true, _, rfl, z, (zAf _), rfl⟩
 have aV := z0h S ae
 refine W.q2 (hg := gk rfl rfl l rfl) (.int .u8 d) (ft (s 4 rfl) rfl) (W.q3 (hg := gk rfl rfl l rfl) (.bool (decide (d > 57))) rfl rfl (W.q5 (hg := gk rfl rfl c rfl) (.bool (decide (d > 57))) l rfl (W.q4 (.bool (decide (d > 57))) c rfl (.nil ?_))))
 obtain rfl := zAa aV
 exact ⟨decide (d > 57), _, rfl, z, (zAf _), rfl⟩
def z0o (K : Nat) (b : List zAd) (c : zAd) : Nat -> Int -> Option (Int ⊕ Unit)
  | 0, _ => none
  | k + 1, a => (if (decide (a < (b.length : Int))) = true then ((idx b a).bind fun d => (if (sEq c d) = true then some (.inl a) else z0o K b c k (z03 .i64 (a + 1)))) else some (.inr ()))
def z22 (K : Nat) (b : List zAd) (c : zAd) : Option Int := (z70 (z0o K b c K 0) (tu1 fun a => some a) (tu0 (some (-1))))
theorem z6n (j : Value) (f : List zAd) (k : (rSl rS).rep G [j] f) (g : zAd) (O : Ow G H (L)) (r : Int) (h : z22 K f g = some r) :
    CR Tryz.prog 75 [j, (.string g)] G H (L) (fun v i _ => v = .int .i64 r) := by
 unfold z22 at h
 refine CR.og (n := 19) (fn := Tryz.f75) (by kernel_rfl) rfl rfl fun R kr => (.seq (.region (W.p1 (.int .i64 0) (.nil (.seq (.seq ?_))))))
 refine .region (W.p2 j (W.pv (.int .i64 (f.length : Int)) (z0q ov (z0g k) (z05 el22)) (W.p2 (.int .i64 0) (.nil ?_))))
 obtain ⟨z, T, A⟩ := z1w h
 refine AW.midT (fun t w => ∃  (i : GM), (.inr ()) = z /\ Ow i w (L) /\ GM.le G i) ?_ ?_
 rotate_left
 .rintro U X V ⟨Y, rfl, B, C⟩
  have E := z7i (z72 A)
  refine .seq (.region (W.p1 (.int .i64 (-1)) (.nil (.ret ?_))))
  obtain rfl := zAa E
  exact z1m kr (v1 := (.int .i64 (-1))) (by rfl) rt B C rfl
 refine .block (AW.loop (α := Nat) (fun x t w => ∃ (F : Int) (i : GM), z0o K f g x F = some z /\ Ow i w (L) /\ GM.le G i /\ t 8 = .int .i64 F) (fun x => x) K ⟨0, _, T, O, (zAf _), rfl⟩ ?_)
 rintro y
 rintro Z aa l ⟨a, ab, d, e, c, m⟩
 rcases y with _ | y
 .exact z09 d
 rw [z0o] at d
 refine .seq (.region (W.q3 (.bool (decide (a < (f.length : Int)))) m (ft (l 7 rfl) rfl) (.nil (.seq (.cond (b := decide (a < (f.length : Int))) rfl rfl (fun o => ?_) (fun o => ?_))))))
 rotate_left
 .have I := z0h o d
  refine .exit ?_
  obtain rfl := zAa I
  exact ⟨_, rfl, e, c⟩
 have J := z01 o d
 refine .skip (.seq (.block (.seq (.region (W.q2 _ m (W.p1 (.int .i64 a) ?_))))))
 refine .nil (.seq (.region (W.q2 (.string g) (ft (l 1 rfl) rfl) (W.q2 j (ft (l 0 rfl) rfl) (W.p2 (.int .i64 a) ?_)))))
 obtain ⟨p, M, u⟩ := z00 J
 have q := z0c M
 refine W.pv (z1v j (a.toNat * 1)) (z2a el22 sz9 ov ov (z0g (RT.mono _ c k)) q.1 q.2.1) (W.l1 (.string p) ag9 (z0i rfl (At.str (At.le (At.le (z1h k q.2.2) c c) (zAf _) e.fro))) (W.pv (.bool (sEq g p)) (z90 ov ov) (.nil (.cond (b := sEq g p) rfl rfl (fun s => ?_) (fun s => ?_)))))
 rotate_left
 .have N := z0h s u
  refine .skip (.region (W.r3 (.int .i64 (z03 .i64 (a + 1))) m (W.p2 (.int .i64 (z03 .i64 (a + 1))) (.nil ?_))))
  exact ⟨y, zAg _, ⟨z03 .i64 (a + 1), _, N, e, c, rfl⟩⟩
 have P := z01 s u
 refine .seq (.region (W.p2 (.int .i64 a) (W.p1 (.int .i64 a) (.nil (.ret ?_)))))
 obtain rfl := zAa P
 have S := z0a (z3z A)
 obtain rfl := zAa S
 exact z1m kr (v1 := (.int .i64 a)) (by rfl) rt e c rfl
def z0y (K : Nat) (a : List zAd) (b : zAd) : Option Bool := ((z22 K a b).bind fun c => some (decide (c >= 0)))
theorem z3d (a : Value) (c : List zAd) (e : (rSl rS).rep G [a] c) (b : zAd) (O : Ow G H (L)) (r : Bool) (h : z0y K c b = some r) :
    CR Tryz.prog 61 [a, (.string b)] G H (L) (fun v p _ => v = .bool r) := by
 unfold z0y at h
 refine CR.og (n := 9) (fn := Tryz.f61) (by kernel_rfl) rfl rfl fun R kr => (.seq (.region (W.p1 (.bool false) (.nil (.seq (.region ?_))))))
 refine W.p2 a (W.p2 (.string b) ?_)
 obtain ⟨d, f, g⟩ := z00 h
 refine W.ln (Lo.cQ Tryz.f75 (mc rfl (mc rfl mn)) O (fun q i => z6n K a c e b i _ f)) ?_
 rintro l m ⟨s, j, k, o, rfl⟩
 refine W.p3 (.bool (decide (d >= 0))) (W.p1 (.bool (decide (d >= 0))) (.nil (.ret ?_)))
 obtain rfl := zAa g
 exact z1m kr (v1 := (.bool (decide (d >= 0)))) (by rfl) rt j k rfl
structure Netmodel_names where
  l : List zAd
  deriving DecidableEq, Inhabited
def z0b : RT (Netmodel_names × Value) := rIso rV (fun s : Netmodel_names × Value => (s.2))
theorem z69 : Proj z0b 0 rV (fun x => x.2) := by
  have h := (Proj.iso rV (fun s : Netmodel_names × Value => (s.2))).comp (Proj.self _)
  exact h
theorem z91 : Put z0b 0 rV (fun x y => (x.1, y)) := by
  have h := Put.comp (Proj.iso rV (fun s : Netmodel_names × Value => (s.2))) (Put.iso rV (fun s : Netmodel_names × Value => (s.2)) (fun x q => (x.1, q)) (fun _ _ => rfl)) (Put.self _)
  exact h
def z2j (K : Nat) (a : Netmodel_names) (b : zAd) : Option (Int × Netmodel_names) := ((z58 K b).bind fun d => (if (!d) = true then some (5, (Netmodel_names.mk a.l)) else ((z0y K a.l b).bind fun c => (if c = true then some (7, (Netmodel_names.mk a.l)) else (if a.l.length + [b].length <= 16777216 then some (0, (Netmodel_names.mk (a.l ++ [b]))) else none)))))
theorem z6a (c : Nat) (e : Value) (q : Netmodel_names) (d : zAd) (O : Ow G H (eVar c 92 z0b (q, e) :: eSl e 9 rS q.l :: L)) (r : Int × Netmodel_names) (h : z2j K q d = some r) :
    CRF Tryz.prog 35 [.pointer (some ⟨c, 0, none⟩), (.string d)] G H (fun wl => (eVar c 92 z0b (r.2, wl) :: eSl wl 9 rS r.2.l :: L)) (fun wl v V => v = .int .i64 r.1) := by
 unfold z2j at h
 refine CRF.og (n := 24) (fn := Tryz.f35) (by kernel_rfl) rfl rfl fun R kr => (.seq (.region (W.p1 (.int .i64 0) (.nil (.seq (.seq ?_))))))
 refine .region (W.p2 (.string d) ?_)
 obtain ⟨x, X, A⟩ := z00 h
 refine W.ln (Lo.cQ Tryz.f60 (mc rfl mn) O (fun Y y => zbv K d y _ X)) ?_
 rintro ae af ⟨ap, i, z, ag, rfl⟩
 refine W.pv (.bool (!x)) (z1g (a := x) ov) (.nil (.cond (b := (!x)) rfl rfl (fun k => ?_) (fun k => ?_)))
 .have B := z01 k A
  refine .seq (.region (W.p1 (.int .i64 5) (.nil (.ret ?_))))
  obtain rfl := zAa B
  exact z4j kr e (v1 := (.int .i64 5)) (by rfl) rt i z rfl
 have C := z0h k A
 refine .skip (.seq (.seq (.region (W.p2 (.pointer (some ⟨c, 0, none⟩)) (W.pv (.pointer (some ⟨c, 0, none⟩)) (z4l ov (i.atVar (j := 0) rfl)) (W.pv (padd (.pointer (some ⟨c, 0, none⟩)) 0) (z0f zq7 ov (i.atVar (j := 0) rfl)) ?_))))))
 refine W.l1 e ag22 (z0i rfl (At.raw (At.proj (i.atVar (j := 0) rfl) z69))) (W.p2 (.string d) ?_)
 obtain ⟨E, F, t⟩ := z00 C
 refine W.ln (Lo.callB (j := 1) rfl rfl (fn := Tryz.f61) (by kernel_rfl) rfl (mc rfl (mc rfl mn)) i (fun V Y hG y hB => z3d K e q.l hB d y _ F)) ?_
 rintro ah ai ⟨aj, f, u, Z, rfl⟩
 refine .nil (.cond (b := E) rfl rfl (fun m => ?_) (fun m => ?_))
 .have I := z01 m t
  refine .seq (.region (W.p1 (.int .i64 7) (.nil (.ret ?_))))
  obtain rfl := zAa I
  exact z4j kr e (v1 := (.int .i64 7)) (by rfl) rt f (zAe z u) rfl
 have J := z0h m t
 refine .skip (.seq (.region (W.p2 (.pointer (some ⟨c, 0, none⟩)) (W.p2 (.pointer (some ⟨c, 0, none⟩)) (W.pv (.pointer (some ⟨c, 0, none⟩)) (z4l ov (f.atVar (j := 0) rfl)) (W.pv (padd (.pointer (some ⟨c, 0, none⟩)) 0) (z0f zq7 ov (f.atVar (j := 0) rfl)) ?_))))))
 refine W.l1 e ag22 (z0i rfl (At.raw (At.proj (f.atVar (j := 0) rfl) z69))) (W.p2 (.string d) (W.ln (Lo.buildSlice (r := rS) (vs := [(.string d)]) (xs := [d]) el22 ze9 sz9 (by kernel_rfl) rfl (qc rfl qn) rfl (.cons rfl .nil) f) ?_))
 rintro ak al ⟨w, aa⟩
 obtain ⟨ab, M, N⟩ := z4a (j := 0) rfl w
 obtain ⟨P, S⟩ := z2b J
 refine W.ln (Lo.append (j := 2) (v := e) rfl rfl el22 ni22 ze9 sz9 by9 (by decide) (by decide) rfl M N P w) ?_
 rintro p am ⟨g, ac⟩
 refine W.pv (.pointer (some ⟨c, 0, none⟩)) (z4l ov (g.atVar (j := 1) rfl)) (W.pv (padd (.pointer (some ⟨c, 0, none⟩)) 0) (z0f zq7 ov (g.atVar (j := 1) rfl)) (W.ln (Lo.storeVar (j := 1) (s := rV) (y0 := p) (v := p) (o := 0) rfl ((Put.at z91 _ _)) rfl sz22 rfl (by omega) rfl (zrp (g.slLen (j := 2) rfl)) g) ?_))
 rintro an ao ⟨T, ad⟩
 refine .nil (.seq (.region (W.p1 (.int .i64 0) (.nil (.ret ?_)))))
 have U := T.drop 0
 obtain rfl := zAa S
 exact z4j kr p (v1 := (.int .i64 0)) (by rfl) rt U (zAe z u) rfl
def z19 (K : Nat) (c : Network) (b : List zAd) : Nat -> Int -> Option (Int ⊕ Unit)
  | 0, _ => none
  | k + 1, a => (if (decide (a < (b.length : Int))) = true then ((idx b a).bind fun d => ((z0y K c.Nodes d).bind fun e => (if (!e) = true then some (.inl 6) else z19 K c b k (z03 .i64 (a + 1))))) else some (.inr ()))
def z59 (K : Nat) (b : Network) (c : List zAd) : Option Int := (z70 (z19 K b c K 0) (tu1 fun a => some a) (tu0 (some 0)))
theorem zbw (B : List Value) (f : Network) (J : z07.rep G B f) (v1 : Value) (l : List zAd) (o : (rSl rS).rep G [v1] l) (O : Ow G H (L)) (r : Int) (h : z59 K f l = some r) :
    CR Tryz.prog 62 [.agg B.toArray, v1] G H (L) (fun v m _ => v = .int .i64 r) := by
 unfold z59 at h
 refine CR.og (n := 19) (fn := Tryz.f62) (by kernel_rfl) rfl rfl fun R kr => (.seq (.region (W.ln (Lo.box (r := z07) (x0 := f) (v := (.agg B.toArray)) rfl rfl J O) ?_)))
 rintro az aA ⟨C, rfl, ai, ap⟩
 refine W.p1 (.int .i64 0) (.nil (.seq (.seq (.region (W.p2 v1 (W.pv (.int .i64 (l.length : Int)) (z0q ov (z0g o) (z05 el22)) ?_))))))
 refine W.p2 (.int .i64 0) (.nil ?_)
 obtain ⟨M, aj, N⟩ := z1w h
 refine AW.midT (fun w E => ∃  (m : GM), (.inr ()) = M /\ Ow m E (eVar C 29 z07 f :: L) /\ GM.le G m) ?_ ?_
 rotate_left
 .rintro ak aq al ⟨ar, rfl, P, S⟩
  have T := z7i (z72 N)
  refine .seq (.region (W.p1 (.int .i64 0) (.nil (.ret ?_))))
  have U := P.drop 0
  obtain rfl := zAa T
  exact z1m kr (v1 := (.int .i64 0)) (by rfl) rt U S rfl
 refine .block (AW.loop (α := Nat) (fun F w E => ∃ (V : Int) (m : GM), z19 K f l F V = some M /\ Ow m E (eVar C 29 z07 f :: L) /\ GM.le G m /\ w 9 = .int .i64 V) (fun F => F) K ⟨0, _, aj, ai, (zAf _), rfl⟩ ?_)
 rintro I
 rintro am au g ⟨c, av, i, e, d, p⟩
 rcases I with _ | I
 .exact z09 i
 rw [z19] at i
 refine .seq (.region (W.q3 (.bool (decide (c < (l.length : Int)))) p (ft (g 8 rfl) rfl) (.nil (.seq (.cond (b := decide (c < (l.length : Int))) rfl rfl (fun q => ?_) (fun q => ?_))))))
 rotate_left
 .have X := z0h q i
  refine .exit ?_
  obtain rfl := zAa X
  exact ⟨_, rfl, e, d⟩
 have Y := z01 q i
 refine .skip (.seq (.block (.seq (.region ?_))))
 obtain ⟨k, Z, aa⟩ := z00 Y
 have s := z0c Z
 refine W.pv (z1v v1 (c.toNat * 1)) (z2a el22 sz9 (ou (ft (g 7 rfl) rfl)) (ou p) (z0g (RT.mono _ d o)) s.1 s.2.1) (W.l1 (.string k) ag9 (z0i rfl (At.str (At.le (At.le (z1h o s.2.2) d d) (zAf _) e.fro))) (W.p1 (.string k) (.nil (.seq (.region (W.pv (padd (.pointer (some ⟨C, 0, none⟩)) 0) (z0f zhp (ou (ft (g 2 rfl) rfl)) (e.atVar (j := 0) rfl)) ?_))))))
 obtain ⟨x, ab, ac⟩ := At.sl (At.proj (e.atVar (j := 0) rfl) z3l)
 refine W.l1 x ag22 (z0i rfl ab) (W.p2 (.string k) ?_)
 obtain ⟨t, ad, y⟩ := z00 aa
 refine W.ln (Lo.cQ Tryz.f61 (mc rfl (mc rfl mn)) e (fun aB an => z3d K x f.Nodes ac k an _ ad)) ?_
 rintro aw ax ⟨ay, z, A, ao, rfl⟩
 refine W.pv (.bool (!t)) (z1g (a := t) ov) (.nil (.cond (b := (!t)) rfl rfl (fun u => ?_) (fun u => ?_)))
 rotate_left
 .have ae := z0h u y
  refine .skip (.region (W.r3 (.int .i64 (z03 .i64 (c + 1))) p (W.p2 (.int .i64 (z03 .i64 (c + 1))) (.nil ?_))))
  exact ⟨I, zAg _, ⟨z03 .i64 (c + 1), _, ae, z, (zAe d A), rfl⟩⟩
 have af := z01 u y
 refine .seq (.region (W.p1 (.int .i64 6) (.nil (.ret ?_))))
 have ag := z.drop 0
 obtain rfl := zAa af
 have ah := z0a (z3z N)
 obtain rfl := zAa ah
 exact z1m kr (v1 := (.int .i64 6)) (by rfl) rt ag (zAe d A) rfl
def z1r (K : Nat) (c : Network) (d : Netmodel_names) (e : zAd) (f : List zAd) : Option (Int × Netmodel_names) := ((z2j K (Netmodel_names.mk d.l) e).bind fun a => (if (a.1 != 0) = true then some (a.1, (Netmodel_names.mk a.2.l)) else ((z59 K c f).bind fun b => some (b, (Netmodel_names.mk a.2.l)))))
theorem z38 (u : List Value) (g : Network) (z : z07.rep G u g) (c : Nat) (v1 : Value) (i : Netmodel_names) (k : zAd) (m : Value) (x : List zAd) (A : (rSl rS).rep G [m] x) (O : Ow G H (eVar c 92 z0b (i, v1) :: eSl v1 9 rS i.l :: L)) (r : Int × Netmodel_names) (h : z1r K g i k x = some r) :
    CRF Tryz.prog 36 [.agg u.toArray, .pointer (some ⟨c, 0, none⟩), (.string k), m] G H (fun wl => (eVar c 92 z0b (r.2, wl) :: eSl wl 9 rS r.2.l :: L)) (fun wl v ag => v = .int .i64 r.1) := by
 unfold z1r at h
 refine CRF.og (n := 19) (fn := Tryz.f36) (by kernel_rfl) rfl rfl fun R kr => (.seq (.region (W.ln (Lo.box (r := z07) (x0 := g) (v := (.agg u.toArray)) rfl rfl z O) ?_)))
 rintro ah ai ⟨aj, rfl, T, Z⟩
 refine W.p1 (.int .i64 0) (.nil (.seq (.seq (.region (W.p2 (.pointer (some ⟨c, 0, none⟩)) (W.p2 (.string k) ?_))))))
 have U := ((T.front (j := 0) rfl).front (j := 2) rfl).front (j := 2) rfl
 obtain ⟨a, B, o⟩ := z00 h
 refine W.ln (Lo.qF Tryz.f35 (ps := [_, _]) (pw := fun w => [_, _]) (mc rfl (mc rfl mn)) U (fun V y => z6a K c v1 (Netmodel_names.mk i.l) k y _ B)) ?_
 rintro aa ab ⟨p, ac, d, e, X, rfl⟩
 refine W.p1 (.int .i64 a.1) (.nil (.seq (.region (W.p2 (.int .i64 a.1) (W.p3 (.bool (a.1 != 0)) (.nil ?_))))))
 refine .cond (b := (a.1 != 0)) rfl rfl (fun f => ?_) (fun f => ?_)
 .have C := z01 f o
  refine .seq (.region (W.p2 (.int .i64 a.1) (W.p1 (.int .i64 a.1) (.nil (.ret ?_)))))
  have E := d.drop 2
  obtain rfl := zAa C
  exact z4j kr p (v1 := (.int .i64 a.1)) (by rfl) rt E e rfl
 have F := z0h f o
 refine .skip (.seq (.region ?_))
 obtain ⟨q, I, s⟩ := (d.atVar (j := 2) rfl)
 refine W.loadA (cs := q) rfl rfl ag29 sz29 (z0i rfl I) (RT.len _ s) (W.p2 m ?_)
 obtain ⟨t, J, M⟩ := z00 F
 refine W.ln (Lo.cQ Tryz.f62 (mc rfl (mc rfl mn)) d (fun V y => zbw K q g s m x (RT.mono _ e A) y _ J)) ?_
 rintro ad ae ⟨af, N, P, Y, rfl⟩
 refine W.p1 (.int .i64 t) (.nil (.ret ?_))
 have S := N.drop 2
 obtain rfl := zAa M
 exact z4j kr p (v1 := (.int .i64 t)) (by rfl) rt S (zAe e P) rfl
def z0l (K : Nat) (a : Int) (b : Int) (c : Int) : Option Bool := (Option.bind ((if (decide (a >= b)) = true then some (decide (a <= c)) else some false)) (tu1 fun d => some d))
theorem z0m (c : Int) (e : Int) (d : Int) (O : Ow G H (L)) (r : Bool) (h : z0l K c e d = some r) :
    CR Tryz.prog 63 [(.int .i64 c), (.int .i64 e), (.int .i64 d)] G H (L) (fun v f _ => v = .bool r) := by
 unfold z0l at h
 refine CR.og (n := 15) (fn := Tryz.f63) (by kernel_rfl) rfl rfl fun R kr => (.seq (.region (W.p1 (.bool false) (.nil (.seq ?_)))))
 obtain ⟨q, i, s⟩ := z00 h
 refine AW.midT (fun j u => ∃ (k : Bool) (f : GM), k = q /\ Ow f u (L) /\ GM.le G f /\ j 6 = .bool k) ?_ ?_
 rotate_left
 .rintro A B w ⟨x, C, rfl, l, m, o⟩
  have p := z0a s
  refine .ret ?_
  obtain rfl := zAa p
  exact z1m kr (v1 := (.bool x)) (by rfl) (zhn (by rfl) (by exact o)) l m rfl
 refine .region (W.p2 (.int .i64 c) (W.p2 (.int .i64 e) (W.p3 (.bool (decide (c >= e))) (W.p2 (.bool (decide (c >= e))) (W.splitAt (t := 10) (b := decide (c >= e)) rfl (fun g a => ?_) (fun g a => ?_))))))
 rotate_left
 .have y := z0h g i
  refine W.q6 rfl a (W.q6 rfl a (W.q6 rfl a (W.q5 (.bool false) a rfl (W.p1 (.bool false) (.nil ?_)))))
  obtain rfl := zAa y
  exact ⟨false, _, rfl, O, (zAf _), rfl⟩
 have z := z01 g i
 refine W.q2 (hg := gk rfl rfl a rfl) (.int .i64 c) rfl (W.q2 (hg := gk rfl rfl a rfl) (.int .i64 d) rfl (W.q3 (hg := gk rfl rfl a rfl) (.bool (decide (c <= d))) rfl rfl (W.q4 (.bool (decide (c <= d))) a rfl (W.p1 (.bool (decide (c <= d))) (.nil ?_)))))
 obtain rfl := zAa z
 exact ⟨decide (c <= d), _, rfl, O, (zAf _), rfl⟩
def z4b (K : Nat) (a : Branch) : Option Int := (Option.bind (((z0l K a.X 1 10000).bind fun i => (if (!i) = true then some true else ((z0l K a.Tap 500 1500).bind fun c => (if (!c) = true then some true else ((z0l K a.Shift (-1000) 1000).bind fun d => some (!d))))))) (tu1 fun e => (if e = true then some 4 else (Option.bind (((z0l K a.Limit 0 100000).bind fun f => (if (!f) = true then some true else ((z0l K a.Short a.Limit 100000).bind fun g => (if (!g) = true then some true else ((z0l K a.Hold 0 200000).bind fun h => some (!h))))))) (tu1 fun b => (if b = true then some 4 else some 0))))))
theorem zaj (ai : List Value) (g : Branch) (av : z0d.rep G ai g) (O : Ow G H (L)) (r : Int) (h : z4b K g = some r) :
    CR Tryz.prog 37 [.agg ai.toArray] G H (L) (fun v B _ => v = .int .i64 r) := by
 unfold z4b at h
 refine CR.og (n := 37) (fn := Tryz.f37) (by kernel_rfl) rfl rfl fun R kr => (.seq (.region (W.ln (Lo.box (r := z0d) (x0 := g) (v := (.agg ai.toArray)) rfl rfl av O) ?_)))
 rintro bv bw ⟨l, rfl, aj, be⟩
 refine W.p1 (.int .i64 0) (.nil (.seq (.seq ?_)))
 obtain ⟨a0, a1, a2⟩ := z00 h
 refine AW.midT (fun C ak => ∃ (E : Bool) (B : GM), E = a0 /\ Ow B ak (eVar l 50 z0d g :: L) /\ GM.le G B /\ C 18 = .bool E) ?_ ?_
 .refine .region (W.pv (padd (.pointer (some ⟨l, 0, none⟩)) 3) (z0f zrs ov (aj.atVar (j := 0) rfl)) (W.l1 (.int .i64 g.X) ag3 (z0i rfl (At.int (At.proj (aj.atVar (j := 0) rfl) zgr))) ?_))
  obtain ⟨aa, aw, ab⟩ := z00 a1
  refine W.ln (Lo.cQ Tryz.f63 (mc rfl (mc rfl (mc rfl mn))) aj (fun F i => z0m K g.X 1 10000 i _ aw)) ?_
  rintro bf bg ⟨bh, s, I, a3, rfl⟩
  refine W.pv (.bool (!aa)) (z1g (a := aa) ov) (W.p2 (.bool (!aa)) (W.splitAt (t := 7) (b := (!aa)) rfl (fun J d => ?_) (fun J d => ?_)))
  .have ax := z01 J ab
   refine W.q6 rfl d (W.q6 rfl d (W.q6 rfl d (W.q6 rfl d (W.q4 (.bool true) d rfl (W.p2 (.bool true) (W.q6 rfl rfl ?_))))))
   refine W.q6 rfl rfl (W.q6 rfl rfl (W.q6 rfl rfl (W.q4 (.bool true) rfl rfl (.nil ?_))))
   obtain rfl := zAa ax
   exact ⟨true, _, rfl, s, I, rfl⟩
  have ay := z0h J ab
  refine W.pure (v := (padd (.pointer (some ⟨l, 0, none⟩)) 4)) (gl rfl d) rfl (z0f zrt ov (s.atVar (j := 0) rfl)) (W.load1 (v := (.int .i64 g.Tap)) (r := []) (gl rfl d) rfl ag3 (z0i rfl (At.int (At.proj (s.atVar (j := 0) rfl) zdb))) ?_)
  obtain ⟨o, az, ac⟩ := z00 ay
  refine W.lo (gl rfl d) rfl (Lo.cQ Tryz.f63 (mc rfl (mc rfl (mc rfl mn))) s (fun F i => z0m K g.Tap 500 1500 i _ az)) ?_
  rintro bi bj ⟨bk, u, ad, a4, rfl⟩
  refine W.pure (v := (.bool (!o))) (gl rfl d) rfl (z1g (a := o) ov) (W.q5 (.bool (!o)) d rfl (W.p2 (.bool (!o)) (W.splitAt (t := 13) (b := (!o)) rfl (fun M e => ?_) (fun M e => ?_))))
  .have aA := z01 M ac
   refine W.q6 rfl e (W.q6 rfl e (W.q6 rfl e (W.q6 rfl e (W.q4 (.bool true) e rfl (.nil ?_)))))
   obtain rfl := zAa aA
   exact ⟨true, _, rfl, u, (zAe I ad), rfl⟩
  have aB := z0h M ac
  refine W.pure (v := (padd (.pointer (some ⟨l, 0, none⟩)) 5)) (gl rfl e) rfl (z0f zru ov (u.atVar (j := 0) rfl)) (W.load1 (v := (.int .i64 g.Shift)) (r := []) (gl rfl e) rfl ag3 (z0i rfl (At.int (At.proj (u.atVar (j := 0) rfl) zb6))) ?_)
  obtain ⟨w, aC, aD⟩ := z00 aB
  refine W.lo (gl rfl e) rfl (Lo.cQ Tryz.f63 (mc rfl (mc rfl (mc rfl mn))) u (fun F i => z0m K g.Shift (-1000) 1000 i _ aC)) ?_
  rintro bl bm ⟨bn, aE, aF, a5, rfl⟩
  refine W.pure (v := (.bool (!w))) (gl rfl e) rfl (z1g (a := w) ov) (W.q5 (.bool (!w)) e rfl (.nil ?_))
  obtain rfl := zAa aD
  exact ⟨(!w), _, rfl, aE, (zAe I (zAe ad aF)), rfl⟩
 rintro a6 bo m ⟨aG, aH, rfl, x, N, aI⟩
 have ae := z0a a2
 refine .cond (b := aG) rfl aI (fun P => ?_) (fun P => ?_)
 .have aJ := z01 P ae
  refine .seq (.region (W.p1 (.int .i64 4) (.nil (.ret ?_))))
  have aK := x.drop 0
  obtain rfl := zAa aJ
  exact z1m kr (v1 := (.int .i64 4)) (by rfl) rt aK N rfl
 have aL := z0h P ae
 refine .skip (.seq (.seq ?_))
 obtain ⟨aM, aN, aO⟩ := z00 aL
 refine AW.midT (fun C ak => ∃ (E : Bool) (B : GM), E = aM /\ Ow B ak (eVar l 50 z0d g :: L) /\ GM.le aH B /\ C 36 = .bool E) ?_ ?_
 rotate_left
 .rintro aX a7 aY ⟨al, a8, rfl, S, T, am⟩
  have U := z0a aO
  refine .cond (b := al) rfl am (fun q => ?_) (fun q => ?_)
  .have an := z01 q U
   refine .seq (.region (W.p1 (.int .i64 4) (.nil (.ret ?_))))
   have ao := S.drop 0
   obtain rfl := zAa an
   exact z1m kr (v1 := (.int .i64 4)) (by rfl) rt ao (zAe N T) rfl
  have ap := z0h q U
  refine .skip (.seq (.region (W.p1 (.int .i64 0) (.nil (.ret ?_)))))
  have aq := S.drop 0
  obtain rfl := zAa ap
  exact z1m kr (v1 := (.int .i64 0)) (by rfl) rt aq (zAe N T) rfl
 refine .region (W.pv (padd (.pointer (some ⟨l, 0, none⟩)) 6) (z0f zjf (ou (ft (m 1 rfl) rfl)) (x.atVar (j := 0) rfl)) (W.l1 (.int .i64 g.Limit) ag3 (z0i rfl (At.int (At.proj (x.atVar (j := 0) rfl) z4v))) ?_))
 obtain ⟨y, aP, af⟩ := z00 aN
 refine W.ln (Lo.cQ Tryz.f63 (mc rfl (mc rfl (mc rfl mn))) x (fun F i => z0m K g.Limit 0 100000 i _ aP)) ?_
 rintro bp bq ⟨br, k, V, a9, rfl⟩
 refine W.pv (.bool (!y)) (z1g (a := y) ov) (W.p2 (.bool (!y)) (W.splitAt (t := 23) (b := (!y)) rfl (fun Y c => ?_) (fun Y c => ?_)))
 .have aQ := z01 Y af
  refine W.q6 rfl c (W.q6 rfl c (W.q6 rfl c (W.q6 rfl c (W.q6 rfl c (W.q6 rfl c (W.q4 (.bool true) c rfl ?_))))))
  refine W.p2 (.bool true) (W.q6 rfl rfl (W.q6 rfl rfl (W.q6 rfl rfl (W.q6 rfl rfl (W.q4 (.bool true) rfl rfl (.nil ?_))))))
  obtain rfl := zAa aQ
  exact ⟨true, _, rfl, k, V, rfl⟩
 have aR := z0h Y af
 refine W.pure (v := (padd (.pointer (some ⟨l, 0, none⟩)) 7)) (gl rfl c) rfl (z0f zno (ou (ft (m 1 rfl) rfl)) (k.atVar (j := 0) rfl)) (W.load1 (v := (.int .i64 g.Short)) (r := []) (gl rfl c) rfl ag3 (z0i rfl (At.int (At.proj (k.atVar (j := 0) rfl) z73))) (W.pure (v := (padd (.pointer (some ⟨l, 0, none⟩)) 6)) (gl rfl c) rfl (z0f zjf (ou (ft (m 1 rfl) rfl)) (k.atVar (j := 0) rfl)) (W.load1 (v := (.int .i64 g.Limit)) (r := []) (gl rfl c) rfl ag3 (z0i rfl (At.int (At.proj (k.atVar (j := 0) rfl) z4v))) ?_)))
 obtain ⟨p, aS, ag⟩ := z00 aR
 refine W.lo (gl rfl c) rfl (Lo.cQ Tryz.f63 (mc rfl (mc rfl (mc rfl mn))) k (fun F i => z0m K g.Short g.Limit 100000 i _ aS)) ?_
 rintro bs bt ⟨bu, z, ah, ba, rfl⟩
 refine W.pure (v := (.bool (!p))) (gl rfl c) rfl (z1g (a := p) ov) (W.q5 (.bool (!p)) c rfl (W.p2 (.bool (!p)) (W.splitAt (t := 31) (b := (!p)) rfl (fun Z f => ?_) (fun Z f => ?_))))
 .have aT := z01 Z ag
  refine W.q6 rfl f (W.q6 rfl f (W.q6 rfl f (W.q6 rfl f (W.q4 (.bool true) f rfl (.nil ?_)))))
  obtain rfl := zAa aT
  exact ⟨true, _, rfl, z, (zAe V ah), rfl⟩
 have aU := z0h Z ag
 refine W.pure (v := (padd (.pointer (some ⟨l, 0, none⟩)) 8)) (gl rfl f) rfl (z0f zjg (ou (ft (m 1 rfl) rfl)) (z.atVar (j := 0) rfl)) (W.load1 (v := (.int .i64 g.Hold)) (r := []) (gl rfl f) rfl ag3 (z0i rfl (At.int (At.proj (z.atVar (j := 0) rfl) z5n))) ?_)
 obtain ⟨A, aV, aW⟩ := z00 aU
 refine W.lo (gl rfl f) rfl (Lo.cQ Tryz.f63 (mc rfl (mc rfl (mc rfl mn))) z (fun F i => z0m K g.Hold 0 200000 i _ aV)) ?_
 rintro bb bc ⟨bd, ar, au, aZ, rfl⟩
 refine W.pure (v := (.bool (!A))) (gl rfl f) rfl (z1g (a := A) ov) (W.q5 (.bool (!A)) f rfl (.nil ?_))
 obtain rfl := zAa aW
 exact ⟨(!A), _, rfl, ar, (zAe V (zAe ah au)), rfl⟩
def z0s (K : Nat) (d : Network) : Nat -> Netmodel_names -> List zAd -> Int -> Option ((Int × Netmodel_names) ⊕ (Netmodel_names × List zAd))
  | 0, _, _, _ => none
  | k + 1, h, e, c => (if (decide (c < (d.Gens.length : Int))) = true then ((idx d.Gens c).bind fun a => ((z1r K d (Netmodel_names.mk e) a.Name [a.Node]).bind fun b => (if (b.1 != 0) = true then some (.inl (b.1, (Netmodel_names.mk b.2.l))) else (Option.bind (((z0l K a.Least 0 100000).bind fun i => (if (!i) = true then some true else ((z0l K a.Most a.Least 100000).bind fun j => (if (!j) = true then some true else ((z0l K a.Ramp 0 100000).bind fun f => some (!f))))))) (tu1 fun g => (if g = true then some (.inl (4, (Netmodel_names.mk b.2.l))) else z0s K d k b.2 b.2.l (z03 .i64 (c + 1)))))))) else some (.inr (h, e)))
def z0t (K : Nat) (e : Network) : Nat -> Netmodel_names -> List zAd -> Int -> Option ((Int × Netmodel_names) ⊕ (Netmodel_names × List zAd))
  | 0, _, _, _ => none
  | k + 1, f, d, b => (if (decide (b < (e.Loads.length : Int))) = true then ((idx e.Loads b).bind fun c => ((z1r K e (Netmodel_names.mk d) c.Name [c.Node]).bind fun a => (if (a.1 != 0) = true then some (.inl (a.1, (Netmodel_names.mk a.2.l))) else ((z0l K c.Demand 0 100000).bind fun g => (if (!g) = true then some (.inl (4, (Netmodel_names.mk a.2.l))) else z0t K e k a.2 a.2.l (z03 .i64 (b + 1))))))) else some (.inr (f, d)))
def z0u (K : Nat) (e : Network) : Nat -> Netmodel_names -> List zAd -> Int -> Option ((Int × Netmodel_names) ⊕ (Netmodel_names × List zAd))
  | 0, _, _, _ => none
  | k + 1, f, d, c => (if (decide (c < (e.Stores.length : Int))) = true then ((idx e.Stores c).bind fun b => ((z1r K e (Netmodel_names.mk d) b.Name [b.Node]).bind fun a => (if (a.1 != 0) = true then some (.inl (a.1, (Netmodel_names.mk a.2.l))) else (Option.bind (((z0l K b.Charge 0 100000).bind fun g => (if (!g) = true then some true else ((z0l K b.Discharge 0 100000).bind fun h => (if (!h) = true then some true else ((z0l K b.Capacity 0 100000).bind fun i => some (!i))))))) (tu1 fun j => (if j = true then some (.inl (4, (Netmodel_names.mk a.2.l))) else z0u K e k a.2 a.2.l (z03 .i64 (c + 1)))))))) else some (.inr (f, d)))
def z3x (K : Nat) (a : Network) (n : Netmodel_names) : Option (Int × Netmodel_names) := (z70 (z0s K a K n n.l 0) (tu2 fun b c => some (b, c)) (tu2 fun d e => (z70 (z0t K a K d e 0) (tu2 fun f g => some (f, g)) (tu2 fun h i => (z70 (z0u K a K h i 0) (tu2 fun j k => some (j, k)) (tu2 fun o m => some (0, (Netmodel_names.mk m))))))))
theorem za7 (b4 : List Value) (i : Network) (dH : z07.rep G b4 i) (A : Nat) (v1 : Value) (a9 : Netmodel_names) (O : Ow G H (eVar A 92 z0b (a9, v1) :: eSl v1 9 rS a9.l :: L)) (r : Int × Netmodel_names) (h : z3x K i a9 = some r) :
    CRF Tryz.prog 38 [.agg b4.toArray, .pointer (some ⟨A, 0, none⟩)] G H (fun wl => (eVar A 92 z0b (r.2, wl) :: eSl wl 9 rS r.2.l :: L)) (fun wl v m => v = .int .i64 r.1) := by
 unfold z3x at h
 refine CRF.og (n := 109) (fn := Tryz.f38) (by kernel_rfl) rfl rfl fun R kr => (.seq (.region (W.ln (Lo.box (r := z07) (x0 := i) (v := (.agg b4.toArray)) rfl rfl dH O) ?_)))
 rintro fH fI ⟨X, rfl, b5, fr⟩
 refine W.p1 (.int .i64 0) (.nil (.seq (.seq (.region (W.pv (padd (.pointer (some ⟨X, 0, none⟩)) 3) (z0f zlc ov (b5.atVar (j := 0) rfl)) ?_)))))
 obtain ⟨dI, ex, b6⟩ := At.sl (At.proj (b5.atVar (j := 0) rfl) z60)
 refine W.l1 dI ag25 (z0i rfl ex) (W.pv (.int .i64 (i.Gens.length : Int)) (z0q ov (z0g b6) (z05 el25)) (W.p2 (.int .i64 0) (.nil ?_)))
 obtain ⟨dJ, dK, ba⟩ := z1w h
 refine AW.midT (fun z F => ∃ (p : Netmodel_names) (B : List zAd) (w_k1 : Value) (m : GM), (.inr (p, B)) = dJ /\ Ow m F (eVar X 29 z07 i :: eVar A 92 z0b (p, w_k1) :: eSl w_k1 9 rS B :: L) /\ GM.le G m) ?_ ?_
 .refine .block (AW.loop (α := Nat) (fun Y z F => ∃ (p : Netmodel_names) (B : List zAd) (ax : Int) (w_k1 : Value) (m : GM), z0s K i Y p B ax = some dJ /\ Ow m F (eVar X 29 z07 i :: eVar A 92 z0b (p, w_k1) :: eSl w_k1 9 rS B :: L) /\ GM.le G m /\ z 17 = .int .i64 ax) (fun Y => Y) K ⟨a9, a9.l, 0, v1, _, dK, b5, (zAf _), rfl⟩ ?_)
  rintro bb
  rintro ey fs ah ⟨dL, bS, ad, bT, fu, a5, bc, ae, bd⟩
  rcases bb with _ | bb
  .exact z09 a5
  rw [z0s] at a5
  refine .seq (.region (W.q3 (.bool (decide (ad < (i.Gens.length : Int)))) bd (ft (ah 16 rfl) rfl) (.nil (.seq (.cond (b := decide (ad < (i.Gens.length : Int))) rfl rfl (fun be => ?_) (fun be => ?_))))))
  rotate_left
  .have b7 := z0h be a5
   refine .exit ?_
   obtain rfl := zAa b7
   exact ⟨dL, bS, bT, _, rfl, bc, ae⟩
  have dM := z01 be a5
  refine .skip (.seq (.block (.seq (.region ?_))))
  obtain ⟨k, dN, dO⟩ := z00 dM
  have bf := z0c dN
  refine W.pv (z1v dI (ad.toNat * 5)) (z2a el25 sz85 (ou (ft (ah 15 rfl) rfl)) (ou bd) (z0g (RT.mono _ ae b6)) bf.1 bf.2.1) ?_
  obtain ⟨bU, dP, bV⟩ := (At.le (At.le (z1h b6 bf.2.2) ae ae) (zAf _) bc.fro)
  refine W.loadA (cs := bU) rfl rfl ag85 sz85 (z0i rfl dP) (RT.len _ bV) (W.ln (Lo.alloc (r := z8v) (x0 := (Gen.mk ByteArray.empty ByteArray.empty 0 0 0)) ze85 (by kernel_rfl) zuk bc) ?_)
  rintro fv fw ⟨Z, rfl, dQ, ez⟩
  refine W.ln (Lo.storeVar (j := 0) (s := z8v) (y0 := k) (v := (.agg bU.toArray)) (o := 0) rfl ((Put.at (Put.self _) _ _)) rfl sz85 rfl (by omega) rfl bV dQ) ?_
  rintro fx fy ⟨af, eA⟩
  refine .nil (.seq (.seq (.region ?_)))
  obtain ⟨bW, dR, bX⟩ := (af.atVar (j := 1) rfl)
  refine W.loadA (cs := bW) rfl rfl ag29 sz29 (z0i (ft (ah 2 rfl) rfl) dR) (RT.len _ bX) (W.q2 (.pointer (some ⟨A, 0, none⟩)) (ft (ah 1 rfl) rfl) (W.pv (padd (.pointer (some ⟨Z, 0, none⟩)) 0) (z0f zrw ov (af.atVar (j := 0) rfl)) (W.l1 (.string k.Name) ag9 (z0i rfl (At.str (At.proj (af.atVar (j := 0) rfl) zgs))) (W.pv (padd (.pointer (some ⟨Z, 0, none⟩)) 1) (z0f zrx ov (af.atVar (j := 0) rfl)) (W.l1 (.string k.Node) ag9 (z0i rfl (At.str (At.proj (af.atVar (j := 0) rfl) zgt))) (W.ln (Lo.buildSlice (r := rS) (vs := [(.string k.Node)]) (xs := [k.Node]) el22 ze9 sz9 (by kernel_rfl) rfl (qc rfl qn) rfl (.cons rfl .nil) af) ?_))))))
  rintro dS fz ⟨dT, eB⟩
  obtain ⟨fA, dU, bg, dV⟩ := dT.frzSl (j := 0) rfl
  have dW := (((dU.front (j := 1) rfl).front (j := 1) rfl).front (j := 3) rfl).front (j := 3) rfl
  obtain ⟨C, dX, bY⟩ := z00 dO
  refine W.ln (Lo.qF Tryz.f36 (ps := [_, _]) (pw := fun w => [_, _]) (mc rfl (mc rfl (mc rfl (mc rfl mn)))) dW (fun ai u => z38 K bW i (RT.mono _ bg bX) A bT (Netmodel_names.mk bS) k.Name dS [k.Node] dV u _ dX)) ?_
  rintro fB fC ⟨ay, dY, a6, bZ, eC, rfl⟩
  refine W.p1 (.int .i64 C.1) (.nil (.seq (.region (W.p2 (.int .i64 C.1) (W.p3 (.bool (C.1 != 0)) (.nil ?_))))))
  refine .cond (b := (C.1 != 0)) rfl rfl (fun bh => ?_) (fun bh => ?_)
  .have dZ := z01 bh bY
   refine .seq (.region (W.p2 (.int .i64 C.1) (W.p1 (.int .i64 C.1) (.nil (.ret ?_)))))
   have d0 := (a6.drop 2).drop 2
   obtain rfl := zAa dZ
   have d1 := z3c (z3z ba)
   obtain rfl := zAa d1
   exact z4j kr ay (v1 := (.int .i64 C.1)) (by rfl) rt d0 (zAe ae (zAe bg bZ)) rfl
  have d2 := z0h bh bY
  refine .skip (.seq ?_)
  obtain ⟨d3, d4, d5⟩ := z00 d2
  refine AW.midT (fun z F => ∃ (p : Bool) (m : GM), p = d3 /\ Ow m F (eVar A 92 z0b (C.2, ay) :: eSl ay 9 rS C.2.l :: eVar Z 85 z8v k :: eVar X 29 z07 i :: L) /\ GM.le dY m /\ z 49 = .bool p) ?_ ?_
  rotate_left
  .rintro eb eD bQ ⟨b8, eE, rfl, bi, b9, ca⟩
   have b0 := zAe ae (zAe bg (zAe bZ b9))
   have bj := z0a d5
   refine .cond (b := b8) rfl ca (fun aA => ?_) (fun aA => ?_)
   .have cb := z01 aA bj
    refine .seq (.region (W.p1 (.int .i64 4) (.nil (.ret ?_))))
    have cc := (bi.drop 2).drop 2
    obtain rfl := zAa cb
    have cd := z3c (z3z ba)
    obtain rfl := zAa cd
    exact z4j kr ay (v1 := (.int .i64 4)) (by rfl) rt cc b0 rfl
   have ce := z0h aA bj
   refine .skip (.region (W.q3 (.int .i64 (z03 .i64 (ad + 1))) (ft (bQ 17 rfl) bd) rfl (W.p2 (.int .i64 (z03 .i64 (ad + 1))) (.nil ?_))))
   have cf := (((bi.drop 2).front (j := 1) rfl).front (j := 1) rfl).front (j := 2) rfl
   exact ⟨bb, zAg _, ⟨C.2, C.2.l, z03 .i64 (ad + 1), ay, _, ce, cf, b0, rfl⟩⟩
  refine .region (W.pv (padd (.pointer (some ⟨Z, 0, none⟩)) 2) (z0f zns ov (a6.atVar (j := 2) rfl)) (W.l1 (.int .i64 k.Least) ag3 (z0i rfl (At.int (At.proj (a6.atVar (j := 2) rfl) za0))) ?_))
  obtain ⟨a7, d6, b1⟩ := z00 d4
  refine W.ln (Lo.cQ Tryz.f63 (mc rfl (mc rfl (mc rfl mn))) a6 (fun ai u => z0m K k.Least 0 100000 u _ d6)) ?_
  rintro fD fE ⟨fF, ag, bk, eF, rfl⟩
  refine W.pv (.bool (!a7)) (z1g (a := a7) ov) (W.p2 (.bool (!a7)) (W.splitAt (t := 36) (b := (!a7)) rfl (fun bl c => ?_) (fun bl c => ?_)))
  .have d7 := z01 bl b1
   refine W.q6 rfl c (W.q6 rfl c (W.q6 rfl c (W.q6 rfl c (W.q6 rfl c (W.q6 rfl c (W.q4 (.bool true) c rfl ?_))))))
   refine W.p2 (.bool true) (W.q6 rfl rfl (W.q6 rfl rfl (W.q6 rfl rfl (W.q6 rfl rfl (W.q4 (.bool true) rfl rfl (.nil ?_))))))
   obtain rfl := zAa d7
   exact ⟨true, _, rfl, ag, bk, rfl⟩
  have d8 := z0h bl b1
  refine W.pure (v := (padd (.pointer (some ⟨Z, 0, none⟩)) 3)) (gl rfl c) rfl (z0f zry ov (ag.atVar (j := 2) rfl)) (W.load1 (v := (.int .i64 k.Most)) (r := []) (gl rfl c) rfl ag3 (z0i rfl (At.int (At.proj (ag.atVar (j := 2) rfl) zgu))) (W.pure (v := (padd (.pointer (some ⟨Z, 0, none⟩)) 2)) (gl rfl c) rfl (z0f zns ov (ag.atVar (j := 2) rfl)) (W.load1 (v := (.int .i64 k.Least)) (r := []) (gl rfl c) rfl ag3 (z0i rfl (At.int (At.proj (ag.atVar (j := 2) rfl) za0))) ?_)))
  obtain ⟨az, d9, b2⟩ := z00 d8
  refine W.lo (gl rfl c) rfl (Lo.cQ Tryz.f63 (mc rfl (mc rfl (mc rfl mn))) ag (fun ai u => z0m K k.Most k.Least 100000 u _ d9)) ?_
  rintro eG eH ⟨fG, a8, b3, ec, rfl⟩
  refine W.pure (v := (.bool (!az))) (gl rfl c) rfl (z1g (a := az) ov) (W.q5 (.bool (!az)) c rfl (W.p2 (.bool (!az)) (W.splitAt (t := 44) (b := (!az)) rfl (fun aB d => ?_) (fun aB d => ?_))))
  .have cg := z01 aB b2
   refine W.q6 rfl d (W.q6 rfl d (W.q6 rfl d (W.q6 rfl d (W.q4 (.bool true) d rfl (.nil ?_)))))
   obtain rfl := zAa cg
   exact ⟨true, _, rfl, a8, (zAe bk b3), rfl⟩
  have ch := z0h aB b2
  refine W.pure (v := (padd (.pointer (some ⟨Z, 0, none⟩)) 4)) (gl rfl d) rfl (z0f zrz ov (a8.atVar (j := 2) rfl)) (W.load1 (v := (.int .i64 k.Ramp)) (r := []) (gl rfl d) rfl ag3 (z0i rfl (At.int (At.proj (a8.atVar (j := 2) rfl) zgv))) ?_)
  obtain ⟨aj, ci, cj⟩ := z00 ch
  refine W.lo (gl rfl d) rfl (Lo.cQ Tryz.f63 (mc rfl (mc rfl (mc rfl mn))) a8 (fun ai u => z0m K k.Ramp 0 100000 u _ ci)) ?_
  rintro eI eJ ⟨eK, ck, cl, ed, rfl⟩
  refine W.pure (v := (.bool (!aj))) (gl rfl d) rfl (z1g (a := aj) ov) (W.q5 (.bool (!aj)) d rfl (.nil ?_))
  obtain rfl := zAa cj
  exact ⟨(!aj), _, rfl, ck, (zAe bk (zAe b3 cl)), rfl⟩
 rintro ee eL E ⟨cm, cn, co, bm, rfl, aC, aa⟩
 have cp := z3c (z72 ba)
 refine .seq (.seq (.region (W.pv (padd (.pointer (some ⟨X, 0, none⟩)) 4) (z0f zld (ou (ft (E 2 rfl) rfl)) (aC.atVar (j := 0) rfl)) ?_)))
 obtain ⟨bn, cq, aD⟩ := At.sl (At.proj (aC.atVar (j := 0) rfl) z57)
 refine W.l1 bn ag26 (z0i rfl cq) (W.pv (.int .i64 (i.Loads.length : Int)) (z0q ov (z0g aD) (z05 el26)) (W.p2 (.int .i64 0) (.nil ?_)))
 obtain ⟨bo, cr, aE⟩ := z1w cp
 refine AW.midT (fun z F => ∃ (p : Netmodel_names) (B : List zAd) (w_k1 : Value) (m : GM), (.inr (p, B)) = bo /\ Ow m F (eVar X 29 z07 i :: eVar A 92 z0b (p, w_k1) :: eSl w_k1 9 rS B :: L) /\ GM.le bm m) ?_ ?_
 .refine .block (AW.loop (α := Nat) (fun Y z F => ∃ (p : Netmodel_names) (B : List zAd) (ax : Int) (w_k1 : Value) (m : GM), z0t K i Y p B ax = some bo /\ Ow m F (eVar X 29 z07 i :: eVar A 92 z0b (p, w_k1) :: eSl w_k1 9 rS B :: L) /\ GM.le bm m /\ z 54 = .int .i64 ax) (fun Y => Y) K ⟨cm, cn, 0, co, _, cr, aC, (zAf _), rfl⟩ ?_)
  rintro aF
  rintro ef eM U ⟨ct, bp, M, bq, eN, ak, aG, I, aH⟩
  rcases aF with _ | aF
  .exact z09 ak
  rw [z0t] at ak
  refine .seq (.region (W.q3 (.bool (decide (M < (i.Loads.length : Int)))) aH (ft (U 53 rfl) rfl) (.nil (.seq (.cond (b := decide (M < (i.Loads.length : Int))) rfl rfl (fun aI => ?_) (fun aI => ?_))))))
  rotate_left
  .have cu := z0h aI ak
   refine .exit ?_
   obtain rfl := zAa cu
   exact ⟨ct, bp, bq, _, rfl, aG, I⟩
  have cv := z01 aI ak
  refine .skip (.seq (.block (.seq (.region ?_))))
  obtain ⟨x, cw, cx⟩ := z00 cv
  have aJ := z0c cw
  refine W.pv (z1v bn (M.toNat * 3)) (z2a el26 sz87 (ou (ft (U 52 rfl) rfl)) (ou aH) (z0g (RT.mono _ I aD)) aJ.1 aJ.2.1) ?_
  obtain ⟨br, cy, bs⟩ := (At.le (At.le (z1h aD aJ.2.2) I I) (zAf _) aG.fro)
  refine W.loadA (cs := br) rfl rfl ag87 sz87 (z0i rfl cy) (RT.len _ bs) (W.ln (Lo.alloc (r := z2p) (x0 := (Load_.mk ByteArray.empty ByteArray.empty 0)) ze87 (by kernel_rfl) zp5 aG) ?_)
  rintro eO eP ⟨aK, rfl, cz, eg⟩
  refine W.ln (Lo.storeVar (j := 0) (s := z2p) (y0 := x) (v := (.agg br.toArray)) (o := 0) rfl ((Put.at (Put.self _) _ _)) rfl sz87 rfl (by omega) rfl bs cz) ?_
  rintro eQ eR ⟨N, eh⟩
  refine .nil (.seq (.seq (.region ?_)))
  obtain ⟨bt, cA, bu⟩ := (N.atVar (j := 1) rfl)
  refine W.loadA (cs := bt) rfl rfl ag29 sz29 (z0i (ft (U 2 rfl) (ft (E 2 rfl) rfl)) cA) (RT.len _ bu) (W.q2 (.pointer (some ⟨A, 0, none⟩)) (ft (U 1 rfl) (ft (E 1 rfl) rfl)) (W.pv (padd (.pointer (some ⟨aK, 0, none⟩)) 0) (z0f zs0 ov (N.atVar (j := 0) rfl)) (W.l1 (.string x.Name) ag9 (z0i rfl (At.str (At.proj (N.atVar (j := 0) rfl) zdc))) (W.pv (padd (.pointer (some ⟨aK, 0, none⟩)) 1) (z0f zs1 ov (N.atVar (j := 0) rfl)) (W.l1 (.string x.Node) ag9 (z0i rfl (At.str (At.proj (N.atVar (j := 0) rfl) zdd))) (W.ln (Lo.buildSlice (r := rS) (vs := [(.string x.Node)]) (xs := [x.Node]) el22 ze9 sz9 (by kernel_rfl) rfl (qc rfl qn) rfl (.cons rfl .nil) N) ?_))))))
  rintro cB eS ⟨cC, ei⟩
  obtain ⟨eT, cD, al, cE⟩ := cC.frzSl (j := 0) rfl
  have cF := (((cD.front (j := 1) rfl).front (j := 1) rfl).front (j := 3) rfl).front (j := 3) rfl
  obtain ⟨y, cG, bv⟩ := z00 cx
  refine W.ln (Lo.qF Tryz.f36 (ps := [_, _]) (pw := fun w => [_, _]) (mc rfl (mc rfl (mc rfl (mc rfl mn)))) cF (fun ai u => z38 K bt i (RT.mono _ al bu) A bq (Netmodel_names.mk bp) x.Name cB [x.Node] cE u _ cG)) ?_
  rintro eU eV ⟨aL, eW, am, aM, ej, rfl⟩
  refine W.p1 (.int .i64 y.1) (.nil (.seq (.region (W.p2 (.int .i64 y.1) (W.p3 (.bool (y.1 != 0)) (.nil ?_))))))
  refine .cond (b := (y.1 != 0)) rfl rfl (fun aN => ?_) (fun aN => ?_)
  .have cH := z01 aN bv
   refine .seq (.region (W.p2 (.int .i64 y.1) (W.p1 (.int .i64 y.1) (.nil (.ret ?_)))))
   have cI := (am.drop 2).drop 2
   obtain rfl := zAa cH
   have cJ := z3c (z3z aE)
   obtain rfl := zAa cJ
   exact z4j kr aL (v1 := (.int .i64 y.1)) (by rfl) rt cI (zAe aa (zAe I (zAe al aM))) rfl
  have cK := z0h aN bv
  refine .skip (.seq (.region (W.pv (padd (.pointer (some ⟨aK, 0, none⟩)) 2) (z0f zs2 ov (am.atVar (j := 2) rfl)) (W.l1 (.int .i64 x.Demand) ag3 (z0i rfl (At.int (At.proj (am.atVar (j := 2) rfl) zb7))) ?_))))
  obtain ⟨aO, cL, bw⟩ := z00 cK
  refine W.ln (Lo.cQ Tryz.f63 (mc rfl (mc rfl (mc rfl mn))) am (fun ai u => z0m K x.Demand 0 100000 u _ cL)) ?_
  rintro eX eY ⟨eZ, bx, bz, ek, rfl⟩
  refine W.pv (.bool (!aO)) (z1g (a := aO) ov) (.nil (.cond (b := (!aO)) rfl rfl (fun aP => ?_) (fun aP => ?_)))
  .have cM := z01 aP bw
   refine .seq (.region (W.p1 (.int .i64 4) (.nil (.ret ?_))))
   have cN := (bx.drop 2).drop 2
   obtain rfl := zAa cM
   have cO := z3c (z3z aE)
   obtain rfl := zAa cO
   exact z4j kr aL (v1 := (.int .i64 4)) (by rfl) rt cN (zAe aa (zAe I (zAe al (zAe aM bz)))) rfl
  have cP := z0h aP bw
  refine .skip (.region (W.r3 (.int .i64 (z03 .i64 (M + 1))) aH (W.p2 (.int .i64 (z03 .i64 (M + 1))) (.nil ?_))))
  have cR := (((bx.drop 2).front (j := 1) rfl).front (j := 1) rfl).front (j := 2) rfl
  exact ⟨aF, zAg _, ⟨y.2, y.2.l, z03 .i64 (M + 1), aL, _, cP, cR, (zAe I (zAe al (zAe aM bz))), rfl⟩⟩
 rintro el e0 an ⟨cS, cT, cU, bA, rfl, aQ, aR⟩
 have cV := z3c (z72 aE)
 refine .seq (.seq (.region (W.pv (padd (.pointer (some ⟨X, 0, none⟩)) 5) (z0f zle (ou (ft (an 2 rfl) (ft (E 2 rfl) rfl))) (aQ.atVar (j := 0) rfl)) ?_)))
 obtain ⟨bB, cW, aS⟩ := At.sl (At.proj (aQ.atVar (j := 0) rfl) z4n)
 refine W.l1 bB ag27 (z0i rfl cW) (W.pv (.int .i64 (i.Stores.length : Int)) (z0q ov (z0g aS) (z05 el27)) (W.p2 (.int .i64 0) (.nil ?_)))
 obtain ⟨bC, cX, aT⟩ := z1w cV
 refine AW.midT (fun z F => ∃ (p : Netmodel_names) (B : List zAd) (w_k1 : Value) (m : GM), (.inr (p, B)) = bC /\ Ow m F (eVar X 29 z07 i :: eVar A 92 z0b (p, w_k1) :: eSl w_k1 9 rS B :: L) /\ GM.le bA m) ?_ ?_
 rotate_left
 .rintro em e1 en ⟨e2, e3, cY, e4, rfl, cZ, c0⟩
  have c1 := z3c (z72 aT)
  refine .seq (.region (W.p1 (.int .i64 0) (.nil (.ret ?_))))
  have c2 := cZ.drop 0
  obtain rfl := zAa c1
  exact z4j kr cY (v1 := (.int .i64 0)) (by rfl) rt c2 (zAe aa (zAe aR c0)) rfl
 refine .block (AW.loop (α := Nat) (fun Y z F => ∃ (p : Netmodel_names) (B : List zAd) (ax : Int) (w_k1 : Value) (m : GM), z0u K i Y p B ax = some bC /\ Ow m F (eVar X 29 z07 i :: eVar A 92 z0b (p, w_k1) :: eSl w_k1 9 rS B :: L) /\ GM.le bA m /\ z 77 = .int .i64 ax) (fun Y => Y) K ⟨cS, cT, 0, cU, _, cX, aQ, (zAf _), rfl⟩ ?_)
 rintro aU
 rintro eo e5 V ⟨c3, bD, P, bE, e6, ao, aV, J, aW⟩
 rcases aU with _ | aU
 .exact z09 ao
 rw [z0u] at ao
 refine .seq (.region (W.q3 (.bool (decide (P < (i.Stores.length : Int)))) aW (ft (V 76 rfl) rfl) (.nil (.seq (.cond (b := decide (P < (i.Stores.length : Int))) rfl rfl (fun aX => ?_) (fun aX => ?_))))))
 rotate_left
 .have c4 := z0h aX ao
  refine .exit ?_
  obtain rfl := zAa c4
  exact ⟨c3, bD, bE, _, rfl, aV, J⟩
 have c5 := z01 aX ao
 refine .skip (.seq (.block (.seq (.region ?_))))
 obtain ⟨e, c6, c7⟩ := z00 c5
 have aY := z0c c6
 refine W.pv (z1v bB (P.toNat * 5)) (z2a el27 zoy (ou (ft (V 75 rfl) rfl)) (ou aW) (z0g (RT.mono _ J aS)) aY.1 aY.2.1) ?_
 obtain ⟨bF, c8, bG⟩ := (At.le (At.le (z1h aS aY.2.2) J J) (zAf _) aV.fro)
 refine W.loadA (cs := bF) rfl rfl zug zoy (z0i rfl c8) (RT.len _ bG) (W.ln (Lo.alloc (r := z2d) (x0 := (Store.mk ByteArray.empty ByteArray.empty 0 0 0)) ztb (by kernel_rfl) zp6 aV) ?_)
 rintro e7 e8 ⟨S, rfl, c9, ep⟩
 refine W.ln (Lo.storeVar (j := 0) (s := z2d) (y0 := e) (v := (.agg bF.toArray)) (o := 0) rfl ((Put.at (Put.self _) _ _)) rfl zoy rfl (by omega) rfl bG c9) ?_
 rintro e9 fa ⟨T, eq⟩
 refine .nil (.seq (.seq (.region ?_)))
 obtain ⟨bH, da, bI⟩ := (T.atVar (j := 1) rfl)
 refine W.loadA (cs := bH) rfl rfl ag29 sz29 (z0i (ft (V 2 rfl) (ft (an 2 rfl) (ft (E 2 rfl) rfl))) da) (RT.len _ bI) (W.q2 (.pointer (some ⟨A, 0, none⟩)) (ft (V 1 rfl) (ft (an 1 rfl) (ft (E 1 rfl) rfl))) (W.pv (padd (.pointer (some ⟨S, 0, none⟩)) 0) (z0f zoz ov (T.atVar (j := 0) rfl)) (W.l1 (.string e.Name) ag9 (z0i rfl (At.str (At.proj (T.atVar (j := 0) rfl) zde))) (W.pv (padd (.pointer (some ⟨S, 0, none⟩)) 1) (z0f zp0 ov (T.atVar (j := 0) rfl)) (W.l1 (.string e.Node) ag9 (z0i rfl (At.str (At.proj (T.atVar (j := 0) rfl) zdf))) (W.ln (Lo.buildSlice (r := rS) (vs := [(.string e.Node)]) (xs := [e.Node]) el22 ze9 sz9 (by kernel_rfl) rfl (qc rfl qn) rfl (.cons rfl .nil) T) ?_))))))
 rintro db fb ⟨dc, er⟩
 obtain ⟨fc, dd, ap, de⟩ := dc.frzSl (j := 0) rfl
 have df := (((dd.front (j := 1) rfl).front (j := 1) rfl).front (j := 3) rfl).front (j := 3) rfl
 obtain ⟨q, dg, bJ⟩ := z00 c7
 refine W.ln (Lo.qF Tryz.f36 (ps := [_, _]) (pw := fun w => [_, _]) (mc rfl (mc rfl (mc rfl (mc rfl mn)))) df (fun ai u => z38 K bH i (RT.mono _ ap bI) A bE (Netmodel_names.mk bD) e.Name db [e.Node] de u _ dg)) ?_
 rintro fd fe ⟨ab, dh, aq, aZ, es, rfl⟩
 refine W.p1 (.int .i64 q.1) (.nil (.seq (.region (W.p2 (.int .i64 q.1) (W.p3 (.bool (q.1 != 0)) (.nil ?_))))))
 refine .cond (b := (q.1 != 0)) rfl rfl (fun a0 => ?_) (fun a0 => ?_)
 .have di := z01 a0 bJ
  refine .seq (.region (W.p2 (.int .i64 q.1) (W.p1 (.int .i64 q.1) (.nil (.ret ?_)))))
  have dj := (aq.drop 2).drop 2
  obtain rfl := zAa di
  have dk := z3c (z3z aT)
  obtain rfl := zAa dk
  exact z4j kr ab (v1 := (.int .i64 q.1)) (by rfl) rt dj (zAe aa (zAe aR (zAe J (zAe ap aZ)))) rfl
 have dl := z0h a0 bJ
 refine .skip (.seq ?_)
 obtain ⟨dm, dn, dp⟩ := z00 dl
 refine AW.midT (fun z F => ∃ (p : Bool) (m : GM), p = dm /\ Ow m F (eVar A 92 z0b (q.2, ab) :: eSl ab 9 rS q.2.l :: eVar S 104 z2d e :: eVar X 29 z07 i :: L) /\ GM.le dh m /\ z 107 = .bool p) ?_ ?_
 rotate_left
 .rintro et ff bR ⟨dq, fg, rfl, bK, bL, dr⟩
  have ea := zAe aa (zAe aR (zAe J (zAe ap (zAe aZ bL))))
  have bM := z0a dp
  refine .cond (b := dq) rfl dr (fun a1 => ?_) (fun a1 => ?_)
  .have ds := z01 a1 bM
   refine .seq (.region (W.p1 (.int .i64 4) (.nil (.ret ?_))))
   have dt := (bK.drop 2).drop 2
   obtain rfl := zAa ds
   have du := z3c (z3z aT)
   obtain rfl := zAa du
   exact z4j kr ab (v1 := (.int .i64 4)) (by rfl) rt dt ea rfl
  have dv := z0h a1 bM
  refine .skip (.region (W.q3 (.int .i64 (z03 .i64 (P + 1))) (ft (bR 77 rfl) aW) rfl (W.p2 (.int .i64 (z03 .i64 (P + 1))) (.nil ?_))))
  have dw := (((bK.drop 2).front (j := 1) rfl).front (j := 1) rfl).front (j := 2) rfl
  exact ⟨aU, zAg _, ⟨q.2, q.2.l, z03 .i64 (P + 1), ab, _, dv, dw, (zAe J (zAe ap (zAe aZ bL))), rfl⟩⟩
 refine .region (W.pv (padd (.pointer (some ⟨S, 0, none⟩)) 2) (z0f zp1 ov (aq.atVar (j := 2) rfl)) (W.l1 (.int .i64 e.Charge) ag3 (z0i rfl (At.int (At.proj (aq.atVar (j := 2) rfl) zb8))) ?_))
 obtain ⟨ar, dx, bN⟩ := z00 dn
 refine W.ln (Lo.cQ Tryz.f63 (mc rfl (mc rfl (mc rfl mn))) aq (fun ai u => z0m K e.Charge 0 100000 u _ dx)) ?_
 rintro fh fi ⟨fj, au, a2, eu, rfl⟩
 refine W.pv (.bool (!ar)) (z1g (a := ar) ov) (W.p2 (.bool (!ar)) (W.splitAt (t := 96) (b := (!ar)) rfl (fun a3 f => ?_) (fun a3 f => ?_)))
 .have dy := z01 a3 bN
  refine W.q6 rfl f (W.q6 rfl f (W.q6 rfl f (W.q6 rfl f (W.q4 (.bool true) f rfl (W.p2 (.bool true) (W.q6 rfl rfl ?_))))))
  refine W.q6 rfl rfl (W.q6 rfl rfl (W.q6 rfl rfl (W.q4 (.bool true) rfl rfl (.nil ?_))))
  obtain rfl := zAa dy
  exact ⟨true, _, rfl, au, a2, rfl⟩
 have dz := z0h a3 bN
 refine W.pure (v := (padd (.pointer (some ⟨S, 0, none⟩)) 3)) (gl rfl f) rfl (z0f zp2 ov (au.atVar (j := 2) rfl)) (W.load1 (v := (.int .i64 e.Discharge)) (r := []) (gl rfl f) rfl ag3 (z0i rfl (At.int (At.proj (au.atVar (j := 2) rfl) z8w))) ?_)
 obtain ⟨ac, dA, bO⟩ := z00 dz
 refine W.lo (gl rfl f) rfl (Lo.cQ Tryz.f63 (mc rfl (mc rfl (mc rfl mn))) au (fun ai u => z0m K e.Discharge 0 100000 u _ dA)) ?_
 rintro fk fl ⟨fm, av, bP, ev, rfl⟩
 refine W.pure (v := (.bool (!ac))) (gl rfl f) rfl (z1g (a := ac) ov) (W.q5 (.bool (!ac)) f rfl (W.p2 (.bool (!ac)) (W.splitAt (t := 102) (b := (!ac)) rfl (fun a4 g => ?_) (fun a4 g => ?_))))
 .have dB := z01 a4 bO
  refine W.q6 rfl g (W.q6 rfl g (W.q6 rfl g (W.q6 rfl g (W.q4 (.bool true) g rfl (.nil ?_)))))
  obtain rfl := zAa dB
  exact ⟨true, _, rfl, av, (zAe a2 bP), rfl⟩
 have dC := z0h a4 bO
 refine W.pure (v := (padd (.pointer (some ⟨S, 0, none⟩)) 4)) (gl rfl g) rfl (z0f zp3 ov (av.atVar (j := 2) rfl)) (W.load1 (v := (.int .i64 e.Capacity)) (r := []) (gl rfl g) rfl ag3 (z0i rfl (At.int (At.proj (av.atVar (j := 2) rfl) z9a))) ?_)
 obtain ⟨aw, dD, dE⟩ := z00 dC
 refine W.lo (gl rfl g) rfl (Lo.cQ Tryz.f63 (mc rfl (mc rfl (mc rfl mn))) av (fun ai u => z0m K e.Capacity 0 100000 u _ dD)) ?_
 rintro fo fp ⟨fq, dF, dG, ew, rfl⟩
 refine W.pure (v := (.bool (!aw))) (gl rfl g) rfl (z1g (a := aw) ov) (W.q5 (.bool (!aw)) g rfl (.nil ?_))
 obtain rfl := zAa dE
 exact ⟨(!aw), _, rfl, dF, (zAe a2 (zAe bP dG)), rfl⟩
def z11 (K : Nat) (d : Network) : Nat -> Netmodel_names -> List zAd -> Int -> Option (Int ⊕ (Netmodel_names × List zAd))
  | 0, _, _, _ => none
  | k + 1, e, c, b => (if (decide (b < (d.Nodes.length : Int))) = true then ((idx d.Nodes b).bind fun f => ((z2j K (Netmodel_names.mk c) f).bind fun a => (if (a.1 != 0) = true then some (.inl a.1) else z11 K d k a.2 a.2.l (z03 .i64 (b + 1))))) else some (.inr (e, c)))
def z12 (K : Nat) (d : Network) : Nat -> Netmodel_names -> List zAd -> Int -> Option (Int ⊕ (Netmodel_names × List zAd))
  | 0, _, _, _ => none
  | k + 1, f, e, c => (if (decide (c < (d.Switches.length : Int))) = true then ((idx d.Switches c).bind fun a => ((z1r K d (Netmodel_names.mk e) a.Name [a.A, a.B]).bind fun b => (if (b.1 != 0) = true then some (.inl b.1) else (if (sEq a.A a.B) = true then some (.inl 3) else z12 K d k b.2 b.2.l (z03 .i64 (c + 1)))))) else some (.inr (f, e)))
def z13 (K : Nat) (f : Network) : Nat -> Netmodel_names -> List zAd -> Int -> Option (Int ⊕ (Netmodel_names × List zAd))
  | 0, _, _, _ => none
  | k + 1, g, d, c => (if (decide (c < (f.Branches.length : Int))) = true then ((idx f.Branches c).bind fun a => ((z1r K f (Netmodel_names.mk d) a.Name [a.From, a.To]).bind fun b => (if (b.1 != 0) = true then some (.inl b.1) else (if (sEq a.From a.To) = true then some (.inl 3) else ((z4b K a).bind fun e => (if (e != 0) = true then some (.inl e) else z13 K f k b.2 b.2.l (z03 .i64 (c + 1)))))))) else some (.inr (g, d)))
def z4p (K : Nat) (a : Network) : Option Int := ((z4o K a).bind fun i => (if (i != 0) = true then some i else (z70 (z11 K a K (Netmodel_names.mk ([] : List zAd)) [] 0) (tu1 fun b => some b) (tu2 fun j k => (z70 (z12 K a K j k 0) (tu1 fun c => some c) (tu2 fun d e => (z70 (z13 K a K d e 0) (tu1 fun f => some f) (tu2 fun l g => ((z3x K a (Netmodel_names.mk g)).bind fun h => some h.1)))))))))
theorem zba (bG : List Value) (d : Network) (cN : z07.rep G bG d) (O : Ow G H (L)) (r : Int) (h : z4p K d = some r) :
    CR Tryz.prog 17 [.agg bG.toArray] G H (L) (fun v g _ => v = .int .i64 r) := by
 unfold z4p at h
 refine CR.og (n := 90) (fn := Tryz.f17) (by kernel_rfl) rfl rfl fun R kr => (.seq (.region (W.ln (Lo.box (r := z07) (x0 := d) (v := (.agg bG.toArray)) rfl rfl cN O) ?_)))
 rintro el em ⟨Z, rfl, cO, d8⟩
 refine W.p1 (.int .i64 0) (.nil (.seq (.seq (.region ?_))))
 obtain ⟨cP, dw, cR⟩ := (cO.atVar (j := 0) rfl)
 refine W.loadA (cs := cP) rfl rfl ag29 sz29 (z0i rfl dw) (RT.len _ cR) ?_
 obtain ⟨ag, cS, bp⟩ := z00 h
 refine W.ln (Lo.cQ Tryz.f34 (mc rfl mn) cO (fun aE N => zb9 K cP d cR N _ cS)) ?_
 rintro d9 ea ⟨bq, br, ae, dx, rfl⟩
 refine W.p1 (.int .i64 ag) (.nil (.seq (.region (W.p2 (.int .i64 ag) (W.p3 (.bool (ag != 0)) (.nil ?_))))))
 refine .cond (b := (ag != 0)) rfl rfl (fun aF => ?_) (fun aF => ?_)
 .have cT := z01 aF bp
  refine .seq (.region (W.p2 (.int .i64 ag) (W.p1 (.int .i64 ag) (.nil (.ret ?_)))))
  have cU := br.drop 0
  obtain rfl := zAa cT
  exact z1m kr (v1 := (.int .i64 ag)) (by rfl) rt cU ae rfl
 have cV := z0h aF bp
 refine .skip (.seq (.region ?_))
 have cW := br.nilSl 9 rS
 refine W.ln (Lo.alloc (r := z0b) (x0 := ((Netmodel_names.mk ([] : List zAd)), .slice none 0 0)) ze92 (by kernel_rfl) (fun G => (zV G)) cW) ?_
 rintro eb ec ⟨u, rfl, aG, dy⟩
 refine .nil (.seq (.seq (.region (W.pv (padd (.pointer (some ⟨Z, 0, none⟩)) 0) (z0f zhp ov (aG.atVar (j := 2) rfl)) ?_))))
 obtain ⟨bs, cX, aH⟩ := At.sl (At.proj (aG.atVar (j := 2) rfl) z3l)
 refine W.l1 bs ag22 (z0i rfl cX) (W.pv (.int .i64 (d.Nodes.length : Int)) (z0q ov (z0g aH) (z05 el22)) (W.p2 (.int .i64 0) (.nil ?_)))
 obtain ⟨bt, cY, bu⟩ := z1w cV
 refine AW.midT (fun J P => ∃ (i : Netmodel_names) (k : List zAd) (w_l4 : Value) (g : GM), (.inr (i, k)) = bt /\ Ow g P (eVar u 92 z0b (i, w_l4) :: eSl w_l4 9 rS k :: eVar Z 29 z07 d :: L) /\ GM.le bq g) ?_ ?_
 .refine .block (AW.loop (α := Nat) (fun S J P => ∃ (i : Netmodel_names) (k : List zAd) (af : Int) (w_l4 : Value) (g : GM), z11 K d S i k af = some bt /\ Ow g P (eVar u 92 z0b (i, w_l4) :: eSl w_l4 9 rS k :: eVar Z 29 z07 d :: L) /\ GM.le bq g /\ J 23 = .int .i64 af) (fun S => S) K ⟨(Netmodel_names.mk ([] : List zAd)), [], 0, (.slice none 0 0), _, cY, aG, (zAf _), rfl⟩ ?_)
  rintro aI
  rintro dz ed ah ⟨cZ, bv, V, bw, ee, aB, aJ, X, aK⟩
  rcases aI with _ | aI
  .exact z09 aB
  rw [z11] at aB
  refine .seq (.region (W.q3 (.bool (decide (V < (d.Nodes.length : Int)))) aK (ft (ah 22 rfl) rfl) (.nil (.seq (.cond (b := decide (V < (d.Nodes.length : Int))) rfl rfl (fun aL => ?_) (fun aL => ?_))))))
  rotate_left
  .have c0 := z0h aL aB
   refine .exit ?_
   obtain rfl := zAa c0
   exact ⟨cZ, bv, bw, _, rfl, aJ, X⟩
  have c1 := z01 aL aB
  refine .skip (.seq (.block (.seq (.region ?_))))
  obtain ⟨aC, c2, c3⟩ := z00 c1
  have aM := z0c c2
  refine W.pv (z1v bs (V.toNat * 1)) (z2a el22 sz9 (ou (ft (ah 21 rfl) rfl)) (ou aK) (z0g (RT.mono _ X aH)) aM.1 aM.2.1) (W.l1 (.string aC) ag9 (z0i rfl (At.str (At.le (At.le (z1h aH aM.2.2) X X) (zAf _) aJ.fro))) (W.p1 (.string aC) (.nil (.seq (.region (W.p2 (.string aC) ?_))))))
  obtain ⟨z, c4, bx⟩ := z00 c3
  refine W.ln (Lo.qF Tryz.f35 (ps := [_, _]) (pw := fun w => [_, _]) (mc (ft (ah 4 rfl) rfl) (mc rfl mn)) aJ (fun aE N => z6a K u bw (Netmodel_names.mk bv) aC N _ c4)) ?_
  rintro ef eg ⟨c5, eh, bz, bA, dA, rfl⟩
  refine W.p1 (.int .i64 z.1) (.nil (.seq (.region (W.p2 (.int .i64 z.1) (W.p3 (.bool (z.1 != 0)) (.nil ?_))))))
  refine .cond (b := (z.1 != 0)) rfl rfl (fun aN => ?_) (fun aN => ?_)
  rotate_left
  .have c6 := z0h aN bx
   refine .skip (.region (W.r3 (.int .i64 (z03 .i64 (V + 1))) aK (W.p2 (.int .i64 (z03 .i64 (V + 1))) (.nil ?_))))
   exact ⟨aI, zAg _, ⟨z.2, z.2.l, z03 .i64 (V + 1), c5, _, c6, bz, (zAe X bA), rfl⟩⟩
  have c7 := z01 aN bx
  refine .seq (.region (W.p2 (.int .i64 z.1) (W.p1 (.int .i64 z.1) (.nil (.ret ?_)))))
  have c8 := ((bz.drop 0).drop 0).drop 0
  obtain rfl := zAa c7
  have c9 := z0a (z3z bu)
  obtain rfl := zAa c9
  exact z1m kr (v1 := (.int .i64 z.1)) (by rfl) rt c8 (zAe ae (zAe X bA)) rfl
 rintro dB ei m ⟨da, db, dc, bB, rfl, aO, aP⟩
 have dd := z3c (z72 bu)
 refine .seq (.seq (.region (W.pv (padd (.pointer (some ⟨Z, 0, none⟩)) 1) (z0f zlb (ou (ft (m 1 rfl) rfl)) (aO.atVar (j := 2) rfl)) ?_)))
 obtain ⟨bC, de, aQ⟩ := At.sl (At.proj (aO.atVar (j := 2) rfl) z3w)
 refine W.l1 bC ag23 (z0i rfl de) (W.pv (.int .i64 (d.Switches.length : Int)) (z0q ov (z0g aQ) (z05 el23)) (W.p2 (.int .i64 0) (.nil ?_)))
 obtain ⟨bD, df, aR⟩ := z1w dd
 refine AW.midT (fun J P => ∃ (i : Netmodel_names) (k : List zAd) (w_l4 : Value) (g : GM), (.inr (i, k)) = bD /\ Ow g P (eVar u 92 z0b (i, w_l4) :: eSl w_l4 9 rS k :: eVar Z 29 z07 d :: L) /\ GM.le bB g) ?_ ?_
 .refine .block (AW.loop (α := Nat) (fun S J P => ∃ (i : Netmodel_names) (k : List zAd) (af : Int) (w_l4 : Value) (g : GM), z12 K d S i k af = some bD /\ Ow g P (eVar u 92 z0b (i, w_l4) :: eSl w_l4 9 rS k :: eVar Z 29 z07 d :: L) /\ GM.le bB g /\ J 36 = .int .i64 af) (fun S => S) K ⟨da, db, 0, dc, _, df, aO, (zAf _), rfl⟩ ?_)
  rintro aS
  rintro dC ej aa ⟨dg, bE, Y, aT, ek, ab, aU, E, ai⟩
  rcases aS with _ | aS
  .exact z09 ab
  rw [z12] at ab
  refine .seq (.region (W.q3 (.bool (decide (Y < (d.Switches.length : Int)))) ai (ft (aa 35 rfl) rfl) (.nil (.seq (.cond (b := decide (Y < (d.Switches.length : Int))) rfl rfl (fun aj => ?_) (fun aj => ?_))))))
  rotate_left
  .have bH := z0h aj ab
   refine .exit ?_
   obtain rfl := zAa bH
   exact ⟨dg, bE, aT, _, rfl, aU, E⟩
  have bI := z01 aj ab
  refine .skip (.seq (.block (.seq (.region ?_))))
  obtain ⟨c, bJ, bK⟩ := z00 bI
  have ak := z0c bJ
  refine W.pv (z1v bC (Y.toNat * 5)) (z2a el23 sz83 (ou (ft (aa 34 rfl) rfl)) (ou ai) (z0g (RT.mono _ E aQ)) ak.1 ak.2.1) ?_
  obtain ⟨aV, bL, aW⟩ := (At.le (At.le (z1h aQ ak.2.2) E E) (zAf _) aU.fro)
  refine W.loadA (cs := aV) rfl rfl ag83 sz83 (z0i rfl bL) (RT.len _ aW) (W.ln (Lo.alloc (r := z1d) (x0 := (Switch.mk ByteArray.empty ByteArray.empty ByteArray.empty false false)) ze83 (by kernel_rfl) zlk aU) ?_)
  rintro dD dE ⟨T, rfl, bM, di⟩
  refine W.ln (Lo.storeVar (j := 0) (s := z1d) (y0 := c) (v := (.agg aV.toArray)) (o := 0) rfl ((Put.at (Put.self _) _ _)) rfl sz83 rfl (by omega) rfl aW bM) ?_
  rintro dF dG ⟨p, dj⟩
  refine .nil (.seq (.seq (.region ?_)))
  obtain ⟨aX, bN, aY⟩ := (p.atVar (j := 3) rfl)
  refine W.loadA (cs := aX) rfl rfl ag29 sz29 (z0i (ft (aa 1 rfl) (ft (m 1 rfl) rfl)) bN) (RT.len _ aY) (W.pv (padd (.pointer (some ⟨T, 0, none⟩)) 0) (z0f zrv ov (p.atVar (j := 0) rfl)) (W.l1 (.string c.Name) ag9 (z0i rfl (At.str (At.proj (p.atVar (j := 0) rfl) zc7))) (W.pv (padd (.pointer (some ⟨T, 0, none⟩)) 1) (z0f zq5 ov (p.atVar (j := 0) rfl)) (W.l1 (.string c.A) ag9 (z0i rfl (At.str (At.proj (p.atVar (j := 0) rfl) zd9))) (W.pv (padd (.pointer (some ⟨T, 0, none⟩)) 2) (z0f zq6 ov (p.atVar (j := 0) rfl)) (W.l1 (.string c.B) ag9 (z0i rfl (At.str (At.proj (p.atVar (j := 0) rfl) zda))) ?_))))))
  refine W.ln (Lo.buildSlice (r := rS) (vs := [(.string c.A), (.string c.B)]) (xs := [c.A, c.B]) el22 ze9 sz9 (by kernel_rfl) rfl (qc rfl (qc rfl qn)) rfl (.cons rfl (.cons rfl .nil)) p) ?_
  rintro bO dH ⟨bP, dk⟩
  obtain ⟨dI, bQ, al, bR⟩ := bP.frzSl (j := 0) rfl
  have bS := (((bQ.front (j := 3) rfl).front (j := 1) rfl).front (j := 3) rfl).front (j := 3) rfl
  obtain ⟨e, bT, aZ⟩ := z00 bK
  refine W.ln (Lo.qF Tryz.f36 (ps := [_, _]) (pw := fun w => [_, _]) (mc rfl (mc (ft (aa 4 rfl) (ft (m 4 rfl) rfl)) (mc rfl (mc rfl mn)))) bS (fun aE N => z38 K aX d (RT.mono _ al aY) u aT (Netmodel_names.mk bE) c.Name bO [c.A, c.B] bR N _ bT)) ?_
  rintro dJ dK ⟨bU, dL, x, a0, dl, rfl⟩
  have bF := zAe ae (zAe aP (zAe E (zAe al a0)))
  refine W.p1 (.int .i64 e.1) (.nil (.seq (.region (W.p2 (.int .i64 e.1) (W.p3 (.bool (e.1 != 0)) (.nil ?_))))))
  refine .cond (b := (e.1 != 0)) rfl rfl (fun am => ?_) (fun am => ?_)
  .have bV := z01 am aZ
   refine .seq (.region (W.p2 (.int .i64 e.1) (W.p1 (.int .i64 e.1) (.nil (.ret ?_)))))
   have bW := (((x.drop 0).drop 0).drop 0).drop 0
   obtain rfl := zAa bV
   have bX := z0a (z3z aR)
   obtain rfl := zAa bX
   exact z1m kr (v1 := (.int .i64 e.1)) (by rfl) rt bW bF rfl
  have a1 := z0h am aZ
  refine .skip (.seq (.region (W.pv (padd (.pointer (some ⟨T, 0, none⟩)) 1) (z0f zq5 ov (x.atVar (j := 2) rfl)) (W.l1 (.string c.A) ag9 (z0i rfl (At.str (At.proj (x.atVar (j := 2) rfl) zd9))) (W.pv (padd (.pointer (some ⟨T, 0, none⟩)) 2) (z0f zq6 ov (x.atVar (j := 2) rfl)) (W.l1 (.string c.B) ag9 (z0i rfl (At.str (At.proj (x.atVar (j := 2) rfl) zda))) ?_))))))
  refine W.pv (.bool (sEq c.A c.B)) (z90 ov ov) (.nil (.cond (b := sEq c.A c.B) rfl rfl (fun an => ?_) (fun an => ?_)))
  rotate_left
  .have bY := z0h an a1
   refine .skip (.region (W.r3 (.int .i64 (z03 .i64 (Y + 1))) ai (W.p2 (.int .i64 (z03 .i64 (Y + 1))) (.nil ?_))))
   have bZ := x.drop 2
   exact ⟨aS, zAg _, ⟨e.2, e.2.l, z03 .i64 (Y + 1), bU, _, bY, bZ, (zAe E (zAe al a0)), rfl⟩⟩
  have b0 := z01 an a1
  refine .seq (.region (W.p1 (.int .i64 3) (.nil (.ret ?_))))
  have b1 := (((x.drop 0).drop 0).drop 0).drop 0
  obtain rfl := zAa b0
  have b2 := z0a (z3z aR)
  obtain rfl := zAa b2
  exact z1m kr (v1 := (.int .i64 3)) (by rfl) rt b1 bF rfl
 rintro dm dM C ⟨b3, b4, b5, a2, rfl, ao, a3⟩
 have b6 := z3c (z72 aR)
 refine .seq (.seq (.region (W.pv (padd (.pointer (some ⟨Z, 0, none⟩)) 2) (z0f zd8 (ou (ft (C 1 rfl) (ft (m 1 rfl) rfl))) (ao.atVar (j := 2) rfl)) ?_)))
 obtain ⟨a4, b7, ap⟩ := At.sl (At.proj (ao.atVar (j := 2) rfl) z0z)
 refine W.l1 a4 ag24 (z0i rfl b7) (W.pv (.int .i64 (d.Branches.length : Int)) (z0q ov (z0g ap) (z05 el24)) (W.p2 (.int .i64 0) (.nil ?_)))
 obtain ⟨a5, b8, ac⟩ := z1w b6
 refine AW.midT (fun J P => ∃ (i : Netmodel_names) (k : List zAd) (w_l4 : Value) (g : GM), (.inr (i, k)) = a5 /\ Ow g P (eVar u 92 z0b (i, w_l4) :: eSl w_l4 9 rS k :: eVar Z 29 z07 d :: L) /\ GM.le a2 g) ?_ ?_
 rotate_left
 .rintro dn dN aD ⟨dO, b9, ca, dP, rfl, a6, cb⟩
  have cc := z3c (z72 ac)
  refine .seq (.region ?_)
  obtain ⟨a7, cd, a8⟩ := (a6.atVar (j := 2) rfl)
  refine W.loadA (cs := a7) rfl rfl ag29 sz29 (z0i (ft (aD 1 rfl) (ft (C 1 rfl) (ft (m 1 rfl) rfl))) cd) (RT.len _ a8) ?_
  obtain ⟨a9, ce, cf⟩ := z00 cc
  refine W.ln (Lo.qF Tryz.f38 (ps := [_, _]) (pw := fun w => [_, _]) (mc rfl (mc (ft (aD 4 rfl) (ft (C 4 rfl) (ft (m 4 rfl) rfl))) mn)) a6 (fun aE N => za7 K a7 d a8 u ca (Netmodel_names.mk b9) N _ ce)) ?_
  rintro dQ dR ⟨dS, dT, cg, ch, dp, rfl⟩
  refine W.p1 (.int .i64 a9.1) (.nil (.ret ?_))
  have ci := ((cg.drop 0).drop 0).drop 0
  obtain rfl := zAa cf
  exact z1m kr (v1 := (.int .i64 a9.1)) (by rfl) rt ci (zAe ae (zAe aP (zAe a3 (zAe cb ch)))) rfl
 refine .block (AW.loop (α := Nat) (fun S J P => ∃ (i : Netmodel_names) (k : List zAd) (af : Int) (w_l4 : Value) (g : GM), z13 K d S i k af = some a5 /\ Ow g P (eVar u 92 z0b (i, w_l4) :: eSl w_l4 9 rS k :: eVar Z 29 z07 d :: L) /\ GM.le a2 g /\ J 61 = .int .i64 af) (fun S => S) K ⟨b3, b4, 0, b5, _, b8, ao, (zAf _), rfl⟩ ?_)
 rintro aq
 rintro dq dU M ⟨cj, ba, F, bb, dV, ad, ar, I, au⟩
 rcases aq with _ | aq
 .exact z09 ad
 rw [z13] at ad
 refine .seq (.region (W.q3 (.bool (decide (F < (d.Branches.length : Int)))) au (ft (M 60 rfl) rfl) (.nil (.seq (.cond (b := decide (F < (d.Branches.length : Int))) rfl rfl (fun av => ?_) (fun av => ?_))))))
 rotate_left
 .have ck := z0h av ad
  refine .exit ?_
  obtain rfl := zAa ck
  exact ⟨cj, ba, bb, _, rfl, ar, I⟩
 have cl := z01 av ad
 refine .skip (.seq (.block (.seq (.region ?_))))
 obtain ⟨a, cm, cn⟩ := z00 cl
 have aw := z0c cm
 refine W.pv (z1v a4 (F.toNat * 9)) (z2a el24 sz50 (ou (ft (M 59 rfl) rfl)) (ou au) (z0g (RT.mono _ I ap)) aw.1 aw.2.1) ?_
 obtain ⟨bc, co, bd⟩ := (At.le (At.le (z1h ap aw.2.2) I I) (zAf _) ar.fro)
 refine W.loadA (cs := bc) rfl rfl ag50 sz50 (z0i rfl co) (RT.len _ bd) (W.ln (Lo.alloc (r := z0d) (x0 := (Branch.mk ByteArray.empty ByteArray.empty ByteArray.empty 0 0 0 0 0 0)) ze50 (by kernel_rfl) zai ar) ?_)
 rintro dW dX ⟨U, rfl, cp, dr⟩
 refine W.ln (Lo.storeVar (j := 0) (s := z0d) (y0 := a) (v := (.agg bc.toArray)) (o := 0) rfl ((Put.at (Put.self _) _ _)) rfl sz50 rfl (by omega) rfl bd cp) ?_
 rintro dY dZ ⟨q, ds⟩
 refine .nil (.seq (.seq (.region ?_)))
 obtain ⟨be, cq, bf⟩ := (q.atVar (j := 3) rfl)
 refine W.loadA (cs := be) rfl rfl ag29 sz29 (z0i (ft (M 1 rfl) (ft (C 1 rfl) (ft (m 1 rfl) rfl))) cq) (RT.len _ bf) (W.pv (padd (.pointer (some ⟨U, 0, none⟩)) 0) (z0f zje ov (q.atVar (j := 0) rfl)) (W.l1 (.string a.Name) ag9 (z0i rfl (At.str (At.proj (q.atVar (j := 0) rfl) z5m))) (W.pv (padd (.pointer (some ⟨U, 0, none⟩)) 1) (z0f zq1 ov (q.atVar (j := 0) rfl)) (W.l1 (.string a.From) ag9 (z0i rfl (At.str (At.proj (q.atVar (j := 0) rfl) z99))) (W.pv (padd (.pointer (some ⟨U, 0, none⟩)) 2) (z0f zq2 ov (q.atVar (j := 0) rfl)) (W.l1 (.string a.To) ag9 (z0i rfl (At.str (At.proj (q.atVar (j := 0) rfl) zbs))) ?_))))))
 refine W.ln (Lo.buildSlice (r := rS) (vs := [(.string a.From), (.string a.To)]) (xs := [a.From, a.To]) el22 ze9 sz9 (by kernel_rfl) rfl (qc rfl (qc rfl qn)) rfl (.cons rfl (.cons rfl .nil)) q) ?_
 rintro cr d0 ⟨ct, dt⟩
 obtain ⟨d1, cu, ax, cv⟩ := ct.frzSl (j := 0) rfl
 have cw := (((cu.front (j := 3) rfl).front (j := 1) rfl).front (j := 3) rfl).front (j := 3) rfl
 obtain ⟨f, cx, bg⟩ := z00 cn
 refine W.ln (Lo.qF Tryz.f36 (ps := [_, _]) (pw := fun w => [_, _]) (mc rfl (mc (ft (M 4 rfl) (ft (C 4 rfl) (ft (m 4 rfl) rfl))) (mc rfl (mc rfl mn)))) cw (fun aE N => z38 K be d (RT.mono _ ax bf) u bb (Netmodel_names.mk ba) a.Name cr [a.From, a.To] cv N _ cx)) ?_
 rintro d2 d3 ⟨cy, d4, t, bh, du, rfl⟩
 have bi := zAe ae (zAe aP (zAe a3 (zAe I (zAe ax bh))))
 refine W.p1 (.int .i64 f.1) (.nil (.seq (.region (W.p2 (.int .i64 f.1) (W.p3 (.bool (f.1 != 0)) (.nil ?_))))))
 refine .cond (b := (f.1 != 0)) rfl rfl (fun ay => ?_) (fun ay => ?_)
 .have cz := z01 ay bg
  refine .seq (.region (W.p2 (.int .i64 f.1) (W.p1 (.int .i64 f.1) (.nil (.ret ?_)))))
  have cA := (((t.drop 0).drop 0).drop 0).drop 0
  obtain rfl := zAa cz
  have cB := z0a (z3z ac)
  obtain rfl := zAa cB
  exact z1m kr (v1 := (.int .i64 f.1)) (by rfl) rt cA bi rfl
 have bj := z0h ay bg
 refine .skip (.seq (.seq (.region (W.pv (padd (.pointer (some ⟨U, 0, none⟩)) 1) (z0f zq1 ov (t.atVar (j := 2) rfl)) (W.l1 (.string a.From) ag9 (z0i rfl (At.str (At.proj (t.atVar (j := 2) rfl) z99))) (W.pv (padd (.pointer (some ⟨U, 0, none⟩)) 2) (z0f zq2 ov (t.atVar (j := 2) rfl)) ?_))))))
 refine W.l1 (.string a.To) ag9 (z0i rfl (At.str (At.proj (t.atVar (j := 2) rfl) zbs))) (W.pv (.bool (sEq a.From a.To)) (z90 ov ov) (.nil (.cond (b := sEq a.From a.To) rfl rfl (fun az => ?_) (fun az => ?_))))
 .have cC := z01 az bj
  refine .seq (.region (W.p1 (.int .i64 3) (.nil (.ret ?_))))
  have cD := (((t.drop 0).drop 0).drop 0).drop 0
  obtain rfl := zAa cC
  have cE := z0a (z3z ac)
  obtain rfl := zAa cE
  exact z1m kr (v1 := (.int .i64 3)) (by rfl) rt cD bi rfl
 have cF := z0h az bj
 refine .skip (.seq (.region ?_))
 obtain ⟨bk, cG, bl⟩ := (t.atVar (j := 2) rfl)
 refine W.loadA (cs := bk) rfl rfl ag50 sz50 (z0i rfl cG) (RT.len _ bl) ?_
 obtain ⟨y, cH, bm⟩ := z00 cF
 refine W.ln (Lo.cQ Tryz.f37 (mc rfl mn) t (fun aE N => zaj K bk a bl N _ cH)) ?_
 rintro d5 d6 ⟨d7, bn, bo, dv, rfl⟩
 have dh := zAe bi bo
 refine W.p1 (.int .i64 y) (.nil (.seq (.region (W.p2 (.int .i64 y) (W.p3 (.bool (y != 0)) (.nil ?_))))))
 refine .cond (b := (y != 0)) rfl rfl (fun aA => ?_) (fun aA => ?_)
 rotate_left
 .have cI := z0h aA bm
  refine .skip (.region (W.r3 (.int .i64 (z03 .i64 (F + 1))) au (W.p2 (.int .i64 (z03 .i64 (F + 1))) (.nil ?_))))
  have cJ := bn.drop 2
  exact ⟨aq, zAg _, ⟨f.2, f.2.l, z03 .i64 (F + 1), cy, _, cI, cJ, (zAe I (zAe ax (zAe bh bo))), rfl⟩⟩
 have cK := z01 aA bm
 refine .seq (.region (W.p2 (.int .i64 y) (W.p1 (.int .i64 y) (.nil (.ret ?_)))))
 have cL := (((bn.drop 0).drop 0).drop 0).drop 0
 obtain rfl := zAa cK
 have cM := z0a (z3z ac)
 obtain rfl := zAa cM
 exact z1m kr (v1 := (.int .i64 y)) (by rfl) rt cL dh rfl
def z23 (K : Nat) (a : List zAd) : Option (List zAd) := (if ([] : List zAd).length + a.length <= 16777216 then some (([] : List zAd) ++ a) else none)
theorem z6o (b : Value) (f : List zAd) (c : (rSl rS).rep G [b] f) (O : Ow G H (L)) (r : List zAd) (h : z23 K f = some r) :
    CRF Tryz.prog 39 [b] G H (fun e => (eSl e 9 rS r :: L)) (fun e v B => e = v) := by
 unfold z23 at h
 refine CRF.og (n := 8) (fn := Tryz.f39) (by kernel_rfl) rfl rfl fun R kr => (.seq (.region (W.p1 (.slice none 0 0) (.nil (.seq (.seq ?_))))))
 refine .region (W.p2 b ?_)
 rcases zji c with ⟨p, q⟩ | ⟨C, E, F, s⟩
 .have t : some [] = some r := by simpa [q] using h
  refine W.pv (.bool true) (zjj el22 ov ov p) (.nil (.condT rfl rfl (.seq (.region (W.p1 (.slice none 0 0) (.nil ?_))))))
  refine .ret ?_
  have u := O.nilSl 9 rS
  obtain rfl := zAa t
  exact z4j kr (.slice none 0 0) (v1 := (.slice none 0 0)) (by rfl) rt u (zAf _) rfl
 refine W.pv (.bool false) (zjk el22 ov ov s) (.nil (.condF rfl rfl (.skip (.seq (.region (W.ln (Lo.buildSlice (r := rS) (vs := []) (xs := ([] : List zAd)) el22 ze9 sz9 (by kernel_rfl) rfl qn rfl .nil O) ?_))))))
 rintro g z ⟨d, w⟩
 refine W.p2 b ?_
 obtain ⟨x, i, k⟩ := zes c d
 obtain ⟨l, m⟩ := z2b h
 refine W.ln (Lo.append (j := 0) (v := g) rfl rfl el22 ni22 ze9 sz9 by9 (by decide) (by decide) rfl i k l d) ?_
 rintro a A ⟨o, y⟩
 refine W.p1 a (.nil (.ret ?_))
 obtain rfl := zAa m
 exact z4j kr a (v1 := a) (by rfl) rt o (zAf _) rfl
def z17 (K : Nat) (a : List Switch) : Option (List Switch) := (if ([] : List Switch).length + a.length <= 16777216 then some (([] : List Switch) ++ a) else none)
theorem z4w (b : Value) (f : List Switch) (c : (rSl z1d).rep G [b] f) (O : Ow G H (L)) (r : List Switch) (h : z17 K f = some r) :
    CRF Tryz.prog 40 [b] G H (fun e => (eSl e 83 z1d r :: L)) (fun e v B => e = v) := by
 unfold z17 at h
 refine CRF.og (n := 8) (fn := Tryz.f40) (by kernel_rfl) rfl rfl fun R kr => (.seq (.region (W.p1 (.slice none 0 0) (.nil (.seq (.seq ?_))))))
 refine .region (W.p2 b ?_)
 rcases zji c with ⟨p, q⟩ | ⟨C, E, F, s⟩
 .have t : some [] = some r := by simpa [q] using h
  refine W.pv (.bool true) (zjj el23 ov ov p) (.nil (.condT rfl rfl (.seq (.region (W.p1 (.slice none 0 0) (.nil ?_))))))
  refine .ret ?_
  have u := O.nilSl 83 z1d
  obtain rfl := zAa t
  exact z4j kr (.slice none 0 0) (v1 := (.slice none 0 0)) (by rfl) rt u (zAf _) rfl
 refine W.pv (.bool false) (zjk el23 ov ov s) (.nil (.condF rfl rfl (.skip (.seq (.region (W.ln (Lo.buildSlice (r := z1d) (vs := []) (xs := ([] : List Switch)) el23 ze83 sz83 (by kernel_rfl) rfl qn rfl .nil O) ?_))))))
 rintro g z ⟨d, w⟩
 refine W.p2 b ?_
 obtain ⟨x, i, k⟩ := zes c d
 obtain ⟨l, m⟩ := z2b h
 refine W.ln (Lo.append (j := 0) (v := g) rfl rfl el23 ni23 ze83 sz83 by83 (by decide) (by decide) rfl i k l d) ?_
 rintro a A ⟨o, y⟩
 refine W.p1 a (.nil (.ret ?_))
 obtain rfl := zAa m
 exact z4j kr a (v1 := a) (by rfl) rt o (zAf _) rfl
def z18 (K : Nat) (a : List Branch) : Option (List Branch) := (if ([] : List Branch).length + a.length <= 16777216 then some (([] : List Branch) ++ a) else none)
theorem z4x (b : Value) (f : List Branch) (c : (rSl z0d).rep G [b] f) (O : Ow G H (L)) (r : List Branch) (h : z18 K f = some r) :
    CRF Tryz.prog 41 [b] G H (fun e => (eSl e 50 z0d r :: L)) (fun e v B => e = v) := by
 unfold z18 at h
 refine CRF.og (n := 8) (fn := Tryz.f41) (by kernel_rfl) rfl rfl fun R kr => (.seq (.region (W.p1 (.slice none 0 0) (.nil (.seq (.seq ?_))))))
 refine .region (W.p2 b ?_)
 rcases zji c with ⟨p, q⟩ | ⟨C, E, F, s⟩
 .have t : some [] = some r := by simpa [q] using h
  refine W.pv (.bool true) (zjj el24 ov ov p) (.nil (.condT rfl rfl (.seq (.region (W.p1 (.slice none 0 0) (.nil ?_))))))
  refine .ret ?_
  have u := O.nilSl 50 z0d
  obtain rfl := zAa t
  exact z4j kr (.slice none 0 0) (v1 := (.slice none 0 0)) (by rfl) rt u (zAf _) rfl
 refine W.pv (.bool false) (zjk el24 ov ov s) (.nil (.condF rfl rfl (.skip (.seq (.region (W.ln (Lo.buildSlice (r := z0d) (vs := []) (xs := ([] : List Branch)) el24 ze50 sz50 (by kernel_rfl) rfl qn rfl .nil O) ?_))))))
 rintro g z ⟨d, w⟩
 refine W.p2 b ?_
 obtain ⟨x, i, k⟩ := zes c d
 obtain ⟨l, m⟩ := z2b h
 refine W.ln (Lo.append (j := 0) (v := g) rfl rfl el24 ni24 ze50 sz50 by50 (by decide) (by decide) rfl i k l d) ?_
 rintro a A ⟨o, y⟩
 refine W.p1 a (.nil (.ret ?_))
 obtain rfl := zAa m
 exact z4j kr a (v1 := a) (by rfl) rt o (zAf _) rfl
def z1s (K : Nat) (a : List Gen) : Option (List Gen) := (if ([] : List Gen).length + a.length <= 16777216 then some (([] : List Gen) ++ a) else none)
theorem z66 (b : Value) (f : List Gen) (c : (rSl z8v).rep G [b] f) (O : Ow G H (L)) (r : List Gen) (h : z1s K f = some r) :
    CRF Tryz.prog 42 [b] G H (fun e => (eSl e 85 z8v r :: L)) (fun e v B => e = v) := by
 unfold z1s at h
 refine CRF.og (n := 8) (fn := Tryz.f42) (by kernel_rfl) rfl rfl fun R kr => (.seq (.region (W.p1 (.slice none 0 0) (.nil (.seq (.seq ?_))))))
 refine .region (W.p2 b ?_)
 rcases zji c with ⟨p, q⟩ | ⟨C, E, F, s⟩
 .have t : some [] = some r := by simpa [q] using h
  refine W.pv (.bool true) (zjj el25 ov ov p) (.nil (.condT rfl rfl (.seq (.region (W.p1 (.slice none 0 0) (.nil ?_))))))
  refine .ret ?_
  have u := O.nilSl 85 z8v
  obtain rfl := zAa t
  exact z4j kr (.slice none 0 0) (v1 := (.slice none 0 0)) (by rfl) rt u (zAf _) rfl
 refine W.pv (.bool false) (zjk el25 ov ov s) (.nil (.condF rfl rfl (.skip (.seq (.region (W.ln (Lo.buildSlice (r := z8v) (vs := []) (xs := ([] : List Gen)) el25 ze85 sz85 (by kernel_rfl) rfl qn rfl .nil O) ?_))))))
 rintro g z ⟨d, w⟩
 refine W.p2 b ?_
 obtain ⟨x, i, k⟩ := zes c d
 obtain ⟨l, m⟩ := z2b h
 refine W.ln (Lo.append (j := 0) (v := g) rfl rfl el25 ni25 ze85 sz85 by85 (by decide) (by decide) rfl i k l d) ?_
 rintro a A ⟨o, y⟩
 refine W.p1 a (.nil (.ret ?_))
 obtain rfl := zAa m
 exact z4j kr a (v1 := a) (by rfl) rt o (zAf _) rfl
def z1i (K : Nat) (a : List Load_) : Option (List Load_) := (if ([] : List Load_).length + a.length <= 16777216 then some (([] : List Load_) ++ a) else none)
theorem z5u (b : Value) (f : List Load_) (c : (rSl z2p).rep G [b] f) (O : Ow G H (L)) (r : List Load_) (h : z1i K f = some r) :
    CRF Tryz.prog 43 [b] G H (fun e => (eSl e 87 z2p r :: L)) (fun e v B => e = v) := by
 unfold z1i at h
 refine CRF.og (n := 8) (fn := Tryz.f43) (by kernel_rfl) rfl rfl fun R kr => (.seq (.region (W.p1 (.slice none 0 0) (.nil (.seq (.seq ?_))))))
 refine .region (W.p2 b ?_)
 rcases zji c with ⟨p, q⟩ | ⟨C, E, F, s⟩
 .have t : some [] = some r := by simpa [q] using h
  refine W.pv (.bool true) (zjj el26 ov ov p) (.nil (.condT rfl rfl (.seq (.region (W.p1 (.slice none 0 0) (.nil ?_))))))
  refine .ret ?_
  have u := O.nilSl 87 z2p
  obtain rfl := zAa t
  exact z4j kr (.slice none 0 0) (v1 := (.slice none 0 0)) (by rfl) rt u (zAf _) rfl
 refine W.pv (.bool false) (zjk el26 ov ov s) (.nil (.condF rfl rfl (.skip (.seq (.region (W.ln (Lo.buildSlice (r := z2p) (vs := []) (xs := ([] : List Load_)) el26 ze87 sz87 (by kernel_rfl) rfl qn rfl .nil O) ?_))))))
 rintro g z ⟨d, w⟩
 refine W.p2 b ?_
 obtain ⟨x, i, k⟩ := zes c d
 obtain ⟨l, m⟩ := z2b h
 refine W.ln (Lo.append (j := 0) (v := g) rfl rfl el26 ni26 ze87 sz87 by87 (by decide) (by decide) rfl i k l d) ?_
 rintro a A ⟨o, y⟩
 refine W.p1 a (.nil (.ret ?_))
 obtain rfl := zAa m
 exact z4j kr a (v1 := a) (by rfl) rt o (zAf _) rfl
def z1a (K : Nat) (a : List Store) : Option (List Store) := (if ([] : List Store).length + a.length <= 16777216 then some (([] : List Store) ++ a) else none)
theorem z5a (b : Value) (f : List Store) (c : (rSl z2d).rep G [b] f) (O : Ow G H (L)) (r : List Store) (h : z1a K f = some r) :
    CRF Tryz.prog 44 [b] G H (fun e => (eSl e 104 z2d r :: L)) (fun e v B => e = v) := by
 unfold z1a at h
 refine CRF.og (n := 8) (fn := Tryz.f44) (by kernel_rfl) rfl rfl fun R kr => (.seq (.region (W.p1 (.slice none 0 0) (.nil (.seq (.seq ?_))))))
 refine .region (W.p2 b ?_)
 rcases zji c with ⟨p, q⟩ | ⟨C, E, F, s⟩
 .have t : some [] = some r := by simpa [q] using h
  refine W.pv (.bool true) (zjj el27 ov ov p) (.nil (.condT rfl rfl (.seq (.region (W.p1 (.slice none 0 0) (.nil ?_))))))
  refine .ret ?_
  have u := O.nilSl 104 z2d
  obtain rfl := zAa t
  exact z4j kr (.slice none 0 0) (v1 := (.slice none 0 0)) (by rfl) rt u (zAf _) rfl
 refine W.pv (.bool false) (zjk el27 ov ov s) (.nil (.condF rfl rfl (.skip (.seq (.region (W.ln (Lo.buildSlice (r := z2d) (vs := []) (xs := ([] : List Store)) el27 ztb zoy (by kernel_rfl) rfl qn rfl .nil O) ?_))))))
 rintro g z ⟨d, w⟩
 refine W.p2 b ?_
 obtain ⟨x, i, k⟩ := zes c d
 obtain ⟨l, m⟩ := z2b h
 refine W.ln (Lo.append (j := 0) (v := g) rfl rfl el27 ni27 ztb zoy zur (by decide) (by decide) rfl i k l d) ?_
 rintro a A ⟨o, y⟩
 refine W.p1 a (.nil (.ret ?_))
 obtain rfl := zAa m
 exact z4j kr a (v1 := a) (by rfl) rt o (zAf _) rfl
theorem z9b {G : GM} (a : Value) {b : List zAd} (c : Value) {e : List Switch} (f : Value) {h : List Branch} (i : Value) {j : List Gen} (k : Value) {l : List Load_} (n : Value) {o : List Store} (p : (rSl rS).rep G a.cells.toList b) (q : (rSl z1d).rep G c.cells.toList e) (r : (rSl z0d).rep G f.cells.toList h) (t : (rSl z8v).rep G i.cells.toList j) (u : (rSl z2p).rep G k.cells.toList l) (v : (rSl z2d).rep G n.cells.toList o) : ∃ cs : List Value, (∀ {s : List Value} {d : Tmp} {ty : TypeId} {pos : String} {af : Array Edge} {g : Option (Nat × Bool)} {ps : Array (Nat × Operand)}, zga s ps.toList = some [(0, a), (1, c), (2, f), (3, i), (4, k), (5, n)] -> z2g Tryz.prog s ⟨some d, .build 29 ps, ty, pos, af, g⟩ = some (.agg cs.toArray)) /\ z07.rep G cs (Network.mk b e h j l o) := by
  have w := (zed G _ _ _ _ (zfl G) p).1
  have k1 := (zbt G _ _ _ _ (w) q).1
  have x := (zbu G _ _ _ _ (k1) r).1
  have y := (zfm G _ _ _ _ (x) t).1
  have z := (zee G _ _ _ _ (y) u).1
  have A := (zdg G _ _ _ _ (z) v).1
  refine ⟨_, fun {s d ty pos af g ps} hps => zaf pl29 ze29 zo29 hps ?_, A⟩
  refine (z1o (off := 0) (sz := 1) (cs := _) rfl (RT.len _ p) (Nat.le_trans (Nat.le_of_ble_eq_true (m := 6) rfl) (Nat.le_of_eq (RT.len _ (zfl G)).symm))).trans ?_
  refine (z1o (off := 1) (sz := 1) (cs := _) rfl (RT.len _ q) (Nat.le_trans (Nat.le_of_ble_eq_true (m := 6) rfl) (Nat.le_of_eq (RT.len _ (w)).symm))).trans ?_
  refine (z1o (off := 2) (sz := 1) (cs := _) rfl (RT.len _ r) (Nat.le_trans (Nat.le_of_ble_eq_true (m := 6) rfl) (Nat.le_of_eq (RT.len _ (k1)).symm))).trans ?_
  refine (z1o (off := 3) (sz := 1) (cs := _) rfl (RT.len _ t) (Nat.le_trans (Nat.le_of_ble_eq_true (m := 6) rfl) (Nat.le_of_eq (RT.len _ (x)).symm))).trans ?_
  refine (z1o (off := 4) (sz := 1) (cs := _) rfl (RT.len _ u) (Nat.le_trans (Nat.le_of_ble_eq_true (m := 6) rfl) (Nat.le_of_eq (RT.len _ (y)).symm))).trans ?_
  refine (z1o (off := 5) (sz := 1) (cs := _) rfl (RT.len _ v) (Nat.le_trans (Nat.le_of_ble_eq_true (m := 6) rfl) (Nat.le_of_eq (RT.len _ (z)).symm))).trans ?_
  rfl
def z5b (K : Nat) (a : Network) : Option Network := ((z23 K a.Nodes).bind fun b => ((z17 K a.Switches).bind fun c => ((z18 K a.Branches).bind fun d => ((z1s K a.Gens).bind fun e => ((z1i K a.Loads).bind fun f => ((z1a K a.Stores).bind fun g => some (Network.mk b c d e f g)))))))
theorem zbx (aI : List Value) (g : Network) (a3 : z07.rep G aI g) (O : Ow G H (L)) (r : Network) (h : z5b K g = some r) :
    CR Tryz.prog 18 [.agg aI.toArray] G H (L) (fun v bA _ => ∃ (a4 : List Value), v = .agg a4.toArray /\ z07.rep bA a4 r) := by
 unfold z5b at h
 refine CR.og (n := 22) (fn := Tryz.f18) (by kernel_rfl) rfl rfl fun R kr => (.seq (.region (W.ln (Lo.box (r := z07) (x0 := g) (v := (.agg aI.toArray)) rfl rfl a3 O) ?_)))
 rintro bP bQ ⟨I, rfl, bB, bJ⟩
 refine W.ln (Lo.alloc (r := z07) (x0 := (Network.mk ([] : List zAd) ([] : List Switch) ([] : List Branch) ([] : List Gen) ([] : List Load_) ([] : List Store))) ze29 (by kernel_rfl) zfl bB) ?_
 rintro bR bK ⟨bC, rfl, bD, bL⟩
 refine .nil (.seq (.draw2 (M := [0, 1, 3, 0, 8, 31, 0, 64, 255, 0, 512, 2047, 0, 4096, 16383, 0, 32768, 131071, 262143, 524287]) mixed (by kernel_rfl) (by kernel_rfl) fun bM bN a5 bO => ?_))
 have J := bD.ext a5
 refine D2.pv (padd (.pointer (some ⟨I, 0, none⟩)) 0) (z0f zhp ov (J.atVar (j := 1) rfl)) ?_
 obtain ⟨al, a6, a7⟩ := At.sl (At.proj (J.atVar (j := 1) rfl) z3l)
 refine D2.l1 al ag22 (z0i rfl a6) z08 ?_
 obtain ⟨a8, a9, ba⟩ := z00 h
 refine D2.lo rfl rfl (Lo.qF Tryz.f39 (ps := []) (pw := fun w => [_]) (mc rfl mn) J (fun N d => z6o K al g.Nodes a7 d _ a9)) ?_ z08 ?_ ?_
 .rintro am an ⟨P, ao, m, S, a, rfl⟩; exact (faI z08)
 .rintro am an ⟨P, ao, m, S, a, rfl⟩; exact z08
 rintro am an ⟨P, ao, m, S, a, rfl⟩
 refine D2.pv (padd (.pointer (some ⟨I, 0, none⟩)) 1) (z0f zlb ov (m.atVar (j := 2) rfl)) ?_
 obtain ⟨ap, bb, bc⟩ := At.sl (At.proj (m.atVar (j := 2) rfl) z3w)
 refine D2.l1 ap ag23 (z0i rfl bb) (z7h (smI (j := 1) a) z08) ?_
 obtain ⟨bd, be, bf⟩ := z00 ba
 refine D2.lo rfl rfl (Lo.qF Tryz.f40 (ps := []) (pw := fun w => [_]) (mc rfl mn) m (fun N d => z4w K ap g.Switches bc d _ be)) ?_ (faK z08) ?_ ?_
 .rintro aq ar ⟨T, au, q, U, b, rfl⟩; exact (faI (faI z08))
 .rintro aq ar ⟨T, au, q, U, b, rfl⟩; exact z08
 rintro aq ar ⟨T, au, q, U, b, rfl⟩
 refine D2.pv (padd (.pointer (some ⟨I, 0, none⟩)) 2) (z0f zd8 ov (q.atVar (j := 3) rfl)) ?_
 obtain ⟨av, bg, bh⟩ := At.sl (At.proj (q.atVar (j := 3) rfl) z0z)
 refine D2.l1 av ag24 (z0i rfl bg) (z7h (smI (j := 2) b) (z7h (smI (j := 1) a) z08)) ?_
 obtain ⟨bi, bj, bk⟩ := z00 bf
 refine D2.lo rfl rfl (Lo.qF Tryz.f41 (ps := []) (pw := fun w => [_]) (mc rfl mn) q (fun N d => z4x K av g.Branches bh d _ bj)) ?_ (faK (faK z08)) ?_ ?_
 .rintro aw ax ⟨V, ay, t, X, e, rfl⟩; exact (faI (faI (faI z08)))
 .rintro aw ax ⟨V, ay, t, X, e, rfl⟩; exact z08
 rintro aw ax ⟨V, ay, t, X, e, rfl⟩
 refine D2.pv (padd (.pointer (some ⟨I, 0, none⟩)) 3) (z0f zlc ov (t.atVar (j := 4) rfl)) ?_
 obtain ⟨az, bl, bm⟩ := At.sl (At.proj (t.atVar (j := 4) rfl) z60)
 refine D2.l1 az ag25 (z0i rfl bl) (z7h (smI (j := 3) e) (z7h (smI (j := 2) b) (z7h (smI (j := 1) a) z08))) ?_
 obtain ⟨bn, bo, bp⟩ := z00 bk
 refine D2.lo rfl rfl (Lo.qF Tryz.f42 (ps := []) (pw := fun w => [_]) (mc rfl mn) t (fun N d => z66 K az g.Gens bm d _ bo)) ?_ (faK (faK (faK z08))) ?_ ?_
 .rintro aA aB ⟨Y, aC, u, Z, i, rfl⟩; exact (faI (faI (faI (faI z08))))
 .rintro aA aB ⟨Y, aC, u, Z, i, rfl⟩; exact z08
 rintro aA aB ⟨Y, aC, u, Z, i, rfl⟩
 refine D2.pv (padd (.pointer (some ⟨I, 0, none⟩)) 4) (z0f zld ov (u.atVar (j := 5) rfl)) ?_
 obtain ⟨aD, bq, br⟩ := At.sl (At.proj (u.atVar (j := 5) rfl) z57)
 refine D2.l1 aD ag26 (z0i rfl bq) (z7h (smI (j := 4) i) (z7h (smI (j := 3) e) (z7h (smI (j := 2) b) (z7h (smI (j := 1) a) z08)))) ?_
 obtain ⟨bs, bt, bu⟩ := z00 bp
 refine D2.lo rfl rfl (Lo.qF Tryz.f43 (ps := []) (pw := fun w => [_]) (mc rfl mn) u (fun N d => z5u K aD g.Loads br d _ bt)) ?_ (faK (faK (faK (faK z08)))) ?_ ?_
 .rintro aE aF ⟨aa, aG, x, ab, y, rfl⟩; exact (faI (faI (faI (faI (faI z08)))))
 .rintro aE aF ⟨aa, aG, x, ab, y, rfl⟩; exact z08
 rintro aE aF ⟨aa, aG, x, ab, y, rfl⟩
 refine D2.pv (padd (.pointer (some ⟨I, 0, none⟩)) 5) (z0f zle ov (x.atVar (j := 6) rfl)) ?_
 obtain ⟨aH, bv, bw⟩ := At.sl (At.proj (x.atVar (j := 6) rfl) z4n)
 refine D2.l1 aH ag27 (z0i rfl bv) (z7h (smI (j := 5) y) (z7h (smI (j := 4) i) (z7h (smI (j := 3) e) (z7h (smI (j := 2) b) (z7h (smI (j := 1) a) z08))))) ?_
 obtain ⟨bx, aJ, aK⟩ := z00 bu
 refine D2.lo rfl rfl (Lo.qF Tryz.f44 (ps := []) (pw := fun w => [_]) (mc rfl mn) x (fun N d => z5a K aH g.Stores bw d _ aJ)) ?_ (faK (faK (faK (faK (faK z08))))) ?_ ?_
 .rintro ac ad ⟨z, ae, A, B, E, rfl⟩; exact (faI (faI (faI (faI (faI (faI z08))))))
 .rintro ac ad ⟨z, ae, A, B, E, rfl⟩; exact z08
 rintro ac ad ⟨z, ae, A, B, E, rfl⟩
 obtain ⟨bE, aL, aM, aN⟩ := A.frzSl (j := 5) rfl
 obtain ⟨bF, aO, af, aP⟩ := aL.frzSl (j := 4) rfl
 obtain ⟨bG, aQ, C, aR⟩ := aO.frzSl (j := 3) rfl
 obtain ⟨bH, aS, k, aT⟩ := aQ.frzSl (j := 2) rfl
 obtain ⟨bI, aU, f, aV⟩ := aS.frzSl (j := 1) rfl
 obtain ⟨aW, aX, c, aY⟩ := aU.frzSl (j := 0) rfl
 have bz := zAe S (zAe U (zAe X (zAe Z (zAe ab (zAe B (zAe aM (zAe af (zAe C (zAe k (zAe f c))))))))))
 obtain ⟨ag, aZ, a0⟩ := z9b (G := aW) (P) (T) (V) (Y) (aa) (z) ((z1x (RT.mono _ (zAe af (zAe C (zAe k (zAe f c)))) aN))) ((z1x (RT.mono _ (zAe C (zAe k (zAe f c))) aP))) ((z1x (RT.mono _ (zAe k (zAe f c)) aR))) ((z1x (RT.mono _ (zAe f c) aT))) ((z1x (RT.mono _ c aV))) ((z1x aY))
 refine D2.pv (.agg ag.toArray) (aZ (z3a rfl (qc' rfl (qc' rfl (qc' rfl (qc' rfl (qc' rfl (qc' rfl qn')))))))) (D2.lo rfl rfl (Lo.storeVar (j := 0) (s := z07) (y0 := (Network.mk a8 bd bi bn bs bx)) (v := (.agg ag.toArray)) (o := 0) rfl ((Put.at (Put.self _) _ _)) rfl sz29 rfl (by omega) rfl a0 aX) ?_ (faK (faK (faK (faK (faK (faK z08)))))) ?_ ?_)
 .rintro ah ai ⟨l, F⟩; exact (faI (faI (faI (faI (faI (faI z08))))))
 .rintro ah ai ⟨l, F⟩; exact z08
 rintro ah ai ⟨l, F⟩
 refine .nil (.ret ?_)
 obtain ⟨aj, a1, ak⟩ := (l.atVar (j := 0) rfl)
 have a2 := (l.drop 0).drop 0
 obtain rfl := zAa aK
 exact z1m kr (v1 := (.agg aj.toArray)) (by rfl) (z5f (p := (.pointer (some ⟨bC, 0, none⟩))) (by rfl) ag29 sz29 (by exact rfl) a1 (RT.len _ ak)) a2 bz ⟨aj, rfl, ak⟩
end Go.Am.Tryz
