/- Typed functions with the same answers as the program's, and the walks that show it. -/
import Derived.Test.YtihbgkfkfjblbaaGreatG2Zr
import Derived.Test.YtihbgkfkfjblbaaGreatG4Zr
set_option maxRecDepth 100000
set_option maxHeartbeats 8000000
set_option linter.unusedVariables false
set_option linter.unusedSimpArgs false
namespace Go.Am.Tryz
open Go Go.Am Go.Proofs
variable (K : Nat) {G : GM} {H : AH} {L : List Pc}
structure Rating_Watch where
  branches : List Branch
  used : List Int
  above : List Bool
  over : List Bool
  time : Int
  deriving DecidableEq, Inhabited
def z06 : RT (Rating_Watch × Value × Value × Value) := rIso (rP (rSl z0d) (rP rV (rP rV (rP rV (rI .i64))))) (fun s : Rating_Watch × Value × Value × Value => (s.1.branches, s.2.1, s.2.2.1, s.2.2.2, s.1.time))
theorem z2k : Proj z06 0 (rSl z0d) (fun x => x.1.branches) := by
  have h := (Proj.iso (rP (rSl z0d) (rP rV (rP rV (rP rV (rI .i64))))) (fun s : Rating_Watch × Value × Value × Value => (s.1.branches, s.2.1, s.2.2.1, s.2.2.2, s.1.time))).comp (Proj.fst _ _)
  exact h
theorem z7x : Put z06 0 (rSl z0d) (fun x y => ({ x.1 with branches := y }, x.2)) := by
  have h := Put.comp (Proj.iso (rP (rSl z0d) (rP rV (rP rV (rP rV (rI .i64))))) (fun s : Rating_Watch × Value × Value × Value => (s.1.branches, s.2.1, s.2.2.1, s.2.2.2, s.1.time))) (Put.iso (rP (rSl z0d) (rP rV (rP rV (rP rV (rI .i64))))) (fun s : Rating_Watch × Value × Value × Value => (s.1.branches, s.2.1, s.2.2.1, s.2.2.2, s.1.time)) (fun x q => ({ x.1 with branches := q.1, time := q.2.2.2.2 }, q.2.1, q.2.2.1, q.2.2.2.1)) (fun _ _ => rfl)) (Put.fst _ _)
  exact h
theorem z3e : Proj z06 1 rV (fun x => x.2.1) := by
  have h := (Proj.iso (rP (rSl z0d) (rP rV (rP rV (rP rV (rI .i64))))) (fun s : Rating_Watch × Value × Value × Value => (s.1.branches, s.2.1, s.2.2.1, s.2.2.2, s.1.time))).comp ((Proj.snd _ _).comp (Proj.fst _ _))
  exact h
theorem z9c : Put z06 1 rV (fun x y => (x.1, y, x.2.2.1, x.2.2.2)) := by
  have h := Put.comp (Proj.iso (rP (rSl z0d) (rP rV (rP rV (rP rV (rI .i64))))) (fun s : Rating_Watch × Value × Value × Value => (s.1.branches, s.2.1, s.2.2.1, s.2.2.2, s.1.time))) (Put.iso (rP (rSl z0d) (rP rV (rP rV (rP rV (rI .i64))))) (fun s : Rating_Watch × Value × Value × Value => (s.1.branches, s.2.1, s.2.2.1, s.2.2.2, s.1.time)) (fun x q => ({ x.1 with branches := q.1, time := q.2.2.2.2 }, q.2.1, q.2.2.1, q.2.2.2.1)) (fun _ _ => rfl)) (Put.comp (Proj.snd _ _) (Put.snd _ _) (Put.fst _ _))
  exact h
theorem z4i : Proj z06 2 rV (fun x => x.2.2.1) := by
  have h := (Proj.iso (rP (rSl z0d) (rP rV (rP rV (rP rV (rI .i64))))) (fun s : Rating_Watch × Value × Value × Value => (s.1.branches, s.2.1, s.2.2.1, s.2.2.2, s.1.time))).comp ((Proj.snd _ _).comp ((Proj.snd _ _).comp (Proj.fst _ _)))
  exact h
theorem z92 : Put z06 2 rV (fun x y => (x.1, x.2.1, y, x.2.2.2)) := by
  have h := Put.comp (Proj.iso (rP (rSl z0d) (rP rV (rP rV (rP rV (rI .i64))))) (fun s : Rating_Watch × Value × Value × Value => (s.1.branches, s.2.1, s.2.2.1, s.2.2.2, s.1.time))) (Put.iso (rP (rSl z0d) (rP rV (rP rV (rP rV (rI .i64))))) (fun s : Rating_Watch × Value × Value × Value => (s.1.branches, s.2.1, s.2.2.1, s.2.2.2, s.1.time)) (fun x q => ({ x.1 with branches := q.1, time := q.2.2.2.2 }, q.2.1, q.2.2.1, q.2.2.2.1)) (fun _ _ => rfl)) (Put.comp (Proj.snd _ _) (Put.snd _ _) (Put.comp (Proj.snd _ _) (Put.snd _ _) (Put.fst _ _)))
  exact h
theorem z2q : Proj z06 3 rV (fun x => x.2.2.2) := by
  have h := (Proj.iso (rP (rSl z0d) (rP rV (rP rV (rP rV (rI .i64))))) (fun s : Rating_Watch × Value × Value × Value => (s.1.branches, s.2.1, s.2.2.1, s.2.2.2, s.1.time))).comp ((Proj.snd _ _).comp ((Proj.snd _ _).comp ((Proj.snd _ _).comp (Proj.fst _ _))))
  exact h
theorem z9d : Put z06 3 rV (fun x y => (x.1, x.2.1, x.2.2.1, y)) := by
  have h := Put.comp (Proj.iso (rP (rSl z0d) (rP rV (rP rV (rP rV (rI .i64))))) (fun s : Rating_Watch × Value × Value × Value => (s.1.branches, s.2.1, s.2.2.1, s.2.2.2, s.1.time))) (Put.iso (rP (rSl z0d) (rP rV (rP rV (rP rV (rI .i64))))) (fun s : Rating_Watch × Value × Value × Value => (s.1.branches, s.2.1, s.2.2.1, s.2.2.2, s.1.time)) (fun x q => ({ x.1 with branches := q.1, time := q.2.2.2.2 }, q.2.1, q.2.2.1, q.2.2.2.1)) (fun _ _ => rfl)) (Put.comp (Proj.snd _ _) (Put.snd _ _) (Put.comp (Proj.snd _ _) (Put.snd _ _) (Put.comp (Proj.snd _ _) (Put.snd _ _) (Put.fst _ _))))
  exact h
theorem z4q : Proj z06 4 (rI .i64) (fun x => x.1.time) := by
  have h := (Proj.iso (rP (rSl z0d) (rP rV (rP rV (rP rV (rI .i64))))) (fun s : Rating_Watch × Value × Value × Value => (s.1.branches, s.2.1, s.2.2.1, s.2.2.2, s.1.time))).comp ((Proj.snd _ _).comp ((Proj.snd _ _).comp ((Proj.snd _ _).comp ((Proj.snd _ _).comp (Proj.self _)))))
  exact h
theorem z9e : Put z06 4 (rI .i64) (fun x y => ({ x.1 with time := y }, x.2)) := by
  have h := Put.comp (Proj.iso (rP (rSl z0d) (rP rV (rP rV (rP rV (rI .i64))))) (fun s : Rating_Watch × Value × Value × Value => (s.1.branches, s.2.1, s.2.2.1, s.2.2.2, s.1.time))) (Put.iso (rP (rSl z0d) (rP rV (rP rV (rP rV (rI .i64))))) (fun s : Rating_Watch × Value × Value × Value => (s.1.branches, s.2.1, s.2.2.1, s.2.2.2, s.1.time)) (fun x q => ({ x.1 with branches := q.1, time := q.2.2.2.2 }, q.2.1, q.2.2.1, q.2.2.2.1)) (fun _ _ => rfl)) (Put.comp (Proj.snd _ _) (Put.snd _ _) (Put.comp (Proj.snd _ _) (Put.snd _ _) (Put.comp (Proj.snd _ _) (Put.snd _ _) (Put.comp (Proj.snd _ _) (Put.snd _ _) (Put.self _)))))
  exact h
theorem z8x (G : GM) : z06.rep G ([.slice none 0 0] ++ ([.slice none 0 0] ++ ([.slice none 0 0] ++ ([.slice none 0 0] ++ [.int .i64 0])))) ((Rating_Watch.mk ([] : List Branch) ([] : List Int) ([] : List Bool) ([] : List Bool) 0), .slice none 0 0, .slice none 0 0, .slice none 0 0) := ⟨_, _, rfl, (zL G), ⟨_, _, rfl, (zV G), ⟨_, _, rfl, (zV G), ⟨_, _, rfl, (zV G), ((zI .i64) G)⟩⟩⟩⟩
theorem zdh {G : GM} (e : Value) {f : List Branch} (a : Value) (b : Value) (c : Value) (h : (rSl z0d).rep G e.cells.toList f) (i : rV.rep G a.cells.toList a) (j : rV.rep G b.cells.toList b) (k : rV.rep G c.cells.toList c) : ∃ cs : List Value, (∀ {s : List Value} {d : Tmp} {ty : TypeId} {pos : String} {af : Array Edge} {g : Option (Nat × Bool)} {ps : Array (Nat × Operand)}, zga s ps.toList = some [(0, e), (1, a), (2, b), (3, c)] -> z2g Tryz.prog s ⟨some d, .build 62 ps, ty, pos, af, g⟩ = some (.agg cs.toArray)) /\ z06.rep G cs (Rating_Watch.mk f ([] : List Int) ([] : List Bool) ([] : List Bool) 0, a, b, c) := by
  have l := (z7x G _ _ _ _ (z8x G) h).1
  have k1 := (z9c G _ _ _ _ (l) i).1
  have n := (z92 G _ _ _ _ (k1) j).1
  have o := (z9d G _ _ _ _ (n) k).1
  refine ⟨_, fun {s d ty pos af g ps} hps => zaf pl62 ze62 zo62 hps ?_, o⟩
  refine (z1o (off := 0) (sz := 1) (cs := _) rfl (RT.len _ h) (Nat.le_trans (Nat.le_of_ble_eq_true (m := 5) rfl) (Nat.le_of_eq (RT.len _ (z8x G)).symm))).trans ?_
  refine (z1o (off := 1) (sz := 1) (cs := _) rfl (RT.len _ i) (Nat.le_trans (Nat.le_of_ble_eq_true (m := 5) rfl) (Nat.le_of_eq (RT.len _ (l)).symm))).trans ?_
  refine (z1o (off := 2) (sz := 1) (cs := _) rfl (RT.len _ j) (Nat.le_trans (Nat.le_of_ble_eq_true (m := 5) rfl) (Nat.le_of_eq (RT.len _ (k1)).symm))).trans ?_
  refine (z1o (off := 3) (sz := 1) (cs := _) rfl (RT.len _ k) (Nat.le_trans (Nat.le_of_ble_eq_true (m := 5) rfl) (Nat.le_of_eq (RT.len _ (n)).symm))).trans ?_
  rfl
def z5g (K : Nat) (a : Network) : Option (Option Rating_Watch × Int) := ((z4p K a).bind fun b => (if (b != 0) = true then some (none, b) else ((z5b K a).bind fun c => (if 0 <= (a.Branches.length : Int) /\ (a.Branches.length : Int) <= (a.Branches.length : Int) /\ (a.Branches.length : Int) <= 16777216 then (if 0 <= (a.Branches.length : Int) /\ (a.Branches.length : Int) <= (a.Branches.length : Int) /\ (a.Branches.length : Int) <= 16777216 then (if 0 <= (a.Branches.length : Int) /\ (a.Branches.length : Int) <= (a.Branches.length : Int) /\ (a.Branches.length : Int) <= 16777216 then some ((some ({ (Rating_Watch.mk c.Branches ([] : List Int) ([] : List Bool) ([] : List Bool) 0) with used := (List.replicate (Int.toNat (a.Branches.length : Int)) 0), above := (List.replicate (Int.toNat (a.Branches.length : Int)) false), over := (List.replicate (Int.toNat (a.Branches.length : Int)) false) })), 0) else none) else none) else none))))
theorem zef (T : List Value) (d : Network) (X : z07.rep G T d) (O : Ow G H (L)) (r : Option Rating_Watch × Int) (h : z5g K d = some r) :
    CRF Tryz.prog 5 [.agg T.toArray] G H (fun e => (optL r.1 (fun x => [eVar (oB e) 62 z06 (x, oV e 0, oV e 1, oV e 2), eSl (oV e 0) 3 (rI .i64) x.used, eSl (oV e 1) 4 rB x.above, eSl (oV e 2) 4 rB x.over]) ++ L)) (fun e v a1 => v = .tuple #[optV r.1 e, .int .i64 r.2]) := by
 unfold z5g at h
 refine CRF.og (n := 25) (fn := Tryz.f5) (by kernel_rfl) rfl rfl fun R kr => (.seq (.region (W.ln (Lo.box (r := z07) (x0 := d) (v := (.agg T.toArray)) rfl rfl X O) ?_)))
 rintro a2 a3 ⟨aI, rfl, Y, aQ⟩
 refine W.p1 (Value.pointer none) (W.p1 (.int .i64 0) (.nil (.seq (.seq (.region ?_)))))
 obtain ⟨Z, aJ, aa⟩ := (Y.atVar (j := 0) rfl)
 refine W.loadA (cs := Z) rfl rfl ag29 sz29 (z0i rfl aJ) (RT.len _ aa) ?_
 obtain ⟨f, ab, z⟩ := z00 h
 refine W.ln (Lo.cQ Tryz.f17 (mc rfl mn) Y (fun aK U => zba K Z d aa U _ ab)) ?_
 rintro aR aS ⟨aT, g, A, aL, rfl⟩
 refine W.p1 (.int .i64 f) (.nil (.seq (.region (W.p2 (.int .i64 f) (W.p3 (.bool (f != 0)) (.nil ?_))))))
 refine .cond (b := (f != 0)) rfl rfl (fun k => ?_) (fun k => ?_)
 .have ac := z01 k z
  refine .seq (.region (W.p2 (.int .i64 f) (W.p1 (Value.pointer none) (W.p1 (.int .i64 f) (.nil (.ret ?_))))))
  have ad := g.drop 0
  obtain rfl := zAa ac
  exact zjh kr .nilFunc (v1 := (Value.pointer none)) (v2 := (.int .i64 f)) (by rfl) rt rt ad A rfl
 have ae := z0h k z
 refine .skip (.seq (.region (W.pv (padd (.pointer (some ⟨aI, 0, none⟩)) 2) (z0f zd8 ov (g.atVar (j := 0) rfl)) ?_)))
 obtain ⟨af, ag, ah⟩ := At.sl (At.proj (g.atVar (j := 0) rfl) z0z)
 refine W.l1 af ag24 (z0i rfl ag) (W.pv (.int .i64 (d.Branches.length : Int)) (z0q ov (z0g ah) (z05 el24)) (W.p1 (.int .i64 (d.Branches.length : Int)) (.nil (.seq (.draw2 (M := [0, 1, 3, 0, 8, 0, 32, 0, 128, 511, 1023, 2047, 4095]) mixed (by kernel_rfl) (by kernel_rfl) fun aU aV ai aj => ?_)))))
 have B := g.ext ai
 obtain ⟨C, ak, E⟩ := (B.atVar (j := 0) rfl)
 refine D2.loadA' (cs := C) rfl rfl ag29 sz29 (z0i rfl ak) (RT.len _ E) z08 ?_
 obtain ⟨al, am, an⟩ := z00 ae
 refine D2.loN rfl rfl (Lo.cQ Tryz.f18 (mc rfl mn) B (fun aK U => zbx K C d E U _ am)) ?_ z08 ?_ ?_
 .rintro F I ⟨J, l, p, q, ⟨N, rfl, s⟩⟩; exact (faI z08)
 .rintro F I ⟨J, l, p, q, ⟨N, rfl, s⟩⟩; exact z08
 rintro F I ⟨J, l, p, q, ⟨N, rfl, s⟩⟩ V
 have ao := Free.nx aj V
 obtain ⟨P, ap, aq⟩ := zqc s z0z
 refine D2.pv P (zqd (ft := 24) (o := 2) (by kernel_rfl) ag24 ov ap) (D2.p2 (.int .i64 (d.Branches.length : Int)) ?_)
 obtain ⟨ar, au⟩ := z2b an
 refine D2.alloc (m := 13) rfl rfl (Al.makeSlice (r := (rI .i64)) (x0 := 0) (a := (d.Branches.length : Int)) (c := (d.Branches.length : Int)) rfl el31 ze3 sz3 (by kernel_rfl) rfl by3 (by decide) rfl rfl ar (zI .i64)) (Free.up (by decide) ao) (by decide) l ?_
 rintro t aW ⟨av, aM, aw⟩
 refine D2.p2 (.int .i64 (d.Branches.length : Int)) ?_
 obtain ⟨ax, ay⟩ := z2b au
 refine D2.alloc (m := 13) rfl rfl (Al.makeSlice (r := rB) (x0 := false) (a := (d.Branches.length : Int)) (c := (d.Branches.length : Int)) rfl el43 ze4 sz4 (by kernel_rfl) rfl by4 (by decide) rfl rfl ax zB) (Free.up (by decide) aw) (by decide) av ?_
 rintro u aX ⟨az, aN, aA⟩
 refine D2.p2 (.int .i64 (d.Branches.length : Int)) ?_
 obtain ⟨aB, aC⟩ := z2b ay
 refine D2.alloc (m := 13) rfl rfl (Al.makeSlice (r := rB) (x0 := false) (a := (d.Branches.length : Int)) (c := (d.Branches.length : Int)) rfl el43 ze4 sz4 (by kernel_rfl) rfl by4 (by decide) rfl rfl aB zB) (Free.up (by decide) aA) (by decide) az ?_
 rintro w aY ⟨i, aO, aD⟩
 obtain ⟨S, aE, aF⟩ := zdh (P) (.slice (some ⟨t, 0, some 0⟩) (Int.toNat (d.Branches.length : Int)) (Int.toNat (d.Branches.length : Int))) (.slice (some ⟨u, 0, some 0⟩) (Int.toNat (d.Branches.length : Int)) (Int.toNat (d.Branches.length : Int))) (.slice (some ⟨w, 0, some 0⟩) (Int.toNat (d.Branches.length : Int)) (Int.toNat (d.Branches.length : Int))) ((z1x aq)) (zrp (i.slLen (j := 2) rfl)) (zrp (i.slLen (j := 1) rfl)) (zrp (i.slLen (j := 0) rfl))
 refine D2.pv (.agg S.toArray) (aE (z3a rfl (qc' rfl (qc' rfl (qc' rfl (qc' rfl qn')))))) (D2.alloc (m := 13) rfl rfl (Al.box (r := z06) (x0 := ((Rating_Watch.mk al.Branches ([] : List Int) ([] : List Bool) ([] : List Bool) 0), (.slice (some ⟨t, 0, some 0⟩) (Int.toNat (d.Branches.length : Int)) (Int.toNat (d.Branches.length : Int))), (.slice (some ⟨u, 0, some 0⟩) (Int.toNat (d.Branches.length : Int)) (Int.toNat (d.Branches.length : Int))), (.slice (some ⟨w, 0, some 0⟩) (Int.toNat (d.Branches.length : Int)) (Int.toNat (d.Branches.length : Int))))) (v := (.agg S.toArray)) rfl rfl aF) (Free.up (by decide) aD) (by decide) i ?_)
 rintro y aZ ⟨aG, aP, a0⟩
 refine D2.p1 (.pointer (some ⟨y, 0, none⟩)) (D2.p1 (.int .i64 0) (.nil (.ret ?_)))
 have aH := ((((aG.drop 4).front (j := 1) rfl).front (j := 2) rfl).front (j := 3) rfl).front (j := 3) rfl
 obtain rfl := zAa aC
 exact zjh kr (.tuple ⟨.int .i64 y :: [(.slice (some ⟨t, 0, some 0⟩) (Int.toNat (d.Branches.length : Int)) (Int.toNat (d.Branches.length : Int))), (.slice (some ⟨u, 0, some 0⟩) (Int.toNat (d.Branches.length : Int)) (Int.toNat (d.Branches.length : Int))), (.slice (some ⟨w, 0, some 0⟩) (Int.toNat (d.Branches.length : Int)) (Int.toNat (d.Branches.length : Int)))]⟩) (v1 := (.pointer (some ⟨y, 0, none⟩))) (v2 := (.int .i64 0)) (by rfl) rt rt aH (zAe A p) rfl
def z4r (K : Nat) (c : zAd) : Nat -> Int -> Option (Bool ⊕ Unit)
  | 0, _ => none
  | k + 1, b => (if (decide (b < (c.size : Int))) = true then ((bidx c b).bind fun a => (Option.bind ((if (decide (a < 65)) = true then (if (decide (a < 48)) = true then some true else some (decide (a > 57))) else (if (decide (a > 90)) = true then (if (decide (a < 48)) = true then some true else some (decide (a > 57))) else some false))) (tu1 fun d => (if d = true then some (.inl false) else z4r K c k (z03 .i64 (b + 1)))))) else some (.inr ()))
def z9f (K : Nat) (a : zAd) : Option Bool := (Option.bind ((if ((a.size : Int) == 0) = true then some true else (if (decide ((a.size : Int) > 8)) = true then some true else ((bidx a 0).bind fun b => (if (decide (b < 65)) = true then some true else ((bidx a 0).bind fun c => some (decide (c > 90)))))))) (tu1 fun d => (if d = true then some false else (z70 (z4r K a K 0) (tu1 fun e => some e) (tu0 (some true))))))
theorem zgw (d : zAd) (O : Ow G H (L)) (r : Bool) (h : z9f K d = some r) :
    CR Tryz.prog 20 [(.string d)] G H (L) (fun v l _ => v = .bool r) := by
 unfold z9f at h
 refine CR.og (n := 46) (fn := Tryz.f20) (by kernel_rfl) rfl rfl fun R kr => (.seq (.region (W.p1 (.bool false) (.nil (.seq (.seq ?_))))))
 obtain ⟨aW, am, aX⟩ := z00 h
 refine AW.midT (fun o u => ∃ (q : Bool) (l : GM), q = aW /\ Ow l u (L) /\ GM.le G l /\ o 22 = .bool q) ?_ ?_
 .refine .region (W.p2 (.string d) (W.pv (.int .i64 (d.size : Int)) (z2c ov un9) (W.p3 (.bool ((d.size : Int) == 0)) (W.p2 (.bool ((d.size : Int) == 0)) (W.splitAt (t := 8) (b := ((d.size : Int) == 0)) rfl (fun ai j => ?_) (fun ai j => ?_))))))
  .have aY := z01 ai am
   refine W.q6 rfl j (W.q6 rfl j (W.q6 rfl j (W.q4 (.bool true) j rfl (W.p2 (.bool true) (W.q6 rfl rfl (W.q6 rfl rfl ?_))))))
   refine W.q6 rfl rfl (W.q4 (.bool true) rfl rfl (W.p2 (.bool true) (W.q6 rfl rfl (W.q6 rfl rfl (W.q6 rfl rfl (W.q4 (.bool true) rfl rfl ?_))))))
   refine .nil ?_
   obtain rfl := zAa aY
   exact ⟨true, _, rfl, O, (zAf _), rfl⟩
  have an := z0h ai am
  refine W.q2 (hg := gk rfl rfl j rfl) (.string d) rfl (W.pure (v := (.int .i64 (d.size : Int))) (gl rfl j) rfl (z2c ov un9) (W.q3 (hg := gk rfl rfl j rfl) (.bool (decide ((d.size : Int) > 8))) rfl rfl (W.q5 (.bool (decide ((d.size : Int) > 8))) j rfl (W.p2 (.bool (decide ((d.size : Int) > 8))) (W.splitAt (t := 13) (b := decide ((d.size : Int) > 8)) rfl (fun aj k => ?_) (fun aj k => ?_))))))
  .have ao := z01 aj an
   refine W.q6 rfl k (W.q6 rfl k (W.q6 rfl k (W.q4 (.bool true) k rfl (W.p2 (.bool true) (W.q6 rfl rfl (W.q6 rfl rfl ?_))))))
   refine W.q6 rfl rfl (W.q4 (.bool true) rfl rfl (.nil ?_))
   obtain rfl := zAa ao
   exact ⟨true, _, rfl, O, (zAf _), rfl⟩
  have ap := z0h aj an
  refine W.q2 (hg := gk rfl rfl k rfl) (.string d) rfl ?_
  obtain ⟨s, aq, U⟩ := z00 ap
  refine W.pure (v := (.int .u8 s)) (gl rfl k) rfl (zb3 un9 ov ov aq) (W.q3 (hg := gk rfl rfl k rfl) (.bool (decide (s < 65))) rfl rfl (W.q5 (.bool (decide (s < 65))) k rfl (W.p2 (.bool (decide (s < 65))) (W.splitAt (t := 18) (b := decide (s < 65)) rfl (fun y e => ?_) (fun y e => ?_)))))
  .have ar := z01 y U
   refine W.q6 rfl e (W.q6 rfl e (W.q6 rfl e (W.q4 (.bool true) e rfl (.nil ?_))))
   obtain rfl := zAa ar
   exact ⟨true, _, rfl, O, (zAf _), rfl⟩
  have au := z0h y U
  refine W.q2 (hg := gk rfl rfl e rfl) (.string d) rfl ?_
  obtain ⟨w, av, aw⟩ := z00 au
  refine W.pure (v := (.int .u8 w)) (gl rfl e) rfl (zb3 un9 ov ov av) (W.q3 (hg := gk rfl rfl e rfl) (.bool (decide (w > 90))) rfl rfl (W.q5 (.bool (decide (w > 90))) e rfl (.nil ?_)))
  obtain rfl := zAa aw
  exact ⟨decide (w > 90), _, rfl, O, (zAf _), rfl⟩
 rintro aZ a4 z ⟨ax, V, rfl, X, A, ay⟩
 have Y := z0a aX
 refine .cond (b := ax) rfl ay (fun B => ?_) (fun B => ?_)
 .have az := z01 B Y
  refine .seq (.region (W.p1 (.bool false) (.nil (.ret ?_))))
  obtain rfl := zAa az
  exact z1m kr (v1 := (.bool false)) (by rfl) rt X A rfl
 have aA := z0h B Y
 refine .skip (.seq (.seq (.region (W.q2 (.string d) (ft (z 0 rfl) rfl) (W.pv (.int .i64 (d.size : Int)) (z2c ov un9) (W.p2 (.int .i64 0) ?_))))))
 refine .nil ?_
 obtain ⟨Z, aB, aa⟩ := z1w aA
 refine AW.midT (fun o u => ∃  (l : GM), (.inr ()) = Z /\ Ow l u (L) /\ GM.le V l) ?_ ?_
 rotate_left
 .rintro a0 a5 a1 ⟨a6, rfl, aC, aD⟩
  have aE := z7i (z72 aa)
  refine .seq (.region (W.p1 (.bool true) (.nil (.ret ?_))))
  obtain rfl := zAa aE
  exact z1m kr (v1 := (.bool true)) (by rfl) rt aC (zAe A aD) rfl
 refine .block (AW.loop (α := Nat) (fun ak o u => ∃ (q : Int) (l : GM), z4r K d ak q = some Z /\ Ow l u (L) /\ GM.le V l /\ o 25 = .int .i64 q) (fun ak => ak) K ⟨0, _, aB, X, (zAf _), rfl⟩ ?_)
 rintro C
 rintro a2 a7 E ⟨m, aF, x, p, F, I⟩
 rcases C with _ | C
 .exact z09 x
 rw [z4r] at x
 refine .seq (.region (W.q3 (.bool (decide (m < (d.size : Int)))) I (ft (E 24 rfl) rfl) (.nil (.seq (.cond (b := decide (m < (d.size : Int))) rfl rfl (fun J => ?_) (fun J => ?_))))))
 rotate_left
 .have aG := z0h J x
  refine .exit ?_
  obtain rfl := zAa aG
  exact ⟨_, rfl, p, F⟩
 have aH := z01 J x
 refine .skip (.seq (.block (.seq (.region (W.q2 _ I (W.p1 (.int .i64 m) ?_))))))
 refine .nil (.seq (.region (W.q2 (.string d) (ft (E 0 rfl) (ft (z 0 rfl) rfl)) (W.p2 (.int .i64 m) ?_))))
 obtain ⟨a, aI, aJ⟩ := z00 aH
 refine W.pv (.int .u8 a) (zb3 un9 ov ov aI) (W.p1 (.int .u8 a) (.nil (.seq ?_)))
 obtain ⟨aK, ab, aL⟩ := z00 aJ
 refine AW.midT (fun o u => ∃ (q : Bool) (l : GM), q = aK /\ Ow l u (L) /\ GM.le aF l /\ o 44 = .bool q) ?_ ?_
 rotate_left
 .rintro a3 a8 al ⟨aM, a9, rfl, ac, ad, aN⟩
  have ae := z0a aL
  refine .cond (b := aM) rfl aN (fun M => ?_) (fun M => ?_)
  .have aO := z01 M ae
   refine .seq (.region (W.p1 (.bool false) (.nil (.ret ?_))))
   obtain rfl := zAa aO
   have aP := z0a (z3z aa)
   obtain rfl := zAa aP
   exact z1m kr (v1 := (.bool false)) (by rfl) rt ac (zAe A (zAe F ad)) rfl
  have aQ := z0h M ae
  refine .skip (.region (W.q3 (.int .i64 (z03 .i64 (m + 1))) (ft (al 25 rfl) I) rfl (W.p2 (.int .i64 (z03 .i64 (m + 1))) (.nil ?_))))
  exact ⟨C, zAg _, ⟨z03 .i64 (m + 1), _, aQ, ac, (zAe F ad), rfl⟩⟩
 refine .region (W.p2 (.int .u8 a) (W.p3 (.bool (decide (a < 65))) (W.p2 (.bool (decide (a < 65))) (W.splitAt (t := 33) (b := decide (a < 65)) rfl (fun N f => ?_) (fun N f => ?_)))))
 .have af := z01 N ab
  refine W.q6 rfl f (W.q6 rfl f (W.q4 (.bool true) f rfl (W.p2 (.bool true) (W.q2 (hg := gk rfl rfl rfl rfl) (.int .u8 a) rfl (W.q3 (hg := gk rfl rfl rfl rfl) (.bool (decide (a < 48))) rfl rfl (W.q2 (hg := gk rfl rfl rfl rfl) (.bool (decide (a < 48))) rfl ?_))))))
  refine W.splitAt (t := 40) (b := decide (a < 48)) rfl (fun P g => ?_) (fun P g => ?_)
  .have aR := z01 P af
   refine W.q6 rfl g (W.q6 rfl g (W.q4 (hg := gk rfl rfl rfl rfl) (.bool true) g rfl (W.q4 (.bool true) rfl rfl (.nil ?_))))
   obtain rfl := zAa aR
   exact ⟨true, _, rfl, p, (zAf _), rfl⟩
  have aS := z0h P af
  refine W.q2 (hg := gk rfl rfl g rfl) (.int .u8 a) rfl (W.q3 (hg := gk rfl rfl g rfl) (.bool (decide (a > 57))) rfl rfl (W.q5 (hg := gk rfl rfl rfl rfl) (.bool (decide (a > 57))) g rfl (W.q4 (.bool (decide (a > 57))) rfl rfl (.nil ?_))))
  obtain rfl := zAa aS
  exact ⟨decide (a > 57), _, rfl, p, (zAf _), rfl⟩
 have ag := z0h N ab
 refine W.q2 (hg := gk rfl rfl f rfl) (.int .u8 a) rfl (W.q3 (hg := gk rfl rfl f rfl) (.bool (decide (a > 90))) rfl rfl (W.q5 (.bool (decide (a > 90))) f rfl (W.p2 (.bool (decide (a > 90))) (W.splitAt (t := 37) (b := decide (a > 90)) rfl (fun S c => ?_) (fun S c => ?_)))))
 rotate_left
 .have aT := z0h S ag
  refine W.q6 rfl c (W.q6 rfl c (W.q6 rfl c (W.skipU rfl rfl rfl rfl (W.skipU rfl rfl rfl rfl (W.q6 rfl c (W.q5 (.bool false) c rfl ?_))))))
  refine .nil ?_
  obtain rfl := zAa aT
  exact ⟨false, _, rfl, p, (zAf _), rfl⟩
 have ah := z01 S ag
 refine W.q2 (hg := gk rfl rfl c rfl) (.int .u8 a) rfl (W.q3 (hg := gk rfl rfl c rfl) (.bool (decide (a < 48))) rfl rfl (W.q2 (hg := gk rfl rfl c rfl) (.bool (decide (a < 48))) rfl (W.splitAt (t := 40) (b := decide (a < 48)) rfl (fun T i => ?_) (fun T i => ?_))))
 .have aU := z01 T ah
  refine W.q6 rfl i (W.q6 rfl i (W.q4 (hg := gk rfl rfl c rfl) (.bool true) i rfl (W.q4 (.bool true) c rfl (.nil ?_))))
  obtain rfl := zAa aU
  exact ⟨true, _, rfl, p, (zAf _), rfl⟩
 have aV := z0h T ah
 refine W.q2 (hg := gk rfl rfl i rfl) (.int .u8 a) rfl (W.q3 (hg := gk rfl rfl i rfl) (.bool (decide (a > 57))) rfl rfl (W.q5 (hg := gk rfl rfl c rfl) (.bool (decide (a > 57))) i rfl (W.q4 (.bool (decide (a > 57))) c rfl (.nil ?_))))
 obtain rfl := zAa aV
 exact ⟨decide (a > 57), _, rfl, p, (zAf _), rfl⟩
def z5h (K : Nat) (b : List zAd) (c : zAd) : Nat -> Int -> Option (Int ⊕ Unit)
  | 0, _ => none
  | k + 1, a => (if (decide (a < (b.length : Int))) = true then ((idx b a).bind fun d => (if (sEq d c) = true then some (.inl a) else z5h K b c k (z03 .i64 (a + 1)))) else some (.inr ()))
def zcq (K : Nat) (b : List zAd) (c : zAd) : Option Int := (z70 (z5h K b c K 0) (tu1 fun a => some a) (tu0 (some (-1))))
theorem zhr (s : Value) (i : List zAd) (l : (rSl rS).rep G [s] i) (j : zAd) (O : Ow G H (L)) (r : Int) (h : zcq K i j = some r) :
    CR Tryz.prog 45 [s, (.string j)] G H (L) (fun v k _ => v = .int .i64 r) := by
 unfold zcq at h
 refine CR.og (n := 19) (fn := Tryz.f45) (by kernel_rfl) rfl rfl fun R kr => (.seq (.region (W.p1 (.int .i64 0) (.nil (.seq (.seq ?_))))))
 refine .region (W.p2 s (W.pv (.int .i64 (i.length : Int)) (z0q ov (z0g l) (z05 el22)) (W.p2 (.int .i64 0) (.nil ?_))))
 obtain ⟨z, T, A⟩ := z1w h
 refine AW.midT (fun t w => ∃  (k : GM), (.inr ()) = z /\ Ow k w (L) /\ GM.le G k) ?_ ?_
 rotate_left
 .rintro U X V ⟨Y, rfl, B, C⟩
  have E := z7i (z72 A)
  refine .seq (.region (W.p1 (.int .i64 (-1)) (.nil (.ret ?_))))
  obtain rfl := zAa E
  exact z1m kr (v1 := (.int .i64 (-1))) (by rfl) rt B C rfl
 refine .block (AW.loop (α := Nat) (fun x t w => ∃ (F : Int) (k : GM), z5h K i j x F = some z /\ Ow k w (L) /\ GM.le G k /\ t 9 = .int .i64 F) (fun x => x) K ⟨0, _, T, O, (zAf _), rfl⟩ ?_)
 rintro y
 rintro Z aa m ⟨a, ab, e, f, c, g⟩
 rcases y with _ | y
 .exact z09 e
 rw [z5h] at e
 refine .seq (.region (W.q3 (.bool (decide (a < (i.length : Int)))) g (ft (m 8 rfl) rfl) (.nil (.seq (.cond (b := decide (a < (i.length : Int))) rfl rfl (fun o => ?_) (fun o => ?_))))))
 rotate_left
 .have I := z0h o e
  refine .exit ?_
  obtain rfl := zAa I
  exact ⟨_, rfl, f, c⟩
 have J := z01 o e
 refine .skip (.seq (.block (.seq (.region (W.q2 _ g ?_)))))
 obtain ⟨d, M, u⟩ := z00 J
 have p := z0c M
 refine W.pv (z1v s (a.toNat * 1)) (z2a el22 sz9 (ou (ft (m 7 rfl) rfl)) (ou g) (z0g (RT.mono _ c l)) p.1 p.2.1) (W.l1 (.string d) ag9 (z0i rfl (At.str (At.le (At.le (z1h l p.2.2) c c) (zAf _) f.fro))) (W.p1 (.int .i64 a) (W.p1 (.string d) (.nil (.seq (.region ?_))))))
 refine W.p2 (.string d) (W.q2 (.string j) (ft (m 1 rfl) rfl) (W.pv (.bool (sEq d j)) (z90 ov ov) (.nil (.cond (b := sEq d j) rfl rfl (fun q => ?_) (fun q => ?_)))))
 rotate_left
 .have N := z0h q u
  refine .skip (.region (W.r3 (.int .i64 (z03 .i64 (a + 1))) g (W.p2 (.int .i64 (z03 .i64 (a + 1))) (.nil ?_))))
  exact ⟨y, zAg _, ⟨z03 .i64 (a + 1), _, N, f, c, rfl⟩⟩
 have P := z01 q u
 refine .seq (.region (W.p2 (.int .i64 a) (W.p1 (.int .i64 a) (.nil (.ret ?_)))))
 obtain rfl := zAa P
 have S := z0a (z3z A)
 obtain rfl := zAa S
 exact z1m kr (v1 := (.int .i64 a)) (by rfl) rt f c rfl
def zeu (K : Nat) (a : List zAd) (b : zAd) : Option Bool := ((zcq K a b).bind fun c => some (decide (c >= 0)))
theorem zgx (a : Value) (c : List zAd) (e : (rSl rS).rep G [a] c) (b : zAd) (O : Ow G H (L)) (r : Bool) (h : zeu K c b = some r) :
    CR Tryz.prog 21 [a, (.string b)] G H (L) (fun v p _ => v = .bool r) := by
 unfold zeu at h
 refine CR.og (n := 9) (fn := Tryz.f21) (by kernel_rfl) rfl rfl fun R kr => (.seq (.region (W.p1 (.bool false) (.nil (.seq (.region ?_))))))
 refine W.p2 a (W.p2 (.string b) ?_)
 obtain ⟨d, f, g⟩ := z00 h
 refine W.ln (Lo.cQ Tryz.f45 (mc rfl (mc rfl mn)) O (fun q i => zhr K a c e b i _ f)) ?_
 rintro l m ⟨s, j, k, o, rfl⟩
 refine W.p3 (.bool (decide (d >= 0))) (W.p1 (.bool (decide (d >= 0))) (.nil (.ret ?_)))
 obtain rfl := zAa g
 exact z1m kr (v1 := (.bool (decide (d >= 0)))) (by rfl) rt j k rfl
def z4y (K : Nat) (b : zAd) (a : List zAd) : Option (Int × List zAd) := ((z9f K b).bind fun d => (if (!d) = true then some (5, a) else ((zeu K a b).bind fun c => (if c = true then some (7, a) else (if a.length + [b].length <= 16777216 then some (0, (a ++ [b])) else none)))))
theorem z8y (c : zAd) (p : Nat) (v1 : Value) (q : List zAd) (O : Ow G H (eVar p 22 rV v1 :: eSl v1 9 rS q :: L)) (r : Int × List zAd) (h : z4y K c q = some r) :
    CRF Tryz.prog 19 [(.string c), .pointer (some ⟨p, 0, none⟩)] G H (fun wl => (eVar p 22 rV wl :: eSl wl 9 rS r.2 :: L)) (fun wl v T => v = .int .i64 r.1) := by
 unfold z4y at h
 refine CRF.og (n := 14) (fn := Tryz.f19) (by kernel_rfl) rfl rfl fun R kr => (.seq (.region (W.p1 (.int .i64 0) (.nil (.seq (.seq ?_))))))
 refine .region (W.p2 (.string c) ?_)
 obtain ⟨t, U, y⟩ := z00 h
 refine W.ln (Lo.cQ Tryz.f20 (mc rfl mn) O (fun V u => zgw K c u _ U)) ?_
 rintro ad ae ⟨an, w, x, X, rfl⟩
 refine W.pv (.bool (!t)) (z1g (a := t) ov) (.nil (.cond (b := (!t)) rfl rfl (fun d => ?_) (fun d => ?_)))
 .have z := z01 d y
  refine .seq (.region (W.p1 (.int .i64 5) (.nil (.ret ?_))))
  obtain rfl := zAa z
  exact z4j kr v1 (v1 := (.int .i64 5)) (by rfl) rt w x rfl
 have A := z0h d y
 refine .skip (.seq (.seq (.region (W.l1 v1 ag22 (z0i rfl (At.raw (w.atVar (j := 0) rfl))) (W.p2 (.string c) ?_)))))
 obtain ⟨B, C, i⟩ := z00 A
 refine W.ln (Lo.callB (j := 1) rfl rfl (fn := Tryz.f21) (by kernel_rfl) rfl (mc rfl (mc rfl mn)) w (fun T V hG u hB => zgx K v1 q hB c u _ C)) ?_
 rintro af ag ⟨ah, e, k, Y, rfl⟩
 refine .nil (.cond (b := B) rfl rfl (fun f => ?_) (fun f => ?_))
 .have E := z01 f i
  refine .seq (.region (W.p1 (.int .i64 7) (.nil (.ret ?_))))
  obtain rfl := zAa E
  exact z4j kr v1 (v1 := (.int .i64 7)) (by rfl) rt e (zAe x k) rfl
 have F := z0h f i
 refine .skip (.seq (.region (W.l1 v1 ag22 (z0i rfl (At.raw (e.atVar (j := 0) rfl))) (W.p2 (.string c) (W.ln (Lo.buildSlice (r := rS) (vs := [(.string c)]) (xs := [c]) el22 ze9 sz9 (by kernel_rfl) rfl (qc rfl qn) rfl (.cons rfl .nil) e) ?_)))))
 rintro ai aj ⟨l, Z⟩
 obtain ⟨aa, I, J⟩ := z4a (j := 0) rfl l
 obtain ⟨M, N⟩ := z2b F
 refine W.ln (Lo.append (j := 2) (v := v1) rfl rfl el22 ni22 ze9 sz9 by9 (by decide) (by decide) rfl I J M l) ?_
 rintro g ak ⟨m, ab⟩
 refine W.ln (Lo.storeVar (j := 1) (s := rV) (y0 := g) (v := g) (o := 0) rfl ((Put.at (Put.self _) _ _)) rfl sz22 rfl (by omega) rfl (zrp (m.slLen (j := 2) rfl)) m) ?_
 rintro al am ⟨P, ac⟩
 refine .nil (.seq (.region (W.p1 (.int .i64 0) (.nil (.ret ?_)))))
 have S := P.drop 0
 obtain rfl := zAa N
 exact z4j kr g (v1 := (.int .i64 0)) (by rfl) rt S (zAe x k) rfl
def z9g (K : Nat) (a : Int) (b : Int) (c : Int) : Option Bool := (Option.bind ((if (decide (a < b)) = true then some false else some (!(decide (a > c))))) (tu1 fun d => some d))
theorem z4z (d : Int) (f : Int) (e : Int) (O : Ow G H (L)) (r : Bool) (h : z9g K d f e = some r) :
    CR Tryz.prog 47 [(.int .i64 d), (.int .i64 f), (.int .i64 e)] G H (L) (fun v g _ => v = .bool r) := by
 unfold z9g at h
 refine CR.og (n := 16) (fn := Tryz.f47) (by kernel_rfl) rfl rfl fun R kr => (.seq (.region (W.p1 (.bool false) (.nil (.seq ?_)))))
 obtain ⟨s, j, u⟩ := z00 h
 refine AW.midT (fun k w => ∃ (l : Bool) (g : GM), l = s /\ Ow g w (L) /\ GM.le G g /\ k 6 = .bool l) ?_ ?_
 rotate_left
 .rintro B C x ⟨y, E, rfl, m, o, p⟩
  have q := z0a u
  refine .ret ?_
  obtain rfl := zAa q
  exact z1m kr (v1 := (.bool y)) (by rfl) (zhn (by rfl) (by exact p)) m o rfl
 refine .region (W.p2 (.int .i64 d) (W.p2 (.int .i64 f) (W.p3 (.bool (decide (d < f))) (W.p2 (.bool (decide (d < f))) (W.splitAt (t := 10) (b := decide (d < f)) rfl (fun i c => ?_) (fun i c => ?_))))))
 .have z := z01 i j
  refine W.q6 rfl c (W.q6 rfl c (W.q6 rfl c (W.q4 (.bool true) c rfl (W.pv (.bool false) (z1g (a := true) ov) (W.p1 (.bool false) (.nil ?_))))))
  obtain rfl := zAa z
  exact ⟨false, _, rfl, O, (zAf _), rfl⟩
 have A := z0h i j
 refine W.q2 (hg := gk rfl rfl c rfl) (.int .i64 d) rfl (W.q2 (hg := gk rfl rfl c rfl) (.int .i64 e) rfl (W.q3 (hg := gk rfl rfl c rfl) (.bool (decide (d > e))) rfl rfl (W.q5 (.bool (decide (d > e))) c rfl (W.pv (.bool (!(decide (d > e)))) (z1g (a := decide (d > e)) ov) (W.p1 (.bool (!(decide (d > e)))) (.nil ?_))))))
 obtain rfl := zAa A
 exact ⟨(!(decide (d > e))), _, rfl, O, (zAf _), rfl⟩
def z5c (K : Nat) (a : Branch) : Option Int := (Option.bind (((z9g K a.X 1 10000).bind fun h => (if h = true then ((z9g K a.Tap 500 1500).bind fun b => (if b = true then ((z9g K a.Shift (-1000) 1000).bind fun c => (if c = true then ((z9g K a.Limit 0 100000).bind fun d => (if d = true then ((z9g K a.Short a.Limit 100000).bind fun e => (if e = true then ((z9g K a.Hold 0 200000).bind fun f => some f) else some false)) else some false)) else some false)) else some false)) else some false))) (tu1 fun g => (if g = true then some 0 else some 4)))
theorem zby (ad : List Value) (g : Branch) (al : z0d.rep G ad g) (O : Ow G H (L)) (r : Int) (h : z5c K g = some r) :
    CR Tryz.prog 46 [.agg ad.toArray] G H (L) (fun v ae _ => v = .int .i64 r) := by
 unfold z5c at h
 refine CR.og (n := 33) (fn := Tryz.f46) (by kernel_rfl) rfl rfl fun R kr => (.seq (.region (W.ln (Lo.box (r := z0d) (x0 := g) (v := (.agg ad.toArray)) rfl rfl al O) ?_)))
 rintro bj bk ⟨m, rfl, af, aY⟩
 refine W.p1 (.int .i64 0) (.nil (.seq (.seq ?_)))
 obtain ⟨aM, aN, aO⟩ := z00 h
 refine AW.midT (fun am aP => ∃ (an : Bool) (ae : GM), an = aM /\ Ow ae aP (eVar m 50 z0d g :: L) /\ GM.le G ae /\ am 32 = .bool an) ?_ ?_
 rotate_left
 .rintro aQ aZ aR ⟨ao, a0, rfl, y, z, ag⟩
  have A := z0a aO
  refine .cond (b := ao) rfl ag (fun p => ?_) (fun p => ?_)
  .have ah := z01 p A
   refine .seq (.region (W.p1 (.int .i64 0) (.nil (.ret ?_))))
   have ai := y.drop 0
   obtain rfl := zAa ah
   exact z1m kr (v1 := (.int .i64 0)) (by rfl) rt ai z rfl
  have aj := z0h p A
  refine .skip (.seq (.region (W.p1 (.int .i64 4) (.nil (.ret ?_)))))
  have ak := y.drop 0
  obtain rfl := zAa aj
  exact z1m kr (v1 := (.int .i64 4)) (by rfl) rt ak z rfl
 refine .region (W.pv (padd (.pointer (some ⟨m, 0, none⟩)) 3) (z0f zrs ov (af.atVar (j := 0) rfl)) (W.l1 (.int .i64 g.X) ag3 (z0i rfl (At.int (At.proj (af.atVar (j := 0) rfl) zgr))) ?_))
 obtain ⟨ap, aq, U⟩ := z00 aN
 refine W.ln (Lo.cQ Tryz.f47 (mc rfl (mc rfl (mc rfl mn))) af (fun B i => z4z K g.X 1 10000 i _ aq)) ?_
 rintro a1 a2 ⟨a3, q, k, aS, rfl⟩
 refine W.p2 (.bool ap) (W.splitAt (t := 6) (b := ap) rfl (fun C c => ?_) (fun C c => ?_))
 rotate_left
 .have ar := z0h C U
  refine W.q6 rfl c (W.q6 rfl c (W.q6 rfl c (W.q5 (.bool false) c rfl (W.p2 (.bool false) (W.q6 rfl rfl (W.q6 rfl rfl ?_))))))
  refine W.q6 rfl rfl (W.q5 (.bool false) rfl rfl (W.p2 (.bool false) (W.q6 rfl rfl (W.q6 rfl rfl (W.q6 rfl rfl (W.q5 (.bool false) rfl rfl ?_))))))
  refine W.p2 (.bool false) (W.q6 rfl rfl (W.q6 rfl rfl (W.q6 rfl rfl (W.q6 rfl rfl (W.q6 rfl rfl (W.q5 (.bool false) rfl rfl ?_))))))
  refine W.p2 (.bool false) (W.q6 rfl rfl (W.q6 rfl rfl (W.q6 rfl rfl (W.q5 (.bool false) rfl rfl (.nil ?_)))))
  obtain rfl := zAa ar
  exact ⟨false, _, rfl, q, k, rfl⟩
 have au := z01 C U
 refine W.pure (v := (padd (.pointer (some ⟨m, 0, none⟩)) 4)) (gl rfl c) rfl (z0f zrt ov (q.atVar (j := 0) rfl)) (W.load1 (v := (.int .i64 g.Tap)) (r := []) (gl rfl c) rfl ag3 (z0i rfl (At.int (At.proj (q.atVar (j := 0) rfl) zdb))) ?_)
 obtain ⟨E, av, V⟩ := z00 au
 refine W.lo (gl rfl c) rfl (Lo.cQ Tryz.f47 (mc rfl (mc rfl (mc rfl mn))) q (fun B i => z4z K g.Tap 500 1500 i _ av)) ?_
 rintro a4 a5 ⟨a6, s, o, aT, rfl⟩
 refine W.q4 (.bool E) c rfl (W.p2 (.bool E) (W.splitAt (t := 11) (b := E) rfl (fun F d => ?_) (fun F d => ?_)))
 rotate_left
 .have aw := z0h F V
  refine W.q6 rfl d (W.q6 rfl d (W.q6 rfl d (W.q5 (.bool false) d rfl (W.p2 (.bool false) (W.q6 rfl rfl (W.q6 rfl rfl ?_))))))
  refine W.q6 rfl rfl (W.q5 (.bool false) rfl rfl (W.p2 (.bool false) (W.q6 rfl rfl (W.q6 rfl rfl (W.q6 rfl rfl (W.q6 rfl rfl ?_))))))
  refine W.q6 rfl rfl (W.q5 (.bool false) rfl rfl (W.p2 (.bool false) (W.q6 rfl rfl (W.q6 rfl rfl (W.q6 rfl rfl (W.q5 (.bool false) rfl rfl ?_))))))
  refine .nil ?_
  obtain rfl := zAa aw
  exact ⟨false, _, rfl, s, (zAe k o), rfl⟩
 have ax := z01 F V
 refine W.pure (v := (padd (.pointer (some ⟨m, 0, none⟩)) 5)) (gl rfl d) rfl (z0f zru ov (s.atVar (j := 0) rfl)) (W.load1 (v := (.int .i64 g.Shift)) (r := []) (gl rfl d) rfl ag3 (z0i rfl (At.int (At.proj (s.atVar (j := 0) rfl) zb6))) ?_)
 obtain ⟨I, ay, Y⟩ := z00 ax
 refine W.lo (gl rfl d) rfl (Lo.cQ Tryz.f47 (mc rfl (mc rfl (mc rfl mn))) s (fun B i => z4z K g.Shift (-1000) 1000 i _ ay)) ?_
 rintro a7 a8 ⟨a9, u, w, aU, rfl⟩
 refine W.q4 (.bool I) d rfl (W.p2 (.bool I) (W.splitAt (t := 16) (b := I) rfl (fun J e => ?_) (fun J e => ?_)))
 rotate_left
 .have az := z0h J Y
  refine W.q6 rfl e (W.q6 rfl e (W.q6 rfl e (W.q5 (.bool false) e rfl (W.p2 (.bool false) (W.q6 rfl rfl (W.q6 rfl rfl ?_))))))
  refine W.q6 rfl rfl (W.q6 rfl rfl (W.q6 rfl rfl (W.q5 (.bool false) rfl rfl (W.p2 (.bool false) (W.q6 rfl rfl (W.q6 rfl rfl ?_))))))
  refine W.q6 rfl rfl (W.q5 (.bool false) rfl rfl (.nil ?_))
  obtain rfl := zAa az
  exact ⟨false, _, rfl, u, (zAe k (zAe o w)), rfl⟩
 have aA := z01 J Y
 refine W.pure (v := (padd (.pointer (some ⟨m, 0, none⟩)) 6)) (gl rfl e) rfl (z0f zjf ov (u.atVar (j := 0) rfl)) (W.load1 (v := (.int .i64 g.Limit)) (r := []) (gl rfl e) rfl ag3 (z0i rfl (At.int (At.proj (u.atVar (j := 0) rfl) z4v))) ?_)
 obtain ⟨M, aB, Z⟩ := z00 aA
 refine W.lo (gl rfl e) rfl (Lo.cQ Tryz.f47 (mc rfl (mc rfl (mc rfl mn))) u (fun B i => z4z K g.Limit 0 100000 i _ aB)) ?_
 rintro ba bb ⟨bc, l, N, aV, rfl⟩
 refine W.q4 (.bool M) e rfl (W.p2 (.bool M) (W.splitAt (t := 21) (b := M) rfl (fun P a => ?_) (fun P a => ?_)))
 rotate_left
 .have aC := z0h P Z
  refine W.q6 rfl a (W.q6 rfl a (W.q6 rfl a (W.q6 rfl a (W.q6 rfl a (W.q5 (.bool false) a rfl (W.p2 (.bool false) ?_))))))
  refine W.q6 rfl rfl (W.q6 rfl rfl (W.q6 rfl rfl (W.q5 (.bool false) rfl rfl (.nil ?_))))
  obtain rfl := zAa aC
  exact ⟨false, _, rfl, l, (zAe k (zAe o (zAe w N))), rfl⟩
 have aD := z01 P Z
 refine W.pure (v := (padd (.pointer (some ⟨m, 0, none⟩)) 7)) (gl rfl a) rfl (z0f zno ov (l.atVar (j := 0) rfl)) (W.load1 (v := (.int .i64 g.Short)) (r := []) (gl rfl a) rfl ag3 (z0i rfl (At.int (At.proj (l.atVar (j := 0) rfl) z73))) (W.pure (v := (padd (.pointer (some ⟨m, 0, none⟩)) 6)) (gl rfl a) rfl (z0f zjf ov (l.atVar (j := 0) rfl)) (W.load1 (v := (.int .i64 g.Limit)) (r := []) (gl rfl a) rfl ag3 (z0i rfl (At.int (At.proj (l.atVar (j := 0) rfl) z4v))) ?_)))
 obtain ⟨S, aE, aa⟩ := z00 aD
 refine W.lo (gl rfl a) rfl (Lo.cQ Tryz.f47 (mc rfl (mc rfl (mc rfl mn))) l (fun B i => z4z K g.Short g.Limit 100000 i _ aE)) ?_
 rintro bd be ⟨bf, x, ab, aW, rfl⟩
 refine W.q4 (.bool S) a rfl (W.p2 (.bool S) (W.splitAt (t := 28) (b := S) rfl (fun T f => ?_) (fun T f => ?_)))
 rotate_left
 .have aF := z0h T aa
  refine W.q6 rfl f (W.q6 rfl f (W.q6 rfl f (W.q5 (.bool false) f rfl (.nil ?_))))
  obtain rfl := zAa aF
  exact ⟨false, _, rfl, x, (zAe k (zAe o (zAe w (zAe N ab)))), rfl⟩
 have aG := z01 T aa
 refine W.pure (v := (padd (.pointer (some ⟨m, 0, none⟩)) 8)) (gl rfl f) rfl (z0f zjg ov (x.atVar (j := 0) rfl)) (W.load1 (v := (.int .i64 g.Hold)) (r := []) (gl rfl f) rfl ag3 (z0i rfl (At.int (At.proj (x.atVar (j := 0) rfl) z5n))) ?_)
 obtain ⟨ac, aH, aI⟩ := z00 aG
 refine W.lo (gl rfl f) rfl (Lo.cQ Tryz.f47 (mc rfl (mc rfl (mc rfl mn))) x (fun B i => z4z K g.Hold 0 200000 i _ aH)) ?_
 rintro bg bh ⟨bi, aJ, aK, aX, rfl⟩
 have aL := zAe k (zAe o (zAe w (zAe N (zAe ab aK))))
 refine W.q4 (.bool ac) f rfl (.nil ?_)
 obtain rfl := zAa aI
 exact ⟨ac, _, rfl, aJ, aL, rfl⟩
structure Item where
  name : zAd
  nodes : List zAd
  apart : Bool
  bad : Bool
  deriving DecidableEq, Inhabited
def z3m : RT Item := rIso (rP rS (rP (rSl rS) (rP rB rB))) (fun s : Item => (s.name, s.nodes, s.apart, s.bad))
theorem zqf (G : GM) : z3m.rep G ([.string ByteArray.empty] ++ ([.slice none 0 0] ++ ([.bool false] ++ [.bool false]))) ((Item.mk ByteArray.empty ([] : List zAd) false false)) := ⟨_, _, rfl, zS G, ⟨_, _, rfl, zL G, ⟨_, _, rfl, zB G, (zB G)⟩⟩⟩
theorem zjm : Proj z3m 0 rS (fun x => x.name) := by
  have h := (Proj.iso (rP rS (rP (rSl rS) (rP rB rB))) (fun s : Item => (s.name, s.nodes, s.apart, s.bad))).comp (Proj.fst _ _)
  exact h
theorem zjn : Put z3m 0 rS (fun x y => { x with name := y }) := by
  have h := Put.comp (Proj.iso (rP rS (rP (rSl rS) (rP rB rB))) (fun s : Item => (s.name, s.nodes, s.apart, s.bad))) (Put.iso (rP rS (rP (rSl rS) (rP rB rB))) (fun s : Item => (s.name, s.nodes, s.apart, s.bad)) (fun _ q => ⟨q.1, q.2.1, q.2.2.1, q.2.2.2⟩) (fun _ _ => rfl)) (Put.fst _ _)
  exact h
theorem zak : Proj z3m 1 (rSl rS) (fun x => x.nodes) := by
  have h := (Proj.iso (rP rS (rP (rSl rS) (rP rB rB))) (fun s : Item => (s.name, s.nodes, s.apart, s.bad))).comp ((Proj.snd _ _).comp (Proj.fst _ _))
  exact h
theorem zhs : Put z3m 1 (rSl rS) (fun x y => { x with nodes := y }) := by
  have h := Put.comp (Proj.iso (rP rS (rP (rSl rS) (rP rB rB))) (fun s : Item => (s.name, s.nodes, s.apart, s.bad))) (Put.iso (rP rS (rP (rSl rS) (rP rB rB))) (fun s : Item => (s.name, s.nodes, s.apart, s.bad)) (fun _ q => ⟨q.1, q.2.1, q.2.2.1, q.2.2.2⟩) (fun _ _ => rfl)) (Put.comp (Proj.snd _ _) (Put.snd _ _) (Put.fst _ _))
  exact h
theorem zht : Proj z3m 2 rB (fun x => x.apart) := by
  have h := (Proj.iso (rP rS (rP (rSl rS) (rP rB rB))) (fun s : Item => (s.name, s.nodes, s.apart, s.bad))).comp ((Proj.snd _ _).comp ((Proj.snd _ _).comp (Proj.fst _ _)))
  exact h
theorem zhu : Put z3m 2 rB (fun x y => { x with apart := y }) := by
  have h := Put.comp (Proj.iso (rP rS (rP (rSl rS) (rP rB rB))) (fun s : Item => (s.name, s.nodes, s.apart, s.bad))) (Put.iso (rP rS (rP (rSl rS) (rP rB rB))) (fun s : Item => (s.name, s.nodes, s.apart, s.bad)) (fun _ q => ⟨q.1, q.2.1, q.2.2.1, q.2.2.2⟩) (fun _ _ => rfl)) (Put.comp (Proj.snd _ _) (Put.snd _ _) (Put.comp (Proj.snd _ _) (Put.snd _ _) (Put.fst _ _)))
  exact h
theorem zll : Proj z3m 3 rB (fun x => x.bad) := by
  have h := (Proj.iso (rP rS (rP (rSl rS) (rP rB rB))) (fun s : Item => (s.name, s.nodes, s.apart, s.bad))).comp ((Proj.snd _ _).comp ((Proj.snd _ _).comp ((Proj.snd _ _).comp (Proj.self _))))
  exact h
theorem zlm : Put z3m 3 rB (fun x y => { x with bad := y }) := by
  have h := Put.comp (Proj.iso (rP rS (rP (rSl rS) (rP rB rB))) (fun s : Item => (s.name, s.nodes, s.apart, s.bad))) (Put.iso (rP rS (rP (rSl rS) (rP rB rB))) (fun s : Item => (s.name, s.nodes, s.apart, s.bad)) (fun _ q => ⟨q.1, q.2.1, q.2.2.1, q.2.2.2⟩) (fun _ _ => rfl)) (Put.comp (Proj.snd _ _) (Put.snd _ _) (Put.comp (Proj.snd _ _) (Put.snd _ _) (Put.comp (Proj.snd _ _) (Put.snd _ _) (Put.self _))))
  exact h
theorem z2l {G : GM} (a : Value) {b : zAd} (c : Value) {e : List zAd} (f : Value) {h : Bool} (i : Value) {j : Bool} (k : rS.rep G a.cells.toList b) (l : (rSl rS).rep G c.cells.toList e) (n : rB.rep G f.cells.toList h) (o : rB.rep G i.cells.toList j) : ∃ cs : List Value, (∀ {s : List Value} {d : Tmp} {ty : TypeId} {pos : String} {af : Array Edge} {g : Option (Nat × Bool)} {ps : Array (Nat × Operand)}, zga s ps.toList = some [(0, a), (1, c), (2, f), (3, i)] -> z2g Tryz.prog s ⟨some d, .build 69 ps, ty, pos, af, g⟩ = some (.agg cs.toArray)) /\ z3m.rep G cs (Item.mk b e h j) := by
  have p := (zjn G _ _ _ _ (zqf G) k).1
  have k1 := (zhs G _ _ _ _ (p) l).1
  have q := (zhu G _ _ _ _ (k1) n).1
  have r := (zlm G _ _ _ _ (q) o).1
  refine ⟨_, fun {s d ty pos af g ps} hps => zaf pl69 ze69 zo69 hps ?_, r⟩
  refine (z1o (off := 0) (sz := 1) (cs := _) rfl (RT.len _ k) (Nat.le_trans (Nat.le_of_ble_eq_true (m := 4) rfl) (Nat.le_of_eq (RT.len _ (zqf G)).symm))).trans ?_
  refine (z1o (off := 1) (sz := 1) (cs := _) rfl (RT.len _ l) (Nat.le_trans (Nat.le_of_ble_eq_true (m := 4) rfl) (Nat.le_of_eq (RT.len _ (p)).symm))).trans ?_
  refine (z1o (off := 2) (sz := 1) (cs := _) rfl (RT.len _ n) (Nat.le_trans (Nat.le_of_ble_eq_true (m := 4) rfl) (Nat.le_of_eq (RT.len _ (k1)).symm))).trans ?_
  refine (z1o (off := 3) (sz := 1) (cs := _) rfl (RT.len _ o) (Nat.le_trans (Nat.le_of_ble_eq_true (m := 4) rfl) (Nat.le_of_eq (RT.len _ (q)).symm))).trans ?_
  rfl
def z3n (K : Nat) (d : Network) : Nat -> List Item -> Int -> Option (List Item)
  | 0, _, _ => none
  | k + 1, b, c => (if (decide (c < (d.Switches.length : Int))) = true then ((idx d.Switches c).bind fun a => (if b.length + [(Item.mk a.Name [a.A, a.B] true false)].length <= 16777216 then z3n K d k (b ++ [(Item.mk a.Name [a.A, a.B] true false)]) (z03 .i64 (c + 1)) else none)) else some b)
def z3o (K : Nat) (e : Network) : Nat -> List Item -> Int -> Option (List Item)
  | 0, _, _ => none
  | k + 1, b, c => (if (decide (c < (e.Branches.length : Int))) = true then ((idx e.Branches c).bind fun a => ((z5c K a).bind fun d => (if b.length + [(Item.mk a.Name [a.From, a.To] true (d != 0))].length <= 16777216 then z3o K e k (b ++ [(Item.mk a.Name [a.From, a.To] true (d != 0))]) (z03 .i64 (c + 1)) else none))) else some b)
def z3p (K : Nat) (e : Network) : Nat -> List Item -> Int -> Option (List Item)
  | 0, _, _ => none
  | k + 1, b, c => (if (decide (c < (e.Gens.length : Int))) = true then (Option.bind (((idx e.Gens c).bind fun a => ((z9g K a.Least 0 100000).bind fun f => (if (!f) = true then (if b.length + [(Item.mk a.Name [a.Node] false true)].length <= 16777216 then some (b ++ [(Item.mk a.Name [a.Node] false true)]) else none) else ((z9g K a.Most a.Least 100000).bind fun g => (if (!g) = true then (if b.length + [(Item.mk a.Name [a.Node] false true)].length <= 16777216 then some (b ++ [(Item.mk a.Name [a.Node] false true)]) else none) else ((z9g K a.Ramp 0 100000).bind fun d => (if b.length + [(Item.mk a.Name [a.Node] false (!d))].length <= 16777216 then some (b ++ [(Item.mk a.Name [a.Node] false (!d))]) else none)))))))) (tu1 fun h => z3p K e k h (z03 .i64 (c + 1)))) else some b)
def z3q (K : Nat) (e : Network) : Nat -> List Item -> Int -> Option (List Item)
  | 0, _, _ => none
  | k + 1, b, c => (if (decide (c < (e.Loads.length : Int))) = true then ((idx e.Loads c).bind fun a => ((z9g K a.Demand 0 100000).bind fun d => (if b.length + [(Item.mk a.Name [a.Node] false (!d))].length <= 16777216 then z3q K e k (b ++ [(Item.mk a.Name [a.Node] false (!d))]) (z03 .i64 (c + 1)) else none))) else some b)
def z3r (K : Nat) (e : Network) : Nat -> List Item -> Int -> Option (List Item)
  | 0, _, _ => none
  | k + 1, b, c => (if (decide (c < (e.Stores.length : Int))) = true then (Option.bind (((idx e.Stores c).bind fun a => ((z9g K a.Charge 0 100000).bind fun f => (if (!f) = true then (if b.length + [(Item.mk a.Name [a.Node] false true)].length <= 16777216 then some (b ++ [(Item.mk a.Name [a.Node] false true)]) else none) else ((z9g K a.Discharge 0 100000).bind fun g => (if (!g) = true then (if b.length + [(Item.mk a.Name [a.Node] false true)].length <= 16777216 then some (b ++ [(Item.mk a.Name [a.Node] false true)]) else none) else ((z9g K a.Capacity 0 100000).bind fun d => (if b.length + [(Item.mk a.Name [a.Node] false (!d))].length <= 16777216 then some (b ++ [(Item.mk a.Name [a.Node] false (!d))]) else none)))))))) (tu1 fun h => z3r K e k h (z03 .i64 (c + 1)))) else some b)
def zbb (K : Nat) (a : Network) : Option (List Item) := (Option.bind (z3n K a K [] 0) (tu1 fun f => (Option.bind (z3o K a K f 0) (tu1 fun b => (Option.bind (z3p K a K b 0) (tu1 fun c => (Option.bind (z3q K a K c 0) (tu1 fun d => (Option.bind (z3r K a K d 0) (tu1 fun e => some e))))))))))
theorem zhv (dU : List Value) (i : Network) (g8 : z07.rep G dU i) (O : Ow G H (L)) (r : List Item) (h : zbb K i = some r) :
    CRF Tryz.prog 22 [.agg dU.toArray] G H (fun dV => (eSl dV 69 z3m r :: L)) (fun dV v g => dV = v) := by
 unfold zbb at h
 refine CRF.og (n := 145) (fn := Tryz.f22) (by kernel_rfl) rfl rfl fun R kr => (.seq (.region (W.ln (Lo.box (r := z07) (x0 := i) (v := (.agg dU.toArray)) rfl rfl g8 O) ?_)))
 rintro jI jJ ⟨C, rfl, dW, ju⟩
 refine W.p1 (.slice none 0 0) (.nil (.seq (.region (W.p1 (.slice none 0 0) (.nil (.seq ?_))))))
 refine .seq (.region (W.pv (padd (.pointer (some ⟨C, 0, none⟩)) 1) (z0f zlb ov (dW.atVar (j := 0) rfl)) ?_))
 obtain ⟨g9, ig, dX⟩ := At.sl (At.proj (dW.atVar (j := 0) rfl) z3w)
 refine W.l1 g9 ag23 (z0i rfl ig) (W.pv (.int .i64 (i.Switches.length : Int)) (z0q ov (z0g dX) (z05 el23)) (W.p2 (.int .i64 0) (.nil ?_)))
 obtain ⟨ha, hb, hc⟩ := z00 h
 refine AW.midT (fun e x => ∃ (k : List Item) (g : GM), k = ha /\ Ow g x (eVar C 29 z07 i :: eSl (e 3) 69 z3m k :: L) /\ GM.le G g) ?_ ?_
 .refine .block ?_
  have hd := dW.nilSl 69 z3m
  refine AW.loop (α := Nat) (fun z e x => ∃ (k : List Item) (N : Int) (g : GM), z3n K i z k N = some ha /\ Ow g x (eSl (e 3) 69 z3m k :: eVar C 29 z07 i :: L) /\ GM.le G g /\ e 17 = .int .i64 N) (fun z => z) K ⟨[], 0, _, hb, hd, (zAf _), rfl⟩ ?_
  rintro b2
  rintro b3 jv b4 ⟨dL, aA, jw, bN, b5, aO, b6⟩
  rcases b2 with _ | b2
  .exact z09 bN
  rw [z3n] at bN
  refine .seq (.region (W.q3 (.bool (decide (aA < (i.Switches.length : Int)))) b6 (ft (b4 16 rfl) rfl) (.nil (.seq (.cond (b := decide (aA < (i.Switches.length : Int))) rfl rfl (fun b7 => ?_) (fun b7 => ?_))))))
  rotate_left
  .have he := z0h b7 bN
   refine .exit ?_
   have hf := (b5.front (j := 0) rfl).front (j := 1) rfl
   obtain rfl := zAa he
   exact ⟨dL, _, rfl, hf, aO⟩
  have hg := z01 b7 bN
  refine .skip (.seq (.block (.seq (.region ?_))))
  obtain ⟨y, hh, hi⟩ := z00 hg
  have b8 := z0c hh
  refine W.pv (z1v g9 (aA.toNat * 5)) (z2a el23 sz83 (ou (ft (b4 15 rfl) rfl)) (ou b6) (z0g (RT.mono _ aO dX)) b8.1 b8.2.1) ?_
  obtain ⟨dM, hj, dN⟩ := (At.le (At.le (z1h dX b8.2.2) aO aO) (zAf _) b5.fro)
  refine W.loadA (cs := dM) rfl rfl ag83 sz83 (z0i rfl hj) (RT.len _ dN) (W.ln (Lo.alloc (r := z1d) (x0 := (Switch.mk ByteArray.empty ByteArray.empty ByteArray.empty false false)) ze83 (by kernel_rfl) zlk b5) ?_)
  rintro jx jy ⟨b9, rfl, hk, ih⟩
  refine W.ln (Lo.storeVar (j := 0) (s := z1d) (y0 := y) (v := (.agg dM.toArray)) (o := 0) rfl ((Put.at (Put.self _) _ _)) rfl sz83 rfl (by omega) rfl dN hk) ?_
  rintro jz jA ⟨al, ii⟩
  refine .nil (.region (W.p2 (b3 3) (W.pv (padd (.pointer (some ⟨b9, 0, none⟩)) 0) (z0f zrv ov (al.atVar (j := 0) rfl)) (W.l1 (.string y.Name) ag9 (z0i rfl (At.str (At.proj (al.atVar (j := 0) rfl) zc7))) (W.pv (padd (.pointer (some ⟨b9, 0, none⟩)) 1) (z0f zq5 ov (al.atVar (j := 0) rfl)) (W.l1 (.string y.A) ag9 (z0i rfl (At.str (At.proj (al.atVar (j := 0) rfl) zd9))) ?_))))))
  refine W.pv (padd (.pointer (some ⟨b9, 0, none⟩)) 2) (z0f zq6 ov (al.atVar (j := 0) rfl)) (W.l1 (.string y.B) ag9 (z0i rfl (At.str (At.proj (al.atVar (j := 0) rfl) zda))) (W.ln (Lo.buildSlice (r := rS) (vs := [(.string y.A), (.string y.B)]) (xs := [y.A, y.B]) el22 ze9 sz9 (by kernel_rfl) rfl (qc rfl (qc rfl qn)) rfl (.cons rfl (.cons rfl .nil)) al) ?_))
  rintro hl jB ⟨hm, ij⟩
  obtain ⟨hn, ho, hp, hq⟩ := hm.frzSl (j := 0) rfl
  obtain ⟨dO, hr, hs⟩ := z2l (G := hn) ((.string y.Name)) (hl) ((.bool true)) ((.bool false)) (rfl) ((z1x hq)) (rfl) (rfl)
  refine W.pv (.agg dO.toArray) (hr (z3a rfl (qc' rfl (qc' rfl (qc' rfl (qc' rfl qn')))))) (W.ln (Lo.buildSlice (r := z3m) (vs := [(.agg dO.toArray)]) (xs := [(Item.mk y.Name [y.A, y.B] true false)]) el66 ze69 sz69 (by kernel_rfl) rfl (qc rfl qn) rfl (.cons hs .nil) ho) ?_)
  rintro jC jD ⟨dP, ik⟩
  obtain ⟨il, ht, hu⟩ := z4a (j := 0) rfl dP
  obtain ⟨hv, hw⟩ := z2b hi
  refine W.ln (Lo.append (j := 2) (v := (b3 3)) rfl rfl el66 ni66 ze69 sz69 by69 (by decide) (by decide) rfl ht hu hv dP) ?_
  rintro hx jE ⟨hy, im⟩
  refine W.p1 hx (.nil (.region (W.r3 (.int .i64 (z03 .i64 (aA + 1))) b6 (W.p2 (.int .i64 (z03 .i64 (aA + 1))) (.nil ?_)))))
  have hz := (hy.drop 0).drop 0
  exact ⟨b2, zAg _, ⟨(dL ++ [(Item.mk y.Name [y.A, y.B] true false)]), z03 .i64 (aA + 1), _, hw, hz, (zAe aO hp), rfl⟩⟩
 rintro io jF aC ⟨hA, dQ, rfl, ca, hB⟩
 have hC := z0a hc
 refine .seq (.seq (.region (W.pv (padd (.pointer (some ⟨C, 0, none⟩)) 2) (z0f zd8 (ou (ft (aC 1 rfl) rfl)) (ca.atVar (j := 0) rfl)) ?_)))
 obtain ⟨dR, hD, cb⟩ := At.sl (At.proj (ca.atVar (j := 0) rfl) z0z)
 refine W.l1 dR ag24 (z0i rfl hD) (W.pv (.int .i64 (i.Branches.length : Int)) (z0q ov (z0g cb) (z05 el24)) (W.p2 (.int .i64 0) (.nil ?_)))
 obtain ⟨dS, hE, hF⟩ := z00 hC
 refine AW.midT (fun e x => ∃ (k : List Item) (g : GM), k = dS /\ Ow g x (eVar C 29 z07 i :: eSl (e 3) 69 z3m k :: L) /\ GM.le dQ g) ?_ ?_
 .refine .block (AW.loop (α := Nat) (fun z e x => ∃ (k : List Item) (N : Int) (g : GM), z3o K i z k N = some dS /\ Ow g x (eVar C 29 z07 i :: eSl (e 3) 69 z3m k :: L) /\ GM.le dQ g /\ e 36 = .int .i64 N) (fun z => z) K ⟨hA, 0, _, hE, ca, (zAf _), rfl⟩ ?_)
  rintro cc
  rintro cd jG ce ⟨dT, aB, jH, bO, cf, aP, cg⟩
  rcases cc with _ | cc
  .exact z09 bO
  rw [z3o] at bO
  refine .seq (.region (W.q3 (.bool (decide (aB < (i.Branches.length : Int)))) cg (ft (ce 35 rfl) rfl) (.nil (.seq (.cond (b := decide (aB < (i.Branches.length : Int))) rfl rfl (fun ch => ?_) (fun ch => ?_))))))
  rotate_left
  .have dY := z0h ch bO
   refine .exit ?_
   obtain rfl := zAa dY
   exact ⟨dT, _, rfl, cf, aP⟩
  have hG := z01 ch bO
  refine .skip (.seq (.block (.seq (.region ?_))))
  obtain ⟨w, dZ, d0⟩ := z00 hG
  have aQ := z0c dZ
  refine W.pv (z1v dR (aB.toNat * 9)) (z2a el24 sz50 (ou (ft (ce 34 rfl) rfl)) (ou cg) (z0g (RT.mono _ aP cb)) aQ.1 aQ.2.1) ?_
  obtain ⟨ci, d1, cj⟩ := (At.le (At.le (z1h cb aQ.2.2) aP aP) (zAf _) cf.fro)
  refine W.loadA (cs := ci) rfl rfl ag50 sz50 (z0i rfl d1) (RT.len _ cj) (W.ln (Lo.alloc (r := z0d) (x0 := (Branch.mk ByteArray.empty ByteArray.empty ByteArray.empty 0 0 0 0 0 0)) ze50 (by kernel_rfl) zai cf) ?_)
  rintro ip iq ⟨aR, rfl, d2, hH⟩
  refine W.ln (Lo.storeVar (j := 0) (s := z0d) (y0 := w) (v := (.agg ci.toArray)) (o := 0) rfl ((Put.at (Put.self _) _ _)) rfl sz50 rfl (by omega) rfl cj d2) ?_
  rintro ir it ⟨d3, hI⟩
  refine .nil (.draw2 (M := [0, 0, 2, 0, 8, 0, 32, 120, 0, 256, 768, 2046, 4094, 8191, 16383]) mixed (by kernel_rfl) (by kernel_rfl) fun iu iv d4 d5 => ?_)
  have I := d3.ext d4
  refine D2.p2 (cd 3) (D2.pv (padd (.pointer (some ⟨aR, 0, none⟩)) 0) (z0f zje ov (I.atVar (j := 0) rfl)) (D2.l1 (.string w.Name) ag9 (z0i rfl (At.str (At.proj (I.atVar (j := 0) rfl) z5m))) z08 (D2.pv (padd (.pointer (some ⟨aR, 0, none⟩)) 1) (z0f zq1 ov (I.atVar (j := 0) rfl)) (D2.l1 (.string w.From) ag9 (z0i rfl (At.str (At.proj (I.atVar (j := 0) rfl) z99))) z08 (D2.pv (padd (.pointer (some ⟨aR, 0, none⟩)) 2) (z0f zq2 ov (I.atVar (j := 0) rfl)) (D2.l1 (.string w.To) ag9 (z0i rfl (At.str (At.proj (I.atVar (j := 0) rfl) zbs))) z08 ?_))))))
  refine D2.alloc (m := 15) rfl rfl (Al.buildSlice (r := rS) (vs := [(.string w.From), (.string w.To)]) (xs := [w.From, w.To]) el22 ze9 sz9 (by kernel_rfl) rfl (qc rfl (qc rfl qn)) rfl (.cons rfl (.cons rfl .nil))) (Free.up (by decide) d5) (by decide) I ?_
  rintro d6 iw ⟨ck, hJ, d7⟩
  obtain ⟨cl, d8, cm⟩ := (ck.atVar (j := 1) rfl)
  refine D2.loadA' (cs := cl) rfl rfl ag50 sz50 (z0i rfl d8) (RT.len _ cm) z08 ?_
  obtain ⟨aD, d9, ea⟩ := z00 d0
  refine D2.loN rfl rfl (Lo.cQ Tryz.f46 (mc rfl mn) ck (fun aS J => zby K cl w cm J _ d9)) ?_ z08 ?_ ?_
  .rintro cn co ⟨cp, aT, aU, F, rfl⟩; exact (faI (faR1 (.inr (smI (j := 1) F)) (faR1 (.inr (smI (j := 1) F)) (faR1 (.inr (smI (j := 1) F)) z08))))
  .rintro cn co ⟨cp, aT, aU, F, rfl⟩; exact (faR1 (.inr (smI (j := 0) F)) z08)
  rintro cn co ⟨cp, aT, aU, F, rfl⟩ dA
  have eb := Free.nx d7 dA
  refine D2.p3 (.bool (aD != 0)) ?_
  obtain ⟨ec, ed, ee, ef⟩ := aT.frzSl (j := 0) rfl
  obtain ⟨cq, eg, eh⟩ := z2l (G := ec) ((.string w.Name)) ((.slice (some ⟨d6, 0, some 0⟩) 2 2)) ((.bool true)) ((.bool (aD != 0))) (rfl) ((z1x ef)) (rfl) (rfl)
  refine D2.pv (.agg cq.toArray) (eg (z3a rfl (qc' rfl (qc' rfl (qc' rfl (qc' rfl qn')))))) (D2.alloc (m := 15) rfl rfl (Al.buildSlice (r := z3m) (vs := [(.agg cq.toArray)]) (xs := [(Item.mk w.Name [w.From, w.To] true (aD != 0))]) el66 ze69 sz69 (by kernel_rfl) rfl (qc rfl qn) rfl (.cons eh .nil)) (Free.up (by decide) eb) (by decide) ed ?_)
  rintro ix iy ⟨cr, hK, iz⟩
  obtain ⟨hL, ei, ej⟩ := z4a (j := 0) rfl cr
  obtain ⟨ek, el⟩ := z2b ea
  refine D2.lo rfl rfl (Lo.append (j := 3) (v := (cd 3)) rfl rfl el66 ni66 ze69 sz69 by69 (by decide) (by decide) rfl ei ej ek cr) ?_ (faK z08) ?_ ?_
  .rintro aV ct ⟨aW, bP⟩; exact (faI (faI (faI (faI z08))))
  .rintro aV ct ⟨aW, bP⟩; exact (faI (faI z08))
  rintro aV ct ⟨aW, bP⟩
  refine D2.p1 aV (.nil (.region (W.r3 (.int .i64 (z03 .i64 (aB + 1))) cg (W.p2 (.int .i64 (z03 .i64 (aB + 1))) (.nil ?_)))))
  have em := (aW.drop 0).drop 0
  exact ⟨cc, zAg _, ⟨(dT ++ [(Item.mk w.Name [w.From, w.To] true (aD != 0))]), z03 .i64 (aB + 1), _, el, em, (zAe aP (zAe aU ee)), rfl⟩⟩
 rintro hM iA aE ⟨en, cu, rfl, aX, eo⟩
 have ep := z0a hF
 refine .seq (.seq (.region (W.pv (padd (.pointer (some ⟨C, 0, none⟩)) 3) (z0f zlc (ou (ft (aE 1 rfl) (ft (aC 1 rfl) rfl))) (aX.atVar (j := 0) rfl)) ?_)))
 obtain ⟨cv, eq, aY⟩ := At.sl (At.proj (aX.atVar (j := 0) rfl) z60)
 refine W.l1 cv ag25 (z0i rfl eq) (W.pv (.int .i64 (i.Gens.length : Int)) (z0q ov (z0g aY) (z05 el25)) (W.p2 (.int .i64 0) (.nil ?_)))
 obtain ⟨cw, er, es⟩ := z00 ep
 refine AW.midT (fun e x => ∃ (k : List Item) (g : GM), k = cw /\ Ow g x (eVar C 29 z07 i :: eSl (e 3) 69 z3m k :: L) /\ GM.le cu g) ?_ ?_
 .refine .block (AW.loop (α := Nat) (fun z e x => ∃ (k : List Item) (N : Int) (g : GM), z3p K i z k N = some cw /\ Ow g x (eVar C 29 z07 i :: eSl (e 3) 69 z3m k :: L) /\ GM.le cu g /\ e 58 = .int .i64 N) (fun z => z) K ⟨en, 0, _, er, aX, (zAf _), rfl⟩ ?_)
  rintro aZ
  rintro ai iB bQ ⟨aF, Z, et, aG, a0, am, a1⟩
  rcases aZ with _ | aZ
  .exact z09 aG
  rw [z3p] at aG
  refine .seq (.region (W.q3 (.bool (decide (Z < (i.Gens.length : Int)))) a1 (ft (bQ 57 rfl) rfl) (.nil (.seq (.cond (b := decide (Z < (i.Gens.length : Int))) rfl rfl (fun a2 => ?_) (fun a2 => ?_))))))
  rotate_left
  .have eu := z0h a2 aG
   refine .exit ?_
   obtain rfl := zAa eu
   exact ⟨aF, _, rfl, a0, am⟩
  have ev := z01 a2 aG
  refine .skip (.seq ?_)
  obtain ⟨ew, ex, ey⟩ := z00 ev
  refine AW.midT (fun e x => ∃ (k : List Item) (g : GM), k = ew /\ Ow g x (eVar C 29 z07 i :: eSl (e 3) 69 z3m k :: L) /\ GM.le et g) ?_ ?_
  rotate_left
  .rintro hN iC dB ⟨ez, iD, rfl, eA, eB⟩
   have eC := z0a ey
   refine .region (W.q3 (.int .i64 (z03 .i64 (Z + 1))) (ft (dB 58 rfl) a1) rfl (W.p2 (.int .i64 (z03 .i64 (Z + 1))) (.nil ?_)))
   exact ⟨aZ, zAg _, ⟨ez, z03 .i64 (Z + 1), _, eC, eA, (zAe am eB), rfl⟩⟩
  refine .block (.seq (.region ?_))
  obtain ⟨c, eD, eE⟩ := z00 ex
  have a3 := z0c eD
  refine W.pv (z1v cv (Z.toNat * 5)) (z2a el25 sz85 (ou (ft (bQ 56 rfl) rfl)) (ou a1) (z0g (RT.mono _ am aY)) a3.1 a3.2.1) ?_
  obtain ⟨cx, eF, cy⟩ := (At.le (At.le (z1h aY a3.2.2) am am) (zAf _) a0.fro)
  refine W.loadA (cs := cx) rfl rfl ag85 sz85 (z0i rfl eF) (RT.len _ cy) (W.ln (Lo.alloc (r := z8v) (x0 := (Gen.mk ByteArray.empty ByteArray.empty 0 0 0)) ze85 (by kernel_rfl) zuk a0) ?_)
  rintro iE iF ⟨aa, rfl, eG, hO⟩
  refine W.ln (Lo.storeVar (j := 0) (s := z8v) (y0 := c) (v := (.agg cx.toArray)) (o := 0) rfl ((Put.at (Put.self _) _ _)) rfl sz85 rfl (by omega) rfl cy eG) ?_
  rintro iG iH ⟨eH, hP⟩
  refine .nil (.draw2 (M := [0, 0, 2, 0, 8, 24, 0, 64, 192, 448, 960, 1984, 4032, 1984, 10176, 32704, 65472, 131008, 262080, 524224, 1048512, 2097088, 4194240, 8388544, 16777214, 33554430, 67108863, 134217727]) mixed (by kernel_rfl) (by kernel_rfl) fun iI iJ eI eJ => ?_)
  have an := eH.ext eI
  refine D2.p2 (ai 3) (D2.pv (padd (.pointer (some ⟨aa, 0, none⟩)) 0) (z0f zrw ov (an.atVar (j := 0) rfl)) (D2.l1 (.string c.Name) ag9 (z0i rfl (At.str (At.proj (an.atVar (j := 0) rfl) zgs))) z08 (D2.pv (padd (.pointer (some ⟨aa, 0, none⟩)) 1) (z0f zrx ov (an.atVar (j := 0) rfl)) (D2.l1 (.string c.Node) ag9 (z0i rfl (At.str (At.proj (an.atVar (j := 0) rfl) zgt))) z08 (D2.alloc (m := 28) rfl rfl (Al.buildSlice (r := rS) (vs := [(.string c.Node)]) (xs := [c.Node]) el22 ze9 sz9 (by kernel_rfl) rfl (qc rfl qn) rfl (.cons rfl .nil)) (Free.up (by decide) eJ) (by decide) an ?_)))))
  rintro a4 iK ⟨a5, hQ, eK⟩
  refine D2.pv (padd (.pointer (some ⟨aa, 0, none⟩)) 2) (z0f zns ov (a5.atVar (j := 1) rfl)) (D2.l1 (.int .i64 c.Least) ag3 (z0i rfl (At.int (At.proj (a5.atVar (j := 1) rfl) za0))) z08 ?_)
  obtain ⟨aH, eL, cz⟩ := z00 eE
  refine D2.loN rfl rfl (Lo.cQ Tryz.f47 (mc rfl (mc rfl (mc rfl mn))) a5 (fun aS J => z4z K c.Least 0 100000 J _ eL)) ?_ z08 ?_ ?_
  .rintro cA cB ⟨cC, E, ao, P, rfl⟩; exact (faI (faR1 (.inr (smI (j := 1) P)) (faR1 (.inr (smI (j := 1) P)) z08)))
  .rintro cA cB ⟨cC, E, ao, P, rfl⟩; exact (faR1 (.inr (smI (j := 0) P)) z08)
  rintro cA cB ⟨cC, E, ao, P, rfl⟩ dC
  have cD := Free.nx eK dC
  refine D2.pv (.bool (!aH)) (z1g (a := aH) ov) (D2.p2 (.bool (!aH)) (D2.splitAt (t := 72) (b := (!aH)) rfl (fun a6 f => ?_) (fun a6 f => ?_)))
  .have eM := z01 a6 cz
   refine D2.skip (gl rfl f) rfl (D2.skip (gl rfl f) rfl (D2.skip (gl rfl f) rfl (D2.skip (gl rfl f) rfl (D2.skip (gl rfl f) rfl (D2.skip (gl rfl f) rfl (D2.pv (.bool true) (z68 (ou f) ov) ?_))))))
   refine D2.p2 (.bool true) (D2.skip (gl rfl rfl) rfl (D2.skip (gl rfl rfl) rfl (D2.skip (gl rfl rfl) rfl (D2.skip (gl rfl rfl) rfl (D2.pv (.bool true) (z68 ov ov) ?_)))))
   obtain ⟨eN, eO, eP, eQ⟩ := E.frzSl (j := 0) rfl
   obtain ⟨cE, eR, eS⟩ := z2l (G := eN) ((.string c.Name)) ((.slice (some ⟨a4, 0, some 0⟩) 1 1)) ((.bool false)) ((.bool true)) (rfl) ((z1x eQ)) (rfl) (rfl)
   refine D2.pv (.agg cE.toArray) (eR (z3a rfl (qc' rfl (qc' rfl (qc' rfl (qc' rfl qn')))))) (D2.alloc (m := 28) rfl rfl (Al.buildSlice (r := z3m) (vs := [(.agg cE.toArray)]) (xs := [(Item.mk c.Name [c.Node] false true)]) el66 ze69 sz69 (by kernel_rfl) rfl (qc rfl qn) rfl (.cons eS .nil)) (Free.up (by decide) cD) (by decide) eO ?_)
   rintro iL iM ⟨cF, hR, iN⟩
   obtain ⟨hS, eT, eU⟩ := z4a (j := 0) rfl cF
   obtain ⟨eV, eW⟩ := z2b eM
   refine D2.lo rfl rfl (Lo.append (j := 3) (v := (ai 3)) rfl rfl el66 ni66 ze69 sz69 by69 (by decide) (by decide) rfl eT eU eV cF) ?_ (faK z08) ?_ ?_
   .rintro a7 cG ⟨a8, bR⟩; exact (faI (faI (faI z08)))
   .rintro a7 cG ⟨a8, bR⟩; exact (faI (faI z08))
   rintro a7 cG ⟨a8, bR⟩
   refine D2.p1 a7 (.nil ?_)
   have eX := (a8.drop 0).drop 0
   obtain rfl := zAa eW
   exact ⟨(aF ++ [(Item.mk c.Name [c.Node] false true)]), _, rfl, eX, (zAe ao eP)⟩
  have eY := z0h a6 cz
  refine D2.pure (v := (padd (.pointer (some ⟨aa, 0, none⟩)) 3)) (gl rfl f) rfl (z0f zry ov (E.atVar (j := 1) rfl)) (D2.load1' (v := (.int .i64 c.Most)) (r := []) (gl rfl f) rfl ag3 (z0i rfl (At.int (At.proj (E.atVar (j := 1) rfl) zgu))) (zd6 (by decide) z08) (D2.pure (v := (padd (.pointer (some ⟨aa, 0, none⟩)) 2)) (gl rfl f) rfl (z0f zns ov (E.atVar (j := 1) rfl)) (D2.load1' (v := (.int .i64 c.Least)) (r := []) (gl rfl f) rfl ag3 (z0i rfl (At.int (At.proj (E.atVar (j := 1) rfl) za0))) (zd6 (by decide) z08) ?_)))
  obtain ⟨ap, eZ, cH⟩ := z00 eY
  refine D2.loN (gl rfl f) rfl (Lo.cQ Tryz.f47 (mc rfl (mc rfl (mc rfl mn))) E (fun aS J => z4z K c.Most c.Least 100000 J _ eZ)) ?_ (faK z08) ?_ ?_
  .rintro cI cJ ⟨cK, ab, aI, S, rfl⟩; exact (faI (faI (faI (faR1 (.inr (smI (j := 1) S)) (faR1 (.inr (smI (j := 1) S)) z08)))))
  .rintro cI cJ ⟨cK, ab, aI, S, rfl⟩; exact (faR1 (.inr (smI (j := 0) S)) z08)
  rintro cI cJ ⟨cK, ab, aI, S, rfl⟩ dD
  have cL := Free.nx cD dD
  refine D2.pure (v := (.bool (!ap))) (gl rfl f) rfl (z1g (a := ap) ov) (D2.pv (.bool (!ap)) (z8u (ou f) ov) (D2.p2 (.bool (!ap)) (D2.splitAt (t := 80) (b := (!ap)) rfl (fun a9 l => ?_) (fun a9 l => ?_))))
  .have e0 := z01 a9 cH
   refine D2.skip (gl rfl l) rfl (D2.skip (gl rfl l) rfl (D2.skip (gl rfl l) rfl (D2.skip (gl rfl l) rfl (D2.pv (.bool true) (z68 (ou l) ov) ?_))))
   obtain ⟨e1, e2, e3, e4⟩ := ab.frzSl (j := 0) rfl
   obtain ⟨cM, e5, e6⟩ := z2l (G := e1) ((.string c.Name)) ((.slice (some ⟨a4, 0, some 0⟩) 1 1)) ((.bool false)) ((.bool true)) (rfl) ((z1x e4)) (rfl) (rfl)
   refine D2.pv (.agg cM.toArray) (e5 (z3a rfl (qc' rfl (qc' rfl (qc' rfl (qc' rfl qn')))))) (D2.alloc (m := 28) rfl rfl (Al.buildSlice (r := z3m) (vs := [(.agg cM.toArray)]) (xs := [(Item.mk c.Name [c.Node] false true)]) el66 ze69 sz69 (by kernel_rfl) rfl (qc rfl qn) rfl (.cons e6 .nil)) (Free.up (by decide) cL) (by decide) e2 ?_)
   rintro iO iP ⟨cN, hT, iQ⟩
   obtain ⟨hU, e7, e8⟩ := z4a (j := 0) rfl cN
   obtain ⟨e9, fa⟩ := z2b e0
   refine D2.lo rfl rfl (Lo.append (j := 3) (v := (ai 3)) rfl rfl el66 ni66 ze69 sz69 by69 (by decide) (by decide) rfl e7 e8 e9 cN) ?_ (faK (faK z08)) ?_ ?_
   .rintro ba cO ⟨bb, bS⟩; exact (faI (faI (faI (faI (faI z08)))))
   .rintro ba cO ⟨bb, bS⟩; exact (faI (faI z08))
   rintro ba cO ⟨bb, bS⟩
   refine D2.p1 ba (.nil ?_)
   have fb := (bb.drop 0).drop 0
   obtain rfl := zAa fa
   exact ⟨(aF ++ [(Item.mk c.Name [c.Node] false true)]), _, rfl, fb, (zAe ao (zAe aI e3))⟩
  have fc := z0h a9 cH
  refine D2.pure (v := (padd (.pointer (some ⟨aa, 0, none⟩)) 4)) (gl rfl l) rfl (z0f zrz ov (ab.atVar (j := 1) rfl)) (D2.load1' (v := (.int .i64 c.Ramp)) (r := []) (gl rfl l) rfl ag3 (z0i rfl (At.int (At.proj (ab.atVar (j := 1) rfl) zgv))) (zd6 (by decide) (zd6 (by decide) z08)) ?_)
  obtain ⟨ac, fd, fe⟩ := z00 fc
  refine D2.loN (gl rfl l) rfl (Lo.cQ Tryz.f47 (mc rfl (mc rfl (mc rfl mn))) ab (fun aS J => z4z K c.Ramp 0 100000 J _ fd)) ?_ (faK (faK z08)) ?_ ?_
  .rintro cP cR ⟨cS, bc, bd, T, rfl⟩; exact (faI (faI (faI (faI (faR1 (.inr (smI (j := 1) T)) (faR1 (.inr (smI (j := 1) T)) z08))))))
  .rintro cP cR ⟨cS, bc, bd, T, rfl⟩; exact (faR1 (.inr (smI (j := 0) T)) z08)
  rintro cP cR ⟨cS, bc, bd, T, rfl⟩ dE
  have ff := Free.nx cL dE
  refine D2.pure (v := (.bool (!ac))) (gl rfl l) rfl (z1g (a := ac) ov) (D2.pv (.bool (!ac)) (z8u (ou l) ov) ?_)
  obtain ⟨fg, fh, fi, fj⟩ := bc.frzSl (j := 0) rfl
  obtain ⟨cT, fk, fl⟩ := z2l (G := fg) ((.string c.Name)) ((.slice (some ⟨a4, 0, some 0⟩) 1 1)) ((.bool false)) ((.bool (!ac))) (rfl) ((z1x fj)) (rfl) (rfl)
  refine D2.pv (.agg cT.toArray) (fk (z3a rfl (qc' rfl (qc' rfl (qc' rfl (qc' rfl qn')))))) (D2.alloc (m := 28) rfl rfl (Al.buildSlice (r := z3m) (vs := [(.agg cT.toArray)]) (xs := [(Item.mk c.Name [c.Node] false (!ac))]) el66 ze69 sz69 (by kernel_rfl) rfl (qc rfl qn) rfl (.cons fl .nil)) (Free.up (by decide) ff) (by decide) fh ?_)
  rintro iR iS ⟨cU, hV, iT⟩
  obtain ⟨hW, fm, fo⟩ := z4a (j := 0) rfl cU
  obtain ⟨fp, fq⟩ := z2b fe
  refine D2.lo rfl rfl (Lo.append (j := 3) (v := (ai 3)) rfl rfl el66 ni66 ze69 sz69 by69 (by decide) (by decide) rfl fm fo fp cU) ?_ (faK (faK (faK z08))) ?_ ?_
  .rintro be cV ⟨bf, bT⟩; exact (faI (faI (faI (faI (faI (faI z08))))))
  .rintro be cV ⟨bf, bT⟩; exact (faI (faI z08))
  rintro be cV ⟨bf, bT⟩
  refine D2.p1 be (.nil ?_)
  have fr := (bf.drop 0).drop 0
  obtain rfl := zAa fq
  exact ⟨(aF ++ [(Item.mk c.Name [c.Node] false (!ac))]), _, rfl, fr, (zAe ao (zAe aI (zAe bd fi)))⟩
 rintro hX iU bU ⟨fs, cW, rfl, bg, fu⟩
 have fv := z0a es
 refine .seq (.seq (.region (W.pv (padd (.pointer (some ⟨C, 0, none⟩)) 4) (z0f zld (ou (ft (bU 1 rfl) (ft (aE 1 rfl) (ft (aC 1 rfl) rfl)))) (bg.atVar (j := 0) rfl)) ?_)))
 obtain ⟨cX, fw, bh⟩ := At.sl (At.proj (bg.atVar (j := 0) rfl) z57)
 refine W.l1 cX ag26 (z0i rfl fw) (W.pv (.int .i64 (i.Loads.length : Int)) (z0q ov (z0g bh) (z05 el26)) (W.p2 (.int .i64 0) (.nil ?_)))
 obtain ⟨cY, fx, fy⟩ := z00 fv
 refine AW.midT (fun e x => ∃ (k : List Item) (g : GM), k = cY /\ Ow g x (eVar C 29 z07 i :: eSl (e 3) 69 z3m k :: L) /\ GM.le cW g) ?_ ?_
 .refine .block (AW.loop (α := Nat) (fun z e x => ∃ (k : List Item) (N : Int) (g : GM), z3q K i z k N = some cY /\ Ow g x (eVar C 29 z07 i :: eSl (e 3) 69 z3m k :: L) /\ GM.le cW g /\ e 93 = .int .i64 N) (fun z => z) K ⟨fs, 0, _, fx, bg, (zAf _), rfl⟩ ?_)
  rintro bi
  rintro bV iV bW ⟨cZ, ad, iW, aJ, bj, aq, bk⟩
  rcases bi with _ | bi
  .exact z09 aJ
  rw [z3q] at aJ
  refine .seq (.region (W.q3 (.bool (decide (ad < (i.Loads.length : Int)))) bk (ft (bW 92 rfl) rfl) (.nil (.seq (.cond (b := decide (ad < (i.Loads.length : Int))) rfl rfl (fun bl => ?_) (fun bl => ?_))))))
  rotate_left
  .have fz := z0h bl aJ
   refine .exit ?_
   obtain rfl := zAa fz
   exact ⟨cZ, _, rfl, bj, aq⟩
  have fA := z01 bl aJ
  refine .skip (.seq (.block (.seq (.region ?_))))
  obtain ⟨u, fB, fC⟩ := z00 fA
  have bm := z0c fB
  refine W.pv (z1v cX (ad.toNat * 3)) (z2a el26 sz87 (ou (ft (bW 91 rfl) rfl)) (ou bk) (z0g (RT.mono _ aq bh)) bm.1 bm.2.1) ?_
  obtain ⟨c0, fD, c1⟩ := (At.le (At.le (z1h bh bm.2.2) aq aq) (zAf _) bj.fro)
  refine W.loadA (cs := c0) rfl rfl ag87 sz87 (z0i rfl fD) (RT.len _ c1) (W.ln (Lo.alloc (r := z2p) (x0 := (Load_.mk ByteArray.empty ByteArray.empty 0)) ze87 (by kernel_rfl) zp5 bj) ?_)
  rintro iX iY ⟨bn, rfl, fE, hY⟩
  refine W.ln (Lo.storeVar (j := 0) (s := z2p) (y0 := u) (v := (.agg c0.toArray)) (o := 0) rfl ((Put.at (Put.self _) _ _)) rfl sz87 rfl (by omega) rfl c1 fE) ?_
  rintro iZ i0 ⟨fF, hZ⟩
  refine .nil (.draw2 (M := [0, 0, 2, 0, 8, 24, 0, 64, 192, 448, 1022, 2046, 4095, 8191]) mixed (by kernel_rfl) (by kernel_rfl) fun i1 i2 fG fH => ?_)
  have ar := fF.ext fG
  refine D2.p2 (bV 3) (D2.pv (padd (.pointer (some ⟨bn, 0, none⟩)) 0) (z0f zs0 ov (ar.atVar (j := 0) rfl)) (D2.l1 (.string u.Name) ag9 (z0i rfl (At.str (At.proj (ar.atVar (j := 0) rfl) zdc))) z08 (D2.pv (padd (.pointer (some ⟨bn, 0, none⟩)) 1) (z0f zs1 ov (ar.atVar (j := 0) rfl)) (D2.l1 (.string u.Node) ag9 (z0i rfl (At.str (At.proj (ar.atVar (j := 0) rfl) zdd))) z08 (D2.alloc (m := 14) rfl rfl (Al.buildSlice (r := rS) (vs := [(.string u.Node)]) (xs := [u.Node]) el22 ze9 sz9 (by kernel_rfl) rfl (qc rfl qn) rfl (.cons rfl .nil)) (Free.up (by decide) fH) (by decide) ar ?_)))))
  rintro fI i3 ⟨bo, h0, fJ⟩
  refine D2.pv (padd (.pointer (some ⟨bn, 0, none⟩)) 2) (z0f zs2 ov (bo.atVar (j := 1) rfl)) (D2.l1 (.int .i64 u.Demand) ag3 (z0i rfl (At.int (At.proj (bo.atVar (j := 1) rfl) zb7))) z08 ?_)
  obtain ⟨au, fK, fL⟩ := z00 fC
  refine D2.loN rfl rfl (Lo.cQ Tryz.f47 (mc rfl (mc rfl (mc rfl mn))) bo (fun aS J => z4z K u.Demand 0 100000 J _ fK)) ?_ z08 ?_ ?_
  .rintro c2 c3 ⟨c4, bp, bq, U, rfl⟩; exact (faI (faR1 (.inr (smI (j := 1) U)) (faR1 (.inr (smI (j := 1) U)) z08)))
  .rintro c2 c3 ⟨c4, bp, bq, U, rfl⟩; exact (faR1 (.inr (smI (j := 0) U)) z08)
  rintro c2 c3 ⟨c4, bp, bq, U, rfl⟩ dF
  have fM := Free.nx fJ dF
  refine D2.pv (.bool (!au)) (z1g (a := au) ov) ?_
  obtain ⟨fN, fO, fP, fQ⟩ := bp.frzSl (j := 0) rfl
  obtain ⟨c5, fR, fS⟩ := z2l (G := fN) ((.string u.Name)) ((.slice (some ⟨fI, 0, some 0⟩) 1 1)) ((.bool false)) ((.bool (!au))) (rfl) ((z1x fQ)) (rfl) (rfl)
  refine D2.pv (.agg c5.toArray) (fR (z3a rfl (qc' rfl (qc' rfl (qc' rfl (qc' rfl qn')))))) (D2.alloc (m := 14) rfl rfl (Al.buildSlice (r := z3m) (vs := [(.agg c5.toArray)]) (xs := [(Item.mk u.Name [u.Node] false (!au))]) el66 ze69 sz69 (by kernel_rfl) rfl (qc rfl qn) rfl (.cons fS .nil)) (Free.up (by decide) fM) (by decide) fO ?_)
  rintro i4 i5 ⟨c6, h1, i6⟩
  obtain ⟨h2, fT, fU⟩ := z4a (j := 0) rfl c6
  obtain ⟨fV, fW⟩ := z2b fL
  refine D2.lo rfl rfl (Lo.append (j := 3) (v := (bV 3)) rfl rfl el66 ni66 ze69 sz69 by69 (by decide) (by decide) rfl fT fU fV c6) ?_ (faK z08) ?_ ?_
  .rintro br c7 ⟨bs, bX⟩; exact (faI (faI (faI z08)))
  .rintro br c7 ⟨bs, bX⟩; exact (faI (faI z08))
  rintro br c7 ⟨bs, bX⟩
  refine D2.p1 br (.nil (.region (W.r3 (.int .i64 (z03 .i64 (ad + 1))) bk (W.p2 (.int .i64 (z03 .i64 (ad + 1))) (.nil ?_)))))
  have fX := (bs.drop 0).drop 0
  exact ⟨bi, zAg _, ⟨(cZ ++ [(Item.mk u.Name [u.Node] false (!au))]), z03 .i64 (ad + 1), _, fW, fX, (zAe aq (zAe bq fP)), rfl⟩⟩
 rintro h3 i7 dG ⟨fY, c8, rfl, bt, fZ⟩
 have f0 := z0a fy
 refine .seq (.seq (.region (W.pv (padd (.pointer (some ⟨C, 0, none⟩)) 5) (z0f zle (ou (ft (dG 1 rfl) (ft (bU 1 rfl) (ft (aE 1 rfl) (ft (aC 1 rfl) rfl))))) (bt.atVar (j := 0) rfl)) ?_)))
 obtain ⟨c9, f1, bu⟩ := At.sl (At.proj (bt.atVar (j := 0) rfl) z4n)
 refine W.l1 c9 ag27 (z0i rfl f1) (W.pv (.int .i64 (i.Stores.length : Int)) (z0q ov (z0g bu) (z05 el27)) (W.p2 (.int .i64 0) (.nil ?_)))
 obtain ⟨da, f2, f3⟩ := z00 f0
 refine AW.midT (fun e x => ∃ (k : List Item) (g : GM), k = da /\ Ow g x (eVar C 29 z07 i :: eSl (e 3) 69 z3m k :: L) /\ GM.le c8 g) ?_ ?_
 rotate_left
 .rintro aj i8 h4 ⟨i9, ja, rfl, f4, f5⟩
  have f6 := z0a f3
  refine .seq (.region (W.p2 (aj 3) (W.p1 (aj 3) (.nil (.ret ?_)))))
  have f7 := f4.drop 0
  obtain rfl := zAa f6
  exact z4j kr (aj 3) (v1 := (aj 3)) (by rfl) rt f7 (zAe hB (zAe eo (zAe fu (zAe fZ f5)))) rfl
 refine .block (AW.loop (α := Nat) (fun z e x => ∃ (k : List Item) (N : Int) (g : GM), z3r K i z k N = some da /\ Ow g x (eVar C 29 z07 i :: eSl (e 3) 69 z3m k :: L) /\ GM.le c8 g /\ e 114 = .int .i64 N) (fun z => z) K ⟨fY, 0, _, f2, bt, (zAf _), rfl⟩ ?_)
 rintro bv
 rintro ak jb bY ⟨aK, ae, f8, aL, bw, av, bx⟩
 rcases bv with _ | bv
 .exact z09 aL
 rw [z3r] at aL
 refine .seq (.region (W.q3 (.bool (decide (ae < (i.Stores.length : Int)))) bx (ft (bY 113 rfl) rfl) (.nil (.seq (.cond (b := decide (ae < (i.Stores.length : Int))) rfl rfl (fun bz => ?_) (fun bz => ?_))))))
 rotate_left
 .have f9 := z0h bz aL
  refine .exit ?_
  obtain rfl := zAa f9
  exact ⟨aK, _, rfl, bw, av⟩
 have ga := z01 bz aL
 refine .skip (.seq ?_)
 obtain ⟨gb, gc, gd⟩ := z00 ga
 refine AW.midT (fun e x => ∃ (k : List Item) (g : GM), k = gb /\ Ow g x (eVar C 29 z07 i :: eSl (e 3) 69 z3m k :: L) /\ GM.le f8 g) ?_ ?_
 rotate_left
 .rintro h5 jc dH ⟨ge, jd, rfl, gf, gg⟩
  have gh := z0a gd
  refine .region (W.q3 (.int .i64 (z03 .i64 (ae + 1))) (ft (dH 114 rfl) bx) rfl (W.p2 (.int .i64 (z03 .i64 (ae + 1))) (.nil ?_)))
  exact ⟨bv, zAg _, ⟨ge, z03 .i64 (ae + 1), _, gh, gf, (zAe av gg), rfl⟩⟩
 refine .block (.seq (.region ?_))
 obtain ⟨d, gi, gj⟩ := z00 gc
 have bA := z0c gi
 refine W.pv (z1v c9 (ae.toNat * 5)) (z2a el27 zoy (ou (ft (bY 112 rfl) rfl)) (ou bx) (z0g (RT.mono _ av bu)) bA.1 bA.2.1) ?_
 obtain ⟨db, gm, dc⟩ := (At.le (At.le (z1h bu bA.2.2) av av) (zAf _) bw.fro)
 refine W.loadA (cs := db) rfl rfl zug zoy (z0i rfl gm) (RT.len _ dc) (W.ln (Lo.alloc (r := z2d) (x0 := (Store.mk ByteArray.empty ByteArray.empty 0 0 0)) ztb (by kernel_rfl) zp6 bw) ?_)
 rintro je jf ⟨aw, rfl, gn, h6⟩
 refine W.ln (Lo.storeVar (j := 0) (s := z2d) (y0 := d) (v := (.agg db.toArray)) (o := 0) rfl ((Put.at (Put.self _) _ _)) rfl zoy rfl (by omega) rfl dc gn) ?_
 rintro jg jh ⟨go, h7⟩
 refine .nil (.draw2 (M := [0, 0, 2, 0, 8, 24, 0, 64, 192, 448, 960, 1984, 4032, 8128, 16320, 32704, 65472, 131008, 262080, 524224, 1048512, 2097088, 4194302, 8388606, 16777215, 33554431]) mixed (by kernel_rfl) (by kernel_rfl) fun ji jj gp gq => ?_)
 have ax := go.ext gp
 refine D2.p2 (ak 3) (D2.pv (padd (.pointer (some ⟨aw, 0, none⟩)) 0) (z0f zoz ov (ax.atVar (j := 0) rfl)) (D2.l1 (.string d.Name) ag9 (z0i rfl (At.str (At.proj (ax.atVar (j := 0) rfl) zde))) z08 (D2.pv (padd (.pointer (some ⟨aw, 0, none⟩)) 1) (z0f zp0 ov (ax.atVar (j := 0) rfl)) (D2.l1 (.string d.Node) ag9 (z0i rfl (At.str (At.proj (ax.atVar (j := 0) rfl) zdf))) z08 (D2.alloc (m := 26) rfl rfl (Al.buildSlice (r := rS) (vs := [(.string d.Node)]) (xs := [d.Node]) el22 ze9 sz9 (by kernel_rfl) rfl (qc rfl qn) rfl (.cons rfl .nil)) (Free.up (by decide) gq) (by decide) ax ?_)))))
 rintro bB jk ⟨bC, h8, gr⟩
 refine D2.pv (padd (.pointer (some ⟨aw, 0, none⟩)) 2) (z0f zp1 ov (bC.atVar (j := 1) rfl)) (D2.l1 (.int .i64 d.Charge) ag3 (z0i rfl (At.int (At.proj (bC.atVar (j := 1) rfl) zb8))) z08 ?_)
 obtain ⟨aM, gs, dd⟩ := z00 gj
 refine D2.loN rfl rfl (Lo.cQ Tryz.f47 (mc rfl (mc rfl (mc rfl mn))) bC (fun aS J => z4z K d.Charge 0 100000 J _ gs)) ?_ z08 ?_ ?_
 .rintro de df ⟨dg, af, ay, V, rfl⟩; exact (faI (faR1 (.inr (smI (j := 1) V)) (faR1 (.inr (smI (j := 1) V)) z08)))
 .rintro de df ⟨dg, af, ay, V, rfl⟩; exact (faR1 (.inr (smI (j := 0) V)) z08)
 rintro de df ⟨dg, af, ay, V, rfl⟩ dI
 have dh := Free.nx gr dI
 refine D2.pv (.bool (!aM)) (z1g (a := aM) ov) (D2.p2 (.bool (!aM)) (D2.splitAt (t := 128) (b := (!aM)) rfl (fun bD p => ?_) (fun bD p => ?_)))
 .have gt := z01 bD dd
  refine D2.skip (gl rfl p) rfl (D2.skip (gl rfl p) rfl (D2.skip (gl rfl p) rfl (D2.skip (gl rfl p) rfl (D2.pv (.bool true) (z68 (ou p) ov) (D2.p2 (.bool true) (D2.skip (gl rfl rfl) rfl ?_))))))
  refine D2.skip (gl rfl rfl) rfl (D2.skip (gl rfl rfl) rfl (D2.skip (gl rfl rfl) rfl (D2.pv (.bool true) (z68 ov ov) ?_)))
  obtain ⟨gu, gv, gw, gx⟩ := af.frzSl (j := 0) rfl
  obtain ⟨di, gy, gz⟩ := z2l (G := gu) ((.string d.Name)) ((.slice (some ⟨bB, 0, some 0⟩) 1 1)) ((.bool false)) ((.bool true)) (rfl) ((z1x gx)) (rfl) (rfl)
  refine D2.pv (.agg di.toArray) (gy (z3a rfl (qc' rfl (qc' rfl (qc' rfl (qc' rfl qn')))))) (D2.alloc (m := 26) rfl rfl (Al.buildSlice (r := z3m) (vs := [(.agg di.toArray)]) (xs := [(Item.mk d.Name [d.Node] false true)]) el66 ze69 sz69 (by kernel_rfl) rfl (qc rfl qn) rfl (.cons gz .nil)) (Free.up (by decide) dh) (by decide) gv ?_)
  rintro jl jm ⟨dj, h9, jn⟩
  obtain ⟨ia, gA, gB⟩ := z4a (j := 0) rfl dj
  obtain ⟨gC, gD⟩ := z2b gt
  refine D2.lo rfl rfl (Lo.append (j := 3) (v := (ak 3)) rfl rfl el66 ni66 ze69 sz69 by69 (by decide) (by decide) rfl gA gB gC dj) ?_ (faK z08) ?_ ?_
  .rintro bE dk ⟨bF, bZ⟩; exact (faI (faI (faI z08)))
  .rintro bE dk ⟨bF, bZ⟩; exact (faI (faI z08))
  rintro bE dk ⟨bF, bZ⟩
  refine D2.p1 bE (.nil ?_)
  have gE := (bF.drop 0).drop 0
  obtain rfl := zAa gD
  exact ⟨(aK ++ [(Item.mk d.Name [d.Node] false true)]), _, rfl, gE, (zAe ay gw)⟩
 have gF := z0h bD dd
 refine D2.pure (v := (padd (.pointer (some ⟨aw, 0, none⟩)) 3)) (gl rfl p) rfl (z0f zp2 ov (af.atVar (j := 1) rfl)) (D2.load1' (v := (.int .i64 d.Discharge)) (r := []) (gl rfl p) rfl ag3 (z0i rfl (At.int (At.proj (af.atVar (j := 1) rfl) z8w))) (zd6 (by decide) z08) ?_)
 obtain ⟨az, gG, dl⟩ := z00 gF
 refine D2.loN (gl rfl p) rfl (Lo.cQ Tryz.f47 (mc rfl (mc rfl (mc rfl mn))) af (fun aS J => z4z K d.Discharge 0 100000 J _ gG)) ?_ (faK z08) ?_ ?_
 .rintro dm dn ⟨dp, ag, aN, X, rfl⟩; exact (faI (faI (faR1 (.inr (smI (j := 1) X)) (faR1 (.inr (smI (j := 1) X)) z08))))
 .rintro dm dn ⟨dp, ag, aN, X, rfl⟩; exact (faR1 (.inr (smI (j := 0) X)) z08)
 rintro dm dn ⟨dp, ag, aN, X, rfl⟩ dJ
 have dq := Free.nx dh dJ
 refine D2.pure (v := (.bool (!az))) (gl rfl p) rfl (z1g (a := az) ov) (D2.pv (.bool (!az)) (z8u (ou p) ov) (D2.p2 (.bool (!az)) (D2.splitAt (t := 134) (b := (!az)) rfl (fun bG q => ?_) (fun bG q => ?_))))
 .have gH := z01 bG dl
  refine D2.skip (gl rfl q) rfl (D2.skip (gl rfl q) rfl (D2.skip (gl rfl q) rfl (D2.skip (gl rfl q) rfl (D2.pv (.bool true) (z68 (ou q) ov) ?_))))
  obtain ⟨gI, gJ, gK, gL⟩ := ag.frzSl (j := 0) rfl
  obtain ⟨dr, gM, gN⟩ := z2l (G := gI) ((.string d.Name)) ((.slice (some ⟨bB, 0, some 0⟩) 1 1)) ((.bool false)) ((.bool true)) (rfl) ((z1x gL)) (rfl) (rfl)
  refine D2.pv (.agg dr.toArray) (gM (z3a rfl (qc' rfl (qc' rfl (qc' rfl (qc' rfl qn')))))) (D2.alloc (m := 26) rfl rfl (Al.buildSlice (r := z3m) (vs := [(.agg dr.toArray)]) (xs := [(Item.mk d.Name [d.Node] false true)]) el66 ze69 sz69 (by kernel_rfl) rfl (qc rfl qn) rfl (.cons gN .nil)) (Free.up (by decide) dq) (by decide) gJ ?_)
  rintro jo jp ⟨ds, ib, jq⟩
  obtain ⟨ic, gO, gP⟩ := z4a (j := 0) rfl ds
  obtain ⟨gQ, gR⟩ := z2b gH
  refine D2.lo rfl rfl (Lo.append (j := 3) (v := (ak 3)) rfl rfl el66 ni66 ze69 sz69 by69 (by decide) (by decide) rfl gO gP gQ ds) ?_ (faK (faK z08)) ?_ ?_
  .rintro bH dt ⟨bI, b0⟩; exact (faI (faI (faI (faI z08))))
  .rintro bH dt ⟨bI, b0⟩; exact (faI (faI z08))
  rintro bH dt ⟨bI, b0⟩
  refine D2.p1 bH (.nil ?_)
  have gS := (bI.drop 0).drop 0
  obtain rfl := zAa gR
  exact ⟨(aK ++ [(Item.mk d.Name [d.Node] false true)]), _, rfl, gS, (zAe ay (zAe aN gK))⟩
 have gT := z0h bG dl
 refine D2.pure (v := (padd (.pointer (some ⟨aw, 0, none⟩)) 4)) (gl rfl q) rfl (z0f zp3 ov (ag.atVar (j := 1) rfl)) (D2.load1' (v := (.int .i64 d.Capacity)) (r := []) (gl rfl q) rfl ag3 (z0i rfl (At.int (At.proj (ag.atVar (j := 1) rfl) z9a))) (zd6 (by decide) (zd6 (by decide) z08)) ?_)
 obtain ⟨ah, gU, gV⟩ := z00 gT
 refine D2.loN (gl rfl q) rfl (Lo.cQ Tryz.f47 (mc rfl (mc rfl (mc rfl mn))) ag (fun aS J => z4z K d.Capacity 0 100000 J _ gU)) ?_ (faK (faK z08)) ?_ ?_
 .rintro du dv ⟨dw, bJ, bK, Y, rfl⟩; exact (faI (faI (faI (faR1 (.inr (smI (j := 1) Y)) (faR1 (.inr (smI (j := 1) Y)) z08)))))
 .rintro du dv ⟨dw, bJ, bK, Y, rfl⟩; exact (faR1 (.inr (smI (j := 0) Y)) z08)
 rintro du dv ⟨dw, bJ, bK, Y, rfl⟩ dK
 have gW := Free.nx dq dK
 refine D2.pure (v := (.bool (!ah))) (gl rfl q) rfl (z1g (a := ah) ov) (D2.pv (.bool (!ah)) (z8u (ou q) ov) ?_)
 obtain ⟨gX, gY, gZ, g0⟩ := bJ.frzSl (j := 0) rfl
 obtain ⟨dx, g1, g2⟩ := z2l (G := gX) ((.string d.Name)) ((.slice (some ⟨bB, 0, some 0⟩) 1 1)) ((.bool false)) ((.bool (!ah))) (rfl) ((z1x g0)) (rfl) (rfl)
 refine D2.pv (.agg dx.toArray) (g1 (z3a rfl (qc' rfl (qc' rfl (qc' rfl (qc' rfl qn')))))) (D2.alloc (m := 26) rfl rfl (Al.buildSlice (r := z3m) (vs := [(.agg dx.toArray)]) (xs := [(Item.mk d.Name [d.Node] false (!ah))]) el66 ze69 sz69 (by kernel_rfl) rfl (qc rfl qn) rfl (.cons g2 .nil)) (Free.up (by decide) gW) (by decide) gY ?_)
 rintro jr js ⟨dy, id, jt⟩
 obtain ⟨ie, g3, g4⟩ := z4a (j := 0) rfl dy
 obtain ⟨g5, g6⟩ := z2b gV
 refine D2.lo rfl rfl (Lo.append (j := 3) (v := (ak 3)) rfl rfl el66 ni66 ze69 sz69 by69 (by decide) (by decide) rfl g3 g4 g5 dy) ?_ (faK (faK (faK z08))) ?_ ?_
 .rintro bL dz ⟨bM, b1⟩; exact (faI (faI (faI (faI (faI z08)))))
 .rintro bL dz ⟨bM, b1⟩; exact (faI (faI z08))
 rintro bL dz ⟨bM, b1⟩
 refine D2.p1 bL (.nil ?_)
 have g7 := (bM.drop 0).drop 0
 obtain rfl := zAa g6
 exact ⟨(aK ++ [(Item.mk d.Name [d.Node] false (!ah))]), _, rfl, g7, (zAe ay (zAe aN (zAe bK gZ)))⟩
def z1z (K : Nat) (d : Network) : Nat -> List zAd -> Int -> Option (Int ⊕ (List zAd))
  | 0, _, _ => none
  | k + 1, c, a => (if (decide (a < (d.Nodes.length : Int))) = true then ((idx d.Nodes a).bind fun e => ((z4y K e c).bind fun b => (if (b.1 != 0) = true then some (.inl b.1) else z1z K d k b.2 (z03 .i64 (a + 1))))) else some (.inr c))
def z1p (K : Nat) (e : Network) (a : Item) : Nat -> Int -> Option (Int ⊕ Unit)
  | 0, _ => none
  | k + 1, b => (if (decide (b < (a.nodes.length : Int))) = true then ((idx a.nodes b).bind fun c => ((zeu K e.Nodes c).bind fun d => (if (!d) = true then some (.inl 6) else z1p K e a k (z03 .i64 (b + 1))))) else some (.inr ()))
def z20 (K : Nat) (b : List Item) (j : Network) : Nat -> List zAd -> Int -> Option (Int ⊕ (List zAd))
  | 0, _, _ => none
  | k + 1, e, c => (if (decide (c < (b.length : Int))) = true then ((idx b c).bind fun a => ((z4y K a.name e).bind fun d => (if (d.1 != 0) = true then some (.inl d.1) else (z70 (z1p K j a K 0) (tu1 fun f => some (.inl f)) (tu0 (Option.bind ((if a.apart = true then ((idx a.nodes 0).bind fun g => ((idx a.nodes 1).bind fun h => some (sEq g h))) else some false)) (tu1 fun i => (if i = true then some (.inl 3) else (if a.bad = true then some (.inl 4) else z20 K b j k d.2 (z03 .i64 (c + 1))))))))))) else some (.inr e))
def z4s (K : Nat) (a : Network) : Option Int := (Option.bind ((if (decide ((a.Nodes.length : Int) > 24)) = true then some true else (if (decide ((a.Switches.length : Int) > 32)) = true then some true else (if (decide ((a.Branches.length : Int) > 24)) = true then some true else (if (decide ((a.Gens.length : Int) > 10)) = true then some true else (if (decide ((a.Loads.length : Int) > 12)) = true then some true else some (decide ((a.Stores.length : Int) > 4)))))))) (tu1 fun f => (if f = true then some 2 else (z70 (z1z K a K [] 0) (tu1 fun b => some b) (tu1 fun c => ((zbb K a).bind fun d => (z70 (z20 K d a K c 0) (tu1 fun e => some e) (tu1 fun g => some 0))))))))
theorem zac (bO : List Value) (d : Network) (cW : z07.rep G bO d) (O : Ow G H (L)) (r : Int) (h : z4s K d = some r) :
    CR Tryz.prog 6 [.agg bO.toArray] G H (L) (fun v f _ => v = .int .i64 r) := by
 unfold z4s at h
 refine CR.og (n := 105) (fn := Tryz.f6) (by kernel_rfl) rfl rfl fun R kr => (.seq (.region (W.ln (Lo.box (r := z07) (x0 := d) (v := (.agg bO.toArray)) rfl rfl cW O) ?_)))
 rintro et eu ⟨C, rfl, B, em⟩
 refine W.p1 (.int .i64 0) (.nil (.seq (.seq ?_)))
 obtain ⟨dM, cX, dN⟩ := z00 h
 refine AW.midT (fun A E => ∃ (u : Bool) (f : GM), u = dM /\ Ow f E (eVar C 29 z07 d :: L) /\ GM.le G f /\ A 46 = .bool u) ?_ ?_
 .refine .region (W.pv (padd (.pointer (some ⟨C, 0, none⟩)) 0) (z0f zhp ov (B.atVar (j := 0) rfl)) ?_)
  obtain ⟨dO, cY, cZ⟩ := At.sl (At.proj (B.atVar (j := 0) rfl) z3l)
  refine W.l1 dO ag22 (z0i rfl cY) (W.pv (.int .i64 (d.Nodes.length : Int)) (z0q ov (z0g cZ) (z05 el22)) (W.p3 (.bool (decide ((d.Nodes.length : Int) > 24))) (W.p2 (.bool (decide ((d.Nodes.length : Int) > 24))) (W.splitAt (t := 17) (b := decide ((d.Nodes.length : Int) > 24)) rfl (fun aR g => ?_) (fun aR g => ?_)))))
  .have c0 := z01 aR cX
   refine W.q6 rfl g (W.q6 rfl g (W.q6 rfl g (W.q6 rfl g (W.q4 (.bool true) g rfl (W.p2 (.bool true) (W.q6 rfl rfl ?_))))))
   refine W.q6 rfl rfl (W.q6 rfl rfl (W.q6 rfl rfl (W.q4 (.bool true) rfl rfl (W.p2 (.bool true) (W.q6 rfl rfl (W.q6 rfl rfl ?_))))))
   refine W.q6 rfl rfl (W.q6 rfl rfl (W.q4 (.bool true) rfl rfl (W.p2 (.bool true) (W.q6 rfl rfl (W.q6 rfl rfl (W.q6 rfl rfl ?_))))))
   refine W.q6 rfl rfl (W.q4 (.bool true) rfl rfl (W.p2 (.bool true) (W.q6 rfl rfl (W.q6 rfl rfl (W.q6 rfl rfl (W.q6 rfl rfl ?_))))))
   refine W.q4 (.bool true) rfl rfl (.nil ?_)
   obtain rfl := zAa c0
   exact ⟨true, _, rfl, B, (zAf _), rfl⟩
  have bx := z0h aR cX
  refine W.pure (v := (padd (.pointer (some ⟨C, 0, none⟩)) 1)) (gl rfl g) rfl (z0f zlb ov (B.atVar (j := 0) rfl)) ?_
  obtain ⟨c1, c2, c3⟩ := At.sl (At.proj (B.atVar (j := 0) rfl) z3w)
  refine W.load1 (v := c1) (r := []) (gl rfl g) rfl ag23 (z0i rfl c2) (W.pure (v := (.int .i64 (d.Switches.length : Int))) (gl rfl g) rfl (z0q ov (z0g c3) (z05 el23)) (W.q3 (hg := gk rfl rfl g rfl) (.bool (decide ((d.Switches.length : Int) > 32))) rfl rfl (W.q5 (.bool (decide ((d.Switches.length : Int) > 32))) g rfl (W.p2 (.bool (decide ((d.Switches.length : Int) > 32))) (W.splitAt (t := 23) (b := decide ((d.Switches.length : Int) > 32)) rfl (fun aS i => ?_) (fun aS i => ?_))))))
  .have c4 := z01 aS bx
   refine W.q6 rfl i (W.q6 rfl i (W.q6 rfl i (W.q6 rfl i (W.q4 (.bool true) i rfl (W.p2 (.bool true) (W.q6 rfl rfl ?_))))))
   refine W.q6 rfl rfl (W.q6 rfl rfl (W.q6 rfl rfl (W.q4 (.bool true) rfl rfl (W.p2 (.bool true) (W.q6 rfl rfl (W.q6 rfl rfl ?_))))))
   refine W.q6 rfl rfl (W.q6 rfl rfl (W.q4 (.bool true) rfl rfl (W.p2 (.bool true) (W.q6 rfl rfl (W.q6 rfl rfl (W.q6 rfl rfl ?_))))))
   refine W.q6 rfl rfl (W.q4 (.bool true) rfl rfl (.nil ?_))
   obtain rfl := zAa c4
   exact ⟨true, _, rfl, B, (zAf _), rfl⟩
  have bz := z0h aS bx
  refine W.pure (v := (padd (.pointer (some ⟨C, 0, none⟩)) 2)) (gl rfl i) rfl (z0f zd8 ov (B.atVar (j := 0) rfl)) ?_
  obtain ⟨c5, c6, c7⟩ := At.sl (At.proj (B.atVar (j := 0) rfl) z0z)
  refine W.load1 (v := c5) (r := []) (gl rfl i) rfl ag24 (z0i rfl c6) (W.pure (v := (.int .i64 (d.Branches.length : Int))) (gl rfl i) rfl (z0q ov (z0g c7) (z05 el24)) (W.q3 (hg := gk rfl rfl i rfl) (.bool (decide ((d.Branches.length : Int) > 24))) rfl rfl (W.q5 (.bool (decide ((d.Branches.length : Int) > 24))) i rfl (W.p2 (.bool (decide ((d.Branches.length : Int) > 24))) (W.splitAt (t := 29) (b := decide ((d.Branches.length : Int) > 24)) rfl (fun aT k => ?_) (fun aT k => ?_))))))
  .have c8 := z01 aT bz
   refine W.q6 rfl k (W.q6 rfl k (W.q6 rfl k (W.q6 rfl k (W.q4 (.bool true) k rfl (W.p2 (.bool true) (W.q6 rfl rfl ?_))))))
   refine W.q6 rfl rfl (W.q6 rfl rfl (W.q6 rfl rfl (W.q4 (.bool true) rfl rfl (W.p2 (.bool true) (W.q6 rfl rfl (W.q6 rfl rfl ?_))))))
   refine W.q6 rfl rfl (W.q6 rfl rfl (W.q4 (.bool true) rfl rfl (.nil ?_)))
   obtain rfl := zAa c8
   exact ⟨true, _, rfl, B, (zAf _), rfl⟩
  have bA := z0h aT bz
  refine W.pure (v := (padd (.pointer (some ⟨C, 0, none⟩)) 3)) (gl rfl k) rfl (z0f zlc ov (B.atVar (j := 0) rfl)) ?_
  obtain ⟨c9, da, db⟩ := At.sl (At.proj (B.atVar (j := 0) rfl) z60)
  refine W.load1 (v := c9) (r := []) (gl rfl k) rfl ag25 (z0i rfl da) (W.pure (v := (.int .i64 (d.Gens.length : Int))) (gl rfl k) rfl (z0q ov (z0g db) (z05 el25)) (W.q3 (hg := gk rfl rfl k rfl) (.bool (decide ((d.Gens.length : Int) > 10))) rfl rfl (W.q5 (.bool (decide ((d.Gens.length : Int) > 10))) k rfl (W.p2 (.bool (decide ((d.Gens.length : Int) > 10))) (W.splitAt (t := 35) (b := decide ((d.Gens.length : Int) > 10)) rfl (fun aU l => ?_) (fun aU l => ?_))))))
  .have dc := z01 aU bA
   refine W.q6 rfl l (W.q6 rfl l (W.q6 rfl l (W.q6 rfl l (W.q4 (.bool true) l rfl (W.p2 (.bool true) (W.q6 rfl rfl ?_))))))
   refine W.q6 rfl rfl (W.q6 rfl rfl (W.q6 rfl rfl (W.q4 (.bool true) rfl rfl (.nil ?_))))
   obtain rfl := zAa dc
   exact ⟨true, _, rfl, B, (zAf _), rfl⟩
  have bB := z0h aU bA
  refine W.pure (v := (padd (.pointer (some ⟨C, 0, none⟩)) 4)) (gl rfl l) rfl (z0f zld ov (B.atVar (j := 0) rfl)) ?_
  obtain ⟨dd, de, df⟩ := At.sl (At.proj (B.atVar (j := 0) rfl) z57)
  refine W.load1 (v := dd) (r := []) (gl rfl l) rfl ag26 (z0i rfl de) (W.pure (v := (.int .i64 (d.Loads.length : Int))) (gl rfl l) rfl (z0q ov (z0g df) (z05 el26)) (W.q3 (hg := gk rfl rfl l rfl) (.bool (decide ((d.Loads.length : Int) > 12))) rfl rfl (W.q5 (.bool (decide ((d.Loads.length : Int) > 12))) l rfl (W.p2 (.bool (decide ((d.Loads.length : Int) > 12))) (W.splitAt (t := 41) (b := decide ((d.Loads.length : Int) > 12)) rfl (fun aV m => ?_) (fun aV m => ?_))))))
  .have dg := z01 aV bB
   refine W.q6 rfl m (W.q6 rfl m (W.q6 rfl m (W.q6 rfl m (W.q4 (.bool true) m rfl (.nil ?_)))))
   obtain rfl := zAa dg
   exact ⟨true, _, rfl, B, (zAf _), rfl⟩
  have dh := z0h aV bB
  refine W.pure (v := (padd (.pointer (some ⟨C, 0, none⟩)) 5)) (gl rfl m) rfl (z0f zle ov (B.atVar (j := 0) rfl)) ?_
  obtain ⟨di, dj, dk⟩ := At.sl (At.proj (B.atVar (j := 0) rfl) z4n)
  refine W.load1 (v := di) (r := []) (gl rfl m) rfl ag27 (z0i rfl dj) (W.pure (v := (.int .i64 (d.Stores.length : Int))) (gl rfl m) rfl (z0q ov (z0g dk) (z05 el27)) (W.q3 (hg := gk rfl rfl m rfl) (.bool (decide ((d.Stores.length : Int) > 4))) rfl rfl (W.q5 (.bool (decide ((d.Stores.length : Int) > 4))) m rfl (.nil ?_))))
  obtain rfl := zAa dh
  exact ⟨decide ((d.Stores.length : Int) > 4), _, rfl, B, (zAf _), rfl⟩
 rintro dP en aq ⟨dl, bC, rfl, bD, ab, dm⟩
 have bE := z0a dN
 refine .cond (b := dl) rfl dm (fun aW => ?_) (fun aW => ?_)
 .have dn := z01 aW bE
  refine .seq (.region (W.p1 (.int .i64 2) (.nil (.ret ?_))))
  have dp := bD.drop 0
  obtain rfl := zAa dn
  exact z1m kr (v1 := (.int .i64 2)) (by rfl) rt dp ab rfl
 have dq := z0h aW bE
 refine .skip (.seq (.region ?_))
 have dr := bD.nilSl 9 rS
 refine W.ln (Lo.alloc (r := rV) (x0 := (.slice none 0 0)) ze22 (by kernel_rfl) zV dr) ?_
 rintro eo ep ⟨x, rfl, aX, dQ⟩
 refine .nil (.seq (.region (W.pv (.func (.func 19) #[] #[(.pointer (some ⟨x, 0, none⟩))]) (zkw (zif rfl mn) (zif rfl (mc rfl mn))) (W.p1 (.func (.func 19) #[] #[(.pointer (some ⟨x, 0, none⟩))]) (.nil (.seq ?_))))))
 refine .seq (.region (W.pv (padd (.pointer (some ⟨C, 0, none⟩)) 0) (z0f zhp (ou (ft (aq 1 rfl) rfl)) (aX.atVar (j := 2) rfl)) ?_))
 obtain ⟨bF, ds, aY⟩ := At.sl (At.proj (aX.atVar (j := 2) rfl) z3l)
 refine W.l1 bF ag22 (z0i rfl ds) (W.pv (.int .i64 (d.Nodes.length : Int)) (z0q ov (z0g aY) (z05 el22)) (W.p2 (.int .i64 0) (.nil ?_)))
 obtain ⟨bG, dt, bH⟩ := z1w dq
 refine AW.midT (fun A E => ∃ (u : List zAd) (w_l3 : Value) (f : GM), (.inr u) = bG /\ Ow f E (eVar x 22 rV w_l3 :: eSl w_l3 9 rS u :: eVar C 29 z07 d :: L) /\ GM.le bC f) ?_ ?_
 .refine .block (AW.loop (α := Nat) (fun V A E => ∃ (u : List zAd) (aZ : Int) (w_l3 : Value) (f : GM), z1z K d V u aZ = some bG /\ Ow f E (eVar x 22 rV w_l3 :: eSl w_l3 9 rS u :: eVar C 29 z07 d :: L) /\ GM.le bC f /\ A 51 = .int .i64 aZ) (fun V => V) K ⟨[], 0, (.slice none 0 0), _, dt, aX, (zAf _), rfl⟩ ?_)
  rintro a0
  rintro dR eq ar ⟨bI, ac, bJ, er, aO, a1, ad, a2⟩
  rcases a0 with _ | a0
  .exact z09 aO
  rw [z1z] at aO
  refine .seq (.region (W.q3 (.bool (decide (ac < (d.Nodes.length : Int)))) a2 (ft (ar 50 rfl) rfl) (.nil (.seq (.cond (b := decide (ac < (d.Nodes.length : Int))) rfl rfl (fun a3 => ?_) (fun a3 => ?_))))))
  rotate_left
  .have bP := z0h a3 aO
   refine .exit ?_
   obtain rfl := zAa bP
   exact ⟨bI, bJ, _, rfl, a1, ad⟩
  have du := z01 a3 aO
  refine .skip (.seq (.block (.seq (.region ?_))))
  obtain ⟨aP, dv, dw⟩ := z00 du
  have a4 := z0c dv
  refine W.pv (z1v bF (ac.toNat * 1)) (z2a el22 sz9 (ou (ft (ar 49 rfl) rfl)) (ou a2) (z0g (RT.mono _ ad aY)) a4.1 a4.2.1) (W.l1 (.string aP) ag9 (z0i rfl (At.str (At.le (At.le (z1h aY a4.2.2) ad ad) (zAf _) a1.fro))) (W.p1 (.string aP) (.nil (.seq (.region (W.q2 (.func (.func 19) #[] #[(.pointer (some ⟨x, 0, none⟩))]) (ft (ar 4 rfl) rfl) ?_))))))
  refine W.p2 (.string aP) ?_
  obtain ⟨T, dx, bK⟩ := z00 dw
  refine W.ln (Lo.callvPF (ps := [_, _]) (pw := fun w => [_, _]) rfl rfl (fn := Tryz.f19) (by kernel_rfl) rfl (mc rfl mn) a1 (fun bQ au => z8y K aP x bJ bI au _ dx)) ?_
  rintro dS dT ⟨dy, es, bL, bM, dU, rfl⟩
  refine W.p1 (.int .i64 T.1) (.nil (.seq (.region (W.p2 (.int .i64 T.1) (W.p3 (.bool (T.1 != 0)) (.nil ?_))))))
  refine .cond (b := (T.1 != 0)) rfl rfl (fun av => ?_) (fun av => ?_)
  rotate_left
  .have bR := z0h av bK
   refine .skip (.region (W.r3 (.int .i64 (z03 .i64 (ac + 1))) a2 (W.p2 (.int .i64 (z03 .i64 (ac + 1))) (.nil ?_))))
   exact ⟨a0, zAg _, ⟨T.2, z03 .i64 (ac + 1), dy, _, bR, bL, (zAe ad bM), rfl⟩⟩
  have bS := z01 av bK
  refine .seq (.region (W.p2 (.int .i64 T.1) (W.p1 (.int .i64 T.1) (.nil (.ret ?_)))))
  have bT := ((bL.drop 0).drop 0).drop 0
  obtain rfl := zAa bS
  have bU := z0a (z3z bH)
  obtain rfl := zAa bU
  exact z1m kr (v1 := (.int .i64 T.1)) (by rfl) rt bT (zAe ab (zAe ad bM)) rfl
 rintro dA dV ae ⟨bV, bW, dW, rfl, a5, af⟩
 have bX := z0a (z72 bH)
 refine .seq (.seq (.region ?_))
 obtain ⟨a6, bY, a7⟩ := (a5.atVar (j := 2) rfl)
 refine W.loadA (cs := a6) rfl rfl ag29 sz29 (z0i (ft (ae 1 rfl) (ft (aq 1 rfl) rfl)) bY) (RT.len _ a7) ?_
 obtain ⟨y, bZ, b0⟩ := z00 bX
 refine W.ln (Lo.qF Tryz.f22 (ps := []) (pw := fun w => [_]) (mc rfl mn) a5 (fun bQ au => zhv K a6 d a7 au _ bZ)) ?_
 rintro dX dY ⟨J, a8, a9, ag, dB, rfl⟩
 refine W.pv (.int .i64 (y.length : Int)) (z0q ov (a9.slLen (j := 0) rfl) (z05 el66)) (W.p2 (.int .i64 0) (.nil ?_))
 obtain ⟨ba, b1, X⟩ := z1w b0
 refine AW.midT (fun A E => ∃ (u : List zAd) (w_l3 : Value) (f : GM), (.inr u) = ba /\ Ow f E (eSl J 69 z3m y :: eVar x 22 rV w_l3 :: eSl w_l3 9 rS u :: eVar C 29 z07 d :: L) /\ GM.le a8 f) ?_ ?_
 rotate_left
 .rintro dC dZ dD ⟨d0, d1, d2, rfl, b2, b3⟩
  have b4 := z0a (z72 X)
  refine .seq (.region (W.p1 (.int .i64 0) (.nil (.ret ?_))))
  have b5 := (((b2.drop 0).drop 0).drop 0).drop 0
  obtain rfl := zAa b4
  exact z1m kr (v1 := (.int .i64 0)) (by rfl) rt b5 (zAe ab (zAe af (zAe ag b3))) rfl
 refine .block (AW.loop (α := Nat) (fun V A E => ∃ (u : List zAd) (aZ : Int) (w_l3 : Value) (f : GM), z20 K y d V u aZ = some ba /\ Ow f E (eSl J 69 z3m y :: eVar x 22 rV w_l3 :: eSl w_l3 9 rS u :: eVar C 29 z07 d :: L) /\ GM.le a8 f /\ A 65 = .int .i64 aZ) (fun V => V) K ⟨bV, 0, bW, _, b1, a9, (zAf _), rfl⟩ ?_)
 rintro aw
 rintro dE d3 U ⟨bb, N, bc, d4, ah, ai, Y, ax⟩
 rcases aw with _ | aw
 .exact z09 ah
 rw [z20] at ah
 refine .seq (.region (W.q3 (.bool (decide (N < (y.length : Int)))) ax (ft (U 64 rfl) rfl) (.nil (.seq (.cond (b := decide (N < (y.length : Int))) rfl rfl (fun ay => ?_) (fun ay => ?_))))))
 rotate_left
 .have b6 := z0h ay ah
  refine .exit ?_
  obtain rfl := zAa b6
  exact ⟨bb, bc, _, rfl, ai, Y⟩
 have b7 := z01 ay ah
 refine .skip (.seq (.block (.seq (.region ?_))))
 obtain ⟨e, b8, b9⟩ := z00 b7
 have az := z0c b8
 refine W.pv (z1v J (N.toNat * 4)) (z2a el66 sz69 (ou (ft (U 63 rfl) rfl)) (ou ax) (ai.slLen (j := 0) rfl) az.1 az.2.1) ?_
 obtain ⟨bd, ca, be⟩ := (ai.atSl (j := 0) rfl az.2.2)
 refine W.loadA (cs := bd) rfl rfl ag69 sz69 (z0i rfl ca) (RT.len _ be) (W.ln (Lo.alloc (r := z3m) (x0 := (Item.mk ByteArray.empty ([] : List zAd) false false)) ze69 (by kernel_rfl) zqf ai) ?_)
 rintro d5 d6 ⟨z, rfl, cb, dF⟩
 refine W.ln (Lo.storeVar (j := 0) (s := z3m) (y0 := e) (v := (.agg bd.toArray)) (o := 0) rfl ((Put.at (Put.self _) _ _)) rfl sz69 rfl (by omega) rfl be cb) ?_
 rintro d7 d8 ⟨aA, dG⟩
 refine .nil (.seq (.seq (.region (W.q2 (.func (.func 19) #[] #[(.pointer (some ⟨x, 0, none⟩))]) (ft (U 4 rfl) (ft (ae 4 rfl) rfl)) (W.pv (padd (.pointer (some ⟨z, 0, none⟩)) 0) (z0f ztn ov (aA.atVar (j := 0) rfl)) (W.l1 (.string e.name) ag9 (z0i rfl (At.str (At.proj (aA.atVar (j := 0) rfl) zjm))) ?_))))))
 have cc := ((((aA.front (j := 4) rfl).front (j := 2) rfl).front (j := 2) rfl).front (j := 4) rfl).front (j := 4) rfl
 obtain ⟨p, cd, bf⟩ := z00 b9
 refine W.ln (Lo.callvPF (ps := [_, _]) (pw := fun w => [_, _]) rfl rfl (fn := Tryz.f19) (by kernel_rfl) rfl (mc rfl mn) cc (fun bQ au => z8y K e.name x bc bb au _ cd)) ?_
 rintro d9 ea ⟨F, bg, aj, ak, dH, rfl⟩
 refine W.p1 (.int .i64 p.1) (.nil (.seq (.region (W.p2 (.int .i64 p.1) (W.p3 (.bool (p.1 != 0)) (.nil ?_))))))
 refine .cond (b := (p.1 != 0)) rfl rfl (fun aB => ?_) (fun aB => ?_)
 .have ce := z01 aB bf
  refine .seq (.region (W.p2 (.int .i64 p.1) (W.p1 (.int .i64 p.1) (.nil (.ret ?_)))))
  have cf := ((((aj.drop 0).drop 0).drop 0).drop 0).drop 0
  obtain rfl := zAa ce
  have cg := z0a (z3z X)
  obtain rfl := zAa cg
  exact z1m kr (v1 := (.int .i64 p.1)) (by rfl) rt cf (zAe ab (zAe af (zAe ag (zAe Y ak)))) rfl
 have ch := z0h aB bf
 refine .skip (.seq (.seq (.region (W.pv (padd (.pointer (some ⟨z, 0, none⟩)) 1) (z0f zq4 ov (aj.atVar (j := 2) rfl)) ?_))))
 obtain ⟨bh, ci, aC⟩ := At.sl (At.proj (aj.atVar (j := 2) rfl) zak)
 refine W.l1 bh ag22 (z0i rfl ci) (W.pv (.int .i64 (e.nodes.length : Int)) (z0q ov (z0g aC) (z05 el22)) (W.p2 (.int .i64 0) (.nil ?_)))
 obtain ⟨bi, cj, bj⟩ := z1w ch
 refine AW.midT (fun A E => ∃  (f : GM), (.inr ()) = bi /\ Ow f E (eVar x 22 rV F :: eSl F 9 rS p.2 :: eVar z 69 z3m e :: eSl J 69 z3m y :: eVar C 29 z07 d :: L) /\ GM.le bg f) ?_ ?_
 .refine .block (AW.loop (α := Nat) (fun V A E => ∃ (u : Int) (f : GM), z1p K d e V u = some bi /\ Ow f E (eVar x 22 rV F :: eSl F 9 rS p.2 :: eVar z 69 z3m e :: eSl J 69 z3m y :: eVar C 29 z07 d :: L) /\ GM.le bg f /\ A 79 = .int .i64 u) (fun V => V) K ⟨0, _, cj, aj, (zAf _), rfl⟩ ?_)
  rintro aD
  rintro dI eb al ⟨P, ec, am, Z, S, aE⟩
  rcases aD with _ | aD
  .exact z09 am
  rw [z1p] at am
  refine .seq (.region (W.q3 (.bool (decide (P < (e.nodes.length : Int)))) aE (ft (al 78 rfl) rfl) (.nil (.seq (.cond (b := decide (P < (e.nodes.length : Int))) rfl rfl (fun aF => ?_) (fun aF => ?_))))))
  rotate_left
  .have ck := z0h aF am
   refine .exit ?_
   obtain rfl := zAa ck
   exact ⟨_, rfl, Z, S⟩
  have cl := z01 aF am
  refine .skip (.seq (.block (.seq (.region ?_))))
  obtain ⟨an, cm, cn⟩ := z00 cl
  have aG := z0c cm
  refine W.pv (z1v bh (P.toNat * 1)) (z2a el22 sz9 (ou (ft (al 77 rfl) rfl)) (ou aE) (z0g (RT.mono _ S aC)) aG.1 aG.2.1) (W.l1 (.string an) ag9 (z0i rfl (At.str (At.le (At.le (z1h aC aG.2.2) S S) (zAf _) Z.fro))) (W.p1 (.string an) (.nil (.seq (.region (W.pv (padd (.pointer (some ⟨C, 0, none⟩)) 0) (z0f zhp (ou (ft (al 1 rfl) (ft (U 1 rfl) (ft (ae 1 rfl) (ft (aq 1 rfl) rfl))))) (Z.atVar (j := 4) rfl)) ?_))))))
  obtain ⟨bk, co, cp⟩ := At.sl (At.proj (Z.atVar (j := 4) rfl) z3l)
  refine W.l1 bk ag22 (z0i rfl co) (W.p2 (.string an) ?_)
  obtain ⟨aH, cq, bl⟩ := z00 cn
  refine W.ln (Lo.cQ Tryz.f21 (mc rfl (mc rfl mn)) Z (fun bQ au => zgx K bk d.Nodes cp an au _ cq)) ?_
  rintro ed ee ⟨ef, bm, bn, dJ, rfl⟩
  have dz := zAe ab (zAe af (zAe ag (zAe Y (zAe ak (zAe S bn)))))
  refine W.pv (.bool (!aH)) (z1g (a := aH) ov) (.nil (.cond (b := (!aH)) rfl rfl (fun aI => ?_) (fun aI => ?_)))
  rotate_left
  .have cr := z0h aI bl
   refine .skip (.region (W.r3 (.int .i64 (z03 .i64 (P + 1))) aE (W.p2 (.int .i64 (z03 .i64 (P + 1))) (.nil ?_))))
   exact ⟨aD, zAg _, ⟨z03 .i64 (P + 1), _, cr, bm, (zAe S bn), rfl⟩⟩
  have ct := z01 aI bl
  refine .seq (.region (W.p1 (.int .i64 6) (.nil (.ret ?_))))
  have cu := ((((bm.drop 0).drop 0).drop 0).drop 0).drop 0
  obtain rfl := zAa ct
  have cv := z0a (z3z bj)
  obtain rfl := zAa cv
  have cw := z0a (z3z X)
  obtain rfl := zAa cw
  exact z1m kr (v1 := (.int .i64 6)) (by rfl) rt cu dz rfl
 rintro dK eg I ⟨cx, rfl, cy, bo⟩
 have cz := z7i (z72 bj)
 refine .seq (.seq ?_)
 obtain ⟨cA, bp, cB⟩ := z00 cz
 refine AW.midT (fun A E => ∃ (u : Bool) (f : GM), u = cA /\ Ow f E (eVar x 22 rV F :: eSl F 9 rS p.2 :: eVar z 69 z3m e :: eSl J 69 z3m y :: eVar C 29 z07 d :: L) /\ GM.le cx f /\ A 101 = .bool u) ?_ ?_
 rotate_left
 .rintro dL eh aQ ⟨cC, ei, rfl, aa, bq, cD⟩
  have bN := zAe ab (zAe af (zAe ag (zAe Y (zAe ak (zAe bo bq)))))
  have br := z0a cB
  refine .cond (b := cC) rfl cD (fun aJ => ?_) (fun aJ => ?_)
  .have cE := z01 aJ br
   refine .seq (.region (W.p1 (.int .i64 3) (.nil (.ret ?_))))
   have cF := ((((aa.drop 0).drop 0).drop 0).drop 0).drop 0
   obtain rfl := zAa cE
   have cG := z0a (z3z X)
   obtain rfl := zAa cG
   exact z1m kr (v1 := (.int .i64 3)) (by rfl) rt cF bN rfl
  have bs := z0h aJ br
  refine .skip (.seq (.region (W.pv (padd (.pointer (some ⟨z, 0, none⟩)) 3) (z0f ztp (ou (ft (aQ 9 rfl) (ft (I 9 rfl) rfl))) (aa.atVar (j := 2) rfl)) (W.l1 (.bool e.bad) ag4 (z0i rfl (At.bool (At.proj (aa.atVar (j := 2) rfl) zll))) (.nil (.cond (b := e.bad) rfl rfl (fun aK => ?_) (fun aK => ?_)))))))
  .have cH := z01 aK bs
   refine .seq (.region (W.p1 (.int .i64 4) (.nil (.ret ?_))))
   have cI := ((((aa.drop 0).drop 0).drop 0).drop 0).drop 0
   obtain rfl := zAa cH
   have cJ := z0a (z3z X)
   obtain rfl := zAa cJ
   exact z1m kr (v1 := (.int .i64 4)) (by rfl) rt cI bN rfl
  have cK := z0h aK bs
  refine .skip (.region (W.q3 (.int .i64 (z03 .i64 (N + 1))) (ft (aQ 65 rfl) (ft (I 65 rfl) ax)) rfl (W.p2 (.int .i64 (z03 .i64 (N + 1))) (.nil ?_))))
  have cL := ((((aa.drop 2).front (j := 3) rfl).front (j := 2) rfl).front (j := 2) rfl).front (j := 3) rfl
  exact ⟨aw, zAg _, ⟨p.2, z03 .i64 (N + 1), F, _, cK, cL, (zAe Y (zAe ak (zAe bo bq))), rfl⟩⟩
 refine .draw2 (M := [0, 1, 3, 7, 15, 31, 63, 7, 135, 391, 903, 2047, 4095]) mixed (by kernel_rfl) (by kernel_rfl) fun ej ek cM el => ?_
 have q := cy.ext cM
 refine D2.pv (padd (.pointer (some ⟨z, 0, none⟩)) 2) (z0f zto (ou (ft (I 9 rfl) rfl)) (q.atVar (j := 2) rfl)) (D2.l1 (.bool e.apart) ag4 (z0i rfl (At.bool (At.proj (q.atVar (j := 2) rfl) zht))) z08 (D2.p2 (.bool e.apart) (D2.splitAt (t := 91) (b := e.apart) rfl (fun aL c => ?_) (fun aL c => ?_))))
 rotate_left
 .have cN := z0h aL bp
  refine D2.skip (gl rfl c) rfl (D2.skip (gl rfl c) rfl (D2.skip (gl rfl c) rfl (D2.skip (gl rfl c) rfl (D2.skip (gl rfl c) rfl (D2.skip (gl rfl c) rfl (D2.skip (gl rfl c) rfl ?_))))))
  refine D2.skip (gl rfl c) rfl (D2.skip (gl rfl c) rfl (D2.pv (.bool false) (z8u (ou c) ov) (.nil ?_)))
  obtain rfl := zAa cN
  exact ⟨false, _, rfl, q, (zAf _), rfl⟩
 have cO := z01 aL bp
 refine D2.pure (v := (padd (.pointer (some ⟨z, 0, none⟩)) 1)) (gl rfl c) rfl (z0f zq4 (ou (ft (I 9 rfl) rfl)) (q.atVar (j := 2) rfl)) ?_
 obtain ⟨bt, cP, bu⟩ := At.sl (At.proj (q.atVar (j := 2) rfl) zak)
 refine D2.load1' (v := bt) (r := []) (gl rfl c) rfl ag22 (z0i rfl cP) z08 ?_
 obtain ⟨ao, cR, cS⟩ := z00 cO
 have aM := z0c cR
 refine D2.pure (v := (z1v bt (Int.toNat 0 * 1))) (gl rfl c) rfl (z2a el22 sz9 ov ov (z0g bu) aM.1 aM.2.1) (D2.load1' (v := (.string ao)) (r := []) (gl rfl c) rfl ag9 (z0i rfl (At.str (At.le (z1h bu aM.2.2) (zAf _) q.fro))) z08 (D2.pure (v := (padd (.pointer (some ⟨z, 0, none⟩)) 1)) (gl rfl c) rfl (z0f zq4 (ou (ft (I 9 rfl) rfl)) (q.atVar (j := 2) rfl)) ?_))
 obtain ⟨bv, cT, bw⟩ := At.sl (At.proj (q.atVar (j := 2) rfl) zak)
 refine D2.load1' (v := bv) (r := []) (gl rfl c) rfl ag22 (z0i rfl cT) z08 ?_
 obtain ⟨ap, cU, cV⟩ := z00 cS
 have aN := z0c cU
 refine D2.pure (v := (z1v bv (Int.toNat 1 * 1))) (gl rfl c) rfl (z2a el22 sz9 ov ov (z0g bw) aN.1 aN.2.1) (D2.load1' (v := (.string ap)) (r := []) (gl rfl c) rfl ag9 (z0i rfl (At.str (At.le (z1h bw aN.2.2) (zAf _) q.fro))) z08 (D2.pure (v := (.bool (sEq ao ap))) (gl rfl c) rfl (z90 ov ov) (D2.pv (.bool (sEq ao ap)) (z68 (ou c) ov) (.nil ?_))))
 obtain rfl := zAa cV
 exact ⟨sEq ao ap, _, rfl, q, (zAf _), rfl⟩
def z1j (K : Nat) (b : zAd) (a : zAd) : Option Bool := (Option.bind ((if (decide ((b.size : Int) >= (a.size : Int))) = true then ((ssl b 0 (a.size : Int)).bind fun d => some (sEq d a)) else some false)) (tu1 fun c => some c))
theorem z5v (d : zAd) (c : zAd) (O : Ow G H (L)) (r : Bool) (h : z1j K d c = some r) :
    CR Tryz.prog 79 [(.string d), (.string c)] G H (L) (fun v f _ => v = .bool r) := by
 unfold z1j at h
 refine CR.og (n := 18) (fn := Tryz.f79) (by kernel_rfl) rfl rfl fun R kr => (.seq (.region (W.p1 (.bool false) (.nil (.seq ?_)))))
 obtain ⟨u, i, w⟩ := z00 h
 refine AW.midT (fun j x => ∃ (k : Bool) (f : GM), k = u /\ Ow f x (L) /\ GM.le G f /\ j 4 = .bool k) ?_ ?_
 rotate_left
 .rintro y E z ⟨l, F, rfl, m, o, p⟩
  have q := z0a w
  refine .ret ?_
  obtain rfl := zAa q
  exact z1m kr (v1 := (.bool l)) (by rfl) (zhn (by rfl) (by exact p)) m o rfl
 refine .region (W.p2 (.string d) (W.pv (.int .i64 (d.size : Int)) (z2c ov un9) (W.p2 (.string c) (W.pv (.int .i64 (c.size : Int)) (z2c ov un9) (W.p3 (.bool (decide ((d.size : Int) >= (c.size : Int)))) (W.p2 (.bool (decide ((d.size : Int) >= (c.size : Int)))) ?_))))))
 refine W.splitAt (t := 10) (b := decide ((d.size : Int) >= (c.size : Int))) rfl (fun g a => ?_) (fun g a => ?_)
 rotate_left
 .have s := z0h g i
  refine W.q6 rfl a (W.q6 rfl a (W.q6 rfl a (W.q6 rfl a (W.q6 rfl a (W.q6 rfl a (W.q5 (.bool false) a rfl ?_))))))
  refine W.p1 (.bool false) (.nil ?_)
  obtain rfl := zAa s
  exact ⟨false, _, rfl, O, (zAf _), rfl⟩
 have A := z01 g i
 refine W.q2 (hg := gk rfl rfl a rfl) (.string d) rfl (W.q2 (hg := gk rfl rfl a rfl) (.string c) rfl (W.pure (v := (.int .i64 (c.size : Int))) (gl rfl a) rfl (z2c ov un9) ?_))
 obtain ⟨e, B, C⟩ := z00 A
 refine W.pure (v := (.string e)) (gl rfl a) rfl (zl9 un9 ov ov B) (W.q2 (hg := gk rfl rfl a rfl) (.string c) rfl (W.pure (v := (.bool (sEq e c))) (gl rfl a) rfl (z90 ov ov) (W.q4 (.bool (sEq e c)) a rfl (W.p1 (.bool (sEq e c)) (.nil ?_)))))
 obtain rfl := zAa C
 exact ⟨sEq e c, _, rfl, O, (zAf _), rfl⟩
def z1k (K : Nat) (a : zAd) (b : zAd) : Option (zAd × Bool) := ((z1j K a b).bind fun d => (if (!d) = true then some (a, false) else ((ssl a (b.size : Int) (a.size : Int)).bind fun c => some (c, true))))
theorem z5w (c : zAd) (d : zAd) (O : Ow G H (L)) (r : zAd × Bool) (h : z1k K c d = some r) :
    CR Tryz.prog 65 [(.string c), (.string d)] G H (L) (fun v x _ => v = .tuple #[.string r.1, .bool r.2]) := by
 unfold z1k at h
 refine CR.og (n := 15) (fn := Tryz.f65) (by kernel_rfl) rfl rfl fun R kr => (.seq (.region (W.p1 (.string (⟨#[]⟩ : zAd)) (W.p1 (.bool false) (.nil (.seq ?_))))))
 refine .seq (.region (W.p2 (.string c) (W.p2 (.string d) ?_)))
 obtain ⟨g, q, i⟩ := z00 h
 refine W.ln (Lo.cQ Tryz.f79 (mc rfl (mc rfl mn)) O (fun y s => z5v K c d s _ q)) ?_
 rintro t u ⟨z, j, k, w, rfl⟩
 refine W.pv (.bool (!g)) (z1g (a := g) ov) (.nil (.cond (b := (!g)) rfl rfl (fun e => ?_) (fun e => ?_)))
 .have l := z01 e i
  refine .seq (.region (W.p2 (.string c) (W.p1 (.string c) (W.p1 (.bool false) (.nil (.ret ?_))))))
  obtain rfl := zAa l
  exact zp4 kr (v1 := (.string c)) (v2 := (.bool false)) (by rfl) rt rt j k rfl
 have m := z0h e i
 refine .skip (.seq (.region (W.p2 (.string c) (W.p2 (.string d) (W.pv (.int .i64 (d.size : Int)) (z2c ov un9) ?_)))))
 obtain ⟨f, o, p⟩ := z00 m
 refine W.pv (.string f) (zho un9 ov ov o) (W.p1 (.string f) (W.p1 (.bool true) (.nil (.ret ?_))))
 obtain rfl := zAa p
 exact zp4 kr (v1 := (.string f)) (v2 := (.bool true)) (by rfl) rt rt j k rfl
def z24 (K : Nat) (b : zAd) (c : zAd) : Option (zAd × Bool) := ((z1k K b c).bind fun a => some (a.1, a.2))
theorem z6p (b : zAd) (c : zAd) (O : Ow G H (L)) (r : zAd × Bool) (h : z24 K b c = some r) :
    CR Tryz.prog 49 [(.string b), (.string c)] G H (L) (fun v m _ => v = .tuple #[.string r.1, .bool r.2]) := by
 unfold z24 at h
 refine CR.og (n := 11) (fn := Tryz.f49) (by kernel_rfl) rfl rfl fun R kr => (.seq (.region (W.p1 (.string (⟨#[]⟩ : zAd)) (W.p1 (.bool false) (.nil (.seq ?_))))))
 refine .region (W.p2 (.string b) (W.p2 (.string c) ?_))
 obtain ⟨a, d, e⟩ := z00 h
 refine W.ln (Lo.cQ Tryz.f65 (mc rfl (mc rfl mn)) O (fun o f => z5w K b c f _ d)) ?_
 rintro j k ⟨p, g, i, l, rfl⟩
 refine W.pv (.string a.1) (z0j ov rfl) (W.pv (.bool a.2) (z0j ov rfl) (W.p1 (.string a.1) (W.p1 (.bool a.2) (.nil (.ret ?_)))))
 obtain rfl := zAa e
 exact zp4 kr (v1 := (.string a.1)) (v2 := (.bool a.2)) (by rfl) rt rt g i rfl
def z1e (K : Nat) (b : zAd) (a : zAd) : Option Int := (Option.bind ((if ((a.size : Int) == 0) = true then some true else some (sEq a b))) (tu1 fun e => (if e = true then some 0 else (if ((a.size : Int) == 1) = true then ((bidx a 0).bind fun c => ((z2h K b c).bind fun d => some d)) else (if (decide ((a.size : Int) >= (b.size : Int))) = true then some (-1) else none)))))
theorem z6q (c : zAd) (a : zAd) (O : Ow G H (L)) (r : Int) (h : z1e K c a = some r) :
    CR Tryz.prog 80 [(.string c), (.string a)] G H (L) (fun v s _ => v = .int .i64 r) := by
 unfold z1e at h
 refine CR.og (n := 143) (fn := Tryz.f80) (by kernel_rfl) rfl rfl fun R kr => (.seq (.region (W.p1 (.int .i64 0) (.nil (.seq (.region ?_))))))
 refine W.p2 (.string a) (W.pv (.int .i64 (a.size : Int)) (z2c ov un9) (W.p1 (.int .i64 (a.size : Int)) (.nil (.seq (.block (.seq ?_))))))
 obtain ⟨S, w, T⟩ := z00 h
 refine AW.midT (fun x U => ∃ (y : Bool) (s : GM), y = S /\ Ow s U (L) /\ GM.le G s /\ x 16 = .bool y) ?_ ?_
 .refine .region (W.p2 (.int .i64 (a.size : Int)) (W.p3 (.bool ((a.size : Int) == 0)) (W.p2 (.bool ((a.size : Int) == 0)) (W.splitAt (t := 19) (b := ((a.size : Int) == 0)) rfl (fun u d => ?_) (fun u d => ?_)))))
  .have V := z01 u w
   refine W.q6 rfl d (W.q6 rfl d (W.q6 rfl d (W.q4 (.bool true) d rfl (W.p1 (.bool true) (.nil ?_)))))
   obtain rfl := zAa V
   exact ⟨true, _, rfl, O, (zAf _), rfl⟩
  have X := z0h u w
  refine W.q2 (hg := gk rfl rfl d rfl) (.string a) rfl (W.q2 (hg := gk rfl rfl d rfl) (.string c) rfl (W.pure (v := (.bool (sEq a c))) (gl rfl d) rfl (z90 ov ov) (W.q5 (.bool (sEq a c)) d rfl (W.p1 (.bool (sEq a c)) (.nil ?_)))))
  obtain rfl := zAa X
  exact ⟨sEq a c, _, rfl, O, (zAf _), rfl⟩
 rintro ab ac e ⟨Y, ad, rfl, f, g, z⟩
 have l := z0a T
 refine .cond (b := Y) rfl z (fun i => ?_) (fun i => ?_)
 .have A := z01 i l
  refine .seq (.region (W.p1 (.int .i64 0) (.nil (.ret ?_))))
  obtain rfl := zAa A
  exact z1m kr (v1 := (.int .i64 0)) (by rfl) rt f g rfl
 have m := z0h i l
 refine .seq (.region (W.q2 (.int .i64 (a.size : Int)) (ft (e 5 rfl) rfl) (W.p3 (.bool ((a.size : Int) == 1)) (W.p1 (.bool ((a.size : Int) == 1)) (.nil (.cond (b := ((a.size : Int) == 1)) rfl rfl (fun j => ?_) (fun j => ?_)))))))
 .have B := z01 j m
  refine .seq (.region (W.q2 (.string c) (ft (e 0 rfl) rfl) (W.q2 (.string a) (ft (e 1 rfl) rfl) ?_)))
  obtain ⟨o, C, E⟩ := z00 B
  refine W.pv (.int .u8 o) (zb3 un9 ov ov C) ?_
  obtain ⟨p, F, I⟩ := z00 E
  refine W.ln (Lo.cQ Tryz.f92 (mc rfl (mc rfl mn)) f (fun ah Z => z5t K c o Z _ F)) ?_
  rintro ae af ⟨ag, J, M, aa, rfl⟩
  refine W.p1 (.int .i64 p) (.nil (.ret ?_))
  obtain rfl := zAa I
  exact z1m kr (v1 := (.int .i64 p)) (by rfl) rt J (zAe g M) rfl
 have q := z0h j m
 refine .seq (.region (W.q2 (.int .i64 (a.size : Int)) (ft (e 5 rfl) rfl) (W.q2 (.string c) (ft (e 0 rfl) rfl) (W.pv (.int .i64 (c.size : Int)) (z2c ov un9) (W.p3 (.bool (decide ((a.size : Int) >= (c.size : Int)))) (W.p1 (.bool (decide ((a.size : Int) >= (c.size : Int)))) ?_))))))
 refine .nil (.cond (b := decide ((a.size : Int) >= (c.size : Int))) rfl rfl (fun k => ?_) (fun k => ?_))
 rotate_left
 .have N := z0h k q
  refine .seq (.region (W.q2 (.int .i64 (a.size : Int)) (ft (e 5 rfl) rfl) ?_))
  exact gap N
 have P := z01 k q
 refine .seq (.region (W.p1 (.int .i64 (-1)) (.nil (.ret ?_))))
 obtain rfl := zAa P
 exact z1m kr (v1 := (.int .i64 (-1))) (by rfl) rt f g rfl
def z2m (K : Nat) (a : zAd) (c : zAd) : Option (zAd × zAd × Bool) := ((z1e K a c).bind fun b => (if (decide (b >= 0)) = true then ((ssl a 0 b).bind fun d => ((ssl a (z03 .i64 (b + (c.size : Int))) (a.size : Int)).bind fun e => some (d, e, true))) else some (a, (⟨#[]⟩ : zAd), false)))
theorem z74 (a : zAd) (c : zAd) (O : Ow G H (L)) (r : zAd × zAd × Bool) (h : z2m K a c = some r) :
    CR Tryz.prog 66 [(.string a), (.string c)] G H (L) (fun v F _ => v = .tuple #[.string r.1, .string r.2.1, .bool r.2.2]) := by
 unfold z2m at h
 refine CR.og (n := 23) (fn := Tryz.f66) (by kernel_rfl) rfl rfl fun R kr => (.seq (.region (W.p1 (.string (⟨#[]⟩ : zAd)) (W.p1 (.string (⟨#[]⟩ : zAd)) (W.p1 (.bool false) (.nil ?_))))))
 refine .seq (.seq (.region (W.p2 (.string a) (W.p2 (.string c) ?_))))
 obtain ⟨d, w, i⟩ := z00 h
 refine W.ln (Lo.cQ Tryz.f80 (mc rfl (mc rfl mn)) O (fun I x => z6q K a c x _ w)) ?_
 rintro y z ⟨J, j, k, A, rfl⟩
 refine W.p1 (.int .i64 d) (.nil (.seq (.region (W.p2 (.int .i64 d) (W.p3 (.bool (decide (d >= 0))) (.nil ?_))))))
 refine .cond (b := decide (d >= 0)) rfl rfl (fun e => ?_) (fun e => ?_)
 rotate_left
 .have l := z0h e i
  refine .skip (.seq (.region (W.p2 (.string a) (W.p1 (.string a) (W.p1 (.string (⟨#[]⟩ : zAd)) (W.p1 (.bool false) ?_))))))
  refine .nil (.ret ?_)
  obtain rfl := zAa l
  exact zrb kr (v1 := (.string a)) (v2 := (.string (⟨#[]⟩ : zAd))) (v3 := (.bool false)) (by rfl) rt rt rt j k rfl
 have m := z01 e i
 refine .seq (.draw2 (M := [0, 0, 3, 0, 0, 0, 32, 112, 248, 7, 1023, 2047]) mixed (by kernel_rfl) (by kernel_rfl) fun B C o E => ?_)
 have p := j.ext o
 refine D2.p2 (.string a) (D2.p2 (.int .i64 d) ?_)
 obtain ⟨f, q, s⟩ := z00 m
 refine D2.pv (.string f) (zl9 un9 ov ov q) (D2.p2 (.string a) (D2.p2 (.int .i64 d) (D2.p2 (.string c) (D2.pv (.int .i64 (c.size : Int)) (z2c ov un9) (D2.p3 (.int .i64 (z03 .i64 (d + (c.size : Int)))) ?_)))))
 obtain ⟨g, t, u⟩ := z00 s
 refine D2.pv (.string g) (zho un9 ov ov t) (D2.p1 (.string f) (D2.p1 (.string g) (D2.p1 (.bool true) (.nil (.ret ?_)))))
 obtain rfl := zAa u
 exact zrb kr (v1 := (.string f)) (v2 := (.string g)) (v3 := (.bool true)) (by rfl) rt rt rt p k rfl
def z4t (K : Nat) (b : zAd) (c : zAd) : Option (zAd × zAd × Bool) := ((z2m K b c).bind fun a => some (a.1, a.2.1, a.2.2))
theorem z9h (b : zAd) (c : zAd) (O : Ow G H (L)) (r : zAd × zAd × Bool) (h : z4t K b c = some r) :
    CR Tryz.prog 50 [(.string b), (.string c)] G H (L) (fun v m _ => v = .tuple #[.string r.1, .string r.2.1, .bool r.2.2]) := by
 unfold z4t at h
 refine CR.og (n := 13) (fn := Tryz.f50) (by kernel_rfl) rfl rfl fun R kr => (.seq (.region (W.p1 (.string (⟨#[]⟩ : zAd)) (W.p1 (.string (⟨#[]⟩ : zAd)) (W.p1 (.bool false) (.nil ?_))))))
 refine .seq (.region (W.p2 (.string b) (W.p2 (.string c) ?_)))
 obtain ⟨a, d, e⟩ := z00 h
 refine W.ln (Lo.cQ Tryz.f66 (mc rfl (mc rfl mn)) O (fun o f => z74 K b c f _ d)) ?_
 rintro j k ⟨p, g, i, l, rfl⟩
 refine W.pv (.string a.1) (z0j ov rfl) (W.pv (.string a.2.1) (z0j ov rfl) (W.pv (.bool a.2.2) (z0j ov rfl) (W.p1 (.string a.1) (W.p1 (.string a.2.1) (W.p1 (.bool a.2.2) (.nil ?_))))))
 refine .ret ?_
 obtain rfl := zAa e
 exact zrb kr (v1 := (.string a.1)) (v2 := (.string a.2.1)) (v3 := (.bool a.2.2)) (by rfl) rt rt rt g i rfl
def z25 (K : Nat) (c : zAd) : Nat -> Int -> Option (Int ⊕ Unit)
  | 0, _ => none
  | k + 1, a => (if (decide (a < ((z04 c).length : Int))) = true then ((idx (z04 c) a).bind fun b => (Option.bind ((if (decide (b < 48)) = true then some true else some (decide (b > 57)))) (tu1 fun d => (if d = true then some (.inl 5) else z25 K c k (z03 .i64 (a + 1)))))) else some (.inr ()))
def z78 (K : Nat) (a : zAd) : Option Int := (Option.bind ((if (sEq a (⟨#[]⟩ : zAd)) = true then some true else ((bidx a 0).bind fun d => (if (d == 48) = true then some (decide ((a.size : Int) > 1)) else some false)))) (tu1 fun b => (if b = true then some 5 else (z70 (z25 K a K 0) (tu1 fun c => some c) (tu0 (if (decide ((a.size : Int) > 2000)) = true then some 2 else some 0))))))
theorem zbc (c : zAd) (O : Ow G H (L)) (r : Int) (h : z78 K c = some r) :
    CR Tryz.prog 76 [(.string c)] G H (L) (fun v g _ => v = .int .i64 r) := by
 unfold z78 at h
 refine CR.og (n := 34) (fn := Tryz.f76) (by kernel_rfl) rfl rfl fun R kr => (.seq (.region (W.p1 (.int .i64 0) (.nil (.seq (.seq ?_))))))
 obtain ⟨aL, ai, aM⟩ := z00 h
 refine AW.midT (fun i m => ∃ (l : Bool) (g : GM), l = aL /\ Ow g m (L) /\ GM.le G g /\ i 16 = .bool l) ?_ ?_
 .refine .region (W.p2 (.string c) (W.pv (.bool (sEq c (⟨#[]⟩ : zAd))) (z90 ov ov) (W.p2 (.bool (sEq c (⟨#[]⟩ : zAd))) (W.splitAt (t := 7) (b := sEq c (⟨#[]⟩ : zAd)) rfl (fun ae a => ?_) (fun ae a => ?_)))))
  .have aN := z01 ae ai
   refine W.q6 rfl a (W.q6 rfl a (W.q6 rfl a (W.q6 rfl a (W.skipU rfl rfl rfl rfl (W.skipU rfl rfl rfl rfl (W.skipU rfl rfl rfl rfl ?_))))))
   refine W.q6 rfl a (W.q4 (.bool true) a rfl (.nil ?_))
   obtain rfl := zAa aN
   exact ⟨true, _, rfl, O, (zAf _), rfl⟩
  have aO := z0h ae ai
  refine W.q2 (hg := gk rfl rfl a rfl) (.string c) rfl ?_
  obtain ⟨J, aP, M⟩ := z00 aO
  refine W.pure (v := (.int .u8 J)) (gl rfl a) rfl (zb3 un9 ov ov aP) (W.q3 (hg := gk rfl rfl a rfl) (.bool (J == 48)) rfl rfl (W.q2 (hg := gk rfl rfl a rfl) (.bool (J == 48)) rfl (W.splitAt (t := 11) (b := (J == 48)) rfl (fun q d => ?_) (fun q d => ?_))))
  rotate_left
  .have aj := z0h q M
   refine W.q6 rfl d (W.q6 rfl d (W.q6 rfl d (W.q5 (hg := gk rfl rfl a rfl) (.bool false) d rfl (W.q5 (.bool false) a rfl (.nil ?_)))))
   obtain rfl := zAa aj
   exact ⟨false, _, rfl, O, (zAf _), rfl⟩
  have ak := z01 q M
  refine W.q2 (hg := gk rfl rfl d rfl) (.string c) rfl (W.pure (v := (.int .i64 (c.size : Int))) (gl rfl d) rfl (z2c ov un9) (W.q3 (hg := gk rfl rfl d rfl) (.bool (decide ((c.size : Int) > 1))) rfl rfl (W.q4 (hg := gk rfl rfl a rfl) (.bool (decide ((c.size : Int) > 1))) d rfl (W.q5 (.bool (decide ((c.size : Int) > 1))) a rfl (.nil ?_)))))
  obtain rfl := zAa ak
  exact ⟨decide ((c.size : Int) > 1), _, rfl, O, (zAf _), rfl⟩
 rintro aQ aV s ⟨al, aW, rfl, N, u, am⟩
 have P := z0a aM
 refine .cond (b := al) rfl am (fun w => ?_) (fun w => ?_)
 .have an := z01 w P
  refine .seq (.region (W.p1 (.int .i64 5) (.nil (.ret ?_))))
  obtain rfl := zAa an
  exact z1m kr (v1 := (.int .i64 5)) (by rfl) rt N u rfl
 have ao := z0h w P
 refine .skip (.seq (.seq (.region (W.q2 (.string c) (ft (s 0 rfl) rfl) (W.ln (Lo.bytes rfl un9 zjz in5 rfl N) ?_)))))
 rintro ap aX ⟨S, aq, T, aR, x⟩
 refine W.pv (.int .i64 ((z04 c).length : Int)) (z0q ov (z0g x) (z05 zjz)) (W.p2 (.int .i64 0) (.nil ?_))
 obtain ⟨U, ar, V⟩ := z1w ao
 refine AW.midT (fun i m => ∃  (g : GM), (.inr ()) = U /\ Ow g m (L) /\ GM.le S g) ?_ ?_
 rotate_left
 .rintro aS aY af ⟨aZ, rfl, X, au⟩
  have Y := zAe u (zAe T au)
  have Z := z7i (z72 V)
  refine .seq (.seq (.region (W.q2 (.string c) (ft (af 0 rfl) (ft (s 0 rfl) rfl)) (W.pv (.int .i64 (c.size : Int)) (z2c ov un9) (W.p3 (.bool (decide ((c.size : Int) > 2000))) (.nil ?_))))))
  refine .cond (b := decide ((c.size : Int) > 2000)) rfl rfl (fun y => ?_) (fun y => ?_)
  .have av := z01 y Z
   refine .seq (.region (W.p1 (.int .i64 2) (.nil (.ret ?_))))
   obtain rfl := zAa av
   exact z1m kr (v1 := (.int .i64 2)) (by rfl) rt X Y rfl
  have aw := z0h y Z
  refine .skip (.seq (.region (W.p1 (.int .i64 0) (.nil (.ret ?_)))))
  obtain rfl := zAa aw
  exact z1m kr (v1 := (.int .i64 0)) (by rfl) rt X Y rfl
 refine .block (AW.loop (α := Nat) (fun ag i m => ∃ (l : Int) (g : GM), z25 K c ag l = some U /\ Ow g m (L) /\ GM.le S g /\ i 20 = .int .i64 l) (fun ag => ag) K ⟨0, _, ar, aq, (zAf _), rfl⟩ ?_)
 rintro z
 rintro aT a0 A ⟨j, ax, o, p, k, B⟩
 rcases z with _ | z
 .exact z09 o
 rw [z25] at o
 refine .seq (.region (W.q3 (.bool (decide (j < ((z04 c).length : Int)))) B (ft (A 19 rfl) rfl) (.nil (.seq (.cond (b := decide (j < ((z04 c).length : Int))) rfl rfl (fun C => ?_) (fun C => ?_))))))
 rotate_left
 .have ay := z0h C o
  refine .exit ?_
  obtain rfl := zAa ay
  exact ⟨_, rfl, p, k⟩
 have az := z01 C o
 refine .skip (.seq (.block (.seq (.region ?_))))
 obtain ⟨e, aA, aB⟩ := z00 az
 have E := z0c aA
 refine W.pv (z1v ap (j.toNat * 1)) (z2a zjz sz5 (ou (ft (A 18 rfl) rfl)) (ou B) (z0g (RT.mono _ k x)) E.1 E.2.1) (W.l1 (.int .u8 e) ag5 (z0i rfl (At.int (At.le (At.le (z1h x E.2.2) k k) (zAf _) p.fro))) (W.p1 (.int .u8 e) (.nil (.seq ?_))))
 obtain ⟨aC, aa, aD⟩ := z00 aB
 refine AW.midT (fun i m => ∃ (l : Bool) (g : GM), l = aC /\ Ow g m (L) /\ GM.le ax g /\ i 29 = .bool l) ?_ ?_
 rotate_left
 .rintro aU a1 ah ⟨aE, a2, rfl, ab, ac, aF⟩
  have ad := z0a aD
  refine .cond (b := aE) rfl aF (fun F => ?_) (fun F => ?_)
  rotate_left
  .have aG := z0h F ad
   refine .skip (.region (W.q3 (.int .i64 (z03 .i64 (j + 1))) (ft (ah 20 rfl) B) rfl (W.p2 (.int .i64 (z03 .i64 (j + 1))) (.nil ?_))))
   exact ⟨z, zAg _, ⟨z03 .i64 (j + 1), _, aG, ab, (zAe k ac), rfl⟩⟩
  have aH := z01 F ad
  refine .seq (.region (W.p1 (.int .i64 5) (.nil (.ret ?_))))
  obtain rfl := zAa aH
  have aI := z0a (z3z V)
  obtain rfl := zAa aI
  exact z1m kr (v1 := (.int .i64 5)) (by rfl) rt ab (zAe u (zAe T (zAe k ac))) rfl
 refine .region (W.p2 (.int .u8 e) (W.p3 (.bool (decide (e < 48))) (W.p2 (.bool (decide (e < 48))) (W.splitAt (t := 26) (b := decide (e < 48)) rfl (fun I f => ?_) (fun I f => ?_)))))
 .have aJ := z01 I aa
  refine W.q6 rfl f (W.q6 rfl f (W.q4 (.bool true) f rfl (.nil ?_)))
  obtain rfl := zAa aJ
  exact ⟨true, _, rfl, p, (zAf _), rfl⟩
 have aK := z0h I aa
 refine W.q2 (hg := gk rfl rfl f rfl) (.int .u8 e) rfl (W.q3 (hg := gk rfl rfl f rfl) (.bool (decide (e > 57))) rfl rfl (W.q5 (.bool (decide (e > 57))) f rfl (.nil ?_)))
 obtain rfl := zAa aK
 exact ⟨decide (e > 57), _, rfl, p, (zAf _), rfl⟩
def z3s (K : Nat) : Nat -> List Int -> Option (List Int)
  | 0, _ => none
  | k + 1, a => (Option.bind ((if (decide ((a.length : Int) > 0)) = true then ((idx a (z03 .i64 ((a.length : Int) - 1))).bind fun b => some (b == 0)) else some false)) (tu1 fun c => (if c = true then ((lsl a 0 (z03 .i64 ((a.length : Int) - 1))).bind fun d => z3s K k d) else some a)))
def z2t (K : Nat) (b : List Int) : Option (List Int) := (Option.bind (z3s K K b) (tu1 fun a => some a))
theorem z3t (J : Value) (C : List Int) (O : Ow G H (eSl J 119 (rI .u32) C :: L)) (r : List Int) (h : z2t K C = some r) :
    CRF Tryz.prog 67 [J] G H (fun E => (eSl E 119 (rI .u32) r :: L)) (fun E v f => E = v) := by
 unfold z2t at h
 refine CRF.og (n := 21) (fn := Tryz.f67) (by kernel_rfl) rfl rfl fun R kr => (.seq (.region (W.p1 (.slice none 0 0) (.nil (.seq ?_)))))
 obtain ⟨M, aj, ak⟩ := z00 h
 refine AW.midT (fun i o => ∃ (k : List Int) (f : GM), k = M /\ Ow f o (eSl (i 0) 119 (rI .u32) k :: L) /\ GM.le G f) ?_ ?_
 rotate_left
 .rintro g ao al ⟨ap, aq, rfl, N, P⟩
  have S := z0a ak
  refine .seq (.region (W.p2 (g 0) (W.p1 (g 0) (.nil (.ret ?_)))))
  obtain rfl := zAa S
  exact z4j kr (g 0) (v1 := (g 0)) (by rfl) rt N P rfl
 refine .block (AW.loop (α := Nat) (fun F i o => ∃ (k : List Int) (f : GM), z3s K F k = some M /\ Ow f o (eSl (i 0) 119 (rI .u32) k :: L) /\ GM.le G f) (fun F => F) K ⟨C, _, aj, O, (zAf _)⟩ ?_)
 rintro I
 rintro c aw ar ⟨d, am, p, e, x⟩
 rcases I with _ | I
 .exact z09 p
 rw [z3s] at p
 refine .seq (.seq ?_)
 obtain ⟨T, y, U⟩ := z00 p
 refine AW.midT (fun i o => ∃ (k : Bool) (f : GM), k = T /\ Ow f o (eSl (c 0) 119 (rI .u32) d :: L) /\ GM.le am f /\ i 14 = .bool k) ?_ ?_
 rotate_left
 .rintro an au l ⟨V, av, rfl, q, z, X⟩
  have A := z0a U
  refine .cond (b := V) rfl X (fun s => ?_) (fun s => ?_)
  rotate_left
  .have Y := z0h s A
   refine .exit ?_
   obtain rfl := zAa Y
   exact ⟨d, _, rfl, (Ow.reval (j := 0) q rfl (ft (l 0 rfl) rfl)), (zAe x z)⟩
  have Z := z01 s A
  refine .skip (.block (.region (W.q2 (c 0) (ft (l 0 rfl) rfl) (W.q2 (c 0) (ft (l 0 rfl) rfl) (W.pv (.int .i64 (d.length : Int)) (z0q ov (q.slLen (j := 0) rfl) (z05 el71)) (W.p3 (.int .i64 (z03 .i64 ((d.length : Int) - 1))) ?_))))))
  obtain ⟨aa, ab, ac⟩ := z00 Z
  obtain ⟨B, ad, ae⟩ := q.pre (j := 0) rfl el71 z5s ab
  refine W.pv B (ad ov ov) (W.p1 B (.nil ?_))
  exact ⟨I, zAg _, ⟨aa, _, ac, ae, (zAe x z)⟩⟩
 refine .region (W.p2 (c 0) (W.pv (.int .i64 (d.length : Int)) (z0q ov (e.slLen (j := 0) rfl) (z05 el71)) (W.p3 (.bool (decide ((d.length : Int) > 0))) (W.p2 (.bool (decide ((d.length : Int) > 0))) (W.splitAt (t := 6) (b := decide ((d.length : Int) > 0)) rfl (fun u a => ?_) (fun u a => ?_))))))
 rotate_left
 .have af := z0h u y
  refine W.q6 rfl a (W.q6 rfl a (W.q6 rfl a (W.q6 rfl a (W.q6 rfl a (W.q6 rfl a (W.q6 rfl a ?_))))))
  refine W.q5 (.bool false) a rfl (.nil ?_)
  obtain rfl := zAa af
  exact ⟨false, _, rfl, e, (zAf _), rfl⟩
 have ag := z01 u y
 refine W.q2 (hg := gk rfl rfl a rfl) (c 0) rfl (W.q2 (hg := gk rfl rfl a rfl) (c 0) rfl (W.pure (v := (.int .i64 (d.length : Int))) (gl rfl a) rfl (z0q ov (e.slLen (j := 0) rfl) (z05 el71)) (W.q3 (hg := gk rfl rfl a rfl) (.int .i64 (z03 .i64 ((d.length : Int) - 1))) rfl rfl ?_)))
 obtain ⟨m, ah, ai⟩ := z00 ag
 have w := z0c ah
 refine W.pure (v := (z1v (c 0) (Int.toNat (z03 .i64 ((d.length : Int) - 1)) * 1))) (gl rfl a) rfl (z2a el71 z5s ov ov (e.slLen (j := 0) rfl) w.1 w.2.1) (W.load1 (v := (.int .u32 m)) (r := []) (gl rfl a) rfl zc6 (z0i rfl (At.int (e.atSl (j := 0) rfl w.2.2))) (W.q3 (hg := gk rfl rfl a rfl) (.bool (m == 0)) rfl rfl (W.q4 (.bool (m == 0)) a rfl (.nil ?_))))
 obtain rfl := zAa ai
 exact ⟨(m == 0), _, rfl, e, (zAf _), rfl⟩
end Go.Am.Tryz
