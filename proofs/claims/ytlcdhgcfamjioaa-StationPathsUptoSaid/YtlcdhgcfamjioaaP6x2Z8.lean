/- Typed functions with the same answers as the program's, and the walks that show it. -/
import Derived.Test.YtlcdhgcfamjioaaP6x1Z8
namespace Go.Am.Try
open Go Go.Am Go.Proofs
set_option linter.unusedVariables false
set_option linter.unusedSimpArgs false
set_option maxRecDepth 10000

structure Item where
 name : ByteArray
 nodes : List ByteArray
 apart : Bool
 bad : Bool
 deriving DecidableEq, Inhabited
def T_Item : RT Item := rIso (rP rS (rP (rSl rS) (rP rB rB))) (fun s : Item => (s.name, s.nodes, s.apart, s.bad))
theorem z_Item (G : GM) : T_Item.rep G ([.string ByteArray.empty] ++ ([.slice none 0 0] ++ ([.bool false] ++ [.bool false]))) ((Item.mk ByteArray.empty ([] : List ByteArray) false false)) := ⟨_, _, rfl, zS G, ⟨_, _, rfl, zL G, ⟨_, _, rfl, zB G, (zB G)⟩⟩⟩
theorem p_Item_name : Proj T_Item 0 rS (fun x => x.name) := by
 have h := (Proj.iso (rP rS (rP (rSl rS) (rP rB rB))) (fun s : Item => (s.name, s.nodes, s.apart, s.bad))).comp (Proj.fst _ _)
 exact h
theorem u_Item_name : Put T_Item 0 rS (fun x y => { x with name := y }) := by
 have h := Put.comp (Proj.iso (rP rS (rP (rSl rS) (rP rB rB))) (fun s : Item => (s.name, s.nodes, s.apart, s.bad))) (Put.iso (rP rS (rP (rSl rS) (rP rB rB))) (fun s : Item => (s.name, s.nodes, s.apart, s.bad)) (fun _ q => ⟨q.1, q.2.1, q.2.2.1, q.2.2.2⟩) (fun _ _ => rfl)) (Put.fst _ _)
 exact h
theorem p_Item_nodes : Proj T_Item 1 (rSl rS) (fun x => x.nodes) := by
 have h := (Proj.iso (rP rS (rP (rSl rS) (rP rB rB))) (fun s : Item => (s.name, s.nodes, s.apart, s.bad))).comp ((Proj.snd _ _).comp (Proj.fst _ _))
 exact h
theorem u_Item_nodes : Put T_Item 1 (rSl rS) (fun x y => { x with nodes := y }) := by
 have h := Put.comp (Proj.iso (rP rS (rP (rSl rS) (rP rB rB))) (fun s : Item => (s.name, s.nodes, s.apart, s.bad))) (Put.iso (rP rS (rP (rSl rS) (rP rB rB))) (fun s : Item => (s.name, s.nodes, s.apart, s.bad)) (fun _ q => ⟨q.1, q.2.1, q.2.2.1, q.2.2.2⟩) (fun _ _ => rfl)) (Put.comp (Proj.snd _ _) (Put.snd _ _) (Put.fst _ _))
 exact h
theorem p_Item_apart : Proj T_Item 2 rB (fun x => x.apart) := by
 have h := (Proj.iso (rP rS (rP (rSl rS) (rP rB rB))) (fun s : Item => (s.name, s.nodes, s.apart, s.bad))).comp ((Proj.snd _ _).comp ((Proj.snd _ _).comp (Proj.fst _ _)))
 exact h
theorem u_Item_apart : Put T_Item 2 rB (fun x y => { x with apart := y }) := by
 have h := Put.comp (Proj.iso (rP rS (rP (rSl rS) (rP rB rB))) (fun s : Item => (s.name, s.nodes, s.apart, s.bad))) (Put.iso (rP rS (rP (rSl rS) (rP rB rB))) (fun s : Item => (s.name, s.nodes, s.apart, s.bad)) (fun _ q => ⟨q.1, q.2.1, q.2.2.1, q.2.2.2⟩) (fun _ _ => rfl)) (Put.comp (Proj.snd _ _) (Put.snd _ _) (Put.comp (Proj.snd _ _) (Put.snd _ _) (Put.fst _ _)))
 exact h
theorem p_Item_bad : Proj T_Item 3 rB (fun x => x.bad) := by
 have h := (Proj.iso (rP rS (rP (rSl rS) (rP rB rB))) (fun s : Item => (s.name, s.nodes, s.apart, s.bad))).comp ((Proj.snd _ _).comp ((Proj.snd _ _).comp ((Proj.snd _ _).comp (Proj.self _))))
 exact h
theorem u_Item_bad : Put T_Item 3 rB (fun x y => { x with bad := y }) := by
 have h := Put.comp (Proj.iso (rP rS (rP (rSl rS) (rP rB rB))) (fun s : Item => (s.name, s.nodes, s.apart, s.bad))) (Put.iso (rP rS (rP (rSl rS) (rP rB rB))) (fun s : Item => (s.name, s.nodes, s.apart, s.bad)) (fun _ q => ⟨q.1, q.2.1, q.2.2.1, q.2.2.2⟩) (fun _ _ => rfl)) (Put.comp (Proj.snd _ _) (Put.snd _ _) (Put.comp (Proj.snd _ _) (Put.snd _ _) (Put.comp (Proj.snd _ _) (Put.snd _ _) (Put.self _))))
 exact h
theorem bd_Item_0_1_2_3 {G : GM} (v0 : Value) {x0 : ByteArray} (v1 : Value) {x1 : List ByteArray} (v2 : Value) {x2 : Bool} (v3 : Value) {x3 : Bool} (h0 : rS.rep G v0.cells.toList x0) (h1 : (rSl rS).rep G v1.cells.toList x1) (h2 : rB.rep G v2.cells.toList x2) (h3 : rB.rep G v3.cells.toList x3) : ∃ cs : List Value, (∀ {s : List Value} {d : Tmp} {ty : TypeId} {pos : String} {af : Array Edge} {g : Option (Nat × Bool)} {ps : Array (Nat × Operand)}, opndP s ps.toList = some [(0, v0), (1, v1), (2, v2), (3, v3)] → apure Try.prog s ⟨some d, .build 114 ps, ty, pos, af, g⟩ = some (.agg (List.toArray cs))) ∧ T_Item.rep G cs (Item.mk x0 x1 x2 x3) := by
 have k0 := (u_Item_name G _ _ _ _ (z_Item G) h0).1
 have k1 := (u_Item_nodes G _ _ _ _ (k0) h1).1
 have k2 := (u_Item_apart G _ _ _ _ (k1) h2).1
 have k3 := (u_Item_bad G _ _ _ _ (k2) h3).1
 refine ⟨_, fun {s d ty pos af g ps} hps => v_buildS pl114 ze114 zo114 hps ?_, k3⟩
 refine (fill_cons' (off := 0) (sz := 1) (cs := _) rfl (RT.len _ h0) (Nat.le_trans (Nat.le_of_ble_eq_true (m := 4) rfl) (Nat.le_of_eq (RT.len _ (z_Item G)).symm))).trans ?_
 refine (fill_cons' (off := 1) (sz := 1) (cs := _) rfl (RT.len _ h1) (Nat.le_trans (Nat.le_of_ble_eq_true (m := 4) rfl) (Nat.le_of_eq (RT.len _ (k0)).symm))).trans ?_
 refine (fill_cons' (off := 2) (sz := 1) (cs := _) rfl (RT.len _ h2) (Nat.le_trans (Nat.le_of_ble_eq_true (m := 4) rfl) (Nat.le_of_eq (RT.len _ (k1)).symm))).trans ?_
 refine (fill_cons' (off := 3) (sz := 1) (cs := _) rfl (RT.len _ h3) (Nat.le_trans (Nat.le_of_ble_eq_true (m := 4) rfl) (Nat.le_of_eq (RT.len _ (k2)).symm))).trans ?_
 rfl
def g_R_items_l0 (K : Nat) (p0 : Network) : Nat → List Item → Int → Option (List Item)
 | 0, _, _ => none
 | k + 1, x14, x15 => (if (decide (x15 < (List.length p0.Switches : Int))) = true then ((idx p0.Switches x15).bind fun x26 => (if List.length x14 + List.length [(Item.mk x26.Name [x26.A, x26.B] true false)] ≤ 16777216 then g_R_items_l0 K p0 k (x14 ++ [(Item.mk x26.Name [x26.A, x26.B] true false)]) (kwrap .i64 (x15 + 1)) else none)) else some x14)
def g_R_items_l2 (K : Nat) (p0 : Network) : Nat → List Item → Int → Option (List Item)
 | 0, _, _ => none
 | k + 1, x87, x88 => (if (decide (x88 < (List.length p0.Branches : Int))) = true then ((idx p0.Branches x88).bind fun x99 => ((g_R_BranchError K x99).bind fun x129 => (if List.length x87 + List.length [(Item.mk x99.Name [x99.From, x99.To] true (x129 != 0))] ≤ 16777216 then g_R_items_l2 K p0 k (x87 ++ [(Item.mk x99.Name [x99.From, x99.To] true (x129 != 0))]) (kwrap .i64 (x88 + 1)) else none))) else some x87)
def g_R_items_l4 (K : Nat) (p0 : Network) : Nat → List Item → Int → Option (List Item)
 | 0, _, _ => none
 | k + 1, x179, x180 => (if (decide (x180 < (List.length p0.Gens : Int))) = true then (Option.bind (((idx p0.Gens x180).bind fun x194 => ((g_R_in K x194.Least 0 100000).bind fun x221 => (if (!x221) = true then (if List.length x179 + List.length [(Item.mk x194.Name [x194.Node] false true)] ≤ 16777216 then some (x179 ++ [(Item.mk x194.Name [x194.Node] false true)]) else none) else ((g_R_in K x194.Most x194.Least 100000).bind fun x258 => (if (!x258) = true then (if List.length x179 + List.length [(Item.mk x194.Name [x194.Node] false true)] ≤ 16777216 then some (x179 ++ [(Item.mk x194.Name [x194.Node] false true)]) else none) else ((g_R_in K x194.Ramp 0 100000).bind fun x295 => (if List.length x179 + List.length [(Item.mk x194.Name [x194.Node] false (!x295))] ≤ 16777216 then some (x179 ++ [(Item.mk x194.Name [x194.Node] false (!x295))]) else none)))))))) (tu1 fun x328 => g_R_items_l4 K p0 k x328 (kwrap .i64 (x180 + 1)))) else some x179)
def g_R_items_l6 (K : Nat) (p0 : Network) : Nat → List Item → Int → Option (List Item)
 | 0, _, _ => none
 | k + 1, x354, x355 => (if (decide (x355 < (List.length p0.Loads : Int))) = true then ((idx p0.Loads x355).bind fun x366 => ((g_R_in K x366.Demand 0 100000).bind fun x393 => (if List.length x354 + List.length [(Item.mk x366.Name [x366.Node] false (!x393))] ≤ 16777216 then g_R_items_l6 K p0 k (x354 ++ [(Item.mk x366.Name [x366.Node] false (!x393))]) (kwrap .i64 (x355 + 1)) else none))) else some x354)
def g_R_items_l8 (K : Nat) (p0 : Network) : Nat → List Item → Int → Option (List Item)
 | 0, _, _ => none
 | k + 1, x443, x444 => (if (decide (x444 < (List.length p0.Stores : Int))) = true then (Option.bind (((idx p0.Stores x444).bind fun x458 => ((g_R_in K x458.Charge 0 100000).bind fun x485 => (if (!x485) = true then (if List.length x443 + List.length [(Item.mk x458.Name [x458.Node] false true)] ≤ 16777216 then some (x443 ++ [(Item.mk x458.Name [x458.Node] false true)]) else none) else ((g_R_in K x458.Discharge 0 100000).bind fun x522 => (if (!x522) = true then (if List.length x443 + List.length [(Item.mk x458.Name [x458.Node] false true)] ≤ 16777216 then some (x443 ++ [(Item.mk x458.Name [x458.Node] false true)]) else none) else ((g_R_in K x458.Capacity 0 100000).bind fun x559 => (if List.length x443 + List.length [(Item.mk x458.Name [x458.Node] false (!x559))] ≤ 16777216 then some (x443 ++ [(Item.mk x458.Name [x458.Node] false (!x559))]) else none)))))))) (tu1 fun x592 => g_R_items_l8 K p0 k x592 (kwrap .i64 (x444 + 1)))) else some x443)
def g_R_items (K : Nat) (p0 : Network) : Option (List Item) := (Option.bind (g_R_items_l0 K p0 K [] 0) (tu1 fun x71 => (Option.bind (g_R_items_l2 K p0 K x71 0) (tu1 fun x163 => (Option.bind (g_R_items_l4 K p0 K x163 0) (tu1 fun x338 => (Option.bind (g_R_items_l6 K p0 K x338 0) (tu1 fun x427 => (Option.bind (g_R_items_l8 K p0 K x427 0) (tu1 fun x602 => some x602))))))))))
set_option maxHeartbeats 4000000 in
theorem g_R_items_ok (K : Nat) {G : GM} {H : AH} {L : List Pc} (v0 : List Value) (p0 : Network) (hp0 : T_Network.rep G v0 p0) (O : Ow G H (L)) (r : List Item) (h : g_R_items K p0 = some r) :
  CRF Try.prog 71 [.agg (List.toArray v0)] G H (fun w0 => (eSl w0 114 T_Item r :: L)) (fun w0 v G' => w0 = v) := by
 unfold g_R_items at h
 refine CRF.of (calls_of_AW (n := 145) (fn := Try.f71) (R := fun v H' => ∃ w0 G', Ow G' H' (eSl w0 114 T_Item r :: L) ∧ G.le G' ∧ w0 = v) (by kernel_rfl) rfl rfl ?_)
 refine .seq ?_
 refine .region ?_
 refine W.lo rfl rfl (Lo.box (r := T_Network) (x0 := p0) (v := (.agg (List.toArray v0))) rfl rfl hp0 O) ?_
 rintro v4 H5 ⟨b2, rfl, O1, sm3⟩
 refine W.pure (v := (.slice none 0 0)) rfl rfl (v_assign (oo rfl rfl)) ?_
 refine .nil ?_
 refine .seq ?_
 refine .region ?_
 refine W.pure (v := (.slice none 0 0)) rfl rfl (v_assign (oo rfl rfl)) ?_
 refine .nil ?_
 refine .seq ?_
 refine .seq ?_
 refine .region ?_
 refine W.pure (v := (padd (.pointer (some ⟨b2, 0, none⟩)) 1)) rfl rfl (v_fldA fl48_1 (oo rfl rfl) (O1.atVar (j := 0) rfl)) ?_
 obtain ⟨w6, p7, f8⟩ := At.sl (At.proj (O1.atVar (j := 0) rfl) p_Network_Switches)
 refine W.load1 (v := w6) (r := []) rfl rfl ag42 (pt_px rfl p7) ?_
 refine W.pure (v := (.int .i64 (List.length p0.Switches : Int))) rfl rfl (len_sl (oo rfl rfl) (sl_len f8) (elemT_inv el42)) ?_
 refine W.pure (v := (.int .i64 0)) rfl rfl (v_move (oo rfl rfl)) ?_
 refine .nil ?_
 obtain ⟨q9, h10, h11⟩ := bd_inv h
 refine AW.midT (fun σ' H' => ∃ (y1 : List Item) (G' : GM), y1 = q9 ∧ Ow G' H' (eVar b2 48 T_Network p0 :: eSl (σ' 3) 114 T_Item y1 :: L) ∧ GM.le G G') ?_ ?_
 ·refine .block ?_
  have O12 := O1.nilSl 114 T_Item
  refine AW.loop (α := Nat) (fun k' σ' H' => ∃ (y1 : List Item) (y2 : Int) (G' : GM), g_R_items_l0 K p0 k' y1 y2 = some q9 ∧ Ow G' H' (eSl (σ' 3) 114 T_Item y1 :: eVar b2 48 T_Network p0 :: L) ∧ GM.le G G' ∧ σ' 17 = .int .i64 y2) (fun k' => k') K ⟨[], 0, _, h10, O12, (GM.le.refl _), rfl⟩ ?_
  rintro k13
  rintro σ16 H17 fr18 ⟨x14, x15, G19, h22, O20, s21, t23⟩
  rcases k13 with _ | k13
  ·exact none_absurd h22
  rw [g_R_items_l0] at h22
  refine .seq ?_
  refine .region ?_
  refine W.pure (v := (.bool (decide (x15 < (List.length p0.Switches : Int))))) rfl rfl (v_int (oo rfl t23) (oo rfl ((fr18 16 rfl).trans rfl)) rfl) ?_
  refine .nil ?_
  refine .seq ?_
  refine .cond (b := decide (x15 < (List.length p0.Switches : Int))) rfl rfl (fun g24 => ?_) (fun g24 => ?_)
  ·have h25 := pos_inv g24 h22
   refine .skip ?_
   refine .seq ?_
   refine .block ?_
   refine .seq ?_
   refine .region ?_
   obtain ⟨x26, i27, h28⟩ := bd_inv h25
   have j29 := idx_inv i27
   refine W.pure (v := (selem w6 (Int.toNat x15 * 5))) rfl rfl (v_idx el42 sz81 (oo rfl ((fr18 15 rfl).trans rfl)) (oo rfl t23) (sl_len (RT.mono _ s21 f8)) j29.1 j29.2.1) ?_
   obtain ⟨c30, p31, f32⟩ := (At.le (At.le (sl_idx f8 j29.2.2) s21 s21) (GM.le.refl _) O20.fro)
   refine W.loadA (cs := c30) rfl rfl ag81 sz81 (pt_px rfl p31) (RT.len _ f32) ?_
   refine W.lo rfl rfl (Lo.alloc (r := T_Switch) (x0 := (Switch.mk ByteArray.empty ByteArray.empty ByteArray.empty false false)) ze81 (by kernel_rfl) z_Switch O20) ?_
   rintro v36 H37 ⟨b34, rfl, O33, sm35⟩
   refine W.lo rfl rfl (Lo.storeVar (j := 0) (s := T_Switch) (y0 := x26) (v := (.agg (List.toArray c30))) (o := 0) rfl ((Put.at (Put.self _) _ _)) rfl sz81 rfl (by omega) rfl f32 O33) ?_
   rintro v40 H41 ⟨O38, sm39⟩
   replace O38 : Ow G19 H41 (eVar b34 81 T_Switch x26 :: eSl (σ16 3) 114 T_Item x14 :: eVar b2 48 T_Network p0 :: L) := O38
   refine .nil ?_
   refine .region ?_
   refine W.pure (v := (σ16 3)) rfl rfl (v_move (oo rfl rfl)) ?_
   refine W.pure (v := (padd (.pointer (some ⟨b34, 0, none⟩)) 0)) rfl rfl (v_fldA fl81_0 (oo rfl rfl) (O38.atVar (j := 0) rfl)) ?_
   refine W.load1 (v := (.string x26.Name)) (r := []) rfl rfl ag9 (pt_px rfl (At.str (At.proj (O38.atVar (j := 0) rfl) p_Switch_Name))) ?_
   refine W.pure (v := (padd (.pointer (some ⟨b34, 0, none⟩)) 1)) rfl rfl (v_fldA fl81_1 (oo rfl rfl) (O38.atVar (j := 0) rfl)) ?_
   refine W.load1 (v := (.string x26.A)) (r := []) rfl rfl ag9 (pt_px rfl (At.str (At.proj (O38.atVar (j := 0) rfl) p_Switch_A))) ?_
   refine W.pure (v := (padd (.pointer (some ⟨b34, 0, none⟩)) 2)) rfl rfl (v_fldA fl81_2 (oo rfl rfl) (O38.atVar (j := 0) rfl)) ?_
   refine W.load1 (v := (.string x26.B)) (r := []) rfl rfl ag9 (pt_px rfl (At.str (At.proj (O38.atVar (j := 0) rfl) p_Switch_B))) ?_
   refine W.lo rfl rfl (Lo.buildSlice (r := rS) (vs := [(.string x26.A), (.string x26.B)]) (xs := [x26.A, x26.B]) el41 ze9 sz9 (by kernel_rfl) rfl (qc rfl (qc rfl qn)) rfl (.cons rfl (.cons rfl .nil)) O38) ?_
   rintro v44 H45 ⟨O42, sm43⟩
   obtain ⟨G46, O47, s48, f49⟩ := O42.frzSl (j := 0) rfl
   replace O47 : Ow G46 H45 (eVar b34 81 T_Switch x26 :: eSl (σ16 3) 114 T_Item x14 :: eVar b2 48 T_Network p0 :: L) := O47
   obtain ⟨c50, e52, f51⟩ := bd_Item_0_1_2_3 ((.string x26.Name)) (v44) ((.bool true)) ((.bool false)) (rfl) ((sl_cells f49)) (rfl) (rfl)
   refine W.pure (v := .agg (List.toArray c50)) rfl rfl (e52 (opndP_oo rfl (qc' rfl (qc' rfl (qc' rfl (qc' rfl qn')))))) ?_
   refine W.lo rfl rfl (Lo.buildSlice (r := T_Item) (vs := [(.agg (List.toArray c50))]) (xs := [(Item.mk x26.Name [x26.A, x26.B] true false)]) el111 ze114 sz114 (by kernel_rfl) rfl (qc rfl qn) rfl (.cons f51 .nil) O47) ?_
   rintro v55 H56 ⟨O53, sm54⟩
   obtain ⟨es58, e59, e60⟩ := src_own (j := 0) rfl O53
   obtain ⟨g61, h62⟩ := gd_inv h28
   refine W.lo rfl rfl (Lo.append (j := 2) (v := (σ16 3)) rfl rfl el111 ni111 ze114 sz114 by114 (by decide) (by decide) rfl e59 e60 g61 O53) ?_
   rintro v64 H65 ⟨O57, sm63⟩
   replace O57 : Ow G46 H65 (eSl v55 114 T_Item [(Item.mk x26.Name [x26.A, x26.B] true false)] :: eVar b34 81 T_Switch x26 :: eSl v64 114 T_Item (x14 ++ [(Item.mk x26.Name [x26.A, x26.B] true false)]) :: eVar b2 48 T_Network p0 :: L) := O57
   refine W.pure (v := v64) rfl rfl (v_assign (oo rfl rfl)) ?_
   refine .nil ?_
   refine .region ?_
   refine W.pure (v := (.int .i64 (kwrap .i64 (x15 + 1)))) rfl rfl (v_int (oo rfl t23) (oo rfl rfl) rfl) ?_
   refine W.pure (v := (.int .i64 (kwrap .i64 (x15 + 1)))) rfl rfl (v_move (oo rfl rfl)) ?_
   refine .nil ?_
   have O66 : Ow G46 H65 (eVar b34 81 T_Switch x26 :: eSl v64 114 T_Item (x14 ++ [(Item.mk x26.Name [x26.A, x26.B] true false)]) :: eVar b2 48 T_Network p0 :: L) := O57.drop 0
   have O67 : Ow G46 H65 (eSl v64 114 T_Item (x14 ++ [(Item.mk x26.Name [x26.A, x26.B] true false)]) :: eVar b2 48 T_Network p0 :: L) := O66.drop 0
   exact ⟨k13, Nat.lt_succ_self _, ⟨(x14 ++ [(Item.mk x26.Name [x26.A, x26.B] true false)]), kwrap .i64 (x15 + 1), _, h62, O67, (GM.le.trans s21 s48), rfl⟩⟩
  ·have h68 := neg_b g24 h22
   refine .exit ?_
   have O69 : Ow G19 H17 (eSl (σ16 3) 114 T_Item x14 :: eVar b2 48 T_Network p0 :: L) := O20.front (j := 0) rfl
   have O70 : Ow G19 H17 (eVar b2 48 T_Network p0 :: eSl (σ16 3) 114 T_Item x14 :: L) := O69.front (j := 1) rfl
   obtain rfl := Option.some.inj h68
   exact ⟨x14, _, rfl, O70, s21⟩
 ·rintro σ72 H73 fr74 ⟨x71, G75, rfl, O76, s77⟩
  have h79 := tu1_inv h11
  refine .seq ?_
  refine .seq ?_
  refine .region ?_
  refine W.pure (v := (padd (.pointer (some ⟨b2, 0, none⟩)) 2)) rfl rfl (v_fldA fl48_2 (oo rfl ((fr74 1 rfl).trans rfl)) (O76.atVar (j := 0) rfl)) ?_
  obtain ⟨w80, p81, f82⟩ := At.sl (At.proj (O76.atVar (j := 0) rfl) p_Network_Branches)
  refine W.load1 (v := w80) (r := []) rfl rfl ag43 (pt_px rfl p81) ?_
  refine W.pure (v := (.int .i64 (List.length p0.Branches : Int))) rfl rfl (len_sl (oo rfl rfl) (sl_len f82) (elemT_inv el43)) ?_
  refine W.pure (v := (.int .i64 0)) rfl rfl (v_move (oo rfl rfl)) ?_
  refine .nil ?_
  obtain ⟨q83, h84, h85⟩ := bd_inv h79
  refine AW.midT (fun σ' H' => ∃ (y1 : List Item) (G' : GM), y1 = q83 ∧ Ow G' H' (eVar b2 48 T_Network p0 :: eSl (σ' 3) 114 T_Item y1 :: L) ∧ GM.le G75 G') ?_ ?_
  ·refine .block ?_
   refine AW.loop (α := Nat) (fun k' σ' H' => ∃ (y1 : List Item) (y2 : Int) (G' : GM), g_R_items_l2 K p0 k' y1 y2 = some q83 ∧ Ow G' H' (eVar b2 48 T_Network p0 :: eSl (σ' 3) 114 T_Item y1 :: L) ∧ GM.le G75 G' ∧ σ' 36 = .int .i64 y2) (fun k' => k') K ⟨x71, 0, _, h84, O76, (GM.le.refl _), rfl⟩ ?_
   rintro k86
   rintro σ89 H90 fr91 ⟨x87, x88, G92, h95, O93, s94, t96⟩
   rcases k86 with _ | k86
   ·exact none_absurd h95
   rw [g_R_items_l2] at h95
   refine .seq ?_
   refine .region ?_
   refine W.pure (v := (.bool (decide (x88 < (List.length p0.Branches : Int))))) rfl rfl (v_int (oo rfl t96) (oo rfl ((fr91 35 rfl).trans rfl)) rfl) ?_
   refine .nil ?_
   refine .seq ?_
   refine .cond (b := decide (x88 < (List.length p0.Branches : Int))) rfl rfl (fun g97 => ?_) (fun g97 => ?_)
   ·have h98 := pos_inv g97 h95
    refine .skip ?_
    refine .seq ?_
    refine .block ?_
    refine .seq ?_
    refine .region ?_
    obtain ⟨x99, i100, h101⟩ := bd_inv h98
    have j102 := idx_inv i100
    refine W.pure (v := (selem w80 (Int.toNat x88 * 9))) rfl rfl (v_idx el43 sz50 (oo rfl ((fr91 34 rfl).trans rfl)) (oo rfl t96) (sl_len (RT.mono _ s94 f82)) j102.1 j102.2.1) ?_
    obtain ⟨c103, p104, f105⟩ := (At.le (At.le (sl_idx f82 j102.2.2) s94 s94) (GM.le.refl _) O93.fro)
    refine W.loadA (cs := c103) rfl rfl ag50 sz50 (pt_px rfl p104) (RT.len _ f105) ?_
    refine W.lo rfl rfl (Lo.alloc (r := T_Branch) (x0 := (Branch.mk ByteArray.empty ByteArray.empty ByteArray.empty 0 0 0 0 0 0)) ze50 (by kernel_rfl) z_Branch O93) ?_
    rintro v109 H110 ⟨b107, rfl, O106, sm108⟩
    refine W.lo rfl rfl (Lo.storeVar (j := 0) (s := T_Branch) (y0 := x99) (v := (.agg (List.toArray c103))) (o := 0) rfl ((Put.at (Put.self _) _ _)) rfl sz50 rfl (by omega) rfl f105 O106) ?_
    rintro v113 H114 ⟨O111, sm112⟩
    replace O111 : Ow G92 H114 (eVar b107 50 T_Branch x99 :: eVar b2 48 T_Network p0 :: eSl (σ89 3) 114 T_Item x87 :: L) := O111
    refine .nil ?_
    refine .draw2 (M := [0, 0, 2, 0, 8, 0, 32, 120, 0, 256, 768, 2046, 4094, 8191, 16383]) mixed (by kernel_rfl) (by kernel_rfl) fun H115 N119 x116 F118 => ?_
    have O117 := O111.ext x116
    refine D2.pure (v := (σ89 3)) rfl rfl (v_move (oo rfl rfl)) ?_
    refine D2.pure (v := (padd (.pointer (some ⟨b107, 0, none⟩)) 0)) rfl rfl (v_fldA fl50_0 (oo rfl rfl) (O117.atVar (j := 0) rfl)) ?_
    refine D2.load1' (v := (.string x99.Name)) (r := []) rfl rfl ag9 (pt_px rfl (At.str (At.proj (O117.atVar (j := 0) rfl) p_Branch_Name))) fa_nil ?_
    refine D2.pure (v := (padd (.pointer (some ⟨b107, 0, none⟩)) 1)) rfl rfl (v_fldA fl50_1 (oo rfl rfl) (O117.atVar (j := 0) rfl)) ?_
    refine D2.load1' (v := (.string x99.From)) (r := []) rfl rfl ag9 (pt_px rfl (At.str (At.proj (O117.atVar (j := 0) rfl) p_Branch_From))) fa_nil ?_
    refine D2.pure (v := (padd (.pointer (some ⟨b107, 0, none⟩)) 2)) rfl rfl (v_fldA fl50_2 (oo rfl rfl) (O117.atVar (j := 0) rfl)) ?_
    refine D2.load1' (v := (.string x99.To)) (r := []) rfl rfl ag9 (pt_px rfl (At.str (At.proj (O117.atVar (j := 0) rfl) p_Branch_To))) fa_nil ?_
    refine D2.alloc (m := 15) rfl rfl (Al.buildSlice (r := rS) (vs := [(.string x99.From), (.string x99.To)]) (xs := [x99.From, x99.To]) el41 ze9 sz9 (by kernel_rfl) rfl (qc rfl (qc rfl qn)) rfl (.cons rfl (.cons rfl .nil))) (Free.up (by decide) F118) (by decide) O117 ?_
    rintro b121 H122 ⟨O123, sm124, F125⟩
    obtain ⟨c126, p127, f128⟩ := (O123.atVar (j := 1) rfl)
    refine D2.loadA' (cs := c126) rfl rfl ag50 sz50 (pt_px rfl p127) (RT.len _ f128) fa_nil ?_
    obtain ⟨x129, i130, h131⟩ := bd_inv h101
    refine D2.lo rfl rfl (Lo.callP (ps := []) (ps' := []) rfl (fn := Try.f27) (by kernel_rfl) rfl (mc rfl mn) O123 (fun L' O' => g_R_BranchError_ok K c126 x99 f128 O' _ i130)) ?_ fa_nil ?_ ?_
    ·rintro v138 H139 ⟨G132, O133, s134, sm137, rfl⟩; exact (faR1 (.inl (by decide)) (faR1 (.inr (sm137 _ (Or.inr ⟨1, _, rfl, List.mem_singleton.2 rfl⟩))) (faR1 (.inr (sm137 _ (Or.inr ⟨1, _, rfl, List.mem_singleton.2 rfl⟩))) (faR1 (.inr (sm137 _ (Or.inr ⟨1, _, rfl, List.mem_singleton.2 rfl⟩))) fa_nil))))
    ·rintro v138 H139 ⟨G132, O133, s134, sm137, rfl⟩; exact (faR1 (.inr (sm137 _ (Or.inr ⟨0, _, rfl, List.mem_singleton.2 rfl⟩))) fa_nil)
    rintro v138 H139 ⟨G132, O133, s134, sm137, rfl⟩
    replace O133 : Ow G132 H139 (eSl (.slice (some ⟨b121, 0, some 0⟩) 2 2) 9 rS [x99.From, x99.To] :: eVar b107 50 T_Branch x99 :: eVar b2 48 T_Network p0 :: eSl (σ89 3) 114 T_Item x87 :: L) := O133
    refine D2.pure (v := (.bool (x129 != 0))) rfl rfl (v_int (oo rfl rfl) (oo rfl rfl) rfl) ?_
    obtain ⟨G140, O141, s142, f143⟩ := O133.frzSl (j := 0) rfl
    replace O141 : Ow G140 H139 (eVar b107 50 T_Branch x99 :: eVar b2 48 T_Network p0 :: eSl (σ89 3) 114 T_Item x87 :: L) := O141
    obtain ⟨c144, e146, f145⟩ := bd_Item_0_1_2_3 ((.string x99.Name)) ((.slice (some ⟨b121, 0, some 0⟩) 2 2)) ((.bool true)) ((.bool (x129 != 0))) (rfl) ((sl_cells f143)) (rfl) (rfl)
    refine D2.pure (v := .agg (List.toArray c144)) rfl rfl (e146 (opndP_oo rfl (qc' rfl (qc' rfl (qc' rfl (qc' rfl qn')))))) ?_
    refine D2.lo rfl rfl (Lo.buildSlice (r := T_Item) (vs := [(.agg (List.toArray c144))]) (xs := [(Item.mk x99.Name [x99.From, x99.To] true (x129 != 0))]) el111 ze114 sz114 (by kernel_rfl) rfl (qc rfl qn) rfl (.cons f145 .nil) O141) ?_ (faL_bit (by decide) fa_nil) ?_ ?_
    ·rintro v149 H150 ⟨O147, sm148⟩; exact (faR1 (.inl (by decide)) (faR1 (.inl (by decide)) (faR1 (.inl (by decide)) (faR1 (.inl (by decide)) fa_nil))))
    ·rintro v149 H150 ⟨O147, sm148⟩; exact (faR1 (.inl (by decide)) fa_nil)
    rintro v149 H150 ⟨O147, sm148⟩
    obtain ⟨es152, e153, e154⟩ := src_own (j := 0) rfl O147
    obtain ⟨g155, h156⟩ := gd_inv h131
    refine D2.lo rfl rfl (Lo.append (j := 3) (v := (σ89 3)) rfl rfl el111 ni111 ze114 sz114 by114 (by decide) (by decide) rfl e153 e154 g155 O147) ?_ (faL_bit (by decide) (faL_bit (by decide) fa_nil)) ?_ ?_
    ·rintro v158 H159 ⟨O151, sm157⟩; exact (faR1 (.inl (by decide)) (faR1 (.inl (by decide)) (faR1 (.inl (by decide)) (faR1 (.inl (by decide)) fa_nil))))
    ·rintro v158 H159 ⟨O151, sm157⟩; exact (faR1 (.inl (by decide)) fa_nil)
    rintro v158 H159 ⟨O151, sm157⟩
    replace O151 : Ow G140 H159 (eSl v149 114 T_Item [(Item.mk x99.Name [x99.From, x99.To] true (x129 != 0))] :: eVar b107 50 T_Branch x99 :: eVar b2 48 T_Network p0 :: eSl v158 114 T_Item (x87 ++ [(Item.mk x99.Name [x99.From, x99.To] true (x129 != 0))]) :: L) := O151
    refine D2.pure (v := v158) rfl rfl (v_assign (oo rfl rfl)) ?_
    refine .nil ?_
    refine .region ?_
    refine W.pure (v := (.int .i64 (kwrap .i64 (x88 + 1)))) rfl rfl (v_int (oo rfl t96) (oo rfl rfl) rfl) ?_
    refine W.pure (v := (.int .i64 (kwrap .i64 (x88 + 1)))) rfl rfl (v_move (oo rfl rfl)) ?_
    refine .nil ?_
    have O160 : Ow G140 H159 (eVar b107 50 T_Branch x99 :: eVar b2 48 T_Network p0 :: eSl v158 114 T_Item (x87 ++ [(Item.mk x99.Name [x99.From, x99.To] true (x129 != 0))]) :: L) := O151.drop 0
    have O161 : Ow G140 H159 (eVar b2 48 T_Network p0 :: eSl v158 114 T_Item (x87 ++ [(Item.mk x99.Name [x99.From, x99.To] true (x129 != 0))]) :: L) := O160.drop 0
    exact ⟨k86, Nat.lt_succ_self _, ⟨(x87 ++ [(Item.mk x99.Name [x99.From, x99.To] true (x129 != 0))]), kwrap .i64 (x88 + 1), _, h156, O161, (GM.le.trans s94 (GM.le.trans s134 s142)), rfl⟩⟩
   ·have h162 := neg_b g97 h95
    refine .exit ?_
    obtain rfl := Option.some.inj h162
    exact ⟨x87, _, rfl, O93, s94⟩
  ·rintro σ164 H165 fr166 ⟨x163, G167, rfl, O168, s169⟩
   have h171 := tu1_inv h85
   refine .seq ?_
   refine .seq ?_
   refine .region ?_
   refine W.pure (v := (padd (.pointer (some ⟨b2, 0, none⟩)) 3)) rfl rfl (v_fldA fl48_3 (oo rfl ((fr166 1 rfl).trans ((fr74 1 rfl).trans rfl))) (O168.atVar (j := 0) rfl)) ?_
   obtain ⟨w172, p173, f174⟩ := At.sl (At.proj (O168.atVar (j := 0) rfl) p_Network_Gens)
   refine W.load1 (v := w172) (r := []) rfl rfl ag44 (pt_px rfl p173) ?_
   refine W.pure (v := (.int .i64 (List.length p0.Gens : Int))) rfl rfl (len_sl (oo rfl rfl) (sl_len f174) (elemT_inv el44)) ?_
   refine W.pure (v := (.int .i64 0)) rfl rfl (v_move (oo rfl rfl)) ?_
   refine .nil ?_
   obtain ⟨q175, h176, h177⟩ := bd_inv h171
   refine AW.midT (fun σ' H' => ∃ (y1 : List Item) (G' : GM), y1 = q175 ∧ Ow G' H' (eVar b2 48 T_Network p0 :: eSl (σ' 3) 114 T_Item y1 :: L) ∧ GM.le G167 G') ?_ ?_
   ·refine .block ?_
    refine AW.loop (α := Nat) (fun k' σ' H' => ∃ (y1 : List Item) (y2 : Int) (G' : GM), g_R_items_l4 K p0 k' y1 y2 = some q175 ∧ Ow G' H' (eVar b2 48 T_Network p0 :: eSl (σ' 3) 114 T_Item y1 :: L) ∧ GM.le G167 G' ∧ σ' 58 = .int .i64 y2) (fun k' => k') K ⟨x163, 0, _, h176, O168, (GM.le.refl _), rfl⟩ ?_
    rintro k178
    rintro σ181 H182 fr183 ⟨x179, x180, G184, h187, O185, s186, t188⟩
    rcases k178 with _ | k178
    ·exact none_absurd h187
    rw [g_R_items_l4] at h187
    refine .seq ?_
    refine .region ?_
    refine W.pure (v := (.bool (decide (x180 < (List.length p0.Gens : Int))))) rfl rfl (v_int (oo rfl t188) (oo rfl ((fr183 57 rfl).trans rfl)) rfl) ?_
    refine .nil ?_
    refine .seq ?_
    refine .cond (b := decide (x180 < (List.length p0.Gens : Int))) rfl rfl (fun g189 => ?_) (fun g189 => ?_)
    ·have h190 := pos_inv g189 h187
     refine .skip ?_
     refine .seq ?_
     obtain ⟨q191, h192, h193⟩ := bd_inv h190
     refine AW.midT (fun σ' H' => ∃ (y1 : List Item) (G' : GM), y1 = q191 ∧ Ow G' H' (eVar b2 48 T_Network p0 :: eSl (σ' 3) 114 T_Item y1 :: L) ∧ GM.le G184 G') ?_ ?_
     ·refine .block ?_
      refine .seq ?_
      refine .region ?_
      obtain ⟨x194, i195, h196⟩ := bd_inv h192
      have j197 := idx_inv i195
      refine W.pure (v := (selem w172 (Int.toNat x180 * 5))) rfl rfl (v_idx el44 sz65 (oo rfl ((fr183 56 rfl).trans rfl)) (oo rfl t188) (sl_len (RT.mono _ s186 f174)) j197.1 j197.2.1) ?_
      obtain ⟨c198, p199, f200⟩ := (At.le (At.le (sl_idx f174 j197.2.2) s186 s186) (GM.le.refl _) O185.fro)
      refine W.loadA (cs := c198) rfl rfl ag65 sz65 (pt_px rfl p199) (RT.len _ f200) ?_
      refine W.lo rfl rfl (Lo.alloc (r := T_Gen) (x0 := (Gen.mk ByteArray.empty ByteArray.empty 0 0 0)) ze65 (by kernel_rfl) z_Gen O185) ?_
      rintro v204 H205 ⟨b202, rfl, O201, sm203⟩
      refine W.lo rfl rfl (Lo.storeVar (j := 0) (s := T_Gen) (y0 := x194) (v := (.agg (List.toArray c198))) (o := 0) rfl ((Put.at (Put.self _) _ _)) rfl sz65 rfl (by omega) rfl f200 O201) ?_
      rintro v208 H209 ⟨O206, sm207⟩
      replace O206 : Ow G184 H209 (eVar b202 65 T_Gen x194 :: eVar b2 48 T_Network p0 :: eSl (σ181 3) 114 T_Item x179 :: L) := O206
      refine .nil ?_
      refine .draw2 (M := [0, 0, 2, 0, 8, 24, 0, 64, 192, 448, 960, 1984, 4032, 1984, 10176, 32704, 65472, 131008, 262080, 524224, 1048512, 2097088, 4194240, 8388544, 16777214, 33554430, 67108863, 134217727]) mixed (by kernel_rfl) (by kernel_rfl) fun H210 N214 x211 F213 => ?_
      have O212 := O206.ext x211
      refine D2.pure (v := (σ181 3)) rfl rfl (v_move (oo rfl rfl)) ?_
      refine D2.pure (v := (padd (.pointer (some ⟨b202, 0, none⟩)) 0)) rfl rfl (v_fldA fl65_0 (oo rfl rfl) (O212.atVar (j := 0) rfl)) ?_
      refine D2.load1' (v := (.string x194.Name)) (r := []) rfl rfl ag9 (pt_px rfl (At.str (At.proj (O212.atVar (j := 0) rfl) p_Gen_Name))) fa_nil ?_
      refine D2.pure (v := (padd (.pointer (some ⟨b202, 0, none⟩)) 1)) rfl rfl (v_fldA fl65_1 (oo rfl rfl) (O212.atVar (j := 0) rfl)) ?_
      refine D2.load1' (v := (.string x194.Node)) (r := []) rfl rfl ag9 (pt_px rfl (At.str (At.proj (O212.atVar (j := 0) rfl) p_Gen_Node))) fa_nil ?_
      refine D2.alloc (m := 28) rfl rfl (Al.buildSlice (r := rS) (vs := [(.string x194.Node)]) (xs := [x194.Node]) el41 ze9 sz9 (by kernel_rfl) rfl (qc rfl qn) rfl (.cons rfl .nil)) (Free.up (by decide) F213) (by decide) O212 ?_
      rintro b216 H217 ⟨O218, sm219, F220⟩
      refine D2.pure (v := (padd (.pointer (some ⟨b202, 0, none⟩)) 2)) rfl rfl (v_fldA fl65_2 (oo rfl rfl) (O218.atVar (j := 1) rfl)) ?_
      refine D2.load1' (v := (.int .i64 x194.Least)) (r := []) rfl rfl ag3 (pt_px rfl (At.int (At.proj (O218.atVar (j := 1) rfl) p_Gen_Least))) fa_nil ?_
      obtain ⟨x221, i222, h223⟩ := bd_inv h196
      refine D2.lo rfl rfl (Lo.callP (ps := []) (ps' := []) rfl (fn := Try.f73) (by kernel_rfl) rfl (mc rfl (mc rfl (mc rfl mn))) O218 (fun L' O' => g_R_in_ok K x194.Least 0 100000 O' _ i222)) ?_ fa_nil ?_ ?_
      ·rintro v230 H231 ⟨G224, O225, s226, sm229, rfl⟩; exact (faR1 (.inl (by decide)) (faR1 (.inr (sm229 _ (Or.inr ⟨1, _, rfl, List.mem_singleton.2 rfl⟩))) (faR1 (.inr (sm229 _ (Or.inr ⟨1, _, rfl, List.mem_singleton.2 rfl⟩))) fa_nil)))
      ·rintro v230 H231 ⟨G224, O225, s226, sm229, rfl⟩; exact (faR1 (.inr (sm229 _ (Or.inr ⟨0, _, rfl, List.mem_singleton.2 rfl⟩))) fa_nil)
      rintro v230 H231 ⟨G224, O225, s226, sm229, rfl⟩
      replace O225 : Ow G224 H231 (eSl (.slice (some ⟨b216, 0, some 0⟩) 1 1) 9 rS [x194.Node] :: eVar b202 65 T_Gen x194 :: eVar b2 48 T_Network p0 :: eSl (σ181 3) 114 T_Item x179 :: L) := O225
      refine D2.pure (v := (.bool (!x221))) rfl rfl (bool_not (a := x221) (oo rfl rfl)) ?_
      refine D2.pure (v := (.bool (!x221))) rfl rfl (v_move (oo rfl rfl)) ?_
      refine D2.splitAt (t := 72) (b := (!x221)) rfl (fun g232 gv233 => ?_) (fun g232 gv233 => ?_)
      ·have h234 := pos_inv g232 h223
       refine D2.skip (gk rfl rfl gv233 rfl) rfl ?_
       refine D2.skip (gk rfl rfl gv233 rfl) rfl ?_
       refine D2.skip (gk rfl rfl gv233 rfl) rfl ?_
       refine D2.skip (gk rfl rfl gv233 rfl) rfl ?_
       refine D2.skip (gk rfl rfl gv233 rfl) rfl ?_
       refine D2.skip (gk rfl rfl gv233 rfl) rfl ?_
       refine D2.pure (v := (.bool true)) rfl rfl (v_pickT (oo rfl gv233) (oo rfl rfl)) ?_
       refine D2.pure (v := (.bool true)) rfl rfl (v_move (oo rfl rfl)) ?_
       refine D2.skip (gk rfl rfl rfl rfl) rfl ?_
       refine D2.skip (gk rfl rfl rfl rfl) rfl ?_
       refine D2.skip (gk rfl rfl rfl rfl) rfl ?_
       refine D2.skip (gk rfl rfl rfl rfl) rfl ?_
       refine D2.pure (v := (.bool true)) rfl rfl (v_pickT (oo rfl rfl) (oo rfl rfl)) ?_
       obtain ⟨G235, O236, s237, f238⟩ := O225.frzSl (j := 0) rfl
       replace O236 : Ow G235 H231 (eVar b202 65 T_Gen x194 :: eVar b2 48 T_Network p0 :: eSl (σ181 3) 114 T_Item x179 :: L) := O236
       obtain ⟨c239, e241, f240⟩ := bd_Item_0_1_2_3 ((.string x194.Name)) ((.slice (some ⟨b216, 0, some 0⟩) 1 1)) ((.bool false)) ((.bool true)) (rfl) ((sl_cells f238)) (rfl) (rfl)
       refine D2.pure (v := .agg (List.toArray c239)) rfl rfl (e241 (opndP_oo rfl (qc' rfl (qc' rfl (qc' rfl (qc' rfl qn')))))) ?_
       refine D2.lo rfl rfl (Lo.buildSlice (r := T_Item) (vs := [(.agg (List.toArray c239))]) (xs := [(Item.mk x194.Name [x194.Node] false true)]) el111 ze114 sz114 (by kernel_rfl) rfl (qc rfl qn) rfl (.cons f240 .nil) O236) ?_ (faL_bit (by decide) fa_nil) ?_ ?_
       ·rintro v244 H245 ⟨O242, sm243⟩; exact (faR1 (.inl (by decide)) (faR1 (.inl (by decide)) (faR1 (.inl (by decide)) fa_nil)))
       ·rintro v244 H245 ⟨O242, sm243⟩; exact (faR1 (.inl (by decide)) fa_nil)
       rintro v244 H245 ⟨O242, sm243⟩
       obtain ⟨es247, e248, e249⟩ := src_own (j := 0) rfl O242
       obtain ⟨g250, h251⟩ := gd_inv h234
       refine D2.lo rfl rfl (Lo.append (j := 3) (v := (σ181 3)) rfl rfl el111 ni111 ze114 sz114 by114 (by decide) (by decide) rfl e248 e249 g250 O242) ?_ (faL_bit (by decide) (faL_bit (by decide) fa_nil)) ?_ ?_
       ·rintro v253 H254 ⟨O246, sm252⟩; exact (faR1 (.inl (by decide)) (faR1 (.inl (by decide)) (faR1 (.inl (by decide)) fa_nil)))
       ·rintro v253 H254 ⟨O246, sm252⟩; exact (faR1 (.inl (by decide)) fa_nil)
       rintro v253 H254 ⟨O246, sm252⟩
       replace O246 : Ow G235 H254 (eSl v244 114 T_Item [(Item.mk x194.Name [x194.Node] false true)] :: eVar b202 65 T_Gen x194 :: eVar b2 48 T_Network p0 :: eSl v253 114 T_Item (x179 ++ [(Item.mk x194.Name [x194.Node] false true)]) :: L) := O246
       refine D2.pure (v := v253) rfl rfl (v_assign (oo rfl rfl)) ?_
       refine .nil ?_
       have O255 : Ow G235 H254 (eVar b202 65 T_Gen x194 :: eVar b2 48 T_Network p0 :: eSl v253 114 T_Item (x179 ++ [(Item.mk x194.Name [x194.Node] false true)]) :: L) := O246.drop 0
       have O256 : Ow G235 H254 (eVar b2 48 T_Network p0 :: eSl v253 114 T_Item (x179 ++ [(Item.mk x194.Name [x194.Node] false true)]) :: L) := O255.drop 0
       obtain rfl := Option.some.inj h251
       exact ⟨(x179 ++ [(Item.mk x194.Name [x194.Node] false true)]), _, rfl, O256, (GM.le.trans s226 s237)⟩
      ·have h257 := neg_b g232 h223
       refine D2.pure (v := (padd (.pointer (some ⟨b202, 0, none⟩)) 3)) (gk rfl rfl gv233 rfl) rfl (v_fldA fl65_3 (oo rfl rfl) (O225.atVar (j := 1) rfl)) ?_
       refine D2.load1' (v := (.int .i64 x194.Most)) (r := []) (gk rfl rfl gv233 rfl) rfl ag3 (pt_px rfl (At.int (At.proj (O225.atVar (j := 1) rfl) p_Gen_Most))) (faQ_bit (by decide) fa_nil) ?_
       refine D2.pure (v := (padd (.pointer (some ⟨b202, 0, none⟩)) 2)) (gk rfl rfl gv233 rfl) rfl (v_fldA fl65_2 (oo rfl rfl) (O225.atVar (j := 1) rfl)) ?_
       refine D2.load1' (v := (.int .i64 x194.Least)) (r := []) (gk rfl rfl gv233 rfl) rfl ag3 (pt_px rfl (At.int (At.proj (O225.atVar (j := 1) rfl) p_Gen_Least))) (faQ_bit (by decide) fa_nil) ?_
       obtain ⟨x258, i259, h260⟩ := bd_inv h257
       refine D2.lo (gk rfl rfl gv233 rfl) rfl (Lo.callP (ps := []) (ps' := []) rfl (fn := Try.f73) (by kernel_rfl) rfl (mc rfl (mc rfl (mc rfl mn))) O225 (fun L' O' => g_R_in_ok K x194.Most x194.Least 100000 O' _ i259)) ?_ (faL_bit (by decide) fa_nil) ?_ ?_
       ·rintro v267 H268 ⟨G261, O262, s263, sm266, rfl⟩; exact (faR1 (.inl (by decide)) (faR1 (.inl (by decide)) (faR1 (.inl (by decide)) (faR1 (.inr (sm266 _ (Or.inr ⟨1, _, rfl, List.mem_singleton.2 rfl⟩))) (faR1 (.inr (sm266 _ (Or.inr ⟨1, _, rfl, List.mem_singleton.2 rfl⟩))) fa_nil)))))
       ·rintro v267 H268 ⟨G261, O262, s263, sm266, rfl⟩; exact (faR1 (.inr (sm266 _ (Or.inr ⟨0, _, rfl, List.mem_singleton.2 rfl⟩))) fa_nil)
       rintro v267 H268 ⟨G261, O262, s263, sm266, rfl⟩
       replace O262 : Ow G261 H268 (eSl (.slice (some ⟨b216, 0, some 0⟩) 1 1) 9 rS [x194.Node] :: eVar b202 65 T_Gen x194 :: eVar b2 48 T_Network p0 :: eSl (σ181 3) 114 T_Item x179 :: L) := O262
       refine D2.pure (v := (.bool (!x258))) (gk rfl rfl gv233 rfl) rfl (bool_not (a := x258) (oo rfl rfl)) ?_
       refine D2.pure (v := (.bool (!x258))) rfl rfl (v_pickF (oo rfl gv233) (oo rfl rfl)) ?_
       refine D2.pure (v := (.bool (!x258))) rfl rfl (v_move (oo rfl rfl)) ?_
       refine D2.splitAt (t := 80) (b := (!x258)) rfl (fun g269 gv270 => ?_) (fun g269 gv270 => ?_)
       ·have h271 := pos_inv g269 h260
        refine D2.skip (gk rfl rfl gv270 rfl) rfl ?_
        refine D2.skip (gk rfl rfl gv270 rfl) rfl ?_
        refine D2.skip (gk rfl rfl gv270 rfl) rfl ?_
        refine D2.skip (gk rfl rfl gv270 rfl) rfl ?_
        refine D2.pure (v := (.bool true)) rfl rfl (v_pickT (oo rfl gv270) (oo rfl rfl)) ?_
        obtain ⟨G272, O273, s274, f275⟩ := O262.frzSl (j := 0) rfl
        replace O273 : Ow G272 H268 (eVar b202 65 T_Gen x194 :: eVar b2 48 T_Network p0 :: eSl (σ181 3) 114 T_Item x179 :: L) := O273
        obtain ⟨c276, e278, f277⟩ := bd_Item_0_1_2_3 ((.string x194.Name)) ((.slice (some ⟨b216, 0, some 0⟩) 1 1)) ((.bool false)) ((.bool true)) (rfl) ((sl_cells f275)) (rfl) (rfl)
        refine D2.pure (v := .agg (List.toArray c276)) rfl rfl (e278 (opndP_oo rfl (qc' rfl (qc' rfl (qc' rfl (qc' rfl qn')))))) ?_
        refine D2.lo rfl rfl (Lo.buildSlice (r := T_Item) (vs := [(.agg (List.toArray c276))]) (xs := [(Item.mk x194.Name [x194.Node] false true)]) el111 ze114 sz114 (by kernel_rfl) rfl (qc rfl qn) rfl (.cons f277 .nil) O273) ?_ (faL_bit (by decide) (faL_bit (by decide) fa_nil)) ?_ ?_
        ·rintro v281 H282 ⟨O279, sm280⟩; exact (faR1 (.inl (by decide)) (faR1 (.inl (by decide)) (faR1 (.inl (by decide)) (faR1 (.inl (by decide)) (faR1 (.inl (by decide)) fa_nil)))))
        ·rintro v281 H282 ⟨O279, sm280⟩; exact (faR1 (.inl (by decide)) fa_nil)
        rintro v281 H282 ⟨O279, sm280⟩
        obtain ⟨es284, e285, e286⟩ := src_own (j := 0) rfl O279
        obtain ⟨g287, h288⟩ := gd_inv h271
        refine D2.lo rfl rfl (Lo.append (j := 3) (v := (σ181 3)) rfl rfl el111 ni111 ze114 sz114 by114 (by decide) (by decide) rfl e285 e286 g287 O279) ?_ (faL_bit (by decide) (faL_bit (by decide) (faL_bit (by decide) fa_nil))) ?_ ?_
        ·rintro v290 H291 ⟨O283, sm289⟩; exact (faR1 (.inl (by decide)) (faR1 (.inl (by decide)) (faR1 (.inl (by decide)) (faR1 (.inl (by decide)) (faR1 (.inl (by decide)) fa_nil)))))
        ·rintro v290 H291 ⟨O283, sm289⟩; exact (faR1 (.inl (by decide)) fa_nil)
        rintro v290 H291 ⟨O283, sm289⟩
        replace O283 : Ow G272 H291 (eSl v281 114 T_Item [(Item.mk x194.Name [x194.Node] false true)] :: eVar b202 65 T_Gen x194 :: eVar b2 48 T_Network p0 :: eSl v290 114 T_Item (x179 ++ [(Item.mk x194.Name [x194.Node] false true)]) :: L) := O283
        refine D2.pure (v := v290) rfl rfl (v_assign (oo rfl rfl)) ?_
        refine .nil ?_
        have O292 : Ow G272 H291 (eVar b202 65 T_Gen x194 :: eVar b2 48 T_Network p0 :: eSl v290 114 T_Item (x179 ++ [(Item.mk x194.Name [x194.Node] false true)]) :: L) := O283.drop 0
        have O293 : Ow G272 H291 (eVar b2 48 T_Network p0 :: eSl v290 114 T_Item (x179 ++ [(Item.mk x194.Name [x194.Node] false true)]) :: L) := O292.drop 0
        obtain rfl := Option.some.inj h288
        exact ⟨(x179 ++ [(Item.mk x194.Name [x194.Node] false true)]), _, rfl, O293, (GM.le.trans s226 (GM.le.trans s263 s274))⟩
       ·have h294 := neg_b g269 h260
        refine D2.pure (v := (padd (.pointer (some ⟨b202, 0, none⟩)) 4)) (gk rfl rfl gv270 rfl) rfl (v_fldA fl65_4 (oo rfl rfl) (O262.atVar (j := 1) rfl)) ?_
        refine D2.load1' (v := (.int .i64 x194.Ramp)) (r := []) (gk rfl rfl gv270 rfl) rfl ag3 (pt_px rfl (At.int (At.proj (O262.atVar (j := 1) rfl) p_Gen_Ramp))) (faQ_bit (by decide) (faQ_bit (by decide) fa_nil)) ?_
        obtain ⟨x295, i296, h297⟩ := bd_inv h294
        refine D2.lo (gk rfl rfl gv270 rfl) rfl (Lo.callP (ps := []) (ps' := []) rfl (fn := Try.f73) (by kernel_rfl) rfl (mc rfl (mc rfl (mc rfl mn))) O262 (fun L' O' => g_R_in_ok K x194.Ramp 0 100000 O' _ i296)) ?_ (faL_bit (by decide) (faL_bit (by decide) fa_nil)) ?_ ?_
        ·rintro v304 H305 ⟨G298, O299, s300, sm303, rfl⟩; exact (faR1 (.inl (by decide)) (faR1 (.inl (by decide)) (faR1 (.inl (by decide)) (faR1 (.inl (by decide)) (faR1 (.inr (sm303 _ (Or.inr ⟨1, _, rfl, List.mem_singleton.2 rfl⟩))) (faR1 (.inr (sm303 _ (Or.inr ⟨1, _, rfl, List.mem_singleton.2 rfl⟩))) fa_nil))))))
        ·rintro v304 H305 ⟨G298, O299, s300, sm303, rfl⟩; exact (faR1 (.inr (sm303 _ (Or.inr ⟨0, _, rfl, List.mem_singleton.2 rfl⟩))) fa_nil)
        rintro v304 H305 ⟨G298, O299, s300, sm303, rfl⟩
        replace O299 : Ow G298 H305 (eSl (.slice (some ⟨b216, 0, some 0⟩) 1 1) 9 rS [x194.Node] :: eVar b202 65 T_Gen x194 :: eVar b2 48 T_Network p0 :: eSl (σ181 3) 114 T_Item x179 :: L) := O299
        refine D2.pure (v := (.bool (!x295))) (gk rfl rfl gv270 rfl) rfl (bool_not (a := x295) (oo rfl rfl)) ?_
        refine D2.pure (v := (.bool (!x295))) rfl rfl (v_pickF (oo rfl gv270) (oo rfl rfl)) ?_
        obtain ⟨G306, O307, s308, f309⟩ := O299.frzSl (j := 0) rfl
        replace O307 : Ow G306 H305 (eVar b202 65 T_Gen x194 :: eVar b2 48 T_Network p0 :: eSl (σ181 3) 114 T_Item x179 :: L) := O307
        obtain ⟨c310, e312, f311⟩ := bd_Item_0_1_2_3 ((.string x194.Name)) ((.slice (some ⟨b216, 0, some 0⟩) 1 1)) ((.bool false)) ((.bool (!x295))) (rfl) ((sl_cells f309)) (rfl) (rfl)
        refine D2.pure (v := .agg (List.toArray c310)) rfl rfl (e312 (opndP_oo rfl (qc' rfl (qc' rfl (qc' rfl (qc' rfl qn')))))) ?_
        refine D2.lo rfl rfl (Lo.buildSlice (r := T_Item) (vs := [(.agg (List.toArray c310))]) (xs := [(Item.mk x194.Name [x194.Node] false (!x295))]) el111 ze114 sz114 (by kernel_rfl) rfl (qc rfl qn) rfl (.cons f311 .nil) O307) ?_ (faL_bit (by decide) (faL_bit (by decide) (faL_bit (by decide) fa_nil))) ?_ ?_
        ·rintro v315 H316 ⟨O313, sm314⟩; exact (faR1 (.inl (by decide)) (faR1 (.inl (by decide)) (faR1 (.inl (by decide)) (faR1 (.inl (by decide)) (faR1 (.inl (by decide)) (faR1 (.inl (by decide)) fa_nil))))))
        ·rintro v315 H316 ⟨O313, sm314⟩; exact (faR1 (.inl (by decide)) fa_nil)
        rintro v315 H316 ⟨O313, sm314⟩
        obtain ⟨es318, e319, e320⟩ := src_own (j := 0) rfl O313
        obtain ⟨g321, h322⟩ := gd_inv h297
        refine D2.lo rfl rfl (Lo.append (j := 3) (v := (σ181 3)) rfl rfl el111 ni111 ze114 sz114 by114 (by decide) (by decide) rfl e319 e320 g321 O313) ?_ (faL_bit (by decide) (faL_bit (by decide) (faL_bit (by decide) (faL_bit (by decide) fa_nil)))) ?_ ?_
        ·rintro v324 H325 ⟨O317, sm323⟩; exact (faR1 (.inl (by decide)) (faR1 (.inl (by decide)) (faR1 (.inl (by decide)) (faR1 (.inl (by decide)) (faR1 (.inl (by decide)) (faR1 (.inl (by decide)) fa_nil))))))
        ·rintro v324 H325 ⟨O317, sm323⟩; exact (faR1 (.inl (by decide)) fa_nil)
        rintro v324 H325 ⟨O317, sm323⟩
        replace O317 : Ow G306 H325 (eSl v315 114 T_Item [(Item.mk x194.Name [x194.Node] false (!x295))] :: eVar b202 65 T_Gen x194 :: eVar b2 48 T_Network p0 :: eSl v324 114 T_Item (x179 ++ [(Item.mk x194.Name [x194.Node] false (!x295))]) :: L) := O317
        refine D2.pure (v := v324) rfl rfl (v_assign (oo rfl rfl)) ?_
        refine .nil ?_
        have O326 : Ow G306 H325 (eVar b202 65 T_Gen x194 :: eVar b2 48 T_Network p0 :: eSl v324 114 T_Item (x179 ++ [(Item.mk x194.Name [x194.Node] false (!x295))]) :: L) := O317.drop 0
        have O327 : Ow G306 H325 (eVar b2 48 T_Network p0 :: eSl v324 114 T_Item (x179 ++ [(Item.mk x194.Name [x194.Node] false (!x295))]) :: L) := O326.drop 0
        obtain rfl := Option.some.inj h322
        exact ⟨(x179 ++ [(Item.mk x194.Name [x194.Node] false (!x295))]), _, rfl, O327, (GM.le.trans s226 (GM.le.trans s263 (GM.le.trans s300 s308)))⟩
     ·rintro σ329 H330 fr331 ⟨x328, G332, rfl, O333, s334⟩
      have h336 := tu1_inv h193
      refine .region ?_
      refine W.pure (v := (.int .i64 (kwrap .i64 (x180 + 1)))) rfl rfl (v_int (oo rfl ((fr331 58 rfl).trans t188)) (oo rfl rfl) rfl) ?_
      refine W.pure (v := (.int .i64 (kwrap .i64 (x180 + 1)))) rfl rfl (v_move (oo rfl rfl)) ?_
      refine .nil ?_
      exact ⟨k178, Nat.lt_succ_self _, ⟨x328, kwrap .i64 (x180 + 1), _, h336, O333, (GM.le.trans s186 s334), rfl⟩⟩
    ·have h337 := neg_b g189 h187
     refine .exit ?_
     obtain rfl := Option.some.inj h337
     exact ⟨x179, _, rfl, O185, s186⟩
   ·rintro σ339 H340 fr341 ⟨x338, G342, rfl, O343, s344⟩
    have h346 := tu1_inv h177
    refine .seq ?_
    refine .seq ?_
    refine .region ?_
    refine W.pure (v := (padd (.pointer (some ⟨b2, 0, none⟩)) 4)) rfl rfl (v_fldA fl48_4 (oo rfl ((fr341 1 rfl).trans ((fr166 1 rfl).trans ((fr74 1 rfl).trans rfl)))) (O343.atVar (j := 0) rfl)) ?_
    obtain ⟨w347, p348, f349⟩ := At.sl (At.proj (O343.atVar (j := 0) rfl) p_Network_Loads)
    refine W.load1 (v := w347) (r := []) rfl rfl ag45 (pt_px rfl p348) ?_
    refine W.pure (v := (.int .i64 (List.length p0.Loads : Int))) rfl rfl (len_sl (oo rfl rfl) (sl_len f349) (elemT_inv el45)) ?_
    refine W.pure (v := (.int .i64 0)) rfl rfl (v_move (oo rfl rfl)) ?_
    refine .nil ?_
    obtain ⟨q350, h351, h352⟩ := bd_inv h346
    refine AW.midT (fun σ' H' => ∃ (y1 : List Item) (G' : GM), y1 = q350 ∧ Ow G' H' (eVar b2 48 T_Network p0 :: eSl (σ' 3) 114 T_Item y1 :: L) ∧ GM.le G342 G') ?_ ?_
    ·refine .block ?_
     refine AW.loop (α := Nat) (fun k' σ' H' => ∃ (y1 : List Item) (y2 : Int) (G' : GM), g_R_items_l6 K p0 k' y1 y2 = some q350 ∧ Ow G' H' (eVar b2 48 T_Network p0 :: eSl (σ' 3) 114 T_Item y1 :: L) ∧ GM.le G342 G' ∧ σ' 93 = .int .i64 y2) (fun k' => k') K ⟨x338, 0, _, h351, O343, (GM.le.refl _), rfl⟩ ?_
     rintro k353
     rintro σ356 H357 fr358 ⟨x354, x355, G359, h362, O360, s361, t363⟩
     rcases k353 with _ | k353
     ·exact none_absurd h362
     rw [g_R_items_l6] at h362
     refine .seq ?_
     refine .region ?_
     refine W.pure (v := (.bool (decide (x355 < (List.length p0.Loads : Int))))) rfl rfl (v_int (oo rfl t363) (oo rfl ((fr358 92 rfl).trans rfl)) rfl) ?_
     refine .nil ?_
     refine .seq ?_
     refine .cond (b := decide (x355 < (List.length p0.Loads : Int))) rfl rfl (fun g364 => ?_) (fun g364 => ?_)
     ·have h365 := pos_inv g364 h362
      refine .skip ?_
      refine .seq ?_
      refine .block ?_
      refine .seq ?_
      refine .region ?_
      obtain ⟨x366, i367, h368⟩ := bd_inv h365
      have j369 := idx_inv i367
      refine W.pure (v := (selem w347 (Int.toNat x355 * 3))) rfl rfl (v_idx el45 sz137 (oo rfl ((fr358 91 rfl).trans rfl)) (oo rfl t363) (sl_len (RT.mono _ s361 f349)) j369.1 j369.2.1) ?_
      obtain ⟨c370, p371, f372⟩ := (At.le (At.le (sl_idx f349 j369.2.2) s361 s361) (GM.le.refl _) O360.fro)
      refine W.loadA (cs := c370) rfl rfl ag137 sz137 (pt_px rfl p371) (RT.len _ f372) ?_
      refine W.lo rfl rfl (Lo.alloc (r := T_Load_) (x0 := (Load_.mk ByteArray.empty ByteArray.empty 0)) ze137 (by kernel_rfl) z_Load_ O360) ?_
      rintro v376 H377 ⟨b374, rfl, O373, sm375⟩
      refine W.lo rfl rfl (Lo.storeVar (j := 0) (s := T_Load_) (y0 := x366) (v := (.agg (List.toArray c370))) (o := 0) rfl ((Put.at (Put.self _) _ _)) rfl sz137 rfl (by omega) rfl f372 O373) ?_
      rintro v380 H381 ⟨O378, sm379⟩
      replace O378 : Ow G359 H381 (eVar b374 137 T_Load_ x366 :: eVar b2 48 T_Network p0 :: eSl (σ356 3) 114 T_Item x354 :: L) := O378
      refine .nil ?_
      refine .draw2 (M := [0, 0, 2, 0, 8, 24, 0, 64, 192, 448, 1022, 2046, 4095, 8191]) mixed (by kernel_rfl) (by kernel_rfl) fun H382 N386 x383 F385 => ?_
      have O384 := O378.ext x383
      refine D2.pure (v := (σ356 3)) rfl rfl (v_move (oo rfl rfl)) ?_
      refine D2.pure (v := (padd (.pointer (some ⟨b374, 0, none⟩)) 0)) rfl rfl (v_fldA fl137_0 (oo rfl rfl) (O384.atVar (j := 0) rfl)) ?_
      refine D2.load1' (v := (.string x366.Name)) (r := []) rfl rfl ag9 (pt_px rfl (At.str (At.proj (O384.atVar (j := 0) rfl) p_Load__Name))) fa_nil ?_
      refine D2.pure (v := (padd (.pointer (some ⟨b374, 0, none⟩)) 1)) rfl rfl (v_fldA fl137_1 (oo rfl rfl) (O384.atVar (j := 0) rfl)) ?_
      refine D2.load1' (v := (.string x366.Node)) (r := []) rfl rfl ag9 (pt_px rfl (At.str (At.proj (O384.atVar (j := 0) rfl) p_Load__Node))) fa_nil ?_
      refine D2.alloc (m := 14) rfl rfl (Al.buildSlice (r := rS) (vs := [(.string x366.Node)]) (xs := [x366.Node]) el41 ze9 sz9 (by kernel_rfl) rfl (qc rfl qn) rfl (.cons rfl .nil)) (Free.up (by decide) F385) (by decide) O384 ?_
      rintro b388 H389 ⟨O390, sm391, F392⟩
      refine D2.pure (v := (padd (.pointer (some ⟨b374, 0, none⟩)) 2)) rfl rfl (v_fldA fl137_2 (oo rfl rfl) (O390.atVar (j := 1) rfl)) ?_
      refine D2.load1' (v := (.int .i64 x366.Demand)) (r := []) rfl rfl ag3 (pt_px rfl (At.int (At.proj (O390.atVar (j := 1) rfl) p_Load__Demand))) fa_nil ?_
      obtain ⟨x393, i394, h395⟩ := bd_inv h368
      refine D2.lo rfl rfl (Lo.callP (ps := []) (ps' := []) rfl (fn := Try.f73) (by kernel_rfl) rfl (mc rfl (mc rfl (mc rfl mn))) O390 (fun L' O' => g_R_in_ok K x366.Demand 0 100000 O' _ i394)) ?_ fa_nil ?_ ?_
      ·rintro v402 H403 ⟨G396, O397, s398, sm401, rfl⟩; exact (faR1 (.inl (by decide)) (faR1 (.inr (sm401 _ (Or.inr ⟨1, _, rfl, List.mem_singleton.2 rfl⟩))) (faR1 (.inr (sm401 _ (Or.inr ⟨1, _, rfl, List.mem_singleton.2 rfl⟩))) fa_nil)))
      ·rintro v402 H403 ⟨G396, O397, s398, sm401, rfl⟩; exact (faR1 (.inr (sm401 _ (Or.inr ⟨0, _, rfl, List.mem_singleton.2 rfl⟩))) fa_nil)
      rintro v402 H403 ⟨G396, O397, s398, sm401, rfl⟩
      replace O397 : Ow G396 H403 (eSl (.slice (some ⟨b388, 0, some 0⟩) 1 1) 9 rS [x366.Node] :: eVar b374 137 T_Load_ x366 :: eVar b2 48 T_Network p0 :: eSl (σ356 3) 114 T_Item x354 :: L) := O397
      refine D2.pure (v := (.bool (!x393))) rfl rfl (bool_not (a := x393) (oo rfl rfl)) ?_
      obtain ⟨G404, O405, s406, f407⟩ := O397.frzSl (j := 0) rfl
      replace O405 : Ow G404 H403 (eVar b374 137 T_Load_ x366 :: eVar b2 48 T_Network p0 :: eSl (σ356 3) 114 T_Item x354 :: L) := O405
      obtain ⟨c408, e410, f409⟩ := bd_Item_0_1_2_3 ((.string x366.Name)) ((.slice (some ⟨b388, 0, some 0⟩) 1 1)) ((.bool false)) ((.bool (!x393))) (rfl) ((sl_cells f407)) (rfl) (rfl)
      refine D2.pure (v := .agg (List.toArray c408)) rfl rfl (e410 (opndP_oo rfl (qc' rfl (qc' rfl (qc' rfl (qc' rfl qn')))))) ?_
      refine D2.lo rfl rfl (Lo.buildSlice (r := T_Item) (vs := [(.agg (List.toArray c408))]) (xs := [(Item.mk x366.Name [x366.Node] false (!x393))]) el111 ze114 sz114 (by kernel_rfl) rfl (qc rfl qn) rfl (.cons f409 .nil) O405) ?_ (faL_bit (by decide) fa_nil) ?_ ?_
      ·rintro v413 H414 ⟨O411, sm412⟩; exact (faR1 (.inl (by decide)) (faR1 (.inl (by decide)) (faR1 (.inl (by decide)) fa_nil)))
      ·rintro v413 H414 ⟨O411, sm412⟩; exact (faR1 (.inl (by decide)) fa_nil)
      rintro v413 H414 ⟨O411, sm412⟩
      obtain ⟨es416, e417, e418⟩ := src_own (j := 0) rfl O411
      obtain ⟨g419, h420⟩ := gd_inv h395
      refine D2.lo rfl rfl (Lo.append (j := 3) (v := (σ356 3)) rfl rfl el111 ni111 ze114 sz114 by114 (by decide) (by decide) rfl e417 e418 g419 O411) ?_ (faL_bit (by decide) (faL_bit (by decide) fa_nil)) ?_ ?_
      ·rintro v422 H423 ⟨O415, sm421⟩; exact (faR1 (.inl (by decide)) (faR1 (.inl (by decide)) (faR1 (.inl (by decide)) fa_nil)))
      ·rintro v422 H423 ⟨O415, sm421⟩; exact (faR1 (.inl (by decide)) fa_nil)
      rintro v422 H423 ⟨O415, sm421⟩
      replace O415 : Ow G404 H423 (eSl v413 114 T_Item [(Item.mk x366.Name [x366.Node] false (!x393))] :: eVar b374 137 T_Load_ x366 :: eVar b2 48 T_Network p0 :: eSl v422 114 T_Item (x354 ++ [(Item.mk x366.Name [x366.Node] false (!x393))]) :: L) := O415
      refine D2.pure (v := v422) rfl rfl (v_assign (oo rfl rfl)) ?_
      refine .nil ?_
      refine .region ?_
      refine W.pure (v := (.int .i64 (kwrap .i64 (x355 + 1)))) rfl rfl (v_int (oo rfl t363) (oo rfl rfl) rfl) ?_
      refine W.pure (v := (.int .i64 (kwrap .i64 (x355 + 1)))) rfl rfl (v_move (oo rfl rfl)) ?_
      refine .nil ?_
      have O424 : Ow G404 H423 (eVar b374 137 T_Load_ x366 :: eVar b2 48 T_Network p0 :: eSl v422 114 T_Item (x354 ++ [(Item.mk x366.Name [x366.Node] false (!x393))]) :: L) := O415.drop 0
      have O425 : Ow G404 H423 (eVar b2 48 T_Network p0 :: eSl v422 114 T_Item (x354 ++ [(Item.mk x366.Name [x366.Node] false (!x393))]) :: L) := O424.drop 0
      exact ⟨k353, Nat.lt_succ_self _, ⟨(x354 ++ [(Item.mk x366.Name [x366.Node] false (!x393))]), kwrap .i64 (x355 + 1), _, h420, O425, (GM.le.trans s361 (GM.le.trans s398 s406)), rfl⟩⟩
     ·have h426 := neg_b g364 h362
      refine .exit ?_
      obtain rfl := Option.some.inj h426
      exact ⟨x354, _, rfl, O360, s361⟩
    ·rintro σ428 H429 fr430 ⟨x427, G431, rfl, O432, s433⟩
     have h435 := tu1_inv h352
     refine .seq ?_
     refine .seq ?_
     refine .region ?_
     refine W.pure (v := (padd (.pointer (some ⟨b2, 0, none⟩)) 5)) rfl rfl (v_fldA fl48_5 (oo rfl ((fr430 1 rfl).trans ((fr341 1 rfl).trans ((fr166 1 rfl).trans ((fr74 1 rfl).trans rfl))))) (O432.atVar (j := 0) rfl)) ?_
     obtain ⟨w436, p437, f438⟩ := At.sl (At.proj (O432.atVar (j := 0) rfl) p_Network_Stores)
     refine W.load1 (v := w436) (r := []) rfl rfl ag46 (pt_px rfl p437) ?_
     refine W.pure (v := (.int .i64 (List.length p0.Stores : Int))) rfl rfl (len_sl (oo rfl rfl) (sl_len f438) (elemT_inv el46)) ?_
     refine W.pure (v := (.int .i64 0)) rfl rfl (v_move (oo rfl rfl)) ?_
     refine .nil ?_
     obtain ⟨q439, h440, h441⟩ := bd_inv h435
     refine AW.midT (fun σ' H' => ∃ (y1 : List Item) (G' : GM), y1 = q439 ∧ Ow G' H' (eVar b2 48 T_Network p0 :: eSl (σ' 3) 114 T_Item y1 :: L) ∧ GM.le G431 G') ?_ ?_
     ·refine .block ?_
      refine AW.loop (α := Nat) (fun k' σ' H' => ∃ (y1 : List Item) (y2 : Int) (G' : GM), g_R_items_l8 K p0 k' y1 y2 = some q439 ∧ Ow G' H' (eVar b2 48 T_Network p0 :: eSl (σ' 3) 114 T_Item y1 :: L) ∧ GM.le G431 G' ∧ σ' 114 = .int .i64 y2) (fun k' => k') K ⟨x427, 0, _, h440, O432, (GM.le.refl _), rfl⟩ ?_
      rintro k442
      rintro σ445 H446 fr447 ⟨x443, x444, G448, h451, O449, s450, t452⟩
      rcases k442 with _ | k442
      ·exact none_absurd h451
      rw [g_R_items_l8] at h451
      refine .seq ?_
      refine .region ?_
      refine W.pure (v := (.bool (decide (x444 < (List.length p0.Stores : Int))))) rfl rfl (v_int (oo rfl t452) (oo rfl ((fr447 113 rfl).trans rfl)) rfl) ?_
      refine .nil ?_
      refine .seq ?_
      refine .cond (b := decide (x444 < (List.length p0.Stores : Int))) rfl rfl (fun g453 => ?_) (fun g453 => ?_)
      ·have h454 := pos_inv g453 h451
       refine .skip ?_
       refine .seq ?_
       obtain ⟨q455, h456, h457⟩ := bd_inv h454
       refine AW.midT (fun σ' H' => ∃ (y1 : List Item) (G' : GM), y1 = q455 ∧ Ow G' H' (eVar b2 48 T_Network p0 :: eSl (σ' 3) 114 T_Item y1 :: L) ∧ GM.le G448 G') ?_ ?_
       ·refine .block ?_
        refine .seq ?_
        refine .region ?_
        obtain ⟨x458, i459, h460⟩ := bd_inv h456
        have j461 := idx_inv i459
        refine W.pure (v := (selem w436 (Int.toNat x444 * 5))) rfl rfl (v_idx el46 sz69 (oo rfl ((fr447 112 rfl).trans rfl)) (oo rfl t452) (sl_len (RT.mono _ s450 f438)) j461.1 j461.2.1) ?_
        obtain ⟨c462, p463, f464⟩ := (At.le (At.le (sl_idx f438 j461.2.2) s450 s450) (GM.le.refl _) O449.fro)
        refine W.loadA (cs := c462) rfl rfl ag69 sz69 (pt_px rfl p463) (RT.len _ f464) ?_
        refine W.lo rfl rfl (Lo.alloc (r := T_Store) (x0 := (Store.mk ByteArray.empty ByteArray.empty 0 0 0)) ze69 (by kernel_rfl) z_Store O449) ?_
        rintro v468 H469 ⟨b466, rfl, O465, sm467⟩
        refine W.lo rfl rfl (Lo.storeVar (j := 0) (s := T_Store) (y0 := x458) (v := (.agg (List.toArray c462))) (o := 0) rfl ((Put.at (Put.self _) _ _)) rfl sz69 rfl (by omega) rfl f464 O465) ?_
        rintro v472 H473 ⟨O470, sm471⟩
        replace O470 : Ow G448 H473 (eVar b466 69 T_Store x458 :: eVar b2 48 T_Network p0 :: eSl (σ445 3) 114 T_Item x443 :: L) := O470
        refine .nil ?_
        refine .draw2 (M := [0, 0, 2, 0, 8, 24, 0, 64, 192, 448, 960, 1984, 4032, 8128, 16320, 32704, 65472, 131008, 262080, 524224, 1048512, 2097088, 4194302, 8388606, 16777215, 33554431]) mixed (by kernel_rfl) (by kernel_rfl) fun H474 N478 x475 F477 => ?_
        have O476 := O470.ext x475
        refine D2.pure (v := (σ445 3)) rfl rfl (v_move (oo rfl rfl)) ?_
        refine D2.pure (v := (padd (.pointer (some ⟨b466, 0, none⟩)) 0)) rfl rfl (v_fldA fl69_0 (oo rfl rfl) (O476.atVar (j := 0) rfl)) ?_
        refine D2.load1' (v := (.string x458.Name)) (r := []) rfl rfl ag9 (pt_px rfl (At.str (At.proj (O476.atVar (j := 0) rfl) p_Store_Name))) fa_nil ?_
        refine D2.pure (v := (padd (.pointer (some ⟨b466, 0, none⟩)) 1)) rfl rfl (v_fldA fl69_1 (oo rfl rfl) (O476.atVar (j := 0) rfl)) ?_
        refine D2.load1' (v := (.string x458.Node)) (r := []) rfl rfl ag9 (pt_px rfl (At.str (At.proj (O476.atVar (j := 0) rfl) p_Store_Node))) fa_nil ?_
        refine D2.alloc (m := 26) rfl rfl (Al.buildSlice (r := rS) (vs := [(.string x458.Node)]) (xs := [x458.Node]) el41 ze9 sz9 (by kernel_rfl) rfl (qc rfl qn) rfl (.cons rfl .nil)) (Free.up (by decide) F477) (by decide) O476 ?_
        rintro b480 H481 ⟨O482, sm483, F484⟩
        refine D2.pure (v := (padd (.pointer (some ⟨b466, 0, none⟩)) 2)) rfl rfl (v_fldA fl69_2 (oo rfl rfl) (O482.atVar (j := 1) rfl)) ?_
        refine D2.load1' (v := (.int .i64 x458.Charge)) (r := []) rfl rfl ag3 (pt_px rfl (At.int (At.proj (O482.atVar (j := 1) rfl) p_Store_Charge))) fa_nil ?_
        obtain ⟨x485, i486, h487⟩ := bd_inv h460
        refine D2.lo rfl rfl (Lo.callP (ps := []) (ps' := []) rfl (fn := Try.f73) (by kernel_rfl) rfl (mc rfl (mc rfl (mc rfl mn))) O482 (fun L' O' => g_R_in_ok K x458.Charge 0 100000 O' _ i486)) ?_ fa_nil ?_ ?_
        ·rintro v494 H495 ⟨G488, O489, s490, sm493, rfl⟩; exact (faR1 (.inl (by decide)) (faR1 (.inr (sm493 _ (Or.inr ⟨1, _, rfl, List.mem_singleton.2 rfl⟩))) (faR1 (.inr (sm493 _ (Or.inr ⟨1, _, rfl, List.mem_singleton.2 rfl⟩))) fa_nil)))
        ·rintro v494 H495 ⟨G488, O489, s490, sm493, rfl⟩; exact (faR1 (.inr (sm493 _ (Or.inr ⟨0, _, rfl, List.mem_singleton.2 rfl⟩))) fa_nil)
        rintro v494 H495 ⟨G488, O489, s490, sm493, rfl⟩
        replace O489 : Ow G488 H495 (eSl (.slice (some ⟨b480, 0, some 0⟩) 1 1) 9 rS [x458.Node] :: eVar b466 69 T_Store x458 :: eVar b2 48 T_Network p0 :: eSl (σ445 3) 114 T_Item x443 :: L) := O489
        refine D2.pure (v := (.bool (!x485))) rfl rfl (bool_not (a := x485) (oo rfl rfl)) ?_
        refine D2.pure (v := (.bool (!x485))) rfl rfl (v_move (oo rfl rfl)) ?_
        refine D2.splitAt (t := 128) (b := (!x485)) rfl (fun g496 gv497 => ?_) (fun g496 gv497 => ?_)
        ·have h498 := pos_inv g496 h487
         refine D2.skip (gk rfl rfl gv497 rfl) rfl ?_
         refine D2.skip (gk rfl rfl gv497 rfl) rfl ?_
         refine D2.skip (gk rfl rfl gv497 rfl) rfl ?_
         refine D2.skip (gk rfl rfl gv497 rfl) rfl ?_
         refine D2.pure (v := (.bool true)) rfl rfl (v_pickT (oo rfl gv497) (oo rfl rfl)) ?_
         refine D2.pure (v := (.bool true)) rfl rfl (v_move (oo rfl rfl)) ?_
         refine D2.skip (gk rfl rfl rfl rfl) rfl ?_
         refine D2.skip (gk rfl rfl rfl rfl) rfl ?_
         refine D2.skip (gk rfl rfl rfl rfl) rfl ?_
         refine D2.skip (gk rfl rfl rfl rfl) rfl ?_
         refine D2.pure (v := (.bool true)) rfl rfl (v_pickT (oo rfl rfl) (oo rfl rfl)) ?_
         obtain ⟨G499, O500, s501, f502⟩ := O489.frzSl (j := 0) rfl
         replace O500 : Ow G499 H495 (eVar b466 69 T_Store x458 :: eVar b2 48 T_Network p0 :: eSl (σ445 3) 114 T_Item x443 :: L) := O500
         obtain ⟨c503, e505, f504⟩ := bd_Item_0_1_2_3 ((.string x458.Name)) ((.slice (some ⟨b480, 0, some 0⟩) 1 1)) ((.bool false)) ((.bool true)) (rfl) ((sl_cells f502)) (rfl) (rfl)
         refine D2.pure (v := .agg (List.toArray c503)) rfl rfl (e505 (opndP_oo rfl (qc' rfl (qc' rfl (qc' rfl (qc' rfl qn')))))) ?_
         refine D2.lo rfl rfl (Lo.buildSlice (r := T_Item) (vs := [(.agg (List.toArray c503))]) (xs := [(Item.mk x458.Name [x458.Node] false true)]) el111 ze114 sz114 (by kernel_rfl) rfl (qc rfl qn) rfl (.cons f504 .nil) O500) ?_ (faL_bit (by decide) fa_nil) ?_ ?_
         ·rintro v508 H509 ⟨O506, sm507⟩; exact (faR1 (.inl (by decide)) (faR1 (.inl (by decide)) (faR1 (.inl (by decide)) fa_nil)))
         ·rintro v508 H509 ⟨O506, sm507⟩; exact (faR1 (.inl (by decide)) fa_nil)
         rintro v508 H509 ⟨O506, sm507⟩
         obtain ⟨es511, e512, e513⟩ := src_own (j := 0) rfl O506
         obtain ⟨g514, h515⟩ := gd_inv h498
         refine D2.lo rfl rfl (Lo.append (j := 3) (v := (σ445 3)) rfl rfl el111 ni111 ze114 sz114 by114 (by decide) (by decide) rfl e512 e513 g514 O506) ?_ (faL_bit (by decide) (faL_bit (by decide) fa_nil)) ?_ ?_
         ·rintro v517 H518 ⟨O510, sm516⟩; exact (faR1 (.inl (by decide)) (faR1 (.inl (by decide)) (faR1 (.inl (by decide)) fa_nil)))
         ·rintro v517 H518 ⟨O510, sm516⟩; exact (faR1 (.inl (by decide)) fa_nil)
         rintro v517 H518 ⟨O510, sm516⟩
         replace O510 : Ow G499 H518 (eSl v508 114 T_Item [(Item.mk x458.Name [x458.Node] false true)] :: eVar b466 69 T_Store x458 :: eVar b2 48 T_Network p0 :: eSl v517 114 T_Item (x443 ++ [(Item.mk x458.Name [x458.Node] false true)]) :: L) := O510
         refine D2.pure (v := v517) rfl rfl (v_assign (oo rfl rfl)) ?_
         refine .nil ?_
         have O519 : Ow G499 H518 (eVar b466 69 T_Store x458 :: eVar b2 48 T_Network p0 :: eSl v517 114 T_Item (x443 ++ [(Item.mk x458.Name [x458.Node] false true)]) :: L) := O510.drop 0
         have O520 : Ow G499 H518 (eVar b2 48 T_Network p0 :: eSl v517 114 T_Item (x443 ++ [(Item.mk x458.Name [x458.Node] false true)]) :: L) := O519.drop 0
         obtain rfl := Option.some.inj h515
         exact ⟨(x443 ++ [(Item.mk x458.Name [x458.Node] false true)]), _, rfl, O520, (GM.le.trans s490 s501)⟩
        ·have h521 := neg_b g496 h487
         refine D2.pure (v := (padd (.pointer (some ⟨b466, 0, none⟩)) 3)) (gk rfl rfl gv497 rfl) rfl (v_fldA fl69_3 (oo rfl rfl) (O489.atVar (j := 1) rfl)) ?_
         refine D2.load1' (v := (.int .i64 x458.Discharge)) (r := []) (gk rfl rfl gv497 rfl) rfl ag3 (pt_px rfl (At.int (At.proj (O489.atVar (j := 1) rfl) p_Store_Discharge))) (faQ_bit (by decide) fa_nil) ?_
         obtain ⟨x522, i523, h524⟩ := bd_inv h521
         refine D2.lo (gk rfl rfl gv497 rfl) rfl (Lo.callP (ps := []) (ps' := []) rfl (fn := Try.f73) (by kernel_rfl) rfl (mc rfl (mc rfl (mc rfl mn))) O489 (fun L' O' => g_R_in_ok K x458.Discharge 0 100000 O' _ i523)) ?_ (faL_bit (by decide) fa_nil) ?_ ?_
         ·rintro v531 H532 ⟨G525, O526, s527, sm530, rfl⟩; exact (faR1 (.inl (by decide)) (faR1 (.inl (by decide)) (faR1 (.inr (sm530 _ (Or.inr ⟨1, _, rfl, List.mem_singleton.2 rfl⟩))) (faR1 (.inr (sm530 _ (Or.inr ⟨1, _, rfl, List.mem_singleton.2 rfl⟩))) fa_nil))))
         ·rintro v531 H532 ⟨G525, O526, s527, sm530, rfl⟩; exact (faR1 (.inr (sm530 _ (Or.inr ⟨0, _, rfl, List.mem_singleton.2 rfl⟩))) fa_nil)
         rintro v531 H532 ⟨G525, O526, s527, sm530, rfl⟩
         replace O526 : Ow G525 H532 (eSl (.slice (some ⟨b480, 0, some 0⟩) 1 1) 9 rS [x458.Node] :: eVar b466 69 T_Store x458 :: eVar b2 48 T_Network p0 :: eSl (σ445 3) 114 T_Item x443 :: L) := O526
         refine D2.pure (v := (.bool (!x522))) (gk rfl rfl gv497 rfl) rfl (bool_not (a := x522) (oo rfl rfl)) ?_
         refine D2.pure (v := (.bool (!x522))) rfl rfl (v_pickF (oo rfl gv497) (oo rfl rfl)) ?_
         refine D2.pure (v := (.bool (!x522))) rfl rfl (v_move (oo rfl rfl)) ?_
         refine D2.splitAt (t := 134) (b := (!x522)) rfl (fun g533 gv534 => ?_) (fun g533 gv534 => ?_)
         ·have h535 := pos_inv g533 h524
          refine D2.skip (gk rfl rfl gv534 rfl) rfl ?_
          refine D2.skip (gk rfl rfl gv534 rfl) rfl ?_
          refine D2.skip (gk rfl rfl gv534 rfl) rfl ?_
          refine D2.skip (gk rfl rfl gv534 rfl) rfl ?_
          refine D2.pure (v := (.bool true)) rfl rfl (v_pickT (oo rfl gv534) (oo rfl rfl)) ?_
          obtain ⟨G536, O537, s538, f539⟩ := O526.frzSl (j := 0) rfl
          replace O537 : Ow G536 H532 (eVar b466 69 T_Store x458 :: eVar b2 48 T_Network p0 :: eSl (σ445 3) 114 T_Item x443 :: L) := O537
          obtain ⟨c540, e542, f541⟩ := bd_Item_0_1_2_3 ((.string x458.Name)) ((.slice (some ⟨b480, 0, some 0⟩) 1 1)) ((.bool false)) ((.bool true)) (rfl) ((sl_cells f539)) (rfl) (rfl)
          refine D2.pure (v := .agg (List.toArray c540)) rfl rfl (e542 (opndP_oo rfl (qc' rfl (qc' rfl (qc' rfl (qc' rfl qn')))))) ?_
          refine D2.lo rfl rfl (Lo.buildSlice (r := T_Item) (vs := [(.agg (List.toArray c540))]) (xs := [(Item.mk x458.Name [x458.Node] false true)]) el111 ze114 sz114 (by kernel_rfl) rfl (qc rfl qn) rfl (.cons f541 .nil) O537) ?_ (faL_bit (by decide) (faL_bit (by decide) fa_nil)) ?_ ?_
          ·rintro v545 H546 ⟨O543, sm544⟩; exact (faR1 (.inl (by decide)) (faR1 (.inl (by decide)) (faR1 (.inl (by decide)) (faR1 (.inl (by decide)) fa_nil))))
          ·rintro v545 H546 ⟨O543, sm544⟩; exact (faR1 (.inl (by decide)) fa_nil)
          rintro v545 H546 ⟨O543, sm544⟩
          obtain ⟨es548, e549, e550⟩ := src_own (j := 0) rfl O543
          obtain ⟨g551, h552⟩ := gd_inv h535
          refine D2.lo rfl rfl (Lo.append (j := 3) (v := (σ445 3)) rfl rfl el111 ni111 ze114 sz114 by114 (by decide) (by decide) rfl e549 e550 g551 O543) ?_ (faL_bit (by decide) (faL_bit (by decide) (faL_bit (by decide) fa_nil))) ?_ ?_
          ·rintro v554 H555 ⟨O547, sm553⟩; exact (faR1 (.inl (by decide)) (faR1 (.inl (by decide)) (faR1 (.inl (by decide)) (faR1 (.inl (by decide)) fa_nil))))
          ·rintro v554 H555 ⟨O547, sm553⟩; exact (faR1 (.inl (by decide)) fa_nil)
          rintro v554 H555 ⟨O547, sm553⟩
          replace O547 : Ow G536 H555 (eSl v545 114 T_Item [(Item.mk x458.Name [x458.Node] false true)] :: eVar b466 69 T_Store x458 :: eVar b2 48 T_Network p0 :: eSl v554 114 T_Item (x443 ++ [(Item.mk x458.Name [x458.Node] false true)]) :: L) := O547
          refine D2.pure (v := v554) rfl rfl (v_assign (oo rfl rfl)) ?_
          refine .nil ?_
          have O556 : Ow G536 H555 (eVar b466 69 T_Store x458 :: eVar b2 48 T_Network p0 :: eSl v554 114 T_Item (x443 ++ [(Item.mk x458.Name [x458.Node] false true)]) :: L) := O547.drop 0
          have O557 : Ow G536 H555 (eVar b2 48 T_Network p0 :: eSl v554 114 T_Item (x443 ++ [(Item.mk x458.Name [x458.Node] false true)]) :: L) := O556.drop 0
          obtain rfl := Option.some.inj h552
          exact ⟨(x443 ++ [(Item.mk x458.Name [x458.Node] false true)]), _, rfl, O557, (GM.le.trans s490 (GM.le.trans s527 s538))⟩
         ·have h558 := neg_b g533 h524
          refine D2.pure (v := (padd (.pointer (some ⟨b466, 0, none⟩)) 4)) (gk rfl rfl gv534 rfl) rfl (v_fldA fl69_4 (oo rfl rfl) (O526.atVar (j := 1) rfl)) ?_
          refine D2.load1' (v := (.int .i64 x458.Capacity)) (r := []) (gk rfl rfl gv534 rfl) rfl ag3 (pt_px rfl (At.int (At.proj (O526.atVar (j := 1) rfl) p_Store_Capacity))) (faQ_bit (by decide) (faQ_bit (by decide) fa_nil)) ?_
          obtain ⟨x559, i560, h561⟩ := bd_inv h558
          refine D2.lo (gk rfl rfl gv534 rfl) rfl (Lo.callP (ps := []) (ps' := []) rfl (fn := Try.f73) (by kernel_rfl) rfl (mc rfl (mc rfl (mc rfl mn))) O526 (fun L' O' => g_R_in_ok K x458.Capacity 0 100000 O' _ i560)) ?_ (faL_bit (by decide) (faL_bit (by decide) fa_nil)) ?_ ?_
          ·rintro v568 H569 ⟨G562, O563, s564, sm567, rfl⟩; exact (faR1 (.inl (by decide)) (faR1 (.inl (by decide)) (faR1 (.inl (by decide)) (faR1 (.inr (sm567 _ (Or.inr ⟨1, _, rfl, List.mem_singleton.2 rfl⟩))) (faR1 (.inr (sm567 _ (Or.inr ⟨1, _, rfl, List.mem_singleton.2 rfl⟩))) fa_nil)))))
          ·rintro v568 H569 ⟨G562, O563, s564, sm567, rfl⟩; exact (faR1 (.inr (sm567 _ (Or.inr ⟨0, _, rfl, List.mem_singleton.2 rfl⟩))) fa_nil)
          rintro v568 H569 ⟨G562, O563, s564, sm567, rfl⟩
          replace O563 : Ow G562 H569 (eSl (.slice (some ⟨b480, 0, some 0⟩) 1 1) 9 rS [x458.Node] :: eVar b466 69 T_Store x458 :: eVar b2 48 T_Network p0 :: eSl (σ445 3) 114 T_Item x443 :: L) := O563
          refine D2.pure (v := (.bool (!x559))) (gk rfl rfl gv534 rfl) rfl (bool_not (a := x559) (oo rfl rfl)) ?_
          refine D2.pure (v := (.bool (!x559))) rfl rfl (v_pickF (oo rfl gv534) (oo rfl rfl)) ?_
          obtain ⟨G570, O571, s572, f573⟩ := O563.frzSl (j := 0) rfl
          replace O571 : Ow G570 H569 (eVar b466 69 T_Store x458 :: eVar b2 48 T_Network p0 :: eSl (σ445 3) 114 T_Item x443 :: L) := O571
          obtain ⟨c574, e576, f575⟩ := bd_Item_0_1_2_3 ((.string x458.Name)) ((.slice (some ⟨b480, 0, some 0⟩) 1 1)) ((.bool false)) ((.bool (!x559))) (rfl) ((sl_cells f573)) (rfl) (rfl)
          refine D2.pure (v := .agg (List.toArray c574)) rfl rfl (e576 (opndP_oo rfl (qc' rfl (qc' rfl (qc' rfl (qc' rfl qn')))))) ?_
          refine D2.lo rfl rfl (Lo.buildSlice (r := T_Item) (vs := [(.agg (List.toArray c574))]) (xs := [(Item.mk x458.Name [x458.Node] false (!x559))]) el111 ze114 sz114 (by kernel_rfl) rfl (qc rfl qn) rfl (.cons f575 .nil) O571) ?_ (faL_bit (by decide) (faL_bit (by decide) (faL_bit (by decide) fa_nil))) ?_ ?_
          ·rintro v579 H580 ⟨O577, sm578⟩; exact (faR1 (.inl (by decide)) (faR1 (.inl (by decide)) (faR1 (.inl (by decide)) (faR1 (.inl (by decide)) (faR1 (.inl (by decide)) fa_nil)))))
          ·rintro v579 H580 ⟨O577, sm578⟩; exact (faR1 (.inl (by decide)) fa_nil)
          rintro v579 H580 ⟨O577, sm578⟩
          obtain ⟨es582, e583, e584⟩ := src_own (j := 0) rfl O577
          obtain ⟨g585, h586⟩ := gd_inv h561
          refine D2.lo rfl rfl (Lo.append (j := 3) (v := (σ445 3)) rfl rfl el111 ni111 ze114 sz114 by114 (by decide) (by decide) rfl e583 e584 g585 O577) ?_ (faL_bit (by decide) (faL_bit (by decide) (faL_bit (by decide) (faL_bit (by decide) fa_nil)))) ?_ ?_
          ·rintro v588 H589 ⟨O581, sm587⟩; exact (faR1 (.inl (by decide)) (faR1 (.inl (by decide)) (faR1 (.inl (by decide)) (faR1 (.inl (by decide)) (faR1 (.inl (by decide)) fa_nil)))))
          ·rintro v588 H589 ⟨O581, sm587⟩; exact (faR1 (.inl (by decide)) fa_nil)
          rintro v588 H589 ⟨O581, sm587⟩
          replace O581 : Ow G570 H589 (eSl v579 114 T_Item [(Item.mk x458.Name [x458.Node] false (!x559))] :: eVar b466 69 T_Store x458 :: eVar b2 48 T_Network p0 :: eSl v588 114 T_Item (x443 ++ [(Item.mk x458.Name [x458.Node] false (!x559))]) :: L) := O581
          refine D2.pure (v := v588) rfl rfl (v_assign (oo rfl rfl)) ?_
          refine .nil ?_
          have O590 : Ow G570 H589 (eVar b466 69 T_Store x458 :: eVar b2 48 T_Network p0 :: eSl v588 114 T_Item (x443 ++ [(Item.mk x458.Name [x458.Node] false (!x559))]) :: L) := O581.drop 0
          have O591 : Ow G570 H589 (eVar b2 48 T_Network p0 :: eSl v588 114 T_Item (x443 ++ [(Item.mk x458.Name [x458.Node] false (!x559))]) :: L) := O590.drop 0
          obtain rfl := Option.some.inj h586
          exact ⟨(x443 ++ [(Item.mk x458.Name [x458.Node] false (!x559))]), _, rfl, O591, (GM.le.trans s490 (GM.le.trans s527 (GM.le.trans s564 s572)))⟩
       ·rintro σ593 H594 fr595 ⟨x592, G596, rfl, O597, s598⟩
        have h600 := tu1_inv h457
        refine .region ?_
        refine W.pure (v := (.int .i64 (kwrap .i64 (x444 + 1)))) rfl rfl (v_int (oo rfl ((fr595 114 rfl).trans t452)) (oo rfl rfl) rfl) ?_
        refine W.pure (v := (.int .i64 (kwrap .i64 (x444 + 1)))) rfl rfl (v_move (oo rfl rfl)) ?_
        refine .nil ?_
        exact ⟨k442, Nat.lt_succ_self _, ⟨x592, kwrap .i64 (x444 + 1), _, h600, O597, (GM.le.trans s450 s598), rfl⟩⟩
      ·have h601 := neg_b g453 h451
       refine .exit ?_
       obtain rfl := Option.some.inj h601
       exact ⟨x443, _, rfl, O449, s450⟩
     ·rintro σ603 H604 fr605 ⟨x602, G606, rfl, O607, s608⟩
      have h610 := tu1_inv h441
      refine .seq ?_
      refine .region ?_
      refine W.pure (v := (σ603 3)) rfl rfl (v_move (oo rfl rfl)) ?_
      refine W.pure (v := (σ603 3)) rfl rfl (v_assign (oo rfl rfl)) ?_
      refine .nil ?_
      refine .ret ?_
      have O611 : Ow G606 H604 (eSl (σ603 3) 114 T_Item x602 :: L) := O607.drop 0
      obtain rfl := Option.some.inj h610
      refine ret1R (P := Try.prog) (fn := Try.f71) (n := 145) (R := fun v H' => ∃ w0 G', Ow G' H' (eSl w0 114 T_Item x602 :: L) ∧ G.le G' ∧ w0 = v) (v1 := (σ603 3)) (by rfl) (rr_tmp (by rfl) (by exact rfl)) ?_
      exact ⟨(σ603 3), _, O611, (GM.le.trans s77 (GM.le.trans s169 (GM.le.trans s344 (GM.le.trans s433 s608)))), rfl⟩
def g_R_NetError_l0 (K : Nat) (p0 : Network) : Nat → List ByteArray → Int → Option (Int ⊕ (List ByteArray))
 | 0, _, _ => none
 | k + 1, x74, x75 => (if (decide (x75 < (List.length p0.Nodes : Int))) = true then ((idx p0.Nodes x75).bind fun x87 => ((g_R_NetError_1 K x87 x74).bind fun x91 => (if (x91.1 != 0) = true then some (.inl x91.1) else g_R_NetError_l0 K p0 k x91.2 (kwrap .i64 (x75 + 1))))) else some (.inr x74))
def g_R_NetError_l4 (K : Nat) (p0 : Network) (x153 : Item) : Nat → Int → Option (Int ⊕ Unit)
 | 0, _ => none
 | k + 1, x201 => (if (decide (x201 < (List.length x153.nodes : Int))) = true then ((idx x153.nodes x201).bind fun x212 => ((g_R_Has K p0.Nodes x212).bind fun x219 => (if (!x219) = true then some (.inl 6) else g_R_NetError_l4 K p0 x153 k (kwrap .i64 (x201 + 1))))) else some (.inr ()))
def g_R_NetError_l2 (K : Nat) (x123 : List Item) (p0 : Network) : Nat → List ByteArray → Int → Option (Int ⊕ (List ByteArray))
 | 0, _, _ => none
 | k + 1, x140, x141 => (if (decide (x141 < (List.length x123 : Int))) = true then ((idx x123 x141).bind fun x153 => ((g_R_NetError_1 K x153.name x140).bind fun x174 => (if (x174.1 != 0) = true then some (.inl x174.1) else (bindS (g_R_NetError_l4 K p0 x153 K 0) (tu1 fun a308 => some (.inl a308)) (tu0 (Option.bind ((if x153.apart = true then ((idx x153.nodes 0).bind fun x263 => ((idx x153.nodes 1).bind fun x270 => some (sEq x263 x270))) else some false)) (tu1 fun x275 => (if x275 = true then some (.inl 3) else (if x153.bad = true then some (.inl 4) else g_R_NetError_l2 K x123 p0 k x174.2 (kwrap .i64 (x141 + 1))))))))))) else some (.inr x140))
def g_R_NetError (K : Nat) (p0 : Network) : Option Int := (Option.bind ((if (decide ((List.length p0.Nodes : Int) > 24)) = true then some true else (if (decide ((List.length p0.Switches : Int) > 32)) = true then some true else (if (decide ((List.length p0.Branches : Int) > 24)) = true then some true else (if (decide ((List.length p0.Gens : Int) > 10)) = true then some true else (if (decide ((List.length p0.Loads : Int) > 12)) = true then some true else some (decide ((List.length p0.Stores : Int) > 4)))))))) (tu1 fun x47 => (if x47 = true then some 2 else (bindS (g_R_NetError_l0 K p0 K [] 0) (tu1 fun a325 => some a325) (tu1 fun x110 => ((g_R_items K p0).bind fun x123 => (bindS (g_R_NetError_l2 K x123 p0 K x110 0) (tu1 fun a324 => some a324) (tu1 fun x310 => some 0))))))))
set_option maxHeartbeats 4000000 in
theorem g_R_NetError_ok (K : Nat) {G : GM} {H : AH} {L : List Pc} (v0 : List Value) (p0 : Network) (hp0 : T_Network.rep G v0 p0) (O : Ow G H (L)) (r : Int) (h : g_R_NetError K p0 = some r) :
  CR Try.prog 23 [.agg (List.toArray v0)] G H (L) (fun v G' _ => v = .int .i64 r) := by
 unfold g_R_NetError at h
 refine CR.of (calls_of_AW (n := 105) (fn := Try.f23) (R := fun v H' => ∃ G', Ow G' H' (L) ∧ G.le G' ∧ v = .int .i64 r) (by kernel_rfl) rfl rfl ?_)
 refine .seq ?_
 refine .region ?_
 refine W.lo rfl rfl (Lo.box (r := T_Network) (x0 := p0) (v := (.agg (List.toArray v0))) rfl rfl hp0 O) ?_
 rintro v4 H5 ⟨b2, rfl, O1, sm3⟩
 refine W.pure (v := (.int .i64 0)) rfl rfl (v_assign (oo rfl rfl)) ?_
 refine .nil ?_
 refine .seq ?_
 refine .seq ?_
 obtain ⟨q6, h7, h8⟩ := bd_inv h
 refine AW.midT (fun σ' H' => ∃ (y1 : Bool) (G' : GM), y1 = q6 ∧ Ow G' H' (eVar b2 48 T_Network p0 :: L) ∧ GM.le G G' ∧ σ' 46 = .bool y1) ?_ ?_
 ·refine .region ?_
  refine W.pure (v := (padd (.pointer (some ⟨b2, 0, none⟩)) 0)) rfl rfl (v_fldA fl48_0 (oo rfl rfl) (O1.atVar (j := 0) rfl)) ?_
  obtain ⟨w9, p10, f11⟩ := At.sl (At.proj (O1.atVar (j := 0) rfl) p_Network_Nodes)
  refine W.load1 (v := w9) (r := []) rfl rfl ag41 (pt_px rfl p10) ?_
  refine W.pure (v := (.int .i64 (List.length p0.Nodes : Int))) rfl rfl (len_sl (oo rfl rfl) (sl_len f11) (elemT_inv el41)) ?_
  refine W.pure (v := (.bool (decide ((List.length p0.Nodes : Int) > 24)))) rfl rfl (v_int (oo rfl rfl) (oo rfl rfl) rfl) ?_
  refine W.pure (v := (.bool (decide ((List.length p0.Nodes : Int) > 24)))) rfl rfl (v_move (oo rfl rfl)) ?_
  refine W.splitAt (t := 17) (b := decide ((List.length p0.Nodes : Int) > 24)) rfl (fun g12 gv13 => ?_) (fun g12 gv13 => ?_)
  ·have h14 := pos_inv g12 h7
   refine W.skip (gk rfl rfl gv13 rfl) rfl ?_
   refine W.skip (gk rfl rfl gv13 rfl) rfl ?_
   refine W.skip (gk rfl rfl gv13 rfl) rfl ?_
   refine W.skip (gk rfl rfl gv13 rfl) rfl ?_
   refine W.pure (v := (.bool true)) rfl rfl (v_pickT (oo rfl gv13) (oo rfl rfl)) ?_
   refine W.pure (v := (.bool true)) rfl rfl (v_move (oo rfl rfl)) ?_
   refine W.skip (gk rfl rfl rfl rfl) rfl ?_
   refine W.skip (gk rfl rfl rfl rfl) rfl ?_
   refine W.skip (gk rfl rfl rfl rfl) rfl ?_
   refine W.skip (gk rfl rfl rfl rfl) rfl ?_
   refine W.pure (v := (.bool true)) rfl rfl (v_pickT (oo rfl rfl) (oo rfl rfl)) ?_
   refine W.pure (v := (.bool true)) rfl rfl (v_move (oo rfl rfl)) ?_
   refine W.skip (gk rfl rfl rfl rfl) rfl ?_
   refine W.skip (gk rfl rfl rfl rfl) rfl ?_
   refine W.skip (gk rfl rfl rfl rfl) rfl ?_
   refine W.skip (gk rfl rfl rfl rfl) rfl ?_
   refine W.pure (v := (.bool true)) rfl rfl (v_pickT (oo rfl rfl) (oo rfl rfl)) ?_
   refine W.pure (v := (.bool true)) rfl rfl (v_move (oo rfl rfl)) ?_
   refine W.skip (gk rfl rfl rfl rfl) rfl ?_
   refine W.skip (gk rfl rfl rfl rfl) rfl ?_
   refine W.skip (gk rfl rfl rfl rfl) rfl ?_
   refine W.skip (gk rfl rfl rfl rfl) rfl ?_
   refine W.pure (v := (.bool true)) rfl rfl (v_pickT (oo rfl rfl) (oo rfl rfl)) ?_
   refine W.pure (v := (.bool true)) rfl rfl (v_move (oo rfl rfl)) ?_
   refine W.skip (gk rfl rfl rfl rfl) rfl ?_
   refine W.skip (gk rfl rfl rfl rfl) rfl ?_
   refine W.skip (gk rfl rfl rfl rfl) rfl ?_
   refine W.skip (gk rfl rfl rfl rfl) rfl ?_
   refine W.pure (v := (.bool true)) rfl rfl (v_pickT (oo rfl rfl) (oo rfl rfl)) ?_
   refine .nil ?_
   obtain rfl := Option.some.inj h14
   exact ⟨true, _, rfl, O1, (GM.le.refl _), rfl⟩
  ·have h15 := neg_b g12 h7
   refine W.pure (v := (padd (.pointer (some ⟨b2, 0, none⟩)) 1)) (gk rfl rfl gv13 rfl) rfl (v_fldA fl48_1 (oo rfl rfl) (O1.atVar (j := 0) rfl)) ?_
   obtain ⟨w16, p17, f18⟩ := At.sl (At.proj (O1.atVar (j := 0) rfl) p_Network_Switches)
   refine W.load1 (v := w16) (r := []) (gk rfl rfl gv13 rfl) rfl ag42 (pt_px rfl p17) ?_
   refine W.pure (v := (.int .i64 (List.length p0.Switches : Int))) (gk rfl rfl gv13 rfl) rfl (len_sl (oo rfl rfl) (sl_len f18) (elemT_inv el42)) ?_
   refine W.pure (v := (.bool (decide ((List.length p0.Switches : Int) > 32)))) (gk rfl rfl gv13 rfl) rfl (v_int (oo rfl rfl) (oo rfl rfl) rfl) ?_
   refine W.pure (v := (.bool (decide ((List.length p0.Switches : Int) > 32)))) rfl rfl (v_pickF (oo rfl gv13) (oo rfl rfl)) ?_
   refine W.pure (v := (.bool (decide ((List.length p0.Switches : Int) > 32)))) rfl rfl (v_move (oo rfl rfl)) ?_
   refine W.splitAt (t := 23) (b := decide ((List.length p0.Switches : Int) > 32)) rfl (fun g19 gv20 => ?_) (fun g19 gv20 => ?_)
   ·have h21 := pos_inv g19 h15
    refine W.skip (gk rfl rfl gv20 rfl) rfl ?_
    refine W.skip (gk rfl rfl gv20 rfl) rfl ?_
    refine W.skip (gk rfl rfl gv20 rfl) rfl ?_
    refine W.skip (gk rfl rfl gv20 rfl) rfl ?_
    refine W.pure (v := (.bool true)) rfl rfl (v_pickT (oo rfl gv20) (oo rfl rfl)) ?_
    refine W.pure (v := (.bool true)) rfl rfl (v_move (oo rfl rfl)) ?_
    refine W.skip (gk rfl rfl rfl rfl) rfl ?_
    refine W.skip (gk rfl rfl rfl rfl) rfl ?_
    refine W.skip (gk rfl rfl rfl rfl) rfl ?_
    refine W.skip (gk rfl rfl rfl rfl) rfl ?_
    refine W.pure (v := (.bool true)) rfl rfl (v_pickT (oo rfl rfl) (oo rfl rfl)) ?_
    refine W.pure (v := (.bool true)) rfl rfl (v_move (oo rfl rfl)) ?_
    refine W.skip (gk rfl rfl rfl rfl) rfl ?_
    refine W.skip (gk rfl rfl rfl rfl) rfl ?_
    refine W.skip (gk rfl rfl rfl rfl) rfl ?_
    refine W.skip (gk rfl rfl rfl rfl) rfl ?_
    refine W.pure (v := (.bool true)) rfl rfl (v_pickT (oo rfl rfl) (oo rfl rfl)) ?_
    refine W.pure (v := (.bool true)) rfl rfl (v_move (oo rfl rfl)) ?_
    refine W.skip (gk rfl rfl rfl rfl) rfl ?_
    refine W.skip (gk rfl rfl rfl rfl) rfl ?_
    refine W.skip (gk rfl rfl rfl rfl) rfl ?_
    refine W.skip (gk rfl rfl rfl rfl) rfl ?_
    refine W.pure (v := (.bool true)) rfl rfl (v_pickT (oo rfl rfl) (oo rfl rfl)) ?_
    refine .nil ?_
    obtain rfl := Option.some.inj h21
    exact ⟨true, _, rfl, O1, (GM.le.refl _), rfl⟩
   ·have h22 := neg_b g19 h15
    refine W.pure (v := (padd (.pointer (some ⟨b2, 0, none⟩)) 2)) (gk rfl rfl gv20 rfl) rfl (v_fldA fl48_2 (oo rfl rfl) (O1.atVar (j := 0) rfl)) ?_
    obtain ⟨w23, p24, f25⟩ := At.sl (At.proj (O1.atVar (j := 0) rfl) p_Network_Branches)
    refine W.load1 (v := w23) (r := []) (gk rfl rfl gv20 rfl) rfl ag43 (pt_px rfl p24) ?_
    refine W.pure (v := (.int .i64 (List.length p0.Branches : Int))) (gk rfl rfl gv20 rfl) rfl (len_sl (oo rfl rfl) (sl_len f25) (elemT_inv el43)) ?_
    refine W.pure (v := (.bool (decide ((List.length p0.Branches : Int) > 24)))) (gk rfl rfl gv20 rfl) rfl (v_int (oo rfl rfl) (oo rfl rfl) rfl) ?_
    refine W.pure (v := (.bool (decide ((List.length p0.Branches : Int) > 24)))) rfl rfl (v_pickF (oo rfl gv20) (oo rfl rfl)) ?_
    refine W.pure (v := (.bool (decide ((List.length p0.Branches : Int) > 24)))) rfl rfl (v_move (oo rfl rfl)) ?_
    refine W.splitAt (t := 29) (b := decide ((List.length p0.Branches : Int) > 24)) rfl (fun g26 gv27 => ?_) (fun g26 gv27 => ?_)
    ·have h28 := pos_inv g26 h22
     refine W.skip (gk rfl rfl gv27 rfl) rfl ?_
     refine W.skip (gk rfl rfl gv27 rfl) rfl ?_
     refine W.skip (gk rfl rfl gv27 rfl) rfl ?_
     refine W.skip (gk rfl rfl gv27 rfl) rfl ?_
     refine W.pure (v := (.bool true)) rfl rfl (v_pickT (oo rfl gv27) (oo rfl rfl)) ?_
     refine W.pure (v := (.bool true)) rfl rfl (v_move (oo rfl rfl)) ?_
     refine W.skip (gk rfl rfl rfl rfl) rfl ?_
     refine W.skip (gk rfl rfl rfl rfl) rfl ?_
     refine W.skip (gk rfl rfl rfl rfl) rfl ?_
     refine W.skip (gk rfl rfl rfl rfl) rfl ?_
     refine W.pure (v := (.bool true)) rfl rfl (v_pickT (oo rfl rfl) (oo rfl rfl)) ?_
     refine W.pure (v := (.bool true)) rfl rfl (v_move (oo rfl rfl)) ?_
     refine W.skip (gk rfl rfl rfl rfl) rfl ?_
     refine W.skip (gk rfl rfl rfl rfl) rfl ?_
     refine W.skip (gk rfl rfl rfl rfl) rfl ?_
     refine W.skip (gk rfl rfl rfl rfl) rfl ?_
     refine W.pure (v := (.bool true)) rfl rfl (v_pickT (oo rfl rfl) (oo rfl rfl)) ?_
     refine .nil ?_
     obtain rfl := Option.some.inj h28
     exact ⟨true, _, rfl, O1, (GM.le.refl _), rfl⟩
    ·have h29 := neg_b g26 h22
     refine W.pure (v := (padd (.pointer (some ⟨b2, 0, none⟩)) 3)) (gk rfl rfl gv27 rfl) rfl (v_fldA fl48_3 (oo rfl rfl) (O1.atVar (j := 0) rfl)) ?_
     obtain ⟨w30, p31, f32⟩ := At.sl (At.proj (O1.atVar (j := 0) rfl) p_Network_Gens)
     refine W.load1 (v := w30) (r := []) (gk rfl rfl gv27 rfl) rfl ag44 (pt_px rfl p31) ?_
     refine W.pure (v := (.int .i64 (List.length p0.Gens : Int))) (gk rfl rfl gv27 rfl) rfl (len_sl (oo rfl rfl) (sl_len f32) (elemT_inv el44)) ?_
     refine W.pure (v := (.bool (decide ((List.length p0.Gens : Int) > 10)))) (gk rfl rfl gv27 rfl) rfl (v_int (oo rfl rfl) (oo rfl rfl) rfl) ?_
     refine W.pure (v := (.bool (decide ((List.length p0.Gens : Int) > 10)))) rfl rfl (v_pickF (oo rfl gv27) (oo rfl rfl)) ?_
     refine W.pure (v := (.bool (decide ((List.length p0.Gens : Int) > 10)))) rfl rfl (v_move (oo rfl rfl)) ?_
     refine W.splitAt (t := 35) (b := decide ((List.length p0.Gens : Int) > 10)) rfl (fun g33 gv34 => ?_) (fun g33 gv34 => ?_)
     ·have h35 := pos_inv g33 h29
      refine W.skip (gk rfl rfl gv34 rfl) rfl ?_
      refine W.skip (gk rfl rfl gv34 rfl) rfl ?_
      refine W.skip (gk rfl rfl gv34 rfl) rfl ?_
      refine W.skip (gk rfl rfl gv34 rfl) rfl ?_
      refine W.pure (v := (.bool true)) rfl rfl (v_pickT (oo rfl gv34) (oo rfl rfl)) ?_
      refine W.pure (v := (.bool true)) rfl rfl (v_move (oo rfl rfl)) ?_
      refine W.skip (gk rfl rfl rfl rfl) rfl ?_
      refine W.skip (gk rfl rfl rfl rfl) rfl ?_
      refine W.skip (gk rfl rfl rfl rfl) rfl ?_
      refine W.skip (gk rfl rfl rfl rfl) rfl ?_
      refine W.pure (v := (.bool true)) rfl rfl (v_pickT (oo rfl rfl) (oo rfl rfl)) ?_
      refine .nil ?_
      obtain rfl := Option.some.inj h35
      exact ⟨true, _, rfl, O1, (GM.le.refl _), rfl⟩
     ·have h36 := neg_b g33 h29
      refine W.pure (v := (padd (.pointer (some ⟨b2, 0, none⟩)) 4)) (gk rfl rfl gv34 rfl) rfl (v_fldA fl48_4 (oo rfl rfl) (O1.atVar (j := 0) rfl)) ?_
      obtain ⟨w37, p38, f39⟩ := At.sl (At.proj (O1.atVar (j := 0) rfl) p_Network_Loads)
      refine W.load1 (v := w37) (r := []) (gk rfl rfl gv34 rfl) rfl ag45 (pt_px rfl p38) ?_
      refine W.pure (v := (.int .i64 (List.length p0.Loads : Int))) (gk rfl rfl gv34 rfl) rfl (len_sl (oo rfl rfl) (sl_len f39) (elemT_inv el45)) ?_
      refine W.pure (v := (.bool (decide ((List.length p0.Loads : Int) > 12)))) (gk rfl rfl gv34 rfl) rfl (v_int (oo rfl rfl) (oo rfl rfl) rfl) ?_
      refine W.pure (v := (.bool (decide ((List.length p0.Loads : Int) > 12)))) rfl rfl (v_pickF (oo rfl gv34) (oo rfl rfl)) ?_
      refine W.pure (v := (.bool (decide ((List.length p0.Loads : Int) > 12)))) rfl rfl (v_move (oo rfl rfl)) ?_
      refine W.splitAt (t := 41) (b := decide ((List.length p0.Loads : Int) > 12)) rfl (fun g40 gv41 => ?_) (fun g40 gv41 => ?_)
      ·have h42 := pos_inv g40 h36
       refine W.skip (gk rfl rfl gv41 rfl) rfl ?_
       refine W.skip (gk rfl rfl gv41 rfl) rfl ?_
       refine W.skip (gk rfl rfl gv41 rfl) rfl ?_
       refine W.skip (gk rfl rfl gv41 rfl) rfl ?_
       refine W.pure (v := (.bool true)) rfl rfl (v_pickT (oo rfl gv41) (oo rfl rfl)) ?_
       refine .nil ?_
       obtain rfl := Option.some.inj h42
       exact ⟨true, _, rfl, O1, (GM.le.refl _), rfl⟩
      ·have h43 := neg_b g40 h36
       refine W.pure (v := (padd (.pointer (some ⟨b2, 0, none⟩)) 5)) (gk rfl rfl gv41 rfl) rfl (v_fldA fl48_5 (oo rfl rfl) (O1.atVar (j := 0) rfl)) ?_
       obtain ⟨w44, p45, f46⟩ := At.sl (At.proj (O1.atVar (j := 0) rfl) p_Network_Stores)
       refine W.load1 (v := w44) (r := []) (gk rfl rfl gv41 rfl) rfl ag46 (pt_px rfl p45) ?_
       refine W.pure (v := (.int .i64 (List.length p0.Stores : Int))) (gk rfl rfl gv41 rfl) rfl (len_sl (oo rfl rfl) (sl_len f46) (elemT_inv el46)) ?_
       refine W.pure (v := (.bool (decide ((List.length p0.Stores : Int) > 4)))) (gk rfl rfl gv41 rfl) rfl (v_int (oo rfl rfl) (oo rfl rfl) rfl) ?_
       refine W.pure (v := (.bool (decide ((List.length p0.Stores : Int) > 4)))) rfl rfl (v_pickF (oo rfl gv41) (oo rfl rfl)) ?_
       refine .nil ?_
       obtain rfl := Option.some.inj h43
       exact ⟨decide ((List.length p0.Stores : Int) > 4), _, rfl, O1, (GM.le.refl _), rfl⟩
 ·rintro σ48 H49 fr50 ⟨x47, G51, rfl, O52, s53, t55⟩
  have h56 := tu1_inv h8
  refine .cond (b := x47) rfl t55 (fun g57 => ?_) (fun g57 => ?_)
  ·have h58 := pos_inv g57 h56
   refine .seq ?_
   refine .region ?_
   refine W.pure (v := (.int .i64 2)) rfl rfl (v_assign (oo rfl rfl)) ?_
   refine .nil ?_
   refine .ret ?_
   have O59 : Ow G51 H49 (L) := O52.drop 0
   obtain rfl := Option.some.inj h58
   refine ret1R (P := Try.prog) (fn := Try.f23) (n := 105) (R := fun v H' => ∃ G', Ow G' H' (L) ∧ G.le G' ∧ v = .int .i64 2) (v1 := (.int .i64 2)) (by rfl) (rr_tmp (by rfl) (by exact rfl)) ?_
   exact ⟨_, O59, s53, rfl⟩
  ·have h60 := neg_b g57 h56
   refine .skip ?_
   refine .seq ?_
   refine .region ?_
   have O63 := O52.nilSl 9 rS
   refine W.lo rfl rfl (Lo.alloc (r := rV) (x0 := (.slice none 0 0)) ze41 (by kernel_rfl) zV O63) ?_
   rintro v65 H66 ⟨b62, rfl, O61, sm64⟩
   refine .nil ?_
   refine .seq ?_
   refine .region ?_
   refine W.pure (v := (.func (.func 70) #[] #[(.pointer (some ⟨b62, 0, none⟩))])) rfl rfl (v_makeFunc (opndL_ooL rfl mn) (opndL_ooL rfl (mc rfl mn))) ?_
   refine W.pure (v := (.func (.func 70) #[] #[(.pointer (some ⟨b62, 0, none⟩))])) rfl rfl (v_assign (oo rfl rfl)) ?_
   refine .nil ?_
   refine .seq ?_
   refine .seq ?_
   refine .region ?_
   refine W.pure (v := (padd (.pointer (some ⟨b2, 0, none⟩)) 0)) rfl rfl (v_fldA fl48_0 (oo rfl ((fr50 1 rfl).trans rfl)) (O61.atVar (j := 2) rfl)) ?_
   obtain ⟨w67, p68, f69⟩ := At.sl (At.proj (O61.atVar (j := 2) rfl) p_Network_Nodes)
   refine W.load1 (v := w67) (r := []) rfl rfl ag41 (pt_px rfl p68) ?_
   refine W.pure (v := (.int .i64 (List.length p0.Nodes : Int))) rfl rfl (len_sl (oo rfl rfl) (sl_len f69) (elemT_inv el41)) ?_
   refine W.pure (v := (.int .i64 0)) rfl rfl (v_move (oo rfl rfl)) ?_
   refine .nil ?_
   obtain ⟨q70, h71, h72⟩ := bindS_inv h60
   refine AW.midT (fun σ' H' => ∃ (y1 : List ByteArray) (w_l3 : Value) (G' : GM), (.inr y1) = q70 ∧ Ow G' H' (eVar b62 41 rV w_l3 :: eSl w_l3 9 rS y1 :: eVar b2 48 T_Network p0 :: L) ∧ GM.le G51 G') ?_ ?_
   ·refine .block ?_
    refine AW.loop (α := Nat) (fun k' σ' H' => ∃ (y1 : List ByteArray) (y2 : Int) (w_l3 : Value) (G' : GM), g_R_NetError_l0 K p0 k' y1 y2 = some q70 ∧ Ow G' H' (eVar b62 41 rV w_l3 :: eSl w_l3 9 rS y1 :: eVar b2 48 T_Network p0 :: L) ∧ GM.le G51 G' ∧ σ' 51 = .int .i64 y2) (fun k' => k') K ⟨[], 0, (.slice none 0 0), _, h71, O61, (GM.le.refl _), rfl⟩ ?_
    rintro k73
    rintro σ76 H77 fr78 ⟨x74, x75, w83, G79, h82, O80, s81, t84⟩
    rcases k73 with _ | k73
    ·exact none_absurd h82
    rw [g_R_NetError_l0] at h82
    refine .seq ?_
    refine .region ?_
    refine W.pure (v := (.bool (decide (x75 < (List.length p0.Nodes : Int))))) rfl rfl (v_int (oo rfl t84) (oo rfl ((fr78 50 rfl).trans rfl)) rfl) ?_
    refine .nil ?_
    refine .seq ?_
    refine .cond (b := decide (x75 < (List.length p0.Nodes : Int))) rfl rfl (fun g85 => ?_) (fun g85 => ?_)
    ·have h86 := pos_inv g85 h82
     refine .skip ?_
     refine .seq ?_
     refine .block ?_
     refine .seq ?_
     refine .region ?_
     obtain ⟨x87, i88, h89⟩ := bd_inv h86
     have j90 := idx_inv i88
     refine W.pure (v := (selem w67 (Int.toNat x75 * 1))) rfl rfl (v_idx el41 sz9 (oo rfl ((fr78 49 rfl).trans rfl)) (oo rfl t84) (sl_len (RT.mono _ s81 f69)) j90.1 j90.2.1) ?_
     refine W.load1 (v := (.string x87)) (r := []) rfl rfl ag9 (pt_px rfl (At.str (At.le (At.le (sl_idx f69 j90.2.2) s81 s81) (GM.le.refl _) O80.fro))) ?_
     refine W.pure (v := (.string x87)) rfl rfl (v_assign (oo rfl rfl)) ?_
     refine .nil ?_
     refine .seq ?_
     refine .region ?_
     refine W.pure (v := (.func (.func 70) #[] #[(.pointer (some ⟨b62, 0, none⟩))])) rfl rfl (v_move (oo rfl ((fr78 4 rfl).trans rfl))) ?_
     refine W.pure (v := (.string x87)) rfl rfl (v_move (oo rfl rfl)) ?_
     obtain ⟨x91, i92, h93⟩ := bd_inv h89
     refine W.lo rfl rfl (Lo.callvPF (ps := [eVar b62 41 rV w83, eSl w83 9 rS x74]) (pw := fun w => [eVar b62 41 rV w, eSl w 9 rS x91.2]) rfl rfl (fn := Try.f70) (by kernel_rfl) rfl (mc rfl mn) O80 (fun L' O' => g_R_NetError_1_ok K x87 b62 w83 x74 O' _ i92)) ?_
     rintro v100 H101 ⟨w98, G94, O95, s96, sm99, rfl⟩
     replace O95 : Ow G94 H101 (eVar b62 41 rV w98 :: eSl w98 9 rS x91.2 :: eVar b2 48 T_Network p0 :: L) := O95
     refine W.pure (v := (.int .i64 x91.1)) rfl rfl (v_assign (oo rfl rfl)) ?_
     refine .nil ?_
     refine .seq ?_
     refine .region ?_
     refine W.pure (v := (.int .i64 x91.1)) rfl rfl (v_move (oo rfl rfl)) ?_
     refine W.pure (v := (.bool (x91.1 != 0))) rfl rfl (v_int (oo rfl rfl) (oo rfl rfl) rfl) ?_
     refine .nil ?_
     refine .cond (b := (x91.1 != 0)) rfl rfl (fun g102 => ?_) (fun g102 => ?_)
     ·have h103 := pos_inv g102 h93
      refine .seq ?_
      refine .region ?_
      refine W.pure (v := (.int .i64 x91.1)) rfl rfl (v_move (oo rfl rfl)) ?_
      refine W.pure (v := (.int .i64 x91.1)) rfl rfl (v_assign (oo rfl rfl)) ?_
      refine .nil ?_
      refine .ret ?_
      have O104 : Ow G94 H101 (eSl w98 9 rS x91.2 :: eVar b2 48 T_Network p0 :: L) := O95.drop 0
      have O105 : Ow G94 H101 (eVar b2 48 T_Network p0 :: L) := O104.drop 0
      have O106 : Ow G94 H101 (L) := O105.drop 0
      obtain rfl := Option.some.inj h103
      have h107 := tu1_inv (outS_l h72)
      obtain rfl := Option.some.inj h107
      refine ret1R (P := Try.prog) (fn := Try.f23) (n := 105) (R := fun v H' => ∃ G', Ow G' H' (L) ∧ G.le G' ∧ v = .int .i64 x91.1) (v1 := (.int .i64 x91.1)) (by rfl) (rr_tmp (by rfl) (by exact rfl)) ?_
      exact ⟨_, O106, (GM.le.trans s53 (GM.le.trans s81 s96)), rfl⟩
     ·have h108 := neg_b g102 h93
      refine .skip ?_
      refine .region ?_
      refine W.pure (v := (.int .i64 (kwrap .i64 (x75 + 1)))) rfl rfl (v_int (oo rfl t84) (oo rfl rfl) rfl) ?_
      refine W.pure (v := (.int .i64 (kwrap .i64 (x75 + 1)))) rfl rfl (v_move (oo rfl rfl)) ?_
      refine .nil ?_
      exact ⟨k73, Nat.lt_succ_self _, ⟨x91.2, kwrap .i64 (x75 + 1), w98, _, h108, O95, (GM.le.trans s81 s96), rfl⟩⟩
    ·have h109 := neg_b g85 h82
     refine .exit ?_
     obtain rfl := Option.some.inj h109
     exact ⟨x74, w83, _, rfl, O80, s81⟩
   ·rintro σ111 H112 fr113 ⟨x110, w118, G114, rfl, O115, s116⟩
    have h119 := tu1_inv (outS_r h72)
    refine .seq ?_
    refine .seq ?_
    refine .region ?_
    obtain ⟨c120, p121, f122⟩ := (O115.atVar (j := 2) rfl)
    refine W.loadA (cs := c120) rfl rfl ag48 sz48 (pt_px ((fr113 1 rfl).trans ((fr50 1 rfl).trans rfl)) p121) (RT.len _ f122) ?_
    obtain ⟨x123, i124, h125⟩ := bd_inv h119
    refine W.lo rfl rfl (Lo.callPF (ps := []) (pw := fun w => [eSl w 114 T_Item x123]) rfl (fn := Try.f71) (by kernel_rfl) rfl (mc rfl mn) O115 (fun L' O' => g_R_items_ok K c120 p0 f122 O' _ i124)) ?_
    rintro v134 H135 ⟨w131, G126, O127, s128, sm133, rfl⟩
    replace O127 : Ow G126 H135 (eSl w131 114 T_Item x123 :: eVar b62 41 rV w118 :: eSl w118 9 rS x110 :: eVar b2 48 T_Network p0 :: L) := O127
    refine W.pure (v := (.int .i64 (List.length x123 : Int))) rfl rfl (len_sl (oo rfl rfl) (O127.slLen (j := 0) rfl) (elemT_inv el111)) ?_
    refine W.pure (v := (.int .i64 0)) rfl rfl (v_move (oo rfl rfl)) ?_
    refine .nil ?_
    obtain ⟨q136, h137, h138⟩ := bindS_inv h125
    refine AW.midT (fun σ' H' => ∃ (y1 : List ByteArray) (w_l3 : Value) (G' : GM), (.inr y1) = q136 ∧ Ow G' H' (eSl w131 114 T_Item x123 :: eVar b62 41 rV w_l3 :: eSl w_l3 9 rS y1 :: eVar b2 48 T_Network p0 :: L) ∧ GM.le G126 G') ?_ ?_
    ·refine .block ?_
     refine AW.loop (α := Nat) (fun k' σ' H' => ∃ (y1 : List ByteArray) (y2 : Int) (w_l3 : Value) (G' : GM), g_R_NetError_l2 K x123 p0 k' y1 y2 = some q136 ∧ Ow G' H' (eSl w131 114 T_Item x123 :: eVar b62 41 rV w_l3 :: eSl w_l3 9 rS y1 :: eVar b2 48 T_Network p0 :: L) ∧ GM.le G126 G' ∧ σ' 65 = .int .i64 y2) (fun k' => k') K ⟨x110, 0, w118, _, h137, O127, (GM.le.refl _), rfl⟩ ?_
     rintro k139
     rintro σ142 H143 fr144 ⟨x140, x141, w149, G145, h148, O146, s147, t150⟩
     rcases k139 with _ | k139
     ·exact none_absurd h148
     rw [g_R_NetError_l2] at h148
     refine .seq ?_
     refine .region ?_
     refine W.pure (v := (.bool (decide (x141 < (List.length x123 : Int))))) rfl rfl (v_int (oo rfl t150) (oo rfl ((fr144 64 rfl).trans rfl)) rfl) ?_
     refine .nil ?_
     refine .seq ?_
     refine .cond (b := decide (x141 < (List.length x123 : Int))) rfl rfl (fun g151 => ?_) (fun g151 => ?_)
     ·have h152 := pos_inv g151 h148
      refine .skip ?_
      refine .seq ?_
      refine .block ?_
      refine .seq ?_
      refine .region ?_
      obtain ⟨x153, i154, h155⟩ := bd_inv h152
      have j156 := idx_inv i154
      refine W.pure (v := (selem w131 (Int.toNat x141 * 4))) rfl rfl (v_idx el111 sz114 (oo rfl ((fr144 63 rfl).trans rfl)) (oo rfl t150) (O146.slLen (j := 0) rfl) j156.1 j156.2.1) ?_
      obtain ⟨c157, p158, f159⟩ := (O146.atSl (j := 0) rfl j156.2.2)
      refine W.loadA (cs := c157) rfl rfl ag114 sz114 (pt_px rfl p158) (RT.len _ f159) ?_
      refine W.lo rfl rfl (Lo.alloc (r := T_Item) (x0 := (Item.mk ByteArray.empty ([] : List ByteArray) false false)) ze114 (by kernel_rfl) z_Item O146) ?_
      rintro v163 H164 ⟨b161, rfl, O160, sm162⟩
      refine W.lo rfl rfl (Lo.storeVar (j := 0) (s := T_Item) (y0 := x153) (v := (.agg (List.toArray c157))) (o := 0) rfl ((Put.at (Put.self _) _ _)) rfl sz114 rfl (by omega) rfl f159 O160) ?_
      rintro v167 H168 ⟨O165, sm166⟩
      replace O165 : Ow G145 H168 (eVar b161 114 T_Item x153 :: eSl w131 114 T_Item x123 :: eVar b62 41 rV w149 :: eSl w149 9 rS x140 :: eVar b2 48 T_Network p0 :: L) := O165
      refine .nil ?_
      refine .seq ?_
      refine .seq ?_
      refine .region ?_
      refine W.pure (v := (.func (.func 70) #[] #[(.pointer (some ⟨b62, 0, none⟩))])) rfl rfl (v_move (oo rfl ((fr144 4 rfl).trans ((fr113 4 rfl).trans rfl)))) ?_
      refine W.pure (v := (padd (.pointer (some ⟨b161, 0, none⟩)) 0)) rfl rfl (v_fldA fl114_0 (oo rfl rfl) (O165.atVar (j := 0) rfl)) ?_
      refine W.load1 (v := (.string x153.name)) (r := []) rfl rfl ag9 (pt_px rfl (At.str (At.proj (O165.atVar (j := 0) rfl) p_Item_name))) ?_
      have O169 : Ow G145 H168 (eVar b2 48 T_Network p0 :: eVar b161 114 T_Item x153 :: eSl w131 114 T_Item x123 :: eVar b62 41 rV w149 :: eSl w149 9 rS x140 :: L) := O165.front (j := 4) rfl
      have O170 : Ow G145 H168 (eSl w131 114 T_Item x123 :: eVar b2 48 T_Network p0 :: eVar b161 114 T_Item x153 :: eVar b62 41 rV w149 :: eSl w149 9 rS x140 :: L) := O169.front (j := 2) rfl
      have O171 : Ow G145 H168 (eVar b161 114 T_Item x153 :: eSl w131 114 T_Item x123 :: eVar b2 48 T_Network p0 :: eVar b62 41 rV w149 :: eSl w149 9 rS x140 :: L) := O170.front (j := 2) rfl
      have O172 : Ow G145 H168 (eSl w149 9 rS x140 :: eVar b161 114 T_Item x153 :: eSl w131 114 T_Item x123 :: eVar b2 48 T_Network p0 :: eVar b62 41 rV w149 :: L) := O171.front (j := 4) rfl
      have O173 : Ow G145 H168 (eVar b62 41 rV w149 :: eSl w149 9 rS x140 :: eVar b161 114 T_Item x153 :: eSl w131 114 T_Item x123 :: eVar b2 48 T_Network p0 :: L) := O172.front (j := 4) rfl
      obtain ⟨x174, i175, h176⟩ := bd_inv h155
      refine W.lo rfl rfl (Lo.callvPF (ps := [eVar b62 41 rV w149, eSl w149 9 rS x140]) (pw := fun w => [eVar b62 41 rV w, eSl w 9 rS x174.2]) rfl rfl (fn := Try.f70) (by kernel_rfl) rfl (mc rfl mn) O173 (fun L' O' => g_R_NetError_1_ok K x153.name b62 w149 x140 O' _ i175)) ?_
      rintro v183 H184 ⟨w181, G177, O178, s179, sm182, rfl⟩
      replace O178 : Ow G177 H184 (eVar b62 41 rV w181 :: eSl w181 9 rS x174.2 :: eVar b161 114 T_Item x153 :: eSl w131 114 T_Item x123 :: eVar b2 48 T_Network p0 :: L) := O178
      refine W.pure (v := (.int .i64 x174.1)) rfl rfl (v_assign (oo rfl rfl)) ?_
      refine .nil ?_
      refine .seq ?_
      refine .region ?_
      refine W.pure (v := (.int .i64 x174.1)) rfl rfl (v_move (oo rfl rfl)) ?_
      refine W.pure (v := (.bool (x174.1 != 0))) rfl rfl (v_int (oo rfl rfl) (oo rfl rfl) rfl) ?_
      refine .nil ?_
      refine .cond (b := (x174.1 != 0)) rfl rfl (fun g185 => ?_) (fun g185 => ?_)
      ·have h186 := pos_inv g185 h176
       refine .seq ?_
       refine .region ?_
       refine W.pure (v := (.int .i64 x174.1)) rfl rfl (v_move (oo rfl rfl)) ?_
       refine W.pure (v := (.int .i64 x174.1)) rfl rfl (v_assign (oo rfl rfl)) ?_
       refine .nil ?_
       refine .ret ?_
       have O187 : Ow G177 H184 (eSl w181 9 rS x174.2 :: eVar b161 114 T_Item x153 :: eSl w131 114 T_Item x123 :: eVar b2 48 T_Network p0 :: L) := O178.drop 0
       have O188 : Ow G177 H184 (eVar b161 114 T_Item x153 :: eSl w131 114 T_Item x123 :: eVar b2 48 T_Network p0 :: L) := O187.drop 0
       have O189 : Ow G177 H184 (eSl w131 114 T_Item x123 :: eVar b2 48 T_Network p0 :: L) := O188.drop 0
       have O190 : Ow G177 H184 (eVar b2 48 T_Network p0 :: L) := O189.drop 0
       have O191 : Ow G177 H184 (L) := O190.drop 0
       obtain rfl := Option.some.inj h186
       have h192 := tu1_inv (outS_l h138)
       obtain rfl := Option.some.inj h192
       refine ret1R (P := Try.prog) (fn := Try.f23) (n := 105) (R := fun v H' => ∃ G', Ow G' H' (L) ∧ G.le G' ∧ v = .int .i64 x174.1) (v1 := (.int .i64 x174.1)) (by rfl) (rr_tmp (by rfl) (by exact rfl)) ?_
       exact ⟨_, O191, (GM.le.trans s53 (GM.le.trans s116 (GM.le.trans s128 (GM.le.trans s147 s179)))), rfl⟩
      ·have h193 := neg_b g185 h176
       refine .skip ?_
       refine .seq ?_
       refine .seq ?_
       refine .region ?_
       refine W.pure (v := (padd (.pointer (some ⟨b161, 0, none⟩)) 1)) rfl rfl (v_fldA fl114_1 (oo rfl rfl) (O178.atVar (j := 2) rfl)) ?_
       obtain ⟨w194, p195, f196⟩ := At.sl (At.proj (O178.atVar (j := 2) rfl) p_Item_nodes)
       refine W.load1 (v := w194) (r := []) rfl rfl ag41 (pt_px rfl p195) ?_
       refine W.pure (v := (.int .i64 (List.length x153.nodes : Int))) rfl rfl (len_sl (oo rfl rfl) (sl_len f196) (elemT_inv el41)) ?_
       refine W.pure (v := (.int .i64 0)) rfl rfl (v_move (oo rfl rfl)) ?_
       refine .nil ?_
       obtain ⟨q197, h198, h199⟩ := bindS_inv h193
       refine AW.midT (fun σ' H' => ∃  (G' : GM), (.inr ()) = q197 ∧ Ow G' H' (eVar b62 41 rV w181 :: eSl w181 9 rS x174.2 :: eVar b161 114 T_Item x153 :: eSl w131 114 T_Item x123 :: eVar b2 48 T_Network p0 :: L) ∧ GM.le G177 G') ?_ ?_
       ·refine .block ?_
        refine AW.loop (α := Nat) (fun k' σ' H' => ∃ (y1 : Int) (G' : GM), g_R_NetError_l4 K p0 x153 k' y1 = some q197 ∧ Ow G' H' (eVar b62 41 rV w181 :: eSl w181 9 rS x174.2 :: eVar b161 114 T_Item x153 :: eSl w131 114 T_Item x123 :: eVar b2 48 T_Network p0 :: L) ∧ GM.le G177 G' ∧ σ' 79 = .int .i64 y1) (fun k' => k') K ⟨0, _, h198, O178, (GM.le.refl _), rfl⟩ ?_
        rintro k200
        rintro σ202 H203 fr204 ⟨x201, G205, h208, O206, s207, t209⟩
        rcases k200 with _ | k200
        ·exact none_absurd h208
        rw [g_R_NetError_l4] at h208
        refine .seq ?_
        refine .region ?_
        refine W.pure (v := (.bool (decide (x201 < (List.length x153.nodes : Int))))) rfl rfl (v_int (oo rfl t209) (oo rfl ((fr204 78 rfl).trans rfl)) rfl) ?_
        refine .nil ?_
        refine .seq ?_
        refine .cond (b := decide (x201 < (List.length x153.nodes : Int))) rfl rfl (fun g210 => ?_) (fun g210 => ?_)
        ·have h211 := pos_inv g210 h208
         refine .skip ?_
         refine .seq ?_
         refine .block ?_
         refine .seq ?_
         refine .region ?_
         obtain ⟨x212, i213, h214⟩ := bd_inv h211
         have j215 := idx_inv i213
         refine W.pure (v := (selem w194 (Int.toNat x201 * 1))) rfl rfl (v_idx el41 sz9 (oo rfl ((fr204 77 rfl).trans rfl)) (oo rfl t209) (sl_len (RT.mono _ s207 f196)) j215.1 j215.2.1) ?_
         refine W.load1 (v := (.string x212)) (r := []) rfl rfl ag9 (pt_px rfl (At.str (At.le (At.le (sl_idx f196 j215.2.2) s207 s207) (GM.le.refl _) O206.fro))) ?_
         refine W.pure (v := (.string x212)) rfl rfl (v_assign (oo rfl rfl)) ?_
         refine .nil ?_
         refine .seq ?_
         refine .region ?_
         refine W.pure (v := (padd (.pointer (some ⟨b2, 0, none⟩)) 0)) rfl rfl (v_fldA fl48_0 (oo rfl ((fr204 1 rfl).trans ((fr144 1 rfl).trans ((fr113 1 rfl).trans ((fr50 1 rfl).trans rfl))))) (O206.atVar (j := 4) rfl)) ?_
         obtain ⟨w216, p217, f218⟩ := At.sl (At.proj (O206.atVar (j := 4) rfl) p_Network_Nodes)
         refine W.load1 (v := w216) (r := []) rfl rfl ag41 (pt_px rfl p217) ?_
         refine W.pure (v := (.string x212)) rfl rfl (v_move (oo rfl rfl)) ?_
         obtain ⟨x219, i220, h221⟩ := bd_inv h214
         refine W.lo rfl rfl (Lo.callP (ps := []) (ps' := []) rfl (fn := Try.f42) (by kernel_rfl) rfl (mc rfl (mc rfl mn)) O206 (fun L' O' => g_R_Has_ok K w216 p0.Nodes f218 x212 O' _ i220)) ?_
         rintro v228 H229 ⟨G222, O223, s224, sm227, rfl⟩
         replace O223 : Ow G222 H229 (eVar b62 41 rV w181 :: eSl w181 9 rS x174.2 :: eVar b161 114 T_Item x153 :: eSl w131 114 T_Item x123 :: eVar b2 48 T_Network p0 :: L) := O223
         refine W.pure (v := (.bool (!x219))) rfl rfl (bool_not (a := x219) (oo rfl rfl)) ?_
         refine .nil ?_
         refine .cond (b := (!x219)) rfl rfl (fun g230 => ?_) (fun g230 => ?_)
         ·have h231 := pos_inv g230 h221
          refine .seq ?_
          refine .region ?_
          refine W.pure (v := (.int .i64 6)) rfl rfl (v_assign (oo rfl rfl)) ?_
          refine .nil ?_
          refine .ret ?_
          have O232 : Ow G222 H229 (eSl w181 9 rS x174.2 :: eVar b161 114 T_Item x153 :: eSl w131 114 T_Item x123 :: eVar b2 48 T_Network p0 :: L) := O223.drop 0
          have O233 : Ow G222 H229 (eVar b161 114 T_Item x153 :: eSl w131 114 T_Item x123 :: eVar b2 48 T_Network p0 :: L) := O232.drop 0
          have O234 : Ow G222 H229 (eSl w131 114 T_Item x123 :: eVar b2 48 T_Network p0 :: L) := O233.drop 0
          have O235 : Ow G222 H229 (eVar b2 48 T_Network p0 :: L) := O234.drop 0
          have O236 : Ow G222 H229 (L) := O235.drop 0
          obtain rfl := Option.some.inj h231
          have h237 := tu1_inv (outS_l h199)
          obtain rfl := Option.some.inj h237
          have h238 := tu1_inv (outS_l h138)
          obtain rfl := Option.some.inj h238
          refine ret1R (P := Try.prog) (fn := Try.f23) (n := 105) (R := fun v H' => ∃ G', Ow G' H' (L) ∧ G.le G' ∧ v = .int .i64 6) (v1 := (.int .i64 6)) (by rfl) (rr_tmp (by rfl) (by exact rfl)) ?_
          exact ⟨_, O236, (GM.le.trans s53 (GM.le.trans s116 (GM.le.trans s128 (GM.le.trans s147 (GM.le.trans s179 (GM.le.trans s207 s224)))))), rfl⟩
         ·have h239 := neg_b g230 h221
          refine .skip ?_
          refine .region ?_
          refine W.pure (v := (.int .i64 (kwrap .i64 (x201 + 1)))) rfl rfl (v_int (oo rfl t209) (oo rfl rfl) rfl) ?_
          refine W.pure (v := (.int .i64 (kwrap .i64 (x201 + 1)))) rfl rfl (v_move (oo rfl rfl)) ?_
          refine .nil ?_
          exact ⟨k200, Nat.lt_succ_self _, ⟨kwrap .i64 (x201 + 1), _, h239, O223, (GM.le.trans s207 s224), rfl⟩⟩
        ·have h240 := neg_b g210 h208
         refine .exit ?_
         obtain rfl := Option.some.inj h240
         exact ⟨_, rfl, O206, s207⟩
       ·rintro σ241 H242 fr243 ⟨G244, rfl, O245, s246⟩
        have h248 := tu0_inv (outS_r h199)
        refine .seq ?_
        refine .seq ?_
        obtain ⟨q249, h250, h251⟩ := bd_inv h248
        refine AW.midT (fun σ' H' => ∃ (y1 : Bool) (G' : GM), y1 = q249 ∧ Ow G' H' (eVar b62 41 rV w181 :: eSl w181 9 rS x174.2 :: eVar b161 114 T_Item x153 :: eSl w131 114 T_Item x123 :: eVar b2 48 T_Network p0 :: L) ∧ GM.le G244 G' ∧ σ' 101 = .bool y1) ?_ ?_
        ·refine .draw2 (M := [0, 1, 3, 7, 15, 31, 63, 7, 135, 391, 903, 2047, 4095]) mixed (by kernel_rfl) (by kernel_rfl) fun H252 N256 x253 F255 => ?_
         have O254 := O245.ext x253
         refine D2.pure (v := (padd (.pointer (some ⟨b161, 0, none⟩)) 2)) rfl rfl (v_fldA fl114_2 (oo rfl ((fr243 9 rfl).trans rfl)) (O254.atVar (j := 2) rfl)) ?_
         refine D2.load1' (v := (.bool x153.apart)) (r := []) rfl rfl ag4 (pt_px rfl (At.bool (At.proj (O254.atVar (j := 2) rfl) p_Item_apart))) fa_nil ?_
         refine D2.pure (v := (.bool x153.apart)) rfl rfl (v_move (oo rfl rfl)) ?_
         refine D2.splitAt (t := 91) (b := x153.apart) rfl (fun g257 gv258 => ?_) (fun g257 gv258 => ?_)
         ·have h259 := pos_inv g257 h250
          refine D2.pure (v := (padd (.pointer (some ⟨b161, 0, none⟩)) 1)) (gk rfl rfl gv258 rfl) rfl (v_fldA fl114_1 (oo rfl ((fr243 9 rfl).trans rfl)) (O254.atVar (j := 2) rfl)) ?_
          obtain ⟨w260, p261, f262⟩ := At.sl (At.proj (O254.atVar (j := 2) rfl) p_Item_nodes)
          refine D2.load1' (v := w260) (r := []) (gk rfl rfl gv258 rfl) rfl ag41 (pt_px rfl p261) fa_nil ?_
          obtain ⟨x263, i264, h265⟩ := bd_inv h259
          have j266 := idx_inv i264
          refine D2.pure (v := (selem w260 (Int.toNat 0 * 1))) (gk rfl rfl gv258 rfl) rfl (v_idx el41 sz9 (oo rfl rfl) (oo rfl rfl) (sl_len f262) j266.1 j266.2.1) ?_
          refine D2.load1' (v := (.string x263)) (r := []) (gk rfl rfl gv258 rfl) rfl ag9 (pt_px rfl (At.str (At.le (sl_idx f262 j266.2.2) (GM.le.refl _) O254.fro))) fa_nil ?_
          refine D2.pure (v := (padd (.pointer (some ⟨b161, 0, none⟩)) 1)) (gk rfl rfl gv258 rfl) rfl (v_fldA fl114_1 (oo rfl ((fr243 9 rfl).trans rfl)) (O254.atVar (j := 2) rfl)) ?_
          obtain ⟨w267, p268, f269⟩ := At.sl (At.proj (O254.atVar (j := 2) rfl) p_Item_nodes)
          refine D2.load1' (v := w267) (r := []) (gk rfl rfl gv258 rfl) rfl ag41 (pt_px rfl p268) fa_nil ?_
          obtain ⟨x270, i271, h272⟩ := bd_inv h265
          have j273 := idx_inv i271
          refine D2.pure (v := (selem w267 (Int.toNat 1 * 1))) (gk rfl rfl gv258 rfl) rfl (v_idx el41 sz9 (oo rfl rfl) (oo rfl rfl) (sl_len f269) j273.1 j273.2.1) ?_
          refine D2.load1' (v := (.string x270)) (r := []) (gk rfl rfl gv258 rfl) rfl ag9 (pt_px rfl (At.str (At.le (sl_idx f269 j273.2.2) (GM.le.refl _) O254.fro))) fa_nil ?_
          refine D2.pure (v := (.bool (sEq x263 x270))) (gk rfl rfl gv258 rfl) rfl (vs_eql (oo rfl rfl) (oo rfl rfl)) ?_
          refine D2.pure (v := (.bool (sEq x263 x270))) rfl rfl (v_pickT (oo rfl gv258) (oo rfl rfl)) ?_
          refine .nil ?_
          obtain rfl := Option.some.inj h272
          exact ⟨sEq x263 x270, _, rfl, O254, (GM.le.refl _), rfl⟩
         ·have h274 := neg_b g257 h250
          refine D2.skip (gk rfl rfl gv258 rfl) rfl ?_
          refine D2.skip (gk rfl rfl gv258 rfl) rfl ?_
          refine D2.skip (gk rfl rfl gv258 rfl) rfl ?_
          refine D2.skip (gk rfl rfl gv258 rfl) rfl ?_
          refine D2.skip (gk rfl rfl gv258 rfl) rfl ?_
          refine D2.skip (gk rfl rfl gv258 rfl) rfl ?_
          refine D2.skip (gk rfl rfl gv258 rfl) rfl ?_
          refine D2.skip (gk rfl rfl gv258 rfl) rfl ?_
          refine D2.skip (gk rfl rfl gv258 rfl) rfl ?_
          refine D2.pure (v := (.bool false)) rfl rfl (v_pickF (oo rfl gv258) (oo rfl rfl)) ?_
          refine .nil ?_
          obtain rfl := Option.some.inj h274
          exact ⟨false, _, rfl, O254, (GM.le.refl _), rfl⟩
        ·rintro σ276 H277 fr278 ⟨x275, G279, rfl, O280, s281, t283⟩
         have h284 := tu1_inv h251
         refine .cond (b := x275) rfl t283 (fun g285 => ?_) (fun g285 => ?_)
         ·have h286 := pos_inv g285 h284
          refine .seq ?_
          refine .region ?_
          refine W.pure (v := (.int .i64 3)) rfl rfl (v_assign (oo rfl rfl)) ?_
          refine .nil ?_
          refine .ret ?_
          have O287 : Ow G279 H277 (eSl w181 9 rS x174.2 :: eVar b161 114 T_Item x153 :: eSl w131 114 T_Item x123 :: eVar b2 48 T_Network p0 :: L) := O280.drop 0
          have O288 : Ow G279 H277 (eVar b161 114 T_Item x153 :: eSl w131 114 T_Item x123 :: eVar b2 48 T_Network p0 :: L) := O287.drop 0
          have O289 : Ow G279 H277 (eSl w131 114 T_Item x123 :: eVar b2 48 T_Network p0 :: L) := O288.drop 0
          have O290 : Ow G279 H277 (eVar b2 48 T_Network p0 :: L) := O289.drop 0
          have O291 : Ow G279 H277 (L) := O290.drop 0
          obtain rfl := Option.some.inj h286
          have h292 := tu1_inv (outS_l h138)
          obtain rfl := Option.some.inj h292
          refine ret1R (P := Try.prog) (fn := Try.f23) (n := 105) (R := fun v H' => ∃ G', Ow G' H' (L) ∧ G.le G' ∧ v = .int .i64 3) (v1 := (.int .i64 3)) (by rfl) (rr_tmp (by rfl) (by exact rfl)) ?_
          exact ⟨_, O291, (GM.le.trans s53 (GM.le.trans s116 (GM.le.trans s128 (GM.le.trans s147 (GM.le.trans s179 (GM.le.trans s246 s281)))))), rfl⟩
         ·have h293 := neg_b g285 h284
          refine .skip ?_
          refine .seq ?_
          refine .region ?_
          refine W.pure (v := (padd (.pointer (some ⟨b161, 0, none⟩)) 3)) rfl rfl (v_fldA fl114_3 (oo rfl ((fr278 9 rfl).trans ((fr243 9 rfl).trans rfl))) (O280.atVar (j := 2) rfl)) ?_
          refine W.load1 (v := (.bool x153.bad)) (r := []) rfl rfl ag4 (pt_px rfl (At.bool (At.proj (O280.atVar (j := 2) rfl) p_Item_bad))) ?_
          refine .nil ?_
          refine .cond (b := x153.bad) rfl rfl (fun g294 => ?_) (fun g294 => ?_)
          ·have h295 := pos_inv g294 h293
           refine .seq ?_
           refine .region ?_
           refine W.pure (v := (.int .i64 4)) rfl rfl (v_assign (oo rfl rfl)) ?_
           refine .nil ?_
           refine .ret ?_
           have O296 : Ow G279 H277 (eSl w181 9 rS x174.2 :: eVar b161 114 T_Item x153 :: eSl w131 114 T_Item x123 :: eVar b2 48 T_Network p0 :: L) := O280.drop 0
           have O297 : Ow G279 H277 (eVar b161 114 T_Item x153 :: eSl w131 114 T_Item x123 :: eVar b2 48 T_Network p0 :: L) := O296.drop 0
           have O298 : Ow G279 H277 (eSl w131 114 T_Item x123 :: eVar b2 48 T_Network p0 :: L) := O297.drop 0
           have O299 : Ow G279 H277 (eVar b2 48 T_Network p0 :: L) := O298.drop 0
           have O300 : Ow G279 H277 (L) := O299.drop 0
           obtain rfl := Option.some.inj h295
           have h301 := tu1_inv (outS_l h138)
           obtain rfl := Option.some.inj h301
           refine ret1R (P := Try.prog) (fn := Try.f23) (n := 105) (R := fun v H' => ∃ G', Ow G' H' (L) ∧ G.le G' ∧ v = .int .i64 4) (v1 := (.int .i64 4)) (by rfl) (rr_tmp (by rfl) (by exact rfl)) ?_
           exact ⟨_, O300, (GM.le.trans s53 (GM.le.trans s116 (GM.le.trans s128 (GM.le.trans s147 (GM.le.trans s179 (GM.le.trans s246 s281)))))), rfl⟩
          ·have h302 := neg_b g294 h293
           refine .skip ?_
           refine .region ?_
           refine W.pure (v := (.int .i64 (kwrap .i64 (x141 + 1)))) rfl rfl (v_int (oo rfl ((fr278 65 rfl).trans ((fr243 65 rfl).trans t150))) (oo rfl rfl) rfl) ?_
           refine W.pure (v := (.int .i64 (kwrap .i64 (x141 + 1)))) rfl rfl (v_move (oo rfl rfl)) ?_
           refine .nil ?_
           have O303 : Ow G279 H277 (eVar b62 41 rV w181 :: eSl w181 9 rS x174.2 :: eSl w131 114 T_Item x123 :: eVar b2 48 T_Network p0 :: L) := O280.drop 2
           have O304 : Ow G279 H277 (eVar b2 48 T_Network p0 :: eVar b62 41 rV w181 :: eSl w181 9 rS x174.2 :: eSl w131 114 T_Item x123 :: L) := O303.front (j := 3) rfl
           have O305 : Ow G279 H277 (eSl w181 9 rS x174.2 :: eVar b2 48 T_Network p0 :: eVar b62 41 rV w181 :: eSl w131 114 T_Item x123 :: L) := O304.front (j := 2) rfl
           have O306 : Ow G279 H277 (eVar b62 41 rV w181 :: eSl w181 9 rS x174.2 :: eVar b2 48 T_Network p0 :: eSl w131 114 T_Item x123 :: L) := O305.front (j := 2) rfl
           have O307 : Ow G279 H277 (eSl w131 114 T_Item x123 :: eVar b62 41 rV w181 :: eSl w181 9 rS x174.2 :: eVar b2 48 T_Network p0 :: L) := O306.front (j := 3) rfl
           exact ⟨k139, Nat.lt_succ_self _, ⟨x174.2, kwrap .i64 (x141 + 1), w181, _, h302, O307, (GM.le.trans s147 (GM.le.trans s179 (GM.le.trans s246 s281))), rfl⟩⟩
     ·have h309 := neg_b g151 h148
      refine .exit ?_
      obtain rfl := Option.some.inj h309
      exact ⟨x140, w149, _, rfl, O146, s147⟩
    ·rintro σ311 H312 fr313 ⟨x310, w318, G314, rfl, O315, s316⟩
     have h319 := tu1_inv (outS_r h138)
     refine .seq ?_
     refine .region ?_
     refine W.pure (v := (.int .i64 0)) rfl rfl (v_assign (oo rfl rfl)) ?_
     refine .nil ?_
     refine .ret ?_
     have O320 : Ow G314 H312 (eVar b62 41 rV w318 :: eSl w318 9 rS x310 :: eVar b2 48 T_Network p0 :: L) := O315.drop 0
     have O321 : Ow G314 H312 (eSl w318 9 rS x310 :: eVar b2 48 T_Network p0 :: L) := O320.drop 0
     have O322 : Ow G314 H312 (eVar b2 48 T_Network p0 :: L) := O321.drop 0
     have O323 : Ow G314 H312 (L) := O322.drop 0
     obtain rfl := Option.some.inj h319
     refine ret1R (P := Try.prog) (fn := Try.f23) (n := 105) (R := fun v H' => ∃ G', Ow G' H' (L) ∧ G.le G' ∧ v = .int .i64 0) (v1 := (.int .i64 0)) (by rfl) (rr_tmp (by rfl) (by exact rfl)) ?_
     exact ⟨_, O323, (GM.le.trans s53 (GM.le.trans s116 (GM.le.trans s128 s316))), rfl⟩
def g_law_wide (K : Nat) (p0 : Network) : Option Bool := (Option.bind ((if (decide ((List.length p0.Nodes : Int) > 8)) = true then some true else (if (decide ((List.length p0.Branches : Int) > 10)) = true then some true else some (decide ((List.length p0.Switches : Int) > 10))))) (tu1 fun x26 => some x26))
set_option maxHeartbeats 4000000 in
theorem g_law_wide_ok (K : Nat) {G : GM} {H : AH} {L : List Pc} (v0 : List Value) (p0 : Network) (hp0 : T_Network.rep G v0 p0) (O : Ow G H (L)) (r : Bool) (h : g_law_wide K p0 = some r) :
  CR Try.prog 45 [.agg (List.toArray v0)] G H (L) (fun v G' _ => v = .bool r) := by
 unfold g_law_wide at h
 refine CR.of (calls_of_AW (n := 19) (fn := Try.f45) (R := fun v H' => ∃ G', Ow G' H' (L) ∧ G.le G' ∧ v = .bool r) (by kernel_rfl) rfl rfl ?_)
 refine .seq ?_
 refine .region ?_
 refine W.lo rfl rfl (Lo.box (r := T_Network) (x0 := p0) (v := (.agg (List.toArray v0))) rfl rfl hp0 O) ?_
 rintro v4 H5 ⟨b2, rfl, O1, sm3⟩
 refine W.pure (v := (.bool false)) rfl rfl (v_assign (oo rfl rfl)) ?_
 refine .nil ?_
 refine .seq ?_
 obtain ⟨q6, h7, h8⟩ := bd_inv h
 refine AW.midT (fun σ' H' => ∃ (y1 : Bool) (G' : GM), y1 = q6 ∧ Ow G' H' (eVar b2 48 T_Network p0 :: L) ∧ GM.le G G' ∧ σ' 2 = .bool y1) ?_ ?_
 ·refine .region ?_
  refine W.pure (v := (padd (.pointer (some ⟨b2, 0, none⟩)) 0)) rfl rfl (v_fldA fl48_0 (oo rfl rfl) (O1.atVar (j := 0) rfl)) ?_
  obtain ⟨w9, p10, f11⟩ := At.sl (At.proj (O1.atVar (j := 0) rfl) p_Network_Nodes)
  refine W.load1 (v := w9) (r := []) rfl rfl ag41 (pt_px rfl p10) ?_
  refine W.pure (v := (.int .i64 (List.length p0.Nodes : Int))) rfl rfl (len_sl (oo rfl rfl) (sl_len f11) (elemT_inv el41)) ?_
  refine W.pure (v := (.bool (decide ((List.length p0.Nodes : Int) > 8)))) rfl rfl (v_int (oo rfl rfl) (oo rfl rfl) rfl) ?_
  refine W.pure (v := (.bool (decide ((List.length p0.Nodes : Int) > 8)))) rfl rfl (v_move (oo rfl rfl)) ?_
  refine W.splitAt (t := 7) (b := decide ((List.length p0.Nodes : Int) > 8)) rfl (fun g12 gv13 => ?_) (fun g12 gv13 => ?_)
  ·have h14 := pos_inv g12 h7
   refine W.skip (gk rfl rfl gv13 rfl) rfl ?_
   refine W.skip (gk rfl rfl gv13 rfl) rfl ?_
   refine W.skip (gk rfl rfl gv13 rfl) rfl ?_
   refine W.skip (gk rfl rfl gv13 rfl) rfl ?_
   refine W.pure (v := (.bool true)) rfl rfl (v_pickT (oo rfl gv13) (oo rfl rfl)) ?_
   refine W.pure (v := (.bool true)) rfl rfl (v_move (oo rfl rfl)) ?_
   refine W.skip (gk rfl rfl rfl rfl) rfl ?_
   refine W.skip (gk rfl rfl rfl rfl) rfl ?_
   refine W.skip (gk rfl rfl rfl rfl) rfl ?_
   refine W.skip (gk rfl rfl rfl rfl) rfl ?_
   refine W.pure (v := (.bool true)) rfl rfl (v_pickT (oo rfl rfl) (oo rfl rfl)) ?_
   refine W.pure (v := (.bool true)) rfl rfl (v_assign (oo rfl rfl)) ?_
   refine .nil ?_
   obtain rfl := Option.some.inj h14
   exact ⟨true, _, rfl, O1, (GM.le.refl _), rfl⟩
  ·have h15 := neg_b g12 h7
   refine W.pure (v := (padd (.pointer (some ⟨b2, 0, none⟩)) 2)) (gk rfl rfl gv13 rfl) rfl (v_fldA fl48_2 (oo rfl rfl) (O1.atVar (j := 0) rfl)) ?_
   obtain ⟨w16, p17, f18⟩ := At.sl (At.proj (O1.atVar (j := 0) rfl) p_Network_Branches)
   refine W.load1 (v := w16) (r := []) (gk rfl rfl gv13 rfl) rfl ag43 (pt_px rfl p17) ?_
   refine W.pure (v := (.int .i64 (List.length p0.Branches : Int))) (gk rfl rfl gv13 rfl) rfl (len_sl (oo rfl rfl) (sl_len f18) (elemT_inv el43)) ?_
   refine W.pure (v := (.bool (decide ((List.length p0.Branches : Int) > 10)))) (gk rfl rfl gv13 rfl) rfl (v_int (oo rfl rfl) (oo rfl rfl) rfl) ?_
   refine W.pure (v := (.bool (decide ((List.length p0.Branches : Int) > 10)))) rfl rfl (v_pickF (oo rfl gv13) (oo rfl rfl)) ?_
   refine W.pure (v := (.bool (decide ((List.length p0.Branches : Int) > 10)))) rfl rfl (v_move (oo rfl rfl)) ?_
   refine W.splitAt (t := 13) (b := decide ((List.length p0.Branches : Int) > 10)) rfl (fun g19 gv20 => ?_) (fun g19 gv20 => ?_)
   ·have h21 := pos_inv g19 h15
    refine W.skip (gk rfl rfl gv20 rfl) rfl ?_
    refine W.skip (gk rfl rfl gv20 rfl) rfl ?_
    refine W.skip (gk rfl rfl gv20 rfl) rfl ?_
    refine W.skip (gk rfl rfl gv20 rfl) rfl ?_
    refine W.pure (v := (.bool true)) rfl rfl (v_pickT (oo rfl gv20) (oo rfl rfl)) ?_
    refine W.pure (v := (.bool true)) rfl rfl (v_assign (oo rfl rfl)) ?_
    refine .nil ?_
    obtain rfl := Option.some.inj h21
    exact ⟨true, _, rfl, O1, (GM.le.refl _), rfl⟩
   ·have h22 := neg_b g19 h15
    refine W.pure (v := (padd (.pointer (some ⟨b2, 0, none⟩)) 1)) (gk rfl rfl gv20 rfl) rfl (v_fldA fl48_1 (oo rfl rfl) (O1.atVar (j := 0) rfl)) ?_
    obtain ⟨w23, p24, f25⟩ := At.sl (At.proj (O1.atVar (j := 0) rfl) p_Network_Switches)
    refine W.load1 (v := w23) (r := []) (gk rfl rfl gv20 rfl) rfl ag42 (pt_px rfl p24) ?_
    refine W.pure (v := (.int .i64 (List.length p0.Switches : Int))) (gk rfl rfl gv20 rfl) rfl (len_sl (oo rfl rfl) (sl_len f25) (elemT_inv el42)) ?_
    refine W.pure (v := (.bool (decide ((List.length p0.Switches : Int) > 10)))) (gk rfl rfl gv20 rfl) rfl (v_int (oo rfl rfl) (oo rfl rfl) rfl) ?_
    refine W.pure (v := (.bool (decide ((List.length p0.Switches : Int) > 10)))) rfl rfl (v_pickF (oo rfl gv20) (oo rfl rfl)) ?_
    refine W.pure (v := (.bool (decide ((List.length p0.Switches : Int) > 10)))) rfl rfl (v_assign (oo rfl rfl)) ?_
    refine .nil ?_
    obtain rfl := Option.some.inj h22
    exact ⟨decide ((List.length p0.Switches : Int) > 10), _, rfl, O1, (GM.le.refl _), rfl⟩
 ·rintro σ27 H28 fr29 ⟨x26, G30, rfl, O31, s32, t34⟩
  have h35 := tu1_inv h8
  refine .ret ?_
  have O36 : Ow G30 H28 (L) := O31.drop 0
  obtain rfl := Option.some.inj h35
  refine ret1R (P := Try.prog) (fn := Try.f45) (n := 19) (R := fun v H' => ∃ G', Ow G' H' (L) ∧ G.le G' ∧ v = .bool x26) (v1 := (.bool x26)) (by rfl) (rr_tmp (by rfl) (by exact t34)) ?_
  exact ⟨_, O36, s32, rfl⟩
def g_R_Switching_l0 (K : Nat) (p0 : Network) : Nat → List (List Int) → Int → Option (List (List Int))
 | 0, _, _ => none
 | k + 1, x14, x15 => (if (decide (x15 < (List.length p0.Switches : Int))) = true then ((idx p0.Switches x15).bind fun x26 => ((g_R_Place K p0.Nodes x26.A).bind fun x50 => ((g_R_Place K p0.Nodes x26.B).bind fun x64 => (if List.length x14 + List.length [[x50, x64]] ≤ 16777216 then g_R_Switching_l0 K p0 k (x14 ++ [[x50, x64]]) (kwrap .i64 (x15 + 1)) else none)))) else some x14)
def g_R_Switching (K : Nat) (p0 : Network) : Option (List (List Int)) := (Option.bind (g_R_Switching_l0 K p0 K [] 0) (tu1 fun x96 => some x96))
set_option maxHeartbeats 4000000 in
theorem g_R_Switching_ok (K : Nat) {G : GM} {H : AH} {L : List Pc} (v0 : List Value) (p0 : Network) (hp0 : T_Network.rep G v0 p0) (O : Ow G H (L)) (r : List (List Int)) (h : g_R_Switching K p0 = some r) :
  CRF Try.prog 47 [.agg (List.toArray v0)] G H (fun w0 => (eSl w0 29 (rArr 2 (rI .i64)) r :: L)) (fun w0 v G' => w0 = v) := by
 unfold g_R_Switching at h
 refine CRF.of (calls_of_AW (n := 29) (fn := Try.f47) (R := fun v H' => ∃ w0 G', Ow G' H' (eSl w0 29 (rArr 2 (rI .i64)) r :: L) ∧ G.le G' ∧ w0 = v) (by kernel_rfl) rfl rfl ?_)
 refine .seq ?_
 refine .region ?_
 refine W.lo rfl rfl (Lo.box (r := T_Network) (x0 := p0) (v := (.agg (List.toArray v0))) rfl rfl hp0 O) ?_
 rintro v4 H5 ⟨b2, rfl, O1, sm3⟩
 refine W.pure (v := (.slice none 0 0)) rfl rfl (v_assign (oo rfl rfl)) ?_
 refine .nil ?_
 refine .seq ?_
 refine .region ?_
 refine W.pure (v := (.slice none 0 0)) rfl rfl (v_assign (oo rfl rfl)) ?_
 refine .nil ?_
 refine .seq ?_
 refine .seq ?_
 refine .region ?_
 refine W.pure (v := (padd (.pointer (some ⟨b2, 0, none⟩)) 1)) rfl rfl (v_fldA fl48_1 (oo rfl rfl) (O1.atVar (j := 0) rfl)) ?_
 obtain ⟨w6, p7, f8⟩ := At.sl (At.proj (O1.atVar (j := 0) rfl) p_Network_Switches)
 refine W.load1 (v := w6) (r := []) rfl rfl ag42 (pt_px rfl p7) ?_
 refine W.pure (v := (.int .i64 (List.length p0.Switches : Int))) rfl rfl (len_sl (oo rfl rfl) (sl_len f8) (elemT_inv el42)) ?_
 refine W.pure (v := (.int .i64 0)) rfl rfl (v_move (oo rfl rfl)) ?_
 refine .nil ?_
 obtain ⟨q9, h10, h11⟩ := bd_inv h
 refine AW.midT (fun σ' H' => ∃ (y1 : List (List Int)) (G' : GM), y1 = q9 ∧ Ow G' H' (eVar b2 48 T_Network p0 :: eSl (σ' 3) 29 (rArr 2 (rI .i64)) y1 :: L) ∧ GM.le G G') ?_ ?_
 ·refine .block ?_
  have O12 := O1.nilSl 29 (rArr 2 (rI .i64))
  refine AW.loop (α := Nat) (fun k' σ' H' => ∃ (y1 : List (List Int)) (y2 : Int) (G' : GM), g_R_Switching_l0 K p0 k' y1 y2 = some q9 ∧ Ow G' H' (eSl (σ' 3) 29 (rArr 2 (rI .i64)) y1 :: eVar b2 48 T_Network p0 :: L) ∧ GM.le G G' ∧ σ' 9 = .int .i64 y2) (fun k' => k') K ⟨[], 0, _, h10, O12, (GM.le.refl _), rfl⟩ ?_
  rintro k13
  rintro σ16 H17 fr18 ⟨x14, x15, G19, h22, O20, s21, t23⟩
  rcases k13 with _ | k13
  ·exact none_absurd h22
  rw [g_R_Switching_l0] at h22
  refine .seq ?_
  refine .region ?_
  refine W.pure (v := (.bool (decide (x15 < (List.length p0.Switches : Int))))) rfl rfl (v_int (oo rfl t23) (oo rfl ((fr18 8 rfl).trans rfl)) rfl) ?_
  refine .nil ?_
  refine .seq ?_
  refine .cond (b := decide (x15 < (List.length p0.Switches : Int))) rfl rfl (fun g24 => ?_) (fun g24 => ?_)
  ·have h25 := pos_inv g24 h22
   refine .skip ?_
   refine .seq ?_
   refine .block ?_
   refine .seq ?_
   refine .region ?_
   obtain ⟨x26, i27, h28⟩ := bd_inv h25
   have j29 := idx_inv i27
   refine W.pure (v := (selem w6 (Int.toNat x15 * 5))) rfl rfl (v_idx el42 sz81 (oo rfl ((fr18 7 rfl).trans rfl)) (oo rfl t23) (sl_len (RT.mono _ s21 f8)) j29.1 j29.2.1) ?_
   obtain ⟨c30, p31, f32⟩ := (At.le (At.le (sl_idx f8 j29.2.2) s21 s21) (GM.le.refl _) O20.fro)
   refine W.loadA (cs := c30) rfl rfl ag81 sz81 (pt_px rfl p31) (RT.len _ f32) ?_
   refine W.lo rfl rfl (Lo.alloc (r := T_Switch) (x0 := (Switch.mk ByteArray.empty ByteArray.empty ByteArray.empty false false)) ze81 (by kernel_rfl) z_Switch O20) ?_
   rintro v36 H37 ⟨b34, rfl, O33, sm35⟩
   refine W.lo rfl rfl (Lo.storeVar (j := 0) (s := T_Switch) (y0 := x26) (v := (.agg (List.toArray c30))) (o := 0) rfl ((Put.at (Put.self _) _ _)) rfl sz81 rfl (by omega) rfl f32 O33) ?_
   rintro v40 H41 ⟨O38, sm39⟩
   replace O38 : Ow G19 H41 (eVar b34 81 T_Switch x26 :: eSl (σ16 3) 29 (rArr 2 (rI .i64)) x14 :: eVar b2 48 T_Network p0 :: L) := O38
   refine .nil ?_
   refine .draw2 (M := [0, 0, 2, 0, 8, 30, 0, 64, 0, 256, 1022, 2046, 4094, 8191, 16383]) mixed (by kernel_rfl) (by kernel_rfl) fun H42 N46 x43 F45 => ?_
   have O44 := O38.ext x43
   refine D2.pure (v := (σ16 3)) rfl rfl (v_move (oo rfl rfl)) ?_
   refine D2.pure (v := (padd (.pointer (some ⟨b2, 0, none⟩)) 0)) rfl rfl (v_fldA fl48_0 (oo rfl ((fr18 1 rfl).trans rfl)) (O44.atVar (j := 2) rfl)) ?_
   obtain ⟨w47, p48, f49⟩ := At.sl (At.proj (O44.atVar (j := 2) rfl) p_Network_Nodes)
   refine D2.load1' (v := w47) (r := []) rfl rfl ag41 (pt_px rfl p48) fa_nil ?_
   refine D2.pure (v := (padd (.pointer (some ⟨b34, 0, none⟩)) 1)) rfl rfl (v_fldA fl81_1 (oo rfl rfl) (O44.atVar (j := 0) rfl)) ?_
   refine D2.load1' (v := (.string x26.A)) (r := []) rfl rfl ag9 (pt_px rfl (At.str (At.proj (O44.atVar (j := 0) rfl) p_Switch_A))) fa_nil ?_
   obtain ⟨x50, i51, h52⟩ := bd_inv h28
   refine D2.lo rfl rfl (Lo.callP (ps := []) (ps' := []) rfl (fn := Try.f46) (by kernel_rfl) rfl (mc rfl (mc rfl mn)) O44 (fun L' O' => g_R_Place_ok K w47 p0.Nodes f49 x26.A O' _ i51)) ?_ fa_nil ?_ ?_
   ·rintro v59 H60 ⟨G53, O54, s55, sm58, rfl⟩; exact (faR1 (.inl (by decide)) (faR1 (.inl (by decide)) fa_nil))
   ·rintro v59 H60 ⟨G53, O54, s55, sm58, rfl⟩; exact fa_nil
   rintro v59 H60 ⟨G53, O54, s55, sm58, rfl⟩
   replace O54 : Ow G53 H60 (eVar b34 81 T_Switch x26 :: eSl (σ16 3) 29 (rArr 2 (rI .i64)) x14 :: eVar b2 48 T_Network p0 :: L) := O54
   refine D2.pure (v := (padd (.pointer (some ⟨b2, 0, none⟩)) 0)) rfl rfl (v_fldA fl48_0 (oo rfl ((fr18 1 rfl).trans rfl)) (O54.atVar (j := 2) rfl)) ?_
   obtain ⟨w61, p62, f63⟩ := At.sl (At.proj (O54.atVar (j := 2) rfl) p_Network_Nodes)
   refine D2.load1' (v := w61) (r := []) rfl rfl ag41 (pt_px rfl p62) (faQ_eq (sm58 _ (Or.inr ⟨2, _, rfl, List.mem_singleton.2 rfl⟩)) fa_nil) ?_
   refine D2.pure (v := (padd (.pointer (some ⟨b34, 0, none⟩)) 2)) rfl rfl (v_fldA fl81_2 (oo rfl rfl) (O54.atVar (j := 0) rfl)) ?_
   refine D2.load1' (v := (.string x26.B)) (r := []) rfl rfl ag9 (pt_px rfl (At.str (At.proj (O54.atVar (j := 0) rfl) p_Switch_B))) (faQ_eq (sm58 _ (Or.inr ⟨0, _, rfl, List.mem_singleton.2 rfl⟩)) fa_nil) ?_
   obtain ⟨x64, i65, h66⟩ := bd_inv h52
   refine D2.lo rfl rfl (Lo.callP (ps := []) (ps' := []) rfl (fn := Try.f46) (by kernel_rfl) rfl (mc rfl (mc rfl mn)) O54 (fun L' O' => g_R_Place_ok K w61 p0.Nodes f63 x26.B O' _ i65)) ?_ (faL_bit (by decide) fa_nil) ?_ ?_
   ·rintro v73 H74 ⟨G67, O68, s69, sm72, rfl⟩; exact (faR1 (.inl (by decide)) (faR1 (.inl (by decide)) (faR1 (.inl (by decide)) (faR1 (.inl (by decide)) fa_nil))))
   ·rintro v73 H74 ⟨G67, O68, s69, sm72, rfl⟩; exact fa_nil
   rintro v73 H74 ⟨G67, O68, s69, sm72, rfl⟩
   replace O68 : Ow G67 H74 (eVar b34 81 T_Switch x26 :: eSl (σ16 3) 29 (rArr 2 (rI .i64)) x14 :: eVar b2 48 T_Network p0 :: L) := O68
   obtain ⟨c75, e77, f76⟩ := v_buildAA (P := Try.prog) (r := (rI .i64)) (vs := [(.int .i64 x50), (.int .i64 x64)]) (xs := [x50, x64]) ar29 sz3 ze29 zo29 rfl (by kernel_rfl) (.cons rfl (.cons rfl .nil))
   refine D2.pure (v := .agg (List.toArray c75)) rfl rfl (e77 (opndP_oo rfl (qc rfl (qc rfl qn)))) ?_
   refine D2.lo rfl rfl (Lo.buildSlice (r := (rArr 2 (rI .i64))) (vs := [(.agg (List.toArray c75))]) (xs := [[x50, x64]]) el22 ze29 sz29 (by kernel_rfl) rfl (qc rfl qn) rfl (.cons f76 .nil) O68) ?_ (faL_bit (by decide) (faL_bit (by decide) fa_nil)) ?_ ?_
   ·rintro v80 H81 ⟨O78, sm79⟩; exact (faR1 (.inl (by decide)) (faR1 (.inl (by decide)) (faR1 (.inl (by decide)) (faR1 (.inl (by decide)) fa_nil))))
   ·rintro v80 H81 ⟨O78, sm79⟩; exact fa_nil
   rintro v80 H81 ⟨O78, sm79⟩
   obtain ⟨es83, e84, e85⟩ := src_own (j := 0) rfl O78
   obtain ⟨g86, h87⟩ := gd_inv h66
   refine D2.lo rfl rfl (Lo.append (j := 2) (v := (σ16 3)) rfl rfl el22 ni22 ze29 sz29 by29 (by decide) (by decide) rfl e84 e85 g86 O78) ?_ (faL_bit (by decide) (faL_bit (by decide) (faL_bit (by decide) fa_nil))) ?_ ?_
   ·rintro v89 H90 ⟨O82, sm88⟩; exact (faR1 (.inl (by decide)) (faR1 (.inl (by decide)) (faR1 (.inl (by decide)) (faR1 (.inl (by decide)) fa_nil))))
   ·rintro v89 H90 ⟨O82, sm88⟩; exact fa_nil
   rintro v89 H90 ⟨O82, sm88⟩
   replace O82 : Ow G67 H90 (eSl v80 29 (rArr 2 (rI .i64)) [[x50, x64]] :: eVar b34 81 T_Switch x26 :: eSl v89 29 (rArr 2 (rI .i64)) (x14 ++ [[x50, x64]]) :: eVar b2 48 T_Network p0 :: L) := O82
   refine D2.pure (v := v89) rfl rfl (v_assign (oo rfl rfl)) ?_
   refine .nil ?_
   refine .region ?_
   refine W.pure (v := (.int .i64 (kwrap .i64 (x15 + 1)))) rfl rfl (v_int (oo rfl t23) (oo rfl rfl) rfl) ?_
   refine W.pure (v := (.int .i64 (kwrap .i64 (x15 + 1)))) rfl rfl (v_move (oo rfl rfl)) ?_
   refine .nil ?_
   have O91 : Ow G67 H90 (eVar b34 81 T_Switch x26 :: eSl v89 29 (rArr 2 (rI .i64)) (x14 ++ [[x50, x64]]) :: eVar b2 48 T_Network p0 :: L) := O82.drop 0
   have O92 : Ow G67 H90 (eSl v89 29 (rArr 2 (rI .i64)) (x14 ++ [[x50, x64]]) :: eVar b2 48 T_Network p0 :: L) := O91.drop 0
   exact ⟨k13, Nat.lt_succ_self _, ⟨(x14 ++ [[x50, x64]]), kwrap .i64 (x15 + 1), _, h87, O92, (GM.le.trans s21 (GM.le.trans s55 s69)), rfl⟩⟩
  ·have h93 := neg_b g24 h22
   refine .exit ?_
   have O94 : Ow G19 H17 (eSl (σ16 3) 29 (rArr 2 (rI .i64)) x14 :: eVar b2 48 T_Network p0 :: L) := O20.front (j := 0) rfl
   have O95 : Ow G19 H17 (eVar b2 48 T_Network p0 :: eSl (σ16 3) 29 (rArr 2 (rI .i64)) x14 :: L) := O94.front (j := 1) rfl
   obtain rfl := Option.some.inj h93
   exact ⟨x14, _, rfl, O95, s21⟩
 ·rintro σ97 H98 fr99 ⟨x96, G100, rfl, O101, s102⟩
  have h104 := tu1_inv h11
  refine .seq ?_
  refine .region ?_
  refine W.pure (v := (σ97 3)) rfl rfl (v_move (oo rfl rfl)) ?_
  refine W.pure (v := (σ97 3)) rfl rfl (v_assign (oo rfl rfl)) ?_
  refine .nil ?_
  refine .ret ?_
  have O105 : Ow G100 H98 (eSl (σ97 3) 29 (rArr 2 (rI .i64)) x96 :: L) := O101.drop 0
  obtain rfl := Option.some.inj h104
  refine ret1R (P := Try.prog) (fn := Try.f47) (n := 29) (R := fun v H' => ∃ w0 G', Ow G' H' (eSl w0 29 (rArr 2 (rI .i64)) x96 :: L) ∧ G.le G' ∧ w0 = v) (v1 := (σ97 3)) (by rfl) (rr_tmp (by rfl) (by exact rfl)) ?_
  exact ⟨(σ97 3), _, O105, s102, rfl⟩
def g_R_Closed_1 (K : Nat) (p0 : Int) (p1 : Network) : Option Bool := ((idx p1.Switches p0).bind fun x4 => some (!x4.Open))
set_option maxHeartbeats 4000000 in
theorem g_R_Closed_1_ok (K : Nat) {G : GM} {H : AH} {L : List Pc} (p0 : Int) (v1 : Value) (p1 : Network) (hp1 : At G G v1 T_Network p1) (O : Ow G H (L)) (r : Bool) (h : g_R_Closed_1 K p0 p1 = some r) :
  CR Try.prog 91 [(.int .i64 p0), v1] G H (L) (fun v G' _ => v = .bool r) := by
 unfold g_R_Closed_1 at h
 refine CR.of (calls_of_AW (n := 11) (fn := Try.f91) (R := fun v H' => ∃ G', Ow G' H' (L) ∧ G.le G' ∧ v = .bool r) (by kernel_rfl) rfl rfl ?_)
 refine .seq ?_
 refine .region ?_
 refine W.pure (v := (.bool false)) rfl rfl (v_assign (oo rfl rfl)) ?_
 refine .nil ?_
 refine .seq ?_
 refine .region ?_
 refine W.pure (v := (padd v1 1)) rfl rfl (v_fldA fl48_1 (oo rfl rfl) (At.le hp1 (GM.le.refl _) O.fro)) ?_
 obtain ⟨w1, p2, f3⟩ := At.sl (At.proj hp1 p_Network_Switches)
 replace p2 := PtG.le p2 O.fro
 refine W.load1 (v := w1) (r := []) rfl rfl ag42 (pt_px rfl p2) ?_
 refine W.pure (v := (.int .i64 p0)) rfl rfl (v_move (oo rfl rfl)) ?_
 obtain ⟨x4, i5, h6⟩ := bd_inv h
 have j7 := idx_inv i5
 refine W.pure (v := (selem w1 (Int.toNat p0 * 5))) rfl rfl (v_idx el42 sz81 (oo rfl rfl) (oo rfl rfl) (sl_len f3) j7.1 j7.2.1) ?_
 refine W.pure (v := (padd (selem w1 (Int.toNat p0 * 5)) 4)) rfl rfl (v_fldA fl81_4 (oo rfl rfl) (At.le (sl_idx f3 j7.2.2) (GM.le.refl _) O.fro)) ?_
 refine W.load1 (v := (.bool x4.Open)) (r := []) rfl rfl ag4 (pt_px rfl (At.bool (At.le (At.proj (sl_idx f3 j7.2.2) p_Switch_Open) (GM.le.refl _) O.fro))) ?_
 refine W.pure (v := (.bool (!x4.Open))) rfl rfl (bool_not (a := x4.Open) (oo rfl rfl)) ?_
 refine W.pure (v := (.bool (!x4.Open))) rfl rfl (v_assign (oo rfl rfl)) ?_
 refine .nil ?_
 refine .ret ?_
 obtain rfl := Option.some.inj h6
 refine ret1R (P := Try.prog) (fn := Try.f91) (n := 11) (R := fun v H' => ∃ G', Ow G' H' (L) ∧ G.le G' ∧ v = .bool (!x4.Open)) (v1 := (.bool (!x4.Open))) (by rfl) (rr_tmp (by rfl) (by exact rfl)) ?_
 exact ⟨_, O, (GM.le.refl _), rfl⟩
def g_R_Closed (K : Nat) (p0 : Network) : Option (Int → Option Bool) := some (fun x => g_R_Closed_1 K x p0)
set_option maxHeartbeats 4000000 in
theorem g_R_Closed_ok (K : Nat) {G : GM} {H : AH} {L : List Pc} (v0 : List Value) (p0 : Network) (hp0 : T_Network.rep G v0 p0) (O : Ow G H (L)) (r : Int → Option Bool) (h : g_R_Closed K p0 = some r) :
  CR Try.prog 48 [.agg (List.toArray v0)] G H (L) (fun v G' _ => ∃ (w0 : Value), w0 = v ∧ FnOk Try.prog G' w0 (fun _ vs (x : (Int)) => vs = [.int .i64 x]) (fun _ v (rr : (Bool)) => v = .bool rr) r) := by
 unfold g_R_Closed at h
 refine CR.of (calls_of_AW (n := 4) (fn := Try.f48) (R := fun v H' => ∃ G', Ow G' H' (L) ∧ G.le G' ∧ ∃ (w0 : Value), w0 = v ∧ FnOk Try.prog G' w0 (fun _ vs (x : (Int)) => vs = [.int .i64 x]) (fun _ v (rr : (Bool)) => v = .bool rr) r) (by kernel_rfl) rfl rfl ?_)
 refine .seq ?_
 refine .region ?_
 refine W.lo rfl rfl (Lo.box (r := T_Network) (x0 := p0) (v := (.agg (List.toArray v0))) rfl rfl hp0 O) ?_
 rintro v4 H5 ⟨b2, rfl, O1, sm3⟩
 refine W.pure (v := Value.nilFunc) rfl rfl (v_assign (oo rfl rfl)) ?_
 refine .nil ?_
 refine .seq ?_
 refine .region ?_
 refine W.pure (v := (.func (.func 91) #[] #[(.pointer (some ⟨b2, 0, none⟩))])) rfl rfl (v_makeFunc (opndL_ooL rfl mn) (opndL_ooL rfl (mc rfl mn))) ?_
 refine W.pure (v := (.func (.func 91) #[] #[(.pointer (some ⟨b2, 0, none⟩))])) rfl rfl (v_assign (oo rfl rfl)) ?_
 refine .nil ?_
 refine .ret ?_
 obtain ⟨G6, O7, s8, f9⟩ := O1.frzVar (j := 0) rfl
 replace O7 : Ow G6 H5 (L) := O7
 obtain rfl := Option.some.inj h
 refine ret1R (P := Try.prog) (fn := Try.f48) (n := 4) (R := fun v H' => ∃ G', Ow G' H' (L) ∧ G.le G' ∧ ∃ (w0 : Value), w0 = v ∧ FnOk Try.prog G' w0 (fun _ vs (x : (Int)) => vs = [.int .i64 x]) (fun _ v (rr : (Bool)) => v = .bool rr) (fun x => g_R_Closed_1 K x p0)) (v1 := (.func (.func 91) #[] #[(.pointer (some ⟨b2, 0, none⟩))])) (by rfl) (rr_tmp (by rfl) (by exact rfl)) ?_
 exact ⟨_, O7, s8, (.func (.func 91) #[] #[(.pointer (some ⟨b2, 0, none⟩))]), rfl, ⟨91, _, _, Try.f91, rfl, by kernel_rfl, rfl, fun G1 H L vs x r hG O hA hF => by obtain rfl := hA; exact g_R_Closed_1_ok K x (.pointer (some ⟨b2, 0, none⟩)) p0 (At.le f9 hG hG) O _ hF⟩⟩
def g_R_Joined_l0 (K : Nat) (p0 : Int) : Nat → List (List Bool) → Int → Option (List (List Bool))
 | 0, _, _ => none
 | k + 1, x12, x13 => (lt (decide (x13 < (List.length (List.replicate (Int.toNat p0) ([] : List Bool)) : Int))) fun x23 => (if x23 = true then (if 0 ≤ p0 ∧ p0 ≤ p0 ∧ p0 ≤ 16777216 then ((idx x12 x13).bind fun x34 => ((idx (List.set x12 (Int.toNat x13) (List.replicate (Int.toNat p0) false)) x13).bind fun x50 => ((idx x50 x13).bind fun x59 => g_R_Joined_l0 K p0 k (List.set (List.set x12 (Int.toNat x13) (List.replicate (Int.toNat p0) false)) (Int.toNat x13) (List.set x50 (Int.toNat x13) true)) (kwrap .i64 (x13 + 1))))) else none) else some x12))
def g_R_Joined_l2 (K : Nat) (p1 : List (List Int)) (p2 : Int → Option Bool) : Nat → List (List Bool) → Int → Option (List (List Bool))
 | 0, _, _ => none
 | k + 1, x83, x84 => (if (decide (x84 < (List.length p1 : Int))) = true then (Option.bind (((idx p1 x84).bind fun x98 => ((p2 x84).bind fun x114 => (if x114 = true then ((idx x98 0).bind fun x130 => ((idx x83 x130).bind fun x134 => ((idx x98 1).bind fun x142 => ((idx x98 1).bind fun x146 => ((idx x83 x146).bind fun x150 => ((idx x98 0).bind fun x158 => ((idx x134 x142).bind fun x163 => ((idx (List.set x83 (Int.toNat x130) (List.set x134 (Int.toNat x142) true)) x146).bind fun x172 => ((idx x172 x158).bind fun x177 => some (List.set (List.set x83 (Int.toNat x130) (List.set x134 (Int.toNat x142) true)) (Int.toNat x146) (List.set x172 (Int.toNat x158) true))))))))))) else some x83)))) (tu1 fun x189 => g_R_Joined_l2 K p1 p2 k x189 (kwrap .i64 (x84 + 1)))) else some x83)
def g_R_Joined_l8 (K : Nat) (p0 : Int) (x213 : Int) (x229 : Int) : Nat → List (List Bool) → Int → Option (List (List Bool))
 | 0, _, _ => none
 | k + 1, x244, x245 => (if (decide (x245 < p0)) = true then (Option.bind (((idx x244 x229).bind fun x264 => ((idx x244 x229).bind fun x272 => ((idx x272 x245).bind fun x281 => (if x281 = true then ((idx x264 x245).bind fun x290 => some (List.set x244 (Int.toNat x229) (List.set x264 (Int.toNat x245) true))) else ((idx x244 x229).bind fun x301 => ((idx x301 x213).bind fun x310 => (if x310 = true then ((idx x244 x213).bind fun x318 => ((idx x318 x245).bind fun x327 => ((idx x264 x245).bind fun x333 => some (List.set x244 (Int.toNat x229) (List.set x264 (Int.toNat x245) x327))))) else ((idx x264 x245).bind fun x345 => some (List.set x244 (Int.toNat x229) (List.set x264 (Int.toNat x245) false))))))))))) (tu1 fun x354 => g_R_Joined_l8 K p0 x213 x229 k x354 (kwrap .i64 (x245 + 1)))) else some x244)
def g_R_Joined_l6 (K : Nat) (p0 : Int) (x213 : Int) : Nat → List (List Bool) → Int → Option (List (List Bool))
 | 0, _, _ => none
 | k + 1, x228, x229 => (if (decide (x229 < p0)) = true then (Option.bind (g_R_Joined_l8 K p0 x213 x229 K x228 0) (tu1 fun x364 => g_R_Joined_l6 K p0 x213 k x364 (kwrap .i64 (x229 + 1)))) else some x228)
def g_R_Joined_l4 (K : Nat) (p0 : Int) : Nat → List (List Bool) → Int → Option (List (List Bool))
 | 0, _, _ => none
 | k + 1, x212, x213 => (if (decide (x213 < p0)) = true then (Option.bind (g_R_Joined_l6 K p0 x213 K x212 0) (tu1 fun x374 => g_R_Joined_l4 K p0 k x374 (kwrap .i64 (x213 + 1)))) else some x212)
def g_R_Joined (K : Nat) (p0 : Int) (p1 : List (List Int)) (p2 : Int → Option Bool) : Option (List (List Bool)) := (if 0 ≤ p0 ∧ p0 ≤ p0 ∧ p0 ≤ 16777216 then (Option.bind (g_R_Joined_l0 K p0 K (List.replicate (Int.toNat p0) ([] : List Bool)) 0) (tu1 fun x69 => (Option.bind (g_R_Joined_l2 K p1 p2 K x69 0) (tu1 fun x199 => (Option.bind (g_R_Joined_l4 K p0 K x199 0) (tu1 fun x384 => some x384)))))) else none)
set_option maxHeartbeats 4000000 in
theorem g_R_Joined_ok (K : Nat) {G : GM} {H : AH} {L : List Pc} (p0 : Int) (v1 : Value) (p1 : List (List Int)) (hp1 : (rSl (rArr 2 (rI .i64))).rep G [v1] p1) (v2 : Value) (p2 : Int → Option Bool) (hp2 : FnOk Try.prog G v2 (fun _ vs (x : (Int)) => vs = [.int .i64 x]) (fun _ v (rr : (Bool)) => v = .bool rr) p2) (O : Ow G H (L)) (r : List (List Bool)) (h : g_R_Joined K p0 p1 p2 = some r) :
  CR Try.prog 14 [(.int .i64 p0), v1, v2] G H (L) (fun v G' _ => ∃ (w0 : Value), w0 = v ∧ (rSl (rSl rB)).rep G' [w0] r) := by
 unfold g_R_Joined at h
 refine CR.of (calls_of_AW (n := 107) (fn := Try.f14) (R := fun v H' => ∃ G', Ow G' H' (L) ∧ G.le G' ∧ ∃ (w0 : Value), w0 = v ∧ (rSl (rSl rB)).rep G' [w0] r) (by kernel_rfl) rfl rfl ?_)
 refine .seq ?_
 refine .region ?_
 refine W.pure (v := (.slice none 0 0)) rfl rfl (v_assign (oo rfl rfl)) ?_
 refine .nil ?_
 refine .seq ?_
 refine .region ?_
 refine W.pure (v := (.int .i64 p0)) rfl rfl (v_move (oo rfl rfl)) ?_
 obtain ⟨g2, h3⟩ := gd_inv h
 refine W.lo rfl rfl (Lo.makeRows (a := p0) (c := p0) rB 4 rfl el31 ze30 sz30 by30 (by decide) rfl rfl g2 O) ?_
 rintro v6 H7 ⟨ws4, O1, sm5⟩
 refine W.pure (v := v6) rfl rfl (v_assign (oo rfl rfl)) ?_
 refine .nil ?_
 refine .seq ?_
 refine .seq ?_
 refine .region ?_
 refine W.pure (v := v6) rfl rfl (v_move (oo rfl rfl)) ?_
 refine W.pure (v := (.int .i64 (List.length (List.replicate (Int.toNat p0) ([] : List Bool)) : Int))) rfl rfl (len_sl (oo rfl rfl) (O1.rowsLen (j := 0) rfl) (elemT_inv el31)) ?_
 refine W.pure (v := (.int .i64 0)) rfl rfl (v_move (oo rfl rfl)) ?_
 refine .nil ?_
 obtain ⟨q8, h9, h10⟩ := bd_inv h3
 refine AW.midT (fun σ' H' => ∃ (y1 : List (List Bool)) (ws_p15 : List Value) (G' : GM), y1 = q8 ∧ Ow G' H' (eRows v6 30 ws_p15 [] 4 rB y1 :: L) ∧ GM.le G G') ?_ ?_
 ·refine .block ?_
  refine AW.loop (α := Nat) (fun k' σ' H' => ∃ (y1 : List (List Bool)) (y2 : Int) (ws_p15 : List Value) (G' : GM), g_R_Joined_l0 K p0 k' y1 y2 = some q8 ∧ Ow G' H' (eRows v6 30 ws_p15 [] 4 rB y1 :: L) ∧ GM.le G G' ∧ σ' 18 = .int .i64 y2) (fun k' => k') K ⟨(List.replicate (Int.toNat p0) ([] : List Bool)), 0, ws4, _, h9, O1, (GM.le.refl _), rfl⟩ ?_
  rintro k11
  rintro σ14 H15 fr16 ⟨x12, x13, ws21, G17, h20, O18, s19, t22⟩
  rcases k11 with _ | k11
  ·exact none_absurd h20
  rw [g_R_Joined_l0] at h20
  refine .seq ?_
  refine .region ?_
  refine W.pure (v := (.bool (decide (x13 < (List.length (List.replicate (Int.toNat p0) ([] : List Bool)) : Int))))) rfl rfl (v_int (oo rfl t22) (oo rfl ((fr16 17 rfl).trans rfl)) rfl) ?_
  obtain ⟨x23, e24, h25⟩ := lt_inv h20
  refine .nil ?_
  refine .seq ?_
  refine .cond (b := x23) rfl (congrArg (Value.bool) e24) (fun g26 => ?_) (fun g26 => ?_)
  ·have h27 := pos_inv g26 h25
   refine .skip ?_
   refine .seq ?_
   refine .block ?_
   refine .seq ?_
   refine .region ?_
   refine W.pure (v := (.int .i64 x13)) rfl rfl (v_move (oo rfl t22)) ?_
   refine W.pure (v := (.int .i64 x13)) rfl rfl (v_assign (oo rfl rfl)) ?_
   refine .nil ?_
   refine .seq ?_
   refine .region ?_
   refine W.pure (v := v6) rfl rfl (v_move (oo rfl ((fr16 7 rfl).trans rfl))) ?_
   refine W.pure (v := (.int .i64 x13)) rfl rfl (v_move (oo rfl rfl)) ?_
   refine W.pure (v := (.int .i64 p0)) rfl rfl (v_move (oo rfl ((fr16 0 rfl).trans rfl))) ?_
   obtain ⟨g29, h30⟩ := gd_inv h27
   refine W.lo rfl rfl (Lo.makeSlice (r := rB) (x0 := false) (a := p0) (c := p0) rfl el30 ze4 sz4 (by kernel_rfl) rfl by4 (by decide) rfl rfl g29 zB O18) ?_
   rintro v32 H33 ⟨O28, sm31⟩
   obtain ⟨x34, i35, h36⟩ := bd_inv h30
   have j37 := idx_inv i35
   refine W.pure (v := (selem v6 (Int.toNat x13 * 1))) rfl rfl (v_idx el31 sz30 (oo rfl rfl) (oo rfl rfl) (O28.rowsLen (j := 1) rfl) j37.1 j37.2.1) ?_
   obtain ⟨w38, e39, p40, k41⟩ := O28.rowVal (j := 1) rfl j37.2.2
   have O42 := O28.takeRow (j := 1) rfl e39 j37.2.2 List.not_mem_nil
   replace O42 : Ow G17 H33 (eSl w38 4 rB x34 :: eSl v32 4 rB (List.replicate (Int.toNat p0) false) :: eRows v6 30 ws21 [Int.toNat x13] 4 rB x12 :: L) := O42
   have O43 : Ow G17 H33 (eSl v32 4 rB (List.replicate (Int.toNat p0) false) :: eRows v6 30 ws21 [Int.toNat x13] 4 rB x12 :: L) := O42.drop 0
   have e45 := O43.cellsSl (j := 0) rfl
   refine W.lo rfl rfl (Lo.storeRow (j := 1) (i := Int.toNat x13) rfl (List.getElem?_eq_some_iff.1 j37.2.2).1 rfl sz30 rfl rfl e45.1 e45.2 O43) ?_
   rintro v47 H48 ⟨O44, sm46⟩
   replace O44 : Ow G17 H48 (eSl v32 4 rB (List.replicate (Int.toNat p0) false) :: eRows v6 30 (List.set ws21 (Int.toNat x13) v32) [Int.toNat x13] 4 rB x12 :: L) := O44
   refine .nil ?_
   refine .region ?_
   refine W.pure (v := v6) rfl rfl (v_move (oo rfl ((fr16 7 rfl).trans rfl))) ?_
   refine W.pure (v := (.int .i64 x13)) rfl rfl (v_move (oo rfl rfl)) ?_
   have O49 := O44.putRow (j := 0) rfl (set_at e39)
   replace O49 : Ow G17 H48 (eRows v6 30 (List.set ws21 (Int.toNat x13) v32) [] 4 rB (List.set x12 (Int.toNat x13) (List.replicate (Int.toNat p0) false)) :: L) := O49
   obtain ⟨x50, i51, h52⟩ := bd_inv h36
   have j53 := idx_inv i51
   refine W.pure (v := (selem v6 (Int.toNat x13 * 1))) rfl rfl (v_idx el31 sz30 (oo rfl rfl) (oo rfl rfl) (O49.rowsLen (j := 0) rfl) j53.1 j53.2.1) ?_
   obtain ⟨w54, e55, p56, k57⟩ := O49.rowVal (j := 0) rfl j53.2.2
   refine W.load1 (v := w54) (r := []) rfl rfl ag30 (pt_px rfl p56) ?_
   refine W.pure (v := (.int .i64 x13)) rfl rfl (v_move (oo rfl rfl)) ?_
   have O58 := O49.takeRow (j := 0) rfl e55 j53.2.2 List.not_mem_nil
   replace O58 : Ow G17 H48 (eSl w54 4 rB x50 :: eRows v6 30 (List.set ws21 (Int.toNat x13) v32) [Int.toNat x13] 4 rB (List.set x12 (Int.toNat x13) (List.replicate (Int.toNat p0) false)) :: L) := O58
   obtain ⟨x59, i60, h61⟩ := bd_inv h52
   have j62 := idx_inv i60
   refine W.pure (v := (selem w54 (Int.toNat x13 * 1))) rfl rfl (v_idx el30 sz4 (oo rfl rfl) (oo rfl rfl) (O58.slLen (j := 0) rfl) j62.1 j62.2.1) ?_
   refine W.lo rfl rfl (Lo.storeSl0 (j := 0) (y0 := true) (v := (.bool true)) rfl j62.2.2  rfl sz4 rfl rfl rfl O58) ?_
   rintro v65 H66 ⟨O63, sm64⟩
   replace O63 : Ow G17 H66 (eSl w54 4 rB (List.set x50 (Int.toNat x13) true) :: eRows v6 30 (List.set ws21 (Int.toNat x13) v32) [Int.toNat x13] 4 rB (List.set x12 (Int.toNat x13) (List.replicate (Int.toNat p0) false)) :: L) := O63
   refine .nil ?_
   refine .region ?_
   refine W.pure (v := (.int .i64 (kwrap .i64 (x13 + 1)))) rfl rfl (v_int (oo rfl t22) (oo rfl rfl) rfl) ?_
   refine W.pure (v := (.int .i64 (kwrap .i64 (x13 + 1)))) rfl rfl (v_move (oo rfl rfl)) ?_
   refine .nil ?_
   have O67 := O63.putRow (j := 0) rfl e55
   replace O67 : Ow G17 H66 (eRows v6 30 (List.set ws21 (Int.toNat x13) v32) [] 4 rB (List.set (List.set x12 (Int.toNat x13) (List.replicate (Int.toNat p0) false)) (Int.toNat x13) (List.set x50 (Int.toNat x13) true)) :: L) := O67
   exact ⟨k11, Nat.lt_succ_self _, ⟨(List.set (List.set x12 (Int.toNat x13) (List.replicate (Int.toNat p0) false)) (Int.toNat x13) (List.set x50 (Int.toNat x13) true)), kwrap .i64 (x13 + 1), (List.set ws21 (Int.toNat x13) v32), _, h61, O67, s19, rfl⟩⟩
  ·have h68 := neg_b g26 h25
   refine .exit ?_
   obtain rfl := Option.some.inj h68
   exact ⟨x12, ws21, _, rfl, O18, s19⟩
 ·rintro σ70 H71 fr72 ⟨x69, ws77, G73, rfl, O74, s75⟩
  have h78 := tu1_inv h10
  refine .seq ?_
  refine .seq ?_
  refine .region ?_
  refine W.pure (v := v1) rfl rfl (v_move (oo rfl ((fr72 1 rfl).trans rfl))) ?_
  refine W.pure (v := (.int .i64 (List.length p1 : Int))) rfl rfl (len_sl (oo rfl rfl) (sl_len (RT.mono _ s75 hp1)) (elemT_inv el22)) ?_
  refine W.pure (v := (.int .i64 0)) rfl rfl (v_move (oo rfl rfl)) ?_
  refine .nil ?_
  obtain ⟨q79, h80, h81⟩ := bd_inv h78
  refine AW.midT (fun σ' H' => ∃ (y1 : List (List Bool)) (G' : GM), y1 = q79 ∧ Ow G' H' (eRows v6 30 ws77 [] 4 rB y1 :: L) ∧ GM.le G73 G') ?_ ?_
  ·refine .block ?_
   refine AW.loop (α := Nat) (fun k' σ' H' => ∃ (y1 : List (List Bool)) (y2 : Int) (G' : GM), g_R_Joined_l2 K p1 p2 k' y1 y2 = some q79 ∧ Ow G' H' (eRows v6 30 ws77 [] 4 rB y1 :: L) ∧ GM.le G73 G' ∧ σ' 35 = .int .i64 y2) (fun k' => k') K ⟨x69, 0, _, h80, O74, (GM.le.refl _), rfl⟩ ?_
   rintro k82
   rintro σ85 H86 fr87 ⟨x83, x84, G88, h91, O89, s90, t92⟩
   rcases k82 with _ | k82
   ·exact none_absurd h91
   rw [g_R_Joined_l2] at h91
   refine .seq ?_
   refine .region ?_
   refine W.pure (v := (.bool (decide (x84 < (List.length p1 : Int))))) rfl rfl (v_int (oo rfl t92) (oo rfl ((fr87 34 rfl).trans rfl)) rfl) ?_
   refine .nil ?_
   refine .seq ?_
   refine .cond (b := decide (x84 < (List.length p1 : Int))) rfl rfl (fun g93 => ?_) (fun g93 => ?_)
   ·have h94 := pos_inv g93 h91
    refine .skip ?_
    refine .seq ?_
    obtain ⟨q95, h96, h97⟩ := bd_inv h94
    refine AW.midT (fun σ' H' => ∃ (y1 : List (List Bool)) (G' : GM), y1 = q95 ∧ Ow G' H' (eRows v6 30 ws77 [] 4 rB y1 :: L) ∧ GM.le G88 G') ?_ ?_
    ·refine .block ?_
     refine .seq ?_
     refine .region ?_
     refine W.pure (v := (.int .i64 x84)) rfl rfl (v_move (oo rfl t92)) ?_
     obtain ⟨x98, i99, h100⟩ := bd_inv h96
     have j101 := idx_inv i99
     refine W.pure (v := (selem v1 (Int.toNat x84 * 2))) rfl rfl (v_idx el22 sz29 (oo rfl ((fr87 33 rfl).trans rfl)) (oo rfl t92) (sl_len (RT.mono _ (GM.le.trans s75 s90) hp1)) j101.1 j101.2.1) ?_
     obtain ⟨c102, p103, f104⟩ := (At.le (At.le (sl_idx hp1 j101.2.2) (GM.le.trans s75 s90) (GM.le.trans s75 s90)) (GM.le.refl _) O89.fro)
     refine W.loadA (cs := c102) rfl rfl ag29 sz29 (pt_px rfl p103) (RT.len _ f104) ?_
     refine W.lo rfl rfl (Lo.alloc (r := (rArr 2 (rI .i64))) (x0 := (List.replicate 2 0)) ze29 (by kernel_rfl) (fun G => ⟨by simp, List.replicate 2 [.int .i64 0], rfl, All2.replicate ((zI .i64) G) 2⟩) O89) ?_
     rintro v108 H109 ⟨b106, rfl, O105, sm107⟩
     refine W.pure (v := (.int .i64 x84)) rfl rfl (v_assign (oo rfl rfl)) ?_
     refine W.lo rfl rfl (Lo.storeVar (j := 0) (s := (rArr 2 (rI .i64))) (y0 := x98) (v := (.agg (List.toArray c102))) (o := 0) rfl ((Put.at (Put.self _) _ _)) rfl sz29 rfl (by omega) rfl f104 O105) ?_
     rintro v112 H113 ⟨O110, sm111⟩
     replace O110 : Ow G88 H113 (eVar b106 29 (rArr 2 (rI .i64)) x98 :: eRows v6 30 ws77 [] 4 rB x83 :: L) := O110
     refine .nil ?_
     refine .seq ?_
     refine .region ?_
     refine W.pure (v := v2) rfl rfl (v_move (oo rfl ((fr87 2 rfl).trans ((fr72 2 rfl).trans rfl)))) ?_
     refine W.pure (v := (.int .i64 x84)) rfl rfl (v_move (oo rfl rfl)) ?_
     obtain ⟨x114, i115, h116⟩ := bd_inv h100
     refine W.lo rfl rfl (Lo.callF (x0 := x84) rfl rfl (FnOk.le hp2 (GM.le.trans s75 s90)) (mc rfl mn) rfl i115 O110) ?_
     rintro v121 H122 ⟨G117, O118, s119, sm120, rfl⟩
     refine .nil ?_
     refine .cond (b := x114) rfl rfl (fun g123 => ?_) (fun g123 => ?_)
     ·have h124 := pos_inv g123 h116
      refine .draw2 (M := [0, 0, 2, 7, 15, 0, 32, 0, 0, 256, 896, 1920, 0, 4096, 4095, 20479, 65535, 131071]) mixed (by kernel_rfl) (by kernel_rfl) fun H125 N129 x126 F128 => ?_
      have O127 := O118.ext x126
      refine D2.pure (v := v6) rfl rfl (v_move (oo rfl ((fr87 7 rfl).trans ((fr72 7 rfl).trans rfl)))) ?_
      obtain ⟨x130, i131, h132⟩ := bd_inv h124
      have j133 := idx_inv i131
      refine D2.pure (v := (padd (.pointer (some ⟨b106, 0, none⟩)) (Int.toNat 0 * 1))) rfl rfl (v_idxAA ar29 sz3 (oo rfl rfl) (oo rfl rfl) (O127.atVar (j := 0) rfl) j133.1 j133.2.1) ?_
      refine D2.load1' (v := (.int .i64 x130)) (r := []) rfl rfl ag3 (pt_px rfl (At.int (At.aidx (O127.atVar (j := 0) rfl) j133.2.2))) fa_nil ?_
      obtain ⟨x134, i135, h136⟩ := bd_inv h132
      have j137 := idx_inv i135
      refine D2.pure (v := (selem v6 (Int.toNat x130 * 1))) rfl rfl (v_idx el31 sz30 (oo rfl rfl) (oo rfl rfl) (O127.rowsLen (j := 1) rfl) j137.1 j137.2.1) ?_
      obtain ⟨w138, e139, p140, k141⟩ := O127.rowVal (j := 1) rfl j137.2.2
      refine D2.load1' (v := w138) (r := []) rfl rfl ag30 (pt_px rfl p140) fa_nil ?_
      obtain ⟨x142, i143, h144⟩ := bd_inv h136
      have j145 := idx_inv i143
      refine D2.pure (v := (padd (.pointer (some ⟨b106, 0, none⟩)) (Int.toNat 1 * 1))) rfl rfl (v_idxAA ar29 sz3 (oo rfl rfl) (oo rfl rfl) (O127.atVar (j := 0) rfl) j145.1 j145.2.1) ?_
      refine D2.load1' (v := (.int .i64 x142)) (r := []) rfl rfl ag3 (pt_px rfl (At.int (At.aidx (O127.atVar (j := 0) rfl) j145.2.2))) fa_nil ?_
      refine D2.pure (v := v6) rfl rfl (v_move (oo rfl ((fr87 7 rfl).trans ((fr72 7 rfl).trans rfl)))) ?_
      obtain ⟨x146, i147, h148⟩ := bd_inv h144
      have j149 := idx_inv i147
      refine D2.pure (v := (padd (.pointer (some ⟨b106, 0, none⟩)) (Int.toNat 1 * 1))) rfl rfl (v_idxAA ar29 sz3 (oo rfl rfl) (oo rfl rfl) (O127.atVar (j := 0) rfl) j149.1 j149.2.1) ?_
      refine D2.load1' (v := (.int .i64 x146)) (r := []) rfl rfl ag3 (pt_px rfl (At.int (At.aidx (O127.atVar (j := 0) rfl) j149.2.2))) fa_nil ?_
      obtain ⟨x150, i151, h152⟩ := bd_inv h148
      have j153 := idx_inv i151
      refine D2.pure (v := (selem v6 (Int.toNat x146 * 1))) rfl rfl (v_idx el31 sz30 (oo rfl rfl) (oo rfl rfl) (O127.rowsLen (j := 1) rfl) j153.1 j153.2.1) ?_
      obtain ⟨w154, e155, p156, k157⟩ := O127.rowVal (j := 1) rfl j153.2.2
      refine D2.load1' (v := w154) (r := []) rfl rfl ag30 (pt_px rfl p156) fa_nil ?_
      obtain ⟨x158, i159, h160⟩ := bd_inv h152
      have j161 := idx_inv i159
      refine D2.pure (v := (padd (.pointer (some ⟨b106, 0, none⟩)) (Int.toNat 0 * 1))) rfl rfl (v_idxAA ar29 sz3 (oo rfl rfl) (oo rfl rfl) (O127.atVar (j := 0) rfl) j161.1 j161.2.1) ?_
      refine D2.load1' (v := (.int .i64 x158)) (r := []) rfl rfl ag3 (pt_px rfl (At.int (At.aidx (O127.atVar (j := 0) rfl) j161.2.2))) fa_nil ?_
      have O162 := O127.takeRow (j := 1) rfl e139 j137.2.2 List.not_mem_nil
      replace O162 : Ow G117 H125 (eSl w138 4 rB x134 :: eVar b106 29 (rArr 2 (rI .i64)) x98 :: eRows v6 30 ws77 [Int.toNat x130] 4 rB x83 :: L) := O162
      obtain ⟨x163, i164, h165⟩ := bd_inv h160
      have j166 := idx_inv i164
      refine D2.pure (v := (selem w138 (Int.toNat x142 * 1))) rfl rfl (v_idx el30 sz4 (oo rfl rfl) (oo rfl rfl) (O162.slLen (j := 0) rfl) j166.1 j166.2.1) ?_
      refine D2.lo rfl rfl (Lo.storeSl0 (j := 0) (y0 := true) (v := (.bool true)) rfl j166.2.2  rfl sz4 rfl rfl rfl O162) ?_ fa_nil ?_ ?_
      ·rintro v169 H170 ⟨O167, sm168⟩; exact (faR1 (.inr (sm168 _ (O162.neP (i := 1) (j := 0) (by decide) rfl rfl (List.mem_singleton.2 rfl) (O162.footSl' (j := 0) rfl j166.2.2)))) (faR1 (.inl (by decide)) (faR1 (.inl (by decide)) (faR1 (.inl (by decide)) (faR1 (.inl (by decide)) (faR1 (.inl (by decide)) fa_nil))))))
      ·rintro v169 H170 ⟨O167, sm168⟩; exact fa_nil
      rintro v169 H170 ⟨O167, sm168⟩
      replace O167 : Ow G117 H170 (eSl w138 4 rB (List.set x134 (Int.toNat x142) true) :: eVar b106 29 (rArr 2 (rI .i64)) x98 :: eRows v6 30 ws77 [Int.toNat x130] 4 rB x83 :: L) := O167
      have O171 := O167.putRow (j := 1) rfl e139
      replace O171 : Ow G117 H170 (eVar b106 29 (rArr 2 (rI .i64)) x98 :: eRows v6 30 ws77 [] 4 rB (List.set x83 (Int.toNat x130) (List.set x134 (Int.toNat x142) true)) :: L) := O171
      obtain ⟨x172, i173, h174⟩ := bd_inv h165
      have j175 := idx_inv i173
      have O176 := O171.takeRow (j := 1) rfl e155 j175.2.2 List.not_mem_nil
      replace O176 : Ow G117 H170 (eSl w154 4 rB x172 :: eVar b106 29 (rArr 2 (rI .i64)) x98 :: eRows v6 30 ws77 [Int.toNat x146] 4 rB (List.set x83 (Int.toNat x130) (List.set x134 (Int.toNat x142) true)) :: L) := O176
      obtain ⟨x177, i178, h179⟩ := bd_inv h174
      have j180 := idx_inv i178
      refine D2.pure (v := (selem w154 (Int.toNat x158 * 1))) rfl rfl (v_idx el30 sz4 (oo rfl rfl) (oo rfl rfl) (O176.slLen (j := 0) rfl) j180.1 j180.2.1) ?_
      refine D2.lo rfl rfl (Lo.storeSl0 (j := 0) (y0 := true) (v := (.bool true)) rfl j180.2.2  rfl sz4 rfl rfl rfl O176) ?_ (faL_bit (by decide) fa_nil) ?_ ?_
      ·rintro v183 H184 ⟨O181, sm182⟩; exact (faR1 (.inl (by decide)) (faR1 (.inl (by decide)) (faR1 (.inl (by decide)) (faR1 (.inl (by decide)) (faR1 (.inl (by decide)) (faR1 (.inl (by decide)) fa_nil))))))
      ·rintro v183 H184 ⟨O181, sm182⟩; exact fa_nil
      rintro v183 H184 ⟨O181, sm182⟩
      replace O181 : Ow G117 H184 (eSl w154 4 rB (List.set x172 (Int.toNat x158) true) :: eVar b106 29 (rArr 2 (rI .i64)) x98 :: eRows v6 30 ws77 [Int.toNat x146] 4 rB (List.set x83 (Int.toNat x130) (List.set x134 (Int.toNat x142) true)) :: L) := O181
      refine .nil ?_
      have O185 := O181.putRow (j := 1) rfl e155
      replace O185 : Ow G117 H184 (eVar b106 29 (rArr 2 (rI .i64)) x98 :: eRows v6 30 ws77 [] 4 rB (List.set (List.set x83 (Int.toNat x130) (List.set x134 (Int.toNat x142) true)) (Int.toNat x146) (List.set x172 (Int.toNat x158) true)) :: L) := O185
      have O186 : Ow G117 H184 (eRows v6 30 ws77 [] 4 rB (List.set (List.set x83 (Int.toNat x130) (List.set x134 (Int.toNat x142) true)) (Int.toNat x146) (List.set x172 (Int.toNat x158) true)) :: L) := O185.drop 0
      obtain rfl := Option.some.inj h179
      exact ⟨(List.set (List.set x83 (Int.toNat x130) (List.set x134 (Int.toNat x142) true)) (Int.toNat x146) (List.set x172 (Int.toNat x158) true)), _, rfl, O186, s119⟩
     ·have h187 := neg_b g123 h116
      refine .skip ?_
      have O188 : Ow G117 H122 (eRows v6 30 ws77 [] 4 rB x83 :: L) := O118.drop 0
      obtain rfl := Option.some.inj h187
      exact ⟨x83, _, rfl, O188, s119⟩
    ·rintro σ190 H191 fr192 ⟨x189, G193, rfl, O194, s195⟩
     have h197 := tu1_inv h97
     refine .region ?_
     refine W.pure (v := (.int .i64 (kwrap .i64 (x84 + 1)))) rfl rfl (v_int (oo rfl ((fr192 35 rfl).trans t92)) (oo rfl rfl) rfl) ?_
     refine W.pure (v := (.int .i64 (kwrap .i64 (x84 + 1)))) rfl rfl (v_move (oo rfl rfl)) ?_
     refine .nil ?_
     exact ⟨k82, Nat.lt_succ_self _, ⟨x189, kwrap .i64 (x84 + 1), _, h197, O194, (GM.le.trans s90 s195), rfl⟩⟩
   ·have h198 := neg_b g93 h91
    refine .exit ?_
    obtain rfl := Option.some.inj h198
    exact ⟨x83, _, rfl, O89, s90⟩
  ·rintro σ200 H201 fr202 ⟨x199, G203, rfl, O204, s205⟩
   have h207 := tu1_inv h81
   refine .seq ?_
   refine .seq ?_
   refine .region ?_
   refine W.pure (v := (.int .i64 p0)) rfl rfl (v_move (oo rfl ((fr202 0 rfl).trans ((fr72 0 rfl).trans rfl)))) ?_
   refine W.pure (v := (.int .i64 0)) rfl rfl (v_move (oo rfl rfl)) ?_
   refine .nil ?_
   obtain ⟨q208, h209, h210⟩ := bd_inv h207
   refine AW.midT (fun σ' H' => ∃ (y1 : List (List Bool)) (G' : GM), y1 = q208 ∧ Ow G' H' (eRows v6 30 ws77 [] 4 rB y1 :: L) ∧ GM.le G203 G') ?_ ?_
   ·refine .block ?_
    refine AW.loop (α := Nat) (fun k' σ' H' => ∃ (y1 : List (List Bool)) (y2 : Int) (G' : GM), g_R_Joined_l4 K p0 k' y1 y2 = some q208 ∧ Ow G' H' (eRows v6 30 ws77 [] 4 rB y1 :: L) ∧ GM.le G203 G' ∧ σ' 61 = .int .i64 y2) (fun k' => k') K ⟨x199, 0, _, h209, O204, (GM.le.refl _), rfl⟩ ?_
    rintro k211
    rintro σ214 H215 fr216 ⟨x212, x213, G217, h220, O218, s219, t221⟩
    rcases k211 with _ | k211
    ·exact none_absurd h220
    rw [g_R_Joined_l4] at h220
    refine .seq ?_
    refine .region ?_
    refine W.pure (v := (.bool (decide (x213 < p0)))) rfl rfl (v_int (oo rfl t221) (oo rfl ((fr216 60 rfl).trans rfl)) rfl) ?_
    refine .nil ?_
    refine .seq ?_
    refine .cond (b := decide (x213 < p0)) rfl rfl (fun g222 => ?_) (fun g222 => ?_)
    ·have h223 := pos_inv g222 h220
     refine .skip ?_
     refine .seq ?_
     refine .block ?_
     refine .seq ?_
     refine .region ?_
     refine W.pure (v := (.int .i64 x213)) rfl rfl (v_move (oo rfl t221)) ?_
     refine W.pure (v := (.int .i64 x213)) rfl rfl (v_assign (oo rfl rfl)) ?_
     refine .nil ?_
     refine .seq ?_
     refine .region ?_
     refine W.pure (v := (.int .i64 p0)) rfl rfl (v_move (oo rfl ((fr216 0 rfl).trans ((fr202 0 rfl).trans ((fr72 0 rfl).trans rfl))))) ?_
     refine W.pure (v := (.int .i64 0)) rfl rfl (v_move (oo rfl rfl)) ?_
     refine .nil ?_
     obtain ⟨q224, h225, h226⟩ := bd_inv h223
     refine AW.midT (fun σ' H' => ∃ (y1 : List (List Bool)) (G' : GM), y1 = q224 ∧ Ow G' H' (eRows v6 30 ws77 [] 4 rB y1 :: L) ∧ GM.le G217 G') ?_ ?_
     ·refine .block ?_
      refine AW.loop (α := Nat) (fun k' σ' H' => ∃ (y1 : List (List Bool)) (y2 : Int) (G' : GM), g_R_Joined_l6 K p0 x213 k' y1 y2 = some q224 ∧ Ow G' H' (eRows v6 30 ws77 [] 4 rB y1 :: L) ∧ GM.le G217 G' ∧ σ' 65 = .int .i64 y2) (fun k' => k') K ⟨x212, 0, _, h225, O218, (GM.le.refl _), rfl⟩ ?_
      rintro k227
      rintro σ230 H231 fr232 ⟨x228, x229, G233, h236, O234, s235, t237⟩
      rcases k227 with _ | k227
      ·exact none_absurd h236
      rw [g_R_Joined_l6] at h236
      refine .seq ?_
      refine .region ?_
      refine W.pure (v := (.bool (decide (x229 < p0)))) rfl rfl (v_int (oo rfl t237) (oo rfl ((fr232 64 rfl).trans rfl)) rfl) ?_
      refine .nil ?_
      refine .seq ?_
      refine .cond (b := decide (x229 < p0)) rfl rfl (fun g238 => ?_) (fun g238 => ?_)
      ·have h239 := pos_inv g238 h236
       refine .skip ?_
       refine .seq ?_
       refine .block ?_
       refine .seq ?_
       refine .region ?_
       refine W.pure (v := (.int .i64 x229)) rfl rfl (v_move (oo rfl t237)) ?_
       refine W.pure (v := (.int .i64 x229)) rfl rfl (v_assign (oo rfl rfl)) ?_
       refine .nil ?_
       refine .seq ?_
       refine .region ?_
       refine W.pure (v := (.int .i64 p0)) rfl rfl (v_move (oo rfl ((fr232 0 rfl).trans ((fr216 0 rfl).trans ((fr202 0 rfl).trans ((fr72 0 rfl).trans rfl)))))) ?_
       refine W.pure (v := (.int .i64 0)) rfl rfl (v_move (oo rfl rfl)) ?_
       refine .nil ?_
       obtain ⟨q240, h241, h242⟩ := bd_inv h239
       refine AW.midT (fun σ' H' => ∃ (y1 : List (List Bool)) (G' : GM), y1 = q240 ∧ Ow G' H' (eRows v6 30 ws77 [] 4 rB y1 :: L) ∧ GM.le G233 G') ?_ ?_
       ·refine .block ?_
        refine AW.loop (α := Nat) (fun k' σ' H' => ∃ (y1 : List (List Bool)) (y2 : Int) (G' : GM), g_R_Joined_l8 K p0 x213 x229 k' y1 y2 = some q240 ∧ Ow G' H' (eRows v6 30 ws77 [] 4 rB y1 :: L) ∧ GM.le G233 G' ∧ σ' 69 = .int .i64 y2) (fun k' => k') K ⟨x228, 0, _, h241, O234, (GM.le.refl _), rfl⟩ ?_
        rintro k243
        rintro σ246 H247 fr248 ⟨x244, x245, G249, h252, O250, s251, t253⟩
        rcases k243 with _ | k243
        ·exact none_absurd h252
        rw [g_R_Joined_l8] at h252
        refine .seq ?_
        refine .region ?_
        refine W.pure (v := (.bool (decide (x245 < p0)))) rfl rfl (v_int (oo rfl t253) (oo rfl ((fr248 68 rfl).trans rfl)) rfl) ?_
        refine .nil ?_
        refine .seq ?_
        refine .cond (b := decide (x245 < p0)) rfl rfl (fun g254 => ?_) (fun g254 => ?_)
        ·have h255 := pos_inv g254 h252
         refine .skip ?_
         refine .seq ?_
         obtain ⟨q256, h257, h258⟩ := bd_inv h255
         refine AW.midT (fun σ' H' => ∃ (y1 : List (List Bool)) (G' : GM), y1 = q256 ∧ Ow G' H' (eRows v6 30 ws77 [] 4 rB y1 :: L) ∧ GM.le G249 G') ?_ ?_
         ·refine .block ?_
          refine .seq ?_
          refine .region ?_
          refine W.pure (v := (.int .i64 x245)) rfl rfl (v_move (oo rfl t253)) ?_
          refine W.pure (v := (.int .i64 x245)) rfl rfl (v_assign (oo rfl rfl)) ?_
          refine .nil ?_
          refine .draw2 (M := [0, 0, 3, 7, 0, 0, 0, 96, 224, 0, 992, 2016, 4064, 8160, 8160, 32736, 65504, 8160, 262112, 524256, 1048544, 2097120, 2097120, 8388576, 16777184, 2097120, 67108832, 134217696, 268435424, 536870880, 1073741823, 2147483647]) mixed (by kernel_rfl) (by kernel_rfl) fun H259 N263 x260 F262 => ?_
          have O261 := O250.ext x260
          refine D2.pure (v := v6) rfl rfl (v_move (oo rfl ((fr248 7 rfl).trans ((fr232 7 rfl).trans ((fr216 7 rfl).trans ((fr202 7 rfl).trans ((fr72 7 rfl).trans rfl))))))) ?_
          refine D2.pure (v := (.int .i64 x229)) rfl rfl (v_move (oo rfl ((fr248 12 rfl).trans rfl))) ?_
          obtain ⟨x264, i265, h266⟩ := bd_inv h257
          have j267 := idx_inv i265
          refine D2.pure (v := (selem v6 (Int.toNat x229 * 1))) rfl rfl (v_idx el31 sz30 (oo rfl rfl) (oo rfl rfl) (O261.rowsLen (j := 0) rfl) j267.1 j267.2.1) ?_
          obtain ⟨w268, e269, p270, k271⟩ := O261.rowVal (j := 0) rfl j267.2.2
          refine D2.load1' (v := w268) (r := []) rfl rfl ag30 (pt_px rfl p270) fa_nil ?_
          refine D2.pure (v := (.int .i64 x245)) rfl rfl (v_move (oo rfl rfl)) ?_
          refine D2.pure (v := v6) rfl rfl (v_move (oo rfl ((fr248 7 rfl).trans ((fr232 7 rfl).trans ((fr216 7 rfl).trans ((fr202 7 rfl).trans ((fr72 7 rfl).trans rfl))))))) ?_
          refine D2.pure (v := (.int .i64 x229)) rfl rfl (v_move (oo rfl ((fr248 12 rfl).trans rfl))) ?_
          obtain ⟨x272, i273, h274⟩ := bd_inv h266
          have j275 := idx_inv i273
          refine D2.pure (v := (selem v6 (Int.toNat x229 * 1))) rfl rfl (v_idx el31 sz30 (oo rfl rfl) (oo rfl rfl) (O261.rowsLen (j := 0) rfl) j275.1 j275.2.1) ?_
          obtain ⟨w276, e277, p278, k279⟩ := O261.rowVal (j := 0) rfl j275.2.2
          refine D2.load1' (v := w276) (r := []) rfl rfl ag30 (pt_px rfl p278) fa_nil ?_
          refine D2.pure (v := (.int .i64 x245)) rfl rfl (v_move (oo rfl rfl)) ?_
          have O280 := O261.takeRow (j := 0) rfl e277 j275.2.2 List.not_mem_nil
          replace O280 : Ow G249 H259 (eSl w276 4 rB x272 :: eRows v6 30 ws77 [Int.toNat x229] 4 rB x244 :: L) := O280
          obtain ⟨x281, i282, h283⟩ := bd_inv h274
          have j284 := idx_inv i282
          refine D2.pure (v := (selem w276 (Int.toNat x245 * 1))) rfl rfl (v_idx el30 sz4 (oo rfl rfl) (oo rfl rfl) (O280.slLen (j := 0) rfl) j284.1 j284.2.1) ?_
          refine D2.load1' (v := (.bool x281)) (r := []) rfl rfl ag4 (pt_px rfl (At.bool (O280.atSl (j := 0) rfl j284.2.2))) fa_nil ?_
          refine D2.pure (v := (.bool x281)) rfl rfl (v_move (oo rfl rfl)) ?_
          refine D2.splitAt (t := 84) (b := x281) rfl (fun g285 gv286 => ?_) (fun g285 gv286 => ?_)
          ·have h287 := pos_inv g285 h283
           refine D2.skip (gk rfl rfl gv286 rfl) rfl ?_
           refine D2.skip (gk rfl rfl gv286 rfl) rfl ?_
           refine D2.skip (gk rfl rfl gv286 rfl) rfl ?_
           refine D2.skip (gk rfl rfl gv286 rfl) rfl ?_
           refine D2.skip (gk rfl rfl gv286 rfl) rfl ?_
           refine D2.skip (gk rfl rfl gv286 rfl) rfl ?_
           refine D2.skip (gk rfl rfl gv286 rfl) rfl ?_
           refine D2.skip (gk rfl rfl gv286 rfl) rfl ?_
           refine D2.skipU rfl rfl rfl rfl ?_
           refine D2.skipU rfl rfl rfl rfl ?_
           refine D2.skipU rfl rfl rfl rfl ?_
           refine D2.skipU rfl rfl rfl rfl ?_
           refine D2.skipU rfl rfl rfl rfl ?_
           refine D2.skipU rfl rfl rfl rfl ?_
           refine D2.skipU rfl rfl rfl rfl ?_
           refine D2.skip (gk rfl rfl gv286 rfl) rfl ?_
           refine D2.pure (v := (.bool true)) rfl rfl (v_pickT (oo rfl gv286) (oo rfl rfl)) ?_
           have O288 := O280.putRow0 (j := 0) rfl e277 j275.2.2
           replace O288 : Ow G249 H259 (eRows v6 30 ws77 [] 4 rB x244 :: L) := O288
           have O289 := O288.takeRow (j := 0) rfl e269 j267.2.2 List.not_mem_nil
           replace O289 : Ow G249 H259 (eSl w268 4 rB x264 :: eRows v6 30 ws77 [Int.toNat x229] 4 rB x244 :: L) := O289
           obtain ⟨x290, i291, h292⟩ := bd_inv h287
           have j293 := idx_inv i291
           refine D2.pure (v := (selem w268 (Int.toNat x245 * 1))) rfl rfl (v_idx el30 sz4 (oo rfl rfl) (oo rfl rfl) (O289.slLen (j := 0) rfl) j293.1 j293.2.1) ?_
           refine D2.lo rfl rfl (Lo.storeSl0 (j := 0) (y0 := true) (v := (.bool true)) rfl j293.2.2  rfl sz4 rfl rfl rfl O289) ?_ fa_nil ?_ ?_
           ·rintro v296 H297 ⟨O294, sm295⟩; exact (faR1 (.inl (by decide)) (faR1 (.inl (by decide)) (faR1 (.inl (by decide)) fa_nil)))
           ·rintro v296 H297 ⟨O294, sm295⟩; exact fa_nil
           rintro v296 H297 ⟨O294, sm295⟩
           replace O294 : Ow G249 H297 (eSl w268 4 rB (List.set x264 (Int.toNat x245) true) :: eRows v6 30 ws77 [Int.toNat x229] 4 rB x244 :: L) := O294
           refine .nil ?_
           have O298 := O294.putRow (j := 0) rfl e269
           replace O298 : Ow G249 H297 (eRows v6 30 ws77 [] 4 rB (List.set x244 (Int.toNat x229) (List.set x264 (Int.toNat x245) true)) :: L) := O298
           obtain rfl := Option.some.inj h292
           exact ⟨(List.set x244 (Int.toNat x229) (List.set x264 (Int.toNat x245) true)), _, rfl, O298, (GM.le.refl _)⟩
          ·have h299 := neg_b g285 h283
           refine D2.pure (v := v6) (gk rfl rfl gv286 rfl) rfl (v_move (oo rfl ((fr248 7 rfl).trans ((fr232 7 rfl).trans ((fr216 7 rfl).trans ((fr202 7 rfl).trans ((fr72 7 rfl).trans rfl))))))) ?_
           refine D2.pure (v := (.int .i64 x229)) (gk rfl rfl gv286 rfl) rfl (v_move (oo rfl ((fr248 12 rfl).trans rfl))) ?_
           have O300 := O280.putRow0 (j := 0) rfl e277 j275.2.2
           replace O300 : Ow G249 H259 (eRows v6 30 ws77 [] 4 rB x244 :: L) := O300
           obtain ⟨x301, i302, h303⟩ := bd_inv h299
           have j304 := idx_inv i302
           refine D2.pure (v := (selem v6 (Int.toNat x229 * 1))) (gk rfl rfl gv286 rfl) rfl (v_idx el31 sz30 (oo rfl rfl) (oo rfl rfl) (O300.rowsLen (j := 0) rfl) j304.1 j304.2.1) ?_
           obtain ⟨w305, e306, p307, k308⟩ := O300.rowVal (j := 0) rfl j304.2.2
           refine D2.load1' (v := w305) (r := []) (gk rfl rfl gv286 rfl) rfl ag30 (pt_px rfl p307) fa_nil ?_
           refine D2.pure (v := (.int .i64 x213)) (gk rfl rfl gv286 rfl) rfl (v_move (oo rfl ((fr248 11 rfl).trans ((fr232 11 rfl).trans rfl)))) ?_
           have O309 := O300.takeRow (j := 0) rfl e306 j304.2.2 List.not_mem_nil
           replace O309 : Ow G249 H259 (eSl w305 4 rB x301 :: eRows v6 30 ws77 [Int.toNat x229] 4 rB x244 :: L) := O309
           obtain ⟨x310, i311, h312⟩ := bd_inv h303
           have j313 := idx_inv i311
           refine D2.pure (v := (selem w305 (Int.toNat x213 * 1))) (gk rfl rfl gv286 rfl) rfl (v_idx el30 sz4 (oo rfl rfl) (oo rfl rfl) (O309.slLen (j := 0) rfl) j313.1 j313.2.1) ?_
           refine D2.load1' (v := (.bool x310)) (r := []) (gk rfl rfl gv286 rfl) rfl ag4 (pt_px rfl (At.bool (O309.atSl (j := 0) rfl j313.2.2))) fa_nil ?_
           refine D2.pure (v := (.bool x310)) (gk rfl rfl gv286 rfl) rfl (v_move (oo rfl rfl)) ?_
           refine D2.splitAt (t := 92) (b := x310) rfl (fun g314 gv315 => ?_) (fun g314 gv315 => ?_)
           ·have h316 := pos_inv g314 h312
            refine D2.pure (v := v6) (gk rfl rfl gv315 rfl) rfl (v_move (oo rfl ((fr248 7 rfl).trans ((fr232 7 rfl).trans ((fr216 7 rfl).trans ((fr202 7 rfl).trans ((fr72 7 rfl).trans rfl))))))) ?_
            refine D2.pure (v := (.int .i64 x213)) (gk rfl rfl gv315 rfl) rfl (v_move (oo rfl ((fr248 11 rfl).trans ((fr232 11 rfl).trans rfl)))) ?_
            have O317 := O309.putRow0 (j := 0) rfl e306 j304.2.2
            replace O317 : Ow G249 H259 (eRows v6 30 ws77 [] 4 rB x244 :: L) := O317
            obtain ⟨x318, i319, h320⟩ := bd_inv h316
            have j321 := idx_inv i319
            refine D2.pure (v := (selem v6 (Int.toNat x213 * 1))) (gk rfl rfl gv315 rfl) rfl (v_idx el31 sz30 (oo rfl rfl) (oo rfl rfl) (O317.rowsLen (j := 0) rfl) j321.1 j321.2.1) ?_
            obtain ⟨w322, e323, p324, k325⟩ := O317.rowVal (j := 0) rfl j321.2.2
            refine D2.load1' (v := w322) (r := []) (gk rfl rfl gv315 rfl) rfl ag30 (pt_px rfl p324) fa_nil ?_
            refine D2.pure (v := (.int .i64 x245)) (gk rfl rfl gv315 rfl) rfl (v_move (oo rfl rfl)) ?_
            have O326 := O317.takeRow (j := 0) rfl e323 j321.2.2 List.not_mem_nil
            replace O326 : Ow G249 H259 (eSl w322 4 rB x318 :: eRows v6 30 ws77 [Int.toNat x213] 4 rB x244 :: L) := O326
            obtain ⟨x327, i328, h329⟩ := bd_inv h320
            have j330 := idx_inv i328
            refine D2.pure (v := (selem w322 (Int.toNat x245 * 1))) (gk rfl rfl gv315 rfl) rfl (v_idx el30 sz4 (oo rfl rfl) (oo rfl rfl) (O326.slLen (j := 0) rfl) j330.1 j330.2.1) ?_
            refine D2.load1' (v := (.bool x327)) (r := []) (gk rfl rfl gv315 rfl) rfl ag4 (pt_px rfl (At.bool (O326.atSl (j := 0) rfl j330.2.2))) fa_nil ?_
            refine D2.pure (v := (.bool x327)) (gk rfl rfl gv286 rfl) rfl (v_pickT (oo rfl gv315) (oo rfl rfl)) ?_
            refine D2.pure (v := (.bool x327)) rfl rfl (v_pickF (oo rfl gv286) (oo rfl rfl)) ?_
            have O331 := O326.putRow0 (j := 0) rfl e323 j321.2.2
            replace O331 : Ow G249 H259 (eRows v6 30 ws77 [] 4 rB x244 :: L) := O331
            have O332 := O331.takeRow (j := 0) rfl e269 j267.2.2 List.not_mem_nil
            replace O332 : Ow G249 H259 (eSl w268 4 rB x264 :: eRows v6 30 ws77 [Int.toNat x229] 4 rB x244 :: L) := O332
            obtain ⟨x333, i334, h335⟩ := bd_inv h329
            have j336 := idx_inv i334
            refine D2.pure (v := (selem w268 (Int.toNat x245 * 1))) rfl rfl (v_idx el30 sz4 (oo rfl rfl) (oo rfl rfl) (O332.slLen (j := 0) rfl) j336.1 j336.2.1) ?_
            refine D2.lo rfl rfl (Lo.storeSl0 (j := 0) (y0 := x327) (v := (.bool x327)) rfl j336.2.2  rfl sz4 rfl rfl rfl O332) ?_ fa_nil ?_ ?_
            ·rintro v339 H340 ⟨O337, sm338⟩; exact (faR1 (.inl (by decide)) (faR1 (.inl (by decide)) (faR1 (.inl (by decide)) (faR1 (.inl (by decide)) (faR1 (.inl (by decide)) (faR1 (.inl (by decide)) (faR1 (.inl (by decide)) fa_nil)))))))
            ·rintro v339 H340 ⟨O337, sm338⟩; exact fa_nil
            rintro v339 H340 ⟨O337, sm338⟩
            replace O337 : Ow G249 H340 (eSl w268 4 rB (List.set x264 (Int.toNat x245) x327) :: eRows v6 30 ws77 [Int.toNat x229] 4 rB x244 :: L) := O337
            refine .nil ?_
            have O341 := O337.putRow (j := 0) rfl e269
            replace O341 : Ow G249 H340 (eRows v6 30 ws77 [] 4 rB (List.set x244 (Int.toNat x229) (List.set x264 (Int.toNat x245) x327)) :: L) := O341
            obtain rfl := Option.some.inj h335
            exact ⟨(List.set x244 (Int.toNat x229) (List.set x264 (Int.toNat x245) x327)), _, rfl, O341, (GM.le.refl _)⟩
           ·have h342 := neg_b g314 h312
            refine D2.skip (gk rfl rfl gv315 rfl) rfl ?_
            refine D2.skip (gk rfl rfl gv315 rfl) rfl ?_
            refine D2.skip (gk rfl rfl gv315 rfl) rfl ?_
            refine D2.skip (gk rfl rfl gv315 rfl) rfl ?_
            refine D2.skip (gk rfl rfl gv315 rfl) rfl ?_
            refine D2.skip (gk rfl rfl gv315 rfl) rfl ?_
            refine D2.skip (gk rfl rfl gv315 rfl) rfl ?_
            refine D2.pure (v := (.bool false)) (gk rfl rfl gv286 rfl) rfl (v_pickF (oo rfl gv315) (oo rfl rfl)) ?_
            refine D2.pure (v := (.bool false)) rfl rfl (v_pickF (oo rfl gv286) (oo rfl rfl)) ?_
            have O343 := O309.putRow0 (j := 0) rfl e306 j304.2.2
            replace O343 : Ow G249 H259 (eRows v6 30 ws77 [] 4 rB x244 :: L) := O343
            have O344 := O343.takeRow (j := 0) rfl e269 j267.2.2 List.not_mem_nil
            replace O344 : Ow G249 H259 (eSl w268 4 rB x264 :: eRows v6 30 ws77 [Int.toNat x229] 4 rB x244 :: L) := O344
            obtain ⟨x345, i346, h347⟩ := bd_inv h342
            have j348 := idx_inv i346
            refine D2.pure (v := (selem w268 (Int.toNat x245 * 1))) rfl rfl (v_idx el30 sz4 (oo rfl rfl) (oo rfl rfl) (O344.slLen (j := 0) rfl) j348.1 j348.2.1) ?_
            refine D2.lo rfl rfl (Lo.storeSl0 (j := 0) (y0 := false) (v := (.bool false)) rfl j348.2.2  rfl sz4 rfl rfl rfl O344) ?_ fa_nil ?_ ?_
            ·rintro v351 H352 ⟨O349, sm350⟩; exact (faR1 (.inl (by decide)) (faR1 (.inl (by decide)) (faR1 (.inl (by decide)) (faR1 (.inl (by decide)) (faR1 (.inl (by decide)) fa_nil)))))
            ·rintro v351 H352 ⟨O349, sm350⟩; exact fa_nil
            rintro v351 H352 ⟨O349, sm350⟩
            replace O349 : Ow G249 H352 (eSl w268 4 rB (List.set x264 (Int.toNat x245) false) :: eRows v6 30 ws77 [Int.toNat x229] 4 rB x244 :: L) := O349
            refine .nil ?_
            have O353 := O349.putRow (j := 0) rfl e269
            replace O353 : Ow G249 H352 (eRows v6 30 ws77 [] 4 rB (List.set x244 (Int.toNat x229) (List.set x264 (Int.toNat x245) false)) :: L) := O353
            obtain rfl := Option.some.inj h347
            exact ⟨(List.set x244 (Int.toNat x229) (List.set x264 (Int.toNat x245) false)), _, rfl, O353, (GM.le.refl _)⟩
         ·rintro σ355 H356 fr357 ⟨x354, G358, rfl, O359, s360⟩
          have h362 := tu1_inv h258
          refine .region ?_
          refine W.pure (v := (.int .i64 (kwrap .i64 (x245 + 1)))) rfl rfl (v_int (oo rfl ((fr357 69 rfl).trans t253)) (oo rfl rfl) rfl) ?_
          refine W.pure (v := (.int .i64 (kwrap .i64 (x245 + 1)))) rfl rfl (v_move (oo rfl rfl)) ?_
          refine .nil ?_
          exact ⟨k243, Nat.lt_succ_self _, ⟨x354, kwrap .i64 (x245 + 1), _, h362, O359, (GM.le.trans s251 s360), rfl⟩⟩
        ·have h363 := neg_b g254 h252
         refine .exit ?_
         obtain rfl := Option.some.inj h363
         exact ⟨x244, _, rfl, O250, s251⟩
       ·rintro σ365 H366 fr367 ⟨x364, G368, rfl, O369, s370⟩
        have h372 := tu1_inv h242
        refine .region ?_
        refine W.pure (v := (.int .i64 (kwrap .i64 (x229 + 1)))) rfl rfl (v_int (oo rfl ((fr367 65 rfl).trans t237)) (oo rfl rfl) rfl) ?_
        refine W.pure (v := (.int .i64 (kwrap .i64 (x229 + 1)))) rfl rfl (v_move (oo rfl rfl)) ?_
        refine .nil ?_
        exact ⟨k227, Nat.lt_succ_self _, ⟨x364, kwrap .i64 (x229 + 1), _, h372, O369, (GM.le.trans s235 s370), rfl⟩⟩
      ·have h373 := neg_b g238 h236
       refine .exit ?_
       obtain rfl := Option.some.inj h373
       exact ⟨x228, _, rfl, O234, s235⟩
     ·rintro σ375 H376 fr377 ⟨x374, G378, rfl, O379, s380⟩
      have h382 := tu1_inv h226
      refine .region ?_
      refine W.pure (v := (.int .i64 (kwrap .i64 (x213 + 1)))) rfl rfl (v_int (oo rfl ((fr377 61 rfl).trans t221)) (oo rfl rfl) rfl) ?_
      refine W.pure (v := (.int .i64 (kwrap .i64 (x213 + 1)))) rfl rfl (v_move (oo rfl rfl)) ?_
      refine .nil ?_
      exact ⟨k211, Nat.lt_succ_self _, ⟨x374, kwrap .i64 (x213 + 1), _, h382, O379, (GM.le.trans s219 s380), rfl⟩⟩
    ·have h383 := neg_b g222 h220
     refine .exit ?_
     obtain rfl := Option.some.inj h383
     exact ⟨x212, _, rfl, O218, s219⟩
   ·rintro σ385 H386 fr387 ⟨x384, G388, rfl, O389, s390⟩
    have h392 := tu1_inv h210
    refine .seq ?_
    refine .region ?_
    refine W.pure (v := v6) rfl rfl (v_move (oo rfl ((fr387 7 rfl).trans ((fr202 7 rfl).trans ((fr72 7 rfl).trans rfl))))) ?_
    refine W.pure (v := v6) rfl rfl (v_assign (oo rfl rfl)) ?_
    refine .nil ?_
    refine .ret ?_
    obtain ⟨G393, O394, s395, f396⟩ := O389.frzRows (j := 0) rfl
    replace O394 : Ow G393 H386 (L) := O394
    obtain rfl := Option.some.inj h392
    refine ret1R (P := Try.prog) (fn := Try.f14) (n := 107) (R := fun v H' => ∃ G', Ow G' H' (L) ∧ G.le G' ∧ ∃ (w0 : Value), w0 = v ∧ (rSl (rSl rB)).rep G' [w0] x384) (v1 := v6) (by rfl) (rr_tmp (by rfl) (by exact rfl)) ?_
    exact ⟨_, O394, (GM.le.trans s75 (GM.le.trans s205 (GM.le.trans s390 s395))), v6, rfl, f396⟩
def g_R_Shortest_1_l0 (K : Nat) (rec : Int → Int → Int → List (List Int) → (Int → Option Bool) → Option (List Int × Bool)) (p0 : Int) (p1 : Int) (p2 : Int) (p3 : List (List Int)) (p4 : Int → Option Bool) : Nat → Int → Option ((List Int × Bool) ⊕ Unit)
 | 0, _ => none
 | k + 1, x16 => (if (decide (x16 < (List.length p3 : Int))) = true then (bindS (((idx p3 x16).bind fun x30 => (Option.bind (((p4 x16).bind fun x49 => (if (!x49) = true then some true else ((idx x30 0).bind fun x62 => (if (x62 != p0) = true then ((idx x30 1).bind fun x69 => some (x69 != p0)) else some false))))) (tu1 fun x74 => (if x74 = true then some (.inr ()) else ((idx x30 0).bind fun x88 => ((idx x30 1).bind fun x92 => ((rec (kwrap .i64 ((kwrap .i64 (x88 + x92)) - p0)) (kwrap .i64 (p1 - 1)) p2 p3 p4).bind fun x96 => (if x96.2 = true then (if List.length [x16] + List.length x96.1 ≤ 16777216 then some (.inl (([x16] ++ x96.1), true)) else none) else some (.inr ())))))))))) (tu2 fun a141 a142 => some (.inl (a141, a142))) (tu0 (g_R_Shortest_1_l0 K rec p0 p1 p2 p3 p4 k (kwrap .i64 (x16 + 1))))) else some (.inr ()))
def g_R_Shortest_1 (K : Nat) : Nat → Int → Int → Int → List (List Int) → (Int → Option Bool) → Option (List Int × Bool)
 | 0, _, _, _, _, _ => none
 | D + 1, p0, p1, p2, p3, p4 => (if (p1 == 0) = true then some ([], (p0 == p2)) else (bindS (g_R_Shortest_1_l0 K (g_R_Shortest_1 K D) p0 p1 p2 p3 p4 K 0) (tu2 fun a152 a153 => some (a152, a153)) (tu0 (some ([], false)))))
set_option maxHeartbeats 4000000 in
theorem g_R_Shortest_1_ok (K D : Nat) : ∀ {G : GM} {H : AH} {L : List Pc} (p0 : Int) (p1 : Int) (v2 : Value) (p2 : Int) (hp2 : At G G v2 (rI .i64) p2) (v3 : Value) (p3 : List (List Int)) (hp3 : At G G v3 (rSl (rArr 2 (rI .i64))) p3) (v4 w4 : Value) (p4 : Int → Option Bool) (hp4 : PtG G v4 [w4]) (hp4f : FnOk Try.prog G w4 (fun _ vs (x : (Int)) => vs = [.int .i64 x]) (fun _ v (rr : (Bool)) => v = .bool rr) p4) (v5 : Value) (hp5 : PtG G v5 [.func (.func 59) #[] #[v2, v3, v4, v5]]) (O : Ow G H (L)) (r : List Int × Bool) (h : g_R_Shortest_1 K D p0 p1 p2 p3 p4 = some r),
  CR Try.prog 59 [(.int .i64 p0), (.int .i64 p1), v2, v3, v4, v5] G H (L) (fun v G' _ => ∃ (w0 : Value), v = .tuple #[w0, .bool r.2] ∧ (rSl (rI .i64)).rep G' [w0] r.1) := by
 induction D with
 | zero => intro G H L p0 p1 v2 p2 hp2 v3 p3 hp3 v4 w4 p4 hp4 hp4f v5 hp5 O r h; exact none_absurd h
 | succ D ih =>
 intro G H L p0 p1 v2 p2 hp2 v3 p3 hp3 v4 w4 p4 hp4 hp4f v5 hp5 O r h
 rw [g_R_Shortest_1] at h
 refine CR.of (calls_of_AW (n := 62) (fn := Try.f59) (R := fun v H' => ∃ G', Ow G' H' (L) ∧ G.le G' ∧ ∃ (w0 : Value), v = .tuple #[w0, .bool r.2] ∧ (rSl (rI .i64)).rep G' [w0] r.1) (by kernel_rfl) rfl rfl ?_)
 refine .seq ?_
 refine .region ?_
 refine W.pure (v := (.slice none 0 0)) rfl rfl (v_assign (oo rfl rfl)) ?_
 refine W.pure (v := (.bool false)) rfl rfl (v_assign (oo rfl rfl)) ?_
 refine .nil ?_
 refine .seq ?_
 refine .seq ?_
 refine .region ?_
 refine W.pure (v := (.int .i64 p1)) rfl rfl (v_move (oo rfl rfl)) ?_
 refine W.pure (v := (.bool (p1 == 0))) rfl rfl (v_int (oo rfl rfl) (oo rfl rfl) rfl) ?_
 refine .nil ?_
 refine .cond (b := (p1 == 0)) rfl rfl (fun g1 => ?_) (fun g1 => ?_)
 ·have h2 := pos_inv g1 h
  refine .seq ?_
  refine .draw2 (M := [0, 0, 3, 0, 15]) mixed (by kernel_rfl) (by kernel_rfl) fun H3 N7 x4 F6 => ?_
  have O5 := O.ext x4
  refine D2.pure (v := (.int .i64 p0)) rfl rfl (v_move (oo rfl rfl)) ?_
  refine D2.load1' (v := (.int .i64 p2)) (r := []) rfl rfl ag3 (pt_px rfl (At.int (At.le hp2 (GM.le.refl _) O5.fro))) fa_nil ?_
  refine D2.pure (v := (.bool (p0 == p2))) rfl rfl (v_int (oo rfl rfl) (oo rfl rfl) rfl) ?_
  refine D2.pure (v := (.slice none 0 0)) rfl rfl (v_assign (oo rfl rfl)) ?_
  refine D2.pure (v := (.bool (p0 == p2))) rfl rfl (v_assign (oo rfl rfl)) ?_
  refine .nil ?_
  refine .ret ?_
  obtain rfl := Option.some.inj h2
  refine ret2R (P := Try.prog) (fn := Try.f59) (n := 62) (R := fun v H' => ∃ G', Ow G' H' (L) ∧ G.le G' ∧ ∃ (w0 : Value), v = .tuple #[w0, .bool ([], (p0 == p2)).2] ∧ (rSl (rI .i64)).rep G' [w0] ([], (p0 == p2)).1) (v1 := (.slice none 0 0)) (v2 := (.bool (p0 == p2))) (by rfl) (rr_tmp (by rfl) (by exact rfl)) (rr_tmp (by rfl) (by exact rfl)) ?_
  exact ⟨_, O5, (GM.le.refl _), (.slice none 0 0), rfl, sl_nil⟩
 ·have h8 := neg_b g1 h
  refine .skip ?_
  refine .seq ?_
  refine .seq ?_
  refine .region ?_
  obtain ⟨w9, p10, f11⟩ := At.sl hp3
  replace p10 := PtG.le p10 O.fro
  refine W.load1 (v := w9) (r := []) rfl rfl ag22 (pt_px rfl p10) ?_
  refine W.pure (v := (.int .i64 (List.length p3 : Int))) rfl rfl (len_sl (oo rfl rfl) (sl_len f11) (elemT_inv el22)) ?_
  refine W.pure (v := (.int .i64 0)) rfl rfl (v_move (oo rfl rfl)) ?_
  refine .nil ?_
  obtain ⟨q12, h13, h14⟩ := bindS_inv h8
  refine AW.midT (fun σ' H' => ∃  (G' : GM), (.inr ()) = q12 ∧ Ow G' H' (L) ∧ GM.le G G') ?_ ?_
  ·refine .block ?_
   refine AW.loop (α := Nat) (fun k' σ' H' => ∃ (y1 : Int) (G' : GM), g_R_Shortest_1_l0 K (g_R_Shortest_1 K D) p0 p1 p2 p3 p4 k' y1 = some q12 ∧ Ow G' H' (L) ∧ GM.le G G' ∧ σ' 21 = .int .i64 y1) (fun k' => k') K ⟨0, _, h13, O, (GM.le.refl _), rfl⟩ ?_
   rintro k15
   rintro σ17 H18 fr19 ⟨x16, G20, h23, O21, s22, t24⟩
   rcases k15 with _ | k15
   ·exact none_absurd h23
   rw [g_R_Shortest_1_l0] at h23
   refine .seq ?_
   refine .region ?_
   refine W.pure (v := (.bool (decide (x16 < (List.length p3 : Int))))) rfl rfl (v_int (oo rfl t24) (oo rfl ((fr19 20 rfl).trans rfl)) rfl) ?_
   refine .nil ?_
   refine .seq ?_
   refine .cond (b := decide (x16 < (List.length p3 : Int))) rfl rfl (fun g25 => ?_) (fun g25 => ?_)
   ·have h26 := pos_inv g25 h23
    refine .skip ?_
    refine .seq ?_
    obtain ⟨q27, h28, h29⟩ := bindS_inv h26
    refine AW.midT (fun σ' H' => ∃  (G' : GM), (.inr ()) = q27 ∧ Ow G' H' (L) ∧ GM.le G20 G') ?_ ?_
    ·refine .block ?_
     refine .seq ?_
     refine .region ?_
     refine W.pure (v := (.int .i64 x16)) rfl rfl (v_move (oo rfl t24)) ?_
     obtain ⟨x30, i31, h32⟩ := bd_inv h28
     have j33 := idx_inv i31
     refine W.pure (v := (selem w9 (Int.toNat x16 * 2))) rfl rfl (v_idx el22 sz29 (oo rfl ((fr19 19 rfl).trans rfl)) (oo rfl t24) (sl_len (RT.mono _ s22 f11)) j33.1 j33.2.1) ?_
     obtain ⟨c34, p35, f36⟩ := (At.le (At.le (sl_idx f11 j33.2.2) s22 s22) (GM.le.refl _) O21.fro)
     refine W.loadA (cs := c34) rfl rfl ag29 sz29 (pt_px rfl p35) (RT.len _ f36) ?_
     refine W.lo rfl rfl (Lo.alloc (r := (rArr 2 (rI .i64))) (x0 := (List.replicate 2 0)) ze29 (by kernel_rfl) (fun G => ⟨by simp, List.replicate 2 [.int .i64 0], rfl, All2.replicate ((zI .i64) G) 2⟩) O21) ?_
     rintro v40 H41 ⟨b38, rfl, O37, sm39⟩
     refine W.pure (v := (.int .i64 x16)) rfl rfl (v_assign (oo rfl rfl)) ?_
     refine W.lo rfl rfl (Lo.storeVar (j := 0) (s := (rArr 2 (rI .i64))) (y0 := x30) (v := (.agg (List.toArray c34))) (o := 0) rfl ((Put.at (Put.self _) _ _)) rfl sz29 rfl (by omega) rfl f36 O37) ?_
     rintro v44 H45 ⟨O42, sm43⟩
     replace O42 : Ow G20 H45 (eVar b38 29 (rArr 2 (rI .i64)) x30 :: L) := O42
     refine .nil ?_
     refine .seq ?_
     refine .seq ?_
     obtain ⟨q46, h47, h48⟩ := bd_inv h32
     refine AW.midT (fun σ' H' => ∃ (y1 : Bool) (G' : GM), y1 = q46 ∧ Ow G' H' (eVar b38 29 (rArr 2 (rI .i64)) x30 :: L) ∧ GM.le G20 G' ∧ σ' 41 = .bool y1) ?_ ?_
     ·refine .region ?_
      refine W.load1 (v := w4) (r := []) rfl rfl ag33 (pt_px ((fr19 4 rfl).trans rfl) (PtG.le (PtG.le hp4 s22) O42.fro)) ?_
      refine W.pure (v := (.int .i64 x16)) rfl rfl (v_move (oo rfl rfl)) ?_
      obtain ⟨x49, i50, h51⟩ := bd_inv h47
      refine W.lo rfl rfl (Lo.callF (x0 := x16) rfl rfl (FnOk.le hp4f s22) (mc rfl mn) rfl i50 O42) ?_
      rintro v56 H57 ⟨G52, O53, s54, sm55, rfl⟩
      refine W.pure (v := (.bool (!x49))) rfl rfl (bool_not (a := x49) (oo rfl rfl)) ?_
      refine W.pure (v := (.bool (!x49))) rfl rfl (v_move (oo rfl rfl)) ?_
      refine W.splitAt (t := 30) (b := (!x49)) rfl (fun g58 gv59 => ?_) (fun g58 gv59 => ?_)
      ·have h60 := pos_inv g58 h51
       refine W.skip (gk rfl rfl gv59 rfl) rfl ?_
       refine W.skip (gk rfl rfl gv59 rfl) rfl ?_
       refine W.skip (gk rfl rfl gv59 rfl) rfl ?_
       refine W.skip (gk rfl rfl gv59 rfl) rfl ?_
       refine W.skip (gk rfl rfl gv59 rfl) rfl ?_
       refine W.skipU rfl rfl rfl rfl ?_
       refine W.skipU rfl rfl rfl rfl ?_
       refine W.skipU rfl rfl rfl rfl ?_
       refine W.skipU rfl rfl rfl rfl ?_
       refine W.skip (gk rfl rfl gv59 rfl) rfl ?_
       refine W.pure (v := (.bool true)) rfl rfl (v_pickT (oo rfl gv59) (oo rfl rfl)) ?_
       refine .nil ?_
       obtain rfl := Option.some.inj h60
       exact ⟨true, _, rfl, O53, s54, rfl⟩
      ·have h61 := neg_b g58 h51
       obtain ⟨x62, i63, h64⟩ := bd_inv h61
       have j65 := idx_inv i63
       refine W.pure (v := (padd (.pointer (some ⟨b38, 0, none⟩)) (Int.toNat 0 * 1))) (gk rfl rfl gv59 rfl) rfl (v_idxAA ar29 sz3 (oo rfl rfl) (oo rfl rfl) (O53.atVar (j := 0) rfl) j65.1 j65.2.1) ?_
       refine W.load1 (v := (.int .i64 x62)) (r := []) (gk rfl rfl gv59 rfl) rfl ag3 (pt_px rfl (At.int (At.aidx (O53.atVar (j := 0) rfl) j65.2.2))) ?_
       refine W.pure (v := (.int .i64 p0)) (gk rfl rfl gv59 rfl) rfl (v_move (oo rfl ((fr19 0 rfl).trans rfl))) ?_
       refine W.pure (v := (.bool (x62 != p0))) (gk rfl rfl gv59 rfl) rfl (v_int (oo rfl rfl) (oo rfl rfl) rfl) ?_
       refine W.pure (v := (.bool (x62 != p0))) (gk rfl rfl gv59 rfl) rfl (v_move (oo rfl rfl)) ?_
       refine W.splitAt (t := 35) (b := (x62 != p0)) rfl (fun g66 gv67 => ?_) (fun g66 gv67 => ?_)
       ·have h68 := pos_inv g66 h64
        obtain ⟨x69, i70, h71⟩ := bd_inv h68
        have j72 := idx_inv i70
        refine W.pure (v := (padd (.pointer (some ⟨b38, 0, none⟩)) (Int.toNat 1 * 1))) (gk rfl rfl gv67 rfl) rfl (v_idxAA ar29 sz3 (oo rfl rfl) (oo rfl rfl) (O53.atVar (j := 0) rfl) j72.1 j72.2.1) ?_
        refine W.load1 (v := (.int .i64 x69)) (r := []) (gk rfl rfl gv67 rfl) rfl ag3 (pt_px rfl (At.int (At.aidx (O53.atVar (j := 0) rfl) j72.2.2))) ?_
        refine W.pure (v := (.int .i64 p0)) (gk rfl rfl gv67 rfl) rfl (v_move (oo rfl ((fr19 0 rfl).trans rfl))) ?_
        refine W.pure (v := (.bool (x69 != p0))) (gk rfl rfl gv67 rfl) rfl (v_int (oo rfl rfl) (oo rfl rfl) rfl) ?_
        refine W.pure (v := (.bool (x69 != p0))) (gk rfl rfl gv59 rfl) rfl (v_pickT (oo rfl gv67) (oo rfl rfl)) ?_
        refine W.pure (v := (.bool (x69 != p0))) rfl rfl (v_pickF (oo rfl gv59) (oo rfl rfl)) ?_
        refine .nil ?_
        obtain rfl := Option.some.inj h71
        exact ⟨(x69 != p0), _, rfl, O53, s54, rfl⟩
       ·have h73 := neg_b g66 h64
        refine W.skip (gk rfl rfl gv67 rfl) rfl ?_
        refine W.skip (gk rfl rfl gv67 rfl) rfl ?_
        refine W.skip (gk rfl rfl gv67 rfl) rfl ?_
        refine W.skip (gk rfl rfl gv67 rfl) rfl ?_
        refine W.pure (v := (.bool false)) (gk rfl rfl gv59 rfl) rfl (v_pickF (oo rfl gv67) (oo rfl rfl)) ?_
        refine W.pure (v := (.bool false)) rfl rfl (v_pickF (oo rfl gv59) (oo rfl rfl)) ?_
        refine .nil ?_
        obtain rfl := Option.some.inj h73
        exact ⟨false, _, rfl, O53, s54, rfl⟩
     ·rintro σ75 H76 fr77 ⟨x74, G78, rfl, O79, s80, t82⟩
      have h83 := tu1_inv h48
      refine .cond (b := x74) rfl t82 (fun g84 => ?_) (fun g84 => ?_)
      ·have h85 := pos_inv g84 h83
       refine .exit ?_
       have O86 : Ow G78 H76 (L) := O79.drop 0
       obtain rfl := Option.some.inj h85
       exact ⟨_, rfl, O86, s80⟩
      ·have h87 := neg_b g84 h83
       refine .skip ?_
       refine .seq ?_
       refine .region ?_
       refine W.load1 (v := .func (.func 59) #[] #[v2, v3, v4, v5]) (r := []) rfl rfl ag95 (pt_px ((fr77 5 rfl).trans ((fr19 5 rfl).trans rfl)) (PtG.le (PtG.le hp5 (GM.le.trans s22 s80)) O79.fro)) ?_
       obtain ⟨x88, i89, h90⟩ := bd_inv h87
       have j91 := idx_inv i89
       refine W.pure (v := (padd (.pointer (some ⟨b38, 0, none⟩)) (Int.toNat 0 * 1))) rfl rfl (v_idxAA ar29 sz3 (oo rfl ((fr77 11 rfl).trans rfl)) (oo rfl rfl) (O79.atVar (j := 0) rfl) j91.1 j91.2.1) ?_
       refine W.load1 (v := (.int .i64 x88)) (r := []) rfl rfl ag3 (pt_px rfl (At.int (At.aidx (O79.atVar (j := 0) rfl) j91.2.2))) ?_
       obtain ⟨x92, i93, h94⟩ := bd_inv h90
       have j95 := idx_inv i93
       refine W.pure (v := (padd (.pointer (some ⟨b38, 0, none⟩)) (Int.toNat 1 * 1))) rfl rfl (v_idxAA ar29 sz3 (oo rfl ((fr77 11 rfl).trans rfl)) (oo rfl rfl) (O79.atVar (j := 0) rfl) j95.1 j95.2.1) ?_
       refine W.load1 (v := (.int .i64 x92)) (r := []) rfl rfl ag3 (pt_px rfl (At.int (At.aidx (O79.atVar (j := 0) rfl) j95.2.2))) ?_
       refine W.pure (v := (.int .i64 (kwrap .i64 (x88 + x92)))) rfl rfl (v_int (oo rfl rfl) (oo rfl rfl) rfl) ?_
       refine W.pure (v := (.int .i64 p0)) rfl rfl (v_move (oo rfl ((fr77 0 rfl).trans ((fr19 0 rfl).trans rfl)))) ?_
       refine W.pure (v := (.int .i64 (kwrap .i64 ((kwrap .i64 (x88 + x92)) - p0)))) rfl rfl (v_int (oo rfl rfl) (oo rfl rfl) rfl) ?_
       refine W.pure (v := (.int .i64 p1)) rfl rfl (v_move (oo rfl ((fr77 1 rfl).trans ((fr19 1 rfl).trans rfl)))) ?_
       refine W.pure (v := (.int .i64 (kwrap .i64 (p1 - 1)))) rfl rfl (v_int (oo rfl rfl) (oo rfl rfl) rfl) ?_
       obtain ⟨x96, i97, h98⟩ := bd_inv h94
       refine W.lo rfl rfl (Lo.callvP (ps := []) (ps' := []) rfl rfl (fn := Try.f59) (by kernel_rfl) rfl (mc rfl (mc rfl mn)) O79 (fun L' O' => ih (kwrap .i64 ((kwrap .i64 (x88 + x92)) - p0)) (kwrap .i64 (p1 - 1)) v2 p2 (At.le hp2 (GM.le.trans s22 s80) (GM.le.trans s22 s80)) v3 p3 (At.le hp3 (GM.le.trans s22 s80) (GM.le.trans s22 s80)) v4 w4 p4 (PtG.le hp4 (GM.le.trans s22 s80)) (FnOk.le hp4f (GM.le.trans s22 s80)) v5 (PtG.le hp5 (GM.le.trans s22 s80)) O' _ i97)) ?_
       rintro v107 H108 ⟨G99, O100, s101, sm106, ⟨w103, rfl, f104⟩⟩
       replace O100 : Ow G99 H108 (eVar b38 29 (rArr 2 (rI .i64)) x30 :: L) := O100
       refine W.pure (v := (.tuple #[w103, (.bool x96.2)])) rfl rfl (v_move (oo rfl rfl)) ?_
       refine W.pure (v := w103) rfl rfl (v_extract (oo rfl rfl) rfl) ?_
       refine W.pure (v := (.bool x96.2)) rfl rfl (v_extract (oo rfl rfl) rfl) ?_
       refine W.pure (v := w103) rfl rfl (v_assign (oo rfl rfl)) ?_
       refine W.pure (v := (.bool x96.2)) rfl rfl (v_assign (oo rfl rfl)) ?_
       refine .nil ?_
       refine .seq ?_
       refine .region ?_
       refine W.pure (v := (.bool x96.2)) rfl rfl (v_move (oo rfl rfl)) ?_
       refine .nil ?_
       refine .cond (b := x96.2) rfl rfl (fun g109 => ?_) (fun g109 => ?_)
       ·have h110 := pos_inv g109 h98
        refine .seq ?_
        refine .region ?_
        refine W.pure (v := (.int .i64 x16)) rfl rfl (v_move (oo rfl ((fr77 10 rfl).trans rfl))) ?_
        refine W.lo rfl rfl (Lo.buildSlice (r := (rI .i64)) (vs := [(.int .i64 x16)]) (xs := [x16]) el24 ze3 sz3 (by kernel_rfl) rfl (qc rfl qn) rfl (.cons rfl .nil) O100) ?_
        rintro v113 H114 ⟨O111, sm112⟩
        refine W.pure (v := w103) rfl rfl (v_move (oo rfl rfl)) ?_
        obtain ⟨es116, e117, e118⟩ := src_frz f104 O111
        obtain ⟨g119, h120⟩ := gd_inv h110
        refine W.lo rfl rfl (Lo.append (j := 0) (v := v113) rfl rfl el24 ni24 ze3 sz3 by3 (by decide) (by decide) rfl e117 e118 g119 O111) ?_
        rintro v122 H123 ⟨O115, sm121⟩
        replace O115 : Ow G99 H123 (eSl v122 3 (rI .i64) ([x16] ++ x96.1) :: eVar b38 29 (rArr 2 (rI .i64)) x30 :: L) := O115
        refine W.pure (v := v122) rfl rfl (v_assign (oo rfl rfl)) ?_
        refine W.pure (v := (.bool true)) rfl rfl (v_assign (oo rfl rfl)) ?_
        refine .nil ?_
        refine .ret ?_
        obtain ⟨G124, O125, s126, f127⟩ := O115.frzSl (j := 0) rfl
        replace O125 : Ow G124 H123 (eVar b38 29 (rArr 2 (rI .i64)) x30 :: L) := O125
        have O128 : Ow G124 H123 (L) := O125.drop 0
        obtain rfl := Option.some.inj h120
        have h129 := tu2_inv (outS_l h29)
        obtain rfl := Option.some.inj h129
        have h130 := tu2_inv (outS_l h14)
        obtain rfl := Option.some.inj h130
        refine ret2R (P := Try.prog) (fn := Try.f59) (n := 62) (R := fun v H' => ∃ G', Ow G' H' (L) ∧ G.le G' ∧ ∃ (w0 : Value), v = .tuple #[w0, .bool (([x16] ++ x96.1), true).2] ∧ (rSl (rI .i64)).rep G' [w0] (([x16] ++ x96.1), true).1) (v1 := v122) (v2 := (.bool true)) (by rfl) (rr_tmp (by rfl) (by exact rfl)) (rr_tmp (by rfl) (by exact rfl)) ?_
        exact ⟨_, O128, (GM.le.trans s22 (GM.le.trans s80 (GM.le.trans s101 s126))), v122, rfl, f127⟩
       ·have h131 := neg_b g109 h98
        refine .skip ?_
        have O132 : Ow G99 H108 (L) := O100.drop 0
        obtain rfl := Option.some.inj h131
        exact ⟨_, rfl, O132, (GM.le.trans s80 s101)⟩
    ·rintro σ133 H134 fr135 ⟨G136, rfl, O137, s138⟩
     have h140 := tu0_inv (outS_r h29)
     refine .region ?_
     refine W.pure (v := (.int .i64 (kwrap .i64 (x16 + 1)))) rfl rfl (v_int (oo rfl ((fr135 21 rfl).trans t24)) (oo rfl rfl) rfl) ?_
     refine W.pure (v := (.int .i64 (kwrap .i64 (x16 + 1)))) rfl rfl (v_move (oo rfl rfl)) ?_
     refine .nil ?_
     exact ⟨k15, Nat.lt_succ_self _, ⟨kwrap .i64 (x16 + 1), _, h140, O137, (GM.le.trans s22 s138), rfl⟩⟩
   ·have h143 := neg_b g25 h23
    refine .exit ?_
    obtain rfl := Option.some.inj h143
    exact ⟨_, rfl, O21, s22⟩
  ·rintro σ144 H145 fr146 ⟨G147, rfl, O148, s149⟩
   have h151 := tu0_inv (outS_r h14)
   refine .seq ?_
   refine .region ?_
   refine W.pure (v := (.slice none 0 0)) rfl rfl (v_assign (oo rfl rfl)) ?_
   refine W.pure (v := (.bool false)) rfl rfl (v_assign (oo rfl rfl)) ?_
   refine .nil ?_
   refine .ret ?_
   obtain rfl := Option.some.inj h151
   refine ret2R (P := Try.prog) (fn := Try.f59) (n := 62) (R := fun v H' => ∃ G', Ow G' H' (L) ∧ G.le G' ∧ ∃ (w0 : Value), v = .tuple #[w0, .bool ([], false).2] ∧ (rSl (rI .i64)).rep G' [w0] ([], false).1) (v1 := (.slice none 0 0)) (v2 := (.bool false)) (by rfl) (rr_tmp (by rfl) (by exact rfl)) (rr_tmp (by rfl) (by exact rfl)) ?_
   exact ⟨_, O148, s149, (.slice none 0 0), rfl, sl_nil⟩
def g_R_Shortest_l0 (K : Nat) (p0 : Int) (p1 : List (List Int)) (p2 : Int) (p3 : Int) (p4 : Int → Option Bool) : Nat → Int → Option ((List Int × Bool) ⊕ Unit)
 | 0, _ => none
 | k + 1, x87 => (if (decide (x87 < p0)) = true then ((g_R_Shortest_1 K K p2 x87 p3 p1 p4).bind fun x98 => (if x98.2 = true then some (.inl (x98.1, true)) else g_R_Shortest_l0 K p0 p1 p2 p3 p4 k (kwrap .i64 (x87 + 1)))) else some (.inr ()))
def g_R_Shortest (K : Nat) (p0 : Int) (p1 : List (List Int)) (p2 : Int) (p3 : Int) (p4 : Int → Option Bool) : Option (List Int × Bool) := ((g_R_Joined K p0 p1 p4).bind fun x26 => ((idx x26 p2).bind fun x39 => ((idx x39 p3).bind fun x46 => (if (!x46) = true then some ([], false) else (bindS (g_R_Shortest_l0 K p0 p1 p2 p3 p4 K 0) (tu2 fun a124 a125 => some (a124, a125)) (tu0 (some ([], false))))))))
set_option maxHeartbeats 4000000 in
theorem g_R_Shortest_ok (K : Nat) {G : GM} {H : AH} {L : List Pc} (p0 : Int) (v1 : Value) (p1 : List (List Int)) (hp1 : (rSl (rArr 2 (rI .i64))).rep G [v1] p1) (p2 : Int) (p3 : Int) (v4 : Value) (p4 : Int → Option Bool) (hp4 : FnOk Try.prog G v4 (fun _ vs (x : (Int)) => vs = [.int .i64 x]) (fun _ v (rr : (Bool)) => v = .bool rr) p4) (O : Ow G H (L)) (r : List Int × Bool) (h : g_R_Shortest K p0 p1 p2 p3 p4 = some r) :
  CR Try.prog 20 [(.int .i64 p0), v1, (.int .i64 p2), (.int .i64 p3), v4] G H (L) (fun v G' _ => ∃ (w0 : Value), v = .tuple #[w0, .bool r.2] ∧ (rSl (rI .i64)).rep G' [w0] r.1) := by
 unfold g_R_Shortest at h
 refine CR.of (calls_of_AW (n := 42) (fn := Try.f20) (R := fun v H' => ∃ G', Ow G' H' (L) ∧ G.le G' ∧ ∃ (w0 : Value), v = .tuple #[w0, .bool r.2] ∧ (rSl (rI .i64)).rep G' [w0] r.1) (by kernel_rfl) rfl rfl ?_)
 refine .seq ?_
 refine .region ?_
 refine W.lo rfl rfl (Lo.box (r := (rSl (rArr 2 (rI .i64)))) (x0 := p1) (v := v1) rfl rfl (sl_cells hp1) O) ?_
 rintro v4 H5 ⟨b2, rfl, O1, sm3⟩
 refine W.lo rfl rfl (Lo.box (r := (rI .i64)) (x0 := p3) (v := (.int .i64 p3)) rfl rfl rfl O1) ?_
 rintro v9 H10 ⟨b7, rfl, O6, sm8⟩
 refine W.lo rfl rfl (Lo.box (r := rV) (x0 := v4) (v := v4) rfl rfl (fn_ok hp4) O6) ?_
 rintro v16 H17 ⟨b13, rfl, O14, sm15⟩
 refine W.pure (v := (.slice none 0 0)) rfl rfl (v_assign (oo rfl rfl)) ?_
 refine W.pure (v := (.bool false)) rfl rfl (v_assign (oo rfl rfl)) ?_
 refine .nil ?_
 refine .seq ?_
 refine .seq ?_
 refine .draw2 (M := [0, 0, 0, 7, 0, 31, 63, 0, 255, 511, 1023]) mixed (by kernel_rfl) (by kernel_rfl) fun H18 N22 x19 F21 => ?_
 have O20 := O14.ext x19
 refine D2.pure (v := (.int .i64 p0)) rfl rfl (v_move (oo rfl rfl)) ?_
 obtain ⟨w23, p24, f25⟩ := At.sl (O20.atVar (j := 2) rfl)
 refine D2.load1' (v := w23) (r := []) rfl rfl ag22 (pt_px rfl p24) fa_nil ?_
 refine D2.load1' (v := v4) (r := []) rfl rfl ag33 (pt_px rfl (At.raw (O20.atVar (j := 0) rfl))) fa_nil ?_
 obtain ⟨x26, i27, h28⟩ := bd_inv h
 refine D2.lo rfl rfl (Lo.callP (ps := []) (ps' := []) rfl (fn := Try.f14) (by kernel_rfl) rfl (mc rfl (mc rfl (mc rfl mn))) O20 (fun L' O' => g_R_Joined_ok K p0 w23 p1 f25 v4 p4 hp4 O' _ i27)) ?_ fa_nil ?_ ?_
 ·rintro v37 H38 ⟨G29, O30, s31, sm36, ⟨w33, rfl, f34⟩⟩; exact (faR1 (.inl (by decide)) (faR1 (.inl (by decide)) fa_nil))
 ·rintro v37 H38 ⟨G29, O30, s31, sm36, ⟨w33, rfl, f34⟩⟩; exact fa_nil
 rintro v37 H38 ⟨G29, O30, s31, sm36, ⟨w33, rfl, f34⟩⟩
 replace O30 : Ow G29 H38 (eVar b13 33 rV v4 :: eVar b7 3 (rI .i64) p3 :: eVar b2 22 (rSl (rArr 2 (rI .i64))) p1 :: L) := O30
 refine D2.pure (v := (.int .i64 p2)) rfl rfl (v_move (oo rfl rfl)) ?_
 obtain ⟨x39, i40, h41⟩ := bd_inv h28
 have j42 := idx_inv i40
 refine D2.pure (v := (selem w33 (Int.toNat p2 * 1))) rfl rfl (v_idx el31 sz30 (oo rfl rfl) (oo rfl rfl) (sl_len f34) j42.1 j42.2.1) ?_
 obtain ⟨w43, p44, f45⟩ := At.sl (sl_idx f34 j42.2.2)
 replace p44 := PtG.le p44 O30.fro
 refine D2.load1' (v := w43) (r := []) rfl rfl ag30 (pt_px rfl p44) (faQ_bit (by decide) fa_nil) ?_
 refine D2.load1' (v := (.int .i64 p3)) (r := []) rfl rfl ag3 (pt_px rfl (At.int (O30.atVar (j := 1) rfl))) (faQ_eq (sm36 _ (Or.inr ⟨1, _, rfl, List.mem_singleton.2 rfl⟩)) fa_nil) ?_
 obtain ⟨x46, i47, h48⟩ := bd_inv h41
 have j49 := idx_inv i47
 refine D2.pure (v := (selem w43 (Int.toNat p3 * 1))) rfl rfl (v_idx el30 sz4 (oo rfl rfl) (oo rfl rfl) (sl_len f45) j49.1 j49.2.1) ?_
 refine D2.load1' (v := (.bool x46)) (r := []) rfl rfl ag4 (pt_px rfl (At.bool (At.le (sl_idx f45 j49.2.2) (GM.le.refl _) O30.fro))) (faQ_bit (by decide) fa_nil) ?_
 refine D2.pure (v := (.bool (!x46))) rfl rfl (bool_not (a := x46) (oo rfl rfl)) ?_
 refine .nil ?_
 refine .cond (b := (!x46)) rfl rfl (fun g50 => ?_) (fun g50 => ?_)
 ·have h51 := pos_inv g50 h48
  refine .seq ?_
  refine .region ?_
  refine W.pure (v := (.slice none 0 0)) rfl rfl (v_assign (oo rfl rfl)) ?_
  refine W.pure (v := (.bool false)) rfl rfl (v_assign (oo rfl rfl)) ?_
  refine .nil ?_
  refine .ret ?_
  have O52 : Ow G29 H38 (eVar b7 3 (rI .i64) p3 :: eVar b2 22 (rSl (rArr 2 (rI .i64))) p1 :: L) := O30.drop 0
  have O53 : Ow G29 H38 (eVar b2 22 (rSl (rArr 2 (rI .i64))) p1 :: L) := O52.drop 0
  have O54 : Ow G29 H38 (L) := O53.drop 0
  obtain rfl := Option.some.inj h51
  refine ret2R (P := Try.prog) (fn := Try.f20) (n := 42) (R := fun v H' => ∃ G', Ow G' H' (L) ∧ G.le G' ∧ ∃ (w0 : Value), v = .tuple #[w0, .bool ([], false).2] ∧ (rSl (rI .i64)).rep G' [w0] ([], false).1) (v1 := (.slice none 0 0)) (v2 := (.bool false)) (by rfl) (rr_tmp (by rfl) (by exact rfl)) (rr_tmp (by rfl) (by exact rfl)) ?_
  exact ⟨_, O54, s31, (.slice none 0 0), rfl, sl_nil⟩
 ·have h55 := neg_b g50 h48
  refine .skip ?_
  refine .seq ?_
  refine .region ?_
  refine W.lo rfl rfl (Lo.alloc (r := rV) (x0 := .nilFunc) ze95 (by kernel_rfl) (fun _ => ⟨rfl, rfl⟩) O30) ?_
  rintro v61 H62 ⟨b58, rfl, O59, sm60⟩
  refine .nil ?_
  refine .seq ?_
  refine .region ?_
  refine W.pure (v := (.func (.func 59) #[] #[(.pointer (some ⟨b7, 0, none⟩)), (.pointer (some ⟨b2, 0, none⟩)), (.pointer (some ⟨b13, 0, none⟩)), (.pointer (some ⟨b58, 0, none⟩))])) rfl rfl (v_makeFunc (opndL_ooL rfl mn) (opndL_ooL rfl (mc rfl (mc rfl (mc rfl (mc rfl mn)))))) ?_
  refine W.lo rfl rfl (Lo.storeVar (j := 0) (s := rV) (y0 := (.func (.func 59) #[] #[(.pointer (some ⟨b7, 0, none⟩)), (.pointer (some ⟨b2, 0, none⟩)), (.pointer (some ⟨b13, 0, none⟩)), (.pointer (some ⟨b58, 0, none⟩))])) (v := (.func (.func 59) #[] #[(.pointer (some ⟨b7, 0, none⟩)), (.pointer (some ⟨b2, 0, none⟩)), (.pointer (some ⟨b13, 0, none⟩)), (.pointer (some ⟨b58, 0, none⟩))])) (o := 0) rfl (Put.at (Put.self _) _ _) rfl sz95 rfl (by omega) rfl ⟨rfl, rfl⟩ O59) ?_
  rintro v65 H66 ⟨O63, sm64⟩
  replace O63 : Ow G29 H66 (eVar b58 95 rV (.func (.func 59) #[] #[(.pointer (some ⟨b7, 0, none⟩)), (.pointer (some ⟨b2, 0, none⟩)), (.pointer (some ⟨b13, 0, none⟩)), (.pointer (some ⟨b58, 0, none⟩))]) :: eVar b13 33 rV v4 :: eVar b7 3 (rI .i64) p3 :: eVar b2 22 (rSl (rArr 2 (rI .i64))) p1 :: L) := O63
  refine .nil ?_
  refine .seq ?_
  refine .seq ?_
  refine .region ?_
  refine W.pure (v := (.int .i64 p0)) rfl rfl (v_move (oo rfl rfl)) ?_
  refine W.pure (v := (.int .i64 0)) rfl rfl (v_move (oo rfl rfl)) ?_
  refine .nil ?_
  obtain ⟨G67, O68, s69, f70⟩ := O63.frzVar (j := 3) rfl
  replace O68 : Ow G67 H66 (eVar b58 95 rV (.func (.func 59) #[] #[(.pointer (some ⟨b7, 0, none⟩)), (.pointer (some ⟨b2, 0, none⟩)), (.pointer (some ⟨b13, 0, none⟩)), (.pointer (some ⟨b58, 0, none⟩))]) :: eVar b13 33 rV v4 :: eVar b7 3 (rI .i64) p3 :: L) := O68
  obtain ⟨G71, O72, s73, f74⟩ := O68.frzVar (j := 2) rfl
  replace O72 : Ow G71 H66 (eVar b58 95 rV (.func (.func 59) #[] #[(.pointer (some ⟨b7, 0, none⟩)), (.pointer (some ⟨b2, 0, none⟩)), (.pointer (some ⟨b13, 0, none⟩)), (.pointer (some ⟨b58, 0, none⟩))]) :: eVar b13 33 rV v4 :: L) := O72
  obtain ⟨G75, O76, s77, f78⟩ := O72.frzVar (j := 0) rfl
  replace O76 : Ow G75 H66 (eVar b13 33 rV v4 :: L) := O76
  obtain ⟨G79, O80, s81, f82⟩ := O76.frzVar (j := 0) rfl
  replace O80 : Ow G79 H66 (L) := O80
  obtain ⟨q83, h84, h85⟩ := bindS_inv h55
  refine AW.midT (fun σ' H' => ∃  (G' : GM), (.inr ()) = q83 ∧ Ow G' H' (L) ∧ GM.le G79 G') ?_ ?_
  ·refine .block ?_
   refine AW.loop (α := Nat) (fun k' σ' H' => ∃ (y1 : Int) (G' : GM), g_R_Shortest_l0 K p0 p1 p2 p3 p4 k' y1 = some q83 ∧ Ow G' H' (L) ∧ GM.le G79 G' ∧ σ' 29 = .int .i64 y1) (fun k' => k') K ⟨0, _, h84, O80, (GM.le.refl _), rfl⟩ ?_
   rintro k86
   rintro σ88 H89 fr90 ⟨x87, G91, h94, O92, s93, t95⟩
   rcases k86 with _ | k86
   ·exact none_absurd h94
   rw [g_R_Shortest_l0] at h94
   refine .seq ?_
   refine .region ?_
   refine W.pure (v := (.bool (decide (x87 < p0)))) rfl rfl (v_int (oo rfl t95) (oo rfl ((fr90 28 rfl).trans rfl)) rfl) ?_
   refine .nil ?_
   refine .seq ?_
   refine .cond (b := decide (x87 < p0)) rfl rfl (fun g96 => ?_) (fun g96 => ?_)
   ·have h97 := pos_inv g96 h94
    refine .skip ?_
    refine .seq ?_
    refine .block ?_
    refine .seq ?_
    refine .region ?_
    refine W.pure (v := (.int .i64 x87)) rfl rfl (v_move (oo rfl t95)) ?_
    refine W.pure (v := (.int .i64 x87)) rfl rfl (v_assign (oo rfl rfl)) ?_
    refine .nil ?_
    refine .seq ?_
    refine .region ?_
    refine W.load1 (v := (.func (.func 59) #[] #[(.pointer (some ⟨b7, 0, none⟩)), (.pointer (some ⟨b2, 0, none⟩)), (.pointer (some ⟨b13, 0, none⟩)), (.pointer (some ⟨b58, 0, none⟩))])) (r := []) rfl rfl ag95 (pt_px ((fr90 12 rfl).trans rfl) (PtG.le (PtG.le (At.raw f78) (GM.le.trans s81 s93)) O92.fro)) ?_
    refine W.pure (v := (.int .i64 p2)) rfl rfl (v_move (oo rfl ((fr90 2 rfl).trans rfl))) ?_
    refine W.pure (v := (.int .i64 x87)) rfl rfl (v_move (oo rfl rfl)) ?_
    obtain ⟨x98, i99, h100⟩ := bd_inv h97
    refine W.lo rfl rfl (Lo.callvP (ps := []) (ps' := []) rfl rfl (fn := Try.f59) (by kernel_rfl) rfl (mc rfl (mc rfl mn)) O92 (fun L' O' => g_R_Shortest_1_ok K K p2 x87 (.pointer (some ⟨b7, 0, none⟩)) p3 (At.le f74 (GM.le.trans s77 (GM.le.trans s81 s93)) (GM.le.trans s77 (GM.le.trans s81 s93))) (.pointer (some ⟨b2, 0, none⟩)) p1 (At.le f70 (GM.le.trans s73 (GM.le.trans s77 (GM.le.trans s81 s93))) (GM.le.trans s73 (GM.le.trans s77 (GM.le.trans s81 s93)))) (.pointer (some ⟨b13, 0, none⟩)) v4 p4 (PtG.le (At.raw f82) s93) (FnOk.le hp4 (GM.le.trans s31 (GM.le.trans s69 (GM.le.trans s73 (GM.le.trans s77 (GM.le.trans s81 s93)))))) (.pointer (some ⟨b58, 0, none⟩)) (PtG.le (At.raw f78) (GM.le.trans s81 s93)) O' _ i99)) ?_
    rintro v109 H110 ⟨G101, O102, s103, sm108, ⟨w105, rfl, f106⟩⟩
    replace O102 : Ow G101 H110 (L) := O102
    refine W.pure (v := (.tuple #[w105, (.bool x98.2)])) rfl rfl (v_move (oo rfl rfl)) ?_
    refine W.pure (v := w105) rfl rfl (v_extract (oo rfl rfl) rfl) ?_
    refine W.pure (v := (.bool x98.2)) rfl rfl (v_extract (oo rfl rfl) rfl) ?_
    refine W.pure (v := w105) rfl rfl (v_assign (oo rfl rfl)) ?_
    refine W.pure (v := (.bool x98.2)) rfl rfl (v_assign (oo rfl rfl)) ?_
    refine .nil ?_
    refine .seq ?_
    refine .region ?_
    refine W.pure (v := (.bool x98.2)) rfl rfl (v_move (oo rfl rfl)) ?_
    refine .nil ?_
    refine .cond (b := x98.2) rfl rfl (fun g111 => ?_) (fun g111 => ?_)
    ·have h112 := pos_inv g111 h100
     refine .seq ?_
     refine .region ?_
     refine W.pure (v := w105) rfl rfl (v_move (oo rfl rfl)) ?_
     refine W.pure (v := w105) rfl rfl (v_assign (oo rfl rfl)) ?_
     refine W.pure (v := (.bool true)) rfl rfl (v_assign (oo rfl rfl)) ?_
     refine .nil ?_
     refine .ret ?_
     obtain rfl := Option.some.inj h112
     have h113 := tu2_inv (outS_l h85)
     obtain rfl := Option.some.inj h113
     refine ret2R (P := Try.prog) (fn := Try.f20) (n := 42) (R := fun v H' => ∃ G', Ow G' H' (L) ∧ G.le G' ∧ ∃ (w0 : Value), v = .tuple #[w0, .bool (x98.1, true).2] ∧ (rSl (rI .i64)).rep G' [w0] (x98.1, true).1) (v1 := w105) (v2 := (.bool true)) (by rfl) (rr_tmp (by rfl) (by exact rfl)) (rr_tmp (by rfl) (by exact rfl)) ?_
     exact ⟨_, O102, (GM.le.trans s31 (GM.le.trans s69 (GM.le.trans s73 (GM.le.trans s77 (GM.le.trans s81 (GM.le.trans s93 s103)))))), w105, rfl, f106⟩
    ·have h114 := neg_b g111 h100
     refine .skip ?_
     refine .region ?_
     refine W.pure (v := (.int .i64 (kwrap .i64 (x87 + 1)))) rfl rfl (v_int (oo rfl t95) (oo rfl rfl) rfl) ?_
     refine W.pure (v := (.int .i64 (kwrap .i64 (x87 + 1)))) rfl rfl (v_move (oo rfl rfl)) ?_
     refine .nil ?_
     exact ⟨k86, Nat.lt_succ_self _, ⟨kwrap .i64 (x87 + 1), _, h114, O102, (GM.le.trans s93 s103), rfl⟩⟩
   ·have h115 := neg_b g96 h94
    refine .exit ?_
    obtain rfl := Option.some.inj h115
    exact ⟨_, rfl, O92, s93⟩
  ·rintro σ116 H117 fr118 ⟨G119, rfl, O120, s121⟩
   have h123 := tu0_inv (outS_r h85)
   refine .seq ?_
   refine .region ?_
   refine W.pure (v := (.slice none 0 0)) rfl rfl (v_assign (oo rfl rfl)) ?_
   refine W.pure (v := (.bool false)) rfl rfl (v_assign (oo rfl rfl)) ?_
   refine .nil ?_
   refine .ret ?_
   obtain rfl := Option.some.inj h123
   refine ret2R (P := Try.prog) (fn := Try.f20) (n := 42) (R := fun v H' => ∃ G', Ow G' H' (L) ∧ G.le G' ∧ ∃ (w0 : Value), v = .tuple #[w0, .bool ([], false).2] ∧ (rSl (rI .i64)).rep G' [w0] ([], false).1) (v1 := (.slice none 0 0)) (v2 := (.bool false)) (by rfl) (rr_tmp (by rfl) (by exact rfl)) (rr_tmp (by rfl) (by exact rfl)) ?_
   exact ⟨_, O120, (GM.le.trans s31 (GM.le.trans s69 (GM.le.trans s73 (GM.le.trans s77 (GM.le.trans s81 s121))))), (.slice none 0 0), rfl, sl_nil⟩
def g_law_named_l0 (K : Nat) (p0 : Network) (p1 : List Int) : Nat → List ByteArray → Int → Option (List ByteArray)
 | 0, _, _ => none
 | k + 1, x11, x12 => (if (decide (x12 < (List.length p1 : Int))) = true then ((idx p1 x12).bind fun x23 => ((idx p0.Switches x23).bind fun x30 => (if List.length x11 + List.length [x30.Name] ≤ 16777216 then g_law_named_l0 K p0 p1 k (x11 ++ [x30.Name]) (kwrap .i64 (x12 + 1)) else none))) else some x11)
def g_law_named (K : Nat) (p0 : Network) (p1 : List Int) : Option (List ByteArray) := (Option.bind (g_law_named_l0 K p0 p1 K [] 0) (tu1 fun x51 => some x51))
set_option maxHeartbeats 4000000 in
theorem g_law_named_ok (K : Nat) {G : GM} {H : AH} {L : List Pc} (v0 : List Value) (p0 : Network) (hp0 : T_Network.rep G v0 p0) (v1 : Value) (p1 : List Int) (hp1 : (rSl (rI .i64)).rep G [v1] p1) (O : Ow G H (L)) (r : List ByteArray) (h : g_law_named K p0 p1 = some r) :
  CRF Try.prog 49 [.agg (List.toArray v0), v1] G H (fun w0 => (eSl w0 9 rS r :: L)) (fun w0 v G' => w0 = v) := by
 unfold g_law_named at h
 refine CRF.of (calls_of_AW (n := 25) (fn := Try.f49) (R := fun v H' => ∃ w0 G', Ow G' H' (eSl w0 9 rS r :: L) ∧ G.le G' ∧ w0 = v) (by kernel_rfl) rfl rfl ?_)
 refine .seq ?_
 refine .region ?_
 refine W.lo rfl rfl (Lo.box (r := T_Network) (x0 := p0) (v := (.agg (List.toArray v0))) rfl rfl hp0 O) ?_
 rintro v4 H5 ⟨b2, rfl, O1, sm3⟩
 refine W.pure (v := (.slice none 0 0)) rfl rfl (v_assign (oo rfl rfl)) ?_
 refine .nil ?_
 refine .seq ?_
 refine .region ?_
 refine W.pure (v := (.slice none 0 0)) rfl rfl (v_assign (oo rfl rfl)) ?_
 refine .nil ?_
 refine .seq ?_
 refine .seq ?_
 refine .region ?_
 refine W.pure (v := v1) rfl rfl (v_move (oo rfl rfl)) ?_
 refine W.pure (v := (.int .i64 (List.length p1 : Int))) rfl rfl (len_sl (oo rfl rfl) (sl_len hp1) (elemT_inv el24)) ?_
 refine W.pure (v := (.int .i64 0)) rfl rfl (v_move (oo rfl rfl)) ?_
 refine .nil ?_
 obtain ⟨q6, h7, h8⟩ := bd_inv h
 refine AW.midT (fun σ' H' => ∃ (y1 : List ByteArray) (G' : GM), y1 = q6 ∧ Ow G' H' (eVar b2 48 T_Network p0 :: eSl (σ' 5) 9 rS y1 :: L) ∧ GM.le G G') ?_ ?_
 ·refine .block ?_
  have O9 := O1.nilSl 9 rS
  refine AW.loop (α := Nat) (fun k' σ' H' => ∃ (y1 : List ByteArray) (y2 : Int) (G' : GM), g_law_named_l0 K p0 p1 k' y1 y2 = some q6 ∧ Ow G' H' (eSl (σ' 5) 9 rS y1 :: eVar b2 48 T_Network p0 :: L) ∧ GM.le G G' ∧ σ' 10 = .int .i64 y2) (fun k' => k') K ⟨[], 0, _, h7, O9, (GM.le.refl _), rfl⟩ ?_
  rintro k10
  rintro σ13 H14 fr15 ⟨x11, x12, G16, h19, O17, s18, t20⟩
  rcases k10 with _ | k10
  ·exact none_absurd h19
  rw [g_law_named_l0] at h19
  refine .seq ?_
  refine .region ?_
  refine W.pure (v := (.bool (decide (x12 < (List.length p1 : Int))))) rfl rfl (v_int (oo rfl t20) (oo rfl ((fr15 9 rfl).trans rfl)) rfl) ?_
  refine .nil ?_
  refine .seq ?_
  refine .cond (b := decide (x12 < (List.length p1 : Int))) rfl rfl (fun g21 => ?_) (fun g21 => ?_)
  ·have h22 := pos_inv g21 h19
   refine .skip ?_
   refine .seq ?_
   refine .block ?_
   refine .seq ?_
   refine .region ?_
   obtain ⟨x23, i24, h25⟩ := bd_inv h22
   have j26 := idx_inv i24
   refine W.pure (v := (selem v1 (Int.toNat x12 * 1))) rfl rfl (v_idx el24 sz3 (oo rfl ((fr15 8 rfl).trans rfl)) (oo rfl t20) (sl_len (RT.mono _ s18 hp1)) j26.1 j26.2.1) ?_
   refine W.load1 (v := (.int .i64 x23)) (r := []) rfl rfl ag3 (pt_px rfl (At.int (At.le (At.le (sl_idx hp1 j26.2.2) s18 s18) (GM.le.refl _) O17.fro))) ?_
   refine W.pure (v := (.int .i64 x23)) rfl rfl (v_assign (oo rfl rfl)) ?_
   refine .nil ?_
   refine .region ?_
   refine W.pure (v := (σ13 5)) rfl rfl (v_move (oo rfl rfl)) ?_
   refine W.pure (v := (padd (.pointer (some ⟨b2, 0, none⟩)) 1)) rfl rfl (v_fldA fl48_1 (oo rfl ((fr15 2 rfl).trans rfl)) (O17.atVar (j := 1) rfl)) ?_
   obtain ⟨w27, p28, f29⟩ := At.sl (At.proj (O17.atVar (j := 1) rfl) p_Network_Switches)
   refine W.load1 (v := w27) (r := []) rfl rfl ag42 (pt_px rfl p28) ?_
   refine W.pure (v := (.int .i64 x23)) rfl rfl (v_move (oo rfl rfl)) ?_
   obtain ⟨x30, i31, h32⟩ := bd_inv h25
   have j33 := idx_inv i31
   refine W.pure (v := (selem w27 (Int.toNat x23 * 5))) rfl rfl (v_idx el42 sz81 (oo rfl rfl) (oo rfl rfl) (sl_len f29) j33.1 j33.2.1) ?_
   refine W.pure (v := (padd (selem w27 (Int.toNat x23 * 5)) 0)) rfl rfl (v_fldA fl81_0 (oo rfl rfl) (At.le (sl_idx f29 j33.2.2) (GM.le.refl _) O17.fro)) ?_
   refine W.load1 (v := (.string x30.Name)) (r := []) rfl rfl ag9 (pt_px rfl (At.str (At.le (At.proj (sl_idx f29 j33.2.2) p_Switch_Name) (GM.le.refl _) O17.fro))) ?_
   refine W.lo rfl rfl (Lo.buildSlice (r := rS) (vs := [(.string x30.Name)]) (xs := [x30.Name]) el41 ze9 sz9 (by kernel_rfl) rfl (qc rfl qn) rfl (.cons rfl .nil) O17) ?_
   rintro v36 H37 ⟨O34, sm35⟩
   obtain ⟨es39, e40, e41⟩ := src_own (j := 0) rfl O34
   obtain ⟨g42, h43⟩ := gd_inv h32
   refine W.lo rfl rfl (Lo.append (j := 1) (v := (σ13 5)) rfl rfl el41 ni41 ze9 sz9 by9 (by decide) (by decide) rfl e40 e41 g42 O34) ?_
   rintro v45 H46 ⟨O38, sm44⟩
   replace O38 : Ow G16 H46 (eSl v36 9 rS [x30.Name] :: eSl v45 9 rS (x11 ++ [x30.Name]) :: eVar b2 48 T_Network p0 :: L) := O38
   refine W.pure (v := v45) rfl rfl (v_assign (oo rfl rfl)) ?_
   refine .nil ?_
   refine .region ?_
   refine W.pure (v := (.int .i64 (kwrap .i64 (x12 + 1)))) rfl rfl (v_int (oo rfl t20) (oo rfl rfl) rfl) ?_
   refine W.pure (v := (.int .i64 (kwrap .i64 (x12 + 1)))) rfl rfl (v_move (oo rfl rfl)) ?_
   refine .nil ?_
   have O47 : Ow G16 H46 (eSl v45 9 rS (x11 ++ [x30.Name]) :: eVar b2 48 T_Network p0 :: L) := O38.drop 0
   exact ⟨k10, Nat.lt_succ_self _, ⟨(x11 ++ [x30.Name]), kwrap .i64 (x12 + 1), _, h43, O47, s18, rfl⟩⟩
  ·have h48 := neg_b g21 h19
   refine .exit ?_
   have O49 : Ow G16 H14 (eSl (σ13 5) 9 rS x11 :: eVar b2 48 T_Network p0 :: L) := O17.front (j := 0) rfl
   have O50 : Ow G16 H14 (eVar b2 48 T_Network p0 :: eSl (σ13 5) 9 rS x11 :: L) := O49.front (j := 1) rfl
   obtain rfl := Option.some.inj h48
   exact ⟨x11, _, rfl, O50, s18⟩
 ·rintro σ52 H53 fr54 ⟨x51, G55, rfl, O56, s57⟩
  have h59 := tu1_inv h8
  refine .seq ?_
  refine .region ?_
  refine W.pure (v := (σ52 5)) rfl rfl (v_move (oo rfl rfl)) ?_
  refine W.pure (v := (σ52 5)) rfl rfl (v_assign (oo rfl rfl)) ?_
  refine .nil ?_
  refine .ret ?_
  have O60 : Ow G55 H53 (eSl (σ52 5) 9 rS x51 :: L) := O56.drop 0
  obtain rfl := Option.some.inj h59
  refine ret1R (P := Try.prog) (fn := Try.f49) (n := 25) (R := fun v H' => ∃ w0 G', Ow G' H' (eSl w0 9 rS x51 :: L) ∧ G.le G' ∧ w0 = v) (v1 := (σ52 5)) (by rfl) (rr_tmp (by rfl) (by exact rfl)) ?_
  exact ⟨(σ52 5), _, O60, s57, rfl⟩
def g_slices_Equal_string_string_l0 (K : Nat) (p0 : List ByteArray) (p1 : List ByteArray) : Nat → Int → Option (Bool ⊕ Unit)
 | 0, _ => none
 | k + 1, x8 => (if (decide (x8 < (List.length p0 : Int))) = true then ((idx p0 x8).bind fun x24 => ((idx p1 x8).bind fun x28 => (if (!(sEq x24 x28)) = true then some (.inl false) else g_slices_Equal_string_string_l0 K p0 p1 k (kwrap .i64 (x8 + 1))))) else some (.inr ()))
def g_slices_Equal_string_string (K : Nat) (p0 : List ByteArray) (p1 : List ByteArray) : Option Bool := (if ((List.length p0 : Int) != (List.length p1 : Int)) = true then some false else (bindS (g_slices_Equal_string_string_l0 K p0 p1 K 0) (tu1 fun a45 => some a45) (tu0 (some true))))
set_option maxHeartbeats 4000000 in
theorem g_slices_Equal_string_string_ok (K : Nat) {G : GM} {H : AH} {L : List Pc} (v0 : Value) (p0 : List ByteArray) (hp0 : (rSl rS).rep G [v0] p0) (v1 : Value) (p1 : List ByteArray) (hp1 : (rSl rS).rep G [v1] p1) (O : Ow G H (L)) (r : Bool) (h : g_slices_Equal_string_string K p0 p1 = some r) :
  CR Try.prog 41 [v0, v1] G H (L) (fun v G' _ => v = .bool r) := by
 unfold g_slices_Equal_string_string at h
 refine CR.of (calls_of_AW (n := 26) (fn := Try.f41) (R := fun v H' => ∃ G', Ow G' H' (L) ∧ G.le G' ∧ v = .bool r) (by kernel_rfl) rfl rfl ?_)
 refine .seq ?_
 refine .region ?_
 refine W.pure (v := (.bool false)) rfl rfl (v_assign (oo rfl rfl)) ?_
 refine .nil ?_
 refine .seq ?_
 refine .seq ?_
 refine .region ?_
 refine W.pure (v := v0) rfl rfl (v_move (oo rfl rfl)) ?_
 refine W.pure (v := (.int .i64 (List.length p0 : Int))) rfl rfl (len_sl (oo rfl rfl) (sl_len hp0) (elemT_inv el41)) ?_
 refine W.pure (v := v1) rfl rfl (v_move (oo rfl rfl)) ?_
 refine W.pure (v := (.int .i64 (List.length p1 : Int))) rfl rfl (len_sl (oo rfl rfl) (sl_len hp1) (elemT_inv el41)) ?_
 refine W.pure (v := (.bool ((List.length p0 : Int) != (List.length p1 : Int)))) rfl rfl (v_int (oo rfl rfl) (oo rfl rfl) rfl) ?_
 refine .nil ?_
 refine .cond (b := ((List.length p0 : Int) != (List.length p1 : Int))) rfl rfl (fun g1 => ?_) (fun g1 => ?_)
 ·have h2 := pos_inv g1 h
  refine .seq ?_
  refine .region ?_
  refine W.pure (v := (.bool false)) rfl rfl (v_assign (oo rfl rfl)) ?_
  refine .nil ?_
  refine .ret ?_
  obtain rfl := Option.some.inj h2
  refine ret1R (P := Try.prog) (fn := Try.f41) (n := 26) (R := fun v H' => ∃ G', Ow G' H' (L) ∧ G.le G' ∧ v = .bool false) (v1 := (.bool false)) (by rfl) (rr_tmp (by rfl) (by exact rfl)) ?_
  exact ⟨_, O, (GM.le.refl _), rfl⟩
 ·have h3 := neg_b g1 h
  refine .skip ?_
  refine .seq ?_
  refine .seq ?_
  refine .region ?_
  refine W.pure (v := v0) rfl rfl (v_move (oo rfl rfl)) ?_
  refine W.pure (v := (.int .i64 (List.length p0 : Int))) rfl rfl (len_sl (oo rfl rfl) (sl_len hp0) (elemT_inv el41)) ?_
  refine W.pure (v := (.int .i64 0)) rfl rfl (v_move (oo rfl rfl)) ?_
  refine .nil ?_
  obtain ⟨q4, h5, h6⟩ := bindS_inv h3
  refine AW.midT (fun σ' H' => ∃  (G' : GM), (.inr ()) = q4 ∧ Ow G' H' (L) ∧ GM.le G G') ?_ ?_
  ·refine .block ?_
   refine AW.loop (α := Nat) (fun k' σ' H' => ∃ (y1 : Int) (G' : GM), g_slices_Equal_string_string_l0 K p0 p1 k' y1 = some q4 ∧ Ow G' H' (L) ∧ GM.le G G' ∧ σ' 13 = .int .i64 y1) (fun k' => k') K ⟨0, _, h5, O, (GM.le.refl _), rfl⟩ ?_
   rintro k7
   rintro σ9 H10 fr11 ⟨x8, G12, h15, O13, s14, t16⟩
   rcases k7 with _ | k7
   ·exact none_absurd h15
   rw [g_slices_Equal_string_string_l0] at h15
   refine .seq ?_
   refine .region ?_
   refine W.pure (v := (.bool (decide (x8 < (List.length p0 : Int))))) rfl rfl (v_int (oo rfl t16) (oo rfl ((fr11 12 rfl).trans rfl)) rfl) ?_
   refine .nil ?_
   refine .seq ?_
   refine .cond (b := decide (x8 < (List.length p0 : Int))) rfl rfl (fun g17 => ?_) (fun g17 => ?_)
   ·have h18 := pos_inv g17 h15
    refine .skip ?_
    refine .seq ?_
    refine .block ?_
    refine .seq ?_
    refine .region ?_
    refine W.pure (v := (.int .i64 x8)) rfl rfl (v_move (oo rfl t16)) ?_
    refine W.pure (v := (.int .i64 x8)) rfl rfl (v_assign (oo rfl rfl)) ?_
    refine .nil ?_
    refine .seq ?_
    refine .draw2 (M := [0, 0, 3, 7, 0, 0, 48, 112, 255]) mixed (by kernel_rfl) (by kernel_rfl) fun H19 N23 x20 F22 => ?_
    have O21 := O13.ext x20
    refine D2.pure (v := v0) rfl rfl (v_move (oo rfl ((fr11 0 rfl).trans rfl))) ?_
    refine D2.pure (v := (.int .i64 x8)) rfl rfl (v_move (oo rfl rfl)) ?_
    obtain ⟨x24, i25, h26⟩ := bd_inv h18
    have j27 := idx_inv i25
    refine D2.pure (v := (selem v0 (Int.toNat x8 * 1))) rfl rfl (v_idx el41 sz9 (oo rfl rfl) (oo rfl rfl) (sl_len (RT.mono _ s14 hp0)) j27.1 j27.2.1) ?_
    refine D2.load1' (v := (.string x24)) (r := []) rfl rfl ag9 (pt_px rfl (At.str (At.le (At.le (sl_idx hp0 j27.2.2) s14 s14) (GM.le.refl _) O21.fro))) fa_nil ?_
    refine D2.pure (v := v1) rfl rfl (v_move (oo rfl ((fr11 1 rfl).trans rfl))) ?_
    refine D2.pure (v := (.int .i64 x8)) rfl rfl (v_move (oo rfl rfl)) ?_
    obtain ⟨x28, i29, h30⟩ := bd_inv h26
    have j31 := idx_inv i29
    refine D2.pure (v := (selem v1 (Int.toNat x8 * 1))) rfl rfl (v_idx el41 sz9 (oo rfl rfl) (oo rfl rfl) (sl_len (RT.mono _ s14 hp1)) j31.1 j31.2.1) ?_
    refine D2.load1' (v := (.string x28)) (r := []) rfl rfl ag9 (pt_px rfl (At.str (At.le (At.le (sl_idx hp1 j31.2.2) s14 s14) (GM.le.refl _) O21.fro))) fa_nil ?_
    refine D2.pure (v := (.bool (!(sEq x24 x28)))) rfl rfl (vs_neq (oo rfl rfl) (oo rfl rfl)) ?_
    refine .nil ?_
    refine .cond (b := (!(sEq x24 x28))) rfl rfl (fun g32 => ?_) (fun g32 => ?_)
    ·have h33 := pos_inv g32 h30
     refine .seq ?_
     refine .region ?_
     refine W.pure (v := (.bool false)) rfl rfl (v_assign (oo rfl rfl)) ?_
     refine .nil ?_
     refine .ret ?_
     obtain rfl := Option.some.inj h33
     have h34 := tu1_inv (outS_l h6)
     obtain rfl := Option.some.inj h34
     refine ret1R (P := Try.prog) (fn := Try.f41) (n := 26) (R := fun v H' => ∃ G', Ow G' H' (L) ∧ G.le G' ∧ v = .bool false) (v1 := (.bool false)) (by rfl) (rr_tmp (by rfl) (by exact rfl)) ?_
     exact ⟨_, O21, s14, rfl⟩
    ·have h35 := neg_b g32 h30
     refine .skip ?_
     refine .region ?_
     refine W.pure (v := (.int .i64 (kwrap .i64 (x8 + 1)))) rfl rfl (v_int (oo rfl t16) (oo rfl rfl) rfl) ?_
     refine W.pure (v := (.int .i64 (kwrap .i64 (x8 + 1)))) rfl rfl (v_move (oo rfl rfl)) ?_
     refine .nil ?_
     exact ⟨k7, Nat.lt_succ_self _, ⟨kwrap .i64 (x8 + 1), _, h35, O21, s14, rfl⟩⟩
   ·have h36 := neg_b g17 h15
    refine .exit ?_
    obtain rfl := Option.some.inj h36
    exact ⟨_, rfl, O13, s14⟩
  ·rintro σ37 H38 fr39 ⟨G40, rfl, O41, s42⟩
   have h44 := tu0_inv (outS_r h6)
   refine .seq ?_
   refine .region ?_
   refine W.pure (v := (.bool true)) rfl rfl (v_assign (oo rfl rfl)) ?_
   refine .nil ?_
   refine .ret ?_
   obtain rfl := Option.some.inj h44
   refine ret1R (P := Try.prog) (fn := Try.f41) (n := 26) (R := fun v H' => ∃ G', Ow G' H' (L) ∧ G.le G' ∧ v = .bool true) (v1 := (.bool true)) (by rfl) (rr_tmp (by rfl) (by exact rfl)) ?_
   exact ⟨_, O41, s42, rfl⟩
end Go.Am.Try
