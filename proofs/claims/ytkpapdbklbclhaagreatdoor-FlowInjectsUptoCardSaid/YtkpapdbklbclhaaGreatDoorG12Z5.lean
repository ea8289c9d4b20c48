/- Typed functions with the same answers as the program's, and the walks that show it. -/
import Derived.Test.YtkpapdbklbclhaaGreatDoorG2Z5
import Derived.Test.YtkpapdbklbclhaaGreatDoorG11Z5
set_option maxRecDepth 100000
set_option maxHeartbeats 8000000
set_option linter.unusedVariables false
set_option linter.unusedSimpArgs false
namespace Go.Am.Tryz
open Go Go.Am Go.Proofs
variable (K : Nat) {G : GM} {H : AH} {L : List Pc}
def z0y (K : Nat) (p0 : Network) (p1 : List Int) : Nat -> List Int -> Int -> Option ((List Int × Int) ⊕ (List Int))
  | 0, _, _ => none
  | k + 1, x84, x85 => (if (decide (x85 < (List.length p0.Gens : Int))) = true then ((idx p0.Gens x85).bind fun x97 => (Option.bind (((idx p1 x85).bind fun x121 => (if (x121 != 0) = true then ((idx p1 x85).bind fun x128 => (if (decide (x128 < x97.Least)) = true then some true else ((idx p1 x85).bind fun x136 => some (decide (x136 > x97.Most))))) else some false))) (tu1 fun x141 => (if x141 = true then some (.inl ([], 17)) else ((idx p1 x85).bind fun x164 => ((z1s K x97.Node x164 p0 x84).bind fun x171 => z0y K p0 p1 k x171 (z0n .i64 (x85 + 1)))))))) else some (.inr x84))
def z0t (K : Nat) (p0 : Network) (p2 : List Int) : Nat -> List Int -> Int -> Option ((List Int × Int) ⊕ (List Int))
  | 0, _, _ => none
  | k + 1, x201, x202 => (if (decide (x202 < (List.length p0.Stores : Int))) = true then ((idx p0.Stores x202).bind fun x214 => (Option.bind (((idx p2 x202).bind fun x238 => (if (decide (x238 < (z0n .i64 (-x214.Charge)))) = true then some true else ((idx p2 x202).bind fun x246 => some (decide (x246 > x214.Discharge)))))) (tu1 fun x250 => (if x250 = true then some (.inl ([], 17)) else ((idx p2 x202).bind fun x273 => ((z1s K x214.Node x273 p0 x201).bind fun x280 => z0t K p0 p2 k x280 (z0n .i64 (x202 + 1)))))))) else some (.inr x201))
def z0z (K : Nat) (p0 : Network) : Nat -> List Int -> Int -> Option (List Int)
  | 0, _, _ => none
  | k + 1, x310, x311 => (if (decide (x311 < (List.length p0.Loads : Int))) = true then ((idx p0.Loads x311).bind fun x323 => ((z1s K x323.Node (z0n .i64 (-x323.Demand)) p0 x310).bind fun x342 => z0z K p0 k x342 (z0n .i64 (x311 + 1)))) else some x310)
def z10 (K : Nat) (x355 : List Int) : Nat -> Int -> Option ((List Int × Int) ⊕ Unit)
  | 0, _ => none
  | k + 1, x369 => (if (decide (x369 < (List.length x355 : Int))) = true then ((idx x355 x369).bind fun x380 => (Option.bind ((if (decide (x380 < (-100000))) = true then some true else some (decide (x380 > 100000)))) (tu1 fun x391 => (if x391 = true then some (.inl ([], 4)) else z10 K x355 k (z0n .i64 (x369 + 1)))))) else some (.inr ()))
def z3d (K : Nat) (p0 : Network) (p1 : List Int) (p2 : List Int) : Option (List Int × Int) := ((z29 K p0).bind fun x9 => (if (x9 != 0) = true then some ([], x9) else (Option.bind ((if ((List.length p1 : Int) != (List.length p0.Gens : Int)) = true then some true else some ((List.length p2 : Int) != (List.length p0.Stores : Int)))) (tu1 fun x38 => (if x38 = true then some ([], 3) else (if 0 <= (List.length p0.Nodes : Int) /\ (List.length p0.Nodes : Int) <= (List.length p0.Nodes : Int) /\ (List.length p0.Nodes : Int) <= 16777216 then (z42 (z0y K p0 p1 K (List.replicate (Int.toNat (List.length p0.Nodes : Int)) 0) 0) (tu2 fun a422 a423 => some (a422, a423)) (tu1 fun x184 => (z42 (z0t K p0 p2 K x184 0) (tu2 fun a420 a421 => some (a420, a421)) (tu1 fun x293 => (Option.bind (z0z K p0 K x293 0) (tu1 fun x355 => (z42 (z10 K x355 K 0) (tu2 fun a418 a419 => some (a418, a419)) (tu0 (some (x355, 0)))))))))) else none))))))
theorem z6u (v0 : List Value) (p0 : Network) (hp0 : T_Network.rep G v0 p0) (v1 : Value) (p1 : List Int) (hp1 : (rSl (rI .i64)).rep G [v1] p1) (v2 : Value) (p2 : List Int) (hp2 : (rSl (rI .i64)).rep G [v2] p2) (O : Ow G H (L)) (r : List Int × Int) (h : z3d K p0 p1 p2 = some r) :
    CRF Tryz.prog 5 [.agg (List.toArray v0), v1, v2] G H (fun w0 => (eSl w0 3 (rI .i64) r.1 :: L)) (fun w0 v G' => v = .tuple #[w0, .int .i64 r.2]) := by
 unfold z3d at h
 refine CRF.og (n := 146) (fn := Tryz.f5) (by kernel_rfl) rfl rfl fun R kr => (.seq (.region (W.lo rfl rfl (Lo.box (r := T_Network) (x0 := p0) (v := (.agg (List.toArray v0))) rfl rfl hp0 O) ?_)))
 rintro v4 H5 ⟨b2, rfl, O1, sm3⟩
 refine W.q1 (.slice none 0 0) rfl (W.q1 (.int .i64 0) rfl (.nil (.seq (.seq (.region ?_)))))
 obtain ⟨c6, p7, f8⟩ := (O1.atVar (j := 0) rfl)
 refine W.loadA (cs := c6) rfl rfl ag29 sz29 (z0g rfl p7) (RT.len _ f8) ?_
 obtain ⟨x9, i10, h11⟩ := z03 h
 refine W.lo rfl rfl (Lo.cP rfl (fn := Tryz.f14) (by kernel_rfl) rfl (mc rfl mn) O1 (fun L' O' => z5m K c6 p0 f8 O' _ i10)) ?_
 rintro v18 H19 ⟨G12, O13, s14, sm17, rfl⟩
 refine W.q1 (.int .i64 x9) rfl (.nil (.seq (.region (W.q2 (.int .i64 x9) rfl (W.q3 (.bool (x9 != 0)) rfl rfl (.nil ?_))))))
 refine .cond (b := (x9 != 0)) rfl rfl (fun g20 => ?_) (fun g20 => ?_)
 .have h21 := z01 g20 h11
  refine .seq (.region (W.q2 (.int .i64 x9) rfl (W.q1 (.slice none 0 0) rfl (W.q1 (.int .i64 x9) rfl (.nil (.ret ?_))))))
  have O22 := O13.nilSl 3 (rI .i64)
  have O23 : Ow G12 H19 (eSl (.slice none 0 0) 3 (rI .i64) [] :: L) := O22.drop 1
  obtain rfl := zAa h21
  exact za8 kr (.slice none 0 0) (v1 := (.slice none 0 0)) (v2 := (.int .i64 x9)) (by rfl) (z0w (by rfl) (by exact rfl)) (z0w (by rfl) (by exact rfl)) O23 s14 rfl
 have h24 := z11 g20 h11
 refine .skip (.seq (.seq ?_))
 obtain ⟨q25, h26, h27⟩ := z03 h24
 refine AW.midT (fun σ' H' => ∃ (y1 : Bool) (G' : GM), y1 = q25 /\ Ow G' H' (eVar b2 29 T_Network p0 :: L) /\ GM.le G12 G' /\ σ' 37 = .bool y1) ?_ ?_
 .refine .region (W.q2 v1 rfl (W.pure (v := (.int .i64 (List.length p1 : Int))) rfl rfl (z1g (oo rfl rfl) (z0f (RT.mono _ s14 hp1)) (z02 el30)) (W.pure (v := (padd (.pointer (some ⟨b2, 0, none⟩)) 3)) rfl rfl (z04 z7x (oo rfl rfl) (O13.atVar (j := 0) rfl)) ?_)))
  obtain ⟨w28, p29, f30⟩ := At.sl (At.proj (O13.atVar (j := 0) rfl) z1l)
  refine W.load1 (v := w28) (r := []) rfl rfl ag25 (z0g rfl p29) (W.pure (v := (.int .i64 (List.length p0.Gens : Int))) rfl rfl (z1g (oo rfl rfl) (z0f f30) (z02 el25)) (W.q3 (.bool ((List.length p1 : Int) != (List.length p0.Gens : Int))) rfl rfl (W.q2 (.bool ((List.length p1 : Int) != (List.length p0.Gens : Int))) rfl (W.splitAt (t := 30) (b := ((List.length p1 : Int) != (List.length p0.Gens : Int))) rfl (fun g31 gv32 => ?_) (fun g31 gv32 => ?_)))))
  .have h33 := z01 g31 h26
   refine W.q6 rfl gv32 (W.q6 rfl gv32 (W.q6 rfl gv32 (W.q6 rfl gv32 (W.q6 rfl gv32 (W.q6 rfl gv32 (W.q4 (.bool true) gv32 rfl ?_))))))
   refine .nil ?_
   obtain rfl := zAa h33
   exact ⟨true, _, rfl, O13, (zAf _), rfl⟩
  have h34 := z11 g31 h26
  refine W.q2 (hg := gk rfl rfl gv32 rfl) v2 rfl (W.pure (v := (.int .i64 (List.length p2 : Int))) (gk rfl rfl gv32 rfl) rfl (z1g (oo rfl rfl) (z0f (RT.mono _ s14 hp2)) (z02 el30)) (W.pure (v := (padd (.pointer (some ⟨b2, 0, none⟩)) 5)) (gk rfl rfl gv32 rfl) rfl (z04 z7y (oo rfl rfl) (O13.atVar (j := 0) rfl)) ?_))
  obtain ⟨w35, p36, f37⟩ := At.sl (At.proj (O13.atVar (j := 0) rfl) z19)
  refine W.load1 (v := w35) (r := []) (gk rfl rfl gv32 rfl) rfl ag27 (z0g rfl p36) (W.pure (v := (.int .i64 (List.length p0.Stores : Int))) (gk rfl rfl gv32 rfl) rfl (z1g (oo rfl rfl) (z0f f37) (z02 el27)) (W.q3 (hg := gk rfl rfl gv32 rfl) (.bool ((List.length p2 : Int) != (List.length p0.Stores : Int))) rfl rfl (W.q5 (.bool ((List.length p2 : Int) != (List.length p0.Stores : Int))) gv32 rfl (.nil ?_))))
  obtain rfl := zAa h34
  exact ⟨((List.length p2 : Int) != (List.length p0.Stores : Int)), _, rfl, O13, (zAf _), rfl⟩
 rintro σ39 H40 fr41 ⟨x38, G42, rfl, O43, s44, t46⟩
 have h47 := z08 h27
 refine .cond (b := x38) rfl t46 (fun g48 => ?_) (fun g48 => ?_)
 .have h49 := z01 g48 h47
  refine .seq (.region (W.q1 (.slice none 0 0) rfl (W.q1 (.int .i64 3) rfl (.nil (.ret ?_)))))
  have O50 := O43.nilSl 3 (rI .i64)
  have O51 : Ow G42 H40 (eSl (.slice none 0 0) 3 (rI .i64) [] :: L) := O50.drop 1
  obtain rfl := zAa h49
  exact za8 kr (.slice none 0 0) (v1 := (.slice none 0 0)) (v2 := (.int .i64 3)) (by rfl) (z0w (by rfl) (by exact rfl)) (z0w (by rfl) (by exact rfl)) O51 (zAe s14 s44) rfl
 have h52 := z11 g48 h47
 refine .skip (.seq (.region (W.pure (v := (padd (.pointer (some ⟨b2, 0, none⟩)) 0)) rfl rfl (z04 z7w (oo rfl ((fr41 3 rfl).trans rfl)) (O43.atVar (j := 0) rfl)) ?_)))
 obtain ⟨w53, p54, f55⟩ := At.sl (At.proj (O43.atVar (j := 0) rfl) z1h)
 refine W.load1 (v := w53) (r := []) rfl rfl ag22 (z0g rfl p54) (W.pure (v := (.int .i64 (List.length p0.Nodes : Int))) rfl rfl (z1g (oo rfl rfl) (z0f f55) (z02 el22)) ?_)
 obtain ⟨g57, h58⟩ := z5s h52
 refine W.lo rfl rfl (Lo.makeSlice (r := (rI .i64)) (x0 := 0) (a := (List.length p0.Nodes : Int)) (c := (List.length p0.Nodes : Int)) rfl el30 ze3 sz3 (by kernel_rfl) rfl by3 (by decide) rfl rfl g57 (zI .i64) O43) ?_
 rintro v60 H61 ⟨O56, sm59⟩
 have O64 := O56.nilSl 3 (rI .i64)
 refine W.lo rfl rfl (Lo.alloc (r := rV) (x0 := (.slice none 0 0)) ze30 (by kernel_rfl) zV O64) ?_
 rintro v66 H67 ⟨b63, rfl, O62, sm65⟩
 refine W.lo rfl rfl (Lo.storeVar (j := 0) (s := rV) (y0 := v60) (v := v60) (o := 0) rfl ((Put.at (Put.self _) _ _)) rfl sz30 rfl (by omega) rfl (zg9 (O62.slLen (j := 2) rfl)) O62) ?_
 rintro v70 H71 ⟨O68, sm69⟩
 have O72 : Ow G42 H71 (eVar b63 30 rV v60 :: eSl v60 3 (rI .i64) (List.replicate (Int.toNat (List.length p0.Nodes : Int)) 0) :: eVar b2 29 T_Network p0 :: L) := O68.drop 1
 refine .nil (.seq (.region (W.pure (v := (.func (.func 15) #[] #[(.pointer (some ⟨b2, 0, none⟩)), (.pointer (some ⟨b63, 0, none⟩))])) rfl rfl (z8f (z69 rfl mn) (z69 rfl (mc ((fr41 3 rfl).trans rfl) (mc rfl mn)))) (W.q1 (.func (.func 15) #[] #[(.pointer (some ⟨b2, 0, none⟩)), (.pointer (some ⟨b63, 0, none⟩))]) rfl (.nil (.seq ?_))))))
 refine .seq (.region (W.pure (v := (padd (.pointer (some ⟨b2, 0, none⟩)) 3)) rfl rfl (z04 z7x (oo rfl ((fr41 3 rfl).trans rfl)) (O72.atVar (j := 2) rfl)) ?_))
 obtain ⟨w73, p74, f75⟩ := At.sl (At.proj (O72.atVar (j := 2) rfl) z1l)
 refine W.load1 (v := w73) (r := []) rfl rfl ag25 (z0g rfl p74) (W.pure (v := (.int .i64 (List.length p0.Gens : Int))) rfl rfl (z1g (oo rfl rfl) (z0f f75) (z02 el25)) (W.q2 (.int .i64 0) rfl (.nil ?_)))
 obtain ⟨G76, O77, s78, f79⟩ := O72.frzVar (j := 2) rfl
 obtain ⟨q80, h81, h82⟩ := z1o h58
 refine AW.midT (fun σ' H' => ∃ (y1 : List Int) (w_p41 : Value) (G' : GM), (.inr y1) = q80 /\ Ow G' H' (eVar b63 30 rV w_p41 :: eSl w_p41 3 (rI .i64) y1 :: L) /\ GM.le G76 G') ?_ ?_
 .refine .block (AW.loop (α := Nat) (fun k' σ' H' => ∃ (y1 : List Int) (y2 : Int) (w_p41 : Value) (G' : GM), z0y K p0 p1 k' y1 y2 = some q80 /\ Ow G' H' (eVar b63 30 rV w_p41 :: eSl w_p41 3 (rI .i64) y1 :: L) /\ GM.le G76 G' /\ σ' 46 = .int .i64 y2) (fun k' => k') K ⟨(List.replicate (Int.toNat (List.length p0.Nodes : Int)) 0), 0, v60, _, h81, O77, (zAf _), rfl⟩ ?_)
  rintro k83
  rintro σ86 H87 fr88 ⟨x84, x85, w93, G89, h92, O90, s91, t94⟩
  rcases k83 with _ | k83
  .exact z06 h92
  rw [z0y] at h92
  refine .seq (.region (W.q3 (.bool (decide (x85 < (List.length p0.Gens : Int)))) t94 ((fr88 45 rfl).trans rfl) (.nil (.seq (.cond (b := decide (x85 < (List.length p0.Gens : Int))) rfl rfl (fun g95 => ?_) (fun g95 => ?_))))))
  rotate_left
  .have h183 := z11 g95 h92
   refine .exit ?_
   obtain rfl := zAa h183
   exact ⟨x84, w93, _, rfl, O90, s91⟩
  have h96 := z01 g95 h92
  refine .skip (.seq (.block (.seq (.region (W.q2 _ t94 ?_)))))
  obtain ⟨x97, i98, h99⟩ := z03 h96
  have j100 := z0v i98
  refine W.pure (v := (z2z w73 (Int.toNat x85 * 5))) rfl rfl (z3i el25 sz37 (oo rfl ((fr88 44 rfl).trans rfl)) (oo rfl t94) (z0f (RT.mono _ (zAe s78 s91) f75)) j100.1 j100.2.1) ?_
  obtain ⟨c101, p102, f103⟩ := (At.le (At.le (z1q f75 j100.2.2) (zAe s78 s91) (zAe s78 s91)) (zAf _) O90.fro)
  refine W.loadA (cs := c101) rfl rfl ag37 sz37 (z0g rfl p102) (RT.len _ f103) (W.lo rfl rfl (Lo.alloc (r := T_Gen) (x0 := (Gen.mk ByteArray.empty ByteArray.empty 0 0 0)) ze37 (by kernel_rfl) zft O90) ?_)
  rintro v107 H108 ⟨b105, rfl, O104, sm106⟩
  refine W.q1 (.int .i64 x85) rfl (W.lo rfl rfl (Lo.storeVar (j := 0) (s := T_Gen) (y0 := x97) (v := (.agg (List.toArray c101))) (o := 0) rfl ((Put.at (Put.self _) _ _)) rfl sz37 rfl (by omega) rfl f103 O104) ?_)
  rintro v111 H112 ⟨O109, sm110⟩
  refine .nil (.seq (.seq ?_))
  obtain ⟨q113, h114, h115⟩ := z03 h99
  refine AW.midT (fun σ' H' => ∃ (y1 : Bool) (G' : GM), y1 = q113 /\ Ow G' H' (eVar b105 37 T_Gen x97 :: eVar b63 30 rV w93 :: eSl w93 3 (rI .i64) x84 :: L) /\ GM.le G89 G' /\ σ' 73 = .bool y1) ?_ ?_
  rotate_left
  .rintro σ142 H143 fr144 ⟨x141, G145, rfl, O146, s147, t149⟩
   have h150 := z08 h115
   refine .cond (b := x141) rfl t149 (fun g151 => ?_) (fun g151 => ?_)
   .have h152 := z01 g151 h150
    refine .seq (.region (W.q1 (.slice none 0 0) rfl (W.q1 (.int .i64 17) rfl (.nil (.ret ?_)))))
    have O153 := O146.nilSl 3 (rI .i64)
    have O154 : Ow G145 H143 (eSl (.slice none 0 0) 3 (rI .i64) [] :: eVar b63 30 rV w93 :: eSl w93 3 (rI .i64) x84 :: L) := O153.drop 1
    have O155 : Ow G145 H143 (eSl (.slice none 0 0) 3 (rI .i64) [] :: eSl w93 3 (rI .i64) x84 :: L) := O154.drop 1
    have O156 : Ow G145 H143 (eSl (.slice none 0 0) 3 (rI .i64) [] :: L) := O155.drop 1
    obtain rfl := zAa h152
    have h157 := z3b (z36 h82)
    obtain rfl := zAa h157
    exact za8 kr (.slice none 0 0) (v1 := (.slice none 0 0)) (v2 := (.int .i64 17)) (by rfl) (z0w (by rfl) (by exact rfl)) (z0w (by rfl) (by exact rfl)) O156 (zAe s14 (zAe s44 (zAe s78 (zAe s91 s147)))) rfl
   have h158 := z11 g151 h150
   refine .skip (.draw2 (M := [0, 0, 2, 0, 0, 24, 56, 127]) mixed (by kernel_rfl) (by kernel_rfl) fun H159 N163 x160 F162 => ?_)
   have O161 := O146.ext x160
   refine D2.q2 (.func (.func 15) #[] #[(.pointer (some ⟨b2, 0, none⟩)), (.pointer (some ⟨b63, 0, none⟩))]) ((fr144 10 rfl).trans ((fr88 10 rfl).trans rfl)) (D2.pure (v := (padd (.pointer (some ⟨b105, 0, none⟩)) 1)) rfl rfl (z04 zcy (oo rfl ((fr144 12 rfl).trans rfl)) (O161.atVar (j := 0) rfl)) (D2.load1' (v := (.string x97.Node)) (r := []) rfl rfl ag9 (z0g rfl (At.str (At.proj (O161.atVar (j := 0) rfl) z5j))) z0a (D2.q2 v1 ((fr144 1 rfl).trans ((fr88 1 rfl).trans ((fr41 1 rfl).trans rfl))) (D2.q2 (.int .i64 x85) ((fr144 11 rfl).trans rfl) ?_))))
   obtain ⟨x164, i165, h166⟩ := z03 h158
   have j167 := z0v i165
   refine D2.pure (v := (z2z v1 (Int.toNat x85 * 1))) rfl rfl (z3i el30 sz3 (oo rfl rfl) (oo rfl rfl) (z0f (RT.mono _ (zAe s14 (zAe s44 (zAe s78 (zAe s91 s147)))) hp1)) j167.1 j167.2.1) (D2.load1' (v := (.int .i64 x164)) (r := []) rfl rfl ag3 (z0g rfl (At.int (At.le (At.le (z1q hp1 j167.2.2) (zAe s14 (zAe s44 (zAe s78 (zAe s91 s147)))) (zAe s14 (zAe s44 (zAe s78 (zAe s91 s147))))) (zAf _) O161.fro))) z0a ?_)
   have O168 : Ow G145 H159 (eVar b105 37 T_Gen x97 :: eVar b63 30 rV w93 :: eSl w93 3 (rI .i64) x84 :: L) := O161.front (j := 0) rfl
   have O169 : Ow G145 H159 (eSl w93 3 (rI .i64) x84 :: eVar b105 37 T_Gen x97 :: eVar b63 30 rV w93 :: L) := O168.front (j := 2) rfl
   have O170 : Ow G145 H159 (eVar b63 30 rV w93 :: eSl w93 3 (rI .i64) x84 :: eVar b105 37 T_Gen x97 :: L) := O169.front (j := 2) rfl
   obtain ⟨x171, i172, h173⟩ := z03 h166
   refine D2.lo rfl rfl (Lo.callvPF (ps := [eVar b63 30 rV w93, eSl w93 3 (rI .i64) x84]) (pw := fun w => [eVar b63 30 rV w, eSl w 3 (rI .i64) x171]) rfl rfl (fn := Tryz.f15) (by kernel_rfl) rfl (mc rfl (mc rfl mn)) O170 (fun L' O' => z37 K x97.Node x164 (.pointer (some ⟨b2, 0, none⟩)) p0 (At.le f79 (zAe s91 s147) (zAe s91 s147)) b63 w93 x84 O' _ i172)) ?_ z0a ?_ ?_
   .rintro v180 H181 ⟨w178, G174, O175, s176, sm179, rfl⟩; exact (faR1 (.inl (by decide)) (faR1 (.inl (by decide)) z0a))
   .rintro v180 H181 ⟨w178, G174, O175, s176, sm179, rfl⟩; exact z0a
   rintro v180 H181 ⟨w178, G174, O175, s176, sm179, rfl⟩
   refine .nil (.region (W.q3 (.int .i64 (z0n .i64 (x85 + 1))) ((fr144 46 rfl).trans t94) rfl (W.q2 (.int .i64 (z0n .i64 (x85 + 1))) rfl (.nil ?_))))
   have O182 : Ow G174 H181 (eVar b63 30 rV w178 :: eSl w178 3 (rI .i64) x171 :: L) := O175.drop 2
   exact ⟨k83, zAg _, ⟨x171, z0n .i64 (x85 + 1), w178, _, h173, O182, (zAe s91 (zAe s147 s176)), rfl⟩⟩
  refine .draw2 (M := [0, 0, 3, 7, 15, 31, 63, 63, 255, 511, 63, 1087, 4095, 8191, 16383, 16383, 65535, 131071, 16383, 278527, 1048575, 2097151, 4194303]) mixed (by kernel_rfl) (by kernel_rfl) fun H116 N120 x117 F119 => ?_
  have O118 := O109.ext x117
  refine D2.q2 v1 ((fr88 1 rfl).trans ((fr41 1 rfl).trans rfl)) (D2.q2 (.int .i64 x85) rfl ?_)
  obtain ⟨x121, i122, h123⟩ := z03 h114
  have j124 := z0v i122
  refine D2.pure (v := (z2z v1 (Int.toNat x85 * 1))) rfl rfl (z3i el30 sz3 (oo rfl rfl) (oo rfl rfl) (z0f (RT.mono _ (zAe s14 (zAe s44 (zAe s78 s91))) hp1)) j124.1 j124.2.1) (D2.load1' (v := (.int .i64 x121)) (r := []) rfl rfl ag3 (z0g rfl (At.int (At.le (At.le (z1q hp1 j124.2.2) (zAe s14 (zAe s44 (zAe s78 s91))) (zAe s14 (zAe s44 (zAe s78 s91)))) (zAf _) O118.fro))) z0a (D2.q3 (.bool (x121 != 0)) rfl rfl (D2.q2 (.bool (x121 != 0)) rfl (D2.splitAt (t := 56) (b := (x121 != 0)) rfl (fun g125 gv126 => ?_) (fun g125 gv126 => ?_)))))
  rotate_left
  .have h140 := z11 g125 h123
   refine D2.skip (gk rfl rfl gv126 rfl) rfl (D2.skip (gk rfl rfl gv126 rfl) rfl (D2.skip (gk rfl rfl gv126 rfl) rfl (D2.skip (gk rfl rfl gv126 rfl) rfl (D2.skip (gk rfl rfl gv126 rfl) rfl (D2.skip (gk rfl rfl gv126 rfl) rfl (D2.skip (gk rfl rfl gv126 rfl) rfl ?_))))))
   refine D2.skip (gk rfl rfl gv126 rfl) rfl (D2.skipU rfl rfl rfl rfl (D2.skipU rfl rfl rfl rfl (D2.skipU rfl rfl rfl rfl (D2.skipU rfl rfl rfl rfl (D2.skipU rfl rfl rfl rfl (D2.skipU rfl rfl rfl rfl ?_))))))
   refine D2.skipU rfl rfl rfl rfl (D2.skip (gk rfl rfl gv126 rfl) rfl (D2.pure (v := (.bool false)) rfl rfl (z4a (oo rfl gv126) (oo rfl rfl)) (.nil ?_)))
   obtain rfl := zAa h140
   exact ⟨false, _, rfl, O118, (zAf _), rfl⟩
  have h127 := z01 g125 h123
  refine D2.q2 (hg := gk rfl rfl gv126 rfl) v1 ((fr88 1 rfl).trans ((fr41 1 rfl).trans rfl)) (D2.q2 (hg := gk rfl rfl gv126 rfl) (.int .i64 x85) rfl ?_)
  obtain ⟨x128, i129, h130⟩ := z03 h127
  have j131 := z0v i129
  refine D2.pure (v := (z2z v1 (Int.toNat x85 * 1))) (gk rfl rfl gv126 rfl) rfl (z3i el30 sz3 (oo rfl rfl) (oo rfl rfl) (z0f (RT.mono _ (zAe s14 (zAe s44 (zAe s78 s91))) hp1)) j131.1 j131.2.1) (D2.load1' (v := (.int .i64 x128)) (r := []) (gk rfl rfl gv126 rfl) rfl ag3 (z0g rfl (At.int (At.le (At.le (z1q hp1 j131.2.2) (zAe s14 (zAe s44 (zAe s78 s91))) (zAe s14 (zAe s44 (zAe s78 s91)))) (zAf _) O118.fro))) z0a (D2.pure (v := (padd (.pointer (some ⟨b105, 0, none⟩)) 2)) (gk rfl rfl gv126 rfl) rfl (z04 za7 (oo rfl rfl) (O118.atVar (j := 0) rfl)) (D2.load1' (v := (.int .i64 x97.Least)) (r := []) (gk rfl rfl gv126 rfl) rfl ag3 (z0g rfl (At.int (At.proj (O118.atVar (j := 0) rfl) z3n))) z0a (D2.q3 (hg := gk rfl rfl gv126 rfl) (.bool (decide (x128 < x97.Least))) rfl rfl (D2.q2 (hg := gk rfl rfl gv126 rfl) (.bool (decide (x128 < x97.Least))) rfl (D2.splitAt (t := 64) (b := decide (x128 < x97.Least)) rfl (fun g132 gv133 => ?_) (fun g132 gv133 => ?_)))))))
  .have h134 := z01 g132 h130
   refine D2.skip (gk rfl rfl gv133 rfl) rfl (D2.skip (gk rfl rfl gv133 rfl) rfl (D2.skip (gk rfl rfl gv133 rfl) rfl (D2.skip (gk rfl rfl gv133 rfl) rfl (D2.skip (gk rfl rfl gv133 rfl) rfl (D2.skip (gk rfl rfl gv133 rfl) rfl (D2.skip (gk rfl rfl gv133 rfl) rfl ?_))))))
   refine D2.pure (v := (.bool true)) (gk rfl rfl gv126 rfl) rfl (z3g (oo rfl gv133) (oo rfl rfl)) (D2.pure (v := (.bool true)) rfl rfl (z3g (oo rfl gv126) (oo rfl rfl)) (.nil ?_))
   obtain rfl := zAa h134
   exact ⟨true, _, rfl, O118, (zAf _), rfl⟩
  have h135 := z11 g132 h130
  refine D2.q2 (hg := gk rfl rfl gv133 rfl) v1 ((fr88 1 rfl).trans ((fr41 1 rfl).trans rfl)) (D2.q2 (hg := gk rfl rfl gv133 rfl) (.int .i64 x85) rfl ?_)
  obtain ⟨x136, i137, h138⟩ := z03 h135
  have j139 := z0v i137
  refine D2.pure (v := (z2z v1 (Int.toNat x85 * 1))) (gk rfl rfl gv133 rfl) rfl (z3i el30 sz3 (oo rfl rfl) (oo rfl rfl) (z0f (RT.mono _ (zAe s14 (zAe s44 (zAe s78 s91))) hp1)) j139.1 j139.2.1) (D2.load1' (v := (.int .i64 x136)) (r := []) (gk rfl rfl gv133 rfl) rfl ag3 (z0g rfl (At.int (At.le (At.le (z1q hp1 j139.2.2) (zAe s14 (zAe s44 (zAe s78 s91))) (zAe s14 (zAe s44 (zAe s78 s91)))) (zAf _) O118.fro))) z0a (D2.pure (v := (padd (.pointer (some ⟨b105, 0, none⟩)) 3)) (gk rfl rfl gv133 rfl) rfl (z04 zcz (oo rfl rfl) (O118.atVar (j := 0) rfl)) (D2.load1' (v := (.int .i64 x97.Most)) (r := []) (gk rfl rfl gv133 rfl) rfl ag3 (z0g rfl (At.int (At.proj (O118.atVar (j := 0) rfl) z5k))) z0a (D2.q3 (hg := gk rfl rfl gv133 rfl) (.bool (decide (x136 > x97.Most))) rfl rfl (D2.pure (v := (.bool (decide (x136 > x97.Most)))) (gk rfl rfl gv126 rfl) rfl (z4a (oo rfl gv133) (oo rfl rfl)) (D2.pure (v := (.bool (decide (x136 > x97.Most)))) rfl rfl (z3g (oo rfl gv126) (oo rfl rfl)) ?_))))))
  refine .nil ?_
  obtain rfl := zAa h138
  exact ⟨decide (x136 > x97.Most), _, rfl, O118, (zAf _), rfl⟩
 rintro σ185 H186 fr187 ⟨x184, w192, G188, rfl, O189, s190⟩
 have h193 := z08 (z4d h82)
 refine .seq (.seq (.region (W.pure (v := (padd (.pointer (some ⟨b2, 0, none⟩)) 5)) rfl rfl (z04 z7y (oo rfl ((fr187 3 rfl).trans ((fr41 3 rfl).trans rfl))) (At.le (At.le f79 s190 s190) (zAf _) O189.fro)) ?_)))
 obtain ⟨w194, p195, f196⟩ := At.sl (At.le (At.proj f79 z19) s190 s190)
 replace p195 := PtG.le p195 O189.fro
 refine W.load1 (v := w194) (r := []) rfl rfl ag27 (z0g rfl p195) (W.pure (v := (.int .i64 (List.length p0.Stores : Int))) rfl rfl (z1g (oo rfl rfl) (z0f f196) (z02 el27)) (W.q2 (.int .i64 0) rfl (.nil ?_)))
 obtain ⟨q197, h198, h199⟩ := z1o h193
 refine AW.midT (fun σ' H' => ∃ (y1 : List Int) (w_p41 : Value) (G' : GM), (.inr y1) = q197 /\ Ow G' H' (eVar b63 30 rV w_p41 :: eSl w_p41 3 (rI .i64) y1 :: L) /\ GM.le G188 G') ?_ ?_
 .refine .block (AW.loop (α := Nat) (fun k' σ' H' => ∃ (y1 : List Int) (y2 : Int) (w_p41 : Value) (G' : GM), z0t K p0 p2 k' y1 y2 = some q197 /\ Ow G' H' (eVar b63 30 rV w_p41 :: eSl w_p41 3 (rI .i64) y1 :: L) /\ GM.le G188 G' /\ σ' 86 = .int .i64 y2) (fun k' => k') K ⟨x184, 0, w192, _, h198, O189, (zAf _), rfl⟩ ?_)
  rintro k200
  rintro σ203 H204 fr205 ⟨x201, x202, w210, G206, h209, O207, s208, t211⟩
  rcases k200 with _ | k200
  .exact z06 h209
  rw [z0t] at h209
  refine .seq (.region (W.q3 (.bool (decide (x202 < (List.length p0.Stores : Int)))) t211 ((fr205 85 rfl).trans rfl) (.nil (.seq (.cond (b := decide (x202 < (List.length p0.Stores : Int))) rfl rfl (fun g212 => ?_) (fun g212 => ?_))))))
  rotate_left
  .have h292 := z11 g212 h209
   refine .exit ?_
   obtain rfl := zAa h292
   exact ⟨x201, w210, _, rfl, O207, s208⟩
  have h213 := z01 g212 h209
  refine .skip (.seq (.block (.seq (.region (W.q2 _ t211 ?_)))))
  obtain ⟨x214, i215, h216⟩ := z03 h213
  have j217 := z0v i215
  refine W.pure (v := (z2z w194 (Int.toNat x202 * 5))) rfl rfl (z3i el27 sz39 (oo rfl ((fr205 84 rfl).trans rfl)) (oo rfl t211) (z0f (RT.mono _ s208 f196)) j217.1 j217.2.1) ?_
  obtain ⟨c218, p219, f220⟩ := (At.le (At.le (z1q f196 j217.2.2) s208 s208) (zAf _) O207.fro)
  refine W.loadA (cs := c218) rfl rfl ag39 sz39 (z0g rfl p219) (RT.len _ f220) (W.lo rfl rfl (Lo.alloc (r := T_Store) (x0 := (Store.mk ByteArray.empty ByteArray.empty 0 0 0)) ze39 (by kernel_rfl) z8m O207) ?_)
  rintro v224 H225 ⟨b222, rfl, O221, sm223⟩
  refine W.q1 (.int .i64 x202) rfl (W.lo rfl rfl (Lo.storeVar (j := 0) (s := T_Store) (y0 := x214) (v := (.agg (List.toArray c218))) (o := 0) rfl ((Put.at (Put.self _) _ _)) rfl sz39 rfl (by omega) rfl f220 O221) ?_)
  rintro v228 H229 ⟨O226, sm227⟩
  refine .nil (.seq (.seq ?_))
  obtain ⟨q230, h231, h232⟩ := z03 h216
  refine AW.midT (fun σ' H' => ∃ (y1 : Bool) (G' : GM), y1 = q230 /\ Ow G' H' (eVar b222 39 T_Store x214 :: eVar b63 30 rV w210 :: eSl w210 3 (rI .i64) x201 :: L) /\ GM.le G206 G' /\ σ' 107 = .bool y1) ?_ ?_
  .refine .draw2 (M := [0, 0, 3, 7, 0, 16, 48, 127, 255, 511, 511, 2047, 4095, 511, 8703, 32767, 65535]) mixed (by kernel_rfl) (by kernel_rfl) fun H233 N237 x234 F236 => ?_
   have O235 := O226.ext x234
   refine D2.q2 v2 ((fr205 2 rfl).trans ((fr187 2 rfl).trans ((fr41 2 rfl).trans rfl))) (D2.q2 (.int .i64 x202) rfl ?_)
   obtain ⟨x238, i239, h240⟩ := z03 h231
   have j241 := z0v i239
   refine D2.pure (v := (z2z v2 (Int.toNat x202 * 1))) rfl rfl (z3i el30 sz3 (oo rfl rfl) (oo rfl rfl) (z0f (RT.mono _ (zAe s14 (zAe s44 (zAe s78 (zAe s190 s208)))) hp2)) j241.1 j241.2.1) (D2.load1' (v := (.int .i64 x238)) (r := []) rfl rfl ag3 (z0g rfl (At.int (At.le (At.le (z1q hp2 j241.2.2) (zAe s14 (zAe s44 (zAe s78 (zAe s190 s208)))) (zAe s14 (zAe s44 (zAe s78 (zAe s190 s208))))) (zAf _) O235.fro))) z0a (D2.pure (v := (padd (.pointer (some ⟨b222, 0, none⟩)) 2)) rfl rfl (z04 zd1 (oo rfl rfl) (O235.atVar (j := 0) rfl)) (D2.load1' (v := (.int .i64 x214.Charge)) (r := []) rfl rfl ag3 (z0g rfl (At.int (At.proj (O235.atVar (j := 0) rfl) z3l))) z0a (D2.pure (v := (.int .i64 (z0n .i64 (-x214.Charge)))) rfl rfl (zgb (oo rfl rfl)) (D2.q3 (.bool (decide (x238 < (z0n .i64 (-x214.Charge))))) rfl rfl (D2.q2 (.bool (decide (x238 < (z0n .i64 (-x214.Charge))))) rfl ?_))))))
   refine D2.splitAt (t := 99) (b := decide (x238 < (z0n .i64 (-x214.Charge)))) rfl (fun g242 gv243 => ?_) (fun g242 gv243 => ?_)
   .have h244 := z01 g242 h240
    refine D2.skip (gk rfl rfl gv243 rfl) rfl (D2.skip (gk rfl rfl gv243 rfl) rfl (D2.skip (gk rfl rfl gv243 rfl) rfl (D2.skip (gk rfl rfl gv243 rfl) rfl (D2.skip (gk rfl rfl gv243 rfl) rfl (D2.skip (gk rfl rfl gv243 rfl) rfl (D2.skip (gk rfl rfl gv243 rfl) rfl ?_))))))
    refine D2.pure (v := (.bool true)) rfl rfl (z3g (oo rfl gv243) (oo rfl rfl)) (.nil ?_)
    obtain rfl := zAa h244
    exact ⟨true, _, rfl, O235, (zAf _), rfl⟩
   have h245 := z11 g242 h240
   refine D2.q2 (hg := gk rfl rfl gv243 rfl) v2 ((fr205 2 rfl).trans ((fr187 2 rfl).trans ((fr41 2 rfl).trans rfl))) (D2.q2 (hg := gk rfl rfl gv243 rfl) (.int .i64 x202) rfl ?_)
   obtain ⟨x246, i247, h248⟩ := z03 h245
   have j249 := z0v i247
   refine D2.pure (v := (z2z v2 (Int.toNat x202 * 1))) (gk rfl rfl gv243 rfl) rfl (z3i el30 sz3 (oo rfl rfl) (oo rfl rfl) (z0f (RT.mono _ (zAe s14 (zAe s44 (zAe s78 (zAe s190 s208)))) hp2)) j249.1 j249.2.1) (D2.load1' (v := (.int .i64 x246)) (r := []) (gk rfl rfl gv243 rfl) rfl ag3 (z0g rfl (At.int (At.le (At.le (z1q hp2 j249.2.2) (zAe s14 (zAe s44 (zAe s78 (zAe s190 s208)))) (zAe s14 (zAe s44 (zAe s78 (zAe s190 s208))))) (zAf _) O235.fro))) z0a (D2.pure (v := (padd (.pointer (some ⟨b222, 0, none⟩)) 3)) (gk rfl rfl gv243 rfl) rfl (z04 zd2 (oo rfl rfl) (O235.atVar (j := 0) rfl)) (D2.load1' (v := (.int .i64 x214.Discharge)) (r := []) (gk rfl rfl gv243 rfl) rfl ag3 (z0g rfl (At.int (At.proj (O235.atVar (j := 0) rfl) z2m))) z0a (D2.q3 (hg := gk rfl rfl gv243 rfl) (.bool (decide (x246 > x214.Discharge))) rfl rfl (D2.pure (v := (.bool (decide (x246 > x214.Discharge)))) rfl rfl (z4a (oo rfl gv243) (oo rfl rfl)) (.nil ?_))))))
   obtain rfl := zAa h248
   exact ⟨decide (x246 > x214.Discharge), _, rfl, O235, (zAf _), rfl⟩
  rintro σ251 H252 fr253 ⟨x250, G254, rfl, O255, s256, t258⟩
  have h259 := z08 h232
  refine .cond (b := x250) rfl t258 (fun g260 => ?_) (fun g260 => ?_)
  .have h261 := z01 g260 h259
   refine .seq (.region (W.q1 (.slice none 0 0) rfl (W.q1 (.int .i64 17) rfl (.nil (.ret ?_)))))
   have O262 := O255.nilSl 3 (rI .i64)
   have O263 : Ow G254 H252 (eSl (.slice none 0 0) 3 (rI .i64) [] :: eVar b63 30 rV w210 :: eSl w210 3 (rI .i64) x201 :: L) := O262.drop 1
   have O264 : Ow G254 H252 (eSl (.slice none 0 0) 3 (rI .i64) [] :: eSl w210 3 (rI .i64) x201 :: L) := O263.drop 1
   have O265 : Ow G254 H252 (eSl (.slice none 0 0) 3 (rI .i64) [] :: L) := O264.drop 1
   obtain rfl := zAa h261
   have h266 := z3b (z36 h199)
   obtain rfl := zAa h266
   exact za8 kr (.slice none 0 0) (v1 := (.slice none 0 0)) (v2 := (.int .i64 17)) (by rfl) (z0w (by rfl) (by exact rfl)) (z0w (by rfl) (by exact rfl)) O265 (zAe s14 (zAe s44 (zAe s78 (zAe s190 (zAe s208 s256))))) rfl
  have h267 := z11 g260 h259
  refine .skip (.draw2 (M := [0, 0, 2, 0, 0, 24, 56, 127]) mixed (by kernel_rfl) (by kernel_rfl) fun H268 N272 x269 F271 => ?_)
  have O270 := O255.ext x269
  refine D2.q2 (.func (.func 15) #[] #[(.pointer (some ⟨b2, 0, none⟩)), (.pointer (some ⟨b63, 0, none⟩))]) ((fr253 10 rfl).trans ((fr205 10 rfl).trans ((fr187 10 rfl).trans rfl))) (D2.pure (v := (padd (.pointer (some ⟨b222, 0, none⟩)) 1)) rfl rfl (z04 zd0 (oo rfl ((fr253 14 rfl).trans rfl)) (O270.atVar (j := 0) rfl)) (D2.load1' (v := (.string x214.Node)) (r := []) rfl rfl ag9 (z0g rfl (At.str (At.proj (O270.atVar (j := 0) rfl) z48))) z0a (D2.q2 v2 ((fr253 2 rfl).trans ((fr205 2 rfl).trans ((fr187 2 rfl).trans ((fr41 2 rfl).trans rfl)))) (D2.q2 (.int .i64 x202) ((fr253 13 rfl).trans rfl) ?_))))
  obtain ⟨x273, i274, h275⟩ := z03 h267
  have j276 := z0v i274
  refine D2.pure (v := (z2z v2 (Int.toNat x202 * 1))) rfl rfl (z3i el30 sz3 (oo rfl rfl) (oo rfl rfl) (z0f (RT.mono _ (zAe s14 (zAe s44 (zAe s78 (zAe s190 (zAe s208 s256))))) hp2)) j276.1 j276.2.1) (D2.load1' (v := (.int .i64 x273)) (r := []) rfl rfl ag3 (z0g rfl (At.int (At.le (At.le (z1q hp2 j276.2.2) (zAe s14 (zAe s44 (zAe s78 (zAe s190 (zAe s208 s256))))) (zAe s14 (zAe s44 (zAe s78 (zAe s190 (zAe s208 s256)))))) (zAf _) O270.fro))) z0a ?_)
  have O277 : Ow G254 H268 (eVar b222 39 T_Store x214 :: eVar b63 30 rV w210 :: eSl w210 3 (rI .i64) x201 :: L) := O270.front (j := 0) rfl
  have O278 : Ow G254 H268 (eSl w210 3 (rI .i64) x201 :: eVar b222 39 T_Store x214 :: eVar b63 30 rV w210 :: L) := O277.front (j := 2) rfl
  have O279 : Ow G254 H268 (eVar b63 30 rV w210 :: eSl w210 3 (rI .i64) x201 :: eVar b222 39 T_Store x214 :: L) := O278.front (j := 2) rfl
  obtain ⟨x280, i281, h282⟩ := z03 h275
  refine D2.lo rfl rfl (Lo.callvPF (ps := [eVar b63 30 rV w210, eSl w210 3 (rI .i64) x201]) (pw := fun w => [eVar b63 30 rV w, eSl w 3 (rI .i64) x280]) rfl rfl (fn := Tryz.f15) (by kernel_rfl) rfl (mc rfl (mc rfl mn)) O279 (fun L' O' => z37 K x214.Node x273 (.pointer (some ⟨b2, 0, none⟩)) p0 (At.le f79 (zAe s190 (zAe s208 s256)) (zAe s190 (zAe s208 s256))) b63 w210 x201 O' _ i281)) ?_ z0a ?_ ?_
  .rintro v289 H290 ⟨w287, G283, O284, s285, sm288, rfl⟩; exact (faR1 (.inl (by decide)) (faR1 (.inl (by decide)) z0a))
  .rintro v289 H290 ⟨w287, G283, O284, s285, sm288, rfl⟩; exact z0a
  rintro v289 H290 ⟨w287, G283, O284, s285, sm288, rfl⟩
  refine .nil (.region (W.q3 (.int .i64 (z0n .i64 (x202 + 1))) ((fr253 86 rfl).trans t211) rfl (W.q2 (.int .i64 (z0n .i64 (x202 + 1))) rfl (.nil ?_))))
  have O291 : Ow G283 H290 (eVar b63 30 rV w287 :: eSl w287 3 (rI .i64) x280 :: L) := O284.drop 2
  exact ⟨k200, zAg _, ⟨x280, z0n .i64 (x202 + 1), w287, _, h282, O291, (zAe s208 (zAe s256 s285)), rfl⟩⟩
 rintro σ294 H295 fr296 ⟨x293, w301, G297, rfl, O298, s299⟩
 have h302 := z08 (z4d h199)
 refine .seq (.seq (.region (W.pure (v := (padd (.pointer (some ⟨b2, 0, none⟩)) 4)) rfl rfl (z04 za6 (oo rfl ((fr296 3 rfl).trans ((fr187 3 rfl).trans ((fr41 3 rfl).trans rfl)))) (At.le (At.le f79 (zAe s190 s299) (zAe s190 s299)) (zAf _) O298.fro)) ?_)))
 obtain ⟨w303, p304, f305⟩ := At.sl (At.le (At.proj f79 z25) (zAe s190 s299) (zAe s190 s299))
 replace p304 := PtG.le p304 O298.fro
 refine W.load1 (v := w303) (r := []) rfl rfl ag26 (z0g rfl p304) (W.pure (v := (.int .i64 (List.length p0.Loads : Int))) rfl rfl (z1g (oo rfl rfl) (z0f f305) (z02 el26)) (W.q2 (.int .i64 0) rfl (.nil ?_)))
 obtain ⟨q306, h307, h308⟩ := z03 h302
 refine AW.midT (fun σ' H' => ∃ (y1 : List Int) (w_p41 : Value) (G' : GM), y1 = q306 /\ Ow G' H' (eVar b63 30 rV w_p41 :: eSl w_p41 3 (rI .i64) y1 :: L) /\ GM.le G297 G') ?_ ?_
 .refine .block (AW.loop (α := Nat) (fun k' σ' H' => ∃ (y1 : List Int) (y2 : Int) (w_p41 : Value) (G' : GM), z0z K p0 k' y1 y2 = some q306 /\ Ow G' H' (eVar b63 30 rV w_p41 :: eSl w_p41 3 (rI .i64) y1 :: L) /\ GM.le G297 G' /\ σ' 120 = .int .i64 y2) (fun k' => k') K ⟨x293, 0, w301, _, h307, O298, (zAf _), rfl⟩ ?_)
  rintro k309
  rintro σ312 H313 fr314 ⟨x310, x311, w319, G315, h318, O316, s317, t320⟩
  rcases k309 with _ | k309
  .exact z06 h318
  rw [z0z] at h318
  refine .seq (.region (W.q3 (.bool (decide (x311 < (List.length p0.Loads : Int)))) t320 ((fr314 119 rfl).trans rfl) (.nil (.seq (.cond (b := decide (x311 < (List.length p0.Loads : Int))) rfl rfl (fun g321 => ?_) (fun g321 => ?_))))))
  rotate_left
  .have h354 := z11 g321 h318
   refine .exit ?_
   obtain rfl := zAa h354
   exact ⟨x310, w319, _, rfl, O316, s317⟩
  have h322 := z01 g321 h318
  refine .skip (.seq (.block (.seq (.region ?_))))
  obtain ⟨x323, i324, h325⟩ := z03 h322
  have j326 := z0v i324
  refine W.pure (v := (z2z w303 (Int.toNat x311 * 3))) rfl rfl (z3i el26 sz41 (oo rfl ((fr314 118 rfl).trans rfl)) (oo rfl t320) (z0f (RT.mono _ s317 f305)) j326.1 j326.2.1) ?_
  obtain ⟨c327, p328, f329⟩ := (At.le (At.le (z1q f305 j326.2.2) s317 s317) (zAf _) O316.fro)
  refine W.loadA (cs := c327) rfl rfl ag41 sz41 (z0g rfl p328) (RT.len _ f329) (W.lo rfl rfl (Lo.alloc (r := T_Load_) (x0 := (Load_.mk ByteArray.empty ByteArray.empty 0)) ze41 (by kernel_rfl) z9u O316) ?_)
  rintro v333 H334 ⟨b331, rfl, O330, sm332⟩
  refine W.lo rfl rfl (Lo.storeVar (j := 0) (s := T_Load_) (y0 := x323) (v := (.agg (List.toArray c327))) (o := 0) rfl ((Put.at (Put.self _) _ _)) rfl sz41 rfl (by omega) rfl f329 O330) ?_
  rintro v337 H338 ⟨O335, sm336⟩
  refine .nil (.region (W.q2 (.func (.func 15) #[] #[(.pointer (some ⟨b2, 0, none⟩)), (.pointer (some ⟨b63, 0, none⟩))]) ((fr314 10 rfl).trans ((fr296 10 rfl).trans ((fr187 10 rfl).trans rfl))) (W.pure (v := (padd (.pointer (some ⟨b331, 0, none⟩)) 1)) rfl rfl (z04 zd3 (oo rfl rfl) (O335.atVar (j := 0) rfl)) (W.load1 (v := (.string x323.Node)) (r := []) rfl rfl ag9 (z0g rfl (At.str (At.proj (O335.atVar (j := 0) rfl) z47))) (W.pure (v := (padd (.pointer (some ⟨b331, 0, none⟩)) 2)) rfl rfl (z04 zd4 (oo rfl rfl) (O335.atVar (j := 0) rfl)) (W.load1 (v := (.int .i64 x323.Demand)) (r := []) rfl rfl ag3 (z0g rfl (At.int (At.proj (O335.atVar (j := 0) rfl) z3k))) ?_))))))
  refine W.pure (v := (.int .i64 (z0n .i64 (-x323.Demand)))) rfl rfl (zgb (oo rfl rfl)) ?_
  have O339 : Ow G315 H338 (eVar b331 41 T_Load_ x323 :: eVar b63 30 rV w319 :: eSl w319 3 (rI .i64) x310 :: L) := O335.front (j := 0) rfl
  have O340 : Ow G315 H338 (eSl w319 3 (rI .i64) x310 :: eVar b331 41 T_Load_ x323 :: eVar b63 30 rV w319 :: L) := O339.front (j := 2) rfl
  have O341 : Ow G315 H338 (eVar b63 30 rV w319 :: eSl w319 3 (rI .i64) x310 :: eVar b331 41 T_Load_ x323 :: L) := O340.front (j := 2) rfl
  obtain ⟨x342, i343, h344⟩ := z03 h325
  refine W.lo rfl rfl (Lo.callvPF (ps := [eVar b63 30 rV w319, eSl w319 3 (rI .i64) x310]) (pw := fun w => [eVar b63 30 rV w, eSl w 3 (rI .i64) x342]) rfl rfl (fn := Tryz.f15) (by kernel_rfl) rfl (mc rfl (mc rfl mn)) O341 (fun L' O' => z37 K x323.Node (z0n .i64 (-x323.Demand)) (.pointer (some ⟨b2, 0, none⟩)) p0 (At.le f79 (zAe s190 (zAe s299 s317)) (zAe s190 (zAe s299 s317))) b63 w319 x310 O' _ i343)) ?_
  rintro v351 H352 ⟨w349, G345, O346, s347, sm350, rfl⟩
  refine .nil (.region (W.q3 (.int .i64 (z0n .i64 (x311 + 1))) t320 rfl (W.q2 (.int .i64 (z0n .i64 (x311 + 1))) rfl (.nil ?_))))
  have O353 : Ow G345 H352 (eVar b63 30 rV w349 :: eSl w349 3 (rI .i64) x342 :: L) := O346.drop 2
  exact ⟨k309, zAg _, ⟨x342, z0n .i64 (x311 + 1), w349, _, h344, O353, (zAe s317 s347), rfl⟩⟩
 rintro σ356 H357 fr358 ⟨x355, w363, G359, rfl, O360, s361⟩
 have h364 := z08 h308
 refine .seq (.seq (.region (W.load1 (v := w363) (r := []) rfl rfl ag30 (z0g ((fr358 9 rfl).trans ((fr296 9 rfl).trans ((fr187 9 rfl).trans rfl))) (At.raw (O360.atVar (j := 0) rfl))) (W.pure (v := (.int .i64 (List.length x355 : Int))) rfl rfl (z1g (oo rfl rfl) (O360.slLen (j := 1) rfl) (z02 el30)) (W.q2 (.int .i64 0) rfl (.nil ?_))))))
 obtain ⟨q365, h366, h367⟩ := z1o h364
 refine AW.midT (fun σ' H' => ∃  (G' : GM), (.inr ()) = q365 /\ Ow G' H' (eVar b63 30 rV w363 :: eSl w363 3 (rI .i64) x355 :: L) /\ GM.le G359 G') ?_ ?_
 rotate_left
 .rintro σ409 H410 fr411 ⟨G412, rfl, O413, s414⟩
  have h416 := z5z (z4d h367)
  refine .seq (.region (W.load1 (v := w363) (r := []) rfl rfl ag30 (z0g ((fr411 9 rfl).trans ((fr358 9 rfl).trans ((fr296 9 rfl).trans ((fr187 9 rfl).trans rfl)))) (At.raw (O413.atVar (j := 0) rfl))) (W.q1 w363 rfl (W.q1 (.int .i64 0) rfl (.nil (.ret ?_))))))
  have O417 : Ow G412 H410 (eSl w363 3 (rI .i64) x355 :: L) := O413.drop 0
  obtain rfl := zAa h416
  exact za8 kr w363 (v1 := w363) (v2 := (.int .i64 0)) (by rfl) (z0w (by rfl) (by exact rfl)) (z0w (by rfl) (by exact rfl)) O417 (zAe s14 (zAe s44 (zAe s78 (zAe s190 (zAe s299 (zAe s361 s414)))))) rfl
 refine .block (AW.loop (α := Nat) (fun k' σ' H' => ∃ (y1 : Int) (G' : GM), z10 K x355 k' y1 = some q365 /\ Ow G' H' (eVar b63 30 rV w363 :: eSl w363 3 (rI .i64) x355 :: L) /\ GM.le G359 G' /\ σ' 134 = .int .i64 y1) (fun k' => k') K ⟨0, _, h366, O360, (zAf _), rfl⟩ ?_)
 rintro k368
 rintro σ370 H371 fr372 ⟨x369, G373, h376, O374, s375, t377⟩
 rcases k368 with _ | k368
 .exact z06 h376
 rw [z10] at h376
 refine .seq (.region (W.q3 (.bool (decide (x369 < (List.length x355 : Int)))) t377 ((fr372 133 rfl).trans rfl) (.nil (.seq (.cond (b := decide (x369 < (List.length x355 : Int))) rfl rfl (fun g378 => ?_) (fun g378 => ?_))))))
 rotate_left
 .have h408 := z11 g378 h376
  refine .exit ?_
  obtain rfl := zAa h408
  exact ⟨_, rfl, O374, s375⟩
 have h379 := z01 g378 h376
 refine .skip (.seq (.block (.seq (.region ?_))))
 obtain ⟨x380, i381, h382⟩ := z03 h379
 have j383 := z0v i381
 refine W.pure (v := (z2z w363 (Int.toNat x369 * 1))) rfl rfl (z3i el30 sz3 (oo rfl ((fr372 132 rfl).trans rfl)) (oo rfl t377) (O374.slLen (j := 1) rfl) j383.1 j383.2.1) (W.load1 (v := (.int .i64 x380)) (r := []) rfl rfl ag3 (z0g rfl (At.int (O374.atSl (j := 1) rfl j383.2.2))) (W.q1 (.int .i64 x380) rfl (.nil (.seq ?_))))
 obtain ⟨q384, h385, h386⟩ := z03 h382
 refine AW.midT (fun σ' H' => ∃ (y1 : Bool) (G' : GM), y1 = q384 /\ Ow G' H' (eVar b63 30 rV w363 :: eSl w363 3 (rI .i64) x355 :: L) /\ GM.le G373 G' /\ σ' 143 = .bool y1) ?_ ?_
 .refine .region (W.q2 (.int .i64 x380) rfl (W.q3 (.bool (decide (x380 < (-100000)))) rfl rfl (W.q2 (.bool (decide (x380 < (-100000)))) rfl (W.splitAt (t := 140) (b := decide (x380 < (-100000))) rfl (fun g387 gv388 => ?_) (fun g387 gv388 => ?_)))))
  .have h389 := z01 g387 h385
   refine W.q6 rfl gv388 (W.q6 rfl gv388 (W.q4 (.bool true) gv388 rfl (.nil ?_)))
   obtain rfl := zAa h389
   exact ⟨true, _, rfl, O374, (zAf _), rfl⟩
  have h390 := z11 g387 h385
  refine W.q2 (hg := gk rfl rfl gv388 rfl) (.int .i64 x380) rfl (W.q3 (hg := gk rfl rfl gv388 rfl) (.bool (decide (x380 > 100000))) rfl rfl (W.q5 (.bool (decide (x380 > 100000))) gv388 rfl (.nil ?_)))
  obtain rfl := zAa h390
  exact ⟨decide (x380 > 100000), _, rfl, O374, (zAf _), rfl⟩
 rintro σ392 H393 fr394 ⟨x391, G395, rfl, O396, s397, t399⟩
 have h400 := z08 h386
 refine .cond (b := x391) rfl t399 (fun g401 => ?_) (fun g401 => ?_)
 rotate_left
 .have h407 := z11 g401 h400
  refine .skip (.region (W.q3 (.int .i64 (z0n .i64 (x369 + 1))) ((fr394 134 rfl).trans t377) rfl (W.q2 (.int .i64 (z0n .i64 (x369 + 1))) rfl (.nil ?_))))
  exact ⟨k368, zAg _, ⟨z0n .i64 (x369 + 1), _, h407, O396, (zAe s375 s397), rfl⟩⟩
 have h402 := z01 g401 h400
 refine .seq (.region (W.q1 (.slice none 0 0) rfl (W.q1 (.int .i64 4) rfl (.nil (.ret ?_)))))
 have O403 := O396.nilSl 3 (rI .i64)
 have O404 : Ow G395 H393 (eSl (.slice none 0 0) 3 (rI .i64) [] :: eSl w363 3 (rI .i64) x355 :: L) := O403.drop 1
 have O405 : Ow G395 H393 (eSl (.slice none 0 0) 3 (rI .i64) [] :: L) := O404.drop 1
 obtain rfl := zAa h402
 have h406 := z3b (z36 h367)
 obtain rfl := zAa h406
 exact za8 kr (.slice none 0 0) (v1 := (.slice none 0 0)) (v2 := (.int .i64 4)) (by rfl) (z0w (by rfl) (by exact rfl)) (z0w (by rfl) (by exact rfl)) O405 (zAe s14 (zAe s44 (zAe s78 (zAe s190 (zAe s299 (zAe s361 (zAe s375 s397))))))) rfl
def z2a (K : Nat) (p0 : zAd) : Nat -> Int -> Option (Bool ⊕ Unit)
  | 0, _ => none
  | k + 1, x39 => (if (decide (x39 < (p0.size : Int))) = true then ((bidx p0 x39).bind fun x50 => (Option.bind ((if (decide (x50 < 65)) = true then (if (decide (x50 < 48)) = true then some true else some (decide (x50 > 57))) else (if (decide (x50 > 90)) = true then (if (decide (x50 < 48)) = true then some true else some (decide (x50 > 57))) else some false))) (tu1 fun x72 => (if x72 = true then some (.inl false) else z2a K p0 k (z0n .i64 (x39 + 1)))))) else some (.inr ()))
def z4n (K : Nat) (p0 : zAd) : Option Bool := (Option.bind ((if ((p0.size : Int) == 0) = true then some true else (if (decide ((p0.size : Int) > 8)) = true then some true else ((bidx p0 0).bind fun x12 => (if (decide (x12 < 65)) = true then some true else ((bidx p0 0).bind fun x19 => some (decide (x19 > 90)))))))) (tu1 fun x22 => (if x22 = true then some false else (z42 (z2a K p0 K 0) (tu1 fun a95 => some a95) (tu0 (some true))))))
theorem z8n (p0 : zAd) (O : Ow G H (L)) (r : Bool) (h : z4n K p0 = some r) :
    CR Tryz.prog 17 [(.string p0)] G H (L) (fun v G' _ => v = .bool r) := by
 unfold z4n at h
 refine CR.og (n := 46) (fn := Tryz.f17) (by kernel_rfl) rfl rfl fun R kr => (.seq (.region (W.q1 (.bool false) rfl (.nil (.seq (.seq ?_))))))
 obtain ⟨q1, h2, h3⟩ := z03 h
 refine AW.midT (fun σ' H' => ∃ (y1 : Bool) (G' : GM), y1 = q1 /\ Ow G' H' (L) /\ GM.le G G' /\ σ' 22 = .bool y1) ?_ ?_
 .refine .region (W.q2 (.string p0) rfl (W.pure (v := (.int .i64 (p0.size : Int))) rfl rfl (z9l (oo rfl rfl) un9) (W.q3 (.bool ((p0.size : Int) == 0)) rfl rfl (W.q2 (.bool ((p0.size : Int) == 0)) rfl (W.splitAt (t := 8) (b := ((p0.size : Int) == 0)) rfl (fun g4 gv5 => ?_) (fun g4 gv5 => ?_))))))
  .have h6 := z01 g4 h2
   refine W.q6 rfl gv5 (W.q6 rfl gv5 (W.q6 rfl gv5 (W.q4 (.bool true) gv5 rfl (W.q2 (.bool true) rfl (W.q6 rfl rfl (W.q6 rfl rfl ?_))))))
   refine W.q6 rfl rfl (W.q4 (.bool true) rfl rfl (W.q2 (.bool true) rfl (W.q6 rfl rfl (W.q6 rfl rfl (W.q6 rfl rfl (W.q4 (.bool true) rfl rfl ?_))))))
   refine .nil ?_
   obtain rfl := zAa h6
   exact ⟨true, _, rfl, O, (zAf _), rfl⟩
  have h7 := z11 g4 h2
  refine W.q2 (hg := gk rfl rfl gv5 rfl) (.string p0) rfl (W.pure (v := (.int .i64 (p0.size : Int))) (gk rfl rfl gv5 rfl) rfl (z9l (oo rfl rfl) un9) (W.q3 (hg := gk rfl rfl gv5 rfl) (.bool (decide ((p0.size : Int) > 8))) rfl rfl (W.q5 (.bool (decide ((p0.size : Int) > 8))) gv5 rfl (W.q2 (.bool (decide ((p0.size : Int) > 8))) rfl (W.splitAt (t := 13) (b := decide ((p0.size : Int) > 8)) rfl (fun g8 gv9 => ?_) (fun g8 gv9 => ?_))))))
  .have h10 := z01 g8 h7
   refine W.q6 rfl gv9 (W.q6 rfl gv9 (W.q6 rfl gv9 (W.q4 (.bool true) gv9 rfl (W.q2 (.bool true) rfl (W.q6 rfl rfl (W.q6 rfl rfl ?_))))))
   refine W.q6 rfl rfl (W.q4 (.bool true) rfl rfl (.nil ?_))
   obtain rfl := zAa h10
   exact ⟨true, _, rfl, O, (zAf _), rfl⟩
  have h11 := z11 g8 h7
  refine W.q2 (hg := gk rfl rfl gv9 rfl) (.string p0) rfl ?_
  obtain ⟨x12, i13, h14⟩ := z03 h11
  refine W.pure (v := (.int .u8 x12)) (gk rfl rfl gv9 rfl) rfl (ze1 un9 (oo rfl rfl) (oo rfl rfl) i13) (W.q3 (hg := gk rfl rfl gv9 rfl) (.bool (decide (x12 < 65))) rfl rfl (W.q5 (.bool (decide (x12 < 65))) gv9 rfl (W.q2 (.bool (decide (x12 < 65))) rfl (W.splitAt (t := 18) (b := decide (x12 < 65)) rfl (fun g15 gv16 => ?_) (fun g15 gv16 => ?_)))))
  .have h17 := z01 g15 h14
   refine W.q6 rfl gv16 (W.q6 rfl gv16 (W.q6 rfl gv16 (W.q4 (.bool true) gv16 rfl (.nil ?_))))
   obtain rfl := zAa h17
   exact ⟨true, _, rfl, O, (zAf _), rfl⟩
  have h18 := z11 g15 h14
  refine W.q2 (hg := gk rfl rfl gv16 rfl) (.string p0) rfl ?_
  obtain ⟨x19, i20, h21⟩ := z03 h18
  refine W.pure (v := (.int .u8 x19)) (gk rfl rfl gv16 rfl) rfl (ze1 un9 (oo rfl rfl) (oo rfl rfl) i20) (W.q3 (hg := gk rfl rfl gv16 rfl) (.bool (decide (x19 > 90))) rfl rfl (W.q5 (.bool (decide (x19 > 90))) gv16 rfl (.nil ?_)))
  obtain rfl := zAa h21
  exact ⟨decide (x19 > 90), _, rfl, O, (zAf _), rfl⟩
 rintro σ23 H24 fr25 ⟨x22, G26, rfl, O27, s28, t30⟩
 have h31 := z08 h3
 refine .cond (b := x22) rfl t30 (fun g32 => ?_) (fun g32 => ?_)
 .have h33 := z01 g32 h31
  refine .seq (.region (W.q1 (.bool false) rfl (.nil (.ret ?_))))
  obtain rfl := zAa h33
  exact z3t kr (v1 := (.bool false)) (by rfl) (z0w (by rfl) (by exact rfl)) O27 s28 rfl
 have h34 := z11 g32 h31
 refine .skip (.seq (.seq (.region (W.q2 (.string p0) ((fr25 0 rfl).trans rfl) (W.pure (v := (.int .i64 (p0.size : Int))) rfl rfl (z9l (oo rfl rfl) un9) (W.q2 (.int .i64 0) rfl ?_))))))
 refine .nil ?_
 obtain ⟨q35, h36, h37⟩ := z1o h34
 refine AW.midT (fun σ' H' => ∃  (G' : GM), (.inr ()) = q35 /\ Ow G' H' (L) /\ GM.le G26 G') ?_ ?_
 rotate_left
 .rintro σ87 H88 fr89 ⟨G90, rfl, O91, s92⟩
  have h94 := z5z (z4d h37)
  refine .seq (.region (W.q1 (.bool true) rfl (.nil (.ret ?_))))
  obtain rfl := zAa h94
  exact z3t kr (v1 := (.bool true)) (by rfl) (z0w (by rfl) (by exact rfl)) O91 (zAe s28 s92) rfl
 refine .block (AW.loop (α := Nat) (fun k' σ' H' => ∃ (y1 : Int) (G' : GM), z2a K p0 k' y1 = some q35 /\ Ow G' H' (L) /\ GM.le G26 G' /\ σ' 25 = .int .i64 y1) (fun k' => k') K ⟨0, _, h36, O27, (zAf _), rfl⟩ ?_)
 rintro k38
 rintro σ40 H41 fr42 ⟨x39, G43, h46, O44, s45, t47⟩
 rcases k38 with _ | k38
 .exact z06 h46
 rw [z2a] at h46
 refine .seq (.region (W.q3 (.bool (decide (x39 < (p0.size : Int)))) t47 ((fr42 24 rfl).trans rfl) (.nil (.seq (.cond (b := decide (x39 < (p0.size : Int))) rfl rfl (fun g48 => ?_) (fun g48 => ?_))))))
 rotate_left
 .have h86 := z11 g48 h46
  refine .exit ?_
  obtain rfl := zAa h86
  exact ⟨_, rfl, O44, s45⟩
 have h49 := z01 g48 h46
 refine .skip (.seq (.block (.seq (.region (W.q2 _ t47 (W.q1 (.int .i64 x39) rfl ?_))))))
 refine .nil (.seq (.region (W.q2 (.string p0) ((fr42 0 rfl).trans ((fr25 0 rfl).trans rfl)) (W.q2 (.int .i64 x39) rfl ?_))))
 obtain ⟨x50, i51, h52⟩ := z03 h49
 refine W.pure (v := (.int .u8 x50)) rfl rfl (ze1 un9 (oo rfl rfl) (oo rfl rfl) i51) (W.q1 (.int .u8 x50) rfl (.nil (.seq ?_)))
 obtain ⟨q53, h54, h55⟩ := z03 h52
 refine AW.midT (fun σ' H' => ∃ (y1 : Bool) (G' : GM), y1 = q53 /\ Ow G' H' (L) /\ GM.le G43 G' /\ σ' 44 = .bool y1) ?_ ?_
 rotate_left
 .rintro σ73 H74 fr75 ⟨x72, G76, rfl, O77, s78, t80⟩
  have h81 := z08 h55
  refine .cond (b := x72) rfl t80 (fun g82 => ?_) (fun g82 => ?_)
  .have h83 := z01 g82 h81
   refine .seq (.region (W.q1 (.bool false) rfl (.nil (.ret ?_))))
   obtain rfl := zAa h83
   have h84 := z08 (z36 h37)
   obtain rfl := zAa h84
   exact z3t kr (v1 := (.bool false)) (by rfl) (z0w (by rfl) (by exact rfl)) O77 (zAe s28 (zAe s45 s78)) rfl
  have h85 := z11 g82 h81
  refine .skip (.region (W.q3 (.int .i64 (z0n .i64 (x39 + 1))) ((fr75 25 rfl).trans t47) rfl (W.q2 (.int .i64 (z0n .i64 (x39 + 1))) rfl (.nil ?_))))
  exact ⟨k38, zAg _, ⟨z0n .i64 (x39 + 1), _, h85, O77, (zAe s45 s78), rfl⟩⟩
 refine .region (W.q2 (.int .u8 x50) rfl (W.q3 (.bool (decide (x50 < 65))) rfl rfl (W.q2 (.bool (decide (x50 < 65))) rfl (W.splitAt (t := 33) (b := decide (x50 < 65)) rfl (fun g56 gv57 => ?_) (fun g56 gv57 => ?_)))))
 .have h58 := z01 g56 h54
  refine W.q6 rfl gv57 (W.q6 rfl gv57 (W.q4 (.bool true) gv57 rfl (W.q2 (.bool true) rfl (W.q2 (hg := gk rfl rfl rfl rfl) (.int .u8 x50) rfl (W.q3 (hg := gk rfl rfl rfl rfl) (.bool (decide (x50 < 48))) rfl rfl (W.q2 (hg := gk rfl rfl rfl rfl) (.bool (decide (x50 < 48))) rfl ?_))))))
  refine W.splitAt (t := 40) (b := decide (x50 < 48)) rfl (fun g59 gv60 => ?_) (fun g59 gv60 => ?_)
  .have h61 := z01 g59 h58
   refine W.q6 rfl gv60 (W.q6 rfl gv60 (W.q4 (hg := gk rfl rfl rfl rfl) (.bool true) gv60 rfl (W.q4 (.bool true) rfl rfl (.nil ?_))))
   obtain rfl := zAa h61
   exact ⟨true, _, rfl, O44, (zAf _), rfl⟩
  have h62 := z11 g59 h58
  refine W.q2 (hg := gk rfl rfl gv60 rfl) (.int .u8 x50) rfl (W.q3 (hg := gk rfl rfl gv60 rfl) (.bool (decide (x50 > 57))) rfl rfl (W.q5 (hg := gk rfl rfl rfl rfl) (.bool (decide (x50 > 57))) gv60 rfl (W.q4 (.bool (decide (x50 > 57))) rfl rfl (.nil ?_))))
  obtain rfl := zAa h62
  exact ⟨decide (x50 > 57), _, rfl, O44, (zAf _), rfl⟩
 have h63 := z11 g56 h54
 refine W.q2 (hg := gk rfl rfl gv57 rfl) (.int .u8 x50) rfl (W.q3 (hg := gk rfl rfl gv57 rfl) (.bool (decide (x50 > 90))) rfl rfl (W.q5 (.bool (decide (x50 > 90))) gv57 rfl (W.q2 (.bool (decide (x50 > 90))) rfl (W.splitAt (t := 37) (b := decide (x50 > 90)) rfl (fun g64 gv65 => ?_) (fun g64 gv65 => ?_)))))
 rotate_left
 .have h71 := z11 g64 h63
  refine W.q6 rfl gv65 (W.q6 rfl gv65 (W.q6 rfl gv65 (W.skipU rfl rfl rfl rfl (W.skipU rfl rfl rfl rfl (W.q6 rfl gv65 (W.q5 (.bool false) gv65 rfl ?_))))))
  refine .nil ?_
  obtain rfl := zAa h71
  exact ⟨false, _, rfl, O44, (zAf _), rfl⟩
 have h66 := z01 g64 h63
 refine W.q2 (hg := gk rfl rfl gv65 rfl) (.int .u8 x50) rfl (W.q3 (hg := gk rfl rfl gv65 rfl) (.bool (decide (x50 < 48))) rfl rfl (W.q2 (hg := gk rfl rfl gv65 rfl) (.bool (decide (x50 < 48))) rfl (W.splitAt (t := 40) (b := decide (x50 < 48)) rfl (fun g67 gv68 => ?_) (fun g67 gv68 => ?_))))
 .have h69 := z01 g67 h66
  refine W.q6 rfl gv68 (W.q6 rfl gv68 (W.q4 (hg := gk rfl rfl gv65 rfl) (.bool true) gv68 rfl (W.q4 (.bool true) gv65 rfl (.nil ?_))))
  obtain rfl := zAa h69
  exact ⟨true, _, rfl, O44, (zAf _), rfl⟩
 have h70 := z11 g67 h66
 refine W.q2 (hg := gk rfl rfl gv68 rfl) (.int .u8 x50) rfl (W.q3 (hg := gk rfl rfl gv68 rfl) (.bool (decide (x50 > 57))) rfl rfl (W.q5 (hg := gk rfl rfl gv65 rfl) (.bool (decide (x50 > 57))) gv68 rfl (W.q4 (.bool (decide (x50 > 57))) gv65 rfl (.nil ?_))))
 obtain rfl := zAa h70
 exact ⟨decide (x50 > 57), _, rfl, O44, (zAf _), rfl⟩
def z2n (K : Nat) (p0 : List zAd) (p1 : zAd) : Nat -> Int -> Option (Int ⊕ Unit)
  | 0, _ => none
  | k + 1, x5 => (if (decide (x5 < (List.length p0 : Int))) = true then ((idx p0 x5).bind fun x16 => (if (sEq x16 p1) = true then some (.inl x5) else z2n K p0 p1 k (z0n .i64 (x5 + 1)))) else some (.inr ()))
def z6c (K : Nat) (p0 : List zAd) (p1 : zAd) : Option Int := (z42 (z2n K p0 p1 K 0) (tu1 fun a33 => some a33) (tu0 (some (-1))))
theorem z94 (v0 : Value) (p0 : List zAd) (hp0 : (rSl rS).rep G [v0] p0) (p1 : zAd) (O : Ow G H (L)) (r : Int) (h : z6c K p0 p1 = some r) :
    CR Tryz.prog 41 [v0, (.string p1)] G H (L) (fun v G' _ => v = .int .i64 r) := by
 unfold z6c at h
 refine CR.og (n := 19) (fn := Tryz.f41) (by kernel_rfl) rfl rfl fun R kr => (.seq (.region (W.q1 (.int .i64 0) rfl (.nil (.seq (.seq ?_))))))
 refine .region (W.q2 v0 rfl (W.pure (v := (.int .i64 (List.length p0 : Int))) rfl rfl (z1g (oo rfl rfl) (z0f hp0) (z02 el22)) (W.q2 (.int .i64 0) rfl (.nil ?_))))
 obtain ⟨q1, h2, h3⟩ := z1o h
 refine AW.midT (fun σ' H' => ∃  (G' : GM), (.inr ()) = q1 /\ Ow G' H' (L) /\ GM.le G G') ?_ ?_
 rotate_left
 .rintro σ25 H26 fr27 ⟨G28, rfl, O29, s30⟩
  have h32 := z5z (z4d h3)
  refine .seq (.region (W.q1 (.int .i64 (-1)) rfl (.nil (.ret ?_))))
  obtain rfl := zAa h32
  exact z3t kr (v1 := (.int .i64 (-1))) (by rfl) (z0w (by rfl) (by exact rfl)) O29 s30 rfl
 refine .block (AW.loop (α := Nat) (fun k' σ' H' => ∃ (y1 : Int) (G' : GM), z2n K p0 p1 k' y1 = some q1 /\ Ow G' H' (L) /\ GM.le G G' /\ σ' 9 = .int .i64 y1) (fun k' => k') K ⟨0, _, h2, O, (zAf _), rfl⟩ ?_)
 rintro k4
 rintro σ6 H7 fr8 ⟨x5, G9, h12, O10, s11, t13⟩
 rcases k4 with _ | k4
 .exact z06 h12
 rw [z2n] at h12
 refine .seq (.region (W.q3 (.bool (decide (x5 < (List.length p0 : Int)))) t13 ((fr8 8 rfl).trans rfl) (.nil (.seq (.cond (b := decide (x5 < (List.length p0 : Int))) rfl rfl (fun g14 => ?_) (fun g14 => ?_))))))
 rotate_left
 .have h24 := z11 g14 h12
  refine .exit ?_
  obtain rfl := zAa h24
  exact ⟨_, rfl, O10, s11⟩
 have h15 := z01 g14 h12
 refine .skip (.seq (.block (.seq (.region (W.q2 _ t13 ?_)))))
 obtain ⟨x16, i17, h18⟩ := z03 h15
 have j19 := z0v i17
 refine W.pure (v := (z2z v0 (Int.toNat x5 * 1))) rfl rfl (z3i el22 sz9 (oo rfl ((fr8 7 rfl).trans rfl)) (oo rfl t13) (z0f (RT.mono _ s11 hp0)) j19.1 j19.2.1) (W.load1 (v := (.string x16)) (r := []) rfl rfl ag9 (z0g rfl (At.str (At.le (At.le (z1q hp0 j19.2.2) s11 s11) (zAf _) O10.fro))) (W.q1 (.int .i64 x5) rfl (W.q1 (.string x16) rfl (.nil (.seq (.region ?_))))))
 refine W.q2 (.string x16) rfl (W.q2 (.string p1) ((fr8 1 rfl).trans rfl) (W.pure (v := (.bool (sEq x16 p1))) rfl rfl (z7v (oo rfl rfl) (oo rfl rfl)) (.nil (.cond (b := sEq x16 p1) rfl rfl (fun g20 => ?_) (fun g20 => ?_)))))
 rotate_left
 .have h23 := z11 g20 h18
  refine .skip (.region (W.q3 (.int .i64 (z0n .i64 (x5 + 1))) t13 rfl (W.q2 (.int .i64 (z0n .i64 (x5 + 1))) rfl (.nil ?_))))
  exact ⟨k4, zAg _, ⟨z0n .i64 (x5 + 1), _, h23, O10, s11, rfl⟩⟩
 have h21 := z01 g20 h18
 refine .seq (.region (W.q2 (.int .i64 x5) rfl (W.q1 (.int .i64 x5) rfl (.nil (.ret ?_)))))
 obtain rfl := zAa h21
 have h22 := z08 (z36 h3)
 obtain rfl := zAa h22
 exact z3t kr (v1 := (.int .i64 x5)) (by rfl) (z0w (by rfl) (by exact rfl)) O10 s11 rfl
def z7a (K : Nat) (p0 : List zAd) (p1 : zAd) : Option Bool := ((z6c K p0 p1).bind fun x1 => some (decide (x1 >= 0)))
theorem z8o (v0 : Value) (p0 : List zAd) (hp0 : (rSl rS).rep G [v0] p0) (p1 : zAd) (O : Ow G H (L)) (r : Bool) (h : z7a K p0 p1 = some r) :
    CR Tryz.prog 18 [v0, (.string p1)] G H (L) (fun v G' _ => v = .bool r) := by
 unfold z7a at h
 refine CR.og (n := 9) (fn := Tryz.f18) (by kernel_rfl) rfl rfl fun R kr => (.seq (.region (W.q1 (.bool false) rfl (.nil (.seq (.region ?_))))))
 refine W.q2 v0 rfl (W.q2 (.string p1) rfl ?_)
 obtain ⟨x1, i2, h3⟩ := z03 h
 refine W.lo rfl rfl (Lo.cP rfl (fn := Tryz.f41) (by kernel_rfl) rfl (mc rfl (mc rfl mn)) O (fun L' O' => z94 K v0 p0 hp0 p1 O' _ i2)) ?_
 rintro v10 H11 ⟨G4, O5, s6, sm9, rfl⟩
 refine W.q3 (.bool (decide (x1 >= 0))) rfl rfl (W.q1 (.bool (decide (x1 >= 0))) rfl (.nil (.ret ?_)))
 obtain rfl := zAa h3
 exact z3t kr (v1 := (.bool (decide (x1 >= 0)))) (by rfl) (z0w (by rfl) (by exact rfl)) O5 s6 rfl
def z2f (K : Nat) (p0 : zAd) (p1 : List zAd) : Option (Int × List zAd) := ((z4n K p0).bind fun x3 => (if (!x3) = true then some (5, p1) else ((z7a K p1 p0).bind fun x17 => (if x17 = true then some (7, p1) else (if List.length p1 + List.length [p0] <= 16777216 then some (0, (p1 ++ [p0])) else none)))))
theorem z4c (p0 : zAd) (b1 : Nat) (v1 : Value) (p1 : List zAd) (O : Ow G H (eVar b1 22 rV v1 :: eSl v1 9 rS p1 :: L)) (r : Int × List zAd) (h : z2f K p0 p1 = some r) :
    CRF Tryz.prog 16 [(.string p0), .pointer (some ⟨b1, 0, none⟩)] G H (fun wl => (eVar b1 22 rV wl :: eSl wl 9 rS r.2 :: L)) (fun wl v G' => v = .int .i64 r.1) := by
 unfold z2f at h
 refine CRF.og (n := 14) (fn := Tryz.f16) (by kernel_rfl) rfl rfl fun R kr => (.seq (.region (W.q1 (.int .i64 0) rfl (.nil (.seq (.seq ?_))))))
 refine .region (W.q2 (.string p0) rfl ?_)
 obtain ⟨x3, i4, h5⟩ := z03 h
 refine W.lo rfl rfl (Lo.cP rfl (fn := Tryz.f17) (by kernel_rfl) rfl (mc rfl mn) O (fun L' O' => z8n K p0 O' _ i4)) ?_
 rintro v12 H13 ⟨G6, O7, s8, sm11, rfl⟩
 refine W.pure (v := (.bool (!x3))) rfl rfl (z13 (a := x3) (oo rfl rfl)) (.nil (.cond (b := (!x3)) rfl rfl (fun g14 => ?_) (fun g14 => ?_)))
 .have h15 := z01 g14 h5
  refine .seq (.region (W.q1 (.int .i64 5) rfl (.nil (.ret ?_))))
  obtain rfl := zAa h15
  exact z4w kr v1 (v1 := (.int .i64 5)) (by rfl) (z0w (by rfl) (by exact rfl)) O7 s8 rfl
 have h16 := z11 g14 h5
 refine .skip (.seq (.seq (.region (W.load1 (v := v1) (r := []) rfl rfl ag22 (z0g rfl (At.raw (O7.atVar (j := 0) rfl))) (W.q2 (.string p0) rfl ?_)))))
 obtain ⟨x17, i18, h19⟩ := z03 h16
 refine W.lo rfl rfl (Lo.callB (j := 1) rfl rfl (fn := Tryz.f18) (by kernel_rfl) rfl (mc rfl (mc rfl mn)) O7 (fun G' L' hG O' hB => z8o K v1 p1 hB p0 O' _ i18)) ?_
 rintro v26 H27 ⟨G20, O21, s22, sm25, rfl⟩
 refine .nil (.cond (b := x17) rfl rfl (fun g28 => ?_) (fun g28 => ?_))
 .have h29 := z01 g28 h19
  refine .seq (.region (W.q1 (.int .i64 7) rfl (.nil (.ret ?_))))
  obtain rfl := zAa h29
  exact z4w kr v1 (v1 := (.int .i64 7)) (by rfl) (z0w (by rfl) (by exact rfl)) O21 (zAe s8 s22) rfl
 have h30 := z11 g28 h19
 refine .skip (.seq (.region (W.load1 (v := v1) (r := []) rfl rfl ag22 (z0g rfl (At.raw (O21.atVar (j := 0) rfl))) (W.q2 (.string p0) rfl (W.lo rfl rfl (Lo.buildSlice (r := rS) (vs := [(.string p0)]) (xs := [p0]) el22 ze9 sz9 (by kernel_rfl) rfl (qc rfl qn) rfl (.cons rfl .nil) O21) ?_)))))
 rintro v33 H34 ⟨O31, sm32⟩
 obtain ⟨es36, e37, e38⟩ := z4b (j := 0) rfl O31
 obtain ⟨g39, h40⟩ := z5s h30
 refine W.lo rfl rfl (Lo.append (j := 2) (v := v1) rfl rfl el22 ni22 ze9 sz9 by9 (by decide) (by decide) rfl e37 e38 g39 O31) ?_
 rintro v42 H43 ⟨O35, sm41⟩
 refine W.lo rfl rfl (Lo.storeVar (j := 1) (s := rV) (y0 := v42) (v := v42) (o := 0) rfl ((Put.at (Put.self _) _ _)) rfl sz22 rfl (by omega) rfl (zg9 (O35.slLen (j := 2) rfl)) O35) ?_
 rintro v46 H47 ⟨O44, sm45⟩
 refine .nil (.seq (.region (W.q1 (.int .i64 0) rfl (.nil (.ret ?_)))))
 have O48 : Ow G20 H47 (eVar b1 22 rV v42 :: eSl v42 9 rS (p1 ++ [p0]) :: L) := O44.drop 0
 obtain rfl := zAa h40
 exact z4w kr v42 (v1 := (.int .i64 0)) (by rfl) (z0w (by rfl) (by exact rfl)) O48 (zAe s8 s22) rfl
def z4o (K : Nat) (p0 : Int) (p1 : Int) (p2 : Int) : Option Bool := (Option.bind ((if (decide (p0 < p1)) = true then some false else some (!(decide (p0 > p2))))) (tu1 fun x8 => some x8))
theorem z2g (p0 : Int) (p1 : Int) (p2 : Int) (O : Ow G H (L)) (r : Bool) (h : z4o K p0 p1 p2 = some r) :
    CR Tryz.prog 43 [(.int .i64 p0), (.int .i64 p1), (.int .i64 p2)] G H (L) (fun v G' _ => v = .bool r) := by
 unfold z4o at h
 refine CR.og (n := 16) (fn := Tryz.f43) (by kernel_rfl) rfl rfl fun R kr => (.seq (.region (W.q1 (.bool false) rfl (.nil (.seq ?_)))))
 obtain ⟨q1, h2, h3⟩ := z03 h
 refine AW.midT (fun σ' H' => ∃ (y1 : Bool) (G' : GM), y1 = q1 /\ Ow G' H' (L) /\ GM.le G G' /\ σ' 6 = .bool y1) ?_ ?_
 rotate_left
 .rintro σ9 H10 fr11 ⟨x8, G12, rfl, O13, s14, t16⟩
  have h17 := z08 h3
  refine .ret ?_
  obtain rfl := zAa h17
  exact z3t kr (v1 := (.bool x8)) (by rfl) (z0w (by rfl) (by exact t16)) O13 s14 rfl
 refine .region (W.q2 (.int .i64 p0) rfl (W.q2 (.int .i64 p1) rfl (W.q3 (.bool (decide (p0 < p1))) rfl rfl (W.q2 (.bool (decide (p0 < p1))) rfl (W.splitAt (t := 10) (b := decide (p0 < p1)) rfl (fun g4 gv5 => ?_) (fun g4 gv5 => ?_))))))
 .have h6 := z01 g4 h2
  refine W.q6 rfl gv5 (W.q6 rfl gv5 (W.q6 rfl gv5 (W.q4 (.bool true) gv5 rfl (W.pure (v := (.bool false)) rfl rfl (z13 (a := true) (oo rfl rfl)) (W.q1 (.bool false) rfl (.nil ?_))))))
  obtain rfl := zAa h6
  exact ⟨false, _, rfl, O, (zAf _), rfl⟩
 have h7 := z11 g4 h2
 refine W.q2 (hg := gk rfl rfl gv5 rfl) (.int .i64 p0) rfl (W.q2 (hg := gk rfl rfl gv5 rfl) (.int .i64 p2) rfl (W.q3 (hg := gk rfl rfl gv5 rfl) (.bool (decide (p0 > p2))) rfl rfl (W.q5 (.bool (decide (p0 > p2))) gv5 rfl (W.pure (v := (.bool (!(decide (p0 > p2))))) rfl rfl (z13 (a := decide (p0 > p2)) (oo rfl rfl)) (W.q1 (.bool (!(decide (p0 > p2)))) rfl (.nil ?_))))))
 obtain rfl := zAa h7
 exact ⟨(!(decide (p0 > p2))), _, rfl, O, (zAf _), rfl⟩
def z2l (K : Nat) (p0 : Branch) : Option Int := (Option.bind (((z4o K p0.X 1 10000).bind fun x9 => (if x9 = true then ((z4o K p0.Tap 500 1500).bind fun x23 => (if x23 = true then ((z4o K p0.Shift (-1000) 1000).bind fun x37 => (if x37 = true then ((z4o K p0.Limit 0 100000).bind fun x51 => (if x51 = true then ((z4o K p0.Short p0.Limit 100000).bind fun x65 => (if x65 = true then ((z4o K p0.Hold 0 200000).bind fun x79 => some x79) else some false)) else some false)) else some false)) else some false)) else some false))) (tu1 fun x95 => (if x95 = true then some 0 else some 4)))
theorem z5x (v0 : List Value) (p0 : Branch) (hp0 : T_Branch.rep G v0 p0) (O : Ow G H (L)) (r : Int) (h : z2l K p0 = some r) :
    CR Tryz.prog 42 [.agg (List.toArray v0)] G H (L) (fun v G' _ => v = .int .i64 r) := by
 unfold z2l at h
 refine CR.og (n := 33) (fn := Tryz.f42) (by kernel_rfl) rfl rfl fun R kr => (.seq (.region (W.lo rfl rfl (Lo.box (r := T_Branch) (x0 := p0) (v := (.agg (List.toArray v0))) rfl rfl hp0 O) ?_)))
 rintro v4 H5 ⟨b2, rfl, O1, sm3⟩
 refine W.q1 (.int .i64 0) rfl (.nil (.seq (.seq ?_)))
 obtain ⟨q6, h7, h8⟩ := z03 h
 refine AW.midT (fun σ' H' => ∃ (y1 : Bool) (G' : GM), y1 = q6 /\ Ow G' H' (eVar b2 65 T_Branch p0 :: L) /\ GM.le G G' /\ σ' 32 = .bool y1) ?_ ?_
 rotate_left
 .rintro σ96 H97 fr98 ⟨x95, G99, rfl, O100, s101, t103⟩
  have h104 := z08 h8
  refine .cond (b := x95) rfl t103 (fun g105 => ?_) (fun g105 => ?_)
  .have h106 := z01 g105 h104
   refine .seq (.region (W.q1 (.int .i64 0) rfl (.nil (.ret ?_))))
   have O107 : Ow G99 H97 (L) := O100.drop 0
   obtain rfl := zAa h106
   exact z3t kr (v1 := (.int .i64 0)) (by rfl) (z0w (by rfl) (by exact rfl)) O107 s101 rfl
  have h108 := z11 g105 h104
  refine .skip (.seq (.region (W.q1 (.int .i64 4) rfl (.nil (.ret ?_)))))
  have O109 : Ow G99 H97 (L) := O100.drop 0
  obtain rfl := zAa h108
  exact z3t kr (v1 := (.int .i64 4)) (by rfl) (z0w (by rfl) (by exact rfl)) O109 s101 rfl
 refine .region (W.pure (v := (padd (.pointer (some ⟨b2, 0, none⟩)) 3)) rfl rfl (z04 zfj (oo rfl rfl) (O1.atVar (j := 0) rfl)) (W.load1 (v := (.int .i64 p0.X)) (r := []) rfl rfl ag3 (z0g rfl (At.int (At.proj (O1.atVar (j := 0) rfl) z8j))) ?_))
 obtain ⟨x9, i10, h11⟩ := z03 h7
 refine W.lo rfl rfl (Lo.cP rfl (fn := Tryz.f43) (by kernel_rfl) rfl (mc rfl (mc rfl (mc rfl mn))) O1 (fun L' O' => z2g K p0.X 1 10000 O' _ i10)) ?_
 rintro v18 H19 ⟨G12, O13, s14, sm17, rfl⟩
 refine W.q2 (.bool x9) rfl (W.splitAt (t := 6) (b := x9) rfl (fun g20 gv21 => ?_) (fun g20 gv21 => ?_))
 rotate_left
 .have h94 := z11 g20 h11
  refine W.q6 rfl gv21 (W.q6 rfl gv21 (W.q6 rfl gv21 (W.q5 (.bool false) gv21 rfl (W.q2 (.bool false) rfl (W.q6 rfl rfl (W.q6 rfl rfl ?_))))))
  refine W.q6 rfl rfl (W.q5 (.bool false) rfl rfl (W.q2 (.bool false) rfl (W.q6 rfl rfl (W.q6 rfl rfl (W.q6 rfl rfl (W.q5 (.bool false) rfl rfl ?_))))))
  refine W.q2 (.bool false) rfl (W.q6 rfl rfl (W.q6 rfl rfl (W.q6 rfl rfl (W.q6 rfl rfl (W.q6 rfl rfl (W.q5 (.bool false) rfl rfl ?_))))))
  refine W.q2 (.bool false) rfl (W.q6 rfl rfl (W.q6 rfl rfl (W.q6 rfl rfl (W.q5 (.bool false) rfl rfl (.nil ?_)))))
  obtain rfl := zAa h94
  exact ⟨false, _, rfl, O13, s14, rfl⟩
 have h22 := z01 g20 h11
 refine W.pure (v := (padd (.pointer (some ⟨b2, 0, none⟩)) 4)) (gk rfl rfl gv21 rfl) rfl (z04 zfk (oo rfl rfl) (O13.atVar (j := 0) rfl)) (W.load1 (v := (.int .i64 p0.Tap)) (r := []) (gk rfl rfl gv21 rfl) rfl ag3 (z0g rfl (At.int (At.proj (O13.atVar (j := 0) rfl) z6r))) ?_)
 obtain ⟨x23, i24, h25⟩ := z03 h22
 refine W.lo (gk rfl rfl gv21 rfl) rfl (Lo.cP rfl (fn := Tryz.f43) (by kernel_rfl) rfl (mc rfl (mc rfl (mc rfl mn))) O13 (fun L' O' => z2g K p0.Tap 500 1500 O' _ i24)) ?_
 rintro v32 H33 ⟨G26, O27, s28, sm31, rfl⟩
 refine W.q4 (.bool x23) gv21 rfl (W.q2 (.bool x23) rfl (W.splitAt (t := 11) (b := x23) rfl (fun g34 gv35 => ?_) (fun g34 gv35 => ?_)))
 rotate_left
 .have h93 := z11 g34 h25
  refine W.q6 rfl gv35 (W.q6 rfl gv35 (W.q6 rfl gv35 (W.q5 (.bool false) gv35 rfl (W.q2 (.bool false) rfl (W.q6 rfl rfl (W.q6 rfl rfl ?_))))))
  refine W.q6 rfl rfl (W.q5 (.bool false) rfl rfl (W.q2 (.bool false) rfl (W.q6 rfl rfl (W.q6 rfl rfl (W.q6 rfl rfl (W.q6 rfl rfl ?_))))))
  refine W.q6 rfl rfl (W.q5 (.bool false) rfl rfl (W.q2 (.bool false) rfl (W.q6 rfl rfl (W.q6 rfl rfl (W.q6 rfl rfl (W.q5 (.bool false) rfl rfl ?_))))))
  refine .nil ?_
  obtain rfl := zAa h93
  exact ⟨false, _, rfl, O27, (zAe s14 s28), rfl⟩
 have h36 := z01 g34 h25
 refine W.pure (v := (padd (.pointer (some ⟨b2, 0, none⟩)) 5)) (gk rfl rfl gv35 rfl) rfl (z04 zfl (oo rfl rfl) (O27.atVar (j := 0) rfl)) (W.load1 (v := (.int .i64 p0.Shift)) (r := []) (gk rfl rfl gv35 rfl) rfl ag3 (z0g rfl (At.int (At.proj (O27.atVar (j := 0) rfl) z5h))) ?_)
 obtain ⟨x37, i38, h39⟩ := z03 h36
 refine W.lo (gk rfl rfl gv35 rfl) rfl (Lo.cP rfl (fn := Tryz.f43) (by kernel_rfl) rfl (mc rfl (mc rfl (mc rfl mn))) O27 (fun L' O' => z2g K p0.Shift (-1000) 1000 O' _ i38)) ?_
 rintro v46 H47 ⟨G40, O41, s42, sm45, rfl⟩
 refine W.q4 (.bool x37) gv35 rfl (W.q2 (.bool x37) rfl (W.splitAt (t := 16) (b := x37) rfl (fun g48 gv49 => ?_) (fun g48 gv49 => ?_)))
 rotate_left
 .have h92 := z11 g48 h39
  refine W.q6 rfl gv49 (W.q6 rfl gv49 (W.q6 rfl gv49 (W.q5 (.bool false) gv49 rfl (W.q2 (.bool false) rfl (W.q6 rfl rfl (W.q6 rfl rfl ?_))))))
  refine W.q6 rfl rfl (W.q6 rfl rfl (W.q6 rfl rfl (W.q5 (.bool false) rfl rfl (W.q2 (.bool false) rfl (W.q6 rfl rfl (W.q6 rfl rfl ?_))))))
  refine W.q6 rfl rfl (W.q5 (.bool false) rfl rfl (.nil ?_))
  obtain rfl := zAa h92
  exact ⟨false, _, rfl, O41, (zAe s14 (zAe s28 s42)), rfl⟩
 have h50 := z01 g48 h39
 refine W.pure (v := (padd (.pointer (some ⟨b2, 0, none⟩)) 6)) (gk rfl rfl gv49 rfl) rfl (z04 zd5 (oo rfl rfl) (O41.atVar (j := 0) rfl)) (W.load1 (v := (.int .i64 p0.Limit)) (r := []) (gk rfl rfl gv49 rfl) rfl ag3 (z0g rfl (At.int (At.proj (O41.atVar (j := 0) rfl) z3j))) ?_)
 obtain ⟨x51, i52, h53⟩ := z03 h50
 refine W.lo (gk rfl rfl gv49 rfl) rfl (Lo.cP rfl (fn := Tryz.f43) (by kernel_rfl) rfl (mc rfl (mc rfl (mc rfl mn))) O41 (fun L' O' => z2g K p0.Limit 0 100000 O' _ i52)) ?_
 rintro v60 H61 ⟨G54, O55, s56, sm59, rfl⟩
 refine W.q4 (.bool x51) gv49 rfl (W.q2 (.bool x51) rfl (W.splitAt (t := 21) (b := x51) rfl (fun g62 gv63 => ?_) (fun g62 gv63 => ?_)))
 rotate_left
 .have h91 := z11 g62 h53
  refine W.q6 rfl gv63 (W.q6 rfl gv63 (W.q6 rfl gv63 (W.q6 rfl gv63 (W.q6 rfl gv63 (W.q5 (.bool false) gv63 rfl (W.q2 (.bool false) rfl ?_))))))
  refine W.q6 rfl rfl (W.q6 rfl rfl (W.q6 rfl rfl (W.q5 (.bool false) rfl rfl (.nil ?_))))
  obtain rfl := zAa h91
  exact ⟨false, _, rfl, O55, (zAe s14 (zAe s28 (zAe s42 s56))), rfl⟩
 have h64 := z01 g62 h53
 refine W.pure (v := (padd (.pointer (some ⟨b2, 0, none⟩)) 7)) (gk rfl rfl gv63 rfl) rfl (z04 zfm (oo rfl rfl) (O55.atVar (j := 0) rfl)) (W.load1 (v := (.int .i64 p0.Short)) (r := []) (gk rfl rfl gv63 rfl) rfl ag3 (z0g rfl (At.int (At.proj (O55.atVar (j := 0) rfl) z5i))) (W.pure (v := (padd (.pointer (some ⟨b2, 0, none⟩)) 6)) (gk rfl rfl gv63 rfl) rfl (z04 zd5 (oo rfl rfl) (O55.atVar (j := 0) rfl)) (W.load1 (v := (.int .i64 p0.Limit)) (r := []) (gk rfl rfl gv63 rfl) rfl ag3 (z0g rfl (At.int (At.proj (O55.atVar (j := 0) rfl) z3j))) ?_)))
 obtain ⟨x65, i66, h67⟩ := z03 h64
 refine W.lo (gk rfl rfl gv63 rfl) rfl (Lo.cP rfl (fn := Tryz.f43) (by kernel_rfl) rfl (mc rfl (mc rfl (mc rfl mn))) O55 (fun L' O' => z2g K p0.Short p0.Limit 100000 O' _ i66)) ?_
 rintro v74 H75 ⟨G68, O69, s70, sm73, rfl⟩
 refine W.q4 (.bool x65) gv63 rfl (W.q2 (.bool x65) rfl (W.splitAt (t := 28) (b := x65) rfl (fun g76 gv77 => ?_) (fun g76 gv77 => ?_)))
 rotate_left
 .have h90 := z11 g76 h67
  refine W.q6 rfl gv77 (W.q6 rfl gv77 (W.q6 rfl gv77 (W.q5 (.bool false) gv77 rfl (.nil ?_))))
  obtain rfl := zAa h90
  exact ⟨false, _, rfl, O69, (zAe s14 (zAe s28 (zAe s42 (zAe s56 s70)))), rfl⟩
 have h78 := z01 g76 h67
 refine W.pure (v := (padd (.pointer (some ⟨b2, 0, none⟩)) 8)) (gk rfl rfl gv77 rfl) rfl (z04 zfn (oo rfl rfl) (O69.atVar (j := 0) rfl)) (W.load1 (v := (.int .i64 p0.Hold)) (r := []) (gk rfl rfl gv77 rfl) rfl ag3 (z0g rfl (At.int (At.proj (O69.atVar (j := 0) rfl) z62))) ?_)
 obtain ⟨x79, i80, h81⟩ := z03 h78
 refine W.lo (gk rfl rfl gv77 rfl) rfl (Lo.cP rfl (fn := Tryz.f43) (by kernel_rfl) rfl (mc rfl (mc rfl (mc rfl mn))) O69 (fun L' O' => z2g K p0.Hold 0 200000 O' _ i80)) ?_
 rintro v88 H89 ⟨G82, O83, s84, sm87, rfl⟩
 refine W.q4 (.bool x79) gv77 rfl (.nil ?_)
 obtain rfl := zAa h81
 exact ⟨x79, _, rfl, O83, (zAe s14 (zAe s28 (zAe s42 (zAe s56 (zAe s70 s84))))), rfl⟩
structure Item where
  name : zAd
  nodes : List zAd
  apart : Bool
  bad : Bool
  deriving DecidableEq, Inhabited
def T_Item : RT Item := rIso (rP rS (rP (rSl rS) (rP rB rB))) (fun s : Item => (s.name, s.nodes, s.apart, s.bad))
theorem zeg (G : GM) : T_Item.rep G ([.string ByteArray.empty] ++ ([.slice none 0 0] ++ ([.bool false] ++ [.bool false]))) ((Item.mk ByteArray.empty ([] : List zAd) false false)) := ⟨_, _, rfl, zS G, ⟨_, _, rfl, zL G, ⟨_, _, rfl, zB G, (zB G)⟩⟩⟩
theorem za9 : Proj T_Item 0 rS (fun x => x.name) := by
  have h := (Proj.iso (rP rS (rP (rSl rS) (rP rB rB))) (fun s : Item => (s.name, s.nodes, s.apart, s.bad))).comp (Proj.fst _ _)
  exact h
theorem zaa : Put T_Item 0 rS (fun x y => { x with name := y }) := by
  have h := Put.comp (Proj.iso (rP rS (rP (rSl rS) (rP rB rB))) (fun s : Item => (s.name, s.nodes, s.apart, s.bad))) (Put.iso (rP rS (rP (rSl rS) (rP rB rB))) (fun s : Item => (s.name, s.nodes, s.apart, s.bad)) (fun _ q => ⟨q.1, q.2.1, q.2.2.1, q.2.2.2⟩) (fun _ _ => rfl)) (Put.fst _ _)
  exact h
theorem z55 : Proj T_Item 1 (rSl rS) (fun x => x.nodes) := by
  have h := (Proj.iso (rP rS (rP (rSl rS) (rP rB rB))) (fun s : Item => (s.name, s.nodes, s.apart, s.bad))).comp ((Proj.snd _ _).comp (Proj.fst _ _))
  exact h
theorem z95 : Put T_Item 1 (rSl rS) (fun x y => { x with nodes := y }) := by
  have h := Put.comp (Proj.iso (rP rS (rP (rSl rS) (rP rB rB))) (fun s : Item => (s.name, s.nodes, s.apart, s.bad))) (Put.iso (rP rS (rP (rSl rS) (rP rB rB))) (fun s : Item => (s.name, s.nodes, s.apart, s.bad)) (fun _ q => ⟨q.1, q.2.1, q.2.2.1, q.2.2.2⟩) (fun _ _ => rfl)) (Put.comp (Proj.snd _ _) (Put.snd _ _) (Put.fst _ _))
  exact h
theorem z96 : Proj T_Item 2 rB (fun x => x.apart) := by
  have h := (Proj.iso (rP rS (rP (rSl rS) (rP rB rB))) (fun s : Item => (s.name, s.nodes, s.apart, s.bad))).comp ((Proj.snd _ _).comp ((Proj.snd _ _).comp (Proj.fst _ _)))
  exact h
theorem z97 : Put T_Item 2 rB (fun x y => { x with apart := y }) := by
  have h := Put.comp (Proj.iso (rP rS (rP (rSl rS) (rP rB rB))) (fun s : Item => (s.name, s.nodes, s.apart, s.bad))) (Put.iso (rP rS (rP (rSl rS) (rP rB rB))) (fun s : Item => (s.name, s.nodes, s.apart, s.bad)) (fun _ q => ⟨q.1, q.2.1, q.2.2.1, q.2.2.2⟩) (fun _ _ => rfl)) (Put.comp (Proj.snd _ _) (Put.snd _ _) (Put.comp (Proj.snd _ _) (Put.snd _ _) (Put.fst _ _)))
  exact h
theorem zbp : Proj T_Item 3 rB (fun x => x.bad) := by
  have h := (Proj.iso (rP rS (rP (rSl rS) (rP rB rB))) (fun s : Item => (s.name, s.nodes, s.apart, s.bad))).comp ((Proj.snd _ _).comp ((Proj.snd _ _).comp ((Proj.snd _ _).comp (Proj.self _))))
  exact h
theorem zbq : Put T_Item 3 rB (fun x y => { x with bad := y }) := by
  have h := Put.comp (Proj.iso (rP rS (rP (rSl rS) (rP rB rB))) (fun s : Item => (s.name, s.nodes, s.apart, s.bad))) (Put.iso (rP rS (rP (rSl rS) (rP rB rB))) (fun s : Item => (s.name, s.nodes, s.apart, s.bad)) (fun _ q => ⟨q.1, q.2.1, q.2.2.1, q.2.2.2⟩) (fun _ _ => rfl)) (Put.comp (Proj.snd _ _) (Put.snd _ _) (Put.comp (Proj.snd _ _) (Put.snd _ _) (Put.comp (Proj.snd _ _) (Put.snd _ _) (Put.self _))))
  exact h
theorem z1i {G : GM} (v0 : Value) {x0 : zAd} (v1 : Value) {x1 : List zAd} (v2 : Value) {x2 : Bool} (v3 : Value) {x3 : Bool} (h0 : rS.rep G v0.cells.toList x0) (h1 : (rSl rS).rep G v1.cells.toList x1) (h2 : rB.rep G v2.cells.toList x2) (h3 : rB.rep G v3.cells.toList x3) : ∃ cs : List Value, (∀ {s : List Value} {d : Tmp} {ty : TypeId} {pos : String} {af : Array Edge} {g : Option (Nat × Bool)} {ps : Array (Nat × Operand)}, zaf s ps.toList = some [(0, v0), (1, v1), (2, v2), (3, v3)] -> z2c Tryz.prog s ⟨some d, .build 63 ps, ty, pos, af, g⟩ = some (.agg (List.toArray cs))) /\ T_Item.rep G cs (Item.mk x0 x1 x2 x3) := by
  have k0 := (zaa G _ _ _ _ (zeg G) h0).1
  have k1 := (z95 G _ _ _ _ (k0) h1).1
  have k2 := (z97 G _ _ _ _ (k1) h2).1
  have k3 := (zbq G _ _ _ _ (k2) h3).1
  refine ⟨_, fun {s d ty pos af g ps} hps => zdy pl63 ze63 zo63 hps ?_, k3⟩
  refine (z5f (off := 0) (sz := 1) (cs := _) rfl (RT.len _ h0) (Nat.le_trans (Nat.le_of_ble_eq_true (m := 4) rfl) (Nat.le_of_eq (RT.len _ (zeg G)).symm))).trans ?_
  refine (z5f (off := 1) (sz := 1) (cs := _) rfl (RT.len _ h1) (Nat.le_trans (Nat.le_of_ble_eq_true (m := 4) rfl) (Nat.le_of_eq (RT.len _ (k0)).symm))).trans ?_
  refine (z5f (off := 2) (sz := 1) (cs := _) rfl (RT.len _ h2) (Nat.le_trans (Nat.le_of_ble_eq_true (m := 4) rfl) (Nat.le_of_eq (RT.len _ (k1)).symm))).trans ?_
  refine (z5f (off := 3) (sz := 1) (cs := _) rfl (RT.len _ h3) (Nat.le_trans (Nat.le_of_ble_eq_true (m := 4) rfl) (Nat.le_of_eq (RT.len _ (k2)).symm))).trans ?_
  rfl
def z1t (K : Nat) (p0 : Network) : Nat -> List Item -> Int -> Option (List Item)
  | 0, _, _ => none
  | k + 1, x14, x15 => (if (decide (x15 < (List.length p0.Switches : Int))) = true then ((idx p0.Switches x15).bind fun x26 => (if List.length x14 + List.length [(Item.mk x26.Name [x26.A, x26.B] true false)] <= 16777216 then z1t K p0 k (x14 ++ [(Item.mk x26.Name [x26.A, x26.B] true false)]) (z0n .i64 (x15 + 1)) else none)) else some x14)
def z1u (K : Nat) (p0 : Network) : Nat -> List Item -> Int -> Option (List Item)
  | 0, _, _ => none
  | k + 1, x87, x88 => (if (decide (x88 < (List.length p0.Branches : Int))) = true then ((idx p0.Branches x88).bind fun x99 => ((z2l K x99).bind fun x129 => (if List.length x87 + List.length [(Item.mk x99.Name [x99.From, x99.To] true (x129 != 0))] <= 16777216 then z1u K p0 k (x87 ++ [(Item.mk x99.Name [x99.From, x99.To] true (x129 != 0))]) (z0n .i64 (x88 + 1)) else none))) else some x87)
def z1v (K : Nat) (p0 : Network) : Nat -> List Item -> Int -> Option (List Item)
  | 0, _, _ => none
  | k + 1, x183, x184 => (if (decide (x184 < (List.length p0.Gens : Int))) = true then (Option.bind (((idx p0.Gens x184).bind fun x198 => ((z4o K x198.Least 0 100000).bind fun x225 => (if (!x225) = true then (if List.length x183 + List.length [(Item.mk x198.Name [x198.Node] false true)] <= 16777216 then some (x183 ++ [(Item.mk x198.Name [x198.Node] false true)]) else none) else ((z4o K x198.Most x198.Least 100000).bind fun x266 => (if (!x266) = true then (if List.length x183 + List.length [(Item.mk x198.Name [x198.Node] false true)] <= 16777216 then some (x183 ++ [(Item.mk x198.Name [x198.Node] false true)]) else none) else ((z4o K x198.Ramp 0 100000).bind fun x307 => (if List.length x183 + List.length [(Item.mk x198.Name [x198.Node] false (!x307))] <= 16777216 then some (x183 ++ [(Item.mk x198.Name [x198.Node] false (!x307))]) else none)))))))) (tu1 fun x344 => z1v K p0 k x344 (z0n .i64 (x184 + 1)))) else some x183)
def z1w (K : Nat) (p0 : Network) : Nat -> List Item -> Int -> Option (List Item)
  | 0, _, _ => none
  | k + 1, x370, x371 => (if (decide (x371 < (List.length p0.Loads : Int))) = true then ((idx p0.Loads x371).bind fun x382 => ((z4o K x382.Demand 0 100000).bind fun x409 => (if List.length x370 + List.length [(Item.mk x382.Name [x382.Node] false (!x409))] <= 16777216 then z1w K p0 k (x370 ++ [(Item.mk x382.Name [x382.Node] false (!x409))]) (z0n .i64 (x371 + 1)) else none))) else some x370)
def z1x (K : Nat) (p0 : Network) : Nat -> List Item -> Int -> Option (List Item)
  | 0, _, _ => none
  | k + 1, x463, x464 => (if (decide (x464 < (List.length p0.Stores : Int))) = true then (Option.bind (((idx p0.Stores x464).bind fun x478 => ((z4o K x478.Charge 0 100000).bind fun x505 => (if (!x505) = true then (if List.length x463 + List.length [(Item.mk x478.Name [x478.Node] false true)] <= 16777216 then some (x463 ++ [(Item.mk x478.Name [x478.Node] false true)]) else none) else ((z4o K x478.Discharge 0 100000).bind fun x546 => (if (!x546) = true then (if List.length x463 + List.length [(Item.mk x478.Name [x478.Node] false true)] <= 16777216 then some (x463 ++ [(Item.mk x478.Name [x478.Node] false true)]) else none) else ((z4o K x478.Capacity 0 100000).bind fun x587 => (if List.length x463 + List.length [(Item.mk x478.Name [x478.Node] false (!x587))] <= 16777216 then some (x463 ++ [(Item.mk x478.Name [x478.Node] false (!x587))]) else none)))))))) (tu1 fun x624 => z1x K p0 k x624 (z0n .i64 (x464 + 1)))) else some x463)
def z5n (K : Nat) (p0 : Network) : Option (List Item) := (Option.bind (z1t K p0 K [] 0) (tu1 fun x71 => (Option.bind (z1u K p0 K x71 0) (tu1 fun x167 => (Option.bind (z1v K p0 K x167 0) (tu1 fun x354 => (Option.bind (z1w K p0 K x354 0) (tu1 fun x447 => (Option.bind (z1x K p0 K x447 0) (tu1 fun x634 => some x634))))))))))
theorem z98 (v0 : List Value) (p0 : Network) (hp0 : T_Network.rep G v0 p0) (O : Ow G H (L)) (r : List Item) (h : z5n K p0 = some r) :
    CRF Tryz.prog 19 [.agg (List.toArray v0)] G H (fun w0 => (eSl w0 63 T_Item r :: L)) (fun w0 v G' => w0 = v) := by
 unfold z5n at h
 refine CRF.og (n := 145) (fn := Tryz.f19) (by kernel_rfl) rfl rfl fun R kr => (.seq (.region (W.lo rfl rfl (Lo.box (r := T_Network) (x0 := p0) (v := (.agg (List.toArray v0))) rfl rfl hp0 O) ?_)))
 rintro v4 H5 ⟨b2, rfl, O1, sm3⟩
 refine W.q1 (.slice none 0 0) rfl (.nil (.seq (.region (W.q1 (.slice none 0 0) rfl (.nil (.seq ?_))))))
 refine .seq (.region (W.pure (v := (padd (.pointer (some ⟨b2, 0, none⟩)) 1)) rfl rfl (z04 zcw (oo rfl rfl) (O1.atVar (j := 0) rfl)) ?_))
 obtain ⟨w6, p7, f8⟩ := At.sl (At.proj (O1.atVar (j := 0) rfl) z2d)
 refine W.load1 (v := w6) (r := []) rfl rfl ag23 (z0g rfl p7) (W.pure (v := (.int .i64 (List.length p0.Switches : Int))) rfl rfl (z1g (oo rfl rfl) (z0f f8) (z02 el23)) (W.q2 (.int .i64 0) rfl (.nil ?_)))
 obtain ⟨q9, h10, h11⟩ := z03 h
 refine AW.midT (fun σ' H' => ∃ (y1 : List Item) (G' : GM), y1 = q9 /\ Ow G' H' (eVar b2 29 T_Network p0 :: eSl (σ' 3) 63 T_Item y1 :: L) /\ GM.le G G') ?_ ?_
 .refine .block ?_
  have O12 := O1.nilSl 63 T_Item
  refine AW.loop (α := Nat) (fun k' σ' H' => ∃ (y1 : List Item) (y2 : Int) (G' : GM), z1t K p0 k' y1 y2 = some q9 /\ Ow G' H' (eSl (σ' 3) 63 T_Item y1 :: eVar b2 29 T_Network p0 :: L) /\ GM.le G G' /\ σ' 17 = .int .i64 y2) (fun k' => k') K ⟨[], 0, _, h10, O12, (zAf _), rfl⟩ ?_
  rintro k13
  rintro σ16 H17 fr18 ⟨x14, x15, G19, h22, O20, s21, t23⟩
  rcases k13 with _ | k13
  .exact z06 h22
  rw [z1t] at h22
  refine .seq (.region (W.q3 (.bool (decide (x15 < (List.length p0.Switches : Int)))) t23 ((fr18 16 rfl).trans rfl) (.nil (.seq (.cond (b := decide (x15 < (List.length p0.Switches : Int))) rfl rfl (fun g24 => ?_) (fun g24 => ?_))))))
  rotate_left
  .have h68 := z11 g24 h22
   refine .exit ?_
   have O69 : Ow G19 H17 (eSl (σ16 3) 63 T_Item x14 :: eVar b2 29 T_Network p0 :: L) := O20.front (j := 0) rfl
   have O70 : Ow G19 H17 (eVar b2 29 T_Network p0 :: eSl (σ16 3) 63 T_Item x14 :: L) := O69.front (j := 1) rfl
   obtain rfl := zAa h68
   exact ⟨x14, _, rfl, O70, s21⟩
  have h25 := z01 g24 h22
  refine .skip (.seq (.block (.seq (.region ?_))))
  obtain ⟨x26, i27, h28⟩ := z03 h25
  have j29 := z0v i27
  refine W.pure (v := (z2z w6 (Int.toNat x15 * 5))) rfl rfl (z3i el23 sz67 (oo rfl ((fr18 15 rfl).trans rfl)) (oo rfl t23) (z0f (RT.mono _ s21 f8)) j29.1 j29.2.1) ?_
  obtain ⟨c30, p31, f32⟩ := (At.le (At.le (z1q f8 j29.2.2) s21 s21) (zAf _) O20.fro)
  refine W.loadA (cs := c30) rfl rfl ag67 sz67 (z0g rfl p31) (RT.len _ f32) (W.lo rfl rfl (Lo.alloc (r := T_Switch) (x0 := (Switch.mk ByteArray.empty ByteArray.empty ByteArray.empty false false)) ze67 (by kernel_rfl) zbn O20) ?_)
  rintro v36 H37 ⟨b34, rfl, O33, sm35⟩
  refine W.lo rfl rfl (Lo.storeVar (j := 0) (s := T_Switch) (y0 := x26) (v := (.agg (List.toArray c30))) (o := 0) rfl ((Put.at (Put.self _) _ _)) rfl sz67 rfl (by omega) rfl f32 O33) ?_
  rintro v40 H41 ⟨O38, sm39⟩
  refine .nil (.region (W.q2 (σ16 3) rfl (W.pure (v := (padd (.pointer (some ⟨b34, 0, none⟩)) 0)) rfl rfl (z04 zfo (oo rfl rfl) (O38.atVar (j := 0) rfl)) (W.load1 (v := (.string x26.Name)) (r := []) rfl rfl ag9 (z0g rfl (At.str (At.proj (O38.atVar (j := 0) rfl) z60))) (W.pure (v := (padd (.pointer (some ⟨b34, 0, none⟩)) 1)) rfl rfl (z04 ze6 (oo rfl rfl) (O38.atVar (j := 0) rfl)) (W.load1 (v := (.string x26.A)) (r := []) rfl rfl ag9 (z0g rfl (At.str (At.proj (O38.atVar (j := 0) rfl) z6p))) ?_))))))
  refine W.pure (v := (padd (.pointer (some ⟨b34, 0, none⟩)) 2)) rfl rfl (z04 ze7 (oo rfl rfl) (O38.atVar (j := 0) rfl)) (W.load1 (v := (.string x26.B)) (r := []) rfl rfl ag9 (z0g rfl (At.str (At.proj (O38.atVar (j := 0) rfl) z6q))) (W.lo rfl rfl (Lo.buildSlice (r := rS) (vs := [(.string x26.A), (.string x26.B)]) (xs := [x26.A, x26.B]) el22 ze9 sz9 (by kernel_rfl) rfl (qc rfl (qc rfl qn)) rfl (.cons rfl (.cons rfl .nil)) O38) ?_))
  rintro v44 H45 ⟨O42, sm43⟩
  obtain ⟨G46, O47, s48, f49⟩ := O42.frzSl (j := 0) rfl
  obtain ⟨c50, e52, f51⟩ := z1i ((.string x26.Name)) (v44) ((.bool true)) ((.bool false)) (rfl) ((z44 f49)) (rfl) (rfl)
  refine W.pure (v := .agg (List.toArray c50)) rfl rfl (e52 (z3q rfl (qc' rfl (qc' rfl (qc' rfl (qc' rfl qn')))))) (W.lo rfl rfl (Lo.buildSlice (r := T_Item) (vs := [(.agg (List.toArray c50))]) (xs := [(Item.mk x26.Name [x26.A, x26.B] true false)]) el60 ze63 sz63 (by kernel_rfl) rfl (qc rfl qn) rfl (.cons f51 .nil) O47) ?_)
  rintro v55 H56 ⟨O53, sm54⟩
  obtain ⟨es58, e59, e60⟩ := z4b (j := 0) rfl O53
  obtain ⟨g61, h62⟩ := z5s h28
  refine W.lo rfl rfl (Lo.append (j := 2) (v := (σ16 3)) rfl rfl el60 ni60 ze63 sz63 by63 (by decide) (by decide) rfl e59 e60 g61 O53) ?_
  rintro v64 H65 ⟨O57, sm63⟩
  refine W.q1 v64 rfl (.nil (.region (W.q3 (.int .i64 (z0n .i64 (x15 + 1))) t23 rfl (W.q2 (.int .i64 (z0n .i64 (x15 + 1))) rfl (.nil ?_)))))
  have O66 : Ow G46 H65 (eVar b34 67 T_Switch x26 :: eSl v64 63 T_Item (x14 ++ [(Item.mk x26.Name [x26.A, x26.B] true false)]) :: eVar b2 29 T_Network p0 :: L) := O57.drop 0
  have O67 : Ow G46 H65 (eSl v64 63 T_Item (x14 ++ [(Item.mk x26.Name [x26.A, x26.B] true false)]) :: eVar b2 29 T_Network p0 :: L) := O66.drop 0
  exact ⟨k13, zAg _, ⟨(x14 ++ [(Item.mk x26.Name [x26.A, x26.B] true false)]), z0n .i64 (x15 + 1), _, h62, O67, (zAe s21 s48), rfl⟩⟩
 rintro σ72 H73 fr74 ⟨x71, G75, rfl, O76, s77⟩
 have h79 := z08 h11
 refine .seq (.seq (.region (W.pure (v := (padd (.pointer (some ⟨b2, 0, none⟩)) 2)) rfl rfl (z04 zcx (oo rfl ((fr74 1 rfl).trans rfl)) (O76.atVar (j := 0) rfl)) ?_)))
 obtain ⟨w80, p81, f82⟩ := At.sl (At.proj (O76.atVar (j := 0) rfl) z2e)
 refine W.load1 (v := w80) (r := []) rfl rfl ag24 (z0g rfl p81) (W.pure (v := (.int .i64 (List.length p0.Branches : Int))) rfl rfl (z1g (oo rfl rfl) (z0f f82) (z02 el24)) (W.q2 (.int .i64 0) rfl (.nil ?_)))
 obtain ⟨q83, h84, h85⟩ := z03 h79
 refine AW.midT (fun σ' H' => ∃ (y1 : List Item) (G' : GM), y1 = q83 /\ Ow G' H' (eVar b2 29 T_Network p0 :: eSl (σ' 3) 63 T_Item y1 :: L) /\ GM.le G75 G') ?_ ?_
 .refine .block (AW.loop (α := Nat) (fun k' σ' H' => ∃ (y1 : List Item) (y2 : Int) (G' : GM), z1u K p0 k' y1 y2 = some q83 /\ Ow G' H' (eVar b2 29 T_Network p0 :: eSl (σ' 3) 63 T_Item y1 :: L) /\ GM.le G75 G' /\ σ' 36 = .int .i64 y2) (fun k' => k') K ⟨x71, 0, _, h84, O76, (zAf _), rfl⟩ ?_)
  rintro k86
  rintro σ89 H90 fr91 ⟨x87, x88, G92, h95, O93, s94, t96⟩
  rcases k86 with _ | k86
  .exact z06 h95
  rw [z1u] at h95
  refine .seq (.region (W.q3 (.bool (decide (x88 < (List.length p0.Branches : Int)))) t96 ((fr91 35 rfl).trans rfl) (.nil (.seq (.cond (b := decide (x88 < (List.length p0.Branches : Int))) rfl rfl (fun g97 => ?_) (fun g97 => ?_))))))
  rotate_left
  .have h166 := z11 g97 h95
   refine .exit ?_
   obtain rfl := zAa h166
   exact ⟨x87, _, rfl, O93, s94⟩
  have h98 := z01 g97 h95
  refine .skip (.seq (.block (.seq (.region ?_))))
  obtain ⟨x99, i100, h101⟩ := z03 h98
  have j102 := z0v i100
  refine W.pure (v := (z2z w80 (Int.toNat x88 * 9))) rfl rfl (z3i el24 sz65 (oo rfl ((fr91 34 rfl).trans rfl)) (oo rfl t96) (z0f (RT.mono _ s94 f82)) j102.1 j102.2.1) ?_
  obtain ⟨c103, p104, f105⟩ := (At.le (At.le (z1q f82 j102.2.2) s94 s94) (zAf _) O93.fro)
  refine W.loadA (cs := c103) rfl rfl ag65 sz65 (z0g rfl p104) (RT.len _ f105) (W.lo rfl rfl (Lo.alloc (r := T_Branch) (x0 := (Branch.mk ByteArray.empty ByteArray.empty ByteArray.empty 0 0 0 0 0 0)) ze65 (by kernel_rfl) zbo O93) ?_)
  rintro v109 H110 ⟨b107, rfl, O106, sm108⟩
  refine W.lo rfl rfl (Lo.storeVar (j := 0) (s := T_Branch) (y0 := x99) (v := (.agg (List.toArray c103))) (o := 0) rfl ((Put.at (Put.self _) _ _)) rfl sz65 rfl (by omega) rfl f105 O106) ?_
  rintro v113 H114 ⟨O111, sm112⟩
  refine .nil (.draw2 (M := [0, 0, 2, 0, 8, 0, 32, 120, 0, 256, 768, 2046, 4094, 8191, 16383]) mixed (by kernel_rfl) (by kernel_rfl) fun H115 N119 x116 F118 => ?_)
  have O117 := O111.ext x116
  refine D2.q2 (σ89 3) rfl (D2.pure (v := (padd (.pointer (some ⟨b107, 0, none⟩)) 0)) rfl rfl (z04 zfi (oo rfl rfl) (O117.atVar (j := 0) rfl)) (D2.load1' (v := (.string x99.Name)) (r := []) rfl rfl ag9 (z0g rfl (At.str (At.proj (O117.atVar (j := 0) rfl) z61))) z0a (D2.pure (v := (padd (.pointer (some ⟨b107, 0, none⟩)) 1)) rfl rfl (z04 ze4 (oo rfl rfl) (O117.atVar (j := 0) rfl)) (D2.load1' (v := (.string x99.From)) (r := []) rfl rfl ag9 (z0g rfl (At.str (At.proj (O117.atVar (j := 0) rfl) z4l))) z0a (D2.pure (v := (padd (.pointer (some ⟨b107, 0, none⟩)) 2)) rfl rfl (z04 ze5 (oo rfl rfl) (O117.atVar (j := 0) rfl)) (D2.load1' (v := (.string x99.To)) (r := []) rfl rfl ag9 (z0g rfl (At.str (At.proj (O117.atVar (j := 0) rfl) z5u))) z0a ?_))))))
  refine D2.alloc (m := 15) rfl rfl (Al.buildSlice (r := rS) (vs := [(.string x99.From), (.string x99.To)]) (xs := [x99.From, x99.To]) el22 ze9 sz9 (by kernel_rfl) rfl (qc rfl (qc rfl qn)) rfl (.cons rfl (.cons rfl .nil))) (Free.up (by decide) F118) (by decide) O117 ?_
  rintro b121 H122 ⟨O123, sm124, F125⟩
  obtain ⟨c126, p127, f128⟩ := (O123.atVar (j := 1) rfl)
  refine D2.loadA' (cs := c126) rfl rfl ag65 sz65 (z0g rfl p127) (RT.len _ f128) z0a ?_
  obtain ⟨x129, i130, h131⟩ := z03 h101
  refine D2.loN rfl rfl (Lo.cP rfl (fn := Tryz.f42) (by kernel_rfl) rfl (mc rfl mn) O123 (fun L' O' => z5x K c126 x99 f128 O' _ i130)) ?_ z0a ?_ ?_
  .rintro v138 H139 ⟨G132, O133, s134, sm137, rfl⟩; exact (faR1 (.inl (by decide)) (faR1 (.inr (sm137 _ (Or.inr ⟨1, _, rfl, List.mem_singleton.2 rfl⟩))) (faR1 (.inr (sm137 _ (Or.inr ⟨1, _, rfl, List.mem_singleton.2 rfl⟩))) (faR1 (.inr (sm137 _ (Or.inr ⟨1, _, rfl, List.mem_singleton.2 rfl⟩))) z0a))))
  .rintro v138 H139 ⟨G132, O133, s134, sm137, rfl⟩; exact (faR1 (.inr (sm137 _ (Or.inr ⟨0, _, rfl, List.mem_singleton.2 rfl⟩))) z0a)
  rintro v138 H139 ⟨G132, O133, s134, sm137, rfl⟩ nx140
  have F141 := Free.nx F125 nx140
  refine D2.q3 (.bool (x129 != 0)) rfl rfl ?_
  obtain ⟨G142, O143, s144, f145⟩ := O133.frzSl (j := 0) rfl
  obtain ⟨c146, e148, f147⟩ := z1i ((.string x99.Name)) ((.slice (some ⟨b121, 0, some 0⟩) 2 2)) ((.bool true)) ((.bool (x129 != 0))) (rfl) ((z44 f145)) (rfl) (rfl)
  refine D2.pure (v := .agg (List.toArray c146)) rfl rfl (e148 (z3q rfl (qc' rfl (qc' rfl (qc' rfl (qc' rfl qn')))))) (D2.alloc (m := 15) rfl rfl (Al.buildSlice (r := T_Item) (vs := [(.agg (List.toArray c146))]) (xs := [(Item.mk x99.Name [x99.From, x99.To] true (x129 != 0))]) el60 ze63 sz63 (by kernel_rfl) rfl (qc rfl qn) rfl (.cons f147 .nil)) (Free.up (by decide) F141) (by decide) O143 ?_)
  rintro b150 H151 ⟨O152, sm153, F154⟩
  obtain ⟨es156, e157, e158⟩ := z4b (j := 0) rfl O152
  obtain ⟨g159, h160⟩ := z5s h131
  refine D2.lo rfl rfl (Lo.append (j := 3) (v := (σ89 3)) rfl rfl el60 ni60 ze63 sz63 by63 (by decide) (by decide) rfl e157 e158 g159 O152) ?_ (z2r (by decide) z0a) ?_ ?_
  .rintro v162 H163 ⟨O155, sm161⟩; exact (faR1 (.inl (by decide)) (faR1 (.inl (by decide)) (faR1 (.inl (by decide)) (faR1 (.inl (by decide)) z0a))))
  .rintro v162 H163 ⟨O155, sm161⟩; exact (faR1 (.inl (by decide)) (faR1 (.inl (by decide)) z0a))
  rintro v162 H163 ⟨O155, sm161⟩
  refine D2.q1 v162 rfl (.nil (.region (W.q3 (.int .i64 (z0n .i64 (x88 + 1))) t96 rfl (W.q2 (.int .i64 (z0n .i64 (x88 + 1))) rfl (.nil ?_)))))
  have O164 : Ow G142 H163 (eVar b107 65 T_Branch x99 :: eVar b2 29 T_Network p0 :: eSl v162 63 T_Item (x87 ++ [(Item.mk x99.Name [x99.From, x99.To] true (x129 != 0))]) :: L) := O155.drop 0
  have O165 : Ow G142 H163 (eVar b2 29 T_Network p0 :: eSl v162 63 T_Item (x87 ++ [(Item.mk x99.Name [x99.From, x99.To] true (x129 != 0))]) :: L) := O164.drop 0
  exact ⟨k86, zAg _, ⟨(x87 ++ [(Item.mk x99.Name [x99.From, x99.To] true (x129 != 0))]), z0n .i64 (x88 + 1), _, h160, O165, (zAe s94 (zAe s134 s144)), rfl⟩⟩
 rintro σ168 H169 fr170 ⟨x167, G171, rfl, O172, s173⟩
 have h175 := z08 h85
 refine .seq (.seq (.region (W.pure (v := (padd (.pointer (some ⟨b2, 0, none⟩)) 3)) rfl rfl (z04 z7x (oo rfl ((fr170 1 rfl).trans ((fr74 1 rfl).trans rfl))) (O172.atVar (j := 0) rfl)) ?_)))
 obtain ⟨w176, p177, f178⟩ := At.sl (At.proj (O172.atVar (j := 0) rfl) z1l)
 refine W.load1 (v := w176) (r := []) rfl rfl ag25 (z0g rfl p177) (W.pure (v := (.int .i64 (List.length p0.Gens : Int))) rfl rfl (z1g (oo rfl rfl) (z0f f178) (z02 el25)) (W.q2 (.int .i64 0) rfl (.nil ?_)))
 obtain ⟨q179, h180, h181⟩ := z03 h175
 refine AW.midT (fun σ' H' => ∃ (y1 : List Item) (G' : GM), y1 = q179 /\ Ow G' H' (eVar b2 29 T_Network p0 :: eSl (σ' 3) 63 T_Item y1 :: L) /\ GM.le G171 G') ?_ ?_
 .refine .block (AW.loop (α := Nat) (fun k' σ' H' => ∃ (y1 : List Item) (y2 : Int) (G' : GM), z1v K p0 k' y1 y2 = some q179 /\ Ow G' H' (eVar b2 29 T_Network p0 :: eSl (σ' 3) 63 T_Item y1 :: L) /\ GM.le G171 G' /\ σ' 58 = .int .i64 y2) (fun k' => k') K ⟨x167, 0, _, h180, O172, (zAf _), rfl⟩ ?_)
  rintro k182
  rintro σ185 H186 fr187 ⟨x183, x184, G188, h191, O189, s190, t192⟩
  rcases k182 with _ | k182
  .exact z06 h191
  rw [z1v] at h191
  refine .seq (.region (W.q3 (.bool (decide (x184 < (List.length p0.Gens : Int)))) t192 ((fr187 57 rfl).trans rfl) (.nil (.seq (.cond (b := decide (x184 < (List.length p0.Gens : Int))) rfl rfl (fun g193 => ?_) (fun g193 => ?_))))))
  rotate_left
  .have h353 := z11 g193 h191
   refine .exit ?_
   obtain rfl := zAa h353
   exact ⟨x183, _, rfl, O189, s190⟩
  have h194 := z01 g193 h191
  refine .skip (.seq ?_)
  obtain ⟨q195, h196, h197⟩ := z03 h194
  refine AW.midT (fun σ' H' => ∃ (y1 : List Item) (G' : GM), y1 = q195 /\ Ow G' H' (eVar b2 29 T_Network p0 :: eSl (σ' 3) 63 T_Item y1 :: L) /\ GM.le G188 G') ?_ ?_
  rotate_left
  .rintro σ345 H346 fr347 ⟨x344, G348, rfl, O349, s350⟩
   have h352 := z08 h197
   refine .region (W.q3 (.int .i64 (z0n .i64 (x184 + 1))) ((fr347 58 rfl).trans t192) rfl (W.q2 (.int .i64 (z0n .i64 (x184 + 1))) rfl (.nil ?_)))
   exact ⟨k182, zAg _, ⟨x344, z0n .i64 (x184 + 1), _, h352, O349, (zAe s190 s350), rfl⟩⟩
  refine .block (.seq (.region ?_))
  obtain ⟨x198, i199, h200⟩ := z03 h196
  have j201 := z0v i199
  refine W.pure (v := (z2z w176 (Int.toNat x184 * 5))) rfl rfl (z3i el25 sz37 (oo rfl ((fr187 56 rfl).trans rfl)) (oo rfl t192) (z0f (RT.mono _ s190 f178)) j201.1 j201.2.1) ?_
  obtain ⟨c202, p203, f204⟩ := (At.le (At.le (z1q f178 j201.2.2) s190 s190) (zAf _) O189.fro)
  refine W.loadA (cs := c202) rfl rfl ag37 sz37 (z0g rfl p203) (RT.len _ f204) (W.lo rfl rfl (Lo.alloc (r := T_Gen) (x0 := (Gen.mk ByteArray.empty ByteArray.empty 0 0 0)) ze37 (by kernel_rfl) zft O189) ?_)
  rintro v208 H209 ⟨b206, rfl, O205, sm207⟩
  refine W.lo rfl rfl (Lo.storeVar (j := 0) (s := T_Gen) (y0 := x198) (v := (.agg (List.toArray c202))) (o := 0) rfl ((Put.at (Put.self _) _ _)) rfl sz37 rfl (by omega) rfl f204 O205) ?_
  rintro v212 H213 ⟨O210, sm211⟩
  refine .nil (.draw2 (M := [0, 0, 2, 0, 8, 24, 0, 64, 192, 448, 960, 1984, 4032, 1984, 10176, 32704, 65472, 131008, 262080, 524224, 1048512, 2097088, 4194240, 8388544, 16777214, 33554430, 67108863, 134217727]) mixed (by kernel_rfl) (by kernel_rfl) fun H214 N218 x215 F217 => ?_)
  have O216 := O210.ext x215
  refine D2.q2 (σ185 3) rfl (D2.pure (v := (padd (.pointer (some ⟨b206, 0, none⟩)) 0)) rfl rfl (z04 zfd (oo rfl rfl) (O216.atVar (j := 0) rfl)) (D2.load1' (v := (.string x198.Name)) (r := []) rfl rfl ag9 (z0g rfl (At.str (At.proj (O216.atVar (j := 0) rfl) z8k))) z0a (D2.pure (v := (padd (.pointer (some ⟨b206, 0, none⟩)) 1)) rfl rfl (z04 zcy (oo rfl rfl) (O216.atVar (j := 0) rfl)) (D2.load1' (v := (.string x198.Node)) (r := []) rfl rfl ag9 (z0g rfl (At.str (At.proj (O216.atVar (j := 0) rfl) z5j))) z0a (D2.alloc (m := 28) rfl rfl (Al.buildSlice (r := rS) (vs := [(.string x198.Node)]) (xs := [x198.Node]) el22 ze9 sz9 (by kernel_rfl) rfl (qc rfl qn) rfl (.cons rfl .nil)) (Free.up (by decide) F217) (by decide) O216 ?_)))))
  rintro b220 H221 ⟨O222, sm223, F224⟩
  refine D2.pure (v := (padd (.pointer (some ⟨b206, 0, none⟩)) 2)) rfl rfl (z04 za7 (oo rfl rfl) (O222.atVar (j := 1) rfl)) (D2.load1' (v := (.int .i64 x198.Least)) (r := []) rfl rfl ag3 (z0g rfl (At.int (At.proj (O222.atVar (j := 1) rfl) z3n))) z0a ?_)
  obtain ⟨x225, i226, h227⟩ := z03 h200
  refine D2.loN rfl rfl (Lo.cP rfl (fn := Tryz.f43) (by kernel_rfl) rfl (mc rfl (mc rfl (mc rfl mn))) O222 (fun L' O' => z2g K x198.Least 0 100000 O' _ i226)) ?_ z0a ?_ ?_
  .rintro v234 H235 ⟨G228, O229, s230, sm233, rfl⟩; exact (faR1 (.inl (by decide)) (faR1 (.inr (sm233 _ (Or.inr ⟨1, _, rfl, List.mem_singleton.2 rfl⟩))) (faR1 (.inr (sm233 _ (Or.inr ⟨1, _, rfl, List.mem_singleton.2 rfl⟩))) z0a)))
  .rintro v234 H235 ⟨G228, O229, s230, sm233, rfl⟩; exact (faR1 (.inr (sm233 _ (Or.inr ⟨0, _, rfl, List.mem_singleton.2 rfl⟩))) z0a)
  rintro v234 H235 ⟨G228, O229, s230, sm233, rfl⟩ nx236
  have F237 := Free.nx F224 nx236
  refine D2.pure (v := (.bool (!x225))) rfl rfl (z13 (a := x225) (oo rfl rfl)) (D2.q2 (.bool (!x225)) rfl (D2.splitAt (t := 72) (b := (!x225)) rfl (fun g238 gv239 => ?_) (fun g238 gv239 => ?_)))
  .have h240 := z01 g238 h227
   refine D2.skip (gk rfl rfl gv239 rfl) rfl (D2.skip (gk rfl rfl gv239 rfl) rfl (D2.skip (gk rfl rfl gv239 rfl) rfl (D2.skip (gk rfl rfl gv239 rfl) rfl (D2.skip (gk rfl rfl gv239 rfl) rfl (D2.skip (gk rfl rfl gv239 rfl) rfl (D2.pure (v := (.bool true)) rfl rfl (z3g (oo rfl gv239) (oo rfl rfl)) ?_))))))
   refine D2.q2 (.bool true) rfl (D2.skip (gk rfl rfl rfl rfl) rfl (D2.skip (gk rfl rfl rfl rfl) rfl (D2.skip (gk rfl rfl rfl rfl) rfl (D2.skip (gk rfl rfl rfl rfl) rfl (D2.pure (v := (.bool true)) rfl rfl (z3g (oo rfl rfl) (oo rfl rfl)) ?_)))))
   obtain ⟨G241, O242, s243, f244⟩ := O229.frzSl (j := 0) rfl
   obtain ⟨c245, e247, f246⟩ := z1i ((.string x198.Name)) ((.slice (some ⟨b220, 0, some 0⟩) 1 1)) ((.bool false)) ((.bool true)) (rfl) ((z44 f244)) (rfl) (rfl)
   refine D2.pure (v := .agg (List.toArray c245)) rfl rfl (e247 (z3q rfl (qc' rfl (qc' rfl (qc' rfl (qc' rfl qn')))))) (D2.alloc (m := 28) rfl rfl (Al.buildSlice (r := T_Item) (vs := [(.agg (List.toArray c245))]) (xs := [(Item.mk x198.Name [x198.Node] false true)]) el60 ze63 sz63 (by kernel_rfl) rfl (qc rfl qn) rfl (.cons f246 .nil)) (Free.up (by decide) F237) (by decide) O242 ?_)
   rintro b249 H250 ⟨O251, sm252, F253⟩
   obtain ⟨es255, e256, e257⟩ := z4b (j := 0) rfl O251
   obtain ⟨g258, h259⟩ := z5s h240
   refine D2.lo rfl rfl (Lo.append (j := 3) (v := (σ185 3)) rfl rfl el60 ni60 ze63 sz63 by63 (by decide) (by decide) rfl e256 e257 g258 O251) ?_ (z2r (by decide) z0a) ?_ ?_
   .rintro v261 H262 ⟨O254, sm260⟩; exact (faR1 (.inl (by decide)) (faR1 (.inl (by decide)) (faR1 (.inl (by decide)) z0a)))
   .rintro v261 H262 ⟨O254, sm260⟩; exact (faR1 (.inl (by decide)) (faR1 (.inl (by decide)) z0a))
   rintro v261 H262 ⟨O254, sm260⟩
   refine D2.q1 v261 rfl (.nil ?_)
   have O263 : Ow G241 H262 (eVar b206 37 T_Gen x198 :: eVar b2 29 T_Network p0 :: eSl v261 63 T_Item (x183 ++ [(Item.mk x198.Name [x198.Node] false true)]) :: L) := O254.drop 0
   have O264 : Ow G241 H262 (eVar b2 29 T_Network p0 :: eSl v261 63 T_Item (x183 ++ [(Item.mk x198.Name [x198.Node] false true)]) :: L) := O263.drop 0
   obtain rfl := zAa h259
   exact ⟨(x183 ++ [(Item.mk x198.Name [x198.Node] false true)]), _, rfl, O264, (zAe s230 s243)⟩
  have h265 := z11 g238 h227
  refine D2.pure (v := (padd (.pointer (some ⟨b206, 0, none⟩)) 3)) (gk rfl rfl gv239 rfl) rfl (z04 zcz (oo rfl rfl) (O229.atVar (j := 1) rfl)) (D2.load1' (v := (.int .i64 x198.Most)) (r := []) (gk rfl rfl gv239 rfl) rfl ag3 (z0g rfl (At.int (At.proj (O229.atVar (j := 1) rfl) z5k))) (z6m (by decide) z0a) (D2.pure (v := (padd (.pointer (some ⟨b206, 0, none⟩)) 2)) (gk rfl rfl gv239 rfl) rfl (z04 za7 (oo rfl rfl) (O229.atVar (j := 1) rfl)) (D2.load1' (v := (.int .i64 x198.Least)) (r := []) (gk rfl rfl gv239 rfl) rfl ag3 (z0g rfl (At.int (At.proj (O229.atVar (j := 1) rfl) z3n))) (z6m (by decide) z0a) ?_)))
  obtain ⟨x266, i267, h268⟩ := z03 h265
  refine D2.loN (gk rfl rfl gv239 rfl) rfl (Lo.cP rfl (fn := Tryz.f43) (by kernel_rfl) rfl (mc rfl (mc rfl (mc rfl mn))) O229 (fun L' O' => z2g K x198.Most x198.Least 100000 O' _ i267)) ?_ (z2r (by decide) z0a) ?_ ?_
  .rintro v275 H276 ⟨G269, O270, s271, sm274, rfl⟩; exact (faR1 (.inl (by decide)) (faR1 (.inl (by decide)) (faR1 (.inl (by decide)) (faR1 (.inr (sm274 _ (Or.inr ⟨1, _, rfl, List.mem_singleton.2 rfl⟩))) (faR1 (.inr (sm274 _ (Or.inr ⟨1, _, rfl, List.mem_singleton.2 rfl⟩))) z0a)))))
  .rintro v275 H276 ⟨G269, O270, s271, sm274, rfl⟩; exact (faR1 (.inr (sm274 _ (Or.inr ⟨0, _, rfl, List.mem_singleton.2 rfl⟩))) z0a)
  rintro v275 H276 ⟨G269, O270, s271, sm274, rfl⟩ nx277
  have F278 := Free.nx F237 nx277
  refine D2.pure (v := (.bool (!x266))) (gk rfl rfl gv239 rfl) rfl (z13 (a := x266) (oo rfl rfl)) (D2.pure (v := (.bool (!x266))) rfl rfl (z4a (oo rfl gv239) (oo rfl rfl)) (D2.q2 (.bool (!x266)) rfl (D2.splitAt (t := 80) (b := (!x266)) rfl (fun g279 gv280 => ?_) (fun g279 gv280 => ?_))))
  .have h281 := z01 g279 h268
   refine D2.skip (gk rfl rfl gv280 rfl) rfl (D2.skip (gk rfl rfl gv280 rfl) rfl (D2.skip (gk rfl rfl gv280 rfl) rfl (D2.skip (gk rfl rfl gv280 rfl) rfl (D2.pure (v := (.bool true)) rfl rfl (z3g (oo rfl gv280) (oo rfl rfl)) ?_))))
   obtain ⟨G282, O283, s284, f285⟩ := O270.frzSl (j := 0) rfl
   obtain ⟨c286, e288, f287⟩ := z1i ((.string x198.Name)) ((.slice (some ⟨b220, 0, some 0⟩) 1 1)) ((.bool false)) ((.bool true)) (rfl) ((z44 f285)) (rfl) (rfl)
   refine D2.pure (v := .agg (List.toArray c286)) rfl rfl (e288 (z3q rfl (qc' rfl (qc' rfl (qc' rfl (qc' rfl qn')))))) (D2.alloc (m := 28) rfl rfl (Al.buildSlice (r := T_Item) (vs := [(.agg (List.toArray c286))]) (xs := [(Item.mk x198.Name [x198.Node] false true)]) el60 ze63 sz63 (by kernel_rfl) rfl (qc rfl qn) rfl (.cons f287 .nil)) (Free.up (by decide) F278) (by decide) O283 ?_)
   rintro b290 H291 ⟨O292, sm293, F294⟩
   obtain ⟨es296, e297, e298⟩ := z4b (j := 0) rfl O292
   obtain ⟨g299, h300⟩ := z5s h281
   refine D2.lo rfl rfl (Lo.append (j := 3) (v := (σ185 3)) rfl rfl el60 ni60 ze63 sz63 by63 (by decide) (by decide) rfl e297 e298 g299 O292) ?_ (z2r (by decide) (z2r (by decide) z0a)) ?_ ?_
   .rintro v302 H303 ⟨O295, sm301⟩; exact (faR1 (.inl (by decide)) (faR1 (.inl (by decide)) (faR1 (.inl (by decide)) (faR1 (.inl (by decide)) (faR1 (.inl (by decide)) z0a)))))
   .rintro v302 H303 ⟨O295, sm301⟩; exact (faR1 (.inl (by decide)) (faR1 (.inl (by decide)) z0a))
   rintro v302 H303 ⟨O295, sm301⟩
   refine D2.q1 v302 rfl (.nil ?_)
   have O304 : Ow G282 H303 (eVar b206 37 T_Gen x198 :: eVar b2 29 T_Network p0 :: eSl v302 63 T_Item (x183 ++ [(Item.mk x198.Name [x198.Node] false true)]) :: L) := O295.drop 0
   have O305 : Ow G282 H303 (eVar b2 29 T_Network p0 :: eSl v302 63 T_Item (x183 ++ [(Item.mk x198.Name [x198.Node] false true)]) :: L) := O304.drop 0
   obtain rfl := zAa h300
   exact ⟨(x183 ++ [(Item.mk x198.Name [x198.Node] false true)]), _, rfl, O305, (zAe s230 (zAe s271 s284))⟩
  have h306 := z11 g279 h268
  refine D2.pure (v := (padd (.pointer (some ⟨b206, 0, none⟩)) 4)) (gk rfl rfl gv280 rfl) rfl (z04 zfe (oo rfl rfl) (O270.atVar (j := 1) rfl)) (D2.load1' (v := (.int .i64 x198.Ramp)) (r := []) (gk rfl rfl gv280 rfl) rfl ag3 (z0g rfl (At.int (At.proj (O270.atVar (j := 1) rfl) z8l))) (z6m (by decide) (z6m (by decide) z0a)) ?_)
  obtain ⟨x307, i308, h309⟩ := z03 h306
  refine D2.loN (gk rfl rfl gv280 rfl) rfl (Lo.cP rfl (fn := Tryz.f43) (by kernel_rfl) rfl (mc rfl (mc rfl (mc rfl mn))) O270 (fun L' O' => z2g K x198.Ramp 0 100000 O' _ i308)) ?_ (z2r (by decide) (z2r (by decide) z0a)) ?_ ?_
  .rintro v316 H317 ⟨G310, O311, s312, sm315, rfl⟩; exact (faR1 (.inl (by decide)) (faR1 (.inl (by decide)) (faR1 (.inl (by decide)) (faR1 (.inl (by decide)) (faR1 (.inr (sm315 _ (Or.inr ⟨1, _, rfl, List.mem_singleton.2 rfl⟩))) (faR1 (.inr (sm315 _ (Or.inr ⟨1, _, rfl, List.mem_singleton.2 rfl⟩))) z0a))))))
  .rintro v316 H317 ⟨G310, O311, s312, sm315, rfl⟩; exact (faR1 (.inr (sm315 _ (Or.inr ⟨0, _, rfl, List.mem_singleton.2 rfl⟩))) z0a)
  rintro v316 H317 ⟨G310, O311, s312, sm315, rfl⟩ nx318
  have F319 := Free.nx F278 nx318
  refine D2.pure (v := (.bool (!x307))) (gk rfl rfl gv280 rfl) rfl (z13 (a := x307) (oo rfl rfl)) (D2.pure (v := (.bool (!x307))) rfl rfl (z4a (oo rfl gv280) (oo rfl rfl)) ?_)
  obtain ⟨G320, O321, s322, f323⟩ := O311.frzSl (j := 0) rfl
  obtain ⟨c324, e326, f325⟩ := z1i ((.string x198.Name)) ((.slice (some ⟨b220, 0, some 0⟩) 1 1)) ((.bool false)) ((.bool (!x307))) (rfl) ((z44 f323)) (rfl) (rfl)
  refine D2.pure (v := .agg (List.toArray c324)) rfl rfl (e326 (z3q rfl (qc' rfl (qc' rfl (qc' rfl (qc' rfl qn')))))) (D2.alloc (m := 28) rfl rfl (Al.buildSlice (r := T_Item) (vs := [(.agg (List.toArray c324))]) (xs := [(Item.mk x198.Name [x198.Node] false (!x307))]) el60 ze63 sz63 (by kernel_rfl) rfl (qc rfl qn) rfl (.cons f325 .nil)) (Free.up (by decide) F319) (by decide) O321 ?_)
  rintro b328 H329 ⟨O330, sm331, F332⟩
  obtain ⟨es334, e335, e336⟩ := z4b (j := 0) rfl O330
  obtain ⟨g337, h338⟩ := z5s h309
  refine D2.lo rfl rfl (Lo.append (j := 3) (v := (σ185 3)) rfl rfl el60 ni60 ze63 sz63 by63 (by decide) (by decide) rfl e335 e336 g337 O330) ?_ (z2r (by decide) (z2r (by decide) (z2r (by decide) z0a))) ?_ ?_
  .rintro v340 H341 ⟨O333, sm339⟩; exact (faR1 (.inl (by decide)) (faR1 (.inl (by decide)) (faR1 (.inl (by decide)) (faR1 (.inl (by decide)) (faR1 (.inl (by decide)) (faR1 (.inl (by decide)) z0a))))))
  .rintro v340 H341 ⟨O333, sm339⟩; exact (faR1 (.inl (by decide)) (faR1 (.inl (by decide)) z0a))
  rintro v340 H341 ⟨O333, sm339⟩
  refine D2.q1 v340 rfl (.nil ?_)
  have O342 : Ow G320 H341 (eVar b206 37 T_Gen x198 :: eVar b2 29 T_Network p0 :: eSl v340 63 T_Item (x183 ++ [(Item.mk x198.Name [x198.Node] false (!x307))]) :: L) := O333.drop 0
  have O343 : Ow G320 H341 (eVar b2 29 T_Network p0 :: eSl v340 63 T_Item (x183 ++ [(Item.mk x198.Name [x198.Node] false (!x307))]) :: L) := O342.drop 0
  obtain rfl := zAa h338
  exact ⟨(x183 ++ [(Item.mk x198.Name [x198.Node] false (!x307))]), _, rfl, O343, (zAe s230 (zAe s271 (zAe s312 s322)))⟩
 rintro σ355 H356 fr357 ⟨x354, G358, rfl, O359, s360⟩
 have h362 := z08 h181
 refine .seq (.seq (.region (W.pure (v := (padd (.pointer (some ⟨b2, 0, none⟩)) 4)) rfl rfl (z04 za6 (oo rfl ((fr357 1 rfl).trans ((fr170 1 rfl).trans ((fr74 1 rfl).trans rfl)))) (O359.atVar (j := 0) rfl)) ?_)))
 obtain ⟨w363, p364, f365⟩ := At.sl (At.proj (O359.atVar (j := 0) rfl) z25)
 refine W.load1 (v := w363) (r := []) rfl rfl ag26 (z0g rfl p364) (W.pure (v := (.int .i64 (List.length p0.Loads : Int))) rfl rfl (z1g (oo rfl rfl) (z0f f365) (z02 el26)) (W.q2 (.int .i64 0) rfl (.nil ?_)))
 obtain ⟨q366, h367, h368⟩ := z03 h362
 refine AW.midT (fun σ' H' => ∃ (y1 : List Item) (G' : GM), y1 = q366 /\ Ow G' H' (eVar b2 29 T_Network p0 :: eSl (σ' 3) 63 T_Item y1 :: L) /\ GM.le G358 G') ?_ ?_
 .refine .block (AW.loop (α := Nat) (fun k' σ' H' => ∃ (y1 : List Item) (y2 : Int) (G' : GM), z1w K p0 k' y1 y2 = some q366 /\ Ow G' H' (eVar b2 29 T_Network p0 :: eSl (σ' 3) 63 T_Item y1 :: L) /\ GM.le G358 G' /\ σ' 93 = .int .i64 y2) (fun k' => k') K ⟨x354, 0, _, h367, O359, (zAf _), rfl⟩ ?_)
  rintro k369
  rintro σ372 H373 fr374 ⟨x370, x371, G375, h378, O376, s377, t379⟩
  rcases k369 with _ | k369
  .exact z06 h378
  rw [z1w] at h378
  refine .seq (.region (W.q3 (.bool (decide (x371 < (List.length p0.Loads : Int)))) t379 ((fr374 92 rfl).trans rfl) (.nil (.seq (.cond (b := decide (x371 < (List.length p0.Loads : Int))) rfl rfl (fun g380 => ?_) (fun g380 => ?_))))))
  rotate_left
  .have h446 := z11 g380 h378
   refine .exit ?_
   obtain rfl := zAa h446
   exact ⟨x370, _, rfl, O376, s377⟩
  have h381 := z01 g380 h378
  refine .skip (.seq (.block (.seq (.region ?_))))
  obtain ⟨x382, i383, h384⟩ := z03 h381
  have j385 := z0v i383
  refine W.pure (v := (z2z w363 (Int.toNat x371 * 3))) rfl rfl (z3i el26 sz41 (oo rfl ((fr374 91 rfl).trans rfl)) (oo rfl t379) (z0f (RT.mono _ s377 f365)) j385.1 j385.2.1) ?_
  obtain ⟨c386, p387, f388⟩ := (At.le (At.le (z1q f365 j385.2.2) s377 s377) (zAf _) O376.fro)
  refine W.loadA (cs := c386) rfl rfl ag41 sz41 (z0g rfl p387) (RT.len _ f388) (W.lo rfl rfl (Lo.alloc (r := T_Load_) (x0 := (Load_.mk ByteArray.empty ByteArray.empty 0)) ze41 (by kernel_rfl) z9u O376) ?_)
  rintro v392 H393 ⟨b390, rfl, O389, sm391⟩
  refine W.lo rfl rfl (Lo.storeVar (j := 0) (s := T_Load_) (y0 := x382) (v := (.agg (List.toArray c386))) (o := 0) rfl ((Put.at (Put.self _) _ _)) rfl sz41 rfl (by omega) rfl f388 O389) ?_
  rintro v396 H397 ⟨O394, sm395⟩
  refine .nil (.draw2 (M := [0, 0, 2, 0, 8, 24, 0, 64, 192, 448, 1022, 2046, 4095, 8191]) mixed (by kernel_rfl) (by kernel_rfl) fun H398 N402 x399 F401 => ?_)
  have O400 := O394.ext x399
  refine D2.q2 (σ372 3) rfl (D2.pure (v := (padd (.pointer (some ⟨b390, 0, none⟩)) 0)) rfl rfl (z04 zfh (oo rfl rfl) (O400.atVar (j := 0) rfl)) (D2.load1' (v := (.string x382.Name)) (r := []) rfl rfl ag9 (z0g rfl (At.str (At.proj (O400.atVar (j := 0) rfl) z6s))) z0a (D2.pure (v := (padd (.pointer (some ⟨b390, 0, none⟩)) 1)) rfl rfl (z04 zd3 (oo rfl rfl) (O400.atVar (j := 0) rfl)) (D2.load1' (v := (.string x382.Node)) (r := []) rfl rfl ag9 (z0g rfl (At.str (At.proj (O400.atVar (j := 0) rfl) z47))) z0a (D2.alloc (m := 14) rfl rfl (Al.buildSlice (r := rS) (vs := [(.string x382.Node)]) (xs := [x382.Node]) el22 ze9 sz9 (by kernel_rfl) rfl (qc rfl qn) rfl (.cons rfl .nil)) (Free.up (by decide) F401) (by decide) O400 ?_)))))
  rintro b404 H405 ⟨O406, sm407, F408⟩
  refine D2.pure (v := (padd (.pointer (some ⟨b390, 0, none⟩)) 2)) rfl rfl (z04 zd4 (oo rfl rfl) (O406.atVar (j := 1) rfl)) (D2.load1' (v := (.int .i64 x382.Demand)) (r := []) rfl rfl ag3 (z0g rfl (At.int (At.proj (O406.atVar (j := 1) rfl) z3k))) z0a ?_)
  obtain ⟨x409, i410, h411⟩ := z03 h384
  refine D2.loN rfl rfl (Lo.cP rfl (fn := Tryz.f43) (by kernel_rfl) rfl (mc rfl (mc rfl (mc rfl mn))) O406 (fun L' O' => z2g K x382.Demand 0 100000 O' _ i410)) ?_ z0a ?_ ?_
  .rintro v418 H419 ⟨G412, O413, s414, sm417, rfl⟩; exact (faR1 (.inl (by decide)) (faR1 (.inr (sm417 _ (Or.inr ⟨1, _, rfl, List.mem_singleton.2 rfl⟩))) (faR1 (.inr (sm417 _ (Or.inr ⟨1, _, rfl, List.mem_singleton.2 rfl⟩))) z0a)))
  .rintro v418 H419 ⟨G412, O413, s414, sm417, rfl⟩; exact (faR1 (.inr (sm417 _ (Or.inr ⟨0, _, rfl, List.mem_singleton.2 rfl⟩))) z0a)
  rintro v418 H419 ⟨G412, O413, s414, sm417, rfl⟩ nx420
  have F421 := Free.nx F408 nx420
  refine D2.pure (v := (.bool (!x409))) rfl rfl (z13 (a := x409) (oo rfl rfl)) ?_
  obtain ⟨G422, O423, s424, f425⟩ := O413.frzSl (j := 0) rfl
  obtain ⟨c426, e428, f427⟩ := z1i ((.string x382.Name)) ((.slice (some ⟨b404, 0, some 0⟩) 1 1)) ((.bool false)) ((.bool (!x409))) (rfl) ((z44 f425)) (rfl) (rfl)
  refine D2.pure (v := .agg (List.toArray c426)) rfl rfl (e428 (z3q rfl (qc' rfl (qc' rfl (qc' rfl (qc' rfl qn')))))) (D2.alloc (m := 14) rfl rfl (Al.buildSlice (r := T_Item) (vs := [(.agg (List.toArray c426))]) (xs := [(Item.mk x382.Name [x382.Node] false (!x409))]) el60 ze63 sz63 (by kernel_rfl) rfl (qc rfl qn) rfl (.cons f427 .nil)) (Free.up (by decide) F421) (by decide) O423 ?_)
  rintro b430 H431 ⟨O432, sm433, F434⟩
  obtain ⟨es436, e437, e438⟩ := z4b (j := 0) rfl O432
  obtain ⟨g439, h440⟩ := z5s h411
  refine D2.lo rfl rfl (Lo.append (j := 3) (v := (σ372 3)) rfl rfl el60 ni60 ze63 sz63 by63 (by decide) (by decide) rfl e437 e438 g439 O432) ?_ (z2r (by decide) z0a) ?_ ?_
  .rintro v442 H443 ⟨O435, sm441⟩; exact (faR1 (.inl (by decide)) (faR1 (.inl (by decide)) (faR1 (.inl (by decide)) z0a)))
  .rintro v442 H443 ⟨O435, sm441⟩; exact (faR1 (.inl (by decide)) (faR1 (.inl (by decide)) z0a))
  rintro v442 H443 ⟨O435, sm441⟩
  refine D2.q1 v442 rfl (.nil (.region (W.q3 (.int .i64 (z0n .i64 (x371 + 1))) t379 rfl (W.q2 (.int .i64 (z0n .i64 (x371 + 1))) rfl (.nil ?_)))))
  have O444 : Ow G422 H443 (eVar b390 41 T_Load_ x382 :: eVar b2 29 T_Network p0 :: eSl v442 63 T_Item (x370 ++ [(Item.mk x382.Name [x382.Node] false (!x409))]) :: L) := O435.drop 0
  have O445 : Ow G422 H443 (eVar b2 29 T_Network p0 :: eSl v442 63 T_Item (x370 ++ [(Item.mk x382.Name [x382.Node] false (!x409))]) :: L) := O444.drop 0
  exact ⟨k369, zAg _, ⟨(x370 ++ [(Item.mk x382.Name [x382.Node] false (!x409))]), z0n .i64 (x371 + 1), _, h440, O445, (zAe s377 (zAe s414 s424)), rfl⟩⟩
 rintro σ448 H449 fr450 ⟨x447, G451, rfl, O452, s453⟩
 have h455 := z08 h368
 refine .seq (.seq (.region (W.pure (v := (padd (.pointer (some ⟨b2, 0, none⟩)) 5)) rfl rfl (z04 z7y (oo rfl ((fr450 1 rfl).trans ((fr357 1 rfl).trans ((fr170 1 rfl).trans ((fr74 1 rfl).trans rfl))))) (O452.atVar (j := 0) rfl)) ?_)))
 obtain ⟨w456, p457, f458⟩ := At.sl (At.proj (O452.atVar (j := 0) rfl) z19)
 refine W.load1 (v := w456) (r := []) rfl rfl ag27 (z0g rfl p457) (W.pure (v := (.int .i64 (List.length p0.Stores : Int))) rfl rfl (z1g (oo rfl rfl) (z0f f458) (z02 el27)) (W.q2 (.int .i64 0) rfl (.nil ?_)))
 obtain ⟨q459, h460, h461⟩ := z03 h455
 refine AW.midT (fun σ' H' => ∃ (y1 : List Item) (G' : GM), y1 = q459 /\ Ow G' H' (eVar b2 29 T_Network p0 :: eSl (σ' 3) 63 T_Item y1 :: L) /\ GM.le G451 G') ?_ ?_
 rotate_left
 .rintro σ635 H636 fr637 ⟨x634, G638, rfl, O639, s640⟩
  have h642 := z08 h461
  refine .seq (.region (W.q2 (σ635 3) rfl (W.q1 (σ635 3) rfl (.nil (.ret ?_)))))
  have O643 : Ow G638 H636 (eSl (σ635 3) 63 T_Item x634 :: L) := O639.drop 0
  obtain rfl := zAa h642
  exact z4w kr (σ635 3) (v1 := (σ635 3)) (by rfl) (z0w (by rfl) (by exact rfl)) O643 (zAe s77 (zAe s173 (zAe s360 (zAe s453 s640)))) rfl
 refine .block (AW.loop (α := Nat) (fun k' σ' H' => ∃ (y1 : List Item) (y2 : Int) (G' : GM), z1x K p0 k' y1 y2 = some q459 /\ Ow G' H' (eVar b2 29 T_Network p0 :: eSl (σ' 3) 63 T_Item y1 :: L) /\ GM.le G451 G' /\ σ' 114 = .int .i64 y2) (fun k' => k') K ⟨x447, 0, _, h460, O452, (zAf _), rfl⟩ ?_)
 rintro k462
 rintro σ465 H466 fr467 ⟨x463, x464, G468, h471, O469, s470, t472⟩
 rcases k462 with _ | k462
 .exact z06 h471
 rw [z1x] at h471
 refine .seq (.region (W.q3 (.bool (decide (x464 < (List.length p0.Stores : Int)))) t472 ((fr467 113 rfl).trans rfl) (.nil (.seq (.cond (b := decide (x464 < (List.length p0.Stores : Int))) rfl rfl (fun g473 => ?_) (fun g473 => ?_))))))
 rotate_left
 .have h633 := z11 g473 h471
  refine .exit ?_
  obtain rfl := zAa h633
  exact ⟨x463, _, rfl, O469, s470⟩
 have h474 := z01 g473 h471
 refine .skip (.seq ?_)
 obtain ⟨q475, h476, h477⟩ := z03 h474
 refine AW.midT (fun σ' H' => ∃ (y1 : List Item) (G' : GM), y1 = q475 /\ Ow G' H' (eVar b2 29 T_Network p0 :: eSl (σ' 3) 63 T_Item y1 :: L) /\ GM.le G468 G') ?_ ?_
 rotate_left
 .rintro σ625 H626 fr627 ⟨x624, G628, rfl, O629, s630⟩
  have h632 := z08 h477
  refine .region (W.q3 (.int .i64 (z0n .i64 (x464 + 1))) ((fr627 114 rfl).trans t472) rfl (W.q2 (.int .i64 (z0n .i64 (x464 + 1))) rfl (.nil ?_)))
  exact ⟨k462, zAg _, ⟨x624, z0n .i64 (x464 + 1), _, h632, O629, (zAe s470 s630), rfl⟩⟩
 refine .block (.seq (.region ?_))
 obtain ⟨x478, i479, h480⟩ := z03 h476
 have j481 := z0v i479
 refine W.pure (v := (z2z w456 (Int.toNat x464 * 5))) rfl rfl (z3i el27 sz39 (oo rfl ((fr467 112 rfl).trans rfl)) (oo rfl t472) (z0f (RT.mono _ s470 f458)) j481.1 j481.2.1) ?_
 obtain ⟨c482, p483, f484⟩ := (At.le (At.le (z1q f458 j481.2.2) s470 s470) (zAf _) O469.fro)
 refine W.loadA (cs := c482) rfl rfl ag39 sz39 (z0g rfl p483) (RT.len _ f484) (W.lo rfl rfl (Lo.alloc (r := T_Store) (x0 := (Store.mk ByteArray.empty ByteArray.empty 0 0 0)) ze39 (by kernel_rfl) z8m O469) ?_)
 rintro v488 H489 ⟨b486, rfl, O485, sm487⟩
 refine W.lo rfl rfl (Lo.storeVar (j := 0) (s := T_Store) (y0 := x478) (v := (.agg (List.toArray c482))) (o := 0) rfl ((Put.at (Put.self _) _ _)) rfl sz39 rfl (by omega) rfl f484 O485) ?_
 rintro v492 H493 ⟨O490, sm491⟩
 refine .nil (.draw2 (M := [0, 0, 2, 0, 8, 24, 0, 64, 192, 448, 960, 1984, 4032, 8128, 16320, 32704, 65472, 131008, 262080, 524224, 1048512, 2097088, 4194302, 8388606, 16777215, 33554431]) mixed (by kernel_rfl) (by kernel_rfl) fun H494 N498 x495 F497 => ?_)
 have O496 := O490.ext x495
 refine D2.q2 (σ465 3) rfl (D2.pure (v := (padd (.pointer (some ⟨b486, 0, none⟩)) 0)) rfl rfl (z04 zff (oo rfl rfl) (O496.atVar (j := 0) rfl)) (D2.load1' (v := (.string x478.Name)) (r := []) rfl rfl ag9 (z0g rfl (At.str (At.proj (O496.atVar (j := 0) rfl) z6t))) z0a (D2.pure (v := (padd (.pointer (some ⟨b486, 0, none⟩)) 1)) rfl rfl (z04 zd0 (oo rfl rfl) (O496.atVar (j := 0) rfl)) (D2.load1' (v := (.string x478.Node)) (r := []) rfl rfl ag9 (z0g rfl (At.str (At.proj (O496.atVar (j := 0) rfl) z48))) z0a (D2.alloc (m := 26) rfl rfl (Al.buildSlice (r := rS) (vs := [(.string x478.Node)]) (xs := [x478.Node]) el22 ze9 sz9 (by kernel_rfl) rfl (qc rfl qn) rfl (.cons rfl .nil)) (Free.up (by decide) F497) (by decide) O496 ?_)))))
 rintro b500 H501 ⟨O502, sm503, F504⟩
 refine D2.pure (v := (padd (.pointer (some ⟨b486, 0, none⟩)) 2)) rfl rfl (z04 zd1 (oo rfl rfl) (O502.atVar (j := 1) rfl)) (D2.load1' (v := (.int .i64 x478.Charge)) (r := []) rfl rfl ag3 (z0g rfl (At.int (At.proj (O502.atVar (j := 1) rfl) z3l))) z0a ?_)
 obtain ⟨x505, i506, h507⟩ := z03 h480
 refine D2.loN rfl rfl (Lo.cP rfl (fn := Tryz.f43) (by kernel_rfl) rfl (mc rfl (mc rfl (mc rfl mn))) O502 (fun L' O' => z2g K x478.Charge 0 100000 O' _ i506)) ?_ z0a ?_ ?_
 .rintro v514 H515 ⟨G508, O509, s510, sm513, rfl⟩; exact (faR1 (.inl (by decide)) (faR1 (.inr (sm513 _ (Or.inr ⟨1, _, rfl, List.mem_singleton.2 rfl⟩))) (faR1 (.inr (sm513 _ (Or.inr ⟨1, _, rfl, List.mem_singleton.2 rfl⟩))) z0a)))
 .rintro v514 H515 ⟨G508, O509, s510, sm513, rfl⟩; exact (faR1 (.inr (sm513 _ (Or.inr ⟨0, _, rfl, List.mem_singleton.2 rfl⟩))) z0a)
 rintro v514 H515 ⟨G508, O509, s510, sm513, rfl⟩ nx516
 have F517 := Free.nx F504 nx516
 refine D2.pure (v := (.bool (!x505))) rfl rfl (z13 (a := x505) (oo rfl rfl)) (D2.q2 (.bool (!x505)) rfl (D2.splitAt (t := 128) (b := (!x505)) rfl (fun g518 gv519 => ?_) (fun g518 gv519 => ?_)))
 .have h520 := z01 g518 h507
  refine D2.skip (gk rfl rfl gv519 rfl) rfl (D2.skip (gk rfl rfl gv519 rfl) rfl (D2.skip (gk rfl rfl gv519 rfl) rfl (D2.skip (gk rfl rfl gv519 rfl) rfl (D2.pure (v := (.bool true)) rfl rfl (z3g (oo rfl gv519) (oo rfl rfl)) (D2.q2 (.bool true) rfl (D2.skip (gk rfl rfl rfl rfl) rfl ?_))))))
  refine D2.skip (gk rfl rfl rfl rfl) rfl (D2.skip (gk rfl rfl rfl rfl) rfl (D2.skip (gk rfl rfl rfl rfl) rfl (D2.pure (v := (.bool true)) rfl rfl (z3g (oo rfl rfl) (oo rfl rfl)) ?_)))
  obtain ⟨G521, O522, s523, f524⟩ := O509.frzSl (j := 0) rfl
  obtain ⟨c525, e527, f526⟩ := z1i ((.string x478.Name)) ((.slice (some ⟨b500, 0, some 0⟩) 1 1)) ((.bool false)) ((.bool true)) (rfl) ((z44 f524)) (rfl) (rfl)
  refine D2.pure (v := .agg (List.toArray c525)) rfl rfl (e527 (z3q rfl (qc' rfl (qc' rfl (qc' rfl (qc' rfl qn')))))) (D2.alloc (m := 26) rfl rfl (Al.buildSlice (r := T_Item) (vs := [(.agg (List.toArray c525))]) (xs := [(Item.mk x478.Name [x478.Node] false true)]) el60 ze63 sz63 (by kernel_rfl) rfl (qc rfl qn) rfl (.cons f526 .nil)) (Free.up (by decide) F517) (by decide) O522 ?_)
  rintro b529 H530 ⟨O531, sm532, F533⟩
  obtain ⟨es535, e536, e537⟩ := z4b (j := 0) rfl O531
  obtain ⟨g538, h539⟩ := z5s h520
  refine D2.lo rfl rfl (Lo.append (j := 3) (v := (σ465 3)) rfl rfl el60 ni60 ze63 sz63 by63 (by decide) (by decide) rfl e536 e537 g538 O531) ?_ (z2r (by decide) z0a) ?_ ?_
  .rintro v541 H542 ⟨O534, sm540⟩; exact (faR1 (.inl (by decide)) (faR1 (.inl (by decide)) (faR1 (.inl (by decide)) z0a)))
  .rintro v541 H542 ⟨O534, sm540⟩; exact (faR1 (.inl (by decide)) (faR1 (.inl (by decide)) z0a))
  rintro v541 H542 ⟨O534, sm540⟩
  refine D2.q1 v541 rfl (.nil ?_)
  have O543 : Ow G521 H542 (eVar b486 39 T_Store x478 :: eVar b2 29 T_Network p0 :: eSl v541 63 T_Item (x463 ++ [(Item.mk x478.Name [x478.Node] false true)]) :: L) := O534.drop 0
  have O544 : Ow G521 H542 (eVar b2 29 T_Network p0 :: eSl v541 63 T_Item (x463 ++ [(Item.mk x478.Name [x478.Node] false true)]) :: L) := O543.drop 0
  obtain rfl := zAa h539
  exact ⟨(x463 ++ [(Item.mk x478.Name [x478.Node] false true)]), _, rfl, O544, (zAe s510 s523)⟩
 have h545 := z11 g518 h507
 refine D2.pure (v := (padd (.pointer (some ⟨b486, 0, none⟩)) 3)) (gk rfl rfl gv519 rfl) rfl (z04 zd2 (oo rfl rfl) (O509.atVar (j := 1) rfl)) (D2.load1' (v := (.int .i64 x478.Discharge)) (r := []) (gk rfl rfl gv519 rfl) rfl ag3 (z0g rfl (At.int (At.proj (O509.atVar (j := 1) rfl) z2m))) (z6m (by decide) z0a) ?_)
 obtain ⟨x546, i547, h548⟩ := z03 h545
 refine D2.loN (gk rfl rfl gv519 rfl) rfl (Lo.cP rfl (fn := Tryz.f43) (by kernel_rfl) rfl (mc rfl (mc rfl (mc rfl mn))) O509 (fun L' O' => z2g K x478.Discharge 0 100000 O' _ i547)) ?_ (z2r (by decide) z0a) ?_ ?_
 .rintro v555 H556 ⟨G549, O550, s551, sm554, rfl⟩; exact (faR1 (.inl (by decide)) (faR1 (.inl (by decide)) (faR1 (.inr (sm554 _ (Or.inr ⟨1, _, rfl, List.mem_singleton.2 rfl⟩))) (faR1 (.inr (sm554 _ (Or.inr ⟨1, _, rfl, List.mem_singleton.2 rfl⟩))) z0a))))
 .rintro v555 H556 ⟨G549, O550, s551, sm554, rfl⟩; exact (faR1 (.inr (sm554 _ (Or.inr ⟨0, _, rfl, List.mem_singleton.2 rfl⟩))) z0a)
 rintro v555 H556 ⟨G549, O550, s551, sm554, rfl⟩ nx557
 have F558 := Free.nx F517 nx557
 refine D2.pure (v := (.bool (!x546))) (gk rfl rfl gv519 rfl) rfl (z13 (a := x546) (oo rfl rfl)) (D2.pure (v := (.bool (!x546))) rfl rfl (z4a (oo rfl gv519) (oo rfl rfl)) (D2.q2 (.bool (!x546)) rfl (D2.splitAt (t := 134) (b := (!x546)) rfl (fun g559 gv560 => ?_) (fun g559 gv560 => ?_))))
 .have h561 := z01 g559 h548
  refine D2.skip (gk rfl rfl gv560 rfl) rfl (D2.skip (gk rfl rfl gv560 rfl) rfl (D2.skip (gk rfl rfl gv560 rfl) rfl (D2.skip (gk rfl rfl gv560 rfl) rfl (D2.pure (v := (.bool true)) rfl rfl (z3g (oo rfl gv560) (oo rfl rfl)) ?_))))
  obtain ⟨G562, O563, s564, f565⟩ := O550.frzSl (j := 0) rfl
  obtain ⟨c566, e568, f567⟩ := z1i ((.string x478.Name)) ((.slice (some ⟨b500, 0, some 0⟩) 1 1)) ((.bool false)) ((.bool true)) (rfl) ((z44 f565)) (rfl) (rfl)
  refine D2.pure (v := .agg (List.toArray c566)) rfl rfl (e568 (z3q rfl (qc' rfl (qc' rfl (qc' rfl (qc' rfl qn')))))) (D2.alloc (m := 26) rfl rfl (Al.buildSlice (r := T_Item) (vs := [(.agg (List.toArray c566))]) (xs := [(Item.mk x478.Name [x478.Node] false true)]) el60 ze63 sz63 (by kernel_rfl) rfl (qc rfl qn) rfl (.cons f567 .nil)) (Free.up (by decide) F558) (by decide) O563 ?_)
  rintro b570 H571 ⟨O572, sm573, F574⟩
  obtain ⟨es576, e577, e578⟩ := z4b (j := 0) rfl O572
  obtain ⟨g579, h580⟩ := z5s h561
  refine D2.lo rfl rfl (Lo.append (j := 3) (v := (σ465 3)) rfl rfl el60 ni60 ze63 sz63 by63 (by decide) (by decide) rfl e577 e578 g579 O572) ?_ (z2r (by decide) (z2r (by decide) z0a)) ?_ ?_
  .rintro v582 H583 ⟨O575, sm581⟩; exact (faR1 (.inl (by decide)) (faR1 (.inl (by decide)) (faR1 (.inl (by decide)) (faR1 (.inl (by decide)) z0a))))
  .rintro v582 H583 ⟨O575, sm581⟩; exact (faR1 (.inl (by decide)) (faR1 (.inl (by decide)) z0a))
  rintro v582 H583 ⟨O575, sm581⟩
  refine D2.q1 v582 rfl (.nil ?_)
  have O584 : Ow G562 H583 (eVar b486 39 T_Store x478 :: eVar b2 29 T_Network p0 :: eSl v582 63 T_Item (x463 ++ [(Item.mk x478.Name [x478.Node] false true)]) :: L) := O575.drop 0
  have O585 : Ow G562 H583 (eVar b2 29 T_Network p0 :: eSl v582 63 T_Item (x463 ++ [(Item.mk x478.Name [x478.Node] false true)]) :: L) := O584.drop 0
  obtain rfl := zAa h580
  exact ⟨(x463 ++ [(Item.mk x478.Name [x478.Node] false true)]), _, rfl, O585, (zAe s510 (zAe s551 s564))⟩
 have h586 := z11 g559 h548
 refine D2.pure (v := (padd (.pointer (some ⟨b486, 0, none⟩)) 4)) (gk rfl rfl gv560 rfl) rfl (z04 zfg (oo rfl rfl) (O550.atVar (j := 1) rfl)) (D2.load1' (v := (.int .i64 x478.Capacity)) (r := []) (gk rfl rfl gv560 rfl) rfl ag3 (z0g rfl (At.int (At.proj (O550.atVar (j := 1) rfl) z4m))) (z6m (by decide) (z6m (by decide) z0a)) ?_)
 obtain ⟨x587, i588, h589⟩ := z03 h586
 refine D2.loN (gk rfl rfl gv560 rfl) rfl (Lo.cP rfl (fn := Tryz.f43) (by kernel_rfl) rfl (mc rfl (mc rfl (mc rfl mn))) O550 (fun L' O' => z2g K x478.Capacity 0 100000 O' _ i588)) ?_ (z2r (by decide) (z2r (by decide) z0a)) ?_ ?_
 .rintro v596 H597 ⟨G590, O591, s592, sm595, rfl⟩; exact (faR1 (.inl (by decide)) (faR1 (.inl (by decide)) (faR1 (.inl (by decide)) (faR1 (.inr (sm595 _ (Or.inr ⟨1, _, rfl, List.mem_singleton.2 rfl⟩))) (faR1 (.inr (sm595 _ (Or.inr ⟨1, _, rfl, List.mem_singleton.2 rfl⟩))) z0a)))))
 .rintro v596 H597 ⟨G590, O591, s592, sm595, rfl⟩; exact (faR1 (.inr (sm595 _ (Or.inr ⟨0, _, rfl, List.mem_singleton.2 rfl⟩))) z0a)
 rintro v596 H597 ⟨G590, O591, s592, sm595, rfl⟩ nx598
 have F599 := Free.nx F558 nx598
 refine D2.pure (v := (.bool (!x587))) (gk rfl rfl gv560 rfl) rfl (z13 (a := x587) (oo rfl rfl)) (D2.pure (v := (.bool (!x587))) rfl rfl (z4a (oo rfl gv560) (oo rfl rfl)) ?_)
 obtain ⟨G600, O601, s602, f603⟩ := O591.frzSl (j := 0) rfl
 obtain ⟨c604, e606, f605⟩ := z1i ((.string x478.Name)) ((.slice (some ⟨b500, 0, some 0⟩) 1 1)) ((.bool false)) ((.bool (!x587))) (rfl) ((z44 f603)) (rfl) (rfl)
 refine D2.pure (v := .agg (List.toArray c604)) rfl rfl (e606 (z3q rfl (qc' rfl (qc' rfl (qc' rfl (qc' rfl qn')))))) (D2.alloc (m := 26) rfl rfl (Al.buildSlice (r := T_Item) (vs := [(.agg (List.toArray c604))]) (xs := [(Item.mk x478.Name [x478.Node] false (!x587))]) el60 ze63 sz63 (by kernel_rfl) rfl (qc rfl qn) rfl (.cons f605 .nil)) (Free.up (by decide) F599) (by decide) O601 ?_)
 rintro b608 H609 ⟨O610, sm611, F612⟩
 obtain ⟨es614, e615, e616⟩ := z4b (j := 0) rfl O610
 obtain ⟨g617, h618⟩ := z5s h589
 refine D2.lo rfl rfl (Lo.append (j := 3) (v := (σ465 3)) rfl rfl el60 ni60 ze63 sz63 by63 (by decide) (by decide) rfl e615 e616 g617 O610) ?_ (z2r (by decide) (z2r (by decide) (z2r (by decide) z0a))) ?_ ?_
 .rintro v620 H621 ⟨O613, sm619⟩; exact (faR1 (.inl (by decide)) (faR1 (.inl (by decide)) (faR1 (.inl (by decide)) (faR1 (.inl (by decide)) (faR1 (.inl (by decide)) z0a)))))
 .rintro v620 H621 ⟨O613, sm619⟩; exact (faR1 (.inl (by decide)) (faR1 (.inl (by decide)) z0a))
 rintro v620 H621 ⟨O613, sm619⟩
 refine D2.q1 v620 rfl (.nil ?_)
 have O622 : Ow G600 H621 (eVar b486 39 T_Store x478 :: eVar b2 29 T_Network p0 :: eSl v620 63 T_Item (x463 ++ [(Item.mk x478.Name [x478.Node] false (!x587))]) :: L) := O613.drop 0
 have O623 : Ow G600 H621 (eVar b2 29 T_Network p0 :: eSl v620 63 T_Item (x463 ++ [(Item.mk x478.Name [x478.Node] false (!x587))]) :: L) := O622.drop 0
 obtain rfl := zAa h618
 exact ⟨(x463 ++ [(Item.mk x478.Name [x478.Node] false (!x587))]), _, rfl, O623, (zAe s510 (zAe s551 (zAe s592 s602)))⟩
def z16 (K : Nat) (p0 : Network) : Nat -> List zAd -> Int -> Option (Int ⊕ (List zAd))
  | 0, _, _ => none
  | k + 1, x74, x75 => (if (decide (x75 < (List.length p0.Nodes : Int))) = true then ((idx p0.Nodes x75).bind fun x87 => ((z2f K x87 x74).bind fun x91 => (if (x91.1 != 0) = true then some (.inl x91.1) else z16 K p0 k x91.2 (z0n .i64 (x75 + 1))))) else some (.inr x74))
def z14 (K : Nat) (p0 : Network) (x153 : Item) : Nat -> Int -> Option (Int ⊕ Unit)
  | 0, _ => none
  | k + 1, x201 => (if (decide (x201 < (List.length x153.nodes : Int))) = true then ((idx x153.nodes x201).bind fun x212 => ((z7a K p0.Nodes x212).bind fun x219 => (if (!x219) = true then some (.inl 6) else z14 K p0 x153 k (z0n .i64 (x201 + 1))))) else some (.inr ()))
def z17 (K : Nat) (x123 : List Item) (p0 : Network) : Nat -> List zAd -> Int -> Option (Int ⊕ (List zAd))
  | 0, _, _ => none
  | k + 1, x140, x141 => (if (decide (x141 < (List.length x123 : Int))) = true then ((idx x123 x141).bind fun x153 => ((z2f K x153.name x140).bind fun x174 => (if (x174.1 != 0) = true then some (.inl x174.1) else (z42 (z14 K p0 x153 K 0) (tu1 fun a308 => some (.inl a308)) (tu0 (Option.bind ((if x153.apart = true then ((idx x153.nodes 0).bind fun x263 => ((idx x153.nodes 1).bind fun x270 => some (sEq x263 x270))) else some false)) (tu1 fun x275 => (if x275 = true then some (.inl 3) else (if x153.bad = true then some (.inl 4) else z17 K x123 p0 k x174.2 (z0n .i64 (x141 + 1))))))))))) else some (.inr x140))
def z3r (K : Nat) (p0 : Network) : Option Int := (Option.bind ((if (decide ((List.length p0.Nodes : Int) > 24)) = true then some true else (if (decide ((List.length p0.Switches : Int) > 32)) = true then some true else (if (decide ((List.length p0.Branches : Int) > 24)) = true then some true else (if (decide ((List.length p0.Gens : Int) > 10)) = true then some true else (if (decide ((List.length p0.Loads : Int) > 12)) = true then some true else some (decide ((List.length p0.Stores : Int) > 4)))))))) (tu1 fun x47 => (if x47 = true then some 2 else (z42 (z16 K p0 K [] 0) (tu1 fun a325 => some a325) (tu1 fun x110 => ((z5n K p0).bind fun x123 => (z42 (z17 K x123 p0 K x110 0) (tu1 fun a324 => some a324) (tu1 fun x310 => some 0))))))))
theorem z72 (v0 : List Value) (p0 : Network) (hp0 : T_Network.rep G v0 p0) (O : Ow G H (L)) (r : Int) (h : z3r K p0 = some r) :
    CR Tryz.prog 6 [.agg (List.toArray v0)] G H (L) (fun v G' _ => v = .int .i64 r) := by
 unfold z3r at h
 refine CR.og (n := 105) (fn := Tryz.f6) (by kernel_rfl) rfl rfl fun R kr => (.seq (.region (W.lo rfl rfl (Lo.box (r := T_Network) (x0 := p0) (v := (.agg (List.toArray v0))) rfl rfl hp0 O) ?_)))
 rintro v4 H5 ⟨b2, rfl, O1, sm3⟩
 refine W.q1 (.int .i64 0) rfl (.nil (.seq (.seq ?_)))
 obtain ⟨q6, h7, h8⟩ := z03 h
 refine AW.midT (fun σ' H' => ∃ (y1 : Bool) (G' : GM), y1 = q6 /\ Ow G' H' (eVar b2 29 T_Network p0 :: L) /\ GM.le G G' /\ σ' 46 = .bool y1) ?_ ?_
 .refine .region (W.pure (v := (padd (.pointer (some ⟨b2, 0, none⟩)) 0)) rfl rfl (z04 z7w (oo rfl rfl) (O1.atVar (j := 0) rfl)) ?_)
  obtain ⟨w9, p10, f11⟩ := At.sl (At.proj (O1.atVar (j := 0) rfl) z1h)
  refine W.load1 (v := w9) (r := []) rfl rfl ag22 (z0g rfl p10) (W.pure (v := (.int .i64 (List.length p0.Nodes : Int))) rfl rfl (z1g (oo rfl rfl) (z0f f11) (z02 el22)) (W.q3 (.bool (decide ((List.length p0.Nodes : Int) > 24))) rfl rfl (W.q2 (.bool (decide ((List.length p0.Nodes : Int) > 24))) rfl (W.splitAt (t := 17) (b := decide ((List.length p0.Nodes : Int) > 24)) rfl (fun g12 gv13 => ?_) (fun g12 gv13 => ?_)))))
  .have h14 := z01 g12 h7
   refine W.q6 rfl gv13 (W.q6 rfl gv13 (W.q6 rfl gv13 (W.q6 rfl gv13 (W.q4 (.bool true) gv13 rfl (W.q2 (.bool true) rfl (W.q6 rfl rfl ?_))))))
   refine W.q6 rfl rfl (W.q6 rfl rfl (W.q6 rfl rfl (W.q4 (.bool true) rfl rfl (W.q2 (.bool true) rfl (W.q6 rfl rfl (W.q6 rfl rfl ?_))))))
   refine W.q6 rfl rfl (W.q6 rfl rfl (W.q4 (.bool true) rfl rfl (W.q2 (.bool true) rfl (W.q6 rfl rfl (W.q6 rfl rfl (W.q6 rfl rfl ?_))))))
   refine W.q6 rfl rfl (W.q4 (.bool true) rfl rfl (W.q2 (.bool true) rfl (W.q6 rfl rfl (W.q6 rfl rfl (W.q6 rfl rfl (W.q6 rfl rfl ?_))))))
   refine W.q4 (.bool true) rfl rfl (.nil ?_)
   obtain rfl := zAa h14
   exact ⟨true, _, rfl, O1, (zAf _), rfl⟩
  have h15 := z11 g12 h7
  refine W.pure (v := (padd (.pointer (some ⟨b2, 0, none⟩)) 1)) (gk rfl rfl gv13 rfl) rfl (z04 zcw (oo rfl rfl) (O1.atVar (j := 0) rfl)) ?_
  obtain ⟨w16, p17, f18⟩ := At.sl (At.proj (O1.atVar (j := 0) rfl) z2d)
  refine W.load1 (v := w16) (r := []) (gk rfl rfl gv13 rfl) rfl ag23 (z0g rfl p17) (W.pure (v := (.int .i64 (List.length p0.Switches : Int))) (gk rfl rfl gv13 rfl) rfl (z1g (oo rfl rfl) (z0f f18) (z02 el23)) (W.q3 (hg := gk rfl rfl gv13 rfl) (.bool (decide ((List.length p0.Switches : Int) > 32))) rfl rfl (W.q5 (.bool (decide ((List.length p0.Switches : Int) > 32))) gv13 rfl (W.q2 (.bool (decide ((List.length p0.Switches : Int) > 32))) rfl (W.splitAt (t := 23) (b := decide ((List.length p0.Switches : Int) > 32)) rfl (fun g19 gv20 => ?_) (fun g19 gv20 => ?_))))))
  .have h21 := z01 g19 h15
   refine W.q6 rfl gv20 (W.q6 rfl gv20 (W.q6 rfl gv20 (W.q6 rfl gv20 (W.q4 (.bool true) gv20 rfl (W.q2 (.bool true) rfl (W.q6 rfl rfl ?_))))))
   refine W.q6 rfl rfl (W.q6 rfl rfl (W.q6 rfl rfl (W.q4 (.bool true) rfl rfl (W.q2 (.bool true) rfl (W.q6 rfl rfl (W.q6 rfl rfl ?_))))))
   refine W.q6 rfl rfl (W.q6 rfl rfl (W.q4 (.bool true) rfl rfl (W.q2 (.bool true) rfl (W.q6 rfl rfl (W.q6 rfl rfl (W.q6 rfl rfl ?_))))))
   refine W.q6 rfl rfl (W.q4 (.bool true) rfl rfl (.nil ?_))
   obtain rfl := zAa h21
   exact ⟨true, _, rfl, O1, (zAf _), rfl⟩
  have h22 := z11 g19 h15
  refine W.pure (v := (padd (.pointer (some ⟨b2, 0, none⟩)) 2)) (gk rfl rfl gv20 rfl) rfl (z04 zcx (oo rfl rfl) (O1.atVar (j := 0) rfl)) ?_
  obtain ⟨w23, p24, f25⟩ := At.sl (At.proj (O1.atVar (j := 0) rfl) z2e)
  refine W.load1 (v := w23) (r := []) (gk rfl rfl gv20 rfl) rfl ag24 (z0g rfl p24) (W.pure (v := (.int .i64 (List.length p0.Branches : Int))) (gk rfl rfl gv20 rfl) rfl (z1g (oo rfl rfl) (z0f f25) (z02 el24)) (W.q3 (hg := gk rfl rfl gv20 rfl) (.bool (decide ((List.length p0.Branches : Int) > 24))) rfl rfl (W.q5 (.bool (decide ((List.length p0.Branches : Int) > 24))) gv20 rfl (W.q2 (.bool (decide ((List.length p0.Branches : Int) > 24))) rfl (W.splitAt (t := 29) (b := decide ((List.length p0.Branches : Int) > 24)) rfl (fun g26 gv27 => ?_) (fun g26 gv27 => ?_))))))
  .have h28 := z01 g26 h22
   refine W.q6 rfl gv27 (W.q6 rfl gv27 (W.q6 rfl gv27 (W.q6 rfl gv27 (W.q4 (.bool true) gv27 rfl (W.q2 (.bool true) rfl (W.q6 rfl rfl ?_))))))
   refine W.q6 rfl rfl (W.q6 rfl rfl (W.q6 rfl rfl (W.q4 (.bool true) rfl rfl (W.q2 (.bool true) rfl (W.q6 rfl rfl (W.q6 rfl rfl ?_))))))
   refine W.q6 rfl rfl (W.q6 rfl rfl (W.q4 (.bool true) rfl rfl (.nil ?_)))
   obtain rfl := zAa h28
   exact ⟨true, _, rfl, O1, (zAf _), rfl⟩
  have h29 := z11 g26 h22
  refine W.pure (v := (padd (.pointer (some ⟨b2, 0, none⟩)) 3)) (gk rfl rfl gv27 rfl) rfl (z04 z7x (oo rfl rfl) (O1.atVar (j := 0) rfl)) ?_
  obtain ⟨w30, p31, f32⟩ := At.sl (At.proj (O1.atVar (j := 0) rfl) z1l)
  refine W.load1 (v := w30) (r := []) (gk rfl rfl gv27 rfl) rfl ag25 (z0g rfl p31) (W.pure (v := (.int .i64 (List.length p0.Gens : Int))) (gk rfl rfl gv27 rfl) rfl (z1g (oo rfl rfl) (z0f f32) (z02 el25)) (W.q3 (hg := gk rfl rfl gv27 rfl) (.bool (decide ((List.length p0.Gens : Int) > 10))) rfl rfl (W.q5 (.bool (decide ((List.length p0.Gens : Int) > 10))) gv27 rfl (W.q2 (.bool (decide ((List.length p0.Gens : Int) > 10))) rfl (W.splitAt (t := 35) (b := decide ((List.length p0.Gens : Int) > 10)) rfl (fun g33 gv34 => ?_) (fun g33 gv34 => ?_))))))
  .have h35 := z01 g33 h29
   refine W.q6 rfl gv34 (W.q6 rfl gv34 (W.q6 rfl gv34 (W.q6 rfl gv34 (W.q4 (.bool true) gv34 rfl (W.q2 (.bool true) rfl (W.q6 rfl rfl ?_))))))
   refine W.q6 rfl rfl (W.q6 rfl rfl (W.q6 rfl rfl (W.q4 (.bool true) rfl rfl (.nil ?_))))
   obtain rfl := zAa h35
   exact ⟨true, _, rfl, O1, (zAf _), rfl⟩
  have h36 := z11 g33 h29
  refine W.pure (v := (padd (.pointer (some ⟨b2, 0, none⟩)) 4)) (gk rfl rfl gv34 rfl) rfl (z04 za6 (oo rfl rfl) (O1.atVar (j := 0) rfl)) ?_
  obtain ⟨w37, p38, f39⟩ := At.sl (At.proj (O1.atVar (j := 0) rfl) z25)
  refine W.load1 (v := w37) (r := []) (gk rfl rfl gv34 rfl) rfl ag26 (z0g rfl p38) (W.pure (v := (.int .i64 (List.length p0.Loads : Int))) (gk rfl rfl gv34 rfl) rfl (z1g (oo rfl rfl) (z0f f39) (z02 el26)) (W.q3 (hg := gk rfl rfl gv34 rfl) (.bool (decide ((List.length p0.Loads : Int) > 12))) rfl rfl (W.q5 (.bool (decide ((List.length p0.Loads : Int) > 12))) gv34 rfl (W.q2 (.bool (decide ((List.length p0.Loads : Int) > 12))) rfl (W.splitAt (t := 41) (b := decide ((List.length p0.Loads : Int) > 12)) rfl (fun g40 gv41 => ?_) (fun g40 gv41 => ?_))))))
  .have h42 := z01 g40 h36
   refine W.q6 rfl gv41 (W.q6 rfl gv41 (W.q6 rfl gv41 (W.q6 rfl gv41 (W.q4 (.bool true) gv41 rfl (.nil ?_)))))
   obtain rfl := zAa h42
   exact ⟨true, _, rfl, O1, (zAf _), rfl⟩
  have h43 := z11 g40 h36
  refine W.pure (v := (padd (.pointer (some ⟨b2, 0, none⟩)) 5)) (gk rfl rfl gv41 rfl) rfl (z04 z7y (oo rfl rfl) (O1.atVar (j := 0) rfl)) ?_
  obtain ⟨w44, p45, f46⟩ := At.sl (At.proj (O1.atVar (j := 0) rfl) z19)
  refine W.load1 (v := w44) (r := []) (gk rfl rfl gv41 rfl) rfl ag27 (z0g rfl p45) (W.pure (v := (.int .i64 (List.length p0.Stores : Int))) (gk rfl rfl gv41 rfl) rfl (z1g (oo rfl rfl) (z0f f46) (z02 el27)) (W.q3 (hg := gk rfl rfl gv41 rfl) (.bool (decide ((List.length p0.Stores : Int) > 4))) rfl rfl (W.q5 (.bool (decide ((List.length p0.Stores : Int) > 4))) gv41 rfl (.nil ?_))))
  obtain rfl := zAa h43
  exact ⟨decide ((List.length p0.Stores : Int) > 4), _, rfl, O1, (zAf _), rfl⟩
 rintro σ48 H49 fr50 ⟨x47, G51, rfl, O52, s53, t55⟩
 have h56 := z08 h8
 refine .cond (b := x47) rfl t55 (fun g57 => ?_) (fun g57 => ?_)
 .have h58 := z01 g57 h56
  refine .seq (.region (W.q1 (.int .i64 2) rfl (.nil (.ret ?_))))
  have O59 : Ow G51 H49 (L) := O52.drop 0
  obtain rfl := zAa h58
  exact z3t kr (v1 := (.int .i64 2)) (by rfl) (z0w (by rfl) (by exact rfl)) O59 s53 rfl
 have h60 := z11 g57 h56
 refine .skip (.seq (.region ?_))
 have O63 := O52.nilSl 9 rS
 refine W.lo rfl rfl (Lo.alloc (r := rV) (x0 := (.slice none 0 0)) ze22 (by kernel_rfl) zV O63) ?_
 rintro v65 H66 ⟨b62, rfl, O61, sm64⟩
 refine .nil (.seq (.region (W.pure (v := (.func (.func 16) #[] #[(.pointer (some ⟨b62, 0, none⟩))])) rfl rfl (z8f (z69 rfl mn) (z69 rfl (mc rfl mn))) (W.q1 (.func (.func 16) #[] #[(.pointer (some ⟨b62, 0, none⟩))]) rfl (.nil (.seq ?_))))))
 refine .seq (.region (W.pure (v := (padd (.pointer (some ⟨b2, 0, none⟩)) 0)) rfl rfl (z04 z7w (oo rfl ((fr50 1 rfl).trans rfl)) (O61.atVar (j := 2) rfl)) ?_))
 obtain ⟨w67, p68, f69⟩ := At.sl (At.proj (O61.atVar (j := 2) rfl) z1h)
 refine W.load1 (v := w67) (r := []) rfl rfl ag22 (z0g rfl p68) (W.pure (v := (.int .i64 (List.length p0.Nodes : Int))) rfl rfl (z1g (oo rfl rfl) (z0f f69) (z02 el22)) (W.q2 (.int .i64 0) rfl (.nil ?_)))
 obtain ⟨q70, h71, h72⟩ := z1o h60
 refine AW.midT (fun σ' H' => ∃ (y1 : List zAd) (w_l3 : Value) (G' : GM), (.inr y1) = q70 /\ Ow G' H' (eVar b62 22 rV w_l3 :: eSl w_l3 9 rS y1 :: eVar b2 29 T_Network p0 :: L) /\ GM.le G51 G') ?_ ?_
 .refine .block (AW.loop (α := Nat) (fun k' σ' H' => ∃ (y1 : List zAd) (y2 : Int) (w_l3 : Value) (G' : GM), z16 K p0 k' y1 y2 = some q70 /\ Ow G' H' (eVar b62 22 rV w_l3 :: eSl w_l3 9 rS y1 :: eVar b2 29 T_Network p0 :: L) /\ GM.le G51 G' /\ σ' 51 = .int .i64 y2) (fun k' => k') K ⟨[], 0, (.slice none 0 0), _, h71, O61, (zAf _), rfl⟩ ?_)
  rintro k73
  rintro σ76 H77 fr78 ⟨x74, x75, w83, G79, h82, O80, s81, t84⟩
  rcases k73 with _ | k73
  .exact z06 h82
  rw [z16] at h82
  refine .seq (.region (W.q3 (.bool (decide (x75 < (List.length p0.Nodes : Int)))) t84 ((fr78 50 rfl).trans rfl) (.nil (.seq (.cond (b := decide (x75 < (List.length p0.Nodes : Int))) rfl rfl (fun g85 => ?_) (fun g85 => ?_))))))
  rotate_left
  .have h109 := z11 g85 h82
   refine .exit ?_
   obtain rfl := zAa h109
   exact ⟨x74, w83, _, rfl, O80, s81⟩
  have h86 := z01 g85 h82
  refine .skip (.seq (.block (.seq (.region ?_))))
  obtain ⟨x87, i88, h89⟩ := z03 h86
  have j90 := z0v i88
  refine W.pure (v := (z2z w67 (Int.toNat x75 * 1))) rfl rfl (z3i el22 sz9 (oo rfl ((fr78 49 rfl).trans rfl)) (oo rfl t84) (z0f (RT.mono _ s81 f69)) j90.1 j90.2.1) (W.load1 (v := (.string x87)) (r := []) rfl rfl ag9 (z0g rfl (At.str (At.le (At.le (z1q f69 j90.2.2) s81 s81) (zAf _) O80.fro))) (W.q1 (.string x87) rfl (.nil (.seq (.region (W.q2 (.func (.func 16) #[] #[(.pointer (some ⟨b62, 0, none⟩))]) ((fr78 4 rfl).trans rfl) ?_))))))
  refine W.q2 (.string x87) rfl ?_
  obtain ⟨x91, i92, h93⟩ := z03 h89
  refine W.lo rfl rfl (Lo.callvPF (ps := [eVar b62 22 rV w83, eSl w83 9 rS x74]) (pw := fun w => [eVar b62 22 rV w, eSl w 9 rS x91.2]) rfl rfl (fn := Tryz.f16) (by kernel_rfl) rfl (mc rfl mn) O80 (fun L' O' => z4c K x87 b62 w83 x74 O' _ i92)) ?_
  rintro v100 H101 ⟨w98, G94, O95, s96, sm99, rfl⟩
  refine W.q1 (.int .i64 x91.1) rfl (.nil (.seq (.region (W.q2 (.int .i64 x91.1) rfl (W.q3 (.bool (x91.1 != 0)) rfl rfl (.nil ?_))))))
  refine .cond (b := (x91.1 != 0)) rfl rfl (fun g102 => ?_) (fun g102 => ?_)
  rotate_left
  .have h108 := z11 g102 h93
   refine .skip (.region (W.q3 (.int .i64 (z0n .i64 (x75 + 1))) t84 rfl (W.q2 (.int .i64 (z0n .i64 (x75 + 1))) rfl (.nil ?_))))
   exact ⟨k73, zAg _, ⟨x91.2, z0n .i64 (x75 + 1), w98, _, h108, O95, (zAe s81 s96), rfl⟩⟩
  have h103 := z01 g102 h93
  refine .seq (.region (W.q2 (.int .i64 x91.1) rfl (W.q1 (.int .i64 x91.1) rfl (.nil (.ret ?_)))))
  have O104 : Ow G94 H101 (eSl w98 9 rS x91.2 :: eVar b2 29 T_Network p0 :: L) := O95.drop 0
  have O105 : Ow G94 H101 (eVar b2 29 T_Network p0 :: L) := O104.drop 0
  have O106 : Ow G94 H101 (L) := O105.drop 0
  obtain rfl := zAa h103
  have h107 := z08 (z36 h72)
  obtain rfl := zAa h107
  exact z3t kr (v1 := (.int .i64 x91.1)) (by rfl) (z0w (by rfl) (by exact rfl)) O106 (zAe s53 (zAe s81 s96)) rfl
 rintro σ111 H112 fr113 ⟨x110, w118, G114, rfl, O115, s116⟩
 have h119 := z08 (z4d h72)
 refine .seq (.seq (.region ?_))
 obtain ⟨c120, p121, f122⟩ := (O115.atVar (j := 2) rfl)
 refine W.loadA (cs := c120) rfl rfl ag29 sz29 (z0g ((fr113 1 rfl).trans ((fr50 1 rfl).trans rfl)) p121) (RT.len _ f122) ?_
 obtain ⟨x123, i124, h125⟩ := z03 h119
 refine W.lo rfl rfl (Lo.callPF (ps := []) (pw := fun w => [eSl w 63 T_Item x123]) rfl (fn := Tryz.f19) (by kernel_rfl) rfl (mc rfl mn) O115 (fun L' O' => z98 K c120 p0 f122 O' _ i124)) ?_
 rintro v134 H135 ⟨w131, G126, O127, s128, sm133, rfl⟩
 refine W.pure (v := (.int .i64 (List.length x123 : Int))) rfl rfl (z1g (oo rfl rfl) (O127.slLen (j := 0) rfl) (z02 el60)) (W.q2 (.int .i64 0) rfl (.nil ?_))
 obtain ⟨q136, h137, h138⟩ := z1o h125
 refine AW.midT (fun σ' H' => ∃ (y1 : List zAd) (w_l3 : Value) (G' : GM), (.inr y1) = q136 /\ Ow G' H' (eSl w131 63 T_Item x123 :: eVar b62 22 rV w_l3 :: eSl w_l3 9 rS y1 :: eVar b2 29 T_Network p0 :: L) /\ GM.le G126 G') ?_ ?_
 rotate_left
 .rintro σ311 H312 fr313 ⟨x310, w318, G314, rfl, O315, s316⟩
  have h319 := z08 (z4d h138)
  refine .seq (.region (W.q1 (.int .i64 0) rfl (.nil (.ret ?_))))
  have O320 : Ow G314 H312 (eVar b62 22 rV w318 :: eSl w318 9 rS x310 :: eVar b2 29 T_Network p0 :: L) := O315.drop 0
  have O321 : Ow G314 H312 (eSl w318 9 rS x310 :: eVar b2 29 T_Network p0 :: L) := O320.drop 0
  have O322 : Ow G314 H312 (eVar b2 29 T_Network p0 :: L) := O321.drop 0
  have O323 : Ow G314 H312 (L) := O322.drop 0
  obtain rfl := zAa h319
  exact z3t kr (v1 := (.int .i64 0)) (by rfl) (z0w (by rfl) (by exact rfl)) O323 (zAe s53 (zAe s116 (zAe s128 s316))) rfl
 refine .block (AW.loop (α := Nat) (fun k' σ' H' => ∃ (y1 : List zAd) (y2 : Int) (w_l3 : Value) (G' : GM), z17 K x123 p0 k' y1 y2 = some q136 /\ Ow G' H' (eSl w131 63 T_Item x123 :: eVar b62 22 rV w_l3 :: eSl w_l3 9 rS y1 :: eVar b2 29 T_Network p0 :: L) /\ GM.le G126 G' /\ σ' 65 = .int .i64 y2) (fun k' => k') K ⟨x110, 0, w118, _, h137, O127, (zAf _), rfl⟩ ?_)
 rintro k139
 rintro σ142 H143 fr144 ⟨x140, x141, w149, G145, h148, O146, s147, t150⟩
 rcases k139 with _ | k139
 .exact z06 h148
 rw [z17] at h148
 refine .seq (.region (W.q3 (.bool (decide (x141 < (List.length x123 : Int)))) t150 ((fr144 64 rfl).trans rfl) (.nil (.seq (.cond (b := decide (x141 < (List.length x123 : Int))) rfl rfl (fun g151 => ?_) (fun g151 => ?_))))))
 rotate_left
 .have h309 := z11 g151 h148
  refine .exit ?_
  obtain rfl := zAa h309
  exact ⟨x140, w149, _, rfl, O146, s147⟩
 have h152 := z01 g151 h148
 refine .skip (.seq (.block (.seq (.region ?_))))
 obtain ⟨x153, i154, h155⟩ := z03 h152
 have j156 := z0v i154
 refine W.pure (v := (z2z w131 (Int.toNat x141 * 4))) rfl rfl (z3i el60 sz63 (oo rfl ((fr144 63 rfl).trans rfl)) (oo rfl t150) (O146.slLen (j := 0) rfl) j156.1 j156.2.1) ?_
 obtain ⟨c157, p158, f159⟩ := (O146.atSl (j := 0) rfl j156.2.2)
 refine W.loadA (cs := c157) rfl rfl ag63 sz63 (z0g rfl p158) (RT.len _ f159) (W.lo rfl rfl (Lo.alloc (r := T_Item) (x0 := (Item.mk ByteArray.empty ([] : List zAd) false false)) ze63 (by kernel_rfl) zeg O146) ?_)
 rintro v163 H164 ⟨b161, rfl, O160, sm162⟩
 refine W.lo rfl rfl (Lo.storeVar (j := 0) (s := T_Item) (y0 := x153) (v := (.agg (List.toArray c157))) (o := 0) rfl ((Put.at (Put.self _) _ _)) rfl sz63 rfl (by omega) rfl f159 O160) ?_
 rintro v167 H168 ⟨O165, sm166⟩
 refine .nil (.seq (.seq (.region (W.q2 (.func (.func 16) #[] #[(.pointer (some ⟨b62, 0, none⟩))]) ((fr144 4 rfl).trans ((fr113 4 rfl).trans rfl)) (W.pure (v := (padd (.pointer (some ⟨b161, 0, none⟩)) 0)) rfl rfl (z04 zgc (oo rfl rfl) (O165.atVar (j := 0) rfl)) (W.load1 (v := (.string x153.name)) (r := []) rfl rfl ag9 (z0g rfl (At.str (At.proj (O165.atVar (j := 0) rfl) za9))) ?_))))))
 have O169 : Ow G145 H168 (eVar b2 29 T_Network p0 :: eVar b161 63 T_Item x153 :: eSl w131 63 T_Item x123 :: eVar b62 22 rV w149 :: eSl w149 9 rS x140 :: L) := O165.front (j := 4) rfl
 have O170 : Ow G145 H168 (eSl w131 63 T_Item x123 :: eVar b2 29 T_Network p0 :: eVar b161 63 T_Item x153 :: eVar b62 22 rV w149 :: eSl w149 9 rS x140 :: L) := O169.front (j := 2) rfl
 have O171 : Ow G145 H168 (eVar b161 63 T_Item x153 :: eSl w131 63 T_Item x123 :: eVar b2 29 T_Network p0 :: eVar b62 22 rV w149 :: eSl w149 9 rS x140 :: L) := O170.front (j := 2) rfl
 have O172 : Ow G145 H168 (eSl w149 9 rS x140 :: eVar b161 63 T_Item x153 :: eSl w131 63 T_Item x123 :: eVar b2 29 T_Network p0 :: eVar b62 22 rV w149 :: L) := O171.front (j := 4) rfl
 have O173 : Ow G145 H168 (eVar b62 22 rV w149 :: eSl w149 9 rS x140 :: eVar b161 63 T_Item x153 :: eSl w131 63 T_Item x123 :: eVar b2 29 T_Network p0 :: L) := O172.front (j := 4) rfl
 obtain ⟨x174, i175, h176⟩ := z03 h155
 refine W.lo rfl rfl (Lo.callvPF (ps := [eVar b62 22 rV w149, eSl w149 9 rS x140]) (pw := fun w => [eVar b62 22 rV w, eSl w 9 rS x174.2]) rfl rfl (fn := Tryz.f16) (by kernel_rfl) rfl (mc rfl mn) O173 (fun L' O' => z4c K x153.name b62 w149 x140 O' _ i175)) ?_
 rintro v183 H184 ⟨w181, G177, O178, s179, sm182, rfl⟩
 refine W.q1 (.int .i64 x174.1) rfl (.nil (.seq (.region (W.q2 (.int .i64 x174.1) rfl (W.q3 (.bool (x174.1 != 0)) rfl rfl (.nil ?_))))))
 refine .cond (b := (x174.1 != 0)) rfl rfl (fun g185 => ?_) (fun g185 => ?_)
 .have h186 := z01 g185 h176
  refine .seq (.region (W.q2 (.int .i64 x174.1) rfl (W.q1 (.int .i64 x174.1) rfl (.nil (.ret ?_)))))
  have O187 : Ow G177 H184 (eSl w181 9 rS x174.2 :: eVar b161 63 T_Item x153 :: eSl w131 63 T_Item x123 :: eVar b2 29 T_Network p0 :: L) := O178.drop 0
  have O188 : Ow G177 H184 (eVar b161 63 T_Item x153 :: eSl w131 63 T_Item x123 :: eVar b2 29 T_Network p0 :: L) := O187.drop 0
  have O189 : Ow G177 H184 (eSl w131 63 T_Item x123 :: eVar b2 29 T_Network p0 :: L) := O188.drop 0
  have O190 : Ow G177 H184 (eVar b2 29 T_Network p0 :: L) := O189.drop 0
  have O191 : Ow G177 H184 (L) := O190.drop 0
  obtain rfl := zAa h186
  have h192 := z08 (z36 h138)
  obtain rfl := zAa h192
  exact z3t kr (v1 := (.int .i64 x174.1)) (by rfl) (z0w (by rfl) (by exact rfl)) O191 (zAe s53 (zAe s116 (zAe s128 (zAe s147 s179)))) rfl
 have h193 := z11 g185 h176
 refine .skip (.seq (.seq (.region (W.pure (v := (padd (.pointer (some ⟨b161, 0, none⟩)) 1)) rfl rfl (z04 ze2 (oo rfl rfl) (O178.atVar (j := 2) rfl)) ?_))))
 obtain ⟨w194, p195, f196⟩ := At.sl (At.proj (O178.atVar (j := 2) rfl) z55)
 refine W.load1 (v := w194) (r := []) rfl rfl ag22 (z0g rfl p195) (W.pure (v := (.int .i64 (List.length x153.nodes : Int))) rfl rfl (z1g (oo rfl rfl) (z0f f196) (z02 el22)) (W.q2 (.int .i64 0) rfl (.nil ?_)))
 obtain ⟨q197, h198, h199⟩ := z1o h193
 refine AW.midT (fun σ' H' => ∃  (G' : GM), (.inr ()) = q197 /\ Ow G' H' (eVar b62 22 rV w181 :: eSl w181 9 rS x174.2 :: eVar b161 63 T_Item x153 :: eSl w131 63 T_Item x123 :: eVar b2 29 T_Network p0 :: L) /\ GM.le G177 G') ?_ ?_
 .refine .block (AW.loop (α := Nat) (fun k' σ' H' => ∃ (y1 : Int) (G' : GM), z14 K p0 x153 k' y1 = some q197 /\ Ow G' H' (eVar b62 22 rV w181 :: eSl w181 9 rS x174.2 :: eVar b161 63 T_Item x153 :: eSl w131 63 T_Item x123 :: eVar b2 29 T_Network p0 :: L) /\ GM.le G177 G' /\ σ' 79 = .int .i64 y1) (fun k' => k') K ⟨0, _, h198, O178, (zAf _), rfl⟩ ?_)
  rintro k200
  rintro σ202 H203 fr204 ⟨x201, G205, h208, O206, s207, t209⟩
  rcases k200 with _ | k200
  .exact z06 h208
  rw [z14] at h208
  refine .seq (.region (W.q3 (.bool (decide (x201 < (List.length x153.nodes : Int)))) t209 ((fr204 78 rfl).trans rfl) (.nil (.seq (.cond (b := decide (x201 < (List.length x153.nodes : Int))) rfl rfl (fun g210 => ?_) (fun g210 => ?_))))))
  rotate_left
  .have h240 := z11 g210 h208
   refine .exit ?_
   obtain rfl := zAa h240
   exact ⟨_, rfl, O206, s207⟩
  have h211 := z01 g210 h208
  refine .skip (.seq (.block (.seq (.region ?_))))
  obtain ⟨x212, i213, h214⟩ := z03 h211
  have j215 := z0v i213
  refine W.pure (v := (z2z w194 (Int.toNat x201 * 1))) rfl rfl (z3i el22 sz9 (oo rfl ((fr204 77 rfl).trans rfl)) (oo rfl t209) (z0f (RT.mono _ s207 f196)) j215.1 j215.2.1) (W.load1 (v := (.string x212)) (r := []) rfl rfl ag9 (z0g rfl (At.str (At.le (At.le (z1q f196 j215.2.2) s207 s207) (zAf _) O206.fro))) (W.q1 (.string x212) rfl (.nil (.seq (.region (W.pure (v := (padd (.pointer (some ⟨b2, 0, none⟩)) 0)) rfl rfl (z04 z7w (oo rfl ((fr204 1 rfl).trans ((fr144 1 rfl).trans ((fr113 1 rfl).trans ((fr50 1 rfl).trans rfl))))) (O206.atVar (j := 4) rfl)) ?_))))))
  obtain ⟨w216, p217, f218⟩ := At.sl (At.proj (O206.atVar (j := 4) rfl) z1h)
  refine W.load1 (v := w216) (r := []) rfl rfl ag22 (z0g rfl p217) (W.q2 (.string x212) rfl ?_)
  obtain ⟨x219, i220, h221⟩ := z03 h214
  refine W.lo rfl rfl (Lo.cP rfl (fn := Tryz.f18) (by kernel_rfl) rfl (mc rfl (mc rfl mn)) O206 (fun L' O' => z8o K w216 p0.Nodes f218 x212 O' _ i220)) ?_
  rintro v228 H229 ⟨G222, O223, s224, sm227, rfl⟩
  refine W.pure (v := (.bool (!x219))) rfl rfl (z13 (a := x219) (oo rfl rfl)) (.nil (.cond (b := (!x219)) rfl rfl (fun g230 => ?_) (fun g230 => ?_)))
  rotate_left
  .have h239 := z11 g230 h221
   refine .skip (.region (W.q3 (.int .i64 (z0n .i64 (x201 + 1))) t209 rfl (W.q2 (.int .i64 (z0n .i64 (x201 + 1))) rfl (.nil ?_))))
   exact ⟨k200, zAg _, ⟨z0n .i64 (x201 + 1), _, h239, O223, (zAe s207 s224), rfl⟩⟩
  have h231 := z01 g230 h221
  refine .seq (.region (W.q1 (.int .i64 6) rfl (.nil (.ret ?_))))
  have O232 : Ow G222 H229 (eSl w181 9 rS x174.2 :: eVar b161 63 T_Item x153 :: eSl w131 63 T_Item x123 :: eVar b2 29 T_Network p0 :: L) := O223.drop 0
  have O233 : Ow G222 H229 (eVar b161 63 T_Item x153 :: eSl w131 63 T_Item x123 :: eVar b2 29 T_Network p0 :: L) := O232.drop 0
  have O234 : Ow G222 H229 (eSl w131 63 T_Item x123 :: eVar b2 29 T_Network p0 :: L) := O233.drop 0
  have O235 : Ow G222 H229 (eVar b2 29 T_Network p0 :: L) := O234.drop 0
  have O236 : Ow G222 H229 (L) := O235.drop 0
  obtain rfl := zAa h231
  have h237 := z08 (z36 h199)
  obtain rfl := zAa h237
  have h238 := z08 (z36 h138)
  obtain rfl := zAa h238
  exact z3t kr (v1 := (.int .i64 6)) (by rfl) (z0w (by rfl) (by exact rfl)) O236 (zAe s53 (zAe s116 (zAe s128 (zAe s147 (zAe s179 (zAe s207 s224)))))) rfl
 rintro σ241 H242 fr243 ⟨G244, rfl, O245, s246⟩
 have h248 := z5z (z4d h199)
 refine .seq (.seq ?_)
 obtain ⟨q249, h250, h251⟩ := z03 h248
 refine AW.midT (fun σ' H' => ∃ (y1 : Bool) (G' : GM), y1 = q249 /\ Ow G' H' (eVar b62 22 rV w181 :: eSl w181 9 rS x174.2 :: eVar b161 63 T_Item x153 :: eSl w131 63 T_Item x123 :: eVar b2 29 T_Network p0 :: L) /\ GM.le G244 G' /\ σ' 101 = .bool y1) ?_ ?_
 .refine .draw2 (M := [0, 1, 3, 7, 15, 31, 63, 7, 135, 391, 903, 2047, 4095]) mixed (by kernel_rfl) (by kernel_rfl) fun H252 N256 x253 F255 => ?_
  have O254 := O245.ext x253
  refine D2.pure (v := (padd (.pointer (some ⟨b161, 0, none⟩)) 2)) rfl rfl (z04 zgd (oo rfl ((fr243 9 rfl).trans rfl)) (O254.atVar (j := 2) rfl)) (D2.load1' (v := (.bool x153.apart)) (r := []) rfl rfl ag4 (z0g rfl (At.bool (At.proj (O254.atVar (j := 2) rfl) z96))) z0a (D2.q2 (.bool x153.apart) rfl (D2.splitAt (t := 91) (b := x153.apart) rfl (fun g257 gv258 => ?_) (fun g257 gv258 => ?_))))
  rotate_left
  .have h274 := z11 g257 h250
   refine D2.skip (gk rfl rfl gv258 rfl) rfl (D2.skip (gk rfl rfl gv258 rfl) rfl (D2.skip (gk rfl rfl gv258 rfl) rfl (D2.skip (gk rfl rfl gv258 rfl) rfl (D2.skip (gk rfl rfl gv258 rfl) rfl (D2.skip (gk rfl rfl gv258 rfl) rfl (D2.skip (gk rfl rfl gv258 rfl) rfl ?_))))))
   refine D2.skip (gk rfl rfl gv258 rfl) rfl (D2.skip (gk rfl rfl gv258 rfl) rfl (D2.pure (v := (.bool false)) rfl rfl (z4a (oo rfl gv258) (oo rfl rfl)) (.nil ?_)))
   obtain rfl := zAa h274
   exact ⟨false, _, rfl, O254, (zAf _), rfl⟩
  have h259 := z01 g257 h250
  refine D2.pure (v := (padd (.pointer (some ⟨b161, 0, none⟩)) 1)) (gk rfl rfl gv258 rfl) rfl (z04 ze2 (oo rfl ((fr243 9 rfl).trans rfl)) (O254.atVar (j := 2) rfl)) ?_
  obtain ⟨w260, p261, f262⟩ := At.sl (At.proj (O254.atVar (j := 2) rfl) z55)
  refine D2.load1' (v := w260) (r := []) (gk rfl rfl gv258 rfl) rfl ag22 (z0g rfl p261) z0a ?_
  obtain ⟨x263, i264, h265⟩ := z03 h259
  have j266 := z0v i264
  refine D2.pure (v := (z2z w260 (Int.toNat 0 * 1))) (gk rfl rfl gv258 rfl) rfl (z3i el22 sz9 (oo rfl rfl) (oo rfl rfl) (z0f f262) j266.1 j266.2.1) (D2.load1' (v := (.string x263)) (r := []) (gk rfl rfl gv258 rfl) rfl ag9 (z0g rfl (At.str (At.le (z1q f262 j266.2.2) (zAf _) O254.fro))) z0a (D2.pure (v := (padd (.pointer (some ⟨b161, 0, none⟩)) 1)) (gk rfl rfl gv258 rfl) rfl (z04 ze2 (oo rfl ((fr243 9 rfl).trans rfl)) (O254.atVar (j := 2) rfl)) ?_))
  obtain ⟨w267, p268, f269⟩ := At.sl (At.proj (O254.atVar (j := 2) rfl) z55)
  refine D2.load1' (v := w267) (r := []) (gk rfl rfl gv258 rfl) rfl ag22 (z0g rfl p268) z0a ?_
  obtain ⟨x270, i271, h272⟩ := z03 h265
  have j273 := z0v i271
  refine D2.pure (v := (z2z w267 (Int.toNat 1 * 1))) (gk rfl rfl gv258 rfl) rfl (z3i el22 sz9 (oo rfl rfl) (oo rfl rfl) (z0f f269) j273.1 j273.2.1) (D2.load1' (v := (.string x270)) (r := []) (gk rfl rfl gv258 rfl) rfl ag9 (z0g rfl (At.str (At.le (z1q f269 j273.2.2) (zAf _) O254.fro))) z0a (D2.pure (v := (.bool (sEq x263 x270))) (gk rfl rfl gv258 rfl) rfl (z7v (oo rfl rfl) (oo rfl rfl)) (D2.pure (v := (.bool (sEq x263 x270))) rfl rfl (z3g (oo rfl gv258) (oo rfl rfl)) (.nil ?_))))
  obtain rfl := zAa h272
  exact ⟨sEq x263 x270, _, rfl, O254, (zAf _), rfl⟩
 rintro σ276 H277 fr278 ⟨x275, G279, rfl, O280, s281, t283⟩
 have h284 := z08 h251
 refine .cond (b := x275) rfl t283 (fun g285 => ?_) (fun g285 => ?_)
 .have h286 := z01 g285 h284
  refine .seq (.region (W.q1 (.int .i64 3) rfl (.nil (.ret ?_))))
  have O287 : Ow G279 H277 (eSl w181 9 rS x174.2 :: eVar b161 63 T_Item x153 :: eSl w131 63 T_Item x123 :: eVar b2 29 T_Network p0 :: L) := O280.drop 0
  have O288 : Ow G279 H277 (eVar b161 63 T_Item x153 :: eSl w131 63 T_Item x123 :: eVar b2 29 T_Network p0 :: L) := O287.drop 0
  have O289 : Ow G279 H277 (eSl w131 63 T_Item x123 :: eVar b2 29 T_Network p0 :: L) := O288.drop 0
  have O290 : Ow G279 H277 (eVar b2 29 T_Network p0 :: L) := O289.drop 0
  have O291 : Ow G279 H277 (L) := O290.drop 0
  obtain rfl := zAa h286
  have h292 := z08 (z36 h138)
  obtain rfl := zAa h292
  exact z3t kr (v1 := (.int .i64 3)) (by rfl) (z0w (by rfl) (by exact rfl)) O291 (zAe s53 (zAe s116 (zAe s128 (zAe s147 (zAe s179 (zAe s246 s281)))))) rfl
 have h293 := z11 g285 h284
 refine .skip (.seq (.region (W.pure (v := (padd (.pointer (some ⟨b161, 0, none⟩)) 3)) rfl rfl (z04 zge (oo rfl ((fr278 9 rfl).trans ((fr243 9 rfl).trans rfl))) (O280.atVar (j := 2) rfl)) (W.load1 (v := (.bool x153.bad)) (r := []) rfl rfl ag4 (z0g rfl (At.bool (At.proj (O280.atVar (j := 2) rfl) zbp))) (.nil (.cond (b := x153.bad) rfl rfl (fun g294 => ?_) (fun g294 => ?_)))))))
 .have h295 := z01 g294 h293
  refine .seq (.region (W.q1 (.int .i64 4) rfl (.nil (.ret ?_))))
  have O296 : Ow G279 H277 (eSl w181 9 rS x174.2 :: eVar b161 63 T_Item x153 :: eSl w131 63 T_Item x123 :: eVar b2 29 T_Network p0 :: L) := O280.drop 0
  have O297 : Ow G279 H277 (eVar b161 63 T_Item x153 :: eSl w131 63 T_Item x123 :: eVar b2 29 T_Network p0 :: L) := O296.drop 0
  have O298 : Ow G279 H277 (eSl w131 63 T_Item x123 :: eVar b2 29 T_Network p0 :: L) := O297.drop 0
  have O299 : Ow G279 H277 (eVar b2 29 T_Network p0 :: L) := O298.drop 0
  have O300 : Ow G279 H277 (L) := O299.drop 0
  obtain rfl := zAa h295
  have h301 := z08 (z36 h138)
  obtain rfl := zAa h301
  exact z3t kr (v1 := (.int .i64 4)) (by rfl) (z0w (by rfl) (by exact rfl)) O300 (zAe s53 (zAe s116 (zAe s128 (zAe s147 (zAe s179 (zAe s246 s281)))))) rfl
 have h302 := z11 g294 h293
 refine .skip (.region (W.q3 (.int .i64 (z0n .i64 (x141 + 1))) ((fr278 65 rfl).trans ((fr243 65 rfl).trans t150)) rfl (W.q2 (.int .i64 (z0n .i64 (x141 + 1))) rfl (.nil ?_))))
 have O303 : Ow G279 H277 (eVar b62 22 rV w181 :: eSl w181 9 rS x174.2 :: eSl w131 63 T_Item x123 :: eVar b2 29 T_Network p0 :: L) := O280.drop 2
 have O304 : Ow G279 H277 (eVar b2 29 T_Network p0 :: eVar b62 22 rV w181 :: eSl w181 9 rS x174.2 :: eSl w131 63 T_Item x123 :: L) := O303.front (j := 3) rfl
 have O305 : Ow G279 H277 (eSl w181 9 rS x174.2 :: eVar b2 29 T_Network p0 :: eVar b62 22 rV w181 :: eSl w131 63 T_Item x123 :: L) := O304.front (j := 2) rfl
 have O306 : Ow G279 H277 (eVar b62 22 rV w181 :: eSl w181 9 rS x174.2 :: eVar b2 29 T_Network p0 :: eSl w131 63 T_Item x123 :: L) := O305.front (j := 2) rfl
 have O307 : Ow G279 H277 (eSl w131 63 T_Item x123 :: eVar b62 22 rV w181 :: eSl w181 9 rS x174.2 :: eVar b2 29 T_Network p0 :: L) := O306.front (j := 3) rfl
 exact ⟨k139, zAg _, ⟨x174.2, z0n .i64 (x141 + 1), w181, _, h302, O307, (zAe s147 (zAe s179 (zAe s246 s281))), rfl⟩⟩
def z0i (K : Nat) (p0 : List Int) (p1 : List Int) : Nat -> Int -> Option (Bool ⊕ Unit)
  | 0, _ => none
  | k + 1, x8 => (if (decide (x8 < (List.length p0 : Int))) = true then ((idx p0 x8).bind fun x24 => ((idx p1 x8).bind fun x28 => (if (x24 != x28) = true then some (.inl false) else z0i K p0 p1 k (z0n .i64 (x8 + 1))))) else some (.inr ()))
def z1j (K : Nat) (p0 : List Int) (p1 : List Int) : Option Bool := (if ((List.length p0 : Int) != (List.length p1 : Int)) = true then some false else (z42 (z0i K p0 p1 K 0) (tu1 fun a45 => some a45) (tu0 (some true))))
theorem z41 (v0 : Value) (p0 : List Int) (hp0 : (rSl (rI .i64)).rep G [v0] p0) (v1 : Value) (p1 : List Int) (hp1 : (rSl (rI .i64)).rep G [v1] p1) (O : Ow G H (L)) (r : Bool) (h : z1j K p0 p1 = some r) :
    CR Tryz.prog 7 [v0, v1] G H (L) (fun v G' _ => v = .bool r) := by
 unfold z1j at h
 refine CR.og (n := 26) (fn := Tryz.f7) (by kernel_rfl) rfl rfl fun R kr => (.seq (.region (W.q1 (.bool false) rfl (.nil (.seq (.seq ?_))))))
 refine .region (W.q2 v0 rfl (W.pure (v := (.int .i64 (List.length p0 : Int))) rfl rfl (z1g (oo rfl rfl) (z0f hp0) (z02 el30)) (W.q2 v1 rfl (W.pure (v := (.int .i64 (List.length p1 : Int))) rfl rfl (z1g (oo rfl rfl) (z0f hp1) (z02 el30)) (W.q3 (.bool ((List.length p0 : Int) != (List.length p1 : Int))) rfl rfl (.nil ?_))))))
 refine .cond (b := ((List.length p0 : Int) != (List.length p1 : Int))) rfl rfl (fun g1 => ?_) (fun g1 => ?_)
 .have h2 := z01 g1 h
  refine .seq (.region (W.q1 (.bool false) rfl (.nil (.ret ?_))))
  obtain rfl := zAa h2
  exact z3t kr (v1 := (.bool false)) (by rfl) (z0w (by rfl) (by exact rfl)) O (zAf _) rfl
 have h3 := z11 g1 h
 refine .skip (.seq (.seq (.region (W.q2 v0 rfl (W.pure (v := (.int .i64 (List.length p0 : Int))) rfl rfl (z1g (oo rfl rfl) (z0f hp0) (z02 el30)) (W.q2 (.int .i64 0) rfl ?_))))))
 refine .nil ?_
 obtain ⟨q4, h5, h6⟩ := z1o h3
 refine AW.midT (fun σ' H' => ∃  (G' : GM), (.inr ()) = q4 /\ Ow G' H' (L) /\ GM.le G G') ?_ ?_
 rotate_left
 .rintro σ37 H38 fr39 ⟨G40, rfl, O41, s42⟩
  have h44 := z5z (z4d h6)
  refine .seq (.region (W.q1 (.bool true) rfl (.nil (.ret ?_))))
  obtain rfl := zAa h44
  exact z3t kr (v1 := (.bool true)) (by rfl) (z0w (by rfl) (by exact rfl)) O41 s42 rfl
 refine .block (AW.loop (α := Nat) (fun k' σ' H' => ∃ (y1 : Int) (G' : GM), z0i K p0 p1 k' y1 = some q4 /\ Ow G' H' (L) /\ GM.le G G' /\ σ' 13 = .int .i64 y1) (fun k' => k') K ⟨0, _, h5, O, (zAf _), rfl⟩ ?_)
 rintro k7
 rintro σ9 H10 fr11 ⟨x8, G12, h15, O13, s14, t16⟩
 rcases k7 with _ | k7
 .exact z06 h15
 rw [z0i] at h15
 refine .seq (.region (W.q3 (.bool (decide (x8 < (List.length p0 : Int)))) t16 ((fr11 12 rfl).trans rfl) (.nil (.seq (.cond (b := decide (x8 < (List.length p0 : Int))) rfl rfl (fun g17 => ?_) (fun g17 => ?_))))))
 rotate_left
 .have h36 := z11 g17 h15
  refine .exit ?_
  obtain rfl := zAa h36
  exact ⟨_, rfl, O13, s14⟩
 have h18 := z01 g17 h15
 refine .skip (.seq (.block (.seq (.region (W.q2 _ t16 (W.q1 (.int .i64 x8) rfl ?_))))))
 refine .nil (.seq (.draw2 (M := [0, 0, 3, 7, 0, 0, 48, 112, 255]) mixed (by kernel_rfl) (by kernel_rfl) fun H19 N23 x20 F22 => ?_))
 have O21 := O13.ext x20
 refine D2.q2 v0 ((fr11 0 rfl).trans rfl) (D2.q2 (.int .i64 x8) rfl ?_)
 obtain ⟨x24, i25, h26⟩ := z03 h18
 have j27 := z0v i25
 refine D2.pure (v := (z2z v0 (Int.toNat x8 * 1))) rfl rfl (z3i el30 sz3 (oo rfl rfl) (oo rfl rfl) (z0f (RT.mono _ s14 hp0)) j27.1 j27.2.1) (D2.load1' (v := (.int .i64 x24)) (r := []) rfl rfl ag3 (z0g rfl (At.int (At.le (At.le (z1q hp0 j27.2.2) s14 s14) (zAf _) O21.fro))) z0a (D2.q2 v1 ((fr11 1 rfl).trans rfl) (D2.q2 (.int .i64 x8) rfl ?_)))
 obtain ⟨x28, i29, h30⟩ := z03 h26
 have j31 := z0v i29
 refine D2.pure (v := (z2z v1 (Int.toNat x8 * 1))) rfl rfl (z3i el30 sz3 (oo rfl rfl) (oo rfl rfl) (z0f (RT.mono _ s14 hp1)) j31.1 j31.2.1) (D2.load1' (v := (.int .i64 x28)) (r := []) rfl rfl ag3 (z0g rfl (At.int (At.le (At.le (z1q hp1 j31.2.2) s14 s14) (zAf _) O21.fro))) z0a (D2.q3 (.bool (x24 != x28)) rfl rfl (.nil (.cond (b := (x24 != x28)) rfl rfl (fun g32 => ?_) (fun g32 => ?_)))))
 rotate_left
 .have h35 := z11 g32 h30
  refine .skip (.region (W.q3 (.int .i64 (z0n .i64 (x8 + 1))) t16 rfl (W.q2 (.int .i64 (z0n .i64 (x8 + 1))) rfl (.nil ?_))))
  exact ⟨k7, zAg _, ⟨z0n .i64 (x8 + 1), _, h35, O21, s14, rfl⟩⟩
 have h33 := z01 g32 h30
 refine .seq (.region (W.q1 (.bool false) rfl (.nil (.ret ?_))))
 obtain rfl := zAa h33
 have h34 := z08 (z36 h6)
 obtain rfl := zAa h34
 exact z3t kr (v1 := (.bool false)) (by rfl) (z0w (by rfl) (by exact rfl)) O21 s14 rfl
end Go.Am.Tryz
/- Typed functions with the same answers as the program's, and the walks that show it. -/
namespace Go.Am.Tryz
open Go Go.Am Go.Proofs
def z0p (K : Nat) (p0 : Network) (p1 : List Int) : Nat -> Int -> Int -> Option (Int)
  | 0, _, _ => none
  | k + 1, x106, x107 => (if (decide (x107 < (List.length p0.Gens : Int))) = true then (Option.bind (((idx p0.Gens x107).bind fun x122 => (Option.bind (((idx p1 x107).bind fun x146 => (if (x146 != 0) = true then ((idx p1 x107).bind fun x153 => (if (decide (x153 >= x122.Least)) = true then ((idx p1 x107).bind fun x160 => some (!(decide (x160 <= x122.Most)))) else some true)) else some false))) (tu1 fun x166 => (if x166 = true then some 17 else some x106))))) (tu1 fun x181 => z0p K p0 p1 k x181 (z0n .i64 (x107 + 1)))) else some x106)
def z0m (K : Nat) (p0 : Network) (p2 : List Int) : Nat -> Int -> Int -> Option (Int)
  | 0, _, _ => none
  | k + 1, x209, x210 => (if (decide (x210 < (List.length p0.Stores : Int))) = true then (Option.bind (((idx p0.Stores x210).bind fun x225 => (Option.bind (((idx p2 x210).bind fun x249 => (if (decide (x249 >= (z0n .i64 (-x225.Charge)))) = true then ((idx p2 x210).bind fun x256 => some (!(decide (x256 <= x225.Discharge)))) else some true))) (tu1 fun x261 => (if x261 = true then some 17 else some x209))))) (tu1 fun x276 => z0m K p0 p2 k x276 (z0n .i64 (x210 + 1)))) else some x209)
def z0q (K : Nat) (p0 : Network) (p1 : List Int) (x335 : zAd) : Nat -> Int -> Int -> Option (Int)
  | 0, _, _ => none
  | k + 1, x346, x347 => (if (decide (x347 < (List.length p0.Gens : Int))) = true then (Option.bind (((idx p0.Gens x347).bind fun x362 => (if (sEq x362.Node x335) = true then ((idx p1 x347).bind fun x380 => some (z0n .i64 (x346 + x380))) else some x346))) (tu1 fun x387 => z0q K p0 p1 x335 k x387 (z0n .i64 (x347 + 1)))) else some x346)
def z0r (K : Nat) (p0 : Network) (p2 : List Int) (x335 : zAd) : Nat -> Int -> Int -> Option (Int)
  | 0, _, _ => none
  | k + 1, x415, x416 => (if (decide (x416 < (List.length p0.Stores : Int))) = true then (Option.bind (((idx p0.Stores x416).bind fun x431 => (if (sEq x431.Node x335) = true then ((idx p2 x416).bind fun x449 => some (z0n .i64 (x415 + x449))) else some x415))) (tu1 fun x456 => z0r K p0 p2 x335 k x456 (z0n .i64 (x416 + 1)))) else some x415)
def z0o (K : Nat) (p0 : Network) (x335 : zAd) : Nat -> Int -> Int -> Option (Int)
  | 0, _, _ => none
  | k + 1, x484, x485 => (if (decide (x485 < (List.length p0.Loads : Int))) = true then (Option.bind (((idx p0.Loads x485).bind fun x500 => (if (sEq x500.Node x335) = true then some (z0n .i64 (x484 - x500.Demand)) else some x484))) (tu1 fun x521 => z0o K p0 x335 k x521 (z0n .i64 (x485 + 1)))) else some x484)
def z0s (K : Nat) (p0 : Network) (p1 : List Int) (p2 : List Int) : Nat -> List Int -> Int -> Int -> Option (List Int × Int)
  | 0, _, _, _ => none
  | k + 1, x321, x322, x323 => (if (decide (x323 < (List.length p0.Nodes : Int))) = true then ((idx p0.Nodes x323).bind fun x335 => (Option.bind (z0q K p0 p1 x335 K 0 0) (tu1 fun x398 => (Option.bind (z0r K p0 p2 x335 K x398 0) (tu1 fun x467 => (Option.bind (z0o K p0 x335 K x467 0) (tu1 fun x532 => (Option.bind ((if (decide (x532 < (-100000))) = true then some true else some (decide (x532 > 100000)))) (tu1 fun x549 => (Option.bind ((if x549 = true then some 4 else some x322)) (tu1 fun x565 => (if List.length x321 + List.length [x532] <= 16777216 then z0s K p0 p1 p2 k (x321 ++ [x532]) x565 (z0n .i64 (x323 + 1)) else none)))))))))))) else some (x321, x322))
def z24 (K : Nat) (p0 : Network) (p1 : List Int) (p2 : List Int) : Option Bool := ((z46 K ).bind fun x6 => (if (!x6) = true then some false else ((z3d K p0 p1 p2).bind fun x24 => ((z3r K p0).bind fun x40 => (Option.bind ((if (x40 == 0) = true then (if ((List.length p1 : Int) != (List.length p0.Gens : Int)) = true then some true else some ((List.length p2 : Int) != (List.length p0.Stores : Int))) else some false)) (tu1 fun x68 => (Option.bind ((if x68 = true then some 3 else some x40)) (tu1 fun x84 => (Option.bind ((if (x84 == 0) = true then (Option.bind (z0p K p0 p1 K x84 0) (tu1 fun x192 => (Option.bind (z0m K p0 p2 K x192 0) (tu1 fun x287 => some x287)))) else some x84)) (tu1 fun x298 => (Option.bind ((if (x298 == 0) = true then (Option.bind (z0s K p0 p1 p2 K [] x298 0) (tu2 fun x593 x594 => some (x594, x593))) else some (x298, []))) (tu2 fun x609 x610 => (if (x609 != 0) = true then (Option.bind ((if (x24.2 == x609) = true then some ((List.length x24.1 : Int) == 0) else some false)) (tu1 fun x630 => some x630)) else (Option.bind ((if (x24.2 == 0) = true then ((z1j K x24.1 x610).bind fun x649 => some x649) else some false)) (tu1 fun x661 => some x661)))))))))))))))
theorem z56 (K : Nat) {G : GM} {H : AH} {L : List Pc} (v0 : List Value) (p0 : Network) (hp0 : T_Network.rep G v0 p0) (v1 : Value) (p1 : List Int) (hp1 : (rSl (rI .i64)).rep G [v1] p1) (v2 : Value) (p2 : List Int) (hp2 : (rSl (rI .i64)).rep G [v2] p2) (O : Ow G H (L)) (r : Bool) (h : z24 K p0 p1 p2 = some r) :
    CR Tryz.prog 3 [.agg (List.toArray v0), v1, v2] G H (L) (fun v G' _ => v = .bool r) := by
 unfold z24 at h
 refine CR.og (n := 206) (fn := Tryz.f3) (by kernel_rfl) rfl rfl fun R kr => (.seq (.region (W.lo rfl rfl (Lo.box (r := T_Network) (x0 := p0) (v := (.agg (List.toArray v0))) rfl rfl hp0 O) ?_)))
 rintro v4 H5 ⟨b2, rfl, O1, sm3⟩
 refine W.q1 (.bool false) rfl (.nil (.seq (.seq (.region ?_))))
 obtain ⟨x6, i7, h8⟩ := z03 h
 refine W.lo rfl rfl (Lo.cP rfl (fn := Tryz.f4) (by kernel_rfl) rfl mn O1 (fun L' O' => z66 K  O' _ i7)) ?_
 rintro v15 H16 ⟨G9, O10, s11, sm14, rfl⟩
 refine W.pure (v := (.bool (!x6))) rfl rfl (z13 (a := x6) (oo rfl rfl)) (.nil (.cond (b := (!x6)) rfl rfl (fun g17 => ?_) (fun g17 => ?_)))
 .have h18 := z01 g17 h8
  refine .seq (.region (W.q1 (.bool false) rfl (.nil (.ret ?_))))
  have O19 : Ow G9 H16 (L) := O10.drop 0
  obtain rfl := zAa h18
  exact z3t kr (v1 := (.bool false)) (by rfl) (z0w (by rfl) (by exact rfl)) O19 s11 rfl
 have h20 := z11 g17 h8
 refine .skip (.seq (.region ?_))
 obtain ⟨c21, p22, f23⟩ := (O10.atVar (j := 0) rfl)
 refine W.loadA (cs := c21) rfl rfl ag29 sz29 (z0g rfl p22) (RT.len _ f23) (W.q2 v1 rfl (W.q2 v2 rfl ?_))
 obtain ⟨x24, i25, h26⟩ := z03 h20
 refine W.lo rfl rfl (Lo.callPF (ps := []) (pw := fun w => [eSl w 3 (rI .i64) x24.1]) rfl (fn := Tryz.f5) (by kernel_rfl) rfl (mc rfl (mc rfl (mc rfl mn))) O10 (fun L' O' => z6u K c21 p0 f23 v1 p1 (RT.mono _ s11 hp1) v2 p2 (RT.mono _ s11 hp2) O' _ i25)) ?_
 rintro v35 H36 ⟨w32, G27, O28, s29, sm34, rfl⟩
 refine W.q2 (.tuple #[w32, (.int .i64 x24.2)]) rfl (W.pure (v := w32) rfl rfl (z9o (oo rfl rfl) rfl) (W.pure (v := (.int .i64 x24.2)) rfl rfl (z9o (oo rfl rfl) rfl) (W.q1 w32 rfl (W.q1 (.int .i64 x24.2) rfl (.nil (.seq ?_))))))
 refine .region ?_
 obtain ⟨c37, p38, f39⟩ := (O28.atVar (j := 1) rfl)
 refine W.loadA (cs := c37) rfl rfl ag29 sz29 (z0g rfl p38) (RT.len _ f39) ?_
 obtain ⟨x40, i41, h42⟩ := z03 h26
 refine W.lo rfl rfl (Lo.cP rfl (fn := Tryz.f6) (by kernel_rfl) rfl (mc rfl mn) O28 (fun L' O' => z72 K c37 p0 f39 O' _ i41)) ?_
 rintro v49 H50 ⟨G43, O44, s45, sm48, rfl⟩
 refine W.q1 (.int .i64 x40) rfl (.nil (.seq (.seq ?_)))
 obtain ⟨q51, h52, h53⟩ := z03 h42
 refine AW.midT (fun σ' H' => ∃ (y1 : Bool) (G' : GM), y1 = q51 /\ Ow G' H' (eSl w32 3 (rI .i64) x24.1 :: eVar b2 29 T_Network p0 :: L) /\ GM.le G43 G' /\ σ' 52 = .bool y1) ?_ ?_
 .refine .region (W.q2 (.int .i64 x40) rfl (W.q3 (.bool (x40 == 0)) rfl rfl (W.q2 (.bool (x40 == 0)) rfl (W.splitAt (t := 37) (b := (x40 == 0)) rfl (fun g54 gv55 => ?_) (fun g54 gv55 => ?_)))))
  rotate_left
  .have h67 := z11 g54 h52
   refine W.q6 rfl gv55 (W.q6 rfl gv55 (W.q6 rfl gv55 (W.q6 rfl gv55 (W.q6 rfl gv55 (W.q6 rfl gv55 (W.q6 rfl gv55 ?_))))))
   refine W.skipU rfl rfl rfl rfl (W.skipU rfl rfl rfl rfl (W.skipU rfl rfl rfl rfl (W.skipU rfl rfl rfl rfl (W.skipU rfl rfl rfl rfl (W.skipU rfl rfl rfl rfl (W.q6 rfl gv55 ?_))))))
   refine W.q5 (.bool false) gv55 rfl (.nil ?_)
   obtain rfl := zAa h67
   exact ⟨false, _, rfl, O44, (zAf _), rfl⟩
  have h56 := z01 g54 h52
  refine W.q2 (hg := gk rfl rfl gv55 rfl) v1 rfl (W.pure (v := (.int .i64 (List.length p1 : Int))) (gk rfl rfl gv55 rfl) rfl (z1g (oo rfl rfl) (z0f (RT.mono _ (zAe s11 (zAe s29 s45)) hp1)) (z02 el30)) (W.pure (v := (padd (.pointer (some ⟨b2, 0, none⟩)) 3)) (gk rfl rfl gv55 rfl) rfl (z04 z7x (oo rfl rfl) (O44.atVar (j := 1) rfl)) ?_))
  obtain ⟨w57, p58, f59⟩ := At.sl (At.proj (O44.atVar (j := 1) rfl) z1l)
  refine W.load1 (v := w57) (r := []) (gk rfl rfl gv55 rfl) rfl ag25 (z0g rfl p58) (W.pure (v := (.int .i64 (List.length p0.Gens : Int))) (gk rfl rfl gv55 rfl) rfl (z1g (oo rfl rfl) (z0f f59) (z02 el25)) (W.q3 (hg := gk rfl rfl gv55 rfl) (.bool ((List.length p1 : Int) != (List.length p0.Gens : Int))) rfl rfl (W.q2 (hg := gk rfl rfl gv55 rfl) (.bool ((List.length p1 : Int) != (List.length p0.Gens : Int))) rfl (W.splitAt (t := 44) (b := ((List.length p1 : Int) != (List.length p0.Gens : Int))) rfl (fun g60 gv61 => ?_) (fun g60 gv61 => ?_)))))
  .have h62 := z01 g60 h56
   refine W.q6 rfl gv61 (W.q6 rfl gv61 (W.q6 rfl gv61 (W.q6 rfl gv61 (W.q6 rfl gv61 (W.q6 rfl gv61 (W.q4 (hg := gk rfl rfl gv55 rfl) (.bool true) gv61 rfl ?_))))))
   refine W.q4 (.bool true) gv55 rfl (.nil ?_)
   obtain rfl := zAa h62
   exact ⟨true, _, rfl, O44, (zAf _), rfl⟩
  have h63 := z11 g60 h56
  refine W.q2 (hg := gk rfl rfl gv61 rfl) v2 rfl (W.pure (v := (.int .i64 (List.length p2 : Int))) (gk rfl rfl gv61 rfl) rfl (z1g (oo rfl rfl) (z0f (RT.mono _ (zAe s11 (zAe s29 s45)) hp2)) (z02 el30)) (W.pure (v := (padd (.pointer (some ⟨b2, 0, none⟩)) 5)) (gk rfl rfl gv61 rfl) rfl (z04 z7y (oo rfl rfl) (O44.atVar (j := 1) rfl)) ?_))
  obtain ⟨w64, p65, f66⟩ := At.sl (At.proj (O44.atVar (j := 1) rfl) z19)
  refine W.load1 (v := w64) (r := []) (gk rfl rfl gv61 rfl) rfl ag27 (z0g rfl p65) (W.pure (v := (.int .i64 (List.length p0.Stores : Int))) (gk rfl rfl gv61 rfl) rfl (z1g (oo rfl rfl) (z0f f66) (z02 el27)) (W.q3 (hg := gk rfl rfl gv61 rfl) (.bool ((List.length p2 : Int) != (List.length p0.Stores : Int))) rfl rfl (W.q5 (hg := gk rfl rfl gv55 rfl) (.bool ((List.length p2 : Int) != (List.length p0.Stores : Int))) gv61 rfl (W.q4 (.bool ((List.length p2 : Int) != (List.length p0.Stores : Int))) gv55 rfl (.nil ?_)))))
  obtain rfl := zAa h63
  exact ⟨((List.length p2 : Int) != (List.length p0.Stores : Int)), _, rfl, O44, (zAf _), rfl⟩
 rintro σ69 H70 fr71 ⟨x68, G72, rfl, O73, s74, t76⟩
 have h77 := z08 h53
 obtain ⟨q78, h79, h80⟩ := z03 h77
 refine AW.midT (fun σ' H' => ∃ (y1 : Int) (G' : GM), y1 = q78 /\ Ow G' H' (eSl w32 3 (rI .i64) x24.1 :: eVar b2 29 T_Network p0 :: L) /\ GM.le G72 G' /\ σ' 9 = .int .i64 y1) ?_ ?_
 .refine .cond (b := x68) rfl t76 (fun g81 => ?_) (fun g81 => ?_)
  rotate_left
  .have h83 := z11 g81 h79
   refine .skip ?_
   obtain rfl := zAa h83
   exact ⟨x40, _, rfl, O73, (zAf _), ((fr71 9 rfl).trans rfl)⟩
  have h82 := z01 g81 h79
  refine .region (W.q1 (.int .i64 3) rfl (.nil ?_))
  obtain rfl := zAa h82
  exact ⟨3, _, rfl, O73, (zAf _), rfl⟩
 rintro σ85 H86 fr87 ⟨x84, G88, rfl, O89, s90, t92⟩
 have h93 := z08 h80
 refine .seq (.region (W.q1 (.slice none 0 0) rfl (.nil (.seq (.seq (.region ?_))))))
 refine W.q2 _ t92 (W.q3 (.bool (x84 == 0)) rfl rfl (.nil ?_))
 obtain ⟨q94, h95, h96⟩ := z03 h93
 refine AW.midT (fun σ' H' => ∃ (y1 : Int) (G' : GM), y1 = q94 /\ Ow G' H' (eSl w32 3 (rI .i64) x24.1 :: eVar b2 29 T_Network p0 :: L) /\ GM.le G88 G' /\ σ' 9 = .int .i64 y1) ?_ ?_
 .refine .cond (b := (x84 == 0)) rfl rfl (fun g97 => ?_) (fun g97 => ?_)
  rotate_left
  .have h297 := z11 g97 h95
   refine .skip ?_
   obtain rfl := zAa h297
   exact ⟨x84, _, rfl, O89, (zAf _), t92⟩
  have h98 := z01 g97 h95
  refine .seq (.seq (.region (W.pure (v := (padd (.pointer (some ⟨b2, 0, none⟩)) 3)) rfl rfl (z04 z7x (oo rfl ((fr87 3 rfl).trans ((fr71 3 rfl).trans rfl))) (O89.atVar (j := 1) rfl)) ?_)))
  obtain ⟨w99, p100, f101⟩ := At.sl (At.proj (O89.atVar (j := 1) rfl) z1l)
  refine W.load1 (v := w99) (r := []) rfl rfl ag25 (z0g rfl p100) (W.pure (v := (.int .i64 (List.length p0.Gens : Int))) rfl rfl (z1g (oo rfl rfl) (z0f f101) (z02 el25)) (W.q2 (.int .i64 0) rfl (.nil ?_)))
  obtain ⟨q102, h103, h104⟩ := z03 h98
  refine AW.midT (fun σ' H' => ∃ (y1 : Int) (G' : GM), y1 = q102 /\ Ow G' H' (eSl w32 3 (rI .i64) x24.1 :: eVar b2 29 T_Network p0 :: L) /\ GM.le G88 G' /\ σ' 9 = .int .i64 y1) ?_ ?_
  rotate_left
  .rintro σ193 H194 fr195 ⟨x192, G196, rfl, O197, s198, t200⟩
   have h201 := z08 h104
   refine .seq (.region (W.pure (v := (padd (.pointer (some ⟨b2, 0, none⟩)) 5)) rfl rfl (z04 z7y (oo rfl ((fr195 3 rfl).trans ((fr87 3 rfl).trans ((fr71 3 rfl).trans rfl)))) (O197.atVar (j := 1) rfl)) ?_))
   obtain ⟨w202, p203, f204⟩ := At.sl (At.proj (O197.atVar (j := 1) rfl) z19)
   refine W.load1 (v := w202) (r := []) rfl rfl ag27 (z0g rfl p203) (W.pure (v := (.int .i64 (List.length p0.Stores : Int))) rfl rfl (z1g (oo rfl rfl) (z0f f204) (z02 el27)) (W.q2 (.int .i64 0) rfl (.nil ?_)))
   obtain ⟨q205, h206, h207⟩ := z03 h201
   refine AW.midT (fun σ' H' => ∃ (y1 : Int) (G' : GM), y1 = q205 /\ Ow G' H' (eSl w32 3 (rI .i64) x24.1 :: eVar b2 29 T_Network p0 :: L) /\ GM.le G196 G' /\ σ' 9 = .int .i64 y1) ?_ ?_
   rotate_left
   .rintro σ288 H289 fr290 ⟨x287, G291, rfl, O292, s293, t295⟩
    have h296 := z08 h207
    obtain rfl := zAa h296
    exact ⟨x287, _, rfl, O292, (zAe s198 s293), t295⟩
   refine .block (AW.loop (α := Nat) (fun k' σ' H' => ∃ (y1 : Int) (y2 : Int) (G' : GM), z0m K p0 p2 k' y1 y2 = some q205 /\ Ow G' H' (eSl w32 3 (rI .i64) x24.1 :: eVar b2 29 T_Network p0 :: L) /\ GM.le G196 G' /\ σ' 9 = .int .i64 y1 /\ σ' 91 = .int .i64 y2) (fun k' => k') K ⟨x192, 0, _, h206, O197, (zAf _), t200, rfl⟩ ?_)
   rintro k208
   rintro σ211 H212 fr213 ⟨x209, x210, G214, h217, O215, s216, t218, t219⟩
   rcases k208 with _ | k208
   .exact z06 h217
   rw [z0m] at h217
   refine .seq (.region (W.q3 (.bool (decide (x210 < (List.length p0.Stores : Int)))) t219 ((fr213 90 rfl).trans rfl) (.nil (.seq (.cond (b := decide (x210 < (List.length p0.Stores : Int))) rfl rfl (fun g220 => ?_) (fun g220 => ?_))))))
   rotate_left
   .have h286 := z11 g220 h217
    refine .exit ?_
    obtain rfl := zAa h286
    exact ⟨x209, _, rfl, O215, s216, t218⟩
   have h221 := z01 g220 h217
   refine .skip (.seq ?_)
   obtain ⟨q222, h223, h224⟩ := z03 h221
   refine AW.midT (fun σ' H' => ∃ (y1 : Int) (G' : GM), y1 = q222 /\ Ow G' H' (eSl w32 3 (rI .i64) x24.1 :: eVar b2 29 T_Network p0 :: L) /\ GM.le G214 G' /\ σ' 9 = .int .i64 y1) ?_ ?_
   rotate_left
   .rintro σ277 H278 fr279 ⟨x276, G280, rfl, O281, s282, t284⟩
    have h285 := z08 h224
    refine .region (W.q3 (.int .i64 (z0n .i64 (x210 + 1))) ((fr279 91 rfl).trans t219) rfl (W.q2 (.int .i64 (z0n .i64 (x210 + 1))) rfl (.nil ?_)))
    exact ⟨k208, zAg _, ⟨x276, z0n .i64 (x210 + 1), _, h285, O281, (zAe s216 s282), t284, rfl⟩⟩
   refine .block (.seq (.region (W.q2 _ t219 ?_)))
   obtain ⟨x225, i226, h227⟩ := z03 h223
   have j228 := z0v i226
   refine W.pure (v := (z2z w202 (Int.toNat x210 * 5))) rfl rfl (z3i el27 sz39 (oo rfl ((fr213 89 rfl).trans rfl)) (oo rfl t219) (z0f (RT.mono _ s216 f204)) j228.1 j228.2.1) ?_
   obtain ⟨c229, p230, f231⟩ := (At.le (At.le (z1q f204 j228.2.2) s216 s216) (zAf _) O215.fro)
   refine W.loadA (cs := c229) rfl rfl ag39 sz39 (z0g rfl p230) (RT.len _ f231) (W.lo rfl rfl (Lo.alloc (r := T_Store) (x0 := (Store.mk ByteArray.empty ByteArray.empty 0 0 0)) ze39 (by kernel_rfl) z8m O215) ?_)
   rintro v235 H236 ⟨b233, rfl, O232, sm234⟩
   refine W.q1 (.int .i64 x210) rfl (W.lo rfl rfl (Lo.storeVar (j := 0) (s := T_Store) (y0 := x225) (v := (.agg (List.toArray c229))) (o := 0) rfl ((Put.at (Put.self _) _ _)) rfl sz39 rfl (by omega) rfl f231 O232) ?_)
   rintro v239 H240 ⟨O237, sm238⟩
   refine .nil (.seq ?_)
   obtain ⟨q241, h242, h243⟩ := z03 h227
   refine AW.midT (fun σ' H' => ∃ (y1 : Bool) (G' : GM), y1 = q241 /\ Ow G' H' (eVar b233 39 T_Store x225 :: eSl w32 3 (rI .i64) x24.1 :: eVar b2 29 T_Network p0 :: L) /\ GM.le G214 G' /\ σ' 113 = .bool y1) ?_ ?_
   rotate_left
   .rintro σ262 H263 fr264 ⟨x261, G265, rfl, O266, s267, t269⟩
    have h270 := z08 h243
    refine .cond (b := x261) rfl t269 (fun g271 => ?_) (fun g271 => ?_)
    rotate_left
    .have h274 := z11 g271 h270
     refine .skip ?_
     have O275 : Ow G265 H263 (eSl w32 3 (rI .i64) x24.1 :: eVar b2 29 T_Network p0 :: L) := O266.drop 0
     obtain rfl := zAa h274
     exact ⟨x209, _, rfl, O275, s267, ((fr264 9 rfl).trans t218)⟩
    have h272 := z01 g271 h270
    refine .region (W.q1 (.int .i64 17) rfl (.nil ?_))
    have O273 : Ow G265 H263 (eSl w32 3 (rI .i64) x24.1 :: eVar b2 29 T_Network p0 :: L) := O266.drop 0
    obtain rfl := zAa h272
    exact ⟨17, _, rfl, O273, s267, rfl⟩
   refine .draw2 (M := [0, 0, 3, 7, 0, 16, 48, 127, 255, 511, 511, 2047, 4095, 511, 8703, 32767, 65535, 131071]) mixed (by kernel_rfl) (by kernel_rfl) fun H244 N248 x245 F247 => ?_
   have O246 := O237.ext x245
   refine D2.q2 v2 ((fr213 2 rfl).trans ((fr195 2 rfl).trans ((fr87 2 rfl).trans ((fr71 2 rfl).trans rfl)))) (D2.q2 (.int .i64 x210) rfl ?_)
   obtain ⟨x249, i250, h251⟩ := z03 h242
   have j252 := z0v i250
   refine D2.pure (v := (z2z v2 (Int.toNat x210 * 1))) rfl rfl (z3i el30 sz3 (oo rfl rfl) (oo rfl rfl) (z0f (RT.mono _ (zAe s11 (zAe s29 (zAe s45 (zAe s74 (zAe s90 (zAe s198 s216)))))) hp2)) j252.1 j252.2.1) (D2.load1' (v := (.int .i64 x249)) (r := []) rfl rfl ag3 (z0g rfl (At.int (At.le (At.le (z1q hp2 j252.2.2) (zAe s11 (zAe s29 (zAe s45 (zAe s74 (zAe s90 (zAe s198 s216)))))) (zAe s11 (zAe s29 (zAe s45 (zAe s74 (zAe s90 (zAe s198 s216))))))) (zAf _) O246.fro))) z0a (D2.pure (v := (padd (.pointer (some ⟨b233, 0, none⟩)) 2)) rfl rfl (z04 zd1 (oo rfl rfl) (O246.atVar (j := 0) rfl)) (D2.load1' (v := (.int .i64 x225.Charge)) (r := []) rfl rfl ag3 (z0g rfl (At.int (At.proj (O246.atVar (j := 0) rfl) z3l))) z0a (D2.pure (v := (.int .i64 (z0n .i64 (-x225.Charge)))) rfl rfl (zgb (oo rfl rfl)) (D2.q3 (.bool (decide (x249 >= (z0n .i64 (-x225.Charge))))) rfl rfl (D2.q2 (.bool (decide (x249 >= (z0n .i64 (-x225.Charge))))) rfl ?_))))))
   refine D2.splitAt (t := 104) (b := decide (x249 >= (z0n .i64 (-x225.Charge)))) rfl (fun g253 gv254 => ?_) (fun g253 gv254 => ?_)
   rotate_left
   .have h260 := z11 g253 h251
    refine D2.skip (gk rfl rfl gv254 rfl) rfl (D2.skip (gk rfl rfl gv254 rfl) rfl (D2.skip (gk rfl rfl gv254 rfl) rfl (D2.skip (gk rfl rfl gv254 rfl) rfl (D2.skip (gk rfl rfl gv254 rfl) rfl (D2.skip (gk rfl rfl gv254 rfl) rfl (D2.skip (gk rfl rfl gv254 rfl) rfl ?_))))))
    refine D2.pure (v := (.bool false)) rfl rfl (z4a (oo rfl gv254) (oo rfl rfl)) (D2.pure (v := (.bool true)) rfl rfl (z13 (a := false) (oo rfl rfl)) (.nil ?_))
    obtain rfl := zAa h260
    exact ⟨true, _, rfl, O246, (zAf _), rfl⟩
   have h255 := z01 g253 h251
   refine D2.q2 (hg := gk rfl rfl gv254 rfl) v2 ((fr213 2 rfl).trans ((fr195 2 rfl).trans ((fr87 2 rfl).trans ((fr71 2 rfl).trans rfl)))) (D2.q2 (hg := gk rfl rfl gv254 rfl) (.int .i64 x210) rfl ?_)
   obtain ⟨x256, i257, h258⟩ := z03 h255
   have j259 := z0v i257
   refine D2.pure (v := (z2z v2 (Int.toNat x210 * 1))) (gk rfl rfl gv254 rfl) rfl (z3i el30 sz3 (oo rfl rfl) (oo rfl rfl) (z0f (RT.mono _ (zAe s11 (zAe s29 (zAe s45 (zAe s74 (zAe s90 (zAe s198 s216)))))) hp2)) j259.1 j259.2.1) (D2.load1' (v := (.int .i64 x256)) (r := []) (gk rfl rfl gv254 rfl) rfl ag3 (z0g rfl (At.int (At.le (At.le (z1q hp2 j259.2.2) (zAe s11 (zAe s29 (zAe s45 (zAe s74 (zAe s90 (zAe s198 s216)))))) (zAe s11 (zAe s29 (zAe s45 (zAe s74 (zAe s90 (zAe s198 s216))))))) (zAf _) O246.fro))) z0a (D2.pure (v := (padd (.pointer (some ⟨b233, 0, none⟩)) 3)) (gk rfl rfl gv254 rfl) rfl (z04 zd2 (oo rfl rfl) (O246.atVar (j := 0) rfl)) (D2.load1' (v := (.int .i64 x225.Discharge)) (r := []) (gk rfl rfl gv254 rfl) rfl ag3 (z0g rfl (At.int (At.proj (O246.atVar (j := 0) rfl) z2m))) z0a (D2.q3 (hg := gk rfl rfl gv254 rfl) (.bool (decide (x256 <= x225.Discharge))) rfl rfl (D2.pure (v := (.bool (decide (x256 <= x225.Discharge)))) rfl rfl (z3g (oo rfl gv254) (oo rfl rfl)) (D2.pure (v := (.bool (!(decide (x256 <= x225.Discharge))))) rfl rfl (z13 (a := decide (x256 <= x225.Discharge)) (oo rfl rfl)) ?_))))))
   refine .nil ?_
   obtain rfl := zAa h258
   exact ⟨(!(decide (x256 <= x225.Discharge))), _, rfl, O246, (zAf _), rfl⟩
  refine .block (AW.loop (α := Nat) (fun k' σ' H' => ∃ (y1 : Int) (y2 : Int) (G' : GM), z0p K p0 p1 k' y1 y2 = some q102 /\ Ow G' H' (eSl w32 3 (rI .i64) x24.1 :: eVar b2 29 T_Network p0 :: L) /\ GM.le G88 G' /\ σ' 9 = .int .i64 y1 /\ σ' 58 = .int .i64 y2) (fun k' => k') K ⟨x84, 0, _, h103, O89, (zAf _), t92, rfl⟩ ?_)
  rintro k105
  rintro σ108 H109 fr110 ⟨x106, x107, G111, h114, O112, s113, t115, t116⟩
  rcases k105 with _ | k105
  .exact z06 h114
  rw [z0p] at h114
  refine .seq (.region (W.q3 (.bool (decide (x107 < (List.length p0.Gens : Int)))) t116 ((fr110 57 rfl).trans rfl) (.nil (.seq (.cond (b := decide (x107 < (List.length p0.Gens : Int))) rfl rfl (fun g117 => ?_) (fun g117 => ?_))))))
  rotate_left
  .have h191 := z11 g117 h114
   refine .exit ?_
   obtain rfl := zAa h191
   exact ⟨x106, _, rfl, O112, s113, t115⟩
  have h118 := z01 g117 h114
  refine .skip (.seq ?_)
  obtain ⟨q119, h120, h121⟩ := z03 h118
  refine AW.midT (fun σ' H' => ∃ (y1 : Int) (G' : GM), y1 = q119 /\ Ow G' H' (eSl w32 3 (rI .i64) x24.1 :: eVar b2 29 T_Network p0 :: L) /\ GM.le G111 G' /\ σ' 9 = .int .i64 y1) ?_ ?_
  rotate_left
  .rintro σ182 H183 fr184 ⟨x181, G185, rfl, O186, s187, t189⟩
   have h190 := z08 h121
   refine .region (W.q3 (.int .i64 (z0n .i64 (x107 + 1))) ((fr184 58 rfl).trans t116) rfl (W.q2 (.int .i64 (z0n .i64 (x107 + 1))) rfl (.nil ?_)))
   exact ⟨k105, zAg _, ⟨x181, z0n .i64 (x107 + 1), _, h190, O186, (zAe s113 s187), t189, rfl⟩⟩
  refine .block (.seq (.region (W.q2 _ t116 ?_)))
  obtain ⟨x122, i123, h124⟩ := z03 h120
  have j125 := z0v i123
  refine W.pure (v := (z2z w99 (Int.toNat x107 * 5))) rfl rfl (z3i el25 sz37 (oo rfl ((fr110 56 rfl).trans rfl)) (oo rfl t116) (z0f (RT.mono _ s113 f101)) j125.1 j125.2.1) ?_
  obtain ⟨c126, p127, f128⟩ := (At.le (At.le (z1q f101 j125.2.2) s113 s113) (zAf _) O112.fro)
  refine W.loadA (cs := c126) rfl rfl ag37 sz37 (z0g rfl p127) (RT.len _ f128) (W.lo rfl rfl (Lo.alloc (r := T_Gen) (x0 := (Gen.mk ByteArray.empty ByteArray.empty 0 0 0)) ze37 (by kernel_rfl) zft O112) ?_)
  rintro v132 H133 ⟨b130, rfl, O129, sm131⟩
  refine W.q1 (.int .i64 x107) rfl (W.lo rfl rfl (Lo.storeVar (j := 0) (s := T_Gen) (y0 := x122) (v := (.agg (List.toArray c126))) (o := 0) rfl ((Put.at (Put.self _) _ _)) rfl sz37 rfl (by omega) rfl f128 O129) ?_)
  rintro v136 H137 ⟨O134, sm135⟩
  refine .nil (.seq ?_)
  obtain ⟨q138, h139, h140⟩ := z03 h124
  refine AW.midT (fun σ' H' => ∃ (y1 : Bool) (G' : GM), y1 = q138 /\ Ow G' H' (eVar b130 37 T_Gen x122 :: eSl w32 3 (rI .i64) x24.1 :: eVar b2 29 T_Network p0 :: L) /\ GM.le G111 G' /\ σ' 86 = .bool y1) ?_ ?_
  rotate_left
  .rintro σ167 H168 fr169 ⟨x166, G170, rfl, O171, s172, t174⟩
   have h175 := z08 h140
   refine .cond (b := x166) rfl t174 (fun g176 => ?_) (fun g176 => ?_)
   rotate_left
   .have h179 := z11 g176 h175
    refine .skip ?_
    have O180 : Ow G170 H168 (eSl w32 3 (rI .i64) x24.1 :: eVar b2 29 T_Network p0 :: L) := O171.drop 0
    obtain rfl := zAa h179
    exact ⟨x106, _, rfl, O180, s172, ((fr169 9 rfl).trans t115)⟩
   have h177 := z01 g176 h175
   refine .region (W.q1 (.int .i64 17) rfl (.nil ?_))
   have O178 : Ow G170 H168 (eSl w32 3 (rI .i64) x24.1 :: eVar b2 29 T_Network p0 :: L) := O171.drop 0
   obtain rfl := zAa h177
   exact ⟨17, _, rfl, O178, s172, rfl⟩
  refine .draw2 (M := [0, 0, 3, 7, 15, 31, 63, 63, 255, 511, 63, 1087, 4095, 8191, 16383, 16383, 65535, 131071, 16383, 278527, 1048575, 2097151, 4194303, 8388607]) mixed (by kernel_rfl) (by kernel_rfl) fun H141 N145 x142 F144 => ?_
  have O143 := O134.ext x142
  refine D2.q2 v1 ((fr110 1 rfl).trans ((fr87 1 rfl).trans ((fr71 1 rfl).trans rfl))) (D2.q2 (.int .i64 x107) rfl ?_)
  obtain ⟨x146, i147, h148⟩ := z03 h139
  have j149 := z0v i147
  refine D2.pure (v := (z2z v1 (Int.toNat x107 * 1))) rfl rfl (z3i el30 sz3 (oo rfl rfl) (oo rfl rfl) (z0f (RT.mono _ (zAe s11 (zAe s29 (zAe s45 (zAe s74 (zAe s90 s113))))) hp1)) j149.1 j149.2.1) (D2.load1' (v := (.int .i64 x146)) (r := []) rfl rfl ag3 (z0g rfl (At.int (At.le (At.le (z1q hp1 j149.2.2) (zAe s11 (zAe s29 (zAe s45 (zAe s74 (zAe s90 s113))))) (zAe s11 (zAe s29 (zAe s45 (zAe s74 (zAe s90 s113)))))) (zAf _) O143.fro))) z0a (D2.q3 (.bool (x146 != 0)) rfl rfl (D2.q2 (.bool (x146 != 0)) rfl (D2.splitAt (t := 68) (b := (x146 != 0)) rfl (fun g150 gv151 => ?_) (fun g150 gv151 => ?_)))))
  rotate_left
  .have h165 := z11 g150 h148
   refine D2.skip (gk rfl rfl gv151 rfl) rfl (D2.skip (gk rfl rfl gv151 rfl) rfl (D2.skip (gk rfl rfl gv151 rfl) rfl (D2.skip (gk rfl rfl gv151 rfl) rfl (D2.skip (gk rfl rfl gv151 rfl) rfl (D2.skip (gk rfl rfl gv151 rfl) rfl (D2.skip (gk rfl rfl gv151 rfl) rfl ?_))))))
   refine D2.skip (gk rfl rfl gv151 rfl) rfl (D2.skipU rfl rfl rfl rfl (D2.skipU rfl rfl rfl rfl (D2.skipU rfl rfl rfl rfl (D2.skipU rfl rfl rfl rfl (D2.skipU rfl rfl rfl rfl (D2.skipU rfl rfl rfl rfl ?_))))))
   refine D2.skipU rfl rfl rfl rfl (D2.skip (gk rfl rfl gv151 rfl) rfl (D2.skip (gk rfl rfl gv151 rfl) rfl (D2.pure (v := (.bool false)) rfl rfl (z4a (oo rfl gv151) (oo rfl rfl)) (.nil ?_))))
   obtain rfl := zAa h165
   exact ⟨false, _, rfl, O143, (zAf _), rfl⟩
  have h152 := z01 g150 h148
  refine D2.q2 (hg := gk rfl rfl gv151 rfl) v1 ((fr110 1 rfl).trans ((fr87 1 rfl).trans ((fr71 1 rfl).trans rfl))) (D2.q2 (hg := gk rfl rfl gv151 rfl) (.int .i64 x107) rfl ?_)
  obtain ⟨x153, i154, h155⟩ := z03 h152
  have j156 := z0v i154
  refine D2.pure (v := (z2z v1 (Int.toNat x107 * 1))) (gk rfl rfl gv151 rfl) rfl (z3i el30 sz3 (oo rfl rfl) (oo rfl rfl) (z0f (RT.mono _ (zAe s11 (zAe s29 (zAe s45 (zAe s74 (zAe s90 s113))))) hp1)) j156.1 j156.2.1) (D2.load1' (v := (.int .i64 x153)) (r := []) (gk rfl rfl gv151 rfl) rfl ag3 (z0g rfl (At.int (At.le (At.le (z1q hp1 j156.2.2) (zAe s11 (zAe s29 (zAe s45 (zAe s74 (zAe s90 s113))))) (zAe s11 (zAe s29 (zAe s45 (zAe s74 (zAe s90 s113)))))) (zAf _) O143.fro))) z0a (D2.pure (v := (padd (.pointer (some ⟨b130, 0, none⟩)) 2)) (gk rfl rfl gv151 rfl) rfl (z04 za7 (oo rfl rfl) (O143.atVar (j := 0) rfl)) (D2.load1' (v := (.int .i64 x122.Least)) (r := []) (gk rfl rfl gv151 rfl) rfl ag3 (z0g rfl (At.int (At.proj (O143.atVar (j := 0) rfl) z3n))) z0a (D2.q3 (hg := gk rfl rfl gv151 rfl) (.bool (decide (x153 >= x122.Least))) rfl rfl (D2.q2 (hg := gk rfl rfl gv151 rfl) (.bool (decide (x153 >= x122.Least))) rfl (D2.splitAt (t := 76) (b := decide (x153 >= x122.Least)) rfl (fun g157 gv158 => ?_) (fun g157 gv158 => ?_)))))))
  rotate_left
  .have h164 := z11 g157 h155
   refine D2.skip (gk rfl rfl gv158 rfl) rfl (D2.skip (gk rfl rfl gv158 rfl) rfl (D2.skip (gk rfl rfl gv158 rfl) rfl (D2.skip (gk rfl rfl gv158 rfl) rfl (D2.skip (gk rfl rfl gv158 rfl) rfl (D2.skip (gk rfl rfl gv158 rfl) rfl (D2.skip (gk rfl rfl gv158 rfl) rfl ?_))))))
   refine D2.pure (v := (.bool false)) (gk rfl rfl gv151 rfl) rfl (z4a (oo rfl gv158) (oo rfl rfl)) (D2.pure (v := (.bool true)) (gk rfl rfl gv151 rfl) rfl (z13 (a := false) (oo rfl rfl)) (D2.pure (v := (.bool true)) rfl rfl (z3g (oo rfl gv151) (oo rfl rfl)) (.nil ?_)))
   obtain rfl := zAa h164
   exact ⟨true, _, rfl, O143, (zAf _), rfl⟩
  have h159 := z01 g157 h155
  refine D2.q2 (hg := gk rfl rfl gv158 rfl) v1 ((fr110 1 rfl).trans ((fr87 1 rfl).trans ((fr71 1 rfl).trans rfl))) (D2.q2 (hg := gk rfl rfl gv158 rfl) (.int .i64 x107) rfl ?_)
  obtain ⟨x160, i161, h162⟩ := z03 h159
  have j163 := z0v i161
  refine D2.pure (v := (z2z v1 (Int.toNat x107 * 1))) (gk rfl rfl gv158 rfl) rfl (z3i el30 sz3 (oo rfl rfl) (oo rfl rfl) (z0f (RT.mono _ (zAe s11 (zAe s29 (zAe s45 (zAe s74 (zAe s90 s113))))) hp1)) j163.1 j163.2.1) (D2.load1' (v := (.int .i64 x160)) (r := []) (gk rfl rfl gv158 rfl) rfl ag3 (z0g rfl (At.int (At.le (At.le (z1q hp1 j163.2.2) (zAe s11 (zAe s29 (zAe s45 (zAe s74 (zAe s90 s113))))) (zAe s11 (zAe s29 (zAe s45 (zAe s74 (zAe s90 s113)))))) (zAf _) O143.fro))) z0a (D2.pure (v := (padd (.pointer (some ⟨b130, 0, none⟩)) 3)) (gk rfl rfl gv158 rfl) rfl (z04 zcz (oo rfl rfl) (O143.atVar (j := 0) rfl)) (D2.load1' (v := (.int .i64 x122.Most)) (r := []) (gk rfl rfl gv158 rfl) rfl ag3 (z0g rfl (At.int (At.proj (O143.atVar (j := 0) rfl) z5k))) z0a (D2.q3 (hg := gk rfl rfl gv158 rfl) (.bool (decide (x160 <= x122.Most))) rfl rfl (D2.pure (v := (.bool (decide (x160 <= x122.Most)))) (gk rfl rfl gv151 rfl) rfl (z3g (oo rfl gv158) (oo rfl rfl)) (D2.pure (v := (.bool (!(decide (x160 <= x122.Most))))) (gk rfl rfl gv151 rfl) rfl (z13 (a := decide (x160 <= x122.Most)) (oo rfl rfl)) ?_))))))
  refine D2.pure (v := (.bool (!(decide (x160 <= x122.Most))))) rfl rfl (z3g (oo rfl gv151) (oo rfl rfl)) (.nil ?_)
  obtain rfl := zAa h162
  exact ⟨(!(decide (x160 <= x122.Most))), _, rfl, O143, (zAf _), rfl⟩
 rintro σ299 H300 fr301 ⟨x298, G302, rfl, O303, s304, t306⟩
 have h307 := z08 h96
 refine .seq (.seq (.region (W.q2 _ t306 (W.q3 (.bool (x298 == 0)) rfl rfl (.nil ?_)))))
 obtain ⟨q308, h309, h310⟩ := z03 h307
 refine AW.midT (fun σ' H' => ∃ (y1 : Int) (y2 : List Int) (G' : GM), (y1, y2) = q308 /\ Ow G' H' (eSl w32 3 (rI .i64) x24.1 :: eVar b2 29 T_Network p0 :: L) /\ GM.le G302 G' /\ σ' 9 = .int .i64 y1 /\ (rSl (rI .i64)).rep G' [σ' 10] y2) ?_ ?_
 rotate_left
 .rintro σ611 H612 fr613 ⟨x609, x610, G614, rfl, O615, s616, t618, f619⟩
  have h620 := z3b h310
  refine .seq (.seq (.region (W.q2 _ t618 (W.q3 (.bool (x609 != 0)) rfl rfl (.nil (.cond (b := (x609 != 0)) rfl rfl (fun g621 => ?_) (fun g621 => ?_)))))))
  rotate_left
  .have h642 := z11 g621 h620
   refine .skip (.seq ?_)
   obtain ⟨q643, h644, h645⟩ := z03 h642
   refine AW.midT (fun σ' H' => ∃ (y1 : Bool) (G' : GM), y1 = q643 /\ Ow G' H' (eSl w32 3 (rI .i64) x24.1 :: eVar b2 29 T_Network p0 :: L) /\ GM.le G614 G' /\ σ' 6 = .bool y1) ?_ ?_
   rotate_left
   .rintro σ662 H663 fr664 ⟨x661, G665, rfl, O666, s667, t669⟩
    have h670 := z08 h645
    refine .ret ?_
    have O671 : Ow G665 H663 (eVar b2 29 T_Network p0 :: L) := O666.drop 0
    have O672 : Ow G665 H663 (L) := O671.drop 0
    obtain rfl := zAa h670
    exact z3t kr (v1 := (.bool x661)) (by rfl) (z0w (by rfl) (by exact t669)) O672 (zAe s11 (zAe s29 (zAe s45 (zAe s74 (zAe s90 (zAe s304 (zAe s616 s667))))))) rfl
   refine .region (W.q2 (.int .i64 x24.2) ((fr613 8 rfl).trans ((fr301 8 rfl).trans ((fr87 8 rfl).trans ((fr71 8 rfl).trans rfl)))) (W.q3 (.bool (x24.2 == 0)) rfl rfl (W.q2 (.bool (x24.2 == 0)) rfl (W.splitAt (t := 201) (b := (x24.2 == 0)) rfl (fun g646 gv647 => ?_) (fun g646 gv647 => ?_)))))
   rotate_left
   .have h660 := z11 g646 h644
    refine W.q6 rfl gv647 (W.q6 rfl gv647 (W.q6 rfl gv647 (W.q5 (.bool false) gv647 rfl (W.q1 (.bool false) rfl (.nil ?_)))))
    obtain rfl := zAa h660
    exact ⟨false, _, rfl, O615, (zAf _), rfl⟩
   have h648 := z01 g646 h644
   refine W.q2 (hg := gk rfl rfl gv647 rfl) w32 ((fr613 7 rfl).trans ((fr301 7 rfl).trans ((fr87 7 rfl).trans ((fr71 7 rfl).trans rfl)))) (W.q2 (hg := gk rfl rfl gv647 rfl) (σ611 10) rfl ?_)
   obtain ⟨x649, i650, h651⟩ := z03 h648
   refine W.lo (gk rfl rfl gv647 rfl) rfl (Lo.callB (j := 0) rfl rfl (fn := Tryz.f7) (by kernel_rfl) rfl (mc rfl (mc rfl mn)) O615 (fun G' L' hG O' hB => z41 K w32 x24.1 hB (σ611 10) x610 (RT.mono _ hG f619) O' _ i650)) ?_
   rintro v658 H659 ⟨G652, O653, s654, sm657, rfl⟩
   refine W.q4 (.bool x649) gv647 rfl (W.q1 (.bool x649) rfl (.nil ?_))
   obtain rfl := zAa h651
   exact ⟨x649, _, rfl, O653, s654, rfl⟩
  have h622 := z01 g621 h620
  refine .seq ?_
  obtain ⟨q623, h624, h625⟩ := z03 h622
  refine AW.midT (fun σ' H' => ∃ (y1 : Bool) (G' : GM), y1 = q623 /\ Ow G' H' (eSl w32 3 (rI .i64) x24.1 :: eVar b2 29 T_Network p0 :: L) /\ GM.le G614 G' /\ σ' 6 = .bool y1) ?_ ?_
  rotate_left
  .rintro σ631 H632 fr633 ⟨x630, G634, rfl, O635, s636, t638⟩
   have h639 := z08 h625
   refine .ret ?_
   have O640 : Ow G634 H632 (eVar b2 29 T_Network p0 :: L) := O635.drop 0
   have O641 : Ow G634 H632 (L) := O640.drop 0
   obtain rfl := zAa h639
   exact z3t kr (v1 := (.bool x630)) (by rfl) (z0w (by rfl) (by exact t638)) O641 (zAe s11 (zAe s29 (zAe s45 (zAe s74 (zAe s90 (zAe s304 (zAe s616 s636))))))) rfl
  refine .region (W.q2 (.int .i64 x24.2) ((fr613 8 rfl).trans ((fr301 8 rfl).trans ((fr87 8 rfl).trans ((fr71 8 rfl).trans rfl)))) (W.q2 _ t618 (W.q3 (.bool (x24.2 == x609)) rfl rfl (W.q2 (.bool (x24.2 == x609)) rfl (W.splitAt (t := 194) (b := (x24.2 == x609)) rfl (fun g626 gv627 => ?_) (fun g626 gv627 => ?_))))))
  rotate_left
  .have h629 := z11 g626 h624
   refine W.q6 rfl gv627 (W.q6 rfl gv627 (W.q6 rfl gv627 (W.q5 (.bool false) gv627 rfl (W.q1 (.bool false) rfl (.nil ?_)))))
   obtain rfl := zAa h629
   exact ⟨false, _, rfl, O615, (zAf _), rfl⟩
  have h628 := z01 g626 h624
  refine W.q2 (hg := gk rfl rfl gv627 rfl) w32 ((fr613 7 rfl).trans ((fr301 7 rfl).trans ((fr87 7 rfl).trans ((fr71 7 rfl).trans rfl)))) (W.pure (v := (.int .i64 (List.length x24.1 : Int))) (gk rfl rfl gv627 rfl) rfl (z1g (oo rfl rfl) (O615.slLen (j := 0) rfl) (z02 el30)) (W.q3 (hg := gk rfl rfl gv627 rfl) (.bool ((List.length x24.1 : Int) == 0)) rfl rfl (W.q4 (.bool ((List.length x24.1 : Int) == 0)) gv627 rfl (W.q1 (.bool ((List.length x24.1 : Int) == 0)) rfl (.nil ?_)))))
  obtain rfl := zAa h628
  exact ⟨((List.length x24.1 : Int) == 0), _, rfl, O615, (zAf _), rfl⟩
 refine .cond (b := (x298 == 0)) rfl rfl (fun g311 => ?_) (fun g311 => ?_)
 rotate_left
 .have h608 := z11 g311 h309
  refine .skip ?_
  obtain rfl := zAa h608
  exact ⟨x298, [], _, rfl, O303, (zAf _), t306, (zg8 ((fr301 10 rfl).trans rfl) zdz)⟩
 have h312 := z01 g311 h309
 refine .seq (.region (W.pure (v := (padd (.pointer (some ⟨b2, 0, none⟩)) 0)) rfl rfl (z04 z7w (oo rfl ((fr301 3 rfl).trans ((fr87 3 rfl).trans ((fr71 3 rfl).trans rfl)))) (O303.atVar (j := 1) rfl)) ?_))
 obtain ⟨w313, p314, f315⟩ := At.sl (At.proj (O303.atVar (j := 1) rfl) z1h)
 refine W.load1 (v := w313) (r := []) rfl rfl ag22 (z0g rfl p314) (W.pure (v := (.int .i64 (List.length p0.Nodes : Int))) rfl rfl (z1g (oo rfl rfl) (z0f f315) (z02 el22)) (W.q2 (.int .i64 0) rfl (.nil ?_)))
 obtain ⟨q316, h317, h318⟩ := z03 h312
 refine AW.midT (fun σ' H' => ∃ (y1 : List Int) (y2 : Int) (G' : GM), (y1, y2) = q316 /\ Ow G' H' (eSl w32 3 (rI .i64) x24.1 :: eVar b2 29 T_Network p0 :: eSl (σ' 10) 3 (rI .i64) y1 :: L) /\ GM.le G302 G' /\ σ' 9 = .int .i64 y2) ?_ ?_
 rotate_left
 .rintro σ595 H596 fr597 ⟨x593, x594, G598, rfl, O599, s600, t602⟩
  have h603 := z3b h318
  obtain ⟨G604, O605, s606, f607⟩ := O599.frzSl (j := 2) rfl
  obtain rfl := zAa h603
  exact ⟨x594, x593, _, rfl, O605, (zAe s600 s606), t602, f607⟩
 refine .block ?_
 have O319 := O303.nilSl 3 (rI .i64)
 refine AW.loop (α := Nat) (fun k' σ' H' => ∃ (y1 : List Int) (y2 : Int) (y3 : Int) (G' : GM), z0s K p0 p1 p2 k' y1 y2 y3 = some q316 /\ Ow G' H' (eSl (σ' 10) 3 (rI .i64) y1 :: eSl w32 3 (rI .i64) x24.1 :: eVar b2 29 T_Network p0 :: L) /\ GM.le G302 G' /\ σ' 9 = .int .i64 y2 /\ σ' 120 = .int .i64 y3) (fun k' => k') K ⟨[], x298, 0, _, h317, (Ow.reval (j := 0) O319 rfl ((fr301 10 rfl).trans rfl)), (zAf _), t306, rfl⟩ ?_
 rintro k320
 rintro σ324 H325 fr326 ⟨x321, x322, x323, G327, h330, O328, s329, t331, t332⟩
 rcases k320 with _ | k320
 .exact z06 h330
 rw [z0s] at h330
 refine .seq (.region (W.q3 (.bool (decide (x323 < (List.length p0.Nodes : Int)))) t332 ((fr326 119 rfl).trans rfl) (.nil (.seq (.cond (b := decide (x323 < (List.length p0.Nodes : Int))) rfl rfl (fun g333 => ?_) (fun g333 => ?_))))))
 rotate_left
 .have h589 := z11 g333 h330
  refine .exit ?_
  have O590 : Ow G327 H325 (eSl (σ324 10) 3 (rI .i64) x321 :: eSl w32 3 (rI .i64) x24.1 :: eVar b2 29 T_Network p0 :: L) := O328.front (j := 0) rfl
  have O591 : Ow G327 H325 (eVar b2 29 T_Network p0 :: eSl (σ324 10) 3 (rI .i64) x321 :: eSl w32 3 (rI .i64) x24.1 :: L) := O590.front (j := 2) rfl
  have O592 : Ow G327 H325 (eSl w32 3 (rI .i64) x24.1 :: eVar b2 29 T_Network p0 :: eSl (σ324 10) 3 (rI .i64) x321 :: L) := O591.front (j := 2) rfl
  obtain rfl := zAa h589
  exact ⟨x321, x322, _, rfl, O592, s329, t331⟩
 have h334 := z01 g333 h330
 refine .skip (.seq (.block (.seq (.region ?_))))
 obtain ⟨x335, i336, h337⟩ := z03 h334
 have j338 := z0v i336
 refine W.pure (v := (z2z w313 (Int.toNat x323 * 1))) rfl rfl (z3i el22 sz9 (oo rfl ((fr326 118 rfl).trans rfl)) (oo rfl t332) (z0f (RT.mono _ s329 f315)) j338.1 j338.2.1) (W.load1 (v := (.string x335)) (r := []) rfl rfl ag9 (z0g rfl (At.str (At.le (At.le (z1q f315 j338.2.2) s329 s329) (zAf _) O328.fro))) (W.q1 (.string x335) rfl (.nil (.seq (.region (W.q1 (.int .i64 0) rfl ?_))))))
 refine .nil (.seq (.seq (.region (W.pure (v := (padd (.pointer (some ⟨b2, 0, none⟩)) 3)) rfl rfl (z04 z7x (oo rfl ((fr326 3 rfl).trans ((fr301 3 rfl).trans ((fr87 3 rfl).trans ((fr71 3 rfl).trans rfl))))) (O328.atVar (j := 2) rfl)) ?_))))
 obtain ⟨w339, p340, f341⟩ := At.sl (At.proj (O328.atVar (j := 2) rfl) z1l)
 refine W.load1 (v := w339) (r := []) rfl rfl ag25 (z0g rfl p340) (W.pure (v := (.int .i64 (List.length p0.Gens : Int))) rfl rfl (z1g (oo rfl rfl) (z0f f341) (z02 el25)) (W.q2 (.int .i64 0) rfl (.nil ?_)))
 obtain ⟨q342, h343, h344⟩ := z03 h337
 refine AW.midT (fun σ' H' => ∃ (y1 : Int) (G' : GM), y1 = q342 /\ Ow G' H' (eSl (σ324 10) 3 (rI .i64) x321 :: eSl w32 3 (rI .i64) x24.1 :: eVar b2 29 T_Network p0 :: L) /\ GM.le G327 G' /\ σ' 17 = .int .i64 y1) ?_ ?_
 .refine .block (AW.loop (α := Nat) (fun k' σ' H' => ∃ (y1 : Int) (y2 : Int) (G' : GM), z0q K p0 p1 x335 k' y1 y2 = some q342 /\ Ow G' H' (eSl (σ324 10) 3 (rI .i64) x321 :: eSl w32 3 (rI .i64) x24.1 :: eVar b2 29 T_Network p0 :: L) /\ GM.le G327 G' /\ σ' 17 = .int .i64 y1 /\ σ' 127 = .int .i64 y2) (fun k' => k') K ⟨0, 0, _, h343, O328, (zAf _), rfl, rfl⟩ ?_)
  rintro k345
  rintro σ348 H349 fr350 ⟨x346, x347, G351, h354, O352, s353, t355, t356⟩
  rcases k345 with _ | k345
  .exact z06 h354
  rw [z0q] at h354
  refine .seq (.region (W.q3 (.bool (decide (x347 < (List.length p0.Gens : Int)))) t356 ((fr350 126 rfl).trans rfl) (.nil (.seq (.cond (b := decide (x347 < (List.length p0.Gens : Int))) rfl rfl (fun g357 => ?_) (fun g357 => ?_))))))
  rotate_left
  .have h397 := z11 g357 h354
   refine .exit ?_
   obtain rfl := zAa h397
   exact ⟨x346, _, rfl, O352, s353, t355⟩
  have h358 := z01 g357 h354
  refine .skip (.seq ?_)
  obtain ⟨q359, h360, h361⟩ := z03 h358
  refine AW.midT (fun σ' H' => ∃ (y1 : Int) (G' : GM), y1 = q359 /\ Ow G' H' (eSl (σ324 10) 3 (rI .i64) x321 :: eSl w32 3 (rI .i64) x24.1 :: eVar b2 29 T_Network p0 :: L) /\ GM.le G351 G' /\ σ' 17 = .int .i64 y1) ?_ ?_
  rotate_left
  .rintro σ388 H389 fr390 ⟨x387, G391, rfl, O392, s393, t395⟩
   have h396 := z08 h361
   refine .region (W.q3 (.int .i64 (z0n .i64 (x347 + 1))) ((fr390 127 rfl).trans t356) rfl (W.q2 (.int .i64 (z0n .i64 (x347 + 1))) rfl (.nil ?_)))
   exact ⟨k345, zAg _, ⟨x387, z0n .i64 (x347 + 1), _, h396, O392, (zAe s353 s393), t395, rfl⟩⟩
  refine .block (.seq (.region (W.q2 _ t356 ?_)))
  obtain ⟨x362, i363, h364⟩ := z03 h360
  have j365 := z0v i363
  refine W.pure (v := (z2z w339 (Int.toNat x347 * 5))) rfl rfl (z3i el25 sz37 (oo rfl ((fr350 125 rfl).trans rfl)) (oo rfl t356) (z0f (RT.mono _ s353 f341)) j365.1 j365.2.1) ?_
  obtain ⟨c366, p367, f368⟩ := (At.le (At.le (z1q f341 j365.2.2) s353 s353) (zAf _) O352.fro)
  refine W.loadA (cs := c366) rfl rfl ag37 sz37 (z0g rfl p367) (RT.len _ f368) (W.lo rfl rfl (Lo.alloc (r := T_Gen) (x0 := (Gen.mk ByteArray.empty ByteArray.empty 0 0 0)) ze37 (by kernel_rfl) zft O352) ?_)
  rintro v372 H373 ⟨b370, rfl, O369, sm371⟩
  refine W.q1 (.int .i64 x347) rfl (W.lo rfl rfl (Lo.storeVar (j := 0) (s := T_Gen) (y0 := x362) (v := (.agg (List.toArray c366))) (o := 0) rfl ((Put.at (Put.self _) _ _)) rfl sz37 rfl (by omega) rfl f368 O369) ?_)
  rintro v376 H377 ⟨O374, sm375⟩
  refine .nil (.seq (.region (W.pure (v := (padd (.pointer (some ⟨b370, 0, none⟩)) 1)) rfl rfl (z04 zcy (oo rfl rfl) (O374.atVar (j := 0) rfl)) (W.load1 (v := (.string x362.Node)) (r := []) rfl rfl ag9 (z0g rfl (At.str (At.proj (O374.atVar (j := 0) rfl) z5j))) (W.q2 (.string x335) ((fr350 16 rfl).trans rfl) (W.pure (v := (.bool (sEq x362.Node x335))) rfl rfl (z7v (oo rfl rfl) (oo rfl rfl)) ?_))))))
  refine .nil (.cond (b := sEq x362.Node x335) rfl rfl (fun g378 => ?_) (fun g378 => ?_))
  rotate_left
  .have h385 := z11 g378 h364
   refine .skip ?_
   have O386 : Ow G351 H377 (eSl (σ324 10) 3 (rI .i64) x321 :: eSl w32 3 (rI .i64) x24.1 :: eVar b2 29 T_Network p0 :: L) := O374.drop 0
   obtain rfl := zAa h385
   exact ⟨x346, _, rfl, O386, (zAf _), t355⟩
  have h379 := z01 g378 h364
  refine .region (W.q2 _ t355 (W.q2 v1 ((fr350 1 rfl).trans ((fr326 1 rfl).trans ((fr301 1 rfl).trans ((fr87 1 rfl).trans ((fr71 1 rfl).trans rfl))))) (W.q2 (.int .i64 x347) rfl ?_)))
  obtain ⟨x380, i381, h382⟩ := z03 h379
  have j383 := z0v i381
  refine W.pure (v := (z2z v1 (Int.toNat x347 * 1))) rfl rfl (z3i el30 sz3 (oo rfl rfl) (oo rfl rfl) (z0f (RT.mono _ (zAe s11 (zAe s29 (zAe s45 (zAe s74 (zAe s90 (zAe s304 (zAe s329 s353))))))) hp1)) j383.1 j383.2.1) (W.load1 (v := (.int .i64 x380)) (r := []) rfl rfl ag3 (z0g rfl (At.int (At.le (At.le (z1q hp1 j383.2.2) (zAe s11 (zAe s29 (zAe s45 (zAe s74 (zAe s90 (zAe s304 (zAe s329 s353))))))) (zAe s11 (zAe s29 (zAe s45 (zAe s74 (zAe s90 (zAe s304 (zAe s329 s353)))))))) (zAf _) O374.fro))) (W.q3 (.int .i64 (z0n .i64 (x346 + x380))) rfl rfl (W.q1 (.int .i64 (z0n .i64 (x346 + x380))) rfl (.nil ?_))))
  have O384 : Ow G351 H377 (eSl (σ324 10) 3 (rI .i64) x321 :: eSl w32 3 (rI .i64) x24.1 :: eVar b2 29 T_Network p0 :: L) := O374.drop 0
  obtain rfl := zAa h382
  exact ⟨z0n .i64 (x346 + x380), _, rfl, O384, (zAf _), rfl⟩
 rintro σ399 H400 fr401 ⟨x398, G402, rfl, O403, s404, t406⟩
 have h407 := z08 h344
 refine .seq (.seq (.region (W.pure (v := (padd (.pointer (some ⟨b2, 0, none⟩)) 5)) rfl rfl (z04 z7y (oo rfl ((fr401 3 rfl).trans ((fr326 3 rfl).trans ((fr301 3 rfl).trans ((fr87 3 rfl).trans ((fr71 3 rfl).trans rfl)))))) (O403.atVar (j := 2) rfl)) ?_)))
 obtain ⟨w408, p409, f410⟩ := At.sl (At.proj (O403.atVar (j := 2) rfl) z19)
 refine W.load1 (v := w408) (r := []) rfl rfl ag27 (z0g rfl p409) (W.pure (v := (.int .i64 (List.length p0.Stores : Int))) rfl rfl (z1g (oo rfl rfl) (z0f f410) (z02 el27)) (W.q2 (.int .i64 0) rfl (.nil ?_)))
 obtain ⟨q411, h412, h413⟩ := z03 h407
 refine AW.midT (fun σ' H' => ∃ (y1 : Int) (G' : GM), y1 = q411 /\ Ow G' H' (eSl (σ324 10) 3 (rI .i64) x321 :: eSl w32 3 (rI .i64) x24.1 :: eVar b2 29 T_Network p0 :: L) /\ GM.le G402 G' /\ σ' 17 = .int .i64 y1) ?_ ?_
 .refine .block (AW.loop (α := Nat) (fun k' σ' H' => ∃ (y1 : Int) (y2 : Int) (G' : GM), z0r K p0 p2 x335 k' y1 y2 = some q411 /\ Ow G' H' (eSl (σ324 10) 3 (rI .i64) x321 :: eSl w32 3 (rI .i64) x24.1 :: eVar b2 29 T_Network p0 :: L) /\ GM.le G402 G' /\ σ' 17 = .int .i64 y1 /\ σ' 146 = .int .i64 y2) (fun k' => k') K ⟨x398, 0, _, h412, O403, (zAf _), t406, rfl⟩ ?_)
  rintro k414
  rintro σ417 H418 fr419 ⟨x415, x416, G420, h423, O421, s422, t424, t425⟩
  rcases k414 with _ | k414
  .exact z06 h423
  rw [z0r] at h423
  refine .seq (.region (W.q3 (.bool (decide (x416 < (List.length p0.Stores : Int)))) t425 ((fr419 145 rfl).trans rfl) (.nil (.seq (.cond (b := decide (x416 < (List.length p0.Stores : Int))) rfl rfl (fun g426 => ?_) (fun g426 => ?_))))))
  rotate_left
  .have h466 := z11 g426 h423
   refine .exit ?_
   obtain rfl := zAa h466
   exact ⟨x415, _, rfl, O421, s422, t424⟩
  have h427 := z01 g426 h423
  refine .skip (.seq ?_)
  obtain ⟨q428, h429, h430⟩ := z03 h427
  refine AW.midT (fun σ' H' => ∃ (y1 : Int) (G' : GM), y1 = q428 /\ Ow G' H' (eSl (σ324 10) 3 (rI .i64) x321 :: eSl w32 3 (rI .i64) x24.1 :: eVar b2 29 T_Network p0 :: L) /\ GM.le G420 G' /\ σ' 17 = .int .i64 y1) ?_ ?_
  rotate_left
  .rintro σ457 H458 fr459 ⟨x456, G460, rfl, O461, s462, t464⟩
   have h465 := z08 h430
   refine .region (W.q3 (.int .i64 (z0n .i64 (x416 + 1))) ((fr459 146 rfl).trans t425) rfl (W.q2 (.int .i64 (z0n .i64 (x416 + 1))) rfl (.nil ?_)))
   exact ⟨k414, zAg _, ⟨x456, z0n .i64 (x416 + 1), _, h465, O461, (zAe s422 s462), t464, rfl⟩⟩
  refine .block (.seq (.region (W.q2 _ t425 ?_)))
  obtain ⟨x431, i432, h433⟩ := z03 h429
  have j434 := z0v i432
  refine W.pure (v := (z2z w408 (Int.toNat x416 * 5))) rfl rfl (z3i el27 sz39 (oo rfl ((fr419 144 rfl).trans rfl)) (oo rfl t425) (z0f (RT.mono _ s422 f410)) j434.1 j434.2.1) ?_
  obtain ⟨c435, p436, f437⟩ := (At.le (At.le (z1q f410 j434.2.2) s422 s422) (zAf _) O421.fro)
  refine W.loadA (cs := c435) rfl rfl ag39 sz39 (z0g rfl p436) (RT.len _ f437) (W.lo rfl rfl (Lo.alloc (r := T_Store) (x0 := (Store.mk ByteArray.empty ByteArray.empty 0 0 0)) ze39 (by kernel_rfl) z8m O421) ?_)
  rintro v441 H442 ⟨b439, rfl, O438, sm440⟩
  refine W.q1 (.int .i64 x416) rfl (W.lo rfl rfl (Lo.storeVar (j := 0) (s := T_Store) (y0 := x431) (v := (.agg (List.toArray c435))) (o := 0) rfl ((Put.at (Put.self _) _ _)) rfl sz39 rfl (by omega) rfl f437 O438) ?_)
  rintro v445 H446 ⟨O443, sm444⟩
  refine .nil (.seq (.region (W.pure (v := (padd (.pointer (some ⟨b439, 0, none⟩)) 1)) rfl rfl (z04 zd0 (oo rfl rfl) (O443.atVar (j := 0) rfl)) (W.load1 (v := (.string x431.Node)) (r := []) rfl rfl ag9 (z0g rfl (At.str (At.proj (O443.atVar (j := 0) rfl) z48))) (W.q2 (.string x335) ((fr419 16 rfl).trans ((fr401 16 rfl).trans rfl)) (W.pure (v := (.bool (sEq x431.Node x335))) rfl rfl (z7v (oo rfl rfl) (oo rfl rfl)) ?_))))))
  refine .nil (.cond (b := sEq x431.Node x335) rfl rfl (fun g447 => ?_) (fun g447 => ?_))
  rotate_left
  .have h454 := z11 g447 h433
   refine .skip ?_
   have O455 : Ow G420 H446 (eSl (σ324 10) 3 (rI .i64) x321 :: eSl w32 3 (rI .i64) x24.1 :: eVar b2 29 T_Network p0 :: L) := O443.drop 0
   obtain rfl := zAa h454
   exact ⟨x415, _, rfl, O455, (zAf _), t424⟩
  have h448 := z01 g447 h433
  refine .region (W.q2 _ t424 (W.q2 v2 ((fr419 2 rfl).trans ((fr401 2 rfl).trans ((fr326 2 rfl).trans ((fr301 2 rfl).trans ((fr87 2 rfl).trans ((fr71 2 rfl).trans rfl)))))) (W.q2 (.int .i64 x416) rfl ?_)))
  obtain ⟨x449, i450, h451⟩ := z03 h448
  have j452 := z0v i450
  refine W.pure (v := (z2z v2 (Int.toNat x416 * 1))) rfl rfl (z3i el30 sz3 (oo rfl rfl) (oo rfl rfl) (z0f (RT.mono _ (zAe s11 (zAe s29 (zAe s45 (zAe s74 (zAe s90 (zAe s304 (zAe s329 (zAe s404 s422)))))))) hp2)) j452.1 j452.2.1) (W.load1 (v := (.int .i64 x449)) (r := []) rfl rfl ag3 (z0g rfl (At.int (At.le (At.le (z1q hp2 j452.2.2) (zAe s11 (zAe s29 (zAe s45 (zAe s74 (zAe s90 (zAe s304 (zAe s329 (zAe s404 s422)))))))) (zAe s11 (zAe s29 (zAe s45 (zAe s74 (zAe s90 (zAe s304 (zAe s329 (zAe s404 s422))))))))) (zAf _) O443.fro))) (W.q3 (.int .i64 (z0n .i64 (x415 + x449))) rfl rfl (W.q1 (.int .i64 (z0n .i64 (x415 + x449))) rfl (.nil ?_))))
  have O453 : Ow G420 H446 (eSl (σ324 10) 3 (rI .i64) x321 :: eSl w32 3 (rI .i64) x24.1 :: eVar b2 29 T_Network p0 :: L) := O443.drop 0
  obtain rfl := zAa h451
  exact ⟨z0n .i64 (x415 + x449), _, rfl, O453, (zAf _), rfl⟩
 rintro σ468 H469 fr470 ⟨x467, G471, rfl, O472, s473, t475⟩
 have h476 := z08 h413
 refine .seq (.seq (.region (W.pure (v := (padd (.pointer (some ⟨b2, 0, none⟩)) 4)) rfl rfl (z04 za6 (oo rfl ((fr470 3 rfl).trans ((fr401 3 rfl).trans ((fr326 3 rfl).trans ((fr301 3 rfl).trans ((fr87 3 rfl).trans ((fr71 3 rfl).trans rfl))))))) (O472.atVar (j := 2) rfl)) ?_)))
 obtain ⟨w477, p478, f479⟩ := At.sl (At.proj (O472.atVar (j := 2) rfl) z25)
 refine W.load1 (v := w477) (r := []) rfl rfl ag26 (z0g rfl p478) (W.pure (v := (.int .i64 (List.length p0.Loads : Int))) rfl rfl (z1g (oo rfl rfl) (z0f f479) (z02 el26)) (W.q2 (.int .i64 0) rfl (.nil ?_)))
 obtain ⟨q480, h481, h482⟩ := z03 h476
 refine AW.midT (fun σ' H' => ∃ (y1 : Int) (G' : GM), y1 = q480 /\ Ow G' H' (eSl (σ324 10) 3 (rI .i64) x321 :: eSl w32 3 (rI .i64) x24.1 :: eVar b2 29 T_Network p0 :: L) /\ GM.le G471 G' /\ σ' 17 = .int .i64 y1) ?_ ?_
 rotate_left
 .rintro σ533 H534 fr535 ⟨x532, G536, rfl, O537, s538, t540⟩
  have h541 := z08 h482
  refine .seq (.seq ?_)
  obtain ⟨q542, h543, h544⟩ := z03 h541
  refine AW.midT (fun σ' H' => ∃ (y1 : Bool) (G' : GM), y1 = q542 /\ Ow G' H' (eSl (σ324 10) 3 (rI .i64) x321 :: eSl w32 3 (rI .i64) x24.1 :: eVar b2 29 T_Network p0 :: L) /\ GM.le G536 G' /\ σ' 183 = .bool y1) ?_ ?_
  .refine .region (W.q2 _ t540 (W.q3 (.bool (decide (x532 < (-100000)))) rfl rfl (W.q2 (.bool (decide (x532 < (-100000)))) rfl (W.splitAt (t := 180) (b := decide (x532 < (-100000))) rfl (fun g545 gv546 => ?_) (fun g545 gv546 => ?_)))))
   .have h547 := z01 g545 h543
    refine W.q6 rfl gv546 (W.q6 rfl gv546 (W.q4 (.bool true) gv546 rfl (.nil ?_)))
    obtain rfl := zAa h547
    exact ⟨true, _, rfl, O537, (zAf _), rfl⟩
   have h548 := z11 g545 h543
   refine W.q2 (hg := gk rfl rfl gv546 rfl) _ t540 (W.q3 (hg := gk rfl rfl gv546 rfl) (.bool (decide (x532 > 100000))) rfl rfl (W.q5 (.bool (decide (x532 > 100000))) gv546 rfl (.nil ?_)))
   obtain rfl := zAa h548
   exact ⟨decide (x532 > 100000), _, rfl, O537, (zAf _), rfl⟩
  rintro σ550 H551 fr552 ⟨x549, G553, rfl, O554, s555, t557⟩
  have h558 := z08 h544
  obtain ⟨q559, h560, h561⟩ := z03 h558
  refine AW.midT (fun σ' H' => ∃ (y1 : Int) (G' : GM), y1 = q559 /\ Ow G' H' (eSl (σ324 10) 3 (rI .i64) x321 :: eSl w32 3 (rI .i64) x24.1 :: eVar b2 29 T_Network p0 :: L) /\ GM.le G553 G' /\ σ' 9 = .int .i64 y1) ?_ ?_
  .refine .cond (b := x549) rfl t557 (fun g562 => ?_) (fun g562 => ?_)
   .have h563 := z01 g562 h560
    refine .region (W.q1 (.int .i64 4) rfl (.nil ?_))
    obtain rfl := zAa h563
    exact ⟨4, _, rfl, O554, (zAf _), rfl⟩
   have h564 := z11 g562 h560
   refine .skip ?_
   obtain rfl := zAa h564
   exact ⟨x322, _, rfl, O554, (zAf _), ((fr552 9 rfl).trans ((fr535 9 rfl).trans ((fr470 9 rfl).trans ((fr401 9 rfl).trans t331))))⟩
  rintro σ566 H567 fr568 ⟨x565, G569, rfl, O570, s571, t573⟩
  have h574 := z08 h561
  refine .region (W.q2 (σ324 10) ((fr568 10 rfl).trans ((fr552 10 rfl).trans ((fr535 10 rfl).trans ((fr470 10 rfl).trans ((fr401 10 rfl).trans rfl))))) (W.q2 _ ((fr568 17 rfl).trans ((fr552 17 rfl).trans t540)) (W.lo rfl rfl (Lo.buildSlice (r := (rI .i64)) (vs := [(.int .i64 x532)]) (xs := [x532]) el30 ze3 sz3 (by kernel_rfl) rfl (qc rfl qn) rfl (.cons rfl .nil) O570) ?_)))
  rintro v577 H578 ⟨O575, sm576⟩
  obtain ⟨es580, e581, e582⟩ := z4b (j := 0) rfl O575
  obtain ⟨g583, h584⟩ := z5s h574
  refine W.lo rfl rfl (Lo.append (j := 1) (v := (σ324 10)) rfl rfl el30 ni30 ze3 sz3 by3 (by decide) (by decide) rfl e581 e582 g583 O575) ?_
  rintro v586 H587 ⟨O579, sm585⟩
  refine W.q1 v586 rfl (.nil (.region (W.q3 (.int .i64 (z0n .i64 (x323 + 1))) ((fr568 120 rfl).trans ((fr552 120 rfl).trans ((fr535 120 rfl).trans ((fr470 120 rfl).trans ((fr401 120 rfl).trans t332))))) rfl (W.q2 (.int .i64 (z0n .i64 (x323 + 1))) rfl (.nil ?_)))))
  have O588 : Ow G569 H587 (eSl v586 3 (rI .i64) (x321 ++ [x532]) :: eSl w32 3 (rI .i64) x24.1 :: eVar b2 29 T_Network p0 :: L) := O579.drop 0
  exact ⟨k320, zAg _, ⟨(x321 ++ [x532]), x565, z0n .i64 (x323 + 1), _, h584, O588, (zAe s329 (zAe s404 (zAe s473 (zAe s538 (zAe s555 s571))))), t573, rfl⟩⟩
 refine .block (AW.loop (α := Nat) (fun k' σ' H' => ∃ (y1 : Int) (y2 : Int) (G' : GM), z0o K p0 x335 k' y1 y2 = some q480 /\ Ow G' H' (eSl (σ324 10) 3 (rI .i64) x321 :: eSl w32 3 (rI .i64) x24.1 :: eVar b2 29 T_Network p0 :: L) /\ GM.le G471 G' /\ σ' 17 = .int .i64 y1 /\ σ' 165 = .int .i64 y2) (fun k' => k') K ⟨x467, 0, _, h481, O472, (zAf _), t475, rfl⟩ ?_)
 rintro k483
 rintro σ486 H487 fr488 ⟨x484, x485, G489, h492, O490, s491, t493, t494⟩
 rcases k483 with _ | k483
 .exact z06 h492
 rw [z0o] at h492
 refine .seq (.region (W.q3 (.bool (decide (x485 < (List.length p0.Loads : Int)))) t494 ((fr488 164 rfl).trans rfl) (.nil (.seq (.cond (b := decide (x485 < (List.length p0.Loads : Int))) rfl rfl (fun g495 => ?_) (fun g495 => ?_))))))
 rotate_left
 .have h531 := z11 g495 h492
  refine .exit ?_
  obtain rfl := zAa h531
  exact ⟨x484, _, rfl, O490, s491, t493⟩
 have h496 := z01 g495 h492
 refine .skip (.seq ?_)
 obtain ⟨q497, h498, h499⟩ := z03 h496
 refine AW.midT (fun σ' H' => ∃ (y1 : Int) (G' : GM), y1 = q497 /\ Ow G' H' (eSl (σ324 10) 3 (rI .i64) x321 :: eSl w32 3 (rI .i64) x24.1 :: eVar b2 29 T_Network p0 :: L) /\ GM.le G489 G' /\ σ' 17 = .int .i64 y1) ?_ ?_
 rotate_left
 .rintro σ522 H523 fr524 ⟨x521, G525, rfl, O526, s527, t529⟩
  have h530 := z08 h499
  refine .region (W.q3 (.int .i64 (z0n .i64 (x485 + 1))) ((fr524 165 rfl).trans t494) rfl (W.q2 (.int .i64 (z0n .i64 (x485 + 1))) rfl (.nil ?_)))
  exact ⟨k483, zAg _, ⟨x521, z0n .i64 (x485 + 1), _, h530, O526, (zAe s491 s527), t529, rfl⟩⟩
 refine .block (.seq (.region ?_))
 obtain ⟨x500, i501, h502⟩ := z03 h498
 have j503 := z0v i501
 refine W.pure (v := (z2z w477 (Int.toNat x485 * 3))) rfl rfl (z3i el26 sz41 (oo rfl ((fr488 163 rfl).trans rfl)) (oo rfl t494) (z0f (RT.mono _ s491 f479)) j503.1 j503.2.1) ?_
 obtain ⟨c504, p505, f506⟩ := (At.le (At.le (z1q f479 j503.2.2) s491 s491) (zAf _) O490.fro)
 refine W.loadA (cs := c504) rfl rfl ag41 sz41 (z0g rfl p505) (RT.len _ f506) (W.lo rfl rfl (Lo.alloc (r := T_Load_) (x0 := (Load_.mk ByteArray.empty ByteArray.empty 0)) ze41 (by kernel_rfl) z9u O490) ?_)
 rintro v510 H511 ⟨b508, rfl, O507, sm509⟩
 refine W.lo rfl rfl (Lo.storeVar (j := 0) (s := T_Load_) (y0 := x500) (v := (.agg (List.toArray c504))) (o := 0) rfl ((Put.at (Put.self _) _ _)) rfl sz41 rfl (by omega) rfl f506 O507) ?_
 rintro v514 H515 ⟨O512, sm513⟩
 refine .nil (.seq (.region (W.pure (v := (padd (.pointer (some ⟨b508, 0, none⟩)) 1)) rfl rfl (z04 zd3 (oo rfl rfl) (O512.atVar (j := 0) rfl)) (W.load1 (v := (.string x500.Node)) (r := []) rfl rfl ag9 (z0g rfl (At.str (At.proj (O512.atVar (j := 0) rfl) z47))) (W.q2 (.string x335) ((fr488 16 rfl).trans ((fr470 16 rfl).trans ((fr401 16 rfl).trans rfl))) (W.pure (v := (.bool (sEq x500.Node x335))) rfl rfl (z7v (oo rfl rfl) (oo rfl rfl)) ?_))))))
 refine .nil (.cond (b := sEq x500.Node x335) rfl rfl (fun g516 => ?_) (fun g516 => ?_))
 rotate_left
 .have h519 := z11 g516 h502
  refine .skip ?_
  have O520 : Ow G489 H515 (eSl (σ324 10) 3 (rI .i64) x321 :: eSl w32 3 (rI .i64) x24.1 :: eVar b2 29 T_Network p0 :: L) := O512.drop 0
  obtain rfl := zAa h519
  exact ⟨x484, _, rfl, O520, (zAf _), t493⟩
 have h517 := z01 g516 h502
 refine .region (W.q2 _ t493 (W.pure (v := (padd (.pointer (some ⟨b508, 0, none⟩)) 2)) rfl rfl (z04 zd4 (oo rfl rfl) (O512.atVar (j := 0) rfl)) (W.load1 (v := (.int .i64 x500.Demand)) (r := []) rfl rfl ag3 (z0g rfl (At.int (At.proj (O512.atVar (j := 0) rfl) z3k))) (W.q3 (.int .i64 (z0n .i64 (x484 - x500.Demand))) rfl rfl (W.q1 (.int .i64 (z0n .i64 (x484 - x500.Demand))) rfl (.nil ?_))))))
 have O518 : Ow G489 H515 (eSl (σ324 10) 3 (rI .i64) x321 :: eSl w32 3 (rI .i64) x24.1 :: eVar b2 29 T_Network p0 :: L) := O512.drop 0
 obtain rfl := zAa h517
 exact ⟨z0n .i64 (x484 - x500.Demand), _, rfl, O518, (zAf _), rfl⟩
end Go.Am.Tryz
/- Plain law: the program's and the reference's checks of a network, of a name and of a branch are the same. -/
namespace Go.Am.Tryz
open Go Go.Am Go.Proofs
def chP (i : Nat) (c : Int) : Bool := !(!(decide (c >= 65) && decide (c <= 90)) && ((i == 0) || decide (c < 48) || decide (c > 57)))
def zeh (s : zAd) : Bool := !(s.size == 0) && !decide (s.size > 8) && (z1p s).zipIdx.all fun p => chP p.2 p.1
theorem zbr {α : Type} {p : α -> Bool} {xs : List α} {i : Nat} {x : α} (h : xs[i]? = some x) : (xs.drop i).all p = (p x && (xs.drop (i + 1)).all p) := by
 have hl := (zAi h).1
 rw [List.drop_eq_getElem_cons hl, List.all_cons]
 congr 2
 rw [zAh hl] at h; simpa using h
theorem zgk {α : Type} (p q z u v : Bool) (A B : Option α) : Option.bind (if p = true then some q else some false) (tu1 fun x34 => Option.bind (if (!x34) = true then (if z = true then some true else (if u = true then some true else some v)) else some false) (tu1 fun x59 => if x59 = true then A else B)) = if (!(!(p && q) && (z || u || v))) = true then B else A := by
 cases p <;> cases q <;> cases z <;> cases u <;> cases v <;> rfl
theorem zgl {α : Type} (p q u v : Bool) (A B : Option α) : Option.bind (if p = true then (if u = true then some true else some v) else (if q = true then (if u = true then some true else some v) else some false)) (tu1 fun x => if x = true then A else B) = if (!(!(!p && !q) && (u || v))) = true then B else A := by
 cases p <;> cases q <;> cases u <;> cases v <;> rfl
theorem zh5 (c : Int) : chP 1 c = !(!(!decide (c < 65) && !decide (c > 90)) && (decide (c < 48) || decide (c > 57))) := by
 unfold chP
 have h1 : decide (c >= 65) = !decide (c < 65) := by by_cases h : c < 65 <;> simp [h] <;> omega
 have h2 : decide (c <= 90) = !decide (c > 90) := by by_cases h : c > 90 <;> simp [h] <;> omega
 rw [h1, h2]; simp
theorem zd7 (K : Nat) (s : zAd) (hs : s.size <= 1048576) : ∀ d k (i : Nat), (z1p s).length - i = d -> d < k ->
  z1e K s k (i : Int) = some (if ((z1p s).zipIdx.drop i).all (fun p => chP p.2 p.1) then .inr () else .inl false) := by
 have hn := z2x s
 intro d
 induction d with
 | zero =>
  intro k i hd hk
  obtain ⟨k, rfl⟩ : ∃ m, k = m + 1 := ⟨k - 1, by omega⟩
  rw [z1e, z2w (by omega), List.drop_eq_nil_of_le (by simp; omega)]
  simp
 | succ d ih =>
  intro k i hd hk
  obtain ⟨k, rfl⟩ : ∃ m, k = m + 1 := ⟨k - 1, by omega⟩
  have hl : i < (z1p s).length := by omega
  have hx : (z1p s)[i]? = some (z1p s)[i] := zAh hl
  have hz : (z1p s).zipIdx[i]? = some ((z1p s)[i], i) := by simp [hl]
  rw [z1e, z45 hl, zbr hz]
  simp only [if_true, z1c hx, Option.bind_some]
  generalize (z1p s)[i] = c
  have h1 := ih k (i + 1) (by omega) (by omega)
  rw [<- kw1 hl (by omega)] at h1
  have h0 : ((i : Int) == 0) = (i == 0) := by cases i <;> simp <;> omega
  rw [zgk, h0, h1]
  show (if chP i c = true then _ else _) = _
  cases chP i c <;> simp only [Bool.true_and, Bool.false_and, if_true, Bool.false_eq_true, if_false]
theorem zd8 (K : Nat) (s : zAd) (hs : s.size <= 1048576) (hK : s.size < K) : z2j K s = some (zeh s) := by
 have h := zd7 K s hs (z1p s).length K 0 (by omega) (by rw [z2x]; exact hK)
 unfold z2j
 rw [show ((0 : Nat) : Int) = 0 from rfl] at h
 rw [h]
 have he : sEq s ⟨#[]⟩ = (s.size == 0) := by
  cases hq : sEq s ⟨#[]⟩ with
  | true => rw [sEq_iff] at hq; subst hq; rfl
  | false =>
   have : s.size ≠ 0 := fun h => by
    have : s = ⟨#[]⟩ := by
     cases s with
     | mk d => congr 1; exact Array.eq_empty_of_size_eq_zero h
    rw [sEq_iff.2 this] at hq; cases hq
   simp [this]
 unfold zeh
 rw [List.drop_zero]
 cases hall : (z1p s).zipIdx.all fun p => chP p.2 p.1 with
 | false => simp [z42, tu1, hall]
 | true =>
  simp only [z42, tu0, tu1, hall, he, Option.bind_some, if_true]
  by_cases h0 : s.size = 0
  ·simp [h0]
  ·by_cases h8 : s.size <= 8
   ·have : (s.size : Int) <= 8 := by omega
    have h9 : ¬ s.size > 8 := by omega
    simp [h0, this, h9]
   ·have : ¬ (s.size : Int) <= 8 := by omega
    have h9 : s.size > 8 := by omega
    simp [h0, this, h9]
theorem zab (K : Nat) (s : zAd) (hs : s.size <= 1048576) : ∀ d k (i : Nat), (z1p s).length - i = d -> d < k ->
  z2a K s k (i : Int) = some (if ((z1p s).drop i).all (fun c => chP 1 c) then .inr () else .inl false) := by
 have hn := z2x s
 intro d
 induction d with
 | zero =>
  intro k i hd hk
  obtain ⟨k, rfl⟩ : ∃ m, k = m + 1 := ⟨k - 1, by omega⟩
  rw [z2a, <- hn, z2w (by omega), List.drop_eq_nil_of_le (by omega)]
  simp
 | succ d ih =>
  intro k i hd hk
  obtain ⟨k, rfl⟩ : ∃ m, k = m + 1 := ⟨k - 1, by omega⟩
  have hl : i < (z1p s).length := by omega
  have hx : (z1p s)[i]? = some (z1p s)[i] := zAh hl
  rw [z2a, <- hn, z45 hl, zbr hx]
  simp only [if_true, zdh, z1c hx, Option.bind_some]
  generalize (z1p s)[i] = c
  have h1 := ih k (i + 1) (by omega) (by omega)
  rw [<- kw1 hl (by omega)] at h1
  rw [zgl, h1, <- zh5]
  cases chP 1 c <;> simp only [Bool.true_and, Bool.false_and, if_true, Bool.false_eq_true, if_false]
theorem zfu (xs : List Int) : ∀ k, 0 < k -> (xs.zipIdx k).all (fun p => chP p.2 p.1) = xs.all (fun c => chP 1 c) := by
 induction xs with
 | nil => intro k _; rfl
 | cons c xs ih =>
  intro k hk
  rw [List.zipIdx_cons, List.all_cons, List.all_cons, ih (k + 1) (by omega)]
  have : chP k c = chP 1 c := by
   unfold chP
   have : (k == 0) = false := by simp; omega
   simp [this]
  rw [this]
theorem zbs (K : Nat) (s : zAd) (hs : s.size <= 1048576) (hK : s.size < K) : z4n K s = some (zeh s) := by
 have h := zab K s hs (z1p s).length K 0 (by omega) (by rw [z2x]; exact hK)
 rw [show ((0 : Nat) : Int) = 0 from rfl, List.drop_zero] at h
 have hn := z2x s
 unfold z4n zeh
 rw [h]
 by_cases h0 : s.size = 0
 ·simp [h0, tu1]
 ·have h0' : ¬ ((s.size : Int) = 0) := by omega
  by_cases h8 : s.size > 8
  ·have : (s.size : Int) > 8 := by omega
   simp [h0, h8, this, tu1]
  ·have h8' : ¬ (s.size : Int) > 8 := by omega
   cases hb : z1p s with
   | nil => rw [hb] at hn; simp at hn; omega
   | cons c xs =>
    have hi : bidx s 0 = some c := by rw [zdh, hb]; rfl
    rw [List.zipIdx_cons, List.all_cons, List.all_cons, zfu xs (0 + 1) (by omega)]
    by_cases a : c < 65
    ·have a' : ¬ c >= 65 := by omega
     simp [h0, h0', h8, h8', tu1, hi, a, a', chP]
    ·have a' : c >= 65 := by omega
     by_cases b : c > 90
     ·have b' : ¬ c <= 90 := by omega
      simp [h0, h0', h8, h8', tu1, hi, a, a', b, b', chP]
     ·have b' : c <= 90 := by omega
      cases hall : xs.all fun c => chP 1 c <;> simp [h0, h0', h8, h8', tu1, tu0, hi, a, a', b, b', chP, z42, hall]
def hasS (l : List zAd) (s : zAd) : Bool := l.any fun x => sEq s x
theorem zbt (K : Nat) (l : List zAd) (s : zAd) (hl : l.length <= 1048576) : ∀ d k (i : Nat), l.length - i = d -> d < k ->
  ∃ j : Nat, z09 K l s k (i : Int) = some (if (l.drop i).any (fun x => sEq s x) then .inl (j : Int) else .inr ()) := by
 intro d
 induction d with
 | zero =>
  intro k i hd hk
  obtain ⟨k, rfl⟩ : ∃ m, k = m + 1 := ⟨k - 1, by omega⟩
  exact ⟨0, by rw [z09, z2w (by omega), List.drop_eq_nil_of_le (by omega)]; simp⟩
 | succ d ih =>
  intro k i hd hk
  obtain ⟨k, rfl⟩ : ∃ m, k = m + 1 := ⟨k - 1, by omega⟩
  have hi : i < l.length := by omega
  have hx : l[i]? = some l[i] := zAh hi
  obtain ⟨j, h1⟩ := ih k (i + 1) (by omega) (by omega)
  rw [<- kw1 hi (by omega)] at h1
  rw [z09, z45 hi, List.drop_eq_getElem_cons hi, List.any_cons]
  simp only [if_true, z1c hx, Option.bind_some]
  cases hq : sEq s l[i] with
  | true => exact ⟨i, by simp⟩
  | false => exact ⟨j, by simpa using h1⟩
theorem z63 (K : Nat) (l : List zAd) (s : zAd) (hl : l.length <= 1048576) (hK : l.length < K) : z0h K l s = some (hasS l s) := by
 obtain ⟨j, h⟩ := zbt K l s hl l.length K 0 (by omega) hK
 rw [show ((0 : Nat) : Int) = 0 from rfl, List.drop_zero] at h
 unfold z0h z1a hasS
 rw [h]
 cases hq : l.any fun x => sEq s x with
 | true => simp [z42, tu1]
 | false => simp [z42, tu0]
theorem zbu (K : Nat) (l : List zAd) (s : zAd) (hl : l.length <= 1048576) : ∀ d k (i : Nat), l.length - i = d -> d < k ->
  ∃ j : Nat, z2n K l s k (i : Int) = some (if (l.drop i).any (fun x => sEq s x) then .inl (j : Int) else .inr ()) := by
 intro d
 induction d with
 | zero =>
  intro k i hd hk
  obtain ⟨k, rfl⟩ : ∃ m, k = m + 1 := ⟨k - 1, by omega⟩
  exact ⟨0, by rw [z2n, z2w (by omega), List.drop_eq_nil_of_le (by omega)]; simp⟩
 | succ d ih =>
  intro k i hd hk
  obtain ⟨k, rfl⟩ : ∃ m, k = m + 1 := ⟨k - 1, by omega⟩
  have hi : i < l.length := by omega
  have hx : l[i]? = some l[i] := zAh hi
  obtain ⟨j, h1⟩ := ih k (i + 1) (by omega) (by omega)
  rw [<- kw1 hi (by omega)] at h1
  rw [z2n, z45 hi, List.drop_eq_getElem_cons hi, List.any_cons]
  simp only [if_true, z1c hx, Option.bind_some]
  rw [z7z l[i] s]
  cases hq : sEq s l[i] with
  | true => exact ⟨i, by simp⟩
  | false => exact ⟨j, by simpa using h1⟩
theorem zdj (K : Nat) (l : List zAd) (s : zAd) (hl : l.length <= 1048576) (hK : l.length < K) : z7a K l s = some (hasS l s) := by
 obtain ⟨j, h⟩ := zbu K l s hl l.length K 0 (by omega) hK
 rw [show ((0 : Nat) : Int) = 0 from rfl, List.drop_zero] at h
 unfold z7a z6c hasS
 rw [h]
 cases hq : l.any fun x => sEq s x with
 | true => simp [z42, tu1]
 | false => simp [z42, tu0]
end Go.Am.Tryz
