/- Typed functions with the same answers as the program's, and the walks that show it. -/
import Derived.Test.YtmdhkaombnamkaaDoorG3Zp
import Derived.Test.YtmdhkaombnamkaaDoorG2Zp
import Derived.Test.YtmdhkaombnamkaaDoorG1Zp
import Derived.Test.YtmdhkaombnamkaaDoorRows
set_option maxRecDepth 100000
set_option maxHeartbeats 8000000
set_option linter.unusedVariables false
set_option linter.unusedSimpArgs false
namespace Go.Am.Tryd
open Go Go.Am Go.Proofs
def z1q (K : Nat) (p0 : Network) : Nat -> List zAd -> Int -> Option (List zAd)
 | 0, _, _ => none
 | k + 1, x19, x20 => (if (decide (x20 < (List.length p0.Nodes : Int))) = true then ((idx p0.Nodes x20).bind fun x32 => (if ((⟨#[110, 111, 100, 101, 32]⟩ : zAd)).size + (x32).size <= 4611686018427387904 then (if List.length x19 + List.length [((⟨#[110, 111, 100, 101, 32]⟩ : zAd) ++ x32)] <= 16777216 then z1q K p0 k (x19 ++ [((⟨#[110, 111, 100, 101, 32]⟩ : zAd) ++ x32)]) (z0p .i64 (x20 + 1)) else none) else none)) else some x19)
def z1r (K : Nat) (p0 : Network) : Nat -> List zAd -> Int -> Option (List zAd)
 | 0, _, _ => none
 | k + 1, x74, x75 => (if (decide (x75 < (List.length p0.Switches : Int))) = true then ((idx p0.Switches x75).bind fun x87 => (if (x87.Name).size + ((⟨#[32]⟩ : zAd)).size <= 4611686018427387904 then (if ((x87.Name ++ (⟨#[32]⟩ : zAd))).size + (x87.A).size <= 4611686018427387904 then (if (((x87.Name ++ (⟨#[32]⟩ : zAd)) ++ x87.A)).size + ((⟨#[32]⟩ : zAd)).size <= 4611686018427387904 then (lt (((x87.Name ++ (⟨#[32]⟩ : zAd)) ++ x87.A) ++ (⟨#[32]⟩ : zAd)) fun x109 => (if (x109).size + (x87.B).size <= 4611686018427387904 then (Option.bind ((if x87.Breaker = true then (if ((⟨#[98, 114, 101, 97, 107, 101, 114, 32]⟩ : zAd)).size + ((x109 ++ x87.B)).size <= 4611686018427387904 then (lt ((⟨#[98, 114, 101, 97, 107, 101, 114, 32]⟩ : zAd) ++ (x109 ++ x87.B)) fun x121 => some x121) else none) else (if ((⟨#[115, 119, 105, 116, 99, 104, 32]⟩ : zAd)).size + ((x109 ++ x87.B)).size <= 4611686018427387904 then (lt ((⟨#[115, 119, 105, 116, 99, 104, 32]⟩ : zAd) ++ (x109 ++ x87.B)) fun x127 => some x127) else none))) (tu1 fun x130 => (Option.bind ((if x87.Open = true then (if (x130).size + ((⟨#[32, 111, 112, 101, 110]⟩ : zAd)).size <= 4611686018427387904 then some (x130 ++ (⟨#[32, 111, 112, 101, 110]⟩ : zAd)) else none) else (if (x130).size + ((⟨#[32, 99, 108, 111, 115, 101, 100]⟩ : zAd)).size <= 4611686018427387904 then some (x130 ++ (⟨#[32, 99, 108, 111, 115, 101, 100]⟩ : zAd)) else none))) (tu1 fun x150 => (if List.length x74 + List.length [x150] <= 16777216 then z1r K p0 k (x74 ++ [x150]) (z0p .i64 (x75 + 1)) else none))))) else none)) else none) else none) else none)) else some x74)
def z1s (K : Nat) (p0 : Network) : Nat -> List zAd -> Int -> Option (List zAd)
 | 0, _, _ => none
 | k + 1, x197, x198 => (if (decide (x198 < (List.length p0.Branches : Int))) = true then ((idx p0.Branches x198).bind fun x210 => ((z2k K [(⟨#[98, 114, 97, 110, 99, 104]⟩ : zAd), x210.Name, x210.From, x210.To] [x210.X, x210.Tap, x210.Shift, x210.Limit, x210.Short, x210.Hold] x197).bind fun x246 => z1s K p0 k x246 (z0p .i64 (x198 + 1)))) else some x197)
def z1t (K : Nat) (p0 : Network) : Nat -> List zAd -> Int -> Option (List zAd)
 | 0, _, _ => none
 | k + 1, x276, x277 => (if (decide (x277 < (List.length p0.Gens : Int))) = true then ((idx p0.Gens x277).bind fun x289 => ((z2k K [(⟨#[103, 101, 110]⟩ : zAd), x289.Name, x289.Node] [x289.Least, x289.Most, x289.Ramp] x276).bind fun x325 => z1t K p0 k x325 (z0p .i64 (x277 + 1)))) else some x276)
def z1u (K : Nat) (p0 : Network) : Nat -> List zAd -> Int -> Option (List zAd)
 | 0, _, _ => none
 | k + 1, x355, x356 => (if (decide (x356 < (List.length p0.Loads : Int))) = true then ((idx p0.Loads x356).bind fun x368 => ((z2k K [(⟨#[108, 111, 97, 100]⟩ : zAd), x368.Name, x368.Node] [x368.Demand] x355).bind fun x404 => z1u K p0 k x404 (z0p .i64 (x356 + 1)))) else some x355)
def z1j (K : Nat) (p0 : Network) : Nat -> List zAd -> Int -> Option (List zAd)
 | 0, _, _ => none
 | k + 1, x434, x435 => (if (decide (x435 < (List.length p0.Stores : Int))) = true then ((idx p0.Stores x435).bind fun x447 => ((z2k K [(⟨#[115, 116, 111, 114, 101]⟩ : zAd), x447.Name, x447.Node] [x447.Charge, x447.Discharge, x447.Capacity] x434).bind fun x483 => z1j K p0 k x483 (z0p .i64 (x435 + 1)))) else some x434)
def z3w (K : Nat) (p0 : Network) : Option (List zAd) := (Option.bind (z1q K p0 K [] 0) (tu1 fun x57 => (Option.bind (z1r K p0 K x57 0) (tu1 fun x180 => (Option.bind (z1s K p0 K x180 0) (tu1 fun x259 => (Option.bind (z1t K p0 K x259 0) (tu1 fun x338 => (Option.bind (z1u K p0 K x338 0) (tu1 fun x417 => (Option.bind (z1j K p0 K x417 0) (tu1 fun x496 => some x496))))))))))))
theorem z6n (K : Nat) {G : GM} {H : AH} {L : List Pc} (v0 : List Value) (p0 : Network) (hp0 : z00.rep G v0 p0) (O : Ow G H (L)) (r : List zAd) (h : z3w K p0 = some r) :
  CRF Tryd.prog 8 [.agg (List.toArray v0)] G H (fun w0 => (eSl w0 9 rS r :: L)) (fun w0 v G' => w0 = v) := by
 unfold z3w at h
 refine CRF.og (n := 159) (fn := Tryd.f8) (by kernel_rfl) rfl rfl fun R kr => ?_
 refine .seq ?_
 refine .region ?_
 refine W.lo rfl rfl (Lo.box (r := z00) (x0 := p0) (v := (.agg (List.toArray v0))) rfl rfl hp0 O) ?_
 rintro v4 H5 ⟨b2, rfl, O1, sm3⟩
 refine W.pure (v := (.slice none 0 0)) rfl rfl (z01 (oo rfl rfl)) ?_
 refine .nil ?_
 refine .seq ?_
 refine .region ?_
 have O8 := O1.nilSl 9 rS
 refine W.lo rfl rfl (Lo.alloc (r := rV) (x0 := (.slice none 0 0)) ze22 (by kernel_rfl) zV O8) ?_
 rintro v10 H11 ⟨b7, rfl, O6, sm9⟩
 refine .nil ?_
 refine .seq ?_
 refine .seq ?_
 refine .region ?_
 refine W.pure (v := (padd (.pointer (some ⟨b2, 0, none⟩)) 0)) rfl rfl (z07 zac (oo rfl rfl) (O6.atVar (j := 2) rfl)) ?_
 obtain ⟨w12, p13, f14⟩ := At.sl (At.proj (O6.atVar (j := 2) rfl) z29)
 refine W.load1 (v := w12) (r := []) rfl rfl ag22 (z0d rfl p13) ?_
 refine W.pure (v := (.int .i64 (List.length p0.Nodes : Int))) rfl rfl (z25 (oo rfl rfl) (z0x f14) (z04 el22)) ?_
 refine W.pure (v := (.int .i64 0)) rfl rfl (z02 (oo rfl rfl)) ?_
 refine .nil ?_
 obtain ⟨q15, h16, h17⟩ := z05 h
 refine AW.midT (fun σ' H' => ∃ (y1 : List zAd) (w_l3 : Value) (G' : GM), y1 = q15 /\ Ow G' H' (eVar b7 22 rV w_l3 :: eSl w_l3 9 rS y1 :: eVar b2 29 z00 p0 :: L) /\ GM.le G G') ?_ ?_
 ·refine .block ?_
  refine AW.loop (α := Nat) (fun k' σ' H' => ∃ (y1 : List zAd) (y2 : Int) (w_l3 : Value) (G' : GM), z1q K p0 k' y1 y2 = some q15 /\ Ow G' H' (eVar b7 22 rV w_l3 :: eSl w_l3 9 rS y1 :: eVar b2 29 z00 p0 :: L) /\ GM.le G G' /\ σ' 21 = .int .i64 y2) (fun k' => k') K ⟨[], 0, (.slice none 0 0), _, h16, O6, (zAf _), rfl⟩ ?_
  rintro k18
  rintro σ21 H22 fr23 ⟨x19, x20, w28, G24, h27, O25, s26, t29⟩
  rcases k18 with _ | k18
  ·exact z09 h27
  rw [z1q] at h27
  refine .seq ?_
  refine .region ?_
  refine W.pure (v := (.bool (decide (x20 < (List.length p0.Nodes : Int))))) rfl rfl (z2g (oo rfl t29) (oo rfl ((fr23 20 rfl).trans rfl)) rfl) ?_
  refine .nil ?_
  refine .seq ?_
  refine .cond (b := decide (x20 < (List.length p0.Nodes : Int))) rfl rfl (fun g30 => ?_) (fun g30 => ?_)
  ·have h31 := z03 g30 h27
   refine .skip ?_
   refine .seq ?_
   refine .block ?_
   refine .seq ?_
   refine .region ?_
   obtain ⟨x32, i33, h34⟩ := z05 h31
   have j35 := z1n i33
   refine W.pure (v := (z4t w12 (Int.toNat x20 * 1))) rfl rfl (z5d el22 sz9 (oo rfl ((fr23 19 rfl).trans rfl)) (oo rfl t29) (z0x (RT.mono _ s26 f14)) j35.1 j35.2.1) ?_
   refine W.load1 (v := (.string x32)) (r := []) rfl rfl ag9 (z0d rfl (At.str (At.le (At.le (z3c f14 j35.2.2) s26 s26) (zAf _) O25.fro))) ?_
   refine W.pure (v := (.string x32)) rfl rfl (z01 (oo rfl rfl)) ?_
   refine .nil ?_
   refine .region ?_
   refine W.load1 (v := w28) (r := []) rfl rfl ag22 (z0d ((fr23 3 rfl).trans rfl) (At.raw (O25.atVar (j := 0) rfl))) ?_
   refine W.pure (v := (.string x32)) rfl rfl (z02 (oo rfl rfl)) ?_
   obtain ⟨g36, h37⟩ := z2a h34
   refine W.pure (v := (.string ((⟨#[110, 111, 100, 101, 32]⟩ : zAd) ++ x32))) rfl rfl (z5a g36 (oo rfl rfl) (oo rfl rfl)) ?_
   refine W.lo rfl rfl (Lo.buildSlice (r := rS) (vs := [(.string ((⟨#[110, 111, 100, 101, 32]⟩ : zAd) ++ x32))]) (xs := [((⟨#[110, 111, 100, 101, 32]⟩ : zAd) ++ x32)]) el22 ze9 sz9 (by kernel_rfl) rfl (qc rfl qn) rfl (.cons rfl .nil) O25) ?_
   rintro v40 H41 ⟨O38, sm39⟩
   obtain ⟨es43, e44, e45⟩ := z3a (j := 0) rfl O38
   obtain ⟨g46, h47⟩ := z2a h37
   refine W.lo rfl rfl (Lo.append (j := 2) (v := w28) rfl rfl el22 ni22 ze9 sz9 by9 (by decide) (by decide) rfl e44 e45 g46 O38) ?_
   rintro v49 H50 ⟨O42, sm48⟩
   replace O42 : Ow G24 H50 (eSl v40 9 rS [((⟨#[110, 111, 100, 101, 32]⟩ : zAd) ++ x32)] :: eVar b7 22 rV w28 :: eSl v49 9 rS (x19 ++ [((⟨#[110, 111, 100, 101, 32]⟩ : zAd) ++ x32)]) :: eVar b2 29 z00 p0 :: L) := O42
   refine W.lo rfl rfl (Lo.storeVar (j := 1) (s := rV) (y0 := v49) (v := v49) (o := 0) rfl ((Put.at (Put.self _) _ _)) rfl sz22 ((fr23 3 rfl).trans rfl) (by omega) rfl (zi2 (O42.slLen (j := 2) rfl)) O42) ?_
   rintro v53 H54 ⟨O51, sm52⟩
   replace O51 : Ow G24 H54 (eSl v40 9 rS [((⟨#[110, 111, 100, 101, 32]⟩ : zAd) ++ x32)] :: eVar b7 22 rV v49 :: eSl v49 9 rS (x19 ++ [((⟨#[110, 111, 100, 101, 32]⟩ : zAd) ++ x32)]) :: eVar b2 29 z00 p0 :: L) := O51
   refine .nil ?_
   refine .region ?_
   refine W.pure (v := (.int .i64 (z0p .i64 (x20 + 1)))) rfl rfl (z2g (oo rfl t29) (oo rfl rfl) rfl) ?_
   refine W.pure (v := (.int .i64 (z0p .i64 (x20 + 1)))) rfl rfl (z02 (oo rfl rfl)) ?_
   refine .nil ?_
   have O55 : Ow G24 H54 (eVar b7 22 rV v49 :: eSl v49 9 rS (x19 ++ [((⟨#[110, 111, 100, 101, 32]⟩ : zAd) ++ x32)]) :: eVar b2 29 z00 p0 :: L) := O51.drop 0
   exact ⟨k18, zAg _, ⟨(x19 ++ [((⟨#[110, 111, 100, 101, 32]⟩ : zAd) ++ x32)]), z0p .i64 (x20 + 1), v49, _, h47, O55, s26, rfl⟩⟩
  ·have h56 := z16 g30 h27
   refine .exit ?_
   obtain rfl := zAa h56
   exact ⟨x19, w28, _, rfl, O25, s26⟩
 ·rintro σ58 H59 fr60 ⟨x57, w65, G61, rfl, O62, s63⟩
  have h66 := z0b h17
  refine .seq ?_
  refine .seq ?_
  refine .region ?_
  refine W.pure (v := (padd (.pointer (some ⟨b2, 0, none⟩)) 1)) rfl rfl (z07 zc3 (oo rfl ((fr60 1 rfl).trans rfl)) (O62.atVar (j := 2) rfl)) ?_
  obtain ⟨w67, p68, f69⟩ := At.sl (At.proj (O62.atVar (j := 2) rfl) z2b)
  refine W.load1 (v := w67) (r := []) rfl rfl ag23 (z0d rfl p68) ?_
  refine W.pure (v := (.int .i64 (List.length p0.Switches : Int))) rfl rfl (z25 (oo rfl rfl) (z0x f69) (z04 el23)) ?_
  refine W.pure (v := (.int .i64 0)) rfl rfl (z02 (oo rfl rfl)) ?_
  refine .nil ?_
  obtain ⟨q70, h71, h72⟩ := z05 h66
  refine AW.midT (fun σ' H' => ∃ (y1 : List zAd) (w_l3 : Value) (G' : GM), y1 = q70 /\ Ow G' H' (eVar b7 22 rV w_l3 :: eSl w_l3 9 rS y1 :: eVar b2 29 z00 p0 :: L) /\ GM.le G61 G') ?_ ?_
  ·refine .block ?_
   refine AW.loop (α := Nat) (fun k' σ' H' => ∃ (y1 : List zAd) (y2 : Int) (w_l3 : Value) (G' : GM), z1r K p0 k' y1 y2 = some q70 /\ Ow G' H' (eVar b7 22 rV w_l3 :: eSl w_l3 9 rS y1 :: eVar b2 29 z00 p0 :: L) /\ GM.le G61 G' /\ σ' 34 = .int .i64 y2) (fun k' => k') K ⟨x57, 0, w65, _, h71, O62, (zAf _), rfl⟩ ?_
   rintro k73
   rintro σ76 H77 fr78 ⟨x74, x75, w83, G79, h82, O80, s81, t84⟩
   rcases k73 with _ | k73
   ·exact z09 h82
   rw [z1r] at h82
   refine .seq ?_
   refine .region ?_
   refine W.pure (v := (.bool (decide (x75 < (List.length p0.Switches : Int))))) rfl rfl (z2g (oo rfl t84) (oo rfl ((fr78 33 rfl).trans rfl)) rfl) ?_
   refine .nil ?_
   refine .seq ?_
   refine .cond (b := decide (x75 < (List.length p0.Switches : Int))) rfl rfl (fun g85 => ?_) (fun g85 => ?_)
   ·have h86 := z03 g85 h82
    refine .skip ?_
    refine .seq ?_
    refine .block ?_
    refine .seq ?_
    refine .region ?_
    obtain ⟨x87, i88, h89⟩ := z05 h86
    have j90 := z1n i88
    refine W.pure (v := (z4t w67 (Int.toNat x75 * 5))) rfl rfl (z5d el23 sz64 (oo rfl ((fr78 32 rfl).trans rfl)) (oo rfl t84) (z0x (RT.mono _ s81 f69)) j90.1 j90.2.1) ?_
    obtain ⟨c91, p92, f93⟩ := (At.le (At.le (z3c f69 j90.2.2) s81 s81) (zAf _) O80.fro)
    refine W.loadA (cs := c91) rfl rfl ag64 sz64 (z0d rfl p92) (RT.len _ f93) ?_
    refine W.lo rfl rfl (Lo.alloc (r := z19) (x0 := (Switch.mk ByteArray.empty ByteArray.empty ByteArray.empty false false)) ze64 (by kernel_rfl) z9n O80) ?_
    rintro v97 H98 ⟨b95, rfl, O94, sm96⟩
    refine W.lo rfl rfl (Lo.storeVar (j := 0) (s := z19) (y0 := x87) (v := (.agg (List.toArray c91))) (o := 0) rfl ((Put.at (Put.self _) _ _)) rfl sz64 rfl (by omega) rfl f93 O94) ?_
    rintro v101 H102 ⟨O99, sm100⟩
    replace O99 : Ow G79 H102 (eVar b95 64 z19 x87 :: eVar b7 22 rV w83 :: eSl w83 9 rS x74 :: eVar b2 29 z00 p0 :: L) := O99
    refine .nil ?_
    refine .seq ?_
    refine .region ?_
    refine W.pure (v := (padd (.pointer (some ⟨b95, 0, none⟩)) 0)) rfl rfl (z07 zfb (oo rfl rfl) (O99.atVar (j := 0) rfl)) ?_
    refine W.load1 (v := (.string x87.Name)) (r := []) rfl rfl ag9 (z0d rfl (At.str (At.proj (O99.atVar (j := 0) rfl) z52))) ?_
    obtain ⟨g103, h104⟩ := z2a h89
    refine W.pure (v := (.string (x87.Name ++ (⟨#[32]⟩ : zAd)))) rfl rfl (z5a g103 (oo rfl rfl) (oo rfl rfl)) ?_
    refine W.pure (v := (padd (.pointer (some ⟨b95, 0, none⟩)) 1)) rfl rfl (z07 zdo (oo rfl rfl) (O99.atVar (j := 0) rfl)) ?_
    refine W.load1 (v := (.string x87.A)) (r := []) rfl rfl ag9 (z0d rfl (At.str (At.proj (O99.atVar (j := 0) rfl) z61))) ?_
    obtain ⟨g105, h106⟩ := z2a h104
    refine W.pure (v := (.string ((x87.Name ++ (⟨#[32]⟩ : zAd)) ++ x87.A))) rfl rfl (z5a g105 (oo rfl rfl) (oo rfl rfl)) ?_
    obtain ⟨g107, h108⟩ := z2a h106
    refine W.pure (v := (.string (((x87.Name ++ (⟨#[32]⟩ : zAd)) ++ x87.A) ++ (⟨#[32]⟩ : zAd)))) rfl rfl (z5a g107 (oo rfl rfl) (oo rfl rfl)) ?_
    obtain ⟨x109, e110, h111⟩ := zgt h108
    refine W.pure (v := (padd (.pointer (some ⟨b95, 0, none⟩)) 2)) rfl rfl (z07 zdp (oo rfl rfl) (O99.atVar (j := 0) rfl)) ?_
    refine W.load1 (v := (.string x87.B)) (r := []) rfl rfl ag9 (z0d rfl (At.str (At.proj (O99.atVar (j := 0) rfl) z62))) ?_
    obtain ⟨g112, h113⟩ := z2a h111
    refine W.pure (v := (.string (x109 ++ x87.B))) rfl rfl (z5a g112 (oo rfl (congrArg (Value.string) e110)) (oo rfl rfl)) ?_
    refine W.pure (v := (.string (x109 ++ x87.B))) rfl rfl (z01 (oo rfl rfl)) ?_
    refine .nil ?_
    refine .seq ?_
    refine .seq ?_
    refine .region ?_
    refine W.pure (v := (padd (.pointer (some ⟨b95, 0, none⟩)) 3)) rfl rfl (z07 zi3 (oo rfl rfl) (O99.atVar (j := 0) rfl)) ?_
    refine W.load1 (v := (.bool x87.Breaker)) (r := []) rfl rfl ag4 (z0d rfl (At.bool (At.proj (O99.atVar (j := 0) rfl) z63))) ?_
    refine .nil ?_
    obtain ⟨q114, h115, h116⟩ := z05 h113
    refine AW.midT (fun σ' H' => ∃ (y1 : zAd) (G' : GM), y1 = q114 /\ Ow G' H' (eVar b95 64 z19 x87 :: eVar b7 22 rV w83 :: eSl w83 9 rS x74 :: eVar b2 29 z00 p0 :: L) /\ GM.le G79 G' /\ σ' 8 = .string y1) ?_ ?_
    ·refine .cond (b := x87.Breaker) rfl rfl (fun g117 => ?_) (fun g117 => ?_)
     ·have h118 := z03 g117 h115
      refine .region ?_
      refine W.pure (v := (.string (x109 ++ x87.B))) rfl rfl (z02 (oo rfl rfl)) ?_
      obtain ⟨g119, h120⟩ := z2a h118
      refine W.pure (v := (.string ((⟨#[98, 114, 101, 97, 107, 101, 114, 32]⟩ : zAd) ++ (x109 ++ x87.B)))) rfl rfl (z5a g119 (oo rfl rfl) (oo rfl rfl)) ?_
      obtain ⟨x121, e122, h123⟩ := zgt h120
      refine W.pure (v := (.string x121)) rfl rfl (z01 (oo rfl (congrArg (Value.string) e122))) ?_
      refine .nil ?_
      obtain rfl := zAa h123
      exact ⟨x121, _, rfl, O99, (zAf _), rfl⟩
     ·have h124 := z16 g117 h115
      refine .region ?_
      refine W.pure (v := (.string (x109 ++ x87.B))) rfl rfl (z02 (oo rfl rfl)) ?_
      obtain ⟨g125, h126⟩ := z2a h124
      refine W.pure (v := (.string ((⟨#[115, 119, 105, 116, 99, 104, 32]⟩ : zAd) ++ (x109 ++ x87.B)))) rfl rfl (z5a g125 (oo rfl rfl) (oo rfl rfl)) ?_
      obtain ⟨x127, e128, h129⟩ := zgt h126
      refine W.pure (v := (.string x127)) rfl rfl (z01 (oo rfl (congrArg (Value.string) e128))) ?_
      refine .nil ?_
      obtain rfl := zAa h129
      exact ⟨x127, _, rfl, O99, (zAf _), rfl⟩
    ·rintro σ131 H132 fr133 ⟨x130, G134, rfl, O135, s136, t138⟩
     have h139 := z0b h116
     refine .seq ?_
     refine .seq ?_
     refine .region ?_
     refine W.pure (v := (padd (.pointer (some ⟨b95, 0, none⟩)) 4)) rfl rfl (z07 zi4 (oo rfl ((fr133 7 rfl).trans rfl)) (O135.atVar (j := 0) rfl)) ?_
     refine W.load1 (v := (.bool x87.Open)) (r := []) rfl rfl ag4 (z0d rfl (At.bool (At.proj (O135.atVar (j := 0) rfl) z7x))) ?_
     refine .nil ?_
     obtain ⟨q140, h141, h142⟩ := z05 h139
     refine AW.midT (fun σ' H' => ∃ (y1 : zAd) (G' : GM), y1 = q140 /\ Ow G' H' (eVar b95 64 z19 x87 :: eVar b7 22 rV w83 :: eSl w83 9 rS x74 :: eVar b2 29 z00 p0 :: L) /\ GM.le G134 G' /\ σ' 8 = .string y1) ?_ ?_
     ·refine .cond (b := x87.Open) rfl rfl (fun g143 => ?_) (fun g143 => ?_)
      ·have h144 := z03 g143 h141
       refine .region ?_
       refine W.pure (v := (.string x130)) rfl rfl (z02 (oo rfl t138)) ?_
       obtain ⟨g145, h146⟩ := z2a h144
       refine W.pure (v := (.string (x130 ++ (⟨#[32, 111, 112, 101, 110]⟩ : zAd)))) rfl rfl (z5a g145 (oo rfl rfl) (oo rfl rfl)) ?_
       refine W.pure (v := (.string (x130 ++ (⟨#[32, 111, 112, 101, 110]⟩ : zAd)))) rfl rfl (z01 (oo rfl rfl)) ?_
       refine .nil ?_
       obtain rfl := zAa h146
       exact ⟨(x130 ++ (⟨#[32, 111, 112, 101, 110]⟩ : zAd)), _, rfl, O135, (zAf _), rfl⟩
      ·have h147 := z16 g143 h141
       refine .region ?_
       refine W.pure (v := (.string x130)) rfl rfl (z02 (oo rfl t138)) ?_
       obtain ⟨g148, h149⟩ := z2a h147
       refine W.pure (v := (.string (x130 ++ (⟨#[32, 99, 108, 111, 115, 101, 100]⟩ : zAd)))) rfl rfl (z5a g148 (oo rfl rfl) (oo rfl rfl)) ?_
       refine W.pure (v := (.string (x130 ++ (⟨#[32, 99, 108, 111, 115, 101, 100]⟩ : zAd)))) rfl rfl (z01 (oo rfl rfl)) ?_
       refine .nil ?_
       obtain rfl := zAa h149
       exact ⟨(x130 ++ (⟨#[32, 99, 108, 111, 115, 101, 100]⟩ : zAd)), _, rfl, O135, (zAf _), rfl⟩
     ·rintro σ151 H152 fr153 ⟨x150, G154, rfl, O155, s156, t158⟩
      have h159 := z0b h142
      refine .region ?_
      refine W.load1 (v := w83) (r := []) rfl rfl ag22 (z0d ((fr153 3 rfl).trans ((fr133 3 rfl).trans ((fr78 3 rfl).trans ((fr60 3 rfl).trans rfl)))) (At.raw (O155.atVar (j := 1) rfl))) ?_
      refine W.pure (v := (.string x150)) rfl rfl (z02 (oo rfl t158)) ?_
      refine W.lo rfl rfl (Lo.buildSlice (r := rS) (vs := [(.string x150)]) (xs := [x150]) el22 ze9 sz9 (by kernel_rfl) rfl (qc rfl qn) rfl (.cons rfl .nil) O155) ?_
      rintro v162 H163 ⟨O160, sm161⟩
      obtain ⟨es165, e166, e167⟩ := z3a (j := 0) rfl O160
      obtain ⟨g168, h169⟩ := z2a h159
      refine W.lo rfl rfl (Lo.append (j := 3) (v := w83) rfl rfl el22 ni22 ze9 sz9 by9 (by decide) (by decide) rfl e166 e167 g168 O160) ?_
      rintro v171 H172 ⟨O164, sm170⟩
      replace O164 : Ow G154 H172 (eSl v162 9 rS [x150] :: eVar b95 64 z19 x87 :: eVar b7 22 rV w83 :: eSl v171 9 rS (x74 ++ [x150]) :: eVar b2 29 z00 p0 :: L) := O164
      refine W.lo rfl rfl (Lo.storeVar (j := 2) (s := rV) (y0 := v171) (v := v171) (o := 0) rfl ((Put.at (Put.self _) _ _)) rfl sz22 ((fr153 3 rfl).trans ((fr133 3 rfl).trans ((fr78 3 rfl).trans ((fr60 3 rfl).trans rfl)))) (by omega) rfl (zi2 (O164.slLen (j := 3) rfl)) O164) ?_
      rintro v175 H176 ⟨O173, sm174⟩
      replace O173 : Ow G154 H176 (eSl v162 9 rS [x150] :: eVar b95 64 z19 x87 :: eVar b7 22 rV v171 :: eSl v171 9 rS (x74 ++ [x150]) :: eVar b2 29 z00 p0 :: L) := O173
      refine .nil ?_
      refine .region ?_
      refine W.pure (v := (.int .i64 (z0p .i64 (x75 + 1)))) rfl rfl (z2g (oo rfl ((fr153 34 rfl).trans ((fr133 34 rfl).trans t84))) (oo rfl rfl) rfl) ?_
      refine W.pure (v := (.int .i64 (z0p .i64 (x75 + 1)))) rfl rfl (z02 (oo rfl rfl)) ?_
      refine .nil ?_
      have O177 : Ow G154 H176 (eVar b95 64 z19 x87 :: eVar b7 22 rV v171 :: eSl v171 9 rS (x74 ++ [x150]) :: eVar b2 29 z00 p0 :: L) := O173.drop 0
      have O178 : Ow G154 H176 (eVar b7 22 rV v171 :: eSl v171 9 rS (x74 ++ [x150]) :: eVar b2 29 z00 p0 :: L) := O177.drop 0
      exact ⟨k73, zAg _, ⟨(x74 ++ [x150]), z0p .i64 (x75 + 1), v171, _, h169, O178, (zAe s81 (zAe s136 s156)), rfl⟩⟩
   ·have h179 := z16 g85 h82
    refine .exit ?_
    obtain rfl := zAa h179
    exact ⟨x74, w83, _, rfl, O80, s81⟩
  ·rintro σ181 H182 fr183 ⟨x180, w188, G184, rfl, O185, s186⟩
   have h189 := z0b h72
   refine .seq ?_
   refine .region ?_
   refine W.pure (v := (.func (.func 23) #[] #[(.pointer (some ⟨b7, 0, none⟩))])) rfl rfl (za6 (z83 rfl mn) (z83 rfl (mc ((fr183 3 rfl).trans ((fr60 3 rfl).trans rfl)) mn))) ?_
   refine W.pure (v := (.func (.func 23) #[] #[(.pointer (some ⟨b7, 0, none⟩))])) rfl rfl (z01 (oo rfl rfl)) ?_
   refine .nil ?_
   refine .seq ?_
   refine .seq ?_
   refine .region ?_
   refine W.pure (v := (padd (.pointer (some ⟨b2, 0, none⟩)) 2)) rfl rfl (z07 zc4 (oo rfl ((fr183 1 rfl).trans ((fr60 1 rfl).trans rfl))) (O185.atVar (j := 2) rfl)) ?_
   obtain ⟨w190, p191, f192⟩ := At.sl (At.proj (O185.atVar (j := 2) rfl) z2c)
   refine W.load1 (v := w190) (r := []) rfl rfl ag24 (z0d rfl p191) ?_
   refine W.pure (v := (.int .i64 (List.length p0.Branches : Int))) rfl rfl (z25 (oo rfl rfl) (z0x f192) (z04 el24)) ?_
   refine W.pure (v := (.int .i64 0)) rfl rfl (z02 (oo rfl rfl)) ?_
   refine .nil ?_
   obtain ⟨q193, h194, h195⟩ := z05 h189
   refine AW.midT (fun σ' H' => ∃ (y1 : List zAd) (w_l3 : Value) (G' : GM), y1 = q193 /\ Ow G' H' (eVar b7 22 rV w_l3 :: eSl w_l3 9 rS y1 :: eVar b2 29 z00 p0 :: L) /\ GM.le G184 G') ?_ ?_
   ·refine .block ?_
    refine AW.loop (α := Nat) (fun k' σ' H' => ∃ (y1 : List zAd) (y2 : Int) (w_l3 : Value) (G' : GM), z1s K p0 k' y1 y2 = some q193 /\ Ow G' H' (eVar b7 22 rV w_l3 :: eSl w_l3 9 rS y1 :: eVar b2 29 z00 p0 :: L) /\ GM.le G184 G' /\ σ' 69 = .int .i64 y2) (fun k' => k') K ⟨x180, 0, w188, _, h194, O185, (zAf _), rfl⟩ ?_
    rintro k196
    rintro σ199 H200 fr201 ⟨x197, x198, w206, G202, h205, O203, s204, t207⟩
    rcases k196 with _ | k196
    ·exact z09 h205
    rw [z1s] at h205
    refine .seq ?_
    refine .region ?_
    refine W.pure (v := (.bool (decide (x198 < (List.length p0.Branches : Int))))) rfl rfl (z2g (oo rfl t207) (oo rfl ((fr201 68 rfl).trans rfl)) rfl) ?_
    refine .nil ?_
    refine .seq ?_
    refine .cond (b := decide (x198 < (List.length p0.Branches : Int))) rfl rfl (fun g208 => ?_) (fun g208 => ?_)
    ·have h209 := z03 g208 h205
     refine .skip ?_
     refine .seq ?_
     refine .block ?_
     refine .seq ?_
     refine .region ?_
     obtain ⟨x210, i211, h212⟩ := z05 h209
     have j213 := z1n i211
     refine W.pure (v := (z4t w190 (Int.toNat x198 * 9))) rfl rfl (z5d el24 sz69 (oo rfl ((fr201 67 rfl).trans rfl)) (oo rfl t207) (z0x (RT.mono _ s204 f192)) j213.1 j213.2.1) ?_
     obtain ⟨c214, p215, f216⟩ := (At.le (At.le (z3c f192 j213.2.2) s204 s204) (zAf _) O203.fro)
     refine W.loadA (cs := c214) rfl rfl ag69 sz69 (z0d rfl p215) (RT.len _ f216) ?_
     refine W.lo rfl rfl (Lo.alloc (r := z0f) (x0 := (Branch.mk ByteArray.empty ByteArray.empty ByteArray.empty 0 0 0 0 0 0)) ze69 (by kernel_rfl) z9o O203) ?_
     rintro v220 H221 ⟨b218, rfl, O217, sm219⟩
     refine W.lo rfl rfl (Lo.storeVar (j := 0) (s := z0f) (y0 := x210) (v := (.agg (List.toArray c214))) (o := 0) rfl ((Put.at (Put.self _) _ _)) rfl sz69 rfl (by omega) rfl f216 O217) ?_
     rintro v224 H225 ⟨O222, sm223⟩
     replace O222 : Ow G202 H225 (eVar b218 69 z0f x210 :: eVar b7 22 rV w206 :: eSl w206 9 rS x197 :: eVar b2 29 z00 p0 :: L) := O222
     refine .nil ?_
     refine .region ?_
     refine W.pure (v := (.func (.func 23) #[] #[(.pointer (some ⟨b7, 0, none⟩))])) rfl rfl (z02 (oo rfl ((fr201 9 rfl).trans rfl))) ?_
     refine W.pure (v := (padd (.pointer (some ⟨b218, 0, none⟩)) 0)) rfl rfl (z07 zfc (oo rfl rfl) (O222.atVar (j := 0) rfl)) ?_
     refine W.load1 (v := (.string x210.Name)) (r := []) rfl rfl ag9 (z0d rfl (At.str (At.proj (O222.atVar (j := 0) rfl) z54))) ?_
     refine W.pure (v := (padd (.pointer (some ⟨b218, 0, none⟩)) 1)) rfl rfl (z07 zdq (oo rfl rfl) (O222.atVar (j := 0) rfl)) ?_
     refine W.load1 (v := (.string x210.From)) (r := []) rfl rfl ag9 (z0d rfl (At.str (At.proj (O222.atVar (j := 0) rfl) z4f))) ?_
     refine W.pure (v := (padd (.pointer (some ⟨b218, 0, none⟩)) 2)) rfl rfl (z07 zdr (oo rfl rfl) (O222.atVar (j := 0) rfl)) ?_
     refine W.load1 (v := (.string x210.To)) (r := []) rfl rfl ag9 (z0d rfl (At.str (At.proj (O222.atVar (j := 0) rfl) z5f))) ?_
     refine W.lo rfl rfl (Lo.buildSlice (r := rS) (vs := [(.string (⟨#[98, 114, 97, 110, 99, 104]⟩ : zAd)), (.string x210.Name), (.string x210.From), (.string x210.To)]) (xs := [(⟨#[98, 114, 97, 110, 99, 104]⟩ : zAd), x210.Name, x210.From, x210.To]) el22 ze9 sz9 (by kernel_rfl) rfl (qc rfl (qc rfl (qc rfl (qc rfl qn)))) rfl (.cons rfl (.cons rfl (.cons rfl (.cons rfl .nil)))) O222) ?_
     rintro v228 H229 ⟨O226, sm227⟩
     refine W.pure (v := (padd (.pointer (some ⟨b218, 0, none⟩)) 3)) rfl rfl (z07 zfd (oo rfl rfl) (O226.atVar (j := 1) rfl)) ?_
     refine W.load1 (v := (.int .i64 x210.X)) (r := []) rfl rfl ag3 (z0d rfl (At.int (At.proj (O226.atVar (j := 1) rfl) z78))) ?_
     refine W.pure (v := (padd (.pointer (some ⟨b218, 0, none⟩)) 4)) rfl rfl (z07 zfe (oo rfl rfl) (O226.atVar (j := 1) rfl)) ?_
     refine W.load1 (v := (.int .i64 x210.Tap)) (r := []) rfl rfl ag3 (z0d rfl (At.int (At.proj (O226.atVar (j := 1) rfl) z5i))) ?_
     refine W.pure (v := (padd (.pointer (some ⟨b218, 0, none⟩)) 5)) rfl rfl (z07 zff (oo rfl rfl) (O226.atVar (j := 1) rfl)) ?_
     refine W.load1 (v := (.int .i64 x210.Shift)) (r := []) rfl rfl ag3 (z0d rfl (At.int (At.proj (O226.atVar (j := 1) rfl) z4k))) ?_
     refine W.pure (v := (padd (.pointer (some ⟨b218, 0, none⟩)) 6)) rfl rfl (z07 zc8 (oo rfl rfl) (O226.atVar (j := 1) rfl)) ?_
     refine W.load1 (v := (.int .i64 x210.Limit)) (r := []) rfl rfl ag3 (z0d rfl (At.int (At.proj (O226.atVar (j := 1) rfl) z3g))) ?_
     refine W.pure (v := (padd (.pointer (some ⟨b218, 0, none⟩)) 7)) rfl rfl (z07 zfg (oo rfl rfl) (O226.atVar (j := 1) rfl)) ?_
     refine W.load1 (v := (.int .i64 x210.Short)) (r := []) rfl rfl ag3 (z0d rfl (At.int (At.proj (O226.atVar (j := 1) rfl) z4l))) ?_
     refine W.pure (v := (padd (.pointer (some ⟨b218, 0, none⟩)) 8)) rfl rfl (z07 zfh (oo rfl rfl) (O226.atVar (j := 1) rfl)) ?_
     refine W.load1 (v := (.int .i64 x210.Hold)) (r := []) rfl rfl ag3 (z0d rfl (At.int (At.proj (O226.atVar (j := 1) rfl) z55))) ?_
     refine W.lo rfl rfl (Lo.buildSlice (r := (rI .i64)) (vs := [(.int .i64 x210.X), (.int .i64 x210.Tap), (.int .i64 x210.Shift), (.int .i64 x210.Limit), (.int .i64 x210.Short), (.int .i64 x210.Hold)]) (xs := [x210.X, x210.Tap, x210.Shift, x210.Limit, x210.Short, x210.Hold]) el65 ze3 sz3 (by kernel_rfl) rfl (qc rfl (qc rfl (qc rfl (qc rfl (qc rfl (qc rfl qn)))))) rfl (.cons rfl (.cons rfl (.cons rfl (.cons rfl (.cons rfl (.cons rfl .nil)))))) O226) ?_
     rintro v232 H233 ⟨O230, sm231⟩
     obtain ⟨G234, O235, s236, f237⟩ := O230.frzSl (j := 1) rfl
     replace O235 : Ow G234 H233 (eSl v232 3 (rI .i64) [x210.X, x210.Tap, x210.Shift, x210.Limit, x210.Short, x210.Hold] :: eVar b218 69 z0f x210 :: eVar b7 22 rV w206 :: eSl w206 9 rS x197 :: eVar b2 29 z00 p0 :: L) := O235
     obtain ⟨G238, O239, s240, f241⟩ := O235.frzSl (j := 0) rfl
     replace O239 : Ow G238 H233 (eVar b218 69 z0f x210 :: eVar b7 22 rV w206 :: eSl w206 9 rS x197 :: eVar b2 29 z00 p0 :: L) := O239
     have O242 : Ow G238 H233 (eVar b2 29 z00 p0 :: eVar b218 69 z0f x210 :: eVar b7 22 rV w206 :: eSl w206 9 rS x197 :: L) := O239.front (j := 3) rfl
     have O243 : Ow G238 H233 (eVar b218 69 z0f x210 :: eVar b2 29 z00 p0 :: eVar b7 22 rV w206 :: eSl w206 9 rS x197 :: L) := O242.front (j := 1) rfl
     have O244 : Ow G238 H233 (eSl w206 9 rS x197 :: eVar b218 69 z0f x210 :: eVar b2 29 z00 p0 :: eVar b7 22 rV w206 :: L) := O243.front (j := 3) rfl
     have O245 : Ow G238 H233 (eVar b7 22 rV w206 :: eSl w206 9 rS x197 :: eVar b218 69 z0f x210 :: eVar b2 29 z00 p0 :: L) := O244.front (j := 3) rfl
     obtain ⟨x246, i247, h248⟩ := z05 h212
     refine W.lo rfl rfl (Lo.callvPF (ps := [eVar b7 22 rV w206, eSl w206 9 rS x197]) (pw := fun w => [eVar b7 22 rV w, eSl w 9 rS x246]) rfl rfl (fn := Tryd.f23) (by kernel_rfl) rfl (mc rfl (mc rfl mn)) O245 (fun L' O' => z3s K v228 [(⟨#[98, 114, 97, 110, 99, 104]⟩ : zAd), x210.Name, x210.From, x210.To] (RT.mono _ s240 f237) v232 [x210.X, x210.Tap, x210.Shift, x210.Limit, x210.Short, x210.Hold] f241 b7 w206 x197 O' _ i247)) ?_
     rintro v255 H256 ⟨w253, G249, O250, s251, sm254, rfl⟩
     replace O250 : Ow G249 H256 (eVar b7 22 rV w253 :: eSl w253 9 rS x246 :: eVar b218 69 z0f x210 :: eVar b2 29 z00 p0 :: L) := O250
     refine .nil ?_
     refine .region ?_
     refine W.pure (v := (.int .i64 (z0p .i64 (x198 + 1)))) rfl rfl (z2g (oo rfl t207) (oo rfl rfl) rfl) ?_
     refine W.pure (v := (.int .i64 (z0p .i64 (x198 + 1)))) rfl rfl (z02 (oo rfl rfl)) ?_
     refine .nil ?_
     have O257 : Ow G249 H256 (eVar b7 22 rV w253 :: eSl w253 9 rS x246 :: eVar b2 29 z00 p0 :: L) := O250.drop 2
     exact ⟨k196, zAg _, ⟨x246, z0p .i64 (x198 + 1), w253, _, h248, O257, (zAe s204 (zAe s236 (zAe s240 s251))), rfl⟩⟩
    ·have h258 := z16 g208 h205
     refine .exit ?_
     obtain rfl := zAa h258
     exact ⟨x197, w206, _, rfl, O203, s204⟩
   ·rintro σ260 H261 fr262 ⟨x259, w267, G263, rfl, O264, s265⟩
    have h268 := z0b h195
    refine .seq ?_
    refine .seq ?_
    refine .region ?_
    refine W.pure (v := (padd (.pointer (some ⟨b2, 0, none⟩)) 3)) rfl rfl (z07 zc5 (oo rfl ((fr262 1 rfl).trans ((fr183 1 rfl).trans ((fr60 1 rfl).trans rfl)))) (O264.atVar (j := 2) rfl)) ?_
    obtain ⟨w269, p270, f271⟩ := At.sl (At.proj (O264.atVar (j := 2) rfl) z3h)
    refine W.load1 (v := w269) (r := []) rfl rfl ag25 (z0d rfl p270) ?_
    refine W.pure (v := (.int .i64 (List.length p0.Gens : Int))) rfl rfl (z25 (oo rfl rfl) (z0x f271) (z04 el25)) ?_
    refine W.pure (v := (.int .i64 0)) rfl rfl (z02 (oo rfl rfl)) ?_
    refine .nil ?_
    obtain ⟨q272, h273, h274⟩ := z05 h268
    refine AW.midT (fun σ' H' => ∃ (y1 : List zAd) (w_l3 : Value) (G' : GM), y1 = q272 /\ Ow G' H' (eVar b7 22 rV w_l3 :: eSl w_l3 9 rS y1 :: eVar b2 29 z00 p0 :: L) /\ GM.le G263 G') ?_ ?_
    ·refine .block ?_
     refine AW.loop (α := Nat) (fun k' σ' H' => ∃ (y1 : List zAd) (y2 : Int) (w_l3 : Value) (G' : GM), z1t K p0 k' y1 y2 = some q272 /\ Ow G' H' (eVar b7 22 rV w_l3 :: eSl w_l3 9 rS y1 :: eVar b2 29 z00 p0 :: L) /\ GM.le G263 G' /\ σ' 99 = .int .i64 y2) (fun k' => k') K ⟨x259, 0, w267, _, h273, O264, (zAf _), rfl⟩ ?_
     rintro k275
     rintro σ278 H279 fr280 ⟨x276, x277, w285, G281, h284, O282, s283, t286⟩
     rcases k275 with _ | k275
     ·exact z09 h284
     rw [z1t] at h284
     refine .seq ?_
     refine .region ?_
     refine W.pure (v := (.bool (decide (x277 < (List.length p0.Gens : Int))))) rfl rfl (z2g (oo rfl t286) (oo rfl ((fr280 98 rfl).trans rfl)) rfl) ?_
     refine .nil ?_
     refine .seq ?_
     refine .cond (b := decide (x277 < (List.length p0.Gens : Int))) rfl rfl (fun g287 => ?_) (fun g287 => ?_)
     ·have h288 := z03 g287 h284
      refine .skip ?_
      refine .seq ?_
      refine .block ?_
      refine .seq ?_
      refine .region ?_
      obtain ⟨x289, i290, h291⟩ := z05 h288
      have j292 := z1n i290
      refine W.pure (v := (z4t w269 (Int.toNat x277 * 5))) rfl rfl (z5d el25 sz71 (oo rfl ((fr280 97 rfl).trans rfl)) (oo rfl t286) (z0x (RT.mono _ s283 f271)) j292.1 j292.2.1) ?_
      obtain ⟨c293, p294, f295⟩ := (At.le (At.le (z3c f271 j292.2.2) s283 s283) (zAf _) O282.fro)
      refine W.loadA (cs := c293) rfl rfl ag71 sz71 (z0d rfl p294) (RT.len _ f295) ?_
      refine W.lo rfl rfl (Lo.alloc (r := z4w) (x0 := (Gen.mk ByteArray.empty ByteArray.empty 0 0 0)) ze71 (by kernel_rfl) zip O282) ?_
      rintro v299 H300 ⟨b297, rfl, O296, sm298⟩
      refine W.lo rfl rfl (Lo.storeVar (j := 0) (s := z4w) (y0 := x289) (v := (.agg (List.toArray c293))) (o := 0) rfl ((Put.at (Put.self _) _ _)) rfl sz71 rfl (by omega) rfl f295 O296) ?_
      rintro v303 H304 ⟨O301, sm302⟩
      replace O301 : Ow G281 H304 (eVar b297 71 z4w x289 :: eVar b7 22 rV w285 :: eSl w285 9 rS x276 :: eVar b2 29 z00 p0 :: L) := O301
      refine .nil ?_
      refine .region ?_
      refine W.pure (v := (.func (.func 23) #[] #[(.pointer (some ⟨b7, 0, none⟩))])) rfl rfl (z02 (oo rfl ((fr280 9 rfl).trans ((fr262 9 rfl).trans rfl)))) ?_
      refine W.pure (v := (padd (.pointer (some ⟨b297, 0, none⟩)) 0)) rfl rfl (z07 zfi (oo rfl rfl) (O301.atVar (j := 0) rfl)) ?_
      refine W.load1 (v := (.string x289.Name)) (r := []) rfl rfl ag9 (z0d rfl (At.str (At.proj (O301.atVar (j := 0) rfl) z79))) ?_
      refine W.pure (v := (padd (.pointer (some ⟨b297, 0, none⟩)) 1)) rfl rfl (z07 zfj (oo rfl rfl) (O301.atVar (j := 0) rfl)) ?_
      refine W.load1 (v := (.string x289.Node)) (r := []) rfl rfl ag9 (z0d rfl (At.str (At.proj (O301.atVar (j := 0) rfl) z7a))) ?_
      refine W.lo rfl rfl (Lo.buildSlice (r := rS) (vs := [(.string (⟨#[103, 101, 110]⟩ : zAd)), (.string x289.Name), (.string x289.Node)]) (xs := [(⟨#[103, 101, 110]⟩ : zAd), x289.Name, x289.Node]) el22 ze9 sz9 (by kernel_rfl) rfl (qc rfl (qc rfl (qc rfl qn))) rfl (.cons rfl (.cons rfl (.cons rfl .nil))) O301) ?_
      rintro v307 H308 ⟨O305, sm306⟩
      refine W.pure (v := (padd (.pointer (some ⟨b297, 0, none⟩)) 2)) rfl rfl (z07 zc9 (oo rfl rfl) (O305.atVar (j := 1) rfl)) ?_
      refine W.load1 (v := (.int .i64 x289.Least)) (r := []) rfl rfl ag3 (z0d rfl (At.int (At.proj (O305.atVar (j := 1) rfl) z4q))) ?_
      refine W.pure (v := (padd (.pointer (some ⟨b297, 0, none⟩)) 3)) rfl rfl (z07 zfk (oo rfl rfl) (O305.atVar (j := 1) rfl)) ?_
      refine W.load1 (v := (.int .i64 x289.Most)) (r := []) rfl rfl ag3 (z0d rfl (At.int (At.proj (O305.atVar (j := 1) rfl) z7b))) ?_
      refine W.pure (v := (padd (.pointer (some ⟨b297, 0, none⟩)) 4)) rfl rfl (z07 zfl (oo rfl rfl) (O305.atVar (j := 1) rfl)) ?_
      refine W.load1 (v := (.int .i64 x289.Ramp)) (r := []) rfl rfl ag3 (z0d rfl (At.int (At.proj (O305.atVar (j := 1) rfl) z7c))) ?_
      refine W.lo rfl rfl (Lo.buildSlice (r := (rI .i64)) (vs := [(.int .i64 x289.Least), (.int .i64 x289.Most), (.int .i64 x289.Ramp)]) (xs := [x289.Least, x289.Most, x289.Ramp]) el65 ze3 sz3 (by kernel_rfl) rfl (qc rfl (qc rfl (qc rfl qn))) rfl (.cons rfl (.cons rfl (.cons rfl .nil))) O305) ?_
      rintro v311 H312 ⟨O309, sm310⟩
      obtain ⟨G313, O314, s315, f316⟩ := O309.frzSl (j := 1) rfl
      replace O314 : Ow G313 H312 (eSl v311 3 (rI .i64) [x289.Least, x289.Most, x289.Ramp] :: eVar b297 71 z4w x289 :: eVar b7 22 rV w285 :: eSl w285 9 rS x276 :: eVar b2 29 z00 p0 :: L) := O314
      obtain ⟨G317, O318, s319, f320⟩ := O314.frzSl (j := 0) rfl
      replace O318 : Ow G317 H312 (eVar b297 71 z4w x289 :: eVar b7 22 rV w285 :: eSl w285 9 rS x276 :: eVar b2 29 z00 p0 :: L) := O318
      have O321 : Ow G317 H312 (eVar b2 29 z00 p0 :: eVar b297 71 z4w x289 :: eVar b7 22 rV w285 :: eSl w285 9 rS x276 :: L) := O318.front (j := 3) rfl
      have O322 : Ow G317 H312 (eVar b297 71 z4w x289 :: eVar b2 29 z00 p0 :: eVar b7 22 rV w285 :: eSl w285 9 rS x276 :: L) := O321.front (j := 1) rfl
      have O323 : Ow G317 H312 (eSl w285 9 rS x276 :: eVar b297 71 z4w x289 :: eVar b2 29 z00 p0 :: eVar b7 22 rV w285 :: L) := O322.front (j := 3) rfl
      have O324 : Ow G317 H312 (eVar b7 22 rV w285 :: eSl w285 9 rS x276 :: eVar b297 71 z4w x289 :: eVar b2 29 z00 p0 :: L) := O323.front (j := 3) rfl
      obtain ⟨x325, i326, h327⟩ := z05 h291
      refine W.lo rfl rfl (Lo.callvPF (ps := [eVar b7 22 rV w285, eSl w285 9 rS x276]) (pw := fun w => [eVar b7 22 rV w, eSl w 9 rS x325]) rfl rfl (fn := Tryd.f23) (by kernel_rfl) rfl (mc rfl (mc rfl mn)) O324 (fun L' O' => z3s K v307 [(⟨#[103, 101, 110]⟩ : zAd), x289.Name, x289.Node] (RT.mono _ s319 f316) v311 [x289.Least, x289.Most, x289.Ramp] f320 b7 w285 x276 O' _ i326)) ?_
      rintro v334 H335 ⟨w332, G328, O329, s330, sm333, rfl⟩
      replace O329 : Ow G328 H335 (eVar b7 22 rV w332 :: eSl w332 9 rS x325 :: eVar b297 71 z4w x289 :: eVar b2 29 z00 p0 :: L) := O329
      refine .nil ?_
      refine .region ?_
      refine W.pure (v := (.int .i64 (z0p .i64 (x277 + 1)))) rfl rfl (z2g (oo rfl t286) (oo rfl rfl) rfl) ?_
      refine W.pure (v := (.int .i64 (z0p .i64 (x277 + 1)))) rfl rfl (z02 (oo rfl rfl)) ?_
      refine .nil ?_
      have O336 : Ow G328 H335 (eVar b7 22 rV w332 :: eSl w332 9 rS x325 :: eVar b2 29 z00 p0 :: L) := O329.drop 2
      exact ⟨k275, zAg _, ⟨x325, z0p .i64 (x277 + 1), w332, _, h327, O336, (zAe s283 (zAe s315 (zAe s319 s330))), rfl⟩⟩
     ·have h337 := z16 g287 h284
      refine .exit ?_
      obtain rfl := zAa h337
      exact ⟨x276, w285, _, rfl, O282, s283⟩
    ·rintro σ339 H340 fr341 ⟨x338, w346, G342, rfl, O343, s344⟩
     have h347 := z0b h274
     refine .seq ?_
     refine .seq ?_
     refine .region ?_
     refine W.pure (v := (padd (.pointer (some ⟨b2, 0, none⟩)) 4)) rfl rfl (z07 zc6 (oo rfl ((fr341 1 rfl).trans ((fr262 1 rfl).trans ((fr183 1 rfl).trans ((fr60 1 rfl).trans rfl))))) (O343.atVar (j := 2) rfl)) ?_
     obtain ⟨w348, p349, f350⟩ := At.sl (At.proj (O343.atVar (j := 2) rfl) z36)
     refine W.load1 (v := w348) (r := []) rfl rfl ag26 (z0d rfl p349) ?_
     refine W.pure (v := (.int .i64 (List.length p0.Loads : Int))) rfl rfl (z25 (oo rfl rfl) (z0x f350) (z04 el26)) ?_
     refine W.pure (v := (.int .i64 0)) rfl rfl (z02 (oo rfl rfl)) ?_
     refine .nil ?_
     obtain ⟨q351, h352, h353⟩ := z05 h347
     refine AW.midT (fun σ' H' => ∃ (y1 : List zAd) (w_l3 : Value) (G' : GM), y1 = q351 /\ Ow G' H' (eVar b7 22 rV w_l3 :: eSl w_l3 9 rS y1 :: eVar b2 29 z00 p0 :: L) /\ GM.le G342 G') ?_ ?_
     ·refine .block ?_
      refine AW.loop (α := Nat) (fun k' σ' H' => ∃ (y1 : List zAd) (y2 : Int) (w_l3 : Value) (G' : GM), z1u K p0 k' y1 y2 = some q351 /\ Ow G' H' (eVar b7 22 rV w_l3 :: eSl w_l3 9 rS y1 :: eVar b2 29 z00 p0 :: L) /\ GM.le G342 G' /\ σ' 121 = .int .i64 y2) (fun k' => k') K ⟨x338, 0, w346, _, h352, O343, (zAf _), rfl⟩ ?_
      rintro k354
      rintro σ357 H358 fr359 ⟨x355, x356, w364, G360, h363, O361, s362, t365⟩
      rcases k354 with _ | k354
      ·exact z09 h363
      rw [z1u] at h363
      refine .seq ?_
      refine .region ?_
      refine W.pure (v := (.bool (decide (x356 < (List.length p0.Loads : Int))))) rfl rfl (z2g (oo rfl t365) (oo rfl ((fr359 120 rfl).trans rfl)) rfl) ?_
      refine .nil ?_
      refine .seq ?_
      refine .cond (b := decide (x356 < (List.length p0.Loads : Int))) rfl rfl (fun g366 => ?_) (fun g366 => ?_)
      ·have h367 := z03 g366 h363
       refine .skip ?_
       refine .seq ?_
       refine .block ?_
       refine .seq ?_
       refine .region ?_
       obtain ⟨x368, i369, h370⟩ := z05 h367
       have j371 := z1n i369
       refine W.pure (v := (z4t w348 (Int.toNat x356 * 3))) rfl rfl (z5d el26 sz45 (oo rfl ((fr359 119 rfl).trans rfl)) (oo rfl t365) (z0x (RT.mono _ s362 f350)) j371.1 j371.2.1) ?_
       obtain ⟨c372, p373, f374⟩ := (At.le (At.le (z3c f350 j371.2.2) s362 s362) (zAf _) O361.fro)
       refine W.loadA (cs := c372) rfl rfl ag45 sz45 (z0d rfl p373) (RT.len _ f374) ?_
       refine W.lo rfl rfl (Lo.alloc (r := z27) (x0 := (Load_.mk ByteArray.empty ByteArray.empty 0)) ze45 (by kernel_rfl) zbl O361) ?_
       rintro v378 H379 ⟨b376, rfl, O375, sm377⟩
       refine W.lo rfl rfl (Lo.storeVar (j := 0) (s := z27) (y0 := x368) (v := (.agg (List.toArray c372))) (o := 0) rfl ((Put.at (Put.self _) _ _)) rfl sz45 rfl (by omega) rfl f374 O375) ?_
       rintro v382 H383 ⟨O380, sm381⟩
       replace O380 : Ow G360 H383 (eVar b376 45 z27 x368 :: eVar b7 22 rV w364 :: eSl w364 9 rS x355 :: eVar b2 29 z00 p0 :: L) := O380
       refine .nil ?_
       refine .region ?_
       refine W.pure (v := (.func (.func 23) #[] #[(.pointer (some ⟨b7, 0, none⟩))])) rfl rfl (z02 (oo rfl ((fr359 9 rfl).trans ((fr341 9 rfl).trans ((fr262 9 rfl).trans rfl))))) ?_
       refine W.pure (v := (padd (.pointer (some ⟨b376, 0, none⟩)) 0)) rfl rfl (z07 zf8 (oo rfl rfl) (O380.atVar (j := 0) rfl)) ?_
       refine W.load1 (v := (.string x368.Name)) (r := []) rfl rfl ag9 (z0d rfl (At.str (At.proj (O380.atVar (j := 0) rfl) z5j))) ?_
       refine W.pure (v := (padd (.pointer (some ⟨b376, 0, none⟩)) 1)) rfl rfl (z07 zf9 (oo rfl rfl) (O380.atVar (j := 0) rfl)) ?_
       refine W.load1 (v := (.string x368.Node)) (r := []) rfl rfl ag9 (z0d rfl (At.str (At.proj (O380.atVar (j := 0) rfl) z5k))) ?_
       refine W.lo rfl rfl (Lo.buildSlice (r := rS) (vs := [(.string (⟨#[108, 111, 97, 100]⟩ : zAd)), (.string x368.Name), (.string x368.Node)]) (xs := [(⟨#[108, 111, 97, 100]⟩ : zAd), x368.Name, x368.Node]) el22 ze9 sz9 (by kernel_rfl) rfl (qc rfl (qc rfl (qc rfl qn))) rfl (.cons rfl (.cons rfl (.cons rfl .nil))) O380) ?_
       rintro v386 H387 ⟨O384, sm385⟩
       refine W.pure (v := (padd (.pointer (some ⟨b376, 0, none⟩)) 2)) rfl rfl (z07 zfa (oo rfl rfl) (O384.atVar (j := 1) rfl)) ?_
       refine W.load1 (v := (.int .i64 x368.Demand)) (r := []) rfl rfl ag3 (z0d rfl (At.int (At.proj (O384.atVar (j := 1) rfl) z4m))) ?_
       refine W.lo rfl rfl (Lo.buildSlice (r := (rI .i64)) (vs := [(.int .i64 x368.Demand)]) (xs := [x368.Demand]) el65 ze3 sz3 (by kernel_rfl) rfl (qc rfl qn) rfl (.cons rfl .nil) O384) ?_
       rintro v390 H391 ⟨O388, sm389⟩
       obtain ⟨G392, O393, s394, f395⟩ := O388.frzSl (j := 1) rfl
       replace O393 : Ow G392 H391 (eSl v390 3 (rI .i64) [x368.Demand] :: eVar b376 45 z27 x368 :: eVar b7 22 rV w364 :: eSl w364 9 rS x355 :: eVar b2 29 z00 p0 :: L) := O393
       obtain ⟨G396, O397, s398, f399⟩ := O393.frzSl (j := 0) rfl
       replace O397 : Ow G396 H391 (eVar b376 45 z27 x368 :: eVar b7 22 rV w364 :: eSl w364 9 rS x355 :: eVar b2 29 z00 p0 :: L) := O397
       have O400 : Ow G396 H391 (eVar b2 29 z00 p0 :: eVar b376 45 z27 x368 :: eVar b7 22 rV w364 :: eSl w364 9 rS x355 :: L) := O397.front (j := 3) rfl
       have O401 : Ow G396 H391 (eVar b376 45 z27 x368 :: eVar b2 29 z00 p0 :: eVar b7 22 rV w364 :: eSl w364 9 rS x355 :: L) := O400.front (j := 1) rfl
       have O402 : Ow G396 H391 (eSl w364 9 rS x355 :: eVar b376 45 z27 x368 :: eVar b2 29 z00 p0 :: eVar b7 22 rV w364 :: L) := O401.front (j := 3) rfl
       have O403 : Ow G396 H391 (eVar b7 22 rV w364 :: eSl w364 9 rS x355 :: eVar b376 45 z27 x368 :: eVar b2 29 z00 p0 :: L) := O402.front (j := 3) rfl
       obtain ⟨x404, i405, h406⟩ := z05 h370
       refine W.lo rfl rfl (Lo.callvPF (ps := [eVar b7 22 rV w364, eSl w364 9 rS x355]) (pw := fun w => [eVar b7 22 rV w, eSl w 9 rS x404]) rfl rfl (fn := Tryd.f23) (by kernel_rfl) rfl (mc rfl (mc rfl mn)) O403 (fun L' O' => z3s K v386 [(⟨#[108, 111, 97, 100]⟩ : zAd), x368.Name, x368.Node] (RT.mono _ s398 f395) v390 [x368.Demand] f399 b7 w364 x355 O' _ i405)) ?_
       rintro v413 H414 ⟨w411, G407, O408, s409, sm412, rfl⟩
       replace O408 : Ow G407 H414 (eVar b7 22 rV w411 :: eSl w411 9 rS x404 :: eVar b376 45 z27 x368 :: eVar b2 29 z00 p0 :: L) := O408
       refine .nil ?_
       refine .region ?_
       refine W.pure (v := (.int .i64 (z0p .i64 (x356 + 1)))) rfl rfl (z2g (oo rfl t365) (oo rfl rfl) rfl) ?_
       refine W.pure (v := (.int .i64 (z0p .i64 (x356 + 1)))) rfl rfl (z02 (oo rfl rfl)) ?_
       refine .nil ?_
       have O415 : Ow G407 H414 (eVar b7 22 rV w411 :: eSl w411 9 rS x404 :: eVar b2 29 z00 p0 :: L) := O408.drop 2
       exact ⟨k354, zAg _, ⟨x404, z0p .i64 (x356 + 1), w411, _, h406, O415, (zAe s362 (zAe s394 (zAe s398 s409))), rfl⟩⟩
      ·have h416 := z16 g366 h363
       refine .exit ?_
       obtain rfl := zAa h416
       exact ⟨x355, w364, _, rfl, O361, s362⟩
     ·rintro σ418 H419 fr420 ⟨x417, w425, G421, rfl, O422, s423⟩
      have h426 := z0b h353
      refine .seq ?_
      refine .seq ?_
      refine .region ?_
      refine W.pure (v := (padd (.pointer (some ⟨b2, 0, none⟩)) 5)) rfl rfl (z07 zc7 (oo rfl ((fr420 1 rfl).trans ((fr341 1 rfl).trans ((fr262 1 rfl).trans ((fr183 1 rfl).trans ((fr60 1 rfl).trans rfl)))))) (O422.atVar (j := 2) rfl)) ?_
      obtain ⟨w427, p428, f429⟩ := At.sl (At.proj (O422.atVar (j := 2) rfl) z2w)
      refine W.load1 (v := w427) (r := []) rfl rfl ag27 (z0d rfl p428) ?_
      refine W.pure (v := (.int .i64 (List.length p0.Stores : Int))) rfl rfl (z25 (oo rfl rfl) (z0x f429) (z04 el27)) ?_
      refine W.pure (v := (.int .i64 0)) rfl rfl (z02 (oo rfl rfl)) ?_
      refine .nil ?_
      obtain ⟨q430, h431, h432⟩ := z05 h426
      refine AW.midT (fun σ' H' => ∃ (y1 : List zAd) (w_l3 : Value) (G' : GM), y1 = q430 /\ Ow G' H' (eVar b7 22 rV w_l3 :: eSl w_l3 9 rS y1 :: eVar b2 29 z00 p0 :: L) /\ GM.le G421 G') ?_ ?_
      ·refine .block ?_
       refine AW.loop (α := Nat) (fun k' σ' H' => ∃ (y1 : List zAd) (y2 : Int) (w_l3 : Value) (G' : GM), z1j K p0 k' y1 y2 = some q430 /\ Ow G' H' (eVar b7 22 rV w_l3 :: eSl w_l3 9 rS y1 :: eVar b2 29 z00 p0 :: L) /\ GM.le G421 G' /\ σ' 139 = .int .i64 y2) (fun k' => k') K ⟨x417, 0, w425, _, h431, O422, (zAf _), rfl⟩ ?_
       rintro k433
       rintro σ436 H437 fr438 ⟨x434, x435, w443, G439, h442, O440, s441, t444⟩
       rcases k433 with _ | k433
       ·exact z09 h442
       rw [z1j] at h442
       refine .seq ?_
       refine .region ?_
       refine W.pure (v := (.bool (decide (x435 < (List.length p0.Stores : Int))))) rfl rfl (z2g (oo rfl t444) (oo rfl ((fr438 138 rfl).trans rfl)) rfl) ?_
       refine .nil ?_
       refine .seq ?_
       refine .cond (b := decide (x435 < (List.length p0.Stores : Int))) rfl rfl (fun g445 => ?_) (fun g445 => ?_)
       ·have h446 := z03 g445 h442
        refine .skip ?_
        refine .seq ?_
        refine .block ?_
        refine .seq ?_
        refine .region ?_
        obtain ⟨x447, i448, h449⟩ := z05 h446
        have j450 := z1n i448
        refine W.pure (v := (z4t w427 (Int.toNat x435 * 5))) rfl rfl (z5d el27 sz73 (oo rfl ((fr438 137 rfl).trans rfl)) (oo rfl t444) (z0x (RT.mono _ s441 f429)) j450.1 j450.2.1) ?_
        obtain ⟨c451, p452, f453⟩ := (At.le (At.le (z3c f429 j450.2.2) s441 s441) (zAf _) O440.fro)
        refine W.loadA (cs := c451) rfl rfl ag73 sz73 (z0d rfl p452) (RT.len _ f453) ?_
        refine W.lo rfl rfl (Lo.alloc (r := z1f) (x0 := (Store.mk ByteArray.empty ByteArray.empty 0 0 0)) ze73 (by kernel_rfl) zbm O440) ?_
        rintro v457 H458 ⟨b455, rfl, O454, sm456⟩
        refine W.lo rfl rfl (Lo.storeVar (j := 0) (s := z1f) (y0 := x447) (v := (.agg (List.toArray c451))) (o := 0) rfl ((Put.at (Put.self _) _ _)) rfl sz73 rfl (by omega) rfl f453 O454) ?_
        rintro v461 H462 ⟨O459, sm460⟩
        replace O459 : Ow G439 H462 (eVar b455 73 z1f x447 :: eVar b7 22 rV w443 :: eSl w443 9 rS x434 :: eVar b2 29 z00 p0 :: L) := O459
        refine .nil ?_
        refine .region ?_
        refine W.pure (v := (.func (.func 23) #[] #[(.pointer (some ⟨b7, 0, none⟩))])) rfl rfl (z02 (oo rfl ((fr438 9 rfl).trans ((fr420 9 rfl).trans ((fr341 9 rfl).trans ((fr262 9 rfl).trans rfl)))))) ?_
        refine W.pure (v := (padd (.pointer (some ⟨b455, 0, none⟩)) 0)) rfl rfl (z07 zfm (oo rfl rfl) (O459.atVar (j := 0) rfl)) ?_
        refine W.load1 (v := (.string x447.Name)) (r := []) rfl rfl ag9 (z0d rfl (At.str (At.proj (O459.atVar (j := 0) rfl) z5l))) ?_
        refine W.pure (v := (padd (.pointer (some ⟨b455, 0, none⟩)) 1)) rfl rfl (z07 zfn (oo rfl rfl) (O459.atVar (j := 0) rfl)) ?_
        refine W.load1 (v := (.string x447.Node)) (r := []) rfl rfl ag9 (z0d rfl (At.str (At.proj (O459.atVar (j := 0) rfl) z5m))) ?_
        refine W.lo rfl rfl (Lo.buildSlice (r := rS) (vs := [(.string (⟨#[115, 116, 111, 114, 101]⟩ : zAd)), (.string x447.Name), (.string x447.Node)]) (xs := [(⟨#[115, 116, 111, 114, 101]⟩ : zAd), x447.Name, x447.Node]) el22 ze9 sz9 (by kernel_rfl) rfl (qc rfl (qc rfl (qc rfl qn))) rfl (.cons rfl (.cons rfl (.cons rfl .nil))) O459) ?_
        rintro v465 H466 ⟨O463, sm464⟩
        refine W.pure (v := (padd (.pointer (some ⟨b455, 0, none⟩)) 2)) rfl rfl (z07 zfo (oo rfl rfl) (O463.atVar (j := 1) rfl)) ?_
        refine W.load1 (v := (.int .i64 x447.Charge)) (r := []) rfl rfl ag3 (z0d rfl (At.int (At.proj (O463.atVar (j := 1) rfl) z4n))) ?_
        refine W.pure (v := (padd (.pointer (some ⟨b455, 0, none⟩)) 3)) rfl rfl (z07 zfp (oo rfl rfl) (O463.atVar (j := 1) rfl)) ?_
        refine W.load1 (v := (.int .i64 x447.Discharge)) (r := []) rfl rfl ag3 (z0d rfl (At.int (At.proj (O463.atVar (j := 1) rfl) z3q))) ?_
        refine W.pure (v := (padd (.pointer (some ⟨b455, 0, none⟩)) 4)) rfl rfl (z07 zfq (oo rfl rfl) (O463.atVar (j := 1) rfl)) ?_
        refine W.load1 (v := (.int .i64 x447.Capacity)) (r := []) rfl rfl ag3 (z0d rfl (At.int (At.proj (O463.atVar (j := 1) rfl) z42))) ?_
        refine W.lo rfl rfl (Lo.buildSlice (r := (rI .i64)) (vs := [(.int .i64 x447.Charge), (.int .i64 x447.Discharge), (.int .i64 x447.Capacity)]) (xs := [x447.Charge, x447.Discharge, x447.Capacity]) el65 ze3 sz3 (by kernel_rfl) rfl (qc rfl (qc rfl (qc rfl qn))) rfl (.cons rfl (.cons rfl (.cons rfl .nil))) O463) ?_
        rintro v469 H470 ⟨O467, sm468⟩
        obtain ⟨G471, O472, s473, f474⟩ := O467.frzSl (j := 1) rfl
        replace O472 : Ow G471 H470 (eSl v469 3 (rI .i64) [x447.Charge, x447.Discharge, x447.Capacity] :: eVar b455 73 z1f x447 :: eVar b7 22 rV w443 :: eSl w443 9 rS x434 :: eVar b2 29 z00 p0 :: L) := O472
        obtain ⟨G475, O476, s477, f478⟩ := O472.frzSl (j := 0) rfl
        replace O476 : Ow G475 H470 (eVar b455 73 z1f x447 :: eVar b7 22 rV w443 :: eSl w443 9 rS x434 :: eVar b2 29 z00 p0 :: L) := O476
        have O479 : Ow G475 H470 (eVar b2 29 z00 p0 :: eVar b455 73 z1f x447 :: eVar b7 22 rV w443 :: eSl w443 9 rS x434 :: L) := O476.front (j := 3) rfl
        have O480 : Ow G475 H470 (eVar b455 73 z1f x447 :: eVar b2 29 z00 p0 :: eVar b7 22 rV w443 :: eSl w443 9 rS x434 :: L) := O479.front (j := 1) rfl
        have O481 : Ow G475 H470 (eSl w443 9 rS x434 :: eVar b455 73 z1f x447 :: eVar b2 29 z00 p0 :: eVar b7 22 rV w443 :: L) := O480.front (j := 3) rfl
        have O482 : Ow G475 H470 (eVar b7 22 rV w443 :: eSl w443 9 rS x434 :: eVar b455 73 z1f x447 :: eVar b2 29 z00 p0 :: L) := O481.front (j := 3) rfl
        obtain ⟨x483, i484, h485⟩ := z05 h449
        refine W.lo rfl rfl (Lo.callvPF (ps := [eVar b7 22 rV w443, eSl w443 9 rS x434]) (pw := fun w => [eVar b7 22 rV w, eSl w 9 rS x483]) rfl rfl (fn := Tryd.f23) (by kernel_rfl) rfl (mc rfl (mc rfl mn)) O482 (fun L' O' => z3s K v465 [(⟨#[115, 116, 111, 114, 101]⟩ : zAd), x447.Name, x447.Node] (RT.mono _ s477 f474) v469 [x447.Charge, x447.Discharge, x447.Capacity] f478 b7 w443 x434 O' _ i484)) ?_
        rintro v492 H493 ⟨w490, G486, O487, s488, sm491, rfl⟩
        replace O487 : Ow G486 H493 (eVar b7 22 rV w490 :: eSl w490 9 rS x483 :: eVar b455 73 z1f x447 :: eVar b2 29 z00 p0 :: L) := O487
        refine .nil ?_
        refine .region ?_
        refine W.pure (v := (.int .i64 (z0p .i64 (x435 + 1)))) rfl rfl (z2g (oo rfl t444) (oo rfl rfl) rfl) ?_
        refine W.pure (v := (.int .i64 (z0p .i64 (x435 + 1)))) rfl rfl (z02 (oo rfl rfl)) ?_
        refine .nil ?_
        have O494 : Ow G486 H493 (eVar b7 22 rV w490 :: eSl w490 9 rS x483 :: eVar b2 29 z00 p0 :: L) := O487.drop 2
        exact ⟨k433, zAg _, ⟨x483, z0p .i64 (x435 + 1), w490, _, h485, O494, (zAe s441 (zAe s473 (zAe s477 s488))), rfl⟩⟩
       ·have h495 := z16 g445 h442
        refine .exit ?_
        obtain rfl := zAa h495
        exact ⟨x434, w443, _, rfl, O440, s441⟩
      ·rintro σ497 H498 fr499 ⟨x496, w504, G500, rfl, O501, s502⟩
       have h505 := z0b h432
       refine .seq ?_
       refine .region ?_
       refine W.load1 (v := w504) (r := []) rfl rfl ag22 (z0d ((fr499 3 rfl).trans ((fr420 3 rfl).trans ((fr341 3 rfl).trans ((fr262 3 rfl).trans ((fr183 3 rfl).trans ((fr60 3 rfl).trans rfl)))))) (At.raw (O501.atVar (j := 0) rfl))) ?_
       refine W.pure (v := w504) rfl rfl (z01 (oo rfl rfl)) ?_
       refine .nil ?_
       refine .ret ?_
       have O506 : Ow G500 H498 (eSl w504 9 rS x496 :: eVar b2 29 z00 p0 :: L) := O501.drop 0
       have O507 : Ow G500 H498 (eSl w504 9 rS x496 :: L) := O506.drop 1
       obtain rfl := zAa h505
       exact z5q kr w504 (v1 := w504) (by rfl) (z2i (by rfl) (by exact rfl)) O507 (zAe s63 (zAe s186 (zAe s265 (zAe s344 (zAe s423 s502))))) rfl
def z0h (K : Nat) (p0 : List zAd) (p1 : List zAd) : Nat -> Int -> Option (Bool ⊕ Unit)
 | 0, _ => none
 | k + 1, x8 => (if (decide (x8 < (List.length p0 : Int))) = true then ((idx p0 x8).bind fun x24 => ((idx p1 x8).bind fun x28 => (if (!(sEq x24 x28)) = true then some (.inl false) else z0h K p0 p1 k (z0p .i64 (x8 + 1))))) else some (.inr ()))
def z0v (K : Nat) (p0 : List zAd) (p1 : List zAd) : Option Bool := (if ((List.length p0 : Int) != (List.length p1 : Int)) = true then some false else (z5s (z0h K p0 p1 K 0) (tu1 fun a45 => some a45) (tu0 (some true))))
theorem z4h (K : Nat) {G : GM} {H : AH} {L : List Pc} (v0 : Value) (p0 : List zAd) (hp0 : (rSl rS).rep G [v0] p0) (v1 : Value) (p1 : List zAd) (hp1 : (rSl rS).rep G [v1] p1) (O : Ow G H (L)) (r : Bool) (h : z0v K p0 p1 = some r) :
  CR Tryd.prog 10 [v0, v1] G H (L) (fun v G' _ => v = .bool r) := by
 unfold z0v at h
 refine CR.og (n := 26) (fn := Tryd.f10) (by kernel_rfl) rfl rfl fun R kr => ?_
 refine .seq ?_
 refine .region ?_
 refine W.pure (v := (.bool false)) rfl rfl (z01 (oo rfl rfl)) ?_
 refine .nil ?_
 refine .seq ?_
 refine .seq ?_
 refine .region ?_
 refine W.pure (v := v0) rfl rfl (z02 (oo rfl rfl)) ?_
 refine W.pure (v := (.int .i64 (List.length p0 : Int))) rfl rfl (z25 (oo rfl rfl) (z0x hp0) (z04 el22)) ?_
 refine W.pure (v := v1) rfl rfl (z02 (oo rfl rfl)) ?_
 refine W.pure (v := (.int .i64 (List.length p1 : Int))) rfl rfl (z25 (oo rfl rfl) (z0x hp1) (z04 el22)) ?_
 refine W.pure (v := (.bool ((List.length p0 : Int) != (List.length p1 : Int)))) rfl rfl (z2g (oo rfl rfl) (oo rfl rfl) rfl) ?_
 refine .nil ?_
 refine .cond (b := ((List.length p0 : Int) != (List.length p1 : Int))) rfl rfl (fun g1 => ?_) (fun g1 => ?_)
 ·have h2 := z03 g1 h
  refine .seq ?_
  refine .region ?_
  refine W.pure (v := (.bool false)) rfl rfl (z01 (oo rfl rfl)) ?_
  refine .nil ?_
  refine .ret ?_
  obtain rfl := zAa h2
  exact z4i kr (v1 := (.bool false)) (by rfl) (z2i (by rfl) (by exact rfl)) O (zAf _) rfl
 ·have h3 := z16 g1 h
  refine .skip ?_
  refine .seq ?_
  refine .seq ?_
  refine .region ?_
  refine W.pure (v := v0) rfl rfl (z02 (oo rfl rfl)) ?_
  refine W.pure (v := (.int .i64 (List.length p0 : Int))) rfl rfl (z25 (oo rfl rfl) (z0x hp0) (z04 el22)) ?_
  refine W.pure (v := (.int .i64 0)) rfl rfl (z02 (oo rfl rfl)) ?_
  refine .nil ?_
  obtain ⟨q4, h5, h6⟩ := z2t h3
  refine AW.midT (fun σ' H' => ∃  (G' : GM), (.inr ()) = q4 /\ Ow G' H' (L) /\ GM.le G G') ?_ ?_
  ·refine .block ?_
   refine AW.loop (α := Nat) (fun k' σ' H' => ∃ (y1 : Int) (G' : GM), z0h K p0 p1 k' y1 = some q4 /\ Ow G' H' (L) /\ GM.le G G' /\ σ' 13 = .int .i64 y1) (fun k' => k') K ⟨0, _, h5, O, (zAf _), rfl⟩ ?_
   rintro k7
   rintro σ9 H10 fr11 ⟨x8, G12, h15, O13, s14, t16⟩
   rcases k7 with _ | k7
   ·exact z09 h15
   rw [z0h] at h15
   refine .seq ?_
   refine .region ?_
   refine W.pure (v := (.bool (decide (x8 < (List.length p0 : Int))))) rfl rfl (z2g (oo rfl t16) (oo rfl ((fr11 12 rfl).trans rfl)) rfl) ?_
   refine .nil ?_
   refine .seq ?_
   refine .cond (b := decide (x8 < (List.length p0 : Int))) rfl rfl (fun g17 => ?_) (fun g17 => ?_)
   ·have h18 := z03 g17 h15
    refine .skip ?_
    refine .seq ?_
    refine .block ?_
    refine .seq ?_
    refine .region ?_
    refine W.pure (v := (.int .i64 x8)) rfl rfl (z02 (oo rfl t16)) ?_
    refine W.pure (v := (.int .i64 x8)) rfl rfl (z01 (oo rfl rfl)) ?_
    refine .nil ?_
    refine .seq ?_
    refine .draw2 (M := [0, 0, 3, 7, 0, 0, 48, 112, 255]) mixed (by kernel_rfl) (by kernel_rfl) fun H19 N23 x20 F22 => ?_
    have O21 := O13.ext x20
    refine D2.pure (v := v0) rfl rfl (z02 (oo rfl ((fr11 0 rfl).trans rfl))) ?_
    refine D2.pure (v := (.int .i64 x8)) rfl rfl (z02 (oo rfl rfl)) ?_
    obtain ⟨x24, i25, h26⟩ := z05 h18
    have j27 := z1n i25
    refine D2.pure (v := (z4t v0 (Int.toNat x8 * 1))) rfl rfl (z5d el22 sz9 (oo rfl rfl) (oo rfl rfl) (z0x (RT.mono _ s14 hp0)) j27.1 j27.2.1) ?_
    refine D2.load1' (v := (.string x24)) (r := []) rfl rfl ag9 (z0d rfl (At.str (At.le (At.le (z3c hp0 j27.2.2) s14 s14) (zAf _) O21.fro))) z0t ?_
    refine D2.pure (v := v1) rfl rfl (z02 (oo rfl ((fr11 1 rfl).trans rfl))) ?_
    refine D2.pure (v := (.int .i64 x8)) rfl rfl (z02 (oo rfl rfl)) ?_
    obtain ⟨x28, i29, h30⟩ := z05 h26
    have j31 := z1n i29
    refine D2.pure (v := (z4t v1 (Int.toNat x8 * 1))) rfl rfl (z5d el22 sz9 (oo rfl rfl) (oo rfl rfl) (z0x (RT.mono _ s14 hp1)) j31.1 j31.2.1) ?_
    refine D2.load1' (v := (.string x28)) (r := []) rfl rfl ag9 (z0d rfl (At.str (At.le (At.le (z3c hp1 j31.2.2) s14 s14) (zAf _) O21.fro))) z0t ?_
    refine D2.pure (v := (.bool (!(sEq x24 x28)))) rfl rfl (zdi (oo rfl rfl) (oo rfl rfl)) ?_
    refine .nil ?_
    refine .cond (b := (!(sEq x24 x28))) rfl rfl (fun g32 => ?_) (fun g32 => ?_)
    ·have h33 := z03 g32 h30
     refine .seq ?_
     refine .region ?_
     refine W.pure (v := (.bool false)) rfl rfl (z01 (oo rfl rfl)) ?_
     refine .nil ?_
     refine .ret ?_
     obtain rfl := zAa h33
     have h34 := z0b (z4e h6)
     obtain rfl := zAa h34
     exact z4i kr (v1 := (.bool false)) (by rfl) (z2i (by rfl) (by exact rfl)) O21 s14 rfl
    ·have h35 := z16 g32 h30
     refine .skip ?_
     refine .region ?_
     refine W.pure (v := (.int .i64 (z0p .i64 (x8 + 1)))) rfl rfl (z2g (oo rfl t16) (oo rfl rfl) rfl) ?_
     refine W.pure (v := (.int .i64 (z0p .i64 (x8 + 1)))) rfl rfl (z02 (oo rfl rfl)) ?_
     refine .nil ?_
     exact ⟨k7, zAg _, ⟨z0p .i64 (x8 + 1), _, h35, O21, s14, rfl⟩⟩
   ·have h36 := z16 g17 h15
    refine .exit ?_
    obtain rfl := zAa h36
    exact ⟨_, rfl, O13, s14⟩
  ·rintro σ37 H38 fr39 ⟨G40, rfl, O41, s42⟩
   have h44 := z7v (z6h h6)
   refine .seq ?_
   refine .region ?_
   refine W.pure (v := (.bool true)) rfl rfl (z01 (oo rfl rfl)) ?_
   refine .nil ?_
   refine .ret ?_
   obtain rfl := zAa h44
   exact z4i kr (v1 := (.bool true)) (by rfl) (z2i (by rfl) (by exact rfl)) O41 s42 rfl
def z0i (K : Nat) (x118 : List zAd) : Nat -> zAd -> Int -> Option (zAd)
 | 0, _, _ => none
 | k + 1, x135, x136 => (if (decide (x136 < (List.length x118 : Int))) = true then ((idx x118 x136).bind fun x148 => (if (x148).size + ((⟨#[10]⟩ : zAd)).size <= 4611686018427387904 then (if (x135).size + ((x148 ++ (⟨#[10]⟩ : zAd))).size <= 4611686018427387904 then z0i K x118 k (x135 ++ (x148 ++ (⟨#[10]⟩ : zAd))) (z0p .i64 (x136 + 1)) else none) else none)) else some x135)
def z0j (K : Nat) (x118 : List zAd) (x272 : List zAd) : Nat -> List zAd -> Int -> Option (List zAd)
 | 0, _, _ => none
 | k + 1, x290, x291 => (if (decide (x291 < (List.length x118 : Int))) = true then (Option.bind (((idx x118 x291).bind fun x305 => ((z7y K x272 x305).bind fun x309 => (if (!x309) = true then (if ((⟨#[45, 32]⟩ : zAd)).size + (x305).size <= 4611686018427387904 then (if List.length x290 + List.length [((⟨#[45, 32]⟩ : zAd) ++ x305)] <= 16777216 then some (x290 ++ [((⟨#[45, 32]⟩ : zAd) ++ x305)]) else none) else none) else some x290)))) (tu1 fun x339 => z0j K x118 x272 k x339 (z0p .i64 (x291 + 1)))) else some x290)
def z0k (K : Nat) (x118 : List zAd) (x272 : List zAd) : Nat -> List zAd -> Int -> Option (List zAd)
 | 0, _, _ => none
 | k + 1, x368, x369 => (if (decide (x369 < (List.length x272 : Int))) = true then (Option.bind (((idx x272 x369).bind fun x383 => ((z7y K x118 x383).bind fun x387 => (if (!x387) = true then (if ((⟨#[43, 32]⟩ : zAd)).size + (x383).size <= 4611686018427387904 then (if List.length x368 + List.length [((⟨#[43, 32]⟩ : zAd) ++ x383)] <= 16777216 then some (x368 ++ [((⟨#[43, 32]⟩ : zAd) ++ x383)]) else none) else none) else some x368)))) (tu1 fun x417 => z0k K x118 x272 k x417 (z0p .i64 (x369 + 1)))) else some x368)
def z1z (K : Nat) (p0 : Network) (p1 : Network) : Option Bool := ((z3r K ).bind fun x11 => (if (!x11) = true then some false else ((z2m K p0).bind fun x30 => ((z34 K p0 p1).bind fun x47 => ((z3v K p0).bind fun x63 => (Option.bind ((if (x63 != 0) = true then (if (x30.2 != x63) = true then some true else (if (x47.2 != x63) = true then some true else (if (!(sEq x30.1 (⟨#[]⟩ : zAd))) = true then some true else some (decide ((List.length x47.1 : Int) > 0))))) else some false)) (tu1 fun x93 => (if x93 = true then some false else (if (x63 != 0) = true then some true else ((z3w K p0).bind fun x118 => (Option.bind (z0i K x118 K (⟨#[]⟩ : zAd) 0) (tu1 fun x157 => (z5s ((if (decide ((x157.size : Int) > 8192)) = true then (Option.bind ((if (x30.2 != 2) = true then some true else some (!(sEq x30.1 (⟨#[]⟩ : zAd))))) (tu1 fun x179 => (if x179 = true then some (.inl false) else some (.inr ())))) else (Option.bind ((if (x30.2 != 0) = true then some true else some (!(sEq x30.1 x157)))) (tu1 fun x205 => (if x205 = true then some (.inl false) else some (.inr ())))))) (tu1 fun a484 => some a484) (tu0 ((z3v K p1).bind fun x234 => (if (x234 != 0) = true then (Option.bind ((if (x47.2 == x234) = true then some ((List.length x47.1 : Int) == 0) else some false)) (tu1 fun x254 => some x254)) else ((z3w K p1).bind fun x272 => (Option.bind (z0j K x118 x272 K [] 0) (tu1 fun x355 => (Option.bind (z0k K x118 x272 K x355 0) (tu1 fun x427 => (Option.bind ((if (x47.2 == 0) = true then ((z0v K x47.1 x427).bind fun x450 => some x450) else some false)) (tu1 fun x470 => some x470)))))))))))))))))))))))
theorem z67 (K : Nat) {G : GM} {H : AH} {L : List Pc} (v0 : List Value) (p0 : Network) (hp0 : z00.rep G v0 p0) (v1 : List Value) (p1 : Network) (hp1 : z00.rep G v1 p1) (O : Ow G H (L)) (r : Bool) (h : z1z K p0 p1 = some r) :
  CR Tryd.prog 3 [.agg (List.toArray v0), .agg (List.toArray v1)] G H (L) (fun v G' _ => v = .bool r) := by
 unfold z1z at h
 refine CR.og (n := 140) (fn := Tryd.f3) (by kernel_rfl) rfl rfl fun R kr => ?_
 refine .seq ?_
 refine .region ?_
 refine W.lo rfl rfl (Lo.box (r := z00) (x0 := p0) (v := (.agg (List.toArray v0))) rfl rfl hp0 O) ?_
 rintro v4 H5 ⟨b2, rfl, O1, sm3⟩
 refine W.lo rfl rfl (Lo.box (r := z00) (x0 := p1) (v := (.agg (List.toArray v1))) rfl rfl hp1 O1) ?_
 rintro v9 H10 ⟨b7, rfl, O6, sm8⟩
 refine W.pure (v := (.bool false)) rfl rfl (z01 (oo rfl rfl)) ?_
 refine .nil ?_
 refine .seq ?_
 refine .seq ?_
 refine .region ?_
 obtain ⟨x11, i12, h13⟩ := z05 h
 refine W.lo rfl rfl (Lo.callP (ps := []) (ps' := []) rfl (fn := Tryd.f4) (by kernel_rfl) rfl mn O6 (fun L' O' => z6s K  O' _ i12)) ?_
 rintro v20 H21 ⟨G14, O15, s16, sm19, rfl⟩
 replace O15 : Ow G14 H21 (eVar b7 29 z00 p1 :: eVar b2 29 z00 p0 :: L) := O15
 refine W.pure (v := (.bool (!x11))) rfl rfl (z1g (a := x11) (oo rfl rfl)) ?_
 refine .nil ?_
 refine .cond (b := (!x11)) rfl rfl (fun g22 => ?_) (fun g22 => ?_)
 ·have h23 := z03 g22 h13
  refine .seq ?_
  refine .region ?_
  refine W.pure (v := (.bool false)) rfl rfl (z01 (oo rfl rfl)) ?_
  refine .nil ?_
  refine .ret ?_
  have O24 : Ow G14 H21 (eVar b2 29 z00 p0 :: L) := O15.drop 0
  have O25 : Ow G14 H21 (L) := O24.drop 0
  obtain rfl := zAa h23
  exact z4i kr (v1 := (.bool false)) (by rfl) (z2i (by rfl) (by exact rfl)) O25 s16 rfl
 ·have h26 := z16 g22 h13
  refine .skip ?_
  refine .seq ?_
  refine .region ?_
  obtain ⟨c27, p28, f29⟩ := (O15.atVar (j := 1) rfl)
  refine W.loadA (cs := c27) rfl rfl ag29 sz29 (z0d rfl p28) (RT.len _ f29) ?_
  obtain ⟨x30, i31, h32⟩ := z05 h26
  refine W.lo rfl rfl (Lo.callP (ps := []) (ps' := []) rfl (fn := Tryd.f5) (by kernel_rfl) rfl (mc rfl mn) O15 (fun L' O' => z7q K c27 p0 f29 O' _ i31)) ?_
  rintro v39 H40 ⟨G33, O34, s35, sm38, rfl⟩
  replace O34 : Ow G33 H40 (eVar b7 29 z00 p1 :: eVar b2 29 z00 p0 :: L) := O34
  refine W.pure (v := (.tuple #[(.string x30.1), (.int .i64 x30.2)])) rfl rfl (z02 (oo rfl rfl)) ?_
  refine W.pure (v := (.string x30.1)) rfl rfl (z84 (oo rfl rfl) rfl) ?_
  refine W.pure (v := (.int .i64 x30.2)) rfl rfl (z84 (oo rfl rfl) rfl) ?_
  refine W.pure (v := (.string x30.1)) rfl rfl (z01 (oo rfl rfl)) ?_
  refine W.pure (v := (.int .i64 x30.2)) rfl rfl (z01 (oo rfl rfl)) ?_
  refine .nil ?_
  refine .seq ?_
  refine .region ?_
  obtain ⟨c41, p42, f43⟩ := (O34.atVar (j := 1) rfl)
  refine W.loadA (cs := c41) rfl rfl ag29 sz29 (z0d rfl p42) (RT.len _ f43) ?_
  obtain ⟨c44, p45, f46⟩ := (O34.atVar (j := 0) rfl)
  refine W.loadA (cs := c44) rfl rfl ag29 sz29 (z0d rfl p45) (RT.len _ f46) ?_
  obtain ⟨x47, i48, h49⟩ := z05 h32
  refine W.lo rfl rfl (Lo.callPF (ps := []) (pw := fun w => [eSl w 9 rS x47.1]) rfl (fn := Tryd.f6) (by kernel_rfl) rfl (mc rfl (mc rfl mn)) O34 (fun L' O' => z80 K c41 p0 f43 c44 p1 f46 O' _ i48)) ?_
  rintro v58 H59 ⟨w55, G50, O51, s52, sm57, rfl⟩
  replace O51 : Ow G50 H59 (eSl w55 9 rS x47.1 :: eVar b7 29 z00 p1 :: eVar b2 29 z00 p0 :: L) := O51
  refine W.pure (v := (.tuple #[w55, (.int .i64 x47.2)])) rfl rfl (z02 (oo rfl rfl)) ?_
  refine W.pure (v := w55) rfl rfl (z84 (oo rfl rfl) rfl) ?_
  refine W.pure (v := (.int .i64 x47.2)) rfl rfl (z84 (oo rfl rfl) rfl) ?_
  refine W.pure (v := w55) rfl rfl (z01 (oo rfl rfl)) ?_
  refine W.pure (v := (.int .i64 x47.2)) rfl rfl (z01 (oo rfl rfl)) ?_
  refine .nil ?_
  refine .seq ?_
  refine .region ?_
  obtain ⟨c60, p61, f62⟩ := (O51.atVar (j := 2) rfl)
  refine W.loadA (cs := c60) rfl rfl ag29 sz29 (z0d rfl p61) (RT.len _ f62) ?_
  obtain ⟨x63, i64, h65⟩ := z05 h49
  refine W.lo rfl rfl (Lo.callP (ps := []) (ps' := []) rfl (fn := Tryd.f7) (by kernel_rfl) rfl (mc rfl mn) O51 (fun L' O' => z6m K c60 p0 f62 O' _ i64)) ?_
  rintro v72 H73 ⟨G66, O67, s68, sm71, rfl⟩
  replace O67 : Ow G66 H73 (eSl w55 9 rS x47.1 :: eVar b7 29 z00 p1 :: eVar b2 29 z00 p0 :: L) := O67
  refine W.pure (v := (.int .i64 x63)) rfl rfl (z01 (oo rfl rfl)) ?_
  refine .nil ?_
  refine .seq ?_
  refine .seq ?_
  obtain ⟨q74, h75, h76⟩ := z05 h65
  refine AW.midT (fun σ' H' => ∃ (y1 : Bool) (G' : GM), y1 = q74 /\ Ow G' H' (eSl w55 9 rS x47.1 :: eVar b7 29 z00 p1 :: eVar b2 29 z00 p0 :: L) /\ GM.le G66 G' /\ σ' 55 = .bool y1) ?_ ?_
  ·refine .region ?_
   refine W.pure (v := (.int .i64 x63)) rfl rfl (z02 (oo rfl rfl)) ?_
   refine W.pure (v := (.bool (x63 != 0))) rfl rfl (z2g (oo rfl rfl) (oo rfl rfl) rfl) ?_
   refine W.pure (v := (.bool (x63 != 0))) rfl rfl (z02 (oo rfl rfl)) ?_
   refine W.splitAt (t := 37) (b := (x63 != 0)) rfl (fun g77 gv78 => ?_) (fun g77 gv78 => ?_)
   ·have h79 := z03 g77 h75
    refine W.pure (v := (.int .i64 x30.2)) (gk rfl rfl gv78 rfl) rfl (z02 (oo rfl rfl)) ?_
    refine W.pure (v := (.int .i64 x63)) (gk rfl rfl gv78 rfl) rfl (z02 (oo rfl rfl)) ?_
    refine W.pure (v := (.bool (x30.2 != x63))) (gk rfl rfl gv78 rfl) rfl (z2g (oo rfl rfl) (oo rfl rfl) rfl) ?_
    refine W.pure (v := (.bool (x30.2 != x63))) (gk rfl rfl gv78 rfl) rfl (z02 (oo rfl rfl)) ?_
    refine W.splitAt (t := 41) (b := (x30.2 != x63)) rfl (fun g80 gv81 => ?_) (fun g80 gv81 => ?_)
    ·have h82 := z03 g80 h79
     refine W.skip (gk rfl rfl gv81 rfl) rfl ?_
     refine W.skip (gk rfl rfl gv81 rfl) rfl ?_
     refine W.skip (gk rfl rfl gv81 rfl) rfl ?_
     refine W.pure (v := (.bool true)) (gk rfl rfl gv78 rfl) rfl (z0u (oo rfl gv81) (oo rfl rfl)) ?_
     refine W.pure (v := (.bool true)) (gk rfl rfl gv78 rfl) rfl (z02 (oo rfl rfl)) ?_
     refine W.skip (gk rfl rfl rfl rfl) rfl ?_
     refine W.skip (gk rfl rfl rfl rfl) rfl ?_
     refine W.pure (v := (.bool true)) (gk rfl rfl gv78 rfl) rfl (z0u (oo rfl rfl) (oo rfl rfl)) ?_
     refine W.pure (v := (.bool true)) (gk rfl rfl gv78 rfl) rfl (z02 (oo rfl rfl)) ?_
     refine W.skip (gk rfl rfl rfl rfl) rfl ?_
     refine W.skip (gk rfl rfl rfl rfl) rfl ?_
     refine W.skip (gk rfl rfl rfl rfl) rfl ?_
     refine W.pure (v := (.bool true)) (gk rfl rfl gv78 rfl) rfl (z0u (oo rfl rfl) (oo rfl rfl)) ?_
     refine W.pure (v := (.bool true)) rfl rfl (z0u (oo rfl gv78) (oo rfl rfl)) ?_
     refine .nil ?_
     obtain rfl := zAa h82
     exact ⟨true, _, rfl, O67, (zAf _), rfl⟩
    ·have h83 := z16 g80 h79
     refine W.pure (v := (.int .i64 x47.2)) (gk rfl rfl gv81 rfl) rfl (z02 (oo rfl rfl)) ?_
     refine W.pure (v := (.int .i64 x63)) (gk rfl rfl gv81 rfl) rfl (z02 (oo rfl rfl)) ?_
     refine W.pure (v := (.bool (x47.2 != x63))) (gk rfl rfl gv81 rfl) rfl (z2g (oo rfl rfl) (oo rfl rfl) rfl) ?_
     refine W.pure (v := (.bool (x47.2 != x63))) (gk rfl rfl gv78 rfl) rfl (z1h (oo rfl gv81) (oo rfl rfl)) ?_
     refine W.pure (v := (.bool (x47.2 != x63))) (gk rfl rfl gv78 rfl) rfl (z02 (oo rfl rfl)) ?_
     refine W.splitAt (t := 46) (b := (x47.2 != x63)) rfl (fun g84 gv85 => ?_) (fun g84 gv85 => ?_)
     ·have h86 := z03 g84 h83
      refine W.skip (gk rfl rfl gv85 rfl) rfl ?_
      refine W.skip (gk rfl rfl gv85 rfl) rfl ?_
      refine W.pure (v := (.bool true)) (gk rfl rfl gv78 rfl) rfl (z0u (oo rfl gv85) (oo rfl rfl)) ?_
      refine W.pure (v := (.bool true)) (gk rfl rfl gv78 rfl) rfl (z02 (oo rfl rfl)) ?_
      refine W.skip (gk rfl rfl rfl rfl) rfl ?_
      refine W.skip (gk rfl rfl rfl rfl) rfl ?_
      refine W.skip (gk rfl rfl rfl rfl) rfl ?_
      refine W.pure (v := (.bool true)) (gk rfl rfl gv78 rfl) rfl (z0u (oo rfl rfl) (oo rfl rfl)) ?_
      refine W.pure (v := (.bool true)) rfl rfl (z0u (oo rfl gv78) (oo rfl rfl)) ?_
      refine .nil ?_
      obtain rfl := zAa h86
      exact ⟨true, _, rfl, O67, (zAf _), rfl⟩
     ·have h87 := z16 g84 h83
      refine W.pure (v := (.string x30.1)) (gk rfl rfl gv85 rfl) rfl (z02 (oo rfl rfl)) ?_
      refine W.pure (v := (.bool (!(sEq x30.1 (⟨#[]⟩ : zAd))))) (gk rfl rfl gv85 rfl) rfl (zdi (oo rfl rfl) (oo rfl rfl)) ?_
      refine W.pure (v := (.bool (!(sEq x30.1 (⟨#[]⟩ : zAd))))) (gk rfl rfl gv78 rfl) rfl (z1h (oo rfl gv85) (oo rfl rfl)) ?_
      refine W.pure (v := (.bool (!(sEq x30.1 (⟨#[]⟩ : zAd))))) (gk rfl rfl gv78 rfl) rfl (z02 (oo rfl rfl)) ?_
      refine W.splitAt (t := 50) (b := (!(sEq x30.1 (⟨#[]⟩ : zAd)))) rfl (fun g88 gv89 => ?_) (fun g88 gv89 => ?_)
      ·have h90 := z03 g88 h87
       refine W.skip (gk rfl rfl gv89 rfl) rfl ?_
       refine W.skip (gk rfl rfl gv89 rfl) rfl ?_
       refine W.skip (gk rfl rfl gv89 rfl) rfl ?_
       refine W.pure (v := (.bool true)) (gk rfl rfl gv78 rfl) rfl (z0u (oo rfl gv89) (oo rfl rfl)) ?_
       refine W.pure (v := (.bool true)) rfl rfl (z0u (oo rfl gv78) (oo rfl rfl)) ?_
       refine .nil ?_
       obtain rfl := zAa h90
       exact ⟨true, _, rfl, O67, (zAf _), rfl⟩
      ·have h91 := z16 g88 h87
       refine W.pure (v := w55) (gk rfl rfl gv89 rfl) rfl (z02 (oo rfl rfl)) ?_
       refine W.pure (v := (.int .i64 (List.length x47.1 : Int))) (gk rfl rfl gv89 rfl) rfl (z25 (oo rfl rfl) (O67.slLen (j := 0) rfl) (z04 el22)) ?_
       refine W.pure (v := (.bool (decide ((List.length x47.1 : Int) > 0)))) (gk rfl rfl gv89 rfl) rfl (z2g (oo rfl rfl) (oo rfl rfl) rfl) ?_
       refine W.pure (v := (.bool (decide ((List.length x47.1 : Int) > 0)))) (gk rfl rfl gv78 rfl) rfl (z1h (oo rfl gv89) (oo rfl rfl)) ?_
       refine W.pure (v := (.bool (decide ((List.length x47.1 : Int) > 0)))) rfl rfl (z0u (oo rfl gv78) (oo rfl rfl)) ?_
       refine .nil ?_
       obtain rfl := zAa h91
       exact ⟨decide ((List.length x47.1 : Int) > 0), _, rfl, O67, (zAf _), rfl⟩
   ·have h92 := z16 g77 h75
    refine W.skip (gk rfl rfl gv78 rfl) rfl ?_
    refine W.skip (gk rfl rfl gv78 rfl) rfl ?_
    refine W.skip (gk rfl rfl gv78 rfl) rfl ?_
    refine W.skip (gk rfl rfl gv78 rfl) rfl ?_
    refine W.skipU rfl rfl rfl rfl ?_
    refine W.skipU rfl rfl rfl rfl ?_
    refine W.skipU rfl rfl rfl rfl ?_
    refine W.skip (gk rfl rfl gv78 rfl) rfl ?_
    refine W.skip (gk rfl rfl gv78 rfl) rfl ?_
    refine W.skipU rfl rfl rfl rfl ?_
    refine W.skipU rfl rfl rfl rfl ?_
    refine W.skip (gk rfl rfl gv78 rfl) rfl ?_
    refine W.skip (gk rfl rfl gv78 rfl) rfl ?_
    refine W.skipU rfl rfl rfl rfl ?_
    refine W.skipU rfl rfl rfl rfl ?_
    refine W.skipU rfl rfl rfl rfl ?_
    refine W.skip (gk rfl rfl gv78 rfl) rfl ?_
    refine W.pure (v := (.bool false)) rfl rfl (z1h (oo rfl gv78) (oo rfl rfl)) ?_
    refine .nil ?_
    obtain rfl := zAa h92
    exact ⟨false, _, rfl, O67, (zAf _), rfl⟩
  ·rintro σ94 H95 fr96 ⟨x93, G97, rfl, O98, s99, t101⟩
   have h102 := z0b h76
   refine .cond (b := x93) rfl t101 (fun g103 => ?_) (fun g103 => ?_)
   ·have h104 := z03 g103 h102
    refine .seq ?_
    refine .region ?_
    refine W.pure (v := (.bool false)) rfl rfl (z01 (oo rfl rfl)) ?_
    refine .nil ?_
    refine .ret ?_
    have O105 : Ow G97 H95 (eVar b7 29 z00 p1 :: eVar b2 29 z00 p0 :: L) := O98.drop 0
    have O106 : Ow G97 H95 (eVar b2 29 z00 p0 :: L) := O105.drop 0
    have O107 : Ow G97 H95 (L) := O106.drop 0
    obtain rfl := zAa h104
    exact z4i kr (v1 := (.bool false)) (by rfl) (z2i (by rfl) (by exact rfl)) O107 (zAe s16 (zAe s35 (zAe s52 (zAe s68 s99)))) rfl
   ·have h108 := z16 g103 h102
    refine .skip ?_
    refine .seq ?_
    refine .seq ?_
    refine .region ?_
    refine W.pure (v := (.int .i64 x63)) rfl rfl (z02 (oo rfl ((fr96 9 rfl).trans rfl))) ?_
    refine W.pure (v := (.bool (x63 != 0))) rfl rfl (z2g (oo rfl rfl) (oo rfl rfl) rfl) ?_
    refine .nil ?_
    refine .cond (b := (x63 != 0)) rfl rfl (fun g109 => ?_) (fun g109 => ?_)
    ·have h110 := z03 g109 h108
     refine .seq ?_
     refine .region ?_
     refine W.pure (v := (.bool true)) rfl rfl (z01 (oo rfl rfl)) ?_
     refine .nil ?_
     refine .ret ?_
     have O111 : Ow G97 H95 (eVar b7 29 z00 p1 :: eVar b2 29 z00 p0 :: L) := O98.drop 0
     have O112 : Ow G97 H95 (eVar b2 29 z00 p0 :: L) := O111.drop 0
     have O113 : Ow G97 H95 (L) := O112.drop 0
     obtain rfl := zAa h110
     exact z4i kr (v1 := (.bool true)) (by rfl) (z2i (by rfl) (by exact rfl)) O113 (zAe s16 (zAe s35 (zAe s52 (zAe s68 s99)))) rfl
    ·have h114 := z16 g109 h108
     refine .skip ?_
     refine .seq ?_
     refine .region ?_
     obtain ⟨c115, p116, f117⟩ := (O98.atVar (j := 2) rfl)
     refine W.loadA (cs := c115) rfl rfl ag29 sz29 (z0d ((fr96 2 rfl).trans rfl) p116) (RT.len _ f117) ?_
     obtain ⟨x118, i119, h120⟩ := z05 h114
     refine W.lo rfl rfl (Lo.callPF (ps := []) (pw := fun w => [eSl w 9 rS x118]) rfl (fn := Tryd.f8) (by kernel_rfl) rfl (mc rfl mn) O98 (fun L' O' => z6n K c115 p0 f117 O' _ i119)) ?_
     rintro v129 H130 ⟨w126, G121, O122, s123, sm128, rfl⟩
     replace O122 : Ow G121 H130 (eSl w126 9 rS x118 :: eSl w55 9 rS x47.1 :: eVar b7 29 z00 p1 :: eVar b2 29 z00 p0 :: L) := O122
     refine W.pure (v := w126) rfl rfl (z01 (oo rfl rfl)) ?_
     refine .nil ?_
     refine .seq ?_
     refine .region ?_
     refine W.pure (v := (.string (⟨#[]⟩ : zAd))) rfl rfl (z01 (oo rfl rfl)) ?_
     refine .nil ?_
     refine .seq ?_
     refine .seq ?_
     refine .region ?_
     refine W.pure (v := w126) rfl rfl (z02 (oo rfl rfl)) ?_
     refine W.pure (v := (.int .i64 (List.length x118 : Int))) rfl rfl (z25 (oo rfl rfl) (O122.slLen (j := 0) rfl) (z04 el22)) ?_
     refine W.pure (v := (.int .i64 0)) rfl rfl (z02 (oo rfl rfl)) ?_
     refine .nil ?_
     obtain ⟨q131, h132, h133⟩ := z05 h120
     refine AW.midT (fun σ' H' => ∃ (y1 : zAd) (G' : GM), y1 = q131 /\ Ow G' H' (eSl w126 9 rS x118 :: eSl w55 9 rS x47.1 :: eVar b7 29 z00 p1 :: eVar b2 29 z00 p0 :: L) /\ GM.le G121 G' /\ σ' 11 = .string y1) ?_ ?_
     ·refine .block ?_
      refine AW.loop (α := Nat) (fun k' σ' H' => ∃ (y1 : zAd) (y2 : Int) (G' : GM), z0i K x118 k' y1 y2 = some q131 /\ Ow G' H' (eSl w126 9 rS x118 :: eSl w55 9 rS x47.1 :: eVar b7 29 z00 p1 :: eVar b2 29 z00 p0 :: L) /\ GM.le G121 G' /\ σ' 11 = .string y1 /\ σ' 62 = .int .i64 y2) (fun k' => k') K ⟨(⟨#[]⟩ : zAd), 0, _, h132, O122, (zAf _), rfl, rfl⟩ ?_
      rintro k134
      rintro σ137 H138 fr139 ⟨x135, x136, G140, h143, O141, s142, t144, t145⟩
      rcases k134 with _ | k134
      ·exact z09 h143
      rw [z0i] at h143
      refine .seq ?_
      refine .region ?_
      refine W.pure (v := (.bool (decide (x136 < (List.length x118 : Int))))) rfl rfl (z2g (oo rfl t145) (oo rfl ((fr139 61 rfl).trans rfl)) rfl) ?_
      refine .nil ?_
      refine .seq ?_
      refine .cond (b := decide (x136 < (List.length x118 : Int))) rfl rfl (fun g146 => ?_) (fun g146 => ?_)
      ·have h147 := z03 g146 h143
       refine .skip ?_
       refine .seq ?_
       refine .block ?_
       refine .seq ?_
       refine .region ?_
       obtain ⟨x148, i149, h150⟩ := z05 h147
       have j151 := z1n i149
       refine W.pure (v := (z4t w126 (Int.toNat x136 * 1))) rfl rfl (z5d el22 sz9 (oo rfl ((fr139 60 rfl).trans rfl)) (oo rfl t145) (O141.slLen (j := 0) rfl) j151.1 j151.2.1) ?_
       refine W.load1 (v := (.string x148)) (r := []) rfl rfl ag9 (z0d rfl (At.str (O141.atSl (j := 0) rfl j151.2.2))) ?_
       refine W.pure (v := (.string x148)) rfl rfl (z01 (oo rfl rfl)) ?_
       refine .nil ?_
       refine .region ?_
       refine W.pure (v := (.string x135)) rfl rfl (z02 (oo rfl t144)) ?_
       refine W.pure (v := (.string x148)) rfl rfl (z02 (oo rfl rfl)) ?_
       obtain ⟨g152, h153⟩ := z2a h150
       refine W.pure (v := (.string (x148 ++ (⟨#[10]⟩ : zAd)))) rfl rfl (z5a g152 (oo rfl rfl) (oo rfl rfl)) ?_
       obtain ⟨g154, h155⟩ := z2a h153
       refine W.pure (v := (.string (x135 ++ (x148 ++ (⟨#[10]⟩ : zAd))))) rfl rfl (z5a g154 (oo rfl rfl) (oo rfl rfl)) ?_
       refine W.pure (v := (.string (x135 ++ (x148 ++ (⟨#[10]⟩ : zAd))))) rfl rfl (z01 (oo rfl rfl)) ?_
       refine .nil ?_
       refine .region ?_
       refine W.pure (v := (.int .i64 (z0p .i64 (x136 + 1)))) rfl rfl (z2g (oo rfl t145) (oo rfl rfl) rfl) ?_
       refine W.pure (v := (.int .i64 (z0p .i64 (x136 + 1)))) rfl rfl (z02 (oo rfl rfl)) ?_
       refine .nil ?_
       exact ⟨k134, zAg _, ⟨(x135 ++ (x148 ++ (⟨#[10]⟩ : zAd))), z0p .i64 (x136 + 1), _, h155, O141, s142, rfl, rfl⟩⟩
      ·have h156 := z16 g146 h143
       refine .exit ?_
       obtain rfl := zAa h156
       exact ⟨x135, _, rfl, O141, s142, t144⟩
     ·rintro σ158 H159 fr160 ⟨x157, G161, rfl, O162, s163, t165⟩
      have h166 := z0b h133
      refine .seq ?_
      refine .seq ?_
      refine .region ?_
      refine W.pure (v := (.string x157)) rfl rfl (z02 (oo rfl t165)) ?_
      refine W.pure (v := (.int .i64 (x157.size : Int))) rfl rfl (z91 (oo rfl rfl) un9) ?_
      refine W.pure (v := (.bool (decide ((x157.size : Int) > 8192)))) rfl rfl (z2g (oo rfl rfl) (oo rfl rfl) rfl) ?_
      refine .nil ?_
      obtain ⟨q167, h168, h169⟩ := z2t h166
      refine AW.midT (fun σ' H' => ∃  (G' : GM), (.inr ()) = q167 /\ Ow G' H' (eSl w126 9 rS x118 :: eSl w55 9 rS x47.1 :: eVar b7 29 z00 p1 :: eVar b2 29 z00 p0 :: L) /\ GM.le G161 G') ?_ ?_
      ·refine .cond (b := decide ((x157.size : Int) > 8192)) rfl rfl (fun g170 => ?_) (fun g170 => ?_)
       ·have h171 := z03 g170 h168
        refine .seq ?_
        obtain ⟨q172, h173, h174⟩ := z05 h171
        refine AW.midT (fun σ' H' => ∃ (y1 : Bool) (G' : GM), y1 = q172 /\ Ow G' H' (eSl w126 9 rS x118 :: eSl w55 9 rS x47.1 :: eVar b7 29 z00 p1 :: eVar b2 29 z00 p0 :: L) /\ GM.le G161 G' /\ σ' 79 = .bool y1) ?_ ?_
        ·refine .region ?_
         refine W.pure (v := (.int .i64 x30.2)) rfl rfl (z02 (oo rfl ((fr160 6 rfl).trans ((fr96 6 rfl).trans rfl)))) ?_
         refine W.pure (v := (.bool (x30.2 != 2))) rfl rfl (z2g (oo rfl rfl) (oo rfl rfl) rfl) ?_
         refine W.pure (v := (.bool (x30.2 != 2))) rfl rfl (z02 (oo rfl rfl)) ?_
         refine W.splitAt (t := 76) (b := (x30.2 != 2)) rfl (fun g175 gv176 => ?_) (fun g175 gv176 => ?_)
         ·have h177 := z03 g175 h173
          refine W.skip (gk rfl rfl gv176 rfl) rfl ?_
          refine W.skip (gk rfl rfl gv176 rfl) rfl ?_
          refine W.pure (v := (.bool true)) rfl rfl (z0u (oo rfl gv176) (oo rfl rfl)) ?_
          refine .nil ?_
          obtain rfl := zAa h177
          exact ⟨true, _, rfl, O162, (zAf _), rfl⟩
         ·have h178 := z16 g175 h173
          refine W.pure (v := (.string x30.1)) (gk rfl rfl gv176 rfl) rfl (z02 (oo rfl ((fr160 5 rfl).trans ((fr96 5 rfl).trans rfl)))) ?_
          refine W.pure (v := (.bool (!(sEq x30.1 (⟨#[]⟩ : zAd))))) (gk rfl rfl gv176 rfl) rfl (zdi (oo rfl rfl) (oo rfl rfl)) ?_
          refine W.pure (v := (.bool (!(sEq x30.1 (⟨#[]⟩ : zAd))))) rfl rfl (z1h (oo rfl gv176) (oo rfl rfl)) ?_
          refine .nil ?_
          obtain rfl := zAa h178
          exact ⟨(!(sEq x30.1 (⟨#[]⟩ : zAd))), _, rfl, O162, (zAf _), rfl⟩
        ·rintro σ180 H181 fr182 ⟨x179, G183, rfl, O184, s185, t187⟩
         have h188 := z0b h174
         refine .cond (b := x179) rfl t187 (fun g189 => ?_) (fun g189 => ?_)
         ·have h190 := z03 g189 h188
          refine .seq ?_
          refine .region ?_
          refine W.pure (v := (.bool false)) rfl rfl (z01 (oo rfl rfl)) ?_
          refine .nil ?_
          refine .ret ?_
          have O191 : Ow G183 H181 (eSl w55 9 rS x47.1 :: eVar b7 29 z00 p1 :: eVar b2 29 z00 p0 :: L) := O184.drop 0
          have O192 : Ow G183 H181 (eVar b7 29 z00 p1 :: eVar b2 29 z00 p0 :: L) := O191.drop 0
          have O193 : Ow G183 H181 (eVar b2 29 z00 p0 :: L) := O192.drop 0
          have O194 : Ow G183 H181 (L) := O193.drop 0
          obtain rfl := zAa h190
          have h195 := z0b (z4e h169)
          obtain rfl := zAa h195
          exact z4i kr (v1 := (.bool false)) (by rfl) (z2i (by rfl) (by exact rfl)) O194 (zAe s16 (zAe s35 (zAe s52 (zAe s68 (zAe s99 (zAe s123 (zAe s163 s185))))))) rfl
         ·have h196 := z16 g189 h188
          refine .skip ?_
          obtain rfl := zAa h196
          exact ⟨_, rfl, O184, s185⟩
       ·have h197 := z16 g170 h168
        refine .seq ?_
        obtain ⟨q198, h199, h200⟩ := z05 h197
        refine AW.midT (fun σ' H' => ∃ (y1 : Bool) (G' : GM), y1 = q198 /\ Ow G' H' (eSl w126 9 rS x118 :: eSl w55 9 rS x47.1 :: eVar b7 29 z00 p1 :: eVar b2 29 z00 p0 :: L) /\ GM.le G161 G' /\ σ' 86 = .bool y1) ?_ ?_
        ·refine .region ?_
         refine W.pure (v := (.int .i64 x30.2)) rfl rfl (z02 (oo rfl ((fr160 6 rfl).trans ((fr96 6 rfl).trans rfl)))) ?_
         refine W.pure (v := (.bool (x30.2 != 0))) rfl rfl (z2g (oo rfl rfl) (oo rfl rfl) rfl) ?_
         refine W.pure (v := (.bool (x30.2 != 0))) rfl rfl (z02 (oo rfl rfl)) ?_
         refine W.splitAt (t := 82) (b := (x30.2 != 0)) rfl (fun g201 gv202 => ?_) (fun g201 gv202 => ?_)
         ·have h203 := z03 g201 h199
          refine W.skip (gk rfl rfl gv202 rfl) rfl ?_
          refine W.skip (gk rfl rfl gv202 rfl) rfl ?_
          refine W.skip (gk rfl rfl gv202 rfl) rfl ?_
          refine W.pure (v := (.bool true)) rfl rfl (z0u (oo rfl gv202) (oo rfl rfl)) ?_
          refine .nil ?_
          obtain rfl := zAa h203
          exact ⟨true, _, rfl, O162, (zAf _), rfl⟩
         ·have h204 := z16 g201 h199
          refine W.pure (v := (.string x30.1)) (gk rfl rfl gv202 rfl) rfl (z02 (oo rfl ((fr160 5 rfl).trans ((fr96 5 rfl).trans rfl)))) ?_
          refine W.pure (v := (.string x157)) (gk rfl rfl gv202 rfl) rfl (z02 (oo rfl t165)) ?_
          refine W.pure (v := (.bool (!(sEq x30.1 x157)))) (gk rfl rfl gv202 rfl) rfl (zdi (oo rfl rfl) (oo rfl rfl)) ?_
          refine W.pure (v := (.bool (!(sEq x30.1 x157)))) rfl rfl (z1h (oo rfl gv202) (oo rfl rfl)) ?_
          refine .nil ?_
          obtain rfl := zAa h204
          exact ⟨(!(sEq x30.1 x157)), _, rfl, O162, (zAf _), rfl⟩
        ·rintro σ206 H207 fr208 ⟨x205, G209, rfl, O210, s211, t213⟩
         have h214 := z0b h200
         refine .cond (b := x205) rfl t213 (fun g215 => ?_) (fun g215 => ?_)
         ·have h216 := z03 g215 h214
          refine .seq ?_
          refine .region ?_
          refine W.pure (v := (.bool false)) rfl rfl (z01 (oo rfl rfl)) ?_
          refine .nil ?_
          refine .ret ?_
          have O217 : Ow G209 H207 (eSl w55 9 rS x47.1 :: eVar b7 29 z00 p1 :: eVar b2 29 z00 p0 :: L) := O210.drop 0
          have O218 : Ow G209 H207 (eVar b7 29 z00 p1 :: eVar b2 29 z00 p0 :: L) := O217.drop 0
          have O219 : Ow G209 H207 (eVar b2 29 z00 p0 :: L) := O218.drop 0
          have O220 : Ow G209 H207 (L) := O219.drop 0
          obtain rfl := zAa h216
          have h221 := z0b (z4e h169)
          obtain rfl := zAa h221
          exact z4i kr (v1 := (.bool false)) (by rfl) (z2i (by rfl) (by exact rfl)) O220 (zAe s16 (zAe s35 (zAe s52 (zAe s68 (zAe s99 (zAe s123 (zAe s163 s211))))))) rfl
         ·have h222 := z16 g215 h214
          refine .skip ?_
          obtain rfl := zAa h222
          exact ⟨_, rfl, O210, s211⟩
      ·rintro σ223 H224 fr225 ⟨G226, rfl, O227, s228⟩
       have h230 := z7v (z6h h169)
       refine .seq ?_
       refine .seq ?_
       refine .region ?_
       obtain ⟨c231, p232, f233⟩ := (O227.atVar (j := 2) rfl)
       refine W.loadA (cs := c231) rfl rfl ag29 sz29 (z0d ((fr225 3 rfl).trans ((fr160 3 rfl).trans ((fr96 3 rfl).trans rfl))) p232) (RT.len _ f233) ?_
       obtain ⟨x234, i235, h236⟩ := z05 h230
       refine W.lo rfl rfl (Lo.callP (ps := []) (ps' := []) rfl (fn := Tryd.f7) (by kernel_rfl) rfl (mc rfl mn) O227 (fun L' O' => z6m K c231 p1 f233 O' _ i235)) ?_
       rintro v243 H244 ⟨G237, O238, s239, sm242, rfl⟩
       replace O238 : Ow G237 H244 (eSl w126 9 rS x118 :: eSl w55 9 rS x47.1 :: eVar b7 29 z00 p1 :: eVar b2 29 z00 p0 :: L) := O238
       refine W.pure (v := (.int .i64 x234)) rfl rfl (z01 (oo rfl rfl)) ?_
       refine .nil ?_
       refine .seq ?_
       refine .region ?_
       refine W.pure (v := (.int .i64 x234)) rfl rfl (z02 (oo rfl rfl)) ?_
       refine W.pure (v := (.bool (x234 != 0))) rfl rfl (z2g (oo rfl rfl) (oo rfl rfl) rfl) ?_
       refine .nil ?_
       refine .cond (b := (x234 != 0)) rfl rfl (fun g245 => ?_) (fun g245 => ?_)
       ·have h246 := z03 g245 h236
        refine .seq ?_
        obtain ⟨q247, h248, h249⟩ := z05 h246
        refine AW.midT (fun σ' H' => ∃ (y1 : Bool) (G' : GM), y1 = q247 /\ Ow G' H' (eSl w126 9 rS x118 :: eSl w55 9 rS x47.1 :: eVar b7 29 z00 p1 :: eVar b2 29 z00 p0 :: L) /\ GM.le G237 G' /\ σ' 4 = .bool y1) ?_ ?_
        ·refine .region ?_
         refine W.pure (v := (.int .i64 x47.2)) rfl rfl (z02 (oo rfl ((fr225 8 rfl).trans ((fr160 8 rfl).trans ((fr96 8 rfl).trans rfl))))) ?_
         refine W.pure (v := (.int .i64 x234)) rfl rfl (z02 (oo rfl rfl)) ?_
         refine W.pure (v := (.bool (x47.2 == x234))) rfl rfl (z2g (oo rfl rfl) (oo rfl rfl) rfl) ?_
         refine W.pure (v := (.bool (x47.2 == x234))) rfl rfl (z02 (oo rfl rfl)) ?_
         refine W.splitAt (t := 94) (b := (x47.2 == x234)) rfl (fun g250 gv251 => ?_) (fun g250 gv251 => ?_)
         ·have h252 := z03 g250 h248
          refine W.pure (v := w55) (gk rfl rfl gv251 rfl) rfl (z02 (oo rfl ((fr225 7 rfl).trans ((fr160 7 rfl).trans ((fr96 7 rfl).trans rfl))))) ?_
          refine W.pure (v := (.int .i64 (List.length x47.1 : Int))) (gk rfl rfl gv251 rfl) rfl (z25 (oo rfl rfl) (O238.slLen (j := 1) rfl) (z04 el22)) ?_
          refine W.pure (v := (.bool ((List.length x47.1 : Int) == 0))) (gk rfl rfl gv251 rfl) rfl (z2g (oo rfl rfl) (oo rfl rfl) rfl) ?_
          refine W.pure (v := (.bool ((List.length x47.1 : Int) == 0))) rfl rfl (z0u (oo rfl gv251) (oo rfl rfl)) ?_
          refine W.pure (v := (.bool ((List.length x47.1 : Int) == 0))) rfl rfl (z01 (oo rfl rfl)) ?_
          refine .nil ?_
          obtain rfl := zAa h252
          exact ⟨((List.length x47.1 : Int) == 0), _, rfl, O238, (zAf _), rfl⟩
         ·have h253 := z16 g250 h248
          refine W.skip (gk rfl rfl gv251 rfl) rfl ?_
          refine W.skip (gk rfl rfl gv251 rfl) rfl ?_
          refine W.skip (gk rfl rfl gv251 rfl) rfl ?_
          refine W.pure (v := (.bool false)) rfl rfl (z1h (oo rfl gv251) (oo rfl rfl)) ?_
          refine W.pure (v := (.bool false)) rfl rfl (z01 (oo rfl rfl)) ?_
          refine .nil ?_
          obtain rfl := zAa h253
          exact ⟨false, _, rfl, O238, (zAf _), rfl⟩
        ·rintro σ255 H256 fr257 ⟨x254, G258, rfl, O259, s260, t262⟩
         have h263 := z0b h249
         refine .ret ?_
         have O264 : Ow G258 H256 (eSl w55 9 rS x47.1 :: eVar b7 29 z00 p1 :: eVar b2 29 z00 p0 :: L) := O259.drop 0
         have O265 : Ow G258 H256 (eVar b7 29 z00 p1 :: eVar b2 29 z00 p0 :: L) := O264.drop 0
         have O266 : Ow G258 H256 (eVar b2 29 z00 p0 :: L) := O265.drop 0
         have O267 : Ow G258 H256 (L) := O266.drop 0
         obtain rfl := zAa h263
         exact z4i kr (v1 := (.bool x254)) (by rfl) (z2i (by rfl) (by exact t262)) O267 (zAe s16 (zAe s35 (zAe s52 (zAe s68 (zAe s99 (zAe s123 (zAe s163 (zAe s228 (zAe s239 s260))))))))) rfl
       ·have h268 := z16 g245 h236
        refine .skip ?_
        refine .seq ?_
        refine .region ?_
        obtain ⟨c269, p270, f271⟩ := (O238.atVar (j := 2) rfl)
        refine W.loadA (cs := c269) rfl rfl ag29 sz29 (z0d ((fr225 3 rfl).trans ((fr160 3 rfl).trans ((fr96 3 rfl).trans rfl))) p270) (RT.len _ f271) ?_
        obtain ⟨x272, i273, h274⟩ := z05 h268
        refine W.lo rfl rfl (Lo.callPF (ps := []) (pw := fun w => [eSl w 9 rS x272]) rfl (fn := Tryd.f8) (by kernel_rfl) rfl (mc rfl mn) O238 (fun L' O' => z6n K c269 p1 f271 O' _ i273)) ?_
        rintro v283 H284 ⟨w280, G275, O276, s277, sm282, rfl⟩
        replace O276 : Ow G275 H284 (eSl w280 9 rS x272 :: eSl w126 9 rS x118 :: eSl w55 9 rS x47.1 :: eVar b7 29 z00 p1 :: eVar b2 29 z00 p0 :: L) := O276
        refine W.pure (v := w280) rfl rfl (z01 (oo rfl rfl)) ?_
        refine .nil ?_
        refine .seq ?_
        refine .region ?_
        refine W.pure (v := (.slice none 0 0)) rfl rfl (z01 (oo rfl rfl)) ?_
        refine .nil ?_
        refine .seq ?_
        refine .seq ?_
        refine .region ?_
        refine W.pure (v := w126) rfl rfl (z02 (oo rfl ((fr225 10 rfl).trans ((fr160 10 rfl).trans rfl)))) ?_
        refine W.pure (v := (.int .i64 (List.length x118 : Int))) rfl rfl (z25 (oo rfl rfl) (O276.slLen (j := 1) rfl) (z04 el22)) ?_
        refine W.pure (v := (.int .i64 0)) rfl rfl (z02 (oo rfl rfl)) ?_
        refine .nil ?_
        obtain ⟨q285, h286, h287⟩ := z05 h274
        refine AW.midT (fun σ' H' => ∃ (y1 : List zAd) (G' : GM), y1 = q285 /\ Ow G' H' (eSl w280 9 rS x272 :: eSl w126 9 rS x118 :: eSl w55 9 rS x47.1 :: eVar b7 29 z00 p1 :: eVar b2 29 z00 p0 :: eSl (σ' 15) 9 rS y1 :: L) /\ GM.le G275 G') ?_ ?_
        ·refine .block ?_
         have O288 := O276.nilSl 9 rS
         refine AW.loop (α := Nat) (fun k' σ' H' => ∃ (y1 : List zAd) (y2 : Int) (G' : GM), z0j K x118 x272 k' y1 y2 = some q285 /\ Ow G' H' (eSl (σ' 15) 9 rS y1 :: eSl w280 9 rS x272 :: eSl w126 9 rS x118 :: eSl w55 9 rS x47.1 :: eVar b7 29 z00 p1 :: eVar b2 29 z00 p0 :: L) /\ GM.le G275 G' /\ σ' 103 = .int .i64 y2) (fun k' => k') K ⟨[], 0, _, h286, O288, (zAf _), rfl⟩ ?_
         rintro k289
         rintro σ292 H293 fr294 ⟨x290, x291, G295, h298, O296, s297, t299⟩
         rcases k289 with _ | k289
         ·exact z09 h298
         rw [z0j] at h298
         refine .seq ?_
         refine .region ?_
         refine W.pure (v := (.bool (decide (x291 < (List.length x118 : Int))))) rfl rfl (z2g (oo rfl t299) (oo rfl ((fr294 102 rfl).trans rfl)) rfl) ?_
         refine .nil ?_
         refine .seq ?_
         refine .cond (b := decide (x291 < (List.length x118 : Int))) rfl rfl (fun g300 => ?_) (fun g300 => ?_)
         ·have h301 := z03 g300 h298
          refine .skip ?_
          refine .seq ?_
          obtain ⟨q302, h303, h304⟩ := z05 h301
          refine AW.midT (fun σ' H' => ∃ (y1 : List zAd) (G' : GM), y1 = q302 /\ Ow G' H' (eSl (σ' 15) 9 rS y1 :: eSl w280 9 rS x272 :: eSl w126 9 rS x118 :: eSl w55 9 rS x47.1 :: eVar b7 29 z00 p1 :: eVar b2 29 z00 p0 :: L) /\ GM.le G295 G') ?_ ?_
          ·refine .block ?_
           refine .seq ?_
           refine .region ?_
           obtain ⟨x305, i306, h307⟩ := z05 h303
           have j308 := z1n i306
           refine W.pure (v := (z4t w126 (Int.toNat x291 * 1))) rfl rfl (z5d el22 sz9 (oo rfl ((fr294 101 rfl).trans rfl)) (oo rfl t299) (O296.slLen (j := 2) rfl) j308.1 j308.2.1) ?_
           refine W.load1 (v := (.string x305)) (r := []) rfl rfl ag9 (z0d rfl (At.str (O296.atSl (j := 2) rfl j308.2.2))) ?_
           refine W.pure (v := (.string x305)) rfl rfl (z01 (oo rfl rfl)) ?_
           refine .nil ?_
           refine .seq ?_
           refine .region ?_
           refine W.pure (v := w280) rfl rfl (z02 (oo rfl ((fr294 14 rfl).trans rfl))) ?_
           refine W.pure (v := (.string x305)) rfl rfl (z02 (oo rfl rfl)) ?_
           obtain ⟨x309, i310, h311⟩ := z05 h307
           refine W.lo rfl rfl (Lo.callB (j := 1) rfl rfl (fn := Tryd.f9) (by kernel_rfl) rfl (mc rfl (mc rfl mn)) O296 (fun G' L' hG O' hB => z7f K w280 x272 hB x305 O' _ i310)) ?_
           rintro v318 H319 ⟨G312, O313, s314, sm317, rfl⟩
           replace O313 : Ow G312 H319 (eSl (σ292 15) 9 rS x290 :: eSl w280 9 rS x272 :: eSl w126 9 rS x118 :: eSl w55 9 rS x47.1 :: eVar b7 29 z00 p1 :: eVar b2 29 z00 p0 :: L) := O313
           refine W.pure (v := (.bool (!x309))) rfl rfl (z1g (a := x309) (oo rfl rfl)) ?_
           refine .nil ?_
           refine .cond (b := (!x309)) rfl rfl (fun g320 => ?_) (fun g320 => ?_)
           ·have h321 := z03 g320 h311
            refine .region ?_
            refine W.pure (v := (σ292 15)) rfl rfl (z02 (oo rfl rfl)) ?_
            refine W.pure (v := (.string x305)) rfl rfl (z02 (oo rfl rfl)) ?_
            obtain ⟨g322, h323⟩ := z2a h321
            refine W.pure (v := (.string ((⟨#[45, 32]⟩ : zAd) ++ x305))) rfl rfl (z5a g322 (oo rfl rfl) (oo rfl rfl)) ?_
            refine W.lo rfl rfl (Lo.buildSlice (r := rS) (vs := [(.string ((⟨#[45, 32]⟩ : zAd) ++ x305))]) (xs := [((⟨#[45, 32]⟩ : zAd) ++ x305)]) el22 ze9 sz9 (by kernel_rfl) rfl (qc rfl qn) rfl (.cons rfl .nil) O313) ?_
            rintro v326 H327 ⟨O324, sm325⟩
            obtain ⟨es329, e330, e331⟩ := z3a (j := 0) rfl O324
            obtain ⟨g332, h333⟩ := z2a h323
            refine W.lo rfl rfl (Lo.append (j := 1) (v := (σ292 15)) rfl rfl el22 ni22 ze9 sz9 by9 (by decide) (by decide) rfl e330 e331 g332 O324) ?_
            rintro v335 H336 ⟨O328, sm334⟩
            replace O328 : Ow G312 H336 (eSl v326 9 rS [((⟨#[45, 32]⟩ : zAd) ++ x305)] :: eSl v335 9 rS (x290 ++ [((⟨#[45, 32]⟩ : zAd) ++ x305)]) :: eSl w280 9 rS x272 :: eSl w126 9 rS x118 :: eSl w55 9 rS x47.1 :: eVar b7 29 z00 p1 :: eVar b2 29 z00 p0 :: L) := O328
            refine W.pure (v := v335) rfl rfl (z01 (oo rfl rfl)) ?_
            refine .nil ?_
            have O337 : Ow G312 H336 (eSl v335 9 rS (x290 ++ [((⟨#[45, 32]⟩ : zAd) ++ x305)]) :: eSl w280 9 rS x272 :: eSl w126 9 rS x118 :: eSl w55 9 rS x47.1 :: eVar b7 29 z00 p1 :: eVar b2 29 z00 p0 :: L) := O328.drop 0
            obtain rfl := zAa h333
            exact ⟨(x290 ++ [((⟨#[45, 32]⟩ : zAd) ++ x305)]), _, rfl, O337, s314⟩
           ·have h338 := z16 g320 h311
            refine .skip ?_
            obtain rfl := zAa h338
            exact ⟨x290, _, rfl, O313, s314⟩
          ·rintro σ340 H341 fr342 ⟨x339, G343, rfl, O344, s345⟩
           have h347 := z0b h304
           refine .region ?_
           refine W.pure (v := (.int .i64 (z0p .i64 (x291 + 1)))) rfl rfl (z2g (oo rfl ((fr342 103 rfl).trans t299)) (oo rfl rfl) rfl) ?_
           refine W.pure (v := (.int .i64 (z0p .i64 (x291 + 1)))) rfl rfl (z02 (oo rfl rfl)) ?_
           refine .nil ?_
           exact ⟨k289, zAg _, ⟨x339, z0p .i64 (x291 + 1), _, h347, O344, (zAe s297 s345), rfl⟩⟩
         ·have h348 := z16 g300 h298
          refine .exit ?_
          have O349 : Ow G295 H293 (eSl (σ292 15) 9 rS x290 :: eSl w280 9 rS x272 :: eSl w126 9 rS x118 :: eSl w55 9 rS x47.1 :: eVar b7 29 z00 p1 :: eVar b2 29 z00 p0 :: L) := O296.front (j := 0) rfl
          have O350 : Ow G295 H293 (eVar b2 29 z00 p0 :: eSl (σ292 15) 9 rS x290 :: eSl w280 9 rS x272 :: eSl w126 9 rS x118 :: eSl w55 9 rS x47.1 :: eVar b7 29 z00 p1 :: L) := O349.front (j := 5) rfl
          have O351 : Ow G295 H293 (eVar b7 29 z00 p1 :: eVar b2 29 z00 p0 :: eSl (σ292 15) 9 rS x290 :: eSl w280 9 rS x272 :: eSl w126 9 rS x118 :: eSl w55 9 rS x47.1 :: L) := O350.front (j := 5) rfl
          have O352 : Ow G295 H293 (eSl w55 9 rS x47.1 :: eVar b7 29 z00 p1 :: eVar b2 29 z00 p0 :: eSl (σ292 15) 9 rS x290 :: eSl w280 9 rS x272 :: eSl w126 9 rS x118 :: L) := O351.front (j := 5) rfl
          have O353 : Ow G295 H293 (eSl w126 9 rS x118 :: eSl w55 9 rS x47.1 :: eVar b7 29 z00 p1 :: eVar b2 29 z00 p0 :: eSl (σ292 15) 9 rS x290 :: eSl w280 9 rS x272 :: L) := O352.front (j := 5) rfl
          have O354 : Ow G295 H293 (eSl w280 9 rS x272 :: eSl w126 9 rS x118 :: eSl w55 9 rS x47.1 :: eVar b7 29 z00 p1 :: eVar b2 29 z00 p0 :: eSl (σ292 15) 9 rS x290 :: L) := O353.front (j := 5) rfl
          obtain rfl := zAa h348
          exact ⟨x290, _, rfl, O354, s297⟩
        ·rintro σ356 H357 fr358 ⟨x355, G359, rfl, O360, s361⟩
         have h363 := z0b h287
         refine .seq ?_
         refine .seq ?_
         refine .region ?_
         refine W.pure (v := w280) rfl rfl (z02 (oo rfl ((fr358 14 rfl).trans rfl))) ?_
         refine W.pure (v := (.int .i64 (List.length x272 : Int))) rfl rfl (z25 (oo rfl rfl) (O360.slLen (j := 0) rfl) (z04 el22)) ?_
         refine W.pure (v := (.int .i64 0)) rfl rfl (z02 (oo rfl rfl)) ?_
         refine .nil ?_
         obtain ⟨q364, h365, h366⟩ := z05 h363
         refine AW.midT (fun σ' H' => ∃ (y1 : List zAd) (G' : GM), y1 = q364 /\ Ow G' H' (eSl w280 9 rS x272 :: eSl w126 9 rS x118 :: eSl w55 9 rS x47.1 :: eVar b7 29 z00 p1 :: eVar b2 29 z00 p0 :: eSl (σ' 15) 9 rS y1 :: L) /\ GM.le G359 G') ?_ ?_
         ·refine .block ?_
          refine AW.loop (α := Nat) (fun k' σ' H' => ∃ (y1 : List zAd) (y2 : Int) (G' : GM), z0k K x118 x272 k' y1 y2 = some q364 /\ Ow G' H' (eSl w280 9 rS x272 :: eSl w126 9 rS x118 :: eSl w55 9 rS x47.1 :: eVar b7 29 z00 p1 :: eVar b2 29 z00 p0 :: eSl (σ' 15) 9 rS y1 :: L) /\ GM.le G359 G' /\ σ' 119 = .int .i64 y2) (fun k' => k') K ⟨x355, 0, _, h365, O360, (zAf _), rfl⟩ ?_
          rintro k367
          rintro σ370 H371 fr372 ⟨x368, x369, G373, h376, O374, s375, t377⟩
          rcases k367 with _ | k367
          ·exact z09 h376
          rw [z0k] at h376
          refine .seq ?_
          refine .region ?_
          refine W.pure (v := (.bool (decide (x369 < (List.length x272 : Int))))) rfl rfl (z2g (oo rfl t377) (oo rfl ((fr372 118 rfl).trans rfl)) rfl) ?_
          refine .nil ?_
          refine .seq ?_
          refine .cond (b := decide (x369 < (List.length x272 : Int))) rfl rfl (fun g378 => ?_) (fun g378 => ?_)
          ·have h379 := z03 g378 h376
           refine .skip ?_
           refine .seq ?_
           obtain ⟨q380, h381, h382⟩ := z05 h379
           refine AW.midT (fun σ' H' => ∃ (y1 : List zAd) (G' : GM), y1 = q380 /\ Ow G' H' (eSl w280 9 rS x272 :: eSl w126 9 rS x118 :: eSl w55 9 rS x47.1 :: eVar b7 29 z00 p1 :: eVar b2 29 z00 p0 :: eSl (σ' 15) 9 rS y1 :: L) /\ GM.le G373 G') ?_ ?_
           ·refine .block ?_
            refine .seq ?_
            refine .region ?_
            obtain ⟨x383, i384, h385⟩ := z05 h381
            have j386 := z1n i384
            refine W.pure (v := (z4t w280 (Int.toNat x369 * 1))) rfl rfl (z5d el22 sz9 (oo rfl ((fr372 117 rfl).trans rfl)) (oo rfl t377) (O374.slLen (j := 0) rfl) j386.1 j386.2.1) ?_
            refine W.load1 (v := (.string x383)) (r := []) rfl rfl ag9 (z0d rfl (At.str (O374.atSl (j := 0) rfl j386.2.2))) ?_
            refine W.pure (v := (.string x383)) rfl rfl (z01 (oo rfl rfl)) ?_
            refine .nil ?_
            refine .seq ?_
            refine .region ?_
            refine W.pure (v := w126) rfl rfl (z02 (oo rfl ((fr372 10 rfl).trans ((fr358 10 rfl).trans ((fr225 10 rfl).trans ((fr160 10 rfl).trans rfl)))))) ?_
            refine W.pure (v := (.string x383)) rfl rfl (z02 (oo rfl rfl)) ?_
            obtain ⟨x387, i388, h389⟩ := z05 h385
            refine W.lo rfl rfl (Lo.callB (j := 1) rfl rfl (fn := Tryd.f9) (by kernel_rfl) rfl (mc rfl (mc rfl mn)) O374 (fun G' L' hG O' hB => z7f K w126 x118 hB x383 O' _ i388)) ?_
            rintro v396 H397 ⟨G390, O391, s392, sm395, rfl⟩
            replace O391 : Ow G390 H397 (eSl w280 9 rS x272 :: eSl w126 9 rS x118 :: eSl w55 9 rS x47.1 :: eVar b7 29 z00 p1 :: eVar b2 29 z00 p0 :: eSl (σ370 15) 9 rS x368 :: L) := O391
            refine W.pure (v := (.bool (!x387))) rfl rfl (z1g (a := x387) (oo rfl rfl)) ?_
            refine .nil ?_
            refine .cond (b := (!x387)) rfl rfl (fun g398 => ?_) (fun g398 => ?_)
            ·have h399 := z03 g398 h389
             refine .region ?_
             refine W.pure (v := (σ370 15)) rfl rfl (z02 (oo rfl rfl)) ?_
             refine W.pure (v := (.string x383)) rfl rfl (z02 (oo rfl rfl)) ?_
             obtain ⟨g400, h401⟩ := z2a h399
             refine W.pure (v := (.string ((⟨#[43, 32]⟩ : zAd) ++ x383))) rfl rfl (z5a g400 (oo rfl rfl) (oo rfl rfl)) ?_
             refine W.lo rfl rfl (Lo.buildSlice (r := rS) (vs := [(.string ((⟨#[43, 32]⟩ : zAd) ++ x383))]) (xs := [((⟨#[43, 32]⟩ : zAd) ++ x383)]) el22 ze9 sz9 (by kernel_rfl) rfl (qc rfl qn) rfl (.cons rfl .nil) O391) ?_
             rintro v404 H405 ⟨O402, sm403⟩
             obtain ⟨es407, e408, e409⟩ := z3a (j := 0) rfl O402
             obtain ⟨g410, h411⟩ := z2a h401
             refine W.lo rfl rfl (Lo.append (j := 6) (v := (σ370 15)) rfl rfl el22 ni22 ze9 sz9 by9 (by decide) (by decide) rfl e408 e409 g410 O402) ?_
             rintro v413 H414 ⟨O406, sm412⟩
             replace O406 : Ow G390 H414 (eSl v404 9 rS [((⟨#[43, 32]⟩ : zAd) ++ x383)] :: eSl w280 9 rS x272 :: eSl w126 9 rS x118 :: eSl w55 9 rS x47.1 :: eVar b7 29 z00 p1 :: eVar b2 29 z00 p0 :: eSl v413 9 rS (x368 ++ [((⟨#[43, 32]⟩ : zAd) ++ x383)]) :: L) := O406
             refine W.pure (v := v413) rfl rfl (z01 (oo rfl rfl)) ?_
             refine .nil ?_
             have O415 : Ow G390 H414 (eSl w280 9 rS x272 :: eSl w126 9 rS x118 :: eSl w55 9 rS x47.1 :: eVar b7 29 z00 p1 :: eVar b2 29 z00 p0 :: eSl v413 9 rS (x368 ++ [((⟨#[43, 32]⟩ : zAd) ++ x383)]) :: L) := O406.drop 0
             obtain rfl := zAa h411
             exact ⟨(x368 ++ [((⟨#[43, 32]⟩ : zAd) ++ x383)]), _, rfl, O415, s392⟩
            ·have h416 := z16 g398 h389
             refine .skip ?_
             obtain rfl := zAa h416
             exact ⟨x368, _, rfl, O391, s392⟩
           ·rintro σ418 H419 fr420 ⟨x417, G421, rfl, O422, s423⟩
            have h425 := z0b h382
            refine .region ?_
            refine W.pure (v := (.int .i64 (z0p .i64 (x369 + 1)))) rfl rfl (z2g (oo rfl ((fr420 119 rfl).trans t377)) (oo rfl rfl) rfl) ?_
            refine W.pure (v := (.int .i64 (z0p .i64 (x369 + 1)))) rfl rfl (z02 (oo rfl rfl)) ?_
            refine .nil ?_
            exact ⟨k367, zAg _, ⟨x417, z0p .i64 (x369 + 1), _, h425, O422, (zAe s375 s423), rfl⟩⟩
          ·have h426 := z16 g378 h376
           refine .exit ?_
           obtain rfl := zAa h426
           exact ⟨x368, _, rfl, O374, s375⟩
         ·rintro σ428 H429 fr430 ⟨x427, G431, rfl, O432, s433⟩
          have h435 := z0b h366
          refine .seq ?_
          obtain ⟨q436, h437, h438⟩ := z05 h435
          refine AW.midT (fun σ' H' => ∃ (y1 : Bool) (G' : GM), y1 = q436 /\ Ow G' H' (eSl w280 9 rS x272 :: eSl w126 9 rS x118 :: eVar b7 29 z00 p1 :: eVar b2 29 z00 p0 :: L) /\ GM.le G431 G' /\ σ' 4 = .bool y1) ?_ ?_
          ·refine .region ?_
           refine W.pure (v := (.int .i64 x47.2)) rfl rfl (z02 (oo rfl ((fr430 8 rfl).trans ((fr358 8 rfl).trans ((fr225 8 rfl).trans ((fr160 8 rfl).trans ((fr96 8 rfl).trans rfl))))))) ?_
           refine W.pure (v := (.bool (x47.2 == 0))) rfl rfl (z2g (oo rfl rfl) (oo rfl rfl) rfl) ?_
           refine W.pure (v := (.bool (x47.2 == 0))) rfl rfl (z02 (oo rfl rfl)) ?_
           refine W.splitAt (t := 135) (b := (x47.2 == 0)) rfl (fun g439 gv440 => ?_) (fun g439 gv440 => ?_)
           ·have h441 := z03 g439 h437
            refine W.pure (v := w55) (gk rfl rfl gv440 rfl) rfl (z02 (oo rfl ((fr430 7 rfl).trans ((fr358 7 rfl).trans ((fr225 7 rfl).trans ((fr160 7 rfl).trans ((fr96 7 rfl).trans rfl))))))) ?_
            refine W.pure (v := (σ428 15)) (gk rfl rfl gv440 rfl) rfl (z02 (oo rfl rfl)) ?_
            obtain ⟨G442, O443, s444, f445⟩ := O432.frzSl (j := 2) rfl
            replace O443 : Ow G442 H429 (eSl w280 9 rS x272 :: eSl w126 9 rS x118 :: eVar b7 29 z00 p1 :: eVar b2 29 z00 p0 :: eSl (σ428 15) 9 rS x427 :: L) := O443
            obtain ⟨G446, O447, s448, f449⟩ := O443.frzSl (j := 4) rfl
            replace O447 : Ow G446 H429 (eSl w280 9 rS x272 :: eSl w126 9 rS x118 :: eVar b7 29 z00 p1 :: eVar b2 29 z00 p0 :: L) := O447
            obtain ⟨x450, i451, h452⟩ := z05 h441
            refine W.lo (gk rfl rfl gv440 rfl) rfl (Lo.callP (ps := []) (ps' := []) rfl (fn := Tryd.f10) (by kernel_rfl) rfl (mc rfl (mc rfl mn)) O447 (fun L' O' => z4h K w55 x47.1 (RT.mono _ s448 f445) (σ428 15) x427 f449 O' _ i451)) ?_
            rintro v459 H460 ⟨G453, O454, s455, sm458, rfl⟩
            replace O454 : Ow G453 H460 (eSl w280 9 rS x272 :: eSl w126 9 rS x118 :: eVar b7 29 z00 p1 :: eVar b2 29 z00 p0 :: L) := O454
            refine W.pure (v := (.bool x450)) rfl rfl (z0u (oo rfl gv440) (oo rfl rfl)) ?_
            refine W.pure (v := (.bool x450)) rfl rfl (z01 (oo rfl rfl)) ?_
            refine .nil ?_
            obtain rfl := zAa h452
            exact ⟨x450, _, rfl, O454, (zAe s444 (zAe s448 s455)), rfl⟩
           ·have h461 := z16 g439 h437
            refine W.skip (gk rfl rfl gv440 rfl) rfl ?_
            refine W.skip (gk rfl rfl gv440 rfl) rfl ?_
            refine W.skip (gk rfl rfl gv440 rfl) rfl ?_
            refine W.pure (v := (.bool false)) rfl rfl (z1h (oo rfl gv440) (oo rfl rfl)) ?_
            refine W.pure (v := (.bool false)) rfl rfl (z01 (oo rfl rfl)) ?_
            refine .nil ?_
            obtain ⟨G462, O463, s464, f465⟩ := O432.frzSl (j := 2) rfl
            replace O463 : Ow G462 H429 (eSl w280 9 rS x272 :: eSl w126 9 rS x118 :: eVar b7 29 z00 p1 :: eVar b2 29 z00 p0 :: eSl (σ428 15) 9 rS x427 :: L) := O463
            obtain ⟨G466, O467, s468, f469⟩ := O463.frzSl (j := 4) rfl
            replace O467 : Ow G466 H429 (eSl w280 9 rS x272 :: eSl w126 9 rS x118 :: eVar b7 29 z00 p1 :: eVar b2 29 z00 p0 :: L) := O467
            obtain rfl := zAa h461
            exact ⟨false, _, rfl, O467, (zAe s464 s468), rfl⟩
          ·rintro σ471 H472 fr473 ⟨x470, G474, rfl, O475, s476, t478⟩
           have h479 := z0b h438
           refine .ret ?_
           have O480 : Ow G474 H472 (eSl w126 9 rS x118 :: eVar b7 29 z00 p1 :: eVar b2 29 z00 p0 :: L) := O475.drop 0
           have O481 : Ow G474 H472 (eVar b7 29 z00 p1 :: eVar b2 29 z00 p0 :: L) := O480.drop 0
           have O482 : Ow G474 H472 (eVar b2 29 z00 p0 :: L) := O481.drop 0
           have O483 : Ow G474 H472 (L) := O482.drop 0
           obtain rfl := zAa h479
           exact z4i kr (v1 := (.bool x470)) (by rfl) (z2i (by rfl) (by exact t478)) O483 (zAe s16 (zAe s35 (zAe s52 (zAe s68 (zAe s99 (zAe s123 (zAe s163 (zAe s228 (zAe s239 (zAe s277 (zAe s361 (zAe s433 s476)))))))))))) rfl
end Go.Am.Tryd
/- Plain law: the program's and the reference's checks of a network, of a name and of a branch are the same. -/
namespace Go.Am.Tryd
open Go Go.Am Go.Proofs
def chP (i : Nat) (c : Int) : Bool := !(!(decide (c >= 65) && decide (c <= 90)) && ((i == 0) || decide (c < 48) || decide (c > 57)))
def zh7 (s : zAd) : Bool := !(s.size == 0) && !decide (s.size > 8) && (z1l s).zipIdx.all fun p => chP p.2 p.1
theorem zbp {α : Type} {p : α -> Bool} {xs : List α} {i : Nat} {x : α} (h : xs[i]? = some x) : (xs.drop i).all p = (p x && (xs.drop (i + 1)).all p) := by
 have hl := (zAi h).1
 rw [List.drop_eq_getElem_cons hl, List.all_cons]
 congr 2
 rw [zAh hl] at h; simpa using h
theorem zj5 {α : Type} (p q z u v : Bool) (A B : Option α) : Option.bind (if p = true then some q else some false) (tu1 fun x34 => Option.bind (if (!x34) = true then (if z = true then some true else (if u = true then some true else some v)) else some false) (tu1 fun x59 => if x59 = true then A else B)) = if (!(!(p && q) && (z || u || v))) = true then B else A := by
 cases p <;> cases q <;> cases z <;> cases u <;> cases v <;> rfl
theorem zj6 {α : Type} (p q u v : Bool) (A B : Option α) : Option.bind (if p = true then (if u = true then some true else some v) else (if q = true then (if u = true then some true else some v) else some false)) (tu1 fun x => if x = true then A else B) = if (!(!(!p && !q) && (u || v))) = true then B else A := by
 cases p <;> cases q <;> cases u <;> cases v <;> rfl
theorem zju (c : Int) : chP 1 c = !(!(!decide (c < 65) && !decide (c > 90)) && (decide (c < 48) || decide (c > 57))) := by
 unfold chP
 have h1 : decide (c >= 65) = !decide (c < 65) := by by_cases h : c < 65 <;> simp [h] <;> omega
 have h2 : decide (c <= 90) = !decide (c > 90) := by by_cases h : c > 90 <;> simp [h] <;> omega
 rw [h1, h2]; simp
theorem zfv (K : Nat) (s : zAd) (hs : s.size <= 1048576) : ∀ d k (i : Nat), (z1l s).length - i = d -> d < k ->
  z23 K s k (i : Int) = some (if ((z1l s).zipIdx.drop i).all (fun p => chP p.2 p.1) then .inr () else .inl false) := by
 have hn := z41 s
 intro d
 induction d with
 | zero =>
  intro k i hd hk
  obtain ⟨k, rfl⟩ : ∃ m, k = m + 1 := ⟨k - 1, by omega⟩
  rw [z23, z1w (by omega), List.drop_eq_nil_of_le (by simp; omega)]
  simp
 | succ d ih =>
  intro k i hd hk
  obtain ⟨k, rfl⟩ : ∃ m, k = m + 1 := ⟨k - 1, by omega⟩
  have hl : i < (z1l s).length := by omega
  have hx : (z1l s)[i]? = some (z1l s)[i] := zAh hl
  have hz : (z1l s).zipIdx[i]? = some ((z1l s)[i], i) := by simp [hl]
  rw [z23, z33 hl, zbp hz]
  simp only [if_true, z1v hx, Option.bind_some]
  generalize (z1l s)[i] = c
  have h1 := ih k (i + 1) (by omega) (by omega)
  rw [<- kw1 hl (by omega)] at h1
  have h0 : ((i : Int) == 0) = (i == 0) := by cases i <;> simp <;> omega
  rw [zj5, h0, h1]
  show (if chP i c = true then _ else _) = _
  cases chP i c <;> simp only [Bool.true_and, Bool.false_and, if_true, Bool.false_eq_true, if_false]
theorem zfw (K : Nat) (s : zAd) (hs : s.size <= 1048576) (hK : s.size < K) : z3n K s = some (zh7 s) := by
 have h := zfv K s hs (z1l s).length K 0 (by omega) (by rw [z41]; exact hK)
 unfold z3n
 rw [show ((0 : Nat) : Int) = 0 from rfl] at h
 rw [h]
 have he : sEq s ⟨#[]⟩ = (s.size == 0) := by
  cases hq : sEq s ⟨#[]⟩ with
  | true => rw [z5y] at hq; subst hq; rfl
  | false =>
   have : s.size ≠ 0 := fun h => by
    have : s = ⟨#[]⟩ := by
     cases s with
     | mk d => congr 1; exact Array.eq_empty_of_size_eq_zero h
    rw [z5y.2 this] at hq; cases hq
   simp [this]
 unfold zh7
 rw [List.drop_zero]
 cases hall : (z1l s).zipIdx.all fun p => chP p.2 p.1 with
 | false => simp [z5s, tu1, hall]
 | true =>
  simp only [z5s, tu0, tu1, hall, he, Option.bind_some, if_true]
  by_cases h0 : s.size = 0
  ·simp [h0]
  ·by_cases h8 : s.size <= 8
   ·have : (s.size : Int) <= 8 := by omega
    have h9 : ¬ s.size > 8 := by omega
    simp [h0, this, h9]
   ·have : ¬ (s.size : Int) <= 8 := by omega
    have h9 : s.size > 8 := by omega
    simp [h0, this, h9]
theorem zce (K : Nat) (s : zAd) (hs : s.size <= 1048576) : ∀ d k (i : Nat), (z1l s).length - i = d -> d < k ->
  z3e K s k (i : Int) = some (if ((z1l s).drop i).all (fun c => chP 1 c) then .inr () else .inl false) := by
 have hn := z41 s
 intro d
 induction d with
 | zero =>
  intro k i hd hk
  obtain ⟨k, rfl⟩ : ∃ m, k = m + 1 := ⟨k - 1, by omega⟩
  rw [z3e, <- hn, z1w (by omega), List.drop_eq_nil_of_le (by omega)]
  simp
 | succ d ih =>
  intro k i hd hk
  obtain ⟨k, rfl⟩ : ∃ m, k = m + 1 := ⟨k - 1, by omega⟩
  have hl : i < (z1l s).length := by omega
  have hx : (z1l s)[i]? = some (z1l s)[i] := zAh hl
  rw [z3e, <- hn, z33 hl, zbp hx]
  simp only [if_true, zg8, z1v hx, Option.bind_some]
  generalize (z1l s)[i] = c
  have h1 := ih k (i + 1) (by omega) (by omega)
  rw [<- kw1 hl (by omega)] at h1
  rw [zj6, h1, <- zju]
  cases chP 1 c <;> simp only [Bool.true_and, Bool.false_and, if_true, Bool.false_eq_true, if_false]
theorem zig (xs : List Int) : ∀ k, 0 < k -> (xs.zipIdx k).all (fun p => chP p.2 p.1) = xs.all (fun c => chP 1 c) := by
 induction xs with
 | nil => intro k _; rfl
 | cons c xs ih =>
  intro k hk
  rw [List.zipIdx_cons, List.all_cons, List.all_cons, ih (k + 1) (by omega)]
  have : chP k c = chP 1 c := by
   unfold chP
   have : (k == 0) = false := by simp; omega
   simp [this]
  rw [this]
theorem ze7 (K : Nat) (s : zAd) (hs : s.size <= 1048576) (hK : s.size < K) : z64 K s = some (zh7 s) := by
 have h := zce K s hs (z1l s).length K 0 (by omega) (by rw [z41]; exact hK)
 rw [show ((0 : Nat) : Int) = 0 from rfl, List.drop_zero] at h
 have hn := z41 s
 unfold z64 zh7
 rw [h]
 by_cases h0 : s.size = 0
 ·simp [h0, tu1]
 ·have h0' : ¬ ((s.size : Int) = 0) := by omega
  by_cases h8 : s.size > 8
  ·have : (s.size : Int) > 8 := by omega
   simp [h0, h8, this, tu1]
  ·have h8' : ¬ (s.size : Int) > 8 := by omega
   cases hb : z1l s with
   | nil => rw [hb] at hn; simp at hn; omega
   | cons c xs =>
    have hi : bidx s 0 = some c := by rw [zg8, hb]; rfl
    rw [List.zipIdx_cons, List.all_cons, List.all_cons, zig xs (0 + 1) (by omega)]
    by_cases a : c < 65
    ·have a' : ¬ c >= 65 := by omega
     simp [h0, h0', h8, h8', tu1, hi, a, a', chP]
    ·have a' : c >= 65 := by omega
     by_cases b : c > 90
     ·have b' : ¬ c <= 90 := by omega
      simp [h0, h0', h8, h8', tu1, hi, a, a', b, b', chP]
     ·have b' : c <= 90 := by omega
      cases hall : xs.all fun c => chP 1 c <;> simp [h0, h0', h8, h8', tu1, tu0, hi, a, a', b, b', chP, z5s, hall]
def hasS (l : List zAd) (s : zAd) : Bool := l.any fun x => sEq s x
theorem ze8 (K : Nat) (l : List zAd) (s : zAd) (hl : l.length <= 1048576) : ∀ d k (i : Nat), l.length - i = d -> d < k ->
  ∃ j : Nat, z0g K l s k (i : Int) = some (if (l.drop i).any (fun x => sEq s x) then .inl (j : Int) else .inr ()) := by
 intro d
 induction d with
 | zero =>
  intro k i hd hk
  obtain ⟨k, rfl⟩ : ∃ m, k = m + 1 := ⟨k - 1, by omega⟩
  exact ⟨0, by rw [z0g, z1w (by omega), List.drop_eq_nil_of_le (by omega)]; simp⟩
 | succ d ih =>
  intro k i hd hk
  obtain ⟨k, rfl⟩ : ∃ m, k = m + 1 := ⟨k - 1, by omega⟩
  have hi : i < l.length := by omega
  have hx : l[i]? = some l[i] := zAh hi
  obtain ⟨j, h1⟩ := ih k (i + 1) (by omega) (by omega)
  rw [<- kw1 hi (by omega)] at h1
  rw [z0g, z33 hi, List.drop_eq_getElem_cons hi, List.any_cons]
  simp only [if_true, z1v hx, Option.bind_some]
  cases hq : sEq s l[i] with
  | true => exact ⟨i, by simp⟩
  | false => exact ⟨j, by simpa using h1⟩
theorem z56 (K : Nat) (l : List zAd) (s : zAd) (hl : l.length <= 1048576) (hK : l.length < K) : z0a K l s = some (hasS l s) := by
 obtain ⟨j, h⟩ := ze8 K l s hl l.length K 0 (by omega) hK
 rw [show ((0 : Nat) : Int) = 0 from rfl, List.drop_zero] at h
 unfold z0a z1x hasS
 rw [h]
 cases hq : l.any fun x => sEq s x with
 | true => simp [z5s, tu1]
 | false => simp [z5s, tu0]
theorem zea (K : Nat) (l : List zAd) (s : zAd) (hl : l.length <= 1048576) : ∀ d k (i : Nat), l.length - i = d -> d < k ->
  ∃ j : Nat, z3u K l s k (i : Int) = some (if (l.drop i).any (fun x => sEq s x) then .inl (j : Int) else .inr ()) := by
 intro d
 induction d with
 | zero =>
  intro k i hd hk
  obtain ⟨k, rfl⟩ : ∃ m, k = m + 1 := ⟨k - 1, by omega⟩
  exact ⟨0, by rw [z3u, z1w (by omega), List.drop_eq_nil_of_le (by omega)]; simp⟩
 | succ d ih =>
  intro k i hd hk
  obtain ⟨k, rfl⟩ : ∃ m, k = m + 1 := ⟨k - 1, by omega⟩
  have hi : i < l.length := by omega
  have hx : l[i]? = some l[i] := zAh hi
  obtain ⟨j, h1⟩ := ih k (i + 1) (by omega) (by omega)
  rw [<- kw1 hi (by omega)] at h1
  rw [z3u, z33 hi, List.drop_eq_getElem_cons hi, List.any_cons]
  simp only [if_true, z1v hx, Option.bind_some]
  rw [zgz l[i] s]
  cases hq : sEq s l[i] with
  | true => exact ⟨i, by simp⟩
  | false => exact ⟨j, by simpa using h1⟩
theorem zbq (K : Nat) (l : List zAd) (s : zAd) (hl : l.length <= 1048576) (hK : l.length < K) : z7y K l s = some (hasS l s) := by
 obtain ⟨j, h⟩ := zea K l s hl l.length K 0 (by omega) hK
 rw [show ((0 : Nat) : Int) = 0 from rfl, List.drop_zero] at h
 unfold z7y z88 hasS
 rw [h]
 cases hq : l.any fun x => sEq s x with
 | true => simp [z5s, tu1]
 | false => simp [z5s, tu0]
end Go.Am.Tryd
/- Plain law: the program's and the reference's checks of a network are the same. -/
namespace Go.Am.Tryd
open Go Go.Am Go.Proofs
def addS (met : List zAd) (s : zAd) : Int × List zAd := if !(zh7 s) then (5, met) else if hasS met s then (7, met) else (0, met ++ [s])
def ziq (n : Network) (l : List zAd) : Int := if l.all (hasS n.Nodes) then 0 else 6
def devS (n : Network) (met : List zAd) (s : zAd) (l : List zAd) : Int × List zAd := if (addS met s).1 != 0 then addS met s else (ziq n l, (addS met s).2)
def inS (a b c : Int) : Bool := decide (a >= b) && decide (a <= c)
def brS (b : Branch) : Bool := inS b.X 1 10000 && inS b.Tap 500 1500 && inS b.Shift (-1000) 1000 && inS b.Limit 0 100000 && inS b.Short b.Limit 100000 && inS b.Hold 0 200000
def chkN (x : zAd) (met : List zAd) : Int ⊕ List zAd := if (addS met x).1 != 0 then .inl (addS met x).1 else .inr (addS met x).2
def apS (x : Item) : Bool := x.apart && (match x.nodes with | a :: b :: _ => sEq a b | _ => false)
def chkI (n : Network) (x : Item) (met : List zAd) : Int ⊕ List zAd :=
 if (devS n met x.name x.nodes).1 != 0 then .inl (devS n met x.name x.nodes).1 else
 if apS x then .inl 3 else if x.bad then .inl 4 else .inr (devS n met x.name x.nodes).2
def iSw (s : Switch) : Item := ⟨s.Name, [s.A, s.B], true, false⟩
def iBr (b : Branch) : Item := ⟨b.Name, [b.From, b.To], true, !brS b⟩
def iGe (g : Gen) : Item := ⟨g.Name, [g.Node], false, !(inS g.Least 0 100000 && inS g.Most g.Least 100000 && inS g.Ramp 0 100000)⟩
def iLo (d : Load_) : Item := ⟨d.Name, [d.Node], false, !inS d.Demand 0 100000⟩
def iSt (s : Store) : Item := ⟨s.Name, [s.Node], false, !(inS s.Charge 0 100000 && inS s.Discharge 0 100000 && inS s.Capacity 0 100000)⟩
def z6u (n : Network) : List Item := n.Switches.map iSw ++ n.Branches.map iBr ++ n.Gens.map iGe ++ n.Loads.map iLo ++ n.Stores.map iSt
def bigS (n : Network) : Bool := decide (n.Nodes.length > 24) || decide (n.Switches.length > 32) || decide (n.Branches.length > 24) || decide (n.Gens.length > 10) || decide (n.Loads.length > 12) || decide (n.Stores.length > 4)
def netS (n : Network) : Int := if bigS n then 2 else Sum.elim id (fun met => Sum.elim id (fun _ => 0) (runS (chkI n) (z6u n) met)) (runS chkN n.Nodes [])
theorem z9p (met : List zAd) (s : zAd) : (addS met s).2.length <= met.length + 1 := by
 unfold addS
 split
 ·simp
 ·split <;> simp
theorem z6v (n : Network) (met : List zAd) (s : zAd) (l : List zAd) : (devS n met s l).2.length <= met.length + 1 := by
 unfold devS
 split <;> exact z9p met s
structure Fit (K : Nat) (n : Network) : Prop where
 nodes : ∀ s ∈ n.Nodes, s.size < K
 sw : ∀ x ∈ n.Switches, x.Name.size < K
 br : ∀ x ∈ n.Branches, x.Name.size < K
 ge : ∀ x ∈ n.Gens, x.Name.size < K
 lo : ∀ x ∈ n.Loads, x.Name.size < K
 st : ∀ x ∈ n.Stores, x.Name.size < K
 many : 200 < K
variable {K : Nat} {n : Network}
theorem zeb (hK : 200 < K) (p : Netmodel_names) (s : zAd) (hs : s.size < K) (hs' : s.size <= 1048576) (hp : p.l.length <= 150) : z24 K p s = some ((addS p.l s).1, ⟨(addS p.l s).2⟩) := by
 unfold z24 addS
 rw [zfw K s hs' hs]
 simp only [Option.bind_some]
 cases zh7 s with
 | false => simp
 | true =>
  rw [z56 K p.l s (by omega) (by omega)]
  cases hasS p.l s with
  | true => simp
  | false =>
   have : p.l.length + 1 <= 16777216 := by omega
   simp [this]
theorem zec (hK : 200 < K) (p : List zAd) (s : zAd) (hs : s.size < K) (hs' : s.size <= 1048576) (hp : p.length <= 150) : z3i K s p = some (addS p s) := by
 unfold z3i addS
 rw [ze7 K s hs' hs]
 simp only [Option.bind_some]
 cases zh7 s with
 | false => simp
 | true =>
  rw [zbq K p s (by omega) (by omega)]
  cases hasS p s with
  | true => simp
  | false =>
   have : p.length + 1 <= 16777216 := by omega
   simp [this]
theorem zb3 {E : Type} (p : zAd -> Bool) (e : E) : ∀ (l : List zAd), runS (fun x (_ : Unit) => if p x then .inr () else .inl e) l () = if l.all p then .inr () else .inl e
 | [] => rfl
 | x :: l => by
  simp only [runS, List.all_cons]
  by_cases hp : p x = true
  ·simp only [hp, if_true, Bool.true_and]; exact zb3 p e l
  ·simp [hp]
theorem zfx (l : List zAd) (hn : n.Nodes.length <= 1048576) (hn' : n.Nodes.length < K) (hl : l.length < K) (hl' : l.length <= 1048576) : z3o K n l = some (ziq n l) := by
 have h : z0z K n l K 0 = _ := z6e l (fun k (_ : Unit) i => z0z K n l k i) (fun x (_ : Unit) => if hasS n.Nodes x then .inr () else .inl (6 : Int)) (fun _ _ => True)
  (fun k s i x hx _ => by
   have hi := (zAi hx).1
   show z0z K n l (k + 1) i = _
   rw [z0z, z33 hi]
   simp only [if_true, z1v hx, Option.bind_some, z56 K n.Nodes x hn hn', kw1 hi (by omega)]
   cases hasS n.Nodes x <;> simp)
  (fun _ _ _ _ _ _ _ => trivial)
  (fun k s i hi => by
   show z0z K n l (k + 1) i = _
   rw [z0z, z1w hi]; simp) K () hl trivial
 unfold z3o ziq
 rw [h, zb3]
 cases l.all (hasS n.Nodes) <;> simp [z5s, tu0, tu1]
theorem zh8 (x : Item) (hn : n.Nodes.length <= 1048576) (hn' : n.Nodes.length < K) (hl : x.nodes.length < K) (hl' : x.nodes.length <= 1048576) : z1i K n x K 0 = some (if x.nodes.all (hasS n.Nodes) then .inr () else .inl 6) := by
 have h : z1i K n x K 0 = _ := z6e x.nodes (fun k (_ : Unit) i => z1i K n x k i) (fun x (_ : Unit) => if hasS n.Nodes x then .inr () else .inl (6 : Int)) (fun _ _ => True)
  (fun k s i y hx _ => by
   have hi := (zAi hx).1
   show z1i K n x (k + 1) i = _
   rw [z1i, z33 hi]
   simp only [if_true, z1v hx, Option.bind_some, zbq K n.Nodes y hn hn', kw1 hi (by omega)]
   cases hasS n.Nodes y <;> simp)
  (fun _ _ _ _ _ _ _ => trivial)
  (fun k s i hi => by
   show z1i K n x (k + 1) i = _
   rw [z1i, z1w hi]; simp) K () hl trivial
 rw [h, zb3]
theorem z8l (hK : 200 < K) (hn : n.Nodes.length <= 24) (p : Netmodel_names) (s : zAd) (l : List zAd) (hs : s.size < K) (hs' : s.size <= 1048576) (hp : p.l.length <= 150) (hl : l.length <= 2) :
  z1k K n p s l = some ((devS n p.l s l).1, ⟨(devS n p.l s l).2⟩) := by
 unfold z1k devS
 rw [zeb hK _ s hs hs' hp]
 simp only [Option.bind_some]
 cases h : (addS p.l s).1 != 0 with
 | true => simp [h]
 | false =>
  rw [zfx l (by omega) (by omega) (by omega) (by omega)]
  simp [h]
theorem z6f (K : Nat) (a b c : Int) : z0c K a b c = some (inS a b c) := by
 unfold z0c inS
 cases decide (a >= b) <;> simp [tu1]
theorem zcf (K : Nat) (a b c : Int) : z65 K a b c = some (inS a b c) := by
 have h1 : decide (a >= b) = !decide (a < b) := by by_cases h : a < b <;> simp [h] <;> omega
 have h2 : decide (a <= c) = !decide (a > c) := by by_cases h : a > c <;> simp [h] <;> omega
 unfold z65 inS
 rw [h1, h2]
 cases decide (a < b) <;> simp [tu1]
theorem zcg (K : Nat) (b : Branch) : z35 K b = some (if brS b then 0 else 4) := by
 unfold z35 brS
 simp only [z6f, Option.bind_some]
 cases inS b.X 1 10000 <;> cases inS b.Tap 500 1500 <;> cases inS b.Shift (-1000) 1000 <;> cases inS b.Limit 0 100000 <;> cases inS b.Short b.Limit 100000 <;> cases inS b.Hold 0 200000 <;> rfl
theorem z68 (K : Nat) (b : Branch) : z3p K b = some (if brS b then 0 else 4) := by
 unfold z3p brS
 simp only [zcf, Option.bind_some]
 cases inS b.X 1 10000 <;> cases inS b.Tap 500 1500 <;> cases inS b.Shift (-1000) 1000 <;> cases inS b.Limit 0 100000 <;> cases inS b.Short b.Limit 100000 <;> cases inS b.Hold 0 200000 <;> rfl
end Go.Am.Tryd
/- Plain law: NetmodelChecks answers true. -/
namespace Go.Am.Tryd
open Go Go.Am Go.Proofs
variable {K : Nat} {n : Network}
theorem z9q {α S T E Q : Type} (chk : α -> S -> E ⊕ S) (g : S -> T) (chk' : α -> T -> (E × Q) ⊕ T) (q0 : Q) (h : ∀ x s, ∃ q, chk' x (g s) = Sum.elim (fun e => .inl (e, q)) (fun s' => .inr (g s')) (chk x s)) :
  ∀ (xs : List α) (s : S), ∃ q, runS chk' xs (g s) = Sum.elim (fun e => .inl (e, q)) (fun s' => .inr (g s')) (runS chk xs s)
 | [], s => ⟨q0, rfl⟩
 | x :: xs, s => by
  simp only [runS]
  obtain ⟨q, hq⟩ := h x s
  rw [hq]
  cases chk x s with
  | inl e => exact ⟨q, rfl⟩
  | inr s' => exact z9q chk g chk' q0 h xs s'
def Sh (K : Nat) (s : zAd) : Prop := s.size < K /\ s.size <= 1048576
structure Fits (K : Nat) (n : Network) : Prop where
 many : 200 < K
 nodes : ∀ s ∈ n.Nodes, Sh K s
 sw : ∀ x ∈ n.Switches, Sh K x.Name
 br : ∀ x ∈ n.Branches, Sh K x.Name
 ge : ∀ x ∈ n.Gens, Sh K x.Name
 lo : ∀ x ∈ n.Loads, Sh K x.Name
 st : ∀ x ∈ n.Stores, Sh K x.Name
abbrev NL := Netmodel_names × List zAd
def gNL (m : List zAd) : NL := (⟨m⟩, m)
theorem z4o {α : Type} {xs : List α} {i : Nat} {x : α} (h : xs[i]? = some x) : x ∈ xs := List.mem_of_getElem? h
theorem z6g {α : Type} {xs : List α} {i : Nat} {x : α} (h : xs[i]? = some x) : i < xs.length := (zAi h).1
theorem zj7 (F : Fits K n) (hn : n.Nodes.length <= 24) : z0q K n K ⟨[]⟩ [] 0 = some (Sum.elim .inl (fun m => .inr (gNL m)) (runS chkN n.Nodes [])) := by
 have hm := F.many
 have h : z0q K n K (gNL []).1 (gNL []).2 0 = _ := z6e n.Nodes (fun k (s : NL) i => z0q K n k s.1 s.2 i)
  (fun x s => if (addS s.2 x).1 != 0 then .inl (addS s.2 x).1 else .inr (gNL (addS s.2 x).2)) (fun s i => s.2.length <= i)
  (fun k s i x hx hI => by
   obtain ⟨h1, h2⟩ := F.nodes x (z4o hx)
   have hi := z6g hx
   show z0q K n (k + 1) s.1 s.2 i = _
   rw [z0q, z33 hi]
   simp only [if_true, z1v hx, Option.bind_some, zeb hm ⟨s.2⟩ x h1 h2 (by show s.2.length <= 150; omega), kw1 hi (by omega)]
   by_cases h : ((addS s.2 x).1 != 0) = true <;> simp [h, gNL])
  (fun s i x s' hx hI hc => by
   have := z9p s.2 x
   split at hc
   ·cases hc
   ·cases hc; show (addS s.2 x).2.length <= i + 1; omega)
  (fun k s i hi => by
   show z0q K n (k + 1) s.1 s.2 i = _
   rw [z0q, z1w hi]; simp) K (gNL []) (by omega) (by simp [gNL])
 rw [z86 chkN gNL _ (fun x s => by unfold chkN; by_cases h : ((addS s x).1 != 0) = true <;> simp [h, gNL])] at h
 exact h
theorem z8m {α E : Type} (F : Fits K n) (hn : n.Nodes.length <= 24) (xs : List α) (it : α -> Item) (l : Nat -> NL -> Int -> Option (E ⊕ NL)) (hx : xs.length <= 32) (m : List zAd) (hmm : m.length <= 110)
  (c : α -> NL -> E ⊕ NL) (h : ∀ k (s : NL) (i : Nat) x, xs[i]? = some x -> s.2.length <= 145 -> l (k + 1) s i = Sum.elim (fun e => some (.inl e)) (fun s' => l k s' ((i + 1 : Nat) : Int)) (c x s))
  (hc : ∀ x s s', c x s = .inr s' -> s'.2.length <= s.2.length + 1) (h0 : ∀ k s (i : Nat), xs.length <= i -> l (k + 1) s i = some (.inr s)) : l K (gNL m) 0 = some (runS c xs (gNL m)) := by
 have hm := F.many
 refine z6e xs l c (fun s i => s.2.length <= m.length + i) (fun k s i x hx' hI => h k s i x hx' (by have := z6g hx'; omega)) (fun s i x s' hx' hI hc' => by have := hc x s s' hc'; omega) h0 K (gNL m) (by omega) (by simp [gNL])
theorem z8n {α : Type} {n : Network} (it : α -> Item) : ∀ (xs : List α) (m m' : List zAd), runS (fun x => chkI n (it x)) xs m = .inr m' -> m'.length <= m.length + xs.length
 | [], m, m', h => by cases h; simp
 | x :: xs, m, m', h => by
  simp only [runS] at h
  cases hq : chkI n (it x) m with
  | inl e => rw [hq] at h; cases h
  | inr m1 =>
   rw [hq] at h
   have h1 := z8n it xs m1 m' h
   have h2 : m1.length <= m.length + 1 := by
    unfold chkI at hq
    have h3 := z6v n m (it x).name (it x).nodes
    split at hq
    ·cases hq
    ·split at hq
     ·cases hq
     ·split at hq
      ·cases hq
      ·cases hq; exact h3
   simp; omega
theorem zj8 (F : Fits K n) (hn : n.Nodes.length <= 24) (hx : n.Switches.length <= 32) (m : List zAd) (hmm : m.length <= 110) : z0r K n K ⟨m⟩ m 0 = some (Sum.elim .inl (fun m => .inr (gNL m)) (runS (fun x => chkI n (iSw x)) n.Switches m)) := by
 have hm := F.many
 have h : z0r K n K (gNL m).1 (gNL m).2 0 = _ := z8m F hn n.Switches iSw (fun k (s : NL) i => z0r K n k s.1 s.2 i) hx m hmm
  (fun x s => if (devS n s.2 x.Name [x.A, x.B]).1 != 0 then .inl (devS n s.2 x.Name [x.A, x.B]).1 else if sEq x.A x.B then .inl 3 else .inr (gNL (devS n s.2 x.Name [x.A, x.B]).2))
  (fun k s i x hx' hI => by
   obtain ⟨h1, h2⟩ := F.sw x (z4o hx')
   have hi := z6g hx'
   show z0r K n (k + 1) s.1 s.2 i = _
   rw [z0r, z33 hi]
   simp only [if_true, z1v hx', Option.bind_some, z8l hm hn ⟨s.2⟩ x.Name [x.A, x.B] h1 h2 (by show s.2.length <= 150; omega) (by simp), kw1 hi (by omega)]
   by_cases h : ((devS n s.2 x.Name [x.A, x.B]).1 != 0) = true <;> by_cases h2 : sEq x.A x.B = true <;> simp [gNL, h, h2])
  (fun x s s' hc => by
   have := z6v n s.2 x.Name [x.A, x.B]
   split at hc
   ·cases hc
   ·split at hc
    ·cases hc
    ·cases hc; exact this)
  (fun k s i hi => by
   show z0r K n (k + 1) s.1 s.2 i = _
   rw [z0r, z1w hi]; simp)
 rw [z86 (fun x => chkI n (iSw x)) gNL _ (fun x s => by simp only [chkI, iSw, gNL, apS, Bool.true_and]; by_cases h : ((devS n s x.Name [x.A, x.B]).1 != 0) = true <;> by_cases h2 : sEq x.A x.B = true <;> simp [h, h2])] at h
 exact h
theorem zj9 (F : Fits K n) (hn : n.Nodes.length <= 24) (hx : n.Branches.length <= 32) (m : List zAd) (hmm : m.length <= 110) : z0s K n K ⟨m⟩ m 0 = some (Sum.elim .inl (fun m => .inr (gNL m)) (runS (fun x => chkI n (iBr x)) n.Branches m)) := by
 have hm := F.many
 have h : z0s K n K (gNL m).1 (gNL m).2 0 = _ := z8m F hn n.Branches iBr (fun k (s : NL) i => z0s K n k s.1 s.2 i) hx m hmm
  (fun x s => if (devS n s.2 x.Name [x.From, x.To]).1 != 0 then .inl (devS n s.2 x.Name [x.From, x.To]).1 else if sEq x.From x.To then .inl 3 else if brS x then .inr (gNL (devS n s.2 x.Name [x.From, x.To]).2) else .inl 4)
  (fun k s i x hx' hI => by
   obtain ⟨h1, h2⟩ := F.br x (z4o hx')
   have hi := z6g hx'
   show z0s K n (k + 1) s.1 s.2 i = _
   rw [z0s, z33 hi]
   simp only [if_true, z1v hx', Option.bind_some, z8l hm hn ⟨s.2⟩ x.Name [x.From, x.To] h1 h2 (by show s.2.length <= 150; omega) (by simp), kw1 hi (by omega), zcg]
   by_cases h : ((devS n s.2 x.Name [x.From, x.To]).1 != 0) = true <;> by_cases h2 : sEq x.From x.To = true <;> by_cases h3 : brS x = true <;> simp [gNL, h, h2, h3])
  (fun x s s' hc => by
   have := z6v n s.2 x.Name [x.From, x.To]
   split at hc
   ·cases hc
   ·split at hc
    ·cases hc
    ·split at hc
     ·cases hc; exact this
     ·cases hc)
  (fun k s i hi => by
   show z0s K n (k + 1) s.1 s.2 i = _
   rw [z0s, z1w hi]; simp)
 rw [z86 (fun x => chkI n (iBr x)) gNL _ (fun x s => by simp only [chkI, iBr, gNL, apS, Bool.true_and]; by_cases h : ((devS n s x.Name [x.From, x.To]).1 != 0) = true <;> by_cases h2 : sEq x.From x.To = true <;> by_cases h3 : brS x = true <;> simp [h, h2, h3])] at h
 exact h
end Go.Am.Tryd
/- Plain law: NetmodelChecks answers true. -/
namespace Go.Am.Tryd
open Go Go.Am Go.Proofs
variable {K : Nat} {n : Network}
theorem zja (F : Fits K n) (hn : n.Nodes.length <= 24) (hx : n.Gens.length <= 32) (m : List zAd) (hmm : m.length <= 110) : ∃ q, z0l K n K ⟨m⟩ m 0 = some (Sum.elim (fun e => .inl (e, q)) (fun m => .inr (gNL m)) (runS (fun x => chkI n (iGe x)) n.Gens m)) := by
 have hm := F.many
 have h : z0l K n K (gNL m).1 (gNL m).2 0 = _ := z8m F hn n.Gens iGe (fun k (s : NL) i => z0l K n k s.1 s.2 i) hx m hmm
  (fun x s => if (devS n s.2 x.Name [x.Node]).1 != 0 then .inl ((devS n s.2 x.Name [x.Node]).1, (⟨(devS n s.2 x.Name [x.Node]).2⟩ : Netmodel_names)) else if inS x.Least 0 100000 && inS x.Most x.Least 100000 && inS x.Ramp 0 100000 then .inr (gNL (devS n s.2 x.Name [x.Node]).2) else .inl (4, ⟨(devS n s.2 x.Name [x.Node]).2⟩))
  (fun k s i x hx' hI => by
   obtain ⟨h1, h2⟩ := F.ge x (z4o hx')
   have hi := z6g hx'
   show z0l K n (k + 1) s.1 s.2 i = _
   rw [z0l, z33 hi]
   simp only [if_true, z1v hx', Option.bind_some, z8l hm hn ⟨s.2⟩ x.Name [x.Node] h1 h2 (by show s.2.length <= 150; omega) (by simp), kw1 hi (by omega), z6f]
   by_cases h : ((devS n s.2 x.Name [x.Node]).1 != 0) = true <;> by_cases h2 : inS x.Least 0 100000 = true <;> by_cases h3 : inS x.Most x.Least 100000 = true <;> by_cases h4 : inS x.Ramp 0 100000 = true <;> simp [gNL, h, h2, h3, h4, tu1])
  (fun x s s' hc => by
   have := z6v n s.2 x.Name [x.Node]
   split at hc
   ·cases hc
   ·split at hc
    ·cases hc; exact this
    ·cases hc)
  (fun k s i hi => by
   show z0l K n (k + 1) s.1 s.2 i = _
   rw [z0l, z1w hi]; simp)
 obtain ⟨q, hq⟩ := z9q (fun x => chkI n (iGe x)) gNL (fun x (s : NL) => if (devS n s.2 x.Name [x.Node]).1 != 0 then .inl ((devS n s.2 x.Name [x.Node]).1, (⟨(devS n s.2 x.Name [x.Node]).2⟩ : Netmodel_names)) else if inS x.Least 0 100000 && inS x.Most x.Least 100000 && inS x.Ramp 0 100000 then .inr (gNL (devS n s.2 x.Name [x.Node]).2) else .inl (4, ⟨(devS n s.2 x.Name [x.Node]).2⟩)) (⟨[]⟩ : Netmodel_names)
  (fun x s => ⟨⟨(devS n s x.Name [x.Node]).2⟩, by simp only [chkI, iGe, gNL, apS, Bool.false_and]; by_cases h : ((devS n s x.Name [x.Node]).1 != 0) = true <;> by_cases h2 : inS x.Least 0 100000 = true <;> by_cases h3 : inS x.Most x.Least 100000 = true <;> by_cases h4 : inS x.Ramp 0 100000 = true <;> simp [h, h2, h3, h4]⟩) n.Gens m
 rw [hq] at h
 exact ⟨q, h⟩
theorem zjb (F : Fits K n) (hn : n.Nodes.length <= 24) (hx : n.Loads.length <= 32) (m : List zAd) (hmm : m.length <= 110) : ∃ q, z0m K n K ⟨m⟩ m 0 = some (Sum.elim (fun e => .inl (e, q)) (fun m => .inr (gNL m)) (runS (fun x => chkI n (iLo x)) n.Loads m)) := by
 have hm := F.many
 have h : z0m K n K (gNL m).1 (gNL m).2 0 = _ := z8m F hn n.Loads iLo (fun k (s : NL) i => z0m K n k s.1 s.2 i) hx m hmm
  (fun x s => if (devS n s.2 x.Name [x.Node]).1 != 0 then .inl ((devS n s.2 x.Name [x.Node]).1, (⟨(devS n s.2 x.Name [x.Node]).2⟩ : Netmodel_names)) else if inS x.Demand 0 100000 then .inr (gNL (devS n s.2 x.Name [x.Node]).2) else .inl (4, ⟨(devS n s.2 x.Name [x.Node]).2⟩))
  (fun k s i x hx' hI => by
   obtain ⟨h1, h2⟩ := F.lo x (z4o hx')
   have hi := z6g hx'
   show z0m K n (k + 1) s.1 s.2 i = _
   rw [z0m, z33 hi]
   simp only [if_true, z1v hx', Option.bind_some, z8l hm hn ⟨s.2⟩ x.Name [x.Node] h1 h2 (by show s.2.length <= 150; omega) (by simp), kw1 hi (by omega), z6f]
   by_cases h : ((devS n s.2 x.Name [x.Node]).1 != 0) = true <;> by_cases h2 : inS x.Demand 0 100000 = true <;> simp [gNL, h, h2, tu1])
  (fun x s s' hc => by
   have := z6v n s.2 x.Name [x.Node]
   split at hc
   ·cases hc
   ·split at hc
    ·cases hc; exact this
    ·cases hc)
  (fun k s i hi => by
   show z0m K n (k + 1) s.1 s.2 i = _
   rw [z0m, z1w hi]; simp)
 obtain ⟨q, hq⟩ := z9q (fun x => chkI n (iLo x)) gNL (fun x (s : NL) => if (devS n s.2 x.Name [x.Node]).1 != 0 then .inl ((devS n s.2 x.Name [x.Node]).1, (⟨(devS n s.2 x.Name [x.Node]).2⟩ : Netmodel_names)) else if inS x.Demand 0 100000 then .inr (gNL (devS n s.2 x.Name [x.Node]).2) else .inl (4, ⟨(devS n s.2 x.Name [x.Node]).2⟩)) (⟨[]⟩ : Netmodel_names)
  (fun x s => ⟨⟨(devS n s x.Name [x.Node]).2⟩, by simp only [chkI, iLo, gNL, apS, Bool.false_and]; by_cases h : ((devS n s x.Name [x.Node]).1 != 0) = true <;> by_cases h2 : inS x.Demand 0 100000 = true <;> simp [h, h2]⟩) n.Loads m
 rw [hq] at h
 exact ⟨q, h⟩
theorem zjc (F : Fits K n) (hn : n.Nodes.length <= 24) (hx : n.Stores.length <= 32) (m : List zAd) (hmm : m.length <= 110) : ∃ q, z0n K n K ⟨m⟩ m 0 = some (Sum.elim (fun e => .inl (e, q)) (fun m => .inr (gNL m)) (runS (fun x => chkI n (iSt x)) n.Stores m)) := by
 have hm := F.many
 have h : z0n K n K (gNL m).1 (gNL m).2 0 = _ := z8m F hn n.Stores iSt (fun k (s : NL) i => z0n K n k s.1 s.2 i) hx m hmm
  (fun x s => if (devS n s.2 x.Name [x.Node]).1 != 0 then .inl ((devS n s.2 x.Name [x.Node]).1, (⟨(devS n s.2 x.Name [x.Node]).2⟩ : Netmodel_names)) else if inS x.Charge 0 100000 && inS x.Discharge 0 100000 && inS x.Capacity 0 100000 then .inr (gNL (devS n s.2 x.Name [x.Node]).2) else .inl (4, ⟨(devS n s.2 x.Name [x.Node]).2⟩))
  (fun k s i x hx' hI => by
   obtain ⟨h1, h2⟩ := F.st x (z4o hx')
   have hi := z6g hx'
   show z0n K n (k + 1) s.1 s.2 i = _
   rw [z0n, z33 hi]
   simp only [if_true, z1v hx', Option.bind_some, z8l hm hn ⟨s.2⟩ x.Name [x.Node] h1 h2 (by show s.2.length <= 150; omega) (by simp), kw1 hi (by omega), z6f]
   by_cases h : ((devS n s.2 x.Name [x.Node]).1 != 0) = true <;> by_cases h2 : inS x.Charge 0 100000 = true <;> by_cases h3 : inS x.Discharge 0 100000 = true <;> by_cases h4 : inS x.Capacity 0 100000 = true <;> simp [gNL, h, h2, h3, h4, tu1])
  (fun x s s' hc => by
   have := z6v n s.2 x.Name [x.Node]
   split at hc
   ·cases hc
   ·split at hc
    ·cases hc; exact this
    ·cases hc)
  (fun k s i hi => by
   show z0n K n (k + 1) s.1 s.2 i = _
   rw [z0n, z1w hi]; simp)
 obtain ⟨q, hq⟩ := z9q (fun x => chkI n (iSt x)) gNL (fun x (s : NL) => if (devS n s.2 x.Name [x.Node]).1 != 0 then .inl ((devS n s.2 x.Name [x.Node]).1, (⟨(devS n s.2 x.Name [x.Node]).2⟩ : Netmodel_names)) else if inS x.Charge 0 100000 && inS x.Discharge 0 100000 && inS x.Capacity 0 100000 then .inr (gNL (devS n s.2 x.Name [x.Node]).2) else .inl (4, ⟨(devS n s.2 x.Name [x.Node]).2⟩)) (⟨[]⟩ : Netmodel_names)
  (fun x s => ⟨⟨(devS n s x.Name [x.Node]).2⟩, by simp only [chkI, iSt, gNL, apS, Bool.false_and]; by_cases h : ((devS n s x.Name [x.Node]).1 != 0) = true <;> by_cases h2 : inS x.Charge 0 100000 = true <;> by_cases h3 : inS x.Discharge 0 100000 = true <;> by_cases h4 : inS x.Capacity 0 100000 = true <;> simp [h, h2, h3, h4]⟩) n.Stores m
 rw [hq] at h
 exact ⟨q, h⟩
theorem src (F : Fits K n) (hb : bigS n = false) (m : List zAd) (hmm : m.length <= 80) : ∃ q, z2x K n ⟨m⟩ = some (Sum.elim (fun e => e) (fun _ => 0) (runS (chkI n) (n.Gens.map iGe ++ n.Loads.map iLo ++ n.Stores.map iSt) m), q) := by
 have hb' : n.Nodes.length <= 24 /\ n.Switches.length <= 32 /\ n.Branches.length <= 24 /\ n.Gens.length <= 10 /\ n.Loads.length <= 12 /\ n.Stores.length <= 4 := by
  unfold bigS at hb; simp at hb; omega
 obtain ⟨a1, a2, a3, a4, a5, a6⟩ := hb'
 obtain ⟨q1, h1⟩ := zja F a1 (by omega) m (by omega)
 unfold z2x
 simp only [h1, z3y, z6q]
 cases r1 : runS (fun x => chkI n (iGe x)) n.Gens m with
 | inl e => exact ⟨q1, by simp [z5s, tu2]⟩
 | inr m1 =>
  have b1 := z8n iGe n.Gens m m1 r1
  obtain ⟨q2, h2⟩ := zjb F a1 (by omega) m1 (by omega)
  simp only [Sum.elim_inr, z5s, tu2, Option.bind_some, gNL, h2]
  cases r2 : runS (fun x => chkI n (iLo x)) n.Loads m1 with
  | inl e => exact ⟨q2, by simp [z3y, z6q, r2]⟩
  | inr m2 =>
   have b2 := z8n iLo n.Loads m1 m2 r2
   obtain ⟨q3, h3⟩ := zjc F a1 (by omega) m2 (by omega)
   simp only [Sum.elim_inr, Option.bind_some, gNL, h3]
   cases r3 : runS (fun x => chkI n (iSt x)) n.Stores m2 with
   | inl e => exact ⟨q3, by simp [z3y, z6q, r2, r3]⟩
   | inr m3 => exact ⟨⟨m3⟩, by simp [gNL, z3y, z6q, r2, r3]⟩
theorem zed (K : Nat) (n : Network) : z3d K n = some (if bigS n then 2 else 0) := by
 unfold z3d bigS
 by_cases a1 : (n.Nodes.length : Int) > 24 <;> by_cases a2 : (n.Switches.length : Int) > 32 <;> by_cases a3 : (n.Branches.length : Int) > 24 <;> by_cases a4 : (n.Gens.length : Int) > 10 <;> by_cases a5 : (n.Loads.length : Int) > 12 <;> by_cases a6 : (n.Stores.length : Int) > 4 <;>
  simp [a1, a2, a3, a4, a5, a6, tu1] <;> omega
theorem zb4 (n : Network) : ∀ (xs : List zAd) (m m' : List zAd), runS chkN xs m = .inr m' -> m'.length <= m.length + xs.length
 | [], m, m', h => by cases h; simp
 | x :: xs, m, m', h => by
  simp only [runS] at h
  cases hq : chkN x m with
  | inl e => rw [hq] at h; cases h
  | inr m1 =>
   rw [hq] at h
   have h1 := zb4 n xs m1 m' h
   have h2 : m1.length <= m.length + 1 := by
    unfold chkN at hq
    have h3 := z9p m x
    split at hq
    ·cases hq
    ·cases hq; exact h3
   simp; omega
theorem z7h (F : Fits K n) : z2e K n = some (netS n) := by
 unfold z2e netS
 rw [zed]
 cases hb : bigS n with
 | true => simp
 | false =>
 have hb' : n.Nodes.length <= 24 /\ n.Switches.length <= 32 /\ n.Branches.length <= 24 /\ n.Gens.length <= 10 /\ n.Loads.length <= 12 /\ n.Stores.length <= 4 := by
  unfold bigS at hb; simp at hb; omega
 obtain ⟨a1, a2, a3, a4, a5, a6⟩ := hb'
 simp only [Option.bind_some, zj7 F a1]
 cases r0 : runS chkN n.Nodes [] with
 | inl e => simp [z5s, tu1]
 | inr m =>
  have b0 := zb4 n n.Nodes [] m r0
  simp only [Sum.elim_inr, z5s, tu1, tu2, Option.bind_some, gNL, zj8 F a1 (by omega) m (by simp at b0; omega), z6u, List.append_assoc, z3y (chkI n) (n.Switches.map iSw), z3y (chkI n) (n.Branches.map iBr)]
  simp only [z6q (chkI n) iSw]
  cases r1 : runS (fun x => chkI n (iSw x)) n.Switches m with
  | inl e => simp
  | inr m1 =>
   have b1 := z8n iSw n.Switches m m1 r1
   simp only [Sum.elim_inr, Option.bind_some, gNL, zj9 F a1 (by omega) m1 (by simp at b0; omega), z3y (chkI n) (n.Branches.map iBr), z6q (chkI n) iBr]
   cases r2 : runS (fun x => chkI n (iBr x)) n.Branches m1 with
   | inl e => simp
   | inr m2 =>
    have b2 := z8n iBr n.Branches m1 m2 r2
    obtain ⟨q, h3⟩ := src F hb m2 (by simp at b0; omega)
    simp only [Sum.elim_inr, Option.bind_some, gNL, h3, List.append_assoc]
    cases runS (chkI n) (n.Gens.map iGe ++ (n.Loads.map iLo ++ n.Stores.map iSt)) m2 <;> simp
theorem zh9 (acc : List Item) (ha : acc.length <= 100) (hx : n.Switches.length <= 32) (hK : 200 < K) : z2n K n K acc 0 = some (acc ++ n.Switches.map iSw) :=
 z2j n.Switches (fun k acc i => z2n K n k acc i) iSw acc
  (fun k acc' i x hx' hl => by
   have hi := z6g hx'
   have h9 : acc'.length + 1 <= 16777216 := by omega
   show z2n K n (k + 1) acc' i = _
   rw [z2n, z33 hi]
   simp only [if_true, z1v hx', Option.bind_some, kw1 hi (by omega), zcf, z68, List.length_cons, List.length_nil]
   simp [iSw, tu1, h9])
  (fun k acc i hi => by
   show z2n K n (k + 1) acc i = _
   rw [z2n, z1w hi]; simp) K (by omega)
theorem zha (acc : List Item) (ha : acc.length <= 100) (hx : n.Branches.length <= 32) (hK : 200 < K) : z2o K n K acc 0 = some (acc ++ n.Branches.map iBr) :=
 z2j n.Branches (fun k acc i => z2o K n k acc i) iBr acc
  (fun k acc' i x hx' hl => by
   have hi := z6g hx'
   have h9 : acc'.length + 1 <= 16777216 := by omega
   show z2o K n (k + 1) acc' i = _
   rw [z2o, z33 hi]
   simp only [if_true, z1v hx', Option.bind_some, kw1 hi (by omega), zcf, z68, List.length_cons, List.length_nil]
   by_cases h2 : brS x = true <;> simp [iBr, tu1, h9, h2])
  (fun k acc i hi => by
   show z2o K n (k + 1) acc i = _
   rw [z2o, z1w hi]; simp) K (by omega)
theorem zhb (acc : List Item) (ha : acc.length <= 100) (hx : n.Gens.length <= 32) (hK : 200 < K) : z2p K n K acc 0 = some (acc ++ n.Gens.map iGe) :=
 z2j n.Gens (fun k acc i => z2p K n k acc i) iGe acc
  (fun k acc' i x hx' hl => by
   have hi := z6g hx'
   have h9 : acc'.length + 1 <= 16777216 := by omega
   show z2p K n (k + 1) acc' i = _
   rw [z2p, z33 hi]
   simp only [if_true, z1v hx', Option.bind_some, kw1 hi (by omega), zcf, z68, List.length_cons, List.length_nil]
   by_cases h2 : inS x.Least 0 100000 = true <;> by_cases h3 : inS x.Most x.Least 100000 = true <;> by_cases h4 : inS x.Ramp 0 100000 = true <;> simp [iGe, tu1, h9, h2, h3, h4])
  (fun k acc i hi => by
   show z2p K n (k + 1) acc i = _
   rw [z2p, z1w hi]; simp) K (by omega)
theorem zhc (acc : List Item) (ha : acc.length <= 100) (hx : n.Loads.length <= 32) (hK : 200 < K) : z2q K n K acc 0 = some (acc ++ n.Loads.map iLo) :=
 z2j n.Loads (fun k acc i => z2q K n k acc i) iLo acc
  (fun k acc' i x hx' hl => by
   have hi := z6g hx'
   have h9 : acc'.length + 1 <= 16777216 := by omega
   show z2q K n (k + 1) acc' i = _
   rw [z2q, z33 hi]
   simp only [if_true, z1v hx', Option.bind_some, kw1 hi (by omega), zcf, z68, List.length_cons, List.length_nil]
   by_cases h2 : inS x.Demand 0 100000 = true <;> simp [iLo, tu1, h9, h2])
  (fun k acc i hi => by
   show z2q K n (k + 1) acc i = _
   rw [z2q, z1w hi]; simp) K (by omega)
theorem zhd (acc : List Item) (ha : acc.length <= 100) (hx : n.Stores.length <= 32) (hK : 200 < K) : z2r K n K acc 0 = some (acc ++ n.Stores.map iSt) :=
 z2j n.Stores (fun k acc i => z2r K n k acc i) iSt acc
  (fun k acc' i x hx' hl => by
   have hi := z6g hx'
   have h9 : acc'.length + 1 <= 16777216 := by omega
   show z2r K n (k + 1) acc' i = _
   rw [z2r, z33 hi]
   simp only [if_true, z1v hx', Option.bind_some, kw1 hi (by omega), zcf, z68, List.length_cons, List.length_nil]
   by_cases h2 : inS x.Charge 0 100000 = true <;> by_cases h3 : inS x.Discharge 0 100000 = true <;> by_cases h4 : inS x.Capacity 0 100000 = true <;> simp [iSt, tu1, h9, h2, h3, h4])
  (fun k acc i hi => by
   show z2r K n (k + 1) acc i = _
   rw [z2r, z1w hi]; simp) K (by omega)
theorem zfy (hb : bigS n = false) (hK : 200 < K) : z7g K n = some (z6u n) := by
 have hb' : n.Nodes.length <= 24 /\ n.Switches.length <= 32 /\ n.Branches.length <= 24 /\ n.Gens.length <= 10 /\ n.Loads.length <= 12 /\ n.Stores.length <= 4 := by
  unfold bigS at hb; simp at hb; omega
 obtain ⟨a1, a2, a3, a4, a5, a6⟩ := hb'
 unfold z7g z6u
 rw [zh9 [] (by simp) (by omega) hK]
 simp only [Option.bind_some, tu1, List.nil_append]
 rw [zha _ (by simp; omega) (by omega) hK]
 simp only [Option.bind_some]
 rw [zhb _ (by simp; omega) (by omega) hK]
 simp only [Option.bind_some]
 rw [zhc _ (by simp; omega) (by omega) hK]
 simp only [Option.bind_some]
 rw [zhd _ (by simp; omega) (by omega) hK]
 simp
def OkI (K : Nat) (x : Item) : Prop := Sh K x.name /\ x.nodes.length <= 2 /\ (x.apart = true -> x.nodes.length = 2)
theorem okI (F : Fits K n) : ∀ x ∈ z6u n, OkI K x := by
 intro x hx
 unfold z6u at hx
 simp only [List.mem_append, List.mem_map] at hx
 rcases hx with (((⟨y, hy, rfl⟩ | ⟨y, hy, rfl⟩) | ⟨y, hy, rfl⟩) | ⟨y, hy, rfl⟩) | ⟨y, hy, rfl⟩
 ·exact ⟨F.sw y hy, by simp [iSw], by simp [iSw]⟩
 ·exact ⟨F.br y hy, by simp [iBr], by simp [iBr]⟩
 ·exact ⟨F.ge y hy, by simp [iGe], by simp [iGe]⟩
 ·exact ⟨F.lo y hy, by simp [iLo], by simp [iLo]⟩
 ·exact ⟨F.st y hy, by simp [iSt], by simp [iSt]⟩
theorem zjd (F : Fits K n) (hn : n.Nodes.length <= 24) : z1o K n K [] 0 = some (runS chkN n.Nodes []) := by
 have hm := F.many
 exact z6e n.Nodes (fun k s i => z1o K n k s i) chkN (fun s i => s.length <= i)
  (fun k s i x hx hI => by
   obtain ⟨h1, h2⟩ := F.nodes x (z4o hx)
   have hi := z6g hx
   show z1o K n (k + 1) s i = _
   rw [z1o, z33 hi]
   simp only [if_true, z1v hx, Option.bind_some, zec hm s x h1 h2 (by omega), kw1 hi (by omega), chkN]
   by_cases h : ((addS s x).1 != 0) = true <;> simp [h])
  (fun s i x s' hx hI hc => by
   have := z9p s x
   unfold chkN at hc
   split at hc
   ·cases hc
   ·cases hc; omega)
  (fun k s i hi => by
   show z1o K n (k + 1) s i = _
   rw [z1o, z1w hi]; simp) K [] (by omega) (by simp)
theorem zje (F : Fits K n) (hb : bigS n = false) (m : List zAd) (hmm : m.length <= 24) : z1p K (z6u n) n K m 0 = some (runS (chkI n) (z6u n) m) := by
 have hb' : n.Nodes.length <= 24 /\ n.Switches.length <= 32 /\ n.Branches.length <= 24 /\ n.Gens.length <= 10 /\ n.Loads.length <= 12 /\ n.Stores.length <= 4 := by
  unfold bigS at hb; simp at hb; omega
 obtain ⟨a1, a2, a3, a4, a5, a6⟩ := hb'
 have hl : (z6u n).length <= 82 := by unfold z6u; simp; omega
 have hm := F.many
 exact z6e (z6u n) (fun k s i => z1p K (z6u n) n k s i) (chkI n) (fun s i => s.length <= 24 + i)
  (fun k s i x hx hI => by
   obtain ⟨⟨h1, h2⟩, h3, h4⟩ := okI F x (z4o hx)
   have hi := z6g hx
   show z1p K (z6u n) n (k + 1) s i = _
   rw [z1p, z33 hi]
   simp only [if_true, z1v hx, Option.bind_some, zec hm s x.name h1 h2 (by omega), kw1 hi (by omega), chkI, devS, ziq, zh8 x (show n.Nodes.length <= 1048576 by omega) (show n.Nodes.length < K by omega) (show x.nodes.length < K by omega) (by omega)]
   by_cases hA : ((addS s x.name).1 != 0) = true
   ·simp [hA]
   ·by_cases hE : x.nodes.all (hasS n.Nodes) = true
    ·by_cases hp : x.apart = true
     ·have h5 := h4 hp
      match hnd : x.nodes, h5 with
      | [a, b], _ =>
       rw [hnd] at hE
       by_cases hs : sEq a b = true <;> by_cases hB : x.bad = true <;> simp [hA, hE, hp, hs, hB, hnd, apS, z5s, tu0, tu1, idx]
     ·by_cases hB : x.bad = true <;> simp [hA, hE, hp, hB, apS, z5s, tu0, tu1]
    ·simp [hA, hE, z5s, tu1, tu0])
  (fun s i x s' hx hI hc => by
   have h3 := z6v n s x.name x.nodes
   unfold chkI at hc
   split at hc
   ·cases hc
   ·split at hc
    ·cases hc
    ·split at hc
     ·cases hc
     ·cases hc; omega)
  (fun k s i hi => by
   show z1p K (z6u n) n (k + 1) s i = _
   rw [z1p, z1w hi]; simp) K m (by omega) hmm
theorem zee (F : Fits K n) : z3v K n = some (netS n) := by
 unfold z3v netS
 have hz : (if (decide ((List.length n.Nodes : Int) > 24)) = true then some true else (if (decide ((List.length n.Switches : Int) > 32)) = true then some true else (if (decide ((List.length n.Branches : Int) > 24)) = true then some true else (if (decide ((List.length n.Gens : Int) > 10)) = true then some true else (if (decide ((List.length n.Loads : Int) > 12)) = true then some true else some (decide ((List.length n.Stores : Int) > 4))))))) = some (bigS n) := by
  unfold bigS
  by_cases a1 : (n.Nodes.length : Int) > 24 <;> by_cases a2 : (n.Switches.length : Int) > 32 <;> by_cases a3 : (n.Branches.length : Int) > 24 <;> by_cases a4 : (n.Gens.length : Int) > 10 <;> by_cases a5 : (n.Loads.length : Int) > 12 <;> by_cases a6 : (n.Stores.length : Int) > 4 <;> simp [a1, a2, a3, a4, a5, a6] <;> omega
 rw [hz]
 simp only [Option.bind_some, tu1]
 cases hb : bigS n with
 | true => simp
 | false =>
 have hb' : n.Nodes.length <= 24 := by unfold bigS at hb; simp at hb; omega
 simp only [zjd F hb', Bool.false_eq_true, if_false, z5s, Option.bind_some]
 cases r0 : runS chkN n.Nodes [] with
 | inl e => simp
 | inr m =>
  have b0 := zb4 n n.Nodes [] m r0
  simp only [zfy hb F.many, Option.bind_some, zje F hb m (by simp at b0; omega), Sum.elim_inr]
  cases runS (chkI n) (z6u n) m <;> simp
end Go.Am.Tryd
/- Numbers: digits in a base, the least one first; decimal texts. Plain, no program. -/
namespace Go.Am
open Go
def DigB (B : Int) (l : List Int) : Prop := ∀ d ∈ l, 0 <= d /\ d < B
theorem DigB.nil (B : Int) : DigB B [] := fun d h => by simp at h
theorem DigB.cons {B d : Int} {l : List Int} (h : DigB B (d :: l)) : (0 <= d /\ d < B) /\ DigB B l := ⟨h d (by simp), fun x hx => h x (by simp [hx])⟩
def CanB (B : Int) (l : List Int) : Prop := DigB B l /\ l.getLast? ≠ some 0
theorem CanB.tail {B d : Int} {l : List Int} (h : CanB B (d :: l)) : CanB B l := by
 refine ⟨h.1.cons.2, fun e => h.2 ?_⟩
 cases l with
 | nil => simp at e
 | cons x l => rw [List.getLast?_cons_cons]; exact e
theorem z5n (a b : zAd) : z1l (a ++ b) = z1l a ++ z1l b := by
 unfold z1l
 rw [ByteArray.data_append, Array.toList_append, List.map_append]
end Go.Am
/- Graphs: connected parts, their numbers, closure of a matrix, ways. Plain, no program. -/
namespace Go.Am
open Go
def Edg (l : List (Int × Int)) (U : Nat -> Bool) (a b : Nat) : Prop := ∃ k, k < l.length /\ U k = true /\ (l.getD k (0, 0) = ((a : Int), (b : Int)) \/ l.getD k (0, 0) = ((b : Int), (a : Int)))
inductive Con (l : List (Int × Int)) (U : Nat -> Bool) : Nat -> Nat -> Prop
 | refl (a : Nat) : Con l U a a
 | tail {a b c : Nat} : Con l U a b -> Edg l U b c -> Con l U a c
structure Outer (l : List (Int × Int)) (U : Nat -> Bool) (n : Nat) (cs : List Int) (m s : Nat) : Prop where
 len : cs.length = n
 rng : ∀ i < n, -1 <= cs.getD i 0 /\ cs.getD i 0 < m
 done : ∀ i < s, i < n -> 0 <= cs.getD i 0
 cls : ∀ i j, i < n -> j < n -> 0 <= cs.getD i 0 -> (cs.getD i 0 = cs.getD j 0 ↔ Con l U i j)
 last : 0 < m -> ∃ j < s, j < n /\ cs.getD j 0 = (m : Int) - 1
 rgs : ∀ i < n, 0 < cs.getD i 0 -> ∃ j < i, cs.getD j 0 = cs.getD i 0 - 1
 few : m <= s
structure Mid (l : List (Int × Int)) (U : Nat -> Bool) (n : Nat) (base : List Int) (m s : Nat) (cs : List Int) : Prop where
 len : cs.length = n
 own : ∀ i < n, (cs.getD i 0 = m /\ base.getD i 0 = -1 /\ Con l U s i) \/ cs.getD i 0 = base.getD i 0
 start : cs.getD s 0 = m
theorem Edg.symm {l : List (Int × Int)} {U : Nat -> Bool} {a b : Nat} (h : Edg l U a b) : Edg l U b a := by
 obtain ⟨k, h1, h2, h3⟩ := h
 exact ⟨k, h1, h2, h3.symm⟩
theorem Con.trans {l : List (Int × Int)} {U : Nat -> Bool} {a b c : Nat} (h : Con l U a b) (k : Con l U b c) : Con l U a c := by
 induction k with
 | refl => exact h
 | tail _ e ih => exact .tail ih e
theorem Con.symm {l : List (Int × Int)} {U : Nat -> Bool} {a b : Nat} (h : Con l U a b) : Con l U b a := by
 induction h with
 | refl => exact .refl _
 | tail _ e ih => exact (Con.tail (.refl _) e.symm).trans ih
structure EqvOn (M : Nat -> Nat -> Bool) (n : Nat) : Prop where
 refl : ∀ a < n, M a a = true
 symm : ∀ a b, a < n -> b < n -> M a b = true -> M b a = true
 trans : ∀ a b c, a < n -> b < n -> c < n -> M a b = true -> M b c = true -> M a c = true
structure NumOk (M : Nat -> Nat -> Bool) (cs : List Int) (m i : Nat) : Prop where
 len : cs.length = i
 rng : ∀ a < i, 0 <= cs.getD a 0 /\ cs.getD a 0 < m
 cls : ∀ a b, a < i -> b < i -> (cs.getD a 0 = cs.getD b 0 ↔ M a b = true)
 last : 0 < m -> ∃ a < i, cs.getD a 0 = (m : Int) - 1
 rgs : ∀ a < i, 0 < cs.getD a 0 -> ∃ b < a, cs.getD b 0 = cs.getD a 0 - 1
 few : m <= i
structure WOk (l : List (Int × Int)) (U : Nat -> Bool) (n : Nat) (M : Nat -> Nat -> Bool) (m : Nat) : Prop where
 sound : ∀ a b, a < n -> b < n -> M a b = true -> Con l U a b
 refl : ∀ a < n, M a a = true
 edge : ∀ a b, a < n -> b < n -> Edg l U a b -> M a b = true
 tr : ∀ c < m, ∀ a b, a < n -> b < n -> M a c = true -> M c b = true -> M a b = true
def Wk (l : List (Int × Int)) (U : Nat -> Bool) (to9 : Nat) : Nat -> Nat -> Prop
 | 0, v => v = to9
 | k + 1, v => ∃ w, Edg l U v w /\ Wk l U to9 k w
structure FarOk (l : List (Int × Int)) (U : Nat -> Bool) (n to9 : Nat) (fs : List Int) (d : Nat) : Prop where
 len : fs.length = n
 rng : ∀ v < n, -1 <= fs.getD v 0
 fnd : ∀ v < n, ∀ k : Nat, fs.getD v 0 = k -> k <= d /\ Wk l U to9 k v /\ ∀ j < k, ¬ Wk l U to9 j v
 nof : ∀ v < n, fs.getD v 0 = -1 -> ∀ j ≤ d, ¬ Wk l U to9 j v
structure Rnd (l : List (Int × Int)) (U : Nat -> Bool) (n to9 : Nat) (fs gs : List Int) (d : Nat) : Prop where
 len : gs.length = n
 old : ∀ v < n, gs.getD v 0 = fs.getD v 0 \/ (fs.getD v 0 = -1 /\ gs.getD v 0 = (d : Int) + 1 /\ Wk l U to9 (d + 1) v)
def neg (n : Nat) (fs : List Int) : Nat := ((List.range n).filter fun v => fs.getD v 0 == -1).length
def two (p : Int × Int) : List Int := [p.1, p.2]
theorem w12 : z0p .i64 (1 + 1) = 2 := by rw [kw (by omega) (by omega)]; rfl
end Go.Am
/- Plain lemmas: rules for typed functions over whole numbers; digits set in place; the guess of a digit of a quotient. -/
namespace Go.Am
open Go
theorem DigB.set {B d : Int} {l : List Int} (h : DigB B l) (p : Nat) (hd : 0 <= d /\ d < B) : DigB B (l.set p d) := fun x hx => by
 rcases List.mem_or_eq_of_mem_set hx with h1 | h1
 ·exact h x h1
 ·subst h1; exact hd
theorem DigB.take {B : Int} {l : List Int} (h : DigB B l) (k : Nat) : DigB B (l.take k) := fun x hx => h x (List.mem_of_mem_take hx)
theorem DigB.drop {B : Int} {l : List Int} (h : DigB B l) (k : Nat) : DigB B (l.drop k) := fun x hx => h x (List.mem_of_mem_drop hx)
theorem zih {a b c : Int} (hc : 0 <= c) (h : a <= b) : c * a <= c * b := Int.mul_le_mul_of_nonneg_left h hc
theorem zhe {a b : Int} (ha : 0 <= a) (hb : 0 <= b) : 0 <= a * b := Int.mul_nonneg ha hb
structure Kn (B P v1 v2 vl top u3 ul q : Int) : Prop where
 B1 : 1 < B
 P0 : 0 < P
 v1p : 1 <= v1
 v2p : 0 <= v2
 v2b : v2 < B
 vlp : 0 <= vl
 vlb : vl < P
 tp : 0 <= top
 u3p : 0 <= u3
 u3b : u3 < B
 ulp : 0 <= ul
 ulb : ul < P
 q0 : 0 <= q
 qB : q < B
 lo : q * (P * (B * v1 + v2) + vl) <= P * (B * top + u3) + ul
 hi : P * (B * top + u3) + ul < (q + 1) * (P * (B * v1 + v2) + vl)
section
variable {B P v1 v2 vl top u3 ul q g r : Int}
theorem Kn.first (h : Kn B P v1 v2 vl top u3 ul q) : q <= top / v1 := by
 obtain ⟨B1, P0, v1p, v2p, v2b, vlp, vlb, tp, u3p, u3b, ulp, ulb, q0, qB, lo, hi⟩ := h
 rw [Int.le_ediv_iff_mul_le (by omega)]
 refine Int.le_of_lt_add_one (Int.not_le.1 fun hc => ?_)
 have a1 := zih (Int.le_of_lt (Int.mul_pos P0 (show 0 < B by omega))) hc
 have a2 := zhe (Int.le_of_lt P0) (zhe q0 v2p)
 have a3 := zhe q0 vlp
 have a4 := zih (Int.le_of_lt P0) (show u3 <= B - 1 by omega)
 grind
end
end Go.Am
/- Plain law: texts of whole numbers, and the reference's lines of a network. -/
namespace Go.Am.Tryd
open Go Go.Am Go.Proofs
variable {K : Nat} {n : Network}
def numC (c : Int) : Bool := (decide (48 <= c) && decide (c <= 57)) || decide (c = 45)
theorem dig1 (r : Int) (h : 0 <= r) (h9 : r <= 9) : ∃ t, ssl (⟨#[48, 49, 50, 51, 52, 53, 54, 55, 56, 57]⟩ : zAd) r (z0p .i64 (r + 1)) = some t /\ t.size = 1 /\ (z1l t).all numC = true := by
 have : r = 0 \/ r = 1 \/ r = 2 \/ r = 3 \/ r = 4 \/ r = 5 \/ r = 6 \/ r = 7 \/ r = 8 \/ r = 9 := by omega
 rcases this with rfl | rfl | rfl | rfl | rfl | rfl | rfl | rfl | rfl | rfl <;> exact ⟨_, rfl, rfl, by decide⟩
theorem zjv (K : Nat) : ∀ (d k : Nat) (m : Int) (s : zAd), 0 <= m -> m < 10 ^ d -> d + 2 < k -> d <= 19 -> (z1l s).all numC = true -> s.size + d <= 30 ->
  ∃ t, z1a K k m s = some t /\ (z1l t).all numC = true /\ 0 < t.size /\ t.size <= s.size + d + 1 := by
 have hend : ∀ (k : Nat) (s : zAd), 2 <= k -> (z1l s).all numC = true -> s.size <= 30 -> ∃ t, z1a K k 0 s = some t /\ (z1l t).all numC = true /\ 0 < t.size /\ t.size <= s.size + 1 := by
  intro k s hk ha hs
  obtain ⟨k, rfl⟩ : ∃ j, k = j + 2 := ⟨k - 2, by omega⟩
  have hout : ∀ (k : Nat) (s : zAd), s.size ≠ 0 -> z1a K (k + 1) 0 s = some s := fun k s he => by
   have hq : sEq s ⟨#[]⟩ = false := by
    cases h : sEq s ⟨#[]⟩ with
    | false => rfl
    | true => rw [z5y] at h; subst h; exact absurd rfl he
   rw [z1a]
   simp [hq, tu1]
  by_cases he : s.size = 0
  ·have hse : s = ⟨#[]⟩ := by
    cases s; rename_i a
    have : a.size = 0 := he
    rw [Array.eq_empty_of_size_eq_zero this]
   subst hse
   obtain ⟨t, t1, t2, t3⟩ := dig1 0 (by decide) (by decide)
   have hts : (t ++ (⟨#[]⟩ : zAd)).size = 1 := by rw [ByteArray.size_append, t2]; rfl
   refine ⟨t ++ ⟨#[]⟩, ?_, by rw [z5n, List.all_append, t3]; rfl, by omega, by omega⟩
   rw [z1a]
   have hq : sEq (⟨#[]⟩ : zAd) ⟨#[]⟩ = true := z5y.2 rfl
   have e1 : Int.tmod 0 10 = 0 := rfl
   have e2 : Int.tdiv 0 10 = 0 := rfl
   have e3 : decide ((0 : Int) > 0) = false := rfl
   simp only [e3, Bool.false_eq_true, if_false, hq, Option.bind_some, tu1, if_true, e1, e2, t1]
   rw [if_pos (by rw [t2]; decide), kw (by omega) (by omega), hout k _ (by omega)]
  ·exact ⟨s, hout (k + 1) s he, ha, by omega, by omega⟩
 intro d
 induction d with
 | zero =>
  intro k m s h0 h1 hk _ ha hs
  obtain rfl : m = 0 := by simp at h1; omega
  exact hend k s (by omega) ha (by omega)
 | succ d ih =>
  intro k m s h0 h1 hk hd ha hs
  by_cases hm : m = 0
  ·subst hm
   obtain ⟨t, a, b, c, e⟩ := hend k s (by omega) ha (by omega)
   exact ⟨t, a, b, c, by omega⟩
  ·obtain ⟨k, rfl⟩ : ∃ j, k = j + 1 := ⟨k - 1, by omega⟩
   have e1 : Int.tmod m 10 = m % 10 := Int.tmod_eq_emod_of_nonneg h0
   have e2 : Int.tdiv m 10 = m / 10 := Int.tdiv_eq_ediv_of_nonneg h0
   obtain ⟨t, t1, t2, t3⟩ := dig1 (m % 10) (by omega) (by omega)
   have hp : (10 : Int) ^ (d + 1) = 10 ^ d * 10 := Int.pow_succ 10 d
   have hp19 : (10 : Int) ^ d <= 10 ^ 18 := by have := Nat.pow_le_pow_right (n := 10) (by decide) (show d <= 18 by omega); exact_mod_cast this
   have hts : (t ++ s).size = 1 + s.size := by rw [ByteArray.size_append, t2]
   obtain ⟨u, u1, u2, u3, u4⟩ := ih k (m / 10) (t ++ s) (by omega) (by omega) (by omega) (by omega) (by rw [z5n, List.all_append, t3, ha]; rfl) (by omega)
   refine ⟨u, ?_, u2, u3, by omega⟩
   rw [z1a]
   have hmp : decide (m > 0) = true := by simp; omega
   simp only [hmp, if_true, Option.bind_some, tu1, e1, e2, t1]
   rw [if_pos (by omega), kw (by omega) (by omega), u1]
theorem zjf {x : Int} (hx : z38 .i64 x = true) (hK : 100 < K) : ∃ t, z66 K x = some t /\ (z1l t).all numC = true /\ 0 < t.size /\ t.size <= 21 := by
 have hx : -9223372036854775808 <= x /\ x <= 9223372036854775807 := by simpa [z38] using hx
 have hpos : ∀ (m : Int) (D : Nat), 0 <= m -> m <= 9223372036854775807 -> ∃ t, z1y K (D + 1) m = some t /\ (z1l t).all numC = true /\ 0 < t.size /\ t.size <= 20 := fun m D h0 h1 => by
  obtain ⟨t, a, b, c, e⟩ := zjv K 19 K m ⟨#[]⟩ h0 (by omega) (by omega) (by decide) rfl (by decide)
  refine ⟨t, ?_, b, c, by have : (⟨#[]⟩ : zAd).size = 0 := rfl; omega⟩
  rw [z1y]
  have : decide (m >= 0) = true := by simp; omega
  simp only [this, if_true, a, Option.bind_some, tu1]
 obtain ⟨D, hD⟩ : ∃ D, K = D + 1 + 1 := ⟨K - 2, by omega⟩
 have hfin : ∀ {t : zAd}, z1y K (D + 1 + 1) x = some t -> z66 K x = some t := fun {t} h => by
  unfold z66
  have e : z1y K K x = z1y K (D + 1 + 1) x := by
   have : ∀ J, J = D + 1 + 1 -> z1y K J x = z1y K (D + 1 + 1) x := fun J h => by rw [h]
   exact this K hD
  rw [e, h]; rfl
 by_cases h0 : 0 <= x
 ·obtain ⟨t, a, b, c, e⟩ := hpos x (D + 1) h0 hx.2
  exact ⟨t, hfin a, b, c, by omega⟩
 ·have hn : decide (x >= 0) = false := by simp; omega
  by_cases hm : x = -9223372036854775808
  ·subst hm
   refine ⟨⟨#[45, 57, 50, 50, 51, 51, 55, 50, 48, 51, 54, 56, 53, 52, 55, 55, 53, 56, 48, 56]⟩, hfin ?_, by decide, by decide, by decide⟩
   rw [z1y]; rfl
  ·obtain ⟨t, a, b, c, e⟩ := hpos (-x) D (by omega) (by omega)
   refine ⟨⟨#[45]⟩ ++ t, hfin ?_, by rw [z5n, List.all_append, b]; rfl, by rw [ByteArray.size_append]; omega, by rw [ByteArray.size_append]; have : (⟨#[45]⟩ : zAd).size = 1 := rfl; omega⟩
   rw [z1y]
   have hb : (x == -9223372036854775808) = false := by simp; exact hm
   have h1 : (⟨#[45]⟩ : zAd).size = 1 := rfl
   simp only [hn, hb, Bool.false_eq_true, if_false, kw (show -9223372036854775808 <= -x by omega) (by omega), a, Option.bind_some]
   rw [if_pos (by omega)]
end Go.Am.Tryd
/- Plain law: the reference's lines of a network, as a list of texts for each device. -/
namespace Go.Am.Tryd
open Go Go.Am Go.Proofs
variable {K : Nat} {n : Network}
def decS (K : Nat) (x : Int) : zAd := (z66 K x).getD ⟨#[]⟩
def catW (s0 : zAd) (ws : List zAd) : zAd := ws.foldl (fun s w => s ++ (w ++ (⟨#[32]⟩ : zAd))) s0
def rowT (K : Nat) (l : List zAd) (v : List Int) : zAd := (catW (catW ⟨#[]⟩ l) (v.map (decS K))).extract 0 ((catW (catW ⟨#[]⟩ l) (v.map (decS K))).size - 1)
theorem z89 {α S : Type} (xs : List α) (l : Nat -> S -> Int -> Option S) (f : S -> α -> S) (I : S -> Nat -> Prop)
  (h : ∀ k s (i : Nat) x, xs[i]? = some x -> I s i -> l (k + 1) s i = l k (f s x) ((i + 1 : Nat) : Int) /\ I (f s x) (i + 1)) (h0 : ∀ k s, l (k + 1) s xs.length = some s) :
  ∀ d k s (i : Nat), xs.length - i = d -> i <= xs.length -> d < k -> I s i -> l k s i = some ((xs.drop i).foldl f s) /\ I ((xs.drop i).foldl f s) xs.length := by
 intro d
 induction d with
 | zero =>
  intro k s i hd hi hk hs
  obtain ⟨k, rfl⟩ : ∃ m, k = m + 1 := ⟨k - 1, by omega⟩
  obtain rfl : i = xs.length := by omega
  rw [h0, List.drop_length]; exact ⟨rfl, hs⟩
 | succ d ih =>
  intro k s i hd hi hk hs
  obtain ⟨k, rfl⟩ : ∃ m, k = m + 1 := ⟨k - 1, by omega⟩
  have hx : xs[i]? = some xs[i] := zAh (by omega)
  obtain ⟨h1, h2⟩ := h k s i _ hx hs
  rw [h1, List.drop_eq_getElem_cons (show i < xs.length by omega), List.foldl_cons]
  exact ih k _ (i + 1) (by omega) (by omega) (by omega) h2
theorem zjw {x : Int} (hx : z38 .i64 x = true) (hK : 100 < K) : z66 K x = some (decS K x) /\ (z1l (decS K x)).all numC = true /\ 0 < (decS K x).size /\ (decS K x).size <= 21 := by
 obtain ⟨t, a, b⟩ := zjf hx hK
 have : decS K x = t := by unfold decS; rw [a]; rfl
 rw [this]; exact ⟨a, b⟩
theorem sp1 : (⟨#[32]⟩ : zAd).size = 1 := rfl
theorem zfz (hK : 100 < K) (l : List zAd) (v : List Int) (acc : List zAd) (hl : l.length <= 10) (hls : ∀ w ∈ l, w.size <= 1048576) (hv : v.length <= 10) (hvs : ∀ x ∈ v, z38 .i64 x = true) (hne : l ≠ []) (ha : acc.length <= 200) :
  z2k K l v acc = some (acc ++ [rowT K l v]) := by
 obtain ⟨a1, a2⟩ := z89 l (fun k s i => z1d K l k s i) (fun s w => s ++ (w ++ (⟨#[32]⟩ : zAd))) (fun s i => i <= s.size /\ s.size <= i * 1048577) (fun k s i x hx ⟨h1, h2⟩ => by
  have hi := z6g hx
  have hz := hls x (z4o hx)
  have hz1 : (x ++ (⟨#[32]⟩ : zAd)).size = x.size + 1 := by rw [ByteArray.size_append, sp1]
  have hm : i * 1048577 <= 10 * 1048577 := Nat.mul_le_mul_right _ (by omega)
  refine ⟨?_, by rw [ByteArray.size_append, hz1]; omega, by rw [ByteArray.size_append, hz1, Nat.add_mul]; omega⟩
  show z1d K l (k + 1) s i = _
  rw [z1d, z33 hi]
  simp only [if_true, z1v hx, Option.bind_some]
  rw [if_pos (by rw [sp1]; omega), if_pos (by rw [hz1]; omega), kw1 hi (by omega)]) (fun k s => by
  show z1d K l (k + 1) s l.length = _
  rw [z1d, z1w (Nat.le_refl _)]; simp) l.length K ⟨#[]⟩ 0 (by omega) (by omega) (by omega) ⟨Nat.zero_le _, by decide⟩
 rw [List.drop_zero] at a1 a2
 have hl0 : 0 < l.length := List.length_pos_iff.2 hne
 have a3 : l.length <= (catW ⟨#[]⟩ l).size /\ (catW ⟨#[]⟩ l).size <= l.length * 1048577 := a2
 have hm : l.length * 1048577 <= 10 * 1048577 := Nat.mul_le_mul_right _ hl
 obtain ⟨b1, b2⟩ := z89 v (fun k s i => z1e K v k s i) (fun s x => s ++ (decS K x ++ (⟨#[32]⟩ : zAd))) (fun s i => 0 < s.size /\ s.size <= 10485770 + i * 30) (fun k s i x hx ⟨h1, h2⟩ => by
  have hi := z6g hx
  obtain ⟨d1, _, _, d2⟩ := zjw (hvs x (z4o hx)) hK
  have hz1 : (decS K x ++ (⟨#[32]⟩ : zAd)).size = (decS K x).size + 1 := by rw [ByteArray.size_append, sp1]
  refine ⟨?_, by rw [ByteArray.size_append]; omega, by rw [ByteArray.size_append, hz1, Nat.add_mul]; omega⟩
  show z1e K v (k + 1) s i = _
  rw [z1e, z33 hi]
  simp only [if_true, z1v hx, Option.bind_some, d1]
  rw [if_pos (by rw [sp1]; omega), if_pos (by rw [hz1]; omega), kw1 hi (by omega)]) (fun k s => by
  show z1e K v (k + 1) s v.length = _
  rw [z1e, z1w (Nat.le_refl _)]; simp) v.length K (catW ⟨#[]⟩ l) 0 (by omega) (by omega) (by omega) ⟨by omega, by omega⟩
 rw [List.drop_zero] at b1 b2
 have hcat : List.foldl (fun s x => s ++ (decS K x ++ (⟨#[32]⟩ : zAd))) (catW ⟨#[]⟩ l) v = catW (catW ⟨#[]⟩ l) (v.map (decS K)) := by
  unfold catW; rw [List.foldl_map]
 unfold z2k
 have a1' : z1d K l K ⟨#[]⟩ 0 = some (catW ⟨#[]⟩ l) := a1
 have b1' : z1e K v K (catW ⟨#[]⟩ l) 0 = some (catW (catW ⟨#[]⟩ l) (v.map (decS K))) := b1.trans (congrArg some hcat)
 have b2' : 0 < (catW (catW ⟨#[]⟩ l) (v.map (decS K))).size /\ (catW (catW ⟨#[]⟩ l) (v.map (decS K))).size <= 10485770 + v.length * 30 := by rw [<- hcat]; exact b2
 rw [a1', Option.bind_some, tu1, b1', Option.bind_some, tu1]
 have hss : ssl (catW (catW ⟨#[]⟩ l) (v.map (decS K))) 0 (z0p .i64 (((catW (catW ⟨#[]⟩ l) (v.map (decS K))).size : Int) - 1)) = some (rowT K l v) := by
  rw [kw (by omega) (by omega)]
  unfold ssl rowT
  rw [if_pos (by omega)]
  congr 2
  omega
 rw [hss, Option.bind_some, if_pos (by simp; omega)]
def nodL (s : zAd) : zAd := (⟨#[110, 111, 100, 101, 32]⟩ : zAd) ++ s
def swL (x : Switch) : zAd := ((if x.Breaker then (⟨#[98, 114, 101, 97, 107, 101, 114, 32]⟩ : zAd) else ⟨#[115, 119, 105, 116, 99, 104, 32]⟩) ++ ((((x.Name ++ (⟨#[32]⟩ : zAd)) ++ x.A) ++ (⟨#[32]⟩ : zAd)) ++ x.B)) ++ (if x.Open then (⟨#[32, 111, 112, 101, 110]⟩ : zAd) else ⟨#[32, 99, 108, 111, 115, 101, 100]⟩)
def brL (K : Nat) (x : Branch) : zAd := rowT K [⟨#[98, 114, 97, 110, 99, 104]⟩, x.Name, x.From, x.To] [x.X, x.Tap, x.Shift, x.Limit, x.Short, x.Hold]
def geL (K : Nat) (x : Gen) : zAd := rowT K [⟨#[103, 101, 110]⟩, x.Name, x.Node] [x.Least, x.Most, x.Ramp]
def loL (K : Nat) (x : Load_) : zAd := rowT K [⟨#[108, 111, 97, 100]⟩, x.Name, x.Node] [x.Demand]
def stL (K : Nat) (x : Store) : zAd := rowT K [⟨#[115, 116, 111, 114, 101]⟩, x.Name, x.Node] [x.Charge, x.Discharge, x.Capacity]
def z2f (K : Nat) (n : Network) : List zAd := n.Nodes.map nodL ++ n.Switches.map swL ++ n.Branches.map (brL K) ++ n.Gens.map (geL K) ++ n.Loads.map (loL K) ++ n.Stores.map (stL K)
def szB (s : zAd) : Prop := s.size <= 1048576
structure LOk (n : Network) : Prop where
 len : n.Nodes.length <= 24 /\ n.Switches.length <= 32 /\ n.Branches.length <= 24 /\ n.Gens.length <= 10 /\ n.Loads.length <= 12 /\ n.Stores.length <= 4
 nod : ∀ s ∈ n.Nodes, szB s
 sw : ∀ x ∈ n.Switches, szB x.Name /\ szB x.A /\ szB x.B
 br : ∀ x ∈ n.Branches, (szB x.Name /\ szB x.From /\ szB x.To) /\ ∀ y ∈ [x.X, x.Tap, x.Shift, x.Limit, x.Short, x.Hold], z38 .i64 y = true
 ge : ∀ x ∈ n.Gens, (szB x.Name /\ szB x.Node) /\ ∀ y ∈ [x.Least, x.Most, x.Ramp], z38 .i64 y = true
 lo : ∀ x ∈ n.Loads, (szB x.Name /\ szB x.Node) /\ ∀ y ∈ [x.Demand], z38 .i64 y = true
 st : ∀ x ∈ n.Stores, (szB x.Name /\ szB x.Node) /\ ∀ y ∈ [x.Charge, x.Discharge, x.Capacity], z38 .i64 y = true
theorem szN5 : (⟨#[110, 111, 100, 101, 32]⟩ : zAd).size = 5 := rfl
theorem zii (x : Switch) (h : szB x.Name /\ szB x.A /\ szB x.B) (F : zAd -> Option (List zAd)) :
  (if (x.Name).size + ((⟨#[32]⟩ : zAd)).size <= 4611686018427387904 then (if ((x.Name ++ (⟨#[32]⟩ : zAd))).size + (x.A).size <= 4611686018427387904 then (if (((x.Name ++ (⟨#[32]⟩ : zAd)) ++ x.A)).size + ((⟨#[32]⟩ : zAd)).size <= 4611686018427387904 then (lt (((x.Name ++ (⟨#[32]⟩ : zAd)) ++ x.A) ++ (⟨#[32]⟩ : zAd)) fun x109 => (if (x109).size + (x.B).size <= 4611686018427387904 then (Option.bind ((if x.Breaker = true then (if ((⟨#[98, 114, 101, 97, 107, 101, 114, 32]⟩ : zAd)).size + ((x109 ++ x.B)).size <= 4611686018427387904 then (lt ((⟨#[98, 114, 101, 97, 107, 101, 114, 32]⟩ : zAd) ++ (x109 ++ x.B)) fun x121 => some x121) else none) else (if ((⟨#[115, 119, 105, 116, 99, 104, 32]⟩ : zAd)).size + ((x109 ++ x.B)).size <= 4611686018427387904 then (lt ((⟨#[115, 119, 105, 116, 99, 104, 32]⟩ : zAd) ++ (x109 ++ x.B)) fun x127 => some x127) else none))) (tu1 fun x130 => (Option.bind ((if x.Open = true then (if (x130).size + ((⟨#[32, 111, 112, 101, 110]⟩ : zAd)).size <= 4611686018427387904 then some (x130 ++ (⟨#[32, 111, 112, 101, 110]⟩ : zAd)) else none) else (if (x130).size + ((⟨#[32, 99, 108, 111, 115, 101, 100]⟩ : zAd)).size <= 4611686018427387904 then some (x130 ++ (⟨#[32, 99, 108, 111, 115, 101, 100]⟩ : zAd)) else none))) (tu1 F)))) else none)) else none) else none) else none) = F (swL x) := by
 obtain ⟨h1, h2, h3⟩ := h
 unfold szB at h1 h2 h3
 have z1 : (⟨#[98, 114, 101, 97, 107, 101, 114, 32]⟩ : zAd).size = 8 := rfl
 have z2 : (⟨#[115, 119, 105, 116, 99, 104, 32]⟩ : zAd).size = 7 := rfl
 have z3 : (⟨#[32, 111, 112, 101, 110]⟩ : zAd).size = 5 := rfl
 have z4 : (⟨#[32, 99, 108, 111, 115, 101, 100]⟩ : zAd).size = 7 := rfl
 unfold swL
 rw [if_pos (by rw [sp1]; omega), if_pos (by rw [ByteArray.size_append, sp1]; omega), if_pos (by rw [ByteArray.size_append, ByteArray.size_append, sp1]; omega)]
 show (if _ then _ else _) = _
 rw [if_pos (by rw [ByteArray.size_append, ByteArray.size_append, ByteArray.size_append, sp1]; omega)]
 cases x.Breaker <;> cases x.Open <;> simp only [Bool.false_eq_true, if_false, if_true] <;>
  (rw [if_pos (by simp only [ByteArray.size_append, sp1, z1, z2]; omega)]; show Option.bind (if _ then _ else _) _ = _; rw [if_pos (by simp only [ByteArray.size_append, sp1, z1, z2, z3, z4]; omega)]; rfl)
theorem zbr (h : LOk n) (hK : 200 < K) : z3w K n = some (z2f K n) := by
 obtain ⟨a1, a2, a3, a4, a5, a6⟩ := h.len
 have t0 : z1q K n K [] 0 = some ([] ++ n.Nodes.map nodL) := z2j n.Nodes (fun k acc i => z1q K n k acc i) nodL []
  (fun k acc' i x hx' hl => by
   have hi := z6g hx'
   have hz := h.nod x (z4o hx'); unfold szB at hz
   show z1q K n (k + 1) acc' i = _
   rw [z1q, z33 hi]
   simp only [if_true, z1v hx', Option.bind_some, kw1 hi (by omega), List.length_cons, List.length_nil] at hl ⊢
   rw [if_pos (by rw [szN5]; omega), if_pos (by omega)]; rfl)
  (fun k acc i hi => by
   show z1q K n (k + 1) acc i = _
   rw [z1q, z1w hi]; simp) K (by omega)
 have t2 : ∀ acc : List zAd, acc.length <= 100 -> z1r K n K acc 0 = some (acc ++ n.Switches.map swL) := fun acc ha => z2j n.Switches (fun k acc i => z1r K n k acc i) swL acc
  (fun k acc' i x hx' hl => by
   have hi := z6g hx'
   show z1r K n (k + 1) acc' i = _
   rw [z1r, z33 hi]
   simp only [if_true, z1v hx', Option.bind_some, kw1 hi (by omega)]
   refine (zii x (h.sw x (z4o hx')) _).trans ?_
   rw [if_pos (by simp; omega)])
  (fun k acc i hi => by
   show z1r K n (k + 1) acc i = _
   rw [z1r, z1w hi]; simp) K (by omega)
 have t4 : ∀ acc : List zAd, acc.length <= 100 -> z1s K n K acc 0 = some (acc ++ n.Branches.map (brL K)) := fun acc ha => z2j n.Branches (fun k acc i => z1s K n k acc i) (brL K) acc
  (fun k acc' i x hx' hl => by
   have hi := z6g hx'
   obtain ⟨⟨q1, q2, q3⟩, q4⟩ := h.br x (z4o hx')
   unfold szB at q1 q2 q3
   show z1s K n (k + 1) acc' i = _
   rw [z1s, z33 hi]
   simp only [if_true, z1v hx', Option.bind_some, kw1 hi (by omega)]
   rw [zfz (by omega) _ _ acc' (by simp) (by intro w hw; simp at hw; rcases hw with rfl | rfl | rfl | rfl <;> first | assumption | decide) (by simp) q4 (by simp) (by omega)]; rfl)
  (fun k acc i hi => by
   show z1s K n (k + 1) acc i = _
   rw [z1s, z1w hi]; simp) K (by omega)
 have t6 : ∀ acc : List zAd, acc.length <= 100 -> z1t K n K acc 0 = some (acc ++ n.Gens.map (geL K)) := fun acc ha => z2j n.Gens (fun k acc i => z1t K n k acc i) (geL K) acc
  (fun k acc' i x hx' hl => by
   have hi := z6g hx'
   obtain ⟨⟨q1, q2⟩, q4⟩ := h.ge x (z4o hx')
   unfold szB at q1 q2
   show z1t K n (k + 1) acc' i = _
   rw [z1t, z33 hi]
   simp only [if_true, z1v hx', Option.bind_some, kw1 hi (by omega)]
   rw [zfz (by omega) _ _ acc' (by simp) (by intro w hw; simp at hw; rcases hw with rfl | rfl | rfl <;> first | assumption | decide) (by simp) q4 (by simp) (by omega)]; rfl)
  (fun k acc i hi => by
   show z1t K n (k + 1) acc i = _
   rw [z1t, z1w hi]; simp) K (by omega)
 have t8 : ∀ acc : List zAd, acc.length <= 100 -> z1u K n K acc 0 = some (acc ++ n.Loads.map (loL K)) := fun acc ha => z2j n.Loads (fun k acc i => z1u K n k acc i) (loL K) acc
  (fun k acc' i x hx' hl => by
   have hi := z6g hx'
   obtain ⟨⟨q1, q2⟩, q4⟩ := h.lo x (z4o hx')
   unfold szB at q1 q2
   show z1u K n (k + 1) acc' i = _
   rw [z1u, z33 hi]
   simp only [if_true, z1v hx', Option.bind_some, kw1 hi (by omega)]
   rw [zfz (by omega) _ _ acc' (by simp) (by intro w hw; simp at hw; rcases hw with rfl | rfl | rfl <;> first | assumption | decide) (by simp) q4 (by simp) (by omega)]; rfl)
  (fun k acc i hi => by
   show z1u K n (k + 1) acc i = _
   rw [z1u, z1w hi]; simp) K (by omega)
 have t10 : ∀ acc : List zAd, acc.length <= 110 -> z1j K n K acc 0 = some (acc ++ n.Stores.map (stL K)) := fun acc ha => z2j n.Stores (fun k acc i => z1j K n k acc i) (stL K) acc
  (fun k acc' i x hx' hl => by
   have hi := z6g hx'
   obtain ⟨⟨q1, q2⟩, q4⟩ := h.st x (z4o hx')
   unfold szB at q1 q2
   show z1j K n (k + 1) acc' i = _
   rw [z1j, z33 hi]
   simp only [if_true, z1v hx', Option.bind_some, kw1 hi (by omega)]
   rw [zfz (by omega) _ _ acc' (by simp) (by intro w hw; simp at hw; rcases hw with rfl | rfl | rfl <;> first | assumption | decide) (by simp) q4 (by simp) (by omega)]; rfl)
  (fun k acc i hi => by
   show z1j K n (k + 1) acc i = _
   rw [z1j, z1w hi]; simp) K (by omega)
 unfold z3w z2f
 rw [t0, Option.bind_some, tu1, List.nil_append, t2 _ (by simp; omega), Option.bind_some, tu1, t4 _ (by simp; omega), Option.bind_some, tu1, t6 _ (by simp; omega), Option.bind_some, tu1, t8 _ (by simp; omega), Option.bind_some, tu1, t10 _ (by simp; omega), Option.bind_some, tu1]
end Go.Am.Tryd
/- Plain law: the program's lines of a network are the reference's. -/
namespace Go.Am.Tryd
open Go Go.Am Go.Proofs
variable {K : Nat} {n : Network}
theorem zb5 {a b : zAd} (h : a.data.toList = b.data.toList) : a = b := by cases a; cases b; simpa using h
theorem z9r (a b : zAd) : (a ++ b).data.toList = a.data.toList ++ b.data.toList := by rw [ByteArray.data_append, Array.toList_append]
theorem zhs (l : List UInt8) : (⟨l.toArray⟩ : zAd).data.toList = l := by simp
theorem zjg (a : zAd) : a.data.toList.length = a.size := by rw [Array.length_toList]; rfl
theorem digX (r : Nat) (h9 : r <= 9) : ssl (⟨#[48, 49, 50, 51, 52, 53, 54, 55, 56, 57]⟩ : zAd) r (z0p .i64 ((r : Int) + 1)) = some ⟨#[UInt8.ofNat (48 + r)]⟩ := by
 have : r = 0 \/ r = 1 \/ r = 2 \/ r = 3 \/ r = 4 \/ r = 5 \/ r = 6 \/ r = 7 \/ r = 8 \/ r = 9 := by omega
 rcases this with rfl | rfl | rfl | rfl | rfl | rfl | rfl | rfl | rfl | rfl <;> rfl
theorem zef (K k : Nat) (s : zAd) (he : s.size ≠ 0) : z1a K (k + 1) 0 s = some s := by
 have hq : sEq s ⟨#[]⟩ = false := by
  cases h : sEq s ⟨#[]⟩ with
  | false => rfl
  | true => rw [z5y] at h; subst h; exact absurd rfl he
 rw [z1a]
 simp [hq, tu1]
theorem z22 (u : Nat) : Lib.decDigits u = (if u < 10 then [] else Lib.decDigits (u / 10)) ++ [UInt8.ofNat (48 + u % 10)] := by
 rw [Lib.decDigits]
 by_cases h : u < 10
 ·rw [dif_pos h, if_pos h, Nat.mod_eq_of_lt h]; rfl
 ·rw [dif_neg h, if_neg h]
theorem zjx (K : Nat) : ∀ (d k m : Nat) (s : zAd), m < 10 ^ d -> (m = 0 -> s.size = 0) -> d + 2 < k -> d <= 19 -> s.size + d <= 30 ->
  z1a K k m s = some ⟨(Lib.decDigits m ++ s.data.toList).toArray⟩ := by
 intro d
 induction d with
 | zero =>
  intro k m s h1 hm hk _ hs
  obtain rfl : m = 0 := by simp at h1; omega
  obtain ⟨k, rfl⟩ : ∃ j, k = j + 2 := ⟨k - 2, by omega⟩
  have hse : s = ⟨#[]⟩ := by
   cases s; rename_i a
   have : a.size = 0 := hm rfl
   rw [Array.eq_empty_of_size_eq_zero this]
  subst hse
  have hq : sEq (⟨#[]⟩ : zAd) ⟨#[]⟩ = true := z5y.2 rfl
  have e1 : Int.tmod 0 10 = 0 := rfl
  have e2 : Int.tdiv 0 10 = 0 := rfl
  have e3 : decide ((0 : Int) > 0) = false := rfl
  have hd := digX 0 (by decide)
  rw [show ((0 : Nat) : Int) = 0 from rfl] at hd ⊢
  have hz : ((⟨#[48]⟩ : zAd) ++ (⟨#[]⟩ : zAd)).size = 1 := rfl
  rw [z1a]
  simp only [e3, Bool.false_eq_true, if_false, hq, Option.bind_some, tu1, if_true, e1, e2, hd]
  rw [if_pos (by decide), kw (by omega) (by omega), zef _ _ _ (by rw [show UInt8.ofNat (48 + 0) = 48 from rfl, hz]; decide)]
  rw [z22]; rfl
 | succ d ih =>
  intro k m s h1 hm hk hd hs
  by_cases h0 : m = 0
  ·exact ih k m s (by subst h0; exact Nat.pos_of_ne_zero (by simp)) hm (by omega) (by omega) (by omega)
  ·obtain ⟨k, rfl⟩ : ∃ j, k = j + 2 := ⟨k - 2, by omega⟩
   have e1 : Int.tmod (m : Int) 10 = ((m % 10 : Nat) : Int) := by rw [Int.tmod_eq_emod_of_nonneg (by omega)]; omega
   have e2 : Int.tdiv (m : Int) 10 = ((m / 10 : Nat) : Int) := by rw [Int.tdiv_eq_ediv_of_nonneg (by omega)]; omega
   have hp19 : 10 ^ (d + 1) <= 10 ^ 19 := Nat.pow_le_pow_right (n := 10) (by decide) (by omega)
   have hp : 10 ^ (d + 1) = 10 ^ d * 10 := Nat.pow_succ 10 d
   have hts : ((⟨#[UInt8.ofNat (48 + m % 10)]⟩ : zAd) ++ s).size = 1 + s.size := by rw [ByteArray.size_append]; rfl
   have hz1 : (⟨#[UInt8.ofNat (48 + m % 10)]⟩ : zAd).size = 1 := rfl
   rw [z1a]
   have hmp : decide ((m : Int) > 0) = true := by simp; omega
   simp only [hmp, if_true, Option.bind_some, tu1, e1, e2, digX (m % 10) (by omega)]
   rw [if_pos (by rw [hz1]; omega), kw (by omega) (by omega)]
   by_cases h10 : m < 10
   ·rw [show m / 10 = 0 by omega, show ((0 : Nat) : Int) = 0 from rfl, zef _ _ _ (by omega), z22, if_pos h10]
    exact congrArg some (zb5 (by rw [z9r, zhs]; rfl))
   ·rw [ih (k + 1) (m / 10) _ (by omega) (fun h => by omega) (by omega) (by omega) (by omega), z9r, z22 m, if_neg h10]
    congr 3
    simp
theorem zhf {x : Int} (hx : z38 .i64 x = true) (hK : 100 < K) : z66 K x = some ⟨(Lib.itoa x).toArray⟩ := by
 have hx : -9223372036854775808 <= x /\ x <= 9223372036854775807 := by simpa [z38] using hx
 have hpos : ∀ (m : Nat) (D : Nat), m <= 9223372036854775807 -> z1y K (D + 1) (m : Int) = some ⟨(Lib.decDigits m).toArray⟩ := fun m D h1 => by
  have := zjx K 19 K m ⟨#[]⟩ (by omega) (fun _ => rfl) (by omega) (by decide) (by decide)
  rw [z1y]
  have hge : decide ((m : Int) >= 0) = true := by simp
  simp only [hge, if_true, this, Option.bind_some, tu1]
  simp
 obtain ⟨D, hD⟩ : ∃ D, K = D + 1 + 1 := ⟨K - 2, by omega⟩
 have hfin : ∀ {t : zAd}, z1y K (D + 1 + 1) x = some t -> z66 K x = some t := fun {t} h => by
  unfold z66
  have e : z1y K K x = z1y K (D + 1 + 1) x := by rw [<- hD]
  rw [e, h]; rfl
 apply hfin
 by_cases h0 : 0 <= x
 ·obtain ⟨m, rfl⟩ : ∃ m : Nat, x = m := ⟨x.toNat, by omega⟩
  rw [hpos m _ (by omega), Lib.itoa_nonneg]
 ·rw [z1y]
  have hge : decide (x >= 0) = false := by simp; omega
  simp only [hge, Bool.false_eq_true, if_false]
  by_cases hmin : x = -9223372036854775808
  ·subst hmin
   rw [if_pos (by rfl)]
   congr 1
   refine zb5 ?_
   rw [zhs, show (-9223372036854775808 : Int) = -((9223372036854775808 : Nat) : Int) from rfl, Lib.itoa_neg _ (by decide)]
   simp only [z22 9223372036854775808, z22 922337203685477580, z22 92233720368547758, z22 9223372036854775, z22 922337203685477, z22 92233720368547, z22 9223372036854, z22 922337203685, z22 92233720368, z22 9223372036, z22 922337203, z22 92233720, z22 9223372, z22 922337, z22 92233, z22 9223, z22 922, z22 92, z22 9]
   rfl
  ·rw [if_neg (by simpa using hmin)]
   obtain ⟨m, rfl⟩ : ∃ m : Nat, x = -(m : Int) := ⟨(-x).toNat, by omega⟩
   rw [Int.neg_neg, kw (by omega) (by omega), hpos m _ (by omega), Option.bind_some]
   have hl := z9l (m : Int) (by omega)
   rw [Lib.itoa_nonneg] at hl
   have hsz : (⟨(Lib.decDigits m).toArray⟩ : zAd).size = (Lib.decDigits m).length := rfl
   rw [if_pos (by rw [hsz]; have : (⟨#[45]⟩ : zAd).size = 1 := rfl; omega), Lib.itoa_neg m (by omega)]
   exact congrArg some (zb5 (by rw [z9r, zhs, zhs]; rfl))
theorem zg0 {x : Int} (hx : z38 .i64 x = true) (hK : 100 < K) : decS K x = ⟨(Lib.itoa x).toArray⟩ := by unfold decS; rw [zhf hx hK]; rfl
end Go.Am.Tryd
/- Plain law: the program's lines of a network are the reference's. -/
namespace Go.Am.Tryd
open Go Go.Am Go.Proofs
variable {K : Nat} {n : Network}
theorem z9s (s0 : zAd) : ∀ ws : List zAd, (catW s0 ws).data.toList = s0.data.toList ++ (ws.map fun w => w.data.toList ++ [32]).flatten
 | [] => by simp [catW]
 | w :: ws => by
  have h := z9s (s0 ++ (w ++ (⟨#[32]⟩ : zAd))) ws
  show (catW (s0 ++ (w ++ (⟨#[32]⟩ : zAd))) ws).data.toList = _
  rw [h, z9r, z9r]
  have e : (⟨#[32]⟩ : zAd).data.toList = [32] := rfl
  rw [e]; simp
theorem zg1 (ws : List Wd) (h : ws ≠ []) : (ws.map fun w => wU w ++ [32]).flatten = z8k ws ++ [32] := by
 cases ws with
 | nil => exact absurd rfl h
 | cons x r =>
  clear h
  have key : ∀ (r : List Wd) (a : List UInt8), a ++ [32] ++ (r.map fun w => wU w ++ [32]).flatten = a ++ (r.map fun y => 32 :: wU y).flatten ++ [32] := by
   intro r
   induction r with
   | nil => intro a; simp
   | cons y r ih =>
    intro a
    have := ih (a ++ 32 :: wU y)
    simpa using this
  simpa [z8k] using key r (wU x)
theorem zg2 (K : Nat) (l : List zAd) (v : List Int) (hne : l ≠ []) (hv : ∀ x ∈ v, z38 .i64 x = true) (hK : 100 < K) : rowT K l v = ⟨(z8k (l.map Sum.inl ++ v.map Sum.inr)).toArray⟩ := by
 apply zb5
 have e : (catW (catW ⟨#[]⟩ l) (v.map (decS K))).data.toList = z8k (l.map Sum.inl ++ v.map Sum.inr) ++ [32] := by
  rw [<- zg1 _ (by simp [hne]), z9s, z9s]
  have e0 : (⟨#[]⟩ : zAd).data.toList = [] := rfl
  rw [e0, List.nil_append, List.map_append, List.flatten_append, List.map_map, List.map_map, List.map_map]
  congr 2
  exact List.map_congr_left fun x hx => by simp only [Function.comp, zg0 (hv x hx) hK, wU]
 have hs : (catW (catW ⟨#[]⟩ l) (v.map (decS K))).size = (z8k (l.map Sum.inl ++ v.map Sum.inr)).length + 1 := by rw [<- zjg, e]; simp
 unfold rowT
 rw [ByteArray.data_extract, Array.toList_extract, List.extract_eq_take_drop, e, hs]
 simp
theorem z9t (ws : List Wd) (h0 : ws ≠ []) (h1 : ws.length <= 1000) (hs : ∀ x ∈ ws, okWb x = true) : z0y K ws = some ⟨(z8k ws).toArray⟩ := by
 unfold z0y
 rw [if_pos ⟨h0, h1, List.all_eq_true.2 hs⟩]
theorem okWI {x : Int} (h : z38 .i64 x = true) : okWb (.inr x) = true := by simpa [okWb, z38] using h
theorem okWS {s : zAd} (h : szB s) : okWb (.inl s) = true := by simpa [okWb, szB] using h
theorem z69 (l : List zAd) (v : List Int) (h1 : l.length + v.length <= 1000) (hne : l ≠ []) (hl : ∀ w ∈ l, szB w) (hv : ∀ x ∈ v, z38 .i64 x = true) (hK : 100 < K) : z0y K (l.map Sum.inl ++ v.map Sum.inr) = some (rowT K l v) := by
 rw [zg2 K l v hne hv hK]
 refine z9t _ (by simp [hne]) (by simpa using h1) fun x hx => ?_
 rcases List.mem_append.1 hx with h | h
 ·obtain ⟨w, hw, rfl⟩ := List.mem_map.1 h; exact okWS (hl w hw)
 ·obtain ⟨w, hw, rfl⟩ := List.mem_map.1 h; exact okWI (hv w hw)
theorem zbs (s : zAd) (h : szB s) : z0y K [Sum.inl ⟨#[110, 111, 100, 101]⟩, Sum.inl s] = some (nodL s) := by
 rw [z9t _ (by simp) (by simp) (by
  intro x hx; simp at hx
  rcases hx with rfl | rfl
  ·rfl
  ·exact okWS h)]
 exact congrArg some (zb5 (by unfold nodL; rw [z9r, zhs]; simp [z8k, wU]))
theorem zgb (x : Switch) (h : szB x.Name /\ szB x.A /\ szB x.B) :
  z0y K [Sum.inl (if x.Breaker = true then (⟨#[98, 114, 101, 97, 107, 101, 114]⟩ : zAd) else ⟨#[115, 119, 105, 116, 99, 104]⟩), Sum.inl x.Name, Sum.inl x.A, Sum.inl x.B, Sum.inl (if x.Open = true then (⟨#[111, 112, 101, 110]⟩ : zAd) else ⟨#[99, 108, 111, 115, 101, 100]⟩)] = some (swL x) := by
 rw [z9t _ (by simp) (by simp) (by
  intro y hy; simp at hy
  rcases hy with rfl | rfl | rfl | rfl | rfl
  ·cases x.Breaker <;> rfl
  ·exact okWS h.1
  ·exact okWS h.2.1
  ·exact okWS h.2.2
  ·cases x.Open <;> rfl)]
 refine congrArg some (zb5 ?_)
 unfold swL
 cases x.Breaker <;> cases x.Open <;> simp [z8k, wU, z9r]
theorem z8o (h : LOk n) (hK : 200 < K) : z2l K n = some (z2f K n) := by
 obtain ⟨a1, a2, a3, a4, a5, a6⟩ := h.len
 have t0 : z10 K n K [] 0 = some ([] ++ n.Nodes.map nodL) := z2j n.Nodes (fun k acc i => z10 K n k acc i) nodL []
  (fun k acc' i x hx' hl => by
   have hi := z6g hx'
   show z10 K n (k + 1) acc' i = _
   rw [z10, z33 hi]
   simp only [if_true, z1v hx', Option.bind_some, kw1 hi (by omega), zbs x (h.nod x (z4o hx'))]
   rw [if_pos (by simp at hl ⊢; omega)])
  (fun k acc i hi => by
   show z10 K n (k + 1) acc i = _
   rw [z10, z1w hi]; simp) K (by omega)
 have t2 : ∀ acc : List zAd, acc.length <= 100 -> z11 K n K acc 0 = some (acc ++ n.Switches.map swL) := fun acc ha => z2j n.Switches (fun k acc i => z11 K n k acc i) swL acc
  (fun k acc' i x hx' hl => by
   have hi := z6g hx'
   have hq := zgb (K := K) x (h.sw x (z4o hx'))
   show z11 K n (k + 1) acc' i = _
   rw [z11, z33 hi]
   simp only [if_true, z1v hx', Option.bind_some, kw1 hi (by omega)]
   cases hb : x.Breaker <;> cases ho : x.Open <;> rw [hb, ho] at hq <;> simp only [Bool.false_eq_true, if_false, if_true, Option.bind_some, tu1] at hq ⊢ <;> rw [hq, Option.bind_some, if_pos (by simp at hl ⊢; omega)])
  (fun k acc i hi => by
   show z11 K n (k + 1) acc i = _
   rw [z11, z1w hi]; simp) K (by omega)
 have t4 : ∀ acc : List zAd, acc.length <= 100 -> z12 K n K acc 0 = some (acc ++ n.Branches.map (brL K)) := fun acc ha => z2j n.Branches (fun k acc i => z12 K n k acc i) (brL K) acc
  (fun k acc' i x hx' hl => by
   have hi := z6g hx'
   obtain ⟨⟨q1, q2, q3⟩, q4⟩ := h.br x (z4o hx')
   have hq := z69 (K := K) [⟨#[98, 114, 97, 110, 99, 104]⟩, x.Name, x.From, x.To] [x.X, x.Tap, x.Shift, x.Limit, x.Short, x.Hold] (by simp) (by simp) (by intro w hw; simp at hw; rcases hw with rfl | rfl | rfl | rfl <;> first | assumption | (unfold szB; decide)) q4 (by omega)
   show z12 K n (k + 1) acc' i = _
   rw [z12, z33 hi]
   simp only [List.map_cons, List.map_nil, List.cons_append, List.nil_append] at hq
   simp only [if_true, z1v hx', Option.bind_some, kw1 hi (by omega), hq]
   rw [if_pos (by simp at hl ⊢; omega)]; rfl)
  (fun k acc i hi => by
   show z12 K n (k + 1) acc i = _
   rw [z12, z1w hi]; simp) K (by omega)
 have t6 : ∀ acc : List zAd, acc.length <= 100 -> z13 K n K acc 0 = some (acc ++ n.Gens.map (geL K)) := fun acc ha => z2j n.Gens (fun k acc i => z13 K n k acc i) (geL K) acc
  (fun k acc' i x hx' hl => by
   have hi := z6g hx'
   obtain ⟨⟨q1, q2⟩, q4⟩ := h.ge x (z4o hx')
   have hq := z69 (K := K) [⟨#[103, 101, 110]⟩, x.Name, x.Node] [x.Least, x.Most, x.Ramp] (by simp) (by simp) (by intro w hw; simp at hw; rcases hw with rfl | rfl | rfl <;> first | assumption | (unfold szB; decide)) q4 (by omega)
   show z13 K n (k + 1) acc' i = _
   rw [z13, z33 hi]
   simp only [List.map_cons, List.map_nil, List.cons_append, List.nil_append] at hq
   simp only [if_true, z1v hx', Option.bind_some, kw1 hi (by omega), hq]
   rw [if_pos (by simp at hl ⊢; omega)]; rfl)
  (fun k acc i hi => by
   show z13 K n (k + 1) acc i = _
   rw [z13, z1w hi]; simp) K (by omega)
 have t8 : ∀ acc : List zAd, acc.length <= 100 -> z14 K n K acc 0 = some (acc ++ n.Loads.map (loL K)) := fun acc ha => z2j n.Loads (fun k acc i => z14 K n k acc i) (loL K) acc
  (fun k acc' i x hx' hl => by
   have hi := z6g hx'
   obtain ⟨⟨q1, q2⟩, q4⟩ := h.lo x (z4o hx')
   have hq := z69 (K := K) [⟨#[108, 111, 97, 100]⟩, x.Name, x.Node] [x.Demand] (by simp) (by simp) (by intro w hw; simp at hw; rcases hw with rfl | rfl | rfl <;> first | assumption | (unfold szB; decide)) q4 (by omega)
   show z14 K n (k + 1) acc' i = _
   rw [z14, z33 hi]
   simp only [List.map_cons, List.map_nil, List.cons_append, List.nil_append] at hq
   simp only [if_true, z1v hx', Option.bind_some, kw1 hi (by omega), hq]
   rw [if_pos (by simp at hl ⊢; omega)]; rfl)
  (fun k acc i hi => by
   show z14 K n (k + 1) acc i = _
   rw [z14, z1w hi]; simp) K (by omega)
 have t10 : ∀ acc : List zAd, acc.length <= 110 -> z0w K n K acc 0 = some (acc ++ n.Stores.map (stL K)) := fun acc ha => z2j n.Stores (fun k acc i => z0w K n k acc i) (stL K) acc
  (fun k acc' i x hx' hl => by
   have hi := z6g hx'
   obtain ⟨⟨q1, q2⟩, q4⟩ := h.st x (z4o hx')
   have hq := z69 (K := K) [⟨#[115, 116, 111, 114, 101]⟩, x.Name, x.Node] [x.Charge, x.Discharge, x.Capacity] (by simp) (by simp) (by intro w hw; simp at hw; rcases hw with rfl | rfl | rfl <;> first | assumption | (unfold szB; decide)) q4 (by omega)
   show z0w K n (k + 1) acc' i = _
   rw [z0w, z33 hi]
   simp only [List.map_cons, List.map_nil, List.cons_append, List.nil_append] at hq
   simp only [if_true, z1v hx', Option.bind_some, kw1 hi (by omega), hq]
   rw [if_pos (by simp at hl ⊢; omega)]; rfl)
  (fun k acc i hi => by
   show z0w K n (k + 1) acc i = _
   rw [z0w, z1w hi]; simp) K (by omega)
 unfold z2l z2f
 rw [t0, Option.bind_some, tu1, List.nil_append, t2 _ (by simp; omega), Option.bind_some, tu1, t4 _ (by simp; omega), Option.bind_some, tu1, t6 _ (by simp; omega), Option.bind_some, tu1, t8 _ (by simp; omega), Option.bind_some, tu1, t10 _ (by simp; omega), Option.bind_some, tu1]
end Go.Am.Tryd
/- Plain law: Print and Diff return the specified lines. -/
namespace Go.Am.Tryd
open Go Go.Am Go.Proofs
variable {K : Nat} {n m : Network}
theorem z9u (n : Network) (K : Nat) : (z2f K n).length = n.Nodes.length + n.Switches.length + n.Branches.length + n.Gens.length + n.Loads.length + n.Stores.length := by simp [z2f]; omega
theorem z92 {ws : List Wd} {t : zAd} (h : z0y K ws = some t) (hw : ws.length <= 10) : t.size <= 16777216 := by
 unfold z0y at h
 obtain ⟨⟨h0, h1, h2⟩, h⟩ := z2a h
 cases h
 have := z9m ws.length ws rfl fun x hx => zdv (List.all_eq_true.1 h2 x hx)
 have h3 : ws.length * 1048577 <= 10 * 1048577 := Nat.mul_le_mul_right _ hw
 show (z8k ws).toArray.size <= _
 rw [List.size_toArray]; omega
theorem zb6 (h : LOk n) (hK : 200 < K) : ∀ x ∈ z2f K n, x.size <= 16777216 := by
 intro y hy
 simp only [z2f, List.mem_append, List.mem_map] at hy
 rcases hy with ((((⟨x, hx, rfl⟩ | ⟨x, hx, rfl⟩) | ⟨x, hx, rfl⟩) | ⟨x, hx, rfl⟩) | ⟨x, hx, rfl⟩) | ⟨x, hx, rfl⟩
 ·exact z92 (zbs (K := K) x (h.nod x hx)) (by simp)
 ·exact z92 (zgb (K := K) x (h.sw x hx)) (by simp)
 ·obtain ⟨⟨q1, q2, q3⟩, q4⟩ := h.br x hx
  exact z92 (z69 (K := K) [⟨#[98, 114, 97, 110, 99, 104]⟩, x.Name, x.From, x.To] [x.X, x.Tap, x.Shift, x.Limit, x.Short, x.Hold] (by simp) (by simp) (by intro w hw; simp at hw; rcases hw with rfl | rfl | rfl | rfl <;> first | assumption | (unfold szB; decide)) q4 (by omega)) (by simp)
 ·obtain ⟨⟨q1, q2⟩, q4⟩ := h.ge x hx
  exact z92 (z69 (K := K) [⟨#[103, 101, 110]⟩, x.Name, x.Node] [x.Least, x.Most, x.Ramp] (by simp) (by simp) (by intro w hw; simp at hw; rcases hw with rfl | rfl | rfl <;> first | assumption | (unfold szB; decide)) q4 (by omega)) (by simp)
 ·obtain ⟨⟨q1, q2⟩, q4⟩ := h.lo x hx
  exact z92 (z69 (K := K) [⟨#[108, 111, 97, 100]⟩, x.Name, x.Node] [x.Demand] (by simp) (by simp) (by intro w hw; simp at hw; rcases hw with rfl | rfl | rfl <;> first | assumption | (unfold szB; decide)) q4 (by omega)) (by simp)
 ·obtain ⟨⟨q1, q2⟩, q4⟩ := h.st x hx
  exact z92 (z69 (K := K) [⟨#[115, 116, 111, 114, 101]⟩, x.Name, x.Node] [x.Charge, x.Discharge, x.Capacity] (by simp) (by simp) (by intro w hw; simp at hw; rcases hw with rfl | rfl | rfl <;> first | assumption | (unfold szB; decide)) q4 (by omega)) (by simp)
theorem kk1 (a : zAd) : sEq a a = true := z5y.2 rfl
theorem zg3 (xs : List zAd) (hl : xs.length <= 1000) (hs : ∀ x ∈ xs, x.size <= 16777216) (hK : 2000 < K) : z0i K xs K ⟨#[]⟩ 0 = some ⟨(z6k xs).toArray⟩ := by
 obtain ⟨a1, a2⟩ := z89 xs (fun k s i => z0i K xs k s i) (fun s w => s ++ (w ++ (⟨#[10]⟩ : zAd))) (fun s i => s.size <= i * 16777217) (fun k s i x hx h2 => by
  have hi := z6g hx
  have hz := hs x (z4o hx)
  have h10 : (⟨#[10]⟩ : zAd).size = 1 := rfl
  have hz1 : (x ++ (⟨#[10]⟩ : zAd)).size = x.size + 1 := by rw [ByteArray.size_append, h10]
  have hm : i * 16777217 <= 1000 * 16777217 := Nat.mul_le_mul_right _ (by omega)
  refine ⟨?_, by rw [ByteArray.size_append, hz1, Nat.add_mul]; omega⟩
  show z0i K xs (k + 1) s i = _
  rw [z0i, z33 hi]
  simp only [if_true, z1v hx, Option.bind_some]
  rw [if_pos (by rw [h10]; omega), if_pos (by rw [hz1]; omega), kw1 hi (by omega)]) (fun k s => by
  show z0i K xs (k + 1) s xs.length = _
  rw [z0i, z1w (Nat.le_refl _)]; simp) xs.length K ⟨#[]⟩ 0 (by omega) (by omega) (by omega) (Nat.zero_le _)
 rw [List.drop_zero] at a1
 refine (show z0i K xs K ⟨#[]⟩ 0 = _ from a1).trans (congrArg some (zb5 ?_))
 have key : ∀ (l : List zAd) (s : zAd), (l.foldl (fun s w => s ++ (w ++ (⟨#[10]⟩ : zAd))) s).data.toList = s.data.toList ++ z6k l := by
  intro l
  induction l with
  | nil => intro s; simp [z6k]
  | cons x l ih =>
   intro s
   rw [List.foldl_cons, ih, z9r, z9r]
   simp [z6k]
 rw [key, zhs]; rfl
def dS (p : zAd) (x y : List zAd) : List zAd := (x.filter fun l => !(hasS y l)).map fun l => p ++ l
theorem zgc (p : zAd) (y : List zAd) : ∀ (x acc : List zAd), x.foldl (fun a l => if (!(hasS y l)) = true then a ++ [p ++ l] else a) acc = acc ++ dS p x y
 | [], acc => by simp [dS]
 | l :: x, acc => by
  rw [List.foldl_cons, zgc p y x]
  cases h : hasS y l <;> simp [dS, h]
theorem zg4 (p : zAd) (x y : List zAd) (l : Nat -> List zAd -> Int -> Option (List zAd)) (acc : List zAd) (hx : x.length <= 1000) (hs : ∀ w ∈ x, w.size <= 16777216) (hp : p.size <= 10) (ha : acc.length <= 1000)
  (h : ∀ k s (i : Nat) w, x[i]? = some w -> l (k + 1) s i = Option.bind (if (!(hasS y w)) = true then (if p.size + w.size <= 4611686018427387904 then (if List.length s + List.length [(p ++ w)] <= 16777216 then some (s ++ [(p ++ w)]) else none) else none) else some s) (tu1 fun q => l k q (z0p .i64 ((i : Int) + 1))))
  (h0 : ∀ k s, l (k + 1) s x.length = some s) (k : Nat) (hk : x.length < k) : l k acc 0 = some (acc ++ dS p x y) := by
 obtain ⟨a1, _⟩ := z89 x l (fun a w => if (!(hasS y w)) = true then a ++ [p ++ w] else a) (fun s i => s.length <= acc.length + i) (fun k s i w hw h2 => by
  have hi := z6g hw
  have hz := hs w (z4o hw)
  rw [h k s i w hw]
  cases hb : hasS y w with
  | true => exact ⟨by simp only [Bool.not_true, Bool.false_eq_true, if_false, Option.bind_some, tu1]; rw [kw1 hi (by omega)], by simp; omega⟩
  | false => exact ⟨by simp only [Bool.not_false, if_true]; rw [if_pos (by omega), if_pos (by simp; omega), Option.bind_some, tu1, kw1 hi (by omega)], by simp; omega⟩) h0 x.length k acc 0 (by omega) (by omega) hk (by omega)
 rw [List.drop_zero, zgc] at a1
 exact a1
theorem zhg (p : zAd) (x y : List zAd) : (dS p x y).length <= x.length := by unfold dS; rw [List.length_map]; exact List.length_filter_le _ _
def sgM : zAd := ⟨#[45, 32]⟩
def sgP : zAd := ⟨#[43, 32]⟩
theorem zjy {x y : List zAd} (hx : x.length <= 1000) (hy : y.length <= 1000) (hsx : ∀ w ∈ x, w.size <= 16777216) (hK : 2000 < K) : z1b K x y K [] 0 = some ([] ++ dS sgM x y) := zg4 sgM x y (fun k s i => z1b K x y k s i) [] hx hsx (by decide) (by simp) (fun k s i w hw => by
 show z1b K x y (k + 1) s i = _
 rw [z1b, z33 (z6g hw)]
 simp only [if_true, z1v hw, Option.bind_some, z56 K y w (by omega) (by omega)]
 rfl) (fun k s => by
 show z1b K x y (k + 1) s x.length = _
 rw [z1b, z1w (Nat.le_refl _)]; simp) K (by omega)
theorem zjz {x y : List zAd} (hx : x.length <= 1000) (hy : y.length <= 1000) (hsy : ∀ w ∈ y, w.size <= 16777216) (hK : 2000 < K) (acc : List zAd) (ha : acc.length <= 1000) : z1c K x y K acc 0 = some (acc ++ dS sgP y x) := zg4 sgP y x (fun k s i => z1c K x y k s i) acc hy hsy (by decide) ha (fun k s i w hw => by
 show z1c K x y (k + 1) s i = _
 rw [z1c, z33 (z6g hw)]
 simp only [if_true, z1v hw, Option.bind_some, z56 K x w (by omega) (by omega)]
 rfl) (fun k s => by
 show z1c K x y (k + 1) s y.length = _
 rw [z1c, z1w (Nat.le_refl _)]; simp) K (by omega)
theorem ref2 {x y : List zAd} (hx : x.length <= 1000) (hy : y.length <= 1000) (hsx : ∀ w ∈ x, w.size <= 16777216) (hK : 2000 < K) : z0j K x y K [] 0 = some ([] ++ dS sgM x y) := zg4 sgM x y (fun k s i => z0j K x y k s i) [] hx hsx (by decide) (by simp) (fun k s i w hw => by
 show z0j K x y (k + 1) s i = _
 rw [z0j, z33 (z6g hw)]
 simp only [if_true, z1v hw, Option.bind_some, zbq K y w (by omega) (by omega)]
 rfl) (fun k s => by
 show z0j K x y (k + 1) s x.length = _
 rw [z0j, z1w (Nat.le_refl _)]; simp) K (by omega)
theorem ref4 {x y : List zAd} (hx : x.length <= 1000) (hy : y.length <= 1000) (hsy : ∀ w ∈ y, w.size <= 16777216) (hK : 2000 < K) (acc : List zAd) (ha : acc.length <= 1000) : z0k K x y K acc 0 = some (acc ++ dS sgP y x) := zg4 sgP y x (fun k s i => z0k K x y k s i) acc hy hsy (by decide) ha (fun k s i w hw => by
 show z0k K x y (k + 1) s i = _
 rw [z0k, z33 (z6g hw)]
 simp only [if_true, z1v hw, Option.bind_some, zbq K x w (by omega) (by omega)]
 rfl) (fun k s => by
 show z0k K x y (k + 1) s y.length = _
 rw [z0k, z1w (Nat.le_refl _)]; simp) K (by omega)
theorem zeg (xs : List zAd) (hl : xs.length <= 1048576) (hK : xs.length < K) : z0v K xs xs = some true := by
 have hlp : ∀ d k (i : Nat), xs.length - i = d -> i <= xs.length -> d < k -> z0h K xs xs k (i : Int) = some (.inr ()) := by
  intro d
  induction d with
  | zero =>
   intro k i hd hi hk
   obtain ⟨k, rfl⟩ : ∃ m, k = m + 1 := ⟨k - 1, by omega⟩
   rw [z0h, z1w (by omega)]; simp
  | succ d ih =>
   intro k i hd hi hk
   obtain ⟨k, rfl⟩ : ∃ m, k = m + 1 := ⟨k - 1, by omega⟩
   have hi2 : i < xs.length := by omega
   have hx : xs[i]? = some xs[i] := zAh hi2
   rw [z0h, z33 hi2]
   simp only [if_true, z1v hx, Option.bind_some, kk1, Bool.not_true, Bool.false_eq_true, if_false, kw1 hi2 (by omega)]
   exact ih k (i + 1) (by omega) (by omega) (by omega)
 have := hlp xs.length K 0 (by omega) (by omega) hK
 unfold z0v
 rw [show ((0 : Nat) : Int) = 0 from rfl] at this
 rw [this]
 simp [z5s, tu0]
theorem zeh (F : Fits K n) (h : netS n ≠ 0) : z1z K n m = some true := by
 have hb : (netS n != 0) = true := by simp [h]
 have hP : z2m K n = some (⟨#[]⟩, netS n) := by
  unfold z2m
  rw [z7h F, Option.bind_some, if_neg h]
 have hD : z34 K n m = some ([], netS n) := by
  unfold z34
  rw [z7h F, Option.bind_some, if_pos hb]
 unfold z1z
 rw [hP, hD, zee F, show z3r K = some true from rfl]
 simp only [Option.bind_some, Bool.not_true, Bool.false_eq_true, if_false, hb, if_true, bne_self_eq_false, kk1, tu1]
 rfl
theorem zg5 (F : Fits K n) (F2 : Fits K m) (L : LOk n) (L2 : netS m = 0 -> LOk m) (h : netS n = 0) (hK : 2000 < K) : z1z K n m = some true := by
 have hlen : (z2f K n).length <= 1000 := by rw [z9u]; have := L.len; omega
 have hsz := zb6 L (show 200 < K by omega)
 have h00 : ((0 : Int) != 0) = false := rfl
 have e00 : ((0 : Int) == 0) = true := rfl
 have e22 : ((2 : Int) != 2) = false := rfl
 have hP : z2m K n = some (if (z6k (z2f K n)).length > 8192 then (⟨#[]⟩, 2) else (⟨(z6k (z2f K n)).toArray⟩, 0)) := by
  unfold z2m
  rw [z7h F, Option.bind_some, if_pos h, z8o L (by omega), Option.bind_some, if_pos ⟨hlen, List.all_eq_true.2 fun x hx => decide_eq_true (hsz x hx)⟩]
  split <;> rfl
 have hD : z34 K n m = some (if netS m = 0 then (dS sgM (z2f K n) (z2f K m) ++ dS sgP (z2f K m) (z2f K n), 0) else ([], netS m)) := by
  unfold z34
  rw [z7h F, Option.bind_some, h, if_neg (by simp), z7h F2, Option.bind_some]
  by_cases hm : netS m = 0
  ·have hlen2 : (z2f K m).length <= 1000 := by rw [z9u]; have := (L2 hm).len; omega
   have hsz2 := zb6 (L2 hm) (show 200 < K by omega)
   have q1 := zhg sgM (z2f K n) (z2f K m)
   rw [hm, if_neg (by simp), z8o L (by omega), z8o (L2 hm) (by omega), Option.bind_some, Option.bind_some, zjy hlen hlen2 hsz hK, Option.bind_some, tu1, List.nil_append,
    zjz hlen hlen2 hsz2 hK _ (by omega), Option.bind_some, tu1, if_pos rfl]
  ·rw [if_pos (by simpa using hm), if_neg hm]
 have hT := zg3 (K := K) (z2f K n) hlen hsz hK
 have hts : (⟨(z6k (z2f K n)).toArray⟩ : zAd).size = (z6k (z2f K n)).length := rfl
 have e4 := zee F
 rw [h] at e4
 have hrest : ((z3v K m).bind fun x234 => (if (x234 != 0) = true then (Option.bind ((if ((if netS m = 0 then (dS sgM (z2f K n) (z2f K m) ++ dS sgP (z2f K m) (z2f K n), (0 : Int)) else ([], netS m)).2 == x234) = true then some ((List.length (if netS m = 0 then (dS sgM (z2f K n) (z2f K m) ++ dS sgP (z2f K m) (z2f K n), (0 : Int)) else ([], netS m)).1 : Int) == 0) else some false)) (fun x254 => some x254)) else ((z3w K m).bind fun x272 => (Option.bind (z0j K (z2f K n) x272 K [] 0) (fun x355 => (Option.bind (z0k K (z2f K n) x272 K x355 0) (fun x427 => (Option.bind ((if ((if netS m = 0 then (dS sgM (z2f K n) (z2f K m) ++ dS sgP (z2f K m) (z2f K n), (0 : Int)) else ([], netS m)).2 == 0) = true then ((z0v K (if netS m = 0 then (dS sgM (z2f K n) (z2f K m) ++ dS sgP (z2f K m) (z2f K n), (0 : Int)) else ([], netS m)).1 x427).bind fun x450 => some x450) else some false)) (fun x470 => some x470))))))))) = some true := by
  rw [zee F2, Option.bind_some]
  by_cases hm : netS m = 0
  ·have hlen2 : (z2f K m).length <= 1000 := by rw [z9u]; have := (L2 hm).len; omega
   have hsz2 := zb6 (L2 hm) (show 200 < K by omega)
   have q1 := zhg sgM (z2f K n) (z2f K m)
   have q2 := zhg sgP (z2f K m) (z2f K n)
   rw [hm]
   simp only [h00, Bool.false_eq_true, if_false, if_true, e00]
   rw [zbr (L2 hm) (by omega), Option.bind_some, ref2 hlen hlen2 hsz hK, Option.bind_some, List.nil_append, ref4 hlen hlen2 hsz2 hK _ (by omega), Option.bind_some, zeg _ (by rw [List.length_append]; omega) (by rw [List.length_append]; omega)]
   rfl
  ·have hb : (netS m != 0) = true := by simp [hm]
   simp only [hb, if_true, if_neg hm, beq_self_eq_true]
   rfl
 unfold z1z
 rw [hP, hD, e4, zbr L (by omega), show z3r K = some true from rfl]
 simp only [Option.bind_some, Bool.not_true, Bool.false_eq_true, if_false, h00, tu1, hT, hts, tu0]
 by_cases hb : (z6k (z2f K n)).length > 8192
 ·have hd : decide (((z6k (z2f K n)).length : Int) > 8192) = true := by simp; omega
  simp only [hd, if_pos hb, if_true, e22, Bool.false_eq_true, if_false, kk1, Bool.not_true, Option.bind_some, z5s]
  exact hrest
 ·have hd : decide (((z6k (z2f K n)).length : Int) > 8192) = false := by simp; omega
  simp only [hd, if_neg hb, h00, Bool.false_eq_true, if_false, kk1, Bool.not_true, Option.bind_some, z5s]
  exact hrest
def zei (B : Nat) (x : Switch) : Prop := x.Name.size <= B /\ x.A.size <= B /\ x.B.size <= B /\ True /\ True
def zej (B : Nat) (x : Branch) : Prop := x.Name.size <= B /\ x.From.size <= B /\ x.To.size <= B /\ z38 .i64 x.X = true /\ z38 .i64 x.Tap = true /\ z38 .i64 x.Shift = true /\ z38 .i64 x.Limit = true /\ z38 .i64 x.Short = true /\ z38 .i64 x.Hold = true
def zjm (B : Nat) (x : Gen) : Prop := x.Name.size <= B /\ x.Node.size <= B /\ z38 .i64 x.Least = true /\ z38 .i64 x.Most = true /\ z38 .i64 x.Ramp = true
def zgd (B : Nat) (x : Load_) : Prop := x.Name.size <= B /\ x.Node.size <= B /\ z38 .i64 x.Demand = true
def zge (B : Nat) (x : Store) : Prop := x.Name.size <= B /\ x.Node.size <= B /\ z38 .i64 x.Charge = true /\ z38 .i64 x.Discharge = true /\ z38 .i64 x.Capacity = true
def z7i (B : Nat) (x : Network) : Prop := (x.Nodes.length <= B /\ ∀ y ∈ x.Nodes, y.size <= B) /\ (x.Switches.length <= B /\ ∀ y ∈ x.Switches, zei B y) /\ (x.Branches.length <= B /\ ∀ y ∈ x.Branches, zej B y) /\ (x.Gens.length <= B /\ ∀ y ∈ x.Gens, zjm B y) /\ (x.Loads.length <= B /\ ∀ y ∈ x.Loads, zgd B y) /\ (x.Stores.length <= B /\ ∀ y ∈ x.Stores, zge B y)
theorem zjh (h : netS n = 0) : n.Nodes.length <= 24 /\ n.Switches.length <= 32 /\ n.Branches.length <= 24 /\ n.Gens.length <= 10 /\ n.Loads.length <= 12 /\ n.Stores.length <= 4 := by
 unfold netS at h
 split at h
 ·omega
 ·rename_i hb
  unfold bigS at hb; simp at hb; omega
theorem zij (h : z7i 1048576 n) (h0 : netS n = 0) : LOk n := by
 obtain ⟨q1, q2, q3, q4, q5, q6⟩ := h
 refine ⟨zjh h0, fun s q => q1.2 s q, fun x q => ?_, fun x q => ?_, fun x q => ?_, fun x q => ?_, fun x q => ?_⟩
 ·obtain ⟨a, b, c, _⟩ := q2.2 x q; exact ⟨a, b, c⟩
 ·obtain ⟨a, b, c, d1, d2, d3, d4, d5, d6⟩ := q3.2 x q; exact ⟨⟨a, b, c⟩, by simp [d1, d2, d3, d4, d5, d6]⟩
 ·obtain ⟨a, b, d1, d2, d3⟩ := q4.2 x q; exact ⟨⟨a, b⟩, by simp [d1, d2, d3]⟩
 ·obtain ⟨a, b, d1⟩ := q5.2 x q; exact ⟨⟨a, b⟩, by simp [d1]⟩
 ·obtain ⟨a, b, d1, d2, d3⟩ := q6.2 x q; exact ⟨⟨a, b⟩, by simp [d1, d2, d3]⟩
theorem zek (h : z7i 1048576 n) : Fits 1048577 n := by
 obtain ⟨q1, q2, q3, q4, q5, q6⟩ := h
 have sh : ∀ s : zAd, s.size <= 1048576 -> Sh 1048577 s := fun s h => ⟨by omega, h⟩
 exact ⟨by omega, fun s q => sh s (q1.2 s q), fun x q => sh _ (q2.2 x q).1, fun x q => sh _ (q3.2 x q).1, fun x q => sh _ (q4.2 x q).1, fun x q => sh _ (q5.2 x q).1, fun x q => sh _ (q6.2 x q).1⟩
theorem z7s {n m : Network} (h : z7i 1048576 n) (h2 : z7i 1048576 m) : ∃ K, z1z K n m = some true := by
 refine ⟨1048577, ?_⟩
 by_cases h0 : netS n = 0
 ·exact zg5 (zek h) (zek h2) (zij h h0) (fun h => zij h2 h) h0 (by decide)
 ·exact zeh (zek h) h0
end Go.Am.Tryd
/- From a statement's arguments, read as data, to typed data. -/
namespace Go.Am
open Go Go.Proofs.YtmdhkaombnamkaaDoor
section
variable {H : Type} {P : Program} {G : GM} {n B : Nat} {t e : TypeId} {α β S : Type} {r : RT α} {s : RT β} {I : α -> Prop} {J : β -> Prop}
theorem zhh {H : Type} (d : DataW H) : 1 <= Rows.uptoBulk d := by
 cases d with
 | lit l => cases l <;> simp [Rows.uptoBulk]
 | _ => simp [Rows.uptoBulk]
theorem zel {H : Type} : ∀ (ds : List (DataW H)), ds.length <= Rows.uptoBulkAll ds
 | [] => Nat.zero_le _
 | d :: r => by
  have := zel r
  have := zhh d
  simp only [Rows.uptoBulkAll, List.length_cons]; omega
def Arg (H : Type) (P : Program) (G : GM) (n : Nat) (t : TypeId) (r : RT α) (B : Nat) (I : α -> Prop) : Prop := ∀ (cs : List Value) (d : DataW H), AData P G n t cs d -> Rows.uptoBulk d <= B -> ∃ x, r.rep G cs x /\ I x
def ArgS (H : Type) (P : Program) (G : GM) (n : Nat) (ts : List TypeId) (r : RT α) (B : Nat) (I : α -> Prop) : Prop :=
 ∀ (css : List (List Value)) (ds : List (DataW H)), AllD (AData P G n) P.cellsOf ts css ds -> Rows.uptoBulkAll ds <= B -> ∃ x, r.rep G css.flatten x /\ I x
theorem zhi {k : IntKind} {x : Int} (h : (Lit.int k x).wf = true) : z38 k x = true := by
 cases k <;> simp [Lit.wf, IntKind.min, IntKind.max, IntKind.signed, IntKind.bits] at h <;> simp [z38] <;> omega
theorem Arg.mono {I J : α -> Prop} (h : Arg H P G n t r B I) (k : ∀ x, I x -> J x) : Arg H P G n t r B J := fun cs d hd hb => by
 obtain ⟨x, h1, h2⟩ := h cs d hd hb
 exact ⟨x, h1, k x h2⟩
theorem Arg.int {k : IntKind} (hu : P.underlying t = some (.int k)) : Arg H P G (n + 1) t (rI k) B (fun x => z38 k x = true) := fun cs d h _ => by
 unfold AData at h
 simp only [hu] at h
 obtain ⟨x, h1, h2, h3⟩ := h
 exact ⟨x, h1, zhi h3⟩
theorem Arg.bool (hu : P.underlying t = some .bool) : Arg H P G (n + 1) t rB B (fun _ => True) := fun cs d h _ => by
 unfold AData at h
 simp only [hu] at h
 obtain ⟨x, h1, _⟩ := h
 exact ⟨x, h1, trivial⟩
theorem Arg.str (hu : P.underlying t = some .string) : Arg H P G (n + 1) t rS B (fun x => x.size <= B) := fun cs d h hb => by
 unfold AData at h
 simp only [hu] at h
 obtain ⟨x, h1, h2, _⟩ := h
 refine ⟨x, h1, ?_⟩
 rw [h2] at hb
 simp only [Rows.uptoBulk, Array.length_toList] at hb
 have : x.data.size = x.size := rfl
 omega
theorem z9v (h : Arg H P G n e r B I) : ∀ (k : Nat) (css : List (List Value)) (ds : List (DataW H)), AllD (AData P G n) P.cellsOf (List.replicate k e) css ds -> Rows.uptoBulkAll ds <= B -> ∃ xs : List α, All2 (r.rep G) css xs /\ (∀ x ∈ xs, I x) /\ xs.length = k
 | 0, [], [], _, _ => ⟨[], .nil, by simp, rfl⟩
 | 0, _ :: _, _, h, _ => by simp [List.replicate, AllD] at h
 | 0, [], _ :: _, h, _ => by simp [List.replicate, AllD] at h
 | k + 1, [], _, h, _ => by simp [List.replicate, AllD] at h
 | k + 1, _ :: _, [], h, _ => by simp [List.replicate, AllD] at h
 | k + 1, c :: css, d :: ds, hA, hb => by
  simp only [List.replicate, AllD] at hA
  simp only [Rows.uptoBulkAll] at hb
  obtain ⟨x, h1, h2⟩ := h _ _ hA.1.1 (by omega)
  obtain ⟨xs, h3, h4, h5⟩ := z9v h k css ds hA.2 (by omega)
  refine ⟨x :: xs, .cons h1 h3, fun y hy => ?_, by simp [h5]⟩
  rcases List.mem_cons.1 hy with rfl | hy
  ·exact h2
  ·exact h4 y hy
theorem zbt {R : TypeId -> List Value -> DataW H -> Prop} {sz : TypeId -> Nat} : ∀ (k : Nat) {ts : List TypeId} {cs : List (List Value)} {ds : List (DataW H)}, AllD R sz ts cs ds -> AllD R sz (ts.take k) (cs.take k) (ds.take k)
 | 0, _, _, _, _ => by simp [AllD]
 | k + 1, [], [], [], _ => by simp [AllD]
 | k + 1, _ :: _, _ :: _, _ :: _, h => by simp only [List.take_succ_cons]; exact ⟨h.1, zbt k h.2⟩
theorem zem {R : TypeId -> List Value -> DataW H -> Prop} {sz : TypeId -> Nat} {e : TypeId} : ∀ (k : Nat) (css : List (List Value)) (ds : List (DataW H)), AllD R sz (List.replicate k e) css ds -> ∀ c ∈ css, c.length = sz e
 | 0, [], [], _, c, hc => by simp at hc
 | 0, _ :: _, _, h, _, _ => by simp [List.replicate, AllD] at h
 | 0, [], _ :: _, h, _, _ => by simp [List.replicate, AllD] at h
 | k + 1, [], _, h, _, _ => by simp [List.replicate, AllD] at h
 | k + 1, _ :: _, [], h, _, _ => by simp [List.replicate, AllD] at h
 | k + 1, c :: css, d :: ds, hA, u, hu => by
  simp only [List.replicate, AllD] at hA
  rcases List.mem_cons.1 hu with rfl | hu
  ·exact hA.1.2
  ·exact zem k css ds hA.2 u hu
theorem Arg.sl (hu : P.underlying t = some (.slice e)) (h : Arg H P G n e r B I) : Arg H P G (n + 1) t (rSl r) B (fun xs => xs.length <= B /\ ∀ x ∈ xs, I x) := fun cs d hA hb => by
 unfold AData at hA
 simp only [hu] at hA
 rcases hA with ⟨h1, h2⟩ | ⟨b, len, cap, elems, spare, css, h1, h2, h3, h4, _, h6, h7⟩
 ·subst h1
  exact ⟨[], zi1, Nat.zero_le _, by simp⟩
 ·subst h2
  simp only [Rows.uptoBulk] at hb
  have hlen := zel elems
  have h8 := zbt len h7
  rw [List.take_replicate, show min len cap = len by omega, <- h3, List.take_left] at h8
  obtain ⟨xs, k1, k2, k3⟩ := z9v h elems.length (css.take elems.length) elems h8 (by omega)
  refine ⟨xs, ?_, by omega, k2⟩
  have hcl := zem _ _ _ h7
  have hel := k1.length
  by_cases hz : elems.length = 0
  ·have hx : xs = [] := List.length_eq_zero_iff.1 (by omega)
   subst hx
   refine ⟨_, [], h1, ⟨by simp, .inr (.inr ⟨b, 0, some 0, cap, by rw [<- h3, hz], rfl, .inr rfl⟩)⟩, .nil⟩
  ·rcases h6 with h6 | ⟨x, g1, _, g3⟩
   ·omega
   ·refine ⟨_, css.take elems.length, h1, ⟨k1.each, .inr (.inl ⟨b, 0, some 0, cap, x, by rw [hel, k3, <- h3], g1, ?_, ?_, by rw [hel, k3]; omega, .inr rfl⟩)⟩, k1⟩
    ·rw [g3]
     have h9 : css.flatten = (css.take elems.length).flatten ++ (css.drop elems.length).flatten := by rw [<- List.flatten_append, List.take_append_drop]
     rw [h9, List.length_append, k1.flatLen, hel]; omega
    ·rw [g3, List.drop_zero]
     have h9 : css.flatten = (css.take elems.length).flatten ++ (css.drop elems.length).flatten := by rw [<- List.flatten_append, List.take_append_drop]
     have h10 : (css.take elems.length).length * r.sz = (css.take elems.length).flatten.length := by rw [k1.flatLen, hel]
     rw [h9, h10, List.take_left]
theorem Arg.arr {k : Nat} (hu : P.underlying t = some (.array k e)) (h : Arg H P G n e r B I) : Arg H P G (n + 1) t (rArr k r) B (fun xs => xs.length = k /\ ∀ x ∈ xs, I x) := fun cs d hA hb => by
 unfold AData at hA
 simp only [hu] at hA
 obtain ⟨css, parts, h1, h2, h3⟩ := hA
 subst h2
 simp only [Rows.uptoBulk] at hb
 obtain ⟨xs, k1, k2, k3⟩ := z9v h k css parts h3 (by omega)
 exact ⟨xs, ⟨k3, css, h1, k1⟩, k3, k2⟩
theorem ArgS.one (h : Arg H P G n t r B I) : ArgS H P G n [t] r B I := fun css ds hA hb => by
 match css, ds, hA with
 | [c], [d], hA =>
  simp only [Rows.uptoBulkAll] at hb
  obtain ⟨x, h1, h2⟩ := h c d hA.1.1 (by omega)
  exact ⟨x, by simpa using h1, h2⟩
 | [], _, hA => simp [AllD] at hA
 | _ :: _ :: _, [], hA => simp [AllD] at hA
 | _ :: _ :: _, [_], hA => simp [AllD] at hA
 | _ :: _ :: _, _ :: _ :: _, hA => simp [AllD] at hA
 | [_], [], hA => simp [AllD] at hA
 | [_], _ :: _ :: _, hA => simp [AllD] at hA
theorem ArgS.cons {ts : List TypeId} (h : Arg H P G n t r B I) (k : ArgS H P G n ts s B J) : ArgS H P G n (t :: ts) (rP r s) B (fun x => I x.1 /\ J x.2) := fun css ds hA hb => by
 match css, ds, hA with
 | c :: css, d :: ds, hA =>
  simp only [Rows.uptoBulkAll] at hb
  obtain ⟨x, h1, h2⟩ := h c d hA.1.1 (by omega)
  obtain ⟨y, h3, h4⟩ := k css ds hA.2 (by omega)
  exact ⟨(x, y), ⟨c, css.flatten, by simp, h1, h3⟩, h2, h4⟩
 | [], _, hA => simp [AllD] at hA
 | _ :: _, [], hA => simp [AllD] at hA
theorem Arg.struct {fs : Array Field} {ts : List TypeId} (hu : P.underlying t = some (.struct fs)) (hts : fs.toList.map (·.type) = ts) (h : ArgS H P G n ts r B I) (f : S -> α) (g : α -> S) (hg : ∀ p, f (g p) = p) : Arg H P G (n + 1) t (rIso r f) B (fun x => I (f x)) := fun cs d hA hb => by
 unfold AData at hA
 simp only [hu] at hA
 obtain ⟨css, parts, h1, h2, h3⟩ := hA
 subst h2
 simp only [Rows.uptoBulk] at hb
 rw [hts] at h3
 obtain ⟨p, k1, k2⟩ := h css parts h3 (by omega)
 exact ⟨g p, by rw [h1]; show r.rep G css.flatten (f (g p)); rw [hg]; exact k1, by show I (f (g p)); rw [hg]; exact k2⟩
theorem AArgs.cons_inv {ts : List TypeId} {avs : List Value} {ds : List (DataW H)} (h : AArgs P G n (t :: ts) avs ds) : ∃ v vs d dr, avs = v :: vs /\ ds = d :: dr /\ AVal P G n t v d /\ AArgs P G n ts vs dr := by
 match avs, ds, h with
 | v :: vs, d :: dr, h => exact ⟨v, vs, d, dr, rfl, rfl, h.1, h.2⟩
 | [], _, h => simp [AArgs] at h
 | _ :: _, [], h => simp [AArgs] at h
theorem AArgs.nil_inv {avs : List Value} {ds : List (DataW H)} (h : AArgs P G n [] avs ds) : avs = [] /\ ds = [] := by
 match avs, ds, h with
 | [], [], h => exact ⟨rfl, rfl⟩
 | [], _ :: _, h => simp [AArgs] at h
 | _ :: _, _, h => simp [AArgs] at h
theorem AVal.one {v : Value} {d : DataW H} (hu : z30 P t = some false) (h : AVal P G n t v d) : AData P G n t [v] d := by
 unfold AVal at h
 unfold z30 at hu
 split at h
 ·rename_i q; rw [q] at hu; cases hu
 ·rename_i q; rw [q] at hu; cases hu
 ·exact h
theorem AVal.agg {v : Value} {d : DataW H} (hu : z30 P t = some true) (h : AVal P G n t v d) : ∃ cs, v = .agg (List.toArray cs) /\ AData P G n t cs d := by
 unfold AVal at h
 unfold z30 at hu
 split at h
 ·exact h
 ·exact h
 ·rename_i q1 q2
  split at hu
  ·rename_i q; exact absurd q (q1 _)
  ·rename_i q; exact absurd q (q2 _ _)
  ·cases hu
  ·cases hu
theorem Ow.empty (A : AH) : Ow A.get A [] := ⟨fun _ _ h => h, fun i e h => by simp at h, fun i j e e' _ h => by simp at h, fun i e h => by simp at h⟩
theorem CR.done {f : FuncId} {args : List Value} {A : AH} {b : Value} (h : CR P f args A.get A [] fun v _ _ => v = b) : ∃ A', ACalls P f args A b A' := by
 obtain ⟨v, H', G', h1, _, _, rfl⟩ := h
 exact ⟨H', h1⟩
end
end Go.Am
/- NettextPrints over the statement's reading of its arguments. -/
namespace Go.Am.Tryd
open Go Go.Am Go.Proofs Go.Proofs.YtmdhkaombnamkaaDoor
theorem zhj {H : Type} {G : GM} {B n : Nat} : Arg H Tryd.prog G (n + 2) 64 z19 B (zei B) := by
 have h : ArgS H Tryd.prog G (n + 1) [9, 9, 9, 4, 4] _ B _ := (ArgS.cons (Arg.str (t := 9) (by kernel_rfl)) (ArgS.cons (Arg.str (t := 9) (by kernel_rfl)) (ArgS.cons (Arg.str (t := 9) (by kernel_rfl)) (ArgS.cons (Arg.bool (t := 4) (by kernel_rfl)) (ArgS.one (Arg.bool (t := 4) (by kernel_rfl)))))))
 exact Arg.mono (Arg.struct (fs := #[{ name := "Name", type := 9, offset := 0, embedded := false, tag := "", pkgPath := "", byteOffset := 0 }, { name := "A", type := 9, offset := 1, embedded := false, tag := "", pkgPath := "", byteOffset := 16 }, { name := "B", type := 9, offset := 2, embedded := false, tag := "", pkgPath := "", byteOffset := 32 }, { name := "Breaker", type := 4, offset := 3, embedded := false, tag := "", pkgPath := "", byteOffset := 48 }, { name := "Open", type := 4, offset := 4, embedded := false, tag := "", pkgPath := "", byteOffset := 49 }]) (by kernel_rfl) rfl h _ (fun p : zAd × zAd × zAd × Bool × Bool => Switch.mk p.1 p.2.1 p.2.2.1 p.2.2.2.1 p.2.2.2.2) (fun _ => rfl)) fun _ h => h
theorem zhk {H : Type} {G : GM} {B n : Nat} : Arg H Tryd.prog G (n + 2) 69 z0f B (zej B) := by
 have h : ArgS H Tryd.prog G (n + 1) [9, 9, 9, 3, 3, 3, 3, 3, 3] _ B _ := (ArgS.cons (Arg.str (t := 9) (by kernel_rfl)) (ArgS.cons (Arg.str (t := 9) (by kernel_rfl)) (ArgS.cons (Arg.str (t := 9) (by kernel_rfl)) (ArgS.cons (Arg.int (t := 3) (k := .i64) (by kernel_rfl)) (ArgS.cons (Arg.int (t := 3) (k := .i64) (by kernel_rfl)) (ArgS.cons (Arg.int (t := 3) (k := .i64) (by kernel_rfl)) (ArgS.cons (Arg.int (t := 3) (k := .i64) (by kernel_rfl)) (ArgS.cons (Arg.int (t := 3) (k := .i64) (by kernel_rfl)) (ArgS.one (Arg.int (t := 3) (k := .i64) (by kernel_rfl)))))))))))
 exact Arg.mono (Arg.struct (fs := #[{ name := "Name", type := 9, offset := 0, embedded := false, tag := "", pkgPath := "", byteOffset := 0 }, { name := "From", type := 9, offset := 1, embedded := false, tag := "", pkgPath := "", byteOffset := 16 }, { name := "To", type := 9, offset := 2, embedded := false, tag := "", pkgPath := "", byteOffset := 32 }, { name := "X", type := 3, offset := 3, embedded := false, tag := "", pkgPath := "", byteOffset := 48 }, { name := "Tap", type := 3, offset := 4, embedded := false, tag := "", pkgPath := "", byteOffset := 56 }, { name := "Shift", type := 3, offset := 5, embedded := false, tag := "", pkgPath := "", byteOffset := 64 }, { name := "Limit", type := 3, offset := 6, embedded := false, tag := "", pkgPath := "", byteOffset := 72 }, { name := "Short", type := 3, offset := 7, embedded := false, tag := "", pkgPath := "", byteOffset := 80 }, { name := "Hold", type := 3, offset := 8, embedded := false, tag := "", pkgPath := "", byteOffset := 88 }]) (by kernel_rfl) rfl h _ (fun p : zAd × zAd × zAd × Int × Int × Int × Int × Int × Int => Branch.mk p.1 p.2.1 p.2.2.1 p.2.2.2.1 p.2.2.2.2.1 p.2.2.2.2.2.1 p.2.2.2.2.2.2.1 p.2.2.2.2.2.2.2.1 p.2.2.2.2.2.2.2.2) (fun _ => rfl)) fun _ h => h
theorem zk0 {H : Type} {G : GM} {B n : Nat} : Arg H Tryd.prog G (n + 2) 71 z4w B (zjm B) := by
 have h : ArgS H Tryd.prog G (n + 1) [9, 9, 3, 3, 3] _ B _ := (ArgS.cons (Arg.str (t := 9) (by kernel_rfl)) (ArgS.cons (Arg.str (t := 9) (by kernel_rfl)) (ArgS.cons (Arg.int (t := 3) (k := .i64) (by kernel_rfl)) (ArgS.cons (Arg.int (t := 3) (k := .i64) (by kernel_rfl)) (ArgS.one (Arg.int (t := 3) (k := .i64) (by kernel_rfl)))))))
 exact Arg.mono (Arg.struct (fs := #[{ name := "Name", type := 9, offset := 0, embedded := false, tag := "", pkgPath := "", byteOffset := 0 }, { name := "Node", type := 9, offset := 1, embedded := false, tag := "", pkgPath := "", byteOffset := 16 }, { name := "Least", type := 3, offset := 2, embedded := false, tag := "", pkgPath := "", byteOffset := 32 }, { name := "Most", type := 3, offset := 3, embedded := false, tag := "", pkgPath := "", byteOffset := 40 }, { name := "Ramp", type := 3, offset := 4, embedded := false, tag := "", pkgPath := "", byteOffset := 48 }]) (by kernel_rfl) rfl h _ (fun p : zAd × zAd × Int × Int × Int => Gen.mk p.1 p.2.1 p.2.2.1 p.2.2.2.1 p.2.2.2.2) (fun _ => rfl)) fun _ h => h
theorem zik {H : Type} {G : GM} {B n : Nat} : Arg H Tryd.prog G (n + 2) 45 z27 B (zgd B) := by
 have h : ArgS H Tryd.prog G (n + 1) [9, 9, 3] _ B _ := (ArgS.cons (Arg.str (t := 9) (by kernel_rfl)) (ArgS.cons (Arg.str (t := 9) (by kernel_rfl)) (ArgS.one (Arg.int (t := 3) (k := .i64) (by kernel_rfl)))))
 exact Arg.mono (Arg.struct (fs := #[{ name := "Name", type := 9, offset := 0, embedded := false, tag := "", pkgPath := "", byteOffset := 0 }, { name := "Node", type := 9, offset := 1, embedded := false, tag := "", pkgPath := "", byteOffset := 16 }, { name := "Demand", type := 3, offset := 2, embedded := false, tag := "", pkgPath := "", byteOffset := 32 }]) (by kernel_rfl) rfl h _ (fun p : zAd × zAd × Int => Load_.mk p.1 p.2.1 p.2.2) (fun _ => rfl)) fun _ h => h
theorem zil {H : Type} {G : GM} {B n : Nat} : Arg H Tryd.prog G (n + 2) 73 z1f B (zge B) := by
 have h : ArgS H Tryd.prog G (n + 1) [9, 9, 3, 3, 3] _ B _ := (ArgS.cons (Arg.str (t := 9) (by kernel_rfl)) (ArgS.cons (Arg.str (t := 9) (by kernel_rfl)) (ArgS.cons (Arg.int (t := 3) (k := .i64) (by kernel_rfl)) (ArgS.cons (Arg.int (t := 3) (k := .i64) (by kernel_rfl)) (ArgS.one (Arg.int (t := 3) (k := .i64) (by kernel_rfl)))))))
 exact Arg.mono (Arg.struct (fs := #[{ name := "Name", type := 9, offset := 0, embedded := false, tag := "", pkgPath := "", byteOffset := 0 }, { name := "Node", type := 9, offset := 1, embedded := false, tag := "", pkgPath := "", byteOffset := 16 }, { name := "Charge", type := 3, offset := 2, embedded := false, tag := "", pkgPath := "", byteOffset := 32 }, { name := "Discharge", type := 3, offset := 3, embedded := false, tag := "", pkgPath := "", byteOffset := 40 }, { name := "Capacity", type := 3, offset := 4, embedded := false, tag := "", pkgPath := "", byteOffset := 48 }]) (by kernel_rfl) rfl h _ (fun p : zAd × zAd × Int × Int × Int => Store.mk p.1 p.2.1 p.2.2.1 p.2.2.2.1 p.2.2.2.2) (fun _ => rfl)) fun _ h => h
theorem zbu {H : Type} {G : GM} {B n : Nat} : Arg H Tryd.prog G (n + 4) 29 z00 B (z7i B) := by
 have h : ArgS H Tryd.prog G (n + 3) [22, 23, 24, 25, 26, 27] _ B _ := (ArgS.cons (Arg.sl (t := 22) (e := 9) (by kernel_rfl) (Arg.str (t := 9) (by kernel_rfl))) (ArgS.cons (Arg.sl (t := 23) (e := 64) (by kernel_rfl) zhj) (ArgS.cons (Arg.sl (t := 24) (e := 69) (by kernel_rfl) zhk) (ArgS.cons (Arg.sl (t := 25) (e := 71) (by kernel_rfl) zk0) (ArgS.cons (Arg.sl (t := 26) (e := 45) (by kernel_rfl) zik) (ArgS.one (Arg.sl (t := 27) (e := 73) (by kernel_rfl) zil)))))))
 exact Arg.mono (Arg.struct (fs := #[{ name := "Nodes", type := 22, offset := 0, embedded := false, tag := "", pkgPath := "", byteOffset := 0 }, { name := "Switches", type := 23, offset := 1, embedded := false, tag := "", pkgPath := "", byteOffset := 24 }, { name := "Branches", type := 24, offset := 2, embedded := false, tag := "", pkgPath := "", byteOffset := 48 }, { name := "Gens", type := 25, offset := 3, embedded := false, tag := "", pkgPath := "", byteOffset := 72 }, { name := "Loads", type := 26, offset := 4, embedded := false, tag := "", pkgPath := "", byteOffset := 96 }, { name := "Stores", type := 27, offset := 5, embedded := false, tag := "", pkgPath := "", byteOffset := 120 }]) (by kernel_rfl) rfl h _ (fun p : List zAd × List Switch × List Branch × List Gen × List Load_ × List Store => Network.mk p.1 p.2.1 p.2.2.1 p.2.2.2.1 p.2.2.2.2.1 p.2.2.2.2.2) (fun _ => rfl)) fun _ h => h
theorem nettextPrints {H : Type} (A : AH) (avs : List Value) (ds : List (DataW H)) (hb : Rows.uptoBulkAll ds <= 1048576) (ha : AArgs Tryd.prog A.get 4 [29, 29] avs ds) : ∃ A', ACalls Tryd.prog 3 avs A (.bool true) A' := by
 obtain ⟨v0, vs0, d0, ds0, rfl, rfl, a0, ha⟩ := AArgs.cons_inv ha
 obtain ⟨v1, vs1, d1, ds1, rfl, rfl, a1, ha⟩ := AArgs.cons_inv ha
 obtain ⟨rfl, rfl⟩ := AArgs.nil_inv ha
 simp only [Rows.uptoBulkAll] at hb
 obtain ⟨c0, e0, b0⟩ := AVal.agg (by kernel_rfl) a0
 obtain ⟨x0, r0, i0⟩ := (zbu : Arg H Tryd.prog A.get 4 29 _ 1048576 _) c0 d0 b0 (by omega)
 subst e0
 obtain ⟨c1, e1, b1⟩ := AVal.agg (by kernel_rfl) a1
 obtain ⟨x1, r1, i1⟩ := (zbu : Arg H Tryd.prog A.get 4 29 _ 1048576 _) c1 d1 b1 (by omega)
 subst e1
 obtain ⟨K, hK⟩ := z7s i0 i1
 exact CR.done (z67 K c0 x0 r0 c1 x1 r1 (Ow.empty A) true hK)
end Go.Am.Tryd
