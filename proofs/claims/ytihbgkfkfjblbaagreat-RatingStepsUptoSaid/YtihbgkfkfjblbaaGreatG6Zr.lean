/- Typed functions with the same answers as the program's, and the walks that show it. -/
import Derived.Test.YtihbgkfkfjblbaaGreatG2Zr
import Derived.Test.YtihbgkfkfjblbaaGreatG5Zr
set_option maxRecDepth 100000
set_option maxHeartbeats 8000000
set_option linter.unusedVariables false
set_option linter.unusedSimpArgs false
namespace Go.Am.Tryz
open Go Go.Am Go.Proofs
variable (K : Nat) {G : GM} {H : AH} {L : List Pc}
def z3f (K : Nat) (a : zAd) : Nat -> Int -> Int -> Option (Int)
  | 0, _, _ => none
  | k + 1, c, b => (if (decide (b < ((z04 a).length : Int))) = true then ((idx (z04 a) b).bind fun d => (lt (z03 .u32 ((z03 .u32 (c * 10)) + (IntKind.wrap .u32 (z03 .u8 (d - 48))))) fun e => z3f K a k e (z03 .i64 (b + 1)))) else some c)
def z40 (K : Nat) (d : zAd) : Nat -> List Int -> Int -> Option (List Int)
  | 0, _, _ => none
  | k + 1, c, a => (if (decide (a > 0)) = true then ((ssl d (imax 0 (z03 .i64 (a - 9))) a).bind fun e => (Option.bind (z3f K e K 0 0) (tu1 fun b => (if c.length + [b].length <= 16777216 then z40 K d k (c ++ [b]) (z03 .i64 (a - 9)) else none)))) else some c)
def z6r (K : Nat) (a : zAd) : Option (List Int) := (Option.bind (z40 K a K [] (a.size : Int)) (tu1 fun b => ((z2t K b).bind fun c => some c)))
theorem z7s (g : zAd) (O : Ow G H (L)) (r : List Int) (h : z6r K g = some r) :
    CRF Tryz.prog 51 [(.string g)] G H (fun aa => (eSl aa 119 (rI .u32) r :: L)) (fun aa v c => aa = v) := by
 unfold z6r at h
 refine CRF.og (n := 39) (fn := Tryz.f51) (by kernel_rfl) rfl rfl fun R kr => (.seq (.region (W.p1 (.slice none 0 0) (.nil (.seq (.region ?_))))))
 refine W.p1 (.slice none 0 0) (.nil (.seq (.seq (.region (W.p2 (.string g) (W.pv (.int .i64 (g.size : Int)) (z2c ov un9) ?_))))))
 refine W.p1 (.int .i64 (g.size : Int)) (.nil ?_)
 obtain ⟨ad, aP, aQ⟩ := z00 h
 refine AW.midT (fun a l => ∃ (d : List Int) (c : GM), d = ad /\ Ow c l (eSl (a 3) 119 (rI .u32) d :: L) /\ GM.le G c) ?_ ?_
 rotate_left
 .rintro u a1 aR ⟨ae, a2, rfl, af, ag⟩
  have ah := z0a aQ
  refine .seq (.region (W.p2 (u 3) ?_))
  obtain ⟨a3, ai, aj⟩ := z00 ah
  refine W.ln (Lo.qF Tryz.f67 (ps := [_]) (pw := fun w => [_]) (mc rfl mn) af (fun bg aS => z3t K (u 3) ae aS _ ai)) ?_
  rintro a4 a5 ⟨x, a6, ak, al, aT, rfl⟩
  refine W.p1 x (.nil (.ret ?_))
  obtain rfl := zAa aj
  exact z4j kr x (v1 := x) (by rfl) rt ak (zAe ag al) rfl
 refine .block ?_
 have aU := O.nilSl 119 (rI .u32)
 refine AW.loop (α := Nat) (fun m a l => ∃ (d : List Int) (y : Int) (c : GM), z40 K g m d y = some ad /\ Ow c l (eSl (a 3) 119 (rI .u32) d :: L) /\ GM.le G c /\ a 4 = .int .i64 y) (fun m => m) K ⟨[], (g.size : Int), _, aP, aU, (zAf _), rfl⟩ ?_
 rintro ab
 rintro p bh ac ⟨S, o, a7, q, T, U, s⟩
 rcases ab with _ | ab
 .exact z09 q
 rw [z40] at q
 refine .seq (.seq (.region (W.q2 _ s (W.p3 (.bool (decide (o > 0))) (.nil (.cond (b := decide (o > 0)) rfl rfl (fun z => ?_) (fun z => ?_)))))))
 rotate_left
 .have am := z0h z q
  refine .exit ?_
  obtain rfl := zAa am
  exact ⟨S, _, rfl, T, U⟩
 have an := z01 z q
 refine .skip (.seq (.block (.seq (.region (W.p1 (.int .u32 0) (.nil ?_))))))
 refine .seq (.seq (.region (W.q2 (.string g) (ft (ac 0 rfl) rfl) (W.q2 _ s (W.p3 (.int .i64 (z03 .i64 (o - 9))) (W.pv (.int .i64 (imax 0 (z03 .i64 (o - 9)))) (zpz ov ov) ?_))))))
 refine W.q2 _ s ?_
 obtain ⟨i, ao, ap⟩ := z00 an
 refine W.pv (.string i) (zl8 un9 ov ov ov ao) (W.ln (Lo.bytes rfl un9 zjz in5 rfl T) ?_)
 rintro aq a8 ⟨V, ar, au, aV, A⟩
 refine W.pv (.int .i64 ((z04 i).length : Int)) (z0q ov (z0g A) (z05 zjz)) (W.p2 (.int .i64 0) (.nil ?_))
 obtain ⟨X, av, aw⟩ := z00 ap
 refine AW.midT (fun a l => ∃ (d : Int) (c : GM), d = X /\ Ow c l (eSl (p 3) 119 (rI .u32) S :: L) /\ GM.le V c /\ a 5 = .int .u32 d) ?_ ?_
 rotate_left
 .rintro aW a9 B ⟨C, ba, rfl, ax, ay, az⟩
  have aA := z0a aw
  refine .region (W.q2 (p 3) (ft (B 3 rfl) rfl) (W.q2 _ az (W.ln (Lo.buildSlice (r := (rI .u32)) (vs := [(.int .u32 C)]) (xs := [C]) el71 zet z5s (by kernel_rfl) rfl (qc rfl qn) rfl (.cons rfl .nil) ax) ?_)))
  rintro bb bc ⟨Y, aX⟩
  obtain ⟨aY, aB, aC⟩ := z4a (j := 0) rfl Y
  obtain ⟨aD, aE⟩ := z2b aA
  refine W.ln (Lo.append (j := 1) (v := (p 3)) rfl rfl el71 ni71 zet z5s zlh (by decide) (by decide) rfl aB aC aD Y) ?_
  rintro aF bd ⟨aG, aZ⟩
  refine W.p1 aF (.nil (.region (W.q2 _ (ft (B 4 rfl) s) (W.p3 (.int .i64 (z03 .i64 (o - 9))) (W.p1 (.int .i64 (z03 .i64 (o - 9))) (.nil ?_))))))
  have aH := aG.drop 0
  exact ⟨ab, zAg _, ⟨(S ++ [C]), z03 .i64 (o - 9), _, aE, aH, (zAe U (zAe au ay)), rfl⟩⟩
 refine .block (AW.loop (α := Nat) (fun m a l => ∃ (d : Int) (y : Int) (c : GM), z3f K i m d y = some X /\ Ow c l (eSl (p 3) 119 (rI .u32) S :: L) /\ GM.le V c /\ a 5 = .int .u32 d /\ a 22 = .int .i64 y) (fun m => m) K ⟨0, 0, _, av, ar, (zAf _), rfl, rfl⟩ ?_)
 rintro E
 rintro a0 be F ⟨I, e, bf, t, J, k, Z, M⟩
 rcases E with _ | E
 .exact z09 t
 rw [z3f] at t
 refine .seq (.region (W.q3 (.bool (decide (e < ((z04 i).length : Int)))) M (ft (F 21 rfl) rfl) (.nil (.seq (.cond (b := decide (e < ((z04 i).length : Int))) rfl rfl (fun N => ?_) (fun N => ?_))))))
 rotate_left
 .have aI := z0h N t
  refine .exit ?_
  obtain rfl := zAa aI
  exact ⟨I, _, rfl, J, k, Z⟩
 have aJ := z01 N t
 refine .skip (.seq (.block (.seq (.region ?_))))
 obtain ⟨f, aK, aL⟩ := z00 aJ
 have P := z0c aK
 refine W.pv (z1v aq (e.toNat * 1)) (z2a zjz sz5 (ou (ft (F 20 rfl) rfl)) (ou M) (z0g (RT.mono _ k A)) P.1 P.2.1) (W.l1 (.int .u8 f) ag5 (z0i rfl (At.int (At.le (At.le (z1h A P.2.2) k k) (zAf _) J.fro))) (W.p1 (.int .u8 f) (.nil (.region (W.q2 _ Z (W.p3 (.int .u32 (z03 .u32 (I * 10))) ?_))))))
 refine W.p2 (.int .u8 f) (W.p3 (.int .u8 (z03 .u8 (f - 48))) (W.pv (.int .u32 (IntKind.wrap .u32 (z03 .u8 (f - 48)))) (z5e in5 zbn ov) (W.p3 (.int .u32 (z03 .u32 ((z03 .u32 (I * 10)) + (IntKind.wrap .u32 (z03 .u8 (f - 48)))))) ?_)))
 obtain ⟨aM, aN, aO⟩ := z71 aL
 refine W.q1 _ (congrArg (Value.int .u32) aN) (.nil (.region (W.r3 (.int .i64 (z03 .i64 (e + 1))) M (W.p2 (.int .i64 (z03 .i64 (e + 1))) (.nil ?_)))))
 exact ⟨E, zAg _, ⟨aM, z03 .i64 (e + 1), _, aO, J, k, rfl, rfl⟩⟩
def z2n (K : Nat) (b : List Int) (c : List Int) : Nat -> Int -> Option (Int ⊕ Unit)
  | 0, _ => none
  | k + 1, a => (if (decide (a >= 0)) = true then ((idx b a).bind fun d => ((idx c a).bind fun e => (if (decide (d < e)) = true then some (.inl (-1)) else ((idx b a).bind fun f => ((idx c a).bind fun g => (if (decide (f > g)) = true then some (.inl 1) else z2n K b c k (z03 .i64 (a - 1)))))))) else some (.inr ()))
def z5o (K : Nat) (a : List Int) (b : List Int) : Option Int := (if ((a.length : Int) != (b.length : Int)) = true then (if (decide ((a.length : Int) < (b.length : Int))) = true then some (-1) else some 1) else (z70 (z2n K a b K (z03 .i64 ((a.length : Int) - 1))) (tu1 fun c => some c) (tu0 (some 0))))
theorem z75 (i : Value) (d : List Int) (e : (rSl (rI .u32)).rep G [i] d) (v1 : Value) (j : List Int) (f : (rSl (rI .u32)).rep G [v1] j) (O : Ow G H (L)) (r : Int) (h : z5o K d j = some r) :
    CR Tryz.prog 78 [i, v1] G H (L) (fun v u _ => v = .int .i64 r) := by
 unfold z5o at h
 refine CR.og (n := 43) (fn := Tryz.f78) (by kernel_rfl) rfl rfl fun R kr => (.seq (.region (W.p1 (.int .i64 0) (.nil (.seq (.seq ?_))))))
 refine .region (W.p2 i (W.pv (.int .i64 (d.length : Int)) (z0q ov (z0g e) (z05 el71)) (W.p2 v1 (W.pv (.int .i64 (j.length : Int)) (z0q ov (z0g f) (z05 el71)) (W.p3 (.bool ((d.length : Int) != (j.length : Int))) (.nil ?_))))))
 refine .cond (b := ((d.length : Int) != (j.length : Int))) rfl rfl (fun P => ?_) (fun P => ?_)
 .have X := z01 P h
  refine .seq (.seq (.region (W.p2 i (W.pv (.int .i64 (d.length : Int)) (z0q ov (z0g e) (z05 el71)) (W.p2 v1 (W.pv (.int .i64 (j.length : Int)) (z0q ov (z0g f) (z05 el71)) ?_))))))
  refine W.p3 (.bool (decide ((d.length : Int) < (j.length : Int)))) (.nil (.cond (b := decide ((d.length : Int) < (j.length : Int))) rfl rfl (fun S => ?_) (fun S => ?_)))
  .have av := z01 S X
   refine .seq (.region (W.p1 (.int .i64 (-1)) (.nil (.ret ?_))))
   obtain rfl := zAa av
   exact z1m kr (v1 := (.int .i64 (-1))) (by rfl) rt O (zAf _) rfl
  have aw := z0h S X
  refine .skip (.seq (.region (W.p1 (.int .i64 1) (.nil (.ret ?_)))))
  obtain rfl := zAa aw
  exact z1m kr (v1 := (.int .i64 1)) (by rfl) rt O (zAf _) rfl
 have ax := z0h P h
 refine .skip (.seq (.seq (.region (W.p2 i (W.pv (.int .i64 (d.length : Int)) (z0q ov (z0g e) (z05 el71)) (W.p3 (.int .i64 (z03 .i64 ((d.length : Int) - 1))) ?_))))))
 refine W.p1 (.int .i64 (z03 .i64 ((d.length : Int) - 1))) (.nil ?_)
 obtain ⟨Y, ay, T⟩ := z1w ax
 refine AW.midT (fun F U => ∃  (u : GM), (.inr ()) = Y /\ Ow u U (L) /\ GM.le G u) ?_ ?_
 rotate_left
 .rintro az aC aA ⟨aD, rfl, Z, aa⟩
  have ab := z7i (z72 T)
  refine .seq (.region (W.p1 (.int .i64 0) (.nil (.ret ?_))))
  obtain rfl := zAa ab
  exact z1m kr (v1 := (.int .i64 0)) (by rfl) rt Z aa rfl
 refine .block (AW.loop (α := Nat) (fun V F U => ∃ (ac : Int) (u : GM), z2n K d j V ac = some Y /\ Ow u U (L) /\ GM.le G u /\ F 5 = .int .i64 ac) (fun V => V) K ⟨z03 .i64 ((d.length : Int) - 1), _, ay, O, (zAf _), rfl⟩ ?_)
 rintro w
 rintro aB aE k ⟨c, aF, l, I, a, g⟩
 rcases w with _ | w
 .exact z09 l
 rw [z2n] at l
 refine .seq (.seq (.region (W.q2 _ g (W.p3 (.bool (decide (c >= 0))) (.nil (.cond (b := decide (c >= 0)) rfl rfl (fun x => ?_) (fun x => ?_)))))))
 rotate_left
 .have ad := z0h x l
  refine .exit ?_
  obtain rfl := zAa ad
  exact ⟨_, rfl, I, a⟩
 have ae := z01 x l
 refine .skip (.seq (.block (.block (.seq (.draw2 (M := [0, 0, 3, 7, 0, 0, 48, 112, 255, 511]) mixed (by kernel_rfl) (by kernel_rfl) fun aG aH af aI => ?_)))))
 have m := I.ext af
 refine D2.q2 i (ft (k 0 rfl) rfl) (D2.q2 _ g ?_)
 obtain ⟨o, ag, ah⟩ := z00 ae
 have y := z0c ag
 refine D2.pv (z1v i (c.toNat * 1)) (z2a el71 z5s ov ov (z0g (RT.mono _ a e)) y.1 y.2.1) (D2.l1 (.int .u32 o) zc6 (z0i rfl (At.int (At.le (At.le (z1h e y.2.2) a a) (zAf _) m.fro))) z08 (D2.q2 v1 (ft (k 1 rfl) rfl) (D2.q2 _ g ?_)))
 obtain ⟨p, ai, J⟩ := z00 ah
 have z := z0c ai
 refine D2.pv (z1v v1 (c.toNat * 1)) (z2a el71 z5s ov ov (z0g (RT.mono _ a f)) z.1 z.2.1) (D2.l1 (.int .u32 p) zc6 (z0i rfl (At.int (At.le (At.le (z1h f z.2.2) a a) (zAf _) m.fro))) z08 (D2.p3 (.bool (decide (o < p))) (D2.p1 (.bool (decide (o < p))) (.nil (.cond (b := decide (o < p)) rfl rfl (fun A => ?_) (fun A => ?_))))))
 .have aj := z01 A J
  refine .seq (.region (W.p1 (.int .i64 (-1)) (.nil (.ret ?_))))
  obtain rfl := zAa aj
  have ak := z0a (z3z T)
  obtain rfl := zAa ak
  exact z1m kr (v1 := (.int .i64 (-1))) (by rfl) rt m a rfl
 have al := z0h A J
 refine .seq (.draw2 (M := [0, 0, 3, 7, 0, 0, 48, 112, 255, 511]) mixed (by kernel_rfl) (by kernel_rfl) fun aJ aK am aL => ?_)
 have q := m.ext am
 refine D2.q2 i (ft (k 0 rfl) rfl) (D2.q2 _ g ?_)
 obtain ⟨s, an, ao⟩ := z00 al
 have B := z0c an
 refine D2.pv (z1v i (c.toNat * 1)) (z2a el71 z5s ov ov (z0g (RT.mono _ a e)) B.1 B.2.1) (D2.l1 (.int .u32 s) zc6 (z0i rfl (At.int (At.le (At.le (z1h e B.2.2) a a) (zAf _) q.fro))) z08 (D2.q2 v1 (ft (k 1 rfl) rfl) (D2.q2 _ g ?_)))
 obtain ⟨t, ap, N⟩ := z00 ao
 have C := z0c ap
 refine D2.pv (z1v v1 (c.toNat * 1)) (z2a el71 z5s ov ov (z0g (RT.mono _ a f)) C.1 C.2.1) (D2.l1 (.int .u32 t) zc6 (z0i rfl (At.int (At.le (At.le (z1h f C.2.2) a a) (zAf _) q.fro))) z08 (D2.p3 (.bool (decide (s > t))) (D2.p1 (.bool (decide (s > t))) (.nil (.cond (b := decide (s > t)) rfl rfl (fun E => ?_) (fun E => ?_))))))
 .have aq := z01 E N
  refine .seq (.region (W.p1 (.int .i64 1) (.nil (.ret ?_))))
  obtain rfl := zAa aq
  have ar := z0a (z3z T)
  obtain rfl := zAa ar
  exact z1m kr (v1 := (.int .i64 1)) (by rfl) rt q a rfl
 have au := z0h E N
 refine .skip (.region (W.q2 _ g (W.p3 (.int .i64 (z03 .i64 (c - 1))) (W.p1 (.int .i64 (z03 .i64 (c - 1))) (.nil ?_)))))
 exact ⟨w, zAg _, ⟨z03 .i64 (c - 1), _, au, q, a, rfl⟩⟩
def z2r (K : Nat) (f : List Int) (b : Int) : Nat -> List Int -> Int -> Int -> Option (List Int × Int)
  | 0, _, _, _ => none
  | k + 1, c, d, a => (if (decide (a >= 0)) = true then ((idx f a).bind fun g => (lt (z03 .u64 ((z03 .u64 (d * 1000000000)) + (IntKind.wrap .u64 g))) fun e => (if (IntKind.wrap .u64 b) ≠ 0 then (lt (IntKind.wrap .u32 (z03 .u64 (Int.tdiv e (IntKind.wrap .u64 b)))) fun h => ((idx c a).bind fun i => (if (IntKind.wrap .u64 b) ≠ 0 then z2r K f b k (List.set c (a.toNat) h) (Int.tmod e (IntKind.wrap .u64 b)) (z03 .i64 (a - 1)) else none))) else none))) else some (c, d))
def z5p (K : Nat) (a : List Int) (f : Int) : Option (List Int × List Int) := (if 0 <= (a.length : Int) /\ (a.length : Int) <= (a.length : Int) /\ (a.length : Int) <= 16777216 then (Option.bind (z2r K a f K (List.replicate (Int.toNat (a.length : Int)) 0) 0 (z03 .i64 ((a.length : Int) - 1))) (tu2 fun b c => ((z2t K b).bind fun d => ((z2t K [IntKind.wrap .u32 c]).bind fun e => some (d, e))))) else none)
theorem z9i (x : Value) (f : List Int) (o : (rSl (rI .u32)).rep G [x] f) (e : Int) (O : Ow G H (L)) (r : List Int × List Int) (h : z5p K f e = some r) :
    CR Tryz.prog 99 [x, (.int .u32 e)] G H (L) (fun v k _ => ∃ (Z : Value), ∃ (aa : Value), v = .tuple #[Z, aa] /\ (rSl (rI .u32)).rep k [Z] r.1 /\ (rSl (rI .u32)).rep k [aa] r.2) := by
 unfold z5p at h
 refine CR.og (n := 45) (fn := Tryz.f99) (by kernel_rfl) rfl rfl fun R kr => (.seq (.region (W.p1 (.slice none 0 0) (W.p1 (.slice none 0 0) (.nil (.seq ?_))))))
 refine .region (W.p2 x (W.pv (.int .i64 (f.length : Int)) (z0q ov (z0g o) (z05 el71)) ?_))
 obtain ⟨aO, aP⟩ := z2b h
 refine W.ln (Lo.makeSlice (r := (rI .u32)) (x0 := 0) (a := (f.length : Int)) (c := (f.length : Int)) rfl el71 zet z5s (by kernel_rfl) rfl zlh (by decide) rfl rfl aO (zI .u32) O) ?_
 rintro m bj ⟨aQ, a0⟩
 refine W.p1 m (.nil (.seq (.region (W.p1 (.int .u64 0) (.nil (.seq ?_))))))
 refine .seq (.region (W.p2 x (W.pv (.int .i64 (f.length : Int)) (z0q ov (z0g o) (z05 el71)) (W.p3 (.int .i64 (z03 .i64 ((f.length : Int) - 1))) (W.p1 (.int .i64 (z03 .i64 ((f.length : Int) - 1))) (.nil ?_))))))
 obtain ⟨ab, aR, aS⟩ := z00 aP
 refine AW.midT (fun p U => ∃ (y : List Int) (z : Int) (k : GM), (y, z) = ab /\ Ow k U (eSl m 119 (rI .u32) y :: L) /\ GM.le G k /\ p 7 = .int .u64 z) ?_ ?_
 rotate_left
 .rintro aT a1 V ⟨ac, q, a2, rfl, ad, ae, af⟩
  have ag := z3c aS
  refine .seq (.region (W.q2 m (ft (V 6 rfl) rfl) ?_))
  obtain ⟨a3, ah, ai⟩ := z00 ag
  refine W.ln (Lo.qF Tryz.f67 (ps := [_]) (pw := fun w => [_]) (mc rfl mn) ad (fun aU X => z3t K m ac X _ ah)) ?_
  rintro a4 a5 ⟨A, a6, aj, ak, aV, rfl⟩
  refine W.q2 _ af (W.pv (.int .u32 (IntKind.wrap .u32 q)) (z5e zeb zbn ov) (W.ln (Lo.buildSlice (r := (rI .u32)) (vs := [(.int .u32 (IntKind.wrap .u32 q))]) (xs := [IntKind.wrap .u32 q]) el71 zet z5s (by kernel_rfl) rfl (qc rfl qn) rfl (.cons rfl .nil) aj) ?_))
  rintro al a7 ⟨am, aW⟩
  obtain ⟨a8, an, ao⟩ := z00 ai
  refine W.ln (Lo.qF Tryz.f67 (ps := [_]) (pw := fun w => [_]) (mc rfl mn) am (fun aU X => z3t K al [IntKind.wrap .u32 q] X _ an)) ?_
  rintro a9 ba ⟨B, bb, ap, aq, aX, rfl⟩
  refine W.p1 A (W.p1 B (.nil (.ret ?_)))
  obtain ⟨bc, ar, au, av⟩ := ap.frzSl (j := 1) rfl
  obtain ⟨bd, aw, P, ax⟩ := ar.frzSl (j := 0) rfl
  obtain rfl := zAa ao
  exact zp4 kr (v1 := A) (v2 := B) (by rfl) rt rt aw (zAe ae (zAe ak (zAe aq (zAe au P)))) ⟨A, B, rfl, (RT.mono _ P av), ax⟩
 refine .block (AW.loop (α := Nat) (fun Y p U => ∃ (y : List Int) (z : Int) (ay : Int) (k : GM), z2r K f e Y y z ay = some ab /\ Ow k U (eSl m 119 (rI .u32) y :: L) /\ GM.le G k /\ p 7 = .int .u64 z /\ p 8 = .int .i64 ay) (fun Y => Y) K ⟨(List.replicate (Int.toNat (f.length : Int)) 0), 0, z03 .i64 ((f.length : Int) - 1), _, aR, aQ, (zAf _), rfl, rfl⟩ ?_)
 rintro C
 rintro aY be i ⟨S, E, d, bf, s, t, l, T, u⟩
 rcases C with _ | C
 .exact z09 s
 rw [z2r] at s
 refine .seq (.seq (.region (W.q2 _ u (W.p3 (.bool (decide (d >= 0))) (.nil (.cond (b := decide (d >= 0)) rfl rfl (fun F => ?_) (fun F => ?_)))))))
 rotate_left
 .have az := z0h F s
  refine .exit ?_
  obtain rfl := zAa az
  exact ⟨S, E, _, rfl, t, l, T⟩
 have aA := z01 F s
 refine .skip (.seq (.block (.seq (.region (W.q2 _ T (W.p3 (.int .u64 (z03 .u64 (E * 1000000000))) ?_))))))
 refine W.q2 x (ft (i 0 rfl) rfl) (W.q2 _ u ?_)
 obtain ⟨I, aB, aC⟩ := z00 aA
 have J := z0c aB
 refine W.pv (z1v x (d.toNat * 1)) (z2a el71 z5s ov ov (z0g (RT.mono _ l o)) J.1 J.2.1) (W.l1 (.int .u32 I) zc6 (z0i rfl (At.int (At.le (At.le (z1h o J.2.2) l l) (zAf _) t.fro))) (W.pv (.int .u64 (IntKind.wrap .u64 I)) (z5e zbn zeb ov) (W.p3 (.int .u64 (z03 .u64 ((z03 .u64 (E * 1000000000)) + (IntKind.wrap .u64 I)))) ?_)))
 obtain ⟨g, aD, aE⟩ := z71 aC
 refine W.q1 _ (congrArg (Value.int .u64) aD) (.nil (.seq (.region (W.q2 m (ft (i 6 rfl) rfl) (W.q2 _ u (W.p2 (.int .u64 g) ?_))))))
 refine W.q2 (.int .u32 e) (ft (i 1 rfl) rfl) (W.pv (.int .u64 (IntKind.wrap .u64 e)) (z5e zbn zeb ov) ?_)
 obtain ⟨aF, aG⟩ := z2b aE
 refine W.pv (.int .u64 (z03 .u64 (Int.tdiv g (IntKind.wrap .u64 e)))) (zkz aF ov ov) (W.pv (.int .u32 (IntKind.wrap .u32 (z03 .u64 (Int.tdiv g (IntKind.wrap .u64 e))))) (z5e zeb zbn ov) ?_)
 obtain ⟨M, aH, aI⟩ := z71 aG
 obtain ⟨bg, aJ, aK⟩ := z00 aI
 have N := z0c aJ
 refine W.pv (z1v m (d.toNat * 1)) (z2a el71 z5s ov ov (t.slLen (j := 0) rfl) N.1 N.2.1) (W.ln (Lo.storeSl0 (j := 0) (y0 := M) (v := (.int .u32 M)) rfl N.2.2  rfl z5s rfl (congrArg (Value.int .u32) aH) rfl t) ?_)
 rintro bh bi ⟨aL, aZ⟩
 refine .nil (.region (W.p2 (.int .u64 g) (W.q2 (.int .u32 e) (ft (i 1 rfl) rfl) (W.pv (.int .u64 (IntKind.wrap .u64 e)) (z5e zbn zeb ov) ?_))))
 obtain ⟨aM, aN⟩ := z2b aK
 refine W.pv (.int .u64 (Int.tmod g (IntKind.wrap .u64 e))) (zl0 aM ov ov) (W.p1 (.int .u64 (Int.tmod g (IntKind.wrap .u64 e))) (.nil (.region (W.q2 _ u (W.p3 (.int .i64 (z03 .i64 (d - 1))) (W.p1 (.int .i64 (z03 .i64 (d - 1))) ?_))))))
 refine .nil ?_
 exact ⟨C, zAg _, ⟨(List.set S (d.toNat) M), Int.tmod g (IntKind.wrap .u64 e), z03 .i64 (d - 1), _, aN, aL, l, rfl, rfl⟩⟩
def z3g (K : Nat) (g : List Int) (b : Int) (d : Int) : Nat -> List Int -> Int -> Int -> Option (List Int × Int)
  | 0, _, _, _ => none
  | k + 1, c, e, a => (if (decide (a < (g.length : Int))) = true then ((idx g a).bind fun h => (lt (z03 .u64 ((IntKind.wrap .u64 d) * (IntKind.wrap .u64 h))) fun i => ((idx c (z03 .i64 (b + a))).bind fun j => (lt (z03 .u64 ((z03 .u64 (i + (IntKind.wrap .u64 j))) + e)) fun f => ((idx c (z03 .i64 (b + a))).bind fun l => z3g K g b d k (List.set c (Int.toNat (z03 .i64 (b + a))) (IntKind.wrap .u32 (Int.tmod f 1000000000))) (z03 .u64 (Int.tdiv f 1000000000)) (z03 .i64 (a + 1))))))) else some (c, e))
def z3h (K : Nat) (e : List Int) (b : List Int) : Nat -> List Int -> Int -> Option (List Int)
  | 0, _, _ => none
  | k + 1, c, a => (if (decide (a < (e.length : Int))) = true then ((idx e a).bind fun f => (Option.bind (z3g K b a f K c 0 0) (tu2 fun d g => ((idx d (z03 .i64 (a + (b.length : Int)))).bind fun h => z3h K e b k (List.set d (Int.toNat (z03 .i64 (a + (b.length : Int)))) (IntKind.wrap .u32 g)) (z03 .i64 (a + 1)))))) else some c)
def z50 (K : Nat) (a : List Int) (b : List Int) : Option (List Int) := (if 0 <= (z03 .i64 ((a.length : Int) + (b.length : Int))) /\ (z03 .i64 ((a.length : Int) + (b.length : Int))) <= (z03 .i64 ((a.length : Int) + (b.length : Int))) /\ (z03 .i64 ((a.length : Int) + (b.length : Int))) <= 16777216 then (Option.bind (z3h K a b K (List.replicate (Int.toNat (z03 .i64 ((a.length : Int) + (b.length : Int)))) 0) 0) (tu1 fun c => ((z2t K c).bind fun d => some d))) else none)
theorem z61 (U : Value) (p : List Int) (I : (rSl (rI .u32)).rep G [U] p) (v1 : Value) (f : List Int) (y : (rSl (rI .u32)).rep G [v1] f) (O : Ow G H (L)) (r : List Int) (h : z50 K p f = some r) :
    CRF Tryz.prog 81 [U, v1] G H (fun ap => (eSl ap 119 (rI .u32) r :: L)) (fun ap v o => ap = v) := by
 unfold z50 at h
 refine CRF.og (n := 69) (fn := Tryz.f81) (by kernel_rfl) rfl rfl fun R kr => (.seq (.region (W.p1 (.slice none 0 0) (.nil (.seq (.region ?_))))))
 refine W.p2 U (W.pv (.int .i64 (p.length : Int)) (z0q ov (z0g I) (z05 el71)) (W.p2 v1 (W.pv (.int .i64 (f.length : Int)) (z0q ov (z0g y) (z05 el71)) (W.p3 (.int .i64 (z03 .i64 ((p.length : Int) + (f.length : Int)))) ?_))))
 obtain ⟨a3, a4⟩ := z2b h
 refine W.ln (Lo.makeSlice (r := (rI .u32)) (x0 := 0) (a := (z03 .i64 ((p.length : Int) + (f.length : Int)))) (c := (z03 .i64 ((p.length : Int) + (f.length : Int)))) rfl el71 zet z5s (by kernel_rfl) rfl zlh (by decide) rfl rfl a3 (zI .u32) O) ?_
 rintro m bx ⟨a5, bi⟩
 refine W.p1 m (.nil (.seq (.seq (.region (W.p2 U (W.pv (.int .i64 (p.length : Int)) (z0q ov (z0g I) (z05 el71)) ?_))))))
 refine W.p2 (.int .i64 0) (.nil ?_)
 obtain ⟨av, a6, a7⟩ := z00 a4
 refine AW.midT (fun q C => ∃ (s : List Int) (o : GM), s = av /\ Ow o C (eSl m 119 (rI .u32) s :: L) /\ GM.le G o) ?_ ?_
 rotate_left
 .rintro a8 bj aq ⟨aw, bk, rfl, ax, ay⟩
  have az := z0a a7
  refine .seq (.region (W.q2 m (ft (aq 5 rfl) rfl) ?_))
  obtain ⟨bl, aA, aB⟩ := z00 az
  refine W.ln (Lo.qF Tryz.f67 (ps := [_]) (pw := fun w => [_]) (mc rfl mn) ax (fun bz a9 => z3t K m aw a9 _ aA)) ?_
  rintro ba bb ⟨E, bc, ar, au, a2, rfl⟩
  refine W.p1 E (.nil (.ret ?_))
  obtain rfl := zAa aB
  exact z4j kr E (v1 := E) (by rfl) rt ar (zAe ay au) rfl
 refine .block (AW.loop (α := Nat) (fun F q C => ∃ (s : List Int) (z : Int) (o : GM), z3h K p f F s z = some av /\ Ow o C (eSl m 119 (rI .u32) s :: L) /\ GM.le G o /\ q 20 = .int .i64 z) (fun F => F) K ⟨(List.replicate (Int.toNat (z03 .i64 ((p.length : Int) + (f.length : Int)))) 0), 0, _, a6, a5, (zAf _), rfl⟩ ?_)
 rintro V
 rintro bd bm k ⟨ag, d, ah, J, X, g, M⟩
 rcases V with _ | V
 .exact z09 J
 rw [z3h] at J
 refine .seq (.region (W.q3 (.bool (decide (d < (p.length : Int)))) M (ft (k 19 rfl) rfl) (.nil (.seq (.cond (b := decide (d < (p.length : Int))) rfl rfl (fun Y => ?_) (fun Y => ?_))))))
 rotate_left
 .have aC := z0h Y J
  refine .exit ?_
  obtain rfl := zAa aC
  exact ⟨ag, _, rfl, X, g⟩
 have aD := z01 Y J
 refine .skip (.seq (.block (.seq (.region (W.q2 _ M ?_)))))
 obtain ⟨t, aE, aF⟩ := z00 aD
 have Z := z0c aE
 refine W.pv (z1v U (d.toNat * 1)) (z2a el71 z5s (ou (ft (k 18 rfl) rfl)) (ou M) (z0g (RT.mono _ g I)) Z.1 Z.2.1) (W.l1 (.int .u32 t) zc6 (z0i rfl (At.int (At.le (At.le (z1h I Z.2.2) g g) (zAf _) X.fro))) (W.p1 (.int .i64 d) (W.p1 (.int .u32 t) (.nil (.seq (.region ?_))))))
 refine W.p1 (.int .u64 0) (.nil (.seq (.seq (.region (W.q2 v1 (ft (k 1 rfl) rfl) (W.pv (.int .i64 (f.length : Int)) (z0q ov (z0g (RT.mono _ g y)) (z05 el71)) ?_))))))
 refine W.p2 (.int .i64 0) (.nil ?_)
 obtain ⟨ai, aG, aH⟩ := z00 aF
 refine AW.midT (fun q C => ∃ (s : List Int) (z : Int) (o : GM), (s, z) = ai /\ Ow o C (eSl m 119 (rI .u32) s :: L) /\ GM.le ah o /\ q 8 = .int .u64 z) ?_ ?_
 rotate_left
 .rintro be bn x ⟨aI, N, bo, rfl, aj, ak, aJ⟩
  have aK := z3c aH
  refine .region (W.q2 m (ft (x 5 rfl) (ft (k 5 rfl) rfl)) (W.q2 (.int .i64 d) (ft (x 6 rfl) rfl) (W.q2 v1 (ft (x 1 rfl) (ft (k 1 rfl) rfl)) (W.pv (.int .i64 (f.length : Int)) (z0q ov (z0g (RT.mono _ (zAe g ak) y)) (z05 el71)) (W.p3 (.int .i64 (z03 .i64 (d + (f.length : Int)))) (W.q2 _ aJ ?_))))))
  refine W.pv (.int .u32 (IntKind.wrap .u32 N)) (z5e zeb zbn ov) ?_
  obtain ⟨bp, aL, aM⟩ := z00 aK
  have aa := z0c aL
  refine W.pv (z1v m (Int.toNat (z03 .i64 (d + (f.length : Int))) * 1)) (z2a el71 z5s ov ov (aj.slLen (j := 0) rfl) aa.1 aa.2.1) (W.ln (Lo.storeSl0 (j := 0) (y0 := IntKind.wrap .u32 N) (v := (.int .u32 (IntKind.wrap .u32 N))) rfl aa.2.2  rfl z5s rfl rfl rfl aj) ?_)
  rintro bq br ⟨aN, bf⟩
  refine .nil (.region (W.q3 (.int .i64 (z03 .i64 (d + 1))) (ft (x 20 rfl) M) rfl (W.p2 (.int .i64 (z03 .i64 (d + 1))) (.nil ?_))))
  exact ⟨V, zAg _, ⟨(List.set aI (Int.toNat (z03 .i64 (d + (f.length : Int)))) (IntKind.wrap .u32 N)), z03 .i64 (d + 1), _, aM, aN, (zAe g ak), rfl⟩⟩
 refine .block (AW.loop (α := Nat) (fun F q C => ∃ (s : List Int) (z : Int) (aO : Int) (o : GM), z3g K f d t F s z aO = some ai /\ Ow o C (eSl m 119 (rI .u32) s :: L) /\ GM.le ah o /\ q 8 = .int .u64 z /\ q 27 = .int .i64 aO) (fun F => F) K ⟨ag, 0, 0, _, aG, X, (zAf _), rfl, rfl⟩ ?_)
 rintro ab
 rintro bg bs l ⟨al, am, e, bt, P, u, A, an, S⟩
 rcases ab with _ | ab
 .exact z09 P
 rw [z3g] at P
 refine .seq (.region (W.q3 (.bool (decide (e < (f.length : Int)))) S (ft (l 26 rfl) rfl) (.nil (.seq (.cond (b := decide (e < (f.length : Int))) rfl rfl (fun ac => ?_) (fun ac => ?_))))))
 rotate_left
 .have aP := z0h ac P
  refine .exit ?_
  obtain rfl := zAa aP
  exact ⟨al, am, _, rfl, u, A, an⟩
 have aQ := z01 ac P
 refine .skip (.seq (.block (.seq (.region (W.q2 _ S ?_)))))
 obtain ⟨B, aR, aS⟩ := z00 aQ
 have ad := z0c aR
 refine W.pv (z1v v1 (e.toNat * 1)) (z2a el71 z5s (ou (ft (l 25 rfl) rfl)) (ou S) (z0g (RT.mono _ (zAe g A) y)) ad.1 ad.2.1) (W.l1 (.int .u32 B) zc6 (z0i rfl (At.int (At.le (At.le (z1h y ad.2.2) (zAe g A) (zAe g A)) (zAf _) u.fro))) (W.p1 (.int .i64 e) (W.p1 (.int .u32 B) (.nil (.seq (.region ?_))))))
 refine W.q2 (.int .u32 t) (ft (l 7 rfl) rfl) (W.pv (.int .u64 (IntKind.wrap .u64 t)) (z5e zbn zeb ov) (W.p2 (.int .u32 B) (W.pv (.int .u64 (IntKind.wrap .u64 B)) (z5e zbn zeb ov) (W.p3 (.int .u64 (z03 .u64 ((IntKind.wrap .u64 t) * (IntKind.wrap .u64 B)))) ?_))))
 obtain ⟨ao, aT, aU⟩ := z71 aS
 refine W.q2 m (ft (l 5 rfl) (ft (k 5 rfl) rfl)) (W.q2 (.int .i64 d) (ft (l 6 rfl) rfl) (W.p2 (.int .i64 e) (W.p3 (.int .i64 (z03 .i64 (d + e))) ?_)))
 obtain ⟨T, aV, aW⟩ := z00 aU
 have ae := z0c aV
 refine W.pv (z1v m (Int.toNat (z03 .i64 (d + e)) * 1)) (z2a el71 z5s ov ov (u.slLen (j := 0) rfl) ae.1 ae.2.1) (W.l1 (.int .u32 T) zc6 (z0i rfl (At.int (u.atSl (j := 0) rfl ae.2.2))) (W.pv (.int .u64 (IntKind.wrap .u64 T)) (z5e zbn zeb ov) (W.q3 (.int .u64 (z03 .u64 (ao + (IntKind.wrap .u64 T)))) (congrArg (Value.int .u64) aT) rfl (W.q2 _ an (W.p3 (.int .u64 (z03 .u64 ((z03 .u64 (ao + (IntKind.wrap .u64 T))) + am))) ?_)))))
 obtain ⟨i, aX, aY⟩ := z71 aW
 refine W.q1 _ (congrArg (Value.int .u64) aX) (.nil (.seq (.region (W.q2 m (ft (l 5 rfl) (ft (k 5 rfl) rfl)) (W.q2 (.int .i64 d) (ft (l 6 rfl) rfl) (W.p2 (.int .i64 e) ?_))))))
 refine W.p3 (.int .i64 (z03 .i64 (d + e))) (W.p2 (.int .u64 i) (W.pv (.int .u64 (Int.tmod i 1000000000)) (zl0 (by decide) ov ov) (W.pv (.int .u32 (IntKind.wrap .u32 (Int.tmod i 1000000000))) (z5e zeb zbn ov) ?_)))
 obtain ⟨bu, aZ, a0⟩ := z00 aY
 have af := z0c aZ
 refine W.pv (z1v m (Int.toNat (z03 .i64 (d + e)) * 1)) (z2a el71 z5s ov ov (u.slLen (j := 0) rfl) af.1 af.2.1) (W.ln (Lo.storeSl0 (j := 0) (y0 := IntKind.wrap .u32 (Int.tmod i 1000000000)) (v := (.int .u32 (IntKind.wrap .u32 (Int.tmod i 1000000000)))) rfl af.2.2  rfl z5s rfl rfl rfl u) ?_)
 rintro bv bw ⟨a1, bh⟩
 refine .nil (.region (W.p2 (.int .u64 i) (W.pv (.int .u64 (z03 .u64 (Int.tdiv i 1000000000))) (zkz (by decide) ov ov) (W.p1 (.int .u64 (z03 .u64 (Int.tdiv i 1000000000))) (.nil (.region ?_))))))
 refine W.r3 (.int .i64 (z03 .i64 (e + 1))) S (W.p2 (.int .i64 (z03 .i64 (e + 1))) (.nil ?_))
 exact ⟨ab, zAg _, ⟨(List.set al (Int.toNat (z03 .i64 (d + e))) (IntKind.wrap .u32 (Int.tmod i 1000000000))), z03 .u64 (Int.tdiv i 1000000000), z03 .i64 (e + 1), _, a0, a1, A, rfl, rfl⟩⟩
def z26 (K : Nat) (c : List Int) (d : Int) (h : Int) : Nat -> List Int -> Int -> Int -> Int -> Option (List Int × Int)
  | 0, _, _, _, _ => none
  | k + 1, e, f, i, a => (if (decide (a <= (c.length : Int))) = true then (Option.bind ((if (decide (a < (c.length : Int))) = true then ((idx c a).bind fun j => (lt (z03 .u64 (i + (z03 .u64 (h * (IntKind.wrap .u64 j))))) fun l => some l)) else some i)) (tu1 fun g => ((idx e (z03 .i64 (d + a))).bind fun m => (lt (z03 .i64 ((IntKind.wrap .i64 m) - (IntKind.wrap .i64 (Int.tmod g 1000000000)))) fun b => (Option.bind ((if (decide ((z03 .i64 (b - f)) < 0)) = true then some (1, z03 .i64 ((z03 .i64 (b - f)) + 1000000000)) else some (0, z03 .i64 (b - f)))) (tu2 fun n o => ((idx e (z03 .i64 (d + a))).bind fun p => z26 K c d h k (List.set e (Int.toNat (z03 .i64 (d + a))) (IntKind.wrap .u32 o)) n (z03 .u64 (Int.tdiv g 1000000000)) (z03 .i64 (a + 1))))))))) else some (e, f))
def z4u (K : Nat) (c : List Int) (d : List Int) (e : Int) (f : Int) : Option (Bool × List Int) := (Option.bind (z26 K d e f K c 0 0 0) (tu2 fun a b => some (decide (b > 0), a)))
theorem zdi (i : Value) (ac : List Int) (v1 : Value) (t : List Int) (x : (rSl (rI .u32)).rep G [v1] t) (p : Int) (E : Int) (O : Ow G H (eSl i 119 (rI .u32) ac :: L)) (r : Bool × List Int) (h : z4u K ac t p E = some r) :
    CR Tryz.prog 100 [i, v1, (.int .i64 p), (.int .u64 E)] G H (eSl i 119 (rI .u32) r.2 :: L) (fun v g _ => v = .bool r.1) := by
 unfold z4u at h
 refine CR.og (n := 62) (fn := Tryz.f100) (by kernel_rfl) rfl rfl fun R kr => (.seq (.region (W.p1 (.bool false) (.nil (.seq (.region ?_))))))
 refine W.p1 (.int .i64 0) (.nil (.seq (.region (W.p1 (.int .u64 0) (.nil (.seq ?_))))))
 refine .seq (.region (W.p1 (.int .i64 0) (.nil ?_)))
 obtain ⟨af, aU, aV⟩ := z00 h
 refine AW.midT (fun d w => ∃ (k : List Int) (u : Int) (g : GM), (k, u) = af /\ Ow g w (eSl i 119 (rI .u32) k :: L) /\ GM.le G g /\ d 9 = .int .i64 u) ?_ ?_
 rotate_left
 .rintro aW a1 aX ⟨a2, F, a3, rfl, ag, ah, ai⟩
  have aj := z3c aV
  refine .seq (.region (W.q2 _ ai (W.p3 (.bool (decide (F > 0))) (W.p1 (.bool (decide (F > 0))) (.nil (.ret ?_))))))
  obtain rfl := zAa aj
  exact z1m kr (v1 := (.bool (decide (F > 0)))) (by rfl) rt ag ah rfl
 refine .block (AW.loop (α := Nat) (fun ad d w => ∃ (k : List Int) (u : Int) (ak : Int) (al : Int) (g : GM), z26 K t p E ad k u ak al = some af /\ Ow g w (eSl i 119 (rI .u32) k :: L) /\ GM.le G g /\ d 9 = .int .i64 u /\ d 10 = .int .u64 ak /\ d 11 = .int .i64 al) (fun ad => ad) K ⟨ac, 0, 0, 0, _, aU, O, (zAf _), rfl, rfl, rfl⟩ ?_)
 rintro ae
 rintro a4 a5 a ⟨U, l, V, f, am, y, z, m, X, an, q⟩
 rcases ae with _ | ae
 .exact z09 y
 rw [z26] at y
 refine .seq (.seq (.region (W.q2 _ q (W.q2 v1 (ft (a 1 rfl) rfl) (W.pv (.int .i64 (t.length : Int)) (z0q ov (z0g (RT.mono _ m x)) (z05 el71)) (W.p3 (.bool (decide (f <= (t.length : Int)))) ?_))))))
 refine .nil (.cond (b := decide (f <= (t.length : Int))) rfl rfl (fun I => ?_) (fun I => ?_))
 rotate_left
 .have ao := z0h I y
  refine .exit ?_
  obtain rfl := zAa ao
  exact ⟨U, l, _, rfl, z, m, X⟩
 have ap := z01 I y
 refine .skip (.seq (.block (.seq (.region (W.q2 _ an (W.p1 (.int .u64 V) ?_))))))
 refine .nil (.seq (.seq (.region (W.q2 _ q (W.q2 v1 (ft (a 1 rfl) rfl) (W.pv (.int .i64 (t.length : Int)) (z0q ov (z0g (RT.mono _ m x)) (z05 el71)) ?_))))))
 refine W.p3 (.bool (decide (f < (t.length : Int)))) (.nil ?_)
 obtain ⟨aq, Y, ar⟩ := z00 ap
 refine AW.midT (fun d w => ∃ (k : Int) (g : GM), k = aq /\ Ow g w (eSl i 119 (rI .u32) U :: L) /\ GM.le am g /\ d 12 = .int .u64 k) ?_ ?_
 .refine .cond (b := decide (f < (t.length : Int))) rfl rfl (fun J => ?_) (fun J => ?_)
  rotate_left
  .have au := z0h J Y
   refine .skip ?_
   obtain rfl := zAa au
   exact ⟨V, _, rfl, z, (zAf _), rfl⟩
  have av := z01 J Y
  refine .region (W.p2 (.int .u64 V) (W.q2 (.int .u64 E) (ft (a 3 rfl) rfl) (W.q2 v1 (ft (a 1 rfl) rfl) (W.q2 _ q ?_))))
  obtain ⟨A, aw, ax⟩ := z00 av
  have M := z0c aw
  refine W.pv (z1v v1 (f.toNat * 1)) (z2a el71 z5s ov ov (z0g (RT.mono _ m x)) M.1 M.2.1) (W.l1 (.int .u32 A) zc6 (z0i rfl (At.int (At.le (At.le (z1h x M.2.2) m m) (zAf _) z.fro))) (W.pv (.int .u64 (IntKind.wrap .u64 A)) (z5e zbn zeb ov) (W.p3 (.int .u64 (z03 .u64 (E * (IntKind.wrap .u64 A)))) (W.p3 (.int .u64 (z03 .u64 (V + (z03 .u64 (E * (IntKind.wrap .u64 A)))))) ?_))))
  obtain ⟨ay, az, aA⟩ := z71 ax
  refine W.q1 _ (congrArg (Value.int .u64) az) (.nil ?_)
  obtain rfl := zAa aA
  exact ⟨ay, _, rfl, z, (zAf _), rfl⟩
 rintro aY a6 c ⟨s, aB, rfl, B, aC, Z⟩
 have aD := z0a ar
 refine .seq (.region (W.q2 _ Z (W.pv (.int .u64 (z03 .u64 (Int.tdiv s 1000000000))) (zkz (by decide) ov ov) (W.p1 (.int .u64 (z03 .u64 (Int.tdiv s 1000000000))) (.nil (.seq ?_))))))
 refine .region (W.q2 i (ft (c 0 rfl) (ft (a 0 rfl) rfl)) (W.q2 (.int .i64 p) (ft (c 2 rfl) (ft (a 2 rfl) rfl)) (W.q2 _ (ft (c 11 rfl) q) (W.p3 (.int .i64 (z03 .i64 (p + f))) ?_))))
 obtain ⟨N, aE, aF⟩ := z00 aD
 have P := z0c aE
 refine W.pv (z1v i (Int.toNat (z03 .i64 (p + f)) * 1)) (z2a el71 z5s ov ov (B.slLen (j := 0) rfl) P.1 P.2.1) (W.l1 (.int .u32 N) zc6 (z0i rfl (At.int (B.atSl (j := 0) rfl P.2.2))) (W.pv (.int .i64 (IntKind.wrap .i64 N)) (z5e zbn in2 ov) (W.q2 _ Z (W.pv (.int .u64 (Int.tmod s 1000000000)) (zl0 (by decide) ov ov) (W.pv (.int .i64 (IntKind.wrap .i64 (Int.tmod s 1000000000))) (z5e zeb in2 ov) (W.p3 (.int .i64 (z03 .i64 ((IntKind.wrap .i64 N) - (IntKind.wrap .i64 (Int.tmod s 1000000000))))) ?_))))))
 obtain ⟨e, aG, aH⟩ := z71 aF
 refine W.q2 _ (ft (c 9 rfl) X) (W.q3 (.int .i64 (z03 .i64 (e - l))) (congrArg (Value.int .i64) aG) rfl (W.p1 (.int .i64 (z03 .i64 (e - l))) (.nil (.seq (.region (W.p1 (.int .i64 0) ?_))))))
 refine .nil (.seq (.seq (.region (W.p2 (.int .i64 (z03 .i64 (e - l))) (W.p3 (.bool (decide ((z03 .i64 (e - l)) < 0))) (.nil ?_))))))
 obtain ⟨aI, aa, aJ⟩ := z00 aH
 refine AW.midT (fun d w => ∃ (k : Int) (u : Int) (g : GM), (k, u) = aI /\ Ow g w (eSl i 119 (rI .u32) U :: L) /\ GM.le aB g /\ d 9 = .int .i64 k /\ d 13 = .int .i64 u) ?_ ?_
 .refine .cond (b := decide ((z03 .i64 (e - l)) < 0)) rfl rfl (fun S => ?_) (fun S => ?_)
  rotate_left
  .have aK := z0h S aa
   refine .skip ?_
   obtain rfl := zAa aK
   exact ⟨0, z03 .i64 (e - l), _, rfl, B, (zAf _), rfl, rfl⟩
  have aL := z01 S aa
  refine .seq (.region (W.p2 (.int .i64 (z03 .i64 (e - l))) (W.p3 (.int .i64 (z03 .i64 ((z03 .i64 (e - l)) + 1000000000))) (W.p1 (.int .i64 (z03 .i64 ((z03 .i64 (e - l)) + 1000000000))) (.nil (.region ?_))))))
  refine W.p1 (.int .i64 1) (.nil ?_)
  obtain rfl := zAa aL
  exact ⟨1, z03 .i64 ((z03 .i64 (e - l)) + 1000000000), _, rfl, B, (zAf _), rfl, rfl⟩
 rintro aZ a7 o ⟨aM, C, a8, rfl, ab, aN, aO, aP⟩
 have aQ := z3c aJ
 refine .region (W.q2 i (ft (o 0 rfl) (ft (c 0 rfl) (ft (a 0 rfl) rfl))) (W.q2 (.int .i64 p) (ft (o 2 rfl) (ft (c 2 rfl) (ft (a 2 rfl) rfl))) (W.q2 _ (ft (o 11 rfl) (ft (c 11 rfl) q)) (W.p3 (.int .i64 (z03 .i64 (p + f))) (W.q2 _ aP (W.pv (.int .u32 (IntKind.wrap .u32 C)) (z5e in2 zbn ov) ?_))))))
 obtain ⟨a9, aR, aS⟩ := z00 aQ
 have T := z0c aR
 refine W.pv (z1v i (Int.toNat (z03 .i64 (p + f)) * 1)) (z2a el71 z5s ov ov (ab.slLen (j := 0) rfl) T.1 T.2.1) (W.ln (Lo.storeSl0 (j := 0) (y0 := IntKind.wrap .u32 C) (v := (.int .u32 (IntKind.wrap .u32 C))) rfl T.2.2  rfl z5s rfl rfl rfl ab) ?_)
 rintro ba bb ⟨aT, a0⟩
 refine .nil (.region (W.q2 _ (ft (o 11 rfl) (ft (c 11 rfl) q)) (W.p3 (.int .i64 (z03 .i64 (f + 1))) (W.p1 (.int .i64 (z03 .i64 (f + 1))) (.nil ?_)))))
 exact ⟨ae, zAg _, ⟨(List.set U (Int.toNat (z03 .i64 (p + f))) (IntKind.wrap .u32 C)), aM, z03 .u64 (Int.tdiv s 1000000000), z03 .i64 (f + 1), _, aS, aT, (zAe m (zAe aC aN)), aO, (ft (o 10 rfl) rfl), rfl⟩⟩
def z33 (K : Nat) (b : List Int) (c : Int) : Nat -> List Int -> Int -> Int -> Option (List Int)
  | 0, _, _, _ => none
  | k + 1, d, g, a => (if (decide (a <= (b.length : Int))) = true then ((idx d (z03 .i64 (c + a))).bind fun e => (Option.bind ((if (decide (a < (b.length : Int))) = true then ((idx b a).bind fun h => some (z03 .u32 ((z03 .u32 (e + g)) + h))) else some (z03 .u32 (e + g)))) (tu1 fun f => ((idx d (z03 .i64 (c + a))).bind fun i => z33 K b c k (List.set d (Int.toNat (z03 .i64 (c + a))) (Int.tmod f 1000000000)) (z03 .u32 (Int.tdiv f 1000000000)) (z03 .i64 (a + 1)))))) else some d)
def z5i (K : Nat) (b : List Int) (c : List Int) (d : Int) : Option (List Int) := (Option.bind (z33 K c d K b 0 0) (tu1 fun a => some a))
theorem zeg (g : Value) (N : List Int) (y : Value) (m : List Int) (u : (rSl (rI .u32)).rep G [y] m) (i : Int) (O : Ow G H (eSl g 119 (rI .u32) N :: L)) (r : List Int) (h : z5i K N m i = some r) :
    CR Tryz.prog 101 [g, y, (.int .i64 i)] G H (eSl g 119 (rI .u32) r :: L) (fun v o _ => v = .tuple #[]) := by
 unfold z5i at h
 refine CR.og (n := 42) (fn := Tryz.f101) (by kernel_rfl) rfl rfl fun R kr => (.seq (.region (W.p1 (.int .u32 0) (.nil (.seq (.region ?_))))))
 refine W.p1 (.int .i64 0) (.nil ?_)
 obtain ⟨U, au, av⟩ := z00 h
 refine AW.midT (fun q z => ∃ (s : List Int) (o : GM), s = U /\ Ow o z (eSl g 119 (rI .u32) s :: L) /\ GM.le G o) ?_ ?_
 rotate_left
 .rintro aw aA ax ⟨aB, aC, rfl, V, X⟩
  have Y := z0a av
  obtain rfl := zAa Y
  exact zus kr  (by rfl)  V X rfl
 refine .block (AW.loop (α := Nat) (fun P q z => ∃ (s : List Int) (Z : Int) (aa : Int) (o : GM), z33 K m i P s Z aa = some U /\ Ow o z (eSl g 119 (rI .u32) s :: L) /\ GM.le G o /\ q 6 = .int .u32 Z /\ q 7 = .int .i64 aa) (fun P => P) K ⟨N, 0, 0, _, au, O, (zAf _), rfl, rfl⟩ ?_)
 rintro S
 rintro aD aJ a ⟨T, t, c, ab, w, k, e, ac, l⟩
 rcases S with _ | S
 .exact z09 w
 rw [z33] at w
 refine .seq (.seq (.region (W.q2 _ l (W.q2 y (ft (a 1 rfl) rfl) (W.pv (.int .i64 (m.length : Int)) (z0q ov (z0g (RT.mono _ e u)) (z05 el71)) (W.p3 (.bool (decide (c <= (m.length : Int)))) ?_))))))
 refine .nil (.cond (b := decide (c <= (m.length : Int))) rfl rfl (fun A => ?_) (fun A => ?_))
 rotate_left
 .have ad := z0h A w
  refine .exit ?_
  obtain rfl := zAa ad
  exact ⟨T, _, rfl, k, e⟩
 have ae := z01 A w
 refine .skip (.seq (.block (.seq (.region (W.q2 g (ft (a 0 rfl) rfl) (W.q2 (.int .i64 i) (ft (a 2 rfl) rfl) ?_))))))
 refine W.q2 _ l (W.p3 (.int .i64 (z03 .i64 (i + c))) ?_)
 obtain ⟨d, af, ag⟩ := z00 ae
 have B := z0c af
 refine W.pv (z1v g (Int.toNat (z03 .i64 (i + c)) * 1)) (z2a el71 z5s ov ov (k.slLen (j := 0) rfl) B.1 B.2.1) (W.l1 (.int .u32 d) zc6 (z0i rfl (At.int (k.atSl (j := 0) rfl B.2.2))) (W.q2 _ ac (W.p3 (.int .u32 (z03 .u32 (d + t))) (W.p1 (.int .u32 (z03 .u32 (d + t))) (.nil (.seq ?_))))))
 refine .seq (.region (W.q2 _ l (W.q2 y (ft (a 1 rfl) rfl) (W.pv (.int .i64 (m.length : Int)) (z0q ov (z0g (RT.mono _ e u)) (z05 el71)) (W.p3 (.bool (decide (c < (m.length : Int)))) (.nil ?_))))))
 obtain ⟨ah, I, ai⟩ := z00 ag
 refine AW.midT (fun q z => ∃ (s : Int) (o : GM), s = ah /\ Ow o z (eSl g 119 (rI .u32) T :: L) /\ GM.le ab o /\ q 8 = .int .u32 s) ?_ ?_
 .refine .cond (b := decide (c < (m.length : Int))) rfl rfl (fun C => ?_) (fun C => ?_)
  rotate_left
  .have aj := z0h C I
   refine .skip ?_
   obtain rfl := zAa aj
   exact ⟨z03 .u32 (d + t), _, rfl, k, (zAf _), rfl⟩
  have ak := z01 C I
  refine .region (W.p2 (.int .u32 (z03 .u32 (d + t))) (W.q2 y (ft (a 1 rfl) rfl) (W.q2 _ l ?_)))
  obtain ⟨x, al, am⟩ := z00 ak
  have E := z0c al
  refine W.pv (z1v y (c.toNat * 1)) (z2a el71 z5s ov ov (z0g (RT.mono _ e u)) E.1 E.2.1) (W.l1 (.int .u32 x) zc6 (z0i rfl (At.int (At.le (At.le (z1h u E.2.2) e e) (zAf _) k.fro))) (W.p3 (.int .u32 (z03 .u32 ((z03 .u32 (d + t)) + x))) (W.p1 (.int .u32 (z03 .u32 ((z03 .u32 (d + t)) + x))) (.nil ?_))))
  obtain rfl := zAa am
  exact ⟨z03 .u32 ((z03 .u32 (d + t)) + x), _, rfl, k, (zAf _), rfl⟩
 rintro ay aE p ⟨f, aF, rfl, J, an, M⟩
 have ao := z0a ai
 refine .seq (.region (W.q2 _ M (W.pv (.int .u32 (z03 .u32 (Int.tdiv f 1000000000))) (zkz (by decide) ov ov) (W.p1 (.int .u32 (z03 .u32 (Int.tdiv f 1000000000))) (.nil (.region ?_))))))
 refine W.q2 g (ft (p 0 rfl) (ft (a 0 rfl) rfl)) (W.q2 (.int .i64 i) (ft (p 2 rfl) (ft (a 2 rfl) rfl)) (W.q2 _ (ft (p 7 rfl) l) (W.p3 (.int .i64 (z03 .i64 (i + c))) (W.q2 _ M (W.pv (.int .u32 (Int.tmod f 1000000000)) (zl0 (by decide) ov ov) ?_)))))
 obtain ⟨aG, ap, aq⟩ := z00 ao
 have F := z0c ap
 refine W.pv (z1v g (Int.toNat (z03 .i64 (i + c)) * 1)) (z2a el71 z5s ov ov (J.slLen (j := 0) rfl) F.1 F.2.1) (W.ln (Lo.storeSl0 (j := 0) (y0 := Int.tmod f 1000000000) (v := (.int .u32 (Int.tmod f 1000000000))) rfl F.2.2  rfl z5s rfl rfl rfl J) ?_)
 rintro aH aI ⟨ar, az⟩
 refine .nil (.region (W.q2 _ (ft (p 7 rfl) l) (W.p3 (.int .i64 (z03 .i64 (c + 1))) (W.p1 (.int .i64 (z03 .i64 (c + 1))) (.nil ?_)))))
 exact ⟨S, zAg _, ⟨(List.set T (Int.toNat (z03 .i64 (i + c))) (Int.tmod f 1000000000)), z03 .u32 (Int.tdiv f 1000000000), z03 .i64 (c + 1), _, aq, ar, (zAe e an), rfl, rfl⟩⟩
def z51 (K : Nat) (b : List Int) : Nat -> List Int -> Option (List Int)
  | 0, _ => none
  | k + 1, a => (if (decide ((a.length : Int) <= (b.length : Int))) = true then (if a.length + [0].length <= 16777216 then z51 K b k (a ++ [0]) else none) else some a)
def z2y (K : Nat) (b : List Int) (d : List Int) (e : Int) : Nat -> Int -> Int -> Option (Int)
  | 0, _, _ => none
  | k + 1, a, c => (Option.bind ((if (decide (a >= 1000000000)) = true then some true else ((idx b (z03 .i64 ((b.length : Int) - 2))).bind fun g => (lt (z03 .i64 ((z03 .i64 (e + (b.length : Int))) - 2)) fun h => ((idx d h).bind fun i => (lt (z03 .u64 ((z03 .u64 (c * 1000000000)) + (IntKind.wrap .u64 i))) fun j => (lt (decide ((z03 .u64 (a * (IntKind.wrap .u64 g))) > j)) fun l => some l))))))) (tu1 fun m => (if m = true then ((idx b (z03 .i64 ((b.length : Int) - 1))).bind fun f => (lt (decide ((z03 .u64 (c + (IntKind.wrap .u64 f))) >= 1000000000)) fun n => (if n = true then some (z03 .u64 (a - 1)) else z2y K b d e k (z03 .u64 (a - 1)) (z03 .u64 (c + (IntKind.wrap .u64 f)))))) else some a)))
def z2o (K : Nat) (b : List Int) : Nat -> List Int -> List Int -> Int -> Option (List Int × List Int)
  | 0, _, _, _ => none
  | k + 1, d, c, a => (if (decide (a >= 0)) = true then ((idx c (z03 .i64 (a + (b.length : Int)))).bind fun j => (lt (z03 .i64 ((z03 .i64 (a + (b.length : Int))) - 1)) fun l => ((idx c l).bind fun m => (lt (z03 .u64 ((z03 .u64 ((IntKind.wrap .u64 j) * 1000000000)) + (IntKind.wrap .u64 m))) fun g => ((idx b (z03 .i64 ((b.length : Int) - 1))).bind fun h => (if (IntKind.wrap .u64 h) ≠ 0 then ((idx b (z03 .i64 ((b.length : Int) - 1))).bind fun i => (if (IntKind.wrap .u64 i) ≠ 0 then (Option.bind (z2y K b c a K (z03 .u64 (Int.tdiv g (IntKind.wrap .u64 h))) (Int.tmod g (IntKind.wrap .u64 i))) (tu1 fun e => ((z4u K c b a e).bind fun f => (Option.bind ((if f.1 = true then ((z5i K f.2 b a).bind fun n => some (n, z03 .u64 (e - 1))) else some (f.2, e))) (tu2 fun o p => ((idx d a).bind fun q => z2o K b k (List.set d (a.toNat) (IntKind.wrap .u32 p)) o (z03 .i64 (a - 1)))))))) else none)) else none)))))) else some (d, c))
def z5q (K : Nat) (d : List Int) (c : List Int) : Option (List Int × List Int) := ((z5o K d c).bind fun q => (if (decide (q < 0)) = true then some ([], d) else (if ((c.length : Int) == 1) = true then ((idx c 0).bind fun p => ((z5p K d p).bind fun g => some (g.1, g.2))) else ((idx c (z03 .i64 ((c.length : Int) - 1))).bind fun h => (if (z03 .u64 ((IntKind.wrap .u64 h) + 1)) ≠ 0 then (lt (z03 .u64 (Int.tdiv (1000000000 : Int) (z03 .u64 ((IntKind.wrap .u64 h) + 1)))) fun e => ((z50 K d [IntKind.wrap .u32 e]).bind fun i => (if i.length + [0].length <= 16777216 then ((z50 K c [IntKind.wrap .u32 e]).bind fun f => (Option.bind (z51 K d K (i ++ [0])) (tu1 fun b => (lt (z03 .i64 ((b.length : Int) - (f.length : Int))) fun a => (if 0 <= a /\ a <= a /\ a <= 16777216 then (lt (z03 .i64 ((b.length : Int) - (f.length : Int))) fun j => (Option.bind (z2o K f K (List.replicate (a.toNat) 0) b (z03 .i64 (j - 1))) (tu2 fun k l => ((z2t K l).bind fun m => ((z5p K m (IntKind.wrap .u32 e)).bind fun n => ((z2t K k).bind fun o => some (o, n.1))))))) else none))))) else none))) else none)))))
theorem z8h (T : Value) (aj : List Int) (aw : (rSl (rI .u32)).rep G [T] aj) (v1 : Value) (ai : List Int) (X : (rSl (rI .u32)).rep G [v1] ai) (O : Ow G H (L)) (r : List Int × List Int) (h : z5q K aj ai = some r) :
    CR Tryz.prog 91 [T, v1] G H (L) (fun v k _ => ∃ (dL : Value), ∃ (dM : Value), v = .tuple #[dL, dM] /\ (rSl (rI .u32)).rep k [dL] r.1 /\ (rSl (rI .u32)).rep k [dM] r.2) := by
 unfold z5q at h
 refine CR.og (n := 171) (fn := Tryz.f91) (by kernel_rfl) rfl rfl fun R kr => (.seq (.region (W.p1 (.slice none 0 0) (W.p1 (.slice none 0 0) (.nil (.seq ?_))))))
 refine .seq (.region (W.p2 T (W.p2 v1 ?_)))
 obtain ⟨dN, eL, dO⟩ := z00 h
 refine W.ln (Lo.cQ Tryz.f78 (mc rfl (mc rfl mn)) O (fun ax B => z75 K T aj aw v1 ai X B _ eL)) ?_
 rintro fK fL ⟨f1, a8, F, fM, rfl⟩
 refine W.p3 (.bool (decide (dN < 0))) (.nil (.cond (b := decide (dN < 0)) rfl rfl (fun a9 => ?_) (fun a9 => ?_)))
 .have dP := z01 a9 dO
  refine .seq (.region (W.p2 T (W.p1 (.slice none 0 0) (W.p1 T (.nil (.ret ?_))))))
  obtain rfl := zAa dP
  exact zp4 kr (v1 := (.slice none 0 0)) (v2 := T) (by rfl) rt rt a8 F ⟨(.slice none 0 0), T, rfl, znl, (RT.mono _ F aw)⟩
 have bF := z0h a9 dO
 refine .skip (.seq (.seq (.region (W.p2 v1 (W.pv (.int .i64 (ai.length : Int)) (z0q ov (z0g (RT.mono _ F X)) (z05 el71)) (W.p3 (.bool ((ai.length : Int) == 1)) ?_))))))
 refine .nil (.cond (b := ((ai.length : Int) == 1)) rfl rfl (fun ba => ?_) (fun ba => ?_))
 .have dQ := z01 ba bF
  refine .seq (.region (W.p2 T (W.p2 v1 ?_)))
  obtain ⟨bG, dR, dS⟩ := z00 dQ
  have bb := z0c dR
  refine W.pv (z1v v1 (Int.toNat 0 * 1)) (z2a el71 z5s ov ov (z0g (RT.mono _ F X)) bb.1 bb.2.1) (W.l1 (.int .u32 bG) zc6 (z0i rfl (At.int (At.le (At.le (z1h X bb.2.2) F F) (zAf _) a8.fro))) ?_)
  obtain ⟨fN, dT, dU⟩ := z00 dS
  refine W.ln (Lo.cQ Tryz.f99 (mc rfl (mc rfl mn)) a8 (fun ax B => z9i K T aj (RT.mono _ F aw) bG B _ dT)) ?_
  rintro fO fP ⟨fQ, dV, dW, eM, ⟨a3, a4, rfl, dX, dY⟩⟩
  refine W.pv a3 (z0j ov rfl) (W.pv a4 (z0j ov rfl) (W.p1 a3 (W.p1 a4 (.nil (.ret ?_)))))
  obtain rfl := zAa dU
  exact zp4 kr (v1 := a3) (v2 := a4) (by rfl) rt rt dV (zAe F dW) ⟨a3, a4, rfl, dX, dY⟩
 have dZ := z0h ba bF
 refine .skip (.seq (.region (W.p2 v1 (W.p2 v1 (W.pv (.int .i64 (ai.length : Int)) (z0q ov (z0g (RT.mono _ F X)) (z05 el71)) (W.p3 (.int .i64 (z03 .i64 ((ai.length : Int) - 1))) ?_))))))
 obtain ⟨a5, d0, d1⟩ := z00 dZ
 have bc := z0c d0
 refine W.pv (z1v v1 (Int.toNat (z03 .i64 ((ai.length : Int) - 1)) * 1)) (z2a el71 z5s ov ov (z0g (RT.mono _ F X)) bc.1 bc.2.1) (W.l1 (.int .u32 a5) zc6 (z0i rfl (At.int (At.le (At.le (z1h X bc.2.2) F F) (zAf _) a8.fro))) (W.pv (.int .u64 (IntKind.wrap .u64 a5)) (z5e zbn zeb ov) (W.p3 (.int .u64 (z03 .u64 ((IntKind.wrap .u64 a5) + 1))) ?_)))
 obtain ⟨d2, d3⟩ := z2b d1
 refine W.pv (.int .u64 (z03 .u64 (Int.tdiv (1000000000 : Int) (z03 .u64 ((IntKind.wrap .u64 a5) + 1))))) (zkz d2 ov ov) ?_
 obtain ⟨A, d4, d5⟩ := z71 d3
 refine W.pv (.int .u32 (IntKind.wrap .u32 A)) (z5e zeb zbn (ou (congrArg (Value.int .u64) d4))) (W.p1 (.int .u32 (IntKind.wrap .u32 A)) (.nil (.seq (.region (W.p2 T (W.p2 (.int .u32 (IntKind.wrap .u32 A)) ?_))))))
 refine W.ln (Lo.buildSlice (r := (rI .u32)) (vs := [(.int .u32 (IntKind.wrap .u32 A))]) (xs := [IntKind.wrap .u32 A]) el71 zet z5s (by kernel_rfl) rfl (qc rfl qn) rfl (.cons rfl .nil) a8) ?_
 rintro d6 fR ⟨d7, eN⟩
 obtain ⟨fS, d8, a6, d9⟩ := d7.frzSl (j := 0) rfl
 obtain ⟨ea, eb, ec⟩ := z00 d5
 refine W.ln (Lo.qF Tryz.f81 (ps := []) (pw := fun w => [_]) (mc rfl (mc rfl mn)) d8 (fun ax B => z61 K T aj (RT.mono _ (zAe F a6) aw) d6 [IntKind.wrap .u32 A] d9 B _ eb)) ?_
 rintro fT fU ⟨ed, fV, ee, bd, eO, rfl⟩
 refine W.ln (Lo.buildSlice (r := (rI .u32)) (vs := [(.int .u32 0)]) (xs := [0]) el71 zet z5s (by kernel_rfl) rfl (qc rfl qn) rfl (.cons rfl .nil) ee) ?_
 rintro Y fW ⟨bH, eP⟩
 obtain ⟨eQ, ef, eg⟩ := z4a (j := 0) rfl bH
 obtain ⟨eh, ei⟩ := z2b ec
 refine W.ln (Lo.append (j := 1) (v := ed) rfl rfl el71 ni71 zet z5s zlh (by decide) (by decide) rfl ef eg eh bH) ?_
 rintro ej fX ⟨ek, eR⟩
 refine W.p2 v1 (W.p2 (.int .u32 (IntKind.wrap .u32 A)) (W.ln (Lo.buildSlice (r := (rI .u32)) (vs := [(.int .u32 (IntKind.wrap .u32 A))]) (xs := [IntKind.wrap .u32 A]) el71 zet z5s (by kernel_rfl) rfl (qc rfl qn) rfl (.cons rfl .nil) ek) ?_))
 rintro el fY ⟨em, eS⟩
 obtain ⟨fZ, en, be, eo⟩ := em.frzSl (j := 0) rfl
 obtain ⟨f, ep, eq⟩ := z00 ei
 refine W.ln (Lo.qF Tryz.f81 (ps := []) (pw := fun w => [_]) (mc rfl (mc rfl mn)) en (fun ax B => z61 K v1 ai (RT.mono _ (zAe F (zAe a6 (zAe bd be))) X) el [IntKind.wrap .u32 A] eo B _ ep)) ?_
 rintro f0 eT ⟨l, bI, er, bJ, eU, rfl⟩
 refine W.p1 ej (W.p1 l (.nil (.seq ?_)))
 obtain ⟨bf, bK, bL⟩ := z00 eq
 refine AW.midT (fun o I => ∃ (p : List Int) (k : GM), p = bf /\ Ow k I (eSl l 119 (rI .u32) f :: eSl Y 119 (rI .u32) [0] :: eSl (o 7) 119 (rI .u32) p :: L) /\ GM.le bI k) ?_ ?_
 .refine .block (AW.loop (α := Nat) (fun Z o I => ∃ (p : List Int) (k : GM), z51 K aj Z p = some bf /\ Ow k I (eSl l 119 (rI .u32) f :: eSl Y 119 (rI .u32) [0] :: eSl (o 7) 119 (rI .u32) p :: L) /\ GM.le bI k) (fun Z => Z) K ⟨(ea ++ [0]), _, bK, er, (zAf _)⟩ ?_)
  rintro ay
  rintro ak eV bE ⟨aa, eW, al, az, aA⟩
  have es := zAe F (zAe a6 (zAe bd (zAe be (zAe bJ aA))))
  rcases ay with _ | ay
  .exact z09 al
  rw [z51] at al
  refine .seq (.seq (.region (W.p2 (ak 7) (W.pv (.int .i64 (aa.length : Int)) (z0q ov (az.slLen (j := 2) rfl) (z05 el71)) (W.q2 T (ft (bE 0 rfl) rfl) (W.pv (.int .i64 (aj.length : Int)) (z0q ov (z0g (RT.mono _ es aw)) (z05 el71)) ?_))))))
  refine W.p3 (.bool (decide ((aa.length : Int) <= (aj.length : Int)))) (.nil (.cond (b := decide ((aa.length : Int) <= (aj.length : Int))) rfl rfl (fun aB => ?_) (fun aB => ?_)))
  rotate_left
  .have bM := z0h aB al
   refine .exit ?_
   obtain rfl := zAa bM
   exact ⟨aa, _, rfl, az, aA⟩
  have bN := z01 aB al
  refine .skip (.block (.region (W.p2 (ak 7) (W.ln (Lo.buildSlice (r := (rI .u32)) (vs := [(.int .u32 0)]) (xs := [0]) el71 zet z5s (by kernel_rfl) rfl (qc rfl qn) rfl (.cons rfl .nil) az) ?_))))
  rintro eX eY ⟨bg, ev⟩
  obtain ⟨ew, bO, bP⟩ := z4a (j := 0) rfl bg
  obtain ⟨bQ, bR⟩ := z2b bN
  refine W.ln (Lo.append (j := 3) (v := (ak 7)) rfl rfl el71 ni71 zet z5s zlh (by decide) (by decide) rfl bO bP bQ bg) ?_
  rintro bS eZ ⟨bT, ex⟩
  refine W.p1 bS (.nil ?_)
  have bU := bT.drop 0
  exact ⟨ay, zAg _, ⟨(aa ++ [0]), _, bR, bU, aA⟩⟩
 rintro e e0 u ⟨ab, e1, rfl, aC, bV⟩
 have bW := z0a bL
 refine .seq (.region (W.q2 l (ft (u 8 rfl) rfl) (W.pv (.int .i64 (f.length : Int)) (z0q ov (aC.slLen (j := 0) rfl) (z05 el71)) (W.p1 (.int .i64 (f.length : Int)) (.nil (.seq ?_))))))
 refine .region (W.p2 (e 7) (W.pv (.int .i64 (ab.length : Int)) (z0q ov (aC.slLen (j := 2) rfl) (z05 el71)) (W.p2 (.int .i64 (f.length : Int)) (W.p3 (.int .i64 (z03 .i64 ((ab.length : Int) - (f.length : Int)))) ?_))))
 obtain ⟨aD, bh, bX⟩ := z71 bW
 obtain ⟨bY, bZ⟩ := z2b bX
 refine W.ln (Lo.makeSlice (r := (rI .u32)) (x0 := 0) (a := aD) (c := aD) rfl el71 zet z5s (by kernel_rfl) rfl zlh (by decide) (congrArg (Value.int .i64) bh) (congrArg (Value.int .i64) bh) bY (zI .u32) aC) ?_
 rintro q e2 ⟨bi, ey⟩
 refine W.p1 q (.nil (.seq (.seq (.region (W.p2 (e 7) (W.pv (.int .i64 (ab.length : Int)) (z0q ov (bi.slLen (j := 3) rfl) (z05 el71)) ?_))))))
 refine W.p2 (.int .i64 (f.length : Int)) (W.p3 (.int .i64 (z03 .i64 ((ab.length : Int) - (f.length : Int)))) ?_)
 obtain ⟨aE, b0, b1⟩ := z71 bZ
 refine W.q3 (.int .i64 (z03 .i64 (aE - 1))) (congrArg (Value.int .i64) b0) rfl (W.p1 (.int .i64 (z03 .i64 (aE - 1))) (.nil ?_))
 obtain ⟨bj, b2, b3, x⟩ := bi.frzSl (j := 1) rfl
 obtain ⟨bk, b4, b5⟩ := z00 b1
 refine AW.midT (fun o I => ∃ (p : List Int) (ac : List Int) (k : GM), (p, ac) = bk /\ Ow k I (eSl q 119 (rI .u32) p :: eSl Y 119 (rI .u32) [0] :: eSl (e 7) 119 (rI .u32) ac :: L) /\ GM.le bj k) ?_ ?_
 rotate_left
 .rintro ez e3 am ⟨b6, b7, e4, rfl, b8, b9⟩
  have ca := z3c b5
  refine .seq (.region (W.q2 (e 7) (ft (am 7 rfl) rfl) ?_))
  have cb := b8.front (j := 2) rfl
  obtain ⟨cc, cd, ce⟩ := z00 ca
  refine W.ln (Lo.qF Tryz.f67 (ps := [_]) (pw := fun w => [_]) (mc rfl mn) cb (fun ax B => z3t K (e 7) b7 B _ cd)) ?_
  rintro e5 e6 ⟨cf, e7, cg, ch, eA, rfl⟩
  refine W.q2 (.int .u32 (IntKind.wrap .u32 A)) (ft (am 6 rfl) (ft (u 6 rfl) rfl)) ?_
  obtain ⟨e8, ci, cj, ck⟩ := cg.frzSl (j := 0) rfl
  obtain ⟨e9, cl, cm⟩ := z00 ce
  refine W.ln (Lo.cQ Tryz.f99 (mc rfl (mc rfl mn)) ci (fun ax B => z9i K cf cc ck (IntKind.wrap .u32 A) B _ cl)) ?_
  rintro fa fb ⟨fc, cn, co, eB, ⟨J, aF, rfl, cp, fd⟩⟩
  refine W.p2 (.tuple #[J, aF]) (W.pv J (z0j ov rfl) (W.pv aF (z0j ov rfl) (W.p1 J (W.p1 aF (.nil (.seq ?_))))))
  refine .region (W.q2 q (ft (am 10 rfl) rfl) ?_)
  obtain ⟨fe, cq, cr⟩ := z00 cm
  refine W.ln (Lo.qF Tryz.f67 (ps := [_]) (pw := fun w => [_]) (mc rfl mn) cn (fun ax B => z3t K q b6 B _ cq)) ?_
  rintro ff fg ⟨aG, fh, cs, bl, eC, rfl⟩
  refine W.p2 J (W.p1 aG (W.p1 J (.nil (.ret ?_))))
  obtain ⟨fi, ct, bm, cu⟩ := cs.frzSl (j := 0) rfl
  have et := zAe F (zAe a6 (zAe bd (zAe be (zAe bJ (zAe bV (zAe b3 (zAe b9 (zAe ch (zAe cj (zAe co (zAe bl bm)))))))))))
  have cv := ct.drop 0
  obtain rfl := zAa cr
  exact zp4 kr (v1 := aG) (v2 := J) (by rfl) rt rt cv et ⟨aG, J, rfl, cu, (RT.mono _ (zAe bl bm) cp)⟩
 refine .block (AW.loop (α := Nat) (fun Z o I => ∃ (p : List Int) (ac : List Int) (eu : Int) (k : GM), z2o K f Z p ac eu = some bk /\ Ow k I (eSl q 119 (rI .u32) p :: eSl Y 119 (rI .u32) [0] :: eSl (e 7) 119 (rI .u32) ac :: L) /\ GM.le bj k /\ o 11 = .int .i64 eu) (fun Z => Z) K ⟨(List.replicate (aD.toNat) 0), ab, z03 .i64 (aE - 1), _, b4, b2, (zAf _), rfl⟩ ?_)
 rintro aH
 rintro eD fj g ⟨U, V, i, bn, an, bo, s, C⟩
 rcases aH with _ | aH
 .exact z09 an
 rw [z2o] at an
 refine .seq (.seq (.region (W.q2 _ C (W.p3 (.bool (decide (i >= 0))) (.nil (.cond (b := decide (i >= 0)) rfl rfl (fun aI => ?_) (fun aI => ?_)))))))
 rotate_left
 .have cw := z0h aI an
  refine .exit ?_
  obtain rfl := zAa cw
  exact ⟨U, V, _, rfl, bo, s⟩
 have cx := z01 aI an
 refine .skip (.seq (.block (.seq (.draw2 (M := [0, 0, 0, 6, 15, 31, 63, 127, 0, 0, 0, 1536, 3584, 7936, 16128, 32512, 65535, 131071]) mixed (by kernel_rfl) (by kernel_rfl) fun fk fl cy fm => ?_))))
 have ad := bo.ext cy
 refine D2.q2 (e 7) (ft (g 7 rfl) rfl) (D2.q2 _ C (D2.q2 (.int .i64 (f.length : Int)) (ft (g 9 rfl) rfl) (D2.p3 (.int .i64 (z03 .i64 (i + (f.length : Int)))) ?_)))
 obtain ⟨ao, cz, cA⟩ := z00 cx
 have aJ := z0c cz
 refine D2.pv (z1v (e 7) (Int.toNat (z03 .i64 (i + (f.length : Int))) * 1)) (z2a el71 z5s ov ov (ad.slLen (j := 2) rfl) aJ.1 aJ.2.1) (D2.l1 (.int .u32 ao) zc6 (z0i rfl (At.int (ad.atSl (j := 2) rfl aJ.2.2))) z08 (D2.pv (.int .u64 (IntKind.wrap .u64 ao)) (z5e zbn zeb ov) (D2.p3 (.int .u64 (z03 .u64 ((IntKind.wrap .u64 ao) * 1000000000))) (D2.q2 (e 7) (ft (g 7 rfl) rfl) (D2.q2 _ C (D2.q2 (.int .i64 (f.length : Int)) (ft (g 9 rfl) rfl) ?_))))))
 refine D2.p3 (.int .i64 (z03 .i64 (i + (f.length : Int)))) (D2.p3 (.int .i64 (z03 .i64 ((z03 .i64 (i + (f.length : Int))) - 1))) ?_)
 obtain ⟨cB, cC, cD⟩ := z71 cA
 obtain ⟨aK, cE, cF⟩ := z00 cD
 have aL := z0c cE
 refine D2.pv (z1v (e 7) (cB.toNat * 1)) (z2a el71 z5s ov (ou (congrArg (Value.int .i64) cC)) (ad.slLen (j := 2) rfl) aL.1 aL.2.1) (D2.l1 (.int .u32 aK) zc6 (z0i rfl (At.int (ad.atSl (j := 2) rfl aL.2.2))) z08 (D2.pv (.int .u64 (IntKind.wrap .u64 aK)) (z5e zbn zeb ov) (D2.p3 (.int .u64 (z03 .u64 ((z03 .u64 ((IntKind.wrap .u64 ao) * 1000000000)) + (IntKind.wrap .u64 aK)))) ?_)))
 obtain ⟨E, cG, cH⟩ := z71 cF
 refine D2.q1 _ (congrArg (Value.int .u64) cG) (.nil (.seq (.draw2 (M := [0, 0, 0, 4, 14, 30, 62, 127, 0, 0, 0, 1024, 3584, 7680, 15872, 32512, 255, 131071]) mixed (by kernel_rfl) (by kernel_rfl) fun fo fp cI fq => ?_)))
 have aM := ad.ext cI
 refine D2.p2 (.int .u64 E) (D2.q2 l (ft (g 8 rfl) (ft (u 8 rfl) rfl)) (D2.q2 (.int .i64 (f.length : Int)) (ft (g 9 rfl) rfl) (D2.p3 (.int .i64 (z03 .i64 ((f.length : Int) - 1))) ?_)))
 obtain ⟨ae, cJ, cK⟩ := z00 cH
 have aN := z0c cJ
 refine D2.pv (z1v l (Int.toNat (z03 .i64 ((f.length : Int) - 1)) * 1)) (z2a el71 z5s ov ov (z0g (RT.mono _ s x)) aN.1 aN.2.1) (D2.l1 (.int .u32 ae) zc6 (z0i rfl (At.int (At.le (At.le (z1h x aN.2.2) s s) (zAf _) aM.fro))) z08 (D2.pv (.int .u64 (IntKind.wrap .u64 ae)) (z5e zbn zeb ov) ?_))
 obtain ⟨cL, cM⟩ := z2b cK
 refine D2.pv (.int .u64 (z03 .u64 (Int.tdiv E (IntKind.wrap .u64 ae)))) (zkz cL ov ov) (D2.p2 (.int .u64 E) (D2.q2 l (ft (g 8 rfl) (ft (u 8 rfl) rfl)) (D2.q2 (.int .i64 (f.length : Int)) (ft (g 9 rfl) rfl) (D2.p3 (.int .i64 (z03 .i64 ((f.length : Int) - 1))) ?_))))
 obtain ⟨af, cN, cO⟩ := z00 cM
 have aO := z0c cN
 refine D2.pv (z1v l (Int.toNat (z03 .i64 ((f.length : Int) - 1)) * 1)) (z2a el71 z5s ov ov (z0g (RT.mono _ s x)) aO.1 aO.2.1) (D2.l1 (.int .u32 af) zc6 (z0i rfl (At.int (At.le (At.le (z1h x aO.2.2) s s) (zAf _) aM.fro))) z08 (D2.pv (.int .u64 (IntKind.wrap .u64 af)) (z5e zbn zeb ov) ?_))
 obtain ⟨cP, cR⟩ := z2b cO
 refine D2.pv (.int .u64 (Int.tmod E (IntKind.wrap .u64 af))) (zl0 cP ov ov) (D2.p1 (.int .u64 (z03 .u64 (Int.tdiv E (IntKind.wrap .u64 ae)))) (D2.p1 (.int .u64 (Int.tmod E (IntKind.wrap .u64 af))) (.nil (.seq ?_))))
 obtain ⟨bp, cS, cT⟩ := z00 cR
 refine AW.midT (fun o I => ∃ (p : Int) (k : GM), p = bp /\ Ow k I (eSl q 119 (rI .u32) U :: eSl Y 119 (rI .u32) [0] :: eSl (e 7) 119 (rI .u32) V :: L) /\ GM.le bn k /\ o 13 = .int .u64 p) ?_ ?_
 rotate_left
 .rintro eE fr m ⟨ag, fs, rfl, cU, aP, aQ⟩
  have cV := z0a cT
  refine .seq (.seq (.region (W.q2 (e 7) (ft (m 7 rfl) (ft (g 7 rfl) rfl)) (W.q2 l (ft (m 8 rfl) (ft (g 8 rfl) (ft (u 8 rfl) rfl))) (W.q2 _ (ft (m 11 rfl) C) (W.q2 _ aQ ?_))))))
  have cW := cU.front (j := 2) rfl
  obtain ⟨aR, cX, cY⟩ := z00 cV
  refine W.ln (Lo.callP (ps := [_]) (ps' := [_]) rfl (fn := Tryz.f100) (by kernel_rfl) rfl (mc rfl (mc rfl (mc rfl (mc rfl mn)))) cW (fun ax B => zdi K (e 7) V l f (RT.mono _ (zAe s aP) x) i ag B _ cX)) ?_
  rintro fu fv ⟨cZ, bq, br, eF, rfl⟩
  refine .nil ?_
  obtain ⟨c0, bs, c1⟩ := z00 cY
  refine AW.midT (fun o I => ∃ (p : List Int) (ac : Int) (k : GM), (p, ac) = c0 /\ Ow k I (eSl (e 7) 119 (rI .u32) p :: eSl q 119 (rI .u32) U :: eSl Y 119 (rI .u32) [0] :: L) /\ GM.le cZ k /\ o 13 = .int .u64 ac) ?_ ?_
  .refine .cond (b := aR.1) rfl rfl (fun aS => ?_) (fun aS => ?_)
   rotate_left
   .have c2 := z0h aS bs
    refine .skip ?_
    obtain rfl := zAa c2
    exact ⟨aR.2, ag, _, rfl, bq, (zAf _), aQ⟩
   have c3 := z01 aS bs
   refine .seq (.region (W.q2 _ aQ (W.p3 (.int .u64 (z03 .u64 (ag - 1))) (W.p1 (.int .u64 (z03 .u64 (ag - 1))) (.nil (.region ?_))))))
   refine W.q2 (e 7) (ft (m 7 rfl) (ft (g 7 rfl) rfl)) (W.q2 l (ft (m 8 rfl) (ft (g 8 rfl) (ft (u 8 rfl) rfl))) (W.q2 _ (ft (m 11 rfl) C) ?_))
   obtain ⟨c4, c5, c6⟩ := z00 c3
   refine W.ln (Lo.callP (ps := [_]) (ps' := [_]) rfl (fn := Tryz.f101) (by kernel_rfl) rfl (mc rfl (mc rfl (mc rfl mn))) bq (fun ax B => zeg K (e 7) aR.2 l f (RT.mono _ (zAe s (zAe aP br)) x) i B _ c5)) ?_
   rintro fw fx ⟨fy, c7, c8, eG, rfl⟩
   refine .nil ?_
   obtain rfl := zAa c6
   exact ⟨c4, z03 .u64 (ag - 1), _, rfl, c7, c8, rfl⟩
  rintro eH fz ap ⟨c9, aq, fA, rfl, bt, da, db⟩
  have dc := z3c c1
  refine .region (W.q2 q (ft (ap 10 rfl) (ft (m 10 rfl) (ft (g 10 rfl) rfl))) (W.q2 _ (ft (ap 11 rfl) (ft (m 11 rfl) C)) (W.q2 _ db (W.pv (.int .u32 (IntKind.wrap .u32 aq)) (z5e zeb zbn ov) ?_))))
  obtain ⟨fB, dd, de⟩ := z00 dc
  have aT := z0c dd
  refine W.pv (z1v q (i.toNat * 1)) (z2a el71 z5s ov ov (bt.slLen (j := 1) rfl) aT.1 aT.2.1) (W.ln (Lo.storeSl0 (j := 1) (y0 := IntKind.wrap .u32 aq) (v := (.int .u32 (IntKind.wrap .u32 aq))) rfl aT.2.2  rfl z5s rfl rfl rfl bt) ?_)
  rintro fC fD ⟨df, eI⟩
  refine .nil (.region (W.q2 _ (ft (ap 11 rfl) (ft (m 11 rfl) C)) (W.p3 (.int .i64 (z03 .i64 (i - 1))) (W.p1 (.int .i64 (z03 .i64 (i - 1))) (.nil ?_)))))
  have dg := ((df.front (j := 0) rfl).front (j := 2) rfl).front (j := 2) rfl
  exact ⟨aH, zAg _, ⟨(List.set U (i.toNat) (IntKind.wrap .u32 aq)), c9, z03 .i64 (i - 1), _, de, dg, (zAe s (zAe aP (zAe br da))), rfl⟩⟩
 refine .block (AW.loop (α := Nat) (fun Z o I => ∃ (p : Int) (ac : Int) (k : GM), z2y K f V i Z p ac = some bp /\ Ow k I (eSl q 119 (rI .u32) U :: eSl Y 119 (rI .u32) [0] :: eSl (e 7) 119 (rI .u32) V :: L) /\ GM.le bn k /\ o 13 = .int .u64 p /\ o 14 = .int .u64 ac) (fun Z => Z) K ⟨z03 .u64 (Int.tdiv E (IntKind.wrap .u64 ae)), Int.tmod E (IntKind.wrap .u64 af), _, cS, aM, (zAf _), rfl, rfl⟩ ?_)
 rintro aU
 rintro eJ fE z ⟨y, N, dh, aV, di, bu, ar, bv⟩
 have a7 := zAe s bu
 rcases aU with _ | aU
 .exact z09 aV
 rw [z2y] at aV
 refine .seq (.seq ?_)
 obtain ⟨dj, bw, dk⟩ := z00 aV
 refine AW.midT (fun o I => ∃ (p : Bool) (k : GM), p = dj /\ Ow k I (eSl q 119 (rI .u32) U :: eSl Y 119 (rI .u32) [0] :: eSl (e 7) 119 (rI .u32) V :: L) /\ GM.le dh k /\ o 132 = .bool p) ?_ ?_
 rotate_left
 .rintro eK fF S ⟨dl, fG, rfl, au, bx, dm⟩
  have bz := zAe bu bx
  have bA := zAe a7 bx
  have bB := z0a dk
  refine .cond (b := dl) rfl dm (fun aW => ?_) (fun aW => ?_)
  rotate_left
  .have dn := z0h aW bB
   refine .exit ?_
   obtain rfl := zAa dn
   exact ⟨y, _, rfl, au, bz, (ft (S 13 rfl) ar)⟩
  have dp := z01 aW bB
  refine .skip (.block (.seq (.region (W.q2 _ (ft (S 13 rfl) ar) (W.p3 (.int .u64 (z03 .u64 (y - 1))) (W.p1 (.int .u64 (z03 .u64 (y - 1))) ?_))))))
  refine .nil (.seq (.region (W.q2 _ (ft (S 14 rfl) bv) (W.q2 l (ft (S 8 rfl) (ft (z 8 rfl) (ft (g 8 rfl) (ft (u 8 rfl) rfl)))) (W.q2 (.int .i64 (f.length : Int)) (ft (S 9 rfl) (ft (z 9 rfl) (ft (g 9 rfl) rfl))) (W.p3 (.int .i64 (z03 .i64 ((f.length : Int) - 1))) ?_))))))
  obtain ⟨P, dq, dr⟩ := z00 dp
  have aX := z0c dq
  refine W.pv (z1v l (Int.toNat (z03 .i64 ((f.length : Int) - 1)) * 1)) (z2a el71 z5s ov ov (z0g (RT.mono _ bA x)) aX.1 aX.2.1) (W.l1 (.int .u32 P) zc6 (z0i rfl (At.int (At.le (At.le (z1h x aX.2.2) bA bA) (zAf _) au.fro))) (W.pv (.int .u64 (IntKind.wrap .u64 P)) (z5e zbn zeb ov) (W.p3 (.int .u64 (z03 .u64 (N + (IntKind.wrap .u64 P)))) (W.p1 (.int .u64 (z03 .u64 (N + (IntKind.wrap .u64 P)))) (.nil (.seq ?_))))))
  refine .region (W.p2 (.int .u64 (z03 .u64 (N + (IntKind.wrap .u64 P)))) (W.p3 (.bool (decide ((z03 .u64 (N + (IntKind.wrap .u64 P))) >= 1000000000))) ?_))
  obtain ⟨ds, dt, bC⟩ := z71 dr
  refine .nil (.cond (b := ds) rfl (congrArg (Value.bool) dt) (fun aY => ?_) (fun aY => ?_))
  .have du := z01 aY bC
   refine .exit ?_
   obtain rfl := zAa du
   exact ⟨z03 .u64 (y - 1), _, rfl, au, bz, rfl⟩
  have dv := z0h aY bC
  refine .skip ?_
  exact ⟨aU, zAg _, ⟨z03 .u64 (y - 1), z03 .u64 (N + (IntKind.wrap .u64 P)), _, dv, au, bz, rfl, rfl⟩⟩
 refine .draw2 (M := [0, 1, 3, 7, 7, 7, 39, 119, 247, 503, 1023, 7, 2055, 7, 7, 7, 49159, 114695, 253959, 516103, 1040391, 2095111, 4194303, 8388607]) mixed (by kernel_rfl) (by kernel_rfl) fun fH fI dw fJ => ?_
 have ah := di.ext dw
 refine D2.q2 _ ar (D2.p3 (.bool (decide (y >= 1000000000))) (D2.p2 (.bool (decide (y >= 1000000000))) (D2.splitAt (t := 111) (b := decide (y >= 1000000000)) rfl (fun aZ d => ?_) (fun aZ d => ?_))))
 .have dx := z01 aZ bw
  refine D2.skip (gl rfl d) rfl (D2.skip (gl rfl d) rfl (D2.skip (gl rfl d) rfl (D2.skip (gl rfl d) rfl (D2.skip (gl rfl d) rfl (D2.skip (gl rfl d) rfl (D2.skip (gl rfl d) rfl ?_))))))
  refine D2.skip (gl rfl d) rfl (D2.skip (gl rfl d) rfl (D2.skip (gl rfl d) rfl (D2.skip (gl rfl d) rfl (D2.skip (gl rfl d) rfl (D2.skip (gl rfl d) rfl (D2.skip (gl rfl d) rfl ?_))))))
  refine D2.skip (gl rfl d) rfl (D2.skip (gl rfl d) rfl (D2.skip (gl rfl d) rfl (D2.skip (gl rfl d) rfl (D2.skip (gl rfl d) rfl (D2.skip (gl rfl d) rfl (D2.pv (.bool true) (z68 (ou d) ov) ?_))))))
  refine .nil ?_
  obtain rfl := zAa dx
  exact ⟨true, _, rfl, ah, (zAf _), rfl⟩
 have dy := z0h aZ bw
 refine D2.q2 (hg := gk rfl rfl d rfl) _ ar (D2.q2 (hg := gk rfl rfl d rfl) l (ft (z 8 rfl) (ft (g 8 rfl) (ft (u 8 rfl) rfl))) (D2.q2 (hg := gk rfl rfl d rfl) (.int .i64 (f.length : Int)) (ft (z 9 rfl) (ft (g 9 rfl) rfl)) (D2.q3 (hg := gk rfl rfl d rfl) (.int .i64 (z03 .i64 ((f.length : Int) - 2))) rfl rfl ?_)))
 obtain ⟨av, dz, dA⟩ := z00 dy
 have a0 := z0c dz
 refine D2.pure (v := (z1v l (Int.toNat (z03 .i64 ((f.length : Int) - 2)) * 1))) (gl rfl d) rfl (z2a el71 z5s ov ov (z0g (RT.mono _ a7 x)) a0.1 a0.2.1) (D2.load1' (v := (.int .u32 av)) (r := []) (gl rfl d) rfl zc6 (z0i rfl (At.int (At.le (At.le (z1h x a0.2.2) a7 a7) (zAf _) ah.fro))) z08 (D2.pure (v := (.int .u64 (IntKind.wrap .u64 av))) (gl rfl d) rfl (z5e zbn zeb ov) (D2.q3 (hg := gk rfl rfl d rfl) (.int .u64 (z03 .u64 (y * (IntKind.wrap .u64 av)))) rfl rfl (D2.q2 (hg := gk rfl rfl d rfl) _ bv (D2.q3 (hg := gk rfl rfl d rfl) (.int .u64 (z03 .u64 (N * 1000000000))) rfl rfl (D2.q2 (hg := gk rfl rfl d rfl) (e 7) (ft (z 7 rfl) (ft (g 7 rfl) rfl)) ?_))))))
 refine D2.q2 (hg := gk rfl rfl d rfl) _ (ft (z 11 rfl) C) (D2.q2 (hg := gk rfl rfl d rfl) (.int .i64 (f.length : Int)) (ft (z 9 rfl) (ft (g 9 rfl) rfl)) (D2.q3 (hg := gk rfl rfl d rfl) (.int .i64 (z03 .i64 (i + (f.length : Int)))) rfl rfl (D2.q3 (hg := gk rfl rfl d rfl) (.int .i64 (z03 .i64 ((z03 .i64 (i + (f.length : Int))) - 2))) rfl rfl ?_)))
 obtain ⟨dB, dC, dD⟩ := z71 dA
 obtain ⟨a1, dE, dF⟩ := z00 dD
 have a2 := z0c dE
 refine D2.pure (v := (z1v (e 7) (dB.toNat * 1))) (gl rfl d) rfl (z2a el71 z5s ov (ou (congrArg (Value.int .i64) dC)) (ah.slLen (j := 2) rfl) a2.1 a2.2.1) (D2.load1' (v := (.int .u32 a1)) (r := []) (gl rfl d) rfl zc6 (z0i rfl (At.int (ah.atSl (j := 2) rfl a2.2.2))) z08 (D2.pure (v := (.int .u64 (IntKind.wrap .u64 a1))) (gl rfl d) rfl (z5e zbn zeb ov) (D2.q3 (hg := gk rfl rfl d rfl) (.int .u64 (z03 .u64 ((z03 .u64 (N * 1000000000)) + (IntKind.wrap .u64 a1)))) rfl rfl ?_)))
 obtain ⟨dG, dH, dI⟩ := z71 dF
 refine D2.q3 (hg := gk rfl rfl d rfl) (.bool (decide ((z03 .u64 (y * (IntKind.wrap .u64 av))) > dG))) rfl (congrArg (Value.int .u64) dH) ?_
 obtain ⟨bD, dJ, dK⟩ := z71 dI
 refine D2.pv (.bool bD) (z8u (ou d) (ou (congrArg (Value.bool) dJ))) (.nil ?_)
 obtain rfl := zAa dK
 exact ⟨bD, _, rfl, ah, (zAf _), rfl⟩
def z1t (K : Nat) : Nat -> List Int -> List Int -> Option (List Int)
  | 0, _, _ => none
  | k + 1, b, a => (if (decide ((a.length : Int) > 0)) = true then ((z5q K b a).bind fun c => z1t K k a c.2) else some b)
def z79 (K : Nat) (b : List Int) (c : List Int) : Option (List Int) := (Option.bind (z1t K K b c) (tu1 fun a => some a))
theorem zbd (z : Value) (t : List Int) (A : (rSl (rI .u32)).rep G [z] t) (v1 : Value) (u : List Int) (B : (rSl (rI .u32)).rep G [v1] u) (O : Ow G H (L)) (r : List Int) (h : z79 K t u = some r) :
    CR Tryz.prog 77 [z, v1] G H (L) (fun v c _ => ∃ (C : Value), C = v /\ (rSl (rI .u32)).rep c [C] r) := by
 unfold z79 at h
 refine CR.og (n := 19) (fn := Tryz.f77) (by kernel_rfl) rfl rfl fun R kr => (.seq (.region (W.p1 (.slice none 0 0) (.nil (.seq ?_)))))
 obtain ⟨E, aa, ab⟩ := z00 h
 refine AW.midT (fun f w => ∃ (i : List Int) (c : GM), i = E /\ Ow c w (L) /\ GM.le G c /\ (rSl (rI .u32)).rep c [f 0] i) ?_ ?_
 rotate_left
 .rintro d af ac ⟨ag, ah, rfl, F, I, J⟩
  have M := z0a ab
  refine .seq (.region (W.p2 (d 0) (W.p1 (d 0) (.nil (.ret ?_)))))
  obtain rfl := zAa M
  exact z1m kr (v1 := (d 0)) (by rfl) rt F I ⟨(d 0), rfl, J⟩
 refine .block (AW.loop (α := Nat) (fun x f w => ∃ (i : List Int) (N : List Int) (c : GM), z1t K x i N = some E /\ Ow c w (L) /\ GM.le G c /\ (rSl (rI .u32)).rep c [f 0] i /\ (rSl (rI .u32)).rep c [f 1] N) (fun x => x) K ⟨t, u, _, aa, O, (zAf _), A, B⟩ ?_)
 rintro y
 rintro a ao ai ⟨P, j, aj, g, o, p, q, k⟩
 rcases y with _ | y
 .exact z09 g
 rw [z1t] at g
 refine .seq (.seq (.region (W.p2 (a 1) (W.pv (.int .i64 (j.length : Int)) (z0q ov (z0g k) (z05 el71)) (W.p3 (.bool (decide ((j.length : Int) > 0))) (.nil ?_))))))
 refine .cond (b := decide ((j.length : Int) > 0)) rfl rfl (fun l => ?_) (fun l => ?_)
 rotate_left
 .have S := z0h l g
  refine .exit ?_
  obtain rfl := zAa S
  exact ⟨P, _, rfl, o, p, q⟩
 have T := z01 l g
 refine .skip (.block (.seq (.region (W.p2 (a 0) (W.p2 (a 1) ?_)))))
 obtain ⟨U, V, X⟩ := z00 T
 refine W.ln (Lo.cQ Tryz.f91 (mc rfl (mc rfl mn)) o (fun ap ad => z8h K (a 0) P q (a 1) j k ad _ V)) ?_
 rintro ak al ⟨am, Y, s, ae, ⟨m, e, rfl, an, Z⟩⟩
 refine W.p2 (.tuple #[m, e]) (W.pv m (z0j ov rfl) (W.pv e (z0j ov rfl) (W.p1 m (W.p1 e (.nil (.region ?_))))))
 refine W.p2 (a 1) (W.p2 e (W.p1 (a 1) (W.p1 e (.nil ?_))))
 exact ⟨y, zAg _, ⟨j, U.2, _, X, Y, (zAe p s), (RT.mono _ s k), Z⟩⟩
def z4f (K : Nat) : Nat -> List Int -> Int -> Option (List Int)
  | 0, _, _ => none
  | k + 1, b, a => (if (decide (a > 0)) = true then (if b.length + [IntKind.wrap .u32 (Int.tmod a 1000000000)].length <= 16777216 then z4f K k (b ++ [IntKind.wrap .u32 (Int.tmod a 1000000000)]) (z03 .i64 (Int.tdiv a 1000000000)) else none) else some b)
def z62 (K : Nat) (b : Int) : Option (List Int) := (Option.bind (z4f K K [] b) (tu1 fun a => some a))
theorem z5r (q : Int) (O : Ow G H (L)) (r : List Int) (h : z62 K q = some r) :
    CRF Tryz.prog 52 [(.int .i64 q)] G H (fun s => (eSl s 119 (rI .u32) r :: L)) (fun s v f => s = v) := by
 unfold z62 at h
 refine CRF.og (n := 15) (fn := Tryz.f52) (by kernel_rfl) rfl rfl fun R kr => (.seq (.region (W.p1 (.slice none 0 0) (.nil (.seq (.region ?_))))))
 refine W.p1 (.slice none 0 0) (.nil (.seq ?_))
 obtain ⟨x, U, V⟩ := z00 h
 refine AW.midT (fun d t => ∃ (g : List Int) (f : GM), g = x /\ Ow f t (eSl (d 3) 119 (rI .u32) g :: L) /\ GM.le G f) ?_ ?_
 rotate_left
 .rintro c ad X ⟨ae, af, rfl, y, z⟩
  have A := z0a V
  refine .seq (.region (W.p2 (c 3) (W.p1 (c 3) (.nil (.ret ?_)))))
  obtain rfl := zAa A
  exact z4j kr (c 3) (v1 := (c 3)) (by rfl) rt y z rfl
 refine .block ?_
 have Y := O.nilSl 119 (rI .u32)
 refine AW.loop (α := Nat) (fun u d t => ∃ (g : List Int) (B : Int) (f : GM), z4f K u g B = some x /\ Ow f t (eSl (d 3) 119 (rI .u32) g :: L) /\ GM.le G f /\ d 0 = .int .i64 B) (fun u => u) K ⟨[], q, _, U, Y, (zAf _), rfl⟩ ?_
 rintro w
 rintro l ak Z ⟨C, a, ag, e, m, o, i⟩
 rcases w with _ | w
 .exact z09 e
 rw [z4f] at e
 refine .seq (.seq (.region (W.q2 _ i (W.p3 (.bool (decide (a > 0))) (.nil (.cond (b := decide (a > 0)) rfl rfl (fun k => ?_) (fun k => ?_)))))))
 rotate_left
 .have E := z0h k e
  refine .exit ?_
  obtain rfl := zAa E
  exact ⟨C, _, rfl, m, o⟩
 have F := z01 k e
 refine .skip (.block (.seq (.region (W.p2 (l 3) (W.q2 _ i (W.pv (.int .i64 (Int.tmod a 1000000000)) (zl0 (by decide) ov ov) ?_))))))
 refine W.pv (.int .u32 (IntKind.wrap .u32 (Int.tmod a 1000000000))) (z5e in3 zbn ov) (W.ln (Lo.buildSlice (r := (rI .u32)) (vs := [(.int .u32 (IntKind.wrap .u32 (Int.tmod a 1000000000)))]) (xs := [IntKind.wrap .u32 (Int.tmod a 1000000000)]) el71 zet z5s (by kernel_rfl) rfl (qc rfl qn) rfl (.cons rfl .nil) m) ?_)
 rintro ah ai ⟨p, aa⟩
 obtain ⟨ab, I, J⟩ := z4a (j := 0) rfl p
 obtain ⟨M, N⟩ := z2b F
 refine W.ln (Lo.append (j := 1) (v := (l 3)) rfl rfl el71 ni71 zet z5s zlh (by decide) (by decide) rfl I J M p) ?_
 rintro P aj ⟨S, ac⟩
 refine W.p1 P (.nil (.region (W.q2 _ i (W.pv (.int .i64 (z03 .i64 (Int.tdiv a 1000000000))) (zkz (by decide) ov ov) (W.p1 (.int .i64 (z03 .i64 (Int.tdiv a 1000000000))) (.nil ?_))))))
 have T := S.drop 0
 exact ⟨w, zAg _, ⟨(C ++ [IntKind.wrap .u32 (Int.tmod a 1000000000)]), z03 .i64 (Int.tdiv a 1000000000), _, N, T, o, rfl⟩⟩
def z7a (K : Nat) (n : zAd) : Option Int := ((z24 K n (⟨#[45]⟩ : zAd)).bind fun j => ((z4t K j.1 (⟨#[47]⟩ : zAd)).bind fun a => ((z78 K a.1).bind fun b => (Option.bind ((if a.2.2 = true then ((z78 K a.2.1).bind fun k => some k) else some 0)) (tu1 fun c => (Option.bind ((if (b == 5) = true then some true else (if (c == 5) = true then some true else (if j.2 = true then some (sEq a.1 (⟨#[48]⟩ : zAd)) else some false)))) (tu1 fun l => (if l = true then some 5 else (Option.bind ((if (b != 0) = true then some true else some (c != 0))) (tu1 fun m => (if m = true then some 2 else (Option.bind ((if a.2.2 = true then (if (sEq a.2.1 (⟨#[48]⟩ : zAd)) = true then some true else (if (sEq a.2.1 (⟨#[49]⟩ : zAd)) = true then some true else ((z6r K a.1).bind fun d => ((z6r K a.2.1).bind fun e => ((z79 K d e).bind fun f => ((z62 K 1).bind fun g => ((z5o K f g).bind fun h => some (h != 0)))))))) else some false)) (tu1 fun i => (if i = true then some 3 else some 0))))))))))))))
theorem zfn (ai : zAd) (O : Ow G H (L)) (r : Int) (h : z7a K ai = some r) :
    CR Tryz.prog 64 [(.string ai)] G H (L) (fun v q _ => v = .int .i64 r) := by
 unfold z7a at h
 refine CR.og (n := 64) (fn := Tryz.f64) (by kernel_rfl) rfl rfl fun R kr => (.seq (.region (W.p1 (.int .i64 0) (.nil (.seq (.region ?_))))))
 refine W.p2 (.string ai) ?_
 obtain ⟨s, b4, b5⟩ := z00 h
 refine W.ln (Lo.cQ Tryz.f49 (mc rfl (mc rfl mn)) O (fun C i => z6p K ai (⟨#[45]⟩ : zAd) i _ b4)) ?_
 rintro cw cx ⟨cK, b6, bo, cy, rfl⟩
 refine W.p2 (.tuple #[(.string s.1), (.bool s.2)]) (W.pv (.string s.1) (z0j ov rfl) (W.pv (.bool s.2) (z0j ov rfl) (W.p1 (.string s.1) (W.p1 (.bool s.2) (.nil (.seq ?_))))))
 refine .region (W.p2 (.string s.1) ?_)
 obtain ⟨a, bp, bq⟩ := z00 b5
 refine W.ln (Lo.cQ Tryz.f50 (mc rfl (mc rfl mn)) b6 (fun C i => z9h K s.1 (⟨#[47]⟩ : zAd) i _ bp)) ?_
 rintro cz cA ⟨cB, br, aj, b7, rfl⟩
 refine W.p2 (.tuple #[(.string a.1), (.string a.2.1), (.bool a.2.2)]) (W.pv (.string a.1) (z0j ov rfl) (W.pv (.string a.2.1) (z0j ov rfl) (W.pv (.bool a.2.2) (z0j ov rfl) (W.p1 (.string a.1) (W.p1 (.string a.2.1) (W.p1 (.bool a.2.2) ?_))))))
 refine .nil (.seq (.region (W.p2 (.string a.1) ?_)))
 obtain ⟨p, bs, bt⟩ := z00 bq
 refine W.ln (Lo.cQ Tryz.f76 (mc rfl mn) br (fun C i => zbc K a.1 i _ bs)) ?_
 rintro cC cD ⟨bu, ak, al, b8, rfl⟩
 refine W.p1 (.int .i64 p) (W.p1 (.int .i64 0) (.nil (.seq (.seq (.region (W.p2 (.bool a.2.2) ?_))))))
 refine .nil ?_
 obtain ⟨bv, am, bw⟩ := z00 bt
 refine AW.midT (fun u E => ∃ (x : Int) (q : GM), x = bv /\ Ow q E (L) /\ GM.le bu q /\ u 9 = .int .i64 x) ?_ ?_
 .refine .cond (b := a.2.2) rfl rfl (fun S => ?_) (fun S => ?_)
  rotate_left
  .have bx := z0h S am
   refine .skip ?_
   obtain rfl := zAa bx
   exact ⟨0, _, rfl, ak, (zAf _), rfl⟩
  have bz := z01 S am
  refine .region (W.p2 (.string a.2.1) ?_)
  obtain ⟨an, bA, bB⟩ := z00 bz
  refine W.ln (Lo.cQ Tryz.f76 (mc rfl mn) ak (fun C i => zbc K a.2.1 i _ bA)) ?_
  rintro cE cF ⟨cG, bC, bD, b9, rfl⟩
  refine W.p1 (.int .i64 an) (.nil ?_)
  obtain rfl := zAa bB
  exact ⟨an, _, rfl, bC, bD, rfl⟩
 rintro ca cH f ⟨y, bE, rfl, P, ao, ap⟩
 have bF := z0a bw
 refine .seq (.seq ?_)
 obtain ⟨bG, aq, bH⟩ := z00 bF
 refine AW.midT (fun u E => ∃ (x : Bool) (q : GM), x = bG /\ Ow q E (L) /\ GM.le bE q /\ u 38 = .bool x) ?_ ?_
 .refine .region (W.q2 (.int .i64 p) (ft (f 8 rfl) rfl) (W.p3 (.bool (p == 5)) (W.p2 (.bool (p == 5)) (W.splitAt (t := 28) (b := (p == 5)) rfl (fun T k => ?_) (fun T k => ?_)))))
  .have bI := z01 T aq
   refine W.q6 rfl k (W.q6 rfl k (W.q4 (.bool true) k rfl (W.p2 (.bool true) (W.q6 rfl rfl (W.q6 rfl rfl (W.skipU rfl rfl rfl rfl ?_))))))
   refine W.skipU rfl rfl rfl rfl (W.q6 rfl rfl (W.q4 (.bool true) rfl rfl (.nil ?_)))
   obtain rfl := zAa bI
   exact ⟨true, _, rfl, P, (zAf _), rfl⟩
  have ar := z0h T aq
  refine W.q2 (hg := gk rfl rfl k rfl) _ ap (W.q3 (hg := gk rfl rfl k rfl) (.bool (y == 5)) rfl rfl (W.q5 (.bool (y == 5)) k rfl (W.p2 (.bool (y == 5)) (W.splitAt (t := 32) (b := (y == 5)) rfl (fun U e => ?_) (fun U e => ?_)))))
  .have bJ := z01 U ar
   refine W.q6 rfl e (W.q6 rfl e (W.skipU rfl rfl rfl rfl (W.skipU rfl rfl rfl rfl (W.q6 rfl e (W.q4 (.bool true) e rfl (.nil ?_))))))
   obtain rfl := zAa bJ
   exact ⟨true, _, rfl, P, (zAf _), rfl⟩
  have au := z0h U ar
  refine W.q2 (hg := gk rfl rfl e rfl) (.bool s.2) (ft (f 4 rfl) rfl) (W.q2 (hg := gk rfl rfl e rfl) (.bool s.2) rfl (W.splitAt (t := 34) (b := s.2) rfl (fun V l => ?_) (fun V l => ?_)))
  rotate_left
  .have bK := z0h V au
   refine W.q6 rfl l (W.q6 rfl l (W.q5 (hg := gk rfl rfl e rfl) (.bool false) l rfl (W.q5 (.bool false) e rfl (.nil ?_))))
   obtain rfl := zAa bK
   exact ⟨false, _, rfl, P, (zAf _), rfl⟩
  have bL := z01 V au
  refine W.q2 (hg := gk rfl rfl l rfl) (.string a.1) (ft (f 5 rfl) rfl) (W.pure (v := (.bool (sEq a.1 (⟨#[48]⟩ : zAd)))) (gl rfl l) rfl (z90 ov ov) (W.q4 (hg := gk rfl rfl e rfl) (.bool (sEq a.1 (⟨#[48]⟩ : zAd))) l rfl (W.q5 (.bool (sEq a.1 (⟨#[48]⟩ : zAd))) e rfl (.nil ?_))))
  obtain rfl := zAa bL
  exact ⟨sEq a.1 (⟨#[48]⟩ : zAd), _, rfl, P, (zAf _), rfl⟩
 rintro cb cI m ⟨bM, bN, rfl, X, av, bO⟩
 have aw := z0a bH
 refine .cond (b := bM) rfl bO (fun Y => ?_) (fun Y => ?_)
 .have bP := z01 Y aw
  refine .seq (.region (W.p1 (.int .i64 5) (.nil (.ret ?_))))
  obtain rfl := zAa bP
  exact z1m kr (v1 := (.int .i64 5)) (by rfl) rt X (zAe bo (zAe aj (zAe al (zAe ao av)))) rfl
 have bQ := z0h Y aw
 refine .skip (.seq (.seq ?_))
 obtain ⟨bR, ax, bS⟩ := z00 bQ
 refine AW.midT (fun u E => ∃ (x : Bool) (q : GM), x = bR /\ Ow q E (L) /\ GM.le bN q /\ u 44 = .bool x) ?_ ?_
 .refine .region (W.q2 (.int .i64 p) (ft (m 8 rfl) (ft (f 8 rfl) rfl)) (W.p3 (.bool (p != 0)) (W.p2 (.bool (p != 0)) (W.splitAt (t := 41) (b := (p != 0)) rfl (fun Z o => ?_) (fun Z o => ?_)))))
  .have bT := z01 Z ax
   refine W.q6 rfl o (W.q6 rfl o (W.q4 (.bool true) o rfl (.nil ?_)))
   obtain rfl := zAa bT
   exact ⟨true, _, rfl, X, (zAf _), rfl⟩
  have bU := z0h Z ax
  refine W.q2 (hg := gk rfl rfl o rfl) _ (ft (m 9 rfl) ap) (W.q3 (hg := gk rfl rfl o rfl) (.bool (y != 0)) rfl rfl (W.q5 (.bool (y != 0)) o rfl (.nil ?_)))
  obtain rfl := zAa bU
  exact ⟨(y != 0), _, rfl, X, (zAf _), rfl⟩
 rintro cc cJ z ⟨bV, aA, rfl, A, aB, aC⟩
 have ay := zAe bo (zAe aj (zAe al (zAe ao (zAe av aB))))
 have aa := z0a bS
 refine .cond (b := bV) rfl aC (fun F => ?_) (fun F => ?_)
 .have aD := z01 F aa
  refine .seq (.region (W.p1 (.int .i64 2) (.nil (.ret ?_))))
  obtain rfl := zAa aD
  exact z1m kr (v1 := (.int .i64 2)) (by rfl) rt A ay rfl
 have aE := z0h F aa
 refine .skip (.seq (.seq ?_))
 obtain ⟨aF, ab, aG⟩ := z00 aE
 refine AW.midT (fun u E => ∃ (x : Bool) (q : GM), x = aF /\ Ow q E (L) /\ GM.le aA q /\ u 63 = .bool x) ?_ ?_
 rotate_left
 .rintro bX cd bY ⟨aH, ce, rfl, ac, aI, aJ⟩
  have az := zAe ay aI
  have ad := z0a aG
  refine .cond (b := aH) rfl aJ (fun I => ?_) (fun I => ?_)
  .have aK := z01 I ad
   refine .seq (.region (W.p1 (.int .i64 3) (.nil (.ret ?_))))
   obtain rfl := zAa aK
   exact z1m kr (v1 := (.int .i64 3)) (by rfl) rt ac az rfl
  have aL := z0h I ad
  refine .skip (.seq (.region (W.p1 (.int .i64 0) (.nil (.ret ?_)))))
  obtain rfl := zAa aL
  exact z1m kr (v1 := (.int .i64 0)) (by rfl) rt ac az rfl
 refine .region (W.q2 (.bool a.2.2) (ft (z 7 rfl) (ft (m 7 rfl) (ft (f 7 rfl) rfl))) (W.p2 (.bool a.2.2) (W.splitAt (t := 46) (b := a.2.2) rfl (fun J c => ?_) (fun J c => ?_))))
 rotate_left
 .have aM := z0h J ab
  refine W.q6 rfl c (W.q6 rfl c (W.q6 rfl c (W.skipU rfl rfl rfl rfl (W.skipU rfl rfl rfl rfl (W.q6 rfl c (W.q6 rfl c ?_))))))
  refine W.skipU rfl rfl rfl rfl (W.skipU rfl rfl rfl rfl (W.skipU rfl rfl rfl rfl (W.skipU rfl rfl rfl rfl (W.skipU rfl rfl rfl rfl (W.skipU rfl rfl rfl rfl (W.skipU rfl rfl rfl rfl ?_))))))
  refine W.skipU rfl rfl rfl rfl (W.q6 rfl c (W.q5 (.bool false) c rfl (.nil ?_)))
  obtain rfl := zAa aM
  exact ⟨false, _, rfl, A, (zAf _), rfl⟩
 have ae := z01 J ab
 refine W.q2 (hg := gk rfl rfl c rfl) (.string a.2.1) (ft (z 6 rfl) (ft (m 6 rfl) (ft (f 6 rfl) rfl))) (W.pure (v := (.bool (sEq a.2.1 (⟨#[48]⟩ : zAd)))) (gl rfl c) rfl (z90 ov ov) (W.q2 (hg := gk rfl rfl c rfl) (.bool (sEq a.2.1 (⟨#[48]⟩ : zAd))) rfl (W.splitAt (t := 49) (b := sEq a.2.1 (⟨#[48]⟩ : zAd)) rfl (fun M g => ?_) (fun M g => ?_))))
 .have aN := z01 M ae
  refine W.q6 rfl g (W.q6 rfl g (W.q4 (hg := gk rfl rfl c rfl) (.bool true) g rfl (W.q2 (hg := gk rfl rfl c rfl) (.bool true) rfl (W.q6 rfl rfl (W.q6 rfl rfl (W.q6 rfl rfl ?_))))))
  refine W.q6 rfl rfl (W.q6 rfl rfl (W.q6 rfl rfl (W.q6 rfl rfl (W.q6 rfl rfl (W.q4 (hg := gk rfl rfl c rfl) (.bool true) rfl rfl (W.q4 (.bool true) c rfl ?_))))))
  refine .nil ?_
  obtain rfl := zAa aN
  exact ⟨true, _, rfl, A, (zAf _), rfl⟩
 have af := z0h M ae
 refine W.q2 (hg := gk rfl rfl g rfl) (.string a.2.1) (ft (z 6 rfl) (ft (m 6 rfl) (ft (f 6 rfl) rfl))) (W.pure (v := (.bool (sEq a.2.1 (⟨#[49]⟩ : zAd)))) (gl rfl g) rfl (z90 ov ov) (W.q5 (hg := gk rfl rfl c rfl) (.bool (sEq a.2.1 (⟨#[49]⟩ : zAd))) g rfl (W.q2 (hg := gk rfl rfl c rfl) (.bool (sEq a.2.1 (⟨#[49]⟩ : zAd))) rfl (W.splitAt (t := 53) (b := sEq a.2.1 (⟨#[49]⟩ : zAd)) rfl (fun N d => ?_) (fun N d => ?_)))))
 .have aO := z01 N af
  refine W.q6 rfl d (W.q6 rfl d (W.q6 rfl d (W.q6 rfl d (W.q6 rfl d (W.q6 rfl d (W.q6 rfl d ?_))))))
  refine W.q6 rfl d (W.q4 (hg := gk rfl rfl c rfl) (.bool true) d rfl (W.q4 (.bool true) c rfl (.nil ?_)))
  obtain rfl := zAa aO
  exact ⟨true, _, rfl, A, (zAf _), rfl⟩
 have aP := z0h N af
 refine W.q2 (hg := gk rfl rfl d rfl) (.string a.1) (ft (z 5 rfl) (ft (m 5 rfl) (ft (f 5 rfl) rfl))) ?_
 obtain ⟨aQ, aR, aS⟩ := z00 aP
 refine W.lo (gl rfl d) rfl (Lo.qF Tryz.f51 (ps := []) (pw := fun w => [_]) (mc rfl mn) A (fun C i => z7s K a.1 i _ aR)) ?_
 rintro cf cg ⟨aT, ch, aU, aV, bZ, rfl⟩
 refine W.q2 (hg := gk rfl rfl d rfl) (.string a.2.1) (ft (z 6 rfl) (ft (m 6 rfl) (ft (f 6 rfl) rfl))) ?_
 obtain ⟨aW, aX, aY⟩ := z00 aS
 refine W.lo (gl rfl d) rfl (Lo.qF Tryz.f51 (ps := []) (pw := fun w => [_]) (mc rfl mn) aU (fun C i => z7s K a.2.1 i _ aX)) ?_
 rintro ci cj ⟨aZ, ck, a0, a1, b0, rfl⟩
 obtain ⟨cl, a2, a3, a4⟩ := a0.frzSl (j := 1) rfl
 obtain ⟨cm, a5, ag, a6⟩ := a2.frzSl (j := 0) rfl
 obtain ⟨a7, a8, a9⟩ := z00 aY
 refine W.lo (gl rfl d) rfl (Lo.cQ Tryz.f77 (mc rfl (mc rfl mn)) a5 (fun C i => zbd K aT aQ (RT.mono _ ag a4) aZ aW a6 i _ a8)) ?_
 rintro cn co ⟨cp, ba, bb, b1, ⟨bc, rfl, bd⟩⟩
 obtain ⟨be, bf, bg⟩ := z00 a9
 refine W.lo (gl rfl d) rfl (Lo.qF Tryz.f52 (ps := []) (pw := fun w => [_]) (mc rfl mn) ba (fun C i => z5r K 1 i _ bf)) ?_
 rintro cq cr ⟨bh, cs, bi, ah, b2, rfl⟩
 obtain ⟨B, bj, bk⟩ := z00 bg
 refine W.lo (gl rfl d) rfl (Lo.callB (j := 0) rfl rfl (fn := Tryz.f78) (by kernel_rfl) rfl (mc rfl (mc rfl mn)) bi (fun q C hG i hB => z75 K bc a7 (RT.mono _ hG (RT.mono _ ah bd)) bh be hB i _ bj)) ?_
 rintro ct cu ⟨cv, bl, bm, b3, rfl⟩
 have bW := zAe aV (zAe a1 (zAe a3 (zAe ag (zAe bb (zAe ah bm)))))
 refine W.q3 (hg := gk rfl rfl d rfl) (.bool (B != 0)) rfl rfl (W.q5 (hg := gk rfl rfl c rfl) (.bool (B != 0)) d rfl (W.q4 (.bool (B != 0)) c rfl (.nil ?_)))
 have bn := bl.drop 0
 obtain rfl := zAa bk
 exact ⟨(B != 0), _, rfl, bn, bW, rfl⟩
def z1u (K : Nat) (b : List zAd) : Nat -> Int -> Option (Int ⊕ Unit)
  | 0, _ => none
  | k + 1, c => (if (decide (c < (b.length : Int))) = true then ((idx b c).bind fun d => ((z7a K d).bind fun a => (if (a != 0) = true then some (.inl a) else z1u K b k (z03 .i64 (c + 1))))) else some (.inr ()))
def z63 (K : Nat) (b : List zAd) : Option Int := (z70 (z1u K b K 0) (tu1 fun a => some a) (tu0 (some 0)))
theorem zcj (q : Value) (f : List zAd) (j : (rSl rS).rep G [q] f) (O : Ow G H (L)) (r : Int) (h : z63 K f = some r) :
    CR Tryz.prog 48 [q] G H (L) (fun v g _ => v = .int .i64 r) := by
 unfold z63 at h
 refine CR.og (n := 18) (fn := Tryz.f48) (by kernel_rfl) rfl rfl fun R kr => (.seq (.region (W.p1 (.int .i64 0) (.nil (.seq (.seq ?_))))))
 refine .region (W.p2 q (W.pv (.int .i64 (f.length : Int)) (z0q ov (z0g j) (z05 el38)) (W.p2 (.int .i64 0) (.nil ?_))))
 obtain ⟨B, Y, C⟩ := z1w h
 refine AW.midT (fun s y => ∃  (g : GM), (.inr ()) = B /\ Ow g y (L) /\ GM.le G g) ?_ ?_
 rotate_left
 .rintro Z ad aa ⟨ae, rfl, E, F⟩
  have I := z7i (z72 C)
  refine .seq (.region (W.p1 (.int .i64 0) (.nil (.ret ?_))))
  obtain rfl := zAa I
  exact z1m kr (v1 := (.int .i64 0)) (by rfl) rt E F rfl
 refine .block (AW.loop (α := Nat) (fun z s y => ∃ (J : Int) (g : GM), z1u K f z J = some B /\ Ow g y (L) /\ GM.le G g /\ s 8 = .int .i64 J) (fun z => z) K ⟨0, _, Y, O, (zAf _), rfl⟩ ?_)
 rintro A
 rintro af aj t ⟨i, ak, d, k, c, l⟩
 rcases A with _ | A
 .exact z09 d
 rw [z1u] at d
 refine .seq (.region (W.q3 (.bool (decide (i < (f.length : Int)))) l (ft (t 7 rfl) rfl) (.nil (.seq (.cond (b := decide (i < (f.length : Int))) rfl rfl (fun m => ?_) (fun m => ?_))))))
 rotate_left
 .have M := z0h m d
  refine .exit ?_
  obtain rfl := zAa M
  exact ⟨_, rfl, k, c⟩
 have N := z01 m d
 refine .skip (.seq (.block (.seq (.region ?_))))
 obtain ⟨e, P, S⟩ := z00 N
 have o := z0c P
 refine W.pv (z1v q (i.toNat * 1)) (z2a el38 sz57 (ou (ft (t 6 rfl) rfl)) (ou l) (z0g (RT.mono _ c j)) o.1 o.2.1) (W.l1 (.string e) ag57 (z0i rfl (At.str (At.le (At.le (z1h j o.2.2) c c) (zAf _) k.fro))) (W.p1 (.string e) (.nil (.seq (.region (W.p2 (.string e) ?_))))))
 obtain ⟨a, T, u⟩ := z00 S
 refine W.ln (Lo.cQ Tryz.f64 (mc rfl mn) k (fun al ab => zfn K e ab _ T)) ?_
 rintro ag ah ⟨ai, w, x, ac, rfl⟩
 refine W.p1 (.int .i64 a) (.nil (.seq (.region (W.p2 (.int .i64 a) (W.p3 (.bool (a != 0)) (.nil ?_))))))
 refine .cond (b := (a != 0)) rfl rfl (fun p => ?_) (fun p => ?_)
 rotate_left
 .have U := z0h p u
  refine .skip (.region (W.r3 (.int .i64 (z03 .i64 (i + 1))) l (W.p2 (.int .i64 (z03 .i64 (i + 1))) (.nil ?_))))
  exact ⟨A, zAg _, ⟨z03 .i64 (i + 1), _, U, w, (zAe c x), rfl⟩⟩
 have V := z01 p u
 refine .seq (.region (W.p2 (.int .i64 a) (W.p1 (.int .i64 a) (.nil (.ret ?_)))))
 obtain rfl := zAa V
 have X := z0a (z3z C)
 obtain rfl := zAa X
 exact z1m kr (v1 := (.int .i64 a)) (by rfl) rt w (zAe c x) rfl
def z4c (K : Nat) (a : List zAd) : Option Int := (if (decide ((a.length : Int) > 40)) = true then some 2 else ((z63 K a).bind fun b => some b))
theorem zal (c : Value) (a : List zAd) (d : (rSl rS).rep G [c] a) (O : Ow G H (L)) (r : Int) (h : z4c K a = some r) :
    CR Tryz.prog 23 [c] G H (L) (fun v t _ => v = .int .i64 r) := by
 unfold z4c at h
 refine CR.og (n := 8) (fn := Tryz.f23) (by kernel_rfl) rfl rfl fun R kr => (.seq (.region (W.p1 (.int .i64 0) (.nil (.seq (.seq ?_))))))
 refine .region (W.p2 c (W.pv (.int .i64 (a.length : Int)) (z0q ov (z0g d) (z05 el39)) (W.p3 (.bool (decide ((a.length : Int) > 40))) (.nil (.cond (b := decide ((a.length : Int) > 40)) rfl rfl (fun e => ?_) (fun e => ?_))))))
 .have g := z01 e h
  refine .seq (.region (W.p1 (.int .i64 2) (.nil (.ret ?_))))
  obtain rfl := zAa g
  exact z1m kr (v1 := (.int .i64 2)) (by rfl) rt O (zAf _) rfl
 have i := z0h e h
 refine .skip (.seq (.region (W.p2 c ?_)))
 obtain ⟨f, j, k⟩ := z00 i
 refine W.ln (Lo.cQ Tryz.f48 (mc rfl mn) O (fun u l => zcj K c a d l _ j)) ?_
 rintro q s ⟨w, m, o, p, rfl⟩
 refine W.p1 (.int .i64 f) (.nil (.ret ?_))
 obtain rfl := zAa k
 exact z1m kr (v1 := (.int .i64 f)) (by rfl) rt m o rfl
structure Q where
  neg : Bool
  num : List Int
  den : List Int
  deriving DecidableEq, Inhabited
def T_Q : RT Q := rIso (rP rB (rP (rSl (rI .u32)) (rSl (rI .u32)))) (fun s : Q => (s.neg, s.num, s.den))
theorem z_Q (G : GM) : T_Q.rep G ([.bool false] ++ ([.slice none 0 0] ++ [.slice none 0 0])) ((Q.mk false [] [])) := ⟨_, _, rfl, zB G, ⟨_, _, rfl, zL G, (zL G)⟩⟩
theorem zdj : Proj T_Q 0 rB (fun x => x.neg) := by
  have h := (Proj.iso (rP rB (rP (rSl (rI .u32)) (rSl (rI .u32)))) (fun s : Q => (s.neg, s.num, s.den))).comp (Proj.fst _ _)
  exact h
theorem zs3 : Put T_Q 0 rB (fun x y => { x with neg := y }) := by
  have h := Put.comp (Proj.iso (rP rB (rP (rSl (rI .u32)) (rSl (rI .u32)))) (fun s : Q => (s.neg, s.num, s.den))) (Put.iso (rP rB (rP (rSl (rI .u32)) (rSl (rI .u32)))) (fun s : Q => (s.neg, s.num, s.den)) (fun _ q => ⟨q.1, q.2.1, q.2.2⟩) (fun _ _ => rfl)) (Put.fst _ _)
  exact h
theorem zc8 : Proj T_Q 1 (rSl (rI .u32)) (fun x => x.num) := by
  have h := (Proj.iso (rP rB (rP (rSl (rI .u32)) (rSl (rI .u32)))) (fun s : Q => (s.neg, s.num, s.den))).comp ((Proj.snd _ _).comp (Proj.fst _ _))
  exact h
theorem zp7 : Put T_Q 1 (rSl (rI .u32)) (fun x y => { x with num := y }) := by
  have h := Put.comp (Proj.iso (rP rB (rP (rSl (rI .u32)) (rSl (rI .u32)))) (fun s : Q => (s.neg, s.num, s.den))) (Put.iso (rP rB (rP (rSl (rI .u32)) (rSl (rI .u32)))) (fun s : Q => (s.neg, s.num, s.den)) (fun _ q => ⟨q.1, q.2.1, q.2.2⟩) (fun _ _ => rfl)) (Put.comp (Proj.snd _ _) (Put.snd _ _) (Put.fst _ _))
  exact h
theorem zij : Proj T_Q 2 (rSl (rI .u32)) (fun x => x.den) := by
  have h := (Proj.iso (rP rB (rP (rSl (rI .u32)) (rSl (rI .u32)))) (fun s : Q => (s.neg, s.num, s.den))).comp ((Proj.snd _ _).comp ((Proj.snd _ _).comp (Proj.self _)))
  exact h
theorem zln : Put T_Q 2 (rSl (rI .u32)) (fun x y => { x with den := y }) := by
  have h := Put.comp (Proj.iso (rP rB (rP (rSl (rI .u32)) (rSl (rI .u32)))) (fun s : Q => (s.neg, s.num, s.den))) (Put.iso (rP rB (rP (rSl (rI .u32)) (rSl (rI .u32)))) (fun s : Q => (s.neg, s.num, s.den)) (fun _ q => ⟨q.1, q.2.1, q.2.2⟩) (fun _ _ => rfl)) (Put.comp (Proj.snd _ _) (Put.snd _ _) (Put.comp (Proj.snd _ _) (Put.snd _ _) (Put.self _)))
  exact h
theorem zbe {G : GM} (a : Value) {b : Bool} (c : Value) {e : List Int} (f : Value) {h : List Int} (i : rB.rep G a.cells.toList b) (j : (rSl (rI .u32)).rep G c.cells.toList e) (k : (rSl (rI .u32)).rep G f.cells.toList h) : ∃ cs : List Value, (∀ {s : List Value} {d : Tmp} {ty : TypeId} {pos : String} {af : Array Edge} {g : Option (Nat × Bool)} {ps : Array (Nat × Operand)}, zga s ps.toList = some [(0, a), (1, c), (2, f)] -> z2g Tryz.prog s ⟨some d, .build 73 ps, ty, pos, af, g⟩ = some (.agg cs.toArray)) /\ T_Q.rep G cs (Q.mk b e h) := by
  have l := (zs3 G _ _ _ _ (z_Q G) i).1
  have k1 := (zp7 G _ _ _ _ (l) j).1
  have n := (zln G _ _ _ _ (k1) k).1
  refine ⟨_, fun {s d ty pos af g ps} hps => zaf pl73 ze73 zo73 hps ?_, n⟩
  refine (z1o (off := 0) (sz := 1) (cs := _) rfl (RT.len _ i) (Nat.le_trans (Nat.le_of_ble_eq_true (m := 3) rfl) (Nat.le_of_eq (RT.len _ (z_Q G)).symm))).trans ?_
  refine (z1o (off := 1) (sz := 1) (cs := _) rfl (RT.len _ j) (Nat.le_trans (Nat.le_of_ble_eq_true (m := 3) rfl) (Nat.le_of_eq (RT.len _ (l)).symm))).trans ?_
  refine (z1o (off := 2) (sz := 1) (cs := _) rfl (RT.len _ k) (Nat.le_trans (Nat.le_of_ble_eq_true (m := 3) rfl) (Nat.le_of_eq (RT.len _ (k1)).symm))).trans ?_
  rfl
def zdk (K : Nat) (g : zAd) : Option Q := ((z24 K g (⟨#[45]⟩ : zAd)).bind fun d => ((z4t K d.1 (⟨#[47]⟩ : zAd)).bind fun a => ((z6r K a.1).bind fun b => ((z62 K 1).bind fun c => (Option.bind ((if a.2.2 = true then ((z6r K a.2.1).bind fun f => some ({ (Q.mk d.2 b c) with den := f })) else some (Q.mk d.2 b c))) (tu1 fun e => some e))))))
theorem zjo (x : zAd) (O : Ow G H (L)) (r : Q) (h : zdk K x = some r) :
    CR Tryz.prog 24 [(.string x)] G H (L) (fun v y _ => ∃ (Y : List Value), v = .agg Y.toArray /\ T_Q.rep y Y r) := by
 unfold zdk at h
 refine CR.og (n := 30) (fn := Tryz.f24) (by kernel_rfl) rfl rfl fun R kr => (.seq (.region (W.ln (Lo.alloc (r := T_Q) (x0 := (Q.mk false [] [])) ze73 (by kernel_rfl) z_Q O) ?_)))
 rintro bt bu ⟨Z, rfl, aP, a5⟩
 refine .nil (.seq (.region (W.p2 (.string x) ?_)))
 obtain ⟨c, aQ, aR⟩ := z00 h
 refine W.ln (Lo.cQ Tryz.f49 (mc rfl (mc rfl mn)) aP (fun z d => z6p K x (⟨#[45]⟩ : zAd) d _ aQ)) ?_
 rintro a6 a7 ⟨bv, aa, ab, aS, rfl⟩
 refine W.p2 (.tuple #[(.string c.1), (.bool c.2)]) (W.pv (.string c.1) (z0j ov rfl) (W.pv (.bool c.2) (z0j ov rfl) (W.p1 (.string c.1) (W.p1 (.bool c.2) (.nil (.seq ?_))))))
 refine .region (W.p2 (.string c.1) ?_)
 obtain ⟨a, ac, ad⟩ := z00 aR
 refine W.ln (Lo.cQ Tryz.f50 (mc rfl (mc rfl mn)) aa (fun z d => z9h K c.1 (⟨#[47]⟩ : zAd) d _ ac)) ?_
 rintro a8 a9 ⟨ba, ae, af, aT, rfl⟩
 refine W.p2 (.tuple #[(.string a.1), (.string a.2.1), (.bool a.2.2)]) (W.pv (.string a.1) (z0j ov rfl) (W.pv (.string a.2.1) (z0j ov rfl) (W.pv (.bool a.2.2) (z0j ov rfl) (W.p1 (.string a.1) (W.p1 (.string a.2.1) (W.p1 (.bool a.2.2) ?_))))))
 refine .nil (.seq (.region (W.p2 (.bool c.2) (W.p2 (.string a.1) ?_))))
 obtain ⟨f, ag, ah⟩ := z00 ad
 refine W.ln (Lo.qF Tryz.f51 (ps := []) (pw := fun w => [_]) (mc rfl mn) ae (fun z d => z7s K a.1 d _ ag)) ?_
 rintro bb bc ⟨ai, bd, aj, ak, aU, rfl⟩
 obtain ⟨g, al, am⟩ := z00 ah
 refine W.ln (Lo.qF Tryz.f52 (ps := []) (pw := fun w => [_]) (mc rfl mn) aj (fun z d => z5r K 1 d _ al)) ?_
 rintro be bf ⟨an, bg, ao, ap, aV, rfl⟩
 obtain ⟨bh, aq, ar, au⟩ := ao.frzSl (j := 1) rfl
 obtain ⟨A, av, B, aw⟩ := aq.frzSl (j := 0) rfl
 obtain ⟨C, ax, ay⟩ := zbe (G := A) ((.bool c.2)) (ai) (an) (rfl) ((z1x (RT.mono _ B au))) ((z1x aw))
 refine W.pv (.agg C.toArray) (ax (z3a rfl (qc' rfl (qc' rfl (qc' rfl qn'))))) (W.ln (Lo.alloc (r := T_Q) (x0 := (Q.mk false [] [])) ze73 (by kernel_rfl) z_Q av) ?_)
 rintro bi bj ⟨E, rfl, az, aW⟩
 refine W.ln (Lo.storeVar (j := 0) (s := T_Q) (y0 := (Q.mk c.2 f g)) (v := (.agg C.toArray)) (o := 0) rfl ((Put.at (Put.self _) _ _)) rfl sz73 rfl (by omega) rfl ay az) ?_
 rintro bk bl ⟨F, aX⟩
 refine .nil (.seq (.seq (.region (W.p2 (.bool a.2.2) (.nil ?_)))))
 obtain ⟨aA, I, aB⟩ := z00 am
 refine AW.midT (fun bm aY => ∃ (aC : Q) (y : GM), aC = aA /\ Ow y aY (eVar E 73 T_Q aC :: eVar Z 73 T_Q (Q.mk false [] []) :: L) /\ GM.le A y) ?_ ?_
 rotate_left
 .rintro aN aZ e ⟨N, a0, rfl, i, P⟩
  have aD := zAe ab (zAe af (zAe ak (zAe ap (zAe ar (zAe B P)))))
  have S := z0a aB
  refine .seq (.region ?_)
  obtain ⟨k, T, l⟩ := (i.atVar (j := 0) rfl)
  refine W.loadA (cs := k) rfl rfl ag73 sz73 (z0i (ft (e 8 rfl) rfl) T) (RT.len _ l) (W.ln (Lo.storeVar (j := 1) (s := T_Q) (y0 := N) (v := (.agg k.toArray)) (o := 0) rfl ((Put.at (Put.self _) _ _)) rfl sz73 (ft (e 2 rfl) rfl) (by omega) rfl l i) ?_)
  rintro a1 a2 ⟨m, aO⟩
  refine .nil (.ret ?_)
  obtain ⟨q, U, t⟩ := (m.atVar (j := 1) rfl)
  have V := (m.drop 0).drop 0
  obtain rfl := zAa S
  exact z1m kr (v1 := (.agg q.toArray)) (by rfl) (z5f (p := (.pointer (some ⟨Z, 0, none⟩))) (by rfl) ag73 sz73 (by exact (ft (e 2 rfl) rfl)) U (RT.len _ t)) V aD ⟨q, rfl, t⟩
 refine .cond (b := a.2.2) rfl rfl (fun u => ?_) (fun u => ?_)
 rotate_left
 .have X := z0h u I
  refine .skip ?_
  obtain rfl := zAa X
  exact ⟨(Q.mk c.2 f g), _, rfl, F, (zAf _)⟩
 have aE := z01 u I
 refine .region (W.p2 (.string a.2.1) ?_)
 obtain ⟨J, aF, aG⟩ := z00 aE
 refine W.ln (Lo.qF Tryz.f51 (ps := []) (pw := fun w => [_]) (mc rfl mn) F (fun z d => z7s K a.2.1 d _ aF)) ?_
 rintro bn bo ⟨aH, bp, M, aI, a3, rfl⟩
 refine W.pv (padd (.pointer (some ⟨E, 0, none⟩)) 2) (z0f zlg ov (M.atVar (j := 1) rfl)) ?_
 obtain ⟨bq, aJ, aK, aL⟩ := M.frzSl (j := 0) rfl
 refine W.ln (Lo.storeVar (j := 0) (s := (rSl (rI .u32))) (y0 := J) (v := aH) (o := 2) rfl ((Put.at zln _ _)) rfl sz71 rfl (by omega) rfl (z1x aL) aJ) ?_
 rintro br bs ⟨aM, a4⟩
 refine .nil ?_
 obtain rfl := zAa aG
 exact ⟨{ (Q.mk c.2 f g) with den := J }, _, rfl, aM, (zAe aI aK)⟩
theorem zlo {G : GM} (a : Value) {b : List Int} (c : Value) {e : List Int} (f : (rSl (rI .u32)).rep G a.cells.toList b) (h : (rSl (rI .u32)).rep G c.cells.toList e) : ∃ cs : List Value, (∀ {s : List Value} {d : Tmp} {ty : TypeId} {pos : String} {af : Array Edge} {g : Option (Nat × Bool)} {ps : Array (Nat × Operand)}, zga s ps.toList = some [(1, a), (2, c)] -> z2g Tryz.prog s ⟨some d, .build 73 ps, ty, pos, af, g⟩ = some (.agg cs.toArray)) /\ T_Q.rep G cs (Q.mk false b e) := by
  have k1 := (zp7 G _ _ _ _ (z_Q G) f).1
  have i := (zln G _ _ _ _ (k1) h).1
  refine ⟨_, fun {s d ty pos af g ps} hps => zaf pl73 ze73 zo73 hps ?_, i⟩
  refine (z1o (off := 1) (sz := 1) (cs := _) rfl (RT.len _ f) (Nat.le_trans (Nat.le_of_ble_eq_true (m := 3) rfl) (Nat.le_of_eq (RT.len _ (z_Q G)).symm))).trans ?_
  refine (z1o (off := 2) (sz := 1) (cs := _) rfl (RT.len _ h) (Nat.le_trans (Nat.le_of_ble_eq_true (m := 3) rfl) (Nat.le_of_eq (RT.len _ (k1)).symm))).trans ?_
  rfl
def za1 (K : Nat) (a : Q) : Option Q := some (Q.mk false a.num a.den)
theorem zfo (k : List Value) (a : Q) (l : T_Q.rep G k a) (O : Ow G H (L)) (r : Q) (h : za1 K a = some r) :
    CR Tryz.prog 25 [.agg k.toArray] G H (L) (fun v C _ => ∃ (m : List Value), v = .agg m.toArray /\ T_Q.rep C m r) := by
 unfold za1 at h
 refine CR.og (n := 8) (fn := Tryz.f25) (by kernel_rfl) rfl rfl fun R kr => (.seq (.region (W.ln (Lo.box (r := T_Q) (x0 := a) (v := (.agg k.toArray)) rfl rfl l O) ?_)))
 rintro T U ⟨q, rfl, E, J⟩
 refine W.ln (Lo.alloc (r := T_Q) (x0 := (Q.mk false [] [])) ze73 (by kernel_rfl) z_Q E) ?_
 rintro V M ⟨F, rfl, b, N⟩
 refine .nil (.seq (.region (W.pv (padd (.pointer (some ⟨q, 0, none⟩)) 1) (z0f zgq ov (b.atVar (j := 1) rfl)) ?_)))
 obtain ⟨c, t, u⟩ := At.sl (At.proj (b.atVar (j := 1) rfl) zc8)
 refine W.l1 c ag71 (z0i rfl t) (W.pv (padd (.pointer (some ⟨q, 0, none⟩)) 2) (z0f zlg ov (b.atVar (j := 1) rfl)) ?_)
 obtain ⟨d, w, x⟩ := At.sl (At.proj (b.atVar (j := 1) rfl) zij)
 refine W.l1 d ag71 (z0i rfl w) ?_
 obtain ⟨e, y, z⟩ := zlo (G := G) (c) (d) ((z1x u)) ((z1x x))
 refine W.pv (.agg e.toArray) (y (z3a rfl (qc' rfl (qc' rfl qn')))) (W.ln (Lo.storeVar (j := 0) (s := T_Q) (y0 := (Q.mk false a.num a.den)) (v := (.agg e.toArray)) (o := 0) rfl ((Put.at (Put.self _) _ _)) rfl sz73 rfl (by omega) rfl z b) ?_)
 rintro P S ⟨f, I⟩
 refine .nil (.ret ?_)
 obtain ⟨g, A, i⟩ := (f.atVar (j := 0) rfl)
 have B := (f.drop 0).drop 0
 obtain rfl := zAa h
 exact z1m kr (v1 := (.agg g.toArray)) (by rfl) (z5f (p := (.pointer (some ⟨F, 0, none⟩))) (by rfl) ag73 sz73 (by exact rfl) A (RT.len _ i)) B (zAf _) ⟨g, rfl, i⟩
def z8i (K : Nat) (a : Int) : Option Q := (if (decide (a < 0)) = true then ((z62 K (z03 .i64 (-a))).bind fun e => ((z62 K 1).bind fun b => some (Q.mk true e b))) else ((z62 K a).bind fun c => ((z62 K 1).bind fun d => some (Q.mk false c d))))
theorem zdl (a : Int) (O : Ow G H (L)) (r : Q) (h : z8i K a = some r) :
    CR Tryz.prog 27 [(.int .i64 a)] G H (L) (fun v aD _ => ∃ (y : List Value), v = .agg y.toArray /\ T_Q.rep aD y r) := by
 unfold z8i at h
 refine CR.og (n := 14) (fn := Tryz.f27) (by kernel_rfl) rfl rfl fun R kr => (.seq (.region (W.ln (Lo.alloc (r := T_Q) (x0 := (Q.mk false [] [])) ze73 (by kernel_rfl) z_Q O) ?_)))
 rintro a6 a7 ⟨z, rfl, A, aN⟩
 refine .nil (.seq (.seq (.region (W.p2 (.int .i64 a) (W.p3 (.bool (decide (a < 0))) (.nil ?_))))))
 refine .cond (b := decide (a < 0)) rfl rfl (fun u => ?_) (fun u => ?_)
 rotate_left
 .have B := z0h u h
  refine .skip (.seq (.region (W.p2 (.int .i64 a) ?_)))
  obtain ⟨C, E, F⟩ := z00 B
  refine W.ln (Lo.qF Tryz.f52 (ps := []) (pw := fun w => [_]) (mc rfl mn) A (fun x c => z5r K a c _ E)) ?_
  rintro aO aP ⟨I, aQ, J, M, aE, rfl⟩
  obtain ⟨N, P, S⟩ := z00 F
  refine W.ln (Lo.qF Tryz.f52 (ps := []) (pw := fun w => [_]) (mc rfl mn) J (fun x c => z5r K 1 c _ P)) ?_
  rintro aR aS ⟨T, aT, U, V, aF, rfl⟩
  obtain ⟨aU, X, Y, Z⟩ := U.frzSl (j := 1) rfl
  obtain ⟨aa, ab, d, ac⟩ := X.frzSl (j := 0) rfl
  obtain ⟨e, ad, ae⟩ := zlo (G := aa) (I) (T) ((z1x (RT.mono _ d Z))) ((z1x ac))
  refine W.pv (.agg e.toArray) (ad (z3a rfl (qc' rfl (qc' rfl qn')))) (W.ln (Lo.storeVar (j := 0) (s := T_Q) (y0 := (Q.mk false C N)) (v := (.agg e.toArray)) (o := 0) rfl ((Put.at (Put.self _) _ _)) rfl sz73 rfl (by omega) rfl ae ab) ?_)
  rintro aV aW ⟨f, aG⟩
  refine .nil (.ret ?_)
  obtain ⟨g, af, i⟩ := (f.atVar (j := 0) rfl)
  have ag := f.drop 0
  obtain rfl := zAa S
  exact z1m kr (v1 := (.agg g.toArray)) (by rfl) (z5f (p := (.pointer (some ⟨z, 0, none⟩))) (by rfl) ag73 sz73 (by exact rfl) af (RT.len _ i)) ag (zAe M (zAe V (zAe Y d))) ⟨g, rfl, i⟩
 have aH := z01 u h
 refine .seq (.region (W.p2 (.int .i64 a) (W.pv (.int .i64 (z03 .i64 (-a))) (zuf ov) ?_)))
 obtain ⟨aI, aJ, ah⟩ := z00 aH
 refine W.ln (Lo.qF Tryz.f52 (ps := []) (pw := fun w => [_]) (mc rfl mn) A (fun x c => z5r K (z03 .i64 (-a)) c _ aJ)) ?_
 rintro aX aY ⟨ai, aZ, aj, ak, aK, rfl⟩
 obtain ⟨al, am, an⟩ := z00 ah
 refine W.ln (Lo.qF Tryz.f52 (ps := []) (pw := fun w => [_]) (mc rfl mn) aj (fun x c => z5r K 1 c _ am)) ?_
 rintro a0 a1 ⟨ao, a2, ap, aq, aL, rfl⟩
 obtain ⟨a3, ar, au, av⟩ := ap.frzSl (j := 1) rfl
 obtain ⟨aw, ax, k, ay⟩ := ar.frzSl (j := 0) rfl
 obtain ⟨l, az, aA⟩ := zbe (G := aw) ((.bool true)) (ai) (ao) (rfl) ((z1x (RT.mono _ k av))) ((z1x ay))
 refine W.pv (.agg l.toArray) (az (z3a rfl (qc' rfl (qc' rfl (qc' rfl qn'))))) (W.ln (Lo.storeVar (j := 0) (s := T_Q) (y0 := (Q.mk true aI al)) (v := (.agg l.toArray)) (o := 0) rfl ((Put.at (Put.self _) _ _)) rfl sz73 rfl (by omega) rfl aA ax) ?_)
 rintro a4 a5 ⟨m, aM⟩
 refine .nil (.ret ?_)
 obtain ⟨q, aB, t⟩ := (m.atVar (j := 0) rfl)
 have aC := m.drop 0
 obtain rfl := zAa an
 exact z1m kr (v1 := (.agg q.toArray)) (by rfl) (z5f (p := (.pointer (some ⟨z, 0, none⟩))) (by rfl) ag73 sz73 (by exact rfl) aB (RT.len _ t)) aC (zAe ak (zAe aq (zAe au k))) ⟨q, rfl, t⟩
def z82 (K : Nat) (a : Q) : Option Q := (if ((a.num.length : Int) == 0) = true then some a else some (Q.mk (!a.neg) a.num a.den))
theorem zfp (z : List Value) (c : Q) (A : T_Q.rep G z c) (O : Ow G H (L)) (r : Q) (h : z82 K c = some r) :
    CR Tryz.prog 69 [.agg z.toArray] G H (L) (fun v ac _ => ∃ (B : List Value), v = .agg B.toArray /\ T_Q.rep ac B r) := by
 unfold z82 at h
 refine CR.og (n := 16) (fn := Tryz.f69) (by kernel_rfl) rfl rfl fun R kr => (.seq (.region (W.ln (Lo.box (r := T_Q) (x0 := c) (v := (.agg z.toArray)) rfl rfl A O) ?_)))
 rintro an ao ⟨f, rfl, ad, ag⟩
 refine W.ln (Lo.alloc (r := T_Q) (x0 := (Q.mk false [] [])) ze73 (by kernel_rfl) z_Q ad) ?_
 rintro ap ah ⟨C, rfl, d, ai⟩
 refine .nil (.seq (.seq (.region (W.pv (padd (.pointer (some ⟨f, 0, none⟩)) 1) (z0f zgq ov (d.atVar (j := 1) rfl)) ?_))))
 obtain ⟨E, F, I⟩ := At.sl (At.proj (d.atVar (j := 1) rfl) zc8)
 refine W.l1 E ag71 (z0i rfl F) (W.pv (.int .i64 (c.num.length : Int)) (z0q ov (z0g I) (z05 el71)) (W.p3 (.bool ((c.num.length : Int) == 0)) (.nil (.cond (b := ((c.num.length : Int) == 0)) rfl rfl (fun e => ?_) (fun e => ?_)))))
 .have J := z01 e h
  refine .seq (.region ?_)
  obtain ⟨g, M, i⟩ := (d.atVar (j := 1) rfl)
  refine W.loadA (cs := g) rfl rfl ag73 sz73 (z0i rfl M) (RT.len _ i) (W.ln (Lo.storeVar (j := 0) (s := T_Q) (y0 := c) (v := (.agg g.toArray)) (o := 0) rfl ((Put.at (Put.self _) _ _)) rfl sz73 rfl (by omega) rfl i d) ?_)
  rintro aj ak ⟨k, ae⟩
  refine .nil (.ret ?_)
  obtain ⟨l, N, m⟩ := (k.atVar (j := 0) rfl)
  have P := (k.drop 0).drop 0
  obtain rfl := zAa J
  exact z1m kr (v1 := (.agg l.toArray)) (by rfl) (z5f (p := (.pointer (some ⟨C, 0, none⟩))) (by rfl) ag73 sz73 (by exact rfl) N (RT.len _ m)) P (zAf _) ⟨l, rfl, m⟩
 have S := z0h e h
 refine .skip (.seq (.region (W.pv (padd (.pointer (some ⟨f, 0, none⟩)) 0) (z0f zhq ov (d.atVar (j := 1) rfl)) (W.l1 (.bool c.neg) ag4 (z0i rfl (At.bool (At.proj (d.atVar (j := 1) rfl) zdj))) (W.pv (.bool (!c.neg)) (z1g (a := c.neg) ov) (W.pv (padd (.pointer (some ⟨f, 0, none⟩)) 1) (z0f zgq ov (d.atVar (j := 1) rfl)) ?_))))))
 obtain ⟨q, T, U⟩ := At.sl (At.proj (d.atVar (j := 1) rfl) zc8)
 refine W.l1 q ag71 (z0i rfl T) (W.pv (padd (.pointer (some ⟨f, 0, none⟩)) 2) (z0f zlg ov (d.atVar (j := 1) rfl)) ?_)
 obtain ⟨t, V, X⟩ := At.sl (At.proj (d.atVar (j := 1) rfl) zij)
 refine W.l1 t ag71 (z0i rfl V) ?_
 obtain ⟨u, Y, Z⟩ := zbe (G := G) ((.bool (!c.neg))) (q) (t) (rfl) ((z1x U)) ((z1x X))
 refine W.pv (.agg u.toArray) (Y (z3a rfl (qc' rfl (qc' rfl (qc' rfl qn'))))) (W.ln (Lo.storeVar (j := 0) (s := T_Q) (y0 := (Q.mk (!c.neg) c.num c.den)) (v := (.agg u.toArray)) (o := 0) rfl ((Put.at (Put.self _) _ _)) rfl sz73 rfl (by omega) rfl Z d) ?_)
 rintro al am ⟨w, af⟩
 refine .nil (.ret ?_)
 obtain ⟨x, aa, y⟩ := (w.atVar (j := 0) rfl)
 have ab := (w.drop 0).drop 0
 obtain rfl := zAa S
 exact z1m kr (v1 := (.agg x.toArray)) (by rfl) (z5f (p := (.pointer (some ⟨C, 0, none⟩))) (by rfl) ag73 sz73 (by exact rfl) aa (RT.len _ y)) ab (zAf _) ⟨x, rfl, y⟩
def z41 (K : Nat) (a : Q) : Option (List Int) := (if ((a.den.length : Int) == 0) = true then ((z62 K 1).bind fun b => some b) else some a.den)
theorem z64 (f : List Value) (c : Q) (i : T_Q.rep G f c) (O : Ow G H (L)) (r : List Int) (h : z41 K c = some r) :
    CR Tryz.prog 82 [.agg f.toArray] G H (L) (fun v E _ => ∃ (k : Value), k = v /\ (rSl (rI .u32)).rep E [k] r) := by
 unfold z41 at h
 refine CR.og (n := 10) (fn := Tryz.f82) (by kernel_rfl) rfl rfl fun R kr => (.seq (.region (W.ln (Lo.box (r := T_Q) (x0 := c) (v := (.agg f.toArray)) rfl rfl i O) ?_)))
 rintro Y Z ⟨l, rfl, d, P⟩
 refine W.p1 (.slice none 0 0) (.nil (.seq (.seq (.region (W.pv (padd (.pointer (some ⟨l, 0, none⟩)) 2) (z0f zlg ov (d.atVar (j := 0) rfl)) ?_)))))
 obtain ⟨F, I, J⟩ := At.sl (At.proj (d.atVar (j := 0) rfl) zij)
 refine W.l1 F ag71 (z0i rfl I) (W.pv (.int .i64 (c.den.length : Int)) (z0q ov (z0g J) (z05 el71)) (W.p3 (.bool ((c.den.length : Int) == 0)) (.nil (.cond (b := ((c.den.length : Int) == 0)) rfl rfl (fun g => ?_) (fun g => ?_)))))
 rotate_left
 .have m := z0h g h
  refine .skip (.seq (.region (W.pv (padd (.pointer (some ⟨l, 0, none⟩)) 2) (z0f zlg ov (d.atVar (j := 0) rfl)) ?_)))
  obtain ⟨a, o, p⟩ := At.sl (At.proj (d.atVar (j := 0) rfl) zij)
  refine W.l1 a ag71 (z0i rfl o) (W.p1 a (.nil (.ret ?_)))
  have q := d.drop 0
  obtain rfl := zAa m
  exact z1m kr (v1 := a) (by rfl) rt q (zAf _) ⟨a, rfl, p⟩
 have s := z01 g h
 refine .seq (.region ?_)
 obtain ⟨S, t, u⟩ := z00 s
 refine W.ln (Lo.qF Tryz.f52 (ps := []) (pw := fun w => [_]) (mc rfl mn) d (fun aa M => z5r K 1 M _ t)) ?_
 rintro T U ⟨e, V, x, y, N, rfl⟩
 refine W.p1 e (.nil (.ret ?_))
 obtain ⟨X, z, A, B⟩ := x.frzSl (j := 0) rfl
 have C := z.drop 0
 obtain rfl := zAa u
 exact z1m kr (v1 := e) (by rfl) rt C (zAe y A) ⟨e, rfl, B⟩
def z2z (K : Nat) (f : List Int) (g : List Int) : Nat -> List Int -> Int -> Int -> Option (List Int × Int)
  | 0, _, _, _ => none
  | k + 1, b, c, a => (if (decide (a < (f.length : Int))) = true then ((idx f a).bind fun e => (Option.bind ((if (decide (a < (g.length : Int))) = true then ((idx g a).bind fun h => some (z03 .u32 ((z03 .u32 (e + c)) + h))) else some (z03 .u32 (e + c)))) (tu1 fun d => (if b.length + [Int.tmod d 1000000000].length <= 16777216 then z2z K f g k (b ++ [Int.tmod d 1000000000]) (z03 .u32 (Int.tdiv d 1000000000)) (z03 .i64 (a + 1)) else none)))) else some (b, c))
def z83 (K : Nat) (c : List Int) (d : List Int) : Option (List Int) := (Option.bind ((if (decide ((c.length : Int) < (d.length : Int))) = true then some (d, c) else some (c, d))) (tu2 fun e g => (if 0 <= (0 : Int) /\ (0 : Int) <= (z03 .i64 ((e.length : Int) + 1)) /\ (z03 .i64 ((e.length : Int) + 1)) <= 16777216 then (Option.bind (z2z K e g K (List.replicate (Int.toNat 0) 0) 0 0) (tu2 fun a b => (Option.bind ((if (decide (b > 0)) = true then (if a.length + [b].length <= 16777216 then some (a ++ [b]) else none) else some a)) (tu1 fun f => some f)))) else none)))
theorem zfq (I : Value) (x : List Int) (J : (rSl (rI .u32)).rep G [I] x) (v1 : Value) (y : List Int) (M : (rSl (rI .u32)).rep G [v1] y) (O : Ow G H (L)) (r : List Int) (h : z83 K x y = some r) :
    CRF Tryz.prog 84 [I, v1] G H (fun an => (eSl an 119 (rI .u32) r :: L)) (fun an v f => an = v) := by
 unfold z83 at h
 refine CRF.og (n := 55) (fn := Tryz.f84) (by kernel_rfl) rfl rfl fun R kr => (.seq (.region (W.p1 (.slice none 0 0) (.nil (.seq (.seq ?_))))))
 refine .region (W.p2 I (W.pv (.int .i64 (x.length : Int)) (z0q ov (z0g J) (z05 el71)) (W.p2 v1 (W.pv (.int .i64 (y.length : Int)) (z0q ov (z0g M) (z05 el71)) (W.p3 (.bool (decide ((x.length : Int) < (y.length : Int)))) (.nil ?_))))))
 obtain ⟨bi, aD, bj⟩ := z00 h
 refine AW.midT (fun d q => ∃ (i : List Int) (t : List Int) (f : GM), (i, t) = bi /\ Ow f q (L) /\ GM.le G f /\ (rSl (rI .u32)).rep f [d 0] i /\ (rSl (rI .u32)).rep f [d 1] t) ?_ ?_
 .refine .cond (b := decide ((x.length : Int) < (y.length : Int))) rfl rfl (fun ao => ?_) (fun ao => ?_)
  rotate_left
  .have bk := z0h ao aD
   refine .skip ?_
   obtain rfl := zAa bk
   exact ⟨x, y, _, rfl, O, (zAf _), J, M⟩
  have bl := z01 ao aD
  refine .region (W.p2 v1 (W.p2 I (W.p1 v1 (W.p1 I (.nil ?_)))))
  obtain rfl := zAa bl
  exact ⟨y, x, _, rfl, O, (zAf _), M, J⟩
 rintro p bB bm ⟨z, ab, ac, rfl, aE, aF, B, N⟩
 have aG := z3c bj
 refine .seq (.region (W.p2 (p 0) (W.pv (.int .i64 (z.length : Int)) (z0q ov (z0g B) (z05 el71)) (W.p3 (.int .i64 (z03 .i64 ((z.length : Int) + 1))) ?_))))
 obtain ⟨aH, aI⟩ := z2b aG
 refine W.ln (Lo.makeSlice (r := (rI .u32)) (x0 := 0) (a := 0) (c := (z03 .i64 ((z.length : Int) + 1))) rfl el71 zet z5s (by kernel_rfl) rfl zlh (by decide) rfl rfl aH (zI .u32) aE) ?_
 rintro aJ bC ⟨aK, bn⟩
 refine W.p1 aJ (.nil (.seq (.region (W.p1 (.int .u32 0) (.nil (.seq ?_))))))
 refine .seq (.region (W.p2 (p 0) (W.pv (.int .i64 (z.length : Int)) (z0q ov (z0g B) (z05 el71)) (W.p2 (.int .i64 0) (.nil ?_)))))
 obtain ⟨ad, aL, aM⟩ := z00 aI
 refine AW.midT (fun d q => ∃ (i : List Int) (t : Int) (f : GM), (i, t) = ad /\ Ow f q (eSl (d 5) 119 (rI .u32) i :: L) /\ GM.le ac f /\ d 6 = .int .u32 t) ?_ ?_
 rotate_left
 .rintro P bD bo ⟨ae, u, aN, rfl, af, aO, ag⟩
  have aP := z3c aM
  refine .seq (.seq (.region (W.q2 _ ag (W.p3 (.bool (decide (u > 0))) (.nil ?_)))))
  obtain ⟨aQ, ah, aR⟩ := z00 aP
  refine AW.midT (fun d q => ∃ (i : List Int) (f : GM), i = aQ /\ Ow f q (eSl (d 5) 119 (rI .u32) i :: L) /\ GM.le aN f) ?_ ?_
  rotate_left
  .rintro m bp bf ⟨bq, br, rfl, ap, aq⟩
   have ar := z0a aR
   refine .seq (.region (W.p2 (m 5) (W.p1 (m 5) (.nil (.ret ?_)))))
   obtain rfl := zAa ar
   exact z4j kr (m 5) (v1 := (m 5)) (by rfl) rt ap (zAe aF (zAe aO aq)) rfl
  refine .cond (b := decide (u > 0)) rfl rfl (fun S => ?_) (fun S => ?_)
  rotate_left
  .have au := z0h S ah
   refine .skip ?_
   obtain rfl := zAa au
   exact ⟨ae, _, rfl, af, (zAf _)⟩
  have aS := z01 S ah
  refine .region (W.p2 (P 5) (W.q2 _ ag (W.ln (Lo.buildSlice (r := (rI .u32)) (vs := [(.int .u32 u)]) (xs := [u]) el71 zet z5s (by kernel_rfl) rfl (qc rfl qn) rfl (.cons rfl .nil) af) ?_)))
  rintro bs bt ⟨ai, bu⟩
  obtain ⟨bg, av, aw⟩ := z4a (j := 0) rfl ai
  obtain ⟨ax, ay⟩ := z2b aS
  refine W.ln (Lo.append (j := 1) (v := (P 5)) rfl rfl el71 ni71 zet z5s zlh (by decide) (by decide) rfl av aw ax ai) ?_
  rintro az bv ⟨aA, bh⟩
  refine W.p1 az (.nil ?_)
  have aB := aA.drop 0
  obtain rfl := zAa ay
  exact ⟨(ae ++ [u]), _, rfl, aB, (zAf _)⟩
 refine .block (AW.loop (α := Nat) (fun aC d q => ∃ (i : List Int) (t : Int) (aT : Int) (f : GM), z2z K z ab aC i t aT = some ad /\ Ow f q (eSl (d 5) 119 (rI .u32) i :: L) /\ GM.le ac f /\ d 6 = .int .u32 t /\ d 22 = .int .i64 aT) (fun aC => aC) K ⟨(List.replicate (Int.toNat 0) 0), 0, 0, _, aL, aK, (zAf _), rfl, rfl⟩ ?_)
 rintro T
 rintro A bE s ⟨U, l, e, aU, C, w, k, aj, E⟩
 rcases T with _ | T
 .exact z09 C
 rw [z2z] at C
 refine .seq (.region (W.q3 (.bool (decide (e < (z.length : Int)))) E (ft (s 21 rfl) rfl) (.nil (.seq (.cond (b := decide (e < (z.length : Int))) rfl rfl (fun V => ?_) (fun V => ?_))))))
 rotate_left
 .have aV := z0h V C
  refine .exit ?_
  obtain rfl := zAa aV
  exact ⟨U, l, _, rfl, w, k, aj⟩
 have aW := z01 V C
 refine .skip (.seq (.block (.seq (.region (W.q2 _ E ?_)))))
 obtain ⟨g, aX, aY⟩ := z00 aW
 have X := z0c aX
 refine W.pv (z1v (p 0) (e.toNat * 1)) (z2a el71 z5s (ou (ft (s 20 rfl) rfl)) (ou E) (z0g (RT.mono _ k B)) X.1 X.2.1) (W.l1 (.int .u32 g) zc6 (z0i rfl (At.int (At.le (At.le (z1h B X.2.2) k k) (zAf _) w.fro))) (W.p1 (.int .i64 e) (W.p1 (.int .u32 g) (.nil (.seq (.region ?_))))))
 refine W.p2 (.int .u32 g) (W.q2 _ aj (W.p3 (.int .u32 (z03 .u32 (g + l))) (W.p1 (.int .u32 (z03 .u32 (g + l))) (.nil (.seq (.seq ?_))))))
 refine .region (W.p2 (.int .i64 e) (W.q2 (p 1) (ft (s 1 rfl) rfl) (W.pv (.int .i64 (ab.length : Int)) (z0q ov (z0g (RT.mono _ k N)) (z05 el71)) (W.p3 (.bool (decide (e < (ab.length : Int)))) (.nil ?_)))))
 obtain ⟨aZ, ak, a0⟩ := z00 aY
 refine AW.midT (fun d q => ∃ (i : Int) (f : GM), i = aZ /\ Ow f q (eSl (A 5) 119 (rI .u32) U :: L) /\ GM.le aU f /\ d 8 = .int .u32 i) ?_ ?_
 .refine .cond (b := decide (e < (ab.length : Int))) rfl rfl (fun Y => ?_) (fun Y => ?_)
  rotate_left
  .have a1 := z0h Y ak
   refine .skip ?_
   obtain rfl := zAa a1
   exact ⟨z03 .u32 (g + l), _, rfl, w, (zAf _), rfl⟩
  have a2 := z01 Y ak
  refine .region (W.p2 (.int .u32 (z03 .u32 (g + l))) (W.q2 (p 1) (ft (s 1 rfl) rfl) (W.p2 (.int .i64 e) ?_)))
  obtain ⟨F, a3, a4⟩ := z00 a2
  have Z := z0c a3
  refine W.pv (z1v (p 1) (e.toNat * 1)) (z2a el71 z5s ov ov (z0g (RT.mono _ k N)) Z.1 Z.2.1) (W.l1 (.int .u32 F) zc6 (z0i rfl (At.int (At.le (At.le (z1h N Z.2.2) k k) (zAf _) w.fro))) (W.p3 (.int .u32 (z03 .u32 ((z03 .u32 (g + l)) + F))) (W.p1 (.int .u32 (z03 .u32 ((z03 .u32 (g + l)) + F))) (.nil ?_))))
  obtain rfl := zAa a4
  exact ⟨z03 .u32 ((z03 .u32 (g + l)) + F), _, rfl, w, (zAf _), rfl⟩
 rintro bw bF aa ⟨o, bG, rfl, a5, a6, al⟩
 have a7 := z0a a0
 refine .seq (.region (W.q2 _ al (W.pv (.int .u32 (z03 .u32 (Int.tdiv o 1000000000))) (zkz (by decide) ov ov) (W.p1 (.int .u32 (z03 .u32 (Int.tdiv o 1000000000))) (.nil (.region ?_))))))
 refine W.q2 (A 5) (ft (aa 5 rfl) rfl) (W.q2 _ al (W.pv (.int .u32 (Int.tmod o 1000000000)) (zl0 (by decide) ov ov) (W.ln (Lo.buildSlice (r := (rI .u32)) (vs := [(.int .u32 (Int.tmod o 1000000000))]) (xs := [Int.tmod o 1000000000]) el71 zet z5s (by kernel_rfl) rfl (qc rfl qn) rfl (.cons rfl .nil) a5) ?_)))
 rintro bH bI ⟨am, bx⟩
 obtain ⟨bz, a8, a9⟩ := z4a (j := 0) rfl am
 obtain ⟨ba, bb⟩ := z2b a7
 refine W.ln (Lo.append (j := 1) (v := (A 5)) rfl rfl el71 ni71 zet z5s zlh (by decide) (by decide) rfl a8 a9 ba am) ?_
 rintro bc bJ ⟨bd, bA⟩
 refine W.p1 bc (.nil (.region (W.q3 (.int .i64 (z03 .i64 (e + 1))) (ft (aa 22 rfl) E) rfl (W.p2 (.int .i64 (z03 .i64 (e + 1))) (.nil ?_)))))
 have be := bd.drop 0
 exact ⟨T, zAg _, ⟨(U ++ [Int.tmod o 1000000000]), z03 .u32 (Int.tdiv o 1000000000), z03 .i64 (e + 1), _, bb, be, (zAe k a6), rfl, rfl⟩⟩
theorem zuu {G : GM}   : ∃ cs : List Value, (∀ {s : List Value} {d : Tmp} {ty : TypeId} {pos : String} {af : Array Edge} {g : Option (Nat × Bool)} {ps : Array (Nat × Operand)}, zga s ps.toList = some [] -> z2g Tryz.prog s ⟨some d, .build 73 ps, ty, pos, af, g⟩ = some (.agg cs.toArray)) /\ T_Q.rep G cs (Q.mk false [] []) := by
  refine ⟨_, fun {s d ty pos af g ps} hps => zaf pl73 ze73 zo73 hps ?_, z_Q G⟩
  rfl
def z8j (K : Nat) (j : Bool) (b : List Int) (c : List Int) : Option Q := (if ((b.length : Int) == 0) = true then some (Q.mk false [] []) else ((z79 K b c).bind fun a => ((z62 K 1).bind fun d => ((z5o K a d).bind fun e => (Option.bind ((if (decide (e > 0)) = true then ((z5q K b a).bind fun f => ((z5q K c a).bind fun g => some (f.1, g.1))) else some (b, c))) (tu2 fun h i => some (Q.mk j h i)))))))
theorem zam (q : Bool) (v1 : Value) (f : List Int) (l : (rSl (rI .u32)).rep G [v1] f) (m : Value) (t : List Int) (u : (rSl (rI .u32)).rep G [m] t) (O : Ow G H (L)) (r : Q) (h : z8j K q f t = some r) :
    CR Tryz.prog 83 [(.bool q), v1, m] G H (L) (fun v i _ => ∃ (ap : List Value), v = .agg ap.toArray /\ T_Q.rep i ap r) := by
 unfold z8j at h
 refine CR.og (n := 35) (fn := Tryz.f83) (by kernel_rfl) rfl rfl fun R kr => (.seq (.region (W.ln (Lo.alloc (r := T_Q) (x0 := (Q.mk false [] [])) ze73 (by kernel_rfl) z_Q O) ?_)))
 rintro bx bz ⟨af, rfl, aq, bd⟩
 refine .nil (.seq (.seq (.region (W.p2 v1 (W.pv (.int .i64 (f.length : Int)) (z0q ov (z0g l) (z05 el71)) (W.p3 (.bool ((f.length : Int) == 0)) ?_))))))
 refine .nil (.cond (b := ((f.length : Int) == 0)) rfl rfl (fun ag => ?_) (fun ag => ?_))
 .have a2 := z01 ag h
  refine .seq (.region ?_)
  obtain ⟨ar, au, a3⟩ := zuu (G := G)
  refine W.pv (.agg ar.toArray) (au (z3a rfl qn')) (W.ln (Lo.storeVar (j := 0) (s := T_Q) (y0 := (Q.mk false [] [])) (v := (.agg ar.toArray)) (o := 0) rfl ((Put.at (Put.self _) _ _)) rfl sz73 rfl (by omega) rfl a3 aq) ?_)
  rintro be bf ⟨S, a4⟩
  refine .nil (.ret ?_)
  obtain ⟨T, av, U⟩ := (S.atVar (j := 0) rfl)
  have aw := S.drop 0
  obtain rfl := zAa a2
  exact z1m kr (v1 := (.agg T.toArray)) (by rfl) (z5f (p := (.pointer (some ⟨af, 0, none⟩))) (by rfl) ag73 sz73 (by exact rfl) av (RT.len _ U)) aw (zAf _) ⟨T, rfl, U⟩
 have ax := z0h ag h
 refine .skip (.seq (.seq (.region (W.p2 v1 (W.p2 m ?_)))))
 obtain ⟨x, ay, az⟩ := z00 ax
 refine W.ln (Lo.cQ Tryz.f77 (mc rfl (mc rfl mn)) aq (fun P d => zbd K v1 f l m t u d _ ay)) ?_
 rintro bg bh ⟨bi, aA, y, a5, ⟨a, rfl, z⟩⟩
 refine W.p1 a (.nil (.seq (.region (W.p2 a ?_))))
 obtain ⟨V, aB, aC⟩ := z00 az
 refine W.ln (Lo.qF Tryz.f52 (ps := []) (pw := fun w => [_]) (mc rfl mn) aA (fun P d => z5r K 1 d _ aB)) ?_
 rintro bj bk ⟨X, bl, aD, c, a6, rfl⟩
 obtain ⟨Y, aE, aF⟩ := z00 aC
 refine W.ln (Lo.callB (j := 0) rfl rfl (fn := Tryz.f78) (by kernel_rfl) rfl (mc rfl (mc rfl mn)) aD (fun i P hG d hB => z75 K a x (RT.mono _ hG (RT.mono _ c z)) X V hB d _ aE)) ?_
 rintro bm bn ⟨aG, Z, g, a7, rfl⟩
 have A := zAe y (zAe c g)
 refine W.p3 (.bool (decide (Y > 0))) (.nil ?_)
 obtain ⟨aH, aa, aI⟩ := z00 aF
 refine AW.midT (fun ab a8 => ∃ (aJ : List Int) (aK : List Int) (i : GM), (aJ, aK) = aH /\ Ow i a8 (eSl X 119 (rI .u32) V :: eVar af 73 T_Q (Q.mk false [] []) :: L) /\ GM.le aG i /\ (rSl (rI .u32)).rep i [ab 1] aJ /\ (rSl (rI .u32)).rep i [ab 2] aK) ?_ ?_
 rotate_left
 .rintro e bo k ⟨aL, aM, aN, rfl, aO, ah, ai, aj⟩
  have ak := z3c aI
  refine .seq (.region (W.q2 (.bool q) (ft (k 0 rfl) rfl) (W.p2 (e 1) (W.p2 (e 2) ?_))))
  obtain ⟨B, al, am⟩ := zbe (G := aN) ((.bool q)) ((e 1)) ((e 2)) (rfl) ((z1x ai)) ((z1x aj))
  refine W.pv (.agg B.toArray) (al (z3a rfl (qc' rfl (qc' rfl (qc' rfl qn'))))) (W.ln (Lo.storeVar (j := 1) (s := T_Q) (y0 := (Q.mk q aL aM)) (v := (.agg B.toArray)) (o := 0) rfl ((Put.at (Put.self _) _ _)) rfl sz73 (ft (k 6 rfl) rfl) (by omega) rfl am aO) ?_)
  rintro a9 ba ⟨C, a1⟩
  refine .nil (.ret ?_)
  obtain ⟨E, an, F⟩ := (C.atVar (j := 1) rfl)
  have ao := (C.drop 0).drop 0
  obtain rfl := zAa ak
  exact z1m kr (v1 := (.agg E.toArray)) (by rfl) (z5f (p := (.pointer (some ⟨af, 0, none⟩))) (by rfl) ag73 sz73 (by exact (ft (k 6 rfl) rfl)) an (RT.len _ F)) ao (zAe y (zAe c (zAe g ah))) ⟨E, rfl, F⟩
 refine .cond (b := decide (Y > 0)) rfl rfl (fun I => ?_) (fun I => ?_)
 rotate_left
 .have aP := z0h I aa
  refine .skip ?_
  obtain rfl := zAa aP
  exact ⟨f, t, _, rfl, Z, (zAf _), (RT.mono _ A l), (RT.mono _ A u)⟩
 have aQ := z01 I aa
 refine .seq (.region (W.p2 v1 (W.p2 a ?_)))
 obtain ⟨aR, aS, aT⟩ := z00 aQ
 refine W.ln (Lo.cQ Tryz.f91 (mc rfl (mc rfl mn)) Z (fun P d => z8h K v1 f (RT.mono _ A l) a x (RT.mono _ (zAe c g) z) d _ aS)) ?_
 rintro bp bq ⟨br, aU, J, bb, ⟨M, ac, rfl, aV, bs⟩⟩
 refine W.p2 (.tuple #[M, ac]) (W.pv M (z0j ov rfl) (W.pv ac (z0j ov rfl) (W.p1 M (.nil (.region (W.p2 m ?_))))))
 refine W.p2 a ?_
 obtain ⟨aW, aX, aY⟩ := z00 aT
 refine W.ln (Lo.cQ Tryz.f91 (mc rfl (mc rfl mn)) aU (fun P d => z8h K m t (RT.mono _ (zAe y (zAe c (zAe g J))) u) a x (RT.mono _ (zAe c (zAe g J)) z) d _ aX)) ?_
 rintro bt bu ⟨bv, aZ, ad, bc, ⟨N, ae, rfl, a0, bw⟩⟩
 refine W.p2 (.tuple #[N, ae]) (W.pv N (z0j ov rfl) (W.pv ae (z0j ov rfl) (W.p1 N (.nil ?_))))
 obtain rfl := zAa aY
 exact ⟨aR.1, aW.1, _, rfl, aZ, (zAe J ad), (RT.mono _ ad aV), a0⟩
def z30 (K : Nat) (f : List Int) (g : List Int) : Nat -> List Int -> Int -> Int -> Option (List Int)
  | 0, _, _, _ => none
  | k + 1, b, d, a => (if (decide (a < (f.length : Int))) = true then ((idx f a).bind fun e => (Option.bind ((if (decide (a < (g.length : Int))) = true then ((idx g a).bind fun h => (lt (z03 .i64 ((z03 .i64 ((IntKind.wrap .i64 e) - d)) - (IntKind.wrap .i64 h))) fun i => some i)) else some (z03 .i64 ((IntKind.wrap .i64 e) - d)))) (tu1 fun c => (Option.bind ((if (decide (c < 0)) = true then some (1, z03 .i64 (c + 1000000000)) else some (0, c))) (tu2 fun j l => ((idx b a).bind fun m => z30 K f g k (List.set b (a.toNat) (IntKind.wrap .u32 l)) j (z03 .i64 (a + 1)))))))) else some b)
def z7b (K : Nat) (a : List Int) (d : List Int) : Option (List Int) := (if 0 <= (a.length : Int) /\ (a.length : Int) <= (a.length : Int) /\ (a.length : Int) <= 16777216 then (Option.bind (z30 K a d K (List.replicate (Int.toNat (a.length : Int)) 0) 0 0) (tu1 fun b => ((z2t K b).bind fun c => some c))) else none)
theorem zbf (C : Value) (m : List Int) (y : (rSl (rI .u32)).rep G [C] m) (v1 : Value) (E : List Int) (F : (rSl (rI .u32)).rep G [v1] E) (O : Ow G H (L)) (r : List Int) (h : z7b K m E = some r) :
    CRF Tryz.prog 85 [C, v1] G H (fun ae => (eSl ae 119 (rI .u32) r :: L)) (fun ae v g => ae = v) := by
 unfold z7b at h
 refine CRF.og (n := 47) (fn := Tryz.f85) (by kernel_rfl) rfl rfl fun R kr => (.seq (.region (W.p1 (.slice none 0 0) (.nil (.seq (.region ?_))))))
 refine W.p2 C (W.pv (.int .i64 (m.length : Int)) (z0q ov (z0g y) (z05 el71)) ?_)
 obtain ⟨aX, aY⟩ := z2b h
 refine W.ln (Lo.makeSlice (r := (rI .u32)) (x0 := 0) (a := (m.length : Int)) (c := (m.length : Int)) rfl el71 zet z5s (by kernel_rfl) rfl zlh (by decide) rfl rfl aX (zI .u32) O) ?_
 rintro p bn ⟨aZ, ba⟩
 refine W.p1 p (.nil (.seq (.region (W.p1 (.int .i64 0) (.nil (.seq ?_))))))
 refine .seq (.region (W.p2 C (W.pv (.int .i64 (m.length : Int)) (z0q ov (z0g y) (z05 el71)) (W.p2 (.int .i64 0) (.nil ?_)))))
 obtain ⟨ah, a0, a1⟩ := z00 aY
 refine AW.midT (fun f t => ∃ (i : List Int) (g : GM), i = ah /\ Ow g t (eSl p 119 (rI .u32) i :: L) /\ GM.le G g) ?_ ?_
 rotate_left
 .rintro a2 bb af ⟨ai, bc, rfl, aj, ak⟩
  have al := z0a a1
  refine .seq (.region (W.q2 p (ft (af 5 rfl) rfl) ?_))
  obtain ⟨bd, am, an⟩ := z00 al
  refine W.ln (Lo.qF Tryz.f67 (ps := [_]) (pw := fun w => [_]) (mc rfl mn) aj (fun bo a3 => z3t K p ai a3 _ am)) ?_
  rintro be a4 ⟨I, bf, ao, ap, a5, rfl⟩
  refine W.p1 I (.nil (.ret ?_))
  obtain rfl := zAa an
  exact z4j kr I (v1 := I) (by rfl) rt ao (zAe ak ap) rfl
 refine .block (AW.loop (α := Nat) (fun ag f t => ∃ (i : List Int) (J : Int) (aq : Int) (g : GM), z30 K m E ag i J aq = some ah /\ Ow g t (eSl p 119 (rI .u32) i :: L) /\ GM.le G g /\ f 6 = .int .i64 J /\ f 14 = .int .i64 aq) (fun ag => ag) K ⟨(List.replicate (Int.toNat (m.length : Int)) 0), 0, 0, _, a0, aZ, (zAf _), rfl, rfl⟩ ?_)
 rintro M
 rintro a6 bg k ⟨z, q, d, ar, A, s, e, au, N⟩
 rcases M with _ | M
 .exact z09 A
 rw [z30] at A
 refine .seq (.region (W.q3 (.bool (decide (d < (m.length : Int)))) N (ft (k 13 rfl) rfl) (.nil (.seq (.cond (b := decide (d < (m.length : Int))) rfl rfl (fun P => ?_) (fun P => ?_))))))
 rotate_left
 .have av := z0h P A
  refine .exit ?_
  obtain rfl := zAa av
  exact ⟨z, _, rfl, s, e⟩
 have aw := z01 P A
 refine .skip (.seq (.block (.seq (.region (W.q2 _ N (W.p1 (.int .i64 d) ?_))))))
 refine .nil (.seq (.region (W.q2 C (ft (k 0 rfl) rfl) (W.p2 (.int .i64 d) ?_))))
 obtain ⟨l, ax, ay⟩ := z00 aw
 have S := z0c ax
 refine W.pv (z1v C (d.toNat * 1)) (z2a el71 z5s ov ov (z0g (RT.mono _ e y)) S.1 S.2.1) (W.l1 (.int .u32 l) zc6 (z0i rfl (At.int (At.le (At.le (z1h y S.2.2) e e) (zAf _) s.fro))) (W.pv (.int .i64 (IntKind.wrap .i64 l)) (z5e zbn in2 ov) (W.q2 _ au (W.p3 (.int .i64 (z03 .i64 ((IntKind.wrap .i64 l) - q))) (W.p1 (.int .i64 (z03 .i64 ((IntKind.wrap .i64 l) - q))) (.nil ?_))))))
 refine .seq (.seq (.region (W.p2 (.int .i64 d) (W.q2 v1 (ft (k 1 rfl) rfl) (W.pv (.int .i64 (E.length : Int)) (z0q ov (z0g (RT.mono _ e F)) (z05 el71)) (W.p3 (.bool (decide (d < (E.length : Int)))) ?_))))))
 refine .nil ?_
 obtain ⟨az, aa, aA⟩ := z00 ay
 refine AW.midT (fun f t => ∃ (i : Int) (g : GM), i = az /\ Ow g t (eSl p 119 (rI .u32) z :: L) /\ GM.le ar g /\ f 8 = .int .i64 i) ?_ ?_
 .refine .cond (b := decide (d < (E.length : Int))) rfl rfl (fun T => ?_) (fun T => ?_)
  rotate_left
  .have aB := z0h T aa
   refine .skip ?_
   obtain rfl := zAa aB
   exact ⟨z03 .i64 ((IntKind.wrap .i64 l) - q), _, rfl, s, (zAf _), rfl⟩
  have aC := z01 T aa
  refine .region (W.p2 (.int .i64 (z03 .i64 ((IntKind.wrap .i64 l) - q))) (W.q2 v1 (ft (k 1 rfl) rfl) (W.p2 (.int .i64 d) ?_)))
  obtain ⟨U, aD, aE⟩ := z00 aC
  have V := z0c aD
  refine W.pv (z1v v1 (d.toNat * 1)) (z2a el71 z5s ov ov (z0g (RT.mono _ e F)) V.1 V.2.1) (W.l1 (.int .u32 U) zc6 (z0i rfl (At.int (At.le (At.le (z1h F V.2.2) e e) (zAf _) s.fro))) (W.pv (.int .i64 (IntKind.wrap .i64 U)) (z5e zbn in2 ov) (W.p3 (.int .i64 (z03 .i64 ((z03 .i64 ((IntKind.wrap .i64 l) - q)) - (IntKind.wrap .i64 U)))) ?_)))
  obtain ⟨aF, aG, aH⟩ := z71 aE
  refine W.q1 _ (congrArg (Value.int .i64) aG) (.nil ?_)
  obtain rfl := zAa aH
  exact ⟨aF, _, rfl, s, (zAf _), rfl⟩
 rintro a7 bh u ⟨o, aI, rfl, ab, aJ, X⟩
 have aK := z0a aA
 refine .seq (.region (W.p1 (.int .i64 0) (.nil (.seq (.seq (.region ?_))))))
 refine W.q2 _ X (W.p3 (.bool (decide (o < 0))) (.nil ?_))
 obtain ⟨aL, ac, aM⟩ := z00 aK
 refine AW.midT (fun f t => ∃ (i : Int) (J : Int) (g : GM), (i, J) = aL /\ Ow g t (eSl p 119 (rI .u32) z :: L) /\ GM.le aI g /\ f 6 = .int .i64 i /\ f 8 = .int .i64 J) ?_ ?_
 .refine .cond (b := decide (o < 0)) rfl rfl (fun Y => ?_) (fun Y => ?_)
  rotate_left
  .have aN := z0h Y ac
   refine .skip ?_
   obtain rfl := zAa aN
   exact ⟨0, o, _, rfl, ab, (zAf _), rfl, X⟩
  have aO := z01 Y ac
  refine .seq (.region (W.q2 _ X (W.p3 (.int .i64 (z03 .i64 (o + 1000000000))) (W.p1 (.int .i64 (z03 .i64 (o + 1000000000))) (.nil (.region ?_))))))
  refine W.p1 (.int .i64 1) (.nil ?_)
  obtain rfl := zAa aO
  exact ⟨1, z03 .i64 (o + 1000000000), _, rfl, ab, (zAf _), rfl, rfl⟩
 rintro a8 bi x ⟨aP, B, bj, rfl, ad, aQ, aR, aS⟩
 have aT := z3c aM
 refine .region (W.q2 p (ft (x 5 rfl) (ft (u 5 rfl) (ft (k 5 rfl) rfl))) (W.q2 (.int .i64 d) (ft (x 7 rfl) (ft (u 7 rfl) rfl)) (W.q2 _ aS (W.pv (.int .u32 (IntKind.wrap .u32 B)) (z5e in2 zbn ov) ?_))))
 obtain ⟨bk, aU, aV⟩ := z00 aT
 have Z := z0c aU
 refine W.pv (z1v p (d.toNat * 1)) (z2a el71 z5s ov ov (ad.slLen (j := 0) rfl) Z.1 Z.2.1) (W.ln (Lo.storeSl0 (j := 0) (y0 := IntKind.wrap .u32 B) (v := (.int .u32 (IntKind.wrap .u32 B))) rfl Z.2.2  rfl z5s rfl rfl rfl ad) ?_)
 rintro bl bm ⟨aW, a9⟩
 refine .nil (.region (W.q3 (.int .i64 (z03 .i64 (d + 1))) (ft (x 14 rfl) (ft (u 14 rfl) N)) rfl (W.p2 (.int .i64 (z03 .i64 (d + 1))) (.nil ?_))))
 exact ⟨M, zAg _, ⟨(List.set z (d.toNat) (IntKind.wrap .u32 B)), aP, z03 .i64 (d + 1), _, aV, aW, (zAe e (zAe aJ aQ)), aR, rfl⟩⟩
end Go.Am.Tryz
