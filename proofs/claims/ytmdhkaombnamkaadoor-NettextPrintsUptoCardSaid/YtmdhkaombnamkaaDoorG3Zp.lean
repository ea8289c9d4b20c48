/- The closed fact of the law on printed networks, run on the abstract machine; lines, printed texts, places and numbers of bytes by their contracts. -/
import Derived.Test.YtmdhkaombnamkaaDoorG2Zp
import Derived.Shelf.Strings.Count
set_option maxRecDepth 100000
set_option maxHeartbeats 8000000
set_option linter.unusedVariables false
set_option linter.unusedSimpArgs false
namespace Go.Am.Tryd
open Go Go.Am Go.Proofs
def renC : Go.Shelf.Ren := ⟨fun x => if x = 314 then 80 else if x = 267 then 69 else if x = 266 then 79 else if x = 225 then 67 else if x = 224 then 68 else if x = 219 then 61 else if x = 218 then 60 else if x = 217 then 66 else if x = 195 then 58 else if x = 143 then 55 else if x = 138 then 54 else x, fun x => if x = 146 then 132 else if x = 51 then 131 else if x = 46 then 114 else if x = 21 then 21 else if x = 9 then 9 else if x = 5 then 5 else if x = 4 then 4 else if x = 3 then 3 else if x = 0 then 0 else x, fun x => if x = 1 then 0 else x⟩
theorem zag : Lays.n138 Tryd.prog renC where
 mixed := by kernel_rfl
 f138 := by kernel_rfl
 f143 := by kernel_rfl
 f195 := by kernel_rfl
 f217 := by kernel_rfl
 f218 := by kernel_rfl
 f219 := by kernel_rfl
 f224 := by kernel_rfl
 f225 := by kernel_rfl
 f266 := by kernel_rfl
 f267 := by kernel_rfl
 f314 := by kernel_rfl
 t0 := Tryd.underlying0
 a0 := Tryd.isAgg0
 z0 := Tryd.sizeOf0
 v0 := Tryd.zeroValue0
 t3 := Tryd.underlying3
 a3 := Tryd.isAgg3
 z3 := Tryd.sizeOf3
 v3 := Tryd.zeroValue3
 t4 := Tryd.underlying4
 a4 := Tryd.isAgg4
 z4 := Tryd.sizeOf4
 v4 := Tryd.zeroValue4
 t5 := Tryd.underlying5
 a5 := Tryd.isAgg5
 z5 := Tryd.sizeOf5
 v5 := Tryd.zeroValue5
 t9 := Tryd.underlying9
 a9 := Tryd.isAgg9
 z9 := Tryd.sizeOf9
 v9 := Tryd.zeroValue9
 t46 := Tryd.underlying114
 a46 := Tryd.isAgg114
 z46 := Tryd.sizeOf114
 v46 := Tryd.zeroValue114
 t51 := Tryd.underlying131
 a51 := Tryd.isAgg131
 z51 := Tryd.sizeOf131
 v51 := Tryd.zeroValue131
 t146 := Tryd.underlying132
 a146 := Tryd.isAgg132
 z146 := Tryd.sizeOf132
 v146 := Tryd.zeroValue132
 g1 := by kernel_rfl
theorem zh4 (s : zAd) (c : UInt8) (H : AH) : ACalls Tryd.prog 54 [.string s, .string ⟨#[c]⟩] H (.int .i64 (Lib.countByte s.data.toList c)) H := by
 refine ⟨Nx.refl _, fun ι w cargs hS hargs => ?_⟩
 have he := hargs.closed_eq rfl
 have hc : cargs = #[.string s, .string ⟨#[c]⟩] := by
  cases cargs; exact congrArg Array.mk he
 subst hc
 refine (Any.strings_Count_one zag s c w).mono ?_
 rintro e w' ⟨rfl, rfl⟩
 exact ⟨ι, _, rfl, .scal rfl, hS, fun _ _ h => h, fun _ _ => rfl, fun _ h => .inl h, fun _ h => .inl h, fun _ _ _ => rfl, Nat.le_refl _, rfl, rfl, rfl⟩
def rdS : List Value -> Option (List zAd)
 | [] => some []
 | .string s :: l => match rdS l with | some r => some (s :: r) | none => none
 | _ :: _ => none
theorem zib : ∀ {l : List Value} {r : List zAd}, rdS l = some r -> l = r.map Value.string
 | [], r, h => by cases h; rfl
 | v :: l, r, h => by
  cases v <;> simp only [rdS] at h <;> try (cases h; done)
  split at h
  ·rename_i q hq; cases h; rw [zib hq]; rfl
  ·cases h
def decW : Value -> Option Wd
 | .iface t (.string s) => if t = 9 then some (.inl s) else none
 | .iface t (.int .i64 n) => if t = 3 /\ 0 <= n /\ n < 10 then some (.inr n) else none
 | _ => none
def zfu : Wd -> Prop
 | .inl _ => True
 | .inr n => 0 <= n /\ n < 10
theorem zic {v : Value} {x : Wd} (h : decW v = some x) : v = encA x /\ zfu x := by
 unfold decW at h
 split at h
 ·split at h
  ·rename_i hq; cases h; subst hq; exact ⟨rfl, trivial⟩
  ·cases h
 ·split at h
  ·rename_i hq; obtain ⟨rfl, h1, h2⟩ := hq; cases h; exact ⟨rfl, h1, h2⟩
  ·cases h
 ·cases h
def rdW : List Value -> Option (List Wd)
 | [] => some []
 | v :: l => match decW v, rdW l with | some x, some r => some (x :: r) | _, _ => none
theorem zid : ∀ {l : List Value} {r : List Wd}, rdW l = some r -> l = r.map encA /\ ∀ x ∈ r, zfu x
 | [], r, h => by cases h; exact ⟨rfl, fun x hx => by cases hx⟩
 | v :: l, r, h => by
  unfold rdW at h
  split at h
  ·rename_i x q h1 h2
   cases h
   obtain ⟨h3, h4⟩ := zic h1
   obtain ⟨h5, h6⟩ := zid h2
   exact ⟨by rw [h3, h5]; rfl, fun y hy => (List.mem_cons.1 hy).elim (fun e => e ▸ h4) (h6 y)⟩
  ·cases h
def wK : Wd -> List UInt8
 | .inl s => s.data.toList
 | .inr n => [UInt8.ofNat (48 + n.toNat)]
def zj3 : List Wd -> List UInt8
 | [] => []
 | x :: r => wK x ++ (r.map fun y => 32 :: wK y).flatten
theorem zjl {x : Wd} (h : zfu x) : wK x = wU x := by
 cases x with
 | inl s => rfl
 | inr n =>
  obtain ⟨h1, h2⟩ := h
  show _ = Lib.itoa n
  unfold Lib.itoa Lib.decDigits
  rw [if_neg (by omega), dif_pos (by omega)]; rfl
theorem zh5 {l : List Wd} (h : ∀ x ∈ l, zfu x) : zj3 l = z8k l := by
 cases l with
 | nil => rfl
 | cons x r =>
  simp only [zj3, z8k, zjl (h x (by simp))]
  congr 2
  exact List.map_congr_left fun y hy => by rw [zjl (h y (by simp [hy]))]
abbrev Ext1 := FuncId -> Option (List Value -> AH -> Option (Value × AH))
abbrev XF := List Value -> AH -> Option (Value × AH)
noncomputable def zdz : XF := fun args H => match args with
 | [.slice (some ⟨b, off, tg⟩) n cap] => match H.get b with
  | some k => match rdW ((k.cells.drop off).take n) with
   | some ws => bif decide (ws ≠ []) && decide (ws.length = n) && decide (n <= 1000) && ws.all okWb then some (.string ⟨(zj3 ws).toArray⟩, H) else none
   | none => none
  | none => none
 | _ => none
theorem ze0 {α : Type} {b : Bool} {x : α} {y : Option α} {r : α} (h : (bif b then some x else none) = some r) : b = true /\ x = r := by
 cases b
 ·cases h
 ·exact ⟨rfl, zAa h⟩
theorem ze1 {args : List Value} {H : AH} {v : Value} {H' : AH} (h : zdz args H = some (v, H')) : ACalls Tryd.prog 36 args H v H' := by
 unfold zdz at h
 split at h
 ·rename_i b off tg n cap
  split at h
  ·rename_i k hk
   split at h
   ·rename_i ws hw
    obtain ⟨hc, h⟩ := ze0 (y := none) h
    obtain ⟨rfl, rfl⟩ := Prod.mk.inj h
    simp only [Bool.and_eq_true, decide_eq_true_eq] at hc
    obtain ⟨⟨⟨h0, rfl⟩, h2⟩, h3⟩ := hc
    obtain ⟨h4, h5⟩ := zid hw
    rw [zh5 h5]
    refine zaf h0 h2 (fun x hx => zdv (List.all_eq_true.1 h3 x hx)) hk fun j x hx => ?_
    have e1 : ((k.cells.drop off).take ws.length)[j]? = some (encA x) := by rw [h4, List.getElem?_map, hx]; rfl
    have hj : j < ws.length := (zAi hx).1
    rw [List.getElem?_take, if_pos hj, List.getElem?_drop] at e1
    exact e1
   ·cases h
  ·cases h
 ·cases h
noncomputable def extA : Ext1 := fun f => if f = 36 then some zdz else if f = 54 then some (fun args H => match args with
 | [.string s, .string ⟨⟨[c]⟩⟩] => some (.int .i64 (Lib.countByte s.data.toList c), H)
 | _ => none) else if f = 66 then some (fun args H => match args with
 | [.string s, .int .u8 c] => some (.int .i64 (Lib.indexByte s.data.toList c.toNat.toUInt8), H)
 | _ => none) else none
theorem ze2 : ∀ f g, extA f = some g -> ∀ args H v H', g args H = some (v, H') -> ACalls Tryd.prog f args H v H' := by
 intro f g h args H v H' h2
 unfold extA at h
 split at h
 ·rename_i hf; subst hf; obtain rfl := zAa h; exact ze1 h2
 split at h
 ·rename_i hf; subst hf; obtain rfl := zAa h
  dsimp only at h2
  split at h2
  ·obtain ⟨rfl, rfl⟩ := Prod.mk.inj (zAa h2); exact zh4 _ _ _
  ·cases h2
 split at h
 ·rename_i hf; subst hf; obtain rfl := zAa h
  dsimp only at h2
  split at h2
  ·obtain ⟨rfl, rfl⟩ := Prod.mk.inj (zAa h2); exact zh1 _ _ _
  ·cases h2
 ·cases h
def isZ : Value -> Bool
 | .int .i64 n => decide (n = 0)
 | _ => false
theorem zj4 {v : Value} (h : isZ v = true) : v = .int .i64 0 := by
 unfold isZ at h
 split at h
 ·rw [of_decide_eq_true h]
 ·cases h
noncomputable def zax (rounds n : Nat) : XF := fun args H => match args with
 | [.agg ⟨[s0, s1, s2, s3, s4, s5]⟩] => bif [s0, s1, s2, s3, s4, s5].all (·.oneCell') then match callF zhy Tryd.prog extA rounds n 13 [.agg ⟨[s0, s1, s2, s3, s4, s5]⟩] H with
  | some (e, H1) => bif isZ e then match callF zhy Tryd.prog extA rounds n 14 [.agg ⟨[s0, s1, s2, s3, s4, s5]⟩] H1 with
   | some (.slice (some ⟨b, off, tg⟩) m (c + 1), H2) => match H2.get b with
    | some k => match rdS ((k.cells.drop off).take m) with
     | some xs => bif decide (xs.length = m) && decide (m <= 1000) && (xs.all fun x => decide (x.size <= 1000)) && decide ((z6k xs).length <= 8192) then some (.tuple #[.string ⟨(z6k xs).toArray⟩, .int .i64 0], H2) else none
     | none => none
    | none => none
   | _ => none
  else none
  | none => none
 else none
 | _ => none
theorem zie {H : AH} {b off m c : Nat} {tg : Option Nat} {k : ABlk} {xs : List zAd} (hk : H.get b = some k) (hx : (k.cells.drop off).take m = xs.map Value.string) (hm : xs.length = m) : ∀ ι v' w, VR ι (.slice (some ⟨b, off, tg⟩) m (c + 1)) v' -> Sim H.next ι H.get w ->
  ∃ a c, v' = .slice a xs.length c /\ ∀ j x, xs[j]? = some x -> ∃ cb co, a = some ⟨cb, co, none⟩ /\ Img ι H.get cb /\ w.cell? ⟨cb, co + j, none⟩ = some (.string x) := by
 intro ι v' w hv hS
 have key : ∀ cb co ex, ι b = some (cb, co, ex) -> ∀ j x, xs[j]? = some x -> Img ι H.get cb /\ w.cell? ⟨cb, co + off + j, none⟩ = some (.string x) := fun cb co ex hι j x hxj => by
  refine ⟨⟨b, _, co, ex, hk, hι⟩, ?_⟩
  obtain ⟨⟨arr, el, fr, h1, h2, h3⟩⟩ := hS.blk b _ cb co ex hk hι
  have hj : j < xs.length := (zAi hxj).1
  have e1 : ((k.cells.drop off).take m)[j]? = some (.string x) := by rw [hx, List.getElem?_map, hxj]; rfl
  rw [List.getElem?_take, if_pos (by omega), List.getElem?_drop] at e1
  obtain ⟨u, h4, h5⟩ := h2 _ _ e1
  rw [h5.closed_eq rfl] at h4
  simp only [World.cell?, h1]
  rw [<- h4, Nat.add_assoc]; rfl
 generalize hcc : c + 1 = d at hv
 cases hv with
 | scal h => simp [z1m] at h
 | sl h => rw [hm]; exact ⟨_, _, rfl, fun j x hx => ⟨_, _, rfl, key _ _ _ h j x hx⟩⟩
 | slT h => rw [hm]; exact ⟨_, _, rfl, fun j x hx => ⟨_, _, rfl, key _ _ _ h j x hx⟩⟩
 | sl0 h _ => cases hcc
theorem zca {rounds n : Nat} {args : List Value} {H : AH} {v : Value} {H' : AH} (h : zax rounds n args H = some (v, H')) : ACalls Tryd.prog 5 args H v H' := by
 unfold zax at h
 split at h
 ·rename_i s0 s1 s2 s3 s4 s5
  have hb : ∀ {b : Bool} {x : Option (Value × AH)}, (bif b then x else none) = some (v, H') -> b = true /\ x = some (v, H') := fun {b x} h => by
   cases b
   ·cases h
   ·exact ⟨rfl, h⟩
  obtain ⟨hsc, h⟩ := hb h
  split at h
  ·rename_i e H1 h13
   obtain ⟨he, h⟩ := hb h
   obtain rfl := zj4 he
   split at h
   ·rename_i b off tg m c H2 h14
    split at h
    ·rename_i k hk
     split at h
     ·rename_i xs hx
      obtain ⟨hc, h⟩ := ze0 (y := none) h
      obtain ⟨rfl, rfl⟩ := Prod.mk.inj h
      simp only [Bool.and_eq_true, decide_eq_true_eq] at hc
      obtain ⟨⟨⟨hm, h2⟩, h3⟩, h4⟩ := hc
      have hp := z7e (List.all_eq_true.1 hsc) (z8i ze2 (fun x y => zap) mixed rounds n 13 _ _ _ _ h13) (z8i ze2 (fun x y => zap) mixed rounds n 14 _ _ _ _ h14) (xs := xs) (by omega)
       (fun x hx => by have := of_decide_eq_true (List.all_eq_true.1 h3 x hx); omega) (zie hk (zib hx) hm)
      rw [if_neg (by omega)] at hp
      exact hp
     ·cases h
    ·cases h
   ·cases h
  ·cases h
 ·cases h
noncomputable def extP : Ext1 := fun f => if f = 5 then some (zax 200 60) else extA f
theorem zif : ∀ f g, extP f = some g -> ∀ args H v H', g args H = some (v, H') -> ACalls Tryd.prog f args H v H' := by
 intro f g h args H v H' h2
 unfold extP at h
 split at h
 ·rename_i hf; subst hf; obtain rfl := zAa h; exact zca h2
 ·exact ze2 f g h args H v H' h2
theorem zcb {rounds n : Nat} {f : FuncId} {v : Value} {args : List Value} (ha : args.all closed = true) (hv : closed v = true) (h : ((callF zhy Tryd.prog extP rounds n f args ⟨0, []⟩).map (·.1)) = some v) (A : AH) : ACalls Tryd.prog f args A v A := by
 obtain ⟨r, h1, h2⟩ := Option.map_eq_some_iff.1 h
 subst h2
 exact (z8i zif (fun x y => zap) mixed rounds n f args _ _ _ h1).anyHeap ha hv A
set_option maxRecDepth 100000 in
theorem zjt (A : AH) : ACalls Tryd.prog 4 [] A (.bool true) A := zcb (rounds := 200) (n := 60) rfl rfl (by kernel_rfl) A
def z3r (K : Nat) : Option Bool := some true
theorem z6s (K : Nat) {G : GM} {H : AH} {L : List Pc} (O : Ow G H L) (r : Bool) (h : z3r K = some r) : CR Tryd.prog 4 [] G H L (fun v G' _ => v = .bool r) := by
 cases h; exact ⟨_, H, G, zjt H, O, zAf _, rfl⟩
end Go.Am.Tryd
/- Typed functions with the same answers as the program's, and the walks that show it. -/
namespace Go.Am.Tryd
open Go Go.Am Go.Proofs
variable (K : Nat) {G : GM} {H : AH} {L : List Pc}
def z1b (K : Nat) (x59 : List zAd) (x75 : List zAd) : Nat -> List zAd -> Int -> Option (List zAd)
 | 0, _, _ => none
 | k + 1, x93, x94 => (if (decide (x94 < (List.length x59 : Int))) = true then (Option.bind (((idx x59 x94).bind fun x108 => ((z0a K x75 x108).bind fun x112 => (if (!x112) = true then (if ((⟨#[45, 32]⟩ : zAd)).size + (x108).size <= 4611686018427387904 then (if List.length x93 + List.length [((⟨#[45, 32]⟩ : zAd) ++ x108)] <= 16777216 then some (x93 ++ [((⟨#[45, 32]⟩ : zAd) ++ x108)]) else none) else none) else some x93)))) (tu1 fun x142 => z1b K x59 x75 k x142 (z0p .i64 (x94 + 1)))) else some x93)
def z1c (K : Nat) (x59 : List zAd) (x75 : List zAd) : Nat -> List zAd -> Int -> Option (List zAd)
 | 0, _, _ => none
 | k + 1, x170, x171 => (if (decide (x171 < (List.length x75 : Int))) = true then (Option.bind (((idx x75 x171).bind fun x185 => ((z0a K x59 x185).bind fun x189 => (if (!x189) = true then (if ((⟨#[43, 32]⟩ : zAd)).size + (x185).size <= 4611686018427387904 then (if List.length x170 + List.length [((⟨#[43, 32]⟩ : zAd) ++ x185)] <= 16777216 then some (x170 ++ [((⟨#[43, 32]⟩ : zAd) ++ x185)]) else none) else none) else some x170)))) (tu1 fun x219 => z1c K x59 x75 k x219 (z0p .i64 (x171 + 1)))) else some x170)
def z34 (K : Nat) (p0 : Network) (p1 : Network) : Option (List zAd × Int) := ((z2e K p0).bind fun x14 => (if (x14 != 0) = true then some ([], x14) else ((z2e K p1).bind fun x34 => (if (x34 != 0) = true then some ([], x34) else ((z2l K p0).bind fun x59 => ((z2l K p1).bind fun x75 => (Option.bind (z1b K x59 x75 K [] 0) (tu1 fun x157 => (Option.bind (z1c K x59 x75 K x157 0) (tu1 fun x229 => some (x229, 0)))))))))))
theorem z80 (v0 : List Value) (p0 : Network) (hp0 : z00.rep G v0 p0) (v1 : List Value) (p1 : Network) (hp1 : z00.rep G v1 p1) (O : Ow G H (L)) (r : List zAd × Int) (h : z34 K p0 p1 = some r) :
  CRF Tryd.prog 6 [.agg (List.toArray v0), .agg (List.toArray v1)] G H (fun w0 => (eSl w0 9 rS r.1 :: L)) (fun w0 v G' => v = .tuple #[w0, .int .i64 r.2]) := by
 unfold z34 at h
 refine CRF.og (n := 62) (fn := Tryd.f6) (by kernel_rfl) rfl rfl fun R kr => ?_
 refine .seq ?_
 refine .region ?_
 refine W.lo rfl rfl (Lo.box (r := z00) (x0 := p0) (v := (.agg (List.toArray v0))) rfl rfl hp0 O) ?_
 rintro v4 H5 ⟨b2, rfl, O1, sm3⟩
 refine W.lo rfl rfl (Lo.box (r := z00) (x0 := p1) (v := (.agg (List.toArray v1))) rfl rfl hp1 O1) ?_
 rintro v9 H10 ⟨b7, rfl, O6, sm8⟩
 refine W.pure (v := (.slice none 0 0)) rfl rfl (z01 (oo rfl rfl)) ?_
 refine W.pure (v := (.int .i64 0)) rfl rfl (z01 (oo rfl rfl)) ?_
 refine .nil ?_
 refine .seq ?_
 refine .seq ?_
 refine .region ?_
 obtain ⟨c11, p12, f13⟩ := (O6.atVar (j := 1) rfl)
 refine W.loadA (cs := c11) rfl rfl ag29 sz29 (z0d rfl p12) (RT.len _ f13) ?_
 obtain ⟨x14, i15, h16⟩ := z05 h
 refine W.lo rfl rfl (Lo.callP (ps := []) (ps' := []) rfl (fn := Tryd.f13) (by kernel_rfl) rfl (mc rfl mn) O6 (fun L' O' => z43 K c11 p0 f13 O' _ i15)) ?_
 rintro v23 H24 ⟨G17, O18, s19, sm22, rfl⟩
 replace O18 : Ow G17 H24 (eVar b7 29 z00 p1 :: eVar b2 29 z00 p0 :: L) := O18
 refine W.pure (v := (.int .i64 x14)) rfl rfl (z01 (oo rfl rfl)) ?_
 refine .nil ?_
 refine .seq ?_
 refine .region ?_
 refine W.pure (v := (.int .i64 x14)) rfl rfl (z02 (oo rfl rfl)) ?_
 refine W.pure (v := (.bool (x14 != 0))) rfl rfl (z2g (oo rfl rfl) (oo rfl rfl) rfl) ?_
 refine .nil ?_
 refine .cond (b := (x14 != 0)) rfl rfl (fun g25 => ?_) (fun g25 => ?_)
 ·have h26 := z03 g25 h16
  refine .seq ?_
  refine .region ?_
  refine W.pure (v := (.int .i64 x14)) rfl rfl (z02 (oo rfl rfl)) ?_
  refine W.pure (v := (.slice none 0 0)) rfl rfl (z01 (oo rfl rfl)) ?_
  refine W.pure (v := (.int .i64 x14)) rfl rfl (z01 (oo rfl rfl)) ?_
  refine .nil ?_
  refine .ret ?_
  have O27 := O18.nilSl 9 rS
  have O28 : Ow G17 H24 (eSl (.slice none 0 0) 9 rS [] :: eVar b2 29 z00 p0 :: L) := O27.drop 1
  have O29 : Ow G17 H24 (eSl (.slice none 0 0) 9 rS [] :: L) := O28.drop 1
  obtain rfl := zAa h26
  exact zh0 kr (.slice none 0 0) (v1 := (.slice none 0 0)) (v2 := (.int .i64 x14)) (by rfl) (z2i (by rfl) (by exact rfl)) (z2i (by rfl) (by exact rfl)) O29 s19 rfl
 ·have h30 := z16 g25 h16
  refine .skip ?_
  refine .seq ?_
  refine .seq ?_
  refine .region ?_
  obtain ⟨c31, p32, f33⟩ := (O18.atVar (j := 0) rfl)
  refine W.loadA (cs := c31) rfl rfl ag29 sz29 (z0d rfl p32) (RT.len _ f33) ?_
  obtain ⟨x34, i35, h36⟩ := z05 h30
  refine W.lo rfl rfl (Lo.callP (ps := []) (ps' := []) rfl (fn := Tryd.f13) (by kernel_rfl) rfl (mc rfl mn) O18 (fun L' O' => z43 K c31 p1 f33 O' _ i35)) ?_
  rintro v43 H44 ⟨G37, O38, s39, sm42, rfl⟩
  replace O38 : Ow G37 H44 (eVar b7 29 z00 p1 :: eVar b2 29 z00 p0 :: L) := O38
  refine W.pure (v := (.int .i64 x34)) rfl rfl (z01 (oo rfl rfl)) ?_
  refine .nil ?_
  refine .seq ?_
  refine .region ?_
  refine W.pure (v := (.int .i64 x34)) rfl rfl (z02 (oo rfl rfl)) ?_
  refine W.pure (v := (.bool (x34 != 0))) rfl rfl (z2g (oo rfl rfl) (oo rfl rfl) rfl) ?_
  refine .nil ?_
  refine .cond (b := (x34 != 0)) rfl rfl (fun g45 => ?_) (fun g45 => ?_)
  ·have h46 := z03 g45 h36
   refine .seq ?_
   refine .region ?_
   refine W.pure (v := (.int .i64 x34)) rfl rfl (z02 (oo rfl rfl)) ?_
   refine W.pure (v := (.slice none 0 0)) rfl rfl (z01 (oo rfl rfl)) ?_
   refine W.pure (v := (.int .i64 x34)) rfl rfl (z01 (oo rfl rfl)) ?_
   refine .nil ?_
   refine .ret ?_
   have O47 := O38.nilSl 9 rS
   have O48 : Ow G37 H44 (eSl (.slice none 0 0) 9 rS [] :: eVar b2 29 z00 p0 :: L) := O47.drop 1
   have O49 : Ow G37 H44 (eSl (.slice none 0 0) 9 rS [] :: L) := O48.drop 1
   obtain rfl := zAa h46
   exact zh0 kr (.slice none 0 0) (v1 := (.slice none 0 0)) (v2 := (.int .i64 x34)) (by rfl) (z2i (by rfl) (by exact rfl)) (z2i (by rfl) (by exact rfl)) O49 (zAe s19 s39) rfl
  ·have h50 := z16 g45 h36
   refine .skip ?_
   refine .seq ?_
   refine .draw2 (M := [0, 1, 0, 7, 15, 31]) mixed (by kernel_rfl) (by kernel_rfl) fun H51 N55 x52 F54 => ?_
   have O53 := O38.ext x52
   obtain ⟨c56, p57, f58⟩ := (O53.atVar (j := 1) rfl)
   refine D2.loadA' (cs := c56) rfl rfl ag29 sz29 (z0d rfl p57) (RT.len _ f58) z0t ?_
   obtain ⟨x59, i60, h61⟩ := z05 h50
   refine D2.lo rfl rfl (Lo.callPF (ps := []) (pw := fun w => [eSl w 9 rS x59]) rfl (fn := Tryd.f14) (by kernel_rfl) rfl (mc rfl mn) O53 (fun L' O' => z4a K c56 p0 f58 O' _ i60)) ?_ z0t ?_ ?_
   ·rintro v70 H71 ⟨w67, G62, O63, s64, sm69, rfl⟩; exact (faR1 (.inl (by decide)) z0t)
   ·rintro v70 H71 ⟨w67, G62, O63, s64, sm69, rfl⟩; exact z0t
   rintro v70 H71 ⟨w67, G62, O63, s64, sm69, rfl⟩
   replace O63 : Ow G62 H71 (eSl w67 9 rS x59 :: eVar b7 29 z00 p1 :: eVar b2 29 z00 p0 :: L) := O63
   obtain ⟨c72, p73, f74⟩ := (O63.atVar (j := 1) rfl)
   refine D2.loadA' (cs := c72) rfl rfl ag29 sz29 (z0d rfl p73) (RT.len _ f74) (ziv (sm69 _ (Or.inr ⟨0, _, rfl, List.mem_singleton.2 rfl⟩)) z0t) ?_
   obtain ⟨x75, i76, h77⟩ := z05 h61
   refine D2.lo rfl rfl (Lo.callPF (ps := []) (pw := fun w => [eSl w 9 rS x75]) rfl (fn := Tryd.f14) (by kernel_rfl) rfl (mc rfl mn) O63 (fun L' O' => z4a K c72 p1 f74 O' _ i76)) ?_ (z3k (by decide) z0t) ?_ ?_
   ·rintro v86 H87 ⟨w83, G78, O79, s80, sm85, rfl⟩; exact (faR1 (.inl (by decide)) (faR1 (.inl (by decide)) z0t))
   ·rintro v86 H87 ⟨w83, G78, O79, s80, sm85, rfl⟩; exact z0t
   rintro v86 H87 ⟨w83, G78, O79, s80, sm85, rfl⟩
   replace O79 : Ow G78 H87 (eSl w83 9 rS x75 :: eSl w67 9 rS x59 :: eVar b7 29 z00 p1 :: eVar b2 29 z00 p0 :: L) := O79
   refine D2.pure (v := w67) rfl rfl (z01 (oo rfl rfl)) ?_
   refine D2.pure (v := w83) rfl rfl (z01 (oo rfl rfl)) ?_
   refine .nil ?_
   refine .seq ?_
   refine .region ?_
   refine W.pure (v := (.slice none 0 0)) rfl rfl (z01 (oo rfl rfl)) ?_
   refine .nil ?_
   refine .seq ?_
   refine .seq ?_
   refine .region ?_
   refine W.pure (v := w67) rfl rfl (z02 (oo rfl rfl)) ?_
   refine W.pure (v := (.int .i64 (List.length x59 : Int))) rfl rfl (z25 (oo rfl rfl) (O79.slLen (j := 1) rfl) (z04 el22)) ?_
   refine W.pure (v := (.int .i64 0)) rfl rfl (z02 (oo rfl rfl)) ?_
   refine .nil ?_
   obtain ⟨q88, h89, h90⟩ := z05 h77
   refine AW.midT (fun σ' H' => ∃ (y1 : List zAd) (G' : GM), y1 = q88 /\ Ow G' H' (eSl w83 9 rS x75 :: eSl w67 9 rS x59 :: eVar b7 29 z00 p1 :: eVar b2 29 z00 p0 :: eSl (σ' 10) 9 rS y1 :: L) /\ GM.le G78 G') ?_ ?_
   ·refine .block ?_
    have O91 := O79.nilSl 9 rS
    refine AW.loop (α := Nat) (fun k' σ' H' => ∃ (y1 : List zAd) (y2 : Int) (G' : GM), z1b K x59 x75 k' y1 y2 = some q88 /\ Ow G' H' (eSl (σ' 10) 9 rS y1 :: eSl w83 9 rS x75 :: eSl w67 9 rS x59 :: eVar b7 29 z00 p1 :: eVar b2 29 z00 p0 :: L) /\ GM.le G78 G' /\ σ' 31 = .int .i64 y2) (fun k' => k') K ⟨[], 0, _, h89, O91, (zAf _), rfl⟩ ?_
    rintro k92
    rintro σ95 H96 fr97 ⟨x93, x94, G98, h101, O99, s100, t102⟩
    rcases k92 with _ | k92
    ·exact z09 h101
    rw [z1b] at h101
    refine .seq ?_
    refine .region ?_
    refine W.pure (v := (.bool (decide (x94 < (List.length x59 : Int))))) rfl rfl (z2g (oo rfl t102) (oo rfl ((fr97 30 rfl).trans rfl)) rfl) ?_
    refine .nil ?_
    refine .seq ?_
    refine .cond (b := decide (x94 < (List.length x59 : Int))) rfl rfl (fun g103 => ?_) (fun g103 => ?_)
    ·have h104 := z03 g103 h101
     refine .skip ?_
     refine .seq ?_
     obtain ⟨q105, h106, h107⟩ := z05 h104
     refine AW.midT (fun σ' H' => ∃ (y1 : List zAd) (G' : GM), y1 = q105 /\ Ow G' H' (eSl (σ' 10) 9 rS y1 :: eSl w83 9 rS x75 :: eSl w67 9 rS x59 :: eVar b7 29 z00 p1 :: eVar b2 29 z00 p0 :: L) /\ GM.le G98 G') ?_ ?_
     ·refine .block ?_
      refine .seq ?_
      refine .region ?_
      obtain ⟨x108, i109, h110⟩ := z05 h106
      have j111 := z1n i109
      refine W.pure (v := (z4t w67 (Int.toNat x94 * 1))) rfl rfl (z5d el22 sz9 (oo rfl ((fr97 29 rfl).trans rfl)) (oo rfl t102) (O99.slLen (j := 2) rfl) j111.1 j111.2.1) ?_
      refine W.load1 (v := (.string x108)) (r := []) rfl rfl ag9 (z0d rfl (At.str (O99.atSl (j := 2) rfl j111.2.2))) ?_
      refine W.pure (v := (.string x108)) rfl rfl (z01 (oo rfl rfl)) ?_
      refine .nil ?_
      refine .seq ?_
      refine .region ?_
      refine W.pure (v := w83) rfl rfl (z02 (oo rfl ((fr97 9 rfl).trans rfl))) ?_
      refine W.pure (v := (.string x108)) rfl rfl (z02 (oo rfl rfl)) ?_
      obtain ⟨x112, i113, h114⟩ := z05 h110
      refine W.lo rfl rfl (Lo.callB (j := 1) rfl rfl (fn := Tryd.f19) (by kernel_rfl) rfl (mc rfl (mc rfl mn)) O99 (fun G' L' hG O' hB => z15 K w83 x75 hB x108 O' _ i113)) ?_
      rintro v121 H122 ⟨G115, O116, s117, sm120, rfl⟩
      replace O116 : Ow G115 H122 (eSl (σ95 10) 9 rS x93 :: eSl w83 9 rS x75 :: eSl w67 9 rS x59 :: eVar b7 29 z00 p1 :: eVar b2 29 z00 p0 :: L) := O116
      refine W.pure (v := (.bool (!x112))) rfl rfl (z1g (a := x112) (oo rfl rfl)) ?_
      refine .nil ?_
      refine .cond (b := (!x112)) rfl rfl (fun g123 => ?_) (fun g123 => ?_)
      ·have h124 := z03 g123 h114
       refine .region ?_
       refine W.pure (v := (σ95 10)) rfl rfl (z02 (oo rfl rfl)) ?_
       refine W.pure (v := (.string x108)) rfl rfl (z02 (oo rfl rfl)) ?_
       obtain ⟨g125, h126⟩ := z2a h124
       refine W.pure (v := (.string ((⟨#[45, 32]⟩ : zAd) ++ x108))) rfl rfl (z5a g125 (oo rfl rfl) (oo rfl rfl)) ?_
       refine W.lo rfl rfl (Lo.buildSlice (r := rS) (vs := [(.string ((⟨#[45, 32]⟩ : zAd) ++ x108))]) (xs := [((⟨#[45, 32]⟩ : zAd) ++ x108)]) el22 ze9 sz9 (by kernel_rfl) rfl (qc rfl qn) rfl (.cons rfl .nil) O116) ?_
       rintro v129 H130 ⟨O127, sm128⟩
       obtain ⟨es132, e133, e134⟩ := z3a (j := 0) rfl O127
       obtain ⟨g135, h136⟩ := z2a h126
       refine W.lo rfl rfl (Lo.append (j := 1) (v := (σ95 10)) rfl rfl el22 ni22 ze9 sz9 by9 (by decide) (by decide) rfl e133 e134 g135 O127) ?_
       rintro v138 H139 ⟨O131, sm137⟩
       replace O131 : Ow G115 H139 (eSl v129 9 rS [((⟨#[45, 32]⟩ : zAd) ++ x108)] :: eSl v138 9 rS (x93 ++ [((⟨#[45, 32]⟩ : zAd) ++ x108)]) :: eSl w83 9 rS x75 :: eSl w67 9 rS x59 :: eVar b7 29 z00 p1 :: eVar b2 29 z00 p0 :: L) := O131
       refine W.pure (v := v138) rfl rfl (z01 (oo rfl rfl)) ?_
       refine .nil ?_
       have O140 : Ow G115 H139 (eSl v138 9 rS (x93 ++ [((⟨#[45, 32]⟩ : zAd) ++ x108)]) :: eSl w83 9 rS x75 :: eSl w67 9 rS x59 :: eVar b7 29 z00 p1 :: eVar b2 29 z00 p0 :: L) := O131.drop 0
       obtain rfl := zAa h136
       exact ⟨(x93 ++ [((⟨#[45, 32]⟩ : zAd) ++ x108)]), _, rfl, O140, s117⟩
      ·have h141 := z16 g123 h114
       refine .skip ?_
       obtain rfl := zAa h141
       exact ⟨x93, _, rfl, O116, s117⟩
     ·rintro σ143 H144 fr145 ⟨x142, G146, rfl, O147, s148⟩
      have h150 := z0b h107
      refine .region ?_
      refine W.pure (v := (.int .i64 (z0p .i64 (x94 + 1)))) rfl rfl (z2g (oo rfl ((fr145 31 rfl).trans t102)) (oo rfl rfl) rfl) ?_
      refine W.pure (v := (.int .i64 (z0p .i64 (x94 + 1)))) rfl rfl (z02 (oo rfl rfl)) ?_
      refine .nil ?_
      exact ⟨k92, zAg _, ⟨x142, z0p .i64 (x94 + 1), _, h150, O147, (zAe s100 s148), rfl⟩⟩
    ·have h151 := z16 g103 h101
     refine .exit ?_
     have O152 : Ow G98 H96 (eSl (σ95 10) 9 rS x93 :: eSl w83 9 rS x75 :: eSl w67 9 rS x59 :: eVar b7 29 z00 p1 :: eVar b2 29 z00 p0 :: L) := O99.front (j := 0) rfl
     have O153 : Ow G98 H96 (eVar b2 29 z00 p0 :: eSl (σ95 10) 9 rS x93 :: eSl w83 9 rS x75 :: eSl w67 9 rS x59 :: eVar b7 29 z00 p1 :: L) := O152.front (j := 4) rfl
     have O154 : Ow G98 H96 (eVar b7 29 z00 p1 :: eVar b2 29 z00 p0 :: eSl (σ95 10) 9 rS x93 :: eSl w83 9 rS x75 :: eSl w67 9 rS x59 :: L) := O153.front (j := 4) rfl
     have O155 : Ow G98 H96 (eSl w67 9 rS x59 :: eVar b7 29 z00 p1 :: eVar b2 29 z00 p0 :: eSl (σ95 10) 9 rS x93 :: eSl w83 9 rS x75 :: L) := O154.front (j := 4) rfl
     have O156 : Ow G98 H96 (eSl w83 9 rS x75 :: eSl w67 9 rS x59 :: eVar b7 29 z00 p1 :: eVar b2 29 z00 p0 :: eSl (σ95 10) 9 rS x93 :: L) := O155.front (j := 4) rfl
     obtain rfl := zAa h151
     exact ⟨x93, _, rfl, O156, s100⟩
   ·rintro σ158 H159 fr160 ⟨x157, G161, rfl, O162, s163⟩
    have h165 := z0b h90
    refine .seq ?_
    refine .seq ?_
    refine .region ?_
    refine W.pure (v := w83) rfl rfl (z02 (oo rfl ((fr160 9 rfl).trans rfl))) ?_
    refine W.pure (v := (.int .i64 (List.length x75 : Int))) rfl rfl (z25 (oo rfl rfl) (O162.slLen (j := 0) rfl) (z04 el22)) ?_
    refine W.pure (v := (.int .i64 0)) rfl rfl (z02 (oo rfl rfl)) ?_
    refine .nil ?_
    obtain ⟨q166, h167, h168⟩ := z05 h165
    refine AW.midT (fun σ' H' => ∃ (y1 : List zAd) (G' : GM), y1 = q166 /\ Ow G' H' (eSl w83 9 rS x75 :: eSl w67 9 rS x59 :: eVar b7 29 z00 p1 :: eVar b2 29 z00 p0 :: eSl (σ' 10) 9 rS y1 :: L) /\ GM.le G161 G') ?_ ?_
    ·refine .block ?_
     refine AW.loop (α := Nat) (fun k' σ' H' => ∃ (y1 : List zAd) (y2 : Int) (G' : GM), z1c K x59 x75 k' y1 y2 = some q166 /\ Ow G' H' (eSl w83 9 rS x75 :: eSl w67 9 rS x59 :: eVar b7 29 z00 p1 :: eVar b2 29 z00 p0 :: eSl (σ' 10) 9 rS y1 :: L) /\ GM.le G161 G' /\ σ' 47 = .int .i64 y2) (fun k' => k') K ⟨x157, 0, _, h167, O162, (zAf _), rfl⟩ ?_
     rintro k169
     rintro σ172 H173 fr174 ⟨x170, x171, G175, h178, O176, s177, t179⟩
     rcases k169 with _ | k169
     ·exact z09 h178
     rw [z1c] at h178
     refine .seq ?_
     refine .region ?_
     refine W.pure (v := (.bool (decide (x171 < (List.length x75 : Int))))) rfl rfl (z2g (oo rfl t179) (oo rfl ((fr174 46 rfl).trans rfl)) rfl) ?_
     refine .nil ?_
     refine .seq ?_
     refine .cond (b := decide (x171 < (List.length x75 : Int))) rfl rfl (fun g180 => ?_) (fun g180 => ?_)
     ·have h181 := z03 g180 h178
      refine .skip ?_
      refine .seq ?_
      obtain ⟨q182, h183, h184⟩ := z05 h181
      refine AW.midT (fun σ' H' => ∃ (y1 : List zAd) (G' : GM), y1 = q182 /\ Ow G' H' (eSl w83 9 rS x75 :: eSl w67 9 rS x59 :: eVar b7 29 z00 p1 :: eVar b2 29 z00 p0 :: eSl (σ' 10) 9 rS y1 :: L) /\ GM.le G175 G') ?_ ?_
      ·refine .block ?_
       refine .seq ?_
       refine .region ?_
       obtain ⟨x185, i186, h187⟩ := z05 h183
       have j188 := z1n i186
       refine W.pure (v := (z4t w83 (Int.toNat x171 * 1))) rfl rfl (z5d el22 sz9 (oo rfl ((fr174 45 rfl).trans rfl)) (oo rfl t179) (O176.slLen (j := 0) rfl) j188.1 j188.2.1) ?_
       refine W.load1 (v := (.string x185)) (r := []) rfl rfl ag9 (z0d rfl (At.str (O176.atSl (j := 0) rfl j188.2.2))) ?_
       refine W.pure (v := (.string x185)) rfl rfl (z01 (oo rfl rfl)) ?_
       refine .nil ?_
       refine .seq ?_
       refine .region ?_
       refine W.pure (v := w67) rfl rfl (z02 (oo rfl ((fr174 8 rfl).trans ((fr160 8 rfl).trans rfl)))) ?_
       refine W.pure (v := (.string x185)) rfl rfl (z02 (oo rfl rfl)) ?_
       obtain ⟨x189, i190, h191⟩ := z05 h187
       refine W.lo rfl rfl (Lo.callB (j := 1) rfl rfl (fn := Tryd.f19) (by kernel_rfl) rfl (mc rfl (mc rfl mn)) O176 (fun G' L' hG O' hB => z15 K w67 x59 hB x185 O' _ i190)) ?_
       rintro v198 H199 ⟨G192, O193, s194, sm197, rfl⟩
       replace O193 : Ow G192 H199 (eSl w83 9 rS x75 :: eSl w67 9 rS x59 :: eVar b7 29 z00 p1 :: eVar b2 29 z00 p0 :: eSl (σ172 10) 9 rS x170 :: L) := O193
       refine W.pure (v := (.bool (!x189))) rfl rfl (z1g (a := x189) (oo rfl rfl)) ?_
       refine .nil ?_
       refine .cond (b := (!x189)) rfl rfl (fun g200 => ?_) (fun g200 => ?_)
       ·have h201 := z03 g200 h191
        refine .region ?_
        refine W.pure (v := (σ172 10)) rfl rfl (z02 (oo rfl rfl)) ?_
        refine W.pure (v := (.string x185)) rfl rfl (z02 (oo rfl rfl)) ?_
        obtain ⟨g202, h203⟩ := z2a h201
        refine W.pure (v := (.string ((⟨#[43, 32]⟩ : zAd) ++ x185))) rfl rfl (z5a g202 (oo rfl rfl) (oo rfl rfl)) ?_
        refine W.lo rfl rfl (Lo.buildSlice (r := rS) (vs := [(.string ((⟨#[43, 32]⟩ : zAd) ++ x185))]) (xs := [((⟨#[43, 32]⟩ : zAd) ++ x185)]) el22 ze9 sz9 (by kernel_rfl) rfl (qc rfl qn) rfl (.cons rfl .nil) O193) ?_
        rintro v206 H207 ⟨O204, sm205⟩
        obtain ⟨es209, e210, e211⟩ := z3a (j := 0) rfl O204
        obtain ⟨g212, h213⟩ := z2a h203
        refine W.lo rfl rfl (Lo.append (j := 5) (v := (σ172 10)) rfl rfl el22 ni22 ze9 sz9 by9 (by decide) (by decide) rfl e210 e211 g212 O204) ?_
        rintro v215 H216 ⟨O208, sm214⟩
        replace O208 : Ow G192 H216 (eSl v206 9 rS [((⟨#[43, 32]⟩ : zAd) ++ x185)] :: eSl w83 9 rS x75 :: eSl w67 9 rS x59 :: eVar b7 29 z00 p1 :: eVar b2 29 z00 p0 :: eSl v215 9 rS (x170 ++ [((⟨#[43, 32]⟩ : zAd) ++ x185)]) :: L) := O208
        refine W.pure (v := v215) rfl rfl (z01 (oo rfl rfl)) ?_
        refine .nil ?_
        have O217 : Ow G192 H216 (eSl w83 9 rS x75 :: eSl w67 9 rS x59 :: eVar b7 29 z00 p1 :: eVar b2 29 z00 p0 :: eSl v215 9 rS (x170 ++ [((⟨#[43, 32]⟩ : zAd) ++ x185)]) :: L) := O208.drop 0
        obtain rfl := zAa h213
        exact ⟨(x170 ++ [((⟨#[43, 32]⟩ : zAd) ++ x185)]), _, rfl, O217, s194⟩
       ·have h218 := z16 g200 h191
        refine .skip ?_
        obtain rfl := zAa h218
        exact ⟨x170, _, rfl, O193, s194⟩
      ·rintro σ220 H221 fr222 ⟨x219, G223, rfl, O224, s225⟩
       have h227 := z0b h184
       refine .region ?_
       refine W.pure (v := (.int .i64 (z0p .i64 (x171 + 1)))) rfl rfl (z2g (oo rfl ((fr222 47 rfl).trans t179)) (oo rfl rfl) rfl) ?_
       refine W.pure (v := (.int .i64 (z0p .i64 (x171 + 1)))) rfl rfl (z02 (oo rfl rfl)) ?_
       refine .nil ?_
       exact ⟨k169, zAg _, ⟨x219, z0p .i64 (x171 + 1), _, h227, O224, (zAe s177 s225), rfl⟩⟩
     ·have h228 := z16 g180 h178
      refine .exit ?_
      obtain rfl := zAa h228
      exact ⟨x170, _, rfl, O176, s177⟩
    ·rintro σ230 H231 fr232 ⟨x229, G233, rfl, O234, s235⟩
     have h237 := z0b h168
     refine .seq ?_
     refine .region ?_
     refine W.pure (v := (σ230 10)) rfl rfl (z02 (oo rfl rfl)) ?_
     refine W.pure (v := (σ230 10)) rfl rfl (z01 (oo rfl rfl)) ?_
     refine W.pure (v := (.int .i64 0)) rfl rfl (z01 (oo rfl rfl)) ?_
     refine .nil ?_
     refine .ret ?_
     have O238 : Ow G233 H231 (eSl w67 9 rS x59 :: eVar b7 29 z00 p1 :: eVar b2 29 z00 p0 :: eSl (σ230 10) 9 rS x229 :: L) := O234.drop 0
     have O239 : Ow G233 H231 (eVar b7 29 z00 p1 :: eVar b2 29 z00 p0 :: eSl (σ230 10) 9 rS x229 :: L) := O238.drop 0
     have O240 : Ow G233 H231 (eVar b2 29 z00 p0 :: eSl (σ230 10) 9 rS x229 :: L) := O239.drop 0
     have O241 : Ow G233 H231 (eSl (σ230 10) 9 rS x229 :: L) := O240.drop 0
     obtain rfl := zAa h237
     exact zh0 kr (σ230 10) (v1 := (σ230 10)) (v2 := (.int .i64 0)) (by rfl) (z2i (by rfl) (by exact rfl)) (z2i (by rfl) (by exact rfl)) O241 (zAe s19 (zAe s39 (zAe s64 (zAe s80 (zAe s163 s235))))) rfl
def z3e (K : Nat) (p0 : zAd) : Nat -> Int -> Option (Bool ⊕ Unit)
 | 0, _ => none
 | k + 1, x39 => (if (decide (x39 < (p0.size : Int))) = true then ((bidx p0 x39).bind fun x50 => (Option.bind ((if (decide (x50 < 65)) = true then (if (decide (x50 < 48)) = true then some true else some (decide (x50 > 57))) else (if (decide (x50 > 90)) = true then (if (decide (x50 < 48)) = true then some true else some (decide (x50 > 57))) else some false))) (tu1 fun x72 => (if x72 = true then some (.inl false) else z3e K p0 k (z0p .i64 (x39 + 1)))))) else some (.inr ()))
def z64 (K : Nat) (p0 : zAd) : Option Bool := (Option.bind ((if ((p0.size : Int) == 0) = true then some true else (if (decide ((p0.size : Int) > 8)) = true then some true else ((bidx p0 0).bind fun x12 => (if (decide (x12 < 65)) = true then some true else ((bidx p0 0).bind fun x19 => some (decide (x19 > 90)))))))) (tu1 fun x22 => (if x22 = true then some false else (z5s (z3e K p0 K 0) (tu1 fun a95 => some a95) (tu0 (some true))))))
theorem zah (p0 : zAd) (O : Ow G H (L)) (r : Bool) (h : z64 K p0 = some r) :
  CR Tryd.prog 21 [(.string p0)] G H (L) (fun v G' _ => v = .bool r) := by
 unfold z64 at h
 refine CR.og (n := 46) (fn := Tryd.f21) (by kernel_rfl) rfl rfl fun R kr => ?_
 refine .seq ?_
 refine .region ?_
 refine W.pure (v := (.bool false)) rfl rfl (z01 (oo rfl rfl)) ?_
 refine .nil ?_
 refine .seq ?_
 refine .seq ?_
 obtain ⟨q1, h2, h3⟩ := z05 h
 refine AW.midT (fun σ' H' => ∃ (y1 : Bool) (G' : GM), y1 = q1 /\ Ow G' H' (L) /\ GM.le G G' /\ σ' 22 = .bool y1) ?_ ?_
 ·refine .region ?_
  refine W.pure (v := (.string p0)) rfl rfl (z02 (oo rfl rfl)) ?_
  refine W.pure (v := (.int .i64 (p0.size : Int))) rfl rfl (z91 (oo rfl rfl) un9) ?_
  refine W.pure (v := (.bool ((p0.size : Int) == 0))) rfl rfl (z2g (oo rfl rfl) (oo rfl rfl) rfl) ?_
  refine W.pure (v := (.bool ((p0.size : Int) == 0))) rfl rfl (z02 (oo rfl rfl)) ?_
  refine W.splitAt (t := 8) (b := ((p0.size : Int) == 0)) rfl (fun g4 gv5 => ?_) (fun g4 gv5 => ?_)
  ·have h6 := z03 g4 h2
   refine W.skip (gk rfl rfl gv5 rfl) rfl ?_
   refine W.skip (gk rfl rfl gv5 rfl) rfl ?_
   refine W.skip (gk rfl rfl gv5 rfl) rfl ?_
   refine W.pure (v := (.bool true)) rfl rfl (z0u (oo rfl gv5) (oo rfl rfl)) ?_
   refine W.pure (v := (.bool true)) rfl rfl (z02 (oo rfl rfl)) ?_
   refine W.skip (gk rfl rfl rfl rfl) rfl ?_
   refine W.skip (gk rfl rfl rfl rfl) rfl ?_
   refine W.skip (gk rfl rfl rfl rfl) rfl ?_
   refine W.pure (v := (.bool true)) rfl rfl (z0u (oo rfl rfl) (oo rfl rfl)) ?_
   refine W.pure (v := (.bool true)) rfl rfl (z02 (oo rfl rfl)) ?_
   refine W.skip (gk rfl rfl rfl rfl) rfl ?_
   refine W.skip (gk rfl rfl rfl rfl) rfl ?_
   refine W.skip (gk rfl rfl rfl rfl) rfl ?_
   refine W.pure (v := (.bool true)) rfl rfl (z0u (oo rfl rfl) (oo rfl rfl)) ?_
   refine .nil ?_
   obtain rfl := zAa h6
   exact ⟨true, _, rfl, O, (zAf _), rfl⟩
  ·have h7 := z16 g4 h2
   refine W.pure (v := (.string p0)) (gk rfl rfl gv5 rfl) rfl (z02 (oo rfl rfl)) ?_
   refine W.pure (v := (.int .i64 (p0.size : Int))) (gk rfl rfl gv5 rfl) rfl (z91 (oo rfl rfl) un9) ?_
   refine W.pure (v := (.bool (decide ((p0.size : Int) > 8)))) (gk rfl rfl gv5 rfl) rfl (z2g (oo rfl rfl) (oo rfl rfl) rfl) ?_
   refine W.pure (v := (.bool (decide ((p0.size : Int) > 8)))) rfl rfl (z1h (oo rfl gv5) (oo rfl rfl)) ?_
   refine W.pure (v := (.bool (decide ((p0.size : Int) > 8)))) rfl rfl (z02 (oo rfl rfl)) ?_
   refine W.splitAt (t := 13) (b := decide ((p0.size : Int) > 8)) rfl (fun g8 gv9 => ?_) (fun g8 gv9 => ?_)
   ·have h10 := z03 g8 h7
    refine W.skip (gk rfl rfl gv9 rfl) rfl ?_
    refine W.skip (gk rfl rfl gv9 rfl) rfl ?_
    refine W.skip (gk rfl rfl gv9 rfl) rfl ?_
    refine W.pure (v := (.bool true)) rfl rfl (z0u (oo rfl gv9) (oo rfl rfl)) ?_
    refine W.pure (v := (.bool true)) rfl rfl (z02 (oo rfl rfl)) ?_
    refine W.skip (gk rfl rfl rfl rfl) rfl ?_
    refine W.skip (gk rfl rfl rfl rfl) rfl ?_
    refine W.skip (gk rfl rfl rfl rfl) rfl ?_
    refine W.pure (v := (.bool true)) rfl rfl (z0u (oo rfl rfl) (oo rfl rfl)) ?_
    refine .nil ?_
    obtain rfl := zAa h10
    exact ⟨true, _, rfl, O, (zAf _), rfl⟩
   ·have h11 := z16 g8 h7
    refine W.pure (v := (.string p0)) (gk rfl rfl gv9 rfl) rfl (z02 (oo rfl rfl)) ?_
    obtain ⟨x12, i13, h14⟩ := z05 h11
    refine W.pure (v := (.int .u8 x12)) (gk rfl rfl gv9 rfl) rfl (zgu un9 (oo rfl rfl) (oo rfl rfl) i13) ?_
    refine W.pure (v := (.bool (decide (x12 < 65)))) (gk rfl rfl gv9 rfl) rfl (z2g (oo rfl rfl) (oo rfl rfl) rfl) ?_
    refine W.pure (v := (.bool (decide (x12 < 65)))) rfl rfl (z1h (oo rfl gv9) (oo rfl rfl)) ?_
    refine W.pure (v := (.bool (decide (x12 < 65)))) rfl rfl (z02 (oo rfl rfl)) ?_
    refine W.splitAt (t := 18) (b := decide (x12 < 65)) rfl (fun g15 gv16 => ?_) (fun g15 gv16 => ?_)
    ·have h17 := z03 g15 h14
     refine W.skip (gk rfl rfl gv16 rfl) rfl ?_
     refine W.skip (gk rfl rfl gv16 rfl) rfl ?_
     refine W.skip (gk rfl rfl gv16 rfl) rfl ?_
     refine W.pure (v := (.bool true)) rfl rfl (z0u (oo rfl gv16) (oo rfl rfl)) ?_
     refine .nil ?_
     obtain rfl := zAa h17
     exact ⟨true, _, rfl, O, (zAf _), rfl⟩
    ·have h18 := z16 g15 h14
     refine W.pure (v := (.string p0)) (gk rfl rfl gv16 rfl) rfl (z02 (oo rfl rfl)) ?_
     obtain ⟨x19, i20, h21⟩ := z05 h18
     refine W.pure (v := (.int .u8 x19)) (gk rfl rfl gv16 rfl) rfl (zgu un9 (oo rfl rfl) (oo rfl rfl) i20) ?_
     refine W.pure (v := (.bool (decide (x19 > 90)))) (gk rfl rfl gv16 rfl) rfl (z2g (oo rfl rfl) (oo rfl rfl) rfl) ?_
     refine W.pure (v := (.bool (decide (x19 > 90)))) rfl rfl (z1h (oo rfl gv16) (oo rfl rfl)) ?_
     refine .nil ?_
     obtain rfl := zAa h21
     exact ⟨decide (x19 > 90), _, rfl, O, (zAf _), rfl⟩
 ·rintro σ23 H24 fr25 ⟨x22, G26, rfl, O27, s28, t30⟩
  have h31 := z0b h3
  refine .cond (b := x22) rfl t30 (fun g32 => ?_) (fun g32 => ?_)
  ·have h33 := z03 g32 h31
   refine .seq ?_
   refine .region ?_
   refine W.pure (v := (.bool false)) rfl rfl (z01 (oo rfl rfl)) ?_
   refine .nil ?_
   refine .ret ?_
   obtain rfl := zAa h33
   exact z4i kr (v1 := (.bool false)) (by rfl) (z2i (by rfl) (by exact rfl)) O27 s28 rfl
  ·have h34 := z16 g32 h31
   refine .skip ?_
   refine .seq ?_
   refine .seq ?_
   refine .region ?_
   refine W.pure (v := (.string p0)) rfl rfl (z02 (oo rfl ((fr25 0 rfl).trans rfl))) ?_
   refine W.pure (v := (.int .i64 (p0.size : Int))) rfl rfl (z91 (oo rfl rfl) un9) ?_
   refine W.pure (v := (.int .i64 0)) rfl rfl (z02 (oo rfl rfl)) ?_
   refine .nil ?_
   obtain ⟨q35, h36, h37⟩ := z2t h34
   refine AW.midT (fun σ' H' => ∃  (G' : GM), (.inr ()) = q35 /\ Ow G' H' (L) /\ GM.le G26 G') ?_ ?_
   ·refine .block ?_
    refine AW.loop (α := Nat) (fun k' σ' H' => ∃ (y1 : Int) (G' : GM), z3e K p0 k' y1 = some q35 /\ Ow G' H' (L) /\ GM.le G26 G' /\ σ' 25 = .int .i64 y1) (fun k' => k') K ⟨0, _, h36, O27, (zAf _), rfl⟩ ?_
    rintro k38
    rintro σ40 H41 fr42 ⟨x39, G43, h46, O44, s45, t47⟩
    rcases k38 with _ | k38
    ·exact z09 h46
    rw [z3e] at h46
    refine .seq ?_
    refine .region ?_
    refine W.pure (v := (.bool (decide (x39 < (p0.size : Int))))) rfl rfl (z2g (oo rfl t47) (oo rfl ((fr42 24 rfl).trans rfl)) rfl) ?_
    refine .nil ?_
    refine .seq ?_
    refine .cond (b := decide (x39 < (p0.size : Int))) rfl rfl (fun g48 => ?_) (fun g48 => ?_)
    ·have h49 := z03 g48 h46
     refine .skip ?_
     refine .seq ?_
     refine .block ?_
     refine .seq ?_
     refine .region ?_
     refine W.pure (v := (.int .i64 x39)) rfl rfl (z02 (oo rfl t47)) ?_
     refine W.pure (v := (.int .i64 x39)) rfl rfl (z01 (oo rfl rfl)) ?_
     refine .nil ?_
     refine .seq ?_
     refine .region ?_
     refine W.pure (v := (.string p0)) rfl rfl (z02 (oo rfl ((fr42 0 rfl).trans ((fr25 0 rfl).trans rfl)))) ?_
     refine W.pure (v := (.int .i64 x39)) rfl rfl (z02 (oo rfl rfl)) ?_
     obtain ⟨x50, i51, h52⟩ := z05 h49
     refine W.pure (v := (.int .u8 x50)) rfl rfl (zgu un9 (oo rfl rfl) (oo rfl rfl) i51) ?_
     refine W.pure (v := (.int .u8 x50)) rfl rfl (z01 (oo rfl rfl)) ?_
     refine .nil ?_
     refine .seq ?_
     obtain ⟨q53, h54, h55⟩ := z05 h52
     refine AW.midT (fun σ' H' => ∃ (y1 : Bool) (G' : GM), y1 = q53 /\ Ow G' H' (L) /\ GM.le G43 G' /\ σ' 44 = .bool y1) ?_ ?_
     ·refine .region ?_
      refine W.pure (v := (.int .u8 x50)) rfl rfl (z02 (oo rfl rfl)) ?_
      refine W.pure (v := (.bool (decide (x50 < 65)))) rfl rfl (z2g (oo rfl rfl) (oo rfl rfl) rfl) ?_
      refine W.pure (v := (.bool (decide (x50 < 65)))) rfl rfl (z02 (oo rfl rfl)) ?_
      refine W.splitAt (t := 33) (b := decide (x50 < 65)) rfl (fun g56 gv57 => ?_) (fun g56 gv57 => ?_)
      ·have h58 := z03 g56 h54
       refine W.skip (gk rfl rfl gv57 rfl) rfl ?_
       refine W.skip (gk rfl rfl gv57 rfl) rfl ?_
       refine W.pure (v := (.bool true)) rfl rfl (z0u (oo rfl gv57) (oo rfl rfl)) ?_
       refine W.pure (v := (.bool true)) rfl rfl (z02 (oo rfl rfl)) ?_
       refine W.pure (v := (.int .u8 x50)) (gk rfl rfl rfl rfl) rfl (z02 (oo rfl rfl)) ?_
       refine W.pure (v := (.bool (decide (x50 < 48)))) (gk rfl rfl rfl rfl) rfl (z2g (oo rfl rfl) (oo rfl rfl) rfl) ?_
       refine W.pure (v := (.bool (decide (x50 < 48)))) (gk rfl rfl rfl rfl) rfl (z02 (oo rfl rfl)) ?_
       refine W.splitAt (t := 40) (b := decide (x50 < 48)) rfl (fun g59 gv60 => ?_) (fun g59 gv60 => ?_)
       ·have h61 := z03 g59 h58
        refine W.skip (gk rfl rfl gv60 rfl) rfl ?_
        refine W.skip (gk rfl rfl gv60 rfl) rfl ?_
        refine W.pure (v := (.bool true)) (gk rfl rfl rfl rfl) rfl (z0u (oo rfl gv60) (oo rfl rfl)) ?_
        refine W.pure (v := (.bool true)) rfl rfl (z0u (oo rfl rfl) (oo rfl rfl)) ?_
        refine .nil ?_
        obtain rfl := zAa h61
        exact ⟨true, _, rfl, O44, (zAf _), rfl⟩
       ·have h62 := z16 g59 h58
        refine W.pure (v := (.int .u8 x50)) (gk rfl rfl gv60 rfl) rfl (z02 (oo rfl rfl)) ?_
        refine W.pure (v := (.bool (decide (x50 > 57)))) (gk rfl rfl gv60 rfl) rfl (z2g (oo rfl rfl) (oo rfl rfl) rfl) ?_
        refine W.pure (v := (.bool (decide (x50 > 57)))) (gk rfl rfl rfl rfl) rfl (z1h (oo rfl gv60) (oo rfl rfl)) ?_
        refine W.pure (v := (.bool (decide (x50 > 57)))) rfl rfl (z0u (oo rfl rfl) (oo rfl rfl)) ?_
        refine .nil ?_
        obtain rfl := zAa h62
        exact ⟨decide (x50 > 57), _, rfl, O44, (zAf _), rfl⟩
      ·have h63 := z16 g56 h54
       refine W.pure (v := (.int .u8 x50)) (gk rfl rfl gv57 rfl) rfl (z02 (oo rfl rfl)) ?_
       refine W.pure (v := (.bool (decide (x50 > 90)))) (gk rfl rfl gv57 rfl) rfl (z2g (oo rfl rfl) (oo rfl rfl) rfl) ?_
       refine W.pure (v := (.bool (decide (x50 > 90)))) rfl rfl (z1h (oo rfl gv57) (oo rfl rfl)) ?_
       refine W.pure (v := (.bool (decide (x50 > 90)))) rfl rfl (z02 (oo rfl rfl)) ?_
       refine W.splitAt (t := 37) (b := decide (x50 > 90)) rfl (fun g64 gv65 => ?_) (fun g64 gv65 => ?_)
       ·have h66 := z03 g64 h63
        refine W.pure (v := (.int .u8 x50)) (gk rfl rfl gv65 rfl) rfl (z02 (oo rfl rfl)) ?_
        refine W.pure (v := (.bool (decide (x50 < 48)))) (gk rfl rfl gv65 rfl) rfl (z2g (oo rfl rfl) (oo rfl rfl) rfl) ?_
        refine W.pure (v := (.bool (decide (x50 < 48)))) (gk rfl rfl gv65 rfl) rfl (z02 (oo rfl rfl)) ?_
        refine W.splitAt (t := 40) (b := decide (x50 < 48)) rfl (fun g67 gv68 => ?_) (fun g67 gv68 => ?_)
        ·have h69 := z03 g67 h66
         refine W.skip (gk rfl rfl gv68 rfl) rfl ?_
         refine W.skip (gk rfl rfl gv68 rfl) rfl ?_
         refine W.pure (v := (.bool true)) (gk rfl rfl gv65 rfl) rfl (z0u (oo rfl gv68) (oo rfl rfl)) ?_
         refine W.pure (v := (.bool true)) rfl rfl (z0u (oo rfl gv65) (oo rfl rfl)) ?_
         refine .nil ?_
         obtain rfl := zAa h69
         exact ⟨true, _, rfl, O44, (zAf _), rfl⟩
        ·have h70 := z16 g67 h66
         refine W.pure (v := (.int .u8 x50)) (gk rfl rfl gv68 rfl) rfl (z02 (oo rfl rfl)) ?_
         refine W.pure (v := (.bool (decide (x50 > 57)))) (gk rfl rfl gv68 rfl) rfl (z2g (oo rfl rfl) (oo rfl rfl) rfl) ?_
         refine W.pure (v := (.bool (decide (x50 > 57)))) (gk rfl rfl gv65 rfl) rfl (z1h (oo rfl gv68) (oo rfl rfl)) ?_
         refine W.pure (v := (.bool (decide (x50 > 57)))) rfl rfl (z0u (oo rfl gv65) (oo rfl rfl)) ?_
         refine .nil ?_
         obtain rfl := zAa h70
         exact ⟨decide (x50 > 57), _, rfl, O44, (zAf _), rfl⟩
       ·have h71 := z16 g64 h63
        refine W.skip (gk rfl rfl gv65 rfl) rfl ?_
        refine W.skip (gk rfl rfl gv65 rfl) rfl ?_
        refine W.skip (gk rfl rfl gv65 rfl) rfl ?_
        refine W.skipU rfl rfl rfl rfl ?_
        refine W.skipU rfl rfl rfl rfl ?_
        refine W.skip (gk rfl rfl gv65 rfl) rfl ?_
        refine W.pure (v := (.bool false)) rfl rfl (z1h (oo rfl gv65) (oo rfl rfl)) ?_
        refine .nil ?_
        obtain rfl := zAa h71
        exact ⟨false, _, rfl, O44, (zAf _), rfl⟩
     ·rintro σ73 H74 fr75 ⟨x72, G76, rfl, O77, s78, t80⟩
      have h81 := z0b h55
      refine .cond (b := x72) rfl t80 (fun g82 => ?_) (fun g82 => ?_)
      ·have h83 := z03 g82 h81
       refine .seq ?_
       refine .region ?_
       refine W.pure (v := (.bool false)) rfl rfl (z01 (oo rfl rfl)) ?_
       refine .nil ?_
       refine .ret ?_
       obtain rfl := zAa h83
       have h84 := z0b (z4e h37)
       obtain rfl := zAa h84
       exact z4i kr (v1 := (.bool false)) (by rfl) (z2i (by rfl) (by exact rfl)) O77 (zAe s28 (zAe s45 s78)) rfl
      ·have h85 := z16 g82 h81
       refine .skip ?_
       refine .region ?_
       refine W.pure (v := (.int .i64 (z0p .i64 (x39 + 1)))) rfl rfl (z2g (oo rfl ((fr75 25 rfl).trans t47)) (oo rfl rfl) rfl) ?_
       refine W.pure (v := (.int .i64 (z0p .i64 (x39 + 1)))) rfl rfl (z02 (oo rfl rfl)) ?_
       refine .nil ?_
       exact ⟨k38, zAg _, ⟨z0p .i64 (x39 + 1), _, h85, O77, (zAe s45 s78), rfl⟩⟩
    ·have h86 := z16 g48 h46
     refine .exit ?_
     obtain rfl := zAa h86
     exact ⟨_, rfl, O44, s45⟩
   ·rintro σ87 H88 fr89 ⟨G90, rfl, O91, s92⟩
    have h94 := z7v (z6h h37)
    refine .seq ?_
    refine .region ?_
    refine W.pure (v := (.bool true)) rfl rfl (z01 (oo rfl rfl)) ?_
    refine .nil ?_
    refine .ret ?_
    obtain rfl := zAa h94
    exact z4i kr (v1 := (.bool true)) (by rfl) (z2i (by rfl) (by exact rfl)) O91 (zAe s28 s92) rfl
def z3u (K : Nat) (p0 : List zAd) (p1 : zAd) : Nat -> Int -> Option (Int ⊕ Unit)
 | 0, _ => none
 | k + 1, x5 => (if (decide (x5 < (List.length p0 : Int))) = true then ((idx p0 x5).bind fun x16 => (if (sEq x16 p1) = true then some (.inl x5) else z3u K p0 p1 k (z0p .i64 (x5 + 1)))) else some (.inr ()))
def z88 (K : Nat) (p0 : List zAd) (p1 : zAd) : Option Int := (z5s (z3u K p0 p1 K 0) (tu1 fun a33 => some a33) (tu0 (some (-1))))
theorem zay (v0 : Value) (p0 : List zAd) (hp0 : (rSl rS).rep G [v0] p0) (p1 : zAd) (O : Ow G H (L)) (r : Int) (h : z88 K p0 p1 = some r) :
  CR Tryd.prog 25 [v0, (.string p1)] G H (L) (fun v G' _ => v = .int .i64 r) := by
 unfold z88 at h
 refine CR.og (n := 19) (fn := Tryd.f25) (by kernel_rfl) rfl rfl fun R kr => ?_
 refine .seq ?_
 refine .region ?_
 refine W.pure (v := (.int .i64 0)) rfl rfl (z01 (oo rfl rfl)) ?_
 refine .nil ?_
 refine .seq ?_
 refine .seq ?_
 refine .region ?_
 refine W.pure (v := v0) rfl rfl (z02 (oo rfl rfl)) ?_
 refine W.pure (v := (.int .i64 (List.length p0 : Int))) rfl rfl (z25 (oo rfl rfl) (z0x hp0) (z04 el22)) ?_
 refine W.pure (v := (.int .i64 0)) rfl rfl (z02 (oo rfl rfl)) ?_
 refine .nil ?_
 obtain ⟨q1, h2, h3⟩ := z2t h
 refine AW.midT (fun σ' H' => ∃  (G' : GM), (.inr ()) = q1 /\ Ow G' H' (L) /\ GM.le G G') ?_ ?_
 ·refine .block ?_
  refine AW.loop (α := Nat) (fun k' σ' H' => ∃ (y1 : Int) (G' : GM), z3u K p0 p1 k' y1 = some q1 /\ Ow G' H' (L) /\ GM.le G G' /\ σ' 9 = .int .i64 y1) (fun k' => k') K ⟨0, _, h2, O, (zAf _), rfl⟩ ?_
  rintro k4
  rintro σ6 H7 fr8 ⟨x5, G9, h12, O10, s11, t13⟩
  rcases k4 with _ | k4
  ·exact z09 h12
  rw [z3u] at h12
  refine .seq ?_
  refine .region ?_
  refine W.pure (v := (.bool (decide (x5 < (List.length p0 : Int))))) rfl rfl (z2g (oo rfl t13) (oo rfl ((fr8 8 rfl).trans rfl)) rfl) ?_
  refine .nil ?_
  refine .seq ?_
  refine .cond (b := decide (x5 < (List.length p0 : Int))) rfl rfl (fun g14 => ?_) (fun g14 => ?_)
  ·have h15 := z03 g14 h12
   refine .skip ?_
   refine .seq ?_
   refine .block ?_
   refine .seq ?_
   refine .region ?_
   refine W.pure (v := (.int .i64 x5)) rfl rfl (z02 (oo rfl t13)) ?_
   obtain ⟨x16, i17, h18⟩ := z05 h15
   have j19 := z1n i17
   refine W.pure (v := (z4t v0 (Int.toNat x5 * 1))) rfl rfl (z5d el22 sz9 (oo rfl ((fr8 7 rfl).trans rfl)) (oo rfl t13) (z0x (RT.mono _ s11 hp0)) j19.1 j19.2.1) ?_
   refine W.load1 (v := (.string x16)) (r := []) rfl rfl ag9 (z0d rfl (At.str (At.le (At.le (z3c hp0 j19.2.2) s11 s11) (zAf _) O10.fro))) ?_
   refine W.pure (v := (.int .i64 x5)) rfl rfl (z01 (oo rfl rfl)) ?_
   refine W.pure (v := (.string x16)) rfl rfl (z01 (oo rfl rfl)) ?_
   refine .nil ?_
   refine .seq ?_
   refine .region ?_
   refine W.pure (v := (.string x16)) rfl rfl (z02 (oo rfl rfl)) ?_
   refine W.pure (v := (.string p1)) rfl rfl (z02 (oo rfl ((fr8 1 rfl).trans rfl))) ?_
   refine W.pure (v := (.bool (sEq x16 p1))) rfl rfl (zc2 (oo rfl rfl) (oo rfl rfl)) ?_
   refine .nil ?_
   refine .cond (b := sEq x16 p1) rfl rfl (fun g20 => ?_) (fun g20 => ?_)
   ·have h21 := z03 g20 h18
    refine .seq ?_
    refine .region ?_
    refine W.pure (v := (.int .i64 x5)) rfl rfl (z02 (oo rfl rfl)) ?_
    refine W.pure (v := (.int .i64 x5)) rfl rfl (z01 (oo rfl rfl)) ?_
    refine .nil ?_
    refine .ret ?_
    obtain rfl := zAa h21
    have h22 := z0b (z4e h3)
    obtain rfl := zAa h22
    exact z4i kr (v1 := (.int .i64 x5)) (by rfl) (z2i (by rfl) (by exact rfl)) O10 s11 rfl
   ·have h23 := z16 g20 h18
    refine .skip ?_
    refine .region ?_
    refine W.pure (v := (.int .i64 (z0p .i64 (x5 + 1)))) rfl rfl (z2g (oo rfl t13) (oo rfl rfl) rfl) ?_
    refine W.pure (v := (.int .i64 (z0p .i64 (x5 + 1)))) rfl rfl (z02 (oo rfl rfl)) ?_
    refine .nil ?_
    exact ⟨k4, zAg _, ⟨z0p .i64 (x5 + 1), _, h23, O10, s11, rfl⟩⟩
  ·have h24 := z16 g14 h12
   refine .exit ?_
   obtain rfl := zAa h24
   exact ⟨_, rfl, O10, s11⟩
 ·rintro σ25 H26 fr27 ⟨G28, rfl, O29, s30⟩
  have h32 := z7v (z6h h3)
  refine .seq ?_
  refine .region ?_
  refine W.pure (v := (.int .i64 (-1))) rfl rfl (z01 (oo rfl rfl)) ?_
  refine .nil ?_
  refine .ret ?_
  obtain rfl := zAa h32
  exact z4i kr (v1 := (.int .i64 (-1))) (by rfl) (z2i (by rfl) (by exact rfl)) O29 s30 rfl
def z7y (K : Nat) (p0 : List zAd) (p1 : zAd) : Option Bool := ((z88 K p0 p1).bind fun x1 => some (decide (x1 >= 0)))
theorem z7f (v0 : Value) (p0 : List zAd) (hp0 : (rSl rS).rep G [v0] p0) (p1 : zAd) (O : Ow G H (L)) (r : Bool) (h : z7y K p0 p1 = some r) :
  CR Tryd.prog 9 [v0, (.string p1)] G H (L) (fun v G' _ => v = .bool r) := by
 unfold z7y at h
 refine CR.og (n := 9) (fn := Tryd.f9) (by kernel_rfl) rfl rfl fun R kr => ?_
 refine .seq ?_
 refine .region ?_
 refine W.pure (v := (.bool false)) rfl rfl (z01 (oo rfl rfl)) ?_
 refine .nil ?_
 refine .seq ?_
 refine .region ?_
 refine W.pure (v := v0) rfl rfl (z02 (oo rfl rfl)) ?_
 refine W.pure (v := (.string p1)) rfl rfl (z02 (oo rfl rfl)) ?_
 obtain ⟨x1, i2, h3⟩ := z05 h
 refine W.lo rfl rfl (Lo.callP (ps := []) (ps' := []) rfl (fn := Tryd.f25) (by kernel_rfl) rfl (mc rfl (mc rfl mn)) O (fun L' O' => zay K v0 p0 hp0 p1 O' _ i2)) ?_
 rintro v10 H11 ⟨G4, O5, s6, sm9, rfl⟩
 replace O5 : Ow G4 H11 (L) := O5
 refine W.pure (v := (.bool (decide (x1 >= 0)))) rfl rfl (z2g (oo rfl rfl) (oo rfl rfl) rfl) ?_
 refine W.pure (v := (.bool (decide (x1 >= 0)))) rfl rfl (z01 (oo rfl rfl)) ?_
 refine .nil ?_
 refine .ret ?_
 obtain rfl := zAa h3
 exact z4i kr (v1 := (.bool (decide (x1 >= 0)))) (by rfl) (z2i (by rfl) (by exact rfl)) O5 s6 rfl
def z3i (K : Nat) (p0 : zAd) (p1 : List zAd) : Option (Int × List zAd) := ((z64 K p0).bind fun x3 => (if (!x3) = true then some (5, p1) else ((z7y K p1 p0).bind fun x17 => (if x17 = true then some (7, p1) else (if List.length p1 + List.length [p0] <= 16777216 then some (0, (p1 ++ [p0])) else none)))))
theorem z5p (p0 : zAd) (b1 : Nat) (v1 : Value) (p1 : List zAd) (O : Ow G H (eVar b1 22 rV v1 :: eSl v1 9 rS p1 :: L)) (r : Int × List zAd) (h : z3i K p0 p1 = some r) :
  CRF Tryd.prog 20 [(.string p0), .pointer (some ⟨b1, 0, none⟩)] G H (fun wl => (eVar b1 22 rV wl :: eSl wl 9 rS r.2 :: L)) (fun wl v G' => v = .int .i64 r.1) := by
 unfold z3i at h
 refine CRF.og (n := 14) (fn := Tryd.f20) (by kernel_rfl) rfl rfl fun R kr => ?_
 refine .seq ?_
 refine .region ?_
 refine W.pure (v := (.int .i64 0)) rfl rfl (z01 (oo rfl rfl)) ?_
 refine .nil ?_
 refine .seq ?_
 refine .seq ?_
 refine .region ?_
 refine W.pure (v := (.string p0)) rfl rfl (z02 (oo rfl rfl)) ?_
 obtain ⟨x3, i4, h5⟩ := z05 h
 refine W.lo rfl rfl (Lo.callP (ps := []) (ps' := []) rfl (fn := Tryd.f21) (by kernel_rfl) rfl (mc rfl mn) O (fun L' O' => zah K p0 O' _ i4)) ?_
 rintro v12 H13 ⟨G6, O7, s8, sm11, rfl⟩
 replace O7 : Ow G6 H13 (eVar b1 22 rV v1 :: eSl v1 9 rS p1 :: L) := O7
 refine W.pure (v := (.bool (!x3))) rfl rfl (z1g (a := x3) (oo rfl rfl)) ?_
 refine .nil ?_
 refine .cond (b := (!x3)) rfl rfl (fun g14 => ?_) (fun g14 => ?_)
 ·have h15 := z03 g14 h5
  refine .seq ?_
  refine .region ?_
  refine W.pure (v := (.int .i64 5)) rfl rfl (z01 (oo rfl rfl)) ?_
  refine .nil ?_
  refine .ret ?_
  obtain rfl := zAa h15
  exact z5q kr v1 (v1 := (.int .i64 5)) (by rfl) (z2i (by rfl) (by exact rfl)) O7 s8 rfl
 ·have h16 := z16 g14 h5
  refine .skip ?_
  refine .seq ?_
  refine .seq ?_
  refine .region ?_
  refine W.load1 (v := v1) (r := []) rfl rfl ag22 (z0d rfl (At.raw (O7.atVar (j := 0) rfl))) ?_
  refine W.pure (v := (.string p0)) rfl rfl (z02 (oo rfl rfl)) ?_
  obtain ⟨x17, i18, h19⟩ := z05 h16
  refine W.lo rfl rfl (Lo.callB (j := 1) rfl rfl (fn := Tryd.f9) (by kernel_rfl) rfl (mc rfl (mc rfl mn)) O7 (fun G' L' hG O' hB => z7f K v1 p1 hB p0 O' _ i18)) ?_
  rintro v26 H27 ⟨G20, O21, s22, sm25, rfl⟩
  replace O21 : Ow G20 H27 (eVar b1 22 rV v1 :: eSl v1 9 rS p1 :: L) := O21
  refine .nil ?_
  refine .cond (b := x17) rfl rfl (fun g28 => ?_) (fun g28 => ?_)
  ·have h29 := z03 g28 h19
   refine .seq ?_
   refine .region ?_
   refine W.pure (v := (.int .i64 7)) rfl rfl (z01 (oo rfl rfl)) ?_
   refine .nil ?_
   refine .ret ?_
   obtain rfl := zAa h29
   exact z5q kr v1 (v1 := (.int .i64 7)) (by rfl) (z2i (by rfl) (by exact rfl)) O21 (zAe s8 s22) rfl
  ·have h30 := z16 g28 h19
   refine .skip ?_
   refine .seq ?_
   refine .region ?_
   refine W.load1 (v := v1) (r := []) rfl rfl ag22 (z0d rfl (At.raw (O21.atVar (j := 0) rfl))) ?_
   refine W.pure (v := (.string p0)) rfl rfl (z02 (oo rfl rfl)) ?_
   refine W.lo rfl rfl (Lo.buildSlice (r := rS) (vs := [(.string p0)]) (xs := [p0]) el22 ze9 sz9 (by kernel_rfl) rfl (qc rfl qn) rfl (.cons rfl .nil) O21) ?_
   rintro v33 H34 ⟨O31, sm32⟩
   obtain ⟨es36, e37, e38⟩ := z3a (j := 0) rfl O31
   obtain ⟨g39, h40⟩ := z2a h30
   refine W.lo rfl rfl (Lo.append (j := 2) (v := v1) rfl rfl el22 ni22 ze9 sz9 by9 (by decide) (by decide) rfl e37 e38 g39 O31) ?_
   rintro v42 H43 ⟨O35, sm41⟩
   replace O35 : Ow G20 H43 (eSl v33 9 rS [p0] :: eVar b1 22 rV v1 :: eSl v42 9 rS (p1 ++ [p0]) :: L) := O35
   refine W.lo rfl rfl (Lo.storeVar (j := 1) (s := rV) (y0 := v42) (v := v42) (o := 0) rfl ((Put.at (Put.self _) _ _)) rfl sz22 rfl (by omega) rfl (zi2 (O35.slLen (j := 2) rfl)) O35) ?_
   rintro v46 H47 ⟨O44, sm45⟩
   replace O44 : Ow G20 H47 (eSl v33 9 rS [p0] :: eVar b1 22 rV v42 :: eSl v42 9 rS (p1 ++ [p0]) :: L) := O44
   refine .nil ?_
   refine .seq ?_
   refine .region ?_
   refine W.pure (v := (.int .i64 0)) rfl rfl (z01 (oo rfl rfl)) ?_
   refine .nil ?_
   refine .ret ?_
   have O48 : Ow G20 H47 (eVar b1 22 rV v42 :: eSl v42 9 rS (p1 ++ [p0]) :: L) := O44.drop 0
   obtain rfl := zAa h40
   exact z5q kr v42 (v1 := (.int .i64 0)) (by rfl) (z2i (by rfl) (by exact rfl)) O48 (zAe s8 s22) rfl
def z65 (K : Nat) (p0 : Int) (p1 : Int) (p2 : Int) : Option Bool := (Option.bind ((if (decide (p0 < p1)) = true then some false else some (!(decide (p0 > p2))))) (tu1 fun x8 => some x8))
theorem z3j (p0 : Int) (p1 : Int) (p2 : Int) (O : Ow G H (L)) (r : Bool) (h : z65 K p0 p1 p2 = some r) :
  CR Tryd.prog 40 [(.int .i64 p0), (.int .i64 p1), (.int .i64 p2)] G H (L) (fun v G' _ => v = .bool r) := by
 unfold z65 at h
 refine CR.og (n := 16) (fn := Tryd.f40) (by kernel_rfl) rfl rfl fun R kr => ?_
 refine .seq ?_
 refine .region ?_
 refine W.pure (v := (.bool false)) rfl rfl (z01 (oo rfl rfl)) ?_
 refine .nil ?_
 refine .seq ?_
 obtain ⟨q1, h2, h3⟩ := z05 h
 refine AW.midT (fun σ' H' => ∃ (y1 : Bool) (G' : GM), y1 = q1 /\ Ow G' H' (L) /\ GM.le G G' /\ σ' 6 = .bool y1) ?_ ?_
 ·refine .region ?_
  refine W.pure (v := (.int .i64 p0)) rfl rfl (z02 (oo rfl rfl)) ?_
  refine W.pure (v := (.int .i64 p1)) rfl rfl (z02 (oo rfl rfl)) ?_
  refine W.pure (v := (.bool (decide (p0 < p1)))) rfl rfl (z2g (oo rfl rfl) (oo rfl rfl) rfl) ?_
  refine W.pure (v := (.bool (decide (p0 < p1)))) rfl rfl (z02 (oo rfl rfl)) ?_
  refine W.splitAt (t := 10) (b := decide (p0 < p1)) rfl (fun g4 gv5 => ?_) (fun g4 gv5 => ?_)
  ·have h6 := z03 g4 h2
   refine W.skip (gk rfl rfl gv5 rfl) rfl ?_
   refine W.skip (gk rfl rfl gv5 rfl) rfl ?_
   refine W.skip (gk rfl rfl gv5 rfl) rfl ?_
   refine W.pure (v := (.bool true)) rfl rfl (z0u (oo rfl gv5) (oo rfl rfl)) ?_
   refine W.pure (v := (.bool false)) rfl rfl (z1g (a := true) (oo rfl rfl)) ?_
   refine W.pure (v := (.bool false)) rfl rfl (z01 (oo rfl rfl)) ?_
   refine .nil ?_
   obtain rfl := zAa h6
   exact ⟨false, _, rfl, O, (zAf _), rfl⟩
  ·have h7 := z16 g4 h2
   refine W.pure (v := (.int .i64 p0)) (gk rfl rfl gv5 rfl) rfl (z02 (oo rfl rfl)) ?_
   refine W.pure (v := (.int .i64 p2)) (gk rfl rfl gv5 rfl) rfl (z02 (oo rfl rfl)) ?_
   refine W.pure (v := (.bool (decide (p0 > p2)))) (gk rfl rfl gv5 rfl) rfl (z2g (oo rfl rfl) (oo rfl rfl) rfl) ?_
   refine W.pure (v := (.bool (decide (p0 > p2)))) rfl rfl (z1h (oo rfl gv5) (oo rfl rfl)) ?_
   refine W.pure (v := (.bool (!(decide (p0 > p2))))) rfl rfl (z1g (a := decide (p0 > p2)) (oo rfl rfl)) ?_
   refine W.pure (v := (.bool (!(decide (p0 > p2))))) rfl rfl (z01 (oo rfl rfl)) ?_
   refine .nil ?_
   obtain rfl := zAa h7
   exact ⟨(!(decide (p0 > p2))), _, rfl, O, (zAf _), rfl⟩
 ·rintro σ9 H10 fr11 ⟨x8, G12, rfl, O13, s14, t16⟩
  have h17 := z0b h3
  refine .ret ?_
  obtain rfl := zAa h17
  exact z4i kr (v1 := (.bool x8)) (by rfl) (z2i (by rfl) (by exact t16)) O13 s14 rfl
def z3p (K : Nat) (p0 : Branch) : Option Int := (Option.bind (((z65 K p0.X 1 10000).bind fun x9 => (if x9 = true then ((z65 K p0.Tap 500 1500).bind fun x23 => (if x23 = true then ((z65 K p0.Shift (-1000) 1000).bind fun x37 => (if x37 = true then ((z65 K p0.Limit 0 100000).bind fun x51 => (if x51 = true then ((z65 K p0.Short p0.Limit 100000).bind fun x65 => (if x65 = true then ((z65 K p0.Hold 0 200000).bind fun x79 => some x79) else some false)) else some false)) else some false)) else some false)) else some false))) (tu1 fun x95 => (if x95 = true then some 0 else some 4)))
theorem z7r (v0 : List Value) (p0 : Branch) (hp0 : z0f.rep G v0 p0) (O : Ow G H (L)) (r : Int) (h : z3p K p0 = some r) :
  CR Tryd.prog 39 [.agg (List.toArray v0)] G H (L) (fun v G' _ => v = .int .i64 r) := by
 unfold z3p at h
 refine CR.og (n := 33) (fn := Tryd.f39) (by kernel_rfl) rfl rfl fun R kr => ?_
 refine .seq ?_
 refine .region ?_
 refine W.lo rfl rfl (Lo.box (r := z0f) (x0 := p0) (v := (.agg (List.toArray v0))) rfl rfl hp0 O) ?_
 rintro v4 H5 ⟨b2, rfl, O1, sm3⟩
 refine W.pure (v := (.int .i64 0)) rfl rfl (z01 (oo rfl rfl)) ?_
 refine .nil ?_
 refine .seq ?_
 refine .seq ?_
 obtain ⟨q6, h7, h8⟩ := z05 h
 refine AW.midT (fun σ' H' => ∃ (y1 : Bool) (G' : GM), y1 = q6 /\ Ow G' H' (eVar b2 69 z0f p0 :: L) /\ GM.le G G' /\ σ' 32 = .bool y1) ?_ ?_
 ·refine .region ?_
  refine W.pure (v := (padd (.pointer (some ⟨b2, 0, none⟩)) 3)) rfl rfl (z07 zfd (oo rfl rfl) (O1.atVar (j := 0) rfl)) ?_
  refine W.load1 (v := (.int .i64 p0.X)) (r := []) rfl rfl ag3 (z0d rfl (At.int (At.proj (O1.atVar (j := 0) rfl) z78))) ?_
  obtain ⟨x9, i10, h11⟩ := z05 h7
  refine W.lo rfl rfl (Lo.callP (ps := []) (ps' := []) rfl (fn := Tryd.f40) (by kernel_rfl) rfl (mc rfl (mc rfl (mc rfl mn))) O1 (fun L' O' => z3j K p0.X 1 10000 O' _ i10)) ?_
  rintro v18 H19 ⟨G12, O13, s14, sm17, rfl⟩
  replace O13 : Ow G12 H19 (eVar b2 69 z0f p0 :: L) := O13
  refine W.pure (v := (.bool x9)) rfl rfl (z02 (oo rfl rfl)) ?_
  refine W.splitAt (t := 6) (b := x9) rfl (fun g20 gv21 => ?_) (fun g20 gv21 => ?_)
  ·have h22 := z03 g20 h11
   refine W.pure (v := (padd (.pointer (some ⟨b2, 0, none⟩)) 4)) (gk rfl rfl gv21 rfl) rfl (z07 zfe (oo rfl rfl) (O13.atVar (j := 0) rfl)) ?_
   refine W.load1 (v := (.int .i64 p0.Tap)) (r := []) (gk rfl rfl gv21 rfl) rfl ag3 (z0d rfl (At.int (At.proj (O13.atVar (j := 0) rfl) z5i))) ?_
   obtain ⟨x23, i24, h25⟩ := z05 h22
   refine W.lo (gk rfl rfl gv21 rfl) rfl (Lo.callP (ps := []) (ps' := []) rfl (fn := Tryd.f40) (by kernel_rfl) rfl (mc rfl (mc rfl (mc rfl mn))) O13 (fun L' O' => z3j K p0.Tap 500 1500 O' _ i24)) ?_
   rintro v32 H33 ⟨G26, O27, s28, sm31, rfl⟩
   replace O27 : Ow G26 H33 (eVar b2 69 z0f p0 :: L) := O27
   refine W.pure (v := (.bool x23)) rfl rfl (z0u (oo rfl gv21) (oo rfl rfl)) ?_
   refine W.pure (v := (.bool x23)) rfl rfl (z02 (oo rfl rfl)) ?_
   refine W.splitAt (t := 11) (b := x23) rfl (fun g34 gv35 => ?_) (fun g34 gv35 => ?_)
   ·have h36 := z03 g34 h25
    refine W.pure (v := (padd (.pointer (some ⟨b2, 0, none⟩)) 5)) (gk rfl rfl gv35 rfl) rfl (z07 zff (oo rfl rfl) (O27.atVar (j := 0) rfl)) ?_
    refine W.load1 (v := (.int .i64 p0.Shift)) (r := []) (gk rfl rfl gv35 rfl) rfl ag3 (z0d rfl (At.int (At.proj (O27.atVar (j := 0) rfl) z4k))) ?_
    obtain ⟨x37, i38, h39⟩ := z05 h36
    refine W.lo (gk rfl rfl gv35 rfl) rfl (Lo.callP (ps := []) (ps' := []) rfl (fn := Tryd.f40) (by kernel_rfl) rfl (mc rfl (mc rfl (mc rfl mn))) O27 (fun L' O' => z3j K p0.Shift (-1000) 1000 O' _ i38)) ?_
    rintro v46 H47 ⟨G40, O41, s42, sm45, rfl⟩
    replace O41 : Ow G40 H47 (eVar b2 69 z0f p0 :: L) := O41
    refine W.pure (v := (.bool x37)) rfl rfl (z0u (oo rfl gv35) (oo rfl rfl)) ?_
    refine W.pure (v := (.bool x37)) rfl rfl (z02 (oo rfl rfl)) ?_
    refine W.splitAt (t := 16) (b := x37) rfl (fun g48 gv49 => ?_) (fun g48 gv49 => ?_)
    ·have h50 := z03 g48 h39
     refine W.pure (v := (padd (.pointer (some ⟨b2, 0, none⟩)) 6)) (gk rfl rfl gv49 rfl) rfl (z07 zc8 (oo rfl rfl) (O41.atVar (j := 0) rfl)) ?_
     refine W.load1 (v := (.int .i64 p0.Limit)) (r := []) (gk rfl rfl gv49 rfl) rfl ag3 (z0d rfl (At.int (At.proj (O41.atVar (j := 0) rfl) z3g))) ?_
     obtain ⟨x51, i52, h53⟩ := z05 h50
     refine W.lo (gk rfl rfl gv49 rfl) rfl (Lo.callP (ps := []) (ps' := []) rfl (fn := Tryd.f40) (by kernel_rfl) rfl (mc rfl (mc rfl (mc rfl mn))) O41 (fun L' O' => z3j K p0.Limit 0 100000 O' _ i52)) ?_
     rintro v60 H61 ⟨G54, O55, s56, sm59, rfl⟩
     replace O55 : Ow G54 H61 (eVar b2 69 z0f p0 :: L) := O55
     refine W.pure (v := (.bool x51)) rfl rfl (z0u (oo rfl gv49) (oo rfl rfl)) ?_
     refine W.pure (v := (.bool x51)) rfl rfl (z02 (oo rfl rfl)) ?_
     refine W.splitAt (t := 21) (b := x51) rfl (fun g62 gv63 => ?_) (fun g62 gv63 => ?_)
     ·have h64 := z03 g62 h53
      refine W.pure (v := (padd (.pointer (some ⟨b2, 0, none⟩)) 7)) (gk rfl rfl gv63 rfl) rfl (z07 zfg (oo rfl rfl) (O55.atVar (j := 0) rfl)) ?_
      refine W.load1 (v := (.int .i64 p0.Short)) (r := []) (gk rfl rfl gv63 rfl) rfl ag3 (z0d rfl (At.int (At.proj (O55.atVar (j := 0) rfl) z4l))) ?_
      refine W.pure (v := (padd (.pointer (some ⟨b2, 0, none⟩)) 6)) (gk rfl rfl gv63 rfl) rfl (z07 zc8 (oo rfl rfl) (O55.atVar (j := 0) rfl)) ?_
      refine W.load1 (v := (.int .i64 p0.Limit)) (r := []) (gk rfl rfl gv63 rfl) rfl ag3 (z0d rfl (At.int (At.proj (O55.atVar (j := 0) rfl) z3g))) ?_
      obtain ⟨x65, i66, h67⟩ := z05 h64
      refine W.lo (gk rfl rfl gv63 rfl) rfl (Lo.callP (ps := []) (ps' := []) rfl (fn := Tryd.f40) (by kernel_rfl) rfl (mc rfl (mc rfl (mc rfl mn))) O55 (fun L' O' => z3j K p0.Short p0.Limit 100000 O' _ i66)) ?_
      rintro v74 H75 ⟨G68, O69, s70, sm73, rfl⟩
      replace O69 : Ow G68 H75 (eVar b2 69 z0f p0 :: L) := O69
      refine W.pure (v := (.bool x65)) rfl rfl (z0u (oo rfl gv63) (oo rfl rfl)) ?_
      refine W.pure (v := (.bool x65)) rfl rfl (z02 (oo rfl rfl)) ?_
      refine W.splitAt (t := 28) (b := x65) rfl (fun g76 gv77 => ?_) (fun g76 gv77 => ?_)
      ·have h78 := z03 g76 h67
       refine W.pure (v := (padd (.pointer (some ⟨b2, 0, none⟩)) 8)) (gk rfl rfl gv77 rfl) rfl (z07 zfh (oo rfl rfl) (O69.atVar (j := 0) rfl)) ?_
       refine W.load1 (v := (.int .i64 p0.Hold)) (r := []) (gk rfl rfl gv77 rfl) rfl ag3 (z0d rfl (At.int (At.proj (O69.atVar (j := 0) rfl) z55))) ?_
       obtain ⟨x79, i80, h81⟩ := z05 h78
       refine W.lo (gk rfl rfl gv77 rfl) rfl (Lo.callP (ps := []) (ps' := []) rfl (fn := Tryd.f40) (by kernel_rfl) rfl (mc rfl (mc rfl (mc rfl mn))) O69 (fun L' O' => z3j K p0.Hold 0 200000 O' _ i80)) ?_
       rintro v88 H89 ⟨G82, O83, s84, sm87, rfl⟩
       replace O83 : Ow G82 H89 (eVar b2 69 z0f p0 :: L) := O83
       refine W.pure (v := (.bool x79)) rfl rfl (z0u (oo rfl gv77) (oo rfl rfl)) ?_
       refine .nil ?_
       obtain rfl := zAa h81
       exact ⟨x79, _, rfl, O83, (zAe s14 (zAe s28 (zAe s42 (zAe s56 (zAe s70 s84))))), rfl⟩
      ·have h90 := z16 g76 h67
       refine W.skip (gk rfl rfl gv77 rfl) rfl ?_
       refine W.skip (gk rfl rfl gv77 rfl) rfl ?_
       refine W.skip (gk rfl rfl gv77 rfl) rfl ?_
       refine W.pure (v := (.bool false)) rfl rfl (z1h (oo rfl gv77) (oo rfl rfl)) ?_
       refine .nil ?_
       obtain rfl := zAa h90
       exact ⟨false, _, rfl, O69, (zAe s14 (zAe s28 (zAe s42 (zAe s56 s70)))), rfl⟩
     ·have h91 := z16 g62 h53
      refine W.skip (gk rfl rfl gv63 rfl) rfl ?_
      refine W.skip (gk rfl rfl gv63 rfl) rfl ?_
      refine W.skip (gk rfl rfl gv63 rfl) rfl ?_
      refine W.skip (gk rfl rfl gv63 rfl) rfl ?_
      refine W.skip (gk rfl rfl gv63 rfl) rfl ?_
      refine W.pure (v := (.bool false)) rfl rfl (z1h (oo rfl gv63) (oo rfl rfl)) ?_
      refine W.pure (v := (.bool false)) rfl rfl (z02 (oo rfl rfl)) ?_
      refine W.skip (gk rfl rfl rfl rfl) rfl ?_
      refine W.skip (gk rfl rfl rfl rfl) rfl ?_
      refine W.skip (gk rfl rfl rfl rfl) rfl ?_
      refine W.pure (v := (.bool false)) rfl rfl (z1h (oo rfl rfl) (oo rfl rfl)) ?_
      refine .nil ?_
      obtain rfl := zAa h91
      exact ⟨false, _, rfl, O55, (zAe s14 (zAe s28 (zAe s42 s56))), rfl⟩
    ·have h92 := z16 g48 h39
     refine W.skip (gk rfl rfl gv49 rfl) rfl ?_
     refine W.skip (gk rfl rfl gv49 rfl) rfl ?_
     refine W.skip (gk rfl rfl gv49 rfl) rfl ?_
     refine W.pure (v := (.bool false)) rfl rfl (z1h (oo rfl gv49) (oo rfl rfl)) ?_
     refine W.pure (v := (.bool false)) rfl rfl (z02 (oo rfl rfl)) ?_
     refine W.skip (gk rfl rfl rfl rfl) rfl ?_
     refine W.skip (gk rfl rfl rfl rfl) rfl ?_
     refine W.skip (gk rfl rfl rfl rfl) rfl ?_
     refine W.skip (gk rfl rfl rfl rfl) rfl ?_
     refine W.skip (gk rfl rfl rfl rfl) rfl ?_
     refine W.pure (v := (.bool false)) rfl rfl (z1h (oo rfl rfl) (oo rfl rfl)) ?_
     refine W.pure (v := (.bool false)) rfl rfl (z02 (oo rfl rfl)) ?_
     refine W.skip (gk rfl rfl rfl rfl) rfl ?_
     refine W.skip (gk rfl rfl rfl rfl) rfl ?_
     refine W.skip (gk rfl rfl rfl rfl) rfl ?_
     refine W.pure (v := (.bool false)) rfl rfl (z1h (oo rfl rfl) (oo rfl rfl)) ?_
     refine .nil ?_
     obtain rfl := zAa h92
     exact ⟨false, _, rfl, O41, (zAe s14 (zAe s28 s42)), rfl⟩
   ·have h93 := z16 g34 h25
    refine W.skip (gk rfl rfl gv35 rfl) rfl ?_
    refine W.skip (gk rfl rfl gv35 rfl) rfl ?_
    refine W.skip (gk rfl rfl gv35 rfl) rfl ?_
    refine W.pure (v := (.bool false)) rfl rfl (z1h (oo rfl gv35) (oo rfl rfl)) ?_
    refine W.pure (v := (.bool false)) rfl rfl (z02 (oo rfl rfl)) ?_
    refine W.skip (gk rfl rfl rfl rfl) rfl ?_
    refine W.skip (gk rfl rfl rfl rfl) rfl ?_
    refine W.skip (gk rfl rfl rfl rfl) rfl ?_
    refine W.pure (v := (.bool false)) rfl rfl (z1h (oo rfl rfl) (oo rfl rfl)) ?_
    refine W.pure (v := (.bool false)) rfl rfl (z02 (oo rfl rfl)) ?_
    refine W.skip (gk rfl rfl rfl rfl) rfl ?_
    refine W.skip (gk rfl rfl rfl rfl) rfl ?_
    refine W.skip (gk rfl rfl rfl rfl) rfl ?_
    refine W.skip (gk rfl rfl rfl rfl) rfl ?_
    refine W.skip (gk rfl rfl rfl rfl) rfl ?_
    refine W.pure (v := (.bool false)) rfl rfl (z1h (oo rfl rfl) (oo rfl rfl)) ?_
    refine W.pure (v := (.bool false)) rfl rfl (z02 (oo rfl rfl)) ?_
    refine W.skip (gk rfl rfl rfl rfl) rfl ?_
    refine W.skip (gk rfl rfl rfl rfl) rfl ?_
    refine W.skip (gk rfl rfl rfl rfl) rfl ?_
    refine W.pure (v := (.bool false)) rfl rfl (z1h (oo rfl rfl) (oo rfl rfl)) ?_
    refine .nil ?_
    obtain rfl := zAa h93
    exact ⟨false, _, rfl, O27, (zAe s14 s28), rfl⟩
  ·have h94 := z16 g20 h11
   refine W.skip (gk rfl rfl gv21 rfl) rfl ?_
   refine W.skip (gk rfl rfl gv21 rfl) rfl ?_
   refine W.skip (gk rfl rfl gv21 rfl) rfl ?_
   refine W.pure (v := (.bool false)) rfl rfl (z1h (oo rfl gv21) (oo rfl rfl)) ?_
   refine W.pure (v := (.bool false)) rfl rfl (z02 (oo rfl rfl)) ?_
   refine W.skip (gk rfl rfl rfl rfl) rfl ?_
   refine W.skip (gk rfl rfl rfl rfl) rfl ?_
   refine W.skip (gk rfl rfl rfl rfl) rfl ?_
   refine W.pure (v := (.bool false)) rfl rfl (z1h (oo rfl rfl) (oo rfl rfl)) ?_
   refine W.pure (v := (.bool false)) rfl rfl (z02 (oo rfl rfl)) ?_
   refine W.skip (gk rfl rfl rfl rfl) rfl ?_
   refine W.skip (gk rfl rfl rfl rfl) rfl ?_
   refine W.skip (gk rfl rfl rfl rfl) rfl ?_
   refine W.pure (v := (.bool false)) rfl rfl (z1h (oo rfl rfl) (oo rfl rfl)) ?_
   refine W.pure (v := (.bool false)) rfl rfl (z02 (oo rfl rfl)) ?_
   refine W.skip (gk rfl rfl rfl rfl) rfl ?_
   refine W.skip (gk rfl rfl rfl rfl) rfl ?_
   refine W.skip (gk rfl rfl rfl rfl) rfl ?_
   refine W.skip (gk rfl rfl rfl rfl) rfl ?_
   refine W.skip (gk rfl rfl rfl rfl) rfl ?_
   refine W.pure (v := (.bool false)) rfl rfl (z1h (oo rfl rfl) (oo rfl rfl)) ?_
   refine W.pure (v := (.bool false)) rfl rfl (z02 (oo rfl rfl)) ?_
   refine W.skip (gk rfl rfl rfl rfl) rfl ?_
   refine W.skip (gk rfl rfl rfl rfl) rfl ?_
   refine W.skip (gk rfl rfl rfl rfl) rfl ?_
   refine W.pure (v := (.bool false)) rfl rfl (z1h (oo rfl rfl) (oo rfl rfl)) ?_
   refine .nil ?_
   obtain rfl := zAa h94
   exact ⟨false, _, rfl, O13, s14, rfl⟩
 ·rintro σ96 H97 fr98 ⟨x95, G99, rfl, O100, s101, t103⟩
  have h104 := z0b h8
  refine .cond (b := x95) rfl t103 (fun g105 => ?_) (fun g105 => ?_)
  ·have h106 := z03 g105 h104
   refine .seq ?_
   refine .region ?_
   refine W.pure (v := (.int .i64 0)) rfl rfl (z01 (oo rfl rfl)) ?_
   refine .nil ?_
   refine .ret ?_
   have O107 : Ow G99 H97 (L) := O100.drop 0
   obtain rfl := zAa h106
   exact z4i kr (v1 := (.int .i64 0)) (by rfl) (z2i (by rfl) (by exact rfl)) O107 s101 rfl
  ·have h108 := z16 g105 h104
   refine .skip ?_
   refine .seq ?_
   refine .region ?_
   refine W.pure (v := (.int .i64 4)) rfl rfl (z01 (oo rfl rfl)) ?_
   refine .nil ?_
   refine .ret ?_
   have O109 : Ow G99 H97 (L) := O100.drop 0
   obtain rfl := zAa h108
   exact z4i kr (v1 := (.int .i64 4)) (by rfl) (z2i (by rfl) (by exact rfl)) O109 s101 rfl
structure Item where
 name : zAd
 nodes : List zAd
 apart : Bool
 bad : Bool
 deriving DecidableEq, Inhabited
def z08 : RT Item := rIso (rP rS (rP (rSl rS) (rP rB rB))) (fun s : Item => (s.name, s.nodes, s.apart, s.bad))
theorem zh6 (G : GM) : z08.rep G ([.string ByteArray.empty] ++ ([.slice none 0 0] ++ ([.bool false] ++ [.bool false]))) ((Item.mk ByteArray.empty ([] : List zAd) false false)) := ⟨_, _, rfl, zS G, ⟨_, _, rfl, zL G, ⟨_, _, rfl, zB G, (zB G)⟩⟩⟩
theorem zcc : Proj z08 0 rS (fun x => x.name) := by
 have h := (Proj.iso (rP rS (rP (rSl rS) (rP rB rB))) (fun s : Item => (s.name, s.nodes, s.apart, s.bad))).comp (Proj.fst _ _)
 exact h
theorem zcd : Put z08 0 rS (fun x y => { x with name := y }) := by
 have h := Put.comp (Proj.iso (rP rS (rP (rSl rS) (rP rB rB))) (fun s : Item => (s.name, s.nodes, s.apart, s.bad))) (Put.iso (rP rS (rP (rSl rS) (rP rB rB))) (fun s : Item => (s.name, s.nodes, s.apart, s.bad)) (fun _ q => ⟨q.1, q.2.1, q.2.2.1, q.2.2.2⟩) (fun _ _ => rfl)) (Put.fst _ _)
 exact h
theorem z6t : Proj z08 1 (rSl rS) (fun x => x.nodes) := by
 have h := (Proj.iso (rP rS (rP (rSl rS) (rP rB rB))) (fun s : Item => (s.name, s.nodes, s.apart, s.bad))).comp ((Proj.snd _ _).comp (Proj.fst _ _))
 exact h
theorem zaz : Put z08 1 (rSl rS) (fun x y => { x with nodes := y }) := by
 have h := Put.comp (Proj.iso (rP rS (rP (rSl rS) (rP rB rB))) (fun s : Item => (s.name, s.nodes, s.apart, s.bad))) (Put.iso (rP rS (rP (rSl rS) (rP rB rB))) (fun s : Item => (s.name, s.nodes, s.apart, s.bad)) (fun _ q => ⟨q.1, q.2.1, q.2.2.1, q.2.2.2⟩) (fun _ _ => rfl)) (Put.comp (Proj.snd _ _) (Put.snd _ _) (Put.fst _ _))
 exact h
theorem zb0 : Proj z08 2 rB (fun x => x.apart) := by
 have h := (Proj.iso (rP rS (rP (rSl rS) (rP rB rB))) (fun s : Item => (s.name, s.nodes, s.apart, s.bad))).comp ((Proj.snd _ _).comp ((Proj.snd _ _).comp (Proj.fst _ _)))
 exact h
theorem zb1 : Put z08 2 rB (fun x y => { x with apart := y }) := by
 have h := Put.comp (Proj.iso (rP rS (rP (rSl rS) (rP rB rB))) (fun s : Item => (s.name, s.nodes, s.apart, s.bad))) (Put.iso (rP rS (rP (rSl rS) (rP rB rB))) (fun s : Item => (s.name, s.nodes, s.apart, s.bad)) (fun _ q => ⟨q.1, q.2.1, q.2.2.1, q.2.2.2⟩) (fun _ _ => rfl)) (Put.comp (Proj.snd _ _) (Put.snd _ _) (Put.comp (Proj.snd _ _) (Put.snd _ _) (Put.fst _ _)))
 exact h
theorem ze4 : Proj z08 3 rB (fun x => x.bad) := by
 have h := (Proj.iso (rP rS (rP (rSl rS) (rP rB rB))) (fun s : Item => (s.name, s.nodes, s.apart, s.bad))).comp ((Proj.snd _ _).comp ((Proj.snd _ _).comp ((Proj.snd _ _).comp (Proj.self _))))
 exact h
theorem ze5 : Put z08 3 rB (fun x y => { x with bad := y }) := by
 have h := Put.comp (Proj.iso (rP rS (rP (rSl rS) (rP rB rB))) (fun s : Item => (s.name, s.nodes, s.apart, s.bad))) (Put.iso (rP rS (rP (rSl rS) (rP rB rB))) (fun s : Item => (s.name, s.nodes, s.apart, s.bad)) (fun _ q => ⟨q.1, q.2.1, q.2.2.1, q.2.2.2⟩) (fun _ _ => rfl)) (Put.comp (Proj.snd _ _) (Put.snd _ _) (Put.comp (Proj.snd _ _) (Put.snd _ _) (Put.comp (Proj.snd _ _) (Put.snd _ _) (Put.self _))))
 exact h
theorem z26 {G : GM} (v0 : Value) {x0 : zAd} (v1 : Value) {x1 : List zAd} (v2 : Value) {x2 : Bool} (v3 : Value) {x3 : Bool} (h0 : rS.rep G v0.cells.toList x0) (h1 : (rSl rS).rep G v1.cells.toList x1) (h2 : rB.rep G v2.cells.toList x2) (h3 : rB.rep G v3.cells.toList x3) : ∃ cs : List Value, (∀ {s : List Value} {d : Tmp} {ty : TypeId} {pos : String} {af : Array Edge} {g : Option (Nat × Bool)} {ps : Array (Nat × Operand)}, zch s ps.toList = some [(0, v0), (1, v1), (2, v2), (3, v3)] -> z2y Tryd.prog s ⟨some d, .build 62 ps, ty, pos, af, g⟩ = some (.agg (List.toArray cs))) /\ z08.rep G cs (Item.mk x0 x1 x2 x3) := by
 have k0 := (zcd G _ _ _ _ (zh6 G) h0).1
 have k1 := (zaz G _ _ _ _ (k0) h1).1
 have k2 := (zb1 G _ _ _ _ (k1) h2).1
 have k3 := (ze5 G _ _ _ _ (k2) h3).1
 refine ⟨_, fun {s d ty pos af g ps} hps => zgr pl62 ze62 zo62 hps ?_, k3⟩
 refine (z77 (off := 0) (sz := 1) (cs := _) rfl (RT.len _ h0) (Nat.le_trans (Nat.le_of_ble_eq_true (m := 4) rfl) (Nat.le_of_eq (RT.len _ (zh6 G)).symm))).trans ?_
 refine (z77 (off := 1) (sz := 1) (cs := _) rfl (RT.len _ h1) (Nat.le_trans (Nat.le_of_ble_eq_true (m := 4) rfl) (Nat.le_of_eq (RT.len _ (k0)).symm))).trans ?_
 refine (z77 (off := 2) (sz := 1) (cs := _) rfl (RT.len _ h2) (Nat.le_trans (Nat.le_of_ble_eq_true (m := 4) rfl) (Nat.le_of_eq (RT.len _ (k1)).symm))).trans ?_
 refine (z77 (off := 3) (sz := 1) (cs := _) rfl (RT.len _ h3) (Nat.le_trans (Nat.le_of_ble_eq_true (m := 4) rfl) (Nat.le_of_eq (RT.len _ (k2)).symm))).trans ?_
 rfl
def z2n (K : Nat) (p0 : Network) : Nat -> List Item -> Int -> Option (List Item)
 | 0, _, _ => none
 | k + 1, x14, x15 => (if (decide (x15 < (List.length p0.Switches : Int))) = true then ((idx p0.Switches x15).bind fun x26 => (if List.length x14 + List.length [(Item.mk x26.Name [x26.A, x26.B] true false)] <= 16777216 then z2n K p0 k (x14 ++ [(Item.mk x26.Name [x26.A, x26.B] true false)]) (z0p .i64 (x15 + 1)) else none)) else some x14)
def z2o (K : Nat) (p0 : Network) : Nat -> List Item -> Int -> Option (List Item)
 | 0, _, _ => none
 | k + 1, x87, x88 => (if (decide (x88 < (List.length p0.Branches : Int))) = true then ((idx p0.Branches x88).bind fun x99 => ((z3p K x99).bind fun x129 => (if List.length x87 + List.length [(Item.mk x99.Name [x99.From, x99.To] true (x129 != 0))] <= 16777216 then z2o K p0 k (x87 ++ [(Item.mk x99.Name [x99.From, x99.To] true (x129 != 0))]) (z0p .i64 (x88 + 1)) else none))) else some x87)
def z2p (K : Nat) (p0 : Network) : Nat -> List Item -> Int -> Option (List Item)
 | 0, _, _ => none
 | k + 1, x183, x184 => (if (decide (x184 < (List.length p0.Gens : Int))) = true then (Option.bind (((idx p0.Gens x184).bind fun x198 => ((z65 K x198.Least 0 100000).bind fun x225 => (if (!x225) = true then (if List.length x183 + List.length [(Item.mk x198.Name [x198.Node] false true)] <= 16777216 then some (x183 ++ [(Item.mk x198.Name [x198.Node] false true)]) else none) else ((z65 K x198.Most x198.Least 100000).bind fun x266 => (if (!x266) = true then (if List.length x183 + List.length [(Item.mk x198.Name [x198.Node] false true)] <= 16777216 then some (x183 ++ [(Item.mk x198.Name [x198.Node] false true)]) else none) else ((z65 K x198.Ramp 0 100000).bind fun x307 => (if List.length x183 + List.length [(Item.mk x198.Name [x198.Node] false (!x307))] <= 16777216 then some (x183 ++ [(Item.mk x198.Name [x198.Node] false (!x307))]) else none)))))))) (tu1 fun x344 => z2p K p0 k x344 (z0p .i64 (x184 + 1)))) else some x183)
def z2q (K : Nat) (p0 : Network) : Nat -> List Item -> Int -> Option (List Item)
 | 0, _, _ => none
 | k + 1, x370, x371 => (if (decide (x371 < (List.length p0.Loads : Int))) = true then ((idx p0.Loads x371).bind fun x382 => ((z65 K x382.Demand 0 100000).bind fun x409 => (if List.length x370 + List.length [(Item.mk x382.Name [x382.Node] false (!x409))] <= 16777216 then z2q K p0 k (x370 ++ [(Item.mk x382.Name [x382.Node] false (!x409))]) (z0p .i64 (x371 + 1)) else none))) else some x370)
def z2r (K : Nat) (p0 : Network) : Nat -> List Item -> Int -> Option (List Item)
 | 0, _, _ => none
 | k + 1, x463, x464 => (if (decide (x464 < (List.length p0.Stores : Int))) = true then (Option.bind (((idx p0.Stores x464).bind fun x478 => ((z65 K x478.Charge 0 100000).bind fun x505 => (if (!x505) = true then (if List.length x463 + List.length [(Item.mk x478.Name [x478.Node] false true)] <= 16777216 then some (x463 ++ [(Item.mk x478.Name [x478.Node] false true)]) else none) else ((z65 K x478.Discharge 0 100000).bind fun x546 => (if (!x546) = true then (if List.length x463 + List.length [(Item.mk x478.Name [x478.Node] false true)] <= 16777216 then some (x463 ++ [(Item.mk x478.Name [x478.Node] false true)]) else none) else ((z65 K x478.Capacity 0 100000).bind fun x587 => (if List.length x463 + List.length [(Item.mk x478.Name [x478.Node] false (!x587))] <= 16777216 then some (x463 ++ [(Item.mk x478.Name [x478.Node] false (!x587))]) else none)))))))) (tu1 fun x624 => z2r K p0 k x624 (z0p .i64 (x464 + 1)))) else some x463)
def z7g (K : Nat) (p0 : Network) : Option (List Item) := (Option.bind (z2n K p0 K [] 0) (tu1 fun x71 => (Option.bind (z2o K p0 K x71 0) (tu1 fun x167 => (Option.bind (z2p K p0 K x167 0) (tu1 fun x354 => (Option.bind (z2q K p0 K x354 0) (tu1 fun x447 => (Option.bind (z2r K p0 K x447 0) (tu1 fun x634 => some x634))))))))))
theorem zb2 (v0 : List Value) (p0 : Network) (hp0 : z00.rep G v0 p0) (O : Ow G H (L)) (r : List Item) (h : z7g K p0 = some r) :
  CRF Tryd.prog 22 [.agg (List.toArray v0)] G H (fun w0 => (eSl w0 62 z08 r :: L)) (fun w0 v G' => w0 = v) := by
 unfold z7g at h
 refine CRF.og (n := 145) (fn := Tryd.f22) (by kernel_rfl) rfl rfl fun R kr => ?_
 refine .seq ?_
 refine .region ?_
 refine W.lo rfl rfl (Lo.box (r := z00) (x0 := p0) (v := (.agg (List.toArray v0))) rfl rfl hp0 O) ?_
 rintro v4 H5 ⟨b2, rfl, O1, sm3⟩
 refine W.pure (v := (.slice none 0 0)) rfl rfl (z01 (oo rfl rfl)) ?_
 refine .nil ?_
 refine .seq ?_
 refine .region ?_
 refine W.pure (v := (.slice none 0 0)) rfl rfl (z01 (oo rfl rfl)) ?_
 refine .nil ?_
 refine .seq ?_
 refine .seq ?_
 refine .region ?_
 refine W.pure (v := (padd (.pointer (some ⟨b2, 0, none⟩)) 1)) rfl rfl (z07 zc3 (oo rfl rfl) (O1.atVar (j := 0) rfl)) ?_
 obtain ⟨w6, p7, f8⟩ := At.sl (At.proj (O1.atVar (j := 0) rfl) z2b)
 refine W.load1 (v := w6) (r := []) rfl rfl ag23 (z0d rfl p7) ?_
 refine W.pure (v := (.int .i64 (List.length p0.Switches : Int))) rfl rfl (z25 (oo rfl rfl) (z0x f8) (z04 el23)) ?_
 refine W.pure (v := (.int .i64 0)) rfl rfl (z02 (oo rfl rfl)) ?_
 refine .nil ?_
 obtain ⟨q9, h10, h11⟩ := z05 h
 refine AW.midT (fun σ' H' => ∃ (y1 : List Item) (G' : GM), y1 = q9 /\ Ow G' H' (eVar b2 29 z00 p0 :: eSl (σ' 3) 62 z08 y1 :: L) /\ GM.le G G') ?_ ?_
 ·refine .block ?_
  have O12 := O1.nilSl 62 z08
  refine AW.loop (α := Nat) (fun k' σ' H' => ∃ (y1 : List Item) (y2 : Int) (G' : GM), z2n K p0 k' y1 y2 = some q9 /\ Ow G' H' (eSl (σ' 3) 62 z08 y1 :: eVar b2 29 z00 p0 :: L) /\ GM.le G G' /\ σ' 17 = .int .i64 y2) (fun k' => k') K ⟨[], 0, _, h10, O12, (zAf _), rfl⟩ ?_
  rintro k13
  rintro σ16 H17 fr18 ⟨x14, x15, G19, h22, O20, s21, t23⟩
  rcases k13 with _ | k13
  ·exact z09 h22
  rw [z2n] at h22
  refine .seq ?_
  refine .region ?_
  refine W.pure (v := (.bool (decide (x15 < (List.length p0.Switches : Int))))) rfl rfl (z2g (oo rfl t23) (oo rfl ((fr18 16 rfl).trans rfl)) rfl) ?_
  refine .nil ?_
  refine .seq ?_
  refine .cond (b := decide (x15 < (List.length p0.Switches : Int))) rfl rfl (fun g24 => ?_) (fun g24 => ?_)
  ·have h25 := z03 g24 h22
   refine .skip ?_
   refine .seq ?_
   refine .block ?_
   refine .seq ?_
   refine .region ?_
   obtain ⟨x26, i27, h28⟩ := z05 h25
   have j29 := z1n i27
   refine W.pure (v := (z4t w6 (Int.toNat x15 * 5))) rfl rfl (z5d el23 sz64 (oo rfl ((fr18 15 rfl).trans rfl)) (oo rfl t23) (z0x (RT.mono _ s21 f8)) j29.1 j29.2.1) ?_
   obtain ⟨c30, p31, f32⟩ := (At.le (At.le (z3c f8 j29.2.2) s21 s21) (zAf _) O20.fro)
   refine W.loadA (cs := c30) rfl rfl ag64 sz64 (z0d rfl p31) (RT.len _ f32) ?_
   refine W.lo rfl rfl (Lo.alloc (r := z19) (x0 := (Switch.mk ByteArray.empty ByteArray.empty ByteArray.empty false false)) ze64 (by kernel_rfl) z9n O20) ?_
   rintro v36 H37 ⟨b34, rfl, O33, sm35⟩
   refine W.lo rfl rfl (Lo.storeVar (j := 0) (s := z19) (y0 := x26) (v := (.agg (List.toArray c30))) (o := 0) rfl ((Put.at (Put.self _) _ _)) rfl sz64 rfl (by omega) rfl f32 O33) ?_
   rintro v40 H41 ⟨O38, sm39⟩
   replace O38 : Ow G19 H41 (eVar b34 64 z19 x26 :: eSl (σ16 3) 62 z08 x14 :: eVar b2 29 z00 p0 :: L) := O38
   refine .nil ?_
   refine .region ?_
   refine W.pure (v := (σ16 3)) rfl rfl (z02 (oo rfl rfl)) ?_
   refine W.pure (v := (padd (.pointer (some ⟨b34, 0, none⟩)) 0)) rfl rfl (z07 zfb (oo rfl rfl) (O38.atVar (j := 0) rfl)) ?_
   refine W.load1 (v := (.string x26.Name)) (r := []) rfl rfl ag9 (z0d rfl (At.str (At.proj (O38.atVar (j := 0) rfl) z52))) ?_
   refine W.pure (v := (padd (.pointer (some ⟨b34, 0, none⟩)) 1)) rfl rfl (z07 zdo (oo rfl rfl) (O38.atVar (j := 0) rfl)) ?_
   refine W.load1 (v := (.string x26.A)) (r := []) rfl rfl ag9 (z0d rfl (At.str (At.proj (O38.atVar (j := 0) rfl) z61))) ?_
   refine W.pure (v := (padd (.pointer (some ⟨b34, 0, none⟩)) 2)) rfl rfl (z07 zdp (oo rfl rfl) (O38.atVar (j := 0) rfl)) ?_
   refine W.load1 (v := (.string x26.B)) (r := []) rfl rfl ag9 (z0d rfl (At.str (At.proj (O38.atVar (j := 0) rfl) z62))) ?_
   refine W.lo rfl rfl (Lo.buildSlice (r := rS) (vs := [(.string x26.A), (.string x26.B)]) (xs := [x26.A, x26.B]) el22 ze9 sz9 (by kernel_rfl) rfl (qc rfl (qc rfl qn)) rfl (.cons rfl (.cons rfl .nil)) O38) ?_
   rintro v44 H45 ⟨O42, sm43⟩
   obtain ⟨G46, O47, s48, f49⟩ := O42.frzSl (j := 0) rfl
   replace O47 : Ow G46 H45 (eVar b34 64 z19 x26 :: eSl (σ16 3) 62 z08 x14 :: eVar b2 29 z00 p0 :: L) := O47
   obtain ⟨c50, e52, f51⟩ := z26 (G := G46) ((.string x26.Name)) (v44) ((.bool true)) ((.bool false)) (rfl) ((z5h f49)) (rfl) (rfl)
   refine W.pure (v := .agg (List.toArray c50)) rfl rfl (e52 (z4v rfl (qc' rfl (qc' rfl (qc' rfl (qc' rfl qn')))))) ?_
   refine W.lo rfl rfl (Lo.buildSlice (r := z08) (vs := [(.agg (List.toArray c50))]) (xs := [(Item.mk x26.Name [x26.A, x26.B] true false)]) el59 ze62 sz62 (by kernel_rfl) rfl (qc rfl qn) rfl (.cons f51 .nil) O47) ?_
   rintro v55 H56 ⟨O53, sm54⟩
   obtain ⟨es58, e59, e60⟩ := z3a (j := 0) rfl O53
   obtain ⟨g61, h62⟩ := z2a h28
   refine W.lo rfl rfl (Lo.append (j := 2) (v := (σ16 3)) rfl rfl el59 ni59 ze62 sz62 by62 (by decide) (by decide) rfl e59 e60 g61 O53) ?_
   rintro v64 H65 ⟨O57, sm63⟩
   replace O57 : Ow G46 H65 (eSl v55 62 z08 [(Item.mk x26.Name [x26.A, x26.B] true false)] :: eVar b34 64 z19 x26 :: eSl v64 62 z08 (x14 ++ [(Item.mk x26.Name [x26.A, x26.B] true false)]) :: eVar b2 29 z00 p0 :: L) := O57
   refine W.pure (v := v64) rfl rfl (z01 (oo rfl rfl)) ?_
   refine .nil ?_
   refine .region ?_
   refine W.pure (v := (.int .i64 (z0p .i64 (x15 + 1)))) rfl rfl (z2g (oo rfl t23) (oo rfl rfl) rfl) ?_
   refine W.pure (v := (.int .i64 (z0p .i64 (x15 + 1)))) rfl rfl (z02 (oo rfl rfl)) ?_
   refine .nil ?_
   have O66 : Ow G46 H65 (eVar b34 64 z19 x26 :: eSl v64 62 z08 (x14 ++ [(Item.mk x26.Name [x26.A, x26.B] true false)]) :: eVar b2 29 z00 p0 :: L) := O57.drop 0
   have O67 : Ow G46 H65 (eSl v64 62 z08 (x14 ++ [(Item.mk x26.Name [x26.A, x26.B] true false)]) :: eVar b2 29 z00 p0 :: L) := O66.drop 0
   exact ⟨k13, zAg _, ⟨(x14 ++ [(Item.mk x26.Name [x26.A, x26.B] true false)]), z0p .i64 (x15 + 1), _, h62, O67, (zAe s21 s48), rfl⟩⟩
  ·have h68 := z16 g24 h22
   refine .exit ?_
   have O69 : Ow G19 H17 (eSl (σ16 3) 62 z08 x14 :: eVar b2 29 z00 p0 :: L) := O20.front (j := 0) rfl
   have O70 : Ow G19 H17 (eVar b2 29 z00 p0 :: eSl (σ16 3) 62 z08 x14 :: L) := O69.front (j := 1) rfl
   obtain rfl := zAa h68
   exact ⟨x14, _, rfl, O70, s21⟩
 ·rintro σ72 H73 fr74 ⟨x71, G75, rfl, O76, s77⟩
  have h79 := z0b h11
  refine .seq ?_
  refine .seq ?_
  refine .region ?_
  refine W.pure (v := (padd (.pointer (some ⟨b2, 0, none⟩)) 2)) rfl rfl (z07 zc4 (oo rfl ((fr74 1 rfl).trans rfl)) (O76.atVar (j := 0) rfl)) ?_
  obtain ⟨w80, p81, f82⟩ := At.sl (At.proj (O76.atVar (j := 0) rfl) z2c)
  refine W.load1 (v := w80) (r := []) rfl rfl ag24 (z0d rfl p81) ?_
  refine W.pure (v := (.int .i64 (List.length p0.Branches : Int))) rfl rfl (z25 (oo rfl rfl) (z0x f82) (z04 el24)) ?_
  refine W.pure (v := (.int .i64 0)) rfl rfl (z02 (oo rfl rfl)) ?_
  refine .nil ?_
  obtain ⟨q83, h84, h85⟩ := z05 h79
  refine AW.midT (fun σ' H' => ∃ (y1 : List Item) (G' : GM), y1 = q83 /\ Ow G' H' (eVar b2 29 z00 p0 :: eSl (σ' 3) 62 z08 y1 :: L) /\ GM.le G75 G') ?_ ?_
  ·refine .block ?_
   refine AW.loop (α := Nat) (fun k' σ' H' => ∃ (y1 : List Item) (y2 : Int) (G' : GM), z2o K p0 k' y1 y2 = some q83 /\ Ow G' H' (eVar b2 29 z00 p0 :: eSl (σ' 3) 62 z08 y1 :: L) /\ GM.le G75 G' /\ σ' 36 = .int .i64 y2) (fun k' => k') K ⟨x71, 0, _, h84, O76, (zAf _), rfl⟩ ?_
   rintro k86
   rintro σ89 H90 fr91 ⟨x87, x88, G92, h95, O93, s94, t96⟩
   rcases k86 with _ | k86
   ·exact z09 h95
   rw [z2o] at h95
   refine .seq ?_
   refine .region ?_
   refine W.pure (v := (.bool (decide (x88 < (List.length p0.Branches : Int))))) rfl rfl (z2g (oo rfl t96) (oo rfl ((fr91 35 rfl).trans rfl)) rfl) ?_
   refine .nil ?_
   refine .seq ?_
   refine .cond (b := decide (x88 < (List.length p0.Branches : Int))) rfl rfl (fun g97 => ?_) (fun g97 => ?_)
   ·have h98 := z03 g97 h95
    refine .skip ?_
    refine .seq ?_
    refine .block ?_
    refine .seq ?_
    refine .region ?_
    obtain ⟨x99, i100, h101⟩ := z05 h98
    have j102 := z1n i100
    refine W.pure (v := (z4t w80 (Int.toNat x88 * 9))) rfl rfl (z5d el24 sz69 (oo rfl ((fr91 34 rfl).trans rfl)) (oo rfl t96) (z0x (RT.mono _ s94 f82)) j102.1 j102.2.1) ?_
    obtain ⟨c103, p104, f105⟩ := (At.le (At.le (z3c f82 j102.2.2) s94 s94) (zAf _) O93.fro)
    refine W.loadA (cs := c103) rfl rfl ag69 sz69 (z0d rfl p104) (RT.len _ f105) ?_
    refine W.lo rfl rfl (Lo.alloc (r := z0f) (x0 := (Branch.mk ByteArray.empty ByteArray.empty ByteArray.empty 0 0 0 0 0 0)) ze69 (by kernel_rfl) z9o O93) ?_
    rintro v109 H110 ⟨b107, rfl, O106, sm108⟩
    refine W.lo rfl rfl (Lo.storeVar (j := 0) (s := z0f) (y0 := x99) (v := (.agg (List.toArray c103))) (o := 0) rfl ((Put.at (Put.self _) _ _)) rfl sz69 rfl (by omega) rfl f105 O106) ?_
    rintro v113 H114 ⟨O111, sm112⟩
    replace O111 : Ow G92 H114 (eVar b107 69 z0f x99 :: eVar b2 29 z00 p0 :: eSl (σ89 3) 62 z08 x87 :: L) := O111
    refine .nil ?_
    refine .draw2 (M := [0, 0, 2, 0, 8, 0, 32, 120, 0, 256, 768, 2046, 4094, 8191, 16383]) mixed (by kernel_rfl) (by kernel_rfl) fun H115 N119 x116 F118 => ?_
    have O117 := O111.ext x116
    refine D2.pure (v := (σ89 3)) rfl rfl (z02 (oo rfl rfl)) ?_
    refine D2.pure (v := (padd (.pointer (some ⟨b107, 0, none⟩)) 0)) rfl rfl (z07 zfc (oo rfl rfl) (O117.atVar (j := 0) rfl)) ?_
    refine D2.load1' (v := (.string x99.Name)) (r := []) rfl rfl ag9 (z0d rfl (At.str (At.proj (O117.atVar (j := 0) rfl) z54))) z0t ?_
    refine D2.pure (v := (padd (.pointer (some ⟨b107, 0, none⟩)) 1)) rfl rfl (z07 zdq (oo rfl rfl) (O117.atVar (j := 0) rfl)) ?_
    refine D2.load1' (v := (.string x99.From)) (r := []) rfl rfl ag9 (z0d rfl (At.str (At.proj (O117.atVar (j := 0) rfl) z4f))) z0t ?_
    refine D2.pure (v := (padd (.pointer (some ⟨b107, 0, none⟩)) 2)) rfl rfl (z07 zdr (oo rfl rfl) (O117.atVar (j := 0) rfl)) ?_
    refine D2.load1' (v := (.string x99.To)) (r := []) rfl rfl ag9 (z0d rfl (At.str (At.proj (O117.atVar (j := 0) rfl) z5f))) z0t ?_
    refine D2.alloc (m := 15) rfl rfl (Al.buildSlice (r := rS) (vs := [(.string x99.From), (.string x99.To)]) (xs := [x99.From, x99.To]) el22 ze9 sz9 (by kernel_rfl) rfl (qc rfl (qc rfl qn)) rfl (.cons rfl (.cons rfl .nil))) (Free.up (by decide) F118) (by decide) O117 ?_
    rintro b121 H122 ⟨O123, sm124, F125⟩
    obtain ⟨c126, p127, f128⟩ := (O123.atVar (j := 1) rfl)
    refine D2.loadA' (cs := c126) rfl rfl ag69 sz69 (z0d rfl p127) (RT.len _ f128) z0t ?_
    obtain ⟨x129, i130, h131⟩ := z05 h101
    refine D2.loN rfl rfl (Lo.callP (ps := []) (ps' := []) rfl (fn := Tryd.f39) (by kernel_rfl) rfl (mc rfl mn) O123 (fun L' O' => z7r K c126 x99 f128 O' _ i130)) ?_ z0t ?_ ?_
    ·rintro v138 H139 ⟨G132, O133, s134, sm137, rfl⟩; exact (faR1 (.inl (by decide)) (faR1 (.inr (sm137 _ (Or.inr ⟨1, _, rfl, List.mem_singleton.2 rfl⟩))) (faR1 (.inr (sm137 _ (Or.inr ⟨1, _, rfl, List.mem_singleton.2 rfl⟩))) (faR1 (.inr (sm137 _ (Or.inr ⟨1, _, rfl, List.mem_singleton.2 rfl⟩))) z0t))))
    ·rintro v138 H139 ⟨G132, O133, s134, sm137, rfl⟩; exact (faR1 (.inr (sm137 _ (Or.inr ⟨0, _, rfl, List.mem_singleton.2 rfl⟩))) z0t)
    rintro v138 H139 ⟨G132, O133, s134, sm137, rfl⟩ nx140
    have F141 := Free.nx F125 nx140
    replace O133 : Ow G132 H139 (eSl (.slice (some ⟨b121, 0, some 0⟩) 2 2) 9 rS [x99.From, x99.To] :: eVar b107 69 z0f x99 :: eVar b2 29 z00 p0 :: eSl (σ89 3) 62 z08 x87 :: L) := O133
    refine D2.pure (v := (.bool (x129 != 0))) rfl rfl (z2g (oo rfl rfl) (oo rfl rfl) rfl) ?_
    obtain ⟨G142, O143, s144, f145⟩ := O133.frzSl (j := 0) rfl
    replace O143 : Ow G142 H139 (eVar b107 69 z0f x99 :: eVar b2 29 z00 p0 :: eSl (σ89 3) 62 z08 x87 :: L) := O143
    obtain ⟨c146, e148, f147⟩ := z26 (G := G142) ((.string x99.Name)) ((.slice (some ⟨b121, 0, some 0⟩) 2 2)) ((.bool true)) ((.bool (x129 != 0))) (rfl) ((z5h f145)) (rfl) (rfl)
    refine D2.pure (v := .agg (List.toArray c146)) rfl rfl (e148 (z4v rfl (qc' rfl (qc' rfl (qc' rfl (qc' rfl qn')))))) ?_
    refine D2.alloc (m := 15) rfl rfl (Al.buildSlice (r := z08) (vs := [(.agg (List.toArray c146))]) (xs := [(Item.mk x99.Name [x99.From, x99.To] true (x129 != 0))]) el59 ze62 sz62 (by kernel_rfl) rfl (qc rfl qn) rfl (.cons f147 .nil)) (Free.up (by decide) F141) (by decide) O143 ?_
    rintro b150 H151 ⟨O152, sm153, F154⟩
    obtain ⟨es156, e157, e158⟩ := z3a (j := 0) rfl O152
    obtain ⟨g159, h160⟩ := z2a h131
    refine D2.lo rfl rfl (Lo.append (j := 3) (v := (σ89 3)) rfl rfl el59 ni59 ze62 sz62 by62 (by decide) (by decide) rfl e157 e158 g159 O152) ?_ (z3k (by decide) z0t) ?_ ?_
    ·rintro v162 H163 ⟨O155, sm161⟩; exact (faR1 (.inl (by decide)) (faR1 (.inl (by decide)) (faR1 (.inl (by decide)) (faR1 (.inl (by decide)) z0t))))
    ·rintro v162 H163 ⟨O155, sm161⟩; exact (faR1 (.inl (by decide)) (faR1 (.inl (by decide)) z0t))
    rintro v162 H163 ⟨O155, sm161⟩
    replace O155 : Ow G142 H163 (eSl (.slice (some ⟨b150, 0, some 0⟩) 1 1) 62 z08 [(Item.mk x99.Name [x99.From, x99.To] true (x129 != 0))] :: eVar b107 69 z0f x99 :: eVar b2 29 z00 p0 :: eSl v162 62 z08 (x87 ++ [(Item.mk x99.Name [x99.From, x99.To] true (x129 != 0))]) :: L) := O155
    refine D2.pure (v := v162) rfl rfl (z01 (oo rfl rfl)) ?_
    refine .nil ?_
    refine .region ?_
    refine W.pure (v := (.int .i64 (z0p .i64 (x88 + 1)))) rfl rfl (z2g (oo rfl t96) (oo rfl rfl) rfl) ?_
    refine W.pure (v := (.int .i64 (z0p .i64 (x88 + 1)))) rfl rfl (z02 (oo rfl rfl)) ?_
    refine .nil ?_
    have O164 : Ow G142 H163 (eVar b107 69 z0f x99 :: eVar b2 29 z00 p0 :: eSl v162 62 z08 (x87 ++ [(Item.mk x99.Name [x99.From, x99.To] true (x129 != 0))]) :: L) := O155.drop 0
    have O165 : Ow G142 H163 (eVar b2 29 z00 p0 :: eSl v162 62 z08 (x87 ++ [(Item.mk x99.Name [x99.From, x99.To] true (x129 != 0))]) :: L) := O164.drop 0
    exact ⟨k86, zAg _, ⟨(x87 ++ [(Item.mk x99.Name [x99.From, x99.To] true (x129 != 0))]), z0p .i64 (x88 + 1), _, h160, O165, (zAe s94 (zAe s134 s144)), rfl⟩⟩
   ·have h166 := z16 g97 h95
    refine .exit ?_
    obtain rfl := zAa h166
    exact ⟨x87, _, rfl, O93, s94⟩
  ·rintro σ168 H169 fr170 ⟨x167, G171, rfl, O172, s173⟩
   have h175 := z0b h85
   refine .seq ?_
   refine .seq ?_
   refine .region ?_
   refine W.pure (v := (padd (.pointer (some ⟨b2, 0, none⟩)) 3)) rfl rfl (z07 zc5 (oo rfl ((fr170 1 rfl).trans ((fr74 1 rfl).trans rfl))) (O172.atVar (j := 0) rfl)) ?_
   obtain ⟨w176, p177, f178⟩ := At.sl (At.proj (O172.atVar (j := 0) rfl) z3h)
   refine W.load1 (v := w176) (r := []) rfl rfl ag25 (z0d rfl p177) ?_
   refine W.pure (v := (.int .i64 (List.length p0.Gens : Int))) rfl rfl (z25 (oo rfl rfl) (z0x f178) (z04 el25)) ?_
   refine W.pure (v := (.int .i64 0)) rfl rfl (z02 (oo rfl rfl)) ?_
   refine .nil ?_
   obtain ⟨q179, h180, h181⟩ := z05 h175
   refine AW.midT (fun σ' H' => ∃ (y1 : List Item) (G' : GM), y1 = q179 /\ Ow G' H' (eVar b2 29 z00 p0 :: eSl (σ' 3) 62 z08 y1 :: L) /\ GM.le G171 G') ?_ ?_
   ·refine .block ?_
    refine AW.loop (α := Nat) (fun k' σ' H' => ∃ (y1 : List Item) (y2 : Int) (G' : GM), z2p K p0 k' y1 y2 = some q179 /\ Ow G' H' (eVar b2 29 z00 p0 :: eSl (σ' 3) 62 z08 y1 :: L) /\ GM.le G171 G' /\ σ' 58 = .int .i64 y2) (fun k' => k') K ⟨x167, 0, _, h180, O172, (zAf _), rfl⟩ ?_
    rintro k182
    rintro σ185 H186 fr187 ⟨x183, x184, G188, h191, O189, s190, t192⟩
    rcases k182 with _ | k182
    ·exact z09 h191
    rw [z2p] at h191
    refine .seq ?_
    refine .region ?_
    refine W.pure (v := (.bool (decide (x184 < (List.length p0.Gens : Int))))) rfl rfl (z2g (oo rfl t192) (oo rfl ((fr187 57 rfl).trans rfl)) rfl) ?_
    refine .nil ?_
    refine .seq ?_
    refine .cond (b := decide (x184 < (List.length p0.Gens : Int))) rfl rfl (fun g193 => ?_) (fun g193 => ?_)
    ·have h194 := z03 g193 h191
     refine .skip ?_
     refine .seq ?_
     obtain ⟨q195, h196, h197⟩ := z05 h194
     refine AW.midT (fun σ' H' => ∃ (y1 : List Item) (G' : GM), y1 = q195 /\ Ow G' H' (eVar b2 29 z00 p0 :: eSl (σ' 3) 62 z08 y1 :: L) /\ GM.le G188 G') ?_ ?_
     ·refine .block ?_
      refine .seq ?_
      refine .region ?_
      obtain ⟨x198, i199, h200⟩ := z05 h196
      have j201 := z1n i199
      refine W.pure (v := (z4t w176 (Int.toNat x184 * 5))) rfl rfl (z5d el25 sz71 (oo rfl ((fr187 56 rfl).trans rfl)) (oo rfl t192) (z0x (RT.mono _ s190 f178)) j201.1 j201.2.1) ?_
      obtain ⟨c202, p203, f204⟩ := (At.le (At.le (z3c f178 j201.2.2) s190 s190) (zAf _) O189.fro)
      refine W.loadA (cs := c202) rfl rfl ag71 sz71 (z0d rfl p203) (RT.len _ f204) ?_
      refine W.lo rfl rfl (Lo.alloc (r := z4w) (x0 := (Gen.mk ByteArray.empty ByteArray.empty 0 0 0)) ze71 (by kernel_rfl) zip O189) ?_
      rintro v208 H209 ⟨b206, rfl, O205, sm207⟩
      refine W.lo rfl rfl (Lo.storeVar (j := 0) (s := z4w) (y0 := x198) (v := (.agg (List.toArray c202))) (o := 0) rfl ((Put.at (Put.self _) _ _)) rfl sz71 rfl (by omega) rfl f204 O205) ?_
      rintro v212 H213 ⟨O210, sm211⟩
      replace O210 : Ow G188 H213 (eVar b206 71 z4w x198 :: eVar b2 29 z00 p0 :: eSl (σ185 3) 62 z08 x183 :: L) := O210
      refine .nil ?_
      refine .draw2 (M := [0, 0, 2, 0, 8, 24, 0, 64, 192, 448, 960, 1984, 4032, 1984, 10176, 32704, 65472, 131008, 262080, 524224, 1048512, 2097088, 4194240, 8388544, 16777214, 33554430, 67108863, 134217727]) mixed (by kernel_rfl) (by kernel_rfl) fun H214 N218 x215 F217 => ?_
      have O216 := O210.ext x215
      refine D2.pure (v := (σ185 3)) rfl rfl (z02 (oo rfl rfl)) ?_
      refine D2.pure (v := (padd (.pointer (some ⟨b206, 0, none⟩)) 0)) rfl rfl (z07 zfi (oo rfl rfl) (O216.atVar (j := 0) rfl)) ?_
      refine D2.load1' (v := (.string x198.Name)) (r := []) rfl rfl ag9 (z0d rfl (At.str (At.proj (O216.atVar (j := 0) rfl) z79))) z0t ?_
      refine D2.pure (v := (padd (.pointer (some ⟨b206, 0, none⟩)) 1)) rfl rfl (z07 zfj (oo rfl rfl) (O216.atVar (j := 0) rfl)) ?_
      refine D2.load1' (v := (.string x198.Node)) (r := []) rfl rfl ag9 (z0d rfl (At.str (At.proj (O216.atVar (j := 0) rfl) z7a))) z0t ?_
      refine D2.alloc (m := 28) rfl rfl (Al.buildSlice (r := rS) (vs := [(.string x198.Node)]) (xs := [x198.Node]) el22 ze9 sz9 (by kernel_rfl) rfl (qc rfl qn) rfl (.cons rfl .nil)) (Free.up (by decide) F217) (by decide) O216 ?_
      rintro b220 H221 ⟨O222, sm223, F224⟩
      refine D2.pure (v := (padd (.pointer (some ⟨b206, 0, none⟩)) 2)) rfl rfl (z07 zc9 (oo rfl rfl) (O222.atVar (j := 1) rfl)) ?_
      refine D2.load1' (v := (.int .i64 x198.Least)) (r := []) rfl rfl ag3 (z0d rfl (At.int (At.proj (O222.atVar (j := 1) rfl) z4q))) z0t ?_
      obtain ⟨x225, i226, h227⟩ := z05 h200
      refine D2.loN rfl rfl (Lo.callP (ps := []) (ps' := []) rfl (fn := Tryd.f40) (by kernel_rfl) rfl (mc rfl (mc rfl (mc rfl mn))) O222 (fun L' O' => z3j K x198.Least 0 100000 O' _ i226)) ?_ z0t ?_ ?_
      ·rintro v234 H235 ⟨G228, O229, s230, sm233, rfl⟩; exact (faR1 (.inl (by decide)) (faR1 (.inr (sm233 _ (Or.inr ⟨1, _, rfl, List.mem_singleton.2 rfl⟩))) (faR1 (.inr (sm233 _ (Or.inr ⟨1, _, rfl, List.mem_singleton.2 rfl⟩))) z0t)))
      ·rintro v234 H235 ⟨G228, O229, s230, sm233, rfl⟩; exact (faR1 (.inr (sm233 _ (Or.inr ⟨0, _, rfl, List.mem_singleton.2 rfl⟩))) z0t)
      rintro v234 H235 ⟨G228, O229, s230, sm233, rfl⟩ nx236
      have F237 := Free.nx F224 nx236
      replace O229 : Ow G228 H235 (eSl (.slice (some ⟨b220, 0, some 0⟩) 1 1) 9 rS [x198.Node] :: eVar b206 71 z4w x198 :: eVar b2 29 z00 p0 :: eSl (σ185 3) 62 z08 x183 :: L) := O229
      refine D2.pure (v := (.bool (!x225))) rfl rfl (z1g (a := x225) (oo rfl rfl)) ?_
      refine D2.pure (v := (.bool (!x225))) rfl rfl (z02 (oo rfl rfl)) ?_
      refine D2.splitAt (t := 72) (b := (!x225)) rfl (fun g238 gv239 => ?_) (fun g238 gv239 => ?_)
      ·have h240 := z03 g238 h227
       refine D2.skip (gk rfl rfl gv239 rfl) rfl ?_
       refine D2.skip (gk rfl rfl gv239 rfl) rfl ?_
       refine D2.skip (gk rfl rfl gv239 rfl) rfl ?_
       refine D2.skip (gk rfl rfl gv239 rfl) rfl ?_
       refine D2.skip (gk rfl rfl gv239 rfl) rfl ?_
       refine D2.skip (gk rfl rfl gv239 rfl) rfl ?_
       refine D2.pure (v := (.bool true)) rfl rfl (z0u (oo rfl gv239) (oo rfl rfl)) ?_
       refine D2.pure (v := (.bool true)) rfl rfl (z02 (oo rfl rfl)) ?_
       refine D2.skip (gk rfl rfl rfl rfl) rfl ?_
       refine D2.skip (gk rfl rfl rfl rfl) rfl ?_
       refine D2.skip (gk rfl rfl rfl rfl) rfl ?_
       refine D2.skip (gk rfl rfl rfl rfl) rfl ?_
       refine D2.pure (v := (.bool true)) rfl rfl (z0u (oo rfl rfl) (oo rfl rfl)) ?_
       obtain ⟨G241, O242, s243, f244⟩ := O229.frzSl (j := 0) rfl
       replace O242 : Ow G241 H235 (eVar b206 71 z4w x198 :: eVar b2 29 z00 p0 :: eSl (σ185 3) 62 z08 x183 :: L) := O242
       obtain ⟨c245, e247, f246⟩ := z26 (G := G241) ((.string x198.Name)) ((.slice (some ⟨b220, 0, some 0⟩) 1 1)) ((.bool false)) ((.bool true)) (rfl) ((z5h f244)) (rfl) (rfl)
       refine D2.pure (v := .agg (List.toArray c245)) rfl rfl (e247 (z4v rfl (qc' rfl (qc' rfl (qc' rfl (qc' rfl qn')))))) ?_
       refine D2.alloc (m := 28) rfl rfl (Al.buildSlice (r := z08) (vs := [(.agg (List.toArray c245))]) (xs := [(Item.mk x198.Name [x198.Node] false true)]) el59 ze62 sz62 (by kernel_rfl) rfl (qc rfl qn) rfl (.cons f246 .nil)) (Free.up (by decide) F237) (by decide) O242 ?_
       rintro b249 H250 ⟨O251, sm252, F253⟩
       obtain ⟨es255, e256, e257⟩ := z3a (j := 0) rfl O251
       obtain ⟨g258, h259⟩ := z2a h240
       refine D2.lo rfl rfl (Lo.append (j := 3) (v := (σ185 3)) rfl rfl el59 ni59 ze62 sz62 by62 (by decide) (by decide) rfl e256 e257 g258 O251) ?_ (z3k (by decide) z0t) ?_ ?_
       ·rintro v261 H262 ⟨O254, sm260⟩; exact (faR1 (.inl (by decide)) (faR1 (.inl (by decide)) (faR1 (.inl (by decide)) z0t)))
       ·rintro v261 H262 ⟨O254, sm260⟩; exact (faR1 (.inl (by decide)) (faR1 (.inl (by decide)) z0t))
       rintro v261 H262 ⟨O254, sm260⟩
       replace O254 : Ow G241 H262 (eSl (.slice (some ⟨b249, 0, some 0⟩) 1 1) 62 z08 [(Item.mk x198.Name [x198.Node] false true)] :: eVar b206 71 z4w x198 :: eVar b2 29 z00 p0 :: eSl v261 62 z08 (x183 ++ [(Item.mk x198.Name [x198.Node] false true)]) :: L) := O254
       refine D2.pure (v := v261) rfl rfl (z01 (oo rfl rfl)) ?_
       refine .nil ?_
       have O263 : Ow G241 H262 (eVar b206 71 z4w x198 :: eVar b2 29 z00 p0 :: eSl v261 62 z08 (x183 ++ [(Item.mk x198.Name [x198.Node] false true)]) :: L) := O254.drop 0
       have O264 : Ow G241 H262 (eVar b2 29 z00 p0 :: eSl v261 62 z08 (x183 ++ [(Item.mk x198.Name [x198.Node] false true)]) :: L) := O263.drop 0
       obtain rfl := zAa h259
       exact ⟨(x183 ++ [(Item.mk x198.Name [x198.Node] false true)]), _, rfl, O264, (zAe s230 s243)⟩
      ·have h265 := z16 g238 h227
       refine D2.pure (v := (padd (.pointer (some ⟨b206, 0, none⟩)) 3)) (gk rfl rfl gv239 rfl) rfl (z07 zfk (oo rfl rfl) (O229.atVar (j := 1) rfl)) ?_
       refine D2.load1' (v := (.int .i64 x198.Most)) (r := []) (gk rfl rfl gv239 rfl) rfl ag3 (z0d rfl (At.int (At.proj (O229.atVar (j := 1) rfl) z7b))) (z8j (by decide) z0t) ?_
       refine D2.pure (v := (padd (.pointer (some ⟨b206, 0, none⟩)) 2)) (gk rfl rfl gv239 rfl) rfl (z07 zc9 (oo rfl rfl) (O229.atVar (j := 1) rfl)) ?_
       refine D2.load1' (v := (.int .i64 x198.Least)) (r := []) (gk rfl rfl gv239 rfl) rfl ag3 (z0d rfl (At.int (At.proj (O229.atVar (j := 1) rfl) z4q))) (z8j (by decide) z0t) ?_
       obtain ⟨x266, i267, h268⟩ := z05 h265
       refine D2.loN (gk rfl rfl gv239 rfl) rfl (Lo.callP (ps := []) (ps' := []) rfl (fn := Tryd.f40) (by kernel_rfl) rfl (mc rfl (mc rfl (mc rfl mn))) O229 (fun L' O' => z3j K x198.Most x198.Least 100000 O' _ i267)) ?_ (z3k (by decide) z0t) ?_ ?_
       ·rintro v275 H276 ⟨G269, O270, s271, sm274, rfl⟩; exact (faR1 (.inl (by decide)) (faR1 (.inl (by decide)) (faR1 (.inl (by decide)) (faR1 (.inr (sm274 _ (Or.inr ⟨1, _, rfl, List.mem_singleton.2 rfl⟩))) (faR1 (.inr (sm274 _ (Or.inr ⟨1, _, rfl, List.mem_singleton.2 rfl⟩))) z0t)))))
       ·rintro v275 H276 ⟨G269, O270, s271, sm274, rfl⟩; exact (faR1 (.inr (sm274 _ (Or.inr ⟨0, _, rfl, List.mem_singleton.2 rfl⟩))) z0t)
       rintro v275 H276 ⟨G269, O270, s271, sm274, rfl⟩ nx277
       have F278 := Free.nx F237 nx277
       replace O270 : Ow G269 H276 (eSl (.slice (some ⟨b220, 0, some 0⟩) 1 1) 9 rS [x198.Node] :: eVar b206 71 z4w x198 :: eVar b2 29 z00 p0 :: eSl (σ185 3) 62 z08 x183 :: L) := O270
       refine D2.pure (v := (.bool (!x266))) (gk rfl rfl gv239 rfl) rfl (z1g (a := x266) (oo rfl rfl)) ?_
       refine D2.pure (v := (.bool (!x266))) rfl rfl (z1h (oo rfl gv239) (oo rfl rfl)) ?_
       refine D2.pure (v := (.bool (!x266))) rfl rfl (z02 (oo rfl rfl)) ?_
       refine D2.splitAt (t := 80) (b := (!x266)) rfl (fun g279 gv280 => ?_) (fun g279 gv280 => ?_)
       ·have h281 := z03 g279 h268
        refine D2.skip (gk rfl rfl gv280 rfl) rfl ?_
        refine D2.skip (gk rfl rfl gv280 rfl) rfl ?_
        refine D2.skip (gk rfl rfl gv280 rfl) rfl ?_
        refine D2.skip (gk rfl rfl gv280 rfl) rfl ?_
        refine D2.pure (v := (.bool true)) rfl rfl (z0u (oo rfl gv280) (oo rfl rfl)) ?_
        obtain ⟨G282, O283, s284, f285⟩ := O270.frzSl (j := 0) rfl
        replace O283 : Ow G282 H276 (eVar b206 71 z4w x198 :: eVar b2 29 z00 p0 :: eSl (σ185 3) 62 z08 x183 :: L) := O283
        obtain ⟨c286, e288, f287⟩ := z26 (G := G282) ((.string x198.Name)) ((.slice (some ⟨b220, 0, some 0⟩) 1 1)) ((.bool false)) ((.bool true)) (rfl) ((z5h f285)) (rfl) (rfl)
        refine D2.pure (v := .agg (List.toArray c286)) rfl rfl (e288 (z4v rfl (qc' rfl (qc' rfl (qc' rfl (qc' rfl qn')))))) ?_
        refine D2.alloc (m := 28) rfl rfl (Al.buildSlice (r := z08) (vs := [(.agg (List.toArray c286))]) (xs := [(Item.mk x198.Name [x198.Node] false true)]) el59 ze62 sz62 (by kernel_rfl) rfl (qc rfl qn) rfl (.cons f287 .nil)) (Free.up (by decide) F278) (by decide) O283 ?_
        rintro b290 H291 ⟨O292, sm293, F294⟩
        obtain ⟨es296, e297, e298⟩ := z3a (j := 0) rfl O292
        obtain ⟨g299, h300⟩ := z2a h281
        refine D2.lo rfl rfl (Lo.append (j := 3) (v := (σ185 3)) rfl rfl el59 ni59 ze62 sz62 by62 (by decide) (by decide) rfl e297 e298 g299 O292) ?_ (z3k (by decide) (z3k (by decide) z0t)) ?_ ?_
        ·rintro v302 H303 ⟨O295, sm301⟩; exact (faR1 (.inl (by decide)) (faR1 (.inl (by decide)) (faR1 (.inl (by decide)) (faR1 (.inl (by decide)) (faR1 (.inl (by decide)) z0t)))))
        ·rintro v302 H303 ⟨O295, sm301⟩; exact (faR1 (.inl (by decide)) (faR1 (.inl (by decide)) z0t))
        rintro v302 H303 ⟨O295, sm301⟩
        replace O295 : Ow G282 H303 (eSl (.slice (some ⟨b290, 0, some 0⟩) 1 1) 62 z08 [(Item.mk x198.Name [x198.Node] false true)] :: eVar b206 71 z4w x198 :: eVar b2 29 z00 p0 :: eSl v302 62 z08 (x183 ++ [(Item.mk x198.Name [x198.Node] false true)]) :: L) := O295
        refine D2.pure (v := v302) rfl rfl (z01 (oo rfl rfl)) ?_
        refine .nil ?_
        have O304 : Ow G282 H303 (eVar b206 71 z4w x198 :: eVar b2 29 z00 p0 :: eSl v302 62 z08 (x183 ++ [(Item.mk x198.Name [x198.Node] false true)]) :: L) := O295.drop 0
        have O305 : Ow G282 H303 (eVar b2 29 z00 p0 :: eSl v302 62 z08 (x183 ++ [(Item.mk x198.Name [x198.Node] false true)]) :: L) := O304.drop 0
        obtain rfl := zAa h300
        exact ⟨(x183 ++ [(Item.mk x198.Name [x198.Node] false true)]), _, rfl, O305, (zAe s230 (zAe s271 s284))⟩
       ·have h306 := z16 g279 h268
        refine D2.pure (v := (padd (.pointer (some ⟨b206, 0, none⟩)) 4)) (gk rfl rfl gv280 rfl) rfl (z07 zfl (oo rfl rfl) (O270.atVar (j := 1) rfl)) ?_
        refine D2.load1' (v := (.int .i64 x198.Ramp)) (r := []) (gk rfl rfl gv280 rfl) rfl ag3 (z0d rfl (At.int (At.proj (O270.atVar (j := 1) rfl) z7c))) (z8j (by decide) (z8j (by decide) z0t)) ?_
        obtain ⟨x307, i308, h309⟩ := z05 h306
        refine D2.loN (gk rfl rfl gv280 rfl) rfl (Lo.callP (ps := []) (ps' := []) rfl (fn := Tryd.f40) (by kernel_rfl) rfl (mc rfl (mc rfl (mc rfl mn))) O270 (fun L' O' => z3j K x198.Ramp 0 100000 O' _ i308)) ?_ (z3k (by decide) (z3k (by decide) z0t)) ?_ ?_
        ·rintro v316 H317 ⟨G310, O311, s312, sm315, rfl⟩; exact (faR1 (.inl (by decide)) (faR1 (.inl (by decide)) (faR1 (.inl (by decide)) (faR1 (.inl (by decide)) (faR1 (.inr (sm315 _ (Or.inr ⟨1, _, rfl, List.mem_singleton.2 rfl⟩))) (faR1 (.inr (sm315 _ (Or.inr ⟨1, _, rfl, List.mem_singleton.2 rfl⟩))) z0t))))))
        ·rintro v316 H317 ⟨G310, O311, s312, sm315, rfl⟩; exact (faR1 (.inr (sm315 _ (Or.inr ⟨0, _, rfl, List.mem_singleton.2 rfl⟩))) z0t)
        rintro v316 H317 ⟨G310, O311, s312, sm315, rfl⟩ nx318
        have F319 := Free.nx F278 nx318
        replace O311 : Ow G310 H317 (eSl (.slice (some ⟨b220, 0, some 0⟩) 1 1) 9 rS [x198.Node] :: eVar b206 71 z4w x198 :: eVar b2 29 z00 p0 :: eSl (σ185 3) 62 z08 x183 :: L) := O311
        refine D2.pure (v := (.bool (!x307))) (gk rfl rfl gv280 rfl) rfl (z1g (a := x307) (oo rfl rfl)) ?_
        refine D2.pure (v := (.bool (!x307))) rfl rfl (z1h (oo rfl gv280) (oo rfl rfl)) ?_
        obtain ⟨G320, O321, s322, f323⟩ := O311.frzSl (j := 0) rfl
        replace O321 : Ow G320 H317 (eVar b206 71 z4w x198 :: eVar b2 29 z00 p0 :: eSl (σ185 3) 62 z08 x183 :: L) := O321
        obtain ⟨c324, e326, f325⟩ := z26 (G := G320) ((.string x198.Name)) ((.slice (some ⟨b220, 0, some 0⟩) 1 1)) ((.bool false)) ((.bool (!x307))) (rfl) ((z5h f323)) (rfl) (rfl)
        refine D2.pure (v := .agg (List.toArray c324)) rfl rfl (e326 (z4v rfl (qc' rfl (qc' rfl (qc' rfl (qc' rfl qn')))))) ?_
        refine D2.alloc (m := 28) rfl rfl (Al.buildSlice (r := z08) (vs := [(.agg (List.toArray c324))]) (xs := [(Item.mk x198.Name [x198.Node] false (!x307))]) el59 ze62 sz62 (by kernel_rfl) rfl (qc rfl qn) rfl (.cons f325 .nil)) (Free.up (by decide) F319) (by decide) O321 ?_
        rintro b328 H329 ⟨O330, sm331, F332⟩
        obtain ⟨es334, e335, e336⟩ := z3a (j := 0) rfl O330
        obtain ⟨g337, h338⟩ := z2a h309
        refine D2.lo rfl rfl (Lo.append (j := 3) (v := (σ185 3)) rfl rfl el59 ni59 ze62 sz62 by62 (by decide) (by decide) rfl e335 e336 g337 O330) ?_ (z3k (by decide) (z3k (by decide) (z3k (by decide) z0t))) ?_ ?_
        ·rintro v340 H341 ⟨O333, sm339⟩; exact (faR1 (.inl (by decide)) (faR1 (.inl (by decide)) (faR1 (.inl (by decide)) (faR1 (.inl (by decide)) (faR1 (.inl (by decide)) (faR1 (.inl (by decide)) z0t))))))
        ·rintro v340 H341 ⟨O333, sm339⟩; exact (faR1 (.inl (by decide)) (faR1 (.inl (by decide)) z0t))
        rintro v340 H341 ⟨O333, sm339⟩
        replace O333 : Ow G320 H341 (eSl (.slice (some ⟨b328, 0, some 0⟩) 1 1) 62 z08 [(Item.mk x198.Name [x198.Node] false (!x307))] :: eVar b206 71 z4w x198 :: eVar b2 29 z00 p0 :: eSl v340 62 z08 (x183 ++ [(Item.mk x198.Name [x198.Node] false (!x307))]) :: L) := O333
        refine D2.pure (v := v340) rfl rfl (z01 (oo rfl rfl)) ?_
        refine .nil ?_
        have O342 : Ow G320 H341 (eVar b206 71 z4w x198 :: eVar b2 29 z00 p0 :: eSl v340 62 z08 (x183 ++ [(Item.mk x198.Name [x198.Node] false (!x307))]) :: L) := O333.drop 0
        have O343 : Ow G320 H341 (eVar b2 29 z00 p0 :: eSl v340 62 z08 (x183 ++ [(Item.mk x198.Name [x198.Node] false (!x307))]) :: L) := O342.drop 0
        obtain rfl := zAa h338
        exact ⟨(x183 ++ [(Item.mk x198.Name [x198.Node] false (!x307))]), _, rfl, O343, (zAe s230 (zAe s271 (zAe s312 s322)))⟩
     ·rintro σ345 H346 fr347 ⟨x344, G348, rfl, O349, s350⟩
      have h352 := z0b h197
      refine .region ?_
      refine W.pure (v := (.int .i64 (z0p .i64 (x184 + 1)))) rfl rfl (z2g (oo rfl ((fr347 58 rfl).trans t192)) (oo rfl rfl) rfl) ?_
      refine W.pure (v := (.int .i64 (z0p .i64 (x184 + 1)))) rfl rfl (z02 (oo rfl rfl)) ?_
      refine .nil ?_
      exact ⟨k182, zAg _, ⟨x344, z0p .i64 (x184 + 1), _, h352, O349, (zAe s190 s350), rfl⟩⟩
    ·have h353 := z16 g193 h191
     refine .exit ?_
     obtain rfl := zAa h353
     exact ⟨x183, _, rfl, O189, s190⟩
   ·rintro σ355 H356 fr357 ⟨x354, G358, rfl, O359, s360⟩
    have h362 := z0b h181
    refine .seq ?_
    refine .seq ?_
    refine .region ?_
    refine W.pure (v := (padd (.pointer (some ⟨b2, 0, none⟩)) 4)) rfl rfl (z07 zc6 (oo rfl ((fr357 1 rfl).trans ((fr170 1 rfl).trans ((fr74 1 rfl).trans rfl)))) (O359.atVar (j := 0) rfl)) ?_
    obtain ⟨w363, p364, f365⟩ := At.sl (At.proj (O359.atVar (j := 0) rfl) z36)
    refine W.load1 (v := w363) (r := []) rfl rfl ag26 (z0d rfl p364) ?_
    refine W.pure (v := (.int .i64 (List.length p0.Loads : Int))) rfl rfl (z25 (oo rfl rfl) (z0x f365) (z04 el26)) ?_
    refine W.pure (v := (.int .i64 0)) rfl rfl (z02 (oo rfl rfl)) ?_
    refine .nil ?_
    obtain ⟨q366, h367, h368⟩ := z05 h362
    refine AW.midT (fun σ' H' => ∃ (y1 : List Item) (G' : GM), y1 = q366 /\ Ow G' H' (eVar b2 29 z00 p0 :: eSl (σ' 3) 62 z08 y1 :: L) /\ GM.le G358 G') ?_ ?_
    ·refine .block ?_
     refine AW.loop (α := Nat) (fun k' σ' H' => ∃ (y1 : List Item) (y2 : Int) (G' : GM), z2q K p0 k' y1 y2 = some q366 /\ Ow G' H' (eVar b2 29 z00 p0 :: eSl (σ' 3) 62 z08 y1 :: L) /\ GM.le G358 G' /\ σ' 93 = .int .i64 y2) (fun k' => k') K ⟨x354, 0, _, h367, O359, (zAf _), rfl⟩ ?_
     rintro k369
     rintro σ372 H373 fr374 ⟨x370, x371, G375, h378, O376, s377, t379⟩
     rcases k369 with _ | k369
     ·exact z09 h378
     rw [z2q] at h378
     refine .seq ?_
     refine .region ?_
     refine W.pure (v := (.bool (decide (x371 < (List.length p0.Loads : Int))))) rfl rfl (z2g (oo rfl t379) (oo rfl ((fr374 92 rfl).trans rfl)) rfl) ?_
     refine .nil ?_
     refine .seq ?_
     refine .cond (b := decide (x371 < (List.length p0.Loads : Int))) rfl rfl (fun g380 => ?_) (fun g380 => ?_)
     ·have h381 := z03 g380 h378
      refine .skip ?_
      refine .seq ?_
      refine .block ?_
      refine .seq ?_
      refine .region ?_
      obtain ⟨x382, i383, h384⟩ := z05 h381
      have j385 := z1n i383
      refine W.pure (v := (z4t w363 (Int.toNat x371 * 3))) rfl rfl (z5d el26 sz45 (oo rfl ((fr374 91 rfl).trans rfl)) (oo rfl t379) (z0x (RT.mono _ s377 f365)) j385.1 j385.2.1) ?_
      obtain ⟨c386, p387, f388⟩ := (At.le (At.le (z3c f365 j385.2.2) s377 s377) (zAf _) O376.fro)
      refine W.loadA (cs := c386) rfl rfl ag45 sz45 (z0d rfl p387) (RT.len _ f388) ?_
      refine W.lo rfl rfl (Lo.alloc (r := z27) (x0 := (Load_.mk ByteArray.empty ByteArray.empty 0)) ze45 (by kernel_rfl) zbl O376) ?_
      rintro v392 H393 ⟨b390, rfl, O389, sm391⟩
      refine W.lo rfl rfl (Lo.storeVar (j := 0) (s := z27) (y0 := x382) (v := (.agg (List.toArray c386))) (o := 0) rfl ((Put.at (Put.self _) _ _)) rfl sz45 rfl (by omega) rfl f388 O389) ?_
      rintro v396 H397 ⟨O394, sm395⟩
      replace O394 : Ow G375 H397 (eVar b390 45 z27 x382 :: eVar b2 29 z00 p0 :: eSl (σ372 3) 62 z08 x370 :: L) := O394
      refine .nil ?_
      refine .draw2 (M := [0, 0, 2, 0, 8, 24, 0, 64, 192, 448, 1022, 2046, 4095, 8191]) mixed (by kernel_rfl) (by kernel_rfl) fun H398 N402 x399 F401 => ?_
      have O400 := O394.ext x399
      refine D2.pure (v := (σ372 3)) rfl rfl (z02 (oo rfl rfl)) ?_
      refine D2.pure (v := (padd (.pointer (some ⟨b390, 0, none⟩)) 0)) rfl rfl (z07 zf8 (oo rfl rfl) (O400.atVar (j := 0) rfl)) ?_
      refine D2.load1' (v := (.string x382.Name)) (r := []) rfl rfl ag9 (z0d rfl (At.str (At.proj (O400.atVar (j := 0) rfl) z5j))) z0t ?_
      refine D2.pure (v := (padd (.pointer (some ⟨b390, 0, none⟩)) 1)) rfl rfl (z07 zf9 (oo rfl rfl) (O400.atVar (j := 0) rfl)) ?_
      refine D2.load1' (v := (.string x382.Node)) (r := []) rfl rfl ag9 (z0d rfl (At.str (At.proj (O400.atVar (j := 0) rfl) z5k))) z0t ?_
      refine D2.alloc (m := 14) rfl rfl (Al.buildSlice (r := rS) (vs := [(.string x382.Node)]) (xs := [x382.Node]) el22 ze9 sz9 (by kernel_rfl) rfl (qc rfl qn) rfl (.cons rfl .nil)) (Free.up (by decide) F401) (by decide) O400 ?_
      rintro b404 H405 ⟨O406, sm407, F408⟩
      refine D2.pure (v := (padd (.pointer (some ⟨b390, 0, none⟩)) 2)) rfl rfl (z07 zfa (oo rfl rfl) (O406.atVar (j := 1) rfl)) ?_
      refine D2.load1' (v := (.int .i64 x382.Demand)) (r := []) rfl rfl ag3 (z0d rfl (At.int (At.proj (O406.atVar (j := 1) rfl) z4m))) z0t ?_
      obtain ⟨x409, i410, h411⟩ := z05 h384
      refine D2.loN rfl rfl (Lo.callP (ps := []) (ps' := []) rfl (fn := Tryd.f40) (by kernel_rfl) rfl (mc rfl (mc rfl (mc rfl mn))) O406 (fun L' O' => z3j K x382.Demand 0 100000 O' _ i410)) ?_ z0t ?_ ?_
      ·rintro v418 H419 ⟨G412, O413, s414, sm417, rfl⟩; exact (faR1 (.inl (by decide)) (faR1 (.inr (sm417 _ (Or.inr ⟨1, _, rfl, List.mem_singleton.2 rfl⟩))) (faR1 (.inr (sm417 _ (Or.inr ⟨1, _, rfl, List.mem_singleton.2 rfl⟩))) z0t)))
      ·rintro v418 H419 ⟨G412, O413, s414, sm417, rfl⟩; exact (faR1 (.inr (sm417 _ (Or.inr ⟨0, _, rfl, List.mem_singleton.2 rfl⟩))) z0t)
      rintro v418 H419 ⟨G412, O413, s414, sm417, rfl⟩ nx420
      have F421 := Free.nx F408 nx420
      replace O413 : Ow G412 H419 (eSl (.slice (some ⟨b404, 0, some 0⟩) 1 1) 9 rS [x382.Node] :: eVar b390 45 z27 x382 :: eVar b2 29 z00 p0 :: eSl (σ372 3) 62 z08 x370 :: L) := O413
      refine D2.pure (v := (.bool (!x409))) rfl rfl (z1g (a := x409) (oo rfl rfl)) ?_
      obtain ⟨G422, O423, s424, f425⟩ := O413.frzSl (j := 0) rfl
      replace O423 : Ow G422 H419 (eVar b390 45 z27 x382 :: eVar b2 29 z00 p0 :: eSl (σ372 3) 62 z08 x370 :: L) := O423
      obtain ⟨c426, e428, f427⟩ := z26 (G := G422) ((.string x382.Name)) ((.slice (some ⟨b404, 0, some 0⟩) 1 1)) ((.bool false)) ((.bool (!x409))) (rfl) ((z5h f425)) (rfl) (rfl)
      refine D2.pure (v := .agg (List.toArray c426)) rfl rfl (e428 (z4v rfl (qc' rfl (qc' rfl (qc' rfl (qc' rfl qn')))))) ?_
      refine D2.alloc (m := 14) rfl rfl (Al.buildSlice (r := z08) (vs := [(.agg (List.toArray c426))]) (xs := [(Item.mk x382.Name [x382.Node] false (!x409))]) el59 ze62 sz62 (by kernel_rfl) rfl (qc rfl qn) rfl (.cons f427 .nil)) (Free.up (by decide) F421) (by decide) O423 ?_
      rintro b430 H431 ⟨O432, sm433, F434⟩
      obtain ⟨es436, e437, e438⟩ := z3a (j := 0) rfl O432
      obtain ⟨g439, h440⟩ := z2a h411
      refine D2.lo rfl rfl (Lo.append (j := 3) (v := (σ372 3)) rfl rfl el59 ni59 ze62 sz62 by62 (by decide) (by decide) rfl e437 e438 g439 O432) ?_ (z3k (by decide) z0t) ?_ ?_
      ·rintro v442 H443 ⟨O435, sm441⟩; exact (faR1 (.inl (by decide)) (faR1 (.inl (by decide)) (faR1 (.inl (by decide)) z0t)))
      ·rintro v442 H443 ⟨O435, sm441⟩; exact (faR1 (.inl (by decide)) (faR1 (.inl (by decide)) z0t))
      rintro v442 H443 ⟨O435, sm441⟩
      replace O435 : Ow G422 H443 (eSl (.slice (some ⟨b430, 0, some 0⟩) 1 1) 62 z08 [(Item.mk x382.Name [x382.Node] false (!x409))] :: eVar b390 45 z27 x382 :: eVar b2 29 z00 p0 :: eSl v442 62 z08 (x370 ++ [(Item.mk x382.Name [x382.Node] false (!x409))]) :: L) := O435
      refine D2.pure (v := v442) rfl rfl (z01 (oo rfl rfl)) ?_
      refine .nil ?_
      refine .region ?_
      refine W.pure (v := (.int .i64 (z0p .i64 (x371 + 1)))) rfl rfl (z2g (oo rfl t379) (oo rfl rfl) rfl) ?_
      refine W.pure (v := (.int .i64 (z0p .i64 (x371 + 1)))) rfl rfl (z02 (oo rfl rfl)) ?_
      refine .nil ?_
      have O444 : Ow G422 H443 (eVar b390 45 z27 x382 :: eVar b2 29 z00 p0 :: eSl v442 62 z08 (x370 ++ [(Item.mk x382.Name [x382.Node] false (!x409))]) :: L) := O435.drop 0
      have O445 : Ow G422 H443 (eVar b2 29 z00 p0 :: eSl v442 62 z08 (x370 ++ [(Item.mk x382.Name [x382.Node] false (!x409))]) :: L) := O444.drop 0
      exact ⟨k369, zAg _, ⟨(x370 ++ [(Item.mk x382.Name [x382.Node] false (!x409))]), z0p .i64 (x371 + 1), _, h440, O445, (zAe s377 (zAe s414 s424)), rfl⟩⟩
     ·have h446 := z16 g380 h378
      refine .exit ?_
      obtain rfl := zAa h446
      exact ⟨x370, _, rfl, O376, s377⟩
    ·rintro σ448 H449 fr450 ⟨x447, G451, rfl, O452, s453⟩
     have h455 := z0b h368
     refine .seq ?_
     refine .seq ?_
     refine .region ?_
     refine W.pure (v := (padd (.pointer (some ⟨b2, 0, none⟩)) 5)) rfl rfl (z07 zc7 (oo rfl ((fr450 1 rfl).trans ((fr357 1 rfl).trans ((fr170 1 rfl).trans ((fr74 1 rfl).trans rfl))))) (O452.atVar (j := 0) rfl)) ?_
     obtain ⟨w456, p457, f458⟩ := At.sl (At.proj (O452.atVar (j := 0) rfl) z2w)
     refine W.load1 (v := w456) (r := []) rfl rfl ag27 (z0d rfl p457) ?_
     refine W.pure (v := (.int .i64 (List.length p0.Stores : Int))) rfl rfl (z25 (oo rfl rfl) (z0x f458) (z04 el27)) ?_
     refine W.pure (v := (.int .i64 0)) rfl rfl (z02 (oo rfl rfl)) ?_
     refine .nil ?_
     obtain ⟨q459, h460, h461⟩ := z05 h455
     refine AW.midT (fun σ' H' => ∃ (y1 : List Item) (G' : GM), y1 = q459 /\ Ow G' H' (eVar b2 29 z00 p0 :: eSl (σ' 3) 62 z08 y1 :: L) /\ GM.le G451 G') ?_ ?_
     ·refine .block ?_
      refine AW.loop (α := Nat) (fun k' σ' H' => ∃ (y1 : List Item) (y2 : Int) (G' : GM), z2r K p0 k' y1 y2 = some q459 /\ Ow G' H' (eVar b2 29 z00 p0 :: eSl (σ' 3) 62 z08 y1 :: L) /\ GM.le G451 G' /\ σ' 114 = .int .i64 y2) (fun k' => k') K ⟨x447, 0, _, h460, O452, (zAf _), rfl⟩ ?_
      rintro k462
      rintro σ465 H466 fr467 ⟨x463, x464, G468, h471, O469, s470, t472⟩
      rcases k462 with _ | k462
      ·exact z09 h471
      rw [z2r] at h471
      refine .seq ?_
      refine .region ?_
      refine W.pure (v := (.bool (decide (x464 < (List.length p0.Stores : Int))))) rfl rfl (z2g (oo rfl t472) (oo rfl ((fr467 113 rfl).trans rfl)) rfl) ?_
      refine .nil ?_
      refine .seq ?_
      refine .cond (b := decide (x464 < (List.length p0.Stores : Int))) rfl rfl (fun g473 => ?_) (fun g473 => ?_)
      ·have h474 := z03 g473 h471
       refine .skip ?_
       refine .seq ?_
       obtain ⟨q475, h476, h477⟩ := z05 h474
       refine AW.midT (fun σ' H' => ∃ (y1 : List Item) (G' : GM), y1 = q475 /\ Ow G' H' (eVar b2 29 z00 p0 :: eSl (σ' 3) 62 z08 y1 :: L) /\ GM.le G468 G') ?_ ?_
       ·refine .block ?_
        refine .seq ?_
        refine .region ?_
        obtain ⟨x478, i479, h480⟩ := z05 h476
        have j481 := z1n i479
        refine W.pure (v := (z4t w456 (Int.toNat x464 * 5))) rfl rfl (z5d el27 sz73 (oo rfl ((fr467 112 rfl).trans rfl)) (oo rfl t472) (z0x (RT.mono _ s470 f458)) j481.1 j481.2.1) ?_
        obtain ⟨c482, p483, f484⟩ := (At.le (At.le (z3c f458 j481.2.2) s470 s470) (zAf _) O469.fro)
        refine W.loadA (cs := c482) rfl rfl ag73 sz73 (z0d rfl p483) (RT.len _ f484) ?_
        refine W.lo rfl rfl (Lo.alloc (r := z1f) (x0 := (Store.mk ByteArray.empty ByteArray.empty 0 0 0)) ze73 (by kernel_rfl) zbm O469) ?_
        rintro v488 H489 ⟨b486, rfl, O485, sm487⟩
        refine W.lo rfl rfl (Lo.storeVar (j := 0) (s := z1f) (y0 := x478) (v := (.agg (List.toArray c482))) (o := 0) rfl ((Put.at (Put.self _) _ _)) rfl sz73 rfl (by omega) rfl f484 O485) ?_
        rintro v492 H493 ⟨O490, sm491⟩
        replace O490 : Ow G468 H493 (eVar b486 73 z1f x478 :: eVar b2 29 z00 p0 :: eSl (σ465 3) 62 z08 x463 :: L) := O490
        refine .nil ?_
        refine .draw2 (M := [0, 0, 2, 0, 8, 24, 0, 64, 192, 448, 960, 1984, 4032, 8128, 16320, 32704, 65472, 131008, 262080, 524224, 1048512, 2097088, 4194302, 8388606, 16777215, 33554431]) mixed (by kernel_rfl) (by kernel_rfl) fun H494 N498 x495 F497 => ?_
        have O496 := O490.ext x495
        refine D2.pure (v := (σ465 3)) rfl rfl (z02 (oo rfl rfl)) ?_
        refine D2.pure (v := (padd (.pointer (some ⟨b486, 0, none⟩)) 0)) rfl rfl (z07 zfm (oo rfl rfl) (O496.atVar (j := 0) rfl)) ?_
        refine D2.load1' (v := (.string x478.Name)) (r := []) rfl rfl ag9 (z0d rfl (At.str (At.proj (O496.atVar (j := 0) rfl) z5l))) z0t ?_
        refine D2.pure (v := (padd (.pointer (some ⟨b486, 0, none⟩)) 1)) rfl rfl (z07 zfn (oo rfl rfl) (O496.atVar (j := 0) rfl)) ?_
        refine D2.load1' (v := (.string x478.Node)) (r := []) rfl rfl ag9 (z0d rfl (At.str (At.proj (O496.atVar (j := 0) rfl) z5m))) z0t ?_
        refine D2.alloc (m := 26) rfl rfl (Al.buildSlice (r := rS) (vs := [(.string x478.Node)]) (xs := [x478.Node]) el22 ze9 sz9 (by kernel_rfl) rfl (qc rfl qn) rfl (.cons rfl .nil)) (Free.up (by decide) F497) (by decide) O496 ?_
        rintro b500 H501 ⟨O502, sm503, F504⟩
        refine D2.pure (v := (padd (.pointer (some ⟨b486, 0, none⟩)) 2)) rfl rfl (z07 zfo (oo rfl rfl) (O502.atVar (j := 1) rfl)) ?_
        refine D2.load1' (v := (.int .i64 x478.Charge)) (r := []) rfl rfl ag3 (z0d rfl (At.int (At.proj (O502.atVar (j := 1) rfl) z4n))) z0t ?_
        obtain ⟨x505, i506, h507⟩ := z05 h480
        refine D2.loN rfl rfl (Lo.callP (ps := []) (ps' := []) rfl (fn := Tryd.f40) (by kernel_rfl) rfl (mc rfl (mc rfl (mc rfl mn))) O502 (fun L' O' => z3j K x478.Charge 0 100000 O' _ i506)) ?_ z0t ?_ ?_
        ·rintro v514 H515 ⟨G508, O509, s510, sm513, rfl⟩; exact (faR1 (.inl (by decide)) (faR1 (.inr (sm513 _ (Or.inr ⟨1, _, rfl, List.mem_singleton.2 rfl⟩))) (faR1 (.inr (sm513 _ (Or.inr ⟨1, _, rfl, List.mem_singleton.2 rfl⟩))) z0t)))
        ·rintro v514 H515 ⟨G508, O509, s510, sm513, rfl⟩; exact (faR1 (.inr (sm513 _ (Or.inr ⟨0, _, rfl, List.mem_singleton.2 rfl⟩))) z0t)
        rintro v514 H515 ⟨G508, O509, s510, sm513, rfl⟩ nx516
        have F517 := Free.nx F504 nx516
        replace O509 : Ow G508 H515 (eSl (.slice (some ⟨b500, 0, some 0⟩) 1 1) 9 rS [x478.Node] :: eVar b486 73 z1f x478 :: eVar b2 29 z00 p0 :: eSl (σ465 3) 62 z08 x463 :: L) := O509
        refine D2.pure (v := (.bool (!x505))) rfl rfl (z1g (a := x505) (oo rfl rfl)) ?_
        refine D2.pure (v := (.bool (!x505))) rfl rfl (z02 (oo rfl rfl)) ?_
        refine D2.splitAt (t := 128) (b := (!x505)) rfl (fun g518 gv519 => ?_) (fun g518 gv519 => ?_)
        ·have h520 := z03 g518 h507
         refine D2.skip (gk rfl rfl gv519 rfl) rfl ?_
         refine D2.skip (gk rfl rfl gv519 rfl) rfl ?_
         refine D2.skip (gk rfl rfl gv519 rfl) rfl ?_
         refine D2.skip (gk rfl rfl gv519 rfl) rfl ?_
         refine D2.pure (v := (.bool true)) rfl rfl (z0u (oo rfl gv519) (oo rfl rfl)) ?_
         refine D2.pure (v := (.bool true)) rfl rfl (z02 (oo rfl rfl)) ?_
         refine D2.skip (gk rfl rfl rfl rfl) rfl ?_
         refine D2.skip (gk rfl rfl rfl rfl) rfl ?_
         refine D2.skip (gk rfl rfl rfl rfl) rfl ?_
         refine D2.skip (gk rfl rfl rfl rfl) rfl ?_
         refine D2.pure (v := (.bool true)) rfl rfl (z0u (oo rfl rfl) (oo rfl rfl)) ?_
         obtain ⟨G521, O522, s523, f524⟩ := O509.frzSl (j := 0) rfl
         replace O522 : Ow G521 H515 (eVar b486 73 z1f x478 :: eVar b2 29 z00 p0 :: eSl (σ465 3) 62 z08 x463 :: L) := O522
         obtain ⟨c525, e527, f526⟩ := z26 (G := G521) ((.string x478.Name)) ((.slice (some ⟨b500, 0, some 0⟩) 1 1)) ((.bool false)) ((.bool true)) (rfl) ((z5h f524)) (rfl) (rfl)
         refine D2.pure (v := .agg (List.toArray c525)) rfl rfl (e527 (z4v rfl (qc' rfl (qc' rfl (qc' rfl (qc' rfl qn')))))) ?_
         refine D2.alloc (m := 26) rfl rfl (Al.buildSlice (r := z08) (vs := [(.agg (List.toArray c525))]) (xs := [(Item.mk x478.Name [x478.Node] false true)]) el59 ze62 sz62 (by kernel_rfl) rfl (qc rfl qn) rfl (.cons f526 .nil)) (Free.up (by decide) F517) (by decide) O522 ?_
         rintro b529 H530 ⟨O531, sm532, F533⟩
         obtain ⟨es535, e536, e537⟩ := z3a (j := 0) rfl O531
         obtain ⟨g538, h539⟩ := z2a h520
         refine D2.lo rfl rfl (Lo.append (j := 3) (v := (σ465 3)) rfl rfl el59 ni59 ze62 sz62 by62 (by decide) (by decide) rfl e536 e537 g538 O531) ?_ (z3k (by decide) z0t) ?_ ?_
         ·rintro v541 H542 ⟨O534, sm540⟩; exact (faR1 (.inl (by decide)) (faR1 (.inl (by decide)) (faR1 (.inl (by decide)) z0t)))
         ·rintro v541 H542 ⟨O534, sm540⟩; exact (faR1 (.inl (by decide)) (faR1 (.inl (by decide)) z0t))
         rintro v541 H542 ⟨O534, sm540⟩
         replace O534 : Ow G521 H542 (eSl (.slice (some ⟨b529, 0, some 0⟩) 1 1) 62 z08 [(Item.mk x478.Name [x478.Node] false true)] :: eVar b486 73 z1f x478 :: eVar b2 29 z00 p0 :: eSl v541 62 z08 (x463 ++ [(Item.mk x478.Name [x478.Node] false true)]) :: L) := O534
         refine D2.pure (v := v541) rfl rfl (z01 (oo rfl rfl)) ?_
         refine .nil ?_
         have O543 : Ow G521 H542 (eVar b486 73 z1f x478 :: eVar b2 29 z00 p0 :: eSl v541 62 z08 (x463 ++ [(Item.mk x478.Name [x478.Node] false true)]) :: L) := O534.drop 0
         have O544 : Ow G521 H542 (eVar b2 29 z00 p0 :: eSl v541 62 z08 (x463 ++ [(Item.mk x478.Name [x478.Node] false true)]) :: L) := O543.drop 0
         obtain rfl := zAa h539
         exact ⟨(x463 ++ [(Item.mk x478.Name [x478.Node] false true)]), _, rfl, O544, (zAe s510 s523)⟩
        ·have h545 := z16 g518 h507
         refine D2.pure (v := (padd (.pointer (some ⟨b486, 0, none⟩)) 3)) (gk rfl rfl gv519 rfl) rfl (z07 zfp (oo rfl rfl) (O509.atVar (j := 1) rfl)) ?_
         refine D2.load1' (v := (.int .i64 x478.Discharge)) (r := []) (gk rfl rfl gv519 rfl) rfl ag3 (z0d rfl (At.int (At.proj (O509.atVar (j := 1) rfl) z3q))) (z8j (by decide) z0t) ?_
         obtain ⟨x546, i547, h548⟩ := z05 h545
         refine D2.loN (gk rfl rfl gv519 rfl) rfl (Lo.callP (ps := []) (ps' := []) rfl (fn := Tryd.f40) (by kernel_rfl) rfl (mc rfl (mc rfl (mc rfl mn))) O509 (fun L' O' => z3j K x478.Discharge 0 100000 O' _ i547)) ?_ (z3k (by decide) z0t) ?_ ?_
         ·rintro v555 H556 ⟨G549, O550, s551, sm554, rfl⟩; exact (faR1 (.inl (by decide)) (faR1 (.inl (by decide)) (faR1 (.inr (sm554 _ (Or.inr ⟨1, _, rfl, List.mem_singleton.2 rfl⟩))) (faR1 (.inr (sm554 _ (Or.inr ⟨1, _, rfl, List.mem_singleton.2 rfl⟩))) z0t))))
         ·rintro v555 H556 ⟨G549, O550, s551, sm554, rfl⟩; exact (faR1 (.inr (sm554 _ (Or.inr ⟨0, _, rfl, List.mem_singleton.2 rfl⟩))) z0t)
         rintro v555 H556 ⟨G549, O550, s551, sm554, rfl⟩ nx557
         have F558 := Free.nx F517 nx557
         replace O550 : Ow G549 H556 (eSl (.slice (some ⟨b500, 0, some 0⟩) 1 1) 9 rS [x478.Node] :: eVar b486 73 z1f x478 :: eVar b2 29 z00 p0 :: eSl (σ465 3) 62 z08 x463 :: L) := O550
         refine D2.pure (v := (.bool (!x546))) (gk rfl rfl gv519 rfl) rfl (z1g (a := x546) (oo rfl rfl)) ?_
         refine D2.pure (v := (.bool (!x546))) rfl rfl (z1h (oo rfl gv519) (oo rfl rfl)) ?_
         refine D2.pure (v := (.bool (!x546))) rfl rfl (z02 (oo rfl rfl)) ?_
         refine D2.splitAt (t := 134) (b := (!x546)) rfl (fun g559 gv560 => ?_) (fun g559 gv560 => ?_)
         ·have h561 := z03 g559 h548
          refine D2.skip (gk rfl rfl gv560 rfl) rfl ?_
          refine D2.skip (gk rfl rfl gv560 rfl) rfl ?_
          refine D2.skip (gk rfl rfl gv560 rfl) rfl ?_
          refine D2.skip (gk rfl rfl gv560 rfl) rfl ?_
          refine D2.pure (v := (.bool true)) rfl rfl (z0u (oo rfl gv560) (oo rfl rfl)) ?_
          obtain ⟨G562, O563, s564, f565⟩ := O550.frzSl (j := 0) rfl
          replace O563 : Ow G562 H556 (eVar b486 73 z1f x478 :: eVar b2 29 z00 p0 :: eSl (σ465 3) 62 z08 x463 :: L) := O563
          obtain ⟨c566, e568, f567⟩ := z26 (G := G562) ((.string x478.Name)) ((.slice (some ⟨b500, 0, some 0⟩) 1 1)) ((.bool false)) ((.bool true)) (rfl) ((z5h f565)) (rfl) (rfl)
          refine D2.pure (v := .agg (List.toArray c566)) rfl rfl (e568 (z4v rfl (qc' rfl (qc' rfl (qc' rfl (qc' rfl qn')))))) ?_
          refine D2.alloc (m := 26) rfl rfl (Al.buildSlice (r := z08) (vs := [(.agg (List.toArray c566))]) (xs := [(Item.mk x478.Name [x478.Node] false true)]) el59 ze62 sz62 (by kernel_rfl) rfl (qc rfl qn) rfl (.cons f567 .nil)) (Free.up (by decide) F558) (by decide) O563 ?_
          rintro b570 H571 ⟨O572, sm573, F574⟩
          obtain ⟨es576, e577, e578⟩ := z3a (j := 0) rfl O572
          obtain ⟨g579, h580⟩ := z2a h561
          refine D2.lo rfl rfl (Lo.append (j := 3) (v := (σ465 3)) rfl rfl el59 ni59 ze62 sz62 by62 (by decide) (by decide) rfl e577 e578 g579 O572) ?_ (z3k (by decide) (z3k (by decide) z0t)) ?_ ?_
          ·rintro v582 H583 ⟨O575, sm581⟩; exact (faR1 (.inl (by decide)) (faR1 (.inl (by decide)) (faR1 (.inl (by decide)) (faR1 (.inl (by decide)) z0t))))
          ·rintro v582 H583 ⟨O575, sm581⟩; exact (faR1 (.inl (by decide)) (faR1 (.inl (by decide)) z0t))
          rintro v582 H583 ⟨O575, sm581⟩
          replace O575 : Ow G562 H583 (eSl (.slice (some ⟨b570, 0, some 0⟩) 1 1) 62 z08 [(Item.mk x478.Name [x478.Node] false true)] :: eVar b486 73 z1f x478 :: eVar b2 29 z00 p0 :: eSl v582 62 z08 (x463 ++ [(Item.mk x478.Name [x478.Node] false true)]) :: L) := O575
          refine D2.pure (v := v582) rfl rfl (z01 (oo rfl rfl)) ?_
          refine .nil ?_
          have O584 : Ow G562 H583 (eVar b486 73 z1f x478 :: eVar b2 29 z00 p0 :: eSl v582 62 z08 (x463 ++ [(Item.mk x478.Name [x478.Node] false true)]) :: L) := O575.drop 0
          have O585 : Ow G562 H583 (eVar b2 29 z00 p0 :: eSl v582 62 z08 (x463 ++ [(Item.mk x478.Name [x478.Node] false true)]) :: L) := O584.drop 0
          obtain rfl := zAa h580
          exact ⟨(x463 ++ [(Item.mk x478.Name [x478.Node] false true)]), _, rfl, O585, (zAe s510 (zAe s551 s564))⟩
         ·have h586 := z16 g559 h548
          refine D2.pure (v := (padd (.pointer (some ⟨b486, 0, none⟩)) 4)) (gk rfl rfl gv560 rfl) rfl (z07 zfq (oo rfl rfl) (O550.atVar (j := 1) rfl)) ?_
          refine D2.load1' (v := (.int .i64 x478.Capacity)) (r := []) (gk rfl rfl gv560 rfl) rfl ag3 (z0d rfl (At.int (At.proj (O550.atVar (j := 1) rfl) z42))) (z8j (by decide) (z8j (by decide) z0t)) ?_
          obtain ⟨x587, i588, h589⟩ := z05 h586
          refine D2.loN (gk rfl rfl gv560 rfl) rfl (Lo.callP (ps := []) (ps' := []) rfl (fn := Tryd.f40) (by kernel_rfl) rfl (mc rfl (mc rfl (mc rfl mn))) O550 (fun L' O' => z3j K x478.Capacity 0 100000 O' _ i588)) ?_ (z3k (by decide) (z3k (by decide) z0t)) ?_ ?_
          ·rintro v596 H597 ⟨G590, O591, s592, sm595, rfl⟩; exact (faR1 (.inl (by decide)) (faR1 (.inl (by decide)) (faR1 (.inl (by decide)) (faR1 (.inr (sm595 _ (Or.inr ⟨1, _, rfl, List.mem_singleton.2 rfl⟩))) (faR1 (.inr (sm595 _ (Or.inr ⟨1, _, rfl, List.mem_singleton.2 rfl⟩))) z0t)))))
          ·rintro v596 H597 ⟨G590, O591, s592, sm595, rfl⟩; exact (faR1 (.inr (sm595 _ (Or.inr ⟨0, _, rfl, List.mem_singleton.2 rfl⟩))) z0t)
          rintro v596 H597 ⟨G590, O591, s592, sm595, rfl⟩ nx598
          have F599 := Free.nx F558 nx598
          replace O591 : Ow G590 H597 (eSl (.slice (some ⟨b500, 0, some 0⟩) 1 1) 9 rS [x478.Node] :: eVar b486 73 z1f x478 :: eVar b2 29 z00 p0 :: eSl (σ465 3) 62 z08 x463 :: L) := O591
          refine D2.pure (v := (.bool (!x587))) (gk rfl rfl gv560 rfl) rfl (z1g (a := x587) (oo rfl rfl)) ?_
          refine D2.pure (v := (.bool (!x587))) rfl rfl (z1h (oo rfl gv560) (oo rfl rfl)) ?_
          obtain ⟨G600, O601, s602, f603⟩ := O591.frzSl (j := 0) rfl
          replace O601 : Ow G600 H597 (eVar b486 73 z1f x478 :: eVar b2 29 z00 p0 :: eSl (σ465 3) 62 z08 x463 :: L) := O601
          obtain ⟨c604, e606, f605⟩ := z26 (G := G600) ((.string x478.Name)) ((.slice (some ⟨b500, 0, some 0⟩) 1 1)) ((.bool false)) ((.bool (!x587))) (rfl) ((z5h f603)) (rfl) (rfl)
          refine D2.pure (v := .agg (List.toArray c604)) rfl rfl (e606 (z4v rfl (qc' rfl (qc' rfl (qc' rfl (qc' rfl qn')))))) ?_
          refine D2.alloc (m := 26) rfl rfl (Al.buildSlice (r := z08) (vs := [(.agg (List.toArray c604))]) (xs := [(Item.mk x478.Name [x478.Node] false (!x587))]) el59 ze62 sz62 (by kernel_rfl) rfl (qc rfl qn) rfl (.cons f605 .nil)) (Free.up (by decide) F599) (by decide) O601 ?_
          rintro b608 H609 ⟨O610, sm611, F612⟩
          obtain ⟨es614, e615, e616⟩ := z3a (j := 0) rfl O610
          obtain ⟨g617, h618⟩ := z2a h589
          refine D2.lo rfl rfl (Lo.append (j := 3) (v := (σ465 3)) rfl rfl el59 ni59 ze62 sz62 by62 (by decide) (by decide) rfl e615 e616 g617 O610) ?_ (z3k (by decide) (z3k (by decide) (z3k (by decide) z0t))) ?_ ?_
          ·rintro v620 H621 ⟨O613, sm619⟩; exact (faR1 (.inl (by decide)) (faR1 (.inl (by decide)) (faR1 (.inl (by decide)) (faR1 (.inl (by decide)) (faR1 (.inl (by decide)) z0t)))))
          ·rintro v620 H621 ⟨O613, sm619⟩; exact (faR1 (.inl (by decide)) (faR1 (.inl (by decide)) z0t))
          rintro v620 H621 ⟨O613, sm619⟩
          replace O613 : Ow G600 H621 (eSl (.slice (some ⟨b608, 0, some 0⟩) 1 1) 62 z08 [(Item.mk x478.Name [x478.Node] false (!x587))] :: eVar b486 73 z1f x478 :: eVar b2 29 z00 p0 :: eSl v620 62 z08 (x463 ++ [(Item.mk x478.Name [x478.Node] false (!x587))]) :: L) := O613
          refine D2.pure (v := v620) rfl rfl (z01 (oo rfl rfl)) ?_
          refine .nil ?_
          have O622 : Ow G600 H621 (eVar b486 73 z1f x478 :: eVar b2 29 z00 p0 :: eSl v620 62 z08 (x463 ++ [(Item.mk x478.Name [x478.Node] false (!x587))]) :: L) := O613.drop 0
          have O623 : Ow G600 H621 (eVar b2 29 z00 p0 :: eSl v620 62 z08 (x463 ++ [(Item.mk x478.Name [x478.Node] false (!x587))]) :: L) := O622.drop 0
          obtain rfl := zAa h618
          exact ⟨(x463 ++ [(Item.mk x478.Name [x478.Node] false (!x587))]), _, rfl, O623, (zAe s510 (zAe s551 (zAe s592 s602)))⟩
       ·rintro σ625 H626 fr627 ⟨x624, G628, rfl, O629, s630⟩
        have h632 := z0b h477
        refine .region ?_
        refine W.pure (v := (.int .i64 (z0p .i64 (x464 + 1)))) rfl rfl (z2g (oo rfl ((fr627 114 rfl).trans t472)) (oo rfl rfl) rfl) ?_
        refine W.pure (v := (.int .i64 (z0p .i64 (x464 + 1)))) rfl rfl (z02 (oo rfl rfl)) ?_
        refine .nil ?_
        exact ⟨k462, zAg _, ⟨x624, z0p .i64 (x464 + 1), _, h632, O629, (zAe s470 s630), rfl⟩⟩
      ·have h633 := z16 g473 h471
       refine .exit ?_
       obtain rfl := zAa h633
       exact ⟨x463, _, rfl, O469, s470⟩
     ·rintro σ635 H636 fr637 ⟨x634, G638, rfl, O639, s640⟩
      have h642 := z0b h461
      refine .seq ?_
      refine .region ?_
      refine W.pure (v := (σ635 3)) rfl rfl (z02 (oo rfl rfl)) ?_
      refine W.pure (v := (σ635 3)) rfl rfl (z01 (oo rfl rfl)) ?_
      refine .nil ?_
      refine .ret ?_
      have O643 : Ow G638 H636 (eSl (σ635 3) 62 z08 x634 :: L) := O639.drop 0
      obtain rfl := zAa h642
      exact z5q kr (σ635 3) (v1 := (σ635 3)) (by rfl) (z2i (by rfl) (by exact rfl)) O643 (zAe s77 (zAe s173 (zAe s360 (zAe s453 s640)))) rfl
def z1o (K : Nat) (p0 : Network) : Nat -> List zAd -> Int -> Option (Int ⊕ (List zAd))
 | 0, _, _ => none
 | k + 1, x74, x75 => (if (decide (x75 < (List.length p0.Nodes : Int))) = true then ((idx p0.Nodes x75).bind fun x87 => ((z3i K x87 x74).bind fun x91 => (if (x91.1 != 0) = true then some (.inl x91.1) else z1o K p0 k x91.2 (z0p .i64 (x75 + 1))))) else some (.inr x74))
def z1i (K : Nat) (p0 : Network) (x153 : Item) : Nat -> Int -> Option (Int ⊕ Unit)
 | 0, _ => none
 | k + 1, x201 => (if (decide (x201 < (List.length x153.nodes : Int))) = true then ((idx x153.nodes x201).bind fun x212 => ((z7y K p0.Nodes x212).bind fun x219 => (if (!x219) = true then some (.inl 6) else z1i K p0 x153 k (z0p .i64 (x201 + 1))))) else some (.inr ()))
def z1p (K : Nat) (x123 : List Item) (p0 : Network) : Nat -> List zAd -> Int -> Option (Int ⊕ (List zAd))
 | 0, _, _ => none
 | k + 1, x140, x141 => (if (decide (x141 < (List.length x123 : Int))) = true then ((idx x123 x141).bind fun x153 => ((z3i K x153.name x140).bind fun x174 => (if (x174.1 != 0) = true then some (.inl x174.1) else (z5s (z1i K p0 x153 K 0) (tu1 fun a308 => some (.inl a308)) (tu0 (Option.bind ((if x153.apart = true then ((idx x153.nodes 0).bind fun x263 => ((idx x153.nodes 1).bind fun x270 => some (sEq x263 x270))) else some false)) (tu1 fun x275 => (if x275 = true then some (.inl 3) else (if x153.bad = true then some (.inl 4) else z1p K x123 p0 k x174.2 (z0p .i64 (x141 + 1))))))))))) else some (.inr x140))
def z3v (K : Nat) (p0 : Network) : Option Int := (Option.bind ((if (decide ((List.length p0.Nodes : Int) > 24)) = true then some true else (if (decide ((List.length p0.Switches : Int) > 32)) = true then some true else (if (decide ((List.length p0.Branches : Int) > 24)) = true then some true else (if (decide ((List.length p0.Gens : Int) > 10)) = true then some true else (if (decide ((List.length p0.Loads : Int) > 12)) = true then some true else some (decide ((List.length p0.Stores : Int) > 4)))))))) (tu1 fun x47 => (if x47 = true then some 2 else (z5s (z1o K p0 K [] 0) (tu1 fun a325 => some a325) (tu1 fun x110 => ((z7g K p0).bind fun x123 => (z5s (z1p K x123 p0 K x110 0) (tu1 fun a324 => some a324) (tu1 fun x310 => some 0))))))))
theorem z6m (v0 : List Value) (p0 : Network) (hp0 : z00.rep G v0 p0) (O : Ow G H (L)) (r : Int) (h : z3v K p0 = some r) :
  CR Tryd.prog 7 [.agg (List.toArray v0)] G H (L) (fun v G' _ => v = .int .i64 r) := by
 unfold z3v at h
 refine CR.og (n := 105) (fn := Tryd.f7) (by kernel_rfl) rfl rfl fun R kr => ?_
 refine .seq ?_
 refine .region ?_
 refine W.lo rfl rfl (Lo.box (r := z00) (x0 := p0) (v := (.agg (List.toArray v0))) rfl rfl hp0 O) ?_
 rintro v4 H5 ⟨b2, rfl, O1, sm3⟩
 refine W.pure (v := (.int .i64 0)) rfl rfl (z01 (oo rfl rfl)) ?_
 refine .nil ?_
 refine .seq ?_
 refine .seq ?_
 obtain ⟨q6, h7, h8⟩ := z05 h
 refine AW.midT (fun σ' H' => ∃ (y1 : Bool) (G' : GM), y1 = q6 /\ Ow G' H' (eVar b2 29 z00 p0 :: L) /\ GM.le G G' /\ σ' 46 = .bool y1) ?_ ?_
 ·refine .region ?_
  refine W.pure (v := (padd (.pointer (some ⟨b2, 0, none⟩)) 0)) rfl rfl (z07 zac (oo rfl rfl) (O1.atVar (j := 0) rfl)) ?_
  obtain ⟨w9, p10, f11⟩ := At.sl (At.proj (O1.atVar (j := 0) rfl) z29)
  refine W.load1 (v := w9) (r := []) rfl rfl ag22 (z0d rfl p10) ?_
  refine W.pure (v := (.int .i64 (List.length p0.Nodes : Int))) rfl rfl (z25 (oo rfl rfl) (z0x f11) (z04 el22)) ?_
  refine W.pure (v := (.bool (decide ((List.length p0.Nodes : Int) > 24)))) rfl rfl (z2g (oo rfl rfl) (oo rfl rfl) rfl) ?_
  refine W.pure (v := (.bool (decide ((List.length p0.Nodes : Int) > 24)))) rfl rfl (z02 (oo rfl rfl)) ?_
  refine W.splitAt (t := 17) (b := decide ((List.length p0.Nodes : Int) > 24)) rfl (fun g12 gv13 => ?_) (fun g12 gv13 => ?_)
  ·have h14 := z03 g12 h7
   refine W.skip (gk rfl rfl gv13 rfl) rfl ?_
   refine W.skip (gk rfl rfl gv13 rfl) rfl ?_
   refine W.skip (gk rfl rfl gv13 rfl) rfl ?_
   refine W.skip (gk rfl rfl gv13 rfl) rfl ?_
   refine W.pure (v := (.bool true)) rfl rfl (z0u (oo rfl gv13) (oo rfl rfl)) ?_
   refine W.pure (v := (.bool true)) rfl rfl (z02 (oo rfl rfl)) ?_
   refine W.skip (gk rfl rfl rfl rfl) rfl ?_
   refine W.skip (gk rfl rfl rfl rfl) rfl ?_
   refine W.skip (gk rfl rfl rfl rfl) rfl ?_
   refine W.skip (gk rfl rfl rfl rfl) rfl ?_
   refine W.pure (v := (.bool true)) rfl rfl (z0u (oo rfl rfl) (oo rfl rfl)) ?_
   refine W.pure (v := (.bool true)) rfl rfl (z02 (oo rfl rfl)) ?_
   refine W.skip (gk rfl rfl rfl rfl) rfl ?_
   refine W.skip (gk rfl rfl rfl rfl) rfl ?_
   refine W.skip (gk rfl rfl rfl rfl) rfl ?_
   refine W.skip (gk rfl rfl rfl rfl) rfl ?_
   refine W.pure (v := (.bool true)) rfl rfl (z0u (oo rfl rfl) (oo rfl rfl)) ?_
   refine W.pure (v := (.bool true)) rfl rfl (z02 (oo rfl rfl)) ?_
   refine W.skip (gk rfl rfl rfl rfl) rfl ?_
   refine W.skip (gk rfl rfl rfl rfl) rfl ?_
   refine W.skip (gk rfl rfl rfl rfl) rfl ?_
   refine W.skip (gk rfl rfl rfl rfl) rfl ?_
   refine W.pure (v := (.bool true)) rfl rfl (z0u (oo rfl rfl) (oo rfl rfl)) ?_
   refine W.pure (v := (.bool true)) rfl rfl (z02 (oo rfl rfl)) ?_
   refine W.skip (gk rfl rfl rfl rfl) rfl ?_
   refine W.skip (gk rfl rfl rfl rfl) rfl ?_
   refine W.skip (gk rfl rfl rfl rfl) rfl ?_
   refine W.skip (gk rfl rfl rfl rfl) rfl ?_
   refine W.pure (v := (.bool true)) rfl rfl (z0u (oo rfl rfl) (oo rfl rfl)) ?_
   refine .nil ?_
   obtain rfl := zAa h14
   exact ⟨true, _, rfl, O1, (zAf _), rfl⟩
  ·have h15 := z16 g12 h7
   refine W.pure (v := (padd (.pointer (some ⟨b2, 0, none⟩)) 1)) (gk rfl rfl gv13 rfl) rfl (z07 zc3 (oo rfl rfl) (O1.atVar (j := 0) rfl)) ?_
   obtain ⟨w16, p17, f18⟩ := At.sl (At.proj (O1.atVar (j := 0) rfl) z2b)
   refine W.load1 (v := w16) (r := []) (gk rfl rfl gv13 rfl) rfl ag23 (z0d rfl p17) ?_
   refine W.pure (v := (.int .i64 (List.length p0.Switches : Int))) (gk rfl rfl gv13 rfl) rfl (z25 (oo rfl rfl) (z0x f18) (z04 el23)) ?_
   refine W.pure (v := (.bool (decide ((List.length p0.Switches : Int) > 32)))) (gk rfl rfl gv13 rfl) rfl (z2g (oo rfl rfl) (oo rfl rfl) rfl) ?_
   refine W.pure (v := (.bool (decide ((List.length p0.Switches : Int) > 32)))) rfl rfl (z1h (oo rfl gv13) (oo rfl rfl)) ?_
   refine W.pure (v := (.bool (decide ((List.length p0.Switches : Int) > 32)))) rfl rfl (z02 (oo rfl rfl)) ?_
   refine W.splitAt (t := 23) (b := decide ((List.length p0.Switches : Int) > 32)) rfl (fun g19 gv20 => ?_) (fun g19 gv20 => ?_)
   ·have h21 := z03 g19 h15
    refine W.skip (gk rfl rfl gv20 rfl) rfl ?_
    refine W.skip (gk rfl rfl gv20 rfl) rfl ?_
    refine W.skip (gk rfl rfl gv20 rfl) rfl ?_
    refine W.skip (gk rfl rfl gv20 rfl) rfl ?_
    refine W.pure (v := (.bool true)) rfl rfl (z0u (oo rfl gv20) (oo rfl rfl)) ?_
    refine W.pure (v := (.bool true)) rfl rfl (z02 (oo rfl rfl)) ?_
    refine W.skip (gk rfl rfl rfl rfl) rfl ?_
    refine W.skip (gk rfl rfl rfl rfl) rfl ?_
    refine W.skip (gk rfl rfl rfl rfl) rfl ?_
    refine W.skip (gk rfl rfl rfl rfl) rfl ?_
    refine W.pure (v := (.bool true)) rfl rfl (z0u (oo rfl rfl) (oo rfl rfl)) ?_
    refine W.pure (v := (.bool true)) rfl rfl (z02 (oo rfl rfl)) ?_
    refine W.skip (gk rfl rfl rfl rfl) rfl ?_
    refine W.skip (gk rfl rfl rfl rfl) rfl ?_
    refine W.skip (gk rfl rfl rfl rfl) rfl ?_
    refine W.skip (gk rfl rfl rfl rfl) rfl ?_
    refine W.pure (v := (.bool true)) rfl rfl (z0u (oo rfl rfl) (oo rfl rfl)) ?_
    refine W.pure (v := (.bool true)) rfl rfl (z02 (oo rfl rfl)) ?_
    refine W.skip (gk rfl rfl rfl rfl) rfl ?_
    refine W.skip (gk rfl rfl rfl rfl) rfl ?_
    refine W.skip (gk rfl rfl rfl rfl) rfl ?_
    refine W.skip (gk rfl rfl rfl rfl) rfl ?_
    refine W.pure (v := (.bool true)) rfl rfl (z0u (oo rfl rfl) (oo rfl rfl)) ?_
    refine .nil ?_
    obtain rfl := zAa h21
    exact ⟨true, _, rfl, O1, (zAf _), rfl⟩
   ·have h22 := z16 g19 h15
    refine W.pure (v := (padd (.pointer (some ⟨b2, 0, none⟩)) 2)) (gk rfl rfl gv20 rfl) rfl (z07 zc4 (oo rfl rfl) (O1.atVar (j := 0) rfl)) ?_
    obtain ⟨w23, p24, f25⟩ := At.sl (At.proj (O1.atVar (j := 0) rfl) z2c)
    refine W.load1 (v := w23) (r := []) (gk rfl rfl gv20 rfl) rfl ag24 (z0d rfl p24) ?_
    refine W.pure (v := (.int .i64 (List.length p0.Branches : Int))) (gk rfl rfl gv20 rfl) rfl (z25 (oo rfl rfl) (z0x f25) (z04 el24)) ?_
    refine W.pure (v := (.bool (decide ((List.length p0.Branches : Int) > 24)))) (gk rfl rfl gv20 rfl) rfl (z2g (oo rfl rfl) (oo rfl rfl) rfl) ?_
    refine W.pure (v := (.bool (decide ((List.length p0.Branches : Int) > 24)))) rfl rfl (z1h (oo rfl gv20) (oo rfl rfl)) ?_
    refine W.pure (v := (.bool (decide ((List.length p0.Branches : Int) > 24)))) rfl rfl (z02 (oo rfl rfl)) ?_
    refine W.splitAt (t := 29) (b := decide ((List.length p0.Branches : Int) > 24)) rfl (fun g26 gv27 => ?_) (fun g26 gv27 => ?_)
    ·have h28 := z03 g26 h22
     refine W.skip (gk rfl rfl gv27 rfl) rfl ?_
     refine W.skip (gk rfl rfl gv27 rfl) rfl ?_
     refine W.skip (gk rfl rfl gv27 rfl) rfl ?_
     refine W.skip (gk rfl rfl gv27 rfl) rfl ?_
     refine W.pure (v := (.bool true)) rfl rfl (z0u (oo rfl gv27) (oo rfl rfl)) ?_
     refine W.pure (v := (.bool true)) rfl rfl (z02 (oo rfl rfl)) ?_
     refine W.skip (gk rfl rfl rfl rfl) rfl ?_
     refine W.skip (gk rfl rfl rfl rfl) rfl ?_
     refine W.skip (gk rfl rfl rfl rfl) rfl ?_
     refine W.skip (gk rfl rfl rfl rfl) rfl ?_
     refine W.pure (v := (.bool true)) rfl rfl (z0u (oo rfl rfl) (oo rfl rfl)) ?_
     refine W.pure (v := (.bool true)) rfl rfl (z02 (oo rfl rfl)) ?_
     refine W.skip (gk rfl rfl rfl rfl) rfl ?_
     refine W.skip (gk rfl rfl rfl rfl) rfl ?_
     refine W.skip (gk rfl rfl rfl rfl) rfl ?_
     refine W.skip (gk rfl rfl rfl rfl) rfl ?_
     refine W.pure (v := (.bool true)) rfl rfl (z0u (oo rfl rfl) (oo rfl rfl)) ?_
     refine .nil ?_
     obtain rfl := zAa h28
     exact ⟨true, _, rfl, O1, (zAf _), rfl⟩
    ·have h29 := z16 g26 h22
     refine W.pure (v := (padd (.pointer (some ⟨b2, 0, none⟩)) 3)) (gk rfl rfl gv27 rfl) rfl (z07 zc5 (oo rfl rfl) (O1.atVar (j := 0) rfl)) ?_
     obtain ⟨w30, p31, f32⟩ := At.sl (At.proj (O1.atVar (j := 0) rfl) z3h)
     refine W.load1 (v := w30) (r := []) (gk rfl rfl gv27 rfl) rfl ag25 (z0d rfl p31) ?_
     refine W.pure (v := (.int .i64 (List.length p0.Gens : Int))) (gk rfl rfl gv27 rfl) rfl (z25 (oo rfl rfl) (z0x f32) (z04 el25)) ?_
     refine W.pure (v := (.bool (decide ((List.length p0.Gens : Int) > 10)))) (gk rfl rfl gv27 rfl) rfl (z2g (oo rfl rfl) (oo rfl rfl) rfl) ?_
     refine W.pure (v := (.bool (decide ((List.length p0.Gens : Int) > 10)))) rfl rfl (z1h (oo rfl gv27) (oo rfl rfl)) ?_
     refine W.pure (v := (.bool (decide ((List.length p0.Gens : Int) > 10)))) rfl rfl (z02 (oo rfl rfl)) ?_
     refine W.splitAt (t := 35) (b := decide ((List.length p0.Gens : Int) > 10)) rfl (fun g33 gv34 => ?_) (fun g33 gv34 => ?_)
     ·have h35 := z03 g33 h29
      refine W.skip (gk rfl rfl gv34 rfl) rfl ?_
      refine W.skip (gk rfl rfl gv34 rfl) rfl ?_
      refine W.skip (gk rfl rfl gv34 rfl) rfl ?_
      refine W.skip (gk rfl rfl gv34 rfl) rfl ?_
      refine W.pure (v := (.bool true)) rfl rfl (z0u (oo rfl gv34) (oo rfl rfl)) ?_
      refine W.pure (v := (.bool true)) rfl rfl (z02 (oo rfl rfl)) ?_
      refine W.skip (gk rfl rfl rfl rfl) rfl ?_
      refine W.skip (gk rfl rfl rfl rfl) rfl ?_
      refine W.skip (gk rfl rfl rfl rfl) rfl ?_
      refine W.skip (gk rfl rfl rfl rfl) rfl ?_
      refine W.pure (v := (.bool true)) rfl rfl (z0u (oo rfl rfl) (oo rfl rfl)) ?_
      refine .nil ?_
      obtain rfl := zAa h35
      exact ⟨true, _, rfl, O1, (zAf _), rfl⟩
     ·have h36 := z16 g33 h29
      refine W.pure (v := (padd (.pointer (some ⟨b2, 0, none⟩)) 4)) (gk rfl rfl gv34 rfl) rfl (z07 zc6 (oo rfl rfl) (O1.atVar (j := 0) rfl)) ?_
      obtain ⟨w37, p38, f39⟩ := At.sl (At.proj (O1.atVar (j := 0) rfl) z36)
      refine W.load1 (v := w37) (r := []) (gk rfl rfl gv34 rfl) rfl ag26 (z0d rfl p38) ?_
      refine W.pure (v := (.int .i64 (List.length p0.Loads : Int))) (gk rfl rfl gv34 rfl) rfl (z25 (oo rfl rfl) (z0x f39) (z04 el26)) ?_
      refine W.pure (v := (.bool (decide ((List.length p0.Loads : Int) > 12)))) (gk rfl rfl gv34 rfl) rfl (z2g (oo rfl rfl) (oo rfl rfl) rfl) ?_
      refine W.pure (v := (.bool (decide ((List.length p0.Loads : Int) > 12)))) rfl rfl (z1h (oo rfl gv34) (oo rfl rfl)) ?_
      refine W.pure (v := (.bool (decide ((List.length p0.Loads : Int) > 12)))) rfl rfl (z02 (oo rfl rfl)) ?_
      refine W.splitAt (t := 41) (b := decide ((List.length p0.Loads : Int) > 12)) rfl (fun g40 gv41 => ?_) (fun g40 gv41 => ?_)
      ·have h42 := z03 g40 h36
       refine W.skip (gk rfl rfl gv41 rfl) rfl ?_
       refine W.skip (gk rfl rfl gv41 rfl) rfl ?_
       refine W.skip (gk rfl rfl gv41 rfl) rfl ?_
       refine W.skip (gk rfl rfl gv41 rfl) rfl ?_
       refine W.pure (v := (.bool true)) rfl rfl (z0u (oo rfl gv41) (oo rfl rfl)) ?_
       refine .nil ?_
       obtain rfl := zAa h42
       exact ⟨true, _, rfl, O1, (zAf _), rfl⟩
      ·have h43 := z16 g40 h36
       refine W.pure (v := (padd (.pointer (some ⟨b2, 0, none⟩)) 5)) (gk rfl rfl gv41 rfl) rfl (z07 zc7 (oo rfl rfl) (O1.atVar (j := 0) rfl)) ?_
       obtain ⟨w44, p45, f46⟩ := At.sl (At.proj (O1.atVar (j := 0) rfl) z2w)
       refine W.load1 (v := w44) (r := []) (gk rfl rfl gv41 rfl) rfl ag27 (z0d rfl p45) ?_
       refine W.pure (v := (.int .i64 (List.length p0.Stores : Int))) (gk rfl rfl gv41 rfl) rfl (z25 (oo rfl rfl) (z0x f46) (z04 el27)) ?_
       refine W.pure (v := (.bool (decide ((List.length p0.Stores : Int) > 4)))) (gk rfl rfl gv41 rfl) rfl (z2g (oo rfl rfl) (oo rfl rfl) rfl) ?_
       refine W.pure (v := (.bool (decide ((List.length p0.Stores : Int) > 4)))) rfl rfl (z1h (oo rfl gv41) (oo rfl rfl)) ?_
       refine .nil ?_
       obtain rfl := zAa h43
       exact ⟨decide ((List.length p0.Stores : Int) > 4), _, rfl, O1, (zAf _), rfl⟩
 ·rintro σ48 H49 fr50 ⟨x47, G51, rfl, O52, s53, t55⟩
  have h56 := z0b h8
  refine .cond (b := x47) rfl t55 (fun g57 => ?_) (fun g57 => ?_)
  ·have h58 := z03 g57 h56
   refine .seq ?_
   refine .region ?_
   refine W.pure (v := (.int .i64 2)) rfl rfl (z01 (oo rfl rfl)) ?_
   refine .nil ?_
   refine .ret ?_
   have O59 : Ow G51 H49 (L) := O52.drop 0
   obtain rfl := zAa h58
   exact z4i kr (v1 := (.int .i64 2)) (by rfl) (z2i (by rfl) (by exact rfl)) O59 s53 rfl
  ·have h60 := z16 g57 h56
   refine .skip ?_
   refine .seq ?_
   refine .region ?_
   have O63 := O52.nilSl 9 rS
   refine W.lo rfl rfl (Lo.alloc (r := rV) (x0 := (.slice none 0 0)) ze22 (by kernel_rfl) zV O63) ?_
   rintro v65 H66 ⟨b62, rfl, O61, sm64⟩
   refine .nil ?_
   refine .seq ?_
   refine .region ?_
   refine W.pure (v := (.func (.func 20) #[] #[(.pointer (some ⟨b62, 0, none⟩))])) rfl rfl (za6 (z83 rfl mn) (z83 rfl (mc rfl mn))) ?_
   refine W.pure (v := (.func (.func 20) #[] #[(.pointer (some ⟨b62, 0, none⟩))])) rfl rfl (z01 (oo rfl rfl)) ?_
   refine .nil ?_
   refine .seq ?_
   refine .seq ?_
   refine .region ?_
   refine W.pure (v := (padd (.pointer (some ⟨b2, 0, none⟩)) 0)) rfl rfl (z07 zac (oo rfl ((fr50 1 rfl).trans rfl)) (O61.atVar (j := 2) rfl)) ?_
   obtain ⟨w67, p68, f69⟩ := At.sl (At.proj (O61.atVar (j := 2) rfl) z29)
   refine W.load1 (v := w67) (r := []) rfl rfl ag22 (z0d rfl p68) ?_
   refine W.pure (v := (.int .i64 (List.length p0.Nodes : Int))) rfl rfl (z25 (oo rfl rfl) (z0x f69) (z04 el22)) ?_
   refine W.pure (v := (.int .i64 0)) rfl rfl (z02 (oo rfl rfl)) ?_
   refine .nil ?_
   obtain ⟨q70, h71, h72⟩ := z2t h60
   refine AW.midT (fun σ' H' => ∃ (y1 : List zAd) (w_l3 : Value) (G' : GM), (.inr y1) = q70 /\ Ow G' H' (eVar b62 22 rV w_l3 :: eSl w_l3 9 rS y1 :: eVar b2 29 z00 p0 :: L) /\ GM.le G51 G') ?_ ?_
   ·refine .block ?_
    refine AW.loop (α := Nat) (fun k' σ' H' => ∃ (y1 : List zAd) (y2 : Int) (w_l3 : Value) (G' : GM), z1o K p0 k' y1 y2 = some q70 /\ Ow G' H' (eVar b62 22 rV w_l3 :: eSl w_l3 9 rS y1 :: eVar b2 29 z00 p0 :: L) /\ GM.le G51 G' /\ σ' 51 = .int .i64 y2) (fun k' => k') K ⟨[], 0, (.slice none 0 0), _, h71, O61, (zAf _), rfl⟩ ?_
    rintro k73
    rintro σ76 H77 fr78 ⟨x74, x75, w83, G79, h82, O80, s81, t84⟩
    rcases k73 with _ | k73
    ·exact z09 h82
    rw [z1o] at h82
    refine .seq ?_
    refine .region ?_
    refine W.pure (v := (.bool (decide (x75 < (List.length p0.Nodes : Int))))) rfl rfl (z2g (oo rfl t84) (oo rfl ((fr78 50 rfl).trans rfl)) rfl) ?_
    refine .nil ?_
    refine .seq ?_
    refine .cond (b := decide (x75 < (List.length p0.Nodes : Int))) rfl rfl (fun g85 => ?_) (fun g85 => ?_)
    ·have h86 := z03 g85 h82
     refine .skip ?_
     refine .seq ?_
     refine .block ?_
     refine .seq ?_
     refine .region ?_
     obtain ⟨x87, i88, h89⟩ := z05 h86
     have j90 := z1n i88
     refine W.pure (v := (z4t w67 (Int.toNat x75 * 1))) rfl rfl (z5d el22 sz9 (oo rfl ((fr78 49 rfl).trans rfl)) (oo rfl t84) (z0x (RT.mono _ s81 f69)) j90.1 j90.2.1) ?_
     refine W.load1 (v := (.string x87)) (r := []) rfl rfl ag9 (z0d rfl (At.str (At.le (At.le (z3c f69 j90.2.2) s81 s81) (zAf _) O80.fro))) ?_
     refine W.pure (v := (.string x87)) rfl rfl (z01 (oo rfl rfl)) ?_
     refine .nil ?_
     refine .seq ?_
     refine .region ?_
     refine W.pure (v := (.func (.func 20) #[] #[(.pointer (some ⟨b62, 0, none⟩))])) rfl rfl (z02 (oo rfl ((fr78 4 rfl).trans rfl))) ?_
     refine W.pure (v := (.string x87)) rfl rfl (z02 (oo rfl rfl)) ?_
     obtain ⟨x91, i92, h93⟩ := z05 h89
     refine W.lo rfl rfl (Lo.callvPF (ps := [eVar b62 22 rV w83, eSl w83 9 rS x74]) (pw := fun w => [eVar b62 22 rV w, eSl w 9 rS x91.2]) rfl rfl (fn := Tryd.f20) (by kernel_rfl) rfl (mc rfl mn) O80 (fun L' O' => z5p K x87 b62 w83 x74 O' _ i92)) ?_
     rintro v100 H101 ⟨w98, G94, O95, s96, sm99, rfl⟩
     replace O95 : Ow G94 H101 (eVar b62 22 rV w98 :: eSl w98 9 rS x91.2 :: eVar b2 29 z00 p0 :: L) := O95
     refine W.pure (v := (.int .i64 x91.1)) rfl rfl (z01 (oo rfl rfl)) ?_
     refine .nil ?_
     refine .seq ?_
     refine .region ?_
     refine W.pure (v := (.int .i64 x91.1)) rfl rfl (z02 (oo rfl rfl)) ?_
     refine W.pure (v := (.bool (x91.1 != 0))) rfl rfl (z2g (oo rfl rfl) (oo rfl rfl) rfl) ?_
     refine .nil ?_
     refine .cond (b := (x91.1 != 0)) rfl rfl (fun g102 => ?_) (fun g102 => ?_)
     ·have h103 := z03 g102 h93
      refine .seq ?_
      refine .region ?_
      refine W.pure (v := (.int .i64 x91.1)) rfl rfl (z02 (oo rfl rfl)) ?_
      refine W.pure (v := (.int .i64 x91.1)) rfl rfl (z01 (oo rfl rfl)) ?_
      refine .nil ?_
      refine .ret ?_
      have O104 : Ow G94 H101 (eSl w98 9 rS x91.2 :: eVar b2 29 z00 p0 :: L) := O95.drop 0
      have O105 : Ow G94 H101 (eVar b2 29 z00 p0 :: L) := O104.drop 0
      have O106 : Ow G94 H101 (L) := O105.drop 0
      obtain rfl := zAa h103
      have h107 := z0b (z4e h72)
      obtain rfl := zAa h107
      exact z4i kr (v1 := (.int .i64 x91.1)) (by rfl) (z2i (by rfl) (by exact rfl)) O106 (zAe s53 (zAe s81 s96)) rfl
     ·have h108 := z16 g102 h93
      refine .skip ?_
      refine .region ?_
      refine W.pure (v := (.int .i64 (z0p .i64 (x75 + 1)))) rfl rfl (z2g (oo rfl t84) (oo rfl rfl) rfl) ?_
      refine W.pure (v := (.int .i64 (z0p .i64 (x75 + 1)))) rfl rfl (z02 (oo rfl rfl)) ?_
      refine .nil ?_
      exact ⟨k73, zAg _, ⟨x91.2, z0p .i64 (x75 + 1), w98, _, h108, O95, (zAe s81 s96), rfl⟩⟩
    ·have h109 := z16 g85 h82
     refine .exit ?_
     obtain rfl := zAa h109
     exact ⟨x74, w83, _, rfl, O80, s81⟩
   ·rintro σ111 H112 fr113 ⟨x110, w118, G114, rfl, O115, s116⟩
    have h119 := z0b (z6h h72)
    refine .seq ?_
    refine .seq ?_
    refine .region ?_
    obtain ⟨c120, p121, f122⟩ := (O115.atVar (j := 2) rfl)
    refine W.loadA (cs := c120) rfl rfl ag29 sz29 (z0d ((fr113 1 rfl).trans ((fr50 1 rfl).trans rfl)) p121) (RT.len _ f122) ?_
    obtain ⟨x123, i124, h125⟩ := z05 h119
    refine W.lo rfl rfl (Lo.callPF (ps := []) (pw := fun w => [eSl w 62 z08 x123]) rfl (fn := Tryd.f22) (by kernel_rfl) rfl (mc rfl mn) O115 (fun L' O' => zb2 K c120 p0 f122 O' _ i124)) ?_
    rintro v134 H135 ⟨w131, G126, O127, s128, sm133, rfl⟩
    replace O127 : Ow G126 H135 (eSl w131 62 z08 x123 :: eVar b62 22 rV w118 :: eSl w118 9 rS x110 :: eVar b2 29 z00 p0 :: L) := O127
    refine W.pure (v := (.int .i64 (List.length x123 : Int))) rfl rfl (z25 (oo rfl rfl) (O127.slLen (j := 0) rfl) (z04 el59)) ?_
    refine W.pure (v := (.int .i64 0)) rfl rfl (z02 (oo rfl rfl)) ?_
    refine .nil ?_
    obtain ⟨q136, h137, h138⟩ := z2t h125
    refine AW.midT (fun σ' H' => ∃ (y1 : List zAd) (w_l3 : Value) (G' : GM), (.inr y1) = q136 /\ Ow G' H' (eSl w131 62 z08 x123 :: eVar b62 22 rV w_l3 :: eSl w_l3 9 rS y1 :: eVar b2 29 z00 p0 :: L) /\ GM.le G126 G') ?_ ?_
    ·refine .block ?_
     refine AW.loop (α := Nat) (fun k' σ' H' => ∃ (y1 : List zAd) (y2 : Int) (w_l3 : Value) (G' : GM), z1p K x123 p0 k' y1 y2 = some q136 /\ Ow G' H' (eSl w131 62 z08 x123 :: eVar b62 22 rV w_l3 :: eSl w_l3 9 rS y1 :: eVar b2 29 z00 p0 :: L) /\ GM.le G126 G' /\ σ' 65 = .int .i64 y2) (fun k' => k') K ⟨x110, 0, w118, _, h137, O127, (zAf _), rfl⟩ ?_
     rintro k139
     rintro σ142 H143 fr144 ⟨x140, x141, w149, G145, h148, O146, s147, t150⟩
     rcases k139 with _ | k139
     ·exact z09 h148
     rw [z1p] at h148
     refine .seq ?_
     refine .region ?_
     refine W.pure (v := (.bool (decide (x141 < (List.length x123 : Int))))) rfl rfl (z2g (oo rfl t150) (oo rfl ((fr144 64 rfl).trans rfl)) rfl) ?_
     refine .nil ?_
     refine .seq ?_
     refine .cond (b := decide (x141 < (List.length x123 : Int))) rfl rfl (fun g151 => ?_) (fun g151 => ?_)
     ·have h152 := z03 g151 h148
      refine .skip ?_
      refine .seq ?_
      refine .block ?_
      refine .seq ?_
      refine .region ?_
      obtain ⟨x153, i154, h155⟩ := z05 h152
      have j156 := z1n i154
      refine W.pure (v := (z4t w131 (Int.toNat x141 * 4))) rfl rfl (z5d el59 sz62 (oo rfl ((fr144 63 rfl).trans rfl)) (oo rfl t150) (O146.slLen (j := 0) rfl) j156.1 j156.2.1) ?_
      obtain ⟨c157, p158, f159⟩ := (O146.atSl (j := 0) rfl j156.2.2)
      refine W.loadA (cs := c157) rfl rfl ag62 sz62 (z0d rfl p158) (RT.len _ f159) ?_
      refine W.lo rfl rfl (Lo.alloc (r := z08) (x0 := (Item.mk ByteArray.empty ([] : List zAd) false false)) ze62 (by kernel_rfl) zh6 O146) ?_
      rintro v163 H164 ⟨b161, rfl, O160, sm162⟩
      refine W.lo rfl rfl (Lo.storeVar (j := 0) (s := z08) (y0 := x153) (v := (.agg (List.toArray c157))) (o := 0) rfl ((Put.at (Put.self _) _ _)) rfl sz62 rfl (by omega) rfl f159 O160) ?_
      rintro v167 H168 ⟨O165, sm166⟩
      replace O165 : Ow G145 H168 (eVar b161 62 z08 x153 :: eSl w131 62 z08 x123 :: eVar b62 22 rV w149 :: eSl w149 9 rS x140 :: eVar b2 29 z00 p0 :: L) := O165
      refine .nil ?_
      refine .seq ?_
      refine .seq ?_
      refine .region ?_
      refine W.pure (v := (.func (.func 20) #[] #[(.pointer (some ⟨b62, 0, none⟩))])) rfl rfl (z02 (oo rfl ((fr144 4 rfl).trans ((fr113 4 rfl).trans rfl)))) ?_
      refine W.pure (v := (padd (.pointer (some ⟨b161, 0, none⟩)) 0)) rfl rfl (z07 ziw (oo rfl rfl) (O165.atVar (j := 0) rfl)) ?_
      refine W.load1 (v := (.string x153.name)) (r := []) rfl rfl ag9 (z0d rfl (At.str (At.proj (O165.atVar (j := 0) rfl) zcc))) ?_
      have O169 : Ow G145 H168 (eVar b2 29 z00 p0 :: eVar b161 62 z08 x153 :: eSl w131 62 z08 x123 :: eVar b62 22 rV w149 :: eSl w149 9 rS x140 :: L) := O165.front (j := 4) rfl
      have O170 : Ow G145 H168 (eSl w131 62 z08 x123 :: eVar b2 29 z00 p0 :: eVar b161 62 z08 x153 :: eVar b62 22 rV w149 :: eSl w149 9 rS x140 :: L) := O169.front (j := 2) rfl
      have O171 : Ow G145 H168 (eVar b161 62 z08 x153 :: eSl w131 62 z08 x123 :: eVar b2 29 z00 p0 :: eVar b62 22 rV w149 :: eSl w149 9 rS x140 :: L) := O170.front (j := 2) rfl
      have O172 : Ow G145 H168 (eSl w149 9 rS x140 :: eVar b161 62 z08 x153 :: eSl w131 62 z08 x123 :: eVar b2 29 z00 p0 :: eVar b62 22 rV w149 :: L) := O171.front (j := 4) rfl
      have O173 : Ow G145 H168 (eVar b62 22 rV w149 :: eSl w149 9 rS x140 :: eVar b161 62 z08 x153 :: eSl w131 62 z08 x123 :: eVar b2 29 z00 p0 :: L) := O172.front (j := 4) rfl
      obtain ⟨x174, i175, h176⟩ := z05 h155
      refine W.lo rfl rfl (Lo.callvPF (ps := [eVar b62 22 rV w149, eSl w149 9 rS x140]) (pw := fun w => [eVar b62 22 rV w, eSl w 9 rS x174.2]) rfl rfl (fn := Tryd.f20) (by kernel_rfl) rfl (mc rfl mn) O173 (fun L' O' => z5p K x153.name b62 w149 x140 O' _ i175)) ?_
      rintro v183 H184 ⟨w181, G177, O178, s179, sm182, rfl⟩
      replace O178 : Ow G177 H184 (eVar b62 22 rV w181 :: eSl w181 9 rS x174.2 :: eVar b161 62 z08 x153 :: eSl w131 62 z08 x123 :: eVar b2 29 z00 p0 :: L) := O178
      refine W.pure (v := (.int .i64 x174.1)) rfl rfl (z01 (oo rfl rfl)) ?_
      refine .nil ?_
      refine .seq ?_
      refine .region ?_
      refine W.pure (v := (.int .i64 x174.1)) rfl rfl (z02 (oo rfl rfl)) ?_
      refine W.pure (v := (.bool (x174.1 != 0))) rfl rfl (z2g (oo rfl rfl) (oo rfl rfl) rfl) ?_
      refine .nil ?_
      refine .cond (b := (x174.1 != 0)) rfl rfl (fun g185 => ?_) (fun g185 => ?_)
      ·have h186 := z03 g185 h176
       refine .seq ?_
       refine .region ?_
       refine W.pure (v := (.int .i64 x174.1)) rfl rfl (z02 (oo rfl rfl)) ?_
       refine W.pure (v := (.int .i64 x174.1)) rfl rfl (z01 (oo rfl rfl)) ?_
       refine .nil ?_
       refine .ret ?_
       have O187 : Ow G177 H184 (eSl w181 9 rS x174.2 :: eVar b161 62 z08 x153 :: eSl w131 62 z08 x123 :: eVar b2 29 z00 p0 :: L) := O178.drop 0
       have O188 : Ow G177 H184 (eVar b161 62 z08 x153 :: eSl w131 62 z08 x123 :: eVar b2 29 z00 p0 :: L) := O187.drop 0
       have O189 : Ow G177 H184 (eSl w131 62 z08 x123 :: eVar b2 29 z00 p0 :: L) := O188.drop 0
       have O190 : Ow G177 H184 (eVar b2 29 z00 p0 :: L) := O189.drop 0
       have O191 : Ow G177 H184 (L) := O190.drop 0
       obtain rfl := zAa h186
       have h192 := z0b (z4e h138)
       obtain rfl := zAa h192
       exact z4i kr (v1 := (.int .i64 x174.1)) (by rfl) (z2i (by rfl) (by exact rfl)) O191 (zAe s53 (zAe s116 (zAe s128 (zAe s147 s179)))) rfl
      ·have h193 := z16 g185 h176
       refine .skip ?_
       refine .seq ?_
       refine .seq ?_
       refine .region ?_
       refine W.pure (v := (padd (.pointer (some ⟨b161, 0, none⟩)) 1)) rfl rfl (z07 zgv (oo rfl rfl) (O178.atVar (j := 2) rfl)) ?_
       obtain ⟨w194, p195, f196⟩ := At.sl (At.proj (O178.atVar (j := 2) rfl) z6t)
       refine W.load1 (v := w194) (r := []) rfl rfl ag22 (z0d rfl p195) ?_
       refine W.pure (v := (.int .i64 (List.length x153.nodes : Int))) rfl rfl (z25 (oo rfl rfl) (z0x f196) (z04 el22)) ?_
       refine W.pure (v := (.int .i64 0)) rfl rfl (z02 (oo rfl rfl)) ?_
       refine .nil ?_
       obtain ⟨q197, h198, h199⟩ := z2t h193
       refine AW.midT (fun σ' H' => ∃  (G' : GM), (.inr ()) = q197 /\ Ow G' H' (eVar b62 22 rV w181 :: eSl w181 9 rS x174.2 :: eVar b161 62 z08 x153 :: eSl w131 62 z08 x123 :: eVar b2 29 z00 p0 :: L) /\ GM.le G177 G') ?_ ?_
       ·refine .block ?_
        refine AW.loop (α := Nat) (fun k' σ' H' => ∃ (y1 : Int) (G' : GM), z1i K p0 x153 k' y1 = some q197 /\ Ow G' H' (eVar b62 22 rV w181 :: eSl w181 9 rS x174.2 :: eVar b161 62 z08 x153 :: eSl w131 62 z08 x123 :: eVar b2 29 z00 p0 :: L) /\ GM.le G177 G' /\ σ' 79 = .int .i64 y1) (fun k' => k') K ⟨0, _, h198, O178, (zAf _), rfl⟩ ?_
        rintro k200
        rintro σ202 H203 fr204 ⟨x201, G205, h208, O206, s207, t209⟩
        rcases k200 with _ | k200
        ·exact z09 h208
        rw [z1i] at h208
        refine .seq ?_
        refine .region ?_
        refine W.pure (v := (.bool (decide (x201 < (List.length x153.nodes : Int))))) rfl rfl (z2g (oo rfl t209) (oo rfl ((fr204 78 rfl).trans rfl)) rfl) ?_
        refine .nil ?_
        refine .seq ?_
        refine .cond (b := decide (x201 < (List.length x153.nodes : Int))) rfl rfl (fun g210 => ?_) (fun g210 => ?_)
        ·have h211 := z03 g210 h208
         refine .skip ?_
         refine .seq ?_
         refine .block ?_
         refine .seq ?_
         refine .region ?_
         obtain ⟨x212, i213, h214⟩ := z05 h211
         have j215 := z1n i213
         refine W.pure (v := (z4t w194 (Int.toNat x201 * 1))) rfl rfl (z5d el22 sz9 (oo rfl ((fr204 77 rfl).trans rfl)) (oo rfl t209) (z0x (RT.mono _ s207 f196)) j215.1 j215.2.1) ?_
         refine W.load1 (v := (.string x212)) (r := []) rfl rfl ag9 (z0d rfl (At.str (At.le (At.le (z3c f196 j215.2.2) s207 s207) (zAf _) O206.fro))) ?_
         refine W.pure (v := (.string x212)) rfl rfl (z01 (oo rfl rfl)) ?_
         refine .nil ?_
         refine .seq ?_
         refine .region ?_
         refine W.pure (v := (padd (.pointer (some ⟨b2, 0, none⟩)) 0)) rfl rfl (z07 zac (oo rfl ((fr204 1 rfl).trans ((fr144 1 rfl).trans ((fr113 1 rfl).trans ((fr50 1 rfl).trans rfl))))) (O206.atVar (j := 4) rfl)) ?_
         obtain ⟨w216, p217, f218⟩ := At.sl (At.proj (O206.atVar (j := 4) rfl) z29)
         refine W.load1 (v := w216) (r := []) rfl rfl ag22 (z0d rfl p217) ?_
         refine W.pure (v := (.string x212)) rfl rfl (z02 (oo rfl rfl)) ?_
         obtain ⟨x219, i220, h221⟩ := z05 h214
         refine W.lo rfl rfl (Lo.callP (ps := []) (ps' := []) rfl (fn := Tryd.f9) (by kernel_rfl) rfl (mc rfl (mc rfl mn)) O206 (fun L' O' => z7f K w216 p0.Nodes f218 x212 O' _ i220)) ?_
         rintro v228 H229 ⟨G222, O223, s224, sm227, rfl⟩
         replace O223 : Ow G222 H229 (eVar b62 22 rV w181 :: eSl w181 9 rS x174.2 :: eVar b161 62 z08 x153 :: eSl w131 62 z08 x123 :: eVar b2 29 z00 p0 :: L) := O223
         refine W.pure (v := (.bool (!x219))) rfl rfl (z1g (a := x219) (oo rfl rfl)) ?_
         refine .nil ?_
         refine .cond (b := (!x219)) rfl rfl (fun g230 => ?_) (fun g230 => ?_)
         ·have h231 := z03 g230 h221
          refine .seq ?_
          refine .region ?_
          refine W.pure (v := (.int .i64 6)) rfl rfl (z01 (oo rfl rfl)) ?_
          refine .nil ?_
          refine .ret ?_
          have O232 : Ow G222 H229 (eSl w181 9 rS x174.2 :: eVar b161 62 z08 x153 :: eSl w131 62 z08 x123 :: eVar b2 29 z00 p0 :: L) := O223.drop 0
          have O233 : Ow G222 H229 (eVar b161 62 z08 x153 :: eSl w131 62 z08 x123 :: eVar b2 29 z00 p0 :: L) := O232.drop 0
          have O234 : Ow G222 H229 (eSl w131 62 z08 x123 :: eVar b2 29 z00 p0 :: L) := O233.drop 0
          have O235 : Ow G222 H229 (eVar b2 29 z00 p0 :: L) := O234.drop 0
          have O236 : Ow G222 H229 (L) := O235.drop 0
          obtain rfl := zAa h231
          have h237 := z0b (z4e h199)
          obtain rfl := zAa h237
          have h238 := z0b (z4e h138)
          obtain rfl := zAa h238
          exact z4i kr (v1 := (.int .i64 6)) (by rfl) (z2i (by rfl) (by exact rfl)) O236 (zAe s53 (zAe s116 (zAe s128 (zAe s147 (zAe s179 (zAe s207 s224)))))) rfl
         ·have h239 := z16 g230 h221
          refine .skip ?_
          refine .region ?_
          refine W.pure (v := (.int .i64 (z0p .i64 (x201 + 1)))) rfl rfl (z2g (oo rfl t209) (oo rfl rfl) rfl) ?_
          refine W.pure (v := (.int .i64 (z0p .i64 (x201 + 1)))) rfl rfl (z02 (oo rfl rfl)) ?_
          refine .nil ?_
          exact ⟨k200, zAg _, ⟨z0p .i64 (x201 + 1), _, h239, O223, (zAe s207 s224), rfl⟩⟩
        ·have h240 := z16 g210 h208
         refine .exit ?_
         obtain rfl := zAa h240
         exact ⟨_, rfl, O206, s207⟩
       ·rintro σ241 H242 fr243 ⟨G244, rfl, O245, s246⟩
        have h248 := z7v (z6h h199)
        refine .seq ?_
        refine .seq ?_
        obtain ⟨q249, h250, h251⟩ := z05 h248
        refine AW.midT (fun σ' H' => ∃ (y1 : Bool) (G' : GM), y1 = q249 /\ Ow G' H' (eVar b62 22 rV w181 :: eSl w181 9 rS x174.2 :: eVar b161 62 z08 x153 :: eSl w131 62 z08 x123 :: eVar b2 29 z00 p0 :: L) /\ GM.le G244 G' /\ σ' 101 = .bool y1) ?_ ?_
        ·refine .draw2 (M := [0, 1, 3, 7, 15, 31, 63, 7, 135, 391, 903, 2047, 4095]) mixed (by kernel_rfl) (by kernel_rfl) fun H252 N256 x253 F255 => ?_
         have O254 := O245.ext x253
         refine D2.pure (v := (padd (.pointer (some ⟨b161, 0, none⟩)) 2)) rfl rfl (z07 zix (oo rfl ((fr243 9 rfl).trans rfl)) (O254.atVar (j := 2) rfl)) ?_
         refine D2.load1' (v := (.bool x153.apart)) (r := []) rfl rfl ag4 (z0d rfl (At.bool (At.proj (O254.atVar (j := 2) rfl) zb0))) z0t ?_
         refine D2.pure (v := (.bool x153.apart)) rfl rfl (z02 (oo rfl rfl)) ?_
         refine D2.splitAt (t := 91) (b := x153.apart) rfl (fun g257 gv258 => ?_) (fun g257 gv258 => ?_)
         ·have h259 := z03 g257 h250
          refine D2.pure (v := (padd (.pointer (some ⟨b161, 0, none⟩)) 1)) (gk rfl rfl gv258 rfl) rfl (z07 zgv (oo rfl ((fr243 9 rfl).trans rfl)) (O254.atVar (j := 2) rfl)) ?_
          obtain ⟨w260, p261, f262⟩ := At.sl (At.proj (O254.atVar (j := 2) rfl) z6t)
          refine D2.load1' (v := w260) (r := []) (gk rfl rfl gv258 rfl) rfl ag22 (z0d rfl p261) z0t ?_
          obtain ⟨x263, i264, h265⟩ := z05 h259
          have j266 := z1n i264
          refine D2.pure (v := (z4t w260 (Int.toNat 0 * 1))) (gk rfl rfl gv258 rfl) rfl (z5d el22 sz9 (oo rfl rfl) (oo rfl rfl) (z0x f262) j266.1 j266.2.1) ?_
          refine D2.load1' (v := (.string x263)) (r := []) (gk rfl rfl gv258 rfl) rfl ag9 (z0d rfl (At.str (At.le (z3c f262 j266.2.2) (zAf _) O254.fro))) z0t ?_
          refine D2.pure (v := (padd (.pointer (some ⟨b161, 0, none⟩)) 1)) (gk rfl rfl gv258 rfl) rfl (z07 zgv (oo rfl ((fr243 9 rfl).trans rfl)) (O254.atVar (j := 2) rfl)) ?_
          obtain ⟨w267, p268, f269⟩ := At.sl (At.proj (O254.atVar (j := 2) rfl) z6t)
          refine D2.load1' (v := w267) (r := []) (gk rfl rfl gv258 rfl) rfl ag22 (z0d rfl p268) z0t ?_
          obtain ⟨x270, i271, h272⟩ := z05 h265
          have j273 := z1n i271
          refine D2.pure (v := (z4t w267 (Int.toNat 1 * 1))) (gk rfl rfl gv258 rfl) rfl (z5d el22 sz9 (oo rfl rfl) (oo rfl rfl) (z0x f269) j273.1 j273.2.1) ?_
          refine D2.load1' (v := (.string x270)) (r := []) (gk rfl rfl gv258 rfl) rfl ag9 (z0d rfl (At.str (At.le (z3c f269 j273.2.2) (zAf _) O254.fro))) z0t ?_
          refine D2.pure (v := (.bool (sEq x263 x270))) (gk rfl rfl gv258 rfl) rfl (zc2 (oo rfl rfl) (oo rfl rfl)) ?_
          refine D2.pure (v := (.bool (sEq x263 x270))) rfl rfl (z0u (oo rfl gv258) (oo rfl rfl)) ?_
          refine .nil ?_
          obtain rfl := zAa h272
          exact ⟨sEq x263 x270, _, rfl, O254, (zAf _), rfl⟩
         ·have h274 := z16 g257 h250
          refine D2.skip (gk rfl rfl gv258 rfl) rfl ?_
          refine D2.skip (gk rfl rfl gv258 rfl) rfl ?_
          refine D2.skip (gk rfl rfl gv258 rfl) rfl ?_
          refine D2.skip (gk rfl rfl gv258 rfl) rfl ?_
          refine D2.skip (gk rfl rfl gv258 rfl) rfl ?_
          refine D2.skip (gk rfl rfl gv258 rfl) rfl ?_
          refine D2.skip (gk rfl rfl gv258 rfl) rfl ?_
          refine D2.skip (gk rfl rfl gv258 rfl) rfl ?_
          refine D2.skip (gk rfl rfl gv258 rfl) rfl ?_
          refine D2.pure (v := (.bool false)) rfl rfl (z1h (oo rfl gv258) (oo rfl rfl)) ?_
          refine .nil ?_
          obtain rfl := zAa h274
          exact ⟨false, _, rfl, O254, (zAf _), rfl⟩
        ·rintro σ276 H277 fr278 ⟨x275, G279, rfl, O280, s281, t283⟩
         have h284 := z0b h251
         refine .cond (b := x275) rfl t283 (fun g285 => ?_) (fun g285 => ?_)
         ·have h286 := z03 g285 h284
          refine .seq ?_
          refine .region ?_
          refine W.pure (v := (.int .i64 3)) rfl rfl (z01 (oo rfl rfl)) ?_
          refine .nil ?_
          refine .ret ?_
          have O287 : Ow G279 H277 (eSl w181 9 rS x174.2 :: eVar b161 62 z08 x153 :: eSl w131 62 z08 x123 :: eVar b2 29 z00 p0 :: L) := O280.drop 0
          have O288 : Ow G279 H277 (eVar b161 62 z08 x153 :: eSl w131 62 z08 x123 :: eVar b2 29 z00 p0 :: L) := O287.drop 0
          have O289 : Ow G279 H277 (eSl w131 62 z08 x123 :: eVar b2 29 z00 p0 :: L) := O288.drop 0
          have O290 : Ow G279 H277 (eVar b2 29 z00 p0 :: L) := O289.drop 0
          have O291 : Ow G279 H277 (L) := O290.drop 0
          obtain rfl := zAa h286
          have h292 := z0b (z4e h138)
          obtain rfl := zAa h292
          exact z4i kr (v1 := (.int .i64 3)) (by rfl) (z2i (by rfl) (by exact rfl)) O291 (zAe s53 (zAe s116 (zAe s128 (zAe s147 (zAe s179 (zAe s246 s281)))))) rfl
         ·have h293 := z16 g285 h284
          refine .skip ?_
          refine .seq ?_
          refine .region ?_
          refine W.pure (v := (padd (.pointer (some ⟨b161, 0, none⟩)) 3)) rfl rfl (z07 ziy (oo rfl ((fr278 9 rfl).trans ((fr243 9 rfl).trans rfl))) (O280.atVar (j := 2) rfl)) ?_
          refine W.load1 (v := (.bool x153.bad)) (r := []) rfl rfl ag4 (z0d rfl (At.bool (At.proj (O280.atVar (j := 2) rfl) ze4))) ?_
          refine .nil ?_
          refine .cond (b := x153.bad) rfl rfl (fun g294 => ?_) (fun g294 => ?_)
          ·have h295 := z03 g294 h293
           refine .seq ?_
           refine .region ?_
           refine W.pure (v := (.int .i64 4)) rfl rfl (z01 (oo rfl rfl)) ?_
           refine .nil ?_
           refine .ret ?_
           have O296 : Ow G279 H277 (eSl w181 9 rS x174.2 :: eVar b161 62 z08 x153 :: eSl w131 62 z08 x123 :: eVar b2 29 z00 p0 :: L) := O280.drop 0
           have O297 : Ow G279 H277 (eVar b161 62 z08 x153 :: eSl w131 62 z08 x123 :: eVar b2 29 z00 p0 :: L) := O296.drop 0
           have O298 : Ow G279 H277 (eSl w131 62 z08 x123 :: eVar b2 29 z00 p0 :: L) := O297.drop 0
           have O299 : Ow G279 H277 (eVar b2 29 z00 p0 :: L) := O298.drop 0
           have O300 : Ow G279 H277 (L) := O299.drop 0
           obtain rfl := zAa h295
           have h301 := z0b (z4e h138)
           obtain rfl := zAa h301
           exact z4i kr (v1 := (.int .i64 4)) (by rfl) (z2i (by rfl) (by exact rfl)) O300 (zAe s53 (zAe s116 (zAe s128 (zAe s147 (zAe s179 (zAe s246 s281)))))) rfl
          ·have h302 := z16 g294 h293
           refine .skip ?_
           refine .region ?_
           refine W.pure (v := (.int .i64 (z0p .i64 (x141 + 1)))) rfl rfl (z2g (oo rfl ((fr278 65 rfl).trans ((fr243 65 rfl).trans t150))) (oo rfl rfl) rfl) ?_
           refine W.pure (v := (.int .i64 (z0p .i64 (x141 + 1)))) rfl rfl (z02 (oo rfl rfl)) ?_
           refine .nil ?_
           have O303 : Ow G279 H277 (eVar b62 22 rV w181 :: eSl w181 9 rS x174.2 :: eSl w131 62 z08 x123 :: eVar b2 29 z00 p0 :: L) := O280.drop 2
           have O304 : Ow G279 H277 (eVar b2 29 z00 p0 :: eVar b62 22 rV w181 :: eSl w181 9 rS x174.2 :: eSl w131 62 z08 x123 :: L) := O303.front (j := 3) rfl
           have O305 : Ow G279 H277 (eSl w181 9 rS x174.2 :: eVar b2 29 z00 p0 :: eVar b62 22 rV w181 :: eSl w131 62 z08 x123 :: L) := O304.front (j := 2) rfl
           have O306 : Ow G279 H277 (eVar b62 22 rV w181 :: eSl w181 9 rS x174.2 :: eVar b2 29 z00 p0 :: eSl w131 62 z08 x123 :: L) := O305.front (j := 2) rfl
           have O307 : Ow G279 H277 (eSl w131 62 z08 x123 :: eVar b62 22 rV w181 :: eSl w181 9 rS x174.2 :: eVar b2 29 z00 p0 :: L) := O306.front (j := 3) rfl
           exact ⟨k139, zAg _, ⟨x174.2, z0p .i64 (x141 + 1), w181, _, h302, O307, (zAe s147 (zAe s179 (zAe s246 s281))), rfl⟩⟩
     ·have h309 := z16 g151 h148
      refine .exit ?_
      obtain rfl := zAa h309
      exact ⟨x140, w149, _, rfl, O146, s147⟩
    ·rintro σ311 H312 fr313 ⟨x310, w318, G314, rfl, O315, s316⟩
     have h319 := z0b (z6h h138)
     refine .seq ?_
     refine .region ?_
     refine W.pure (v := (.int .i64 0)) rfl rfl (z01 (oo rfl rfl)) ?_
     refine .nil ?_
     refine .ret ?_
     have O320 : Ow G314 H312 (eVar b62 22 rV w318 :: eSl w318 9 rS x310 :: eVar b2 29 z00 p0 :: L) := O315.drop 0
     have O321 : Ow G314 H312 (eSl w318 9 rS x310 :: eVar b2 29 z00 p0 :: L) := O320.drop 0
     have O322 : Ow G314 H312 (eVar b2 29 z00 p0 :: L) := O321.drop 0
     have O323 : Ow G314 H312 (L) := O322.drop 0
     obtain rfl := zAa h319
     exact z4i kr (v1 := (.int .i64 0)) (by rfl) (z2i (by rfl) (by exact rfl)) O323 (zAe s53 (zAe s116 (zAe s128 s316))) rfl
def z1a (K : Nat) : Nat -> Int -> zAd -> Option (zAd)
 | 0, _, _ => none
 | k + 1, x7, x8 => (Option.bind ((if (decide (x7 > 0)) = true then some true else some (sEq x8 (⟨#[]⟩ : zAd)))) (tu1 fun x25 => (if x25 = true then ((ssl (⟨#[48, 49, 50, 51, 52, 53, 54, 55, 56, 57]⟩ : zAd) (Int.tmod x7 10) (z0p .i64 ((Int.tmod x7 10) + 1))).bind fun x37 => (if (x37).size + (x8).size <= 4611686018427387904 then z1a K k (z0p .i64 (Int.tdiv x7 10)) (x37 ++ x8) else none)) else some x8)))
def z1y (K : Nat) : Nat -> Int -> Option zAd
 | 0, _ => none
 | D + 1, p0 => (if (decide (p0 >= 0)) = true then (Option.bind (z1a K K p0 (⟨#[]⟩ : zAd)) (tu1 fun x43 => some x43)) else (if (p0 == (-9223372036854775808)) = true then some (⟨#[45, 57, 50, 50, 51, 51, 55, 50, 48, 51, 54, 56, 53, 52, 55, 55, 53, 56, 48, 56]⟩ : zAd) else (((z1y K D) (z0p .i64 (-p0))).bind fun x57 => (if ((⟨#[45]⟩ : zAd)).size + (x57).size <= 4611686018427387904 then some ((⟨#[45]⟩ : zAd) ++ x57) else none))))
theorem zai (K D : Nat) : ∀ {G : GM} {H : AH} {L : List Pc} (p0 : Int) (O : Ow G H (L)) (r : zAd) (h : z1y K D p0 = some r),
  CR Tryd.prog 41 [(.int .i64 p0)] G H (L) (fun v G' _ => v = .string r) := by
 induction D with
 | zero => intro G H L p0 O r h; exact z09 h
 | succ D ih =>
 intro G H L p0 O r h
 rw [z1y] at h
 refine CR.og (n := 29) (fn := Tryd.f41) (by kernel_rfl) rfl rfl fun R kr => ?_
 refine .seq ?_
 refine .region ?_
 refine W.pure (v := (.string (⟨#[]⟩ : zAd))) rfl rfl (z01 (oo rfl rfl)) ?_
 refine .nil ?_
 refine .seq ?_
 refine .seq ?_
 refine .region ?_
 refine W.pure (v := (.int .i64 p0)) rfl rfl (z02 (oo rfl rfl)) ?_
 refine W.pure (v := (.bool (decide (p0 >= 0)))) rfl rfl (z2g (oo rfl rfl) (oo rfl rfl) rfl) ?_
 refine .nil ?_
 refine .cond (b := decide (p0 >= 0)) rfl rfl (fun g1 => ?_) (fun g1 => ?_)
 ·have h2 := z03 g1 h
  refine .seq ?_
  refine .region ?_
  refine W.pure (v := (.string (⟨#[]⟩ : zAd))) rfl rfl (z01 (oo rfl rfl)) ?_
  refine .nil ?_
  refine .seq ?_
  obtain ⟨q3, h4, h5⟩ := z05 h2
  refine AW.midT (fun σ' H' => ∃ (y1 : zAd) (G' : GM), y1 = q3 /\ Ow G' H' (L) /\ GM.le G G' /\ σ' 3 = .string y1) ?_ ?_
  ·refine .block ?_
   refine AW.loop (α := Nat) (fun k' σ' H' => ∃ (y1 : Int) (y2 : zAd) (G' : GM), z1a K k' y1 y2 = some q3 /\ Ow G' H' (L) /\ GM.le G G' /\ σ' 0 = .int .i64 y1 /\ σ' 3 = .string y2) (fun k' => k') K ⟨p0, (⟨#[]⟩ : zAd), _, h4, O, (zAf _), rfl, rfl⟩ ?_
   rintro k6
   rintro σ9 H10 fr11 ⟨x7, x8, G12, h15, O13, s14, t16, t17⟩
   rcases k6 with _ | k6
   ·exact z09 h15
   rw [z1a] at h15
   refine .seq ?_
   refine .seq ?_
   obtain ⟨q18, h19, h20⟩ := z05 h15
   refine AW.midT (fun σ' H' => ∃ (y1 : Bool) (G' : GM), y1 = q18 /\ Ow G' H' (L) /\ GM.le G12 G' /\ σ' 11 = .bool y1) ?_ ?_
   ·refine .region ?_
    refine W.pure (v := (.int .i64 x7)) rfl rfl (z02 (oo rfl t16)) ?_
    refine W.pure (v := (.bool (decide (x7 > 0)))) rfl rfl (z2g (oo rfl rfl) (oo rfl rfl) rfl) ?_
    refine W.pure (v := (.bool (decide (x7 > 0)))) rfl rfl (z02 (oo rfl rfl)) ?_
    refine W.splitAt (t := 8) (b := decide (x7 > 0)) rfl (fun g21 gv22 => ?_) (fun g21 gv22 => ?_)
    ·have h23 := z03 g21 h19
     refine W.skip (gk rfl rfl gv22 rfl) rfl ?_
     refine W.skip (gk rfl rfl gv22 rfl) rfl ?_
     refine W.pure (v := (.bool true)) rfl rfl (z0u (oo rfl gv22) (oo rfl rfl)) ?_
     refine .nil ?_
     obtain rfl := zAa h23
     exact ⟨true, _, rfl, O13, (zAf _), rfl⟩
    ·have h24 := z16 g21 h19
     refine W.pure (v := (.string x8)) (gk rfl rfl gv22 rfl) rfl (z02 (oo rfl t17)) ?_
     refine W.pure (v := (.bool (sEq x8 (⟨#[]⟩ : zAd)))) (gk rfl rfl gv22 rfl) rfl (zc2 (oo rfl rfl) (oo rfl rfl)) ?_
     refine W.pure (v := (.bool (sEq x8 (⟨#[]⟩ : zAd)))) rfl rfl (z1h (oo rfl gv22) (oo rfl rfl)) ?_
     refine .nil ?_
     obtain rfl := zAa h24
     exact ⟨sEq x8 (⟨#[]⟩ : zAd), _, rfl, O13, (zAf _), rfl⟩
   ·rintro σ26 H27 fr28 ⟨x25, G29, rfl, O30, s31, t33⟩
    have h34 := z0b h20
    refine .cond (b := x25) rfl t33 (fun g35 => ?_) (fun g35 => ?_)
    ·have h36 := z03 g35 h34
     refine .skip ?_
     refine .block ?_
     refine .seq ?_
     refine .region ?_
     refine W.pure (v := (.int .i64 x7)) rfl rfl (z02 (oo rfl ((fr28 0 rfl).trans t16))) ?_
     refine W.pure (v := (.int .i64 (Int.tmod x7 10))) rfl rfl (zji (by decide) (oo rfl rfl) (oo rfl rfl)) ?_
     refine W.pure (v := (.int .i64 x7)) rfl rfl (z02 (oo rfl ((fr28 0 rfl).trans t16))) ?_
     refine W.pure (v := (.int .i64 (Int.tmod x7 10))) rfl rfl (zji (by decide) (oo rfl rfl) (oo rfl rfl)) ?_
     refine W.pure (v := (.int .i64 (z0p .i64 ((Int.tmod x7 10) + 1)))) rfl rfl (z2g (oo rfl rfl) (oo rfl rfl) rfl) ?_
     obtain ⟨x37, i38, h39⟩ := z05 h36
     refine W.pure (v := (.string x37)) rfl rfl (zi5 un9 (oo rfl rfl) (oo rfl rfl) (oo rfl rfl) i38) ?_
     refine W.pure (v := (.string x8)) rfl rfl (z02 (oo rfl ((fr28 3 rfl).trans t17))) ?_
     obtain ⟨g40, h41⟩ := z2a h39
     refine W.pure (v := (.string (x37 ++ x8))) rfl rfl (z5a g40 (oo rfl rfl) (oo rfl rfl)) ?_
     refine W.pure (v := (.string (x37 ++ x8))) rfl rfl (z01 (oo rfl rfl)) ?_
     refine .nil ?_
     refine .region ?_
     refine W.pure (v := (.int .i64 x7)) rfl rfl (z02 (oo rfl ((fr28 0 rfl).trans t16))) ?_
     refine W.pure (v := (.int .i64 (z0p .i64 (Int.tdiv x7 10)))) rfl rfl (zjo (by decide) (oo rfl rfl) (oo rfl rfl)) ?_
     refine W.pure (v := (.int .i64 (z0p .i64 (Int.tdiv x7 10)))) rfl rfl (z01 (oo rfl rfl)) ?_
     refine .nil ?_
     exact ⟨k6, zAg _, ⟨z0p .i64 (Int.tdiv x7 10), (x37 ++ x8), _, h41, O30, (zAe s14 s31), rfl, rfl⟩⟩
    ·have h42 := z16 g35 h34
     refine .exit ?_
     obtain rfl := zAa h42
     exact ⟨x8, _, rfl, O30, (zAe s14 s31), ((fr28 3 rfl).trans t17)⟩
  ·rintro σ44 H45 fr46 ⟨x43, G47, rfl, O48, s49, t51⟩
   have h52 := z0b h5
   refine .seq ?_
   refine .region ?_
   refine W.pure (v := (.string x43)) rfl rfl (z02 (oo rfl t51)) ?_
   refine W.pure (v := (.string x43)) rfl rfl (z01 (oo rfl rfl)) ?_
   refine .nil ?_
   refine .ret ?_
   obtain rfl := zAa h52
   exact z4i kr (v1 := (.string x43)) (by rfl) (z2i (by rfl) (by exact rfl)) O48 s49 rfl
 ·have h53 := z16 g1 h
  refine .skip ?_
  refine .seq ?_
  refine .seq ?_
  refine .region ?_
  refine W.pure (v := (.int .i64 p0)) rfl rfl (z02 (oo rfl rfl)) ?_
  refine W.pure (v := (.bool (p0 == (-9223372036854775808)))) rfl rfl (z2g (oo rfl rfl) (oo rfl rfl) rfl) ?_
  refine .nil ?_
  refine .cond (b := (p0 == (-9223372036854775808))) rfl rfl (fun g54 => ?_) (fun g54 => ?_)
  ·have h55 := z03 g54 h53
   refine .seq ?_
   refine .region ?_
   refine W.pure (v := (.string (⟨#[45, 57, 50, 50, 51, 51, 55, 50, 48, 51, 54, 56, 53, 52, 55, 55, 53, 56, 48, 56]⟩ : zAd))) rfl rfl (z01 (oo rfl rfl)) ?_
   refine .nil ?_
   refine .ret ?_
   obtain rfl := zAa h55
   exact z4i kr (v1 := (.string (⟨#[45, 57, 50, 50, 51, 51, 55, 50, 48, 51, 54, 56, 53, 52, 55, 55, 53, 56, 48, 56]⟩ : zAd))) (by rfl) (z2i (by rfl) (by exact rfl)) O (zAf _) rfl
  ·have h56 := z16 g54 h53
   refine .skip ?_
   refine .seq ?_
   refine .region ?_
   refine W.pure (v := (.int .i64 p0)) rfl rfl (z02 (oo rfl rfl)) ?_
   refine W.pure (v := (.int .i64 (z0p .i64 (-p0)))) rfl rfl (zjr (oo rfl rfl)) ?_
   obtain ⟨x57, i58, h59⟩ := z05 h56
   refine W.lo rfl rfl (Lo.callP (ps := []) (ps' := []) rfl (fn := Tryd.f41) (by kernel_rfl) rfl (mc rfl mn) O (fun L' O' => ih (z0p .i64 (-p0)) O' _ i58)) ?_
   rintro v66 H67 ⟨G60, O61, s62, sm65, rfl⟩
   replace O61 : Ow G60 H67 (L) := O61
   obtain ⟨g68, h69⟩ := z2a h59
   refine W.pure (v := (.string ((⟨#[45]⟩ : zAd) ++ x57))) rfl rfl (z5a g68 (oo rfl rfl) (oo rfl rfl)) ?_
   refine W.pure (v := (.string ((⟨#[45]⟩ : zAd) ++ x57))) rfl rfl (z01 (oo rfl rfl)) ?_
   refine .nil ?_
   refine .ret ?_
   obtain rfl := zAa h69
   exact z4i kr (v1 := (.string ((⟨#[45]⟩ : zAd) ++ x57))) (by rfl) (z2i (by rfl) (by exact rfl)) O61 s62 rfl
def z66 (K : Nat) (p0 : Int) : Option zAd := ((z1y K K p0).bind fun x1 => some x1)
theorem ze6 (p0 : Int) (O : Ow G H (L)) (r : zAd) (h : z66 K p0 = some r) :
  CR Tryd.prog 24 [(.int .i64 p0)] G H (L) (fun v G' _ => v = .string r) := by
 unfold z66 at h
 refine CR.og (n := 5) (fn := Tryd.f24) (by kernel_rfl) rfl rfl fun R kr => ?_
 refine .seq ?_
 refine .region ?_
 refine W.pure (v := (.string (⟨#[]⟩ : zAd))) rfl rfl (z01 (oo rfl rfl)) ?_
 refine .nil ?_
 refine .seq ?_
 refine .region ?_
 refine W.pure (v := (.int .i64 p0)) rfl rfl (z02 (oo rfl rfl)) ?_
 obtain ⟨x1, i2, h3⟩ := z05 h
 refine W.lo rfl rfl (Lo.callP (ps := []) (ps' := []) rfl (fn := Tryd.f41) (by kernel_rfl) rfl (mc rfl mn) O (fun L' O' => zai K K p0 O' _ i2)) ?_
 rintro v10 H11 ⟨G4, O5, s6, sm9, rfl⟩
 replace O5 : Ow G4 H11 (L) := O5
 refine W.pure (v := (.string x1)) rfl rfl (z01 (oo rfl rfl)) ?_
 refine .nil ?_
 refine .ret ?_
 obtain rfl := zAa h3
 exact z4i kr (v1 := (.string x1)) (by rfl) (z2i (by rfl) (by exact rfl)) O5 s6 rfl
def z1d (K : Nat) (p0 : List zAd) : Nat -> zAd -> Int -> Option (zAd)
 | 0, _, _ => none
 | k + 1, x8, x9 => (if (decide (x9 < (List.length p0 : Int))) = true then ((idx p0 x9).bind fun x21 => (if (x21).size + ((⟨#[32]⟩ : zAd)).size <= 4611686018427387904 then (if (x8).size + ((x21 ++ (⟨#[32]⟩ : zAd))).size <= 4611686018427387904 then z1d K p0 k (x8 ++ (x21 ++ (⟨#[32]⟩ : zAd))) (z0p .i64 (x9 + 1)) else none) else none)) else some x8)
def z1e (K : Nat) (p1 : List Int) : Nat -> zAd -> Int -> Option (zAd)
 | 0, _, _ => none
 | k + 1, x44, x45 => (if (decide (x45 < (List.length p1 : Int))) = true then ((idx p1 x45).bind fun x57 => ((z66 K x57).bind fun x61 => (if (x61).size + ((⟨#[32]⟩ : zAd)).size <= 4611686018427387904 then (if (x44).size + ((x61 ++ (⟨#[32]⟩ : zAd))).size <= 4611686018427387904 then z1e K p1 k (x44 ++ (x61 ++ (⟨#[32]⟩ : zAd))) (z0p .i64 (x45 + 1)) else none) else none))) else some x44)
def z2k (K : Nat) (p0 : List zAd) (p1 : List Int) (p2 : List zAd) : Option (List zAd) := (Option.bind (z1d K p0 K (⟨#[]⟩ : zAd) 0) (tu1 fun x30 => (Option.bind (z1e K p1 K x30 0) (tu1 fun x77 => ((ssl x77 0 (z0p .i64 ((x77.size : Int) - 1))).bind fun x92 => (if List.length p2 + List.length [x92] <= 16777216 then some (p2 ++ [x92]) else none))))))
theorem z3s (v0 : Value) (p0 : List zAd) (hp0 : (rSl rS).rep G [v0] p0) (v1 : Value) (p1 : List Int) (hp1 : (rSl (rI .i64)).rep G [v1] p1) (b2 : Nat) (v2 : Value) (p2 : List zAd) (O : Ow G H (eVar b2 22 rV v2 :: eSl v2 9 rS p2 :: L)) (r : List zAd) (h : z2k K p0 p1 p2 = some r) :
  CRF Tryd.prog 23 [v0, v1, .pointer (some ⟨b2, 0, none⟩)] G H (fun wl => (eVar b2 22 rV wl :: eSl wl 9 rS r :: L)) (fun wl v G' => v = .tuple #[]) := by
 unfold z2k at h
 refine CRF.og (n := 41) (fn := Tryd.f23) (by kernel_rfl) rfl rfl fun R kr => ?_
 refine .seq ?_
 refine .region ?_
 refine W.pure (v := (.string (⟨#[]⟩ : zAd))) rfl rfl (z01 (oo rfl rfl)) ?_
 refine .nil ?_
 refine .seq ?_
 refine .seq ?_
 refine .region ?_
 refine W.pure (v := v0) rfl rfl (z02 (oo rfl rfl)) ?_
 refine W.pure (v := (.int .i64 (List.length p0 : Int))) rfl rfl (z25 (oo rfl rfl) (z0x hp0) (z04 el22)) ?_
 refine W.pure (v := (.int .i64 0)) rfl rfl (z02 (oo rfl rfl)) ?_
 refine .nil ?_
 obtain ⟨q4, h5, h6⟩ := z05 h
 refine AW.midT (fun σ' H' => ∃ (y1 : zAd) (G' : GM), y1 = q4 /\ Ow G' H' (eVar b2 22 rV v2 :: eSl v2 9 rS p2 :: L) /\ GM.le G G' /\ σ' 5 = .string y1) ?_ ?_
 ·refine .block ?_
  refine AW.loop (α := Nat) (fun k' σ' H' => ∃ (y1 : zAd) (y2 : Int) (G' : GM), z1d K p0 k' y1 y2 = some q4 /\ Ow G' H' (eVar b2 22 rV v2 :: eSl v2 9 rS p2 :: L) /\ GM.le G G' /\ σ' 5 = .string y1 /\ σ' 12 = .int .i64 y2) (fun k' => k') K ⟨(⟨#[]⟩ : zAd), 0, _, h5, O, (zAf _), rfl, rfl⟩ ?_
  rintro k7
  rintro σ10 H11 fr12 ⟨x8, x9, G13, h16, O14, s15, t17, t18⟩
  rcases k7 with _ | k7
  ·exact z09 h16
  rw [z1d] at h16
  refine .seq ?_
  refine .region ?_
  refine W.pure (v := (.bool (decide (x9 < (List.length p0 : Int))))) rfl rfl (z2g (oo rfl t18) (oo rfl ((fr12 11 rfl).trans rfl)) rfl) ?_
  refine .nil ?_
  refine .seq ?_
  refine .cond (b := decide (x9 < (List.length p0 : Int))) rfl rfl (fun g19 => ?_) (fun g19 => ?_)
  ·have h20 := z03 g19 h16
   refine .skip ?_
   refine .seq ?_
   refine .block ?_
   refine .seq ?_
   refine .region ?_
   obtain ⟨x21, i22, h23⟩ := z05 h20
   have j24 := z1n i22
   refine W.pure (v := (z4t v0 (Int.toNat x9 * 1))) rfl rfl (z5d el22 sz9 (oo rfl ((fr12 10 rfl).trans rfl)) (oo rfl t18) (z0x (RT.mono _ s15 hp0)) j24.1 j24.2.1) ?_
   refine W.load1 (v := (.string x21)) (r := []) rfl rfl ag9 (z0d rfl (At.str (At.le (At.le (z3c hp0 j24.2.2) s15 s15) (zAf _) O14.fro))) ?_
   refine W.pure (v := (.string x21)) rfl rfl (z01 (oo rfl rfl)) ?_
   refine .nil ?_
   refine .region ?_
   refine W.pure (v := (.string x8)) rfl rfl (z02 (oo rfl t17)) ?_
   refine W.pure (v := (.string x21)) rfl rfl (z02 (oo rfl rfl)) ?_
   obtain ⟨g25, h26⟩ := z2a h23
   refine W.pure (v := (.string (x21 ++ (⟨#[32]⟩ : zAd)))) rfl rfl (z5a g25 (oo rfl rfl) (oo rfl rfl)) ?_
   obtain ⟨g27, h28⟩ := z2a h26
   refine W.pure (v := (.string (x8 ++ (x21 ++ (⟨#[32]⟩ : zAd))))) rfl rfl (z5a g27 (oo rfl rfl) (oo rfl rfl)) ?_
   refine W.pure (v := (.string (x8 ++ (x21 ++ (⟨#[32]⟩ : zAd))))) rfl rfl (z01 (oo rfl rfl)) ?_
   refine .nil ?_
   refine .region ?_
   refine W.pure (v := (.int .i64 (z0p .i64 (x9 + 1)))) rfl rfl (z2g (oo rfl t18) (oo rfl rfl) rfl) ?_
   refine W.pure (v := (.int .i64 (z0p .i64 (x9 + 1)))) rfl rfl (z02 (oo rfl rfl)) ?_
   refine .nil ?_
   exact ⟨k7, zAg _, ⟨(x8 ++ (x21 ++ (⟨#[32]⟩ : zAd))), z0p .i64 (x9 + 1), _, h28, O14, s15, rfl, rfl⟩⟩
  ·have h29 := z16 g19 h16
   refine .exit ?_
   obtain rfl := zAa h29
   exact ⟨x8, _, rfl, O14, s15, t17⟩
 ·rintro σ31 H32 fr33 ⟨x30, G34, rfl, O35, s36, t38⟩
  have h39 := z0b h6
  refine .seq ?_
  refine .seq ?_
  refine .region ?_
  refine W.pure (v := v1) rfl rfl (z02 (oo rfl ((fr33 1 rfl).trans rfl))) ?_
  refine W.pure (v := (.int .i64 (List.length p1 : Int))) rfl rfl (z25 (oo rfl rfl) (z0x (RT.mono _ s36 hp1)) (z04 el65)) ?_
  refine W.pure (v := (.int .i64 0)) rfl rfl (z02 (oo rfl rfl)) ?_
  refine .nil ?_
  obtain ⟨q40, h41, h42⟩ := z05 h39
  refine AW.midT (fun σ' H' => ∃ (y1 : zAd) (G' : GM), y1 = q40 /\ Ow G' H' (eVar b2 22 rV v2 :: eSl v2 9 rS p2 :: L) /\ GM.le G34 G' /\ σ' 5 = .string y1) ?_ ?_
  ·refine .block ?_
   refine AW.loop (α := Nat) (fun k' σ' H' => ∃ (y1 : zAd) (y2 : Int) (G' : GM), z1e K p1 k' y1 y2 = some q40 /\ Ow G' H' (eVar b2 22 rV v2 :: eSl v2 9 rS p2 :: L) /\ GM.le G34 G' /\ σ' 5 = .string y1 /\ σ' 23 = .int .i64 y2) (fun k' => k') K ⟨x30, 0, _, h41, O35, (zAf _), t38, rfl⟩ ?_
   rintro k43
   rintro σ46 H47 fr48 ⟨x44, x45, G49, h52, O50, s51, t53, t54⟩
   rcases k43 with _ | k43
   ·exact z09 h52
   rw [z1e] at h52
   refine .seq ?_
   refine .region ?_
   refine W.pure (v := (.bool (decide (x45 < (List.length p1 : Int))))) rfl rfl (z2g (oo rfl t54) (oo rfl ((fr48 22 rfl).trans rfl)) rfl) ?_
   refine .nil ?_
   refine .seq ?_
   refine .cond (b := decide (x45 < (List.length p1 : Int))) rfl rfl (fun g55 => ?_) (fun g55 => ?_)
   ·have h56 := z03 g55 h52
    refine .skip ?_
    refine .seq ?_
    refine .block ?_
    refine .seq ?_
    refine .region ?_
    obtain ⟨x57, i58, h59⟩ := z05 h56
    have j60 := z1n i58
    refine W.pure (v := (z4t v1 (Int.toNat x45 * 1))) rfl rfl (z5d el65 sz3 (oo rfl ((fr48 21 rfl).trans rfl)) (oo rfl t54) (z0x (RT.mono _ (zAe s36 s51) hp1)) j60.1 j60.2.1) ?_
    refine W.load1 (v := (.int .i64 x57)) (r := []) rfl rfl ag3 (z0d rfl (At.int (At.le (At.le (z3c hp1 j60.2.2) (zAe s36 s51) (zAe s36 s51)) (zAf _) O50.fro))) ?_
    refine W.pure (v := (.int .i64 x57)) rfl rfl (z01 (oo rfl rfl)) ?_
    refine .nil ?_
    refine .region ?_
    refine W.pure (v := (.string x44)) rfl rfl (z02 (oo rfl t53)) ?_
    refine W.pure (v := (.int .i64 x57)) rfl rfl (z02 (oo rfl rfl)) ?_
    obtain ⟨x61, i62, h63⟩ := z05 h59
    refine W.lo rfl rfl (Lo.callP (ps := []) (ps' := []) rfl (fn := Tryd.f24) (by kernel_rfl) rfl (mc rfl mn) O50 (fun L' O' => ze6 K x57 O' _ i62)) ?_
    rintro v70 H71 ⟨G64, O65, s66, sm69, rfl⟩
    replace O65 : Ow G64 H71 (eVar b2 22 rV v2 :: eSl v2 9 rS p2 :: L) := O65
    obtain ⟨g72, h73⟩ := z2a h63
    refine W.pure (v := (.string (x61 ++ (⟨#[32]⟩ : zAd)))) rfl rfl (z5a g72 (oo rfl rfl) (oo rfl rfl)) ?_
    obtain ⟨g74, h75⟩ := z2a h73
    refine W.pure (v := (.string (x44 ++ (x61 ++ (⟨#[32]⟩ : zAd))))) rfl rfl (z5a g74 (oo rfl rfl) (oo rfl rfl)) ?_
    refine W.pure (v := (.string (x44 ++ (x61 ++ (⟨#[32]⟩ : zAd))))) rfl rfl (z01 (oo rfl rfl)) ?_
    refine .nil ?_
    refine .region ?_
    refine W.pure (v := (.int .i64 (z0p .i64 (x45 + 1)))) rfl rfl (z2g (oo rfl t54) (oo rfl rfl) rfl) ?_
    refine W.pure (v := (.int .i64 (z0p .i64 (x45 + 1)))) rfl rfl (z02 (oo rfl rfl)) ?_
    refine .nil ?_
    exact ⟨k43, zAg _, ⟨(x44 ++ (x61 ++ (⟨#[32]⟩ : zAd))), z0p .i64 (x45 + 1), _, h75, O65, (zAe s51 s66), rfl, rfl⟩⟩
   ·have h76 := z16 g55 h52
    refine .exit ?_
    obtain rfl := zAa h76
    exact ⟨x44, _, rfl, O50, s51, t53⟩
  ·rintro σ78 H79 fr80 ⟨x77, G81, rfl, O82, s83, t85⟩
   have h86 := z0b h42
   refine .draw2 (M := [0, 0, 0, 4, 12, 30, 62, 127, 255]) mixed (by kernel_rfl) (by kernel_rfl) fun H87 N91 x88 F90 => ?_
   have O89 := O82.ext x88
   refine D2.load1' (v := v2) (r := []) rfl rfl ag22 (z0d ((fr80 2 rfl).trans ((fr33 2 rfl).trans rfl)) (At.raw (O89.atVar (j := 0) rfl))) z0t ?_
   refine D2.pure (v := (.string x77)) rfl rfl (z02 (oo rfl t85)) ?_
   refine D2.pure (v := (.string x77)) rfl rfl (z02 (oo rfl t85)) ?_
   refine D2.pure (v := (.int .i64 (x77.size : Int))) rfl rfl (z91 (oo rfl rfl) un9) ?_
   refine D2.pure (v := (.int .i64 (z0p .i64 ((x77.size : Int) - 1)))) rfl rfl (z2g (oo rfl rfl) (oo rfl rfl) rfl) ?_
   obtain ⟨x92, i93, h94⟩ := z05 h86
   refine D2.pure (v := (.string x92)) rfl rfl (ziz un9 (oo rfl rfl) (oo rfl rfl) i93) ?_
   refine D2.alloc (m := 9) rfl rfl (Al.buildSlice (r := rS) (vs := [(.string x92)]) (xs := [x92]) el22 ze9 sz9 (by kernel_rfl) rfl (qc rfl qn) rfl (.cons rfl .nil)) (Free.up (by decide) F90) (by decide) O89 ?_
   rintro b96 H97 ⟨O98, sm99, F100⟩
   obtain ⟨es102, e103, e104⟩ := z3a (j := 0) rfl O98
   obtain ⟨g105, h106⟩ := z2a h94
   refine D2.lo rfl rfl (Lo.append (j := 2) (v := v2) rfl rfl el22 ni22 ze9 sz9 by9 (by decide) (by decide) rfl e103 e104 g105 O98) ?_ z0t ?_ ?_
   ·rintro v108 H109 ⟨O101, sm107⟩; exact (faR1 (.inl (by decide)) z0t)
   ·rintro v108 H109 ⟨O101, sm107⟩; exact (faR1 (.inl (by decide)) z0t)
   rintro v108 H109 ⟨O101, sm107⟩
   replace O101 : Ow G81 H109 (eSl (.slice (some ⟨b96, 0, some 0⟩) 1 1) 9 rS [x92] :: eVar b2 22 rV v2 :: eSl v108 9 rS (p2 ++ [x92]) :: L) := O101
   refine D2.lo rfl rfl (Lo.storeVar (j := 1) (s := rV) (y0 := v108) (v := v108) (o := 0) rfl ((Put.at (Put.self _) _ _)) rfl sz22 ((fr80 2 rfl).trans ((fr33 2 rfl).trans rfl)) (by omega) rfl (zi2 (O101.slLen (j := 2) rfl)) O101) ?_ (z3k (by decide) z0t) ?_ ?_
   ·rintro v112 H113 ⟨O110, sm111⟩; exact (faR1 (.inl (by decide)) z0t)
   ·rintro v112 H113 ⟨O110, sm111⟩; exact (faR1 (.inl (by decide)) z0t)
   rintro v112 H113 ⟨O110, sm111⟩
   replace O110 : Ow G81 H113 (eSl (.slice (some ⟨b96, 0, some 0⟩) 1 1) 9 rS [x92] :: eVar b2 22 rV v108 :: eSl v108 9 rS (p2 ++ [x92]) :: L) := O110
   refine .nil ?_
   have O114 : Ow G81 H113 (eVar b2 22 rV v108 :: eSl v108 9 rS (p2 ++ [x92]) :: L) := O110.drop 0
   obtain rfl := zAa h106
   exact zj0 kr v108  (by rfl)  O114 (zAe s36 s83) rfl
end Go.Am.Tryd
