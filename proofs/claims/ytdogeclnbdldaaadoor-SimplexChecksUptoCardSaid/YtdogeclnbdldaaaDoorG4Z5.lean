/- Rows that are laid one behind the other: a list of lists that grows by append, each row with its block. -/
import Derived.Test.YtdogeclnbdldaaaDoorG2Z5
import Derived.Test.YtdogeclnbdldaaaDoorG1Z5
import Derived.Laws.Strings
import Derived.Test.YtdogeclnbdldaaaDoorG3Z5
import Derived.Shelf.Strings.Search1
set_option maxRecDepth 100000
set_option maxHeartbeats 8000000
set_option linter.unusedVariables false
set_option linter.unusedSimpArgs false
namespace Go.Am
open Go
noncomputable section
section
variable {G : GM} {H H1 : AH} {L : List Pc} {j : Nat} {a b e0 : Pc}
theorem Ow.part (O : Ow G H L) (hj : L[j]? = some e0) (a b : Pc) (ha : ∀ x ∈ a.foot, x ∈ e0.foot) (hb : ∀ x ∈ b.foot, x ∈ e0.foot) (hab : ∀ x ∈ a.foot, x ∉ b.foot) (oka : a.ok G H.get) (okb : b.ok G H.get) : Ow G H (a :: L.set j b) := by
 have hjl : j < L.length := (zAi hj).1
 have hset : ∀ (i : Nat) (x : Pc), (L.set j b)[i]? = some x -> (i = j /\ x = b) \/ (i ≠ j /\ L[i]? = some x) := fun i x hx => by
  rw [List.getElem?_set] at hx
  by_cases hij : j = i
  ·subst hij; simp [hjl] at hx; exact .inl ⟨rfl, hx.symm⟩
  ·rw [if_neg hij] at hx; exact .inr ⟨fun e => hij e.symm, hx⟩
 have hd : ∀ (i : Nat) (x : Pc), i ≠ j -> L[i]? = some x -> ∀ c ∈ e0.foot, c ∉ x.foot := fun i x hi hx => O.dis j i e0 x (fun e => hi e.symm) hj hx
 refine ⟨O.fro, fun i x hx => ?_, fun i i' x x' hii hx hx' c hc => ?_, fun i x hx c hc => ?_⟩
 ·cases i with
  | zero => simp at hx; subst hx; exact oka
  | succ i =>
   rcases hset i x (by simpa using hx) with ⟨rfl, rfl⟩ | ⟨_, h⟩
   ·exact okb
   ·exact O.ok i x h
 ·cases i with
  | zero =>
   simp at hx; subst hx
   cases i' with
   | zero => exact absurd rfl hii
   | succ i' =>
    rcases hset i' x' (by simpa using hx') with ⟨rfl, rfl⟩ | ⟨h1, h2⟩
    ·exact hab c hc
    ·exact hd i' x' h1 h2 c (ha c hc)
  | succ i =>
   rcases hset i x (by simpa using hx) with ⟨rfl, rfl⟩ | ⟨h1, h2⟩
   ·cases i' with
    | zero => simp at hx'; subst hx'; exact fun h => hab c h hc
    | succ i' =>
     rcases hset i' x' (by simpa using hx') with ⟨rfl, rfl⟩ | ⟨h3, h4⟩
     ·exact absurd rfl hii
     ·exact hd i' x' h3 h4 c (hb c hc)
   ·cases i' with
    | zero => simp at hx'; subst hx'; exact fun h => hd i x h1 h2 c (ha c h) hc
    | succ i' =>
     rcases hset i' x' (by simpa using hx') with ⟨rfl, rfl⟩ | ⟨h3, h4⟩
     ·exact fun h => hd i x h1 h2 c (hb c h) hc
     ·exact O.dis i i' x x' (by omega) h2 h4 c hc
 ·cases i with
  | zero => simp at hx; subst hx; exact O.apart j e0 hj c (ha c hc)
  | succ i =>
   rcases hset i x (by simpa using hx) with ⟨rfl, rfl⟩ | ⟨h1, h2⟩
   ·exact O.apart i e0 hj c (hb c hc)
   ·exact O.apart i x h2 c hc
end
structure SetOk {α : Type} (ws : List Value) (e2 : TypeId) (r : RT α) (xss : List (List α)) (G M : GM) : Prop where
 len : ws.length = xss.length
 row : ∀ (i : Nat) (w : Value), ws[i]? = some w -> ∃ es xs, xss[i]? = some xs /\ SlO e2 r.sz M w es /\ All2 (r.rep G) es xs
 dis : ∀ (i j : Nat) (w u : Value), i ≠ j -> ws[i]? = some w -> ws[j]? = some u -> ∀ b ∈ z5f w, b ∉ z5f u
section
variable {P : Program} {n : Nat} {σ : Nat -> Value} {H H1 : AH} {d : Tmp} {dd : Option Tmp} {ty t xt e e2 : TypeId} {pos : String} {af : Array Edge} {g : Option (Nat × Bool)} {v u w w' : Value} {x y : Operand}
 {G : GM} {L : List Pc} {j i : Nat} {α : Type} {r : RT α} {ws : List Value} {xs : List α} {xss : List (List α)}
end
end
end Go.Am
/- Plain lemmas for typed functions: loops over lists, texts, whole numbers. -/
namespace Go.Am
open Go
theorem kw {a : Int} (h1 : -9223372036854775808 <= a) (h2 : a <= 9223372036854775807) : z03 .i64 a = a := z4e (z5m h1 h2)
theorem kw1 {i n : Nat} (h : i < n) (hn : n <= 4611686018427387904) : z03 .i64 ((i : Int) + 1) = ((i + 1 : Nat) : Int) := by rw [kw (by omega) (by omega)]; omega
theorem z4i {α : Type} {xs : List α} {i : Nat} {x : α} (h : xs[i]? = some x) : idx xs (i : Int) = some x := by
 unfold idx
 rw [if_neg (by omega)]
 simpa using h
theorem zeg {i n : Nat} (h : i < n) : decide ((i : Int) < (n : Int)) = true := by simp; omega
theorem zar {i n : Nat} (h : n <= i) : decide ((i : Int) < (n : Int)) = false := by simp; omega
@[simp] theorem Sum.elim_ite {α β γ : Type} (f : α -> γ) (g : β -> γ) (c : Prop) [Decidable c] (x y : α ⊕ β) : Sum.elim f g (if c then x else y) = if c then Sum.elim f g x else Sum.elim f g y := by split <;> rfl
def runS {α S E : Type} (chk : α -> S -> E ⊕ S) : List α -> S -> E ⊕ S
 | [], s => .inr s
 | x :: xs, s => Sum.elim .inl (runS chk xs) (chk x s)
theorem zg5 {α S E : Type} (xs : List α) (l : Nat -> S -> Int -> Option (E ⊕ S)) (chk : α -> S -> E ⊕ S) (I : S -> Nat -> Prop)
  (h : ∀ k s (i : Nat) x, xs[i]? = some x -> I s i -> l (k + 1) s i = Sum.elim (fun e => some (.inl e)) (fun s' => l k s' ((i + 1 : Nat) : Int)) (chk x s))
  (hI : ∀ s (i : Nat) x s', xs[i]? = some x -> I s i -> chk x s = .inr s' -> I s' (i + 1))
  (h0 : ∀ k s (i : Nat), xs.length <= i -> l (k + 1) s i = some (.inr s)) : ∀ d k s (i : Nat), xs.length - i = d -> d < k -> I s i -> l k s i = some (runS chk (xs.drop i) s) := by
 intro d
 induction d with
 | zero =>
  intro k s i hd hk _
  obtain ⟨k, rfl⟩ : ∃ m, k = m + 1 := ⟨k - 1, by omega⟩
  rw [h0 k s i (by omega), List.drop_eq_nil_of_le (by omega)]; rfl
 | succ d ih =>
  intro k s i hd hk hi
  obtain ⟨k, rfl⟩ : ∃ m, k = m + 1 := ⟨k - 1, by omega⟩
  have hl : i < xs.length := by omega
  have hx : xs[i]? = some xs[i] := zAh hl
  rw [h k s i _ hx hi, List.drop_eq_getElem_cons hl, runS]
  cases hc : chk xs[i] s with
  | inl e => rfl
  | inr s' => exact ih k s' (i + 1) (by omega) (by omega) (hI s i _ s' hx hi hc)
theorem zas {α S E : Type} (xs : List α) (l : Nat -> S -> Int -> Option (E ⊕ S)) (chk : α -> S -> E ⊕ S) (I : S -> Nat -> Prop)
  (h : ∀ k s (i : Nat) x, xs[i]? = some x -> I s i -> l (k + 1) s i = Sum.elim (fun e => some (.inl e)) (fun s' => l k s' ((i + 1 : Nat) : Int)) (chk x s))
  (hI : ∀ s (i : Nat) x s', xs[i]? = some x -> I s i -> chk x s = .inr s' -> I s' (i + 1))
  (h0 : ∀ k s (i : Nat), xs.length <= i -> l (k + 1) s i = some (.inr s)) (k : Nat) (s : S) (hk : xs.length < k) (hi : I s 0) : l k s 0 = some (runS chk xs s) := by
 have := zg5 xs l chk I h hI h0 xs.length k s 0 (by omega) hk hi
 simpa using this
theorem sEq_iff {a b : zAd} : sEq a b = true ↔ a = b := by
 unfold sEq
 rw [beq_iff_eq, ByteArray.toList_eq, ByteArray.toList_eq]
 constructor
 ·intro h
  cases a; cases b
  simp at h
  rw [h]
 ·rintro rfl; rfl
theorem z00 (a : zAd) : (z01 a).length = a.size := by unfold z01; rw [List.length_map, Array.length_toList]; rfl
theorem z76 (a : zAd) (i : Int) : bidx a i = idx (z01 a) i := by
 unfold bidx idx
 by_cases h : 0 <= i
 ·rw [if_pos h, if_neg (by omega)]
  unfold z01
  rw [List.getElem?_map, Array.getElem?_toList]
  rfl
 ·rw [if_neg h, if_pos (by omega)]
end Go.Am
/- Returns of printed walks: what a function's end asks, once for all returns. -/
namespace Go.Am
open Go
noncomputable section
def RK (P : Program) (fn : Func) (n : Nat) (G : GM) (L : List Pc) (Φ : Value -> GM -> AH -> Prop) (R : Value -> AH -> Prop) : Prop := ∀ v H' G', Ow G' H' L -> G.le G' -> Φ v G' H' -> R v H'
def RKF (P : Program) (fn : Func) (n : Nat) (G : GM) (LF : Value -> List Pc) (Φ : Value -> Value -> GM -> Prop) (R : Value -> AH -> Prop) : Prop := ∀ w v H' G', Ow G' H' (LF w) -> G.le G' -> Φ w v G' -> R v H'
section
variable {P : Program} {n : Nat} {σ : Nat -> Value} {H : AH} {fn : Func} {G G' : GM} {L : List Pc} {R : Value -> AH -> Prop} {f : FuncId} {c : Code} {args : List Value} {r1 r2 r3 r4 r5 : ResultVar} {v1 v2 v3 v4 v5 : Value}
 {Φ : Value -> GM -> AH -> Prop} {LF : Value -> List Pc} {Ψ : Value -> Value -> GM -> Prop}
theorem CR.og (hf : P.funcs[f]? = some fn) (hb : fn.body = some c) (hn : max fn.ntmps args.length = n) (h : ∀ R, RK P fn n G L Φ R -> AW P n c (fun t => args.getD t undef) H (retQ P fn n R)) : CR P f args G H L Φ :=
 CR.of (z82 (R := fun v H' => ∃ G', Ow G' H' L /\ G.le G' /\ Φ v G' H') hf hb hn (h _ fun v H' G' a b c => ⟨G', a, b, c⟩))
theorem CRF.og (hf : P.funcs[f]? = some fn) (hb : fn.body = some c) (hn : max fn.ntmps args.length = n) (h : ∀ R, RKF P fn n G LF Ψ R -> AW P n c (fun t => args.getD t undef) H (retQ P fn n R)) : CRF P f args G H LF Ψ :=
 CRF.of (z82 (R := fun v H' => ∃ w G', Ow G' H' (LF w) /\ G.le G' /\ Ψ w v G') hf hb hn (h _ fun w v H' G' a b c => ⟨w, G', a, b, c⟩))
theorem ziu (k : RK P fn n G L Φ R) (hr : fn.results.toList = []) (O : Ow G' H L) (s : G.le G') (h : Φ (.tuple #[]) G' H) : retQ P fn n R .ret σ H := zir hr (k _ _ _ O s h)
theorem z1y (k : RK P fn n G L Φ R) (hr : fn.results.toList = [r1]) (h1 : RR P n σ H r1 v1) (O : Ow G' H L) (s : G.le G') (h : Φ v1 G' H) : retQ P fn n R .ret σ H := zim hr h1 (k _ _ _ O s h)
theorem zeh (k : RK P fn n G L Φ R) (hr : fn.results.toList = [r1, r2]) (h1 : RR P n σ H r1 v1) (h2 : RR P n σ H r2 v2) (O : Ow G' H L) (s : G.le G') (h : Φ (.tuple #[v1, v2]) G' H) : retQ P fn n R .ret σ H := zis hr h1 h2 (k _ _ _ O s h)
theorem zif (k : RK P fn n G L Φ R) (hr : fn.results.toList = [r1, r2, r3]) (h1 : RR P n σ H r1 v1) (h2 : RR P n σ H r2 v2) (h3 : RR P n σ H r3 v3) (O : Ow G' H L) (s : G.le G') (h : Φ (.tuple #[v1, v2, v3]) G' H) : retQ P fn n R .ret σ H := zit hr h1 h2 h3 (k _ _ _ O s h)
theorem zei (k : RKF P fn n G LF Ψ R) (w : Value) (hr : fn.results.toList = [r1]) (h1 : RR P n σ H r1 v1) (O : Ow G' H (LF w)) (s : G.le G') (h : Ψ w v1 G') : retQ P fn n R .ret σ H := zim hr h1 (k w _ _ _ O s h)
end
end
end Go.Am
/- The place of a byte in a text: the library's function, by the shelf's contract, as a typed function. -/
namespace Go.Am.Tryd
open Go Go.Am Go.Proofs
def ziv : Go.Shelf.Ren := ⟨fun x => if x = 217 then 135 else if x = 266 then 143 else x, fun x => if x = 3 then 3 else if x = 5 then 5 else 9, fun x => x⟩
theorem zig : Lays.n217 Tryd.prog ziv where
 mixed := by kernel_rfl
 f217 := by kernel_rfl
 f266 := by kernel_rfl
 t3 := Tryd.underlying3
 a3 := Tryd.isAgg3
 z3 := Tryd.sizeOf3
 v3 := Tryd.zeroValue3
 t5 := Tryd.underlying5
 a5 := Tryd.isAgg5
 z5 := Tryd.sizeOf5
 v5 := Tryd.zeroValue5
 t9 := Tryd.underlying9
 a9 := Tryd.isAgg9
 z9 := Tryd.sizeOf9
 v9 := Tryd.zeroValue9
theorem zd0 (s : zAd) (c : Int) (H : AH) : ACalls Tryd.prog 135 [.string s, .int .u8 c] H (.int .i64 (Lib.indexByte s.data.toList c.toNat.toUInt8)) H := by
 refine ⟨Nx.refl _, fun ι w cargs hS hargs => ?_⟩
 have he := hargs.closed_eq rfl
 have hc : cargs = #[.string s, .int .u8 c] := by
  cases cargs; exact congrArg Array.mk he
 subst hc
 refine (Any.stringslite_IndexByte zig s c w).mono ?_
 rintro e w' ⟨rfl, rfl⟩
 exact ⟨ι, _, rfl, .scal rfl, hS, fun _ _ h => h, fun _ _ => rfl, fun _ h => .inl h, fun _ h => .inl h, fun _ _ _ => rfl, Nat.le_refl _, rfl, rfl, rfl⟩
def z0w (K : Nat) (s : zAd) (c : Int) : Option Int := some (Lib.indexByte s.data.toList c.toNat.toUInt8)
theorem z2n (K : Nat) {G : GM} {H : AH} {L : List Pc} (p0 : zAd) (p1 : Int) (O : Ow G H L) (r : Int) (h : z0w K p0 p1 = some r) :
  CR Tryd.prog 135 [.string p0, .int .u8 p1] G H L (fun v G' _ => v = .int .i64 r) := by
 cases h
 exact ⟨_, H, G, zd0 p0 p1 H, O, zAf _, rfl⟩
end Go.Am.Tryd
/- Closed runs on the abstract machine, the place of a byte in a text by the shelf's contract. -/
namespace Go.Am.Tryd
open Go Go.Am Go.Proofs
noncomputable def zi0 : FuncId -> Option (List Value -> AH -> Option (Value × AH)) := fun f => if f = 135 then some (fun args H => match args with
 | [.string s, .int .u8 c] => some (.int .i64 (Lib.indexByte s.data.toList c.toNat.toUInt8), H)
 | _ => none) else none
theorem zd1 : ∀ f g, zi0 f = some g -> ∀ args H v H', g args H = some (v, H') -> ACalls Tryd.prog f args H v H' := by
 intro f g h args H v H' h2
 unfold zi0 at h
 split at h
 ·rename_i hf
  subst hf
  obtain rfl := zAa h
  dsimp only at h2
  split at h2
  ·obtain ⟨rfl, rfl⟩ := Prod.mk.inj (zAa h2)
   exact zd0 _ _ _
  ·cases h2
 ·cases h
end Go.Am.Tryd
/- A call's heap with other numbers, and without what nothing leads to. -/
namespace Go.Am
open Go
noncomputable section
def renS (ρ : Nat -> Nat) : Value -> Value
 | .pointer (some ⟨b, o, t⟩) => .pointer (some ⟨ρ b, o, t⟩)
 | .slice (some ⟨b, o, t⟩) l c => .slice (some ⟨ρ b, o, t⟩) l c
 | v => v
def renA (ρ : Nat -> Nat) : Value -> Value
 | .agg cs => .agg ⟨cs.toList.map (renS ρ)⟩
 | v => renS ρ v
def renV (ρ : Nat -> Nat) : Value -> Value
 | .tuple cs => .tuple ⟨cs.toList.map (renA ρ)⟩
 | v => renA ρ v
def okS (n : Nat) : Value -> Bool
 | .pointer (some ⟨b, _, _⟩) => Nat.blt b n
 | .slice (some ⟨b, _, _⟩) _ _ => Nat.blt b n
 | v => z0p v
def okA (n : Nat) : Value -> Bool
 | .agg cs => cs.toList.all (okS n)
 | v => okS n v
def okVv (n : Nat) : Value -> Bool
 | .tuple cs => cs.toList.all (okA n)
 | v => okA n v
section
variable {ι : Ren} {ρ : Nat -> Nat} {n : Nat}
def renI (ι : Ren) (ρ : Nat -> Nat) (n : Nat) : Ren := fun b => if b < n then ι (ρ b) else none
theorem zat {b : Nat} (h : b < n) : renI ι ρ n b = ι (ρ b) := by unfold renI; rw [if_pos h]
theorem VR.renS : ∀ {v c : Value}, VR ι (Am.renS ρ v) c -> okS n v = true -> VR (renI ι ρ n) v c := by
 intro v c h ho
 have hb : ∀ {b : Nat} {y : Nat × Nat × Nat}, Nat.blt b n = true -> ι (ρ b) = some y -> renI ι ρ n b = some y := fun hb hy => by rw [zat (blt_iff.1 hb)]; exact hy
 have sc : ∀ {u : Value}, z0p u = true -> VR ι u c -> VR (renI ι ρ n) u c := fun hs h => by
  have e := h.scalar_eq hs
  subst e; exact .scal hs
 cases v with
 | pointer a =>
  cases a with
  | none => exact sc rfl h
  | some a =>
   obtain ⟨b, o, t⟩ := a
   simp only [Am.renS] at h
   cases h with
   | scal hs => simp [z0p] at hs
   | ptr hi => exact .ptr (hb ho hi)
 | slice a l cp =>
  cases a with
  | none => exact sc rfl h
  | some a =>
   obtain ⟨b, o, t⟩ := a
   simp only [Am.renS] at h
   cases h with
   | scal hs => simp [z0p] at hs
   | sl hi => exact .sl (hb ho hi)
   | slT hi => exact .slT (hb ho hi)
   | sl0 hi ht => exact .sl0 (hb ho hi) ht
 | _ => exact sc ho h
theorem VRs.renS : ∀ {vs cs : List Value}, VRs ι (vs.map (Am.renS ρ)) cs -> vs.all (okS n) = true -> VRs (renI ι ρ n) vs cs
 | [], _, .nil, _ => .nil
 | v :: vs, _, .cons h1 h2, ho => by
  simp only [List.all_cons, Bool.and_eq_true] at ho
  exact .cons (h1.renS ho.1) (VRs.renS h2 ho.2)
theorem VR.renA {v c : Value} (h : VR ι (Am.renA ρ v) c) (ho : okA n v = true) : VR (renI ι ρ n) v c := by
 cases v with
 | agg cs =>
  simp only [Am.renA] at h
  cases h with
  | scal hs => simp [z0p] at hs
  | agg hl => exact .agg (xs := cs.toList) (VRs.renS hl ho)
 | _ => exact VR.renS h ho
theorem VRs.renA : ∀ {vs cs : List Value}, VRs ι (vs.map (Am.renA ρ)) cs -> vs.all (okA n) = true -> VRs (renI ι ρ n) vs cs
 | [], _, .nil, _ => .nil
 | v :: vs, _, .cons h1 h2, ho => by
  simp only [List.all_cons, Bool.and_eq_true] at ho
  exact .cons (h1.renA ho.1) (VRs.renA h2 ho.2)
theorem VR.renV {v c : Value} (h : VR ι (Am.renV ρ v) c) (ho : okVv n v = true) : VR (renI ι ρ n) v c := by
 cases v with
 | tuple cs =>
  simp only [Am.renV] at h
  cases h with
  | scal hs => simp [z0p] at hs
  | tup hl => exact .tup (xs := cs.toList) (VRs.renA hl ho)
 | _ => exact VR.renA h ho
end
theorem ACalls.ren {P : Program} {f : FuncId} {args : List Value} {H H' Hc : AH} {v v' : Value} (ρ : Nat -> Nat) (h : ACalls P f args H v H') (hn : H.next <= Hc.next) (hid : ∀ b, b < H.next -> ρ b = b) (hinj : ∀ b b', b < Hc.next -> b' < Hc.next -> ρ b = ρ b' -> b = b')
  (hv : v = renV ρ v') (hvb : okVv Hc.next v' = true) (hG : ∀ b x, Hc.get b = some x -> H'.get (ρ b) = some ⟨x.cells.map (renS ρ), x.elem, x.sz, x.own⟩ /\ x.cells.all (okS Hc.next) = true) : ACalls P f args H v' Hc := by
 have hlt : ∀ b x, Hc.get b = some x -> b < Hc.next := fun b x hb => AH.lt_of_get hb
 refine ⟨⟨hn, fun b hb hz => ?_⟩, fun ι w cargs hS hargs => ?_⟩
 ·cases hc : Hc.get b with
  | none => rfl
  | some x =>
   have := (hG b x hc).1
   rw [hid b hb, h.next.2 b hb hz] at this
   cases this
 ·refine (h.run ι w cargs hS hargs).mono ?_
  rintro e w' ⟨ι', u, rfl, e2, e3, e4⟩
  subst hv
  have hi : ∀ {b : Nat} {x : ABlk} {y : Nat × Nat × Nat}, Hc.get b = some x -> renI ι' ρ Hc.next b = some y -> H'.get (ρ b) = some ⟨x.cells.map (renS ρ), x.elem, x.sz, x.own⟩ /\ ι' (ρ b) = some y := fun hb hy => by
   rw [zat (hlt _ _ hb)] at hy
   exact ⟨(hG _ _ hb).1, hy⟩
  refine ⟨renI ι' ρ Hc.next, u, rfl, e2.renV hvb, ⟨fun b x cb co ex hb hy => ?_, fun b b' x x' cb co ex cb' co' ex' hne hb hb' ho hy hy' => ?_, fun b y hy => ?_⟩, fun b y hy => ?_, fun b hb => ?_, ?_, ?_, e4.same, e4.size, e4.os, e4.tape, e4.output⟩
  ·obtain ⟨g1, g2⟩ := hi hb hy
   obtain ⟨arr, el, fr, k1, k2, k3⟩ := (e3.blk _ _ _ _ _ g1 g2).lies
   refine ⟨arr, el, fr, k1, fun j u hu => ?_, fun ho => by simpa using k3 ho⟩
   obtain ⟨u', q1, q2⟩ := k2 j (renS ρ u) (by simp [hu])
   exact ⟨u', q1, q2.renS (List.all_eq_true.1 (hG b x hb).2 u (List.mem_of_getElem? hu))⟩
  ·obtain ⟨g1, g2⟩ := hi hb hy
   obtain ⟨g3, g4⟩ := hi hb' hy'
   exact e3.inj _ _ _ _ _ _ _ _ _ _ (fun e => hne (hinj _ _ (hlt _ _ hb) (hlt _ _ hb') e)) g1 g3 ho g2 g4
  ·unfold renI at hy
   split at hy
   ·assumption
   ·cases hy
  ·have hb := hS.dom b y hy
   rw [zat (by omega), hid b hb]
   exact e4.sub b y hy
  ·rw [zat (by omega), hid b hb]
   exact e4.old b hb
  ·rintro cb ⟨b, x, co, ex, hb, hy⟩
   obtain ⟨g1, g2⟩ := hi hb hy
   exact e4.img cb ⟨ρ b, _, co, ex, g1, g2⟩
  ·rintro cb ⟨b, x, co, ex, hb, ho, hy⟩
   obtain ⟨g1, g2⟩ := hi hb hy
   exact e4.own cb ⟨ρ b, _, co, ex, g1, ho, g2⟩
def rhoL (m : Nat) (L : List Nat) (b : Nat) : Nat := if b < m then b else L.getD (b - m) 0
def vEqA (v u : Value) : Bool := match v, u with
 | .agg a, .agg b => zf7 a.toList b.toList
 | v, u => zf7 [v] [u]
def vsEq : List Value -> List Value -> Bool
 | [], [] => true
 | v :: vs, u :: us => vEqA v u && vsEq vs us
 | _, _ => false
def zi1 (v u : Value) : Bool := match v, u with
 | .tuple a, .tuple b => vsEq a.toList b.toList
 | v, u => vEqA v u
theorem zfb {v u : Value} (h : vEqA v u = true) : v = u := by
 unfold vEqA at h
 split at h
 ·rename_i a b
  have := z8j h
  cases a; cases b
  simp only at this
  rw [this]
 ·have := z8j h
  simpa using this
theorem zfc : ∀ {vs us : List Value}, vsEq vs us = true -> vs = us
 | [], [], _ => rfl
 | v :: vs, u :: us, h => by
  simp only [vsEq, Bool.and_eq_true] at h
  rw [zfb h.1, zfc h.2]
 | [], _ :: _, h => by cases h
 | _ :: _, [], h => by cases h
theorem zd2 {v u : Value} (h : zi1 v u = true) : v = u := by
 unfold zi1 at h
 split at h
 ·rename_i a b
  have := zfc h
  cases a; cases b
  simp only at this
  rw [this]
 ·exact zfb h
def chkR (H : AH) (L : List Nat) (v' : Value) (Hc : AH) (r : Option (Value × AH)) : Bool := match r with
 | none => false
 | some r => zi1 r.1 (renV (rhoL H.next L) v') && okVv Hc.next v' && Nat.ble H.next Hc.next && Nat.beq (H.next + L.length) Hc.next && L.all (fun x => Nat.ble H.next x) && decide (L.Nodup) &&
  (List.range Hc.next).all fun b => match Hc.get b with
   | none => true
   | some x => zfr (r.2.get (rhoL H.next L b)) (some ⟨x.cells.map (renS (rhoL H.next L)), x.elem, x.sz, x.own⟩) && x.cells.all (okS Hc.next)
theorem zha {P : Program} {f : FuncId} {args : List Value} {H Hc : AH} {L : List Nat} {v' : Value} {r : Option (Value × AH)} (h : chkR H L v' Hc r = true) (hr : ∀ v H', r = some (v, H') -> ACalls P f args H v H') : ACalls P f args H v' Hc := by
 unfold chkR at h
 cases r with
 | none => cases h
 | some r =>
  obtain ⟨v, H'⟩ := r
  simp only [Bool.and_eq_true] at h
  obtain ⟨⟨⟨⟨⟨⟨h1, h2⟩, h3⟩, h4⟩, h5⟩, h6⟩, h7⟩ := h
  have h6 := of_decide_eq_true h6
  have h3 := Nat.le_of_ble_eq_true h3
  have h4 : H.next + L.length = Hc.next := Nat.eq_of_beq_eq_true h4
  have hbig : ∀ b, ¬ b < H.next -> b < Hc.next -> ∃ h : b - H.next < L.length, rhoL H.next L b = L[b - H.next] /\ H.next <= L[b - H.next] := fun b hb hc => by
   have hl : b - H.next < L.length := by omega
   refine ⟨hl, ?_, Nat.le_of_ble_eq_true (List.all_eq_true.1 h5 _ (List.getElem_mem hl))⟩
   unfold rhoL
   rw [if_neg hb, zAb, zAh hl]; rfl
  have hlow : ∀ b, b < H.next -> rhoL H.next L b = b := fun b hb => by unfold rhoL; rw [if_pos hb]
  refine (hr v H' rfl).ren (rhoL H.next L) h3 hlow (fun b b' hb hb' e => ?_) (zd2 h1) h2 fun b x hb => ?_
  ·by_cases c : b < H.next
   ·by_cases c' : b' < H.next
    ·rw [hlow b c, hlow b' c'] at e; exact e
    ·obtain ⟨_, e1, e2⟩ := hbig b' c' hb'
     rw [hlow b c, e1] at e; omega
   ·obtain ⟨l1, e1, e2⟩ := hbig b c hb
    by_cases c' : b' < H.next
    ·rw [hlow b' c', e1] at e; omega
    ·obtain ⟨l2, e3, e4⟩ := hbig b' c' hb'
     rw [e1, e3] at e
     have := (List.getElem_inj h6).1 e
     omega
  ·have hm : b ∈ List.range Hc.next := List.mem_range.2 (AH.lt_of_get hb)
   have := List.all_eq_true.1 h7 b hm
   rw [hb] at this
   simp only [Bool.and_eq_true] at this
   exact ⟨z8k this.1, this.2⟩
def zg6 (H K : AH) : Bool := Nat.beq H.next K.next && Nat.beq H.blks.length K.blks.length && (H.blks.zip K.blks).all fun p => zfr p.1 p.2
theorem zih {xs ys : List (Option ABlk)} (hl : xs.length = ys.length) (h : ((xs.zip ys).all fun p => zfr p.1 p.2) = true) : xs = ys := by
 induction xs generalizing ys with
 | nil => cases ys with
  | nil => rfl
  | cons y ys => simp at hl
 | cons x xs ih =>
  cases ys with
  | nil => simp at hl
  | cons y ys =>
   simp only [List.zip_cons_cons, List.all_cons, Bool.and_eq_true] at h
   rw [z8k h.1, ih (by simpa using hl) h.2]
theorem zej {H K : AH} (h : zg6 H K = true) : H = K := by
 unfold zg6 at h
 simp only [Bool.and_eq_true] at h
 obtain ⟨⟨h1, h2⟩, h3⟩ := h
 have k1 := Nat.eq_of_beq_eq_true h1
 have k3 := zih (Nat.eq_of_beq_eq_true h2) h3
 cases H; cases K
 dsimp only at k1 k3
 rw [k1, k3]
abbrev Ext1 := FuncId -> Option (List Value -> AH -> Option (Value × AH))
def zg7 (f0 : FuncId) (a0 : Value) (H0 : AH) (v1 : Value) (H1 : AH) (g : Ext1) : Ext1 := fun f => if f = f0 then some (fun args H => match args with
 | [a] => if zi1 a a0 && zg6 H H0 then some (v1, H1) else none
 | _ => none) else g f
theorem zek {P : Program} {f0 : FuncId} {a0 : Value} {H0 : AH} {v1 : Value} {H1 : AH} {g : Ext1} (h0 : ACalls P f0 [a0] H0 v1 H1) (hg : ∀ f k, g f = some k -> ∀ args H v H', k args H = some (v, H') -> ACalls P f args H v H') :
  ∀ f k, zg7 f0 a0 H0 v1 H1 g f = some k -> ∀ args H v H', k args H = some (v, H') -> ACalls P f args H v H' := by
 intro f k h args H v H' h2
 unfold zg7 at h
 split at h
 ·rename_i hf
  subst hf
  obtain rfl := zAa h
  dsimp only at h2
  split at h2
  ·split at h2
   ·rename_i a hc
    simp only [Bool.and_eq_true] at hc
    obtain rfl := zd2 hc.1
    obtain rfl := zej hc.2
    obtain ⟨rfl, rfl⟩ := Prod.mk.inj (zAa h2)
    exact h0
   ·cases h2
  ·cases h2
 ·exact hg f k h args H v H' h2
end
end Go.Am
