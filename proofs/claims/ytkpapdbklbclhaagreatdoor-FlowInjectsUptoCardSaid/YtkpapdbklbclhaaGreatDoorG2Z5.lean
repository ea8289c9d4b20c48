/- Short rules for printed walks. -/
import Derived.Test.YtkpapdbklbclhaaGreatDoorG1Z5
import Derived.Test.YtkpapdbklbclhaaGreatDoorProg
import Derived.BigRegion
import Derived.Laws.Strings
import Derived.Shelf.Strings.Search1
set_option maxRecDepth 100000
set_option maxHeartbeats 8000000
set_option linter.unusedVariables false
set_option linter.unusedSimpArgs false
namespace Go.Am
open Go
noncomputable section
section
variable {P : Program} {n : Nat} {σ : Nat -> Value} {H H1 : AH} {ops : Array Oper} {l : List Oper} {Q : (Nat -> Value) -> AH -> Prop} {d : Tmp} {dd : Option Tmp} {ty t yt e : TypeId} {pos : String} {af : Array Edge} {g : Option (Nat × Bool)} {x y c : Operand}
 {M : List Nat} {N0 m : Nat} {R : z51} {L : z5o} {A : z5t} {i : Nat} {op : Op}
theorem W.q1 (v : Value) (h : oval σ x = v) (hr : AWO P n ops l (up σ d v) H Q) (hg : gok n ops σ g true := by rfl) (hd : Nat.blt d n = true := by rfl) (hx : ook n x = true := by rfl) : AWO P n ops (⟨some d, .assign x, ty, pos, af, g⟩ :: l) σ H Q :=
 W.pure hg hd (zbc (oo hx h)) hr
theorem W.q2 (v : Value) (h : oval σ x = v) (hr : AWO P n ops l (up σ d v) H Q) (hg : gok n ops σ g true := by rfl) (hd : Nat.blt d n = true := by rfl) (hx : ook n x = true := by rfl) : AWO P n ops (⟨some d, .move x, ty, pos, af, g⟩ :: l) σ H Q :=
 W.pure hg hd (zfa (oo hx h)) hr
theorem W.q3 (v : Value) {bop : BinOp} {k : IntKind} {a b : Int} (h1 : oval σ x = .int k a) (h2 : oval σ y = .int k b) (hr : AWO P n ops l (up σ d v) H Q) (hg : gok n ops σ g true := by rfl) (hd : Nat.blt d n = true := by rfl) (hx : ook n x = true := by rfl) (hy : ook n y = true := by rfl) (hv : aint bop k a b = some v := by rfl) :
  AWO P n ops (⟨some d, .binOp bop t x y yt, ty, pos, af, g⟩ :: l) σ H Q :=
 W.pure hg hd (zgw (oo hx h1) (oo hy h2) hv) hr
theorem W.q4 (v : Value) (hc : oval σ c = .bool true) (h : oval σ x = v) (hr : AWO P n ops l (up σ d v) H Q) (hg : gok n ops σ g true := by rfl) (hd : Nat.blt d n = true := by rfl) (h1 : ook n c = true := by rfl) (hx : ook n x = true := by rfl) : AWO P n ops (⟨some d, .pick c x y, ty, pos, af, g⟩ :: l) σ H Q :=
 W.pure hg hd (z3g (oo h1 hc) (oo hx h)) hr
theorem W.q5 (v : Value) (hc : oval σ c = .bool false) (h : oval σ y = v) (hr : AWO P n ops l (up σ d v) H Q) (hg : gok n ops σ g true := by rfl) (hd : Nat.blt d n = true := by rfl) (h1 : ook n c = true := by rfl) (hy : ook n y = true := by rfl) : AWO P n ops (⟨some d, .pick c x y, ty, pos, af, g⟩ :: l) σ H Q :=
 W.pure hg hd (z4a (oo h1 hc) (oo hy h)) hr
theorem W.q6 {j : Nat} {want b : Bool} {d' : Tmp} (h1 : (ops[j]?).bind (·.dst) = some d') (h3 : σ d' = .bool b) (hr : AWO P n ops l (upo σ dd undef) H Q) (h2 : Nat.blt d' n = true := by rfl) (h4 : (b == want) = false := by rfl) (hd : dok n dd = true := by rfl) : AWO P n ops (⟨dd, op, ty, pos, af, some (j, want)⟩ :: l) σ H Q :=
 W.skip (gk h1 h2 h3 h4) hd hr
theorem D2.q1 (v : Value) (h : oval σ x = v) (hr : AWD2 P n ops M N0 l (i + 1) R L A (up σ d v) H Q) (hg : gok n ops σ g true := by rfl) (hd : Nat.blt d n = true := by rfl) (hx : ook n x = true := by rfl) : AWD2 P n ops M N0 (⟨some d, .assign x, ty, pos, af, g⟩ :: l) i R L A σ H Q :=
 D2.pure hg hd (zbc (oo hx h)) hr
theorem D2.q2 (v : Value) (h : oval σ x = v) (hr : AWD2 P n ops M N0 l (i + 1) R L A (up σ d v) H Q) (hg : gok n ops σ g true := by rfl) (hd : Nat.blt d n = true := by rfl) (hx : ook n x = true := by rfl) : AWD2 P n ops M N0 (⟨some d, .move x, ty, pos, af, g⟩ :: l) i R L A σ H Q :=
 D2.pure hg hd (zfa (oo hx h)) hr
theorem D2.q3 (v : Value) {bop : BinOp} {k : IntKind} {a b : Int} (h1 : oval σ x = .int k a) (h2 : oval σ y = .int k b) (hr : AWD2 P n ops M N0 l (i + 1) R L A (up σ d v) H Q) (hg : gok n ops σ g true := by rfl) (hd : Nat.blt d n = true := by rfl) (hx : ook n x = true := by rfl) (hy : ook n y = true := by rfl) (hv : aint bop k a b = some v := by rfl) :
  AWD2 P n ops M N0 (⟨some d, .binOp bop t x y yt, ty, pos, af, g⟩ :: l) i R L A σ H Q :=
 D2.pure hg hd (zgw (oo hx h1) (oo hy h2) hv) hr
theorem Lo.cP {G : GM} {Ls : List Pc} {f : FuncId} {args : Array Operand} {ats : Array TypeId} {al : List Value} {fn : Func} {Ψ : Value -> GM -> Prop} (hd : args.toList.all (ook n) = true) (hf : P.funcs[f]? = some fn) (hnm : (fn.name == "runtime.NumGoroutine" || fn.body.isNone) = false)
  (ha : args.toList.map (oval σ) = al) (O : Ow G H ([] ++ Ls)) (hc : ∀ L, Ow G H ([] ++ L) -> CR P f al G H ([] ++ L) fun v G' _ => Ψ v G') :
  Loud P n ⟨some d, .call ⟨.value (.func f), args, ats⟩, ty, pos, af, g⟩ σ H fun v H1 => ∃ G', Ow G' H1 ([] ++ Ls) /\ G.le G' /\ Same G Ls H H1 /\ Ψ v G' := Lo.callP hd hf hnm ha O hc
end
end
end Go.Am
/- What the proofs ask of the program's types. -/
namespace Go.Am.Tryz
open Go Go.Am Go.Proofs
theorem sz3 : szT Tryz.prog 3 = some 1 := by kernel_rfl
theorem ze3 : (Tryz.prog.info? 3).bind (·.zero) = some (Go.Value.int Go.IntKind.i64 0) := by kernel_rfl
theorem ag3 : z22 Tryz.prog 3 = some false := by kernel_rfl
theorem by3 : ((Tryz.prog.info? 3).map (·.bytes)) = some 8 := by kernel_rfl
theorem ag4 : z22 Tryz.prog 4 = some false := by kernel_rfl
theorem sz5 : szT Tryz.prog 5 = some 1 := by kernel_rfl
theorem ag5 : z22 Tryz.prog 5 = some false := by kernel_rfl
theorem in5 : intT Tryz.prog 5 = some Go.IntKind.u8 := by kernel_rfl
theorem sz9 : szT Tryz.prog 9 = some 1 := by kernel_rfl
theorem ze9 : (Tryz.prog.info? 9).bind (·.zero) = some (Go.Value.string { data := #[] }) := by kernel_rfl
theorem ag9 : z22 Tryz.prog 9 = some false := by kernel_rfl
theorem by9 : ((Tryz.prog.info? 9).map (·.bytes)) = some 16 := by kernel_rfl
theorem un9 : Tryz.prog.underlying 9 = some Go.TypeDesc.string := by kernel_rfl
theorem sz22 : szT Tryz.prog 22 = some 1 := by kernel_rfl
theorem ze22 : (Tryz.prog.info? 22).bind (·.zero) = some (Go.Value.slice none 0 0) := by kernel_rfl
theorem ag22 : z22 Tryz.prog 22 = some false := by kernel_rfl
theorem ni22 : z6g Tryz.prog 22 = true := by kernel_rfl
theorem el22 : z64 Tryz.prog 22 = some 9 := by kernel_rfl
theorem ag23 : z22 Tryz.prog 23 = some false := by kernel_rfl
theorem el23 : z64 Tryz.prog 23 = some 67 := by kernel_rfl
theorem ag24 : z22 Tryz.prog 24 = some false := by kernel_rfl
theorem el24 : z64 Tryz.prog 24 = some 65 := by kernel_rfl
theorem ag25 : z22 Tryz.prog 25 = some false := by kernel_rfl
theorem el25 : z64 Tryz.prog 25 = some 37 := by kernel_rfl
theorem ag26 : z22 Tryz.prog 26 = some false := by kernel_rfl
theorem el26 : z64 Tryz.prog 26 = some 41 := by kernel_rfl
theorem ag27 : z22 Tryz.prog 27 = some false := by kernel_rfl
theorem el27 : z64 Tryz.prog 27 = some 39 := by kernel_rfl
theorem sz29 : szT Tryz.prog 29 = some 6 := by kernel_rfl
theorem ag29 : z22 Tryz.prog 29 = some true := by kernel_rfl
theorem z7w : fldT Tryz.prog 29 0 = some 0 := by kernel_rfl
theorem zcw : fldT Tryz.prog 29 1 = some 1 := by kernel_rfl
theorem zcx : fldT Tryz.prog 29 2 = some 2 := by kernel_rfl
theorem z7x : fldT Tryz.prog 29 3 = some 3 := by kernel_rfl
theorem za6 : fldT Tryz.prog 29 4 = some 4 := by kernel_rfl
theorem z7y : fldT Tryz.prog 29 5 = some 5 := by kernel_rfl
theorem sz30 : szT Tryz.prog 30 = some 1 := by kernel_rfl
theorem ze30 : (Tryz.prog.info? 30).bind (·.zero) = some (Go.Value.slice none 0 0) := by kernel_rfl
theorem ag30 : z22 Tryz.prog 30 = some false := by kernel_rfl
theorem ni30 : z6g Tryz.prog 30 = true := by kernel_rfl
theorem el30 : z64 Tryz.prog 30 = some 3 := by kernel_rfl
theorem sz37 : szT Tryz.prog 37 = some 5 := by kernel_rfl
theorem ze37 : (Tryz.prog.info? 37).bind (·.zero) = some (Go.Value.agg #[Go.Value.string { data := #[] }, Go.Value.string { data := #[] }, Go.Value.int Go.IntKind.i64 0, Go.Value.int Go.IntKind.i64 0, Go.Value.int Go.IntKind.i64 0]) := by kernel_rfl
theorem ag37 : z22 Tryz.prog 37 = some true := by kernel_rfl
theorem zfd : fldT Tryz.prog 37 0 = some 0 := by kernel_rfl
theorem zcy : fldT Tryz.prog 37 1 = some 1 := by kernel_rfl
theorem za7 : fldT Tryz.prog 37 2 = some 2 := by kernel_rfl
theorem zcz : fldT Tryz.prog 37 3 = some 3 := by kernel_rfl
theorem zfe : fldT Tryz.prog 37 4 = some 4 := by kernel_rfl
theorem sz39 : szT Tryz.prog 39 = some 5 := by kernel_rfl
theorem ze39 : (Tryz.prog.info? 39).bind (·.zero) = some (Go.Value.agg #[Go.Value.string { data := #[] }, Go.Value.string { data := #[] }, Go.Value.int Go.IntKind.i64 0, Go.Value.int Go.IntKind.i64 0, Go.Value.int Go.IntKind.i64 0]) := by kernel_rfl
theorem ag39 : z22 Tryz.prog 39 = some true := by kernel_rfl
theorem zff : fldT Tryz.prog 39 0 = some 0 := by kernel_rfl
theorem zd0 : fldT Tryz.prog 39 1 = some 1 := by kernel_rfl
theorem zd1 : fldT Tryz.prog 39 2 = some 2 := by kernel_rfl
theorem zd2 : fldT Tryz.prog 39 3 = some 3 := by kernel_rfl
theorem zfg : fldT Tryz.prog 39 4 = some 4 := by kernel_rfl
theorem sz41 : szT Tryz.prog 41 = some 3 := by kernel_rfl
theorem ze41 : (Tryz.prog.info? 41).bind (·.zero) = some (Go.Value.agg #[Go.Value.string { data := #[] }, Go.Value.string { data := #[] }, Go.Value.int Go.IntKind.i64 0]) := by kernel_rfl
theorem ag41 : z22 Tryz.prog 41 = some true := by kernel_rfl
theorem zfh : fldT Tryz.prog 41 0 = some 0 := by kernel_rfl
theorem zd3 : fldT Tryz.prog 41 1 = some 1 := by kernel_rfl
theorem zd4 : fldT Tryz.prog 41 2 = some 2 := by kernel_rfl
theorem ni60 : z6g Tryz.prog 60 = true := by kernel_rfl
theorem el60 : z64 Tryz.prog 60 = some 63 := by kernel_rfl
theorem sz63 : szT Tryz.prog 63 = some 4 := by kernel_rfl
theorem ze63 : (Tryz.prog.info? 63).bind (·.zero) = some (Go.Value.agg #[Go.Value.string { data := #[] }, Go.Value.slice none 0 0, Go.Value.bool false, Go.Value.bool false]) := by kernel_rfl
theorem ag63 : z22 Tryz.prog 63 = some true := by kernel_rfl
theorem by63 : ((Tryz.prog.info? 63).map (·.bytes)) = some 48 := by kernel_rfl
theorem zo63 : zao Tryz.prog 63 = true := by kernel_rfl
theorem pl63 : plcT Tryz.prog 63 = some [(0, 1), (1, 1), (2, 1), (3, 1)] := by kernel_rfl
theorem zgc : fldT Tryz.prog 63 0 = some 0 := by kernel_rfl
theorem ze2 : fldT Tryz.prog 63 1 = some 1 := by kernel_rfl
theorem zgd : fldT Tryz.prog 63 2 = some 2 := by kernel_rfl
theorem zge : fldT Tryz.prog 63 3 = some 3 := by kernel_rfl
theorem sz65 : szT Tryz.prog 65 = some 9 := by kernel_rfl
theorem ze65 : (Tryz.prog.info? 65).bind (·.zero) = some (Go.Value.agg #[Go.Value.string { data := #[] }, Go.Value.string { data := #[] }, Go.Value.string { data := #[] }, Go.Value.int Go.IntKind.i64 0, Go.Value.int Go.IntKind.i64 0, Go.Value.int Go.IntKind.i64 0, Go.Value.int Go.IntKind.i64 0, Go.Value.int Go.IntKind.i64 0, Go.Value.int Go.IntKind.i64 0]) := by kernel_rfl
theorem ag65 : z22 Tryz.prog 65 = some true := by kernel_rfl
theorem zfi : fldT Tryz.prog 65 0 = some 0 := by kernel_rfl
theorem ze4 : fldT Tryz.prog 65 1 = some 1 := by kernel_rfl
theorem ze5 : fldT Tryz.prog 65 2 = some 2 := by kernel_rfl
theorem zfj : fldT Tryz.prog 65 3 = some 3 := by kernel_rfl
theorem zfk : fldT Tryz.prog 65 4 = some 4 := by kernel_rfl
theorem zfl : fldT Tryz.prog 65 5 = some 5 := by kernel_rfl
theorem zd5 : fldT Tryz.prog 65 6 = some 6 := by kernel_rfl
theorem zfm : fldT Tryz.prog 65 7 = some 7 := by kernel_rfl
theorem zfn : fldT Tryz.prog 65 8 = some 8 := by kernel_rfl
theorem sz67 : szT Tryz.prog 67 = some 5 := by kernel_rfl
theorem ze67 : (Tryz.prog.info? 67).bind (·.zero) = some (Go.Value.agg #[Go.Value.string { data := #[] }, Go.Value.string { data := #[] }, Go.Value.string { data := #[] }, Go.Value.bool false, Go.Value.bool false]) := by kernel_rfl
theorem ag67 : z22 Tryz.prog 67 = some true := by kernel_rfl
theorem zfo : fldT Tryz.prog 67 0 = some 0 := by kernel_rfl
theorem ze6 : fldT Tryz.prog 67 1 = some 1 := by kernel_rfl
theorem ze7 : fldT Tryz.prog 67 2 = some 2 := by kernel_rfl
theorem ze97 : (Tryz.prog.info? 97).bind (·.zero) = some (Go.Value.agg #[Go.Value.slice none 0 0]) := by kernel_rfl
theorem ze8 : fldT Tryz.prog 97 0 = some 0 := by kernel_rfl
theorem zgf : z64 Tryz.prog 140 = some 5 := by kernel_rfl
theorem mixed : Tryz.prog.follows .mixedOrders = true := by kernel_rfl
end Go.Am.Tryz
/- Rows that are laid one behind the other: a list of lists that grows by append, each row with its block. -/
namespace Go.Am
open Go
noncomputable section
section
variable {G : GM} {H H1 : AH} {L : List Pc} {j : Nat} {a b e0 : Pc}
theorem Ow.part (O : Ow G H L) (hj : L[j]? = some e0) (a b : Pc) (ha : ∀ x ∈ a.foot, x ∈ e0.foot) (hb : ∀ x ∈ b.foot, x ∈ e0.foot) (hab : ∀ x ∈ a.foot, x ∉ b.foot) (oka : a.ok G H.get) (okb : b.ok G H.get) : Ow G H (a :: L.set j b) := by
 have hjl : j < L.length := (zAi hj).1
 have hset : ∀ (i : Nat) (x : Pc), (L.set j b)[i]? = some x -> (i = j /\ x = b) \/ (i ≠ j /\ L[i]? = some x) := fun i x hx => by
  rw [List.getElem?_set] at hx
  by_cases hij : j = i
  ·subst hij; simp [hjl] at hx; exact .inl ⟨rfl, hx.symm⟩
  ·rw [if_neg hij] at hx; exact .inr ⟨fun e => hij e.symm, hx⟩
 have hd : ∀ (i : Nat) (x : Pc), i ≠ j -> L[i]? = some x -> ∀ c ∈ e0.foot, c ∉ x.foot := fun i x hi hx => O.dis j i e0 x (fun e => hi e.symm) hj hx
 refine ⟨O.fro, fun i x hx => ?_, fun i i' x x' hii hx hx' c hc => ?_, fun i x hx c hc => ?_⟩
 ·cases i with
  | zero => simp at hx; subst hx; exact oka
  | succ i =>
   rcases hset i x (by simpa using hx) with ⟨rfl, rfl⟩ | ⟨_, h⟩
   ·exact okb
   ·exact O.ok i x h
 ·cases i with
  | zero =>
   simp at hx; subst hx
   cases i' with
   | zero => exact absurd rfl hii
   | succ i' =>
    rcases hset i' x' (by simpa using hx') with ⟨rfl, rfl⟩ | ⟨h1, h2⟩
    ·exact hab c hc
    ·exact hd i' x' h1 h2 c (ha c hc)
  | succ i =>
   rcases hset i x (by simpa using hx) with ⟨rfl, rfl⟩ | ⟨h1, h2⟩
   ·cases i' with
    | zero => simp at hx'; subst hx'; exact fun h => hab c h hc
    | succ i' =>
     rcases hset i' x' (by simpa using hx') with ⟨rfl, rfl⟩ | ⟨h3, h4⟩
     ·exact absurd rfl hii
     ·exact hd i' x' h3 h4 c (hb c hc)
   ·cases i' with
    | zero => simp at hx'; subst hx'; exact fun h => hd i x h1 h2 c (ha c h) hc
    | succ i' =>
     rcases hset i' x' (by simpa using hx') with ⟨rfl, rfl⟩ | ⟨h3, h4⟩
     ·exact fun h => hd i x h1 h2 c (hb c h) hc
     ·exact O.dis i i' x x' (by omega) h2 h4 c hc
 ·cases i with
  | zero => simp at hx; subst hx; exact O.apart j e0 hj c (ha c hc)
  | succ i =>
   rcases hset i x (by simpa using hx) with ⟨rfl, rfl⟩ | ⟨h1, h2⟩
   ·exact O.apart i e0 hj c (hb c hc)
   ·exact O.apart i x h2 c hc
end
structure SetOk {α : Type} (ws : List Value) (e2 : TypeId) (r : RT α) (xss : List (List α)) (G M : GM) : Prop where
 len : ws.length = xss.length
 row : ∀ (i : Nat) (w : Value), ws[i]? = some w -> ∃ es xs, xss[i]? = some xs /\ SlO e2 r.sz M w es /\ All2 (r.rep G) es xs
 dis : ∀ (i j : Nat) (w u : Value), i ≠ j -> ws[i]? = some w -> ws[j]? = some u -> ∀ b ∈ z58 w, b ∉ z58 u
section
variable {P : Program} {n : Nat} {σ : Nat -> Value} {H H1 : AH} {d : Tmp} {dd : Option Tmp} {ty t xt e e2 : TypeId} {pos : String} {af : Array Edge} {g : Option (Nat × Bool)} {v u w w' : Value} {x y : Operand}
 {G : GM} {L : List Pc} {j i : Nat} {α : Type} {r : RT α} {ws : List Value} {xs : List α} {xss : List (List α)}
end
end
end Go.Am
/- Plain lemmas for typed functions: loops over lists, texts, whole numbers. -/
namespace Go.Am
open Go
theorem kw {a : Int} (h1 : -9223372036854775808 <= a) (h2 : a <= 9223372036854775807) : z0n .i64 a = a := z7t (z5d h1 h2)
theorem kw1 {i n : Nat} (h : i < n) (hn : n <= 4611686018427387904) : z0n .i64 ((i : Int) + 1) = ((i + 1 : Nat) : Int) := by rw [kw (by omega) (by omega)]; omega
theorem z1c {α : Type} {xs : List α} {i : Nat} {x : α} (h : xs[i]? = some x) : idx xs (i : Int) = some x := by
 unfold idx
 rw [if_neg (by omega)]
 simpa using h
theorem z45 {i n : Nat} (h : i < n) : decide ((i : Int) < (n : Int)) = true := by simp; omega
theorem z2w {i n : Nat} (h : n <= i) : decide ((i : Int) < (n : Int)) = false := by simp; omega
@[simp] theorem Sum.elim_ite {α β γ : Type} (f : α -> γ) (g : β -> γ) (c : Prop) [Decidable c] (x y : α ⊕ β) : Sum.elim f g (if c then x else y) = if c then Sum.elim f g x else Sum.elim f g y := by split <;> rfl
def runS {α S E : Type} (chk : α -> S -> E ⊕ S) : List α -> S -> E ⊕ S
 | [], s => .inr s
 | x :: xs, s => Sum.elim .inl (runS chk xs) (chk x s)
theorem z2s {α S E : Type} (chk : α -> S -> E ⊕ S) : ∀ (xs ys : List α) (s : S), runS chk (xs ++ ys) s = Sum.elim .inl (runS chk ys) (runS chk xs s)
 | [], ys, s => rfl
 | x :: xs, ys, s => by
  simp only [List.cons_append, runS]
  cases chk x s with
  | inl e => rfl
  | inr s' => exact z2s chk xs ys s'
theorem z53 {α β S E : Type} (chk : β -> S -> E ⊕ S) (f : α -> β) : ∀ (xs : List α) (s : S), runS chk (xs.map f) s = runS (fun x => chk (f x)) xs s
 | [], s => rfl
 | x :: xs, s => by
  simp only [List.map_cons, runS]
  cases chk (f x) s with
  | inl e => rfl
  | inr s' => exact z53 chk f xs s'
theorem zea {α S E : Type} (xs : List α) (l : Nat -> S -> Int -> Option (E ⊕ S)) (chk : α -> S -> E ⊕ S) (I : S -> Nat -> Prop)
  (h : ∀ k s (i : Nat) x, xs[i]? = some x -> I s i -> l (k + 1) s i = Sum.elim (fun e => some (.inl e)) (fun s' => l k s' ((i + 1 : Nat) : Int)) (chk x s))
  (hI : ∀ s (i : Nat) x s', xs[i]? = some x -> I s i -> chk x s = .inr s' -> I s' (i + 1))
  (h0 : ∀ k s (i : Nat), xs.length <= i -> l (k + 1) s i = some (.inr s)) : ∀ d k s (i : Nat), xs.length - i = d -> d < k -> I s i -> l k s i = some (runS chk (xs.drop i) s) := by
 intro d
 induction d with
 | zero =>
  intro k s i hd hk _
  obtain ⟨k, rfl⟩ : ∃ m, k = m + 1 := ⟨k - 1, by omega⟩
  rw [h0 k s i (by omega), List.drop_eq_nil_of_le (by omega)]; rfl
 | succ d ih =>
  intro k s i hd hk hi
  obtain ⟨k, rfl⟩ : ∃ m, k = m + 1 := ⟨k - 1, by omega⟩
  have hl : i < xs.length := by omega
  have hx : xs[i]? = some xs[i] := zAh hl
  rw [h k s i _ hx hi, List.drop_eq_getElem_cons hl, runS]
  cases hc : chk xs[i] s with
  | inl e => rfl
  | inr s' => exact ih k s' (i + 1) (by omega) (by omega) (hI s i _ s' hx hi hc)
theorem z4u {α S E : Type} (xs : List α) (l : Nat -> S -> Int -> Option (E ⊕ S)) (chk : α -> S -> E ⊕ S) (I : S -> Nat -> Prop)
  (h : ∀ k s (i : Nat) x, xs[i]? = some x -> I s i -> l (k + 1) s i = Sum.elim (fun e => some (.inl e)) (fun s' => l k s' ((i + 1 : Nat) : Int)) (chk x s))
  (hI : ∀ s (i : Nat) x s', xs[i]? = some x -> I s i -> chk x s = .inr s' -> I s' (i + 1))
  (h0 : ∀ k s (i : Nat), xs.length <= i -> l (k + 1) s i = some (.inr s)) (k : Nat) (s : S) (hk : xs.length < k) (hi : I s 0) : l k s 0 = some (runS chk xs s) := by
 have := zea xs l chk I h hI h0 xs.length k s 0 (by omega) hk hi
 simpa using this
theorem zeb {α β : Type} (xs : List α) (l : Nat -> List β -> Int -> Option (List β)) (f : α -> β) (m : Nat)
  (h : ∀ k acc (i : Nat) x, xs[i]? = some x -> acc.length = m + i -> l (k + 1) acc i = l k (acc ++ [f x]) ((i + 1 : Nat) : Int))
  (h0 : ∀ k acc (i : Nat), xs.length <= i -> l (k + 1) acc i = some acc) : ∀ d k acc (i : Nat), xs.length - i = d -> d < k -> acc.length = m + i -> l k acc i = some (acc ++ (xs.drop i).map f) := by
 intro d
 induction d with
 | zero =>
  intro k acc i hd hk _
  obtain ⟨k, rfl⟩ : ∃ m, k = m + 1 := ⟨k - 1, by omega⟩
  rw [h0 k acc i (by omega), List.drop_eq_nil_of_le (by omega)]; simp
 | succ d ih =>
  intro k acc i hd hk hi
  obtain ⟨k, rfl⟩ : ∃ m, k = m + 1 := ⟨k - 1, by omega⟩
  have hl : i < xs.length := by omega
  have hx : xs[i]? = some xs[i] := zAh hl
  rw [h k acc i _ hx hi, ih k _ (i + 1) (by omega) (by omega) (by simp; omega), List.drop_eq_getElem_cons hl]
  simp only [List.map_cons, List.append_assoc, List.singleton_append]
theorem z5g {α β : Type} (xs : List α) (l : Nat -> List β -> Int -> Option (List β)) (f : α -> β) (acc : List β)
  (h : ∀ k acc' (i : Nat) x, xs[i]? = some x -> acc'.length = acc.length + i -> l (k + 1) acc' i = l k (acc' ++ [f x]) ((i + 1 : Nat) : Int))
  (h0 : ∀ k acc (i : Nat), xs.length <= i -> l (k + 1) acc i = some acc) (k : Nat) (hk : xs.length < k) : l k acc 0 = some (acc ++ xs.map f) := by
 have := zeb xs l f acc.length h h0 xs.length k acc 0 (by omega) hk (by simp)
 simpa using this
theorem z6b {α S T E : Type} (chk : α -> S -> E ⊕ S) (g : S -> T) (chk' : α -> T -> E ⊕ T) (h : ∀ x s, chk' x (g s) = Sum.elim .inl (fun s' => .inr (g s')) (chk x s)) :
  ∀ (xs : List α) (s : S), runS chk' xs (g s) = Sum.elim .inl (fun s' => .inr (g s')) (runS chk xs s)
 | [], s => rfl
 | x :: xs, s => by
  simp only [runS]
  rw [h]
  cases chk x s with
  | inl e => rfl
  | inr s' => exact z6b chk g chk' h xs s'
theorem sEq_iff {a b : zAd} : sEq a b = true ↔ a = b := by
 unfold sEq
 rw [beq_iff_eq, ByteArray.toList_eq, ByteArray.toList_eq]
 constructor
 ·intro h
  cases a; cases b
  simp at h
  rw [h]
 ·rintro rfl; rfl
theorem z7z (a b : zAd) : sEq a b = sEq b a := by
 cases h : sEq a b with
 | true => rw [sEq_iff] at h; subst h; exact (sEq_iff.2 rfl).symm
 | false =>
  cases h' : sEq b a with
  | true => rw [sEq_iff] at h'; subst h'; rw [sEq_iff.2 rfl] at h; cases h
  | false => rfl
theorem z2x (a : zAd) : (z1p a).length = a.size := by unfold z1p; rw [List.length_map, Array.length_toList]; rfl
theorem zdh (a : zAd) (i : Int) : bidx a i = idx (z1p a) i := by
 unfold bidx idx
 by_cases h : 0 <= i
 ·rw [if_pos h, if_neg (by omega)]
  unfold z1p
  rw [List.getElem?_map, Array.getElem?_toList]
  rfl
 ·rw [if_neg h, if_pos (by omega)]
end Go.Am
/- Returns of printed walks: what a function's end asks, once for all returns. -/
namespace Go.Am
open Go
noncomputable section
def RK (P : Program) (fn : Func) (n : Nat) (G : GM) (L : List Pc) (Φ : Value -> GM -> AH -> Prop) (R : Value -> AH -> Prop) : Prop := ∀ v H' G', Ow G' H' L -> G.le G' -> Φ v G' H' -> R v H'
def RKF (P : Program) (fn : Func) (n : Nat) (G : GM) (LF : Value -> List Pc) (Φ : Value -> Value -> GM -> Prop) (R : Value -> AH -> Prop) : Prop := ∀ w v H' G', Ow G' H' (LF w) -> G.le G' -> Φ w v G' -> R v H'
section
variable {P : Program} {n : Nat} {σ : Nat -> Value} {H : AH} {fn : Func} {G G' : GM} {L : List Pc} {R : Value -> AH -> Prop} {f : FuncId} {c : Code} {args : List Value} {r1 r2 r3 r4 r5 : ResultVar} {v1 v2 v3 v4 v5 : Value}
 {Φ : Value -> GM -> AH -> Prop} {LF : Value -> List Pc} {Ψ : Value -> Value -> GM -> Prop}
theorem CR.og (hf : P.funcs[f]? = some fn) (hb : fn.body = some c) (hn : max fn.ntmps args.length = n) (h : ∀ R, RK P fn n G L Φ R -> AW P n c (fun t => args.getD t undef) H (retQ P fn n R)) : CR P f args G H L Φ :=
 CR.of (z79 (R := fun v H' => ∃ G', Ow G' H' L /\ G.le G' /\ Φ v G' H') hf hb hn (h _ fun v H' G' a b c => ⟨G', a, b, c⟩))
theorem CRF.og (hf : P.funcs[f]? = some fn) (hb : fn.body = some c) (hn : max fn.ntmps args.length = n) (h : ∀ R, RKF P fn n G LF Ψ R -> AW P n c (fun t => args.getD t undef) H (retQ P fn n R)) : CRF P f args G H LF Ψ :=
 CRF.of (z79 (R := fun v H' => ∃ w G', Ow G' H' (LF w) /\ G.le G' /\ Ψ w v G') hf hb hn (h _ fun w v H' G' a b c => ⟨w, G', a, b, c⟩))
theorem zgg (k : RKF P fn n G LF Ψ R) (w : Value) (hr : fn.results.toList = []) (O : Ow G' H (LF w)) (s : G.le G') (h : Ψ w (.tuple #[]) G') : retQ P fn n R .ret σ H := zh2 hr (k w _ _ _ O s h)
theorem z3t (k : RK P fn n G L Φ R) (hr : fn.results.toList = [r1]) (h1 : RR P n σ H r1 v1) (O : Ow G' H L) (s : G.le G') (h : Φ v1 G' H) : retQ P fn n R .ret σ H := zgx hr h1 (k _ _ _ O s h)
theorem z4w (k : RKF P fn n G LF Ψ R) (w : Value) (hr : fn.results.toList = [r1]) (h1 : RR P n σ H r1 v1) (O : Ow G' H (LF w)) (s : G.le G') (h : Ψ w v1 G') : retQ P fn n R .ret σ H := zgx hr h1 (k w _ _ _ O s h)
theorem za8 (k : RKF P fn n G LF Ψ R) (w : Value) (hr : fn.results.toList = [r1, r2]) (h1 : RR P n σ H r1 v1) (h2 : RR P n σ H r2 v2) (O : Ow G' H (LF w)) (s : G.le G') (h : Ψ w (.tuple #[v1, v2]) G') : retQ P fn n R .ret σ H := zh3 hr h1 h2 (k w _ _ _ O s h)
end
end
end Go.Am
/- The place of a byte in a text: the library's function, by the shelf's contract, as a typed function. -/
namespace Go.Am.Tryz
open Go Go.Am Go.Proofs
def zh4 : Go.Shelf.Ren := ⟨fun x => if x = 217 then 104 else if x = 266 then 110 else x, fun x => if x = 3 then 3 else if x = 5 then 5 else 9, fun x => x⟩
theorem zgh : Lays.n217 Tryz.prog zh4 where
 mixed := by kernel_rfl
 f217 := by kernel_rfl
 f266 := by kernel_rfl
 t3 := Tryz.underlying3
 a3 := Tryz.isAgg3
 z3 := Tryz.sizeOf3
 v3 := Tryz.zeroValue3
 t5 := Tryz.underlying5
 a5 := Tryz.isAgg5
 z5 := Tryz.sizeOf5
 v5 := Tryz.zeroValue5
 t9 := Tryz.underlying9
 a9 := Tryz.isAgg9
 z9 := Tryz.sizeOf9
 v9 := Tryz.zeroValue9
theorem zec (s : zAd) (c : Int) (H : AH) : ACalls Tryz.prog 104 [.string s, .int .u8 c] H (.int .i64 (Lib.indexByte s.data.toList c.toNat.toUInt8)) H := by
 refine ⟨Nx.refl _, fun ι w cargs hS hargs => ?_⟩
 have he := hargs.closed_eq rfl
 have hc : cargs = #[.string s, .int .u8 c] := by
  cases cargs; exact congrArg Array.mk he
 subst hc
 refine (Any.stringslite_IndexByte zgh s c w).mono ?_
 rintro e w' ⟨rfl, rfl⟩
 exact ⟨ι, _, rfl, .scal rfl, hS, fun _ _ h => h, fun _ _ => rfl, fun _ h => .inl h, fun _ h => .inl h, fun _ _ _ => rfl, Nat.le_refl _, rfl, rfl, rfl⟩
end Go.Am.Tryz
/- Closed runs on the abstract machine, the place of a byte in a text by the shelf's contract. -/
namespace Go.Am.Tryz
open Go Go.Am Go.Proofs
noncomputable def zed : FuncId -> Option (List Value -> AH -> Option (Value × AH)) := fun f => if f = 104 then some (fun args H => match args with
 | [.string s, .int .u8 c] => some (.int .i64 (Lib.indexByte s.data.toList c.toNat.toUInt8), H)
 | _ => none) else none
theorem z6o : ∀ f g, zed f = some g -> ∀ args H v H', g args H = some (v, H') -> ACalls Tryz.prog f args H v H' := by
 intro f g h args H v H' h2
 unfold zed at h
 split at h
 ·rename_i hf
  subst hf
  obtain rfl := zAa h
  dsimp only at h2
  split at h2
  ·obtain ⟨rfl, rfl⟩ := Prod.mk.inj (zAa h2)
   exact zec _ _ _
  ·cases h2
 ·cases h
end Go.Am.Tryz
/- A call's heap with other numbers, and without what nothing leads to. -/
namespace Go.Am
open Go
noncomputable section
def renS (ρ : Nat -> Nat) : Value -> Value
 | .pointer (some ⟨b, o, t⟩) => .pointer (some ⟨ρ b, o, t⟩)
 | .slice (some ⟨b, o, t⟩) l c => .slice (some ⟨ρ b, o, t⟩) l c
 | v => v
def renA (ρ : Nat -> Nat) : Value -> Value
 | .agg cs => .agg ⟨cs.toList.map (renS ρ)⟩
 | v => renS ρ v
def renV (ρ : Nat -> Nat) : Value -> Value
 | .tuple cs => .tuple ⟨cs.toList.map (renA ρ)⟩
 | v => renA ρ v
def okS (n : Nat) : Value -> Bool
 | .pointer (some ⟨b, _, _⟩) => Nat.blt b n
 | .slice (some ⟨b, _, _⟩) _ _ => Nat.blt b n
 | v => z1b v
def okA (n : Nat) : Value -> Bool
 | .agg cs => cs.toList.all (okS n)
 | v => okS n v
def okVv (n : Nat) : Value -> Bool
 | .tuple cs => cs.toList.all (okA n)
 | v => okA n v
section
variable {ι : Ren} {ρ : Nat -> Nat} {n : Nat}
def renI (ι : Ren) (ρ : Nat -> Nat) (n : Nat) : Ren := fun b => if b < n then ι (ρ b) else none
theorem z9r {b : Nat} (h : b < n) : renI ι ρ n b = ι (ρ b) := by unfold renI; rw [if_pos h]
theorem VR.renS : ∀ {v c : Value}, VR ι (Am.renS ρ v) c -> okS n v = true -> VR (renI ι ρ n) v c := by
 intro v c h ho
 have hb : ∀ {b : Nat} {y : Nat × Nat × Nat}, Nat.blt b n = true -> ι (ρ b) = some y -> renI ι ρ n b = some y := fun hb hy => by rw [z9r (blt_iff.1 hb)]; exact hy
 have sc : ∀ {u : Value}, z1b u = true -> VR ι u c -> VR (renI ι ρ n) u c := fun hs h => by
  have e := h.scalar_eq hs
  subst e; exact .scal hs
 cases v with
 | pointer a =>
  cases a with
  | none => exact sc rfl h
  | some a =>
   obtain ⟨b, o, t⟩ := a
   simp only [Am.renS] at h
   cases h with
   | scal hs => simp [z1b] at hs
   | ptr hi => exact .ptr (hb ho hi)
 | slice a l cp =>
  cases a with
  | none => exact sc rfl h
  | some a =>
   obtain ⟨b, o, t⟩ := a
   simp only [Am.renS] at h
   cases h with
   | scal hs => simp [z1b] at hs
   | sl hi => exact .sl (hb ho hi)
   | slT hi => exact .slT (hb ho hi)
   | sl0 hi ht => exact .sl0 (hb ho hi) ht
 | _ => exact sc ho h
theorem VRs.renS : ∀ {vs cs : List Value}, VRs ι (vs.map (Am.renS ρ)) cs -> vs.all (okS n) = true -> VRs (renI ι ρ n) vs cs
 | [], _, .nil, _ => .nil
 | v :: vs, _, .cons h1 h2, ho => by
  simp only [List.all_cons, Bool.and_eq_true] at ho
  exact .cons (h1.renS ho.1) (VRs.renS h2 ho.2)
theorem VR.renA {v c : Value} (h : VR ι (Am.renA ρ v) c) (ho : okA n v = true) : VR (renI ι ρ n) v c := by
 cases v with
 | agg cs =>
  simp only [Am.renA] at h
  cases h with
  | scal hs => simp [z1b] at hs
  | agg hl => exact .agg (xs := cs.toList) (VRs.renS hl ho)
 | _ => exact VR.renS h ho
theorem VRs.renA : ∀ {vs cs : List Value}, VRs ι (vs.map (Am.renA ρ)) cs -> vs.all (okA n) = true -> VRs (renI ι ρ n) vs cs
 | [], _, .nil, _ => .nil
 | v :: vs, _, .cons h1 h2, ho => by
  simp only [List.all_cons, Bool.and_eq_true] at ho
  exact .cons (h1.renA ho.1) (VRs.renA h2 ho.2)
theorem VR.renV {v c : Value} (h : VR ι (Am.renV ρ v) c) (ho : okVv n v = true) : VR (renI ι ρ n) v c := by
 cases v with
 | tuple cs =>
  simp only [Am.renV] at h
  cases h with
  | scal hs => simp [z1b] at hs
  | tup hl => exact .tup (xs := cs.toList) (VRs.renA hl ho)
 | _ => exact VR.renA h ho
end
theorem ACalls.ren {P : Program} {f : FuncId} {args : List Value} {H H' Hc : AH} {v v' : Value} (ρ : Nat -> Nat) (h : ACalls P f args H v H') (hn : H.next <= Hc.next) (hid : ∀ b, b < H.next -> ρ b = b) (hinj : ∀ b b', b < Hc.next -> b' < Hc.next -> ρ b = ρ b' -> b = b')
  (hv : v = renV ρ v') (hvb : okVv Hc.next v' = true) (hG : ∀ b x, Hc.get b = some x -> H'.get (ρ b) = some ⟨x.cells.map (renS ρ), x.elem, x.sz, x.own⟩ /\ x.cells.all (okS Hc.next) = true) : ACalls P f args H v' Hc := by
 have hlt : ∀ b x, Hc.get b = some x -> b < Hc.next := fun b x hb => AH.lt_of_get hb
 refine ⟨⟨hn, fun b hb hz => ?_⟩, fun ι w cargs hS hargs => ?_⟩
 ·cases hc : Hc.get b with
  | none => rfl
  | some x =>
   have := (hG b x hc).1
   rw [hid b hb, h.next.2 b hb hz] at this
   cases this
 ·refine (h.run ι w cargs hS hargs).mono ?_
  rintro e w' ⟨ι', u, rfl, e2, e3, e4⟩
  subst hv
  have hi : ∀ {b : Nat} {x : ABlk} {y : Nat × Nat × Nat}, Hc.get b = some x -> renI ι' ρ Hc.next b = some y -> H'.get (ρ b) = some ⟨x.cells.map (renS ρ), x.elem, x.sz, x.own⟩ /\ ι' (ρ b) = some y := fun hb hy => by
   rw [z9r (hlt _ _ hb)] at hy
   exact ⟨(hG _ _ hb).1, hy⟩
  refine ⟨renI ι' ρ Hc.next, u, rfl, e2.renV hvb, ⟨fun b x cb co ex hb hy => ?_, fun b b' x x' cb co ex cb' co' ex' hne hb hb' ho hy hy' => ?_, fun b y hy => ?_⟩, fun b y hy => ?_, fun b hb => ?_, ?_, ?_, e4.same, e4.size, e4.os, e4.tape, e4.output⟩
  ·obtain ⟨g1, g2⟩ := hi hb hy
   obtain ⟨arr, el, fr, k1, k2, k3⟩ := (e3.blk _ _ _ _ _ g1 g2).lies
   refine ⟨arr, el, fr, k1, fun j u hu => ?_, fun ho => by simpa using k3 ho⟩
   obtain ⟨u', q1, q2⟩ := k2 j (renS ρ u) (by simp [hu])
   exact ⟨u', q1, q2.renS (List.all_eq_true.1 (hG b x hb).2 u (List.mem_of_getElem? hu))⟩
  ·obtain ⟨g1, g2⟩ := hi hb hy
   obtain ⟨g3, g4⟩ := hi hb' hy'
   exact e3.inj _ _ _ _ _ _ _ _ _ _ (fun e => hne (hinj _ _ (hlt _ _ hb) (hlt _ _ hb') e)) g1 g3 ho g2 g4
  ·unfold renI at hy
   split at hy
   ·assumption
   ·cases hy
  ·have hb := hS.dom b y hy
   rw [z9r (by omega), hid b hb]
   exact e4.sub b y hy
  ·rw [z9r (by omega), hid b hb]
   exact e4.old b hb
  ·rintro cb ⟨b, x, co, ex, hb, hy⟩
   obtain ⟨g1, g2⟩ := hi hb hy
   exact e4.img cb ⟨ρ b, _, co, ex, g1, g2⟩
  ·rintro cb ⟨b, x, co, ex, hb, ho, hy⟩
   obtain ⟨g1, g2⟩ := hi hb hy
   exact e4.own cb ⟨ρ b, _, co, ex, g1, ho, g2⟩
def rhoL (m : Nat) (L : List Nat) (b : Nat) : Nat := if b < m then b else L.getD (b - m) 0
def vEqA (v u : Value) : Bool := match v, u with
 | .agg a, .agg b => zdg a.toList b.toList
 | v, u => zdg [v] [u]
def vsEq : List Value -> List Value -> Bool
 | [], [] => true
 | v :: vs, u :: us => vEqA v u && vsEq vs us
 | _, _ => false
def zgi (v u : Value) : Bool := match v, u with
 | .tuple a, .tuple b => vsEq a.toList b.toList
 | v, u => vEqA v u
theorem zdi {v u : Value} (h : vEqA v u = true) : v = u := by
 unfold vEqA at h
 split at h
 ·rename_i a b
  have := z7k h
  cases a; cases b
  simp only at this
  rw [this]
 ·have := z7k h
  simpa using this
theorem zbm : ∀ {vs us : List Value}, vsEq vs us = true -> vs = us
 | [], [], _ => rfl
 | v :: vs, u :: us, h => by
  simp only [vsEq, Bool.and_eq_true] at h
  rw [zdi h.1, zbm h.2]
 | [], _ :: _, h => by cases h
 | _ :: _, [], h => by cases h
theorem zee {v u : Value} (h : zgi v u = true) : v = u := by
 unfold zgi at h
 split at h
 ·rename_i a b
  have := zbm h
  cases a; cases b
  simp only at this
  rw [this]
 ·exact zdi h
def chkR (H : AH) (L : List Nat) (v' : Value) (Hc : AH) (r : Option (Value × AH)) : Bool := match r with
 | none => false
 | some r => zgi r.1 (renV (rhoL H.next L) v') && okVv Hc.next v' && Nat.ble H.next Hc.next && Nat.beq (H.next + L.length) Hc.next && L.all (fun x => Nat.ble H.next x) && decide (L.Nodup) &&
  (List.range Hc.next).all fun b => match Hc.get b with
   | none => true
   | some x => zc8 (r.2.get (rhoL H.next L b)) (some ⟨x.cells.map (renS (rhoL H.next L)), x.elem, x.sz, x.own⟩) && x.cells.all (okS Hc.next)
theorem z9s {P : Program} {f : FuncId} {args : List Value} {H Hc : AH} {L : List Nat} {v' : Value} {r : Option (Value × AH)} (h : chkR H L v' Hc r = true) (hr : ∀ v H', r = some (v, H') -> ACalls P f args H v H') : ACalls P f args H v' Hc := by
 unfold chkR at h
 cases r with
 | none => cases h
 | some r =>
  obtain ⟨v, H'⟩ := r
  simp only [Bool.and_eq_true] at h
  obtain ⟨⟨⟨⟨⟨⟨h1, h2⟩, h3⟩, h4⟩, h5⟩, h6⟩, h7⟩ := h
  have h6 := of_decide_eq_true h6
  have h3 := Nat.le_of_ble_eq_true h3
  have h4 : H.next + L.length = Hc.next := Nat.eq_of_beq_eq_true h4
  have hbig : ∀ b, ¬ b < H.next -> b < Hc.next -> ∃ h : b - H.next < L.length, rhoL H.next L b = L[b - H.next] /\ H.next <= L[b - H.next] := fun b hb hc => by
   have hl : b - H.next < L.length := by omega
   refine ⟨hl, ?_, Nat.le_of_ble_eq_true (List.all_eq_true.1 h5 _ (List.getElem_mem hl))⟩
   unfold rhoL
   rw [if_neg hb, zAb, zAh hl]; rfl
  have hlow : ∀ b, b < H.next -> rhoL H.next L b = b := fun b hb => by unfold rhoL; rw [if_pos hb]
  refine (hr v H' rfl).ren (rhoL H.next L) h3 hlow (fun b b' hb hb' e => ?_) (zee h1) h2 fun b x hb => ?_
  ·by_cases c : b < H.next
   ·by_cases c' : b' < H.next
    ·rw [hlow b c, hlow b' c'] at e; exact e
    ·obtain ⟨_, e1, e2⟩ := hbig b' c' hb'
     rw [hlow b c, e1] at e; omega
   ·obtain ⟨l1, e1, e2⟩ := hbig b c hb
    by_cases c' : b' < H.next
    ·rw [hlow b' c', e1] at e; omega
    ·obtain ⟨l2, e3, e4⟩ := hbig b' c' hb'
     rw [e1, e3] at e
     have := (List.getElem_inj h6).1 e
     omega
  ·have hm : b ∈ List.range Hc.next := List.mem_range.2 (AH.lt_of_get hb)
   have := List.all_eq_true.1 h7 b hm
   rw [hb] at this
   simp only [Bool.and_eq_true] at this
   exact ⟨z4z this.1, this.2⟩
def zef (H K : AH) : Bool := Nat.beq H.next K.next && Nat.beq H.blks.length K.blks.length && (H.blks.zip K.blks).all fun p => zc8 p.1 p.2
theorem zgj {xs ys : List (Option ABlk)} (hl : xs.length = ys.length) (h : ((xs.zip ys).all fun p => zc8 p.1 p.2) = true) : xs = ys := by
 induction xs generalizing ys with
 | nil => cases ys with
  | nil => rfl
  | cons y ys => simp at hl
 | cons x xs ih =>
  cases ys with
  | nil => simp at hl
  | cons y ys =>
   simp only [List.zip_cons_cons, List.all_cons, Bool.and_eq_true] at h
   rw [z4z h.1, ih (by simpa using hl) h.2]
theorem zd6 {H K : AH} (h : zef H K = true) : H = K := by
 unfold zef at h
 simp only [Bool.and_eq_true] at h
 obtain ⟨⟨h1, h2⟩, h3⟩ := h
 have k1 := Nat.eq_of_beq_eq_true h1
 have k3 := zgj (Nat.eq_of_beq_eq_true h2) h3
 cases H; cases K
 dsimp only at k1 k3
 rw [k1, k3]
abbrev Ext1 := FuncId -> Option (List Value -> AH -> Option (Value × AH))
def extL (f0 : FuncId) (al0 : List Value) (H0 : AH) (v1 : Value) (H1 : AH) (g : Ext1) : Ext1 := fun f => if f = f0 then some (fun args H => if vsEq args al0 && zef H H0 then some (v1, H1) else match g f with
 | some k => k args H
 | none => none) else g f
theorem z9t {P : Program} {f0 : FuncId} {al0 : List Value} {H0 : AH} {v1 : Value} {H1 : AH} {g : Ext1} (h0 : ACalls P f0 al0 H0 v1 H1) (hg : ∀ f k, g f = some k -> ∀ args H v H', k args H = some (v, H') -> ACalls P f args H v H') :
  ∀ f k, extL f0 al0 H0 v1 H1 g f = some k -> ∀ args H v H', k args H = some (v, H') -> ACalls P f args H v H' := by
 intro f k h args H v H' h2
 unfold extL at h
 split at h
 ·rename_i hf
  obtain rfl := zAa h
  dsimp only at h2
  split at h2
  ·rename_i hc
   simp only [Bool.and_eq_true] at hc
   obtain rfl := zbm hc.1
   obtain rfl := zd6 hc.2
   obtain ⟨rfl, rfl⟩ := Prod.mk.inj (zAa h2)
   subst hf
   exact h0
  ·cases hk : g f with
   | none => rw [hk] at h2; cases h2
   | some k => rw [hk] at h2; exact hg f k hk args H v H' h2
 ·exact hg f k h args H v H' h2
end
end Go.Am
/- What a call of a closed fact begins with. -/
namespace Go.Am.Tryz
open Go Go.Am Go.Proofs
noncomputable def fwA1 : List Value := [.agg #[(.slice (some ⟨3, 0, some 0⟩) 3 3), (.slice (some ⟨4, 0, some 0⟩) 1 1), (.slice (some ⟨5, 0, some 0⟩) 2 2), (.slice (some ⟨6, 0, some 0⟩) 1 1), (.slice (some ⟨7, 0, some 0⟩) 1 1), (.slice none 0 0)], .slice (some ⟨8, 0, some 0⟩) 1 1, .slice none 0 0]
noncomputable def fwH1 : AH := ⟨9, [some ⟨[.int .i64 8], 3, 1, true⟩, some ⟨[.string ⟨#[68]⟩, .string ⟨#[67]⟩, .int .i64 8], 41, 1, true⟩, some ⟨[.string ⟨#[71]⟩, .string ⟨#[66]⟩, .int .i64 1, .int .i64 30, .int .i64 5], 37, 1, true⟩, some ⟨[.string ⟨#[76, 49]⟩, .string ⟨#[65]⟩, .string ⟨#[67]⟩, .int .i64 1000, .int .i64 1000, .int .i64 0, .int .i64 10, .int .i64 20, .int .i64 60, .string ⟨#[76, 50]⟩, .string ⟨#[65]⟩, .string ⟨#[67]⟩, .int .i64 1000, .int .i64 1000, .int .i64 0, .int .i64 10, .int .i64 20, .int .i64 60], 65, 1, true⟩, some ⟨[.string ⟨#[83]⟩, .string ⟨#[65]⟩, .string ⟨#[66]⟩, .bool false, .bool false], 67, 1, true⟩, some ⟨[.string ⟨#[65]⟩, .string ⟨#[66]⟩, .string ⟨#[67]⟩], 9, 1, true⟩, some ⟨[.string ⟨#[76, 50]⟩, .string ⟨#[65]⟩, .string ⟨#[67]⟩, .int .i64 1000, .int .i64 1000, .int .i64 0, .int .i64 10, .int .i64 20, .int .i64 60], 65, 1, true⟩, some ⟨[.string ⟨#[76, 49]⟩, .string ⟨#[65]⟩, .string ⟨#[67]⟩, .int .i64 1000, .int .i64 1000, .int .i64 0, .int .i64 10, .int .i64 20, .int .i64 60], 65, 1, true⟩, some ⟨[.slice (some ⟨3, 0, some 0⟩) 3 3, .slice (some ⟨4, 0, some 0⟩) 1 1, .slice (some ⟨5, 0, some 0⟩) 2 2, .slice (some ⟨6, 0, some 0⟩) 1 1, .slice (some ⟨7, 0, some 0⟩) 1 1, .slice none 0 0], 29, 1, true⟩]⟩
end Go.Am.Tryz
