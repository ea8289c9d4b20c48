/- What the proofs ask of the program's types. -/
import Derived.Test.YtmdhkaombnamkaaDoorG1Zp
import Derived.Test.YtmdhkaombnamkaaDoorProg
import Derived.BigRegion
import Derived.Laws.Strings
import Derived.Shelf.Strings.Search1
import Derived.Shelf.Strings.BuilderK
import Derived.Shelf.Strconv.Itoa3
import Derived.WalkKit
import Derived.BigCall
import Derived.Lib.AppendIntMem
import Derived.Lib.ItoaLen
set_option maxRecDepth 100000
set_option maxHeartbeats 8000000
set_option linter.unusedVariables false
set_option linter.unusedSimpArgs false
namespace Go.Am.Tryd
open Go Go.Am Go.Proofs
theorem sz3 : szT Tryd.prog 3 = some 1 := by kernel_rfl
theorem ze3 : (Tryd.prog.info? 3).bind (·.zero) = some (Go.Value.int Go.IntKind.i64 0) := by kernel_rfl
theorem ag3 : z30 Tryd.prog 3 = some false := by kernel_rfl
theorem ag4 : z30 Tryd.prog 4 = some false := by kernel_rfl
theorem sz5 : szT Tryd.prog 5 = some 1 := by kernel_rfl
theorem ag5 : z30 Tryd.prog 5 = some false := by kernel_rfl
theorem in5 : intT Tryd.prog 5 = some Go.IntKind.u8 := by kernel_rfl
theorem sz9 : szT Tryd.prog 9 = some 1 := by kernel_rfl
theorem ze9 : (Tryd.prog.info? 9).bind (·.zero) = some (Go.Value.string { data := #[] }) := by kernel_rfl
theorem ag9 : z30 Tryd.prog 9 = some false := by kernel_rfl
theorem by9 : ((Tryd.prog.info? 9).map (·.bytes)) = some 16 := by kernel_rfl
theorem un9 : Tryd.prog.underlying 9 = some Go.TypeDesc.string := by kernel_rfl
theorem sz22 : szT Tryd.prog 22 = some 1 := by kernel_rfl
theorem ze22 : (Tryd.prog.info? 22).bind (·.zero) = some (Go.Value.slice none 0 0) := by kernel_rfl
theorem ag22 : z30 Tryd.prog 22 = some false := by kernel_rfl
theorem ni22 : z8q Tryd.prog 22 = true := by kernel_rfl
theorem el22 : z7m Tryd.prog 22 = some 9 := by kernel_rfl
theorem ag23 : z30 Tryd.prog 23 = some false := by kernel_rfl
theorem el23 : z7m Tryd.prog 23 = some 64 := by kernel_rfl
theorem ag24 : z30 Tryd.prog 24 = some false := by kernel_rfl
theorem el24 : z7m Tryd.prog 24 = some 69 := by kernel_rfl
theorem ag25 : z30 Tryd.prog 25 = some false := by kernel_rfl
theorem el25 : z7m Tryd.prog 25 = some 71 := by kernel_rfl
theorem ag26 : z30 Tryd.prog 26 = some false := by kernel_rfl
theorem el26 : z7m Tryd.prog 26 = some 45 := by kernel_rfl
theorem ag27 : z30 Tryd.prog 27 = some false := by kernel_rfl
theorem el27 : z7m Tryd.prog 27 = some 73 := by kernel_rfl
theorem sz29 : szT Tryd.prog 29 = some 6 := by kernel_rfl
theorem ag29 : z30 Tryd.prog 29 = some true := by kernel_rfl
theorem zac : fldT Tryd.prog 29 0 = some 0 := by kernel_rfl
theorem zc3 : fldT Tryd.prog 29 1 = some 1 := by kernel_rfl
theorem zc4 : fldT Tryd.prog 29 2 = some 2 := by kernel_rfl
theorem zc5 : fldT Tryd.prog 29 3 = some 3 := by kernel_rfl
theorem zc6 : fldT Tryd.prog 29 4 = some 4 := by kernel_rfl
theorem zc7 : fldT Tryd.prog 29 5 = some 5 := by kernel_rfl
theorem sz45 : szT Tryd.prog 45 = some 3 := by kernel_rfl
theorem ze45 : (Tryd.prog.info? 45).bind (·.zero) = some (Go.Value.agg #[Go.Value.string { data := #[] }, Go.Value.string { data := #[] }, Go.Value.int Go.IntKind.i64 0]) := by kernel_rfl
theorem ag45 : z30 Tryd.prog 45 = some true := by kernel_rfl
theorem zf8 : fldT Tryd.prog 45 0 = some 0 := by kernel_rfl
theorem zf9 : fldT Tryd.prog 45 1 = some 1 := by kernel_rfl
theorem zfa : fldT Tryd.prog 45 2 = some 2 := by kernel_rfl
theorem el47 : z7m Tryd.prog 47 = some 5 := by kernel_rfl
theorem ni59 : z8q Tryd.prog 59 = true := by kernel_rfl
theorem el59 : z7m Tryd.prog 59 = some 62 := by kernel_rfl
theorem sz62 : szT Tryd.prog 62 = some 4 := by kernel_rfl
theorem ze62 : (Tryd.prog.info? 62).bind (·.zero) = some (Go.Value.agg #[Go.Value.string { data := #[] }, Go.Value.slice none 0 0, Go.Value.bool false, Go.Value.bool false]) := by kernel_rfl
theorem ag62 : z30 Tryd.prog 62 = some true := by kernel_rfl
theorem by62 : ((Tryd.prog.info? 62).map (·.bytes)) = some 48 := by kernel_rfl
theorem zo62 : zcq Tryd.prog 62 = true := by kernel_rfl
theorem pl62 : plcT Tryd.prog 62 = some [(0, 1), (1, 1), (2, 1), (3, 1)] := by kernel_rfl
theorem ziw : fldT Tryd.prog 62 0 = some 0 := by kernel_rfl
theorem zgv : fldT Tryd.prog 62 1 = some 1 := by kernel_rfl
theorem zix : fldT Tryd.prog 62 2 = some 2 := by kernel_rfl
theorem ziy : fldT Tryd.prog 62 3 = some 3 := by kernel_rfl
theorem sz64 : szT Tryd.prog 64 = some 5 := by kernel_rfl
theorem ze64 : (Tryd.prog.info? 64).bind (·.zero) = some (Go.Value.agg #[Go.Value.string { data := #[] }, Go.Value.string { data := #[] }, Go.Value.string { data := #[] }, Go.Value.bool false, Go.Value.bool false]) := by kernel_rfl
theorem ag64 : z30 Tryd.prog 64 = some true := by kernel_rfl
theorem zfb : fldT Tryd.prog 64 0 = some 0 := by kernel_rfl
theorem zdo : fldT Tryd.prog 64 1 = some 1 := by kernel_rfl
theorem zdp : fldT Tryd.prog 64 2 = some 2 := by kernel_rfl
theorem zi3 : fldT Tryd.prog 64 3 = some 3 := by kernel_rfl
theorem zi4 : fldT Tryd.prog 64 4 = some 4 := by kernel_rfl
theorem el65 : z7m Tryd.prog 65 = some 3 := by kernel_rfl
theorem sz69 : szT Tryd.prog 69 = some 9 := by kernel_rfl
theorem ze69 : (Tryd.prog.info? 69).bind (·.zero) = some (Go.Value.agg #[Go.Value.string { data := #[] }, Go.Value.string { data := #[] }, Go.Value.string { data := #[] }, Go.Value.int Go.IntKind.i64 0, Go.Value.int Go.IntKind.i64 0, Go.Value.int Go.IntKind.i64 0, Go.Value.int Go.IntKind.i64 0, Go.Value.int Go.IntKind.i64 0, Go.Value.int Go.IntKind.i64 0]) := by kernel_rfl
theorem ag69 : z30 Tryd.prog 69 = some true := by kernel_rfl
theorem zfc : fldT Tryd.prog 69 0 = some 0 := by kernel_rfl
theorem zdq : fldT Tryd.prog 69 1 = some 1 := by kernel_rfl
theorem zdr : fldT Tryd.prog 69 2 = some 2 := by kernel_rfl
theorem zfd : fldT Tryd.prog 69 3 = some 3 := by kernel_rfl
theorem zfe : fldT Tryd.prog 69 4 = some 4 := by kernel_rfl
theorem zff : fldT Tryd.prog 69 5 = some 5 := by kernel_rfl
theorem zc8 : fldT Tryd.prog 69 6 = some 6 := by kernel_rfl
theorem zfg : fldT Tryd.prog 69 7 = some 7 := by kernel_rfl
theorem zfh : fldT Tryd.prog 69 8 = some 8 := by kernel_rfl
theorem sz71 : szT Tryd.prog 71 = some 5 := by kernel_rfl
theorem ze71 : (Tryd.prog.info? 71).bind (·.zero) = some (Go.Value.agg #[Go.Value.string { data := #[] }, Go.Value.string { data := #[] }, Go.Value.int Go.IntKind.i64 0, Go.Value.int Go.IntKind.i64 0, Go.Value.int Go.IntKind.i64 0]) := by kernel_rfl
theorem ag71 : z30 Tryd.prog 71 = some true := by kernel_rfl
theorem zfi : fldT Tryd.prog 71 0 = some 0 := by kernel_rfl
theorem zfj : fldT Tryd.prog 71 1 = some 1 := by kernel_rfl
theorem zc9 : fldT Tryd.prog 71 2 = some 2 := by kernel_rfl
theorem zfk : fldT Tryd.prog 71 3 = some 3 := by kernel_rfl
theorem zfl : fldT Tryd.prog 71 4 = some 4 := by kernel_rfl
theorem sz73 : szT Tryd.prog 73 = some 5 := by kernel_rfl
theorem ze73 : (Tryd.prog.info? 73).bind (·.zero) = some (Go.Value.agg #[Go.Value.string { data := #[] }, Go.Value.string { data := #[] }, Go.Value.int Go.IntKind.i64 0, Go.Value.int Go.IntKind.i64 0, Go.Value.int Go.IntKind.i64 0]) := by kernel_rfl
theorem ag73 : z30 Tryd.prog 73 = some true := by kernel_rfl
theorem zfm : fldT Tryd.prog 73 0 = some 0 := by kernel_rfl
theorem zfn : fldT Tryd.prog 73 1 = some 1 := by kernel_rfl
theorem zfo : fldT Tryd.prog 73 2 = some 2 := by kernel_rfl
theorem zfp : fldT Tryd.prog 73 3 = some 3 := by kernel_rfl
theorem zfq : fldT Tryd.prog 73 4 = some 4 := by kernel_rfl
theorem ze84 : (Tryd.prog.info? 84).bind (·.zero) = some (Go.Value.agg #[Go.Value.slice none 0 0]) := by kernel_rfl
theorem zgw : fldT Tryd.prog 84 0 = some 0 := by kernel_rfl
theorem zhr : z7m Tryd.prog 101 = some 20 := by kernel_rfl
theorem mixed : Tryd.prog.follows .mixedOrders = true := by kernel_rfl
end Go.Am.Tryd
/- Reads in an open region through a pointer that is known only by an equation. -/
namespace Go.Am
open Go
section
variable {α : Type} {r : RT α} {G : GM} {b N : Nat} {xs : List α}
variable {P : Program} {d : Tmp} {ty t e : TypeId} {pos : String} {af : Array Edge} {g : Option (Nat × Bool)} {x : Operand} {s : List Value}
end
section
variable {P : Program} {n : Nat} {σ : Nat -> Value} {G : GM} {H : AH} {ops : Array Oper} {l : List Oper} {d : Tmp} {ty t u e : TypeId} {pos : String} {af : Array Edge} {g : Option (Nat × Bool)} {x : Operand}
end
end Go.Am
/- Parts of texts and of slices. -/
namespace Go.Am
open Go
section
variable {P : Program} {d : Tmp} {ty t e : TypeId} {pos : String} {af : Array Edge} {g : Option (Nat × Bool)} {x xl xh : Operand} {s : List Value} {a r : zAd} {k k2 : IntKind} {l h : Int}
theorem zg7 (q : ssl a l h = some r) : 0 <= l /\ l <= h /\ h <= a.size /\ r = a.extract l.toNat h.toNat := by
 unfold ssl at q
 split at q
 ·rename_i c; cases q; exact ⟨c.1, c.2.1, c.2.2, rfl⟩
 ·cases q
theorem zaw {y : Nat} {c : BoundsCode} (h0 : 0 <= l) (h1 : l <= y) : (Instr.sliceBound (.int k l) y c).pureRun P = some l.toNat := by
 unfold Instr.sliceBound
 simp [asIntOf, z18, z32, h0, h1]
theorem zi5 (hu : P.underlying t = some .string) (hx : opnd s x = some (.string a)) (hl : opnd s xl = some (.int k l)) (hh : opnd s xh = some (.int k2 h)) (q : ssl a l h = some r) : z2y P s ⟨some d, .slice t x (some xl) (some xh) none, ty, pos, af, g⟩ = some (.string r) := by
 obtain ⟨h1, h2, h3, rfl⟩ := zg7 q
 have hc : ∀ b, closed (.string b) = true := fun _ => rfl
 have hi : ∀ k i, closed (.int k i) = true := fun _ _ => rfl
 have hl' : l <= (h.toNat : Nat) := by omega
 simp [z2y, hx, hl, hh, agen, zcp, Op.operands, hc, hi, execOp, Instr.sliceAt, Instr.slice, Instr.sliceBounds, z18, z3f, z32, z2z hu, zaw (show 0 <= h by omega) h3, zaw h1 hl']
theorem ziz (hu : P.underlying t = some .string) (hx : opnd s x = some (.string a)) (hh : opnd s xh = some (.int k2 h)) (q : ssl a 0 h = some r) : z2y P s ⟨some d, .slice t x none (some xh) none, ty, pos, af, g⟩ = some (.string r) := by
 obtain ⟨h1, h2, h3, rfl⟩ := zg7 q
 have hc : ∀ b, closed (.string b) = true := fun _ => rfl
 have hi : ∀ k i, closed (.int k i) = true := fun _ _ => rfl
 simp [z2y, hx, hh, agen, zcp, Op.operands, hc, hi, execOp, Instr.sliceAt, Instr.slice, Instr.sliceBounds, z18, z3f, z32, z2z hu, zaw (show 0 <= h by omega) h3]
end
section
variable {α : Type} {R : RT α} {G : GM} {P : Program} {d : Tmp} {ty t e : TypeId} {pos : String} {af : Array Edge} {g : Option (Nat × Bool)} {x xl xh : Operand} {k k2 : IntKind} {v : Value} {xs ys : List α}
theorem zi6 {l h : Int} (q : lsl xs l h = some ys) : ∃ l' h' : Nat, l = l' /\ h = h' /\ l' <= h' /\ h' <= xs.length /\ ys = (xs.drop l').take (h' - l') := by
 unfold lsl at q
 split at q
 ·rename_i c; cases q; exact ⟨l.toNat, h.toNat, by omega, by omega, by omega, by omega, rfl⟩
 ·cases q
theorem Ow.pre {H : AH} {L : List Pc} {j : Nat} {h : Int} (O : Ow G H L) (hj : L[j]? = some (eSl v e R xs)) (he : z7m P t = some e) (hz : szT P e = some R.sz) (q : lsl xs 0 h = some ys) : ∃ w, (∀ {s : List Value} {d ty pos af g x xh k2}, opnd s x = some v -> opnd s xh = some (.int k2 h) -> z2y P s ⟨some d, .slice t x none (some xh) none, ty, pos, af, g⟩ = some w) /\ Ow G H (L.set j (eSl w e R ys)) := by
 obtain ⟨l', h', h0, rfl, h1, h2, rfl⟩ := zi6 q
 obtain rfl : l' = 0 := by omega
 obtain ⟨inf, hinf, hsz⟩ := z4z hz
 obtain ⟨es, hs, hr⟩ := O.ok j _ hj
 have hlen := hr.length
 have hb0 : ∀ y, bnd none 0 y = some 0 := fun y => by simp [bnd]
 rcases hs with ⟨rfl, rfl⟩ | ⟨b, tg, cap, rest, sz', rfl, hb, hl, hcap, htg⟩
 ·have e0 : xs.length = 0 := by simpa using hlen.symm
  obtain rfl : h' = 0 := by omega
  refine ⟨.slice none 0 0, fun {s d ty pos af g x xh k2} hx hh => ?_, ?_⟩
  ·simp [z2y, hx, zg6, hh, zcj, z04 he, hinf, bnd]
  ·refine O.put hj _ (fun b hb => .inl hb) ⟨[], .inl ⟨rfl, rfl⟩, by simpa using All2.nil⟩ fun b k hk _ => hk
 ·refine ⟨.slice (some ⟨b, 0, tg⟩) h' cap, fun {s d ty pos af g x xh k2} hx hh => ?_, ?_⟩
  ·have hbh : bnd (some (.int k2 (h' : Int))) es.length cap = some h' := by simp [bnd]; omega
   have htt : tg = none \/ tg = some 0 := htg.imp And.left id
   simp only [z2y, hx, zg6, hh, Option.bind_some, Option.map_some, zcj, z04 he, hinf, hbh, hb0]
   rw [if_pos ⟨hcap, htt⟩]
   simp
  ·refine O.put hj _ (fun b hb => .inl hb) ⟨es.take h', .inr ⟨b, tg, cap, (es.drop h').flatten ++ rest, sz', ?_, ?_, ?_, ?_, htg⟩, by simpa using hr.take h'⟩ fun b k hk _ => hk
   ·rw [List.length_take]; congr 1; omega
   ·rw [hb, <- List.append_assoc, <- List.flatten_append, List.take_append_drop]
   ·rw [<- List.append_assoc, <- List.flatten_append, List.take_append_drop]; exact hl
   ·rw [List.length_take]; omega
end
section
variable {P : Program} {d : Tmp} {ty src dst : TypeId} {pos : String} {af : Array Edge} {g : Option (Nat × Bool)} {x : Operand} {s : List Value} {a : zAd} {k k1 : IntKind} {n : Int}
theorem zjr {t : TypeId} (hx : opnd s x = some (.int k n)) : z2y P s ⟨some d, .unOp .neg t x, ty, pos, af, g⟩ = some (.int k (z0p k (-n))) := by
 have hc : ∀ k n, closed (.int k n) = true := fun _ _ => rfl
 have hq : (Op.unary .neg (.int k n)).pureRun P = some (.int k (z0p k (-n))) := by rw [zaj, <- Int.zero_sub]; rfl
 simp [z2y, hx, agen, zcp, Op.operands, hc, execOp, z18, z3f, z32, hq]
end
end Go.Am
/- Rows that are laid one behind the other: a list of lists that grows by append, each row with its block. -/
namespace Go.Am
open Go
noncomputable section
section
variable {G : GM} {H H1 : AH} {L : List Pc} {j : Nat} {a b e0 : Pc}
theorem Ow.part (O : Ow G H L) (hj : L[j]? = some e0) (a b : Pc) (ha : ∀ x ∈ a.foot, x ∈ e0.foot) (hb : ∀ x ∈ b.foot, x ∈ e0.foot) (hab : ∀ x ∈ a.foot, x ∉ b.foot) (oka : a.ok G H.get) (okb : b.ok G H.get) : Ow G H (a :: L.set j b) := by
 have hjl : j < L.length := (zAi hj).1
 have hset : ∀ (i : Nat) (x : Pc), (L.set j b)[i]? = some x -> (i = j /\ x = b) \/ (i ≠ j /\ L[i]? = some x) := fun i x hx => by
  rw [List.getElem?_set] at hx
  by_cases hij : j = i
  ·subst hij; simp [hjl] at hx; exact .inl ⟨rfl, hx.symm⟩
  ·rw [if_neg hij] at hx; exact .inr ⟨fun e => hij e.symm, hx⟩
 have hd : ∀ (i : Nat) (x : Pc), i ≠ j -> L[i]? = some x -> ∀ c ∈ e0.foot, c ∉ x.foot := fun i x hi hx => O.dis j i e0 x (fun e => hi e.symm) hj hx
 refine ⟨O.fro, fun i x hx => ?_, fun i i' x x' hii hx hx' c hc => ?_, fun i x hx c hc => ?_⟩
 ·cases i with
  | zero => simp at hx; subst hx; exact oka
  | succ i =>
   rcases hset i x (by simpa using hx) with ⟨rfl, rfl⟩ | ⟨_, h⟩
   ·exact okb
   ·exact O.ok i x h
 ·cases i with
  | zero =>
   simp at hx; subst hx
   cases i' with
   | zero => exact absurd rfl hii
   | succ i' =>
    rcases hset i' x' (by simpa using hx') with ⟨rfl, rfl⟩ | ⟨h1, h2⟩
    ·exact hab c hc
    ·exact hd i' x' h1 h2 c (ha c hc)
  | succ i =>
   rcases hset i x (by simpa using hx) with ⟨rfl, rfl⟩ | ⟨h1, h2⟩
   ·cases i' with
    | zero => simp at hx'; subst hx'; exact fun h => hab c h hc
    | succ i' =>
     rcases hset i' x' (by simpa using hx') with ⟨rfl, rfl⟩ | ⟨h3, h4⟩
     ·exact absurd rfl hii
     ·exact hd i' x' h3 h4 c (hb c hc)
   ·cases i' with
    | zero => simp at hx'; subst hx'; exact fun h => hd i x h1 h2 c (ha c h) hc
    | succ i' =>
     rcases hset i' x' (by simpa using hx') with ⟨rfl, rfl⟩ | ⟨h3, h4⟩
     ·exact fun h => hd i x h1 h2 c (hb c h) hc
     ·exact O.dis i i' x x' (by omega) h2 h4 c hc
 ·cases i with
  | zero => simp at hx; subst hx; exact O.apart j e0 hj c (ha c hc)
  | succ i =>
   rcases hset i x (by simpa using hx) with ⟨rfl, rfl⟩ | ⟨h1, h2⟩
   ·exact O.apart i e0 hj c (hb c hc)
   ·exact O.apart i x h2 c hc
end
structure SetOk {α : Type} (ws : List Value) (e2 : TypeId) (r : RT α) (xss : List (List α)) (G M : GM) : Prop where
 len : ws.length = xss.length
 row : ∀ (i : Nat) (w : Value), ws[i]? = some w -> ∃ es xs, xss[i]? = some xs /\ SlO e2 r.sz M w es /\ All2 (r.rep G) es xs
 dis : ∀ (i j : Nat) (w u : Value), i ≠ j -> ws[i]? = some w -> ws[j]? = some u -> ∀ b ∈ z76 w, b ∉ z76 u
section
variable {P : Program} {n : Nat} {σ : Nat -> Value} {H H1 : AH} {d : Tmp} {dd : Option Tmp} {ty t xt e e2 : TypeId} {pos : String} {af : Array Edge} {g : Option (Nat × Bool)} {v u w w' : Value} {x y : Operand}
 {G : GM} {L : List Pc} {j i : Nat} {α : Type} {r : RT α} {ws : List Value} {xs : List α} {xss : List (List α)}
end
end
end Go.Am
/- Plain lemmas for typed functions: loops over lists, texts, whole numbers. -/
namespace Go.Am
open Go
theorem kw {a : Int} (h1 : -9223372036854775808 <= a) (h2 : a <= 9223372036854775807) : z0p .i64 a = a := z9i (z71 h1 h2)
theorem kw1 {i n : Nat} (h : i < n) (hn : n <= 4611686018427387904) : z0p .i64 ((i : Int) + 1) = ((i + 1 : Nat) : Int) := by rw [kw (by omega) (by omega)]; omega
theorem z1v {α : Type} {xs : List α} {i : Nat} {x : α} (h : xs[i]? = some x) : idx xs (i : Int) = some x := by
 unfold idx
 rw [if_neg (by omega)]
 simpa using h
theorem z33 {i n : Nat} (h : i < n) : decide ((i : Int) < (n : Int)) = true := by simp; omega
theorem z1w {i n : Nat} (h : n <= i) : decide ((i : Int) < (n : Int)) = false := by simp; omega
@[simp] theorem Sum.elim_ite {α β γ : Type} (f : α -> γ) (g : β -> γ) (c : Prop) [Decidable c] (x y : α ⊕ β) : Sum.elim f g (if c then x else y) = if c then Sum.elim f g x else Sum.elim f g y := by split <;> rfl
def runS {α S E : Type} (chk : α -> S -> E ⊕ S) : List α -> S -> E ⊕ S
 | [], s => .inr s
 | x :: xs, s => Sum.elim .inl (runS chk xs) (chk x s)
theorem z3y {α S E : Type} (chk : α -> S -> E ⊕ S) : ∀ (xs ys : List α) (s : S), runS chk (xs ++ ys) s = Sum.elim .inl (runS chk ys) (runS chk xs s)
 | [], ys, s => rfl
 | x :: xs, ys, s => by
  simp only [List.cons_append, runS]
  cases chk x s with
  | inl e => rfl
  | inr s' => exact z3y chk xs ys s'
theorem z6q {α β S E : Type} (chk : β -> S -> E ⊕ S) (f : α -> β) : ∀ (xs : List α) (s : S), runS chk (xs.map f) s = runS (fun x => chk (f x)) xs s
 | [], s => rfl
 | x :: xs, s => by
  simp only [List.map_cons, runS]
  cases chk (f x) s with
  | inl e => rfl
  | inr s' => exact z6q chk f xs s'
theorem zgx {α S E : Type} (xs : List α) (l : Nat -> S -> Int -> Option (E ⊕ S)) (chk : α -> S -> E ⊕ S) (I : S -> Nat -> Prop)
  (h : ∀ k s (i : Nat) x, xs[i]? = some x -> I s i -> l (k + 1) s i = Sum.elim (fun e => some (.inl e)) (fun s' => l k s' ((i + 1 : Nat) : Int)) (chk x s))
  (hI : ∀ s (i : Nat) x s', xs[i]? = some x -> I s i -> chk x s = .inr s' -> I s' (i + 1))
  (h0 : ∀ k s (i : Nat), xs.length <= i -> l (k + 1) s i = some (.inr s)) : ∀ d k s (i : Nat), xs.length - i = d -> d < k -> I s i -> l k s i = some (runS chk (xs.drop i) s) := by
 intro d
 induction d with
 | zero =>
  intro k s i hd hk _
  obtain ⟨k, rfl⟩ : ∃ m, k = m + 1 := ⟨k - 1, by omega⟩
  rw [h0 k s i (by omega), List.drop_eq_nil_of_le (by omega)]; rfl
 | succ d ih =>
  intro k s i hd hk hi
  obtain ⟨k, rfl⟩ : ∃ m, k = m + 1 := ⟨k - 1, by omega⟩
  have hl : i < xs.length := by omega
  have hx : xs[i]? = some xs[i] := zAh hl
  rw [h k s i _ hx hi, List.drop_eq_getElem_cons hl, runS]
  cases hc : chk xs[i] s with
  | inl e => rfl
  | inr s' => exact ih k s' (i + 1) (by omega) (by omega) (hI s i _ s' hx hi hc)
theorem z6e {α S E : Type} (xs : List α) (l : Nat -> S -> Int -> Option (E ⊕ S)) (chk : α -> S -> E ⊕ S) (I : S -> Nat -> Prop)
  (h : ∀ k s (i : Nat) x, xs[i]? = some x -> I s i -> l (k + 1) s i = Sum.elim (fun e => some (.inl e)) (fun s' => l k s' ((i + 1 : Nat) : Int)) (chk x s))
  (hI : ∀ s (i : Nat) x s', xs[i]? = some x -> I s i -> chk x s = .inr s' -> I s' (i + 1))
  (h0 : ∀ k s (i : Nat), xs.length <= i -> l (k + 1) s i = some (.inr s)) (k : Nat) (s : S) (hk : xs.length < k) (hi : I s 0) : l k s 0 = some (runS chk xs s) := by
 have := zgx xs l chk I h hI h0 xs.length k s 0 (by omega) hk hi
 simpa using this
theorem zgy {α β : Type} (xs : List α) (l : Nat -> List β -> Int -> Option (List β)) (f : α -> β) (m : Nat)
  (h : ∀ k acc (i : Nat) x, xs[i]? = some x -> acc.length = m + i -> l (k + 1) acc i = l k (acc ++ [f x]) ((i + 1 : Nat) : Int))
  (h0 : ∀ k acc (i : Nat), xs.length <= i -> l (k + 1) acc i = some acc) : ∀ d k acc (i : Nat), xs.length - i = d -> d < k -> acc.length = m + i -> l k acc i = some (acc ++ (xs.drop i).map f) := by
 intro d
 induction d with
 | zero =>
  intro k acc i hd hk _
  obtain ⟨k, rfl⟩ : ∃ m, k = m + 1 := ⟨k - 1, by omega⟩
  rw [h0 k acc i (by omega), List.drop_eq_nil_of_le (by omega)]; simp
 | succ d ih =>
  intro k acc i hd hk hi
  obtain ⟨k, rfl⟩ : ∃ m, k = m + 1 := ⟨k - 1, by omega⟩
  have hl : i < xs.length := by omega
  have hx : xs[i]? = some xs[i] := zAh hl
  rw [h k acc i _ hx hi, ih k _ (i + 1) (by omega) (by omega) (by simp; omega), List.drop_eq_getElem_cons hl]
  simp only [List.map_cons, List.append_assoc, List.singleton_append]
theorem z2j {α β : Type} (xs : List α) (l : Nat -> List β -> Int -> Option (List β)) (f : α -> β) (acc : List β)
  (h : ∀ k acc' (i : Nat) x, xs[i]? = some x -> acc'.length = acc.length + i -> l (k + 1) acc' i = l k (acc' ++ [f x]) ((i + 1 : Nat) : Int))
  (h0 : ∀ k acc (i : Nat), xs.length <= i -> l (k + 1) acc i = some acc) (k : Nat) (hk : xs.length < k) : l k acc 0 = some (acc ++ xs.map f) := by
 have := zgy xs l f acc.length h h0 xs.length k acc 0 (by omega) hk (by simp)
 simpa using this
theorem z86 {α S T E : Type} (chk : α -> S -> E ⊕ S) (g : S -> T) (chk' : α -> T -> E ⊕ T) (h : ∀ x s, chk' x (g s) = Sum.elim .inl (fun s' => .inr (g s')) (chk x s)) :
  ∀ (xs : List α) (s : S), runS chk' xs (g s) = Sum.elim .inl (fun s' => .inr (g s')) (runS chk xs s)
 | [], s => rfl
 | x :: xs, s => by
  simp only [runS]
  rw [h]
  cases chk x s with
  | inl e => rfl
  | inr s' => exact z86 chk g chk' h xs s'
theorem z5y {a b : zAd} : sEq a b = true ↔ a = b := by
 unfold sEq
 rw [beq_iff_eq, ByteArray.toList_eq, ByteArray.toList_eq]
 constructor
 ·intro h
  cases a; cases b
  simp at h
  rw [h]
 ·rintro rfl; rfl
theorem zgz (a b : zAd) : sEq a b = sEq b a := by
 cases h : sEq a b with
 | true => rw [z5y] at h; subst h; exact (z5y.2 rfl).symm
 | false =>
  cases h' : sEq b a with
  | true => rw [z5y] at h'; subst h'; rw [z5y.2 rfl] at h; cases h
  | false => rfl
theorem z41 (a : zAd) : (z1l a).length = a.size := by unfold z1l; rw [List.length_map, Array.length_toList]; rfl
theorem zg8 (a : zAd) (i : Int) : bidx a i = idx (z1l a) i := by
 unfold bidx idx
 by_cases h : 0 <= i
 ·rw [if_pos h, if_neg (by omega)]
  unfold z1l
  rw [List.getElem?_map, Array.getElem?_toList]
  rfl
 ·rw [if_neg h, if_pos (by omega)]
end Go.Am
/- Returns of printed walks: what a function's end asks, once for all returns. -/
namespace Go.Am
open Go
noncomputable section
def RK (P : Program) (fn : Func) (n : Nat) (G : GM) (L : List Pc) (Φ : Value -> GM -> AH -> Prop) (R : Value -> AH -> Prop) : Prop := ∀ v H' G', Ow G' H' L -> G.le G' -> Φ v G' H' -> R v H'
def RKF (P : Program) (fn : Func) (n : Nat) (G : GM) (LF : Value -> List Pc) (Φ : Value -> Value -> GM -> Prop) (R : Value -> AH -> Prop) : Prop := ∀ w v H' G', Ow G' H' (LF w) -> G.le G' -> Φ w v G' -> R v H'
section
variable {P : Program} {n : Nat} {σ : Nat -> Value} {H : AH} {fn : Func} {G G' : GM} {L : List Pc} {R : Value -> AH -> Prop} {f : FuncId} {c : Code} {args : List Value} {r1 r2 r3 r4 r5 : ResultVar} {v1 v2 v3 v4 v5 : Value}
 {Φ : Value -> GM -> AH -> Prop} {LF : Value -> List Pc} {Ψ : Value -> Value -> GM -> Prop}
theorem CR.og (hf : P.funcs[f]? = some fn) (hb : fn.body = some c) (hn : max fn.ntmps args.length = n) (h : ∀ R, RK P fn n G L Φ R -> AW P n c (fun t => args.getD t undef) H (retQ P fn n R)) : CR P f args G H L Φ :=
 CR.of (z90 (R := fun v H' => ∃ G', Ow G' H' L /\ G.le G' /\ Φ v G' H') hf hb hn (h _ fun v H' G' a b c => ⟨G', a, b, c⟩))
theorem CRF.og (hf : P.funcs[f]? = some fn) (hb : fn.body = some c) (hn : max fn.ntmps args.length = n) (h : ∀ R, RKF P fn n G LF Ψ R -> AW P n c (fun t => args.getD t undef) H (retQ P fn n R)) : CRF P f args G H LF Ψ :=
 CRF.of (z90 (R := fun v H' => ∃ w G', Ow G' H' (LF w) /\ G.le G' /\ Ψ w v G') hf hb hn (h _ fun w v H' G' a b c => ⟨w, G', a, b, c⟩))
theorem zj0 (k : RKF P fn n G LF Ψ R) (w : Value) (hr : fn.results.toList = []) (O : Ow G' H (LF w)) (s : G.le G') (h : Ψ w (.tuple #[]) G') : retQ P fn n R .ret σ H := zjp hr (k w _ _ _ O s h)
theorem z4i (k : RK P fn n G L Φ R) (hr : fn.results.toList = [r1]) (h1 : RR P n σ H r1 v1) (O : Ow G' H L) (s : G.le G') (h : Φ v1 G' H) : retQ P fn n R .ret σ H := zjj hr h1 (k _ _ _ O s h)
theorem z5q (k : RKF P fn n G LF Ψ R) (w : Value) (hr : fn.results.toList = [r1]) (h1 : RR P n σ H r1 v1) (O : Ow G' H (LF w)) (s : G.le G') (h : Ψ w v1 G') : retQ P fn n R .ret σ H := zjj hr h1 (k w _ _ _ O s h)
theorem zh0 (k : RKF P fn n G LF Ψ R) (w : Value) (hr : fn.results.toList = [r1, r2]) (h1 : RR P n σ H r1 v1) (h2 : RR P n σ H r2 v2) (O : Ow G' H (LF w)) (s : G.le G') (h : Ψ w (.tuple #[v1, v2]) G') : retQ P fn n R .ret σ H := zjq hr h1 h2 (k w _ _ _ O s h)
end
end
end Go.Am
/- The place of a byte in a text: the library's function, by the shelf's contract, as a typed function. -/
namespace Go.Am.Tryd
open Go Go.Am Go.Proofs
def zjs : Go.Shelf.Ren := ⟨fun x => if x = 217 then 66 else if x = 266 then 79 else x, fun x => if x = 3 then 3 else if x = 5 then 5 else 9, fun x => x⟩
theorem zj1 : Lays.n217 Tryd.prog zjs where
 mixed := by kernel_rfl
 f217 := by kernel_rfl
 f266 := by kernel_rfl
 t3 := Tryd.underlying3
 a3 := Tryd.isAgg3
 z3 := Tryd.sizeOf3
 v3 := Tryd.zeroValue3
 t5 := Tryd.underlying5
 a5 := Tryd.isAgg5
 z5 := Tryd.sizeOf5
 v5 := Tryd.zeroValue5
 t9 := Tryd.underlying9
 a9 := Tryd.isAgg9
 z9 := Tryd.sizeOf9
 v9 := Tryd.zeroValue9
theorem zh1 (s : zAd) (c : Int) (H : AH) : ACalls Tryd.prog 66 [.string s, .int .u8 c] H (.int .i64 (Lib.indexByte s.data.toList c.toNat.toUInt8)) H := by
 refine ⟨Nx.refl _, fun ι w cargs hS hargs => ?_⟩
 have he := hargs.closed_eq rfl
 have hc : cargs = #[.string s, .int .u8 c] := by
  cases cargs; exact congrArg Array.mk he
 subst hc
 refine (Any.stringslite_IndexByte zj1 s c w).mono ?_
 rintro e w' ⟨rfl, rfl⟩
 exact ⟨ι, _, rfl, .scal rfl, hS, fun _ _ h => h, fun _ _ => rfl, fun _ h => .inl h, fun _ h => .inl h, fun _ _ _ => rfl, Nat.le_refl _, rfl, rfl, rfl⟩
end Go.Am.Tryd
/- slices.Delete: what an append of a slice's end to its beginning, and clear, do to a slice of one's own. -/
namespace Go.Am
open Go
noncomputable section
section
variable {P : Program} {s : List Value} {d : Tmp} {ty t e : TypeId} {pos : String} {af : Array Edge} {g : Option (Nat × Bool)} {x : Operand}
end
section
variable {α : Type} {r : RT α} {P : Program} {n : Nat} {σ : Nat -> Value} {G : GM} {H : AH} {L : List Pc} {d : Tmp} {dd : Option Tmp} {ty t xt e : TypeId} {pos : String} {af : Array Edge} {g : Option (Nat × Bool)} {x y : Operand} {xs : List α}
end
end
end Go.Am
/- Objects behind pointers that a function makes, or nil; pointers compared with nil. -/
namespace Go.Am
open Go
noncomputable section
section
variable {P : Program} {n : Nat} {σ : Nat -> Value} {G : GM} {d : Tmp} {ty t e : TypeId} {pos : String} {af : Array Edge} {g : Option (Nat × Bool)} {x y : Operand} {α : Type} {r : RT α}
theorem Al.makeSlice {a c : Int} {k1 k2 : IntKind} {z : Value} {x0 : α} {c1 : Nat} (hd : (ook n x && ook n y) = true) (he : z7m P t = some e) (hz : (P.info? e).bind (·.zero) = some z) (hsz : szT P e = some r.sz) (hsc : (z.cells.all z1m && (z.cells.size != 0)) = true) (hzs : z.cells.size = r.sz)
  (hby : ((P.info? e).map (·.bytes)) = some c1) (hb : c1 <= 1048576) (hx : oval σ x = .int k1 a) (hy : oval σ y = .int k2 c) (h : 0 <= a /\ a <= c /\ c <= 16777216) (hr : ∀ G, r.rep G z.cells.toList x0) :
  AlOk P n ⟨some d, .makeSlice t x y, ty, pos, af, g⟩ σ G (fun b => .slice (some ⟨b, 0, some 0⟩) a.toNat c.toNat) (fun b => eSl (.slice (some ⟨b, 0, some 0⟩) a.toNat c.toNat) e r (List.replicate a.toNat x0)) := by
 simp only [Bool.and_eq_true] at hd
 obtain ⟨inf, hi, hsz⟩ := z4z hsz
 simp only [hi, Option.bind_some, Option.map_some, Option.some.injEq] at hz hby
 subst hby
 obtain ⟨h0, h1, h2⟩ := h
 refine ⟨⟨z3l z.cells (c.toNat * inf.size), e, 1, true⟩, .sl a.toNat c.toNat (some 0), ?_, fun b => ⟨rfl, rfl, fun M hM => ?_⟩⟩
 ·have hbnd : inf.bytes * c.toNat <= 2 ^ 48 := Nat.le_trans (Nat.mul_le_mul hb (show c.toNat <= 16777216 by omega)) (by decide)
  have hbnd' : (inf.bytes : Int) * c <= 2 ^ 48 := by
   have : ((inf.bytes * c.toNat : Nat) : Int) <= ((2 ^ 48 : Nat) : Int) := Int.ofNat_le.2 hbnd
   rw [Int.natCast_mul, Int.toNat_of_nonneg (by omega)] at this
   simpa using this
  have hdec : (z.cells.all z1m && (z.cells.size != 0) && decide (0 <= a /\ a <= c /\ c <= 2 ^ 47 /\ (inf.bytes : Int) * c <= 2 ^ 48)) = true := by
   rw [hsc, Bool.true_and, decide_eq_true_iff]
   exact ⟨h0, h1, by omega, hbnd'⟩
  simp only [z3t, z04 he, oo hd.1 hx, oo hd.2 hy, hi, hz, Option.bind_some, hdec, if_true]
 ·rw [hsz, <- hzs, zab] at hM
  refine ⟨List.replicate a.toNat z.cells.toList, .inr ⟨b, some 0, c.toNat, (List.replicate (c.toNat - a.toNat) z.cells.toList).flatten, 1, by simp, ?_, ?_, by simp; omega, .inr rfl⟩, All2.replicate (hr _) _⟩
  ·rw [hM, <- List.flatten_append, List.replicate_append_replicate]; congr 5; omega
  ·rw [<- List.flatten_append, List.replicate_append_replicate, z4u (sz := r.sz) (by intro q hq; rw [List.mem_replicate] at hq; rw [hq.2]; simpa using hzs)]
   rw [List.length_replicate]; congr 1; omega
end
section
variable {P : Program}
end
end
end Go.Am
/- Structs that hold slices of one's own: stored whole, told anew. -/
namespace Go.Am
open Go
noncomputable section
section
variable {P : Program} {n : Nat} {σ : Nat -> Value} {G : GM} {H : AH} {L : List Pc} {dd : Option Tmp} {ty t e : TypeId} {pos : String} {af : Array Edge} {g : Option (Nat × Bool)} {x y : Operand} {α β : Type} {r : RT α} {s : RT β} {j : Nat} {v : Value}
end
end
end Go.Am
/- The library's builder and decimal numerals, by the shelf's contracts, at this program. -/
namespace Go.Am.Tryd
open Go Go.Am Go.Proofs
def renB : Go.Shelf.Ren := ⟨fun x => if x = 338 then 92 else if x = 337 then 91 else if x = 320 then 88 else if x = 319 then 87 else if x = 318 then 86 else if x = 317 then 84 else if x = 286 then 78 else if x = 285 then 77 else if x = 284 then 76 else if x = 283 then 75 else if x = 276 then 51 else if x = 246 then 64 else if x = 243 then 57 else if x = 240 then 37 else if x = 171 then 50 else if x = 170 then 17 else if x = 169 then 18 else if x = 167 then 16 else if x = 166 then 15 else if x = 129 then 85 else x, fun x => if x = 233 then 151 else if x = 232 then 150 else if x = 213 then 142 else if x = 212 then 141 else if x = 173 then 125 else if x = 171 then 121 else if x = 164 then 102 else if x = 127 then 90 else if x = 80 then 56 else if x = 75 then 51 else if x = 72 then 49 else if x = 70 then 46 else if x = 53 then 122 else if x = 51 then 131 else if x = 46 then 114 else if x = 37 then 47 else if x = 20 then 20 else if x = 9 then 9 else if x = 5 then 5 else if x = 4 then 4 else if x = 3 then 3 else if x = 2 then 2 else if x = 0 then 0 else x, fun x => if x = 19 then 7 else if x = 18 then 6 else if x = 17 then 5 else x⟩
theorem z50 : Lays.n166 Tryd.prog renB where
 mixed := by kernel_rfl
 f166 := by kernel_rfl
 f240 := by kernel_rfl
 f276 := by kernel_rfl
 t0 := Tryd.underlying0
 a0 := Tryd.isAgg0
 z0 := Tryd.sizeOf0
 v0 := Tryd.zeroValue0
 t3 := Tryd.underlying3
 a3 := Tryd.isAgg3
 z3 := Tryd.sizeOf3
 v3 := Tryd.zeroValue3
 t4 := Tryd.underlying4
 a4 := Tryd.isAgg4
 z4 := Tryd.sizeOf4
 v4 := Tryd.zeroValue4
 t9 := Tryd.underlying9
 a9 := Tryd.isAgg9
 z9 := Tryd.sizeOf9
 v9 := Tryd.zeroValue9
 t20 := Tryd.underlying20
 a20 := Tryd.isAgg20
 z20 := Tryd.sizeOf20
 v20 := Tryd.zeroValue20
 t37 := Tryd.underlying47
 a37 := Tryd.isAgg47
 z37 := Tryd.sizeOf47
 v37 := Tryd.zeroValue47
 t70 := Tryd.underlying46
 a70 := Tryd.isAgg46
 z70 := Tryd.sizeOf46
 v70 := Tryd.zeroValue46
 t72 := Tryd.underlying49
 a72 := Tryd.isAgg49
 z72 := Tryd.sizeOf49
 v72 := Tryd.zeroValue49
 t75 := Tryd.underlying51
 a75 := Tryd.isAgg51
 z75 := Tryd.sizeOf51
 v75 := Tryd.zeroValue51
 t164 := Tryd.underlying102
 a164 := Tryd.isAgg102
 z164 := Tryd.sizeOf102
 v164 := Tryd.zeroValue102
theorem z7w : Lays.n167 Tryd.prog renB where
 mixed := by kernel_rfl
 f167 := by kernel_rfl
 f240 := by kernel_rfl
 f276 := by kernel_rfl
 t0 := Tryd.underlying0
 a0 := Tryd.isAgg0
 z0 := Tryd.sizeOf0
 v0 := Tryd.zeroValue0
 t4 := Tryd.underlying4
 a4 := Tryd.isAgg4
 z4 := Tryd.sizeOf4
 v4 := Tryd.zeroValue4
 t5 := Tryd.underlying5
 a5 := Tryd.isAgg5
 z5 := Tryd.sizeOf5
 v5 := Tryd.zeroValue5
 t9 := Tryd.underlying9
 a9 := Tryd.isAgg9
 z9 := Tryd.sizeOf9
 v9 := Tryd.zeroValue9
 t20 := Tryd.underlying20
 a20 := Tryd.isAgg20
 z20 := Tryd.sizeOf20
 v20 := Tryd.zeroValue20
 t37 := Tryd.underlying47
 a37 := Tryd.isAgg47
 z37 := Tryd.sizeOf47
 v37 := Tryd.zeroValue47
 t70 := Tryd.underlying46
 a70 := Tryd.isAgg46
 z70 := Tryd.sizeOf46
 v70 := Tryd.zeroValue46
 t72 := Tryd.underlying49
 a72 := Tryd.isAgg49
 z72 := Tryd.sizeOf49
 v72 := Tryd.zeroValue49
 t75 := Tryd.underlying51
 a75 := Tryd.isAgg51
 z75 := Tryd.sizeOf51
 v75 := Tryd.zeroValue51
 t164 := Tryd.underlying102
 a164 := Tryd.isAgg102
 z164 := Tryd.sizeOf102
 v164 := Tryd.zeroValue102
theorem z5z : Lays.n169 Tryd.prog renB where
 mixed := by kernel_rfl
 f169 := by kernel_rfl
 t0 := Tryd.underlying0
 a0 := Tryd.isAgg0
 z0 := Tryd.sizeOf0
 v0 := Tryd.zeroValue0
 t3 := Tryd.underlying3
 a3 := Tryd.isAgg3
 z3 := Tryd.sizeOf3
 v3 := Tryd.zeroValue3
 t9 := Tryd.underlying9
 a9 := Tryd.isAgg9
 z9 := Tryd.sizeOf9
 v9 := Tryd.zeroValue9
 t37 := Tryd.underlying47
 a37 := Tryd.isAgg47
 z37 := Tryd.sizeOf47
 v37 := Tryd.zeroValue47
 t70 := Tryd.underlying46
 a70 := Tryd.isAgg46
 z70 := Tryd.sizeOf46
 v70 := Tryd.zeroValue46
 t72 := Tryd.underlying49
 a72 := Tryd.isAgg49
 z72 := Tryd.sizeOf49
 v72 := Tryd.zeroValue49
 t127 := Tryd.underlying90
 a127 := Tryd.isAgg90
 z127 := Tryd.sizeOf90
 v127 := Tryd.zeroValue90
theorem zad : Lays.n170 Tryd.prog renB where
 mixed := by kernel_rfl
 f170 := by kernel_rfl
 t0 := Tryd.underlying0
 a0 := Tryd.isAgg0
 z0 := Tryd.sizeOf0
 v0 := Tryd.zeroValue0
 t3 := Tryd.underlying3
 a3 := Tryd.isAgg3
 z3 := Tryd.sizeOf3
 v3 := Tryd.zeroValue3
 t37 := Tryd.underlying47
 a37 := Tryd.isAgg47
 z37 := Tryd.sizeOf47
 v37 := Tryd.zeroValue47
 t70 := Tryd.underlying46
 a70 := Tryd.isAgg46
 z70 := Tryd.sizeOf46
 v70 := Tryd.zeroValue46
 t72 := Tryd.underlying49
 a72 := Tryd.isAgg49
 z72 := Tryd.sizeOf49
 v72 := Tryd.zeroValue49
theorem zae : Lays.n171 Tryd.prog renB where
 mixed := by kernel_rfl
 f129 := by kernel_rfl
 f171 := by kernel_rfl
 f243 := by kernel_rfl
 f246 := by kernel_rfl
 f283 := by kernel_rfl
 f284 := by kernel_rfl
 f285 := by kernel_rfl
 f286 := by kernel_rfl
 f317 := by kernel_rfl
 f318 := by kernel_rfl
 f319 := by kernel_rfl
 f320 := by kernel_rfl
 f337 := by kernel_rfl
 f338 := by kernel_rfl
 t0 := Tryd.underlying0
 a0 := Tryd.isAgg0
 z0 := Tryd.sizeOf0
 v0 := Tryd.zeroValue0
 t2 := Tryd.underlying2
 a2 := Tryd.isAgg2
 z2 := Tryd.sizeOf2
 v2 := Tryd.zeroValue2
 t3 := Tryd.underlying3
 a3 := Tryd.isAgg3
 z3 := Tryd.sizeOf3
 v3 := Tryd.zeroValue3
 t4 := Tryd.underlying4
 a4 := Tryd.isAgg4
 z4 := Tryd.sizeOf4
 v4 := Tryd.zeroValue4
 t5 := Tryd.underlying5
 a5 := Tryd.isAgg5
 z5 := Tryd.sizeOf5
 v5 := Tryd.zeroValue5
 t9 := Tryd.underlying9
 a9 := Tryd.isAgg9
 z9 := Tryd.sizeOf9
 v9 := Tryd.zeroValue9
 t20 := Tryd.underlying20
 a20 := Tryd.isAgg20
 z20 := Tryd.sizeOf20
 v20 := Tryd.zeroValue20
 t37 := Tryd.underlying47
 a37 := Tryd.isAgg47
 z37 := Tryd.sizeOf47
 v37 := Tryd.zeroValue47
 t46 := Tryd.underlying114
 a46 := Tryd.isAgg114
 z46 := Tryd.sizeOf114
 v46 := Tryd.zeroValue114
 t51 := Tryd.underlying131
 a51 := Tryd.isAgg131
 z51 := Tryd.sizeOf131
 v51 := Tryd.zeroValue131
 t53 := Tryd.underlying122
 a53 := Tryd.isAgg122
 z53 := Tryd.sizeOf122
 v53 := Tryd.zeroValue122
 t171 := Tryd.underlying121
 a171 := Tryd.isAgg121
 z171 := Tryd.sizeOf121
 v171 := Tryd.zeroValue121
 t173 := Tryd.underlying125
 a173 := Tryd.isAgg125
 z173 := Tryd.sizeOf125
 v173 := Tryd.zeroValue125
 t212 := Tryd.underlying141
 a212 := Tryd.isAgg141
 z212 := Tryd.sizeOf141
 v212 := Tryd.zeroValue141
 t213 := Tryd.underlying142
 a213 := Tryd.isAgg142
 z213 := Tryd.sizeOf142
 t232 := Tryd.underlying150
 a232 := Tryd.isAgg150
 z232 := Tryd.sizeOf150
 v232 := Tryd.zeroValue150
 t233 := Tryd.underlying151
 a233 := Tryd.isAgg151
 z233 := Tryd.sizeOf151
 v233 := Tryd.zeroValue151
 g17 := by kernel_rfl
 g18 := by kernel_rfl
 g19 := by kernel_rfl
theorem z9k : LaysM.n171 Tryd.prog renB where
 ton171 := zae
 i0 := by kernel_rfl
 i2 := by kernel_rfl
 i3 := by kernel_rfl
 i4 := by kernel_rfl
 i5 := by kernel_rfl
 i9 := by kernel_rfl
 i20 := by kernel_rfl
 i37 := by kernel_rfl
 i46 := by kernel_rfl
 i51 := by kernel_rfl
 i53 := by kernel_rfl
 i171 := by kernel_rfl
 i173 := by kernel_rfl
 i212 := by kernel_rfl
 i232 := by kernel_rfl
 i233 := by kernel_rfl
 m17 := by kernel_rfl
 m18 := by kernel_rfl
 m19 := by kernel_rfl
theorem xB72 : Builder.X72 Tryd.prog renB where
 sizeBuilder := by kernel_rfl
 liesBuilder := by kernel_rfl
theorem xB : Builder.Extra Tryd.prog renB where
 toX72 := xB72
 t5 := Tryd.underlying5
 a5 := Tryd.isAgg5
 z5 := Tryd.sizeOf5
 v5 := Tryd.zeroValue5
 infoByte := by kernel_rfl
 cellsByte := by kernel_rfl
 sizeByte := by kernel_rfl
 neB5 := by decide
end Go.Am.Tryd
/- A line of words and numbers, and what the program's own function makes of it. -/
namespace Go.Am.Tryd
open Go Go.Am Go.Proofs Go.RowKit
abbrev Wd := zAd ⊕ Int
def encA : Wd -> Value
 | .inl s => .iface 9 (.string s)
 | .inr n => .iface 3 (.int .i64 n)
def wU : Wd -> List UInt8
 | .inl s => s.data.toList
 | .inr n => Lib.itoa n
def okW : Wd -> Prop
 | .inl s => s.size <= 1048576
 | .inr n => -9223372036854775808 <= n /\ n <= 9223372036854775807
def z8k : List Wd -> List UInt8
 | [] => []
 | x :: r => wU x ++ (r.map fun y => 32 :: wU y).flatten
theorem z60 (l : List Wd) (x : Wd) : z8k (l ++ [x]) = (if 0 < l.length then z8k l ++ [32] else z8k l) ++ wU x := by
 cases l with
 | nil => simp [z8k]
 | cons y r => simp [z8k]
theorem z9l (n : Int) (h : -9223372036854775808 <= n /\ n <= 9223372036854775807) : (Lib.itoa n).length <= 1048576 := by
 have hd : ∀ u : Nat, u < 18446744073709551616 -> (Lib.decDigits u).length <= 21 := fun u hu => by
  rw [Lib.decDigits_length]
  have := Lib.nDigits_le20 u hu; omega
 rcases Int.lt_or_le n 0 with h0 | h0
 ·obtain ⟨u, rfl⟩ : ∃ u : Nat, n = -(u : Int) := ⟨n.natAbs, by omega⟩
  rw [Lib.itoa_neg u (by omega), List.length_cons]
  have := hd u (by omega); omega
 ·obtain ⟨u, rfl⟩ : ∃ u : Nat, n = (u : Int) := ⟨n.toNat, by omega⟩
  rw [Lib.itoa_nonneg]
  have := hd u (by omega); omega
theorem zj2 (x : Wd) (h : okW x) : (wU x).length <= 1048576 := by
 cases x with
 | inl s => simpa [wU, okW] using h
 | inr n => exact z9l n h
theorem z9m : ∀ (n : Nat) (ws : List Wd), ws.length = n -> (∀ x ∈ ws, okW x) -> (z8k ws).length <= n * 1048577
 | 0, ws, hn, _ => by rw [List.length_eq_zero_iff.1 hn]; simp [z8k]
 | n + 1, ws, hn, h => by
  have hne : ws ≠ [] := by intro e; rw [e] at hn; simp at hn
  obtain ⟨l, x, rfl⟩ : ∃ l x, ws = l ++ [x] := ⟨ws.dropLast, ws.getLast hne, (List.dropLast_concat_getLast hne).symm⟩
  have h1 := z9m n l (by simpa using hn) fun y hy => h y (by simp [hy])
  have h2 := zj2 x (h x (by simp))
  rw [z60]
  split <;> simp <;> omega
theorem bWB (b : Nat) (bs : List Value) (c : Int) (w : World) (h : Lib.IsBuilderF 49 5 b b bs w) (hlen : bs.length + 1 <= 140737488355328) (hB : b <= w.heap.size) :
  Calls Tryd.prog 16 #[.pointer (some ⟨b, 0, none⟩), .int .u8 c] w fun e w' => e = .returned .nilIface /\ Lib.IsBuilderF 49 5 b b (bs ++ [.int .u8 c]) w' /\ Below b w w' /\ Lib.OthersKept 5 (some b) w w' :=
 (Any.Builder_WriteByte_k z7w xB b b bs c w h hlen hB).mono fun e w' h => ⟨h.1, .inr h.2.1, h.2.2⟩
theorem bWS (b : Nat) (bs : List Value) (s : zAd) (w : World) (h : Lib.IsBuilderF 49 5 b b bs w) (hlen : bs.length + s.size <= 140737488355328) (hB : b <= w.heap.size) :
  Calls Tryd.prog 15 #[.pointer (some ⟨b, 0, none⟩), .string s] w fun e w' => e = .returned (.tuple #[.int .i64 s.size, .nilIface]) /\ Lib.IsBuilderF 49 5 b b (bs ++ Lib.strCells s) w' /\ Below b w w' /\ Lib.OthersKept 5 (some b) w w' :=
 (Any.Builder_WriteString_k z50 xB b b bs s w h hlen hB).mono fun e w' h => ⟨h.1, .inr h.2.1, h.2.2⟩
theorem bST (b : Nat) (l : List UInt8) (w : World) (h : Lib.IsBuilderF 49 5 b b (Lib.byteCells l) w) (hB : b <= w.heap.size) :
  Calls Tryd.prog 18 #[.pointer (some ⟨b, 0, none⟩)] w fun e w' => e = .returned (.string ⟨l.toArray⟩) /\ Below b w w' :=
 (Any.Builder_String_any_k z5z xB b b l w h hB).mono fun e w' h => ⟨h.1, h.2.2.1⟩
theorem bLE (b : Nat) (bs : List Value) (w : World) (h : Lib.IsBuilderF 49 5 b b bs w) :
  Calls Tryd.prog 17 #[.pointer (some ⟨b, 0, none⟩)] w fun e w' => e = .returned (.int .i64 bs.length) /\ w' = w :=
 (Any.Builder_Len_f zad b b bs w h)
theorem bIT (n : Int) (h : -9223372036854775808 <= n /\ n <= 9223372036854775807) (w : World) (htab : Lib.TabIs Tryd.prog w "internal/strconv.uint64pow10" .u64 Lib.pow10Tab) :
  Calls Tryd.prog 50 #[.int .i64 n] w fun e w' => e = .returned (.string ⟨(Lib.itoa n).toArray⟩) /\ Below w.heap.size w w' :=
 (Any.strconv_Itoa z9k n h.1 h.2 w htab).mono fun e w' h => ⟨h.1, by obtain ⟨k, os, rfl⟩ := h.2; exact Lib.below_grow _ _ (Nat.le_refl _) _ _⟩
theorem zds {T e : TypeId} {B b : Nat} {p : Value} {bs : List Value} {w w' : World} (h : Lib.BuilderAtF T e B b p bs w) (hs : Below w.heap.size w w') : Lib.BuilderAtF T e B b p bs w' := by
 obtain ⟨hB, v, hb, hown, hne⟩ := h
 have hl : ∀ k x, w.heap[k]? = some x -> w'.heap[k]? = some x := fun k x hk => by rw [hs.block k (Array.getElem?_eq_some_iff.1 hk).1]; exact hk
 refine ⟨hB, v, hl _ _ hb, ⟨hown.1, ?_⟩, hne⟩
 rcases hown.2 with hn | ⟨g, cap, cur, fz, hv, hbg, hg, rest⟩
 ·exact .inl hn
 ·exact .inr ⟨g, cap, cur, fz, hv, hbg, hl _ _ hg, rest⟩
theorem zdt {T e : TypeId} {B b : Nat} {bs : List Value} {w w' : World} (h : Lib.IsBuilderF T e B b bs w) (hs : Below w.heap.size w w') : Lib.IsBuilderF T e B b bs w' :=
 h.elim (fun x => .inl (zds x hs)) fun x => .inr (zds x hs)
theorem zdu {P : Program} {w w' : World} {name : String} {k : IntKind} {zs : List Int} (h : Lib.TabIs P w name k zs) (hs : Below w.heap.size w w') : Lib.TabIs P w' name k zs := by
 unfold Lib.TabIs World.var? at *
 cases hg : P.globalNamed name with
 | none => simp [hg] at h
 | some g =>
  simp only [hg, Option.bind_some] at h ⊢
  have hlt : g < w.heap.size := by
   rcases Nat.lt_or_ge g w.heap.size with h' | h'
   ·exact h'
   ·rw [Array.getElem?_eq_none h'] at h; simp at h
  rw [hs.block g hlt]
  exact h
theorem asSS (v : Value) (w : World) : (Instr.typeAssert (.iface 9 v) 20 9 true).run Tryd.prog w = .ok (.tuple #[v, .bool true]) w := by kernel_rfl
theorem asIS (v : Value) (w : World) : (Instr.typeAssert (.iface 3 v) 20 9 true).run Tryd.prog w = .ok (.tuple #[.string ByteArray.empty, .bool false]) w := by kernel_rfl
theorem asII (v : Value) (w : World) : (Instr.typeAssert (.iface 3 v) 20 3 true).run Tryd.prog w = .ok (.tuple #[v, .bool true]) w := by kernel_rfl
set_option maxRecDepth 1000000 in
theorem zfr (ws : List Wd) (hn : ws.length <= 1000) (hs : ∀ x ∈ ws, okW x) (b o c : Nat) (w : World) (hcell : ∀ j x, ws[j]? = some x -> w.cell? ⟨b, o + j, none⟩ = some (encA x))
  (htab : Lib.TabIs Tryd.prog w "internal/strconv.uint64pow10" .u64 Lib.pow10Tab) :
  Calls Tryd.prog 36 #[.slice (some ⟨b, o, none⟩) ws.length c] w fun e w' => e = .returned (.string ⟨(z8k ws).toArray⟩) /\ Below w.heap.size w w' := by
 have aSS := asSS; have aIS := asIS; have aII := asII
 go_enter Tryd.func36, Tryd.ntmps36
 go_wp2
 go_loopw [10] (fun i wr => ∃ k : Nat, k <= ws.length /\ i = .int .i64 k /\ Lib.IsBuilderF 49 5 w.heap.size w.heap.size (Lib.byteCells (z8k (ws.take k))) wr /\ Below w.heap.size w wr) (fun i _ => ws.length - (intOf i).toNat)
 case atStart =>
  exact ⟨0, Nat.zero_le _, rfl, Lib.IsBuilderF.of (Lib.fresh_isBuilder 49 5 w), (Below.refl _ w).alloc (Nat.le_refl _) _⟩
 case round =>
  obtain ⟨k, hk, rfl, hI, hb⟩ := hrel
  have hsz := hb.size
  have hll : (z8k (ws.take k)).length <= k * 1048577 := z9m k _ (by simp; omega) fun x hx => hs x (List.mem_of_mem_take hx)
  by_cases hlt : k < ws.length
  ·obtain ⟨x, hx⟩ : ∃ x, ws[k]? = some x := ⟨_, zAh hlt⟩
   have hxo := hs x (List.mem_of_getElem? hx)
   have hc := hcell k x hx
   have htk : ws.take (k + 1) = ws.take k ++ [x] := by rw [List.take_add_one, hx]; rfl
   have hlw : (ws.take k).length = k := by simp; omega
   have hbl : b < w.heap.size := by
    unfold World.cell? at hc
    rcases Nat.lt_or_ge b w.heap.size with h | h
    ·exact h
    ·rw [Array.getElem?_eq_none h] at hc; cases hc
   have hc2 : wr.cell? ⟨b, o + k, none⟩ = some (encA x) := by rw [<- hc]; unfold World.cell?; rw [hb.block b hbl]
   by_cases hk0 : 0 < k
   ·cases x with
    | inl s =>
     simp only [encA] at hc2
     go_wp2_with (go_at_call 16; refine (bWB w.heap.size _ 32 _ hI (by rw [Lib.byteCells_length]; omega) hsz).mono ?_)
     rintro e W1 ⟨rfl, h1, b1, -⟩
     have hb1 := hb.trans b1
     go_wp2_with (go_at_call 15; refine (bWS w.heap.size _ s _ h1 (by rw [List.length_append, Lib.byteCells_length]; simp only [List.length_cons, List.length_nil]; simp [okW] at hxo; omega) (by have := hb1.size; omega)).mono ?_)
     rintro e W2 ⟨rfl, h2, b2, -⟩
     go_wp2
     go_roundw
     case rel =>
      refine ⟨k + 1, by omega, by go_num, ?_, hb1.trans b2⟩
      rw [htk, z60, hlw]
      simpa [hk0, wU, Lib.byteCells_append, Lib.strCells, Lib.byteCells] using h2
     case measure => simp [intOf]; omega
    | inr n =>
     simp only [encA] at hc2
     go_wp2_with (go_at_call 16; refine (bWB w.heap.size _ 32 _ hI (by rw [Lib.byteCells_length]; omega) hsz).mono ?_)
     rintro e W1 ⟨rfl, h1, b1, -⟩
     have hb1 := hb.trans b1
     go_wp2_with (go_at_call 50; refine (bIT n hxo _ (zdu htab hb1)).mono ?_)
     rintro e W3 ⟨rfl, b3⟩
     have hil := z9l n hxo
     have szI : (⟨(Lib.itoa n).toArray⟩ : zAd).size = (Lib.itoa n).length := rfl
     have hb3 := hb1.trans (b3.mono hb1.size)
     go_wp2_with (go_at_call 15; refine (bWS w.heap.size _ ⟨(Lib.itoa n).toArray⟩ _ (zdt h1 b3) (by rw [List.length_append, Lib.byteCells_length]; simp only [List.length_cons, List.length_nil]; rw [szI]; omega) hb3.size).mono ?_)
     rintro e W2 ⟨rfl, h2, b2, -⟩
     go_wp2
     go_roundw
     case rel =>
      refine ⟨k + 1, by omega, by go_num, ?_, hb3.trans b2⟩
      rw [htk, z60, hlw]
      simpa [hk0, wU, Lib.byteCells_append, Lib.strCells, Lib.byteCells] using h2
     case measure => simp [intOf]; omega
   ·cases x with
    | inl s =>
     simp only [encA] at hc2
     go_wp2_with (go_at_call 15; refine (bWS w.heap.size _ s _ hI (by rw [Lib.byteCells_length]; simp [okW] at hxo; omega) (by have := hb.size; omega)).mono ?_)
     rintro e W2 ⟨rfl, h2, b2, -⟩
     go_wp2
     go_roundw
     case rel =>
      refine ⟨k + 1, by omega, by go_num, ?_, hb.trans b2⟩
      rw [htk, z60, hlw]
      simpa [hk0, wU, Lib.byteCells_append, Lib.strCells, Lib.byteCells] using h2
     case measure => simp [intOf]; omega
    | inr n =>
     simp only [encA] at hc2
     go_wp2_with (go_at_call 50; refine (bIT n hxo _ (zdu htab hb)).mono ?_)
     rintro e W3 ⟨rfl, b3⟩
     have hil := z9l n hxo
     have szI : (⟨(Lib.itoa n).toArray⟩ : zAd).size = (Lib.itoa n).length := rfl
     have hb3 := hb.trans (b3.mono hb.size)
     go_wp2_with (go_at_call 15; refine (bWS w.heap.size _ ⟨(Lib.itoa n).toArray⟩ _ (zdt hI b3) (by rw [Lib.byteCells_length]; rw [szI]; omega) hb3.size).mono ?_)
     rintro e W2 ⟨rfl, h2, b2, -⟩
     go_wp2
     go_roundw
     case rel =>
      refine ⟨k + 1, by omega, by go_num, ?_, hb3.trans b2⟩
      rw [htk, z60, hlw]
      simpa [hk0, wU, Lib.byteCells_append, Lib.strCells, Lib.byteCells] using h2
     case measure => simp [intOf]; omega
  ·obtain rfl : k = ws.length := by omega
   go_wp2_with (go_at_call 18; refine (bST w.heap.size _ _ hI hsz).mono ?_)
   rintro e W1 ⟨rfl, b1⟩
   go_wp2
   go_ret
   exact ⟨rfl, hb.trans b1⟩
end Go.Am.Tryd
/- A line of words and numbers: the function's contract over abstract heaps, and as a typed function. -/
namespace Go.Am.Tryd
open Go Go.Am Go.Proofs Go.RowKit
theorem z87 {n : Nat} {ι : Go.Am.Ren} {G : Nat -> Option ABlk} {w w' : World} (hS : Sim n ι G w) (hb : Below w.heap.size w w') : Sim n ι G w' /\ Evo n ι G w ι G w' := by
 refine ⟨⟨⟨fun b x cb co ex hG hι => ?_, hS.inj, hS.dom⟩, hS.tab.same fun cb h => hb.block cb h⟩, fun _ _ h => h, fun _ _ => rfl, fun _ h => .inl h, fun _ h => .inl h, fun cb h _ => hb.block cb h, hb.size, hb.os, hb.tape, hb.output⟩
 obtain ⟨⟨arr, el, fr, h1, h2, h3⟩⟩ := hS.blk b x cb co ex hG hι
 exact ⟨⟨arr, el, fr, by rw [hb.block cb (Array.getElem?_eq_some_iff.1 h1).1]; exact h1, h2, h3⟩⟩
theorem zi7 {n : Nat} {ι : Go.Am.Ren} {G : Nat -> Option ABlk} {w : World} (hS : Sim n ι G w) : Lib.TabIs Tryd.prog w "internal/strconv.uint64pow10" .u64 Lib.pow10Tab := by
 obtain ⟨⟨o, h1, arr, t, fr, rfl, rfl⟩, _⟩ := hS.tab 5 (by simp [TBs])
 have hg : Tryd.prog.globalNamed "internal/strconv.uint64pow10" = some 5 := by kernel_rfl
 unfold Lib.TabIs World.var?
 rw [hg]
 simp only [Option.bind_some, h1, Lib.pow10Tab, List.map_map]
 rfl
theorem zi8 {ι : Go.Am.Ren} {x : Wd} {v : Value} (h : VR ι (encA x) v) : v = encA x := by
 cases x with
 | inl s => cases h with
  | scal h => simp [encA, z1m] at h
  | ifc h => rw [h.scalar_eq rfl]; rfl
 | inr n => cases h with
  | scal h => simp [encA, z1m] at h
  | ifc h => rw [h.scalar_eq rfl]; rfl
theorem zaf {ws : List Wd} (h0 : ws ≠ []) (hn : ws.length <= 1000) (hs : ∀ x ∈ ws, okW x) {b off : Nat} {tg : Option Nat} {cap : Nat} {H : AH} {k : ABlk} (hk : H.get b = some k) (hc : ∀ j x, ws[j]? = some x -> k.cells[off + j]? = some (encA x)) :
  ACalls Tryd.prog 36 [.slice (some ⟨b, off, tg⟩) ws.length cap] H (.string ⟨(z8k ws).toArray⟩) H := by
 refine ⟨Nx.refl _, fun ι w cargs hS hargs => ?_⟩
 obtain ⟨cb, co, ex, c, hι, hca⟩ : ∃ cb co ex c, ι b = some (cb, co, ex) /\ cargs = #[.slice (some ⟨cb, co + off, none⟩) ws.length c] := by
  have hl0 : ws.length ≠ 0 := fun h => h0 (List.length_eq_zero_iff.1 h)
  obtain ⟨l⟩ := cargs
  cases hargs with
  | cons h1 h2 =>
   cases h2
   generalize hw : ws.length = m at h1 hl0
   cases h1 with
   | scal h => simp [z1m] at h
   | sl h => exact ⟨_, _, _, _, h, rfl⟩
   | slT h => exact ⟨_, _, _, _, h, rfl⟩
   | sl0 h _ => exact absurd rfl hl0
 subst hca
 obtain ⟨⟨arr, el, fr, h1, h2, h3⟩⟩ := hS.blk b k cb co ex hk hι
 refine (zfr ws hn hs cb (co + off) c w (fun j x hx => ?_) (zi7 hS)).mono ?_
 ·obtain ⟨v', h4, h5⟩ := h2 _ _ (hc j x hx)
  rw [zi8 h5] at h4
  simp only [World.cell?, h1]
  rw [<- h4, Nat.add_assoc]; rfl
 ·rintro e w' ⟨rfl, hb⟩
  obtain ⟨h4, h5⟩ := z87 hS hb
  exact ⟨ι, _, rfl, .scal rfl, h4, h5⟩
noncomputable section
def rW : RT Wd := ⟨1, fun _ cs x => cs = [encA x], fun h => by rw [h]; rfl, fun {_ _ x} h => by rw [h]; cases x <;> rfl, fun _ h => h⟩
end
def okWb : Wd -> Bool
 | .inl s => decide (s.size <= 1048576)
 | .inr n => decide (-9223372036854775808 <= n /\ n <= 9223372036854775807)
theorem zdv {x : Wd} (h : okWb x = true) : okW x := by cases x <;> simpa [okWb, okW] using h
def zjk (P : Program) (t : TypeId) : Bool := match P.underlying t with | some (.interface _) => false | some _ => true | none => false
theorem z6i {P : Program} {s : List Value} {d t ty : Nat} {pos : String} {af : Array Edge} {g : Option (Nat × Bool)} {x : Operand} {v : Value} (hu : zjk P t = true) (hx : opnd s x = some v) :
  z2y P s ⟨some d, .makeInterface t x, ty, pos, af, g⟩ = some (.iface t v) := by
 unfold zjk at hu
 simp only [z2y, hx, Option.bind_some, z95]
 split at hu
 ·cases hu
 ·rename_i u h1 h2
  rw [h2]
  split
  ·rename_i h3; exact (h1 _ (zAa h3)).elim
  ·rfl
  ·rename_i h3; cases h3
 ·cases hu
def z0y (K : Nat) (p0 : List Wd) : Option zAd := if p0 ≠ [] /\ p0.length <= 1000 /\ p0.all okWb = true then some ⟨(z8k p0).toArray⟩ else none
theorem z2h (K : Nat) {G : GM} {H : AH} {L : List Pc} (v0 : Value) (p0 : List Wd) (hp0 : (rSl rW).rep G [v0] p0) (O : Ow G H (L)) (r : zAd) (h : z0y K p0 = some r) :
  CR Tryd.prog 36 [v0] G H (L) (fun v G' _ => v = .string r) := by
 unfold z0y at h
 obtain ⟨⟨h0, h1, h2⟩, h⟩ := z2a h
 cases h
 obtain ⟨v, es, hv, hsl, hall⟩ := hp0
 cases hv
 have hes : es = p0.map fun x => [encA x] := by
  clear hsl h0 h1 h2 h
  induction hall with
  | nil => rfl
  | cons h _ ih => rw [h, ih]; rfl
 obtain ⟨h3, ⟨_, h4⟩ | ⟨b, off, tg, cap, k, rfl, h5, h6, h7, _⟩ | ⟨_, _, _, _, hv4, h4, _⟩⟩ := hsl
 ·subst h4; simp at hes; exact absurd hes h0
 ·have hel : es.length = p0.length := by rw [hes]; simp
  have hfl : es.flatten = p0.map encA := by rw [hes]; clear hall h0 h1 h2 h hes hel; induction p0 with
   | nil => rfl
   | cons x l ih => simp [ih]
  rw [hel]
  refine ⟨_, H, G, zaf h0 h1 (fun x hx => zdv (List.all_eq_true.1 h2 x hx)) (O.fro b k h5) (fun j x hx => ?_), O, zAf _, rfl⟩
  have hj : j < p0.length := (zAi hx).1
  have h7 : (k.cells.drop off).take (es.length * 1) = es.flatten := h7
  have e1 : ((k.cells.drop off).take (es.length * 1))[j]? = some (encA x) := by
   rw [h7, hfl, List.getElem?_map, hx]; rfl
  rw [List.getElem?_take, if_pos (by omega), List.getElem?_drop] at e1
  exact e1
 ·rw [h4] at hes; cases p0 with
  | nil => exact absurd rfl h0
  | cons x l => cases hes
theorem ze20 : (Tryd.prog.info? 20).bind (·.zero) = some .nilIface := by kernel_rfl
theorem sz20 : szT Tryd.prog 20 = some 1 := by kernel_rfl
end Go.Am.Tryd
/- The printed text of a network: what the program's own function does, over any world in which its callees come to an end. -/
namespace Go.Am.Tryd
open Go Go.Am Go.Proofs Go.RowKit
def Bd (M b : Nat) (l : List Value) (w : World) : Prop :=
 ∃ p v, (p = .pointer none \/ p = .pointer (some ⟨b, 0, none⟩)) /\ w.heap[b]? = some (.cells #[p, v] 49 (0, 0)) /\ w.ownsRowF M 5 1 v l.length l /\ (l = [] -> v = .slice none 0 0)
structure Kp (M b : Nat) (w w' : World) : Prop where
 os : w'.os = w.os
 tape : w'.tape = w.tape
 output : w'.output = w.output
 size : w.heap.size <= w'.heap.size
 block : ∀ k, k < M -> k ≠ b -> w'.heap[k]? = w.heap[k]?
theorem Kp.refl (M b : Nat) (w : World) : Kp M b w w := ⟨rfl, rfl, rfl, Nat.le_refl _, fun _ _ _ => rfl⟩
theorem Kp.trans {M b : Nat} {w w1 w2 : World} (h : Kp M b w w1) (k : Kp M b w1 w2) : Kp M b w w2 :=
 ⟨k.os.trans h.os, k.tape.trans h.tape, k.output.trans h.output, Nat.le_trans h.size k.size, fun i h1 h2 => (k.block i h1 h2).trans (h.block i h1 h2)⟩
theorem zh2 (M b i : Nat) (w : World) (v : Value) : Kp M b w (w.setCell ⟨b, i, none⟩ v) := ⟨rfl, rfl, rfl, by simp [World.setCell], fun k _ hk => Below.heap_setCell _ _ _ _ (fun e => hk (by simp [e]))⟩
theorem bPC (M b : Nat) (l : List Value) (w : World) (h : Bd M b l w) :
  Calls Tryd.prog 37 #[.pointer (some ⟨b, 0, none⟩)] w fun e w' => e = .returned (.tuple #[]) /\ (∃ v, w'.heap[b]? = some (.cells #[.pointer (some ⟨b, 0, none⟩), v] 49 (0, 0)) /\ w'.ownsRowF M 5 1 v l.length l /\ (l = [] -> v = .slice none 0 0)) /\ Kp M b w w' := by
 obtain ⟨p, v, hp, hb, ho, hz⟩ := h
 have hne := Lib.ownBlock_neF ho hb (by decide : (49 : Nat) ≠ 5)
 rcases hp with rfl | rfl
 ·refine (Any.Builder_copyCheck_fresh { z50 with } xB72 b w (by simp [World.cell?, hb]) (by simp [World.shape?, hb]; rfl) (by simp [World.frozen?, hb])).mono ?_
  rintro e w' ⟨rfl, rfl⟩
  refine ⟨rfl, ⟨v, by simp [World.setCell, Array.getElem?_modify, hb], ho.kept (row := some b) ⟨rfl, rfl, rfl, by simp [World.setCell], fun k _ hk => Below.heap_setCell _ _ _ _ (fun e => hk (by simp [e]))⟩ (Or.inr hne), hz⟩, zh2 M b 0 w _⟩
 ·refine (Any.Builder_copyCheck_used { z50 with } xB72 b w (by simp [World.cell?, hb])).mono ?_
  rintro e w' ⟨rfl, rfl⟩
  exact ⟨rfl, ⟨v, hb, ho, hz⟩, Kp.refl _ _ _⟩
theorem zi9 {M b : Nat} {v v' : Value} {l : List Value} {w : World} (hb : w.heap[b]? = some (.cells #[.pointer (some ⟨b, 0, none⟩), v] 49 (0, 0))) (ho : w.ownsRowF M 5 1 v' l.length l) (hz : l = [] -> v' = .slice none 0 0) : Bd M b l (w.setCell ⟨b, 1, none⟩ v') :=
 ⟨_, v', .inr rfl, by simp [World.setCell, Array.getElem?_modify, hb], ho.kept (row := some b) ⟨rfl, rfl, rfl, by simp [World.setCell], fun k _ hk => Below.heap_setCell _ _ _ _ (fun e => hk (by simp [e]))⟩ (Or.inr (Lib.ownBlock_neF ho hb (by decide : (49 : Nat) ≠ 5))), hz⟩
theorem zdw {M b : Nat} {v : Value} {l : List Value} {w w' : World} (ho : w.ownsRowF M 5 1 v l.length l) (hg : w.grownBy w' v.ownBlock) (hM : M <= w.heap.size) : Kp M b w w' :=
 ⟨hg.os, hg.tape, hg.output, hg.size, fun k hk _ => hg.block k (by omega) (fun e => by have := (ho.lt k e.symm).1; omega)⟩
set_option maxRecDepth 100000 in
theorem bPS (M b : Nat) (l : List Value) (s : zAd) (w : World) (h : Bd M b l w) (hlen : l.length + s.size <= 140737488355328) (hM : M <= w.heap.size) :
  Calls Tryd.prog 15 #[.pointer (some ⟨b, 0, none⟩), .string s] w fun e w' => e = .returned (.tuple #[.int .i64 s.size, .nilIface]) /\ Bd M b (l ++ Lib.strCells s) w' /\ Kp M b w w' := by
 obtain ⟨i0, hi, hz0, hz1, hz2⟩ := info_parts xB.infoByte
 have mixed := z50.mixed
 go_enter Tryd.func15, Tryd.ntmps15
 go_wp2_with (go_at_call 37; refine (bPC M b l _ h).mono ?_)
 rintro e w1 ⟨rfl, ⟨v, hbk, hown, hz⟩, hk1⟩
 have c0 : w1.cell? ⟨b, 0, none⟩ = some (.pointer (some ⟨b, 0, none⟩)) := by rw [Lib.cell_of_heap hbk]; rfl
 have c1 : w1.cell? ⟨b, 1, none⟩ = some v := by rw [Lib.cell_of_heap hbk]; rfl
 have hM1 : M <= w1.heap.size := Nat.le_trans hM hk1.size
 go_wp2_with (at_builtin; refine Lib.wpList_append_own_stringF _ rfl _ _ 47 9 rfl M 5 i0 Tryd.underlying47 Tryd.underlying9 hi hz0 hz1 hz2 _ _ _ rfl hown s rfl ?c3 ?c4 hM1 ?_)
 case c3 => unfold maxLen; omega
 case c4 => omega
 intro v' w2 hown' hgrow hnn
 have hlt : b < w1.heap.size := (Array.getElem?_eq_some_iff.1 hbk).1
 have hne := Lib.ownBlock_neF hown hbk (by decide : (49 : Nat) ≠ 5)
 have hb2 : w2.heap[b]? = some (.cells #[.pointer (some ⟨b, 0, none⟩), v] 49 (0, 0)) := by
  rw [hgrow.block b hlt (fun e => hne e.symm)]
  exact hbk
 have d0 : w2.cell? ⟨b, 0, none⟩ = some (.pointer (some ⟨b, 0, none⟩)) := by rw [Lib.cell_of_heap hb2]; rfl
 have d1 : w2.cell? ⟨b, 1, none⟩ = some v := by rw [Lib.cell_of_heap hb2]; rfl
 have f1 : w2.frozen? ⟨b, 1, none⟩ = false := Lib.frozen_of_heap hb2 1
 obtain ⟨ao, n', cap, rfl⟩ : ∃ ao n' cap, v' = .slice ao n' cap := by
  rcases hown'.2 with ⟨hv, _⟩ | ⟨g, cap, cur, fz, hv, _⟩
  ·exact ⟨_, _, _, hv⟩
  ·exact ⟨_, _, _, hv⟩
 go_wp2
 go_ret2
 exact ⟨rfl, zi9 hb2 (by simpa [Lib.strCells_length] using hown') (fun h0 => hnn.2 ⟨hz (List.append_eq_nil_iff.1 h0).1, by apply ByteArray.size_eq_zero_iff.1; rw [<- Lib.strCells_length, (List.append_eq_nil_iff.1 h0).2]; rfl⟩), (hk1.trans (zdw hown hgrow hM1)).trans (zh2 M b 1 w2 _)⟩
set_option maxRecDepth 100000 in
theorem bPB (M b : Nat) (l : List Value) (c : Int) (w : World) (h : Bd M b l w) (hlen : l.length + 1 <= 140737488355328) (hM : M <= w.heap.size) :
  Calls Tryd.prog 16 #[.pointer (some ⟨b, 0, none⟩), .int .u8 c] w fun e w' => e = .returned .nilIface /\ Bd M b (l ++ [.int .u8 c]) w' /\ Kp M b w w' := by
 obtain ⟨i0, hi, hz0, hz1, hz2⟩ := info_parts xB.infoByte
 have mixed := z7w.mixed
 go_enter Tryd.func16, Tryd.ntmps16
 go_wp2_with (go_at_call 37; refine (bPC M b l _ h).mono ?_)
 rintro e w1 ⟨rfl, ⟨v, hbk, hown, hz⟩, hk1⟩
 have c0 : w1.cell? ⟨b, 0, none⟩ = some (.pointer (some ⟨b, 0, none⟩)) := by rw [Lib.cell_of_heap hbk]; rfl
 have c1 : w1.cell? ⟨b, 1, none⟩ = some v := by rw [Lib.cell_of_heap hbk]; rfl
 have hM1 : M <= w1.heap.size := Nat.le_trans hM hk1.size
 go_wp2_with (at_builtin; refine wpList_append_ownF _ rfl _ _ 47 rfl M 5 i0 (.int .u8 0) 1 1 Tryd.underlying47 hi hz0 hz1 hz2 rfl (by decide) _ _ _ rfl (hown.alloc _) ⟨w1.heap.size, 0, none⟩ 1 1 [.int .u8 c] rfl rfl ?c1 ?c2 ?c3 ?c4 ?c5 ?_)
 case c1 =>
  intro j u hj
  match j, hj with
  | 0, hj => simp at hj; subst hj; simp [Addr.add]
 case c2 => intro u hu; simp at hu; subst hu; rfl
 case c3 => unfold maxLen; omega
 case c4 => omega
 case c5 => simp; omega
 intro v' w2 hown' hgrow _
 have hlt : b < w1.heap.size := (Array.getElem?_eq_some_iff.1 hbk).1
 have hne := Lib.ownBlock_neF hown hbk (by decide : (49 : Nat) ≠ 5)
 have hb2 : w2.heap[b]? = some (.cells #[.pointer (some ⟨b, 0, none⟩), v] 49 (0, 0)) := by
  rw [hgrow.block b (by simp; omega) (fun e => hne e.symm), Lib.alloc_old w1 _ b hlt]
  exact hbk
 have d0 : w2.cell? ⟨b, 0, none⟩ = some (.pointer (some ⟨b, 0, none⟩)) := by rw [Lib.cell_of_heap hb2]; rfl
 have d1 : w2.cell? ⟨b, 1, none⟩ = some v := by rw [Lib.cell_of_heap hb2]; rfl
 have f1 : w2.frozen? ⟨b, 1, none⟩ = false := Lib.frozen_of_heap hb2 1
 obtain ⟨g, cap, rfl⟩ : ∃ g cap, v' = .slice (some ⟨g, 0, none⟩) (l.length + 1) cap := by
  rcases hown'.2 with ⟨_, h0⟩ | ⟨g, cap, cur, fz, hv, _⟩
  ·omega
  ·exact ⟨g, cap, hv⟩
 go_wp2
 go_ret
 have hka : Kp M b w1 (w1.alloc (.cells #[.int .u8 c] 5)) := ⟨rfl, rfl, rfl, by simp, fun k hk _ => Below.heap_alloc _ _ _ (by omega)⟩
 exact ⟨rfl, zi9 hb2 (by simpa using hown') (fun h0 => absurd h0 (by simp)), ((hk1.trans hka).trans (zdw (hown.alloc _) hgrow (by simp; omega))).trans (zh2 M b 1 w2 _)⟩
theorem zdx {M b : Nat} {w w' : World} (h : Below M w w') : Kp M b w w' := ⟨h.os, h.tape, h.output, h.size, fun k hk _ => h.block k hk⟩
set_option maxRecDepth 100000 in
theorem bPT (M b : Nat) (l : List UInt8) (w : World) (h : Bd M b (Lib.byteCells l) w) :
  Calls Tryd.prog 18 #[.pointer (some ⟨b, 0, none⟩)] w fun e w' => e = .returned (.string ⟨l.toArray⟩) /\ Kp M b w w' := by
 obtain ⟨p, v, hp, hbk, hown, hz⟩ := h
 have mixed := z5z.mixed
 by_cases h0 : l = []
 ·subst h0
  obtain rfl := hz rfl
  have hUS := Any.unsafeString_none z5z xB
  have c1 : w.drew.cell? ⟨b, 1, none⟩ = some (.slice none 0 0) := by
   have : w.drew.heap[b]? = some (.cells #[p, .slice none 0 0] 49 (0, 0)) := hbk
   rw [Lib.cell_of_heap this]; rfl
  have hSD : (Builtin.unsafeSliceData_ #[47] 90 #[.slice none 0 0]).run Tryd.prog w.drew = .ok (.pointer none) w.drew := rfl
  have hUS' : (Builtin.unsafeString_ #[90, 3] 9 #[.pointer none, .int .i64 0]).run Tryd.prog w.drew = .ok (.string .empty) w.drew := hUS w.drew none
  go_enter Tryd.func18, Tryd.ntmps18
  go_wp2
  go_region
  all_goals (go_wp2; go_ret; exact ⟨rfl, zdx (Below.drew (Below.refl M w))⟩)
 ·have hl0 : l.length ≠ 0 := fun h => h0 (List.length_eq_zero_iff.1 h)
  rw [Lib.byteCells_length] at hown
  obtain ⟨g, cap, cur, fz, rfl, hbg, hg, hfz, hnc, hcm, hcs, htake⟩ : ∃ g cap cur fz, v = .slice (some ⟨g, 0, none⟩) l.length cap /\ M <= g /\ w.heap[g]? = some (.cells cur 5 fz) /\ fz.2 <= l.length * 1 /\ l.length <= cap /\ cap <= maxLen /\ cur.size = cap * 1 /\ cur.toList.take (l.length * 1) = Lib.byteCells l := by
   rcases hown.2 with ⟨_, hz⟩ | ⟨g, cap, cur, fz, hv, r⟩
   ·exact absurd hz hl0
   ·exact ⟨g, cap, cur, fz, hv, r⟩
  have c1 : w.drew.cell? ⟨b, 1, none⟩ = some (.slice (some ⟨g, 0, none⟩) l.length cap) := by
   have : w.drew.heap[b]? = some (.cells #[p, .slice (some ⟨g, 0, none⟩) l.length cap] 49 (0, 0)) := hbk
   rw [Lib.cell_of_heap this]; rfl
  have hSD : (Builtin.unsafeSliceData_ #[47] 90 #[.slice (some ⟨g, 0, none⟩) l.length cap]).run Tryd.prog w.drew = .ok (.pointer (some ⟨g, 0, none⟩)) w.drew :=
   Lib.run_unsafeSliceData_row _ _ _ _ _ _ (by omega)
  have hUS : (Builtin.unsafeString_ #[90, 3] 9 #[.pointer (some ⟨g, 0, none⟩), .int .i64 l.length]).run Tryd.prog w.drew = .ok (.string ⟨l.toArray⟩) (w.drew.freeze ⟨g, 0, none⟩ l.length) := by
   refine Lib.run_unsafeString_row w.drew 90 3 9 5 Tryd.underlying90 xB.cellsByte g cur.size (by have hg' : w.drew.heap[g]? = some (.cells cur 5 fz) := hg; simp [World.shape?, hg']) l h0 (by omega) (by unfold maxLen at hcm; omega) ?_
   intro j x hx
   have := hown.cells (g := g) rfl j (.int .u8 x.toNat) (by simp [Lib.byteCells, hx])
   exact this
  go_enter Tryd.func18, Tryd.ntmps18
  go_wp2
  go_region
  all_goals (go_wp2; go_ret; exact ⟨rfl, zdx (Lib.below_freeze (Below.drew (Below.refl M w)) (p := ⟨g, 0, none⟩) hbg _)⟩)
theorem bPL (M b : Nat) (l : List Value) (w : World) (h : Bd M b l w) (hM : b <= M) :
  Calls Tryd.prog 17 #[.pointer (some ⟨b, 0, none⟩)] w fun e w' => e = .returned (.int .i64 l.length) /\ w' = w := by
 obtain ⟨p, v, hp, hb, ho, _⟩ := h
 have hA : Lib.BuilderAtF 49 5 b b p l w := ⟨Nat.le_refl _, v, hb, ⟨ho.1, ho.2.imp id fun ⟨g, cap, cur, fz, h1, h2, h3⟩ => ⟨g, cap, cur, fz, h1, Nat.le_trans hM h2, h3⟩⟩, Lib.ownBlock_neF ho hb (by decide : (49 : Nat) ≠ 5)⟩
 refine bLE b l w ?_
 rcases hp with rfl | rfl
 ·exact .inl hA
 ·exact .inr hA
end Go.Am.Tryd
/- Short rules for printed walks. -/
namespace Go.Am
open Go
noncomputable section
section
variable {P : Program} {n : Nat} {σ : Nat -> Value} {H H1 : AH} {ops : Array Oper} {l : List Oper} {Q : (Nat -> Value) -> AH -> Prop} {d : Tmp} {dd : Option Tmp} {ty t yt e : TypeId} {pos : String} {af : Array Edge} {g : Option (Nat × Bool)} {x y c : Operand}
 {M : List Nat} {N0 m : Nat} {R : z6o} {L : z73} {A : z7n} {i : Nat} {op : Op}
theorem W.q1 (v : Value) (h : oval σ x = v) (hr : AWO P n ops l (up σ d v) H Q) (hg : gok n ops σ g true := by rfl) (hd : Nat.blt d n = true := by rfl) (hx : ook n x = true := by rfl) : AWO P n ops (⟨some d, .assign x, ty, pos, af, g⟩ :: l) σ H Q :=
 W.pure hg hd (z01 (oo hx h)) hr
theorem W.q2 (v : Value) (h : oval σ x = v) (hr : AWO P n ops l (up σ d v) H Q) (hg : gok n ops σ g true := by rfl) (hd : Nat.blt d n = true := by rfl) (hx : ook n x = true := by rfl) : AWO P n ops (⟨some d, .move x, ty, pos, af, g⟩ :: l) σ H Q :=
 W.pure hg hd (z02 (oo hx h)) hr
theorem W.q3 (v : Value) {bop : BinOp} {k : IntKind} {a b : Int} (h1 : oval σ x = .int k a) (h2 : oval σ y = .int k b) (hr : AWO P n ops l (up σ d v) H Q) (hg : gok n ops σ g true := by rfl) (hd : Nat.blt d n = true := by rfl) (hx : ook n x = true := by rfl) (hy : ook n y = true := by rfl) (hv : aint bop k a b = some v := by rfl) :
  AWO P n ops (⟨some d, .binOp bop t x y yt, ty, pos, af, g⟩ :: l) σ H Q :=
 W.pure hg hd (z2g (oo hx h1) (oo hy h2) hv) hr
theorem W.q4 (v : Value) (hc : oval σ c = .bool true) (h : oval σ x = v) (hr : AWO P n ops l (up σ d v) H Q) (hg : gok n ops σ g true := by rfl) (hd : Nat.blt d n = true := by rfl) (h1 : ook n c = true := by rfl) (hx : ook n x = true := by rfl) : AWO P n ops (⟨some d, .pick c x y, ty, pos, af, g⟩ :: l) σ H Q :=
 W.pure hg hd (z0u (oo h1 hc) (oo hx h)) hr
theorem W.q5 (v : Value) (hc : oval σ c = .bool false) (h : oval σ y = v) (hr : AWO P n ops l (up σ d v) H Q) (hg : gok n ops σ g true := by rfl) (hd : Nat.blt d n = true := by rfl) (h1 : ook n c = true := by rfl) (hy : ook n y = true := by rfl) : AWO P n ops (⟨some d, .pick c x y, ty, pos, af, g⟩ :: l) σ H Q :=
 W.pure hg hd (z1h (oo h1 hc) (oo hy h)) hr
theorem W.q6 {j : Nat} {want b : Bool} {d' : Tmp} (h1 : (ops[j]?).bind (·.dst) = some d') (h3 : σ d' = .bool b) (hr : AWO P n ops l (upo σ dd undef) H Q) (h2 : Nat.blt d' n = true := by rfl) (h4 : (b == want) = false := by rfl) (hd : dok n dd = true := by rfl) : AWO P n ops (⟨dd, op, ty, pos, af, some (j, want)⟩ :: l) σ H Q :=
 W.skip (gk h1 h2 h3 h4) hd hr
theorem D2.q1 (v : Value) (h : oval σ x = v) (hr : AWD2 P n ops M N0 l (i + 1) R L A (up σ d v) H Q) (hg : gok n ops σ g true := by rfl) (hd : Nat.blt d n = true := by rfl) (hx : ook n x = true := by rfl) : AWD2 P n ops M N0 (⟨some d, .assign x, ty, pos, af, g⟩ :: l) i R L A σ H Q :=
 D2.pure hg hd (z01 (oo hx h)) hr
theorem D2.q2 (v : Value) (h : oval σ x = v) (hr : AWD2 P n ops M N0 l (i + 1) R L A (up σ d v) H Q) (hg : gok n ops σ g true := by rfl) (hd : Nat.blt d n = true := by rfl) (hx : ook n x = true := by rfl) : AWD2 P n ops M N0 (⟨some d, .move x, ty, pos, af, g⟩ :: l) i R L A σ H Q :=
 D2.pure hg hd (z02 (oo hx h)) hr
theorem D2.q3 (v : Value) {bop : BinOp} {k : IntKind} {a b : Int} (h1 : oval σ x = .int k a) (h2 : oval σ y = .int k b) (hr : AWD2 P n ops M N0 l (i + 1) R L A (up σ d v) H Q) (hg : gok n ops σ g true := by rfl) (hd : Nat.blt d n = true := by rfl) (hx : ook n x = true := by rfl) (hy : ook n y = true := by rfl) (hv : aint bop k a b = some v := by rfl) :
  AWD2 P n ops M N0 (⟨some d, .binOp bop t x y yt, ty, pos, af, g⟩ :: l) i R L A σ H Q :=
 D2.pure hg hd (z2g (oo hx h1) (oo hy h2) hv) hr
theorem W.pv {op : Op} (v : Value) (h : z2y P (toL n σ) ⟨some d, op, ty, pos, af, g⟩ = some v) (hr : AWO P n ops l (up σ d v) H Q) (hg : gok n ops σ g true := by rfl) (hd : Nat.blt d n = true := by rfl) : AWO P n ops (⟨some d, op, ty, pos, af, g⟩ :: l) σ H Q := W.pure hg hd h hr
theorem D2.pv {op : Op} (v : Value) (h : z2y P (toL n σ) ⟨some d, op, ty, pos, af, g⟩ = some v) (hr : AWD2 P n ops M N0 l (i + 1) R L A (up σ d v) H Q) (hg : gok n ops σ g true := by rfl) (hd : Nat.blt d n = true := by rfl) : AWD2 P n ops M N0 (⟨some d, op, ty, pos, af, g⟩ :: l) i R L A σ H Q := D2.pure hg hd h hr
theorem W.p1 (v : Value) (hr : AWO P n ops l (up σ d v) H Q) (h : oval σ x = v := by rfl) (hg : gok n ops σ g true := by rfl) (hd : Nat.blt d n = true := by rfl) (hx : ook n x = true := by rfl) : AWO P n ops (⟨some d, .assign x, ty, pos, af, g⟩ :: l) σ H Q := W.q1 v h hr hg hd hx
theorem W.p2 (v : Value) (hr : AWO P n ops l (up σ d v) H Q) (h : oval σ x = v := by rfl) (hg : gok n ops σ g true := by rfl) (hd : Nat.blt d n = true := by rfl) (hx : ook n x = true := by rfl) : AWO P n ops (⟨some d, .move x, ty, pos, af, g⟩ :: l) σ H Q := W.q2 v h hr hg hd hx
theorem W.p3 (v : Value) {bop : BinOp} {k : IntKind} {a b : Int} (hr : AWO P n ops l (up σ d v) H Q) (h1 : oval σ x = .int k a := by rfl) (h2 : oval σ y = .int k b := by rfl) (hg : gok n ops σ g true := by rfl) (hd : Nat.blt d n = true := by rfl) (hx : ook n x = true := by rfl) (hy : ook n y = true := by rfl) (hv : aint bop k a b = some v := by rfl) : AWO P n ops (⟨some d, .binOp bop t x y yt, ty, pos, af, g⟩ :: l) σ H Q := W.q3 v h1 h2 hr hg hd hx hy hv
theorem W.r3 (v : Value) {bop : BinOp} {k : IntKind} {a b : Int} (h1 : oval σ x = .int k a) (hr : AWO P n ops l (up σ d v) H Q) (h2 : oval σ y = .int k b := by rfl) (hg : gok n ops σ g true := by rfl) (hd : Nat.blt d n = true := by rfl) (hx : ook n x = true := by rfl) (hy : ook n y = true := by rfl) (hv : aint bop k a b = some v := by rfl) : AWO P n ops (⟨some d, .binOp bop t x y yt, ty, pos, af, g⟩ :: l) σ H Q := W.q3 v h1 h2 hr hg hd hx hy hv
theorem D2.p1 (v : Value) (hr : AWD2 P n ops M N0 l (i + 1) R L A (up σ d v) H Q) (h : oval σ x = v := by rfl) (hg : gok n ops σ g true := by rfl) (hd : Nat.blt d n = true := by rfl) (hx : ook n x = true := by rfl) : AWD2 P n ops M N0 (⟨some d, .assign x, ty, pos, af, g⟩ :: l) i R L A σ H Q := D2.q1 v h hr hg hd hx
theorem D2.p2 (v : Value) (hr : AWD2 P n ops M N0 l (i + 1) R L A (up σ d v) H Q) (h : oval σ x = v := by rfl) (hg : gok n ops σ g true := by rfl) (hd : Nat.blt d n = true := by rfl) (hx : ook n x = true := by rfl) : AWD2 P n ops M N0 (⟨some d, .move x, ty, pos, af, g⟩ :: l) i R L A σ H Q := D2.q2 v h hr hg hd hx
theorem D2.p3 (v : Value) {bop : BinOp} {k : IntKind} {a b : Int} (hr : AWD2 P n ops M N0 l (i + 1) R L A (up σ d v) H Q) (h1 : oval σ x = .int k a := by rfl) (h2 : oval σ y = .int k b := by rfl) (hg : gok n ops σ g true := by rfl) (hd : Nat.blt d n = true := by rfl) (hx : ook n x = true := by rfl) (hy : ook n y = true := by rfl) (hv : aint bop k a b = some v := by rfl) : AWD2 P n ops M N0 (⟨some d, .binOp bop t x y yt, ty, pos, af, g⟩ :: l) i R L A σ H Q := D2.q3 v h1 h2 hr hg hd hx hy hv
theorem W.l1 (v : Value) (ha : z30 P t = some false) (hp : Pt H (oval σ x) (v :: [])) (hr : AWO P n ops l (up σ d v) H Q) (hg : gok n ops σ g true := by rfl) (hd : (Nat.blt d n && ook n x) = true := by rfl) : AWO P n ops (⟨some d, .load t x, ty, pos, af, g⟩ :: l) σ H Q := W.load1 hg hd ha hp hr
theorem D2.l1 (v : Value) (ha : z30 P t = some false) (hp : Pt H (oval σ x) (v :: [])) (hL : ∀ q ∈ L, (M.getD i 0).testBit q.1 = true \/ q.2.2.get (z7j (oval σ x)) = q.2.1.get (z7j (oval σ x))) (hr : AWD2 P n ops M N0 l (i + 1) ((i, z7j (oval σ x)) :: R) L A (up σ d v) H Q) (hg : gok n ops σ g true := by rfl) (hd : (Nat.blt d n && ook n x) = true := by rfl) : AWD2 P n ops M N0 (⟨some d, .load t x, ty, pos, af, g⟩ :: l) i R L A σ H Q := D2.load1' hg hd ha hp hL hr
theorem gl {j : Nat} {want b r : Bool} {d : Tmp} (h1 : (ops[j]?).bind (·.dst) = some d) (h3 : σ d = .bool b) (h2 : Nat.blt d n = true := by rfl) (h4 : (b == want) = r := by rfl) : gok n ops σ (some (j, want)) r := gk h1 h2 h3 h4
theorem ft {a b c : Value} (h : a = b) (k : b = c) : a = c := h.trans k
theorem W.ln {Φ : Value -> AH -> Prop} (hs : Loud P n ⟨dd, op, ty, pos, af, g⟩ σ H Φ) (hr : ∀ v H1, Φ v H1 -> AWO P n ops l (upo σ dd v) H1 Q) (hg : gok n ops σ g true := by rfl) (hd : dok n dd = true := by rfl) : AWO P n ops (⟨dd, op, ty, pos, af, g⟩ :: l) σ H Q := W.lo hg hd hs hr
theorem ov {v : Value} (h : ook n x = true := by rfl) (hv : oval σ x = v := by rfl) : opnd (toL n σ) x = some v := oo h hv
theorem ou {v : Value} (hv : oval σ x = v) (h : ook n x = true := by rfl) : opnd (toL n σ) x = some v := oo h hv
theorem rt {v : Value} {t : Tmp} (ht : Nat.blt t n = true := by rfl) (hv : σ t = v := by rfl) : RR P n σ H (.tmp t) v := z2i ht hv
theorem Lo.cQ {G : GM} {Ls : List Pc} {f : FuncId} {args : Array Operand} {ats : Array TypeId} {al : List Value} (fn : Func) {Ψ : Value -> GM -> Prop} (ha : args.toList.map (oval σ) = al) (O : Ow G H ([] ++ Ls)) (hc : ∀ L, Ow G H ([] ++ L) -> CR P f al G H ([] ++ L) fun v G' _ => Ψ v G') (hd : args.toList.all (ook n) = true := by rfl) (hf : P.funcs[f]? = some fn := by kernel_rfl) (hnm : (fn.name == "runtime.NumGoroutine" || fn.body.isNone) = false := by rfl) :
  Loud P n ⟨some d, .call ⟨.value (.func f), args, ats⟩, ty, pos, af, g⟩ σ H fun v H1 => ∃ G', Ow G' H1 ([] ++ Ls) /\ G.le G' /\ Same G Ls H H1 /\ Ψ v G' := Lo.callP hd hf hnm ha O hc
theorem Lo.qF {G : GM} {Ls : List Pc} {f : FuncId} {args : Array Operand} {ats : Array TypeId} {al : List Value} (fn : Func) {ps : List Pc} {pw : Value -> List Pc} {Ψ : Value -> Value -> GM -> Prop} (ha : args.toList.map (oval σ) = al) (O : Ow G H (ps ++ Ls)) (hc : ∀ L, Ow G H (ps ++ L) -> CRF P f al G H (fun w => pw w ++ L) Ψ) (hd : args.toList.all (ook n) = true := by rfl) (hf : P.funcs[f]? = some fn := by kernel_rfl) (hnm : (fn.name == "runtime.NumGoroutine" || fn.body.isNone) = false := by rfl) :
  Loud P n ⟨some d, .call ⟨.value (.func f), args, ats⟩, ty, pos, af, g⟩ σ H fun v H1 => ∃ w G', Ow G' H1 (pw w ++ Ls) /\ G.le G' /\ Same G Ls H H1 /\ Ψ w v G' := Lo.callPF hd hf hnm ha O hc
end
end
end Go.Am
/- Typed functions with the same answers as the program's, and the walks that show it. -/
namespace Go.Am.Tryd
open Go Go.Am Go.Proofs
variable (K : Nat) {G : GM} {H : AH} {L : List Pc}
structure Switch where
  Name : zAd
  A : zAd
  B : zAd
  Breaker : Bool
  Open : Bool
  deriving DecidableEq, Inhabited
def z19 : RT Switch := rIso (rP rS (rP rS (rP rS (rP rB rB)))) (fun s : Switch => (s.Name, s.A, s.B, s.Breaker, s.Open))
theorem z9n (G : GM) : z19.rep G ([.string ByteArray.empty] ++ ([.string ByteArray.empty] ++ ([.string ByteArray.empty] ++ ([.bool false] ++ [.bool false])))) ((Switch.mk ByteArray.empty ByteArray.empty ByteArray.empty false false)) := ⟨_, _, rfl, zS G, ⟨_, _, rfl, zS G, ⟨_, _, rfl, zS G, ⟨_, _, rfl, zB G, (zB G)⟩⟩⟩⟩
theorem z52 : Proj z19 0 rS (fun x => x.Name) := by
  have h := (Proj.iso (rP rS (rP rS (rP rS (rP rB rB)))) (fun s : Switch => (s.Name, s.A, s.B, s.Breaker, s.Open))).comp (Proj.fst _ _)
  exact h
theorem z61 : Proj z19 1 rS (fun x => x.A) := by
  have h := (Proj.iso (rP rS (rP rS (rP rS (rP rB rB)))) (fun s : Switch => (s.Name, s.A, s.B, s.Breaker, s.Open))).comp ((Proj.snd _ _).comp (Proj.fst _ _))
  exact h
theorem z62 : Proj z19 2 rS (fun x => x.B) := by
  have h := (Proj.iso (rP rS (rP rS (rP rS (rP rB rB)))) (fun s : Switch => (s.Name, s.A, s.B, s.Breaker, s.Open))).comp ((Proj.snd _ _).comp ((Proj.snd _ _).comp (Proj.fst _ _)))
  exact h
theorem z63 : Proj z19 3 rB (fun x => x.Breaker) := by
  have h := (Proj.iso (rP rS (rP rS (rP rS (rP rB rB)))) (fun s : Switch => (s.Name, s.A, s.B, s.Breaker, s.Open))).comp ((Proj.snd _ _).comp ((Proj.snd _ _).comp ((Proj.snd _ _).comp (Proj.fst _ _))))
  exact h
theorem z7x : Proj z19 4 rB (fun x => x.Open) := by
  have h := (Proj.iso (rP rS (rP rS (rP rS (rP rB rB)))) (fun s : Switch => (s.Name, s.A, s.B, s.Breaker, s.Open))).comp ((Proj.snd _ _).comp ((Proj.snd _ _).comp ((Proj.snd _ _).comp ((Proj.snd _ _).comp (Proj.self _)))))
  exact h
structure Branch where
  Name : zAd
  From : zAd
  To : zAd
  X : Int
  Tap : Int
  Shift : Int
  Limit : Int
  Short : Int
  Hold : Int
  deriving DecidableEq, Inhabited
def z0f : RT Branch := rIso (rP rS (rP rS (rP rS (rP (rI .i64) (rP (rI .i64) (rP (rI .i64) (rP (rI .i64) (rP (rI .i64) (rI .i64))))))))) (fun s : Branch => (s.Name, s.From, s.To, s.X, s.Tap, s.Shift, s.Limit, s.Short, s.Hold))
theorem z9o (G : GM) : z0f.rep G ([.string ByteArray.empty] ++ ([.string ByteArray.empty] ++ ([.string ByteArray.empty] ++ ([.int .i64 0] ++ ([.int .i64 0] ++ ([.int .i64 0] ++ ([.int .i64 0] ++ ([.int .i64 0] ++ [.int .i64 0])))))))) ((Branch.mk ByteArray.empty ByteArray.empty ByteArray.empty 0 0 0 0 0 0)) := ⟨_, _, rfl, zS G, ⟨_, _, rfl, zS G, ⟨_, _, rfl, zS G, ⟨_, _, rfl, (zI .i64) G, ⟨_, _, rfl, (zI .i64) G, ⟨_, _, rfl, (zI .i64) G, ⟨_, _, rfl, (zI .i64) G, ⟨_, _, rfl, (zI .i64) G, ((zI .i64) G)⟩⟩⟩⟩⟩⟩⟩⟩
theorem z54 : Proj z0f 0 rS (fun x => x.Name) := by
  have h := (Proj.iso (rP rS (rP rS (rP rS (rP (rI .i64) (rP (rI .i64) (rP (rI .i64) (rP (rI .i64) (rP (rI .i64) (rI .i64))))))))) (fun s : Branch => (s.Name, s.From, s.To, s.X, s.Tap, s.Shift, s.Limit, s.Short, s.Hold))).comp (Proj.fst _ _)
  exact h
theorem z4f : Proj z0f 1 rS (fun x => x.From) := by
  have h := (Proj.iso (rP rS (rP rS (rP rS (rP (rI .i64) (rP (rI .i64) (rP (rI .i64) (rP (rI .i64) (rP (rI .i64) (rI .i64))))))))) (fun s : Branch => (s.Name, s.From, s.To, s.X, s.Tap, s.Shift, s.Limit, s.Short, s.Hold))).comp ((Proj.snd _ _).comp (Proj.fst _ _))
  exact h
theorem z5f : Proj z0f 2 rS (fun x => x.To) := by
  have h := (Proj.iso (rP rS (rP rS (rP rS (rP (rI .i64) (rP (rI .i64) (rP (rI .i64) (rP (rI .i64) (rP (rI .i64) (rI .i64))))))))) (fun s : Branch => (s.Name, s.From, s.To, s.X, s.Tap, s.Shift, s.Limit, s.Short, s.Hold))).comp ((Proj.snd _ _).comp ((Proj.snd _ _).comp (Proj.fst _ _)))
  exact h
theorem z78 : Proj z0f 3 (rI .i64) (fun x => x.X) := by
  have h := (Proj.iso (rP rS (rP rS (rP rS (rP (rI .i64) (rP (rI .i64) (rP (rI .i64) (rP (rI .i64) (rP (rI .i64) (rI .i64))))))))) (fun s : Branch => (s.Name, s.From, s.To, s.X, s.Tap, s.Shift, s.Limit, s.Short, s.Hold))).comp ((Proj.snd _ _).comp ((Proj.snd _ _).comp ((Proj.snd _ _).comp (Proj.fst _ _))))
  exact h
theorem z5i : Proj z0f 4 (rI .i64) (fun x => x.Tap) := by
  have h := (Proj.iso (rP rS (rP rS (rP rS (rP (rI .i64) (rP (rI .i64) (rP (rI .i64) (rP (rI .i64) (rP (rI .i64) (rI .i64))))))))) (fun s : Branch => (s.Name, s.From, s.To, s.X, s.Tap, s.Shift, s.Limit, s.Short, s.Hold))).comp ((Proj.snd _ _).comp ((Proj.snd _ _).comp ((Proj.snd _ _).comp ((Proj.snd _ _).comp (Proj.fst _ _)))))
  exact h
theorem z4k : Proj z0f 5 (rI .i64) (fun x => x.Shift) := by
  have h := (Proj.iso (rP rS (rP rS (rP rS (rP (rI .i64) (rP (rI .i64) (rP (rI .i64) (rP (rI .i64) (rP (rI .i64) (rI .i64))))))))) (fun s : Branch => (s.Name, s.From, s.To, s.X, s.Tap, s.Shift, s.Limit, s.Short, s.Hold))).comp ((Proj.snd _ _).comp ((Proj.snd _ _).comp ((Proj.snd _ _).comp ((Proj.snd _ _).comp ((Proj.snd _ _).comp (Proj.fst _ _))))))
  exact h
theorem z3g : Proj z0f 6 (rI .i64) (fun x => x.Limit) := by
  have h := (Proj.iso (rP rS (rP rS (rP rS (rP (rI .i64) (rP (rI .i64) (rP (rI .i64) (rP (rI .i64) (rP (rI .i64) (rI .i64))))))))) (fun s : Branch => (s.Name, s.From, s.To, s.X, s.Tap, s.Shift, s.Limit, s.Short, s.Hold))).comp ((Proj.snd _ _).comp ((Proj.snd _ _).comp ((Proj.snd _ _).comp ((Proj.snd _ _).comp ((Proj.snd _ _).comp ((Proj.snd _ _).comp (Proj.fst _ _)))))))
  exact h
theorem z4l : Proj z0f 7 (rI .i64) (fun x => x.Short) := by
  have h := (Proj.iso (rP rS (rP rS (rP rS (rP (rI .i64) (rP (rI .i64) (rP (rI .i64) (rP (rI .i64) (rP (rI .i64) (rI .i64))))))))) (fun s : Branch => (s.Name, s.From, s.To, s.X, s.Tap, s.Shift, s.Limit, s.Short, s.Hold))).comp ((Proj.snd _ _).comp ((Proj.snd _ _).comp ((Proj.snd _ _).comp ((Proj.snd _ _).comp ((Proj.snd _ _).comp ((Proj.snd _ _).comp ((Proj.snd _ _).comp (Proj.fst _ _))))))))
  exact h
theorem z55 : Proj z0f 8 (rI .i64) (fun x => x.Hold) := by
  have h := (Proj.iso (rP rS (rP rS (rP rS (rP (rI .i64) (rP (rI .i64) (rP (rI .i64) (rP (rI .i64) (rP (rI .i64) (rI .i64))))))))) (fun s : Branch => (s.Name, s.From, s.To, s.X, s.Tap, s.Shift, s.Limit, s.Short, s.Hold))).comp ((Proj.snd _ _).comp ((Proj.snd _ _).comp ((Proj.snd _ _).comp ((Proj.snd _ _).comp ((Proj.snd _ _).comp ((Proj.snd _ _).comp ((Proj.snd _ _).comp ((Proj.snd _ _).comp (Proj.self _)))))))))
  exact h
structure Gen where
  Name : zAd
  Node : zAd
  Least : Int
  Most : Int
  Ramp : Int
  deriving DecidableEq, Inhabited
def z4w : RT Gen := rIso (rP rS (rP rS (rP (rI .i64) (rP (rI .i64) (rI .i64))))) (fun s : Gen => (s.Name, s.Node, s.Least, s.Most, s.Ramp))
theorem zip (G : GM) : z4w.rep G ([.string ByteArray.empty] ++ ([.string ByteArray.empty] ++ ([.int .i64 0] ++ ([.int .i64 0] ++ [.int .i64 0])))) ((Gen.mk ByteArray.empty ByteArray.empty 0 0 0)) := ⟨_, _, rfl, zS G, ⟨_, _, rfl, zS G, ⟨_, _, rfl, (zI .i64) G, ⟨_, _, rfl, (zI .i64) G, ((zI .i64) G)⟩⟩⟩⟩
theorem z79 : Proj z4w 0 rS (fun x => x.Name) := by
  have h := (Proj.iso (rP rS (rP rS (rP (rI .i64) (rP (rI .i64) (rI .i64))))) (fun s : Gen => (s.Name, s.Node, s.Least, s.Most, s.Ramp))).comp (Proj.fst _ _)
  exact h
theorem z7a : Proj z4w 1 rS (fun x => x.Node) := by
  have h := (Proj.iso (rP rS (rP rS (rP (rI .i64) (rP (rI .i64) (rI .i64))))) (fun s : Gen => (s.Name, s.Node, s.Least, s.Most, s.Ramp))).comp ((Proj.snd _ _).comp (Proj.fst _ _))
  exact h
theorem z4q : Proj z4w 2 (rI .i64) (fun x => x.Least) := by
  have h := (Proj.iso (rP rS (rP rS (rP (rI .i64) (rP (rI .i64) (rI .i64))))) (fun s : Gen => (s.Name, s.Node, s.Least, s.Most, s.Ramp))).comp ((Proj.snd _ _).comp ((Proj.snd _ _).comp (Proj.fst _ _)))
  exact h
theorem z7b : Proj z4w 3 (rI .i64) (fun x => x.Most) := by
  have h := (Proj.iso (rP rS (rP rS (rP (rI .i64) (rP (rI .i64) (rI .i64))))) (fun s : Gen => (s.Name, s.Node, s.Least, s.Most, s.Ramp))).comp ((Proj.snd _ _).comp ((Proj.snd _ _).comp ((Proj.snd _ _).comp (Proj.fst _ _))))
  exact h
theorem z7c : Proj z4w 4 (rI .i64) (fun x => x.Ramp) := by
  have h := (Proj.iso (rP rS (rP rS (rP (rI .i64) (rP (rI .i64) (rI .i64))))) (fun s : Gen => (s.Name, s.Node, s.Least, s.Most, s.Ramp))).comp ((Proj.snd _ _).comp ((Proj.snd _ _).comp ((Proj.snd _ _).comp ((Proj.snd _ _).comp (Proj.self _)))))
  exact h
structure Load_ where
  Name : zAd
  Node : zAd
  Demand : Int
  deriving DecidableEq, Inhabited
def z27 : RT Load_ := rIso (rP rS (rP rS (rI .i64))) (fun s : Load_ => (s.Name, s.Node, s.Demand))
theorem zbl (G : GM) : z27.rep G ([.string ByteArray.empty] ++ ([.string ByteArray.empty] ++ [.int .i64 0])) ((Load_.mk ByteArray.empty ByteArray.empty 0)) := ⟨_, _, rfl, zS G, ⟨_, _, rfl, zS G, ((zI .i64) G)⟩⟩
theorem z5j : Proj z27 0 rS (fun x => x.Name) := by
  have h := (Proj.iso (rP rS (rP rS (rI .i64))) (fun s : Load_ => (s.Name, s.Node, s.Demand))).comp (Proj.fst _ _)
  exact h
theorem z5k : Proj z27 1 rS (fun x => x.Node) := by
  have h := (Proj.iso (rP rS (rP rS (rI .i64))) (fun s : Load_ => (s.Name, s.Node, s.Demand))).comp ((Proj.snd _ _).comp (Proj.fst _ _))
  exact h
theorem z4m : Proj z27 2 (rI .i64) (fun x => x.Demand) := by
  have h := (Proj.iso (rP rS (rP rS (rI .i64))) (fun s : Load_ => (s.Name, s.Node, s.Demand))).comp ((Proj.snd _ _).comp ((Proj.snd _ _).comp (Proj.self _)))
  exact h
structure Store where
  Name : zAd
  Node : zAd
  Charge : Int
  Discharge : Int
  Capacity : Int
  deriving DecidableEq, Inhabited
def z1f : RT Store := rIso (rP rS (rP rS (rP (rI .i64) (rP (rI .i64) (rI .i64))))) (fun s : Store => (s.Name, s.Node, s.Charge, s.Discharge, s.Capacity))
theorem zbm (G : GM) : z1f.rep G ([.string ByteArray.empty] ++ ([.string ByteArray.empty] ++ ([.int .i64 0] ++ ([.int .i64 0] ++ [.int .i64 0])))) ((Store.mk ByteArray.empty ByteArray.empty 0 0 0)) := ⟨_, _, rfl, zS G, ⟨_, _, rfl, zS G, ⟨_, _, rfl, (zI .i64) G, ⟨_, _, rfl, (zI .i64) G, ((zI .i64) G)⟩⟩⟩⟩
theorem z5l : Proj z1f 0 rS (fun x => x.Name) := by
  have h := (Proj.iso (rP rS (rP rS (rP (rI .i64) (rP (rI .i64) (rI .i64))))) (fun s : Store => (s.Name, s.Node, s.Charge, s.Discharge, s.Capacity))).comp (Proj.fst _ _)
  exact h
theorem z5m : Proj z1f 1 rS (fun x => x.Node) := by
  have h := (Proj.iso (rP rS (rP rS (rP (rI .i64) (rP (rI .i64) (rI .i64))))) (fun s : Store => (s.Name, s.Node, s.Charge, s.Discharge, s.Capacity))).comp ((Proj.snd _ _).comp (Proj.fst _ _))
  exact h
theorem z4n : Proj z1f 2 (rI .i64) (fun x => x.Charge) := by
  have h := (Proj.iso (rP rS (rP rS (rP (rI .i64) (rP (rI .i64) (rI .i64))))) (fun s : Store => (s.Name, s.Node, s.Charge, s.Discharge, s.Capacity))).comp ((Proj.snd _ _).comp ((Proj.snd _ _).comp (Proj.fst _ _)))
  exact h
theorem z3q : Proj z1f 3 (rI .i64) (fun x => x.Discharge) := by
  have h := (Proj.iso (rP rS (rP rS (rP (rI .i64) (rP (rI .i64) (rI .i64))))) (fun s : Store => (s.Name, s.Node, s.Charge, s.Discharge, s.Capacity))).comp ((Proj.snd _ _).comp ((Proj.snd _ _).comp ((Proj.snd _ _).comp (Proj.fst _ _))))
  exact h
theorem z42 : Proj z1f 4 (rI .i64) (fun x => x.Capacity) := by
  have h := (Proj.iso (rP rS (rP rS (rP (rI .i64) (rP (rI .i64) (rI .i64))))) (fun s : Store => (s.Name, s.Node, s.Charge, s.Discharge, s.Capacity))).comp ((Proj.snd _ _).comp ((Proj.snd _ _).comp ((Proj.snd _ _).comp ((Proj.snd _ _).comp (Proj.self _)))))
  exact h
structure Network where
  Nodes : List zAd
  Switches : List Switch
  Branches : List Branch
  Gens : List Gen
  Loads : List Load_
  Stores : List Store
  deriving DecidableEq, Inhabited
def z00 : RT Network := rIso (rP (rSl rS) (rP (rSl z19) (rP (rSl z0f) (rP (rSl z4w) (rP (rSl z27) (rSl z1f)))))) (fun s : Network => (s.Nodes, s.Switches, s.Branches, s.Gens, s.Loads, s.Stores))
theorem z29 : Proj z00 0 (rSl rS) (fun x => x.Nodes) := by
  have h := (Proj.iso (rP (rSl rS) (rP (rSl z19) (rP (rSl z0f) (rP (rSl z4w) (rP (rSl z27) (rSl z1f)))))) (fun s : Network => (s.Nodes, s.Switches, s.Branches, s.Gens, s.Loads, s.Stores))).comp (Proj.fst _ _)
  exact h
theorem z2b : Proj z00 1 (rSl z19) (fun x => x.Switches) := by
  have h := (Proj.iso (rP (rSl rS) (rP (rSl z19) (rP (rSl z0f) (rP (rSl z4w) (rP (rSl z27) (rSl z1f)))))) (fun s : Network => (s.Nodes, s.Switches, s.Branches, s.Gens, s.Loads, s.Stores))).comp ((Proj.snd _ _).comp (Proj.fst _ _))
  exact h
theorem z2c : Proj z00 2 (rSl z0f) (fun x => x.Branches) := by
  have h := (Proj.iso (rP (rSl rS) (rP (rSl z19) (rP (rSl z0f) (rP (rSl z4w) (rP (rSl z27) (rSl z1f)))))) (fun s : Network => (s.Nodes, s.Switches, s.Branches, s.Gens, s.Loads, s.Stores))).comp ((Proj.snd _ _).comp ((Proj.snd _ _).comp (Proj.fst _ _)))
  exact h
theorem z3h : Proj z00 3 (rSl z4w) (fun x => x.Gens) := by
  have h := (Proj.iso (rP (rSl rS) (rP (rSl z19) (rP (rSl z0f) (rP (rSl z4w) (rP (rSl z27) (rSl z1f)))))) (fun s : Network => (s.Nodes, s.Switches, s.Branches, s.Gens, s.Loads, s.Stores))).comp ((Proj.snd _ _).comp ((Proj.snd _ _).comp ((Proj.snd _ _).comp (Proj.fst _ _))))
  exact h
theorem z36 : Proj z00 4 (rSl z27) (fun x => x.Loads) := by
  have h := (Proj.iso (rP (rSl rS) (rP (rSl z19) (rP (rSl z0f) (rP (rSl z4w) (rP (rSl z27) (rSl z1f)))))) (fun s : Network => (s.Nodes, s.Switches, s.Branches, s.Gens, s.Loads, s.Stores))).comp ((Proj.snd _ _).comp ((Proj.snd _ _).comp ((Proj.snd _ _).comp ((Proj.snd _ _).comp (Proj.fst _ _)))))
  exact h
theorem z2w : Proj z00 5 (rSl z1f) (fun x => x.Stores) := by
  have h := (Proj.iso (rP (rSl rS) (rP (rSl z19) (rP (rSl z0f) (rP (rSl z4w) (rP (rSl z27) (rSl z1f)))))) (fun s : Network => (s.Nodes, s.Switches, s.Branches, s.Gens, s.Loads, s.Stores))).comp ((Proj.snd _ _).comp ((Proj.snd _ _).comp ((Proj.snd _ _).comp ((Proj.snd _ _).comp ((Proj.snd _ _).comp (Proj.self _))))))
  exact h
def z3d (K : Nat) (a : Network) : Option Int := (Option.bind ((if (decide ((a.Nodes.length : Int) > 24)) = true then some true else (if (decide ((a.Switches.length : Int) > 32)) = true then some true else some (decide ((a.Branches.length : Int) > 24))))) (tu1 fun b => (if b = true then some 2 else (Option.bind ((if (decide ((a.Gens.length : Int) > 10)) = true then some true else (if (decide ((a.Loads.length : Int) > 12)) = true then some true else some (decide ((a.Stores.length : Int) > 4))))) (tu1 fun c => (if c = true then some 2 else some 0))))))
theorem z7d (M : List Value) (a : Network) (P : z00.rep G M a) (O : Ow G H (L)) (r : Int) (h : z3d K a = some r) :
    CR Tryd.prog 31 [.agg M.toArray] G H (L) (fun v m _ => v = .int .i64 r) := by
 unfold z3d at h
 refine CR.og (n := 35) (fn := Tryd.f31) (by kernel_rfl) rfl rfl fun R kr => (.seq (.region (W.ln (Lo.box (r := z00) (x0 := a) (v := (.agg M.toArray)) rfl rfl P O) ?_)))
 rintro aQ aR ⟨k, rfl, i, aM⟩
 refine W.p1 (.int .i64 0) (.nil (.seq (.seq ?_)))
 obtain ⟨aG, Q, aH⟩ := z05 h
 refine AW.midT (fun o N => ∃ (p : Bool) (m : GM), p = aG /\ Ow m N (eVar k 29 z00 a :: L) /\ GM.le G m /\ o 18 = .bool p) ?_ ?_
 .refine .region (W.pv (padd (.pointer (some ⟨k, 0, none⟩)) 0) (z07 zac ov (i.atVar (j := 0) rfl)) ?_)
  obtain ⟨aI, S, T⟩ := At.sl (At.proj (i.atVar (j := 0) rfl) z29)
  refine W.l1 aI ag22 (z0d rfl S) (W.pv (.int .i64 (a.Nodes.length : Int)) (z25 ov (z0x T) (z04 el22)) (W.p3 (.bool (decide ((a.Nodes.length : Int) > 24))) (W.p2 (.bool (decide ((a.Nodes.length : Int) > 24))) (W.splitAt (t := 7) (b := decide ((a.Nodes.length : Int) > 24)) rfl (fun q c => ?_) (fun q c => ?_)))))
  .have U := z03 q Q
   refine W.q6 rfl c (W.q6 rfl c (W.q6 rfl c (W.q6 rfl c (W.q4 (.bool true) c rfl (W.p2 (.bool true) (W.q6 rfl rfl ?_))))))
   refine W.q6 rfl rfl (W.q6 rfl rfl (W.q6 rfl rfl (W.q4 (.bool true) rfl rfl (.nil ?_))))
   obtain rfl := zAa U
   exact ⟨true, _, rfl, i, (zAf _), rfl⟩
  have A := z16 q Q
  refine W.pure (v := (padd (.pointer (some ⟨k, 0, none⟩)) 1)) (gl rfl c) rfl (z07 zc3 ov (i.atVar (j := 0) rfl)) ?_
  obtain ⟨V, X, Y⟩ := At.sl (At.proj (i.atVar (j := 0) rfl) z2b)
  refine W.load1 (v := V) (r := []) (gl rfl c) rfl ag23 (z0d rfl X) (W.pure (v := (.int .i64 (a.Switches.length : Int))) (gl rfl c) rfl (z25 ov (z0x Y) (z04 el23)) (W.q3 (hg := gk rfl rfl c rfl) (.bool (decide ((a.Switches.length : Int) > 32))) rfl rfl (W.q5 (.bool (decide ((a.Switches.length : Int) > 32))) c rfl (W.p2 (.bool (decide ((a.Switches.length : Int) > 32))) (W.splitAt (t := 13) (b := decide ((a.Switches.length : Int) > 32)) rfl (fun s d => ?_) (fun s d => ?_))))))
  .have Z := z03 s A
   refine W.q6 rfl d (W.q6 rfl d (W.q6 rfl d (W.q6 rfl d (W.q4 (.bool true) d rfl (.nil ?_)))))
   obtain rfl := zAa Z
   exact ⟨true, _, rfl, i, (zAf _), rfl⟩
  have aa := z16 s A
  refine W.pure (v := (padd (.pointer (some ⟨k, 0, none⟩)) 2)) (gl rfl d) rfl (z07 zc4 ov (i.atVar (j := 0) rfl)) ?_
  obtain ⟨ab, ac, ad⟩ := At.sl (At.proj (i.atVar (j := 0) rfl) z2c)
  refine W.load1 (v := ab) (r := []) (gl rfl d) rfl ag24 (z0d rfl ac) (W.pure (v := (.int .i64 (a.Branches.length : Int))) (gl rfl d) rfl (z25 ov (z0x ad) (z04 el24)) (W.q3 (hg := gk rfl rfl d rfl) (.bool (decide ((a.Branches.length : Int) > 24))) rfl rfl (W.q5 (.bool (decide ((a.Branches.length : Int) > 24))) d rfl (.nil ?_))))
  obtain rfl := zAa aa
  exact ⟨decide ((a.Branches.length : Int) > 24), _, rfl, i, (zAf _), rfl⟩
 rintro aJ aN l ⟨ae, af, rfl, g, u, ag⟩
 have B := z0b aH
 refine .cond (b := ae) rfl ag (fun w => ?_) (fun w => ?_)
 .have ah := z03 w B
  refine .seq (.region (W.p1 (.int .i64 2) (.nil (.ret ?_))))
  have ai := g.drop 0
  obtain rfl := zAa ah
  exact z4i kr (v1 := (.int .i64 2)) (by rfl) rt ai u rfl
 have aj := z16 w B
 refine .skip (.seq (.seq ?_))
 obtain ⟨ak, C, al⟩ := z05 aj
 refine AW.midT (fun o N => ∃ (p : Bool) (m : GM), p = ak /\ Ow m N (eVar k 29 z00 a :: L) /\ GM.le af m /\ o 34 = .bool p) ?_ ?_
 rotate_left
 .rintro aK aO aL ⟨am, aP, rfl, E, F, an⟩
  have I := z0b al
  refine .cond (b := am) rfl an (fun x => ?_) (fun x => ?_)
  .have ao := z03 x I
   refine .seq (.region (W.p1 (.int .i64 2) (.nil (.ret ?_))))
   have ap := E.drop 0
   obtain rfl := zAa ao
   exact z4i kr (v1 := (.int .i64 2)) (by rfl) rt ap (zAe u F) rfl
  have aq := z16 x I
  refine .skip (.seq (.region (W.p1 (.int .i64 0) (.nil (.ret ?_)))))
  have ar := E.drop 0
  obtain rfl := zAa aq
  exact z4i kr (v1 := (.int .i64 0)) (by rfl) rt ar (zAe u F) rfl
 refine .region (W.pv (padd (.pointer (some ⟨k, 0, none⟩)) 3) (z07 zc5 (ou (ft (l 1 rfl) rfl)) (g.atVar (j := 0) rfl)) ?_)
 obtain ⟨au, av, aw⟩ := At.sl (At.proj (g.atVar (j := 0) rfl) z3h)
 refine W.l1 au ag25 (z0d rfl av) (W.pv (.int .i64 (a.Gens.length : Int)) (z25 ov (z0x aw) (z04 el25)) (W.p3 (.bool (decide ((a.Gens.length : Int) > 10))) (W.p2 (.bool (decide ((a.Gens.length : Int) > 10))) (W.splitAt (t := 23) (b := decide ((a.Gens.length : Int) > 10)) rfl (fun y e => ?_) (fun y e => ?_)))))
 .have ax := z03 y C
  refine W.q6 rfl e (W.q6 rfl e (W.q6 rfl e (W.q6 rfl e (W.q4 (.bool true) e rfl (W.p2 (.bool true) (W.q6 rfl rfl ?_))))))
  refine W.q6 rfl rfl (W.q6 rfl rfl (W.q6 rfl rfl (W.q4 (.bool true) rfl rfl (.nil ?_))))
  obtain rfl := zAa ax
  exact ⟨true, _, rfl, g, (zAf _), rfl⟩
 have J := z16 y C
 refine W.pure (v := (padd (.pointer (some ⟨k, 0, none⟩)) 4)) (gl rfl e) rfl (z07 zc6 (ou (ft (l 1 rfl) rfl)) (g.atVar (j := 0) rfl)) ?_
 obtain ⟨ay, az, aA⟩ := At.sl (At.proj (g.atVar (j := 0) rfl) z36)
 refine W.load1 (v := ay) (r := []) (gl rfl e) rfl ag26 (z0d rfl az) (W.pure (v := (.int .i64 (a.Loads.length : Int))) (gl rfl e) rfl (z25 ov (z0x aA) (z04 el26)) (W.q3 (hg := gk rfl rfl e rfl) (.bool (decide ((a.Loads.length : Int) > 12))) rfl rfl (W.q5 (.bool (decide ((a.Loads.length : Int) > 12))) e rfl (W.p2 (.bool (decide ((a.Loads.length : Int) > 12))) (W.splitAt (t := 29) (b := decide ((a.Loads.length : Int) > 12)) rfl (fun z f => ?_) (fun z f => ?_))))))
 .have aB := z03 z J
  refine W.q6 rfl f (W.q6 rfl f (W.q6 rfl f (W.q6 rfl f (W.q4 (.bool true) f rfl (.nil ?_)))))
  obtain rfl := zAa aB
  exact ⟨true, _, rfl, g, (zAf _), rfl⟩
 have aC := z16 z J
 refine W.pure (v := (padd (.pointer (some ⟨k, 0, none⟩)) 5)) (gl rfl f) rfl (z07 zc7 (ou (ft (l 1 rfl) rfl)) (g.atVar (j := 0) rfl)) ?_
 obtain ⟨aD, aE, aF⟩ := At.sl (At.proj (g.atVar (j := 0) rfl) z2w)
 refine W.load1 (v := aD) (r := []) (gl rfl f) rfl ag27 (z0d rfl aE) (W.pure (v := (.int .i64 (a.Stores.length : Int))) (gl rfl f) rfl (z25 ov (z0x aF) (z04 el27)) (W.q3 (hg := gk rfl rfl f rfl) (.bool (decide ((a.Stores.length : Int) > 4))) rfl rfl (W.q5 (.bool (decide ((a.Stores.length : Int) > 4))) f rfl (.nil ?_))))
 obtain rfl := zAa aC
 exact ⟨decide ((a.Stores.length : Int) > 4), _, rfl, g, (zAf _), rfl⟩
def z23 (K : Nat) (c : zAd) : Nat -> Int -> Option (Bool ⊕ Unit)
  | 0, _ => none
  | k + 1, a => (if (decide (a < ((z1l c).length : Int))) = true then ((idx (z1l c) a).bind fun b => (Option.bind ((if (decide (b >= 65)) = true then some (decide (b <= 90)) else some false)) (tu1 fun d => (Option.bind ((if (!d) = true then (if (a == 0) = true then some true else (if (decide (b < 48)) = true then some true else some (decide (b > 57)))) else some false)) (tu1 fun e => (if e = true then some (.inl false) else z23 K c k (z0p .i64 (a + 1)))))))) else some (.inr ()))
def z3n (K : Nat) (a : zAd) : Option Bool := (z5s (z23 K a K 0) (tu1 fun b => some b) (tu0 (Option.bind ((if (!(sEq a (⟨#[]⟩ : zAd))) = true then some (decide ((a.size : Int) <= 8)) else some false)) (tu1 fun c => some c))))
theorem z7o (f : zAd) (O : Ow G H (L)) (r : Bool) (h : z3n K f = some r) :
    CR Tryd.prog 47 [(.string f)] G H (L) (fun v i _ => v = .bool r) := by
 unfold z3n at h
 refine CR.og (n := 42) (fn := Tryd.f47) (by kernel_rfl) rfl rfl fun R kr => (.seq (.region (W.p1 (.bool false) (.nil (.seq (.seq ?_))))))
 refine .region (W.p2 (.string f) (W.ln (Lo.bytes rfl un9 el47 in5 rfl O) ?_))
 rintro aV bc ⟨ah, aW, ai, a4, ae⟩
 refine W.pv (.int .i64 ((z1l f).length : Int)) (z25 ov (z0x ae) (z04 el47)) (W.p2 (.int .i64 0) (.nil ?_))
 obtain ⟨aj, aX, S⟩ := z2t h
 refine AW.midT (fun m q => ∃  (i : GM), (.inr ()) = aj /\ Ow i q (L) /\ GM.le ah i) ?_ ?_
 rotate_left
 .rintro aY a5 A ⟨ak, rfl, T, al⟩
  have am := z7v (z6h S)
  refine .seq ?_
  obtain ⟨an, U, ao⟩ := z05 am
  refine AW.midT (fun m q => ∃ (o : Bool) (i : GM), o = an /\ Ow i q (L) /\ GM.le ak i /\ m 2 = .bool o) ?_ ?_
  rotate_left
  .rintro aZ a6 a0 ⟨ap, a7, rfl, aq, ar, au⟩
   have av := z0b ao
   refine .ret ?_
   obtain rfl := zAa av
   exact z4i kr (v1 := (.bool ap)) (by rfl) (z2i (by rfl) (by exact au)) aq (zAe ai (zAe al ar)) rfl
  refine .region (W.q2 (.string f) (ft (A 0 rfl) rfl) (W.pv (.bool (!(sEq f (⟨#[]⟩ : zAd)))) (zdi ov ov) (W.p2 (.bool (!(sEq f (⟨#[]⟩ : zAd)))) (W.splitAt (t := 37) (b := (!(sEq f (⟨#[]⟩ : zAd)))) rfl (fun B e => ?_) (fun B e => ?_)))))
  rotate_left
  .have aw := z16 B U
   refine W.q6 rfl e (W.q6 rfl e (W.q6 rfl e (W.q5 (.bool false) e rfl (W.p1 (.bool false) (.nil ?_)))))
   obtain rfl := zAa aw
   exact ⟨false, _, rfl, T, (zAf _), rfl⟩
  have ax := z03 B U
  refine W.q2 (hg := gk rfl rfl e rfl) (.string f) (ft (A 0 rfl) rfl) (W.pure (v := (.int .i64 (f.size : Int))) (gl rfl e) rfl (z91 ov un9) (W.q3 (hg := gk rfl rfl e rfl) (.bool (decide ((f.size : Int) <= 8))) rfl rfl (W.q4 (.bool (decide ((f.size : Int) <= 8))) e rfl (W.p1 (.bool (decide ((f.size : Int) <= 8))) (.nil ?_)))))
  obtain rfl := zAa ax
  exact ⟨decide ((f.size : Int) <= 8), _, rfl, T, (zAf _), rfl⟩
 refine .block (AW.loop (α := Nat) (fun af m q => ∃ (o : Int) (i : GM), z23 K f af o = some aj /\ Ow i q (L) /\ GM.le ah i /\ m 9 = .int .i64 o) (fun af => af) K ⟨0, _, aX, aW, (zAf _), rfl⟩ ?_)
 rintro C
 rintro a1 a8 E ⟨g, ay, u, w, p, x⟩
 rcases C with _ | C
 .exact z09 u
 rw [z23] at u
 refine .seq (.region (W.q3 (.bool (decide (g < ((z1l f).length : Int)))) x (ft (E 8 rfl) rfl) (.nil (.seq (.cond (b := decide (g < ((z1l f).length : Int))) rfl rfl (fun F => ?_) (fun F => ?_))))))
 rotate_left
 .have az := z16 F u
  refine .exit ?_
  obtain rfl := zAa az
  exact ⟨_, rfl, w, p⟩
 have aA := z03 F u
 refine .skip (.seq (.block (.seq (.region (W.q2 _ x ?_)))))
 obtain ⟨d, aB, aC⟩ := z05 aA
 have I := z1n aB
 refine W.pv (z4t aV (g.toNat * 1)) (z5d el47 sz5 (ou (ft (E 7 rfl) rfl)) (ou x) (z0x (RT.mono _ p ae)) I.1 I.2.1) (W.l1 (.int .u8 d) ag5 (z0d rfl (At.int (At.le (At.le (z3c ae I.2.2) p p) (zAf _) w.fro))) (W.p1 (.int .i64 g) (W.p1 (.int .u8 d) (.nil (.seq ?_)))))
 obtain ⟨aD, V, aE⟩ := z05 aC
 refine AW.midT (fun m q => ∃ (o : Bool) (i : GM), o = aD /\ Ow i q (L) /\ GM.le ay i /\ m 5 = .bool o) ?_ ?_
 .refine .region (W.p2 (.int .u8 d) (W.p3 (.bool (decide (d >= 65))) (W.p2 (.bool (decide (d >= 65))) (W.splitAt (t := 16) (b := decide (d >= 65)) rfl (fun J j => ?_) (fun J j => ?_)))))
  rotate_left
  .have aF := z16 J V
   refine W.q6 rfl j (W.q6 rfl j (W.q5 (.bool false) j rfl (W.p1 (.bool false) (.nil ?_))))
   obtain rfl := zAa aF
   exact ⟨false, _, rfl, w, (zAf _), rfl⟩
  have aG := z03 J V
  refine W.q2 (hg := gk rfl rfl j rfl) (.int .u8 d) rfl (W.q3 (hg := gk rfl rfl j rfl) (.bool (decide (d <= 90))) rfl rfl (W.q4 (.bool (decide (d <= 90))) j rfl (W.p1 (.bool (decide (d <= 90))) (.nil ?_))))
  obtain rfl := zAa aG
  exact ⟨decide (d <= 90), _, rfl, w, (zAf _), rfl⟩
 rintro a2 a9 s ⟨y, aH, rfl, z, X, aI⟩
 have aJ := z0b aE
 refine .seq ?_
 obtain ⟨aK, Y, aL⟩ := z05 aJ
 refine AW.midT (fun m q => ∃ (o : Bool) (i : GM), o = aK /\ Ow i q (L) /\ GM.le aH i /\ m 33 = .bool o) ?_ ?_
 rotate_left
 .rintro a3 ba ag ⟨aM, bb, rfl, Z, aa, aN⟩
  have ab := z0b aL
  refine .cond (b := aM) rfl aN (fun M => ?_) (fun M => ?_)
  .have aO := z03 M ab
   refine .seq (.region (W.p1 (.bool false) (.nil (.ret ?_))))
   obtain rfl := zAa aO
   have aP := z0b (z4e S)
   obtain rfl := zAa aP
   exact z4i kr (v1 := (.bool false)) (by rfl) rt Z (zAe ai (zAe p (zAe X aa))) rfl
  have aQ := z16 M ab
  refine .skip (.region (W.q3 (.int .i64 (z0p .i64 (g + 1))) (ft (ag 9 rfl) (ft (s 9 rfl) x)) rfl (W.p2 (.int .i64 (z0p .i64 (g + 1))) (.nil ?_))))
  exact ⟨C, zAg _, ⟨z0p .i64 (g + 1), _, aQ, Z, (zAe p (zAe X aa)), rfl⟩⟩
 refine .region (W.q2 _ aI (W.pv (.bool (!y)) (z1g (a := y) ov) (W.p2 (.bool (!y)) (W.splitAt (t := 22) (b := (!y)) rfl (fun N c => ?_) (fun N c => ?_)))))
 rotate_left
 .have aR := z16 N Y
  refine W.q6 rfl c (W.q6 rfl c (W.q6 rfl c (W.skipU rfl rfl rfl rfl (W.skipU rfl rfl rfl rfl (W.q6 rfl c (W.q6 rfl c ?_))))))
  refine W.skipU rfl rfl rfl rfl (W.skipU rfl rfl rfl rfl (W.q6 rfl c (W.q5 (.bool false) c rfl (.nil ?_))))
  obtain rfl := zAa aR
  exact ⟨false, _, rfl, z, (zAf _), rfl⟩
 have ac := z03 N Y
 refine W.q2 (hg := gk rfl rfl c rfl) (.int .i64 g) (ft (s 3 rfl) rfl) (W.q3 (hg := gk rfl rfl c rfl) (.bool (g == 0)) rfl rfl (W.q2 (hg := gk rfl rfl c rfl) (.bool (g == 0)) rfl (W.splitAt (t := 25) (b := (g == 0)) rfl (fun P k => ?_) (fun P k => ?_))))
 .have aS := z03 P ac
  refine W.q6 rfl k (W.q6 rfl k (W.q4 (hg := gk rfl rfl c rfl) (.bool true) k rfl (W.q2 (hg := gk rfl rfl c rfl) (.bool true) rfl (W.q6 rfl rfl (W.q6 rfl rfl (W.q4 (hg := gk rfl rfl c rfl) (.bool true) rfl rfl ?_))))))
  refine W.q4 (.bool true) c rfl (.nil ?_)
  obtain rfl := zAa aS
  exact ⟨true, _, rfl, z, (zAf _), rfl⟩
 have ad := z16 P ac
 refine W.q2 (hg := gk rfl rfl k rfl) (.int .u8 d) (ft (s 4 rfl) rfl) (W.q3 (hg := gk rfl rfl k rfl) (.bool (decide (d < 48))) rfl rfl (W.q5 (hg := gk rfl rfl c rfl) (.bool (decide (d < 48))) k rfl (W.q2 (hg := gk rfl rfl c rfl) (.bool (decide (d < 48))) rfl (W.splitAt (t := 29) (b := decide (d < 48)) rfl (fun Q l => ?_) (fun Q l => ?_)))))
 .have aT := z03 Q ad
  refine W.q6 rfl l (W.q6 rfl l (W.q4 (hg := gk rfl rfl c rfl) (.bool true) l rfl (W.q4 (.bool true) c rfl (.nil ?_))))
  obtain rfl := zAa aT
  exact ⟨true, _, rfl, z, (zAf _), rfl⟩
 have aU := z16 Q ad
 refine W.q2 (hg := gk rfl rfl l rfl) (.int .u8 d) (ft (s 4 rfl) rfl) (W.q3 (hg := gk rfl rfl l rfl) (.bool (decide (d > 57))) rfl rfl (W.q5 (hg := gk rfl rfl c rfl) (.bool (decide (d > 57))) l rfl (W.q4 (.bool (decide (d > 57))) c rfl (.nil ?_))))
 obtain rfl := zAa aU
 exact ⟨decide (d > 57), _, rfl, z, (zAf _), rfl⟩
def z0g (K : Nat) (b : List zAd) (c : zAd) : Nat -> Int -> Option (Int ⊕ Unit)
  | 0, _ => none
  | k + 1, a => (if (decide (a < (b.length : Int))) = true then ((idx b a).bind fun d => (if (sEq c d) = true then some (.inl a) else z0g K b c k (z0p .i64 (a + 1)))) else some (.inr ()))
def z1x (K : Nat) (b : List zAd) (c : zAd) : Option Int := (z5s (z0g K b c K 0) (tu1 fun a => some a) (tu0 (some (-1))))
theorem z4g (j : Value) (f : List zAd) (k : (rSl rS).rep G [j] f) (g : zAd) (O : Ow G H (L)) (r : Int) (h : z1x K f g = some r) :
    CR Tryd.prog 38 [j, (.string g)] G H (L) (fun v i _ => v = .int .i64 r) := by
 unfold z1x at h
 refine CR.og (n := 19) (fn := Tryd.f38) (by kernel_rfl) rfl rfl fun R kr => (.seq (.region (W.p1 (.int .i64 0) (.nil (.seq (.seq ?_))))))
 refine .region (W.p2 j (W.pv (.int .i64 (f.length : Int)) (z25 ov (z0x k) (z04 el22)) (W.p2 (.int .i64 0) (.nil ?_))))
 obtain ⟨z, S, A⟩ := z2t h
 refine AW.midT (fun t w => ∃  (i : GM), (.inr ()) = z /\ Ow i w (L) /\ GM.le G i) ?_ ?_
 rotate_left
 .rintro T V U ⟨X, rfl, B, C⟩
  have E := z7v (z6h A)
  refine .seq (.region (W.p1 (.int .i64 (-1)) (.nil (.ret ?_))))
  obtain rfl := zAa E
  exact z4i kr (v1 := (.int .i64 (-1))) (by rfl) rt B C rfl
 refine .block (AW.loop (α := Nat) (fun x t w => ∃ (F : Int) (i : GM), z0g K f g x F = some z /\ Ow i w (L) /\ GM.le G i /\ t 8 = .int .i64 F) (fun x => x) K ⟨0, _, S, O, (zAf _), rfl⟩ ?_)
 rintro y
 rintro Y Z l ⟨a, aa, d, e, c, m⟩
 rcases y with _ | y
 .exact z09 d
 rw [z0g] at d
 refine .seq (.region (W.q3 (.bool (decide (a < (f.length : Int)))) m (ft (l 7 rfl) rfl) (.nil (.seq (.cond (b := decide (a < (f.length : Int))) rfl rfl (fun o => ?_) (fun o => ?_))))))
 rotate_left
 .have I := z16 o d
  refine .exit ?_
  obtain rfl := zAa I
  exact ⟨_, rfl, e, c⟩
 have J := z03 o d
 refine .skip (.seq (.block (.seq (.region (W.q2 _ m (W.p1 (.int .i64 a) ?_))))))
 refine .nil (.seq (.region (W.q2 (.string g) (ft (l 1 rfl) rfl) (W.q2 j (ft (l 0 rfl) rfl) (W.p2 (.int .i64 a) ?_)))))
 obtain ⟨p, M, u⟩ := z05 J
 have q := z1n M
 refine W.pv (z4t j (a.toNat * 1)) (z5d el22 sz9 ov ov (z0x (RT.mono _ c k)) q.1 q.2.1) (W.l1 (.string p) ag9 (z0d rfl (At.str (At.le (At.le (z3c k q.2.2) c c) (zAf _) e.fro))) (W.pv (.bool (sEq g p)) (zc2 ov ov) (.nil (.cond (b := sEq g p) rfl rfl (fun s => ?_) (fun s => ?_)))))
 rotate_left
 .have N := z16 s u
  refine .skip (.region (W.r3 (.int .i64 (z0p .i64 (a + 1))) m (W.p2 (.int .i64 (z0p .i64 (a + 1))) (.nil ?_))))
  exact ⟨y, zAg _, ⟨z0p .i64 (a + 1), _, N, e, c, rfl⟩⟩
 have P := z03 s u
 refine .seq (.region (W.p2 (.int .i64 a) (W.p1 (.int .i64 a) (.nil (.ret ?_)))))
 obtain rfl := zAa P
 have Q := z0b (z4e A)
 obtain rfl := zAa Q
 exact z4i kr (v1 := (.int .i64 a)) (by rfl) rt e c rfl
def z0a (K : Nat) (a : List zAd) (b : zAd) : Option Bool := ((z1x K a b).bind fun c => some (decide (c >= 0)))
theorem z15 (a : Value) (c : List zAd) (e : (rSl rS).rep G [a] c) (b : zAd) (O : Ow G H (L)) (r : Bool) (h : z0a K c b = some r) :
    CR Tryd.prog 19 [a, (.string b)] G H (L) (fun v p _ => v = .bool r) := by
 unfold z0a at h
 refine CR.og (n := 9) (fn := Tryd.f19) (by kernel_rfl) rfl rfl fun R kr => (.seq (.region (W.p1 (.bool false) (.nil (.seq (.region ?_))))))
 refine W.p2 a (W.p2 (.string b) ?_)
 obtain ⟨d, f, g⟩ := z05 h
 refine W.ln (Lo.cQ Tryd.f38 (mc rfl (mc rfl mn)) O (fun q i => z4g K a c e b i _ f)) ?_
 rintro l m ⟨s, j, k, o, rfl⟩
 refine W.p3 (.bool (decide (d >= 0))) (W.p1 (.bool (decide (d >= 0))) (.nil (.ret ?_)))
 obtain rfl := zAa g
 exact z4i kr (v1 := (.bool (decide (d >= 0)))) (by rfl) rt j k rfl
structure Netmodel_names where
  l : List zAd
  deriving DecidableEq, Inhabited
def z06 : RT (Netmodel_names × Value) := rIso rV (fun s : Netmodel_names × Value => (s.2))
theorem z47 : Proj z06 0 rV (fun x => x.2) := by
  have h := (Proj.iso rV (fun s : Netmodel_names × Value => (s.2))).comp (Proj.self _)
  exact h
theorem z5r : Put z06 0 rV (fun x y => (x.1, y)) := by
  have h := Put.comp (Proj.iso rV (fun s : Netmodel_names × Value => (s.2))) (Put.iso rV (fun s : Netmodel_names × Value => (s.2)) (fun x q => (x.1, q)) (fun _ _ => rfl)) (Put.self _)
  exact h
def z24 (K : Nat) (a : Netmodel_names) (b : zAd) : Option (Int × Netmodel_names) := ((z3n K b).bind fun d => (if (!d) = true then some (5, (Netmodel_names.mk a.l)) else ((z0a K a.l b).bind fun c => (if c = true then some (7, (Netmodel_names.mk a.l)) else (if a.l.length + [b].length <= 16777216 then some (0, (Netmodel_names.mk (a.l ++ [b]))) else none)))))
theorem z48 (c : Nat) (e : Value) (q : Netmodel_names) (d : zAd) (O : Ow G H (eVar c 84 z06 (q, e) :: eSl e 9 rS q.l :: L)) (r : Int × Netmodel_names) (h : z24 K q d = some r) :
    CRF Tryd.prog 32 [.pointer (some ⟨c, 0, none⟩), (.string d)] G H (fun wl => (eVar c 84 z06 (r.2, wl) :: eSl wl 9 rS r.2.l :: L)) (fun wl v U => v = .int .i64 r.1) := by
 unfold z24 at h
 refine CRF.og (n := 24) (fn := Tryd.f32) (by kernel_rfl) rfl rfl fun R kr => (.seq (.region (W.p1 (.int .i64 0) (.nil (.seq (.seq ?_))))))
 refine .region (W.p2 (.string d) ?_)
 obtain ⟨x, V, A⟩ := z05 h
 refine W.ln (Lo.cQ Tryd.f47 (mc rfl mn) O (fun X y => z7o K d y _ V)) ?_
 rintro ad ae ⟨ao, i, z, af, rfl⟩
 refine W.pv (.bool (!x)) (z1g (a := x) ov) (.nil (.cond (b := (!x)) rfl rfl (fun k => ?_) (fun k => ?_)))
 .have B := z03 k A
  refine .seq (.region (W.p1 (.int .i64 5) (.nil (.ret ?_))))
  obtain rfl := zAa B
  exact z5q kr e (v1 := (.int .i64 5)) (by rfl) rt i z rfl
 have C := z16 k A
 refine .skip (.seq (.seq (.region (W.p2 (.pointer (some ⟨c, 0, none⟩)) (W.pv (.pointer (some ⟨c, 0, none⟩)) (zdh ov (i.atVar (j := 0) rfl)) (W.pv (padd (.pointer (some ⟨c, 0, none⟩)) 0) (z07 zgw ov (i.atVar (j := 0) rfl)) ?_))))))
 refine W.l1 e ag22 (z0d rfl (At.raw (At.proj (i.atVar (j := 0) rfl) z47))) (W.p2 (.string d) ?_)
 obtain ⟨E, F, t⟩ := z05 C
 refine W.ln (Lo.callB (j := 1) rfl rfl (fn := Tryd.f19) (by kernel_rfl) rfl (mc rfl (mc rfl mn)) i (fun U X hG y hB => z15 K e q.l hB d y _ F)) ?_
 rintro ag ah ⟨ai, f, u, Y, rfl⟩
 refine .nil (.cond (b := E) rfl rfl (fun m => ?_) (fun m => ?_))
 .have I := z03 m t
  refine .seq (.region (W.p1 (.int .i64 7) (.nil (.ret ?_))))
  obtain rfl := zAa I
  exact z5q kr e (v1 := (.int .i64 7)) (by rfl) rt f (zAe z u) rfl
 have J := z16 m t
 refine .skip (.seq (.region (W.p2 (.pointer (some ⟨c, 0, none⟩)) (W.p2 (.pointer (some ⟨c, 0, none⟩)) (W.pv (.pointer (some ⟨c, 0, none⟩)) (zdh ov (f.atVar (j := 0) rfl)) (W.pv (padd (.pointer (some ⟨c, 0, none⟩)) 0) (z07 zgw ov (f.atVar (j := 0) rfl)) ?_))))))
 refine W.l1 e ag22 (z0d rfl (At.raw (At.proj (f.atVar (j := 0) rfl) z47))) (W.p2 (.string d) (W.ln (Lo.buildSlice (r := rS) (vs := [(.string d)]) (xs := [d]) el22 ze9 sz9 (by kernel_rfl) rfl (qc rfl qn) rfl (.cons rfl .nil) f) ?_))
 rintro aj ak ⟨w, Z⟩
 obtain ⟨aa, M, N⟩ := z3a (j := 0) rfl w
 obtain ⟨P, Q⟩ := z2a J
 refine W.ln (Lo.append (j := 2) (v := e) rfl rfl el22 ni22 ze9 sz9 by9 (by decide) (by decide) rfl M N P w) ?_
 rintro p al ⟨g, ab⟩
 refine W.pv (.pointer (some ⟨c, 0, none⟩)) (zdh ov (g.atVar (j := 1) rfl)) (W.pv (padd (.pointer (some ⟨c, 0, none⟩)) 0) (z07 zgw ov (g.atVar (j := 1) rfl)) (W.ln (Lo.storeVar (j := 1) (s := rV) (y0 := p) (v := p) (o := 0) rfl ((Put.at z5r _ _)) rfl sz22 rfl (by omega) rfl (zi2 (g.slLen (j := 2) rfl)) g) ?_))
 rintro am an ⟨S, ac⟩
 refine .nil (.seq (.region (W.p1 (.int .i64 0) (.nil (.ret ?_)))))
 have T := S.drop 0
 obtain rfl := zAa Q
 exact z5q kr p (v1 := (.int .i64 0)) (by rfl) rt T (zAe z u) rfl
def z0z (K : Nat) (c : Network) (b : List zAd) : Nat -> Int -> Option (Int ⊕ Unit)
  | 0, _ => none
  | k + 1, a => (if (decide (a < (b.length : Int))) = true then ((idx b a).bind fun d => ((z0a K c.Nodes d).bind fun e => (if (!e) = true then some (.inl 6) else z0z K c b k (z0p .i64 (a + 1))))) else some (.inr ()))
def z3o (K : Nat) (b : Network) (c : List zAd) : Option Int := (z5s (z0z K b c K 0) (tu1 fun a => some a) (tu0 (some 0)))
theorem z7p (B : List Value) (f : Network) (J : z00.rep G B f) (v1 : Value) (l : List zAd) (o : (rSl rS).rep G [v1] l) (O : Ow G H (L)) (r : Int) (h : z3o K f l = some r) :
    CR Tryd.prog 48 [.agg B.toArray, v1] G H (L) (fun v m _ => v = .int .i64 r) := by
 unfold z3o at h
 refine CR.og (n := 19) (fn := Tryd.f48) (by kernel_rfl) rfl rfl fun R kr => (.seq (.region (W.ln (Lo.box (r := z00) (x0 := f) (v := (.agg B.toArray)) rfl rfl J O) ?_)))
 rintro ay az ⟨C, rfl, ah, ao⟩
 refine W.p1 (.int .i64 0) (.nil (.seq (.seq (.region (W.p2 v1 (W.pv (.int .i64 (l.length : Int)) (z25 ov (z0x o) (z04 el22)) ?_))))))
 refine W.p2 (.int .i64 0) (.nil ?_)
 obtain ⟨M, ai, N⟩ := z2t h
 refine AW.midT (fun w E => ∃  (m : GM), (.inr ()) = M /\ Ow m E (eVar C 29 z00 f :: L) /\ GM.le G m) ?_ ?_
 rotate_left
 .rintro aj ap ak ⟨aq, rfl, P, Q⟩
  have S := z7v (z6h N)
  refine .seq (.region (W.p1 (.int .i64 0) (.nil (.ret ?_))))
  have T := P.drop 0
  obtain rfl := zAa S
  exact z4i kr (v1 := (.int .i64 0)) (by rfl) rt T Q rfl
 refine .block (AW.loop (α := Nat) (fun F w E => ∃ (U : Int) (m : GM), z0z K f l F U = some M /\ Ow m E (eVar C 29 z00 f :: L) /\ GM.le G m /\ w 9 = .int .i64 U) (fun F => F) K ⟨0, _, ai, ah, (zAf _), rfl⟩ ?_)
 rintro I
 rintro al ar g ⟨c, au, i, e, d, p⟩
 rcases I with _ | I
 .exact z09 i
 rw [z0z] at i
 refine .seq (.region (W.q3 (.bool (decide (c < (l.length : Int)))) p (ft (g 8 rfl) rfl) (.nil (.seq (.cond (b := decide (c < (l.length : Int))) rfl rfl (fun q => ?_) (fun q => ?_))))))
 rotate_left
 .have V := z16 q i
  refine .exit ?_
  obtain rfl := zAa V
  exact ⟨_, rfl, e, d⟩
 have X := z03 q i
 refine .skip (.seq (.block (.seq (.region ?_))))
 obtain ⟨k, Y, Z⟩ := z05 X
 have s := z1n Y
 refine W.pv (z4t v1 (c.toNat * 1)) (z5d el22 sz9 (ou (ft (g 7 rfl) rfl)) (ou p) (z0x (RT.mono _ d o)) s.1 s.2.1) (W.l1 (.string k) ag9 (z0d rfl (At.str (At.le (At.le (z3c o s.2.2) d d) (zAf _) e.fro))) (W.p1 (.string k) (.nil (.seq (.region (W.pv (padd (.pointer (some ⟨C, 0, none⟩)) 0) (z07 zac (ou (ft (g 2 rfl) rfl)) (e.atVar (j := 0) rfl)) ?_))))))
 obtain ⟨x, aa, ab⟩ := At.sl (At.proj (e.atVar (j := 0) rfl) z29)
 refine W.l1 x ag22 (z0d rfl aa) (W.p2 (.string k) ?_)
 obtain ⟨t, ac, y⟩ := z05 Z
 refine W.ln (Lo.cQ Tryd.f19 (mc rfl (mc rfl mn)) e (fun aA am => z15 K x f.Nodes ab k am _ ac)) ?_
 rintro av aw ⟨ax, z, A, an, rfl⟩
 refine W.pv (.bool (!t)) (z1g (a := t) ov) (.nil (.cond (b := (!t)) rfl rfl (fun u => ?_) (fun u => ?_)))
 rotate_left
 .have ad := z16 u y
  refine .skip (.region (W.r3 (.int .i64 (z0p .i64 (c + 1))) p (W.p2 (.int .i64 (z0p .i64 (c + 1))) (.nil ?_))))
  exact ⟨I, zAg _, ⟨z0p .i64 (c + 1), _, ad, z, (zAe d A), rfl⟩⟩
 have ae := z03 u y
 refine .seq (.region (W.p1 (.int .i64 6) (.nil (.ret ?_))))
 have af := z.drop 0
 obtain rfl := zAa ae
 have ag := z0b (z4e N)
 obtain rfl := zAa ag
 exact z4i kr (v1 := (.int .i64 6)) (by rfl) rt af (zAe d A) rfl
def z1k (K : Nat) (c : Network) (d : Netmodel_names) (e : zAd) (f : List zAd) : Option (Int × Netmodel_names) := ((z24 K (Netmodel_names.mk d.l) e).bind fun a => (if (a.1 != 0) = true then some (a.1, (Netmodel_names.mk a.2.l)) else ((z3o K c f).bind fun b => some (b, (Netmodel_names.mk a.2.l)))))
theorem z2d (u : List Value) (g : Network) (z : z00.rep G u g) (c : Nat) (v1 : Value) (i : Netmodel_names) (k : zAd) (m : Value) (x : List zAd) (A : (rSl rS).rep G [m] x) (O : Ow G H (eVar c 84 z06 (i, v1) :: eSl v1 9 rS i.l :: L)) (r : Int × Netmodel_names) (h : z1k K g i k x = some r) :
    CRF Tryd.prog 33 [.agg u.toArray, .pointer (some ⟨c, 0, none⟩), (.string k), m] G H (fun wl => (eVar c 84 z06 (r.2, wl) :: eSl wl 9 rS r.2.l :: L)) (fun wl v af => v = .int .i64 r.1) := by
 unfold z1k at h
 refine CRF.og (n := 19) (fn := Tryd.f33) (by kernel_rfl) rfl rfl fun R kr => (.seq (.region (W.ln (Lo.box (r := z00) (x0 := g) (v := (.agg u.toArray)) rfl rfl z O) ?_)))
 rintro ag ah ⟨ai, rfl, S, Y⟩
 refine W.p1 (.int .i64 0) (.nil (.seq (.seq (.region (W.p2 (.pointer (some ⟨c, 0, none⟩)) (W.p2 (.string k) ?_))))))
 have T := ((S.front (j := 0) rfl).front (j := 2) rfl).front (j := 2) rfl
 obtain ⟨a, B, o⟩ := z05 h
 refine W.ln (Lo.qF Tryd.f32 (ps := [_, _]) (pw := fun w => [_, _]) (mc rfl (mc rfl mn)) T (fun U y => z48 K c v1 (Netmodel_names.mk i.l) k y _ B)) ?_
 rintro Z aa ⟨p, ab, d, e, V, rfl⟩
 refine W.p1 (.int .i64 a.1) (.nil (.seq (.region (W.p2 (.int .i64 a.1) (W.p3 (.bool (a.1 != 0)) (.nil ?_))))))
 refine .cond (b := (a.1 != 0)) rfl rfl (fun f => ?_) (fun f => ?_)
 .have C := z03 f o
  refine .seq (.region (W.p2 (.int .i64 a.1) (W.p1 (.int .i64 a.1) (.nil (.ret ?_)))))
  have E := d.drop 2
  obtain rfl := zAa C
  exact z5q kr p (v1 := (.int .i64 a.1)) (by rfl) rt E e rfl
 have F := z16 f o
 refine .skip (.seq (.region ?_))
 obtain ⟨q, I, s⟩ := (d.atVar (j := 2) rfl)
 refine W.loadA (cs := q) rfl rfl ag29 sz29 (z0d rfl I) (RT.len _ s) (W.p2 m ?_)
 obtain ⟨t, J, M⟩ := z05 F
 refine W.ln (Lo.cQ Tryd.f48 (mc rfl (mc rfl mn)) d (fun U y => z7p K q g s m x (RT.mono _ e A) y _ J)) ?_
 rintro ac ad ⟨ae, N, P, X, rfl⟩
 refine W.p1 (.int .i64 t) (.nil (.ret ?_))
 have Q := N.drop 2
 obtain rfl := zAa M
 exact z5q kr p (v1 := (.int .i64 t)) (by rfl) rt Q (zAe e P) rfl
def z0c (K : Nat) (a : Int) (b : Int) (c : Int) : Option Bool := (Option.bind ((if (decide (a >= b)) = true then some (decide (a <= c)) else some false)) (tu1 fun d => some d))
theorem z0e (c : Int) (e : Int) (d : Int) (O : Ow G H (L)) (r : Bool) (h : z0c K c e d = some r) :
    CR Tryd.prog 49 [(.int .i64 c), (.int .i64 e), (.int .i64 d)] G H (L) (fun v f _ => v = .bool r) := by
 unfold z0c at h
 refine CR.og (n := 15) (fn := Tryd.f49) (by kernel_rfl) rfl rfl fun R kr => (.seq (.region (W.p1 (.bool false) (.nil (.seq ?_)))))
 obtain ⟨q, i, s⟩ := z05 h
 refine AW.midT (fun j u => ∃ (k : Bool) (f : GM), k = q /\ Ow f u (L) /\ GM.le G f /\ j 6 = .bool k) ?_ ?_
 rotate_left
 .rintro A B w ⟨x, C, rfl, l, m, o⟩
  have p := z0b s
  refine .ret ?_
  obtain rfl := zAa p
  exact z4i kr (v1 := (.bool x)) (by rfl) (z2i (by rfl) (by exact o)) l m rfl
 refine .region (W.p2 (.int .i64 c) (W.p2 (.int .i64 e) (W.p3 (.bool (decide (c >= e))) (W.p2 (.bool (decide (c >= e))) (W.splitAt (t := 10) (b := decide (c >= e)) rfl (fun g a => ?_) (fun g a => ?_))))))
 rotate_left
 .have y := z16 g i
  refine W.q6 rfl a (W.q6 rfl a (W.q6 rfl a (W.q5 (.bool false) a rfl (W.p1 (.bool false) (.nil ?_)))))
  obtain rfl := zAa y
  exact ⟨false, _, rfl, O, (zAf _), rfl⟩
 have z := z03 g i
 refine W.q2 (hg := gk rfl rfl a rfl) (.int .i64 c) rfl (W.q2 (hg := gk rfl rfl a rfl) (.int .i64 d) rfl (W.q3 (hg := gk rfl rfl a rfl) (.bool (decide (c <= d))) rfl rfl (W.q4 (.bool (decide (c <= d))) a rfl (W.p1 (.bool (decide (c <= d))) (.nil ?_)))))
 obtain rfl := zAa z
 exact ⟨decide (c <= d), _, rfl, O, (zAf _), rfl⟩
def z35 (K : Nat) (a : Branch) : Option Int := (Option.bind (((z0c K a.X 1 10000).bind fun i => (if (!i) = true then some true else ((z0c K a.Tap 500 1500).bind fun c => (if (!c) = true then some true else ((z0c K a.Shift (-1000) 1000).bind fun d => some (!d))))))) (tu1 fun e => (if e = true then some 4 else (Option.bind (((z0c K a.Limit 0 100000).bind fun f => (if (!f) = true then some true else ((z0c K a.Short a.Limit 100000).bind fun g => (if (!g) = true then some true else ((z0c K a.Hold 0 200000).bind fun h => some (!h))))))) (tu1 fun b => (if b = true then some 4 else some 0))))))
theorem z6r (ah : List Value) (g : Branch) (au : z0f.rep G ah g) (O : Ow G H (L)) (r : Int) (h : z35 K g = some r) :
    CR Tryd.prog 34 [.agg ah.toArray] G H (L) (fun v B _ => v = .int .i64 r) := by
 unfold z35 at h
 refine CR.og (n := 37) (fn := Tryd.f34) (by kernel_rfl) rfl rfl fun R kr => (.seq (.region (W.ln (Lo.box (r := z0f) (x0 := g) (v := (.agg ah.toArray)) rfl rfl au O) ?_)))
 rintro bu bv ⟨l, rfl, ai, bd⟩
 refine W.p1 (.int .i64 0) (.nil (.seq (.seq ?_)))
 obtain ⟨aZ, a0, a1⟩ := z05 h
 refine AW.midT (fun C aj => ∃ (E : Bool) (B : GM), E = aZ /\ Ow B aj (eVar l 69 z0f g :: L) /\ GM.le G B /\ C 18 = .bool E) ?_ ?_
 .refine .region (W.pv (padd (.pointer (some ⟨l, 0, none⟩)) 3) (z07 zfd ov (ai.atVar (j := 0) rfl)) (W.l1 (.int .i64 g.X) ag3 (z0d rfl (At.int (At.proj (ai.atVar (j := 0) rfl) z78))) ?_))
  obtain ⟨Z, av, aa⟩ := z05 a0
  refine W.ln (Lo.cQ Tryd.f49 (mc rfl (mc rfl (mc rfl mn))) ai (fun F i => z0e K g.X 1 10000 i _ av)) ?_
  rintro be bf ⟨bg, s, I, a2, rfl⟩
  refine W.pv (.bool (!Z)) (z1g (a := Z) ov) (W.p2 (.bool (!Z)) (W.splitAt (t := 7) (b := (!Z)) rfl (fun J d => ?_) (fun J d => ?_)))
  .have aw := z03 J aa
   refine W.q6 rfl d (W.q6 rfl d (W.q6 rfl d (W.q6 rfl d (W.q4 (.bool true) d rfl (W.p2 (.bool true) (W.q6 rfl rfl ?_))))))
   refine W.q6 rfl rfl (W.q6 rfl rfl (W.q6 rfl rfl (W.q4 (.bool true) rfl rfl (.nil ?_))))
   obtain rfl := zAa aw
   exact ⟨true, _, rfl, s, I, rfl⟩
  have ax := z16 J aa
  refine W.pure (v := (padd (.pointer (some ⟨l, 0, none⟩)) 4)) (gl rfl d) rfl (z07 zfe ov (s.atVar (j := 0) rfl)) (W.load1 (v := (.int .i64 g.Tap)) (r := []) (gl rfl d) rfl ag3 (z0d rfl (At.int (At.proj (s.atVar (j := 0) rfl) z5i))) ?_)
  obtain ⟨o, ay, ab⟩ := z05 ax
  refine W.lo (gl rfl d) rfl (Lo.cQ Tryd.f49 (mc rfl (mc rfl (mc rfl mn))) s (fun F i => z0e K g.Tap 500 1500 i _ ay)) ?_
  rintro bh bi ⟨bj, u, ac, a3, rfl⟩
  refine W.pure (v := (.bool (!o))) (gl rfl d) rfl (z1g (a := o) ov) (W.q5 (.bool (!o)) d rfl (W.p2 (.bool (!o)) (W.splitAt (t := 13) (b := (!o)) rfl (fun M e => ?_) (fun M e => ?_))))
  .have az := z03 M ab
   refine W.q6 rfl e (W.q6 rfl e (W.q6 rfl e (W.q6 rfl e (W.q4 (.bool true) e rfl (.nil ?_)))))
   obtain rfl := zAa az
   exact ⟨true, _, rfl, u, (zAe I ac), rfl⟩
  have aA := z16 M ab
  refine W.pure (v := (padd (.pointer (some ⟨l, 0, none⟩)) 5)) (gl rfl e) rfl (z07 zff ov (u.atVar (j := 0) rfl)) (W.load1 (v := (.int .i64 g.Shift)) (r := []) (gl rfl e) rfl ag3 (z0d rfl (At.int (At.proj (u.atVar (j := 0) rfl) z4k))) ?_)
  obtain ⟨w, aB, aC⟩ := z05 aA
  refine W.lo (gl rfl e) rfl (Lo.cQ Tryd.f49 (mc rfl (mc rfl (mc rfl mn))) u (fun F i => z0e K g.Shift (-1000) 1000 i _ aB)) ?_
  rintro bk bl ⟨bm, aD, aE, a4, rfl⟩
  refine W.pure (v := (.bool (!w))) (gl rfl e) rfl (z1g (a := w) ov) (W.q5 (.bool (!w)) e rfl (.nil ?_))
  obtain rfl := zAa aC
  exact ⟨(!w), _, rfl, aD, (zAe I (zAe ac aE)), rfl⟩
 rintro a5 bn m ⟨aF, aG, rfl, x, N, aH⟩
 have ad := z0b a1
 refine .cond (b := aF) rfl aH (fun P => ?_) (fun P => ?_)
 .have aI := z03 P ad
  refine .seq (.region (W.p1 (.int .i64 4) (.nil (.ret ?_))))
  have aJ := x.drop 0
  obtain rfl := zAa aI
  exact z4i kr (v1 := (.int .i64 4)) (by rfl) rt aJ N rfl
 have aK := z16 P ad
 refine .skip (.seq (.seq ?_))
 obtain ⟨aL, aM, aN⟩ := z05 aK
 refine AW.midT (fun C aj => ∃ (E : Bool) (B : GM), E = aL /\ Ow B aj (eVar l 69 z0f g :: L) /\ GM.le aG B /\ C 36 = .bool E) ?_ ?_
 rotate_left
 .rintro aW a6 aX ⟨ak, a7, rfl, Q, S, al⟩
  have T := z0b aN
  refine .cond (b := ak) rfl al (fun q => ?_) (fun q => ?_)
  .have am := z03 q T
   refine .seq (.region (W.p1 (.int .i64 4) (.nil (.ret ?_))))
   have an := Q.drop 0
   obtain rfl := zAa am
   exact z4i kr (v1 := (.int .i64 4)) (by rfl) rt an (zAe N S) rfl
  have ao := z16 q T
  refine .skip (.seq (.region (W.p1 (.int .i64 0) (.nil (.ret ?_)))))
  have ap := Q.drop 0
  obtain rfl := zAa ao
  exact z4i kr (v1 := (.int .i64 0)) (by rfl) rt ap (zAe N S) rfl
 refine .region (W.pv (padd (.pointer (some ⟨l, 0, none⟩)) 6) (z07 zc8 (ou (ft (m 1 rfl) rfl)) (x.atVar (j := 0) rfl)) (W.l1 (.int .i64 g.Limit) ag3 (z0d rfl (At.int (At.proj (x.atVar (j := 0) rfl) z3g))) ?_))
 obtain ⟨y, aO, ae⟩ := z05 aM
 refine W.ln (Lo.cQ Tryd.f49 (mc rfl (mc rfl (mc rfl mn))) x (fun F i => z0e K g.Limit 0 100000 i _ aO)) ?_
 rintro bo bp ⟨bq, k, U, a8, rfl⟩
 refine W.pv (.bool (!y)) (z1g (a := y) ov) (W.p2 (.bool (!y)) (W.splitAt (t := 23) (b := (!y)) rfl (fun V c => ?_) (fun V c => ?_)))
 .have aP := z03 V ae
  refine W.q6 rfl c (W.q6 rfl c (W.q6 rfl c (W.q6 rfl c (W.q6 rfl c (W.q6 rfl c (W.q4 (.bool true) c rfl ?_))))))
  refine W.p2 (.bool true) (W.q6 rfl rfl (W.q6 rfl rfl (W.q6 rfl rfl (W.q6 rfl rfl (W.q4 (.bool true) rfl rfl (.nil ?_))))))
  obtain rfl := zAa aP
  exact ⟨true, _, rfl, k, U, rfl⟩
 have aQ := z16 V ae
 refine W.pure (v := (padd (.pointer (some ⟨l, 0, none⟩)) 7)) (gl rfl c) rfl (z07 zfg (ou (ft (m 1 rfl) rfl)) (k.atVar (j := 0) rfl)) (W.load1 (v := (.int .i64 g.Short)) (r := []) (gl rfl c) rfl ag3 (z0d rfl (At.int (At.proj (k.atVar (j := 0) rfl) z4l))) (W.pure (v := (padd (.pointer (some ⟨l, 0, none⟩)) 6)) (gl rfl c) rfl (z07 zc8 (ou (ft (m 1 rfl) rfl)) (k.atVar (j := 0) rfl)) (W.load1 (v := (.int .i64 g.Limit)) (r := []) (gl rfl c) rfl ag3 (z0d rfl (At.int (At.proj (k.atVar (j := 0) rfl) z3g))) ?_)))
 obtain ⟨p, aR, af⟩ := z05 aQ
 refine W.lo (gl rfl c) rfl (Lo.cQ Tryd.f49 (mc rfl (mc rfl (mc rfl mn))) k (fun F i => z0e K g.Short g.Limit 100000 i _ aR)) ?_
 rintro br bs ⟨bt, z, ag, a9, rfl⟩
 refine W.pure (v := (.bool (!p))) (gl rfl c) rfl (z1g (a := p) ov) (W.q5 (.bool (!p)) c rfl (W.p2 (.bool (!p)) (W.splitAt (t := 31) (b := (!p)) rfl (fun Y f => ?_) (fun Y f => ?_))))
 .have aS := z03 Y af
  refine W.q6 rfl f (W.q6 rfl f (W.q6 rfl f (W.q6 rfl f (W.q4 (.bool true) f rfl (.nil ?_)))))
  obtain rfl := zAa aS
  exact ⟨true, _, rfl, z, (zAe U ag), rfl⟩
 have aT := z16 Y af
 refine W.pure (v := (padd (.pointer (some ⟨l, 0, none⟩)) 8)) (gl rfl f) rfl (z07 zfh (ou (ft (m 1 rfl) rfl)) (z.atVar (j := 0) rfl)) (W.load1 (v := (.int .i64 g.Hold)) (r := []) (gl rfl f) rfl ag3 (z0d rfl (At.int (At.proj (z.atVar (j := 0) rfl) z55))) ?_)
 obtain ⟨A, aU, aV⟩ := z05 aT
 refine W.lo (gl rfl f) rfl (Lo.cQ Tryd.f49 (mc rfl (mc rfl (mc rfl mn))) z (fun F i => z0e K g.Hold 0 200000 i _ aU)) ?_
 rintro ba bb ⟨bc, aq, ar, aY, rfl⟩
 refine W.pure (v := (.bool (!A))) (gl rfl f) rfl (z1g (a := A) ov) (W.q5 (.bool (!A)) f rfl (.nil ?_))
 obtain rfl := zAa aV
 exact ⟨(!A), _, rfl, aq, (zAe U (zAe ag ar)), rfl⟩
def z0l (K : Nat) (d : Network) : Nat -> Netmodel_names -> List zAd -> Int -> Option ((Int × Netmodel_names) ⊕ (Netmodel_names × List zAd))
  | 0, _, _, _ => none
  | k + 1, h, e, c => (if (decide (c < (d.Gens.length : Int))) = true then ((idx d.Gens c).bind fun a => ((z1k K d (Netmodel_names.mk e) a.Name [a.Node]).bind fun b => (if (b.1 != 0) = true then some (.inl (b.1, (Netmodel_names.mk b.2.l))) else (Option.bind (((z0c K a.Least 0 100000).bind fun i => (if (!i) = true then some true else ((z0c K a.Most a.Least 100000).bind fun j => (if (!j) = true then some true else ((z0c K a.Ramp 0 100000).bind fun f => some (!f))))))) (tu1 fun g => (if g = true then some (.inl (4, (Netmodel_names.mk b.2.l))) else z0l K d k b.2 b.2.l (z0p .i64 (c + 1)))))))) else some (.inr (h, e)))
def z0m (K : Nat) (e : Network) : Nat -> Netmodel_names -> List zAd -> Int -> Option ((Int × Netmodel_names) ⊕ (Netmodel_names × List zAd))
  | 0, _, _, _ => none
  | k + 1, f, d, b => (if (decide (b < (e.Loads.length : Int))) = true then ((idx e.Loads b).bind fun c => ((z1k K e (Netmodel_names.mk d) c.Name [c.Node]).bind fun a => (if (a.1 != 0) = true then some (.inl (a.1, (Netmodel_names.mk a.2.l))) else ((z0c K c.Demand 0 100000).bind fun g => (if (!g) = true then some (.inl (4, (Netmodel_names.mk a.2.l))) else z0m K e k a.2 a.2.l (z0p .i64 (b + 1))))))) else some (.inr (f, d)))
def z0n (K : Nat) (e : Network) : Nat -> Netmodel_names -> List zAd -> Int -> Option ((Int × Netmodel_names) ⊕ (Netmodel_names × List zAd))
  | 0, _, _, _ => none
  | k + 1, f, d, c => (if (decide (c < (e.Stores.length : Int))) = true then ((idx e.Stores c).bind fun b => ((z1k K e (Netmodel_names.mk d) b.Name [b.Node]).bind fun a => (if (a.1 != 0) = true then some (.inl (a.1, (Netmodel_names.mk a.2.l))) else (Option.bind (((z0c K b.Charge 0 100000).bind fun g => (if (!g) = true then some true else ((z0c K b.Discharge 0 100000).bind fun h => (if (!h) = true then some true else ((z0c K b.Capacity 0 100000).bind fun i => some (!i))))))) (tu1 fun j => (if j = true then some (.inl (4, (Netmodel_names.mk a.2.l))) else z0n K e k a.2 a.2.l (z0p .i64 (c + 1)))))))) else some (.inr (f, d)))
def z2x (K : Nat) (a : Network) (n : Netmodel_names) : Option (Int × Netmodel_names) := (z5s (z0l K a K n n.l 0) (tu2 fun b c => some (b, c)) (tu2 fun d e => (z5s (z0m K a K d e 0) (tu2 fun f g => some (f, g)) (tu2 fun h i => (z5s (z0n K a K h i 0) (tu2 fun j k => some (j, k)) (tu2 fun o m => some (0, (Netmodel_names.mk m))))))))
theorem z6j (b3 : List Value) (i : Network) (dG : z00.rep G b3 i) (A : Nat) (v1 : Value) (a8 : Netmodel_names) (O : Ow G H (eVar A 84 z06 (a8, v1) :: eSl v1 9 rS a8.l :: L)) (r : Int × Netmodel_names) (h : z2x K i a8 = some r) :
    CRF Tryd.prog 35 [.agg b3.toArray, .pointer (some ⟨A, 0, none⟩)] G H (fun wl => (eVar A 84 z06 (r.2, wl) :: eSl wl 9 rS r.2.l :: L)) (fun wl v m => v = .int .i64 r.1) := by
 unfold z2x at h
 refine CRF.og (n := 109) (fn := Tryd.f35) (by kernel_rfl) rfl rfl fun R kr => (.seq (.region (W.ln (Lo.box (r := z00) (x0 := i) (v := (.agg b3.toArray)) rfl rfl dG O) ?_)))
 rintro fH fI ⟨V, rfl, b4, fr⟩
 refine W.p1 (.int .i64 0) (.nil (.seq (.seq (.region (W.pv (padd (.pointer (some ⟨V, 0, none⟩)) 3) (z07 zc5 ov (b4.atVar (j := 0) rfl)) ?_)))))
 obtain ⟨dH, ex, b5⟩ := At.sl (At.proj (b4.atVar (j := 0) rfl) z3h)
 refine W.l1 dH ag25 (z0d rfl ex) (W.pv (.int .i64 (i.Gens.length : Int)) (z25 ov (z0x b5) (z04 el25)) (W.p2 (.int .i64 0) (.nil ?_)))
 obtain ⟨dI, dJ, a9⟩ := z2t h
 refine AW.midT (fun z F => ∃ (p : Netmodel_names) (B : List zAd) (w_k1 : Value) (m : GM), (.inr (p, B)) = dI /\ Ow m F (eVar V 29 z00 i :: eVar A 84 z06 (p, w_k1) :: eSl w_k1 9 rS B :: L) /\ GM.le G m) ?_ ?_
 .refine .block (AW.loop (α := Nat) (fun X z F => ∃ (p : Netmodel_names) (B : List zAd) (aw : Int) (w_k1 : Value) (m : GM), z0l K i X p B aw = some dI /\ Ow m F (eVar V 29 z00 i :: eVar A 84 z06 (p, w_k1) :: eSl w_k1 9 rS B :: L) /\ GM.le G m /\ z 17 = .int .i64 aw) (fun X => X) K ⟨a8, a8.l, 0, v1, _, dJ, b4, (zAf _), rfl⟩ ?_)
  rintro ba
  rintro ey fs ag ⟨dK, bR, ac, bS, fu, a4, bb, ad, bc⟩
  rcases ba with _ | ba
  .exact z09 a4
  rw [z0l] at a4
  refine .seq (.region (W.q3 (.bool (decide (ac < (i.Gens.length : Int)))) bc (ft (ag 16 rfl) rfl) (.nil (.seq (.cond (b := decide (ac < (i.Gens.length : Int))) rfl rfl (fun bd => ?_) (fun bd => ?_))))))
  rotate_left
  .have b6 := z16 bd a4
   refine .exit ?_
   obtain rfl := zAa b6
   exact ⟨dK, bR, bS, _, rfl, bb, ad⟩
  have dL := z03 bd a4
  refine .skip (.seq (.block (.seq (.region ?_))))
  obtain ⟨k, dM, dN⟩ := z05 dL
  have be := z1n dM
  refine W.pv (z4t dH (ac.toNat * 5)) (z5d el25 sz71 (ou (ft (ag 15 rfl) rfl)) (ou bc) (z0x (RT.mono _ ad b5)) be.1 be.2.1) ?_
  obtain ⟨bT, dO, bU⟩ := (At.le (At.le (z3c b5 be.2.2) ad ad) (zAf _) bb.fro)
  refine W.loadA (cs := bT) rfl rfl ag71 sz71 (z0d rfl dO) (RT.len _ bU) (W.ln (Lo.alloc (r := z4w) (x0 := (Gen.mk ByteArray.empty ByteArray.empty 0 0 0)) ze71 (by kernel_rfl) zip bb) ?_)
  rintro fv fw ⟨Y, rfl, dP, ez⟩
  refine W.ln (Lo.storeVar (j := 0) (s := z4w) (y0 := k) (v := (.agg bT.toArray)) (o := 0) rfl ((Put.at (Put.self _) _ _)) rfl sz71 rfl (by omega) rfl bU dP) ?_
  rintro fx fy ⟨ae, eA⟩
  refine .nil (.seq (.seq (.region ?_)))
  obtain ⟨bV, dQ, bW⟩ := (ae.atVar (j := 1) rfl)
  refine W.loadA (cs := bV) rfl rfl ag29 sz29 (z0d (ft (ag 2 rfl) rfl) dQ) (RT.len _ bW) (W.q2 (.pointer (some ⟨A, 0, none⟩)) (ft (ag 1 rfl) rfl) (W.pv (padd (.pointer (some ⟨Y, 0, none⟩)) 0) (z07 zfi ov (ae.atVar (j := 0) rfl)) (W.l1 (.string k.Name) ag9 (z0d rfl (At.str (At.proj (ae.atVar (j := 0) rfl) z79))) (W.pv (padd (.pointer (some ⟨Y, 0, none⟩)) 1) (z07 zfj ov (ae.atVar (j := 0) rfl)) (W.l1 (.string k.Node) ag9 (z0d rfl (At.str (At.proj (ae.atVar (j := 0) rfl) z7a))) (W.ln (Lo.buildSlice (r := rS) (vs := [(.string k.Node)]) (xs := [k.Node]) el22 ze9 sz9 (by kernel_rfl) rfl (qc rfl qn) rfl (.cons rfl .nil) ae) ?_))))))
  rintro dR fz ⟨dT, eB⟩
  obtain ⟨fA, dU, bf, dV⟩ := dT.frzSl (j := 0) rfl
  have dW := (((dU.front (j := 1) rfl).front (j := 1) rfl).front (j := 3) rfl).front (j := 3) rfl
  obtain ⟨C, dX, bX⟩ := z05 dN
  refine W.ln (Lo.qF Tryd.f33 (ps := [_, _]) (pw := fun w => [_, _]) (mc rfl (mc rfl (mc rfl (mc rfl mn)))) dW (fun ah u => z2d K bV i (RT.mono _ bf bW) A bS (Netmodel_names.mk bR) k.Name dR [k.Node] dV u _ dX)) ?_
  rintro fB fC ⟨ax, dY, a5, bY, eC, rfl⟩
  refine W.p1 (.int .i64 C.1) (.nil (.seq (.region (W.p2 (.int .i64 C.1) (W.p3 (.bool (C.1 != 0)) (.nil ?_))))))
  refine .cond (b := (C.1 != 0)) rfl rfl (fun bg => ?_) (fun bg => ?_)
  .have dZ := z03 bg bX
   refine .seq (.region (W.p2 (.int .i64 C.1) (W.p1 (.int .i64 C.1) (.nil (.ret ?_)))))
   have d0 := (a5.drop 2).drop 2
   obtain rfl := zAa dZ
   have d1 := z5o (z4e a9)
   obtain rfl := zAa d1
   exact z5q kr ax (v1 := (.int .i64 C.1)) (by rfl) rt d0 (zAe ad (zAe bf bY)) rfl
  have d2 := z16 bg bX
  refine .skip (.seq ?_)
  obtain ⟨d3, d4, d5⟩ := z05 d2
  refine AW.midT (fun z F => ∃ (p : Bool) (m : GM), p = d3 /\ Ow m F (eVar A 84 z06 (C.2, ax) :: eSl ax 9 rS C.2.l :: eVar Y 71 z4w k :: eVar V 29 z00 i :: L) /\ GM.le dY m /\ z 49 = .bool p) ?_ ?_
  rotate_left
  .rintro eb eD bP ⟨b7, eE, rfl, bh, b8, b9⟩
   have bZ := zAe ad (zAe bf (zAe bY b8))
   have bi := z0b d5
   refine .cond (b := b7) rfl b9 (fun az => ?_) (fun az => ?_)
   .have ca := z03 az bi
    refine .seq (.region (W.p1 (.int .i64 4) (.nil (.ret ?_))))
    have cb := (bh.drop 2).drop 2
    obtain rfl := zAa ca
    have cc := z5o (z4e a9)
    obtain rfl := zAa cc
    exact z5q kr ax (v1 := (.int .i64 4)) (by rfl) rt cb bZ rfl
   have cd := z16 az bi
   refine .skip (.region (W.q3 (.int .i64 (z0p .i64 (ac + 1))) (ft (bP 17 rfl) bc) rfl (W.p2 (.int .i64 (z0p .i64 (ac + 1))) (.nil ?_))))
   have ce := (((bh.drop 2).front (j := 1) rfl).front (j := 1) rfl).front (j := 2) rfl
   exact ⟨ba, zAg _, ⟨C.2, C.2.l, z0p .i64 (ac + 1), ax, _, cd, ce, bZ, rfl⟩⟩
  refine .region (W.pv (padd (.pointer (some ⟨Y, 0, none⟩)) 2) (z07 zc9 ov (a5.atVar (j := 2) rfl)) (W.l1 (.int .i64 k.Least) ag3 (z0d rfl (At.int (At.proj (a5.atVar (j := 2) rfl) z4q))) ?_))
  obtain ⟨a6, d6, b0⟩ := z05 d4
  refine W.ln (Lo.cQ Tryd.f49 (mc rfl (mc rfl (mc rfl mn))) a5 (fun ah u => z0e K k.Least 0 100000 u _ d6)) ?_
  rintro fD fE ⟨fF, af, bj, eF, rfl⟩
  refine W.pv (.bool (!a6)) (z1g (a := a6) ov) (W.p2 (.bool (!a6)) (W.splitAt (t := 36) (b := (!a6)) rfl (fun bk c => ?_) (fun bk c => ?_)))
  .have d7 := z03 bk b0
   refine W.q6 rfl c (W.q6 rfl c (W.q6 rfl c (W.q6 rfl c (W.q6 rfl c (W.q6 rfl c (W.q4 (.bool true) c rfl ?_))))))
   refine W.p2 (.bool true) (W.q6 rfl rfl (W.q6 rfl rfl (W.q6 rfl rfl (W.q6 rfl rfl (W.q4 (.bool true) rfl rfl (.nil ?_))))))
   obtain rfl := zAa d7
   exact ⟨true, _, rfl, af, bj, rfl⟩
  have d8 := z16 bk b0
  refine W.pure (v := (padd (.pointer (some ⟨Y, 0, none⟩)) 3)) (gl rfl c) rfl (z07 zfk ov (af.atVar (j := 2) rfl)) (W.load1 (v := (.int .i64 k.Most)) (r := []) (gl rfl c) rfl ag3 (z0d rfl (At.int (At.proj (af.atVar (j := 2) rfl) z7b))) (W.pure (v := (padd (.pointer (some ⟨Y, 0, none⟩)) 2)) (gl rfl c) rfl (z07 zc9 ov (af.atVar (j := 2) rfl)) (W.load1 (v := (.int .i64 k.Least)) (r := []) (gl rfl c) rfl ag3 (z0d rfl (At.int (At.proj (af.atVar (j := 2) rfl) z4q))) ?_)))
  obtain ⟨ay, d9, b1⟩ := z05 d8
  refine W.lo (gl rfl c) rfl (Lo.cQ Tryd.f49 (mc rfl (mc rfl (mc rfl mn))) af (fun ah u => z0e K k.Most k.Least 100000 u _ d9)) ?_
  rintro eG eH ⟨fG, a7, b2, ec, rfl⟩
  refine W.pure (v := (.bool (!ay))) (gl rfl c) rfl (z1g (a := ay) ov) (W.q5 (.bool (!ay)) c rfl (W.p2 (.bool (!ay)) (W.splitAt (t := 44) (b := (!ay)) rfl (fun aA d => ?_) (fun aA d => ?_))))
  .have cf := z03 aA b1
   refine W.q6 rfl d (W.q6 rfl d (W.q6 rfl d (W.q6 rfl d (W.q4 (.bool true) d rfl (.nil ?_)))))
   obtain rfl := zAa cf
   exact ⟨true, _, rfl, a7, (zAe bj b2), rfl⟩
  have cg := z16 aA b1
  refine W.pure (v := (padd (.pointer (some ⟨Y, 0, none⟩)) 4)) (gl rfl d) rfl (z07 zfl ov (a7.atVar (j := 2) rfl)) (W.load1 (v := (.int .i64 k.Ramp)) (r := []) (gl rfl d) rfl ag3 (z0d rfl (At.int (At.proj (a7.atVar (j := 2) rfl) z7c))) ?_)
  obtain ⟨ai, ch, ci⟩ := z05 cg
  refine W.lo (gl rfl d) rfl (Lo.cQ Tryd.f49 (mc rfl (mc rfl (mc rfl mn))) a7 (fun ah u => z0e K k.Ramp 0 100000 u _ ch)) ?_
  rintro eI eJ ⟨eK, cj, ck, ed, rfl⟩
  refine W.pure (v := (.bool (!ai))) (gl rfl d) rfl (z1g (a := ai) ov) (W.q5 (.bool (!ai)) d rfl (.nil ?_))
  obtain rfl := zAa ci
  exact ⟨(!ai), _, rfl, cj, (zAe bj (zAe b2 ck)), rfl⟩
 rintro ee eL E ⟨cl, cm, cn, bl, rfl, aB, Z⟩
 have co := z5o (z6h a9)
 refine .seq (.seq (.region (W.pv (padd (.pointer (some ⟨V, 0, none⟩)) 4) (z07 zc6 (ou (ft (E 2 rfl) rfl)) (aB.atVar (j := 0) rfl)) ?_)))
 obtain ⟨bm, cp, aC⟩ := At.sl (At.proj (aB.atVar (j := 0) rfl) z36)
 refine W.l1 bm ag26 (z0d rfl cp) (W.pv (.int .i64 (i.Loads.length : Int)) (z25 ov (z0x aC) (z04 el26)) (W.p2 (.int .i64 0) (.nil ?_)))
 obtain ⟨bn, cq, aD⟩ := z2t co
 refine AW.midT (fun z F => ∃ (p : Netmodel_names) (B : List zAd) (w_k1 : Value) (m : GM), (.inr (p, B)) = bn /\ Ow m F (eVar V 29 z00 i :: eVar A 84 z06 (p, w_k1) :: eSl w_k1 9 rS B :: L) /\ GM.le bl m) ?_ ?_
 .refine .block (AW.loop (α := Nat) (fun X z F => ∃ (p : Netmodel_names) (B : List zAd) (aw : Int) (w_k1 : Value) (m : GM), z0m K i X p B aw = some bn /\ Ow m F (eVar V 29 z00 i :: eVar A 84 z06 (p, w_k1) :: eSl w_k1 9 rS B :: L) /\ GM.le bl m /\ z 54 = .int .i64 aw) (fun X => X) K ⟨cl, cm, 0, cn, _, cq, aB, (zAf _), rfl⟩ ?_)
  rintro aE
  rintro ef eM T ⟨cr, bo, M, bp, eN, aj, aF, I, aG⟩
  rcases aE with _ | aE
  .exact z09 aj
  rw [z0m] at aj
  refine .seq (.region (W.q3 (.bool (decide (M < (i.Loads.length : Int)))) aG (ft (T 53 rfl) rfl) (.nil (.seq (.cond (b := decide (M < (i.Loads.length : Int))) rfl rfl (fun aH => ?_) (fun aH => ?_))))))
  rotate_left
  .have ct := z16 aH aj
   refine .exit ?_
   obtain rfl := zAa ct
   exact ⟨cr, bo, bp, _, rfl, aF, I⟩
  have cu := z03 aH aj
  refine .skip (.seq (.block (.seq (.region ?_))))
  obtain ⟨x, cv, cw⟩ := z05 cu
  have aI := z1n cv
  refine W.pv (z4t bm (M.toNat * 3)) (z5d el26 sz45 (ou (ft (T 52 rfl) rfl)) (ou aG) (z0x (RT.mono _ I aC)) aI.1 aI.2.1) ?_
  obtain ⟨bq, cx, br⟩ := (At.le (At.le (z3c aC aI.2.2) I I) (zAf _) aF.fro)
  refine W.loadA (cs := bq) rfl rfl ag45 sz45 (z0d rfl cx) (RT.len _ br) (W.ln (Lo.alloc (r := z27) (x0 := (Load_.mk ByteArray.empty ByteArray.empty 0)) ze45 (by kernel_rfl) zbl aF) ?_)
  rintro eO eP ⟨aJ, rfl, cy, eg⟩
  refine W.ln (Lo.storeVar (j := 0) (s := z27) (y0 := x) (v := (.agg bq.toArray)) (o := 0) rfl ((Put.at (Put.self _) _ _)) rfl sz45 rfl (by omega) rfl br cy) ?_
  rintro eQ eR ⟨N, eh⟩
  refine .nil (.seq (.seq (.region ?_)))
  obtain ⟨bs, cz, bt⟩ := (N.atVar (j := 1) rfl)
  refine W.loadA (cs := bs) rfl rfl ag29 sz29 (z0d (ft (T 2 rfl) (ft (E 2 rfl) rfl)) cz) (RT.len _ bt) (W.q2 (.pointer (some ⟨A, 0, none⟩)) (ft (T 1 rfl) (ft (E 1 rfl) rfl)) (W.pv (padd (.pointer (some ⟨aJ, 0, none⟩)) 0) (z07 zf8 ov (N.atVar (j := 0) rfl)) (W.l1 (.string x.Name) ag9 (z0d rfl (At.str (At.proj (N.atVar (j := 0) rfl) z5j))) (W.pv (padd (.pointer (some ⟨aJ, 0, none⟩)) 1) (z07 zf9 ov (N.atVar (j := 0) rfl)) (W.l1 (.string x.Node) ag9 (z0d rfl (At.str (At.proj (N.atVar (j := 0) rfl) z5k))) (W.ln (Lo.buildSlice (r := rS) (vs := [(.string x.Node)]) (xs := [x.Node]) el22 ze9 sz9 (by kernel_rfl) rfl (qc rfl qn) rfl (.cons rfl .nil) N) ?_))))))
  rintro cA eS ⟨cB, ei⟩
  obtain ⟨eT, cC, ak, cD⟩ := cB.frzSl (j := 0) rfl
  have cE := (((cC.front (j := 1) rfl).front (j := 1) rfl).front (j := 3) rfl).front (j := 3) rfl
  obtain ⟨y, cF, bu⟩ := z05 cw
  refine W.ln (Lo.qF Tryd.f33 (ps := [_, _]) (pw := fun w => [_, _]) (mc rfl (mc rfl (mc rfl (mc rfl mn)))) cE (fun ah u => z2d K bs i (RT.mono _ ak bt) A bp (Netmodel_names.mk bo) x.Name cA [x.Node] cD u _ cF)) ?_
  rintro eU eV ⟨aK, eW, al, aL, ej, rfl⟩
  refine W.p1 (.int .i64 y.1) (.nil (.seq (.region (W.p2 (.int .i64 y.1) (W.p3 (.bool (y.1 != 0)) (.nil ?_))))))
  refine .cond (b := (y.1 != 0)) rfl rfl (fun aM => ?_) (fun aM => ?_)
  .have cG := z03 aM bu
   refine .seq (.region (W.p2 (.int .i64 y.1) (W.p1 (.int .i64 y.1) (.nil (.ret ?_)))))
   have cH := (al.drop 2).drop 2
   obtain rfl := zAa cG
   have cI := z5o (z4e aD)
   obtain rfl := zAa cI
   exact z5q kr aK (v1 := (.int .i64 y.1)) (by rfl) rt cH (zAe Z (zAe I (zAe ak aL))) rfl
  have cJ := z16 aM bu
  refine .skip (.seq (.region (W.pv (padd (.pointer (some ⟨aJ, 0, none⟩)) 2) (z07 zfa ov (al.atVar (j := 2) rfl)) (W.l1 (.int .i64 x.Demand) ag3 (z0d rfl (At.int (At.proj (al.atVar (j := 2) rfl) z4m))) ?_))))
  obtain ⟨aN, cK, bv⟩ := z05 cJ
  refine W.ln (Lo.cQ Tryd.f49 (mc rfl (mc rfl (mc rfl mn))) al (fun ah u => z0e K x.Demand 0 100000 u _ cK)) ?_
  rintro eX eY ⟨eZ, bw, bx, ek, rfl⟩
  refine W.pv (.bool (!aN)) (z1g (a := aN) ov) (.nil (.cond (b := (!aN)) rfl rfl (fun aO => ?_) (fun aO => ?_)))
  .have cL := z03 aO bv
   refine .seq (.region (W.p1 (.int .i64 4) (.nil (.ret ?_))))
   have cM := (bw.drop 2).drop 2
   obtain rfl := zAa cL
   have cN := z5o (z4e aD)
   obtain rfl := zAa cN
   exact z5q kr aK (v1 := (.int .i64 4)) (by rfl) rt cM (zAe Z (zAe I (zAe ak (zAe aL bx)))) rfl
  have cO := z16 aO bv
  refine .skip (.region (W.r3 (.int .i64 (z0p .i64 (M + 1))) aG (W.p2 (.int .i64 (z0p .i64 (M + 1))) (.nil ?_))))
  have cP := (((bw.drop 2).front (j := 1) rfl).front (j := 1) rfl).front (j := 2) rfl
  exact ⟨aE, zAg _, ⟨y.2, y.2.l, z0p .i64 (M + 1), aK, _, cO, cP, (zAe I (zAe ak (zAe aL bx))), rfl⟩⟩
 rintro el e0 am ⟨cR, cS, cT, bz, rfl, aP, aQ⟩
 have cU := z5o (z6h aD)
 refine .seq (.seq (.region (W.pv (padd (.pointer (some ⟨V, 0, none⟩)) 5) (z07 zc7 (ou (ft (am 2 rfl) (ft (E 2 rfl) rfl))) (aP.atVar (j := 0) rfl)) ?_)))
 obtain ⟨bA, cV, aR⟩ := At.sl (At.proj (aP.atVar (j := 0) rfl) z2w)
 refine W.l1 bA ag27 (z0d rfl cV) (W.pv (.int .i64 (i.Stores.length : Int)) (z25 ov (z0x aR) (z04 el27)) (W.p2 (.int .i64 0) (.nil ?_)))
 obtain ⟨bB, cW, aS⟩ := z2t cU
 refine AW.midT (fun z F => ∃ (p : Netmodel_names) (B : List zAd) (w_k1 : Value) (m : GM), (.inr (p, B)) = bB /\ Ow m F (eVar V 29 z00 i :: eVar A 84 z06 (p, w_k1) :: eSl w_k1 9 rS B :: L) /\ GM.le bz m) ?_ ?_
 rotate_left
 .rintro em e1 en ⟨e2, e3, cX, e4, rfl, cY, cZ⟩
  have c0 := z5o (z6h aS)
  refine .seq (.region (W.p1 (.int .i64 0) (.nil (.ret ?_))))
  have c1 := cY.drop 0
  obtain rfl := zAa c0
  exact z5q kr cX (v1 := (.int .i64 0)) (by rfl) rt c1 (zAe Z (zAe aQ cZ)) rfl
 refine .block (AW.loop (α := Nat) (fun X z F => ∃ (p : Netmodel_names) (B : List zAd) (aw : Int) (w_k1 : Value) (m : GM), z0n K i X p B aw = some bB /\ Ow m F (eVar V 29 z00 i :: eVar A 84 z06 (p, w_k1) :: eSl w_k1 9 rS B :: L) /\ GM.le bz m /\ z 77 = .int .i64 aw) (fun X => X) K ⟨cR, cS, 0, cT, _, cW, aP, (zAf _), rfl⟩ ?_)
 rintro aT
 rintro eo e5 U ⟨c2, bC, P, bD, e6, an, aU, J, aV⟩
 rcases aT with _ | aT
 .exact z09 an
 rw [z0n] at an
 refine .seq (.region (W.q3 (.bool (decide (P < (i.Stores.length : Int)))) aV (ft (U 76 rfl) rfl) (.nil (.seq (.cond (b := decide (P < (i.Stores.length : Int))) rfl rfl (fun aW => ?_) (fun aW => ?_))))))
 rotate_left
 .have c3 := z16 aW an
  refine .exit ?_
  obtain rfl := zAa c3
  exact ⟨c2, bC, bD, _, rfl, aU, J⟩
 have c4 := z03 aW an
 refine .skip (.seq (.block (.seq (.region ?_))))
 obtain ⟨e, c5, c6⟩ := z05 c4
 have aX := z1n c5
 refine W.pv (z4t bA (P.toNat * 5)) (z5d el27 sz73 (ou (ft (U 75 rfl) rfl)) (ou aV) (z0x (RT.mono _ J aR)) aX.1 aX.2.1) ?_
 obtain ⟨bE, c7, bF⟩ := (At.le (At.le (z3c aR aX.2.2) J J) (zAf _) aU.fro)
 refine W.loadA (cs := bE) rfl rfl ag73 sz73 (z0d rfl c7) (RT.len _ bF) (W.ln (Lo.alloc (r := z1f) (x0 := (Store.mk ByteArray.empty ByteArray.empty 0 0 0)) ze73 (by kernel_rfl) zbm aU) ?_)
 rintro e7 e8 ⟨Q, rfl, c8, ep⟩
 refine W.ln (Lo.storeVar (j := 0) (s := z1f) (y0 := e) (v := (.agg bE.toArray)) (o := 0) rfl ((Put.at (Put.self _) _ _)) rfl sz73 rfl (by omega) rfl bF c8) ?_
 rintro e9 fa ⟨S, eq⟩
 refine .nil (.seq (.seq (.region ?_)))
 obtain ⟨bG, c9, bH⟩ := (S.atVar (j := 1) rfl)
 refine W.loadA (cs := bG) rfl rfl ag29 sz29 (z0d (ft (U 2 rfl) (ft (am 2 rfl) (ft (E 2 rfl) rfl))) c9) (RT.len _ bH) (W.q2 (.pointer (some ⟨A, 0, none⟩)) (ft (U 1 rfl) (ft (am 1 rfl) (ft (E 1 rfl) rfl))) (W.pv (padd (.pointer (some ⟨Q, 0, none⟩)) 0) (z07 zfm ov (S.atVar (j := 0) rfl)) (W.l1 (.string e.Name) ag9 (z0d rfl (At.str (At.proj (S.atVar (j := 0) rfl) z5l))) (W.pv (padd (.pointer (some ⟨Q, 0, none⟩)) 1) (z07 zfn ov (S.atVar (j := 0) rfl)) (W.l1 (.string e.Node) ag9 (z0d rfl (At.str (At.proj (S.atVar (j := 0) rfl) z5m))) (W.ln (Lo.buildSlice (r := rS) (vs := [(.string e.Node)]) (xs := [e.Node]) el22 ze9 sz9 (by kernel_rfl) rfl (qc rfl qn) rfl (.cons rfl .nil) S) ?_))))))
 rintro da fb ⟨db, er⟩
 obtain ⟨fc, dc, ao, dd⟩ := db.frzSl (j := 0) rfl
 have de := (((dc.front (j := 1) rfl).front (j := 1) rfl).front (j := 3) rfl).front (j := 3) rfl
 obtain ⟨q, df, bI⟩ := z05 c6
 refine W.ln (Lo.qF Tryd.f33 (ps := [_, _]) (pw := fun w => [_, _]) (mc rfl (mc rfl (mc rfl (mc rfl mn)))) de (fun ah u => z2d K bG i (RT.mono _ ao bH) A bD (Netmodel_names.mk bC) e.Name da [e.Node] dd u _ df)) ?_
 rintro fd fe ⟨aa, dg, ap, aY, es, rfl⟩
 refine W.p1 (.int .i64 q.1) (.nil (.seq (.region (W.p2 (.int .i64 q.1) (W.p3 (.bool (q.1 != 0)) (.nil ?_))))))
 refine .cond (b := (q.1 != 0)) rfl rfl (fun aZ => ?_) (fun aZ => ?_)
 .have dh := z03 aZ bI
  refine .seq (.region (W.p2 (.int .i64 q.1) (W.p1 (.int .i64 q.1) (.nil (.ret ?_)))))
  have di := (ap.drop 2).drop 2
  obtain rfl := zAa dh
  have dj := z5o (z4e aS)
  obtain rfl := zAa dj
  exact z5q kr aa (v1 := (.int .i64 q.1)) (by rfl) rt di (zAe Z (zAe aQ (zAe J (zAe ao aY)))) rfl
 have dk := z16 aZ bI
 refine .skip (.seq ?_)
 obtain ⟨dl, dm, dn⟩ := z05 dk
 refine AW.midT (fun z F => ∃ (p : Bool) (m : GM), p = dl /\ Ow m F (eVar A 84 z06 (q.2, aa) :: eSl aa 9 rS q.2.l :: eVar Q 73 z1f e :: eVar V 29 z00 i :: L) /\ GM.le dg m /\ z 107 = .bool p) ?_ ?_
 rotate_left
 .rintro et ff bQ ⟨dp, fg, rfl, bJ, bK, dq⟩
  have ea := zAe Z (zAe aQ (zAe J (zAe ao (zAe aY bK))))
  have bL := z0b dn
  refine .cond (b := dp) rfl dq (fun a0 => ?_) (fun a0 => ?_)
  .have dr := z03 a0 bL
   refine .seq (.region (W.p1 (.int .i64 4) (.nil (.ret ?_))))
   have ds := (bJ.drop 2).drop 2
   obtain rfl := zAa dr
   have dt := z5o (z4e aS)
   obtain rfl := zAa dt
   exact z5q kr aa (v1 := (.int .i64 4)) (by rfl) rt ds ea rfl
  have du := z16 a0 bL
  refine .skip (.region (W.q3 (.int .i64 (z0p .i64 (P + 1))) (ft (bQ 77 rfl) aV) rfl (W.p2 (.int .i64 (z0p .i64 (P + 1))) (.nil ?_))))
  have dv := (((bJ.drop 2).front (j := 1) rfl).front (j := 1) rfl).front (j := 2) rfl
  exact ⟨aT, zAg _, ⟨q.2, q.2.l, z0p .i64 (P + 1), aa, _, du, dv, (zAe J (zAe ao (zAe aY bK))), rfl⟩⟩
 refine .region (W.pv (padd (.pointer (some ⟨Q, 0, none⟩)) 2) (z07 zfo ov (ap.atVar (j := 2) rfl)) (W.l1 (.int .i64 e.Charge) ag3 (z0d rfl (At.int (At.proj (ap.atVar (j := 2) rfl) z4n))) ?_))
 obtain ⟨aq, dw, bM⟩ := z05 dm
 refine W.ln (Lo.cQ Tryd.f49 (mc rfl (mc rfl (mc rfl mn))) ap (fun ah u => z0e K e.Charge 0 100000 u _ dw)) ?_
 rintro fh fi ⟨fj, ar, a1, eu, rfl⟩
 refine W.pv (.bool (!aq)) (z1g (a := aq) ov) (W.p2 (.bool (!aq)) (W.splitAt (t := 96) (b := (!aq)) rfl (fun a2 f => ?_) (fun a2 f => ?_)))
 .have dx := z03 a2 bM
  refine W.q6 rfl f (W.q6 rfl f (W.q6 rfl f (W.q6 rfl f (W.q4 (.bool true) f rfl (W.p2 (.bool true) (W.q6 rfl rfl ?_))))))
  refine W.q6 rfl rfl (W.q6 rfl rfl (W.q6 rfl rfl (W.q4 (.bool true) rfl rfl (.nil ?_))))
  obtain rfl := zAa dx
  exact ⟨true, _, rfl, ar, a1, rfl⟩
 have dy := z16 a2 bM
 refine W.pure (v := (padd (.pointer (some ⟨Q, 0, none⟩)) 3)) (gl rfl f) rfl (z07 zfp ov (ar.atVar (j := 2) rfl)) (W.load1 (v := (.int .i64 e.Discharge)) (r := []) (gl rfl f) rfl ag3 (z0d rfl (At.int (At.proj (ar.atVar (j := 2) rfl) z3q))) ?_)
 obtain ⟨ab, dz, bN⟩ := z05 dy
 refine W.lo (gl rfl f) rfl (Lo.cQ Tryd.f49 (mc rfl (mc rfl (mc rfl mn))) ar (fun ah u => z0e K e.Discharge 0 100000 u _ dz)) ?_
 rintro fk fl ⟨fm, au, bO, ev, rfl⟩
 refine W.pure (v := (.bool (!ab))) (gl rfl f) rfl (z1g (a := ab) ov) (W.q5 (.bool (!ab)) f rfl (W.p2 (.bool (!ab)) (W.splitAt (t := 102) (b := (!ab)) rfl (fun a3 g => ?_) (fun a3 g => ?_))))
 .have dA := z03 a3 bN
  refine W.q6 rfl g (W.q6 rfl g (W.q6 rfl g (W.q6 rfl g (W.q4 (.bool true) g rfl (.nil ?_)))))
  obtain rfl := zAa dA
  exact ⟨true, _, rfl, au, (zAe a1 bO), rfl⟩
 have dB := z16 a3 bN
 refine W.pure (v := (padd (.pointer (some ⟨Q, 0, none⟩)) 4)) (gl rfl g) rfl (z07 zfq ov (au.atVar (j := 2) rfl)) (W.load1 (v := (.int .i64 e.Capacity)) (r := []) (gl rfl g) rfl ag3 (z0d rfl (At.int (At.proj (au.atVar (j := 2) rfl) z42))) ?_)
 obtain ⟨av, dC, dD⟩ := z05 dB
 refine W.lo (gl rfl g) rfl (Lo.cQ Tryd.f49 (mc rfl (mc rfl (mc rfl mn))) au (fun ah u => z0e K e.Capacity 0 100000 u _ dC)) ?_
 rintro fo fp ⟨fq, dE, dF, ew, rfl⟩
 refine W.pure (v := (.bool (!av))) (gl rfl g) rfl (z1g (a := av) ov) (W.q5 (.bool (!av)) g rfl (.nil ?_))
 obtain rfl := zAa dD
 exact ⟨(!av), _, rfl, dE, (zAe a1 (zAe bO dF)), rfl⟩
def z0q (K : Nat) (d : Network) : Nat -> Netmodel_names -> List zAd -> Int -> Option (Int ⊕ (Netmodel_names × List zAd))
  | 0, _, _, _ => none
  | k + 1, e, c, b => (if (decide (b < (d.Nodes.length : Int))) = true then ((idx d.Nodes b).bind fun f => ((z24 K (Netmodel_names.mk c) f).bind fun a => (if (a.1 != 0) = true then some (.inl a.1) else z0q K d k a.2 a.2.l (z0p .i64 (b + 1))))) else some (.inr (e, c)))
def z0r (K : Nat) (d : Network) : Nat -> Netmodel_names -> List zAd -> Int -> Option (Int ⊕ (Netmodel_names × List zAd))
  | 0, _, _, _ => none
  | k + 1, f, e, c => (if (decide (c < (d.Switches.length : Int))) = true then ((idx d.Switches c).bind fun a => ((z1k K d (Netmodel_names.mk e) a.Name [a.A, a.B]).bind fun b => (if (b.1 != 0) = true then some (.inl b.1) else (if (sEq a.A a.B) = true then some (.inl 3) else z0r K d k b.2 b.2.l (z0p .i64 (c + 1)))))) else some (.inr (f, e)))
def z0s (K : Nat) (f : Network) : Nat -> Netmodel_names -> List zAd -> Int -> Option (Int ⊕ (Netmodel_names × List zAd))
  | 0, _, _, _ => none
  | k + 1, g, d, c => (if (decide (c < (f.Branches.length : Int))) = true then ((idx f.Branches c).bind fun a => ((z1k K f (Netmodel_names.mk d) a.Name [a.From, a.To]).bind fun b => (if (b.1 != 0) = true then some (.inl b.1) else (if (sEq a.From a.To) = true then some (.inl 3) else ((z35 K a).bind fun e => (if (e != 0) = true then some (.inl e) else z0s K f k b.2 b.2.l (z0p .i64 (c + 1)))))))) else some (.inr (g, d)))
def z2e (K : Nat) (a : Network) : Option Int := ((z3d K a).bind fun i => (if (i != 0) = true then some i else (z5s (z0q K a K (Netmodel_names.mk ([] : List zAd)) [] 0) (tu1 fun b => some b) (tu2 fun j k => (z5s (z0r K a K j k 0) (tu1 fun c => some c) (tu2 fun d e => (z5s (z0s K a K d e 0) (tu1 fun f => some f) (tu2 fun l g => ((z2x K a (Netmodel_names.mk g)).bind fun h => some h.1)))))))))
theorem z43 (bF : List Value) (d : Network) (cM : z00.rep G bF d) (O : Ow G H (L)) (r : Int) (h : z2e K d = some r) :
    CR Tryd.prog 13 [.agg bF.toArray] G H (L) (fun v g _ => v = .int .i64 r) := by
 unfold z2e at h
 refine CR.og (n := 90) (fn := Tryd.f13) (by kernel_rfl) rfl rfl fun R kr => (.seq (.region (W.ln (Lo.box (r := z00) (x0 := d) (v := (.agg bF.toArray)) rfl rfl cM O) ?_)))
 rintro el em ⟨Y, rfl, cN, d8⟩
 refine W.p1 (.int .i64 0) (.nil (.seq (.seq (.region ?_))))
 obtain ⟨cO, dv, cP⟩ := (cN.atVar (j := 0) rfl)
 refine W.loadA (cs := cO) rfl rfl ag29 sz29 (z0d rfl dv) (RT.len _ cP) ?_
 obtain ⟨af, cR, bo⟩ := z05 h
 refine W.ln (Lo.cQ Tryd.f31 (mc rfl mn) cN (fun aD N => z7d K cO d cP N _ cR)) ?_
 rintro d9 ea ⟨bp, bq, ad, dw, rfl⟩
 refine W.p1 (.int .i64 af) (.nil (.seq (.region (W.p2 (.int .i64 af) (W.p3 (.bool (af != 0)) (.nil ?_))))))
 refine .cond (b := (af != 0)) rfl rfl (fun aE => ?_) (fun aE => ?_)
 .have cS := z03 aE bo
  refine .seq (.region (W.p2 (.int .i64 af) (W.p1 (.int .i64 af) (.nil (.ret ?_)))))
  have cT := bq.drop 0
  obtain rfl := zAa cS
  exact z4i kr (v1 := (.int .i64 af)) (by rfl) rt cT ad rfl
 have cU := z16 aE bo
 refine .skip (.seq (.region ?_))
 have cV := bq.nilSl 9 rS
 refine W.ln (Lo.alloc (r := z06) (x0 := ((Netmodel_names.mk ([] : List zAd)), .slice none 0 0)) ze84 (by kernel_rfl) (fun G => (zV G)) cV) ?_
 rintro eb ec ⟨u, rfl, aF, dx⟩
 refine .nil (.seq (.seq (.region (W.pv (padd (.pointer (some ⟨Y, 0, none⟩)) 0) (z07 zac ov (aF.atVar (j := 2) rfl)) ?_))))
 obtain ⟨br, cW, aG⟩ := At.sl (At.proj (aF.atVar (j := 2) rfl) z29)
 refine W.l1 br ag22 (z0d rfl cW) (W.pv (.int .i64 (d.Nodes.length : Int)) (z25 ov (z0x aG) (z04 el22)) (W.p2 (.int .i64 0) (.nil ?_)))
 obtain ⟨bs, cX, bt⟩ := z2t cU
 refine AW.midT (fun J P => ∃ (i : Netmodel_names) (k : List zAd) (w_l4 : Value) (g : GM), (.inr (i, k)) = bs /\ Ow g P (eVar u 84 z06 (i, w_l4) :: eSl w_l4 9 rS k :: eVar Y 29 z00 d :: L) /\ GM.le bp g) ?_ ?_
 .refine .block (AW.loop (α := Nat) (fun Q J P => ∃ (i : Netmodel_names) (k : List zAd) (ae : Int) (w_l4 : Value) (g : GM), z0q K d Q i k ae = some bs /\ Ow g P (eVar u 84 z06 (i, w_l4) :: eSl w_l4 9 rS k :: eVar Y 29 z00 d :: L) /\ GM.le bp g /\ J 23 = .int .i64 ae) (fun Q => Q) K ⟨(Netmodel_names.mk ([] : List zAd)), [], 0, (.slice none 0 0), _, cX, aF, (zAf _), rfl⟩ ?_)
  rintro aH
  rintro dy ed ag ⟨cY, bu, U, bv, ee, aA, aI, V, aJ⟩
  rcases aH with _ | aH
  .exact z09 aA
  rw [z0q] at aA
  refine .seq (.region (W.q3 (.bool (decide (U < (d.Nodes.length : Int)))) aJ (ft (ag 22 rfl) rfl) (.nil (.seq (.cond (b := decide (U < (d.Nodes.length : Int))) rfl rfl (fun aK => ?_) (fun aK => ?_))))))
  rotate_left
  .have cZ := z16 aK aA
   refine .exit ?_
   obtain rfl := zAa cZ
   exact ⟨cY, bu, bv, _, rfl, aI, V⟩
  have c0 := z03 aK aA
  refine .skip (.seq (.block (.seq (.region ?_))))
  obtain ⟨aB, c1, c2⟩ := z05 c0
  have aL := z1n c1
  refine W.pv (z4t br (U.toNat * 1)) (z5d el22 sz9 (ou (ft (ag 21 rfl) rfl)) (ou aJ) (z0x (RT.mono _ V aG)) aL.1 aL.2.1) (W.l1 (.string aB) ag9 (z0d rfl (At.str (At.le (At.le (z3c aG aL.2.2) V V) (zAf _) aI.fro))) (W.p1 (.string aB) (.nil (.seq (.region (W.p2 (.string aB) ?_))))))
  obtain ⟨z, c3, bw⟩ := z05 c2
  refine W.ln (Lo.qF Tryd.f32 (ps := [_, _]) (pw := fun w => [_, _]) (mc (ft (ag 4 rfl) rfl) (mc rfl mn)) aI (fun aD N => z48 K u bv (Netmodel_names.mk bu) aB N _ c3)) ?_
  rintro ef eg ⟨c4, eh, bx, bz, dz, rfl⟩
  refine W.p1 (.int .i64 z.1) (.nil (.seq (.region (W.p2 (.int .i64 z.1) (W.p3 (.bool (z.1 != 0)) (.nil ?_))))))
  refine .cond (b := (z.1 != 0)) rfl rfl (fun aM => ?_) (fun aM => ?_)
  rotate_left
  .have c5 := z16 aM bw
   refine .skip (.region (W.r3 (.int .i64 (z0p .i64 (U + 1))) aJ (W.p2 (.int .i64 (z0p .i64 (U + 1))) (.nil ?_))))
   exact ⟨aH, zAg _, ⟨z.2, z.2.l, z0p .i64 (U + 1), c4, _, c5, bx, (zAe V bz), rfl⟩⟩
  have c6 := z03 aM bw
  refine .seq (.region (W.p2 (.int .i64 z.1) (W.p1 (.int .i64 z.1) (.nil (.ret ?_)))))
  have c7 := ((bx.drop 0).drop 0).drop 0
  obtain rfl := zAa c6
  have c8 := z0b (z4e bt)
  obtain rfl := zAa c8
  exact z4i kr (v1 := (.int .i64 z.1)) (by rfl) rt c7 (zAe ad (zAe V bz)) rfl
 rintro dA ei m ⟨c9, da, db, bA, rfl, aN, aO⟩
 have dc := z5o (z6h bt)
 refine .seq (.seq (.region (W.pv (padd (.pointer (some ⟨Y, 0, none⟩)) 1) (z07 zc3 (ou (ft (m 1 rfl) rfl)) (aN.atVar (j := 2) rfl)) ?_)))
 obtain ⟨bB, dd, aP⟩ := At.sl (At.proj (aN.atVar (j := 2) rfl) z2b)
 refine W.l1 bB ag23 (z0d rfl dd) (W.pv (.int .i64 (d.Switches.length : Int)) (z25 ov (z0x aP) (z04 el23)) (W.p2 (.int .i64 0) (.nil ?_)))
 obtain ⟨bC, de, aQ⟩ := z2t dc
 refine AW.midT (fun J P => ∃ (i : Netmodel_names) (k : List zAd) (w_l4 : Value) (g : GM), (.inr (i, k)) = bC /\ Ow g P (eVar u 84 z06 (i, w_l4) :: eSl w_l4 9 rS k :: eVar Y 29 z00 d :: L) /\ GM.le bA g) ?_ ?_
 .refine .block (AW.loop (α := Nat) (fun Q J P => ∃ (i : Netmodel_names) (k : List zAd) (ae : Int) (w_l4 : Value) (g : GM), z0r K d Q i k ae = some bC /\ Ow g P (eVar u 84 z06 (i, w_l4) :: eSl w_l4 9 rS k :: eVar Y 29 z00 d :: L) /\ GM.le bA g /\ J 36 = .int .i64 ae) (fun Q => Q) K ⟨c9, da, 0, db, _, de, aN, (zAf _), rfl⟩ ?_)
  rintro aR
  rintro dB ej Z ⟨df, bD, X, aS, ek, aa, aT, E, ah⟩
  rcases aR with _ | aR
  .exact z09 aa
  rw [z0r] at aa
  refine .seq (.region (W.q3 (.bool (decide (X < (d.Switches.length : Int)))) ah (ft (Z 35 rfl) rfl) (.nil (.seq (.cond (b := decide (X < (d.Switches.length : Int))) rfl rfl (fun ai => ?_) (fun ai => ?_))))))
  rotate_left
  .have bG := z16 ai aa
   refine .exit ?_
   obtain rfl := zAa bG
   exact ⟨df, bD, aS, _, rfl, aT, E⟩
  have bH := z03 ai aa
  refine .skip (.seq (.block (.seq (.region ?_))))
  obtain ⟨c, bI, bJ⟩ := z05 bH
  have aj := z1n bI
  refine W.pv (z4t bB (X.toNat * 5)) (z5d el23 sz64 (ou (ft (Z 34 rfl) rfl)) (ou ah) (z0x (RT.mono _ E aP)) aj.1 aj.2.1) ?_
  obtain ⟨aU, bK, aV⟩ := (At.le (At.le (z3c aP aj.2.2) E E) (zAf _) aT.fro)
  refine W.loadA (cs := aU) rfl rfl ag64 sz64 (z0d rfl bK) (RT.len _ aV) (W.ln (Lo.alloc (r := z19) (x0 := (Switch.mk ByteArray.empty ByteArray.empty ByteArray.empty false false)) ze64 (by kernel_rfl) z9n aT) ?_)
  rintro dC dD ⟨S, rfl, bL, dh⟩
  refine W.ln (Lo.storeVar (j := 0) (s := z19) (y0 := c) (v := (.agg aU.toArray)) (o := 0) rfl ((Put.at (Put.self _) _ _)) rfl sz64 rfl (by omega) rfl aV bL) ?_
  rintro dE dF ⟨p, di⟩
  refine .nil (.seq (.seq (.region ?_)))
  obtain ⟨aW, bM, aX⟩ := (p.atVar (j := 3) rfl)
  refine W.loadA (cs := aW) rfl rfl ag29 sz29 (z0d (ft (Z 1 rfl) (ft (m 1 rfl) rfl)) bM) (RT.len _ aX) (W.pv (padd (.pointer (some ⟨S, 0, none⟩)) 0) (z07 zfb ov (p.atVar (j := 0) rfl)) (W.l1 (.string c.Name) ag9 (z0d rfl (At.str (At.proj (p.atVar (j := 0) rfl) z52))) (W.pv (padd (.pointer (some ⟨S, 0, none⟩)) 1) (z07 zdo ov (p.atVar (j := 0) rfl)) (W.l1 (.string c.A) ag9 (z0d rfl (At.str (At.proj (p.atVar (j := 0) rfl) z61))) (W.pv (padd (.pointer (some ⟨S, 0, none⟩)) 2) (z07 zdp ov (p.atVar (j := 0) rfl)) (W.l1 (.string c.B) ag9 (z0d rfl (At.str (At.proj (p.atVar (j := 0) rfl) z62))) ?_))))))
  refine W.ln (Lo.buildSlice (r := rS) (vs := [(.string c.A), (.string c.B)]) (xs := [c.A, c.B]) el22 ze9 sz9 (by kernel_rfl) rfl (qc rfl (qc rfl qn)) rfl (.cons rfl (.cons rfl .nil)) p) ?_
  rintro bN dG ⟨bO, dj⟩
  obtain ⟨dH, bP, ak, bQ⟩ := bO.frzSl (j := 0) rfl
  have bR := (((bP.front (j := 3) rfl).front (j := 1) rfl).front (j := 3) rfl).front (j := 3) rfl
  obtain ⟨e, bS, aY⟩ := z05 bJ
  refine W.ln (Lo.qF Tryd.f33 (ps := [_, _]) (pw := fun w => [_, _]) (mc rfl (mc (ft (Z 4 rfl) (ft (m 4 rfl) rfl)) (mc rfl (mc rfl mn)))) bR (fun aD N => z2d K aW d (RT.mono _ ak aX) u aS (Netmodel_names.mk bD) c.Name bN [c.A, c.B] bQ N _ bS)) ?_
  rintro dI dJ ⟨bT, dK, x, aZ, dk, rfl⟩
  have bE := zAe ad (zAe aO (zAe E (zAe ak aZ)))
  refine W.p1 (.int .i64 e.1) (.nil (.seq (.region (W.p2 (.int .i64 e.1) (W.p3 (.bool (e.1 != 0)) (.nil ?_))))))
  refine .cond (b := (e.1 != 0)) rfl rfl (fun al => ?_) (fun al => ?_)
  .have bU := z03 al aY
   refine .seq (.region (W.p2 (.int .i64 e.1) (W.p1 (.int .i64 e.1) (.nil (.ret ?_)))))
   have bV := (((x.drop 0).drop 0).drop 0).drop 0
   obtain rfl := zAa bU
   have bW := z0b (z4e aQ)
   obtain rfl := zAa bW
   exact z4i kr (v1 := (.int .i64 e.1)) (by rfl) rt bV bE rfl
  have a0 := z16 al aY
  refine .skip (.seq (.region (W.pv (padd (.pointer (some ⟨S, 0, none⟩)) 1) (z07 zdo ov (x.atVar (j := 2) rfl)) (W.l1 (.string c.A) ag9 (z0d rfl (At.str (At.proj (x.atVar (j := 2) rfl) z61))) (W.pv (padd (.pointer (some ⟨S, 0, none⟩)) 2) (z07 zdp ov (x.atVar (j := 2) rfl)) (W.l1 (.string c.B) ag9 (z0d rfl (At.str (At.proj (x.atVar (j := 2) rfl) z62))) ?_))))))
  refine W.pv (.bool (sEq c.A c.B)) (zc2 ov ov) (.nil (.cond (b := sEq c.A c.B) rfl rfl (fun am => ?_) (fun am => ?_)))
  rotate_left
  .have bX := z16 am a0
   refine .skip (.region (W.r3 (.int .i64 (z0p .i64 (X + 1))) ah (W.p2 (.int .i64 (z0p .i64 (X + 1))) (.nil ?_))))
   have bY := x.drop 2
   exact ⟨aR, zAg _, ⟨e.2, e.2.l, z0p .i64 (X + 1), bT, _, bX, bY, (zAe E (zAe ak aZ)), rfl⟩⟩
  have bZ := z03 am a0
  refine .seq (.region (W.p1 (.int .i64 3) (.nil (.ret ?_))))
  have b0 := (((x.drop 0).drop 0).drop 0).drop 0
  obtain rfl := zAa bZ
  have b1 := z0b (z4e aQ)
  obtain rfl := zAa b1
  exact z4i kr (v1 := (.int .i64 3)) (by rfl) rt b0 bE rfl
 rintro dl dL C ⟨b2, b3, b4, a1, rfl, an, a2⟩
 have b5 := z5o (z6h aQ)
 refine .seq (.seq (.region (W.pv (padd (.pointer (some ⟨Y, 0, none⟩)) 2) (z07 zc4 (ou (ft (C 1 rfl) (ft (m 1 rfl) rfl))) (an.atVar (j := 2) rfl)) ?_)))
 obtain ⟨a3, b6, ao⟩ := At.sl (At.proj (an.atVar (j := 2) rfl) z2c)
 refine W.l1 a3 ag24 (z0d rfl b6) (W.pv (.int .i64 (d.Branches.length : Int)) (z25 ov (z0x ao) (z04 el24)) (W.p2 (.int .i64 0) (.nil ?_)))
 obtain ⟨a4, b7, ab⟩ := z2t b5
 refine AW.midT (fun J P => ∃ (i : Netmodel_names) (k : List zAd) (w_l4 : Value) (g : GM), (.inr (i, k)) = a4 /\ Ow g P (eVar u 84 z06 (i, w_l4) :: eSl w_l4 9 rS k :: eVar Y 29 z00 d :: L) /\ GM.le a1 g) ?_ ?_
 rotate_left
 .rintro dm dM aC ⟨dN, b8, b9, dO, rfl, a5, ca⟩
  have cb := z5o (z6h ab)
  refine .seq (.region ?_)
  obtain ⟨a6, cc, a7⟩ := (a5.atVar (j := 2) rfl)
  refine W.loadA (cs := a6) rfl rfl ag29 sz29 (z0d (ft (aC 1 rfl) (ft (C 1 rfl) (ft (m 1 rfl) rfl))) cc) (RT.len _ a7) ?_
  obtain ⟨a8, cd, ce⟩ := z05 cb
  refine W.ln (Lo.qF Tryd.f35 (ps := [_, _]) (pw := fun w => [_, _]) (mc rfl (mc (ft (aC 4 rfl) (ft (C 4 rfl) (ft (m 4 rfl) rfl))) mn)) a5 (fun aD N => z6j K a6 d a7 u b9 (Netmodel_names.mk b8) N _ cd)) ?_
  rintro dP dQ ⟨dR, dT, cf, cg, dn, rfl⟩
  refine W.p1 (.int .i64 a8.1) (.nil (.ret ?_))
  have ch := ((cf.drop 0).drop 0).drop 0
  obtain rfl := zAa ce
  exact z4i kr (v1 := (.int .i64 a8.1)) (by rfl) rt ch (zAe ad (zAe aO (zAe a2 (zAe ca cg)))) rfl
 refine .block (AW.loop (α := Nat) (fun Q J P => ∃ (i : Netmodel_names) (k : List zAd) (ae : Int) (w_l4 : Value) (g : GM), z0s K d Q i k ae = some a4 /\ Ow g P (eVar u 84 z06 (i, w_l4) :: eSl w_l4 9 rS k :: eVar Y 29 z00 d :: L) /\ GM.le a1 g /\ J 61 = .int .i64 ae) (fun Q => Q) K ⟨b2, b3, 0, b4, _, b7, an, (zAf _), rfl⟩ ?_)
 rintro ap
 rintro dp dU M ⟨ci, a9, F, ba, dV, ac, aq, I, ar⟩
 rcases ap with _ | ap
 .exact z09 ac
 rw [z0s] at ac
 refine .seq (.region (W.q3 (.bool (decide (F < (d.Branches.length : Int)))) ar (ft (M 60 rfl) rfl) (.nil (.seq (.cond (b := decide (F < (d.Branches.length : Int))) rfl rfl (fun au => ?_) (fun au => ?_))))))
 rotate_left
 .have cj := z16 au ac
  refine .exit ?_
  obtain rfl := zAa cj
  exact ⟨ci, a9, ba, _, rfl, aq, I⟩
 have ck := z03 au ac
 refine .skip (.seq (.block (.seq (.region ?_))))
 obtain ⟨a, cl, cm⟩ := z05 ck
 have av := z1n cl
 refine W.pv (z4t a3 (F.toNat * 9)) (z5d el24 sz69 (ou (ft (M 59 rfl) rfl)) (ou ar) (z0x (RT.mono _ I ao)) av.1 av.2.1) ?_
 obtain ⟨bb, cn, bc⟩ := (At.le (At.le (z3c ao av.2.2) I I) (zAf _) aq.fro)
 refine W.loadA (cs := bb) rfl rfl ag69 sz69 (z0d rfl cn) (RT.len _ bc) (W.ln (Lo.alloc (r := z0f) (x0 := (Branch.mk ByteArray.empty ByteArray.empty ByteArray.empty 0 0 0 0 0 0)) ze69 (by kernel_rfl) z9o aq) ?_)
 rintro dW dX ⟨T, rfl, co, dq⟩
 refine W.ln (Lo.storeVar (j := 0) (s := z0f) (y0 := a) (v := (.agg bb.toArray)) (o := 0) rfl ((Put.at (Put.self _) _ _)) rfl sz69 rfl (by omega) rfl bc co) ?_
 rintro dY dZ ⟨q, dr⟩
 refine .nil (.seq (.seq (.region ?_)))
 obtain ⟨bd, cp, be⟩ := (q.atVar (j := 3) rfl)
 refine W.loadA (cs := bd) rfl rfl ag29 sz29 (z0d (ft (M 1 rfl) (ft (C 1 rfl) (ft (m 1 rfl) rfl))) cp) (RT.len _ be) (W.pv (padd (.pointer (some ⟨T, 0, none⟩)) 0) (z07 zfc ov (q.atVar (j := 0) rfl)) (W.l1 (.string a.Name) ag9 (z0d rfl (At.str (At.proj (q.atVar (j := 0) rfl) z54))) (W.pv (padd (.pointer (some ⟨T, 0, none⟩)) 1) (z07 zdq ov (q.atVar (j := 0) rfl)) (W.l1 (.string a.From) ag9 (z0d rfl (At.str (At.proj (q.atVar (j := 0) rfl) z4f))) (W.pv (padd (.pointer (some ⟨T, 0, none⟩)) 2) (z07 zdr ov (q.atVar (j := 0) rfl)) (W.l1 (.string a.To) ag9 (z0d rfl (At.str (At.proj (q.atVar (j := 0) rfl) z5f))) ?_))))))
 refine W.ln (Lo.buildSlice (r := rS) (vs := [(.string a.From), (.string a.To)]) (xs := [a.From, a.To]) el22 ze9 sz9 (by kernel_rfl) rfl (qc rfl (qc rfl qn)) rfl (.cons rfl (.cons rfl .nil)) q) ?_
 rintro cq d0 ⟨cr, ds⟩
 obtain ⟨d1, ct, aw, cu⟩ := cr.frzSl (j := 0) rfl
 have cv := (((ct.front (j := 3) rfl).front (j := 1) rfl).front (j := 3) rfl).front (j := 3) rfl
 obtain ⟨f, cw, bf⟩ := z05 cm
 refine W.ln (Lo.qF Tryd.f33 (ps := [_, _]) (pw := fun w => [_, _]) (mc rfl (mc (ft (M 4 rfl) (ft (C 4 rfl) (ft (m 4 rfl) rfl))) (mc rfl (mc rfl mn)))) cv (fun aD N => z2d K bd d (RT.mono _ aw be) u ba (Netmodel_names.mk a9) a.Name cq [a.From, a.To] cu N _ cw)) ?_
 rintro d2 d3 ⟨cx, d4, t, bg, dt, rfl⟩
 have bh := zAe ad (zAe aO (zAe a2 (zAe I (zAe aw bg))))
 refine W.p1 (.int .i64 f.1) (.nil (.seq (.region (W.p2 (.int .i64 f.1) (W.p3 (.bool (f.1 != 0)) (.nil ?_))))))
 refine .cond (b := (f.1 != 0)) rfl rfl (fun ax => ?_) (fun ax => ?_)
 .have cy := z03 ax bf
  refine .seq (.region (W.p2 (.int .i64 f.1) (W.p1 (.int .i64 f.1) (.nil (.ret ?_)))))
  have cz := (((t.drop 0).drop 0).drop 0).drop 0
  obtain rfl := zAa cy
  have cA := z0b (z4e ab)
  obtain rfl := zAa cA
  exact z4i kr (v1 := (.int .i64 f.1)) (by rfl) rt cz bh rfl
 have bi := z16 ax bf
 refine .skip (.seq (.seq (.region (W.pv (padd (.pointer (some ⟨T, 0, none⟩)) 1) (z07 zdq ov (t.atVar (j := 2) rfl)) (W.l1 (.string a.From) ag9 (z0d rfl (At.str (At.proj (t.atVar (j := 2) rfl) z4f))) (W.pv (padd (.pointer (some ⟨T, 0, none⟩)) 2) (z07 zdr ov (t.atVar (j := 2) rfl)) ?_))))))
 refine W.l1 (.string a.To) ag9 (z0d rfl (At.str (At.proj (t.atVar (j := 2) rfl) z5f))) (W.pv (.bool (sEq a.From a.To)) (zc2 ov ov) (.nil (.cond (b := sEq a.From a.To) rfl rfl (fun ay => ?_) (fun ay => ?_))))
 .have cB := z03 ay bi
  refine .seq (.region (W.p1 (.int .i64 3) (.nil (.ret ?_))))
  have cC := (((t.drop 0).drop 0).drop 0).drop 0
  obtain rfl := zAa cB
  have cD := z0b (z4e ab)
  obtain rfl := zAa cD
  exact z4i kr (v1 := (.int .i64 3)) (by rfl) rt cC bh rfl
 have cE := z16 ay bi
 refine .skip (.seq (.region ?_))
 obtain ⟨bj, cF, bk⟩ := (t.atVar (j := 2) rfl)
 refine W.loadA (cs := bj) rfl rfl ag69 sz69 (z0d rfl cF) (RT.len _ bk) ?_
 obtain ⟨y, cG, bl⟩ := z05 cE
 refine W.ln (Lo.cQ Tryd.f34 (mc rfl mn) t (fun aD N => z6r K bj a bk N _ cG)) ?_
 rintro d5 d6 ⟨d7, bm, bn, du, rfl⟩
 have dg := zAe bh bn
 refine W.p1 (.int .i64 y) (.nil (.seq (.region (W.p2 (.int .i64 y) (W.p3 (.bool (y != 0)) (.nil ?_))))))
 refine .cond (b := (y != 0)) rfl rfl (fun az => ?_) (fun az => ?_)
 rotate_left
 .have cH := z16 az bl
  refine .skip (.region (W.r3 (.int .i64 (z0p .i64 (F + 1))) ar (W.p2 (.int .i64 (z0p .i64 (F + 1))) (.nil ?_))))
  have cI := bm.drop 2
  exact ⟨ap, zAg _, ⟨f.2, f.2.l, z0p .i64 (F + 1), cx, _, cH, cI, (zAe I (zAe aw (zAe bg bn))), rfl⟩⟩
 have cJ := z03 az bl
 refine .seq (.region (W.p2 (.int .i64 y) (W.p1 (.int .i64 y) (.nil (.ret ?_)))))
 have cK := (((bm.drop 0).drop 0).drop 0).drop 0
 obtain rfl := zAa cJ
 have cL := z0b (z4e ab)
 obtain rfl := zAa cL
 exact z4i kr (v1 := (.int .i64 y)) (by rfl) rt cK dg rfl
end Go.Am.Tryd
/- Typed functions with the same answers as the program's, and the walks that show it. -/
namespace Go.Am.Tryd
open Go Go.Am Go.Proofs
def z10 (K : Nat) (d : Network) : Nat -> List zAd -> Int -> Option (List zAd)
  | 0, _, _ => none
  | k + 1, a, b => (if (decide (b < (d.Nodes.length : Int))) = true then ((idx d.Nodes b).bind fun e => ((z0y K [(Sum.inl (⟨#[110, 111, 100, 101]⟩ : zAd)), (Sum.inl e)]).bind fun c => (if a.length + [c].length <= 16777216 then z10 K d k (a ++ [c]) (z0p .i64 (b + 1)) else none))) else some a)
def z11 (K : Nat) (e : Network) : Nat -> List zAd -> Int -> Option (List zAd)
  | 0, _, _ => none
  | k + 1, b, c => (if (decide (c < (e.Switches.length : Int))) = true then ((idx e.Switches c).bind fun a => (Option.bind ((if a.Breaker = true then some (⟨#[98, 114, 101, 97, 107, 101, 114]⟩ : zAd) else some (⟨#[115, 119, 105, 116, 99, 104]⟩ : zAd))) (tu1 fun f => (Option.bind ((if a.Open = true then some (⟨#[111, 112, 101, 110]⟩ : zAd) else some (⟨#[99, 108, 111, 115, 101, 100]⟩ : zAd))) (tu1 fun g => ((z0y K [(Sum.inl f), (Sum.inl a.Name), (Sum.inl a.A), (Sum.inl a.B), (Sum.inl g)]).bind fun d => (if b.length + [d].length <= 16777216 then z11 K e k (b ++ [d]) (z0p .i64 (c + 1)) else none))))))) else some b)
def z12 (K : Nat) (e : Network) : Nat -> List zAd -> Int -> Option (List zAd)
  | 0, _, _ => none
  | k + 1, b, c => (if (decide (c < (e.Branches.length : Int))) = true then ((idx e.Branches c).bind fun a => ((z0y K [(Sum.inl (⟨#[98, 114, 97, 110, 99, 104]⟩ : zAd)), (Sum.inl a.Name), (Sum.inl a.From), (Sum.inl a.To), (Sum.inr a.X), (Sum.inr a.Tap), (Sum.inr a.Shift), (Sum.inr a.Limit), (Sum.inr a.Short), (Sum.inr a.Hold)]).bind fun d => (if b.length + [d].length <= 16777216 then z12 K e k (b ++ [d]) (z0p .i64 (c + 1)) else none))) else some b)
def z13 (K : Nat) (e : Network) : Nat -> List zAd -> Int -> Option (List zAd)
  | 0, _, _ => none
  | k + 1, b, c => (if (decide (c < (e.Gens.length : Int))) = true then ((idx e.Gens c).bind fun a => ((z0y K [(Sum.inl (⟨#[103, 101, 110]⟩ : zAd)), (Sum.inl a.Name), (Sum.inl a.Node), (Sum.inr a.Least), (Sum.inr a.Most), (Sum.inr a.Ramp)]).bind fun d => (if b.length + [d].length <= 16777216 then z13 K e k (b ++ [d]) (z0p .i64 (c + 1)) else none))) else some b)
def z14 (K : Nat) (e : Network) : Nat -> List zAd -> Int -> Option (List zAd)
  | 0, _, _ => none
  | k + 1, a, b => (if (decide (b < (e.Loads.length : Int))) = true then ((idx e.Loads b).bind fun c => ((z0y K [(Sum.inl (⟨#[108, 111, 97, 100]⟩ : zAd)), (Sum.inl c.Name), (Sum.inl c.Node), (Sum.inr c.Demand)]).bind fun d => (if a.length + [d].length <= 16777216 then z14 K e k (a ++ [d]) (z0p .i64 (b + 1)) else none))) else some a)
def z0w (K : Nat) (e : Network) : Nat -> List zAd -> Int -> Option (List zAd)
  | 0, _, _ => none
  | k + 1, b, c => (if (decide (c < (e.Stores.length : Int))) = true then ((idx e.Stores c).bind fun a => ((z0y K [(Sum.inl (⟨#[115, 116, 111, 114, 101]⟩ : zAd)), (Sum.inl a.Name), (Sum.inl a.Node), (Sum.inr a.Charge), (Sum.inr a.Discharge), (Sum.inr a.Capacity)]).bind fun d => (if b.length + [d].length <= 16777216 then z0w K e k (b ++ [d]) (z0p .i64 (c + 1)) else none))) else some b)
def z2l (K : Nat) (a : Network) : Option (List zAd) := (Option.bind (z10 K a K [] 0) (tu1 fun g => (Option.bind (z11 K a K g 0) (tu1 fun b => (Option.bind (z12 K a K b 0) (tu1 fun c => (Option.bind (z13 K a K c 0) (tu1 fun d => (Option.bind (z14 K a K d 0) (tu1 fun e => (Option.bind (z0w K a K e 0) (tu1 fun f => some f))))))))))))
theorem z4a (K : Nat) {G : GM} {H : AH} {L : List Pc} (cb : List Value) (g : Network) (er : z00.rep G cb g) (O : Ow G H (L)) (r : List zAd) (h : z2l K g = some r) :
    CRF Tryd.prog 14 [.agg cb.toArray] G H (fun cc => (eSl cc 9 rS r :: L)) (fun cc v f => cc = v) := by
 unfold z2l at h
 refine CRF.og (n := 187) (fn := Tryd.f14) (by kernel_rfl) rfl rfl fun R kr => (.seq (.region (W.ln (Lo.box (r := z00) (x0 := g) (v := (.agg cb.toArray)) rfl rfl er O) ?_)))
 rintro hg hh ⟨w, rfl, cd, g4⟩
 refine W.p1 (.slice none 0 0) (.nil (.seq (.region (W.p1 (.slice none 0 0) (.nil (.seq ?_))))))
 refine .seq (.region (W.pv (padd (.pointer (some ⟨w, 0, none⟩)) 0) (z07 zac ov (cd.atVar (j := 0) rfl)) ?_))
 obtain ⟨es, fK, ce⟩ := At.sl (At.proj (cd.atVar (j := 0) rfl) z29)
 refine W.l1 es ag22 (z0d rfl fK) (W.pv (.int .i64 (g.Nodes.length : Int)) (z25 ov (z0x ce) (z04 el22)) (W.p2 (.int .i64 0) (.nil ?_)))
 obtain ⟨et, eu, ev⟩ := z05 h
 refine AW.midT (fun e p => ∃ (i : List zAd) (f : GM), i = et /\ Ow f p (eVar w 29 z00 g :: eSl (e 3) 9 rS i :: L) /\ GM.le G f) ?_ ?_
 .refine .block ?_
  have ew := cd.nilSl 9 rS
  refine AW.loop (α := Nat) (fun q e p => ∃ (i : List zAd) (z : Int) (f : GM), z10 K g q i z = some et /\ Ow f p (eSl (e 3) 9 rS i :: eVar w 29 z00 g :: L) /\ GM.le G f /\ e 21 = .int .i64 z) (fun q => q) K ⟨[], 0, _, eu, ew, (zAf _), rfl⟩ ?_
  rintro bg
  rintro bh g5 bi ⟨b4, ae, g6, a4, bj, aq, bk⟩
  rcases bg with _ | bg
  .exact z09 a4
  rw [z10] at a4
  refine .seq (.region (W.q3 (.bool (decide (ae < (g.Nodes.length : Int)))) bk (ft (bi 20 rfl) rfl) (.nil (.seq (.cond (b := decide (ae < (g.Nodes.length : Int))) rfl rfl (fun bl => ?_) (fun bl => ?_))))))
  rotate_left
  .have ex := z16 bl a4
   refine .exit ?_
   have ey := (bj.front (j := 0) rfl).front (j := 1) rfl
   obtain rfl := zAa ex
   exact ⟨b4, _, rfl, ey, aq⟩
  have ez := z03 bl a4
  refine .skip (.seq (.block (.seq (.region ?_))))
  obtain ⟨S, eA, eB⟩ := z05 ez
  have bm := z1n eA
  refine W.pv (z4t es (ae.toNat * 1)) (z5d el22 sz9 (ou (ft (bi 19 rfl) rfl)) (ou bk) (z0x (RT.mono _ aq ce)) bm.1 bm.2.1) (W.l1 (.string S) ag9 (z0d rfl (At.str (At.le (At.le (z3c ce bm.2.2) aq aq) (zAf _) bj.fro))) (W.p1 (.string S) (.nil (.region (W.p2 (bh 3) (W.pv (.iface 9 (.string (⟨#[110, 111, 100, 101]⟩ : zAd))) (z6i (by kernel_rfl) ov) ?_))))))
  refine W.p2 (.string S) (W.pv (.iface 9 (.string S)) (z6i (by kernel_rfl) ov) (W.ln (Lo.buildSlice (r := rW) (vs := [(.iface 9 (.string (⟨#[110, 111, 100, 101]⟩ : zAd))), (.iface 9 (.string S))]) (xs := [(Sum.inl (⟨#[110, 111, 100, 101]⟩ : zAd)), (Sum.inl S)]) zhr ze20 sz20 (by kernel_rfl) rfl (qc rfl (qc rfl qn)) rfl (.cons rfl (.cons rfl .nil)) bj) ?_))
  rintro eC g7 ⟨eD, fL⟩
  obtain ⟨bn, eE, eF⟩ := z05 eB
  refine W.ln (Lo.callB (j := 0) rfl rfl (fn := Tryd.f36) (by kernel_rfl) rfl (mc rfl mn) eD (fun f bo hG T hB => z2h K eC [(Sum.inl (⟨#[110, 111, 100, 101]⟩ : zAd)), (Sum.inl S)] hB T _ eE)) ?_
  rintro g8 g9 ⟨ha, eG, eH, fM, rfl⟩
  refine W.ln (Lo.buildSlice (r := rS) (vs := [(.string bn)]) (xs := [bn]) el22 ze9 sz9 (by kernel_rfl) rfl (qc rfl qn) rfl (.cons rfl .nil) eG) ?_
  rintro hb hc ⟨b5, fN⟩
  obtain ⟨fO, eI, eJ⟩ := z3a (j := 0) rfl b5
  obtain ⟨eK, eL⟩ := z2a eF
  refine W.ln (Lo.append (j := 2) (v := (bh 3)) rfl rfl el22 ni22 ze9 sz9 by9 (by decide) (by decide) rfl eI eJ eK b5) ?_
  rintro eM hd ⟨eN, fP⟩
  refine W.p1 eM (.nil (.region (W.r3 (.int .i64 (z0p .i64 (ae + 1))) bk (W.p2 (.int .i64 (z0p .i64 (ae + 1))) (.nil ?_)))))
  have eO := (eN.drop 0).drop 0
  exact ⟨bg, zAg _, ⟨(b4 ++ [bn]), z0p .i64 (ae + 1), _, eL, eO, (zAe aq eH), rfl⟩⟩
 rintro fQ he U ⟨eP, b6, rfl, bp, eQ⟩
 have eR := z0b ev
 refine .seq (.seq (.region (W.pv (padd (.pointer (some ⟨w, 0, none⟩)) 1) (z07 zc3 (ou (ft (U 1 rfl) rfl)) (bp.atVar (j := 0) rfl)) ?_)))
 obtain ⟨b7, eS, bq⟩ := At.sl (At.proj (bp.atVar (j := 0) rfl) z2b)
 refine W.l1 b7 ag23 (z0d rfl eS) (W.pv (.int .i64 (g.Switches.length : Int)) (z25 ov (z0x bq) (z04 el23)) (W.p2 (.int .i64 0) (.nil ?_)))
 obtain ⟨b8, eT, eU⟩ := z05 eR
 refine AW.midT (fun e p => ∃ (i : List zAd) (f : GM), i = b8 /\ Ow f p (eVar w 29 z00 g :: eSl (e 3) 9 rS i :: L) /\ GM.le b6 f) ?_ ?_
 .refine .block (AW.loop (α := Nat) (fun q e p => ∃ (i : List zAd) (z : Int) (f : GM), z11 K g q i z = some b8 /\ Ow f p (eVar w 29 z00 g :: eSl (e 3) 9 rS i :: L) /\ GM.le b6 f /\ e 37 = .int .i64 z) (fun q => q) K ⟨eP, 0, _, eT, bp, (zAf _), rfl⟩ ?_)
  rintro br
  rintro ag hf bs ⟨a5, af, eV, a6, bt, ar, bu⟩
  rcases br with _ | br
  .exact z09 a6
  rw [z11] at a6
  refine .seq (.region (W.q3 (.bool (decide (af < (g.Switches.length : Int)))) bu (ft (bs 36 rfl) rfl) (.nil (.seq (.cond (b := decide (af < (g.Switches.length : Int))) rfl rfl (fun bv => ?_) (fun bv => ?_))))))
  rotate_left
  .have cf := z16 bv a6
   refine .exit ?_
   obtain rfl := zAa cf
   exact ⟨a5, _, rfl, bt, ar⟩
  have eW := z03 bv a6
  refine .skip (.seq (.block (.seq (.region ?_))))
  obtain ⟨l, eX, eY⟩ := z05 eW
  have bw := z1n eX
  refine W.pv (z4t b7 (af.toNat * 5)) (z5d el23 sz64 (ou (ft (bs 35 rfl) rfl)) (ou bu) (z0x (RT.mono _ ar bq)) bw.1 bw.2.1) ?_
  obtain ⟨b9, eZ, ca⟩ := (At.le (At.le (z3c bq bw.2.2) ar ar) (zAf _) bt.fro)
  refine W.loadA (cs := b9) rfl rfl ag64 sz64 (z0d rfl eZ) (RT.len _ ca) (W.ln (Lo.alloc (r := z19) (x0 := (Switch.mk ByteArray.empty ByteArray.empty ByteArray.empty false false)) ze64 (by kernel_rfl) z9n bt) ?_)
  rintro fR fS ⟨V, rfl, e0, e2⟩
  refine W.ln (Lo.storeVar (j := 0) (s := z19) (y0 := l) (v := (.agg b9.toArray)) (o := 0) rfl ((Put.at (Put.self _) _ _)) rfl sz64 rfl (by omega) rfl ca e0) ?_
  rintro fT fU ⟨ah, e3⟩
  refine .nil (.seq (.region (W.p1 (.string (⟨#[115, 119, 105, 116, 99, 104]⟩ : zAd)) (W.p1 (.string (⟨#[99, 108, 111, 115, 101, 100]⟩ : zAd)) (.nil (.seq ?_))))))
  refine .seq (.region (W.pv (padd (.pointer (some ⟨V, 0, none⟩)) 3) (z07 zi3 ov (ah.atVar (j := 0) rfl)) (W.l1 (.bool l.Breaker) ag4 (z0d rfl (At.bool (At.proj (ah.atVar (j := 0) rfl) z63))) (.nil ?_))))
  obtain ⟨cg, bx, ch⟩ := z05 eY
  refine AW.midT (fun e p => ∃ (i : zAd) (f : GM), i = cg /\ Ow f p (eVar V 64 z19 l :: eVar w 29 z00 g :: eSl (ag 3) 9 rS a5 :: L) /\ GM.le eV f /\ e 8 = .string i) ?_ ?_
  .refine .cond (b := l.Breaker) rfl rfl (fun au => ?_) (fun au => ?_)
   rotate_left
   .have ci := z16 au bx
    refine .skip ?_
    obtain rfl := zAa ci
    exact ⟨(⟨#[115, 119, 105, 116, 99, 104]⟩ : zAd), _, rfl, ah, (zAf _), rfl⟩
   have cj := z03 au bx
   refine .region (W.p1 (.string (⟨#[98, 114, 101, 97, 107, 101, 114]⟩ : zAd)) (.nil ?_))
   obtain rfl := zAa cj
   exact ⟨(⟨#[98, 114, 101, 97, 107, 101, 114]⟩ : zAd), _, rfl, ah, (zAf _), rfl⟩
  rintro e4 fV x ⟨ai, ck, rfl, aj, cl, cm⟩
  have cn := z0b ch
  refine .seq (.seq (.region (W.pv (padd (.pointer (some ⟨V, 0, none⟩)) 4) (z07 zi4 (ou (ft (x 7 rfl) rfl)) (aj.atVar (j := 0) rfl)) (W.l1 (.bool l.Open) ag4 (z0d rfl (At.bool (At.proj (aj.atVar (j := 0) rfl) z7x))) (.nil ?_)))))
  obtain ⟨co, bz, cp⟩ := z05 cn
  refine AW.midT (fun e p => ∃ (i : zAd) (f : GM), i = co /\ Ow f p (eVar V 64 z19 l :: eVar w 29 z00 g :: eSl (ag 3) 9 rS a5 :: L) /\ GM.le ck f /\ e 9 = .string i) ?_ ?_
  .refine .cond (b := l.Open) rfl rfl (fun av => ?_) (fun av => ?_)
   rotate_left
   .have cq := z16 av bz
    refine .skip ?_
    obtain rfl := zAa cq
    exact ⟨(⟨#[99, 108, 111, 115, 101, 100]⟩ : zAd), _, rfl, aj, (zAf _), (ft (x 9 rfl) rfl)⟩
   have cr := z03 av bz
   refine .region (W.p1 (.string (⟨#[111, 112, 101, 110]⟩ : zAd)) (.nil ?_))
   obtain rfl := zAa cr
   exact ⟨(⟨#[111, 112, 101, 110]⟩ : zAd), _, rfl, aj, (zAf _), rfl⟩
  rintro e5 fW C ⟨ak, fX, rfl, E, ct, cu⟩
  have cv := z0b cp
  refine .region (W.q2 (ag 3) (ft (C 3 rfl) (ft (x 3 rfl) rfl)) (W.q2 _ (ft (C 8 rfl) cm) (W.pv (.iface 9 (.string ai)) (z6i (by kernel_rfl) ov) (W.pv (padd (.pointer (some ⟨V, 0, none⟩)) 0) (z07 zfb (ou (ft (C 7 rfl) (ft (x 7 rfl) rfl))) (E.atVar (j := 0) rfl)) (W.l1 (.string l.Name) ag9 (z0d rfl (At.str (At.proj (E.atVar (j := 0) rfl) z52))) (W.pv (.iface 9 (.string l.Name)) (z6i (by kernel_rfl) ov) ?_))))))
  refine W.pv (padd (.pointer (some ⟨V, 0, none⟩)) 1) (z07 zdo (ou (ft (C 7 rfl) (ft (x 7 rfl) rfl))) (E.atVar (j := 0) rfl)) (W.l1 (.string l.A) ag9 (z0d rfl (At.str (At.proj (E.atVar (j := 0) rfl) z61))) (W.pv (.iface 9 (.string l.A)) (z6i (by kernel_rfl) ov) (W.pv (padd (.pointer (some ⟨V, 0, none⟩)) 2) (z07 zdp (ou (ft (C 7 rfl) (ft (x 7 rfl) rfl))) (E.atVar (j := 0) rfl)) (W.l1 (.string l.B) ag9 (z0d rfl (At.str (At.proj (E.atVar (j := 0) rfl) z62))) (W.pv (.iface 9 (.string l.B)) (z6i (by kernel_rfl) ov) (W.q2 _ cu ?_))))))
  refine W.pv (.iface 9 (.string ak)) (z6i (by kernel_rfl) ov) (W.ln (Lo.buildSlice (r := rW) (vs := [(.iface 9 (.string ai)), (.iface 9 (.string l.Name)), (.iface 9 (.string l.A)), (.iface 9 (.string l.B)), (.iface 9 (.string ak))]) (xs := [(Sum.inl ai), (Sum.inl l.Name), (Sum.inl l.A), (Sum.inl l.B), (Sum.inl ak)]) zhr ze20 sz20 (by kernel_rfl) rfl (qc rfl (qc rfl (qc rfl (qc rfl (qc rfl qn))))) rfl (.cons rfl (.cons rfl (.cons rfl (.cons rfl (.cons rfl .nil))))) E) ?_)
  rintro cw fY ⟨cx, e6⟩
  obtain ⟨aw, cy, cz⟩ := z05 cv
  refine W.ln (Lo.callB (j := 0) rfl rfl (fn := Tryd.f36) (by kernel_rfl) rfl (mc rfl mn) cx (fun f bo hG T hB => z2h K cw [(Sum.inl ai), (Sum.inl l.Name), (Sum.inl l.A), (Sum.inl l.B), (Sum.inl ak)] hB T _ cy)) ?_
  rintro fZ f0 ⟨f1, cA, cB, e7, rfl⟩
  refine W.ln (Lo.buildSlice (r := rS) (vs := [(.string aw)]) (xs := [aw]) el22 ze9 sz9 (by kernel_rfl) rfl (qc rfl qn) rfl (.cons rfl .nil) cA) ?_
  rintro f2 f3 ⟨bA, e8⟩
  obtain ⟨e9, cC, cD⟩ := z3a (j := 0) rfl bA
  obtain ⟨cE, cF⟩ := z2a cz
  refine W.ln (Lo.append (j := 4) (v := (ag 3)) rfl rfl el22 ni22 ze9 sz9 by9 (by decide) (by decide) rfl cC cD cE bA) ?_
  rintro cG f4 ⟨cH, fa⟩
  refine W.p1 cG (.nil (.region (W.q3 (.int .i64 (z0p .i64 (af + 1))) (ft (C 37 rfl) (ft (x 37 rfl) bu)) rfl (W.p2 (.int .i64 (z0p .i64 (af + 1))) (.nil ?_)))))
  have cI := ((cH.drop 0).drop 0).drop 0
  exact ⟨br, zAg _, ⟨(a5 ++ [aw]), z0p .i64 (af + 1), _, cF, cI, (zAe ar (zAe cl (zAe ct cB))), rfl⟩⟩
 rintro fb f5 P ⟨cJ, bB, rfl, ax, cK⟩
 have cL := z0b eU
 refine .seq (.seq (.region (W.pv (padd (.pointer (some ⟨w, 0, none⟩)) 2) (z07 zc4 (ou (ft (P 1 rfl) (ft (U 1 rfl) rfl))) (ax.atVar (j := 0) rfl)) ?_)))
 obtain ⟨bC, cM, ay⟩ := At.sl (At.proj (ax.atVar (j := 0) rfl) z2c)
 refine W.l1 bC ag24 (z0d rfl cM) (W.pv (.int .i64 (g.Branches.length : Int)) (z25 ov (z0x ay) (z04 el24)) (W.p2 (.int .i64 0) (.nil ?_)))
 obtain ⟨bD, cN, cO⟩ := z05 cL
 refine AW.midT (fun e p => ∃ (i : List zAd) (f : GM), i = bD /\ Ow f p (eVar w 29 z00 g :: eSl (e 3) 9 rS i :: L) /\ GM.le bB f) ?_ ?_
 .refine .block (AW.loop (α := Nat) (fun q e p => ∃ (i : List zAd) (z : Int) (f : GM), z12 K g q i z = some bD /\ Ow f p (eVar w 29 z00 g :: eSl (e 3) 9 rS i :: L) /\ GM.le bB f /\ e 67 = .int .i64 z) (fun q => q) K ⟨cJ, 0, _, cN, ax, (zAf _), rfl⟩ ?_)
  rintro az
  rintro a7 f6 a8 ⟨bE, I, f7, al, aA, Y, aB⟩
  rcases az with _ | az
  .exact z09 al
  rw [z12] at al
  refine .seq (.region (W.q3 (.bool (decide (I < (g.Branches.length : Int)))) aB (ft (a8 66 rfl) rfl) (.nil (.seq (.cond (b := decide (I < (g.Branches.length : Int))) rfl rfl (fun aC => ?_) (fun aC => ?_))))))
  rotate_left
  .have cP := z16 aC al
   refine .exit ?_
   obtain rfl := zAa cP
   exact ⟨bE, _, rfl, aA, Y⟩
  have cQ := z03 aC al
  refine .skip (.seq (.block (.seq (.region ?_))))
  obtain ⟨a, cR, cS⟩ := z05 cQ
  have aD := z1n cR
  refine W.pv (z4t bC (I.toNat * 9)) (z5d el24 sz69 (ou (ft (a8 65 rfl) rfl)) (ou aB) (z0x (RT.mono _ Y ay)) aD.1 aD.2.1) ?_
  obtain ⟨bF, cT, bG⟩ := (At.le (At.le (z3c ay aD.2.2) Y Y) (zAf _) aA.fro)
  refine W.loadA (cs := bF) rfl rfl ag69 sz69 (z0d rfl cT) (RT.len _ bG) (W.ln (Lo.alloc (r := z0f) (x0 := (Branch.mk ByteArray.empty ByteArray.empty ByteArray.empty 0 0 0 0 0 0)) ze69 (by kernel_rfl) z9o aA) ?_)
  rintro f8 f9 ⟨y, rfl, cU, fc⟩
  refine W.ln (Lo.storeVar (j := 0) (s := z0f) (y0 := a) (v := (.agg bF.toArray)) (o := 0) rfl ((Put.at (Put.self _) _ _)) rfl sz69 rfl (by omega) rfl bG cU) ?_
  rintro ga gb ⟨k, fd⟩
  refine .nil (.region (W.p2 (a7 3) (W.pv (.iface 9 (.string (⟨#[98, 114, 97, 110, 99, 104]⟩ : zAd))) (z6i (by kernel_rfl) ov) (W.pv (padd (.pointer (some ⟨y, 0, none⟩)) 0) (z07 zfc ov (k.atVar (j := 0) rfl)) (W.l1 (.string a.Name) ag9 (z0d rfl (At.str (At.proj (k.atVar (j := 0) rfl) z54))) (W.pv (.iface 9 (.string a.Name)) (z6i (by kernel_rfl) ov) ?_))))))
  refine W.pv (padd (.pointer (some ⟨y, 0, none⟩)) 1) (z07 zdq ov (k.atVar (j := 0) rfl)) (W.l1 (.string a.From) ag9 (z0d rfl (At.str (At.proj (k.atVar (j := 0) rfl) z4f))) (W.pv (.iface 9 (.string a.From)) (z6i (by kernel_rfl) ov) (W.pv (padd (.pointer (some ⟨y, 0, none⟩)) 2) (z07 zdr ov (k.atVar (j := 0) rfl)) (W.l1 (.string a.To) ag9 (z0d rfl (At.str (At.proj (k.atVar (j := 0) rfl) z5f))) (W.pv (.iface 9 (.string a.To)) (z6i (by kernel_rfl) ov) (W.pv (padd (.pointer (some ⟨y, 0, none⟩)) 3) (z07 zfd ov (k.atVar (j := 0) rfl)) ?_))))))
  refine W.l1 (.int .i64 a.X) ag3 (z0d rfl (At.int (At.proj (k.atVar (j := 0) rfl) z78))) (W.pv (.iface 3 (.int .i64 a.X)) (z6i (by kernel_rfl) ov) (W.pv (padd (.pointer (some ⟨y, 0, none⟩)) 4) (z07 zfe ov (k.atVar (j := 0) rfl)) (W.l1 (.int .i64 a.Tap) ag3 (z0d rfl (At.int (At.proj (k.atVar (j := 0) rfl) z5i))) (W.pv (.iface 3 (.int .i64 a.Tap)) (z6i (by kernel_rfl) ov) (W.pv (padd (.pointer (some ⟨y, 0, none⟩)) 5) (z07 zff ov (k.atVar (j := 0) rfl)) (W.l1 (.int .i64 a.Shift) ag3 (z0d rfl (At.int (At.proj (k.atVar (j := 0) rfl) z4k))) ?_))))))
  refine W.pv (.iface 3 (.int .i64 a.Shift)) (z6i (by kernel_rfl) ov) (W.pv (padd (.pointer (some ⟨y, 0, none⟩)) 6) (z07 zc8 ov (k.atVar (j := 0) rfl)) (W.l1 (.int .i64 a.Limit) ag3 (z0d rfl (At.int (At.proj (k.atVar (j := 0) rfl) z3g))) (W.pv (.iface 3 (.int .i64 a.Limit)) (z6i (by kernel_rfl) ov) (W.pv (padd (.pointer (some ⟨y, 0, none⟩)) 7) (z07 zfg ov (k.atVar (j := 0) rfl)) (W.l1 (.int .i64 a.Short) ag3 (z0d rfl (At.int (At.proj (k.atVar (j := 0) rfl) z4l))) (W.pv (.iface 3 (.int .i64 a.Short)) (z6i (by kernel_rfl) ov) ?_))))))
  refine W.pv (padd (.pointer (some ⟨y, 0, none⟩)) 8) (z07 zfh ov (k.atVar (j := 0) rfl)) (W.l1 (.int .i64 a.Hold) ag3 (z0d rfl (At.int (At.proj (k.atVar (j := 0) rfl) z55))) (W.pv (.iface 3 (.int .i64 a.Hold)) (z6i (by kernel_rfl) ov) (W.ln (Lo.buildSlice (r := rW) (vs := [(.iface 9 (.string (⟨#[98, 114, 97, 110, 99, 104]⟩ : zAd))), (.iface 9 (.string a.Name)), (.iface 9 (.string a.From)), (.iface 9 (.string a.To)), (.iface 3 (.int .i64 a.X)), (.iface 3 (.int .i64 a.Tap)), (.iface 3 (.int .i64 a.Shift)), (.iface 3 (.int .i64 a.Limit)), (.iface 3 (.int .i64 a.Short)), (.iface 3 (.int .i64 a.Hold))]) (xs := [(Sum.inl (⟨#[98, 114, 97, 110, 99, 104]⟩ : zAd)), (Sum.inl a.Name), (Sum.inl a.From), (Sum.inl a.To), (Sum.inr a.X), (Sum.inr a.Tap), (Sum.inr a.Shift), (Sum.inr a.Limit), (Sum.inr a.Short), (Sum.inr a.Hold)]) zhr ze20 sz20 (by kernel_rfl) rfl (qc rfl (qc rfl (qc rfl (qc rfl (qc rfl (qc rfl (qc rfl (qc rfl (qc rfl (qc rfl qn)))))))))) rfl (.cons rfl (.cons rfl (.cons rfl (.cons rfl (.cons rfl (.cons rfl (.cons rfl (.cons rfl (.cons rfl (.cons rfl .nil)))))))))) k) ?_)))
  rintro cV gc ⟨cW, fe⟩
  obtain ⟨aE, cX, cY⟩ := z05 cS
  refine W.ln (Lo.callB (j := 0) rfl rfl (fn := Tryd.f36) (by kernel_rfl) rfl (mc rfl mn) cW (fun f bo hG T hB => z2h K cV [(Sum.inl (⟨#[98, 114, 97, 110, 99, 104]⟩ : zAd)), (Sum.inl a.Name), (Sum.inl a.From), (Sum.inl a.To), (Sum.inr a.X), (Sum.inr a.Tap), (Sum.inr a.Shift), (Sum.inr a.Limit), (Sum.inr a.Short), (Sum.inr a.Hold)] hB T _ cX)) ?_
  rintro gd ge ⟨gf, cZ, c0, ff, rfl⟩
  refine W.ln (Lo.buildSlice (r := rS) (vs := [(.string aE)]) (xs := [aE]) el22 ze9 sz9 (by kernel_rfl) rfl (qc rfl qn) rfl (.cons rfl .nil) cZ) ?_
  rintro gg gh ⟨bH, fg⟩
  obtain ⟨fh, c1, c2⟩ := z3a (j := 0) rfl bH
  obtain ⟨c3, c4⟩ := z2a cY
  refine W.ln (Lo.append (j := 4) (v := (a7 3)) rfl rfl el22 ni22 ze9 sz9 by9 (by decide) (by decide) rfl c1 c2 c3 bH) ?_
  rintro c5 gi ⟨c6, fi⟩
  refine W.p1 c5 (.nil (.region (W.r3 (.int .i64 (z0p .i64 (I + 1))) aB (W.p2 (.int .i64 (z0p .i64 (I + 1))) (.nil ?_)))))
  have c7 := ((c6.drop 0).drop 0).drop 0
  exact ⟨az, zAg _, ⟨(bE ++ [aE]), z0p .i64 (I + 1), _, c4, c7, (zAe Y c0), rfl⟩⟩
 rintro fj gj am ⟨c8, bI, rfl, aF, c9⟩
 have da := z0b cO
 refine .seq (.seq (.region (W.pv (padd (.pointer (some ⟨w, 0, none⟩)) 3) (z07 zc5 (ou (ft (am 1 rfl) (ft (P 1 rfl) (ft (U 1 rfl) rfl)))) (aF.atVar (j := 0) rfl)) ?_)))
 obtain ⟨bJ, db, aG⟩ := At.sl (At.proj (aF.atVar (j := 0) rfl) z3h)
 refine W.l1 bJ ag25 (z0d rfl db) (W.pv (.int .i64 (g.Gens.length : Int)) (z25 ov (z0x aG) (z04 el25)) (W.p2 (.int .i64 0) (.nil ?_)))
 obtain ⟨bK, dc, dd⟩ := z05 da
 refine AW.midT (fun e p => ∃ (i : List zAd) (f : GM), i = bK /\ Ow f p (eVar w 29 z00 g :: eSl (e 3) 9 rS i :: L) /\ GM.le bI f) ?_ ?_
 .refine .block (AW.loop (α := Nat) (fun q e p => ∃ (i : List zAd) (z : Int) (f : GM), z13 K g q i z = some bK /\ Ow f p (eVar w 29 z00 g :: eSl (e 3) 9 rS i :: L) /\ GM.le bI f /\ e 108 = .int .i64 z) (fun q => q) K ⟨c8, 0, _, dc, aF, (zAf _), rfl⟩ ?_)
  rintro aH
  rintro a9 gm ba ⟨bL, J, gn, an, aI, Z, aJ⟩
  rcases aH with _ | aH
  .exact z09 an
  rw [z13] at an
  refine .seq (.region (W.q3 (.bool (decide (J < (g.Gens.length : Int)))) aJ (ft (ba 107 rfl) rfl) (.nil (.seq (.cond (b := decide (J < (g.Gens.length : Int))) rfl rfl (fun aK => ?_) (fun aK => ?_))))))
  rotate_left
  .have de := z16 aK an
   refine .exit ?_
   obtain rfl := zAa de
   exact ⟨bL, _, rfl, aI, Z⟩
  have df := z03 aK an
  refine .skip (.seq (.block (.seq (.region ?_))))
  obtain ⟨c, dg, dh⟩ := z05 df
  have aL := z1n dg
  refine W.pv (z4t bJ (J.toNat * 5)) (z5d el25 sz71 (ou (ft (ba 106 rfl) rfl)) (ou aJ) (z0x (RT.mono _ Z aG)) aL.1 aL.2.1) ?_
  obtain ⟨bM, di, bN⟩ := (At.le (At.le (z3c aG aL.2.2) Z Z) (zAf _) aI.fro)
  refine W.loadA (cs := bM) rfl rfl ag71 sz71 (z0d rfl di) (RT.len _ bN) (W.ln (Lo.alloc (r := z4w) (x0 := (Gen.mk ByteArray.empty ByteArray.empty 0 0 0)) ze71 (by kernel_rfl) zip aI) ?_)
  rintro go gp ⟨aa, rfl, dj, fk⟩
  refine W.ln (Lo.storeVar (j := 0) (s := z4w) (y0 := c) (v := (.agg bM.toArray)) (o := 0) rfl ((Put.at (Put.self _) _ _)) rfl sz71 rfl (by omega) rfl bN dj) ?_
  rintro gq gr ⟨t, fl⟩
  refine .nil (.region (W.p2 (a9 3) (W.pv (.iface 9 (.string (⟨#[103, 101, 110]⟩ : zAd))) (z6i (by kernel_rfl) ov) (W.pv (padd (.pointer (some ⟨aa, 0, none⟩)) 0) (z07 zfi ov (t.atVar (j := 0) rfl)) (W.l1 (.string c.Name) ag9 (z0d rfl (At.str (At.proj (t.atVar (j := 0) rfl) z79))) (W.pv (.iface 9 (.string c.Name)) (z6i (by kernel_rfl) ov) ?_))))))
  refine W.pv (padd (.pointer (some ⟨aa, 0, none⟩)) 1) (z07 zfj ov (t.atVar (j := 0) rfl)) (W.l1 (.string c.Node) ag9 (z0d rfl (At.str (At.proj (t.atVar (j := 0) rfl) z7a))) (W.pv (.iface 9 (.string c.Node)) (z6i (by kernel_rfl) ov) (W.pv (padd (.pointer (some ⟨aa, 0, none⟩)) 2) (z07 zc9 ov (t.atVar (j := 0) rfl)) (W.l1 (.int .i64 c.Least) ag3 (z0d rfl (At.int (At.proj (t.atVar (j := 0) rfl) z4q))) (W.pv (.iface 3 (.int .i64 c.Least)) (z6i (by kernel_rfl) ov) (W.pv (padd (.pointer (some ⟨aa, 0, none⟩)) 3) (z07 zfk ov (t.atVar (j := 0) rfl)) ?_))))))
  refine W.l1 (.int .i64 c.Most) ag3 (z0d rfl (At.int (At.proj (t.atVar (j := 0) rfl) z7b))) (W.pv (.iface 3 (.int .i64 c.Most)) (z6i (by kernel_rfl) ov) (W.pv (padd (.pointer (some ⟨aa, 0, none⟩)) 4) (z07 zfl ov (t.atVar (j := 0) rfl)) (W.l1 (.int .i64 c.Ramp) ag3 (z0d rfl (At.int (At.proj (t.atVar (j := 0) rfl) z7c))) (W.pv (.iface 3 (.int .i64 c.Ramp)) (z6i (by kernel_rfl) ov) (W.ln (Lo.buildSlice (r := rW) (vs := [(.iface 9 (.string (⟨#[103, 101, 110]⟩ : zAd))), (.iface 9 (.string c.Name)), (.iface 9 (.string c.Node)), (.iface 3 (.int .i64 c.Least)), (.iface 3 (.int .i64 c.Most)), (.iface 3 (.int .i64 c.Ramp))]) (xs := [(Sum.inl (⟨#[103, 101, 110]⟩ : zAd)), (Sum.inl c.Name), (Sum.inl c.Node), (Sum.inr c.Least), (Sum.inr c.Most), (Sum.inr c.Ramp)]) zhr ze20 sz20 (by kernel_rfl) rfl (qc rfl (qc rfl (qc rfl (qc rfl (qc rfl (qc rfl qn)))))) rfl (.cons rfl (.cons rfl (.cons rfl (.cons rfl (.cons rfl (.cons rfl .nil)))))) t) ?_)))))
  rintro dk gs ⟨dl, fm⟩
  obtain ⟨aM, dm, dn⟩ := z05 dh
  refine W.ln (Lo.callB (j := 0) rfl rfl (fn := Tryd.f36) (by kernel_rfl) rfl (mc rfl mn) dl (fun f bo hG T hB => z2h K dk [(Sum.inl (⟨#[103, 101, 110]⟩ : zAd)), (Sum.inl c.Name), (Sum.inl c.Node), (Sum.inr c.Least), (Sum.inr c.Most), (Sum.inr c.Ramp)] hB T _ dm)) ?_
  rintro gt gu ⟨gv, dp, dq, fo, rfl⟩
  refine W.ln (Lo.buildSlice (r := rS) (vs := [(.string aM)]) (xs := [aM]) el22 ze9 sz9 (by kernel_rfl) rfl (qc rfl qn) rfl (.cons rfl .nil) dp) ?_
  rintro gw gx ⟨bO, fp⟩
  obtain ⟨fq, dr, ds⟩ := z3a (j := 0) rfl bO
  obtain ⟨dt, du⟩ := z2a dn
  refine W.ln (Lo.append (j := 4) (v := (a9 3)) rfl rfl el22 ni22 ze9 sz9 by9 (by decide) (by decide) rfl dr ds dt bO) ?_
  rintro dv gy ⟨dw, fr⟩
  refine W.p1 dv (.nil (.region (W.r3 (.int .i64 (z0p .i64 (J + 1))) aJ (W.p2 (.int .i64 (z0p .i64 (J + 1))) (.nil ?_)))))
  have dx := ((dw.drop 0).drop 0).drop 0
  exact ⟨aH, zAg _, ⟨(bL ++ [aM]), z0p .i64 (J + 1), _, du, dx, (zAe Z dq), rfl⟩⟩
 rintro fs gz bb ⟨dy, bP, rfl, aN, dz⟩
 have dA := z0b dd
 refine .seq (.seq (.region (W.pv (padd (.pointer (some ⟨w, 0, none⟩)) 4) (z07 zc6 (ou (ft (bb 1 rfl) (ft (am 1 rfl) (ft (P 1 rfl) (ft (U 1 rfl) rfl))))) (aN.atVar (j := 0) rfl)) ?_)))
 obtain ⟨bQ, dB, aO⟩ := At.sl (At.proj (aN.atVar (j := 0) rfl) z36)
 refine W.l1 bQ ag26 (z0d rfl dB) (W.pv (.int .i64 (g.Loads.length : Int)) (z25 ov (z0x aO) (z04 el26)) (W.p2 (.int .i64 0) (.nil ?_)))
 obtain ⟨bR, dC, dD⟩ := z05 dA
 refine AW.midT (fun e p => ∃ (i : List zAd) (f : GM), i = bR /\ Ow f p (eVar w 29 z00 g :: eSl (e 3) 9 rS i :: L) /\ GM.le bP f) ?_ ?_
 .refine .block (AW.loop (α := Nat) (fun q e p => ∃ (i : List zAd) (z : Int) (f : GM), z14 K g q i z = some bR /\ Ow f p (eVar w 29 z00 g :: eSl (e 3) 9 rS i :: L) /\ GM.le bP f /\ e 137 = .int .i64 z) (fun q => q) K ⟨dy, 0, _, dC, aN, (zAf _), rfl⟩ ?_)
  rintro aP
  rintro bc gA bd ⟨bS, M, gB, ao, aQ, ab, aR⟩
  rcases aP with _ | aP
  .exact z09 ao
  rw [z14] at ao
  refine .seq (.region (W.q3 (.bool (decide (M < (g.Loads.length : Int)))) aR (ft (bd 136 rfl) rfl) (.nil (.seq (.cond (b := decide (M < (g.Loads.length : Int))) rfl rfl (fun aS => ?_) (fun aS => ?_))))))
  rotate_left
  .have dE := z16 aS ao
   refine .exit ?_
   obtain rfl := zAa dE
   exact ⟨bS, _, rfl, aQ, ab⟩
  have dF := z03 aS ao
  refine .skip (.seq (.block (.seq (.region ?_))))
  obtain ⟨m, dG, dH⟩ := z05 dF
  have aT := z1n dG
  refine W.pv (z4t bQ (M.toNat * 3)) (z5d el26 sz45 (ou (ft (bd 135 rfl) rfl)) (ou aR) (z0x (RT.mono _ ab aO)) aT.1 aT.2.1) ?_
  obtain ⟨bT, dI, bU⟩ := (At.le (At.le (z3c aO aT.2.2) ab ab) (zAf _) aQ.fro)
  refine W.loadA (cs := bT) rfl rfl ag45 sz45 (z0d rfl dI) (RT.len _ bU) (W.ln (Lo.alloc (r := z27) (x0 := (Load_.mk ByteArray.empty ByteArray.empty 0)) ze45 (by kernel_rfl) zbl aQ) ?_)
  rintro gC gD ⟨aU, rfl, dJ, fu⟩
  refine W.ln (Lo.storeVar (j := 0) (s := z27) (y0 := m) (v := (.agg bT.toArray)) (o := 0) rfl ((Put.at (Put.self _) _ _)) rfl sz45 rfl (by omega) rfl bU dJ) ?_
  rintro gE gF ⟨F, fv⟩
  refine .nil (.region (W.p2 (bc 3) (W.pv (.iface 9 (.string (⟨#[108, 111, 97, 100]⟩ : zAd))) (z6i (by kernel_rfl) ov) (W.pv (padd (.pointer (some ⟨aU, 0, none⟩)) 0) (z07 zf8 ov (F.atVar (j := 0) rfl)) (W.l1 (.string m.Name) ag9 (z0d rfl (At.str (At.proj (F.atVar (j := 0) rfl) z5j))) (W.pv (.iface 9 (.string m.Name)) (z6i (by kernel_rfl) ov) ?_))))))
  refine W.pv (padd (.pointer (some ⟨aU, 0, none⟩)) 1) (z07 zf9 ov (F.atVar (j := 0) rfl)) (W.l1 (.string m.Node) ag9 (z0d rfl (At.str (At.proj (F.atVar (j := 0) rfl) z5k))) (W.pv (.iface 9 (.string m.Node)) (z6i (by kernel_rfl) ov) (W.pv (padd (.pointer (some ⟨aU, 0, none⟩)) 2) (z07 zfa ov (F.atVar (j := 0) rfl)) (W.l1 (.int .i64 m.Demand) ag3 (z0d rfl (At.int (At.proj (F.atVar (j := 0) rfl) z4m))) (W.pv (.iface 3 (.int .i64 m.Demand)) (z6i (by kernel_rfl) ov) (W.ln (Lo.buildSlice (r := rW) (vs := [(.iface 9 (.string (⟨#[108, 111, 97, 100]⟩ : zAd))), (.iface 9 (.string m.Name)), (.iface 9 (.string m.Node)), (.iface 3 (.int .i64 m.Demand))]) (xs := [(Sum.inl (⟨#[108, 111, 97, 100]⟩ : zAd)), (Sum.inl m.Name), (Sum.inl m.Node), (Sum.inr m.Demand)]) zhr ze20 sz20 (by kernel_rfl) rfl (qc rfl (qc rfl (qc rfl (qc rfl qn)))) rfl (.cons rfl (.cons rfl (.cons rfl (.cons rfl .nil)))) F) ?_))))))
  rintro dK gG ⟨dL, fw⟩
  obtain ⟨aV, dM, dN⟩ := z05 dH
  refine W.ln (Lo.callB (j := 0) rfl rfl (fn := Tryd.f36) (by kernel_rfl) rfl (mc rfl mn) dL (fun f bo hG T hB => z2h K dK [(Sum.inl (⟨#[108, 111, 97, 100]⟩ : zAd)), (Sum.inl m.Name), (Sum.inl m.Node), (Sum.inr m.Demand)] hB T _ dM)) ?_
  rintro gH gI ⟨gJ, dO, dP, fx, rfl⟩
  refine W.ln (Lo.buildSlice (r := rS) (vs := [(.string aV)]) (xs := [aV]) el22 ze9 sz9 (by kernel_rfl) rfl (qc rfl qn) rfl (.cons rfl .nil) dO) ?_
  rintro gK gL ⟨bV, fy⟩
  obtain ⟨fz, dQ, dR⟩ := z3a (j := 0) rfl bV
  obtain ⟨dT, dU⟩ := z2a dN
  refine W.ln (Lo.append (j := 4) (v := (bc 3)) rfl rfl el22 ni22 ze9 sz9 by9 (by decide) (by decide) rfl dQ dR dT bV) ?_
  rintro dV gM ⟨dW, fA⟩
  refine W.p1 dV (.nil (.region (W.r3 (.int .i64 (z0p .i64 (M + 1))) aR (W.p2 (.int .i64 (z0p .i64 (M + 1))) (.nil ?_)))))
  have dX := ((dW.drop 0).drop 0).drop 0
  exact ⟨aP, zAg _, ⟨(bS ++ [aV]), z0p .i64 (M + 1), _, dU, dX, (zAe ab dP), rfl⟩⟩
 rintro fB gN b3 ⟨dY, bW, rfl, aW, dZ⟩
 have d0 := z0b dD
 refine .seq (.seq (.region (W.pv (padd (.pointer (some ⟨w, 0, none⟩)) 5) (z07 zc7 (ou (ft (b3 1 rfl) (ft (bb 1 rfl) (ft (am 1 rfl) (ft (P 1 rfl) (ft (U 1 rfl) rfl)))))) (aW.atVar (j := 0) rfl)) ?_)))
 obtain ⟨bX, d1, aX⟩ := At.sl (At.proj (aW.atVar (j := 0) rfl) z2w)
 refine W.l1 bX ag27 (z0d rfl d1) (W.pv (.int .i64 (g.Stores.length : Int)) (z25 ov (z0x aX) (z04 el27)) (W.p2 (.int .i64 0) (.nil ?_)))
 obtain ⟨bY, d2, d3⟩ := z05 d0
 refine AW.midT (fun e p => ∃ (i : List zAd) (f : GM), i = bY /\ Ow f p (eVar w 29 z00 g :: eSl (e 3) 9 rS i :: L) /\ GM.le bW f) ?_ ?_
 rotate_left
 .rintro Q gO fC ⟨gP, gQ, rfl, d4, d5⟩
  have e1 := zAe eQ (zAe cK (zAe c9 (zAe dz (zAe dZ d5))))
  have d6 := z0b d3
  refine .seq (.region (W.p2 (Q 3) (W.p1 (Q 3) (.nil (.ret ?_)))))
  have d7 := d4.drop 0
  obtain rfl := zAa d6
  exact z5q kr (Q 3) (v1 := (Q 3)) (by rfl) rt d7 e1 rfl
 refine .block (AW.loop (α := Nat) (fun q e p => ∃ (i : List zAd) (z : Int) (f : GM), z0w K g q i z = some bY /\ Ow f p (eVar w 29 z00 g :: eSl (e 3) 9 rS i :: L) /\ GM.le bW f /\ e 160 = .int .i64 z) (fun q => q) K ⟨dY, 0, _, d2, aW, (zAf _), rfl⟩ ?_)
 rintro aY
 rintro be gR bf ⟨bZ, N, gS, ap, aZ, ac, a0⟩
 rcases aY with _ | aY
 .exact z09 ap
 rw [z0w] at ap
 refine .seq (.region (W.q3 (.bool (decide (N < (g.Stores.length : Int)))) a0 (ft (bf 159 rfl) rfl) (.nil (.seq (.cond (b := decide (N < (g.Stores.length : Int))) rfl rfl (fun a1 => ?_) (fun a1 => ?_))))))
 rotate_left
 .have d8 := z16 a1 ap
  refine .exit ?_
  obtain rfl := zAa d8
  exact ⟨bZ, _, rfl, aZ, ac⟩
 have d9 := z03 a1 ap
 refine .skip (.seq (.block (.seq (.region ?_))))
 obtain ⟨d, ea, eb⟩ := z05 d9
 have a2 := z1n ea
 refine W.pv (z4t bX (N.toNat * 5)) (z5d el27 sz73 (ou (ft (bf 158 rfl) rfl)) (ou a0) (z0x (RT.mono _ ac aX)) a2.1 a2.2.1) ?_
 obtain ⟨b0, ec, b1⟩ := (At.le (At.le (z3c aX a2.2.2) ac ac) (zAf _) aZ.fro)
 refine W.loadA (cs := b0) rfl rfl ag73 sz73 (z0d rfl ec) (RT.len _ b1) (W.ln (Lo.alloc (r := z1f) (x0 := (Store.mk ByteArray.empty ByteArray.empty 0 0 0)) ze73 (by kernel_rfl) zbm aZ) ?_)
 rintro gT gU ⟨ad, rfl, ed, fD⟩
 refine W.ln (Lo.storeVar (j := 0) (s := z1f) (y0 := d) (v := (.agg b0.toArray)) (o := 0) rfl ((Put.at (Put.self _) _ _)) rfl sz73 rfl (by omega) rfl b1 ed) ?_
 rintro gV gW ⟨u, fE⟩
 refine .nil (.region (W.p2 (be 3) (W.pv (.iface 9 (.string (⟨#[115, 116, 111, 114, 101]⟩ : zAd))) (z6i (by kernel_rfl) ov) (W.pv (padd (.pointer (some ⟨ad, 0, none⟩)) 0) (z07 zfm ov (u.atVar (j := 0) rfl)) (W.l1 (.string d.Name) ag9 (z0d rfl (At.str (At.proj (u.atVar (j := 0) rfl) z5l))) (W.pv (.iface 9 (.string d.Name)) (z6i (by kernel_rfl) ov) ?_))))))
 refine W.pv (padd (.pointer (some ⟨ad, 0, none⟩)) 1) (z07 zfn ov (u.atVar (j := 0) rfl)) (W.l1 (.string d.Node) ag9 (z0d rfl (At.str (At.proj (u.atVar (j := 0) rfl) z5m))) (W.pv (.iface 9 (.string d.Node)) (z6i (by kernel_rfl) ov) (W.pv (padd (.pointer (some ⟨ad, 0, none⟩)) 2) (z07 zfo ov (u.atVar (j := 0) rfl)) (W.l1 (.int .i64 d.Charge) ag3 (z0d rfl (At.int (At.proj (u.atVar (j := 0) rfl) z4n))) (W.pv (.iface 3 (.int .i64 d.Charge)) (z6i (by kernel_rfl) ov) (W.pv (padd (.pointer (some ⟨ad, 0, none⟩)) 3) (z07 zfp ov (u.atVar (j := 0) rfl)) ?_))))))
 refine W.l1 (.int .i64 d.Discharge) ag3 (z0d rfl (At.int (At.proj (u.atVar (j := 0) rfl) z3q))) (W.pv (.iface 3 (.int .i64 d.Discharge)) (z6i (by kernel_rfl) ov) (W.pv (padd (.pointer (some ⟨ad, 0, none⟩)) 4) (z07 zfq ov (u.atVar (j := 0) rfl)) (W.l1 (.int .i64 d.Capacity) ag3 (z0d rfl (At.int (At.proj (u.atVar (j := 0) rfl) z42))) (W.pv (.iface 3 (.int .i64 d.Capacity)) (z6i (by kernel_rfl) ov) (W.ln (Lo.buildSlice (r := rW) (vs := [(.iface 9 (.string (⟨#[115, 116, 111, 114, 101]⟩ : zAd))), (.iface 9 (.string d.Name)), (.iface 9 (.string d.Node)), (.iface 3 (.int .i64 d.Charge)), (.iface 3 (.int .i64 d.Discharge)), (.iface 3 (.int .i64 d.Capacity))]) (xs := [(Sum.inl (⟨#[115, 116, 111, 114, 101]⟩ : zAd)), (Sum.inl d.Name), (Sum.inl d.Node), (Sum.inr d.Charge), (Sum.inr d.Discharge), (Sum.inr d.Capacity)]) zhr ze20 sz20 (by kernel_rfl) rfl (qc rfl (qc rfl (qc rfl (qc rfl (qc rfl (qc rfl qn)))))) rfl (.cons rfl (.cons rfl (.cons rfl (.cons rfl (.cons rfl (.cons rfl .nil)))))) u) ?_)))))
 rintro ee gX ⟨ef, fF⟩
 obtain ⟨a3, eg, eh⟩ := z05 eb
 refine W.ln (Lo.callB (j := 0) rfl rfl (fn := Tryd.f36) (by kernel_rfl) rfl (mc rfl mn) ef (fun f bo hG T hB => z2h K ee [(Sum.inl (⟨#[115, 116, 111, 114, 101]⟩ : zAd)), (Sum.inl d.Name), (Sum.inl d.Node), (Sum.inr d.Charge), (Sum.inr d.Discharge), (Sum.inr d.Capacity)] hB T _ eg)) ?_
 rintro gY gZ ⟨g0, ei, ej, fG, rfl⟩
 refine W.ln (Lo.buildSlice (r := rS) (vs := [(.string a3)]) (xs := [a3]) el22 ze9 sz9 (by kernel_rfl) rfl (qc rfl qn) rfl (.cons rfl .nil) ei) ?_
 rintro g1 g2 ⟨b2, fH⟩
 obtain ⟨fI, ek, el⟩ := z3a (j := 0) rfl b2
 obtain ⟨em, en⟩ := z2a eh
 refine W.ln (Lo.append (j := 4) (v := (be 3)) rfl rfl el22 ni22 ze9 sz9 by9 (by decide) (by decide) rfl ek el em b2) ?_
 rintro eo g3 ⟨ep, fJ⟩
 refine W.p1 eo (.nil (.region (W.r3 (.int .i64 (z0p .i64 (N + 1))) a0 (W.p2 (.int .i64 (z0p .i64 (N + 1))) (.nil ?_)))))
 have eq := ((ep.drop 0).drop 0).drop 0
 exact ⟨aY, zAg _, ⟨(bZ ++ [a3]), z0p .i64 (N + 1), _, en, eq, (zAe ac ej), rfl⟩⟩
end Go.Am.Tryd
/- The printed text of a network: the function's contract, out of those of its callees. -/
namespace Go.Am.Tryd
open Go Go.Am Go.Proofs Go.RowKit
def z6k (xs : List zAd) : List UInt8 := (xs.map fun s => s.data.toList ++ [10]).flatten
theorem zg9 {ι : Go.Am.Ren} {xs : List Value} {v : Value} (h : VR ι (.agg ⟨xs⟩) v) : ∃ ys, v = .agg ⟨ys⟩ /\ VRs ι xs ys := by
 cases h with
 | scal h => simp [z1m] at h
 | agg h => exact ⟨_, rfl, h⟩
theorem z44 {ι : Go.Am.Ren} {x : Value} {xs ys : List Value} (h : VRs ι (x :: xs) ys) : ∃ y ys', ys = y :: ys' /\ VR ι x y /\ VRs ι xs ys' := by
 cases h with
 | cons h1 h2 => exact ⟨_, _, rfl, h1, h2⟩
theorem zbn {ι : Go.Am.Ren} {ys : List Value} (h : VRs ι [] ys) : ys = [] := by cases h; rfl
theorem zfs {n : Nat} {ι : Go.Am.Ren} {G : Nat -> Option ABlk} {w : World} (hS : Sim n ι G w) {cb : Nat} (h : Img ι G cb) : cb < w.heap.size := by
 obtain ⟨b, x, co, ex, h1, h2⟩ := h
 obtain ⟨⟨arr, el, fr, h3, _⟩⟩ := hS.blk b x cb co ex h1 h2
 exact (Array.getElem?_eq_some_iff.1 h3).1
theorem zga {ι : Go.Am.Ren} {G : Nat -> Option ABlk} {cb : Nat} (h : Own ι G cb) : Img ι G cb := by obtain ⟨b, x, co, ex, h1, _, h2⟩ := h; exact ⟨b, x, co, ex, h1, h2⟩
theorem zdy (l : List zAd) (x : zAd) : z6k (l ++ [x]) = z6k l ++ x.data.toList ++ [10] := by simp [z6k]
theorem zbo : ∀ (n : Nat) (l : List zAd), l.length = n -> (∀ x ∈ l, x.size <= 16777216) -> (z6k l).length <= n * 16777217
 | 0, l, h, _ => by rw [List.length_eq_zero_iff.1 h]; simp [z6k]
 | n + 1, [], h, _ => by simp at h
 | n + 1, x :: l, h, hs => by
  have h1 := zbo n l (by simpa using h) fun y hy => hs y (by simp [hy])
  have h2 : x.data.toList.length <= 16777216 := by have := hs x (by simp); simpa using this
  have h3 : (z6k (x :: l)).length = x.data.toList.length + 1 + (z6k l).length := by simp [z6k]; omega
  omega
theorem bPLb (M b : Nat) (l : List UInt8) (w : World) (h : Bd M b (Lib.byteCells l) w) (hM : b <= M) :
  Calls Tryd.prog 17 #[.pointer (some ⟨b, 0, none⟩)] w fun e w' => e = .returned (.int .i64 l.length) /\ w' = w := by
 have := bPL M b _ w h hM
 rwa [Lib.byteCells_length] at this
theorem zia {n m : Nat} {ι ι0 : Go.Am.Ren} {G G0 : Nat -> Option ABlk} {w0 w w' : World} {b : Nat} (hS : Sim n ι G w) (hE : Evo m ι0 G0 w0 ι G w) (hk : Kp w.heap.size b w w') (hb : ¬ Img ι G b) (h0 : w0.heap.size <= b) (ht : b ∉ TBs) :
  Sim n ι G w' /\ Evo m ι0 G0 w0 ι G w' := by
 refine ⟨⟨⟨fun c x cb co ex hG hι => ?_, hS.inj, hS.dom⟩, fun cb hc => ?_⟩, hE.sub, hE.old, hE.img, hE.own, fun cb h h1 => ?_, Nat.le_trans hE.size hk.size, hk.os.trans hE.os, hk.tape.trans hE.tape, hk.output.trans hE.output⟩
 ·obtain ⟨⟨arr, el, fr, h1, h2, h3⟩⟩ := hS.blk c x cb co ex hG hι
  have hne : cb ≠ b := fun e => hb ⟨c, x, co, ex, hG, by rw [hι, e]⟩
  exact ⟨⟨arr, el, fr, by rw [hk.block cb (Array.getElem?_eq_some_iff.1 h1).1 hne]; exact h1, h2, h3⟩⟩
 ·obtain ⟨⟨o, h1, h2⟩, h3⟩ := hS.tab cb hc
  exact ⟨⟨o, by rw [hk.block cb (Array.getElem?_eq_some_iff.1 h1).1 (fun e => ht (e ▸ hc))]; exact h1, h2⟩, h3⟩
 ·rw [hk.block cb (Nat.lt_of_lt_of_le h hE.size) (by omega), hE.same cb h h1]
set_option maxRecDepth 1000000 in
theorem z8s {H H1 : AH} {s0 s1 s2 s3 s4 s5 : Value} {e : Int} (hsc : ∀ s ∈ [s0, s1, s2, s3, s4, s5], s.oneCell' = true) (h13 : ACalls Tryd.prog 13 [.agg #[s0, s1, s2, s3, s4, s5]] H (.int .i64 e) H1) (he : e ≠ 0) :
  ACalls Tryd.prog 5 [.agg #[s0, s1, s2, s3, s4, s5]] H (.tuple #[.string ⟨#[]⟩, .int .i64 e]) H1 := by
 refine ⟨h13.next, fun ι w cargs hS hargs => ?_⟩
 obtain ⟨l⟩ := cargs
 obtain ⟨y, ys', rfl, h1, h2⟩ := z44 hargs
 obtain rfl := zbn h2
 obtain ⟨ys, rfl, h3⟩ := zg9 h1
 obtain ⟨c0, _, rfl, k0, h3⟩ := z44 h3
 obtain ⟨c1, _, rfl, k1, h3⟩ := z44 h3
 obtain ⟨c2, _, rfl, k2, h3⟩ := z44 h3
 obtain ⟨c3, _, rfl, k3, h3⟩ := z44 h3
 obtain ⟨c4, _, rfl, k4, h3⟩ := z44 h3
 obtain ⟨c5, _, rfl, k5, h3⟩ := z44 h3
 obtain rfl := zbn h3
 have o0 := k0.oneCell.trans (hsc s0 (by simp))
 have o1 := k1.oneCell.trans (hsc s1 (by simp))
 have o2 := k2.oneCell.trans (hsc s2 (by simp))
 have o3 := k3.oneCell.trans (hsc s3 (by simp))
 have o4 := k4.oneCell.trans (hsc s4 (by simp))
 have o5 := k5.oneCell.trans (hsc s5 (by simp))
 go_enter Tryd.func5, Tryd.ntmps5
 have hb0 : Below w.heap.size w (w.alloc (.cells #[c0, c1, c2, c3, c4, c5] 29)) := (Below.refl _ w).alloc (Nat.le_refl _) _
 obtain ⟨hS1, hE1⟩ := z87 hS hb0
 go_wp2_with (go_at_call 13; refine (h13.run ι _ _ hS1 hargs).mono ?_)
 rintro e2 w2 ι1 v' rfl hv hS2 hE2
 obtain rfl := hv.closed_eq rfl
 have hne : ((e : Int) == 0) = false := by simpa using he
 go_wp2
 go_ret2
 exact ⟨ι1, _, rfl, VR.of_closed (by simp [closed, z1m]), hS2, hE1.trans hE2 (Nat.le_refl _)⟩
set_option maxRecDepth 1000000 in
theorem z7e {H H1 H2 : AH} {s0 s1 s2 s3 s4 s5 sl : Value} (hsc : ∀ s ∈ [s0, s1, s2, s3, s4, s5], s.oneCell' = true) (h13 : ACalls Tryd.prog 13 [.agg #[s0, s1, s2, s3, s4, s5]] H (.int .i64 0) H1)
  (h14 : ACalls Tryd.prog 14 [.agg #[s0, s1, s2, s3, s4, s5]] H1 sl H2) {xs : List zAd} (hn : xs.length <= 1000) (hs : ∀ x ∈ xs, x.size <= 16777216)
  (hsl : ∀ ι v w, VR ι sl v -> Sim H2.next ι H2.get w -> ∃ a c, v = .slice a xs.length c /\ ∀ j x, xs[j]? = some x -> ∃ cb co, a = some ⟨cb, co, none⟩ /\ Img ι H2.get cb /\ w.cell? ⟨cb, co + j, none⟩ = some (.string x)) :
  ACalls Tryd.prog 5 [.agg #[s0, s1, s2, s3, s4, s5]] H (if (z6k xs).length > 8192 then .tuple #[.string ⟨#[]⟩, .int .i64 2] else .tuple #[.string ⟨(z6k xs).toArray⟩, .int .i64 0]) H2 := by
 refine ⟨h13.next.trans h14.next, fun ι w cargs hS hargs => ?_⟩
 obtain ⟨l⟩ := cargs
 obtain ⟨y, ys', rfl, h1, h2⟩ := z44 hargs
 obtain rfl := zbn h2
 obtain ⟨ys, rfl, h3⟩ := zg9 h1
 obtain ⟨c0, _, rfl, k0, h3⟩ := z44 h3
 obtain ⟨c1, _, rfl, k1, h3⟩ := z44 h3
 obtain ⟨c2, _, rfl, k2, h3⟩ := z44 h3
 obtain ⟨c3, _, rfl, k3, h3⟩ := z44 h3
 obtain ⟨c4, _, rfl, k4, h3⟩ := z44 h3
 obtain ⟨c5, _, rfl, k5, h3⟩ := z44 h3
 obtain rfl := zbn h3
 have o0 := k0.oneCell.trans (hsc s0 (by simp))
 have o1 := k1.oneCell.trans (hsc s1 (by simp))
 have o2 := k2.oneCell.trans (hsc s2 (by simp))
 have o3 := k3.oneCell.trans (hsc s3 (by simp))
 have o4 := k4.oneCell.trans (hsc s4 (by simp))
 have o5 := k5.oneCell.trans (hsc s5 (by simp))
 go_enter Tryd.func5, Tryd.ntmps5
 have hb0 : Below w.heap.size w (w.alloc (.cells #[c0, c1, c2, c3, c4, c5] 29)) := (Below.refl _ w).alloc (Nat.le_refl _) _
 obtain ⟨hS1, hE1⟩ := z87 hS hb0
 go_wp2_with (go_at_call 13; refine (h13.run ι _ _ hS1 hargs).mono ?_)
 rintro e2 w2 ι1 v' rfl hv hS2 hE2
 obtain rfl := hv.closed_eq rfl
 have hbx : w2.heap[w.heap.size]? = some (.cells #[c0, c1, c2, c3, c4, c5] 29 (0, 0)) := by
  rw [hE2.same w.heap.size (by simp) (fun h => by have := zfs hS (zga h); omega)]
  exact heap_alloc_new _ _
 have hlt2 : w.heap.size < w2.heap.size := (Array.getElem?_eq_some_iff.1 hbx).1
 have hc3 : ∀ i c, #[c0, c1, c2, c3, c4, c5][i]? = some c -> (w2.alloc (.cells #[.pointer none, .slice none 0 0] 49)).cell? ⟨w.heap.size, i, none⟩ = some c := fun i c hc => by
  have : (w2.alloc (.cells #[.pointer none, .slice none 0 0] 49)).heap[w.heap.size]? = some (.cells #[c0, c1, c2, c3, c4, c5] 29 (0, 0)) := by rw [Below.heap_alloc _ _ _ hlt2]; exact hbx
  rw [Lib.cell_of_heap this]; exact hc
 have x0 := hc3 0 c0 rfl
 have x1 := hc3 1 c1 rfl
 have x2 := hc3 2 c2 rfl
 have x3 := hc3 3 c3 rfl
 have x4 := hc3 4 c4 rfl
 have x5 := hc3 5 c5 rfl
 clear hc3
 have hb2 : Below w2.heap.size w2 (w2.alloc (.cells #[.pointer none, .slice none 0 0] 49)) := (Below.refl _ w2).alloc (Nat.le_refl _) _
 obtain ⟨hS3, hE3⟩ := z87 hS2 hb2
 have hargs3 : VRs ι1 [.agg #[s0, s1, s2, s3, s4, s5]] [.agg ⟨[c0, c1, c2, c3, c4, c5]⟩] := hargs.mono hE2.sub
 go_wp2_with (go_at_call 14; refine (h14.run ι1 _ _ hS3 hargs3).mono ?_)
 rintro e4 w4 ⟨ι2, v4, rfl, hv4, hS4, hE4⟩
 obtain ⟨a, c, rfl, hcell⟩ := hsl ι2 v4 w4 hv4 hS4
 clear x0 x1 x2 x3 x4 x5
 have hni : ¬ Img ι2 H2.get w2.heap.size := fun h => by
  rcases hE4.img _ h with h | h
  ·have := zfs hS2 h; omega
  ·have h2 := hb2.size
   simp only [Array.size_push, World.alloc] at h
   omega
 have hnb : w4.heap[w2.heap.size]? = some (.cells #[.pointer none, .slice none 0 0] 49 (0, 0)) := by
  rw [hE4.same w2.heap.size (by simp) (fun h => by have := zfs hS2 (zga h); omega)]
  exact heap_alloc_new _ _
 have hlt4 : w2.heap.size < w4.heap.size := (Array.getElem?_eq_some_iff.1 hnb).1
 have hE : Evo H.next ι H.get w ι2 H2.get w4 := ((hE1.trans hE2 (Nat.le_refl _)).trans (hE3.trans hE4 (Nat.le_refl _)) h13.next.1)
 have hT : w2.heap.size ∉ TBs := fun h => by have := hS2.tab.lt h; omega
 have h0B : w.heap.size <= w2.heap.size := by omega
 go_wp2
 go_loopw [16] (fun i wr => ∃ k : Nat, k <= xs.length /\ i = .int .i64 k /\ Bd w4.heap.size w2.heap.size (Lib.byteCells (z6k (xs.take k))) wr /\ Kp w4.heap.size w2.heap.size w4 wr) (fun i _ => xs.length - (intOf i).toNat)
 case atStart =>
  exact ⟨0, Nat.zero_le _, rfl, ⟨_, _, .inl rfl, hnb, ⟨rfl, .inl ⟨rfl, rfl⟩⟩, fun _ => rfl⟩, Kp.refl _ _ _⟩
 case round =>
  obtain ⟨k, hk, rfl, hI, hb⟩ := hrel
  have hsz := hb.size
  have hll : (z6k (xs.take k)).length <= k * 16777217 := zbo k _ (by simp; omega) fun x hx => hs x (List.mem_of_mem_take hx)
  have hkm : k * 16777217 <= 1000 * 16777217 := Nat.mul_le_mul_right _ (by omega)
  by_cases hlt : k < xs.length
  ·obtain ⟨x, hx⟩ : ∃ x, xs[k]? = some x := ⟨_, zAh hlt⟩
   have hxo := hs x (List.mem_of_getElem? hx)
   have htk : xs.take (k + 1) = xs.take k ++ [x] := by rw [List.take_add_one, hx]; rfl
   obtain ⟨cb, co, rfl, hcI, hc⟩ := hcell k x hx
   have hc2 : wr.cell? ⟨cb, co + k, none⟩ = some (.string x) := by
    rw [<- hc]; unfold World.cell?; rw [hb.block cb (zfs hS4 hcI) (fun e => hni (e ▸ hcI))]
   go_wp2_with (go_at_call 15; refine (bPS w4.heap.size w2.heap.size _ x _ hI (by rw [Lib.byteCells_length]; omega) hsz).mono ?_)
   rintro e W1 ⟨rfl, h1, b1⟩
   have hb1 := hb.trans b1
   go_wp2_with (go_at_call 16; refine (bPB w4.heap.size w2.heap.size _ 10 _ h1 (by rw [List.length_append, Lib.byteCells_length, Lib.strCells_length]; omega) hb1.size).mono ?_)
   rintro e W2 ⟨rfl, h2, b2⟩
   go_wp2
   go_roundw
   case rel =>
    refine ⟨k + 1, by omega, by go_num, ?_, hb1.trans b2⟩
    rw [htk, zdy]
    simpa [Lib.byteCells_append, Lib.strCells, Lib.byteCells] using h2
   case measure => simp [intOf]; omega
  ·obtain rfl : k = xs.length := by omega
   rw [List.take_length] at hI
   go_wp2_with (go_at_call 17; refine (bPLb w4.heap.size w2.heap.size _ _ hI (by omega)).mono ?_)
   rintro e W1 ⟨rfl, rfl⟩
   obtain ⟨hS5, hE5⟩ := zia hS4 hE hb hni h0B hT
   by_cases hbig : (z6k xs).length > 8192
   ·have hbg : ((z6k xs).length : Int) > 8192 := by omega
    clear hcell hll hkm hsz hs hsl hk
    generalize ((z6k xs).length : Int) = m at hbg
    go_wp2
    go_ret2
    exact ⟨ι2, _, rfl, VR.of_closed (by simp [closed, z1m]), hS5, hE5⟩
   ·have hbg : ¬ ((z6k xs).length : Int) > 8192 := by omega
    clear hcell hll hkm hsz hs hsl hk
    generalize ((z6k xs).length : Int) = m at hbg
    go_wp2_with (go_at_call 18; refine (bPT w4.heap.size w2.heap.size _ _ hI).mono ?_)
    rintro e W2 ⟨rfl, b2⟩
    obtain ⟨hS6, hE6⟩ := zia hS4 hE (hb.trans b2) hni h0B hT
    go_wp2
    go_ret2
    exact ⟨ι2, _, rfl, VR.of_closed (by simp [closed, z1m]), hS6, hE6⟩
def z2m (K : Nat) (p0 : Network) : Option (zAd × Int) := (z2e K p0).bind fun e => if e = 0 then (z2l K p0).bind fun xs =>
 if xs.length <= 1000 /\ (xs.all fun x => decide (x.size <= 16777216)) = true then (if (z6k xs).length > 8192 then some (⟨#[]⟩, 2) else some (⟨(z6k xs).toArray⟩, 0)) else none else some (⟨#[]⟩, e)
theorem zft {G : GM} {v : List Value} {p : Network} (h : z00.rep G v p) : ∃ s0 s1 s2 s3 s4 s5, v = [s0, s1, s2, s3, s4, s5] /\ ∀ s ∈ [s0, s1, s2, s3, s4, s5], s.oneCell' = true := by
 have hok := z00.one h
 obtain ⟨c0, d0, rfl, ⟨s0, _, rfl, _⟩, c1, d1, rfl, ⟨s1, _, rfl, _⟩, c2, d2, rfl, ⟨s2, _, rfl, _⟩, c3, d3, rfl, ⟨s3, _, rfl, _⟩, c4, d4, rfl, ⟨s4, _, rfl, _⟩, ⟨s5, _, rfl, _⟩⟩ := h
 exact ⟨s0, s1, s2, s3, s4, s5, rfl, by simpa [okCells, List.all_eq_true] using hok⟩
theorem zh3 {G : GM} {H : AH} {L : List Pc} {v : Value} {xs : List zAd} (O : Ow G H (eSl v 9 rS xs :: L)) : ∀ ι v' w, VR ι v v' -> Sim H.next ι H.get w ->
  ∃ a c, v' = .slice a xs.length c /\ ∀ j x, xs[j]? = some x -> ∃ cb co, a = some ⟨cb, co, none⟩ /\ Img ι H.get cb /\ w.cell? ⟨cb, co + j, none⟩ = some (.string x) := by
 intro ι v' w hv hS
 obtain ⟨es, hso, hall⟩ := O.ok 0 _ rfl
 have hes : es = xs.map fun x => [Value.string x] := by
  clear hso O
  induction hall with
  | nil => rfl
  | cons h _ ih => rw [h, ih]; rfl
 have hel : es.length = xs.length := by rw [hes]; simp
 rcases hso with ⟨rfl, h0⟩ | ⟨b, tg, cap, rest, sz', rfl, hb, _⟩
 ·obtain rfl : xs = [] := by cases xs with
   | nil => rfl
   | cons x l => rw [h0] at hes; cases hes
  obtain rfl := hv.closed_eq rfl
  exact ⟨none, 0, rfl, fun j x h => by cases h⟩
 ·have key : ∀ cb co ex, ι b = some (cb, co, ex) -> ∀ j x, xs[j]? = some x -> Img ι H.get cb /\ w.cell? ⟨cb, co + 0 + j, none⟩ = some (.string x) := fun cb co ex hι j x hx => by
   refine ⟨⟨b, _, co, ex, hb, hι⟩, ?_⟩
   obtain ⟨⟨arr, el, fr, h1, h2, h3⟩⟩ := hS.blk b _ cb co ex hb hι
   have hfl : es.flatten = xs.map Value.string := by rw [hes]; clear hx hes hel h2 h3 hall hb hv O; induction xs with
    | nil => rfl
    | cons x l ih => simp [ih]
   have hj : j < xs.length := (zAi hx).1
   obtain ⟨u, h4, h5⟩ := h2 j (.string x) (by show (es.flatten ++ rest)[j]? = _; rw [hfl, List.getElem?_append_left (by simpa using hj), List.getElem?_map, hx]; rfl)
   rw [h5.closed_eq rfl] at h4
   simp only [World.cell?, h1, Nat.add_zero]
   rw [<- h4]; rfl
  rw [hel] at hv
  generalize hm : xs.length = m at hv ⊢
  cases hv with
  | scal h => simp [z1m] at h
  | sl h => exact ⟨_, _, rfl, fun j x hx => ⟨_, _, rfl, key _ _ _ h j x hx⟩⟩
  | slT h => exact ⟨_, _, rfl, fun j x hx => ⟨_, _, rfl, key _ _ _ h j x hx⟩⟩
  | sl0 h _ => exact ⟨_, _, rfl, fun j x hx => by
    rw [List.length_eq_zero_iff.1 hm] at hx; cases hx⟩
theorem z7q (K : Nat) {G : GM} {H : AH} {L : List Pc} (v0 : List Value) (p0 : Network) (hp0 : z00.rep G v0 p0) (O : Ow G H (L)) (r : zAd × Int) (h : z2m K p0 = some r) :
  CR Tryd.prog 5 [.agg (List.toArray v0)] G H (L) (fun v G' _ => v = .tuple #[.string r.1, .int .i64 r.2]) := by
 unfold z2m at h
 obtain ⟨e, hC, h⟩ := zAc h
 obtain ⟨v, H1, G1, h13, O1, le1, rfl⟩ := z43 K v0 p0 hp0 O e hC
 obtain ⟨s0, s1, s2, s3, s4, s5, rfl, hsc⟩ := zft hp0
 split at h
 ·rename_i he
  subst he
  obtain ⟨xs, hL, h⟩ := zAc h
  obtain ⟨w, v, H2, G2, h14, O2, le2, rfl⟩ := z4a K _ p0 (z00.mono le1 hp0) O1 xs hL
  obtain ⟨⟨hx1, hx2⟩, h⟩ := z2a h
  have hp := z7e hsc h13 h14 hx1 (fun x hx => of_decide_eq_true (List.all_eq_true.1 hx2 x hx)) (zh3 O2)
  have O3 := O2.drop 0
  refine ⟨_, H2, G2, hp, O3, le1.trans le2, ?_⟩
  by_cases hb : (z6k xs).length > 8192
  ·rw [if_pos hb] at h; cases h; rw [if_pos hb]
  ·rw [if_neg hb] at h; cases h; rw [if_neg hb]
 ·rename_i he
  cases h
  exact ⟨_, H1, G1, z8s hsc h13 he, O1, le1, rfl⟩
end Go.Am.Tryd
