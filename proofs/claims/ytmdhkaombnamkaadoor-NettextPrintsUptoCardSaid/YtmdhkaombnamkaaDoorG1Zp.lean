/- The abstract machine as a function of a number of rounds; and what a closed run tells. -/
import Derived.Test.YtmdhkaombnamkaaDoorG0Zp
import GoSem.ClaimChange
import Derived.OpenShut
import Derived.ChangeArms
import Derived.Below
set_option maxRecDepth 100000
set_option maxHeartbeats 8000000
set_option linter.unusedVariables false
set_option linter.unusedSimpArgs false
namespace Go.Am
open Go
noncomputable section
def zhq (body : List Value -> AH -> Option (Exit × List Value × AH)) (n : Nat) : List Value -> AH -> Option (Exit × List Value × AH) :=
 Nat.rec (motive := fun _ => List Value -> AH -> Option (Exit × List Value × AH)) (fun _ _ => none)
  (fun _ ih s H => match body s H with
   | some (.normal, s', H') => ih s' H'
   | r => r) n
theorem zd4 (body : List Value -> AH -> Option (Exit × List Value × AH)) (s : List Value) (H : AH) : zhq body 0 s H = none := rfl
theorem zd5 (body : List Value -> AH -> Option (Exit × List Value × AH)) (n : Nat) (s : List Value) (H : AH) : zhq body (n + 1) s H = match body s H with
  | some (.normal, s', H') => zhq body n s' H'
  | r => r := rfl
def zf0 (call : zbc) (eq : Option ABlk -> Option ABlk -> Bool) (P : Program) (rounds : Nat) (c : Code) : List Value -> AH -> Option (Exit × List Value × AH) :=
 Code.rec (motive := fun _ => List Value -> AH -> Option (Exit × List Value × AH))
  (fun s H => some (.normal, s, H))
  (fun _ ops draw s H => (if draw then zin call eq P ops s H else zgj call P ops ops.toList s H).map fun r => (.normal, r))
  (fun _ _ iha ihb s H => match iha s H with
   | some (.normal, s', H') => ihb s' H'
   | r => r)
  (fun c _ _ ihx ihy s H => match opnd s c with
   | some (.bool true) => ihx s H
   | some (.bool false) => ihy s H
   | _ => none)
  (fun id _ ih s H => match ih s H with
   | some (.exit k, s', H') => if k = id then some (.normal, s', H') else some (.exit k, s', H')
   | r => r)
  (fun _ ih s H => zhq ih rounds s H)
  (fun _ _ _ _ _ _ _ _ => none)
  (fun id s H => some (.exit id, s, H))
  (fun _ _ _ _ => none)
  (fun _ s H => some (.normal, s, H))
  (fun _ _ _ => none)
  (fun s H => some (.ret, s, H))
  (fun _ _ _ => none) c
def callF (eq : Option ABlk -> Option ABlk -> Bool) (P : Program) (ext : FuncId -> Option (List Value -> AH -> Option (Value × AH))) (rounds : Nat) (n : Nat) : zbc :=
 Nat.rec (motive := fun _ => zbc) (fun _ _ _ => none)
  (fun _ ih f args H => match ext f with
   | some g => g args H
   | none => match P.funcs[f]? with
    | some fn => match fn.body with
     | some c => match zf0 ih eq P rounds c (args ++ List.replicate (fn.ntmps - args.length) undef) H with
      | some (.normal, s', H') => (aret P fn s' H').map fun v => (v, H')
      | some (.ret, s', H') => (aret P fn s' H').map fun v => (v, H')
      | _ => none
     | none => none
    | none => none) n
theorem zd6 (eq : Option ABlk -> Option ABlk -> Bool) (P : Program) (ext : FuncId -> Option (List Value -> AH -> Option (Value × AH))) (rounds : Nat) (f : FuncId) (args : List Value) (H : AH) : callF eq P ext rounds 0 f args H = none := rfl
theorem zd7 (eq : Option ABlk -> Option ABlk -> Bool) (P : Program) (ext : FuncId -> Option (List Value -> AH -> Option (Value × AH))) (rounds n : Nat) (f : FuncId) (args : List Value) (H : AH) : callF eq P ext rounds (n + 1) f args H = match ext f with
  | some g => g args H
  | none => match P.funcs[f]? with
   | some fn => match fn.body with
    | some c => match zf0 (callF eq P ext rounds n) eq P rounds c (args ++ List.replicate (fn.ntmps - args.length) undef) H with
     | some (.normal, s', H') => (aret P fn s' H').map fun v => (v, H')
     | some (.ret, s', H') => (aret P fn s' H').map fun v => (v, H')
     | _ => none
    | none => none
   | none => none := rfl
section
variable {P : Program} {call : zbc} {eq : Option ABlk -> Option ABlk -> Bool}
theorem zd8 {c : Code} {body : List Value -> AH -> Option (Exit × List Value × AH)} (hb : ∀ s H ex s' H', body s H = some (ex, s', H') -> ARun P c s H ex s' H') : ∀ (n : Nat) (s s' : List Value) (H H' : AH) (ex : Exit), zhq body n s H = some (ex, s', H') -> ALoop P c s H ex s' H'
 | 0, s, s', H, H', ex, h => by rw [zd4] at h; cases h
 | n + 1, s, s', H, H', ex, h => by
  rw [zd5] at h
  split at h
  ·rename_i s1 H1 h1
   exact .again (hb _ _ _ _ _ h1) (zd8 hb n _ _ _ _ _ h)
  ·rename_i r hne
   refine .out (hb _ _ _ _ _ h) fun e => ?_
   subst e
   exact hne s' H' h
theorem z59 (hcall : ∀ f args H v H', call f args H = some (v, H') -> ACalls P f args H v H') (heq : ∀ x y, eq x y = true -> x = y) (hmix : P.follows .mixedOrders = true) (rounds : Nat) :
  ∀ (c : Code) (s s' : List Value) (H H' : AH) (ex : Exit), zf0 call eq P rounds c s H = some (ex, s', H') -> ARun P c s H ex s' H'
 | .skip, s, s', H, H', ex, h => by cases h; exact .skip
 | .label _, s, s', H, H', ex, h => by cases h; exact .label
 | .ret, s, s', H, H', ex, h => by cases h; exact .ret
 | .exit _, s, s', H, H', ex, h => by cases h; exact .exit
 | .region id ops draw, s, s', H, H', ex, h => by
  replace h : (if draw then zin call eq P ops s H else zgj call P ops ops.toList s H).map (fun r => (Exit.normal, r)) = some (ex, s', H') := h
  obtain ⟨r, h1, h2⟩ := Option.map_eq_some_iff.1 h
  cases h2
  cases draw with
  | true => exact zgk hcall heq hmix (by simpa using h1)
  | false => exact .region (zas hcall _ (by simpa using h1))
 | .seq a b, s, s', H, H', ex, h => by
  replace h : (match zf0 call eq P rounds a s H with
   | some (.normal, s', H') => zf0 call eq P rounds b s' H'
   | r => r) = some (ex, s', H') := h
  split at h
  ·rename_i s1 H1 h1
   exact .seq (z59 hcall heq hmix rounds a _ _ _ _ _ h1) (z59 hcall heq hmix rounds b _ _ _ _ _ h)
  ·rename_i r hne
   exact .seq_out (z59 hcall heq hmix rounds a _ _ _ _ _ h) fun e => by subst e; exact hne s' H' h
 | .cond c x y, s, s', H, H', ex, h => by
  replace h : (match opnd s c with
   | some (.bool true) => zf0 call eq P rounds x s H
   | some (.bool false) => zf0 call eq P rounds y s H
   | _ => none) = some (ex, s', H') := h
  split at h
  ·rename_i hc; exact .cond hc (z59 hcall heq hmix rounds x _ _ _ _ _ h)
  ·rename_i hc; exact .cond hc (z59 hcall heq hmix rounds y _ _ _ _ _ h)
  ·cases h
 | .block id c, s, s', H, H', ex, h => by
  replace h : (match zf0 call eq P rounds c s H with
   | some (.exit k, s', H') => if k = id then some (.normal, s', H') else some (.exit k, s', H')
   | r => r) = some (ex, s', H') := h
  split at h
  ·rename_i k s1 H1 h1
   have := z59 hcall heq hmix rounds c _ _ _ _ _ h1
   split at h
   ·rename_i e; subst e; cases h; exact .block_exit this
   ·rename_i e; cases h; exact .block this (fun e' => e (by injection e'))
  ·rename_i r hne
   exact .block (z59 hcall heq hmix rounds c _ _ _ _ _ h) fun e => by subst e; exact hne id s' H' h
 | .loop c, s, s', H, H', ex, h => by
  replace h : zhq (zf0 call eq P rounds c) rounds s H = some (ex, s', H') := h
  exact .loop (zd8 (fun s H ex s' H' h1 => z59 hcall heq hmix rounds c s s' H H' ex h1) _ _ _ _ _ _ h)
 | .rangeFunc .., s, s', H, H', ex, h => by cases h
 | .scope _, s, s', H, H', ex, h => by cases h
 | .goto _, s, s', H, H', ex, h => by cases h
 | .refuse _, s, s', H, H', ex, h => by cases h
theorem z8i {ext : FuncId -> Option (List Value -> AH -> Option (Value × AH))} (hext : ∀ f g, ext f = some g -> ∀ args H v H', g args H = some (v, H') -> ACalls P f args H v H') (heq : ∀ x y, eq x y = true -> x = y) (hmix : P.follows .mixedOrders = true) (rounds : Nat) :
  ∀ (n : Nat) (f : FuncId) (args : List Value) (H : AH) (v : Value) (H' : AH), callF eq P ext rounds n f args H = some (v, H') -> ACalls P f args H v H'
 | 0, f, args, H, v, H', h => by rw [zd6] at h; cases h
 | n + 1, f, args, H, v, H', h => by
  rw [zd7] at h
  split at h
  ·rename_i g hg; exact hext f g hg args H v H' h
  ·split at h
   ·rename_i fn hf
    split at h
    ·rename_i c hb
     split at h
     ·rename_i s1 H1 h1
      obtain ⟨u, hu, h2⟩ := Option.map_eq_some_iff.1 h
      cases h2
      exact .of_run hf hb (.inl rfl) (z59 (z8i hext heq hmix rounds n) heq hmix rounds c _ _ _ _ _ h1) hu
     ·rename_i s1 H1 h1
      obtain ⟨u, hu, h2⟩ := Option.map_eq_some_iff.1 h
      cases h2
      exact .of_run hf hb (.inr rfl) (z59 (z8i hext heq hmix rounds n) heq hmix rounds c _ _ _ _ _ h1) hu
     ·cases h
    ·cases h
   ·cases h
end
end
end Go.Am
/- From a statement's arguments to an abstract heap: what was read as data lies there in blocks that may only be read. -/
namespace Go.Am
open Go
def z9e (P : Program) : Nat -> List Field -> Option Nat
 | off, [] => some off
 | off, f :: fs => if f.offset = off then z9e P (off + P.cellsOf f.type) fs else none
def okT (P : Program) : Nat -> TypeId -> Bool
 | 0, _ => false
 | n + 1, t => match P.underlying t with
  | some .bool | some (.int _) | some .string => P.cellsOf t == 1
  | some (.slice e) => P.cellsOf t == 1 && P.cellsOf e != 0 && okT P n e
  | some (.struct fs) => z9e P 0 fs.toList == some (P.cellsOf t) && fs.toList.all fun f => okT P n f.type
  | some (.array k e) => P.cellsOf t == k * P.cellsOf e && okT P n e
  | _ => false
section
variable {H : Type}
def AllD (R : TypeId -> List Value -> DataW H -> Prop) (sz : TypeId -> Nat) : List TypeId -> List (List Value) -> List (DataW H) -> Prop
 | [], [], [] => True
 | t :: ts, c :: cs, d :: ds => (R t c d /\ c.length = sz t) /\ AllD R sz ts cs ds
 | _, _, _ => False
theorem AllD.append {R : TypeId -> List Value -> DataW H -> Prop} {sz : TypeId -> Nat} : ∀ {ts : List TypeId} {cs : List (List Value)} {ds : List (DataW H)} {ts' : List TypeId} {cs' : List (List Value)} {ds' : List (DataW H)},
  AllD R sz ts cs ds -> AllD R sz ts' cs' ds' -> AllD R sz (ts ++ ts') (cs ++ cs') (ds ++ ds')
 | [], [], [], _, _, _, _, h => h
 | _ :: _, _ :: _, _ :: _, _, _, _, h1, h => ⟨h1.1, AllD.append h1.2 h⟩
theorem AllD.mono {R R' : TypeId -> List Value -> DataW H -> Prop} {sz : TypeId -> Nat} (hR : ∀ t c d, R t c d -> R' t c d) : ∀ {ts : List TypeId} {cs : List (List Value)} {ds : List (DataW H)}, AllD R sz ts cs ds -> AllD R' sz ts cs ds
 | [], [], [], _ => trivial
 | _ :: _, _ :: _, _ :: _, h => ⟨⟨hR _ _ _ h.1.1, h.1.2⟩, AllD.mono hR h.2⟩
theorem AllD.length {R : TypeId -> List Value -> DataW H -> Prop} {sz : TypeId -> Nat} : ∀ {ts : List TypeId} {cs : List (List Value)} {ds : List (DataW H)}, AllD R sz ts cs ds -> cs.length = ts.length /\ ds.length = ts.length
 | [], [], [], _ => ⟨rfl, rfl⟩
 | _ :: _, _ :: _, _ :: _, h => by have := AllD.length h.2; simp [this]
def AData (P : Program) (G : Nat -> Option ABlk) : Nat -> TypeId -> List Value -> DataW H -> Prop
 | 0, _, _, _ => False
 | n + 1, t, cs, d => match P.underlying t with
  | some .bool => ∃ b, cs = [.bool b] /\ d = .lit (.bool b)
  | some (.int k) => ∃ x, cs = [.int k x] /\ d = .lit (.int k x) /\ (Lit.int k x).wf = true
  | some .string => ∃ s : zAd, cs = [.string s] /\ d = .lit (.string s.data.toList) /\ s.size <= maxLen
  | some (.slice e) => (cs = [.slice none 0 0] /\ d = .nil) \/ ∃ b len cap elems spare css, cs = [.slice (some ⟨b, 0, some 0⟩) len cap] /\ d = .slice elems spare /\ elems.length = len /\ len + spare.length = cap /\ cap <= maxLen ∧
    (cap = 0 \/ ∃ x, G b = some x /\ x.own = false /\ x.cells = css.flatten) /\ AllD (AData P G n) P.cellsOf (List.replicate cap e) css (elems ++ spare)
  | some (.struct fs) => ∃ css parts, cs = css.flatten /\ d = .agg parts /\ AllD (AData P G n) P.cellsOf (fs.toList.map (·.type)) css parts
  | some (.array k e) => ∃ css parts, cs = css.flatten /\ d = .agg parts /\ AllD (AData P G n) P.cellsOf (List.replicate k e) css parts
  | _ => False
theorem AData.mono {P : Program} {G G' : Nat -> Option ABlk} (hG : ∀ b x, G b = some x -> G' b = some x) : ∀ (n : Nat) (t : TypeId) (cs : List Value) (d : DataW H), AData P G n t cs d -> AData P G' n t cs d
 | 0, _, _, _, h => h.elim
 | n + 1, t, cs, d, h => by
  have ih : ∀ t cs d, AData P G n t cs d -> AData P G' n t cs d := AData.mono hG n
  unfold AData at h ⊢
  split at h
  ·exact h
  ·exact h
  ·exact h
  ·rcases h with h | ⟨b, len, cap, elems, spare, css, h1, h2, h3, h4, h5, h6, h7⟩
   ·exact .inl h
   ·refine .inr ⟨b, len, cap, elems, spare, css, h1, h2, h3, h4, h5, ?_, h7.mono ih⟩
    rcases h6 with h6 | ⟨x, g1, g2⟩
    ·exact .inl h6
    ·exact .inr ⟨x, hG b x g1, g2⟩
  ·obtain ⟨css, parts, h1, h2, h3⟩ := h; exact ⟨css, parts, h1, h2, h3.mono ih⟩
  ·obtain ⟨css, parts, h1, h2, h3⟩ := h; exact ⟨css, parts, h1, h2, h3.mono ih⟩
  ·exact h
theorem z6y {P : Program} {cs : List Value} : ∀ (fs : List Field) (off tot : Nat), z9e P off fs = some tot -> tot = cs.length -> off <= tot -> (fs.map fun f => (cs.drop f.offset).take (P.cellsOf f.type)).flatten = cs.drop off
 | [], off, tot, h, ht, _ => by simp only [z9e] at h; cases h; simp [ht]
 | f :: fs, off, tot, h, ht, hle => by
  simp only [z9e] at h
  split at h
  ·rename_i hf
   have hm : ∀ (fs : List Field) (off tot : Nat), z9e P off fs = some tot -> off <= tot := by
    intro fs
    induction fs with
    | nil => intro off tot h; simp only [z9e] at h; cases h; exact Nat.le_refl _
    | cons f fs ih =>
     intro off tot h
     simp only [z9e] at h
     split at h
     ·have := ih _ _ h; omega
     ·cases h
   have := z6y fs _ tot h ht (hm _ _ _ h)
   simp only [List.map_cons, List.flatten_cons, this, hf]
   rw [<- List.drop_drop]
   exact List.take_append_drop _ _
  ·cases h
theorem AllD.of_get {R : TypeId -> List Value -> DataW H -> Prop} {sz : TypeId -> Nat} : ∀ {ts : List TypeId} {cs : List (List Value)} {ds : List (DataW H)}, cs.length = ts.length -> ds.length = ts.length ->
  (∀ (i : Nat) (t : TypeId) (c : List Value) (d : DataW H), ts[i]? = some t -> cs[i]? = some c -> ds[i]? = some d -> R t c d /\ c.length = sz t) -> AllD R sz ts cs ds
 | [], [], [], _, _, _ => trivial
 | [], _ :: _, _, h, _, _ => by simp at h
 | [], [], _ :: _, _, h, _ => by simp at h
 | _ :: _, [], _, h, _, _ => by simp at h
 | _ :: _, _ :: _, [], _, h, _ => by simp at h
 | t :: ts, c :: cs, d :: ds, h1, h2, h => ⟨h 0 t c d rfl rfl rfl, AllD.of_get (by simpa using h1) (by simpa using h2) fun i t' c' d' a b e => h (i + 1) t' c' d' (by simpa using a) (by simpa using b) (by simpa using e)⟩
theorem AllD.get {R : TypeId -> List Value -> DataW H -> Prop} {sz : TypeId -> Nat} : ∀ {ts : List TypeId} {cs : List (List Value)} {ds : List (DataW H)}, AllD R sz ts cs ds -> ∀ (i : Nat) (t : TypeId), ts[i]? = some t ->
  ∃ c d, cs[i]? = some c /\ ds[i]? = some d /\ R t c d /\ c.length = sz t
 | [], [], [], _, i, t, h => by simp at h
 | t :: ts, c :: cs, d :: ds, h, 0, t', ht => by simp at ht; subst ht; exact ⟨c, d, rfl, rfl, h.1.1, h.1.2⟩
 | t :: ts, c :: cs, d :: ds, h, i + 1, t', ht => by simpa using AllD.get h.2 i t' (by simpa using ht)
section
variable {enc : TypeId × Value -> H} {P : Program} {w : World} {sp : Nat -> Bool} {t : TypeId}
theorem zat {cs : List Value} {fs : List Field} (h : z9e P 0 fs = some (P.cellsOf t)) (hl : cs.length = P.cellsOf t) : (fs.map fun f => (cs.drop f.offset).take (P.cellsOf f.type)).flatten = cs := by
 have := z6y (P := P) (cs := cs) fs 0 _ h hl.symm (Nat.zero_le _)
 simpa using this
theorem zc1 {cs : List Value} (k sz : Nat) (hl : cs.length = k * sz) : ((List.range k).map fun i => (cs.drop (i * sz)).take sz).flatten = cs := by
 induction k generalizing cs with
 | zero => simp at hl; simp [hl]
 | succ k ih =>
  rw [List.range_succ_eq_map, List.map_cons, List.flatten_cons, List.map_map]
  have h1 := ih (cs := cs.drop sz) (by simp [hl, Nat.add_mul])
  have h2 : ((fun i => (cs.drop (i * sz)).take sz) ∘ Nat.succ) = fun i => ((cs.drop sz).drop (i * sz)).take sz := by
   funext i; simp [List.drop_drop, Nat.add_mul, Nat.add_comm]
  rw [h2, h1]
  simp
structure Lift (w : World) (A : AH) (ι : Ren) (A' : AH) (ι' : Ren) : Prop where
 next : A.next <= A'.next
 get : ∀ b x, A.get b = some x -> A'.get b = some x
 sub : ι.sub ι'
 sim : Sim A'.next ι' A'.get w
 ro : ∀ b x, A'.get b = some x -> x.own = false
theorem Lift.trans {A A1 A2 : AH} {ι ι1 ι2 : Ren} (h : Lift w A ι A1 ι1) (k : Lift w A1 ι1 A2 ι2) : Lift w A ι A2 ι2 :=
 ⟨Nat.le_trans h.next k.next, fun b x hb => k.get b x (h.get b x hb), fun b y hb => k.sub b y (h.sub b y hb), k.sim, k.ro⟩
theorem z9f {α : Type} {f : Nat -> Option α} : ∀ (n : Nat) (l : List α), (List.range n).mapM f = some l -> l.length = n /\ ∀ i, i < n -> f i = l[i]? := fun n l h =>
 ⟨by simpa using mapM_some_length h, fun i hi => mapM_some_get h i i (by simp [hi])⟩
theorem z8y {α : Type} (sz : Nat) (hsz : sz ≠ 0) : ∀ (css : List (List α)), (∀ c ∈ css, c.length = sz) -> ∀ j v, css.flatten[j]? = some v -> ∃ c, css[j / sz]? = some c /\ c[j % sz]? = some v
 | [], _, j, v, h => by simp at h
 | c :: css, hc, j, v, h => by
  have hcl := hc c (by simp)
  simp only [List.flatten_cons, List.getElem?_append] at h
  split at h
  ·rename_i hlt
   have hj : j < sz := by omega
   refine ⟨c, by rw [Nat.div_eq_of_lt hj]; rfl, by rw [Nat.mod_eq_of_lt hj]; exact h⟩
  ·rename_i hlt
   obtain ⟨c', h1, h2⟩ := z8y sz hsz css (fun x hx => hc x (by simp [hx])) (j - c.length) v h
   rw [hcl] at h1 h2
   have e : j = (j - sz) + sz := by omega
   refine ⟨c', ?_, ?_⟩
   ·rw [e, Nat.add_div_right _ (by omega)]; simpa using h1
   ·rw [e, Nat.add_mod_right]; exact h2
theorem z82 {n : Nat} (one : ∀ (A : AH) (ι : Ren) (fuel : Nat) (t : TypeId) (cs : List Value) (d : DataW H) (ps : List MemPlace), Sim A.next ι A.get w -> (∀ b x, A.get b = some x -> x.own = false) -> okT P n t = true ->
   DataW.trod enc P w 0 (fun _ => true) true fuel t cs = some (d, ps) -> ∃ A' ι' acs, Lift w A ι A' ι' /\ VRs ι' acs cs /\ AData P A'.get n t acs d /\ acs.length = P.cellsOf t) (fuel : Nat) :
  ∀ (its : List (TypeId × List Value × DataW H × List MemPlace)) (A : AH) (ι : Ren), Sim A.next ι A.get w -> (∀ b x, A.get b = some x -> x.own = false) ->
   (∀ q ∈ its, okT P n q.1 = true /\ DataW.trod enc P w 0 (fun _ => true) true fuel q.1 q.2.1 = some q.2.2) ->
   ∃ A' ι' acss, Lift w A ι A' ι' /\ VRs ι' acss.flatten (its.map (·.2.1)).flatten /\ AllD (AData P A'.get n) P.cellsOf (its.map (·.1)) acss (its.map (·.2.2.1))
 | [], A, ι, hS, hro, _ => ⟨A, ι, [], ⟨Nat.le_refl _, fun _ _ h => h, fun _ _ h => h, hS, hro⟩, .nil, trivial⟩
 | q :: its, A, ι, hS, hro, h => by
  obtain ⟨h1, h3⟩ := h q (by simp)
  obtain ⟨t, cs, d, ps⟩ := q
  obtain ⟨A1, ι1, acs, l1, v1, a1, e1⟩ := one A ι fuel t cs d ps hS hro h1 h3
  obtain ⟨A2, ι2, acss, l2, v2, a2⟩ := z82 one fuel its A1 ι1 l1.sim l1.ro fun q hq => h q (by simp [hq])
  refine ⟨A2, ι2, acs :: acss, l1.trans l2, ?_, ⟨AData.mono l2.get n _ _ _ a1, e1⟩, a2⟩
  simp only [List.flatten_cons, List.map_cons]
  exact (v1.mono l2.sub).append v2
theorem zd9 {A : AH} {ι : Ren} (hS : Sim A.next ι A.get w) (hro : ∀ b x, A.get b = some x -> x.own = false) {n fuel : Nat} {t e : TypeId} {cs : List Value} {d : DataW H} {ps : List MemPlace}
  (one : ∀ (A : AH) (ι : Ren) (fuel : Nat) (t : TypeId) (cs : List Value) (d : DataW H) (ps : List MemPlace), Sim A.next ι A.get w -> (∀ b x, A.get b = some x -> x.own = false) -> okT P n t = true ->
   DataW.trod enc P w 0 (fun _ => true) true fuel t cs = some (d, ps) -> ∃ A' ι' acs, Lift w A ι A' ι' /\ VRs ι' acs cs /\ AData P A'.get n t acs d /\ acs.length = P.cellsOf t)
  (hu : P.underlying t = some (.slice e)) (he0 : P.cellsOf e ≠ 0) (hfe : okT P n e = true)
  (h : DataW.trod enc P w 0 (fun _ => true) true fuel t cs = some (d, ps)) :
  ∃ A' ι' acs, Lift w A ι A' ι' /\ VRs ι' acs cs /\ AData P A'.get (n + 1) t acs d /\ acs.length = 1 := by
 rcases DataW.trod_slice hu h with ⟨rfl, e1⟩ | ⟨a, len, cap, elems, rest, m, rfl, rfl, e1, _, hlen, hcap, hel, hget, hrest, _⟩
 ·cases e1
  refine ⟨A, ι, [.slice none 0 0], ⟨Nat.le_refl _, fun _ _ h => h, fun _ _ h => h, hS, hro⟩, .cons (.scal rfl) .nil, ?_, rfl⟩
  unfold AData
  simp only [hu]
  exact .inl (by simp)
 ·cases e1
  obtain ⟨hrl, hrget⟩ := hrest rfl
  let cl : Nat -> List Value := fun i => (w.cells? 0 (a.add (i * P.cellsOf e)) (P.cellsOf e)).getD []
  have key : ∀ i, i < cap -> ∃ x, (elems ++ rest)[i]? = some x /\ w.cells? 0 (a.add (i * P.cellsOf e)) (P.cellsOf e) = some (cl i) /\ DataW.trod enc P w 0 (fun _ => true) true m e (cl i) = some x := fun i hi => by
   have hall : (w.cells? 0 (a.add (i * P.cellsOf e)) (P.cellsOf e)).bind (DataW.trod enc P w 0 (fun _ => true) true m e) = (elems ++ rest)[i]? := by
    by_cases hil : i < len
    ·rw [hget i hil, List.getElem?_append, if_pos (by omega)]
    ·have := hrget (i - len) (by omega)
     rw [show len + (i - len) = i by omega] at this
     rw [this, List.getElem?_append, if_neg (by omega), hel]
   have hil : i < (elems ++ rest).length := by simp; omega
   have hq : (elems ++ rest)[i]? = some (elems ++ rest)[i] := zAh hil
   rw [hq] at hall
   obtain ⟨cs', h1, h2⟩ := zAc hall
   have hcl : cl i = cs' := by simp [cl, h1]
   exact ⟨_, hq, by rw [h1, hcl], by rw [hcl]; exact h2⟩
  by_cases hc0 : cap = 0
  ·subst hc0
   have hl0 : len = 0 := by omega
   subst hl0
   have hfree := z6c hS
   refine ⟨A.push none, upd ι A.next (some (0, 0, 0)), [.slice (some ⟨A.next, 0, some 0⟩) 0 0], ⟨by simp, fun b x hb => by rw [AH.get_push_old _ _ (AH.lt_of_get hb)]; exact hb, z7t hfree, ?_, ?_⟩, ?_, ?_, rfl⟩
   ·refine ⟨⟨fun b x cb co ex hG hi => ?_, fun b b' x x' cb co ex cb' co' ex' hne hG hG' ho hi hi' => ?_, fun b y hb => ?_⟩, hS.tab.ro fun b x hb => by
     rw [AH.get_push] at hb
     split at hb
     ·cases hb
     ·exact hro b x hb⟩
    ·rw [AH.get_push] at hG
     split at hG
     ·cases hG
     ·rename_i hne
      rw [z0o _ _ hne] at hi
      exact (hS.blk b x cb co ex hG hi).mono (z7t hfree) rfl
    ·rw [AH.get_push] at hG
     split at hG
     ·cases hG
     ·have := hro b x hG; rw [this] at ho; cases ho
    ·by_cases e : b = A.next
     ·subst e; simp
     ·rw [z0o _ _ e] at hb
      have := hS.dom b y hb
      simp; omega
   ·intro b x hb
    rw [AH.get_push] at hb
    split at hb
    ·cases hb
    ·exact hro b x hb
   ·exact .cons (VR.sl0 (ι := upd ι A.next (some (0, 0, 0))) (o := 0) (z21 _ _ _) (.inr rfl)) .nil
   ·unfold AData
    simp only [hu]
    have he : elems = [] := List.eq_nil_of_length_eq_zero (by omega)
    have hr : rest = [] := List.eq_nil_of_length_eq_zero (by omega)
    subst he hr
    exact .inr ⟨A.next, 0, 0, [], [], [], rfl, rfl, rfl, rfl, by omega, .inl rfl, trivial⟩
  ·let its : List (TypeId × List Value × DataW H × List MemPlace) := ((List.range cap).zip (elems ++ rest)).map fun q => (e, cl q.1, q.2)
   obtain ⟨A1, ι1, acss, g1, g2, g3⟩ := z82 one m its A ι hS hro (fun q hq => by
    obtain ⟨⟨i, x⟩, hz, rfl⟩ := List.mem_map.1 hq
    obtain ⟨k, hk⟩ := List.mem_iff_getElem?.1 hz
    obtain ⟨h1, h2⟩ := List.getElem?_zip_eq_some.1 hk
    obtain ⟨h3, h4⟩ := zAi h1
    simp at h3 h4
    subst h4
    obtain ⟨x', k1, k2, k3⟩ := key k h3
    rw [h2] at k1; cases k1
    exact ⟨hfe, k3⟩)
   have hlz : (List.range cap).length = (elems ++ rest).length := by simp; omega
   have e1 : its.map (·.1) = List.replicate cap e := by
    have : its.map (·.1) = ((List.range cap).zip (elems ++ rest)).map fun _ => e := by simp [its, List.map_map, Function.comp_def]
    rw [this, List.map_const']; congr 1; simp at hlz ⊢; omega
   have e2 : its.map (·.2.1) = (List.range cap).map cl := by
    have : its.map (·.2.1) = (((List.range cap).zip (elems ++ rest)).map (·.1)).map cl := by simp [its, List.map_map, Function.comp_def]
    rw [this, List.map_fst_zip (by omega)]
   have e3 : its.map (·.2.2.1) = (elems ++ rest).map (·.1) := by
    have : its.map (·.2.2.1) = (((List.range cap).zip (elems ++ rest)).map (·.2)).map (·.1) := by simp [its, List.map_map, Function.comp_def]
    rw [this, List.map_snd_zip (by omega)]
   rw [e2] at g2
   rw [e1, e3] at g3
   have hclen : ∀ i, i < cap -> (cl i).length = P.cellsOf e /\ ∀ j, j < P.cellsOf e -> w.cell? ((a.add (i * P.cellsOf e)).add j) = (cl i)[j]? := fun i hi => by
    obtain ⟨_, _, k2, _⟩ := key i hi
    unfold World.cells? at k2
    rw [if_pos (Nat.zero_le _)] at k2
    exact z9f _ _ k2
   have hcssl : ∀ c ∈ (List.range cap).map cl, c.length = P.cellsOf e := fun c hc => by
    obtain ⟨i, hi, rfl⟩ := List.mem_map.1 hc
    exact (hclen i (List.mem_range.1 hi)).1
   have hspot : a.spot = none := by
    obtain ⟨k1, k2⟩ := hclen 0 (by omega)
    have h1 := k2 0 (by omega)
    rw [zAh (by omega)] at h1
    have := World.cell?_spot h1
    simpa [Addr.add] using this
   obtain ⟨ab, ao, asp⟩ := a
   simp only at hspot
   subst hspot
   have hcell : ∀ j v, ((List.range cap).map cl).flatten[j]? = some v -> w.cell? ⟨ab, ao + j, none⟩ = some v := fun j v hj => by
    obtain ⟨c, h1, h2⟩ := z8y (P.cellsOf e) he0 _ hcssl j v hj
    simp only [List.getElem?_map, Option.map_eq_some_iff] at h1
    obtain ⟨i, hi, rfl⟩ := h1
    obtain ⟨h3, h4⟩ := zAi hi
    simp at h3 h4
    subst h4
    have := (hclen _ h3).2 (j % P.cellsOf e) (Nat.mod_lt _ (by omega))
    rw [h2] at this
    simp only [z4r] at this
    rw [<- this]
    congr 2
    have := Nat.div_add_mod j (P.cellsOf e)
    rw [Nat.mul_comm] at this
    omega
   have hfree := z6c g1.sim
   obtain ⟨v0, hv0⟩ : ∃ v, ((List.range cap).map cl).flatten[0]? = some v := by
    have hmem : cl 0 ∈ (List.range cap).map cl := List.mem_map.2 ⟨0, List.mem_range.2 (by omega), rfl⟩
    have h1 := (hclen 0 (by omega)).1
    have : (cl 0).length <= ((List.range cap).map cl).flatten.length := by
     obtain ⟨l1, l2, e⟩ := List.append_of_mem hmem
     rw [e]; simp; omega
    exact ⟨_, zAh (by omega)⟩
   have hc0' := hcell 0 v0 hv0
   obtain ⟨arr, el, fr, harr⟩ : ∃ arr el fr, w.heap[ab]? = some (.cells arr el fr) := by
    unfold World.cell? at hc0'
    split at hc0'
    ·rename_i arr el fr hh; exact ⟨arr, el, fr, hh⟩
    ·cases hc0'
   refine ⟨A1.push (some ⟨acss.flatten, e, 1, false⟩), upd ι1 A1.next (some (ab, ao, 0)), [.slice (some ⟨A1.next, 0, some 0⟩) len cap], g1.trans ⟨by simp, fun b x hb => by rw [AH.get_push_old _ _ (AH.lt_of_get hb)]; exact hb, z7t hfree, ?_, ?_⟩, ?_, ?_, rfl⟩
   ·refine ⟨⟨fun b x cb co ex hG hi => ?_, fun b b' x x' cb co ex cb' co' ex' hne hG hG' ho hi hi' => ?_, fun b y hb => ?_⟩, g1.sim.tab.ro fun b x hb => by
     rw [AH.get_push] at hb
     split at hb
     ·cases hb; rfl
     ·exact g1.ro b x hb⟩
    ·rw [AH.get_push] at hG
     split at hG
     ·rename_i e; subst e
      cases hG
      rw [z21] at hi; cases hi
      refine ⟨arr, el, fr, harr, fun j v hj => ?_, fun h => by cases h⟩
      obtain ⟨y, h1, h2⟩ := g2.get j v hj
      refine ⟨y, ?_, h2.mono (z7t hfree)⟩
      have := hcell j y h1
      simpa [World.cell?, harr] using this
     ·rename_i hne
      rw [z0o _ _ hne] at hi
      exact (g1.sim.blk b x cb co ex hG hi).mono (z7t hfree) rfl
    ·rw [AH.get_push] at hG
     split at hG
     ·cases hG; cases ho
     ·have := g1.ro b x hG; rw [this] at ho; cases ho
    ·by_cases e : b = A1.next
     ·subst e; simp
     ·rw [z0o _ _ e] at hb
      have := g1.sim.dom b y hb
      simp; omega
   ·intro b x hb
    rw [AH.get_push] at hb
    split at hb
    ·cases hb; rfl
    ·exact g1.ro b x hb
   ·have := VR.slT (ι := upd ι1 A1.next (some (ab, ao, 0))) (o := 0) (l := len) (c := cap) (z21 _ _ _)
    exact .cons this .nil
   ·unfold AData
    simp only [hu]
    refine .inr ⟨A1.next, len, cap, elems.map (·.1), rest.map (·.1), acss, rfl, rfl, by simp [hel], by simp; omega, hcap, .inr ⟨_, AH.get_push_new _ _, rfl, rfl⟩, ?_⟩
    rw [<- List.map_append]
    exact AllD.mono (fun t c d h => AData.mono (fun b x hb => by rw [AH.get_push_old _ _ (AH.lt_of_get hb)]; exact hb) n _ _ _ h) g3
theorem z9g : ∀ (n : Nat) (A : AH) (ι : Ren) (fuel : Nat) (t : TypeId) (cs : List Value) (d : DataW H) (ps : List MemPlace), Sim A.next ι A.get w -> (∀ b x, A.get b = some x -> x.own = false) -> okT P n t = true ->
   DataW.trod enc P w 0 (fun _ => true) true fuel t cs = some (d, ps) -> ∃ A' ι' acs, Lift w A ι A' ι' /\ VRs ι' acs cs /\ AData P A'.get n t acs d /\ acs.length = P.cellsOf t
 | 0, _, _, _, _, _, _, _, _, _, h, _ => by simp [okT] at h
 | n + 1, A, ι, fuel, t, cs, d, ps, hS, hro, hok, h => by
  have triv : Lift w A ι A ι := ⟨Nat.le_refl _, fun _ _ h => h, fun _ _ h => h, hS, hro⟩
  unfold okT at hok
  split at hok
  ·rename_i hu
   obtain ⟨b, rfl, e⟩ := DataW.trod_bool hu h
   cases e
   refine ⟨A, ι, [.bool b], triv, .cons (.scal rfl) .nil, ?_, by simpa using (beq_iff_eq.1 hok).symm⟩
   unfold AData; simp only [hu]; exact ⟨b, rfl, rfl⟩
  ·rename_i k hu
   obtain ⟨b, rfl, e, hw⟩ := DataW.trod_int hu h
   cases e
   refine ⟨A, ι, [.int k b], triv, .cons (.scal rfl) .nil, ?_, by simpa using (beq_iff_eq.1 hok).symm⟩
   unfold AData; simp only [hu]; exact ⟨b, rfl, rfl, hw⟩
  ·rename_i hu
   obtain ⟨b, rfl, e, hw⟩ := DataW.trod_string hu h
   cases e
   refine ⟨A, ι, [.string b], triv, .cons (.scal rfl) .nil, ?_, by simpa using (beq_iff_eq.1 hok).symm⟩
   unfold AData; simp only [hu]; exact ⟨b, rfl, rfl, hw⟩
  ·rename_i e hu
   simp only [Bool.and_eq_true, bne_iff_ne, beq_iff_eq] at hok
   obtain ⟨⟨hc, he0⟩, hfe⟩ := hok
   obtain ⟨A', ι', acs, g1, g2, g3, g4⟩ := zd9 hS hro (n := n) (z9g n) hu he0 hfe h
   exact ⟨A', ι', acs, g1, g2, g3, by rw [g4, hc]⟩
  ·rename_i fs hu
   simp only [Bool.and_eq_true, beq_iff_eq] at hok
   obtain ⟨hcon, hall⟩ := hok
   obtain ⟨xs, m, rfl, e, hl, hxl, hget⟩ := DataW.trod_struct hu h
   cases e
   let its : List (TypeId × List Value × DataW H × List MemPlace) := (fs.toList.zip xs).map fun q => (q.1.type, (cs.drop q.1.offset).take (P.cellsOf q.1.type), q.2)
   obtain ⟨A', ι', acss, g1, g2, g3⟩ := z82 (z9g n) m its A ι hS hro (fun q hq => by
    obtain ⟨⟨f, x⟩, hz, rfl⟩ := List.mem_map.1 hq
    obtain ⟨i, hi⟩ := List.mem_iff_getElem?.1 hz
    obtain ⟨h1, h2⟩ := List.getElem?_zip_eq_some.1 hi
    refine ⟨List.all_eq_true.1 hall f (List.mem_of_getElem? h1), ?_⟩
    rw [<- h2]
    exact hget i f (by simpa using h1))
   have hlz : fs.toList.length = xs.length := by simp [hxl]
   have e1 : its.map (·.1) = fs.toList.map (·.type) := by
    simp only [its, List.map_map]
    rw [<- List.map_fst_zip (l₁ := fs.toList) (l₂ := xs) (by omega), List.map_map]; simp [Function.comp_def, List.map_fst_zip, hlz]
   have e2 : its.map (·.2.1) = fs.toList.map fun f => (cs.drop f.offset).take (P.cellsOf f.type) := by
    have : its.map (·.2.1) = ((fs.toList.zip xs).map (·.1)).map fun f => (cs.drop f.offset).take (P.cellsOf f.type) := by simp [its, List.map_map, Function.comp_def]
    rw [this, List.map_fst_zip (by omega)]
   have e3 : its.map (·.2.2.1) = xs.map (·.1) := by
    have : its.map (·.2.2.1) = ((fs.toList.zip xs).map (·.2)).map (·.1) := by simp [its, List.map_map, Function.comp_def]
    rw [this, List.map_snd_zip (by omega)]
   rw [e2, zat hcon hl] at g2
   rw [e1, e3] at g3
   refine ⟨A', ι', acss.flatten, g1, g2, ?_, ?_⟩
   ·unfold AData; simp only [hu]; exact ⟨acss, _, rfl, rfl, g3⟩
   ·rw [g2.length, hl]
  ·rename_i k e hu
   simp only [Bool.and_eq_true, beq_iff_eq] at hok
   obtain ⟨hsz, hfe⟩ := hok
   obtain ⟨xs, m, rfl, eq, hl, hxl, hget⟩ := DataW.trod_array hu h
   cases eq
   let its : List (TypeId × List Value × DataW H × List MemPlace) := ((List.range k).zip xs).map fun q => (e, (cs.drop (q.1 * P.cellsOf e)).take (P.cellsOf e), q.2)
   obtain ⟨A', ι', acss, g1, g2, g3⟩ := z82 (z9g n) m its A ι hS hro (fun q hq => by
    obtain ⟨⟨j, x⟩, hz, rfl⟩ := List.mem_map.1 hq
    obtain ⟨i, hi⟩ := List.mem_iff_getElem?.1 hz
    obtain ⟨h1, h2⟩ := List.getElem?_zip_eq_some.1 hi
    obtain ⟨h3, h4⟩ := zAi h1
    simp at h3 h4
    subst h4
    refine ⟨hfe, ?_⟩
    rw [<- h2]
    exact hget i h3)
   have hlz : (List.range k).length = xs.length := by simp [hxl]
   have e1 : its.map (·.1) = List.replicate k e := by
    have : its.map (·.1) = ((List.range k).zip xs).map fun _ => e := by simp [its, List.map_map, Function.comp_def]
    rw [this, List.map_const']; simp [hxl]
   have e2 : its.map (·.2.1) = (List.range k).map fun i => (cs.drop (i * P.cellsOf e)).take (P.cellsOf e) := by
    have : its.map (·.2.1) = (((List.range k).zip xs).map (·.1)).map fun i => (cs.drop (i * P.cellsOf e)).take (P.cellsOf e) := by simp [its, List.map_map, Function.comp_def]
    rw [this, List.map_fst_zip (by omega)]
   have e3 : its.map (·.2.2.1) = xs.map (·.1) := by
    have : its.map (·.2.2.1) = (((List.range k).zip xs).map (·.2)).map (·.1) := by simp [its, List.map_map, Function.comp_def]
    rw [this, List.map_snd_zip (by omega)]
   rw [e2, zc1 k _ (by rw [hl, hsz])] at g2
   rw [e1, e3] at g3
   refine ⟨A', ι', acss.flatten, g1, g2, ?_, ?_⟩
   ·unfold AData; simp only [hu]; exact ⟨acss, _, rfl, rfl, g3⟩
   ·rw [g2.length, hl]
  ·cases hok
def AVal (P : Program) (G : Nat -> Option ABlk) (n : Nat) (t : TypeId) (v : Value) (d : DataW H) : Prop :=
 match P.underlying t with
 | some (.struct _) | some (.array _ _) => ∃ cs, v = .agg ⟨cs⟩ /\ AData P G n t cs d
 | _ => AData P G n t [v] d
theorem AVal.mono {G G' : Nat -> Option ABlk} (hG : ∀ b x, G b = some x -> G' b = some x) {n : Nat} {t : TypeId} {v : Value} {d : DataW H} (h : AVal P G n t v d) : AVal P G' n t v d := by
 unfold AVal at h ⊢
 split at h
 ·obtain ⟨cs, h1, h2⟩ := h; exact ⟨cs, h1, h2.mono hG⟩
 ·obtain ⟨cs, h1, h2⟩ := h; exact ⟨cs, h1, h2.mono hG⟩
 ·exact AData.mono hG _ _ _ _ h
def AArgs (P : Program) (G : Nat -> Option ABlk) (n : Nat) : List TypeId -> List Value -> List (DataW H) -> Prop
 | [], [], [] => True
 | t :: ts, v :: vs, d :: ds => AVal P G n t v d /\ AArgs P G n ts vs ds
 | _, _, _ => False
theorem zbf {n base : Nat} : ∀ (ts : List TypeId) (vs : List Value) (ds : List (DataW H)) (ps : List MemPlace) (A : AH) (ι : Ren), Sim A.next ι A.get w -> (∀ b x, A.get b = some x -> x.own = false) ->
  (∀ t ∈ ts, okT P n t = true) -> (∀ (j : Nat) t v, ts[j]? = some t -> vs[j]? = some v -> Value.okWide P w .any base t v) -> DataW.TrodAll enc P w 0 (fun _ => true) true ts vs ds ps ->
  ∃ A' ι' avs, Lift w A ι A' ι' /\ VRs ι' avs vs /\ AArgs P A'.get n ts avs ds
 | [], [], [], _, A, ι, hS, hro, _, _, _ => ⟨A, ι, [], ⟨Nat.le_refl _, fun _ _ h => h, fun _ _ h => h, hS, hro⟩, .nil, trivial⟩
 | [], [], _ :: _, _, _, _, _, _, _, _, h => h.elim
 | [], _ :: _, _, _, _, _, _, _, _, _, h => h.elim
 | _ :: _, [], _, _, _, _, _, _, _, _, h => h.elim
 | _ :: _, _ :: _, [], _, _, _, _, _, _, _, h => h.elim
 | t :: ts, v :: vs, d :: ds, ps, A, ι, hS, hro, hok, hval, h => by
  obtain ⟨p, q, ⟨fuel, h1⟩, h2, _⟩ := h
  have hv := hval 0 t v rfl rfl
  obtain ⟨A1, ι1, acs, l1, v1, a1, e1⟩ := z9g n A ι fuel t v.cells.toList d p hS hro (hok t (by simp)) h1
  obtain ⟨A2, ι2, avs, l2, v2, a2⟩ := zbf ts vs ds q A1 ι1 l1.sim l1.ro (fun t ht => hok t (by simp [ht])) (fun j t v ht hv => hval (j + 1) t v (by simpa using ht) (by simpa using hv)) h2
  have hfin : ∃ av, VR ι1 av v /\ AVal P A1.get n t av d := by
   unfold Value.okWide at hv
   unfold AVal
   split at hv
   ·rename_i fs hu
    obtain ⟨cs, rfl, _⟩ := hv
    simp only [hu]
    exact ⟨.agg ⟨acs⟩, .agg (ys := cs.toList) v1, acs, rfl, a1⟩
   ·rename_i k e hu
    obtain ⟨cs, rfl, _⟩ := hv
    simp only [hu]
    exact ⟨.agg ⟨acs⟩, .agg (ys := cs.toList) v1, acs, rfl, a1⟩
   ·rename_i hn1 hn2
    have hcv : v.cells.toList = [v] := by
     cases v with
     | agg cs =>
      unfold Cell.okWide at hv; split at hv <;> try (rename_i h1 h2; cases h2; done)
      unfold Cell.ok at hv; split at hv <;> first | exact hv.elim | (rename_i h1 h2; cases h2; done)
     | _ => rfl
    rw [hcv] at v1
    cases v1 with
    | cons hx hr =>
     cases hr
     rename_i av
     refine ⟨av, hx, ?_⟩
     cases hu : P.underlying t with
     | none => exact a1
     | some dd =>
      cases dd <;> first
       | exact a1
       | (exact absurd hu (hn1 _))
       | (exact absurd hu (hn2 _ _))
  obtain ⟨av, hav, hAV⟩ := hfin
  exact ⟨A2, ι2, av :: avs, l1.trans l2, .cons (hav.mono l2.sub) v2, hAV.mono l2.get, a2⟩
theorem calls_of_law {n base : Nat} {f : FuncId} {ts : List TypeId} {args : Array Value} {ds : List (DataW H)} {ps : List MemPlace} (hok : ∀ t ∈ ts, okT P n t = true)
  (hval : ∀ (j : Nat) t v, ts[j]? = some t -> args[j]? = some v -> Value.okWide P w .any base t v) (h : DataW.TrodAll enc P w 0 (fun _ => true) true ts args.toList ds ps) {r : Value} (hr : closed r = true)
  (hlaw : ∀ (A : AH) (avs : List Value), AArgs P A.get n ts avs ds -> ∃ A', ACalls P f avs A r A') (htab : ∀ cb ∈ TBs, ∃ o, w.heap[cb]? = some o /\ TBok cb o := by intro _ h; cases h) :
  Calls P f args w fun e w' => e = .returned r /\ RowKit.Below w.heap.size w w' := by
 have hS0 : Sim (⟨0, []⟩ : AH).next (fun _ => none) (⟨0, []⟩ : AH).get w :=
  ⟨⟨fun b x cb co ex hG _ => (by simp [AH.get_def] at hG), fun b b' x x' cb co ex cb' co' ex' _ hG => (by simp [AH.get_def] at hG), fun b y hb => (by cases hb)⟩, fun cb hc => ⟨htab cb hc, fun ⟨b, x, co, ex, hG, _⟩ => by simp [AH.get_def] at hG⟩⟩
 obtain ⟨A, ι, avs, l, hv, ha⟩ := zbf (enc := enc) ts args.toList ds ps ⟨0, []⟩ (fun _ => none) hS0 (fun b x hG => by simp [AH.get_def] at hG) hok (fun j t v ht hv => hval j t v ht (by simpa using hv)) h
 obtain ⟨A', hc⟩ := hlaw A avs ha
 refine (hc.run ι w args l.sim hv).mono fun e w' ⟨ι', v', he, hr', hS', hE⟩ => ?_
 refine ⟨by rw [he, hr'.closed_eq hr], hE.os, hE.tape, hE.output, hE.size, fun k hk => hE.same k hk ?_⟩
 rintro ⟨b, x, co, ex, hG, ho, _⟩
 rw [l.ro b x hG] at ho; cases ho
end
end
end Go.Am
/- For proofs with variables: the frame as a function, and each operation's rule as an equation. -/
namespace Go.Am
open Go
noncomputable section
def toL (n : Nat) (σ : Nat -> Value) : List Value := (List.range n).map σ
theorem zgl {n : Nat} {σ : Nat -> Value} {t : Nat} (h : t < n) : opnd (toL n σ) (.tmp t) = some (σ t) := by
 simp [opnd, z8t, toL, zAb, h]
theorem zda {s : List Value} {v : Value} (h : closed v = true) : opnd s (.const v) = some v := by simp [opnd, h]
theorem zgm {n : Nat} {σ : Nat -> Value} {d : Nat} {v : Value} (h : d < n) : putd (toL n σ) (some d) v = toL n (upd σ d v) := by
 rw [z6a]
 unfold toL
 apply List.ext_getElem?
 intro i
 simp only [List.getElem?_set, List.getElem?_map, List.length_map, List.length_range]
 by_cases e : d = i
 ·subst e; simp [h, upd]
 ·have e' : ¬ i = d := fun h => e h.symm
  rw [if_neg e]
  by_cases hi : i < n
  ·simp [hi, upd, e']
  ·simp [hi]
theorem zdb {n : Nat} {σ : Nat -> Value} {t : Nat} (h : t < n) : (toL n σ)[t]? = some (σ t) := by simp [toL, h]
theorem zgn {n : Nat} (args : List Value) : args ++ List.replicate (n - args.length) undef = toL (max n args.length) (fun t => args.getD t undef) := by
 apply List.ext_getElem?
 intro i
 simp only [toL, List.getElem?_map, List.getElem?_append, List.getElem?_replicate]
 by_cases h : i < args.length
 ·have h2 : i < max n args.length := by omega
  simp [h, h2, zAb]
 ·by_cases h2 : i < n
  ·have h3 : i - args.length < n - args.length := by omega
   have h4 : i < max n args.length := by omega
   simp [h, h3, h4, zAb]
  ·have h3 : ¬ i - args.length < n - args.length := by omega
   have h4 : ¬ i < max n args.length := by omega
   simp [h, h3, h4]
section
variable {P : Program} {s : List Value} {H H' : AH} {d : Option Tmp} {ty : TypeId} {pos : String} {af : Array Edge} {g : Option (Nat × Bool)} {v : Value}
theorem zf1 {o : Oper} (h : z2y P s o = some v) : StepOk P o s H v H := z3m (by simp [z9w, h])
theorem zf2 {o : Oper} (h0 : z2y P s o = none) (h : z5t P s o H.get = some v) : StepOk P o s H v H := z3m (by simp [z9w, h0, h])
theorem zdc {e : TypeId} {z : Value} (hz : (P.info? e).bind (·.zero) = some z) (hs : z.cells.all z1m = true) : StepOk P ⟨d, .alloc e, ty, pos, af, g⟩ s H (.pointer (some ⟨H.next, 0, none⟩)) (H.push (some ⟨z.cells.toList, e, 1, true⟩)) :=
 z3m (by
  obtain ⟨inf, hi, hz⟩ := zAc hz
  have : z3t P s ⟨d, .alloc e, ty, pos, af, g⟩ = some (⟨z.cells.toList, e, 1, true⟩, .ptr) := by simp only [z3t, hi, hz, Option.bind_some, hs, if_true]
  simp only [z9w, z2y, z5t, this]
  rfl)
end
end
end Go.Am
/- For proofs with variables: what a piece of code comes to, with what follows as a predicate. -/
namespace Go.Am
open Go
noncomputable section
def up (σ : Nat -> Value) (d : Nat) (v : Value) : Nat -> Value := fun t => bif Nat.beq t d then v else σ t
theorem ziu (σ : Nat -> Value) (d : Nat) (v : Value) : up σ d v = upd σ d v := by
 funext t
 unfold up upd
 by_cases h : t = d
 ·subst h; simp
 ·have : Nat.beq t d = false := by cases e : Nat.beq t d with | false => rfl | true => exact absurd (Nat.eq_of_beq_eq_true e) h
  rw [this, if_neg h]; rfl
def upo (σ : Nat -> Value) (d : Option Tmp) (v : Value) : Nat -> Value := match d with | some d => up σ d v | none => σ
def dok (n : Nat) (d : Option Tmp) : Bool := match d with | some d => Nat.blt d n | none => true
theorem z8z {a b : Nat} : Nat.blt a b = true ↔ a < b := by simp [Nat.blt, Nat.lt_iff_add_one_le]
theorem z40 {n : Nat} {σ : Nat -> Value} {d : Option Tmp} {v : Value} (h : dok n d = true) : putd (toL n σ) d v = toL n (upo σ d v) := by
 cases d with
 | none => rfl
 | some d => rw [zgm (z8z.1 h)]; simp only [upo, ziu]
def oval (σ : Nat -> Value) : Operand -> Value
 | .tmp t => σ t
 | .const v => v
 | .func f => .func (.func f) #[] #[]
 | .global _ => undef
def ook (n : Nat) : Operand -> Bool
 | .tmp t => Nat.blt t n
 | .const v => closed v
 | .func _ => true
 | .global _ => false
theorem z2s {n : Nat} {σ : Nat -> Value} {x : Operand} (h : ook n x = true) : opnd (toL n σ) x = some (oval σ x) := by
 cases x with
 | tmp t => exact zgl (z8z.1 h)
 | const v => exact zda h
 | func f => rfl
 | global g => simp [ook] at h
theorem z4d {n : Nat} {σ : Nat -> Value} {x : Operand} {v : Value} (h : ook n x = true) (hv : oval σ x = v) : opnd (toL n σ) x = some v := by rw [z2s h, hv]
theorem z5x {n : Nat} {σ : Nat -> Value} : ∀ {xs : List Operand}, xs.all (ook n) = true -> zb7 (toL n σ) xs = some (xs.map (oval σ))
 | [], _ => rfl
 | x :: xs, h => by
  simp only [List.all_cons, Bool.and_eq_true] at h
  simp [zb7, z2s h.1, z5x h.2]
def wrL : List Oper -> Nat -> Bool
 | [], _ => false
 | o :: l, t => (match o.dst with | some d => Nat.beq t d | none => false) || wrL l t
def wrC : Code -> Nat -> Bool
 | .region _ ops _, t => wrL ops.toList t
 | .seq a b, t => wrC a t || wrC b t
 | .cond _ a b, t => wrC a t || wrC b t
 | .block _ c, t => wrC c t
 | .loop c, t => wrC c t
 | .scope c, t => wrC c t
 | .rangeFunc _ _ _ _, _ => true
 | _, _ => false
theorem zdd {o : Oper} {l : List Oper} {t : Nat} (h : wrL (o :: l) t = false) (σ : Nat -> Value) (v : Value) : upo σ o.dst v t = σ t := by
 simp only [wrL, Bool.or_eq_false_iff] at h
 cases hd : o.dst with
 | none => rfl
 | some d =>
  rw [hd] at h
  simp only [upo, up, h.1, cond_false]
abbrev QX := Exit -> (Nat -> Value) -> AH -> Prop
def AWO (P : Program) (n : Nat) (ops : Array Oper) (l : List Oper) (σ : Nat -> Value) (H : AH) (Q : (Nat -> Value) -> AH -> Prop) : Prop :=
 ∃ σ' H', AOps P ops l (toL n σ) H (toL n σ') H' /\ (∀ t, wrL l t = false -> σ' t = σ t) /\ Q σ' H'
def AW (P : Program) (n : Nat) (c : Code) (σ : Nat -> Value) (H : AH) (Q : QX) : Prop :=
 ∃ ex σ' H', ARun P c (toL n σ) H ex (toL n σ') H' /\ (∀ t, wrC c t = false -> σ' t = σ t) /\ Q ex σ' H'
section
variable {P : Program} {n : Nat} {σ : Nat -> Value} {H H1 : AH} {Q : QX} {ops : Array Oper} {l : List Oper} {QO : (Nat -> Value) -> AH -> Prop} {o : Oper} {v : Value}
theorem AWO.nil (h : QO σ H) : AWO P n ops [] σ H QO := ⟨σ, H, .nil, fun _ _ => rfl, h⟩
theorem AWO.step (hw : Region.wanted o (z39 ops (toL n σ)) = true) (hd : dok n o.dst = true) (hs : StepOk P o (toL n σ) H v H1) (hr : AWO P n ops l (upo σ o.dst v) H1 QO) : AWO P n ops (o :: l) σ H QO := by
 obtain ⟨σ', H', h1, h2, h3⟩ := hr
 exact ⟨σ', H', .step hw hs (by rw [z40 hd]; exact h1), fun t ht => (h2 t (by simp only [wrL, Bool.or_eq_false_iff] at ht; exact ht.2)).trans (zdd ht σ v), h3⟩
theorem AWO.skip (hw : Region.wanted o (z39 ops (toL n σ)) = false) (hd : dok n o.dst = true) (hr : AWO P n ops l (upo σ o.dst undef) H QO) : AWO P n ops (o :: l) σ H QO := by
 obtain ⟨σ', H', h1, h2, h3⟩ := hr
 exact ⟨σ', H', .skip hw (by rw [z40 hd]; exact h1), fun t ht => (h2 t (by simp only [wrL, Bool.or_eq_false_iff] at ht; exact ht.2)).trans (zdd ht σ undef), h3⟩
def gok (n : Nat) (ops : Array Oper) (σ : Nat -> Value) (g : Option (Nat × Bool)) (r : Bool) : Prop :=
 match g with
 | none => r = true
 | some (j, want) => match (ops[j]?).bind (·.dst) with
  | some d => d < n /\ ∃ b, σ d = .bool b /\ r = (b == want)
  | none => False
theorem z17 {r : Bool} (h : gok n ops σ o.guard r) : Region.wanted o (z39 ops (toL n σ)) = r := by
 unfold gok at h
 unfold Region.wanted
 cases hg : o.guard with
 | none => rw [hg] at h; exact h.symm
 | some p =>
  obtain ⟨j, want⟩ := p
  rw [hg] at h
  simp only at h ⊢
  unfold z39
  split at h
  ·rename_i d hd
   obtain ⟨hlt, b, hb, hr⟩ := h
   rw [hd, Option.bind_some, zdb hlt, hb, hr]
   cases b <;> cases want <;> rfl
  ·cases h
theorem AW.region {id : Nat} (h : AWO P n ops ops.toList σ H (Q .normal)) : AW P n (.region id ops false) σ H Q := by
 obtain ⟨σ', H', h1, h2, h3⟩ := h
 exact ⟨.normal, σ', H', .region h1, h2, h3⟩
def seqQ (P : Program) (n : Nat) (y : Code) (Q : QX) : QX := fun ex σ H => match ex with | .normal => AW P n y σ H Q | e => Q e σ H
theorem AW.seq {x y : Code} (h : AW P n x σ H (seqQ P n y Q)) : AW P n (.seq x y) σ H Q := by
 obtain ⟨ex, σ1, H1, h1, h2, h3⟩ := h
 by_cases he : ex = .normal
 ·subst he
  obtain ⟨ex', σ', H', g1, g2, g3⟩ := h3
  exact ⟨ex', σ', H', .seq h1 g1, fun t ht => by simp only [wrC, Bool.or_eq_false_iff] at ht; exact (g2 t ht.2).trans (h2 t ht.1), g3⟩
 ·refine ⟨ex, σ1, H1, .seq_out h1 he, fun t ht => by simp only [wrC, Bool.or_eq_false_iff] at ht; exact h2 t ht.1, ?_⟩
  cases ex <;> first | exact absurd rfl he | exact h3
theorem AW.skip (h : Q .normal σ H) : AW P n .skip σ H Q := ⟨_, σ, H, .skip, fun _ _ => rfl, h⟩
theorem AW.label {l : Nat} (h : Q .normal σ H) : AW P n (.label l) σ H Q := ⟨_, σ, H, .label, fun _ _ => rfl, h⟩
theorem AW.exit {id : Nat} (h : Q (.exit id) σ H) : AW P n (.exit id) σ H Q := ⟨_, σ, H, .exit, fun _ _ => rfl, h⟩
theorem AW.ret (h : Q .ret σ H) : AW P n .ret σ H Q := ⟨_, σ, H, .ret, fun _ _ => rfl, h⟩
theorem AW.cond {c : Operand} {x y : Code} {b : Bool} (ok : ook n c = true) (hc : oval σ c = .bool b) (ht : b = true -> AW P n x σ H Q) (hf : b = false -> AW P n y σ H Q) : AW P n (.cond c x y) σ H Q := by
 cases b with
 | true =>
  obtain ⟨ex, σ', H', h1, h2, h3⟩ := ht rfl
  exact ⟨ex, σ', H', .cond (b := true) (z4d ok hc) h1, fun t h => by simp only [wrC, Bool.or_eq_false_iff] at h; exact h2 t h.1, h3⟩
 | false =>
  obtain ⟨ex, σ', H', h1, h2, h3⟩ := hf rfl
  exact ⟨ex, σ', H', .cond (b := false) (z4d ok hc) h1, fun t h => by simp only [wrC, Bool.or_eq_false_iff] at h; exact h2 t h.2, h3⟩
def zgo (id : Nat) (Q : QX) : QX := fun ex σ H => match ex with
 | .exit k => if k = id then Q .normal σ H else Q (.exit k) σ H
 | e => Q e σ H
theorem AW.block {id : Nat} {c : Code} (h : AW P n c σ H (zgo id Q)) : AW P n (.block id c) σ H Q := by
 obtain ⟨ex, σ1, H1, h1, h2, h3⟩ := h
 by_cases he : ex = .exit id
 ·subst he
  simp only [zgo, if_true] at h3
  exact ⟨_, σ1, H1, .block_exit h1, h2, h3⟩
 ·refine ⟨ex, σ1, H1, .block h1 he, h2, ?_⟩
  cases ex <;> simp only [zgo] at h3 <;> first | exact h3 | (rename_i k; rw [if_neg (fun e => he (by rw [e]))] at h3; exact h3)
theorem AW.mono {c : Code} {Q' : QX} (h : AW P n c σ H Q) (hq : ∀ ex σ' H', (∀ t, wrC c t = false -> σ' t = σ t) -> Q ex σ' H' -> Q' ex σ' H') : AW P n c σ H Q' := by
 obtain ⟨ex, σ', H', h1, h2, h3⟩ := h
 exact ⟨ex, σ', H', h1, h2, hq _ _ _ h2 h3⟩
def zjn {α : Type} (I : α -> (Nat -> Value) -> AH -> Prop) (μ : α -> Nat) (a : α) (Q : QX) : QX := fun ex σ H => match ex with
 | .normal => ∃ b, μ b < μ a /\ I b σ H
 | e => Q e σ H
theorem AW.loop {α : Type} {c : Code} (I : α -> (Nat -> Value) -> AH -> Prop) (μ : α -> Nat) (a : α) (h0 : I a σ H)
  (hs : ∀ a σ1 H1, (∀ t, wrC c t = false -> σ1 t = σ t) -> I a σ1 H1 -> AW P n c σ1 H1 (zjn I μ a Q)) : AW P n (.loop c) σ H Q := by
 suffices ∀ k a σ1 H1, μ a = k -> (∀ t, wrC c t = false -> σ1 t = σ t) -> I a σ1 H1 -> ∃ ex σ' H', ALoop P c (toL n σ1) H1 ex (toL n σ') H' /\ (∀ t, wrC c t = false -> σ' t = σ t) /\ Q ex σ' H' by
  obtain ⟨ex, σ', H', h1, h2, h3⟩ := this _ a σ H rfl (fun _ _ => rfl) h0
  exact ⟨ex, σ', H', .loop h1, h2, h3⟩
 intro k
 induction k using Nat.strongRecOn with
 | ind k ih =>
  intro a σ1 H1 hk hf hI
  obtain ⟨ex, σ2, H2, h1, h2, h3⟩ := hs a σ1 H1 hf hI
  by_cases he : ex = .normal
  ·subst he
   obtain ⟨b, hb, hI2⟩ := h3
   obtain ⟨ex', σ', H', g1, g2, g3⟩ := ih (μ b) (by omega) b σ2 H2 rfl (fun t ht => (h2 t ht).trans (hf t ht)) hI2
   exact ⟨ex', σ', H', .again h1 g1, g2, g3⟩
  ·refine ⟨ex, σ2, H2, .out h1 he, fun t ht => (h2 t ht).trans (hf t ht), ?_⟩
   cases ex <;> first | exact absurd rfl he | exact h3
def retQ (P : Program) (fn : Func) (n : Nat) (R : Value -> AH -> Prop) : QX := fun ex σ H => match ex with
 | .normal | .ret => ∃ v, aret P fn (toL n σ) H = some v /\ R v H
 | _ => False
theorem z90 {f : FuncId} {fn : Func} {c : Code} {args : List Value} {R : Value -> AH -> Prop} (hf : P.funcs[f]? = some fn) (hb : fn.body = some c) (hn : max fn.ntmps args.length = n)
  (h : AW P n c (fun t => args.getD t undef) H (retQ P fn n R)) : ∃ v H', ACalls P f args H v H' /\ R v H' := by
 subst hn
 obtain ⟨ex, σ', H', h1, h2, h3⟩ := h
 have hex : ex = .normal \/ ex = .ret := by
  cases ex <;> first | exact .inl rfl | exact .inr rfl | exact h3.elim
 have h4 : ∃ v, aret P fn (toL (max fn.ntmps args.length) σ') H' = some v /\ R v H' := by
  rcases hex with rfl | rfl <;> exact h3
 obtain ⟨v, hv, hR⟩ := h4
 exact ⟨v, H', .of_run hf hb hex (by rw [zgn]; exact h1) hv, hR⟩
end
end
end Go.Am
/- Each operation's rule for proofs with variables. -/
namespace Go.Am
open Go
noncomputable section
def padd : Value -> Nat -> Value
 | .pointer (some ⟨b, off, none⟩), k => .pointer (some ⟨b, off + k, none⟩)
 | v, _ => v
def z4t : Value -> Nat -> Value
 | .slice (some ⟨b, off, _⟩) _ _, k => .pointer (some ⟨b, off + k, none⟩)
 | v, _ => v
def Pt (H : AH) (v : Value) (cs : List Value) : Prop := ∃ b off k, v = .pointer (some ⟨b, off, none⟩) /\ H.get b = some k /\ off + cs.length <= k.cells.length /\ (k.cells.drop off).take cs.length = cs
def Sl (H : AH) (sz : Nat) (v : Value) (es : List (List Value)) : Prop :=
 (∀ e ∈ es, e.length = sz) /\ ((v = .slice none 0 0 /\ es = []) ∨
  (∃ b off tg cap k, v = .slice (some ⟨b, off, tg⟩) es.length cap /\ H.get b = some k /\ off + es.length * sz <= k.cells.length /\ (k.cells.drop off).take (es.length * sz) = es.flatten) \/ ∃ b off tg cap, v = .slice (some ⟨b, off, tg⟩) 0 cap /\ es = [])
def Ext (H H' : AH) : Prop := H.next <= H'.next /\ ∀ b k, H.get b = some k -> H'.get b = some k
theorem Ext.refl (H : AH) : Ext H H := ⟨Nat.le_refl _, fun _ _ h => h⟩
theorem Ext.trans {H H1 H2 : AH} (h1 : Ext H H1) (h2 : Ext H1 H2) : Ext H H2 := ⟨Nat.le_trans h1.1 h2.1, fun b k h => h2.2 b k (h1.2 b k h)⟩
theorem Pt.ext {H H' : AH} {v : Value} {cs : List Value} (h : Pt H v cs) (e : Ext H H') : Pt H' v cs := by
 obtain ⟨b, off, k, h1, h2, h3⟩ := h
 exact ⟨b, off, k, h1, e.2 b k h2, h3⟩
theorem Sl.ext {H H' : AH} {sz : Nat} {v : Value} {es : List (List Value)} (h : Sl H sz v es) (e : Ext H H') : Sl H' sz v es := by
 obtain ⟨h0, h | ⟨b, off, tg, cap, k, h1, h2, h3⟩ | h⟩ := h
 ·exact ⟨h0, .inl h⟩
 ·exact ⟨h0, .inr (.inl ⟨b, off, tg, cap, k, h1, e.2 b k h2, h3⟩)⟩
 ·exact ⟨h0, .inr (.inr h)⟩
theorem z6z {H : AH} {b : Nat} {k : ABlk} (h : H.get b = some k) : b < H.next := by
 rw [AH.get_def] at h
 by_cases hb : b < H.next
 ·exact hb
 ·rw [if_neg hb] at h; cases h
theorem get_push_new (H : AH) (x : Option ABlk) : (H.push x).get H.next = x := by
 rw [z49]; simp [upd]
theorem get_push_old {H : AH} {x : Option ABlk} {b : Nat} {k : ABlk} (h : H.get b = some k) : (H.push x).get b = some k := by
 have := z6z h
 rw [z49]
 simp only [upd]
 rw [if_neg (by omega)]
 exact h
theorem Ext.push (H : AH) (x : Option ABlk) : Ext H (H.push x) := ⟨by simp [AH.push], fun _ _ h => get_push_old h⟩
theorem z9h {α : Type} {l : List α} {o n off k : Nat} {cs : List α} (h : (l.drop o).take n = cs) (hk : off + k <= n) : (l.drop (o + off)).take k = (cs.drop off).take k := by
 subst h
 rw [List.drop_take, List.take_take, List.drop_drop]
 congr 1
 omega
theorem Pt.loc {H : AH} {b : Nat} {k : ABlk} (h : H.get b = some k) : Pt H (.pointer (some ⟨b, 0, none⟩)) k.cells := ⟨b, 0, k, rfl, h, by simp, by simp⟩
theorem Pt.sub {H : AH} {v : Value} {cs : List Value} (h : Pt H v cs) (off k : Nat) (hk : Nat.ble (off + k) cs.length = true) : Pt H (padd v off) ((cs.drop off).take k) := by
 replace hk := Nat.le_of_ble_eq_true hk
 obtain ⟨b, o, kk, rfl, h1, h2, h3⟩ := h
 refine ⟨b, o + off, kk, rfl, h1, ?_, ?_⟩
 ·simp; omega
 ·have : ((cs.drop off).take k).length = k := by simp; omega
  rw [this]; exact z9h h3 hk
theorem zau {α : Type} {sz : Nat} : ∀ {es : List (List α)} {i : Nat} {e : List α}, (∀ x ∈ es, x.length = sz) -> es[i]? = some e -> (es.flatten.drop (i * sz)).take sz = e
 | [], _, _, _, h => by simp at h
 | x :: r, 0, e, hl, h => by
  simp at h; subst h
  have := hl x (by simp)
  simp [<- this]
 | x :: r, i + 1, e, hl, h => by
  have h1 := hl x (by simp)
  simp only [List.flatten_cons]
  rw [show (i + 1) * sz = x.length + i * sz by rw [h1, Nat.add_mul, Nat.one_mul, Nat.add_comm], <- List.drop_drop]
  simp only [List.drop_left]
  exact zau (fun y hy => hl y (by simp [hy])) (by simpa using h)
theorem z4u {α : Type} {sz : Nat} : ∀ {es : List (List α)}, (∀ x ∈ es, x.length = sz) -> es.flatten.length = es.length * sz
 | [], _ => by simp
 | x :: r, h => by
  have h1 := h x (by simp)
  have := z4u (es := r) (fun y hy => h y (by simp [hy]))
  simp only [List.flatten_cons, List.length_append, List.length_cons, this, h1, Nat.add_mul, Nat.one_mul]
  omega
theorem Sl.idx {H : AH} {sz : Nat} {v : Value} {es : List (List Value)} (h : Sl H sz v es) {i : Nat} {e : List Value} (he : es[i]? = some e) : Pt H (z4t v (i * sz)) e := by
 have hi : i < es.length := (zAi he).1
 have hel : e.length = sz := h.1 e (List.mem_of_getElem? he)
 obtain ⟨h0, ⟨_, rfl⟩ | ⟨b, off, tg, cap, k, rfl, h2, h3, h4⟩ | ⟨_, _, _, _, _, rfl⟩⟩ := h
 ·simp at hi
 rotate_left
 ·simp at hi
 ·have hb : i * sz + sz <= es.length * sz := by
   have := Nat.mul_le_mul_right sz (show i + 1 <= es.length from hi)
   rw [Nat.add_mul, Nat.one_mul] at this; exact this
  refine ⟨b, off + i * sz, k, rfl, h2, by omega, ?_⟩
  rw [hel, z9h h4 hb]
  exact zau h0 he
theorem Sl.nil (H : AH) (sz : Nat) : Sl H sz (.slice none 0 0) [] := ⟨by simp, .inl ⟨rfl, rfl⟩⟩
def zgp (v : Value) (n : Nat) : Prop := (v = .slice none 0 0 /\ n = 0) \/ ∃ b off tg cap, v = .slice (some ⟨b, off, tg⟩) n cap
theorem Sl.isSl {H : AH} {sz : Nat} {v : Value} {es : List (List Value)} (h : Sl H sz v es) : zgp v es.length := by
 obtain ⟨h0, ⟨rfl, rfl⟩ | ⟨b, off, tg, cap, k, rfl, _⟩ | ⟨b, off, tg, cap, rfl, rfl⟩⟩ := h
 ·exact .inl ⟨rfl, rfl⟩
 ·exact .inr ⟨b, off, tg, cap, rfl⟩
 ·exact .inr ⟨b, off, tg, cap, rfl⟩
section
variable {P : Program} {n : Nat} {σ : Nat -> Value} {H H1 : AH} {ops : Array Oper} {l : List Oper} {Q : (Nat -> Value) -> AH -> Prop} {d : Tmp} {ty t yt e : TypeId} {pos : String} {af : Array Edge} {g : Option (Nat × Bool)} {v u w : Value} {x y c : Operand}
theorem gk {j : Nat} {want b r : Bool} {d : Tmp} (h1 : (ops[j]?).bind (·.dst) = some d) (h2 : Nat.blt d n = true) (h3 : σ d = .bool b) (h4 : (b == want) = r) : gok n ops σ (some (j, want)) r := by
 unfold gok
 simp only [h1]
 exact ⟨z8z.1 h2, b, h3, h4.symm⟩
theorem W.pure {op : Op} (hg : gok n ops σ g true) (hd : Nat.blt d n = true) (h : z2y P (toL n σ) ⟨some d, op, ty, pos, af, g⟩ = some v) (hr : AWO P n ops l (up σ d v) H Q) : AWO P n ops (⟨some d, op, ty, pos, af, g⟩ :: l) σ H Q :=
 .step (z17 hg) hd (zf1 h) hr
theorem W.skip {op : Op} {dd : Option Tmp} (hg : gok n ops σ g false) (hd : dok n dd = true) (hr : AWO P n ops l (upo σ dd undef) H Q) : AWO P n ops (⟨dd, op, ty, pos, af, g⟩ :: l) σ H Q :=
 .skip (z17 hg) hd hr
theorem W.split {b : Bool} {p : Prop} (h1 : b = true -> p) (h2 : b = false -> p) : p := by cases b <;> simp_all
theorem W.move (hg : gok n ops σ g true) (ok : (Nat.blt d n && ook n x) = true) (hx : oval σ x = v) (hr : AWO P n ops l (up σ d v) H Q) : AWO P n ops (⟨some d, .move x, ty, pos, af, g⟩ :: l) σ H Q := by
 simp only [Bool.and_eq_true] at ok
 exact W.pure hg ok.1 (z4d ok.2 hx) hr
theorem W.assign (hg : gok n ops σ g true) (ok : (Nat.blt d n && ook n x) = true) (hx : oval σ x = v) (hr : AWO P n ops l (up σ d v) H Q) : AWO P n ops (⟨some d, .assign x, ty, pos, af, g⟩ :: l) σ H Q := by
 simp only [Bool.and_eq_true] at ok
 exact W.pure hg ok.1 (z4d ok.2 hx) hr
theorem W.int {op : BinOp} {k : IntKind} {a b : Int} (hg : gok n ops σ g true) (ok : (Nat.blt d n && ook n x && ook n y) = true) (hx : oval σ x = .int k a) (hy : oval σ y = .int k b) (hv : aint op k a b = some v)
  (hr : AWO P n ops l (up σ d v) H Q) : AWO P n ops (⟨some d, .binOp op t x y yt, ty, pos, af, g⟩ :: l) σ H Q := by
 simp only [Bool.and_eq_true] at ok
 exact W.pure hg ok.1.1 (by simp [z2y, z4d ok.1.2 hx, z4d ok.2 hy, abin, hv]) hr
theorem z9i {k : IntKind} {a : Int} (h : z38 k a = true) : z0p k a = a := by simp [z0p, h]
theorem z71 {a : Int} (h1 : -9223372036854775808 <= a) (h2 : a <= 9223372036854775807) : z38 .i64 a = true := by
 simp [z38]; omega
theorem W.add {a b : Int} (hg : gok n ops σ g true) (ok : (Nat.blt d n && ook n x && ook n y) = true) (hx : oval σ x = .int .i64 a) (hy : oval σ y = .int .i64 b) (h1 : -9223372036854775808 <= a + b) (h2 : a + b <= 9223372036854775807)
  (hr : AWO P n ops l (up σ d (.int .i64 (a + b))) H Q) : AWO P n ops (⟨some d, .binOp .add t x y yt, ty, pos, af, g⟩ :: l) σ H Q :=
 W.int hg ok hx hy (by simp [aint, z9i (z71 h1 h2)]) hr
theorem W.sub {a b : Int} (hg : gok n ops σ g true) (ok : (Nat.blt d n && ook n x && ook n y) = true) (hx : oval σ x = .int .i64 a) (hy : oval σ y = .int .i64 b) (h1 : -9223372036854775808 <= a - b) (h2 : a - b <= 9223372036854775807)
  (hr : AWO P n ops l (up σ d (.int .i64 (a - b))) H Q) : AWO P n ops (⟨some d, .binOp .sub t x y yt, ty, pos, af, g⟩ :: l) σ H Q :=
 W.int hg ok hx hy (by simp [aint, z9i (z71 h1 h2)]) hr
theorem W.mul {a b : Int} (hg : gok n ops σ g true) (ok : (Nat.blt d n && ook n x && ook n y) = true) (hx : oval σ x = .int .i64 a) (hy : oval σ y = .int .i64 b) (h1 : -9223372036854775808 <= a * b) (h2 : a * b <= 9223372036854775807)
  (hr : AWO P n ops l (up σ d (.int .i64 (a * b))) H Q) : AWO P n ops (⟨some d, .binOp .mul t x y yt, ty, pos, af, g⟩ :: l) σ H Q :=
 W.int hg ok hx hy (by simp [aint, z9i (z71 h1 h2)]) hr
end
end
end Go.Am
/- Rules for operations on closed values (texts, truth values, lengths) and for reading, making and writing. -/
namespace Go.Am
open Go
noncomputable section
theorem z18 {α β : Type} {P : Program} (e : Sem α) (k : α -> Sem β) : (e >>= k).pureRun P = (e.pureRun P).bind (fun a => (k a).pureRun P) := by
 show (e.bind k).pureRun P = _
 induction e with
 | pure a => rfl
 | program f ih => simp only [Sem.bind, Sem.pureRun]; exact ih P
 | mark m f ih => simp only [Sem.bind, Sem.pureRun]; exact ih
 | _ => rfl
theorem z3f {α β : Type} {P : Program} (f : α -> β) (e : Sem α) : (f <$> e).pureRun P = (e.pureRun P).map f := by
 show (e >>= fun a => pure (f a)).pureRun P = _
 rw [z18]
 cases e.pureRun P <;> rfl
theorem z32 {α : Type} {P : Program} (a : α) : (pure a : Sem α).pureRun P = some a := rfl
theorem z2z {P : Program} {t : TypeId} {d : TypeDesc} (h : P.underlying t = some d) : (underlying t : Sem TypeDesc).pureRun P = some d := by
 unfold underlying
 rw [z18]
 show Option.bind (some P) _ = _
 simp only [Option.bind_some, h]
 rfl
section
variable {P : Program} {n : Nat} {σ : Nat -> Value} {H H1 : AH} {ops : Array Oper} {l : List Oper} {Q : (Nat -> Value) -> AH -> Prop} {d : Tmp} {ty t yt e : TypeId} {pos : String} {af : Array Edge} {g : Option (Nat × Bool)} {v u w : Value} {x y c : Operand} {s : List Value}
theorem zhz (hx : opnd s x = some (.slice none 0 0)) (ht : P.underlying t = some (.slice e)) : z2y P s ⟨some d, .call ⟨.builtin .len, #[x], #[t]⟩, ty, pos, af, g⟩ = some (.int .i64 0) := by
 have hc : closed (.slice none 0 0) = true := rfl
 have hi : ∀ i, closed (.int .i64 i) = true := fun _ => rfl
 simp [z2y, hx, agen, zcp, Op.operands, Call.operands, hc, execOp, resolve, invoke, builtin, Builtin.len_, z18, z3f, z32, z2z ht, goInt, hi]
theorem z91 {a : zAd} (hx : opnd s x = some (.string a)) (ht : P.underlying t = some .string) : z2y P s ⟨some d, .call ⟨.builtin .len, #[x], #[t]⟩, ty, pos, af, g⟩ = some (.int .i64 a.size) := by
 have hc : ∀ b, closed (.string b) = true := fun _ => rfl
 have hi : ∀ i, closed (.int .i64 i) = true := fun _ => rfl
 simp [z2y, hx, agen, zcp, Op.operands, Call.operands, hc, execOp, resolve, invoke, builtin, Builtin.len_, z18, z3f, z32, z2z ht, goInt, hi]
theorem z25 {es : Nat} (hx : opnd s x = some v) (hs : zgp v es) (ht : P.underlying t = some (.slice e)) : z2y P s ⟨some d, .call ⟨.builtin .len, #[x], #[t]⟩, ty, pos, af, g⟩ = some (.int .i64 es) := by
 rcases hs with ⟨rfl, rfl⟩ | ⟨b, off, tg, cap, rfl⟩
 ·exact zhz hx ht
 ·simp [z2y, hx, aLen, ht]
theorem zgq {op : BinOp} {a b : zAd} (hx : opnd s x = some (.string a)) (hy : opnd s y = some (.string b)) (h : (Op.stringOp op a b).pureRun P = some v) (hv : closed v = true) : z2y P s ⟨some d, .binOp op t x y yt, ty, pos, af, g⟩ = some v := by
 have hc : ∀ b, closed (.string b) = true := fun _ => rfl
 have he : (eqGuard op t x y (.string a) (.string b)).pureRun P = some () := by
  unfold eqGuard
  cases op <;> rfl
 have hb : binOp op t (.string a) (.string b) = Op.stringOp op a b := by cases op <;> rfl
 simp [z2y, abin, hx, hy, agen, zcp, Op.operands, hc, execOp, z18, z3f, z32, he, hb, h, hv]
theorem z1g {a : Bool} (hx : opnd s x = some (.bool a)) : z2y P s ⟨some d, .unOp .not t x, ty, pos, af, g⟩ = some (.bool !a) := by
 have hc : ∀ b, closed (.bool b) = true := fun _ => rfl
 have hq : (Op.unary .not (.bool a)).pureRun P = some (.bool !a) := rfl
 simp [z2y, hx, agen, zcp, Op.operands, hc, execOp, z18, z3f, z32, hq]
end
end
end Go.Am
/- Rules for addresses, reading, making, writing and calls. -/
namespace Go.Am
open Go
noncomputable section
def szT (P : Program) (t : TypeId) : Option Nat := (P.info? t).map (·.size)
def fldT (P : Program) (st : TypeId) (f : Nat) : Option Nat :=
 match P.underlying st with
 | some (.struct fs) => (fs[f]?).bind fun fld => (P.info? fld.type).bind fun i => if i.size = 0 then none else some fld.offset
 | _ => none
def z7m (P : Program) (t : TypeId) : Option TypeId := match P.underlying t with | some (.slice e) => some e | _ => none
theorem z04 {P : Program} {t e : TypeId} (h : z7m P t = some e) : P.underlying t = some (.slice e) := by
 unfold z7m at h; split at h
 ·rename_i hu; cases h; exact hu
 ·cases h
theorem z4z {P : Program} {t : TypeId} {n : Nat} (h : szT P t = some n) : ∃ i, P.info? t = some i /\ i.size = n := by
 obtain ⟨i, hi, h⟩ := Option.map_eq_some_iff.1 h
 exact ⟨i, hi, h⟩
section
variable {P : Program} {n : Nat} {σ : Nat -> Value} {H H1 : AH} {ops : Array Oper} {l : List Oper} {Q : (Nat -> Value) -> AH -> Prop} {d : Tmp} {ty t yt e : TypeId} {pos : String} {af : Array Edge} {g : Option (Nat × Bool)} {v u w : Value} {x y c : Operand} {s : List Value} {cs : List Value} {es : List (List Value)}
theorem oo (h : ook n x = true) (hv : oval σ x = v) : opnd (toL n σ) x = some v := z4d h hv
theorem z5d {N sz : Nat} {k : IntKind} {i : Int} (he : z7m P t = some e) (hz : szT P e = some sz) (hx : opnd s x = some v) (hy : opnd s y = some (.int k i)) (hs : zgp v N) (h0 : 0 <= i) (h1 : i.toNat < N) :
  z2y P s ⟨some d, .indexAddr t x y, ty, pos, af, g⟩ = some (z4t v (i.toNat * sz)) := by
 obtain ⟨inf, hi, rfl⟩ := z4z hz
 rcases hs with ⟨rfl, rfl⟩ | ⟨b, off, tg, cap, rfl⟩
 ·omega
 ·have h2 : i < N := by omega
  simp [z2y, hx, hy, z6x, z04 he, hi, h0, h2, z4t]
theorem zbg {r : List Value} (ha : z30 P t = some false) (hx : opnd s x = some u) (hp : Pt H u (v :: r)) : z5t P s ⟨some d, .load t x, ty, pos, af, g⟩ H.get = some v := by
 obtain ⟨b, off, k, rfl, h2, h3, h4⟩ := hp
 have : k.cells[off]? = some v := by
  have := congrArg (·[0]?) h4
  simp at this
  simpa using this
 simp [z5t, hx, zeq, h2, ha, this]
theorem zbh {N : Nat} (ha : z30 P t = some true) (hz : szT P t = some N) (hx : opnd s x = some u) (hp : Pt H u cs) (hN : cs.length = N) : z5t P s ⟨some d, .load t x, ty, pos, af, g⟩ H.get = some (.agg cs.toArray) := by
 obtain ⟨inf, hi, rfl⟩ := z4z hz
 obtain ⟨b, off, k, rfl, h2, h3, h4⟩ := hp
 rw [hN] at h3 h4
 simp [z5t, hx, zeq, h2, ha, hi, h3, h4]
theorem W.read {op : Op} (hg : gok n ops σ g true) (hd : Nat.blt d n = true) (h0 : z2y P (toL n σ) ⟨some d, op, ty, pos, af, g⟩ = none) (h : z5t P (toL n σ) ⟨some d, op, ty, pos, af, g⟩ H.get = some v) (hr : AWO P n ops l (up σ d v) H Q) :
  AWO P n ops (⟨some d, op, ty, pos, af, g⟩ :: l) σ H Q := .step (z17 hg) hd (zf2 h0 h) hr
theorem W.load1 {r : List Value} (hg : gok n ops σ g true) (hd : (Nat.blt d n && ook n x) = true) (ha : z30 P t = some false) (hp : Pt H (oval σ x) (v :: r)) (hr : AWO P n ops l (up σ d v) H Q) :
  AWO P n ops (⟨some d, .load t x, ty, pos, af, g⟩ :: l) σ H Q := by
 simp only [Bool.and_eq_true] at hd
 exact W.read hg hd.1 rfl (zbg ha (z2s hd.2) hp) hr
theorem W.loadA {N : Nat} (hg : gok n ops σ g true) (hd : (Nat.blt d n && ook n x) = true) (ha : z30 P t = some true) (hz : szT P t = some N) (hp : Pt H (oval σ x) cs) (hN : cs.length = N) (hr : AWO P n ops l (up σ d (.agg cs.toArray)) H Q) :
  AWO P n ops (⟨some d, .load t x, ty, pos, af, g⟩ :: l) σ H Q := by
 simp only [Bool.and_eq_true] at hd
 exact W.read hg hd.1 rfl (zbh ha hz (z2s hd.2) hp hN) hr
structure NewB (H H1 : AH) (b : Nat) (k : ABlk) : Prop where
 ext : Ext H H1
 get : H1.get b = some k
 fresh : H.next <= b
 next : b < H1.next
theorem NewB.push (H : AH) (k : ABlk) : NewB H (H.push (some k)) H.next k := ⟨.push H _, get_push_new H _, Nat.le_refl _, by simp [AH.push]⟩
theorem W.alloc {z : Value} (hg : gok n ops σ g true) (hd : Nat.blt d n = true) (hz : (P.info? e).bind (·.zero) = some z) (hs : z.cells.all z1m = true)
  (hr : ∀ b H1, NewB H H1 b ⟨z.cells.toList, e, 1, true⟩ -> AWO P n ops l (up σ d (.pointer (some ⟨b, 0, none⟩))) H1 Q) : AWO P n ops (⟨some d, .alloc e, ty, pos, af, g⟩ :: l) σ H Q :=
 .step (z17 hg) hd (zdc hz hs) (hr _ _ (.push H _))
theorem W.box (hg : gok n ops σ g true) (hd : (Nat.blt d n && ook n x) = true) (hx : oval σ x = v)
  (hr : ∀ b H1, NewB H H1 b ⟨v.cells.toList, e, 1, true⟩ -> AWO P n ops l (up σ d (.pointer (some ⟨b, 0, none⟩))) H1 Q) : AWO P n ops (⟨some d, .box e x, ty, pos, af, g⟩ :: l) σ H Q := by
 simp only [Bool.and_eq_true] at hd
 refine .step (z17 hg) hd.1 (z3m (v := .pointer (some ⟨H.next, 0, none⟩)) (H' := H.push (some ⟨v.cells.toList, e, 1, true⟩)) ?_) (hr _ _ (.push H _))
 simp [z9w, z2y, z5t, z3t, oo hd.2 hx, MK.val]
structure SetB (H H1 : AH) (b : Nat) (k : ABlk) : Prop where
 get : H1.get b = some k
 other : ∀ b', b' ≠ b -> H1.get b' = H.get b'
 next : H1.next = H.next
theorem SetB.old {b b' : Nat} {k k' : ABlk} (h : SetB H H1 b k) (h' : H.get b' = some k') (hn : b' ≠ b) : H1.get b' = some k' := (h.other b' hn).trans h'
theorem SetB.ext {H0 : AH} {b : Nat} {k : ABlk} (h : SetB H H1 b k) (h0 : Ext H0 H) (hb : H0.next <= b) : Ext H0 H1 :=
 ⟨by rw [h.next]; exact h0.1, fun b' k' hk => h.old (h0.2 _ _ hk) (by have := z6z hk; omega)⟩
theorem SetB.set {b : Nat} {k k' : ABlk} (h : H.get b = some k) : SetB H (H.set b (some k')) b k' := by
 have hl := z6z h
 refine ⟨?_, fun b' hb => ?_, rfl⟩
 ·rw [z2u _ _ h]; simp [upd]
 ·rw [z2u _ _ h]; simp [upd, hb]
theorem z9j {b off : Nat} {k : ABlk} {vs : List Value} (h : H.get b = some k) (ho : k.own = true) (hk : okCells vs = true) (hl : off + vs.length <= k.cells.length) :
  ∃ H1, z4j H b off vs = some H1 /\ SetB H H1 b { k with cells := z2v k.cells off vs } := by
 refine ⟨H.set b (some { k with cells := z2v k.cells off vs }), ?_, .set h⟩
 simp [z4j, h, ho, hk, hl]
theorem W.store {t : TypeId} {b off N : Nat} {k : ABlk} {dd : Option Tmp} (hg : gok n ops σ g true) (hd : (dok n dd && ook n x && ook n y) = true) (hz : szT P t = some N) (hx : oval σ x = .pointer (some ⟨b, off, none⟩)) (hy : oval σ y = v) (hb : H.get b = some k)
  (ho : k.own = true) (hs : v.cells.size = N) (hok : okCells v.cells.toList = true) (hl : Nat.ble (off + N) k.cells.length = true)
  (hr : ∀ H1, SetB H H1 b { k with cells := z2v k.cells off v.cells.toList } -> AWO P n ops l (upo σ dd undef) H1 Q) : AWO P n ops (⟨dd, .store t x y, ty, pos, af, g⟩ :: l) σ H Q := by
 simp only [Bool.and_eq_true] at hd
 obtain ⟨inf, hi, rfl⟩ := z4z hz
 obtain ⟨H1, h1, h2⟩ := z9j (vs := v.cells.toList) hb ho hok (by have := Nat.le_of_ble_eq_true hl; simpa [hs] using this)
 refine .step (z17 hg) hd.1.1 (z3m (v := undef) (H' := H1) ?_) (hr _ h2)
 simp [z9w, z2y, z5t, z3t, z8d, oo hd.1.2 hx, oo hd.2 hy, hi, hs, h1]
theorem W.call {f : FuncId} {args : Array Operand} {ats : Array TypeId} {al : List Value} {fn : Func} (hg : gok n ops σ g true) (hd : (Nat.blt d n && args.toList.all (ook n)) = true) (hf : P.funcs[f]? = some fn) (hnm : (fn.name == "runtime.NumGoroutine" || fn.body.isNone) = false)
  (ha : args.toList.map (oval σ) = al) (hc : ACalls P f al H v H1) (hr : AWO P n ops l (up σ d v) H1 Q) : AWO P n ops (⟨some d, .call ⟨.value (.func f), args, ats⟩, ty, pos, af, g⟩ :: l) σ H Q := by
 simp only [Bool.and_eq_true] at hd
 refine .step (z17 hg) hd.1 (z8f (f := f) (args := al) ?_ hc) hr
 simp [z8e, opnd, hf, hnm, z5x hd.2, ha]
theorem W.splitAt {b : Bool} {t : Nat} (h : σ t = .bool b) (h1 : b = true -> σ t = .bool true -> AWO P n ops l σ H Q) (h2 : b = false -> σ t = .bool false -> AWO P n ops l σ H Q) : AWO P n ops l σ H Q := by
 cases b with
 | true => exact h1 rfl h
 | false => exact h2 rfl h
end
end
end Go.Am
/- Regions whose order is open, for proofs with variables: one run in the text's order, with what it reads and what changes the heap. -/
namespace Go.Am
open Go
noncomputable section
abbrev z73 := List (Nat × AH × AH)
abbrev z6o := List (Nat × Nat)
inductive DOps (P : Program) (ops : Array Oper) (M : List Nat) : List Oper -> Nat -> z6o -> z73 -> List Value -> AH -> List Ent -> List Value -> AH -> Prop
 | nil {i : Nat} {R : z6o} {L : z73} {s : List Value} {H : AH} : DOps P ops M [] i R L s H [] s H
 | skip {o : Oper} {l : List Oper} {i : Nat} {R : z6o} {L : z73} {s s' : List Value} {H H' : AH} {es : List Ent} : Region.wanted o (z39 ops s) = false ->
   DOps P ops M l (i + 1) R L (putd s o.dst undef) H es s' H' -> DOps P ops M (o :: l) i R L s H (⟨s, H, undef, .skip, none⟩ :: es) s' H'
 | pure {o : Oper} {l : List Oper} {i : Nat} {R : z6o} {L : z73} {s s' : List Value} {H H' : AH} {es : List Ent} {v : Value} : Region.wanted o (z39 ops s) = true -> z2y P s o = some v ->
   DOps P ops M l (i + 1) R L (putd s o.dst v) H es s' H' -> DOps P ops M (o :: l) i R L s H (⟨s, H, v, .pure, none⟩ :: es) s' H'
 | read {o : Oper} {l : List Oper} {i b : Nat} {R : z6o} {L : z73} {s s' : List Value} {H H' : AH} {es : List Ent} {v : Value} : Region.wanted o (z39 ops s) = true -> z5t P s o H.get = some v ->
   z45 s o = some b -> (∀ q ∈ L, (M.getD i 0).testBit q.1 = true \/ q.2.2.get b = q.2.1.get b) ->
   DOps P ops M l (i + 1) ((i, b) :: R) L (putd s o.dst v) H es s' H' -> DOps P ops M (o :: l) i R L s H (⟨s, H, v, .read, some b⟩ :: es) s' H'
 | loud {o : Oper} {l : List Oper} {i : Nat} {R : z6o} {L : z73} {s s' : List Value} {H H1 H' : AH} {es : List Ent} {v : Value} : Region.wanted o (z39 ops s) = true -> StepOk P o s H v H1 ->
   (∀ r ∈ R, (M.getD i 0).testBit r.1 = true \/ H1.get r.2 = H.get r.2) -> (∀ q ∈ L, (M.getD i 0).testBit q.1 = true) ->
   DOps P ops M l (i + 1) R ((i, H, H1) :: L) (putd s o.dst v) H1 es s' H' -> DOps P ops M (o :: l) i R L s H (⟨s, H, v, .loud, none⟩ :: es) s' H'
structure DSpec (P : Program) (ops : Array Oper) (M : List Nat) (N0 : Nat) (l : List Oper) (i : Nat) (R : z6o) (L : z73) (s : List Value) (H : AH) (es : List Ent) (s' : List Value) (H' : AH) : Prop where
 len : es.length = l.length
 s0 : seqS es s' 0 = s
 h0 : seqH es H' 0 = H
 each : ∀ k o, l[k]? = some o -> ∃ rb, (∃ e, es[k]? = some e /\ e.rb = rb) /\ zar P ops N0 (i + k) (seqS es s' k) o (seqH es H' k) (seqV es k) (seqH es H' (k + 1)) (seqK es k) /\ (seqK es k = .read -> rb = z45 (seqS es s' k) o) /\ seqS es s' (k + 1) = putd (seqS es s' k) o.dst (seqV es k)
 noal : ∀ k b, seqK es k ≠ .alloc b
 rl : ∀ k, k < l.length -> seqK es k = .loud -> ∀ r ∈ R, (M.getD (i + k) 0).testBit r.1 = true \/ (seqH es H' (k + 1)).get r.2 = (seqH es H' k).get r.2
 ll : ∀ k, k < l.length -> seqK es k = .loud -> ∀ q ∈ L, (M.getD (i + k) 0).testBit q.1 = true
 lr : ∀ k e b, es[k]? = some e -> e.rb = some b -> ∀ q ∈ L, (M.getD (i + k) 0).testBit q.1 = true \/ q.2.2.get b = q.2.1.get b
 ll2 : ∀ j k, j < k -> k < l.length -> seqK es j = .loud -> seqK es k = .loud -> (M.getD (i + k) 0).testBit (i + j) = true
 rl2 : ∀ j k e b, j < k -> k < l.length -> es[j]? = some e -> e.rb = some b -> seqK es k = .loud -> (M.getD (i + k) 0).testBit (i + j) = true \/ (seqH es H' (k + 1)).get b = (seqH es H' k).get b
 lr2 : ∀ j k e b, j < k -> es[k]? = some e -> e.rb = some b -> seqK es j = .loud -> (M.getD (i + k) 0).testBit (i + j) = true \/ (seqH es H' (j + 1)).get b = (seqH es H' j).get b
section
variable {P : Program} {ops : Array Oper} {M : List Nat} {N0 : Nat}
theorem zf3 (e : Ent) (es : List Ent) (s' : List Value) (k : Nat) : seqS (e :: es) s' (k + 1) = seqS es s' k := by simp [seqS]
theorem zf4 (e : Ent) (es : List Ent) (H' : AH) (k : Nat) : seqH (e :: es) H' (k + 1) = seqH es H' k := by simp [seqH]
theorem zf5 (e : Ent) (es : List Ent) (k : Nat) : seqV (e :: es) (k + 1) = seqV es k := by simp [seqV]
theorem zf6 (e : Ent) (es : List Ent) (k : Nat) : seqK (e :: es) (k + 1) = seqK es k := by simp [seqK]
theorem DSpec.cons {o : Oper} {l : List Oper} {i : Nat} {R R1 : z6o} {L L1 : z73} {s s1 s' : List Value} {H H1 H' : AH} {es : List Ent} {v : Value} {kd : Kd} {rb : Option Nat}
  (h : DSpec P ops M N0 l (i + 1) R1 L1 s1 H1 es s' H') (hs1 : s1 = putd s o.dst v) (hk : zar P ops N0 i s o H v H1 kd) (hrd : kd = .read -> rb = z45 s o) (hal : ∀ b, kd ≠ .alloc b)
  (hR : ∀ r ∈ R, r ∈ R1) (hL : ∀ q ∈ L, q ∈ L1) (hRn : ∀ b, rb = some b -> (i, b) ∈ R1) (hLn : kd = .loud -> (i, H, H1) ∈ L1)
  (c1 : kd = .loud -> ∀ r ∈ R, (M.getD i 0).testBit r.1 = true \/ H1.get r.2 = H.get r.2) (c2 : kd = .loud -> ∀ q ∈ L, (M.getD i 0).testBit q.1 = true)
  (c3 : ∀ b, rb = some b -> ∀ q ∈ L, (M.getD i 0).testBit q.1 = true \/ q.2.2.get b = q.2.1.get b) :
  DSpec P ops M N0 (o :: l) i R L s H (⟨s, H, v, kd, rb⟩ :: es) s' H' := by
 have e1 : ∀ k, seqS (⟨s, H, v, kd, rb⟩ :: es) s' (k + 1) = seqS es s' k := zf3 _ _ _
 have e2 : ∀ k, seqH (⟨s, H, v, kd, rb⟩ :: es) H' (k + 1) = seqH es H' k := zf4 _ _ _
 have e3 : ∀ k, seqV (⟨s, H, v, kd, rb⟩ :: es) (k + 1) = seqV es k := zf5 _ _
 have e4 : ∀ k, seqK (⟨s, H, v, kd, rb⟩ :: es) (k + 1) = seqK es k := zf6 _ _
 have z1 : seqS (⟨s, H, v, kd, rb⟩ :: es) s' 0 = s := rfl
 have z2 : seqH (⟨s, H, v, kd, rb⟩ :: es) H' 0 = H := rfl
 have z3 : seqV (⟨s, H, v, kd, rb⟩ :: es) 0 = v := rfl
 have z4 : seqK (⟨s, H, v, kd, rb⟩ :: es) 0 = kd := rfl
 have ad : ∀ k, i + (k + 1) = i + 1 + k := fun k => by omega
 refine ⟨by simp [h.len], rfl, rfl, ?_, ?_, ?_, ?_, ?_, ?_, ?_, ?_⟩
 ·intro k oj hj
  cases k with
  | zero =>
   simp at hj; subst hj
   refine ⟨rb, ⟨_, rfl, rfl⟩, ?_, ?_, ?_⟩
   ·rw [z1, z2, z3, z4, e2, h.h0]; exact hk
   ·rw [z4, z1]; exact hrd
   ·rw [e1, h.s0, z1, z3, hs1]
  | succ k =>
   obtain ⟨rb', ⟨e, he, hrb⟩, g1, g2, g3⟩ := h.each k oj (by simpa using hj)
   refine ⟨rb', ⟨e, by simpa using he, hrb⟩, ?_, ?_, ?_⟩
   ·rw [e1, e2, e2, e3, e4, ad]; exact g1
   ·rw [e4, e1]; exact g2
   ·rw [e1, e1, e3]; exact g3
 ·intro k b
  cases k with
  | zero => rw [z4]; exact hal b
  | succ k => rw [e4]; exact h.noal k b
 ·intro k hk' hkd r hr
  cases k with
  | zero => rw [e2, z2, h.h0]; rw [z4] at hkd; exact c1 hkd r hr
  | succ k => rw [e2, e2, ad]; rw [e4] at hkd; exact h.rl k (by simpa using hk') hkd r (hR r hr)
 ·intro k hk' hkd q hq
  cases k with
  | zero => rw [z4] at hkd; exact c2 hkd q hq
  | succ k => rw [ad]; rw [e4] at hkd; exact h.ll k (by simpa using hk') hkd q (hL q hq)
 ·intro k e b he hb q hq
  cases k with
  | zero => simp at he; subst he; exact c3 b hb q hq
  | succ k => rw [ad]; exact h.lr k e b (by simpa using he) hb q (hL q hq)
 ·intro j k hjk hk' hj hkd
  cases k with
  | zero => omega
  | succ k =>
   rw [e4] at hkd
   cases j with
   | zero => rw [z4] at hj; rw [ad]; exact h.ll k (by simpa using hk') hkd _ (hLn hj)
   | succ j => rw [e4] at hj; rw [ad k, ad j]; exact h.ll2 j k (by omega) (by simpa using hk') hj hkd
 ·intro j k e b hjk hk' he hb hkd
  cases k with
  | zero => omega
  | succ k =>
   rw [e4] at hkd
   cases j with
   | zero => simp at he; subst he; rw [e2, e2, ad]; exact h.rl k (by simpa using hk') hkd _ (hRn b hb)
   | succ j => rw [e2, e2, ad k, ad j]; exact h.rl2 j k e b (by omega) (by simpa using hk') (by simpa using he) hb hkd
 ·intro j k e b hjk he hb hj
  cases k with
  | zero => omega
  | succ k =>
   cases j with
   | zero => rw [z4] at hj; rw [e2, z2, h.h0, ad]; exact h.lr k e b (by simpa using he) hb _ (hLn hj)
   | succ j => rw [e4] at hj; rw [e2, e2, ad k, ad j]; exact h.lr2 j k e b (by omega) (by simpa using he) hb hj
theorem DOps.spec {l : List Oper} {i : Nat} {R : z6o} {L : z73} {s s' : List Value} {H H' : AH} {es : List Ent} (h : DOps P ops M l i R L s H es s' H') : DSpec P ops M N0 l i R L s H es s' H' := by
 induction h with
 | nil =>
  refine ⟨rfl, rfl, rfl, fun k o ho => by simp at ho, fun k b => by simp [seqK], fun k hk => by simp at hk, fun k hk => by simp at hk, fun k e b he => by simp at he, fun j k _ hk => by simp at hk, fun j k e b _ hk => by simp at hk, fun j k e b _ he => by simp at he⟩
 | skip hw _ ih => exact ih.cons rfl ⟨hw, rfl, rfl⟩ (fun h => by cases h) (fun b h => by cases h) (fun _ h => h) (fun _ h => h) (fun b h => by cases h) (fun h => by cases h) (fun h => by cases h) (fun h => by cases h) (fun b h => by cases h)
 | pure hw hv _ ih => exact ih.cons rfl ⟨hw, hv, rfl⟩ (fun h => by cases h) (fun b h => by cases h) (fun _ h => h) (fun _ h => h) (fun b h => by cases h) (fun h => by cases h) (fun h => by cases h) (fun h => by cases h) (fun b h => by cases h)
 | read hw hv hb hc _ ih =>
  exact ih.cons rfl ⟨hw, hv, rfl⟩ (fun _ => hb.symm) (fun b h => by cases h) (fun _ h => List.mem_cons_of_mem _ h) (fun _ h => h) (fun b h => by cases h; exact List.mem_cons_self) (fun h => by cases h) (fun h => by cases h) (fun h => by cases h) (fun b h => by cases h; exact hc)
 | loud hw hst hc1 hc2 _ ih =>
  exact ih.cons rfl ⟨hw, hst⟩ (fun h => by cases h) (fun b h => by cases h) (fun _ h => h) (fun _ h => List.mem_cons_of_mem _ h) (fun b h => by cases h) (fun _ => List.mem_cons_self) (fun _ => hc1) (fun _ => hc2) (fun b h => by cases h)
theorem ARun.drawR {id : Nat} {s s' : List Value} {H H' : AH} {es : List Ent} (hmix : P.follows .mixedOrders = true) (hM : ancs ops.toList [] = M) (hord : za4 ops M = true) (h : DOps P ops M ops.toList 0 [] [] s (reserve H ops.size) es s' H') :
  ARun P (.region id ops true) s H .normal s' H' := by
 have S := h.spec (N0 := H.next)
 have hlen : es.length = ops.size := by simpa using S.len
 have hfin : seqS es s' ops.size = s' /\ seqH es H' ops.size = H' := by
  unfold seqS seqH
  rw [List.getElem?_eq_none (by omega)]
  exact ⟨rfl, rfl⟩
 subst hM
 have hord' : ∀ j oj, ops[j]? = some oj -> (∀ e ∈ oj.after, Region.binds .any e = true -> e.on < j) /\ ∀ i oi, i < j -> ops[i]? = some oi -> ((ancs ops.toList []).getD j 0).testBit i = true ∨
   ((∀ d, oi.dst = some d -> d ∉ oj.looksAt ops /\ oj.dst ≠ some d) /\ ∀ d, oj.dst = some d -> d ∉ oi.looksAt ops) := fun j oj hj => by
  have hjl := lt_of_get hj
  have h1 := z6d hord j hjl
  simp only [hj, Bool.and_eq_true] at h1
  refine ⟨fun e he hb => ?_, fun i oi hij hi => ?_⟩
  ·have := List.all_eq_true.1 h1.1 e (by simpa using he)
   simp [hb] at this
   exact this
  ·have h2 := z6d h1.2 i hij
   simp only [hi, Bool.or_eq_true, Bool.and_eq_true, Bool.not_eq_true'] at h2
   refine h2.imp (fun h => h) fun ⟨g1, g2⟩ => ⟨fun d hd => ?_, fun d hd => ?_⟩
   ·simp only [hd, Bool.or_eq_false_iff] at g1
    exact ⟨fun hm => by have := g1.1; simp at this; exact this hm, fun e => by have := g1.2; simp [e] at this⟩
   ·simp only [hd] at g2
    exact fun hm => by simp at g2; exact g2 hm
 have hE := fun i o (ho : ops[i]? = some o) => S.each i o (by simpa using ho)
 have D : DrawOk P ops s H ⟨seqS es s', seqH es H', seqV es, seqK es⟩ (fun i j => ((ancs ops.toList []).getD i 0).testBit j) := by
  refine ⟨S.s0, fun b => ?_, ?_, fun i o ho => ?_, fun i o ho => ?_, fun i k blk _ _ hk => absurd hk (S.noal k blk), ?_, fun i o ho => (hord' i o ho).1, ?_, ?_, ?_, ?_, fun k p blk _ _ hk => absurd hk (S.noal k blk)⟩
  ·show (seqH es H' 0).get b = _
   rw [S.h0, z3x]
  ·show (seqH es H' 0).next = _
   rw [S.h0, z3b]
  ·obtain ⟨rb, _, _, _, h4⟩ := hE i o ho; exact h4
  ·obtain ⟨rb, _, h3, _, _⟩ := hE i o ho
   rw [Nat.zero_add] at h3
   exact h3
  ·intro i j o ho hB
   have := z81 ops.toList [] [] rfl (fun i j o ho => by simp at ho) i j o (by simpa using ho) hB
   obtain ⟨e, he, h⟩ := this
   exact ⟨e, by simpa using he, h⟩
  ·intro i j oi oj d hij hi hj hd hor
   rcases (hord' j oj hj).2 i oi hij hi with h | ⟨h, _⟩
   ·exact h
   ·rcases hor with h' | h'
    ·exact absurd h' (h d hd).1
    ·exact absurd h' (h d hd).2
  ·intro i j oi oj d hij hi hj hd hm
   rcases (hord' j oj hj).2 i oi hij hi with h | ⟨_, h⟩
   ·exact h
   ·exact absurd hm (h d hd)
  ·intro i j hij hj hki hkj
   have := S.ll2 i j hij (by simpa using hj) hki hkj
   simpa using this
  ·intro i p o b ho hp hki hb hkp
   obtain ⟨rb, ⟨e, he1, he2⟩, h3, h4, _⟩ := hE i o ho
   have hrb : rb = some b := (h4 hki).trans hb
   rcases Nat.lt_trichotomy i p with hip | rfl | hip
   ·have := S.rl2 i p e b hip (by simpa using hp) he1 (by rw [he2, hrb]) hkp
    rw [Nat.zero_add, Nat.zero_add] at this
    exact .inr this
   ·have h1 : seqK es i = .loud := hkp
    have h2 : seqK es i = .read := hki
    rw [h1] at h2; cases h2
   ·have := S.lr2 p i e b hip he1 (by rw [he2, hrb]) hkp
    rw [Nat.zero_add, Nat.zero_add] at this
    rcases this with h | h
    ·exact .inl h
    ·exact .inr (.inr h)
 have := ARun.draw D (id := id) hmix
 simp only [hfin.1, hfin.2] at this
 exact this
end
end
end Go.Am
/- Rules for regions whose order is open, for slices that are made and grown, and for calls of function values. -/
namespace Go.Am
open Go
noncomputable section
def z7j : Value -> Nat
 | .pointer (some a) => a.block
 | .slice (some a) _ _ => a.block
 | _ => 0
theorem Pt.blk {H : AH} {v : Value} {cs : List Value} (h : Pt H v cs) : (H.get (z7j v)).isSome = true := by
 obtain ⟨b, off, k, rfl, h1, _⟩ := h
 simp [z7j, h1]
theorem Ext.same {H H1 : AH} {b : Nat} (h : Ext H H1) (hb : (H.get b).isSome = true) : H1.get b = H.get b := by
 obtain ⟨k, hk⟩ := Option.isSome_iff_exists.1 hb
 rw [hk]; exact h.2 _ _ hk
def RS (H : AH) (R : z6o) : Prop := ∀ r ∈ R, (H.get r.2).isSome = true
theorem RS.nil {H : AH} : RS H [] := fun r hr => by cases hr
theorem RS.cons {H : AH} {R : z6o} {i b : Nat} (h : RS H R) (hb : (H.get b).isSome = true) : RS H ((i, b) :: R) := fun r hr => by
 rcases List.mem_cons.1 hr with rfl | hr
 ·exact hb
 ·exact h r hr
theorem RS.ext {H H1 : AH} {R : z6o} (h : RS H R) (e : Ext H H1) : RS H1 R := fun r hr => by rw [e.same (h r hr)]; exact h r hr
theorem RS.set {H H1 : AH} {R : z6o} {b : Nat} {k : ABlk} (h : RS H R) (e : SetB H H1 b k) : RS H1 R := fun r hr => by
 by_cases hb : r.2 = b
 ·rw [hb, e.get]; rfl
 ·rw [e.other _ hb]; exact h r hr
theorem z0t {α : Type} {p : α -> Prop} : ∀ x ∈ ([] : List α), p x := fun x hx => by cases hx
theorem zbi {α : Type} {p : α -> Prop} {a : α} {l : List α} (h : p a) (hl : ∀ x ∈ l, p x) : ∀ x ∈ a :: l, p x := fun x hx => by
 rcases List.mem_cons.1 hx with rfl | hx
 ·exact h
 ·exact hl x hx
theorem z3k {m j : Nat} {A B : AH} {L : z73} (h : m.testBit j = true) (hl : ∀ q ∈ L, m.testBit q.1 = true) : ∀ q ∈ (j, A, B) :: L, m.testBit q.1 = true := zbi h hl
theorem z8j {m j c : Nat} {A B : AH} {L : z73} (h : m.testBit j = true) (hl : ∀ q ∈ L, m.testBit q.1 = true \/ q.2.2.get c = q.2.1.get c) : ∀ q ∈ (j, A, B) :: L, m.testBit q.1 = true \/ q.2.2.get c = q.2.1.get c := zbi (.inl h) hl
theorem ziv {m j c : Nat} {A B : AH} {L : z73} (h : B.get c = A.get c) (hl : ∀ q ∈ L, m.testBit q.1 = true \/ q.2.2.get c = q.2.1.get c) : ∀ q ∈ (j, A, B) :: L, m.testBit q.1 = true \/ q.2.2.get c = q.2.1.get c := zbi (.inr h) hl
def AWD (P : Program) (n : Nat) (ops : Array Oper) (M : List Nat) (l : List Oper) (i : Nat) (R : z6o) (L : z73) (σ : Nat -> Value) (H : AH) (Q : (Nat -> Value) -> AH -> Prop) : Prop :=
 ∃ es σ' H', DOps P ops M l i R L (toL n σ) H es (toL n σ') H' /\ (∀ t, wrL l t = false -> σ' t = σ t) /\ Q σ' H'
section
variable {P : Program} {n : Nat} {σ : Nat -> Value} {H H1 : AH} {ops : Array Oper} {l : List Oper} {Q : (Nat -> Value) -> AH -> Prop} {QX : QX} {d : Tmp} {ty t yt e : TypeId} {pos : String} {af : Array Edge} {g : Option (Nat × Bool)} {v u w : Value} {x y c : Operand} {s : List Value} {cs : List Value}
 {es : List (List Value)} {M : List Nat} {R : z6o} {L : z73} {i : Nat} {o : Oper}
theorem Ext.reserve (H : AH) : ∀ k, Ext H (reserve H k) := fun k => ⟨by rw [z3b]; omega, fun b x hb => by rw [z3x]; exact hb⟩
theorem AW.draw {id : Nat} (hmix : P.follows .mixedOrders = true) (hM : ancs ops.toList [] = M) (hord : za4 ops M = true) (h : ∀ H1, Ext H H1 -> AWD P n ops M ops.toList 0 [] [] σ H1 (QX .normal)) : AW P n (.region id ops true) σ H QX := by
 obtain ⟨es, σ', H', h1, h2, h3⟩ := h (reserve H ops.size) (.reserve H _)
 exact ⟨.normal, σ', H', .drawR hmix hM hord h1, h2, h3⟩
theorem AWD.nil (h : Q σ H) : AWD P n ops M [] i R L σ H Q := ⟨[], σ, H, .nil, fun _ _ => rfl, h⟩
theorem z7z {o : Oper} {l : List Oper} {σ σ' : Nat -> Value} {v : Value} (h2 : ∀ t, wrL l t = false -> σ' t = upo σ o.dst v t) : ∀ t, wrL (o :: l) t = false -> σ' t = σ t :=
 fun t ht => (h2 t (by simp only [wrL, Bool.or_eq_false_iff] at ht; exact ht.2)).trans (zdd ht σ v)
theorem D.skip {op : Op} {dd : Option Tmp} (hg : gok n ops σ g false) (hd : dok n dd = true) (hr : AWD P n ops M l (i + 1) R L (upo σ dd undef) H Q) : AWD P n ops M (⟨dd, op, ty, pos, af, g⟩ :: l) i R L σ H Q := by
 obtain ⟨es, σ', H', h1, h2, h3⟩ := hr
 exact ⟨_, σ', H', .skip (z17 hg) (by rw [z40 hd]; exact h1), z7z h2, h3⟩
theorem D.pure {op : Op} (hg : gok n ops σ g true) (hd : Nat.blt d n = true) (h : z2y P (toL n σ) ⟨some d, op, ty, pos, af, g⟩ = some v) (hr : AWD P n ops M l (i + 1) R L (up σ d v) H Q) : AWD P n ops M (⟨some d, op, ty, pos, af, g⟩ :: l) i R L σ H Q := by
 obtain ⟨es, σ', H', h1, h2, h3⟩ := hr
 exact ⟨_, σ', H', .pure (z17 hg) h (by rw [z40 (d := some d) hd]; exact h1), z7z h2, h3⟩
theorem D.splitAt {b : Bool} {t : Nat} (h : σ t = .bool b) (h1 : b = true -> σ t = .bool true -> AWD P n ops M l i R L σ H Q) (h2 : b = false -> σ t = .bool false -> AWD P n ops M l i R L σ H Q) : AWD P n ops M l i R L σ H Q := by
 cases b with
 | true => exact h1 rfl h
 | false => exact h2 rfl h
theorem z02 {x : Operand} (h : opnd s x = some v) : z2y P s ⟨some d, .move x, ty, pos, af, g⟩ = some v := h
theorem z01 {x : Operand} (h : opnd s x = some v) : z2y P s ⟨some d, .assign x, ty, pos, af, g⟩ = some v := h
theorem z0u (hc : opnd s c = some (.bool true)) (hx : opnd s x = some v) : z2y P s ⟨some d, .pick c x y, ty, pos, af, g⟩ = some v := by simp [z2y, hc, hx]
theorem z1h (hc : opnd s c = some (.bool false)) (hy : opnd s y = some v) : z2y P s ⟨some d, .pick c x y, ty, pos, af, g⟩ = some v := by simp [z2y, hc, hy]
theorem z2g {op : BinOp} {k : IntKind} {a b : Int} (hx : opnd s x = some (.int k a)) (hy : opnd s y = some (.int k b)) (hv : aint op k a b = some v) : z2y P s ⟨some d, .binOp op t x y yt, ty, pos, af, g⟩ = some v := by
 simp [z2y, hx, hy, abin, hv]
theorem z83 {xs : List Operand} {vs : List Value} (h : xs.all (ook n) = true) (hv : xs.map (oval σ) = vs) : zb7 (toL n σ) xs = some vs := by rw [z5x h, hv]
theorem za6 {f : Fn} {xs ys : Array Operand} {a b : List Value} (hx : zb7 s xs.toList = some a) (hy : zb7 s ys.toList = some b) : z2y P s ⟨some d, .makeFunc f xs ys, ty, pos, af, g⟩ = some (.func f ⟨a⟩ ⟨b⟩) := by
 simp [z2y, hx, hy]
theorem z84 {vs : Array Value} {k : Nat} (hx : opnd s x = some (.tuple vs)) (hv : vs[k]? = some v) : z2y P s ⟨some d, .extract x k, ty, pos, af, g⟩ = some v := by simp [z2y, hx, z93, hv]
theorem D.read {op : Op} {b : Nat} (hg : gok n ops σ g true) (hd : Nat.blt d n = true) (h : z5t P (toL n σ) ⟨some d, op, ty, pos, af, g⟩ H.get = some v) (hb : z45 (toL n σ) ⟨some d, op, ty, pos, af, g⟩ = some b)
  (hL : ∀ q ∈ L, (M.getD i 0).testBit q.1 = true \/ q.2.2.get b = q.2.1.get b) (hr : AWD P n ops M l (i + 1) ((i, b) :: R) L (up σ d v) H Q) : AWD P n ops M (⟨some d, op, ty, pos, af, g⟩ :: l) i R L σ H Q := by
 obtain ⟨es, σ', H', h1, h2, h3⟩ := hr
 exact ⟨_, σ', H', .read (z17 hg) h hb hL (by rw [z40 (d := some d) hd]; exact h1), z7z h2, h3⟩
theorem z5e (hd : ook n x = true) (hp : Pt H (oval σ x) cs) : z45 (toL n σ) ⟨some d, .load t x, ty, pos, af, g⟩ = some (z7j (oval σ x)) := by
 obtain ⟨b, off, k, h1, _⟩ := hp
 simp [z45, z2s hd, h1, z7j]
theorem D.load1 {r : List Value} (hg : gok n ops σ g true) (hd : (Nat.blt d n && ook n x) = true) (ha : z30 P t = some false) (hp : Pt H (oval σ x) (v :: r)) (hR : RS H R) (hL : ∀ q ∈ L, (M.getD i 0).testBit q.1 = true \/ q.2.2.get (z7j (oval σ x)) = q.2.1.get (z7j (oval σ x)))
  (hr : RS H ((i, z7j (oval σ x)) :: R) -> AWD P n ops M l (i + 1) ((i, z7j (oval σ x)) :: R) L (up σ d v) H Q) : AWD P n ops M (⟨some d, .load t x, ty, pos, af, g⟩ :: l) i R L σ H Q := by
 simp only [Bool.and_eq_true] at hd
 exact D.read hg hd.1 (zbg ha (z2s hd.2) hp) (z5e hd.2 hp) hL (hr (hR.cons hp.blk))
theorem D.loadA {N : Nat} (hg : gok n ops σ g true) (hd : (Nat.blt d n && ook n x) = true) (ha : z30 P t = some true) (hz : szT P t = some N) (hp : Pt H (oval σ x) cs) (hN : cs.length = N) (hR : RS H R) (hL : ∀ q ∈ L, (M.getD i 0).testBit q.1 = true \/ q.2.2.get (z7j (oval σ x)) = q.2.1.get (z7j (oval σ x)))
  (hr : RS H ((i, z7j (oval σ x)) :: R) -> AWD P n ops M l (i + 1) ((i, z7j (oval σ x)) :: R) L (up σ d (.agg cs.toArray)) H Q) : AWD P n ops M (⟨some d, .load t x, ty, pos, af, g⟩ :: l) i R L σ H Q := by
 simp only [Bool.and_eq_true] at hd
 exact D.read hg hd.1 (zbh ha hz (z2s hd.2) hp hN) (z5e hd.2 hp) hL (hr (hR.cons hp.blk))
theorem D.loud {op : Op} {dd : Option Tmp} (hg : gok n ops σ g true) (hd : dok n dd = true) (hst : StepOk P ⟨dd, op, ty, pos, af, g⟩ (toL n σ) H v H1) (hR : ∀ r ∈ R, (M.getD i 0).testBit r.1 = true \/ H1.get r.2 = H.get r.2) (hL : ∀ q ∈ L, (M.getD i 0).testBit q.1 = true)
  (hr : AWD P n ops M l (i + 1) R ((i, H, H1) :: L) (upo σ dd v) H1 Q) : AWD P n ops M (⟨dd, op, ty, pos, af, g⟩ :: l) i R L σ H Q := by
 obtain ⟨es, σ', H', h1, h2, h3⟩ := hr
 exact ⟨_, σ', H', .loud (z17 hg) hst hR hL (by rw [z40 hd]; exact h1), z7z h2, h3⟩
theorem z85 {f : FuncId} {fo : Operand} {args : Array Operand} {ats : Array TypeId} {al : List Value} {fn : Func} (hd : args.toList.all (ook n) = true) (hf : P.funcs[f]? = some fn) (hnm : (fn.name == "runtime.NumGoroutine" || fn.body.isNone) = false)
  (ha : args.toList.map (oval σ) = al) (hc : ACalls P f al H v H1) : StepOk P ⟨some d, .call ⟨.value (.func f), args, ats⟩, ty, pos, af, g⟩ (toL n σ) H v H1 := by
 refine z8f (f := f) (args := al) ?_ hc
 simp [z8e, opnd, hf, hnm, z5x hd, ha]
theorem za7 {f : FuncId} {fo : Operand} {args : Array Operand} {ats : Array TypeId} {al : List Value} {a b : Array Value} {fn : Func} (hd : (ook n fo && args.toList.all (ook n)) = true) (hfo : oval σ fo = .func (.func f) a b) (hf : P.funcs[f]? = some fn) (hnm : (fn.name == "runtime.NumGoroutine" || fn.body.isNone) = false)
  (ha : args.toList.map (oval σ) = al) (hc : ACalls P f (a.toList ++ al ++ b.toList) H v H1) : StepOk P ⟨some d, .call ⟨.value fo, args, ats⟩, ty, pos, af, g⟩ (toL n σ) H v H1 := by
 simp only [Bool.and_eq_true] at hd
 refine z8f (f := f) (args := a.toList ++ al ++ b.toList) ?_ hc
 simp [z8e, z4d hd.1 hfo, hf, hnm, z5x hd.2, ha]
theorem D.call {f : FuncId} {args : Array Operand} {ats : Array TypeId} {al : List Value} {fn : Func} (hg : gok n ops σ g true) (hd : (Nat.blt d n && args.toList.all (ook n)) = true) (hf : P.funcs[f]? = some fn) (hnm : (fn.name == "runtime.NumGoroutine" || fn.body.isNone) = false)
  (ha : args.toList.map (oval σ) = al) (hc : ACalls P f al H v H1) (he : Ext H H1) (hR : RS H R) (hL : ∀ q ∈ L, (M.getD i 0).testBit q.1 = true) (hr : RS H1 R -> AWD P n ops M l (i + 1) R ((i, H, H1) :: L) (up σ d v) H1 Q) :
  AWD P n ops M (⟨some d, .call ⟨.value (.func f), args, ats⟩, ty, pos, af, g⟩ :: l) i R L σ H Q := by
 simp only [Bool.and_eq_true] at hd
 exact D.loud (dd := some d) hg hd.1 (z85 (fo := .func f) hd.2 hf hnm ha hc) (fun r hr' => .inr (he.same (hR r hr'))) hL (hr (hR.ext he))
theorem za8 {t : TypeId} {b off N : Nat} {k : ABlk} {dd : Option Tmp} (hd : (ook n x && ook n y) = true) (hz : szT P t = some N) (hx : oval σ x = .pointer (some ⟨b, off, none⟩)) (hy : oval σ y = v) (hb : H.get b = some k)
  (ho : k.own = true) (hs : v.cells.size = N) (hok : okCells v.cells.toList = true) (hl : off + N <= k.cells.length) : ∃ H1, SetB H H1 b { k with cells := z2v k.cells off v.cells.toList } /\ StepOk P ⟨dd, .store t x y, ty, pos, af, g⟩ (toL n σ) H undef H1 := by
 simp only [Bool.and_eq_true] at hd
 obtain ⟨inf, hi, rfl⟩ := z4z hz
 obtain ⟨H1, h1, h2⟩ := z9j (vs := v.cells.toList) hb ho hok (by simpa [hs] using hl)
 refine ⟨H1, h2, z3m (v := undef) (H' := H1) ?_⟩
 simp [z9w, z2y, z5t, z3t, z8d, oo hd.1 hx, oo hd.2 hy, hi, hs, h1]
theorem D.store {t : TypeId} {b off N : Nat} {k : ABlk} {dd : Option Tmp} (hg : gok n ops σ g true) (hd : (dok n dd && (ook n x && ook n y)) = true) (hz : szT P t = some N) (hx : oval σ x = .pointer (some ⟨b, off, none⟩)) (hy : oval σ y = v) (hb : H.get b = some k)
  (ho : k.own = true) (hs : v.cells.size = N) (hok : okCells v.cells.toList = true) (hl : off + N <= k.cells.length) (hR : RS H R) (hne : ∀ r ∈ R, (M.getD i 0).testBit r.1 = true \/ r.2 ≠ b) (hL : ∀ q ∈ L, (M.getD i 0).testBit q.1 = true)
  (hr : ∀ H1, SetB H H1 b { k with cells := z2v k.cells off v.cells.toList } -> RS H1 R -> AWD P n ops M l (i + 1) R ((i, H, H1) :: L) (upo σ dd undef) H1 Q) : AWD P n ops M (⟨dd, .store t x y, ty, pos, af, g⟩ :: l) i R L σ H Q := by
 rw [Bool.and_eq_true] at hd
 obtain ⟨H1, h2, h3⟩ := za8 (dd := dd) (ty := ty) (pos := pos) (af := af) (g := g) hd.2 hz hx hy hb ho hs hok hl
 exact D.loud hg hd.1 h3 (fun r hr' => (hne r hr').imp (fun h => h) fun h => h2.other _ h) hL (hr H1 h2 (hR.set h2))
theorem z4v {ps : List (Nat × Operand)} {vs : List (Nat × Value)} (h : (ps.all fun p => ook n p.2) = true) (hv : ps.map (fun p => (p.1, oval σ p.2)) = vs) : zch (toL n σ) ps = some vs := by
 subst hv
 induction ps with
 | nil => rfl
 | cons p ps ih =>
  simp only [List.all_cons, Bool.and_eq_true] at h
  obtain ⟨i, x⟩ := p
  simp [zch, z2s h.1, ih h.2]
theorem W.makeSlice {N c1 : Nat} {z : Value} {sz : Nat} (hg : gok n ops σ g true) (hd : (Nat.blt d n && (ook n x && ook n y)) = true) (he : z7m P t = some e) (hz : (P.info? e).bind (·.zero) = some z) (hsz : szT P e = some sz) (hsc : (z.cells.all z1m && (z.cells.size != 0)) = true)
  (hby : ((P.info? e).map (·.bytes)) = some c1) (hx : oval σ x = .int .i64 (N : Int)) (hy : oval σ y = .int .i64 (N : Int)) (hN : N <= 16777216) (hb : c1 <= 1048576)
  (hr : ∀ b H1, NewB H H1 b ⟨z3l z.cells (N * sz), e, 1, true⟩ -> AWO P n ops l (up σ d (.slice (some ⟨b, 0, some 0⟩) N N)) H1 Q) : AWO P n ops (⟨some d, .makeSlice t x y, ty, pos, af, g⟩ :: l) σ H Q := by
 simp only [Bool.and_eq_true] at hd
 obtain ⟨inf, hi, rfl⟩ := z4z hsz
 simp only [hi, Option.bind_some, Option.map_some, Option.some.injEq] at hz hby
 subst hby
 refine .step (z17 hg) hd.1 (z3m (v := .slice (some ⟨H.next, 0, some 0⟩) N N) (H' := H.push (some ⟨z3l z.cells (N * inf.size), e, 1, true⟩)) ?_) (hr _ _ (.push H _))
 have hbnd : inf.bytes * N <= 2 ^ 48 := Nat.le_trans (Nat.mul_le_mul hb hN) (by decide)
 have hbnd' : (inf.bytes : Int) * (N : Int) <= 2 ^ 48 := by exact_mod_cast hbnd
 have h47 : (N : Int) <= 2 ^ 47 := by omega
 have hdec : (z.cells.all z1m && (z.cells.size != 0) && decide (0 <= (N : Int) /\ (N : Int) <= (N : Int) /\ (N : Int) <= 2 ^ 47 /\ (inf.bytes : Int) * (N : Int) <= 2 ^ 48)) = true := by
  rw [hsc, Bool.true_and, decide_eq_true_iff]
  exact ⟨by omega, by omega, h47, hbnd'⟩
 have hal : z3t P (toL n σ) ⟨some d, .makeSlice t x y, ty, pos, af, g⟩ = some (⟨z3l z.cells (N * inf.size), e, 1, true⟩, .sl N N (some 0)) := by
  simp only [z3t, z04 he, oo hd.2.1 hx, oo hd.2.2 hy, hi, hz, Option.bind_some, hdec, if_true, Int.toNat_natCast]
 simp only [z9w, z2y, z5t, hal, MK.val]
theorem W.buildSlice {N : Nat} {ps : Array (Nat × Operand)} {vs : List (Nat × Value)} {z : Value} {sz : Nat} {r : Array Value} (hg : gok n ops σ g true) (hd : Nat.blt d n = true) (he : z7m P t = some e) (hz : (P.info? e).bind (·.zero) = some z) (hsz : szT P e = some sz) (hsc : (z.cells.all z1m && (z.cells.size != 0) && decide (N * sz <= 2 ^ 24)) = true)
  (hps : zch (toL n σ) ps.toList = some vs) (hf : Instr.fill (fun j => some (j * sz, sz)) (z3l z.cells (N * sz)).toArray vs = some r)
  (hr : ∀ b H1, NewB H H1 b ⟨r.toList, e, 1, true⟩ -> AWO P n ops l (up σ d (.slice (some ⟨b, 0, some 0⟩) N N)) H1 Q) : AWO P n ops (⟨some d, .buildSlice t N ps, ty, pos, af, g⟩ :: l) σ H Q := by
 obtain ⟨inf, hi, rfl⟩ := z4z hsz
 simp only [hi, Option.bind_some] at hz
 refine .step (z17 hg) hd (z3m (v := .slice (some ⟨H.next, 0, some 0⟩) N N) (H' := H.push (some ⟨r.toList, e, 1, true⟩)) ?_) (hr _ _ (.push H _))
 have hal : z3t P (toL n σ) ⟨some d, .buildSlice t N ps, ty, pos, af, g⟩ = some (⟨r.toList, e, 1, true⟩, .sl N N (some 0)) := by
  simp only [z3t, z04 he, hi, hz, Option.bind_some, hsc, if_true, hps, hf, Option.map_some]
 simp only [z9w, z2y, z5t, hal, MK.val]
end
end
end Go.Am
/- Slices that are grown by append. -/
namespace Go.Am
open Go
noncomputable section
def Bld (H : AH) (N : Nat) (e : TypeId) (sz : Nat) (v : Value) (es : List (List Value)) : Prop :=
 (∀ x ∈ es, x.length = sz) /\ ((v = .slice none 0 0 /\ es = []) \/ ∃ b, N <= b /\ v = .slice (some ⟨b, 0, none⟩) es.length es.length /\ H.get b = some ⟨es.flatten, e, sz, true⟩)
def zio (v : Value) (b : Nat) : Prop := ∀ a l c, v = .slice (some a) l c -> a.block ≠ b
theorem Bld.nil (H : AH) (N : Nat) (e : TypeId) (sz : Nat) : Bld H N e sz (.slice none 0 0) [] := ⟨by simp, .inl ⟨rfl, rfl⟩⟩
theorem Bld.sl {H : AH} {N : Nat} {e : TypeId} {sz : Nat} {v : Value} {es : List (List Value)} (h : Bld H N e sz v es) : Sl H sz v es := by
 obtain ⟨h0, h | ⟨b, hb, h1, h2⟩⟩ := h
 ·exact ⟨h0, .inl h⟩
 ·exact ⟨h0, .inr (.inl ⟨b, 0, none, _, _, h1, h2, by simp [z4u h0], by rw [<- z4u h0]; exact List.take_length⟩)⟩
theorem Bld.keep {H H1 : AH} {N : Nat} {e : TypeId} {sz : Nat} {v : Value} {es : List (List Value)} (h : Bld H N e sz v es) (hk : ∀ b k, H.get b = some k -> (∃ a l c, v = .slice (some a) l c /\ a.block = b) -> H1.get b = some k) : Bld H1 N e sz v es := by
 obtain ⟨h0, h | ⟨b, hb, h1, h2⟩⟩ := h
 ·exact ⟨h0, .inl h⟩
 ·exact ⟨h0, .inr ⟨b, hb, h1, hk b _ h2 ⟨_, _, _, h1, rfl⟩⟩⟩
theorem Bld.ext {H H1 : AH} {N : Nat} {e : TypeId} {sz : Nat} {v : Value} {es : List (List Value)} (h : Bld H N e sz v es) (x : Ext H H1) : Bld H1 N e sz v es := h.keep fun b k hk _ => x.2 b k hk
theorem Bld.set {H H1 : AH} {N b : Nat} {k : ABlk} {e : TypeId} {sz : Nat} {v : Value} {es : List (List Value)} (h : Bld H N e sz v es) (x : SetB H H1 b k) (ha : zio v b) : Bld H1 N e sz v es :=
 h.keep fun b' k' hk ⟨a, l, c, hv, hb⟩ => x.old hk (by rw [<- hb]; exact ha a l c hv)
theorem Bld.apart {H : AH} {N : Nat} {e : TypeId} {sz : Nat} {v : Value} {es : List (List Value)} (h : Bld H N e sz v es) {b : Nat} (hb : H.next <= b) : zio v b := by
 obtain ⟨h0, ⟨rfl, _⟩ | ⟨b', hb', rfl, h2⟩⟩ := h
 ·intro a l c h; cases h
 ·intro a l c h; cases h; have := z6z h2; show b' ≠ b; omega
theorem Sl.one {H : AH} {b sz : Nat} {k : ABlk} {c : List Value} {tg : Option Nat} {cap : Nat} (h : H.get b = some k) (hc : k.cells = c) (hl : c.length = sz) : Sl H sz (.slice (some ⟨b, 0, tg⟩) 1 cap) [c] :=
 ⟨by simp [hl], .inr (.inl ⟨b, 0, tg, cap, k, rfl, h, by simp [hc, hl], by subst hc; rw [<- hl]; simp⟩)⟩
structure App (H H1 : AH) (v v' : Value) : Prop where
 keep : ∀ b k, H.get b = some k -> zio v b -> H1.get b = some k /\ zio v' b
 next : H.next <= H1.next
theorem App.ext {H0 H H1 : AH} {N : Nat} {e : TypeId} {sz : Nat} {v v' : Value} {es : List (List Value)} (h : App H H1 v v') (h0 : Ext H0 H) (hb : Bld H N e sz v es) (hN : H0.next <= N) : Ext H0 H1 := by
 refine ⟨Nat.le_trans h0.1 h.next, fun b k hk => (h.keep b k (h0.2 b k hk) ?_).1⟩
 obtain ⟨_, ⟨rfl, _⟩ | ⟨b', hb', rfl, h2⟩⟩ := hb
 ·intro a l c h; cases h
 ·intro a l c h; cases h; have := z6z hk; show b' ≠ b; omega
section
variable {P : Program} {n : Nat} {σ : Nat -> Value} {H H1 : AH} {ops : Array Oper} {l : List Oper} {Q : (Nat -> Value) -> AH -> Prop} {d : Tmp} {ty t xt e : TypeId} {pos : String} {af : Array Edge} {g : Option (Nat × Bool)} {v w : Value} {x y : Operand} {es es2 : List (List Value)}
theorem za9 {sz : Nat} (h : Sl H sz w es2) : asrc w sz H.get none = some (es2.length, es2.flatten) := by
 obtain ⟨h0, ⟨rfl, rfl⟩ | ⟨b, off, tg, cap, k, rfl, h2, h3, h4⟩ | ⟨b, off, tg, cap, rfl, rfl⟩⟩ := h
 ·rfl
 rotate_left
 ·simp [asrc]
 ·simp only [asrc, Option.map_none, Option.getD_none]
  by_cases hz : es2.length = 0
  ·have : es2 = [] := List.length_eq_zero_iff.1 hz
   subst this; simp
  ·rw [if_neg hz]
   simp [h2, h3, h4]
theorem zf7 {N sz c1 : Nat} {z : Value} (he : z7m P t = some e) (hxt : z8q P xt = true) (hz : (P.info? e).bind (·.zero) = some z) (hsz : szT P e = some sz) (hby : ((P.info? e).map (·.bytes)) = some c1) (hzs : (decide (z.cells.size = sz) && decide (0 < sz)) = true) (hc1 : c1 <= 1048576)
  (hv : Bld H N e sz v es) (hw : Sl H sz w es2) (hok : okCells es2.flatten = true) (hlen : es.length + es2.length <= 16777216) (hN : N <= H.next) :
  ∃ v' H1, z4c P #[t, xt] v w H = some (v', H1) /\ Bld H1 N e sz v' (es ++ es2) /\ App H H1 v v' := by
 obtain ⟨inf, hi, rfl⟩ := z4z hsz
 simp only [hi, Option.bind_some, Option.map_some, Option.some.injEq] at hz hby
 subst hby
 simp only [Bool.and_eq_true, decide_eq_true_eq] at hzs
 have hbytes : ∀ m, m <= 16777216 -> m * inf.bytes <= 2 ^ 47 := fun m hm => Nat.le_trans (Nat.mul_le_mul hm hc1) (by decide)
 have hall : ∀ x ∈ es ++ es2, x.length = inf.size := fun x hx => by
  rcases List.mem_append.1 hx with h | h
  ·exact hv.1 x h
  ·exact hw.1 x h
 have hcond : (z8q P xt && decide (z.cells.size = inf.size) && decide (0 < inf.size)) = true := by simp [hxt, hzs]
 obtain ⟨h0, ⟨rfl, rfl⟩ | ⟨b, hb, rfl, h2⟩⟩ := hv
 ·by_cases hn : es2.length = 0
  ·have : es2 = [] := List.length_eq_zero_iff.1 hn
   subst this
   refine ⟨.slice none 0 0, H, ?_, ⟨hall, .inl ⟨rfl, rfl⟩⟩, fun b k hk ha => ⟨hk, ha⟩, Nat.le_refl _⟩
   simp [z4c, z04 he, hi, hz, hxt, hzs, za9 hw]
  ·refine ⟨.slice (some ⟨H.next, 0, none⟩) es2.length es2.length, H.push (some ⟨es2.flatten, e, inf.size, true⟩), ?_, ⟨hall, .inr ⟨H.next, hN, by simp, by simpa using get_push_new H _⟩⟩, fun b k hk ha => ⟨get_push_old hk, ?_⟩, by simp [AH.push]⟩
   ·have h47 : es2.length <= 2 ^ 47 := by simp at hlen; omega
    have hby2 := hbytes es2.length (by simpa using hlen)
    simp only [z4c, List.getElem?_toArray, List.getElem?_cons_zero, List.getElem?_cons_succ, z04 he, hi, hz, Option.bind_some, hcond, if_true, za9 hw]
    rw [if_neg hn, if_pos ⟨hby2, h47⟩]
   ·intro a l c h; cases h; have := z6z hk; show H.next ≠ b; omega
 ·by_cases hn : es2.length = 0
  ·have : es2 = [] := List.length_eq_zero_iff.1 hn
   subst this
   refine ⟨.slice (some ⟨b, 0, none⟩) es.length es.length, H, ?_, ⟨hall, .inr ⟨b, hb, by simp, by simpa using h2⟩⟩, fun b k hk ha => ⟨hk, ha⟩, Nat.le_refl _⟩
   simp [z4c, z04 he, hi, hz, hxt, hzs, za9 hw]
  ·refine ⟨.slice (some ⟨H.next, 0, none⟩) (es.length + es2.length) (es.length + es2.length), (H.set b none).push (some ⟨es.flatten ++ es2.flatten, e, inf.size, true⟩), ?_, ⟨hall, .inr ⟨H.next, hN, by simp, ?_⟩⟩, fun b' k hk ha => ⟨?_, ?_⟩, by simp [AH.push, AH.set]⟩
   ·have h47 : es.length + es2.length <= 2 ^ 47 := by omega
    have hby2 := hbytes _ hlen
    have hlf := z4u h0
    simp only [z4c, List.getElem?_toArray, List.getElem?_cons_zero, List.getElem?_cons_succ, z04 he, hi, hz, Option.bind_some, hcond, if_true, za9 hw]
    rw [if_neg (fun h => hn h.1)]
    simp only [h2, Option.bind_some]
    rw [if_neg (by omega), if_pos ⟨Nat.le_refl _, hby2, h47, by simp [hlf]⟩]
    have htk : (es.flatten.drop 0).take (es.length * inf.size) = es.flatten := by rw [<- hlf]; exact List.take_length
    have hc3 : (true && decide (inf.size = inf.size) && okCells es2.flatten) = true := by simp [hok]
    rw [List.drop_zero] at htk
    simp [htk, hok]
   ·have := get_push_new (H.set b none) (some ⟨es.flatten ++ es2.flatten, e, inf.size, true⟩)
    simpa [AH.set] using this
   ·have hne : b' ≠ b := fun h => ha _ _ _ rfl h.symm
    apply get_push_old
    rw [z2u _ _ h2]
    simp [upd, hne, hk]
   ·intro a l c h; cases h; have := z6z hk; show H.next ≠ b'; omega
theorem W.append {N sz c1 : Nat} {z : Value} (hg : gok n ops σ g true) (hd : (Nat.blt d n && (ook n x && ook n y)) = true) (he : z7m P t = some e) (hxt : z8q P xt = true) (hz : (P.info? e).bind (·.zero) = some z) (hsz : szT P e = some sz) (hby : ((P.info? e).map (·.bytes)) = some c1) (hzs : (decide (z.cells.size = sz) && decide (0 < sz)) = true) (hc1 : c1 <= 1048576)
  (hv : Bld H N e sz (oval σ x) es) (hw : Sl H sz (oval σ y) es2) (hok : okCells es2.flatten = true) (hlen : es.length + es2.length <= 16777216) (hN : N <= H.next)
  (hr : ∀ v' H1, Bld H1 N e sz v' (es ++ es2) -> App H H1 (oval σ x) v' -> AWO P n ops l (up σ d v') H1 Q) : AWO P n ops (⟨some d, .call ⟨.builtin .append, #[x, y], #[t, xt]⟩, ty, pos, af, g⟩ :: l) σ H Q := by
 simp only [Bool.and_eq_true] at hd
 obtain ⟨v', H1, h1, h2, h3⟩ := zf7 he hxt hz hsz hby hzs hc1 hv hw hok hlen hN
 refine .step (z17 hg) hd.1 (z3m (v := v') (H' := H1) ?_) (hr v' H1 h2 h3)
 simp only [z9w, z2y, z5t, z3t, z8d, List.toList_toArray, z2s hd.2.1, z2s hd.2.2, Option.bind_some]
 exact h1
end
end
end Go.Am
/- Function values as parameters, and several results. -/
namespace Go.Am
open Go
noncomputable section
def Used (P : Program) (H0 : AH) (uv : Value) (m : Nat) (U : Nat -> Bool) : Prop :=
 ∃ f a b fn, uv = .func (.func f) a b /\ P.funcs[f]? = some fn /\ (fn.name == "runtime.NumGoroutine" || fn.body.isNone) = false ∧
  ∀ H1, Ext H0 H1 -> ∀ k : Nat, k < m -> ∃ v H2, ACalls P f (a.toList ++ [.int .i64 (k : Int)] ++ b.toList) H1 v H2 /\ v = .bool (U k) /\ Ext H1 H2
theorem Used.ext {P : Program} {H0 H1 : AH} {uv : Value} {m : Nat} {U : Nat -> Bool} (h : Used P H0 uv m U) (e : Ext H0 H1) : Used P H1 uv m U := by
 obtain ⟨f, a, b, fn, h1, h2, h3, h4⟩ := h
 exact ⟨f, a, b, fn, h1, h2, h3, fun H2 e2 => h4 H2 (e.trans e2)⟩
section
variable {P : Program} {n : Nat} {σ : Nat -> Value} {H H1 : AH} {ops : Array Oper} {l : List Oper} {Q : (Nat -> Value) -> AH -> Prop} {d : Tmp} {ty t xt e : TypeId} {pos : String} {af : Array Edge} {g : Option (Nat × Bool)} {v w u : Value} {x y fo : Operand}
end
end
end Go.Am
/- A run on closed values in an empty heap is a run in every heap. -/
namespace Go.Am
open Go
noncomputable section
theorem VRs.closed_eq {ι : Ren} : ∀ {xs ys : List Value}, VRs ι xs ys -> xs.all closed = true -> ys = xs
 | _, _, .nil, _ => rfl
 | _, _, .cons hv h, hc => by
  simp only [List.all_cons, Bool.and_eq_true] at hc
  rw [h.closed_eq hc.2, hv.closed_eq hc.1]
theorem VRs.of_closed {ι : Ren} : ∀ {xs : List Value}, xs.all closed = true -> VRs ι xs xs
 | [], _ => .nil
 | x :: xs, hc => by
  simp only [List.all_cons, Bool.and_eq_true] at hc
  exact .cons (VR.of_closed hc.1) (VRs.of_closed hc.2)
theorem ACalls.anyHeap {P : Program} {f : FuncId} {args : List Value} {v : Value} {H' : AH} (h : ACalls P f args ⟨0, []⟩ v H') (ha : args.all closed = true) (hv : closed v = true) (A : AH) : ACalls P f args A v A := by
 refine ⟨Nx.refl _, fun ι w cargs hS hargs => ?_⟩
 have he := hargs.closed_eq ha
 have hS0 : Sim (⟨0, []⟩ : AH).next (fun _ => none) (⟨0, []⟩ : AH).get w := by
  refine ⟨⟨?_, ?_, ?_⟩, fun cb hc => ⟨(hS.tab cb hc).1, fun ⟨b, x, co, ex, _, _, h⟩ => by cases h⟩⟩
  ·intro b x cb co ex _ h; cases h
  ·intro b b' x x' cb co ex cb' co' ex' _ _ _ _ h; cases h
  ·intro b y h; cases h
 refine (h.run (fun _ => none) w cargs hS0 (by rw [he]; exact .of_closed ha)).mono ?_
 rintro e w' ⟨ι', v', rfl, e2, e3, e4⟩
 have hsame : ∀ cb, cb < w.heap.size -> w'.heap[cb]? = w.heap[cb]? := fun cb hcb => e4.same cb hcb (fun ⟨b, x, co, ex, _, _, h⟩ => by cases h)
 have hvv := e2.closed_eq hv
 refine ⟨ι, v', rfl, by rw [hvv]; exact VR.of_closed hv, hS.grow hsame, fun _ _ h => h, fun _ _ => rfl, fun _ h => .inl h, fun _ h => .inl h, fun cb hcb _ => hsame cb hcb, e4.size, e4.os, e4.tape, e4.output⟩
end
end Go.Am
/- Rules for conversions of integers, parts of slices, copy. -/
namespace Go.Am
open Go
noncomputable section
section
variable {P : Program} {n : Nat} {σ : Nat -> Value} {H H1 : AH} {ops : Array Oper} {l : List Oper} {Q : (Nat -> Value) -> AH -> Prop} {d : Tmp} {ty t xt e src dst : TypeId} {pos : String} {af : Array Edge} {g : Option (Nat × Bool)} {v w u : Value} {x y : Operand} {s : List Value} {M : List Nat} {R : z6o} {L : z73} {i : Nat}
def intT (P : Program) (t : TypeId) : Option IntKind := match P.underlying t with | some (.int k) => some k | _ => none
theorem zde {k : IntKind} (h : intT P t = some k) : P.underlying t = some (.int k) := by
 unfold intT at h; split at h
 ·rename_i hu; cases h; exact hu
 ·cases h
theorem zbj {b off dl cap b2 off2 n2 c2 sz : Nat} {tg tg2 : Option Nat} {k k2 : ABlk} {dd : Option Tmp} (hd : (ook n x && ook n y) = true) (he : z7m P t = some e) (hz : szT P e = some sz) (hx : oval σ x = .slice (some ⟨b, off, tg⟩) dl cap) (hy : oval σ y = .slice (some ⟨b2, off2, tg2⟩) n2 c2)
  (hk : H.get b = some k) (hk2 : H.get b2 = some k2) (ho : k.own = true) (hp : 0 < min dl n2) (hsz : 0 < sz) (hl2 : off2 + min dl n2 * sz <= k2.cells.length) (hl : off + min dl n2 * sz <= k.cells.length) (hok : okCells ((k2.cells.drop off2).take (min dl n2 * sz)) = true) :
  ∃ H1, SetB H H1 b { k with cells := z2v k.cells off ((k2.cells.drop off2).take (min dl n2 * sz)) } /\ StepOk P ⟨dd, .call ⟨.builtin .copy, #[x, y], #[t, xt]⟩, ty, pos, af, g⟩ (toL n σ) H (.int .i64 (min n2 dl : Nat)) H1 := by
 simp only [Bool.and_eq_true] at hd
 obtain ⟨inf, hi, rfl⟩ := z4z hz
 have hlen : ((k2.cells.drop off2).take (min dl n2 * inf.size)).length = min dl n2 * inf.size := by simp; omega
 obtain ⟨H1, h1, h2⟩ := z9j (off := off) (vs := (k2.cells.drop off2).take (min dl n2 * inf.size)) hk ho hok (by rw [hlen]; exact hl)
 refine ⟨H1, h2, z3m ?_⟩
 have hmul : 0 < min dl n2 * inf.size := Nat.mul_pos hp hsz
 have hne : (k2.cells.drop off2).take (min dl n2 * inf.size) ≠ [] := fun h => by rw [h] at hlen; simp at hlen; omega
 have hq : zhl P #[t, xt] (.slice (some ⟨b, off, tg⟩) dl cap) (.slice (some ⟨b2, off2, tg2⟩) n2 c2) H = some (.int .i64 (min n2 dl : Nat), H1) := by
  have hm : Nat.min dl n2 = min dl n2 := rfl
  have hm2 : Nat.min n2 dl = min dl n2 := Nat.min_comm n2 dl
  have hm3 : min n2 dl = min dl n2 := Nat.min_comm n2 dl
  simp only [zhl, List.getElem?_toArray, List.getElem?_cons_zero, z04 he, hi, Option.bind_some, asrc, Option.map_some, Option.getD_some, hm, hm2, hm3]
  rw [if_neg (by omega)]
  simp only [hk2, Option.bind_some]
  rw [if_pos hl2]
  simp only [Option.bind_some]
  rw [if_neg hne, h1]
  simp only [Option.map_some, hm2]
 simp only [z9w, z2y, z5t, z3t, z8d, List.toList_toArray, oo hd.1 hx, oo hd.2 hy, Option.bind_some]
 exact hq
theorem W.step {dd : Option Tmp} {op : Op} (hg : gok n ops σ g true) (hd : dok n dd = true) (hs : StepOk P ⟨dd, op, ty, pos, af, g⟩ (toL n σ) H v H1) (hr : AWO P n ops l (upo σ dd v) H1 Q) : AWO P n ops (⟨dd, op, ty, pos, af, g⟩ :: l) σ H Q :=
 .step (z17 hg) hd hs hr
theorem W.copy {b off dl cap b2 off2 n2 c2 sz : Nat} {tg tg2 : Option Nat} {k k2 : ABlk} (hg : gok n ops σ g true) (hd : (Nat.blt d n && (ook n x && ook n y)) = true) (he : z7m P t = some e) (hz : szT P e = some sz) (hx : oval σ x = .slice (some ⟨b, off, tg⟩) dl cap) (hy : oval σ y = .slice (some ⟨b2, off2, tg2⟩) n2 c2)
  (hk : H.get b = some k) (hk2 : H.get b2 = some k2) (ho : k.own = true) (hp : 0 < min dl n2) (hsz : 0 < sz) (hl2 : off2 + min dl n2 * sz <= k2.cells.length) (hl : off + min dl n2 * sz <= k.cells.length) (hok : okCells ((k2.cells.drop off2).take (min dl n2 * sz)) = true)
  (hr : ∀ H1, SetB H H1 b { k with cells := z2v k.cells off ((k2.cells.drop off2).take (min dl n2 * sz)) } -> AWO P n ops l (up σ d (.int .i64 (min n2 dl : Nat))) H1 Q) : AWO P n ops (⟨some d, .call ⟨.builtin .copy, #[x, y], #[t, xt]⟩, ty, pos, af, g⟩ :: l) σ H Q := by
 rw [Bool.and_eq_true] at hd
 obtain ⟨H1, h1, h2⟩ := zbj (P := P) (dd := some d) (t := t) (xt := xt) (ty := ty) (pos := pos) (af := af) (g := g) hd.2 he hz hx hy hk hk2 ho hp hsz hl2 hl hok
 exact .step (z17 hg) hd.1 h2 (hr H1 h1)
theorem D.copy {b off dl cap b2 off2 n2 c2 sz : Nat} {tg tg2 : Option Nat} {k k2 : ABlk} (hg : gok n ops σ g true) (hd : (Nat.blt d n && (ook n x && ook n y)) = true) (he : z7m P t = some e) (hz : szT P e = some sz) (hx : oval σ x = .slice (some ⟨b, off, tg⟩) dl cap) (hy : oval σ y = .slice (some ⟨b2, off2, tg2⟩) n2 c2)
  (hk : H.get b = some k) (hk2 : H.get b2 = some k2) (ho : k.own = true) (hp : 0 < min dl n2) (hsz : 0 < sz) (hl2 : off2 + min dl n2 * sz <= k2.cells.length) (hl : off + min dl n2 * sz <= k.cells.length) (hok : okCells ((k2.cells.drop off2).take (min dl n2 * sz)) = true)
  (hR : RS H R) (hne : ∀ r ∈ R, (M.getD i 0).testBit r.1 = true \/ r.2 ≠ b) (hL : ∀ q ∈ L, (M.getD i 0).testBit q.1 = true)
  (hr : ∀ H1, SetB H H1 b { k with cells := z2v k.cells off ((k2.cells.drop off2).take (min dl n2 * sz)) } -> RS H1 R -> AWD P n ops M l (i + 1) R ((i, H, H1) :: L) (up σ d (.int .i64 (min n2 dl : Nat))) H1 Q) : AWD P n ops M (⟨some d, .call ⟨.builtin .copy, #[x, y], #[t, xt]⟩, ty, pos, af, g⟩ :: l) i R L σ H Q := by
 rw [Bool.and_eq_true] at hd
 obtain ⟨H1, h1, h2⟩ := zbj (P := P) (dd := some d) (t := t) (xt := xt) (ty := ty) (pos := pos) (af := af) (g := g) hd.2 he hz hx hy hk hk2 ho hp hsz hl2 hl hok
 exact D.loud (dd := some d) hg hd.1 h2 (fun r hr' => (hne r hr').imp (fun h => h) fun h => h1.other _ h) hL (hr H1 h1 (hR.set h1))
theorem z6p {j : Nat} {want : Bool} {d' : Tmp} {o : Oper} (ho : o.guard = some (j, want)) (h1 : (ops[j]?).bind (·.dst) = some d') (h2 : Nat.blt d' n = true) (h3 : σ d' = undef) : Region.wanted o (z39 ops (toL n σ)) = false := by
 unfold Region.wanted z39
 rw [ho]
 simp only [h1, Option.bind_some, zdb (z8z.1 h2), h3]
 rfl
theorem W.skipU {op : Op} {dd : Option Tmp} {j : Nat} {want : Bool} {d' : Tmp} (h1 : (ops[j]?).bind (·.dst) = some d') (h2 : Nat.blt d' n = true) (h3 : σ d' = undef) (hd : dok n dd = true) (hr : AWO P n ops l (upo σ dd undef) H Q) : AWO P n ops (⟨dd, op, ty, pos, af, some (j, want)⟩ :: l) σ H Q :=
 .skip (z6p rfl h1 h2 h3) hd hr
theorem D.skipU {op : Op} {dd : Option Tmp} {j : Nat} {want : Bool} {d' : Tmp} (h1 : (ops[j]?).bind (·.dst) = some d') (h2 : Nat.blt d' n = true) (h3 : σ d' = undef) (hd : dok n dd = true) (hr : AWD P n ops M l (i + 1) R L (upo σ dd undef) H Q) : AWD P n ops M (⟨dd, op, ty, pos, af, some (j, want)⟩ :: l) i R L σ H Q := by
 obtain ⟨es, σ', H', h4, h5, h6⟩ := hr
 exact ⟨_, σ', H', .skip (z6p rfl h1 h2 h3) (by rw [z40 hd]; exact h4), z7z h5, h6⟩
end
end
end Go.Am
/- Rules for building arrays and structs, and for elements of arrays that are arrays. -/
namespace Go.Am
open Go
noncomputable section
def plcT (P : Program) (t : TypeId) : Option (List (Nat × Nat)) :=
 match P.underlying t with
 | some (.struct fields) => fields.toList.mapM fun f => (P.info? f.type).map fun i => (f.offset, i.size)
 | _ => none
section
variable {P : Program} {n : Nat} {σ : Nat -> Value} {d : Tmp} {ty t e : TypeId} {pos : String} {af : Array Edge} {g : Option (Nat × Bool)} {v : Value} {x y : Operand} {s : List Value}
theorem zgr {z : Value} {ps : Array (Nat × Operand)} {vs : List (Nat × Value)} {cs : Array Value} {pl : List (Nat × Nat)} (hp : plcT P t = some pl) (hz : (P.info? t).bind (·.zero) = some z) (hzo : zcq P t = true) (hps : zch s ps.toList = some vs)
  (hf : Instr.fill (fun i => pl.toArray[i]?) z.cells vs = some cs) : z2y P s ⟨some d, .build t ps, ty, pos, af, g⟩ = some (.agg cs) := by
 obtain ⟨it, hit, hz⟩ := zAc hz
 have hb : P.built t vs = some cs := by
  unfold plcT at hp
  split at hp
  ·rename_i fs hu
   unfold Program.built
   simp only [hit, hu, hz, hp]
   exact hf
  ·cases hp
 simp [z2y, hzo, hps, hb]
end
end
end Go.Am
/- Typed data in the abstract heap: what is frozen, what is owned, and how a list or a struct stands in cells. -/
namespace Go.Am
open Go
noncomputable section
abbrev GM := Nat -> Option ABlk
def GM.le (G G' : GM) : Prop := ∀ b k, G b = some k -> G' b = some k
theorem GM.le.refl (G : GM) : G.le G := fun _ _ h => h
theorem zAf (G : GM) : G.le G := GM.le.refl G
theorem GM.le.trans {G1 G2 G3 : GM} (h : G1.le G2) (k : G2.le G3) : G1.le G3 := fun b x hb => k b x (h b x hb)
theorem zAe {G1 G2 G3 : GM} (h : G1.le G2) (k : G2.le G3) : G1.le G3 := GM.le.trans h k
inductive All2 {α β : Type} (R : α -> β -> Prop) : List α -> List β -> Prop
 | nil : All2 R [] []
 | cons {a : α} {b : β} {as0 : List α} {bs : List β} : R a b -> All2 R as0 bs -> All2 R (a :: as0) (b :: bs)
theorem All2.mono {α β : Type} {R S : α -> β -> Prop} (h : ∀ a b, R a b -> S a b) : ∀ {as0 : List α} {bs : List β}, All2 R as0 bs -> All2 S as0 bs
 | _, _, .nil => .nil
 | _, _, .cons h1 h2 => .cons (h _ _ h1) (h2.mono h)
theorem All2.length {α β : Type} {R : α -> β -> Prop} : ∀ {as0 : List α} {bs : List β}, All2 R as0 bs -> as0.length = bs.length
 | _, _, .nil => rfl
 | _, _, .cons _ h => by simp [h.length]
theorem All2.get {α β : Type} {R : α -> β -> Prop} : ∀ {as0 : List α} {bs : List β}, All2 R as0 bs -> ∀ {i : Nat} {b : β}, bs[i]? = some b -> ∃ a, as0[i]? = some a /\ R a b
 | _, _, .nil, i, b, h => by simp at h
 | _, _, .cons h1 h2, 0, b, h => by simp at h; subst h; exact ⟨_, rfl, h1⟩
 | _, _, .cons h1 h2, i + 1, b, h => by simp at h; simpa using h2.get h
theorem All2.append {α β : Type} {R : α -> β -> Prop} : ∀ {as0 : List α} {bs : List β} {cs : List α} {ds : List β}, All2 R as0 bs -> All2 R cs ds -> All2 R (as0 ++ cs) (bs ++ ds)
 | _, _, _, _, .nil, h => h
 | _, _, _, _, .cons h1 h2, h => .cons h1 (h2.append h)
theorem All2.take {α β : Type} {R : α -> β -> Prop} : ∀ {as0 : List α} {bs : List β} (n : Nat), All2 R as0 bs -> All2 R (as0.take n) (bs.take n)
 | _, _, 0, h => by simp; exact .nil
 | _, _, n + 1, .nil => by simp; exact .nil
 | _, _, n + 1, .cons h1 h2 => by simp; exact .cons h1 (h2.take n)
theorem All2.drop {α β : Type} {R : α -> β -> Prop} : ∀ {as0 : List α} {bs : List β} (n : Nat), All2 R as0 bs -> All2 R (as0.drop n) (bs.drop n)
 | _, _, 0, h => by simpa using h
 | _, _, n + 1, .nil => by simp; exact .nil
 | _, _, n + 1, .cons h1 h2 => by simpa using h2.drop n
theorem All2.set {α β : Type} {R : α -> β -> Prop} : ∀ {as0 : List α} {bs : List β} (n : Nat) {a : α} {b : β}, All2 R as0 bs -> R a b -> All2 R (as0.set n a) (bs.set n b)
 | _, _, _, _, _, .nil, _ => by simp; exact .nil
 | _, _, 0, _, _, .cons h1 h2, h => by simp; exact .cons h h2
 | _, _, n + 1, _, _, .cons h1 h2, h => by simp; exact .cons h1 (h2.set n h)
theorem All2.replicate {α β : Type} {R : α -> β -> Prop} {a : α} {b : β} (h : R a b) : ∀ n, All2 R (List.replicate n a) (List.replicate n b)
 | 0 => .nil
 | n + 1 => .cons h (All2.replicate h n)
def PtG (G : GM) (v : Value) (cs : List Value) : Prop := ∃ b off k, v = .pointer (some ⟨b, off, none⟩) /\ G b = some k /\ off + cs.length <= k.cells.length /\ (k.cells.drop off).take cs.length = cs
def SlG (G : GM) (sz : Nat) (v : Value) (es : List (List Value)) : Prop :=
 (∀ e ∈ es, e.length = sz) /\ ((v = .slice none 0 0 /\ es = []) ∨
  (∃ b off tg cap k, v = .slice (some ⟨b, off, tg⟩) es.length cap /\ G b = some k /\ off + es.length * sz <= k.cells.length /\ (k.cells.drop off).take (es.length * sz) = es.flatten /\ es.length <= cap /\ (tg = none \/ tg = some 0)) ∨
  ∃ b off tg cap, v = .slice (some ⟨b, off, tg⟩) 0 cap /\ es = [] /\ (tg = none \/ tg = some 0))
theorem PtG.le {G G' : GM} {v : Value} {cs : List Value} (h : PtG G v cs) (e : G.le G') : PtG G' v cs := by
 obtain ⟨b, off, k, h1, h2, h3⟩ := h
 exact ⟨b, off, k, h1, e b k h2, h3⟩
theorem SlG.le {G G' : GM} {sz : Nat} {v : Value} {es : List (List Value)} (h : SlG G sz v es) (e : G.le G') : SlG G' sz v es := by
 obtain ⟨h0, h | ⟨b, off, tg, cap, k, h1, h2, h3⟩ | h⟩ := h
 ·exact ⟨h0, .inl h⟩
 ·exact ⟨h0, .inr (.inl ⟨b, off, tg, cap, k, h1, e _ _ h2, h3⟩)⟩
 ·exact ⟨h0, .inr (.inr h)⟩
theorem SlG.sl {H : AH} {sz : Nat} {v : Value} {es : List (List Value)} (h : SlG H.get sz v es) : Sl H sz v es := by
 obtain ⟨h0, h | ⟨b, off, tg, cap, k, h1, h2, h3, h4, h5⟩ | ⟨b, off, tg, cap, h1, h2, h3⟩⟩ := h
 ·exact ⟨h0, .inl h⟩
 ·exact ⟨h0, .inr (.inl ⟨b, off, tg, cap, k, h1, h2, h3, h4⟩)⟩
 ·exact ⟨h0, .inr (.inr ⟨b, off, tg, cap, h1, h2⟩)⟩
theorem SlG.isSl {G : GM} {sz : Nat} {v : Value} {es : List (List Value)} (h : SlG G sz v es) : zgp v es.length := by
 obtain ⟨h0, ⟨rfl, rfl⟩ | ⟨b, off, tg, cap, k, rfl, _⟩ | ⟨b, off, tg, cap, rfl, rfl, _⟩⟩ := h
 ·exact .inl ⟨rfl, rfl⟩
 ·exact .inr ⟨b, off, tg, cap, rfl⟩
 ·exact .inr ⟨b, off, tg, cap, rfl⟩
theorem SlG.idx {G : GM} {sz : Nat} {v : Value} {es : List (List Value)} (h : SlG G sz v es) {i : Nat} {e : List Value} (he : es[i]? = some e) : PtG G (z4t v (i * sz)) e := by
 have hi : i < es.length := (zAi he).1
 have hel : e.length = sz := h.1 e (List.mem_of_getElem? he)
 obtain ⟨h0, ⟨_, rfl⟩ | ⟨b, off, tg, cap, k, rfl, h2, h3, h4, _⟩ | ⟨_, _, _, _, _, rfl, _⟩⟩ := h
 ·simp at hi
 rotate_left
 ·simp at hi
 ·have hb : i * sz + sz <= es.length * sz := by
   have := Nat.mul_le_mul_right sz (show i + 1 <= es.length from hi)
   rw [Nat.add_mul, Nat.one_mul] at this; exact this
  refine ⟨b, off + i * sz, k, rfl, h2, by omega, ?_⟩
  rw [hel, z9h h4 hb]
  exact zau h0 he
theorem PtG.sub {G : GM} {v : Value} {cs : List Value} (h : PtG G v cs) (off k : Nat) (hk : off + k <= cs.length) : PtG G (padd v off) ((cs.drop off).take k) := by
 obtain ⟨b, o, kk, rfl, h1, h2, h3⟩ := h
 refine ⟨b, o + off, kk, rfl, h1, ?_, ?_⟩
 ·simp; omega
 ·have : ((cs.drop off).take k).length = k := by simp; omega
  rw [this]; exact z9h h3 hk
theorem PtG.blk {G : GM} {v : Value} {cs : List Value} (h : PtG G v cs) : ∃ k, G (z7j v) = some k := by
 obtain ⟨b, o, kk, rfl, h1, _⟩ := h
 exact ⟨kk, h1⟩
structure RT (α : Type) where
 sz : Nat
 rep : GM -> List Value -> α -> Prop
 len : ∀ {G : GM} {cs : List Value} {a : α}, rep G cs a -> cs.length = sz
 one : ∀ {G : GM} {cs : List Value} {a : α}, rep G cs a -> okCells cs = true
 mono : ∀ {G G' : GM} {cs : List Value} {a : α}, G.le G' -> rep G cs a -> rep G' cs a
def rI (k : IntKind) : RT Int := ⟨1, fun _ cs x => cs = [.int k x], fun h => by rw [h]; rfl, fun h => by rw [h]; rfl, fun _ h => h⟩
def rB : RT Bool := ⟨1, fun _ cs x => cs = [.bool x], fun h => by rw [h]; rfl, fun h => by rw [h]; rfl, fun _ h => h⟩
def rS : RT zAd := ⟨1, fun _ cs x => cs = [.string x], fun h => by rw [h]; rfl, fun h => by rw [h]; rfl, fun _ h => h⟩
theorem SlG.one {G : GM} {sz : Nat} {v : Value} {es : List (List Value)} (h : SlG G sz v es) : okCells [v] = true := by
 obtain ⟨h0, ⟨rfl, rfl⟩ | ⟨b, off, tg, cap, k, rfl, _⟩ | ⟨b, off, tg, cap, rfl, rfl, _⟩⟩ := h <;> rfl
def rSl {α : Type} (r : RT α) : RT (List α) :=
 ⟨1, fun G cs xs => ∃ v es, cs = [v] /\ SlG G r.sz v es /\ All2 (r.rep G) es xs, fun ⟨v, es, h, _⟩ => by rw [h]; rfl, fun ⟨v, es, h, h1, _⟩ => by rw [h]; exact h1.one,
  fun hG ⟨v, es, h, h1, h2⟩ => ⟨v, es, h, h1.le hG, h2.mono fun _ _ => r.mono hG⟩⟩
theorem z74 {a b : List Value} (ha : okCells a = true) (hb : okCells b = true) : okCells (a ++ b) = true := by
 simp only [okCells, List.all_append, Bool.and_eq_true] at *; exact ⟨ha, hb⟩
theorem All2.okFlat {α : Type} {r : RT α} {G : GM} : ∀ {es : List (List Value)} {xs : List α}, All2 (r.rep G) es xs -> okCells es.flatten = true
 | _, _, .nil => rfl
 | _, _, .cons h1 h2 => by simp only [List.flatten_cons]; exact z74 (r.one h1) h2.okFlat
theorem All2.flatLen {α : Type} {r : RT α} {G : GM} : ∀ {es : List (List Value)} {xs : List α}, All2 (r.rep G) es xs -> es.flatten.length = xs.length * r.sz
 | _, _, .nil => by simp
 | _, _, .cons h1 h2 => by simp only [List.flatten_cons, List.length_append, r.len h1, h2.flatLen, List.length_cons, Nat.add_mul]; omega
theorem All2.each {α : Type} {r : RT α} {G : GM} : ∀ {es : List (List Value)} {xs : List α}, All2 (r.rep G) es xs -> ∀ e ∈ es, e.length = r.sz
 | _, _, .nil, e, h => by simp at h
 | _, _, .cons h1 h2, e, h => by
  rcases List.mem_cons.1 h with rfl | h
  ·exact r.len h1
  ·exact h2.each e h
def rArr {α : Type} (n : Nat) (r : RT α) : RT (List α) :=
 ⟨n * r.sz, fun G cs xs => xs.length = n /\ ∃ es, cs = es.flatten /\ All2 (r.rep G) es xs, fun ⟨h, es, h1, h2⟩ => by rw [h1, h2.flatLen, h], fun ⟨h, es, h1, h2⟩ => by rw [h1]; exact h2.okFlat,
  fun hG ⟨h, es, h1, h2⟩ => ⟨h, es, h1, h2.mono fun _ _ => r.mono hG⟩⟩
def rP {α β : Type} (r : RT α) (s : RT β) : RT (α × β) :=
 ⟨r.sz + s.sz, fun G cs x => ∃ c d, cs = c ++ d /\ r.rep G c x.1 /\ s.rep G d x.2, fun ⟨c, d, h, h1, h2⟩ => by rw [h, List.length_append, r.len h1, s.len h2],
  fun ⟨c, d, h, h1, h2⟩ => by rw [h]; exact z74 (r.one h1) (s.one h2), fun hG ⟨c, d, h, h1, h2⟩ => ⟨c, d, h, r.mono hG h1, s.mono hG h2⟩⟩
def rIso {α S : Type} (r : RT α) (f : S -> α) : RT S := ⟨r.sz, fun G cs x => r.rep G cs (f x), fun h => r.len h, fun h => r.one h, fun hG h => r.mono hG h⟩
def Proj {α β : Type} (r : RT α) (o : Nat) (s : RT β) (f : α -> β) : Prop := ∀ (G : GM) (cs : List Value) (x : α), r.rep G cs x -> s.rep G ((cs.drop o).take s.sz) (f x) /\ o + s.sz <= r.sz
def Put {α β : Type} (r : RT α) (o : Nat) (s : RT β) (u : α -> β -> α) : Prop := ∀ (G : GM) (cs : List Value) (x : α) (c : List Value) (y : β), r.rep G cs x -> s.rep G c y -> r.rep G (z2v cs o c) (u x y) /\ o + s.sz <= r.sz
section
variable {α β γ S : Type} {r : RT α} {s : RT β} {t : RT γ}
theorem Proj.self (r : RT α) : Proj r 0 r (fun x => x) := fun G cs x h => ⟨by rw [<- r.len h]; simpa using h, by omega⟩
theorem Put.self (r : RT α) : Put r 0 r (fun _ y => y) := fun G cs x c y h hy => ⟨by
 have h1 := r.len h; have h2 := r.len hy
 have : z2v cs 0 c = c := by simp [z2v]; omega
 rw [this]; exact hy, by omega⟩
theorem Proj.fst (r : RT α) (s : RT β) : Proj (rP r s) 0 r (fun x => x.1) := fun G cs x ⟨c, d, h, h1, h2⟩ => ⟨by rw [h, <- r.len h1]; simpa using h1, by show 0 + r.sz <= r.sz + s.sz; omega⟩
theorem Proj.snd (r : RT α) (s : RT β) : Proj (rP r s) r.sz s (fun x => x.2) := fun G cs x ⟨c, d, h, h1, h2⟩ => ⟨by rw [h, <- r.len h1, <- s.len h2]; simpa using h2, Nat.le_refl _⟩
theorem Put.fst (r : RT α) (s : RT β) : Put (rP r s) 0 r (fun x y => (y, x.2)) := fun G cs x c y ⟨c1, d, h, h1, h2⟩ hy => ⟨⟨c, d, by
 have e1 := r.len h1; have e2 := r.len hy
 rw [h]; simp only [z2v, List.take_zero, List.nil_append, Nat.zero_add]
 rw [show c.length = c1.length by omega, List.drop_left], hy, h2⟩, by show 0 + r.sz <= r.sz + s.sz; omega⟩
theorem Put.snd (r : RT α) (s : RT β) : Put (rP r s) r.sz s (fun x y => (x.1, y)) := fun G cs x c y ⟨c1, d, h, h1, h2⟩ hy => ⟨⟨c1, c, by
 have e1 := r.len h1; have e2 := s.len hy; have e3 := s.len h2
 rw [h]; simp only [z2v]
 rw [<- e1, List.take_left, <- List.drop_drop, List.drop_left, List.drop_eq_nil_of_le (by omega)]; simp, h1, hy⟩, Nat.le_refl _⟩
theorem Proj.iso (r : RT α) (f : S -> α) : Proj (rIso r f) 0 r f := fun G cs x h => ⟨by have h' : r.rep G cs (f x) := h; rw [<- r.len h']; simpa using h', by show 0 + r.sz <= r.sz; omega⟩
theorem Put.iso (r : RT α) (f : S -> α) (u : S -> α -> S) (hf : ∀ x y, f (u x y) = y) : Put (rIso r f) 0 r u := fun G cs x c y h hy => ⟨by
 have h' : r.rep G cs (f x) := h
 have e1 := r.len h'; have e2 := r.len hy
 have : z2v cs 0 c = c := by simp [z2v]; omega
 rw [this]; show r.rep G c (f (u x y)); rw [hf]; exact hy, by show 0 + r.sz <= r.sz; omega⟩
theorem zaa {l : List Value} {o n o' n' : Nat} (h : o' + n' <= n) : (((l.drop o).take n).drop o').take n' = (l.drop (o + o')).take n' := by
 rw [List.drop_take, List.take_take, List.drop_drop]
 congr 1
 omega
theorem Proj.comp {f : α -> β} {g : β -> γ} {o o' : Nat} (h : Proj r o s f) (k : Proj s o' t g) : Proj r (o + o') t (fun x => g (f x)) := fun G cs x hx => by
 obtain ⟨h1, h2⟩ := h G cs x hx
 obtain ⟨k1, k2⟩ := k G _ _ h1
 rw [zaa k2] at k1
 exact ⟨k1, by omega⟩
theorem z7u {l c : List Value} {o n o' : Nat} (hl : o + n <= l.length) (hc : o' + c.length <= n) : z2v l o (z2v ((l.drop o).take n) o' c) = z2v l (o + o') c := by
 have e : ((l.drop o).take n).length = n := by simp; omega
 apply List.ext_getElem?
 intro i
 rw [z5b _ _ _ (by rw [z4x (by omega)]; omega), z4x (by omega), e, z5b l (o + o') c (by omega)]
 by_cases h1 : o <= i /\ i < o + n
 ·rw [if_pos h1, z5b _ _ _ (by omega)]
  by_cases h2 : o' <= i - o /\ i - o < o' + c.length
  ·rw [if_pos h2, if_pos (by omega)]; congr 1; omega
  ·rw [if_neg h2, if_neg (by omega), List.getElem?_take, if_pos (by omega), List.getElem?_drop]; congr 1; omega
 ·rw [if_neg h1, if_neg (by omega)]
theorem Put.comp {f : α -> β} {u : α -> β -> α} {w : β -> γ -> β} {o o' : Nat} (h : Proj r o s f) (hu : Put r o s u) (hw : Put s o' t w) : Put r (o + o') t (fun x y => u x (w (f x) y)) := fun G cs x c y hx hy => by
 obtain ⟨h1, h2⟩ := h G cs x hx
 obtain ⟨k1, k2⟩ := hw G _ _ c y h1 hy
 obtain ⟨m1, m2⟩ := hu G cs x _ _ hx k1
 have e1 := r.len hx
 have e2 := t.len hy
 rw [z7u (by omega) (by omega)] at m1
 exact ⟨m1, by omega⟩
def idx {α : Type} (xs : List α) (i : Int) : Option α := if i < 0 then none else xs[i.toNat]?
theorem z1n {xs : List α} {i : Int} {x : α} (h : idx xs i = some x) : 0 <= i /\ i.toNat < xs.length /\ xs[i.toNat]? = some x := by
 unfold idx at h
 split at h
 ·cases h
 ·exact ⟨by omega, (zAi h).1, h⟩
theorem zdf {sz : Nat} {c : List Value} : ∀ {es : List (List Value)} {i : Nat}, (∀ e ∈ es, e.length = sz) -> c.length = sz -> i < es.length -> z2v es.flatten (i * sz) c = (es.set i c).flatten
 | [], i, _, _, h => by simp at h
 | e :: es, 0, h, hc, _ => by
  have := h e (by simp)
  simp [z2v]
  rw [show c.length = e.length by omega, List.drop_left]
 | e :: es, i + 1, h, hc, hi => by
  have h1 := h e (by simp)
  have ih := zdf (es := es) (i := i) (fun x hx => h x (by simp [hx])) hc (by simpa using hi)
  simp only [List.flatten_cons, List.set_cons_succ]
  rw [<- ih]
  have e1 : (i + 1) * sz = e.length + i * sz := by rw [h1, Nat.add_mul]; omega
  unfold z2v
  rw [e1, List.take_length_add_append, Nat.add_assoc, List.drop_length_add_append]
  simp [List.append_assoc]
theorem zi0 {n i : Nat} {G : GM} {cs c : List Value} {xs : List α} {x : α} (h : (rArr n r).rep G cs xs) (hi : i < xs.length) (hx : r.rep G c x) : (rArr n r).rep G (z2v cs (i * r.sz) c) (xs.set i x) /\ i * r.sz + r.sz <= n * r.sz := by
 obtain ⟨h0, es, rfl, h1⟩ := h
 refine ⟨⟨by simpa using h0, es.set i c, zdf h1.each (r.len hx) (by rw [h1.length]; exact hi), h1.set i hx⟩, ?_⟩
 have := Nat.mul_le_mul_right r.sz (show i + 1 <= n by omega)
 rw [Nat.add_mul, Nat.one_mul] at this; exact this
end
def At {α : Type} (G M : GM) (v : Value) (r : RT α) (x : α) : Prop := ∃ cs, PtG M v cs /\ r.rep G cs x
section
variable {α β : Type} {r : RT α} {s : RT β} {G G' M M' : GM} {v : Value} {x : α} {xs : List α}
theorem At.le (h : At G M v r x) (hG : G.le G') (hM : M.le M') : At G' M' v r x := by
 obtain ⟨cs, h1, h2⟩ := h
 exact ⟨cs, h1.le hM, r.mono hG h2⟩
theorem At.proj {o : Nat} {f : α -> β} (h : At G M v r x) (p : Proj r o s f) : At G M (padd v o) s (f x) := by
 obtain ⟨cs, h1, h2⟩ := h
 obtain ⟨p1, p2⟩ := p G cs x h2
 have := r.len h2
 exact ⟨_, h1.sub o s.sz (by omega), p1⟩
theorem z3c {i : Nat} (h : (rSl r).rep G [v] xs) (hi : xs[i]? = some x) : At G G (z4t v (i * r.sz)) r x := by
 obtain ⟨v', es, hv, h1, h2⟩ := h
 cases hv
 obtain ⟨e, he, hr⟩ := h2.get hi
 exact ⟨e, h1.idx he, hr⟩
theorem z0x (h : (rSl r).rep G [v] xs) : zgp v xs.length := by
 obtain ⟨v', es, hv, h1, h2⟩ := h
 cases hv
 rw [<- h2.length]; exact h1.isSl
theorem zi1 : (rSl r).rep G [.slice none 0 0] [] := ⟨_, [], rfl, ⟨by simp, .inl ⟨rfl, rfl⟩⟩, .nil⟩
end
end
end Go.Am
/- What a function owns while it runs: pieces with their blocks, beside what is frozen. -/
namespace Go.Am
open Go
noncomputable section
structure Pc where
 foot : List Nat
 ok : GM -> GM -> Prop
 mono : ∀ {G G' M : GM}, G.le G' -> ok G M -> ok G' M
 loc : ∀ {G M M' : GM}, (∀ b ∈ foot, M' b = M b) -> ok G M -> ok G M'
 bnd : ∀ {G M : GM}, ok G M -> ∀ b ∈ foot, ∃ k, M b = some k
structure Ow (G : GM) (H : AH) (L : List Pc) : Prop where
 fro : G.le H.get
 ok : ∀ (i : Nat) (e : Pc), L[i]? = some e -> e.ok G H.get
 dis : ∀ (i j : Nat) (e e' : Pc), i ≠ j -> L[i]? = some e -> L[j]? = some e' -> ∀ b ∈ e.foot, b ∉ e'.foot
 apart : ∀ (i : Nat) (e : Pc), L[i]? = some e -> ∀ b ∈ e.foot, G b = none
def Vis (G : GM) (L : List Pc) (b : Nat) : Prop := (∃ k, G b = some k) \/ ∃ (i : Nat) (e : Pc), L[i]? = some e /\ b ∈ e.foot
def Same (G : GM) (L : List Pc) (H H1 : AH) : Prop := ∀ b, Vis G L b -> H1.get b = H.get b
section
variable {G G' : GM} {H H1 : AH} {L : List Pc} {e e' : Pc} {j b : Nat} {k : ABlk}
theorem Ow.vis (h : Ow G H L) (hb : Vis G L b) : ∃ k, H.get b = some k := by
 rcases hb with ⟨k, hk⟩ | ⟨i, e, hi, hb⟩
 ·exact ⟨k, h.fro b k hk⟩
 ·exact e.bnd (h.ok i e hi) b hb
theorem Ow.lt (h : Ow G H L) (hb : Vis G L b) : b < H.next := by
 obtain ⟨k, hk⟩ := h.vis hb
 exact z6z hk
theorem Ow.le (h : Ow G H L) (hG : G.le H.get -> G'.le H.get) (hGG : G.le G') (ha : ∀ (i : Nat) (e : Pc), L[i]? = some e -> ∀ b ∈ e.foot, G' b = none) : Ow G' H L :=
 ⟨hG h.fro, fun i e hi => e.mono hGG (h.ok i e hi), h.dis, ha⟩
theorem Ow.ext (h : Ow G H L) (x : Ext H H1) : Ow G H1 L :=
 ⟨fun b k hb => x.2 b k (h.fro b k hb), fun i e hi => e.loc (fun b hb => by obtain ⟨k, hk⟩ := e.bnd (h.ok i e hi) b hb; rw [hk]; exact x.2 b k hk) (h.ok i e hi), h.dis, h.apart⟩
theorem Ow.same (h : Ow G H L) (x : Ext H H1) : Same G L H H1 := fun b hb => by obtain ⟨k, hk⟩ := h.vis hb; rw [hk]; exact x.2 b k hk
theorem Ow.new (h : Ow G H L) (nb : NewB H H1 b k) (e : Pc) (hf : e.foot = [b]) (hk : e.ok G H1.get) : Ow G H1 (e :: L) := by
 have h1 := h.ext nb.ext
 have hb : ∀ c, Vis G L c -> c ≠ b := fun c hc => by have := h.lt hc; have := nb.fresh; omega
 refine ⟨h1.fro, fun i e' hi => ?_, fun i j e1 e2 hij hi hj c hc => ?_, fun i e' hi c hc => ?_⟩
 ·cases i with
  | zero => simp at hi; subst hi; exact hk
  | succ i => exact h1.ok i e' (by simpa using hi)
 ·cases i with
  | zero =>
   simp at hi; subst hi
   rw [hf] at hc; simp at hc; subst hc
   cases j with
   | zero => exact absurd rfl hij
   | succ j => exact fun hc => hb c (.inr ⟨j, e2, by simpa using hj, hc⟩) rfl
  | succ i =>
   cases j with
   | zero => simp at hj; subst hj; rw [hf]; simp; exact hb c (.inr ⟨i, e1, by simpa using hi, hc⟩)
   | succ j => exact h.dis i j e1 e2 (by omega) (by simpa using hi) (by simpa using hj) c hc
 ·cases i with
  | zero =>
   simp at hi; subst hi
   rw [hf] at hc; simp at hc; subst hc
   cases hg : G c with
   | none => rfl
   | some k => exact absurd rfl (hb c (.inl ⟨k, hg⟩))
  | succ i => exact h.apart i e' (by simpa using hi) c hc
theorem Ow.put (h : Ow G H L) (hj : L[j]? = some e) (e' : Pc) (hf : ∀ b ∈ e'.foot, b ∈ e.foot \/ H.next <= b) (hk : e'.ok G H1.get) (hs : ∀ b k, H.get b = some k -> b ∉ e.foot -> H1.get b = some k) : Ow G H1 (L.set j e') := by
 have hjl : j < L.length := (zAi hj).1
 have hset : ∀ (i : Nat) (x : Pc), (L.set j e')[i]? = some x -> (i = j /\ x = e') \/ (i ≠ j /\ L[i]? = some x) := fun i x hx => by
  rw [List.getElem?_set] at hx
  by_cases hij : j = i
  ·subst hij; simp [hjl] at hx; exact .inl ⟨rfl, hx.symm⟩
  ·rw [if_neg hij] at hx; exact .inr ⟨fun e => hij e.symm, hx⟩
 have hold : ∀ (i : Nat) (x : Pc), i ≠ j -> L[i]? = some x -> ∀ b ∈ x.foot, H1.get b = H.get b := fun i x hij hx b hb => by
  obtain ⟨k, hk⟩ := x.bnd (h.ok i x hx) b hb
  rw [hk]; exact hs b k hk (h.dis i j x e hij hx hj b hb)
 refine ⟨fun b k hb => hs b k (h.fro b k hb) fun hc => ?_, fun i x hx => ?_, fun i i' x x' hii hx hx' b hb => ?_, fun i x hx b hb => ?_⟩
 ·have := h.apart j e hj b hc; rw [hb] at this; cases this
 ·rcases hset i x hx with ⟨rfl, rfl⟩ | ⟨hij, hx2⟩
  ·exact hk
  ·exact x.loc (hold i x hij hx2) (h.ok i x hx2)
 ·rcases hset i x hx with ⟨rfl, rfl⟩ | ⟨hij, hx2⟩
  ·rcases hset i' x' hx' with ⟨rfl, rfl⟩ | ⟨hij', hx2'⟩
   ·exact absurd rfl hii
   ·intro hc
    rcases hf b hb with h1 | h1
    ·exact h.dis i i' e x' hii hj hx2' b h1 hc
    ·have := h.lt (.inr ⟨i', x', hx2', hc⟩); omega
  ·rcases hset i' x' hx' with ⟨rfl, rfl⟩ | ⟨hij', hx2'⟩
   ·intro hc
    rcases hf b hc with h1 | h1
    ·exact h.dis i i' x e hii hx2 hj b hb h1
    ·have := h.lt (.inr ⟨i, x, hx2, hb⟩); omega
   ·exact h.dis i i' x x' hii hx2 hx2' b hb
 ·rcases hset i x hx with ⟨rfl, rfl⟩ | ⟨hij, hx2⟩
  ·rcases hf b hb with h1 | h1
   ·exact h.apart i e hj b h1
   ·cases hg : G b with
    | none => rfl
    | some k => have := h.lt (.inl ⟨k, hg⟩); omega
  ·exact h.apart i x hx2 b hb
theorem z5g {α : Type} {L : List α} {j i : Nat} {x : α} (h : (L.eraseIdx j)[i]? = some x) : ∃ i', L[i']? = some x /\ i' ≠ j /\ (∀ m, (if m < j then m else m + 1) = i' ↔ m = i) := by
 rw [List.getElem?_eraseIdx] at h
 split at h
 ·refine ⟨i, h, by omega, fun m => ?_⟩
  split <;> omega
 ·refine ⟨i + 1, h, by omega, fun m => ?_⟩
  split <;> omega
theorem Ow.drop (h : Ow G H L) (j : Nat) : Ow G H (L.eraseIdx j) := by
 refine ⟨h.fro, fun i x hx => ?_, fun i i' x x' hii hx hx' => ?_, fun i x hx => ?_⟩
 ·obtain ⟨m, hm, _⟩ := z5g hx; exact h.ok m x hm
 ·obtain ⟨m, hm, _, h1⟩ := z5g hx
  obtain ⟨m', hm', _, h2⟩ := z5g hx'
  refine h.dis m m' x x' (fun e => hii ?_) hm hm'
  have a := (h1 i).2 rfl
  have b := (h2 i').2 rfl
  rw [<- e] at b
  exact ((h1 i').1 b).symm
 ·obtain ⟨m, hm, _⟩ := z5g hx; exact h.apart m x hm
theorem Ow.freeze (h : Ow G H L) (hj : L[j]? = some e) : ∃ G', Ow G' H (L.eraseIdx j) /\ G.le G' /\ ∀ b ∈ e.foot, G' b = H.get b := by
 classical
 refine ⟨fun b => if b ∈ e.foot then H.get b else G b, ?_, fun b k hb => ?_, fun b hb => by simp [hb]⟩
 ·have hle : G.le fun b => if b ∈ e.foot then H.get b else G b := fun b k hb => by
   by_cases hc : b ∈ e.foot
   ·have := h.apart j e hj b hc; rw [hb] at this; cases this
   ·simp [hc, hb]
  refine (h.drop j).le (fun _ b k hb => ?_) hle fun i x hx b hb => ?_
  ·by_cases hc : b ∈ e.foot
   ·simpa [hc] using hb
   ·exact h.fro b k (by simpa [hc] using hb)
  ·obtain ⟨m, hm, hne, _⟩ := z5g hx
   have hc : b ∉ e.foot := h.dis m j x e hne hm hj b hb
   simp [hc, h.apart m x hm b hb]
 ·by_cases hc : b ∈ e.foot
  ·have := h.apart j e hj b hc; rw [hb] at this; cases this
  ·simp [hc, hb]
theorem Ow.front (h : Ow G H L) (hj : L[j]? = some e) : Ow G H (e :: L.eraseIdx j) := by
 have d := h.drop j
 refine ⟨h.fro, fun i x hx => ?_, fun i i' x x' hii hx hx' b hb => ?_, fun i x hx => ?_⟩
 ·cases i with
  | zero => simp at hx; subst hx; exact h.ok j _ hj
  | succ i => exact d.ok i x (by simpa using hx)
 ·cases i with
  | zero =>
   simp at hx; subst hx
   cases i' with
   | zero => exact absurd rfl hii
   | succ i' =>
    obtain ⟨m, hm, hne, _⟩ := z5g (by simpa using hx')
    exact h.dis j m _ x' (fun e => hne e.symm) hj hm b hb
  | succ i =>
   cases i' with
   | zero =>
    simp at hx'; subst hx'
    obtain ⟨m, hm, hne, _⟩ := z5g (by simpa using hx)
    exact h.dis m j x _ hne hm hj b hb
   | succ i' => exact d.dis i i' x x' (by omega) (by simpa using hx) (by simpa using hx') b hb
 ·cases i with
  | zero => simp at hx; subst hx; exact h.apart j _ hj
  | succ i => exact d.apart i x (by simpa using hx)
def Pc.pin (e : Pc) (M0 : GM) : Pc := ⟨e.foot, fun _ M => ∀ b ∈ e.foot, M b = M0 b /\ ∃ k, M0 b = some k, fun _ h => h, fun hl h b hb => by rw [hl b hb]; exact h b hb, fun h b hb => by obtain ⟨h1, k, hk⟩ := h b hb; exact ⟨k, by rw [h1, hk]⟩⟩
theorem Ow.re {L2 : List Pc} (h : Ow G H L) (hl : ∀ (i : Nat) (x : Pc), L2[i]? = some x -> ∃ y : Pc, L[i]? = some y /\ y.foot = x.foot /\ (y.ok G H.get -> x.ok G H.get)) : Ow G H L2 := by
 refine ⟨h.fro, fun i x hx => ?_, fun i i' x x' hii hx hx' => ?_, fun i x hx => ?_⟩
 ·obtain ⟨y, hy, _, h1⟩ := hl i x hx; exact h1 (h.ok i y hy)
 ·obtain ⟨y, hy, e1, _⟩ := hl i x hx
  obtain ⟨y', hy', e2, _⟩ := hl i' x' hx'
  rw [<- e1, <- e2]; exact h.dis i i' y y' hii hy hy'
 ·obtain ⟨y, hy, e1, _⟩ := hl i x hx
  rw [<- e1]; exact h.apart i y hy
theorem Ow.pin {ps : List Pc} (h : Ow G H (ps ++ L)) : Ow G H (ps ++ L.map fun e => e.pin H.get) := by
 refine h.re fun i x hx => ?_
 rw [List.getElem?_append] at hx ⊢
 split at hx
 ·exact ⟨x, by rw [if_pos (by assumption)]; exact hx, rfl, fun h => h⟩
 ·rename_i hi
  rw [List.getElem?_map] at hx
  obtain ⟨e, he, rfl⟩ := Option.map_eq_some_iff.1 hx
  exact ⟨e, by rw [if_neg hi]; exact he, rfl, fun ho b hb => ⟨rfl, e.bnd ho b hb⟩⟩
theorem Ow.unpin {ps ps' : List Pc} (h : Ow G H (ps ++ L)) (hG : G.le G') (h' : Ow G' H1 (ps' ++ L.map fun e => e.pin H.get)) : Ow G' H1 (ps' ++ L) /\ Same G L H H1 := by
 have hL : ∀ (i : Nat) (e : Pc), L[i]? = some e -> e.ok G H.get /\ (∀ b ∈ e.foot, H1.get b = H.get b) := fun i e he => by
  have e1 : (ps ++ L)[ps.length + i]? = some e := by rw [List.getElem?_append_right (by omega)]; simpa using he
  have e2 : (ps' ++ L.map fun e => e.pin H.get)[ps'.length + i]? = some (e.pin H.get) := by rw [List.getElem?_append_right (by omega)]; simp [he]
  exact ⟨h.ok _ _ e1, fun b hb => (h'.ok _ _ e2 b hb).1⟩
 refine ⟨h'.re fun i x hx => ?_, fun b hb => ?_⟩
 ·rw [List.getElem?_append] at hx ⊢
  split at hx
  ·exact ⟨x, by rw [if_pos (by assumption)]; exact hx, rfl, fun h => h⟩
  ·rename_i hi
   obtain ⟨k1, k2⟩ := hL _ _ hx
   exact ⟨x.pin H.get, by rw [if_neg hi, List.getElem?_map, hx]; rfl, rfl, fun _ => x.loc k2 (x.mono hG k1)⟩
 ·rcases hb with ⟨k, hk⟩ | ⟨i, e, hi, hb⟩
  ·rw [h.fro b k hk]; exact h'.fro b k (hG b k hk)
  ·exact (hL i e hi).2 b hb
end
def eVar {α : Type} (b : Nat) (e : TypeId) (r : RT α) (x : α) : Pc :=
 ⟨[b], fun G M => ∃ cs, M b = some ⟨cs, e, 1, true⟩ /\ r.rep G cs x, fun hG ⟨cs, h1, h2⟩ => ⟨cs, h1, r.mono hG h2⟩, fun hl ⟨cs, h1, h2⟩ => ⟨cs, by rw [hl b (by simp), h1], h2⟩, fun ⟨cs, h1, _⟩ c hc => by simp at hc; subst hc; exact ⟨_, h1⟩⟩
def z76 : Value -> List Nat
 | .slice (some a) _ _ => [a.block]
 | _ => []
def SlO (e : TypeId) (sz : Nat) (M : GM) (v : Value) (es : List (List Value)) : Prop :=
 (v = .slice none 0 0 /\ es = []) \/ ∃ b tg cap rest sz', v = .slice (some ⟨b, 0, tg⟩) es.length cap /\ M b = some ⟨es.flatten ++ rest, e, sz', true⟩ /\ (es.flatten ++ rest).length = cap * sz /\ es.length <= cap /\ ((tg = none /\ sz' = sz) \/ tg = some 0)
def eSl {α : Type} (v : Value) (e : TypeId) (r : RT α) (xs : List α) : Pc :=
 ⟨z76 v, fun G M => ∃ es, SlO e r.sz M v es /\ All2 (r.rep G) es xs, fun hG ⟨es, h1, h2⟩ => ⟨es, h1, h2.mono fun _ _ => r.mono hG⟩,
  fun hl ⟨es, h1, h2⟩ => ⟨es, by
   rcases h1 with h1 | ⟨b, tg, cap, rest, sz', rfl, hb, h⟩
   ·exact .inl h1
   ·exact .inr ⟨b, tg, cap, rest, sz', rfl, by rw [hl b (by simp [z76]), hb], h⟩, h2⟩,
  fun ⟨es, h1, _⟩ c hc => by
   rcases h1 with ⟨rfl, _⟩ | ⟨b, tg, cap, rest, sz', rfl, hb, h⟩
   ·simp [z76] at hc
   ·simp [z76] at hc; subst hc; exact ⟨_, hb⟩⟩
section
variable {α β : Type} {r : RT α} {s : RT β} {G : GM} {H H1 : AH} {L : List Pc} {v : Value} {x : α} {xs : List α} {e : TypeId} {b j : Nat}
theorem SlO.slG {e : TypeId} {sz : Nat} {M : GM} {es : List (List Value)} (h : SlO e sz M v es) (hs : ∀ x ∈ es, x.length = sz) : SlG M sz v es := by
 rcases h with ⟨rfl, rfl⟩ | ⟨b, tg, cap, rest, sz', rfl, hb, h1, h2, h3⟩
 ·exact ⟨hs, .inl ⟨rfl, rfl⟩⟩
 ·refine ⟨hs, .inr (.inl ⟨b, 0, tg, cap, _, rfl, hb, ?_, ?_, h2, ?_⟩)⟩
  ·simp [z4u hs]
  ·rw [List.drop_zero, <- z4u hs, List.take_left]
  ·rcases h3 with h | h
   ·exact .inl h.1
   ·exact .inr h
theorem Ow.atVar (h : Ow G H L) (hj : L[j]? = some (eVar b e r x)) : At G H.get (.pointer (some ⟨b, 0, none⟩)) r x := by
 obtain ⟨cs, h1, h2⟩ := h.ok j _ hj
 exact ⟨cs, ⟨b, 0, _, rfl, h1, by simp, by simp⟩, h2⟩
theorem Ow.slLen (h : Ow G H L) (hj : L[j]? = some (eSl v e r xs)) : zgp v xs.length := by
 obtain ⟨es, h1, h2⟩ := h.ok j _ hj
 rw [<- h2.length]; exact (h1.slG h2.each).isSl
theorem Ow.atSl {i : Nat} (h : Ow G H L) (hj : L[j]? = some (eSl v e r xs)) (hi : xs[i]? = some x) : At G H.get (z4t v (i * r.sz)) r x := by
 obtain ⟨es, h1, h2⟩ := h.ok j _ hj
 obtain ⟨c, hc, hr⟩ := h2.get hi
 exact ⟨c, (h1.slG h2.each).idx hc, hr⟩
theorem Ow.frzSl (h : Ow G H L) (hj : L[j]? = some (eSl v e r xs)) : ∃ G', Ow G' H (L.eraseIdx j) /\ G.le G' /\ (rSl r).rep G' [v] xs := by
 obtain ⟨G', h1, h2, h3⟩ := h.freeze hj
 obtain ⟨es, h4, h5⟩ := h.ok j _ hj
 refine ⟨G', h1, h2, v, es, rfl, SlO.slG (e := e) ?_ h5.each, h5.mono fun _ _ => r.mono h2⟩
 rcases h4 with h4 | ⟨b, tg, cap, rest, sz', rfl, hb, h⟩
 ·exact .inl h4
 ·exact .inr ⟨b, tg, cap, rest, sz', rfl, (h3 b (by simp [eSl, z76])).trans hb, h⟩
end
def CR (P : Program) (f : FuncId) (args : List Value) (G : GM) (H : AH) (L : List Pc) (Φ : Value -> GM -> AH -> Prop) : Prop :=
 ∃ v H' G', ACalls P f args H v H' /\ Ow G' H' L /\ G.le G' /\ Φ v G' H'
def Loud (P : Program) (n : Nat) (o : Oper) (σ : Nat -> Value) (H : AH) (Φ : Value -> AH -> Prop) : Prop := ∃ v H1, StepOk P o (toL n σ) H v H1 /\ Φ v H1
section
variable {P : Program} {n : Nat} {σ : Nat -> Value} {H H1 : AH} {ops : Array Oper} {l : List Oper} {Q : (Nat -> Value) -> AH -> Prop} {d : Tmp} {dd : Option Tmp} {ty t yt e : TypeId} {pos : String} {af : Array Edge} {g : Option (Nat × Bool)} {v u w : Value} {x y c : Operand}
 {M : List Nat} {R : z6o} {LL : z73} {i : Nat} {op : Op} {Φ : Value -> AH -> Prop} {G : GM} {L : List Pc}
theorem W.lo (hg : gok n ops σ g true) (hd : dok n dd = true) (hs : Loud P n ⟨dd, op, ty, pos, af, g⟩ σ H Φ) (hr : ∀ v H1, Φ v H1 -> AWO P n ops l (upo σ dd v) H1 Q) : AWO P n ops (⟨dd, op, ty, pos, af, g⟩ :: l) σ H Q := by
 obtain ⟨v, H1, h1, h2⟩ := hs
 exact .step (z17 hg) hd h1 (hr v H1 h2)
theorem D.lo (hg : gok n ops σ g true) (hd : dok n dd = true) (hs : Loud P n ⟨dd, op, ty, pos, af, g⟩ σ H Φ) (hR : ∀ v H1, Φ v H1 -> ∀ r ∈ R, (M.getD i 0).testBit r.1 = true \/ H1.get r.2 = H.get r.2) (hL : ∀ q ∈ LL, (M.getD i 0).testBit q.1 = true)
  (hr : ∀ v H1, Φ v H1 -> AWD P n ops M l (i + 1) R ((i, H, H1) :: LL) (upo σ dd v) H1 Q) : AWD P n ops M (⟨dd, op, ty, pos, af, g⟩ :: l) i R LL σ H Q := by
 obtain ⟨v, H1, h1, h2⟩ := hs
 exact D.loud hg hd h1 (hR v H1 h2) hL (hr v H1 h2)
theorem faR1 {m j b : Nat} {R : z6o} {A B : AH} (h : m.testBit j = true \/ B.get b = A.get b) (hl : ∀ r ∈ R, m.testBit r.1 = true \/ B.get r.2 = A.get r.2) : ∀ r ∈ (j, b) :: R, m.testBit r.1 = true \/ B.get r.2 = A.get r.2 := zbi h hl
theorem D.load1' {r : List Value} (hg : gok n ops σ g true) (hd : (Nat.blt d n && ook n x) = true) (ha : z30 P t = some false) (hp : Pt H (oval σ x) (v :: r)) (hL : ∀ q ∈ LL, (M.getD i 0).testBit q.1 = true \/ q.2.2.get (z7j (oval σ x)) = q.2.1.get (z7j (oval σ x)))
  (hr : AWD P n ops M l (i + 1) ((i, z7j (oval σ x)) :: R) LL (up σ d v) H Q) : AWD P n ops M (⟨some d, .load t x, ty, pos, af, g⟩ :: l) i R LL σ H Q := by
 simp only [Bool.and_eq_true] at hd
 exact D.read hg hd.1 (zbg ha (z2s hd.2) hp) (z5e hd.2 hp) hL hr
theorem D.loadA' {N : Nat} {cs : List Value} (hg : gok n ops σ g true) (hd : (Nat.blt d n && ook n x) = true) (ha : z30 P t = some true) (hz : szT P t = some N) (hp : Pt H (oval σ x) cs) (hN : cs.length = N) (hL : ∀ q ∈ LL, (M.getD i 0).testBit q.1 = true \/ q.2.2.get (z7j (oval σ x)) = q.2.1.get (z7j (oval σ x)))
  (hr : AWD P n ops M l (i + 1) ((i, z7j (oval σ x)) :: R) LL (up σ d (.agg cs.toArray)) H Q) : AWD P n ops M (⟨some d, .load t x, ty, pos, af, g⟩ :: l) i R LL σ H Q := by
 simp only [Bool.and_eq_true] at hd
 exact D.read hg hd.1 (zbh ha hz (z2s hd.2) hp hN) (z5e hd.2 hp) hL hr
theorem Lo.callP {f : FuncId} {args : Array Operand} {ats : Array TypeId} {al : List Value} {fn : Func} {ps ps' : List Pc} {Ψ : Value -> GM -> Prop} (hd : args.toList.all (ook n) = true) (hf : P.funcs[f]? = some fn) (hnm : (fn.name == "runtime.NumGoroutine" || fn.body.isNone) = false)
  (ha : args.toList.map (oval σ) = al) (O : Ow G H (ps ++ L)) (hc : ∀ L, Ow G H (ps ++ L) -> CR P f al G H (ps' ++ L) fun v G' _ => Ψ v G') :
  Loud P n ⟨some d, .call ⟨.value (.func f), args, ats⟩, ty, pos, af, g⟩ σ H fun v H1 => ∃ G', Ow G' H1 (ps' ++ L) /\ G.le G' /\ Same G L H H1 /\ Ψ v G' := by
 obtain ⟨v, H1, G', h1, h2, h3, h4⟩ := hc _ O.pin
 obtain ⟨u1, u2⟩ := O.unpin h3 h2
 exact ⟨v, H1, z85 (fo := .func f) hd hf hnm ha h1, G', u1, h3, u2, h4⟩
theorem Lo.callvP {f : FuncId} {fo : Operand} {args : Array Operand} {ats : Array TypeId} {al : List Value} {a b : Array Value} {fn : Func} {ps ps' : List Pc} {Ψ : Value -> GM -> Prop} (hd : (ook n fo && args.toList.all (ook n)) = true) (hfo : oval σ fo = .func (.func f) a b) (hf : P.funcs[f]? = some fn) (hnm : (fn.name == "runtime.NumGoroutine" || fn.body.isNone) = false)
  (ha : args.toList.map (oval σ) = al) (O : Ow G H (ps ++ L)) (hc : ∀ L, Ow G H (ps ++ L) -> CR P f (a.toList ++ al ++ b.toList) G H (ps' ++ L) fun v G' _ => Ψ v G') :
  Loud P n ⟨some d, .call ⟨.value fo, args, ats⟩, ty, pos, af, g⟩ σ H fun v H1 => ∃ G', Ow G' H1 (ps' ++ L) /\ G.le G' /\ Same G L H H1 /\ Ψ v G' := by
 obtain ⟨v, H1, G', h1, h2, h3, h4⟩ := hc _ O.pin
 obtain ⟨u1, u2⟩ := O.unpin h3 h2
 exact ⟨v, H1, za7 hd hfo hf hnm ha h1, G', u1, h3, u2, h4⟩
def FnOk {α β : Type} (P : Program) (G : GM) (v : Value) (A : GM -> List Value -> α -> Prop) (B : GM -> Value -> β -> Prop) (F : α -> Option β) : Prop :=
 ∃ f a b fn, v = .func (.func f) a b /\ P.funcs[f]? = some fn /\ (fn.name == "runtime.NumGoroutine" || fn.body.isNone) = false ∧
  ∀ G1 H L vs x r, G.le G1 -> Ow G1 H L -> A G1 vs x -> F x = some r -> CR P f (a.toList ++ vs ++ b.toList) G1 H L fun v G' _ => B G' v r
theorem FnOk.le {α β : Type} {G G' : GM} {v : Value} {A : GM -> List Value -> α -> Prop} {B : GM -> Value -> β -> Prop} {F : α -> Option β} (h : FnOk P G v A B F) (e : G.le G') : FnOk P G' v A B F := by
 obtain ⟨f, a, b, fn, h1, h2, h3, h4⟩ := h
 exact ⟨f, a, b, fn, h1, h2, h3, fun G1 H L vs x r hG => h4 G1 H L vs x r (e.trans hG)⟩
theorem Lo.callF {α β : Type} {fo : Operand} {args : Array Operand} {ats : Array TypeId} {al : List Value} {A : GM -> List Value -> α -> Prop} {B : GM -> Value -> β -> Prop} {F : α -> Option β} {x0 : α} {r : β} (hd : (ook n fo && args.toList.all (ook n)) = true) (hfo : oval σ fo = v) (hu : FnOk P G v A B F)
  (ha : args.toList.map (oval σ) = al) (hA : A G al x0) (hF : F x0 = some r) (O : Ow G H L) :
  Loud P n ⟨some d, .call ⟨.value fo, args, ats⟩, ty, pos, af, g⟩ σ H fun v H1 => ∃ G', Ow G' H1 L /\ G.le G' /\ Same G L H H1 /\ B G' v r := by
 obtain ⟨f, a, b, fn, rfl, h2, h3, h4⟩ := hu
 exact Lo.callvP (ps := []) (ps' := []) hd hfo h2 h3 ha O fun L O => h4 G H L al x0 r (zAf _) O hA hF
theorem mc {xs : List Operand} {vs : List Value} (h : oval σ x = v) (hl : xs.map (oval σ) = vs) : (x :: xs).map (oval σ) = v :: vs := by simp [h, hl]
theorem mn : ([] : List Operand).map (oval σ) = [] := rfl
end
end
end Go.Am
/- What each operation does to typed data. -/
namespace Go.Am
open Go
noncomputable section
def PutAt {α β : Type} (r : RT α) (o : Nat) (s : RT β) (x : α) (y : β) (x' : α) : Prop := ∀ (G : GM) (cs c : List Value), r.rep G cs x -> s.rep G c y -> r.rep G (z2v cs o c) x' /\ o + s.sz <= r.sz
theorem Put.at {α β : Type} {r : RT α} {o : Nat} {s : RT β} {u : α -> β -> α} (h : Put r o s u) (x : α) (y : β) : PutAt r o s x y (u x y) := fun G cs c h1 h2 => h G cs x c y h1 h2
theorem PutAt.idx {α : Type} {r : RT α} {n i : Nat} {xs : List α} {y : α} (hi : i < xs.length) : PutAt (rArr n r) (i * r.sz) r xs y (xs.set i y) := fun G cs c h1 h2 => zi0 h1 hi h2
theorem PutAt.comp {α β γ : Type} {r : RT α} {s : RT β} {t : RT γ} {o o' : Nat} {f : α -> β} {u : α -> β -> α} {x : α} {y : γ} {z : β} (h : Proj r o s f) (hu : Put r o s u) (k : PutAt s o' t (f x) y z) : PutAt r (o + o') t x y (u x z) := fun G cs c h1 h2 => by
 obtain ⟨a1, a2⟩ := h G cs x h1
 obtain ⟨b1, b2⟩ := k G _ c a1 h2
 obtain ⟨c1, c2⟩ := hu G cs x _ _ h1 b1
 have e1 := r.len h1
 have e2 := t.len h2
 rw [z7u (by omega) (by omega)] at c1
 exact ⟨c1, by omega⟩
section
variable {P : Program} {n : Nat} {σ : Nat -> Value} {H H1 : AH} {ops : Array Oper} {l : List Oper} {d : Tmp} {dd : Option Tmp} {ty t xt yt e : TypeId} {pos : String} {af : Array Edge} {g : Option (Nat × Bool)} {v u w p : Value} {x y c : Operand}
 {G : GM} {L : List Pc} {j : Nat} {α β : Type} {r : RT α} {s : RT β}
theorem Lo.alloc {z : Value} {x0 : α} (hz : (P.info? e).bind (·.zero) = some z) (hs : z.cells.all z1m = true) (hr : ∀ G, r.rep G z.cells.toList x0) (O : Ow G H L) :
  Loud P n ⟨some d, .alloc e, ty, pos, af, g⟩ σ H fun v H1 => ∃ b, v = .pointer (some ⟨b, 0, none⟩) /\ Ow G H1 (eVar b e r x0 :: L) /\ Same G L H H1 := by
 have nb := NewB.push H ⟨z.cells.toList, e, 1, true⟩
 exact ⟨_, _, zdc hz hs, H.next, rfl, O.new nb _ rfl ⟨_, nb.get, hr _⟩, O.same nb.ext⟩
theorem Lo.box {x0 : α} (hd : ook n x = true) (hx : oval σ x = v) (hr : r.rep G v.cells.toList x0) (O : Ow G H L) :
  Loud P n ⟨some d, .box e x, ty, pos, af, g⟩ σ H fun v H1 => ∃ b, v = .pointer (some ⟨b, 0, none⟩) /\ Ow G H1 (eVar b e r x0 :: L) /\ Same G L H H1 := by
 have nb := NewB.push H ⟨v.cells.toList, e, 1, true⟩
 refine ⟨.pointer (some ⟨H.next, 0, none⟩), H.push (some ⟨v.cells.toList, e, 1, true⟩), z3m ?_, H.next, rfl, O.new nb _ rfl ⟨_, nb.get, hr⟩, O.same nb.ext⟩
 simp [z9w, z2y, z5t, z3t, oo hd hx, MK.val]
theorem zab {z : Array Value} : ∀ m, z3l z (m * z.size) = (List.replicate m z.toList).flatten := by
 intro m
 unfold z3l
 split
 ·rename_i h1
  obtain ⟨a, ha⟩ := List.length_eq_one_iff.1 (show z.toList.length = 1 by rw [Array.length_toList]; exact h1)
  have hz : z = #[a] := by apply Array.ext'; rw [ha]
  subst hz
  show List.replicate (m * 1) a = (List.replicate m [a]).flatten
  rw [Nat.mul_one]
  induction m with
  | zero => rfl
  | succ m ih => rw [List.replicate_succ, List.replicate_succ, List.flatten_cons, ih]; rfl
 ·simp only [Array.toList_map, Array.toList_range]
  induction m with
  | zero => simp
  | succ m ih =>
   rw [List.replicate_succ', List.flatten_append, <- ih, Nat.add_mul, Nat.one_mul, List.range_add, List.map_append]
   congr 1
   simp only [List.map_map, List.flatten_cons, List.flatten_nil, List.append_nil]
   apply List.ext_getElem
   ·simp
   ·intro i h1 h2
    simp at h1
    simp only [List.getElem_map, List.getElem_range, Function.comp]
    rw [Nat.mul_add_mod_self_right, Nat.mod_eq_of_lt h1, getElem!_pos z i h1]
    simp
theorem Lo.makeSlice {a c : Int} {k1 k2 : IntKind} {z : Value} {x0 : α} {c1 : Nat} (hd : (ook n x && ook n y) = true) (he : z7m P t = some e) (hz : (P.info? e).bind (·.zero) = some z) (hsz : szT P e = some r.sz) (hsc : (z.cells.all z1m && (z.cells.size != 0)) = true) (hzs : z.cells.size = r.sz)
  (hby : ((P.info? e).map (·.bytes)) = some c1) (hb : c1 <= 1048576) (hx : oval σ x = .int k1 a) (hy : oval σ y = .int k2 c) (h : 0 <= a /\ a <= c /\ c <= 16777216) (hr : ∀ G, r.rep G z.cells.toList x0) (O : Ow G H L) :
  Loud P n ⟨some d, .makeSlice t x y, ty, pos, af, g⟩ σ H fun v H1 => Ow G H1 (eSl v e r (List.replicate a.toNat x0) :: L) /\ Same G L H H1 := by
 simp only [Bool.and_eq_true] at hd
 obtain ⟨inf, hi, hsz⟩ := z4z hsz
 simp only [hi, Option.bind_some, Option.map_some, Option.some.injEq] at hz hby
 subst hby
 obtain ⟨h0, h1, h2⟩ := h
 have nb := NewB.push H ⟨z3l z.cells (c.toNat * inf.size), e, 1, true⟩
 refine ⟨.slice (some ⟨H.next, 0, some 0⟩) a.toNat c.toNat, H.push (some ⟨z3l z.cells (c.toNat * inf.size), e, 1, true⟩), z3m ?_, O.new nb _ rfl ?_, O.same nb.ext⟩
 ·have hbnd : inf.bytes * c.toNat <= 2 ^ 48 := Nat.le_trans (Nat.mul_le_mul hb (show c.toNat <= 16777216 by omega)) (by decide)
  have hbnd' : (inf.bytes : Int) * c <= 2 ^ 48 := by
   have : ((inf.bytes * c.toNat : Nat) : Int) <= ((2 ^ 48 : Nat) : Int) := Int.ofNat_le.2 hbnd
   rw [Int.natCast_mul, Int.toNat_of_nonneg (by omega)] at this
   simpa using this
  have hdec : (z.cells.all z1m && (z.cells.size != 0) && decide (0 <= a /\ a <= c /\ c <= 2 ^ 47 /\ (inf.bytes : Int) * c <= 2 ^ 48)) = true := by
   rw [hsc, Bool.true_and, decide_eq_true_iff]
   exact ⟨h0, h1, by omega, hbnd'⟩
  have hal : z3t P (toL n σ) ⟨some d, .makeSlice t x y, ty, pos, af, g⟩ = some (⟨z3l z.cells (c.toNat * inf.size), e, 1, true⟩, .sl a.toNat c.toNat (some 0)) := by
   simp only [z3t, z04 he, oo hd.1 hx, oo hd.2 hy, hi, hz, Option.bind_some, hdec, if_true]
  simp only [z9w, z2y, z5t, hal, MK.val]
 ·rw [hsz, <- hzs, zab] at nb ⊢
  refine ⟨List.replicate a.toNat z.cells.toList, .inr ⟨H.next, some 0, c.toNat, (List.replicate (c.toNat - a.toNat) z.cells.toList).flatten, 1, by simp, ?_, ?_, by simp; omega, .inr rfl⟩, All2.replicate (hr _) _⟩
  ·rw [nb.get, <- List.flatten_append, List.replicate_append_replicate]; congr 5; omega
  ·rw [<- List.flatten_append, List.replicate_append_replicate, z4u (sz := r.sz) (by intro q hq; rw [List.mem_replicate] at hq; rw [hq.2]; simpa using hzs)]
   rw [List.length_replicate]; congr 1; omega
theorem zdg (c : List Value) : ∀ (off k : Nat) (cs : Array Value), off + k + c.length <= cs.size -> ((c.zipIdx k).foldl (fun cs p => cs.setIfInBounds (off + p.2) p.1) cs) = (cs.toList.take (off + k) ++ c ++ cs.toList.drop (off + k + c.length)).toArray := by
 induction c with
 | nil => intro off k cs h; simp
 | cons a c ih =>
  intro off k cs h
  simp only [List.length_cons] at h
  simp only [List.zipIdx_cons, List.foldl_cons]
  rw [ih off (k + 1) _ (by simp; omega)]
  have t1 : (cs.toList.set (off + k) a).take (off + k + 1) = cs.toList.take (off + k) ++ [a] := by
   rw [List.take_add_one, List.take_set_of_le (Nat.le_refl _), List.getElem?_set_self (by simp; omega)]; rfl
  have t2 : (cs.toList.set (off + k) a).drop (off + k + 1 + c.length) = cs.toList.drop (off + k + 1 + c.length) := List.drop_set_of_lt (by omega)
  rw [Array.toList_setIfInBounds, show off + (k + 1) = off + k + 1 by omega, t1, t2]
  simp [Nat.add_assoc, Nat.add_comm 1]
theorem zbk {place : Nat -> Option (Nat × Nat)} {cells : Array Value} {i off : Nat} {v : Value} {rest : List (Nat × Value)} (hp : place i = some (off, v.cells.size)) (hf : off + v.cells.size <= cells.size) :
  Instr.fill place cells ((i, v) :: rest) = Instr.fill place (z2v cells.toList off v.cells.toList).toArray rest := by
 rw [Instr.fill, hp]
 simp only
 rw [if_neg (by simp; omega)]
 congr 1
 have := zdg v.cells.toList off 0 cells (by simpa using hf)
 simp only [Nat.add_zero] at this
 rw [z2v, <- this, <- Array.foldl_toList, Array.toList_zipIdx]
theorem zav {sz : Nat} : ∀ (vs : List Value) (k : Nat) (cells : List Value) (pre : List (List Value)), pre.length = k -> (∀ c ∈ pre, c.length = sz) -> (∀ v ∈ vs, v.cells.size = sz) -> cells.length = (k + vs.length) * sz -> cells.take (k * sz) = pre.flatten ->
  Instr.fill (fun j => some (j * sz, sz)) cells.toArray (vs.zipIdx k |>.map fun p => (p.2, p.1)) = some ((pre ++ vs.map fun v => v.cells.toList).flatten).toArray
 | [], k, cells, pre, hk, hpre, _, hl, ht => by
  simp only [List.zipIdx_nil, List.map_nil, Instr.fill, List.append_nil]
  rw [<- ht, List.take_of_length_le (by simp at hl; omega)]
 | v :: vs, k, cells, pre, hk, hpre, hv, hl, ht => by
  have hvs := hv v (by simp)
  have e1 : (k + (vs.length + 1)) * sz = k * sz + sz + vs.length * sz := by rw [Nat.add_mul, Nat.add_mul, Nat.one_mul]; omega
  have hl' : cells.length = k * sz + sz + vs.length * sz := by rw [hl, <- e1]; simp
  simp only [List.zipIdx_cons, List.map_cons]
  rw [zbk (off := k * sz) (by simp [hvs]) (by simp; omega)]
  have hvl : v.cells.toList.length = sz := by simpa using hvs
  have := zav vs (k + 1) (z2v cells (k * sz) v.cells.toList) (pre ++ [v.cells.toList]) (by simp [hk]) (by
   intro c hc; rcases List.mem_append.1 hc with h | h
   ·exact hpre c h
   ·simp at h; subst h; exact hvl) (fun u hu => hv u (by simp [hu])) (by rw [z4x (by omega), hl', Nat.add_mul, Nat.add_mul, Nat.one_mul]) (by
   rw [z2v, ht]
   have e2 : (k + 1) * sz = (pre.flatten ++ v.cells.toList).length := by rw [List.length_append, z4u hpre, hvl, hk, Nat.add_mul, Nat.one_mul]
   rw [e2, List.take_left]; simp)
  simp only [List.toList_toArray] at this ⊢
  rw [this]
  simp
theorem Lo.buildSlice {N : Nat} {ps : Array (Nat × Operand)} {vs : List Value} {xs : List α} {z : Value} (he : z7m P t = some e) (hz : (P.info? e).bind (·.zero) = some z) (hsz : szT P e = some r.sz) (hsc : (z.cells.all z1m && (z.cells.size != 0) && decide (N * r.sz <= 2 ^ 24)) = true)
  (ho : (ps.toList.all fun p => ook n p.2) = true) (hps : ps.toList.map (fun p => (p.1, oval σ p.2)) = (vs.zipIdx.map fun p => (p.2, p.1))) (hN : vs.length = N) (hr : All2 (fun v x => r.rep G v.cells.toList x) vs xs) (O : Ow G H L) :
  Loud P n ⟨some d, .buildSlice t N ps, ty, pos, af, g⟩ σ H fun v H1 => Ow G H1 (eSl v e r xs :: L) /\ Same G L H H1 := by
 obtain ⟨inf, hi, hsz⟩ := z4z hsz
 simp only [hi, Option.bind_some] at hz
 have hcs : All2 (r.rep G) (vs.map fun v => v.cells.toList) xs := by
  clear hps hN
  induction hr with
  | nil => exact .nil
  | cons h1 _ ih => exact .cons h1 ih
 have hvs : ∀ v ∈ vs, v.cells.size = r.sz := fun v hv => by
  have := hcs.each v.cells.toList (List.mem_map.2 ⟨v, hv, rfl⟩)
  simpa using this
 have hf : Instr.fill (fun j => some (j * r.sz, r.sz)) (z3l z.cells (N * r.sz)).toArray (vs.zipIdx.map fun p => (p.2, p.1)) = some (vs.map fun v => v.cells.toList).flatten.toArray := by
  have := zav (sz := r.sz) vs 0 (z3l z.cells (N * r.sz)) [] rfl (by simp) hvs (by simp [z5u, hN]) (by simp)
  simpa using this
 have nb := NewB.push H ⟨(vs.map fun v => v.cells.toList).flatten, e, 1, true⟩
 refine ⟨.slice (some ⟨H.next, 0, some 0⟩) N N, H.push (some ⟨(vs.map fun v => v.cells.toList).flatten, e, 1, true⟩), z3m ?_, O.new nb _ rfl ?_, O.same nb.ext⟩
 ·have hal : z3t P (toL n σ) ⟨some d, .buildSlice t N ps, ty, pos, af, g⟩ = some (⟨(vs.map fun v => v.cells.toList).flatten, e, 1, true⟩, .sl N N (some 0)) := by
   simp only [z3t, z04 he, hi, hz, Option.bind_some, hsz, hsc, if_true, z4v ho hps, hf, Option.map_some]
  simp only [z9w, z2y, z5t, hal, MK.val]
 ·refine ⟨_, .inr ⟨H.next, some 0, N, [], 1, by simp [hN], by simpa using nb.get, ?_, by simp [hN], .inr rfl⟩, hcs⟩
  rw [List.append_nil, hcs.flatLen, <- hr.length, hN]
theorem Lo.storeVar {b o : Nat} {x0 x1 : α} {y0 : β} (hj : L[j]? = some (eVar b e r x0)) (hp : PutAt r o s x0 y0 x1) (hd : (ook n x && ook n y) = true) (hz : szT P t = some s.sz) {off : Nat} (hx : oval σ x = .pointer (some ⟨b, off, none⟩)) (ho : off = o) (hy : oval σ y = v) (hv : s.rep G v.cells.toList y0) (O : Ow G H L) :
  Loud P n ⟨dd, .store t x y, ty, pos, af, g⟩ σ H fun v H1 => Ow G H1 (L.set j (eVar b e r x1)) /\ ∀ b', b' ≠ b -> H1.get b' = H.get b' := by
 subst ho
 obtain ⟨cs, h1, h2⟩ := O.ok j _ hj
 obtain ⟨p1, p2⟩ := hp G cs _ h2 hv
 have hsz : v.cells.size = s.sz := by simpa using s.len hv
 obtain ⟨H1, h3, h4⟩ := za8 (P := P) (dd := dd) (ty := ty) (pos := pos) (af := af) (g := g) hd hz hx hy h1 rfl hsz (s.one hv) (by have := r.len h2; simp; omega)
 refine ⟨_, H1, h4, O.put hj _ (fun b' hb' => .inl hb') ⟨_, h3.get, p1⟩ (fun b' k hk hb' => h3.old hk (by simpa [eVar] using hb')), h3.other⟩
theorem zgs {sz : Nat} {es2 : List (List Value)} (h : SlG H.get sz w es2) : asrc w sz H.get none = some (es2.length, es2.flatten) := za9 h.sl
theorem Lo.append {c1 : Nat} {z : Value} {xs ys : List α} {es2 : List (List Value)} (hj : L[j]? = some (eSl v e r xs)) (hd : (ook n x && ook n y) = true) (he : z7m P t = some e) (hxt : z8q P xt = true) (hz : (P.info? e).bind (·.zero) = some z) (hsz : szT P e = some r.sz) (hby : ((P.info? e).map (·.bytes)) = some c1)
  (hzs : (decide (z.cells.size = r.sz) && decide (0 < r.sz)) = true) (hc1 : c1 <= 1048576) (hx : oval σ x = v) (hw : SlG H.get r.sz (oval σ y) es2) (hr : All2 (r.rep G) es2 ys) (hlen : xs.length + ys.length <= 16777216) (O : Ow G H L) :
  Loud P n ⟨some d, .call ⟨.builtin .append, #[x, y], #[t, xt]⟩, ty, pos, af, g⟩ σ H fun v' H1 => Ow G H1 (L.set j (eSl v' e r (xs ++ ys))) /\ (∀ b, (H.get b).isSome = true -> b ∉ z76 v -> H1.get b = H.get b) := by
 simp only [Bool.and_eq_true] at hd
 obtain ⟨inf, hi, hsz⟩ := z4z hsz
 simp only [hi, Option.bind_some, Option.map_some, Option.some.injEq] at hz hby
 subst hby
 simp only [Bool.and_eq_true, decide_eq_true_eq] at hzs
 obtain ⟨es, hso, hre⟩ := O.ok j _ hj
 have e1 := hre.length
 have e2 := hr.length
 have hbytes : ∀ m, m <= 16777216 -> m * inf.bytes <= 2 ^ 47 := fun m hm => Nat.le_trans (Nat.mul_le_mul hm hc1) (by decide)
 have hcond : (z8q P xt && decide (z.cells.size = inf.size) && decide (0 < inf.size)) = true := by simp [hxt, hzs, hsz]
 have hok := hr.okFlat
 have hsrc : asrc (oval σ y) inf.size H.get none = some (es2.length, es2.flatten) := by rw [hsz]; exact zgs hw
 have hfl := z4u hre.each
 have hfl2 := z4u hr.each
 have key : ∃ v' H1, z4c P #[t, xt] v (oval σ y) H = some (v', H1) /\ (∀ b ∈ z76 v', b ∈ z76 v \/ H.next <= b) /\ SlO e r.sz H1.get v' (es ++ es2) /\ (∀ b k, H.get b = some k -> b ∉ z76 v -> H1.get b = some k) := by
  rcases hso with ⟨rfl, rfl⟩ | ⟨b, tg, cap, rest, sz', rfl, hb, hl, hcap, htg⟩
  ·by_cases hn : es2.length = 0
   ·have : es2 = [] := List.length_eq_zero_iff.1 hn
    subst this
    refine ⟨.slice none 0 0, H, ?_, fun b hb => .inl hb, .inl ⟨rfl, rfl⟩, fun b k hk _ => hk⟩
    simp only [z4c, List.getElem?_toArray, List.getElem?_cons_zero, List.getElem?_cons_succ, z04 he, hi, hz, Option.bind_some, hcond, if_true, hsrc]
    rw [if_pos hn]
   ·refine ⟨.slice (some ⟨H.next, 0, none⟩) es2.length es2.length, H.push (some ⟨es2.flatten, e, inf.size, true⟩), ?_, fun b hb => ?_, .inr ⟨H.next, none, es2.length, [], inf.size, by simp, by simpa using get_push_new H _, by simpa using hfl2, by simp, .inl ⟨rfl, hsz⟩⟩, fun b k hk _ => get_push_old hk⟩
    ·have h47 : es2.length <= 2 ^ 47 := by omega
     have hby2 := hbytes es2.length (by omega)
     simp only [z4c, List.getElem?_toArray, List.getElem?_cons_zero, List.getElem?_cons_succ, z04 he, hi, hz, Option.bind_some, hcond, if_true, hsrc]
     rw [if_neg hn, if_pos ⟨hby2, h47⟩]
    ·simp [z76] at hb; exact .inr (by omega)
  ·have hlt := z6z hb
   by_cases hn : es2.length = 0
   ·have : es2 = [] := List.length_eq_zero_iff.1 hn
    subst this
    refine ⟨.slice (some ⟨b, 0, tg⟩) es.length cap, H, ?_, fun b hb => .inl hb, .inr ⟨b, tg, cap, rest, sz', by simp, by simpa using hb, by simpa using hl, by simpa using hcap, htg⟩, fun b k hk _ => hk⟩
    simp only [z4c, List.getElem?_toArray, List.getElem?_cons_zero, List.getElem?_cons_succ, z04 he, hi, hz, Option.bind_some, hcond, if_true, hsrc]
    rw [if_pos ⟨hn, hcap⟩]
   ·have hnn : ¬ (es2.length = 0 /\ es.length <= cap) := fun h => hn h.1
    by_cases hroom : es.length + es2.length <= cap
    ·have hrl : rest.length = cap * r.sz - es.length * r.sz := by rw [List.length_append] at hl; omega
     have hm1 : (es.length + es2.length) * r.sz <= cap * r.sz := Nat.mul_le_mul_right _ hroom
     rw [Nat.add_mul] at hm1
     have sb := SetB.set (k' := ⟨z2v (es.flatten ++ rest) (0 + es.length * inf.size) es2.flatten, e, sz', true⟩) hb
     refine ⟨.slice (some ⟨b, 0, tg⟩) (es.length + es2.length) cap, _, ?_, fun b hb => .inl hb, .inr ⟨b, tg, cap, rest.drop (es2.length * r.sz), sz', by simp, ?_, ?_, by simpa using hroom, htg⟩, fun b' k hk hb' => sb.old hk (by simpa [z76] using hb')⟩
     ·simp only [z4c, List.getElem?_toArray, List.getElem?_cons_zero, List.getElem?_cons_succ, z04 he, hi, hz, Option.bind_some, hcond, if_true, hsrc]
      rw [if_neg hnn]
      simp only [hb, Option.bind_some]
      have hfit : 0 + (es.length + es2.length) * inf.size <= (es.flatten ++ rest).length := by rw [hl, hsz, Nat.add_mul]; omega
      rw [if_pos hroom, if_pos (by simp only [Bool.and_eq_true, decide_eq_true_eq]; exact ⟨⟨trivial, hok⟩, hfit⟩)]
     ·rw [sb.get]
      congr 2
      simp only [Nat.zero_add, z2v, hsz]
      rw [<- hfl, List.take_left, <- List.drop_drop, List.drop_left, hfl2]
      simp
     ·simp only [List.flatten_append, List.length_append, List.length_drop, hrl, hfl, hfl2]; omega
    ·have h47 : es.length + es2.length <= 2 ^ 47 := by omega
     have hby2 := hbytes _ (show es.length + es2.length <= 16777216 by omega)
     have hins : 0 + cap * inf.size <= (es.flatten ++ rest).length := by rw [hl, hsz]; omega
     have htk : ((es.flatten ++ rest).drop 0).take (es.length * inf.size) = es.flatten := by rw [List.drop_zero, hsz, <- hfl, List.take_left]
     rcases htg with ⟨rfl, rfl⟩ | rfl
     ·refine ⟨.slice (some ⟨H.next, 0, none⟩) (es.length + es2.length) (es.length + es2.length), (H.set b none).push (some ⟨es.flatten ++ es2.flatten, e, inf.size, true⟩), ?_, fun c hc => ?_, .inr ⟨H.next, none, es.length + es2.length, [], inf.size, by simp, ?_, by simp [hfl, hfl2, Nat.add_mul], by simp, .inl ⟨rfl, hsz⟩⟩, fun b' k hk hb' => ?_⟩
      ·simp only [z4c, List.getElem?_toArray, List.getElem?_cons_zero, List.getElem?_cons_succ, z04 he, hi, hz, Option.bind_some, hcond, if_true, hsrc]
       rw [if_neg hnn]
       simp only [hb, Option.bind_some]
       rw [if_neg hroom, if_pos ⟨hcap, hby2, h47, hins⟩, if_pos (by simp [hok, hsz])]
       simp only [htk]
      ·simp [z76, AH.set] at hc; exact .inr (by omega)
      ·have := get_push_new (H.set b none) (some ⟨es.flatten ++ es2.flatten, e, inf.size, true⟩)
       simpa [AH.set] using this
      ·apply get_push_old
       rw [z2u _ _ hb]
       have : b' ≠ b := by simpa [z76] using hb'
       simp [upd, this, hk]
     ·refine ⟨.slice (some ⟨H.next, 0, none⟩) (es.length + es2.length) (es.length + es2.length), H.push (some ⟨es.flatten ++ es2.flatten, e, inf.size, true⟩), ?_, fun c hc => ?_, .inr ⟨H.next, none, es.length + es2.length, [], inf.size, by simp, by simpa using get_push_new H _, by simp [hfl, hfl2, Nat.add_mul], by simp, .inl ⟨rfl, hsz⟩⟩, fun b' k hk _ => get_push_old hk⟩
      ·simp only [z4c, List.getElem?_toArray, List.getElem?_cons_zero, List.getElem?_cons_succ, z04 he, hi, hz, Option.bind_some, hcond, if_true, hsrc]
       rw [if_neg hnn]
       simp only [hb, Option.bind_some]
       rw [if_neg hroom, if_pos ⟨hcap, hby2, h47, hins⟩]
       simp only [htk]
      ·simp [z76] at hc; exact .inr (by omega)
 obtain ⟨v', H1, h1, h2, h3, h4⟩ := key
 refine ⟨v', H1, z3m ?_, O.put hj _ h2 ⟨_, h3, hre.append hr⟩ h4, fun b hb hf => ?_⟩
 ·simp only [z9w, z2y, z5t, z3t, z8d, List.toList_toArray, z2s hd.1, z2s hd.2, Option.bind_some, hx]
  exact h1
 ·obtain ⟨k, hk⟩ := Option.isSome_iff_exists.1 hb
  rw [hk]; exact h4 b k hk hf
theorem z3a {xs : List α} (hj : L[j]? = some (eSl v e r xs)) (O : Ow G H L) : ∃ es, SlG H.get r.sz v es /\ All2 (r.rep G) es xs := by
 obtain ⟨es, h1, h2⟩ := O.ok j _ hj
 exact ⟨es, h1.slG h2.each, h2⟩
theorem Ow.nilSl (O : Ow G H L) (e : TypeId) (r : RT α) : Ow G H (eSl (.slice none 0 0) e r [] :: L) := by
 refine ⟨O.fro, fun i x hx => ?_, fun i i' x x' hii hx hx' b hb => ?_, fun i x hx b hb => ?_⟩
 ·cases i with
  | zero => simp at hx; subst hx; exact ⟨[], .inl ⟨rfl, rfl⟩, .nil⟩
  | succ i => exact O.ok i x (by simpa using hx)
 ·cases i with
  | zero => simp at hx; subst hx; simp [eSl, z76] at hb
  | succ i =>
   cases i' with
   | zero => simp at hx'; subst hx'; simp [eSl, z76]
   | succ i' => exact O.dis i i' x x' (by omega) (by simpa using hx) (by simpa using hx') b hb
 ·cases i with
  | zero => simp at hx; subst hx; simp [eSl, z76] at hb
  | succ i => exact O.apart i x (by simpa using hx) b hb
end
theorem z2a {α : Type} {c : Prop} [Decidable c] {a : Option α} {r : α} (h : (if c then a else none) = some r) : c /\ a = some r := by
 split at h
 ·exact ⟨by assumption, h⟩
 ·cases h
theorem z03 {α : Type} {c : Prop} [Decidable c] {a b : Option α} {r : α} (hc : c) (h : (if c then a else b) = some r) : a = some r := by rwa [if_pos hc] at h
theorem z05 {α β : Type} {m : Option α} {f : α -> Option β} {r : β} (h : m.bind f = some r) : ∃ x, m = some x /\ f x = some r := zAc h
def lt {α β : Type} (x : α) (f : α -> Option β) : Option β := f x
theorem zgt {α β : Type} {x : α} {f : α -> Option β} {r : β} (h : lt x f = some r) : ∃ y, x = y /\ f y = some r := ⟨x, rfl, h⟩
def z5s {α β γ : Type} (m : Option (α ⊕ β)) (f : α -> Option γ) (g : β -> Option γ) : Option γ := m.bind fun x => match x with | .inl a => f a | .inr b => g b
def outS {α β γ : Type} (x : α ⊕ β) (f : α -> Option γ) (g : β -> Option γ) : Option γ := match x with | .inl a => f a | .inr b => g b
theorem z2t {α β γ : Type} {m : Option (α ⊕ β)} {f : α -> Option γ} {g : β -> Option γ} {r : γ} (h : z5s m f g = some r) : ∃ x, m = some x /\ outS x f g = some r := zAc h
def midQ (Φ : (Nat -> Value) -> AH -> Prop) (Q : QX) : QX := fun ex σ H => match ex with | .normal => Φ σ H | e => Q e σ H
end
end Go.Am
/- Rules that the printed walks over typed data use. -/
namespace Go.Am
open Go
noncomputable section
theorem z16 {α : Type} {c : Bool} {a b : Option α} {r : α} (hc : c = false) (h : (if c = true then a else b) = some r) : b = some r := by subst hc; exact h
theorem z09 {α : Type} {x : α} {p : Prop} (h : (none : Option α) = some x) : p := by cases h
theorem z4e {α β γ : Type} {a : α} {f : α -> Option γ} {g : β -> Option γ} {r : γ} (h : outS (.inl a) f g = some r) : f a = some r := h
theorem z6h {α β γ : Type} {b : β} {f : α -> Option γ} {g : β -> Option γ} {r : γ} (h : outS (.inr b) f g = some r) : g b = some r := h
def tu0 {β : Type} (g : Option β) : Unit -> Option β := fun _ => g
theorem z7v {β : Type} {g : Option β} {u : Unit} {r : β} (h : tu0 g u = some r) : g = some r := h
def tu1 {α β : Type} (g : α -> Option β) : α -> Option β := g
theorem z0b {α β : Type} {g : α -> Option β} {a : α} {r : β} (h : tu1 g a = some r) : g a = some r := h
def tu2 {α1 α2 β : Type} (g : α1 -> α2 -> Option β) : α1 × α2 -> Option β := fun p => g p.1 p.2
theorem z5o {α1 α2 β : Type} {g : α1 -> α2 -> Option β} {a1 : α1} {a2 : α2} {r : β} (h : tu2 g (a1, a2) = some r) : g a1 a2 = some r := h
theorem AW.midT {P : Program} {n : Nat} {σ : Nat -> Value} {H : AH} {x : Code} {Q : QX} (Φ : (Nat -> Value) -> AH -> Prop) (h : AW P n x σ H (midQ Φ Q)) (hr : ∀ σ' H', (∀ t, wrC x t = false -> σ' t = σ t) -> Φ σ' H' -> Q .normal σ' H') : AW P n x σ H Q :=
 h.mono fun ex σ' H' hf hq => by cases ex <;> first | exact hr σ' H' hf hq | exact hq
theorem CR.of {P : Program} {f : FuncId} {args : List Value} {G : GM} {H : AH} {L : List Pc} {Φ : Value -> GM -> AH -> Prop} (h : ∃ v H', ACalls P f args H v H' /\ ∃ G', Ow G' H' L /\ G.le G' /\ Φ v G' H') : CR P f args G H L Φ := by
 obtain ⟨v, H', h1, G', h2, h3, h4⟩ := h
 exact ⟨v, H', G', h1, h2, h3, h4⟩
def CRF (P : Program) (f : FuncId) (args : List Value) (G : GM) (H : AH) (LF : Value -> List Pc) (Φ : Value -> Value -> GM -> Prop) : Prop :=
 ∃ w v H' G', ACalls P f args H v H' /\ Ow G' H' (LF w) /\ G.le G' /\ Φ w v G'
theorem CRF.of {P : Program} {f : FuncId} {args : List Value} {G : GM} {H : AH} {LF : Value -> List Pc} {Φ : Value -> Value -> GM -> Prop} (h : ∃ v H', ACalls P f args H v H' /\ ∃ w G', Ow G' H' (LF w) /\ G.le G' /\ Φ w v G') : CRF P f args G H LF Φ := by
 obtain ⟨v, H', h1, w, G', h2, h3, h4⟩ := h
 exact ⟨w, v, H', G', h1, h2, h3, h4⟩
section
variable {α β : Type} {r : RT α} {s : RT β} {G M : GM} {v w u : Value} {x : α} {xs : List α} {H H1 : AH} {L : List Pc} {i j b : Nat} {e : TypeId}
theorem z0d {cs : List Value} (h : v = w) (p : PtG H.get w cs) : Pt H v cs := h ▸ p
theorem At.int {k : IntKind} {n : Int} (h : At G M v (rI k) n) : PtG M v [.int k n] := by obtain ⟨cs, h1, h2⟩ := h; have h2 : cs = _ := h2; rw [<- h2]; exact h1
theorem At.bool {n : Bool} (h : At G M v rB n) : PtG M v [.bool n] := by obtain ⟨cs, h1, h2⟩ := h; have h2 : cs = _ := h2; rw [<- h2]; exact h1
theorem At.str {n : zAd} (h : At G M v rS n) : PtG M v [.string n] := by obtain ⟨cs, h1, h2⟩ := h; have h2 : cs = _ := h2; rw [<- h2]; exact h1
theorem At.sl (h : At G M v (rSl r) xs) : ∃ w, PtG M v [w] /\ (rSl r).rep G [w] xs := by
 obtain ⟨cs, h1, w, es, rfl, h2, h3⟩ := h
 exact ⟨w, h1, w, es, rfl, h2, h3⟩
def rV : RT Value := ⟨1, fun _ cs v => cs = [v] /\ okCells [v] = true, fun h => by rw [h.1]; rfl, fun h => by rw [h.1]; exact h.2, fun _ h => h⟩
theorem zV (G : GM) : rV.rep G [.slice none 0 0] (.slice none 0 0) := ⟨rfl, rfl⟩
theorem At.raw {G M : GM} {v w : Value} (h : At G M v rV w) : PtG M v [w] := by obtain ⟨cs, h1, h2, _⟩ := h; rw [<- h2]; exact h1
theorem zi2 {G : GM} {v : Value} {n : Nat} (h : zgp v n) : rV.rep G v.cells.toList v := by
 rcases h with ⟨rfl, _⟩ | ⟨b, off, tg, cap, rfl⟩
 ·exact ⟨rfl, rfl⟩
 ·exact ⟨rfl, rfl⟩
theorem z5h {α : Type} {r : RT α} {G : GM} {v : Value} {xs : List α} (h : (rSl r).rep G [v] xs) : (rSl r).rep G v.cells.toList xs := by
 have h' := h
 obtain ⟨v', es, hv, h1, _⟩ := h
 cases hv
 rcases h1.isSl with ⟨rfl, _⟩ | ⟨b, off, tg, cap, rfl⟩
 ·exact h'
 ·exact h'
theorem zI (k : IntKind) (G : GM) : (rI k).rep G [.int k 0] 0 := rfl
theorem zB (G : GM) : rB.rep G [.bool false] false := rfl
theorem zS (G : GM) : rS.rep G [.string ByteArray.empty] ByteArray.empty := rfl
theorem zL {α : Type} {r : RT α} (G : GM) : (rSl r).rep G [.slice none 0 0] [] := zi1
def bidx (a : zAd) (i : Int) : Option Int := if 0 <= i then (a[i.toNat]?).map fun b => (b.toNat : Int) else none
def ssl (a : zAd) (l h : Int) : Option zAd := if 0 <= l /\ l <= h /\ h <= a.size then some (a.extract l.toNat h.toNat) else none
def lsl {α : Type} (a : List α) (l h : Int) : Option (List α) := if 0 <= l /\ l <= h /\ h <= a.length then some ((a.drop l.toNat).take (h.toNat - l.toNat)) else none
def z1l (a : zAd) : List Int := a.data.toList.map fun b => (b.toNat : Int)
def sEq (a b : zAd) : Bool := a.toList == b.toList
end
section
variable {P : Program} {n : Nat} {σ : Nat -> Value} {H H1 : AH} {ops : Array Oper} {l : List Oper} {d : Tmp} {dd : Option Tmp} {ty t xt yt e : TypeId} {pos : String} {af : Array Edge} {g : Option (Nat × Bool)} {v u w p : Value} {x y c z : Operand} {s : List Value}
 {G M : GM} {L : List Pc} {j : Nat} {α β : Type} {r : RT α} {q : RT β} {xs : List α} {x0 : α}
theorem z07 {f k : Nat} (hf : fldT P t f = some k) (hx : opnd s x = some v) (ha : At G M v r x0) : z2y P s ⟨some d, .fieldAddr t x f, ty, pos, af, g⟩ = some (padd v k) := by
 obtain ⟨cs, ⟨b, off, kk, rfl, _⟩, _⟩ := ha
 unfold fldT at hf
 split at hf
 ·rename_i fs hu
  obtain ⟨fld, hfl, hf⟩ := zAc hf
  obtain ⟨i, hi, hf⟩ := zAc hf
  split at hf
  ·cases hf
  ·rename_i hz
   cases hf
   simp [z2y, hx, z6w, hu, hfl, hi, hz, padd]
 ·cases hf
theorem zdh (hx : opnd s x = some v) (ha : At G M v r x0) : z2y P s ⟨some d, .nilCheck x, ty, pos, af, g⟩ = some v := by
 obtain ⟨cs, ⟨b, off, kk, rfl, _⟩, _⟩ := ha
 simp [z2y, hx, z94]
theorem zgu {k : IntKind} {i c : Int} {a : zAd} (ht : P.underlying t = some .string) (hx : opnd s x = some (.string a)) (hy : opnd s y = some (.int k i)) (hb : bidx a i = some c) : z2y P s ⟨some d, .index t x y, ty, pos, af, g⟩ = some (.int .u8 c) := by
 unfold bidx at hb
 split at hb
 ·rename_i h0
  obtain ⟨b, hb1, rfl⟩ := Option.map_eq_some_iff.1 hb
  have hc : ∀ b, closed (.string b) = true := fun _ => rfl
  have hi : ∀ k i, closed (.int k i) = true := fun _ _ => rfl
  have hq : (Instr.index t (.string a) (.int k i)).pureRun P = some (.int .u8 b.toNat) := by
   unfold Instr.index
   rw [z18]
   show Option.bind (some (k, i)) _ = _
   rw [Option.bind_some]
   simp only
   rw [z18, z2z ht, Option.bind_some]
   simp only [h0, if_true, hb1]
   rfl
  simp [z2y, hx, hy, agen, zcp, Op.operands, hc, hi, execOp, z18, z3f, z32, hq]
 ·cases hb
theorem zjo {k : IntKind} {a b : Int} (hb : b ≠ 0) (hx : opnd s x = some (.int k a)) (hy : opnd s y = some (.int k b)) : z2y P s ⟨some d, .binOp .quo t x y yt, ty, pos, af, g⟩ = some (.int k (z0p k (a.tdiv b))) :=
 z2g hx hy (by simp [aint, hb])
theorem zji {k : IntKind} {a b : Int} (hb : b ≠ 0) (hx : opnd s x = some (.int k a)) (hy : opnd s y = some (.int k b)) : z2y P s ⟨some d, .binOp .rem t x y yt, ty, pos, af, g⟩ = some (.int k (a.tmod b)) :=
 z2g hx hy (by simp [aint, hb])
theorem zc2 {a b : zAd} (hx : opnd s x = some (.string a)) (hy : opnd s y = some (.string b)) : z2y P s ⟨some d, .binOp .eql t x y yt, ty, pos, af, g⟩ = some (.bool (sEq a b)) := zgq hx hy rfl rfl
theorem zdi {a b : zAd} (hx : opnd s x = some (.string a)) (hy : opnd s y = some (.string b)) : z2y P s ⟨some d, .binOp .neq t x y yt, ty, pos, af, g⟩ = some (.bool (!(sEq a b))) := zgq hx hy rfl rfl
theorem z5a {a b : zAd} (hs : a.size + b.size <= 4611686018427387904) (hx : opnd s x = some (.string a)) (hy : opnd s y = some (.string b)) : z2y P s ⟨some d, .binOp .add t x y yt, ty, pos, af, g⟩ = some (.string (a ++ b)) := by
 refine zgq hx hy ?_ rfl
 unfold Op.stringOp
 have : ¬ ((a.size + b.size : Nat) : Int) > IntKind.i64.max := by
  have h : IntKind.i64.max = 9223372036854775807 := by decide
  rw [h]; omega
 simp only
 rw [if_neg this]
 rfl
theorem qn {k : Nat} : ([] : List (Nat × Operand)).map (fun p => (p.1, oval σ p.2)) = (([] : List Value).zipIdx k).map fun p => (p.2, p.1) := rfl
theorem qc {k : Nat} {ps : List (Nat × Operand)} {vs : List Value} (h : oval σ x = v) (hl : ps.map (fun p => (p.1, oval σ p.2)) = (vs.zipIdx (k + 1)).map fun p => (p.2, p.1)) : ((k, x) :: ps).map (fun p => (p.1, oval σ p.2)) = ((v :: vs).zipIdx k).map fun p => (p.2, p.1) := by
 simp [h, hl, List.zipIdx_cons]
theorem qn' : ([] : List (Nat × Operand)).map (fun p => (p.1, oval σ p.2)) = [] := rfl
theorem qc' {k : Nat} {ps : List (Nat × Operand)} {vs : List (Nat × Value)} (h : oval σ x = v) (hl : ps.map (fun p => (p.1, oval σ p.2)) = vs) : ((k, x) :: ps).map (fun p => (p.1, oval σ p.2)) = (k, v) :: vs := by
 simp [h, hl]
theorem Lo.callPF {f : FuncId} {args : Array Operand} {ats : Array TypeId} {al : List Value} {fn : Func} {ps : List Pc} {pw : Value -> List Pc} {Ψ : Value -> Value -> GM -> Prop} (hd : args.toList.all (ook n) = true) (hf : P.funcs[f]? = some fn) (hnm : (fn.name == "runtime.NumGoroutine" || fn.body.isNone) = false)
  (ha : args.toList.map (oval σ) = al) (O : Ow G H (ps ++ L)) (hc : ∀ L, Ow G H (ps ++ L) -> CRF P f al G H (fun w => pw w ++ L) Ψ) :
  Loud P n ⟨some d, .call ⟨.value (.func f), args, ats⟩, ty, pos, af, g⟩ σ H fun v H1 => ∃ w G', Ow G' H1 (pw w ++ L) /\ G.le G' /\ Same G L H H1 /\ Ψ w v G' := by
 obtain ⟨w, v, H1, G', h1, h2, h3, h4⟩ := hc _ O.pin
 obtain ⟨u1, u2⟩ := O.unpin (ps' := pw w) h3 h2
 exact ⟨v, H1, z85 (fo := .func f) hd hf hnm ha h1, w, G', u1, h3, u2, h4⟩
theorem Lo.callvPF {f : FuncId} {fo : Operand} {args : Array Operand} {ats : Array TypeId} {al : List Value} {a b : Array Value} {fn : Func} {ps : List Pc} {pw : Value -> List Pc} {Ψ : Value -> Value -> GM -> Prop} (hd : (ook n fo && args.toList.all (ook n)) = true) (hfo : oval σ fo = .func (.func f) a b) (hf : P.funcs[f]? = some fn) (hnm : (fn.name == "runtime.NumGoroutine" || fn.body.isNone) = false)
  (ha : args.toList.map (oval σ) = al) (O : Ow G H (ps ++ L)) (hc : ∀ L, Ow G H (ps ++ L) -> CRF P f (a.toList ++ al ++ b.toList) G H (fun w => pw w ++ L) Ψ) :
  Loud P n ⟨some d, .call ⟨.value fo, args, ats⟩, ty, pos, af, g⟩ σ H fun v H1 => ∃ w G', Ow G' H1 (pw w ++ L) /\ G.le G' /\ Same G L H H1 /\ Ψ w v G' := by
 obtain ⟨w, v, H1, G', h1, h2, h3, h4⟩ := hc _ O.pin
 obtain ⟨u1, u2⟩ := O.unpin (ps' := pw w) h3 h2
 exact ⟨v, H1, za7 hd hfo hf hnm ha h1, w, G', u1, h3, u2, h4⟩
theorem Lo.bytes {a : zAd} (hd : ook n x = true) (ht : P.underlying t = some .string) (he : z7m P xt = some e) (hi : intT P e = some .u8) (hx : oval σ x = .string a) (O : Ow G H L) :
  Loud P n ⟨some d, .convert t xt x, ty, pos, af, g⟩ σ H fun v H1 => ∃ G', Ow G' H1 L /\ G.le G' /\ Same G L H H1 /\ (rSl (rI .u8)).rep G' [v] (z1l a) := by
 have nb := NewB.push H ⟨a.data.toList.map fun b => .int .u8 b.toNat, e, 1, false⟩
 have hle : G.le fun c => if c = H.next then some ⟨a.data.toList.map fun b => .int .u8 b.toNat, e, 1, false⟩ else G c := fun c k hc => by
  have := O.lt (.inl ⟨k, hc⟩)
  simp [show c ≠ H.next by omega, hc]
 refine ⟨.slice (some ⟨H.next, 0, none⟩) a.size a.size, H.push (some ⟨a.data.toList.map fun b => .int .u8 b.toNat, e, 1, false⟩), z3m ?_, _, (O.ext nb.ext).le (fun _ c k hc => ?_) hle (fun i p hp c hc => ?_), hle, O.same nb.ext, ?_⟩
 ·have h0 : z2y P (toL n σ) ⟨some d, .convert t xt x, ty, pos, af, g⟩ = none := by
   have hq : (convert t xt (.string a)).pureRun P = none := by
    unfold convert
    rw [z18, z2z ht, Option.bind_some, z18, z2z (z04 he), Option.bind_some]
    simp only
    rw [z18, z2z (zde hi), Option.bind_some]
    rfl
   have hc : closed (.string a) = true := rfl
   simp [z2y, agen, zcp, Op.operands, oo hd hx, hc, execOp, z18, z3f, hq]
  have h1 : z5t P (toL n σ) ⟨some d, .convert t xt x, ty, pos, af, g⟩ H.get = none := by
   simp [z5t, oo hd hx, z6b]
  have h2 : z3t P (toL n σ) ⟨some d, .convert t xt x, ty, pos, af, g⟩ = some (⟨a.data.toList.map fun b => .int .u8 b.toNat, e, 1, false⟩, .sl a.size a.size none) := by
   simp [z3t, oo hd hx, ht, z04 he, zde hi]
  simp only [z9w, h0, h1, h2, MK.val]
 ·by_cases h : c = H.next
  ·subst h; simp at hc; rw [nb.get]; exact congrArg some hc
  ·simp [h] at hc; exact (O.ext nb.ext).fro c k hc
 ·have := O.lt (.inr ⟨i, p, hp, hc⟩)
  simp [show c ≠ H.next by omega, O.apart i p hp c hc]
 ·have hl : a.data.toList.length = a.size := by rw [Array.length_toList]; rfl
  refine ⟨_, a.data.toList.map fun b => [.int .u8 (b.toNat : Int)], rfl, ⟨by intro q hq; obtain ⟨b, _, rfl⟩ := List.mem_map.1 hq; rfl, .inr (.inl ⟨H.next, 0, none, a.size, ⟨a.data.toList.map fun b => .int .u8 b.toNat, e, 1, false⟩, by simp [hl], if_pos rfl, ?_, ?_, by simp [hl], .inl rfl⟩)⟩, ?_⟩
  ·show 0 + _ * 1 <= _; simp
  ·show List.take (_ * 1) _ = _
   simp only [List.length_map, Nat.mul_one, List.drop_zero]
   rw [List.take_of_length_le (by simp)]
   generalize a.data.toList = l
   induction l with
   | nil => rfl
   | cons b l ih => simp [ih]
  ·unfold z1l
   generalize a.data.toList = l
   induction l with
   | nil => exact .nil
   | cons b l ih => exact .cons rfl ih
end
end
end Go.Am
/- Regions whose order is open, once more: operations that make a block may stand beside others, too. -/
namespace Go.Am
open Go
noncomputable section
abbrev z7n := List (Nat × Nat)
inductive DOps2 (P : Program) (ops : Array Oper) (M : List Nat) (N0 : Nat) : List Oper -> Nat -> z6o -> z73 -> z7n -> List Value -> AH -> List Ent -> List Value -> AH -> Prop
 | nil {i : Nat} {R : z6o} {L : z73} {A : z7n} {s : List Value} {H : AH} : DOps2 P ops M N0 [] i R L A s H [] s H
 | skip {o : Oper} {l : List Oper} {i : Nat} {R : z6o} {L : z73} {A : z7n} {s s' : List Value} {H H' : AH} {es : List Ent} : Region.wanted o (z39 ops s) = false ->
   DOps2 P ops M N0 l (i + 1) R L A (putd s o.dst undef) H es s' H' -> DOps2 P ops M N0 (o :: l) i R L A s H (⟨s, H, undef, .skip, none⟩ :: es) s' H'
 | pure {o : Oper} {l : List Oper} {i : Nat} {R : z6o} {L : z73} {A : z7n} {s s' : List Value} {H H' : AH} {es : List Ent} {v : Value} : Region.wanted o (z39 ops s) = true -> z2y P s o = some v ->
   DOps2 P ops M N0 l (i + 1) R L A (putd s o.dst v) H es s' H' -> DOps2 P ops M N0 (o :: l) i R L A s H (⟨s, H, v, .pure, none⟩ :: es) s' H'
 | read {o : Oper} {l : List Oper} {i b : Nat} {R : z6o} {L : z73} {A : z7n} {s s' : List Value} {H H' : AH} {es : List Ent} {v : Value} : Region.wanted o (z39 ops s) = true -> z5t P s o H.get = some v ->
   z45 s o = some b -> (∀ q ∈ L, (M.getD i 0).testBit q.1 = true \/ q.2.2.get b = q.2.1.get b) ->
   DOps2 P ops M N0 l (i + 1) ((i, b) :: R) L A (putd s o.dst v) H es s' H' -> DOps2 P ops M N0 (o :: l) i R L A s H (⟨s, H, v, .read, some b⟩ :: es) s' H'
 | loud {o : Oper} {l : List Oper} {i : Nat} {R : z6o} {L : z73} {A : z7n} {s s' : List Value} {H H1 H' : AH} {es : List Ent} {v : Value} : Region.wanted o (z39 ops s) = true -> StepOk P o s H v H1 ->
   (∀ r ∈ R, (M.getD i 0).testBit r.1 = true \/ H1.get r.2 = H.get r.2) -> (∀ q ∈ L, (M.getD i 0).testBit q.1 = true) -> (∀ r ∈ A, (M.getD i 0).testBit r.1 = true \/ H1.get r.2 = H.get r.2) ->
   DOps2 P ops M N0 l (i + 1) R ((i, H, H1) :: L) A (putd s o.dst v) H1 es s' H' -> DOps2 P ops M N0 (o :: l) i R L A s H (⟨s, H, v, .loud, none⟩ :: es) s' H'
 | alloc {o : Oper} {l : List Oper} {i : Nat} {R : z6o} {L : z73} {A : z7n} {s s' : List Value} {H H1 H' : AH} {es : List Ent} {blk : ABlk} {k : MK} : Region.wanted o (z39 ops s) = true -> z3t P s o = some (blk, k) ->
   H.get (N0 + i) = none -> (∀ b, H1.get b = upd H.get (N0 + i) (some blk) b) -> H1.next = H.next ->
   DOps2 P ops M N0 l (i + 1) R L ((i, N0 + i) :: A) (putd s o.dst (k.val (N0 + i))) H1 es s' H' -> DOps2 P ops M N0 (o :: l) i R L A s H (⟨s, H, k.val (N0 + i), .alloc blk, none⟩ :: es) s' H'
structure DSpec2 (P : Program) (ops : Array Oper) (M : List Nat) (N0 : Nat) (l : List Oper) (i : Nat) (R : z6o) (L : z73) (A : z7n) (s : List Value) (H : AH) (es : List Ent) (s' : List Value) (H' : AH) : Prop where
 len : es.length = l.length
 s0 : seqS es s' 0 = s
 h0 : seqH es H' 0 = H
 each : ∀ k o, l[k]? = some o -> ∃ rb, (∃ e, es[k]? = some e /\ e.rb = rb) /\ zar P ops N0 (i + k) (seqS es s' k) o (seqH es H' k) (seqV es k) (seqH es H' (k + 1)) (seqK es k) /\ (seqK es k = .read -> rb = z45 (seqS es s' k) o) /\ seqS es s' (k + 1) = putd (seqS es s' k) o.dst (seqV es k)
 fr : ∀ k b, seqK es k = .alloc b -> (seqH es H' k).get (N0 + (i + k)) = none
 al1 : ∀ k, k < l.length -> seqK es k = .loud -> ∀ r ∈ A, (M.getD (i + k) 0).testBit r.1 = true \/ (seqH es H' (k + 1)).get r.2 = (seqH es H' k).get r.2
 al2 : ∀ j k b, j < k -> k < l.length -> seqK es j = .alloc b -> seqK es k = .loud -> (M.getD (i + k) 0).testBit (i + j) = true \/ (seqH es H' (k + 1)).get (N0 + (i + j)) = (seqH es H' k).get (N0 + (i + j))
 rl : ∀ k, k < l.length -> seqK es k = .loud -> ∀ r ∈ R, (M.getD (i + k) 0).testBit r.1 = true \/ (seqH es H' (k + 1)).get r.2 = (seqH es H' k).get r.2
 ll : ∀ k, k < l.length -> seqK es k = .loud -> ∀ q ∈ L, (M.getD (i + k) 0).testBit q.1 = true
 lr : ∀ k e b, es[k]? = some e -> e.rb = some b -> ∀ q ∈ L, (M.getD (i + k) 0).testBit q.1 = true \/ q.2.2.get b = q.2.1.get b
 ll2 : ∀ j k, j < k -> k < l.length -> seqK es j = .loud -> seqK es k = .loud -> (M.getD (i + k) 0).testBit (i + j) = true
 rl2 : ∀ j k e b, j < k -> k < l.length -> es[j]? = some e -> e.rb = some b -> seqK es k = .loud -> (M.getD (i + k) 0).testBit (i + j) = true \/ (seqH es H' (k + 1)).get b = (seqH es H' k).get b
 lr2 : ∀ j k e b, j < k -> es[k]? = some e -> e.rb = some b -> seqK es j = .loud -> (M.getD (i + k) 0).testBit (i + j) = true \/ (seqH es H' (j + 1)).get b = (seqH es H' j).get b
section
variable {P : Program} {ops : Array Oper} {M : List Nat} {N0 : Nat}
theorem zdj (e : Ent) (es : List Ent) (s' : List Value) (k : Nat) : seqS (e :: es) s' (k + 1) = seqS es s' k := by simp [seqS]
theorem zdk (e : Ent) (es : List Ent) (H' : AH) (k : Nat) : seqH (e :: es) H' (k + 1) = seqH es H' k := by simp [seqH]
theorem zdl (e : Ent) (es : List Ent) (k : Nat) : seqV (e :: es) (k + 1) = seqV es k := by simp [seqV]
theorem zdm (e : Ent) (es : List Ent) (k : Nat) : seqK (e :: es) (k + 1) = seqK es k := by simp [seqK]
theorem DSpec2.cons {o : Oper} {l : List Oper} {i : Nat} {R R1 : z6o} {L L1 : z73} {A A1 : z7n} {s s1 s' : List Value} {H H1 H' : AH} {es : List Ent} {v : Value} {kd : Kd} {rb : Option Nat}
  (h : DSpec2 P ops M N0 l (i + 1) R1 L1 A1 s1 H1 es s' H') (hs1 : s1 = putd s o.dst v) (hk : zar P ops N0 i s o H v H1 kd) (hrd : kd = .read -> rb = z45 s o) (hal : ∀ b, kd = .alloc b -> H.get (N0 + i) = none) (hA : ∀ r ∈ A, r ∈ A1) (hAn : ∀ b, kd = .alloc b -> (i, N0 + i) ∈ A1)
  (c4 : kd = .loud -> ∀ r ∈ A, (M.getD i 0).testBit r.1 = true \/ H1.get r.2 = H.get r.2)
  (hR : ∀ r ∈ R, r ∈ R1) (hL : ∀ q ∈ L, q ∈ L1) (hRn : ∀ b, rb = some b -> (i, b) ∈ R1) (hLn : kd = .loud -> (i, H, H1) ∈ L1)
  (c1 : kd = .loud -> ∀ r ∈ R, (M.getD i 0).testBit r.1 = true \/ H1.get r.2 = H.get r.2) (c2 : kd = .loud -> ∀ q ∈ L, (M.getD i 0).testBit q.1 = true)
  (c3 : ∀ b, rb = some b -> ∀ q ∈ L, (M.getD i 0).testBit q.1 = true \/ q.2.2.get b = q.2.1.get b) :
  DSpec2 P ops M N0 (o :: l) i R L A s H (⟨s, H, v, kd, rb⟩ :: es) s' H' := by
 have e1 : ∀ k, seqS (⟨s, H, v, kd, rb⟩ :: es) s' (k + 1) = seqS es s' k := zdj _ _ _
 have e2 : ∀ k, seqH (⟨s, H, v, kd, rb⟩ :: es) H' (k + 1) = seqH es H' k := zdk _ _ _
 have e3 : ∀ k, seqV (⟨s, H, v, kd, rb⟩ :: es) (k + 1) = seqV es k := zdl _ _
 have e4 : ∀ k, seqK (⟨s, H, v, kd, rb⟩ :: es) (k + 1) = seqK es k := zdm _ _
 have z1 : seqS (⟨s, H, v, kd, rb⟩ :: es) s' 0 = s := rfl
 have z2 : seqH (⟨s, H, v, kd, rb⟩ :: es) H' 0 = H := rfl
 have z3 : seqV (⟨s, H, v, kd, rb⟩ :: es) 0 = v := rfl
 have z4 : seqK (⟨s, H, v, kd, rb⟩ :: es) 0 = kd := rfl
 have ad : ∀ k, i + (k + 1) = i + 1 + k := fun k => by omega
 refine ⟨by simp [h.len], rfl, rfl, ?_, ?_, ?_, ?_, ?_, ?_, ?_, ?_, ?_, ?_⟩
 ·intro k oj hj
  cases k with
  | zero =>
   simp at hj; subst hj
   refine ⟨rb, ⟨_, rfl, rfl⟩, ?_, ?_, ?_⟩
   ·rw [z1, z2, z3, z4, e2, h.h0]; exact hk
   ·rw [z4, z1]; exact hrd
   ·rw [e1, h.s0, z1, z3, hs1]
  | succ k =>
   obtain ⟨rb', ⟨e, he, hrb⟩, g1, g2, g3⟩ := h.each k oj (by simpa using hj)
   refine ⟨rb', ⟨e, by simpa using he, hrb⟩, ?_, ?_, ?_⟩
   ·rw [e1, e2, e2, e3, e4, ad]; exact g1
   ·rw [e4, e1]; exact g2
   ·rw [e1, e1, e3]; exact g3
 ·intro k b hkb
  cases k with
  | zero => rw [z4] at hkb; rw [z2]; exact hal b hkb
  | succ k => rw [e4] at hkb; rw [e2, ad]; exact h.fr k b hkb
 ·intro k hk' hkd r hr
  cases k with
  | zero => rw [e2, z2, h.h0]; rw [z4] at hkd; exact c4 hkd r hr
  | succ k => rw [e2, e2, ad]; rw [e4] at hkd; exact h.al1 k (by simpa using hk') hkd r (hA r hr)
 ·intro j k b hjk hk' hkb hkd
  cases k with
  | zero => omega
  | succ k =>
   rw [e4] at hkd
   cases j with
   | zero => rw [z4] at hkb; rw [e2, e2, ad]; exact h.al1 k (by simpa using hk') hkd _ (hAn b hkb)
   | succ j => rw [e4] at hkb; rw [e2, e2, ad k, ad j]; exact h.al2 j k b (by omega) (by simpa using hk') hkb hkd
 ·intro k hk' hkd r hr
  cases k with
  | zero => rw [e2, z2, h.h0]; rw [z4] at hkd; exact c1 hkd r hr
  | succ k => rw [e2, e2, ad]; rw [e4] at hkd; exact h.rl k (by simpa using hk') hkd r (hR r hr)
 ·intro k hk' hkd q hq
  cases k with
  | zero => rw [z4] at hkd; exact c2 hkd q hq
  | succ k => rw [ad]; rw [e4] at hkd; exact h.ll k (by simpa using hk') hkd q (hL q hq)
 ·intro k e b he hb q hq
  cases k with
  | zero => simp at he; subst he; exact c3 b hb q hq
  | succ k => rw [ad]; exact h.lr k e b (by simpa using he) hb q (hL q hq)
 ·intro j k hjk hk' hj hkd
  cases k with
  | zero => omega
  | succ k =>
   rw [e4] at hkd
   cases j with
   | zero => rw [z4] at hj; rw [ad]; exact h.ll k (by simpa using hk') hkd _ (hLn hj)
   | succ j => rw [e4] at hj; rw [ad k, ad j]; exact h.ll2 j k (by omega) (by simpa using hk') hj hkd
 ·intro j k e b hjk hk' he hb hkd
  cases k with
  | zero => omega
  | succ k =>
   rw [e4] at hkd
   cases j with
   | zero => simp at he; subst he; rw [e2, e2, ad]; exact h.rl k (by simpa using hk') hkd _ (hRn b hb)
   | succ j => rw [e2, e2, ad k, ad j]; exact h.rl2 j k e b (by omega) (by simpa using hk') (by simpa using he) hb hkd
 ·intro j k e b hjk he hb hj
  cases k with
  | zero => omega
  | succ k =>
   cases j with
   | zero => rw [z4] at hj; rw [e2, z2, h.h0, ad]; exact h.lr k e b (by simpa using he) hb _ (hLn hj)
   | succ j => rw [e4] at hj; rw [e2, e2, ad k, ad j]; exact h.lr2 j k e b (by omega) (by simpa using he) hb hj
theorem DOps2.spec {l : List Oper} {i : Nat} {R : z6o} {L : z73} {A : z7n} {s s' : List Value} {H H' : AH} {es : List Ent} (h : DOps2 P ops M N0 l i R L A s H es s' H') : DSpec2 P ops M N0 l i R L A s H es s' H' := by
 induction h with
 | nil =>
  refine ⟨rfl, rfl, rfl, fun k o ho => by simp at ho, fun k b h => by simp [seqK] at h, fun k hk => by simp at hk, fun j k b _ hk => by simp at hk, fun k hk => by simp at hk, fun k hk => by simp at hk, fun k e b he => by simp at he, fun j k _ hk => by simp at hk, fun j k e b _ hk => by simp at hk, fun j k e b _ he => by simp at he⟩
 | skip hw _ ih => exact ih.cons rfl ⟨hw, rfl, rfl⟩ (fun h => by cases h) (fun b h => by cases h) (fun _ h => h) (fun b h => by cases h) (fun h => by cases h) (fun _ h => h) (fun _ h => h) (fun b h => by cases h) (fun h => by cases h) (fun h => by cases h) (fun h => by cases h) (fun b h => by cases h)
 | pure hw hv _ ih => exact ih.cons rfl ⟨hw, hv, rfl⟩ (fun h => by cases h) (fun b h => by cases h) (fun _ h => h) (fun b h => by cases h) (fun h => by cases h) (fun _ h => h) (fun _ h => h) (fun b h => by cases h) (fun h => by cases h) (fun h => by cases h) (fun h => by cases h) (fun b h => by cases h)
 | read hw hv hb hc _ ih =>
  exact ih.cons rfl ⟨hw, hv, rfl⟩ (fun _ => hb.symm) (fun b h => by cases h) (fun _ h => h) (fun b h => by cases h) (fun h => by cases h) (fun _ h => List.mem_cons_of_mem _ h) (fun _ h => h) (fun b h => by cases h; exact List.mem_cons_self) (fun h => by cases h) (fun h => by cases h) (fun h => by cases h) (fun b h => by cases h; exact hc)
 | loud hw hst hc1 hc2 hc3 _ ih =>
  exact ih.cons rfl ⟨hw, hst⟩ (fun h => by cases h) (fun b h => by cases h) (fun _ h => h) (fun b h => by cases h) (fun _ => hc3) (fun _ h => h) (fun _ h => List.mem_cons_of_mem _ h) (fun b h => by cases h) (fun _ => List.mem_cons_self) (fun _ => hc1) (fun _ => hc2) (fun b h => by cases h)
 | alloc hw hal hn hg hx _ ih =>
  exact ih.cons rfl ⟨hw, ⟨_, hal, rfl⟩, hg, hx⟩ (fun h => by cases h) (fun b h => hn) (fun _ h => List.mem_cons_of_mem _ h) (fun b h => List.mem_cons_self) (fun h => by cases h) (fun _ h => h) (fun _ h => h) (fun b h => by cases h) (fun h => by cases h) (fun h => by cases h) (fun h => by cases h) (fun b h => by cases h)
theorem ARun.drawR2 {id : Nat} {s s' : List Value} {H H' : AH} {es : List Ent} (hmix : P.follows .mixedOrders = true) (hM : ancs ops.toList [] = M) (hord : za4 ops M = true) (h : DOps2 P ops M H.next ops.toList 0 [] [] [] s (reserve H ops.size) es s' H') :
  ARun P (.region id ops true) s H .normal s' H' := by
 have S := h.spec
 have hlen : es.length = ops.size := by simpa using S.len
 have hfin : seqS es s' ops.size = s' /\ seqH es H' ops.size = H' := by
  unfold seqS seqH
  rw [List.getElem?_eq_none (by omega)]
  exact ⟨rfl, rfl⟩
 subst hM
 have hord' : ∀ j oj, ops[j]? = some oj -> (∀ e ∈ oj.after, Region.binds .any e = true -> e.on < j) /\ ∀ i oi, i < j -> ops[i]? = some oi -> ((ancs ops.toList []).getD j 0).testBit i = true ∨
   ((∀ d, oi.dst = some d -> d ∉ oj.looksAt ops /\ oj.dst ≠ some d) /\ ∀ d, oj.dst = some d -> d ∉ oi.looksAt ops) := fun j oj hj => by
  have hjl := lt_of_get hj
  have h1 := z6d hord j hjl
  simp only [hj, Bool.and_eq_true] at h1
  refine ⟨fun e he hb => ?_, fun i oi hij hi => ?_⟩
  ·have := List.all_eq_true.1 h1.1 e (by simpa using he)
   simp [hb] at this
   exact this
  ·have h2 := z6d h1.2 i hij
   simp only [hi, Bool.or_eq_true, Bool.and_eq_true, Bool.not_eq_true'] at h2
   refine h2.imp (fun h => h) fun ⟨g1, g2⟩ => ⟨fun d hd => ?_, fun d hd => ?_⟩
   ·simp only [hd, Bool.or_eq_false_iff] at g1
    exact ⟨fun hm => by have := g1.1; simp at this; exact this hm, fun e => by have := g1.2; simp [e] at this⟩
   ·simp only [hd] at g2
    exact fun hm => by simp at g2; exact g2 hm
 have hE := fun i o (ho : ops[i]? = some o) => S.each i o (by simpa using ho)
 have D : DrawOk P ops s H ⟨seqS es s', seqH es H', seqV es, seqK es⟩ (fun i j => ((ancs ops.toList []).getD i 0).testBit j) := by
  refine ⟨S.s0, fun b => ?_, ?_, fun i o ho => ?_, fun i o ho => ?_, ?_, ?_, fun i o ho => (hord' i o ho).1, ?_, ?_, ?_, ?_, ?_⟩
  ·show (seqH es H' 0).get b = _
   rw [S.h0, z3x]
  ·show (seqH es H' 0).next = _
   rw [S.h0, z3b]
  ·obtain ⟨rb, _, _, _, h4⟩ := hE i o ho; exact h4
  ·obtain ⟨rb, _, h3, _, _⟩ := hE i o ho
   rw [Nat.zero_add] at h3
   exact h3
  ·intro i k blk hik hk hkd
   have key : ∀ m, m <= k -> (seqH es H' m).get (H.next + k) = none /\ H.next + ops.size <= (seqH es H' m).next := by
    intro m
    induction m with
    | zero => intro _; rw [S.h0]; exact ⟨by rw [z3x, AH.get_def, if_neg (by omega)], by rw [z3b]; omega⟩
    | succ m ih =>
     intro hm
     obtain ⟨h1, h2⟩ := ih (by omega)
     obtain ⟨o, ho⟩ : ∃ o, ops[m]? = some o := ⟨_, Array.getElem?_eq_getElem (by omega)⟩
     obtain ⟨rb, _, h3, _, _⟩ := hE m o ho
     unfold zar at h3
     cases hki : seqK es m with
     | skip => rw [hki] at h3; rw [h3.2.2]; exact ⟨h1, h2⟩
     | pure => rw [hki] at h3; rw [h3.2.2]; exact ⟨h1, h2⟩
     | read => rw [hki] at h3; rw [h3.2.2]; exact ⟨h1, h2⟩
     | alloc b => rw [hki] at h3; exact ⟨by rw [h3.2.2.1, z0o _ _ (by omega)]; exact h1, by rw [h3.2.2.2]; exact h2⟩
     | loud => rw [hki] at h3; exact ⟨h3.2.next.2 _ (by omega) h1, Nat.le_trans h2 h3.2.next.1⟩
   exact (key i hik).1
  ·intro i j o ho hB
   have := z81 ops.toList [] [] rfl (fun i j o ho => by simp at ho) i j o (by simpa using ho) hB
   obtain ⟨e, he, h⟩ := this
   exact ⟨e, by simpa using he, h⟩
  ·intro i j oi oj d hij hi hj hd hor
   rcases (hord' j oj hj).2 i oi hij hi with h | ⟨h, _⟩
   ·exact h
   ·rcases hor with h' | h'
    ·exact absurd h' (h d hd).1
    ·exact absurd h' (h d hd).2
  ·intro i j oi oj d hij hi hj hd hm
   rcases (hord' j oj hj).2 i oi hij hi with h | ⟨_, h⟩
   ·exact h
   ·exact absurd hm (h d hd)
  ·intro i j hij hj hki hkj
   have := S.ll2 i j hij (by simpa using hj) hki hkj
   simpa using this
  ·intro i p o b ho hp hki hb hkp
   obtain ⟨rb, ⟨e, he1, he2⟩, h3, h4, _⟩ := hE i o ho
   have hrb : rb = some b := (h4 hki).trans hb
   rcases Nat.lt_trichotomy i p with hip | rfl | hip
   ·have := S.rl2 i p e b hip (by simpa using hp) he1 (by rw [he2, hrb]) hkp
    rw [Nat.zero_add, Nat.zero_add] at this
    exact .inr this
   ·have h1 : seqK es i = .loud := hkp
    have h2 : seqK es i = .read := hki
    rw [h1] at h2; cases h2
   ·have := S.lr2 p i e b hip he1 (by rw [he2, hrb]) hkp
    rw [Nat.zero_add, Nat.zero_add] at this
    rcases this with h | h
    ·exact .inl h
    ·exact .inr (.inr h)
  ·intro k p blk hkp hp hkk hkp'
   have := S.al2 k p blk hkp (by simpa using hp) hkk hkp'
   rw [Nat.zero_add, Nat.zero_add] at this
   exact this
 have := ARun.draw D (id := id) hmix
 simp only [hfin.1, hfin.2] at this
 exact this
end
end
end Go.Am
/- Rules for regions whose order is open, with blocks that are made beside; slices that are lent for a call. -/
namespace Go.Am
open Go
noncomputable section
def AWD2 (P : Program) (n : Nat) (ops : Array Oper) (M : List Nat) (N0 : Nat) (l : List Oper) (i : Nat) (R : z6o) (L : z73) (A : z7n) (σ : Nat -> Value) (H : AH) (Q : (Nat -> Value) -> AH -> Prop) : Prop :=
 ∃ es σ' H', DOps2 P ops M N0 l i R L A (toL n σ) H es (toL n σ') H' /\ (∀ t, wrL l t = false -> σ' t = σ t) /\ Q σ' H'
def Free (N0 m i : Nat) (H : AH) : Prop := ∀ k, i <= k -> k < m -> H.get (N0 + k) = none /\ N0 + k < H.next
section
variable {P : Program} {n : Nat} {σ : Nat -> Value} {H H1 : AH} {ops : Array Oper} {l : List Oper} {Q : (Nat -> Value) -> AH -> Prop} {QX : QX} {d : Tmp} {dd : Option Tmp} {ty t yt e : TypeId} {pos : String} {af : Array Edge} {g : Option (Nat × Bool)} {v u w : Value} {x y c : Operand} {s : List Value} {cs : List Value}
 {M : List Nat} {N0 m : Nat} {R : z6o} {L : z73} {A : z7n} {i : Nat} {o : Oper} {op : Op} {Φ : Value -> AH -> Prop} {G : GM} {Ls : List Pc}
theorem AW.draw2 {id : Nat} (hmix : P.follows .mixedOrders = true) (hM : ancs ops.toList [] = M) (hord : za4 ops M = true) (h : ∀ H1 N0, Ext H H1 -> Free N0 ops.size 0 H1 -> AWD2 P n ops M N0 ops.toList 0 [] [] [] σ H1 (QX .normal)) : AW P n (.region id ops true) σ H QX := by
 obtain ⟨es, σ', H', h1, h2, h3⟩ := h (reserve H ops.size) H.next (.reserve H _) (fun k _ hk => ⟨by rw [z3x, AH.get_def, if_neg (by omega)], by rw [z3b]; omega⟩)
 exact ⟨.normal, σ', H', .drawR2 hmix hM hord h1, h2, h3⟩
theorem AWD2.nil (h : Q σ H) : AWD2 P n ops M N0 [] i R L A σ H Q := ⟨[], σ, H, .nil, fun _ _ => rfl, h⟩
theorem D2.skip (hg : gok n ops σ g false) (hd : dok n dd = true) (hr : AWD2 P n ops M N0 l (i + 1) R L A (upo σ dd undef) H Q) : AWD2 P n ops M N0 (⟨dd, op, ty, pos, af, g⟩ :: l) i R L A σ H Q := by
 obtain ⟨es, σ', H', h1, h2, h3⟩ := hr
 exact ⟨_, σ', H', .skip (z17 hg) (by rw [z40 hd]; exact h1), z7z h2, h3⟩
theorem D2.skipU {j : Nat} {want : Bool} {d' : Tmp} (h1 : (ops[j]?).bind (·.dst) = some d') (h2 : Nat.blt d' n = true) (h3 : σ d' = undef) (hd : dok n dd = true) (hr : AWD2 P n ops M N0 l (i + 1) R L A (upo σ dd undef) H Q) : AWD2 P n ops M N0 (⟨dd, op, ty, pos, af, some (j, want)⟩ :: l) i R L A σ H Q := by
 obtain ⟨es, σ', H', h4, h5, h6⟩ := hr
 exact ⟨_, σ', H', .skip (z6p rfl h1 h2 h3) (by rw [z40 hd]; exact h4), z7z h5, h6⟩
theorem D2.pure (hg : gok n ops σ g true) (hd : Nat.blt d n = true) (h : z2y P (toL n σ) ⟨some d, op, ty, pos, af, g⟩ = some v) (hr : AWD2 P n ops M N0 l (i + 1) R L A (up σ d v) H Q) : AWD2 P n ops M N0 (⟨some d, op, ty, pos, af, g⟩ :: l) i R L A σ H Q := by
 obtain ⟨es, σ', H', h1, h2, h3⟩ := hr
 exact ⟨_, σ', H', .pure (z17 hg) h (by rw [z40 (d := some d) hd]; exact h1), z7z h2, h3⟩
theorem D2.splitAt {b : Bool} {t : Nat} (h : σ t = .bool b) (h1 : b = true -> σ t = .bool true -> AWD2 P n ops M N0 l i R L A σ H Q) (h2 : b = false -> σ t = .bool false -> AWD2 P n ops M N0 l i R L A σ H Q) : AWD2 P n ops M N0 l i R L A σ H Q := by
 cases b with
 | true => exact h1 rfl h
 | false => exact h2 rfl h
theorem D2.read {b : Nat} (hg : gok n ops σ g true) (hd : Nat.blt d n = true) (h : z5t P (toL n σ) ⟨some d, op, ty, pos, af, g⟩ H.get = some v) (hb : z45 (toL n σ) ⟨some d, op, ty, pos, af, g⟩ = some b)
  (hL : ∀ q ∈ L, (M.getD i 0).testBit q.1 = true \/ q.2.2.get b = q.2.1.get b) (hr : AWD2 P n ops M N0 l (i + 1) ((i, b) :: R) L A (up σ d v) H Q) : AWD2 P n ops M N0 (⟨some d, op, ty, pos, af, g⟩ :: l) i R L A σ H Q := by
 obtain ⟨es, σ', H', h1, h2, h3⟩ := hr
 exact ⟨_, σ', H', .read (z17 hg) h hb hL (by rw [z40 (d := some d) hd]; exact h1), z7z h2, h3⟩
theorem D2.load1' {r : List Value} (hg : gok n ops σ g true) (hd : (Nat.blt d n && ook n x) = true) (ha : z30 P t = some false) (hp : Pt H (oval σ x) (v :: r)) (hL : ∀ q ∈ L, (M.getD i 0).testBit q.1 = true \/ q.2.2.get (z7j (oval σ x)) = q.2.1.get (z7j (oval σ x)))
  (hr : AWD2 P n ops M N0 l (i + 1) ((i, z7j (oval σ x)) :: R) L A (up σ d v) H Q) : AWD2 P n ops M N0 (⟨some d, .load t x, ty, pos, af, g⟩ :: l) i R L A σ H Q := by
 simp only [Bool.and_eq_true] at hd
 exact D2.read hg hd.1 (zbg ha (z2s hd.2) hp) (z5e hd.2 hp) hL hr
theorem D2.loadA' {N : Nat} (hg : gok n ops σ g true) (hd : (Nat.blt d n && ook n x) = true) (ha : z30 P t = some true) (hz : szT P t = some N) (hp : Pt H (oval σ x) cs) (hN : cs.length = N) (hL : ∀ q ∈ L, (M.getD i 0).testBit q.1 = true \/ q.2.2.get (z7j (oval σ x)) = q.2.1.get (z7j (oval σ x)))
  (hr : AWD2 P n ops M N0 l (i + 1) ((i, z7j (oval σ x)) :: R) L A (up σ d (.agg cs.toArray)) H Q) : AWD2 P n ops M N0 (⟨some d, .load t x, ty, pos, af, g⟩ :: l) i R L A σ H Q := by
 simp only [Bool.and_eq_true] at hd
 exact D2.read hg hd.1 (zbh ha hz (z2s hd.2) hp hN) (z5e hd.2 hp) hL hr
theorem D2.lo (hg : gok n ops σ g true) (hd : dok n dd = true) (hs : Loud P n ⟨dd, op, ty, pos, af, g⟩ σ H Φ) (hR : ∀ v H1, Φ v H1 -> ∀ r ∈ R, (M.getD i 0).testBit r.1 = true \/ H1.get r.2 = H.get r.2) (hL : ∀ q ∈ L, (M.getD i 0).testBit q.1 = true)
  (hA : ∀ v H1, Φ v H1 -> ∀ r ∈ A, (M.getD i 0).testBit r.1 = true \/ H1.get r.2 = H.get r.2) (hr : ∀ v H1, Φ v H1 -> AWD2 P n ops M N0 l (i + 1) R ((i, H, H1) :: L) A (upo σ dd v) H1 Q) : AWD2 P n ops M N0 (⟨dd, op, ty, pos, af, g⟩ :: l) i R L A σ H Q := by
 obtain ⟨v, H1, h1, h2⟩ := hs
 obtain ⟨es, σ', H', k1, k2, k3⟩ := hr v H1 h2
 exact ⟨_, σ', H', .loud (z17 hg) h1 (hR v H1 h2) hL (hA v H1 h2) (by rw [z40 hd]; exact k1), z7z k2, k3⟩
theorem Free.nx (F : Free N0 m i H) (h : Nx H H1) : Free N0 m i H1 := fun k hk hkm => by
 obtain ⟨h1, h2⟩ := F k hk hkm
 exact ⟨h.2 _ h2 h1, Nat.lt_of_lt_of_le h2 h.1⟩
theorem D2.loN (hg : gok n ops σ g true) (hd : dok n dd = true) (hs : Loud P n ⟨dd, op, ty, pos, af, g⟩ σ H Φ) (hR : ∀ v H1, Φ v H1 -> ∀ r ∈ R, (M.getD i 0).testBit r.1 = true \/ H1.get r.2 = H.get r.2) (hL : ∀ q ∈ L, (M.getD i 0).testBit q.1 = true)
  (hA : ∀ v H1, Φ v H1 -> ∀ r ∈ A, (M.getD i 0).testBit r.1 = true \/ H1.get r.2 = H.get r.2) (hr : ∀ v H1, Φ v H1 -> Nx H H1 -> AWD2 P n ops M N0 l (i + 1) R ((i, H, H1) :: L) A (upo σ dd v) H1 Q) : AWD2 P n ops M N0 (⟨dd, op, ty, pos, af, g⟩ :: l) i R L A σ H Q := by
 obtain ⟨v, H1, h1, h2⟩ := hs
 obtain ⟨es, σ', H', k1, k2, k3⟩ := hr v H1 h2 h1.next
 exact ⟨_, σ', H', .loud (z17 hg) h1 (hR v H1 h2) hL (hA v H1 h2) (by rw [z40 hd]; exact k1), z7z k2, k3⟩
def AlOk (P : Program) (n : Nat) (o : Oper) (σ : Nat -> Value) (G : GM) (val : Nat -> Value) (pc : Nat -> Pc) : Prop :=
 ∃ blk mk, z3t P (toL n σ) o = some (blk, mk) /\ ∀ b, mk.val b = val b /\ (pc b).foot = [b] /\ ∀ M : GM, M b = some blk -> (pc b).ok G M
theorem zdn (H : AH) (b : Nat) (x : Option ABlk) (hb : b < H.next) : ∃ H1 : AH, (∀ c, H1.get c = Am.upd H.get b x c) /\ H1.next = H.next := by
 refine ⟨⟨H.next, (List.range H.next).map fun j => Am.upd H.get b x (H.next - 1 - j)⟩, fun c => ?_, rfl⟩
 rw [AH.get_def]
 by_cases hc : c < H.next
 ·rw [if_pos hc]
  have : H.next - 1 - c < H.next := by omega
  simp only [zAb, List.getElem?_map, List.getElem?_range this, Option.map_some, Option.getD_some]
  congr 1; omega
 ·rw [if_neg hc, z0o _ _ (by omega), AH.get_def, if_neg hc]
theorem Ow.newAt {b : Nat} {k : ABlk} (h : Ow G H Ls) (hb : H.get b = none) (hs : ∀ c, c ≠ b -> H1.get c = H.get c) (p : Pc) (hf : p.foot = [b]) (hk : p.ok G H1.get) : Ow G H1 (p :: Ls) /\ Same G Ls H H1 := by
 have hv : ∀ c, Vis G Ls c -> c ≠ b := fun c hc e => by subst e; obtain ⟨k, hk⟩ := h.vis hc; rw [hb] at hk; cases hk
 have hsm : Same G Ls H H1 := fun c hc => hs c (hv c hc)
 refine ⟨⟨fun c k hc => ?_, fun i q hi => ?_, fun i j q1 q2 hij hi hj c hc => ?_, fun i q hi c hc => ?_⟩, hsm⟩
 ·rw [hsm c (.inl ⟨k, hc⟩)]; exact h.fro c k hc
 ·cases i with
  | zero => simp at hi; subst hi; exact hk
  | succ i => simp at hi; exact q.loc (fun c hc => hsm c (.inr ⟨i, q, hi, hc⟩)) (h.ok i q hi)
 ·cases i with
  | zero =>
   simp at hi; subst hi
   rw [hf] at hc; simp at hc; subst hc
   cases j with
   | zero => exact absurd rfl hij
   | succ j => exact fun hc => hv c (.inr ⟨j, q2, by simpa using hj, hc⟩) rfl
  | succ i =>
   cases j with
   | zero => simp at hj; subst hj; rw [hf]; simp; exact hv c (.inr ⟨i, q1, by simpa using hi, hc⟩)
   | succ j => exact h.dis i j q1 q2 (by omega) (by simpa using hi) (by simpa using hj) c hc
 ·cases i with
  | zero =>
   simp at hi; subst hi
   rw [hf] at hc; simp at hc; subst hc
   cases hg : G c with
   | none => rfl
   | some k => exact absurd rfl (hv c (.inl ⟨k, hg⟩))
  | succ i => exact h.apart i q (by simpa using hi) c hc
theorem D2.alloc {val : Nat -> Value} {pc : Nat -> Pc} (hg : gok n ops σ g true) (hd : Nat.blt d n = true) (hs : AlOk P n ⟨some d, op, ty, pos, af, g⟩ σ G val pc) (hF : Free N0 m i H) (hi : Nat.blt i m = true) (O : Ow G H Ls)
  (hr : ∀ b H1, Ow G H1 (pc b :: Ls) /\ Same G Ls H H1 /\ Free N0 m (i + 1) H1 -> AWD2 P n ops M N0 l (i + 1) R L ((i, b) :: A) (up σ d (val b)) H1 Q) : AWD2 P n ops M N0 (⟨some d, op, ty, pos, af, g⟩ :: l) i R L A σ H Q := by
 obtain ⟨blk, mk, h1, h2⟩ := hs
 have hi' := z8z.1 hi
 obtain ⟨f1, f2⟩ := hF i (Nat.le_refl _) hi'
 obtain ⟨H1, h3, h4⟩ := zdn H (N0 + i) (some blk) f2
 obtain ⟨k1, k2, k3⟩ := h2 (N0 + i)
 obtain ⟨o1, o2⟩ := O.newAt (k := blk) f1 (fun c hc => by rw [h3, z0o _ _ hc]) (pc (N0 + i)) k2 (k3 _ (by rw [h3]; exact z21 _ _ _))
 obtain ⟨es, σ', H', q1, q2, q3⟩ := hr (N0 + i) H1 ⟨o1, o2, fun k hk hkm => by
  obtain ⟨g1, g2⟩ := hF k (by omega) hkm
  exact ⟨by rw [h3, z0o _ _ (by omega)]; exact g1, by rw [h4]; exact g2⟩⟩
 refine ⟨_, σ', H', .alloc (z17 hg) h1 f1 h3 h4 (by rw [z40 (d := some d) hd, k1]; exact q1), z7z (o := ⟨some d, op, ty, pos, af, g⟩) (v := val (N0 + i)) q2, q3⟩
variable {α : Type} {r : RT α}
theorem Free.up {i j : Nat} (h : Nat.ble i j = true) (F : Free N0 m i H) : Free N0 m j H := fun k hk hkm => F k (by have := Nat.le_of_ble_eq_true h; omega) hkm
theorem z77 {place : Nat -> Option (Nat × Nat)} {cs : List Value} {i off sz : Nat} {v : Value} {rest : List (Nat × Value)} (hp : place i = some (off, sz)) (hv : v.cells.toList.length = sz) (hf : off + sz <= cs.length) :
  Instr.fill place cs.toArray ((i, v) :: rest) = Instr.fill place (z2v cs off v.cells.toList).toArray rest := by
 have hv' : v.cells.size = sz := by simpa using hv
 have := zbk (place := place) (i := i) (off := off) (cells := cs.toArray) (rest := rest) (v := v) (by rw [hp, hv']) (by simp; omega)
 simpa using this
theorem Al.alloc {z : Value} {x0 : α} (hz : (P.info? e).bind (·.zero) = some z) (hs : z.cells.all z1m = true) (hr : ∀ G, r.rep G z.cells.toList x0) : AlOk P n ⟨some d, .alloc e, ty, pos, af, g⟩ σ G (fun b => .pointer (some ⟨b, 0, none⟩)) (fun b => eVar b e r x0) := by
 obtain ⟨inf, hi, hz⟩ := zAc hz
 exact ⟨⟨z.cells.toList, e, 1, true⟩, .ptr, by simp only [z3t, hi, hz, Option.bind_some, hs, if_true], fun b => ⟨rfl, rfl, fun M hM => ⟨_, hM, hr _⟩⟩⟩
theorem Al.box {x0 : α} (hd : ook n x = true) (hx : oval σ x = v) (hr : r.rep G v.cells.toList x0) : AlOk P n ⟨some d, .box e x, ty, pos, af, g⟩ σ G (fun b => .pointer (some ⟨b, 0, none⟩)) (fun b => eVar b e r x0) :=
 ⟨⟨v.cells.toList, e, 1, true⟩, .ptr, by simp [z3t, oo hd hx], fun b => ⟨rfl, rfl, fun M hM => ⟨_, hM, hr⟩⟩⟩
theorem Al.buildSlice {N : Nat} {ps : Array (Nat × Operand)} {vs : List Value} {xs : List α} {z : Value} (he : z7m P t = some e) (hz : (P.info? e).bind (·.zero) = some z) (hsz : szT P e = some r.sz) (hsc : (z.cells.all z1m && (z.cells.size != 0) && decide (N * r.sz <= 2 ^ 24)) = true)
  (ho : (ps.toList.all fun p => ook n p.2) = true) (hps : ps.toList.map (fun p => (p.1, oval σ p.2)) = (vs.zipIdx.map fun p => (p.2, p.1))) (hN : vs.length = N) (hr : All2 (fun v x => r.rep G v.cells.toList x) vs xs) :
  AlOk P n ⟨some d, .buildSlice t N ps, ty, pos, af, g⟩ σ G (fun b => .slice (some ⟨b, 0, some 0⟩) N N) (fun b => eSl (.slice (some ⟨b, 0, some 0⟩) N N) e r xs) := by
 obtain ⟨inf, hi, hsz⟩ := z4z hsz
 simp only [hi, Option.bind_some] at hz
 have hcs : All2 (r.rep G) (vs.map fun v => v.cells.toList) xs := by
  clear hps hN
  induction hr with
  | nil => exact .nil
  | cons h1 _ ih => exact .cons h1 ih
 have hvs : ∀ v ∈ vs, v.cells.size = r.sz := fun v hv => by
  have := hcs.each v.cells.toList (List.mem_map.2 ⟨v, hv, rfl⟩)
  simpa using this
 have hf : Instr.fill (fun j => some (j * r.sz, r.sz)) (z3l z.cells (N * r.sz)).toArray (vs.zipIdx.map fun p => (p.2, p.1)) = some (vs.map fun v => v.cells.toList).flatten.toArray := by
  have := zav (sz := r.sz) vs 0 (z3l z.cells (N * r.sz)) [] rfl (by simp) hvs (by simp [z5u, hN]) (by simp)
  simpa using this
 refine ⟨⟨(vs.map fun v => v.cells.toList).flatten, e, 1, true⟩, .sl N N (some 0), ?_, fun b => ⟨rfl, rfl, fun M hM => ⟨_, .inr ⟨b, some 0, N, [], 1, by simp [hN], by simpa using hM, ?_, by simp [hN], .inr rfl⟩, hcs⟩⟩⟩
 ·simp only [z3t, z04 he, hi, hz, Option.bind_some, hsz, hsc, if_true, z4v ho hps, hf, Option.map_some]
 ·rw [List.append_nil, hcs.flatLen, <- hr.length, hN]
def RR (P : Program) (n : Nat) (σ : Nat -> Value) (H : AH) (r : ResultVar) (v : Value) : Prop := z8v P (toL n σ) H r = some v
theorem z2i {t : Tmp} (ht : Nat.blt t n = true) (hv : σ t = v) : RR P n σ H (.tmp t) v := by
 unfold RR z8v
 simp [zAb, zdb (z8z.1 ht), hv]
theorem zjp {fn : Func} {R : Value -> AH -> Prop} (hr : fn.results.toList = []) (h : R (.tuple #[]) H) : retQ P fn n R .ret σ H := ⟨.tuple #[], by simp [aret, hr, z5w], h⟩
theorem zjj {fn : Func} {R : Value -> AH -> Prop} {r1 : ResultVar} {v1 : Value} (hr : fn.results.toList = [r1]) (h1 : RR P n σ H r1 v1) (h : R v1 H) : retQ P fn n R .ret σ H := ⟨v1, by unfold RR at h1; simp [aret, hr, z5w, h1], h⟩
theorem zjq {fn : Func} {R : Value -> AH -> Prop} {r1 r2 : ResultVar} {v1 v2 : Value} (hr : fn.results.toList = [r1, r2]) (h1 : RR P n σ H r1 v1) (h2 : RR P n σ H r2 v2) (h : R (.tuple #[v1, v2]) H) : retQ P fn n R .ret σ H :=
 ⟨_, by unfold RR at h1 h2; simp [aret, hr, z5w, h1, h2], h⟩
theorem Ow.lend {v : Value} {xs : List α} {j : Nat} (O : Ow G H Ls) (hj : Ls[j]? = some (eSl v e r xs)) : ∃ G1, G.le G1 /\ Ow G1 H (Ls.eraseIdx j) /\ (rSl r).rep G1 [v] xs ∧
  ∀ G2 H1, G1.le G2 -> Ow G2 H1 ((Ls.eraseIdx j).map fun p => p.pin H.get) -> ∃ G3, Ow G3 H1 Ls /\ G.le G3 /\ Same G Ls H H1 := by
 classical
 obtain ⟨G1, h1, h2, h3⟩ := O.freeze hj
 obtain ⟨G1', h1', h2', h3'⟩ := O.frzSl hj
 have hrep : (rSl r).rep G1 [v] xs := by
  obtain ⟨es, h4, h5⟩ := O.ok j _ hj
  refine ⟨v, es, rfl, SlO.slG (e := e) ?_ h5.each, h5.mono fun _ _ => r.mono h2⟩
  rcases h4 with h4 | ⟨b, tg, cap, rest, sz', rfl, hb, h⟩
  ·exact .inl h4
  ·exact .inr ⟨b, tg, cap, rest, sz', rfl, (h3 b (by simp [eSl, z76])).trans hb, h⟩
 refine ⟨G1, h2, h1, hrep, fun G2 H1 hle O2 => ?_⟩
 let F := (eSl v e r xs).foot
 have hFG : ∀ b k, G b = some k -> b ∉ F := fun b k hb hF => by have := O.apart j _ hj b hF; rw [hb] at this; cases this
 have hsF : ∀ b ∈ F, H1.get b = H.get b := fun b hb => by
  obtain ⟨k, hk⟩ := (eSl v e r xs).bnd (O.ok j _ hj) b hb
  rw [hk]; exact O2.fro b k (hle b k (by rw [h3 b hb]; exact hk))
 have hL : ∀ i p, i ≠ j -> Ls[i]? = some p -> (∀ b ∈ p.foot, H1.get b = H.get b) /\ ∀ b ∈ p.foot, G2 b = none := fun i p hij hi => by
  have : ((Ls.eraseIdx j).map fun p => p.pin H.get)[if i < j then i else i - 1]? = some (p.pin H.get) := by
   rw [List.getElem?_map, List.getElem?_eraseIdx]
   by_cases hlt : i < j
   ·simp [hlt, hi]
   ·have h1 : ¬ (i - 1 < j) := by omega
    simp only [hlt, if_false, h1]
    rw [show i - 1 + 1 = i by omega, hi]; rfl
  exact ⟨fun b hb => (O2.ok _ _ this b hb).1, fun b hb => O2.apart _ _ this b hb⟩
 have hG3 : G.le fun b => if b ∈ F then none else G2 b := fun b k hb => by
  simp only [if_neg (hFG b k hb)]; exact hle b k (h2 b k hb)
 refine ⟨fun b => if b ∈ F then none else G2 b, ⟨fun b k hb => ?_, fun i p hi => ?_, O.dis, fun i p hi b hb => ?_⟩, hG3, fun b hb => ?_⟩
 ·by_cases hF : b ∈ F
  ·simp [hF] at hb
  ·exact O2.fro b k (by simpa [hF] using hb)
 ·by_cases hij : i = j
  ·subst hij
   rw [hj] at hi; cases hi
   exact (eSl v e r xs).loc hsF ((eSl v e r xs).mono hG3 (O.ok i _ hj))
  ·exact p.loc (hL i p hij hi).1 (p.mono hG3 (O.ok i p hi))
 ·by_cases hij : i = j
  ·subst hij; rw [hj] at hi; cases hi; simp [F, hb]
  ·by_cases hF : b ∈ F
   ·simp [hF]
   ·simp [hF, (hL i p hij hi).2 b hb]
 ·rcases hb with ⟨k, hk⟩ | ⟨i, p, hi, hb⟩
  ·rw [O.fro b k hk]; exact O2.fro b k (hle b k (h2 b k hk))
  ·by_cases hij : i = j
   ·subst hij; rw [hj] at hi; cases hi; exact hsF b hb
   ·exact (hL i p hij hi).1 b hb
theorem Lo.callB {f : FuncId} {args : Array Operand} {ats : Array TypeId} {al : List Value} {fn : Func} {j : Nat} {xs : List α} {Ψ : Value -> Prop} (hj : Ls[j]? = some (eSl v e r xs)) (hd : args.toList.all (ook n) = true) (hf : P.funcs[f]? = some fn) (hnm : (fn.name == "runtime.NumGoroutine" || fn.body.isNone) = false)
  (ha : args.toList.map (oval σ) = al) (O : Ow G H Ls) (hc : ∀ G1 L, G.le G1 -> Ow G1 H L -> (rSl r).rep G1 [v] xs -> CR P f al G1 H L fun v _ _ => Ψ v) :
  Loud P n ⟨some d, .call ⟨.value (.func f), args, ats⟩, ty, pos, af, g⟩ σ H fun v H1 => ∃ G', Ow G' H1 Ls /\ G.le G' /\ Same G Ls H H1 /\ Ψ v := by
 obtain ⟨G1, h1, h2, h3, h4⟩ := O.lend hj
 have hp : Ow G1 H ((Ls.eraseIdx j).map fun p => p.pin H.get) := Ow.pin (ps := []) h2
 obtain ⟨v', H1, G2, k1, k2, k3, k4⟩ := hc G1 _ h1 hp h3
 obtain ⟨G3, q1, q2, q3⟩ := h4 G2 H1 k3 k2
 exact ⟨v', H1, z85 (fo := .func f) hd hf hnm ha k1, G3, q1, q2, q3, k4⟩
end
end
end Go.Am
/- Slices of slices that are written: a piece with all its rows; a row may be taken out and laid back. -/
namespace Go.Am
open Go
noncomputable section
structure RowsOk {α : Type} (v : Value) (e : TypeId) (ws : List Value) (hs : List Nat) (e2 : TypeId) (r : RT α) (xss : List (List α)) (G M : GM) : Prop where
 out : SlO e 1 M v (ws.map fun w => [w])
 one : ∀ w ∈ ws, okCells [w] = true
 len : ws.length = xss.length
 row : ∀ i w, i ∉ hs -> ws[i]? = some w -> ∃ es xs, xss[i]? = some xs /\ SlO e2 r.sz M w es /\ All2 (r.rep G) es xs
 dis : ∀ i j w u, i ≠ j -> i ∉ hs -> j ∉ hs -> ws[i]? = some w -> ws[j]? = some u -> ∀ b ∈ z76 w, b ∉ z76 u
 off : ∀ i w, i ∉ hs -> ws[i]? = some w -> ∀ b ∈ z76 w, b ∉ z76 v
theorem SlO.loc {e : TypeId} {sz : Nat} {M M' : GM} {v : Value} {es : List (List Value)} (hl : ∀ b ∈ z76 v, M' b = M b) (h : SlO e sz M v es) : SlO e sz M' v es := by
 rcases h with h1 | ⟨b, tg, cap, rest, sz', rfl, hb, h⟩
 ·exact .inl h1
 ·exact .inr ⟨b, tg, cap, rest, sz', rfl, by rw [hl b (by simp [z76]), hb], h⟩
theorem SlO.bnd {e : TypeId} {sz : Nat} {M : GM} {v : Value} {es : List (List Value)} (h : SlO e sz M v es) : ∀ b ∈ z76 v, ∃ k, M b = some k := fun c hc => by
 rcases h with ⟨rfl, _⟩ | ⟨b, tg, cap, rest, sz', rfl, hb, h⟩
 ·simp [z76] at hc
 ·simp [z76] at hc; subst hc; exact ⟨_, hb⟩
section
variable {α : Type} {r : RT α} {G : GM} {H H1 : AH} {L : List Pc} {v w w' u : Value} {e e2 : TypeId} {ws : List Value} {hs : List Nat} {xss : List (List α)} {xs : List α} {i j k : Nat}
end
section
variable {P : Program} {n : Nat} {σ : Nat -> Value} {H H1 : AH} {d : Tmp} {dd : Option Tmp} {ty t e e2 : TypeId} {pos : String} {af : Array Edge} {g : Option (Nat × Bool)} {v u w w' : Value} {x y : Operand}
 {G : GM} {L : List Pc} {j i : Nat} {α : Type} {r : RT α} {ws : List Value} {xss : List (List α)}
end
end
end Go.Am
