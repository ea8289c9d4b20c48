/- The abstract machine as a function, and that what it finds is right. -/
import Derived.Test.YtlmgdnhnpkgheaaDoorAmI
namespace Go.Am
open Go
noncomputable section
set_option linter.unusedSimpArgs false
set_option linter.unusedVariables false

/-! ### Equal by sight -/
def veq0 : Value → Value → Bool
  | .bool a, .bool b => a == b
  | .int k a, .int k' b => k == k' && a == b
  | .string a, .string b => a.data.toList == b.data.toList
  | .pointer a, .pointer b => a == b
  | .slice a l c, .slice a' l' c' => a == a' && l == l' && c == c'
  | .map none, .map none => true
  | .nilFunc, .nilFunc => true
  | .nilIface, .nilIface => true
  | _, _ => false
theorem veq0_eq {x y : Value} (h : veq0 x y = true) : x = y := by
  cases x <;> cases y <;> simp only [veq0] at h <;> try (cases h; done)
  case bool a b => simp at h; rw [h]
  case int k a k' b => simp at h; rw [h.1, h.2]
  case string a b =>
    simp at h
    have : a = b := by cases a; cases b; simp at h; rw [h]
    rw [this]
  case pointer a b => simp at h; rw [h]
  case slice a l c a' l' c' => simp at h; rw [h.1.1, h.1.2, h.2]
  case map a b => cases a <;> cases b <;> simp at h; rfl
  all_goals rfl
def lveq0 : List Value → List Value → Bool
  | [], [] => true
  | x :: xs, y :: ys => veq0 x y && lveq0 xs ys
  | _, _ => false
theorem lveq0_eq : ∀ {xs ys : List Value}, lveq0 xs ys = true → xs = ys
  | [], [], _ => rfl
  | [], _ :: _, h => by simp [lveq0] at h
  | _ :: _, [], h => by simp [lveq0] at h
  | x :: xs, y :: ys, h => by simp [lveq0] at h; rw [veq0_eq h.1, lveq0_eq h.2]
def blkEq : Option ABlk → Option ABlk → Bool
  | none, none => true
  | some x, some y => x.elem == y.elem && x.sz == y.sz && x.own == y.own && lveq0 x.cells y.cells
  | _, _ => false
theorem blkEq_eq {x y : Option ABlk} (h : blkEq x y = true) : x = y := by
  cases x <;> cases y <;> simp only [blkEq] at h
  · rfl
  · cases h
  · cases h
  · rename_i x y
    simp only [Bool.and_eq_true, beq_iff_eq] at h
    obtain ⟨⟨⟨h1, h2⟩, h3⟩, h4⟩ := h
    cases x; cases y
    simp only at h1 h2 h3 h4
    rw [h1, h2, h3, lveq0_eq h4]

/-! ### What comes ahead of what -/
def maskOf (acc : List Nat) (o : Oper) : Nat := o.after.toList.foldl (fun s e => if Region.binds .any e then s ||| 2 ^ e.on ||| acc.getD e.on 0 else s) 0
def ancs : List Oper → List Nat → List Nat
  | [], acc => acc
  | o :: rest, acc => ancs rest (acc ++ [maskOf acc o])
theorem testBit_fold (acc : List Nat) (j : Nat) : ∀ (l : List Edge) (s : Nat), (l.foldl (fun s e => if Region.binds .any e then s ||| 2 ^ e.on ||| acc.getD e.on 0 else s) s).testBit j = true →
    s.testBit j = true ∨ ∃ e ∈ l, Region.binds .any e = true ∧ (e.on = j ∨ (acc.getD e.on 0).testBit j = true)
  | [], s, h => .inl h
  | e :: l, s, h => by
    simp only [List.foldl_cons] at h
    rcases testBit_fold acc j l _ h with h1 | ⟨e', he, h1⟩
    · split at h1
      · rename_i hb
        simp only [Nat.testBit_or, Bool.or_eq_true] at h1
        rcases h1 with (h1 | h1) | h1
        · exact .inl h1
        · rw [Nat.testBit_two_pow] at h1
          exact .inr ⟨e, by simp, hb, .inl (by simpa using h1)⟩
        · exact .inr ⟨e, by simp, hb, .inr h1⟩
      · exact .inl h1
    · exact .inr ⟨e', by simp [he], h1⟩
theorem ancs_spec : ∀ (l done : List Oper) (acc : List Nat), acc.length = done.length →
    (∀ i j o, done[i]? = some o → (acc.getD i 0).testBit j = true → ∃ e ∈ o.after.toList, Region.binds .any e = true ∧ (e.on = j ∨ (acc.getD e.on 0).testBit j = true)) →
    ∀ i j o, (done ++ l)[i]? = some o → ((ancs l acc).getD i 0).testBit j = true → ∃ e ∈ o.after.toList, Region.binds .any e = true ∧ (e.on = j ∨ ((ancs l acc).getD e.on 0).testBit j = true)
  | [], done, acc, hl, h => by simpa [ancs] using h
  | o :: rest, done, acc, hl, h => by
    have := ancs_spec rest (done ++ [o]) (acc ++ [maskOf acc o]) (by simp [hl]) (by
      have hst : ∀ k j, (acc.getD k 0).testBit j = true → ((acc ++ [maskOf acc o]).getD k 0).testBit j = true := fun k j hk => by
        have hlt : k < acc.length := by
          rcases Nat.lt_or_ge k acc.length with h | h
          · exact h
          · rw [List.getD_eq_getElem?_getD, List.getElem?_eq_none h] at hk; simp at hk
        rw [List.getD_eq_getElem?_getD, List.getElem?_append, if_pos hlt, ← List.getD_eq_getElem?_getD]; exact hk
      intro i j o' ho' hb
      rcases Nat.lt_or_ge i done.length with hi | hi
      · rw [List.getElem?_append, if_pos hi] at ho'
        rw [List.getD_eq_getElem?_getD, List.getElem?_append, if_pos (by omega), ← List.getD_eq_getElem?_getD] at hb
        obtain ⟨e, he, hb', h'⟩ := h i j o' ho' hb
        exact ⟨e, he, hb', h'.imp id (hst _ _)⟩
      · rw [List.getElem?_append, if_neg (by omega)] at ho'
        have hi0 : i - done.length = 0 := by
          rcases Nat.eq_zero_or_pos (i - done.length) with h | h
          · exact h
          · rw [List.getElem?_eq_none (by simp; omega)] at ho'; cases ho'
        rw [hi0] at ho'
        simp at ho'
        subst ho'
        rw [List.getD_eq_getElem?_getD, List.getElem?_append, if_neg (by omega), hl, hi0] at hb
        simp only [List.getElem?_cons_zero, Option.getD_some] at hb
        unfold maskOf at hb
        rcases testBit_fold acc j _ 0 hb with h1 | ⟨e, he, hb', h'⟩
        · simp at h1
        · exact ⟨e, he, hb', h'.imp id (hst _ _)⟩)
    simpa [ancs] using this

structure Ent where
  s : List Value
  H : AH
  v : Value
  k : Kd
  rb : Option Nat
def Kd.isLoud : Kd → Bool | .loud => true | _ => false
def Kd.isAlloc : Kd → Bool | .alloc _ => true | _ => false

abbrev CallF := FuncId → List Value → AH → Option (Value × AH)
def stepF (call : CallF) (P : Program) (s : List Value) (o : Oper) (H : AH) : Option (Value × AH) :=
  match acallee P s o with
  | some (f, args) => call f args H
  | none => astep P s o H
def aopsF (call : CallF) (P : Program) (ops : Array Oper) (l : List Oper) : List Value → AH → Option (List Value × AH) :=
  List.rec (motive := fun _ => List Value → AH → Option (List Value × AH)) (fun s H => some (s, H))
    (fun o _ ih s H =>
      if Region.wanted o (ayield ops s) then
        match stepF call P s o H with
        | some (v, H') => ih (putd s o.dst v) H'
        | none => none
      else ih (putd s o.dst undef) H) l
theorem aopsF_nil (call : CallF) (P : Program) (ops : Array Oper) (s : List Value) (H : AH) : aopsF call P ops [] s H = some (s, H) := rfl
theorem aopsF_cons (call : CallF) (P : Program) (ops : Array Oper) (o : Oper) (rest : List Oper) (s : List Value) (H : AH) : aopsF call P ops (o :: rest) s H =
    if Region.wanted o (ayield ops s) then
      match stepF call P s o H with
      | some (v, H') => aopsF call P ops rest (putd s o.dst v) H'
      | none => none
    else aopsF call P ops rest (putd s o.dst undef) H := rfl

def entF (call : CallF) (P : Program) (ops : Array Oper) (N0 i : Nat) (s : List Value) (o : Oper) (H : AH) : Option (Value × Kd × Option Nat × AH) :=
  if Region.wanted o (ayield ops s) then
    match apure P s o with
    | some v => some (v, .pure, none, H)
    | none => match aread P s o H.get with
      | some v => some (v, .read, readsOf s o, H)
      | none => match aalloc P s o with
        | some (blk, k) => match H.blks[H.next - 1 - (N0 + i)]? with
          | some none => if N0 + i < H.next then some (k.val (N0 + i), .alloc blk, none, H.set (N0 + i) (some blk)) else none
          | _ => none
        | none => match acallee P s o with
          | some (f, args) => (call f args H).map fun r => (r.1, .loud, none, r.2)
          | none => (awrite P s o H).map fun r => (r.1, .loud, none, r.2)
  else some (undef, .skip, none, H)
def drawRun (call : CallF) (P : Program) (ops : Array Oper) (N0 : Nat) (l : List Oper) : Nat → List Value → AH → Option (List Ent × List Value × AH) :=
  List.rec (motive := fun _ => Nat → List Value → AH → Option (List Ent × List Value × AH)) (fun _ s H => some ([], s, H))
    (fun o _ ih i s H =>
      match entF call P ops N0 i s o H with
      | some (v, k, rb, H') =>
        match ih (i + 1) (putd s o.dst v) H' with
        | some (es, r) => some (⟨s, H, v, k, rb⟩ :: es, r)
        | none => none
      | none => none) l
theorem drawRun_nil (call : CallF) (P : Program) (ops : Array Oper) (N0 i : Nat) (s : List Value) (H : AH) : drawRun call P ops N0 [] i s H = some ([], s, H) := rfl
theorem drawRun_cons (call : CallF) (P : Program) (ops : Array Oper) (N0 i : Nat) (o : Oper) (rest : List Oper) (s : List Value) (H : AH) : drawRun call P ops N0 (o :: rest) i s H =
    match entF call P ops N0 i s o H with
    | some (v, k, rb, H') =>
      match drawRun call P ops N0 rest (i + 1) (putd s o.dst v) H' with
      | some (es, r) => some (⟨s, H, v, k, rb⟩ :: es, r)
      | none => none
    | none => none := rfl
def reserve (H : AH) : Nat → AH
  | 0 => H
  | n + 1 => (reserve H n).push none

def allI (n : Nat) (p : Nat → Bool) : Bool := (List.range n).all p
theorem allI_spec {n : Nat} {p : Nat → Bool} (h : allI n p = true) : ∀ i, i < n → p i = true := fun i hi => List.all_eq_true.1 h i (List.mem_range.2 hi)
def seqH (es : List Ent) (Hf : AH) (i : Nat) : AH := match es[i]? with | some e => e.H | none => Hf
def seqS (es : List Ent) (sf : List Value) (i : Nat) : List Value := match es[i]? with | some e => e.s | none => sf
def seqV (es : List Ent) (i : Nat) : Value := match es[i]? with | some e => e.v | none => undef
def seqK (es : List Ent) (i : Nat) : Kd := match es[i]? with | some e => e.k | none => .skip
/-- The order's own part of the check. -/
def orderOk (ops : Array Oper) (M : List Nat) : Bool :=
  allI ops.size fun j => match ops[j]? with
    | none => true
    | some oj => (oj.after.toList.all fun e => !Region.binds .any e || decide (e.on < j)) &&
      allI j fun i => match ops[i]? with
        | none => true
        | some oi => (M.getD j 0).testBit i ||
          (!(match oi.dst with | some d => (oj.looksAt ops).contains d || oj.dst == some d | none => false) && !(match oj.dst with | some d => (oi.looksAt ops).contains d | none => false))
def headH (r : List Ent) (Hf : AH) : AH := match r with | [] => Hf | e :: _ => e.H
def scanL (Hf : AH) (es : List Ent) : Nat → List (Nat × AH × AH) :=
  List.rec (motive := fun _ => Nat → List (Nat × AH × AH)) (fun _ => []) (fun e r ih i => bif e.k.isLoud then (i, e.H, headH r Hf) :: ih (i + 1) else ih (i + 1)) es
def scanA (es : List Ent) : Nat → List Nat :=
  List.rec (motive := fun _ => Nat → List Nat) (fun _ => []) (fun e _ ih i => bif e.k.isAlloc then i :: ih (i + 1) else ih (i + 1)) es
def scanR (es : List Ent) : Nat → List (Nat × Nat) :=
  List.rec (motive := fun _ => Nat → List (Nat × Nat)) (fun _ => []) (fun e _ ih i => match e.rb with | some b => (i, b) :: ih (i + 1) | none => ih (i + 1)) es
theorem scanL_mem (Hf : AH) : ∀ (es : List Ent) (i0 p : Nat) (e : Ent), es[p]? = some e → e.k.isLoud = true → (i0 + p, e.H, seqH es Hf (p + 1)) ∈ scanL Hf es i0
  | [], _, p, e, h, _ => by simp at h
  | x :: r, i0, 0, e, h, hk => by
    simp at h; subst h
    show _ ∈ (bif x.k.isLoud then (i0, x.H, headH r Hf) :: scanL Hf r (i0 + 1) else scanL Hf r (i0 + 1))
    rw [hk]
    refine List.mem_cons.2 (.inl ?_)
    cases r <;> rfl
  | x :: r, i0, p + 1, e, h, hk => by
    have := scanL_mem Hf r (i0 + 1) p e (by simpa using h) hk
    rw [show i0 + 1 + p = i0 + (p + 1) by omega] at this
    show _ ∈ (bif x.k.isLoud then (i0, x.H, headH r Hf) :: scanL Hf r (i0 + 1) else scanL Hf r (i0 + 1))
    cases x.k.isLoud
    · exact this
    · exact List.mem_cons.2 (.inr this)
theorem scanA_mem : ∀ (es : List Ent) (i0 p : Nat) (e : Ent), es[p]? = some e → e.k.isAlloc = true → i0 + p ∈ scanA es i0
  | [], _, p, e, h, _ => by simp at h
  | x :: r, i0, 0, e, h, hk => by
    simp at h; subst h
    show _ ∈ (bif x.k.isAlloc then i0 :: scanA r (i0 + 1) else scanA r (i0 + 1))
    rw [hk]
    exact List.mem_cons.2 (.inl rfl)
  | x :: r, i0, p + 1, e, h, hk => by
    have := scanA_mem r (i0 + 1) p e (by simpa using h) hk
    rw [show i0 + 1 + p = i0 + (p + 1) by omega] at this
    show _ ∈ (bif x.k.isAlloc then i0 :: scanA r (i0 + 1) else scanA r (i0 + 1))
    cases x.k.isAlloc
    · exact this
    · exact List.mem_cons.2 (.inr this)
theorem scanR_mem : ∀ (es : List Ent) (i0 p : Nat) (e : Ent) (b : Nat), es[p]? = some e → e.rb = some b → (i0 + p, b) ∈ scanR es i0
  | [], _, p, e, _, h, _ => by simp at h
  | x :: r, i0, 0, e, b, h, hk => by
    simp at h; subst h
    show _ ∈ (match x.rb with | some b => (i0, b) :: scanR r (i0 + 1) | none => scanR r (i0 + 1))
    rw [hk]
    exact List.mem_cons.2 (.inl rfl)
  | x :: r, i0, p + 1, e, b, h, hk => by
    have := scanR_mem r (i0 + 1) p e b (by simpa using h) hk
    rw [show i0 + 1 + p = i0 + (p + 1) by omega] at this
    show _ ∈ (match x.rb with | some b => (i0, b) :: scanR r (i0 + 1) | none => scanR r (i0 + 1))
    cases x.rb with
    | none => exact this
    | some c => exact List.mem_cons.2 (.inr this)
def heapOk (eq : Option ABlk → Option ABlk → Bool) (M : List Nat) (N0 : Nat) (es : List Ent) (Hf : AH) : Bool :=
  let L := scanL Hf es 0
  let A := scanA es 0
  let R := scanR es 0
  L.all fun p =>
    (L.all fun q => Nat.ble p.1 q.1 || (rget 0 M p.1).testBit q.1) &&
    (A.all fun i => bif Nat.blt p.1 i then (p.2.2.get (N0 + i)).isNone else (Nat.beq i p.1 || (rget 0 M p.1).testBit i || eq (p.2.2.get (N0 + i)) (p.2.1.get (N0 + i)))) &&
    (R.all fun r => (rget 0 M r.1).testBit p.1 || (rget 0 M p.1).testBit r.1 || eq (p.2.2.get r.2) (p.2.1.get r.2))
def drawF (call : CallF) (eq : Option ABlk → Option ABlk → Bool) (P : Program) (ops : Array Oper) (s : List Value) (H : AH) : Option (List Value × AH) :=
  match drawRun call P ops H.next ops.toList 0 s (reserve H ops.size) with
  | some (es, s', H') =>
    let M := ancs ops.toList []
    if orderOk ops M && heapOk eq M H.next es H' then some (s', H') else none
  | none => none

theorem reserve_next (H : AH) : ∀ n, (reserve H n).next = H.next + n
  | 0 => rfl
  | n + 1 => by simp [reserve, reserve_next H n]; omega
theorem reserve_get (H : AH) (b : Nat) : ∀ n, (reserve H n).get b = H.get b
  | 0 => rfl
  | n + 1 => by
    rw [reserve, AH.get_push, reserve_next]
    split
    · rename_i e; rw [AH.get_def, if_neg (by omega)]
    · exact reserve_get H b n
theorem get_set_at (H : AH) {b : Nat} (x : Option ABlk) (hlt : b < H.next) (hb : (H.blks[H.next - 1 - b]?).isSome = true) : (H.set b x).get = upd H.get b x := by
  have hin : H.next - 1 - b < H.blks.length := by
    rcases Nat.lt_or_ge (H.next - 1 - b) H.blks.length with h | h
    · exact h
    · rw [List.getElem?_eq_none h] at hb; cases hb
  funext c
  unfold upd
  rw [AH.get_def, AH.get_def H c, AH.set_def]
  simp only [if_pos hlt]
  by_cases hc : c < H.next
  · simp only [if_pos hc]
    by_cases e : c = b
    · subst e; simp [List.getD_eq_getElem?_getD, hin]
    · have hne : H.next - 1 - b ≠ H.next - 1 - c := by omega
      simp [List.getD_eq_getElem?_getD, hne, e]
  · simp only [if_neg hc]
    rw [if_neg (by omega)]

section
variable {call : CallF} {P : Program} {ops : Array Oper} {N0 : Nat}

theorem drawRun_spec : ∀ (l : List Oper) (i : Nat) (s : List Value) (H : AH) (es : List Ent) (s' : List Value) (H' : AH), drawRun call P ops N0 l i s H = some (es, s', H') →
    es.length = l.length ∧ seqS es s' 0 = s ∧ seqH es H' 0 = H ∧ ∀ k o, l[k]? = some o → ∃ rb, (∃ e, es[k]? = some e ∧ e.rb = rb) ∧ entF call P ops N0 (i + k) (seqS es s' k) o (seqH es H' k) = some (seqV es k, seqK es k, rb, seqH es H' (k + 1)) ∧ seqS es s' (k + 1) = putd (seqS es s' k) o.dst (seqV es k)
  | [], i, s, H, es, s', H', h => by
    rw [drawRun_nil] at h
    cases h
    exact ⟨rfl, rfl, rfl, fun k o ho => by simp at ho⟩
  | o :: rest, i, s, H, es, s', H', h => by
    rw [drawRun_cons] at h
    split at h
    · rename_i v k rb H1 hent
      split at h
      · rename_i es1 r hrec
        cases h
        obtain ⟨h1, h2, h3, h4⟩ := drawRun_spec rest (i + 1) (putd s o.dst v) H1 es1 s' H' hrec
        refine ⟨by simp [h1], rfl, rfl, fun j oj hj => ?_⟩
        cases j with
        | zero =>
          simp at hj
          subst hj
          refine ⟨rb, ⟨_, rfl, rfl⟩, ?_, ?_⟩
          · show entF call P ops N0 (i + 0) s o H = some (v, k, rb, seqH es1 H' 0)
            rw [h3, Nat.add_zero]; exact hent
          · show seqS es1 s' 0 = putd s o.dst v
            exact h2
        | succ j =>
          obtain ⟨rb', ⟨e, he1, he2⟩, g1, g2⟩ := h4 j oj (by simpa using hj)
          refine ⟨rb', ⟨e, by simpa using he1, he2⟩, ?_, ?_⟩
          · rw [show i + (j + 1) = i + 1 + j by omega]; simpa [seqS, seqH, seqV, seqK] using g1
          · simpa [seqS, seqH, seqV, seqK] using g2
      · cases h
    · cases h

def KdSpec (P : Program) (ops : Array Oper) (N0 i : Nat) (s : List Value) (o : Oper) (H : AH) (v : Value) (H' : AH) (k : Kd) : Prop :=
  match k with
    | .skip => Region.wanted o (ayield ops s) = false ∧ v = undef ∧ H' = H
    | .pure => Region.wanted o (ayield ops s) = true ∧ apure P s o = some v ∧ H' = H
    | .read => Region.wanted o (ayield ops s) = true ∧ aread P s o H.get = some v ∧ H' = H
    | .alloc blk => Region.wanted o (ayield ops s) = true ∧ (∃ k, aalloc P s o = some (blk, k) ∧ v = k.val (N0 + i)) ∧ (∀ b, H'.get b = upd H.get (N0 + i) (some blk) b) ∧ H'.next = H.next
    | .loud => Region.wanted o (ayield ops s) = true ∧ StepOk P o s H v H'
/-- What one entry of the run says. -/
theorem entF_spec {i : Nat} {s : List Value} {o : Oper} {H H' : AH} {v : Value} {k : Kd} {rb : Option Nat} (hcall : ∀ f args H v H', call f args H = some (v, H') → ACalls P f args H v H') (h : entF call P ops N0 i s o H = some (v, k, rb, H')) :
    KdSpec P ops N0 i s o H v H' k ∧ (k = .read → rb = readsOf s o) := by
  unfold entF at h
  split at h
  · rename_i hw
    split at h
    · rename_i u hu
      cases h
      exact ⟨⟨hw, hu, rfl⟩, fun h => by cases h⟩
    · split at h
      · rename_i u hu
        cases h
        exact ⟨⟨hw, hu, rfl⟩, fun _ => rfl⟩
      · split at h
        · rename_i blk mk hal
          split at h
          · rename_i hb
            split at h
            · rename_i hlt
              cases h
              refine ⟨⟨hw, ⟨mk, hal, rfl⟩, fun b => ?_, rfl⟩, fun h => by cases h⟩
              rw [get_set_at H _ hlt (by rw [hb]; rfl)]
            · cases h
          · cases h
        · split at h
          · rename_i f args hc
            obtain ⟨r, h1, h2⟩ := Option.map_eq_some_iff.1 h
            cases h2
            exact ⟨⟨hw, acall_ok hc (hcall _ _ _ _ _ h1)⟩, fun h => by cases h⟩
          · obtain ⟨r, h1, h2⟩ := Option.map_eq_some_iff.1 h
            cases h2
            exact ⟨⟨hw, awrite_next h1, fun ι a w hS hor nx Q hn => by
              obtain ⟨ι', v', w', e1, e2, e3, e4⟩ := awrite_ok h1 hor hS
              exact wp_of_run e1 (hn ι' v' w' e2 e3 e4)⟩, fun h => by cases h⟩
  · rename_i hw
    cases h
    exact ⟨⟨by simpa using hw, rfl, rfl⟩, fun h => by cases h⟩

theorem isLoud_of {k : Kd} (h : k = .loud) : k.isLoud = true := by subst h; rfl
theorem isAlloc_of {k : Kd} {b : ABlk} (h : k = .alloc b) : k.isAlloc = true := by subst h; rfl

theorem drawF_ok {eq : Option ABlk → Option ABlk → Bool} {s s' : List Value} {H H' : AH} {id : Nat} (hcall : ∀ f args H v H', call f args H = some (v, H') → ACalls P f args H v H') (heq : ∀ x y, eq x y = true → x = y)
    (hmix : P.follows .mixedOrders = true) (h : drawF call eq P ops s H = some (s', H')) : ARun P (.region id ops true) s H .normal s' H' := by
  unfold drawF at h
  split at h
  · rename_i es s1 H1 hrun
    simp only at h
    split at h
    · rename_i hchk
      cases h
      simp only [Bool.and_eq_true] at hchk
      obtain ⟨hord, hheap⟩ := hchk
      obtain ⟨hlen, hs0, hH0, hents⟩ := drawRun_spec ops.toList 0 s (reserve H ops.size) es s' H' hrun
      have hlen : es.length = ops.size := by simpa using hlen
      have hfin : seqS es s' ops.size = s' ∧ seqH es H' ops.size = H' := by
        unfold seqS seqH
        rw [List.getElem?_eq_none (by omega)]
        exact ⟨rfl, rfl⟩
      have hE : ∀ i o, ops[i]? = some o → ∃ rb, (∃ e, es[i]? = some e ∧ e.rb = rb) ∧ entF call P ops H.next i (seqS es s' i) o (seqH es H' i) = some (seqV es i, seqK es i, rb, seqH es H' (i + 1)) ∧ seqS es s' (i + 1) = putd (seqS es s' i) o.dst (seqV es i) := fun i o ho => by
        have := hents i o (by simpa using ho)
        simpa using this
      have hord' : ∀ j oj, ops[j]? = some oj → (∀ e ∈ oj.after, Region.binds .any e = true → e.on < j) ∧ ∀ i oi, i < j → ops[i]? = some oi → ((ancs ops.toList []).getD j 0).testBit i = true ∨
          ((∀ d, oi.dst = some d → d ∉ oj.looksAt ops ∧ oj.dst ≠ some d) ∧ ∀ d, oj.dst = some d → d ∉ oi.looksAt ops) := fun j oj hj => by
        have hjl := lt_of_get hj
        have h1 := allI_spec hord j hjl
        simp only [hj, Bool.and_eq_true] at h1
        refine ⟨fun e he hb => ?_, fun i oi hij hi => ?_⟩
        · have := List.all_eq_true.1 h1.1 e (by simpa using he)
          simp [hb] at this
          exact this
        · have h2 := allI_spec h1.2 i hij
          simp only [hi, Bool.or_eq_true, Bool.and_eq_true, Bool.not_eq_true'] at h2
          refine h2.imp (fun h => h) fun ⟨g1, g2⟩ => ⟨fun d hd => ?_, fun d hd => ?_⟩
          · simp only [hd, Bool.or_eq_false_iff] at g1
            exact ⟨fun hm => by have := g1.1; simp at this; exact this hm, fun e => by have := g1.2; simp [e] at this⟩
          · simp only [hd] at g2
            exact fun hm => by simp at g2; exact g2 hm
      have hheap' : ∀ p, p < ops.size → seqK es p = .loud → ∀ i e, es[i]? = some e →
          (e.k = .loud → i < p → ((ancs ops.toList []).getD p 0).testBit i = true) ∧
          (∀ b, e.k = .alloc b → p < i → (seqH es H' (p + 1)).get (H.next + i) = none) ∧
          (∀ b, e.k = .alloc b → i < p → ((ancs ops.toList []).getD p 0).testBit i = true ∨ (seqH es H' (p + 1)).get (H.next + i) = (seqH es H' p).get (H.next + i)) ∧
          (∀ b, e.rb = some b → ((ancs ops.toList []).getD i 0).testBit p = true ∨ ((ancs ops.toList []).getD p 0).testBit i = true ∨ (seqH es H' (p + 1)).get b = (seqH es H' p).get b) := fun p hp hk i e he => by
        have hep : es[p]? = some (es[p]'(by omega)) := List.getElem?_eq_getElem (by omega)
        have hkp : (es[p]'(by omega)).k = .loud := by unfold seqK at hk; rw [hep] at hk; exact hk
        have hpm := scanL_mem H' es 0 p _ hep (isLoud_of hkp)
        rw [Nat.zero_add] at hpm
        have hpH : (es[p]'(by omega)).H = seqH es H' p := by unfold seqH; rw [hep]
        rw [hpH] at hpm
        have h1 := List.all_eq_true.1 hheap _ hpm
        simp only [Bool.and_eq_true, rget_eq] at h1
        obtain ⟨⟨g1, g2⟩, g3⟩ := h1
        refine ⟨fun hk hlt => ?_, fun b hk hlt => ?_, fun b hk hlt => ?_, fun b hk => ?_⟩
        · have hm := scanL_mem H' es 0 i e he (isLoud_of hk)
          rw [Nat.zero_add] at hm
          have := List.all_eq_true.1 g1 _ hm
          simp only [Bool.or_eq_true] at this
          rcases this with h | h
          · have := Nat.le_of_ble_eq_true h; omega
          · exact h
        · have hm := scanA_mem es 0 i e he (isAlloc_of hk)
          rw [Nat.zero_add] at hm
          have := List.all_eq_true.1 g2 _ hm
          have hb : Nat.blt p i = true := by rw [Nat.blt_eq]; exact hlt
          simp only [hb, cond_true] at this
          simpa using this
        · have hm := scanA_mem es 0 i e he (isAlloc_of hk)
          rw [Nat.zero_add] at hm
          have := List.all_eq_true.1 g2 _ hm
          have hb : Nat.blt p i = false := by
            cases hq : Nat.blt p i with
            | false => rfl
            | true => rw [Nat.blt_eq] at hq; omega
          simp only [hb, cond_false, Bool.or_eq_true] at this
          rcases this with (h | h) | h
          · have := Nat.eq_of_beq_eq_true h; omega
          · exact .inl h
          · exact .inr (heq _ _ h)
        · have hm := scanR_mem es 0 i e b he hk
          rw [Nat.zero_add] at hm
          have := List.all_eq_true.1 g3 _ hm
          simp only [Bool.or_eq_true] at this
          rcases this with (h | h) | h
          · exact .inl h
          · exact .inr (.inl h)
          · exact .inr (.inr (heq _ _ h))
      have D : DrawOk P ops s H ⟨seqS es s', seqH es H', seqV es, seqK es⟩ (fun i j => ((ancs ops.toList []).getD i 0).testBit j) := by
        refine ⟨hs0, fun b => ?_, ?_, fun i o ho => ?_, fun i o ho => ?_, ?_, ?_, fun i o ho => (hord' i o ho).1, ?_, ?_, ?_, ?_, ?_⟩
        · show (seqH es H' 0).get b = _
          rw [hH0, reserve_get]
        · show (seqH es H' 0).next = _
          rw [hH0, reserve_next]
        · obtain ⟨rb, _, _, h4⟩ := hE i o ho; exact h4
        · obtain ⟨rb, _, h3, _⟩ := hE i o ho
          exact (entF_spec hcall h3).1
        · intro i
          induction i with
          | zero => intro k blk _ _ _; show (seqH es H' 0).get _ = none; rw [hH0, reserve_get, AH.get_def, if_neg (by omega)]
          | succ i ih =>
            intro k blk hik hk hkd
            have hprev := ih k blk (by omega) hk hkd
            obtain ⟨o, ho⟩ : ∃ o, ops[i]? = some o := ⟨_, Array.getElem?_eq_getElem (by omega)⟩
            obtain ⟨rb, _, h3, _⟩ := hE i o ho
            have hst := (entF_spec hcall h3).1
            unfold KdSpec at hst
            show (seqH es H' (i + 1)).get _ = none
            have hprev' : (seqH es H' i).get (H.next + k) = none := hprev
            cases hki : seqK es i with
            | skip => rw [hki] at hst; rw [hst.2.2]; exact hprev'
            | pure => rw [hki] at hst; rw [hst.2.2]; exact hprev'
            | read => rw [hki] at hst; rw [hst.2.2]; exact hprev'
            | alloc b => rw [hki] at hst; rw [hst.2.2.1, upd_other _ _ (by omega)]; exact hprev'
            | loud =>
              have hek : es[k]? = some (es[k]'(by omega)) := List.getElem?_eq_getElem (by omega)
              have hkk : (es[k]'(by omega)).k = .alloc blk := by
                have : seqK es k = .alloc blk := hkd
                unfold seqK at this; rw [hek] at this; exact this
              exact (hheap' i (by omega) hki k _ hek).2.1 blk hkk (by omega)
        · intro i j o ho hB
          have := ancs_spec ops.toList [] [] rfl (fun i j o ho => by simp at ho) i j o (by simpa using ho) hB
          obtain ⟨e, he, h⟩ := this
          exact ⟨e, by simpa using he, h⟩
        · intro i j oi oj d hij hi hj hd hor
          rcases (hord' j oj hj).2 i oi hij hi with h | ⟨h, _⟩
          · exact h
          · rcases hor with h' | h'
            · exact absurd h' (h d hd).1
            · exact absurd h' (h d hd).2
        · intro i j oi oj d hij hi hj hd hm
          rcases (hord' j oj hj).2 i oi hij hi with h | ⟨_, h⟩
          · exact h
          · exact absurd hm (h d hd)
        · intro i j hij hj hki hkj
          have hei : es[i]? = some (es[i]'(by omega)) := List.getElem?_eq_getElem (by omega)
          have hkk : (es[i]'(by omega)).k = .loud := by
            have : seqK es i = .loud := hki
            unfold seqK at this; rw [hei] at this; exact this
          exact (hheap' j hj hkj i _ hei).1 hkk hij
        · intro i p o b ho hp hki hb hkp
          obtain ⟨rb, ⟨e, he1, he2⟩, h3, _⟩ := hE i o ho
          have hrb := (entF_spec hcall h3).2 hki
          exact (hheap' p hp hkp i e he1).2.2.2 b (by rw [he2, hrb]; exact hb)
        · intro k p blk hkp hp hkk hkl
          have hek : es[k]? = some (es[k]'(by omega)) := List.getElem?_eq_getElem (by omega)
          have hkk' : (es[k]'(by omega)).k = .alloc blk := by
            have : seqK es k = .alloc blk := hkk
            unfold seqK at this; rw [hek] at this; exact this
          exact (hheap' p hp hkl k _ hek).2.2.1 blk hkk' hkp
      have := ARun.draw D (id := id) hmix
      simp only [hfin.1, hfin.2] at this
      exact this
    · cases h
  · cases h

theorem aopsF_ok (hcall : ∀ f args H v H', call f args H = some (v, H') → ACalls P f args H v H') : ∀ (l : List Oper) {s s' : List Value} {H H' : AH}, aopsF call P ops l s H = some (s', H') → AOps P ops l s H s' H'
  | [], s, s', H, H', h => by rw [aopsF_nil] at h; cases h; exact .nil
  | o :: rest, s, s', H, H', h => by
    rw [aopsF_cons] at h
    split at h
    · rename_i hw
      split at h
      · rename_i v H1 hst
        refine .step hw ?_ (aopsF_ok hcall rest h)
        unfold stepF at hst
        split at hst
        · rename_i f args hc; exact acall_ok hc (hcall _ _ _ _ _ hst)
        · exact astep_ok hst
      · cases h
    · rename_i hw
      exact .skip (by simpa using hw) (aopsF_ok hcall rest h)
end
end
end Go.Am
