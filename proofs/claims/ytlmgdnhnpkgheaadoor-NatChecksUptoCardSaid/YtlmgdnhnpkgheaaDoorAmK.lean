/- The abstract machine as a function of a number of rounds; and what a closed run tells. -/
import Derived.Test.YtlmgdnhnpkgheaaDoorAmJ
namespace Go.Am
open Go
noncomputable section
set_option linter.unusedSimpArgs false
set_option linter.unusedVariables false

/-- A loop, at most so many rounds. -/
def loopF (body : List Value → AH → Option (Exit × List Value × AH)) (n : Nat) : List Value → AH → Option (Exit × List Value × AH) :=
  Nat.rec (motive := fun _ => List Value → AH → Option (Exit × List Value × AH)) (fun _ _ => none)
    (fun _ ih s H => match body s H with
      | some (.normal, s', H') => ih s' H'
      | r => r) n
theorem loopF_zero (body : List Value → AH → Option (Exit × List Value × AH)) (s : List Value) (H : AH) : loopF body 0 s H = none := rfl
theorem loopF_succ (body : List Value → AH → Option (Exit × List Value × AH)) (n : Nat) (s : List Value) (H : AH) : loopF body (n + 1) s H = match body s H with
    | some (.normal, s', H') => loopF body n s' H'
    | r => r := rfl
def codeF (call : CallF) (eq : Option ABlk → Option ABlk → Bool) (P : Program) (rounds : Nat) (c : Code) : List Value → AH → Option (Exit × List Value × AH) :=
  Code.rec (motive := fun _ => List Value → AH → Option (Exit × List Value × AH))
    (fun s H => some (.normal, s, H))
    (fun _ ops draw s H => (if draw then drawF call eq P ops s H else aopsF call P ops ops.toList s H).map fun r => (.normal, r))
    (fun _ _ iha ihb s H => match iha s H with
      | some (.normal, s', H') => ihb s' H'
      | r => r)
    (fun c _ _ ihx ihy s H => match opnd s c with
      | some (.bool true) => ihx s H
      | some (.bool false) => ihy s H
      | _ => none)
    (fun id _ ih s H => match ih s H with
      | some (.exit k, s', H') => if k = id then some (.normal, s', H') else some (.exit k, s', H')
      | r => r)
    (fun _ ih s H => loopF ih rounds s H)
    (fun _ _ _ _ _ _ _ _ => none)
    (fun id s H => some (.exit id, s, H))
    (fun _ _ _ _ => none)
    (fun _ s H => some (.normal, s, H))
    (fun _ _ _ => none)
    (fun s H => some (.ret, s, H))
    (fun _ _ _ => none) c
def callF (eq : Option ABlk → Option ABlk → Bool) (P : Program) (ext : FuncId → Option (List Value → AH → Option (Value × AH))) (rounds : Nat) (n : Nat) : CallF :=
  Nat.rec (motive := fun _ => CallF) (fun _ _ _ => none)
    (fun _ ih f args H => match ext f with
      | some g => g args H
      | none => match P.funcs[f]? with
        | some fn => match fn.body with
          | some c => match codeF ih eq P rounds c (args ++ List.replicate (fn.ntmps - args.length) undef) H with
            | some (.normal, s', H') => (aret P fn s' H').map fun v => (v, H')
            | some (.ret, s', H') => (aret P fn s' H').map fun v => (v, H')
            | _ => none
          | none => none
        | none => none) n
theorem callF_zero (eq : Option ABlk → Option ABlk → Bool) (P : Program) (ext : FuncId → Option (List Value → AH → Option (Value × AH))) (rounds : Nat) (f : FuncId) (args : List Value) (H : AH) : callF eq P ext rounds 0 f args H = none := rfl
theorem callF_succ (eq : Option ABlk → Option ABlk → Bool) (P : Program) (ext : FuncId → Option (List Value → AH → Option (Value × AH))) (rounds n : Nat) (f : FuncId) (args : List Value) (H : AH) : callF eq P ext rounds (n + 1) f args H = match ext f with
    | some g => g args H
    | none => match P.funcs[f]? with
      | some fn => match fn.body with
        | some c => match codeF (callF eq P ext rounds n) eq P rounds c (args ++ List.replicate (fn.ntmps - args.length) undef) H with
          | some (.normal, s', H') => (aret P fn s' H').map fun v => (v, H')
          | some (.ret, s', H') => (aret P fn s' H').map fun v => (v, H')
          | _ => none
        | none => none
      | none => none := rfl
section
variable {P : Program} {call : CallF} {eq : Option ABlk → Option ABlk → Bool}

theorem loopF_ok {c : Code} {body : List Value → AH → Option (Exit × List Value × AH)} (hb : ∀ s H ex s' H', body s H = some (ex, s', H') → ARun P c s H ex s' H') : ∀ (n : Nat) (s s' : List Value) (H H' : AH) (ex : Exit), loopF body n s H = some (ex, s', H') → ALoop P c s H ex s' H'
  | 0, s, s', H, H', ex, h => by rw [loopF_zero] at h; cases h
  | n + 1, s, s', H, H', ex, h => by
    rw [loopF_succ] at h
    split at h
    · rename_i s1 H1 h1
      exact .again (hb _ _ _ _ _ h1) (loopF_ok hb n _ _ _ _ _ h)
    · rename_i r hne
      refine .out (hb _ _ _ _ _ h) fun e => ?_
      subst e
      exact hne s' H' h

theorem codeF_ok (hcall : ∀ f args H v H', call f args H = some (v, H') → ACalls P f args H v H') (heq : ∀ x y, eq x y = true → x = y) (hmix : P.follows .mixedOrders = true) (rounds : Nat) :
    ∀ (c : Code) (s s' : List Value) (H H' : AH) (ex : Exit), codeF call eq P rounds c s H = some (ex, s', H') → ARun P c s H ex s' H'
  | .skip, s, s', H, H', ex, h => by cases h; exact .skip
  | .label _, s, s', H, H', ex, h => by cases h; exact .label
  | .ret, s, s', H, H', ex, h => by cases h; exact .ret
  | .exit _, s, s', H, H', ex, h => by cases h; exact .exit
  | .region id ops draw, s, s', H, H', ex, h => by
    replace h : (if draw then drawF call eq P ops s H else aopsF call P ops ops.toList s H).map (fun r => (Exit.normal, r)) = some (ex, s', H') := h
    obtain ⟨r, h1, h2⟩ := Option.map_eq_some_iff.1 h
    cases h2
    cases draw with
    | true => exact drawF_ok hcall heq hmix (by simpa using h1)
    | false => exact .region (aopsF_ok hcall _ (by simpa using h1))
  | .seq a b, s, s', H, H', ex, h => by
    replace h : (match codeF call eq P rounds a s H with
      | some (.normal, s', H') => codeF call eq P rounds b s' H'
      | r => r) = some (ex, s', H') := h
    split at h
    · rename_i s1 H1 h1
      exact .seq (codeF_ok hcall heq hmix rounds a _ _ _ _ _ h1) (codeF_ok hcall heq hmix rounds b _ _ _ _ _ h)
    · rename_i r hne
      exact .seq_out (codeF_ok hcall heq hmix rounds a _ _ _ _ _ h) fun e => by subst e; exact hne s' H' h
  | .cond c x y, s, s', H, H', ex, h => by
    replace h : (match opnd s c with
      | some (.bool true) => codeF call eq P rounds x s H
      | some (.bool false) => codeF call eq P rounds y s H
      | _ => none) = some (ex, s', H') := h
    split at h
    · rename_i hc; exact .cond hc (codeF_ok hcall heq hmix rounds x _ _ _ _ _ h)
    · rename_i hc; exact .cond hc (codeF_ok hcall heq hmix rounds y _ _ _ _ _ h)
    · cases h
  | .block id c, s, s', H, H', ex, h => by
    replace h : (match codeF call eq P rounds c s H with
      | some (.exit k, s', H') => if k = id then some (.normal, s', H') else some (.exit k, s', H')
      | r => r) = some (ex, s', H') := h
    split at h
    · rename_i k s1 H1 h1
      have := codeF_ok hcall heq hmix rounds c _ _ _ _ _ h1
      split at h
      · rename_i e; subst e; cases h; exact .block_exit this
      · rename_i e; cases h; exact .block this (fun e' => e (by injection e'))
    · rename_i r hne
      exact .block (codeF_ok hcall heq hmix rounds c _ _ _ _ _ h) fun e => by subst e; exact hne id s' H' h
  | .loop c, s, s', H, H', ex, h => by
    replace h : loopF (codeF call eq P rounds c) rounds s H = some (ex, s', H') := h
    exact .loop (loopF_ok (fun s H ex s' H' h1 => codeF_ok hcall heq hmix rounds c s s' H H' ex h1) _ _ _ _ _ _ h)
  | .rangeFunc .., s, s', H, H', ex, h => by cases h
  | .scope _, s, s', H, H', ex, h => by cases h
  | .goto _, s, s', H, H', ex, h => by cases h
  | .refuse _, s, s', H, H', ex, h => by cases h

theorem callF_ok {ext : FuncId → Option (List Value → AH → Option (Value × AH))} (hext : ∀ f g, ext f = some g → ∀ args H v H', g args H = some (v, H') → ACalls P f args H v H') (heq : ∀ x y, eq x y = true → x = y) (hmix : P.follows .mixedOrders = true) (rounds : Nat) :
    ∀ (n : Nat) (f : FuncId) (args : List Value) (H : AH) (v : Value) (H' : AH), callF eq P ext rounds n f args H = some (v, H') → ACalls P f args H v H'
  | 0, f, args, H, v, H', h => by rw [callF_zero] at h; cases h
  | n + 1, f, args, H, v, H', h => by
    rw [callF_succ] at h
    split at h
    · rename_i g hg; exact hext f g hg args H v H' h
    · split at h
      · rename_i fn hf
        split at h
        · rename_i c hb
          split at h
          · rename_i s1 H1 h1
            obtain ⟨u, hu, h2⟩ := Option.map_eq_some_iff.1 h
            cases h2
            exact .of_run hf hb (.inl rfl) (codeF_ok (callF_ok hext heq hmix rounds n) heq hmix rounds c _ _ _ _ _ h1) hu
          · rename_i s1 H1 h1
            obtain ⟨u, hu, h2⟩ := Option.map_eq_some_iff.1 h
            cases h2
            exact .of_run hf hb (.inr rfl) (codeF_ok (callF_ok hext heq hmix rounds n) heq hmix rounds c _ _ _ _ _ h1) hu
          · cases h
        · cases h
      · cases h
end
def noExt : FuncId → Option (List Value → AH → Option (Value × AH)) := fun _ => none
/-- A CLOSED RUN: what it comes to, it comes to in every world. -/
theorem closed_run {P : Program} (hmix : P.follows .mixedOrders = true) {f : FuncId} {rounds n : Nat} {v : Value} (h : ((callF blkEq P noExt rounds n f [] ⟨0, []⟩).map (·.1)) = some v) : ∃ H', ACalls P f [] ⟨0, []⟩ v H' := by
  obtain ⟨r, h1, h2⟩ := Option.map_eq_some_iff.1 h
  subst h2
  exact ⟨r.2, callF_ok (fun f g h => by cases h) (fun x y => blkEq_eq) hmix rounds n f [] _ _ _ h1⟩
end
end Go.Am
