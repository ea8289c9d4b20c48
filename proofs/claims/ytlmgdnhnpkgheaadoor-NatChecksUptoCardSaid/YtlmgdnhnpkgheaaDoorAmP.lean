/- Rules for operations on closed values (texts, truth values, lengths) and for reading, making and writing. -/
import Derived.Test.YtlmgdnhnpkgheaaDoorAmO
namespace Go.Am
open Go
noncomputable section
set_option linter.unusedSimpArgs false
set_option linter.unusedVariables false

theorem pureRun_bind {α β : Type} {P : Program} (e : Sem α) (k : α → Sem β) : (e >>= k).pureRun P = (e.pureRun P).bind (fun a => (k a).pureRun P) := by
  show (e.bind k).pureRun P = _
  induction e with
  | pure a => rfl
  | program f ih => simp only [Sem.bind, Sem.pureRun]; exact ih P
  | mark m f ih => simp only [Sem.bind, Sem.pureRun]; exact ih
  | _ => rfl
theorem pureRun_map {α β : Type} {P : Program} (f : α → β) (e : Sem α) : (f <$> e).pureRun P = (e.pureRun P).map f := by
  show (e >>= fun a => pure (f a)).pureRun P = _
  rw [pureRun_bind]
  cases e.pureRun P <;> rfl
theorem pureRun_pure {α : Type} {P : Program} (a : α) : (pure a : Sem α).pureRun P = some a := rfl
theorem pureRun_under {P : Program} {t : TypeId} {d : TypeDesc} (h : P.underlying t = some d) : (underlying t : Sem TypeDesc).pureRun P = some d := by
  unfold underlying
  rw [pureRun_bind]
  show Option.bind (some P) _ = _
  simp only [Option.bind_some, h]
  rfl

section
variable {P : Program} {n : Nat} {σ : Nat → Value} {H H1 : AH} {ops : Array Oper} {l : List Oper} {Q : (Nat → Value) → AH → Prop} {d : Tmp} {ty t yt e : TypeId} {pos : String} {af : Array Edge} {g : Option (Nat × Bool)} {v u w : Value} {x y c : Operand} {s : List Value}

theorem equal_bool {a b : Bool} (ht : P.underlying t = some .bool) : (Op.equal t (.bool a) (.bool b)).pureRun P = some (a == b) := by
  have : ∀ k, (Op.equalIn (k + 1) t (.bool a) (.bool b)).pureRun P = some (a == b) := by
    intro k
    unfold Op.equalIn
    rw [pureRun_bind, pureRun_under ht]
    rfl
  exact this _
theorem len_nil (hx : opnd s x = some (.slice none 0 0)) (ht : P.underlying t = some (.slice e)) : apure P s ⟨some d, .call ⟨.builtin .len, #[x], #[t]⟩, ty, pos, af, g⟩ = some (.int .i64 0) := by
  have hc : closed (.slice none 0 0) = true := rfl
  have hi : ∀ i, closed (.int .i64 i) = true := fun _ => rfl
  simp [apure, hx, agen, isSel, Op.operands, Call.operands, hc, execOp, resolve, invoke, builtin, Builtin.len_, pureRun_bind, pureRun_map, pureRun_pure, pureRun_under ht, goInt, hi]
theorem len_str {a : ByteArray} (hx : opnd s x = some (.string a)) (ht : P.underlying t = some .string) : apure P s ⟨some d, .call ⟨.builtin .len, #[x], #[t]⟩, ty, pos, af, g⟩ = some (.int .i64 a.size) := by
  have hc : ∀ b, closed (.string b) = true := fun _ => rfl
  have hi : ∀ i, closed (.int .i64 i) = true := fun _ => rfl
  simp [apure, hx, agen, isSel, Op.operands, Call.operands, hc, execOp, resolve, invoke, builtin, Builtin.len_, pureRun_bind, pureRun_map, pureRun_pure, pureRun_under ht, goInt, hi]
theorem len_sl {es : Nat} (hx : opnd s x = some v) (hs : isSlV v es) (ht : P.underlying t = some (.slice e)) : apure P s ⟨some d, .call ⟨.builtin .len, #[x], #[t]⟩, ty, pos, af, g⟩ = some (.int .i64 es) := by
  rcases hs with ⟨rfl, rfl⟩ | ⟨b, off, tg, cap, rfl⟩
  · exact len_nil hx ht
  · simp [apure, hx, aLen, ht]
theorem str_op {op : BinOp} {a b : ByteArray} (hx : opnd s x = some (.string a)) (hy : opnd s y = some (.string b)) (h : (Op.stringOp op a b).pureRun P = some v) (hv : closed v = true) : apure P s ⟨some d, .binOp op t x y yt, ty, pos, af, g⟩ = some v := by
  have hc : ∀ b, closed (.string b) = true := fun _ => rfl
  have he : (eqGuard op t x y (.string a) (.string b)).pureRun P = some () := by
    unfold eqGuard
    cases op <;> rfl
  have hb : binOp op t (.string a) (.string b) = Op.stringOp op a b := by cases op <;> rfl
  simp [apure, abin, hx, hy, agen, isSel, Op.operands, hc, execOp, pureRun_bind, pureRun_map, pureRun_pure, he, hb, h, hv]
theorem bool_eql {a b : Bool} (hx : opnd s x = some (.bool a)) (hy : opnd s y = some (.bool b)) (ht : P.underlying t = some .bool) : apure P s ⟨some d, .binOp .eql t x y yt, ty, pos, af, g⟩ = some (.bool (a == b)) := by
  have hc : ∀ b, closed (.bool b) = true := fun _ => rfl
  have he : (eqGuard .eql t x y (.bool a) (.bool b)).pureRun P = some () := rfl
  have hq := equal_bool (a := a) (b := b) ht
  have hb : binOp .eql t (.bool a) (.bool b) = (do pure (.bool (← Op.equal t (.bool a) (.bool b)))) := rfl
  simp [apure, abin, hx, hy, agen, isSel, Op.operands, hc, execOp, pureRun_bind, pureRun_map, pureRun_pure, he, hb, hq]
theorem bool_neq {a b : Bool} (hx : opnd s x = some (.bool a)) (hy : opnd s y = some (.bool b)) (ht : P.underlying t = some .bool) : apure P s ⟨some d, .binOp .neq t x y yt, ty, pos, af, g⟩ = some (.bool (!(a == b))) := by
  have hc : ∀ b, closed (.bool b) = true := fun _ => rfl
  have he : (eqGuard .neq t x y (.bool a) (.bool b)).pureRun P = some () := rfl
  have hq := equal_bool (a := a) (b := b) ht
  have hb : binOp .neq t (.bool a) (.bool b) = (do pure (.bool (!(← Op.equal t (.bool a) (.bool b))))) := rfl
  simp [apure, abin, hx, hy, agen, isSel, Op.operands, hc, execOp, pureRun_bind, pureRun_map, pureRun_pure, he, hb, hq]
theorem bool_not {a : Bool} (hx : opnd s x = some (.bool a)) : apure P s ⟨some d, .unOp .not t x, ty, pos, af, g⟩ = some (.bool !a) := by
  have hc : ∀ b, closed (.bool b) = true := fun _ => rfl
  have hq : (Op.unary .not (.bool a)).pureRun P = some (.bool !a) := rfl
  simp [apure, hx, agen, isSel, Op.operands, hc, execOp, pureRun_bind, pureRun_map, pureRun_pure, hq]
end
end
end Go.Am
