/- The operations that write: store, append, copy, clear. -/
import Derived.Test.YtlmgdnhnpkgheaaDoorAmF
namespace Go.Am
open Go
set_option linter.unusedSimpArgs false
set_option linter.unusedVariables false
section
variable {P : Program} {ι : Ren} {s : List Value} {a : Act} {o : Oper} {H : AH} {w : World}

theorem asrc_ok {v v' : Value} {size : Nat} {cut : Option Nat} {k : Nat} {new : List Value} {n : Nat} {G : Nat → Option ABlk} (h : asrc v size G cut = some (k, new)) (hv : VR ι v v') (hS : Sim n ι G w) :
    ∃ new', VRs ι new new' ∧ new.length = ((cut.map (Nat.min k)).getD k) * size ∧ (∀ w', (Builtin.lenOf v').run P w' = .ok k w') ∧
      ∀ w', w'.heap = w.heap → (Builtin.firstCells size ((cut.map (Nat.min k)).getD k) v').run P w' = .ok new'.toArray w' := by
  unfold asrc at h
  split at h
  · rename_i c
    cases h
    have := hv.scalar_eq rfl; subst this
    have h0 : ((cut.map (Nat.min 0)).getD 0) = 0 := by cases cut <;> simp
    exact ⟨[], .nil, by simp [h0], fun w' => by simp [Builtin.lenOf], fun w' _ => by simp [Builtin.firstCells]⟩
  · rename_i b off tg m c
    obtain ⟨cb, co, ex, o', c', hb, rfl, htg, hcs⟩ := hv.sl_inv
    simp only at h
    split at h
    · rename_i h0
      cases h
      refine ⟨[], .nil, by simp [h0], fun w' => by simp [Builtin.lenOf], fun w' _ => ?_⟩
      rw [h0]
      simp [Builtin.firstCells, loadCells, loadCellsFrom]
    · rename_i h0
      cases hG : G b with
      | none => simp [hG] at h
      | some x =>
        simp only [hG, Option.bind_some] at h
        split at h
        · rename_i hl
          cases h
          obtain ⟨cs, e1, e2⟩ := read_ok (P := P) (hS.blk b x cb co ex hG hb) off _ hl
          have ho : o' = co + off := by
            rcases hcs with ⟨_, h, _⟩ | ⟨_, h, _⟩ | ⟨h, _, _⟩
            · exact h
            · exact h
            · exfalso; subst h; apply h0; cases cut <;> simp
          subst ho
          refine ⟨cs, e2, by simp; omega, fun w' => by simp [Builtin.lenOf], fun w' hw' => ?_⟩
          have hB := (hS.grow (w' := w') (fun cb _ => by rw [hw'])).blk b x cb co ex hG hb
          obtain ⟨cs2, e3, e4⟩ := read_ok (P := P) hB off _ hl
          have : cs2 = cs := by
            have hcell : ∀ a, w'.cell? a = w.cell? a := fun a => by simp [World.cell?, hw']
            have e1' := e1
            have key : ∀ (k i : Nat) (acc : Array Value) (r : Array Value), (loadCellsFrom ⟨cb, co + off, none⟩ i k acc).run P w = .ok r w → (loadCellsFrom ⟨cb, co + off, none⟩ i k acc).run P w' = .ok r w' := by
              intro k
              induction k with
              | zero => intro i acc r hr; simp [loadCellsFrom] at hr ⊢; exact hr
              | succ k ih =>
                intro i acc r hr
                simp only [loadCellsFrom, Sem.run_bind, run_load] at hr ⊢
                rw [hcell]
                cases hq : w.cell? ((⟨cb, co + off, none⟩ : Addr).add i) with
                | none =>
                  rw [hq] at hr
                  simp only at hr
                  exfalso
                  revert hr
                  obtain ⟨arr, el, fr, g1, _⟩ := (hS.blk b x cb co ex hG hb).lies
                  have hf : w.farLoad P ((⟨cb, co + off, none⟩ : Addr).add i) (Mode.plain == Mode.atomic) = .error (w.noCell ((⟨cb, co + off, none⟩ : Addr).add i) "load: no such cell") := by
                    have hblk : ((⟨cb, co + off, none⟩ : Addr).add i).block = cb := by rw [add_addr]
                    simp [World.farLoad, hblk, g1]
                  rw [hf]
                  simp
                | some u =>
                  rw [hq] at hr
                  simp only [Result.andThen_ok] at hr ⊢
                  exact ih _ _ _ hr
            have := key _ 0 #[] _ e1
            rw [loadCells] at e3
            rw [this] at e3
            injection e3 with e3
            have := congrArg Array.toList e3
            simpa using this.symm
          subst this
          simpa [Builtin.firstCells] using e3
        · cases h
  · rename_i str
    simp only at h
    split at h
    · rename_i hs1
      cases h
      subst hs1
      have := hv.scalar_eq rfl; subst this
      have hl : str.data.toList.length = str.size := by rw [Array.length_toList]; rfl
      refine ⟨_, VRs.of_scalar (by rw [List.all_map]; exact List.all_eq_true.2 fun _ _ => rfl), ?_, fun w' => by simp [Builtin.lenOf], fun w' _ => ?_⟩
      · rw [List.length_map, List.length_take, hl]
        cases cut with
        | none => simp
        | some c => show min (min str.size c) str.size = min str.size c * 1; omega
      · simp only [Builtin.firstCells, Sem.run_pure]
        congr 1
        apply Array.ext'
        simp [ByteArray.data_extract, List.extract_eq_take_drop]
    · cases h
  · cases h

theorem notInt_ok {t : TypeId} (h : notInt P t = true) : ∃ d, P.underlying t = some d ∧ ∀ k, d ≠ .int k := by
  unfold notInt at h
  split at h
  · cases h
  · rename_i d hne hu; exact ⟨d, hu, fun k e => hne k e⟩
  · cases h

theorem not_int_matches {dx : TypeDesc} (h : ∀ k, dx ≠ .int k) : (dx matches .int _) = false := by cases dx <;> first | rfl | exact absurd rfl (h _)
/-- append as the machine carries it out, where there is room and where there is none. -/
theorem run_append_room (w : World) {t xt e ty : TypeId} {i : TypeInfo} {dx : TypeDesc} (ht : P.underlying t = some (.slice e)) (hx : P.underlying xt = some dx) (hdx : ∀ k, dx ≠ .int k) (hi : P.info? e = some i)
    {ts : Array TypeId} (h0 : ts[0]? = some t) (h1 : ts[1]? = some xt) (base : Option Addr) (l c : Nat) {x : Value} {n : Nat} {news : List Value}
    (hlen : ∀ w', (Builtin.lenOf x).run P w' = .ok n w') (hnew : (Builtin.firstCells i.size n x).run P w = .ok news.toArray w) (hroom : l + n ≤ c) :
    (Builtin.append_ ts ty #[.slice base l c, x]).run P w = (match base with
      | some a => ((storeCells (a.add (l * i.size)) news).run P w).andThen fun _ w' => .ok (.slice base (l + n) c) w'
      | none => .ok (.slice base (l + n) c) w) := by
  cases base with
  | none =>
    simp only [Builtin.append_, h0, h1]
    simp only [List.getElem?_toArray, List.getElem?_cons_zero, List.getElem?_cons_succ, Sem.run_bind, run_underlying ht, run_underlying hx, Result.andThen_ok, sizeOf, typeInfo, run_program, hi, Sem.run_pure]
    have hz' := not_int_matches hdx
    simp [hz', hlen, hroom, hnew]
  | some a =>
    simp only [Builtin.append_, h0, h1]
    simp only [List.getElem?_toArray, List.getElem?_cons_zero, List.getElem?_cons_succ, Sem.run_bind, run_underlying ht, run_underlying hx, Result.andThen_ok, sizeOf, typeInfo, run_program, hi, Sem.run_pure]
    have hz' := not_int_matches hdx
    simp [hz', hlen, hroom, hnew]

theorem run_append_more (w : World) {t xt e ty : TypeId} {i : TypeInfo} {z : Value} {dx : TypeDesc} (ht : P.underlying t = some (.slice e)) (hx : P.underlying xt = some dx) (hdx : ∀ k, dx ≠ .int k) (hi : P.info? e = some i) (hz : i.zero = some z)
    {ts : Array TypeId} (h0 : ts[0]? = some t) (h1 : ts[1]? = some xt) (base : Option Addr) (l c : Nat) {x : Value} {n : Nat} {olds news : List Value}
    (hlen : ∀ w', (Builtin.lenOf x).run P w' = .ok n w') (hold : (Builtin.firstCells i.size l (.slice base l c)).run P w.drew = .ok olds.toArray w.drew) (hnew : (Builtin.firstCells i.size n x).run P w.drew = .ok news.toArray w.drew) (hroom : c < l + n)
    (h63 : l + n ≤ 2 ^ 47) (hb : (l + n) * i.bytes ≤ 2 ^ 47) :
    (Builtin.append_ ts ty #[.slice base l c, x]).run P w = .ok (.slice (some ⟨w.heap.size, 0, none⟩) (l + n) (grownCap w (l + n) c e)) (w.drew.alloc (.cells (olds.toArray ++ news.toArray ++ Builtin.zeroCells z.cells (grownCap w (l + n) c e - (l + n))) e)) := by
  have hz' := not_int_matches hdx
  have hn : ¬ (l + n ≤ c) := by omega
  have h63' : ¬ (9223372036854775807 < ((l : Int) + (n : Int))) := by omega
  have h48' : ¬ (281474976710656 < Builtin.nextslicecap (l + n) c * i.bytes) := by have := growslice_fits (bytes := i.bytes) hroom (by omega); omega
  simp only [Builtin.append_, h0, h1]
  simp only [List.getElem?_toArray, List.getElem?_cons_zero, List.getElem?_cons_succ, Sem.run_bind, run_underlying ht, run_underlying hx, Result.andThen_ok, sizeOf, typeInfo, run_program, hi, Sem.run_pure]
  simp [hz', hlen, hn, h63', h48', Question.forced, hold, hnew, newRow, grownCap, zeroValue, typeInfo, hi, hz]
  congr 2
  apply Array.ext'
  simp

theorem le_grownCap (w : World) (need old : Nat) (e : TypeId) : need ≤ grownCap w need old e := by show need ≤ need + _; omega
theorem zeroCells_size (z : Array Value) (n : Nat) : (Builtin.zeroCells z n).size = n * z.size := by simp [Builtin.zeroCells]

/-- What a step that writes leaves. -/
def WriteOk (P : Program) (H : AH) (ι : Ren) (w : World) (e : Sem Value) (v : Value) (H' : AH) : Prop :=
  ∃ ι' v' w', e.run P w = .ok v' w' ∧ VR ι' v v' ∧ Sim H'.next ι' H'.get w' ∧ Evo H.next ι H.get w ι' H'.get w'

theorem next_free (hS : Sim H.next ι H.get w) : ι H.next = none := by
  cases h : ι H.next with
  | none => rfl
  | some y => have := hS.dom _ y h; omega

theorem fresh_row (hS : Sim H.next ι H.get w) {blk : ABlk} {el : TypeId} {l k : Nat} {news' : List Value} {z : Array Value} (hsz : blk.sz = z.size)
    (hv : VRs ι blk.cells news') (hlk : l ≤ k) :
    Sim (H.push (some blk)).next (upd ι H.next (some (w.heap.size, 0, k - l))) (H.push (some blk)).get (w.drew.alloc (.cells (news'.toArray ++ Builtin.zeroCells z (k - l)) el)) ∧
      Evo H.next ι H.get w (upd ι H.next (some (w.heap.size, 0, k - l))) (H.push (some blk)).get (w.drew.alloc (.cells (news'.toArray ++ Builtin.zeroCells z (k - l)) el)) ∧
      upd ι H.next (some (w.heap.size, 0, k - l)) H.next = some (w.heap.size, 0, k - l) := by
  have hι := next_free hS
  obtain ⟨h1, h2⟩ := hS.alloc (m := H.next + 1) (b := H.next) hι (by omega) (by omega) (x := blk) (arr := news'.toArray ++ Builtin.zeroCells z (k - l)) (el := el) (fr := (0, 0)) (ex := k - l) (w1 := w.drew.alloc (.cells (news'.toArray ++ Builtin.zeroCells z (k - l)) el)) rfl rfl rfl rfl
    (fun j u hj => by
      obtain ⟨y, a1, a2⟩ := hv.get j u hj
      refine ⟨y, ?_, a2⟩
      have hlt : j < news'.length := by
        rcases Nat.lt_or_ge j news'.length with h | h
        · exact h
        · rw [List.getElem?_eq_none h] at a1; cases a1
      rw [Array.getElem?_append, if_pos (by simpa using hlt)]
      simpa using a1)
    (fun _ => ⟨by rw [hsz, hv.length]; simp [zeroCells_size], rfl⟩)
  rw [get_push_upd]
  exact ⟨h1, h2 _ (Nat.le_refl _), upd_same _ _ _⟩

theorem aappend_ok {ts : Array TypeId} {ty : TypeId} {sv xv sv' xv' v : Value} {H' : AH} (h : aappend P ts sv xv H = some (v, H')) (hs : VR ι sv sv') (hx : VR ι xv xv') (hS : Sim H.next ι H.get w) :
    WriteOk P H ι w (Builtin.append_ ts ty #[sv', xv']) v H' := by
  unfold aappend at h
  split at h
  · rename_i t xt h0 h1
    split at h
    · rename_i e hu
      obtain ⟨i, hi, h⟩ := Option.bind_eq_some_iff.1 h
      obtain ⟨z, hz, h⟩ := Option.bind_eq_some_iff.1 h
      split at h
      · rename_i hcond
        simp only [Bool.and_eq_true, decide_eq_true_eq] at hcond
        obtain ⟨⟨hni, hzs⟩, hsize⟩ := hcond
        obtain ⟨dx, hux, hdx⟩ := notInt_ok hni
        obtain ⟨⟨n, new⟩, hsrc, h⟩ := Option.bind_eq_some_iff.1 h
        obtain ⟨new', hvn, hln, hlen, hfirst⟩ := asrc_ok (P := P) hsrc hx hS
        simp only [Option.map_none, Option.getD_none] at hln hfirst
        simp only at h
        split at h
        · have := hs.scalar_eq rfl; subst this
          split at h
          · rename_i hn0
            cases h
            subst hn0
            refine ⟨ι, .slice none 0 0, w, ?_, .scal rfl, hS, Evo.refl _ _ _ _⟩
            rw [run_append_room w hu hux hdx hi h0 h1 none 0 0 hlen (hfirst w rfl) (by omega)]
          · rename_i hn0
            split at h
            · rename_i hb
              cases h
              have hrun := run_append_more (ty := ty) (olds := []) w hu hux hdx hi hz h0 h1 none 0 0 hlen (by simp [Builtin.firstCells]) (hfirst w.drew rfl) (by omega) (by omega) (by simpa using hb.1)
              obtain ⟨a1, a2, a3⟩ := fresh_row (H := H) hS (blk := ⟨new, e, i.size, true⟩) (el := e) (l := n) (k := grownCap w (0 + n) 0 e) (z := z.cells) (by simp [hzs]) hvn (by have := le_grownCap w (0 + n) 0 e; omega)
              simp only [Nat.zero_add] at hrun a1 a2 a3
              refine ⟨_, _, _, hrun, ?_, by simpa using a1, by simpa using a2⟩
              have := VR.sl (o := 0) (l := n) (c := n) a3
              rw [show n + (grownCap w n 0 e - n) = grownCap w n 0 e by have := le_grownCap w n 0 e; omega] at this
              exact this
            · cases h
        · rename_i b off tg l c _ _ _
          have hs' := hs
          obtain ⟨cb, co, ex, o', c', hb, rfl, htg, hcs⟩ := hs.sl_inv
          have hcc : c ≤ c' := by
            rcases hcs with ⟨_, _, h⟩ | ⟨_, _, h⟩ | ⟨_, h, _⟩ <;> omega
          split at h
          · rename_i hn0
            obtain ⟨hn0, hlc⟩ := hn0
            cases h
            subst hn0
            refine ⟨ι, .slice (some ⟨cb, o', none⟩) l c', w, ?_, hs', hS, Evo.refl _ _ _ _⟩
            rw [run_append_room w hu hux hdx hi h0 h1 _ l c' hlen (hfirst w rfl) (by omega)]
            have hnil : new' = [] := List.eq_nil_of_length_eq_zero (by have := hvn.length; omega)
            simp [hnil, storeCells]
          · rename_i hnn
            obtain ⟨x, hG, h⟩ := Option.bind_eq_some_iff.1 h
            have hB := hS.blk b x cb co ex hG hb
            split at h
            · rename_i hroom
              split at h
              · rename_i hc2
                simp only [Bool.and_eq_true, decide_eq_true_eq] at hc2
                obtain ⟨⟨hown, hok⟩, hfit⟩ := hc2
                cases h
                have ho : o' = co + off := by
                  rcases hcs with ⟨_, h, _⟩ | ⟨_, h, _⟩ | ⟨h1, h2, _⟩
                  · exact h
                  · exact h
                  · exfalso; apply hnn; omega
                subst ho
                have hfit' : off + l * i.size + new.length ≤ x.cells.length := by rw [hln, Nat.add_mul] at *; omega
                obtain ⟨w1, e1, e2, e3⟩ := write_ok (P := P) hS hG hown hb (off + l * i.size) hvn hok hfit'
                refine ⟨ι, .slice (some ⟨cb, co + off, none⟩) (l + n) c', w1, ?_, ?_, ?_, ?_⟩
                · rw [run_append_room w hu hux hdx hi h0 h1 _ l c' hlen (hfirst w rfl) (by omega)]
                  simp only [add_addr]
                  rw [Nat.add_assoc co, e1]
                  simp
                · rcases hcs with ⟨rfl, _, rfl⟩ | ⟨rfl, _, rfl⟩ | ⟨h1, h2, _⟩
                  · exact .sl hb
                  · exact .slT hb
                  · exfalso; apply hnn; omega
                · rw [get_set_upd H _ hG]; exact e2
                · rw [get_set_upd H _ hG]; exact e3 _
              · cases h
            · rename_i hroom
              split at h
              · rename_i hc2
                obtain ⟨hlc, hbytes, h47, hin⟩ := hc2
                -- what the row held
                have hold : ∃ olds, VRs ι ((x.cells.drop off).take (l * i.size)) olds ∧ ∀ w', w'.heap = w.heap → (Builtin.firstCells i.size l (.slice (some ⟨cb, o', none⟩) l c')).run P w' = .ok olds.toArray w' := by
                  have hsrc2 : asrc (.slice (some ⟨b, off, tg⟩) l c) i.size H.get none = some (l, if l = 0 then [] else (x.cells.drop off).take (l * i.size)) := by
                    unfold asrc
                    simp only [Option.map_none, Option.getD_none, hG, Option.bind_some]
                    split
                    · rename_i h0; simp [h0]
                    · rename_i h0
                      have : l * i.size ≤ c * i.size := Nat.mul_le_mul_right _ hlc
                      simp [h0, show off + l * i.size ≤ x.cells.length by omega]
                  obtain ⟨olds, a1, a2, a3, a4⟩ := asrc_ok (P := P) hsrc2 hs' hS
                  refine ⟨olds, ?_, ?_⟩
                  · by_cases h0 : l = 0
                    · subst h0; simpa using a1
                    · simpa [h0] using a1
                  · simpa using a4
                obtain ⟨olds, hvo, hfo⟩ := hold
                have hvall := hvo.append hvn
                have hlen_old : ((x.cells.drop off).take (l * i.size)).length = l * i.size := by
                  have : l * i.size ≤ c * i.size := Nat.mul_le_mul_right _ hlc
                  simp; omega
                have hlen_all : ((x.cells.drop off).take (l * i.size) ++ new).length = (l + n) * i.size := by rw [List.length_append, hlen_old, hln, Nat.add_mul]
                split at h
                · -- no hidden room: a new row
                  cases h
                  have hc' : c' = c := by
                    rcases hcs with ⟨h, _, _⟩ | ⟨_, _, h⟩ | ⟨_, h1, h2⟩
                    · cases h
                    · exact h
                    · omega
                  subst hc'
                  have hrun := run_append_more (ty := ty) w hu hux hdx hi hz h0 h1 (some ⟨cb, o', none⟩) l c' hlen (hfo w.drew rfl) (hfirst w.drew rfl) (by omega) h47 hbytes
                  obtain ⟨a1, a2, a3⟩ := fresh_row (H := H) hS (blk := ⟨(x.cells.drop off).take (l * i.size) ++ new, e, i.size, true⟩) (el := e) (l := l + n) (k := grownCap w (l + n) c' e) (z := z.cells) (by simp [hzs]) hvall (le_grownCap ..)
                  have hap : (olds ++ new').toArray = olds.toArray ++ new'.toArray := by simp
                  rw [hap] at a1 a2
                  refine ⟨_, _, _, hrun, ?_, a1, a2⟩
                  have := VR.sl (o := 0) (l := l + n) (c := l + n) a3
                  rw [show (l + n) + (grownCap w (l + n) c' e - (l + n)) = grownCap w (l + n) c' e by have := le_grownCap w (l + n) c' e; omega] at this
                  exact this
                · -- there may be hidden room
                  split at h
                  · rename_i hc3
                    simp only [Bool.and_eq_true, decide_eq_true_eq] at hc3
                    obtain ⟨⟨hown, hxsz⟩, hok⟩ := hc3
                    cases h
                    have hget : ((H.set b none).push (some ⟨(x.cells.drop off).take (l * i.size) ++ new, e, i.size, true⟩)).get = upd (upd H.get b none) H.next (some ⟨(x.cells.drop off).take (l * i.size) ++ new, e, i.size, true⟩) := by
                      rw [get_push_upd, get_set_upd H _ hG]; rfl
                    by_cases hr2 : l + n ≤ c'
                    · -- the row goes on
                      have hcx : o' = co + off ∧ c' = c + ex := by
                        rcases hcs with ⟨_, h1, h2⟩ | ⟨h, _, _⟩ | ⟨_, h1, h2⟩
                        · exact ⟨h1, h2⟩
                        · cases h
                        · omega
                      obtain ⟨rfl, rfl⟩ := hcx
                      obtain ⟨arr, el, fr, g1, g2, g3⟩ := hB.lies
                      obtain ⟨g6, g4⟩ := g3 hown
                      clear g3
                      subst g4
                      have g5 : co + x.cells.length + ex * i.size ≤ arr.size := by rw [← hxsz]; exact g6
                      have hlt := AH.lt_of_get hG
                      have hlenv := hvn.length
                      have hcs1 : c * i.size + ex * i.size = (c + ex) * i.size := by rw [Nat.add_mul]
                      have hroom3 : (l + n) * i.size ≤ (c + ex) * i.size := Nat.mul_le_mul_right _ hr2
                      have hln2 : l * i.size + new'.length = (l + n) * i.size := by rw [← hlenv, hln, Nat.add_mul]
                      have hfit : (co + off + l * i.size) + 0 + new'.length ≤ arr.size := by omega
                      have hst := run_storeCells_at P cb (co + off + l * i.size) el new' 0 arr w g1 hfit (hvn.okCells hok)
                      simp only [Nat.add_zero] at hst
                      have hrun := run_append_room (ty := ty) w hu hux hdx hi h0 h1 (some ⟨cb, co + off, none⟩) l (c + ex) hlen (hfirst w rfl) hr2
                      simp only [add_addr, hst, Result.andThen_ok] at hrun
                      have hw := setRow_heap w cb arr (arr.toList.take (co + off + l * i.size) ++ new' ++ arr.toList.drop (co + off + l * i.size + new'.length)).toArray el (0, 0) g1
                      have hgetc : ∀ j, (arr.toList.take (co + off + l * i.size) ++ new' ++ arr.toList.drop (co + off + l * i.size + new'.length)).toArray[j]? = if co + off + l * i.size ≤ j ∧ j < co + off + l * i.size + new'.length then new'[j - (co + off + l * i.size)]? else arr[j]? := fun j => by
                        have := splice_get arr.toList (co + off + l * i.size) new' (by simp; omega) j
                        simpa [splice] using this
                      have hsub := sub_upd (y := (cb, co + off, c + ex - (l + n))) (next_free hS)
                      obtain ⟨m1, m2⟩ := hS.move (m := H.next + 1) (b' := H.next) (x' := ⟨(x.cells.drop off).take (l * i.size) ++ new, e, i.size, true⟩) (co' := co + off) (ex' := c + ex - (l + n))
                        (w1 := w.setRow cb (arr.toList.take (co + off + l * i.size) ++ new' ++ arr.toList.drop (co + off + l * i.size + new'.length)).toArray) hG hown hb (next_free hS) (by omega) (by omega) (by omega) rfl
                        ⟨_, el, (0, 0), hw, fun j u hj => by
                          simp only at hj
                          rw [List.getElem?_append, hlen_old] at hj
                          rw [hgetc]
                          split at hj
                          · rename_i hjl
                            rw [List.getElem?_take, if_pos hjl, List.getElem?_drop] at hj
                            obtain ⟨y, b1, b2⟩ := g2 _ u hj
                            rw [if_neg (by omega), Nat.add_assoc]
                            exact ⟨y, b1, b2.mono hsub⟩
                          · rename_i hjl
                            obtain ⟨y, b1, b2⟩ := hvn.get _ u hj
                            have hjn : j - l * i.size < new'.length := by
                              rcases Nat.lt_or_ge (j - l * i.size) new'.length with h | h
                              · exact h
                              · rw [List.getElem?_eq_none h] at b1; cases b1
                            rw [if_pos (by omega), show co + off + j - (co + off + l * i.size) = j - l * i.size by omega]
                            exact ⟨y, b1, b2.mono hsub⟩, fun _ => ⟨by
                          have hsz2 : (arr.toList.take (co + off + l * i.size) ++ new' ++ arr.toList.drop (co + off + l * i.size + new'.length)).toArray.size = arr.size := by simp; omega
                          rw [hsz2]
                          simp only [hlen_all]
                          have : (l + n) * i.size + (c + ex - (l + n)) * i.size = (c + ex) * i.size := by rw [← Nat.add_mul]; congr 1; omega
                          omega, rfl⟩⟩
                        (fun k hk => setRow_other w cb k _ hk) (by simp) (by simp) (by simp) (by simp)
                      refine ⟨_, _, _, hrun, ?_, by rw [hget]; exact m1, by rw [hget]; exact m2 _ (Nat.le_refl _)⟩
                      have := VR.sl (ι := upd ι H.next (some (cb, co + off, c + ex - (l + n)))) (o := 0) (l := l + n) (c := l + n) (upd_same _ _ _)
                      rw [show (l + n) + (c + ex - (l + n)) = c + ex by omega] at this
                      exact this
                    · -- a new row, the old one is given up
                      have hrun := run_append_more (ty := ty) w hu hux hdx hi hz h0 h1 (some ⟨cb, o', none⟩) l c' hlen (hfo w.drew rfl) (hfirst w.drew rfl) (by omega) h47 hbytes
                      obtain ⟨k1, k2⟩ := hS.kill (b := b)
                      have k1' : Sim (H.set b none).next ι (H.set b none).get w := by rw [get_set_upd H _ hG]; exact k1
                      obtain ⟨a1, a2, a3⟩ := fresh_row (H := H.set b none) k1' (blk := ⟨(x.cells.drop off).take (l * i.size) ++ new, e, i.size, true⟩) (el := e) (l := l + n) (k := grownCap w (l + n) c' e) (z := z.cells) (by simp [hzs]) hvall (le_grownCap ..)
                      have hap : (olds ++ new').toArray = olds.toArray ++ new'.toArray := by simp
                      rw [hap] at a1 a2
                      have k2' : Evo H.next ι H.get w ι (H.set b none).get w := by rw [get_set_upd H _ hG]; exact k2 _
                      refine ⟨_, _, _, hrun, ?_, a1, k2'.trans a2 (Nat.le_refl _)⟩
                      have := VR.sl (o := 0) (l := l + n) (c := l + n) a3
                      rw [show (l + n) + (grownCap w (l + n) c' e - (l + n)) = grownCap w (l + n) c' e by have := le_grownCap w (l + n) c' e; omega] at this
                      exact this
                  · cases h
              · cases h
        · cases h
      · cases h
    · cases h
  · cases h

theorem awriteAt_ok {b off : Nat} {vs vs' : List Value} {H' : AH} (h : awriteAt H b off vs = some H') (hS : Sim H.next ι H.get w) {cb co ex : Nat} (hb : ι b = some (cb, co, ex)) (hv : VRs ι vs vs') :
    ∃ w1, (storeCells ⟨cb, co + off, none⟩ vs').run P w = .ok () w1 ∧ Sim H'.next ι H'.get w1 ∧ Evo H.next ι H.get w ι H'.get w1 := by
  unfold awriteAt at h
  obtain ⟨x, hG, h⟩ := Option.bind_eq_some_iff.1 h
  split at h
  · rename_i hc
    simp only [Bool.and_eq_true, decide_eq_true_eq] at hc
    cases h
    obtain ⟨w1, e1, e2, e3⟩ := write_ok (P := P) hS hG hc.1.1 hb off hv hc.1.2 hc.2
    exact ⟨w1, e1, by rw [get_set_upd H _ hG]; exact e2, by rw [get_set_upd H _ hG]; exact e3 _⟩
  · cases h

theorem acopy_ok {ts : Array TypeId} {ty : TypeId} {dv xv dv' xv' v : Value} {H' : AH} (h : acopy P ts dv xv H = some (v, H')) (hd : VR ι dv dv') (hx : VR ι xv xv') (hS : Sim H.next ι H.get w) :
    WriteOk P H ι w (Builtin.copy_ ts ty #[dv', xv']) v H' := by
  unfold acopy at h
  split at h
  · rename_i t h0
    split at h
    · rename_i e hu
      obtain ⟨i, hi, h⟩ := Option.bind_eq_some_iff.1 h
      split at h
      · rename_i b off tg dl dc _
        obtain ⟨cb, co, ex, o', c', hb, rfl, htg, hcs⟩ := hd.sl_inv
        obtain ⟨⟨n, new⟩, hsrc, h⟩ := Option.bind_eq_some_iff.1 h
        obtain ⟨new', hvn, hln, hlen, hfirst⟩ := asrc_ok (P := P) hsrc hx hS
        simp only [Option.map_some, Option.getD_some] at hln hfirst
        simp only at h
        split at h
        · rename_i hnil
          subst hnil
          have hnil' : new' = [] := List.eq_nil_of_length_eq_zero (by rw [← hvn.length]; rfl)
          split at h
          · rename_i h0'
            cases h
            have hmin : Nat.min n dl = 0 := by rcases h0' with rfl | rfl <;> simp
            rw [hmin] at hfirst
            refine ⟨ι, .int .i64 0, w, ?_, .scal rfl, hS, Evo.refl _ _ _ _⟩
            have hf := hfirst w rfl
            simp only [Builtin.copy_, h0]
            simp only [List.getElem?_toArray, List.getElem?_cons_zero, List.getElem?_cons_succ, Sem.run_bind, run_underlying hu, Result.andThen_ok, sizeOf, typeInfo, run_program, hi, Sem.run_pure]
            simp [hlen, show n.min dl = 0 from hmin, hf, hnil', storeCells, goInt]
          · cases h
        · rename_i hnil
          cases hw : awriteAt H b off new with
          | none => simp [hw] at h
          | some H2 =>
            simp [hw] at h
            obtain ⟨rfl, rfl⟩ := h
            have hpos : new.length ≠ 0 := fun e => hnil (List.eq_nil_of_length_eq_zero e)
            have ho : o' = co + off := by
              rcases hcs with ⟨_, h, _⟩ | ⟨_, h, _⟩ | ⟨h, _, _⟩
              · exact h
              · exact h
              · exfalso; apply hpos; rw [hln, h]; simp
            subst ho
            obtain ⟨w1, e1, e2, e3⟩ := awriteAt_ok (P := P) hw hS hb hvn
            refine ⟨ι, .int .i64 (Nat.min n dl : Nat), w1, ?_, .scal rfl, e2, e3⟩
            have hf := hfirst w rfl
            simp only [Builtin.copy_, h0]
            simp only [List.getElem?_toArray, List.getElem?_cons_zero, List.getElem?_cons_succ, Sem.run_bind, run_underlying hu, Result.andThen_ok, sizeOf, typeInfo, run_program, hi, Sem.run_pure]
            simp [hlen, hf, e1, goInt]
      · cases h
    · cases h
  · cases h

theorem aclear_ok {ts : Array TypeId} {ty : TypeId} {xv xv' v : Value} {H' : AH} (h : aclear P ts xv H = some (v, H')) (hx : VR ι xv xv') (hS : Sim H.next ι H.get w) :
    WriteOk P H ι w (Builtin.clear_ ts ty #[xv']) v H' := by
  unfold aclear at h
  split at h
  · rename_i t h0
    split at h
    · rename_i l c d hu
      cases h
      have := hx.scalar_eq rfl; subst this
      exact ⟨ι, .tuple #[], w, by simp [Builtin.clear_, h0, run_underlying hu], .tup .nil, hS, Evo.refl _ _ _ _⟩
    · rename_i q c d hu
      cases h
      obtain ⟨a', c', rfl⟩ := hx.sl_some
      exact ⟨ι, .tuple #[], w, by simp [Builtin.clear_, h0, run_underlying hu], .tup .nil, hS, Evo.refl _ _ _ _⟩
    · rename_i b off tg n c e hn hu
      obtain ⟨cb, co, ex, o', c', hb, rfl, htg, hcs⟩ := hx.sl_inv
      obtain ⟨i, hi, h⟩ := Option.bind_eq_some_iff.1 h
      obtain ⟨z, hz, h⟩ := Option.bind_eq_some_iff.1 h
      split at h
      · rename_i hc
        simp only [Bool.and_eq_true, bne_iff_ne] at hc
        cases hw : awriteAt H b off (zcells z.cells (n * z.cells.size)) with
        | none => simp [hw] at h
        | some H2 =>
          simp [hw] at h
          obtain ⟨rfl, rfl⟩ := h
          have hn0 : n ≠ 0 := fun e => by subst e; exact hn rfl
          have ho : o' = co + off := by
            rcases hcs with ⟨_, h, _⟩ | ⟨_, h, _⟩ | ⟨h, _, _⟩
            · exact h
            · exact h
            · exact absurd h hn0
          subst ho
          obtain ⟨w1, e1, e2, e3⟩ := awriteAt_ok (P := P) hw hS hb (VRs.of_scalar (zcells_scalar hc.1 hc.2 _))
          refine ⟨ι, .tuple #[], w1, ?_, .tup .nil, e2, e3⟩
          obtain ⟨m, rfl⟩ : ∃ m, n = m + 1 := ⟨n - 1, by omega⟩
          have hzc : (Builtin.zeroCells z.cells (m + 1)).toList = zcells z.cells ((m + 1) * z.cells.size) := by
            have := zcells_eq z.cells ((m + 1) * z.cells.size) hc.2
            unfold Builtin.zeroCells
            rw [this]
          simp only [Builtin.clear_, h0]
          simp [run_underlying hu, zeroValue, typeInfo, hi, hz, hzc, e1]
      · cases h
    · cases h
  · cases h

/-- What a step that writes leaves, of an operation. -/
theorem awrite_ok {v : Value} {H' : AH} (h : awrite P s o H = some (v, H')) (hor : OR ι s a o) (hS : Sim H.next ι H.get w) :
    ∃ ι' v' w', ((execOp a.eval o).run P w = .ok (.value v') w' ∨ ((execOp a.eval o).run P w = .ok .skip w' ∧ v' = undef)) ∧ VR ι' v v' ∧ Sim H'.next ι' H'.get w' ∧ Evo H.next ι H.get w ι' H'.get w' := by
  unfold awrite at h
  split at h
  · rename_i t x y ho
    obtain ⟨p, hp, h⟩ := Option.bind_eq_some_iff.1 h
    obtain ⟨u, hu, h⟩ := Option.bind_eq_some_iff.1 h
    obtain ⟨i, hi, h⟩ := Option.bind_eq_some_iff.1 h
    split at h
    · rename_i b off _ _
      obtain ⟨cb, co, ex, hb, he⟩ := (hor x (by simp [ho, Op.operands]) _ hp).ptr_inv
      have hv := (hor y (by simp [ho, Op.operands]) _ hu).cells
      split at h
      · rename_i hsz
        cases hw : awriteAt H b off u.cells.toList with
        | none => simp [hw] at h
        | some H2 =>
          simp [hw] at h
          obtain ⟨rfl, rfl⟩ := h
          obtain ⟨w1, e1, e2, e3⟩ := awriteAt_ok (P := P) hw hS hb hv
          have hsz' : (a.eval y).cells.size = i.size := by have := hv.length; simp at this; omega
          refine ⟨ι, undef, w1, .inr ⟨?_, rfl⟩, VR.undef ι, e2, e3⟩
          simp [execOp, ho, Instr.storeAt, he, Instr.sureAddr, storeVar, sizeOf, typeInfo, hi, hsz', e1]
      · cases h
    · cases h
  · rename_i c ho
    have hca : ∀ x ∈ c.args.toList, ∀ v, opnd s x = some v → VR ι v (a.eval x) := fun x hx v hv => hor x (by simp [ho, Op.operands, Call.operands]; exact .inr (by simpa using hx)) v hv
    split at h
    · rename_i hc
      split at h
      · rename_i x y hxy
        obtain ⟨u, hu, h⟩ := Option.bind_eq_some_iff.1 h
        obtain ⟨k, hk, h⟩ := Option.bind_eq_some_iff.1 h
        have hargs : c.args = #[x, y] := by apply Array.ext'; simpa using hxy
        obtain ⟨ι', v', w', e1, e2, e3, e4⟩ := aappend_ok (ty := o.type) h (hca x (by rw [hxy]; simp) u hu) (hca y (by rw [hxy]; simp) k hk) hS
        exact ⟨ι', v', w', .inl (by simp [execOp, ho, resolve, hc, hargs, invoke, builtin, e1]), e2, e3, e4⟩
      · cases h
    · rename_i hc
      split at h
      · rename_i x y hxy
        obtain ⟨u, hu, h⟩ := Option.bind_eq_some_iff.1 h
        obtain ⟨k, hk, h⟩ := Option.bind_eq_some_iff.1 h
        have hargs : c.args = #[x, y] := by apply Array.ext'; simpa using hxy
        obtain ⟨ι', v', w', e1, e2, e3, e4⟩ := acopy_ok (ty := o.type) h (hca x (by rw [hxy]; simp) u hu) (hca y (by rw [hxy]; simp) k hk) hS
        exact ⟨ι', v', w', .inl (by simp [execOp, ho, resolve, hc, hargs, invoke, builtin, e1]), e2, e3, e4⟩
      · cases h
    · rename_i hc
      split at h
      · rename_i x hxy
        obtain ⟨u, hu, h⟩ := Option.bind_eq_some_iff.1 h
        have hargs : c.args = #[x] := by apply Array.ext'; simpa using hxy
        obtain ⟨ι', v', w', e1, e2, e3, e4⟩ := aclear_ok (ty := o.type) h (hca x (by rw [hxy]; simp) u hu) hS
        exact ⟨ι', v', w', .inl (by simp [execOp, ho, resolve, hc, hargs, invoke, builtin, e1]), e2, e3, e4⟩
      · cases h
    · cases h
  · cases h
end
end Go.Am
