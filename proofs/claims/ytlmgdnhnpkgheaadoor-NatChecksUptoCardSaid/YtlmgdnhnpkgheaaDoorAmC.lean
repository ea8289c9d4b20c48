/- Each operation that leaves the heap alone does on the machine what it does abstractly. -/
import Derived.Test.YtlmgdnhnpkgheaaDoorAmB
namespace Go.Am
open Go
set_option linter.unusedSimpArgs false
set_option linter.unusedVariables false

def PureOk (P : Program) (ι : Ren) (e : Sem Value) (v : Value) : Prop := ∀ w, ∃ v', e.run P w = .ok v' w ∧ VR ι v v'
section
variable {P : Program} {ι : Ren}

theorem add_addr (b o n : Nat) : (⟨b, o, none⟩ : Addr).add n = ⟨b, o + n, none⟩ := by
  unfold Addr.add
  split
  · rename_i h; subst h; rfl
  · rfl
theorem VR.ptr_inv {b o : Nat} {v' : Value} (h : VR ι (.pointer (some ⟨b, o, none⟩)) v') : ∃ cb co ex, ι b = some (cb, co, ex) ∧ v' = .pointer (some ⟨cb, co + o, none⟩) := by
  cases h with
  | scal h => simp [scalar] at h
  | ptr h => exact ⟨_, _, _, h, rfl⟩
/-- A slice over a block: the concrete one, and what its room is. -/
theorem VR.sl_inv {b o l c : Nat} {tg : Option Nat} {v' : Value} (h : VR ι (.slice (some ⟨b, o, tg⟩) l c) v') :
    ∃ cb co ex o' c', ι b = some (cb, co, ex) ∧ v' = .slice (some ⟨cb, o', none⟩) l c' ∧ (tg = none ∨ tg = some 0) ∧
      ((tg = none ∧ o' = co + o ∧ c' = c + ex) ∨ (tg = some 0 ∧ o' = co + o ∧ c' = c) ∨ (l = 0 ∧ c = 0 ∧ c' = 0)) := by
  cases h with
  | scal h => simp [scalar] at h
  | sl h => exact ⟨_, _, _, _, _, h, rfl, .inl rfl, .inl ⟨rfl, rfl, rfl⟩⟩
  | slT h => exact ⟨_, _, _, _, _, h, rfl, .inr rfl, .inr (.inl ⟨rfl, rfl, rfl⟩)⟩
  | sl0 h ht => exact ⟨_, _, _, _, _, h, rfl, ht, .inr (.inr ⟨rfl, rfl, rfl⟩)⟩

theorem VR.sl_some {a : Addr} {l c : Nat} {v' : Value} (h : VR ι (.slice (some a) l c) v') : ∃ a' c', v' = .slice (some a') l c' := by
  obtain ⟨b, o, tg⟩ := a
  obtain ⟨cb, co, ex, o', c', hb, rfl, _, _⟩ := h.sl_inv
  exact ⟨_, _, rfl⟩

theorem aFieldAddr_ok {st : TypeId} {f : Nat} {v r v' : Value} (h : aFieldAddr P st f v = some r) (hv : VR ι v v') : PureOk P ι (Instr.fieldAt st v' f) r := by
  unfold aFieldAddr at h
  split at h
  · rename_i b off fs hu
    obtain ⟨cb, co, ex, hb, rfl⟩ := hv.ptr_inv
    cases hf : fs[f]? with
    | none => simp [hf] at h
    | some fld =>
      cases hi : P.info? fld.type with
      | none => simp [hf, hi] at h
      | some i =>
        simp only [hf, hi, Option.bind_some] at h
        split at h
        · cases h
        · rename_i hz
          cases h
          intro w
          refine ⟨.pointer (some ⟨cb, co + (off + fld.offset), none⟩), ?_, .ptr hb⟩
          simp [Instr.fieldAt, run_underlying hu, hf, Instr.sureAddr, fieldPlace, sizeOf, typeInfo, hi, hz, add_addr, Nat.add_assoc]
  · cases h

theorem aPart_ok {t : TypeId} {cs cs' : List Value} {off : Nat} {r : Value} (h : aPart P t cs off = some r) (hv : VRs ι cs cs') : PureOk P ι (part t cs'.toArray off) r := by
  unfold aPart at h
  split at h
  · rename_i i ha hi
    split at h
    · rename_i hl
      cases h
      intro w
      refine ⟨.agg ((cs'.drop off).take i.size).toArray, ?_, .agg ((hv.drop off).take _)⟩
      unfold isAggT at ha
      have hx : cs'.toArray.extract off (off + i.size) = ((cs'.drop off).take i.size).toArray := by simp [List.extract_eq_take_drop]
      split at ha
      all_goals first
        | (cases ha; done)
        | (rename_i hu; simp [part, isAgg, run_underlying hu, sizeOf, typeInfo, hi, List.extract_eq_take_drop])
    · cases h
  · rename_i ha
    intro w
    obtain ⟨y, hy, hvy⟩ := hv.get off r h
    refine ⟨y, ?_, hvy⟩
    unfold isAggT at ha
    split at ha
    · cases ha
    · cases ha
    · rename_i d h1 h2 hu
      have hu' := hu
      cases d <;> first
        | (exact absurd rfl (h1 _))
        | (exact absurd rfl (h2 _ _))
        | simp [part, isAgg, run_underlying hu', hy]
    · cases ha
  · cases h

theorem aField_ok {t : TypeId} {f : Nat} {v r v' : Value} (h : aField P t f v = some r) (hv : VR ι v v') : PureOk P ι (Instr.field t v' f) r := by
  unfold aField at h
  split at h
  · rename_i cs fs hu
    cases hv with
    | scal hs => simp [scalar] at hs
    | agg hv =>
    cases hf : fs[f]? with
    | none => simp [hf] at h
    | some fld =>
      simp only [hf, Option.bind_some] at h
      intro w
      obtain ⟨r', h1, h2⟩ := aPart_ok h hv w
      exact ⟨r', by simp [Instr.field, run_underlying hu, hf, asAgg, h1], h2⟩
  · cases h

theorem aIndexAddr_ok {t : TypeId} {v ix r v' ix' : Value} (h : aIndexAddr P t v ix = some r) (hv : VR ι v v') (hx : VR ι ix ix') : PureOk P ι (Instr.indexAt t v' ix') r := by
  unfold aIndexAddr at h
  split at h
  · rename_i k i b off n e hu
    have := hx.scalar_eq rfl; subst this
    obtain ⟨cb, co, ex, hb, rfl⟩ := hv.ptr_inv
    cases hi : P.info? e with
    | none => simp [hi] at h
    | some inf =>
      simp only [hi, Option.bind_some] at h
      split at h
      · rename_i hr
        cases h
        intro w
        refine ⟨.pointer (some ⟨cb, co + (off + i.toNat * inf.size), none⟩), ?_, .ptr hb⟩
        simp [Instr.indexAt, asIntOf, run_underlying hu, Instr.sureAddr, hr, sizeOf, typeInfo, hi, add_addr, Nat.add_assoc]
      · cases h
  · rename_i k i b off tg len c e hu
    have := hx.scalar_eq rfl; subst this
    obtain ⟨cb, co, ex, o', c', hb, rfl, htg, hcs⟩ := hv.sl_inv
    cases hi : P.info? e with
    | none => simp [hi] at h
    | some inf =>
      simp only [hi, Option.bind_some] at h
      split at h
      · rename_i hr
        cases h
        intro w
        have ho : o' = co + off := by
          rcases hcs with ⟨_, h, _⟩ | ⟨_, h, _⟩ | ⟨h, _, _⟩
          · exact h
          · exact h
          · omega
        subst ho
        refine ⟨.pointer (some ⟨cb, co + (off + i.toNat * inf.size), none⟩), ?_, .ptr hb⟩
        simp [Instr.indexAt, asIntOf, run_underlying hu, hr, sizeOf, typeInfo, hi, add_addr, Nat.add_assoc]
      · cases h
  · cases h

theorem aIndex_ok {t : TypeId} {v ix r v' ix' : Value} (h : aIndex P t v ix = some r) (hv : VR ι v v') (hx : VR ι ix ix') : PureOk P ι (Instr.index t v' ix') r := by
  unfold aIndex at h
  split at h
  · rename_i k i cs n e hu
    have := hx.scalar_eq rfl; subst this
    cases hv with
    | scal hs => simp [scalar] at hs
    | agg hv =>
    cases hi : P.info? e with
    | none => simp [hi] at h
    | some inf =>
      simp only [hi, Option.bind_some] at h
      split at h
      · rename_i hr
        intro w
        obtain ⟨r', h1, h2⟩ := aPart_ok h hv w
        exact ⟨r', by simp [Instr.index, asIntOf, run_underlying hu, hr, sizeOf, typeInfo, hi, h1], h2⟩
      · cases h
  · cases h

theorem bnd_some {x : Value} {d y n : Nat} (h : bnd (some x) d y = some n) : ∃ k i, x = .int k i ∧ 0 ≤ i ∧ i ≤ y ∧ n = i.toNat := by
  cases x <;> simp [bnd] at h
  exact ⟨_, _, rfl, h.1.1, h.1.2, h.2.symm⟩
theorem run_sliceBound {k : IntKind} {i : Int} {y : Nat} {code : BoundsCode} (h0 : 0 ≤ i) (h1 : i ≤ y) (w : World) : (Instr.sliceBound (.int k i) y code).run P w = .ok i.toNat w := by
  simp [Instr.sliceBound, asIntOf, h0, h1]

def OVR (ι : Ren) : Option Value → Option Value → Prop
  | none, none => True
  | some v, some v' => VR ι v v'
  | _, _ => False
theorem OVR.none_l {x : Option Value} (h : OVR ι none x) : x = none := by cases x <;> simp_all [OVR]
theorem OVR.int_l {k : IntKind} {i : Int} {x : Option Value} (h : OVR ι (some (.int k i)) x) : x = some (.int k i) := by
  cases x with
  | none => simp [OVR] at h
  | some v => simp only [OVR] at h; rw [h.scalar_eq rfl]

theorem bounds_ok2 {lo hi lo' hi' : Option Value} {b : Bool} {len cap cap' h l : Nat} (hlc : cap ≤ cap') (hh : bnd hi len cap = some h) (hl : bnd lo 0 h = some l) (h1 : OVR ι lo lo') (h2 : OVR ι hi hi') (w : World) :
    (Instr.sliceBounds b len cap' lo' hi' none).run P w = .ok (l, h, cap') w ∧ l ≤ h ∧ (len ≤ cap → h ≤ cap) := by
  have key : l ≤ h ∧ (len ≤ cap → h ≤ cap) := by
    constructor
    · cases lo with
      | none => simp [bnd] at hl; omega
      | some x => obtain ⟨k, i, _, a, c, e⟩ := bnd_some hl; omega
    · intro hlen
      cases hi with
      | none => simp [bnd] at hh; omega
      | some x => obtain ⟨k, i, _, a, c, e⟩ := bnd_some hh; omega
  refine ⟨?_, key⟩
  cases hi with
  | none =>
    have := h2.none_l; subst this
    simp only [bnd] at hh; cases hh
    cases lo with
    | none =>
      have := h1.none_l; subst this
      simp only [bnd] at hl; cases hl
      simp [Instr.sliceBounds]
    | some x =>
      obtain ⟨k, i, rfl, a, c, rfl⟩ := bnd_some hl
      have := h1.int_l; subst this
      simp [Instr.sliceBounds, run_sliceBound a c]
  | some y =>
    obtain ⟨k, i, rfl, a, c, rfl⟩ := bnd_some hh
    have := h2.int_l; subst this
    have c' : i ≤ (cap' : Int) := by omega
    cases lo with
    | none =>
      have := h1.none_l; subst this
      simp only [bnd] at hl; cases hl
      simp [Instr.sliceBounds, run_sliceBound a c']
    | some x =>
      obtain ⟨k2, i2, rfl, a2, c2, rfl⟩ := bnd_some hl
      have := h1.int_l; subst this
      simp [Instr.sliceBounds, run_sliceBound a c', run_sliceBound a2 c2]
theorem bounds_ok3 {lo hi lo' hi' : Option Value} {mx mx' : Value} {b : Bool} {len cap cap' m h l : Nat} (hlc : cap ≤ cap') (hhi : hi.isNone = false) (hm : bnd (some mx) 0 cap = some m) (hh : bnd hi 0 m = some h) (hl : bnd lo 0 h = some l) (h1 : OVR ι lo lo') (h2 : OVR ι hi hi') (h3 : VR ι mx mx') (w : World) :
    (Instr.sliceBounds b len cap' lo' hi' (some mx')).run P w = .ok (l, h, m) w ∧ l ≤ h ∧ h ≤ m ∧ m ≤ cap := by
  obtain ⟨k0, i0, rfl, a0, c0, rfl⟩ := bnd_some hm
  have := h3.scalar_eq rfl; subst this
  cases hi with
  | none => simp at hhi
  | some y =>
    obtain ⟨k, i, rfl, a, c, rfl⟩ := bnd_some hh
    have := h2.int_l; subst this
    have c0' : i0 ≤ (cap' : Int) := by omega
    cases lo with
    | none =>
      have := h1.none_l; subst this
      simp only [bnd] at hl; cases hl
      exact ⟨by simp [Instr.sliceBounds, run_sliceBound a0 c0', run_sliceBound a c], by omega, by omega, by omega⟩
    | some x =>
      obtain ⟨k2, i2, rfl, a2, c2, rfl⟩ := bnd_some hl
      have := h1.int_l; subst this
      exact ⟨by simp [Instr.sliceBounds, run_sliceBound a0 c0', run_sliceBound a c, run_sliceBound a2 c2], by omega, by omega, by omega⟩

theorem aSlice_ok {t : TypeId} {v v' r : Value} {lo hi mx lo' hi' mx' : Option Value} (h : aSlice P t v lo hi mx = some r) (hv : VR ι v v') (h1 : OVR ι lo lo') (h2 : OVR ι hi hi') (h3 : OVR ι mx mx') :
    PureOk P ι (Instr.sliceAt t v' lo' hi' mx') r := by
  unfold aSlice at h
  split at h
  · rename_i b off tg len cap e hu
    obtain ⟨cb, co, ex, o', c', hb, rfl, htg, hcs⟩ := hv.sl_inv
    cases hi0 : P.info? e with
    | none => simp [hi0] at h
    | some inf =>
      simp only [hi0, Option.bind_some] at h
      have hcc : cap ≤ c' := by
        rcases hcs with ⟨_, _, h⟩ | ⟨_, _, h⟩ | ⟨_, h, _⟩ <;> omega
      split at h
      · have := h3.none_l; subst this
        cases hbh : bnd hi len cap with
        | none => simp [hbh] at h
        | some hh =>
          cases hbl : bnd lo 0 hh with
          | none => simp [hbh, hbl] at h
          | some l =>
            simp only [hbh, hbl, Option.bind_some] at h
            split at h
            · rename_i hlen
              cases h
              intro w
              obtain ⟨e1, e2, e3⟩ := bounds_ok2 (P := P) (b := true) hcc hbh hbl h1 h2 w
              have e3 := e3 hlen.1
              by_cases hm : c' = l
              · subst hm
                refine ⟨.slice (some ⟨cb, o', none⟩) (hh - c') (c' - c'), by simp [Instr.sliceAt, Instr.slice, run_underlying hu, e1, sizeOf, typeInfo, hi0], ?_⟩
                rw [show hh - c' = 0 by omega, show cap - c' = 0 by omega, show c' - c' = 0 by omega]
                exact .sl0 hb htg
              · refine ⟨.slice (some ⟨cb, o' + l * inf.size, none⟩) (hh - l) (c' - l), by simp [Instr.sliceAt, Instr.slice, run_underlying hu, e1, sizeOf, typeInfo, hi0, hm, add_addr], ?_⟩
                rcases hcs with ⟨rfl, rfl, rfl⟩ | ⟨rfl, rfl, rfl⟩ | ⟨_, _, h⟩
                · rw [show cap + ex - l = (cap - l) + ex by omega, Nat.add_assoc]; exact .sl hb
                · rw [Nat.add_assoc]; exact .slT hb
                · omega
            · cases h
      · rename_i m
        cases mx' with
        | none => simp [OVR] at h3
        | some m' =>
        split at h
        · cases h
        · rename_i hhi
          cases hbm : bnd (some m) 0 cap with
          | none => simp [hbm] at h
          | some mm =>
            cases hbh : bnd hi 0 mm with
            | none => simp [hbm, hbh] at h
            | some hh =>
              cases hbl : bnd lo 0 hh with
              | none => simp [hbm, hbh, hbl] at h
              | some l =>
                simp only [hbm, hbh, hbl, Option.bind_some] at h
                split at h
                · rename_i hlen
                  cases h
                  intro w
                  obtain ⟨e1, e2, e3, e4⟩ := bounds_ok3 (P := P) (b := true) (len := len) hcc (Bool.not_eq_true _ ▸ hhi) hbm hbh hbl h1 h2 h3 w
                  by_cases hm : mm = l
                  · refine ⟨.slice (some ⟨cb, o', none⟩) (hh - l) (mm - l), by simp [Instr.sliceAt, Instr.slice, run_underlying hu, e1, sizeOf, typeInfo, hi0, hm], ?_⟩
                    rw [show hh - l = 0 by omega, show mm - l = 0 by omega]
                    exact .sl0 hb (.inr rfl)
                  · refine ⟨.slice (some ⟨cb, o' + l * inf.size, none⟩) (hh - l) (mm - l), by simp [Instr.sliceAt, Instr.slice, run_underlying hu, e1, sizeOf, typeInfo, hi0, hm, add_addr], ?_⟩
                    rcases hcs with ⟨_, rfl, _⟩ | ⟨_, rfl, _⟩ | ⟨_, h, _⟩
                    · rw [Nat.add_assoc]; exact .slT hb
                    · rw [Nat.add_assoc]; exact .slT hb
                    · omega
                · cases h
  · rename_i e hu
    have := hv.scalar_eq rfl; subst this
    cases hi0 : P.info? e with
    | none => simp [hi0] at h
    | some inf =>
      simp only [hi0, Option.bind_some] at h
      split at h
      · cases h
      · rename_i hmh
        cases hbm : bnd mx 0 0 with
        | none => simp [hbm] at h
        | some mm =>
        cases hbh : bnd hi 0 0 with
        | none => simp [hbm, hbh] at h
        | some hh =>
        cases hbl : bnd lo 0 0 with
        | none => simp [hbm, hbh, hbl] at h
        | some l =>
          simp only [hbm, hbh, hbl, Option.bind_some] at h
          cases h
          have hh0 : hh = 0 := by
            cases hi with
            | none => simpa [bnd] using hbh.symm
            | some x => obtain ⟨_, _, _, _, _, _⟩ := bnd_some hbh; omega
          have mm0 : mm = 0 := by
            cases mx with
            | none => simpa [bnd] using hbm.symm
            | some x => obtain ⟨_, _, _, _, _, _⟩ := bnd_some hbm; omega
          have l0 : l = 0 := by
            cases lo with
            | none => simpa [bnd] using hbl.symm
            | some x => obtain ⟨_, _, _, _, _, _⟩ := bnd_some hbl; omega
          subst hh0 mm0 l0
          intro w
          refine ⟨.slice none 0 0, ?_, .scal rfl⟩
          cases mx with
          | none =>
            have := h3.none_l; subst this
            obtain ⟨e1, _⟩ := bounds_ok2 (P := P) (b := true) (Nat.le_refl 0) hbh hbl h1 h2 w
            simp [Instr.sliceAt, Instr.slice, run_underlying hu, e1, sizeOf, typeInfo, hi0]
          | some m =>
            cases mx' with
            | none => simp [OVR] at h3
            | some m' =>
            obtain ⟨e1, _⟩ := bounds_ok3 (P := P) (b := true) (len := 0) (Nat.le_refl 0) (by cases hi <;> simp_all) hbm hbh hbl h1 h2 h3 w
            simp [Instr.sliceAt, Instr.slice, run_underlying hu, e1, sizeOf, typeInfo, hi0]
  · rename_i b off n e hu
    obtain ⟨cb, co, ex, hb, rfl⟩ := hv.ptr_inv
    cases hi0 : P.info? e with
    | none => simp [hi0] at h
    | some inf =>
      simp only [hi0, Option.bind_some] at h
      split at h
      · cases h
      · rename_i hmx
        have hmn : mx = none := by cases mx <;> simp_all
        subst hmn
        have := h3.none_l; subst this
        cases hbh : bnd hi n n with
        | none => simp [hbh] at h
        | some hh =>
          cases hbl : bnd lo 0 hh with
          | none => simp [hbh, hbl] at h
          | some l =>
            simp only [hbh, hbl, Option.bind_some] at h
            cases h
            intro w
            obtain ⟨e1, e2, e3⟩ := bounds_ok2 (P := P) (b := false) (Nat.le_refl n) hbh hbl h1 h2 w
            have e3 := e3 (Nat.le_refl n)
            by_cases hm : n = l
            · subst hm
              refine ⟨.slice (some ⟨cb, co + off, none⟩) (hh - n) (n - n), by simp [Instr.sliceAt, run_underlying hu, Instr.sureAddr, e1, sizeOf, typeInfo, hi0], ?_⟩
              rw [show hh - n = 0 by omega, show n - n = 0 by omega]
              exact .sl0 hb (.inr rfl)
            · refine ⟨.slice (some ⟨cb, co + off + l * inf.size, none⟩) (hh - l) (n - l), by simp [Instr.sliceAt, run_underlying hu, Instr.sureAddr, e1, sizeOf, typeInfo, hi0, hm, add_addr], ?_⟩
              rw [Nat.add_assoc]; exact .slT hb
  · cases h

theorem aExtract_ok {v v' r : Value} {i : Nat} (h : aExtract v i = some r) (hv : VR ι v v') : PureOk P ι (Instr.extract v' i) r := by
  unfold aExtract at h
  split at h
  · rename_i vs
    cases hv with
    | scal hs => simp [scalar] at hs
    | tup hv =>
      obtain ⟨y, hy, hr⟩ := hv.get i r (by simpa using h)
      exact fun w => ⟨y, by simp [Instr.extract, hy], hr⟩
  · cases h
theorem aLen_ok {t ty : TypeId} {ts : Array TypeId} {v v' r : Value} (ht : ts[0]? = some t) (h : aLen P t v = some r) (hv : VR ι v v') : PureOk P ι (Builtin.len_ ts ty #[v']) r := by
  unfold aLen at h
  split at h
  · rename_i a n c e hu
    cases h
    intro w
    obtain ⟨b, o, tg⟩ := a
    obtain ⟨cb, co, ex, o', c', hb, rfl, htg, hcs⟩ := hv.sl_inv
    exact ⟨_, by simp [Builtin.len_, ht, run_underlying hu, goInt], .scal rfl⟩
  · rename_i n c e hu
    cases h
    intro w
    have := hv.scalar_eq rfl; subst this
    exact ⟨_, by simp [Builtin.len_, ht, run_underlying hu, goInt], .scal rfl⟩
  · cases h
theorem aMkIface_ok {t : TypeId} {v v' r : Value} (h : aMkIface P t v = some r) (hv : VR ι v v') : PureOk P ι (Instr.makeInterface t v') r := by
  unfold aMkIface at h
  split at h
  · cases h
  · rename_i d hne hu
    cases h
    intro w
    refine ⟨.iface t v', ?_, .ifc hv⟩
    cases d <;> first | (exact absurd rfl (hne _)) | simp [Instr.makeInterface, run_underlying hu]
  · cases h
theorem aNil_ok_at (d : Nat) {t : TypeId} {x y x' y' : Value} {r : Bool} (h : aNil P t x y = some r) (hx : VR ι x x') (hy : VR ι y y') (w : World) : (Op.equalIn (d + 1) t x' y').run P w = .ok r w := by
  unfold aNil at h
  split at h
  all_goals first | (cases h; done) | skip
  all_goals (rename_i hu; cases h)
  · have := hx.scalar_eq rfl; subst this
    cases hy with
    | scal hs => simp [scalar] at hs
    | ptr hb => simp [Op.equalIn, run_underlying hu]
  · have := hy.scalar_eq rfl; subst this
    cases hx with
    | scal hs => simp [scalar] at hs
    | ptr hb => simp [Op.equalIn, run_underlying hu]
  · have := hx.scalar_eq rfl; subst this
    obtain ⟨a', c', rfl⟩ := hy.sl_some
    simp [Op.equalIn, run_underlying hu]
  · have := hy.scalar_eq rfl; subst this
    obtain ⟨a', c', rfl⟩ := hx.sl_some
    simp [Op.equalIn, run_underlying hu]
  · have := hx.scalar_eq rfl; subst this
    cases hy with
    | scal hs => simp [scalar] at hs
    | fn h1 h2 => simp [Op.equalIn, run_underlying hu]
  · have := hy.scalar_eq rfl; subst this
    cases hx with
    | scal hs => simp [scalar] at hs
    | fn h1 h2 => simp [Op.equalIn, run_underlying hu]
  · have := hx.scalar_eq rfl; subst this
    cases hy with
    | scal hs => simp [scalar] at hs
    | ifc hb => simp [Op.equalIn, run_underlying hu]
  · have := hy.scalar_eq rfl; subst this
    cases hx with
    | scal hs => simp [scalar] at hs
    | ifc hb => simp [Op.equalIn, run_underlying hu]
theorem aNil_ok {t : TypeId} {x y x' y' : Value} {r : Bool} (h : aNil P t x y = some r) (hx : VR ι x x') (hy : VR ι y y') (w : World) : (Op.equal t x' y').run P w = .ok r w := aNil_ok_at 9999 h hx hy w
end
end Go.Am
