/- Slices of slices that are written: a piece with all its rows; a row may be taken out and laid back. -/
import Derived.Test.YtdogeclnbdldaaaGreatDoorG1Z9
import Derived.Test.YtdogeclnbdldaaaGreatDoorProg
import Derived.BigRegion
import Derived.Laws.Strings
import Derived.Shelf.Strings.Search1
set_option maxRecDepth 100000
set_option maxHeartbeats 8000000
set_option linter.unusedVariables false
set_option linter.unusedSimpArgs false
namespace Go.Am
open Go
noncomputable section
def zem (ws : List Value) (hs : List Nat) : List Nat := ((List.range ws.length).filter fun i => !hs.contains i).flatMap fun i => z4j (ws.getD i .nilFunc)
theorem mem_rowFoot {ws : List Value} {hs : List Nat} {b : Nat} : b ∈ zem ws hs ↔ ∃ i w, i ∉ hs /\ ws[i]? = some w /\ b ∈ z4j w := by
 unfold zem
 simp only [List.mem_flatMap, List.mem_filter, List.mem_range]
 constructor
 ·rintro ⟨i, ⟨h1, h2⟩, h3⟩
  refine ⟨i, ws[i], by simpa using h2, zAh h1, ?_⟩
  simpa [zAb, h1] using h3
 ·rintro ⟨i, w, h1, h2, h3⟩
  have hl := (zAi h2).1
  exact ⟨i, ⟨hl, by simpa using h1⟩, by simpa [zAb, h2] using h3⟩
structure RowsOk {α : Type} (v : Value) (e : TypeId) (ws : List Value) (hs : List Nat) (e2 : TypeId) (r : RT α) (xss : List (List α)) (G M : GM) : Prop where
 out : SlO e 1 M v (ws.map fun w => [w])
 one : ∀ w ∈ ws, okCells [w] = true
 len : ws.length = xss.length
 row : ∀ i w, i ∉ hs -> ws[i]? = some w -> ∃ es xs, xss[i]? = some xs /\ SlO e2 r.sz M w es /\ All2 (r.rep G) es xs
 dis : ∀ i j w u, i ≠ j -> i ∉ hs -> j ∉ hs -> ws[i]? = some w -> ws[j]? = some u -> ∀ b ∈ z4j w, b ∉ z4j u
 off : ∀ i w, i ∉ hs -> ws[i]? = some w -> ∀ b ∈ z4j w, b ∉ z4j v
theorem SlO.loc {e : TypeId} {sz : Nat} {M M' : GM} {v : Value} {es : List (List Value)} (hl : ∀ b ∈ z4j v, M' b = M b) (h : SlO e sz M v es) : SlO e sz M' v es := by
 rcases h with h1 | ⟨b, tg, cap, rest, sz', rfl, hb, h⟩
 ·exact .inl h1
 ·exact .inr ⟨b, tg, cap, rest, sz', rfl, by rw [hl b (by simp [z4j]), hb], h⟩
theorem SlO.bnd {e : TypeId} {sz : Nat} {M : GM} {v : Value} {es : List (List Value)} (h : SlO e sz M v es) : ∀ b ∈ z4j v, ∃ k, M b = some k := fun c hc => by
 rcases h with ⟨rfl, _⟩ | ⟨b, tg, cap, rest, sz', rfl, hb, h⟩
 ·simp [z4j] at hc
 ·simp [z4j] at hc; subst hc; exact ⟨_, hb⟩
def z27 {α : Type} (v : Value) (e : TypeId) (ws : List Value) (hs : List Nat) (e2 : TypeId) (r : RT α) (xss : List (List α)) : Pc :=
 ⟨z4j v ++ zem ws hs, RowsOk v e ws hs e2 r xss,
  fun hG h => ⟨h.out, h.one, h.len, fun i w hi hw => by obtain ⟨es, xs, h1, h2, h3⟩ := h.row i w hi hw; exact ⟨es, xs, h1, h2, h3.mono fun _ _ => r.mono hG⟩, h.dis, h.off⟩,
  fun hl h => ⟨h.out.loc fun b hb => hl b (List.mem_append_left _ hb), h.one, h.len, fun i w hi hw => by
   obtain ⟨es, xs, h1, h2, h3⟩ := h.row i w hi hw
   exact ⟨es, xs, h1, h2.loc fun b hb => hl b (List.mem_append_right _ (mem_rowFoot.2 ⟨i, w, hi, hw, hb⟩)), h3⟩, h.dis, h.off⟩,
  fun h b hb => by
   rcases List.mem_append.1 hb with hb | hb
   ·exact h.out.bnd b hb
   ·obtain ⟨i, w, hi, hw, hb⟩ := mem_rowFoot.1 hb
    obtain ⟨es, xs, h1, h2, h3⟩ := h.row i w hi hw
    exact h2.bnd b hb⟩
section
variable {α : Type} {r : RT α} {G : GM} {H H1 : AH} {L : List Pc} {v w w' u : Value} {e e2 : TypeId} {ws : List Value} {hs : List Nat} {xss : List (List α)} {xs : List α} {i j k : Nat}
theorem Ow.rowsOk (O : Ow G H L) (hj : L[j]? = some (z27 v e ws hs e2 r xss)) : RowsOk v e ws hs e2 r xss G H.get := O.ok j _ hj
theorem Ow.rowsLen (O : Ow G H L) (hj : L[j]? = some (z27 v e ws hs e2 r xss)) : zjd v xss.length := by
 have h := O.rowsOk hj
 have hl : (ws.map fun w => [w]).length = xss.length := by rw [List.length_map, h.len]
 have := (h.out.slG (sz := 1) (by simp)).isSl
 rw [hl] at this; exact this
theorem Ow.rowVal (O : Ow G H L) (hj : L[j]? = some (z27 v e ws hs e2 r xss)) (hi : xss[i]? = some xs) : ∃ w, ws[i]? = some w /\ PtG H.get (z1m v (i * 1)) [w] /\ okCells [w] = true := by
 have h := O.rowsOk hj
 have hl : i < ws.length := by rw [h.len]; exact (zAi hi).1
 refine ⟨ws[i], zAh hl, (h.out.slG (sz := 1) (by simp)).idx (by simp [hl]), h.one _ (List.getElem_mem hl)⟩
theorem zlq {l : List Value} {i : Nat} {a b : Value} (h : l[i]? = some a) : (l.set i b)[i]? = some b := by
 have := (zAi h).1
 simp [this]
theorem Ow.footRows (O : Ow G H L) (hj : L[j]? = some (z27 v e ws hs e2 r xss)) (hi : xss[i]? = some xs) {k : Nat} : z6x (z1m v k) ∈ (z27 v e ws hs e2 r xss).foot := by
 have h := O.rowsOk hj
 have hl := (zAi hi).1
 refine List.mem_append_left _ ?_
 rcases h.out with ⟨rfl, hn⟩ | ⟨b, tg, cap, rest, sz', rfl, _⟩
 ·simp at hn; have := h.len; rw [hn] at this; simp at this; omega
 ·simp [z1m, z6x, z4j]
theorem Ow.takeRow (O : Ow G H L) (hj : L[j]? = some (z27 v e ws hs e2 r xss)) (hw : ws[i]? = some w) (hi : xss[i]? = some xs) (hh : i ∉ hs) : Ow G H (eSl w e2 r xs :: L.set j (z27 v e ws (i :: hs) e2 r xss)) := by
 have h := O.rowsOk hj
 have hjl : j < L.length := (zAi hj).1
 have hfr : ∀ b, b ∈ z4j w -> b ∈ (z27 v e ws hs e2 r xss).foot := fun b hb => List.mem_append_right _ (mem_rowFoot.2 ⟨i, w, hh, hw, hb⟩)
 have hsub : ∀ b, b ∈ (z27 v e ws (i :: hs) e2 r xss).foot -> b ∈ (z27 v e ws hs e2 r xss).foot /\ b ∉ z4j w := fun b hb => by
  rcases List.mem_append.1 hb with hb | hb
  ·exact ⟨List.mem_append_left _ hb, fun hc => h.off i w hh hw b hc hb⟩
  ·obtain ⟨m, u, hm, hu, hb⟩ := mem_rowFoot.1 hb
   simp only [List.mem_cons, not_or] at hm
   exact ⟨List.mem_append_right _ (mem_rowFoot.2 ⟨m, u, hm.2, hu, hb⟩), fun hc => h.dis m i u w hm.1 hm.2 hh hu hw b hb hc⟩
 have hset : ∀ (m : Nat) (x : Pc), (L.set j (z27 v e ws (i :: hs) e2 r xss))[m]? = some x -> (m = j /\ x = z27 v e ws (i :: hs) e2 r xss) \/ (m ≠ j /\ L[m]? = some x) := fun m x hx => by
  rw [List.getElem?_set] at hx
  by_cases hm : j = m
  ·subst hm; simp [hjl] at hx; exact .inl ⟨rfl, hx.symm⟩
  ·rw [if_neg hm] at hx; exact .inr ⟨fun e => hm e.symm, hx⟩
 refine ⟨O.fro, fun m x hx => ?_, fun m m' x x' hmm hx hx' b hb => ?_, fun m x hx b hb => ?_⟩
 ·cases m with
  | zero =>
   simp at hx; subst hx
   obtain ⟨es, xs', h1, h2, h3⟩ := h.row i w hh hw
   rw [hi] at h1; cases h1
   exact ⟨es, h2, h3⟩
  | succ m =>
   simp only [List.getElem?_cons_succ] at hx
   rcases hset m x hx with ⟨rfl, rfl⟩ | ⟨_, hx⟩
   ·exact ⟨h.out, h.one, h.len, fun m u hm hu => h.row m u (fun hc => hm (List.mem_cons_of_mem _ hc)) hu, fun a c w u hac ha hc => h.dis a c w u hac (fun hq => ha (List.mem_cons_of_mem _ hq)) (fun hq => hc (List.mem_cons_of_mem _ hq)), fun m u hm => h.off m u fun hc => hm (List.mem_cons_of_mem _ hc)⟩
   ·exact O.ok m x hx
 ·cases m with
  | zero =>
   simp at hx; subst hx
   cases m' with
   | zero => exact absurd rfl hmm
   | succ m' =>
    simp only [List.getElem?_cons_succ] at hx'
    rcases hset m' x' hx' with ⟨rfl, rfl⟩ | ⟨hm, hx'⟩
    ·exact fun hc => (hsub b hc).2 hb
    ·exact fun hc => O.dis j m' _ x' (fun e => hm e.symm) hj hx' b (hfr b hb) hc
  | succ m =>
   simp only [List.getElem?_cons_succ] at hx
   cases m' with
   | zero =>
    simp at hx'; subst hx'
    intro hc
    rcases hset m x hx with ⟨rfl, rfl⟩ | ⟨hm, hx2⟩
    ·exact (hsub b hb).2 hc
    ·exact O.dis m j x _ hm hx2 hj b hb (hfr b hc)
   | succ m' =>
    simp only [List.getElem?_cons_succ] at hx'
    rcases hset m x hx with ⟨rfl, rfl⟩ | ⟨hm, hx2⟩
    ·rcases hset m' x' hx' with ⟨rfl, rfl⟩ | ⟨hm', hx'⟩
     ·exact absurd rfl hmm
     ·exact O.dis _ m' _ x' (fun e => hm' e.symm) hj hx' b (hsub b hb).1
    ·rcases hset m' x' hx' with ⟨rfl, rfl⟩ | ⟨hm', hx3⟩
     ·exact fun hc => O.dis m _ x _ hm hx2 hj b hb (hsub b hc).1
     ·exact O.dis m m' x x' (by omega) hx2 hx3 b hb
 ·cases m with
  | zero => simp at hx; subst hx; exact O.apart j _ hj b (hfr b hb)
  | succ m =>
   simp only [List.getElem?_cons_succ] at hx
   rcases hset m x hx with ⟨rfl, rfl⟩ | ⟨_, hx⟩
   ·exact O.apart _ _ hj b (hsub b hb).1
   ·exact O.apart m x hx b hb
theorem Ow.putRow (O : Ow G H (eSl w e2 r xs :: L)) (hj : L[j]? = some (z27 v e ws [i] e2 r xss)) (hw : ws[i]? = some w) : Ow G H (L.set j (z27 v e ws [] e2 r (xss.set i xs))) := by
 have hj1 : (eSl w e2 r xs :: L)[j + 1]? = some (z27 v e ws [i] e2 r xss) := by simpa using hj
 have h : RowsOk v e ws [i] e2 r xss G H.get := O.ok (j + 1) _ hj1
 have hjl : j < L.length := (zAi hj).1
 obtain ⟨es, h4, h5⟩ := O.ok 0 _ rfl
 have hil : i < xss.length := by rw [<- h.len]; exact (zAi hw).1
 have hdw : ∀ b ∈ z4j w, b ∉ (z27 v e ws [i] e2 r xss).foot := O.dis 0 (j + 1) _ _ (by omega) rfl hj1
 have hfoot : ∀ b, b ∈ (z27 v e ws [] e2 r (xss.set i xs)).foot -> b ∈ (z27 v e ws [i] e2 r xss).foot \/ b ∈ z4j w := fun b hb => by
  rcases List.mem_append.1 hb with hb | hb
  ·exact .inl (List.mem_append_left _ hb)
  ·obtain ⟨m, u, hm, hu, hb⟩ := mem_rowFoot.1 hb
   by_cases hmi : m = i
   ·subst hmi; rw [hw] at hu; cases hu; exact .inr hb
   ·exact .inl (List.mem_append_right _ (mem_rowFoot.2 ⟨m, u, by simpa using hmi, hu, hb⟩))
 have hset : ∀ (m : Nat) (x : Pc), (L.set j (z27 v e ws [] e2 r (xss.set i xs)))[m]? = some x -> (m = j /\ x = z27 v e ws [] e2 r (xss.set i xs)) \/ (m ≠ j /\ L[m]? = some x) := fun m x hx => by
  rw [List.getElem?_set] at hx
  by_cases hm : j = m
  ·subst hm; simp [hjl] at hx; exact .inl ⟨rfl, hx.symm⟩
  ·rw [if_neg hm] at hx; exact .inr ⟨fun e => hm e.symm, hx⟩
 have hother : ∀ m x, m ≠ j -> L[m]? = some x -> ∀ b ∈ x.foot, b ∉ (z27 v e ws [i] e2 r xss).foot /\ b ∉ z4j w := fun m x hm hx b hb =>
  ⟨O.dis (m + 1) (j + 1) x _ (by omega) (by simpa using hx) hj1 b hb, fun hc => O.dis 0 (m + 1) _ x (by omega) rfl (by simpa using hx) b hc hb⟩
 refine ⟨O.fro, fun m x hx => ?_, fun m m' x x' hmm hx hx' b hb hc => ?_, fun m x hx b hb => ?_⟩
 ·rcases hset m x hx with ⟨rfl, rfl⟩ | ⟨_, hx⟩
  ·refine ⟨h.out, h.one, by simpa using h.len, fun m u _ hu => ?_, fun a c w1 u1 hac _ _ hw1 hu1 b hb hc => ?_, fun m u _ hu b hb hc => ?_⟩
   ·by_cases hmi : m = i
    ·subst hmi; rw [hw] at hu; cases hu
     exact ⟨es, xs, by simp [hil], h4, h5⟩
    ·obtain ⟨es', xs', k1, k2⟩ := h.row m u (by simpa using hmi) hu
     exact ⟨es', xs', by rw [List.getElem?_set, if_neg (fun e => hmi e.symm)]; exact k1, k2⟩
   ·by_cases ha : a = i
    ·subst ha; rw [hw] at hw1; cases hw1
     exact hdw b hb (List.mem_append_right _ (mem_rowFoot.2 ⟨c, u1, by simpa using fun e : c = a => hac e.symm, hu1, hc⟩))
    ·by_cases hci : c = i
     ·subst hci; rw [hw] at hu1; cases hu1
      exact hdw b hc (List.mem_append_right _ (mem_rowFoot.2 ⟨a, w1, by simpa using ha, hw1, hb⟩))
     ·exact h.dis a c w1 u1 hac (by simpa using ha) (by simpa using hci) hw1 hu1 b hb hc
   ·by_cases hmi : m = i
    ·subst hmi; rw [hw] at hu; cases hu
     exact hdw b hb (List.mem_append_left _ hc)
    ·exact h.off m u (by simpa using hmi) hu b hb hc
  ·exact O.ok (m + 1) x (by simpa using hx)
 ·rcases hset m x hx with ⟨rfl, rfl⟩ | ⟨hm, hx2⟩
  ·rcases hset m' x' hx' with ⟨rfl, rfl⟩ | ⟨hm', hx'⟩
   ·exact absurd rfl hmm
   ·obtain ⟨k1, k2⟩ := hother m' x' hm' hx' b hc
    rcases hfoot b hb with h | h
    ·exact k1 h
    ·exact k2 h
  ·rcases hset m' x' hx' with ⟨rfl, rfl⟩ | ⟨hm', hx3⟩
   ·obtain ⟨k1, k2⟩ := hother m x hm hx2 b hb
    rcases hfoot b hc with h | h
    ·exact k1 h
    ·exact k2 h
   ·exact O.dis (m + 1) (m' + 1) x x' (by omega) (by simpa using hx2) (by simpa using hx3) b hb hc
 ·rcases hset m x hx with ⟨rfl, rfl⟩ | ⟨_, hx⟩
  ·rcases hfoot b hb with h | h
   ·exact O.apart _ _ hj1 b h
   ·exact O.apart 0 _ rfl b h
  ·exact O.apart (m + 1) x (by simpa using hx) b hb
theorem Ow.putRow0 (O : Ow G H (eSl w e2 r xs :: L)) (hj : L[j]? = some (z27 v e ws [i] e2 r xss)) (hw : ws[i]? = some w) (hi : xss[i]? = some xs) : Ow G H (L.set j (z27 v e ws [] e2 r xss)) := by
 have := O.putRow hj hw
 have hl := (zAi hi).1
 have he : xss.set i xs = xss := by
  apply List.ext_getElem?
  intro m
  rw [List.getElem?_set]
  by_cases hm : i = m
  ·subst hm; simp [hl, hi.symm]
  ·rw [if_neg hm]
 rw [he] at this; exact this
end
section
variable {P : Program} {n : Nat} {σ : Nat -> Value} {H H1 : AH} {d : Tmp} {dd : Option Tmp} {ty t e e2 : TypeId} {pos : String} {af : Array Edge} {g : Option (Nat × Bool)} {v u w w' : Value} {x y : Operand}
 {G : GM} {L : List Pc} {j i : Nat} {α : Type} {r : RT α} {ws : List Value} {xss : List (List α)}
theorem Lo.storeRow (hj : L[j]? = some (z27 v e ws [i] e2 r xss)) (hi : i < xss.length) (hd : (ook n x && ook n y) = true) (hz : szT P t = some 1) (hx : oval σ x = z1m v (i * 1)) (hy : oval σ y = w') (hok : okCells [w'] = true) (hc : w'.cells.toList = [w']) (O : Ow G H L) :
  Loud P n ⟨dd, .store t x y, ty, pos, af, g⟩ σ H fun u H1 => Ow G H1 (L.set j (z27 v e (ws.set i w') [i] e2 r xss)) /\ (∀ b', b' ∉ z4j v -> H1.get b' = H.get b') := by
 have h := O.rowsOk hj
 have hil : i < ws.length := by rw [h.len]; exact hi
 have hout := h.out
 rcases hout with ⟨rfl, hn⟩ | ⟨b, tg, cap, rest, sz', rfl, hb, hl, hcap, htg⟩
 ·simp at hn; subst hn; simp at hil
 ·have hfl : (ws.map fun w => [w]).flatten.length = ws.length := by rw [z3f (sz := 1) (by simp)]; simp
  have hsz : w'.cells.size = 1 := by have := congrArg List.length hc; simpa using this
  obtain ⟨H1, h3, h4⟩ := z75 (P := P) (dd := dd) (ty := ty) (pos := pos) (af := af) (g := g) (off := 0 + i * 1) hd hz hx hy hb rfl hsz (by rw [hc]; exact hok) (by show _ <= ((ws.map fun w => [w]).flatten ++ rest).length; rw [List.length_append, hfl]; omega)
  have hrows : ∀ (m : Nat) (u : Value), m ≠ i -> ((ws.set i w')[m]? = some u ↔ ws[m]? = some u) := fun m u hm => by rw [List.getElem?_set, if_neg (fun e => hm e.symm)]
  refine ⟨_, H1, h4, O.put hj _ (fun c hc' => .inl ?_) ⟨?_, ?_, by simpa using h.len, fun m u hm hu => ?_, fun a c w1 u1 hac ha hc' hw1 hu1 => ?_, fun m u hm hu => ?_⟩ (fun c k hk hc' => h3.old hk fun e => hc' (List.mem_append_left _ (by simp [z4j, e]))), fun c hc' => h3.other c (by simpa [z4j] using hc')⟩
  ·rcases List.mem_append.1 hc' with q | q
   ·exact List.mem_append_left _ q
   ·obtain ⟨m, u, hm, hu, q⟩ := mem_rowFoot.1 q
    have hm' : m ≠ i := by simpa using hm
    exact List.mem_append_right _ (mem_rowFoot.2 ⟨m, u, hm, (hrows m u hm').1 hu, q⟩)
  ·refine .inr ⟨b, tg, cap, rest, sz', by simp, ?_, ?_, by simpa using hcap, htg⟩
   ·rw [h3.get]
    congr 2
    rw [List.map_set, <- za4 (sz := 1) (by simp) rfl (by simpa using hil), hc]
    simp only [Nat.zero_add, z1s]
    rw [List.take_append_of_le_length (by rw [hfl]; omega), List.drop_append_of_le_length (by rw [hfl]; simp; omega)]
    simp [List.append_assoc]
   ·rw [List.length_append] at hl ⊢
    rw [z3f (sz := 1) (fun q hq => by obtain ⟨u, _, rfl⟩ := List.mem_map.1 hq; rfl)]
    rw [hfl] at hl
    simpa using hl
  ·intro q hq
   rcases List.mem_or_eq_of_mem_set hq with q' | q'
   ·exact h.one q q'
   ·rw [q']; exact hok
  ·have hm' : m ≠ i := by simpa using hm
   obtain ⟨es, xs, k1, k2, k3⟩ := h.row m u hm ((hrows m u hm').1 hu)
   refine ⟨es, xs, k1, k2.loc fun c hc' => h3.other c fun e => ?_, k3⟩
   subst e
   exact h.off m u hm ((hrows m u hm').1 hu) _ hc' (by simp [z4j])
  ·have ha' : a ≠ i := by simpa using ha
   have hc'' : c ≠ i := by simpa using hc'
   exact h.dis a c w1 u1 hac ha hc' ((hrows a w1 ha').1 hw1) ((hrows c u1 hc'').1 hu1)
  ·have hm' : m ≠ i := by simpa using hm
   exact h.off m u hm ((hrows m u hm').1 hu)
theorem Ow.cellsSl {v : Value} {xs : List α} (O : Ow G H L) (hj : L[j]? = some (eSl v e r xs)) : okCells [v] = true /\ v.cells.toList = [v] := by
 rcases O.slLen hj with ⟨rfl, _⟩ | ⟨b, off, tg, cap, rfl⟩ <;> exact ⟨rfl, rfl⟩
end
end
end Go.Am
/- Reads in an open region through a pointer that is known only by an equation. -/
namespace Go.Am
open Go
theorem zn0 {v w : Value} {A B : AH} (h : v = w) (k : B.get (z6x w) = A.get (z6x w)) : B.get (z6x v) = A.get (z6x v) := by subst h; exact k
theorem gap {α : Type} {r : α} {C : Prop} (h : (none : Option α) = some r) : C := by cases h
section
variable {α : Type} {r : RT α} {G : GM} {b N : Nat} {xs : List α}
variable {P : Program} {d : Tmp} {ty t e : TypeId} {pos : String} {af : Array Edge} {g : Option (Nat × Bool)} {x : Operand} {s : List Value}
end
section
variable {P : Program} {n : Nat} {σ : Nat -> Value} {G : GM} {H : AH} {ops : Array Oper} {l : List Oper} {d : Tmp} {ty t u e : TypeId} {pos : String} {af : Array Edge} {g : Option (Nat × Bool)} {x : Operand}
theorem zh8 : ∀ (es : List (List Value)) (xs : List Int), All2 ((rI .u8).rep G) es xs -> z25 es.flatten = some xs
 | _, _, .nil => rfl
 | _, _, .cons h r => by
  cases h
  have := zh8 _ _ r
  simp [z25, this]
theorem W.bytesStr {Q : (Nat -> Value) -> AH -> Prop} {es : List (List Value)} {xs : List Int} (hg : gok n ops σ g true) (hd : (Nat.blt d n && ook n x) = true) (he : z80 P t = some e) (hi : intT P e = some .u8) (hu : P.underlying u = some .string)
  (hs : SlG H.get 1 (oval σ x) es) (h2 : All2 ((rI .u8).rep G) es xs) (h0 : 0 < xs.length) (hr : AWO P n ops l (up σ d (.string (strOfNums xs))) H Q) : AWO P n ops (⟨some d, .convert t u x, ty, pos, af, g⟩ :: l) σ H Q := by
 simp only [Bool.and_eq_true] at hd
 have hl := h2.length
 obtain ⟨_, ⟨_, h⟩ | ⟨b, off, tg, cap, k, h3, h4, h5, h6, _⟩ | ⟨_, _, _, _, _, h, _⟩⟩ := hs
 ·rw [h] at hl; simp at hl; omega
 ·have hx := z28 (σ := σ) hd.2
  rw [h3] at hx
  rw [Nat.mul_one] at h5 h6
  refine W.read hg hd.1 ?_ ?_ hr
  ·simp [z1t, agen, zcg, Op.operands, hx, closed, z13]
  ·simp [z70, hx, z6m, z04 he, hu, h4, z8z hi, h5, h6, zh8 es xs h2]
 ·rw [h] at hl; simp at hl; omega
end
end Go.Am
/- Parts of texts and of slices. -/
namespace Go.Am
open Go
section
variable {P : Program} {d : Tmp} {ty t e : TypeId} {pos : String} {af : Array Edge} {g : Option (Nat × Bool)} {x xl xh : Operand} {s : List Value} {a r : zAd} {k k2 : IntKind} {l h : Int}
theorem zh9 (q : ssl a l h = some r) : 0 <= l /\ l <= h /\ h <= a.size /\ r = a.extract l.toNat h.toNat := by
 unfold ssl at q
 split at q
 ·rename_i c; cases q; exact ⟨c.1, c.2.1, c.2.2, rfl⟩
 ·cases q
theorem zbx {y : Nat} {c : BoundsCode} (h0 : 0 <= l) (h1 : l <= y) : (Instr.sliceBound (.int k l) y c).pureRun P = some l.toNat := by
 unfold Instr.sliceBound
 simp [asIntOf, z0d, z11, h0, h1]
theorem zkt (hu : P.underlying t = some .string) (hx : opnd s x = some (.string a)) (hl : opnd s xl = some (.int k l)) (hh : opnd s xh = some (.int k2 h)) (q : ssl a l h = some r) : z1t P s ⟨some d, .slice t x (some xl) (some xh) none, ty, pos, af, g⟩ = some (.string r) := by
 obtain ⟨h1, h2, h3, rfl⟩ := zh9 q
 have hc : ∀ b, closed (.string b) = true := fun _ => rfl
 have hi : ∀ k i, closed (.int k i) = true := fun _ _ => rfl
 have hl' : l <= (h.toNat : Nat) := by omega
 simp [z1t, hx, hl, hh, agen, zcg, Op.operands, hc, hi, execOp, Instr.sliceAt, Instr.slice, Instr.sliceBounds, z0d, z1b, z11, z0s hu, zbx (show 0 <= h by omega) h3, zbx h1 hl']
theorem zdr (hu : P.underlying t = some .string) (hx : opnd s x = some (.string a)) (hl : opnd s xl = some (.int k l)) (q : ssl a l (a.size : Int) = some r) : z1t P s ⟨some d, .slice t x (some xl) none none, ty, pos, af, g⟩ = some (.string r) := by
 obtain ⟨h1, h2, h3, rfl⟩ := zh9 q
 have hc : ∀ b, closed (.string b) = true := fun _ => rfl
 have hi : ∀ k i, closed (.int k i) = true := fun _ _ => rfl
 simp [z1t, hx, hl, agen, zcg, Op.operands, hc, hi, execOp, Instr.sliceAt, Instr.slice, Instr.sliceBounds, z0d, z1b, z11, z0s hu, zbx h1 h2]
theorem zha (hu : P.underlying t = some .string) (hx : opnd s x = some (.string a)) (hh : opnd s xh = some (.int k2 h)) (q : ssl a 0 h = some r) : z1t P s ⟨some d, .slice t x none (some xh) none, ty, pos, af, g⟩ = some (.string r) := by
 obtain ⟨h1, h2, h3, rfl⟩ := zh9 q
 have hc : ∀ b, closed (.string b) = true := fun _ => rfl
 have hi : ∀ k i, closed (.int k i) = true := fun _ _ => rfl
 simp [z1t, hx, hh, agen, zcg, Op.operands, hc, hi, execOp, Instr.sliceAt, Instr.slice, Instr.sliceBounds, z0d, z1b, z11, z0s hu, zbx (show 0 <= h by omega) h3]
end
section
variable {α : Type} {R : RT α} {G : GM} {P : Program} {d : Tmp} {ty t e : TypeId} {pos : String} {af : Array Edge} {g : Option (Nat × Bool)} {x xl xh : Operand} {k k2 : IntKind} {v : Value} {xs ys : List α}
theorem zku (f : (rSl R).rep G [v] xs) : ∃ a n c, v = .slice a n c := by
 obtain ⟨v', es, hv, ⟨_, ⟨h, _⟩ | ⟨b, off, tg, cap, k, h, _⟩ | ⟨b, off, tg, cap, h, _⟩⟩, _⟩ := f
 ·cases hv; exact ⟨_, _, _, h⟩
 ·cases hv; exact ⟨_, _, _, h⟩
 ·cases hv; exact ⟨_, _, _, h⟩
theorem zen {sz : Nat} : ∀ (es : List (List Value)) (k : Nat), (∀ x ∈ es, x.length = sz) -> es.flatten.drop (k * sz) = (es.drop k).flatten
 | [], _, _ => by simp
 | x :: r, 0, _ => by simp
 | x :: r, k + 1, h => by
  have h1 := h x (by simp)
  have := zen r k (fun y hy => h y (by simp [hy]))
  rw [List.drop_succ_cons, List.flatten_cons, Nat.add_mul, Nat.one_mul, Nat.add_comm, <- h1, List.drop_length_add_append, h1, this]
theorem zcw {sz : Nat} : ∀ (es : List (List Value)) (k : Nat), (∀ x ∈ es, x.length = sz) -> es.flatten.take (k * sz) = (es.take k).flatten
 | [], _, _ => by simp
 | x :: r, 0, _ => by simp
 | x :: r, k + 1, h => by
  have h1 := h x (by simp)
  have := zcw r k (fun y hy => h y (by simp [hy]))
  rw [List.take_succ_cons, List.flatten_cons, List.flatten_cons, Nat.add_mul, Nat.one_mul, Nat.add_comm, <- h1, List.take_length_add_append, h1, this]
theorem zcx (f : (rSl R).rep G [v] xs) (he : z80 P t = some e) (hz : szT P e = some R.sz) {lo hi : Option Value} {l h : Nat} (hlo : (lo = none /\ l = 0) \/ ∃ k, lo = some (.int k l)) (hhi : (hi = none /\ h = xs.length) \/ ∃ k, hi = some (.int k h)) (hl : l <= h) (hh : h <= xs.length) :
  ∃ w, z8w P t v lo hi none = some w /\ (rSl R).rep G [w] ((xs.drop l).take (h - l)) := by
 obtain ⟨inf, hinf, hsz⟩ := z5h hz
 obtain ⟨v', es, hv, ⟨hes, hs⟩, h2⟩ := f
 cases hv
 have hlen := h2.length
 have hbl : ∀ y, h <= y -> (bnd lo 0 h) = some l := fun y _ => by
  rcases hlo with ⟨rfl, rfl⟩ | ⟨k, rfl⟩
  ·rfl
  ·simp [bnd, hl]
 have hbh : ∀ len cap, len = xs.length -> h <= cap -> bnd hi len cap = some h := fun len cap e1 e2 => by
  rcases hhi with ⟨rfl, rfl⟩ | ⟨k, rfl⟩
  ·simp [bnd, e1]
  ·simp [bnd, e2]
 rcases hs with ⟨rfl, rfl⟩ | ⟨b, off, tg, cap, k, rfl, h3, h4, h5, h6, h7⟩ | ⟨b, off, tg, cap, rfl, rfl, h7⟩
 ·have e0 : xs.length = 0 := by simpa using hlen.symm
  have e1 : h = 0 := by omega
  subst e1
  have e2 : l = 0 := by omega
  subst e2
  refine ⟨.slice none 0 0, ?_, ?_⟩
  ·simp [z8w, z04 he, hinf, hbh 0 0 e0.symm (Nat.le_refl _), hbl 0 (Nat.le_refl _), show bnd none 0 0 = some 0 from rfl]
  ·simpa using (zjj : (rSl R).rep G [.slice none 0 0] [])
 ·refine ⟨.slice (some ⟨b, off + l * R.sz, tg⟩) (h - l) (cap - l), ?_, ?_⟩
  ·simp only [z8w, z04 he, hinf, Option.bind_some, hbh _ _ hlen (show h <= cap by omega), hbl h (Nat.le_refl _), hsz]
   rw [if_pos ⟨h6, h7⟩]
  ·have hl2 : ((es.drop l).take (h - l)).length = h - l := by rw [List.length_take, List.length_drop]; omega
   refine ⟨_, (es.drop l).take (h - l), rfl, ⟨fun c hc => hes c (List.mem_of_mem_drop (List.mem_of_mem_take hc)), .inr (.inl ⟨b, off + l * R.sz, tg, cap - l, k, by rw [hl2], h3, ?_, ?_, by rw [hl2]; omega, h7⟩)⟩, (h2.drop l).take (h - l)⟩
   ·rw [hl2]
    have : (l + (h - l)) * R.sz <= es.length * R.sz := Nat.mul_le_mul_right _ (by omega)
    rw [Nat.add_mul] at this
    omega
   ·rw [hl2, <- List.drop_drop, <- zcw _ _ (fun c hc => hes c (List.mem_of_mem_drop hc)), <- zen _ _ hes, <- h5, List.drop_take, List.take_take]
    congr 1
    have h8 : (h - l) * R.sz <= es.length * R.sz - l * R.sz := by rw [<- Nat.sub_mul]; exact Nat.mul_le_mul_right _ (by omega)
    omega
 ·have e0 : xs.length = 0 := by simpa using hlen.symm
  have e1 : h = 0 := by omega
  subst e1
  have e2 : l = 0 := by omega
  subst e2
  refine ⟨.slice (some ⟨b, off + 0 * R.sz, tg⟩) 0 cap, ?_, ?_⟩
  ·simp only [z8w, z04 he, hinf, Option.bind_some, hbh _ _ e0.symm (Nat.zero_le _), hbl 0 (Nat.le_refl _), hsz]
   rw [if_pos ⟨Nat.zero_le _, h7⟩]
   simp
  ·simp only [List.drop_zero, Nat.sub_zero, List.take_zero]
   exact ⟨_, [], rfl, ⟨by simp, .inr (.inr ⟨b, off + 0 * R.sz, tg, cap, rfl, rfl, h7⟩)⟩, .nil⟩
theorem zhb {l h : Int} (q : lsl xs l h = some ys) : ∃ l' h' : Nat, l = l' /\ h = h' /\ l' <= h' /\ h' <= xs.length /\ ys = (xs.drop l').take (h' - l') := by
 unfold lsl at q
 split at q
 ·rename_i c; cases q; exact ⟨l.toNat, h.toNat, by omega, by omega, by omega, by omega, rfl⟩
 ·cases q
theorem zn1 {l : Int} (f : (rSl R).rep G [v] xs) (he : z80 P t = some e) (hz : szT P e = some R.sz) (q : lsl xs l (xs.length : Int) = some ys) : ∃ w, (∀ {s : List Value} {d ty pos af g x xl k}, opnd s x = some v -> opnd s xl = some (.int k l) -> z1t P s ⟨some d, .slice t x (some xl) none none, ty, pos, af, g⟩ = some w) /\ (rSl R).rep G [w] ys := by
 obtain ⟨l', h', rfl, h0, h1, h2, rfl⟩ := zhb q
 obtain rfl : h' = xs.length := by omega
 obtain ⟨a, n, c, rfl⟩ := zku f
 obtain ⟨w, h3, h4⟩ := zcx f he hz (lo := some (.int .i64 l')) (hi := none) (.inr ⟨_, rfl⟩) (.inl ⟨rfl, rfl⟩) h1 h2
 refine ⟨w, fun {s d ty pos af g x xl k} hx hl => ?_, h4⟩
 have h6 : z8w P t (.slice a n c) (some (.int k l')) none none = z8w P t (.slice a n c) (some (.int .i64 l')) none none := rfl
 simp [z1t, hx, zis, hl, h6, h3]
theorem zn2 {h : Int} (f : (rSl R).rep G [v] xs) (he : z80 P t = some e) (hz : szT P e = some R.sz) (q : lsl xs 0 h = some ys) : ∃ w, (∀ {s : List Value} {d ty pos af g x xh k2}, opnd s x = some v -> opnd s xh = some (.int k2 h) -> z1t P s ⟨some d, .slice t x none (some xh) none, ty, pos, af, g⟩ = some w) /\ (rSl R).rep G [w] ys := by
 obtain ⟨l', h', h0, rfl, h1, h2, rfl⟩ := zhb q
 obtain rfl : l' = 0 := by omega
 obtain ⟨a, n, c, rfl⟩ := zku f
 obtain ⟨w, h3, h4⟩ := zcx f he hz (lo := none) (hi := some (.int .i64 h')) (.inl ⟨rfl, rfl⟩) (.inr ⟨_, rfl⟩) h1 h2
 refine ⟨w, fun {s d ty pos af g x xh k2} hx hh => ?_, h4⟩
 have h6 : z8w P t (.slice a n c) none (some (.int k2 h')) none = z8w P t (.slice a n c) none (some (.int .i64 h')) none := rfl
 simp [z1t, hx, zis, hh, h6, h3]
theorem Ow.pre {H : AH} {L : List Pc} {j : Nat} {h : Int} (O : Ow G H L) (hj : L[j]? = some (eSl v e R xs)) (he : z80 P t = some e) (hz : szT P e = some R.sz) (q : lsl xs 0 h = some ys) : ∃ w, (∀ {s : List Value} {d ty pos af g x xh k2}, opnd s x = some v -> opnd s xh = some (.int k2 h) -> z1t P s ⟨some d, .slice t x none (some xh) none, ty, pos, af, g⟩ = some w) /\ Ow G H (L.set j (eSl w e R ys)) := by
 obtain ⟨l', h', h0, rfl, h1, h2, rfl⟩ := zhb q
 obtain rfl : l' = 0 := by omega
 obtain ⟨inf, hinf, hsz⟩ := z5h hz
 obtain ⟨es, hs, hr⟩ := O.ok j _ hj
 have hlen := hr.length
 have hb0 : ∀ y, bnd none 0 y = some 0 := fun y => by simp [bnd]
 rcases hs with ⟨rfl, rfl⟩ | ⟨b, tg, cap, rest, sz', rfl, hb, hl, hcap, htg⟩
 ·have e0 : xs.length = 0 := by simpa using hlen.symm
  obtain rfl : h' = 0 := by omega
  refine ⟨.slice none 0 0, fun {s d ty pos af g x xh k2} hx hh => ?_, ?_⟩
  ·simp [z1t, hx, zis, hh, z8w, z04 he, hinf, bnd]
  ·refine O.put hj _ (fun b hb => .inl hb) ⟨[], .inl ⟨rfl, rfl⟩, by simpa using All2.nil⟩ fun b k hk _ => hk
 ·refine ⟨.slice (some ⟨b, 0, tg⟩) h' cap, fun {s d ty pos af g x xh k2} hx hh => ?_, ?_⟩
  ·have hbh : bnd (some (.int k2 (h' : Int))) es.length cap = some h' := by simp [bnd]; omega
   have htt : tg = none \/ tg = some 0 := htg.imp And.left id
   simp only [z1t, hx, zis, hh, Option.bind_some, Option.map_some, z8w, z04 he, hinf, hbh, hb0]
   rw [if_pos ⟨hcap, htt⟩]
   simp
  ·refine O.put hj _ (fun b hb => .inl hb) ⟨es.take h', .inr ⟨b, tg, cap, (es.drop h').flatten ++ rest, sz', ?_, ?_, ?_, ?_, htg⟩, by simpa using hr.take h'⟩ fun b k hk _ => hk
   ·rw [List.length_take]; congr 1; omega
   ·rw [hb, <- List.append_assoc, <- List.flatten_append, List.take_append_drop]
   ·rw [<- List.append_assoc, <- List.flatten_append, List.take_append_drop]; exact hl
   ·rw [List.length_take]; omega
theorem Ow.view {H : AH} {L : List Pc} {j : Nat} {h : Int} (O : Ow G H L) (hj : L[j]? = some (eSl v e R xs)) (he : z80 P t = some e) (hz : szT P e = some R.sz) (q : lsl xs 0 h = some ys) : ∃ w, (∀ {s : List Value} {d ty pos af g x xh k2}, opnd s x = some v -> opnd s xh = some (.int k2 h) -> z1t P s ⟨some d, .slice t x none (some xh) none, ty, pos, af, g⟩ = some w) /\ zjd w ys.length := by
 obtain ⟨w, h1, h2⟩ := O.pre hj he hz q
 refine ⟨w, h1, ?_⟩
 have hjl : j < L.length := (zAi hj).1
 exact h2.slLen (j := j) (e := e) (r := R) (by rw [List.getElem?_set]; simp [hjl])
end
section
variable {P : Program} {d : Tmp} {ty src dst : TypeId} {pos : String} {af : Array Edge} {g : Option (Nat × Bool)} {x : Operand} {s : List Value} {a : zAd} {k k1 : IntKind} {n : Int}
theorem zlr (h1 : intT P src = some k1) (h2 : P.underlying dst = some .string) (hx : opnd s x = some (.int k n)) : z1t P s ⟨some d, .convert src dst x, ty, pos, af, g⟩ = some (.string (Utf8.encode n)) := by
 have hc : ∀ k n, closed (.int k n) = true := fun _ _ => rfl
 have hs : ∀ b, closed (.string b) = true := fun _ => rfl
 have hq : (convert src dst (.int k n)).pureRun P = some (.string (Utf8.encode n)) := by
  unfold convert
  rw [z0d, z0s (z8z h1), Option.bind_some, z0d, z0s h2]
  rfl
 simp [z1t, hx, agen, zcg, Op.operands, hc, hs, execOp, z0d, z1b, z11, hq]
end
end Go.Am
/- Short rules for printed walks. -/
namespace Go.Am
open Go
noncomputable section
section
variable {P : Program} {n : Nat} {σ : Nat -> Value} {H H1 : AH} {ops : Array Oper} {l : List Oper} {Q : (Nat -> Value) -> AH -> Prop} {d : Tmp} {dd : Option Tmp} {ty t yt e : TypeId} {pos : String} {af : Array Edge} {g : Option (Nat × Bool)} {x y c : Operand}
 {M : List Nat} {N0 m : Nat} {R : z81} {L : z8u} {A : z90} {i : Nat} {op : Op}
theorem W.q1 (v : Value) (h : oval σ x = v) (hr : AWO P n ops l (up σ d v) H Q) (hg : gok n ops σ g true := by rfl) (hd : Nat.blt d n = true := by rfl) (hx : ook n x = true := by rfl) : AWO P n ops (⟨some d, .assign x, ty, pos, af, g⟩ :: l) σ H Q :=
 W.pure hg hd (zgy (oo hx h)) hr
theorem W.q2 (v : Value) (h : oval σ x = v) (hr : AWO P n ops l (up σ d v) H Q) (hg : gok n ops σ g true := by rfl) (hd : Nat.blt d n = true := by rfl) (hx : ook n x = true := by rfl) : AWO P n ops (⟨some d, .move x, ty, pos, af, g⟩ :: l) σ H Q :=
 W.pure hg hd (zmx (oo hx h)) hr
theorem W.q3 (v : Value) {bop : BinOp} {k : IntKind} {a b : Int} (h1 : oval σ x = .int k a) (h2 : oval σ y = .int k b) (hr : AWO P n ops l (up σ d v) H Q) (hg : gok n ops σ g true := by rfl) (hd : Nat.blt d n = true := by rfl) (hx : ook n x = true := by rfl) (hy : ook n y = true := by rfl) (hv : aint bop k a b = some v := by rfl) :
  AWO P n ops (⟨some d, .binOp bop t x y yt, ty, pos, af, g⟩ :: l) σ H Q :=
 W.pure hg hd (zmm (oo hx h1) (oo hy h2) hv) hr
theorem W.q4 (v : Value) (hc : oval σ c = .bool true) (h : oval σ x = v) (hr : AWO P n ops l (up σ d v) H Q) (hg : gok n ops σ g true := by rfl) (hd : Nat.blt d n = true := by rfl) (h1 : ook n c = true := by rfl) (hx : ook n x = true := by rfl) : AWO P n ops (⟨some d, .pick c x y, ty, pos, af, g⟩ :: l) σ H Q :=
 W.pure hg hd (zkq (oo h1 hc) (oo hx h)) hr
theorem W.q5 (v : Value) (hc : oval σ c = .bool false) (h : oval σ y = v) (hr : AWO P n ops l (up σ d v) H Q) (hg : gok n ops σ g true := by rfl) (hd : Nat.blt d n = true := by rfl) (h1 : ook n c = true := by rfl) (hy : ook n y = true := by rfl) : AWO P n ops (⟨some d, .pick c x y, ty, pos, af, g⟩ :: l) σ H Q :=
 W.pure hg hd (zkr (oo h1 hc) (oo hy h)) hr
theorem W.q6 {j : Nat} {want b : Bool} {d' : Tmp} (h1 : (ops[j]?).bind (·.dst) = some d') (h3 : σ d' = .bool b) (hr : AWO P n ops l (upo σ dd undef) H Q) (h2 : Nat.blt d' n = true := by rfl) (h4 : (b == want) = false := by rfl) (hd : dok n dd = true := by rfl) : AWO P n ops (⟨dd, op, ty, pos, af, some (j, want)⟩ :: l) σ H Q :=
 W.skip (gk h1 h2 h3 h4) hd hr
theorem D2.q1 (v : Value) (h : oval σ x = v) (hr : AWD2 P n ops M N0 l (i + 1) R L A (up σ d v) H Q) (hg : gok n ops σ g true := by rfl) (hd : Nat.blt d n = true := by rfl) (hx : ook n x = true := by rfl) : AWD2 P n ops M N0 (⟨some d, .assign x, ty, pos, af, g⟩ :: l) i R L A σ H Q :=
 D2.pure hg hd (zgy (oo hx h)) hr
theorem D2.q2 (v : Value) (h : oval σ x = v) (hr : AWD2 P n ops M N0 l (i + 1) R L A (up σ d v) H Q) (hg : gok n ops σ g true := by rfl) (hd : Nat.blt d n = true := by rfl) (hx : ook n x = true := by rfl) : AWD2 P n ops M N0 (⟨some d, .move x, ty, pos, af, g⟩ :: l) i R L A σ H Q :=
 D2.pure hg hd (zmx (oo hx h)) hr
theorem D2.q3 (v : Value) {bop : BinOp} {k : IntKind} {a b : Int} (h1 : oval σ x = .int k a) (h2 : oval σ y = .int k b) (hr : AWD2 P n ops M N0 l (i + 1) R L A (up σ d v) H Q) (hg : gok n ops σ g true := by rfl) (hd : Nat.blt d n = true := by rfl) (hx : ook n x = true := by rfl) (hy : ook n y = true := by rfl) (hv : aint bop k a b = some v := by rfl) :
  AWD2 P n ops M N0 (⟨some d, .binOp bop t x y yt, ty, pos, af, g⟩ :: l) i R L A σ H Q :=
 D2.pure hg hd (zmm (oo hx h1) (oo hy h2) hv) hr
theorem W.pv {op : Op} (v : Value) (h : z1t P (toL n σ) ⟨some d, op, ty, pos, af, g⟩ = some v) (hr : AWO P n ops l (up σ d v) H Q) (hg : gok n ops σ g true := by rfl) (hd : Nat.blt d n = true := by rfl) : AWO P n ops (⟨some d, op, ty, pos, af, g⟩ :: l) σ H Q := W.pure hg hd h hr
theorem D2.pv {op : Op} (v : Value) (h : z1t P (toL n σ) ⟨some d, op, ty, pos, af, g⟩ = some v) (hr : AWD2 P n ops M N0 l (i + 1) R L A (up σ d v) H Q) (hg : gok n ops σ g true := by rfl) (hd : Nat.blt d n = true := by rfl) : AWD2 P n ops M N0 (⟨some d, op, ty, pos, af, g⟩ :: l) i R L A σ H Q := D2.pure hg hd h hr
theorem W.p1 (v : Value) (hr : AWO P n ops l (up σ d v) H Q) (h : oval σ x = v := by rfl) (hg : gok n ops σ g true := by rfl) (hd : Nat.blt d n = true := by rfl) (hx : ook n x = true := by rfl) : AWO P n ops (⟨some d, .assign x, ty, pos, af, g⟩ :: l) σ H Q := W.q1 v h hr hg hd hx
theorem W.p2 (v : Value) (hr : AWO P n ops l (up σ d v) H Q) (h : oval σ x = v := by rfl) (hg : gok n ops σ g true := by rfl) (hd : Nat.blt d n = true := by rfl) (hx : ook n x = true := by rfl) : AWO P n ops (⟨some d, .move x, ty, pos, af, g⟩ :: l) σ H Q := W.q2 v h hr hg hd hx
theorem W.p3 (v : Value) {bop : BinOp} {k : IntKind} {a b : Int} (hr : AWO P n ops l (up σ d v) H Q) (h1 : oval σ x = .int k a := by rfl) (h2 : oval σ y = .int k b := by rfl) (hg : gok n ops σ g true := by rfl) (hd : Nat.blt d n = true := by rfl) (hx : ook n x = true := by rfl) (hy : ook n y = true := by rfl) (hv : aint bop k a b = some v := by rfl) : AWO P n ops (⟨some d, .binOp bop t x y yt, ty, pos, af, g⟩ :: l) σ H Q := W.q3 v h1 h2 hr hg hd hx hy hv
theorem W.r3 (v : Value) {bop : BinOp} {k : IntKind} {a b : Int} (h1 : oval σ x = .int k a) (hr : AWO P n ops l (up σ d v) H Q) (h2 : oval σ y = .int k b := by rfl) (hg : gok n ops σ g true := by rfl) (hd : Nat.blt d n = true := by rfl) (hx : ook n x = true := by rfl) (hy : ook n y = true := by rfl) (hv : aint bop k a b = some v := by rfl) : AWO P n ops (⟨some d, .binOp bop t x y yt, ty, pos, af, g⟩ :: l) σ H Q := W.q3 v h1 h2 hr hg hd hx hy hv
theorem D2.p1 (v : Value) (hr : AWD2 P n ops M N0 l (i + 1) R L A (up σ d v) H Q) (h : oval σ x = v := by rfl) (hg : gok n ops σ g true := by rfl) (hd : Nat.blt d n = true := by rfl) (hx : ook n x = true := by rfl) : AWD2 P n ops M N0 (⟨some d, .assign x, ty, pos, af, g⟩ :: l) i R L A σ H Q := D2.q1 v h hr hg hd hx
theorem D2.p2 (v : Value) (hr : AWD2 P n ops M N0 l (i + 1) R L A (up σ d v) H Q) (h : oval σ x = v := by rfl) (hg : gok n ops σ g true := by rfl) (hd : Nat.blt d n = true := by rfl) (hx : ook n x = true := by rfl) : AWD2 P n ops M N0 (⟨some d, .move x, ty, pos, af, g⟩ :: l) i R L A σ H Q := D2.q2 v h hr hg hd hx
theorem D2.p3 (v : Value) {bop : BinOp} {k : IntKind} {a b : Int} (hr : AWD2 P n ops M N0 l (i + 1) R L A (up σ d v) H Q) (h1 : oval σ x = .int k a := by rfl) (h2 : oval σ y = .int k b := by rfl) (hg : gok n ops σ g true := by rfl) (hd : Nat.blt d n = true := by rfl) (hx : ook n x = true := by rfl) (hy : ook n y = true := by rfl) (hv : aint bop k a b = some v := by rfl) : AWD2 P n ops M N0 (⟨some d, .binOp bop t x y yt, ty, pos, af, g⟩ :: l) i R L A σ H Q := D2.q3 v h1 h2 hr hg hd hx hy hv
theorem W.ln {Φ : Value -> AH -> Prop} (hs : Loud P n ⟨dd, op, ty, pos, af, g⟩ σ H Φ) (hr : ∀ v H1, Φ v H1 -> AWO P n ops l (upo σ dd v) H1 Q) (hg : gok n ops σ g true := by rfl) (hd : dok n dd = true := by rfl) : AWO P n ops (⟨dd, op, ty, pos, af, g⟩ :: l) σ H Q := W.lo hg hd hs hr
theorem ov {v : Value} (h : ook n x = true := by rfl) (hv : oval σ x = v := by rfl) : opnd (toL n σ) x = some v := oo h hv
theorem ou {v : Value} (hv : oval σ x = v) (h : ook n x = true := by rfl) : opnd (toL n σ) x = some v := oo h hv
theorem rt {v : Value} {t : Tmp} (ht : Nat.blt t n = true := by rfl) (hv : σ t = v := by rfl) : RR P n σ H (.tmp t) v := zjl ht hv
theorem Lo.cP {G : GM} {Ls : List Pc} {f : FuncId} {args : Array Operand} {ats : Array TypeId} {al : List Value} {fn : Func} {Ψ : Value -> GM -> Prop} (hd : args.toList.all (ook n) = true) (hf : P.funcs[f]? = some fn) (hnm : (fn.name == "runtime.NumGoroutine" || fn.body.isNone) = false)
  (ha : args.toList.map (oval σ) = al) (O : Ow G H ([] ++ Ls)) (hc : ∀ L, Ow G H ([] ++ L) -> CR P f al G H ([] ++ L) fun v G' _ => Ψ v G') :
  Loud P n ⟨some d, .call ⟨.value (.func f), args, ats⟩, ty, pos, af, g⟩ σ H fun v H1 => ∃ G', Ow G' H1 ([] ++ Ls) /\ G.le G' /\ Same G Ls H H1 /\ Ψ v G' := Lo.callP hd hf hnm ha O hc
end
end
end Go.Am
/- What the proofs ask of the program's types. -/
namespace Go.Am.Tryz
open Go Go.Am Go.Proofs
theorem in2 : intT Tryz.prog 2 = some Go.IntKind.i64 := by kernel_rfl
theorem sz3 : szT Tryz.prog 3 = some 1 := by kernel_rfl
theorem ze3 : (Tryz.prog.info? 3).bind (·.zero) = some (Go.Value.int Go.IntKind.i64 0) := by kernel_rfl
theorem ag3 : z3h Tryz.prog 3 = some false := by kernel_rfl
theorem by3 : ((Tryz.prog.info? 3).map (·.bytes)) = some 8 := by kernel_rfl
theorem in3 : intT Tryz.prog 3 = some Go.IntKind.i64 := by kernel_rfl
theorem sz4 : szT Tryz.prog 4 = some 1 := by kernel_rfl
theorem ze4 : (Tryz.prog.info? 4).bind (·.zero) = some (Go.Value.bool false) := by kernel_rfl
theorem ag4 : z3h Tryz.prog 4 = some false := by kernel_rfl
theorem un4 : Tryz.prog.underlying 4 = some Go.TypeDesc.bool := by kernel_rfl
theorem sz5 : szT Tryz.prog 5 = some 1 := by kernel_rfl
theorem ze5 : (Tryz.prog.info? 5).bind (·.zero) = some (Go.Value.int Go.IntKind.u8 0) := by kernel_rfl
theorem ag5 : z3h Tryz.prog 5 = some false := by kernel_rfl
theorem by5 : ((Tryz.prog.info? 5).map (·.bytes)) = some 1 := by kernel_rfl
theorem in5 : intT Tryz.prog 5 = some Go.IntKind.u8 := by kernel_rfl
theorem un9 : Tryz.prog.underlying 9 = some Go.TypeDesc.string := by kernel_rfl
theorem sz22 : szT Tryz.prog 22 = some 1 := by kernel_rfl
theorem ze22 : (Tryz.prog.info? 22).bind (·.zero) = some (Go.Value.string { data := #[] }) := by kernel_rfl
theorem ag22 : z3h Tryz.prog 22 = some false := by kernel_rfl
theorem by22 : ((Tryz.prog.info? 22).map (·.bytes)) = some 16 := by kernel_rfl
theorem un22 : Tryz.prog.underlying 22 = some Go.TypeDesc.string := by kernel_rfl
theorem el23 : z80 Tryz.prog 23 = some 22 := by kernel_rfl
theorem sz44 : szT Tryz.prog 44 = some 1 := by kernel_rfl
theorem ze44 : (Tryz.prog.info? 44).bind (·.zero) = some (Go.Value.slice none 0 0) := by kernel_rfl
theorem ag44 : z3h Tryz.prog 44 = some false := by kernel_rfl
theorem ni44 : z7z Tryz.prog 44 = true := by kernel_rfl
theorem el44 : z80 Tryz.prog 44 = some 45 := by kernel_rfl
theorem sz45 : szT Tryz.prog 45 = some 1 := by kernel_rfl
theorem ze45 : (Tryz.prog.info? 45).bind (·.zero) = some (Go.Value.slice none 0 0) := by kernel_rfl
theorem ag45 : z3h Tryz.prog 45 = some false := by kernel_rfl
theorem by45 : ((Tryz.prog.info? 45).map (·.bytes)) = some 24 := by kernel_rfl
theorem ni45 : z7z Tryz.prog 45 = true := by kernel_rfl
theorem el45 : z80 Tryz.prog 45 = some 22 := by kernel_rfl
theorem sz94 : szT Tryz.prog 94 = some 1 := by kernel_rfl
theorem ag94 : z3h Tryz.prog 94 = some false := by kernel_rfl
theorem ni94 : z7z Tryz.prog 94 = true := by kernel_rfl
theorem el94 : z80 Tryz.prog 94 = some 181 := by kernel_rfl
theorem sz96 : szT Tryz.prog 96 = some 3 := by kernel_rfl
theorem ze96 : (Tryz.prog.info? 96).bind (·.zero) = some (Go.Value.agg #[Go.Value.bool false, Go.Value.slice none 0 0, Go.Value.slice none 0 0]) := by kernel_rfl
theorem ag96 : z3h Tryz.prog 96 = some true := by kernel_rfl
theorem by96 : ((Tryz.prog.info? 96).map (·.bytes)) = some 56 := by kernel_rfl
theorem zo96 : zg9 Tryz.prog 96 = true := by kernel_rfl
theorem pl96 : plcT Tryz.prog 96 = some [(0, 1), (1, 1), (2, 1)] := by kernel_rfl
theorem za7 : fldT Tryz.prog 96 0 = some 0 := by kernel_rfl
theorem z83 : fldT Tryz.prog 96 1 = some 1 := by kernel_rfl
theorem zjm : fldT Tryz.prog 96 2 = some 2 := by kernel_rfl
theorem zqa : z7z Tryz.prog 108 = true := by kernel_rfl
theorem zb8 : z80 Tryz.prog 108 = some 111 := by kernel_rfl
theorem zci : szT Tryz.prog 111 = some 1 := by kernel_rfl
theorem zq1 : (Tryz.prog.info? 111).bind (·.zero) = some (Go.Value.slice none 0 0) := by kernel_rfl
theorem zg2 : z3h Tryz.prog 111 = some false := by kernel_rfl
theorem zqb : ((Tryz.prog.info? 111).map (·.bytes)) = some 24 := by kernel_rfl
theorem zqc : z7z Tryz.prog 111 = true := by kernel_rfl
theorem zg3 : z80 Tryz.prog 111 = some 96 := by kernel_rfl
theorem zp9 : z80 Tryz.prog 116 = some 44 := by kernel_rfl
theorem zqd : z3h Tryz.prog 123 = some false := by kernel_rfl
theorem zn3 : z7z Tryz.prog 123 = true := by kernel_rfl
theorem z78 : z80 Tryz.prog 123 = some 3 := by kernel_rfl
theorem zjn : z80 Tryz.prog 180 = some 5 := by kernel_rfl
theorem z3y : szT Tryz.prog 181 = some 1 := by kernel_rfl
theorem zb9 : (Tryz.prog.info? 181).bind (·.zero) = some (Go.Value.int Go.IntKind.u32 0) := by kernel_rfl
theorem z98 : z3h Tryz.prog 181 = some false := by kernel_rfl
theorem zhc : ((Tryz.prog.info? 181).map (·.bytes)) = some 4 := by kernel_rfl
theorem z8v : intT Tryz.prog 181 = some Go.IntKind.u32 := by kernel_rfl
theorem zar : intT Tryz.prog 184 = some Go.IntKind.u64 := by kernel_rfl
theorem mixed : Tryz.prog.follows .mixedOrders = true := by kernel_rfl
end Go.Am.Tryz
/- Rows that are laid one behind the other: a list of lists that grows by append, each row with its block. -/
namespace Go.Am
open Go
noncomputable section
def hdT : Value -> Value
 | .tuple ⟨v :: _⟩ => v
 | v => v
def tlT : Value -> List Value
 | .tuple ⟨_ :: ws⟩ => ws
 | _ => []
section
variable {G : GM} {H H1 : AH} {L : List Pc} {j : Nat} {a b e0 : Pc}
theorem Ow.part (O : Ow G H L) (hj : L[j]? = some e0) (a b : Pc) (ha : ∀ x ∈ a.foot, x ∈ e0.foot) (hb : ∀ x ∈ b.foot, x ∈ e0.foot) (hab : ∀ x ∈ a.foot, x ∉ b.foot) (oka : a.ok G H.get) (okb : b.ok G H.get) : Ow G H (a :: L.set j b) := by
 have hjl : j < L.length := (zAi hj).1
 have hset : ∀ (i : Nat) (x : Pc), (L.set j b)[i]? = some x -> (i = j /\ x = b) \/ (i ≠ j /\ L[i]? = some x) := fun i x hx => by
  rw [List.getElem?_set] at hx
  by_cases hij : j = i
  ·subst hij; simp [hjl] at hx; exact .inl ⟨rfl, hx.symm⟩
  ·rw [if_neg hij] at hx; exact .inr ⟨fun e => hij e.symm, hx⟩
 have hd : ∀ (i : Nat) (x : Pc), i ≠ j -> L[i]? = some x -> ∀ c ∈ e0.foot, c ∉ x.foot := fun i x hi hx => O.dis j i e0 x (fun e => hi e.symm) hj hx
 refine ⟨O.fro, fun i x hx => ?_, fun i i' x x' hii hx hx' c hc => ?_, fun i x hx c hc => ?_⟩
 ·cases i with
  | zero => simp at hx; subst hx; exact oka
  | succ i =>
   rcases hset i x (by simpa using hx) with ⟨rfl, rfl⟩ | ⟨_, h⟩
   ·exact okb
   ·exact O.ok i x h
 ·cases i with
  | zero =>
   simp at hx; subst hx
   cases i' with
   | zero => exact absurd rfl hii
   | succ i' =>
    rcases hset i' x' (by simpa using hx') with ⟨rfl, rfl⟩ | ⟨h1, h2⟩
    ·exact hab c hc
    ·exact hd i' x' h1 h2 c (ha c hc)
  | succ i =>
   rcases hset i x (by simpa using hx) with ⟨rfl, rfl⟩ | ⟨h1, h2⟩
   ·cases i' with
    | zero => simp at hx'; subst hx'; exact fun h => hab c h hc
    | succ i' =>
     rcases hset i' x' (by simpa using hx') with ⟨rfl, rfl⟩ | ⟨h3, h4⟩
     ·exact absurd rfl hii
     ·exact hd i' x' h3 h4 c (hb c hc)
   ·cases i' with
    | zero => simp at hx'; subst hx'; exact fun h => hd i x h1 h2 c (ha c h) hc
    | succ i' =>
     rcases hset i' x' (by simpa using hx') with ⟨rfl, rfl⟩ | ⟨h3, h4⟩
     ·exact fun h => hd i x h1 h2 c (hb c h) hc
     ·exact O.dis i i' x x' (by omega) h2 h4 c hc
 ·cases i with
  | zero => simp at hx; subst hx; exact O.apart j e0 hj c (ha c hc)
  | succ i =>
   rcases hset i x (by simpa using hx) with ⟨rfl, rfl⟩ | ⟨h1, h2⟩
   ·exact O.apart i e0 hj c (hb c hc)
   ·exact O.apart i x h2 c hc
theorem Ow.fuse (O : Ow G H (a :: L)) (hj : L[j]? = some b) (c : Pc) (hc : ∀ x ∈ c.foot, x ∈ a.foot \/ x ∈ b.foot) (okc : c.ok G H.get) : Ow G H (L.set j c) := by
 have hjl : j < L.length := (zAi hj).1
 have hset : ∀ (i : Nat) (x : Pc), (L.set j c)[i]? = some x -> (i = j /\ x = c) \/ (i ≠ j /\ L[i]? = some x) := fun i x hx => by
  rw [List.getElem?_set] at hx
  by_cases hij : j = i
  ·subst hij; simp [hjl] at hx; exact .inl ⟨rfl, hx.symm⟩
  ·rw [if_neg hij] at hx; exact .inr ⟨fun e => hij e.symm, hx⟩
 have hd : ∀ (i : Nat) (x : Pc), i ≠ j -> L[i]? = some x -> ∀ y ∈ c.foot, y ∉ x.foot := fun i x hi hx y hy => by
  rcases hc y hy with h | h
  ·exact O.dis 0 (i + 1) a x (by omega) rfl (by simpa using hx) y h
  ·exact O.dis (j + 1) (i + 1) b x (by omega) (by simpa using hj) (by simpa using hx) y h
 refine ⟨O.fro, fun i x hx => ?_, fun i i' x x' hii hx hx' y hy => ?_, fun i x hx y hy => ?_⟩
 ·rcases hset i x hx with ⟨rfl, rfl⟩ | ⟨_, h⟩
  ·exact okc
  ·exact O.ok (i + 1) x (by simpa using h)
 ·rcases hset i x hx with ⟨rfl, rfl⟩ | ⟨h1, h2⟩
  ·rcases hset i' x' hx' with ⟨rfl, rfl⟩ | ⟨h3, h4⟩
   ·exact absurd rfl hii
   ·exact hd i' x' h3 h4 y hy
  ·rcases hset i' x' hx' with ⟨rfl, rfl⟩ | ⟨h3, h4⟩
   ·exact fun h => hd i x h1 h2 y h hy
   ·exact O.dis (i + 1) (i' + 1) x x' (by omega) (by simpa using h2) (by simpa using h4) y hy
 ·rcases hset i x hx with ⟨rfl, rfl⟩ | ⟨_, h⟩
  ·rcases hc y hy with h | h
   ·exact O.apart 0 a rfl y h
   ·exact O.apart (i + 1) b (by simpa using hj) y h
  ·exact O.apart (i + 1) x (by simpa using h) y hy
end
structure SetOk {α : Type} (ws : List Value) (e2 : TypeId) (r : RT α) (xss : List (List α)) (G M : GM) : Prop where
 len : ws.length = xss.length
 row : ∀ (i : Nat) (w : Value), ws[i]? = some w -> ∃ es xs, xss[i]? = some xs /\ SlO e2 r.sz M w es /\ All2 (r.rep G) es xs
 dis : ∀ (i j : Nat) (w u : Value), i ≠ j -> ws[i]? = some w -> ws[j]? = some u -> ∀ b ∈ z4j w, b ∉ z4j u
def eSet {α : Type} (ws : List Value) (e2 : TypeId) (r : RT α) (xss : List (List α)) : Pc :=
 ⟨zem ws [], SetOk ws e2 r xss,
  fun hG h => ⟨h.len, fun i w hw => by obtain ⟨es, xs, h1, h2, h3⟩ := h.row i w hw; exact ⟨es, xs, h1, h2, h3.mono fun _ _ => r.mono hG⟩, h.dis⟩,
  fun hl h => ⟨h.len, fun i w hw => by
   obtain ⟨es, xs, h1, h2, h3⟩ := h.row i w hw
   exact ⟨es, xs, h1, h2.loc fun b hb => hl b (mem_rowFoot.2 ⟨i, w, by simp, hw, hb⟩), h3⟩, h.dis⟩,
  fun h b hb => by
   obtain ⟨i, w, hi, hw, hb⟩ := mem_rowFoot.1 hb
   obtain ⟨es, xs, h1, h2, h3⟩ := h.row i w hw
   exact h2.bnd b hb⟩
section
variable {P : Program} {n : Nat} {σ : Nat -> Value} {H H1 : AH} {d : Tmp} {dd : Option Tmp} {ty t xt e e2 : TypeId} {pos : String} {af : Array Edge} {g : Option (Nat × Bool)} {v u w w' : Value} {x y : Operand}
 {G : GM} {L : List Pc} {j i : Nat} {α : Type} {r : RT α} {ws : List Value} {xs : List α} {xss : List (List α)}
theorem zq2 : ∀ {ws : List Value}, (∀ w ∈ ws, okCells [w] = true) -> All2 (rV.rep G) (ws.map fun w => [w]) ws
 | [], _ => .nil
 | w :: ws, h => .cons ⟨rfl, h w (by simp)⟩ (zq2 fun u hu => h u (by simp [hu]))
theorem zeo : ∀ {es : List (List Value)} {ws : List Value}, All2 (rV.rep G) es ws -> es = ws.map (fun w => [w]) /\ ∀ w ∈ ws, okCells [w] = true
 | _, _, .nil => ⟨rfl, by simp⟩
 | _, _, .cons h1 h2 => by
  obtain ⟨k1, k2⟩ := zeo h2
  refine ⟨by rw [h1.1, k1]; rfl, fun w hw => ?_⟩
  rcases List.mem_cons.1 hw with rfl | hw
  ·exact h1.2
  ·exact k2 w hw
theorem Ow.splitRows (O : Ow G H L) (hj : L[j]? = some (z27 v e ws [] e2 r xss)) : Ow G H (eSet ws e2 r xss :: L.set j (eSl v e rV ws)) := by
 have h := O.rowsOk hj
 refine O.part hj _ _ (fun x hx => List.mem_append_right _ hx) (fun x hx => List.mem_append_left _ hx) (fun x hx hc => ?_) ⟨h.len, fun i w hw => h.row i w (by simp) hw, fun i j w u hij hw hu => h.dis i j w u hij (by simp) (by simp) hw hu⟩ ⟨_, h.out, zq2 h.one⟩
 obtain ⟨i, w, _, hw, hx⟩ := mem_rowFoot.1 hx
 exact h.off i w (by simp) hw x hx hc
theorem Ow.joinRows (O : Ow G H (eSet ws e2 r xss :: L)) (hj : L[j]? = some (eSl v e rV ws)) : Ow G H (L.set j (z27 v e ws [] e2 r xss)) := by
 have h : SetOk ws e2 r xss G H.get := O.ok 0 _ rfl
 obtain ⟨es, h1, h2⟩ := O.ok (j + 1) _ (by simpa using hj)
 obtain ⟨rfl, h3⟩ := zeo h2
 refine O.fuse hj _ (fun x hx => (List.mem_append.1 hx).symm) ⟨h1, h3, h.len, fun i w _ hw => h.row i w hw, fun i j w u hij _ _ hw hu => h.dis i j w u hij hw hu, fun i w _ hw b hb hc => ?_⟩
 exact O.dis 0 (j + 1) _ _ (by omega) rfl (by simpa using hj) b (mem_rowFoot.2 ⟨i, w, by simp, hw, hb⟩) hc
theorem Ow.moreRow (O : Ow G H (eSl w e2 r xs :: L)) (hj : L[j]? = some (eSet ws e2 r xss)) : Ow G H (L.set j (eSet (ws ++ [w]) e2 r (xss ++ [xs]))) := by
 have hj1 : (eSl w e2 r xs :: L)[j + 1]? = some (eSet ws e2 r xss) := by simpa using hj
 have h : SetOk ws e2 r xss G H.get := O.ok (j + 1) _ hj1
 obtain ⟨es, h1, h2⟩ := O.ok 0 _ rfl
 have hin : ∀ i u, (ws ++ [w])[i]? = some u -> (ws[i]? = some u) \/ (i = ws.length /\ u = w) := fun i u hu => by
  rw [List.getElem?_append] at hu
  split at hu
  ·exact .inl hu
  ·rename_i hi
   have : i - ws.length = 0 := by
    rcases Nat.eq_zero_or_pos (i - ws.length) with h | h
    ·exact h
    ·rw [List.getElem?_eq_none (by simp; omega)] at hu; cases hu
   rw [this] at hu
   simp at hu
   exact .inr ⟨by omega, hu.symm⟩
 refine O.fuse hj _ (fun x hx => ?_) ⟨by simp [h.len], fun i u hu => ?_, fun i k u u' hik hu hu' b hb hc => ?_⟩
 ·obtain ⟨i, u, _, hu, hx2⟩ := mem_rowFoot.1 hx
  rcases hin i u hu with h | ⟨rfl, rfl⟩
  ·exact .inr (mem_rowFoot.2 ⟨i, u, by simp, h, hx2⟩)
  ·exact .inl hx2
 ·rcases hin i u hu with h3 | ⟨rfl, rfl⟩
  ·obtain ⟨es', xs', k1, k2⟩ := h.row i u h3
   exact ⟨es', xs', by rw [List.getElem?_append_left (zAi k1).1]; exact k1, k2⟩
  ·exact ⟨es, xs, by rw [h.len]; simp, h1, h2⟩
 ·rcases hin i u hu with h3 | ⟨rfl, rfl⟩
  ·rcases hin k u' hu' with h4 | ⟨rfl, rfl⟩
   ·exact h.dis i k u u' hik h3 h4 b hb hc
   ·exact O.dis 0 (j + 1) _ _ (by omega) rfl hj1 b hc (mem_rowFoot.2 ⟨i, u, by simp, h3, hb⟩)
  ·rcases hin k u' hu' with h4 | ⟨rfl, rfl⟩
   ·exact O.dis 0 (j + 1) _ _ (by omega) rfl hj1 b hb (mem_rowFoot.2 ⟨k, u', by simp, h4, hc⟩)
   ·exact hik rfl
theorem Ow.nilRows (O : Ow G H L) (e e2 : TypeId) (r : RT α) : Ow G H (z27 (.slice none 0 0) e [] [] e2 r [] :: L) := by
 have h := O.nilSl e rV
 have h1 : Ow G H (eSet [] e2 r [] :: eSl (.slice none 0 0) e rV [] :: L) := by
  refine ⟨h.fro, fun i x hx => ?_, fun i i' x x' hii hx hx' b hb hc => ?_, fun i x hx b hb => ?_⟩
  ·cases i with
   | zero => simp at hx; subst hx; exact ⟨rfl, fun i w hw => by simp at hw, fun i j w u _ hw => by simp at hw⟩
   | succ i => exact h.ok i x (by simpa using hx)
  ·cases i with
   | zero => simp at hx; subst hx; obtain ⟨_, _, _, hw, _⟩ := mem_rowFoot.1 hb; simp at hw
   | succ i =>
    cases i' with
    | zero => simp at hx'; subst hx'; obtain ⟨_, _, _, hw, _⟩ := mem_rowFoot.1 hc; simp at hw
    | succ i' => exact h.dis i i' x x' (by omega) (by simpa using hx) (by simpa using hx') b hb hc
  ·cases i with
   | zero => simp at hx; subst hx; obtain ⟨_, _, _, hw, _⟩ := mem_rowFoot.1 hb; simp at hw
   | succ i => exact h.apart i x (by simpa using hx) b hb
 exact h1.joinRows (j := 0) rfl
theorem Lo.appRow {c1 : Nat} {z : Value} {es2 : List (List Value)} (hj : L[j]? = some (z27 v e ws [] e2 r xss)) (hd : (ook n x && ook n y) = true) (he : z80 P t = some e) (hxt : z7z P xt = true) (hz : (P.info? e).bind (·.zero) = some z) (hsz : szT P e = some 1) (hby : ((P.info? e).map (·.bytes)) = some c1)
  (hzs : (decide (z.cells.size = 1) && decide (0 < 1)) = true) (hc1 : c1 <= 1048576) (hx : oval σ x = v) (hw : SlG H.get 1 (oval σ y) es2) (hr : All2 (rV.rep G) es2 [w]) (hlen : xss.length + 1 <= 16777216) (O : Ow G H (eSl w e2 r xs :: L)) :
  Loud P n ⟨some d, .call ⟨.builtin .append, #[x, y], #[t, xt]⟩, ty, pos, af, g⟩ σ H fun v' H1 => Ow G H1 (L.set j (z27 v' e (ws ++ [w]) [] e2 r (xss ++ [xs]))) /\ (∀ b, (H.get b).isSome = true -> b ∉ z4j v -> H1.get b = H.get b) := by
 have hjl : j < L.length := (zAi hj).1
 have hlw : ws.length = xss.length := (O.rowsOk (j := j + 1) (by simpa using hj)).len
 have o1 : Ow G H (eSet ws e2 r xss :: eSl w e2 r xs :: L.set j (eSl v e rV ws)) := by simpa using O.splitRows (j := j + 1) (by simpa using hj)
 have o2 : Ow G H (eSl w e2 r xs :: eSet ws e2 r xss :: L.set j (eSl v e rV ws)) := by simpa using o1.front (j := 1) rfl
 have o3 : Ow G H (eSet (ws ++ [w]) e2 r (xss ++ [xs]) :: L.set j (eSl v e rV ws)) := by simpa using o2.moreRow (j := 0) rfl
 have hj3 : (eSet (ws ++ [w]) e2 r (xss ++ [xs]) :: L.set j (eSl v e rV ws))[j + 1]? = some (eSl v e rV ws) := by simp [hjl]
 obtain ⟨v', H1, h1, h2, h3⟩ := Lo.append (d := d) (ty := ty) (pos := pos) (af := af) (g := g) (ys := [w]) hj3 hd he hxt hz hsz hby hzs hc1 hx hw hr (by simp; omega) o3
 refine ⟨v', H1, h1, ?_, h3⟩
 have o4 : Ow G H1 (eSet (ws ++ [w]) e2 r (xss ++ [xs]) :: L.set j (eSl v' e rV (ws ++ [w]))) := by simpa using h2
 have := o4.joinRows (j := j) (v := v') (e := e) (by simp [hjl])
 simpa using this
end
end
end Go.Am
/- Plain lemmas for typed functions: loops over lists, texts, whole numbers. -/
namespace Go.Am
open Go
theorem kw {a : Int} (h1 : -9223372036854775808 <= a) (h2 : a <= 9223372036854775807) : z02 .i64 a = a := z6o (z8f h1 h2)
theorem kw1 {i n : Nat} (h : i < n) (hn : n <= 4611686018427387904) : z02 .i64 ((i : Int) + 1) = ((i + 1 : Nat) : Int) := by rw [kw (by omega) (by omega)]; omega
theorem z4q {α : Type} {xs : List α} {i : Nat} {x : α} (h : xs[i]? = some x) : idx xs (i : Int) = some x := by
 unfold idx
 rw [if_neg (by omega)]
 simpa using h
theorem zjo {i n : Nat} (h : i < n) : decide ((i : Int) < (n : Int)) = true := by simp; omega
theorem zep {i n : Nat} (h : n <= i) : decide ((i : Int) < (n : Int)) = false := by simp; omega
@[simp] theorem Sum.elim_ite {α β γ : Type} (f : α -> γ) (g : β -> γ) (c : Prop) [Decidable c] (x y : α ⊕ β) : Sum.elim f g (if c then x else y) = if c then Sum.elim f g x else Sum.elim f g y := by split <;> rfl
def runS {α S E : Type} (chk : α -> S -> E ⊕ S) : List α -> S -> E ⊕ S
 | [], s => .inr s
 | x :: xs, s => Sum.elim .inl (runS chk xs) (chk x s)
theorem zls {α S E : Type} (xs : List α) (l : Nat -> S -> Int -> Option (E ⊕ S)) (chk : α -> S -> E ⊕ S) (I : S -> Nat -> Prop)
  (h : ∀ k s (i : Nat) x, xs[i]? = some x -> I s i -> l (k + 1) s i = Sum.elim (fun e => some (.inl e)) (fun s' => l k s' ((i + 1 : Nat) : Int)) (chk x s))
  (hI : ∀ s (i : Nat) x s', xs[i]? = some x -> I s i -> chk x s = .inr s' -> I s' (i + 1))
  (h0 : ∀ k s (i : Nat), xs.length <= i -> l (k + 1) s i = some (.inr s)) : ∀ d k s (i : Nat), xs.length - i = d -> d < k -> I s i -> l k s i = some (runS chk (xs.drop i) s) := by
 intro d
 induction d with
 | zero =>
  intro k s i hd hk _
  obtain ⟨k, rfl⟩ : ∃ m, k = m + 1 := ⟨k - 1, by omega⟩
  rw [h0 k s i (by omega), List.drop_eq_nil_of_le (by omega)]; rfl
 | succ d ih =>
  intro k s i hd hk hi
  obtain ⟨k, rfl⟩ : ∃ m, k = m + 1 := ⟨k - 1, by omega⟩
  have hl : i < xs.length := by omega
  have hx : xs[i]? = some xs[i] := zAh hl
  rw [h k s i _ hx hi, List.drop_eq_getElem_cons hl, runS]
  cases hc : chk xs[i] s with
  | inl e => rfl
  | inr s' => exact ih k s' (i + 1) (by omega) (by omega) (hI s i _ s' hx hi hc)
theorem zeq {α S E : Type} (xs : List α) (l : Nat -> S -> Int -> Option (E ⊕ S)) (chk : α -> S -> E ⊕ S) (I : S -> Nat -> Prop)
  (h : ∀ k s (i : Nat) x, xs[i]? = some x -> I s i -> l (k + 1) s i = Sum.elim (fun e => some (.inl e)) (fun s' => l k s' ((i + 1 : Nat) : Int)) (chk x s))
  (hI : ∀ s (i : Nat) x s', xs[i]? = some x -> I s i -> chk x s = .inr s' -> I s' (i + 1))
  (h0 : ∀ k s (i : Nat), xs.length <= i -> l (k + 1) s i = some (.inr s)) (k : Nat) (s : S) (hk : xs.length < k) (hi : I s 0) : l k s 0 = some (runS chk xs s) := by
 have := zls xs l chk I h hI h0 xs.length k s 0 (by omega) hk hi
 simpa using this
theorem sEq_iff {a b : zAd} : sEq a b = true ↔ a = b := by
 unfold sEq
 rw [beq_iff_eq, ByteArray.toList_eq, ByteArray.toList_eq]
 constructor
 ·intro h
  cases a; cases b
  simp at h
  rw [h]
 ·rintro rfl; rfl
theorem z00 (a : zAd) : (z03 a).length = a.size := by unfold z03; rw [List.length_map, Array.length_toList]; rfl
theorem z99 (a : zAd) (i : Int) : bidx a i = idx (z03 a) i := by
 unfold bidx idx
 by_cases h : 0 <= i
 ·rw [if_pos h, if_neg (by omega)]
  unfold z03
  rw [List.getElem?_map, Array.getElem?_toList]
  rfl
 ·rw [if_neg h, if_pos (by omega)]
end Go.Am
/- Returns of printed walks: what a function's end asks, once for all returns. -/
namespace Go.Am
open Go
noncomputable section
def RK (P : Program) (fn : Func) (n : Nat) (G : GM) (L : List Pc) (Φ : Value -> GM -> AH -> Prop) (R : Value -> AH -> Prop) : Prop := ∀ v H' G', Ow G' H' L -> G.le G' -> Φ v G' H' -> R v H'
def RKF (P : Program) (fn : Func) (n : Nat) (G : GM) (LF : Value -> List Pc) (Φ : Value -> Value -> GM -> Prop) (R : Value -> AH -> Prop) : Prop := ∀ w v H' G', Ow G' H' (LF w) -> G.le G' -> Φ w v G' -> R v H'
section
variable {P : Program} {n : Nat} {σ : Nat -> Value} {H : AH} {fn : Func} {G G' : GM} {L : List Pc} {R : Value -> AH -> Prop} {f : FuncId} {c : Code} {args : List Value} {r1 r2 r3 r4 r5 : ResultVar} {v1 v2 v3 v4 v5 : Value}
 {Φ : Value -> GM -> AH -> Prop} {LF : Value -> List Pc} {Ψ : Value -> Value -> GM -> Prop}
theorem CR.og (hf : P.funcs[f]? = some fn) (hb : fn.body = some c) (hn : max fn.ntmps args.length = n) (h : ∀ R, RK P fn n G L Φ R -> AW P n c (fun t => args.getD t undef) H (retQ P fn n R)) : CR P f args G H L Φ :=
 CR.of (zb7 (R := fun v H' => ∃ G', Ow G' H' L /\ G.le G' /\ Φ v G' H') hf hb hn (h _ fun v H' G' a b c => ⟨G', a, b, c⟩))
theorem CRF.og (hf : P.funcs[f]? = some fn) (hb : fn.body = some c) (hn : max fn.ntmps args.length = n) (h : ∀ R, RKF P fn n G LF Ψ R -> AW P n c (fun t => args.getD t undef) H (retQ P fn n R)) : CRF P f args G H LF Ψ :=
 CRF.of (zb7 (R := fun v H' => ∃ w G', Ow G' H' (LF w) /\ G.le G' /\ Ψ w v G') hf hb hn (h _ fun w v H' G' a b c => ⟨w, G', a, b, c⟩))
theorem zmn (k : RK P fn n G L Φ R) (hr : fn.results.toList = []) (O : Ow G' H L) (s : G.le G') (h : Φ (.tuple #[]) G' H) : retQ P fn n R .ret σ H := zpz hr (k _ _ _ O s h)
theorem zpa (k : RKF P fn n G LF Ψ R) (w : Value) (hr : fn.results.toList = []) (O : Ow G' H (LF w)) (s : G.le G') (h : Ψ w (.tuple #[]) G') : retQ P fn n R .ret σ H := zpz hr (k w _ _ _ O s h)
theorem z1q (k : RK P fn n G L Φ R) (hr : fn.results.toList = [r1]) (h1 : RR P n σ H r1 v1) (O : Ow G' H L) (s : G.le G') (h : Φ v1 G' H) : retQ P fn n R .ret σ H := zq0 hr h1 (k _ _ _ O s h)
theorem ziw (k : RK P fn n G L Φ R) (hr : fn.results.toList = [r1, r2]) (h1 : RR P n σ H r1 v1) (h2 : RR P n σ H r2 v2) (O : Ow G' H L) (s : G.le G') (h : Φ (.tuple #[v1, v2]) G' H) : retQ P fn n R .ret σ H := zq8 hr h1 h2 (k _ _ _ O s h)
theorem zn4 (k : RK P fn n G L Φ R) (hr : fn.results.toList = [r1, r2, r3]) (h1 : RR P n σ H r1 v1) (h2 : RR P n σ H r2 v2) (h3 : RR P n σ H r3 v3) (O : Ow G' H L) (s : G.le G') (h : Φ (.tuple #[v1, v2, v3]) G' H) : retQ P fn n R .ret σ H := zq9 hr h1 h2 h3 (k _ _ _ O s h)
theorem zat (k : RKF P fn n G LF Ψ R) (w : Value) (hr : fn.results.toList = [r1]) (h1 : RR P n σ H r1 v1) (O : Ow G' H (LF w)) (s : G.le G') (h : Ψ w v1 G') : retQ P fn n R .ret σ H := zq0 hr h1 (k w _ _ _ O s h)
end
end
end Go.Am
/- Rows that change their places. -/
namespace Go.Am
open Go
noncomputable section
section
variable {α : Type} {r : RT α} {G : GM} {H H1 : AH} {L : List Pc} {v w w' u : Value} {e e2 : TypeId} {ws : List Value} {hs : List Nat} {xss : List (List α)} {xs : List α} {i j k : Nat}
theorem Ow.putRowG (hih : i ∉ hs) (O : Ow G H (eSl w e2 r xs :: L)) (hj : L[j]? = some (z27 v e ws (i :: hs) e2 r xss)) (hw : ws[i]? = some w) : Ow G H (L.set j (z27 v e ws hs e2 r (xss.set i xs))) := by
 have hj1 : (eSl w e2 r xs :: L)[j + 1]? = some (z27 v e ws (i :: hs) e2 r xss) := by simpa using hj
 have h : RowsOk v e ws (i :: hs) e2 r xss G H.get := O.ok (j + 1) _ hj1
 have hjl : j < L.length := (zAi hj).1
 obtain ⟨es, h4, h5⟩ := O.ok 0 _ rfl
 have hil : i < xss.length := by rw [<- h.len]; exact (zAi hw).1
 have hdw : ∀ b ∈ z4j w, b ∉ (z27 v e ws (i :: hs) e2 r xss).foot := O.dis 0 (j + 1) _ _ (by omega) rfl hj1
 have hfoot : ∀ b, b ∈ (z27 v e ws hs e2 r (xss.set i xs)).foot -> b ∈ (z27 v e ws (i :: hs) e2 r xss).foot \/ b ∈ z4j w := fun b hb => by
  rcases List.mem_append.1 hb with hb | hb
  ·exact .inl (List.mem_append_left _ hb)
  ·obtain ⟨m, u, hm, hu, hb⟩ := mem_rowFoot.1 hb
   by_cases hmi : m = i
   ·subst hmi; rw [hw] at hu; cases hu; exact .inr hb
   ·exact .inl (List.mem_append_right _ (mem_rowFoot.2 ⟨m, u, by simp [hmi, hm], hu, hb⟩))
 have hset : ∀ (m : Nat) (x : Pc), (L.set j (z27 v e ws hs e2 r (xss.set i xs)))[m]? = some x -> (m = j /\ x = z27 v e ws hs e2 r (xss.set i xs)) \/ (m ≠ j /\ L[m]? = some x) := fun m x hx => by
  rw [List.getElem?_set] at hx
  by_cases hm : j = m
  ·subst hm; simp [hjl] at hx; exact .inl ⟨rfl, hx.symm⟩
  ·rw [if_neg hm] at hx; exact .inr ⟨fun e => hm e.symm, hx⟩
 have hother : ∀ m x, m ≠ j -> L[m]? = some x -> ∀ b ∈ x.foot, b ∉ (z27 v e ws (i :: hs) e2 r xss).foot /\ b ∉ z4j w := fun m x hm hx b hb =>
  ⟨O.dis (m + 1) (j + 1) x _ (by omega) (by simpa using hx) hj1 b hb, fun hc => O.dis 0 (m + 1) _ x (by omega) rfl (by simpa using hx) b hc hb⟩
 refine ⟨O.fro, fun m x hx => ?_, fun m m' x x' hmm hx hx' b hb hc => ?_, fun m x hx b hb => ?_⟩
 ·rcases hset m x hx with ⟨rfl, rfl⟩ | ⟨_, hx⟩
  ·refine ⟨h.out, h.one, by simpa using h.len, fun m u hm hu => ?_, fun a c w1 u1 hac hah hch hw1 hu1 b hb hc => ?_, fun m u hm hu b hb hc => ?_⟩
   ·by_cases hmi : m = i
    ·subst hmi; rw [hw] at hu; cases hu
     exact ⟨es, xs, by simp [hil], h4, h5⟩
    ·obtain ⟨es', xs', k1, k2⟩ := h.row m u (by simp [hmi, hm]) hu
     exact ⟨es', xs', by rw [List.getElem?_set, if_neg (fun e => hmi e.symm)]; exact k1, k2⟩
   ·by_cases ha : a = i
    ·subst ha; rw [hw] at hw1; cases hw1
     exact hdw b hb (List.mem_append_right _ (mem_rowFoot.2 ⟨c, u1, by simp only [List.mem_cons, not_or]; exact ⟨fun e => hac e.symm, hch⟩, hu1, hc⟩))
    ·by_cases hci : c = i
     ·subst hci; rw [hw] at hu1; cases hu1
      exact hdw b hc (List.mem_append_right _ (mem_rowFoot.2 ⟨a, w1, by simp [ha, hah], hw1, hb⟩))
     ·exact h.dis a c w1 u1 hac (by simp [ha, hah]) (by simp [hci, hch]) hw1 hu1 b hb hc
   ·by_cases hmi : m = i
    ·subst hmi; rw [hw] at hu; cases hu
     exact hdw b hb (List.mem_append_left _ hc)
    ·exact h.off m u (by simp [hmi, hm]) hu b hb hc
  ·exact O.ok (m + 1) x (by simpa using hx)
 ·rcases hset m x hx with ⟨rfl, rfl⟩ | ⟨hm, hx2⟩
  ·rcases hset m' x' hx' with ⟨rfl, rfl⟩ | ⟨hm', hx'⟩
   ·exact absurd rfl hmm
   ·obtain ⟨k1, k2⟩ := hother m' x' hm' hx' b hc
    rcases hfoot b hb with h | h
    ·exact k1 h
    ·exact k2 h
  ·rcases hset m' x' hx' with ⟨rfl, rfl⟩ | ⟨hm', hx3⟩
   ·obtain ⟨k1, k2⟩ := hother m x hm hx2 b hb
    rcases hfoot b hc with h | h
    ·exact k1 h
    ·exact k2 h
   ·exact O.dis (m + 1) (m' + 1) x x' (by omega) (by simpa using hx2) (by simpa using hx3) b hb hc
 ·rcases hset m x hx with ⟨rfl, rfl⟩ | ⟨_, hx⟩
  ·rcases hfoot b hb with h | h
   ·exact O.apart _ _ hj1 b h
   ·exact O.apart 0 _ rfl b h
  ·exact O.apart (m + 1) x (by simpa using hx) b hb
end
section
variable {P : Program} {n : Nat} {σ : Nat -> Value} {H H1 : AH} {d : Tmp} {dd : Option Tmp} {ty t e e2 : TypeId} {pos : String} {af : Array Edge} {g : Option (Nat × Bool)} {v u w w' : Value} {x y : Operand}
 {G : GM} {L : List Pc} {j i : Nat} {α : Type} {r : RT α} {ws : List Value} {xss : List (List α)} {hs : List Nat} {xs : List α}
theorem Lo.storeRowG (him : i ∈ hs) (hj : L[j]? = some (z27 v e ws hs e2 r xss)) (hi : i < xss.length) (hd : (ook n x && ook n y) = true) (hz : szT P t = some 1) (hx : oval σ x = z1m v (i * 1)) (hy : oval σ y = w') (hok : okCells [w'] = true) (hc : w'.cells.toList = [w']) (O : Ow G H L) :
  Loud P n ⟨dd, .store t x y, ty, pos, af, g⟩ σ H fun u H1 => Ow G H1 (L.set j (z27 v e (ws.set i w') hs e2 r xss)) /\ (∀ b', b' ∉ z4j v -> H1.get b' = H.get b') := by
 have h := O.rowsOk hj
 have hil : i < ws.length := by rw [h.len]; exact hi
 have hout := h.out
 rcases hout with ⟨rfl, hn⟩ | ⟨b, tg, cap, rest, sz', rfl, hb, hl, hcap, htg⟩
 ·simp at hn; subst hn; simp at hil
 ·have hfl : (ws.map fun w => [w]).flatten.length = ws.length := by rw [z3f (sz := 1) (by simp)]; simp
  have hsz : w'.cells.size = 1 := by have := congrArg List.length hc; simpa using this
  obtain ⟨H1, h3, h4⟩ := z75 (P := P) (dd := dd) (ty := ty) (pos := pos) (af := af) (g := g) (off := 0 + i * 1) hd hz hx hy hb rfl hsz (by rw [hc]; exact hok) (by show _ <= ((ws.map fun w => [w]).flatten ++ rest).length; rw [List.length_append, hfl]; omega)
  have hrows : ∀ (m : Nat) (u : Value), m ≠ i -> ((ws.set i w')[m]? = some u ↔ ws[m]? = some u) := fun m u hm => by rw [List.getElem?_set, if_neg (fun e => hm e.symm)]
  refine ⟨_, H1, h4, O.put hj _ (fun c hc' => .inl ?_) ⟨?_, ?_, by simpa using h.len, fun m u hm hu => ?_, fun a c w1 u1 hac ha hc' hw1 hu1 => ?_, fun m u hm hu => ?_⟩ (fun c k hk hc' => h3.old hk fun e => hc' (List.mem_append_left _ (by simp [z4j, e]))), fun c hc' => h3.other c (by simpa [z4j] using hc')⟩
  ·rcases List.mem_append.1 hc' with q | q
   ·exact List.mem_append_left _ q
   ·obtain ⟨m, u, hm, hu, q⟩ := mem_rowFoot.1 q
    have hm' : m ≠ i := fun e => hm (e ▸ him)
    exact List.mem_append_right _ (mem_rowFoot.2 ⟨m, u, hm, (hrows m u hm').1 hu, q⟩)
  ·refine .inr ⟨b, tg, cap, rest, sz', by simp, ?_, ?_, by simpa using hcap, htg⟩
   ·rw [h3.get]
    congr 2
    rw [List.map_set, <- za4 (sz := 1) (by simp) rfl (by simpa using hil), hc]
    simp only [Nat.zero_add, z1s]
    rw [List.take_append_of_le_length (by rw [hfl]; omega), List.drop_append_of_le_length (by rw [hfl]; simp; omega)]
    simp [List.append_assoc]
   ·rw [List.length_append] at hl ⊢
    rw [z3f (sz := 1) (fun q hq => by obtain ⟨u, _, rfl⟩ := List.mem_map.1 hq; rfl)]
    rw [hfl] at hl
    simpa using hl
  ·intro q hq
   rcases List.mem_or_eq_of_mem_set hq with q' | q'
   ·exact h.one q q'
   ·rw [q']; exact hok
  ·have hm' : m ≠ i := fun e => hm (e ▸ him)
   obtain ⟨es, xs, k1, k2, k3⟩ := h.row m u hm ((hrows m u hm').1 hu)
   refine ⟨es, xs, k1, k2.loc fun c hc' => h3.other c fun e => ?_, k3⟩
   subst e
   exact h.off m u hm ((hrows m u hm').1 hu) _ hc' (by simp [z4j])
  ·have ha' : a ≠ i := fun e => ha (e ▸ him)
   have hc'' : c ≠ i := fun e => hc' (e ▸ him)
   exact h.dis a c w1 u1 hac ha hc' ((hrows a w1 ha').1 hw1) ((hrows c u1 hc'').1 hu1)
  ·have hm' : m ≠ i := fun e => hm (e ▸ him)
   exact h.off m u hm ((hrows m u hm').1 hu)
theorem Ow.rowCells (O : Ow G H L) (hj : L[j]? = some (z27 v e ws hs e2 r xss)) (hw : ws[i]? = some w) (hh : i ∉ hs) : okCells [w] = true /\ w.cells.toList = [w] := by
 have h := O.rowsOk hj
 obtain ⟨es, xs, _, h2, _⟩ := h.row i w hh hw
 rcases h2 with ⟨rfl, _⟩ | ⟨b, tg, cap, rest, sz', rfl, _⟩ <;> exact ⟨rfl, rfl⟩
theorem zlt {l : List Value} {a b : Nat} {w : Value} (h : l[b]? = some w) : (l.set a w)[b]? = some w := by
 rw [List.getElem?_set]
 by_cases e : a = b
 ·subst e
  have := (zAi h).1
  simp [this]
 ·rw [if_neg e]; exact h
theorem Lo.swapRow {a b : Nat} {wa wb : Value} {xa xb : List α} (hj : L[j]? = some (z27 v e ws [a] e2 r xss)) (hwa : ws[a]? = some wb) (hwb : ws[b]? = some wb) (hxb : xss[b]? = some xb) (hab : a = b -> wb = wa)
  (hd : (ook n x && ook n y) = true) (hz : szT P t = some 1) (hx : oval σ x = z1m v (b * 1)) (hy : oval σ y = wa) (O : Ow G H (eSl wa e2 r xa :: L)) :
  Loud P n ⟨dd, .store t x y, ty, pos, af, g⟩ σ H fun u H1 => Ow G H1 (L.set j (z27 v e (ws.set b wa) [] e2 r ((xss.set a xb).set b xa))) /\ (∀ b', b' ∉ z4j v -> H1.get b' = H.get b') := by
 have hj1 : (eSl wa e2 r xa :: L)[j + 1]? = some (z27 v e ws [a] e2 r xss) := by simpa using hj
 have hjl : j < L.length := (zAi hj).1
 obtain ⟨c1, c2⟩ := O.cellsSl (j := 0) rfl
 have hbl := (zAi hxb).1
 have gs : ∀ X : Pc, (L.set j X)[j]? = some X := fun X => List.getElem?_set_self hjl
 have gs1 : ∀ p X : Pc, (p :: L.set j X)[j + 1]? = some X := fun p X => by simpa using gs X
 have gs2 : ∀ p q X : Pc, (p :: q :: L.set j X)[j + 2]? = some X := fun p q X => by simpa using gs X
 by_cases hab' : a = b
 ·subst hab'
  obtain ⟨u, H1, h1, h2, h3⟩ := Lo.storeRowG (P := P) (n := n) (σ := σ) (dd := dd) (ty := ty) (pos := pos) (af := af) (g := g) (t := t) (x := x) (y := y) (hs := [a]) (i := a) (by simp) hj1 hbl hd hz hx hy c1 c2 O
  refine ⟨u, H1, h1, ?_, h3⟩
  have h4 : Ow G H1 (eSl wa e2 r xa :: L.set j (z27 v e (ws.set a wa) [a] e2 r xss)) := by simpa using h2
  have h5 := Ow.putRowG (hs := []) (i := a) (by simp) h4 (gs _) (zlq hwa)
  rw [List.set_set] at h5 ⊢
  exact h5
 ·have o1 := O.takeRow (j := j + 1) hj1 hwb hxb (by simpa using fun e : b = a => hab' e.symm)
  have o1' : Ow G H (eSl wb e2 r xb :: eSl wa e2 r xa :: L.set j (z27 v e ws [b, a] e2 r xss)) := by simpa using o1
  obtain ⟨u, H1, h1, h2, h3⟩ := Lo.storeRowG (P := P) (n := n) (σ := σ) (dd := dd) (ty := ty) (pos := pos) (af := af) (g := g) (t := t) (x := x) (y := y) (hs := [b, a]) (i := b) (j := j + 2) (by simp) (gs2 _ _ _) hbl hd hz hx hy c1 c2 o1'
  refine ⟨u, H1, h1, ?_, h3⟩
  have h4 : Ow G H1 (eSl wb e2 r xb :: eSl wa e2 r xa :: L.set j (z27 v e (ws.set b wa) [b, a] e2 r xss)) := by simpa using h2
  have h5 : Ow G H1 (eSl wa e2 r xa :: eSl wb e2 r xb :: L.set j (z27 v e (ws.set b wa) [b, a] e2 r xss)) := by simpa using h4.front (j := 1) rfl
  have h6 := Ow.putRowG (hs := [a]) (i := b) (by simpa using fun e : b = a => hab' e.symm) h5 (gs1 _ _) (zlq hwb)
  have h7 : Ow G H1 (eSl wb e2 r xb :: L.set j (z27 v e (ws.set b wa) [a] e2 r (xss.set b xa))) := by simpa using h6
  have h8 := Ow.putRowG (hs := []) (i := a) (by simp) h7 (gs _) (by rw [List.getElem?_set, if_neg (fun e => hab' e.symm)]; exact hwa)
  rw [List.set_set] at h8
  rw [List.set_comm _ _ hab']
  exact h8
end
section
variable {α : Type} {r : RT α} {G : GM} {H : AH} {L : List Pc} {v w : Value} {e e2 : TypeId} {ws : List Value} {xss : List (List α)} {xs : List α} {x0 : α} {i j k : Nat}
theorem Ow.footRowEl (O : Ow G H L) (hj : L[j]? = some (z27 v e ws [] e2 r xss)) (hw : ws[i]? = some w) (hi : xss[i]? = some xs) (hx : xs[k]? = some x0) {m : Nat} : z6x (z1m w m) ∈ (z27 v e ws [] e2 r xss).foot := by
 have h := O.rowsOk hj
 obtain ⟨es, xs', k1, k2, k3⟩ := h.row i w (by simp) hw
 rw [hi] at k1; cases k1
 have hl := (zAi hx).1
 have hl2 := k3.length
 refine List.mem_append_right _ (mem_rowFoot.2 ⟨i, w, by simp, hw, ?_⟩)
 rcases k2 with ⟨rfl, rfl⟩ | ⟨b, tg, cap, rest, sz', rfl, _⟩
 ·simp at hl2; omega
 ·simp [z1m, z6x, z4j]
end
section
variable {P : Program} {n : Nat} {σ : Nat -> Value} {H H1 : AH} {d : Tmp} {dd : Option Tmp} {ty t xt e : TypeId} {pos : String} {af : Array Edge} {g : Option (Nat × Bool)} {v w : Value} {x y : Operand}
 {G : GM} {L : List Pc} {j i : Nat} {α : Type} {r : RT α}
end
end
end Go.Am
/- The place of a byte in a text: the library's function, by the shelf's contract, as a typed function. -/
namespace Go.Am.Tryz
open Go Go.Am Go.Proofs
def zqe : Go.Shelf.Ren := ⟨fun x => if x = 217 then 179 else if x = 266 then 186 else x, fun x => if x = 3 then 3 else if x = 5 then 5 else 9, fun x => x⟩
theorem zpb : Lays.n217 Tryz.prog zqe where
 mixed := by kernel_rfl
 f217 := by kernel_rfl
 f266 := by kernel_rfl
 t3 := Tryz.underlying3
 a3 := Tryz.isAgg3
 z3 := Tryz.sizeOf3
 v3 := Tryz.zeroValue3
 t5 := Tryz.underlying5
 a5 := Tryz.isAgg5
 z5 := Tryz.sizeOf5
 v5 := Tryz.zeroValue5
 t9 := Tryz.underlying9
 a9 := Tryz.isAgg9
 z9 := Tryz.sizeOf9
 v9 := Tryz.zeroValue9
theorem zhd (s : zAd) (c : Int) (H : AH) : ACalls Tryz.prog 179 [.string s, .int .u8 c] H (.int .i64 (Lib.indexByte s.data.toList c.toNat.toUInt8)) H := by
 refine ⟨Nx.refl _, fun ι w cargs hS hargs => ?_⟩
 have he := hargs.closed_eq rfl
 have hc : cargs = #[.string s, .int .u8 c] := by
  cases cargs; exact congrArg Array.mk he
 subst hc
 refine (Any.stringslite_IndexByte zpb s c w).mono ?_
 rintro e w' ⟨rfl, rfl⟩
 exact ⟨ι, _, rfl, .scal rfl, hS, fun _ _ h => h, fun _ _ => rfl, fun _ h => .inl h, fun _ h => .inl h, fun _ _ _ => rfl, Nat.le_refl _, rfl, rfl, rfl⟩
def z1c (K : Nat) (s : zAd) (c : Int) : Option Int := some (Lib.indexByte s.data.toList c.toNat.toUInt8)
theorem z3z (K : Nat) {G : GM} {H : AH} {L : List Pc} (p0 : zAd) (p1 : Int) (O : Ow G H L) (r : Int) (h : z1c K p0 p1 = some r) :
  CR Tryz.prog 179 [.string p0, .int .u8 p1] G H L (fun v G' _ => v = .int .i64 r) := by
 cases h
 exact ⟨_, H, G, zhd p0 p1 H, O, zAf _, rfl⟩
end Go.Am.Tryz
/- Closed runs on the abstract machine, the place of a byte in a text by the shelf's contract. -/
namespace Go.Am.Tryz
open Go Go.Am Go.Proofs
noncomputable def zix : FuncId -> Option (List Value -> AH -> Option (Value × AH)) := fun f => if f = 179 then some (fun args H => match args with
 | [.string s, .int .u8 c] => some (.int .i64 (Lib.indexByte s.data.toList c.toNat.toUInt8), H)
 | _ => none) else none
theorem z79 : ∀ f g, zix f = some g -> ∀ args H v H', g args H = some (v, H') -> ACalls Tryz.prog f args H v H' := by
 intro f g h args H v H' h2
 unfold zix at h
 split at h
 ·rename_i hf
  subst hf
  obtain rfl := zAa h
  dsimp only at h2
  split at h2
  ·obtain ⟨rfl, rfl⟩ := Prod.mk.inj (zAa h2)
   exact zhd _ _ _
  ·cases h2
 ·cases h
end Go.Am.Tryz
/- A call's heap with other numbers, and without what nothing leads to. -/
namespace Go.Am
open Go
noncomputable section
def renS (ρ : Nat -> Nat) : Value -> Value
 | .pointer (some ⟨b, o, t⟩) => .pointer (some ⟨ρ b, o, t⟩)
 | .slice (some ⟨b, o, t⟩) l c => .slice (some ⟨ρ b, o, t⟩) l c
 | v => v
def renA (ρ : Nat -> Nat) : Value -> Value
 | .agg cs => .agg ⟨cs.toList.map (renS ρ)⟩
 | v => renS ρ v
def renV (ρ : Nat -> Nat) : Value -> Value
 | .tuple cs => .tuple ⟨cs.toList.map (renA ρ)⟩
 | v => renA ρ v
def okS (n : Nat) : Value -> Bool
 | .pointer (some ⟨b, _, _⟩) => Nat.blt b n
 | .slice (some ⟨b, _, _⟩) _ _ => Nat.blt b n
 | v => z13 v
def okA (n : Nat) : Value -> Bool
 | .agg cs => cs.toList.all (okS n)
 | v => okS n v
def okVv (n : Nat) : Value -> Bool
 | .tuple cs => cs.toList.all (okA n)
 | v => okA n v
section
variable {ι : Ren} {ρ : Nat -> Nat} {n : Nat}
def renI (ι : Ren) (ρ : Nat -> Nat) (n : Nat) : Ren := fun b => if b < n then ι (ρ b) else none
theorem zer {b : Nat} (h : b < n) : renI ι ρ n b = ι (ρ b) := by unfold renI; rw [if_pos h]
theorem VR.renS : ∀ {v c : Value}, VR ι (Am.renS ρ v) c -> okS n v = true -> VR (renI ι ρ n) v c := by
 intro v c h ho
 have hb : ∀ {b : Nat} {y : Nat × Nat × Nat}, Nat.blt b n = true -> ι (ρ b) = some y -> renI ι ρ n b = some y := fun hb hy => by rw [zer (blt_iff.1 hb)]; exact hy
 have sc : ∀ {u : Value}, z13 u = true -> VR ι u c -> VR (renI ι ρ n) u c := fun hs h => by
  have e := h.scalar_eq hs
  subst e; exact .scal hs
 cases v with
 | pointer a =>
  cases a with
  | none => exact sc rfl h
  | some a =>
   obtain ⟨b, o, t⟩ := a
   simp only [Am.renS] at h
   cases h with
   | scal hs => simp [z13] at hs
   | ptr hi => exact .ptr (hb ho hi)
 | slice a l cp =>
  cases a with
  | none => exact sc rfl h
  | some a =>
   obtain ⟨b, o, t⟩ := a
   simp only [Am.renS] at h
   cases h with
   | scal hs => simp [z13] at hs
   | sl hi => exact .sl (hb ho hi)
   | slT hi => exact .slT (hb ho hi)
   | sl0 hi ht => exact .sl0 (hb ho hi) ht
 | _ => exact sc ho h
theorem VRs.renS : ∀ {vs cs : List Value}, VRs ι (vs.map (Am.renS ρ)) cs -> vs.all (okS n) = true -> VRs (renI ι ρ n) vs cs
 | [], _, .nil, _ => .nil
 | v :: vs, _, .cons h1 h2, ho => by
  simp only [List.all_cons, Bool.and_eq_true] at ho
  exact .cons (h1.renS ho.1) (VRs.renS h2 ho.2)
theorem VR.renA {v c : Value} (h : VR ι (Am.renA ρ v) c) (ho : okA n v = true) : VR (renI ι ρ n) v c := by
 cases v with
 | agg cs =>
  simp only [Am.renA] at h
  cases h with
  | scal hs => simp [z13] at hs
  | agg hl => exact .agg (xs := cs.toList) (VRs.renS hl ho)
 | _ => exact VR.renS h ho
theorem VRs.renA : ∀ {vs cs : List Value}, VRs ι (vs.map (Am.renA ρ)) cs -> vs.all (okA n) = true -> VRs (renI ι ρ n) vs cs
 | [], _, .nil, _ => .nil
 | v :: vs, _, .cons h1 h2, ho => by
  simp only [List.all_cons, Bool.and_eq_true] at ho
  exact .cons (h1.renA ho.1) (VRs.renA h2 ho.2)
theorem VR.renV {v c : Value} (h : VR ι (Am.renV ρ v) c) (ho : okVv n v = true) : VR (renI ι ρ n) v c := by
 cases v with
 | tuple cs =>
  simp only [Am.renV] at h
  cases h with
  | scal hs => simp [z13] at hs
  | tup hl => exact .tup (xs := cs.toList) (VRs.renA hl ho)
 | _ => exact VR.renA h ho
end
theorem ACalls.ren {P : Program} {f : FuncId} {args : List Value} {H H' Hc : AH} {v v' : Value} (ρ : Nat -> Nat) (h : ACalls P f args H v H') (hn : H.next <= Hc.next) (hid : ∀ b, b < H.next -> ρ b = b) (hinj : ∀ b b', b < Hc.next -> b' < Hc.next -> ρ b = ρ b' -> b = b')
  (hv : v = renV ρ v') (hvb : okVv Hc.next v' = true) (hG : ∀ b x, Hc.get b = some x -> H'.get (ρ b) = some ⟨x.cells.map (renS ρ), x.elem, x.sz, x.own⟩ /\ x.cells.all (okS Hc.next) = true) : ACalls P f args H v' Hc := by
 have hlt : ∀ b x, Hc.get b = some x -> b < Hc.next := fun b x hb => AH.lt_of_get hb
 refine ⟨⟨hn, fun b hb hz => ?_⟩, fun ι w cargs hS hargs => ?_⟩
 ·cases hc : Hc.get b with
  | none => rfl
  | some x =>
   have := (hG b x hc).1
   rw [hid b hb, h.next.2 b hb hz] at this
   cases this
 ·refine (h.run ι w cargs hS hargs).mono ?_
  rintro e w' ⟨ι', u, rfl, e2, e3, e4⟩
  subst hv
  have hi : ∀ {b : Nat} {x : ABlk} {y : Nat × Nat × Nat}, Hc.get b = some x -> renI ι' ρ Hc.next b = some y -> H'.get (ρ b) = some ⟨x.cells.map (renS ρ), x.elem, x.sz, x.own⟩ /\ ι' (ρ b) = some y := fun hb hy => by
   rw [zer (hlt _ _ hb)] at hy
   exact ⟨(hG _ _ hb).1, hy⟩
  refine ⟨renI ι' ρ Hc.next, u, rfl, e2.renV hvb, ⟨fun b x cb co ex hb hy => ?_, fun b b' x x' cb co ex cb' co' ex' hne hb hb' ho hy hy' => ?_, fun b y hy => ?_⟩, fun b y hy => ?_, fun b hb => ?_, ?_, ?_, e4.same, e4.size, e4.os, e4.tape, e4.output⟩
  ·obtain ⟨g1, g2⟩ := hi hb hy
   obtain ⟨arr, el, fr, k1, k2, k3⟩ := (e3.blk _ _ _ _ _ g1 g2).lies
   refine ⟨arr, el, fr, k1, fun j u hu => ?_, fun ho => by simpa using k3 ho⟩
   obtain ⟨u', q1, q2⟩ := k2 j (renS ρ u) (by simp [hu])
   exact ⟨u', q1, q2.renS (List.all_eq_true.1 (hG b x hb).2 u (List.mem_of_getElem? hu))⟩
  ·obtain ⟨g1, g2⟩ := hi hb hy
   obtain ⟨g3, g4⟩ := hi hb' hy'
   exact e3.inj _ _ _ _ _ _ _ _ _ _ (fun e => hne (hinj _ _ (hlt _ _ hb) (hlt _ _ hb') e)) g1 g3 ho g2 g4
  ·unfold renI at hy
   split at hy
   ·assumption
   ·cases hy
  ·have hb := hS.dom b y hy
   rw [zer (by omega), hid b hb]
   exact e4.sub b y hy
  ·rw [zer (by omega), hid b hb]
   exact e4.old b hb
  ·rintro cb ⟨b, x, co, ex, hb, hy⟩
   obtain ⟨g1, g2⟩ := hi hb hy
   exact e4.img cb ⟨ρ b, _, co, ex, g1, g2⟩
  ·rintro cb ⟨b, x, co, ex, hb, ho, hy⟩
   obtain ⟨g1, g2⟩ := hi hb hy
   exact e4.own cb ⟨ρ b, _, co, ex, g1, ho, g2⟩
def rhoL (m : Nat) (L : List Nat) (b : Nat) : Nat := if b < m then b else L.getD (b - m) 0
def vEqA (v u : Value) : Bool := match v, u with
 | .agg a, .agg b => zkp a.toList b.toList
 | v, u => zkp [v] [u]
def vsEq : List Value -> List Value -> Bool
 | [], [] => true
 | v :: vs, u :: us => vEqA v u && vsEq vs us
 | _, _ => false
def zpc (v u : Value) : Bool := match v, u with
 | .tuple a, .tuple b => vsEq a.toList b.toList
 | v, u => vEqA v u
theorem zkv {v u : Value} (h : vEqA v u = true) : v = u := by
 unfold vEqA at h
 split at h
 ·rename_i a b
  have := zbl h
  cases a; cases b
  simp only at this
  rw [this]
 ·have := zbl h
  simpa using this
theorem zhe : ∀ {vs us : List Value}, vsEq vs us = true -> vs = us
 | [], [], _ => rfl
 | v :: vs, u :: us, h => by
  simp only [vsEq, Bool.and_eq_true] at h
  rw [zkv h.1, zhe h.2]
 | [], _ :: _, h => by cases h
 | _ :: _, [], h => by cases h
theorem zlu {v u : Value} (h : zpc v u = true) : v = u := by
 unfold zpc at h
 split at h
 ·rename_i a b
  have := zhe h
  cases a; cases b
  simp only at this
  rw [this]
 ·exact zkv h
def chkR (H : AH) (L : List Nat) (v' : Value) (Hc : AH) (r : Option (Value × AH)) : Bool := match r with
 | none => false
 | some r => zpc r.1 (renV (rhoL H.next L) v') && okVv Hc.next v' && Nat.ble H.next Hc.next && Nat.beq (H.next + L.length) Hc.next && L.all (fun x => Nat.ble H.next x) && decide (L.Nodup) &&
  (List.range Hc.next).all fun b => match Hc.get b with
   | none => true
   | some x => zfl (r.2.get (rhoL H.next L b)) (some ⟨x.cells.map (renS (rhoL H.next L)), x.elem, x.sz, x.own⟩) && x.cells.all (okS Hc.next)
theorem za8 {P : Program} {f : FuncId} {args : List Value} {H Hc : AH} {L : List Nat} {v' : Value} {r : Option (Value × AH)} (h : chkR H L v' Hc r = true) (hr : ∀ v H', r = some (v, H') -> ACalls P f args H v H') : ACalls P f args H v' Hc := by
 unfold chkR at h
 cases r with
 | none => cases h
 | some r =>
  obtain ⟨v, H'⟩ := r
  simp only [Bool.and_eq_true] at h
  obtain ⟨⟨⟨⟨⟨⟨h1, h2⟩, h3⟩, h4⟩, h5⟩, h6⟩, h7⟩ := h
  have h6 := of_decide_eq_true h6
  have h3 := Nat.le_of_ble_eq_true h3
  have h4 : H.next + L.length = Hc.next := Nat.eq_of_beq_eq_true h4
  have hbig : ∀ b, ¬ b < H.next -> b < Hc.next -> ∃ h : b - H.next < L.length, rhoL H.next L b = L[b - H.next] /\ H.next <= L[b - H.next] := fun b hb hc => by
   have hl : b - H.next < L.length := by omega
   refine ⟨hl, ?_, Nat.le_of_ble_eq_true (List.all_eq_true.1 h5 _ (List.getElem_mem hl))⟩
   unfold rhoL
   rw [if_neg hb, zAb, zAh hl]; rfl
  have hlow : ∀ b, b < H.next -> rhoL H.next L b = b := fun b hb => by unfold rhoL; rw [if_pos hb]
  refine (hr v H' rfl).ren (rhoL H.next L) h3 hlow (fun b b' hb hb' e => ?_) (zlu h1) h2 fun b x hb => ?_
  ·by_cases c : b < H.next
   ·by_cases c' : b' < H.next
    ·rw [hlow b c, hlow b' c'] at e; exact e
    ·obtain ⟨_, e1, e2⟩ := hbig b' c' hb'
     rw [hlow b c, e1] at e; omega
   ·obtain ⟨l1, e1, e2⟩ := hbig b c hb
    by_cases c' : b' < H.next
    ·rw [hlow b' c', e1] at e; omega
    ·obtain ⟨l2, e3, e4⟩ := hbig b' c' hb'
     rw [e1, e3] at e
     have := (List.getElem_inj h6).1 e
     omega
  ·have hm : b ∈ List.range Hc.next := List.mem_range.2 (AH.lt_of_get hb)
   have := List.all_eq_true.1 h7 b hm
   rw [hb] at this
   simp only [Bool.and_eq_true] at this
   exact ⟨z5y this.1, this.2⟩
def zlv (H K : AH) : Bool := Nat.beq H.next K.next && Nat.beq H.blks.length K.blks.length && (H.blks.zip K.blks).all fun p => zfl p.1 p.2
theorem zpd {xs ys : List (Option ABlk)} (hl : xs.length = ys.length) (h : ((xs.zip ys).all fun p => zfl p.1 p.2) = true) : xs = ys := by
 induction xs generalizing ys with
 | nil => cases ys with
  | nil => rfl
  | cons y ys => simp at hl
 | cons x xs ih =>
  cases ys with
  | nil => simp at hl
  | cons y ys =>
   simp only [List.zip_cons_cons, List.all_cons, Bool.and_eq_true] at h
   rw [z5y h.1, ih (by simpa using hl) h.2]
theorem zjp {H K : AH} (h : zlv H K = true) : H = K := by
 unfold zlv at h
 simp only [Bool.and_eq_true] at h
 obtain ⟨⟨h1, h2⟩, h3⟩ := h
 have k1 := Nat.eq_of_beq_eq_true h1
 have k3 := zpd (Nat.eq_of_beq_eq_true h2) h3
 cases H; cases K
 dsimp only at k1 k3
 rw [k1, k3]
abbrev Ext1 := FuncId -> Option (List Value -> AH -> Option (Value × AH))
def extL (f0 : FuncId) (al0 : List Value) (H0 : AH) (v1 : Value) (H1 : AH) (g : Ext1) : Ext1 := fun f => if f = f0 then some (fun args H => if vsEq args al0 && zlv H H0 then some (v1, H1) else match g f with
 | some k => k args H
 | none => none) else g f
theorem za9 {P : Program} {f0 : FuncId} {al0 : List Value} {H0 : AH} {v1 : Value} {H1 : AH} {g : Ext1} (h0 : ACalls P f0 al0 H0 v1 H1) (hg : ∀ f k, g f = some k -> ∀ args H v H', k args H = some (v, H') -> ACalls P f args H v H') :
  ∀ f k, extL f0 al0 H0 v1 H1 g f = some k -> ∀ args H v H', k args H = some (v, H') -> ACalls P f args H v H' := by
 intro f k h args H v H' h2
 unfold extL at h
 split at h
 ·rename_i hf
  obtain rfl := zAa h
  dsimp only at h2
  split at h2
  ·rename_i hc
   simp only [Bool.and_eq_true] at hc
   obtain rfl := zhe hc.1
   obtain rfl := zjp hc.2
   obtain ⟨rfl, rfl⟩ := Prod.mk.inj (zAa h2)
   subst hf
   exact h0
  ·cases hk : g f with
   | none => rw [hk] at h2; cases h2
   | some k => rw [hk] at h2; exact hg f k hk args H v H' h2
 ·exact hg f k h args H v H' h2
end
end Go.Am
/- What a call of a closed fact begins with. -/
namespace Go.Am.Tryz
open Go Go.Am Go.Proofs
noncomputable def fwA1 : List Value := [.slice (some ⟨2, 0, some 0⟩) 2 2]
noncomputable def fwH1 : AH := ⟨3, [some ⟨[.slice (some ⟨0, 0, some 0⟩) 2 2, .slice (some ⟨1, 0, some 0⟩) 2 2], 45, 1, true⟩, some ⟨[.string ⟨#[51]⟩, .string ⟨#[52]⟩], 22, 1, true⟩, some ⟨[.string ⟨#[49]⟩, .string ⟨#[50]⟩], 22, 1, true⟩]⟩
end Go.Am.Tryz
