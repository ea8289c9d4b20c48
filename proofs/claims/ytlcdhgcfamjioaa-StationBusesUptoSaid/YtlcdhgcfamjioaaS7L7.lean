/- Plain law: StationBuses answers true. -/
import Derived.Test.YtlcdhgcfamjioaaS7NB
namespace Go.Am.Try
open Go Go.Am Go.Proofs
set_option linter.unusedSimpArgs false
set_option linter.unusedVariables false
variable {K : Nat} {n : Network}
def nodeS (n : Network) (j : Nat) : ByteArray := n.Nodes.getD j ⟨#[]⟩
def namesS (n : Network) (xs : List Int) (i : Nat) (b : Int) : List ByteArray := ((List.range i).filter fun j => xs.getD j 0 == b).map (nodeS n)
theorem names_next (n : Network) (xs : List Int) (i : Nat) (b : Int) : namesS n xs (i + 1) b = if xs.getD i 0 == b then namesS n xs i b ++ [nodeS n i] else namesS n xs i b := by
  unfold namesS
  rw [List.range_succ, List.filter_append, List.map_append]
  cases h : xs.getD i 0 == b <;> simp only [List.filter_cons, h, if_true, Bool.false_eq_true, if_false, List.filter_nil, List.map_cons, List.map_nil, List.append_nil]
theorem names_len (n : Network) (xs : List Int) (i : Nat) (b : Int) : (namesS n xs i b).length ≤ i := by
  unfold namesS
  rw [List.length_map]
  exact Nat.le_trans (List.length_filter_le _ _) (by simp)
def rowsS (n : Network) (xs : List Int) (c i : Nat) : List (List ByteArray) := (List.range c).map fun b : Nat => namesS n xs i (b : Int)
theorem busbars_loop (hK : 200 < K) {xs : List Int} (hN : n.Nodes.length ≤ 24) (hl : xs.length = n.Nodes.length) {c : Nat} (hx : ∀ i < xs.length, 0 ≤ xs.getD i 0 ∧ xs.getD i 0 < c) :
    g_station_Busbars_l0 K n xs K (List.replicate c ([] : List ByteArray)) 0 = some (rowsS n xs c xs.length) := by
  suffices h : ∃ r, g_station_Busbars_l0 K n xs K (List.replicate c ([] : List ByteArray)) 0 = some r ∧ r = rowsS n xs c xs.length by
    obtain ⟨r, h1, rfl⟩ := h; exact h1
  refine loop_inv (S := List (List ByteArray)) xs.length (fun k s i => g_station_Busbars_l0 K n xs k s i) (fun s i => s = rowsS n xs c i) _ ?_ ?_ K _ (by omega) (by simp [rowsS, namesS, List.map_const'])
  · rintro k _ i hi rfl
    right
    refine ⟨_, rfl, ?_⟩
    obtain ⟨h1, h2⟩ := hx i hi
    obtain ⟨b, hb⟩ := Int.eq_ofNat_of_zero_le h1
    have hbc : b < c := by omega
    have hrow : idx (rowsS n xs c i) (b : Int) = some (namesS n xs i b) := idx_range hbc
    have hn : idx n.Nodes (i : Int) = some (nodeS n i) := idx_getG _ (by omega)
    have hlen := names_len n xs i b
    show g_station_Busbars_l0 K n xs (k + 1) (rowsS n xs c i) i = _
    rw [g_station_Busbars_l0, lt_nat hi, if_pos rfl, idx_getD hi]
    simp only [Option.bind_some, hb, hrow, hn, List.length_cons, List.length_nil, Int.toNat_natCast, kw1 hi (by omega)]
    rw [if_pos (by omega)]
    congr 1
    unfold rowsS
    rw [set_range hbc]
    apply List.map_congr_left
    intro a _
    rw [names_next, hb]
    by_cases e : a = b
    · subst e; simp
    · have e2 : ((b : Int) == (a : Int)) = false := by simp; omega
      simp [e, e2]
  · rintro k _ i rfl rfl
    refine ⟨_, ?_, rfl⟩
    show g_station_Busbars_l0 K n xs (k + 1) _ xs.length = _
    rw [g_station_Busbars_l0, nlt_nat (Nat.le_refl _)]; simp
theorem law_l2 (hK : 200 < K) {xs : List Int} (hN : n.Nodes.length ≤ 24) (hl : xs.length = n.Nodes.length) (b : Int) : g_law_StationBuses_l2 K n xs b K [] 0 = some (namesS n xs n.Nodes.length b) := by
  suffices h : ∃ r, g_law_StationBuses_l2 K n xs b K [] 0 = some r ∧ r = namesS n xs n.Nodes.length b by
    obtain ⟨r, h1, rfl⟩ := h; exact h1
  refine loop_inv (S := List ByteArray) n.Nodes.length (fun k s i => g_law_StationBuses_l2 K n xs b k s i) (fun s i => s = namesS n xs i b) _ ?_ ?_ K _ (by omega) rfl
  · rintro k _ i hi rfl
    right
    refine ⟨_, rfl, ?_⟩
    have hn : idx n.Nodes (i : Int) = some (nodeS n i) := idx_getG _ (by omega)
    have hlen := names_len n xs i b
    show g_law_StationBuses_l2 K n xs b (k + 1) (namesS n xs i b) i = _
    rw [g_law_StationBuses_l2, lt_nat hi, if_pos rfl, hn, names_next]
    simp only [Option.bind_some, idx_getD (show i < xs.length by omega), List.length_cons, List.length_nil, kw1 hi (by omega)]
    cases h : xs.getD i 0 == b
    · simp [tu1]
    · rw [if_pos rfl, if_pos (by omega)]; simp [tu1]
  · rintro k _ i rfl rfl
    refine ⟨_, ?_, rfl⟩
    show g_law_StationBuses_l2 K n xs b (k + 1) _ n.Nodes.length = _
    rw [g_law_StationBuses_l2, nlt_nat (Nat.le_refl _)]; simp
theorem equal_self_str (xs : List ByteArray) (hl : xs.length ≤ 1048576) (hK : xs.length < K) : g_slices_Equal_string_string K xs xs = some true := by
  have h := equal_str K xs hl hK (fun k i => g_slices_Equal_string_string_l0 K xs xs k i)
    (fun k i x hx => by
      have hi := lt_of hx
      have : sEq x x = true := sEq_iff.2 rfl
      show g_slices_Equal_string_string_l0 K xs xs (k + 1) i = _
      rw [g_slices_Equal_string_string_l0, lt_nat hi]
      simp only [if_true, idx_nat hx, Option.bind_some, this, Bool.not_true, Bool.false_eq_true, if_false, kw1 hi (by omega)])
    (fun k => by
      show g_slices_Equal_string_string_l0 K xs xs (k + 1) xs.length = _
      rw [g_slices_Equal_string_string_l0, nlt_nat (Nat.le_refl _)]; simp)
  unfold g_slices_Equal_string_string
  rw [h]; simp [bindS, tu0]
theorem law_l0 (hK : 200 < K) {xs : List Int} (hN : n.Nodes.length ≤ 24) (hl : xs.length = n.Nodes.length) {c : Nat} (hc : c ≤ 100) : g_law_StationBuses_l0 K (rowsS n xs c xs.length, 0) n xs K 0 = some (.inr ()) := by
  have hlen : (rowsS n xs c xs.length).length = c := by simp [rowsS]
  have : ∃ r, g_law_StationBuses_l0 K (rowsS n xs c xs.length, 0) n xs K 0 = some r ∧ r = .inr () := by
    refine loop_inv (S := Unit) c (fun k _ i => g_law_StationBuses_l0 K (rowsS n xs c xs.length, 0) n xs k i) (fun _ _ => True) _ ?_ ?_ K () (by omega) trivial
    · rintro k _ i hi _
      right
      refine ⟨(), trivial, ?_⟩
      have hrow : idx (rowsS n xs c xs.length) (i : Int) = some (namesS n xs xs.length i) := idx_range hi
      have hln := names_len n xs n.Nodes.length i
      show g_law_StationBuses_l0 K (rowsS n xs c xs.length, 0) n xs (k + 1) i = _
      rw [g_law_StationBuses_l0]
      simp only [hlen, lt_nat hi, if_true, hrow, Option.bind_some, law_l2 hK hN hl, tu1]
      rw [hl, equal_self_str (K := K) _ (by omega) (by omega)]
      simp [kw1 hi (by omega)]
    · rintro k _ i rfl _
      refine ⟨_, ?_, rfl⟩
      show g_law_StationBuses_l0 K (rowsS n xs i xs.length, 0) n xs (k + 1) i = _
      rw [g_law_StationBuses_l0]
      simp only [hlen, nlt_nat (Nat.le_refl _)]; simp
  obtain ⟨r, h1, rfl⟩ := this
  exact h1
/-- What to open to isolate a node. -/
def isoB (s : ByteArray) (x : Switch) : Bool := !x.Open && (sEq x.A s || sEq x.B s)
def isoS (n : Network) (s : ByteArray) (i : Nat) : List ByteArray := ((n.Switches.take i).filter (isoB s)).map (·.Name)
theorem iso_next {s : ByteArray} {i : Nat} {x : Switch} (hx : n.Switches[i]? = some x) : isoS n s (i + 1) = if isoB s x then isoS n s i ++ [x.Name] else isoS n s i := by
  unfold isoS
  rw [List.take_add_one, hx, List.filter_append, List.map_append]
  cases h : isoB s x <;> simp [h]
theorem iso_len (n : Network) (s : ByteArray) (i : Nat) : (isoS n s i).length ≤ i := by
  unfold isoS
  rw [List.length_map]
  exact Nat.le_trans (List.length_filter_le _ _) (by simp; omega)
theorem iso_prog (hK : 200 < K) (hN : n.Switches.length ≤ 32) (s : ByteArray) : g_station_Isolate_l0 K n s K [] 0 = some (isoS n s n.Switches.length) := by
  suffices h : ∃ r, g_station_Isolate_l0 K n s K [] 0 = some r ∧ r = isoS n s n.Switches.length by
    obtain ⟨r, h1, rfl⟩ := h; exact h1
  refine loop_inv (S := List ByteArray) n.Switches.length (fun k t i => g_station_Isolate_l0 K n s k t i) (fun t i => t = isoS n s i) _ ?_ ?_ K _ (by omega) rfl
  · rintro k _ i hi rfl
    right
    refine ⟨_, rfl, ?_⟩
    have hx : n.Switches[i]? = some n.Switches[i] := List.getElem?_eq_getElem hi
    have hlen := iso_len n s i
    show g_station_Isolate_l0 K n s (k + 1) (isoS n s i) i = _
    rw [g_station_Isolate_l0, lt_nat hi, if_pos rfl, idx_nat hx, iso_next hx]
    simp only [Option.bind_some, List.length_cons, List.length_nil, kw1 hi (by omega), if_pos (show (isoS n s i).length + (0 + 1) ≤ 16777216 by omega), isoB]
    by_cases q1 : n.Switches[i].Open = true <;> by_cases q2 : sEq n.Switches[i].A s = true <;> by_cases q3 : sEq n.Switches[i].B s = true <;> simp [tu1, q1, q2, q3]
  · rintro k _ i rfl rfl
    refine ⟨_, ?_, rfl⟩
    show g_station_Isolate_l0 K n s (k + 1) _ n.Switches.length = _
    rw [g_station_Isolate_l0, nlt_nat (Nat.le_refl _)]; simp
theorem iso_ref (hK : 200 < K) (hN : n.Switches.length ≤ 32) (s : ByteArray) : g_law_StationBuses_l4 K n s K [] 0 = some (isoS n s n.Switches.length) := by
  suffices h : ∃ r, g_law_StationBuses_l4 K n s K [] 0 = some r ∧ r = isoS n s n.Switches.length by
    obtain ⟨r, h1, rfl⟩ := h; exact h1
  refine loop_inv (S := List ByteArray) n.Switches.length (fun k t i => g_law_StationBuses_l4 K n s k t i) (fun t i => t = isoS n s i) _ ?_ ?_ K _ (by omega) rfl
  · rintro k _ i hi rfl
    right
    refine ⟨_, rfl, ?_⟩
    have hx : n.Switches[i]? = some n.Switches[i] := List.getElem?_eq_getElem hi
    have hlen := iso_len n s i
    show g_law_StationBuses_l4 K n s (k + 1) (isoS n s i) i = _
    rw [g_law_StationBuses_l4, lt_nat hi, if_pos rfl, idx_nat hx, iso_next hx]
    simp only [Option.bind_some, List.length_cons, List.length_nil, kw1 hi (by omega), if_pos (show (isoS n s i).length + (0 + 1) ≤ 16777216 by omega), isoB]
    by_cases q1 : n.Switches[i].Open = true <;> by_cases q2 : sEq n.Switches[i].A s = true <;> by_cases q3 : sEq n.Switches[i].B s = true <;> simp [tu1, q1, q2, q3]
  · rintro k _ i rfl rfl
    refine ⟨_, ?_, rfl⟩
    show g_law_StationBuses_l4 K n s (k + 1) _ n.Switches.length = _
    rw [g_law_StationBuses_l4, nlt_nat (Nat.le_refl _)]; simp
theorem w00 : kwrap .i64 ((([] : List (List ByteArray)).length : Int) + (([] : List ByteArray).length : Int)) = 0 := by simp only [List.length_nil]; exact kw (by omega) (by omega)
theorem buses_law (F : Fits K n) (s : ByteArray) : g_law_StationBuses K n s = (g_law_stationFact K).bind fun c => some c := by
  have hK := F.many
  have hF : g_law_stationFact K = some true := rfl
  unfold g_law_StationBuses g_station_Busbars g_station_Isolate g_netmodel_Node
  rw [check_prog F, err_ref F, hF]
  simp only [Option.bind_some, Bool.not_true, Bool.false_eq_true, if_false]
  by_cases h0 : netS n = 0
  · have G := good_of h0
    obtain ⟨a1, a2, a3, a4, a5, a6⟩ := G.big
    obtain ⟨xs, m, h1, h2, hO⟩ := buses_ok (K := K) G hK
    have hm := outer_mem hO
    have hlen := hO.len
    have hfew := hO.few
    have hb : ∀ x ∈ xs, -1 ≤ x ∧ x ≤ 1048576 := fun x hx => by have := hm x hx; omega
    have c1 := (cnt_ge xs 0).1
    have c2 := (cnt_ge xs 0).2
    have c3 := cnt_le' 24 xs 0 (by omega) (fun x hx => by have := hm x hx; omega)
    obtain ⟨c, hc⟩ := Int.eq_ofNat_of_zero_le (show 0 ≤ cntS xs from c1)
    have hc24 : c ≤ 24 := by
      have : cntS xs ≤ 24 := c3
      omega
    have hx : ∀ i < xs.length, 0 ≤ xs.getD i 0 ∧ xs.getD i 0 < c := fun i hi => by
      have hmem : xs.getD i 0 ∈ xs := by
        rw [List.getD_eq_getElem?_getD, List.getElem?_eq_getElem hi]
        simp
      have q1 := hm _ hmem
      have q2 : xs.getD i 0 + 1 ≤ cntS xs := c2 _ hmem
      omega
    have hcount := count_prog (K := K) hb (by omega) (by omega)
    have hmost := most_ref (K := K) hb (by omega) (by omega)
    simp only [h0, bne_self_eq_false, Bool.false_eq_true, if_false, h1, h2, hcount, hmost, hc, Option.bind_some]
    rw [if_pos (by omega)]
    simp only [Int.toNat_natCast, busbars_loop hK a1 hlen hx, tu1, Option.bind_some, law_l0 hK a1 hlen (show c ≤ 100 by omega)]
    rw [index_prog K n.Nodes s (by omega) (by omega), has_ref K n.Nodes s (by omega) (by omega), posS_has]
    have hrl : (rowsS n xs c xs.length).length = c := by simp [rowsS]
    have hpos := posS_range n.Nodes s
    simp only [Option.bind_some, bne_self_eq_false, Bool.false_eq_true, if_false, hrl, bindS, tu0]
    by_cases hp : posS n.Nodes s < 0
    · have hp' : ¬ 0 ≤ posS n.Nodes s := by omega
      simp [hp, hp', tu1]
    · have hp' : 0 ≤ posS n.Nodes s := by omega
      have hil := iso_len n s n.Switches.length
      simp only [hp, hp', decide_false, decide_true, Bool.false_eq_true, if_false, Bool.not_true, Option.bind_some, bne_self_eq_false, iso_prog hK a2 s, iso_ref hK a2 s, beq_self_eq_true, if_true, equal_self_str (K := K) (isoS n s n.Switches.length) (by omega) (by omega)]
  · have hb : (netS n != 0) = true := by simpa using h0
    simp only [hb, if_true, Option.bind_some, beq_self_eq_true, lt, w00, tu1]
def I_Switch (B : Nat) (x : Switch) : Prop := x.Name.size ≤ B ∧ x.A.size ≤ B ∧ x.B.size ≤ B ∧ True ∧ True
def I_Branch (B : Nat) (x : Branch) : Prop := x.Name.size ≤ B ∧ x.From.size ≤ B ∧ x.To.size ≤ B ∧ krange .i64 x.X = true ∧ krange .i64 x.Tap = true ∧ krange .i64 x.Shift = true ∧ krange .i64 x.Limit = true ∧ krange .i64 x.Short = true ∧ krange .i64 x.Hold = true
def I_Gen (B : Nat) (x : Gen) : Prop := x.Name.size ≤ B ∧ x.Node.size ≤ B ∧ krange .i64 x.Least = true ∧ krange .i64 x.Most = true ∧ krange .i64 x.Ramp = true
def I_Load_ (B : Nat) (x : Load_) : Prop := x.Name.size ≤ B ∧ x.Node.size ≤ B ∧ krange .i64 x.Demand = true
def I_Store (B : Nat) (x : Store) : Prop := x.Name.size ≤ B ∧ x.Node.size ≤ B ∧ krange .i64 x.Charge = true ∧ krange .i64 x.Discharge = true ∧ krange .i64 x.Capacity = true
def I_Network (B : Nat) (x : Network) : Prop := (x.Nodes.length ≤ B ∧ ∀ y ∈ x.Nodes, y.size ≤ B) ∧ (x.Switches.length ≤ B ∧ ∀ y ∈ x.Switches, I_Switch B y) ∧ (x.Branches.length ≤ B ∧ ∀ y ∈ x.Branches, I_Branch B y) ∧ (x.Gens.length ≤ B ∧ ∀ y ∈ x.Gens, I_Gen B y) ∧ (x.Loads.length ≤ B ∧ ∀ y ∈ x.Loads, I_Load_ B y) ∧ (x.Stores.length ≤ B ∧ ∀ y ∈ x.Stores, I_Store B y)
theorem fits_of {n : Network} (h : I_Network 1048576 n) : Fits 1048577 n := by
  obtain ⟨h1, h2, h3, h4, h5, h6⟩ := h
  have sh : ∀ s : ByteArray, s.size ≤ 1048576 → Sh 1048577 s := fun s h => ⟨by omega, h⟩
  exact ⟨by omega, fun s q => sh s (h1.2 s q), fun x q => sh _ (h2.2 x q).1, fun x q => sh _ (h3.2 x q).1, fun x q => sh _ (h4.2 x q).1, fun x q => sh _ (h5.2 x q).1, fun x q => sh _ (h6.2 x q).1⟩
theorem stationBuses_true {n : Network} {s : ByteArray} (h : I_Network 1048576 n) (hs : s.size ≤ 1048576) : ∃ K, g_law_StationBuses K n s = some true :=
  ⟨1048577, by rw [buses_law (fits_of h) s]; rfl⟩
end Go.Am.Try
