/- slices.SortFunc at rows of numbers, as an operation of the logical machine. -/
import Derived.Test.YtpoofafddbcnpaaVLgExt
import Derived.Shelf.SlSortCmp.WholeK
import Derived.Sort.LotA
namespace Lg
open Go Go.RowKit Go.Proofs Go.Sort
set_option linter.unusedSimpArgs false
set_option linter.unusedVariables false
/-- A row of k numbers. -/
abbrev RowN (k : Nat) := {l : List Int // l.length = k}
instance (k : Nat) : Inhabited (RowN k) := ⟨⟨List.replicate k 0, by simp⟩⟩
def encR {k : Nat} (x : RowN k) : List Value := x.1.map (Value.int .i64)
def cfR {k : Nat} (x y : RowN k) : Int := cmpI x.1 y.1
theorem encR_len {k : Nat} (x : RowN k) : (encR x).length = k := by simp [encR, x.2]
theorem encR_one {k : Nat} (x : RowN k) : ∀ v ∈ encR x, v.oneCell' = true := fun v hv => by
  obtain ⟨n, _, rfl⟩ := List.mem_map.1 hv; rfl
theorem cmpI_self : ∀ l : List Int, cmpI l l = 0
  | [] => rfl
  | a :: l => by simp [cmpI, cmpI_self l]
theorem cmpI_lt : ∀ {x y : List Int}, x.length = y.length → (cmpI x y < 0 ↔ x < y)
  | [], [], _ => by simp [cmpI]
  | a :: x, b :: y, h => by
    have ih := @cmpI_lt x y (by simpa using h)
    simp only [cmpI, List.cons_lt_cons_iff]
    split
    · rename_i h1; simp [h1]
    · split
      · rename_i h1 h2; simp; omega
      · rename_i h1 h2
        have : a = b := by omega
        subst this
        simp [ih]
  | [], _ :: _, h => by simp at h
  | _ :: _, [], h => by simp at h
theorem ltR_iff {k : Nat} (x y : RowN k) : ltOf cfR x y = true ↔ x.1 < y.1 := by
  unfold ltOf cfR
  rw [decide_eq_true_eq]
  exact cmpI_lt (by rw [x.2, y.2])
theorem swoR (k : Nat) : SWO (ltOf (cfR (k := k))) := by
  refine ⟨fun x => ?_, fun x y z h1 h2 => ?_, fun x y z h1 h2 => ?_⟩
  · rw [← Bool.not_eq_true, ltR_iff]; exact List.lt_irrefl _
  · rw [ltR_iff] at h1 h2 ⊢; exact List.lt_trans h1 h2
  · rw [← Bool.not_eq_true, ltR_iff, List.not_lt] at h1 h2 ⊢; exact List.le_trans h2 h1
theorem totR (k : Nat) (x y : RowN k) (h1 : ltOf cfR x y = false) (h2 : ltOf cfR y x = false) : x = y := by
  rw [← Bool.not_eq_true, ltR_iff, List.not_lt] at h1 h2
  exact Subtype.ext (List.le_antisymm h2 h1)
/-- Draws and new blocks, no more. -/
theorem grow_of {w w' : World} (b : Go.RowKit.Below w.heap.size w w') (hd : w.drawn ≤ w'.drawn) : ∃ q os, w' = grow (w.drewN q) os := by
  refine ⟨w'.drawn - w.drawn, w'.heap.extract w.heap.size w'.heap.size, ?_⟩
  have hh : w'.heap = w.heap ++ w'.heap.extract w.heap.size w'.heap.size := by
    apply Array.ext_getElem?
    intro i
    rcases Nat.lt_or_ge i w.heap.size with hi | hi
    · rw [b.block i hi, Array.getElem?_append_left hi]
    · rw [Array.getElem?_append_right hi]
      have := b.size
      rcases Nat.lt_or_ge i w'.heap.size with h2 | h2
      · rw [Array.getElem?_extract, if_pos (by omega)]
        congr 1; omega
      · rw [Array.getElem?_eq_none h2, Array.getElem?_eq_none (by simp; omega)]
  cases w with | mk h t d o out =>
  cases w' with | mk h' t' d' o' out' =>
  obtain ⟨e1, e2, e3, e4, e5⟩ := b
  simp only at e1 e2 e3 hh hd
  subst e1; subst e2; subst e3
  simp only [grow, World.drewN]
  congr 1
  omega
theorem chunkI_len (es : Nat) : ∀ (n : Nat) (l : List Int), l.length = n * es → ∀ r ∈ chunkI es n l, r.length = es
  | 0, _, _, r, hr => by cases hr
  | n + 1, l, h, r, hr => by
    rw [Nat.succ_mul] at h
    rcases List.mem_cons.1 hr with rfl | hr
    · rw [List.length_take]; omega
    · exact chunkI_len es n _ (by rw [List.length_drop]; omega) r hr
theorem chunkI_count (es : Nat) : ∀ (n : Nat) (l : List Int), (chunkI es n l).length = n
  | 0, _ => rfl
  | n + 1, l => by simp [chunkI, chunkI_count es n]
theorem chunkI_flat (es : Nat) : ∀ (n : Nat) (l : List Int), l.length = n * es → (chunkI es n l).flatten = l
  | 0, l, h => by simp at h; simp [chunkI, h]
  | n + 1, l, h => by
    rw [Nat.succ_mul] at h
    simp only [chunkI, List.flatten_cons]
    rw [chunkI_flat es n _ (by rw [List.length_drop]; omega), List.take_append_drop]
theorem flatG_len {β : Type} {k : Nat} : ∀ {rows : List (List β)}, (∀ r ∈ rows, r.length = k) → rows.flatten.length = rows.length * k
  | [], _ => by simp
  | r :: rows, h => by
    rw [List.flatten_cons, List.length_append, h r (by simp), flatG_len fun x hx => h x (by simp [hx]), List.length_cons, Nat.succ_mul, Nat.add_comm]
theorem flatG_get {β : Type} {k : Nat} : ∀ {rows : List (List β)}, (∀ r ∈ rows, r.length = k) → ∀ {i j : Nat} {row : List β}, rows[i]? = some row → j < k → rows.flatten[i * k + j]? = row[j]?
  | [], _, _, _, _, h, _ => by simp at h
  | r :: rows, h, 0, j, row, hi, hj => by
    simp at hi; subst hi
    rw [List.flatten_cons, Nat.zero_mul, Nat.zero_add, List.getElem?_append_left (by rw [h r (by simp)]; exact hj)]
  | r :: rows, h, i + 1, j, row, hi, hj => by
    have hr := h r (by simp)
    rw [List.flatten_cons, List.getElem?_append_right (by rw [hr, Nat.succ_mul]; omega), hr, ← flatG_get (rows := rows) (fun x hx => h x (List.mem_cons_of_mem _ hx)) (i := i) (row := row) (by simpa using hi) hj]
    congr 1; rw [Nat.succ_mul]; omega
theorem flatK_list {k : Nat} (d : Array (RowN k)) : (flatK encR k d).toList = (d.toList.map encR).flatten := by
  have hl : ∀ r ∈ d.toList.map (encR (k := k)), r.length = k := fun r hr => by obtain ⟨x, _, rfl⟩ := List.mem_map.1 hr; exact encR_len x
  have h1 : (d.toList.map (encR (k := k))).flatten.length = d.size * k := by rw [flatG_len hl, List.length_map, Array.length_toList]
  apply List.ext_getElem?
  intro t
  rcases Nat.lt_or_ge t (d.size * k) with ht | ht
  · have hk : 0 < k := by rcases Nat.eq_zero_or_pos k with h | h
                          · subst h; simp at ht
                          · exact h
    have hq : t / k < d.size := (Nat.div_lt_iff_lt_mul hk).2 ht
    have hm := Nat.mod_lt t hk
    have e := flatG_get hl (i := t / k) (j := t % k) (row := encR d[t / k]!) (by rw [List.getElem?_map, Array.getElem?_toList, Array.getElem?_eq_getElem hq, Option.map_some, getElem!_pos d _ hq]) hm
    rw [show t / k * k + t % k = t by rw [Nat.mul_comm]; exact Nat.div_add_mod t k] at e
    rw [e, Array.getElem?_toList, Array.getElem?_eq_getElem (by rw [size_flatK]; exact ht)]
    have := get_flatK encR k d t ht
    rw [getElem!_pos (flatK encR k d) t (by rw [size_flatK]; exact ht)] at this
    rw [this, List.getElem?_eq_getElem (by rw [encR_len]; exact hm), getElem!_pos _ _ (by rw [encR_len]; exact hm)]
  · rw [List.getElem?_eq_none (by rw [Array.length_toList, size_flatK]; exact ht), List.getElem?_eq_none (by rw [h1]; exact ht)]
def toRow (k : Nat) (l : List Int) : RowN k := if h : l.length = k then ⟨l, h⟩ else default
theorem toRow_val {k : Nat} {l : List Int} (h : l.length = k) : (toRow k l).1 = l := by unfold toRow; rw [dif_pos h]
/-- The library's sort, of rows of k numbers by the function g. -/
def sortF (k : Nat) (g : FuncId) : LFunc := ⟨3, 2, [], .ops [⟨none, none, .rewr (.sort k) k g (.t 0) (.t 1)⟩]⟩
theorem sort_rows {k n : Nat} {l : List Int} (hl : l.length = n * k) : ((((chunkI k n l).map (toRow k)).mergeSort fun x y => !(ltOf cfR) y x).map fun x => x.1) = sortI (chunkI k n l) := by
  have hr := chunkI_len k n l hl
  have e : ((chunkI k n l).map (toRow k)).map (fun x => x.1) = chunkI k n l := by
    rw [List.map_map]
    conv => rhs; rw [← List.map_id (chunkI k n l)]
    exact List.map_congr_left fun r hr' => toRow_val (hr r hr')
  unfold sortI
  have h1 := List.map_mergeSort (r := fun x y => !(ltOf (cfR (k := k)) y x)) (s := fun x y => !decide (cmpI y x < 0)) (f := fun x : RowN k => x.1) (l := (chunkI k n l).map (toRow k)) (fun a _ b _ => rfl)
  rw [h1, e]
theorem intsOf_map : ∀ {cs : List LV} {l : List Int}, intsOf cs = some l → cs = l.map (LV.int .i64)
  | [], l, h => by cases h; rfl
  | c :: cs, l, h => by
    unfold intsOf at h
    split at h
    · rename_i e; cases e
    · rename_i n r e
      cases e
      split at h
      · rename_i l' hl
        cases h
        rw [intsOf_map hl]; rfl
      · cases h
    · cases h
theorem setMany_all (F : Array Value) (vs : List Value) (h : vs.length = F.size) : setMany F 0 vs = vs.toArray := by
  refine ext_get! (by simp [h]) fun t ht => ?_
  have ht' : t < F.size := by simpa using ht
  rw [get_setMany _ _ _ t ht', if_pos ⟨Nat.zero_le _, by omega⟩, Nat.sub_zero, getElem!_pos vs.toArray t (by simp; omega), getElem!_pos vs t (by omega)]
  simp
variable {m : Bool} {P : Program} {f g : FuncId} {k : Nat}
theorem sort_ok (hf : ∃ fn, P.funcs[f]? = some fn ∧ fn.body.isSome = true ∧ fn.name ≠ "runtime.NumGoroutine") (hk : 0 < k)
    (hs : ∀ (blk off cap : Nat) (d : Array (RowN k)) (w : World), HoldsK encR k w blk off d → blk < w.heap.size → d.size < 4611686018427387904 →
      Calls P f #[.slice (some ⟨blk, off, none⟩) d.size cap, .func (.func g) #[] #[]] w fun e w' => e = .returned (.tuple #[]) ∧ ∃ n os, w' = sortWorldK encR k w blk off n (d.toList.mergeSort fun x y => !(ltOf cfR) y x).toArray os)
    (h0 : ∀ (p : Option Addr) (cap : Nat) (fv : Value) (w : World), Calls P f #[.slice p 0 cap, fv] w fun e w' => e = .returned (.tuple #[]) ∧ w' = w) : ExtOK m P f (sortF k g) := by
  refine ⟨hf, fun cs K args h Q hb w0 ρ w vs R hv => ?_⟩
  obtain ⟨hlen, hb⟩ := hb
  obtain ⟨a, b, rfl⟩ : ∃ a b, args = [a, b] := by
    match args, hlen with
    | [a, b], _ => exact ⟨a, b, rfl⟩
  clear hlen
  obtain ⟨x, y, rfl, hx, hy⟩ := vrs_two hv
  simp only [sortF, codeS, opsS, operS, opS, opE] at hb
  obtain ⟨v, h', h3, _, vs', h5, hq⟩ := hb
  simp only [resultsE, Option.some.injEq] at h5
  subst h5
  have eb : X.ev ([a, b] ++ List.replicate (3 - 2) (.tup [])) (.t 1) = b := rfl
  have ea : X.ev ([a, b] ++ List.replicate (3 - 2) (.tup [])) (.t 0) = a := rfl
  rw [eb, ea] at h3
  split at h3
  case h_2 => cases h3
  rename_i g'
  split at h3
  case isFalse => cases h3
  rename_i hgg
  subst hgg
  have hyf : y = .func (.func g') #[] #[] := by
    generalize hly : LV.func g' [] = ly at hy
    cases hy with
    | func f cs ls hl hh =>
      cases hly
      have : cs = #[] := Array.eq_empty_of_size_eq_zero (by simpa using hl)
      rw [this]
    | _ => cases hly
  subst hyf
  have emp : ∀ (p : Option Addr) (cap : Nat), x = .slice p 0 cap → h' = h → Calls P f #[x, .func (.func g') #[] #[]] w fun e w' => ∃ v ρ' r h'', e = .returned v ∧ Ext ρ ρ' ∧ Rep w0 ρ' h'' w' ∧ VR ρ' v r ∧ Q r h'' := by
    rintro p cap rfl rfl
    refine (h0 p cap _ w).mono ?_
    rintro e w' ⟨rfl, rfl⟩
    exact ⟨_, ρ, _, h', rfl, Ext.refl _, R, VRs.tup (cs := #[]) (VRs.nil ρ), hq⟩
  split at h3
  · cases h3
    cases hx
    exact emp _ _ rfl rfl
  · rename_i n off len es fl
    split at h3
    · rename_i hl0
      subst hl0
      cases h3
      generalize hlx : LV.slice n off 0 es fl = lx at hx
      cases hx with
      | slice => cases hlx; exact emp _ _ rfl rfl
      | slice0 => exact emp _ _ rfl rfl
      | _ => cases hlx
    · rename_i hl0
      split at h3
      case isFalse => cases h3
      rename_i hes
      subst hes
      split at h3
      case h_2 => cases h3
      rename_i rw' lcs hblk
      split at h3
      case isFalse => cases h3
      rename_i hc
      obtain ⟨hrw, _, hle⟩ := hc
      subst hrw
      simp only [rwE] at h3
      split at h3
      case h_2 => cases h3
      rename_i out hout
      split at hout
      case h_2 => cases hout
      rename_i l hl
      split at hout
      case isFalse => cases hout
      rename_i hlt
      cases hout
      split at h3
      case isFalse => cases h3
      rename_i hol
      cases h3
      obtain ⟨pl, hpl⟩ := R.place hblk
      have hcl := intsOf_map hl
      have hll : l.length = len * es := by
        have := congrArg List.length hcl
        simp at this
        omega
      have hv : ∃ cap, x = .slice (some (pl.at off)) len cap ∧ len ≤ cap ∧ off + cap * es ≤ pl.ext := by
        generalize hlx : LV.slice n off len es fl = lx at hx
        cases hx with
        | slice h hc hx hf =>
          cases hlx
          rw [hpl] at h
          cases h
          exact ⟨_, rfl, hc, hx⟩
        | slice0 => injection hlx with _ _ e; omega
        | _ => cases hlx
      obtain ⟨cap, rfl, hcap, hext⟩ := hv
      obtain ⟨_, hext2, hcell, hfz⟩ := R.blk n _ pl hblk hpl
      let d : Array (RowN es) := ((chunkI es len l).map (toRow es)).toArray
      have hds : d.size = len := by simp [d, chunkI_count]
      have hrl := chunkI_len es len l hll
      have hfl : (flatK encR es d).toList = l.map (Value.int .i64) := by
        rw [flatK_list]
        have e1 : d.toList.map (encR (k := es)) = (chunkI es len l).map fun r => r.map (Value.int .i64) := by
          simp only [d, List.toList_toArray, List.map_map]
          exact List.map_congr_left fun r hr => by simp only [Function.comp, encR, toRow_val (hrl r hr)]
        rw [e1, ← List.map_flatten, chunkI_flat es len l hll]
      have hsz0 : (flatK encR es d).size = len * es := by rw [size_flatK, hds]
      have hH : HoldsK encR es w pl.block (pl.off + off) d := by
        intro j hj
        rw [hsz0] at hj
        have hjl : j < l.length := by omega
        have e1 : ((lcs.drop off).take (len * es))[j]? = some (LV.int .i64 l[j]) := by rw [hcl, List.getElem?_map, List.getElem?_eq_getElem hjl]; rfl
        rw [List.getElem?_take, if_pos hj, List.getElem?_drop] at e1
        obtain ⟨v, hv1, hv2⟩ := hcell _ _ e1
        have hb1 : off + j < pl.ext := by have := lt_of_getElem? e1; omega
        refine ⟨?_, (hfz rfl _ hb1).2 ▸ ?_⟩
        · have e2 : (flatK encR es d)[j]! = Value.int .i64 l[j] := by
            rw [getElem!_pos _ j (by rw [hsz0]; exact hj)]
            have := congrArg (fun q => q[j]?) hfl
            simp only [Array.getElem?_toList, List.getElem?_map] at this
            rw [Array.getElem?_eq_getElem (by rw [hsz0]; exact hj), List.getElem?_eq_getElem hjl] at this
            exact Option.some.inj this
          rw [e2]
          rw [hv2.int_inv] at hv1
          show w.cell? _ = some (Value.int .i64 l[j])
          rw [← hv1]; simp only [Place.at, Nat.add_assoc]
        · simp only [Place.at, Nat.add_assoc]
      have hblt : pl.block < w.heap.size := by
        rcases R.lt n pl hpl with h | h
        · exact h
        · have : 0 < len * es := Nat.mul_pos (by omega) hk
          have : len * es ≤ cap * es := Nat.mul_le_mul_right _ hcap
          omega
      have hcall := hs pl.block (pl.off + off) cap d w hH hblt (by rw [hds]; exact hlt)
      rw [hds] at hcall
      refine hcall.mono ?_
      rintro e w' ⟨rfl, nd, os, rfl⟩
      have hsr := sort_rows hll
      have hperm : ((((chunkI es len l).map (toRow es)).mergeSort fun x y => !(ltOf cfR) y x)).length = len := by rw [List.length_mergeSort, List.length_map, chunkI_count]
      have hfl2 : (flatK encR es (d.toList.mergeSort fun x y => !(ltOf cfR) y x).toArray).toList = (sortI (chunkI es len l)).flatten.map (Value.int .i64) := by
        rw [flatK_list, ← hsr]
        simp only [d, List.toList_toArray, List.map_flatten, List.map_map]
        rfl
      have hsz2 : (flatK encR es (d.toList.mergeSort fun x y => !(ltOf cfR) y x).toArray).size = len * es := by
        rw [size_flatK]; simp only [d, List.toList_toArray, List.size_toArray, hperm]
      have hvl : ((sortI (chunkI es len l)).flatten.map (Value.int .i64)).length = len * es := by rw [← hfl2, Array.length_toList, hsz2]
      have hw1 : w.setCells pl.block (pl.off + off) ((sortI (chunkI es len l)).flatten.map (Value.int .i64)) = putRowK encR es w pl.block (pl.off + off) (d.toList.mergeSort fun x y => !(ltOf cfR) y x).toArray := by
        have e0 := putRowK_self (enc := encR) (k := es) w pl.block (pl.off + off) d hH
        conv => lhs; rw [← e0]
        have e1 := setCells_putRow w pl.block (pl.off + off) ((sortI (chunkI es len l)).flatten.map (Value.int .i64)) 0 (flatK encR es d) (by rw [hsz0, hvl]; omega)
        rw [Nat.add_zero, setMany_all _ _ (by rw [hsz0, hvl])] at e1
        unfold putRowK
        rw [e1]
        congr 1
        apply Array.toList_inj.1
        rw [hfl2]
      have hvs : VRs ρ ((sortI (chunkI es len l)).flatten.map (Value.int .i64)) ((sortI (chunkI es len l)).flatten.map fun n => LV.int .i64 n) := by
        refine ⟨by rw [List.length_map, List.length_map], fun i v l' hv hl' => ?_⟩
        rw [List.getElem?_map] at hv hl'
        obtain ⟨z, hz, rfl⟩ := Option.map_eq_some_iff.1 hv
        rw [hz] at hl'; cases hl'
        exact .int _ _
      have hss : ((sortI (chunkI es len l)).flatten.map fun n => LV.int .i64 n).all LV.single = true := by
        rw [List.all_eq_true]; intro q hq'; obtain ⟨z, _, rfl⟩ := List.mem_map.1 hq'; rfl
      have hR1 := R.write hblk hpl off hss hvs (by rw [hol.1]; exact hle)
      have hR2 := hR1.grow (w' := sortWorldK encR es w pl.block (pl.off + off) nd (d.toList.mergeSort fun x y => !(ltOf cfR) y x).toArray os) ?_ ?_
      · exact ⟨_, ρ, _, _, rfl, Ext.refl _, hR2, VRs.tup (cs := #[]) (VRs.nil ρ), hq⟩
      · rw [hw1]
        refine ⟨rfl, rfl, rfl, ?_, fun i hi => ?_⟩
        · show _ ≤ ((putRowK encR es (Sort.ahead w nd) pl.block (pl.off + off) _).heap ++ os).size
          rw [Array.size_append]; exact Nat.le_add_right _ _
        · show ((putRowK encR es (Sort.ahead w nd) pl.block (pl.off + off) _).heap ++ os)[i]? = _
          exact Array.getElem?_append_left (xs := (putRowK encR es (Sort.ahead w nd) pl.block (pl.off + off) (d.toList.mergeSort fun x y => !(ltOf cfR) y x).toArray).heap) hi
      · intro _
        rw [hw1]
        show w.drawn ≤ w.drawn + nd
        omega
  · cases h3
end Lg
