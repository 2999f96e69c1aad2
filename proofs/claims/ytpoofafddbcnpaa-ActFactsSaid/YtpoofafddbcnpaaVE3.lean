/- slices.SortFunc at this program's structs, as the kit proves it. -/
import Derived.Shelf.SlSortCmp.NoneTotal
import Derived.Test.YtpoofafddbcnpaaProg
import Derived.Test.YtpoofafddbcnpaaVLgSort
import Derived.Test.YtpoofafddbcnpaaVC1
namespace Vg.G3
open Go Go.Shelf Go.Proofs Go.RowKit Lg
def sfren : Ren := {
  f := fun x => match x with
    | 6 => 53
    | 15 => 73
    | 14 => 72
    | 28 => 90
    | 29 => 91
    | 20 => 82
    | 21 => 83
    | 22 => 84
    | 23 => 85
    | 24 => 86
    | 25 => 87
    | 26 => 88
    | 27 => 89
    | 46 => 102
    | 47 => 103
    | 48 => 104
    | 49 => 105
    | 50 => 106
    | 57 => 110
    | n => n,
  t := fun x => match x with
    | 22 => 49
    | 24 => 53
    | 25 => 104
    | 3 => 3
    | 39 => 119
    | 0 => 0
    | 53 => 135
    | 55 => 137
    | 4 => 4
    | 46 => 128
    | 45 => 127
    | 50 => 132
    | 5 => 5
    | 9 => 9
    | 66 => 145
    | 70 => 149
    | 76 => 153
    | 77 => 154
    | n => n,
  g := fun x => x }
theorem sflays : SlLaysF0.n6 Try.prog sfren where
  mixed := by kernel_rfl
  f6 := ⟨Try.f53.name, by kernel_rfl, by kernel_rfl⟩
  f14 := ⟨Try.f72.name, by kernel_rfl, by kernel_rfl⟩
  f15 := by kernel_rfl
  f20 := ⟨Try.f82.name, by kernel_rfl, by kernel_rfl⟩
  f21 := ⟨Try.f83.name, by kernel_rfl, by kernel_rfl⟩
  f22 := ⟨Try.f84.name, by kernel_rfl, by kernel_rfl⟩
  f23 := ⟨Try.f85.name, by kernel_rfl, by kernel_rfl⟩
  f24 := ⟨Try.f86.name, by kernel_rfl, by kernel_rfl⟩
  f25 := ⟨Try.f87.name, by kernel_rfl, by kernel_rfl⟩
  f26 := ⟨Try.f88.name, by kernel_rfl, by kernel_rfl⟩
  f27 := ⟨Try.f89.name, by kernel_rfl, by kernel_rfl⟩
  f28 := by kernel_rfl
  f29 := by kernel_rfl
  f46 := ⟨Try.f102.name, by kernel_rfl, by kernel_rfl⟩
  f47 := by kernel_rfl
  f48 := by kernel_rfl
  f49 := ⟨Try.f105.name, by kernel_rfl, by kernel_rfl⟩
  f50 := ⟨Try.f106.name, by kernel_rfl, by kernel_rfl⟩
  f57 := ⟨Try.f110.name, by kernel_rfl, by kernel_rfl⟩
  t0 := Try.underlying0
  a0 := Try.isAgg0
  z0 := Try.sizeOf0
  v0 := Try.zeroValue0
  t3 := Try.underlying3
  a3 := Try.isAgg3
  z3 := Try.sizeOf3
  v3 := Try.zeroValue3
  t4 := Try.underlying4
  a4 := Try.isAgg4
  z4 := Try.sizeOf4
  v4 := Try.zeroValue4
  t5 := Try.underlying5
  a5 := Try.isAgg5
  z5 := Try.sizeOf5
  v5 := Try.zeroValue5
  t9 := Try.underlying9
  a9 := Try.isAgg9
  z9 := Try.sizeOf9
  v9 := Try.zeroValue9
  t22 := Try.underlying49
  a22 := Try.isAgg49
  z22 := Try.sizeOf49
  v22 := Try.zeroValue49
  t25 := Try.underlying104
  a25 := Try.isAgg104
  z25 := Try.sizeOf104
  v25 := Try.zeroValue104
  t39 := Try.underlying119
  a39 := Try.isAgg119
  z39 := Try.sizeOf119
  v39 := Try.zeroValue119
  t45 := Try.underlying127
  a45 := Try.isAgg127
  z45 := Try.sizeOf127
  v45 := Try.zeroValue127
  t46 := Try.underlying128
  a46 := Try.isAgg128
  z46 := Try.sizeOf128
  v46 := Try.zeroValue128
  t50 := Try.underlying132
  a50 := Try.isAgg132
  z50 := Try.sizeOf132
  v50 := Try.zeroValue132
  t53 := Try.underlying135
  a53 := Try.isAgg135
  z53 := Try.sizeOf135
  v53 := Try.zeroValue135
  t55 := Try.underlying137
  a55 := Try.isAgg137
  z55 := Try.sizeOf137
  v55 := Try.zeroValue137
  t66 := Try.underlying145
  a66 := Try.isAgg145
  z66 := Try.sizeOf145
  v66 := Try.zeroValue145
  t70 := Try.underlying149
  a70 := Try.isAgg149
  z70 := Try.sizeOf149
  v70 := Try.zeroValue149
  t76 := Try.underlying153
  a76 := Try.isAgg153
  z76 := Try.sizeOf153
  v76 := Try.zeroValue153
  t77 := Try.underlying154
  a77 := Try.isAgg154
  z77 := Try.sizeOf154
  v77 := Try.zeroValue154
def ssren : Ren := {
  f := fun x => match x with
    | 6 => 61
    | 15 => 73
    | 14 => 77
    | 28 => 90
    | 29 => 91
    | 20 => 93
    | 21 => 94
    | 22 => 95
    | 23 => 96
    | 24 => 97
    | 25 => 98
    | 26 => 99
    | 27 => 100
    | 46 => 107
    | 47 => 103
    | 48 => 104
    | 49 => 108
    | 50 => 109
    | 57 => 111
    | n => n,
  t := fun x => match x with
    | 22 => 40
    | 24 => 39
    | 25 => 65
    | 3 => 3
    | 39 => 119
    | 0 => 0
    | 53 => 135
    | 55 => 137
    | 4 => 4
    | 46 => 128
    | 45 => 127
    | 50 => 132
    | 5 => 5
    | 9 => 9
    | 66 => 145
    | 70 => 149
    | 76 => 153
    | 77 => 154
    | n => n,
  g := fun x => x }
theorem sslays : SlLaysF0.n6 Try.prog ssren where
  mixed := by kernel_rfl
  f6 := ⟨Try.f61.name, by kernel_rfl, by kernel_rfl⟩
  f14 := ⟨Try.f77.name, by kernel_rfl, by kernel_rfl⟩
  f15 := by kernel_rfl
  f20 := ⟨Try.f93.name, by kernel_rfl, by kernel_rfl⟩
  f21 := ⟨Try.f94.name, by kernel_rfl, by kernel_rfl⟩
  f22 := ⟨Try.f95.name, by kernel_rfl, by kernel_rfl⟩
  f23 := ⟨Try.f96.name, by kernel_rfl, by kernel_rfl⟩
  f24 := ⟨Try.f97.name, by kernel_rfl, by kernel_rfl⟩
  f25 := ⟨Try.f98.name, by kernel_rfl, by kernel_rfl⟩
  f26 := ⟨Try.f99.name, by kernel_rfl, by kernel_rfl⟩
  f27 := ⟨Try.f100.name, by kernel_rfl, by kernel_rfl⟩
  f28 := by kernel_rfl
  f29 := by kernel_rfl
  f46 := ⟨Try.f107.name, by kernel_rfl, by kernel_rfl⟩
  f47 := by kernel_rfl
  f48 := by kernel_rfl
  f49 := ⟨Try.f108.name, by kernel_rfl, by kernel_rfl⟩
  f50 := ⟨Try.f109.name, by kernel_rfl, by kernel_rfl⟩
  f57 := ⟨Try.f111.name, by kernel_rfl, by kernel_rfl⟩
  t0 := Try.underlying0
  a0 := Try.isAgg0
  z0 := Try.sizeOf0
  v0 := Try.zeroValue0
  t3 := Try.underlying3
  a3 := Try.isAgg3
  z3 := Try.sizeOf3
  v3 := Try.zeroValue3
  t4 := Try.underlying4
  a4 := Try.isAgg4
  z4 := Try.sizeOf4
  v4 := Try.zeroValue4
  t5 := Try.underlying5
  a5 := Try.isAgg5
  z5 := Try.sizeOf5
  v5 := Try.zeroValue5
  t9 := Try.underlying9
  a9 := Try.isAgg9
  z9 := Try.sizeOf9
  v9 := Try.zeroValue9
  t22 := Try.underlying40
  a22 := Try.isAgg40
  z22 := Try.sizeOf40
  v22 := Try.zeroValue40
  t25 := Try.underlying65
  a25 := Try.isAgg65
  z25 := Try.sizeOf65
  v25 := Try.zeroValue65
  t39 := Try.underlying119
  a39 := Try.isAgg119
  z39 := Try.sizeOf119
  v39 := Try.zeroValue119
  t45 := Try.underlying127
  a45 := Try.isAgg127
  z45 := Try.sizeOf127
  v45 := Try.zeroValue127
  t46 := Try.underlying128
  a46 := Try.isAgg128
  z46 := Try.sizeOf128
  v46 := Try.zeroValue128
  t50 := Try.underlying132
  a50 := Try.isAgg132
  z50 := Try.sizeOf132
  v50 := Try.zeroValue132
  t53 := Try.underlying135
  a53 := Try.isAgg135
  z53 := Try.sizeOf135
  v53 := Try.zeroValue135
  t55 := Try.underlying137
  a55 := Try.isAgg137
  z55 := Try.sizeOf137
  v55 := Try.zeroValue137
  t66 := Try.underlying145
  a66 := Try.isAgg145
  z66 := Try.sizeOf145
  v66 := Try.zeroValue145
  t70 := Try.underlying149
  a70 := Try.isAgg149
  z70 := Try.sizeOf149
  v70 := Try.zeroValue149
  t76 := Try.underlying153
  a76 := Try.isAgg153
  z76 := Try.sizeOf153
  v76 := Try.zeroValue153
  t77 := Try.underlying154
  a77 := Try.isAgg154
  z77 := Try.sizeOf154
  v77 := Try.zeroValue154
theorem three (x : RowN 3) : ∃ a b c, x.1 = [a, b, c] := by
  obtain ⟨l, h⟩ := x
  match l, h with
  | [a, b, c], _ => exact ⟨a, b, c, rfl⟩
theorem five (x : RowN 5) : ∃ a b c d e, x.1 = [a, b, c, d, e] := by
  obtain ⟨l, h⟩ := x
  match l, h with
  | [a, b, c, d, e], _ => exact ⟨a, b, c, d, e, rfl⟩
theorem ints_vr (ρ : List Lg.Place) (l : List Int) : VR ρ (.agg (l.map (Value.int .i64)).toArray) (.agg (l.map (LV.int .i64))) :=
  .agg _ _ (by simp) fun i v l' hv hl => by
    simp only [List.getElem?_toArray, List.getElem?_map] at hv hl
    obtain ⟨z, hz, rfl⟩ := Option.map_eq_some_iff.1 hv
    rw [hz] at hl; cases hl
    exact .int _ _
theorem ints_rv2 (w : Own) (φ : List Nat) (lh : Heap) (l : List Int) : RV w φ lh (.agg (l.map (VV.int .i64))) (.agg (l.map (LV.int .i64))) :=
  .agg _ _ (by simp) fun i v l' hv hl => by
    simp only [List.getElem?_map] at hv hl
    obtain ⟨z, hz, rfl⟩ := Option.map_eq_some_iff.1 hv
    rw [hz] at hl; cases hl
    exact .int _ _
theorem cmpLays_of {g k : Nat} (hE : ∀ x y : RowN k, callVL G3c.vp 0 g [.agg (x.1.map (VV.int .i64)), .agg (y.1.map (VV.int .i64))] [] = some (.int .i64 (cmpI x.1 y.1), [])) (blk off size : Nat) (w : World) :
    CmpLays Try.prog g #[] (encR (k := k)) k cfR blk off size w := by
  intro m os dk _ x y
  have h := calls_int G3c.lp_ok G3c.vp_link (hE x y) (Rep.start (sortWorldK encR k w blk off m dk os)) (vs := #[.agg (encR x).toArray, .agg (encR y).toArray]) (.cons (ints_vr _ _) (.cons (ints_vr _ _) (.nil _))) (.cons (ints_rv2 _ _ _ _) (.cons (ints_rv2 _ _ _ _) .nil))
  refine (show Calls Try.prog g #[.agg (encR x).toArray, .agg (encR y).toArray] _ _ from h.mono ?_)
  rintro e w' ⟨rfl, hb, hd⟩
  exact ⟨rfl, grow_of hb hd⟩
theorem cmpLays_fact (blk off size : Nat) (w : World) : CmpLays Try.prog 54 #[] (encR (k := 3)) 3 cfR blk off size w :=
  cmpLays_of (fun x y => by
    obtain ⟨a, b, c, hx⟩ := three x
    obtain ⟨a', b', c', hy⟩ := three y
    rw [hx, hy]
    exact G3c.factCompare_spec a b c a' b' c' 0 []) blk off size w
theorem cmpLays_step (blk off size : Nat) (w : World) : CmpLays Try.prog 35 #[] (encR (k := 5)) 5 cfR blk off size w :=
  cmpLays_of (fun x y => by
    obtain ⟨a, b, c, d, e, hx⟩ := five x
    obtain ⟨a', b', c', d', e', hy⟩ := five y
    rw [hx, hy]
    exact G3c.actCompare_spec a b c d e a' b' c' d' e' 0 []) blk off size w
theorem sortFact_ext (m : Bool) : ExtOK m Try.prog 53 (sortF 3 54) :=
  sort_ok ⟨_, Try.func53, by kernel_rfl, by decide⟩ (by decide)
    (fun blk off cap d w hH hb hs => AnyQ.slices_SortFunc_total sflays 3 Try.isAgg53 Try.sizeOf53 encR encR_len encR_one cfR (swoR 3) 54 #[] blk off cap d w (enters_of Try.func54 (by kernel_rfl) rfl) (cmpLays_fact blk off d.size w) hH hb hs (totR 3))
    (fun p cap fv w => AnyF.slices_SortFunc_none sflays p cap fv w)
theorem sortStep_ext (m : Bool) : ExtOK m Try.prog 61 (sortF 5 35) :=
  sort_ok ⟨_, Try.func61, by kernel_rfl, by decide⟩ (by decide)
    (fun blk off cap d w hH hb hs => AnyQ.slices_SortFunc_total sslays 5 Try.isAgg39 Try.sizeOf39 encR encR_len encR_one cfR (swoR 5) 35 #[] blk off cap d w (enters_of Try.func35 (by kernel_rfl) rfl) (cmpLays_step blk off d.size w) hH hb hs (totR 5))
    (fun p cap fv w => AnyF.slices_SortFunc_none sslays p cap fv w)
end Vg.G3
