/- strings.Join, as the kit proves it, over this program. -/
import Derived.Shelf.Strings.OnBuilder
import Derived.Test.YtpclbojoknhnlaaDoorProg
import Derived.Test.YtpclbojoknhnlaaDoorVLgExt
namespace Vg.G3
open Go Go.Shelf Go.Proofs Go.RowKit Lg
def jren : Ren := {
  f := fun x => match x with
    | 156 => 148
    | 165 => 159
    | 166 => 160
    | 169 => 161
    | 240 => 177
    | 241 => 178
    | 276 => 186
    | 277 => 187
    | n => n,
  t := fun x => match x with
    | 31 => 133
    | 9 => 9
    | 3 => 3
    | 4 => 4
    | 0 => 0
    | 20 => 20
    | 72 => 214
    | 76 => 218
    | 70 => 212
    | 37 => 167
    | 75 => 217
    | 127 => 234
    | 164 => 241
    | 5 => 5
    | 80 => 220
    | n => n,
  g := fun x => x }
theorem jlays : Lays.n156 Tryd.prog jren where
  mixed := by kernel_rfl
  f156 := by kernel_rfl
  f165 := by kernel_rfl
  f166 := by kernel_rfl
  f169 := by kernel_rfl
  f240 := by kernel_rfl
  f241 := by kernel_rfl
  f276 := by kernel_rfl
  f277 := by kernel_rfl
  t0 := Tryd.underlying0
  a0 := Tryd.isAgg0
  z0 := Tryd.sizeOf0
  v0 := Tryd.zeroValue0
  t3 := Tryd.underlying3
  a3 := Tryd.isAgg3
  z3 := Tryd.sizeOf3
  v3 := Tryd.zeroValue3
  t4 := Tryd.underlying4
  a4 := Tryd.isAgg4
  z4 := Tryd.sizeOf4
  v4 := Tryd.zeroValue4
  t9 := Tryd.underlying9
  a9 := Tryd.isAgg9
  z9 := Tryd.sizeOf9
  v9 := Tryd.zeroValue9
  t20 := Tryd.underlying20
  a20 := Tryd.isAgg20
  z20 := Tryd.sizeOf20
  v20 := Tryd.zeroValue20
  t31 := Tryd.underlying133
  a31 := Tryd.isAgg133
  z31 := Tryd.sizeOf133
  v31 := Tryd.zeroValue133
  t37 := Tryd.underlying167
  a37 := Tryd.isAgg167
  z37 := Tryd.sizeOf167
  v37 := Tryd.zeroValue167
  t70 := Tryd.underlying212
  a70 := Tryd.isAgg212
  z70 := Tryd.sizeOf212
  v70 := Tryd.zeroValue212
  t72 := Tryd.underlying214
  a72 := Tryd.isAgg214
  z72 := Tryd.sizeOf214
  v72 := Tryd.zeroValue214
  t75 := Tryd.underlying217
  a75 := Tryd.isAgg217
  z75 := Tryd.sizeOf217
  v75 := Tryd.zeroValue217
  t76 := Tryd.underlying218
  a76 := Tryd.isAgg218
  z76 := Tryd.sizeOf218
  v76 := Tryd.zeroValue218
  t127 := Tryd.underlying234
  a127 := Tryd.isAgg234
  z127 := Tryd.sizeOf234
  v127 := Tryd.zeroValue234
  t164 := Tryd.underlying241
  a164 := Tryd.isAgg241
  z164 := Tryd.sizeOf241
  v164 := Tryd.zeroValue241
theorem jextra : Builder.Extra Tryd.prog jren where
  sizeBuilder := by kernel_rfl
  liesBuilder := by kernel_rfl
  t5 := Tryd.underlying5
  a5 := Tryd.isAgg5
  z5 := Tryd.sizeOf5
  v5 := Tryd.zeroValue5
  infoByte := by kernel_rfl
  cellsByte := by kernel_rfl
  sizeByte := by kernel_rfl
  neB5 := by decide
theorem join_one (bk o c : Nat) (xs : List ByteArray) (sep : ByteArray) (w : World)
    (hcells : ∀ (j : Nat) x, xs[j]? = some x → w.cell? ⟨bk, o + j, none⟩ = some (.string x))
    (hbk : bk < w.heap.size) (hN : xs.length ≤ 140737488355328) (hcap : xs.length ≤ c)
    (hlen : (Lib.join (xs.map (·.data.toList)) sep.data.toList).length ≤ 140737488355328) :
    Calls Tryd.prog 148 #[.slice (some ⟨bk, o, none⟩) xs.length c, .string sep] w fun e w' => e = .returned (.string ⟨(Lib.join (xs.map (·.data.toList)) sep.data.toList).toArray⟩) ∧ Below w.heap.size w w' := Any.strings_Join jlays jextra bk o c xs sep w hcells hbk hN hcap hlen
theorem join_none (a : Option Addr) (c : Nat) (sep : ByteArray) (w : World) :
    Calls Tryd.prog 148 #[.slice a 0 c, .string sep] w fun e w' => e = .returned (.string ⟨#[]⟩) ∧ w' = w := Any.strings_Join_none jlays jextra a c sep w
theorem strings_Join_ext : ExtOK false Tryd.prog 148 (ext2 .join) := join_ok ⟨_, Tryd.func148, by kernel_rfl, by decide⟩ join_one join_none
end Vg.G3
