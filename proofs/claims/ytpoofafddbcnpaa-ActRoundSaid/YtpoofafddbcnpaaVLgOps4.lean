/- Operations,continued: append,copy,make,lengths,maps. -/
import Derived.Test.YtpoofafddbcnpaaVLgOps3
import Derived.Laws.AppendOwn
import Derived.Laws.MakeOwn
namespace Lg
open Go Go.RowKit
set_option linter.unusedSimpArgs false
set_option linter.unusedVariables false
section
variable {P : Program} {m : Bool} {w0 : Ini m} {ρ : List Place} {h h' : Heap} {w : World} {a : Act} {env : Env} {cf : CallF} {lo : Nat} {l : LV}

theorem run_lenOf {v : Value} {lv : LV} {n : Nat} (hv : VR ρ v lv) (hn : lenOf lv = some n) (w : World) : (Builtin.lenOf v).run P w = .ok n w := by
  unfold lenOf at hn
  cases hv <;> simp at hn <;> subst hn <;> first | rfl | simp [Builtin.lenOf]

theorem bytes_vr (ρ : List Place) : ∀ (bs : List UInt8),VRs ρ (bs.map fun (b : UInt8) => Value.int .u8 b.toNat) (bs.map fun b => LV.int .u8 b.toNat)
  | [] => .nil ρ
  | b :: bs => .cons (.int _ _) (bytes_vr ρ bs)

/-- The cells that append and copy read. -/
theorem run_src {v : Value} {lv : LV} {es k : Nat} {new : List LV} (hv : VR ρ v lv) (hs : srcOf es h lv = some (new,k)) (R : Rep w0 ρ h w) :
    (Builtin.lenOf v).run P w = .ok k w ∧ ∃ vs : Array Value,VRs ρ vs.toList new ∧ new.all LV.single = true ∧ new.length = k * es ∧
      ∀ m,m ≤ k → (Builtin.firstCells es m v).run P w = .ok (vs.extract 0 (m * es)) w := by
  unfold srcOf at hs
  split at hs
  · rename_i s
    split at hs
    case isFalse => cases hs
    rename_i he
    cases hs
    obtain ⟨b,rfl,rfl⟩ := hv.str_inv
    refine ⟨by simp [Builtin.lenOf],(b.data.map fun (x : UInt8) => Value.int .u8 x.toNat),?_,by rw [List.all_eq_true]; intro x hx; obtain ⟨b,_,rfl⟩ := List.mem_map.1 hx; rfl,by simp [he],fun m hm => ?_⟩
    · have := bytes_vr ρ b.data.toList
      simpa using this
    · subst he
      simp only [Builtin.firstCells,Sem.run_pure,Nat.mul_one]
      congr 1
      simp [ByteArray.data_extract]
  · cases hs
    cases hv
    refine ⟨rfl,#[],.nil ρ,rfl,by simp,fun m hm => ?_⟩
    simp [Builtin.firstCells]
  · rename_i n off len es' f
    split at hs
    · rename_i h0
      subst h0
      cases hs
      refine ⟨run_lenOf hv rfl w,#[],.nil ρ,rfl,by simp,fun m hm => ?_⟩
      have : m = 0 := by omega
      subst this
      cases hv <;> simp [Builtin.firstCells,loadCells,loadCellsFrom]
    split at hs
    case isFalse => cases hs
    rename_i he
    subst he
    split at hs
    case h_2 => cases hs
    rename_i cs hcs
    cases hs
    simp only [cellsOf] at hcs
    split at hcs
    case h_2 => cases hcs
    rename_i rw cs' hb
    split at hcs
    case isFalse => cases hcs
    rename_i hle
    cases hcs
    refine ⟨run_lenOf hv rfl w,?_⟩
    have sing : ∀ (p q : Nat),((cs'.drop p).take q).all LV.single = true := by
      intro p q
      obtain ⟨pl,hp⟩ := R.place hb
      have h0 := (R.blk n _ pl hb hp).1
      rw [List.all_eq_true] at h0 ⊢
      exact fun x hx => h0 x (List.mem_of_mem_drop (List.mem_of_mem_take hx))
    cases hv with
    | slice hp hc hx hf =>
      obtain ⟨vs,h1,h2,h3⟩ := R.cells hb hp off (k * es') hle
      refine ⟨vs.toArray,by simpa using h1,sing _ _,by simp; omega,fun m hm => ?_⟩
      have hmm : m * es' ≤ k * es' := Nat.mul_le_mul_right _ hm
      have := run_loadCells_list (P := P) w _ (vs.take (m * es')) (fun j v hj => by
        rw [List.getElem?_take] at hj
        split at hj
        · exact h3 j v hj
        · cases hj)
      rw [List.length_take,Nat.min_eq_left (by omega)] at this
      simp only [Builtin.firstCells,this]
      simp [List.extract_eq_take_drop]
    | slice0 ad =>
      refine ⟨#[],by simpa using VRs.nil ρ,by simp,by simp,fun m hm => ?_⟩
      have : m = 0 := by omega
      subst this
      simp [Builtin.firstCells,loadCells,loadCellsFrom]
  · cases hs

theorem growBy_bound (need : Nat) : ∀ (r c : Nat),c ≤ need + (need + 768) / 4 → Builtin.growBy need r c ≤ need + (need + 768) / 4
  | 0,c,h => h
  | r + 1,c,h => by
    unfold Builtin.growBy
    split
    · exact h
    · exact growBy_bound need r _ (by omega)

theorem nextslicecap_bound {need old : Nat} (h : old < need) : Builtin.nextslicecap need old ≤ 2 * (need + 512) := by
  unfold Builtin.nextslicecap
  split
  · omega
  · split
    · omega
    · have := growBy_bound need 4 old (by omega)
      omega

section
variable {t u e : TypeId} {i : TypeInfo} {ty : TypeId}

/-- What append takes its second argument from. -/
def Src (ud : TypeDesc) : Prop := ud = .string ∨ ∃ e2,ud = .slice e2

theorem run_append_in {x : Value} {sLen sCap k : Nat} {base : Option Addr} {ud : TypeDesc} (ht : P.underlying t = some (.slice e)) (hu : P.underlying u = some ud) (hni : Src ud) (hi : P.info? e = some i)
    (hk : (Builtin.lenOf x).run P w = .ok k w) {new : Array Value} (hn : (Builtin.firstCells i.size k x).run P w = .ok new w) (hr : sLen + k ≤ sCap) :
    (Builtin.append_ #[t,u] ty #[.slice base sLen sCap,x]).run P w = match base with
      | none => .ok (.slice none (sLen + k) sCap) w
      | some ad => ((storeCells (ad.add (sLen * i.size)) new.toList).run P w).andThen fun _ w' => .ok (.slice (some ad) (sLen + k) sCap) w' := by
  rcases hni with rfl | ⟨e2,rfl⟩
  · cases base <;> simp [Builtin.append_,run_underlying ht,run_underlying hu,Go.sizeOf,typeInfo,hi,hk,hr,hn]
  · cases base <;> simp [Builtin.append_,run_underlying ht,run_underlying hu,Go.sizeOf,typeInfo,hi,hk,hr,hn]

theorem run_append_out {x : Value} {sLen sCap k : Nat} {base : Option Addr} {ud : TypeDesc} {z : Value} (ht : P.underlying t = some (.slice e)) (hu : P.underlying u = some ud) (hni : Src ud) (hi : P.info? e = some i) (hz : i.zero = some z) (hby : i.bytes ≠ 0)
    (hk : (Builtin.lenOf x).run P w = .ok k w) {new old : Array Value} (hn : (Builtin.firstCells i.size k x).run P w.drew = .ok new w.drew) (ho : (Builtin.firstCells i.size sLen (.slice base sLen sCap)).run P w.drew = .ok old w.drew)
    (hr : sCap < sLen + k) (hb : (sLen + k + 512) * i.bytes ≤ 140737488355328) :
    ∃ cap,sLen + k ≤ cap ∧ (Builtin.append_ #[t,u] ty #[.slice base sLen sCap,x]).run P w =
      .ok (.slice (some ⟨w.heap.size,0,none⟩) (sLen + k) cap) (w.drew.alloc (.cells (old ++ new ++ Builtin.zeroCells z.cells (cap - (sLen + k))) e)) := by
  refine ⟨grownCap w (sLen + k) sCap e,by simp [grownCap,Question.cut],?_⟩
  have hmul : ¬ (281474976710656 < Builtin.nextslicecap (sLen + k) sCap * i.bytes) := by
    have h1 := nextslicecap_bound hr
    have h2 := Nat.mul_le_mul_right i.bytes h1
    have h3 : 2 * (sLen + k + 512) * i.bytes = 2 * ((sLen + k + 512) * i.bytes) := by rw [Nat.mul_assoc]
    omega
  have hn0 : ¬ (sLen + k ≤ sCap) := by omega
  rcases hni with rfl | ⟨e2,rfl⟩
  · simp [Builtin.append_,run_underlying ht,run_underlying hu,Go.sizeOf,typeInfo,zeroValue,hi,hz,hk,hn0,hby,hmul,Question.forced,hn,ho,newRow,grownCap,Array.append_assoc]
  · simp [Builtin.append_,run_underlying ht,run_underlying hu,Go.sizeOf,typeInfo,zeroValue,hi,hz,hk,hn0,hby,hmul,Question.forced,hn,ho,newRow,grownCap,Array.append_assoc]
end

end
end Lg
