/- Operations,continued: composite values,bytes and strings,copy,make,lengths. -/
import Derived.Test.YtpoofafddbcnpaaVLgOps5
import Derived.Laws.Tables
import Derived.Laws.BytesString
import Derived.Laws.IdiomStrings
namespace Lg
open Go Go.RowKit
set_option linter.unusedSimpArgs false
set_option linter.unusedVariables false
section
variable {P : Program} {m : Bool} {w0 : Ini m} {ρ : List Place} {h h' : Heap} {w : World} {a : Act} {env : Env} {cf : CallF} {lo : Nat} {l : LV}

/-! ### composite values -/

theorem foldl_put (off : Nat) : ∀ (l : List Value) (k : Nat) (cs : Array Value),off + k + l.length ≤ cs.size →
    ((l.zipIdx k).foldl (fun (cs : Array Value) (p : Value × Nat) => cs.setIfInBounds (off + p.2) p.1) cs).toList = cs.toList.take (off + k) ++ l ++ cs.toList.drop (off + k + l.length)
  | [],k,cs,h => by simp
  | v :: l,k,cs,h => by
    simp only [List.length_cons] at h
    simp only [List.zipIdx_cons,List.foldl_cons]
    rw [foldl_put off l (k + 1) (cs.setIfInBounds (off + k) v) (by simp; omega)]
    rw [Array.toList_setIfInBounds]
    have hlt : off + k < cs.toList.length := by simp; omega
    have e1 : List.take (off + (k + 1)) (cs.toList.set (off + k) v) = List.take (off + k) cs.toList ++ [v] := by
      rw [List.set_eq_take_append_cons_drop,if_pos hlt,List.take_append]
      simp only [List.length_take,Nat.min_eq_left (Nat.le_of_lt hlt)]
      rw [List.take_of_length_le (by simp; omega),show off + (k + 1) - (off + k) = 1 by omega]
      rfl
    have e2 : List.drop (off + (k + 1) + l.length) (cs.toList.set (off + k) v) = List.drop (off + k + (v :: l).length) cs.toList := by
      rw [List.drop_set_of_lt (by omega)]
      congr 1
      simp only [List.length_cons]; omega
    rw [e1,e2]
    simp

theorem run_fill (E : ER ρ a env) {place : Nat → Option (Nat × Nat)} : ∀ (ps : List (Nat × Operand)) (lps : List (Nat × Nat × X)),(ps.mapM fun p => match place p.1,preX p.2 with
      | some (o,s),some x => some (o,s,x)
      | _,_ => none) = some lps → ∀ (cs : Array Value) (ls : List LV) (out : List LV),VRs ρ cs.toList ls → fillE env ls lps = some out →
      ∃ cs',Instr.fill place cs (ps.map fun p => (p.1,a.eval p.2)) = some cs' ∧ VRs ρ cs'.toList out := by
  intro ps
  induction ps with
  | nil =>
    intro lps h cs ls out hcs hf
    simp at h
    subst h
    simp only [fillE,Option.some.injEq] at hf
    subst hf
    exact ⟨cs,rfl,hcs⟩
  | cons p ps ih =>
    intro lps h cs ls out hcs hf
    rw [List.mapM_cons] at h
    simp only [Option.bind_eq_bind,Option.bind_eq_some_iff,Option.pure_def,Option.some.injEq] at h
    obtain ⟨q,hq,lps',hl,rfl⟩ := h
    split at hq
    case h_2 => cases hq
    rename_i o s x hpl hx
    cases hq
    simp only [fillE] at hf
    split at hf
    case isFalse => cases hf
    rename_i hc
    obtain ⟨hc1,hc2,hc3⟩ := hc
    have hu : x.ev env ≠ .undef := fun e => by rw [e] at hc3; simp [LV.cells,LV.single] at hc3
    have hr := (preX_vr E hx).cells hu
    have hsz : (a.eval p.2).cells.size = s := by have := hr.1; simp at this; omega
    have hcl : cs.size = ls.length := by have := hcs.1; simpa using this
    simp only [List.map_cons,Instr.fill,hpl]
    rw [if_neg (by simp only [Bool.or_eq_true,decide_eq_true_eq]; omega)]
    refine ih lps' hl _ _ out ?_ hf
    have e : ((a.eval p.2).cells.zipIdx.foldl (fun (cs : Array Value) (x : Value × Nat) => cs.setIfInBounds (o + x.2) x.1) cs).toList = cs.toList.take o ++ (a.eval p.2).cells.toList ++ cs.toList.drop (o + (a.eval p.2).cells.toList.length) := by
      rw [← Array.foldl_toList,Array.toList_zipIdx]
      have := foldl_put o (a.eval p.2).cells.toList 0 cs (by simp; omega)
      simpa using this
    have e2 : ((a.eval p.2).cells.zipIdx.foldl (fun cs (x : Value × Nat) => match x with | (c,j) => cs.setIfInBounds (o + j) c) cs).toList = cs.toList.take o ++ (a.eval p.2).cells.toList ++ cs.toList.drop (o + (a.eval p.2).cells.toList.length) := e
    rw [e2]
    exact hcs.splice hr o

theorem fillE_single : ∀ (ps : List (Nat × Nat × X)) (ls out : List LV),fillE env ls ps = some out → ls.all LV.single = true → out.all LV.single = true
  | [],ls,out,hf,hs => by simp only [fillE,Option.some.injEq] at hf; subst hf; exact hs
  | (o,s,x) :: ps,ls,out,hf,hs => by
    simp only [fillE] at hf
    split at hf
    case isFalse => cases hf
    rename_i hc
    refine fillE_single ps _ out hf ?_
    rw [List.all_eq_true] at hs
    simp only [splice,List.all_append,Bool.and_eq_true,hc.2.2,and_true,List.all_eq_true]
    exact ⟨fun y hy => hs y (List.mem_of_mem_take hy),fun y hy => hs y (List.mem_of_mem_drop hy)⟩

theorem sim_build {t : TypeId} {ps : Array (Nat × Operand)} {z : List LV} {place : Nat → Option (Nat × Nat)} {lps : List (Nat × Nat × X)} (hz : zeroT P t = some z)
    (hb : ∀ v,((P.info? t).bind (·.zero)) = some v → P.built t = fun parts => Instr.fill place v.cells parts) (hp : preParts place ps = some lps) (E : ER ρ a env) (R : Rep w0 ρ h w)
    (hE : opE cf lo (.build z lps) env h = some (l,h')) : Sim P (do pure (.value (← Instr.build t (ps.map fun (i,x) => (i,a.eval x))))) w0 ρ w l h' := by
  simp only [opE] at hE
  split at hE
  case h_2 => cases hE
  rename_i out hf
  simp only [Option.some.injEq,Prod.mk.injEq] at hE
  obtain ⟨rfl,rfl⟩ := hE
  obtain ⟨v,hv,hr⟩ := zeroT_vr hz ρ
  obtain ⟨cs',h1,h2⟩ := run_fill (place := place) E ps.toList lps hp v.cells z out hr hf
  refine sim_vals R (VRs.agg h2) (run_build w t _ cs' ?_)
  rw [hb v hv]
  simpa using h1

theorem rows_length (zs : List LV) : ∀ n,(rows zs n).length = n * zs.length
  | 0 => by simp [rows]
  | n + 1 => by simp [rows,rows_length zs n,Nat.add_mul,Nat.add_comm]

theorem rows_single (zs : List LV) (hz : zs.all LV.single = true) : ∀ n,(rows zs n).all LV.single = true
  | 0 => rfl
  | n + 1 => by rw [rows,List.all_append,hz,rows_single zs hz n]; rfl

theorem rows_get (zs : List LV) (s : Nat) (hs : zs.length = s) (h0 : s ≠ 0) : ∀ (n i : Nat),i < n * s → (rows zs n)[i]? = zs[i % s]?
  | 0,i,h => by simp at h
  | n + 1,i,h => by
    rw [rows]
    rcases Nat.lt_or_ge i s with hi | hi
    · rw [List.getElem?_append_left (by omega),Nat.mod_eq_of_lt hi]
    · rw [List.getElem?_append_right (by omega),rows_get zs s hs h0 n (i - zs.length) (by rw [Nat.add_mul] at h; omega),hs]
      congr 1
      conv => rhs; rw [show i = (i - s) + s by omega]
      rw [Nat.add_mod_right]

theorem made_vr {zv : Array Value} {zs : List LV} (hz : VRs ρ zv.toList zs) (h0 : zs.length ≠ 0) (n : Nat) : VRs ρ ((Array.range (n * zs.length)).map (fun i => zv[i % zv.size]!)).toList (rows zs n) := by
  have hsz : zv.size = zs.length := by have := hz.1; simpa using this
  refine ⟨by simp [rows_length],fun i v l' hv hl => ?_⟩
  have hi : i < n * zs.length := by have := lt_of_getElem? hl; rwa [rows_length] at this
  rw [rows_get zs zs.length rfl h0 n i hi] at hl
  have hm : i % zs.length < zs.length := Nat.mod_lt _ (by omega)
  have hv' : v = zv[i % zv.size]! := by
    simp only [Array.toList_map,List.getElem?_map,Array.toList_range,List.getElem?_range hi,Option.map_some,Option.some.injEq] at hv
    exact hv.symm
  obtain ⟨u,hu,hr⟩ := hz.get hl
  have hu' : zv[i % zs.length]? = some u := by simpa using hu
  rw [hv',hsz,getElem!_def,hu']
  exact hr

theorem sim_bslice {t e : TypeId} {len s : Nat} {ps : Array (Nat × Operand)} {z : List LV} {lps : List (Nat × Nat × X)} (ht : P.underlying t = some (.slice e)) (hs : sizeT P e = some s) (hz : zeroT P e = some z) (h0 : s ≠ 0) (hzl : z.length = s) (hzs : z.all LV.single = true) (hlim : len * s ≤ 16777216)
    (hp : preParts (fun i => some (i * s,s)) ps = some lps) (E : ER ρ a env) (R : Rep w0 ρ h w)
    {mt : Bool} (hE : opE cf lo (.bslice mt len s (rows z len) lps) env h = some (l,h')) : Sim P (do pure (.value (← Instr.buildSlice t len (ps.map fun (i,x) => (i,a.eval x))))) w0 ρ w l h' := by
  simp only [opE] at hE
  split at hE
  case h_2 => cases hE
  rename_i out hf
  simp only [Option.some.injEq,Prod.mk.injEq] at hE
  obtain ⟨rfl,rfl⟩ := hE
  obtain ⟨v,hv,hr⟩ := zeroT_vr hz ρ
  have hvs : v.cells.size = s := by have := hr.1; simp at this; omega
  have hm := made_vr hr (by omega) len
  rw [hzl] at hm
  obtain ⟨cs',h1,h2⟩ := run_fill (place := fun i => some (i * s,s)) E ps.toList lps hp _ _ out hm hf
  have hol : cs'.size = len * s := by
    have h3 := h2.1
    have : ∀ (ps : List (Nat × Nat × X)) (ls out : List LV),fillE env ls ps = some out → out.length = ls.length := by
      intro ps
      induction ps with
      | nil => intro ls out hf; simp only [fillE,Option.some.injEq] at hf; rw [hf]
      | cons p ps ih =>
        intro ls out hf
        obtain ⟨o,s,x⟩ := p
        simp only [fillE] at hf
        split at hf
        case isFalse => cases hf
        rename_i hc
        rw [ih _ _ hf]
        simp only [splice,List.length_append,List.length_take,List.length_drop]
        omega
    rw [this _ _ _ hf,rows_length,hzl] at h3
    simpa using h3
  refine ⟨.slice (some ⟨w.heap.size,0,none⟩) len len,w.alloc (.cells cs' e),_,Ext.app _ _,R.alloc' e (fillE_single _ _ _ hf (rows_single z hzs len)) h2,?_,.inl ?_⟩
  · exact VR.slice (n := h.length) (off := 0) (pl := ⟨w.heap.size,0,cs'.size⟩) (by rw [← R.len]; exact List.getElem?_concat_length) (Nat.le_refl _) (by show 0 + len * s ≤ cs'.size; omega) (fun _ => rfl)
  · have hzr := run_zero hv w
    by_cases hl0 : len * s = 0
    · have e0 : (Array.range (len * s)).map (fun i => v.cells[i % v.cells.size]!) = #[] := by rw [hl0]; exact Array.eq_empty_of_size_eq_zero (by simp)
      rw [e0] at h1
      simp only [Instr.buildSlice,Sem.run_bind,run_underlying ht,Result.andThen_ok,run_size hs]
      rw [if_neg (by omega)]
      simp only [hl0,if_true,pure_bind,Sem.run_pure,Result.andThen_ok]
      rw [show (Array.range 0).map (fun x => (#[] : Array Value)[x % (#[] : Array Value).size]!) = #[] from Array.eq_empty_of_size_eq_zero (by simp)]
      rw [show (ps.map fun (x : Nat × Operand) => match x with | (i,x) => (i,a.eval x)).toList = ps.toList.map fun p => (p.1,a.eval p.2) by simp]
      rw [h1]
      simp [newRow]
    · simp only [Instr.buildSlice,Sem.run_bind,run_underlying ht,Result.andThen_ok,run_size hs]
      rw [if_neg (by omega)]
      simp only [hl0,if_false,hzr,Sem.run_bind,Result.andThen_ok,Sem.run_pure]
      rw [show (ps.map fun (x : Nat × Operand) => match x with | (i,x) => (i,a.eval x)).toList = ps.toList.map fun p => (p.1,a.eval p.2) by simp]
      rw [h1]
      simp [newRow]
end
end Lg
