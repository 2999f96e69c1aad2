/- Operations,the rest: bytes and strings,copy,make,lengths,least and greatest,maps,functions. -/
import Derived.Test.YtpoofafddbcnpaaVLgOps6
namespace Lg
open Go Go.RowKit
set_option linter.unusedSimpArgs false
set_option linter.unusedVariables false
section
variable {P : Program} {m : Bool} {w0 : Ini m} {ρ : List Place} {h h' : Heap} {w : World} {a : Act} {env : Env} {cf : CallF} {lo : Nat} {l : LV}

theorem bytesOf_vr : ∀ (vs : List Value) (ls : List LV) (bs : List UInt8),VRs ρ vs ls → bytesOf ls = some bs → ∃ ns : List Int,vs = ns.map (Value.int .u8) ∧ bs = ns.map (fun n => UInt8.ofNat n.toNat)
  | [],[],bs,_,h => by simp only [bytesOf,Option.some.injEq] at h; subst h; exact ⟨[],rfl,rfl⟩
  | [],_ :: _,_,h,_ => by have := h.1; simp at this
  | _ :: _,[],_,h,_ => by have := h.1; simp at this
  | v :: vs,l :: ls,bs,h,hb => by
    have inv : ∃ n,l = .int .u8 n ∧ ∃ bs',bytesOf ls = some bs' ∧ bs = UInt8.ofNat n.toNat :: bs' := by
      unfold bytesOf at hb
      split at hb
      · rename_i e; cases e
      · rename_i n r e
        cases e
        split at hb
        · rename_i bs' hbs; cases hb; exact ⟨n,rfl,bs',hbs,rfl⟩
        · cases hb
      · cases hb
    obtain ⟨n,rfl,bs',hbs,rfl⟩ := inv
    have h1 := h.2 0 v _ rfl rfl
    obtain rfl := h1.int_inv
    obtain ⟨ns,rfl,rfl⟩ := bytesOf_vr vs ls bs' ⟨by have := h.1; simpa using this,fun i u k a b => h.2 (i + 1) u k (by simpa using a) (by simpa using b)⟩ hbs
    exact ⟨n :: ns,rfl,rfl⟩

theorem foldl_push_ints : ∀ (l : List Int) (r : ByteArray),(l.foldl (fun r n => r.push (UInt8.ofNat n.toNat)) r).data.toList = r.data.toList ++ l.map (fun n => UInt8.ofNat n.toNat)
  | [],r => by simp
  | n :: l,r => by
    simp only [List.foldl_cons]
    rw [foldl_push_ints l]
    simp [ByteArray.push]

theorem sim_b2s {s d e : TypeId} {x : Operand} {lx : X} (hs : P.underlying s = some (.slice e)) (he : P.underlying e = some (.int .u8)) (hd : P.underlying d = some .string) (hx : preX x = some lx) (E : ER ρ a env) (R : Rep w0 ρ h w)
    (hE : opE cf lo (.b2s lx) env h = some (l,h')) : Sim P (do pure (.value (← convert s d (a.eval x)))) w0 ρ w l h' := by
  simp only [opE] at hE
  have h1 := preX_vr E hx
  split at hE
  · rename_i hv
    simp only [Option.some.injEq,Prod.mk.injEq] at hE
    obtain ⟨rfl,rfl⟩ := hE
    rw [hv] at h1
    have e1 : a.eval x = .slice none 0 0 := by generalize a.eval x = v at h1; cases h1; rfl
    refine sim_vals (v := .string .empty) R (VR.str .empty) ?_
    rw [e1,run_convert_bytes_string w s d e none 0 0 hs he hd]
    simp [Conv.bytesToString]
  · rename_i n off len es f hv
    split at hE
    · rename_i hl0
      subst hl0
      simp only [Option.some.injEq,Prod.mk.injEq] at hE
      obtain ⟨rfl,rfl⟩ := hE
      rw [hv] at h1
      have e1 : ∃ ad cap,a.eval x = .slice (some ad) 0 cap := by generalize a.eval x = v at h1; cases h1 <;> exact ⟨_,_,rfl⟩
      obtain ⟨ad,cap,e1⟩ := e1
      refine sim_vals (v := .string .empty) R (VR.str .empty) ?_
      rw [e1,run_convert_bytes_string w s d e _ 0 cap hs he hd]
      exact run_bytesToString (P := P) w ad 0 cap [] (by simp [loadCells,loadCellsFrom])
    split at hE
    case isFalse => cases hE
    rename_i hes
    subst hes
    split at hE
    case h_2 => cases hE
    rename_i cs hcs
    split at hE
    case h_2 => cases hE
    rename_i bs hbs
    simp only [Option.some.injEq,Prod.mk.injEq] at hE
    obtain ⟨rfl,rfl⟩ := hE
    rw [hv] at h1
    simp only [cellsOf] at hcs
    split at hcs
    case h_2 => cases hcs
    rename_i rw cs' hb
    split at hcs
    case isFalse => cases hcs
    rename_i hle
    cases hcs
    generalize a.eval x = v at h1
    cases h1 with
    | slice hp hc hx hf =>
      obtain ⟨vs,g1,g2,g3⟩ := R.cells hb hp off (len * 1) hle
      obtain ⟨ns,rfl,rfl⟩ := bytesOf_vr _ _ _ g1 hbs
      have hl := run_loadCells_list (P := P) w _ _ g3
      rw [g2,Nat.mul_one] at hl
      refine sim_vals (v := .string (ns.foldl (fun r n => r.push (UInt8.ofNat n.toNat)) ByteArray.empty)) R ?_ ?_
      · have e1 := foldl_push_ints ns ByteArray.empty
        have := VR.str (ρ := ρ) (ns.foldl (fun r n => r.push (UInt8.ofNat n.toNat)) ByteArray.empty)
        rw [e1] at this
        simpa using this
      · rw [run_convert_bytes_string w s d e _ len _ hs he hd]
        exact run_bytesToString (P := P) w _ len _ ns hl
    | slice0 ad =>
      simp only [Nat.zero_mul,List.take_zero,bytesOf,Option.some.injEq] at hbs
      subst hbs
      refine sim_vals (v := .string .empty) R (VR.str .empty) ?_
      rw [run_convert_bytes_string w s d e _ 0 0 hs he hd]
      exact run_bytesToString (P := P) w ad 0 0 [] (by simp [loadCells,loadCellsFrom])
  · cases hE

theorem frozen?_alloc_out (w : World) (C : Array Value) (t : TypeId) (fl fh j : Nat) (hj : j < fl) : (w.alloc (.cells C t (fl,fh))).frozen? ⟨w.heap.size,j,none⟩ = false := by
  rw [World.frozen?_alloc_mark]
  simp [Nat.not_le.2 hj]

/-- A new row of cells whose mark lies behind it. -/
theorem Rep.allocF {m : Bool} {w0 : Ini m} {ρ : List Place} {h : Heap} {w : World} (R : Rep w0 ρ h w) {cs : List LV} {vs : Array Value} {n fh : Nat} (t : TypeId) (hs : cs.all LV.single = true) (hv : VRs ρ (vs.toList.take n) cs) (hn : n ≤ vs.size) :
    Rep w0 (ρ ++ [⟨w.heap.size,0,vs.size⟩]) (h ++ [.cells true cs]) (w.alloc (.cells vs t (vs.size,fh))) := by
  have hlen : cs.length = n := by have := hv.1; simp at this; omega
  refine R.push ?_ (R.below.alloc R.below.size _) (by simp) (.inl (by simp)) (fun _ => R.below.size) (fun m c pm hc hl hm => Keeps.alloc _ _ _ (R.ltS hc hm)) (fun _ m c pm hc hl hm => (R.fresh_dis (vs.size) hm).span (R.blk m c pm hc hm).span_le) (fun _ m c pm hc hr hm => (R.fresh_dis (vs.size) hm).symm)
  · refine ⟨hs,by simp; omega,fun i l hl => ?_,fun _ i hi => ?_⟩
    · obtain ⟨v,hv1,hv2⟩ := hv.get hl
      refine ⟨v,?_,hv2.mono (Ext.app _ _)⟩
      simp only [Place.at,Nat.zero_add]
      rw [World.cell?_alloc_mark]
      rw [List.getElem?_take] at hv1
      split at hv1
      · simpa using hv1
      · cases hv1
    · simp only [Place.at,Nat.zero_add] at *
      rw [World.cell?_alloc_mark,frozen?_alloc_out _ _ _ _ _ _ hi]
      exact ⟨by rw [Array.getElem?_eq_getElem hi]; rfl,rfl⟩

theorem sim_s2b {s d e : TypeId} {x : Operand} {lx : X} (hs : P.underlying s = some .string) (hd : P.underlying d = some (.slice e)) (he : P.underlying e = some (.int .u8)) (hx : preX x = some lx) (E : ER ρ a env) (R : Rep w0 ρ h w)
    (hE : opE cf lo (.s2b lx) env h = some (l,h')) : Sim P (do pure (.value (← convert s d (a.eval x)))) w0 ρ w l h' := by
  simp only [opE] at hE
  have h1 := preX_vr E hx
  split at hE
  case h_2 => cases hE
  rename_i bs hv
  simp only [Option.some.injEq,Prod.mk.injEq] at hE
  obtain ⟨rfl,rfl⟩ := hE
  rw [hv] at h1
  obtain ⟨b,hb,rfl⟩ := h1.str_inv
  have hge : b.size ≤ grownCap w b.size 0 e := by simp [grownCap,Question.cut]
  have hsz : (bytesRow b (grownCap w b.size 0 e)).size = grownCap w b.size 0 e := by
    simp only [bytesRow,Array.size_append,Array.size_map,Array.size_replicate]
    have : b.data.size = b.size := rfl
    omega
  have hbl : b.data.toList.length = b.size := by simp
  refine ⟨.slice (some ⟨w.heap.size,0,none⟩) b.size (grownCap w b.size 0 e),_,_,Ext.app _ _,R.drew.allocF (n := b.size) (vs := bytesRow b (grownCap w b.size 0 e)) (fh := (bytesRow b (grownCap w b.size 0 e)).size + 1) e ?_ ?_ (by rw [hsz]; exact hge),?_,.inl ?_⟩
  · rw [List.all_eq_true]; intro x hx; obtain ⟨c,_,rfl⟩ := List.mem_map.1 hx; rfl
  · have e1 : (bytesRow b (grownCap w b.size 0 e)).toList.take b.size = b.data.toList.map (fun (c : UInt8) => Value.int .u8 c.toNat) := by
      simp only [bytesRow,Array.toList_append]
      rw [List.take_append_of_le_length (by simp),List.take_of_length_le (by simp)]
      simp
    rw [e1]
    exact bytes_vr ρ _
  · rw [hbl]
    exact VR.slice (n := h.length) (off := 0) (pl := ⟨w.drew.heap.size,0,(bytesRow b (grownCap w b.size 0 e)).size⟩) (by rw [← R.len]; exact List.getElem?_concat_length) hge (by show 0 + grownCap w b.size 0 e * 1 ≤ (bytesRow b (grownCap w b.size 0 e)).size; rw [hsz]; omega) (by simp)
  · rw [hb]
    simp only [Sem.run_bind,run_bytes_of_string w s d e b hs hd he,Result.andThen_ok,Sem.run_pure]

/-! ### lengths -/

theorem sim_lenS {t ty : TypeId} {x : Operand} {lx : X} (ht : P.underlying t = some .string) (hx : preX x = some lx) (E : ER ρ a env) (R : Rep w0 ρ h w)
    (hE : opE cf lo (.lenS lx) env h = some (l,h')) : Sim P (do pure (.value (← Builtin.len_ #[t] ty #[a.eval x]))) w0 ρ w l h' := by
  simp only [opE] at hE
  have h1 := preX_vr E hx
  split at hE
  case h_2 => cases hE
  rename_i s hv
  simp only [Option.some.injEq,Prod.mk.injEq] at hE
  obtain ⟨rfl,rfl⟩ := hE
  rw [hv] at h1
  obtain ⟨b,hb,rfl⟩ := h1.str_inv
  refine sim_vals R (.int _ _) ?_
  rw [hb]
  simp [Builtin.len_,run_underlying ht,goInt]

theorem sim_lenL {t ty e : TypeId} {x : Operand} {lx : X} (ht : P.underlying t = some (.slice e)) (hx : preX x = some lx) (E : ER ρ a env) (R : Rep w0 ρ h w)
    (hE : opE cf lo (.lenL lx) env h = some (l,h')) : Sim P (do pure (.value (← Builtin.len_ #[t] ty #[a.eval x]))) w0 ρ w l h' := by
  simp only [opE] at hE
  have h1 := preX_vr E hx
  split at hE
  · rename_i hv
    simp only [Option.some.injEq,Prod.mk.injEq] at hE
    obtain ⟨rfl,rfl⟩ := hE
    rw [hv] at h1
    generalize a.eval x = v at h1 ⊢
    cases h1
    exact sim_vals R (.int _ _) (by simp [Builtin.len_,run_underlying ht,goInt])
  · rename_i n off len es f hv
    simp only [Option.some.injEq,Prod.mk.injEq] at hE
    obtain ⟨rfl,rfl⟩ := hE
    rw [hv] at h1
    generalize a.eval x = v at h1 ⊢
    cases h1 <;> exact sim_vals R (.int _ _) (by simp [Builtin.len_,run_underlying ht,goInt])
  · cases hE

theorem Rep.map {m : Bool} {w0 : Ini m} {ρ : List Place} {h : Heap} {w : World} (R : Rep w0 ρ h w) {n : Nat} {es : List (LV × LV)} {v : Value} (hn : h[n]? = some (.map es)) (hv : VR ρ v (.map n)) :
    ∃ (pl : Place) (ms : Array MapEntry) (c : Nat),ρ[n]? = some pl ∧ v = .map (some pl.block) ∧ w.heap[pl.block]? = some (.map ms c) ∧ ms.size = es.length ∧ 1 ≤ pl.ext ∧ pl.off = 0 ∧
      ∀ (i : Nat) (m : MapEntry) (e : LV × LV),ms[i]? = some m → es[i]? = some e → VR ρ m.key e.1 ∧ VR ρ m.val e.2 := by
  cases hv with
  | map hp =>
    obtain ⟨h0,h1,ms,c,h2,h3,h4⟩ := R.blk n _ _ hn hp
    exact ⟨_,ms,c,hp,rfl,h2,h3,h0,h1,h4⟩

theorem run_getMap {r : Nat} {ms : Array MapEntry} {c : Nat} (hr : w.heap[r]? = some (.map ms c)) : (getObj r).run P w = .ok (.map ms c) w := by
  simp [getObj,Sem.run,hr]

theorem sim_lenM {t ty k e : TypeId} {x : Operand} {lx : X} (ht : P.underlying t = some (.map k e)) (hx : preX x = some lx) (E : ER ρ a env) (R : Rep w0 ρ h w)
    (hE : opE cf lo (.lenM lx) env h = some (l,h')) : Sim P (do pure (.value (← Builtin.len_ #[t] ty #[a.eval x]))) w0 ρ w l h' := by
  simp only [opE] at hE
  have h1 := preX_vr E hx
  split at hE
  · rename_i hv
    simp only [Option.some.injEq,Prod.mk.injEq] at hE
    obtain ⟨rfl,rfl⟩ := hE
    rw [hv] at h1
    generalize a.eval x = v at h1 ⊢
    cases h1
    exact sim_vals R (.int _ _) (by simp [Builtin.len_,run_underlying ht,goInt])
  · rename_i n hv
    rw [hv] at h1
    split at hE
    case h_2 => cases hE
    rename_i es hn
    simp only [Option.some.injEq,Prod.mk.injEq] at hE
    obtain ⟨rfl,rfl⟩ := hE
    obtain ⟨pl,ms,c,hp,hve,hm,hsz,_⟩ := R.map hn h1
    refine sim_vals R (.int _ _) ?_
    rw [hve]
    simp [Builtin.len_,run_underlying ht,goInt,run_getMap hm,hsz]
  · cases hE

theorem sim_lenC {t ty e : TypeId} {n : Nat} {x : Operand} (ht : P.underlying t = some (.array n e) ∨ ∃ q,P.underlying t = some (.pointer q) ∧ P.underlying q = some (.array n e)) (E : ER ρ a env) (R : Rep w0 ρ h w)
    (hE : opE cf lo (.lenC n) env h = some (l,h')) : Sim P (do pure (.value (← Builtin.len_ #[t] ty #[a.eval x]))) w0 ρ w l h' := by
  simp only [opE,Option.some.injEq,Prod.mk.injEq] at hE
  obtain ⟨rfl,rfl⟩ := hE
  refine sim_vals R (.int _ _) ?_
  rcases ht with ht | ⟨q,hq,ht⟩
  · simp only [Builtin.len_,List.getElem?_toArray,List.getElem?_cons_zero,Sem.run_bind,run_underlying ht,Result.andThen_ok]
    generalize a.eval x = v
    cases v <;> rfl
  · simp only [Builtin.len_,List.getElem?_toArray,List.getElem?_cons_zero,Sem.run_bind,run_underlying hq,Result.andThen_ok]
    generalize a.eval x = v
    cases v <;> simp [run_underlying ht,goInt]

/-! ### the least and the greatest -/

theorem mm_run (mx : Bool) (f : Value → Value → Sem Value) (hf : f = if mx then Builtin.max2 else Builtin.min2) : ∀ (vs : List Value) (ls : List LV) (v : Value) (lv r : LV) (w : World),VR ρ v lv → VRs ρ vs ls → mmE mx lv ls = some r → ∃ u,(vs.foldlM f v).run P w = .ok u w ∧ VR ρ u r
  | [],[],v,lv,r,w,hv,_,h => by simp only [mmE,Option.some.injEq] at h; subst h; exact ⟨v,rfl,hv⟩
  | [],_ :: _,_,_,_,_,_,h,_ => by have := h.1; simp at this
  | _ :: _,[],_,_,_,_,_,h,_ => by have := h.1; simp at this
  | u :: vs,l :: ls,v,lv,r,w,hv,hs,h => by
    have inv : ∃ k a b,lv = .int k a ∧ (∃ k',l = .int k' b) ∧ mmE mx (.int k (if mx then (if b > a then b else a) else (if b < a then b else a))) ls = some r := by
      unfold mmE at h
      split at h
      · rename_i e; cases e
      · rename_i k a k' b r' e; cases e; exact ⟨k,a,b,rfl,⟨k',rfl⟩,h⟩
      · cases h
    obtain ⟨k,x,y,rfl,⟨k',rfl⟩,h2⟩ := inv
    obtain rfl := hv.int_inv
    obtain rfl := (hs.2 0 u _ rfl rfl).int_inv
    obtain ⟨z,hz,hr⟩ := mm_run mx f hf vs ls (.int k (if mx then (if y > x then y else x) else (if y < x then y else x))) _ r w (.int _ _) ⟨by have := hs.1; simpa using this,fun i u k a b => hs.2 (i + 1) u k (by simpa using a) (by simpa using b)⟩ h2
    refine ⟨z,?_,hr⟩
    rw [List.foldlM_cons]
    subst hf
    cases mx
    · simpa [Builtin.min2] using hz
    · simpa [Builtin.max2] using hz

theorem sim_min {ts : Array TypeId} {ty : TypeId} {xs : Array Operand} {lxs : List X} (hx : preXs xs = some lxs) (E : ER ρ a env) (R : Rep w0 ρ h w)
    (hE : opE cf lo (.min2 lxs) env h = some (l,h')) : Sim P (do pure (.value (← Builtin.min_ ts ty (xs.map a.eval)))) w0 ρ w l h' := by
  have h1 := preXs_vr E hx
  simp only [opE] at hE
  split at hE
  case h_2 => cases hE
  rename_i v r hv
  split at hE
  case h_2 => cases hE
  rename_i u hu
  simp only [Option.some.injEq,Prod.mk.injEq] at hE
  obtain ⟨rfl,rfl⟩ := hE
  rw [hv] at h1
  generalize hvs : (xs.map a.eval).toList = vs at h1
  cases vs with
  | nil => have := h1.1; simp at this
  | cons v0 vs =>
    obtain ⟨z,hz,hr⟩ := mm_run (P := P) false Builtin.min2 rfl vs r v0 v u w (h1.2 0 _ _ rfl rfl) ⟨by have := h1.1; simpa using this,fun i u k a b => h1.2 (i + 1) u k (by simpa using a) (by simpa using b)⟩ hu
    refine sim_vals R hr ?_
    simp only [Builtin.min_,hvs]
    exact hz

theorem sim_max {ts : Array TypeId} {ty : TypeId} {xs : Array Operand} {lxs : List X} (hx : preXs xs = some lxs) (E : ER ρ a env) (R : Rep w0 ρ h w)
    (hE : opE cf lo (.max2 lxs) env h = some (l,h')) : Sim P (do pure (.value (← Builtin.max_ ts ty (xs.map a.eval)))) w0 ρ w l h' := by
  have h1 := preXs_vr E hx
  simp only [opE] at hE
  split at hE
  case h_2 => cases hE
  rename_i v r hv
  split at hE
  case h_2 => cases hE
  rename_i u hu
  simp only [Option.some.injEq,Prod.mk.injEq] at hE
  obtain ⟨rfl,rfl⟩ := hE
  rw [hv] at h1
  generalize hvs : (xs.map a.eval).toList = vs at h1
  cases vs with
  | nil => have := h1.1; simp at this
  | cons v0 vs =>
    obtain ⟨z,hz,hr⟩ := mm_run (P := P) true Builtin.max2 rfl vs r v0 v u w (h1.2 0 _ _ rfl rfl) ⟨by have := h1.1; simpa using this,fun i u k a b => h1.2 (i + 1) u k (by simpa using a) (by simpa using b)⟩ hu
    refine sim_vals R hr ?_
    simp only [Builtin.max_,hvs]
    exact hz

/-! ### copy,make -/

theorem sim_copy {t u e ty : TypeId} {es : Nat} {x y : Operand} {lx ly : X} (ht : P.underlying t = some (.slice e)) (hes : sizeT P e = some es) (hx : preX x = some lx) (hy : preX y = some ly) (E : ER ρ a env) (R : Rep w0 ρ h w)
    (hE : opE cf lo (.copy es lx ly) env h = some (l,h')) : Sim P (do pure (.value (← Builtin.copy_ #[t,u] ty #[a.eval x,a.eval y]))) w0 ρ w l h' := by
  have h1 := preX_vr E hx
  have h2 := preX_vr E hy
  simp only [opE] at hE
  split at hE
  case h_2 => cases hE
  rename_i src k hsrc
  obtain ⟨hk,nv,hnv,hnsg,hnl,hnf⟩ := run_src (P := P) h2 hsrc R
  have hns : nv.size = k * es := by have := hnv.1; simp at this; omega
  split at hE
  · rename_i hv
    simp only [Option.some.injEq,Prod.mk.injEq] at hE
    obtain ⟨rfl,rfl⟩ := hE
    rw [hv] at h1
    have e1 : a.eval x = .slice none 0 0 := by generalize a.eval x = v at h1; cases h1; rfl
    refine sim_vals R (.int _ _) ?_
    rw [e1]
    have := hnf 0 (Nat.zero_le _)
    simp [Builtin.copy_,run_underlying ht,hk,run_size hes,this,goInt]
  · rename_i n off len es' f hv
    rw [hv] at h1
    split at hE
    case isFalse => cases hE
    rename_i hes'
    subst hes'
    split at hE
    case h_2 => cases hE
    rename_i rw cs hn
    have hm := hnf (min k len) (Nat.min_le_left _ _)
    split at hE
    · rename_i hm0
      simp only [Option.some.injEq,Prod.mk.injEq] at hE
      obtain ⟨rfl,rfl⟩ := hE
      refine sim_vals R (.int _ _) ?_
      rw [hm0] at hm
      generalize a.eval x = v at h1
      cases h1 with
      | slice hp hc hx hf =>
        have : Nat.min k len = 0 := hm0
        simp [Builtin.copy_,run_underlying ht,hk,run_size hes,this,hm,goInt,storeCells]
      | slice0 ad =>
        have : Nat.min k 0 = 0 := Nat.min_zero _
        simp [Builtin.copy_,run_underlying ht,hk,run_size hes,this,goInt,storeCells]
        have := hnf 0 (Nat.zero_le _)
        simp [this,storeCells]
    · rename_i hm0
      split at hE
      case isFalse => cases hE
      rename_i hc
      obtain ⟨hrw,hlo,hle⟩ := hc
      subst hrw
      simp only [Option.some.injEq,Prod.mk.injEq] at hE
      obtain ⟨rfl,rfl⟩ := hE
      generalize hev : a.eval x = v at h1 ⊢
      cases h1 with
      | slice0 ad => simp at hm0
      | @slice _ _ _ cap _ _ pl hp hc hx hf =>
        have hmk : min k len * es' ≤ k * es' := Nat.mul_le_mul_right _ (Nat.min_le_left _ _)
        have hml : min k len * es' ≤ len * es' := Nat.mul_le_mul_right _ (Nat.min_le_right _ _)
        have htv : VRs ρ (nv.extract 0 (min k len * es')).toList (src.take (min k len * es')) := by
          have := hnv.take (min k len * es')
          simpa [List.extract_eq_take_drop] using this
        have hts : (src.take (min k len * es')).all LV.single = true := by
          rw [List.all_eq_true] at hnsg ⊢
          exact fun x hx => hnsg x (List.mem_of_mem_take hx)
        have htl : (src.take (min k len * es')).length = min k len * es' := by simp; omega
        have hb := (R.blk n _ pl hn hp).2.1
        have hst := run_storeCells_at' (P := P) R hn hp off htv hts (by omega)
        refine ⟨.int .i64 (min k len : Nat),_,ρ,Ext.refl ρ,R.write hn hp off hts htv (by omega),.int _ _,.inl ?_⟩
        have e2 : Nat.min k len = min k len := rfl
        simp only [Builtin.copy_,List.getElem?_toArray,List.getElem?_cons_zero,List.getElem?_cons_succ,Sem.run_bind,run_underlying ht,Result.andThen_ok,hk,run_size hes,e2,hm,hst,Sem.run_pure,goInt]
  · cases hE

theorem sim_make {t e : TypeId} {i : TypeInfo} {z : List LV} {x y : Operand} {lx ly : X} (ht : P.underlying t = some (.slice e)) (hi : P.info? e = some i) (hz : zeroT P e = some z) (hzl : z.length = i.size) (h0 : i.size ≠ 0) (hzs : z.all LV.single = true)
    (hx : preX x = some lx) (hy : preX y = some ly) (E : ER ρ a env) (R : Rep w0 ρ h w)
    {mt : Bool} (hE : opE cf lo (.make mt i.size i.bytes z lx ly) env h = some (l,h')) : Sim P (do pure (.value (← Instr.makeSlice t (a.eval x) (a.eval y)))) w0 ρ w l h' := by
  have h1 := preX_vr E hx
  have h2 := preX_vr E hy
  simp only [opE] at hE
  split at hE
  case h_2 => cases hE
  rename_i n c hvx hvy
  split at hE
  case isFalse => cases hE
  rename_i hc
  obtain ⟨hn0,hnc,hc48,hb⟩ := hc
  subst hnc
  simp only [Option.some.injEq,Prod.mk.injEq] at hE
  obtain ⟨rfl,rfl⟩ := hE
  rw [hvx] at h1; rw [hvy] at h2
  obtain ⟨v,hv,hr⟩ := zeroT_vr hz ρ
  have hz' : i.zero = some v := by rw [hi] at hv; exact hv
  have hm := made_vr hr (by omega) n.toNat
  rw [hzl] at hm
  have hsz : (madeCells v.cells (n.toNat * i.size)).size = n.toNat * i.size := size_madeCells _ _
  refine ⟨.slice (some ⟨w.heap.size,0,none⟩) n.toNat n.toNat,_,_,Ext.app _ _,R.alloc' (vs := madeCells v.cells (n.toNat * i.size)) e (rows_single z hzs _) hm,?_,.inl ?_⟩
  · exact VR.slice (n := h.length) (off := 0) (pl := ⟨w.heap.size,0,(madeCells v.cells (n.toNat * i.size)).size⟩) (by rw [← R.len]; exact List.getElem?_concat_length) (Nat.le_refl _) (by show 0 + n.toNat * i.size ≤ (madeCells v.cells (n.toNat * i.size)).size; omega) (fun _ => rfl)
  · rw [h1.int_inv,h2.int_inv]
    simp only [Sem.run_bind,run_make (P := P) w t e i v ht hi hz' .i64 .i64 n n hn0 (Int.le_refl _) hb (by omega),Result.andThen_ok,Sem.run_pure]

theorem run_append_zero {t u e ty : TypeId} {i : TypeInfo} {z : Value} {k : IntKind} {n : Int} (ht : P.underlying t = some (.slice e)) (hu : P.underlying u = some (.int k)) (hi : P.info? e = some i) (hz : i.zero = some z) (hby : i.bytes ≠ 0) (hs0 : i.size ≠ 0)
    (h0 : 0 < n) (hb : (n.toNat + 512) * i.bytes ≤ 140737488355328) :
    ∃ cap,n.toNat ≤ cap ∧ (Builtin.append_ #[t,u] ty #[.slice none 0 0,.int .i64 n]).run P w =
      .ok (.slice (some ⟨w.heap.size,0,none⟩) n.toNat cap) (w.drew.alloc (.cells (Builtin.zeroCells z.cells n.toNat ++ Builtin.zeroCells z.cells (cap - n.toNat)) e)) := by
  obtain ⟨m,rfl⟩ := Int.eq_ofNat_of_zero_le (show 0 ≤ n by omega)
  simp only [Int.toNat_natCast] at hb ⊢
  refine ⟨grownCap w m 0 e,by simp [grownCap,Question.cut],?_⟩
  have hbm : m * i.bytes ≤ 140737488355328 := Nat.le_trans (Nat.mul_le_mul_right _ (by omega)) hb
  have hm1 : m ≤ m * i.bytes := Nat.le_mul_of_pos_right _ (by omega)
  have hw : IntKind.i64.wrap (m : Int) = m := by simp [IntKind.wrap,IntKind.bits,IntKind.signed]; omega
  have hmul : ¬ (281474976710656 < Builtin.nextslicecap m 0 * i.bytes) := by
    have h1 := nextslicecap_bound (need := m) (old := 0) (by omega)
    have h2 := Nat.mul_le_mul_right i.bytes h1
    have h3 : 2 * (m + 512) * i.bytes = 2 * ((m + 512) * i.bytes) := by rw [Nat.mul_assoc]
    omega
  have hn0 : ¬ (m = 0) := by omega
  have hneg : ¬ ((m : Int) < 0) := by omega
  have hbig : ¬ (281474976710656 < (m : Int) * i.bytes) := by
    have : (m : Int) * i.bytes = ((m * i.bytes : Nat) : Int) := by simp
    rw [this]; omega
  have hmax : ¬ (IntKind.i64.max < (m : Int)) := by simp [IntKind.max,IntKind.bits,IntKind.signed]; omega
  have hms : ¬ (m = 0 ∨ i.size = 0) := by omega
  have hmax2 : ¬ (9223372036854775807 < max (m : Int) 0) := by omega
  have hn1 : ¬ ((m : Int) ≤ 0) := by omega
  have hmax3 : ¬ (9223372036854775807 < m) := by omega
  have hmz : ¬ (m * i.size = 0) := fun h => by rcases Nat.mul_eq_zero.1 h with h | h <;> omega
  have hmax4 : ¬ (9223372036854775807 < (m : Int)) := by omega
  simp [Builtin.append_,run_underlying ht,run_underlying hu,Go.sizeOf,typeInfo,zeroValue,hi,hz,asInt,asIntOf,hw,hmax2,hmax3,hmax4,hmz,hn1,hneg,hbig,hn0,hmax,hmul,hs0,hms,Question.forced,Builtin.firstCells,newRow,grownCap]
theorem sim_appendZ {t u e ty : TypeId} {i : TypeInfo} {k : IntKind} {z : List LV} {x y : Operand} {lx ly : X} (ht : P.underlying t = some (.slice e)) (hu : P.underlying u = some (.int k)) (hi : P.info? e = some i) (hz : zeroT P e = some z) (hby : i.bytes ≠ 0) (hs0 : i.size ≠ 0) (hzl : z.length = i.size) (hzs : z.all LV.single = true)
    (hx : preX x = some lx) (hy : preX y = some ly) (E : ER ρ a env) (R : Rep w0 ρ h w)
    (hE : opE cf lo (.appendZ i.size i.bytes z lx ly) env h = some (l,h')) : Sim P (do pure (.value (← Builtin.append_ #[t,u] ty #[a.eval x,a.eval y]))) w0 ρ w l h' := by
  have h1 := preX_vr E hx
  have h2 := preX_vr E hy
  simp only [opE] at hE
  split at hE
  case h_2 => cases hE
  rename_i n hvx hvy
  split at hE
  case isFalse => cases hE
  rename_i hc
  cases hE
  rw [hvx] at h1; rw [hvy] at h2
  have e1 : a.eval x = .slice none 0 0 := by generalize a.eval x = v at h1; cases h1; rfl
  have e2 : a.eval y = .int .i64 n := h2.int_inv
  obtain ⟨zv,hzv,hr⟩ := zeroT_vr hz ρ
  have hz' : i.zero = some zv := by rw [hi] at hzv; exact hzv
  have hzz : zv.cells.size = i.size := by have := hr.1; simp at this; omega
  obtain ⟨cap,hcap,hrun⟩ := run_append_zero (P := P) (w := w) (ty := ty) ht hu hi hz' hby hs0 hc.1 hc.2
  have hm := made_vr hr (by omega) n.toNat
  have hzc : Builtin.zeroCells zv.cells n.toNat = (Array.range (n.toNat * z.length)).map (fun i => zv.cells[i % zv.cells.size]!) := by unfold Builtin.zeroCells; rw [hzz,hzl]
  rw [← hzc] at hm
  have hsz : (Builtin.zeroCells zv.cells n.toNat).size = n.toNat * i.size := by rw [size_zeroCells',hzz]
  have hsz2 : (Builtin.zeroCells zv.cells n.toNat ++ Builtin.zeroCells zv.cells (cap - n.toNat)).size = cap * i.size := by
    rw [Array.size_append,size_zeroCells',size_zeroCells',hzz,← Nat.add_mul]; congr 1; omega
  refine ⟨.slice (some ⟨w.heap.size,0,none⟩) n.toNat cap,_,_,Ext.app _ _,R.drew.alloc (n := n.toNat * i.size) (vs := Builtin.zeroCells zv.cells n.toNat ++ Builtin.zeroCells zv.cells (cap - n.toNat)) e (rows_single z hzs _) ?_ ?_,?_,.inl ?_⟩
  · rw [Array.toList_append,List.take_append_of_le_length (by rw [Array.length_toList,hsz]; exact Nat.le_refl _),List.take_of_length_le (by rw [Array.length_toList,hsz]; exact Nat.le_refl _)]
    exact hm
  · rw [hsz2]; exact Nat.mul_le_mul_right _ hcap
  · exact VR.slice (n := h.length) (off := 0) (pl := ⟨w.drew.heap.size,0,(Builtin.zeroCells zv.cells n.toNat ++ Builtin.zeroCells zv.cells (cap - n.toNat)).size⟩) (by rw [← R.len]; exact List.getElem?_concat_length) hcap (by show 0 + cap * i.size ≤ (Builtin.zeroCells zv.cells n.toNat ++ Builtin.zeroCells zv.cells (cap - n.toNat)).size; rw [hsz2]; omega) (fun h => by cases h)
  · rw [e1,e2]
    simp only [Sem.run_bind,hrun,Result.andThen_ok,Sem.run_pure]
theorem sim_capL {t e ty : TypeId} {x : Operand} {lx : X} (ht : P.underlying t = some (.slice e)) (hx : preX x = some lx) (E : ER ρ a env) (R : Rep w0 ρ h w)
    (hE : opE cf lo (.capL lx) env h = some (l,h')) : Sim P (do pure (.value (← Builtin.cap_ #[t] ty #[a.eval x]))) w0 ρ w l h' := by
  have h1 := preX_vr E hx
  simp only [opE] at hE
  split at hE
  · rename_i hv
    cases hE
    rw [hv] at h1
    have e1 : a.eval x = .slice none 0 0 := by generalize a.eval x = v at h1; cases h1; rfl
    refine sim_vals R (.int _ _) ?_
    rw [e1]
    simp [Builtin.cap_,run_underlying ht,goInt]
  · rename_i n off len es f hv
    rw [hv] at h1
    split at hE
    case isFalse => cases hE
    rename_i hf
    cases hE
    generalize a.eval x = v at h1
    cases h1 with
    | slice hp hc hx hff =>
      have := hff hf
      subst this
      exact sim_vals R (.int _ _) (by simp [Builtin.cap_,run_underlying ht,goInt])
    | slice0 ad => exact sim_vals R (.int _ _) (by simp [Builtin.cap_,run_underlying ht,goInt])
  · cases hE
theorem sim_clear {t e ty : TypeId} {n : Nat} {z : List LV} {x : Operand} {lx : X} (ht : P.underlying t = some (.slice e)) (hz : zeroT P e = some z) (hzl : z.length = n) (hpos : z.length ≠ 0) (hzs : z.all LV.single = true) (hx : preX x = some lx) (E : ER ρ a env) (R : Rep w0 ρ h w)
    (hE : opE cf lo (.rewr (.clear z) n 0 lx (.c (.func 0 []))) env h = some (l,h')) : Sim P (do pure (.value (← Builtin.clear_ #[t] ty #[a.eval x]))) w0 ρ w l h' := by
  have h1 := preX_vr E hx
  have hev0 : X.ev env (.c (.func 0 [])) = .func 0 [] := rfl
  simp only [opE,hev0,if_true] at hE
  split at hE
  · rename_i hv
    cases hE
    rw [hv] at h1
    have e1 : a.eval x = .slice none 0 0 := by generalize a.eval x = v at h1; cases h1; rfl
    refine sim_vals R (VRs.tup (cs := #[]) (VRs.nil ρ)) ?_
    rw [e1]
    simp [Builtin.clear_,run_underlying ht]
  · rename_i m off len es' f hv
    rw [hv] at h1
    split at hE
    · rename_i hl0
      subst hl0
      cases hE
      refine sim_vals R (VRs.tup (cs := #[]) (VRs.nil ρ)) ?_
      generalize a.eval x = v at h1
      cases h1 with
      | slice hp hc hx hf => simp [Builtin.clear_,run_underlying ht]
      | slice0 ad => simp [Builtin.clear_,run_underlying ht]
    · rename_i hl0
      split at hE
      case isFalse => cases hE
      rename_i hes
      subst hes
      split at hE
      case h_2 => cases hE
      rename_i rw cs hn
      split at hE
      case isFalse => cases hE
      rename_i hc
      obtain ⟨hrw,hlo,hle⟩ := hc
      subst hrw
      simp only [rwE] at hE
      split at hE
      case isFalse => cases hE
      rename_i hout
      cases hE
      generalize hev : a.eval x = v at h1 ⊢
      cases h1 with
      | slice0 ad => exact absurd rfl hl0
      | @slice _ _ _ cap _ _ pl hp hc hx hf =>
        obtain ⟨zv,hzv,hr⟩ := zeroT_vr hz ρ
        obtain ⟨i,hi,hiz⟩ := Option.bind_eq_some_iff.1 hzv
        have hm := made_vr hr hpos len
        have hzz : zv.cells.size = z.length := by have := hr.1; simpa using this
        have hzc : Builtin.zeroCells zv.cells len = (Array.range (len * z.length)).map (fun i => zv.cells[i % zv.cells.size]!) := by unfold Builtin.zeroCells; rw [hzz]
        have hst := run_storeCells_at' (P := P) R hn hp off hm (rows_single z hzs len) (by have := (R.blk m _ pl hn hp).2.1; have := hout.1; omega)
        refine ⟨.tuple #[],_,ρ,Ext.refl ρ,R.write hn hp off (rows_single z hzs len) hm (by have := hout.1; omega),VRs.tup (cs := #[]) (VRs.nil ρ),.inl ?_⟩
        rw [← hzc] at hst
        cases len with
        | zero => exact absurd rfl hl0
        | succ len => simp [Builtin.clear_,run_underlying ht,run_zero hzv,hst]; rw [hzc]; simp
  · cases hE

theorem sim_mkfunc {f : FuncId} {first caps : Array Operand} {lcs : List X} (hf : first.size = 0) (hc : preXs caps = some lcs) (E : ER ρ a env) (R : Rep w0 ρ h w)
    (hE : opE cf lo (.mkfunc f lcs) env h = some (l,h')) : Sim P (do pure (.value (← Instr.makeFunc (.func f) (first.map a.eval) (caps.map a.eval)))) w0 ρ w l h' := by
  simp only [opE,Option.some.injEq,Prod.mk.injEq] at hE
  obtain ⟨rfl,rfl⟩ := hE
  have h1 := preXs_vr E hc
  have e1 : first.map a.eval = #[] := Array.eq_empty_of_size_eq_zero (by simpa using hf)
  refine sim_vals (v := .func (.func f) #[] (caps.map a.eval)) R (.func f _ _ (by have := h1.1; simpa using this) fun i v l hv hl => h1.2 i v l (by simpa using hv) hl) ?_
  rw [e1]; rfl
end
end Lg
