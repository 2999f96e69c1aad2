/- Operations,continued: conversions,slices,fields,elements,lengths. -/
import Derived.Test.YtpoofafddbcnpaaVLgOps2
import Derived.Laws.Slices
namespace Lg
open Go Go.RowKit
set_option linter.unusedSimpArgs false
set_option linter.unusedVariables false
section
variable {P : Program} {m : Bool} {w0 : Ini m} {ρ : List Place} {h h' : Heap} {w : World} {a : Act} {env : Env} {cf : CallF} {lo : Nat} {l : LV}

theorem sim_un {op : UnOp} {x : Operand} {lx : X} (hx : preX x = some lx) (E : ER ρ a env) (R : Rep w0 ρ h w)
    (hE : opE cf lo (.un op lx) env h = some (l,h')) : Sim P (do pure (.value (← Op.unary op (a.eval x)))) w0 ρ w l h' := by
  simp only [opE] at hE
  have h1 := preX_vr E hx
  split at hE
  case h_2 => cases hE
  rename_i v hv
  simp only [Option.some.injEq,Prod.mk.injEq] at hE
  obtain ⟨rfl,rfl⟩ := hE
  generalize lx.ev env = lv at *
  cases lv <;> simp only [unE] at hv <;> first | (cases hv; done) | skip
  · cases op <;> simp only [] at hv <;> first | (cases hv; done) | skip
    cases hv
    rw [h1.bool_inv]
    exact sim_vals R (.bool _) rfl
  · cases op <;> simp only [] at hv <;> first | (cases hv; done) | skip
    · cases hv
      rw [h1.int_inv]
      exact sim_vals R (.int _ _) rfl
    · cases hv
      rw [h1.int_inv]
      exact sim_vals R (.int _ _) rfl

theorem sim_conv {s d : TypeId} {k0 k : IntKind} {x : Operand} {lx : X} (hs : P.underlying s = some (.int k0)) (hd : P.underlying d = some (.int k)) (hx : preX x = some lx) (E : ER ρ a env) (R : Rep w0 ρ h w)
    (hE : opE cf lo (.conv k lx) env h = some (l,h')) : Sim P (do pure (.value (← convert s d (a.eval x)))) w0 ρ w l h' := by
  simp only [opE] at hE
  have h1 := preX_vr E hx
  split at hE
  case h_2 => cases hE
  rename_i k1 n hn
  simp only [Option.some.injEq,Prod.mk.injEq] at hE
  obtain ⟨rfl,rfl⟩ := hE
  rw [hn] at h1
  rw [h1.int_inv]
  exact sim_vals R (.int _ _) (by simp [convert,run_underlying hs,run_underlying hd,Conv.intToInt])

theorem sim_convs {s d : TypeId} {x : Operand} {lx : X} (hs : P.underlying s = some .string) (hd : P.underlying d = some .string) (hx : preX x = some lx) (E : ER ρ a env) (R : Rep w0 ρ h w)
    (hE : opE cf lo (.mvs lx) env h = some (l,h')) : Sim P (do pure (.value (← convert s d (a.eval x)))) w0 ρ w l h' := by
  simp only [opE] at hE
  have h1 := preX_vr E hx
  split at hE
  case h_2 => cases hE
  rename_i n hn
  simp only [Option.some.injEq,Prod.mk.injEq] at hE
  obtain ⟨rfl,rfl⟩ := hE
  rw [hn] at h1
  obtain ⟨b,hb,rfl⟩ := h1.str_inv
  rw [hb]
  exact sim_vals R (.str b) (by simp [convert,run_underlying hs,run_underlying hd])

/-! ### bounds -/

theorem asNat_inv {v : Value} {lv : LV} {n : Nat} (hv : VR ρ v lv) (hn : asNat lv = some n) : ∃ k,v = .int k (n : Int) := by
  unfold asNat at hn
  split at hn
  · rename_i k i
    split at hn
    · cases hn
      exact ⟨k,by rw [hv.int_inv,Int.toNat_of_nonneg ‹_›]⟩
    · cases hn
  · cases hn

theorem preO_inv {x : Option Operand} {lx : Option X} (hx : preO x = some lx) : (x = none ∧ lx = none) ∨ ∃ y ly,x = some y ∧ lx = some ly ∧ preX y = some ly := by
  cases x with
  | none => simp [preO] at hx; exact .inl ⟨rfl,hx.symm⟩
  | some y =>
    simp only [preO,Option.map_eq_some_iff] at hx
    obtain ⟨ly,h1,h2⟩ := hx
    exact .inr ⟨y,ly,rfl,h2.symm,h1⟩

theorem bnds_inv {len l e : Nat} {lo hi : Option X} (hb : bnds env len lo hi = some (l,e)) : (lo = none ∧ l = 0 ∨ ∃ x,lo = some x ∧ asNat (x.ev env) = some l) ∧ (hi = none ∧ e = len ∨ ∃ x,hi = some x ∧ asNat (x.ev env) = some e) ∧ l ≤ e ∧ e ≤ len := by
  unfold bnds at hb
  simp only [] at hb
  split at hb
  · rename_i l0 e0 h1 h2
    split at hb
    · rename_i hc
      cases hb
      refine ⟨?_,?_,hc.1,hc.2⟩
      · cases lo with
        | none => simp at h1; exact .inl ⟨rfl,h1.symm⟩
        | some x => exact .inr ⟨x,rfl,h1⟩
      · cases hi with
        | none => simp at h2; exact .inl ⟨rfl,h2.symm⟩
        | some x => exact .inr ⟨x,rfl,h2⟩
    · cases hb
  · cases hb

theorem run_bounds {isS : Bool} {len cap l e : Nat} {lo hi : Option Operand} {llo lhi : Option X} (hlo : preO lo = some llo) (hhi : preO hi = some lhi) (E : ER ρ a env) (hb : bnds env len llo lhi = some (l,e)) (hc : len ≤ cap) (w : World) :
    (Instr.sliceBounds isS len cap (lo.map a.eval) (hi.map a.eval) none).run P w = .ok (l,e,cap) w := by
  obtain ⟨h1,h2,h3,h4⟩ := bnds_inv hb
  have hi' : ∀ (x : Operand) (lx : X) (n b : Nat) (code : BoundsCode),preX x = some lx → asNat (lx.ev env) = some n → n ≤ b → (Instr.sliceBound (a.eval x) b code).run P w = .ok n w := by
    intro x lx n b code hx hn hle
    obtain ⟨k,hk⟩ := asNat_inv (preX_vr E hx) hn
    rw [hk,run_sliceBound w k n b code (by omega) (by omega)]
    simp
  rcases preO_inv hlo with ⟨rfl,rfl⟩ | ⟨y,ly,rfl,rfl,hy⟩ <;> rcases preO_inv hhi with ⟨rfl,rfl⟩ | ⟨z,lz,rfl,rfl,hz⟩
  · simp at h1 h2
    subst h1; subst h2
    simp [Instr.sliceBounds]
  · simp at h1 h2
    subst h1
    have := fun code => hi' z lz e cap code hz h2 (by omega)
    cases isS <;> simp [Instr.sliceBounds,this]
  · simp at h1 h2
    subst h2
    have := fun code => hi' y ly l e code hy h1 (by omega)
    cases isS <;> simp [Instr.sliceBounds,this]
  · simp at h1 h2
    have e1 := fun code => hi' z lz e cap code hz h2 (by omega)
    have e2 := fun code => hi' y ly l e code hy h1 (by omega)
    cases isS <;> simp [Instr.sliceBounds,e1,e2]

theorem run_bounds_max {isS : Bool} {len cap l e m : Nat} {lo hi : Option Operand} {mx : Operand} {llo lhi : Option X} {lmx : X} (hlo : preO lo = some llo) (hhi : preO hi = some lhi) (hhs : lhi.isSome = true) (hmx : preX mx = some lmx) (E : ER ρ a env)
    (hb : bnds env len llo lhi = some (l,e)) (hm : asNat (lmx.ev env) = some m) (hc : m ≤ cap) (he : e ≤ m) (w : World) :
    (Instr.sliceBounds isS len cap (lo.map a.eval) (hi.map a.eval) (some (a.eval mx))).run P w = .ok (l,e,m) w := by
  obtain ⟨h1,h2,h3,h4⟩ := bnds_inv hb
  have hi' : ∀ (x : Operand) (lx : X) (n b : Nat) (code : BoundsCode),preX x = some lx → asNat (lx.ev env) = some n → n ≤ b → (Instr.sliceBound (a.eval x) b code).run P w = .ok n w := by
    intro x lx n b code hx hn hle
    obtain ⟨k,hk⟩ := asNat_inv (preX_vr E hx) hn
    rw [hk,run_sliceBound w k n b code (by omega) (by omega)]
    simp
  have e0 := fun code => hi' mx lmx m cap code hmx hm hc
  rcases preO_inv hlo with ⟨rfl,rfl⟩ | ⟨y,ly,rfl,rfl,hy⟩ <;> rcases preO_inv hhi with ⟨rfl,rfl⟩ | ⟨z,lz,rfl,rfl,hz⟩
  · simp at hhs
  · simp at h1 h2
    subst h1
    have e1 := fun code => hi' z lz e m code hz h2 he
    cases isS <;> simp [Instr.sliceBounds,e0,e1]
  · simp at hhs
  · simp at h1 h2
    have e1 := fun code => hi' z lz e m code hz h2 he
    have e2 := fun code => hi' y ly l e code hy h1 (by omega)
    cases isS <;> simp [Instr.sliceBounds,e0,e1,e2]

theorem vr_resliced {n off len cap es l e m : Nat} {full full' : Bool} {pl : Place} (hp : ρ[n]? = some pl) (hx : off + cap * es ≤ pl.ext) (hl : l ≤ e) (he : e ≤ m) (hm : m ≤ cap) (hf : full' = true → m = e) :
    VR ρ (.slice (if m = l then some (pl.at off) else (some (pl.at off)).map (·.add (l * es))) (e - l) (m - l)) (.slice n (off + l * es) (e - l) es full') := by
  by_cases hml : m = l
  · rw [if_pos hml]
    have h1 : e - l = 0 := by omega
    have h2 : m - l = 0 := by omega
    rw [h1,h2]
    exact .slice0 _ _ _ _ hp
  · rw [if_neg hml]
    simp only [Option.map_some,Place.at_add]
    refine .slice hp (by omega) ?_ (fun h => by have := hf h; omega)
    have : l * es + (m - l) * es = m * es := by rw [← Nat.add_mul]; congr 1; omega
    have : m * es ≤ cap * es := Nat.mul_le_mul_right _ hm
    omega

theorem sim_slc_str {t : TypeId} {x : Operand} {lx : X} {lo' hi : Option Operand} {llo lhi : Option X} (ht : P.underlying t = some .string) (hx : preX x = some lx) (hlo : preO lo' = some llo) (hhi : preO hi = some lhi) (E : ER ρ a env) (R : Rep w0 ρ h w)
    (hE : opE cf lo (.slc 0 lx llo lhi none) env h = some (l,h')) : Sim P (do pure (.value (← Instr.sliceAt t (a.eval x) (lo'.map a.eval) (hi.map a.eval) none))) w0 ρ w l h' := by
  simp only [opE] at hE
  have h1 := preX_vr E hx
  split at hE
  · rename_i s hs
    rw [hs] at h1
    split at hE
    case isFalse => cases hE
    split at hE
    case h_2 => cases hE
    rename_i l0 e0 hb
    simp only [Option.some.injEq,Prod.mk.injEq] at hE
    obtain ⟨rfl,rfl⟩ := hE
    obtain ⟨b,hbv,rfl⟩ := h1.str_inv
    have hsz : b.data.toList.length = b.size := by simp
    obtain ⟨_,_,hle,hlen⟩ := bnds_inv hb
    rw [hsz] at hb hlen
    refine sim_vals (v := .string (b.extract l0 e0)) R ?_ ?_
    · have := VR.str (ρ := ρ) (b.extract l0 e0)
      have e1 : (b.extract l0 e0).data.toList = List.drop l0 (List.take e0 b.data.toList) := by
        simp [ByteArray.data_extract,List.extract_eq_take_drop,List.drop_take]
      rwa [e1] at this
    · rw [hbv]
      simp [Instr.sliceAt,run_underlying ht,Instr.slice,run_bounds (P := P) hlo hhi E hb (Nat.le_refl _)]
  · simp at hE
  · split at hE
    · rename_i hc; exact absurd rfl hc.2
    · cases hE
  · cases hE

theorem sim_slc {t e : TypeId} {x : Operand} {lx : X} {lo' hi mx : Option Operand} {llo lhi lmx : Option X} {es : Nat} (ht : P.underlying t = some (.slice e)) (hes : sizeT P e = some es) (h0 : es ≠ 0) (hmh : lmx.isNone = true ∨ lhi.isSome = true)
    (hx : preX x = some lx) (hlo : preO lo' = some llo) (hhi : preO hi = some lhi) (hmx : preO mx = some lmx) (E : ER ρ a env) (R : Rep w0 ρ h w)
    (hE : opE cf lo (.slc es lx llo lhi lmx) env h = some (l,h')) : Sim P (do pure (.value (← Instr.sliceAt t (a.eval x) (lo'.map a.eval) (hi.map a.eval) (mx.map a.eval)))) w0 ρ w l h' := by
  have hel : P.elem t = e := by unfold Program.elem; rw [ht]
  have hat : ∀ v lo hi mx,(Instr.sliceAt t v lo hi mx).run P w = (Instr.slice t v lo hi mx).run P w := fun v lo hi mx => by
    simp [Instr.sliceAt,run_underlying ht]
  simp only [opE] at hE
  have h1 := preX_vr E hx
  split at hE
  · rename_i s hs
    split at hE
    case isFalse => cases hE
    rename_i hc; exact absurd hc.1 h0
  · -- nil
    rename_i hs
    rw [hs] at h1
    rw [if_neg h0] at hE
    split at hE
    case h_2 => cases hE
    rename_i le hb
    obtain ⟨l0,e0⟩ := le
    have hv : a.eval x = .slice none 0 0 := by generalize a.eval x = v at h1; cases h1; rfl
    obtain ⟨_,_,hle,hlen⟩ := bnds_inv hb
    have hl0 : l0 = 0 := by omega
    have he0 : e0 = 0 := by omega
    subst hl0; subst he0
    rcases preO_inv hmx with ⟨rfl,rfl⟩ | ⟨y,ly,rfl,rfl,hy⟩
    · simp only [Option.some.injEq,Prod.mk.injEq] at hE
      obtain ⟨rfl,rfl⟩ := hE
      refine sim_vals (v := .slice none 0 0) R .nilslice ?_
      rw [hat,hv]
      simp only [Instr.slice,Sem.run_bind,run_underlying ht,Result.andThen_ok,Option.map_none,run_bounds (P := P) hlo hhi E hb (Nat.le_refl _),run_size hes,Sem.run_pure]
      rfl
    · simp only [] at hE
      split at hE
      case isFalse => cases hE
      rename_i hm
      simp only [Option.some.injEq,Prod.mk.injEq] at hE
      obtain ⟨rfl,rfl⟩ := hE
      refine sim_vals (v := .slice none 0 0) R .nilslice ?_
      rw [hat,hv]
      have hhs : lhi.isSome = true := by rcases hmh with h | h; · simp at h
                                         · exact h
      simp only [Instr.slice,Sem.run_bind,run_underlying ht,Result.andThen_ok,Option.map_some,run_bounds_max (P := P) hlo hhi hhs hy E hb hm (Nat.le_refl _) (Nat.le_refl _),run_size hes,Sem.run_pure]
      rfl
  · rename_i n off len es' full hs
    rw [hs] at h1
    split at hE
    case isFalse =>
      split at hE
      case isFalse => cases hE
      rename_i hc
      obtain ⟨_,rfl⟩ := hc
      split at hE
      case h_2 => cases hE
      rename_i le hb
      obtain ⟨l0,e0⟩ := le
      obtain ⟨_,_,hle,hlen⟩ := bnds_inv hb
      have hl0 : l0 = 0 := by omega
      have he0 : e0 = 0 := by omega
      subst hl0; subst he0
      have inv : ∃ ad cap,a.eval x = .slice (some ad) 0 cap ∧ (∃ pl,ρ[n]? = some pl) ∧ VR ρ (.slice (if cap = 0 then some ad else some (ad.add 0)) 0 cap) (.slice n off 0 es' full) := by
        generalize hv : a.eval x = v at h1
        cases h1 with
        | slice hp hc hx hf =>
          refine ⟨_,_,rfl,⟨_,hp⟩,?_⟩
          rw [Place.at_add]
          simp only [Nat.add_zero,ite_self]
          exact .slice hp hc hx hf
        | slice0 ad _ _ _ hp => exact ⟨ad,0,rfl,⟨_,hp⟩,.slice0 _ _ _ _ hp⟩
      obtain ⟨ad,cap,hv,⟨pl,hp⟩,hr⟩ := inv
      rcases preO_inv hmx with ⟨rfl,rfl⟩ | ⟨y,ly,rfl,rfl,hy⟩
      · simp only [Option.some.injEq,Prod.mk.injEq] at hE
        obtain ⟨rfl,rfl⟩ := hE
        refine sim_vals R hr ?_
        rw [hat,hv]
        simp [Instr.slice,run_underlying ht,run_bounds (P := P) hlo hhi E hb (Nat.zero_le cap),run_size hes]
      · simp only [] at hE
        split at hE
        case isFalse => cases hE
        rename_i hm
        simp only [Option.some.injEq,Prod.mk.injEq] at hE
        obtain ⟨rfl,rfl⟩ := hE
        have hhs : lhi.isSome = true := by rcases hmh with h | h; · simp at h
                                           · exact h
        refine sim_vals R (.slice0 ad off es' true hp) ?_
        rw [hat,hv]
        simp [Instr.slice,run_underlying ht,run_bounds_max (P := P) (cap := cap) (m := 0) hlo hhi hhs hy E hb hm (Nat.zero_le _) (Nat.le_refl _),run_size hes]
    rename_i hc
    obtain ⟨rfl,_⟩ := hc
    split at hE
    case h_2 => cases hE
    rename_i l0 e0 hb
    obtain ⟨_,_,hle,hlen⟩ := bnds_inv hb
    have inv : ∃ ad cap,a.eval x = .slice (some ad) len cap ∧ len ≤ cap ∧ (full = true → cap = len) ∧ ∀ (m : Nat) (f' : Bool),e0 ≤ m → m ≤ cap → (f' = true → m = e0) →
        VR ρ (.slice (if m = l0 then some ad else (some ad).map (·.add (l0 * es'))) (e0 - l0) (m - l0)) (.slice n (off + l0 * es') (e0 - l0) es' f') := by
      generalize a.eval x = v at h1
      cases h1 with
      | slice hp hc hx hf =>
        exact ⟨_,_,rfl,hc,hf,fun m f' h1 h2 h3 => vr_resliced (full := full) (len := len) hp hx hle h1 h2 h3⟩
      | slice0 ad _ _ _ hp =>
        refine ⟨ad,0,rfl,Nat.le_refl _,fun _ => rfl,fun m f' h1 h2 h3 => ?_⟩
        have : m = 0 := by omega
        have : l0 = 0 := by omega
        have : e0 = 0 := by omega
        subst_vars
        exact .slice0 _ _ _ _ hp
    obtain ⟨ad,cap,hv,hc,hf,hr⟩ := inv
    rcases preO_inv hmx with ⟨rfl,rfl⟩ | ⟨y,ly,rfl,rfl,hy⟩
    · simp only [Option.some.injEq,Prod.mk.injEq] at hE
      obtain ⟨rfl,rfl⟩ := hE
      refine sim_vals R (hr cap _ (by omega) (Nat.le_refl _) (fun hh => ?_)) ?_
      · simp only [Bool.and_eq_true,beq_iff_eq] at hh
        have := hf hh.1
        omega
      · rw [hat,hv]
        simp [Instr.slice,run_underlying ht,run_bounds (P := P) hlo hhi E hb hc,run_size hes]
    · simp only [] at hE
      split at hE
      case h_2 => cases hE
      rename_i m hm
      split at hE
      case isFalse => cases hE
      rename_i hmc
      simp only [Option.some.injEq,Prod.mk.injEq] at hE
      obtain ⟨rfl,rfl⟩ := hE
      have hhs : lhi.isSome = true := by rcases hmh with h | h; · simp at h
                                         · exact h
      refine sim_vals R (hr m _ hmc.1 (by omega) (fun hh => by simp at hh; exact hh.symm)) ?_
      rw [hat,hv]
      simp [Instr.slice,run_underlying ht,run_bounds_max (P := P) (cap := cap) (m := m) hlo hhi hhs hy E hb hm (by omega) hmc.1,run_size hes]
  · cases hE

theorem sim_slcA {t e : TypeId} {len es : Nat} {x : Operand} {lx : X} {lo' hi : Option Operand} {llo lhi : Option X} (ht : P.underlying t = some (.array len e)) (hes : sizeT P e = some es) (hx : preX x = some lx) (hlo : preO lo' = some llo) (hhi : preO hi = some lhi) (E : ER ρ a env) (R : Rep w0 ρ h w)
    (hE : opE cf lo (.slcA len es lx llo lhi) env h = some (l,h')) : Sim P (do pure (.value (← Instr.sliceAt t (a.eval x) (lo'.map a.eval) (hi.map a.eval) none))) w0 ρ w l h' := by
  simp only [opE] at hE
  have h1 := preX_vr E hx
  split at hE
  case h_2 => cases hE
  rename_i n off hn
  rw [hn] at h1
  obtain ⟨pl,hp,he⟩ := h1.ptr_inv
  split at hE
  case h_2 => cases hE
  rename_i l0 e0 hb
  split at hE
  case h_2 => cases hE
  rename_i rw cs hcs
  split at hE
  case isFalse => cases hE
  rename_i hlen
  simp only [Option.some.injEq,Prod.mk.injEq] at hE
  obtain ⟨rfl,rfl⟩ := hE
  obtain ⟨_,_,hle,hlen'⟩ := bnds_inv hb
  have := (R.blk n _ pl hcs hp).2.1
  refine sim_vals R (vr_resliced (full := false) (len := len) (m := len) (cap := len) hp (by omega) hle hlen' (Nat.le_refl _) (fun hh => by simp at hh; omega)) ?_
  rw [he]
  simp [Instr.sliceAt,run_underlying ht,Instr.sureAddr,run_bounds (P := P) hlo hhi E hb (Nat.le_refl _),run_size hes]
  split <;> rfl

/-! ### fields,elements -/

theorem sim_fieldAddr {t : TypeId} {fs : Array Field} {i : Nat} {f : Field} {s : Nat} {x : Operand} {lx : X} (ht : P.underlying t = some (.struct fs)) (hf : fs[i]? = some f) (hs : sizeT P f.type = some s) (h0 : s ≠ 0) (hx : preX x = some lx) (E : ER ρ a env) (R : Rep w0 ρ h w)
    (hE : opE cf lo (.fieldAddr f.offset lx) env h = some (l,h')) : Sim P (do pure (.value (← Instr.fieldAt t (a.eval x) i))) w0 ρ w l h' := by
  simp only [opE] at hE
  have h1 := preX_vr E hx
  split at hE
  case h_2 => cases hE
  rename_i n off hn
  rw [hn] at h1
  obtain ⟨pl,hp,he⟩ := h1.ptr_inv
  simp only [Option.some.injEq,Prod.mk.injEq] at hE
  obtain ⟨rfl,rfl⟩ := hE
  refine sim_vals R (VR.ptr hp) ?_
  rw [he]
  simp [Instr.fieldAt,run_underlying ht,hf,Instr.sureAddr,fieldPlace,run_size hs,h0,Place.at_add]

theorem run_part {t : TypeId} {g : Bool} {n off : Nat} (hg : isAggT P t = some g) (hn : sizeT P t = some n) {xs : Array Value} {lx : List LV} (hx : VRs ρ xs.toList lx) {v : LV}
    (hv : (if g then (if off + n ≤ lx.length then some (LV.agg ((lx.drop off).take n)) else none) else lx[off]?) = some v) (w : World) :
    ∃ u,(part t xs off).run P w = .ok u w ∧ VR ρ u v := by
  cases g with
  | true =>
    simp only [if_true] at hv
    split at hv
    · cases hv
      exact ⟨_,by simp [part,run_isAgg hg,run_size hn],VRs.agg (hx.extract off n)⟩
    · cases hv
  | false =>
    simp only [Bool.false_eq_true,if_false] at hv
    obtain ⟨u,hu,hr⟩ := hx.get hv
    have hu' : xs[off]? = some u := by simpa using hu
    exact ⟨u,by simp [part,run_isAgg hg,hu'],hr⟩

theorem sim_field {t : TypeId} {fs : Array Field} {i : Nat} {f : Field} {s : Nat} {g : Bool} {x : Operand} {lx : X} (ht : P.underlying t = some (.struct fs)) (hf : fs[i]? = some f) (hg : isAggT P f.type = some g) (hs : sizeT P f.type = some s) (hx : preX x = some lx) (E : ER ρ a env) (R : Rep w0 ρ h w)
    (hE : opE cf lo (.field g f.offset s lx) env h = some (l,h')) : Sim P (do pure (.value (← Instr.field t (a.eval x) i))) w0 ρ w l h' := by
  simp only [opE] at hE
  have h1 := preX_vr E hx
  split at hE
  case h_2 => cases hE
  rename_i cs hn
  rw [hn] at h1
  obtain ⟨xs,he,hr⟩ := h1.agg_inv
  have key : (if g then (if f.offset + s ≤ cs.length then some (LV.agg ((cs.drop f.offset).take s)) else none) else cs[f.offset]?) = some l ∧ h = h' := by
    cases g
    · simp only [Bool.false_eq_true,if_false] at hE ⊢
      split at hE
      · rename_i v hv; cases hE; exact ⟨hv,rfl⟩
      · cases hE
    · simp only [if_true] at hE ⊢
      split at hE
      · cases hE; exact ⟨by rw [if_pos ‹_›],rfl⟩
      · cases hE
  obtain ⟨hv,rfl⟩ := key
  obtain ⟨u,hu,hr'⟩ := run_part hg hs hr hv w
  refine sim_vals R hr' ?_
  rw [he]
  simp [Instr.field,run_underlying ht,hf,asAgg,hu]

theorem sim_indexAddr {t e : TypeId} {es : Nat} {x i : Operand} {lx li : X} (ht : P.underlying t = some (.slice e)) (hes : sizeT P e = some es) (hx : preX x = some lx) (hi : preX i = some li) (E : ER ρ a env) (R : Rep w0 ρ h w)
    (hE : opE cf lo (.indexAddr es lx li) env h = some (l,h')) : Sim P (do pure (.value (← Instr.indexAt t (a.eval x) (a.eval i)))) w0 ρ w l h' := by
  simp only [opE] at hE
  have h1 := preX_vr E hx
  have h2 := preX_vr E hi
  split at hE
  case h_2 => cases hE
  rename_i n off len es' full j hs hj
  rw [hs] at h1
  split at hE
  case isFalse => cases hE
  rename_i hc
  obtain ⟨rfl,hlt⟩ := hc
  simp only [Option.some.injEq,Prod.mk.injEq] at hE
  obtain ⟨rfl,rfl⟩ := hE
  obtain ⟨k,hk⟩ := asNat_inv h2 hj
  generalize a.eval x = v at h1
  cases h1 with
  | slice hp hc hx hf =>
    refine sim_vals R (VR.ptr hp) ?_
    rw [hk]
    simp [Instr.indexAt,asIntOf,run_underlying ht,hlt,run_size hes,Place.at_add]
  | slice0 ad => omega

theorem sim_indexAddrA {t e : TypeId} {len es : Nat} {x i : Operand} {lx li : X} (ht : P.underlying t = some (.array len e)) (hes : sizeT P e = some es) (hx : preX x = some lx) (hi : preX i = some li) (E : ER ρ a env) (R : Rep w0 ρ h w)
    (hE : opE cf lo (.indexAddrA len es lx li) env h = some (l,h')) : Sim P (do pure (.value (← Instr.indexAt t (a.eval x) (a.eval i)))) w0 ρ w l h' := by
  simp only [opE] at hE
  have h1 := preX_vr E hx
  have h2 := preX_vr E hi
  split at hE
  case h_2 => cases hE
  rename_i n off j hs hj
  rw [hs] at h1
  split at hE
  case isFalse => cases hE
  rename_i hlt
  simp only [Option.some.injEq,Prod.mk.injEq] at hE
  obtain ⟨rfl,rfl⟩ := hE
  obtain ⟨k,hk⟩ := asNat_inv h2 hj
  obtain ⟨pl,hp,he⟩ := h1.ptr_inv
  refine sim_vals R (VR.ptr hp) ?_
  rw [hk,he]
  simp [Instr.indexAt,asIntOf,run_underlying ht,hlt,run_size hes,Place.at_add,Instr.sureAddr]

theorem sim_index {t : TypeId} {x i : Operand} {lx li : X} (ht : P.underlying t = some .string) (hx : preX x = some lx) (hi : preX i = some li) (E : ER ρ a env) (R : Rep w0 ρ h w)
    (hE : opE cf lo (.index lx li) env h = some (l,h')) : Sim P (do pure (.value (← Instr.index t (a.eval x) (a.eval i)))) w0 ρ w l h' := by
  simp only [opE] at hE
  have h1 := preX_vr E hx
  have h2 := preX_vr E hi
  split at hE
  case h_2 => cases hE
  rename_i s j hs hj
  rw [hs] at h1
  split at hE
  case h_2 => cases hE
  rename_i b hb
  simp only [Option.some.injEq,Prod.mk.injEq] at hE
  obtain ⟨rfl,rfl⟩ := hE
  obtain ⟨k,hk⟩ := asNat_inv h2 hj
  obtain ⟨bs,he,rfl⟩ := h1.str_inv
  refine sim_vals (v := .int .u8 b.toNat) R (.int _ _) ?_
  have hb' : bs[j]? = some b := by
    have h3 : j < bs.size := by have := lt_of_getElem? hb; simpa using this
    rw [ByteArray.getElem?_lt' bs j h3]
    rw [List.getElem?_eq_getElem (by simpa using h3)] at hb
    have hb2 : bs.data[j] = b := by simpa using hb
    exact congrArg some hb2
  rw [hk,he]
  simp [Instr.index,asIntOf,run_underlying ht,hb']

theorem sim_indexA {t e : TypeId} {len es : Nat} {g : Bool} {x i : Operand} {lx li : X} (ht : P.underlying t = some (.array len e)) (hg : isAggT P e = some g) (hes : sizeT P e = some es) (hx : preX x = some lx) (hi : preX i = some li) (E : ER ρ a env) (R : Rep w0 ρ h w)
    (hE : opE cf lo (.indexA g len es lx li) env h = some (l,h')) : Sim P (do pure (.value (← Instr.index t (a.eval x) (a.eval i)))) w0 ρ w l h' := by
  simp only [opE] at hE
  have h1 := preX_vr E hx
  have h2 := preX_vr E hi
  split at hE
  case h_2 => cases hE
  rename_i cs j hs hj
  rw [hs] at h1
  split at hE
  case isFalse => cases hE
  rename_i hlt
  obtain ⟨k,hk⟩ := asNat_inv h2 hj
  obtain ⟨xs,he,hr⟩ := h1.agg_inv
  have key : (if g then (if j * es + es ≤ cs.length then some (LV.agg ((cs.drop (j * es)).take es)) else none) else cs[j * es]?) = some l ∧ h = h' := by
    cases g
    · simp only [Bool.false_eq_true,if_false] at hE ⊢
      split at hE
      · rename_i v hv; cases hE; exact ⟨hv,rfl⟩
      · cases hE
    · simp only [if_true] at hE ⊢
      split at hE
      · cases hE; exact ⟨by rw [if_pos ‹_›],rfl⟩
      · cases hE
  obtain ⟨hv,rfl⟩ := key
  obtain ⟨u,hu,hr'⟩ := run_part hg hes hr hv w
  refine sim_vals R hr' ?_
  rw [he,hk]
  simp [Instr.index,asIntOf,run_underlying ht,hlt,run_size hes,hu]

theorem sim_extract {x : Operand} {lx : X} {i : Nat} (hx : preX x = some lx) (E : ER ρ a env) (R : Rep w0 ρ h w)
    (hE : opE cf lo (.extract i lx) env h = some (l,h')) : Sim P (do pure (.value (← Instr.extract (a.eval x) i))) w0 ρ w l h' := by
  simp only [opE] at hE
  have h1 := preX_vr E hx
  split at hE
  case h_2 => cases hE
  rename_i vs hs
  rw [hs] at h1
  split at hE
  case h_2 => cases hE
  rename_i v hv
  simp only [Option.some.injEq,Prod.mk.injEq] at hE
  obtain ⟨rfl,rfl⟩ := hE
  obtain ⟨cs,he,hr⟩ := h1.tup_inv
  obtain ⟨u,hu,hr'⟩ := hr.get hv
  have hu' : cs[i]? = some u := by simpa using hu
  refine sim_vals R hr' ?_
  rw [he]
  simp [Instr.extract,hu']
end
end Lg
