/- Operations,continued: scalars,comparisons,fields and indices,slices,lengths. -/
import Derived.Test.YtpoofafddbcnpaaVVgOps2
namespace Vg
open Go Lg
set_option linter.unusedSimpArgs false
set_option linter.unusedVariables false
set_option maxHeartbeats 1000000
section
variable {cf : VCall} {lcf : CallF} {lo : Nat} {w : Own} {φ : List Nat} {env : VEnv} {lenv : Env} {vh vh' : VHeap} {lh : Heap} {d : Nat} {v : VV}

theorem sim_nilchk {x : X} (H : HS lo w φ vh lh) (E : ES w φ lh env lenv) (hE : opV cf lo (.nilchk x) env vh = some (v,vh')) : OpRes lcf lo w φ env lenv lh (.nilchk x) d v vh' := by
  simp only [opV] at hE
  have h := E.x x
  split at hE <;> first | (cases hE; done) | skip
  · rename_i b off hs
    cases hE; rw [hs] at h
    generalize hl : x.ev lenv = l at h
    cases h with | ptr h => exact OpRes.val H E rfl (by simp only [opE,hl]) (.ptr h) (fun r hr => by cases hr)
  · rename_i cs off hs
    cases hE; rw [hs] at h
    generalize hl : x.ev lenv = l at h
    cases h with | cptr a b c d' e => exact OpRes.val H E rfl (by simp only [opE,hl]) (.cptr a b c d' e) (fun r hr => by cases hr)
  · rename_i f caps hs
    cases hE; rw [hs] at h
    generalize hl : x.ev lenv = l at h
    cases h with | func _ _ ls a b => exact OpRes.val H E rfl (by simp only [opE,hl]) (.func _ _ ls a b) (fun r hr => by cases hr)

theorem binE_sc {op : BinOp} {a b r : LV} (h : binE op a b = some r) : a ≠ .undef ∧ b ≠ .undef := by
  constructor <;> rintro rfl
  · simp [binE] at h
  · cases a <;> simp [binE] at h

theorem sim_bin {op : BinOp} {x y : X} (H : HS lo w φ vh lh) (E : ES w φ lh env lenv) (hE : opV cf lo (.bin op x y) env vh = some (v,vh')) : OpRes lcf lo w φ env lenv lh (.bin op x y) d v vh' := by
  simp only [opV] at hE
  split at hE
  case h_2 => cases hE
  rename_i r hr
  cases hE
  obtain ⟨h1,h2⟩ := binE_sc hr
  refine OpRes.val H E rfl (l := r) ?_ (ofLV_rv _ _ _ r) (ofLV_ne r)
  simp only [opE]
  rw [(E.x x).sc h1,(E.x y).sc h2,hr]

theorem sim_un {op : UnOp} {x : X} (H : HS lo w φ vh lh) (E : ES w φ lh env lenv) (hE : opV cf lo (.un op x) env vh = some (v,vh')) : OpRes lcf lo w φ env lenv lh (.un op x) d v vh' := by
  simp only [opV] at hE
  split at hE
  case h_2 => cases hE
  rename_i r hr
  cases hE
  have h1 : (vr env x).sc ≠ .undef := fun e => by rw [e] at hr; simp [unE] at hr
  refine OpRes.val H E rfl (l := r) ?_ (ofLV_rv _ _ _ r) (ofLV_ne r)
  simp only [opE]
  rw [(E.x x).sc h1,hr]

theorem sim_conv {k : IntKind} {x : X} (H : HS lo w φ vh lh) (E : ES w φ lh env lenv) (hE : opV cf lo (.conv k x) env vh = some (v,vh')) : OpRes lcf lo w φ env lenv lh (.conv k x) d v vh' := by
  simp only [opV] at hE
  have h := E.x x
  split at hE
  case h_2 => cases hE
  rename_i k0 n hs
  cases hE; rw [hs] at h
  generalize hl : x.ev lenv = l at h
  cases h
  exact OpRes.val H E rfl (by simp only [opE,hl]) (.int _ _) (fun r hr => by cases hr)

/-- What a comparison sees. -/
inductive CL : LV → LV → Prop where
  | refl (l : LV) : CL l l
  | undef (l : LV) : CL .undef l
  | ptr (b off : Nat) : CL (.ptr 0 0) (.ptr b off)
  | slice (n off len es : Nat) (f : Bool) : CL (.slice 0 0 0 0 false) (.slice n off len es f)
  | map (n : Nat) : CL (.map 0) (.map n)
  | func (f g : FuncId) (cs : List LV) : CL (.func f []) (.func g cs)
  | iface (t : TypeId) (v : LV) : CL (.iface t .undef) (.iface t v)
  | agg (cs ls : List LV) (hl : cs.length = ls.length) (h : ∀ (i : Nat) (c l : LV),cs[i]? = some c → ls[i]? = some l → c = .undef ∨ c = l) : CL (.agg cs) (.agg ls)

theorem CL.of {v : VV} {l : LV} (h : RV w φ lh v l) : CL (cmpV v) l := by
  cases h with
  | undef => exact .undef _
  | bool => exact .refl _
  | int => exact .refl _
  | str => exact .refl _
  | ptr => exact .ptr _ _
  | cptr => exact .ptr _ _
  | nilptr => exact .refl _
  | nil => exact .undef _
  | list0 => exact .undef _
  | @list m rows _ _ _ _ _ _ =>
    cases rows with
    | nil => exact .undef _
    | cons => exact .slice _ _ _ _ _
  | hs => exact .undef _
  | map => exact .map _
  | nilmap => exact .refl _
  | func => exact .func _ _ _
  | nilfunc => exact .refl _
  | iface => exact .iface _ _
  | nilif => exact .refl _
  | agg cs ls hl h =>
    refine .agg _ _ (by simp [hl]) fun i c l hc hl' => ?_
    rw [List.getElem?_map] at hc
    obtain ⟨v,hv,rfl⟩ := Option.map_eq_some_iff.1 hc
    by_cases hs : v.sc = .undef
    · exact .inl hs
    · exact .inr ((h i v l hv hl').sc hs).symm
  | tup => exact .undef _

theorem eqL_cl : ∀ (ks : List CK) (c1 c2 l1 l2 : List LV) (b : Bool),c1.length = l1.length → c2.length = l2.length → (∀ (i : Nat) (c l : LV),c1[i]? = some c → l1[i]? = some l → c = .undef ∨ c = l) → (∀ (i : Nat) (c l : LV),c2[i]? = some c → l2[i]? = some l → c = .undef ∨ c = l) → eqL ks c1 c2 = some b → eqL ks l1 l2 = some b := by
  intro ks
  induction ks with
  | nil =>
    intro c1 c2 l1 l2 b h1 h2 _ _ h
    cases c1 <;> cases c2 <;> simp [eqL] at h
    have := List.length_eq_zero_iff.1 h1.symm
    have := List.length_eq_zero_iff.1 h2.symm
    subst_vars
    simp [eqL]
  | cons k ks ih =>
    intro c1 c2 l1 l2 b h1 h2 g1 g2 h
    cases c1 with
    | nil => cases k <;> simp [eqL] at h
    | cons a1 c1 =>
    cases c2 with
    | nil => cases k <;> cases a1 <;> simp [eqL] at h
    | cons a2 c2 =>
    cases l1 with
    | nil => simp at h1
    | cons b1 l1 =>
    cases l2 with
    | nil => simp at h2
    | cons b2 l2 =>
    have e1 := g1 0 a1 b1 rfl rfl
    have e2 := g2 0 a2 b2 rfl rfl
    have rest := ih c1 c2 l1 l2 b (by simpa using h1) (by simpa using h2) (fun i c l hc hl => g1 (i + 1) c l (by simpa using hc) (by simpa using hl)) (fun i c l hc hl => g2 (i + 1) c l (by simpa using hc) (by simpa using hl))
    have n1 : a1 ≠ .undef := by rintro rfl; cases k <;> simp [eqL] at h
    have n2 : a2 ≠ .undef := by rintro rfl; cases k <;> cases a1 <;> simp [eqL] at h
    rcases e1 with e1 | rfl
    · exact absurd e1 n1
    rcases e2 with e2 | rfl
    · exact absurd e2 n2
    cases k <;> cases a1 <;> first | (simp [eqL] at h; done) | skip
    all_goals (cases a2 <;> first | (simp [eqL] at h; done) | (simp only [eqL] at h ⊢))
    · split at h
      · rename_i hq; rw [if_pos hq]; exact rest h
      · rename_i hq; rw [if_neg hq]; exact h
    · split at h
      · rename_i hk
        rw [if_pos hk]
        split at h
        · rename_i hq; rw [if_pos hq]; exact rest h
        · rename_i hq; rw [if_neg hq]; exact h
      · cases h
    · split at h
      · rename_i hq; rw [if_pos hq]; exact rest h
      · rename_i hq; rw [if_neg hq]; exact h

theorem eqE_cl {k : EK} {c1 c2 l1 l2 : LV} {b : Bool} (h1 : CL c1 l1) (h2 : CL c2 l2) (h : eqE k c1 c2 = some b) : eqE k l1 l2 = some b := by
  unfold eqE at h
  split at h <;> first | (cases h; done) | skip
  case h_1 ks a b' =>
    split at h
    case isFalse => cases h
    rename_i hc
    have e1 : ∃ ls,l1 = .agg ls ∧ a.length = ls.length ∧ ∀ (i : Nat) (c l : LV),a[i]? = some c → ls[i]? = some l → c = .undef ∨ c = l := by
      cases h1 with
      | refl => exact ⟨a,rfl,rfl,fun i c l hc hl => by rw [hc] at hl; cases hl; exact .inr rfl⟩
      | agg _ ls hl h => exact ⟨ls,rfl,hl,h⟩
    have e2 : ∃ ls,l2 = .agg ls ∧ b'.length = ls.length ∧ ∀ (i : Nat) (c l : LV),b'[i]? = some c → ls[i]? = some l → c = .undef ∨ c = l := by
      cases h2 with
      | refl => exact ⟨b',rfl,rfl,fun i c l hc hl => by rw [hc] at hl; cases hl; exact .inr rfl⟩
      | agg _ ls hl h => exact ⟨ls,rfl,hl,h⟩
    obtain ⟨x,rfl,hx,gx⟩ := e1
    obtain ⟨y,rfl,hy,gy⟩ := e2
    simp only [eqE]
    rw [if_pos ⟨by rw [← hx]; exact hc.1,by rw [← hy]; exact hc.2⟩]
    exact eqL_cl ks a b' x y b hx hy gx gy h
  all_goals (cases h1 <;> cases h2 <;> first | exact h | (simp only [eqE]; exact h) | skip)

theorem ES.cmp (E : ES w φ lh env lenv) (x : X) : CL (cmpX env x) (x.ev lenv) := by
  cases x with
  | c c => exact .refl _
  | t n => exact CL.of (E.x (.t n))

theorem sim_eqv {ng : Bool} {k : EK} {x y : X} (H : HS lo w φ vh lh) (E : ES w φ lh env lenv) (hE : opV cf lo (.eqv ng k x y) env vh = some (v,vh')) : OpRes lcf lo w φ env lenv lh (.eqv ng k x y) d v vh' := by
  simp only [opV] at hE
  split at hE
  case h_2 => cases hE
  rename_i b hb
  cases hE
  exact OpRes.val H E rfl (by simp only [opE,eqE_cl (E.cmp x) (E.cmp y) hb]) (.bool _) (fun r hr => by cases hr)

theorem nat_rv {v : VV} {l : LV} {n : Nat} (h : RV w φ lh v l) (hn : nat? v = some n) : asNat l = some n := by
  unfold nat? at hn
  split at hn
  · cases h; exact hn
  · cases hn
theorem bnds_rv (E : ES w φ lh env lenv) {len : Nat} {a b : Option X} {r : Nat × Nat} (h : vbnds env len a b = some r) : bnds lenv len a b = some r := by
  unfold vbnds at h
  unfold bnds
  have key : ∀ (x : X) (n : Nat),nat? (vr env x) = some n → asNat (x.ev lenv) = some n := fun x n => nat_rv (E.x x)
  cases a <;> cases b <;> simp only at h ⊢
  · exact h
  · rename_i y
    cases hy : nat? (vr env y) with
    | none => rw [hy] at h; cases h
    | some n => rw [hy] at h; rw [key y n hy]; exact h
  · rename_i x
    cases hx : nat? (vr env x) with
    | none => rw [hx] at h; cases h
    | some n => rw [hx] at h; rw [key x n hx]; exact h
  · rename_i x y
    cases hx : nat? (vr env x) with
    | none => rw [hx] at h; cases h
    | some n =>
      rw [hx] at h; rw [key x n hx]
      cases hy : nat? (vr env y) with
      | none => rw [hy] at h; cases h
      | some n => rw [hy] at h; rw [key y n hy]; exact h
theorem vbnds_le {len : Nat} {a b : Option X} {l e : Nat} (h : vbnds env len a b = some (l,e)) : l ≤ e ∧ e ≤ len := by
  unfold vbnds at h
  simp only at h
  split at h
  · split at h
    · rename_i hc; cases h; exact hc
    · cases h
  · cases h

theorem sim_s2b {x : X} (H : HS lo w φ vh lh) (E : ES w φ lh env lenv) (hE : opV cf lo (.s2b x) env vh = some (v,vh')) : OpRes lcf lo w φ env lenv lh (.s2b x) d v vh' := by
  simp only [opV] at hE
  have h := E.x x
  split at hE
  case h_2 => cases hE
  rename_i s hs
  simp only [Option.some.injEq,Prod.mk.injEq] at hE
  obtain ⟨rfl,rfl⟩ := hE
  rw [hs] at h
  generalize hl : x.ev lenv = l at h
  cases h
  have fr : Fr w lh w (lh ++ [.cells true (s.map fun b => .int .u8 b.toNat)]) := fr_app
  refine ⟨.slice lh.length 0 s.length 1 false,_,w,φ,by simp only [opE,hl],fr,PExt.refl _,H.mono fr (fun _ => same_app) (fun b hb => H.new b (by simp at hb; omega)),E.mono (PExt.refl _) fr (fun _ => same_app),?_,Tok.no fun r hr => by cases hr⟩
  have := RV.list (w := w) (φ := φ) (lh := lh ++ [.cells true (s.map fun b => LV.int .u8 b.toNat)]) (m := .s) (rows := s.map fun b => [VV.int .u8 b.toNat]) (b := lh.length) (off := 0) (es := 1) (full := false) (rw := true) (lcs := s.map fun b => LV.int .u8 b.toNat) (H.new _ (Nat.le_refl _)) List.getElem?_concat_length (by simp) (fun h => by cases h)
    (fun row hr => by obtain ⟨b,_,rfl⟩ := List.mem_map.1 hr; exact ⟨rfl,rfl⟩) (fun i row j v l hrow hv hl => by
      rw [List.getElem?_map] at hrow
      obtain ⟨b,hb,rfl⟩ := Option.map_eq_some_iff.1 hrow
      cases j with
      | succ j => simp at hv
      | zero =>
        simp at hv; subst hv
        rw [List.getElem?_map] at hl
        simp only [Nat.zero_add,Nat.mul_one,Nat.add_zero] at hl
        rw [hb] at hl
        simp at hl; subst hl
        exact .int _ _)
  simpa using this

theorem sim_fieldAddr {k : Nat} {x : X} (H : HS lo w φ vh lh) (E : ES w φ lh env lenv) (hE : opV cf lo (.fieldAddr k x) env vh = some (v,vh')) : OpRes lcf lo w φ env lenv lh (.fieldAddr k x) d v vh' := by
  simp only [opV] at hE
  have h := E.x x
  split at hE <;> first | (cases hE; done) | skip
  · rename_i b off hs
    cases hE; rw [hs] at h
    generalize hl : x.ev lenv = l at h
    cases h with | ptr h => exact OpRes.val H E rfl (by simp only [opE,hl]) (.ptr h) (fun r hr => by cases hr)
  · rename_i cs off hs
    cases hE; rw [hs] at h
    generalize hl : x.ev lenv = l at h
    cases h with
    | cptr a b c d' e => exact OpRes.val H E rfl (by simp only [opE,hl,Nat.add_assoc]) (.cptr a b c d' e) (fun r hr => by cases hr)

theorem sim_field {ag : Bool} {off n : Nat} {x : X} (H : HS lo w φ vh lh) (E : ES w φ lh env lenv) (hE : opV cf lo (.field ag off n x) env vh = some (v,vh')) : OpRes lcf lo w φ env lenv lh (.field ag off n x) d v vh' := by
  simp only [opV] at hE
  have h := E.x x
  split at hE <;> first | (cases hE; done) | skip
  rename_i cs hs
  rw [hs] at h
  generalize hl : x.ev lenv = l at h
  cases h with
  | agg _ ls hll hh =>
  have hr : RVs w φ lh cs ls := ⟨hll,hh⟩
  split at hE
  · rename_i hag
    split at hE
    case isFalse => cases hE
    rename_i hle
    cases hE
    exact OpRes.val H E rfl (by simp only [opE,hl,hag,if_true]; rw [if_pos (by rw [← hll]; exact hle)]) ((hr.drop off).take n).agg (fun r hr => by cases hr)
  · rename_i hag
    split at hE
    case h_2 => cases hE
    rename_i v0 hv0
    cases hE
    obtain ⟨l0,hl0,hr0⟩ := hr.get hv0
    exact OpRes.val H E rfl (by simp only [opE,hl,if_neg hag,hl0]) hr0.sh (sh_ne _)

theorem sim_indexA {ag : Bool} {len es : Nat} {x i : X} (H : HS lo w φ vh lh) (E : ES w φ lh env lenv) (hE : opV cf lo (.indexA ag len es x i) env vh = some (v,vh')) : OpRes lcf lo w φ env lenv lh (.indexA ag len es x i) d v vh' := by
  simp only [opV] at hE
  have h := E.x x
  split at hE <;> first | (cases hE; done) | skip
  rename_i cs j hs hj
  have hj' := nat_rv (E.x i) hj
  rw [hs] at h
  generalize hl : x.ev lenv = l at h
  cases h with
  | agg _ ls hll hh =>
  have hr : RVs w φ lh cs ls := ⟨hll,hh⟩
  split at hE
  case isFalse => cases hE
  rename_i hjl
  split at hE
  · rename_i hag
    split at hE
    case isFalse => cases hE
    rename_i hle
    cases hE
    exact OpRes.val H E rfl (by simp only [opE,hl,hj',hag,if_true]; rw [if_pos hjl,if_pos (by rw [← hll]; exact hle)]) ((hr.drop _).take es).agg (fun r hr => by cases hr)
  · rename_i hag
    split at hE
    case h_2 => cases hE
    rename_i v0 hv0
    cases hE
    obtain ⟨l0,hl0,hr0⟩ := hr.get hv0
    exact OpRes.val H E rfl (by simp only [opE,hl,hj',if_neg hag,hl0]; rw [if_pos hjl]) hr0.sh (sh_ne _)

theorem sim_indexAddr {es : Nat} {x i : X} (H : HS lo w φ vh lh) (E : ES w φ lh env lenv) (hE : opV cf lo (.indexAddr es x i) env vh = some (v,vh')) : OpRes lcf lo w φ env lenv lh (.indexAddr es x i) d v vh' := by
  simp only [opV] at hE
  have h := E.x x
  split at hE
  case h_2 => cases hE
  rename_i j hj
  have hj' := nat_rv (E.x i) hj
  split at hE
  · rename_i m rows hs
    split at hE
    case h_2 => cases hE
    rename_i row hrow
    split at hE
    case isFalse => cases hE
    rename_i hes
    cases hE
    rw [hs] at h
    generalize hl : x.ev lenv = l at h
    cases h with
    | nil => simp at hrow
    | list0 => simp at hrow
    | @list _ _ b off es' full rw lcs hw hb hle hm hr hh =>
      have h1 := hr row (List.mem_of_getElem? hrow)
      have : es' = es := h1.1.symm.trans hes
      subst this
      have hjl := lt_of_getElem? hrow
      have h2 : (j + 1) * es' ≤ rows.length * es' := Nat.mul_le_mul_right _ hjl
      rw [Nat.add_mul,Nat.one_mul] at h2
      refine OpRes.val H E rfl (l := .ptr b (off + j * es')) (by simp only [opE,hl,hj']; rw [if_pos ⟨trivial,hjl⟩]) ?_ (fun r hr => by cases hr)
      exact .cptr (base := off + j * es') (off := 0) hw hb (by omega) h1.2 (fun k v l hv hl => hh j row k v l hrow hv hl)
  · rename_i n off len es' hs
    split at hE
    case isFalse => cases hE
    rename_i hc
    cases hE
    rw [hs] at h
    generalize hl : x.ev lenv = l at h
    cases h with
    | hs hp => exact OpRes.val H E rfl (by simp only [opE,hl,hj']; rw [if_pos hc]) (.ptr hp) (fun r hr => by cases hr)
  · cases hE

theorem sim_indexAddrA {len es : Nat} {x i : X} (H : HS lo w φ vh lh) (E : ES w φ lh env lenv) (hE : opV cf lo (.indexAddrA len es x i) env vh = some (v,vh')) : OpRes lcf lo w φ env lenv lh (.indexAddrA len es x i) d v vh' := by
  simp only [opV] at hE
  have h := E.x x
  split at hE <;> first | (cases hE; done) | skip
  · rename_i b off j hs hj
    have hj' := nat_rv (E.x i) hj
    split at hE
    case isFalse => cases hE
    rename_i hc
    cases hE; rw [hs] at h
    generalize hl : x.ev lenv = l at h
    cases h with | ptr h => exact OpRes.val H E rfl (by simp only [opE,hl,hj']; rw [if_pos hc]) (.ptr h) (fun r hr => by cases hr)
  · rename_i cs off j hs hj
    have hj' := nat_rv (E.x i) hj
    split at hE
    case isFalse => cases hE
    rename_i hc
    cases hE; rw [hs] at h
    generalize hl : x.ev lenv = l at h
    cases h with
    | cptr a b c d' e => exact OpRes.val H E rfl (by simp only [opE,hl,hj',Nat.add_assoc]; rw [if_pos hc]) (.cptr a b c d' e) (fun r hr => by cases hr)

theorem sim_index {x i : X} (H : HS lo w φ vh lh) (E : ES w φ lh env lenv) (hE : opV cf lo (.index x i) env vh = some (v,vh')) : OpRes lcf lo w φ env lenv lh (.index x i) d v vh' := by
  simp only [opV] at hE
  have h := E.x x
  split at hE <;> first | (cases hE; done) | skip
  rename_i s j hs hj
  have hj' := nat_rv (E.x i) hj
  split at hE
  case h_2 => cases hE
  rename_i b hb
  cases hE; rw [hs] at h
  generalize hl : x.ev lenv = l at h
  cases h
  exact OpRes.val H E rfl (by simp only [opE,hl,hj',hb]) (.int _ _) (fun r hr => by cases hr)

theorem sim_extract {i : Nat} {x : X} (H : HS lo w φ vh lh) (E : ES w φ lh env lenv) (hE : opV cf lo (.extract i x) env vh = some (v,vh')) : OpRes lcf lo w φ env lenv lh (.extract i x) d v vh' := by
  simp only [opV] at hE
  have h := E.x x
  split at hE <;> first | (cases hE; done) | skip
  rename_i vs hs
  split at hE
  case h_2 => cases hE
  rename_i v0 hv0
  cases hE; rw [hs] at h
  generalize hl : x.ev lenv = l at h
  cases h with
  | tup _ ls hll hh =>
  obtain ⟨l0,hl0,hr0⟩ := RVs.get ⟨hll,hh⟩ hv0
  exact OpRes.val H E rfl (by simp only [opE,hl,hl0]) hr0.sh (sh_ne _)

theorem sim_lenS {x : X} (H : HS lo w φ vh lh) (E : ES w φ lh env lenv) (hE : opV cf lo (.lenS x) env vh = some (v,vh')) : OpRes lcf lo w φ env lenv lh (.lenS x) d v vh' := by
  simp only [opV] at hE
  have h := E.x x
  split at hE <;> first | (cases hE; done) | skip
  rename_i s hs
  cases hE; rw [hs] at h
  generalize hl : x.ev lenv = l at h
  cases h
  exact OpRes.val H E rfl (by simp only [opE,hl]) (.int _ _) (fun r hr => by cases hr)
theorem sim_lenL {x : X} (H : HS lo w φ vh lh) (E : ES w φ lh env lenv) (hE : opV cf lo (.lenL x) env vh = some (v,vh')) : OpRes lcf lo w φ env lenv lh (.lenL x) d v vh' := by
  simp only [opV] at hE
  have h := E.x x
  split at hE <;> first | (cases hE; done) | skip
  · rename_i m r hs
    cases hE; rw [hs] at h
    generalize hl : x.ev lenv = l at h
    cases h <;> exact OpRes.val H E rfl (by first | (simp only [opE,hl]; done) | (simp only [opE,hl]; rfl)) (.int _ _) (fun r hr => by cases hr)
  · rename_i n off len es hs
    cases hE; rw [hs] at h
    generalize hl : x.ev lenv = l at h
    cases h
    exact OpRes.val H E rfl (by simp only [opE,hl]) (.int _ _) (fun r hr => by cases hr)
theorem sim_lenM {x : X} (H : HS lo w φ vh lh) (E : ES w φ lh env lenv) (hE : opV cf lo (.lenM x) env vh = some (v,vh')) : OpRes lcf lo w φ env lenv lh (.lenM x) d v vh' := by
  simp only [opV] at hE
  have h := E.x x
  split at hE <;> first | (cases hE; done) | skip
  · rename_i hs
    cases hE; rw [hs] at h
    generalize hl : x.ev lenv = l at h
    cases h; exact OpRes.val H E rfl (by simp only [opE,hl]) (.int _ _) (fun r hr => by cases hr)
  · rename_i n hs
    split at hE <;> first | (cases hE; done) | skip
    rename_i es hn
    cases hE; rw [hs] at h
    generalize hl : x.ev lenv = l at h
    cases h with
    | map hp =>
      obtain ⟨les,h1,h2,_⟩ := H.blk n _ _ hn hp
      exact OpRes.val H E rfl (l := .int .i64 es.length) (by simp only [opE,hl,h1,h2]) (.int _ _) (fun r hr => by cases hr)
theorem sim_lenC {n : Nat} (H : HS lo w φ vh lh) (E : ES w φ lh env lenv) (hE : opV cf lo (.lenC n) env vh = some (v,vh')) : OpRes lcf lo w φ env lenv lh (.lenC n) d v vh' := by
  simp only [opV] at hE
  cases hE
  exact OpRes.val H E rfl rfl (.int _ _) (fun r hr => by cases hr)

theorem mmE_sc {b : Bool} : ∀ (xs : List X) (a r : LV),mmE b a (xs.map fun x => (vr env x).sc) = some r → ∀ x ∈ xs,(vr env x).sc ≠ .undef
  | [],_,_,_,x,hx => by cases hx
  | y :: ys,a,r,h,x,hx => by
    simp only [List.map_cons] at h
    unfold mmE at h
    split at h
    · rename_i e; cases e
    · rename_i k a' k' b' r' e
      simp only [List.cons.injEq] at e
      obtain ⟨e1,rfl⟩ := e
      rcases List.mem_cons.1 hx with rfl | hx
      · rw [e1]; exact fun h => by cases h
      · exact mmE_sc ys _ r h x hx
    · cases h
theorem mm_sc (E : ES w φ lh env lenv) {b : Bool} {xs : List X} {a : LV} {l : List LV} {r : LV} (hx : xs.map (fun x => (vr env x).sc) = a :: l) (h : mmE b a l = some r) (ha : xs.length ≤ 1 ∨ a ≠ .undef) : xs.map (X.ev lenv) = a :: l ∨ a = .undef := by
  cases xs with
  | nil => simp at hx
  | cons x xs =>
    simp only [List.map_cons,List.cons.injEq] at hx
    obtain ⟨h1,rfl⟩ := hx
    by_cases hu : a = .undef
    · exact .inr hu
    · refine .inl ?_
      simp only [List.map_cons,List.cons.injEq]
      refine ⟨by rw [← h1]; exact (E.x x).sc (by rw [h1]; exact hu),?_⟩
      refine List.map_congr_left fun y hy => ?_
      exact (E.x y).sc (mmE_sc xs a r h y hy)
theorem sim_mm {b : Bool} {xs : List X} {op : LOp} (hop : op = if b then .max2 xs else .min2 xs) (H : HS lo w φ vh lh) (E : ES w φ lh env lenv) (hE : opV cf lo op env vh = some (v,vh')) : OpRes lcf lo w φ env lenv lh op d v vh' := by
  have h1 : opV cf lo op env vh = match xs.map (fun x => (vr env x).sc) with
    | v :: r => match mmE b v r with
      | some v => some (ofLV v,vh)
      | none => none
    | [] => none := by subst hop; cases b <;> rfl
  have h2 : opE lcf 0 op lenv lh = match xs.map (X.ev lenv) with
    | v :: r => match mmE b v r with
      | some v => some (v,lh)
      | none => none
    | [] => none := by subst hop; cases b <;> rfl
  rw [h1] at hE
  split at hE
  case h_2 => cases hE
  rename_i a l hx
  split at hE
  case h_2 => cases hE
  rename_i r hr
  cases hE
  have hl : loses op = none := by subst hop; cases b <;> rfl
  by_cases ha : a = .undef
  · subst ha
    have hl0 : l = [] := by
      cases l with
      | nil => rfl
      | cons y ys => simp [mmE] at hr
    subst hl0
    simp only [mmE,Option.some.injEq] at hr
    subst hr
    -- a lone operand that is no number
    obtain ⟨x,rfl⟩ : ∃ x,xs = [x] := by
      cases xs with
      | nil => simp at hx
      | cons x xs => cases xs with
        | nil => exact ⟨x,rfl⟩
        | cons => simp at hx
    exact OpRes.val H E hl (l := x.ev lenv) (by rw [h2]; rfl) (.undef _) (fun r hr => by cases hr)
  · rcases mm_sc E hx hr (.inr ha) with h3 | h3
    · exact OpRes.val H E hl (l := r) (by rw [h2,h3]; simp only [hr]) (ofLV_rv _ _ _ r) (ofLV_ne r)
    · exact absurd h3 ha
theorem sim_mkfunc {f : FuncId} {caps : List X} (H : HS lo w φ vh lh) (E : ES w φ lh env lenv) (hE : opV cf lo (.mkfunc f caps) env vh = some (v,vh')) : OpRes lcf lo w φ env lenv lh (.mkfunc f caps) d v vh' := by
  simp only [opV,Option.some.injEq,Prod.mk.injEq] at hE
  obtain ⟨rfl,rfl⟩ := hE
  have h := E.args caps
  exact OpRes.val H E rfl rfl (.func f _ _ h.1 h.2) (fun r hr => by cases hr)
end
end Vg
