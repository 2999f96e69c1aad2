/- Calls. -/
import Derived.Test.YtpoofafddbcnpaaVVgCode
namespace Vg
open Go Lg
set_option linter.unusedSimpArgs false
set_option linter.unusedVariables false
set_option maxHeartbeats 1000000
section
variable {cf : VCall} {cs : CallS} {lo : Nat} {w : Own} {φ : List Nat} {env env' : VEnv} {lenv : Env} {vh vh' : VHeap} {lh : Heap}

theorem res_sim (H : HS lo w φ vh lh) (E : ES w φ lh env lenv) : ∀ (rs : List LRes) (vs : List VV),ressV env vh rs = some vs → ∃ ls,resultsE lenv lh rs = some ls ∧ RVs w φ lh vs ls
  | [],vs,h => by simp only [ressV,Option.some.injEq] at h; subst h; exact ⟨[],rfl,.nil⟩
  | r :: rs,vs,h => by
    simp only [ressV] at h
    cases hr : resV env vh r with
    | none => rw [hr] at h; cases h
    | some v =>
      cases hrs : ressV env vh rs with
      | none => rw [hr,hrs] at h; cases h
      | some vs' =>
        rw [hr,hrs] at h
        simp only [Option.some.injEq] at h
        subst h
        obtain ⟨ls,h1,h2⟩ := res_sim H E rs vs' hrs
        have : ∃ l,resE lenv lh r = some l ∧ RV w φ lh v l := by
          cases r with
          | tmp t =>
            simp only [resV,Option.some.injEq] at hr
            subst hr
            exact ⟨_,rfl,E.x (.t t)⟩
          | cell a ag n =>
            simp only [resV] at hr
            have hx := E.x (.t a)
            simp only [vr,X.ev] at hx
            split at hr
            case h_2 => cases hr
            rename_i b off hb
            rw [hb] at hx
            generalize hl : lenv.getD a .undef = l at hx
            cases hx with
            | ptr hp =>
            split at hr
            case h_2 => cases hr
            rename_i rw cs hn
            obtain ⟨lrw,lcs,g1,g2,_⟩ := H.cells hn hp
            split at hr
            · rename_i hag
              split at hr
              case isFalse => cases hr
              rename_i hle
              cases hr
              exact ⟨.agg ((lcs.drop off).take n),by simp only [resE,hl,g1,hag,if_true]; rw [if_pos (by rw [← g2.1]; exact hle)],((g2.drop off).take n).agg⟩
            · rename_i hag
              obtain ⟨l0,g3,g4⟩ := g2.get hr
              exact ⟨l0,by simp only [resE,hl,g1,if_neg hag,g3],g4⟩
        obtain ⟨l,h3,h4⟩ := this
        exact ⟨l :: ls,by simp only [resultsE,h3,h1],.cons h4 h2⟩

theorem one_sim {vs : List VV} {ls : List LV} (h : RVs w φ lh vs ls) : RV w φ lh (oneV vs) (oneOf ls) := by
  match vs,ls,h with
  | [],[],h => exact h.tup
  | [v],[l],h => exact h.uncons.1
  | _ :: _ :: _,_ :: _ :: _,h => exact h.tup
  | [],_ :: _,h => have := h.1; simp at this
  | _ :: _,[],h => have := h.1; simp at this
  | [_],_ :: _ :: _,h => have := h.1; simp at this
  | _ :: _ :: _,[_],h => have := h.1; simp at this

theorem mapM_rv {f : VV → Option VV} {w2 : Own} {φ2 : List Nat} {lh2 : Heap} (hf : ∀ v v' l,RV w φ lh v l → f v = some v' → RV w2 φ2 lh2 v' l) : ∀ (vs vs' : List VV) (ls : List LV),RVs w φ lh vs ls → vs.mapM f = some vs' → RVs w2 φ2 lh2 vs' ls
  | [],vs',ls,h,hm => by
    simp at hm; subst hm
    have := h.1
    cases ls with
    | nil => exact .nil
    | cons => simp at this
  | v :: vs,vs',ls,h,hm => by
    cases ls with
    | nil => have := h.1; simp at this
    | cons l ls =>
      rw [List.mapM_cons] at hm
      simp only [Option.bind_eq_bind,Option.bind_eq_some_iff,Option.pure_def,Option.some.injEq] at hm
      obtain ⟨v1,h1,vs1,h2,rfl⟩ := hm
      exact .cons (hf v v1 l h.uncons.1 h1) (mapM_rv hf vs vs1 ls h.uncons.2 h2)

theorem rv_m {w : Own} {φ : List Nat} {lh : Heap} {m m' : LMode} {r : List (List VV)} {l : LV} (h : RV w φ lh (.list m r) l) (hm : m' ≠ .f) : RV w φ lh (.list m' r) l := by
  cases h with
  | nil => exact .nil _
  | list0 => exact .list0 _ _ _ _ _ (fun h => absurd h hm)
  | list hw hb hl hmf hr hh => exact .list hw hb hl (fun h => absurd h hm) hr hh

/-- What is handed back names no block of the call. -/
theorem fz_sim {base : Nat} {w2 : Own} (H : HS lo w φ vh lh) (fr : Fw w lh w2 lh) (hlb : lo ≤ base) (hd : ∀ n pb,base ≤ n → φ[n]? = some pb → w pb = some (.blk n) → w2 pb = none) (φ2 : List Nat) : ∀ (d : Nat) (v v' : VV) (l : LV),RV w φ lh v l → fzN vh base d v = some v' → RV w2 φ2 lh v' l := by
  intro d
  induction d with
  | zero => intro v v' l _ h; cases h
  | succ d ih =>
    intro v v' l hr h
    have low : v.low 0 = true → RV w2 φ2 lh v l := fun h0 => hr.tr h0 (fun n b hn => absurd hn (Nat.not_lt_zero n)) fr
    cases v <;> simp only [fzN] at h
    case list m r =>
      simp only [Option.some.injEq] at h; subst h
      exact rv_m (low rfl) (by simp)
    case hs n off len es =>
      split at h
      case isFalse => cases h
      rename_i hb
      split at h
      case h_2 => cases h
      rename_i cs hn
      split at h
      case isFalse => cases h
      rename_i hle
      split at h
      case h_2 => cases h
      rename_i cs' hm
      split at h
      case isFalse => cases h
      rename_i hf
      simp only [Option.some.injEq] at h; subst h
      cases hr with
      | @hs _ _ _ _ pb full hp =>
        obtain ⟨lrw,lcs,g1,g2,g3,g4⟩ := H.cells hn hp
        have hw : w2 pb = none := by
          rw [if_pos ⟨rfl,by omega⟩] at g4
          exact hd n pb hb hp g4.2.1
        have hcs := mapM_rv ih _ cs' _ ((g2.drop off).take (len * es)) hm
        have hl1 := hcs.1
        have hl2 := g2.1
        simp only [List.length_take,List.length_drop] at hl1
        have hat := chunk_at (es := es) (n := len) hcs hf (by omega)
        rw [List.take_take,Nat.min_self] at hat
        have := hat.list (b := pb) (off := off) (m := .s) (full := full) hw g1 (by omega) (by rw [chunk_length]) (fun h => by cases h)
        rwa [chunk_length] at this
    case ptr n off =>
      split at h
      case isFalse => cases h
      rename_i hb
      split at h
      case h_2 => cases h
      rename_i cs hn
      split at h
      case h_2 => cases h
      rename_i cs' hm
      split at h
      case isFalse => cases h
      rename_i hf
      simp only [Option.some.injEq] at h; subst h
      cases hr with
      | @ptr _ _ pb hp =>
        obtain ⟨lrw,lcs,g1,g2,g3,g4⟩ := H.cells hn hp
        have hw : w2 pb = none := by
          rw [if_pos ⟨rfl,by omega⟩] at g4
          exact hd n pb hb hp g4.2.1
        have hcs := mapM_rv ih _ cs' _ g2 hm
        have := RV.cptr (w := w2) (φ := φ2) (lh := lh) (cs := cs') (base := 0) (off := off) hw g1 (by rw [hcs.1]; omega) hf (fun i v l hv hl => hcs.2 i v l hv (by rwa [Nat.zero_add] at hl))
        rwa [Nat.zero_add] at this
    case agg cs =>
      split at h
      case h_2 => cases h
      rename_i cs' hm
      simp only [Option.some.injEq] at h; subst h
      cases hr with
      | agg _ ls hl hh => exact (mapM_rv ih cs cs' ls ⟨hl,hh⟩ hm).agg
    case tup cs =>
      split at h
      case h_2 => cases h
      rename_i cs' hm
      simp only [Option.some.injEq] at h; subst h
      cases hr with
      | tup _ ls hl hh => exact (mapM_rv ih cs cs' ls ⟨hl,hh⟩ hm).tup
    case func f cs =>
      cases cs with
      | nil =>
        simp only [Option.some.injEq] at h; subst h
        exact low rfl
      | cons => cases h
    all_goals first
      | (cases h; done)
      | (simp only [Option.some.injEq] at h; subst h; exact low rfl)

theorem fzN_ne {base : Nat} : ∀ (d : Nat) (v v' : VV),fzN vh base d v = some v' → ∀ r,v' ≠ .list .o r
  | 0,_,_,h => by cases h
  | d + 1,v,v',h => by
    intro r hv
    subst hv
    cases v <;> simp only [fzN] at h
    case list m r => cases h
    case hs n off len es => repeat' (first | (split at h) | (cases h; done))
    case ptr n off => repeat' (first | (split at h) | (cases h; done))
    case agg cs => repeat' (first | (split at h) | (cases h; done))
    case tup cs => repeat' (first | (split at h) | (cases h; done))
    case func f cs => repeat' (first | (split at h) | (cases h; done))
    all_goals cases h

/-- Slots hold nothing. -/
def noEnv : Option Owner → Option Owner
  | some (.env _) => none
  | x => x

/-- After a call: the new right,what the caller keeps,its blocks. -/
noncomputable def afterO (w w1 : Own) (base : Nat) (K T : Nat → Prop) (d : Nat) : Own := fun b => by
  classical exact if T b then some (.env d) else if K b then w b else noEnv (dropO base (w1 b))

section
variable {w0 w1 : Own} {lh1 : Heap} {base d : Nat} {K T : Nat → Prop}
theorem afterO_T {b : Nat} (h : T b) : afterO w w1 base K T d b = some (.env d) := by unfold afterO; rw [if_pos h]
theorem afterO_K {b : Nat} (h : ¬ T b) (hk : K b) : afterO w w1 base K T d b = w b := by
  unfold afterO; rw [if_neg h,if_pos hk]
theorem afterO_other {b : Nat} (h : ¬ T b) (hw : ¬ K b) : afterO w w1 base K T d b = noEnv (dropO base (w1 b)) := by
  unfold afterO; rw [if_neg h,if_neg hw]

theorem drop_noEnv {k n : Nat} {x : Owner} (hx : ofBlk n x) (hn : n < k) : noEnv (dropO k (some x)) = some x := by
  rw [dropO_ofBlk hx hn]
  cases x with
  | env => cases hx
  | _ => rfl

/-- What the caller keeps for itself during a call. -/
structure Kept (w w0 : Own) (lh : Heap) (K : Nat → Prop) : Prop where
  lt : ∀ b,K b → b < lh.length ∧ w b ≠ none
  ext : ∀ b,K b → w0 b = some .ext
  other : ∀ b,¬ K b → w0 b = noEnv (w b)
  tok : ∀ b i m u,w b = some (.env i) → lh[b]? = some (.tok m u) → K b

/-- The caller's state,after the call's code. -/
theorem after_sim (hK : Kept w w0 lh K) (f01 : Fr w0 lh w1 lh1) (hT : ∀ b,T b → (∃ t,w1 b = some (.env t)) ∧ ∃ m u,lh1[b]? = some (.tok m u)) (hn1 : ∀ b,lh1.length ≤ b → w1 b = none) :
    Fr w lh (afterO w w1 base K T d) lh1 ∧ (∀ i,SameT (· = .env i) w lh (afterO w w1 base K T d) lh1) ∧ (∀ b,lh1.length ≤ b → afterO w w1 base K T d b = none) ∧
    Fw w1 lh1 (afterO w w1 base K T d) lh1 ∧ (∀ n,n < base → Same (ofBlk n) w1 lh1 (afterO w w1 base K T d) lh1) ∧ (∀ b,K b → lh1[b]? = lh[b]? ∧ ¬ T b ∧ w1 b = some .ext) := by
  have hKx : ∀ b,K b → lh1[b]? = lh[b]? ∧ ¬ T b ∧ w1 b = some .ext := fun b hb => by
    obtain ⟨h1,h2⟩ := f01.ext b (hK.lt b hb).1 (hK.ext b hb)
    exact ⟨h2,(fun hTb => by obtain ⟨⟨t,ht⟩,_⟩ := hT b hTb; rw [h1] at ht; cases ht),h1⟩
  refine ⟨⟨f01.le,fun b hb hw => ?_,fun b hb hw => ?_⟩,fun i b x m u hb hw hx => ?_,fun b hb => ?_,fun b x hb hx hw => ⟨?_,hb⟩,fun n hn b x hb hw hx => ⟨?_,rfl⟩,hKx⟩
  · have hk : ¬ K b := fun h => (hK.lt b h).2 hw
    have h0 : w0 b = none := by rw [hK.other b hk,hw]; rfl
    have h1 := f01.keep b hb h0
    refine ⟨?_,h1.2⟩
    rw [afterO_other (fun hTb => by obtain ⟨⟨t,ht⟩,_⟩ := hT b hTb; rw [h1.1] at ht; cases ht) hk,h1.1]; rfl
  · by_cases hk : K b
    · obtain ⟨h1,h2,_⟩ := hKx b hk
      exact ⟨by rw [afterO_K h2 hk]; exact hw,h1⟩
    · have h0 : w0 b = some .ext := by rw [hK.other b hk,hw]; rfl
      have h1 := f01.ext b hb h0
      refine ⟨?_,h1.2⟩
      rw [afterO_other (fun hTb => by obtain ⟨⟨t,ht⟩,_⟩ := hT b hTb; rw [h1.1] at ht; cases ht) hk,h1.1]; rfl
  · subst hx
    have hk := hK.tok b i m u hw hb
    obtain ⟨h1,h2,_⟩ := hKx b hk
    exact ⟨by rw [afterO_K h2 hk]; exact hw,h1⟩
  · rw [afterO_other (fun hTb => by obtain ⟨⟨t,ht⟩,_⟩ := hT b hTb; rw [hn1 b hb] at ht; cases ht) (fun h => by have := f01.le; have := (hK.lt b h).1; omega),hn1 b hb]; rfl
  · have h1 : ¬ T b := fun hTb => by
      obtain ⟨_,m,u,hm⟩ := hT b hTb
      rw [hb] at hm; cases hm; exact hx m u rfl
    have h2 : ¬ K b := fun h => by rw [(hKx b h).2.2] at hw; cases hw
    rw [afterO_other h1 h2,hw]; rfl
  · have h1 : ¬ T b := fun hTb => by
      obtain ⟨⟨t,ht⟩,_⟩ := hT b hTb
      rw [hw] at ht; cases ht; cases hx
    have h2 : ¬ K b := fun h => by rw [(hKx b h).2.2] at hw; cases hw; cases hx
    rw [afterO_other h1 h2,hw]
    exact drop_noEnv hx hn

/-- What the code of a call hands back. -/
theorem back_sim {f : VFunc} {φ1 : List Nat} {vh1 vh2 : VHeap} {v v2 : VV} {l : LV} (hK : Kept w w0 lh K) (H1 : HS lo w1 φ1 vh1 lh1) (hr : RV w1 φ1 lh1 v l) (htok : ∀ t,f.fn.results = [.tmp t] → Tok w1 lh1 (.env t) v l)
    (f01 : Fr w0 lh w1 lh1) (hl : lo ≤ base) (hb : base ≤ vh1.length) (hbk : backV f base v vh1 = some (v2,vh2)) :
    ∃ w2 k,base ≤ k ∧ k ≤ vh1.length ∧ vh2 = vh1.take k ∧ Fr w lh w2 lh1 ∧ (∀ i,SameT (· = .env i) w lh w2 lh1) ∧ (∀ b,lh1.length ≤ b → w2 b = none) ∧ Fw w1 lh1 w2 lh1 ∧ (∀ n,n < k → Same (ofBlk n) w1 lh1 w2 lh1) ∧ (∀ b,K b → w2 b = w b ∧ lh1[b]? = lh[b]?) ∧ (∀ b,¬ K b → w1 b = some .ext → w2 b = some .ext) ∧
      RV w2 (φ1.take k) lh1 v2 l ∧ Tok w2 lh1 (.env d) v2 l ∧ (f.raw = false → ∀ φ,RV w2 φ lh1 v2 l) := by
  have noT : ∀ b,(fun _ : Nat => False) b → (∃ t,w1 b = some (.env t)) ∧ ∃ m u,lh1[b]? = some (.tok m u) := fun b h => h.elim
  have kk : ∀ {base T},(∀ b,K b → lh1[b]? = lh[b]? ∧ ¬ T b ∧ w1 b = some .ext) → ∀ b,K b → afterO w w1 base K T d b = w b ∧ lh1[b]? = lh[b]? := fun h b hb => ⟨afterO_K (h b hb).2.1 hb,(h b hb).1⟩
  have ke : ∀ {base T},(∀ b,T b → (∃ t,w1 b = some (.env t)) ∧ ∃ m u,lh1[b]? = some (.tok m u)) → ∀ b,¬ K b → w1 b = some .ext → afterO w w1 base K T d b = some .ext := fun hT b hk hw => by
    rw [afterO_other (fun hTb => by obtain ⟨⟨t,ht⟩,_⟩ := hT b hTb; rw [hw] at ht; cases ht) hk,hw]; rfl
  unfold backV at hbk
  split at hbk
  · -- raw
    rename_i hraw
    simp only [Option.some.injEq,Prod.mk.injEq] at hbk
    obtain ⟨rfl,rfl⟩ := hbk
    obtain ⟨g1,g2,g3,g4,g5,g6⟩ := after_sim (base := vh1.length) (d := d) hK f01 noT H1.new
    have e : φ1.take vh1.length = φ1 := List.take_of_length_le (by rw [H1.len]; exact Nat.le_refl _)
    refine ⟨_,vh1.length,hb,Nat.le_refl _,(List.take_of_length_le (Nat.le_refl _)).symm,g1,g2,g3,g4,g5,kk g6,ke noT,?_,Tok.no (sh_ne _),fun h => by rw [hraw] at h; cases h⟩
    rw [e]
    exact (hr.tr hr.low (fun n b _ e => e) g4).sh
  · rename_i hraw
    split at hbk
    · -- own
      split at hbk <;> first | (cases hbk; done) | skip
      all_goals
        rename_i t r hres
        simp only [Option.some.injEq,Prod.mk.injEq] at hbk
        obtain ⟨rfl,rfl⟩ := hbk
        have ht := htok t hres
      · -- with its right
        by_cases h3 : ∃ n off len es lcs,l = .slice n off len es false ∧ lh1[n]? = some (.cells false lcs) ∧ lh1[n + 1]? = some (.tok n (off + len * es)) ∧ w1 (n + 1) = some (.env t) ∧ r ≠ []
        · obtain ⟨n,off,len,es,lcs,q1,q2,q3,q4,q5⟩ := h3
          have hT : ∀ b,b = n + 1 → (∃ t,w1 b = some (.env t)) ∧ ∃ m u,lh1[b]? = some (.tok m u) := fun b hb => by subst hb; exact ⟨⟨t,q4⟩,_,_,q3⟩
          obtain ⟨g1,g2,g3,g4,g5,g6⟩ := after_sim (base := base) (d := d) hK f01 hT H1.new
          exact ⟨_,base,Nat.le_refl _,hb,rfl,g1,g2,g3,g4,g5,kk g6,ke hT,hr.tr (k := 0) rfl (fun n b hn => absurd hn (Nat.not_lt_zero n)) g4,fun r' hr' => .inr (.inr ⟨n,off,len,es,lcs,q1,q2,q3,afterO_T rfl,by cases hr'; exact q5⟩),fun _ φ => hr.tr (k := 0) rfl (fun n b hn => absurd hn (Nat.not_lt_zero n)) g4⟩
        · obtain ⟨g1,g2,g3,g4,g5,g6⟩ := after_sim (base := base) (d := d) hK f01 noT H1.new
          refine ⟨_,base,Nat.le_refl _,hb,rfl,g1,g2,g3,g4,g5,kk g6,ke noT,hr.tr (k := 0) rfl (fun n b hn => absurd hn (Nat.not_lt_zero n)) g4,fun r' hr' => ?_,fun _ φ => hr.tr (k := 0) rfl (fun n b hn => absurd hn (Nat.not_lt_zero n)) g4⟩
          rcases ht r rfl with h | h | h
          · exact .inl h
          · exact .inr (.inl h)
          · exact absurd h h3
      · obtain ⟨g1,g2,g3,g4,g5,g6⟩ := after_sim (base := base) (d := d) hK f01 noT H1.new
        have hr2 : ∀ φ,RV (afterO w w1 base K (fun _ => False) d) φ lh1 (.list .f r) l := fun φ => hr.tr (k := 0) rfl (fun n b hn => absurd hn (Nat.not_lt_zero n)) g4
        exact ⟨_,base,Nat.le_refl _,hb,rfl,g1,g2,g3,g4,g5,kk g6,ke noT,(hr2 _).ow,Tok.ow (hr2 []) (Tok.no fun r hr => by cases hr),fun _ φ => (hr2 φ).ow⟩
    · split at hbk
      case h_2 => cases hbk
      rename_i v' hfz
      simp only [Option.some.injEq,Prod.mk.injEq] at hbk
      obtain ⟨rfl,rfl⟩ := hbk
      obtain ⟨g1,g2,g3,g4,g5,g6⟩ := after_sim (base := base) (d := d) hK f01 noT H1.new
      have hfr := fz_sim H1 g4 (base := base) hl (fun n pb hn hp ho => by
        have hk : ¬ K pb := fun h => by rw [(g6 pb h).2.2] at ho; cases ho
        rw [afterO_other (fun h => h) hk,ho,dropO_ge (n := n) (x := .blk n) rfl hn]; rfl)
      have hno := fzN_ne 6 v v' hfz
      exact ⟨_,base,Nat.le_refl _,hb,rfl,g1,g2,g3,g4,g5,kk g6,ke noT,hfr _ 6 v v' l hr hfz,Tok.no hno,fun _ φ => hfr φ 6 v v' l hr hfz⟩
end

theorem body_sim (hm : CsMono cs) (hcf : CallSim cf cs) {K : Nat} {f : VFunc} {args : List VV} {largs : List LV} {v2 : VV} {vh2 : VHeap} (H : HS lo w φ vh lh) (hr : RVs w φ lh args largs) (hno : ∀ v ∈ args,∀ r,v ≠ .list .o r) (hE : bodyV cf lo K f args vh = some (v2,vh2)) :
    bodyS cs K f.fn largs lh fun l lh1 => ∃ w1 φ1 vh1 v,Fr w lh w1 lh1 ∧ PExt φ φ1 ∧ HS lo w1 φ1 vh1 lh1 ∧ RV w1 φ1 lh1 v l ∧ (∀ t,f.fn.results = [.tmp t] → Tok w1 lh1 (.env t) v l) ∧ backV f vh.length v vh1 = some (v2,vh2) := by
  unfold bodyV at hE
  split at hE
  case isFalse => cases hE
  rename_i ha
  have E0 : ES w φ lh (args ++ List.replicate (f.fn.ntmps - f.fn.nargs) (.tup [])) (largs ++ List.replicate (f.fn.ntmps - f.fn.nargs) (.tup [])) := by
    have h := hr.append (RVs.replicate (w := w) (φ := φ) (lh := lh) RVs.nil.tup (f.fn.ntmps - f.fn.nargs))
    refine ⟨h.1,fun i v l hv hl => ⟨h.2 i v l hv hl,Tok.no fun r hvr => ?_⟩⟩
    rcases List.mem_append.1 (List.mem_of_getElem? hv) with hm | hm
    · exact hno v hm r hvr
    · rw [List.eq_of_mem_replicate hm] at hvr; cases hvr
  refine ⟨by rw [← hr.1]; exact ha,?_⟩
  have key : ∀ o env1 vh1,codeV cf lo K f.fn.body (args ++ List.replicate (f.fn.ntmps - f.fn.nargs) (.tup [])) vh = some (o,env1,vh1) → (o = .norm ∨ o = .ret) → (match ressV env1 vh1 f.fn.results with
      | some vs => backV f vh.length (oneV vs) vh1
      | none => none) = some (v2,vh2) → codeS cs K f.fn.body (largs ++ List.replicate (f.fn.ntmps - f.fn.nargs) (.tup [])) lh fun o env h' =>
    (o = .norm ∨ o = .ret) ∧ ∃ vs,resultsE env h' f.fn.results = some vs ∧ ∃ w1 φ1 vh1 v,Fr w lh w1 h' ∧ PExt φ φ1 ∧ HS lo w1 φ1 vh1 h' ∧ RV w1 φ1 h' v (oneOf vs) ∧ (∀ t,f.fn.results = [.tmp t] → Tok w1 h' (.env t) v (oneOf vs)) ∧ backV f vh.length v vh1 = some (v2,vh2) := by
    intro o env1 vh1 hc ho hmm
    refine codeS_mono hm _ _ _ _ _ ?_ (code_sim hm hcf K f.fn.body w φ _ _ vh lh o env1 vh1 H E0 hc)
    rintro o' lenv1 lh1 ⟨rfl,w1,φ1,h2,h3,h4,h5⟩
    refine ⟨ho,?_⟩
    split at hmm
    case h_2 => cases hmm
    rename_i vs hvs
    obtain ⟨ls,h6,h7⟩ := res_sim h4 h5 f.fn.results vs hvs
    refine ⟨ls,h6,w1,φ1,vh1,oneV vs,h2,h3,h4,one_sim h7,fun t ht => ?_,hmm⟩
    rw [ht] at hvs h6
    simp only [ressV,resV,Option.some.injEq] at hvs
    simp only [resultsE,resE,Option.some.injEq] at h6
    subst hvs; subst h6
    exact h5.tokx t
  split at hE
  · rename_i env1 vh1 hc
    exact key _ _ _ hc (.inl rfl) hE
  · rename_i env1 vh1 hc
    exact key _ _ _ hc (.inr rfl) hE
  · cases hE

theorem bodyS_mono (hm : CsMono cs) {K : Nat} {f : LFunc} {args : List LV} {h : Heap} {Q Q' : LV → Heap → Prop} (hq : ∀ v h,Q v h → Q' v h) (hb : bodyS cs K f args h Q) : bodyS cs K f args h Q' := by
  obtain ⟨h1,h2⟩ := hb
  refine ⟨h1,codeS_mono hm _ _ _ _ _ ?_ h2⟩
  rintro o e h' ⟨h3,vs,h4,h5⟩
  exact ⟨h3,vs,h4,hq _ _ h5⟩

mutual
theorem snap_rv {w : Own} {φ : List Nat} {lh : Heap} : ∀ (v v' : VV) (l : LV),noHs v = true → snap vh v = some v' → RV w φ lh v l → RV w φ lh v' l
  | .list m r,v',l,_,h,hr => by simp only [snap,Option.some.injEq] at h; subst h; exact rv_m hr (by simp)
  | .hs _ _ _ _,_,_,hn,_,_ => by simp [noHs] at hn
  | .agg cs,v',l,hn,h,hr => by
    simp only [snap] at h
    split at h
    case h_2 => cases h
    rename_i cs' hcs
    simp only [Option.some.injEq] at h; subst h
    cases hr with
    | agg _ ls hl hh => exact (snapL_rv cs cs' ls (by simpa [noHs] using hn) hcs ⟨hl,hh⟩).agg
  | .tup cs,v',l,hn,h,hr => by
    simp only [snap] at h
    split at h
    case h_2 => cases h
    rename_i cs' hcs
    simp only [Option.some.injEq] at h; subst h
    cases hr with
    | tup _ ls hl hh => exact (snapL_rv cs cs' ls (by simpa [noHs] using hn) hcs ⟨hl,hh⟩).tup
  | .undef,v',l,_,h,hr | .bool _,v',l,_,h,hr | .int _ _,v',l,_,h,hr | .str _,v',l,_,h,hr | .ptr _ _,v',l,_,h,hr | .cptr _ _,v',l,_,h,hr | .nilptr,v',l,_,h,hr | .map _,v',l,_,h,hr
  | .nilmap,v',l,_,h,hr | .func _ _,v',l,_,h,hr | .nilfunc,v',l,_,h,hr | .iface _ _,v',l,_,h,hr | .nilif,v',l,_,h,hr => by simp only [snap,Option.some.injEq] at h; subst h; exact hr
theorem snapL_rv {w : Own} {φ : List Nat} {lh : Heap} : ∀ (vs vs' : List VV) (ls : List LV),noHsL vs = true → snapL vh vs = some vs' → RVs w φ lh vs ls → RVs w φ lh vs' ls
  | [],vs',ls,_,h,hr => by simp only [snapL,Option.some.injEq] at h; subst h; exact hr
  | v :: r,vs',[],_,_,hr => by have := hr.1; simp at this
  | v :: r,vs',l :: ls,hn,h,hr => by
    simp only [noHsL,Bool.and_eq_true] at hn
    simp only [snapL] at h
    split at h
    case h_2 => cases h
    rename_i v1 r1 h1 h2
    simp only [Option.some.injEq] at h; subst h
    exact .cons (snap_rv v v1 l hn.1 h1 hr.uncons.1) (snapL_rv r r1 ls hn.2 h2 hr.uncons.2)
end
mutual
/-- With slices read whole,where nobody holds anything. -/
theorem snap_rv0 {w0 : Own} (H : HS lo w φ vh lh) (h0 : ∀ b,w0 b = none) : ∀ (v v' : VV) (l : LV),snap vh v = some v' → RV w φ lh v l → RV w0 φ lh v' l
  | .list m r,v',l,h,hr => by
    simp only [snap,Option.some.injEq] at h; subst h
    exact rv_m (hr.tr hr.low (fun n b _ e => e) fun b x hb _ _ => ⟨h0 b,hb⟩) (by simp)
  | .hs n off len es,v',l,h,hr => by
    simp only [snap] at h
    split at h
    case h_2 => cases h
    rename_i rows hrows
    simp only [Option.some.injEq] at h; subst h
    have hrr := hrows
    obtain ⟨cells,h1,h2⟩ := rows_src H hr hrows
    have h3 : RowsAt w0 φ lh es rows cells := ⟨h2.len,h2.row,fun i row j v l a b c => (h2.get i row j v l a b c).tr (h2.get i row j v l a b c).low (fun n b _ e => e) fun b x hb _ _ => ⟨h0 b,hb⟩⟩
    simp only [rowsOf] at hrows
    cases hr with
    | @hs _ _ _ _ pb full hp =>
    split at hrows
    case isFalse => cases hrows
    split at hrows
    case h_2 => cases hrows
    rename_i rw cs hn
    split at hrows
    case isFalse => cases hrows
    rename_i hc
    cases hrows
    obtain ⟨lrw,lcs,g1,g2,_⟩ := H.cells hn hp
    have hl2 := g2.1
    have hcells : (lcs.drop off).take (len * es) = cells := by
      simp only [srcOf] at h1
      split at h1
      · rename_i hl0
        simp only [Option.some.injEq,Prod.mk.injEq] at h1
        rw [← h1.1,hl0]; simp
      · simp only [if_true,cellsOf,g1] at h1
        rw [if_pos (by omega)] at h1
        simp only [Option.some.injEq,Prod.mk.injEq] at h1
        exact h1.1
    have := h3.list (b := pb) (off := off) (m := .s) (full := full) (h0 pb) g1 (by omega) (by rw [chunk_length]; exact hcells) (fun h => by cases h)
    rwa [chunk_length] at this
  | .agg cs,v',l,h,hr => by
    simp only [snap] at h
    split at h
    case h_2 => cases h
    rename_i cs' hcs
    simp only [Option.some.injEq] at h; subst h
    cases hr with
    | agg _ ls hl hh => exact (snapL_rv0 H h0 cs cs' ls hcs ⟨hl,hh⟩).agg
  | .tup cs,v',l,h,hr => by
    simp only [snap] at h
    split at h
    case h_2 => cases h
    rename_i cs' hcs
    simp only [Option.some.injEq] at h; subst h
    cases hr with
    | tup _ ls hl hh => exact (snapL_rv0 H h0 cs cs' ls hcs ⟨hl,hh⟩).tup
  | .undef,v',l,h,hr | .bool _,v',l,h,hr | .int _ _,v',l,h,hr | .str _,v',l,h,hr | .ptr _ _,v',l,h,hr | .cptr _ _,v',l,h,hr | .nilptr,v',l,h,hr | .map _,v',l,h,hr
  | .nilmap,v',l,h,hr | .func _ _,v',l,h,hr | .nilfunc,v',l,h,hr | .iface _ _,v',l,h,hr | .nilif,v',l,h,hr => by
    simp only [snap,Option.some.injEq] at h; subst h
    exact hr.tr hr.low (fun n b _ e => e) fun b x hb _ _ => ⟨h0 b,hb⟩
theorem snapL_rv0 {w0 : Own} (H : HS lo w φ vh lh) (h0 : ∀ b,w0 b = none) : ∀ (vs vs' : List VV) (ls : List LV),snapL vh vs = some vs' → RVs w φ lh vs ls → RVs w0 φ lh vs' ls
  | [],vs',ls,h,hr => by
    simp only [snapL,Option.some.injEq] at h; subst h
    have := hr.1
    cases ls with
    | nil => exact .nil
    | cons => simp at this
  | v :: r,vs',[],_,hr => by have := hr.1; simp at this
  | v :: r,vs',l :: ls,h,hr => by
    simp only [snapL] at h
    split at h
    case h_2 => cases h
    rename_i v1 r1 h1 h2
    simp only [Option.some.injEq] at h; subst h
    exact .cons (snap_rv0 H h0 v v1 l h1 hr.uncons.1) (snapL_rv0 H h0 r r1 ls h2 hr.uncons.2)
end
theorem snap_ne {v v' : VV} (h : snap vh v = some v') : ∀ r,v' ≠ .list .o r := by
  intro r hv
  subst hv
  cases v <;> simp only [snap] at h <;> first | (cases h; done) | (split at h <;> cases h)
theorem snapL_ne : ∀ {vs vs' : List VV},snapL vh vs = some vs' → ∀ v ∈ vs',∀ r,v ≠ .list .o r
  | [],vs',h,v,hv => by simp only [snapL,Option.some.injEq] at h; subst h; cases hv
  | a :: as,vs',h,v,hv => by
    simp only [snapL] at h
    split at h
    case h_2 => cases h
    rename_i v1 r1 h1 h2
    simp only [Option.some.injEq] at h; subst h
    rcases List.mem_cons.1 hv with rfl | hv
    · exact snap_ne h1
    · exact snapL_ne h2 v hv
mutual
theorem plain_rv {w' : Own} {φ' : List Nat} {lh' : Heap} : ∀ (v : VV) (l : LV),v.plain = true → RV w φ lh v l → RV w' φ' lh' v l
  | .bool _,l,_,h | .int _ _,l,_,h | .str _,l,_,h | .nilptr,l,_,h | .nilmap,l,_,h | .nilfunc,l,_,h | .nilif,l,_,h => by cases h; constructor
  | .list m [],l,_,h => by
    generalize hr0 : ([] : List (List VV)) = r0 at h
    cases h with
    | nil => exact .nil _
    | list0 _ n off es full hm => exact .list0 _ _ _ _ _ hm
    | list hw hb hl hm hr hh => subst hr0; exact .list0 _ _ _ _ _ hm
  | .list m (_ :: _),l,hp,h => by simp [VV.plain] at hp
  | .agg cs,l,hp,h => by
    cases h with
    | agg _ ls hl hh => exact (plainL_rv cs ls (by simpa [VV.plain] using hp) ⟨hl,hh⟩).agg
  | .tup cs,l,hp,h => by
    cases h with
    | tup _ ls hl hh => exact (plainL_rv cs ls (by simpa [VV.plain] using hp) ⟨hl,hh⟩).tup
  | .undef,_,hp,_ | .ptr _ _,_,hp,_ | .cptr _ _,_,hp,_ | .hs _ _ _ _,_,hp,_ | .map _,_,hp,_ | .func _ _,_,hp,_ | .iface _ _,_,hp,_ => by simp [VV.plain] at hp
theorem plainL_rv {w' : Own} {φ' : List Nat} {lh' : Heap} : ∀ (vs : List VV) (ls : List LV),plainL vs = true → RVs w φ lh vs ls → RVs w' φ' lh' vs ls
  | [],ls,_,h => by
    have := h.1
    cases ls with
    | nil => exact .nil
    | cons => simp at this
  | v :: r,[],_,h => by have := h.1; simp at this
  | v :: r,l :: ls,hp,h => by
    simp only [plainL,Bool.and_eq_true] at hp
    exact .cons (plain_rv v l hp.1 h.uncons.1) (plainL_rv r ls hp.2 h.uncons.2)
end

/-- The blocks,as a function sees them that may not change them. -/
theorem HS.view (H : HS lo w φ vh lh) {w0 : Own} (h0 : ∀ b,w b = none → w0 b = none) (h1 : ∀ b,w0 b = none ∨ w0 b = some .ext) (hn : ∀ b,lh.length ≤ b → w0 b = none) : HS vh.length w0 φ vh lh := by
  have fr : Fw w lh w0 lh := fun b x hb _ hw => ⟨h0 b hw,hb⟩
  refine ⟨H.len,Nat.le_refl _,fun n b pb hb hp => ?_,hn⟩
  have hlt := lt_of_getElem? hb
  have h := H.blk n b pb hb hp
  cases b with
  | dead => exact True.intro
  | cells rw cs =>
    obtain ⟨lrw,lcs,g1,g2,g3,g4⟩ := h
    refine ⟨lrw,lcs,g1,g2.tr g2.low (fun n b _ e => e) fr,g3,?_⟩
    rw [if_neg (fun h => by omega)]; exact h1 pb
  | map es =>
    obtain ⟨les,g1,g2,g3,g4⟩ := h
    refine ⟨les,g1,g2,fun i e le a b => ⟨(g3 i e le a b).1,(g3 i e le a b).2.1,(g3 i e le a b).2.2.1.tr (g3 i e le a b).2.2.1.low (fun n b _ e => e) fr,(g3 i e le a b).2.2.2⟩,?_⟩
    rw [if_neg (by omega)]; exact h1 pb
end

theorem len_of_ext {φ φ1 : List Nat} (h : PExt φ φ1) : φ.length ≤ φ1.length := by
  rcases Nat.lt_or_ge φ1.length φ.length with hlt | hge
  · exfalso
    have := h φ1.length _ (List.getElem?_eq_getElem hlt)
    rw [List.getElem?_eq_none (Nat.le_refl _)] at this; cases this
  · exact hge

/-- slices.Clone,as it is,and without its look at nil. -/
def cloneC (e : List LOper) (m mt ap : Bool) (es bytes : Nat) : LFunc := ⟨8,1,[.tmp 2],.seq (.ops [⟨some 2,none,.mv m (.c .nilslice)⟩]) (.seq (.seq (.ops (⟨some 3,none,.mv false (.t 0)⟩ :: e)) (.cond (.t 4) (.seq (.ops [⟨some 2,none,.mv m (.c .nilslice)⟩]) .ret) .skip)) (.seq (.ops [⟨some 5,none,.bslice mt 0 es [] []⟩,⟨some 6,none,.mv false (.t 0)⟩,⟨some 7,none,.append ap es bytes (.t 5) (.t 6)⟩,⟨some 2,none,.mv m (.t 7)⟩]) .ret))⟩
def cloneF (m mt ap : Bool) (es bytes : Nat) : LFunc := cloneC [⟨some 4,none,.eqv false .slice (.t 3) (.c .nilslice)⟩] m mt ap es bytes
def cloneA (m mt ap : Bool) (es bytes : Nat) : LFunc := cloneC [⟨some 4,none,.lenL (.t 3)⟩,⟨some 4,none,.mv false (.c (.bool false))⟩] m mt ap es bytes

theorem clone_nil {cs : CallS} {K : Nat} {m mt ap : Bool} {es bytes : Nat} {lh : Heap} {Q : LV → Heap → Prop} (h : Q .nilslice lh) : bodyS cs K (cloneF m mt ap es bytes) [.nilslice] lh Q := by
  refine ⟨rfl,?_⟩
  simp only [cloneF,cloneC,codeS,opsS,operS,opS]
  refine ⟨_,_,rfl,_,_,rfl,_,_,rfl,?_⟩
  refine ⟨_,_,rfl,.inr trivial,_,rfl,h⟩
theorem clone_cons {cs : CallS} {K : Nat} {m mt ap : Bool} {es bytes : Nat} {lh : Heap} {Q : LV → Heap → Prop} {n off len es' : Nat} {full : Bool} (h : bodyS cs K (cloneA m mt ap es bytes) [.slice n off len es' full] lh Q) : bodyS cs K (cloneF m mt ap es bytes) [.slice n off len es' full] lh Q := by
  obtain ⟨h1,h2⟩ := h
  refine ⟨rfl,?_⟩
  simp only [cloneF,cloneA,cloneC,codeS,opsS,operS,opS] at h2 ⊢
  obtain ⟨_,_,e1,h2⟩ := h2
  refine ⟨_,_,e1,?_⟩
  obtain ⟨_,_,e2,h2⟩ := h2
  refine ⟨_,_,e2,?_⟩
  obtain ⟨_,_,e4,h2⟩ := h2
  obtain ⟨_,_,e3,h2⟩ := h2
  cases e1; cases e2; cases e4; cases e3
  exact ⟨_,_,rfl,h2⟩
theorem clone_V {cf : VCall} {lo K : Nat} {m o : Bool} {es bytes : Nat} {v : VV × VHeap} {md : LMode} {h : VHeap} (he : bodyV cf lo K ⟨cloneA m false true es bytes,true,o,false⟩ [.list md []] h = some v) : v = (.list (if o then .o else .s) [],h) := by
  cases m <;> cases o <;> cases md <;> simp [bodyV,cloneA,cloneC,codeV,opsV,operV,opV,appendV,rowsOf,putV,post,mvF,strip,loses,vs,vr,VV.sh,VV.ow,fillV,chunk,ofLV,ofLVs,nrmL,lowL,ressV,resV,oneV,backV,fz,fzN] at he <;> simp [← he]
theorem clone_bad {cf : VCall} {lo K : Nat} {m o : Bool} {es bytes : Nat} {b : VV} {h : VHeap} (hb : isSl b = false) : bodyV cf lo K ⟨cloneA m false true es bytes,true,o,false⟩ [b] h = none := by
  cases b <;> simp [isSl] at hb <;> simp [bodyV,cloneA,cloneC,codeV,opsV,operV,opV,putV,post,mvF,strip,loses,vs,vr,VV.sh,VV.ow]
theorem snap_sl {h : VHeap} {a b : VV} (hs : snap h a = some b) (ha : isSl a = false) : isSl b = false := by
  cases a <;> simp only [isSl] at ha <;> simp only [snap,Option.some.injEq] at hs
  all_goals first
    | (subst hs; rfl)
    | (split at hs
       · cases hs; rfl
       · cases hs)
    | cases ha

/-- The same,with a block of its own to be written; of what is empty: an empty list. -/
def cloneM (m : Bool) (es bytes : Nat) : LFunc := cloneC [⟨some 4,none,.lenL (.t 3)⟩,⟨some 4,none,.bin .eql (.t 4) (.c (.int .i64 0))⟩] m true false es bytes
theorem clone_empty {cs : CallS} {K : Nat} {m : Bool} {es bytes : Nat} {lh : Heap} {Q : LV → Heap → Prop} {n off es' : Nat} {full : Bool} (h : Q (.slice lh.length 0 0 es true) (lh ++ [.cells true []])) : bodyS cs K (cloneF m true false es bytes) [.slice n off 0 es' full] lh Q := by
  refine ⟨rfl,?_⟩
  simp only [cloneF,cloneC,codeS,opsS,operS,opS]
  refine ⟨_,_,rfl,_,_,rfl,_,_,rfl,?_⟩
  refine ⟨_,_,rfl,_,_,rfl,_,_,rfl,_,_,rfl,.inr trivial,_,rfl,h⟩
theorem clone_consM {cs : CallS} {K : Nat} {m : Bool} {es bytes : Nat} {lh : Heap} {Q : LV → Heap → Prop} {n off len es' : Nat} {full : Bool} (hl : len ≠ 0) (h : bodyS cs K (cloneM m es bytes) [.slice n off len es' full] lh Q) : bodyS cs K (cloneF m true false es bytes) [.slice n off len es' full] lh Q := by
  obtain ⟨h1,h2⟩ := h
  refine ⟨rfl,?_⟩
  simp only [cloneF,cloneM,cloneC,codeS,opsS,operS,opS] at h2 ⊢
  obtain ⟨_,_,e1,h2⟩ := h2
  refine ⟨_,_,e1,?_⟩
  obtain ⟨_,_,e2,h2⟩ := h2
  refine ⟨_,_,e2,?_⟩
  obtain ⟨_,_,e4,h2⟩ := h2
  obtain ⟨_,_,e3,h2⟩ := h2
  have hb : ((len : Int) == 0) = false := by simp; omega
  cases e1; cases e2; cases e4
  have e3' : some (LV.bool ((len : Int) == 0),lh) = some (_,_) := e3
  rw [hb] at e3'
  cases e3'
  exact ⟨_,_,rfl,h2⟩

theorem clone_VM {cf : VCall} {lo K : Nat} {m pu : Bool} {es bytes : Nat} {v : VV × VHeap} {b : VV} {h : VHeap} (hb : (∃ md,b = .list md []) ∨ ∃ n off es',b = .hs n off 0 es') (he : bodyV cf lo K ⟨cloneM m es bytes,pu,false,true⟩ [b] h = some v) : ∃ md,md ≠ LMode.o ∧ v = (.list md [],h) := by
  rcases hb with ⟨md,rfl⟩ | ⟨n,off,es',rfl⟩
  · cases m <;> cases md <;> simp [bodyV,cloneM,cloneC,codeV,opsV,operV,opV,appendV,rowsOf,putV,post,mvF,strip,loses,vs,vr,VV.sh,VV.ow,VV.sc,binE,fillV,chunk,ofLV,ofLVs,nrmL,lowL,ressV,resV,oneV,backV,fz,fzN] at he <;> exact ⟨_,by decide,he.symm⟩
  · cases m <;> simp [bodyV,cloneM,cloneC,codeV,opsV,operV,opV,appendV,rowsOf,putV,post,mvF,strip,loses,vs,vr,VV.sh,VV.ow,VV.sc,binE,fillV,chunk,ofLV,ofLVs,nrmL,lowL,ressV,resV,oneV,backV,fz,fzN] at he <;> exact ⟨_,by decide,he.symm⟩
theorem clone_badM {cf : VCall} {lo K : Nat} {m pu : Bool} {es bytes : Nat} {b : VV} {h : VHeap} (hb : isSl b = false) : bodyV cf lo K ⟨cloneM m es bytes,pu,false,true⟩ [b] h = none := by
  cases b <;> simp [isSl] at hb <;> simp [bodyV,cloneM,cloneC,codeV,opsV,operV,opV,putV,post,mvF,strip,loses,vs,vr,VV.sh,VV.ow]
theorem nrm_sl {a : VV} (ha : isSl a = false) : isSl (nrm a) = false := by
  cases a <;> simp only [isSl] at ha <;> first | rfl | cases ha

/-- What a function of values says of a function of the logical machine. -/
inductive Link : Option LFunc → Option VFunc → Prop
  | none (l : Option LFunc) : Link l Option.none
  | same (fn : VFunc) : Link (some fn.fn) (some fn)
  | clone (m o : Bool) (es bytes : Nat) : Link (some (cloneF m false true es bytes)) (some ⟨cloneA m false true es bytes,true,o,false⟩)
  | cloneM (m pu : Bool) (es bytes : Nat) : Link (some (cloneF m true false es bytes)) (some ⟨Vg.cloneM m es bytes,pu,false,true⟩)
theorem Link.of_eq {l : Option LFunc} {v : Option VFunc} (h : l = v.map (·.fn)) : Link l v := by
  cases v with
  | none => exact .none l
  | some fn => subst h; exact .same fn

theorem callV_sim {p : VProg} {lp : LProg} (hp : ∀ f,Link (lp f) (p f)) : ∀ K,CallSim (callV p K) (callS lp K) := by
  intro K
  induction K with
  | zero => intro lo f args vh v vh' h; cases h
  | succ K ih =>
    intro lo f args vh v vh' h w φ largs lh d H hr
    have hm := callS_mono lp K
    simp only [callV,callW] at h
    cases hf : p f with
    | none => rw [hf] at h; cases h
    | some fn =>
      rw [hf] at h
      simp only at h
      suffices main : bodyS (callS lp K) (K + 1) fn.fn largs lh fun l lh' => ∃ w' φ',Fr w lh w' lh' ∧ (∀ i,SameT (· = .env i) w lh w' lh') ∧ PExt φ φ' ∧ HS lo w' φ' vh' lh' ∧ RV w' φ' lh' v l ∧ Tok w' lh' (.env d) v l by
        have hlk := hp f
        rw [hf] at hlk
        simp only [callS]
        generalize lp f = q at hlk ⊢
        cases hlk with
        | same => exact main
        | clone m o es bytes =>
          simp only
          obtain ⟨l,rfl⟩ : ∃ l,largs = [l] := by
            have := main.1
            simp only [cloneA,cloneC] at this
            match largs,this with
            | [l],_ => exact ⟨l,rfl⟩
          have hl : args.length = 1 := by have := hr.1; simpa using this
          obtain ⟨a,rfl⟩ : ∃ a,args = [a] := by
            match args,hl with
            | [a],_ => exact ⟨a,rfl⟩
          have ha : RV w φ lh a l := hr.uncons.1
          simp only [Bool.not_false,and_self,if_true] at h
          cases hs : snap vh a with
          | none => simp only [snapL,hs] at h; cases h
          | some b =>
            simp only [snapL,hs] at h
            by_cases hsl : isSl a = false
            · have hb := snap_sl hs hsl
              have e1 : ∀ lo hh,bodyV (callV p K) lo (K + 1) ⟨cloneA m false true es bytes,true,o,false⟩ [b] hh = none := fun lo hh => clone_bad hb
              simp only [e1,ite_self] at h
              cases h
            · cases ha with
              | nil md =>
                simp only [snap,Option.some.injEq] at hs
                subst hs
                have hlow : lowL 0 [VV.list .s []] = true := rfl
                rw [if_pos hlow] at h
                cases hbd : bodyV (callV p K) 0 (K + 1) ⟨cloneA m false true es bytes,true,o,false⟩ [.list .s []] [] with
                | none => rw [hbd] at h; cases h
                | some r =>
                  have hr1 := clone_V hbd
                  subst hr1
                  rw [hbd] at h
                  simp only [noHsL,noHs,Bool.and_self,true_or,if_true,Option.some.injEq,Prod.mk.injEq] at h
                  obtain ⟨rfl,rfl⟩ := h
                  exact clone_nil ⟨w,φ,Fr.refl _ _,fun i b x mm u hb hw _ => ⟨hw,rfl⟩,PExt.refl _,H,.nil _,fun r _ => .inl rfl⟩
              | list0 md n off es' full hm' => exact clone_cons main
              | list hw hb hl hm' hr' hrr => exact clone_cons main
              | hs hh => exact clone_cons main
              | _ => exact absurd rfl hsl
        | cloneM m pu es bytes =>
          simp only
          obtain ⟨l,rfl⟩ : ∃ l,largs = [l] := by
            have := main.1
            simp only [Vg.cloneM,cloneC] at this
            match largs,this with
            | [l],_ => exact ⟨l,rfl⟩
          have hl : args.length = 1 := by have := hr.1; simpa using this
          obtain ⟨a,rfl⟩ : ∃ a,args = [a] := by
            match args,hl with
            | [a],_ => exact ⟨a,rfl⟩
          have ha : RV w φ lh a l := hr.uncons.1
          simp only [Bool.not_true,Bool.false_eq_true,and_false,if_false,nrmL] at h
          by_cases hsl : isSl a = false
          · have e1 : ∀ lo hh,bodyV (callV p K) lo (K + 1) ⟨Vg.cloneM m es bytes,pu,false,true⟩ [nrm a] hh = none := fun lo hh => clone_badM (nrm_sl hsl)
            rw [e1] at h
            cases h
          · have emp : ∀ (n off es' : Nat) (full : Bool),l = .slice n off 0 es' full → ((∃ md,nrm a = .list md []) ∨ ∃ n off es',nrm a = .hs n off 0 es') → bodyS (callS lp K) (K + 1) (cloneF m true false es bytes) [l] lh fun l lh' => ∃ w' φ',Fr w lh w' lh' ∧ (∀ i,SameT (· = .env i) w lh w' lh') ∧ PExt φ φ' ∧ HS lo w' φ' vh' lh' ∧ RV w' φ' lh' v l ∧ Tok w' lh' (.env d) v l := by
              rintro n off es' full rfl hb
              obtain ⟨md,hmd,hv⟩ := clone_VM hb h
              cases hv
              have old : ∀ b,b < lh.length → (lh ++ [LBlk.cells true []])[b]? = lh[b]? := fun b hb => List.getElem?_append_left hb
              have fr : Fr w lh w (lh ++ [.cells true []]) := ⟨by simp,fun b hb hw => ⟨hw,old b hb⟩,fun b hb hw => ⟨hw,old b hb⟩⟩
              exact clone_empty ⟨w,φ,fr,fun i b x mm u hb hw _ => ⟨hw,old b (lt_of_getElem? hb)⟩,PExt.refl _,H.mono fr (fun n b x hb hw _ => ⟨hw,old b hb⟩) (fun b hb => H.new b (by simp at hb; omega)),.list0 _ _ _ _ _ (fun _ => rfl),Tok.no (fun r hr => by cases hr; exact hmd rfl)⟩
            cases ha with
            | nil md =>
              obtain ⟨md',hmd,hv⟩ := clone_VM (.inl ⟨_,rfl⟩) h
              cases hv
              exact clone_nil ⟨w,φ,Fr.refl _ _,fun i b x mm u hb hw _ => ⟨hw,rfl⟩,PExt.refl _,H,.nil _,Tok.no (fun r hr => by cases hr; exact hmd rfl)⟩
            | list0 md n off es' full hm' => exact emp _ _ _ _ rfl (.inl ⟨_,rfl⟩)
            | @list _ rows _ _ _ _ _ _ hw hb hl hm' hr' hrr =>
              cases rows with
              | nil => exact emp _ _ _ _ rfl (.inl ⟨_,rfl⟩)
              | cons => exact clone_consM (by simp) main
            | @hs _ _ len _ _ _ hh =>
              cases len with
              | zero => exact emp _ _ _ _ rfl (.inr ⟨_,_,_,rfl⟩)
              | succ => exact clone_consM (by simp) main
            | _ => exact absurd rfl hsl
      classical
      split at h
      · -- pure
        rename_i hpure
        split at h
        case h_2 => cases h
        rename_i as has
        split at h
        case h_2 => cases h
        rename_i v1 vh1 hbody
        split at h
        case isFalse => cases h
        rename_i hcond
        simp only [Option.some.injEq,Prod.mk.injEq] at h
        obtain ⟨rfl,rfl⟩ := h
        have hraw : fn.raw = false := by simpa using hpure.2
        -- the run,seen by whom nobody but the caller holds something
        have run : ∀ (wc w0 : Own) (K0 : Nat → Prop),Kept wc w0 lh K0 → (∀ b,lh.length ≤ b → w0 b = none) → (∀ b,w0 b = none ∨ w0 b = some .ext) → (∀ b,w b = none → w0 b = none) → RVs w0 φ lh as largs →
            bodyS (callS lp K) (K + 1) fn.fn largs lh fun l lh1 => ∃ w2,Fr wc lh w2 lh1 ∧ (∀ i,SameT (· = .env i) wc lh w2 lh1) ∧ (∀ b,lh1.length ≤ b → w2 b = none) ∧ (∀ b,K0 b → w2 b = wc b ∧ lh1[b]? = lh[b]?) ∧ (∀ φ,RV w2 φ lh1 v1 l) ∧ Tok w2 lh1 (.env d) v1 l ∧ lh.length ≤ lh1.length ∧ (∀ b,b < lh.length → lh1[b]? = lh[b]?) := by
          intro wc w0 K0 hK h3 h2 h1 hras
          have fin : ∀ (lo0 : Nat) (φ0 : List Nat) (vh0 : VHeap),HS lo0 w0 φ0 vh0 lh → lo0 ≤ vh0.length → RVs w0 φ0 lh as largs → bodyV (callV p K) lo0 (K + 1) fn as vh0 = some (v1,vh1) →
              bodyS (callS lp K) (K + 1) fn.fn largs lh fun l lh1 => ∃ w2,Fr wc lh w2 lh1 ∧ (∀ i,SameT (· = .env i) wc lh w2 lh1) ∧ (∀ b,lh1.length ≤ b → w2 b = none) ∧ (∀ b,K0 b → w2 b = wc b ∧ lh1[b]? = lh[b]?) ∧ (∀ φ,RV w2 φ lh1 v1 l) ∧ Tok w2 lh1 (.env d) v1 l ∧ lh.length ≤ lh1.length ∧ (∀ b,b < lh.length → lh1[b]? = lh[b]?) := by
            intro lo0 φ0 vh0 H0 hlo0 hr0 hb0
            refine bodyS_mono hm ?_ (body_sim hm ih H0 hr0 (snapL_ne has) hb0)
            rintro l lh1 ⟨w1,φ1,vhx,vx,g2,g3,g4,g5,g6,g7⟩
            have hle : vh0.length ≤ vhx.length := by rw [← H0.len,← g4.len]; exact len_of_ext g3
            obtain ⟨w2,k,q1,q2,q3,q4,q5,q6,q7,q8,q9,q10,q11,q12,q13⟩ := back_sim (d := d) hK g4 g5 g6 g2 hlo0 hle g7
            exact ⟨w2,q4,q5,q6,q9,q13 hraw,q12,g2.le,fun b hb => (g2.stay b hb (h2 b)).2⟩
          by_cases hlow : lowL 0 as = true
          · rw [if_pos hlow] at hbody
            exact fin 0 [] [] ⟨rfl,Nat.zero_le _,fun n b pb hb => by simp at hb,h3⟩ (Nat.zero_le _) (hras.tr hlow (fun n b hn => absurd hn (Nat.not_lt_zero n)) (Fr.refl _ _).weak) hbody
          · rw [if_neg hlow] at hbody
            exact fin vh.length φ vh (H.view h1 h2 h3) (Nat.le_refl _) hras hbody
        -- all that stood stays
        have caller : ∀ (w2 : Own) (lh1 : Heap),Fr w lh w2 lh1 → (∀ b,b < lh.length → w2 b = w b ∧ lh1[b]? = lh[b]?) → (∀ b,lh1.length ≤ b → w2 b = none) → HS lo w2 φ vh lh1 := fun w2 lh1 fr hs hn =>
          H.mono fr (fun n b x hb hw _ => ⟨by rw [(hs b hb).1]; exact hw,(hs b hb).2⟩) hn
        by_cases hno : noHsL args = true
        · -- no slice was read whole
          refine bodyS_mono hm ?_ (run w (fun b => if b < lh.length ∧ w b ≠ none then some .ext else none) (fun b => b < lh.length ∧ w b ≠ none)
            ⟨fun b hb => hb,fun b hb => if_pos hb,fun b hb => by
              rw [if_neg hb]
              by_cases hlt : b < lh.length
              · have : w b = none := Classical.not_not.1 fun h => hb ⟨hlt,h⟩
                rw [this]; rfl
              · rw [H.new b (by omega)]; rfl,fun b i m u hw hb => ⟨lt_of_getElem? hb,by rw [hw]; simp⟩⟩
            (fun b hb => by rw [if_neg (fun h => by omega)]) (fun b => by split <;> simp) (fun b hw => by rw [if_neg (fun h => h.2 hw)])
            ((snapL_rv args as largs hno has hr).tr (snapL_rv args as largs hno has hr).low (fun n b _ e => e) fun b x hb _ hw => ⟨by rw [if_neg (fun h => h.2 hw)],hb⟩))
          rintro l lh1 ⟨w2,g2,g3,g4,g5,g6,g7,g8,g9⟩
          refine ⟨w2,φ,g2,g3,PExt.refl _,caller w2 lh1 g2 (fun b hb => ?_) g4,g6 φ,g7⟩
          by_cases hw : w b = none
          · exact ⟨by rw [(g2.keep b hb hw).1,hw],g9 b hb⟩
          · exact g5 b ⟨hb,hw⟩
        · -- the result names neither lists nor blocks
          have hpl : v1.plain = true := hcond.resolve_left hno
          refine bodyS_mono hm ?_ (run (fun _ => none) (fun _ => none) (fun _ => False) ⟨fun b h => h.elim,fun b h => h.elim,fun b _ => rfl,fun b i m u h => by cases h⟩ (fun _ _ => rfl) (fun _ => .inl rfl) (fun _ _ => rfl) (snapL_rv0 H (fun _ => rfl) args as largs has hr))
          rintro l lh1 ⟨w2,_,_,_,_,g4,g5,g2,g3⟩
          have fr : Fr w lh w lh1 := ⟨g2,fun b hb hw => ⟨hw,g3 b hb⟩,fun b hb hw => ⟨hw,g3 b hb⟩⟩
          refine ⟨w,φ,fr,fun i b x m u hb hw _ => ⟨hw,g3 b (lt_of_getElem? hb)⟩,PExt.refl _,caller w lh1 fr (fun b hb => ⟨rfl,g3 b hb⟩) (fun b hb => H.new b (by omega)),plain_rv v1 l hpl (g4 φ),fun r hv => ?_⟩
          subst hv
          rcases g5 r rfl with h | h | ⟨n,off,len,es,lcs,_,_,_,_,hne⟩
          · exact .inl h
          · exact .inr (.inl h)
          · cases r with
            | nil => exact absurd rfl hne
            | cons => simp [VV.plain] at hpl
      · -- not pure
        let K0 : Nat → Prop := fun b => b < lh.length ∧ (∃ i,w b = some (.env i)) ∧ ∃ m u,lh[b]? = some (.tok m u)
        let w0 : Own := fun b => if K0 b then some .ext else noEnv (w b)
        have hK : Kept w w0 lh K0 := ⟨fun b hb => ⟨hb.1,by obtain ⟨_,⟨i,hi⟩,_⟩ := hb; rw [hi]; simp⟩,fun b hb => if_pos hb,fun b hb => if_neg hb,fun b i m u hw hb => ⟨lt_of_getElem? hb,⟨i,hw⟩,m,u,hb⟩⟩
        have hw0 : ∀ b,w b = none → w0 b = none := fun b hw => by
          rw [hK.other b (fun h => (hK.lt b h).2 hw),hw]; rfl
        have hwe : ∀ b,w b = some .ext → w0 b = some .ext := fun b hw => by
          rw [hK.other b (fun h => by obtain ⟨_,⟨i,hi⟩,_⟩ := h; rw [hw] at hi; cases hi),hw]; rfl
        have f0 : Fr w lh w0 lh := ⟨Nat.le_refl _,fun b _ hw => ⟨hw0 b hw,rfl⟩,fun b _ hw => ⟨hwe b hw,rfl⟩⟩
        have H0 : HS lo w0 φ vh lh := H.mono f0 (fun n b x hb hw hx => by
          refine ⟨?_,rfl⟩
          rw [hK.other b (fun h => by obtain ⟨_,⟨i,hi⟩,_⟩ := h; rw [hw] at hi; cases hi; cases hx),hw]
          cases x <;> first | rfl | cases hx) (fun b hb => hw0 b (H.new b hb))
        have hr0 : RVs w0 φ lh (nrmL args) largs := (nrmL_rv args largs hr).mono (PExt.refl _) f0
        refine bodyS_mono hm ?_ (body_sim hm ih H0 hr0 (fun v hv r => by
          rw [nrmL_eq] at hv
          obtain ⟨u,_,rfl⟩ := List.mem_map.1 hv
          exact nrm_ne u r) h)
        rintro l lh1 ⟨w1,φ1,vhx,vx,g2,g3,g4,g5,g6,g7⟩
        have hle : vh.length ≤ vhx.length := by rw [← H.len,← g4.len]; exact len_of_ext g3
        obtain ⟨w2,k,q1,q2,q3,q4,q5,q6,q7,q8,q9,q10,q11,q12,q13⟩ := back_sim (d := d) hK g4 g5 g6 g2 H.lol hle g7
        subst q3
        refine ⟨w2,φ1.take k,q4,q5,fun n b e => ?_,g4.cut (by have := H.lol; omega) q2 q7 (fun pb x hx hnt ho => ?_) q8 q6,q11,q12⟩
        · have := lt_of_getElem? e
          rw [List.getElem?_take,if_pos (by have := H.len; omega)]
          exact g3 n b e
        · have hk : ¬ K0 pb := fun hk => by
            obtain ⟨_,_,m,u,hm⟩ := hk
            have := (q9 pb ⟨by assumption,by assumption,m,u,hm⟩).2
            rw [hx,hm] at this
            cases this; exact hnt m u rfl
          rcases ho with ho | ho
          · exact .inl (q7 pb x hx hnt ho).1
          · exact .inr (q10 pb hk ho)
end Vg
