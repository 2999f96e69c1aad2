/- Operations,the rest: rows,append,copy,make,maps,calls. -/
import Derived.Test.YtpoofafddbcnpaaVVgOps3
namespace Vg
open Go Lg
set_option linter.unusedSimpArgs false
set_option linter.unusedVariables false
set_option maxHeartbeats 1000000
section
variable {cf : VCall} {lcf : CallF} {lo : Nat} {w : Own} {φ : List Nat} {env : VEnv} {lenv : Env} {vh vh' : VHeap} {lh : Heap} {d : Nat} {v : VV}

theorem RowsAt.nil {es : Nat} : RowsAt w φ lh es [] [] := ⟨by simp,fun r h => by simp at h,fun i r j v l h => by simp at h⟩
theorem RowsAt.uncons {es : Nat} {row : List VV} {rows : List (List VV)} {cells : List LV} (h : RowsAt w φ lh es (row :: rows) cells) : RVs w φ lh row (cells.take es) ∧ RowsAt w φ lh es rows (cells.drop es) := by
  have hl := h.len
  rw [List.length_cons,Nat.add_mul,Nat.one_mul] at hl
  have h0 := h.row row (by simp)
  refine ⟨⟨by rw [h0.1]; simp; omega,fun i v l hv hl' => ?_⟩,⟨by simp; omega,fun r hr => h.row r (by simp [hr]),fun i r j v l hr hv hl' => ?_⟩⟩
  · rw [List.getElem?_take] at hl'
    split at hl'
    · exact h.get 0 row i v l rfl hv (by simpa using hl')
    · cases hl'
  · rw [List.getElem?_drop] at hl'
    exact h.get (i + 1) r j v l (by simpa using hr) hv (by rw [Nat.add_mul,Nat.one_mul,show i * es + es + j = es + (i * es + j) by omega]; exact hl')
theorem RowsAt.flat {es : Nat} : ∀ {rows : List (List VV)} {cells : List LV},RowsAt w φ lh es rows cells → RVs w φ lh rows.flatten cells
  | [],cells,h => by
    have := h.len
    simp at this
    subst this
    exact .nil
  | row :: rows,cells,h => by
    obtain ⟨h1,h2⟩ := h.uncons
    have := h1.append (RowsAt.flat h2)
    rw [List.take_append_drop] at this
    exact this
theorem RowsAt.take {es : Nat} {rows : List (List VV)} {cells : List LV} (h : RowsAt w φ lh es rows cells) (m : Nat) : RowsAt w φ lh es (rows.take m) (cells.take (m * es)) := by
  refine ⟨?_,fun r hr => h.row r (List.mem_of_mem_take hr),fun i r j v l hr hv hl => ?_⟩
  · rw [List.length_take,List.length_take,h.len]
    rcases Nat.le_total m rows.length with h1 | h1
    · rw [Nat.min_eq_left h1,Nat.min_eq_left (Nat.mul_le_mul_right _ h1)]
    · rw [Nat.min_eq_right h1,Nat.min_eq_right (Nat.mul_le_mul_right _ h1)]
  · rw [List.getElem?_take] at hr hl
    split at hr
    · split at hl
      · exact h.get i r j v l hr hv hl
      · cases hl
    · cases hr
theorem RowsAt.flat_free {es : Nat} {rows : List (List VV)} {cells : List LV} (h : RowsAt w φ lh es rows cells) (k : Nat) : lowL k rows.flatten = true := lowL_of fun v hv => by
  obtain ⟨r,hr,hv⟩ := List.mem_flatten.1 hv
  exact low_mono (Nat.zero_le k) v (lowL_mem (h.row r hr).2 v hv)

theorem list_at {m : LMode} {r : List (List VV)} {n off len es : Nat} {full : Bool} (h : RV w φ lh (.list m r) (.slice n off len es full)) (hr : r ≠ []) : len = r.length ∧ w n = none ∧ (m = .f → full = true) ∧ ∃ rw lcs,lh[n]? = some (.cells rw lcs) ∧ off + len * es ≤ lcs.length ∧ RowsAt w φ lh es r ((lcs.drop off).take (len * es)) := by
  cases h with
  | list0 => exact absurd rfl hr
  | @list _ _ _ _ _ _ rw lcs hw hb hl hm hrr hh =>
    refine ⟨rfl,hw,hm,rw,lcs,hb,hl,⟨by simp; omega,hrr,fun i row j v l h1 h2 h3 => ?_⟩⟩
    rw [List.getElem?_take] at h3
    split at h3
    · rw [List.getElem?_drop] at h3
      exact hh i row j v l h1 h2 (by rw [Nat.add_assoc]; exact h3)
    · cases h3
theorem rows_es {es es' : Nat} {r : List (List VV)} {cells : List LV} (h : RowsAt w φ lh es' r cells) (hr : r ≠ []) (ha : r.all (fun x => x.length == es) = true) : es' = es := by
  cases r with
  | nil => exact absurd rfl hr
  | cons a r =>
    have h1 := (h.row a (by simp)).1
    simp at ha
    omega

theorem rows_src {es : Nat} {v : VV} {l : LV} {rows : List (List VV)} (H : HS lo w φ vh lh) (h : RV w φ lh v l) (hr : rowsOf es vh v = some rows) : ∃ cells,srcOf es lh l = some (cells,rows.length) ∧ RowsAt w φ lh es rows cells := by
  unfold rowsOf at hr
  split at hr
  · rename_i m r
    split at hr
    case isFalse => cases hr
    rename_i ha
    cases hr
    by_cases h0 : rows = []
    · subst h0
      refine ⟨[],?_,.nil⟩
      generalize hr0 : ([] : List (List VV)) = r0 at h
      cases h with
      | nil => rfl
      | list0 => simp [srcOf]
      | list => rename_i rows' _ _ _ _ _ _ _ _ _ _ _; subst hr0; simp [srcOf]
    · have hl : ∃ n off len es' full,l = .slice n off len es' full := by
        cases h with
        | nil => exact absurd rfl h0
        | list0 => exact absurd rfl h0
        | list => exact ⟨_,_,_,_,_,rfl⟩
      obtain ⟨n,off,len,es',full,rfl⟩ := hl
      obtain ⟨h1,h2,h3,rw',lcs,h4,h5,h6⟩ := list_at h h0
      have := rows_es h6 h0 ha
      subst this
      refine ⟨_,?_,h6⟩
      have hl0 : len ≠ 0 := by rw [h1]; exact fun e => h0 (List.length_eq_zero_iff.1 e)
      simp only [srcOf,if_neg hl0,if_true,cellsOf,h4,if_pos h5,← h1]
  · rename_i n off len es'
    split at hr
    case isFalse => cases hr
    rename_i hes
    subst hes
    split at hr
    case h_2 => cases hr
    rename_i rw' cs hn
    split at hr
    case isFalse => cases hr
    rename_i hc
    cases hr
    cases h with
    | @hs _ _ _ _ pb full hp =>
      obtain ⟨lrw,lcs,h1,h2,h3,h4⟩ := H.cells hn hp
      have hlen := h2.1
      have hd := nrmL_rv _ _ (h2.drop off)
      have hat := chunk_at (es := es') (n := len) hd (by
        rw [nrmL_low]
        exact lowL_of fun v hv => lowL_mem hc.2 v (List.mem_of_mem_drop hv)) (by rw [nrmL_length]; simp; omega)
      refine ⟨_,?_,hat⟩
      rw [chunk_length]
      by_cases hl0 : len = 0
      · subst hl0; simp [srcOf]
      · simp only [srcOf,if_neg hl0,if_true,cellsOf,h1]
        rw [if_pos (by omega)]
  · rename_i s
    split at hr
    case isFalse => cases hr
    rename_i hes
    subst hes
    cases hr
    cases h
    refine ⟨s.map (fun b => .int .u8 b.toNat),by simp [srcOf],⟨by simp,fun row hr => by obtain ⟨b,_,rfl⟩ := List.mem_map.1 hr; exact ⟨rfl,rfl⟩,fun i row j v l hrow hv hl => ?_⟩⟩
    rw [List.getElem?_map] at hrow
    obtain ⟨b,hb,rfl⟩ := Option.map_eq_some_iff.1 hrow
    cases j with
    | succ j => simp at hv
    | zero =>
      simp at hv; subst hv
      rw [Nat.mul_one,Nat.add_zero,List.getElem?_map,hb] at hl
      simp at hl; subst hl
      exact .int _ _
  · cases hr

theorem bytesOf_ne : ∀ {ls : List LV} {bs : List UInt8},bytesOf ls = some bs → ∀ x ∈ ls,x ≠ .undef
  | [],_,_,x,hx => by cases hx
  | l :: ls,bs,h,x,hx => by
    unfold bytesOf at h
    split at h
    · rename_i e; cases e
    · rename_i n r e
      cases e
      split at h
      · rename_i bs' hbs
        rcases List.mem_cons.1 hx with rfl | hx
        · exact fun h => by cases h
        · exact bytesOf_ne hbs x hx
      · cases h
    · cases h
theorem RVs.scs : ∀ {vs : List VV} {ls : List LV},RVs w φ lh vs ls → (∀ x ∈ vs.map VV.sc,x ≠ .undef) → ls = vs.map VV.sc
  | [],[],_,_ => rfl
  | [],_ :: _,h,_ => by have := h.1; simp at this
  | _ :: _,[],h,_ => by have := h.1; simp at this
  | v :: vs,l :: ls,h,hx => by
    simp only [List.map_cons]
    rw [h.uncons.1.sc (hx _ (by simp)),← RVs.scs h.uncons.2 (fun x hx' => hx x (by simp only [List.map_cons,List.mem_cons]; exact .inr hx'))]

theorem b2s_slice {n off len es k : Nat} {full : Bool} {cells : List LV} {bs : List UInt8} (h1 : srcOf 1 lh (.slice n off len es full) = some (cells,k)) (hbs : bytesOf cells = some bs) :
    (if len = 0 then some (LV.str [],lh) else if es = 1 then match cellsOf lh (.slice n off len es full) with
        | some cs => match bytesOf cs with
          | some l => some (LV.str l,lh)
          | none => none
        | none => none
      else none) = some (LV.str bs,lh) := by
  simp only [srcOf] at h1
  split at h1
  · rename_i h0
    simp only [Option.some.injEq,Prod.mk.injEq] at h1
    obtain ⟨rfl,_⟩ := h1
    simp only [bytesOf,Option.some.injEq] at hbs
    subst hbs
    rw [if_pos h0]
  · rename_i h0
    rw [if_neg h0]
    split at h1
    · rename_i hes
      rw [if_pos hes]
      split at h1
      · rename_i cs' hcs
        simp only [Option.some.injEq,Prod.mk.injEq] at h1
        obtain ⟨rfl,_⟩ := h1
        rw [hcs]; simp only [hbs]
      · cases h1
    · cases h1

theorem sim_b2s {x : X} (H : HS lo w φ vh lh) (E : ES w φ lh env lenv) (hE : opV cf lo (.b2s x) env vh = some (v,vh')) : OpRes lcf lo w φ env lenv lh (.b2s x) d v vh' := by
  simp only [opV] at hE
  split at hE
  case isFalse => cases hE
  rename_i hsl
  split at hE
  case h_2 => cases hE
  rename_i r hr
  split at hE
  case h_2 => cases hE
  rename_i bs hbs
  cases hE
  have h := E.x x
  obtain ⟨cells,h1,h2⟩ := rows_src H h hr
  have h3 := h2.flat.scs (bytesOf_ne hbs)
  rw [← h3] at hbs
  refine OpRes.val H E rfl (l := .str bs) ?_ (.str _) (fun r hr => by cases hr)
  simp only [opE]
  generalize hl : x.ev lenv = l at h h1
  generalize vr env x = vx at h hsl
  cases h <;> first | (simp [isSl] at hsl; done) | skip
  · simp [srcOf] at h1
    obtain ⟨rfl,_⟩ := h1
    simp [bytesOf] at hbs
    subst hbs; rfl
  · simp [srcOf] at h1
    obtain ⟨rfl,_⟩ := h1
    simp [bytesOf] at hbs
    subst hbs; simp
  · exact b2s_slice h1 hbs
  · exact b2s_slice h1 hbs

/-- What a function of the library looks at is no hidden value. -/
def okA : LV → Prop
  | .undef => False
  | .agg xs => ∀ x ∈ xs,x ≠ .undef
  | _ => True
theorem arg_rv {v : VV} {l : LV} (h : RV w φ lh v l) (hok : okA (argV v)) : argE lh l = argV v := by
  generalize hv : v = v0 at h
  cases h with
  | nil m => subst hv; rfl
  | list0 m n off es full hm => subst hv; simp [argE,argV]
  | @list m rows b off es full rw lcs hw hb hl hm hr hh =>
    subst hv
    by_cases h0 : rows = []
    · subst h0; simp [argE,argV]
    · obtain ⟨_,_,_,rw',lcs',hb',hl',hat⟩ := list_at (.list (m := m) hw hb hl hm hr hh) h0
      rw [hb] at hb'
      cases hb'
      simp only [argV] at hok
      split at hok
      case isFalse => exact hok.elim
      rename_i hall
      simp only [okA] at hok
      have h1 : ¬ rows.length = 0 := fun h => h0 (List.length_eq_zero_iff.1 h)
      have h2 : es = 1 := by
        obtain ⟨r,hr'⟩ := List.exists_mem_of_ne_nil rows h0
        have h3 := List.all_eq_true.1 hall r hr'
        rw [(hr r hr').1] at h3
        simpa using h3
      subst h2
      simp only [argE,h1,if_false,if_true,cellsOf,hb,if_pos hl,argV,hall]
      rw [hat.flat.scs hok]
  | _ => subst hv; first | rfl | exact hok.elim
theorem strsOf_ne : ∀ {ls : List LV} {bs : List (List UInt8)},strsOf ls = some bs → ∀ x ∈ ls,x ≠ .undef
  | [],_,_,x,hx => by cases hx
  | l :: ls,bs,h,x,hx => by
    unfold strsOf at h
    split at h
    · rename_i e; cases e
    · rename_i s r e
      cases e
      split at h
      · rename_i bs' hbs
        rcases List.mem_cons.1 hx with rfl | hx
        · exact fun h => by cases h
        · exact strsOf_ne hbs x hx
      · cases h
    · cases h
theorem ext_ok {k : ExtK} {args : List LV} {v : LV} (hE : extE k args = some v) : ∀ a ∈ args,okA a := by
  unfold extE at hE
  split at hE
  · intro a ha; simp at ha; rcases ha with rfl | rfl <;> trivial
  · intro a ha; simp at ha; rcases ha with rfl | rfl <;> trivial
  · split at hE
    · rename_i hs
      intro a ha; simp at ha; rcases ha with rfl | rfl
      · exact strsOf_ne hs
      · trivial
    · cases hE
  · intro a ha; simp at ha; rcases ha with rfl | rfl <;> trivial
  · cases hE
theorem ext_args (E : ES w φ lh env lenv) : ∀ (xs : List X),(∀ a ∈ xs.map (fun x => argV (vr env x)),okA a) → xs.map (fun x => argE lh (x.ev lenv)) = xs.map fun x => argV (vr env x)
  | [],_ => rfl
  | x :: xs,h => by
    simp only [List.map_cons]
    rw [arg_rv (E.x x) (h _ (by simp)),ext_args E xs fun a ha => h a (by simp only [List.map_cons,List.mem_cons]; exact .inr ha)]
theorem sim_ext {k : ExtK} {xs : List X} (H : HS lo w φ vh lh) (E : ES w φ lh env lenv) (hE : opV cf lo (.ext k xs) env vh = some (v,vh')) : OpRes lcf lo w φ env lenv lh (.ext k xs) d v vh' := by
  simp only [opV] at hE
  split at hE
  case h_2 => cases hE
  rename_i r hr
  cases hE
  refine OpRes.val H E rfl (l := r) ?_ (ofLV_rv _ _ _ r) (ofLV_ne r)
  simp only [opE]
  rw [ext_args E xs (ext_ok hr),hr]

theorem RowsAt.sub {es : Nat} {r : List (List VV)} {cells : List LV} (h : RowsAt w φ lh es r cells) {a e : Nat} (hae : a ≤ e) (he : e ≤ r.length) : RowsAt w φ lh es ((r.take e).drop a) ((cells.drop (a * es)).take ((e - a) * es)) := by
  have h1 : a * es ≤ e * es := Nat.mul_le_mul_right _ hae
  have h2 : e * es ≤ r.length * es := Nat.mul_le_mul_right _ he
  refine ⟨?_,fun row hr => h.row row (List.mem_of_mem_take (List.mem_of_mem_drop hr)),fun i row j v l hr hv hl => ?_⟩
  · have := h.len
    simp only [List.length_take,List.length_drop]
    rw [Nat.min_eq_left he,Nat.sub_mul]
    omega
  · rw [List.getElem?_drop,List.getElem?_take] at hr
    split at hr
    · rw [List.getElem?_take] at hl
      split at hl
      · rw [List.getElem?_drop] at hl
        exact h.get _ row j v l hr hv (by rw [Nat.add_mul,Nat.add_assoc]; exact hl)
      · cases hl
    · cases hr

theorem sim_slcA {len es : Nat} {x : X} {lo' hi : Option X} (H : HS lo w φ vh lh) (E : ES w φ lh env lenv) (hE : opV cf lo (.slcA len es x lo' hi) env vh = some (v,vh')) : OpRes lcf lo w φ env lenv lh (.slcA len es x lo' hi) d v vh' := by
  simp only [opV] at hE
  have h := E.x x
  split at hE
  case h_2 => cases hE
  rename_i n off hs
  rw [hs] at h
  generalize hl : x.ev lenv = l at h
  cases h with
  | @ptr _ _ pb hp =>
  split at hE
  case h_2 => cases hE
  rename_i rw cs hn
  obtain ⟨lrw,lcs,h1,h2,_,_⟩ := H.cells hn hp
  split at hE
  case isFalse => cases hE
  rename_i hle
  split at hE
  case h_2 => cases hE
  rename_i a e hb
  have hb' := bnds_rv E hb
  simp only [Option.some.injEq,Prod.mk.injEq] at hE
  obtain ⟨rfl,rfl⟩ := hE
  exact OpRes.val H E rfl (by simp only [opE,hl,hb',h1]; rw [if_pos (by rw [← h2.1]; exact hle)]) (.hs hp) (fun r hr => by cases hr)
theorem sim_slc {es : Nat} {x : X} {lo' hi mx : Option X} (H : HS lo w φ vh lh) (E : ES w φ lh env lenv) (hE : opV cf lo (.slc es x lo' hi mx) env vh = some (v,vh')) : OpRes lcf lo w φ env lenv lh (.slc es x lo' hi mx) d v vh' := by
  simp only [opV] at hE
  have h := E.x x
  split at hE
  · rename_i s hs
    rw [hs] at h
    generalize hl : x.ev lenv = l at h
    cases h
    split at hE
    case isFalse => cases hE
    rename_i hc
    split at hE
    case h_2 => cases hE
    rename_i a e hb
    cases hE
    have hb' := bnds_rv E hb
    exact OpRes.val H E rfl (by simp only [opE,hl,hb']; rw [if_pos hc]) (.str _) (fun r hr => by cases hr)
  · rename_i m r hs
    rw [hs] at h
    generalize hl : x.ev lenv = l at h
    split at hE
    case isFalse => cases hE
    rename_i hc
    obtain ⟨hes,hall⟩ := hc
    split at hE
    case h_2 => cases hE
    rename_i a e hb
    have hb' := bnds_rv E hb
    obtain ⟨hae,her⟩ := vbnds_le hb
    -- the limit,if one
    have hmx : ∃ m',v = .list m' ((r.take e).drop a) ∧ vh' = vh ∧ m' ≠ .o ∧ ((mx = none ∧ (m' = .f → m = .f ∧ e = r.length)) ∨ ∃ c k,mx = some c ∧ asNat (c.ev lenv) = some k ∧ e ≤ k ∧ k ≤ r.length ∧ (m' = .f → e = k)) := by
      cases mx with
      | none =>
        simp only [Option.some.injEq,Prod.mk.injEq] at hE
        obtain ⟨rfl,rfl⟩ := hE
        refine ⟨_,rfl,rfl,by split <;> simp,.inl ⟨rfl,fun h => ?_⟩⟩
        split at h
        · rename_i hc; exact hc
        · cases h
      | some c =>
        simp only at hE
        split at hE
        case h_2 => cases hE
        rename_i k hk
        split at hE
        case isFalse => cases hE
        rename_i hc
        simp only [Option.some.injEq,Prod.mk.injEq] at hE
        obtain ⟨rfl,rfl⟩ := hE
        refine ⟨_,rfl,rfl,by split <;> simp,.inr ⟨c,k,rfl,nat_rv (E.x c) hk,hc.1,hc.2,fun h => ?_⟩⟩
        split at h
        · rename_i hq; exact hq
        · cases h
    obtain ⟨m',rfl,rfl,hmo,hm⟩ := hmx
    have hno : ∀ r',VV.list m' ((r.take e).drop a) ≠ .list .o r' := fun r' h => by injection h with h1; exact hmo h1
    by_cases h0 : r = []
    · subst h0
      have he0 : e = 0 := by simpa using her
      subst he0
      have ha0 : a = 0 := by omega
      subst ha0
      simp only [List.take_nil,List.drop_nil] at hno ⊢
      have hcase : l = .nilslice ∨ ∃ n off es' full,l = .slice n off 0 es' full ∧ (m = .f → full = true) := by
        generalize hr0 : ([] : List (List VV)) = r0 at h
        cases h with
        | nil => exact .inl rfl
        | list0 _ n off es' full hmf => exact .inr ⟨n,off,es',full,rfl,hmf⟩
        | list hw hb hl' hmf => subst hr0; exact .inr ⟨_,_,_,_,rfl,hmf⟩
      rcases hcase with rfl | ⟨n,off,es',full,rfl,hmf⟩
      · refine OpRes.val H E rfl (l := .nilslice) ?_ (.nil _) hno
        simp only [opE,hl]
        rw [if_neg hes]
        simp only [List.length_nil] at hb'
        rw [hb']
        rcases hm with ⟨rfl,_⟩ | ⟨c,k,rfl,hk,hk1,hk2,_⟩
        · rfl
        · simp only [List.length_nil] at hk2
          have : k = 0 := by omega
          subst this
          simp only [hk,if_true]
      · have key : ∃ off' es'' f',opE lcf 0 (.slc es x lo' hi mx) lenv lh = some (.slice n off' 0 es'' f',lh) ∧ (m' = .f → f' = true) := by
          simp only [opE,hl]
          simp only [List.length_nil] at hb'
          by_cases he : es' = es
          · rw [if_pos ⟨he,hes⟩,hb']
            rcases hm with ⟨rfl,hmm⟩ | ⟨c,k,rfl,hk,hk1,hk2,hmm⟩
            · exact ⟨_,_,_,rfl,fun hf => by rw [hmf (hmm hf).1]; rfl⟩
            · simp only [List.length_nil] at hk2
              have : k = 0 := by omega
              subst this
              simp only [hk]
              rw [if_pos ⟨Nat.le_refl _,Nat.le_refl _⟩]
              exact ⟨_,_,_,rfl,fun _ => rfl⟩
          · rw [if_neg (fun hh => he hh.1),if_pos ⟨hes,trivial⟩,hb']
            rcases hm with ⟨rfl,hmm⟩ | ⟨c,k,rfl,hk,hk1,hk2,hmm⟩
            · exact ⟨_,_,_,rfl,fun hf => hmf (hmm hf).1⟩
            · simp only [List.length_nil] at hk2
              have : k = 0 := by omega
              subst this
              simp only [hk,if_true]
              exact ⟨_,_,_,rfl,fun _ => rfl⟩
        obtain ⟨off',es'',f',h1,h2⟩ := key
        exact OpRes.val H E rfl h1 (.list0 _ _ _ _ _ h2) hno
    · have hl' : ∃ n off len es' full,l = .slice n off len es' full := by
        cases h with
        | nil => exact absurd rfl h0
        | list0 => exact absurd rfl h0
        | list => exact ⟨_,_,_,_,_,rfl⟩
      obtain ⟨n,off,len,es',full,rfl⟩ := hl'
      obtain ⟨h1,h2,h3,rw',lcs,h4,h5,h6⟩ := list_at h h0
      have := rows_es h6 h0 hall
      subst this
      have key : ∃ f',opE lcf 0 (.slc es' x lo' hi mx) lenv lh = some (.slice n (off + a * es') (e - a) es' f',lh) ∧ (m' = .f → f' = true) := by
        simp only [opE,hl]
        rw [if_pos ⟨trivial,hes⟩,h1,hb']
        rcases hm with ⟨rfl,hmm⟩ | ⟨c,k,rfl,hk,hk1,hk2,hmm⟩
        · exact ⟨_,rfl,fun hf => by rw [h3 (hmm hf).1,(hmm hf).2]; simp⟩
        · simp only [hk]
          rw [if_pos ⟨hk1,hk2⟩]
          exact ⟨_,rfl,fun hf => by rw [hmm hf]; simp⟩
      obtain ⟨f',h7,h8⟩ := key
      have hs := h6.sub hae her
      have h9 : a * es' ≤ e * es' := Nat.mul_le_mul_right _ hae
      have h10 : e * es' ≤ len * es' := Nat.mul_le_mul_right _ (by omega)
      have hlen : ((r.take e).drop a).length = e - a := by simp; omega
      refine OpRes.val H E rfl h7 ?_ hno
      have := hs.list (b := n) (off := off + a * es') (m := m') (full := f') h2 h4 (by omega) (by
        rw [hlen,Nat.sub_mul,List.drop_take,List.take_take,List.drop_drop]
        congr 1
        omega) h8
      rwa [hlen] at this
  · rename_i n off len es' hs
    rw [hs] at h
    generalize hl : x.ev lenv = l at h
    split at hE
    case isFalse => cases hE
    rename_i hc
    obtain ⟨he,hes,hmx⟩ := hc
    split at hE
    case h_2 => cases hE
    rename_i a e hb
    have hb' := bnds_rv E hb
    cases hE
    cases h with
    | @hs _ _ _ _ pb full hp =>
      have hmx' : mx = none := by simpa using hmx
      subst hmx'
      refine OpRes.val H E rfl (l := .slice pb (off + a * es) (e - a) es (full && e == len)) ?_ (.hs hp) (fun r hr => by cases hr)
      simp only [opE,hl]
      rw [if_pos ⟨he,hes⟩,hb']
  · cases hE
end
end Vg
