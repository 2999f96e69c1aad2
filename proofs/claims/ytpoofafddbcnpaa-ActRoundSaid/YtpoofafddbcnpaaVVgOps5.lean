/- Operations,the last ones: append,copy,make,maps,calls; all of them together. -/
import Derived.Test.YtpoofafddbcnpaaVVgOps4
namespace Vg
open Go Lg
set_option linter.unusedSimpArgs false
set_option linter.unusedVariables false
set_option maxHeartbeats 1000000
section
variable {cf : VCall} {lcf : CallF} {lo : Nat} {w : Own} {φ : List Nat} {env : VEnv} {lenv : Env} {vh vh' : VHeap} {lh : Heap} {d : Nat} {v : VV}

/-- The slot of an operand that is taken. -/
theorem ES.took (E : ES w φ lh env lenv) (hn : ∀ b,lh.length ≤ b → w b = none) (x : X) : ∃ o1 : Owner,o1 ≠ .ext ∧ (∀ b i,o1 ≠ .cell b i) ∧ (∀ m,¬ ofBlk m o1) ∧ Tok w lh o1 (vr env x) (x.ev lenv) ∧
    ∀ (w' : Own) (lh' : Heap) (φ' : List Nat),PExt φ φ' → Fr w lh w' lh' → (∀ i,o1 ≠ .env i → Same (· = .env i) w lh w' lh') → ES w' φ' lh' (match x with | .t n => env.set n (env.getD n .undef).sh | .c _ => env) lenv := by
  cases x with
  | c c =>
    refine ⟨.env env.length,(by simp),(fun b i h => by cases h),fun m h => h,Tok.no (ofLV_ne c),fun w' lh' φ' hp fr hs => ⟨E.len,fun i v l hv hl => ⟨(E.get i v l hv hl).1.mono hp fr,(E.get i v l hv hl).2.mono ⟨φ,(E.get i v l hv hl).1⟩ fr (hs i fun e => by have := lt_of_getElem? (l := env) hv; injection e with e; omega)⟩⟩⟩
  | t k =>
    refine ⟨.env k,(by simp),(fun b i h => by cases h),fun m h => h,E.tokx k,fun w' lh' φ' hp fr hs => ⟨by simp [E.len],fun i v l hv hl => ?_⟩⟩
    rw [List.getElem?_set] at hv
    split at hv
    · rename_i e
      subst e
      split at hv
      · cases hv
        refine ⟨?_,Tok.no (sh_ne _)⟩
        obtain ⟨v0,hv0⟩ := getElem?_lists E.len.symm hl
        rw [List.getD_eq_getElem?_getD,hv0]
        exact ((E.get k v0 l hv0 hl).1.mono hp fr).sh
      · cases hv
    · rename_i e
      exact ⟨(E.get i v l hv hl).1.mono hp fr,(E.get i v l hv hl).2.mono ⟨φ,(E.get i v l hv hl).1⟩ fr (hs i fun x => e (by injection x))⟩

theorem strip_append (ap : Bool) (es bytes : Nat) (x y : X) : strip (.append ap es bytes x y) env = match x with | .t n => env.set n (env.getD n .undef).sh | .c _ => env := by
  cases x <;> rfl

/-- The longer list. -/
theorem grown {es : Nat} {rows new : List (List VV)} {c1 c2 : List LV} {X : Heap} {len k : Nat} (h1 : RowsAt w φ lh es rows c1) (h2 : RowsAt w φ lh es new c2) (hn : ∀ b,lh.length ≤ b → w b = none) (hX : X.length = lh.length) (hk : ∀ b,b < lh.length → w b = none ∨ w b = some .ext → X[b]? = lh[b]?) (hl : len + k = rows.length + new.length) (hne : new ≠ []) :
    let w' := own1 w (lh.length + 1) (.env d)
    let lh' := X ++ grownE true X.length (len + k) es (c1 ++ c2)
    Fr w lh w' lh' ∧ (∀ b,lh'.length ≤ b → w' b = none) ∧ RV w' φ lh' (.list .o (rows ++ new)) (.slice X.length 0 (len + k) es false) ∧ Tok w' lh' (.env d) (.list .o (rows ++ new)) (.slice X.length 0 (len + k) es false) := by
  intro w' lh'
  have hlen : lh'.length = lh.length + 2 := by simp [lh',grownE,hX]
  have fr : Fr w lh w' lh' := ⟨by omega,fun b hb hw => ⟨by simp only [w',own1]; rw [if_neg (by omega)]; exact hw,by
    simp only [lh']; rw [List.getElem?_append_left (by omega)]; exact hk b hb (.inl hw)⟩,fun b hb hw => ⟨by simp only [w',own1]; rw [if_neg (by omega)]; exact hw,by
    simp only [lh']; rw [List.getElem?_append_left (by omega)]; exact hk b hb (.inr hw)⟩⟩
  have e0 : lh'[X.length]? = some (.cells false (c1 ++ c2)) := by
    simp [lh',grownE]
  have e1 : lh'[X.length + 1]? = some (.tok X.length ((len + k) * es)) := by
    simp only [lh',grownE,if_true]
    rw [List.getElem?_append_right (by omega)]; simp
  have hw0 : w' X.length = none := by
    simp only [w',own1]; rw [if_neg (by omega)]; exact hn _ (by omega)
  have hat := (h1.append h2).mono (PExt.refl φ) fr
  have hrl : (rows ++ new).length = len + k := by simp [hl]
  have hcl := hat.len
  have hv := hat.list (b := X.length) (off := 0) (m := .o) (full := false) (rw := false) hw0 e0 (Nat.zero_le _) (by rw [List.drop_zero,List.take_of_length_le (by omega)]) (fun h => by cases h)
  rw [hrl] at hv
  refine ⟨fr,fun b hb => ?_,hv,fun r hr => .inr (.inr ⟨X.length,0,len + k,es,_,rfl,e0,by rw [e1,Nat.zero_add],by simp only [w',own1]; rw [if_pos (by omega)],?_⟩)⟩
  · simp only [w',own1]; rw [if_neg (by omega)]; exact hn b (by omega)
  · injection hr with _ hr
    subst hr
    intro h
    exact hne (List.append_eq_nil_iff.1 h).2

theorem sim_append {ap : Bool} {es bytes : Nat} {x y : X} (H : HS lo w φ vh lh) (E : ES w φ lh env lenv) (hE : opV cf lo (.append ap es bytes x y) env vh = some (v,vh')) : OpRes lcf lo w φ env lenv lh (.append ap es bytes x y) d v vh' := by
  simp only [opV,appendV] at hE
  split at hE
  case h_1 => cases hE
  rename_i new hnew
  obtain ⟨c2,hsrc,h2⟩ := rows_src H (E.x y) hnew
  obtain ⟨o1,hoe,ho1,ho2,ht,hstr⟩ := E.took H.new x
  have hxr := E.x x
  cases ap with
  | true =>
    simp only at hE
    split at hE
    case h_2 => cases hE
    rename_i m rows hx
    split at hE
    case isFalse => cases hE
    rename_i hc
    obtain ⟨hm,hall,hbd⟩ := hc
    simp only [Option.some.injEq,Prod.mk.injEq] at hE
    obtain ⟨rfl,rfl⟩ := hE
    rw [hx] at hxr ht
    generalize hl : x.ev lenv = l at hxr ht
    by_cases hn0 : new = []
    · -- nothing is appended
      subst hn0
      have hop : opE lcf 0 (.append true es bytes x y) lenv lh = some (l,lh) := by
        have hsrc' : srcOf es lh (y.ev lenv) = some (c2,0) := by simpa using hsrc
        simp only [opE,appendE,hsrc',hl]
        generalize hr0 : rows = r0 at hxr ht
        cases hxr with
        | nil => simp
        | list0 _ n off es' full hmf =>
          have hf : full = true := by
            rcases LMode.rec (motive := fun m => m ≠ .s → m = .f ∨ m = .o) (fun h => absurd rfl h) (fun _ => .inl rfl) (fun _ => .inr rfl) m hm with h | h
            · exact hmf h
            · subst h
              rcases ht [] rfl with h | ⟨_,_,_,_,h⟩ | ⟨_,_,_,_,_,h,_,_,_,h5⟩
              · cases h
              · injection h
              · exact absurd rfl h5
          simp [hf]
        | @list _ _ b off es' full rw' lcs hw hb hle hmf hrr hh =>
          by_cases h0 : rows.length = 0
          · have hrn := List.length_eq_zero_iff.1 h0
            have hf : full = true := by
              rcases LMode.rec (motive := fun m => m ≠ .s → m = .f ∨ m = .o) (fun h => absurd rfl h) (fun _ => .inl rfl) (fun _ => .inr rfl) m hm with h | h
              · exact hmf h
              · subst h
                rcases ht _ rfl with h | ⟨_,_,_,_,h⟩ | ⟨_,_,_,_,_,h,_,_,_,h5⟩
                · cases h
                · injection h
                · exact absurd (hr0.symm.trans hrn) h5
            subst hr0
            simp [h0,hf]
          · have hat : RowsAt w φ lh es' rows ((lcs.drop off).take (rows.length * es')) := by
              subst hr0
              exact (list_at (RV.list hw hb hle hmf hrr hh) (fun e => h0 (by rw [e]; rfl))).2.2.2.choose_spec.choose_spec.2.2 |> fun h => by
                obtain ⟨_,_,_,rw2,lcs2,q1,q2,q3⟩ := list_at (RV.list (m := m) hw hb hle hmf hrr hh) (fun e => h0 (by rw [e]; rfl))
                rw [hb] at q1; cases q1; exact q3
            have hee := rows_es hat (fun e => h0 (by rw [e]; rfl)) (by simpa using hall)
            subst hr0
            simp [h0,hee]
      obtain ⟨w',fr,hk,ht',hn'⟩ := ht.move (o2 := .env d) H.new hoe
      refine ⟨l,lh,w',φ,hop,fr,PExt.refl _,H.mono fr (fun m => Same.of_keep hk (ho2 m)) hn',?_,?_,?_⟩
      · rw [strip_append]; exact hstr w' lh φ (PExt.refl _) fr fun i hi => Same.of_keep hk fun e => hi e
      · rw [List.append_nil]
        refine (RV.mono ?_ (PExt.refl _) fr)
        cases hxr with
        | nil => exact .nil _
        | list0 => exact .list0 _ _ _ _ _ (fun h => by cases h)
        | list hw hb hle hmf hrr hh => exact .list hw hb hle (fun h => by cases h) hrr hh
      · rw [List.append_nil]
        intro r hr
        cases m with
        | s => exact absurd rfl hm
        | o => exact ht' r hr
        | f =>
          cases hxr with
          | nil => exact .inl rfl
          | list0 _ n off es' full hmf => rw [hmf rfl]; exact .inr (.inl ⟨_,_,_,_,rfl⟩)
          | list hw hb hle hmf hrr hh => rw [hmf rfl]; exact .inr (.inl ⟨_,_,_,_,rfl⟩)
    · have hb := hbd.resolve_left hn0
      have hk0 : new.length ≠ 0 := fun e => hn0 (List.length_eq_zero_iff.1 e)
      -- the last step,for any of the heaps
      have fin : ∀ (rows0 : List (List VV)) (c1 : List LV) (X : Heap) (len : Nat),rows = rows0 → RowsAt w φ lh es rows0 c1 → X.length = lh.length → (∀ b,b < lh.length → w b = none ∨ w b = some .ext → X[b]? = lh[b]?) → (∀ b o,b < lh.length → w b = some o → o ≠ o1 → X[b]? = lh[b]?) → len = rows0.length →
          opE lcf 0 (.append true es bytes x y) lenv lh = some (.slice lh.length 0 (len + new.length) es false,X ++ grownE true lh.length (len + new.length) es (c1 ++ c2)) → OpRes lcf lo w φ env lenv lh (.append true es bytes x y) d (.list .o (rows ++ new)) vh := by
        intro rows0 c1 X len hrows h1 hX hk hko hlen hop
        subst hrows
        obtain ⟨fr,hnew',hrv,htok⟩ := grown (d := d) h1 h2 H.new hX hk (len := len) (k := new.length) (by rw [hlen]) hn0
        rw [hX] at fr hnew' hrv htok
        have same : ∀ P : Owner → Prop,¬ P o1 → Same P w lh (own1 w (lh.length + 1) (.env d)) (X ++ grownE true lh.length (len + new.length) es (c1 ++ c2)) := fun P hp b o hb hw ho =>
          ⟨by simp only [own1]; rw [if_neg (by omega)]; exact hw,by rw [List.getElem?_append_left (by omega)]; exact hko b o hb hw (fun e => hp (e ▸ ho))⟩
        refine ⟨_,_,_,φ,hop,fr,PExt.refl _,H.mono fr (fun m => same _ (ho2 m)) hnew',?_,hrv,htok⟩
        rw [strip_append]
        exact hstr _ _ φ (PExt.refl _) fr fun i hi => same _ hi
      have hnil : rows = [] → (l = .nilslice ∨ ∃ n off es',l = .slice n off 0 es' true) → OpRes lcf lo w φ env lenv lh (.append true es bytes x y) d (.list .o (rows ++ new)) vh := by
        intro hr hll
        refine fin [] [] lh 0 hr .nil rfl (fun _ _ _ => rfl) (fun _ _ _ _ _ => rfl) rfl ?_
        rw [hr] at hb
        simp only [List.length_nil,Nat.zero_add] at hb
        rcases hll with rfl | ⟨n,off,es',rfl⟩
        · simp only [opE,appendE,hsrc,hl,if_neg hk0,if_pos hb,Nat.zero_add,List.nil_append]
        · simp only [opE,appendE,hsrc,hl,if_neg hk0,if_pos hb,Nat.zero_add,List.nil_append]
          rw [if_pos ⟨trivial,trivial⟩]
      have hfull : ∀ (n off es' : Nat) (full : Bool),l = .slice n off 0 es' full → rows = [] → (m = .f → full = true) → full = true := by
        intro n off es' full hll hr hmf
        cases m with
        | s => exact absurd rfl hm
        | f => exact hmf rfl
        | o =>
          subst hll
          rcases ht rows rfl with h | ⟨_,_,_,_,h⟩ | ⟨_,_,_,_,_,h,_,_,_,h5⟩
          · cases h
          · injection h
          · exact absurd hr h5
      by_cases hr0 : rows = []
      · refine hnil hr0 ?_
        have hcase : l = .nilslice ∨ ∃ n off es' full,l = .slice n off 0 es' full ∧ (m = .f → full = true) := by
          rw [hr0] at hxr
          generalize hr1 : ([] : List (List VV)) = r1 at hxr
          cases hxr with
          | nil => exact .inl rfl
          | list0 _ n off es' full hmf => exact .inr ⟨n,off,es',full,rfl,hmf⟩
          | list hw hb hl' hmf => subst hr1; exact .inr ⟨_,_,_,_,rfl,hmf⟩
        rcases hcase with h | ⟨n,off,es',full,h,hmf⟩
        · exact .inl h
        · exact .inr ⟨n,off,es',by rw [h,hfull n off es' full h hr0 hmf]⟩
      · have hl' : ∃ n off len es' full,l = .slice n off len es' full := by
          cases hxr with
          | nil => exact absurd rfl hr0
          | list0 => exact absurd rfl hr0
          | list => exact ⟨_,_,_,_,_,rfl⟩
        obtain ⟨n,off,len,es',full,rfl⟩ := hl'
        obtain ⟨h3,h4,h5,rw',lcs,h6,h7,h8⟩ := list_at hxr hr0
        have := rows_es h8 hr0 hall
        subst this
        have hlen0 : len ≠ 0 := by rw [h3]; exact fun e => hr0 (List.length_eq_zero_iff.1 e)
        rw [← h3] at hb
        have hop0 : ∀ r,(if full = true then some (LV.slice lh.length 0 (len + new.length) es' false,lh ++ grownE true lh.length (len + new.length) es' ((lcs.drop off).take (len * es') ++ c2))
            else match lh[n + 1]? with
              | some (.tok m u) => if m = n ∧ u = off + len * es' ∧ 0 ≤ n + 1 ∧ rw' = false then some (.slice lh.length 0 (len + new.length) es' false,lh.set (n + 1) .dead ++ grownE true lh.length (len + new.length) es' ((lcs.drop off).take (len * es') ++ c2)) else none
              | _ => none) = some r → opE lcf 0 (.append true es' bytes x y) lenv lh = some r := by
          intro r hr
          simp only [opE,appendE,hsrc,hl,h6,if_neg hk0,if_pos hb,if_pos h7,if_true,ne_eq,not_true_eq_false,if_false]
          rw [if_neg (fun h => hlen0 h.1)]
          exact hr
        cases full with
        | true =>
          exact fin rows _ lh len rfl h8 rfl (fun _ _ _ => rfl) (fun _ _ _ _ _ => rfl) h3 (hop0 _ (by rw [if_pos rfl]))
        | false =>
          have hmo : m = .o := by
            cases m with
            | s => exact absurd rfl hm
            | f => exact absurd (h5 rfl) (by simp)
            | o => rfl
          subst hmo
          rcases ht rows rfl with h | ⟨_,_,_,_,h⟩ | ⟨n',off',len',es2,lcs',h,q1,q2,q3,q4⟩
          · cases h
          · injection h with _ _ _ _ h; cases h
          · injection h with e1 e2 e3 e4
            subst e1; subst e2; subst e3; subst e4
            rw [h6] at q1; cases q1
            refine fin rows _ (lh.set (n + 1) .dead) len rfl h8 (by simp) (fun b hb' hw => ?_) (fun b o hb' hw ho => ?_) h3 (hop0 _ ?_)
            · rw [List.getElem?_set_ne]; rintro rfl; rw [q3] at hw; rcases hw with hw | hw <;> cases hw; exact hoe rfl
            · rw [List.getElem?_set_ne]; rintro rfl; rw [q3] at hw; cases hw; exact ho rfl
            · rw [if_neg (by simp),q2]
              simp only
              rw [if_pos ⟨trivial,trivial,Nat.zero_le _,trivial⟩]
  | false =>
    simp only at hE
    split at hE
    · rename_i rows hx
      split at hE
      case isFalse => cases hE
      rename_i hc
      obtain ⟨hall,hn0,hb⟩ := hc
      have hk0 : new.length ≠ 0 := fun e => hn0 (List.length_eq_zero_iff.1 e)
      simp only [Option.some.injEq,Prod.mk.injEq] at hE
      obtain ⟨rfl,rfl⟩ := hE
      rw [hx] at hxr
      generalize hl : x.ev lenv = l at hxr
      have key : ∃ c1,RowsAt w φ lh es rows c1 ∧ opE lcf 0 (.append false es bytes x y) lenv lh = some (.slice lh.length 0 (rows.length + new.length) es false,lh ++ [.cells true (c1 ++ c2)]) := by
        by_cases hr0 : rows = []
        · subst hr0
          simp only [List.length_nil,Nat.zero_add] at hb
          refine ⟨[],.nil,?_⟩
          have hcase : l = .nilslice ∨ ∃ n off es',l = .slice n off 0 es' true := by
            generalize hr1 : ([] : List (List VV)) = r1 at hxr
            cases hxr with
            | nil => exact .inl rfl
            | list0 _ n off es' full hmf => exact .inr ⟨n,off,es',by rw [hmf rfl]⟩
            | list hw hb hl' hmf => subst hr1; exact .inr ⟨_,_,_,by rw [hmf rfl]; rfl⟩
          rcases hcase with rfl | ⟨n,off,es',rfl⟩
          · simp only [opE,appendE,hsrc,hl,if_neg hk0,if_pos hb,List.length_nil,Nat.zero_add,List.nil_append,grownE]; rfl
          · simp only [opE,appendE,hsrc,hl,if_neg hk0,if_pos hb,List.length_nil,Nat.zero_add,List.nil_append,grownE]
            rw [if_pos ⟨trivial,trivial⟩]; rfl
        · have hl' : ∃ n off len es' full,l = .slice n off len es' full := by
            cases hxr with
            | nil => exact absurd rfl hr0
            | list0 => exact absurd rfl hr0
            | list => exact ⟨_,_,_,_,_,rfl⟩
          obtain ⟨n,off,len,es',full,rfl⟩ := hl'
          obtain ⟨h3,h4,h5,rw',lcs,h6,h7,h8⟩ := list_at hxr hr0
          have := rows_es h8 hr0 hall
          subst this
          have hlen0 : len ≠ 0 := by rw [h3]; exact fun e => hr0 (List.length_eq_zero_iff.1 e)
          rw [← h3] at hb
          refine ⟨_,h8,?_⟩
          have hf := h5 rfl
          simp only [opE,appendE,hsrc,hl,h6,if_neg hk0,if_pos hb,if_pos h7,if_true,ne_eq,not_true_eq_false,if_false]
          rw [if_neg (fun h => hlen0 h.1)]
          simp only [if_false,hf,if_true,grownE,h3]
          rfl
      obtain ⟨c1,h1,hop⟩ := key
      have hE2 : ES w φ lh (strip (.append false es bytes x y) env) lenv := by
        rw [strip_append]; exact hstr w lh φ (PExt.refl _) (Fr.refl _ _) fun i _ b o _ h _ => ⟨h,rfl⟩
      have hr := h1.flat.append h2.flat
      have fr := own1_fr (w := w) (lh := lh) (o := .blk vh.length) (x := [.cells true (c1 ++ c2)]) (Nat.le_refl _)
      have hr' := hr.mono (PExt.app φ [lh.length]) fr
      refine ⟨_,_,own1 w lh.length (.blk vh.length),φ ++ [lh.length],hop,fr,PExt.app _ _,H.push fr (fun m _ => own1_same (Nat.le_refl _)) ⟨true,_,List.getElem?_concat_length,ow_rvs hr',ow_low (by rw [lowL_append,h1.flat_free,h2.flat_free]; rfl),?_⟩ (fun b hb => ?_),hE2.mono (PExt.app _ _) fr fun i => own1_same (Nat.le_refl _),.hs (by rw [← H.len]; exact List.getElem?_concat_length),Tok.no fun r hr => by cases hr⟩
      · rw [if_pos ⟨rfl,H.lol⟩]
        exact ⟨rfl,by simp [own1],ow_tok hr'⟩
      · simp only [List.length_append,List.length_singleton] at hb
        unfold own1; rw [if_neg (by omega)]; exact H.new b (by omega)
    · rename_i n off len es' hx
      split at hE
      case isFalse => cases hE
      rename_i hc
      obtain ⟨hes,hlo,hn0,hb⟩ := hc
      subst hes
      have hk0 : new.length ≠ 0 := fun e => hn0 (List.length_eq_zero_iff.1 e)
      split at hE
      case h_2 => cases hE
      rename_i cs hcs
      split at hE
      case isFalse => cases hE
      rename_i hle
      simp only [Option.some.injEq,Prod.mk.injEq] at hE
      obtain ⟨rfl,rfl⟩ := hE
      rw [hx] at hxr
      generalize hl : x.ev lenv = l at hxr
      cases hxr with
      | @hs _ _ _ _ pb full hp =>
      obtain ⟨lrw,lcs,g1,g2,g3,g4⟩ := H.cells hcs hp
      rw [if_pos ⟨rfl,hlo⟩] at g4
      obtain ⟨rfl,g5,g6⟩ := g4
      have hlcs := g2.1
      have key : ∃ X : Heap,(X = lh ∨ X = lh.set pb .dead) ∧ opE lcf 0 (.append false es' bytes x y) lenv lh = some (.slice lh.length 0 (len + new.length) es' false,X ++ [.cells true ((lcs.drop off).take (len * es') ++ c2)]) := by
        simp only [opE,appendE,hsrc,hl,g1,if_neg hk0,ne_eq,not_true_eq_false,if_false,Bool.false_eq_true]
        by_cases hlf : len = 0 ∧ full = true
        · obtain ⟨rfl,rfl⟩ := hlf
          rw [if_pos ⟨rfl,rfl⟩,if_pos (by simpa using hb)]
          exact ⟨lh,.inl rfl,by simp [grownE]⟩
        · rw [if_neg hlf,if_pos hb,if_pos (by omega)]
          by_cases hf : full = true
          · rw [if_pos hf]
            exact ⟨lh,.inl rfl,by simp [grownE]⟩
          · rw [if_neg hf,if_pos ⟨trivial,Nat.zero_le _⟩]
            exact ⟨lh.set pb .dead,.inr rfl,by simp [grownE]⟩
      obtain ⟨X,hX,hop⟩ := key
      have hXl : X.length = lh.length := by rcases hX with rfl | rfl <;> simp
      have hXk : ∀ b,b ≠ pb → X[b]? = lh[b]? := by
        intro b hb
        rcases hX with rfl | rfl
        · rfl
        · rw [List.getElem?_set_ne (fun e => hb e.symm)]
      have frX : Fr w lh w X := ⟨by omega,fun b _ hw => ⟨hw,hXk b (by rintro rfl; rw [g5] at hw; cases hw)⟩,fun b _ hw => ⟨hw,hXk b (by rintro rfl; rw [g5] at hw; cases hw)⟩⟩
      have sameX : ∀ P : Owner → Prop,¬ P (.blk n) → Same P w lh w X := fun P hp2 b o _ hw ho => ⟨hw,hXk b (by rintro rfl; rw [g5] at hw; cases hw; exact hp2 ho)⟩
      have H1 : HS lo w φ (vh.set n .dead) X := H.upd frX (fun m hm => sameX _ (fun h => hm h.symm)) (fun _ _ => True.intro) (fun b hb => H.new b (by omega))
      have hE2 : ES w φ X (strip (.append false es' bytes x y) env) lenv := by
        rw [strip_append]; exact hstr w X φ (PExt.refl _) frX fun i _ => sameX _ (fun h => by cases h)
      have hr := (((g2.drop off).take (len * es')).append h2.flat).mono (PExt.refl φ) frX
      have fr := own1_fr (w := w) (lh := X) (o := .blk vh.length) (x := [.cells true ((lcs.drop off).take (len * es') ++ c2)]) (Nat.le_refl _)
      have hr' := hr.mono (PExt.app φ [X.length]) fr
      have hvl : (vh.set n VBlk.dead).length = vh.length := by simp
      have hph := H1.push (b' := .cells true (((cs.drop off).take (len * es') ++ new.flatten).map fun c => c.sh.ow)) (pb := X.length) fr (fun m _ => own1_same (Nat.le_refl _)) ⟨true,_,List.getElem?_concat_length,ow_rvs hr',ow_low ?_,?_⟩ (fun b hb => ?_)
      · refine ⟨_,_,own1 w X.length (.blk vh.length),φ ++ [X.length],hop,frX.trans fr,PExt.app _ _,hph,hE2.mono (PExt.app _ _) fr fun i => own1_same (Nat.le_refl _),?_,Tok.no fun r hr => by cases hr⟩
        rw [← hXl]
        exact .hs (by rw [← H.len]; exact List.getElem?_concat_length)
      · rw [hvl,lowL_append,h2.flat_free,Bool.and_true]
        have := lt_of_getElem? hcs
        exact lowL_mono (show n + 1 ≤ vh.length + 1 by omega) _ (lowL_of fun v hv => lowL_mem g3 v (List.mem_of_mem_drop (List.mem_of_mem_take hv)))
      · rw [hvl,if_pos ⟨rfl,H.lol⟩]
        exact ⟨rfl,by simp [own1],ow_tok hr'⟩
      · simp only [List.length_append,List.length_singleton] at hb
        unfold own1; rw [if_neg (by omega)]; exact H.new b (by omega)
    · cases hE
end
end Vg
