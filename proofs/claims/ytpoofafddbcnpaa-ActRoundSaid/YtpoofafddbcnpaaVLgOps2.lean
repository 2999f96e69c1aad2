/- Operations,continued: numbers,strings,equality,addresses,slices. -/
import Derived.Test.YtpoofafddbcnpaaVLgOps
import Derived.Laws.StructEq
import Derived.Laws.Strings
import Derived.Laws.Slices
namespace Lg
open Go Go.RowKit
set_option linter.unusedSimpArgs false
set_option linter.unusedVariables false
section
variable {P : Program} {m : Bool} {w0 : Ini m} {ρ : List Place} {h h' : Heap} {w : World} {a : Act} {env : Env} {cf : CallF} {lo : Nat} {l : LV}

theorem eqGuard_int (op : BinOp) (t : TypeId) (x y : Operand) (k k' : IntKind) (m n : Int) (w : World) : (eqGuard op t x y (.int k m) (.int k' n)).run P w = .ok () w := by
  unfold eqGuard; cases op <;> rfl
theorem eqGuard_str (op : BinOp) (t : TypeId) (x y : Operand) (m n : ByteArray) (w : World) : (eqGuard op t x y (.string m) (.string n)).run P w = .ok () w := by
  unfold eqGuard; cases op <;> rfl

theorem run_bin {op : BinOp} {t : TypeId} {x y : Operand} {v u : Value} {lx ly : LV} (hx : VR ρ v lx) (hy : VR ρ u ly) (hE : binE op lx ly = some l) (w : World) :
    ∃ r,(do eqGuard op t x y v u; Go.binOp op t v u : Sem Value).run P w = .ok r w ∧ VR ρ r l := by
  unfold binE at hE
  split at hE
  · rename_i k m k' n
    obtain rfl := hx.int_inv
    obtain rfl := hy.int_inv
    simp only [Sem.run_bind,eqGuard_int,Result.andThen_ok]
    cases op <;> simp only [] at hE <;> (repeat' split at hE) <;> first
      | (cases hE; done)
      | (cases hE
         refine ⟨_,?_,VR.int _ _⟩
         first
           | (simp_all [Go.binOp,Op.intArith,Op.intDiv,Op.shift,Op.intBits]; done)
           | (rename_i hb; simp [Go.binOp,Op.shift,Int.not_lt.2 hb]))
      | (cases hE
         refine ⟨_,?_,VR.bool _⟩
         simp_all [Go.binOp,Op.intCmp])
  · rename_i s1 s2
    obtain ⟨b1,rfl,rfl⟩ := hx.str_inv
    obtain ⟨b2,rfl,rfl⟩ := hy.str_inv
    simp only [Sem.run_bind,eqGuard_str,Result.andThen_ok]
    cases op <;> simp only [] at hE <;> (repeat' split at hE) <;> first
      | (cases hE; done)
      | (cases hE
         refine ⟨.bool _,?_,VR.bool _⟩
         simp only [Go.binOp,Op.stringOp,ByteArray.toList_eq]
         rfl)
      | (rename_i hb
         cases hE
         refine ⟨.string (b1 ++ b2),?_,?_⟩
         · simp only [Go.binOp,Op.stringOp]
           rw [if_neg]
           · rfl
           · simp only [Array.length_toList] at hb
             have e1 : b1.size = b1.data.size := rfl
             have e2 : b2.size = b2.data.size := rfl
             have : IntKind.i64.max = 9223372036854775807 := by decide
             rw [this,e1,e2]
             omega
         · have := VR.str (ρ := ρ) (b1 ++ b2)
           simpa using this)
  · cases hE

theorem sim_bin {op : BinOp} {t : TypeId} {x y : Operand} {lx ly : X} (hx : preX x = some lx) (hy : preX y = some ly) (E : ER ρ a env) (R : Rep w0 ρ h w)
    (hE : opE cf lo (.bin op lx ly) env h = some (l,h')) : Sim P (do pure (.value (← (do eqGuard op t x y (a.eval x) (a.eval y); Go.binOp op t (a.eval x) (a.eval y))))) w0 ρ w l h' := by
  simp only [opE] at hE
  split at hE
  · rename_i v hv
    simp only [Option.some.injEq,Prod.mk.injEq] at hE
    obtain ⟨rfl,rfl⟩ := hE
    obtain ⟨r,hr,hv'⟩ := run_bin (P := P) (t := t) (x := x) (y := y) (preX_vr E hx) (preX_vr E hy) hv w
    exact sim_vals R hv' hr
  · cases hE

/-! ### equality -/

theorem eqGuard_other (op : BinOp) (t : TypeId) (x y : Operand) (v u : Value) (w : World) (h1 : ∀ cs ds,¬ (v = .agg cs ∧ u = .agg ds)) (h2 : ¬ (v = .nilIface ∧ u = .nilIface)) :
    (eqGuard op t x y v u).run P w = .ok () w := by
  unfold eqGuard
  cases op <;> first | rfl | skip
  all_goals
    simp only []
    cases v <;> cases u <;> first
      | rfl
      | exact absurd ⟨rfl,rfl⟩ h2
      | exact absurd ⟨rfl,rfl⟩ (h1 _ _)

theorem eqGuard_nil (op : BinOp) (t : TypeId) (x y : Operand) (w : World) (hc : isConstB x = true ∨ isConstB y = true) : (eqGuard op t x y .nilIface .nilIface).run P w = .ok () w := by
  unfold eqGuard
  cases op <;> first | rfl | skip
  all_goals
    rcases hc with hc | hc
    · cases x <;> first | rfl | (simp [isConstB] at hc; done)
    · cases x <;> cases y <;> first | rfl | (simp [isConstB] at hc; done)

theorem eqL_append : ∀ (K J : List CK) (A C B D : List LV),A.length = K.length → C.length = K.length → eqL (K ++ J) (A ++ B) (C ++ D) = match eqL K A C with
    | some true => eqL J B D
    | r => r
  | [],J,[],[],B,D,_,_ => by simp [eqL]
  | [],_,_ :: _,_,_,_,h,_ => by simp at h
  | [],_,_,_ :: _,_,_,_,h => by simp at h
  | _ :: _,_,[],_,_,_,h,_ => by simp at h
  | _ :: _,_,_,[],_,_,_,h => by simp at h
  | q :: K,J,a :: A,c :: C,B,D,h1,h2 => by
    have ih := eqL_append K J A C B D (by simpa using h1) (by simpa using h2)
    simp only [List.cons_append]
    cases q <;> cases a <;> cases c <;> simp only [eqL] <;> (repeat' split) <;> first
      | rfl
      | exact ih
      | simp_all

theorem VRs.extract {ρ : List Place} {xs : Array Value} {lx : List LV} (h : VRs ρ xs.toList lx) (off n : Nat) : VRs ρ (xs.extract off (off + n)).toList ((lx.drop off).take n) := by
  have := (h.drop off).take n
  simpa [List.extract_eq_take_drop] using this

/-- What is said of a type by 'flatEq': its parts are taken and compared cell by cell. -/
def FlatAt (P : Program) (t : TypeId) (ks : List CK) (m : Nat) : Prop :=
  ∀ (ρ : List Place) (xs ys : Array Value) (lx ly : List LV) (off : Nat) (b : Bool) (w : World),VRs ρ xs.toList lx → VRs ρ ys.toList ly → off + ks.length ≤ lx.length → off + ks.length ≤ ly.length →
      eqL ks ((lx.drop off).take ks.length) ((ly.drop off).take ks.length) = some b →
      ∃ u v,(part t xs off).run P w = .ok u w ∧ (part t ys off).run P w = .ok v w ∧ (Op.equalIn m t u v).run P w = .ok b w

theorem flat_fields (P : Program) (d m : Nat) (ih : ∀ (t : TypeId) (ks : List CK),flatEq P d t = some ks → sizeT P t = some ks.length → FlatAt P t ks m) :
    ∀ (fs : List Field) (k0 ks : List CK),fs.foldlM (init := k0) (fun (ks : List CK) (f : Field) =>
        if f.name ≠ "_" ∧ f.offset = ks.length then
          match flatEq P d f.type,sizeT P f.type with
          | some k,some s => if k.length = s then some (ks ++ k) else none
          | _,_ => none
        else none) = some ks → ∃ k1,ks = k0 ++ k1 ∧ ∀ (ρ : List Place) (xs ys : Array Value) (lx ly : List LV) (b : Bool) (w : World),VRs ρ xs.toList lx → VRs ρ ys.toList ly →
          k0.length + k1.length ≤ lx.length → k0.length + k1.length ≤ ly.length → eqL k1 ((lx.drop k0.length).take k1.length) ((ly.drop k0.length).take k1.length) = some b → (Op.eqFields m xs ys fs).run P w = .ok b w := by
  intro fs
  induction fs with
  | nil =>
    intro k0 ks h
    simp at h
    subst h
    refine ⟨[],by simp,?_⟩
    intro ρ xs ys lx ly b w hx hy h1 h2 he
    simp [eqL] at he
    simp [Op.eqFields,he]
  | cons f fs ihf =>
    intro k0 ks h
    rw [List.foldlM_cons] at h
    simp only [Option.bind_eq_bind,Option.bind_eq_some_iff] at h
    obtain ⟨k2,h2,h3⟩ := h
    split at h2
    case isFalse => cases h2
    rename_i hc
    obtain ⟨hname,hoff⟩ := hc
    split at h2
    case h_2 => cases h2
    rename_i k s hk hs
    split at h2
    case isFalse => cases h2
    rename_i hks
    cases h2
    subst hks
    obtain ⟨k1,rfl,hrest⟩ := ihf _ _ h3
    refine ⟨k ++ k1,by simp,?_⟩
    intro ρ xs ys lx ly b w hx hy hl1 hl2 he
    simp only [List.length_append] at hl1 hl2 he hrest
    have cut : ∀ (z : List LV),k0.length + (k.length + k1.length) ≤ z.length → (z.drop k0.length).take (k.length + k1.length) = (z.drop k0.length).take k.length ++ (z.drop (k0.length + k.length)).take k1.length := by
      intro z hz
      rw [List.take_add,List.drop_drop]
    rw [cut lx hl1,cut ly hl2,eqL_append k k1 _ _ _ _ (by simp; omega) (by simp; omega)] at he
    have one := ih f.type k hk hs
    cases hb : eqL k ((lx.drop k0.length).take k.length) ((ly.drop k0.length).take k.length) with
    | none => rw [hb] at he; simp at he
    | some b0 =>
      rw [hb] at he
      obtain ⟨u,v,hu,hv,hr⟩ := one ρ xs ys lx ly k0.length b0 w hx hy (by omega) (by omega) hb
      have hname' : (f.name ≠ "_") := hname
      cases b0 with
      | false =>
        cases he
        simp [Op.eqFields,hname',hoff,hu,hv,hr]
      | true =>
        have := hrest ρ xs ys lx ly b w hx hy (by omega) (by omega) he
        simp [Op.eqFields,hname',hoff,hu,hv,hr,this]

/-- The cells from a place on,compared one by one. -/
theorem flat_eq (P : Program) : ∀ (d : Nat) (t : TypeId) (ks : List CK),flatEq P d t = some ks → sizeT P t = some ks.length → ∀ (m : Nat),d ≤ m → FlatAt P t ks m := by
  intro d
  induction d with
  | zero => intro t n h; simp [flatEq] at h
  | succ d ih =>
    intro t ks hf hsz m hm ρ xs ys lx ly off b w hx hy hlx hly he
    obtain ⟨m,rfl⟩ : ∃ k,m = k + 1 := ⟨m - 1,by omega⟩
    -- one cell
    have one : ks.length = 1 → isAggT P t = some false → ∃ u v lu lv,(part t xs off).run P w = .ok u w ∧ (part t ys off).run P w = .ok v w ∧ VR ρ u lu ∧ VR ρ v lv ∧ eqL ks [lu] [lv] = some b := by
      intro hn hg
      rw [hn] at hlx hly he
      have h1 : off < lx.length := by omega
      have h2 : off < ly.length := by omega
      obtain ⟨u,hu,ru⟩ := hx.get (List.getElem?_eq_getElem h1)
      obtain ⟨v,hv,rv⟩ := hy.get (List.getElem?_eq_getElem h2)
      have hu' : xs[off]? = some u := by simpa using hu
      have hv' : ys[off]? = some v := by simpa using hv
      refine ⟨u,v,lx[off],ly[off],?_,?_,ru,rv,?_⟩
      · simp [part,run_isAgg hg,hu']
      · simp [part,run_isAgg hg,hv']
      · rw [List.drop_eq_getElem_cons h1,List.drop_eq_getElem_cons h2] at he
        exact he
    unfold flatEq at hf
    split at hf
    · rename_i hu
      cases hf
      obtain ⟨u,v,lu,lv,hu1,hv1,ru,rv,hq⟩ := one rfl (by unfold isAggT; rw [hu])
      refine ⟨u,v,hu1,hv1,?_⟩
      cases lu <;> cases lv <;> simp only [eqL] at hq <;> first | (cases hq; done) | skip
      obtain rfl := ru.bool_inv; obtain rfl := rv.bool_inv
      simp only [Op.equalIn,Sem.run_bind,run_underlying hu,Result.andThen_ok,Sem.run_pure]
      split at hq <;> simp_all
    · rename_i hu
      cases hf
      obtain ⟨u,v,lu,lv,hu1,hv1,ru,rv,hq⟩ := one rfl (by unfold isAggT; rw [hu])
      refine ⟨u,v,hu1,hv1,?_⟩
      cases lu <;> cases lv <;> simp only [eqL] at hq <;> first | (cases hq; done) | skip
      obtain rfl := ru.int_inv; obtain rfl := rv.int_inv
      split at hq
      · rename_i hk
        subst hk
        simp only [Op.equalIn,Sem.run_bind,run_underlying hu,Result.andThen_ok,if_true,Sem.run_pure]
        split at hq <;> simp_all
      · cases hq
    · rename_i hu
      cases hf
      obtain ⟨u,v,lu,lv,hu1,hv1,ru,rv,hq⟩ := one rfl (by unfold isAggT; rw [hu])
      refine ⟨u,v,hu1,hv1,?_⟩
      cases lu <;> cases lv <;> simp only [eqL] at hq <;> first | (cases hq; done) | skip
      obtain ⟨s,rfl,rfl⟩ := ru.str_inv; obtain ⟨s',rfl,rfl⟩ := rv.str_inv
      simp only [Op.equalIn,Sem.run_bind,run_underlying hu,Result.andThen_ok,Sem.run_pure,beq_toListBytes,ByteArray.toList_eq]
      split at hq <;> simp_all
    · rename_i fs hu
      split at hf
      · cases hf
      rename_i hst
      have hst' : P.stoodInHeld t = false := by simpa using hst
      have hfo : P.fieldsOf t = fs := by unfold Program.fieldsOf; rw [hu]
      obtain ⟨k1,e1,hk⟩ := flat_fields P d m (fun t ks h1 h2 => ih t ks h1 h2 m (by omega)) fs.toList [] ks hf
      simp only [List.nil_append] at e1
      subst e1
      have hg : isAggT P t = some true := by unfold isAggT; rw [hu]
      refine ⟨.agg (xs.extract off (off + ks.length)),.agg (ys.extract off (off + ks.length)),?_,?_,?_⟩
      · simp [part,run_isAgg hg,run_size hsz]
      · simp [part,run_isAgg hg,run_size hsz]
      · rw [run_equalIn_struct w m t _ _ (by rw [hfo]; exact hu) hst',hfo]
        refine hk ρ _ _ _ _ b w (hx.extract off ks.length) (hy.extract off ks.length) (by simp; omega) (by simp; omega) ?_
        simpa [List.take_take] using he
    · cases hf

theorem run_eqv {op : BinOp} (hop : op = .eql ∨ op = .neq) {t : TypeId} {x y : Operand} {v u : Value} {lx ly : LV} {k : EK} {b : Bool} (hx : VR ρ v lx) (hy : VR ρ u ly) (hk : preEK P t x y = some k) (hE : eqE k lx ly = some b) (w : World) :
    (do eqGuard op t x y v u; Go.binOp op t v u : Sem Value).run P w = .ok (.bool (if op == .neq then !b else b)) w := by
  have two : ∀ (r : Bool),(Go.binOp .eql t v u = (do pure (.bool (← Op.equal t v u)))) → (Go.binOp .neq t v u = (do pure (.bool (!(← Op.equal t v u))))) → (eqGuard op t x y v u).run P w = .ok () w → (Op.equal t v u).run P w = .ok r w →
      (do eqGuard op t x y v u; Go.binOp op t v u : Sem Value).run P w = .ok (.bool (if op == .neq then !r else r)) w := by
    intro r h1 h2 hg he
    simp only [Sem.run_bind,hg,Result.andThen_ok]
    rcases hop with rfl | rfl
    · rw [h1]; simp [he]
    · rw [h2]; simp [he]
  have nag : ∀ (v u : Value),(∀ cs,v ≠ .agg cs) → ¬ (v = .nilIface ∧ u = .nilIface) → (eqGuard op t x y v u).run P w = .ok () w := fun v u h1 h2 =>
    eqGuard_other op t x y v u w (fun cs ds e => h1 cs e.1) h2
  unfold preEK at hk
  split at hk
  · -- a struct
    rename_i fs hu
    split at hk
    case h_2 => cases hk
    rename_i ks s hks hs
    split at hk
    case isFalse => cases hk
    rename_i hc
    obtain ⟨rfl,hg⟩ := hc
    cases hk
    cases lx <;> cases ly <;> simp only [eqE] at hE <;> first | (cases hE; done) | skip
    rename_i la lb
    split at hE
    case isFalse => cases hE
    rename_i hl
    obtain ⟨xs,rfl,rx⟩ := hx.agg_inv
    obtain ⟨ys,rfl,ry⟩ := hy.agg_inv
    have h1 : xs.size = ks.length := by rw [← hl.1]; have := rx.1; simpa using this
    have h2 : ys.size = ks.length := by rw [← hl.2]; have := ry.1; simpa using this
    obtain ⟨u,v,hu1,hv1,hr⟩ := flat_eq P 6 t ks hks hs 10000 (by omega) ρ xs ys la lb 0 b w rx ry (by omega) (by omega) (by
      simp only [List.drop_zero]
      rw [List.take_of_length_le (by omega),List.take_of_length_le (by omega)]; exact hE)
    have hg2 : isAggT P t = some true := by unfold isAggT; rw [hu]
    simp only [part,Sem.run_bind,run_isAgg hg2,run_size hs,Result.andThen_ok,if_true,Sem.run_pure,Result.ok.injEq,and_true,Nat.zero_add] at hu1 hv1
    rw [← h1] at hu1; rw [← h2] at hv1
    simp only [Array.extract_size] at hu1 hv1
    subst hu1; subst hv1
    refine two b rfl rfl (run_eqGuard_agg w op t x y xs ys hg) ?_
    exact hr
  all_goals
    first
      | (cases hk; done)
      | skip
  · rename_i hu
    cases hk
    cases lx <;> cases ly <;> simp only [eqE] at hE <;> first | (cases hE; done) | skip
    obtain rfl := hx.bool_inv; obtain rfl := hy.bool_inv
    cases hE
    exact two _ rfl rfl (nag _ _ (fun _ e => by cases e) (fun e => by cases e.1)) (by show (Op.equalIn (9999 + 1) t _ _).run P w = _; rw [Op.equalIn]; simp only [Sem.run_bind,run_underlying hu,Result.andThen_ok,Sem.run_pure]; try rfl)
  · rename_i hu
    cases hk
    cases lx <;> cases ly <;> simp only [eqE] at hE <;> first | (cases hE; done) | skip
    all_goals
      cases hx <;> cases hy <;> cases hE <;>
      exact two _ rfl rfl (nag _ _ (fun _ e => by cases e) (fun e => by cases e.1)) (by show (Op.equalIn (9999 + 1) t _ _).run P w = _; rw [Op.equalIn]; simp only [Sem.run_bind,run_underlying hu,Result.andThen_ok,Sem.run_pure]; try rfl)
  · rename_i hu
    cases hk
    cases lx <;> cases ly <;> simp only [eqE] at hE <;> first | (cases hE; done) | skip
    all_goals
      cases hx <;> cases hy <;> cases hE <;>
      exact two _ rfl rfl (nag _ _ (fun _ e => by cases e) (fun e => by cases e.1)) (by show (Op.equalIn (9999 + 1) t _ _).run P w = _; rw [Op.equalIn]; simp only [Sem.run_bind,run_underlying hu,Result.andThen_ok,Sem.run_pure]; try rfl)
  · rename_i hu
    cases hk
    cases lx <;> cases ly <;> simp only [eqE] at hE <;> first | (cases hE; done) | skip
    all_goals
      cases hx <;> cases hy <;> cases hE <;>
      exact two _ rfl rfl (nag _ _ (fun _ e => by cases e) (fun e => by cases e.1)) (by show (Op.equalIn (9999 + 1) t _ _).run P w = _; rw [Op.equalIn]; simp only [Sem.run_bind,run_underlying hu,Result.andThen_ok,Sem.run_pure]; try rfl)
  · rename_i hu
    cases hk
    cases lx <;> cases ly <;> simp only [eqE] at hE <;> first | (cases hE; done) | skip
    all_goals
      cases hx <;> cases hy <;> cases hE <;>
      exact two _ rfl rfl (nag _ _ (fun _ e => by cases e) (fun e => by cases e.1)) (by show (Op.equalIn (9999 + 1) t _ _).run P w = _; rw [Op.equalIn]; simp only [Sem.run_bind,run_underlying hu,Result.andThen_ok,Sem.run_pure]; try rfl)
  · rename_i hu
    split at hk
    case isFalse => cases hk
    rename_i hc
    cases hk
    cases lx <;> cases ly <;> simp only [eqE] at hE <;> first | (cases hE; done) | skip
    · cases hx <;> cases hy <;> cases hE
      exact two _ rfl rfl (nag _ _ (fun _ e => by cases e) (fun e => by cases e.1)) (by show (Op.equalIn (9999 + 1) t _ _).run P w = _; rw [Op.equalIn]; simp only [Sem.run_bind,run_underlying hu,Result.andThen_ok,Sem.run_pure]; try rfl)
    · cases hx <;> cases hy <;> cases hE
      exact two _ rfl rfl (nag _ _ (fun _ e => by cases e) (fun e => by cases e.2)) (by show (Op.equalIn (9999 + 1) t _ _).run P w = _; rw [Op.equalIn]; simp only [Sem.run_bind,run_underlying hu,Result.andThen_ok,Sem.run_pure]; try rfl)
    · cases hx <;> cases hy <;> cases hE
      exact two _ rfl rfl (eqGuard_nil op t x y w hc) (by show (Op.equalIn (9999 + 1) t _ _).run P w = _; rw [Op.equalIn]; simp only [Sem.run_bind,run_underlying hu,Result.andThen_ok,Sem.run_pure]; try rfl)

theorem sim_eqv {op : BinOp} (hop : op = .eql ∨ op = .neq) {t : TypeId} {x y : Operand} {lx ly : X} {k : EK} (hk : preEK P t x y = some k) (hx : preX x = some lx) (hy : preX y = some ly) (E : ER ρ a env) (R : Rep w0 ρ h w)
    (hE : opE cf lo (.eqv (op == .neq) k lx ly) env h = some (l,h')) : Sim P (do pure (.value (← (do eqGuard op t x y (a.eval x) (a.eval y); Go.binOp op t (a.eval x) (a.eval y))))) w0 ρ w l h' := by
  simp only [opE] at hE
  split at hE
  · rename_i b hb
    simp only [Option.some.injEq,Prod.mk.injEq] at hE
    obtain ⟨rfl,rfl⟩ := hE
    exact sim_vals R (VR.bool _) (run_eqv hop (preX_vr E hx) (preX_vr E hy) hk hb w)
  · cases hE

end
end Lg
