/- What ActRound calls,as contracts of the model's world. -/
import Derived.Test.YtpoofafddbcnpaaVHE
import Derived.Test.YtpoofafddbcnpaaVH9
import Derived.Test.YtpoofafddbcnpaaVK1
import Derived.Test.YtpoofafddbcnpaaVVgCalls2
namespace Vg.G3
open Go Lg Go.RowKit Go.Proofs
set_option linter.unusedSimpArgs false
set_option linter.unusedVariables false
set_option maxRecDepth 10000
set_option maxHeartbeats 2000000
attribute [local congr] bind_congr1

theorem fI_all (l : List Int) : ∀ row ∈ l.map fI,row.length = 1 ∧ row.all scal = true := fun r hr => by obtain ⟨w,_,rfl⟩ := List.mem_map.1 hr; exact ⟨rfl,rfl⟩
theorem fB_all (l : List Bool) : ∀ row ∈ l.map fB,row.length = 1 ∧ row.all scal = true := fun r hr => by obtain ⟨w,_,rfl⟩ := List.mem_map.1 hr; exact ⟨rfl,rfl⟩
/-- A value of the model that reads as a world of the works. -/
def WorldAt (w : World) (x : Value) (d : Wd) : Prop := ∃ s1 s2 s3,x = .agg #[.int .i64 d.sl,s1,s2,s3] ∧ WRows 1 w s1 (d.pl.map fI) ∧ WRows 1 w s2 (d.sn.map fB) ∧ WRows 1 w s3 (d.sp.map fI)
theorem WorldAt.mono {w w' : World} {x : Value} {d : Wd} (h : WorldAt w x d) (hb : Below w.heap.size w w') : WorldAt w' x d := by
  obtain ⟨s1,s2,s3,h1,h2,h3,h4⟩ := h
  exact ⟨s1,s2,s3,h1,h2.mono hb,h3.mono hb,h4.mono hb⟩
theorem four {P : Nat → VV → LV → Prop} {a b c d : VV} {la lb lc ld : LV} (h0 : P 0 a la) (h1 : P 1 b lb) (h2 : P 2 c lc) (h3 : P 3 d ld) : ∀ (i : Nat) (v : VV) (l : LV),[a,b,c,d][i]? = some v → [la,lb,lc,ld][i]? = some l → P i v l := by
  intro i v l hv hl
  match i with
  | 0 => cases hv; cases hl; exact h0
  | 1 => cases hv; cases hl; exact h1
  | 2 => cases hv; cases hl; exact h2
  | 3 => cases hv; cases hl; exact h3
  | i + 4 => simp at hv
theorem four' {P : Nat → Value → LV → Prop} {a b c d : Value} {la lb lc ld : LV} (h0 : P 0 a la) (h1 : P 1 b lb) (h2 : P 2 c lc) (h3 : P 3 d ld) : ∀ (i : Nat) (v : Value) (l : LV),#[a,b,c,d][i]? = some v → [la,lb,lc,ld][i]? = some l → P i v l := by
  intro i v l hv hl
  match i with
  | 0 => cases hv; cases hl; exact h0
  | 1 => cases hv; cases hl; exact h1
  | 2 => cases hv; cases hl; exact h2
  | 3 => cases hv; cases hl; exact h3
  | i + 4 => simp at hv
theorem at_world {w : World} {ρ : List Lg.Place} {h : Heap} (R : Rep (m := false) ⟨w⟩ ρ h w) (hro : ∀ (n : Nat) (b : LBlk),h[n]? = some b → b.rw = false) {x : Value} {d : Wd} (hx : WorldAt w x d) :
    ∃ ρ' h' l,Rep (m := false) ⟨w⟩ ρ' h' w ∧ (∀ (n : Nat) (b : LBlk),h'[n]? = some b → b.rw = false) ∧ Ext ρ ρ' ∧ (∃ t,h' = h ++ t) ∧ VR ρ' x l ∧ ∀ t,RV (fun _ => none) [] (h' ++ t) (.agg (fW d)) l := by
  obtain ⟨s1,s2,s3,rfl,x1,x2,x3⟩ := hx
  obtain ⟨ρ1,h1,l1,R1,ro1,e1,⟨t1,rfl⟩,v1,r1⟩ := at_rows R hro x1 (fI_all _)
  obtain ⟨ρ2,h2,l2,R2,ro2,e2,⟨t2,rfl⟩,v2,r2⟩ := at_rows R1 ro1 x2 (fB_all _)
  obtain ⟨ρ3,h3,l3,R3,ro3,e3,⟨t3,rfl⟩,v3,r3⟩ := at_rows R2 ro2 x3 (fI_all _)
  refine ⟨ρ3,_,.agg [.int .i64 d.sl,l1,l2,l3],R3,ro3,(e1.trans e2).trans e3,⟨t1 ++ (t2 ++ t3),by simp only [List.append_assoc]⟩,?_,fun t => ?_⟩
  · exact .agg _ _ rfl (four' (P := fun _ v l => VR ρ3 v l) (.int _ _) ((v1.mono e2).mono e3) (v2.mono e3) v3)
  · refine .agg _ _ rfl (four (P := fun _ v l => RV (fun _ => none) [] _ v l) (.int _ _) ?_ ?_ ?_)
    · have := r1 (fun _ => none) [] (t2 ++ (t3 ++ t)) (fun _ => rfl)
      simpa only [List.append_assoc] using this
    · have := r2 (fun _ => none) [] (t3 ++ t) (fun _ => rfl)
      simpa only [List.append_assoc] using this
    · exact r3 (fun _ => none) [] t (fun _ => rfl)
theorem world_at {w0 : Ini false} {ρ : List Lg.Place} {lh : Heap} {w : World} {o : Own} {φ : List Nat} {x : Value} {l : LV} {d : Wd} (R : Rep w0 ρ lh w) (hx : VR ρ x l) (hv : RV o φ lh (.agg (fW d)) l) : WorldAt w x d := by
  generalize ht : VV.agg (fW d) = t at hv
  cases hv with
  | agg cs ls hl hh =>
    cases ht
    match ls,hl with
    | [l0,l1,l2,l3],_ =>
      cases hx with
      | agg cs' _ hl' hh' =>
        have e1 : cs'.toList.length = 4 := hl'
        match hcs : cs'.toList,e1 with
        | [z0,z1,z2,z3],_ =>
          have hz : cs' = #[z0,z1,z2,z3] := by rw [← Array.toList_inj,hcs]
          subst hz
          have h0 : z0 = .int .i64 d.sl := sc_val (v := .int .i64 d.sl) (hh 0 _ _ rfl rfl) (hh' 0 z0 l0 rfl rfl) rfl
          subst h0
          exact ⟨z1,z2,z3,rfl,rows_at (by decide) R (hh' 1 z1 l1 rfl rfl) (hh 1 _ _ rfl rfl) (fI_all _),rows_at (by decide) R (hh' 2 z2 l2 rfl rfl) (hh 2 _ _ rfl rfl) (fB_all _),rows_at (by decide) R (hh' 3 z3 l3 rfl rfl) (hh 3 _ _ rfl rfl) (fI_all _)⟩
  | _ => cases ht
theorem rv0 {h : Heap} {v : VV} {l : LV} (h0 : ∀ t,RV (fun _ => none) [] (h ++ t) v l) : RV (fun _ => none) [] h v l := by
  have := h0 []; rwa [List.append_nil] at this
/-- Holds. -/
theorem c_holds {d : Wd} (hd : Small d) (a : Int) {x : Value} {w : World} (hx : WorldAt w x d) : Calls Try.prog 11 #[x,.int .i64 a] w fun e w' => e = .returned (.int .i64 (holdsF d a)) ∧ Below w.heap.size w w' := by
  obtain ⟨ρ,h,l,R, -, -, -,hv,hr⟩ := at_world (Rep.start w) Rep.start_ro hx
  refine (calls_any lp_ok vp_link (Holds_spec hd a 0 []) R (vs := #[x,.int .i64 a]) (.cons hv (.cons (.int _ _) (.nil _))) (.cons (rv0 hr) (.cons (.int _ _) .nil))).mono ?_
  rintro e w' ⟨y,ρ',lh',l,o,φ,rfl, -,hx,hv,hb⟩
  rw [sc_val hv hx rfl]
  exact ⟨rfl,hb⟩
/-- Check of a valid world. -/
theorem c_check {d : Wd} (hd : Ok d) {x : Value} {w : World} (hx : WorldAt w x d) : Calls Try.prog 36 #[x] w fun e w' => e = .returned (.int .i64 0) ∧ Below w.heap.size w w' := by
  obtain ⟨ρ,h,l,R, -, -, -,hv,hr⟩ := at_world (Rep.start w) Rep.start_ro hx
  obtain ⟨e,he,hC⟩ := Check_spec d (by have := hd.pl; omega) (by have := hd.sp; omega) (by have := hd.sn; have := hd.pl; omega)
  obtain rfl := he.2 hd
  refine (calls_any lp_ok vp_link (hC 0 []) R (vs := #[x]) (.cons hv (.nil _)) (.cons (rv0 hr) .nil)).mono ?_
  rintro e w' ⟨y,ρ',lh',l,o,φ,rfl, -,hx,hv,hb⟩
  rw [sc_val hv hx rfl]
  exact ⟨rfl,hb⟩
/-- A step,as the model's value. -/
def stV (s : Stp) : Value := .agg #[.int .i64 s.k,.int .i64 s.a,.int .i64 s.p,.int .i64 s.s,.int .i64 s.t]
theorem st_vr (ρ : List Lg.Place) (s : Stp) : VR ρ (stV s) (.agg [.int .i64 s.k,.int .i64 s.a,.int .i64 s.p,.int .i64 s.s,.int .i64 s.t]) := by
  refine .agg _ _ rfl fun i v l hv hl => ?_
  match i with
  | 0 => cases hv; cases hl; exact .int _ _
  | 1 => cases hv; cases hl; exact .int _ _
  | 2 => cases hv; cases hl; exact .int _ _
  | 3 => cases hv; cases hl; exact .int _ _
  | 4 => cases hv; cases hl; exact .int _ _
  | i + 5 => simp at hv
theorem st_rv (o : Own) (φ : List Nat) (lh : Heap) (s : Stp) : RV o φ lh (.agg (fS s)) (.agg [.int .i64 s.k,.int .i64 s.a,.int .i64 s.p,.int .i64 s.s,.int .i64 s.t]) := by
  refine .agg _ _ rfl fun i v l hv hl => ?_
  match i with
  | 0 => cases hv; cases hl; exact .int _ _
  | 1 => cases hv; cases hl; exact .int _ _
  | 2 => cases hv; cases hl; exact .int _ _
  | 3 => cases hv; cases hl; exact .int _ _
  | 4 => cases hv; cases hl; exact .int _ _
  | i + 5 => simp [fS] at hv
/-- Same. -/
theorem c_same {a b : Wd} (ha : a.pl.length ≤ 1000 ∧ a.sn.length ≤ 1000 ∧ a.sp.length ≤ 1000) (hb : b.pl.length ≤ 1000 ∧ b.sn.length ≤ 1000 ∧ b.sp.length ≤ 1000) {x y : Value} {w : World} (hx : WorldAt w x a) (hy : WorldAt w y b) : Calls Try.prog 15 #[x,y] w fun e w' => e = .returned (.bool (decide (a = b))) ∧ Below w.heap.size w w' := by
  obtain ⟨ρ,h,l,R,ro, -, -,hv,hr⟩ := at_world (Rep.start w) Rep.start_ro hx
  obtain ⟨ρ2,h2,l2,R2, -,e2,⟨t,rfl⟩,hv2,hr2⟩ := at_world R ro hy
  refine (calls_any lp_ok vp_link (Same_spec a b ha hb 0 []) R2 (vs := #[x,y]) (.cons (hv.mono e2) (.cons hv2 (.nil _))) (.cons (hr t) (.cons (rv0 hr2) .nil))).mono ?_
  rintro e w' ⟨y,ρ',lh',l,o,φ,rfl, -,hx,hv,hb⟩
  rw [sc_val hv hx rfl]
  exact ⟨rfl,hb⟩
/-- The lists of a world of the works that a call has made: where they are,and that they may be written. -/
structure OwnW (N : Nat) (W : World) (b1 o1 b2 o2 b3 o3 : Nat) (d : Wd) : Prop where
  n1 : N ≤ b1 ∧ b1 < W.heap.size
  n2 : N ≤ b2 ∧ b2 < W.heap.size
  n3 : N ≤ b3 ∧ b3 < W.heap.size
  c1 : ∀ (i : Nat) (x : Int),d.pl[i]? = some x → W.cell? ⟨b1,o1 + i,none⟩ = some (.int .i64 x)
  c2 : ∀ (i : Nat) (x : Bool),d.sn[i]? = some x → W.cell? ⟨b2,o2 + i,none⟩ = some (.bool x)
  c3 : ∀ (i : Nat) (x : Int),d.sp[i]? = some x → W.cell? ⟨b3,o3 + i,none⟩ = some (.int .i64 x)
  f1 : ∀ i,i < d.pl.length → W.frozen? ⟨b1,o1 + i,none⟩ = false
  f2 : ∀ i,i < d.sn.length → W.frozen? ⟨b2,o2 + i,none⟩ = false
  f3 : ∀ i,i < d.sp.length → W.frozen? ⟨b3,o3 + i,none⟩ = false
  d12 : ∀ i j,i < d.pl.length → j < d.sn.length → b1 = b2 → o1 + i ≠ o2 + j
  d13 : ∀ i j,i < d.pl.length → j < d.sp.length → b1 = b3 → o1 + i ≠ o3 + j
  d23 : ∀ i j,i < d.sn.length → j < d.sp.length → b2 = b3 → o2 + i ≠ o3 + j
section
variable {N : Nat} {W : World} {b1 o1 b2 o2 b3 o3 : Nat} {d : Wd}
theorem OwnW.below (h : OwnW N W b1 o1 b2 o2 b3 o3 d) {W' : World} (hb : Below W.heap.size W W') : OwnW N W' b1 o1 b2 o2 b3 o3 d :=
  ⟨⟨h.n1.1,Nat.lt_of_lt_of_le h.n1.2 hb.size⟩,⟨h.n2.1,Nat.lt_of_lt_of_le h.n2.2 hb.size⟩,⟨h.n3.1,Nat.lt_of_lt_of_le h.n3.2 hb.size⟩,
    fun i x hx => by rw [hb.cell h.n1.2]; exact h.c1 i x hx,fun i x hx => by rw [hb.cell h.n2.2]; exact h.c2 i x hx,fun i x hx => by rw [hb.cell h.n3.2]; exact h.c3 i x hx,
    fun i hi => by rw [hb.frozen h.n1.2]; exact h.f1 i hi,fun i hi => by rw [hb.frozen h.n2.2]; exact h.f2 i hi,fun i hi => by rw [hb.frozen h.n3.2]; exact h.f3 i hi,h.d12,h.d13,h.d23⟩
/-- A store below the lists. -/
theorem OwnW.store (h : OwnW N W b1 o1 b2 o2 b3 o3 d) {a : Addr} (ha : a.block < N) (v : Value) : OwnW N (W.setCell a v) b1 o1 b2 o2 b3 o3 d := by
  have ne : ∀ b o,N ≤ b → a ≠ ⟨b,o,none⟩ := fun b o hb e => by subst e; simp at ha; omega
  refine ⟨⟨h.n1.1,by simpa using h.n1.2⟩,⟨h.n2.1,by simpa using h.n2.2⟩,⟨h.n3.1,by simpa using h.n3.2⟩,
    fun i x hx => by rw [World.cell?_setCell_other _ _ _ _ (ne _ _ h.n1.1)]; exact h.c1 i x hx,fun i x hx => by rw [World.cell?_setCell_other _ _ _ _ (ne _ _ h.n2.1)]; exact h.c2 i x hx,fun i x hx => by rw [World.cell?_setCell_other _ _ _ _ (ne _ _ h.n3.1)]; exact h.c3 i x hx,
    fun i hi => by rw [World.frozen?_setCell]; exact h.f1 i hi,fun i hi => by rw [World.frozen?_setCell]; exact h.f2 i hi,fun i hi => by rw [World.frozen?_setCell]; exact h.f3 i hi,h.d12,h.d13,h.d23⟩
theorem set_get {α : Type} {l : List α} {p i : Nat} {x y : α} (h : (l.set p x)[i]? = some y) : (i = p ∧ y = x ∧ p < l.length) ∨ (i ≠ p ∧ l[i]? = some y) := by
  rw [List.getElem?_set] at h
  by_cases e : p = i
  · subst e
    rw [if_pos rfl] at h
    split at h
    · rename_i hl; cases h; exact .inl ⟨rfl,rfl,hl⟩
    · cases h
  · rw [if_neg e] at h; exact .inr ⟨fun h => e h.symm,h⟩
theorem OwnW.set1 (h : OwnW N W b1 o1 b2 o2 b3 o3 d) {p : Nat} (hp : p < d.pl.length) (x : Int) : OwnW N (W.setCell ⟨b1,o1 + p,none⟩ (.int .i64 x)) b1 o1 b2 o2 b3 o3 { d with pl := d.pl.set p x } := by
  refine ⟨⟨h.n1.1,by simpa using h.n1.2⟩,⟨h.n2.1,by simpa using h.n2.2⟩,⟨h.n3.1,by simpa using h.n3.2⟩,fun i y hy => ?_,fun i y hy => ?_,fun i y hy => ?_,
    fun i hi => by rw [World.frozen?_setCell]; exact h.f1 i (by simpa using hi),fun i hi => by rw [World.frozen?_setCell]; exact h.f2 i hi,fun i hi => by rw [World.frozen?_setCell]; exact h.f3 i hi,
    fun i j hi hj => h.d12 i j (by simpa using hi) hj,fun i j hi hj => h.d13 i j (by simpa using hi) hj,h.d23⟩
  · rcases set_get hy with ⟨rfl,rfl, -⟩ | ⟨hne,hy⟩
    · exact World.cell?_setCell_same _ _ _ (h.c1 i _ (List.getElem?_eq_getElem hp))
    · rw [World.cell?_setCell_other _ _ _ _ (fun e => by injection e with _ e; omega)]; exact h.c1 i y hy
  · have hj := (List.getElem?_eq_some_iff.1 hy).1
    rw [World.cell?_setCell_other _ _ _ _ (fun e => by injection e with e1 e2; exact h.d12 p i hp hj e1 e2)]; exact h.c2 i y hy
  · have hj := (List.getElem?_eq_some_iff.1 hy).1
    rw [World.cell?_setCell_other _ _ _ _ (fun e => by injection e with e1 e2; exact h.d13 p i hp hj e1 e2)]; exact h.c3 i y hy
theorem OwnW.set2 (h : OwnW N W b1 o1 b2 o2 b3 o3 d) {p : Nat} (hp : p < d.sn.length) (x : Bool) : OwnW N (W.setCell ⟨b2,o2 + p,none⟩ (.bool x)) b1 o1 b2 o2 b3 o3 { d with sn := d.sn.set p x } := by
  refine ⟨⟨h.n1.1,by simpa using h.n1.2⟩,⟨h.n2.1,by simpa using h.n2.2⟩,⟨h.n3.1,by simpa using h.n3.2⟩,fun i y hy => ?_,fun i y hy => ?_,fun i y hy => ?_,
    fun i hi => by rw [World.frozen?_setCell]; exact h.f1 i hi,fun i hi => by rw [World.frozen?_setCell]; exact h.f2 i (by simpa using hi),fun i hi => by rw [World.frozen?_setCell]; exact h.f3 i hi,
    fun i j hi hj => h.d12 i j hi (by simpa using hj),h.d13,fun i j hi hj => h.d23 i j (by simpa using hi) hj⟩
  · have hj := (List.getElem?_eq_some_iff.1 hy).1
    rw [World.cell?_setCell_other _ _ _ _ (fun e => by injection e with e1 e2; exact h.d12 i p hj hp e1.symm e2.symm)]; exact h.c1 i y hy
  · rcases set_get hy with ⟨rfl,rfl, -⟩ | ⟨hne,hy⟩
    · exact World.cell?_setCell_same _ _ _ (h.c2 i _ (List.getElem?_eq_getElem hp))
    · rw [World.cell?_setCell_other _ _ _ _ (fun e => by injection e with _ e; omega)]; exact h.c2 i y hy
  · have hj := (List.getElem?_eq_some_iff.1 hy).1
    rw [World.cell?_setCell_other _ _ _ _ (fun e => by injection e with e1 e2; exact h.d23 p i hp hj e1 e2)]; exact h.c3 i y hy
/-- The value of such a world. -/
def ownV (d : Wd) (b1 o1 b2 o2 b3 o3 k1 k2 k3 : Nat) : Value := .agg #[.int .i64 d.sl,.slice (some ⟨b1,o1,none⟩) d.pl.length k1,.slice (some ⟨b2,o2,none⟩) d.sn.length k2,.slice (some ⟨b3,o3,none⟩) d.sp.length k3]
theorem OwnW.world (h : OwnW N W b1 o1 b2 o2 b3 o3 d) {k1 k2 k3 : Nat} (h1 : d.pl.length ≤ k1) (h2 : d.sn.length ≤ k2) (h3 : d.sp.length ≤ k3) : WorldAt W (ownV d b1 o1 b2 o2 b3 o3 k1 k2 k3) d := by
  have one : ∀ (l : List Int) (i : Nat) (row : List VV) (j : Nat) (v : VV),(l.map fI)[i]? = some row → row[j]? = some v → ∃ x,l[i]? = some x ∧ j = 0 ∧ v = .int .i64 x := fun l i row j v hi hj => by
    rw [List.getElem?_map] at hi
    obtain ⟨x,hx,rfl⟩ := Option.map_eq_some_iff.1 hi
    match j,hj with
    | 0,hj => cases hj; exact ⟨x,hx,rfl,rfl⟩
    | j + 1,hj => simp [fI] at hj
  refine ⟨_,_,_,rfl,.inr ⟨b1,o1,k1,by rw [List.length_map],by rw [List.length_map]; exact h1,h.n1.2,fun i row j v hi hj => ?_⟩,.inr ⟨b2,o2,k2,by rw [List.length_map],by rw [List.length_map]; exact h2,h.n2.2,fun i row j v hi hj => ?_⟩,.inr ⟨b3,o3,k3,by rw [List.length_map],by rw [List.length_map]; exact h3,h.n3.2,fun i row j v hi hj => ?_⟩⟩
  · obtain ⟨x,hx,rfl,rfl⟩ := one _ _ _ _ _ hi hj
    rw [Nat.mul_one]; exact h.c1 i x hx
  · rw [List.getElem?_map] at hi
    obtain ⟨x,hx,rfl⟩ := Option.map_eq_some_iff.1 hi
    match j,hj with
    | 0,hj => cases hj; rw [Nat.mul_one]; exact h.c2 i x hx
    | j + 1,hj => simp [fB] at hj
  · obtain ⟨x,hx,rfl,rfl⟩ := one _ _ _ _ _ hi hj
    rw [Nat.mul_one]; exact h.c3 i x hx
end
/-- Copy: the lists of the copy are new and may be written. -/
theorem c_copy {d : Wd} (hd : Small d) (h1 : 1 ≤ d.pl.length) (h2 : 1 ≤ d.sp.length) {x : Value} {w : World} (hx : WorldAt w x d) : Calls Try.prog 14 #[x] w fun e w' => (∃ b1 o1 b2 o2 b3 o3 k1 k2 k3,e = .returned (ownV d b1 o1 b2 o2 b3 o3 k1 k2 k3) ∧ OwnW w.heap.size w' b1 o1 b2 o2 b3 o3 d ∧ d.pl.length ≤ k1 ∧ d.sn.length ≤ k2 ∧ d.sp.length ≤ k3) ∧ Below w.heap.size w w' := by
  have hsn := hd.sn
  have hpl := hd.pl
  have hsp := hd.sp
  obtain ⟨ρ,h,l,R, -, -, -,hv,hr⟩ := at_world (Rep.start w) Rep.start_ro hx
  refine (calls_hs lp_ok vp_link (Copy_spec d h1 (by omega) h2 (by omega) (by omega) (by omega) 0 [] (Nat.le_refl _)) R (vs := #[x]) (.cons hv (.nil _)) (.cons (rv0 hr) .nil)).mono ?_
  rintro e w' ⟨y,ρ',lh',l,o,φ,rfl, -,hR,hx,hv,hH, -,hb⟩
  refine ⟨?_,hb⟩
  generalize ht : VV.agg (cpW d ([] : VHeap).length) = t at hv
  cases hv with
  | agg cs ls hl hh =>
    cases ht
    match ls,hl with
    | [l0,l1,l2,l3],_ =>
      cases hx with
      | agg cs' _ hl' hh' =>
        have e1 : cs'.toList.length = 4 := hl'
        match hcs : cs'.toList,e1 with
        | [z0,z1,z2,z3],_ =>
          have hz : cs' = #[z0,z1,z2,z3] := by rw [← Array.toList_inj,hcs]
          subst hz
          have h0 : z0 = .int .i64 d.sl := sc_val (v := .int .i64 d.sl) (hh 0 _ _ rfl rfl) (hh' 0 z0 l0 rfl rfl) rfl
          subst h0
          have n1 : d.pl.map fI ≠ [] := by intro e; rw [List.map_eq_nil_iff] at e; rw [e] at h1; exact absurd h1 (by decide)
          have n2 : d.sn.map fB ≠ [] := by intro e; rw [List.map_eq_nil_iff] at e; rw [e] at hsn; simp at hsn; omega
          have n3 : d.sp.map fI ≠ [] := by intro e; rw [List.map_eq_nil_iff] at e; rw [e] at h2; exact absurd h2 (by decide)
          have r1 : RV o φ lh' (.hs 3 0 (d.pl.map fI).length 1) l1 := by have := hh 1 _ l1 rfl rfl; rwa [List.length_map]
          have r2 : RV o φ lh' (.hs 5 0 (d.sn.map fB).length 1) l2 := by have := hh 2 _ l2 rfl rfl; rwa [List.length_map]
          have r3 : RV o φ lh' (.hs 7 0 (d.sp.map fI).length 1) l3 := by have := hh 3 _ l3 rfl rfl; rwa [List.length_map]
          obtain ⟨b1,p1,c1,k1,f1,o1,q1,g1,ln1,rfl,m1,x1,u1,w1,t1,z1'⟩ := hs_place (by decide) hR hH (hh' 1 z1 l1 rfl rfl) r1 rfl (fI_all _) n1
          obtain ⟨b2,p2,c2,k2,f2,o2,q2,g2,ln2,rfl,m2,x2,u2,w2,t2,z2'⟩ := hs_place (by decide) hR hH (hh' 2 z2 l2 rfl rfl) r2 rfl (fB_all _) n2
          obtain ⟨b3,p3,c3,k3,f3,o3,q3,g3,ln3,rfl,m3,x3,u3,w3,t3,z3'⟩ := hs_place (by decide) hR hH (hh' 3 z3 l3 rfl rfl) r3 rfl (fI_all _) n3
          have ne21 : b2 ≠ b1 := by rintro rfl; rw [o2] at o1; cases o1
          have ne23 : b2 ≠ b3 := by rintro rfl; rw [o2] at o3; cases o3
          have d21 : Dis p2 p1 := hR.dis b2 b1 _ _ _ _ ne21 g2 g1 q2 q1 rfl rfl
          have d23 : Dis p2 p3 := hR.dis b2 b3 _ _ _ _ ne23 g2 g3 q2 q3 rfl rfl
          rw [List.length_map] at m1 m2 m3 ln1 ln2 ln3
          rw [Nat.mul_one] at x1 x2 x3 ln1 ln2 ln3
          have d13 : Dis p1 p3 := hR.dis b1 b3 _ _ _ _ (by rintro rfl; rw [o1] at o3; cases o3) g1 g3 q1 q3 rfl rfl
          refine ⟨p1.block,p1.off + 0,p2.block,p2.off + 0,p3.block,p3.off + 0,k1,k2,k3,?_,⟨⟨u1,w1⟩,⟨u2,w2⟩,⟨u3,w3⟩,fun i x hx => ?_,fun i x hx => ?_,fun i x hx => ?_,fun i hi => ?_,fun i hi => ?_,fun i hi => ?_,fun i j hi hj e => ?_,fun i j hi hj e => ?_,fun i j hi hj e => ?_⟩,m1,m2,m3⟩
          · unfold ownV
            rw [show (d.pl.map fI).length = d.pl.length from List.length_map _,show (d.sn.map fB).length = d.sn.length from List.length_map _,show (d.sp.map fI).length = d.sp.length from List.length_map _]
            rfl
          · have := t1 i (fI x) 0 (.int .i64 x) (by rw [List.getElem?_map,hx]; rfl) rfl
            rw [Nat.mul_one,Nat.add_zero] at this
            exact this
          · have := t2 i (fB x) 0 (.bool x) (by rw [List.getElem?_map,hx]; rfl) rfl
            rw [Nat.mul_one,Nat.add_zero] at this
            exact this
          · have := t3 i (fI x) 0 (.int .i64 x) (by rw [List.getElem?_map,hx]; rfl) rfl
            rw [Nat.mul_one,Nat.add_zero] at this
            exact this
          · exact z1' i (by omega)
          · exact z2' i (by omega)
          · exact z3' i (by omega)
          · unfold Dis at d21; omega
          · unfold Dis at d13; omega
          · unfold Dis at d23; omega
  | _ => cases ht
end Vg.G3
