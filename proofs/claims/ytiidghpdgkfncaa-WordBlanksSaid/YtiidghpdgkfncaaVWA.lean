/- What WordBlanks calls,as contracts of the model's world. -/
import Derived.Test.YtiidghpdgkfncaaVB7
import Derived.Test.YtiidghpdgkfncaaVVgCalls
import Derived.Shelf.Strings.BuilderK
namespace Vg.G2
open Go Lg Go.RowKit Go.Proofs
set_option linter.unusedSimpArgs false
set_option linter.unusedVariables false
set_option maxRecDepth 10000
set_option maxHeartbeats 2000000
attribute [local congr] bind_congr1
attribute [local go_sem] gantmake_Below_r0 gantmake_Below_r1 gantmake_Below_r2 gantmake_Below_r3 gantmake_Below_r4 gantmake_Below_f gantmake_Below_v

theorem wstr (B b : Nat) (bs : List Value) (s : ByteArray) (w : World) (h : Lib.IsBuilderF 35 5 B b bs w) (hlen : bs.length + s.size ≤ 140737488355328) (hBw : B ≤ w.heap.size) :
    Calls Try.prog 9 #[.pointer (some ⟨b,0,none⟩),.string s] w fun e w' => e = .returned (.tuple #[.int .i64 s.size,.nilIface]) ∧ (Lib.BuilderAtF 35 5 B b (.pointer (some ⟨b,0,none⟩)) (bs ++ Lib.strCells s) w' ∧ Below B w w' ∧ Lib.OthersKept 5 (some b) w w') :=
  Any.Builder_WriteString_k { jlays with } jextra B b bs s w h hlen hBw
theorem bstr (B b : Nat) (l : List UInt8) (w : World) (h : Lib.IsBuilderF 35 5 B b (Lib.byteCells l) w) (hBw : B ≤ w.heap.size) :
    Calls Try.prog 11 #[.pointer (some ⟨b,0,none⟩)] w fun e w' => e = .returned (.string ⟨l.toArray⟩) ∧ Below B w w' :=
  (Any.Builder_String_any_f { jlays with } jextra B b l w h hBw).mono fun _ _ h => ⟨h.1,h.2.2⟩
theorem builder_below {T e : TypeId} {B b : Nat} {bs : List Value} {W W' : World} (h : Lib.IsBuilderF T e B b bs W) (hb : Below W.heap.size W W') : Lib.IsBuilderF T e B b bs W' := by
  have one : ∀ p,Lib.BuilderAtF T e B b p bs W → Lib.BuilderAtF T e B b p bs W' := fun p h => by
    have hlt := h.lt
    obtain ⟨hB,v,hv,hown,hne⟩ := h
    exact ⟨hB,v,(hb.block b hlt).trans hv,hown.kept (row := none) ⟨hb.os,hb.tape,hb.output,hb.size,fun k hk _ => hb.block k hk⟩ (Classical.em _),hne⟩
  exact h.elim (fun x => .inl (one _ x)) (fun x => .inr (one _ x))
def belowP (x n : Int) : Int := if x.tmod n < 0 then IntKind.i64.wrap (x.tmod n + n) else x.tmod n
theorem Below_spec (x n : Int) (hn : 0 < n) (lo : Nat) (h : VHeap) : callVL vp lo n_gantmake_Below [.int .i64 x,.int .i64 n] h = some (.int .i64 (belowP x n),h) := by
  have h0 : n ≠ 0 := by omega
  refine call_valE (fn := gantmake_Below_v) rfl rfl rfl rfl rfl ?_ lo h
  simp -implicitDefEqProofs only [go_sem,↓reduceIte,reduceCtorEq,Int.reduceLT,Int.reduceLE,Int.reduceToNat,Nat.reduceAdd,Nat.reduceMul,Nat.reduceLeDiff,Nat.reduceLT,Nat.reduceSub,Int.reduceNeg,Int.reduceEq,Int.reduceBEq,Int.reduceBNe,Nat.reduceEqDiff,h0,belowP]
  split <;> exact ⟨_,rfl,rfl⟩
theorem belowP_bnd (x n : Int) (hn : 0 < n) (hn' : n < 4611686018427387904) : 0 ≤ belowP x n ∧ belowP x n < n := by
  unfold belowP
  have h1 := Int.tmod_lt_of_pos x hn
  have h2 : -n < x.tmod n := by
    rcases Int.le_total 0 x with h | h
    · have := Int.tmod_nonneg n h; omega
    · have h2 := Int.tmod_lt_of_pos (-x) hn
      rw [Int.neg_tmod] at h2; omega
  split
  · rw [wrap_id (by omega) (by omega)]; omega
  · omega
theorem c_below (x : Int) (w : World) : Calls Try.prog 10 #[.int .i64 x,.int .i64 5] w fun e w' => e = .returned (.int .i64 (belowP x 5)) ∧ Below w.heap.size w w' := by
  refine (calls_any lp_ok vp_link (Below_spec x 5 (by decide) 0 []) (Rep.start w) (vs := #[.int .i64 x,.int .i64 5]) (.cons (.int _ _) (.cons (.int _ _) (.nil _))) (.cons (.int _ _) (.cons (.int _ _) .nil))).mono ?_
  rintro e w' ⟨y,ρ',lh',l,o,φ,rfl, -,hx,hv,hb⟩
  rw [sc_val hv hx rfl]
  exact ⟨rfl,hb⟩
theorem c_worded (w : World) : Calls Try.prog 7 #[] w fun e w' => e = .returned (.bool true) ∧ Below w.heap.size w w' :=
  law (worded_spec 0 []) (Rep.start w) (.nil _) .nil
theorem fW_all (ws : List Wd) : ∀ row ∈ ws.map fW,row.length = 3 ∧ row.all scal = true := fun r hr => by obtain ⟨w,_,rfl⟩ := List.mem_map.1 hr; exact ⟨rfl,rfl⟩
/-- What Read answers. -/
def ReadAt (s : List UInt8) (w : World) (x : Value) (er : Int) : Prop := (∃ ws,readF s = .ok ws ∧ er = 0 ∧ WRows 3 w x (ws.map fW)) ∨ (readF s = .error er ∧ er ≠ 0)
theorem c_read (s : List UInt8) (w : World) : Calls Try.prog 6 #[.string ⟨s.toArray⟩] w fun e w' => ∃ x er,e = .returned (.tuple #[x,.int .i64 er]) ∧ ReadAt s w' x er ∧ Below w.heap.size w w' := by
  have hs : VRs [] (#[Value.string ⟨s.toArray⟩] : Array Value).toList [LV.str s] := by
    refine .cons ?_ (.nil _)
    have := VR.str (ρ := []) ⟨s.toArray⟩
    rwa [bytes_back] at this
  refine (calls_any lp_ok vp_link (Read_spec s 0 []) (Rep.start w) hs (.cons (.str _) .nil)).mono ?_
  rintro e w' ⟨y,ρ',lh',l,o,φ,rfl,hR,hx,hv,hb⟩
  have key : ∀ (a : VV) (er : Int),RV o φ lh' (.tup [a,.int .i64 er]) l → ∃ z la,y = .tuple #[z,.int .i64 er] ∧ VR ρ' z la ∧ RV o φ lh' a la := by
    intro a er h
    generalize ht : VV.tup [a,.int .i64 er] = t at h
    cases h with
    | tup cs ls hl hh =>
      cases ht
      match ls,hl with
      | [la,lb],_ =>
        cases hx with
        | tup cs' _ hl' hh' =>
          have e1 : cs'.toList.length = 2 := hl'
          match hcs : cs'.toList,e1 with
          | [z,zb],_ =>
            have hz : cs' = #[z,zb] := by rw [← Array.toList_inj,hcs]
            subst hz
            have h2 : zb = .int .i64 er := sc_val (v := .int .i64 er) (hh 1 _ _ rfl rfl) (hh' 1 zb lb rfl rfl) rfl
            subst h2
            exact ⟨z,la,rfl,hh' 0 _ _ rfl rfl,hh 0 _ _ rfl rfl⟩
    | _ => cases ht
  cases hr : readF s with
  | error er =>
    rw [hr] at hv
    obtain ⟨z,la,rfl, -, -⟩ := key _ er hv
    have he : er ≠ 0 := by
      unfold readF at hr
      split at hr
      · cases hr; decide
      · exact rd_err _ _ _ hr
    exact ⟨z,er,rfl,.inr ⟨hr,he⟩,hb⟩
  | ok ws =>
    rw [hr] at hv
    obtain ⟨z,la,rfl,h1,h2⟩ := key _ 0 hv
    exact ⟨z,0,rfl,.inl ⟨ws,hr,rfl,rows_at (by decide) hR h1 h2 (fW_all ws)⟩,hb⟩
theorem c_texts (ws : List Wd) (hl : ws.length ≤ 4096) (x : Value) (w : World) (hx : WRows 3 w x (ws.map fW)) : Calls Try.prog 13 #[x] w fun e w' => ∃ y,e = .returned y ∧ WRows 3 w' y ((ws.map zt).map fW) ∧ Below w.heap.size w w' := by
  obtain ⟨ρ,h,l,R, -, -, -,hv,hr⟩ := at_rows (m := false) (Rep.start w) Rep.start_ro hx (fW_all ws)
  refine (calls_any lp_ok vp_link (texts_spec ws hl 0 []) R (vs := #[x]) (.cons hv (.nil _)) (.cons (by have := hr (fun _ => none) [] [] (fun _ => rfl); rwa [List.append_nil] at this) .nil)).mono ?_
  rintro e w' ⟨y,ρ',lh',l,o,φ,rfl,hR,hx,hv,hb⟩
  exact ⟨y,rfl,rows_at (by decide) hR hx hv (fW_all _),hb⟩
theorem c_equal (A B : List Wd) (hAB : A = B) (hl : A.length ≤ 4096) (x y : Value) (w : World) (hx : WRows 3 w x (A.map fW)) (hy : WRows 3 w y (B.map fW)) : Calls Try.prog 12 #[x,y] w fun e w' => e = .returned (.bool true) ∧ Below w.heap.size w w' := by
  obtain ⟨ρ,h,l,R,hro, -, -,hv,hr⟩ := at_rows (m := false) (Rep.start w) Rep.start_ro hx (fW_all A)
  obtain ⟨ρ2,h2,l2,R2, -,hE,⟨t,rfl⟩,hv2,hr2⟩ := at_rows R hro hy (fW_all B)
  have e2 := hr2 (fun _ => none) [] [] (fun _ => rfl)
  rw [List.append_nil] at e2
  exact law (EqualW_spec A B hAB (by omega) 0 []) R2 (vs := #[x,y]) (.cons (hv.mono hE) (.cons hv2 (.nil _))) (.cons (hr (fun _ => none) [] t (fun _ => rfl)) (.cons e2 .nil))
end Vg.G2
