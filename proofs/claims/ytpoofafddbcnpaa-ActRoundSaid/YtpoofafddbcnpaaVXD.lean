import Derived.Test.YtpoofafddbcnpaaVXA
import Derived.WalkKit
import Derived.LoopTactic
import Derived.Shelf.Spec.SlicesInsert
import Derived.Lib.AppendZerosOnto
import Derived.Laws.NewBlocks
/- ActRound: worlds of the generator,and what taking and putting a part comes to. -/
namespace Vg.G3
open Go Lg Go.RowKit Go.Proofs
set_option linter.unusedSimpArgs false
set_option linter.unusedVariables false
set_option maxRecDepth 10000
set_option maxHeartbeats 4000000
attribute [local congr] bind_congr1
attribute [local go_sem] gantkeep4_acted_r0 gantkeep4_acted_r1 gantkeep4_acted_r1_d gantkeep4_acted_r2 gantkeep4_acted_r3 gantkeep4_acted_f gantkeep4_acted_v

/-- A works of the generator,and a list of numbers beside it. -/
def SmAt (w0 w : World) (x y : Value) (zs : List Int) : Prop := ∃ a p s ρ lh lx ly,(1 ≤ a ∧ a ≤ 2 ∧ 1 ≤ p ∧ p ≤ 2 ∧ 1 ≤ s ∧ s ≤ 2) ∧ Rep (m := false) ⟨w0⟩ ρ lh w ∧ VR ρ x lx ∧ RV (fun _ => none) [] lh (.agg (smallV a p s)) lx ∧ VR ρ y ly ∧ RV (fun _ => none) [] lh (ints zs) ly
theorem c_small {a0 a1 : Option Addr} {len0 cap0 len1 cap1 : Nat} {z0 z1 : List Int} {w : World}
    (h0 : (a0 = none ∧ len0 = 0 ∧ cap0 = 0 ∧ z0 = []) ∨ ∃ x,a0 = some x ∧ len0 ≤ cap0 ∧ cap0 ≤ maxLen ∧ z0.length = cap0 ∧ (∀ i,i < z0.length → w.cell? (x.add i) = some (.int .i64 (z0.getD i 0))) ∧ ∀ n ∈ z0,(Lit.int .i64 n).wf = true)
    (h1 : (a1 = none ∧ len1 = 0 ∧ cap1 = 0 ∧ z1 = []) ∨ ∃ x,a1 = some x ∧ len1 ≤ cap1 ∧ cap1 ≤ maxLen ∧ z1.length = cap1 ∧ (∀ i,i < z1.length → w.cell? (x.add i) = some (.int .i64 (z1.getD i 0))) ∧ ∀ n ∈ z1,(Lit.int .i64 n).wf = true) :
    Calls Try.prog 10 #[.slice a0 len0 cap0] w fun e w' => (∃ x,e = .returned x ∧ SmAt w w' x (.slice a1 len1 cap1) (z1.take len1)) ∧ Below w.heap.size w w' := by
  obtain ⟨ρ0,g0,l0,R0,ro0,e0,k0,v0,r0⟩ := (Rep.start (m := false) w).addRow Rep.start_ro h0
  obtain ⟨ρ1,g1,l1,R1,ro1,e1,k1,v1,r1⟩ := R0.addRow ro0 h1
  obtain ⟨a,p,s,b1,b2,b3,b4,b5,b6,hS⟩ := Small_spec (z0.take len0)
  refine (calls_hs lp_ok vp_link (hS 0 []) R1 (vs := #[.slice a0 len0 cap0]) (.cons (v0.mono e1) (.nil _)) (.cons (ints_rv (r0.keep k1) (fun _ => rfl)) .nil)).mono ?_
  rintro e w' ⟨x,ρ',lh',l,o,φ,rfl,hE,hR,hx,hv, -,hF,hb⟩
  refine ⟨⟨x,rfl,a,p,s,ρ',lh',l,l1,⟨b1,b2,b3,b4,b5,b6⟩,hR,hx,hv.none_of rfl,v1.mono hE,?_⟩,hb⟩
  have := (ints_rv (w := fun _ => none) (φ := []) r1 (fun _ => rfl)).mono (φ' := φ) (fun n b h => by simp at h) hF
  exact this.none_of rfl
theorem c_world {w0 w : World} {x y : Value} {zs : List Int} (h : SmAt w0 w x y zs) : Calls Try.prog 9 #[x,y] w fun e w' => (∃ z d,e = .returned z ∧ Ok d ∧ 1 ≤ d.pl.length ∧ 1 ≤ d.sp.length ∧ WorldAt w' z d) ∧ Below w0.heap.size w0 w' := by
  obtain ⟨a,p,s,ρ,lh,lx,ly,⟨b1,b2,b3,b4,b5,b6⟩,R,vx,rx,vy,ry⟩ := h
  obtain ⟨d,hd, -,hp,ha,hW⟩ := World_spec a p s b1 b2 b3 b4 b5 b6 zs
  refine (calls_hs lp_ok vp_link (hW 0 []) R (vs := #[x,y]) (.cons vx (.cons vy (.nil _))) (.cons rx (.cons ry .nil))).mono ?_
  rintro e w' ⟨z,ρ',lh',l,o,φ,rfl,hE,hR,hx,hv, -,hF,hb⟩
  exact ⟨⟨z,d,rfl,hd,by omega,by omega,world_at hR hx hv⟩,hb⟩
def wA : Wd := ⟨0,[-1],[false],[-1]⟩
def sA : Stp := ⟨0,0,0, -1,0⟩
theorem wA_ok : Ok wA := ⟨⟨by decide,by decide,by decide,by decide,by decide⟩,fun i x hx => by
    match i,hx with
    | 0,hx => simp [wA] at hx; subst hx; exact ⟨by decide,by decide,.inl rfl⟩
    | i + 1,hx => simp [wA] at hx,fun i x hx => by
    match i,hx with
    | 0,hx => simp [wA] at hx; subst hx; exact ⟨by decide,by decide,by decide,.inl rfl⟩
    | i + 1,hx => simp [wA] at hx⟩
theorem sA_can : canF wA sA := by
  refine ⟨by decide,by decide,by decide,by decide,?_⟩
  unfold mayF hereF
  refine ⟨fun _ => ⟨by decide,by decide,by decide,by decide⟩,fun h => absurd h (by decide),fun h => absurd h (by decide),fun h => absurd h (by decide),fun h => absurd h (by decide)⟩
theorem acted_spec (lo : Nat) (h : VHeap) : callVL vp lo n_gantkeep4_acted [] h = some (.bool true,h) := by
  refine call_valE (fn := gantkeep4_acted_v) rfl rfl rfl rfl rfl ?_ lo h
  have hS := Start_spec [armR []] [] [partR []] [] [] false [] [] (by decide) (by decide) (by decide)
  have hD := Do_yes wA_ok (by decide) (by decide) sA sA_can
  have e : doF wA sA = ⟨0,[-1],[false],[8]⟩ := by decide
  rw [e] at hD
  simp only [armR,partR,startW,fW,fI,fB,List.length_cons,List.length_nil,List.replicate,List.map_cons,List.map_nil,Nat.zero_add,Int.natCast_zero,cast_zero] at hS
  simp only [wA,sA,fW,fS,fI,fB,List.map_cons,List.map_nil] at hD
  have hb : ((168 : Nat) : Int) * 1 ≤ 281474976710656 := by decide
  simp -implicitDefEqProofs only [go_sem,↓reduceIte,reduceCtorEq,Int.reduceLT,Int.reduceLE,Int.reduceToNat,Nat.reduceAdd,Nat.reduceMul,Nat.reduceLeDiff,Nat.reduceLT,Nat.reduceSub,Int.reduceNeg,Int.reduceEq,Int.reduceBEq,Int.reduceBNe,Nat.reduceEqDiff,hS,hD,Int.reduceMul]
theorem c_acted (w : World) : Calls Try.prog 16 #[] w fun e w' => e = .returned (.bool true) ∧ Below w.heap.size w w' :=
  law (acted_spec 0 []) (Rep.start w) (.nil _) .nil
/-- Steps that can be done one after another. -/
def canAll : Wd → List Stp → Prop
  | _,[] => True
  | d,s :: l => canF d s ∧ canAll (doF d s) l
def doAll (d : Wd) (l : List Stp) : Wd := l.foldl doF d
theorem set_same {α : Type} {l : List α} {i : Nat} {x : α} (h : l[i]? = some x) : l.set i x = l := by
  apply List.ext_getElem?
  intro j
  rw [List.getElem?_set]
  split
  · rename_i e; subst e; rw [h]; split
    · rfl
    · rename_i h2; exact absurd (List.getElem?_eq_some_iff.1 h).1 h2
  · rfl
section
variable {d : Wd} {p a : Nat} {at_ : Int}
theorem round_law (hd : Ok d) (hp : d.pl[p]? = some at_) (h0 : 0 ≤ at_) (ha : d.sp[a]? = some at_) (hh : holdsF d a < 0) :
    (d.sn[p]? = some true → canAll d [⟨1,a,p, -1,0⟩,⟨2,a, -1,at_,0⟩] ∧ doAll d [⟨1,a,p, -1,0⟩,⟨2,a, -1,at_,0⟩] = { d with sn := d.sn.set p false }) ∧
    (d.sn[p]? = some false → canAll d [⟨3,a,p, -1,0⟩,⟨1,a,p, -1,0⟩,⟨2,a, -1,at_,0⟩] ∧ doAll d [⟨3,a,p, -1,0⟩,⟨1,a,p, -1,0⟩,⟨2,a, -1,at_,0⟩] = { d with sn := d.sn.set p false }) := by
  have hpl := (List.getElem?_eq_some_iff.1 hp).1
  have hal := (List.getElem?_eq_some_iff.1 ha).1
  have hsn := hd.sn
  have hgI : gI d.pl (p : Nat) = at_ := by unfold gI; simp [hp]
  have hgS : gI d.sp (a : Nat) = at_ := by unfold gI; simp [ha]
  have hok := hd.p1 p at_ hp
  have hsl := hd.sl0
  have hW : ∀ sn : List Bool,whereF { d with sn := sn } (p : Nat) = at_ := fun sn => by
    unfold whereF
    simp only
    rw [if_neg (by omega),hgI,if_neg (by omega),if_neg (by omega)]
  have hT : ∀ (sn : List Bool) (k : Int),targetF { d with sn := sn } ⟨k,a,p, -1,0⟩ = at_ := fun sn k => by
    unfold targetF
    simp only
    rw [if_pos (by omega)]; exact hW sn
  have hH : ∀ sn : List Bool,holdsF { d with sn := sn } a = holdsF d a := fun _ => rfl
  have hF : ∀ k : Int,k = 1 ∨ k = 3 → formF ⟨k,a,p, -1,0⟩ = true := fun k hk => by
    unfold formF
    simp only
    rw [if_neg (by omega),if_neg (by omega),if_pos hk]
    exact decide_eq_true ⟨by omega,by omega,trivial⟩
  have hF2 : formF ⟨2,a, -1,at_,0⟩ = true := by
    unfold formF
    simp only
    rw [if_neg (by omega),if_neg (by omega),if_neg (by omega),if_pos trivial]
    exact decide_eq_true ⟨h0,by omega,trivial⟩
  have hnot : -2 - (a : Int) ∉ d.pl := by
    unfold holdsF at hh
    rw [if_neg (by omega)] at hh
    exact fun h => by have := (idx_mem d.pl (-2 - (a : Int))).2 h; omega
  have hhere : ∀ (sn : List Bool) (k : Int),hereF { d with sn := sn } ⟨k,a,p, -1,0⟩ := fun sn k => by
    unfold hereF
    rw [hT]
    exact ⟨by omega,hgS⟩
  have hidx : idxI (d.pl.set p (-2 - (a : Int))) (-2 - (a : Int)) = (p : Nat) := by
    refine idx_some _ _ p (by rw [List.getElem?_set_self hpl]) fun j y hj hy e => ?_
    rw [List.getElem?_set_ne (by omega)] at hy
    subst e
    exact hnot (List.mem_of_getElem? hy)
  have hat : at_ ∉ d.pl.set p (-2 - (a : Int)) := by
    intro hm
    obtain ⟨j,hj⟩ := List.mem_iff_getElem?.1 hm
    by_cases hjp : p = j
    · subst hjp
      rw [List.getElem?_set_self hpl] at hj
      injection hj with hj; omega
    · rw [List.getElem?_set_ne hjp] at hj
      have hlt : ∀ (x y : Nat),x < y → d.pl[x]? = some at_ → d.pl[y]? = some at_ → False := fun x y hxy hx hy => by
        rcases (hd.p1 y at_ hy).2.2 with h | h
        · omega
        · refine h (List.mem_of_getElem? (i := x) ?_)
          rw [List.getElem?_take,if_pos hxy]; exact hx
      rcases Nat.lt_or_gt_of_ne hjp with h | h
      · exact hlt p j h hp hj
      · exact hlt j p h hj hp
  have key : ∀ sn : List Bool,sn.length = d.pl.length → sn[p]? = some true → canAll { d with sn := sn } [⟨1,a,p, -1,0⟩,⟨2,a, -1,at_,0⟩] ∧ doAll { d with sn := sn } [⟨1,a,p, -1,0⟩,⟨2,a, -1,at_,0⟩] = { d with sn := sn.set p false } := by
    intro sn hl hsp
    have e1 : doF { d with sn := sn } ⟨1,a,p, -1,0⟩ = { d with pl := d.pl.set p (-2 - (a : Int)),sn := sn } := by simp [doF]
    have hH2 : holdsF { d with pl := d.pl.set p (-2 - (a : Int)),sn := sn } a = (p : Nat) := by
      unfold holdsF
      simp only
      rw [if_neg (by omega)]; exact hidx
    have e2 : doF { d with pl := d.pl.set p (-2 - (a : Int)),sn := sn } ⟨2,a, -1,at_,0⟩ = { d with sn := sn.set p false } := by
      unfold doF
      simp only [hH2]
      simp only [Int.toNat_natCast,List.set_set,set_same hp]
      rfl
    refine ⟨⟨⟨hF 1 (.inl rfl),by simpa using hal,by simpa using hpl,by simp only; omega,?_⟩,?_,trivial⟩,?_⟩
    · refine ⟨fun h => absurd h (by simp),fun _ => ⟨by rw [hH]; omega,hhere sn 1⟩,fun _ => ?_,fun h => absurd h (by simp),fun h => absurd h (by simp)⟩
      unfold gB; simp [hsp]
    · rw [e1]
      refine ⟨hF2,by simpa using hal,by simp only [List.length_set]; omega,hok.2.1,?_⟩
      refine ⟨fun h => absurd h (by simp),fun h => absurd h (by simp),fun h => absurd h (by simp),fun h => absurd h (by simp),fun _ => ⟨by rw [hH2]; omega,⟨?_,?_⟩,?_⟩⟩
      · unfold targetF
        simp only
        rw [if_neg (by omega)]; omega
      · unfold targetF
        simp only
        rw [if_neg (by omega)]; exact hgS
      · unfold inF
        simp only
        rw [if_neg (by omega)]
        exact fun h => hat ((idx_mem _ _).1 h)
    · unfold doAll
      rw [List.foldl_cons,List.foldl_cons,List.foldl_nil,e1,e2]
  refine ⟨fun h => key d.sn hsn h,fun h => ?_⟩
  have e0 : doF d ⟨3,a,p, -1,0⟩ = { d with sn := d.sn.set p true } := by simp [doF]
  obtain ⟨k1,k2⟩ := key (d.sn.set p true) (by rw [List.length_set]; exact hsn) (by rw [List.getElem?_set_self (by omega)])
  refine ⟨⟨⟨hF 3 (.inr rfl),by simpa using hal,by simpa using hpl,by simp only; omega,?_⟩,?_⟩,?_⟩
  · refine ⟨fun h => absurd h (by simp),fun _ => ⟨show ¬ 0 ≤ holdsF d a by omega,hhere d.sn 3⟩,fun h => absurd h (by simp),fun _ => ?_,fun h => absurd h (by simp)⟩
    unfold gB; simp [h]
  · rw [e0]; exact k1
  · unfold doAll at k2 ⊢
    rw [List.foldl_cons,e0,k2,List.set_set]
end
end Vg.G3
/- slices.Insert of one step ahead of two that fill their row: a new row (after the kit's walk of the road without room). -/
namespace Vg.G3
open Go Lg Go.RowKit Go.Proofs
set_option maxHeartbeats 2000000
set_option maxRecDepth 100000
set_option linter.unusedVariables false
set_option linter.unusedSimpArgs false
theorem run_copy_wide {P : Program} (w : World) (dT sT ty elem : TypeId) (es b o dLen dCap : Nat) (a : Addr) (sLen sCap : Nat) (cs : List Value)
    (hu : P.underlying dT = some (.slice elem)) (hs : (P.info? elem).map (·.size) = some es) (hn : cs.length = Nat.min sLen dLen * es)
    (hsrc : ∀ j v,cs[j]? = some v → w.cell? (a.add j) = some v) (hc : ∀ j,j < cs.length → (w.cell? ⟨b,o + j,none⟩).isSome = true) (hf : ∀ j,j < cs.length → w.frozen? ⟨b,o + j,none⟩ = false) (h1 : ∀ v ∈ cs,v.oneCell' = true) :
    (Builtin.copy_ #[dT,sT] ty #[.slice (some ⟨b,o,none⟩) dLen dCap,.slice (some a) sLen sCap]).run P w = .ok (goInt (Nat.min sLen dLen : Nat)) (w.setCells b o cs) := by
  have hl := run_loadCells_list (P := P) w a cs hsrc
  have hst := run_storeCells_cells (P := P) b o cs 0 w (by simpa using hc) (by simpa using hf) h1
  cases hq : P.info? elem with
  | none => simp [hq] at hs
  | some i =>
    have hi : i.size = es := by simpa [hq] using hs
    simp [Builtin.copy_,run_underlying hu,Builtin.lenOf,Builtin.firstCells,Go.sizeOf,typeInfo,hq,hi,← hn,hl,hst]
/-- A step's cells. -/
def stC (s : Stp) : List Value := [.int .i64 s.k,.int .i64 s.a,.int .i64 s.p,.int .i64 s.s,.int .i64 s.t]
theorem c_insert0 (b vb : Nat) (vs cs : List Value) (hvl : vs.length = 5) (hcl : cs.length = 10) (h1v : ∀ v ∈ vs,v.oneCell' = true) (h1c : ∀ v ∈ cs,v.oneCell' = true) (w : World) (hcs : ∀ j v,cs[j]? = some v → w.cell? ⟨b,0 + j,none⟩ = some v) (hvs : ∀ j v,vs[j]? = some v → w.cell? ⟨vb,0 + j,none⟩ = some v) :
    Calls Try.prog 12 #[.slice (some ⟨b,0,none⟩) 2 2,.int .i64 0,.slice (some ⟨vb,0,none⟩) 1 1] w fun e w' =>
      e = .returned (.slice (some ⟨w.heap.size,0,none⟩) 3 (grownCap w 3 2 39)) ∧
      ∃ ROW : Array Value,15 ≤ ROW.size ∧ w' = (((w.alloc (.cells ROW 39)).drew.setCells w.heap.size 0 vs).drew).setCells w.heap.size 5 cs := by
  obtain ⟨i0,hi0,hz0,hzs,hzb⟩ := info_parts (P := Try.prog) (e := 39) (z := .agg #[.int .i64 0,.int .i64 0,.int .i64 0,.int .i64 0,.int .i64 0]) (size := 5) (bytes := 40) (by kernel_rfl)
  have hsz : (Try.prog.info? 39).map (·.size) = some 5 := by rw [hi0]; simp [hzs]
  have hbw : b < w.heap.size := block_lt_of_cell (hcs 0 _ (List.getElem?_eq_getElem (by omega)))
  have hvw : vb < w.heap.size := block_lt_of_cell (hvs 0 _ (List.getElem?_eq_getElem (by omega)))
  have hold : (Builtin.firstCells i0.size 0 (.slice (some ⟨b,0,none⟩) 0 2)).run Try.prog w.drew = .ok ([] : List Value).toArray w.drew :=
    run_firstCells_some w.drew i0.size 0 ⟨b,0,none⟩ 0 2 [] (by simp) (fun j v hj => by simp at hj)
  have hrz : ∀ ty,(Builtin.append_ #[40,3] ty #[.slice (some ⟨b,0,none⟩) 0 2,.int .i64 3]).run Try.prog w =
      .ok (.slice (some ⟨w.heap.size,0,none⟩) 3 (grownCap w 3 2 39)) (w.drew.alloc (.cells (([] : List Value).toArray ++ Builtin.zeroCells (Value.agg #[.int .i64 0,.int .i64 0,.int .i64 0,.int .i64 0,.int .i64 0]).cells 3 ++ Builtin.zeroCells (Value.agg #[.int .i64 0,.int .i64 0,.int .i64 0,.int .i64 0,.int .i64 0]).cells (grownCap w 3 2 39 - 3)) 39)) := fun ty =>
    Lib.run_append_grow_zeros w 40 3 ty 39 i0 _ .i64 .i64 Try.underlying40 Try.underlying3 hi0 hz0 (some ⟨b,0,none⟩) 0 2 [] hold 3 (by decide) (by omega) (by omega) (by decide) (by rw [hzb]; decide) (by rw [hzb]; exact growslice_fits (by decide) (by decide))
  obtain ⟨G,hG⟩ : ∃ G,G = grownCap w 3 2 39 := ⟨_,rfl⟩
  obtain ⟨ROW,hROW⟩ : ∃ ROW : Array Value,ROW = ([] : List Value).toArray ++ Builtin.zeroCells (Value.agg #[.int .i64 0,.int .i64 0,.int .i64 0,.int .i64 0,.int .i64 0]).cells 3 ++ Builtin.zeroCells (Value.agg #[.int .i64 0,.int .i64 0,.int .i64 0,.int .i64 0,.int .i64 0]).cells (G - 3) := ⟨_,rfl⟩
  rw [← hG] at hrz ⊢
  rw [← hROW] at hrz
  have hRl : 15 ≤ ROW.size := by
    rw [hROW]
    simp [Builtin.zeroCells,Value.cells]
  obtain ⟨W1,hW1⟩ : ∃ W1,W1 = w.drew.alloc (.cells ROW 39) := ⟨_,rfl⟩
  rw [← hW1] at hrz
  have hN : ∀ j,j < 15 → (W1.cell? ⟨w.heap.size,j,none⟩).isSome = true := fun j hj => by
    rw [hW1,World.cell?_alloc_at (w := w.drew) ROW _ w.heap.size j rfl,Array.getElem?_eq_getElem (by omega)]; rfl
  have hNf : ∀ j,W1.frozen? ⟨w.heap.size,j,none⟩ = false := fun j => by rw [hW1]; exact World.frozen?_alloc_at (w := w.drew) ROW _ w.heap.size j rfl
  have hOb : ∀ j v,w.cell? ⟨b,j,none⟩ = some v → W1.cell? ⟨b,j,none⟩ = some v := fun j v h => by rw [hW1,World.cell?_alloc_past (w := w.drew) _ b j hbw]; exact h
  have hOv : ∀ j v,w.cell? ⟨vb,j,none⟩ = some v → W1.cell? ⟨vb,j,none⟩ = some v := fun j v h => by rw [hW1,World.cell?_alloc_past (w := w.drew) _ vb j hvw]; exact h
  have hcpA : ∀ (W : World),(∀ x,W.cell? x = W1.cell? x) → (∀ x,W.frozen? x = W1.frozen? x) → ∀ ty dc,(Builtin.copy_ #[40,40] ty #[.slice (some ⟨w.heap.size,0,none⟩) 3 dc,.slice (some ⟨vb,0,none⟩) 1 1]).run Try.prog W = .ok (goInt (1 : Nat)) (W.setCells w.heap.size 0 vs) := fun W hWc hWf ty dc =>
    run_copy_wide W 40 40 ty 39 5 w.heap.size 0 3 dc ⟨vb,0,none⟩ 1 1 vs Try.underlying40 hsz (by rw [hvl]; rfl)
      (fun j v hj => by rw [Addr.add_lit,hWc]; exact hOv _ v (hvs j v hj))
      (fun j hj => by rw [hWc]; exact hN _ (by omega)) (fun j hj => by rw [hWf]; exact hNf _) h1v
  have hbN : b ≠ w.heap.size := by omega
  have hcpB : ∀ (W : World),(∀ x,W.cell? x = (W1.setCells w.heap.size 0 vs).cell? x) → (∀ x,W.frozen? x = (W1.setCells w.heap.size 0 vs).frozen? x) → ∀ ty dc sc,(Builtin.copy_ #[40,40] ty #[.slice (some ⟨w.heap.size,5,none⟩) 2 dc,.slice (some ⟨b,0,none⟩) 2 sc]).run Try.prog W = .ok (goInt (2 : Nat)) (W.setCells w.heap.size 5 cs) := fun W hWc hWf ty dc sc =>
    run_copy_wide W 40 40 ty 39 5 w.heap.size 5 2 dc ⟨b,0,none⟩ 2 sc cs Try.underlying40 hsz (by rw [hcl]; rfl)
      (fun j v hj => by
        rw [Addr.add_lit,hWc,World.cell?_setCells_out _ _ _ _ _ (fun h _ => absurd h hbN)]
        exact hOb _ v (hcs j v hj))
      (fun j hj => by
        rw [hWc]; exact isSome_setCells _ _ _ _ (fun t ht => hN _ (by omega)) _ (hN _ (by omega)))
      (fun j hj => by rw [hWf,World.frozen?_setCells]; exact hNf _) h1c
  have hGn : 3 ≤ G := by rw [hG]; exact grownCap_ge w _ _ _
  have hG63 : G ≤ 9223372036854775807 := by
    have := grownCap_le_maxLen w 3 2 39 (by unfold maxLen; omega)
    rw [← hG] at this
    unfold maxLen at this
    omega
  subst hW1
  have hE1 : ∀ x,((w.alloc (.cells ROW 39)).drew).cell? x = (w.drew.alloc (.cells ROW 39)).cell? x := fun x => rfl
  have hE2 : ∀ x,((w.alloc (.cells ROW 39)).drew).frozen? x = (w.drew.alloc (.cells ROW 39)).frozen? x := fun x => rfl
  have hF1 : ∀ x,(((w.alloc (.cells ROW 39)).drew.setCells w.heap.size 0 vs).drew).cell? x = ((w.drew.alloc (.cells ROW 39)).setCells w.heap.size 0 vs).cell? x := fun x => rfl
  have hF2 : ∀ x,(((w.alloc (.cells ROW 39)).drew.setCells w.heap.size 0 vs).drew).frozen? x = ((w.drew.alloc (.cells ROW 39)).setCells w.heap.size 0 vs).frozen? x := fun x => rfl
  clear hold hROW hG
  have hw1 : IntKind.i64.wrap 1 = 1 := by decide
  have hG1 : ¬ (G = 1) := by omega
  have hG0 : ¬ (G = 0) := by omega
  go_enter Try.func12,Try.ntmps12
  go_wp2_with (first
    | (at_builtin; refine Lib.wpList_append_run _ rfl _ _ _ _ rfl _ _ rfl rfl _ _ (hrz _) ?_)
    | (at_builtin; refine wpList_copy_runI _ rfl _ _ 40 40 rfl _ _ rfl rfl (hcpA _ hE1 hE2 _ _) ?_)
    | (at_builtin; refine wpList_copy_runI _ rfl _ _ 40 40 rfl _ _ rfl rfl (hcpB _ (fun _ => rfl) (fun _ => rfl) _ _ _) ?_))
  go_region_law (refine step_copy_runI rfl _ _ 40 40 rfl (.slice (some ⟨w.heap.size,5,none⟩) 2 (G - 1)) (.slice (some ⟨b,0,none⟩) 2 2) (by simp [Act.eval,Act.put]) (by simp [Act.eval,Act.put]) (hcpB _ hF1 hF2 3 (G - 1) 2) ?_)
  go_wp2
  go_ret
  exact ⟨rfl,ROW,hRl,rfl⟩
end Vg.G3
/- slices.Insert and act.Run as contracts. -/
namespace Vg.G3
open Go Lg Go.RowKit Go.Proofs
set_option maxHeartbeats 2000000
set_option maxRecDepth 100000
set_option linter.unusedVariables false
set_option linter.unusedSimpArgs false
theorem stC_one (s : Stp) : ∀ v ∈ stC s,v.oneCell' = true := fun v hv => by
  simp only [stC,List.mem_cons,List.not_mem_nil,or_false] at hv
  rcases hv with rfl | rfl | rfl | rfl | rfl <;> rfl
theorem stC_sc (s : Stp) (j : Nat) (v : VV) (h : (fS s)[j]? = some v) : (stC s)[j]? = some (scV v) := by
  match j with
  | 0 => cases h; rfl
  | 1 => cases h; rfl
  | 2 => cases h; rfl
  | 3 => cases h; rfl
  | 4 => cases h; rfl
  | j + 5 => simp [fS] at h
theorem c_insert (b vb : Nat) (s0 s1 s2 : Stp) (w : World) (hcs : ∀ j v,(stC s1 ++ stC s2)[j]? = some v → w.cell? ⟨b,0 + j,none⟩ = some v) (hvs : ∀ j v,(stC s0)[j]? = some v → w.cell? ⟨vb,0 + j,none⟩ = some v) :
    Calls Try.prog 12 #[.slice (some ⟨b,0,none⟩) 2 2,.int .i64 0,.slice (some ⟨vb,0,none⟩) 1 1] w fun e w' => (∃ ao cap,e = .returned (.slice ao 3 cap) ∧ WRows 5 w' (.slice ao 3 cap) ([s0,s1,s2].map fS)) ∧ Below w.heap.size w w' := by
  refine (c_insert0 b vb (stC s0) (stC s1 ++ stC s2) rfl rfl (stC_one s0) (fun v hv => by rcases List.mem_append.1 hv with h | h <;> exact stC_one _ v h) w hcs hvs).mono ?_
  rintro e w' ⟨rfl,ROW,hR,rfl⟩
  generalize hvs' : stC s0 = vs at *
  generalize hcs' : stC s1 ++ stC s2 = cs at *
  have hvl : vs.length = 5 := by rw [← hvs']; rfl
  have hcl : cs.length = 10 := by rw [← hcs']; rfl
  have hA : ∀ i,i < 15 → ((w.alloc (.cells ROW 39)).drew.cell? ⟨w.heap.size,i,none⟩).isSome = true := fun i hi => by
    rw [World.cell?_drew,World.cell?_alloc_at (w := w) ROW _ w.heap.size i rfl,Array.getElem?_eq_getElem (by omega)]; rfl
  have h1 : ∀ j v,vs[j]? = some v → ((((w.alloc (.cells ROW 39)).drew.setCells w.heap.size 0 vs).drew).setCells w.heap.size 5 cs).cell? ⟨w.heap.size,j,none⟩ = some v := fun j v hj => by
    have hjl := (List.getElem?_eq_some_iff.1 hj).1
    rw [World.cell?_setCells_out _ _ _ _ _ (fun _ _ => Or.inl (show j < 5 by omega)),World.cell?_drew]
    have := World.cell?_setCells_in w.heap.size vs 0 (w.alloc (.cells ROW 39)).drew (fun i hi => by rw [Nat.zero_add]; exact hA i (by omega)) j hjl
    rw [Nat.zero_add] at this
    rw [this]
    exact (List.getElem?_eq_getElem hjl).symm.trans hj
  have h2 : ∀ j v,cs[j]? = some v → ((((w.alloc (.cells ROW 39)).drew.setCells w.heap.size 0 vs).drew).setCells w.heap.size 5 cs).cell? ⟨w.heap.size,5 + j,none⟩ = some v := fun j v hj => by
    have hjl := (List.getElem?_eq_some_iff.1 hj).1
    rw [World.cell?_setCells_in w.heap.size cs 5 _ (fun i hi => by rw [World.cell?_drew]; exact isSome_setCells _ _ _ _ (fun t ht => by rw [Nat.zero_add]; exact hA t (by omega)) _ (hA _ (by omega))) j hjl]
    exact (List.getElem?_eq_getElem hjl).symm.trans hj
  refine ⟨⟨_,_,rfl,.inr ⟨w.heap.size,0,_,rfl,grownCap_ge w 3 2 39,?_,fun i row j v hi hj => ?_⟩⟩,?_⟩
  · have hs : ∀ (vs : List Value) (o : Nat) (W : World),(W.setCells w.heap.size o vs).heap.size = W.heap.size := fun vs => by
      induction vs with
      | nil => intro o W; rfl
      | cons v r ih => intro o W; rw [World.setCells,ih]; simp
    rw [hs]
    show _ < (World.setCells _ _ _ _).heap.size
    rw [hs]
    show _ < (w.alloc _).heap.size
    simp
  · subst hvs' hcs'
    match i,hi with
    | 0,hi =>
      cases hi
      have := h1 j _ (stC_sc s0 j v hj)
      simp only [Nat.zero_mul,Nat.zero_add]; exact this
    | 1,hi =>
      cases hi
      have hjl := (List.getElem?_eq_some_iff.1 hj).1
      have hjl' : j < 5 := hjl
      have := h2 j _ (by rw [List.getElem?_append_left (show j < (stC s1).length from hjl)]; exact stC_sc s1 j v hj)
      rw [Nat.zero_add]; exact this
    | 2,hi =>
      cases hi
      have hjl : j < 5 := (List.getElem?_eq_some_iff.1 hj).1
      have := h2 (5 + j) _ (by rw [List.getElem?_append_right (show (stC s1).length ≤ 5 + j by show 5 ≤ 5 + j; omega),show 5 + j - (stC s1).length = j by show 5 + j - 5 = j; omega]; exact stC_sc s2 j v hj)
      rw [← Nat.add_assoc] at this
      rw [Nat.zero_add]; exact this
    | i + 3,hi => simp at hi
  · exact Lg.Below.setCells _ (Nat.le_refl _) _ _ _ ((Lg.Below.setCells _ (Nat.le_refl _) _ _ _ ((Below.refl _ w).alloc (Nat.le_refl _) _).drew).drew)
theorem wrows_form {es : Nat} {w : World} {x : Value} {rows : List (List VV)} (h : WRows es w x rows) : ∃ a c,x = .slice a rows.length c := by
  rcases h with ⟨rfl,rfl | ⟨a,rfl⟩ | ⟨b,off,cap,rfl⟩⟩ | ⟨b,off,cap,rfl, -, -, -⟩ <;> exact ⟨_,_,rfl⟩
/-- A world,with its slices written out. -/
theorem WorldAt.form {w : World} {x : Value} {d : Wd} (h : WorldAt w x d) : ∃ a1 c1 a2 c2 a3 c3,x = .agg #[.int .i64 d.sl,.slice a1 d.pl.length c1,.slice a2 d.sn.length c2,.slice a3 d.sp.length c3] := by
  obtain ⟨s1,s2,s3,rfl,x1,x2,x3⟩ := h
  obtain ⟨a1,c1,rfl⟩ := wrows_form x1
  obtain ⟨a2,c2,rfl⟩ := wrows_form x2
  obtain ⟨a3,c3,rfl⟩ := wrows_form x3
  exact ⟨a1,c1,a2,c2,a3,c3,by simp only [List.length_map]⟩
/-- Can of a step that can be done. -/
theorem c_can {d : Wd} (hd : Ok d) {s : Stp} (hc : canF d s) {x : Value} {w : World} (hx : WorldAt w x d) : Calls Try.prog 33 #[x,stV s] w fun e w' => e = .returned (.int .i64 0) ∧ Below w.heap.size w w' := by
  obtain ⟨ρ,h,l,R, -, -, -,hv,hr⟩ := at_world (Rep.start w) Rep.start_ro hx
  obtain ⟨e,he,hC⟩ := Can_spec hd s
  obtain rfl := he.2 hc
  refine (calls_any lp_ok vp_link (hC 0 []) R (vs := #[x,stV s]) (.cons hv (.cons (st_vr _ _) (.nil _))) (.cons (rv0 hr) (.cons (st_rv _ _ _ _) .nil))).mono ?_
  rintro e w' ⟨y,ρ',lh',l,o,φ,rfl, -,hx,hv,hb⟩
  rw [sc_val hv hx rfl]
  exact ⟨rfl,hb⟩
end Vg.G3
