import Derived.Test.YtpoofafddbcnpaaVXD
import Derived.Deep.RegionHeld3
import Derived.Deep.Cut
import Derived.Handy
namespace Vg.G3
open Go Lg Go.RowKit Go.Proofs
set_option maxHeartbeats 2000000
set_option maxRecDepth 100000
set_option linter.unusedVariables false
set_option linter.unusedSimpArgs false
theorem held_calls (a : Int) (h1 : 0 ≤ a) (h2 : a ≤ 100000) (w : World) : Calls Try.prog 44 #[.int .i64 a] w fun e w' => e = .returned (.int .i64 (-2 - a)) ∧ w' = w := by
  go_enter Try.func44,Try.ntmps44
  go_wp2
  go_ret
  exact ⟨rfl,rfl⟩
theorem out_cells (w : World) (a b c e : Value) (t : Nat) : (w.alloc (.cells #[a,b,c,e] t (0,0))).cell? ⟨w.heap.size,0,none⟩ = some a ∧ (w.alloc (.cells #[a,b,c,e] t (0,0))).cell? ⟨w.heap.size,1,none⟩ = some b ∧ (w.alloc (.cells #[a,b,c,e] t (0,0))).cell? ⟨w.heap.size,2,none⟩ = some c ∧ (w.alloc (.cells #[a,b,c,e] t (0,0))).cell? ⟨w.heap.size,3,none⟩ = some e := by
  have E := heap_alloc_new w (.cells #[a,b,c,e] t (0,0))
  simp only [World.cell?,E]
  exact ⟨rfl,rfl,rfl,rfl⟩
theorem OwnW.weaken {N N' : Nat} {W : World} {b1 o1 b2 o2 b3 o3 : Nat} {d : Wd} (h : OwnW N W b1 o1 b2 o2 b3 o3 d) (hn : N' ≤ N) : OwnW N' W b1 o1 b2 o2 b3 o3 d :=
  { h with n1 := ⟨Nat.le_trans hn h.n1.1,h.n1.2⟩,n2 := ⟨Nat.le_trans hn h.n2.1,h.n2.2⟩,n3 := ⟨Nat.le_trans hn h.n3.1,h.n3.2⟩ }
theorem OwnW.drew {N : Nat} {W : World} {b1 o1 b2 o2 b3 o3 : Nat} {d : Wd} (h : OwnW N W b1 o1 b2 o2 b3 o3 d) : OwnW N W.drew b1 o1 b2 o2 b3 o3 d := h.below ((Below.refl _ _).drew)
theorem do_fin {N B b : Nat} {w W : World} {b1 o1 b2 o2 b3 o3 : Nat} {d : Wd} {y0 y1 y2 y3 : Value} (R0 : W.cell? ⟨b,0,none⟩ = some y0) (R1 : W.cell? ⟨b,1,none⟩ = some y1) (R2 : W.cell? ⟨b,2,none⟩ = some y2) (R3 : W.cell? ⟨b,3,none⟩ = some y3)
    (hO : OwnW N W b1 o1 b2 o2 b3 o3 d) (hb : b < N) (hB : Below B w W) (hBb : B ≤ b) (x0 x1 x2 x3 : Value) :
    OwnW N ((((W.setCell ⟨b,0,none⟩ x0).setCell ⟨b,1,none⟩ x1).setCell ⟨b,2,none⟩ x2).setCell ⟨b,3,none⟩ x3) b1 o1 b2 o2 b3 o3 d ∧ Below B w ((((W.setCell ⟨b,0,none⟩ x0).setCell ⟨b,1,none⟩ x1).setCell ⟨b,2,none⟩ x2).setCell ⟨b,3,none⟩ x3) ∧
    ((((W.setCell ⟨b,0,none⟩ x0).setCell ⟨b,1,none⟩ x1).setCell ⟨b,2,none⟩ x2).setCell ⟨b,3,none⟩ x3).cell? ⟨b,0,none⟩ = some x0 ∧ ((((W.setCell ⟨b,0,none⟩ x0).setCell ⟨b,1,none⟩ x1).setCell ⟨b,2,none⟩ x2).setCell ⟨b,3,none⟩ x3).cell? ⟨b,1,none⟩ = some x1 ∧
    ((((W.setCell ⟨b,0,none⟩ x0).setCell ⟨b,1,none⟩ x1).setCell ⟨b,2,none⟩ x2).setCell ⟨b,3,none⟩ x3).cell? ⟨b,2,none⟩ = some x2 ∧ ((((W.setCell ⟨b,0,none⟩ x0).setCell ⟨b,1,none⟩ x1).setCell ⟨b,2,none⟩ x2).setCell ⟨b,3,none⟩ x3).cell? ⟨b,3,none⟩ = some x3 := by
  have ne : ∀ i j : Nat,i ≠ j → (⟨b,i,none⟩ : Addr) ≠ ⟨b,j,none⟩ := fun i j h e => by injection e with _ e; exact h e
  have ot : ∀ (W : World) (i j : Nat) (v : Value),i ≠ j → (W.setCell ⟨b,i,none⟩ v).cell? ⟨b,j,none⟩ = W.cell? ⟨b,j,none⟩ := fun W i j v h => World.cell?_setCell_other _ _ _ _ (ne i j h)
  refine ⟨(((hO.store (a := ⟨b,0,none⟩) hb _).store (a := ⟨b,1,none⟩) hb _).store (a := ⟨b,2,none⟩) hb _).store (a := ⟨b,3,none⟩) hb _,(((hB.setCell (p := ⟨b,0,none⟩) hBb _).setCell (p := ⟨b,1,none⟩) hBb _).setCell (p := ⟨b,2,none⟩) hBb _).setCell (p := ⟨b,3,none⟩) hBb _,?_,?_,?_,?_⟩
  · rw [ot _ 3 0 _ (by decide),ot _ 2 0 _ (by decide),ot _ 1 0 _ (by decide)]; exact World.cell?_setCell_same _ _ _ R0
  · rw [ot _ 3 1 _ (by decide),ot _ 2 1 _ (by decide)]; exact World.cell?_setCell_same _ _ _ (by rw [ot _ 0 1 _ (by decide)]; exact R1)
  · rw [ot _ 3 2 _ (by decide)]; exact World.cell?_setCell_same _ _ _ (by rw [ot _ 1 2 _ (by decide),ot _ 0 2 _ (by decide)]; exact R2)
  · exact World.cell?_setCell_same _ _ _ (by rw [ot _ 2 3 _ (by decide),ot _ 1 3 _ (by decide),ot _ 0 3 _ (by decide)]; exact R3)
/-- Do of a step that takes,puts or looks: the lists of the new works are new. -/
theorem do_own {d : Wd} (hd : Ok d) (h1 : 1 ≤ d.pl.length) (h2 : 1 ≤ d.sp.length) {s : Stp} (hk : s.k = 1 ∨ s.k = 2 ∨ s.k = 3) (hc : canF d s) {x : Value} {w : World} (hx : WorldAt w x d) :
    Calls Try.prog 38 #[x,stV s] w fun e w' => (∃ b1 o1 b2 o2 b3 o3 k1 k2 k3,e = .returned (.tuple #[ownV (doF d s) b1 o1 b2 o2 b3 o3 k1 k2 k3,.int .i64 0]) ∧ OwnW w.heap.size w' b1 o1 b2 o2 b3 o3 (doF d s) ∧ d.pl.length ≤ k1 ∧ d.sn.length ≤ k2 ∧ d.sp.length ≤ k3) ∧ Below w.heap.size w w' := by
  have hx0 := hx
  obtain ⟨a1,n1,a2,n2,a3,n3,rfl⟩ := hx.form
  obtain ⟨L1,hL1⟩ : ∃ L,d.pl.length = L := ⟨_,rfl⟩
  obtain ⟨L2,hL2⟩ : ∃ L,d.sn.length = L := ⟨_,rfl⟩
  obtain ⟨L3,hL3⟩ : ∃ L,d.sp.length = L := ⟨_,rfl⟩
  rw [hL1,hL2,hL3] at hx0 ⊢
  obtain ⟨X,hX⟩ : ∃ X,X = Value.agg #[.int .i64 d.sl,.slice a1 L1 n1,.slice a2 L2 n2,.slice a3 L3 n3] := ⟨_,rfl⟩
  rw [← hX] at hx0
  obtain ⟨k,a,p,q,t⟩ := s
  simp only [stV]
  subst hX
  obtain ⟨f1,f2,f3,f4,f5⟩ := form_arm hc.1
  obtain ⟨-,hc1,hc2,hc3,hm⟩ := id hc
  have hpl := hd.pl
  have hsp := hd.sp
  rw [hL1] at hpl
  rw [hL3] at hsp
  simp only [hL1,hL3] at f1 f2 f3 f4 f5 hc1 hc2 hc3
  go_enter Try.func38,Try.ntmps38
  obtain ⟨W0,hW0⟩ : ∃ W0,W0 = (((w.alloc (Obj.cells #[.int .i64 d.sl,.slice a1 L1 n1,.slice a2 L2 n2,.slice a3 L3 n3] 25)).alloc (Obj.cells #[.int .i64 k,.int .i64 a,.int .i64 p,.int .i64 q,.int .i64 t] 39)).alloc (Obj.cells #[.int .i64 0,.slice none 0 0,.slice none 0 0,.slice none 0 0] 25)) := ⟨_,rfl⟩
  have hb0 : Below w.heap.size w W0 := by rw [hW0]; exact (((Below.refl _ w).alloc (Nat.le_refl _) _).alloc (by simp) _).alloc (by simp <;> omega) _
  have hA0 := hx0.mono hb0
  clear hx
  have hsz0 : W0.heap.size = w.heap.size + 1 + 1 + 1 := by rw [hW0]; simp
  have q0 : W0.heap[w.heap.size]? = some (Obj.cells #[.int .i64 d.sl,.slice a1 L1 n1,.slice a2 L2 n2,.slice a3 L3 n3] 25 (0,0)) := by
    rw [hW0,heap_alloc_old _ _ (by simp <;> omega),heap_alloc_old _ _ (by simp)]; exact heap_alloc_new w _
  have q1 : W0.heap[w.heap.size + 1]? = some (Obj.cells #[.int .i64 k,.int .i64 a,.int .i64 p,.int .i64 q,.int .i64 t] 39 (0,0)) := by
    rw [hW0,heap_alloc_old _ _ (by simp)]
    have := heap_alloc_new (w.alloc (Obj.cells #[.int .i64 d.sl,.slice a1 L1 n1,.slice a2 L2 n2,.slice a3 L3 n3] 25)) (Obj.cells #[.int .i64 k,.int .i64 a,.int .i64 p,.int .i64 q,.int .i64 t] 39)
    rwa [show (w.alloc (Obj.cells #[.int .i64 d.sl,.slice a1 L1 n1,.slice a2 L2 n2,.slice a3 L3 n3] 25)).heap.size = w.heap.size + 1 by simp] at this
  have hK : ∀ W,Below W0.heap.size W0 W → W.cell? ⟨w.heap.size,0,none⟩ = some (.int .i64 d.sl) ∧ W.cell? ⟨w.heap.size,1,none⟩ = some (.slice a1 L1 n1) ∧ W.cell? ⟨w.heap.size,2,none⟩ = some (.slice a2 L2 n2) ∧ W.cell? ⟨w.heap.size,3,none⟩ = some (.slice a3 L3 n3) := fun W hW => by
    rw [hW.cell (by simp only [hsz0]; omega),hW.cell (by simp only [hsz0]; omega),hW.cell (by simp only [hsz0]; omega),hW.cell (by simp only [hsz0]; omega)]
    simp only [World.cell?,q0]
    exact ⟨rfl,rfl,rfl,rfl⟩
  have hS : ∀ W,Below W0.heap.size W0 W → W.cell? ⟨w.heap.size + 1,0,none⟩ = some (.int .i64 k) ∧ W.cell? ⟨w.heap.size + 1,1,none⟩ = some (.int .i64 a) ∧ W.cell? ⟨w.heap.size + 1,2,none⟩ = some (.int .i64 p) ∧ W.cell? ⟨w.heap.size + 1,3,none⟩ = some (.int .i64 q) := fun W hW => by
    rw [hW.cell (by simp only [hsz0]; omega),hW.cell (by simp only [hsz0]; omega),hW.cell (by simp only [hsz0]; omega),hW.cell (by simp only [hsz0]; omega)]
    simp only [World.cell?,q1]
    exact ⟨rfl,rfl,rfl,rfl⟩
  have q2 : W0.heap[w.heap.size + 1 + 1]? = some (Obj.cells #[.int .i64 0,.slice none 0 0,.slice none 0 0,.slice none 0 0] 25 (0,0)) := by
    rw [hW0]
    have := heap_alloc_new ((w.alloc (Obj.cells #[.int .i64 d.sl,.slice a1 L1 n1,.slice a2 L2 n2,.slice a3 L3 n3] 25)).alloc (Obj.cells #[.int .i64 k,.int .i64 a,.int .i64 p,.int .i64 q,.int .i64 t] 39)) (Obj.cells #[.int .i64 0,.slice none 0 0,.slice none 0 0,.slice none 0 0] 25)
    rwa [show ((w.alloc (Obj.cells #[.int .i64 d.sl,.slice a1 L1 n1,.slice a2 L2 n2,.slice a3 L3 n3] 25)).alloc (Obj.cells #[.int .i64 k,.int .i64 a,.int .i64 p,.int .i64 q,.int .i64 t] 39)).heap.size = w.heap.size + 1 + 1 by simp] at this
  have hR : ∀ W,Below W0.heap.size W0 W → (W.cell? ⟨w.heap.size + 1 + 1,0,none⟩ = some (.int .i64 0) ∧ W.cell? ⟨w.heap.size + 1 + 1,1,none⟩ = some (.slice none 0 0) ∧ W.cell? ⟨w.heap.size + 1 + 1,2,none⟩ = some (.slice none 0 0) ∧ W.cell? ⟨w.heap.size + 1 + 1,3,none⟩ = some (.slice none 0 0)) ∧ ∀ i,W.frozen? ⟨w.heap.size + 1 + 1,i,none⟩ = false := fun W hW => by
    refine ⟨?_,fun i => ?_⟩
    · rw [hW.cell (by simp only [hsz0]; omega),hW.cell (by simp only [hsz0]; omega),hW.cell (by simp only [hsz0]; omega),hW.cell (by simp only [hsz0]; omega)]
      simp only [World.cell?,q2]
      exact ⟨rfl,rfl,rfl,rfl⟩
    · rw [hW.frozen (by simp only [hsz0]; omega)]
      simp only [World.frozen?,q2]
      simp
  clear q2
  have hBW : ∀ W,Below W0.heap.size W0 W → Below w.heap.size w W := fun W h => hb0.trans (h.mono hb0.size)
  rcases hk with hk | hk | hk
  · have hk' : k = 1 := hk
    subst hk'
    have hp0 := f4 (.inl rfl)
    have hp1 : p < L1 := by have := hc2; omega
    obtain ⟨P,rfl⟩ : ∃ P : Nat,p = P := ⟨p.toNat,by omega⟩
    rw [show doF d ⟨1,a,P,q,t⟩ = { d with pl := d.pl.set P (-2 - a) } by simp [doF]]
    go_wp2_with (first
   | (rw [← hW0]; go_at_call 33; refine (c_can hd hc hA0).mono ?_; rintro e w2 ⟨rfl,hb2⟩; obtain ⟨k0,k1,k2,k3⟩ := hK w2 hb2)
       | (go_at_call 14; refine (c_copy hd.toSmall h1 h2 (hA0.mono hb2)).mono ?_; rintro e w3 ⟨⟨b1,o1,b2,o2,b3,o3,m1,m2,m3,rfl,hO,g1,g2,g3⟩,hb3⟩; unfold ownV; rw [hL1,hL2,hL3]
          have hb23 := hb2.trans (hb3.mono hb2.size)
          have hbO := fun o => hb23.alloc (Nat.le_trans hb2.size hb3.size) o
          have S4 := fun o => hS (w3.alloc o) (hbO o)
          have S40 := fun o => (S4 o).1
          have S41 := fun o => (S4 o).2.1
          have S42 := fun o => (S4 o).2.2.1
          have S43 := fun o => (S4 o).2.2.2
          have K4 := fun o => hK (w3.alloc o) (hbO o)
          have K40 := fun o => (K4 o).1
          have K41 := fun o => (K4 o).2.1
          have K42 := fun o => (K4 o).2.2.1
          have K43 := fun o => (K4 o).2.2.2
          clear S4 K4
          have hO4 := fun o => hO.below ((Below.refl w3.heap.size w3).alloc (Nat.le_refl _) o)
))
    obtain ⟨OUT,hOUT⟩ : ∃ OUT,OUT = Obj.cells #[.int .i64 d.sl,.slice (some ⟨b1,o1,none⟩) L1 m1,.slice (some ⟨b2,o2,none⟩) L2 m2,.slice (some ⟨b3,o3,none⟩) L3 m3] 25 (0,0) := ⟨_,rfl⟩
    obtain ⟨E0,E1,E2,E3⟩ := hOUT ▸ out_cells w3 (.int .i64 d.sl) (.slice (some ⟨b1,o1,none⟩) L1 m1) (.slice (some ⟨b2,o2,none⟩) L2 m2) (.slice (some ⟨b3,o3,none⟩) L3 m3) 25
    have hs2 := hb2.size
    have hn1 := hO.n1
    have hn2 := hO.n2
    have hn3 := hO.n3
    have hgt : w3.heap.size < (w3.alloc OUT).heap.size := by simp
    have hO4 := hO4 OUT
    have hbO := hbO OUT
    replace S40 := S40 OUT
    replace S41 := S41 OUT
    replace S42 := S42 OUT
    replace S43 := S43 OUT
    replace K40 := K40 OUT
    replace K41 := K41 OUT
    replace K42 := K42 OUT
    replace K43 := K43 OUT
    rw [← hOUT]
    generalize w3.alloc OUT = W4 at *
    obtain ⟨⟨R0,R1,R2,R3⟩,RF⟩ := hR W4 hbO
    have hP1 := hO4.c1 P _ (List.getElem?_eq_getElem (by omega))
    have hP2 := hO4.f1 P (by omega)
    have hne1 : b1 ≠ w3.heap.size := by omega
    have hne2 : b1 ≠ w.heap.size + 1 := by omega
    have hne5 : b1 ≠ w.heap.size + 1 + 1 := by omega
    have hne6 : w.heap.size + 1 + 1 ≠ b1 := by omega
    have hne3 : w3.heap.size ≠ b1 := by omega
    have hne4 : w.heap.size + 1 ≠ b1 := by omega
    go_region_held3 (fun W => W.cell? ⟨w3.heap.size,1,none⟩ = some (.slice (some ⟨b1,o1,none⟩) L1 m1) ∧ W.cell? ⟨w.heap.size + 1,1,none⟩ = some (.int .i64 a) ∧ W.cell? ⟨w.heap.size + 1,2,none⟩ = some (.int .i64 (P : Int))) (go_keep)
      (first | (go_at_call 44; refine (held_calls a f1 (by omega) _).mono ?_; rintro e w' ⟨rfl,rfl⟩))
    go_wp2
    have oth : ∀ i x,W4.cell? ⟨w.heap.size + 1 + 1,i,none⟩ = some x → (W4.setCell ⟨b1,o1 + P,none⟩ (.int .i64 (-2 - a))).cell? ⟨w.heap.size + 1 + 1,i,none⟩ = some x := fun i x h => by rw [World.cell?_setCell_other _ _ _ _ (fun e => by injection e with e _; omega)]; exact h
    obtain ⟨F1,F2,F3,F4,F5,F6⟩ := do_fin (b := w.heap.size + 1 + 1) (oth 0 _ R0) (oth 1 _ R1) (oth 2 _ R2) (oth 3 _ R3) (hO4.set1 (p := P) (by omega) (-2 - a)) (by omega) ((hBW _ hbO).setCell (p := ⟨b1,o1 + P,none⟩) (show w.heap.size ≤ b1 by omega) _) (by omega) (.int .i64 d.sl) (.slice (some ⟨b1,o1,none⟩) L1 m1) (.slice (some ⟨b2,o2,none⟩) L2 m2) (.slice (some ⟨b3,o3,none⟩) L3 m3)
    generalize ((((W4.setCell ⟨b1,o1 + P,none⟩ (.int .i64 (-2 - a))).setCell ⟨w.heap.size + 1 + 1,0,none⟩ (.int .i64 d.sl)).setCell ⟨w.heap.size + 1 + 1,1,none⟩ (.slice (some ⟨b1,o1,none⟩) L1 m1)).setCell ⟨w.heap.size + 1 + 1,2,none⟩ (.slice (some ⟨b2,o2,none⟩) L2 m2)).setCell ⟨w.heap.size + 1 + 1,3,none⟩ (.slice (some ⟨b3,o3,none⟩) L3 m3) = V at *
    try simp only [Exit.inBlock,Exit.then]
    refine bodyPost_ret (v := .tuple #[.agg #[.int .i64 d.sl,.slice (some ⟨b1,o1,none⟩) L1 m1,.slice (some ⟨b2,o2,none⟩) L2 m2,.slice (some ⟨b3,o3,none⟩) L3 m3],.int .i64 0]) (by simp [results,Try.results38,go_sem,F3,F4,F5,F6]) rfl ?_
    refine ⟨⟨b1,o1,b2,o2,b3,o3,m1,m2,m3,?_,F1.drew.weaken (by omega),by omega,by omega,by omega⟩,F2.drew⟩
    unfold ownV
    simp only [List.length_set,hL1,hL2,hL3]
  · have hk' : k = 2 := hk
    subst hk'
    have hq0 : 0 ≤ holdsF d a := (hm.2.2.2.2 rfl).1
    have hq1 := (holds_bnd d a).2
    obtain ⟨Q,hQ⟩ : ∃ Q : Nat,holdsF d a = Q := ⟨(holdsF d a).toNat,by omega⟩
    have hQl : Q < L1 := by omega
    rw [show doF d ⟨2,a,p,q,t⟩ = { d with pl := d.pl.set Q q,sn := d.sn.set Q false } by simp [doF,hQ]]
    go_upto_region 13 with (first
   | (rw [← hW0]; go_at_call 33; refine (c_can hd hc hA0).mono ?_; rintro e w2 ⟨rfl,hb2⟩; obtain ⟨k0,k1,k2,k3⟩ := hK w2 hb2)
       | (go_at_call 14; refine (c_copy hd.toSmall h1 h2 (hA0.mono hb2)).mono ?_; rintro e w3 ⟨⟨b1,o1,b2,o2,b3,o3,m1,m2,m3,rfl,hO,g1,g2,g3⟩,hb3⟩; unfold ownV; rw [hL1,hL2,hL3]
          have hb23 := hb2.trans (hb3.mono hb2.size)
          have hbO := fun o => hb23.alloc (Nat.le_trans hb2.size hb3.size) o
          have S4 := fun o => hS (w3.alloc o) (hbO o)
          have S40 := fun o => (S4 o).1
          have S41 := fun o => (S4 o).2.1
          have S42 := fun o => (S4 o).2.2.1
          have S43 := fun o => (S4 o).2.2.2
          have K4 := fun o => hK (w3.alloc o) (hbO o)
          have K40 := fun o => (K4 o).1
          have K41 := fun o => (K4 o).2.1
          have K42 := fun o => (K4 o).2.2.1
          have K43 := fun o => (K4 o).2.2.2
          clear S4 K4
          have hO4 := fun o => hO.below ((Below.refl w3.heap.size w3).alloc (Nat.le_refl _) o)
))
    obtain ⟨OUT,hOUT⟩ : ∃ OUT,OUT = Obj.cells #[.int .i64 d.sl,.slice (some ⟨b1,o1,none⟩) L1 m1,.slice (some ⟨b2,o2,none⟩) L2 m2,.slice (some ⟨b3,o3,none⟩) L3 m3] 25 (0,0) := ⟨_,rfl⟩
    obtain ⟨E0,E1,E2,E3⟩ := hOUT ▸ out_cells w3 (.int .i64 d.sl) (.slice (some ⟨b1,o1,none⟩) L1 m1) (.slice (some ⟨b2,o2,none⟩) L2 m2) (.slice (some ⟨b3,o3,none⟩) L3 m3) 25
    have hs2 := hb2.size
    have hn1 := hO.n1
    have hn2 := hO.n2
    have hn3 := hO.n3
    have hgt : w3.heap.size < (w3.alloc OUT).heap.size := by simp
    have hO4 := hO4 OUT
    have hbO := hbO OUT
    replace S40 := S40 OUT
    replace S41 := S41 OUT
    replace S42 := S42 OUT
    replace S43 := S43 OUT
    replace K40 := K40 OUT
    replace K41 := K41 OUT
    replace K42 := K42 OUT
    replace K43 := K43 OUT
    rw [← hOUT]
    generalize w3.alloc OUT = W4 at *
    obtain ⟨⟨R0,R1,R2,R3⟩,RF⟩ := hR W4 hbO
    have hcH := c_holds hd.toSmall a (hA0.mono hbO)
    rw [hQ] at hcH
    clear hQ
    go_upto_region 14 with (go_at_call 11; refine hcH.mono ?_; rintro e w5 ⟨rfl,hb5⟩)
    have hQ2 : Q < L2 := by have := hd.sn; omega
    have hlt3 : w3.heap.size < W4.heap.size := hgt
    have hsz5 := hb5.size
    have hbO5 : Below W0.heap.size W0 w5 := hbO.trans (hb5.mono hbO.size)
    have V1 := (hb5.cell (p := ⟨w3.heap.size,1,none⟩) hgt).trans E1
    have V2 := (hb5.cell (p := ⟨w3.heap.size,2,none⟩) hgt).trans E2
    have V3 := (hb5.cell (p := ⟨w3.heap.size,3,none⟩) hgt).trans E3
    have V0 := (hb5.cell (p := ⟨w3.heap.size,0,none⟩) hgt).trans E0
    have U3 := (hS w5 hbO5).2.2.2
    obtain ⟨⟨X0,X1,X2,X3⟩,XF⟩ := hR w5 hbO5
    have hO5 := hO4.below hb5
    clear hO4 hO E0 E1 E2 E3 S40 S41 S42 S43 K40 K41 K42 K43 R0 R1 R2 R3 RF
    have hP1 := hO5.c1 Q _ (List.getElem?_eq_getElem (by omega))
    have hP2 := hO5.f1 Q (by omega)
    have hO6 := hO5.set1 (p := Q) (by omega) q
    have hP3 := hO6.c2 Q _ (List.getElem?_eq_getElem (show Q < d.sn.length by omega))
    have hP4 := hO6.f2 Q (by show _ < d.sn.length; omega)
    have hO7 := hO6.set2 (p := Q) (by show _ < d.sn.length; omega) false
    have hP3' := hO5.c2 Q _ (List.getElem?_eq_getElem (show Q < d.sn.length by omega))
    have hP4' := hO5.f2 Q (by omega)
    have hd12 := hO5.d12 Q Q (by omega) (by omega)
    have hne1 : b1 ≠ w3.heap.size := by omega
    have hne2 : b1 ≠ w.heap.size + 1 := by omega
    have hne5 : b1 ≠ w.heap.size + 1 + 1 := by omega
    have hne6 : w.heap.size + 1 + 1 ≠ b1 := by omega
    have hne3 : w3.heap.size ≠ b1 := by omega
    have hne4 : w.heap.size + 1 ≠ b1 := by omega
    have he1 : b2 ≠ w3.heap.size := by omega
    have he2 : b2 ≠ w.heap.size + 1 := by omega
    have he5 : b2 ≠ w.heap.size + 1 + 1 := by omega
    have he6 : w.heap.size + 1 + 1 ≠ b2 := by omega
    have he3 : w3.heap.size ≠ b2 := by omega
    have he4 : w.heap.size + 1 ≠ b2 := by omega
    go_region_held3 (fun W => W.cell? ⟨w3.heap.size,1,none⟩ = some (.slice (some ⟨b1,o1,none⟩) L1 m1) ∧ W.cell? ⟨w3.heap.size,2,none⟩ = some (.slice (some ⟨b2,o2,none⟩) L2 m2) ∧ W.cell? ⟨w.heap.size + 1,3,none⟩ = some (.int .i64 q)) (go_keep) (fail)
    go_wp2
    have oth : ∀ i x,w5.cell? ⟨w.heap.size + 1 + 1,i,none⟩ = some x → ((w5.setCell ⟨b1,o1 + Q,none⟩ (.int .i64 q)).setCell ⟨b2,o2 + Q,none⟩ (.bool false)).cell? ⟨w.heap.size + 1 + 1,i,none⟩ = some x := fun i x h => by rw [World.cell?_setCell_other _ _ _ _ (fun e => by injection e with e _; omega),World.cell?_setCell_other _ _ _ _ (fun e => by injection e with e _; omega)]; exact h
    obtain ⟨F1,F2,F3,F4,F5,F6⟩ := do_fin (b := w.heap.size + 1 + 1) (oth 0 _ X0) (oth 1 _ X1) (oth 2 _ X2) (oth 3 _ X3) (hO7) (by omega) (((hBW _ hbO5).setCell (p := ⟨b1,o1 + Q,none⟩) (show w.heap.size ≤ b1 by omega) _).setCell (p := ⟨b2,o2 + Q,none⟩) (show w.heap.size ≤ b2 by omega) _) (by omega) (.int .i64 d.sl) (.slice (some ⟨b1,o1,none⟩) L1 m1) (.slice (some ⟨b2,o2,none⟩) L2 m2) (.slice (some ⟨b3,o3,none⟩) L3 m3)
    generalize (((((w5.setCell ⟨b1,o1 + Q,none⟩ (.int .i64 q)).setCell ⟨b2,o2 + Q,none⟩ (.bool false)).setCell ⟨w.heap.size + 1 + 1,0,none⟩ (.int .i64 d.sl)).setCell ⟨w.heap.size + 1 + 1,1,none⟩ (.slice (some ⟨b1,o1,none⟩) L1 m1)).setCell ⟨w.heap.size + 1 + 1,2,none⟩ (.slice (some ⟨b2,o2,none⟩) L2 m2)).setCell ⟨w.heap.size + 1 + 1,3,none⟩ (.slice (some ⟨b3,o3,none⟩) L3 m3) = V at *
    try simp only [Exit.inBlock,Exit.then]
    refine bodyPost_ret (v := .tuple #[.agg #[.int .i64 d.sl,.slice (some ⟨b1,o1,none⟩) L1 m1,.slice (some ⟨b2,o2,none⟩) L2 m2,.slice (some ⟨b3,o3,none⟩) L3 m3],.int .i64 0]) (by simp [results,Try.results38,go_sem,F3,F4,F5,F6]) rfl ?_
    refine ⟨⟨b1,o1,b2,o2,b3,o3,m1,m2,m3,?_,F1.drew.weaken (by omega),by omega,by omega,by omega⟩,F2.drew⟩
    unfold ownV
    simp only [List.length_set,hL1,hL2,hL3]
  · have hk' : k = 3 := hk
    subst hk'
    have hp0 := f4 (.inr rfl)
    have hp1 : p < L1 := by have := hc2; omega
    obtain ⟨P,rfl⟩ : ∃ P : Nat,p = P := ⟨p.toNat,by omega⟩
    rw [show doF d ⟨3,a,P,q,t⟩ = { d with sn := d.sn.set P true } by simp [doF]]
    go_upto_region 11 with (first
   | (rw [← hW0]; go_at_call 33; refine (c_can hd hc hA0).mono ?_; rintro e w2 ⟨rfl,hb2⟩; obtain ⟨k0,k1,k2,k3⟩ := hK w2 hb2)
       | (go_at_call 14; refine (c_copy hd.toSmall h1 h2 (hA0.mono hb2)).mono ?_; rintro e w3 ⟨⟨b1,o1,b2,o2,b3,o3,m1,m2,m3,rfl,hO,g1,g2,g3⟩,hb3⟩; unfold ownV; rw [hL1,hL2,hL3]
          have hb23 := hb2.trans (hb3.mono hb2.size)
          have hbO := fun o => hb23.alloc (Nat.le_trans hb2.size hb3.size) o
          have S4 := fun o => hS (w3.alloc o) (hbO o)
          have S40 := fun o => (S4 o).1
          have S41 := fun o => (S4 o).2.1
          have S42 := fun o => (S4 o).2.2.1
          have S43 := fun o => (S4 o).2.2.2
          have K4 := fun o => hK (w3.alloc o) (hbO o)
          have K40 := fun o => (K4 o).1
          have K41 := fun o => (K4 o).2.1
          have K42 := fun o => (K4 o).2.2.1
          have K43 := fun o => (K4 o).2.2.2
          clear S4 K4
          have hO4 := fun o => hO.below ((Below.refl w3.heap.size w3).alloc (Nat.le_refl _) o)
))
    obtain ⟨OUT,hOUT⟩ : ∃ OUT,OUT = Obj.cells #[.int .i64 d.sl,.slice (some ⟨b1,o1,none⟩) L1 m1,.slice (some ⟨b2,o2,none⟩) L2 m2,.slice (some ⟨b3,o3,none⟩) L3 m3] 25 (0,0) := ⟨_,rfl⟩
    obtain ⟨E0,E1,E2,E3⟩ := hOUT ▸ out_cells w3 (.int .i64 d.sl) (.slice (some ⟨b1,o1,none⟩) L1 m1) (.slice (some ⟨b2,o2,none⟩) L2 m2) (.slice (some ⟨b3,o3,none⟩) L3 m3) 25
    have hs2 := hb2.size
    have hn1 := hO.n1
    have hn2 := hO.n2
    have hn3 := hO.n3
    have hgt : w3.heap.size < (w3.alloc OUT).heap.size := by simp
    have hO4 := hO4 OUT
    have hbO := hbO OUT
    replace S40 := S40 OUT
    replace S41 := S41 OUT
    replace S42 := S42 OUT
    replace S43 := S43 OUT
    replace K40 := K40 OUT
    replace K41 := K41 OUT
    replace K42 := K42 OUT
    replace K43 := K43 OUT
    rw [← hOUT]
    generalize w3.alloc OUT = W4 at *
    obtain ⟨⟨R0,R1,R2,R3⟩,RF⟩ := hR W4 hbO
    have hPl2 : P < L2 := by have := hd.sn; omega
    have hP1 := hO4.c2 P _ (List.getElem?_eq_getElem (by omega))
    have hP2 := hO4.f2 P (by omega)
    have hne1 : b2 ≠ w3.heap.size := by omega
    have hne2 : b2 ≠ w.heap.size + 1 := by omega
    have hne5 : b2 ≠ w.heap.size + 1 + 1 := by omega
    have hne6 : w.heap.size + 1 + 1 ≠ b2 := by omega
    have hne3 : w3.heap.size ≠ b2 := by omega
    have hne4 : w.heap.size + 1 ≠ b2 := by omega
    go_wp2
    have oth : ∀ i x,W4.cell? ⟨w.heap.size + 1 + 1,i,none⟩ = some x → (W4.setCell ⟨b2,o2 + P,none⟩ (.bool true)).cell? ⟨w.heap.size + 1 + 1,i,none⟩ = some x := fun i x h => by rw [World.cell?_setCell_other _ _ _ _ (fun e => by injection e with e _; omega)]; exact h
    obtain ⟨F1,F2,F3,F4,F5,F6⟩ := do_fin (b := w.heap.size + 1 + 1) (oth 0 _ R0) (oth 1 _ R1) (oth 2 _ R2) (oth 3 _ R3) (hO4.set2 (p := P) (by omega) true) (by omega) ((hBW _ hbO).setCell (p := ⟨b2,o2 + P,none⟩) (show w.heap.size ≤ b2 by omega) _) (by omega) (.int .i64 d.sl) (.slice (some ⟨b1,o1,none⟩) L1 m1) (.slice (some ⟨b2,o2,none⟩) L2 m2) (.slice (some ⟨b3,o3,none⟩) L3 m3)
    generalize ((((W4.setCell ⟨b2,o2 + P,none⟩ (.bool true)).setCell ⟨w.heap.size + 1 + 1,0,none⟩ (.int .i64 d.sl)).setCell ⟨w.heap.size + 1 + 1,1,none⟩ (.slice (some ⟨b1,o1,none⟩) L1 m1)).setCell ⟨w.heap.size + 1 + 1,2,none⟩ (.slice (some ⟨b2,o2,none⟩) L2 m2)).setCell ⟨w.heap.size + 1 + 1,3,none⟩ (.slice (some ⟨b3,o3,none⟩) L3 m3) = V at *
    try simp only [Exit.inBlock,Exit.then]
    refine bodyPost_ret (v := .tuple #[.agg #[.int .i64 d.sl,.slice (some ⟨b1,o1,none⟩) L1 m1,.slice (some ⟨b2,o2,none⟩) L2 m2,.slice (some ⟨b3,o3,none⟩) L3 m3],.int .i64 0]) (by simp [results,Try.results38,go_sem,F3,F4,F5,F6]) rfl ?_
    refine ⟨⟨b1,o1,b2,o2,b3,o3,m1,m2,m3,?_,F1.weaken (by omega),by omega,by omega,by omega⟩,F2⟩
    unfold ownV
    simp only [List.length_set,hL1,hL2,hL3]
end Vg.G3
namespace Vg.G3
open Go Lg Go.RowKit Go.Proofs
set_option maxHeartbeats 2000000
set_option maxRecDepth 100000
set_option linter.unusedVariables false
set_option linter.unusedSimpArgs false
theorem doF_len (d : Wd) (s : Stp) : (doF d s).pl.length = d.pl.length ∧ (doF d s).sn.length = d.sn.length ∧ (doF d s).sp.length = d.sp.length := by
  unfold doF
  split
  · simp
  · split
    · simp
    · split
      · simp
      · split
        · simp
        · exact ⟨rfl,rfl,rfl⟩
theorem doAll_snoc (d : Wd) (l : List Stp) (k : Nat) (h : k < l.length) : doAll d (l.take (k + 1)) = doF (doAll d (l.take k)) (l[k]'h) := by
  unfold doAll
  rw [List.take_succ_eq_append_getElem h,List.foldl_append]; rfl
theorem c_run {d : Wd} (hd : Ok d) (h1 : 1 ≤ d.pl.length) (h2 : 1 ≤ d.sp.length) (l : List Stp) (hl : l.length ≤ 1000) (hc : canAll d l) (hks : ∀ s ∈ l,s.k = 1 ∨ s.k = 2 ∨ s.k = 3) (x : Value) (bb off cap : Nat) (w : World) (hx : WorldAt w x d) (hbb : bb < w.heap.size) (hcp : l.length ≤ cap)
    (hy : ∀ (k j : Nat) (v : Value),k < l.length → (stC (l.getD k ⟨0,0,0,0,0⟩))[j]? = some v → w.cell? ⟨bb,off + k * 5 + j,none⟩ = some v) :
    Calls Try.prog 13 #[x,.slice (some ⟨bb,off,none⟩) l.length cap] w fun e w' => (∃ z,e = .returned (.tuple #[z,.int .i64 l.length,.int .i64 0]) ∧ WorldAt w' z (doAll d l)) ∧ Below w.heap.size w w' := by
  have hx0 := hx
  obtain ⟨a1,n1,a2,n2,a3,n3,rfl⟩ := hx.form
  obtain ⟨L1,hL1⟩ : ∃ L,d.pl.length = L := ⟨_,rfl⟩
  obtain ⟨L2,hL2⟩ : ∃ L,d.sn.length = L := ⟨_,rfl⟩
  obtain ⟨L3,hL3⟩ : ∃ L,d.sp.length = L := ⟨_,rfl⟩
  rw [hL1,hL2,hL3] at hx0 ⊢
  clear hx
  go_enter Try.func13,Try.ntmps13
  obtain ⟨W0,hW0⟩ : ∃ W0,W0 = ((w.alloc (Obj.cells #[Value.int IntKind.i64 d.sl,.slice a1 L1 n1,.slice a2 L2 n2,.slice a3 L3 n3] 25)).alloc (Obj.cells #[Value.int IntKind.i64 0,Value.slice none 0 0,Value.slice none 0 0,Value.slice none 0 0] 25)) := ⟨_,rfl⟩
  have hb0 : Below w.heap.size w W0 := by rw [hW0]; exact ((Below.refl _ w).alloc (Nat.le_refl _) _).alloc (by simp) _
  have hA0 := hx0.mono hb0
  have hsz0 : W0.heap.size = w.heap.size + 1 + 1 := by rw [hW0]; simp
  have q0 : W0.heap[w.heap.size]? = some (Obj.cells #[Value.int IntKind.i64 d.sl,.slice a1 L1 n1,.slice a2 L2 n2,.slice a3 L3 n3] 25 (0,0)) := by
    rw [hW0,heap_alloc_old _ _ (by simp)]; exact heap_alloc_new w _
  have q2 : W0.heap[w.heap.size + 1]? = some (Obj.cells #[Value.int IntKind.i64 0,Value.slice none 0 0,Value.slice none 0 0,Value.slice none 0 0] 25 (0,0)) := by
    rw [hW0]
    have := heap_alloc_new (w.alloc (Obj.cells #[Value.int IntKind.i64 d.sl,.slice a1 L1 n1,.slice a2 L2 n2,.slice a3 L3 n3] 25)) (Obj.cells #[Value.int IntKind.i64 0,Value.slice none 0 0,Value.slice none 0 0,Value.slice none 0 0] 25)
    rwa [show (w.alloc (Obj.cells #[Value.int IntKind.i64 d.sl,.slice a1 L1 n1,.slice a2 L2 n2,.slice a3 L3 n3] 25)).heap.size = w.heap.size + 1 by simp] at this
  have hK : ∀ W,Below W0.heap.size W0 W → W.cell? ⟨w.heap.size,0,none⟩ = some (.int .i64 d.sl) ∧ W.cell? ⟨w.heap.size,1,none⟩ = some (.slice a1 L1 n1) ∧ W.cell? ⟨w.heap.size,2,none⟩ = some (.slice a2 L2 n2) ∧ W.cell? ⟨w.heap.size,3,none⟩ = some (.slice a3 L3 n3) := fun W hW => by
    rw [hW.cell (by simp only [hsz0]; omega),hW.cell (by simp only [hsz0]; omega),hW.cell (by simp only [hsz0]; omega),hW.cell (by simp only [hsz0]; omega)]
    simp only [World.cell?,q0]
    exact ⟨rfl,rfl,rfl,rfl⟩
  have hR : ∀ W,Below W0.heap.size W0 W → (W.cell? ⟨w.heap.size + 1,0,none⟩ = some (.int .i64 0) ∧ W.cell? ⟨w.heap.size + 1,1,none⟩ = some (.slice none 0 0) ∧ W.cell? ⟨w.heap.size + 1,2,none⟩ = some (.slice none 0 0) ∧ W.cell? ⟨w.heap.size + 1,3,none⟩ = some (.slice none 0 0)) ∧ ∀ i,W.frozen? ⟨w.heap.size + 1,i,none⟩ = false := fun W hW => by
    refine ⟨?_,fun i => ?_⟩
    · rw [hW.cell (by simp only [hsz0]; omega),hW.cell (by simp only [hsz0]; omega),hW.cell (by simp only [hsz0]; omega),hW.cell (by simp only [hsz0]; omega)]
      simp only [World.cell?,q2]
      exact ⟨rfl,rfl,rfl,rfl⟩
    · rw [hW.frozen (by simp only [hsz0]; omega)]
      simp only [World.frozen?,q2]
      simp
  clear q0 q2
  go_wp2_with (first
   | (rw [← hW0]; go_at_call 36; refine (c_check hd hA0).mono ?_; rintro e w2 ⟨rfl,hb2⟩; obtain ⟨k0,k1,k2,k3⟩ := hK w2 hb2)
   | (go_at_call 14; refine (c_copy hd.toSmall h1 h2 (hA0.mono hb2)).mono ?_; rintro e w3 ⟨⟨b1,o1,b2,o2,b3,o3,m1,m2,m3,rfl,hO,g1,g2,g3⟩,hb3⟩; unfold ownV; rw [hL1,hL2,hL3]))
  have hb03 : Below W0.heap.size W0 w3 := hb2.trans (hb3.mono hb2.size)
  have hs3 := hb03.size
  obtain ⟨OUT,hOUT⟩ : ∃ OUT,OUT = Obj.cells #[.int .i64 d.sl,.slice (some ⟨b1,o1,none⟩) L1 m1,.slice (some ⟨b2,o2,none⟩) L2 m2,.slice (some ⟨b3,o3,none⟩) L3 m3] 25 (0,0) := ⟨_,rfl⟩
  go_loopw [23] (fun i wr => ∃ (k : Nat) (d' : Wd) (b1 o1 b2 o2 b3 o3 q1 q2 q3 : Nat),k ≤ l.length ∧ i = .int .i64 k ∧ doAll d (l.take k) = d' ∧ Ok d' ∧ (d'.pl.length = L1 ∧ d'.sn.length = L2 ∧ d'.sp.length = L3) ∧ canAll d' (l.drop k) ∧
      (wr.cell? ⟨w3.heap.size,0,none⟩ = some (.int .i64 d'.sl) ∧ wr.cell? ⟨w3.heap.size,1,none⟩ = some (.slice (some ⟨b1,o1,none⟩) L1 q1) ∧ wr.cell? ⟨w3.heap.size,2,none⟩ = some (.slice (some ⟨b2,o2,none⟩) L2 q2) ∧ wr.cell? ⟨w3.heap.size,3,none⟩ = some (.slice (some ⟨b3,o3,none⟩) L3 q3)) ∧
      (∀ i,wr.frozen? ⟨w3.heap.size,i,none⟩ = false) ∧ w3.heap.size < wr.heap.size ∧ OwnW W0.heap.size wr b1 o1 b2 o2 b3 o3 d' ∧ (L1 ≤ q1 ∧ L2 ≤ q2 ∧ L3 ≤ q3) ∧ Below w3.heap.size w3 wr) (fun i _ => l.length - (intOf i).toNat)
  case atStart =>
    refine ⟨0,d,b1,o1,b2,o2,b3,o3,m1,m2,m3,Nat.zero_le _,rfl,rfl,hd,⟨hL1,hL2,hL3⟩,hc,out_cells w3 _ _ _ _ _,fun i => ?_,by simp,(hO.weaken hb2.size).below ((Below.refl _ w3).alloc (Nat.le_refl _) _),⟨by omega,by omega,by omega⟩,(Below.refl _ w3).alloc (Nat.le_refl _) _⟩
    exact World.frozen?_alloc_at _ _ w3.heap.size i rfl
  case round =>
    obtain ⟨k,d',c1,p1,c2,p2,c3,p3,q1,q2,q3,hk,rfl,hd',hok,⟨hl1,hl2,hl3⟩,hcan,⟨z0,z1,z2,z3⟩,hfz,hltB,hO1,⟨e1,e2,e3⟩,hbel⟩ := hrel
    have hb3' : Below w.heap.size w w3 := hb0.trans (hb03.mono hb0.size)
    have hbw : Below w.heap.size w wr := hb3'.trans (hbel.mono hb3'.size)
    have y0 : k < l.length → wr.cell? ⟨bb,off + k * 5,none⟩ = some (.int .i64 (l.getD k ⟨0,0,0,0,0⟩).k) := fun h => by rw [hbw.cell hbb]; exact hy k 0 _ h rfl
    have y1 : k < l.length → wr.cell? ⟨bb,off + k * 5 + 1,none⟩ = some (.int .i64 (l.getD k ⟨0,0,0,0,0⟩).a) := fun h => by rw [hbw.cell hbb]; exact hy k 1 _ h rfl
    have y2 : k < l.length → wr.cell? ⟨bb,off + k * 5 + 2,none⟩ = some (.int .i64 (l.getD k ⟨0,0,0,0,0⟩).p) := fun h => by rw [hbw.cell hbb]; exact hy k 2 _ h rfl
    have y3 : k < l.length → wr.cell? ⟨bb,off + k * 5 + 3,none⟩ = some (.int .i64 (l.getD k ⟨0,0,0,0,0⟩).s) := fun h => by rw [hbw.cell hbb]; exact hy k 3 _ h rfl
    have y4 : k < l.length → wr.cell? ⟨bb,off + k * 5 + 4,none⟩ = some (.int .i64 (l.getD k ⟨0,0,0,0,0⟩).t) := fun h => by rw [hbw.cell hbb]; exact hy k 4 _ h rfl
    have hcells : ∀ W : World,Below wr.heap.size wr W → (W.cell? ⟨w3.heap.size,0,none⟩ = some (.int .i64 d'.sl) ∧ W.cell? ⟨w3.heap.size,1,none⟩ = some (.slice (some ⟨c1,p1,none⟩) L1 q1) ∧ W.cell? ⟨w3.heap.size,2,none⟩ = some (.slice (some ⟨c2,p2,none⟩) L2 q2) ∧ W.cell? ⟨w3.heap.size,3,none⟩ = some (.slice (some ⟨c3,p3,none⟩) L3 q3)) ∧ ∀ i,W.frozen? ⟨w3.heap.size,i,none⟩ = false := fun W hW => by
      rw [hW.cell (by exact hltB),hW.cell (by exact hltB),hW.cell (by exact hltB),hW.cell (by exact hltB)]
      exact ⟨⟨z0,z1,z2,z3⟩,fun i => by rw [hW.frozen (by exact hltB)]; exact hfz i⟩
    have hWA : WorldAt wr (.agg #[.int .i64 d'.sl,.slice (some ⟨c1,p1,none⟩) L1 q1,.slice (some ⟨c2,p2,none⟩) L2 q2,.slice (some ⟨c3,p3,none⟩) L3 q3]) d' := by
      have := hO1.world (k1 := q1) (k2 := q2) (k3 := q3) (by omega) (by omega) (by omega)
      unfold ownV at this
      rwa [hl1,hl2,hl3] at this
    have Z := fun o => hcells (wr.alloc o) ((Below.refl _ wr).alloc (Nat.le_refl _) o)
    have Z0 := fun o => (Z o).1.1
    have Z1 := fun o => (Z o).1.2.1
    have Z2 := fun o => (Z o).1.2.2.1
    have Z3 := fun o => (Z o).1.2.2.2
    clear Z
    have hs : ∀ h : k < l.length,canF d' (l[k]'h) ∧ canAll (doF d' (l[k]'h)) (l.drop (k + 1)) := fun h => by
      rw [List.drop_eq_getElem_cons h] at hcan
      exact hcan
    have hgd : ∀ h : k < l.length,l.getD k ⟨0,0,0,0,0⟩ = l[k]'h := fun h => by rw [List.getD_eq_getElem?_getD,List.getElem?_eq_getElem h]; rfl
    have hbw0 : Below W0.heap.size W0 wr := hb03.trans (hbel.mono hs3)
    obtain ⟨⟨R0,R1,R2,R3⟩,RF⟩ := hR wr hbw0
    have hbig : w.heap.size + 1 < wr.heap.size := by omega
    go_wp2_with (
      go_at_call 38
      have hkl : k < l.length := by assumption
      refine (do_own (s := l[k]'hkl) hok (by omega) (by omega) (hks _ (List.getElem_mem hkl)) (hs hkl).1 (hWA.mono ((Below.refl _ wr).alloc (Nat.le_refl _) _))).mono ?_
      rintro e w4 ⟨⟨u1,v1,u2,v2,u3,v3,r1,r2,r3,rfl,hO2,s1,s2,s3⟩,hb4⟩
      unfold ownV
      rw [(doF_len d' _).1,(doF_len d' _).2.1,(doF_len d' _).2.2,hl1,hl2,hl3]
      have hbr4 := ((Below.refl _ wr).alloc (Nat.le_refl _) _).trans (hb4.mono (by simp))
      obtain ⟨⟨T0,T1,T2,T3⟩,TF⟩ := hcells w4 hbr4
      have hlt4 : w3.heap.size < w4.heap.size := Nat.lt_of_lt_of_le hltB hbr4.size
      have hne4 : w3.heap.size ≠ w4.heap.size := by omega
      have hne4' : w4.heap.size ≠ w3.heap.size := by omega
      have TA := fun o => hcells (w4.alloc o) (hbr4.alloc hbr4.size o)
      have TA0 := fun o => (TA o).1.1
      have TA1 := fun o => (TA o).1.2.1
      have TA2 := fun o => (TA o).1.2.2.1
      have TA3 := fun o => (TA o).1.2.2.2
      have TAF := fun o => (TA o).2
      clear TA)
    case roundEnd =>
      obtain ⟨F1,F2,F3,F4,F5,F6⟩ := do_fin (b := w3.heap.size) T0 T1 T2 T3 hO2 (by simp; omega) (hbel.trans (hbr4.mono (by omega))) (Nat.le_refl _) (.int .i64 (doF d' (l[k]'hkl)).sl) (.slice (some ⟨u1,v1,none⟩) L1 r1) (.slice (some ⟨u2,v2,none⟩) L2 r2) (.slice (some ⟨u3,v3,none⟩) L3 r3)
      have FZ : ∀ i,((((w4.setCell ⟨w3.heap.size,0,none⟩ (.int .i64 (doF d' (l[k]'hkl)).sl)).setCell ⟨w3.heap.size,1,none⟩ (.slice (some ⟨u1,v1,none⟩) L1 r1)).setCell ⟨w3.heap.size,2,none⟩ (.slice (some ⟨u2,v2,none⟩) L2 r2)).setCell ⟨w3.heap.size,3,none⟩ (.slice (some ⟨u3,v3,none⟩) L3 r3)).frozen? ⟨w3.heap.size,i,none⟩ = false := fun i => by simp only [World.frozen?_setCell]; exact TF i
      have FS : w3.heap.size < ((((w4.setCell ⟨w3.heap.size,0,none⟩ (.int .i64 (doF d' (l[k]'hkl)).sl)).setCell ⟨w3.heap.size,1,none⟩ (.slice (some ⟨u1,v1,none⟩) L1 r1)).setCell ⟨w3.heap.size,2,none⟩ (.slice (some ⟨u2,v2,none⟩) L2 r2)).setCell ⟨w3.heap.size,3,none⟩ (.slice (some ⟨u3,v3,none⟩) L3 r3)).heap.size := by simp; omega
      generalize ((((w4.setCell ⟨w3.heap.size,0,none⟩ (.int .i64 (doF d' (l[k]'hkl)).sl)).setCell ⟨w3.heap.size,1,none⟩ (.slice (some ⟨u1,v1,none⟩) L1 r1)).setCell ⟨w3.heap.size,2,none⟩ (.slice (some ⟨u2,v2,none⟩) L2 r2)).setCell ⟨w3.heap.size,3,none⟩ (.slice (some ⟨u3,v3,none⟩) L3 r3)) = V at *
      have hAl : ∀ o,Below V.heap.size V (V.alloc o) := fun o => (Below.refl _ V).alloc (Nat.le_refl _) o
      refine ⟨⟨k + 1,doF d' (l[k]'hkl),u1,v1,u2,v2,u3,v3,r1,r2,r3,by omega,by push_cast; rfl,?_,ok_do hok (hs hkl).1,⟨(doF_len _ _).1.trans hl1,(doF_len _ _).2.1.trans hl2,(doF_len _ _).2.2.trans hl3⟩,(hs hkl).2,⟨?_,?_,?_,?_⟩,fun i => ?_,?_,(F1.weaken (by simp; omega)).below (hAl _),⟨by omega,by omega,by omega⟩,F2.trans ((hAl _).mono F2.size)⟩,?_⟩
      · rw [doAll_snoc d l k hkl,hd']
      · rw [(hAl _).cell (by exact FS)]; exact F3
      · rw [(hAl _).cell (by exact FS)]; exact F4
      · rw [(hAl _).cell (by exact FS)]; exact F5
      · rw [(hAl _).cell (by exact FS)]; exact F6
      · rw [(hAl _).frozen (by exact FS)]; exact FZ i
      · simp; omega
      · show l.length - ((k : Int) + 1).toNat < l.length - ((k : Int)).toNat
        omega
    obtain ⟨F1,F2,F3,F4,F5,F6⟩ := do_fin (b := w.heap.size + 1) R0 R1 R2 R3 hO1 (by omega) hbw (by omega) (.int .i64 d'.sl) (.slice (some ⟨c1,p1,none⟩) L1 q1) (.slice (some ⟨c2,p2,none⟩) L2 q2) (.slice (some ⟨c3,p3,none⟩) L3 q3)
    generalize (((wr.setCell ⟨w.heap.size + 1,0,none⟩ (.int .i64 d'.sl)).setCell ⟨w.heap.size + 1,1,none⟩ (.slice (some ⟨c1,p1,none⟩) L1 q1)).setCell ⟨w.heap.size + 1,2,none⟩ (.slice (some ⟨c2,p2,none⟩) L2 q2)).setCell ⟨w.heap.size + 1,3,none⟩ (.slice (some ⟨c3,p3,none⟩) L3 q3) = V at *
    try simp only [Exit.inBlock,Exit.then]
    refine bodyPost_ret (v := .tuple #[.agg #[.int .i64 d'.sl,.slice (some ⟨c1,p1,none⟩) L1 q1,.slice (some ⟨c2,p2,none⟩) L2 q2,.slice (some ⟨c3,p3,none⟩) L3 q3],.int .i64 l.length,.int .i64 0]) (by simp [results,Try.results13,go_sem,F3,F4,F5,F6]) rfl ?_
    refine ⟨⟨_,rfl,?_⟩,F2⟩
    have hke : k = l.length := by omega
    rw [hke,List.take_length] at hd'
    rw [hd']
    have := F1.world (k1 := q1) (k2 := q2) (k3 := q3) (by omega) (by omega) (by omega)
    unfold ownV at this
    rwa [hl1,hl2,hl3] at this
end Vg.G3
