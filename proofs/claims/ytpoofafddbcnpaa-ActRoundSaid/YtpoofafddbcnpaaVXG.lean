import Derived.Test.YtpoofafddbcnpaaVXF
import Derived.Deep.RegionHeld3
import Derived.Deep.Cut
import Derived.Handy
namespace Vg.G3
open Go Lg Go.RowKit Go.Proofs
set_option maxHeartbeats 2000000
set_option maxRecDepth 100000
set_option linter.unusedVariables false
/-- A fact that the walk's simp is not to use. -/
def Lk (p : Prop) : Prop := p
theorem rows_pos {es : Nat} {w : World} {x : Value} {rows : List (List VV)} (h : WRows es w x rows) (hn : 1 ≤ rows.length) : ∃ b o c,x = .slice (some ⟨b,o,none⟩) rows.length c ∧ rows.length ≤ c ∧ b < w.heap.size ∧ ∀ (i : Nat) (row : List VV) (j : Nat) (v : VV),rows[i]? = some row → row[j]? = some v → w.cell? ⟨b,o + i * es + j,none⟩ = some (scV v) := by
  rcases h with ⟨rfl, -⟩ | ⟨b,o,c,h1,h2,h3,h4⟩
  · simp at hn
  · exact ⟨b,o,c,h1,h2,h3,h4⟩
theorem WorldAt.parts {w : World} {x : Value} {d : Wd} (h : WorldAt w x d) (h1 : 1 ≤ d.pl.length) (h2 : 1 ≤ d.sn.length) (h3 : 1 ≤ d.sp.length) : ∃ b1 o1 c1 b2 o2 c2 b3 o3 c3,x = .agg #[.int .i64 d.sl,.slice (some ⟨b1,o1,none⟩) d.pl.length c1,.slice (some ⟨b2,o2,none⟩) d.sn.length c2,.slice (some ⟨b3,o3,none⟩) d.sp.length c3] ∧
    (d.pl.length ≤ c1 ∧ d.sn.length ≤ c2 ∧ d.sp.length ≤ c3) ∧ (b1 < w.heap.size ∧ b2 < w.heap.size ∧ b3 < w.heap.size) ∧ (∀ (i : Nat) (v : Int),d.pl[i]? = some v → w.cell? ⟨b1,o1 + i,none⟩ = some (.int .i64 v)) ∧ (∀ (i : Nat) (v : Bool),d.sn[i]? = some v → w.cell? ⟨b2,o2 + i,none⟩ = some (.bool v)) ∧ (∀ (i : Nat) (v : Int),d.sp[i]? = some v → w.cell? ⟨b3,o3 + i,none⟩ = some (.int .i64 v)) := by
  obtain ⟨s1,s2,s3,rfl,x1,x2,x3⟩ := h
  obtain ⟨b1,o1,c1,rfl,e1,u1,k1⟩ := rows_pos x1 (by rw [List.length_map]; exact h1)
  obtain ⟨b2,o2,c2,rfl,e2,u2,k2⟩ := rows_pos x2 (by rw [List.length_map]; exact h2)
  obtain ⟨b3,o3,c3,rfl,e3,u3,k3⟩ := rows_pos x3 (by rw [List.length_map]; exact h3)
  rw [List.length_map] at e1 e2 e3
  refine ⟨b1,o1,c1,b2,o2,c2,b3,o3,c3,by simp only [List.length_map],⟨e1,e2,e3⟩,⟨u1,u2,u3⟩,fun i v hv => ?_,fun i v hv => ?_,fun i v hv => ?_⟩
  · have := k1 i (fI v) 0 (.int .i64 v) (by rw [List.getElem?_map,hv]; rfl) rfl
    rwa [Nat.mul_one,Nat.add_zero] at this
  · have := k2 i (fB v) 0 (.bool v) (by rw [List.getElem?_map,hv]; rfl) rfl
    rwa [Nat.mul_one,Nat.add_zero] at this
  · have := k3 i (fI v) 0 (.int .i64 v) (by rw [List.getElem?_map,hv]; rfl) rfl
    rwa [Nat.mul_one,Nat.add_zero] at this
theorem stC_back (s : Stp) (j : Nat) (v : Value) (h : (stC s)[j]? = some v) : ∃ v',(fS s)[j]? = some v' ∧ scV v' = v := by
  match j with
  | 0 => cases h; exact ⟨_,rfl,rfl⟩
  | 1 => cases h; exact ⟨_,rfl,rfl⟩
  | 2 => cases h; exact ⟨_,rfl,rfl⟩
  | 3 => cases h; exact ⟨_,rfl,rfl⟩
  | 4 => cases h; exact ⟨_,rfl,rfl⟩
  | j + 5 => simp [stC] at h
/-- The walk of ActRound: whatever its two lists hold,it answers true. -/
theorem c_round {a0 a1 : Option Addr} {len0 cap0 len1 cap1 : Nat} {z0 z1 : List Int} {w : World}
    (h0 : (a0 = none ∧ len0 = 0 ∧ cap0 = 0 ∧ z0 = []) ∨ ∃ x,a0 = some x ∧ len0 ≤ cap0 ∧ cap0 ≤ maxLen ∧ z0.length = cap0 ∧ (∀ i,i < z0.length → w.cell? (x.add i) = some (.int .i64 (z0.getD i 0))) ∧ ∀ n ∈ z0,(Lit.int .i64 n).wf = true)
    (h1 : (a1 = none ∧ len1 = 0 ∧ cap1 = 0 ∧ z1 = []) ∨ ∃ x,a1 = some x ∧ len1 ≤ cap1 ∧ cap1 ≤ maxLen ∧ z1.length = cap1 ∧ (∀ i,i < z1.length → w.cell? (x.add i) = some (.int .i64 (z1.getD i 0))) ∧ ∀ n ∈ z1,(Lit.int .i64 n).wf = true) :
    Calls Try.prog 3 #[.slice a0 len0 cap0,.slice a1 len1 cap1] w fun e w' => e = .returned (.bool true) ∧ Below w.heap.size w w' := by
  have hsm := c_small h0 h1
  clear h0 h1
  go_enter Try.func3,Try.ntmps3
  go_wp2_with (first
    | (go_at_call 10; refine hsm.mono ?_; rintro e w1 ⟨⟨x,rfl,hSm⟩,hb1⟩)
    | (go_at_call 9; refine (c_world hSm).mono ?_; rintro e w2 ⟨⟨z,d,rfl,hd,hl1,hl3,hW⟩,hb2⟩
       obtain ⟨b1,o1,n1,b2,o2,n2,b3,o3,n3,rfl,⟨g1,g2,g3⟩,⟨u1,u2,u3⟩,k1,k2,k3⟩ := hW.parts hl1 (by have := hd.sn; omega) hl3
       obtain ⟨L1,hL1⟩ : ∃ L,d.pl.length = L := ⟨_,rfl⟩
       obtain ⟨L2,hL2⟩ : ∃ L,d.sn.length = L := ⟨_,rfl⟩
       obtain ⟨L3,hL3⟩ : ∃ L,d.sp.length = L := ⟨_,rfl⟩
       rw [hL1,hL2,hL3] at hW; rw [hL1] at g1; rw [hL2] at g2; rw [hL3] at g3; rw [hL1,hL2,hL3]))
  obtain ⟨WB,hWB⟩ : ∃ WB,WB = Obj.cells #[.int .i64 d.sl,.slice (some ⟨b1,o1,none⟩) L1 n1,.slice (some ⟨b2,o2,none⟩) L2 n2,.slice (some ⟨b3,o3,none⟩) L3 n3] 25 (0,0) := ⟨_,rfl⟩
  have hC := hWB ▸ out_cells w2 (.int .i64 d.sl) (.slice (some ⟨b1,o1,none⟩) L1 n1) (.slice (some ⟨b2,o2,none⟩) L2 n2) (.slice (some ⟨b3,o3,none⟩) L3 n3) 25
  have hB5 : Below w2.heap.size w2 (w2.alloc WB) := (Below.refl _ w2).alloc (Nat.le_refl _) _
  have hsz5 : (w2.alloc WB).heap.size = w2.heap.size + 1 := by simp
  rw [← hWB]
  generalize hW5 : w2.alloc WB = W5 at *
  have hbw5 : Below w.heap.size w W5 := hb2.trans (hB5.mono hb2.size)
  have hF : ∀ W,Below W5.heap.size W5 W → Lk ((W.cell? ⟨w2.heap.size,0,none⟩ = some (.int .i64 d.sl) ∧ W.cell? ⟨w2.heap.size,1,none⟩ = some (.slice (some ⟨b1,o1,none⟩) L1 n1) ∧ W.cell? ⟨w2.heap.size,2,none⟩ = some (.slice (some ⟨b2,o2,none⟩) L2 n2) ∧ W.cell? ⟨w2.heap.size,3,none⟩ = some (.slice (some ⟨b3,o3,none⟩) L3 n3)) ∧
      (∀ (i : Nat) (v : Int),d.pl[i]? = some v → W.cell? ⟨b1,o1 + i,none⟩ = some (.int .i64 v)) ∧ (∀ (i : Nat) (v : Bool),d.sn[i]? = some v → W.cell? ⟨b2,o2 + i,none⟩ = some (.bool v)) ∧ (∀ (i : Nat) (v : Int),d.sp[i]? = some v → W.cell? ⟨b3,o3 + i,none⟩ = some (.int .i64 v)) ∧
      WorldAt W (.agg #[.int .i64 d.sl,.slice (some ⟨b1,o1,none⟩) L1 n1,.slice (some ⟨b2,o2,none⟩) L2 n2,.slice (some ⟨b3,o3,none⟩) L3 n3]) d ∧ Below w.heap.size w W) := fun W hWW => by
    have hB : Below w2.heap.size w2 W := hB5.trans (hWW.mono hB5.size)
    refine ⟨?_,fun i v hv => ?_,fun i v hv => ?_,fun i v hv => ?_,hW.mono hB,hbw5.trans (hWW.mono hbw5.size)⟩
    · rw [hWW.cell (by simp only [hsz5]; omega),hWW.cell (by simp only [hsz5]; omega),hWW.cell (by simp only [hsz5]; omega),hWW.cell (by simp only [hsz5]; omega)]
      exact hC
    · rw [hB.cell (by exact u1)]; exact k1 i v hv
    · rw [hB.cell (by exact u2)]; exact k2 i v hv
    · rw [hB.cell (by exact u3)]; exact k3 i v hv
  clear hWB k1 k2 k3
  have hpl := hd.pl
  have hsp := hd.sp
  rw [hL1] at hpl
  rw [hL3] at hsp
  go_loopw [22] (fun i wr => ∃ p : Nat,p ≤ L1 ∧ i = .int .i64 p ∧ Below W5.heap.size W5 wr) (fun i _ => L1 - (intOf i).toNat)
  case atStart => exact ⟨0,Nat.zero_le _,rfl,Below.refl _ _⟩
  case round =>
    obtain ⟨p,hp,rfl,hbr⟩ := hrel
    have hFr := hF wr hbr
    unfold Lk at hFr
    obtain ⟨⟨C0,C1,C2,C3⟩,kp, -, -,hWr,hbwr⟩ := hFr
    by_cases hpl : p < L1
    · obtain ⟨T,hT⟩ : ∃ T,d.pl[p]? = some T := ⟨_,List.getElem?_eq_getElem (by omega)⟩
      have kpT := kp p T hT
      clear kp
      by_cases hT0 : T < 0
      · go_wp2
        refine ⟨⟨p + 1,by omega,by push_cast; rfl,hbr⟩,?_⟩
        show L1 - ((p : Int) + 1).toNat < L1 - ((p : Int)).toNat
        omega
      · go_wp2
        go_loopw [32] (fun i wr => ∃ a : Nat,a ≤ L3 ∧ i = .int .i64 a ∧ Below W5.heap.size W5 wr) (fun i _ => L3 - (intOf i).toNat)
        case atStart => exact ⟨0,Nat.zero_le _,rfl,hbr⟩
        case round =>
          clear C0 C1 C2 C3 hWr kpT hbwr
          obtain ⟨a,ha,rfl,hbr'⟩ := hrel
          have hFr := hF wr hbr'
          unfold Lk at hFr
          obtain ⟨⟨C0,C1,C2,C3⟩, -,ks,ka,hWr,hbwr⟩ := hFr
          by_cases hal : a < L3
          · obtain ⟨S,hS⟩ : ∃ S,d.sp[a]? = some S := ⟨_,List.getElem?_eq_getElem (by omega)⟩
            have kaS := ka a S hS
            clear ka
            by_cases hST : S = T
            · subst hST
              by_cases hh : 0 ≤ holdsF d a
              · clear ks
                go_wp2_with (go_at_call 11; refine (c_holds hd.toSmall a hWr).mono ?_; rintro e w6 ⟨rfl,hb6⟩)
                refine ⟨⟨a + 1,by omega,by push_cast; rfl,hbr'.trans (hb6.mono hbr'.size)⟩,?_⟩
                show L3 - ((a : Int) + 1).toNat < L3 - ((a : Int)).toNat
                omega
              · go_upto_region 11 with (go_at_call 11; refine (c_holds hd.toSmall a hWr).mono ?_; rintro e w6 ⟨rfl,hb6⟩)
                obtain ⟨LIT,hLIT⟩ : ∃ LIT,LIT = Obj.cells #[.int .i64 1,.int .i64 a,.int .i64 p,.int .i64 (-1),.int .i64 0,.int .i64 2,.int .i64 a,.int .i64 (-1),.int .i64 S,.int .i64 0] 39 (0,0) := ⟨_,rfl⟩
                have hL := heap_alloc_new w6 LIT
                have hb67 : Below w6.heap.size w6 (w6.alloc LIT) := (Below.refl _ w6).alloc (Nat.le_refl _) _
                have hs67 : (w6.alloc LIT).heap.size = w6.heap.size + 1 := by simp
                rw [← hLIT]
                generalize w6.alloc LIT = W7 at *
                have hbr6 : Below W5.heap.size W5 w6 := hbr'.trans (hb6.mono hbr'.size)
                have hbr7 : Below W5.heap.size W5 W7 := hbr6.trans (hb67.mono hbr6.size)
                clear C0 C1 C2 C3 ks hWr kaS hbwr
                have hFr := hF W7 hbr7
                unfold Lk at hFr
                obtain ⟨⟨C0,C1,C2,C3⟩, -,ks, -,hWr,hbwr⟩ := hFr
                have hpn : p < d.sn.length := by have := hd.sn; omega
                obtain ⟨sv,hsv⟩ : ∃ sv,d.sn[p]? = some sv := ⟨_,List.getElem?_eq_getElem hpn⟩
                have ksp := ks p sv hsv
                clear ks
                have hlit : ∀ (j : Nat) (v : Value),(stC ⟨1,a,p, -1,0⟩ ++ stC ⟨2,a, -1,S,0⟩)[j]? = some v → W7.cell? ⟨w6.heap.size,0 + j,none⟩ = some v := fun j v hj => by
                  simp only [World.cell?,hL,hLIT]
                  rw [Nat.zero_add]
                  simpa [stC] using hj
                obtain ⟨lawT,lawF⟩ := round_law hd hT (by omega) hS (by omega)
                have hsz7 : w6.heap.size < W7.heap.size := by omega
                have hPL2 : p < L2 := by omega
                cases sv with
                | true =>
                  obtain ⟨hcan,hdo⟩ := lawT hsv
                  have hrun : Calls Try.prog 13 #[.agg #[.int .i64 d.sl,.slice (some ⟨b1,o1,none⟩) L1 n1,.slice (some ⟨b2,o2,none⟩) L2 n2,.slice (some ⟨b3,o3,none⟩) L3 n3],.slice (some ⟨w6.heap.size,0,none⟩) 2 2] W7 fun e w' => (∃ z,e = .returned (.tuple #[z,.int .i64 2,.int .i64 0]) ∧ WorldAt w' z { d with sn := d.sn.set p false }) ∧ Below W7.heap.size W7 w' := by
                    rw [← hdo]
                    refine c_run hd hl1 hl3 [⟨1,a,p, -1,0⟩,⟨2,a, -1,S,0⟩] (show 2 ≤ 1000 by decide) hcan (fun s hs => ?_) _ w6.heap.size 0 2 W7 hWr hsz7 (show 2 ≤ 2 by decide) (fun k j v hk hj => ?_)
                    · simp only [List.mem_cons,List.not_mem_nil,or_false] at hs
                      rcases hs with rfl | rfl <;> simp
                    · match k,hk with
                      | 0,_ =>
                        have hj : (stC ⟨1,a,p, -1,0⟩)[j]? = some v := hj
                        rw [show 0 + 0 * 5 + j = 0 + j by omega]; exact hlit j v (by rw [List.getElem?_append_left (List.getElem?_eq_some_iff.1 hj).1]; exact hj)
                      | 1,_ =>
                        have hj : (stC ⟨2,a, -1,S,0⟩)[j]? = some v := hj
                        rw [show 0 + 1 * 5 + j = 0 + (5 + j) by omega]; exact hlit (5 + j) v (by rw [List.getElem?_append_right (by show 5 ≤ 5 + j; omega),show 5 + j - (stC ⟨1,a,p, -1,0⟩).length = j by show 5 + j - 5 = j; omega]; exact hj)
                      | k + 2,hk => exact absurd hk (by simp)
                  clear lawT lawF hcan hdo
                  go_upto_region 15 with (first
                    | (go_at_call 13; refine hrun.mono ?_; rintro e wA ⟨⟨zz,rfl,hZ⟩,hbA⟩; obtain ⟨r1,m1,r2,m2,r3,m3,rfl⟩ := hZ.form
                       have hbrA : Below W5.heap.size W5 wA := hbr7.trans (hbA.mono hbr7.size)
                       have hbrA' : ∀ o,Below W5.heap.size W5 (wA.alloc o) := fun o => hbrA.alloc hbrA.size o
                       have GC := fun o => (hF (wA.alloc o) (hbrA' o)).1
                       have GC0 := fun o => (GC o).1
                       have GC1 := fun o => (GC o).2.1
                       have GC2 := fun o => (GC o).2.2.1
                       have GC3 := fun o => (GC o).2.2.2
                       have GW := fun o => (hF (wA.alloc o) (hbrA' o)).2.2.2.2.1
                       clear GC)
                    | (go_at_call 14; refine (c_copy hd.toSmall hl1 hl3 (GW _)).mono ?_; rintro e wB ⟨⟨x1,y1,x2,y2,x3,y3,j1,j2,j3,rfl,hO,e1,e2,e3⟩,hbB⟩; unfold ownV; rw [hL1,hL2,hL3]))
                  obtain ⟨WANT,hWANT⟩ : ∃ WANT,WANT = Obj.cells #[.int .i64 d.sl,.slice (some ⟨x1,y1,none⟩) L1 j1,.slice (some ⟨x2,y2,none⟩) L2 j2,.slice (some ⟨x3,y3,none⟩) L3 j3] 25 (0,0) := ⟨_,rfl⟩
                  obtain ⟨NX,hNX⟩ : ∃ NX,NX = Obj.cells #[.int .i64 d.sl,.slice r1 L1 m1,.slice r2 L2 m2,.slice r3 L3 m3] 25 (0,0) := ⟨_,rfl⟩
                  obtain ⟨N0,N1,N2,N3⟩ := hNX ▸ out_cells wA (.int .i64 d.sl) (.slice r1 L1 m1) (.slice r2 L2 m2) (.slice r3 L3 m3) 25
                  obtain ⟨Q0,Q1,Q2,Q3⟩ := hWANT ▸ out_cells wB (.int .i64 d.sl) (.slice (some ⟨x1,y1,none⟩) L1 j1) (.slice (some ⟨x2,y2,none⟩) L2 j2) (.slice (some ⟨x3,y3,none⟩) L3 j3) 25
                  rw [← hWANT]
                  rw [← hNX] at hbB hO
                  simp only [List.length_set,hL1,hL2,hL3] at hZ
                  have hbN : Below wA.heap.size wA (wA.alloc NX) := (Below.refl _ wA).alloc (Nat.le_refl _) _
                  have hsN : (wA.alloc NX).heap.size = wA.heap.size + 1 := by simp
                  have hbrN := hbrA' NX
                  have hbW : Below wB.heap.size wB (wB.alloc WANT) := (Below.refl _ wB).alloc (Nat.le_refl _) _
                  have hsW : (wB.alloc WANT).heap.size = wB.heap.size + 1 := by simp
                  clear GC0 GC1 GC2 GC3 GW hbrA' C0 C1 C3 ksp hrun
                  generalize wA.alloc NX = wN at *
                  generalize wB.alloc WANT = W9 at *
                  have hbN9 : Below wN.heap.size wN W9 := hbB.trans (hbW.mono hbB.size)
                  have hsB := hbB.size
                  have lt1 : wA.heap.size < wN.heap.size := by omega
                  replace N0 := (hbN9.cell (p := ⟨wA.heap.size,0,none⟩) lt1).trans N0
                  replace N1 := (hbN9.cell (p := ⟨wA.heap.size,1,none⟩) lt1).trans N1
                  replace N2 := (hbN9.cell (p := ⟨wA.heap.size,2,none⟩) lt1).trans N2
                  replace N3 := (hbN9.cell (p := ⟨wA.heap.size,3,none⟩) lt1).trans N3
                  have hbr9 : Below W5.heap.size W5 W9 := hbrN.trans (hbN9.mono hbrN.size)
                  have hF9 := hF W9 hbr9
                  unfold Lk at hF9
                  have C29 := hF9.1.2.2.1
                  clear hF9
                  have hO9 := hO.below hbW
                  have hn2 := hO.n2
                  have tP := hO9.c2 p _ hsv
                  have tF := hO9.f2 p hpn
                  have hO10 := hO9.set2 hpn false
                  have hbA9 : Below wA.heap.size wA W9 := hbN.trans (hbN9.mono (by omega))
                  have hbA10 : Below wA.heap.size wA (W9.setCell ⟨x2,y2 + p,none⟩ (.bool false)) := hbA9.setCell (p := ⟨x2,y2 + p,none⟩) (show wA.heap.size ≤ x2 by omega) _
                  have hr5 := hbr7.size
                  have hA7 := hbA.size
                  have hbr10 : Below W5.heap.size W5 (W9.setCell ⟨x2,y2 + p,none⟩ (.bool false)) := hbr9.setCell (p := ⟨x2,y2 + p,none⟩) (show W5.heap.size ≤ x2 by omega) _
                  have hZ10 := hZ.mono hbA10
                  have hV10 := hO10.world (k1 := j1) (k2 := j2) (k3 := j3) (by simp only; omega) (by simp only [List.length_set]; omega) (by simp only; omega)
                  unfold ownV at hV10
                  simp only [List.length_set,hL1,hL2,hL3] at hV10
                  have oth : ∀ b i v,b ≠ x2 → W9.cell? ⟨b,i,none⟩ = some v → (W9.setCell ⟨x2,y2 + p,none⟩ (.bool false)).cell? ⟨b,i,none⟩ = some v := fun b i v hb h => by rw [World.cell?_setCell_other _ _ _ _ (fun e => by injection e with e _; exact hb e.symm)]; exact h
                  have M0 := oth _ _ _ (show wA.heap.size ≠ x2 by omega) N0
                  have M1 := oth _ _ _ (show wA.heap.size ≠ x2 by omega) N1
                  have M2 := oth _ _ _ (show wA.heap.size ≠ x2 by omega) N2
                  have M3 := oth _ _ _ (show wA.heap.size ≠ x2 by omega) N3
                  have P0 := oth _ _ _ (show wB.heap.size ≠ x2 by omega) Q0
                  have P1 := oth _ _ _ (show wB.heap.size ≠ x2 by omega) Q1
                  have P2 := oth _ _ _ (show wB.heap.size ≠ x2 by omega) Q2
                  have P3 := oth _ _ _ (show wB.heap.size ≠ x2 by omega) Q3
                  clear oth
                  go_upto_region 18 with fail
                  generalize W9.setCell ⟨x2,y2 + p,none⟩ (.bool false) = W10 at *
                  clear tP tF hO9 hO10 N0 N1 N2 N3 Q0 Q1 Q2 Q3 C29 hb67
                  have hsn6 : d.sn.length ≤ 6 := by have := hd.sn; omega
                  have hsame := (c_same (a := { d with sn := d.sn.set p false }) (b := { d with sn := d.sn.set p false }) (by simp only [List.length_set]; omega) (by simp only [List.length_set]; omega) hZ10 hV10).mono (R' := fun e w' => e = .returned (.bool true) ∧ Below W10.heap.size W10 w') (fun e w' h => ⟨by rw [h.1,decide_eq_true rfl],h.2⟩)
                  go_wp2_with (go_at_call 15; refine hsame.mono ?_; rintro e w11 ⟨rfl,hb11⟩)
                  refine ⟨⟨a + 1,by omega,by push_cast; rfl,hbr10.trans (hb11.mono hbr10.size)⟩,?_⟩
                  show L3 - ((a : Int) + 1).toNat < L3 - ((a : Int)).toNat
                  omega
                | false =>
                  obtain ⟨hcan,hdo⟩ := lawF hsv
                  have hcs : ∀ o,∀ (j : Nat) (v : Value),(stC ⟨1,a,p, -1,0⟩ ++ stC ⟨2,a, -1,S,0⟩)[j]? = some v → (W7.alloc o).cell? ⟨w6.heap.size,0 + j,none⟩ = some v := fun o j v hj => by
                    rw [((Below.refl _ W7).alloc (Nat.le_refl _) o).cell (by exact hsz7)]; exact hlit j v hj
                  have hvs : ∀ (j : Nat) (v : Value),(stC ⟨3,a,p, -1,0⟩)[j]? = some v → (W7.alloc (Obj.cells #[.int .i64 3,.int .i64 a,.int .i64 p,.int .i64 (-1),.int .i64 0] 39 (0,0))).cell? ⟨w6.heap.size + 1,0 + j,none⟩ = some v := fun j v hj => by
                    rw [← hs67]
                    have hE := heap_alloc_new W7 (Obj.cells #[.int .i64 3,.int .i64 a,.int .i64 p,.int .i64 (-1),.int .i64 0] 39 (0,0))
                    simp only [World.cell?,hE]
                    rw [Nat.zero_add]
                    simpa [stC] using hj
                  have run3 : ∀ (w8 : World) (bb bo cp : Nat),Below W5.heap.size W5 w8 → bb < w8.heap.size → 3 ≤ cp → WorldAt w8 (.agg #[.int .i64 d.sl,.slice (some ⟨b1,o1,none⟩) L1 n1,.slice (some ⟨b2,o2,none⟩) L2 n2,.slice (some ⟨b3,o3,none⟩) L3 n3]) d →
                      (∀ (k : Nat) (row : List VV) (j : Nat) (v : VV),([(⟨3,a,p, -1,0⟩ : Stp),⟨1,a,p, -1,0⟩,⟨2,a, -1,S,0⟩].map fS)[k]? = some row → row[j]? = some v → w8.cell? ⟨bb,bo + k * 5 + j,none⟩ = some (scV v)) →
                      Calls Try.prog 13 #[.agg #[.int .i64 d.sl,.slice (some ⟨b1,o1,none⟩) L1 n1,.slice (some ⟨b2,o2,none⟩) L2 n2,.slice (some ⟨b3,o3,none⟩) L3 n3],.slice (some ⟨bb,bo,none⟩) 3 cp] w8 fun e w' => (∃ z,e = .returned (.tuple #[z,.int .i64 3,.int .i64 0]) ∧ WorldAt w' z { d with sn := d.sn.set p false }) ∧ Below w8.heap.size w8 w' := by
                    intro w8 bb bo cp hbr8 hbl hb3 hW8 hbc
                    rw [← hdo]
                    refine c_run hd hl1 hl3 [⟨3,a,p, -1,0⟩,⟨1,a,p, -1,0⟩,⟨2,a, -1,S,0⟩] (show 3 ≤ 1000 by decide) hcan (fun s hs => ?_) _ bb bo cp w8 hW8 hbl hb3 (fun k j v hk hj => ?_)
                    · simp only [List.mem_cons,List.not_mem_nil,or_false] at hs
                      rcases hs with rfl | rfl | rfl <;> simp
                    · obtain ⟨v',h1,h2⟩ := stC_back _ j v hj
                      rw [← h2]
                      refine hbc k _ j v' ?_ h1
                      rw [List.getElem?_map,List.getD_eq_getElem?_getD,List.getElem?_eq_getElem hk]
                      rfl
                  clear lawT lawF hcan hdo hlit
                  go_upto_region 15 with (first
                    | (go_at_call 12; refine (c_insert w6.heap.size (w6.heap.size + 1) ⟨3,a,p, -1,0⟩ ⟨1,a,p, -1,0⟩ ⟨2,a, -1,S,0⟩ _ (hcs _) hvs).mono ?_; rintro e w8 ⟨⟨ao,cp,rfl,hRows⟩,hb8⟩
                       obtain ⟨bb,bo,bc,hbe,hb3,hbl,hbc⟩ := rows_pos hRows (by show 1 ≤ 3; decide)
                       simp only [Value.slice.injEq] at hbe
                       obtain ⟨rfl, -,rfl⟩ := hbe
                       have hbr8 : Below W5.heap.size W5 w8 := (hbr7.alloc hbr7.size _).trans (hb8.mono (hbr7.alloc hbr7.size _).size)
                       have hC8 := (hF w8 hbr8).1
                       have hC80 := hC8.1
                       have hC81 := hC8.2.1
                       have hC82 := hC8.2.2.1
                       have hC83 := hC8.2.2.2
                       have hW8 := (hF w8 hbr8).2.2.2.2.1
                       have hrun := run3 w8 bb bo cp hbr8 hbl hb3 hW8 (fun k row j v hk hj => hbc k row j v hk hj)
                       clear hC8)
                    | (go_at_call 13; refine hrun.mono ?_; rintro e wA ⟨⟨zz,rfl,hZ⟩,hbA⟩; obtain ⟨r1,m1,r2,m2,r3,m3,rfl⟩ := hZ.form
                       have hbrA : Below W5.heap.size W5 wA := hbr8.trans (hbA.mono hbr8.size)
                       have hbrA' : ∀ o,Below W5.heap.size W5 (wA.alloc o) := fun o => hbrA.alloc hbrA.size o
                       have GC := fun o => (hF (wA.alloc o) (hbrA' o)).1
                       have GC0 := fun o => (GC o).1
                       have GC1 := fun o => (GC o).2.1
                       have GC2 := fun o => (GC o).2.2.1
                       have GC3 := fun o => (GC o).2.2.2
                       have GW := fun o => (hF (wA.alloc o) (hbrA' o)).2.2.2.2.1
                       clear GC)
                    | (go_at_call 14; refine (c_copy hd.toSmall hl1 hl3 (GW _)).mono ?_; rintro e wB ⟨⟨x1,y1,x2,y2,x3,y3,j1,j2,j3,rfl,hO,e1,e2,e3⟩,hbB⟩; unfold ownV; rw [hL1,hL2,hL3]))
                  obtain ⟨WANT,hWANT⟩ : ∃ WANT,WANT = Obj.cells #[.int .i64 d.sl,.slice (some ⟨x1,y1,none⟩) L1 j1,.slice (some ⟨x2,y2,none⟩) L2 j2,.slice (some ⟨x3,y3,none⟩) L3 j3] 25 (0,0) := ⟨_,rfl⟩
                  obtain ⟨NX,hNX⟩ : ∃ NX,NX = Obj.cells #[.int .i64 d.sl,.slice r1 L1 m1,.slice r2 L2 m2,.slice r3 L3 m3] 25 (0,0) := ⟨_,rfl⟩
                  obtain ⟨N0,N1,N2,N3⟩ := hNX ▸ out_cells wA (.int .i64 d.sl) (.slice r1 L1 m1) (.slice r2 L2 m2) (.slice r3 L3 m3) 25
                  obtain ⟨Q0,Q1,Q2,Q3⟩ := hWANT ▸ out_cells wB (.int .i64 d.sl) (.slice (some ⟨x1,y1,none⟩) L1 j1) (.slice (some ⟨x2,y2,none⟩) L2 j2) (.slice (some ⟨x3,y3,none⟩) L3 j3) 25
                  rw [← hWANT]
                  rw [← hNX] at hbB hO
                  simp only [List.length_set,hL1,hL2,hL3] at hZ
                  have hbN : Below wA.heap.size wA (wA.alloc NX) := (Below.refl _ wA).alloc (Nat.le_refl _) _
                  have hsN : (wA.alloc NX).heap.size = wA.heap.size + 1 := by simp
                  have hbrN := hbrA' NX
                  have hbW : Below wB.heap.size wB (wB.alloc WANT) := (Below.refl _ wB).alloc (Nat.le_refl _) _
                  have hsW : (wB.alloc WANT).heap.size = wB.heap.size + 1 := by simp
                  clear GC0 GC1 GC2 GC3 GW hbrA' hrun
                  generalize wA.alloc NX = wN at *
                  generalize wB.alloc WANT = W9 at *
                  have hbN9 : Below wN.heap.size wN W9 := hbB.trans (hbW.mono hbB.size)
                  have hsB := hbB.size
                  have lt1 : wA.heap.size < wN.heap.size := by omega
                  replace N0 := (hbN9.cell (p := ⟨wA.heap.size,0,none⟩) lt1).trans N0
                  replace N1 := (hbN9.cell (p := ⟨wA.heap.size,1,none⟩) lt1).trans N1
                  replace N2 := (hbN9.cell (p := ⟨wA.heap.size,2,none⟩) lt1).trans N2
                  replace N3 := (hbN9.cell (p := ⟨wA.heap.size,3,none⟩) lt1).trans N3
                  have hbr9 : Below W5.heap.size W5 W9 := hbrN.trans (hbN9.mono hbrN.size)
                  have hF9 := hF W9 hbr9
                  unfold Lk at hF9
                  have C29 := hF9.1.2.2.1
                  clear hF9
                  have hO9 := hO.below hbW
                  have hn2 := hO.n2
                  have tP := hO9.c2 p _ hsv
                  have tF := hO9.f2 p hpn
                  have hO10 := hO9.set2 hpn false
                  have hbA9 : Below wA.heap.size wA W9 := hbN.trans (hbN9.mono (by omega))
                  have hbA10 : Below wA.heap.size wA (W9.setCell ⟨x2,y2 + p,none⟩ (.bool false)) := hbA9.setCell (p := ⟨x2,y2 + p,none⟩) (show wA.heap.size ≤ x2 by omega) _
                  have hr5 := hbr8.size
                  have hA7 := hbA.size
                  have hbr10 : Below W5.heap.size W5 (W9.setCell ⟨x2,y2 + p,none⟩ (.bool false)) := hbr9.setCell (p := ⟨x2,y2 + p,none⟩) (show W5.heap.size ≤ x2 by omega) _
                  have hZ10 := hZ.mono hbA10
                  have hV10 := hO10.world (k1 := j1) (k2 := j2) (k3 := j3) (by simp only; omega) (by simp only [List.length_set]; omega) (by simp only; omega)
                  unfold ownV at hV10
                  simp only [List.length_set,hL1,hL2,hL3] at hV10
                  have oth : ∀ b i v,b ≠ x2 → W9.cell? ⟨b,i,none⟩ = some v → (W9.setCell ⟨x2,y2 + p,none⟩ (.bool false)).cell? ⟨b,i,none⟩ = some v := fun b i v hb h => by rw [World.cell?_setCell_other _ _ _ _ (fun e => by injection e with e _; exact hb e.symm)]; exact h
                  have M0 := oth _ _ _ (show wA.heap.size ≠ x2 by omega) N0
                  have M1 := oth _ _ _ (show wA.heap.size ≠ x2 by omega) N1
                  have M2 := oth _ _ _ (show wA.heap.size ≠ x2 by omega) N2
                  have M3 := oth _ _ _ (show wA.heap.size ≠ x2 by omega) N3
                  have P0 := oth _ _ _ (show wB.heap.size ≠ x2 by omega) Q0
                  have P1 := oth _ _ _ (show wB.heap.size ≠ x2 by omega) Q1
                  have P2 := oth _ _ _ (show wB.heap.size ≠ x2 by omega) Q2
                  have P3 := oth _ _ _ (show wB.heap.size ≠ x2 by omega) Q3
                  clear oth
                  go_upto_region 18 with fail
                  generalize W9.setCell ⟨x2,y2 + p,none⟩ (.bool false) = W10 at *
                  clear tP tF hO9 hO10 N0 N1 N2 N3 Q0 Q1 Q2 Q3 C29 hb67
                  have hsn6 : d.sn.length ≤ 6 := by have := hd.sn; omega
                  have hsame := (c_same (a := { d with sn := d.sn.set p false }) (b := { d with sn := d.sn.set p false }) (by simp only [List.length_set]; omega) (by simp only [List.length_set]; omega) hZ10 hV10).mono (R' := fun e w' => e = .returned (.bool true) ∧ Below W10.heap.size W10 w') (fun e w' h => ⟨by rw [h.1,decide_eq_true rfl],h.2⟩)
                  go_wp2_with (go_at_call 15; refine hsame.mono ?_; rintro e w11 ⟨rfl,hb11⟩)
                  refine ⟨⟨a + 1,by omega,by push_cast; rfl,hbr10.trans (hb11.mono hbr10.size)⟩,?_⟩
                  show L3 - ((a : Int) + 1).toNat < L3 - ((a : Int)).toNat
                  omega
            · clear ks
              go_wp2
              refine ⟨⟨a + 1,by omega,by push_cast; rfl,hbr'⟩,?_⟩
              show L3 - ((a : Int) + 1).toNat < L3 - ((a : Int)).toNat
              omega
          · clear ks ka
            go_wp2
            refine ⟨⟨p + 1,by omega,by push_cast; rfl,hbr'⟩,?_⟩
            show L1 - ((p : Int) + 1).toNat < L1 - ((p : Int)).toNat
            omega
    · clear kp
      go_wp2_with (go_at_call 16; refine (c_acted _).mono ?_; rintro e w9 ⟨rfl,hb9⟩)
      go_ret
      exact ⟨rfl,hbwr.trans (hb9.mono hbwr.size)⟩
end Vg.G3
