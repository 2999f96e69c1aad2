/- The walk of WordBlanks over the model's world. -/
import Derived.Test.YtiidghpdgkfncaaVWA
import Derived.WalkKit
import Derived.LoopTactic
namespace Vg.G2
open Go Lg Go.RowKit Go.Proofs
set_option maxHeartbeats 2000000
set_option maxRecDepth 100000
set_option linter.unusedVariables false
set_option linter.unusedSimpArgs false
def gapT (n : Nat) : List UInt8 := if n = 0 then [32] else if n = 1 then [10] else if n = 2 then [32,32,10,32] else if n = 3 then [32,35,32,97,32,59,32,98,10] else [35,123,10]
def gapN (len1 : Nat) (z1 : List Int) (i : Nat) : Int := if i < len1 then z1.getD i 0 else 0
def gap (len1 : Nat) (z1 : List Int) (i : Nat) : List UInt8 := gapT (belowP (gapN len1 z1 i) 5).toNat
def txt (len1 : Nat) (z1 : List Int) (ws : List Wd) (k : Nat) : List UInt8 := (List.range k).flatMap fun i => gap len1 z1 i ++ (ws.getD i ⟨0,0,[]⟩).text
theorem txt_succ (len1 : Nat) (z1 : List Int) (ws : List Wd) (k : Nat) : txt len1 z1 ws (k + 1) = txt len1 z1 ws k ++ (gap len1 z1 k ++ (ws.getD k ⟨0,0,[]⟩).text) := by
  simp [txt,List.range_succ]
theorem gapT_len (n : Nat) : (gapT n).length ≤ 9 := by
  unfold gapT
  split
  · decide
  · split
    · decide
    · split
      · decide
      · split <;> decide
theorem txt_len {len1 : Nat} {z1 : List Int} {ws : List Wd} (h : ∀ w ∈ ws,w.text.length ≤ 4096) : ∀ k,(txt len1 z1 ws k).length ≤ k * 4105
  | 0 => by simp [txt]
  | k + 1 => by
    have h1 := txt_len h k (len1 := len1) (z1 := z1)
    have h2 := gapT_len (belowP (gapN len1 z1 k) 5).toNat
    have h3 : (ws.getD k ⟨0,0,[]⟩).text.length ≤ 4096 := by
      rw [List.getD_eq_getElem?_getD]
      cases hx : ws[k]? with
      | none => exact Nat.zero_le _
      | some w => exact h w (List.mem_of_getElem? hx)
    rw [txt_succ,List.length_append,List.length_append,Nat.succ_mul]
    unfold gap
    omega
theorem below5 (x : Int) : ∃ g : Nat,g < 5 ∧ belowP x 5 = (g : Int) := by
  have := belowP_bnd x 5 (by decide) (by decide)
  exact ⟨(belowP x 5).toNat,by omega,by omega⟩
theorem lit5 {g : Nat} (hg : g < 5) : (#[Value.string { data := #[32] },Value.string { data := #[10] },Value.string { data := #[32,32,10,32] },Value.string { data := #[32,35,32,97,32,59,32,98,10] },Value.string { data := #[35,123,10] }] : Array Value)[g]? = some (.string ⟨(gapT g).toArray⟩) := by
  match g,hg with
  | 0,_ => rfl
  | 1,_ => rfl
  | 2,_ => rfl
  | 3,_ => rfl
  | 4,_ => rfl
/-- The law of the texts. -/
def Back (s : List UInt8) (len1 : Nat) (z1 : List Int) (ws : List Wd) : Prop := ∃ ks,readF (txt len1 z1 ws ws.length) = .ok ks ∧ ks.map zt = ws.map zt ∧ ks.length ≤ 4096
theorem walk_some (s : List UInt8) (xa : Addr) (len1 cap1 : Nat) (z1 : List Int) (w : World) (hle : len1 ≤ cap1) (hcm : cap1 ≤ maxLen) (hz : z1.length = cap1) (hgap : ∀ i,i < z1.length → w.cell? (xa.add i) = some (.int .i64 (z1.getD i 0))) (hback : ∀ ws,readF s = .ok ws → s.length ≤ 300 → Back s len1 z1 ws) :
    Calls Try.prog 4 #[.string ⟨s.toArray⟩,.slice (some xa) len1 cap1] w fun e w' => e = .returned (.bool true) ∧ Below w.heap.size w w' := by
  go_enter Try.func4,Try.ntmps4
  go_wp2_with (go_at_call 6; refine (c_read s _).mono ?_)
  rintro e w1 ⟨x,er,rfl,hread,hb1⟩
  rcases hread with ⟨ws,hok,rfl,hrows⟩ | ⟨-,hne⟩
  · have hrows' := hrows
    obtain ⟨hs4,hpos,hwl⟩ := readF_pos hok
    have htx : ∀ w ∈ ws,w.text.length ≤ 4096 := fun w hw => Nat.le_trans (hpos.len w hw) hs4
    have htx' : ∀ k,(ws.getD k ⟨0,0,[]⟩).text.length ≤ 4096 := fun k => by
      rw [List.getD_eq_getElem?_getD]
      cases hx : ws[k]? with
      | none => exact Nat.zero_le _
      | some w => exact htx w (List.mem_of_getElem? hx)
    rcases hrows with ⟨hws,hx⟩ | ⟨b,off,cap,rfl,hcap,hblt,hcells⟩
    · obtain rfl : ws = [] := List.map_eq_nil_iff.1 hws
      obtain ⟨ao,cap,rfl⟩ : ∃ ao cap,x = .slice ao 0 cap := by
        rcases hx with rfl | ⟨a,rfl⟩ | ⟨b,off,cap,rfl⟩ <;> exact ⟨_,_,rfl⟩
      clear hx
      go_wp2_with (go_at_call 7; refine (c_worded _).mono ?_)
      rintro e w2 ⟨rfl,hb2⟩
      go_wp2_with (go_at_call 7; refine (c_worded _).mono ?_)
      · rintro e w3 ⟨rfl,hb3⟩
        go_wp2
        go_ret
        exact ⟨rfl,hb1.trans ((hb2.trans (hb3.mono hb2.size)).mono hb1.size)⟩
      · have hlen3 : s.length ≤ 300 := by omega
        obtain ⟨ks,hks,hkz,hkl⟩ := hback [] hok hlen3
        have hback := ()
        go_loopw [32] (fun i wr => i = .int .i64 (0 : Nat) ∧ Lib.IsBuilderF 35 5 w2.heap.size w2.heap.size (Lib.byteCells []) wr ∧ Below w2.heap.size w2 wr) (fun _ _ => 0)
        case atStart => exact ⟨rfl,.of (Lib.fresh_isBuilder 35 5 w2),(Below.refl _ w2).alloc (Nat.le_refl _) _⟩
        case round =>
          obtain ⟨rfl,hB,hbel⟩ := hrel
          have hB' : Lib.IsBuilderF 35 5 w2.heap.size w2.heap.size (Lib.byteCells (txt len1 z1 [] 0)) wr := hB
          have hks' : readF (txt len1 z1 [] 0) = .ok ks := hks
          clear hks
          have hks := hks'
          clear hks'
          go_wp2_with (go_at_call 11; refine (bstr w2.heap.size w2.heap.size _ _ hB' hbel.size).mono ?_)
          rintro e w7 ⟨rfl,hb7⟩
          have hK : Below w2.heap.size w2 w7 := hbel.trans hb7
          go_wp2_with (go_at_call 6; refine (c_read (txt len1 z1 [] 0) _).mono ?_)
          rintro e w8 ⟨y,er2,rfl,hread2,hb8⟩
          obtain ⟨rfl,hrows2⟩ : er2 = 0 ∧ WRows 3 w8 y (ks.map fW) := by
            rcases hread2 with ⟨vs,hv,h0,hr⟩ | ⟨hv, -⟩
            · rw [hks] at hv; cases hv; exact ⟨h0,hr⟩
            · rw [hks] at hv; cases hv
          have hW8 : Below w1.heap.size w1 w8 := hb2.trans ((hK.trans (hb8.mono hK.size)).mono hb2.size)
          go_wp2_with (go_at_call 13; refine (c_texts [] hwl _ _ (hrows'.mono hW8)).mono ?_)
          rintro e w9 ⟨y1,rfl,hy1,hb9⟩
          go_wp2_with (go_at_call 13; refine (c_texts ks hkl _ _ (hrows2.mono hb9)).mono ?_)
          rintro e w10 ⟨y2,rfl,hy2,hb10⟩
          go_wp2_with (go_at_call 12; refine (c_equal (List.map zt []) (ks.map zt) hkz.symm (by rw [List.length_map]; exact hwl) _ _ _ (hy1.mono hb10) hy2).mono ?_)
          rintro e w11 ⟨rfl,hb11⟩
          have hW11 : Below w1.heap.size w1 w11 := hW8.trans (((hb9.trans (hb10.mono hb9.size)).trans (hb11.mono (Nat.le_trans hb9.size hb10.size))).mono hW8.size)
          go_wp2
          go_ret
          exact ⟨rfl,hb1.trans (hW11.mono hb1.size)⟩
    · rw [List.length_map] at hcap hrows'
      go_wp2_with (go_at_call 7; refine (c_worded _).mono ?_)
      rintro e w2 ⟨rfl,hb2⟩
      go_wp2_with (go_at_call 7; refine (c_worded _).mono ?_)
      · rintro e w3 ⟨rfl,hb3⟩
        go_wp2
        go_ret
        exact ⟨rfl,hb1.trans ((hb2.trans (hb3.mono hb2.size)).mono hb1.size)⟩
      · have hlen3 : s.length ≤ 300 := by omega
        obtain ⟨ks,hks,hkz,hkl⟩ := hback ws hok hlen3
        have hback := ()
        have hcell : ∀ k (wr : World),Below w2.heap.size w2 wr → k < ws.length → wr.cell? ⟨b,off + k * 3,none⟩ = some (.int .i64 (ws.getD k ⟨0,0,[]⟩).kind) ∧ wr.cell? ⟨b,off + k * 3 + 1,none⟩ = some (.int .i64 ((ws.getD k ⟨0,0,[]⟩).at_ : Nat)) ∧ wr.cell? ⟨b,off + k * 3 + 2,none⟩ = some (.string ⟨(ws.getD k ⟨0,0,[]⟩).text.toArray⟩) := by
          intro k wr hwr hk
          have hb' : Below w1.heap.size w1 wr := hb2.trans (hwr.mono hb2.size)
          have hx : (ws.map fW)[k]? = some (fW (ws.getD k ⟨0,0,[]⟩)) := by
            rw [List.getElem?_map,List.getD_eq_getElem?_getD,List.getElem?_eq_getElem hk]; rfl
          refine ⟨?_,?_,?_⟩
          · rw [hb'.cell hblt]; exact hcells k _ 0 _ hx rfl
          · rw [hb'.cell hblt]; exact hcells k _ 1 _ hx rfl
          · rw [hb'.cell hblt]; exact hcells k _ 2 _ hx rfl
        clear hcells
        go_loopw [32] (fun i wr => ∃ k : Nat,k ≤ ws.length ∧ i = .int .i64 k ∧ Lib.IsBuilderF 35 5 w2.heap.size w2.heap.size (Lib.byteCells (txt len1 z1 ws k)) wr ∧ Below w2.heap.size w2 wr ∧ w2.heap.size < wr.heap.size) (fun i _ => ws.length - (intOf i).toNat)
        case atStart => exact ⟨0,Nat.zero_le _,rfl,.of (Lib.fresh_isBuilder 35 5 w2),(Below.refl _ w2).alloc (Nat.le_refl _) _,by simp⟩
        case round =>
          obtain ⟨k,hk,rfl,hB,hbel,hblt'⟩ := hrel
          have hc0 : k < ws.length → _ := fun h => (hcell k _ hbel h).1
          have hc1 : k < ws.length → _ := fun h => (hcell k _ hbel h).2.1
          have hc2 : k < ws.length → _ := fun h => (hcell k _ hbel h).2.2
          have hga : k < len1 → ∀ o,(wr.alloc o).cell? (xa.add k) = some (.int .i64 (z1.getD k 0)) := fun h o => by
            have h1 := hgap k (by omega)
            have h2 : (xa.add k).block < w.heap.size := block_lt_of_cell h1
            rw [(hb1.trans ((hb2.trans ((hbel.alloc hbel.size o).mono hb2.size)).mono hb1.size)).cell h2]; exact h1
          go_wp2_with (first | (go_at_call 10; refine (c_below _ _).mono ?_) | (go_at_call 11; refine (bstr w2.heap.size w2.heap.size _ _ hB hbel.size).mono ?_))
          · rintro e w4 ⟨rfl,hb4⟩
            obtain ⟨g,hg5,hge⟩ := below5 (z1[k]?.getD 0)
            have hgap' : gap len1 z1 k = gapT g := by
              have e1 : gapN len1 z1 k = z1[k]?.getD 0 := by unfold gapN; rw [if_pos ‹k < len1›,List.getD_eq_getElem?_getD]
              unfold gap
              rw [e1,hge]; rfl
            rw [hge]
            have hbr : Below wr.heap.size wr w4 := (((Below.refl _ wr).alloc (Nat.le_refl _) _).alloc (by simp) _).trans (hb4.mono (by simp <;> omega))
            have hF4 := builder_below hB hbr
            have hw4 : Below w2.heap.size w2 w4 := hbel.trans (hbr.mono hbel.size)
            have ho1 : w4.heap[wr.heap.size]? = some (.cells #[.int .i64 (ws.getD k ⟨0,0,[]⟩).kind,.int .i64 ((ws.getD k ⟨0,0,[]⟩).at_ : Nat),.string ⟨(ws.getD k ⟨0,0,[]⟩).text.toArray⟩] 28 (0,0)) := by
              rw [hb4.block _ (by simp <;> omega)]
              rw [Lib.alloc_old _ _ _ (by simp),heap_alloc_new]
              simp [List.getD_eq_getElem?_getD,List.getElem?_eq_getElem ‹k < ws.length›]
            have hlit : w4.cell? ⟨wr.heap.size + 1,g,none⟩ = some (.string ⟨(gapT g).toArray⟩) := by
              rw [hb4.cell (by simp)]
              have : wr.heap.size + 1 = (wr.alloc (.cells #[.int .i64 ws[k].kind,.int .i64 (ws[k].at_ : Nat),.string ⟨ws[k].text.toArray⟩] 28)).heap.size := by simp
              simp only [World.cell?]
              rw [this,heap_alloc_new]
              exact lit5 hg5
            have htl := txt_len (len1 := len1) (z1 := z1) htx k
            have hgl9 := gapT_len g
            have hk4 : k * 4105 ≤ 4096 * 4105 := Nat.mul_le_mul_right _ (by omega)
            go_wp2_with (go_at_call 9; refine (wstr w2.heap.size w2.heap.size _ _ _ hF4 ?_ hw4.size).mono ?_)
            · rw [Lib.byteCells_length]; simp only [ByteArray.size,List.size_toArray]; omega
            rintro e w5 ⟨rfl,hA5,hb5,hO5⟩
            have ho2 : w5.heap[wr.heap.size]? = _ := hO5 _ _ ho1 (by have := hF4; intro h; injection h with h; have h2 : w2.heap.size < wr.heap.size := hblt' ; omega) (fun c fz h => by injection h with _ h _; cases h)
            have hc5 : w5.cell? ⟨wr.heap.size,2,none⟩ = some (.string ⟨(ws.getD k ⟨0,0,[]⟩).text.toArray⟩) := by simp only [World.cell?,ho2]; rfl
            have htk : ws[k].text.length ≤ 4096 := htx _ (List.getElem_mem _)
            have htk2 : (ws[k]?.getD ⟨0,0,[]⟩).text.length ≤ 4096 := by have := htx' k; rwa [List.getD_eq_getElem?_getD] at this
            go_wp2_with (go_at_call 9; refine (wstr w2.heap.size w2.heap.size _ _ _ (.inr hA5) ?_ (Nat.le_trans hw4.size hb5.size)).mono ?_)
            · rw [List.length_append,Lib.byteCells_length,Lib.strCells_length]; simp only [ByteArray.size,List.size_toArray]; omega
            rintro e w6 ⟨rfl,hA6,hb6,hO6⟩
            go_wp2
            go_roundw
            case rel =>
              refine ⟨k + 1,by omega,by go_num,.inr ?_,hw4.trans (hb5.trans (hb6)),?_⟩
              · have e2 : ws.getD k ⟨0,0,[]⟩ = ws[k] := by rw [List.getD_eq_getElem?_getD,List.getElem?_eq_getElem ‹k < ws.length›]; rfl
                rw [txt_succ,hgap',e2,Lib.byteCells_append,Lib.byteCells_append,← List.append_assoc]
                exact hA6
              · have := hb5.size; have := hb6.size; have := hbr.size; omega
            case measure => simp [intOf]; omega
          · rintro e w4 ⟨rfl,hb4⟩
            obtain ⟨g,hg5,hge⟩ := below5 (0)
            have hgap' : gap len1 z1 k = gapT g := by
              have e1 : gapN len1 z1 k = 0 := by unfold gapN; rw [if_neg ‹¬ k < len1›]
              unfold gap
              rw [e1,hge]; rfl
            rw [hge]
            have hbr : Below wr.heap.size wr w4 := (((Below.refl _ wr).alloc (Nat.le_refl _) _).alloc (by simp) _).trans (hb4.mono (by simp <;> omega))
            have hF4 := builder_below hB hbr
            have hw4 : Below w2.heap.size w2 w4 := hbel.trans (hbr.mono hbel.size)
            have ho1 : w4.heap[wr.heap.size]? = some (.cells #[.int .i64 (ws.getD k ⟨0,0,[]⟩).kind,.int .i64 ((ws.getD k ⟨0,0,[]⟩).at_ : Nat),.string ⟨(ws.getD k ⟨0,0,[]⟩).text.toArray⟩] 28 (0,0)) := by
              rw [hb4.block _ (by simp <;> omega)]
              rw [Lib.alloc_old _ _ _ (by simp),heap_alloc_new]
              simp [List.getD_eq_getElem?_getD,List.getElem?_eq_getElem ‹k < ws.length›]
            have hlit : w4.cell? ⟨wr.heap.size + 1,g,none⟩ = some (.string ⟨(gapT g).toArray⟩) := by
              rw [hb4.cell (by simp)]
              have : wr.heap.size + 1 = (wr.alloc (.cells #[.int .i64 ws[k].kind,.int .i64 (ws[k].at_ : Nat),.string ⟨ws[k].text.toArray⟩] 28)).heap.size := by simp
              simp only [World.cell?]
              rw [this,heap_alloc_new]
              exact lit5 hg5
            have htl := txt_len (len1 := len1) (z1 := z1) htx k
            have hgl9 := gapT_len g
            have hk4 : k * 4105 ≤ 4096 * 4105 := Nat.mul_le_mul_right _ (by omega)
            go_wp2_with (go_at_call 9; refine (wstr w2.heap.size w2.heap.size _ _ _ hF4 ?_ hw4.size).mono ?_)
            · rw [Lib.byteCells_length]; simp only [ByteArray.size,List.size_toArray]; omega
            rintro e w5 ⟨rfl,hA5,hb5,hO5⟩
            have ho2 : w5.heap[wr.heap.size]? = _ := hO5 _ _ ho1 (by have := hF4; intro h; injection h with h; have h2 : w2.heap.size < wr.heap.size := hblt' ; omega) (fun c fz h => by injection h with _ h _; cases h)
            have hc5 : w5.cell? ⟨wr.heap.size,2,none⟩ = some (.string ⟨(ws.getD k ⟨0,0,[]⟩).text.toArray⟩) := by simp only [World.cell?,ho2]; rfl
            have htk : ws[k].text.length ≤ 4096 := htx _ (List.getElem_mem _)
            have htk2 : (ws[k]?.getD ⟨0,0,[]⟩).text.length ≤ 4096 := by have := htx' k; rwa [List.getD_eq_getElem?_getD] at this
            go_wp2_with (go_at_call 9; refine (wstr w2.heap.size w2.heap.size _ _ _ (.inr hA5) ?_ (Nat.le_trans hw4.size hb5.size)).mono ?_)
            · rw [List.length_append,Lib.byteCells_length,Lib.strCells_length]; simp only [ByteArray.size,List.size_toArray]; omega
            rintro e w6 ⟨rfl,hA6,hb6,hO6⟩
            go_wp2
            go_roundw
            case rel =>
              refine ⟨k + 1,by omega,by go_num,.inr ?_,hw4.trans (hb5.trans (hb6)),?_⟩
              · have e2 : ws.getD k ⟨0,0,[]⟩ = ws[k] := by rw [List.getD_eq_getElem?_getD,List.getElem?_eq_getElem ‹k < ws.length›]; rfl
                rw [txt_succ,hgap',e2,Lib.byteCells_append,Lib.byteCells_append,← List.append_assoc]
                exact hA6
              · have := hb5.size; have := hb6.size; have := hbr.size; omega
            case measure => simp [intOf]; omega
          · obtain rfl : k = ws.length := by omega
            rintro e w7 ⟨rfl,hb7⟩
            have hK : Below w2.heap.size w2 w7 := hbel.trans hb7
            go_wp2_with (go_at_call 6; refine (c_read (txt len1 z1 ws ws.length) _).mono ?_)
            rintro e w8 ⟨y,er2,rfl,hread2,hb8⟩
            obtain ⟨rfl,hrows2⟩ : er2 = 0 ∧ WRows 3 w8 y (ks.map fW) := by
              rcases hread2 with ⟨vs,hv,h0,hr⟩ | ⟨hv, -⟩
              · rw [hks] at hv; cases hv; exact ⟨h0,hr⟩
              · rw [hks] at hv; cases hv
            have hW8 : Below w1.heap.size w1 w8 := hb2.trans ((hK.trans (hb8.mono hK.size)).mono hb2.size)
            go_wp2_with (go_at_call 13; refine (c_texts ws hwl _ _ (hrows'.mono hW8)).mono ?_)
            rintro e w9 ⟨y1,rfl,hy1,hb9⟩
            go_wp2_with (go_at_call 13; refine (c_texts ks hkl _ _ (hrows2.mono hb9)).mono ?_)
            rintro e w10 ⟨y2,rfl,hy2,hb10⟩
            go_wp2_with (go_at_call 12; refine (c_equal (List.map zt ws) (ks.map zt) hkz.symm (by rw [List.length_map]; exact hwl) _ _ _ (hy1.mono hb10) hy2).mono ?_)
            rintro e w11 ⟨rfl,hb11⟩
            have hW11 : Below w1.heap.size w1 w11 := hW8.trans (((hb9.trans (hb10.mono hb9.size)).trans (hb11.mono (Nat.le_trans hb9.size hb10.size))).mono hW8.size)
            go_wp2
            go_ret
            exact ⟨rfl,hb1.trans (hW11.mono hb1.size)⟩
  · go_wp2_with (go_at_call 7; refine (c_worded _).mono ?_)
    rintro e w2 ⟨rfl,hb2⟩
    go_wp2_with (go_at_call 7; refine (c_worded _).mono ?_)
    rintro e w3 ⟨rfl,hb3⟩
    go_wp2
    go_ret
    exact ⟨rfl,hb1.trans ((hb2.trans (hb3.mono hb2.size)).mono hb1.size)⟩
theorem walk_none (s : List UInt8) (w : World) (hback : ∀ ws,readF s = .ok ws → s.length ≤ 300 → Back s 0 [] ws) :
    Calls Try.prog 4 #[.string ⟨s.toArray⟩,.slice none 0 0] w fun e w' => e = .returned (.bool true) ∧ Below w.heap.size w w' := by
  go_enter Try.func4,Try.ntmps4
  go_wp2_with (go_at_call 6; refine (c_read s _).mono ?_)
  rintro e w1 ⟨x,er,rfl,hread,hb1⟩
  rcases hread with ⟨ws,hok,rfl,hrows⟩ | ⟨-,hne⟩
  · have hrows' := hrows
    obtain ⟨hs4,hpos,hwl⟩ := readF_pos hok
    have htx : ∀ w ∈ ws,w.text.length ≤ 4096 := fun w hw => Nat.le_trans (hpos.len w hw) hs4
    have htx' : ∀ k,(ws.getD k ⟨0,0,[]⟩).text.length ≤ 4096 := fun k => by
      rw [List.getD_eq_getElem?_getD]
      cases hx : ws[k]? with
      | none => exact Nat.zero_le _
      | some w => exact htx w (List.mem_of_getElem? hx)
    rcases hrows with ⟨hws,hx⟩ | ⟨b,off,cap,rfl,hcap,hblt,hcells⟩
    · obtain rfl : ws = [] := List.map_eq_nil_iff.1 hws
      obtain ⟨ao,cap,rfl⟩ : ∃ ao cap,x = .slice ao 0 cap := by
        rcases hx with rfl | ⟨a,rfl⟩ | ⟨b,off,cap,rfl⟩ <;> exact ⟨_,_,rfl⟩
      clear hx
      go_wp2_with (go_at_call 7; refine (c_worded _).mono ?_)
      rintro e w2 ⟨rfl,hb2⟩
      go_wp2_with (go_at_call 7; refine (c_worded _).mono ?_)
      · rintro e w3 ⟨rfl,hb3⟩
        go_wp2
        go_ret
        exact ⟨rfl,hb1.trans ((hb2.trans (hb3.mono hb2.size)).mono hb1.size)⟩
      · have hlen3 : s.length ≤ 300 := by omega
        obtain ⟨ks,hks,hkz,hkl⟩ := hback [] hok hlen3
        have hback := ()
        go_loopw [32] (fun i wr => i = .int .i64 (0 : Nat) ∧ Lib.IsBuilderF 35 5 w2.heap.size w2.heap.size (Lib.byteCells []) wr ∧ Below w2.heap.size w2 wr) (fun _ _ => 0)
        case atStart => exact ⟨rfl,.of (Lib.fresh_isBuilder 35 5 w2),(Below.refl _ w2).alloc (Nat.le_refl _) _⟩
        case round =>
          obtain ⟨rfl,hB,hbel⟩ := hrel
          have hB' : Lib.IsBuilderF 35 5 w2.heap.size w2.heap.size (Lib.byteCells (txt 0 [] [] 0)) wr := hB
          have hks' : readF (txt 0 [] [] 0) = .ok ks := hks
          clear hks
          have hks := hks'
          clear hks'
          go_wp2_with (go_at_call 11; refine (bstr w2.heap.size w2.heap.size _ _ hB' hbel.size).mono ?_)
          rintro e w7 ⟨rfl,hb7⟩
          have hK : Below w2.heap.size w2 w7 := hbel.trans hb7
          go_wp2_with (go_at_call 6; refine (c_read (txt 0 [] [] 0) _).mono ?_)
          rintro e w8 ⟨y,er2,rfl,hread2,hb8⟩
          obtain ⟨rfl,hrows2⟩ : er2 = 0 ∧ WRows 3 w8 y (ks.map fW) := by
            rcases hread2 with ⟨vs,hv,h0,hr⟩ | ⟨hv, -⟩
            · rw [hks] at hv; cases hv; exact ⟨h0,hr⟩
            · rw [hks] at hv; cases hv
          have hW8 : Below w1.heap.size w1 w8 := hb2.trans ((hK.trans (hb8.mono hK.size)).mono hb2.size)
          go_wp2_with (go_at_call 13; refine (c_texts [] hwl _ _ (hrows'.mono hW8)).mono ?_)
          rintro e w9 ⟨y1,rfl,hy1,hb9⟩
          go_wp2_with (go_at_call 13; refine (c_texts ks hkl _ _ (hrows2.mono hb9)).mono ?_)
          rintro e w10 ⟨y2,rfl,hy2,hb10⟩
          go_wp2_with (go_at_call 12; refine (c_equal (List.map zt []) (ks.map zt) hkz.symm (by rw [List.length_map]; exact hwl) _ _ _ (hy1.mono hb10) hy2).mono ?_)
          rintro e w11 ⟨rfl,hb11⟩
          have hW11 : Below w1.heap.size w1 w11 := hW8.trans (((hb9.trans (hb10.mono hb9.size)).trans (hb11.mono (Nat.le_trans hb9.size hb10.size))).mono hW8.size)
          go_wp2
          go_ret
          exact ⟨rfl,hb1.trans (hW11.mono hb1.size)⟩
    · rw [List.length_map] at hcap hrows'
      go_wp2_with (go_at_call 7; refine (c_worded _).mono ?_)
      rintro e w2 ⟨rfl,hb2⟩
      go_wp2_with (go_at_call 7; refine (c_worded _).mono ?_)
      · rintro e w3 ⟨rfl,hb3⟩
        go_wp2
        go_ret
        exact ⟨rfl,hb1.trans ((hb2.trans (hb3.mono hb2.size)).mono hb1.size)⟩
      · have hlen3 : s.length ≤ 300 := by omega
        obtain ⟨ks,hks,hkz,hkl⟩ := hback ws hok hlen3
        have hback := ()
        have hcell : ∀ k (wr : World),Below w2.heap.size w2 wr → k < ws.length → wr.cell? ⟨b,off + k * 3,none⟩ = some (.int .i64 (ws.getD k ⟨0,0,[]⟩).kind) ∧ wr.cell? ⟨b,off + k * 3 + 1,none⟩ = some (.int .i64 ((ws.getD k ⟨0,0,[]⟩).at_ : Nat)) ∧ wr.cell? ⟨b,off + k * 3 + 2,none⟩ = some (.string ⟨(ws.getD k ⟨0,0,[]⟩).text.toArray⟩) := by
          intro k wr hwr hk
          have hb' : Below w1.heap.size w1 wr := hb2.trans (hwr.mono hb2.size)
          have hx : (ws.map fW)[k]? = some (fW (ws.getD k ⟨0,0,[]⟩)) := by
            rw [List.getElem?_map,List.getD_eq_getElem?_getD,List.getElem?_eq_getElem hk]; rfl
          refine ⟨?_,?_,?_⟩
          · rw [hb'.cell hblt]; exact hcells k _ 0 _ hx rfl
          · rw [hb'.cell hblt]; exact hcells k _ 1 _ hx rfl
          · rw [hb'.cell hblt]; exact hcells k _ 2 _ hx rfl
        clear hcells
        go_loopw [32] (fun i wr => ∃ k : Nat,k ≤ ws.length ∧ i = .int .i64 k ∧ Lib.IsBuilderF 35 5 w2.heap.size w2.heap.size (Lib.byteCells (txt 0 [] ws k)) wr ∧ Below w2.heap.size w2 wr ∧ w2.heap.size < wr.heap.size) (fun i _ => ws.length - (intOf i).toNat)
        case atStart => exact ⟨0,Nat.zero_le _,rfl,.of (Lib.fresh_isBuilder 35 5 w2),(Below.refl _ w2).alloc (Nat.le_refl _) _,by simp⟩
        case round =>
          obtain ⟨k,hk,rfl,hB,hbel,hblt'⟩ := hrel
          have hc0 : k < ws.length → _ := fun h => (hcell k _ hbel h).1
          have hc1 : k < ws.length → _ := fun h => (hcell k _ hbel h).2.1
          have hc2 : k < ws.length → _ := fun h => (hcell k _ hbel h).2.2
          go_wp2_with (first | (go_at_call 10; refine (c_below _ _).mono ?_) | (go_at_call 11; refine (bstr w2.heap.size w2.heap.size _ _ hB hbel.size).mono ?_))
          · rintro e w4 ⟨rfl,hb4⟩
            obtain ⟨g,hg5,hge⟩ := below5 (0)
            have hgap' : gap 0 [] k = gapT g := by
              have e1 : gapN 0 [] k = 0 := rfl
              unfold gap
              rw [e1,hge]; rfl
            rw [hge]
            have hbr : Below wr.heap.size wr w4 := (((Below.refl _ wr).alloc (Nat.le_refl _) _).alloc (by simp) _).trans (hb4.mono (by simp <;> omega))
            have hF4 := builder_below hB hbr
            have hw4 : Below w2.heap.size w2 w4 := hbel.trans (hbr.mono hbel.size)
            have ho1 : w4.heap[wr.heap.size]? = some (.cells #[.int .i64 (ws.getD k ⟨0,0,[]⟩).kind,.int .i64 ((ws.getD k ⟨0,0,[]⟩).at_ : Nat),.string ⟨(ws.getD k ⟨0,0,[]⟩).text.toArray⟩] 28 (0,0)) := by
              rw [hb4.block _ (by simp <;> omega)]
              rw [Lib.alloc_old _ _ _ (by simp),heap_alloc_new]
              simp [List.getD_eq_getElem?_getD,List.getElem?_eq_getElem ‹k < ws.length›]
            have hlit : w4.cell? ⟨wr.heap.size + 1,g,none⟩ = some (.string ⟨(gapT g).toArray⟩) := by
              rw [hb4.cell (by simp)]
              have : wr.heap.size + 1 = (wr.alloc (.cells #[.int .i64 ws[k].kind,.int .i64 (ws[k].at_ : Nat),.string ⟨ws[k].text.toArray⟩] 28)).heap.size := by simp
              simp only [World.cell?]
              rw [this,heap_alloc_new]
              exact lit5 hg5
            have htl := txt_len (len1 := 0) (z1 := []) htx k
            have hgl9 := gapT_len g
            have hk4 : k * 4105 ≤ 4096 * 4105 := Nat.mul_le_mul_right _ (by omega)
            go_wp2_with (go_at_call 9; refine (wstr w2.heap.size w2.heap.size _ _ _ hF4 ?_ hw4.size).mono ?_)
            · rw [Lib.byteCells_length]; simp only [ByteArray.size,List.size_toArray]; omega
            rintro e w5 ⟨rfl,hA5,hb5,hO5⟩
            have ho2 : w5.heap[wr.heap.size]? = _ := hO5 _ _ ho1 (by have := hF4; intro h; injection h with h; have h2 : w2.heap.size < wr.heap.size := hblt' ; omega) (fun c fz h => by injection h with _ h _; cases h)
            have hc5 : w5.cell? ⟨wr.heap.size,2,none⟩ = some (.string ⟨(ws.getD k ⟨0,0,[]⟩).text.toArray⟩) := by simp only [World.cell?,ho2]; rfl
            have htk : ws[k].text.length ≤ 4096 := htx _ (List.getElem_mem _)
            have htk2 : (ws[k]?.getD ⟨0,0,[]⟩).text.length ≤ 4096 := by have := htx' k; rwa [List.getD_eq_getElem?_getD] at this
            go_wp2_with (go_at_call 9; refine (wstr w2.heap.size w2.heap.size _ _ _ (.inr hA5) ?_ (Nat.le_trans hw4.size hb5.size)).mono ?_)
            · rw [List.length_append,Lib.byteCells_length,Lib.strCells_length]; simp only [ByteArray.size,List.size_toArray]; omega
            rintro e w6 ⟨rfl,hA6,hb6,hO6⟩
            go_wp2
            go_roundw
            case rel =>
              refine ⟨k + 1,by omega,by go_num,.inr ?_,hw4.trans (hb5.trans (hb6)),?_⟩
              · have e2 : ws.getD k ⟨0,0,[]⟩ = ws[k] := by rw [List.getD_eq_getElem?_getD,List.getElem?_eq_getElem ‹k < ws.length›]; rfl
                rw [txt_succ,hgap',e2,Lib.byteCells_append,Lib.byteCells_append,← List.append_assoc]
                exact hA6
              · have := hb5.size; have := hb6.size; have := hbr.size; omega
            case measure => simp [intOf]; omega
          · obtain rfl : k = ws.length := by omega
            rintro e w7 ⟨rfl,hb7⟩
            have hK : Below w2.heap.size w2 w7 := hbel.trans hb7
            go_wp2_with (go_at_call 6; refine (c_read (txt 0 [] ws ws.length) _).mono ?_)
            rintro e w8 ⟨y,er2,rfl,hread2,hb8⟩
            obtain ⟨rfl,hrows2⟩ : er2 = 0 ∧ WRows 3 w8 y (ks.map fW) := by
              rcases hread2 with ⟨vs,hv,h0,hr⟩ | ⟨hv, -⟩
              · rw [hks] at hv; cases hv; exact ⟨h0,hr⟩
              · rw [hks] at hv; cases hv
            have hW8 : Below w1.heap.size w1 w8 := hb2.trans ((hK.trans (hb8.mono hK.size)).mono hb2.size)
            go_wp2_with (go_at_call 13; refine (c_texts ws hwl _ _ (hrows'.mono hW8)).mono ?_)
            rintro e w9 ⟨y1,rfl,hy1,hb9⟩
            go_wp2_with (go_at_call 13; refine (c_texts ks hkl _ _ (hrows2.mono hb9)).mono ?_)
            rintro e w10 ⟨y2,rfl,hy2,hb10⟩
            go_wp2_with (go_at_call 12; refine (c_equal (List.map zt ws) (ks.map zt) hkz.symm (by rw [List.length_map]; exact hwl) _ _ _ (hy1.mono hb10) hy2).mono ?_)
            rintro e w11 ⟨rfl,hb11⟩
            have hW11 : Below w1.heap.size w1 w11 := hW8.trans (((hb9.trans (hb10.mono hb9.size)).trans (hb11.mono (Nat.le_trans hb9.size hb10.size))).mono hW8.size)
            go_wp2
            go_ret
            exact ⟨rfl,hb1.trans (hW11.mono hb1.size)⟩
  · go_wp2_with (go_at_call 7; refine (c_worded _).mono ?_)
    rintro e w2 ⟨rfl,hb2⟩
    go_wp2_with (go_at_call 7; refine (c_worded _).mono ?_)
    rintro e w3 ⟨rfl,hb3⟩
    go_wp2
    go_ret
    exact ⟨rfl,hb1.trans ((hb2.trans (hb3.mono hb2.size)).mono hb1.size)⟩
end Vg.G2
