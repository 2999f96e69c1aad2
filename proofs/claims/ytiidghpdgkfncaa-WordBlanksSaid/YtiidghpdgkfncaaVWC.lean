/- Blanks and comments between words do not change them. -/
import Derived.Test.YtiidghpdgkfncaaVWB
import Derived.Test.YtiidghpdgkfncaaVBW
namespace Vg.G2
open Go Lg Go.RowKit Go.Proofs
set_option linter.unusedVariables false
set_option linter.unusedSimpArgs false
theorem gapT_head (n : Nat) : ∃ c t,gapT n = c :: t ∧ ((c.toNat : Int) = 32 ∨ (c.toNat : Int) = 10 ∨ (c.toNat : Int) = 35) := by
  unfold gapT
  split
  · exact ⟨_,_,rfl,.inl rfl⟩
  · split
    · exact ⟨_,_,rfl,.inr (.inl rfl)⟩
    · split
      · exact ⟨_,_,rfl,.inl rfl⟩
      · split
        · exact ⟨_,_,rfl,.inl rfl⟩
        · exact ⟨_,_,rfl,.inr (.inr rfl)⟩
theorem gapT_ok (n : Nat) : gapOK (gapT n) := by
  have b32 : isBlank 32 = true := rfl
  have b10 : isBlank 10 = true := rfl
  have b35 : isBlank 35 = false := rfl
  have e35 : (((35 : UInt8).toNat : Nat) : Int) = 35 := rfl
  have n32 : (((32 : UInt8).toNat : Nat) : Int) = 32 := rfl
  have n97 : (((97 : UInt8).toNat : Nat) : Int) = 97 := rfl
  have n59 : (((59 : UInt8).toNat : Nat) : Int) = 59 := rfl
  have n98 : (((98 : UInt8).toNat : Nat) : Int) = 98 := rfl
  have n123 : (((123 : UInt8).toNat : Nat) : Int) = 123 := rfl
  have n10 : (((10 : UInt8).toNat : Nat) : Int) = 10 := rfl
  intro c r h1 h2
  have h0 : sk false (c :: r) = 0 := by simp [sk,h1,h2]
  unfold gapT
  split
  · simp [sk,b32,h0,h1,h2]
  · split
    · simp [sk,b10,h0,h1,h2]
    · split
      · simp [sk,b32,b10,h0,h1,h2]
      · split
        · simp [sk,b32,b10,b35,e35,n32,n97,n59,n98,n10,h0,h1,h2]
        · simp [sk,b35,e35,n123,n10,h0,h1,h2]
section
variable {len1 : Nat} {z1 : List Int} {ws : List Wd}
def prs (len1 : Nat) (z1 : List Int) (ws : List Wd) (l : List Nat) : List (List UInt8 × Wd) := l.map fun i => (gap len1 z1 i,ws.getD i ⟨0,0,[]⟩)
theorem R_prs : ∀ l : List Nat,R (prs len1 z1 ws l) = l.flatMap fun i => gap len1 z1 i ++ (ws.getD i ⟨0,0,[]⟩).text
  | [] => rfl
  | i :: l => by
    have := R_prs l
    unfold prs at this ⊢
    simp only [List.map_cons,R,List.flatMap_cons,List.append_assoc,this]
theorem Rok_prs : ∀ l : List Nat,(∀ i ∈ l,wordOK (ws.getD i ⟨0,0,[]⟩)) → Rok (prs len1 z1 ws l) ∧ sepH (R (prs len1 z1 ws l))
  | [],_ => ⟨trivial,fun c r e => by cases e⟩
  | i :: l,h => by
    obtain ⟨h1,h2⟩ := Rok_prs l fun j hj => h j (List.mem_cons_of_mem _ hj)
    refine ⟨⟨gapT_ok _,h i (List.mem_cons_self ..),h2,h1⟩,fun c r e => ?_⟩
    obtain ⟨c',t,e1,e2⟩ := gapT_head (belowP (gapN len1 z1 i) 5).toNat
    unfold prs at e
    simp only [List.map_cons,R] at e
    unfold gap at e
    rw [e1,List.cons_append] at e
    injection e with e3 e4
    rw [← e3]; exact e2
theorem pos_sum {s : List UInt8} : ∀ {e : Nat} {ws : List Wd},Pos s e ws → e ≤ s.length → e + (ws.map (·.text.length)).sum ≤ s.length
  | e,[],_,he => by simpa using he
  | e,w :: ws,h,he => by
    have := pos_sum h.2.2.2 h.2.1
    have := h.1
    simp only [List.map_cons,List.sum_cons]
    omega
theorem len_sum : ∀ {ws : List Wd},(∀ w ∈ ws,wordOK w) → ws.length ≤ (ws.map (·.text.length)).sum
  | [],_ => Nat.le_refl _
  | w :: ws,h => by
    have := len_sum fun x hx => h x (List.mem_cons_of_mem _ hx)
    have h1 := (h w (List.mem_cons_self ..)).2.1
    have : 0 < w.text.length := by
      cases ht : w.text with
      | nil => exact absurd ht h1
      | cons => simp
    simp only [List.map_cons,List.sum_cons,List.length_cons]
    omega
theorem txt_len3 : ∀ k,k ≤ ws.length → (txt len1 z1 ws k).length ≤ 9 * k + ((ws.take k).map (·.text.length)).sum
  | 0,_ => by simp [txt]
  | k + 1,h => by
    have h1 := txt_len3 k (by omega)
    have h2 := gapT_len (belowP (gapN len1 z1 k) 5).toNat
    have hk : ws[k]? = some ws[k] := List.getElem?_eq_getElem (by omega)
    have h3 : ws.getD k ⟨0,0,[]⟩ = ws[k] := by rw [List.getD_eq_getElem?_getD,hk]; rfl
    rw [txt_succ,List.length_append,List.length_append,h3,List.take_add_one,hk,List.map_append,List.sum_append]
    unfold gap
    simp only [Option.toList_some,List.map_cons,List.map_nil,List.sum_cons,List.sum_nil,Nat.add_zero]
    omega
theorem back_ok {s : List UInt8} (hr : readF s = .ok ws) (hs : s.length ≤ 300) : Back s len1 z1 ws := by
  obtain ⟨-,hp, -⟩ := readF_pos hr
  have hw := readF_ok hr
  have h1 := pos_sum hp (Nat.zero_le _)
  have h2 := len_sum hw
  have hg : ∀ i ∈ List.range ws.length,wordOK (ws.getD i ⟨0,0,[]⟩) := fun i hi => by
    have hi := List.mem_range.1 hi
    rw [List.getD_eq_getElem?_getD,List.getElem?_eq_getElem hi]
    exact hw _ (List.getElem_mem hi)
  have h3 := txt_len3 (len1 := len1) (z1 := z1) (ws := ws) ws.length (Nat.le_refl _)
  rw [List.take_length] at h3
  have e1 : R (prs len1 z1 ws (List.range ws.length)) = txt len1 z1 ws ws.length := R_prs _
  obtain ⟨ks,hk,hm⟩ := readF_R (Rok_prs (len1 := len1) (z1 := z1) _ hg).1 (by rw [e1]; omega)
  rw [e1] at hk
  refine ⟨ks,hk,?_,(readF_pos hk).2.2⟩
  have e2 : (prs len1 z1 ws (List.range ws.length)).map (fun p => zt0 p.2) = ws.map zt0 := by
    unfold prs
    rw [List.map_map]
    apply List.ext_getElem
    · simp
    · intro i h1 h2
      have : i < ws.length := by simpa using h2
      simp [List.getD_eq_getElem?_getD,List.getElem?_eq_getElem this]
  exact hm.trans e2
end
end Vg.G2
