/- Regions whose order Go leaves open. -/
import Derived.Test.YtpoofafddbcnpaaVLgReg
import Derived.Orders
namespace Lg
open Go Go.RowKit
set_option linter.unusedSimpArgs false
set_option linter.unusedVariables false

/-! ### what waits for what -/

theorem foldl_bit (f : Edge → Nat) : ∀ (es : List Edge) (s j : Nat),(es.foldl (fun s e => if Region.binds .any e then s ||| f e else s) s).testBit j = true → s.testBit j = true ∨ ∃ e ∈ es,Region.binds .any e = true ∧ (f e).testBit j = true
  | [],s,j,h => .inl h
  | e :: es,s,j,h => by
    simp only [List.foldl_cons] at h
    rcases foldl_bit f es _ j h with h1 | ⟨e',h1,h2,h3⟩
    · split at h1
      · rename_i hb
        rw [Nat.testBit_or,Bool.or_eq_true] at h1
        rcases h1 with h1 | h1
        · exact .inl h1
        · exact .inr ⟨e,by simp,hb,h1⟩
      · exact .inl h1
    · exact .inr ⟨e',by simp [h1],h2,h3⟩

theorem mask_bit {o : Oper} {acc : List Nat} {j : Nat} (h : (mask o acc).testBit j = true) : ∃ e ∈ o.after.toList,Region.binds .any e = true ∧ (e.on = j ∨ (acc.getD e.on 0).testBit j = true) := by
  rcases foldl_bit (fun e => 2 ^ e.on ||| acc.getD e.on 0) _ _ j h with h1 | ⟨e,h1,h2,h3⟩
  · simp at h1
  · refine ⟨e,h1,h2,?_⟩
    rw [Nat.testBit_or,Bool.or_eq_true] at h3
    rcases h3 with h3 | h3
    · rw [Nat.testBit_two_pow] at h3
      exact .inl (by simpa using h3)
    · exact .inr h3

theorem befs_pre : ∀ (ops : List Oper) (acc : List Nat) (i : Nat),i < acc.length → (befs ops acc).getD i 0 = acc.getD i 0
  | [],acc,i,h => rfl
  | o :: r,acc,i,h => by
    rw [befs,befs_pre r _ i (by simp; omega)]
    simp [List.getD_eq_getElem?_getD,List.getElem?_append_left h]

theorem befs_get : ∀ (ops : List Oper) (acc : List Nat) (k : Nat) (o : Oper),ops[k]? = some o → ∃ acc' : List Nat,(befs ops acc).getD (acc.length + k) 0 = mask o acc' ∧ acc'.length = acc.length + k ∧ ∀ i,i < acc'.length → acc'.getD i 0 = (befs ops acc).getD i 0
  | [],acc,k,o,h => by simp at h
  | x :: r,acc,k,o,h => by
    cases k with
    | zero =>
      simp at h; subst h
      refine ⟨acc,?_,rfl,fun i hi => ?_⟩
      · rw [befs,befs_pre r _ _ (by simp)]
        simp
      · rw [befs,befs_pre r _ _ (by simp; omega)]
        simp [List.getD_eq_getElem?_getD,List.getElem?_append_left hi]
    | succ k =>
      obtain ⟨acc',h1,h2,h3⟩ := befs_get r (acc ++ [mask x acc]) k o (by simpa using h)
      refine ⟨acc',?_,by simpa [Nat.add_assoc,Nat.add_comm 1 k] using h2,fun i hi => by rw [befs]; exact h3 i hi⟩
      rw [befs]
      rw [← h1]
      congr 1
      simp; omega

/-- A bit: an edge,or an edge and a bit there. -/
theorem befs_bit {ops : List Oper} {i j : Nat} (hb : backB ops = true) (h : ((befs ops []).getD i 0).testBit j = true) :
    ∃ o e,ops[i]? = some o ∧ e ∈ o.after.toList ∧ Region.binds .any e = true ∧ e.on < i ∧ (e.on = j ∨ ((befs ops []).getD e.on 0).testBit j = true) := by
  have hlen : ∀ (ops : List Oper) (acc : List Nat),(befs ops acc).length = acc.length + ops.length := by
    intro ops
    induction ops with
    | nil => intro acc; simp [befs]
    | cons o r ih => intro acc; rw [befs,ih]; simp; omega
  have hi : i < ops.length := by
    rcases Nat.lt_or_ge i ops.length with h' | h'
    · exact h'
    · rw [List.getD_eq_getElem?_getD,List.getElem?_eq_none (by rw [hlen]; simpa using h')] at h; simp at h
  obtain ⟨acc',h1,h2,h3⟩ := befs_get ops [] i ops[i] (List.getElem?_eq_getElem hi)
  simp only [List.length_nil,Nat.zero_add] at h1 h2
  rw [h1] at h
  obtain ⟨e,he,hbe,h4⟩ := mask_bit h
  have hlt : e.on < i := by
    have := List.all_eq_true.1 hb (ops[i],i) (by rw [List.mem_zipIdx_iff_getElem?]; exact List.getElem?_eq_getElem hi)
    have := List.all_eq_true.1 this e he
    simpa [hbe] using this
  refine ⟨ops[i],e,List.getElem?_eq_getElem hi,he,hbe,hlt,?_⟩
  rcases h4 with h4 | h4
  · exact .inl h4
  · exact .inr (by rw [← h3 e.on (by omega)]; exact h4)

theorem befs_lt {ops : List Oper} (hb : backB ops = true) : ∀ (i j : Nat),((befs ops []).getD i 0).testBit j = true → j < i := by
  intro i
  induction i using Nat.strongRecOn with
  | _ i ih =>
    intro j h
    obtain ⟨o,e,_,_,_,hlt,h1⟩ := befs_bit hb h
    rcases h1 with rfl | h1
    · exact hlt
    · have := ih e.on hlt j h1; omega

/-- What has been carried out: with each all that it waits for. -/
def Closed (ops : Array Oper) (listed : Array Bool) : Prop :=
  ∀ i o,ops[i]? = some o → listed.getD i false = true → ∀ e ∈ o.after.toList,Region.binds .any e = true → listed.getD e.on false = true

theorem closed_bef {ops : Array Oper} {listed : Array Bool} (hb : backB ops.toList = true) (hc : Closed ops listed) : ∀ (i j : Nat),listed.getD i false = true → ((befs ops.toList []).getD i 0).testBit j = true → listed.getD j false = true := by
  intro i
  induction i using Nat.strongRecOn with
  | _ i ih =>
    intro j hi h
    obtain ⟨o,e,ho,he,hbe,hlt,h1⟩ := befs_bit hb h
    have hon := hc i o (by simpa using ho) hi e he hbe
    rcases h1 with rfl | h1
    · exact hon
    · exact ih e.on hlt j hon h1

theorem mem_ready {ops : Array Oper} {listed : Array Bool} {i : Nat} (h : i ∈ Region.ready .any ops listed) : i < ops.size ∧ listed.getD i true = false ∧ ∃ o,ops[i]? = some o ∧ ∀ e ∈ o.after.toList,Region.binds .any e = true → listed.getD e.on false = true := by
  unfold Region.ready at h
  rw [List.mem_filter,List.mem_range] at h
  obtain ⟨h1,h2⟩ := h
  rw [Bool.and_eq_true] at h2
  refine ⟨h1,by simpa using h2.1,ops[i],Array.getElem?_eq_getElem h1,fun e he hbe => ?_⟩
  have h3 := h2.2
  rw [Array.getElem?_eq_getElem h1] at h3
  simp only [Option.map_some,Option.getD_some] at h3
  rw [← Array.all_toList] at h3
  have := List.all_eq_true.1 h3 e he
  simpa [hbe] using this

/-- Where something is left,something is ready. -/
theorem ready_left {ops : Array Oper} {listed : Array Bool} (hb : backB ops.toList = true) (hs : listed.size = ops.size) (h : Region.ready .any ops listed = []) : ∀ i,i < ops.size → listed.getD i true = true := by
  intro i
  induction i using Nat.strongRecOn with
  | _ i ih =>
    intro hi
    cases hl : listed.getD i true with
    | true => rfl
    | false =>
      exfalso
      have : i ∈ Region.ready .any ops listed := by
        unfold Region.ready
        rw [List.mem_filter,List.mem_range]
        refine ⟨hi,?_⟩
        rw [hl,Array.getElem?_eq_getElem hi]
        simp only [Bool.not_false,Bool.true_and,Option.map_some,Option.getD_some]
        rw [← Array.all_toList,List.all_eq_true]
        intro e he
        cases hbe : Region.binds .any e with
        | false => rfl
        | true =>
          have hlt : e.on < i := by
            have := List.all_eq_true.1 hb (ops[i],i) (by rw [List.mem_zipIdx_iff_getElem?]; simp)
            have := List.all_eq_true.1 this e he
            simpa [hbe] using this
          have := ih e.on hlt (by omega)
          rw [Array.getD_eq_getD_getElem?,Array.getElem?_eq_getElem (by omega)] at this ⊢
          simpa using this
      rw [h] at this
      cases this

end Lg
