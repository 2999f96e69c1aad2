import Derived.Test.YtpoofafddbcnpaaVH7
namespace Vg.G3
open Go Lg
set_option linter.unusedVariables false
/-- A list whose numbers,but -1,are all different. -/
def goodQ (P : Int → Prop) (l : List Int) : Prop := ∀ (i : Nat) (x : Int),l[i]? = some x → P x ∧ (x = -1 ∨ x ∉ l.take i)
theorem goodQ_set {P : Int → Prop} {l : List Int} {i : Nat} {x : Int} (h : goodQ P l) (hx : P x) (hn : x ∉ l) : goodQ P (l.set i x) := by
  intro j y hy
  rw [List.getElem?_set] at hy
  by_cases hij : i = j
  · subst hij
    rw [if_pos rfl] at hy
    split at hy
    · cases hy
      refine ⟨hx,.inr ?_⟩
      rw [List.take_set_of_le (Nat.le_refl _)]
      exact fun h => hn (List.mem_of_mem_take h)
    · cases hy
  · rw [if_neg hij] at hy
    obtain ⟨h1,h2⟩ := h j y hy
    refine ⟨h1,h2.imp id fun hm hm2 => ?_⟩
    rw [List.take_set] at hm2
    rcases List.mem_or_eq_of_mem_set hm2 with h3 | h3
    · exact hm h3
    · exact hn (h3 ▸ List.mem_of_getElem? hy)
theorem Ok.gp {w : Wd} (h : Ok w) : goodQ (fun x => -1 - (w.sp.length : Int) ≤ x ∧ x < w.sl) w.pl := fun i x hx => by
  have := h.p1 i x hx
  exact ⟨⟨this.1,this.2.1⟩,this.2.2⟩
theorem Ok.gs {w : Wd} (h : Ok w) : goodQ (fun x => -1 ≤ x ∧ ¬ (w.sl ≤ x ∧ x < 8) ∧ x < 8 + (w.pl.length : Int)) w.sp := fun i x hx => by
  have := h.s1 i x hx
  exact ⟨⟨this.1,this.2.1,this.2.2.1⟩,this.2.2.2⟩
theorem Ok.of {w : Wd} (hs : Small w) (h1 : goodQ (fun x => -1 - (w.sp.length : Int) ≤ x ∧ x < w.sl) w.pl) (h2 : goodQ (fun x => -1 ≤ x ∧ ¬ (w.sl ≤ x ∧ x < 8) ∧ x < 8 + (w.pl.length : Int)) w.sp) : Ok w :=
  ⟨hs,fun i x hx => ⟨(h1 i x hx).1.1,(h1 i x hx).1.2,(h1 i x hx).2⟩,fun i x hx => ⟨(h2 i x hx).1.1,(h2 i x hx).1.2.1,(h2 i x hx).1.2.2,(h2 i x hx).2⟩⟩
theorem holds_arm {w : Wd} {a : Int} (h0 : 0 ≤ a) (h1 : a < w.sp.length) : holdsF w a = idxI w.pl (-2 - a) := if_neg (by omega)
theorem holds_iff {w : Wd} {a : Int} (h0 : 0 ≤ a) (h1 : a < w.sp.length) : 0 ≤ holdsF w a ↔ -2 - a ∈ w.pl := by rw [holds_arm h0 h1,idx_mem]
theorem in_iff {w : Wd} {s : Int} (h0 : 0 ≤ s) : 0 ≤ inF w s ↔ s ∈ w.pl := by unfold inF; rw [if_neg (by omega),idx_mem]
/-- Where a step leads. -/
theorem target_bnd {w : Wd} (hw : Ok w) {s : Stp} (hf : formF s = true) (hp : s.p < w.pl.length) (hs : s.s < w.sl) (hT : targetF w s ≠ -1) (hk : s.k = 0 ∨ s.k = 1 ∨ s.k = 3) :
    -1 ≤ targetF w s ∧ ¬ (w.sl ≤ targetF w s ∧ targetF w s < 8) ∧ targetF w s < 8 + (w.pl.length : Int) ∧ 0 ≤ targetF w s := by
  have h8 := hw.sl8
  have h6 := hw.pl
  unfold targetF at hT ⊢
  by_cases h0 : 0 ≤ s.p
  · rw [if_pos h0] at hT ⊢
    have hb := (hw.gp s.p.toNat _ (gI_get h0 hp)).1
    unfold whereF at hT ⊢
    rw [if_neg (by omega)] at hT ⊢
    by_cases h1 : gI w.pl s.p < -1
    · rw [if_pos h1] at hT; exact absurd rfl hT
    · rw [if_neg h1] at hT ⊢
      by_cases h2 : gI w.pl s.p = -1
      · rw [if_pos h2]; omega
      · rw [if_neg h2]; omega
  · rw [if_neg h0] at hT ⊢
    have : 0 ≤ s.s := by
      unfold formF at hf
      split at hf
      · cases hf
      · rcases hk with hk | hk | hk
        · rw [if_pos hk] at hf; have := of_decide_eq_true hf; omega
        · rw [if_neg (by omega),if_pos (by omega)] at hf; have := of_decide_eq_true hf; omega
        · rw [if_neg (by omega),if_pos (by omega)] at hf; have := of_decide_eq_true hf; omega
    omega
theorem ok_do {w : Wd} (hw : Ok w) {s : Stp} (hc : canF w s) : Ok (doF w s) := by
  obtain ⟨f1,f2,f3,f4,f5⟩ := form_arm hc.1
  obtain ⟨c1,c2,c3,c4,c5⟩ := hc
  have hsl0 := hw.sl0
  have hsl8 := hw.sl8
  have hpl := hw.pl
  have hsp := hw.sp
  have hsn := hw.sn
  unfold mayF hereF at c5
  obtain ⟨m0,m13,m1,m3,m2⟩ := c5
  unfold doF
  split
  · rename_i k0
    have hT := target_bnd hw c1 c3 c4 (m0 k0).2.1 (.inl k0)
    exact Ok.of ⟨hsl0,hsl8,hpl,by simpa using hsp,hsn⟩ (by simpa using hw.gp) (goodQ_set hw.gs ⟨hT.1,hT.2.1,hT.2.2.1⟩ (m0 k0).2.2.2)
  split
  · rename_i k1
    have hh := (m13 (.inl k1)).1
    rw [holds_iff f1 c2] at hh
    refine Ok.of ⟨hsl0,hsl8,by simpa using hpl,hsp,by simpa using hsn⟩ (goodQ_set hw.gp ⟨by dsimp only; omega,by dsimp only; omega⟩ hh) (by simpa using hw.gs)
  split
  · rename_i k3
    exact Ok.of ⟨hsl0,hsl8,hpl,hsp,by simpa using hsn⟩ hw.gp hw.gs
  split
  · rename_i k2
    have hs0 := f5 k2
    have hh := (m2 k2).2.2
    rw [in_iff hs0] at hh
    refine Ok.of ⟨hsl0,hsl8,by simpa using hpl,hsp,by simpa using hsn⟩ (goodQ_set hw.gp ⟨by dsimp only; omega,by dsimp only; omega⟩ hh) (by simpa using hw.gs)
  · exact hw
end Vg.G3
