import Derived.Test.YtpoofafddbcnpaaVH7
import Derived.Test.YtpoofafddbcnpaaVHH
import Derived.Test.YtpoofafddbcnpaaVD4
namespace Vg.G3
open Go Lg
set_option linter.unusedVariables false
/-- A list whose numbers, but -1, are all different. -/
def goodQ (P : Int → Prop) (l : List Int) : Prop := ∀ (i : Nat) (x : Int), l[i]? = some x → P x ∧ (x = -1 ∨ x ∉ l.take i)
theorem goodQ_set {P : Int → Prop} {l : List Int} {i : Nat} {x : Int} (h : goodQ P l) (hx : P x) (hn : x ∉ l) : goodQ P (l.set i x) := by
  intro j y hy
  rw [List.getElem?_set] at hy
  by_cases hij : i = j
  · subst hij
    rw [if_pos rfl] at hy
    split at hy
    · cases hy
      refine ⟨hx, .inr ?_⟩
      rw [List.take_set_of_le (Nat.le_refl _)]
      exact fun h => hn (List.mem_of_mem_take h)
    · cases hy
  · rw [if_neg hij] at hy
    obtain ⟨h1, h2⟩ := h j y hy
    refine ⟨h1, h2.imp id fun hm hm2 => ?_⟩
    rw [List.take_set] at hm2
    rcases List.mem_or_eq_of_mem_set hm2 with h3 | h3
    · exact hm h3
    · exact hn (h3 ▸ List.mem_of_getElem? hy)
theorem goodQ_inj {P : Int → Prop} {l : List Int} (h : goodQ P l) {i j : Nat} {x : Int} (hi : l[i]? = some x) (hj : l[j]? = some x) (hx : x ≠ -1) : i = j := by
  have key : ∀ {i j : Nat}, l[i]? = some x → l[j]? = some x → ¬ i < j := by
    intro i j hi hj hij
    rcases (h j x hj).2 with h1 | h1
    · exact hx h1
    · exact h1 (List.mem_of_getElem? (show (l.take j)[i]? = some x by rw [List.getElem?_take, if_pos hij]; exact hi))
  have h1 := key hi hj
  have h2 := key hj hi
  omega
theorem holds_bnd' (w : Wd) (a : Int) : holdsF w a < w.pl.length := by
  unfold holdsF
  have := idx_ge w.pl (-2 - a)
  split <;> omega
theorem Ok.gp {w : Wd} (h : Ok w) : goodQ (fun x => -1 - (w.sp.length : Int) ≤ x ∧ x < w.sl) w.pl := fun i x hx => by
  have := h.p1 i x hx
  exact ⟨⟨this.1, this.2.1⟩, this.2.2⟩
theorem Ok.gs {w : Wd} (h : Ok w) : goodQ (fun x => -1 ≤ x ∧ ¬ (w.sl ≤ x ∧ x < 8) ∧ x < 8 + (w.pl.length : Int)) w.sp := fun i x hx => by
  have := h.s1 i x hx
  exact ⟨⟨this.1, this.2.1, this.2.2.1⟩, this.2.2.2⟩
theorem Ok.of {w : Wd} (hs : Small w) (h1 : goodQ (fun x => -1 - (w.sp.length : Int) ≤ x ∧ x < w.sl) w.pl) (h2 : goodQ (fun x => -1 ≤ x ∧ ¬ (w.sl ≤ x ∧ x < 8) ∧ x < 8 + (w.pl.length : Int)) w.sp) : Ok w :=
  ⟨hs, fun i x hx => ⟨(h1 i x hx).1.1, (h1 i x hx).1.2, (h1 i x hx).2⟩, fun i x hx => ⟨(h2 i x hx).1.1, (h2 i x hx).1.2.1, (h2 i x hx).1.2.2, (h2 i x hx).2⟩⟩
theorem idx_get : ∀ (l : List Int) (x : Int), 0 ≤ idxI l x → l[(idxI l x).toNat]? = some x
  | [], x, h => by simp [idxI] at h
  | y :: r, x, h => by
    have ih := idx_get r x
    simp only [idxI] at h ⊢
    by_cases e : y = x
    · simp [e]
    · rw [if_neg e] at h ⊢
      by_cases h2 : idxI r x < 0
      · rw [if_pos h2] at h; omega
      · rw [if_neg h2] at h ⊢
        have : (idxI r x + 1).toNat = (idxI r x).toNat + 1 := by omega
        rw [this, List.getElem?_cons_succ]
        exact ih (by omega)
theorem holds_arm {w : Wd} {a : Int} (h0 : 0 ≤ a) (h1 : a < w.sp.length) : holdsF w a = idxI w.pl (-2 - a) := if_neg (by omega)
theorem holds_iff {w : Wd} {a : Int} (h0 : 0 ≤ a) (h1 : a < w.sp.length) : 0 ≤ holdsF w a ↔ -2 - a ∈ w.pl := by rw [holds_arm h0 h1, idx_mem]
theorem in_iff {w : Wd} {s : Int} (h0 : 0 ≤ s) : 0 ≤ inF w s ↔ s ∈ w.pl := by unfold inF; rw [if_neg (by omega), idx_mem]
theorem gI_mem {l : List Int} {i : Int} (h0 : 0 ≤ i) (h1 : i < l.length) : gI l i ∈ l := List.mem_of_getElem? (gI_get h0 h1)
/-- Where a step leads. -/
theorem target_bnd {w : Wd} (hw : Ok w) {s : Stp} (hf : formF s = true) (hp : s.p < w.pl.length) (hs : s.s < w.sl) (hT : targetF w s ≠ -1) (hk : s.k = 0 ∨ s.k = 1 ∨ s.k = 3) :
    -1 ≤ targetF w s ∧ ¬ (w.sl ≤ targetF w s ∧ targetF w s < 8) ∧ targetF w s < 8 + (w.pl.length : Int) ∧ 0 ≤ targetF w s := by
  have h8 := hw.sl8
  have h6 := hw.pl
  unfold targetF at hT ⊢
  by_cases h0 : 0 ≤ s.p
  · rw [if_pos h0] at hT ⊢
    have hb := (hw.gp s.p.toNat _ (gI_get h0 hp)).1
    unfold whereF at hT ⊢
    rw [if_neg (by omega)] at hT ⊢
    by_cases h1 : gI w.pl s.p < -1
    · rw [if_pos h1] at hT; exact absurd rfl hT
    · rw [if_neg h1] at hT ⊢
      by_cases h2 : gI w.pl s.p = -1
      · rw [if_pos h2]; omega
      · rw [if_neg h2]; omega
  · rw [if_neg h0] at hT ⊢
    have : 0 ≤ s.s := by
      unfold formF at hf
      split at hf
      · cases hf
      · rcases hk with hk | hk | hk
        · rw [if_pos hk] at hf; have := of_decide_eq_true hf; omega
        · rw [if_neg (by omega), if_pos (by omega)] at hf; have := of_decide_eq_true hf; omega
        · rw [if_neg (by omega), if_pos (by omega)] at hf; have := of_decide_eq_true hf; omega
    omega
theorem ok_do {w : Wd} (hw : Ok w) {s : Stp} (hc : canF w s) : Ok (doF w s) := by
  obtain ⟨f1, f2, f3, f4, f5⟩ := form_arm hc.1
  obtain ⟨c1, c2, c3, c4, c5⟩ := hc
  have hsl0 := hw.sl0
  have hsl8 := hw.sl8
  have hpl := hw.pl
  have hsp := hw.sp
  have hsn := hw.sn
  unfold mayF hereF at c5
  obtain ⟨m0, m13, m1, m3, m2⟩ := c5
  unfold doF
  split
  · rename_i k0
    have hT := target_bnd hw c1 c3 c4 (m0 k0).2.1 (.inl k0)
    exact Ok.of ⟨hsl0, hsl8, hpl, by simpa using hsp, hsn⟩ (by simpa using hw.gp) (goodQ_set hw.gs ⟨hT.1, hT.2.1, hT.2.2.1⟩ (m0 k0).2.2.2)
  split
  · rename_i k1
    have hh := (m13 (.inl k1)).1
    rw [holds_iff f1 c2] at hh
    refine Ok.of ⟨hsl0, hsl8, by simpa using hpl, hsp, by simpa using hsn⟩ (goodQ_set hw.gp ⟨by dsimp only; omega, by dsimp only; omega⟩ hh) (by simpa using hw.gs)
  split
  · rename_i k3
    exact Ok.of ⟨hsl0, hsl8, hpl, hsp, by simpa using hsn⟩ hw.gp hw.gs
  split
  · rename_i k2
    have hs0 := f5 k2
    have hh := (m2 k2).2.2
    rw [in_iff hs0] at hh
    refine Ok.of ⟨hsl0, hsl8, by simpa using hpl, hsp, by simpa using hsn⟩ (goodQ_set hw.gp ⟨by dsimp only; omega, by dsimp only; omega⟩ hh) (by simpa using hw.gs)
  · exact hw
theorem set_ne {α : Type} {l : List α} {i : Nat} {x y : α} (h : l[i]? = some y) (hn : y ≠ x) : l.set i x ≠ l := fun e => by
  have h1 := List.getElem?_set_self (l := l) (i := i) (a := x) (lt_of_getElem? h)
  rw [e, h] at h1
  injection h1 with h1
  exact hn h1
theorem do_ne {w : Wd} (hw : Ok w) {s : Stp} (hc : canF w s) (hk : 0 ≤ s.k ∧ s.k ≤ 3) : w ≠ doF w s := by
  obtain ⟨f1, f2, f3, f4, f5⟩ := form_arm hc.1
  obtain ⟨c1, c2, c3, c4, c5⟩ := hc
  have hsn := hw.sn
  unfold mayF hereF at c5
  obtain ⟨m0, m13, m1, m3, m2⟩ := c5
  unfold doF
  intro e
  split at e
  · rename_i k0
    have := congrArg Wd.sp e
    exact set_ne (gI_get f1 c2) (fun h : gI w.sp s.a = targetF w s => (m0 k0).2.2.2 (by rw [← h]; exact gI_mem f1 c2)) this.symm
  split at e
  · rename_i k1
    have hh := (m13 (.inl k1)).1
    rw [holds_iff f1 c2] at hh
    have hp := f4 (.inl k1)
    have := congrArg Wd.pl e
    exact set_ne (gI_get hp c3) (fun h : gI w.pl s.p = -2 - s.a => hh (by rw [← h]; exact gI_mem hp c3)) this.symm
  split at e
  · rename_i k3
    have hp := f4 (.inr k3)
    have := congrArg Wd.sn e
    exact set_ne (gB_get hp (by omega)) (by rw [m3 k3]; decide) this.symm
  split at e
  · rename_i k2
    have hs0 := f5 k2
    have hh := (m2 k2).2.2
    rw [in_iff hs0] at hh
    have hq := (m2 k2).1
    have hb := holds_bnd' w s.a
    have := congrArg Wd.pl e
    exact set_ne (gI_get hq hb) (fun h : gI w.pl (holdsF w s.a) = s.s => hh (by rw [← h]; exact gI_mem hq hb)) this.symm
  · omega
end Vg.G3
namespace Vg.G3
open Go Lg
set_option linter.unusedVariables false
set_option linter.unusedSimpArgs false
/-- A fact of a world. -/
def factOf (w : Wd) (f : Fa) : Prop :=
  (f.k = 1 ∧ (0 ≤ f.a ∧ f.a < w.pl.length) ∧ f.b = gI w.pl f.a ∧ 0 ≤ f.b) ∨
  (f.k = 2 ∧ (0 ≤ f.b ∧ f.b < w.pl.length) ∧ gI w.pl f.b = -2 - f.a ∧ 0 ≤ f.a) ∨
  (f.k = 3 ∧ (0 ≤ f.a ∧ f.a < w.sp.length) ∧ f.b = 0 ∧ -2 - f.a ∉ w.pl) ∨
  (f.k = 4 ∧ (0 ≤ f.a ∧ f.a < w.sl) ∧ f.b = 0 ∧ f.a ∉ w.pl) ∨
  (f.k = 5 ∧ (0 ≤ f.a ∧ f.a < w.pl.length) ∧ f.b = 0 ∧ gB w.sn f.a = true) ∨
  (f.k = 6 ∧ (0 ≤ f.a ∧ f.a < w.sp.length) ∧ f.b = gI w.sp f.a ∧ f.b ≠ -1)
theorem Fa_eq {f : Fa} {k a b : Int} (h1 : f.k = k) (h2 : f.a = a) (h3 : f.b = b) : f = ⟨k, a, b⟩ := by cases f; simp only at h1 h2 h3; rw [h1, h2, h3]
theorem mem_rng {F : Nat → List Fa} {n : Nat} {f : Fa} : f ∈ (List.range n).flatMap F ↔ ∃ i : Nat, i < n ∧ f ∈ F i := by
  rw [List.mem_flatMap]
  constructor
  · rintro ⟨i, hi, h⟩; exact ⟨i, List.mem_range.1 hi, h⟩
  · rintro ⟨i, hi, h⟩; exact ⟨i, List.mem_range.2 hi, h⟩
theorem facts_mem {w : Wd} (hs : Small w) (f : Fa) : f ∈ factsL w ↔ factOf w f := by
  have hs0 := hs.sl0
  have h1 : ∀ {a : Int}, 0 ≤ a → a < w.sp.length → (holdsF w a < 0 ↔ -2 - a ∉ w.pl) := fun h0 h1 => by rw [← holds_iff h0 h1]; omega
  have h2 : ∀ {s : Int}, 0 ≤ s → (inF w s < 0 ↔ s ∉ w.pl) := fun h0 => by rw [← in_iff h0]; omega
  unfold factsL factP factS factA
  rw [List.mem_append, List.mem_append, mem_rng, mem_rng, mem_rng]
  unfold factOf
  constructor
  · rintro ((⟨i, hi, h⟩ | ⟨i, hi, h⟩) | ⟨i, hi, h⟩)
    · rcases List.mem_append.1 h with h | h
      · unfold atF at h
        split at h
        · simp at h; subst h; left; exact ⟨rfl, ⟨by simp only; omega, by simp only; omega⟩, rfl, by assumption⟩
        · split at h
          · simp at h; subst h; right; left; exact ⟨rfl, ⟨by simp only; omega, by simp only; omega⟩, by simp only; omega, by simp only; omega⟩
          · simp at h
      · unfold seenF at h
        split at h
        · simp at h; subst h; right; right; right; right; left; exact ⟨rfl, ⟨by simp only; omega, by simp only; omega⟩, rfl, by assumption⟩
        · simp at h
    · unfold slotF at h
      split at h
      · rename_i hc
        simp at h; subst h; right; right; right; left; exact ⟨rfl, ⟨by simp only; omega, by simp only; omega⟩, rfl, (h2 (Int.natCast_nonneg i)).1 hc⟩
      · simp at h
    · rcases List.mem_append.1 h with h | h
      · unfold freeF at h
        split at h
        · rename_i hc
          simp at h; subst h; right; right; left; exact ⟨rfl, ⟨by simp only; omega, by simp only; omega⟩, rfl, (h1 (Int.natCast_nonneg i) (Int.ofNat_lt.2 hi)).1 hc⟩
        · simp at h
      · unfold spotF at h
        split at h
        · simp at h
        · rename_i hc
          simp at h; subst h; right; right; right; right; right; exact ⟨rfl, ⟨by simp only; omega, by simp only; omega⟩, rfl, hc⟩
  · rintro (⟨k, ⟨a0, a1⟩, b, c⟩ | ⟨k, ⟨a0, a1⟩, b, c⟩ | ⟨k, ⟨a0, a1⟩, b, c⟩ | ⟨k, ⟨a0, a1⟩, b, c⟩ | ⟨k, ⟨a0, a1⟩, b, c⟩ | ⟨k, ⟨a0, a1⟩, b, c⟩)
    · refine .inl (.inl ⟨f.a.toNat, by omega, List.mem_append_left _ ?_⟩)
      rw [Int.toNat_of_nonneg a0]
      unfold atF; rw [if_pos (by omega), List.mem_singleton]
      exact Fa_eq k rfl b
    · refine .inl (.inl ⟨f.b.toNat, by omega, List.mem_append_left _ ?_⟩)
      rw [Int.toNat_of_nonneg a0]
      unfold atF; rw [if_neg (by omega), if_pos (by omega), List.mem_singleton]
      exact Fa_eq k (by omega) rfl
    · refine .inr ⟨f.a.toNat, by omega, List.mem_append_left _ ?_⟩
      rw [Int.toNat_of_nonneg a0]
      unfold freeF; rw [if_pos ((h1 a0 a1).2 c), List.mem_singleton]
      exact Fa_eq k rfl b
    · refine .inl (.inr ⟨f.a.toNat, by omega, ?_⟩)
      rw [Int.toNat_of_nonneg a0]
      unfold slotF; rw [if_pos ((h2 a0).2 c), List.mem_singleton]
      exact Fa_eq k rfl b
    · refine .inl (.inl ⟨f.a.toNat, by omega, List.mem_append_right _ ?_⟩)
      rw [Int.toNat_of_nonneg a0]
      unfold seenF; rw [if_pos c, List.mem_singleton]
      exact Fa_eq k rfl b
    · refine .inr ⟨f.a.toNat, by omega, List.mem_append_right _ ?_⟩
      rw [Int.toNat_of_nonneg a0]
      unfold spotF; rw [if_neg (by rw [← b]; exact c), List.mem_singleton]
      exact Fa_eq k rfl b
theorem factsF_mem {w : Wd} (hs : Small w) (f : Fa) : f ∈ factsF w ↔ factOf w f ∧ validF f = true := by
  unfold factsF; rw [of_mem, facts_mem hs]
theorem good_gI {P : Int → Prop} {l : List Int} (h : goodQ P l) {i j : Int} (hi : 0 ≤ i ∧ i < l.length) (hj : 0 ≤ j ∧ j < l.length) (e : gI l i = gI l j) (hx : gI l i ≠ -1) : i = j := by
  have h1 := gI_get hi.1 hi.2
  have h2 := gI_get hj.1 hj.2
  rw [← e] at h2
  have := goodQ_inj h h1 h2 hx
  omega
theorem facts_sound {w : Wd} (hw : Ok w) : soundF (factsF w) = true := by
  rw [soundF_iff]
  have core0 : ∀ f g : Fa, factOf w f → factOf w g → f ≠ g → core f g = false := by
    intro f g hf hg hne
    have ne : f.k = g.k → f.a = g.a → f.b = g.b → False := fun h1 h2 h3 => hne (by cases f; cases g; simp only at h1 h2 h3; rw [h1, h2, h3])
    unfold core
    unfold factOf at hf hg
    split
    · rename_i hk
      rw [Bool.or_eq_false_iff, decide_eq_false_iff_not, decide_eq_false_iff_not]
      rcases hk with ⟨k1, k2⟩ | ⟨k1, k2⟩ | ⟨k1, k2⟩
      · obtain ⟨_, f1, f2, f3⟩ : f.k = 1 ∧ (0 ≤ f.a ∧ f.a < w.pl.length) ∧ f.b = gI w.pl f.a ∧ 0 ≤ f.b := by rcases hf with h | h | h | h | h | h <;> first | exact h | (exfalso; have := h.1; omega)
        obtain ⟨_, g1, g2, g3⟩ : g.k = 1 ∧ (0 ≤ g.a ∧ g.a < w.pl.length) ∧ g.b = gI w.pl g.a ∧ 0 ≤ g.b := by rcases hg with h | h | h | h | h | h <;> first | exact h | (exfalso; have := h.1; omega)
        refine ⟨fun e => ne (by omega) e (by rw [f2, g2, e]), fun e => ?_⟩
        have := good_gI hw.gp f1 g1 (by omega) (by omega)
        exact ne (by omega) this e
      · obtain ⟨_, f1, f2, f3⟩ : f.k = 2 ∧ (0 ≤ f.b ∧ f.b < w.pl.length) ∧ gI w.pl f.b = -2 - f.a ∧ 0 ≤ f.a := by rcases hf with h | h | h | h | h | h <;> first | exact h | (exfalso; have := h.1; omega)
        obtain ⟨_, g1, g2, g3⟩ : g.k = 2 ∧ (0 ≤ g.b ∧ g.b < w.pl.length) ∧ gI w.pl g.b = -2 - g.a ∧ 0 ≤ g.a := by rcases hg with h | h | h | h | h | h <;> first | exact h | (exfalso; have := h.1; omega)
        refine ⟨fun e => ?_, fun e => ne (by omega) (by rw [e] at f2; omega) e⟩
        have := good_gI hw.gp f1 g1 (by omega) (by omega)
        exact ne (by omega) e this
      · obtain ⟨_, f1, f2, f3⟩ : f.k = 6 ∧ (0 ≤ f.a ∧ f.a < w.sp.length) ∧ f.b = gI w.sp f.a ∧ f.b ≠ -1 := by rcases hf with h | h | h | h | h | h <;> first | exact h | (exfalso; have := h.1; omega)
        obtain ⟨_, g1, g2, g3⟩ : g.k = 6 ∧ (0 ≤ g.a ∧ g.a < w.sp.length) ∧ g.b = gI w.sp g.a ∧ g.b ≠ -1 := by rcases hg with h | h | h | h | h | h <;> first | exact h | (exfalso; have := h.1; omega)
        refine ⟨fun e => ne (by omega) e (by rw [f2, g2, e]), fun e => ?_⟩
        have := good_gI hw.gs f1 g1 (by omega) (by omega)
        exact ne (by omega) this e
    · split
      · rename_i _ hk
        rw [decide_eq_false_iff_not]
        intro e
        obtain ⟨_, f1, f2, f3⟩ : f.k = 1 ∧ (0 ≤ f.a ∧ f.a < w.pl.length) ∧ f.b = gI w.pl f.a ∧ 0 ≤ f.b := by rcases hf with h | h | h | h | h | h <;> first | exact h | (exfalso; have := h.1; omega)
        obtain ⟨_, g1, g2, g3⟩ : g.k = 2 ∧ (0 ≤ g.b ∧ g.b < w.pl.length) ∧ gI w.pl g.b = -2 - g.a ∧ 0 ≤ g.a := by rcases hg with h | h | h | h | h | h <;> first | exact h | (exfalso; have := h.1; omega)
        rw [e] at f2; omega
      · split
        · rename_i _ _ hk
          rw [decide_eq_false_iff_not]
          intro e
          obtain ⟨_, f1, f2, f3⟩ : f.k = 1 ∧ (0 ≤ f.a ∧ f.a < w.pl.length) ∧ f.b = gI w.pl f.a ∧ 0 ≤ f.b := by rcases hf with h | h | h | h | h | h <;> first | exact h | (exfalso; have := h.1; omega)
          obtain ⟨_, g1, g2, g3⟩ : g.k = 4 ∧ (0 ≤ g.a ∧ g.a < w.sl) ∧ g.b = 0 ∧ g.a ∉ w.pl := by rcases hg with h | h | h | h | h | h <;> first | exact h | (exfalso; have := h.1; omega)
          exact g3 (by rw [← e, f2]; exact gI_mem f1.1 f1.2)
        · split
          · rename_i _ _ _ hk
            rw [decide_eq_false_iff_not]
            intro e
            obtain ⟨_, f1, f2, f3⟩ : f.k = 2 ∧ (0 ≤ f.b ∧ f.b < w.pl.length) ∧ gI w.pl f.b = -2 - f.a ∧ 0 ≤ f.a := by rcases hf with h | h | h | h | h | h <;> first | exact h | (exfalso; have := h.1; omega)
            obtain ⟨_, g1, g2, g3⟩ : g.k = 3 ∧ (0 ≤ g.a ∧ g.a < w.sp.length) ∧ g.b = 0 ∧ -2 - g.a ∉ w.pl := by rcases hg with h | h | h | h | h | h <;> first | exact h | (exfalso; have := h.1; omega)
            exact g3 (by rw [← e, ← f2]; exact gI_mem f1.1 f1.2)
          · rfl
  intro f hf g hg
  have hf' := ((factsF_mem hw.toSmall f).1 hf).1
  have hg' := ((factsF_mem hw.toSmall g).1 hg).1
  unfold clashF
  split
  · rename_i h
    split
    · exact core0 g f hg' hf' (fun e => h.2.2 e.symm)
    · exact core0 f g hf' hg' h.2.2
  · rfl
end Vg.G3
