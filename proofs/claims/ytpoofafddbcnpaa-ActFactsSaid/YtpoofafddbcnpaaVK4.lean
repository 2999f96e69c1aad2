import Derived.Test.YtpoofafddbcnpaaVK2
import Derived.Test.YtpoofafddbcnpaaVDF
namespace Vg.G3
open Go Lg
set_option linter.unusedVariables false
set_option linter.unusedSimpArgs false
theorem gI_set {l : List Int} {i j x : Int} (hi : 0 ≤ i ∧ i < l.length) (hj : 0 ≤ j) : gI (l.set i.toNat x) j = if j = i then x else gI l j := by
  unfold gI
  rw [List.getElem?_set]
  by_cases e : j = i
  · subst e; rw [if_pos rfl, if_pos (by omega), if_pos rfl]; rfl
  · rw [if_neg (by omega), if_neg e]
theorem gB_set {l : List Bool} {i j : Int} {x : Bool} (hi : 0 ≤ i ∧ i < l.length) (hj : 0 ≤ j) : gB (l.set i.toNat x) j = if j = i then x else gB l j := by
  unfold gB
  rw [List.getElem?_set]
  by_cases e : j = i
  · subst e; rw [if_pos rfl, if_pos (by omega), if_pos rfl]; rfl
  · rw [if_neg (by omega), if_neg e]
theorem set_mem {l : List Int} {i x y : Int} (hi : 0 ≤ i ∧ i < l.length) (hy : y ≠ gI l i) : y ∈ l.set i.toNat x ↔ y = x ∨ y ∈ l := by
  constructor
  · intro h; rcases List.mem_or_eq_of_mem_set h with h | h
    · exact .inr h
    · exact .inl h
  · rintro (rfl | h)
    · exact List.mem_of_getElem? (List.getElem?_set_self (by omega))
    · obtain ⟨j, hj⟩ := List.mem_iff_getElem?.1 h
      have : i.toNat ≠ j := fun e => by
        subst e; rw [gI_get hi.1 hi.2] at hj; injection hj with hj; exact hy hj.symm
      exact List.mem_of_getElem? (show (l.set i.toNat x)[j]? = some y by rw [List.getElem?_set_ne this]; exact hj)
/-- By which facts two worlds differ. -/
structure Diff (w w' : Wd) (L M : List Fa) : Prop where
  less : ∀ f, factOf w f → ¬ factOf w' f → f ∈ L
  more : ∀ f, factOf w' f → ¬ factOf w f → f ∈ M
theorem diff_go {w : Wd} {a T : Int} (ha : 0 ≤ a ∧ a < w.sp.length) : Diff w { w with sp := w.sp.set a.toNat T } [⟨6, a, gI w.sp a⟩] [⟨6, a, T⟩] := by
  have hl : (w.sp.set a.toNat T).length = w.sp.length := by simp
  constructor
  · intro f h hn
    rcases h with h | h | h | h | h | h
    · exact absurd (.inl h) hn
    · exact absurd (.inr (.inl h)) hn
    · exact absurd (.inr (.inr (.inl ⟨h.1, by simp only [hl]; exact h.2.1, h.2.2⟩))) hn
    · exact absurd (.inr (.inr (.inr (.inl h)))) hn
    · exact absurd (.inr (.inr (.inr (.inr (.inl h))))) hn
    · obtain ⟨k, b, c, d⟩ := h
      by_cases e : f.a = a
      · rw [List.mem_singleton]; exact Fa_eq k e (by rw [c, e])
      · exact absurd (.inr (.inr (.inr (.inr (.inr ⟨k, by simp only [hl]; exact b, by simp only; rw [gI_set ha b.1, if_neg e]; exact c, d⟩))))) hn
  · intro f h hn
    rcases h with h | h | h | h | h | h
    · exact absurd (.inl h) hn
    · exact absurd (.inr (.inl h)) hn
    · simp only [hl] at h; exact absurd (.inr (.inr (.inl h))) hn
    · exact absurd (.inr (.inr (.inr (.inl h)))) hn
    · exact absurd (.inr (.inr (.inr (.inr (.inl h))))) hn
    · obtain ⟨k, b, c, d⟩ := h
      simp only [hl] at b c
      rw [gI_set ha b.1] at c
      by_cases e : f.a = a
      · rw [if_pos e] at c; rw [List.mem_singleton]; exact Fa_eq k e c
      · rw [if_neg e] at c
        exact absurd (.inr (.inr (.inr (.inr (.inr ⟨k, b, c, d⟩))))) hn
theorem diff_look {w : Wd} {p : Int} (hp : 0 ≤ p ∧ p < w.sn.length) : Diff w { w with sn := w.sn.set p.toNat true } [] [⟨5, p, 0⟩] := by
  constructor
  · intro f h hn
    rcases h with h | h | h | h | h | h
    · exact absurd (.inl h) hn
    · exact absurd (.inr (.inl h)) hn
    · exact absurd (.inr (.inr (.inl h))) hn
    · exact absurd (.inr (.inr (.inr (.inl h)))) hn
    · obtain ⟨k, b, c, d⟩ := h
      refine absurd (.inr (.inr (.inr (.inr (.inl ⟨k, b, c, ?_⟩))))) hn
      simp only; rw [gB_set hp b.1, d]; simp
    · exact absurd (.inr (.inr (.inr (.inr (.inr h))))) hn
  · intro f h hn
    rcases h with h | h | h | h | h | h
    · exact absurd (.inl h) hn
    · exact absurd (.inr (.inl h)) hn
    · exact absurd (.inr (.inr (.inl h))) hn
    · exact absurd (.inr (.inr (.inr (.inl h)))) hn
    · obtain ⟨k, b, c, d⟩ := h
      simp only at d b
      rw [gB_set hp b.1] at d
      by_cases e : f.a = p
      · rw [List.mem_singleton]; exact Fa_eq k e c
      · rw [if_neg e] at d
        exact absurd (.inr (.inr (.inr (.inr (.inl ⟨k, b, c, d⟩))))) hn
    · exact absurd (.inr (.inr (.inr (.inr (.inr h))))) hn
/-- A part goes from one place to another one, where none is. -/
theorem diff_pl {w : Wd} (hw : Ok w) {p x : Int} (hp : 0 ≤ p ∧ p < w.pl.length) (hx : x ∉ w.pl) : ∀ f,
    (factOf w f → ¬ factOf { w with pl := w.pl.set p.toNat x } f →
      (f = ⟨1, p, gI w.pl p⟩ ∧ 0 ≤ gI w.pl p) ∨ (f = ⟨2, -2 - gI w.pl p, p⟩ ∧ gI w.pl p < -1) ∨ (f = ⟨3, -2 - x, 0⟩ ∧ x < -1) ∨ (f = ⟨4, x, 0⟩ ∧ 0 ≤ x)) ∧
    (factOf { w with pl := w.pl.set p.toNat x } f → ¬ factOf w f →
      (f = ⟨1, p, x⟩ ∧ 0 ≤ x) ∨ (f = ⟨2, -2 - x, p⟩ ∧ x < -1) ∨ (f = ⟨3, -2 - gI w.pl p, 0⟩ ∧ gI w.pl p < -1) ∨ (f = ⟨4, gI w.pl p, 0⟩ ∧ 0 ≤ gI w.pl p)) := by
  intro f
  have hl : (w.pl.set p.toNat x).length = w.pl.length := by simp
  constructor
  · intro h hn
    rcases h with h | h | h | h | h | h
    · obtain ⟨k, b, c, d⟩ := h
      by_cases e : f.a = p
      · exact .inl ⟨Fa_eq k e (by rw [c, e]), by rw [← e, ← c]; exact d⟩
      · exact absurd (.inl ⟨k, by simp only [hl]; exact b, by simp only; rw [gI_set hp b.1, if_neg e]; exact c, d⟩) hn
    · obtain ⟨k, b, c, d⟩ := h
      by_cases e : f.b = p
      · rw [e] at c; exact .inr (.inl ⟨Fa_eq k (by omega) e, by omega⟩)
      · exact absurd (.inr (.inl ⟨k, by simp only [hl]; exact b, by simp only; rw [gI_set hp b.1, if_neg e]; exact c, d⟩)) hn
    · obtain ⟨k, b, c, d⟩ := h
      by_cases e : -2 - f.a = x
      · exact .inr (.inr (.inl ⟨Fa_eq k (by omega) c, by omega⟩))
      · refine absurd (.inr (.inr (.inl ⟨k, b, c, fun hm => ?_⟩))) hn
        rcases List.mem_or_eq_of_mem_set hm with h | h
        · exact d h
        · exact e h
    · obtain ⟨k, b, c, d⟩ := h
      by_cases e : f.a = x
      · exact .inr (.inr (.inr ⟨Fa_eq k e c, by omega⟩))
      · refine absurd (.inr (.inr (.inr (.inl ⟨k, b, c, fun hm => ?_⟩)))) hn
        rcases List.mem_or_eq_of_mem_set hm with h | h
        · exact d h
        · exact e h
    · exact absurd (.inr (.inr (.inr (.inr (.inl ⟨h.1, by simp only [hl]; exact h.2.1, h.2.2⟩))))) hn
    · refine absurd (.inr (.inr (.inr (.inr (.inr h))))) hn
  · intro h hn
    rcases h with h | h | h | h | h | h
    · obtain ⟨k, b, c, d⟩ := h
      simp only [hl] at b c
      rw [gI_set hp b.1] at c
      by_cases e : f.a = p
      · rw [if_pos e] at c; exact .inl ⟨Fa_eq k e c, by omega⟩
      · rw [if_neg e] at c; exact absurd (.inl ⟨k, b, c, d⟩) hn
    · obtain ⟨k, b, c, d⟩ := h
      simp only [hl] at b c
      rw [gI_set hp b.1] at c
      by_cases e : f.b = p
      · rw [if_pos e] at c; exact .inr (.inl ⟨Fa_eq k (by omega) e, by omega⟩)
      · rw [if_neg e] at c; exact absurd (.inr (.inl ⟨k, b, c, d⟩)) hn
    · obtain ⟨k, b, c, d⟩ := h
      simp only at b c d
      by_cases e : -2 - f.a = gI w.pl p
      · exact .inr (.inr (.inl ⟨Fa_eq k (by omega) c, by omega⟩))
      · refine absurd (.inr (.inr (.inl ⟨k, b, c, fun hm => d ((set_mem hp e).2 (.inr hm))⟩))) hn
    · obtain ⟨k, b, c, d⟩ := h
      simp only at b c d
      by_cases e : f.a = gI w.pl p
      · exact .inr (.inr (.inr ⟨Fa_eq k e c, by omega⟩))
      · refine absurd (.inr (.inr (.inr (.inl ⟨k, b, c, fun hm => d ((set_mem hp e).2 (.inr hm))⟩)))) hn
    · obtain ⟨k, b, c, d⟩ := h
      simp only [hl] at b
      exact absurd (.inr (.inr (.inr (.inr (.inl ⟨k, b, c, d⟩))))) hn
    · exact absurd (.inr (.inr (.inr (.inr (.inr h))))) hn
end Vg.G3
namespace Vg.G3
open Go Lg
set_option linter.unusedVariables false
set_option linter.unusedSimpArgs false
theorem diff_unsee {w : Wd} {p : Int} (hp : 0 ≤ p ∧ p < w.sn.length) : Diff w { w with sn := w.sn.set p.toNat false } [⟨5, p, 0⟩] [] := by
  constructor
  · intro f h hn
    rcases h with h | h | h | h | h | h
    · exact absurd (.inl h) hn
    · exact absurd (.inr (.inl h)) hn
    · exact absurd (.inr (.inr (.inl h))) hn
    · exact absurd (.inr (.inr (.inr (.inl h)))) hn
    · obtain ⟨k, b, c, d⟩ := h
      by_cases e : f.a = p
      · rw [List.mem_singleton]; exact Fa_eq k e c
      · refine absurd (.inr (.inr (.inr (.inr (.inl ⟨k, b, c, ?_⟩))))) hn
        simp only; rw [gB_set hp b.1, if_neg e]; exact d
    · exact absurd (.inr (.inr (.inr (.inr (.inr h))))) hn
  · intro f h hn
    rcases h with h | h | h | h | h | h
    · exact absurd (.inl h) hn
    · exact absurd (.inr (.inl h)) hn
    · exact absurd (.inr (.inr (.inl h))) hn
    · exact absurd (.inr (.inr (.inr (.inl h)))) hn
    · obtain ⟨k, b, c, d⟩ := h
      simp only at d b
      rw [gB_set hp b.1] at d
      by_cases e : f.a = p
      · rw [if_pos e] at d; cases d
      · rw [if_neg e] at d
        exact absurd (.inr (.inr (.inr (.inr (.inl ⟨k, b, c, d⟩))))) hn
    · exact absurd (.inr (.inr (.inr (.inr (.inr h))))) hn
theorem Diff.trans {w w1 w2 : Wd} {L M L2 M2 : List Fa} (h : Diff w w1 L M) (k : Diff w1 w2 L2 M2) : Diff w w2 (L ++ L2) (M ++ M2) := by
  constructor
  · intro f h1 h2
    by_cases hm : factOf w1 f
    · exact List.mem_append_right _ (k.less f hm h2)
    · exact List.mem_append_left _ (h.less f h1 hm)
  · intro f h1 h2
    by_cases hm : factOf w1 f
    · exact List.mem_append_left _ (h.more f hm h2)
    · exact List.mem_append_right _ (k.more f h1 hm)
theorem val_ok {k a b : Int} (ha : 0 ≤ a) (hb : 0 ≤ b) (h1 : a < (lim k).1) (h2 : b < (lim k).2) : validF ⟨k, a, b⟩ = true := by
  unfold validF; simp [ha, hb, h1, h2]
theorem diff_do {w : Wd} (hw : Ok w) {s : Stp} (hc : canF w s) (hk : 0 ≤ s.k ∧ s.k ≤ 3) :
    ∃ L M, L.length ≤ 3 ∧ M.length ≤ 3 ∧ Diff w (doF w s) L M ∧ (∀ f, f ∈ L ∨ f ∈ M → f.k = 2 ∨ f.k = 3 ∨ f.k = 6 → f.a = s.a) ∧ ∃ f, validF f = true ∧ factOf (doF w s) f ∧ ¬ factOf w f := by
  have hcc := hc
  obtain ⟨f1, f2, f3, f4, f5⟩ := form_arm hc.1
  obtain ⟨c1, c2, c3, c4, c5⟩ := hc
  have hsl0 := hw.sl0
  have hsl8 := hw.sl8
  have hpl := hw.pl
  have hsp := hw.sp
  have hsn := hw.sn
  unfold mayF hereF at c5
  obtain ⟨m0, m13, m1, m3, m2⟩ := c5
  have har : 0 ≤ s.a ∧ s.a < w.sp.length := ⟨f1, c2⟩
  by_cases k0 : s.k = 0
  · have hT := target_bnd hw c1 c3 c4 (m0 k0).2.1 (.inl k0)
    have e : doF w s = { w with sp := w.sp.set s.a.toNat (targetF w s) } := if_pos k0
    rw [e]
    refine ⟨_, _, by simp, by simp, diff_go har, ?_, ⟨6, s.a, targetF w s⟩, val_ok f1 hT.2.2.2 (by simp [lim]; omega) (by simp [lim]; omega), ?_, ?_⟩
    · rintro f (hf | hf) _ <;> rw [List.mem_singleton] at hf <;> rw [hf]
    · refine .inr (.inr (.inr (.inr (.inr ⟨rfl, by simpa using har, ?_, (m0 k0).2.1⟩))))
      simp only; rw [gI_set har f1, if_pos rfl]
    · rintro (h | h | h | h | h | h) <;> try (have h1 := h.1; simp at h1; done)
      exact (m0 k0).2.2.2 (by rw [show targetF w s = gI w.sp s.a from h.2.2.1]; exact gI_mem f1 c2)
  by_cases k1 : s.k = 1
  · have hp := f4 (.inl k1)
    have hpr : 0 ≤ s.p ∧ s.p < w.pl.length := ⟨hp, c3⟩
    have hh := (m13 (.inl k1)).1
    rw [holds_iff f1 c2] at hh
    have hT := (m13 (.inl k1)).2.1
    have hge : -1 ≤ gI w.pl s.p := by
      unfold targetF at hT
      rw [if_pos hp] at hT
      unfold whereF at hT
      rw [if_neg (by omega)] at hT
      by_cases h1 : gI w.pl s.p < -1
      · rw [if_pos h1] at hT; exact absurd rfl hT
      · omega
    have e : doF w s = { w with pl := w.pl.set s.p.toNat (-2 - s.a) } := by unfold doF; rw [if_neg k0, if_pos k1]
    rw [e]
    have hd := diff_pl hw hpr hh
    refine ⟨[⟨1, s.p, gI w.pl s.p⟩, ⟨3, s.a, 0⟩], [⟨2, s.a, s.p⟩, ⟨4, gI w.pl s.p, 0⟩], by simp, by simp, ⟨fun f h hn => ?_, fun f h hn => ?_⟩, ?_, ⟨2, s.a, s.p⟩, val_ok f1 hp (by simp [lim]; omega) (by simp [lim]; omega), ?_, ?_⟩
    · rcases (hd f).1 h hn with h | h | h | h
      · rw [h.1]; simp
      · omega
      · rw [h.1, show -2 - (-2 - s.a) = s.a by omega]; simp
      · omega
    · rcases (hd f).2 h hn with h | h | h | h
      · omega
      · rw [h.1, show -2 - (-2 - s.a) = s.a by omega]; simp
      · omega
      · rw [h.1]; simp
    · rintro f (hf | hf) hk <;> simp only [List.mem_cons, List.not_mem_nil, or_false] at hf <;> rcases hf with rfl | rfl <;> simp at hk ⊢
    · refine .inr (.inl ⟨rfl, by simpa using hpr, ?_, f1⟩)
      simp only; rw [gI_set hpr hp, if_pos rfl]
    · rintro (h | h | h | h | h | h) <;> try (have h1 := h.1; simp at h1; done)
      exact hh (by rw [show -2 - s.a = gI w.pl s.p from h.2.2.1.symm]; exact gI_mem hp c3)
  by_cases k3 : s.k = 3
  · have hp := f4 (.inr k3)
    have hpr : 0 ≤ s.p ∧ s.p < w.sn.length := ⟨hp, by omega⟩
    have e : doF w s = { w with sn := w.sn.set s.p.toNat true } := by unfold doF; rw [if_neg k0, if_neg k1, if_pos k3]
    rw [e]
    refine ⟨_, _, by simp, by simp, diff_look hpr, ?_, ⟨5, s.p, 0⟩, val_ok hp (by decide) (by simp [lim]; omega) (by simp [lim]), ?_, ?_⟩
    · rintro f (hf | hf) hk
      · simp at hf
      · rw [List.mem_singleton] at hf; subst hf; simp at hk
    · refine .inr (.inr (.inr (.inr (.inl ⟨rfl, ⟨hp, by simp only; omega⟩, rfl, ?_⟩))))
      simp only; rw [gB_set hpr hp, if_pos rfl]
    · rintro (h | h | h | h | h | h) <;> try (have h1 := h.1; simp at h1; done)
      have := h.2.2.2
      rw [show gB w.sn s.p = false from m3 k3] at this; cases this
  have k2 : s.k = 2 := by omega
  have hs0 := f5 k2
  have hh := (m2 k2).2.2
  rw [in_iff hs0] at hh
  have hq := (m2 k2).1
  have hb := holds_bnd' w s.a
  have hqr : 0 ≤ holdsF w s.a ∧ holdsF w s.a < w.pl.length := ⟨hq, hb⟩
  have hqs : 0 ≤ holdsF w s.a ∧ holdsF w s.a < w.sn.length := ⟨hq, by omega⟩
  have hgq : gI w.pl (holdsF w s.a) = -2 - s.a := by
    rw [holds_arm f1 c2] at hq ⊢
    have := idx_get w.pl (-2 - s.a) hq
    unfold gI; rw [this]; rfl
  have e : doF w s = { { w with pl := w.pl.set (holdsF w s.a).toNat s.s } with sn := w.sn.set (holdsF w s.a).toNat false } := by unfold doF; rw [if_neg k0, if_neg k1, if_neg k3, if_pos k2]
  rw [e]
  have hd := diff_pl hw hqr hh
  generalize hQ : holdsF w s.a = q at *
  have hd1 : Diff w { w with pl := w.pl.set q.toNat s.s } [⟨2, s.a, q⟩, ⟨4, s.s, 0⟩] [⟨1, q, s.s⟩, ⟨3, s.a, 0⟩] := by
    constructor
    · intro f h hn
      rcases (hd f).1 h hn with h | h | h | h
      · omega
      · rw [h.1, hgq, show -2 - (-2 - s.a) = s.a by omega]; simp
      · omega
      · rw [h.1]; simp
    · intro f h hn
      rcases (hd f).2 h hn with h | h | h | h
      · rw [h.1]; simp
      · omega
      · rw [h.1, hgq, show -2 - (-2 - s.a) = s.a by omega]; simp
      · omega
  have hd2 := hd1.trans (diff_unsee (w := { w with pl := w.pl.set q.toNat s.s }) hqs)
  refine ⟨_, _, by simp, by simp, hd2, ?_, ⟨1, q, s.s⟩, val_ok hq hs0 (by simp [lim]; omega) (by simp [lim]; omega), ?_, ?_⟩
  · rintro f (hf | hf) hk <;> simp only [List.mem_cons, List.mem_append, List.not_mem_nil, or_false] at hf
    · rcases hf with (rfl | rfl) | rfl <;> simp at hk ⊢
    · rcases hf with rfl | rfl <;> simp at hk ⊢
  · refine .inl ⟨rfl, by simpa using hqr, ?_, hs0⟩
    simp only; rw [gI_set hqr hq, if_pos rfl]
  · rintro (h | h | h | h | h | h) <;> try (have h1 := h.1; simp at h1; done)
    exact hh (by rw [show s.s = gI w.pl q from h.2.2.1]; exact gI_mem hq hb)
theorem nodup_len {α : Type} [DecidableEq α] : ∀ (l m : List α), l.Nodup → (∀ x ∈ l, x ∈ m) → l.length ≤ m.length
  | [], m, _, _ => Nat.zero_le _
  | x :: l, m, hn, h => by
    have hx := h x (by simp)
    have h1 := nodup_len l (m.erase x) (List.nodup_cons.1 hn).2 fun y hy => by
      have hne : y ≠ x := fun e => (List.nodup_cons.1 hn).1 (by rw [← e]; exact hy)
      exact (List.mem_erase_of_ne hne).2 (h y (by simp [hy]))
    rw [List.length_erase_of_mem hx] at h1
    have := List.length_pos_of_mem hx
    simp only [List.length_cons]; omega
theorem canon_nodup {A : List Fa} (h : Canon A) : A.Nodup := h.1.imp fun h e => by subst e; exact ltF_asymm h h
def lessF (w w' : Wd) : List Fa := ofF ((factsF w).filter fun f => !decide (f ∈ factsF w'))
theorem less_mem {w w' : Wd} (hs : Small w) (hs' : Small w') (f : Fa) : f ∈ lessF w w' ↔ (factOf w f ∧ ¬ factOf w' f) ∧ validF f = true := by
  unfold lessF
  rw [of_mem, List.mem_filter, factsF_mem hs, Bool.not_eq_true', decide_eq_false_iff_not, factsF_mem hs']
  constructor
  · rintro ⟨⟨⟨h1, h2⟩, h3⟩, _⟩; exact ⟨⟨h1, fun h => h3 ⟨h, h2⟩⟩, h2⟩
  · rintro ⟨⟨h1, h2⟩, h3⟩; exact ⟨⟨⟨h1, h3⟩, fun h => h2 h.1⟩, h3⟩
theorem less_len {w w' : Wd} (hs : Small w) (hs' : Small w') {L : List Fa} (h : ∀ f, factOf w f → ¬ factOf w' f → f ∈ L) : (lessF w w').length ≤ L.length := by
  refine nodup_len _ _ (canon_nodup (of_canon _)) fun f hf => ?_
  have := (less_mem hs hs' f).1 hf
  exact h f this.1.1 this.1.2
theorem apply_less {w w' : Wd} (hs : Small w) (hs' : Small w') : ofF (ofF ((factsF w).filter fun f => !decide (f ∈ lessF w w')) ++ lessF w' w) = factsF w' := by
  refine of_eq (of_canon _) fun x hx => ?_
  rw [List.mem_append, of_mem, List.mem_filter, Bool.not_eq_true', decide_eq_false_iff_not, less_mem hs hs', less_mem hs' hs, factsF_mem hs, factsF_mem hs']
  constructor
  · rintro (⟨⟨⟨h1, h2⟩, h3⟩, _⟩ | ⟨⟨h1, h2⟩, h3⟩)
    · by_cases h : factOf w' x
      · exact ⟨h, hx⟩
      · exact absurd ⟨⟨h1, h⟩, hx⟩ h3
    · exact ⟨h1, hx⟩
  · rintro ⟨h1, _⟩
    by_cases h : factOf w x
    · exact .inl ⟨⟨⟨h, hx⟩, fun h3 => h3.1.2 h1⟩, hx⟩
    · exact .inr ⟨⟨h1, h⟩, hx⟩
end Vg.G3
