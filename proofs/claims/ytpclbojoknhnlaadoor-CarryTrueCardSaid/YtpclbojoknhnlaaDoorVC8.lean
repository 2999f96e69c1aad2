import Derived.Test.YtpclbojoknhnlaaDoorVC4
namespace Vg.G3
open Go Lg Vg.Nm
set_option linter.unusedSimpArgs false
set_option linter.unusedVariables false
set_option maxRecDepth 10000
set_option maxHeartbeats 4000000

/-! Plain: turning boxes and joint values. -/
theorem rM1_cases (k a b : Rat) : rM1 k a b = k * a ∨ rM1 k a b = k * b := by
  have h : ∀ x y : Rat, minQ x y = x ∨ minQ x y = y := fun x y => by unfold minQ; split <;> simp
  unfold rM1 mul1
  rcases h (minQ (minQ (k * a) (k * b)) (k * a)) (k * b) with e | e
  · rw [e]
    rcases h (minQ (k * a) (k * b)) (k * a) with e | e
    · rw [e]; exact h _ _
    · rw [e]; exact .inl rfl
  · rw [e]; exact .inr rfl
theorem rM2_cases (k a b : Rat) : rM2 k a b = k * a ∨ rM2 k a b = k * b := by
  have h : ∀ x y : Rat, maxQ x y = x ∨ maxQ x y = y := fun x y => by unfold maxQ; split <;> simp
  unfold rM2 mul2
  rcases h (maxQ (maxQ (k * a) (k * b)) (k * a)) (k * b) with e | e
  · rw [e]
    rcases h (maxQ (k * a) (k * b)) (k * a) with e | e
    · rw [e]; exact h _ _
    · rw [e]; exact .inl rfl
  · rw [e]; exact .inr rfl
theorem rM_in {k a b x : Rat} (h1 : a ≤ x) (h2 : x ≤ b) : rM1 k a b ≤ k * x ∧ k * x ≤ rM2 k a b := by
  have l1 : rM1 k a b ≤ k * a := Rat.le_trans min_le1 min_le2
  have l2 : rM1 k a b ≤ k * b := min_le2
  have g1 : k * a ≤ rM2 k a b := Rat.le_trans le_max2 le_max1
  have g2 : k * b ≤ rM2 k a b := le_max2
  rcases (Rat.le_total : (0 : Rat) ≤ k ∨ k ≤ 0) with h | h
  · have a1 := Rat.mul_le_mul_of_nonneg_left h1 h
    have a2 := Rat.mul_le_mul_of_nonneg_left h2 h
    exact ⟨Rat.le_trans l1 a1, Rat.le_trans a2 g2⟩
  · have a1 := Rat.mul_le_mul_of_nonneg_left h1 (show 0 ≤ -k by grind)
    have a2 := Rat.mul_le_mul_of_nonneg_left h2 (show 0 ≤ -k by grind)
    exact ⟨by grind, by grind⟩
/-- A point in a box is, turned, in the turned box. -/
theorem rot_in {a b c d t x y : Rat} (h1 : a ≤ x) (h2 : x ≤ b) (h3 : c ≤ y) (h4 : y ≤ d) :
    (rX1 a b c d t ≤ cosF (t * t) * x - sinF t * y ∧ cosF (t * t) * x - sinF t * y ≤ rX2 a b c d t) ∧ (rY1 a b c d t ≤ sinF t * x + cosF (t * t) * y ∧ sinF t * x + cosF (t * t) * y ≤ rY2 a b c d t) := by
  have m1 := rM_in (k := cosF (t * t)) h1 h2
  have m2 := rM_in (k := sinF t) h3 h4
  have m3 := rM_in (k := sinF t) h1 h2
  have m4 := rM_in (k := cosF (t * t)) h3 h4
  unfold rX1 rX2 rY1 rY2
  generalize cosF (t * t) * x = A at *
  generalize sinF t * y = B at *
  generalize sinF t * x = C at *
  generalize cosF (t * t) * y = D at *
  exact ⟨⟨by grind, by grind⟩, by grind, by grind⟩
theorem rot_sp {a b c d t : Rat} (h1 : a ≤ b) (h2 : c ≤ d) : rX1 a b c d t ≤ rX2 a b c d t ∧ rY1 a b c d t ≤ rY2 a b c d t := by
  have := rot_in (t := t) Rat.le_refl h1 Rat.le_refl h2
  exact ⟨Rat.le_trans this.1.1 this.1.2, Rat.le_trans this.2.1 this.2.2⟩
theorem tN_mono {a s1 s2 : Rat} (h : s1 ≤ s2) (hc : tOK a s1 s2) : tN a s1 ≤ tN a s2 := by
  unfold tOK at hc
  have key := Rat.mul_nonneg (show 0 ≤ s2 - s1 by grind) (show 0 ≤ 1 + a * a by have := sq_nonneg a; grind)
  unfold tN
  by_cases hp : 0 < 1 - a * s1
  · have hq : 0 < 1 - a * s2 := by
      refine Rat.not_le.1 fun h0 => ?_
      have := Rat.mul_nonneg (Rat.le_of_lt hp) (show 0 ≤ -(1 - a * s2) by grind)
      grind
    exact div_le hp hq (by grind)
  · have hq : 1 - a * s2 < 0 := by
      refine Rat.not_le.1 fun h0 => ?_
      have := Rat.mul_nonneg (show 0 ≤ -(1 - a * s1) by grind) h0
      grind
    have hp' : 1 - a * s1 < 0 := by
      refine Rat.not_le.1 fun h0 => hp ?_
      rcases Rat.le_iff_lt_or_eq.1 h0 with h1 | h1
      · exact h1
      · rw [← h1] at hc; simp at hc
    have e1 : (s1 + a) / (1 - a * s1) = -(s1 + a) / -(1 - a * s1) := by grind
    have e2 : (s2 + a) / (1 - a * s2) = -(s2 + a) / -(1 - a * s2) := by grind
    rw [e1, e2]
    exact div_le (by grind) (by grind) (by grind)
end Vg.G3
namespace Vg.G3
open Go Lg Vg.Nm
set_option linter.unusedSimpArgs false
set_option linter.unusedVariables false
set_option maxRecDepth 10000
set_option maxHeartbeats 4000000

/-! The sizes of carried bounds. -/
/-- A turn of a frame: cosine and sine over one small number. -/
def TM (t : Rat) : Prop := ∃ (n m : Int) (T : Nat), T ≠ 0 ∧ T ≤ 25 ∧ cosF (t * t) = mkRat n T ∧ sinF t = mkRat m T ∧ 5 * (n.natAbs + m.natAbs) ≤ 7 * T
theorem TM_mk {j : Int} (h1 : -4 ≤ j) (h2 : j ≤ 4) : TM (mkRat j 4) := by
  have h : j = -4 ∨ j = -3 ∨ j = -2 ∨ j = -1 ∨ j = 0 ∨ j = 1 ∨ j = 2 ∨ j = 3 ∨ j = 4 := by omega
  rcases h with rfl | rfl | rfl | rfl | rfl | rfl | rfl | rfl | rfl
  · exact ⟨0, -1, 1, by decide, by decide, by decide +kernel, by decide +kernel, by decide⟩
  · exact ⟨7, -24, 25, by decide, by decide, by decide +kernel, by decide +kernel, by decide⟩
  · exact ⟨3, -4, 5, by decide, by decide, by decide +kernel, by decide +kernel, by decide⟩
  · exact ⟨15, -8, 17, by decide, by decide, by decide +kernel, by decide +kernel, by decide⟩
  · exact ⟨1, 0, 1, by decide, by decide, by decide +kernel, by decide +kernel, by decide⟩
  · exact ⟨15, 8, 17, by decide, by decide, by decide +kernel, by decide +kernel, by decide⟩
  · exact ⟨3, 4, 5, by decide, by decide, by decide +kernel, by decide +kernel, by decide⟩
  · exact ⟨7, 24, 25, by decide, by decide, by decide +kernel, by decide +kernel, by decide⟩
  · exact ⟨0, 1, 1, by decide, by decide, by decide +kernel, by decide +kernel, by decide⟩
/-- A coordinate over 4 N. -/
def QX (N A : Nat) (q : Rat) : Prop := ∃ k : Int, q = mkRat k (4 * N) ∧ 625 * k.natAbs ≤ A * N
theorem QX.sq {N A : Nat} {q : Rat} (h : QX N A q) (h0 : N ≠ 0) (hN : N ≤ 390625) (hA : A ≤ 300000) : SQ q := by
  obtain ⟨k, rfl, hk⟩ := h
  have := Nat.mul_le_mul hA hN
  exact mk_sq (by omega) (by omega) (by omega)
theorem QX.shift {N A : Nat} {q : Rat} (h : QX N A q) (h0 : N ≠ 0) {g : Int} (hg : g.natAbs ≤ 16) : QX N (A + 20000) (q + mkRat g 2) := by
  obtain ⟨k, rfl, hk⟩ := h
  refine ⟨k + g * (2 * N : Nat), ?_, ?_⟩
  · rw [mk_scale (a := g) (D := 2) (E := 2 * N) (by decide) (by omega), show 2 * (2 * N) = 4 * N by omega, mk_add (by omega)]
  · have a3 := Int.natAbs_add_le k (g * (2 * N : Nat))
    rw [Int.natAbs_mul, Int.natAbs_natCast] at a3
    have a4 := Nat.mul_le_mul_right (2 * N) hg
    rw [Nat.add_mul]
    omega
theorem QX.mono {N A A' : Nat} {q : Rat} (h : QX N A q) (hA : A ≤ A') : QX N A' q := by
  obtain ⟨k, rfl, hk⟩ := h
  exact ⟨k, rfl, Nat.le_trans hk (Nat.mul_le_mul_right _ hA)⟩
theorem QX.turn {N E : Nat} {c s x y : Rat} {n m : Int} {T : Nat} (hT : T ≠ 0) (hc : c = mkRat n T) (hs : s = mkRat m T) (hn : 5 * (n.natAbs + m.natAbs) ≤ 7 * T) (hx : QX N (5 * E) x) (hy : QX N (5 * E) y) (h0 : N ≠ 0) : QX (N * T) (7 * E) (c * x - s * y) ∧ QX (N * T) (7 * E) (s * x + c * y) := by
  obtain ⟨a, rfl, ha⟩ := hx
  obtain ⟨b, rfl, hb⟩ := hy
  subst hc hs
  have b1 := Nat.mul_le_mul_left n.natAbs ha
  have b2 := Nat.mul_le_mul_left m.natAbs hb
  have b3 := Nat.mul_le_mul_left m.natAbs ha
  have b4 := Nat.mul_le_mul_left n.natAbs hb
  have key := Nat.mul_le_mul_right (E * N) hn
  have e1 : n.natAbs * (5 * E * N) = 5 * (n.natAbs * (E * N)) := by rw [Nat.mul_assoc 5, Nat.mul_left_comm]
  have e2 : m.natAbs * (5 * E * N) = 5 * (m.natAbs * (E * N)) := by rw [Nat.mul_assoc 5, Nat.mul_left_comm]
  have e3 : 5 * (n.natAbs + m.natAbs) * (E * N) = 5 * (n.natAbs * (E * N)) + 5 * (m.natAbs * (E * N)) := by rw [Nat.mul_assoc, Nat.add_mul, Nat.mul_add]
  have e4 : 7 * T * (E * N) = 7 * E * (N * T) := by rw [Nat.mul_assoc, Nat.mul_assoc]; congr 1; rw [Nat.mul_comm T, Nat.mul_assoc]
  have f1 : n.natAbs * (625 * a.natAbs) = 625 * (n.natAbs * a.natAbs) := by rw [Nat.mul_left_comm]
  have f2 : m.natAbs * (625 * b.natAbs) = 625 * (m.natAbs * b.natAbs) := by rw [Nat.mul_left_comm]
  have f3 : m.natAbs * (625 * a.natAbs) = 625 * (m.natAbs * a.natAbs) := by rw [Nat.mul_left_comm]
  have f4 : n.natAbs * (625 * b.natAbs) = 625 * (n.natAbs * b.natAbs) := by rw [Nat.mul_left_comm]
  have d : T * (4 * N) = 4 * (N * T) := by rw [Nat.mul_comm T, Nat.mul_assoc]
  have hNT := Nat.mul_ne_zero h0 hT
  refine ⟨⟨n * a - m * b, ?_, ?_⟩, ⟨m * a + n * b, ?_, ?_⟩⟩
  · rw [mk_prod, mk_prod, d, mk_sub (by omega)]
  · have a3 := Int.natAbs_sub_le (n * a) (m * b)
    rw [Int.natAbs_mul, Int.natAbs_mul] at a3
    omega
  · rw [mk_prod, mk_prod, d, mk_add (by omega)]
  · have a3 := Int.natAbs_add_le (m * a) (n * b)
    rw [Int.natAbs_mul, Int.natAbs_mul] at a3
    omega
/-- A box of such coordinates. -/
structure BX (N A : Nat) (a b c d : Rat) : Prop where
  n0 : N ≠ 0
  qa : QX N A a
  qb : QX N A b
  qc : QX N A c
  qd : QX N A d
  sx : a ≤ b
  sy : c ≤ d
theorem BX.rot {N E : Nat} {a b c d t : Rat} (h : BX N (5 * E) a b c d) (ht : TM t) : ∃ T, T ≠ 0 ∧ T ≤ 25 ∧ BX (N * T) (7 * E) (rX1 a b c d t) (rX2 a b c d t) (rY1 a b c d t) (rY2 a b c d t) := by
  obtain ⟨n, m, T, hT, hT2, hc, hs, hn⟩ := ht
  have k := fun {x y : Rat} (hx : QX N (5 * E) x) (hy : QX N (5 * E) y) => QX.turn hT hc hs hn hx hy h.n0
  have q := rot_sp (t := t) h.sx h.sy
  refine ⟨T, hT, hT2, Nat.mul_ne_zero h.n0 hT, ?_, ?_, ?_, ?_, q.1, q.2⟩
  · unfold rX1
    rcases rM1_cases (cosF (t * t)) a b with e | e <;> rcases rM2_cases (sinF t) c d with e' | e' <;> rw [e, e']
    all_goals first | exact (k h.qa h.qc).1 | exact (k h.qa h.qd).1 | exact (k h.qb h.qc).1 | exact (k h.qb h.qd).1
  · unfold rX2
    rcases rM2_cases (cosF (t * t)) a b with e | e <;> rcases rM1_cases (sinF t) c d with e' | e' <;> rw [e, e']
    all_goals first | exact (k h.qa h.qc).1 | exact (k h.qa h.qd).1 | exact (k h.qb h.qc).1 | exact (k h.qb h.qd).1
  · unfold rY1
    rcases rM1_cases (sinF t) a b with e | e <;> rcases rM1_cases (cosF (t * t)) c d with e' | e' <;> rw [e, e']
    all_goals first | exact (k h.qa h.qc).2 | exact (k h.qa h.qd).2 | exact (k h.qb h.qc).2 | exact (k h.qb h.qd).2
  · unfold rY2
    rcases rM2_cases (sinF t) a b with e | e <;> rcases rM2_cases (cosF (t * t)) c d with e' | e' <;> rw [e, e']
    all_goals first | exact (k h.qa h.qc).2 | exact (k h.qa h.qd).2 | exact (k h.qb h.qc).2 | exact (k h.qb h.qd).2
theorem QX.zero (N A : Nat) : QX N A 0 := ⟨0, (mk_zero _).symm, by simp⟩
/-- What turning such a box asks, holds. -/
theorem BX.rt {N E : Nat} {a b c d t : Rat} (h : BX N (5 * E) a b c d) (ht : TM t) (tq : TQ t) (hN : N ≤ 15625) (hE : 7 * E ≤ 300000) : RT a b c d t := by
  obtain ⟨n, m, T, hT, hT2, hc, hs, hn⟩ := ht
  have hNT : N * T ≤ 390625 := Nat.le_trans (Nat.mul_le_mul hN hT2) (by decide)
  have k := fun {x y : Rat} (hx : QX N (5 * E) x) (hy : QX N (5 * E) y) => QX.turn hT hc hs hn hx hy h.n0
  have z := QX.zero N (5 * E)
  have sq : ∀ {q : Rat}, QX N (5 * E) q → SQ q := fun hq => hq.sq h.n0 (by omega) (by omega)
  have c1 : ∀ {x : Rat}, QX N (5 * E) x → SQ (cosF (t * t) * x) := fun {x} hx => by
    have := (k hx z).1
    rw [show cosF (t * t) * x - sinF t * 0 = cosF (t * t) * x by grind] at this
    exact this.sq (Nat.mul_ne_zero h.n0 hT) hNT hE
  have s1 : ∀ {x : Rat}, QX N (5 * E) x → SQ (sinF t * x) := fun {x} hx => by
    have := (k hx z).2
    rw [show sinF t * x + cosF (t * t) * 0 = sinF t * x by grind] at this
    exact this.sq (Nat.mul_ne_zero h.n0 hT) hNT hE
  exact ⟨⟨sq h.qa, sq h.qb, h.sx⟩, ⟨sq h.qc, sq h.qd, h.sy⟩, tq, by rw [hc]; exact mk_sq (by omega) hT (by omega), by rw [hs]; exact mk_sq (by omega) hT (by omega), c1 h.qa, c1 h.qb, s1 h.qc, s1 h.qd, s1 h.qa, s1 h.qb, c1 h.qc, c1 h.qd⟩
theorem BX.add {N A : Nat} {a b c d : Rat} (h : BX N A a b c d) {gx gy : Int} (hx : gx.natAbs ≤ 16) (hy : gy.natAbs ≤ 16) : BX N (A + 20000) (a + mkRat gx 2) (b + mkRat gx 2) (c + mkRat gy 2) (d + mkRat gy 2) := by
  have h1 := h.sx
  have h2 := h.sy
  exact ⟨h.n0, h.qa.shift h.n0 hx, h.qb.shift h.n0 hx, h.qc.shift h.n0 hy, h.qd.shift h.n0 hy, by grind, by grind⟩
theorem sub_neg_mk (q : Rat) (g : Int) : q - mkRat g 2 = q + mkRat (-g) 2 := by rw [Rat.sub_eq_add_neg, neg_mkRat]
theorem BX.sub {N A : Nat} {a b c d : Rat} (h : BX N A a b c d) {gx gy : Int} (hx : gx.natAbs ≤ 16) (hy : gy.natAbs ≤ 16) : BX N (A + 20000) (a - mkRat gx 2) (b - mkRat gx 2) (c - mkRat gy 2) (d - mkRat gy 2) := by
  rw [sub_neg_mk, sub_neg_mk, sub_neg_mk, sub_neg_mk]
  exact h.add (by omega) (by omega)
theorem BX.mono {N A A' : Nat} {a b c d : Rat} (h : BX N A a b c d) (hA : A ≤ A') : BX N A' a b c d := ⟨h.n0, h.qa.mono hA, h.qb.mono hA, h.qc.mono hA, h.qd.mono hA, h.sx, h.sy⟩
/-- A joint value of few bytes. -/
def TS (B : Nat) (s : Rat) : Prop := ∃ (u : Int) (v : Nat), s = mkRat u v ∧ v ≠ 0 ∧ u.natAbs ≤ B ∧ v ≤ B
theorem TS.sq {B : Nat} {s : Rat} (h : TS B s) (hB : B ≤ 200000000) : SQ s := by
  obtain ⟨u, v, rfl, h0, h1, h2⟩ := h
  exact mk_sq (by omega) h0 (by omega)
theorem TS.parts {B : Nat} {s : Rat} {i : Int} (h : TS B s) (hi : i.natAbs ≤ 4) : ∃ (n d : Int) (v : Nat), v ≠ 0 ∧ v ≤ B ∧ n.natAbs ≤ 8 * B ∧ d.natAbs ≤ 8 * B ∧ s + mkRat i 4 = mkRat n (4 * v) ∧ 1 - mkRat i 4 * s = mkRat d (4 * v) ∧ (mkRat i 4 * s = mkRat (4 * v - d) (4 * v)) := by
  obtain ⟨u, v, rfl, h0, h1, h2⟩ := h
  have e : mkRat i 4 * mkRat u v = mkRat (i * u) (4 * v) := mk_prod
  have b1 := Nat.mul_le_mul hi h1
  have b2 := Nat.mul_le_mul hi h2
  refine ⟨4 * u + i * v, 4 * v - i * u, v, h0, h2, ?_, ?_, ?_, ?_, ?_⟩
  · have a3 := Int.natAbs_add_le (4 * u) (i * v)
    rw [Int.natAbs_mul, Int.natAbs_mul i, Int.natAbs_natCast, show Int.natAbs 4 = 4 from rfl] at a3
    omega
  · have a3 := Int.natAbs_sub_le (4 * v) (i * u)
    rw [Int.natAbs_mul, Int.natAbs_mul i, Int.natAbs_natCast, show Int.natAbs 4 = 4 from rfl] at a3
    omega
  · rw [mk_scale (a := u) (D := v) (E := 4) h0 (by decide), mk_scale (a := i) (D := 4) (E := v) (by decide) h0, Nat.mul_comm v 4, mk_add (by omega), show ((4 : Nat) : Int) = 4 from rfl, Int.mul_comm u]
  · rw [e, one_mkD (D := 4 * v) (by omega), mk_sub (by omega), Int.natCast_mul]; rfl
  · rw [e]; congr 1; omega
theorem TS.td {B : Nat} {s : Rat} {i : Int} (h : TS B s) (hi : i.natAbs ≤ 4) (hB : B ≤ 20000000) : TD (mkRat i 4) s := by
  obtain ⟨n, d, v, h0, h1, h2, h3, e1, e2, e3⟩ := h.parts hi
  exact ⟨by rw [e3]; exact mk_sq (by omega) (by omega) (by omega), by rw [e1]; exact mk_sq (by omega) (by omega) (by omega), by rw [e2]; exact mk_sq (by omega) (by omega) (by omega)⟩
theorem TS.next {B : Nat} {s : Rat} {i : Int} (h : TS B s) (hi : i.natAbs ≤ 4) (hd : 1 - mkRat i 4 * s ≠ 0) : TS (8 * B) (tN (mkRat i 4) s) := by
  obtain ⟨n, d, v, h0, h1, h2, h3, e1, e2, e3⟩ := h.parts hi
  have hd0 : d ≠ 0 := by rintro rfl; rw [e2, mk_zero] at hd; exact hd rfl
  have hv := mkn0 (D := 4 * v) (by omega)
  unfold tN
  rw [e1, e2]
  rcases Int.lt_or_le d 0 with hs | hs
  · refine ⟨-n, d.natAbs, ?_, by omega, by omega, h3⟩
    have hdr : ((d.natAbs : Nat) : Rat) = -(d : Rat) := by rw [← Rat.intCast_natCast, show ((d.natAbs : Nat) : Int) = -d by omega, Rat.intCast_neg]
    have hdz := mkn0 (D := d.natAbs) (by omega)
    rw [Rat.mkRat_eq_div, Rat.mkRat_eq_div, Rat.mkRat_eq_div, hdr, Rat.intCast_neg]
    rw [hdr] at hdz
    grind
  · refine ⟨n, d.natAbs, ?_, by omega, h2, h3⟩
    have hdr : ((d.natAbs : Nat) : Rat) = (d : Rat) := by rw [← Rat.intCast_natCast, show ((d.natAbs : Nat) : Int) = d by omega]
    have hdz := mkn0 (D := d.natAbs) (by omega)
    rw [Rat.mkRat_eq_div, Rat.mkRat_eq_div, Rat.mkRat_eq_div, hdr]
    rw [hdr] at hdz
    grind
end Vg.G3
namespace Vg.G3
open Go Lg Vg.Nm
set_option linter.unusedSimpArgs false
set_option linter.unusedVariables false
set_option maxRecDepth 10000
set_option maxHeartbeats 4000000

/-! Carries of poses of known size. -/
structure PO (N A B : Nat) (p : Po) : Prop where
  bx : BX N A p.x1 p.x2 p.y1 p.y2
  ta : TS B p.t1
  tb : TS B p.t2
  le : p.t1 ≤ p.t2
theorem PO.ok {N A B : Nat} {p : Po} (g : PO N A B p) (hN : N ≤ 390625) (hA : A ≤ 300000) (hB : B ≤ 20000000) : p.ok :=
  ⟨⟨g.bx.qa.sq g.bx.n0 hN hA, g.bx.qb.sq g.bx.n0 hN hA, g.bx.sx⟩, ⟨g.bx.qc.sq g.bx.n0 hN hA, g.bx.qd.sq g.bx.n0 hN hA, g.bx.sy⟩, ⟨g.ta.sq (by omega), g.tb.sq (by omega), g.le⟩⟩
theorem QP.po {p : Po} (g : QP p) : PO 1 16250 10 p := by
  obtain ⟨x1, x2, y1, y2, t1, t2, rfl, h1, h2, h3, _, h5, h6, h7, _, h9, h10, h11, _⟩ := g.ex
  exact ⟨⟨by decide, ⟨x1, rfl, by omega⟩, ⟨x2, rfl, by omega⟩, ⟨y1, rfl, by omega⟩, ⟨y2, rfl, by omega⟩, mk_le (by decide) h2, mk_le (by decide) h6⟩, ⟨t1, 4, rfl, by decide, by omega, by decide⟩, ⟨t2, 4, rfl, by decide, by omega, by decide⟩, mk_le (by decide) h10⟩
theorem fsq {i : Int} (hi : i.natAbs ≤ 16) {d : Nat} (h0 : d ≠ 0) (hd : d ≤ 100) : SQ (mkRat i d) := mk_sq (by omega) h0 (by omega)
open Classical in
theorem grip_at {N A B E : Nat} {p : Po} (po : PO N A B p) {i j k : Int} (hi : i.natAbs ≤ 16) (hj : j.natAbs ≤ 16) (hk : k.natAbs ≤ 4) (hA : A + 20000 ≤ 5 * E) (hN : N ≤ 15625) (hE : 7 * E ≤ 300000) (hB : B ≤ 20000000) :
    (∀ lo h, callVL vp lo n_carry_Grip [.agg p.v, .agg (frv (rv (mkRat i 2)) (rv (mkRat j 2)) (rv (mkRat k 4)))] h = some (.tup [.agg (if tOK (-mkRat k 4) p.t1 p.t2 then (p.grip (mkRat i 2) (mkRat j 2) (mkRat k 4)).v else Po.nz), .int .i64 (if tOK (-mkRat k 4) p.t1 p.t2 then 0 else 18)], h)) ∧
    (tOK (-mkRat k 4) p.t1 p.t2 → ∃ T, T ≠ 0 ∧ T ≤ 25 ∧ PO (N * T) (7 * E) (8 * B) (p.grip (mkRat i 2) (mkRat j 2) (mkRat k 4))) := by
  have ok := po.ok (by omega) (by omega) hB
  have b1 := (po.bx.sub hi hj).mono hA
  have e : -mkRat k 4 = mkRat (-k) 4 := neg_mkRat _ _
  have tm : TM (-mkRat k 4) := by rw [e]; exact TM_mk (by omega) (by omega)
  have tq : TQ (-mkRat k 4) := by rw [e]; exact TQ_mk (by decide) (by omega) (by decide)
  have d1 : TD (-mkRat k 4) p.t1 := by rw [e]; exact po.ta.td (by omega) hB
  have d2 : TD (-mkRat k 4) p.t2 := by rw [e]; exact po.tb.td (by omega) hB
  refine ⟨Grip_spec ok.x.sv ok.y.sv ok.t.sv (fsq hi (by decide) (by decide)).fq (fsq hj (by decide) (by decide)).fq (fsq (by omega) (by decide) (by decide)).fq d1 d2 (b1.rt tm tq hN hE), fun hc => ?_⟩
  obtain ⟨T, t0, t25, b2⟩ := b1.rot tm
  have nz := tOK_ne hc
  have n1 : 1 - -mkRat k 4 * p.t1 ≠ 0 := fun h => nz.1 (by rw [h]; rfl)
  have n2 : 1 - -mkRat k 4 * p.t2 ≠ 0 := fun h => nz.2 (by rw [h]; rfl)
  refine ⟨T, t0, t25, b2, ?_, ?_, tN_mono po.le hc⟩
  · have := po.ta.next (i := -k) (by omega) (by rw [← e]; exact n1)
    rw [← e] at this
    exact this
  · have := po.tb.next (i := -k) (by omega) (by rw [← e]; exact n2)
    rw [← e] at this
    exact this
open Classical in
theorem put_at {N A B E : Nat} {p : Po} (po : PO N A B p) {i j k : Int} (hi : i.natAbs ≤ 16) (hj : j.natAbs ≤ 16) (hk : k.natAbs ≤ 4) (hA : A ≤ 5 * E) (hN : N ≤ 15625) (hE : 7 * E + 20000 ≤ 300000) (hB : B ≤ 20000000) :
    (∀ lo h, callVL vp lo n_carry_Put [.agg p.v, .agg (frv (rv (mkRat i 2)) (rv (mkRat j 2)) (rv (mkRat k 4)))] h = some (.tup [.agg (if tOK (mkRat k 4) p.t1 p.t2 then (p.put (mkRat i 2) (mkRat j 2) (mkRat k 4)).v else Po.nz), .int .i64 (if tOK (mkRat k 4) p.t1 p.t2 then 0 else 18)], h)) ∧
    (tOK (mkRat k 4) p.t1 p.t2 → ∃ T, T ≠ 0 ∧ T ≤ 25 ∧ PO (N * T) (7 * E + 20000) (8 * B) (p.put (mkRat i 2) (mkRat j 2) (mkRat k 4))) := by
  have ok := po.ok (by omega) (by omega) hB
  have b1 := po.bx.mono hA
  have tm : TM (mkRat k 4) := TM_mk (by omega) (by omega)
  have tq : TQ (mkRat k 4) := TQ_mk (by decide) (by omega) (by decide)
  have d1 : TD (mkRat k 4) p.t1 := po.ta.td (by omega) hB
  have d2 : TD (mkRat k 4) p.t2 := po.tb.td (by omega) hB
  obtain ⟨T, t0, t25, b2⟩ := b1.rot tm
  have hNT : N * T ≤ 390625 := Nat.le_trans (Nat.mul_le_mul hN t25) (by decide)
  have hE' : 7 * E ≤ 300000 := by omega
  refine ⟨cPut_spec ok.t (fsq hi (by decide) (by decide)) (fsq hj (by decide) (by decide)) (fsq (by omega) (by decide) (by decide)) d1 d2 (b1.rt tm tq hN hE') ⟨b2.qa.sq b2.n0 hNT hE', b2.qb.sq b2.n0 hNT hE', b2.sx⟩ ⟨b2.qc.sq b2.n0 hNT hE', b2.qd.sq b2.n0 hNT hE', b2.sy⟩, fun hc => ?_⟩
  have nz := tOK_ne hc
  have n1 : 1 - mkRat k 4 * p.t1 ≠ 0 := fun h => nz.1 (by rw [h]; rfl)
  have n2 : 1 - mkRat k 4 * p.t2 ≠ 0 := fun h => nz.2 (by rw [h]; rfl)
  exact ⟨T, t0, t25, b2.add hi hj, po.ta.next (by omega) n1, po.tb.next (by omega) n2, tN_mono po.le hc⟩
/-- A carry. -/
theorem Carry_at {N A B E E2 : Nat} {p : Po} (po : PO N A B p) {i j k u v w : Int} (hi : i.natAbs ≤ 16) (hj : j.natAbs ≤ 16) (hk : k.natAbs ≤ 4) (hu : u.natAbs ≤ 16) (hv : v.natAbs ≤ 16) (hw : w.natAbs ≤ 4) (hA : A + 20000 ≤ 5 * E) (hA2 : 7 * E ≤ 5 * E2) (hN : N ≤ 625) (hE : 7 * E2 + 20000 ≤ 300000) (hB : B ≤ 2000000) :
    ∃ (q : List VV) (e : Int), ((e = 18 ∧ q = Po.nz ∧ ¬ (tOK (-mkRat k 4) p.t1 p.t2 ∧ tOK (mkRat w 4) (tN (-mkRat k 4) p.t1) (tN (-mkRat k 4) p.t2))) ∨ (e = 0 ∧ tOK (-mkRat k 4) p.t1 p.t2 ∧ tOK (mkRat w 4) (tN (-mkRat k 4) p.t1) (tN (-mkRat k 4) p.t2) ∧ q = ((p.grip (mkRat i 2) (mkRat j 2) (mkRat k 4)).put (mkRat u 2) (mkRat v 2) (mkRat w 4)).v ∧ ∃ T, T ≤ 625 ∧ PO (N * T) (7 * E2 + 20000) (64 * B) ((p.grip (mkRat i 2) (mkRat j 2) (mkRat k 4)).put (mkRat u 2) (mkRat v 2) (mkRat w 4)))) ∧
    ∀ lo h, callVL vp lo n_carry_Carry [.agg p.v, .agg (frv (rv (mkRat i 2)) (rv (mkRat j 2)) (rv (mkRat k 4))), .agg (frv (rv (mkRat u 2)) (rv (mkRat v 2)) (rv (mkRat w 4)))] h = some (.tup [.agg q, .int .i64 e], h) := by
  obtain ⟨s1, s2⟩ := grip_at po hi hj hk hA (by omega) (by omega) (by omega)
  by_cases hc : tOK (-mkRat k 4) p.t1 p.t2
  · simp only [if_pos hc] at s1
    obtain ⟨T, t0, t25, po2⟩ := s2 hc
    have hNT : N * T ≤ 15625 := Nat.le_trans (Nat.mul_le_mul hN t25) (by decide)
    obtain ⟨r1, r2⟩ := put_at po2 hu hv hw hA2 hNT hE (by omega)
    by_cases hd : tOK (mkRat w 4) (p.grip (mkRat i 2) (mkRat j 2) (mkRat k 4)).t1 (p.grip (mkRat i 2) (mkRat j 2) (mkRat k 4)).t2
    · simp only [if_pos hd] at r1
      obtain ⟨T', t0', t25', po3⟩ := r2 hd
      have := Carry_of (p := p) (r := p) frv_x frv_x ⟨_, .inl rfl⟩ ⟨_, .inl rfl⟩ s1 (fun _ => r1)
      refine ⟨_, _, .inr ⟨rfl, hc, hd, rfl, T * T', Nat.le_trans (Nat.mul_le_mul t25 t25') (by decide), ?_⟩, this⟩
      rw [← Nat.mul_assoc, show 64 * B = 8 * (8 * B) by omega]
      exact po3
    · simp only [if_neg hd] at r1
      have := Carry_of (p := p) (r := p) frv_x frv_x ⟨_, .inl rfl⟩ ⟨p, .inr rfl⟩ s1 (fun _ => r1)
      exact ⟨_, _, .inl ⟨rfl, rfl, fun h => hd h.2⟩, this⟩
  · simp only [if_neg hc] at s1
    have := Carry_of (p := p) (r := p) (qv := Po.nz) (e' := 18) frv_x (frv_x (u := mkRat u 2) (v := mkRat v 2) (w := mkRat w 4)) ⟨p, .inr rfl⟩ ⟨p, .inr rfl⟩ s1 (fun h => absurd h (by decide))
    exact ⟨_, _, .inl ⟨rfl, rfl, fun h => hc h.1⟩, this⟩
/-- A point in a box. -/
def Po.B (p : Po) (x y : Rat) : Prop := (p.x1 ≤ x ∧ x ≤ p.x2) ∧ (p.y1 ≤ y ∧ y ≤ p.y2)
theorem grip_in {p : Po} {x y gx gy gt : Rat} (h : p.B x y) : (p.grip gx gy gt).B (cosF (-gt * -gt) * (x - gx) - sinF (-gt) * (y - gy)) (sinF (-gt) * (x - gx) + cosF (-gt * -gt) * (y - gy)) := by
  obtain ⟨⟨h1, h2⟩, h3, h4⟩ := h
  exact rot_in (by grind) (by grind) (by grind) (by grind)
theorem put_in {p : Po} {x y gx gy gt : Rat} (h : p.B x y) : (p.put gx gy gt).B (cosF (gt * gt) * x - sinF gt * y + gx) (sinF gt * x + cosF (gt * gt) * y + gy) := by
  obtain ⟨⟨h1, h2⟩, h3, h4⟩ := h
  have := rot_in (t := gt) h1 h2 h3 h4
  unfold Po.put Po.B
  generalize cosF (gt * gt) * x - sinF gt * y = X at *
  generalize sinF gt * x + cosF (gt * gt) * y = Y at *
  obtain ⟨⟨a1, a2⟩, a3, a4⟩ := this
  exact ⟨⟨by simp only []; grind, by simp only []; grind⟩, by simp only []; grind, by simp only []; grind⟩
end Vg.G3
namespace Vg.G3
open Go Lg Vg.Nm
set_option linter.unusedSimpArgs false
set_option linter.unusedVariables false
set_option maxRecDepth 10000
set_option maxHeartbeats 4000000
attribute [local congr] bind_congr1
-- nothing

end Vg.G3
