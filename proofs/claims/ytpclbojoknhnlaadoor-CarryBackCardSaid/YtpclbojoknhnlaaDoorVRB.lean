import Derived.Test.YtpclbojoknhnlaaDoorVR9
namespace Vg.G3
open Go Lg Vg.Nm
set_option linter.unusedSimpArgs false
set_option linter.unusedVariables false
set_option maxRecDepth 10000
set_option maxHeartbeats 4000000
attribute [local congr] bind_congr1
-- nothing

theorem maxQ_le {a c x : Rat} : maxQ a c ≤ x ↔ a ≤ x ∧ c ≤ x := by
  unfold maxQ
  split
  · rename_i h; exact ⟨fun h1 => ⟨h1, Rat.le_trans h h1⟩, fun h1 => h1.1⟩
  · rename_i h
    have := Rat.le_of_lt (Rat.not_le.1 h)
    exact ⟨fun h1 => ⟨Rat.le_trans this h1, h1⟩, fun h1 => h1.2⟩
theorem le_minQ {b d x : Rat} : x ≤ minQ b d ↔ x ≤ b ∧ x ≤ d := by
  unfold minQ
  split
  · rename_i h; exact ⟨fun h1 => ⟨h1, Rat.le_trans h1 h⟩, fun h1 => h1.1⟩
  · rename_i h
    have := Rat.le_of_lt (Rat.not_le.1 h)
    exact ⟨fun h1 => ⟨Rat.le_trans h1 this, h1⟩, fun h1 => h1.2⟩
theorem le_max1 {a c : Rat} : a ≤ maxQ a c := (maxQ_le.1 Rat.le_refl).1
theorem le_max2 {a c : Rat} : c ≤ maxQ a c := (maxQ_le.1 Rat.le_refl).2
theorem min_le1 {b d : Rat} : minQ b d ≤ b := (le_minQ.1 Rat.le_refl).1
theorem min_le2 {b d : Rat} : minQ b d ≤ d := (le_minQ.1 Rat.le_refl).2
def Po.Sub (p q : Po) : Prop := ((q.x1 ≤ p.x1 ∧ p.x2 ≤ q.x2) ∧ (q.y1 ≤ p.y1 ∧ p.y2 ≤ q.y2)) ∧ (q.t1 ≤ p.t1 ∧ p.t2 ≤ q.t2)
theorem Po.inB_iff {p q : Po} : p.inB q = true ↔ p.Sub q := by unfold Po.inB Po.Sub; simp only [Bool.and_eq_true, decide_eq_true_eq]
theorem PD.ok {D : Nat} {p : Po} {x1 x2 y1 y2 t1 t2 : Int} (g : PD D p x1 x2 y1 y2 t1 t2) : p.ok := by
  have e := g.eq
  have h0 := g.d0
  have h1 := g.d1
  have ax := g.lx; have bx := g.x; have cx := g.hx
  have ay := g.ly; have byy := g.y; have cy := g.hy
  have aT := g.lt; have bT := g.t; have cT := g.ht
  subst e
  exact ⟨mk_sp ax bx cx h0 (by omega), mk_sp ay byy cy h0 (by omega), mk_sp aT bT cT h0 (by omega)⟩
theorem frv_x {u v w : Rat} : ∃ b1 n1 d1 b2 n2 d2 b3 n3 d3, frv (rv u) (rv v) (rv w) = [.bool b1, .str n1, .str d1, .bool b2, .str n2, .str d2, .bool false, .bool b3, .str n3, .str d3] := ⟨_, _, _, _, _, _, _, _, _, rfl⟩
theorem Po.nz_x : Po.nz = [.bool false, .str [], .str [], .bool false, .str [], .str [], .bool false, .str [], .str [], .bool false, .str [], .str [], .bool false, .str [], .str [], .bool false, .str [], .str []] := rfl
end Vg.G3
namespace Vg.G3
open Go Lg Vg.Nm
set_option linter.unusedSimpArgs false
set_option linter.unusedVariables false
set_option maxRecDepth 10000
set_option maxHeartbeats 4000000
attribute [local congr] bind_congr1
-- nothing

def Po.wide (p : Po) (e t : Rat) : Po := ⟨p.x1 - e, p.x2 + e, p.y1 - e, p.y2 + e, p.t1 - t, p.t2 + t⟩
end Vg.G3
