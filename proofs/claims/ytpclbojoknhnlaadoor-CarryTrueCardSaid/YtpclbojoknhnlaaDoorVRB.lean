import Derived.Test.YtpclbojoknhnlaaDoorVR9
namespace Vg.G3
open Go Lg Vg.Nm
set_option linter.unusedSimpArgs false
set_option linter.unusedVariables false
set_option maxRecDepth 10000
set_option maxHeartbeats 4000000
attribute [local congr] bind_congr1
-- nothing

theorem maxQ_le {a c x : Rat} : maxQ a c ≤ x ↔ a ≤ x ∧ c ≤ x := by
  unfold maxQ
  split
  · rename_i h; exact ⟨fun h1 => ⟨h1, Rat.le_trans h h1⟩, fun h1 => h1.1⟩
  · rename_i h
    have := Rat.le_of_lt (Rat.not_le.1 h)
    exact ⟨fun h1 => ⟨Rat.le_trans this h1, h1⟩, fun h1 => h1.2⟩
theorem le_minQ {b d x : Rat} : x ≤ minQ b d ↔ x ≤ b ∧ x ≤ d := by
  unfold minQ
  split
  · rename_i h; exact ⟨fun h1 => ⟨h1, Rat.le_trans h1 h⟩, fun h1 => h1.1⟩
  · rename_i h
    have := Rat.le_of_lt (Rat.not_le.1 h)
    exact ⟨fun h1 => ⟨Rat.le_trans h1 this, h1⟩, fun h1 => h1.2⟩
theorem le_max1 {a c : Rat} : a ≤ maxQ a c := (maxQ_le.1 Rat.le_refl).1
theorem le_max2 {a c : Rat} : c ≤ maxQ a c := (maxQ_le.1 Rat.le_refl).2
theorem min_le1 {b d : Rat} : minQ b d ≤ b := (le_minQ.1 Rat.le_refl).1
theorem min_le2 {b d : Rat} : minQ b d ≤ d := (le_minQ.1 Rat.le_refl).2
/-- A frame in a pose. -/
def Po.In (p : Po) (x y t : Rat) : Prop := ((p.x1 ≤ x ∧ x ≤ p.x2) ∧ (p.y1 ≤ y ∧ y ≤ p.y2)) ∧ (p.t1 ≤ t ∧ t ≤ p.t2)
theorem Po.has_iff {p : Po} {x y t : Rat} : p.has x y t = true ↔ p.In x y t := by unfold Po.has Po.In; simp only [Bool.and_eq_true, decide_eq_true_eq]
def Po.Sub (p q : Po) : Prop := ((q.x1 ≤ p.x1 ∧ p.x2 ≤ q.x2) ∧ (q.y1 ≤ p.y1 ∧ p.y2 ≤ q.y2)) ∧ (q.t1 ≤ p.t1 ∧ p.t2 ≤ q.t2)
theorem btw_in {k1 k2 n : Int} {D : Nat} (hD : D ≠ 0) (h : k1 ≤ k2) (h0 : 0 ≤ n) (h8 : n ≤ 8) : mkRat k1 D ≤ mkRat (btw k1 k2 n) (8 * D) ∧ mkRat (btw k1 k2 n) (8 * D) ≤ mkRat k2 D := by
  have b := btw_bnd h h0 h8
  have c8 : ((8 : Nat) : Int) = 8 := rfl
  rw [mk_scale (a := k1) (E := 8) hD (by decide), mk_scale (a := k2) (E := 8) hD (by decide), Nat.mul_comm D 8]
  exact ⟨mk_le (by omega) (by omega), mk_le (by omega) (by omega)⟩
theorem btw_sq {k1 k2 n : Int} {D : Nat} (hD : D ≠ 0) (hD' : D ≤ 100000) (h1 : -100000 ≤ k1) (h12 : k1 ≤ k2) (h2 : k2 ≤ 100000) (h0 : 0 ≤ n) (h8 : n ≤ 8) : SQ (mkRat (btw k1 k2 n) (8 * D)) := by
  have b := btw_bnd h12 h0 h8
  exact mk_sq (by omega) (by omega) (by omega)
theorem PD.ok {D : Nat} {p : Po} {x1 x2 y1 y2 t1 t2 : Int} (g : PD D p x1 x2 y1 y2 t1 t2) : p.ok := by
  have e := g.eq
  have h0 := g.d0
  have h1 := g.d1
  have ax := g.lx; have bx := g.x; have cx := g.hx
  have ay := g.ly; have byy := g.y; have cy := g.hy
  have aT := g.lt; have bT := g.t; have cT := g.ht
  subst e
  exact ⟨mk_sp ax bx cx h0 (by omega), mk_sp ay byy cy h0 (by omega), mk_sp aT bT cT h0 (by omega)⟩
/-- A frame within a pose: what Within gives. -/
theorem Within_in {D : Nat} {p : Po} {x1 x2 y1 y2 t1 t2 : Int} (g : PD D p x1 x2 y1 y2 t1 t2) (ys : List Int) : ∃ n1 n2 n3 : Int, 0 ≤ n1 ∧ n1 ≤ 8 ∧ 0 ≤ n2 ∧ n2 ≤ 8 ∧ 0 ≤ n3 ∧ n3 ≤ 8 ∧ (∀ lo h, callVL vp lo n_gantkeep4_Within [.agg p.v, .list .s (ys.map fun x => [.int .i64 x])] h = some (.agg (frv (rv (mkRat (btw x1 x2 n1) (8 * D))) (rv (mkRat (btw y1 y2 n2) (8 * D))) (rv (mkRat (btw t1 t2 n3) (8 * D)))), h)) ∧
    SQ (mkRat (btw x1 x2 n1) (8 * D)) ∧ SQ (mkRat (btw y1 y2 n2) (8 * D)) ∧ SQ (mkRat (btw t1 t2 n3) (8 * D)) ∧ p.In (mkRat (btw x1 x2 n1) (8 * D)) (mkRat (btw y1 y2 n2) (8 * D)) (mkRat (btw t1 t2 n3) (8 * D)) := by
  obtain ⟨n1, n2, n3, h1, h2, h3, h4, h5, h6, hc⟩ := Within_spec g ys
  refine ⟨n1, n2, n3, h1, h2, h3, h4, h5, h6, hc, btw_sq g.d0 g.d1 g.lx g.x g.hx h1 h2, btw_sq g.d0 g.d1 g.ly g.y g.hy h3 h4, btw_sq g.d0 g.d1 g.lt g.t g.ht h5 h6, ?_⟩
  have e := g.eq
  have r1 := btw_in g.d0 g.x h1 h2
  have r2 := btw_in g.d0 g.y h3 h4
  have r3 := btw_in g.d0 g.t h5 h6
  clear hc
  subst e
  exact ⟨⟨r1, r2⟩, r3⟩
theorem QP.pd {p : Po} (g : QP p) : ∃ x1 x2 y1 y2 t1 t2, PD 4 p x1 x2 y1 y2 t1 t2 ∧ -20 ≤ x1 ∧ x2 ≤ 26 ∧ -20 ≤ y1 ∧ y2 ≤ 26 ∧ -4 ≤ t1 ∧ t2 ≤ 10 := by
  obtain ⟨x1, x2, y1, y2, t1, t2, e, h1, h2, h3, _, h5, h6, h7, _, h9, h10, h11, _⟩ := g.ex
  exact ⟨x1, x2, y1, y2, t1, t2, ⟨e, by decide, by decide, by omega, h2, by omega, by omega, h6, by omega, by omega, h10, by omega⟩, h1, h3, h5, h7, h9, h11⟩
theorem frv_x {u v w : Rat} : ∃ b1 n1 d1 b2 n2 d2 b3 n3 d3, frv (rv u) (rv v) (rv w) = [.bool b1, .str n1, .str d1, .bool b2, .str n2, .str d2, .bool false, .bool b3, .str n3, .str d3] := ⟨_, _, _, _, _, _, _, _, _, rfl⟩
theorem Po.nz_x : Po.nz = [.bool false, .str [], .str [], .bool false, .str [], .str [], .bool false, .str [], .str [], .bool false, .str [], .str [], .bool false, .str [], .str [], .bool false, .str [], .str []] := rfl
end Vg.G3
namespace Vg.G3
open Go Lg Vg.Nm
set_option linter.unusedSimpArgs false
set_option linter.unusedVariables false
set_option maxRecDepth 10000
set_option maxHeartbeats 4000000
attribute [local congr] bind_congr1
-- nothing

def Po.wide (p : Po) (e t : Rat) : Po := ⟨p.x1 - e, p.x2 + e, p.y1 - e, p.y2 + e, p.t1 - t, p.t2 + t⟩
end Vg.G3
