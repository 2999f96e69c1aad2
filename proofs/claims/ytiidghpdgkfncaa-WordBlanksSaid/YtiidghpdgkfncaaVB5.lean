import Derived.Test.YtiidghpdgkfncaaVB4
namespace Vg.G2
open Go Lg
set_option linter.unusedSimpArgs false
set_option maxRecDepth 10000
set_option maxHeartbeats 1000000
attribute [local congr] bind_congr1
-- nothing

/-- Words stand one behind another in a text. -/
def Pos (s : List UInt8) : Nat → List Wd → Prop
  | _,[] => True
  | e,w :: ws => e ≤ w.at_ ∧ w.at_ + w.text.length ≤ s.length ∧ (s.drop w.at_).take w.text.length = w.text ∧ Pos s (w.at_ + w.text.length) ws
theorem Pos.mono {s : List UInt8} {e e' : Nat} (h : e' ≤ e) : ∀ {ws : List Wd},Pos s e ws → Pos s e' ws
  | [],_ => trivial
  | _ :: _,hp => ⟨Nat.le_trans h hp.1,hp.2.1,hp.2.2.1,hp.2.2.2⟩
theorem rd_pos {s : List UInt8} : ∀ (n a : Nat) {ws : List Wd},a ≤ s.length → rd n a (s.drop a) = .ok ws → Pos s a ws ∧ ws.length ≤ n
  | 0,a,ws,ha,h => by simp only [rd] at h; cases h; exact ⟨trivial,by simp⟩
  | n + 1,a,ws,ha,h => by
    simp only [rd] at h
    split at h
    · cases h; exact ⟨trivial,by simp⟩
    · split at h
      · rename_i he
        obtain ⟨l1,l2⟩ := oneL_len he
        generalize (oneL (s.drop a)).2.1 = len at *
        generalize (oneL (s.drop a)).1 = kd at *
        rw [List.length_drop] at l2
        rw [List.drop_drop,List.drop_drop] at h
        have hsl2 := sk_le false (s.drop (a + len))
        rw [List.length_drop] at hsl2
        cases hx : rd n (a + len + sk false (s.drop (a + len))) (s.drop (a + len + sk false (s.drop (a + len)))) with
        | error e => rw [hx] at h; cases h
        | ok us =>
          rw [hx] at h
          cases h
          obtain ⟨h1,h2⟩ := rd_pos n _ (by omega) hx
          have hle : ((s.drop a).take len).length = len := by rw [List.length_take,List.length_drop]; omega
          refine ⟨⟨Nat.le_refl _,?_,?_,?_⟩,by simp; omega⟩
          · simp only [hle]; omega
          · simp only [hle]
          · simp only [hle]; exact h1.mono (by omega)
      · cases h
theorem map_err {α β : Type} {x : Except Int α} {f : α → β} {e : Int} (h : x.map f = .error e) : x = .error e := by cases x <;> cases h; rfl
theorem rd_err : ∀ (n a : Nat) (r : List UInt8) {e : Int},rd n a r = .error e → e ≠ 0
  | 0,_,_,_,h => by cases h
  | n + 1,a,r,e,h => by
    simp only [rd] at h
    split at h
    · cases h
    · split at h
      · exact rd_err _ _ _ (map_err h)
      · rename_i he; cases h; exact he
theorem readF_pos {s : List UInt8} {ws : List Wd} (h : readF s = .ok ws) : s.length ≤ 4096 ∧ Pos s 0 ws ∧ ws.length ≤ 4096 := by
  unfold readF at h
  split at h
  · cases h
  · rename_i hs
    obtain ⟨h1,h2⟩ := rd_pos _ _ (sk_le false s) h
    exact ⟨by omega,h1.mono (Nat.zero_le _),by omega⟩

end Vg.G2
