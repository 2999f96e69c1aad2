import Derived.Test.YtiidghpdgkfncaaVB6
import Derived.Test.YtiidghpdgkfncaaVBW
namespace Vg.G2
open Go Lg
set_option linter.unusedSimpArgs false
set_option maxRecDepth 10000
set_option maxHeartbeats 1000000
attribute [local congr] bind_congr1
attribute [local go_sem] slices_Equal_gantrywordWord_r0 slices_Equal_gantrywordWord_r1 slices_Equal_gantrywordWord_r2 slices_Equal_gantrywordWord_r3 slices_Equal_gantrywordWord_r4 slices_Equal_gantrywordWord_r5 slices_Equal_gantrywordWord_r6 slices_Equal_gantrywordWord_r6_d slices_Equal_gantrywordWord_r7 slices_Equal_gantrywordWord_r8 slices_Equal_gantrywordWord_r9 slices_Equal_gantrywordWord_f slices_Equal_gantrywordWord_v

theorem EqualW_spec (A B : List Wd) (hAB : A = B) (hl : A.length < 1000000) (lo : Nat) (h : VHeap) : callVL vp lo n_slices_Equal_gantrywordWord [.list .s (A.map fW),.list .s (B.map fW)] h = some (.bool true,h) := by
  subst hAB
  refine call_valE (fn := slices_Equal_gantrywordWord_v) rfl rfl rfl rfl rfl ?_ lo h
  obtain ⟨P,hP⟩ : ∃ P : VV → Prop,P = fun w : VV => w = .bool true := ⟨_,rfl⟩
  have hP1 : P (.bool true) := by subst hP; rfl
  have hP2 : (fun r : VV × VHeap => r.1 = .bool true) = fun r => P r.1 := by subst hP; rfl
  rw [hP2]
  clear hP hP2
  simp -implicitDefEqProofs only [go_sem,↓reduceIte,reduceCtorEq,Int.reduceLT,Int.reduceLE,Int.reduceToNat,Nat.reduceAdd,Nat.reduceMul,Nat.reduceLeDiff,Nat.reduceLT,Nat.reduceSub,Int.reduceNeg,Int.reduceEq,Int.reduceBEq,Int.reduceBNe,Nat.reduceEqDiff]
  rw [Sat_bind]
  refine loop_up (I := fun i env h => env = [.list .s (A.map fW),.list .s (A.map fW),.undef,.undef,.undef,.undef,.undef,.undef,.undef,.undef,.undef,.undef,.int .i64 A.length,.int .i64 i,.undef,.undef,.undef,.undef,.undef,.undef,.undef,.undef,.undef,.undef,.undef,.undef] ∧ h = []) A.length ?_ ?_ (Nat.zero_le _) ⟨by simp -implicitDefEqProofs only [go_sem,↓reduceIte,reduceCtorEq,Int.reduceLT,Int.reduceLE,Int.reduceToNat,Nat.reduceAdd,Nat.reduceMul,Nat.reduceLeDiff,Nat.reduceLT,Nat.reduceSub,Int.reduceNeg,Int.reduceEq,Int.reduceBEq,Int.reduceBNe,Nat.reduceEqDiff],rfl⟩
  · rintro i env h hi ⟨rfl,rfl⟩
    obtain ⟨x,hx⟩ := get_some hi
    have hi' : (i : Int) < (A.length : Int) := by omega
    have hw := wrap_succ (i := i) (by omega)
    have hg := get_map (F := fW) hx
    simp only [fW] at hg
    simp -implicitDefEqProofs only [slices_Equal_gantrywordWord_b0,go_sem,↓reduceIte,reduceCtorEq,Int.reduceLT,Int.reduceLE,Int.reduceToNat,Nat.reduceAdd,Nat.reduceMul,Nat.reduceLeDiff,Nat.reduceLT,Nat.reduceSub,Int.reduceNeg,Int.reduceEq,Int.reduceBEq,Int.reduceBNe,Nat.reduceEqDiff,hi',hg,hw]
  · rintro env h ⟨rfl,rfl⟩
    simp -implicitDefEqProofs only [slices_Equal_gantrywordWord_b0,go_sem,↓reduceIte,reduceCtorEq,Int.reduceLT,Int.reduceLE,Int.reduceToNat,Nat.reduceAdd,Nat.reduceMul,Nat.reduceLeDiff,Nat.reduceLT,Nat.reduceSub,Int.reduceNeg,Int.reduceEq,Int.reduceBEq,Int.reduceBNe,Nat.reduceEqDiff,Int.lt_irrefl]
    exact hP1

theorem Pos.len {s : List UInt8} : ∀ {e : Nat} {ws : List Wd},Pos s e ws → ∀ w ∈ ws,w.text.length ≤ s.length
  | _,[],_,w,hw => by simp at hw
  | e,u :: ws,hp,w,hw => by
    rcases List.mem_cons.1 hw with rfl | hw
    · have := hp.2.1; omega
    · exact Pos.len hp.2.2.2 w hw
end Vg.G2
