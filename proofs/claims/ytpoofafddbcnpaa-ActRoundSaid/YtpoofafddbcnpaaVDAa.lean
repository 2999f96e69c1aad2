import Derived.Test.YtpoofafddbcnpaaVG3
import Derived.Test.YtpoofafddbcnpaaVVgRows
namespace Vg.G3
open Go Lg
set_option linter.unusedSimpArgs false
set_option maxRecDepth 10000
set_option maxHeartbeats 2000000
attribute [local congr] bind_congr1
attribute [local go_sem] gantmake_Below_r0 gantmake_Below_r1 gantmake_Below_r2 gantmake_Below_r3 gantmake_Below_r4 gantmake_Below_f gantmake_Below_v gantmake_Stream_Next_r0 gantmake_Stream_Next_r1 gantmake_Stream_Next_r2 gantmake_Stream_Next_r3 gantmake_Stream_Next_r4 gantmake_Stream_Next_r5 gantmake_Stream_Next_f gantmake_Stream_Next_v

def belowP (x n : Int) : Int := if x.tmod n < 0 then IntKind.i64.wrap (x.tmod n + n) else x.tmod n
theorem Below_spec (x n : Int) (hn : 0 < n) (lo : Nat) (h : VHeap) : callVL vp lo n_gantmake_Below [.int .i64 x,.int .i64 n] h = some (.int .i64 (belowP x n),h) := by
  have h0 : n ≠ 0 := by omega
  refine call_valE (fn := gantmake_Below_v) rfl rfl rfl rfl rfl ?_ lo h
  simp -implicitDefEqProofs only [go_sem,↓reduceIte,reduceCtorEq,Int.reduceLT,Int.reduceLE,Int.reduceToNat,Nat.reduceAdd,Nat.reduceMul,Nat.reduceLeDiff,Nat.reduceLT,Nat.reduceSub,Int.reduceNeg,Int.reduceEq,Int.reduceBEq,Int.reduceBNe,Nat.reduceEqDiff,h0,belowP]
  split <;> exact ⟨_,rfl,rfl⟩
theorem belowP_bnd (x n : Int) (hn : 0 < n) (hn' : n < 4611686018427387904) : 0 ≤ belowP x n ∧ belowP x n < n := by
  unfold belowP
  have h1 := Int.tmod_lt_of_pos x hn
  have h2 : -n < x.tmod n := by
    rcases Int.le_total 0 x with h | h
    · have := Int.tmod_nonneg n h; omega
    · have h2 := Int.tmod_lt_of_pos (-x) hn
      rw [Int.neg_tmod] at h2; omega
  split
  · rw [wrap_id (by omega) (by omega)]; omega
  · omega

/-- The next number of a stream,and the rest. -/
def nxt (xs : List Int) (n : Int) : Int × List Int := match xs with
  | [] => (0,[])
  | x :: r => if n < 1 then (0,x :: r) else (belowP x n,r)
theorem nxt_bnd (xs : List Int) (n : Int) (hn : 1 ≤ n) (hn' : n < 4611686018427387904) : 0 ≤ (nxt xs n).1 ∧ (nxt xs n).1 < n := by
  cases xs with
  | nil => exact ⟨Int.le_refl _,by simp only [nxt]; omega⟩
  | cons x r => simp only [nxt]; rw [if_neg (by omega)]; exact belowP_bnd x n (by omega) hn'
abbrev strm (xs : List Int) : VBlk := .cells true [ints xs]
theorem Next_spec {lo s : Nat} {h : VHeap} {xs : List Int} (n : Int) (hlo : lo ≤ s) (hs : h[s]? = some (strm xs)) : callVL vp lo n_gantmake_Stream_Next [.ptr s 0,.int .i64 n] h = some (.int .i64 (nxt xs n).1,h.set s (strm (nxt xs n).2)) := by
  have key := call_body (p := vp) (lo := lo) (h := h) (f := n_gantmake_Stream_Next) (fn := gantmake_Stream_Next_v) (args := [.ptr s 0,.int .i64 n]) (P := fun r => r = (.int .i64 (nxt xs n).1,h.set s (strm (nxt xs n).2))) rfl (.inl rfl) rfl ?_
  · obtain ⟨r,hr,rfl⟩ := key; exact hr
  have hlt := lt_of_some hs
  cases xs with
  | nil =>
    simp only [ints,strm,List.map_nil] at hs
    simp -implicitDefEqProofs only [go_sem,↓reduceIte,reduceCtorEq,Int.reduceLT,Int.reduceLE,Int.reduceToNat,Nat.reduceAdd,Nat.reduceMul,Nat.reduceLeDiff,Nat.reduceLT,Nat.reduceSub,Int.reduceNeg,Int.reduceEq,Int.reduceBEq,Int.reduceBNe,Nat.reduceEqDiff,hs,nxt,strm,ints]
    rw [set_same hs]
  | cons x r =>
    simp only [ints,strm,List.map_cons] at hs
    have ha := all_len (F := fun x => [VV.int .i64 x]) (es := 1) (fun _ => rfl) r
    by_cases hn : n < 1
    · simp -implicitDefEqProofs only [go_sem,↓reduceIte,reduceCtorEq,Int.reduceLT,Int.reduceLE,Int.reduceToNat,Nat.reduceAdd,Nat.reduceMul,Nat.reduceLeDiff,Nat.reduceLT,Nat.reduceSub,Int.reduceNeg,Int.reduceEq,Int.reduceBEq,Int.reduceBNe,Nat.reduceEqDiff,hs,hn,nxt,strm,ints]
      rw [set_same hs]
    · have hB := fun lo h => Below_spec x n (by omega) lo h
      simp -implicitDefEqProofs only [go_sem,↓reduceIte,reduceCtorEq,Int.reduceLT,Int.reduceLE,Int.reduceToNat,Nat.reduceAdd,Nat.reduceMul,Nat.reduceLeDiff,Nat.reduceLT,Nat.reduceSub,Int.reduceNeg,Int.reduceEq,Int.reduceBEq,Int.reduceBNe,Nat.reduceEqDiff,hs,hn,ha,hlo,hB,nxt,strm,ints]
end Vg.G3
