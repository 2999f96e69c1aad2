/- Functions of the library,for every element's type. -/
import Derived.Test.YtpoofafddbcnpaaVVgEv
namespace Vg
open Go Lg
set_option linter.unusedSimpArgs false
set_option maxRecDepth 10000
attribute [local congr] bind_congr1

theorem cloneM_call {p : VProg} {f : FuncId} {pu : Bool} {es bytes lo : Nat} {rows : List (List VV)} {h : VHeap} (hp : p f = some ⟨cloneM false es bytes,pu,false,true⟩) (hr : rows.all (fun x => decide (x.length = es)) = true) (hs : rows.flatten.all scal = true) (hb : (rows.length + 512) * bytes ≤ 140737488355328) (hlo : lo ≤ h.length) :
    callVL p lo f [.list .s rows] h = some (if rows = [] then (.list .f [],h) else (.hs (h.length + 1) 0 rows.length es,h ++ [.dead,.cells true rows.flatten])) := by
  have key := call_body (p := p) (lo := lo) (h := h) (f := f) (fn := ⟨cloneM false es bytes,pu,false,true⟩) (args := [.list .s rows]) (P := fun r => r = if rows = [] then (.list .f [],h) else (.hs (h.length + 1) 0 rows.length es,h ++ [.dead,.cells true rows.flatten])) hp (.inr rfl) rfl ?_
  · obtain ⟨r,hr,rfl⟩ := key; exact hr
  have hsh := scals_show hs
  cases rows with
  | nil => simp -implicitDefEqProofs only [cloneM,cloneC,go_sem,↓reduceIte,reduceCtorEq,Int.reduceLT,Int.reduceLE,Int.reduceToNat,Nat.reduceAdd,Nat.reduceMul,Nat.reduceLeDiff,Nat.reduceLT,Nat.reduceSub,Int.reduceNeg,Int.reduceEq,Int.reduceBEq,Int.reduceBNe,Nat.reduceEqDiff]
  | cons r rows =>
    have h0 : ¬ (((rows.length + 1 : Nat) : Int) = 0) := by omega
    have hb' : (rows.length + 1 + 512) * bytes ≤ 140737488355328 := hb
    have hg : (h ++ [VBlk.cells true ([] : List VV)])[h.length]? = some (.cells true []) := List.getElem?_concat_length
    have hst : (h ++ [VBlk.cells true ([] : List VV)]).set h.length .dead = h ++ [.dead] := by rw [List.set_append_right _ _ (Nat.le_refl _),Nat.sub_self]; rfl
    simp only [List.all_cons,Bool.and_eq_true,decide_eq_true_eq] at hr
    simp -implicitDefEqProofs only [cloneM,cloneC,go_sem,↓reduceIte,reduceCtorEq,Int.reduceLT,Int.reduceLE,Int.reduceToNat,Nat.reduceAdd,Nat.reduceMul,Nat.reduceLeDiff,Nat.reduceLT,Nat.reduceSub,Int.reduceNeg,Int.reduceEq,Int.reduceBEq,Int.reduceBNe,Nat.reduceEqDiff,h0,hr.1,hr.2,hlo,hb',hg,hst,List.length_append,List.append_assoc]
    rw [hsh]
end Vg
