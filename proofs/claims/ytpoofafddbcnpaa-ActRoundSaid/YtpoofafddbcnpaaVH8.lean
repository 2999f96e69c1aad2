import Derived.Test.YtpoofafddbcnpaaVDAa
import Derived.Test.YtpoofafddbcnpaaVH7
namespace Vg.G3
open Go Lg
set_option linter.unusedSimpArgs false
set_option linter.unusedVariables false
set_option maxRecDepth 10000
set_option maxHeartbeats 4000000
attribute [local congr] bind_congr1
attribute [local go_sem] slices_Reverse_bytebyte_r0 slices_Reverse_bytebyte_r1 slices_Reverse_bytebyte_r2 slices_Reverse_bytebyte_r2_d slices_Reverse_bytebyte_r3 slices_Reverse_bytebyte_f slices_Reverse_bytebyte_v gantmake_digits_r0 gantmake_digits_r1 gantmake_digits_r2 gantmake_digits_r3 gantmake_digits_r4 gantmake_digits_r5 gantmake_digits_r6 gantmake_digits_f gantmake_digits_v gantmake_Of_r0 gantmake_Of_r1 gantmake_Of_r2 gantmake_Of_r3 gantmake_Of_r3_d gantmake_Of_r4 gantmake_Of_r4_d gantmake_Of_r5 gantmake_Of_f gantmake_Of_v gantkeep4_Small_r0 gantkeep4_Small_r1 gantkeep4_Small_r2 gantkeep4_Small_r3 gantkeep4_Small_r4 gantkeep4_Small_r5 gantkeep4_Small_r6 gantkeep4_Small_r6_d gantkeep4_Small_r7 gantkeep4_Small_r8 gantkeep4_Small_r9 gantkeep4_Small_r10 gantkeep4_Small_r11 gantkeep4_Small_r11_d gantkeep4_Small_r12 gantkeep4_Small_r13 gantkeep4_Small_r14 gantkeep4_Small_r15 gantkeep4_Small_r16 gantkeep4_Small_r16_d gantkeep4_Small_r17 gantkeep4_Small_r18 gantkeep4_Small_f gantkeep4_Small_v
theorem next_at1 {lo : Nat} (hlo : lo ≤ 1) (a : VBlk) (t : VHeap) (n : Int) (ys : List Int) : callVL vp lo n_gantmake_Stream_Next [.ptr 1 0,.int .i64 n] (a :: .cells true [.list .s (ys.map fun x => [.int .i64 x])] :: t) = some (.int .i64 (nxt ys n).1,a :: .cells true [.list .s ((nxt ys n).2.map fun x => [.int .i64 x])] :: t) := by
  have := Next_spec (lo := lo) (s := 1) (h := a :: strm ys :: t) (xs := ys) n hlo rfl
  simpa [strm,ints] using this
theorem digits_small {n : Int} (h0 : 0 < n) (h1 : n < 256) (lo : Nat) (h : VHeap) : callVL vp lo n_gantmake_digits [.int .i64 n] h = some (.str [UInt8.ofNat n.toNat],h) := by
  refine call_valE (fn := gantmake_digits_v) rfl rfl rfl rfl rfl ?_ lo h
  have hR : ∀ h : VHeap,callVL vp 0 n_slices_Reverse_bytebyte [.list .s [[.int .u8 n]]] h = some (.tup [],h) := by
    intro h
    refine call_valE (fn := slices_Reverse_bytebyte_v) rfl rfl rfl rfl rfl ?_ 0 h
    have hw : IntKind.i64.wrap (1 - 1) = 0 := by decide
    simp -implicitDefEqProofs only [slices_Reverse_bytebyte_b0,go_sem,↓reduceIte,reduceCtorEq,Int.reduceLT,Int.reduceLE,Int.reduceToNat,Nat.reduceAdd,Nat.reduceMul,Nat.reduceLeDiff,Nat.reduceLT,Nat.reduceSub,Int.reduceNeg,Int.reduceEq,Int.reduceBEq,Int.reduceBNe,Nat.reduceEqDiff,hw,loopV_eq,↓thenV_norm,↓thenV_exit,↓thenV_ret,Int.lt_irrefl]
  have hm : n.tmod 256 = n := by rw [Int.tmod_eq_emod_of_nonneg (by omega)]; omega
  have hd : IntKind.i64.wrap (n.tdiv 256) = 0 := by rw [Int.tdiv_eq_ediv_of_nonneg (by omega),show n / 256 = 0 by omega]; decide
  have hu : IntKind.u8.wrap n = n := by
    have : IntKind.u8.wrap n = n % 256 := by simp [IntKind.wrap,IntKind.signed,IntKind.bits]
    rw [this]; omega
  simp -implicitDefEqProofs only [gantmake_digits_b0,go_sem,↓reduceIte,reduceCtorEq,Int.reduceLT,Int.reduceLE,Int.reduceToNat,Nat.reduceAdd,Nat.reduceMul,Nat.reduceLeDiff,Nat.reduceLT,Nat.reduceSub,Int.reduceNeg,Int.reduceEq,Int.reduceBEq,Int.reduceBNe,Nat.reduceEqDiff,loopV_eq,↓thenV_norm,↓thenV_exit,↓thenV_ret,h0,hm,hd,hu,hR,Int.lt_irrefl,bytesOf,isSl,List.flatten_cons,List.flatten_nil,sc_int]
theorem Of14_spec (lo : Nat) (h : VHeap) : callVL vp lo n_gantmake_Of [.int .i64 1,.int .i64 4] h = some (.agg [.bool false,.str [1],.str [4]],h) := by
  refine call_valE (fn := gantmake_Of_v) rfl rfl rfl rfl rfl ?_ lo h
  have h1 := digits_small (n := 1) (by omega) (by omega)
  have h4 := digits_small (n := 4) (by omega) (by omega)
  have e1 : UInt8.ofNat (Int.toNat 1) = 1 := by decide
  have e4 : UInt8.ofNat (Int.toNat 4) = 4 := by decide
  rw [e1] at h1
  rw [e4] at h4
  have m1 : max (1 : Int) (IntKind.i64.wrap (0 - 1)) = 1 := by decide
  have t1 : (1 : Int).tmod 4 = 1 := by decide
  have t2 : (4 : Int).tmod 1 = 0 := by decide
  have d1 : IntKind.i64.wrap ((1 : Int).tdiv 1) = 1 := by decide
  have d4 : IntKind.i64.wrap ((4 : Int).tdiv 1) = 4 := by decide
  simp -implicitDefEqProofs only [gantmake_Of_b0,go_sem,↓reduceIte,reduceCtorEq,Int.reduceLT,Int.reduceLE,Int.reduceToNat,Nat.reduceAdd,Nat.reduceMul,Nat.reduceLeDiff,Nat.reduceLT,Nat.reduceSub,Int.reduceNeg,Int.reduceEq,Int.reduceBEq,Int.reduceBNe,Nat.reduceEqDiff,loopV_eq,↓thenV_norm,↓thenV_exit,↓thenV_ret,h1,h4,m1,t1,t2,d1,d4,Int.lt_irrefl]
def armR (nm : List UInt8) : List VV := [.str nm,.bool false,.str [],.str [],.bool false,.str [],.str [],.bool false,.bool false,.str [],.str [],.list .s []]
def partR (nm : List UInt8) : List VV := [.str nm,.list .s [],.bool false,.str [],.str [],.bool false,.str [],.str [],.bool false,.bool false,.str [],.str []]
def slotR (nm : List UInt8) : List VV := [.str nm,.bool false,.str [],.str [],.bool false,.str [],.str [],.bool false,.bool false,.str [],.str [],.bool false,.str [1],.str [4]]
def armsR : List (List VV) := [armR [97,110,110],armR [98,111,98]]
def partsR : List (List VV) := [partR [98,111,108,116],partR [110,117,116]]
def slotsR : List (List VV) := [slotR [104,101,114,101],slotR [116,104,101,114,101]]
/-- A works with names only. -/
def smallV (a p s : Nat) : List VV := [.list .s (armsR.take a),.list .s [],.list .s (partsR.take p),.list .s (slotsR.take s),.list .s [],.bool false,.str [],.str []]
theorem Small_spec (xs : List Int) : ∃ a p s : Nat,1 ≤ a ∧ a ≤ 2 ∧ 1 ≤ p ∧ p ≤ 2 ∧ 1 ≤ s ∧ s ≤ 2 ∧ ∀ lo h,callVL vp lo n_gantkeep4_Small [.list .s (xs.map fun x => [.int .i64 x])] h = some (.agg (smallV a p s),h) := by
  obtain ⟨P,hP⟩ : ∃ P : VV → Prop,P = fun w : VV => ∃ a p s : Nat,1 ≤ a ∧ a ≤ 2 ∧ 1 ≤ p ∧ p ≤ 2 ∧ 1 ≤ s ∧ s ≤ 2 ∧ w = .agg (smallV a p s) := ⟨_,rfl⟩
  have key := call_val (p := vp) (f := n_gantkeep4_Small) (fn := gantkeep4_Small_v) (args := [.list .s (xs.map fun x => [.int .i64 x])]) (P := P) rfl rfl rfl rfl rfl ?_
  · obtain ⟨v,hv,hc⟩ := key; subst hP; obtain ⟨a,p,s,h1,h2,h3,h4,h5,h6,rfl⟩ := hv; exact ⟨a,p,s,h1,h2,h3,h4,h5,h6,hc⟩
  have hP1 : ∀ a p s : Nat,1 ≤ a → a ≤ 2 → 1 ≤ p → p ≤ 2 → 1 ≤ s → s ≤ 2 → P (.agg (smallV a p s)) := fun a p s h1 h2 h3 h4 h5 h6 => by subst hP; exact ⟨a,p,s,h1,h2,h3,h4,h5,h6,rfl⟩
  clear hP
  have hN := fun lo (hlo : lo ≤ 1) => next_at1 hlo
  have hO := Of14_spec
  have b1 := nxt_bnd xs 2 (by omega) (by omega)
  have w1 : IntKind.i64.wrap (1 + (nxt xs 2).1) = 1 + (nxt xs 2).1 := wrap_id (by omega) (by omega)
  simp -implicitDefEqProofs only [go_sem,↓reduceIte,reduceCtorEq,Int.reduceLT,Int.reduceLE,Int.reduceToNat,Nat.reduceAdd,Nat.reduceMul,Nat.reduceLeDiff,Nat.reduceLT,Nat.reduceSub,Int.reduceNeg,Int.reduceEq,Int.reduceBEq,Int.reduceBNe,Nat.reduceEqDiff,hN,w1]
  generalize (nxt xs 2).2 = ys0 at *
  generalize hn : (1 + (nxt xs 2).1) = n at *
  have hnn : ((n.toNat : Nat) : Int) = n := Int.toNat_of_nonneg (by omega)
  generalize hA : n.toNat = A at *
  have hA1 : 1 ≤ A ∧ A ≤ 2 := by omega
  clear hn w1 b1
  subst hnn
  rw [Sat_bind]
  refine loop_up (I := fun i env h => env = (VV.undef :: VV.undef :: (.ptr 0 0 : VV) :: (.ptr 1 0 : VV) :: (.ptr 2 0 : VV) :: VV.undef :: VV.undef :: VV.undef :: VV.undef :: VV.undef :: VV.undef :: VV.undef :: VV.undef :: (.int .i64 ((A : Nat) : Int) : VV) :: (.int .i64 ((i : Nat) : Int) : VV) :: VV.undef :: VV.undef :: VV.undef :: VV.undef :: VV.undef :: VV.undef :: VV.undef :: VV.undef :: VV.undef :: VV.undef :: VV.undef :: VV.undef :: VV.undef :: VV.undef :: VV.undef :: VV.undef :: VV.undef :: VV.undef :: VV.undef :: VV.undef :: VV.undef :: VV.undef :: VV.undef :: VV.undef :: VV.undef :: VV.undef :: VV.undef :: VV.undef :: VV.undef :: VV.undef :: VV.undef :: VV.undef :: VV.undef :: VV.undef :: VV.undef :: VV.undef :: VV.undef :: VV.undef :: VV.undef :: VV.undef :: VV.undef :: VV.undef :: VV.undef :: VV.undef :: VV.undef :: VV.undef :: VV.undef :: VV.undef :: VV.undef :: []) ∧ h = [.cells true [.list .o [],.list .o [],.list .o [],.list .o [],.list .o [],.bool false,.str [],.str []],.cells true [.list .s (ys0.map fun x => [.int .i64 x])],.cells true [.list .o (armsR.take i),.list .o [],.list .o [],.list .o [],.list .o [],.bool false,.str [],.str []]]) A ?_ ?_ (Nat.zero_le _) ⟨by simp -implicitDefEqProofs only [go_sem,↓reduceIte,reduceCtorEq,Int.reduceLT,Int.reduceLE,Int.reduceToNat,Nat.reduceAdd,Nat.reduceMul,Nat.reduceLeDiff,Nat.reduceLT,Nat.reduceSub,Int.reduceNeg,Int.reduceEq,Int.reduceBEq,Int.reduceBNe,Nat.reduceEqDiff],by simp -implicitDefEqProofs only [go_sem,↓reduceIte,reduceCtorEq,Int.reduceLT,Int.reduceLE,Int.reduceToNat,Nat.reduceAdd,Nat.reduceMul,Nat.reduceLeDiff,Nat.reduceLT,Nat.reduceSub,Int.reduceNeg,Int.reduceEq,Int.reduceBEq,Int.reduceBNe,Nat.reduceEqDiff,List.take_zero]⟩
  · rintro i env h hi ⟨rfl,rfl⟩
    have hi2 : i = 0 ∨ i = 1 := by omega
    rcases hi2 with rfl | rfl
    · have g : (0 : Int) < ((A : Nat) : Int) := by omega
      have w : IntKind.i64.wrap (0 + 1) = 1 := by decide
      simp -implicitDefEqProofs only [gantkeep4_Small_b0,gantkeep4_Small_b1,gantkeep4_Small_b2,go_sem,↓reduceIte,reduceCtorEq,Int.reduceLT,Int.reduceLE,Int.reduceToNat,Nat.reduceAdd,Nat.reduceMul,Nat.reduceLeDiff,Nat.reduceLT,Nat.reduceSub,Int.reduceNeg,Int.reduceEq,Int.reduceBEq,Int.reduceBNe,Nat.reduceEqDiff,g,w,hO,armsR,partsR,slotsR,armR,partR,slotR]
    · have g : (1 : Int) < ((A : Nat) : Int) := by omega
      have w : IntKind.i64.wrap (1 + 1) = 2 := by decide
      simp -implicitDefEqProofs only [gantkeep4_Small_b0,gantkeep4_Small_b1,gantkeep4_Small_b2,go_sem,↓reduceIte,reduceCtorEq,Int.reduceLT,Int.reduceLE,Int.reduceToNat,Nat.reduceAdd,Nat.reduceMul,Nat.reduceLeDiff,Nat.reduceLT,Nat.reduceSub,Int.reduceNeg,Int.reduceEq,Int.reduceBEq,Int.reduceBNe,Nat.reduceEqDiff,g,w,hO,armsR,partsR,slotsR,armR,partR,slotR]
  · rintro env h ⟨rfl,rfl⟩
    have b1 := nxt_bnd ys0 2 (by omega) (by omega)
    have w1 : IntKind.i64.wrap (1 + (nxt ys0 2).1) = 1 + (nxt ys0 2).1 := wrap_id (by omega) (by omega)
    simp -implicitDefEqProofs only [gantkeep4_Small_b0,go_sem,↓reduceIte,reduceCtorEq,Int.reduceLT,Int.reduceLE,Int.reduceToNat,Nat.reduceAdd,Nat.reduceMul,Nat.reduceLeDiff,Nat.reduceLT,Nat.reduceSub,Int.reduceNeg,Int.reduceEq,Int.reduceBEq,Int.reduceBNe,Nat.reduceEqDiff,Int.lt_irrefl,hN,w1]
    generalize (nxt ys0 2).2 = ys0' at *
    generalize hn : (1 + (nxt ys0 2).1) = n at *
    have hnn : ((n.toNat : Nat) : Int) = n := Int.toNat_of_nonneg (by omega)
    generalize hB : n.toNat = B at *
    have hB1 : 1 ≤ B ∧ B ≤ 2 := by omega
    clear hn w1 b1
    subst hnn
    rw [Sat_bind]
    refine loop_up (I := fun i env h => env = (VV.undef :: VV.undef :: (.ptr 0 0 : VV) :: (.ptr 1 0 : VV) :: (.ptr 2 0 : VV) :: VV.undef :: VV.undef :: VV.undef :: VV.undef :: VV.undef :: VV.undef :: VV.undef :: VV.undef :: VV.undef :: VV.undef :: VV.undef :: VV.undef :: VV.undef :: VV.undef :: VV.undef :: VV.undef :: VV.undef :: VV.undef :: VV.undef :: VV.undef :: VV.undef :: VV.undef :: VV.undef :: VV.undef :: VV.undef :: (.int .i64 ((B : Nat) : Int) : VV) :: (.int .i64 ((i : Nat) : Int) : VV) :: VV.undef :: VV.undef :: VV.undef :: VV.undef :: VV.undef :: VV.undef :: VV.undef :: VV.undef :: VV.undef :: VV.undef :: VV.undef :: VV.undef :: VV.undef :: VV.undef :: VV.undef :: VV.undef :: VV.undef :: VV.undef :: VV.undef :: VV.undef :: VV.undef :: VV.undef :: VV.undef :: VV.undef :: VV.undef :: VV.undef :: VV.undef :: VV.undef :: VV.undef :: VV.undef :: VV.undef :: VV.undef :: []) ∧ h = [.cells true [.list .o [],.list .o [],.list .o [],.list .o [],.list .o [],.bool false,.str [],.str []],.cells true [.list .s (ys0'.map fun x => [.int .i64 x])],.cells true [.list .o (armsR.take A),.list .o [],.list .o (partsR.take i),.list .o [],.list .o [],.bool false,.str [],.str []]]) B ?_ ?_ (Nat.zero_le _) ⟨by simp -implicitDefEqProofs only [go_sem,↓reduceIte,reduceCtorEq,Int.reduceLT,Int.reduceLE,Int.reduceToNat,Nat.reduceAdd,Nat.reduceMul,Nat.reduceLeDiff,Nat.reduceLT,Nat.reduceSub,Int.reduceNeg,Int.reduceEq,Int.reduceBEq,Int.reduceBNe,Nat.reduceEqDiff],by simp -implicitDefEqProofs only [go_sem,↓reduceIte,reduceCtorEq,Int.reduceLT,Int.reduceLE,Int.reduceToNat,Nat.reduceAdd,Nat.reduceMul,Nat.reduceLeDiff,Nat.reduceLT,Nat.reduceSub,Int.reduceNeg,Int.reduceEq,Int.reduceBEq,Int.reduceBNe,Nat.reduceEqDiff,List.take_zero]⟩
    · rintro i env h hi ⟨rfl,rfl⟩
      have hi2 : i = 0 ∨ i = 1 := by omega
      rcases hi2 with rfl | rfl
      · have g : (0 : Int) < ((B : Nat) : Int) := by omega
        have w : IntKind.i64.wrap (0 + 1) = 1 := by decide
        simp -implicitDefEqProofs only [gantkeep4_Small_b0,gantkeep4_Small_b1,gantkeep4_Small_b2,go_sem,↓reduceIte,reduceCtorEq,Int.reduceLT,Int.reduceLE,Int.reduceToNat,Nat.reduceAdd,Nat.reduceMul,Nat.reduceLeDiff,Nat.reduceLT,Nat.reduceSub,Int.reduceNeg,Int.reduceEq,Int.reduceBEq,Int.reduceBNe,Nat.reduceEqDiff,g,w,hO,armsR,partsR,slotsR,armR,partR,slotR]
      · have g : (1 : Int) < ((B : Nat) : Int) := by omega
        have w : IntKind.i64.wrap (1 + 1) = 2 := by decide
        simp -implicitDefEqProofs only [gantkeep4_Small_b0,gantkeep4_Small_b1,gantkeep4_Small_b2,go_sem,↓reduceIte,reduceCtorEq,Int.reduceLT,Int.reduceLE,Int.reduceToNat,Nat.reduceAdd,Nat.reduceMul,Nat.reduceLeDiff,Nat.reduceLT,Nat.reduceSub,Int.reduceNeg,Int.reduceEq,Int.reduceBEq,Int.reduceBNe,Nat.reduceEqDiff,g,w,hO,armsR,partsR,slotsR,armR,partR,slotR]
    · rintro env h ⟨rfl,rfl⟩
      have b1 := nxt_bnd ys0' 2 (by omega) (by omega)
      have w1 : IntKind.i64.wrap (1 + (nxt ys0' 2).1) = 1 + (nxt ys0' 2).1 := wrap_id (by omega) (by omega)
      simp -implicitDefEqProofs only [gantkeep4_Small_b0,gantkeep4_Small_b1,go_sem,↓reduceIte,reduceCtorEq,Int.reduceLT,Int.reduceLE,Int.reduceToNat,Nat.reduceAdd,Nat.reduceMul,Nat.reduceLeDiff,Nat.reduceLT,Nat.reduceSub,Int.reduceNeg,Int.reduceEq,Int.reduceBEq,Int.reduceBNe,Nat.reduceEqDiff,Int.lt_irrefl,hN,w1]
      generalize (nxt ys0' 2).2 = ys0'' at *
      generalize hn : (1 + (nxt ys0' 2).1) = n at *
      have hnn : ((n.toNat : Nat) : Int) = n := Int.toNat_of_nonneg (by omega)
      generalize hC : n.toNat = C at *
      have hC1 : 1 ≤ C ∧ C ≤ 2 := by omega
      clear hn w1 b1
      subst hnn
      rw [Sat_bind]
      refine loop_up (I := fun i env h => env = (VV.undef :: VV.undef :: (.ptr 0 0 : VV) :: VV.undef :: (.ptr 2 0 : VV) :: VV.undef :: VV.undef :: VV.undef :: VV.undef :: VV.undef :: VV.undef :: VV.undef :: VV.undef :: VV.undef :: VV.undef :: VV.undef :: VV.undef :: VV.undef :: VV.undef :: VV.undef :: VV.undef :: VV.undef :: VV.undef :: VV.undef :: VV.undef :: VV.undef :: VV.undef :: VV.undef :: VV.undef :: VV.undef :: VV.undef :: VV.undef :: VV.undef :: VV.undef :: VV.undef :: VV.undef :: VV.undef :: VV.undef :: VV.undef :: VV.undef :: VV.undef :: VV.undef :: VV.undef :: VV.undef :: VV.undef :: VV.undef :: VV.undef :: (.int .i64 ((C : Nat) : Int) : VV) :: (.int .i64 ((i : Nat) : Int) : VV) :: VV.undef :: VV.undef :: VV.undef :: VV.undef :: VV.undef :: VV.undef :: VV.undef :: VV.undef :: VV.undef :: VV.undef :: VV.undef :: VV.undef :: VV.undef :: VV.undef :: VV.undef :: []) ∧ h = [.cells true [.list .o [],.list .o [],.list .o [],.list .o [],.list .o [],.bool false,.str [],.str []],.cells true [.list .s (ys0''.map fun x => [.int .i64 x])],.cells true [.list .o (armsR.take A),.list .o [],.list .o (partsR.take B),.list .o (slotsR.take i),.list .o [],.bool false,.str [],.str []]]) C ?_ ?_ (Nat.zero_le _) ⟨by simp -implicitDefEqProofs only [go_sem,↓reduceIte,reduceCtorEq,Int.reduceLT,Int.reduceLE,Int.reduceToNat,Nat.reduceAdd,Nat.reduceMul,Nat.reduceLeDiff,Nat.reduceLT,Nat.reduceSub,Int.reduceNeg,Int.reduceEq,Int.reduceBEq,Int.reduceBNe,Nat.reduceEqDiff],by simp -implicitDefEqProofs only [go_sem,↓reduceIte,reduceCtorEq,Int.reduceLT,Int.reduceLE,Int.reduceToNat,Nat.reduceAdd,Nat.reduceMul,Nat.reduceLeDiff,Nat.reduceLT,Nat.reduceSub,Int.reduceNeg,Int.reduceEq,Int.reduceBEq,Int.reduceBNe,Nat.reduceEqDiff,List.take_zero]⟩
      · rintro i env h hi ⟨rfl,rfl⟩
        have hi2 : i = 0 ∨ i = 1 := by omega
        rcases hi2 with rfl | rfl
        · have g : (0 : Int) < ((C : Nat) : Int) := by omega
          have w : IntKind.i64.wrap (0 + 1) = 1 := by decide
          simp -implicitDefEqProofs only [gantkeep4_Small_b0,gantkeep4_Small_b1,gantkeep4_Small_b2,go_sem,↓reduceIte,reduceCtorEq,Int.reduceLT,Int.reduceLE,Int.reduceToNat,Nat.reduceAdd,Nat.reduceMul,Nat.reduceLeDiff,Nat.reduceLT,Nat.reduceSub,Int.reduceNeg,Int.reduceEq,Int.reduceBEq,Int.reduceBNe,Nat.reduceEqDiff,g,w,hO,armsR,partsR,slotsR,armR,partR,slotR]
        · have g : (1 : Int) < ((C : Nat) : Int) := by omega
          have w : IntKind.i64.wrap (1 + 1) = 2 := by decide
          simp -implicitDefEqProofs only [gantkeep4_Small_b0,gantkeep4_Small_b1,gantkeep4_Small_b2,go_sem,↓reduceIte,reduceCtorEq,Int.reduceLT,Int.reduceLE,Int.reduceToNat,Nat.reduceAdd,Nat.reduceMul,Nat.reduceLeDiff,Nat.reduceLT,Nat.reduceSub,Int.reduceNeg,Int.reduceEq,Int.reduceBEq,Int.reduceBNe,Nat.reduceEqDiff,g,w,hO,armsR,partsR,slotsR,armR,partR,slotR]
      · rintro env h ⟨rfl,rfl⟩
        have := hP1 A B C hA1.1 hA1.2 hB1.1 hB1.2 hC1.1 hC1.2
        simp -implicitDefEqProofs only [gantkeep4_Small_b0,gantkeep4_Small_b1,gantkeep4_Small_b2,go_sem,↓reduceIte,reduceCtorEq,Int.reduceLT,Int.reduceLE,Int.reduceToNat,Nat.reduceAdd,Nat.reduceMul,Nat.reduceLeDiff,Nat.reduceLT,Nat.reduceSub,Int.reduceNeg,Int.reduceEq,Int.reduceBEq,Int.reduceBNe,Nat.reduceEqDiff,Int.lt_irrefl]
        simpa only [smallV] using this
end Vg.G3
