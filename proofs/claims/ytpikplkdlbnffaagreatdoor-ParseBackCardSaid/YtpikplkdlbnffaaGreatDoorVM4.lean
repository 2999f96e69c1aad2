import Derived.Test.YtpikplkdlbnffaaGreatDoorVH8
import Derived.Test.YtpikplkdlbnffaaGreatDoorVVgHeap
namespace Vg.G3
open Go Lg
set_option linter.unusedSimpArgs false
set_option linter.unusedVariables false

/-- A statement without blocks. -/
inductive Leaf where
  | put (p s d : Nat)
  | hold (p a : Nat)
  | free (a : Nat)
  | see (p : Nat)
  | wait (n : Nat)
mutual
/-- A statement. -/
inductive St where
  | leaf (l : Leaf)
  | blk (k n : Nat) (bs : Bs)
/-- Statements. -/
inductive Sl where
  | nil
  | cons (s : St) (l : Sl)
/-- Blocks. -/
inductive Bs where
  | nil
  | cons (l : Sl) (b : Bs)
end
def partN (i : Nat) : List UInt8 := if i = 0 then [98,111,108,116] else [110,117,116]
def armN (i : Nat) : List UInt8 := if i = 0 then [97,110,110] else [98,111,98]
def slotN (i : Nat) : List UInt8 := if i = 0 then [104,101,114,101] else [116,104,101,114,101]
def Leaf.kind : Leaf → Int
  | .put .. => 1
  | .hold .. => 2
  | .free _ => 3
  | .see _ => 4
  | .wait _ => 5
def Leaf.A : Leaf → List UInt8
  | .put p _ _ => partN p
  | .hold p _ => partN p
  | .free a => armN a
  | .see p => partN p
  | .wait _ => []
def Leaf.B : Leaf → List UInt8
  | .put _ s _ => slotN s
  | .hold _ a => armN a
  | _ => []
def Leaf.d : Leaf → Nat
  | .put _ _ d => d
  | _ => 0
def Leaf.n : Leaf → Int
  | .wait n => (n : Nat)
  | _ => 0
def wn (d : Nat) : List UInt8 := if d = 0 then [] else [1]
def wd (d : Nat) : List UInt8 := if d = 0 then [] else [UInt8.ofNat d]
def Leaf.row (l : Leaf) : List VV := [.int .i64 l.kind,.str l.A,.str l.B,.bool false,.str (wn l.d),.str (wd l.d),.int .i64 l.n,.list .s []]
mutual
def St.row : St → List VV
  | .leaf l => l.row
  | .blk k n bs => [.int .i64 (k : Nat),.str [],.str [],.bool false,.str [],.str [],.int .i64 (n : Nat),.list .s bs.rows]
def Sl.rows : Sl → List (List VV)
  | .nil => []
  | .cons s l => s.row :: l.rows
def Bs.rows : Bs → List (List VV)
  | .nil => []
  | .cons l b => [.list .s l.rows] :: b.rows
end
def Sl.len : Sl → Nat
  | .nil => 0
  | .cons _ l => l.len + 1
def Bs.len : Bs → Nat
  | .nil => 0
  | .cons _ b => b.len + 1
def Sl.list : Sl → List St
  | .nil => []
  | .cons s l => s :: l.list
def Bs.list : Bs → List Sl
  | .nil => []
  | .cons l b => l :: b.list
theorem Sl.rows_eq : (l : Sl) → l.rows = l.list.map St.row
  | .nil => rfl
  | .cons s l => by simp only [Sl.rows,Sl.list,List.map_cons,Sl.rows_eq l]
theorem Bs.rows_eq : (b : Bs) → b.rows = b.list.map fun l => [.list .s l.rows]
  | .nil => rfl
  | .cons l b => by simp only [Bs.rows,Bs.list,List.map_cons,Bs.rows_eq b]
theorem Sl.list_len : (l : Sl) → l.list.length = l.len
  | .nil => rfl
  | .cons s l => by simp only [Sl.list,Sl.len,List.length_cons,Sl.list_len l]
theorem Bs.list_len : (l : Bs) → l.list.length = l.len
  | .nil => rfl
  | .cons s l => by simp only [Bs.list,Bs.len,List.length_cons,Bs.list_len l]
mutual
/-- The weight of a statement. -/
def St.wt : St → Nat
  | .leaf _ => 1
  | .blk _ n bs => 1 + bs.wt * max n 1
def Sl.wt : Sl → Nat
  | .nil => 0
  | .cons s l => s.wt + l.wt
def Bs.wt : Bs → Nat
  | .nil => 0
  | .cons l b => l.wt + b.wt
end
theorem Sl.wt_eq : (l : Sl) → l.wt = (l.list.map St.wt).sum
  | .nil => rfl
  | .cons s l => by simp only [Sl.wt,Sl.list,List.map_cons,List.sum_cons,Sl.wt_eq l]
theorem Bs.wt_eq : (b : Bs) → b.wt = (b.list.map Sl.wt).sum
  | .nil => rfl
  | .cons l b => by simp only [Bs.wt,Bs.list,List.map_cons,List.sum_cons,Bs.wt_eq b]
/-- Every row of a statement has the same form. -/
theorem St.row_x (s : St) : ∃ k A B n d N bs,s.row = [.int .i64 k,.str A,.str B,.bool false,.str n,.str d,.int .i64 N,.list .s bs] := by
  cases s with
  | leaf l => exact ⟨_,_,_,_,_,_,_,by rw [St.row]; rfl⟩
  | blk k n bs => exact ⟨_,_,_,_,_,_,_,by rw [St.row]⟩
theorem St.row_len (s : St) : s.row.length = 8 := by obtain ⟨_,_,_,_,_,_,_,h⟩ := s.row_x; rw [h]; rfl
/-- What a works of a parts,p parts and s slots has. -/
def Leaf.ok (a p s : Nat) : Leaf → Prop
  | .put i j d => i < p ∧ j < s ∧ (d = 0 ∨ 4 ≤ d ∧ d ≤ 8)
  | .hold i j => i < p ∧ j < a
  | .free j => j < a
  | .see i => i < p
  | .wait n => 1 ≤ n ∧ n ≤ 3
def shapeOk (k n len : Nat) : Prop := (k = 6 ∧ n = 0 ∧ len = 1) ∨ (k = 7 ∧ 1 ≤ n ∧ n ≤ 2 ∧ len = 1) ∨ (k = 8 ∧ n = 0 ∧ len = 2) ∨ (k = 9 ∧ n = 0 ∧ len = 2)
mutual
/-- A statement of the generator,with so many levels of blocks at most. -/
def St.ok (a p s : Nat) : St → Nat → Prop
  | .leaf l,_ => l.ok a p s
  | .blk k n bs,v => ∃ u,v = u + 1 ∧ shapeOk k n bs.len ∧ bs.ok a p s u
def Sl.ok (a p s : Nat) : Sl → Nat → Prop
  | .nil,_ => True
  | .cons x l,v => x.ok a p s v ∧ l.ok a p s v
def Bs.ok (a p s : Nat) : Bs → Nat → Prop
  | .nil,_ => True
  | .cons l b,v => (1 ≤ l.len ∧ l.len ≤ 2 ∧ l.ok a p s v) ∧ b.ok a p s v
end
theorem Sl.ok_mem {a p s v : Nat} : (l : Sl) → l.ok a p s v → ∀ x ∈ l.list,x.ok a p s v
  | .nil,_ => fun _ h => by cases h
  | .cons y l,h => fun x hx => by
    simp only [Sl.ok] at h
    rcases List.mem_cons.1 hx with rfl | hx
    · exact h.1
    · exact Sl.ok_mem l h.2 x hx
theorem Bs.ok_mem {a p s v : Nat} : (b : Bs) → b.ok a p s v → ∀ l ∈ b.list,1 ≤ l.len ∧ l.len ≤ 2 ∧ l.ok a p s v
  | .nil,_ => fun _ h => by cases h
  | .cons y l,h => fun x hx => by
    simp only [Bs.ok] at h
    rcases List.mem_cons.1 hx with rfl | hx
    · exact h.1
    · exact Bs.ok_mem l h.2 x hx
/-- The generator's list,given its statements. -/
def gL (F : List Int → St × List Int) (xs : List Int) : Sl × List Int :=
  if (nxt xs 2).1 = 0 then (.cons (F (nxt xs 2).2).1 .nil,(F (nxt xs 2).2).2)
  else (.cons (F (nxt xs 2).2).1 (.cons (F (F (nxt xs 2).2).2).1 .nil),(F (F (nxt xs 2).2).2).2)
/-- The generator's statement,given its lists. -/
def gT (a p s : Nat) (top : Bool) (G : List Int → Sl × List Int) (xs : List Int) : St × List Int :=
  let part := (nxt xs p).1.toNat
  let x1 := (nxt xs p).2
  let k := if top then (nxt x1 8).1.tmod 5 else (nxt x1 8).1
  let x2 := (nxt x1 8).2
  if k = 0 ∨ k = 1 then
    let x3 := (nxt x2 s).2
    let slot := (nxt x2 s).1.toNat
    let x4 := (nxt x3 3).2
    if (nxt x3 3).1 = 0 then (.leaf (.put part slot (4 + (nxt x4 5).1).toNat),(nxt x4 5).2)
    else (.leaf (.put part slot 0),x4)
  else if k = 2 then (.leaf (.hold part (nxt x2 a).1.toNat),(nxt x2 a).2)
  else if k = 3 then (.leaf (.see part),x2)
  else if k = 4 then
    let x3 := (nxt x2 2).2
    if (nxt x2 2).1 = 0 then (.leaf (.wait (1 + (nxt x3 3).1).toNat),(nxt x3 3).2)
    else (.leaf (.free (nxt x3 a).1.toNat),(nxt x3 a).2)
  else if k = 5 then (.blk 8 0 (.cons (G x2).1 (.cons (G (G x2).2).1 .nil)),(G (G x2).2).2)
  else if k = 6 then (.blk 9 0 (.cons (G x2).1 (.cons (G (G x2).2).1 .nil)),(G (G x2).2).2)
  else
    let x3 := (nxt x2 2).2
    if (nxt x2 2).1 = 0 then (.blk 6 0 (.cons (G x3).1 .nil),(G x3).2)
    else (.blk 7 (1 + (nxt x3 2).1).toNat (.cons (G (nxt x3 2).2).1 .nil),(G (nxt x3 2).2).2)
/-- The generator's lists,with so many levels of blocks. -/
def gS (a p s : Nat) : Nat → List Int → Sl × List Int
  | 0 => gL (gT a p s true fun xs => (.nil,xs))
  | k + 1 => gL (gT a p s false (gS a p s k))
theorem gL_ok {a p s v : Nat} {F : List Int → St × List Int} (hF : ∀ xs,(F xs).1.ok a p s v) (xs : List Int) : 1 ≤ (gL F xs).1.len ∧ (gL F xs).1.len ≤ 2 ∧ (gL F xs).1.ok a p s v := by
  unfold gL
  split
  · exact ⟨Nat.le_refl 1,Nat.le_succ 1,by simp only [Sl.ok]; exact ⟨hF _,trivial⟩⟩
  · exact ⟨Nat.le_succ 1,Nat.le_refl 2,by simp only [Sl.ok]; exact ⟨hF _,hF _,trivial⟩⟩
theorem gT_ok {a p s v : Nat} (ha : 1 ≤ a) (ha2 : a ≤ 2) (hp : 1 ≤ p) (hp2 : p ≤ 2) (hs : 1 ≤ s) (hs2 : s ≤ 2) {top : Bool} {G : List Int → Sl × List Int} (hG : top = true ∨ ∃ u,v = u + 1 ∧ ∀ xs,1 ≤ (G xs).1.len ∧ (G xs).1.len ≤ 2 ∧ (G xs).1.ok a p s u) (xs : List Int) : (gT a p s top G xs).1.ok a p s v := by
  have b1 := nxt_bnd xs p (by omega) (by omega)
  generalize hx1 : (nxt xs p).2 = x1
  have b2 := nxt_bnd x1 8 (by omega) (by omega)
  generalize hx2 : (nxt x1 8).2 = x2
  have b3 := nxt_bnd x2 s (by omega) (by omega)
  have b3' := nxt_bnd x2 a (by omega) (by omega)
  have b3'' := nxt_bnd x2 2 (by omega) (by omega)
  have b4 := nxt_bnd (nxt (nxt x2 s).2 3).2 5 (by omega) (by omega)
  have b5 := nxt_bnd (nxt x2 2).2 3 (by omega) (by omega)
  have b6 := nxt_bnd (nxt x2 2).2 a (by omega) (by omega)
  have b7 := nxt_bnd (nxt x2 2).2 2 (by omega) (by omega)
  have kb : top = true → (nxt x1 8).1.tmod 5 ≤ 4 := fun _ => by
    have := Int.tmod_lt_of_pos (nxt x1 8).1 (show (0 : Int) < 5 by decide); omega
  have k0 : 0 ≤ (nxt x1 8).1.tmod 5 := Int.tmod_nonneg 5 b2.1
  have kk : ¬ (if top = true then (nxt x1 8).1.tmod 5 else (nxt x1 8).1) ≤ 4 → ∃ u,v = u + 1 ∧ ∀ xs,1 ≤ (G xs).1.len ∧ (G xs).1.len ≤ 2 ∧ (G xs).1.ok a p s u := fun h => by
    rcases hG with ht | hG
    · rw [if_pos ht] at h; exact absurd (kb ht) h
    · exact hG
  have kn : 0 ≤ (if top = true then (nxt x1 8).1.tmod 5 else (nxt x1 8).1) := by split <;> omega
  unfold gT
  simp only [hx1,hx2]
  generalize (if top = true then (nxt x1 8).1.tmod 5 else (nxt x1 8).1) = k at *
  have q : ∀ i j : Nat,j ≤ 2 → ∀ z : Int,0 ≤ z ∧ z < (j : Int) → z.toNat < j := fun i j _ z h => by omega
  split
  · split
    · simp only [St.ok,Leaf.ok]; omega
    · simp only [St.ok,Leaf.ok]; exact ⟨by omega,by omega,by simp⟩
  · split
    · simp only [St.ok,Leaf.ok]; omega
    · split
      · simp only [St.ok,Leaf.ok]; omega
      · split
        · split
          · simp only [St.ok,Leaf.ok]; omega
          · simp only [St.ok,Leaf.ok]; omega
        · split
          · obtain ⟨u,hu,hg⟩ := kk (by omega)
            simp only [St.ok,Bs.ok]
            exact ⟨u,hu,.inr (.inr (.inl ⟨rfl,rfl,rfl⟩)),hg _,hg _,trivial⟩
          · split
            · obtain ⟨u,hu,hg⟩ := kk (by omega)
              simp only [St.ok,Bs.ok]
              exact ⟨u,hu,.inr (.inr (.inr ⟨rfl,rfl,rfl⟩)),hg _,hg _,trivial⟩
            · split
              · obtain ⟨u,hu,hg⟩ := kk (by omega)
                simp only [St.ok,Bs.ok]
                exact ⟨u,hu,.inl ⟨rfl,rfl,rfl⟩,hg _,trivial⟩
              · obtain ⟨u,hu,hg⟩ := kk (by omega)
                simp only [St.ok,Bs.ok]
                exact ⟨u,hu,.inr (.inl ⟨rfl,by omega,by omega,rfl⟩),hg _,trivial⟩
theorem gS_ok {a p s : Nat} (ha : 1 ≤ a) (ha2 : a ≤ 2) (hp : 1 ≤ p) (hp2 : p ≤ 2) (hs : 1 ≤ s) (hs2 : s ≤ 2) : ∀ (v : Nat) (xs : List Int),1 ≤ (gS a p s v xs).1.len ∧ (gS a p s v xs).1.len ≤ 2 ∧ (gS a p s v xs).1.ok a p s v
  | 0,xs => gL_ok (gT_ok ha ha2 hp hp2 hs hs2 (.inl rfl)) xs
  | v + 1,xs => gL_ok (gT_ok ha ha2 hp hp2 hs hs2 (.inr ⟨v,rfl,gS_ok ha ha2 hp hp2 hs hs2 v⟩)) xs
end Vg.G3
namespace Vg.G3
open Go Lg
set_option linter.unusedSimpArgs false
set_option linter.unusedVariables false
set_option maxRecDepth 10000
set_option maxHeartbeats 16000000
attribute [local congr] bind_congr1
attribute [local go_sem] gantmake_Of_r0 gantmake_Of_r1 gantmake_Of_r2 gantmake_Of_r3 gantmake_Of_r3_d gantmake_Of_r4 gantmake_Of_r4_d gantmake_Of_r5 gantmake_Of_f gantmake_Of_v

/-- Heaps with a stream at a place. -/
structure HP (lo q n : Nat) (hp : List Int → VHeap) : Prop where
  len : ∀ ys,(hp ys).length = n
  lo : lo ≤ q
  qn : q < n
  get : ∀ ys,(hp ys)[q]? = some (strm ys)
  set : ∀ ys zs,(hp ys).set q (strm zs) = hp zs
theorem HP.app {lo q n : Nat} {hp : List Int → VHeap} (H : HP lo q n hp) (l : VHeap) : HP lo q (n + l.length) (fun ys => hp ys ++ l) := by
  refine ⟨fun ys => by rw [List.length_append,H.len],H.lo,by have := H.qn; omega,fun ys => ?_,fun ys zs => ?_⟩
  · show (hp ys ++ l)[q]? = _
    rw [List.getElem?_append_left (by rw [H.len]; exact H.qn)]; exact H.get ys
  · show (hp ys ++ l).set q _ = hp zs ++ l
    rw [List.set_append_left _ _ (by rw [H.len]; exact H.qn),H.set]
theorem HP.of {lo q : Nat} {h : VHeap} {xs : List Int} (hlo : lo ≤ q) (hs : h[q]? = some (strm xs)) : HP lo q h.length (fun ys => h.set q (strm ys)) := by
  have := lt_of_some hs
  refine ⟨fun ys => by rw [List.length_set],hlo,this,fun ys => ?_,fun ys zs => ?_⟩
  · show (h.set q (strm ys))[q]? = _
    rw [List.getElem?_set_self this]
  · show (h.set q (strm ys)).set q (strm zs) = _
    rw [List.set_set]
theorem HP.next {lo q n : Nat} {hp : List Int → VHeap} (H : HP lo q n hp) (l : VHeap) (ys : List Int) (m : Int) : callVL vp lo n_gantmake_Stream_Next [.ptr q 0,.int .i64 m] (hp ys ++ l) = some (.int .i64 (nxt ys m).1,hp (nxt ys m).2 ++ l) := by
  have := H.app l
  rw [Next_spec m H.lo (this.get ys),this.set]
section
variable {lo q n : Nat} {hp : List Int → VHeap}
theorem HP.get0 (H : HP lo q n hp) (ys : List Int) (l : VHeap) : (hp ys ++ l)[n]? = l[0]? := by rw [← H.len ys]; exact ap_get0
theorem HP.getk (H : HP lo q n hp) (ys : List Int) (l : VHeap) (k : Nat) : (hp ys ++ l)[n + k]? = l[k]? := by rw [← H.len ys]; exact ap_get
theorem HP.set0 (H : HP lo q n hp) (ys : List Int) (l : VHeap) (x : VBlk) : (hp ys ++ l).set n x = hp ys ++ l.set 0 x := by rw [← H.len ys]; exact ap_set0
theorem HP.setk (H : HP lo q n hp) (ys : List Int) (l : VHeap) (k : Nat) (x : VBlk) : (hp ys ++ l).set (n + k) x = hp ys ++ l.set k x := by rw [← H.len ys]; exact ap_set
theorem HP.take (H : HP lo q n hp) (ys : List Int) (l : VHeap) : (hp ys ++ l).take n = hp ys := by rw [← H.len ys]; exact ap_take
theorem HP.takek (H : HP lo q n hp) (ys : List Int) (l : VHeap) (k : Nat) : (hp ys ++ l).take (n + k) = hp ys ++ l.take k := by rw [← H.len ys,List.take_length_add_append]
theorem HP.lo0 (H : HP lo q n hp) : (lo ≤ n) = True := eq_true (by have := H.lo; have := H.qn; omega)
theorem HP.lok (H : HP lo q n hp) (k : Nat) : (lo ≤ n + k) = True := eq_true (by have := H.lo; have := H.qn; omega)
theorem HP.ql (H : HP lo q n hp) (k : Nat) : (q < n + k) = True := eq_true (by have := H.qn; omega)
end
theorem part_get {p : Nat} (hp : p ≤ 2) {i : Int} (h0 : 0 ≤ i) (h1 : i < p) : (partsR.take p)[i.toNat]? = some (partR (partN i.toNat)) := by
  have hi : i = 0 ∨ i = 1 := by omega
  have hpp : p = 0 ∨ p = 1 ∨ p = 2 := by omega
  rcases hi with rfl | rfl <;> rcases hpp with rfl | rfl | rfl <;> first | (exact absurd h1 (by decide)) | rfl
theorem arm_get {p : Nat} (hp : p ≤ 2) {i : Int} (h0 : 0 ≤ i) (h1 : i < p) : (armsR.take p)[i.toNat]? = some (armR (armN i.toNat)) := by
  have hi : i = 0 ∨ i = 1 := by omega
  have hpp : p = 0 ∨ p = 1 ∨ p = 2 := by omega
  rcases hi with rfl | rfl <;> rcases hpp with rfl | rfl | rfl <;> first | (exact absurd h1 (by decide)) | rfl
theorem slot_get {p : Nat} (hp : p ≤ 2) {i : Int} (h0 : 0 ≤ i) (h1 : i < p) : (slotsR.take p)[i.toNat]? = some (slotR (slotN i.toNat)) := by
  have hi : i = 0 ∨ i = 1 := by omega
  have hpp : p = 0 ∨ p = 1 ∨ p = 2 := by omega
  rcases hi with rfl | rfl <;> rcases hpp with rfl | rfl | rfl <;> first | (exact absurd h1 (by decide)) | rfl
theorem take_len {α : Type} {l : List α} (hl : l.length = 2) {p : Nat} (hp : p ≤ 2) : (l.take p).length = p := by rw [List.length_take]; omega
/-- M.Of(1,d). -/
theorem Of1d_spec {d : Int} (h0 : 4 ≤ d) (h1 : d ≤ 8) (lo : Nat) (h : VHeap) : callVL vp lo n_gantmake_Of [.int .i64 1,.int .i64 d] h = some (.agg [.bool false,.str (wn d.toNat),.str (wd d.toNat)],h) := by
  refine call_valE (fn := gantmake_Of_v) rfl rfl rfl rfl rfl ?_ lo h
  have h1' := digits_small (n := 1) (by omega) (by omega)
  have h4 := digits_small (n := d) (by omega) (by omega)
  have e1 : UInt8.ofNat (Int.toNat 1) = 1 := by decide
  rw [e1] at h1'
  have hd : d = 4 ∨ d = 5 ∨ d = 6 ∨ d = 7 ∨ d = 8 := by omega
  have m1 : max (1 : Int) (IntKind.i64.wrap (0 - 1)) = 1 := by decide
  have d1 : IntKind.i64.wrap ((1 : Int).tdiv 1) = 1 := by decide
  rcases hd with rfl | rfl | rfl | rfl | rfl
  · have t1 : (1 : Int).tmod 4 = 1 := by decide
    have t2 : (4 : Int).tmod 1 = 0 := by decide
    have d4 : IntKind.i64.wrap ((4 : Int).tdiv 1) = 4 := by decide
    simp -implicitDefEqProofs only [gantmake_Of_b0,go_sem,↓reduceIte,reduceCtorEq,Int.reduceLT,Int.reduceLE,Int.reduceToNat,Nat.reduceAdd,Nat.reduceMul,Nat.reduceLeDiff,Nat.reduceLT,Nat.reduceSub,Int.reduceNeg,Int.reduceEq,Int.reduceBEq,Int.reduceBNe,Nat.reduceEqDiff,loopV_eq,↓thenV_norm,↓thenV_exit,↓thenV_ret,h1',h4,m1,t1,t2,d1,d4,Int.lt_irrefl,wn,wd]
  · have t1 : (1 : Int).tmod 5 = 1 := by decide
    have t2 : (5 : Int).tmod 1 = 0 := by decide
    have d4 : IntKind.i64.wrap ((5 : Int).tdiv 1) = 5 := by decide
    simp -implicitDefEqProofs only [gantmake_Of_b0,go_sem,↓reduceIte,reduceCtorEq,Int.reduceLT,Int.reduceLE,Int.reduceToNat,Nat.reduceAdd,Nat.reduceMul,Nat.reduceLeDiff,Nat.reduceLT,Nat.reduceSub,Int.reduceNeg,Int.reduceEq,Int.reduceBEq,Int.reduceBNe,Nat.reduceEqDiff,loopV_eq,↓thenV_norm,↓thenV_exit,↓thenV_ret,h1',h4,m1,t1,t2,d1,d4,Int.lt_irrefl,wn,wd]
  · have t1 : (1 : Int).tmod 6 = 1 := by decide
    have t2 : (6 : Int).tmod 1 = 0 := by decide
    have d4 : IntKind.i64.wrap ((6 : Int).tdiv 1) = 6 := by decide
    simp -implicitDefEqProofs only [gantmake_Of_b0,go_sem,↓reduceIte,reduceCtorEq,Int.reduceLT,Int.reduceLE,Int.reduceToNat,Nat.reduceAdd,Nat.reduceMul,Nat.reduceLeDiff,Nat.reduceLT,Nat.reduceSub,Int.reduceNeg,Int.reduceEq,Int.reduceBEq,Int.reduceBNe,Nat.reduceEqDiff,loopV_eq,↓thenV_norm,↓thenV_exit,↓thenV_ret,h1',h4,m1,t1,t2,d1,d4,Int.lt_irrefl,wn,wd]
  · have t1 : (1 : Int).tmod 7 = 1 := by decide
    have t2 : (7 : Int).tmod 1 = 0 := by decide
    have d4 : IntKind.i64.wrap ((7 : Int).tdiv 1) = 7 := by decide
    simp -implicitDefEqProofs only [gantmake_Of_b0,go_sem,↓reduceIte,reduceCtorEq,Int.reduceLT,Int.reduceLE,Int.reduceToNat,Nat.reduceAdd,Nat.reduceMul,Nat.reduceLeDiff,Nat.reduceLT,Nat.reduceSub,Int.reduceNeg,Int.reduceEq,Int.reduceBEq,Int.reduceBNe,Nat.reduceEqDiff,loopV_eq,↓thenV_norm,↓thenV_exit,↓thenV_ret,h1',h4,m1,t1,t2,d1,d4,Int.lt_irrefl,wn,wd]
  · have t1 : (1 : Int).tmod 8 = 1 := by decide
    have t2 : (8 : Int).tmod 1 = 0 := by decide
    have d4 : IntKind.i64.wrap ((8 : Int).tdiv 1) = 8 := by decide
    simp -implicitDefEqProofs only [gantmake_Of_b0,go_sem,↓reduceIte,reduceCtorEq,Int.reduceLT,Int.reduceLE,Int.reduceToNat,Nat.reduceAdd,Nat.reduceMul,Nat.reduceLeDiff,Nat.reduceLT,Nat.reduceSub,Int.reduceNeg,Int.reduceEq,Int.reduceBEq,Int.reduceBNe,Nat.reduceEqDiff,loopV_eq,↓thenV_norm,↓thenV_exit,↓thenV_ret,h1',h4,m1,t1,t2,d1,d4,Int.lt_irrefl,wn,wd]
end Vg.G3
namespace Vg.G3
open Go Lg
set_option linter.unusedSimpArgs false
set_option linter.unusedVariables false
set_option maxRecDepth 10000
set_option maxHeartbeats 16000000
attribute [local congr] bind_congr1
attribute [local go_sem] gantkeep4_stmt_r0 gantkeep4_stmt_r1 gantkeep4_stmt_r1_d gantkeep4_stmt_r2 gantkeep4_stmt_r3 gantkeep4_stmt_r4 gantkeep4_stmt_r5 gantkeep4_stmt_r6 gantkeep4_stmt_r7 gantkeep4_stmt_r8 gantkeep4_stmt_r8_d gantkeep4_stmt_r9 gantkeep4_stmt_r10 gantkeep4_stmt_r11 gantkeep4_stmt_r12 gantkeep4_stmt_r13 gantkeep4_stmt_r13_d gantkeep4_stmt_r14 gantkeep4_stmt_r15 gantkeep4_stmt_r16 gantkeep4_stmt_r17 gantkeep4_stmt_r18 gantkeep4_stmt_r19 gantkeep4_stmt_r19_d gantkeep4_stmt_r20 gantkeep4_stmt_r21 gantkeep4_stmt_r21_d gantkeep4_stmt_r22 gantkeep4_stmt_r23 gantkeep4_stmt_r23_d gantkeep4_stmt_r24 gantkeep4_stmt_r25 gantkeep4_stmt_r26 gantkeep4_stmt_r26_d gantkeep4_stmt_f gantkeep4_stmt_v

/-- A statement of the generator. -/
theorem stmt_spec {a p s : Nat} (ha : 1 ≤ a) (ha2 : a ≤ 2) (hp1 : 1 ≤ p) (hp2 : p ≤ 2) (hs : 1 ≤ s) (hs2 : s ≤ 2) {lo q n : Nat} {hp : List Int → VHeap} (H : HP lo q n hp) {d : Int} (h0 : 0 ≤ d) (h3 : d ≤ 3) {G : List Int → Sl × List Int}
    (hG : 2 < d ∨ ∀ (l : VHeap) (ys : List Int),callVL vp lo n_gantkeep4_stmts [.agg (smallV a p s),.ptr q 0,.int .i64 (d + 1)] (hp ys ++ l) = some (.list .s (G ys).1.rows,hp (G ys).2 ++ l)) (xs : List Int) :
    callVL vp lo n_gantkeep4_stmt [.agg (smallV a p s),.ptr q 0,.int .i64 d] (hp xs) = some (.agg (gT a p s (decide (2 < d)) G xs).1.row,hp (gT a p s (decide (2 < d)) G xs).2) := by
  obtain ⟨P,hP⟩ : ∃ P : VV × VHeap → Prop,P = fun r => r = (.agg (gT a p s (decide (2 < d)) G xs).1.row,hp (gT a p s (decide (2 < d)) G xs).2) := ⟨_,rfl⟩
  have key := call_body (p := vp) (lo := lo) (h := hp xs) (f := n_gantkeep4_stmt) (fn := gantkeep4_stmt_v) (args := [.agg (smallV a p s),.ptr q 0,.int .i64 d]) (P := P) rfl (.inl rfl) rfl ?_
  · obtain ⟨r,hr,hp⟩ := key; subst hP; rw [hr,hp]
  have hP1 : P (.agg (gT a p s (decide (2 < d)) G xs).1.row,hp (gT a p s (decide (2 < d)) G xs).2) := by subst hP; rfl
  clear hP
  have hN := H.next
  have hlen := H.len
  have g0 := H.get0
  have gk := H.getk
  have s0 := H.set0
  have sk := H.setk
  have tk := H.take
  have l0 := H.lo0
  have lk := H.lok
  have ql := H.ql
  clear H
  have lA := take_len (l := armsR) rfl ha2
  have lP := take_len (l := partsR) rfl hp2
  have lS := take_len (l := slotsR) rfl hs2
  have pg := fun i => @part_get p hp2 i
  have ag := fun i => @arm_get a ha2 i
  have sg := fun i => @slot_get s hs2 i
  have b1 := nxt_bnd xs p (by omega) (by omega)
  unfold gT at hP1
  unfold smallV at *
  generalize armsR.take a = AR at *
  generalize partsR.take p = PR at *
  generalize slotsR.take s = SR at *
  obtain ⟨⟨P1,x1⟩,e1⟩ : ∃ r,nxt xs p = r := ⟨_,rfl⟩
  simp only [e1] at b1 hP1
  have b2 := nxt_bnd x1 8 (by omega) (by omega)
  obtain ⟨⟨K,x2⟩,e2⟩ : ∃ r,nxt x1 8 = r := ⟨_,rfl⟩
  simp only [e2] at b2 hP1
  have pgP := pg P1 b1.1 b1.2
  have n1 := b1.1
  unfold partR at pgP
  have wd : IntKind.i64.wrap (d + 1) = d + 1 := wrap_id (by omega) (by omega)
  -- the kinds
  have hkk : ∃ k,(if decide (2 < d) = true then K.tmod 5 else K) = k ∧ 0 ≤ k ∧ k ≤ 7 ∧ (2 < d → k ≤ 4) := by
    refine ⟨_,rfl,?_⟩
    by_cases hd : 2 < d
    · rw [decide_eq_true hd,if_pos rfl]
      have := Int.tmod_lt_of_pos K (show (0 : Int) < 5 by decide)
      have := Int.tmod_nonneg 5 b2.1
      omega
    · rw [decide_eq_false hd,if_neg (by decide)]; omega
  obtain ⟨k,hk,k0,k7,k4⟩ := hkk
  rw [hk] at hP1
  simp only [decide_eq_true_eq] at hk
  have stp : ∀ (Q : VV × VHeap → Prop),(∀ k',k' = k → Q = Q) → True := fun _ _ => trivial
  have hkT : 2 < d → K.tmod 5 = k := fun h => by rw [if_pos h] at hk; exact hk
  have hkF : ¬ 2 < d → K = k := fun h => by rw [if_neg h] at hk; exact hk
  clear hk stp
  have hkc : k = 0 ∨ k = 1 ∨ k = 2 ∨ k = 3 ∨ k = 4 ∨ k = 5 ∨ k = 6 ∨ k = 7 := by omega
  have b3 := nxt_bnd x2 s (by omega) (by omega)
  obtain ⟨⟨S1,x3⟩,e3⟩ : ∃ r,nxt x2 s = r := ⟨_,rfl⟩
  have b4 := nxt_bnd x3 3 (by omega) (by omega)
  obtain ⟨⟨T1,x4⟩,e4⟩ : ∃ r,nxt x3 3 = r := ⟨_,rfl⟩
  have b5 := nxt_bnd x4 5 (by omega) (by omega)
  obtain ⟨⟨D1,x5⟩,e5⟩ : ∃ r,nxt x4 5 = r := ⟨_,rfl⟩
  have b6 := nxt_bnd x2 a (by omega) (by omega)
  obtain ⟨⟨A1,y3⟩,e6⟩ : ∃ r,nxt x2 a = r := ⟨_,rfl⟩
  have b7 := nxt_bnd x2 2 (by omega) (by omega)
  obtain ⟨⟨B1,z3⟩,e7⟩ : ∃ r,nxt x2 2 = r := ⟨_,rfl⟩
  have b8 := nxt_bnd z3 3 (by omega) (by omega)
  obtain ⟨⟨C1,z4⟩,e8⟩ : ∃ r,nxt z3 3 = r := ⟨_,rfl⟩
  have b9 := nxt_bnd z3 a (by omega) (by omega)
  obtain ⟨⟨E1,z5⟩,e9⟩ : ∃ r,nxt z3 a = r := ⟨_,rfl⟩
  have b10 := nxt_bnd z3 2 (by omega) (by omega)
  obtain ⟨⟨F1,z6⟩,e10⟩ : ∃ r,nxt z3 2 = r := ⟨_,rfl⟩
  simp only [e3,e4,e5,e6,e7,e8,e9,e10] at b3 b4 b5 b6 b7 b8 b9 b10 hP1
  have sgS := sg S1 b3.1 b3.2
  have agA := ag A1 b6.1 b6.2
  have agE := ag E1 b9.1 b9.2
  unfold slotR at sgS
  unfold armR at agA agE
  have n3 := b3.1
  have n6 := b6.1
  have n9 := b9.1
  have w5 : IntKind.i64.wrap (4 + D1) = 4 + D1 := wrap_id (by omega) (by omega)
  have w8 : IntKind.i64.wrap (1 + C1) = 1 + C1 := wrap_id (by omega) (by omega)
  have w10 : IntKind.i64.wrap (1 + F1) = 1 + F1 := wrap_id (by omega) (by omega)
  have hO := Of1d_spec (d := 4 + D1) (by omega) (by omega)
  have t8 : ((1 + C1).toNat : Int) = 1 + C1 := Int.toNat_of_nonneg (by omega)
  have t10 : ((1 + F1).toNat : Int) = 1 + F1 := Int.toNat_of_nonneg (by omega)
  clear pg ag sg b1 b2 b3 b4 b5 b6 b7 b8 b9 b10
  have c0 : ((0 : Nat) : Int) = 0 := rfl
  have c6 : ((6 : Nat) : Int) = 6 := rfl
  have c7 : ((7 : Nat) : Int) = 7 := rfl
  have c8 : ((8 : Nat) : Int) = 8 := rfl
  have c9 : ((9 : Nat) : Int) = 9 := rfl
  have wd0 : wn 0 = [] := rfl
  have wd1 : G3.wd 0 = [] := rfl
  rcases hkc with rfl | rfl | rfl | rfl | rfl | rfl | rfl | rfl
  · by_cases hT : T1 = 0
    · simp only [reduceCtorEq,or_self,true_or,or_true,if_true,if_false,Int.reduceEq,St.row,Leaf.row,Leaf.kind,Leaf.A,Leaf.B,Leaf.d,Leaf.n,Bs.rows,c0,c6,c7,c8,c9,hT] at hP1
      by_cases hd : 2 < d
      · have hK := hkT hd
        simp -implicitDefEqProofs only [go_sem,↓reduceIte,reduceCtorEq,Int.reduceLT,Int.reduceLE,Int.reduceToNat,Nat.reduceAdd,Nat.reduceMul,Nat.reduceLeDiff,Nat.reduceLT,Nat.reduceSub,Int.reduceNeg,Int.reduceEq,Int.reduceBEq,Int.reduceBNe,Nat.reduceEqDiff,hN,hlen,g0,gk,s0,sk,tk,l0,lk,ql,List.append_assoc,List.length_append,List.length_cons,List.length_nil,List.cons_append,List.nil_append,Nat.add_assoc,Nat.add_lt_add_iff_left,Nat.lt_add_right_iff_pos,Nat.le_add_right,e1,e2,lP,lA,lS,pgP,n1,hd,hK,e3,sgS,n3,e4,hT,e5,w5,hO]
        exact hP1
      · have hK := hkF hd
        subst hK
        simp -implicitDefEqProofs only [go_sem,↓reduceIte,reduceCtorEq,Int.reduceLT,Int.reduceLE,Int.reduceToNat,Nat.reduceAdd,Nat.reduceMul,Nat.reduceLeDiff,Nat.reduceLT,Nat.reduceSub,Int.reduceNeg,Int.reduceEq,Int.reduceBEq,Int.reduceBNe,Nat.reduceEqDiff,hN,hlen,g0,gk,s0,sk,tk,l0,lk,ql,List.append_assoc,List.length_append,List.length_cons,List.length_nil,List.cons_append,List.nil_append,Nat.add_assoc,Nat.add_lt_add_iff_left,Nat.lt_add_right_iff_pos,Nat.le_add_right,e1,e2,lP,lA,lS,pgP,n1,hd,e3,sgS,n3,e4,hT,e5,w5,hO]
        exact hP1
    · simp only [reduceCtorEq,or_self,true_or,or_true,if_true,if_false,Int.reduceEq,St.row,Leaf.row,Leaf.kind,Leaf.A,Leaf.B,Leaf.d,Leaf.n,Bs.rows,c0,c6,c7,c8,c9,hT,wd0,wd1] at hP1
      by_cases hd : 2 < d
      · have hK := hkT hd
        simp -implicitDefEqProofs only [go_sem,↓reduceIte,reduceCtorEq,Int.reduceLT,Int.reduceLE,Int.reduceToNat,Nat.reduceAdd,Nat.reduceMul,Nat.reduceLeDiff,Nat.reduceLT,Nat.reduceSub,Int.reduceNeg,Int.reduceEq,Int.reduceBEq,Int.reduceBNe,Nat.reduceEqDiff,hN,hlen,g0,gk,s0,sk,tk,l0,lk,ql,List.append_assoc,List.length_append,List.length_cons,List.length_nil,List.cons_append,List.nil_append,Nat.add_assoc,Nat.add_lt_add_iff_left,Nat.lt_add_right_iff_pos,Nat.le_add_right,e1,e2,lP,lA,lS,pgP,n1,hd,hK,e3,sgS,n3,e4,hT]
        exact hP1
      · have hK := hkF hd
        subst hK
        simp -implicitDefEqProofs only [go_sem,↓reduceIte,reduceCtorEq,Int.reduceLT,Int.reduceLE,Int.reduceToNat,Nat.reduceAdd,Nat.reduceMul,Nat.reduceLeDiff,Nat.reduceLT,Nat.reduceSub,Int.reduceNeg,Int.reduceEq,Int.reduceBEq,Int.reduceBNe,Nat.reduceEqDiff,hN,hlen,g0,gk,s0,sk,tk,l0,lk,ql,List.append_assoc,List.length_append,List.length_cons,List.length_nil,List.cons_append,List.nil_append,Nat.add_assoc,Nat.add_lt_add_iff_left,Nat.lt_add_right_iff_pos,Nat.le_add_right,e1,e2,lP,lA,lS,pgP,n1,hd,e3,sgS,n3,e4,hT]
        exact hP1
  · by_cases hT : T1 = 0
    · simp only [reduceCtorEq,or_self,true_or,or_true,if_true,if_false,Int.reduceEq,St.row,Leaf.row,Leaf.kind,Leaf.A,Leaf.B,Leaf.d,Leaf.n,Bs.rows,c0,c6,c7,c8,c9,hT] at hP1
      by_cases hd : 2 < d
      · have hK := hkT hd
        simp -implicitDefEqProofs only [go_sem,↓reduceIte,reduceCtorEq,Int.reduceLT,Int.reduceLE,Int.reduceToNat,Nat.reduceAdd,Nat.reduceMul,Nat.reduceLeDiff,Nat.reduceLT,Nat.reduceSub,Int.reduceNeg,Int.reduceEq,Int.reduceBEq,Int.reduceBNe,Nat.reduceEqDiff,hN,hlen,g0,gk,s0,sk,tk,l0,lk,ql,List.append_assoc,List.length_append,List.length_cons,List.length_nil,List.cons_append,List.nil_append,Nat.add_assoc,Nat.add_lt_add_iff_left,Nat.lt_add_right_iff_pos,Nat.le_add_right,e1,e2,lP,lA,lS,pgP,n1,hd,hK,e3,sgS,n3,e4,hT,e5,w5,hO]
        exact hP1
      · have hK := hkF hd
        subst hK
        simp -implicitDefEqProofs only [go_sem,↓reduceIte,reduceCtorEq,Int.reduceLT,Int.reduceLE,Int.reduceToNat,Nat.reduceAdd,Nat.reduceMul,Nat.reduceLeDiff,Nat.reduceLT,Nat.reduceSub,Int.reduceNeg,Int.reduceEq,Int.reduceBEq,Int.reduceBNe,Nat.reduceEqDiff,hN,hlen,g0,gk,s0,sk,tk,l0,lk,ql,List.append_assoc,List.length_append,List.length_cons,List.length_nil,List.cons_append,List.nil_append,Nat.add_assoc,Nat.add_lt_add_iff_left,Nat.lt_add_right_iff_pos,Nat.le_add_right,e1,e2,lP,lA,lS,pgP,n1,hd,e3,sgS,n3,e4,hT,e5,w5,hO]
        exact hP1
    · simp only [reduceCtorEq,or_self,true_or,or_true,if_true,if_false,Int.reduceEq,St.row,Leaf.row,Leaf.kind,Leaf.A,Leaf.B,Leaf.d,Leaf.n,Bs.rows,c0,c6,c7,c8,c9,hT,wd0,wd1] at hP1
      by_cases hd : 2 < d
      · have hK := hkT hd
        simp -implicitDefEqProofs only [go_sem,↓reduceIte,reduceCtorEq,Int.reduceLT,Int.reduceLE,Int.reduceToNat,Nat.reduceAdd,Nat.reduceMul,Nat.reduceLeDiff,Nat.reduceLT,Nat.reduceSub,Int.reduceNeg,Int.reduceEq,Int.reduceBEq,Int.reduceBNe,Nat.reduceEqDiff,hN,hlen,g0,gk,s0,sk,tk,l0,lk,ql,List.append_assoc,List.length_append,List.length_cons,List.length_nil,List.cons_append,List.nil_append,Nat.add_assoc,Nat.add_lt_add_iff_left,Nat.lt_add_right_iff_pos,Nat.le_add_right,e1,e2,lP,lA,lS,pgP,n1,hd,hK,e3,sgS,n3,e4,hT]
        exact hP1
      · have hK := hkF hd
        subst hK
        simp -implicitDefEqProofs only [go_sem,↓reduceIte,reduceCtorEq,Int.reduceLT,Int.reduceLE,Int.reduceToNat,Nat.reduceAdd,Nat.reduceMul,Nat.reduceLeDiff,Nat.reduceLT,Nat.reduceSub,Int.reduceNeg,Int.reduceEq,Int.reduceBEq,Int.reduceBNe,Nat.reduceEqDiff,hN,hlen,g0,gk,s0,sk,tk,l0,lk,ql,List.append_assoc,List.length_append,List.length_cons,List.length_nil,List.cons_append,List.nil_append,Nat.add_assoc,Nat.add_lt_add_iff_left,Nat.lt_add_right_iff_pos,Nat.le_add_right,e1,e2,lP,lA,lS,pgP,n1,hd,e3,sgS,n3,e4,hT]
        exact hP1
  · simp only [reduceCtorEq,or_self,true_or,or_true,if_true,if_false,Int.reduceEq,St.row,Leaf.row,Leaf.kind,Leaf.A,Leaf.B,Leaf.d,Leaf.n,Bs.rows,c0,c6,c7,c8,c9,wd0,wd1] at hP1
    by_cases hd : 2 < d
    · have hK := hkT hd
      simp -implicitDefEqProofs only [go_sem,↓reduceIte,reduceCtorEq,Int.reduceLT,Int.reduceLE,Int.reduceToNat,Nat.reduceAdd,Nat.reduceMul,Nat.reduceLeDiff,Nat.reduceLT,Nat.reduceSub,Int.reduceNeg,Int.reduceEq,Int.reduceBEq,Int.reduceBNe,Nat.reduceEqDiff,hN,hlen,g0,gk,s0,sk,tk,l0,lk,ql,List.append_assoc,List.length_append,List.length_cons,List.length_nil,List.cons_append,List.nil_append,Nat.add_assoc,Nat.add_lt_add_iff_left,Nat.lt_add_right_iff_pos,Nat.le_add_right,e1,e2,lP,lA,lS,pgP,n1,hd,hK,e6,agA,n6]
      exact hP1
    · have hK := hkF hd
      subst hK
      simp -implicitDefEqProofs only [go_sem,↓reduceIte,reduceCtorEq,Int.reduceLT,Int.reduceLE,Int.reduceToNat,Nat.reduceAdd,Nat.reduceMul,Nat.reduceLeDiff,Nat.reduceLT,Nat.reduceSub,Int.reduceNeg,Int.reduceEq,Int.reduceBEq,Int.reduceBNe,Nat.reduceEqDiff,hN,hlen,g0,gk,s0,sk,tk,l0,lk,ql,List.append_assoc,List.length_append,List.length_cons,List.length_nil,List.cons_append,List.nil_append,Nat.add_assoc,Nat.add_lt_add_iff_left,Nat.lt_add_right_iff_pos,Nat.le_add_right,e1,e2,lP,lA,lS,pgP,n1,hd,e6,agA,n6]
      exact hP1
  · simp only [reduceCtorEq,or_self,true_or,or_true,if_true,if_false,Int.reduceEq,St.row,Leaf.row,Leaf.kind,Leaf.A,Leaf.B,Leaf.d,Leaf.n,Bs.rows,c0,c6,c7,c8,c9,wd0,wd1] at hP1
    by_cases hd : 2 < d
    · have hK := hkT hd
      simp -implicitDefEqProofs only [go_sem,↓reduceIte,reduceCtorEq,Int.reduceLT,Int.reduceLE,Int.reduceToNat,Nat.reduceAdd,Nat.reduceMul,Nat.reduceLeDiff,Nat.reduceLT,Nat.reduceSub,Int.reduceNeg,Int.reduceEq,Int.reduceBEq,Int.reduceBNe,Nat.reduceEqDiff,hN,hlen,g0,gk,s0,sk,tk,l0,lk,ql,List.append_assoc,List.length_append,List.length_cons,List.length_nil,List.cons_append,List.nil_append,Nat.add_assoc,Nat.add_lt_add_iff_left,Nat.lt_add_right_iff_pos,Nat.le_add_right,e1,e2,lP,lA,lS,pgP,n1,hd,hK,c0]
      exact hP1
    · have hK := hkF hd
      subst hK
      simp -implicitDefEqProofs only [go_sem,↓reduceIte,reduceCtorEq,Int.reduceLT,Int.reduceLE,Int.reduceToNat,Nat.reduceAdd,Nat.reduceMul,Nat.reduceLeDiff,Nat.reduceLT,Nat.reduceSub,Int.reduceNeg,Int.reduceEq,Int.reduceBEq,Int.reduceBNe,Nat.reduceEqDiff,hN,hlen,g0,gk,s0,sk,tk,l0,lk,ql,List.append_assoc,List.length_append,List.length_cons,List.length_nil,List.cons_append,List.nil_append,Nat.add_assoc,Nat.add_lt_add_iff_left,Nat.lt_add_right_iff_pos,Nat.le_add_right,e1,e2,lP,lA,lS,pgP,n1,hd,c0]
      exact hP1
  · by_cases hT : B1 = 0
    · simp only [reduceCtorEq,or_self,true_or,or_true,if_true,if_false,Int.reduceEq,St.row,Leaf.row,Leaf.kind,Leaf.A,Leaf.B,Leaf.d,Leaf.n,Bs.rows,c0,c6,c7,c8,c9,hT,wd0,wd1,t8] at hP1
      by_cases hd : 2 < d
      · have hK := hkT hd
        simp -implicitDefEqProofs only [go_sem,↓reduceIte,reduceCtorEq,Int.reduceLT,Int.reduceLE,Int.reduceToNat,Nat.reduceAdd,Nat.reduceMul,Nat.reduceLeDiff,Nat.reduceLT,Nat.reduceSub,Int.reduceNeg,Int.reduceEq,Int.reduceBEq,Int.reduceBNe,Nat.reduceEqDiff,hN,hlen,g0,gk,s0,sk,tk,l0,lk,ql,List.append_assoc,List.length_append,List.length_cons,List.length_nil,List.cons_append,List.nil_append,Nat.add_assoc,Nat.add_lt_add_iff_left,Nat.lt_add_right_iff_pos,Nat.le_add_right,e1,e2,lP,lA,lS,pgP,n1,hd,hK,e7,hT,e8,w8]
        exact hP1
      · have hK := hkF hd
        subst hK
        simp -implicitDefEqProofs only [go_sem,↓reduceIte,reduceCtorEq,Int.reduceLT,Int.reduceLE,Int.reduceToNat,Nat.reduceAdd,Nat.reduceMul,Nat.reduceLeDiff,Nat.reduceLT,Nat.reduceSub,Int.reduceNeg,Int.reduceEq,Int.reduceBEq,Int.reduceBNe,Nat.reduceEqDiff,hN,hlen,g0,gk,s0,sk,tk,l0,lk,ql,List.append_assoc,List.length_append,List.length_cons,List.length_nil,List.cons_append,List.nil_append,Nat.add_assoc,Nat.add_lt_add_iff_left,Nat.lt_add_right_iff_pos,Nat.le_add_right,e1,e2,lP,lA,lS,pgP,n1,hd,e7,hT,e8,w8]
        exact hP1
    · simp only [reduceCtorEq,or_self,true_or,or_true,if_true,if_false,Int.reduceEq,St.row,Leaf.row,Leaf.kind,Leaf.A,Leaf.B,Leaf.d,Leaf.n,Bs.rows,c0,c6,c7,c8,c9,hT,wd0,wd1] at hP1
      by_cases hd : 2 < d
      · have hK := hkT hd
        simp -implicitDefEqProofs only [go_sem,↓reduceIte,reduceCtorEq,Int.reduceLT,Int.reduceLE,Int.reduceToNat,Nat.reduceAdd,Nat.reduceMul,Nat.reduceLeDiff,Nat.reduceLT,Nat.reduceSub,Int.reduceNeg,Int.reduceEq,Int.reduceBEq,Int.reduceBNe,Nat.reduceEqDiff,hN,hlen,g0,gk,s0,sk,tk,l0,lk,ql,List.append_assoc,List.length_append,List.length_cons,List.length_nil,List.cons_append,List.nil_append,Nat.add_assoc,Nat.add_lt_add_iff_left,Nat.lt_add_right_iff_pos,Nat.le_add_right,e1,e2,lP,lA,lS,pgP,n1,hd,hK,e7,hT,e9,agE,n9]
        exact hP1
      · have hK := hkF hd
        subst hK
        simp -implicitDefEqProofs only [go_sem,↓reduceIte,reduceCtorEq,Int.reduceLT,Int.reduceLE,Int.reduceToNat,Nat.reduceAdd,Nat.reduceMul,Nat.reduceLeDiff,Nat.reduceLT,Nat.reduceSub,Int.reduceNeg,Int.reduceEq,Int.reduceBEq,Int.reduceBNe,Nat.reduceEqDiff,hN,hlen,g0,gk,s0,sk,tk,l0,lk,ql,List.append_assoc,List.length_append,List.length_cons,List.length_nil,List.cons_append,List.nil_append,Nat.add_assoc,Nat.add_lt_add_iff_left,Nat.lt_add_right_iff_pos,Nat.le_add_right,e1,e2,lP,lA,lS,pgP,n1,hd,e7,hT,e9,agE,n9]
        exact hP1
  · have hd : ¬ 2 < d := fun h => absurd (k4 h) (by decide)
    have hK := hkF hd
    subst hK
    have hG2 := hG.resolve_left hd
    simp only [reduceCtorEq,or_self,true_or,or_true,if_true,if_false,Int.reduceEq,St.row,Leaf.row,Leaf.kind,Leaf.A,Leaf.B,Leaf.d,Leaf.n,Bs.rows,c0,c6,c7,c8,c9,wd0,wd1] at hP1
    simp -implicitDefEqProofs only [go_sem,↓reduceIte,reduceCtorEq,Int.reduceLT,Int.reduceLE,Int.reduceToNat,Nat.reduceAdd,Nat.reduceMul,Nat.reduceLeDiff,Nat.reduceLT,Nat.reduceSub,Int.reduceNeg,Int.reduceEq,Int.reduceBEq,Int.reduceBNe,Nat.reduceEqDiff,hN,hlen,g0,gk,s0,sk,tk,l0,lk,ql,List.append_assoc,List.length_append,List.length_cons,List.length_nil,List.cons_append,List.nil_append,Nat.add_assoc,Nat.add_lt_add_iff_left,Nat.lt_add_right_iff_pos,Nat.le_add_right,e1,e2,lP,lA,lS,pgP,n1,hd,wd,hG2]
    exact hP1
  · have hd : ¬ 2 < d := fun h => absurd (k4 h) (by decide)
    have hK := hkF hd
    subst hK
    have hG2 := hG.resolve_left hd
    simp only [reduceCtorEq,or_self,true_or,or_true,if_true,if_false,Int.reduceEq,St.row,Leaf.row,Leaf.kind,Leaf.A,Leaf.B,Leaf.d,Leaf.n,Bs.rows,c0,c6,c7,c8,c9,wd0,wd1] at hP1
    simp -implicitDefEqProofs only [go_sem,↓reduceIte,reduceCtorEq,Int.reduceLT,Int.reduceLE,Int.reduceToNat,Nat.reduceAdd,Nat.reduceMul,Nat.reduceLeDiff,Nat.reduceLT,Nat.reduceSub,Int.reduceNeg,Int.reduceEq,Int.reduceBEq,Int.reduceBNe,Nat.reduceEqDiff,hN,hlen,g0,gk,s0,sk,tk,l0,lk,ql,List.append_assoc,List.length_append,List.length_cons,List.length_nil,List.cons_append,List.nil_append,Nat.add_assoc,Nat.add_lt_add_iff_left,Nat.lt_add_right_iff_pos,Nat.le_add_right,e1,e2,lP,lA,lS,pgP,n1,hd,wd,hG2]
    exact hP1
  · have hd : ¬ 2 < d := fun h => absurd (k4 h) (by decide)
    have hK := hkF hd
    subst hK
    have hG2 := hG.resolve_left hd
    by_cases hT : B1 = 0
    · simp only [reduceCtorEq,or_self,true_or,or_true,if_true,if_false,Int.reduceEq,St.row,Leaf.row,Leaf.kind,Leaf.A,Leaf.B,Leaf.d,Leaf.n,Bs.rows,c0,c6,c7,c8,c9,hT,wd0,wd1] at hP1
      simp -implicitDefEqProofs only [go_sem,↓reduceIte,reduceCtorEq,Int.reduceLT,Int.reduceLE,Int.reduceToNat,Nat.reduceAdd,Nat.reduceMul,Nat.reduceLeDiff,Nat.reduceLT,Nat.reduceSub,Int.reduceNeg,Int.reduceEq,Int.reduceBEq,Int.reduceBNe,Nat.reduceEqDiff,hN,hlen,g0,gk,s0,sk,tk,l0,lk,ql,List.append_assoc,List.length_append,List.length_cons,List.length_nil,List.cons_append,List.nil_append,Nat.add_assoc,Nat.add_lt_add_iff_left,Nat.lt_add_right_iff_pos,Nat.le_add_right,e1,e2,lP,lA,lS,pgP,n1,hd,e7,hT,wd,hG2]
      exact hP1
    · simp only [reduceCtorEq,or_self,true_or,or_true,if_true,if_false,Int.reduceEq,St.row,Leaf.row,Leaf.kind,Leaf.A,Leaf.B,Leaf.d,Leaf.n,Bs.rows,c0,c6,c7,c8,c9,hT,wd0,wd1,t10] at hP1
      simp -implicitDefEqProofs only [go_sem,↓reduceIte,reduceCtorEq,Int.reduceLT,Int.reduceLE,Int.reduceToNat,Nat.reduceAdd,Nat.reduceMul,Nat.reduceLeDiff,Nat.reduceLT,Nat.reduceSub,Int.reduceNeg,Int.reduceEq,Int.reduceBEq,Int.reduceBNe,Nat.reduceEqDiff,hN,hlen,g0,gk,s0,sk,tk,l0,lk,ql,List.append_assoc,List.length_append,List.length_cons,List.length_nil,List.cons_append,List.nil_append,Nat.add_assoc,Nat.add_lt_add_iff_left,Nat.lt_add_right_iff_pos,Nat.le_add_right,e1,e2,lP,lA,lS,pgP,n1,hd,e7,hT,e10,w10,wd,hG2]
      exact hP1
end Vg.G3
namespace Vg.G3
open Go Lg
set_option linter.unusedSimpArgs false
set_option linter.unusedVariables false
set_option maxRecDepth 10000
set_option maxHeartbeats 16000000
attribute [local congr] bind_congr1
attribute [local go_sem] gantkeep4_stmts_r0 gantkeep4_stmts_r1 gantkeep4_stmts_r2 gantkeep4_stmts_r3 gantkeep4_stmts_r4 gantkeep4_stmts_r5 gantkeep4_stmts_r6 gantkeep4_stmts_f gantkeep4_stmts_v gantkeep4_Job_r0 gantkeep4_Job_r1 gantkeep4_Job_f gantkeep4_Job_v

/-- A list of the generator. -/
theorem stmts_spec {a p s : Nat} {lo q n : Nat} {hp : List Int → VHeap} (H : HP lo q n hp) {d : Int} {F : List Int → St × List Int}
    (hF : ∀ (l : VHeap) (ys : List Int),callVL vp lo n_gantkeep4_stmt [.agg (smallV a p s),.ptr q 0,.int .i64 d] (hp ys ++ l) = some (.agg (F ys).1.row,hp (F ys).2 ++ l)) (xs : List Int) :
    callVL vp lo n_gantkeep4_stmts [.agg (smallV a p s),.ptr q 0,.int .i64 d] (hp xs) = some (.list .s (gL F xs).1.rows,hp (gL F xs).2) := by
  obtain ⟨P,hP⟩ : ∃ P : VV × VHeap → Prop,P = fun r => r = (.list .s (gL F xs).1.rows,hp (gL F xs).2) := ⟨_,rfl⟩
  have key := call_body (p := vp) (lo := lo) (h := hp xs) (f := n_gantkeep4_stmts) (fn := gantkeep4_stmts_v) (args := [.agg (smallV a p s),.ptr q 0,.int .i64 d]) (P := P) rfl (.inl rfl) rfl ?_
  · obtain ⟨r,hr,hp⟩ := key; subst hP; rw [hr,hp]
  have hP1 : P (.list .s (gL F xs).1.rows,hp (gL F xs).2) := by subst hP; rfl
  clear hP
  have hN := H.next
  have hlen := H.len
  have g0 := H.get0
  have gk := H.getk
  have s0 := H.set0
  have sk := H.setk
  have tk := H.take
  have tkk := H.takek
  have l0 := H.lo0
  have lk := H.lok
  have ql := H.ql
  clear H
  unfold gL at hP1
  have b := nxt_bnd xs 2 (by omega) (by omega)
  obtain ⟨⟨R,x1⟩,e1⟩ : ∃ r,nxt xs 2 = r := ⟨_,rfl⟩
  simp only [e1] at b hP1
  have f1 := fun l => hF l x1
  obtain ⟨⟨s1,x2⟩,e2⟩ : ∃ r,F x1 = r := ⟨_,rfl⟩
  simp only [e2] at f1 hP1
  have f2 := fun l => hF l x2
  obtain ⟨⟨s2,x3⟩,e3⟩ : ∃ r,F x2 = r := ⟨_,rfl⟩
  simp only [e3] at f2 hP1
  obtain ⟨k1,A1,B1,n1,d1,N1,bs1,r1⟩ := s1.row_x
  obtain ⟨k2,A2,B2,n2,d2,N2,bs2,r2⟩ := s2.row_x
  rw [r1] at f1
  rw [r2] at f2
  clear hF
  unfold smallV at *
  generalize armsR.take a = AR at *
  generalize partsR.take p = PR at *
  generalize slotsR.take s = SR at *
  have w0 : IntKind.i64.wrap (1 + 0) = 1 := by decide
  have w1 : IntKind.i64.wrap (1 + 1) = 2 := by decide
  have w2 : IntKind.i64.wrap (0 + 1) = 1 := by decide
  have hR : R = 0 ∨ R = 1 := by omega
  rcases hR with rfl | rfl
  · simp only [if_true,Sl.rows,r1] at hP1
    simp -implicitDefEqProofs only [gantkeep4_stmts_b0,go_sem,↓reduceIte,reduceCtorEq,Int.reduceLT,Int.reduceLE,Int.reduceToNat,Nat.reduceAdd,Nat.reduceMul,Nat.reduceLeDiff,Nat.reduceLT,Nat.reduceSub,Int.reduceNeg,Int.reduceEq,Int.reduceBEq,Int.reduceBNe,Nat.reduceEqDiff,loopV_eq,↓thenV_norm,↓thenV_exit,↓thenV_ret,hN,hlen,g0,gk,s0,sk,tk,tkk,List.take_succ_cons,List.take_zero,l0,lk,ql,List.append_assoc,List.length_append,List.length_cons,List.length_nil,List.cons_append,List.nil_append,Nat.add_assoc,Nat.add_lt_add_iff_left,Nat.lt_add_right_iff_pos,Nat.le_add_right,e1,f1,w0,w1,w2,Int.lt_irrefl]
    exact hP1
  · simp only [if_false,Int.reduceEq,Sl.rows,r1,r2] at hP1
    simp -implicitDefEqProofs only [gantkeep4_stmts_b0,go_sem,↓reduceIte,reduceCtorEq,Int.reduceLT,Int.reduceLE,Int.reduceToNat,Nat.reduceAdd,Nat.reduceMul,Nat.reduceLeDiff,Nat.reduceLT,Nat.reduceSub,Int.reduceNeg,Int.reduceEq,Int.reduceBEq,Int.reduceBNe,Nat.reduceEqDiff,loopV_eq,↓thenV_norm,↓thenV_exit,↓thenV_ret,hN,hlen,g0,gk,s0,sk,tk,tkk,List.take_succ_cons,List.take_zero,l0,lk,ql,List.append_assoc,List.length_append,List.length_cons,List.length_nil,List.cons_append,List.nil_append,Nat.add_assoc,Nat.add_lt_add_iff_left,Nat.lt_add_right_iff_pos,Nat.le_add_right,e1,f1,f2,w0,w1,w2,Int.lt_irrefl]
    exact hP1
theorem gS_spec {a p s : Nat} (ha : 1 ≤ a) (ha2 : a ≤ 2) (hp1 : 1 ≤ p) (hp2 : p ≤ 2) (hs : 1 ≤ s) (hs2 : s ≤ 2) : ∀ (v : Nat),v ≤ 2 → ∀ {lo q n : Nat} {hp : List Int → VHeap},HP lo q n hp → ∀ xs,callVL vp lo n_gantkeep4_stmts [.agg (smallV a p s),.ptr q 0,.int .i64 (3 - (v : Nat))] (hp xs) = some (.list .s (gS a p s v xs).1.rows,hp (gS a p s v xs).2)
  | 0,_,lo,q,n,hp,H,xs => by
    refine stmts_spec H (fun l ys => ?_) xs
    have := stmt_spec ha ha2 hp1 hp2 hs hs2 (H.app l) (d := 3) (by decide) (by decide) (G := fun xs => (.nil,xs)) (.inl (by decide)) ys
    exact this
  | v + 1,hv,lo,q,n,hp,H,xs => by
    refine stmts_spec H (fun l ys => ?_) xs
    have hd : ¬ (2 : Int) < 3 - ((v + 1 : Nat) : Int) := by omega
    have := stmt_spec ha ha2 hp1 hp2 hs hs2 (H.app l) (d := 3 - ((v + 1 : Nat) : Int)) (by omega) (by omega) (G := gS a p s v) (.inr fun l' zs => by
      rw [show (3 : Int) - ((v + 1 : Nat) : Int) + 1 = 3 - (v : Nat) by omega]
      exact gS_spec ha ha2 hp1 hp2 hs hs2 v (by omega) ((H.app l).app l') zs) ys
    rw [decide_eq_false hd] at this
    exact this
/-- The generator's job. -/
def jobV (l : Sl) : List VV := [.str [116,97,115,107],.list .s l.rows]
theorem Job_spec {a p s : Nat} (ha : 1 ≤ a) (ha2 : a ≤ 2) (hp1 : 1 ≤ p) (hp2 : p ≤ 2) (hs : 1 ≤ s) (hs2 : s ≤ 2) (xs : List Int) (lo : Nat) (h : VHeap) : callVL vp lo n_gantkeep4_Job [.agg (smallV a p s),.list .s (xs.map fun x => [.int .i64 x])] h = some (.agg (jobV (gS a p s 2 xs).1),h) := by
  refine call_valE (fn := gantkeep4_Job_v) rfl rfl rfl rfl rfl ?_ lo h
  have key : ∀ b0 b1 : VBlk,callVL vp 0 n_gantkeep4_stmts [.agg (smallV a p s),.ptr 2 0,.int .i64 1] [b0,b1,strm xs] = some (.list .s (gS a p s 2 xs).1.rows,[b0,b1,strm (gS a p s 2 xs).2]) := fun b0 b1 =>
    gS_spec ha ha2 hp1 hp2 hs hs2 2 (Nat.le_refl _) (lo := 0) (q := 2) (n := 3) (hp := fun ys => [b0,b1,strm ys]) ⟨fun _ => rfl,by decide,by decide,fun _ => rfl,fun _ _ => rfl⟩ xs
  unfold jobV smallV at *
  generalize (gS a p s 2 xs).1.rows = R at *
  generalize (gS a p s 2 xs).2 = ys at *
  generalize armsR.take a = AR at *
  generalize partsR.take p = PR at *
  generalize slotsR.take s = SR at *
  simp only [strm,ints] at key
  simp -implicitDefEqProofs only [go_sem,↓reduceIte,reduceCtorEq,Int.reduceLT,Int.reduceLE,Int.reduceToNat,Nat.reduceAdd,Nat.reduceMul,Nat.reduceLeDiff,Nat.reduceLT,Nat.reduceSub,Int.reduceNeg,Int.reduceEq,Int.reduceBEq,Int.reduceBNe,Nat.reduceEqDiff,key]
end Vg.G3
