/- What is said of a run: predicates, loops, lists. -/
import Derived.Test.YtehpimogdcilaaaLgTop
import Derived.Test.YtehpimogdcilaaaLgSimp
namespace Lg
open Go
theorem bind_congr1 {α β : Type} {x y : Option α} {f : α → Option β} (h : x = y) : x.bind f = y.bind f := by rw [h]
/-- A run that comes out, and how. -/
def Sat {α : Type} (x : Option α) (P : α → Prop) : Prop := ∃ r, x = some r ∧ P r
theorem Sat_some {α : Type} (r : α) (P : α → Prop) : Sat (some r) P ↔ P r := ⟨fun ⟨_, h, hp⟩ => by cases h; exact hp, fun h => ⟨r, rfl, h⟩⟩
theorem Sat.bind {α β : Type} {x : Option α} {f : α → Option β} {P : α → Prop} {Q : β → Prop} (hx : Sat x P) (h : ∀ r, P r → Sat (f r) Q) : Sat (x.bind f) Q := by
  obtain ⟨r, rfl, hp⟩ := hx; exact h r hp
theorem Sat.mono {α : Type} {x : Option α} {P Q : α → Prop} (hx : Sat x P) (h : ∀ r, P r → Q r) : Sat x Q := by
  obtain ⟨r, hr, hp⟩ := hx; exact ⟨r, hr, h r hp⟩

theorem Sat_body {p : LProg} {lo : Nat} {f : FuncId} {fn : LFunc} {args : List LV} {h : Heap} {P : LV × Heap → Prop} (hp : p f = some fn) (hpu : fn.pure = false) (ha : args.length = fn.nargs)
    (hE : Sat ((codeL (callL p) lo fn.body (args ++ List.replicate (fn.ntmps - fn.nargs) (.tup [])) h).bind (endE fn.results)) P) : Sat (callL p lo f args h) P := by
  obtain ⟨r, hr, hP⟩ := hE
  exact ⟨r, callL_body hp hpu (by rw [bodyL_eq _ _ ha]; exact hr), hP⟩
/-- A function that only reads. -/
theorem Sat_pure {p : LProg} {lo : Nat} {f : FuncId} {fn : LFunc} {args : List LV} {h : Heap} {v : LV} (hp : p f = some fn) (hpu : fn.pure = true) (hg : args.all LV.ground = false) (hv : v.ground = true) (ha : args.length = fn.nargs)
    (hE : Sat ((codeL (callL p) h.length fn.body (args ++ List.replicate (fn.ntmps - fn.nargs) (.tup [])) h).bind (endE fn.results)) fun r => r.1 = v) : callL p lo f args h = some (v, h) := by
  obtain ⟨⟨v', h'⟩, hr, rfl⟩ := hE
  exact callL_pure hp hpu hg (by rw [bodyL_eq _ _ ha]; exact hr) hv
theorem mm_max (k k' : IntKind) (a b : Int) : mmE true (.int k a) [.int k' b] = some (.int k (max a b)) := by
  simp only [mmE, if_true]; congr 2; omega
theorem mm_min (k k' : IntKind) (a b : Int) : mmE false (.int k a) [.int k' b] = some (.int k (min a b)) := by
  simp only [mmE, Bool.false_eq_true, if_false]; congr 2; omega
/-- A loop that counts up to n, and may leave early. -/
theorem loop_up {cf : CallF} {lo : Nat} {keep : List Nat} {c : LCode} {Q : Out × Env × Heap → Prop} (I : Nat → Env → Heap → Prop) (n : Nat)
    (step : ∀ i env h, i < n → I i env h → Sat (codeL cf lo c env h) fun r => match r with
      | (.norm, env', h') => I (i + 1) (keepE keep env') h'
      | (o, env', h') => Q (o, env', h'))
    (last : ∀ env h, I n env h → Sat (codeL cf lo c env h) fun r => match r with
      | (.norm, _, _) => False
      | (o, env', h') => Q (o, env', h'))
    {i : Nat} {env : Env} {h : Heap} (hi : i ≤ n) (h0 : I i (keepE keep env) h) : Sat (loopL cf lo keep c env h) Q := by
  obtain ⟨d, hd⟩ : ∃ d, n = i + d := ⟨n - i, by omega⟩
  induction d generalizing i env h with
  | zero =>
    obtain rfl : n = i := by omega
    rw [loopL_eq]
    refine (last _ _ h0).bind ?_
    rintro ⟨o, e, h1⟩ hr
    cases o with
    | norm => cases hr
    | exit j => exact ⟨_, rfl, hr⟩
    | ret => exact ⟨_, rfl, hr⟩
  | succ d ih =>
    rw [loopL_eq]
    refine (step i _ _ (by omega) h0).bind ?_
    rintro ⟨o, e, h1⟩ hr
    cases o with
    | norm => exact ih (by omega) hr (by omega)
    | exit j => exact ⟨_, rfl, hr⟩
    | ret => exact ⟨_, rfl, hr⟩
/-- A loop with a measure. -/
theorem loop_down {cf : CallF} {lo : Nat} {keep : List Nat} {c : LCode} {Q : Out × Env × Heap → Prop} (I : Nat → Env → Heap → Prop)
    (step : ∀ i env h, I i env h → Sat (codeL cf lo c env h) fun r => match r with
      | (.norm, env', h') => ∃ j, j < i ∧ I j (keepE keep env') h'
      | (o, env', h') => Q (o, env', h'))
    {i : Nat} {env : Env} {h : Heap} (h0 : I i (keepE keep env) h) : Sat (loopL cf lo keep c env h) Q := by
  induction i using Nat.strongRecOn generalizing env h with
  | ind i ih =>
    rw [loopL_eq]
    refine (step i _ _ h0).bind ?_
    rintro ⟨o, e, h1⟩ hr
    cases o with
    | norm => obtain ⟨j, hj, hI⟩ := hr; exact ih j hj hI
    | exit j => exact ⟨_, rfl, hr⟩
    | ret => exact ⟨_, rfl, hr⟩

theorem wrap_id {n : Int} (h0 : -9223372036854775808 ≤ n) (h1 : n < 9223372036854775808) : IntKind.i64.wrap n = n := by
  rw [IntKind.wrap_i64]; omega

/-- The length of what may be nil. -/
def lenF (h : Heap) : LV → Option (LV × Heap)
  | .nilslice => some (.int .i64 0, h)
  | .slice _ _ len _ _ => some (.int .i64 len, h)
  | _ => none
theorem opE_lenL {cf : CallF} {lo : Nat} {env : Env} {h : Heap} (x : X) : opE cf lo (.lenL x) env h = lenF h (x.ev env) := by
  simp only [opE]
  cases x.ev env <;> rfl
theorem lenF_nil (h : Heap) : lenF h .nilslice = some (.int .i64 0, h) := rfl
theorem lenF_slice (h : Heap) (n off len es : Nat) (f : Bool) : lenF h (.slice n off len es f) = some (.int .i64 len, h) := rfl

/-- A list of ints. -/
def RI (h : Heap) (v : LV) (xs : List Int) : Prop :=
  (v = .nilslice ∧ xs = []) ∨ ∃ n off full rw cs, v = .slice n off xs.length 1 full ∧ h[n]? = some (.cells rw cs) ∧ off + xs.length ≤ cs.length ∧ ∀ (i : Nat) (x : Int), xs[i]? = some x → cs[off + i]? = some (.int .i64 x)
theorem RI.len {h : Heap} {v : LV} {xs : List Int} (hr : RI h v xs) (h' : Heap) : lenF h' v = some (.int .i64 xs.length, h') := by
  rcases hr with ⟨rfl, rfl⟩ | ⟨n, off, full, rw', cs, rfl, _⟩ <;> rfl
theorem RI.at {h : Heap} {v : LV} {xs : List Int} (hr : RI h v xs) {i : Nat} {x : Int} (hx : xs[i]? = some x) : ∃ n off full rw cs, v = .slice n off xs.length 1 full ∧ h[n]? = some (.cells rw cs) ∧ cs[off + i]? = some (.int .i64 x) ∧ i < xs.length := by
  have hi : i < xs.length := lt_of_getElem? hx
  rcases hr with ⟨_, rfl⟩ | ⟨n, off, full, rw', cs, hv, hn, _, hc⟩
  · cases hx
  · exact ⟨n, off, full, rw', cs, hv, hn, hc i x hx, hi⟩
/-- A block that v names is the same. -/
def KeepB (h h' : Heap) (v : LV) : Prop := ∀ n off len es f, v = .slice n off len es f → ∀ b, h[n]? = some b → h'[n]? = some b
theorem RI.keep {h h' : Heap} {v : LV} {xs : List Int} (hr : RI h v xs) (hk : KeepB h h' v) : RI h' v xs := by
  rcases hr with h1 | ⟨n, off, full, rw', cs, rfl, hn, hl, hc⟩
  · exact .inl h1
  · exact .inr ⟨n, off, full, rw', cs, rfl, hk _ _ _ _ _ rfl _ hn, hl, hc⟩
/-- An own list of ints, above a mark. -/
def OI (h : Heap) (base : Nat) (v : LV) (xs : List Int) : Prop :=
  (v = .nilslice ∧ xs = []) ∨ ∃ n full, v = .slice n 0 xs.length 1 full ∧ base ≤ n ∧ h[n]? = some (.cells true (xs.map (.int .i64)))
theorem OI.ri {h : Heap} {base : Nat} {v : LV} {xs : List Int} (hr : OI h base v xs) : RI h v xs := by
  rcases hr with h1 | ⟨n, full, rfl, _, hn⟩
  · exact .inl h1
  · refine .inr ⟨n, 0, full, true, _, rfl, hn, by simp, fun i x hx => ?_⟩
    simp [hx]
theorem OI.keep {h h' : Heap} {base : Nat} {v : LV} {xs : List Int} (hr : OI h base v xs) (hk : ∀ n b, base ≤ n → h[n]? = some b → h'[n]? = some b) : OI h' base v xs := by
  rcases hr with h1 | ⟨n, full, rfl, hb, hn⟩
  · exact .inl h1
  · exact .inr ⟨n, full, rfl, hb, hk n _ hb hn⟩
theorem OI.lower {h : Heap} {base base' : Nat} {v : LV} {xs : List Int} (hr : OI h base v xs) (hb : base' ≤ base) : OI h base' v xs := by
  rcases hr with h1 | ⟨n, full, rfl, hb', hn⟩
  · exact .inl h1
  · exact .inr ⟨n, full, rfl, by omega, hn⟩
/-- Appending one number. -/
theorem OI.append {lo base : Nat} {h : Heap} {v : LV} {xs : List Int} {m : Nat} {x : Int} (hr : OI h base v xs) (hlo : lo ≤ base) (hb : base ≤ h.length) (hm : h[m]? = some (.cells true [.int .i64 x])) (hl : (xs.length : Int) < 1000000) :
    ∃ h', appendE lo 1 8 v (.slice m 0 1 1 true) h = some (.slice h.length 0 (xs.length + 1) 1 false, h') ∧ OI h' base (.slice h.length 0 (xs.length + 1) 1 false) (xs ++ [x]) ∧ h'.length = h.length + 1 ∧ (∀ j, j < base → h'[j]? = h[j]?) ∧ (∀ j w, j < h.length → (∀ off len es f, v ≠ .slice j off len es f) → h[j]? = w → h'[j]? = w) := by
  have src : srcOf 1 h (.slice m 0 1 1 true) = some ([.int .i64 x], 1) := by simp [srcOf, cellsOf, hm]
  rcases hr with ⟨rfl, rfl⟩ | ⟨n, full, rfl, hbn, hn⟩
  · refine ⟨h ++ [.cells true [.int .i64 x]], ?_, ?_, by simp, ?_, ?_⟩
    · simp [appendE, src]
    · exact .inr ⟨h.length, false, by simp, hb, by simp⟩
    · intro j hj; rw [List.getElem?_append_left (by omega)]
    · intro j w hj _ hw; rw [List.getElem?_append_left (by omega)]; exact hw
  · have e : ((xs.map (LV.int .i64)).drop 0).take (xs.length * 1) = xs.map (.int .i64) := by simp [List.take_of_length_le]
    cases full with
    | true =>
      refine ⟨h ++ [.cells true (xs.map (.int .i64) ++ [.int .i64 x])], ?_, ?_, by simp, ?_, ?_⟩
      · simp only [appendE, src, hn, e, if_true]
        rw [if_neg (by simp), if_neg (by simp), if_pos (by omega), if_pos (by simp)]
      · exact .inr ⟨h.length, false, by simp, hb, by simp⟩
      · intro j hj; rw [List.getElem?_append_left (by omega)]
      · intro j w hj _ hw; rw [List.getElem?_append_left (by omega)]; exact hw
    | false =>
      refine ⟨h.set n .dead ++ [.cells true (xs.map (.int .i64) ++ [.int .i64 x])], ?_, ?_, by simp, ?_, ?_⟩
      · simp only [appendE, src, hn, e]
        rw [if_neg (by simp), if_neg (by simp), if_pos (by omega), if_pos (by simp)]
        simp [show lo ≤ n from by omega]
      · exact .inr ⟨h.length, false, by simp, hb, by simp⟩
      · intro j hj
        have := lt_of_getElem? hn
        rw [List.getElem?_append_left (by simp; omega), List.getElem?_set_ne (by omega)]
      · intro j w hj hv hw
        rw [List.getElem?_append_left (by simp; omega), List.getElem?_set_ne (fun he => hv 0 xs.length 1 false (by rw [he]))]; exact hw
/-- A list of lists of ints. -/
def LL (h : Heap) (v : LV) (L : List (List Int)) : Prop :=
  ∃ n full rw vs, v = .slice n 0 L.length 1 full ∧ h[n]? = some (.cells rw vs) ∧ vs.length = L.length ∧ ∀ (i : Nat) (xs : List Int), L[i]? = some xs → ∃ w, vs[i]? = some w ∧ RI h w xs
theorem LL.len {h : Heap} {v : LV} {L : List (List Int)} (hr : LL h v L) (h' : Heap) : lenF h' v = some (.int .i64 L.length, h') := by
  obtain ⟨n, full, rw', vs, rfl, _⟩ := hr; rfl
theorem LL.keep {h h' : Heap} {v : LV} {L : List (List Int)} (hr : LL h v L) (hk : ∀ j, j < h.length → h'[j]? = h[j]?) : LL h' v L := by
  obtain ⟨n, full, rw', vs, rfl, hn, hl, hc⟩ := hr
  refine ⟨n, full, rw', vs, rfl, by rw [hk n (lt_of_getElem? hn)]; exact hn, hl, fun i xs hx => ?_⟩
  obtain ⟨w, hw, hr⟩ := hc i xs hx
  exact ⟨w, hw, hr.keep fun n _ _ _ _ _ b hb => by rw [hk n (lt_of_getElem? hb)]; exact hb⟩
theorem cells_agg (cs : List LV) : (LV.agg cs).cells = cs := rfl
theorem cells_bool (b : Bool) : LV.cells (LV.bool b) = [(LV.bool b)] := rfl
theorem single_bool (b : Bool) : LV.single (LV.bool b) = true := rfl
theorem cells_int (k : IntKind) (n : Int) : LV.cells (LV.int k n) = [(LV.int k n)] := rfl
theorem single_int (k : IntKind) (n : Int) : LV.single (LV.int k n) = true := rfl
theorem cells_str (s : List UInt8) : LV.cells (LV.str s) = [(LV.str s)] := rfl
theorem single_str (s : List UInt8) : LV.single (LV.str s) = true := rfl
theorem cells_ptr (n off : Nat) : LV.cells (LV.ptr n off) = [(LV.ptr n off)] := rfl
theorem single_ptr (n off : Nat) : LV.single (LV.ptr n off) = true := rfl
theorem cells_nilptr : LV.cells LV.nilptr = [LV.nilptr] := rfl
theorem single_nilptr : LV.single LV.nilptr = true := rfl
theorem cells_slice (n off len es : Nat) (f : Bool) : LV.cells (LV.slice n off len es f) = [(LV.slice n off len es f)] := rfl
theorem single_slice (n off len es : Nat) (f : Bool) : LV.single (LV.slice n off len es f) = true := rfl
theorem cells_nilslice : LV.cells LV.nilslice = [LV.nilslice] := rfl
theorem single_nilslice : LV.single LV.nilslice = true := rfl
theorem cells_map (n : Nat) : LV.cells (LV.map n) = [(LV.map n)] := rfl
theorem single_map (n : Nat) : LV.single (LV.map n) = true := rfl
theorem cells_nilmap : LV.cells LV.nilmap = [LV.nilmap] := rfl
theorem single_nilmap : LV.single LV.nilmap = true := rfl
theorem cells_func (f : FuncId) (caps : List LV) : LV.cells (LV.func f caps) = [(LV.func f caps)] := rfl
theorem single_func (f : FuncId) (caps : List LV) : LV.single (LV.func f caps) = true := rfl
theorem cells_nilfunc : LV.cells LV.nilfunc = [LV.nilfunc] := rfl
theorem single_nilfunc : LV.single LV.nilfunc = true := rfl
theorem cells_iface (t : TypeId) (v : LV) : LV.cells (LV.iface t v) = [(LV.iface t v)] := rfl
theorem single_iface (t : TypeId) (v : LV) : LV.single (LV.iface t v) = true := rfl
theorem cells_nilif : LV.cells LV.nilif = [LV.nilif] := rfl
theorem single_nilif : LV.single LV.nilif = true := rfl
theorem LL.ground {h : Heap} {v : LV} {L : List (List Int)} (hr : LL h v L) : v.ground = false := by
  obtain ⟨n, full, rw', vs, rfl, _⟩ := hr; rfl
theorem splice_zero (cs : List LV) (off : Nat) : splice cs off [] = cs := by simp [splice]
theorem splice_cons (c : LV) (cs : List LV) (off : Nat) (vs : List LV) : splice (c :: cs) (off + 1) vs = c :: splice cs off vs := by
  unfold splice; rw [show off + 1 + vs.length = off + vs.length + 1 by omega]; rfl
theorem splice_head (c v : LV) (cs vs : List LV) : splice (c :: cs) 0 (v :: vs) = v :: splice cs 0 vs := by
  unfold splice; simp
theorem splice_one (cs : List LV) (k : Nat) (v : LV) (hk : k < cs.length) : splice cs k [v] = cs.set k v := by
  unfold splice
  rw [List.set_eq_take_append_cons_drop, if_pos hk]
  simp
/-- What is only read stays. -/
def RoKeep (h h' : Heap) : Prop := ∀ (m : Nat) (cs : List LV), h[m]? = some (.cells false cs) → h'[m]? = some (.cells false cs)
theorem RoKeep.refl (h : Heap) : RoKeep h h := fun _ _ h => h
theorem RoKeep.trans {h1 h2 h3 : Heap} (a : RoKeep h1 h2) (b : RoKeep h2 h3) : RoKeep h1 h3 := fun m cs h => b m cs (a m cs h)
theorem RoKeep.app (h x : Heap) : RoKeep h (h ++ x) := fun m cs hm => by rw [List.getElem?_append_left (lt_of_getElem? hm)]; exact hm
theorem RoKeep.set {h : Heap} {n : Nat} {b b' : LBlk} (hn : h[n]? = some b) (hb : b.rw = true) : RoKeep h (h.set n b') := fun m cs hm => by
  rw [List.getElem?_set_ne]
  · exact hm
  · rintro rfl; rw [hn] at hm; cases hm; cases hb
/-- A list of ints that is only read. -/
def RInts (h : Heap) (v : LV) (xs : List Int) : Prop :=
  (v = .nilslice ∧ xs = []) ∨ ∃ n off full cs, v = .slice n off xs.length 1 full ∧ h[n]? = some (.cells false cs) ∧ off + xs.length ≤ cs.length ∧ ∀ (i : Nat) (x : Int), xs[i]? = some x → cs[off + i]? = some (.int .i64 x)
theorem RInts.keep {h h' : Heap} {v : LV} {xs : List Int} (hr : RInts h v xs) (hk : RoKeep h h') : RInts h' v xs := by
  rcases hr with h1 | ⟨n, off, full, cs, rfl, hn, hl, hc⟩
  · exact .inl h1
  · exact .inr ⟨n, off, full, cs, rfl, hk n cs hn, hl, hc⟩
def Strm (h : Heap) (s : Nat) : Prop := ∃ v xs, h[s]? = some (.cells true [v]) ∧ RInts h v xs
theorem Strm.keep {h h' : Heap} {s : Nat} (hs : Strm h s) (hk : RoKeep h h') (he : h'[s]? = h[s]?) : Strm h' s := by
  obtain ⟨v, xs, hv, hr⟩ := hs
  exact ⟨v, xs, by rw [he]; exact hv, hr.keep hk⟩
theorem Strm.lt {h : Heap} {s : Nat} (hs : Strm h s) : s < h.length := by
  obtain ⟨v, xs, hv, hr⟩ := hs; exact lt_of_getElem? hv
end Lg
