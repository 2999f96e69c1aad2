/- Lists of wider elements. -/
import Derived.Test.YtehpimogdcilaaaLgSpec
namespace Lg
open Go
/-- A list whose elements take es cells. -/
def RA {α : Type} (es : Nat) (f : α → List LV) (h : Heap) (v : LV) (xs : List α) : Prop :=
  (v = .nilslice ∧ xs = []) ∨ ∃ n off full rw cs, v = .slice n off xs.length es full ∧ h[n]? = some (.cells rw cs) ∧ off + xs.length * es ≤ cs.length ∧ ∀ (i : Nat) (x : α), xs[i]? = some x → (cs.drop (off + i * es)).take es = f x
theorem RA.len {α : Type} {es : Nat} {f : α → List LV} {h : Heap} {v : LV} {xs : List α} (hr : RA es f h v xs) (h' : Heap) : lenF h' v = some (.int .i64 xs.length, h') := by
  rcases hr with ⟨rfl, rfl⟩ | ⟨n, off, full, rw', cs, rfl, _⟩ <;> rfl
theorem RA.at {α : Type} {es : Nat} {f : α → List LV} {h : Heap} {v : LV} {xs : List α} (hr : RA es f h v xs) {i : Nat} {x : α} (hx : xs[i]? = some x) : ∃ n off full rw cs, v = .slice n off xs.length es full ∧ h[n]? = some (.cells rw cs) ∧ (cs.drop (off + i * es)).take es = f x ∧ off + i * es + es ≤ cs.length ∧ i < xs.length := by
  have hi : i < xs.length := lt_of_getElem? hx
  rcases hr with ⟨_, rfl⟩ | ⟨n, off, full, rw', cs, hv, hn, hl, hc⟩
  · cases hx
  · refine ⟨n, off, full, rw', cs, hv, hn, hc i x hx, ?_, hi⟩
    have : (i + 1) * es ≤ xs.length * es := Nat.mul_le_mul_right _ hi
    rw [Nat.add_mul] at this; omega
theorem RA.keep {α : Type} {es : Nat} {f : α → List LV} {h h' : Heap} {v : LV} {xs : List α} (hr : RA es f h v xs) (hk : KeepB h h' v) : RA es f h' v xs := by
  rcases hr with h1 | ⟨n, off, full, rw', cs, rfl, hn, hl, hc⟩
  · exact .inl h1
  · exact .inr ⟨n, off, full, rw', cs, rfl, hk _ _ _ _ _ rfl _ hn, hl, hc⟩
theorem KeepB.of {h h' : Heap} (hk : ∀ j, j < h.length → h'[j]? = h[j]?) (v : LV) : KeepB h h' v := fun n _ _ _ _ _ b hb => by rw [hk n (lt_of_getElem? hb)]; exact hb
theorem RA.ext {α : Type} {es : Nat} {f : α → List LV} {h h' : Heap} {v : LV} {xs : List α} (hr : RA es f h v xs) (hk : ∀ j, j < h.length → h'[j]? = h[j]?) : RA es f h' v xs := hr.keep (KeepB.of hk v)
theorem RI.ext {h h' : Heap} {v : LV} {xs : List Int} (hr : RI h v xs) (hk : ∀ j, j < h.length → h'[j]? = h[j]?) : RI h' v xs := hr.keep (KeepB.of hk v)
/-- The first elements. -/
theorem RA.take {α : Type} {es : Nat} {f : α → List LV} {h : Heap} {n off len : Nat} {full full' : Bool} {xs : List α} (hr : RA es f h (.slice n off len es full) xs) {k : Nat} (hk : k ≤ xs.length) : RA es f h (.slice n off k es full') (xs.take k) := by
  rcases hr with ⟨h1, _⟩ | ⟨n', off', full', rw', cs, hv, hn, hl, hc⟩
  · cases h1
  · cases hv
    refine .inr ⟨n, off, _, rw', cs, by rw [List.length_take, Nat.min_eq_left hk], hn, ?_, fun i x hx => hc i x ?_⟩
    · rw [List.length_take, Nat.min_eq_left hk]
      have := Nat.mul_le_mul_right es hk
      omega
    · rw [List.getElem?_take] at hx
      split at hx
      · exact hx
      · cases hx
/-- An own list, above a mark. -/
def OA {α : Type} (es : Nat) (f : α → List LV) (h : Heap) (base : Nat) (v : LV) (xs : List α) : Prop :=
  (v = .nilslice ∧ xs = []) ∨ ∃ n full, v = .slice n 0 xs.length es full ∧ base ≤ n ∧ h[n]? = some (.cells true (xs.flatMap f))
theorem flat_len {α : Type} {es : Nat} {f : α → List LV} (hf : ∀ x, (f x).length = es) (xs : List α) : (xs.flatMap f).length = xs.length * es := by
  induction xs with
  | nil => simp
  | cons x r ih => rw [List.flatMap_cons, List.length_append, ih, hf, List.length_cons, Nat.add_mul]; omega
theorem flat_at {α : Type} {es : Nat} {f : α → List LV} (hf : ∀ x, (f x).length = es) (xs : List α) (i : Nat) (x : α) (hx : xs[i]? = some x) : ((xs.flatMap f).drop (i * es)).take es = f x := by
  induction xs generalizing i with
  | nil => cases hx
  | cons y r ih =>
    rw [List.flatMap_cons]
    cases i with
    | zero =>
      cases hx
      rw [Nat.zero_mul, List.drop_zero, List.take_append_of_le_length (by rw [hf]; exact Nat.le_refl _), ← hf x, List.take_length]
    | succ i =>
      rw [show (i + 1) * es = (f y).length + i * es by rw [hf, Nat.add_mul]; omega, List.drop_append]
      rw [List.drop_of_length_le (by omega), List.nil_append, show (f y).length + i * es - (f y).length = i * es by omega]
      exact ih i hx
theorem OA.ra {α : Type} {es : Nat} {f : α → List LV} (hf : ∀ x, (f x).length = es) {h : Heap} {base : Nat} {v : LV} {xs : List α} (hr : OA es f h base v xs) : RA es f h v xs := by
  rcases hr with h1 | ⟨n, full, rfl, _, hn⟩
  · exact .inl h1
  · exact .inr ⟨n, 0, full, true, _, rfl, hn, by rw [flat_len hf]; omega, fun i x hx => by rw [Nat.zero_add]; exact flat_at hf xs i x hx⟩
theorem OA.keep {α : Type} {es : Nat} {f : α → List LV} {h h' : Heap} {base : Nat} {v : LV} {xs : List α} (hr : OA es f h base v xs) (hk : ∀ n b, base ≤ n → h[n]? = some b → h'[n]? = some b) : OA es f h' base v xs := by
  rcases hr with h1 | ⟨n, full, rfl, hb, hn⟩
  · exact .inl h1
  · exact .inr ⟨n, full, rfl, hb, hk n _ hb hn⟩
/-- Appending one element. -/
theorem OA.append {α : Type} {es bytes : Nat} {f : α → List LV} (hf : ∀ x, (f x).length = es) {lo base : Nat} {h : Heap} {v : LV} {xs : List α} {m : Nat} {x : α} (hr : OA es f h base v xs) (hlo : lo ≤ base) (hb : base ≤ h.length) (hm : h[m]? = some (.cells true (f x))) (hl : (xs.length + 1 + 512) * bytes ≤ 140737488355328) :
    ∃ h', appendE lo es bytes v (.slice m 0 1 es true) h = some (.slice h.length 0 (xs.length + 1) es false, h') ∧ OA es f h' base (.slice h.length 0 (xs.length + 1) es false) (xs ++ [x]) ∧ h'.length = h.length + 1 ∧ (∀ j, j < base → h'[j]? = h[j]?) ∧ (∀ j w, j < h.length → (∀ off len es f, v ≠ .slice j off len es f) → h[j]? = w → h'[j]? = w) := by
  have src : srcOf es h (.slice m 0 1 es true) = some (f x, 1) := by
    simp only [srcOf, if_true, cellsOf, hm]
    rw [if_pos (by rw [hf]; omega)]
    simp only [List.drop_zero, Nat.one_mul]
    rw [← hf x, List.take_length]
  have fl : ∀ ys : List α, (ys ++ [x]).flatMap f = ys.flatMap f ++ f x := fun ys => by rw [List.flatMap_append, List.flatMap_singleton]
  rcases hr with ⟨rfl, rfl⟩ | ⟨n, full, rfl, hbn, hn⟩
  · refine ⟨h ++ [.cells true (f x)], ?_, ?_, by simp, ?_, ?_⟩
    · simp only [appendE, src]
      rw [if_neg (by simp), if_pos (by simpa using hl)]; rfl
    · exact .inr ⟨h.length, false, by simp, hb, by rw [List.getElem?_concat_length, fl]; rfl⟩
    · intro j hj; rw [List.getElem?_append_left (by omega)]
    · intro j w hj _ hw; rw [List.getElem?_append_left (by omega)]; exact hw
  · have e : ((xs.flatMap f).drop 0).take (xs.length * es) = xs.flatMap f := by rw [List.drop_zero, ← flat_len hf xs, List.take_length]
    cases full with
    | true =>
      refine ⟨h ++ [.cells true (xs.flatMap f ++ f x)], ?_, ?_, by simp, ?_, ?_⟩
      · simp only [appendE, src, hn, e, if_true]
        rw [if_neg (by simp), if_neg (by simp), if_pos (by omega), if_pos (by rw [flat_len hf]; omega)]
      · exact .inr ⟨h.length, false, by simp, hb, by rw [List.getElem?_concat_length, fl]⟩
      · intro j hj; rw [List.getElem?_append_left (by omega)]
      · intro j w hj _ hw; rw [List.getElem?_append_left (by omega)]; exact hw
    | false =>
      refine ⟨h.set n .dead ++ [.cells true (xs.flatMap f ++ f x)], ?_, ?_, by simp, ?_, ?_⟩
      · simp only [appendE, src, hn, e]
        rw [if_neg (by simp), if_neg (by simp), if_pos (by omega), if_pos (by rw [flat_len hf]; omega)]
        simp [show lo ≤ n from by omega]
      · exact .inr ⟨h.length, false, by simp, hb, by rw [show h.length = (h.set n .dead).length by simp, List.getElem?_concat_length, fl]⟩
      · intro j hj
        have := lt_of_getElem? hn
        rw [List.getElem?_append_left (by simp; omega), List.getElem?_set_ne (by omega)]
      · intro j w hj hv hw
        rw [List.getElem?_append_left (by simp; omega), List.getElem?_set_ne (fun he => hv 0 xs.length es false (by rw [he]))]; exact hw
theorem RA.nil {α : Type} {es : Nat} {f : α → List LV} {h : Heap} {v : LV} {xs : List α} (hr : RA es f h v xs) (hg : v.ground = true) : RA es f [] v xs := by
  rcases hr with h1 | ⟨n, off, full, rw', cs, rfl, _⟩
  · exact .inl h1
  · exact absurd hg (by simp [LV.ground, LV.groundN])
theorem RI.nil {h : Heap} {v : LV} {xs : List Int} (hr : RI h v xs) (hg : v.ground = true) : RI [] v xs := by
  rcases hr with h1 | ⟨n, off, full, rw', cs, rfl, _⟩
  · exact .inl h1
  · exact absurd hg (by simp [LV.ground, LV.groundN])
/-- A function that only reads: whatever is known of the heap that it sees. -/
theorem Sat_pureR {p : LProg} {lo : Nat} {f : FuncId} {fn : LFunc} {args : List LV} {h : Heap} {P : LV → Prop} (R : Heap → Prop) (hp : p f = some fn) (hpu : fn.pure = true) (ha : args.length = fn.nargs) (hR : R h) (hR0 : args.all LV.ground = true → R [])
    (hE : ∀ h', R h' → Sat ((codeL (callL p) h'.length fn.body (args ++ List.replicate (fn.ntmps - fn.nargs) (.tup [])) h').bind (endE fn.results)) fun r => r.1.ground = true ∧ P r.1) : ∃ v, callL p lo f args h = some (v, h) ∧ P v := by
  by_cases hg : args.all LV.ground = true
  · obtain ⟨⟨v, h1⟩, hr, hv, hP⟩ := hE [] (hR0 hg)
    exact ⟨v, callL_pure0 hp hpu hg (by rw [bodyL_eq _ _ ha]; exact hr) hv, hP⟩
  · obtain ⟨⟨v, h1⟩, hr, hv, hP⟩ := hE h hR
    exact ⟨v, callL_pure hp hpu (Bool.eq_false_iff.2 hg) (by rw [bodyL_eq _ _ ha]; exact hr) hv, hP⟩
theorem RI.single {h : Heap} {v : LV} {xs : List Int} (hr : RI h v xs) : v.single = true := by
  rcases hr with ⟨rfl, _⟩ | ⟨n, off, full, rw', cs, rfl, _⟩ <;> rfl
end Lg
