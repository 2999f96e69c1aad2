import Derived.Lib.Bytealg
import Derived.Test.YtpclbojoknhnlaaDoorVVgRows
import Derived.Test.YtpclbojoknhnlaaDoorVVgBits
/- Natural numbers as strings of bytes, most significant byte first; digits in base 2^32, least significant first. -/
namespace Vg.Nm
/-- The number of a string of bytes. -/
def valB : List UInt8 → Nat
  | [] => 0
  | c :: r => c.toNat * 256 ^ r.length + valB r
theorem valB_snoc : ∀ (s : List UInt8) (c : UInt8), valB (s ++ [c]) = 256 * valB s + c.toNat
  | [], c => by simp [valB]
  | d :: s, c => by
    have ih := valB_snoc s c
    simp only [List.cons_append, valB, ih, List.length_append, List.length_singleton, Nat.pow_succ]
    rw [Nat.mul_add, ← Nat.mul_assoc, Nat.mul_comm 256 (d.toNat * _), Nat.mul_assoc, ← Nat.mul_assoc d.toNat]
    rw [Nat.mul_assoc d.toNat]; omega
theorem u8_lt (c : UInt8) : c.toNat < 256 := c.toNat_lt
theorem valB_lt : ∀ s : List UInt8, valB s < 256 ^ s.length
  | [] => by simp [valB]
  | c :: r => by
    have ih := valB_lt r
    have hc := u8_lt c
    simp only [valB, List.length_cons, Nat.pow_succ]
    have : (c.toNat + 1) * 256 ^ r.length ≤ 256 * 256 ^ r.length := Nat.mul_le_mul_right _ hc
    rw [Nat.add_mul, Nat.one_mul] at this
    rw [Nat.mul_comm (256 ^ r.length) 256]; omega
/-- The string of a number, without leading zeros. -/
def encB (n : Nat) : List UInt8 := if h : n = 0 then [] else encB (n / 256) ++ [UInt8.ofNat (n % 256)]
termination_by n
decreasing_by exact Nat.div_lt_self (Nat.pos_of_ne_zero h) (by decide)
theorem encB_zero : encB 0 = [] := by rw [encB]; simp
theorem encB_pos {n : Nat} (h : n ≠ 0) : encB n = encB (n / 256) ++ [UInt8.ofNat (n % 256)] := by rw [encB]; simp [h]
theorem ofNat_mod (n : Nat) : (UInt8.ofNat (n % 256)).toNat = n % 256 := by
  rw [UInt8.toNat_ofNat']; exact Nat.mod_eq_of_lt (Nat.mod_lt _ (by decide))
theorem val_enc (n : Nat) : valB (encB n) = n := by
  induction n using Nat.strongRecOn with
  | ind n ih =>
    by_cases h : n = 0
    · subst h; rw [encB_zero]; rfl
    · rw [encB_pos h, valB_snoc, ih (n / 256) (Nat.div_lt_self (Nat.pos_of_ne_zero h) (by decide)), ofNat_mod]
      exact Nat.div_add_mod n 256
/-- No zero in front. -/
def canon : List UInt8 → Prop
  | [] => True
  | c :: _ => c ≠ 0
theorem canon_snoc {s : List UInt8} {c : UInt8} (h : canon s) (hc : s = [] → c ≠ 0) : canon (s ++ [c]) := by
  cases s with
  | nil => exact hc rfl
  | cons d s => exact h
theorem enc_canon (n : Nat) : canon (encB n) := by
  induction n using Nat.strongRecOn with
  | ind n ih =>
    by_cases h : n = 0
    · subst h; rw [encB_zero]; trivial
    · rw [encB_pos h]
      refine canon_snoc (ih _ (Nat.div_lt_self (Nat.pos_of_ne_zero h) (by decide))) fun h0 hz => ?_
      have h1 : n / 256 = 0 := by have := val_enc (n / 256); rw [h0] at this; exact this.symm
      have h2 := congrArg UInt8.toNat hz
      rw [ofNat_mod] at h2
      have : n % 256 = 0 := h2
      omega
theorem enc_val_snoc {s : List UInt8} {c : UInt8} (hs : encB (valB s) = s) (h : s = [] → c ≠ 0) : encB (valB (s ++ [c])) = s ++ [c] := by
  rw [valB_snoc]
  have hc := u8_lt c
  have hne : 256 * valB s + c.toNat ≠ 0 := by
    intro h0
    have h1 : valB s = 0 := by omega
    have h2 : c.toNat = 0 := by omega
    rw [h1, encB_zero] at hs
    exact h hs.symm (UInt8.toNat_inj.1 (by rw [h2]; rfl))
  rw [encB_pos hne]
  have e1 : (256 * valB s + c.toNat) / 256 = valB s := by omega
  have e2 : (256 * valB s + c.toNat) % 256 = c.toNat := by omega
  rw [e1, e2, hs]
  congr 2
  exact UInt8.toNat_inj.1 (by rw [UInt8.toNat_ofNat']; exact Nat.mod_eq_of_lt hc)
theorem enc_val {s : List UInt8} (h : canon s) : encB (valB s) = s := by
  have key : ∀ (n : Nat) (s : List UInt8), s.length = n → canon s → encB (valB s) = s := by
    intro n
    induction n with
    | zero => intro s hl _; rw [List.length_eq_zero_iff.1 hl]; exact encB_zero
    | succ n ih =>
      intro s hl hs
      obtain ⟨t, c, rfl⟩ : ∃ t c, s = t ++ [c] := by
        rcases List.eq_nil_or_concat s with rfl | ⟨t, c, rfl⟩
        · simp at hl
        · exact ⟨t, c, by simp⟩
      have hl' : t.length = n := by simpa using hl
      cases t with
      | nil => exact enc_val_snoc encB_zero fun _ => hs
      | cons d t => exact enc_val_snoc (ih _ hl' hs) fun h => by cases h
  exact key _ s rfl h
/-- Without leading zeros. -/
def trimB : List UInt8 → List UInt8
  | [] => []
  | c :: r => if c = 0 then trimB r else c :: r
theorem trim_val : ∀ s, valB (trimB s) = valB s
  | [] => rfl
  | c :: r => by
    unfold trimB
    split
    · rename_i h; subst h; rw [trim_val r]; simp [valB]
    · rfl
theorem trim_canon : ∀ s, canon (trimB s)
  | [] => trivial
  | c :: r => by
    unfold trimB
    split
    · exact trim_canon r
    · rename_i h; exact h
theorem trim_enc (s : List UInt8) : trimB s = encB (valB s) := by rw [← trim_val s, enc_val (trim_canon s)]
theorem enc_len {n k : Nat} (h : n < 256 ^ k) : (encB n).length ≤ k := by
  induction k generalizing n with
  | zero => have : n = 0 := by simpa using h
            subst this; rw [encB_zero]; exact Nat.le_refl 0
  | succ k ih =>
    by_cases h0 : n = 0
    · subst h0; rw [encB_zero]; exact Nat.zero_le _
    · rw [encB_pos h0, List.length_append]
      have := ih (n := n / 256) (by rw [Nat.pow_succ] at h; exact Nat.div_lt_of_lt_mul (by rw [Nat.mul_comm]; exact h))
      simp only [List.length_singleton]; omega
/-- The base of digits. -/
def B32 : Nat := 4294967296
theorem B32_eq : B32 = 4294967296 := rfl
end Vg.Nm
/- Digits of natural numbers. -/
namespace Vg.Nm
/-- A digit in base 2^32. -/
def dig (m j : Nat) : Nat := m / B32 ^ j % B32
def digs (n m : Nat) : List Nat := (List.range n).map (dig m)
theorem B32_pos : 0 < B32 := by rw [B32_eq]; decide
theorem dig_lt (m j : Nat) : dig m j < B32 := Nat.mod_lt _ B32_pos
theorem digs_len (n m : Nat) : (digs n m).length = n := by simp [digs]
theorem digs_get {n m j : Nat} (h : j < n) : (digs n m)[j]? = some (dig m j) := by
  unfold digs; rw [List.getElem?_map, List.getElem?_range h]; rfl
theorem B_pos (j : Nat) : 0 < B32 ^ j := Nat.pow_pos B32_pos
theorem dig_big {m j : Nat} (h : m < B32 ^ j) : dig m j = 0 := by unfold dig; rw [Nat.div_eq_of_lt h, Nat.zero_mod]
theorem pow256 (j : Nat) : 256 ^ (4 * j) = B32 ^ j := by rw [Nat.pow_mul, show (256 : Nat) ^ 4 = B32 from rfl]
/-- One more byte in front. -/
theorem dig_byte {m c j r : Nat} (hm : m < 256 ^ (4 * j + r)) (hc : c < 256) (hr : r < 4) (k : Nat) :
    dig (m + c * 256 ^ (4 * j + r)) k = if k = j then dig m j + c * 256 ^ r else dig m k := by
  have e : 256 ^ (4 * j + r) = B32 ^ j * 256 ^ r := by rw [Nat.pow_add, pow256]
  rw [e] at hm ⊢
  have hdiv : m / B32 ^ j < 256 ^ r := Nat.div_lt_of_lt_mul hm
  have hr4 : 256 ^ r * 256 ≤ B32 := by
    have : 256 ^ (r + 1) ≤ 256 ^ 4 := Nat.pow_le_pow_right (by decide) hr
    rw [Nat.pow_succ, show (256 : Nat) ^ 4 = B32 from rfl] at this; exact this
  have hsum : m / B32 ^ j + c * 256 ^ r < B32 := by
    have : (c + 1) * 256 ^ r ≤ 256 * 256 ^ r := Nat.mul_le_mul_right _ hc
    rw [Nat.add_mul, Nat.one_mul] at this
    have h2 : 256 * 256 ^ r = 256 ^ r * 256 := Nat.mul_comm _ _
    omega
  have e2 : m + c * (B32 ^ j * 256 ^ r) = m + B32 ^ j * (c * 256 ^ r) := by rw [← Nat.mul_assoc, Nat.mul_comm c, Nat.mul_assoc]
  rw [e2]
  by_cases hk : k = j
  · subst hk
    rw [if_pos rfl]
    unfold dig
    rw [Nat.add_mul_div_left _ _ (B_pos k), Nat.mod_eq_of_lt hsum, Nat.mod_eq_of_lt (by omega)]
  · rw [if_neg hk]
    rcases Nat.lt_or_gt_of_ne hk with hlt | hgt
    · obtain ⟨d, rfl⟩ : ∃ d, j = k + (d + 1) := ⟨j - k - 1, by omega⟩
      unfold dig
      have e3 : B32 ^ (k + (d + 1)) * (c * 256 ^ r) = B32 ^ k * (B32 * (B32 ^ d * (c * 256 ^ r))) := by
        rw [Nat.pow_add, Nat.pow_succ, Nat.mul_comm (B32 ^ d) B32, Nat.mul_assoc, Nat.mul_assoc]
      rw [e3, Nat.add_mul_div_left _ _ (B_pos k), Nat.add_mul_mod_self_left]
    · obtain ⟨d, rfl⟩ : ∃ d, k = j + 1 + d := ⟨k - j - 1, by omega⟩
      have hb : B32 ^ (j + 1) ≤ B32 ^ (j + 1 + d) := Nat.pow_le_pow_right (by decide) (by omega)
      have h1 : m < B32 ^ (j + 1) := by
        refine Nat.lt_of_lt_of_le hm ?_
        rw [Nat.pow_succ]
        exact Nat.mul_le_mul_left _ (by omega)
      have h2 : m + B32 ^ j * (c * 256 ^ r) < B32 ^ (j + 1) := by
        have h3 : (m + B32 ^ j * (c * 256 ^ r)) / B32 ^ j < B32 := by rw [Nat.add_mul_div_left _ _ (B_pos j)]; exact hsum
        have h4 := (Nat.div_lt_iff_lt_mul (B_pos j)).1 h3
        rw [Nat.pow_succ, Nat.mul_comm (B32 ^ j) B32]
        exact h4
      rw [dig_big (Nat.lt_of_lt_of_le h1 hb), dig_big (Nat.lt_of_lt_of_le h2 hb)]
theorem mod_step (m b c : Nat) : m % (b * c) = m % b + b * (m / b % c) := Nat.mod_mul
/-- A byte of a number. -/
def byt (m q : Nat) : Nat := m / 256 ^ q % 256
/-- The last so many bytes, the most significant one first. -/
def fixB : Nat → Nat → List UInt8
  | 0, _ => []
  | n + 1, m => UInt8.ofNat (byt m n) :: fixB n m
theorem fixB_len : ∀ n m, (fixB n m).length = n
  | 0, _ => rfl
  | n + 1, m => by simp [fixB, fixB_len n m]
theorem fixB_val : ∀ n m, valB (fixB n m) = m % 256 ^ n
  | 0, m => by simp [fixB, valB, Nat.mod_one]
  | n + 1, m => by
    simp only [fixB, valB, fixB_len, fixB_val n m]
    have : (UInt8.ofNat (byt m n)).toNat = byt m n := ofNat_mod _
    rw [this]
    unfold byt
    rw [Nat.pow_succ, Nat.mod_mul, Nat.mul_comm (m / 256 ^ n % 256)]; omega
theorem fixB_get : ∀ {n m p : Nat}, p < n → (fixB n m)[p]? = some (UInt8.ofNat (byt m (n - 1 - p)))
  | n + 1, m, 0, _ => by simp [fixB]
  | n + 1, m, p + 1, h => by
    rw [fixB, List.getElem?_cons_succ, fixB_get (by omega)]
    congr 3; omega
theorem trim_fix {n m : Nat} (h : m < 256 ^ n) : trimB (fixB n m) = encB m := by rw [trim_enc, fixB_val, Nat.mod_eq_of_lt h]
/-- A byte of a number is one of its digit. -/
theorem byt_dig (m j r : Nat) (hr : r < 4) : byt m (4 * j + r) = dig m j / 256 ^ r % 256 := by
  unfold byt dig
  rw [Nat.pow_add, pow256, ← Nat.div_div_eq_div_mul]
  generalize m / B32 ^ j = x
  have : r = 0 ∨ r = 1 ∨ r = 2 ∨ r = 3 := by omega
  rcases this with rfl | rfl | rfl | rfl <;> simp only [Nat.reducePow, B32_eq] <;> omega
end Vg.Nm
/- Comparison of numbers as strings of bytes. -/
namespace Vg.Nm
def cmpN (a b : Nat) : Int := if a < b then -1 else if b < a then 1 else 0
theorem cmpN_lt {a b : Nat} (h : a < b) : cmpN a b = -1 := by unfold cmpN; rw [if_pos h]
theorem cmpN_gt {a b : Nat} (h : b < a) : cmpN a b = 1 := by unfold cmpN; rw [if_neg (by omega), if_pos h]
theorem cmpN_eq (a : Nat) : cmpN a a = 0 := by unfold cmpN; rw [if_neg (by omega), if_neg (by omega)]
theorem valB_ge {c : UInt8} {r : List UInt8} (h : c ≠ 0) : 256 ^ r.length ≤ valB (c :: r) := by
  have : 1 ≤ c.toNat := Nat.pos_of_ne_zero fun h0 => h (UInt8.toNat_inj.1 (by rw [h0]; rfl))
  have := Nat.mul_le_mul_right (256 ^ r.length) this
  unfold valB; omega
theorem canon_len {a b : List UInt8} (hb : canon b) (h : a.length < b.length) : valB a < valB b := by
  cases b with
  | nil => cases h
  | cons c r =>
    have h1 := valB_lt a
    have h2 : 256 ^ a.length ≤ 256 ^ r.length := Nat.pow_le_pow_right (by decide) (by simp only [List.length_cons] at h; omega)
    exact Nat.lt_of_lt_of_le h1 (Nat.le_trans h2 (valB_ge hb))
theorem valB_head {c d : UInt8} {a b : List UInt8} (hl : a.length = b.length) (h : c.toNat < d.toNat) : valB (c :: a) < valB (d :: b) := by
  have h1 := valB_lt a
  have h3 : (c.toNat + 1) * 256 ^ b.length ≤ d.toNat * 256 ^ b.length := Nat.mul_le_mul_right _ h
  rw [Nat.add_mul, Nat.one_mul] at h3
  rw [valB, valB]
  rw [hl] at h1 ⊢
  omega
theorem cmp_same : ∀ (a b : List UInt8), a.length = b.length → Go.Lib.compareBytes a b = cmpN (valB a) (valB b)
  | [], [], _ => (cmpN_eq 0).symm
  | c :: a, d :: b, h => by
    have hl : a.length = b.length := by simpa using h
    unfold Go.Lib.compareBytes
    by_cases h1 : c < d
    · rw [if_pos h1, cmpN_lt (valB_head hl (UInt8.lt_iff_toNat_lt.1 h1))]
    · rw [if_neg h1]
      by_cases h2 : d < c
      · rw [if_pos h2, cmpN_gt (valB_head hl.symm (UInt8.lt_iff_toNat_lt.1 h2))]
      · rw [if_neg h2, cmp_same a b hl]
        have e : c = d := UInt8.toNat_inj.1 (Nat.le_antisymm (Nat.le_of_not_lt fun h => h2 (UInt8.lt_iff_toNat_lt.2 h)) (Nat.le_of_not_lt fun h => h1 (UInt8.lt_iff_toNat_lt.2 h)))
        subst e
        rw [valB, valB, hl]
        unfold cmpN
        simp only [Nat.add_lt_add_iff_left]
end Vg.Nm
/- Rational numbers as rows of values: sign, numerator, denominator in lowest terms. -/
namespace Vg.Nm
def sgn (b : Bool) (n : Nat) : Int := if b then -(n : Int) else n
def rv (q : Rat) : List VV := [.bool (decide (q.num < 0)), .str (encB q.num.natAbs), .str (encB q.den)]
theorem sgn_abs (b : Bool) (n : Nat) : (sgn b n).natAbs = n := by unfold sgn; cases b <;> simp
theorem sgn_num (q : Rat) : sgn (decide (q.num < 0)) q.num.natAbs = q.num := by
  unfold sgn
  by_cases h : q.num < 0
  · simp only [h, decide_true, if_true]; omega
  · simp only [h, decide_false, Bool.false_eq_true, if_false]; omega
theorem rv_zero : rv 0 = [.bool false, .str [], .str (encB 1)] := by
  unfold rv
  rw [show (0 : Rat).num = 0 from rfl, show (0 : Rat).den = 1 from rfl]
  simp only [Int.natAbs_zero, encB_zero, Int.lt_irrefl, decide_false]
theorem made_rv {n d : Nat} (hn : n ≠ 0) (hd : d ≠ 0) (b : Bool) : rv (mkRat (sgn b n) d) = [.bool b, .str (encB (n / Nat.gcd n d)), .str (encB (d / Nat.gcd n d))] := by
  have hg : 0 < Nat.gcd n d := Nat.gcd_pos_of_pos_left _ (Nat.pos_of_ne_zero hn)
  have hq : n / Nat.gcd n d ≠ 0 := by
    have := Nat.le_of_dvd (Nat.pos_of_ne_zero hn) (Nat.gcd_dvd_left n d)
    exact Nat.ne_of_gt (Nat.div_pos this hg)
  have e1 : (mkRat (sgn b n) d).num = sgn b (n / Nat.gcd n d) := by
    rw [Rat.num_mkRat, if_neg hd, sgn_abs, Nat.gcd_comm]
    unfold sgn
    cases b
    · simp only [Bool.false_eq_true, if_false]; exact (Int.natCast_ediv _ _).symm
    · simp only [if_true]
      rw [Int.natCast_ediv, Int.neg_ediv_of_dvd (Int.natCast_dvd_natCast.2 (Nat.gcd_dvd_left n d))]
  have e2 : (mkRat (sgn b n) d).den = d / Nat.gcd n d := by rw [Rat.den_mkRat, if_neg hd, sgn_abs, Nat.gcd_comm]
  unfold rv
  rw [e1, e2, sgn_abs]
  congr 2
  unfold sgn
  generalize n / Nat.gcd n d = x at *
  cases b
  · simp only [Bool.false_eq_true, if_false]; rw [decide_eq_false]; omega
  · simp only [if_true]; rw [decide_eq_true]; omega
theorem mk_zero (d : Nat) : mkRat 0 d = 0 := Rat.zero_mkRat d
theorem add_same {p q : Rat} (h : p.den = q.den) : p + q = mkRat (p.num + q.num) p.den := by
  rw [Rat.add_def', ← h, ← Int.add_mul, Rat.mkRat_eq_iff (Nat.mul_ne_zero p.den_nz p.den_nz) p.den_nz, Int.natCast_mul, Int.mul_assoc]
theorem neg_rv (q : Rat) : rv (-q) = [.bool (!decide (q.num < 0) && decide (q.num ≠ 0)), .str (encB q.num.natAbs), .str (encB q.den)] := by
  unfold rv
  have e : (-q).den = q.den := rfl
  rw [Rat.neg_num, Int.natAbs_neg, e]
  congr 2
  by_cases h1 : q.num < 0
  · simp only [h1, decide_true, Bool.not_true, Bool.false_and]; exact decide_eq_false (by omega)
  · by_cases h2 : q.num = 0
    · simp [h2]
    · have : -q.num < 0 := by omega
      simp [h1, h2]; omega
/-- Comparison. -/
def cmpQ (p q : Rat) : Int := if p < q then -1 else if q < p then 1 else 0
theorem cmpQ_le {p q : Rat} : cmpQ p q ≤ 0 ↔ p ≤ q := by
  unfold cmpQ
  by_cases h1 : p < q
  · rw [if_pos h1]; exact ⟨fun _ => Rat.le_of_lt h1, fun _ => by decide⟩
  · rw [if_neg h1]
    by_cases h2 : q < p
    · rw [if_pos h2]; exact ⟨fun h => absurd h (by decide), fun h => absurd h (Rat.not_le.2 h2)⟩
    · rw [if_neg h2]; exact ⟨fun _ => Rat.not_lt.1 h2, fun _ => by decide⟩
theorem cmpQ_ge {p q : Rat} : 0 ≤ cmpQ p q ↔ q ≤ p := by
  unfold cmpQ
  by_cases h1 : p < q
  · rw [if_pos h1]; exact ⟨fun h => absurd h (by decide), fun h => absurd h (Rat.not_le.2 h1)⟩
  · rw [if_neg h1]
    by_cases h2 : q < p
    · rw [if_pos h2]; exact ⟨fun _ => Rat.le_of_lt h2, fun _ => by decide⟩
    · rw [if_neg h2]; exact ⟨fun _ => Rat.not_lt.1 h1, fun _ => by decide⟩
/-- The comparison by signs and cross products. -/
theorem cmpQ_num (p q : Rat) : cmpQ p q = if decide (p.num < 0) ≠ decide (q.num < 0) then (if p.num < 0 then -1 else 1) else if p.num < 0 then -(cmpN (p.num.natAbs * q.den) (q.num.natAbs * p.den)) else cmpN (p.num.natAbs * q.den) (q.num.natAbs * p.den) := by
  have hp : 0 < (p.den : Int) := by have := p.den_nz; omega
  have hq : 0 < (q.den : Int) := by have := q.den_nz; omega
  unfold cmpQ
  simp only [Rat.lt_iff]
  by_cases h1 : p.num < 0 <;> by_cases h2 : q.num < 0
  · simp only [h1, h2, ne_eq, not_true, if_false, if_true]
    have e1 : p.num = -(p.num.natAbs : Int) := by omega
    have e2 : q.num = -(q.num.natAbs : Int) := by omega
    generalize p.num.natAbs = a at *
    generalize q.num.natAbs = b at *
    rw [e1, e2, Int.neg_mul, Int.neg_mul]
    unfold cmpN
    have i1 : (-((a : Int) * q.den) < -((b : Int) * p.den)) ↔ b * p.den < a * q.den := by
      rw [← Int.natCast_mul, ← Int.natCast_mul]; omega
    have i2 : (-((b : Int) * p.den) < -((a : Int) * q.den)) ↔ a * q.den < b * p.den := by
      rw [← Int.natCast_mul, ← Int.natCast_mul]; omega
    simp only [i1, i2]
    by_cases k1 : b * p.den < a * q.den
    · have k2 : ¬ a * q.den < b * p.den := by omega
      simp only [k1, k2, if_true, if_false]
    · by_cases k2 : a * q.den < b * p.den
      · simp only [k1, k2, if_true, if_false, Int.neg_neg]
      · simp only [k1, k2, if_false, Int.neg_zero]
  · simp only [h1, h2, decide_true, decide_false, ne_eq, reduceCtorEq, not_false_eq_true, if_true]
    have : p.num * q.den < 0 := Int.mul_neg_of_neg_of_pos h1 hq
    have h3 : 0 ≤ q.num * p.den := Int.mul_nonneg (by omega) (by omega)
    rw [if_pos (by omega)]
  · simp only [h1, h2, decide_true, decide_false, ne_eq, reduceCtorEq, not_false_eq_true, if_true, if_false, Bool.false_eq_true]
    have : q.num * p.den < 0 := Int.mul_neg_of_neg_of_pos h2 hp
    have h3 : 0 ≤ p.num * q.den := Int.mul_nonneg (by omega) (by omega)
    rw [if_neg (by omega), if_pos (by omega)]
  · simp only [h1, h2, ne_eq, not_true, if_false]
    have e1 : p.num = (p.num.natAbs : Int) := by omega
    have e2 : q.num = (q.num.natAbs : Int) := by omega
    generalize p.num.natAbs = a at *
    generalize q.num.natAbs = b at *
    rw [e1, e2]
    unfold cmpN
    have i1 : ((a : Int) * q.den < (b : Int) * p.den) ↔ a * q.den < b * p.den := by
      rw [← Int.natCast_mul, ← Int.natCast_mul]; omega
    have i2 : ((b : Int) * p.den < (a : Int) * q.den) ↔ b * p.den < a * q.den := by
      rw [← Int.natCast_mul, ← Int.natCast_mul]; omega
    simp only [i1, i2]
/-- Bounds of a number. -/
structure BQ (m n : Nat) (q : Rat) : Prop where
  num : q.num.natAbs ≤ m
  den : q.den ≤ n
theorem BQ.of_eq {q : Rat} {k : Int} {D m : Nat} (hD : D ≠ 0) (h : q = mkRat k D) (hk : k.natAbs ≤ m) : BQ m D q := by
  subst h
  refine ⟨?_, ?_⟩
  · rw [Rat.num_mkRat, if_neg hD]
    exact Nat.le_trans (Int.natAbs_ediv_le_natAbs _ _) hk
  · rw [Rat.den_mkRat, if_neg hD]; exact Nat.div_le_self _ _
theorem BQ.mono {q : Rat} {m n m' n' : Nat} (h : BQ m n q) (h1 : m ≤ m') (h2 : n ≤ n') : BQ m' n' q := ⟨Nat.le_trans h.num h1, Nat.le_trans h.den h2⟩
theorem mk_mul {k : Int} {D E : Nat} (hD : D ≠ 0) (hE : E ≠ 0) : mkRat k D = mkRat (k * E) (D * E) := by
  rw [Rat.mkRat_eq_iff hD (Nat.mul_ne_zero hD hE), Int.natCast_mul]; rw [Int.mul_assoc, Int.mul_comm (E : Int)]
theorem neg_mkRat (k : Int) (D : Nat) : -mkRat k D = mkRat (-k) D := Rat.neg_mkRat k D
end Vg.Nm
/- Digits in base 2^32 as cells. -/
namespace Vg.Nm
open Go Lg
def dcells (L m : Nat) : List VV := (digs L m).map fun (x : Nat) => VV.int .u32 (x : Int)
theorem dcells_len (L m : Nat) : (dcells L m).length = L := by unfold dcells; rw [List.length_map, digs_len]
theorem dcells_get {L m j : Nat} (h : j < L) : (dcells L m)[j]? = some (.int .u32 (dig m j : Nat)) := by
  unfold dcells; rw [List.getElem?_map, digs_get h]; rfl
theorem dig_zero (j : Nat) : dig 0 j = 0 := by unfold dig; simp
theorem dcells_ext {L m : Nat} {cs : List VV} (hl : cs.length = L) (h : ∀ j, j < L → cs[j]? = some (.int .u32 (dig m j : Nat))) : cs = dcells L m := by
  apply List.ext_getElem?
  intro j
  by_cases hj : j < L
  · rw [h j hj, dcells_get hj]
  · rw [List.getElem?_eq_none (by omega), List.getElem?_eq_none (by rw [dcells_len]; omega)]
theorem rows_zero : ∀ L, (ofLVs (rows [.int .u32 0] L)).map VV.ow = List.replicate L (VV.int .u32 0)
  | 0 => rfl
  | L + 1 => by
    rw [List.replicate_succ, ← rows_zero L]; rfl
theorem rows_zero8 : ∀ L, (ofLVs (rows [.int .u8 0] L)).map VV.ow = List.replicate L (VV.int .u8 0)
  | 0 => rfl
  | L + 1 => by
    rw [List.replicate_succ, ← rows_zero8 L]; rfl
theorem dcells_zero (L : Nat) : List.replicate L (VV.int .u32 0) = dcells L 0 := by
  refine dcells_ext List.length_replicate fun j hj => ?_
  rw [List.getElem?_replicate, if_pos hj, dig_zero]; rfl
theorem splice1 {cs : List VV} {i : Nat} (h : i < cs.length) (v : VV) : vsplice cs i [v] = cs.set i v := by
  unfold vsplice
  rw [List.set_eq_take_append_cons_drop, if_pos h, List.append_assoc]; rfl
theorem dcells_set {L m m' j : Nat} (hj : j < L) (h : ∀ k, k ≠ j → dig m' k = dig m k) : vsplice (dcells L m) j [.int .u32 (dig m' j : Nat)] = dcells L m' := by
  rw [splice1 (by rw [dcells_len]; exact hj)]
  refine dcells_ext (by rw [List.length_set, dcells_len]) fun k hk => ?_
  rw [List.getElem?_set]
  by_cases e : j = k
  · subst e; rw [if_pos rfl, dcells_len, if_pos hj]
  · rw [if_neg e, dcells_get hk, h k (fun h => e h.symm)]
theorem dig_small {m j r : Nat} (hm : m < 256 ^ (4 * j + r)) : dig m j < 256 ^ r := by
  rw [Nat.pow_add, pow256] at hm
  exact Nat.lt_of_le_of_lt (Nat.mod_le _ _) (Nat.div_lt_of_lt_mul hm)
theorem pow8 (r : Nat) : 256 ^ r = 2 ^ (8 * r) := by rw [Nat.pow_mul]
theorem byte_lt {c r : Nat} (hc : c < 256) (hr : r < 4) : c * 2 ^ (8 * r) < 4294967296 := by
  have h : r = 0 ∨ r = 1 ∨ r = 2 ∨ r = 3 := by omega
  rcases h with rfl | rfl | rfl | rfl <;> simp only [Nat.reducePow, Nat.reduceMul] <;> omega
theorem word_or {m c j r : Nat} (hm : m < 256 ^ (4 * j + r)) (hc : c < 256) (hr : r < 4) :
    binE .or (.int .u32 ((dig m j : Nat) : Int)) (.int .u32 ((c * 2 ^ (8 * r) : Nat) : Int)) = some (.int .u32 ((dig (m + c * 256 ^ (4 * j + r)) j : Nat) : Int)) := by
  have h1 := dig_lt m j
  rw [B32_eq] at h1
  rw [or32 h1 (byte_lt hc hr), dig_byte hm hc hr, if_pos rfl, Nat.or_comm, or_add (by rw [← pow8]; exact dig_small hm), pow8]
  congr 3; omega
/-- The last bytes of a string. -/
theorem drop_val {x : List UInt8} {i : Nat} {c : UInt8} (hi : i < x.length) (hc : x[x.length - 1 - i]? = some c) :
    valB (x.drop (x.length - (i + 1))) = valB (x.drop (x.length - i)) + c.toNat * 256 ^ i := by
  have e : x.drop (x.length - (i + 1)) = c :: x.drop (x.length - i) := by
    rw [List.drop_eq_getElem?_toList_append, show x.length - (i + 1) = x.length - 1 - i by omega, hc, show x.length - 1 - i + 1 = x.length - i by omega]; rfl
  rw [e, valB, List.length_drop, show x.length - (x.length - i) = i by omega]; omega
theorem drop_lt {x : List UInt8} {i : Nat} (hi : i ≤ x.length) : valB (x.drop (x.length - i)) < 256 ^ i := by
  have := valB_lt (x.drop (x.length - i))
  rwa [List.length_drop, show x.length - (x.length - i) = i by omega] at this
/-- The last bytes of a number as cells. -/
def bcells (n m : Nat) : List VV := (fixB n m).map fun (c : UInt8) => VV.int .u8 (c.toNat : Int)
theorem bcells_len (n m : Nat) : (bcells n m).length = n := by unfold bcells; rw [List.length_map, fixB_len]
theorem ofNat_byt (m q : Nat) : (UInt8.ofNat (byt m q)).toNat = byt m q := ofNat_mod _
theorem bcells_four (i m : Nat) : bcells (4 * (i + 1)) m = .int .u8 ((dig m i / 16777216 % 256 : Nat) : Int) :: .int .u8 ((dig m i / 65536 % 256 : Nat) : Int) :: .int .u8 ((dig m i / 256 % 256 : Nat) : Int) :: .int .u8 ((dig m i % 256 : Nat) : Int) :: bcells (4 * i) m := by
  rw [show 4 * (i + 1) = 4 * i + 3 + 1 from rfl]
  unfold bcells
  simp only [fixB, List.map_cons, ofNat_byt]
  rw [byt_dig m i 3 (by decide), byt_dig m i 2 (by decide), byt_dig m i 1 (by decide), show byt m (4 * i) = byt m (4 * i + 0) from rfl, byt_dig m i 0 (by decide)]
  simp only [Nat.reducePow, Nat.pow_zero, Nat.div_one]
theorem bnrm : ∀ n m, nrmL (bcells n m) = bcells n m
  | 0, _ => rfl
  | n + 1, m => by
    unfold bcells
    simp only [fixB, List.map_cons, nrmL, nrm]
    exact congrArg _ (bnrm n m)
theorem brows (n m : Nat) : chunk 1 n (bcells n m) = (bcells n m).map fun v => [v] := by
  induction n with
  | zero => rfl
  | succ n ih =>
    unfold bcells at ih ⊢
    simp only [fixB, List.map_cons, chunk, List.take_succ_cons, List.take_zero, List.drop_succ_cons, List.drop_zero, ih]
theorem bytes_b : ∀ L m, bytesOf (((bcells L m).map fun v => [v]).flatten.map VV.sc) = some (fixB L m)
  | 0, _ => rfl
  | n + 1, m => by
    have ih := bytes_b n m
    unfold bcells at ih ⊢
    simp only [fixB, List.map_cons, List.flatten_cons, List.cons_append, List.nil_append, VV.sc, bytesOf] at ih ⊢
    rw [ih]
    simp only [Int.toNat_natCast, UInt8.ofNat_toNat]
theorem shr32u {n k : Nat} {k' : IntKind} (hk : k ≤ 32) : binE .shr (.int .u32 (n : Int)) (.int k' (k : Int)) = some (.int .u32 ((n / 2 ^ k : Nat) : Int)) := by
  have := shr32 (n := n) (k := k) hk
  rw [binE_shr] at this ⊢
  exact this
theorem shr64u {n k : Nat} {k' : IntKind} (hk : k ≤ 64) : binE .shr (.int .u64 (n : Int)) (.int k' (k : Int)) = some (.int .u64 ((n / 2 ^ k : Nat) : Int)) := by
  have := shr64 (n := n) (k := k) hk
  rw [binE_shr] at this ⊢
  exact this
theorem blow (n m : Nat) : lowL 0 (bcells n m) = true := lowL_of fun v hv => by
  unfold bcells at hv
  obtain ⟨c, _, rfl⟩ := List.mem_map.1 hv; rfl
/-- Cells by a function. -/
def fcells (L : Nat) (f : Nat → Nat) : List VV := (List.range L).map fun k => VV.int .u32 ((f k : Nat) : Int)
theorem fcells_len (L : Nat) (f : Nat → Nat) : (fcells L f).length = L := by simp [fcells]
theorem fcells_get {L j : Nat} {f : Nat → Nat} (h : j < L) : (fcells L f)[j]? = some (.int .u32 ((f j : Nat) : Int)) := by
  unfold fcells; rw [List.getElem?_map, List.getElem?_range h]; rfl
theorem dcells_f (L m : Nat) : dcells L m = fcells L (dig m) := by unfold dcells digs fcells; rw [List.map_map]; rfl
theorem fcells_congr {L : Nat} {f g : Nat → Nat} (h : ∀ k, k < L → f k = g k) : fcells L f = fcells L g := by
  unfold fcells; exact List.map_congr_left fun k hk => by rw [h k (List.mem_range.1 hk)]
theorem fcells_set {L j : Nat} {f g : Nat → Nat} (hj : j < L) (h : ∀ k, k ≠ j → g k = f k) : (fcells L f).take j ++ VV.int .u32 ((g j : Nat) : Int) :: (fcells L f).drop (j + 1) = fcells L g := by
  have e := List.set_eq_take_append_cons_drop (l := fcells L f) (i := j) (a := VV.int .u32 ((g j : Nat) : Int))
  rw [if_pos (by rw [fcells_len]; exact hj)] at e
  rw [← e]
  apply List.ext_getElem?
  intro k
  rw [List.getElem?_set, fcells_len]
  by_cases hk : k < L
  · rw [fcells_get hk, fcells_get hk]
    by_cases e : j = k
    · subst e; rw [if_pos rfl, if_pos hj]
    · rw [if_neg e, h k (fun h => e h.symm)]
  · rw [if_neg (by omega), List.getElem?_eq_none (by rw [fcells_len]; omega), List.getElem?_eq_none (by rw [fcells_len]; omega)]
/-- The borrow behind some digits. -/
def bor (a b i : Nat) : Nat := if a % B32 ^ i < b % B32 ^ i then 1 else 0
theorem sub_div {a b P : Nat} (hP : 0 < P) (h : b ≤ a) : (a - b) / P = a / P - b / P - (if a % P < b % P then 1 else 0) := by
  have h1 := Nat.div_add_mod a P
  have h2 := Nat.div_add_mod b P
  have h3 := Nat.mod_lt a hP
  have h4 := Nat.mod_lt b hP
  have hq : b / P ≤ a / P := Nat.div_le_div_right h
  generalize a / P = q at *
  generalize b / P = r at *
  generalize a % P = x at *
  generalize b % P = y at *
  obtain ⟨d, rfl⟩ : ∃ d, q = r + d := ⟨q - r, by omega⟩
  rw [Nat.mul_add] at h1
  by_cases hxy : x < y
  · rw [if_pos hxy]
    have hd : d ≠ 0 := by rintro rfl; simp at h1; omega
    obtain ⟨e, rfl⟩ : ∃ e, d = e + 1 := ⟨d - 1, by omega⟩
    rw [Nat.mul_add, Nat.mul_one] at h1
    have : a - b = (P + x - y) + P * e := by omega
    rw [this, Nat.add_mul_div_left _ _ hP, Nat.div_eq_of_lt (by omega)]; omega
  · rw [if_neg hxy]
    have : a - b = (x - y) + P * d := by omega
    rw [this, Nat.add_mul_div_left _ _ hP, Nat.div_eq_of_lt (by omega)]; omega
theorem bor_succ (a b i : Nat) : bor a b (i + 1) = if dig a i < dig b i + bor a b i then 1 else 0 := by
  unfold bor
  rw [Nat.pow_succ, mod_step, mod_step]
  have hP := B_pos i
  have h3 := Nat.mod_lt a hP
  have h4 := Nat.mod_lt b hP
  show (if a % B32 ^ i + B32 ^ i * dig a i < b % B32 ^ i + B32 ^ i * dig b i then 1 else 0) = _
  generalize dig a i = x at *
  generalize dig b i = y at *
  generalize a % B32 ^ i = u at *
  generalize b % B32 ^ i = v at *
  generalize B32 ^ i = P at *
  by_cases hxy : x = y
  · subst hxy
    by_cases huv : u < v
    · rw [if_pos huv, if_pos (by omega), if_pos (by omega)]
    · rw [if_neg huv, if_neg (by omega), if_neg (by omega)]
  · rcases Nat.lt_or_gt_of_ne hxy with hl | hl
    · have : P * (x + 1) ≤ P * y := Nat.mul_le_mul_left _ hl
      rw [Nat.mul_add, Nat.mul_one] at this
      rw [if_pos (by omega), if_pos (by split <;> omega)]
    · have : P * (y + 1) ≤ P * x := Nat.mul_le_mul_left _ hl
      rw [Nat.mul_add, Nat.mul_one] at this
      rw [if_neg (by omega), if_neg (by split <;> omega)]
theorem dig_sub {a b : Nat} (h : b ≤ a) (i : Nat) : dig (a - b) i = if dig a i < dig b i + bor a b i then dig a i + B32 - dig b i - bor a b i else dig a i - dig b i - bor a b i := by
  have e := sub_div (B_pos i) h
  have hq : b / B32 ^ i ≤ a / B32 ^ i := Nat.div_le_div_right h
  have hl : b / B32 ^ i + bor a b i ≤ a / B32 ^ i := by
    unfold bor
    split
    · rename_i hxy
      have h1 := Nat.div_add_mod a (B32 ^ i)
      have h2 := Nat.div_add_mod b (B32 ^ i)
      rcases Nat.lt_or_ge (b / B32 ^ i) (a / B32 ^ i) with h5 | h5
      · exact h5
      · have : a / B32 ^ i = b / B32 ^ i := by omega
        rw [this] at h1; omega
    · exact hq
  have e' : (a - b) / B32 ^ i = a / B32 ^ i - b / B32 ^ i - bor a b i := e
  have hb : bor a b i ≤ 1 := by unfold bor; split <;> omega
  unfold dig
  rw [e']
  generalize a / B32 ^ i = q at *
  generalize b / B32 ^ i = r at *
  generalize bor a b i = β at *
  rw [B32_eq]
  split <;> omega
end Vg.Nm
