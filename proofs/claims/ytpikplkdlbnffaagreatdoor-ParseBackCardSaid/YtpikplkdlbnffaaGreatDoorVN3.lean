import Derived.Lib.Bytealg
/- Natural numbers as strings of bytes,most significant byte first; digits in base 2^32,least significant first. -/
namespace Vg.Nm
/-- The number of a string of bytes. -/
def valB : List UInt8 → Nat
  | [] => 0
  | c :: r => c.toNat * 256 ^ r.length + valB r
theorem valB_snoc : ∀ (s : List UInt8) (c : UInt8),valB (s ++ [c]) = 256 * valB s + c.toNat
  | [],c => by simp [valB]
  | d :: s,c => by
    have ih := valB_snoc s c
    simp only [List.cons_append,valB,ih,List.length_append,List.length_singleton,Nat.pow_succ]
    rw [Nat.mul_add,← Nat.mul_assoc,Nat.mul_comm 256 (d.toNat * _),Nat.mul_assoc,← Nat.mul_assoc d.toNat]
    rw [Nat.mul_assoc d.toNat]; omega
theorem u8_lt (c : UInt8) : c.toNat < 256 := c.toNat_lt
theorem valB_lt : ∀ s : List UInt8,valB s < 256 ^ s.length
  | [] => by simp [valB]
  | c :: r => by
    have ih := valB_lt r
    have hc := u8_lt c
    simp only [valB,List.length_cons,Nat.pow_succ]
    have : (c.toNat + 1) * 256 ^ r.length ≤ 256 * 256 ^ r.length := Nat.mul_le_mul_right _ hc
    rw [Nat.add_mul,Nat.one_mul] at this
    rw [Nat.mul_comm (256 ^ r.length) 256]; omega
/-- The string of a number,without leading zeros. -/
def encB (n : Nat) : List UInt8 := if h : n = 0 then [] else encB (n / 256) ++ [UInt8.ofNat (n % 256)]
termination_by n
decreasing_by exact Nat.div_lt_self (Nat.pos_of_ne_zero h) (by decide)
theorem encB_zero : encB 0 = [] := by rw [encB]; simp
theorem encB_pos {n : Nat} (h : n ≠ 0) : encB n = encB (n / 256) ++ [UInt8.ofNat (n % 256)] := by rw [encB]; simp [h]
theorem ofNat_mod (n : Nat) : (UInt8.ofNat (n % 256)).toNat = n % 256 := by
  rw [UInt8.toNat_ofNat']; exact Nat.mod_eq_of_lt (Nat.mod_lt _ (by decide))
theorem val_enc (n : Nat) : valB (encB n) = n := by
  induction n using Nat.strongRecOn with
  | ind n ih =>
    by_cases h : n = 0
    · subst h; rw [encB_zero]; rfl
    · rw [encB_pos h,valB_snoc,ih (n / 256) (Nat.div_lt_self (Nat.pos_of_ne_zero h) (by decide)),ofNat_mod]
      exact Nat.div_add_mod n 256
/-- No zero in front. -/
def canon : List UInt8 → Prop
  | [] => True
  | c :: _ => c ≠ 0
theorem canon_snoc {s : List UInt8} {c : UInt8} (h : canon s) (hc : s = [] → c ≠ 0) : canon (s ++ [c]) := by
  cases s with
  | nil => exact hc rfl
  | cons d s => exact h
theorem enc_canon (n : Nat) : canon (encB n) := by
  induction n using Nat.strongRecOn with
  | ind n ih =>
    by_cases h : n = 0
    · subst h; rw [encB_zero]; trivial
    · rw [encB_pos h]
      refine canon_snoc (ih _ (Nat.div_lt_self (Nat.pos_of_ne_zero h) (by decide))) fun h0 hz => ?_
      have h1 : n / 256 = 0 := by have := val_enc (n / 256); rw [h0] at this; exact this.symm
      have h2 := congrArg UInt8.toNat hz
      rw [ofNat_mod] at h2
      have : n % 256 = 0 := h2
      omega
theorem enc_val_snoc {s : List UInt8} {c : UInt8} (hs : encB (valB s) = s) (h : s = [] → c ≠ 0) : encB (valB (s ++ [c])) = s ++ [c] := by
  rw [valB_snoc]
  have hc := u8_lt c
  have hne : 256 * valB s + c.toNat ≠ 0 := by
    intro h0
    have h1 : valB s = 0 := by omega
    have h2 : c.toNat = 0 := by omega
    rw [h1,encB_zero] at hs
    exact h hs.symm (UInt8.toNat_inj.1 (by rw [h2]; rfl))
  rw [encB_pos hne]
  have e1 : (256 * valB s + c.toNat) / 256 = valB s := by omega
  have e2 : (256 * valB s + c.toNat) % 256 = c.toNat := by omega
  rw [e1,e2,hs]
  congr 2
  exact UInt8.toNat_inj.1 (by rw [UInt8.toNat_ofNat']; exact Nat.mod_eq_of_lt hc)
theorem enc_val {s : List UInt8} (h : canon s) : encB (valB s) = s := by
  have key : ∀ (n : Nat) (s : List UInt8),s.length = n → canon s → encB (valB s) = s := by
    intro n
    induction n with
    | zero => intro s hl _; rw [List.length_eq_zero_iff.1 hl]; exact encB_zero
    | succ n ih =>
      intro s hl hs
      obtain ⟨t,c,rfl⟩ : ∃ t c,s = t ++ [c] := by
        rcases List.eq_nil_or_concat s with rfl | ⟨t,c,rfl⟩
        · simp at hl
        · exact ⟨t,c,by simp⟩
      have hl' : t.length = n := by simpa using hl
      cases t with
      | nil => exact enc_val_snoc encB_zero fun _ => hs
      | cons d t => exact enc_val_snoc (ih _ hl' hs) fun h => by cases h
  exact key _ s rfl h
/-- Without leading zeros. -/
def trimB : List UInt8 → List UInt8
  | [] => []
  | c :: r => if c = 0 then trimB r else c :: r
theorem trim_val : ∀ s,valB (trimB s) = valB s
  | [] => rfl
  | c :: r => by
    unfold trimB
    split
    · rename_i h; subst h; rw [trim_val r]; simp [valB]
    · rfl
theorem trim_canon : ∀ s,canon (trimB s)
  | [] => trivial
  | c :: r => by
    unfold trimB
    split
    · exact trim_canon r
    · rename_i h; exact h
theorem trim_enc (s : List UInt8) : trimB s = encB (valB s) := by rw [← trim_val s,enc_val (trim_canon s)]
theorem enc_len {n k : Nat} (h : n < 256 ^ k) : (encB n).length ≤ k := by
  induction k generalizing n with
  | zero => have : n = 0 := by simpa using h
            subst this; rw [encB_zero]; exact Nat.le_refl 0
  | succ k ih =>
    by_cases h0 : n = 0
    · subst h0; rw [encB_zero]; exact Nat.zero_le _
    · rw [encB_pos h0,List.length_append]
      have := ih (n := n / 256) (by rw [Nat.pow_succ] at h; exact Nat.div_lt_of_lt_mul (by rw [Nat.mul_comm]; exact h))
      simp only [List.length_singleton]; omega
/-- The base of digits. -/
def B32 : Nat := 4294967296
theorem B32_eq : B32 = 4294967296 := rfl
end Vg.Nm
/- Digits of natural numbers. -/
namespace Vg.Nm
/-- A digit in base 2^32. -/
def dig (m j : Nat) : Nat := m / B32 ^ j % B32
def digs (n m : Nat) : List Nat := (List.range n).map (dig m)
theorem B32_pos : 0 < B32 := by rw [B32_eq]; decide
theorem dig_lt (m j : Nat) : dig m j < B32 := Nat.mod_lt _ B32_pos
theorem digs_len (n m : Nat) : (digs n m).length = n := by simp [digs]
theorem digs_get {n m j : Nat} (h : j < n) : (digs n m)[j]? = some (dig m j) := by
  unfold digs; rw [List.getElem?_map,List.getElem?_range h]; rfl
theorem B_pos (j : Nat) : 0 < B32 ^ j := Nat.pow_pos B32_pos
theorem dig_big {m j : Nat} (h : m < B32 ^ j) : dig m j = 0 := by unfold dig; rw [Nat.div_eq_of_lt h,Nat.zero_mod]
theorem pow256 (j : Nat) : 256 ^ (4 * j) = B32 ^ j := by rw [Nat.pow_mul,show (256 : Nat) ^ 4 = B32 from rfl]
/-- One more byte in front. -/
theorem dig_byte {m c j r : Nat} (hm : m < 256 ^ (4 * j + r)) (hc : c < 256) (hr : r < 4) (k : Nat) :
    dig (m + c * 256 ^ (4 * j + r)) k = if k = j then dig m j + c * 256 ^ r else dig m k := by
  have e : 256 ^ (4 * j + r) = B32 ^ j * 256 ^ r := by rw [Nat.pow_add,pow256]
  rw [e] at hm ⊢
  have hdiv : m / B32 ^ j < 256 ^ r := Nat.div_lt_of_lt_mul hm
  have hr4 : 256 ^ r * 256 ≤ B32 := by
    have : 256 ^ (r + 1) ≤ 256 ^ 4 := Nat.pow_le_pow_right (by decide) hr
    rw [Nat.pow_succ,show (256 : Nat) ^ 4 = B32 from rfl] at this; exact this
  have hsum : m / B32 ^ j + c * 256 ^ r < B32 := by
    have : (c + 1) * 256 ^ r ≤ 256 * 256 ^ r := Nat.mul_le_mul_right _ hc
    rw [Nat.add_mul,Nat.one_mul] at this
    have h2 : 256 * 256 ^ r = 256 ^ r * 256 := Nat.mul_comm _ _
    omega
  have e2 : m + c * (B32 ^ j * 256 ^ r) = m + B32 ^ j * (c * 256 ^ r) := by rw [← Nat.mul_assoc,Nat.mul_comm c,Nat.mul_assoc]
  rw [e2]
  by_cases hk : k = j
  · subst hk
    rw [if_pos rfl]
    unfold dig
    rw [Nat.add_mul_div_left _ _ (B_pos k),Nat.mod_eq_of_lt hsum,Nat.mod_eq_of_lt (by omega)]
  · rw [if_neg hk]
    rcases Nat.lt_or_gt_of_ne hk with hlt | hgt
    · obtain ⟨d,rfl⟩ : ∃ d,j = k + (d + 1) := ⟨j - k - 1,by omega⟩
      unfold dig
      have e3 : B32 ^ (k + (d + 1)) * (c * 256 ^ r) = B32 ^ k * (B32 * (B32 ^ d * (c * 256 ^ r))) := by
        rw [Nat.pow_add,Nat.pow_succ,Nat.mul_comm (B32 ^ d) B32,Nat.mul_assoc,Nat.mul_assoc]
      rw [e3,Nat.add_mul_div_left _ _ (B_pos k),Nat.add_mul_mod_self_left]
    · obtain ⟨d,rfl⟩ : ∃ d,k = j + 1 + d := ⟨k - j - 1,by omega⟩
      have hb : B32 ^ (j + 1) ≤ B32 ^ (j + 1 + d) := Nat.pow_le_pow_right (by decide) (by omega)
      have h1 : m < B32 ^ (j + 1) := by
        refine Nat.lt_of_lt_of_le hm ?_
        rw [Nat.pow_succ]
        exact Nat.mul_le_mul_left _ (by omega)
      have h2 : m + B32 ^ j * (c * 256 ^ r) < B32 ^ (j + 1) := by
        have h3 : (m + B32 ^ j * (c * 256 ^ r)) / B32 ^ j < B32 := by rw [Nat.add_mul_div_left _ _ (B_pos j)]; exact hsum
        have h4 := (Nat.div_lt_iff_lt_mul (B_pos j)).1 h3
        rw [Nat.pow_succ,Nat.mul_comm (B32 ^ j) B32]
        exact h4
      rw [dig_big (Nat.lt_of_lt_of_le h1 hb),dig_big (Nat.lt_of_lt_of_le h2 hb)]
/-- A byte of a number. -/
def byt (m q : Nat) : Nat := m / 256 ^ q % 256
/-- The last so many bytes,the most significant one first. -/
def fixB : Nat → Nat → List UInt8
  | 0,_ => []
  | n + 1,m => UInt8.ofNat (byt m n) :: fixB n m
theorem fixB_len : ∀ n m,(fixB n m).length = n
  | 0,_ => rfl
  | n + 1,m => by simp [fixB,fixB_len n m]
theorem fixB_val : ∀ n m,valB (fixB n m) = m % 256 ^ n
  | 0,m => by simp [fixB,valB,Nat.mod_one]
  | n + 1,m => by
    simp only [fixB,valB,fixB_len,fixB_val n m]
    have : (UInt8.ofNat (byt m n)).toNat = byt m n := ofNat_mod _
    rw [this]
    unfold byt
    rw [Nat.pow_succ,Nat.mod_mul,Nat.mul_comm (m / 256 ^ n % 256)]; omega
theorem fixB_get : ∀ {n m p : Nat},p < n → (fixB n m)[p]? = some (UInt8.ofNat (byt m (n - 1 - p)))
  | n + 1,m,0,_ => by simp [fixB]
  | n + 1,m,p + 1,h => by
    rw [fixB,List.getElem?_cons_succ,fixB_get (by omega)]
    congr 3; omega
theorem trim_fix {n m : Nat} (h : m < 256 ^ n) : trimB (fixB n m) = encB m := by rw [trim_enc,fixB_val,Nat.mod_eq_of_lt h]
end Vg.Nm
/- Comparison of numbers as strings of bytes. -/
namespace Vg.Nm
def cmpN (a b : Nat) : Int := if a < b then -1 else if b < a then 1 else 0
theorem cmpN_lt {a b : Nat} (h : a < b) : cmpN a b = -1 := by unfold cmpN; rw [if_pos h]
theorem cmpN_gt {a b : Nat} (h : b < a) : cmpN a b = 1 := by unfold cmpN; rw [if_neg (by omega),if_pos h]
theorem cmpN_eq (a : Nat) : cmpN a a = 0 := by unfold cmpN; rw [if_neg (by omega),if_neg (by omega)]
theorem valB_ge {c : UInt8} {r : List UInt8} (h : c ≠ 0) : 256 ^ r.length ≤ valB (c :: r) := by
  have : 1 ≤ c.toNat := Nat.pos_of_ne_zero fun h0 => h (UInt8.toNat_inj.1 (by rw [h0]; rfl))
  have := Nat.mul_le_mul_right (256 ^ r.length) this
  unfold valB; omega
theorem canon_len {a b : List UInt8} (hb : canon b) (h : a.length < b.length) : valB a < valB b := by
  cases b with
  | nil => cases h
  | cons c r =>
    have h1 := valB_lt a
    have h2 : 256 ^ a.length ≤ 256 ^ r.length := Nat.pow_le_pow_right (by decide) (by simp only [List.length_cons] at h; omega)
    exact Nat.lt_of_lt_of_le h1 (Nat.le_trans h2 (valB_ge hb))
theorem valB_head {c d : UInt8} {a b : List UInt8} (hl : a.length = b.length) (h : c.toNat < d.toNat) : valB (c :: a) < valB (d :: b) := by
  have h1 := valB_lt a
  have h3 : (c.toNat + 1) * 256 ^ b.length ≤ d.toNat * 256 ^ b.length := Nat.mul_le_mul_right _ h
  rw [Nat.add_mul,Nat.one_mul] at h3
  rw [valB,valB]
  rw [hl] at h1 ⊢
  omega
theorem cmp_same : ∀ (a b : List UInt8),a.length = b.length → Go.Lib.compareBytes a b = cmpN (valB a) (valB b)
  | [],[],_ => (cmpN_eq 0).symm
  | c :: a,d :: b,h => by
    have hl : a.length = b.length := by simpa using h
    unfold Go.Lib.compareBytes
    by_cases h1 : c < d
    · rw [if_pos h1,cmpN_lt (valB_head hl (UInt8.lt_iff_toNat_lt.1 h1))]
    · rw [if_neg h1]
      by_cases h2 : d < c
      · rw [if_pos h2,cmpN_gt (valB_head hl.symm (UInt8.lt_iff_toNat_lt.1 h2))]
      · rw [if_neg h2,cmp_same a b hl]
        have e : c = d := UInt8.toNat_inj.1 (Nat.le_antisymm (Nat.le_of_not_lt fun h => h2 (UInt8.lt_iff_toNat_lt.2 h)) (Nat.le_of_not_lt fun h => h1 (UInt8.lt_iff_toNat_lt.2 h)))
        subst e
        rw [valB,valB,hl]
        unfold cmpN
        simp only [Nat.add_lt_add_iff_left]
end Vg.Nm
