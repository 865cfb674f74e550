/- The field of 256 bytes: products by powers of the root. No program in sight. -/
import Derived.Below
namespace Go.SR

abbrev By := BitVec 8

/-- Twice, in the field. -/
def xt (x : By) : By := (x <<< 1) ^^^ (if x.msb then 0x1D#8 else 0#8)

/-- Twice, n times. -/
def xtn : Nat → By → By
  | 0, x => x
  | n + 1, x => xt (xtn n x)

def pw (n : Nat) : By := xtn n 1#8

/-- The powers, one behind the other. -/
def pwl : Nat → By → List By
  | 0, _ => []
  | n + 1, x => x :: pwl n (xt x)

def lgT : List By := pwl 255 1#8

/-- Where it first stands. -/
def lgI (x : By) : List By → Nat → Nat
  | [], _ => 0
  | y :: l, n => if y = x then n else lgI x l (n + 1)

def lg (x : By) : Nat := lgI x lgT 0

theorem xt_xor (a b : By) : xt (a ^^^ b) = xt a ^^^ xt b := by
  unfold xt
  rw [BitVec.shiftLeft_xor_distrib, BitVec.msb_xor]
  cases a.msb <;> cases b.msb <;> simp
  · ac_rfl
  · ac_rfl
  · have : (29#8 : BitVec 8) ^^^ (29#8 ^^^ (a <<< 1 ^^^ b <<< 1)) = a <<< 1 ^^^ b <<< 1 := by rw [← BitVec.xor_assoc, BitVec.xor_self, BitVec.zero_xor]
    rw [← this]; ac_rfl

theorem xt_zero : xt 0#8 = 0#8 := by decide

theorem xtn_zero (n : Nat) : xtn n 0#8 = 0#8 := by
  induction n with
  | zero => rfl
  | succ n ih => simp [xtn, ih, xt_zero]

theorem xtn_xor (n : Nat) (a b : By) : xtn n (a ^^^ b) = xtn n a ^^^ xtn n b := by
  induction n with
  | zero => rfl
  | succ n ih => simp [xtn, ih, xt_xor]

theorem xtn_add (m n : Nat) (x : By) : xtn (m + n) x = xtn m (xtn n x) := by
  induction m with
  | zero => simp [xtn]
  | succ m ih => rw [Nat.succ_add]; simp [xtn, ih]

theorem pwl_get : ∀ (n : Nat) (x : By) (i : Nat), i < n → (pwl n x)[i]? = some (xtn i x)
  | 0, x, i, h => by omega
  | n + 1, x, 0, h => rfl
  | n + 1, x, i + 1, h => by
    simp only [pwl, List.getElem?_cons_succ]
    rw [pwl_get n (xt x) i (by omega)]
    have : xtn i (xt x) = xtn (i + 1) x := (xtn_add i 1 x).symm
    rw [this]

theorem all256 {p : By → Bool} (h : (List.range 256).all (fun n => p (BitVec.ofNat 8 n)) = true) (x : By) : p x = true := by
  have := List.all_eq_true.1 h x.toNat (List.mem_range.2 x.isLt)
  simpa using this

theorem pw_at (x : By) (h : x ≠ 0#8) : lg x < 255 ∧ lgT[lg x]? = some x := by
  have := all256 (p := fun x => x == 0#8 || (decide (lg x < 255) && lgT[lg x]? == some x)) (by decide +kernel) x
  simp [h] at this
  exact this

theorem pw_lg {x : By} (h : x ≠ 0#8) : pw (lg x) = x := by
  obtain ⟨h1, h2⟩ := pw_at x h
  rw [lgT, pwl_get _ _ _ h1] at h2
  exact Option.some.inj h2

theorem lg_lt (x : By) : lg x < 255 := by
  by_cases h : x = 0#8
  · subst h; decide +kernel
  · exact (pw_at x h).1

theorem lg_pw0 {n : Nat} (h : n < 255) : lg (pw n) = n := by
  have h1 : (List.range 255).all (fun n => lg (lgT.getD n 0#8) == n) = true := by decide +kernel
  have h2 := List.all_eq_true.1 h1 n (List.mem_range.2 h)
  have h3 : lgT.getD n 0#8 = pw n := by
    rw [List.getD_eq_getElem?_getD, lgT, pwl_get _ _ _ h]; rfl
  rw [h3] at h2
  simpa using h2

theorem pw_255 : pw 255 = 1#8 := by
  have h : lgT[254]? = some (pw 254) := pwl_get _ _ _ (by omega)
  have h2 : lgT[254]? = some 142#8 := by decide +kernel
  rw [h2] at h
  have e : pw 255 = xt (pw 254) := rfl
  rw [e, ← Option.some.inj h]; decide

theorem xtn_255 (x : By) : xtn 255 x = x := by
  by_cases h : x = 0#8
  · subst h; exact xtn_zero _
  · have : x = pw (lg x) := (pw_lg h).symm
    rw [this, pw, ← xtn_add, Nat.add_comm, xtn_add]
    have e : xtn 255 1#8 = 1#8 := pw_255
    rw [e]

theorem xtn_mul255 (k : Nat) (x : By) : xtn (255 * k) x = x := by
  induction k with
  | zero => rfl
  | succ k ih => rw [Nat.mul_succ, xtn_add, xtn_255, ih]

theorem xtn_mod (n : Nat) (x : By) : xtn (n % 255) x = xtn n x := by
  conv => rhs; rw [← Nat.mod_add_div n 255, xtn_add, xtn_mul255]

theorem lg_pw (n : Nat) : lg (pw n) = n % 255 := by
  have : pw n = pw (n % 255) := (xtn_mod n 1#8).symm
  rw [this, lg_pw0 (Nat.mod_lt _ (by omega))]

theorem pw_ne (n : Nat) : pw n ≠ 0#8 := by
  intro h
  have h1 : xtn (255 - n % 255) (pw n) = 1#8 := by
    have : pw n = pw (n % 255) := (xtn_mod n 1#8).symm
    rw [this, pw, ← xtn_add, show 255 - n % 255 + n % 255 = 255 by have := Nat.mod_lt n (show 255 > 0 by omega); omega]
    exact pw_255
  rw [h, xtn_zero] at h1
  exact absurd h1 (by decide)

theorem xtn_ne {n : Nat} {x : By} (h : x ≠ 0#8) : xtn n x ≠ 0#8 := by
  rw [← pw_lg h, pw, ← xtn_add]; exact pw_ne _

/-- A product. -/
def mul (a b : By) : By := if b = 0#8 then 0#8 else xtn (lg b) a

theorem mul_zero (a : By) : mul a 0#8 = 0#8 := by simp [mul]
theorem zero_mul (a : By) : mul 0#8 a = 0#8 := by unfold mul; split; rfl; exact xtn_zero _
theorem mul_pw (a : By) (n : Nat) : mul a (pw n) = xtn n a := by
  unfold mul; rw [if_neg (pw_ne n), lg_pw, xtn_mod]
theorem mul_one (a : By) : mul a 1#8 = a := mul_pw a 0
theorem mul_two (a : By) : mul a 2#8 = xt a := mul_pw a 1
theorem mul_nz {a b : By} (ha : a ≠ 0#8) (hb : b ≠ 0#8) : mul a b = pw (lg a + lg b) := by
  unfold mul; rw [if_neg hb]
  conv => lhs; rw [← pw_lg ha]
  rw [pw, ← xtn_add, Nat.add_comm]; rfl
theorem mul_comm (a b : By) : mul a b = mul b a := by
  by_cases ha : a = 0#8
  · subst ha; rw [zero_mul, mul_zero]
  · by_cases hb : b = 0#8
    · subst hb; rw [zero_mul, mul_zero]
    · rw [mul_nz ha hb, mul_nz hb ha, Nat.add_comm]
theorem one_mul (a : By) : mul 1#8 a = a := by rw [mul_comm, mul_one]
theorem xor_mul (a b c : By) : mul (a ^^^ b) c = mul a c ^^^ mul b c := by
  unfold mul; split
  · simp
  · exact xtn_xor _ _ _
theorem mul_xor (a b c : By) : mul a (b ^^^ c) = mul a b ^^^ mul a c := by
  rw [mul_comm, xor_mul, mul_comm b, mul_comm c]
theorem mul_ne {a b : By} (ha : a ≠ 0#8) (hb : b ≠ 0#8) : mul a b ≠ 0#8 := by rw [mul_nz ha hb]; exact pw_ne _
theorem mul_assoc (a b c : By) : mul (mul a b) c = mul a (mul b c) := by
  by_cases hb : b = 0#8
  · subst hb; simp [mul_zero, zero_mul]
  · by_cases hc : c = 0#8
    · subst hc; simp [mul_zero]
    · rw [mul_nz hb hc, mul_pw]
      conv => lhs; rw [← pw_lg hb, mul_pw, ← pw_lg hc, mul_pw]
      rw [← xtn_add, Nat.add_comm]

/-- The inverse of what is not 0. -/
def inv (a : By) : By := pw (255 - lg a)
theorem mul_inv {a : By} (h : a ≠ 0#8) : mul a (inv a) = 1#8 := by
  unfold inv
  rw [mul_pw]
  have e : xtn (255 - lg a) (pw (lg a)) = 1#8 := by
    rw [pw, ← xtn_add, show 255 - lg a + lg a = 255 by have := lg_lt a; omega]; exact pw_255
  rwa [pw_lg h] at e
theorem inv_mul {a : By} (h : a ≠ 0#8) : mul (inv a) a = 1#8 := by rw [mul_comm, mul_inv h]
theorem inv_ne (a : By) : inv a ≠ 0#8 := pw_ne _
theorem inv_unique {a b : By} (h : mul a b = 1#8) : b = inv a := by
  have ha : a ≠ 0#8 := by rintro rfl; rw [zero_mul] at h; exact absurd h (by decide)
  rw [← one_mul b, ← inv_mul ha, mul_assoc, h, mul_one]
end Go.SR
