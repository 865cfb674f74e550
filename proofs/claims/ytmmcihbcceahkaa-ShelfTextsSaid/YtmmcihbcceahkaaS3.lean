/- Sorting whole numbers: the choice of a pivot, the breaking of patterns. -/
import Derived.Test.YtmmcihbcceahkaaS2
namespace Go.SR
open Go Go.Proofs

theorem pv_indexP {P : Program} {t : TypeId} {s : ByteArray} {k : IntKind} {i : Int} {F : Value → Prop} (Q : Nat → Nat → Bool) (h : P.underlying t = some .string) (h0 : 0 ≤ i) (h1 : i < s.size)
    (hQ : (List.range s.size).all (fun i => Q i (s.data.toList.getD i 0).toNat) = true) (hF : ∀ n : Nat, Q i.toNat n = true → F (.int .u8 n)) :
    pv P (Instr.index t (.string s) (.int k i)) F := by
  have hi : i.toNat < s.size := by omega
  refine ⟨.int .u8 (s[i.toNat]'hi).toNat, fun w => ?_, hF _ ?_⟩
  · rw [run_index_string w t s k i h]
    simp [h0, h1]
  · have := List.all_eq_true.1 hQ i.toNat (List.mem_range.2 hi)
    have e : s.data.toList.getD i.toNat 0 = s[i.toNat]'hi := by
      have hd : i.toNat < s.data.toList.length := by simpa using hi
      rw [List.getD_eq_getElem?_getD, List.getElem?_eq_getElem hd]; rfl
    rwa [e] at this

/-- How many bits x takes. -/
def lenQ (x v : Nat) : Bool := decide (v ≤ 8) && decide (x < 2 ^ v) && (decide (x = 0) || decide (2 ^ v ≤ 2 * x))

section
variable {w : World}

set_option maxRecDepth 100000 in
theorem Len64_q {x : Int} (h0 : 0 ≤ x) (h1 : x < 256) : Cs Try.prog math_bits_Len64_n #[.int .u64 x] w (Ret fun v w' => (∃ n : Nat, v = .int .i64 n ∧ lenQ x.toNat n = true) ∧ w' = w) := by
  apply math_bits_Len64_ok
  unfold math_bits_Len64
  refine br_if (fun h => by omega) (fun _ => ?_)
  refine br_if (fun h => by omega) (fun _ => ?_)
  refine br_if (fun h => by omega) (fun _ => ?_)
  refine pv_indexP lenQ (by kernel_rfl) (by rw [wu8 h0 h1]; exact h0) (by rw [wu8 h0 h1]; exact Int.lt_of_lt_of_le h1 (Int.le_of_eq (by kernel_rfl))) (by kernel_rfl) fun n hn => ?_
  rw [wu8 h0 h1] at hn
  have hn8 : n ≤ 8 := by simp [lenQ] at hn; omega
  refine ⟨n, rfl, ⟨n, ?_, hn⟩, rfl⟩
  rw [w64 (n := (n : Int)) (by omega) (by omega), w64 (by omega) (by omega)]
  simp

theorem Len_q {x : Int} (h0 : 0 ≤ x) (h1 : x < 256) : Cs Try.prog math_bits_Len_n #[.int .u64 x] w (Ret fun v w' => (∃ n : Nat, v = .int .i64 n ∧ lenQ x.toNat n = true) ∧ w' = w) := by
  apply math_bits_Len_ok
  unfold math_bits_Len
  refine cl_ret (Len64_q h0 h1) ?_
  rintro v w' ⟨⟨n, rfl, hn⟩, rfl⟩
  exact ⟨n, rfl, ⟨n, rfl, hn⟩, rfl⟩

theorem nextPow_c {x : Int} (h0 : 0 < x) (h1 : x < 256) : Cs Try.prog slices_nextPowerOfTwo_n #[.int .i64 x] w (Ret fun v w' => (∃ n : Int, v = .int .u64 n ∧ 1 ≤ n ∧ n ≤ 2 * x) ∧ w' = w) := by
  apply slices_nextPowerOfTwo_ok
  unfold slices_nextPowerOfTwo
  rw [wu64 (by omega) (by omega)]
  refine cl_ret (Len_q (by omega) h1) ?_
  rintro v w' ⟨⟨n, rfl, hn⟩, rfl⟩
  have h8 : n ≤ 8 := by simp [lenQ] at hn; omega
  have h2 : 2 ^ n ≤ 2 * x.toNat := by
    simp only [lenQ, Bool.and_eq_true, Bool.or_eq_true, decide_eq_true_eq] at hn
    omega
  have h3 : 0 < 2 ^ n := Nat.two_pow_pos n
  refine ⟨n, rfl, by omega, ⟨((2 ^ n : Nat) : Int), ?_, by omega, by omega⟩, rfl⟩
  have e : min (Int.toNat (n : Int)) 64 = n := by simp; omega
  rw [e, Int.one_mul]
  have e2 : ((2 : Int) ^ n) = ((2 ^ n : Nat) : Int) := by simp
  rw [e2, wu64 (by omega) (by omega)]

theorem xorshift_c {m : Nat} {v : Int} (h : At w m #[.int .u64 v] 214) :
    Cs Try.prog slices_xorshift_Next_n #[.pointer (some ⟨m, 0, none⟩)] w (Ret fun r w' => ∃ n : Int, r = .int .u64 n ∧ At w' m #[.int .u64 n] 214 ∧ Chg (fun x => x = m) w w') := by
  apply slices_xorshift_Next_ok
  unfold slices_xorshift_Next
  refine dr_step fun w1 _ he1 => ?_
  have h1 : At w1 m #[.int .u64 v] 214 := he1.keep _ _ h id
  refine nc_s ⟨_, by rw [h1.cell]; rfl, nc_s ⟨_, by rw [h1.cell]; rfl, by decide, nc_s ?_⟩⟩
  refine st1_at (i := 0) h1 rfl (by simp) rfl fun w2 h2 hc2 => ?_
  refine dr_step fun w3 _ he3 => ?_
  have h3 : At w3 m _ 214 := he3.keep _ _ h2 id
  refine nc_s ⟨_, by rw [h3.cell]; rfl, nc_s ⟨_, by rw [h3.cell]; rfl, by decide, nc_s ?_⟩⟩
  refine st1_at (i := 0) h3 rfl (by simp) rfl fun w4 h4 hc4 => ?_
  refine dr_step fun w5 _ he5 => ?_
  have h5 : At w5 m _ 214 := he5.keep _ _ h4 id
  refine nc_s ⟨_, by rw [h5.cell]; rfl, nc_s ⟨_, by rw [h5.cell]; rfl, by decide, nc_s ?_⟩⟩
  refine st1_at (i := 0) h5 rfl (by simp) rfl fun w6 h6 hc6 => ?_
  refine nc_s ⟨_, by rw [h6.cell]; rfl, _, rfl, h6, ?_⟩
  exact ((((Ext.any he1).trans hc2).trans ((Ext.any he3).trans hc4)).trans (Ext.any he5)).trans hc6

variable {base : Nat} {p : Option Addr} {l c : Nat} {xs : List Int}

theorem order2_c {i j : Int} {m : Nat} {n : Int} (h : RowI w base p l c xs) (hi0 : 0 ≤ i) (hi : i < l) (hj0 : 0 ≤ j) (hj : j < l) (hm : At w m #[.int .i64 n] 3) (hn0 : 0 ≤ n) (hn1 : n < 1000) :
    Cs Try.prog slices_order2Ordered_uint32_n #[.slice p l c, .int .i64 i, .int .i64 j, .pointer (some ⟨m, 0, none⟩)] w
      (Ret fun v w' => ∃ n' : Int, (v = .tuple #[.int .i64 i, .int .i64 j] ∨ v = .tuple #[.int .i64 j, .int .i64 i]) ∧ n ≤ n' ∧ n' ≤ n + 1 ∧ At w' m #[.int .i64 n'] 3 ∧ Chg (fun x => x = m) w w') := by
  apply slices_order2Ordered_uint32_ok
  unfold slices_order2Ordered_uint32
  refine dr_step fun w1 _ he1 => ?_
  have h1 : At w1 m #[.int .i64 n] 3 := he1.keep _ _ hm id
  refine RowI.less (Row.ext h he1) hj0 hj hi0 hi ?_
  refine br_iff.2 ⟨fun _ => ?_, fun _ => ⟨n, .inl rfl, Int.le_refl _, by omega, h1, Ext.any he1⟩⟩
  refine nc_s ⟨_, by rw [h1.cell]; rfl, nc_s ?_⟩
  refine st1_at (i := 0) h1 rfl (by simp) rfl fun w2 h2 hc2 => ?_
  rw [w64 (by omega) (by omega)] at h2
  exact ⟨n + 1, .inr rfl, by omega, Int.le_refl _, h2, (Ext.any he1).trans hc2⟩

theorem median_c {i j k : Int} {m : Nat} {n : Int} (h : RowI w base p l c xs) (hi0 : 0 ≤ i) (hi : i < l) (hj0 : 0 ≤ j) (hj : j < l) (hk0 : 0 ≤ k) (hk : k < l) (hm : At w m #[.int .i64 n] 3) (hn0 : 0 ≤ n) (hn1 : n < 900) :
    Cs Try.prog slices_medianOrdered_uint32_n #[.slice p l c, .int .i64 i, .int .i64 j, .int .i64 k, .pointer (some ⟨m, 0, none⟩)] w
      (Ret fun v w' => ∃ r n' : Int, v = .int .i64 r ∧ (r = i ∨ r = j ∨ r = k) ∧ n ≤ n' ∧ n' ≤ n + 3 ∧ At w' m #[.int .i64 n'] 3 ∧ Chg (fun x => x = m) w w') := by
  apply slices_medianOrdered_uint32_ok
  unfold slices_medianOrdered_uint32
  refine cl_ret (order2_c h hi0 hi hj0 hj hm hn0 (by omega)) ?_
  rintro v w1 ⟨n1, hv1, hn10, hn11, hm1, hc1⟩
  have hr1 := Row.chg h hc1 (Off.of_at hm (by decide))
  obtain ⟨a1, b1, rfl, hab1⟩ : ∃ a b : Int, v = .tuple #[.int .i64 a, .int .i64 b] ∧ ((a = i ∧ b = j) ∨ (a = j ∧ b = i)) := by
    rcases hv1 with h | h
    · exact ⟨i, j, h, .inl ⟨rfl, rfl⟩⟩
    · exact ⟨j, i, h, .inr ⟨rfl, rfl⟩⟩
  refine ⟨a1, b1, rfl, ?_⟩
  refine cl_ret (order2_c hr1 (by omega) (by omega) hk0 hk hm1 (by omega) (by omega)) ?_
  rintro v w2 ⟨n2, hv2, hn20, hn21, hm2, hc2⟩
  have hr2 := Row.chg hr1 hc2 (Off.of_at hm1 (by decide))
  obtain ⟨a2, b2, rfl, hab2⟩ : ∃ a b : Int, v = .tuple #[.int .i64 a, .int .i64 b] ∧ ((a = b1 ∧ b = k) ∨ (a = k ∧ b = b1)) := by
    rcases hv2 with h | h
    · exact ⟨b1, k, h, .inl ⟨rfl, rfl⟩⟩
    · exact ⟨k, b1, h, .inr ⟨rfl, rfl⟩⟩
  refine ⟨a2, b2, rfl, ?_⟩
  refine cl_ret (order2_c hr2 (by omega) (by omega) (by omega) (by omega) hm2 (by omega) (by omega)) ?_
  rintro v w3 ⟨n3, hv3, hn30, hn31, hm3, hc3⟩
  obtain ⟨a3, b3, rfl, hab3⟩ : ∃ a b : Int, v = .tuple #[.int .i64 a, .int .i64 b] ∧ ((a = a1 ∧ b = a2) ∨ (a = a2 ∧ b = a1)) := by
    rcases hv3 with h | h
    · exact ⟨_, _, h, .inl ⟨rfl, rfl⟩⟩
    · exact ⟨_, _, h, .inr ⟨rfl, rfl⟩⟩
  exact ⟨a3, b3, rfl, b3, n3, rfl, by omega, by omega, by omega, hm3, (hc1.trans hc2).trans hc3⟩

theorem zc3 : zc Try.prog 3 = #[.int .i64 0] := by kernel_rfl
theorem zc214 : zc Try.prog 214 = #[.int .u64 0] := by kernel_rfl

theorem choosePivot_c {a b : Nat} (h : RowI w base p l c xs) (hab : a + 8 ≤ b) (hb : b ≤ l) (hl : l < 4611686018427387904) (h50 : b - a < 50) :
    Cs Try.prog slices_choosePivotOrdered_uint32_n #[.slice p l c, .int .i64 a, .int .i64 b] w
      (Ret fun v w' => ∃ (m : Nat) (r : Int), v = .tuple #[.int .i64 m, .int .i64 r] ∧ a ≤ m ∧ m < b ∧ r ≠ 2 ∧ Ext w w') := by
  apply slices_choosePivotOrdered_uint32_ok
  unfold slices_choosePivotOrdered_uint32
  refine al_step fun m0 w1 hat1 he1 hb1 => ?_
  rw [zc3] at hat1
  refine ⟨by decide, by decide, by decide, ?_⟩
  have hd : ((b : Int) - a).tdiv 4 = ((b - a) / 4 : Nat) := by
    rw [show (b : Int) - a = ((b - a : Nat) : Int) by omega]; rfl
  rw [w64 (n := (b : Int) - a) (by omega) (by omega), hd]
  rw [w64 (n := (((b - a) / 4 : Nat) : Int)) (by omega) (by omega), w64 (n := (((b - a) / 4 : Nat) : Int) * 1) (by omega) (by omega), w64 (n := (((b - a) / 4 : Nat) : Int) * 2) (by omega) (by omega), w64 (n := (((b - a) / 4 : Nat) : Int) * 3) (by omega) (by omega),
    w64 (n := (a : Int) + (((b - a) / 4 : Nat) : Int) * 1) (by omega) (by omega), w64 (n := (a : Int) + (((b - a) / 4 : Nat) : Int) * 2) (by omega) (by omega), w64 (n := (a : Int) + (((b - a) / 4 : Nat) : Int) * 3) (by omega) (by omega)]
  refine br_if (fun _ => ?_) (fun h => by omega)
  refine br_if (fun h => by omega) (fun _ => ?_)
  refine cl_ret (median_c (Row.ext h he1) (by omega) (by omega) (by omega) (by omega) (by omega) (by omega) hat1 (Int.le_refl _) (by decide)) ?_
  rintro v w2 ⟨r, n, rfl, hr, hn0, hn1, hat2, hc2⟩
  have he2 : Ext w w2 := he1.then hc2 fun x hx => by omega
  refine ⟨r, rfl, n, by rw [hat2.cell]; rfl, ?_⟩
  have hrr : (Value.int .i64 r) = .int .i64 (r.toNat : Int) := by rw [Int.toNat_of_nonneg (by omega)]
  have out : ∀ x : Int, x ≠ 2 → ∃ (m : Nat) (r' : Int), Value.tuple #[.int .i64 r, .int .i64 x] = .tuple #[.int .i64 m, .int .i64 r'] ∧ a ≤ m ∧ m < b ∧ r' ≠ 2 ∧ Ext w w2 :=
    fun x hx => ⟨r.toNat, x, by rw [hrr], by omega, by omega, hx, he2⟩
  refine br_iff.2 ⟨fun _ => out 1 (by decide), fun _ => ?_⟩
  refine br_iff.2 ⟨fun h => ?_, fun _ => out 0 (by decide)⟩
  have : n = 12 := by simpa using h
  omega
end
end Go.SR
