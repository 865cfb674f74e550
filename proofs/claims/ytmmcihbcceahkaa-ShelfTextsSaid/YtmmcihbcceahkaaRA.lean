/- Contracts of girandoleref1 up to reduced. -/
import Derived.Test.YtmmcihbcceahkaaF2
import Derived.Test.YtmmcihbcceahkaaH5
import Derived.Test.YtmmcihbcceahkaaF3
import Derived.Test.YtmmcihbcceahkaaH8

/- Contracts: girandoleref1.Mul, Inv, Axpy, Count, NewBasis, Row. -/
namespace Go.SR
open Go Go.Proofs

theorem xor64 {a b : Nat} (ha : a < 2 ^ 62) (hb : b < 2 ^ 62) : IntKind.wrap .i64 ((BitVec.ofInt 64 (a : Int) ^^^ BitVec.ofInt 64 (b : Int)).toNat : Int) = ((a ^^^ b : Nat) : Int) := by
  have hx : a ^^^ b < 2 ^ 62 := Nat.xor_lt_two_pow ha hb
  rw [BitVec.toNat_xor, BitVec.toNat_ofInt, BitVec.toNat_ofInt]
  have e1 : ((a : Int) % ((2 ^ 64 : Nat) : Int)).toNat = a := by omega
  have e2 : ((b : Int) % ((2 ^ 64 : Nat) : Int)).toNat = b := by omega
  rw [e1, e2, w64 (by omega) (by omega)]

theorem xorU64 {a b : Nat} (ha : a < 2 ^ 62) (hb : b < 2 ^ 62) : IntKind.wrap .u64 ((BitVec.ofInt 64 (a : Int) ^^^ BitVec.ofInt 64 (b : Int)).toNat : Int) = ((a ^^^ b : Nat) : Int) := by
  have hx : a ^^^ b < 2 ^ 62 := Nat.xor_lt_two_pow ha hb
  rw [BitVec.toNat_xor, BitVec.toNat_ofInt, BitVec.toNat_ofInt]
  have e1 : ((a : Int) % ((2 ^ 64 : Nat) : Int)).toNat = a := by omega
  have e2 : ((b : Int) % ((2 ^ 64 : Nat) : Int)).toNat = b := by omega
  rw [e1, e2, wu64 (by omega) (by omega)]

theorem xt_dbl (x : By) : (2 * (x.toNat : Int) ≥ 256 ∧ ((2 * x.toNat) ^^^ 285 : Nat) = (xt x).toNat) ∨ (¬ 2 * (x.toNat : Int) ≥ 256 ∧ 2 * x.toNat = (xt x).toNat) := by
  have := all256 (p := fun x => (decide (2 * x.toNat ≥ 256) && ((2 * x.toNat) ^^^ 285 == (xt x).toNat)) || (!decide (2 * x.toNat ≥ 256) && (2 * x.toNat == (xt x).toNat))) (by decide +kernel) x
  simp only [Bool.or_eq_true, Bool.and_eq_true, decide_eq_true_eq, beq_iff_eq, Bool.not_eq_true', decide_eq_false_iff_not] at this
  rcases this with ⟨h1, h2⟩ | ⟨h1, h2⟩
  · exact .inl ⟨by omega, h2⟩
  · exact .inr ⟨by omega, h2⟩

theorem by_split (y : By) : y = (if y.toNat % 2 = 1 then 1#8 else 0#8) ^^^ xt (y >>> 1) := by
  have := all256 (p := fun y => y == (if y.toNat % 2 = 1 then 1#8 else 0#8) ^^^ xt (y >>> 1)) (by decide +kernel) y
  simpa using this

theorem mul_split (x y : By) : mul x y = (if y.toNat % 2 = 1 then x else 0#8) ^^^ mul (xt x) (y >>> 1) := by
  conv => lhs; rw [by_split y]
  rw [mul_xor]
  congr 1
  · split
    · exact mul_one x
    · exact mul_zero x
  · rw [← mul_two (y >>> 1), ← mul_two x, mul_assoc, mul_comm 2#8]

theorem half (y : By) : Int.tdiv (y.toNat : Int) 2 = ((y >>> 1).toNat : Int) := by
  rw [Int.tdiv_eq_ediv_of_nonneg (by omega), BitVec.toNat_ushiftRight, Nat.shiftRight_eq_div_pow]; omega

variable {w : World}

theorem refMul_c {a b : By} : Cs Try.prog gref1_Mul_n #[bv a, bv b] w (Ret fun v w' => v = bv (mul a b) ∧ w' = w) := by
  apply gref1_Mul_ok
  unfold gref1_Mul
  have ha := a.isLt
  have hb := b.isLt
  rw [w64 (n := (a.toNat : Int)) (by omega) (by omega), w64 (n := (b.toNat : Int)) (by omega) (by omega)]
  refine lp_step (fun n st w' => ∃ x y p : By, st = ((x.toNat : Int), ((y.toNat : Int), (p.toNat : Int))) ∧ mul a b = p ^^^ mul x y ∧ w' = w ∧ n = y.toNat) _ ⟨a, b, 0#8, rfl, by simp, rfl, rfl⟩ ?_
  rintro n _ _ w' ⟨x, y, p, rfl, hm, hw, hn⟩ K hK
  subst hw
  dsimp only
  have hx := x.isLt
  have hy := y.isLt
  have hp := p.isLt
  refine br_if (fun hy0 => ⟨by decide, ?_⟩) (fun hy0 => ?_)
  · have hsp := mul_split x y
    have hlt : (y >>> 1).toNat < n := by rw [BitVec.toNat_ushiftRight, Nat.shiftRight_eq_div_pow]; omega
    have hpx : IntKind.wrap .i64 ((BitVec.ofInt 64 (p.toNat : Int) ^^^ BitVec.ofInt 64 (x.toNat : Int)).toNat : Int) = ((p ^^^ x).toNat : Int) := by
      rw [xor64 (by omega) (by omega), BitVec.toNat_xor]
    have hxl := (xt x).isLt
    have hyl := (y >>> 1).isLt
    rw [half, w64 (n := ((y >>> 1).toNat : Int)) (by omega) (by omega), hpx, w64 (n := 2 * (x.toNat : Int)) (by omega) (by omega)]
    have e285 : IntKind.wrap .i64 ((BitVec.ofInt 64 (2 * (x.toNat : Int)) ^^^ BitVec.ofInt 64 (285 : Int)).toNat : Int) = (((2 * x.toNat) ^^^ 285 : Nat) : Int) := by
      have := xor64 (a := 2 * x.toNat) (b := 285) (by omega) (by omega)
      rw [← this]; rfl
    rw [e285]
    have go : ∀ q : By, mul a b = q ^^^ mul (xt x) (y >>> 1) → br (decide (2 * (x.toNat : Int) ≥ 256)) ((2 : Int) ≠ 0 ∧ K ((((2 * x.toNat) ^^^ 285 : Nat) : Int), (((y >>> 1).toNat : Int), (q.toNat : Int))) w') ((2 : Int) ≠ 0 ∧ K (2 * (x.toNat : Int), (((y >>> 1).toNat : Int), (q.toNat : Int))) w') := fun q hq => by
      rcases xt_dbl x with ⟨h1, h2⟩ | ⟨h1, h2⟩
      · refine br_if (fun _ => ⟨by decide, ?_⟩) (fun h => absurd h1 h)
        rw [h2]
        exact hK _ _ _ hlt ⟨xt x, y >>> 1, q, rfl, hq, rfl, rfl⟩
      · refine br_if (fun h => absurd h h1) (fun _ => ⟨by decide, ?_⟩)
        rw [show 2 * (x.toNat : Int) = ((xt x).toNat : Int) by omega]
        exact hK _ _ _ hlt ⟨xt x, y >>> 1, q, rfl, hq, rfl, rfl⟩
    rw [Int.tmod_eq_emod_of_nonneg (by omega)]
    refine br_iff.2 ⟨fun h => ?_, fun h => ?_⟩
    · have h : (y.toNat : Int) % 2 = 1 := by simpa using h
      refine go (p ^^^ x) ?_
      rw [hm, hsp, if_pos (by omega), BitVec.xor_assoc]
    · have h : ¬ (y.toNat : Int) % 2 = 1 := by simpa using h
      refine go p ?_
      rw [hm, hsp, if_neg (by omega), BitVec.zero_xor]
  · have : y = 0#8 := BitVec.eq_of_toNat_eq (by simp; omega)
    subst this
    rw [mul_zero, BitVec.xor_zero] at hm
    refine ⟨?_, rfl⟩
    rw [by_wrap, hm]; rfl

theorem refInv_c {a : By} (h : a ≠ 0#8) : Cs Try.prog gref1_Inv_n #[bv a] w (Ret fun v w' => v = .tuple #[bv (inv a), .bool true] ∧ w' = w) := by
  obtain ⟨z, hz, hz0, hz1, hzu⟩ : ∃ z, inv a = z ∧ z ≠ 0#8 ∧ mul a z = 1#8 ∧ ∀ b, mul a b = 1#8 → b = z := ⟨_, rfl, inv_ne a, mul_inv h, fun b hb => inv_unique hb⟩
  rw [hz]
  apply gref1_Inv_ok
  unfold gref1_Inv
  have hi := z.isLt
  have hi0 : z.toNat ≠ 0 := fun e => hz0 (BitVec.eq_of_toNat_eq (by simpa using e))
  refine lp_step (fun n st w' => ∃ i : Nat, st = i ∧ 1 ≤ i ∧ i ≤ z.toNat ∧ w' = w ∧ n = 256 - i) _ ⟨1, rfl, by omega, by omega, rfl, rfl⟩ ?_
  rintro n _ _ w' ⟨i, rfl, h1, h2, hw, hn⟩ K hK
  subst hw
  have hlt : (i : Int) < 256 := by omega
  rw [decide_eq_true hlt]
  refine br_t ?_
  have hib : IntKind.wrap .u8 (i : Int) = ((BitVec.ofNat 8 i).toNat : Int) := by
    rw [wu8 (by omega) (by omega), BitVec.toNat_ofNat, Nat.mod_eq_of_lt (by omega)]
  rw [hib]
  refine cl_ret (refMul_c (a := a) (b := BitVec.ofNat 8 i)) ?_
  rintro v w2 ⟨rfl, hw2⟩
  subst hw2
  refine ⟨_, rfl, br_iff.2 ⟨fun he => ?_, fun he => ?_⟩⟩
  · have he : mul a (BitVec.ofNat 8 i) = 1#8 := by
      have : ((mul a (BitVec.ofNat 8 i)).toNat : Int) = 1 := by simpa using he
      exact BitVec.eq_of_toNat_eq (by simp; omega)
    refine ⟨?_, rfl⟩
    rw [hzu _ he]; rfl
  · rw [w64 (by omega) (by omega)]
    have hne : i ≠ z.toNat := by
      rintro rfl
      have : BitVec.ofNat 8 z.toNat = z := by simp
      rw [this, hz1] at he
      simp at he
    exact hK (256 - (i + 1)) _ _ (by omega) ⟨i + 1, by simp, by omega, by omega, rfl, rfl⟩

theorem refAxpy_c {p q : Option Addr} {pl pc ql qc : Nat} {y x : List By} {c : By} (hy : Byr w p pl y) (hx : Byr w q ql x) (hs : y.length ≤ 1000000) (hs' : x.length ≤ 1000000) :
    Cs Try.prog gref1_Axpy_n #[.slice p pl pc, .slice q ql qc, bv c] w (Ret fun v w' => ∃ r l d, v = .slice r l d ∧ RowB w' w.heap.size r l d (axl y x c) ∧ Ext w w') := by
  apply gref1_Axpy_ok
  unfold gref1_Axpy
  have hyl := hy.len
  have hxl := hx.len
  have hal : (axl y x c).length = min y.length x.length := by simp [axl]
  refine lp_step (fun n st w' => ∃ i : Nat, st.2 = i ∧ i ≤ min y.length x.length ∧ RowB w' w.heap.size st.1.1 st.1.2.1 st.1.2.2 ((axl y x c).take i) ∧ Ext w w' ∧ n = min y.length x.length - i)
    _ ⟨0, rfl, by omega, Row.nil, Ext.refl _, rfl⟩ ?_
  rintro n _ ⟨⟨op, ol, oc⟩, _⟩ w1 ⟨i, rfl, hi, hr, he, hn⟩ K hK
  have hr : RowB w1 w.heap.size op ol oc ((axl y x c).take i) := hr
  dsimp only
  have hol := hr.lenB
  have hti : ((axl y x c).take i).length = i := by rw [List.length_take, hal]; omega
  refine jn_step (fun _ w' => w' = w1 ∧ i < min y.length x.length) ?_ ?_
  · rintro _ _ w2 ⟨hw2, hlt⟩
    subst hw2
    refine dr_step fun w3 _ he3 => ?_
    have he03 := he.trans he3
    refine hy.ix (by omega) (by omega) fun a5 h5w => ⟨_, Ext.cell he03 h5w, ?_⟩
    refine hx.ix (by omega) (by omega) fun a7 h7w => ⟨_, Ext.cell he03 h7w, ?_⟩
    rw [Int.toNat_natCast] at h5w ⊢
    have h5 := Ext.cell he03 h5w
    refine cl_step (refMul_c (a := c) (b := vec x i)) ?_
    rintro (v | _ | _) w4 hv
    · obtain ⟨rfl, hw4⟩ := hv
      subst hw4
      refine ⟨_, rfl, hold_one h5, ?_⟩
      rw [by_xor]
      refine al_step fun m w5 a5' he5 hb5 => ⟨hold_one (he5.cell h5), ?_⟩
      have hr5 : RowB w5 w.heap.size op ol oc _ := Row.ext (Row.ext hr he3) he5
      refine append_step (news := [bv (vec y i ^^^ mul c (vec x i))]) (z := .int .u8 0) (bytes := 1) (m := 1) und22 inf5 rfl (by decide) hr5 rfl (a5'.cellsAt _ 0 fun i hi => by simp at hi; subst hi; rfl) (by simp [Value.oneCell', bv]) (by omega) (by omega) (he03.trans he5).size fun p' c' w6 hr6 hc6 => ?_
      have he6 : Ext w w6 := Ext.then (he03.trans he5) hc6 fun b hb => Row.base hr5 b hb
      refine ⟨_, _, _, rfl, hold_one (he6.cell h5w), ?_⟩
      rw [w64 (by omega) (by omega)]
      refine hK (min y.length x.length - (i + 1)) _ _ (by omega) ⟨i + 1, by simp, by omega, ?_, he6, rfl⟩
      show RowB w6 w.heap.size p' (ol + 1) c' _
      unfold RowB
      rw [List.take_add_one, axl_get, if_pos (by omega), List.map_append]
      exact hr6
    · exact hv.elim
    · exact hv.elim
  · have fin : i = min y.length x.length → Ret (fun v w' => ∃ r l d, v = .slice r l d ∧ RowB w' w.heap.size r l d (axl y x c) ∧ Ext w w') (.returned (.slice op ol oc)) w1 := fun e => by
      refine ⟨op, ol, oc, rfl, ?_, he⟩
      rw [List.take_of_length_le (by rw [hal]; omega)] at hr
      exact hr
    refine br_if (fun h1 => br_if (fun h2 => ⟨rfl, by omega⟩) (fun h2 => fin (by omega))) (fun h1 => fin (by omega))

theorem refCount_c {size symbol : Int} : Cs Try.prog gref1_Count_n #[.int .i64 size, .int .i64 symbol] w (Ret fun v w' => v = .tuple #[.int .i64 (cntK size symbol), .bool (cntOk size symbol)] ∧ w' = w) := by
  apply gref1_Count_ok
  unfold gref1_Count
  have no : ¬ (1 ≤ symbol ∧ symbol ≤ 64 ∧ 1 ≤ size ∧ size ≤ 32 * symbol) → Ret (fun v w' => v = .tuple #[.int .i64 (cntK size symbol), .bool (cntOk size symbol)] ∧ w' = w) (.returned (.tuple #[.int .i64 0, .bool false])) w := fun h => by
    have : cntOk size symbol = false := decide_eq_false h
    refine ⟨?_, rfl⟩
    rw [this]; simp [cntK, this]
  refine br_if (fun h => no (by omega)) (fun h1 => br_if (fun h => no (by omega)) (fun h2 => br_if (fun h => no (by omega)) (fun h3 => ?_)))
  rw [w64 (n := 32 * symbol) (by omega) (by omega)]
  refine br_if (fun h => no (by omega)) (fun h4 => ?_)
  have hok : cntOk size symbol = true := decide_eq_true ⟨by omega, by omega, by omega, by omega⟩
  have hb := cnt_bd hok
  refine ⟨by omega, ?_, rfl⟩
  rw [w64 (n := size + symbol) (by omega) (by omega), w64 (n := size + symbol - 1) (by omega) (by omega), Int.tdiv_eq_ediv_of_nonneg (by omega), w64 (by omega) (by omega)]
  rw [hok]; simp [cntK, hok]

theorem refNew_c {k size : Int} (hk : 1 ≤ k ∧ k ≤ 32) (hs : 1 ≤ size ∧ size ≤ 64) : Cs Try.prog gref1_NewBasis_n #[.int .i64 k, .int .i64 size] w
    (Ret fun v w' => ∃ b, v = .tuple #[.pointer (some ⟨b, 0, none⟩), .bool true] ∧ At w' b #[.int .i64 k, .int .i64 size, .slice none 0 0, .slice none 0 0] 78 ∧ Ext w w' ∧ w.heap.size ≤ b) := by
  apply gref1_NewBasis_ok
  unfold gref1_NewBasis
  refine br_if (fun h => by exfalso; omega) (fun _ => br_if (fun h => by exfalso; omega) (fun _ => br_if (fun h => by exfalso; omega) (fun _ => br_if (fun h => by exfalso; omega) (fun _ => ?_))))
  exact al_step fun b w1 a1 he1 hb1 => ⟨b, rfl, a1, he1, hb1⟩

/-! ### Row -/

theorem x13 (x : W32) : Int.tmod (IntKind.wrap .u64 ((x.toNat : Int) * (8192 : Int))) (4294967296 : Int) = ((x <<< 13).toNat : Int) := by
  have := x.isLt
  rw [wu64 (by omega) (by omega), Int.tmod_eq_emod_of_nonneg (by omega), BitVec.toNat_shiftLeft, Nat.shiftLeft_eq]; omega
theorem x5 (x : W32) : Int.tmod (IntKind.wrap .u64 ((x.toNat : Int) * (32 : Int))) (4294967296 : Int) = ((x <<< 5).toNat : Int) := by
  have := x.isLt
  rw [wu64 (by omega) (by omega), Int.tmod_eq_emod_of_nonneg (by omega), BitVec.toNat_shiftLeft, Nat.shiftLeft_eq]; omega
theorem x17 (x : W32) : IntKind.wrap .u64 (Int.tdiv (x.toNat : Int) (131072 : Int)) = ((x >>> 17).toNat : Int) := by
  have := x.isLt
  rw [Int.tdiv_eq_ediv_of_nonneg (by omega), wu64 (by omega) (by omega), BitVec.toNat_ushiftRight, Nat.shiftRight_eq_div_pow]; omega
theorem xx (x y : W32) : IntKind.wrap .u64 ((BitVec.ofInt 64 (x.toNat : Int) ^^^ BitVec.ofInt 64 (y.toNat : Int)).toNat : Int) = ((x ^^^ y).toNat : Int) := by
  have := x.isLt
  have := y.isLt
  rw [xorU64 (by omega) (by omega), BitVec.toNat_xor]
theorem x11 (x : W32) : IntKind.wrap .u8 (Int.tmod (IntKind.wrap .u64 (Int.tdiv (x.toNat : Int) (2048 : Int))) (256 : Int)) = ((dbyte x).toNat : Int) := by
  have := x.isLt
  rw [Int.tdiv_eq_ediv_of_nonneg (by omega), wu64 (by omega) (by omega), Int.tmod_eq_emod_of_nonneg (by omega), wu8 (by omega) (by omega)]
  unfold dbyte
  rw [BitVec.toNat_setWidth, BitVec.toNat_ushiftRight, Nat.shiftRight_eq_div_pow]; omega

theorem seed64 {frame symbol : Int} (hf : 0 ≤ frame ∧ frame < 4294967296) (hs : 0 ≤ symbol ∧ symbol < 1000) :
    (if Int.tmod (IntKind.wrap .u64 ((IntKind.wrap .u64 ((IntKind.wrap .u64 ((IntKind.wrap .u64 frame) * (2654435761 : Int))) + (IntKind.wrap .u64 ((IntKind.wrap .u64 symbol) * (40503 : Int))))) + (1 : Int))) (4294967296 : Int) = 0 then (1 : Int) else
      Int.tmod (IntKind.wrap .u64 ((IntKind.wrap .u64 ((IntKind.wrap .u64 ((IntKind.wrap .u64 frame) * (2654435761 : Int))) + (IntKind.wrap .u64 ((IntKind.wrap .u64 symbol) * (40503 : Int))))) + (1 : Int))) (4294967296 : Int)) = ((dseed frame symbol).toNat : Int) := by
  rw [wu64 (n := frame) (by omega) (by omega), wu64 (n := symbol) (by omega) (by omega), wu64 (n := frame * 2654435761) (by omega) (by omega), wu64 (n := symbol * 40503) (by omega) (by omega), wu64 (n := frame * 2654435761 + symbol * 40503) (by omega) (by omega), wu64 (n := frame * 2654435761 + symbol * 40503 + 1) (by omega) (by omega), Int.tmod_eq_emod_of_nonneg (by omega)]
  unfold dseed
  have e2 : ((BitVec.ofInt 32 (frame * 2654435761 + symbol * 40503 + 1)).toNat : Int) = (frame * 2654435761 + symbol * 40503 + 1) % 4294967296 := by
    rw [BitVec.toNat_ofInt]
    omega
  dsimp only
  by_cases h : BitVec.ofInt 32 (frame * 2654435761 + symbol * 40503 + 1) = 0#32
  · rw [if_pos h]
    have e3 : (frame * 2654435761 + symbol * 40503 + 1) % 4294967296 = 0 := by rw [← e2, h]; rfl
    rw [if_pos e3]; rfl
  · rw [if_neg h, ← e2]
    clear e2
    generalize BitVec.ofInt 32 (frame * 2654435761 + symbol * 40503 + 1) = s at h ⊢
    have h0 : s.toNat ≠ 0 := fun h0 => h (BitVec.eq_of_toNat_eq h0)
    rw [if_neg (by omega)]

theorem refRow_c {frame symbol k : Int} (hf : 0 ≤ frame ∧ frame < 4294967296) (hk : 1 ≤ k ∧ k ≤ 32) (hs : 0 ≤ symbol ∧ symbol < k + 64) :
    Cs Try.prog gref1_Row_n #[.int .u32 frame, .int .i64 symbol, .int .i64 k] w (Ret fun v w' => ∃ p l c, v = .tuple #[.slice p l c, .bool true] ∧ RowB w' w.heap.size p l c (rowL frame symbol k.toNat) ∧ Ext w w') := by
  apply gref1_Row_ok
  unfold gref1_Row
  obtain ⟨n, rfl⟩ : ∃ n : Nat, k = n := ⟨k.toNat, by omega⟩
  refine jn_step (fun _ w' => w' = w) ?_ ?_
  · intro _ _ w0 hw0
    subst hw0
    refine make_bytes rfl rfl (by omega) fun p w1 hr1 he1 => ?_
    refine ⟨_, _, _, rfl, ?_⟩
    refine br_if (fun hlt => ?_) (fun hge0 => ⟨by decide, ?_⟩)
    · refine hr1.wr (x := 1#8) rfl hs.1 (by omega) fun w2 hr2 hc2 => ?_
      refine ⟨p, n, n, rfl, ?_, Ext.then he1 hc2 fun b hb => Row.base hr1 b hb⟩
      have : rowL frame symbol (n : Int).toNat = (List.replicate n 0#8).set symbol.toNat 1#8 := by
        unfold rowL; rw [Int.toNat_natCast, if_pos hlt]
      rw [this]; exact hr2
    · refine jn_step (fun st w' => st = ((dseed frame symbol).toNat : Int) ∧ w' = w1) ?_ ?_
      · rintro _ _ w2 ⟨rfl, hw2⟩
        subst hw2
        generalize hx : dseed frame symbol = x
        have hdl := dl_len n x
        refine lp_step (fun m st w' => ∃ i : Nat, st = (((dst i x).toNat : Int), (((dl n x).take i).all (· == 0#8), (i : Int))) ∧ i ≤ n ∧ RowB w' w0.heap.size p n n ((dl n x).take i ++ (List.replicate n 0#8).drop i) ∧ Ext w0 w' ∧ m = n - i)
          _ ⟨0, rfl, by omega, by simpa using hr1, he1, rfl⟩ ?_
        rintro m _ _ w3 ⟨i, rfl, hin, hr3, he3, hm⟩ K hK
        dsimp only
        refine br_if (fun hlt => ?_) (fun hge => ?_)
        · have hi' : i < n := by omega
          refine ⟨by decide, by decide, by decide, by decide, by decide, ?_⟩
          simp only [x13, xx, x17, x5, x11]
          have hnext : (dst i x ^^^ dst i x <<< 13 ^^^ (dst i x ^^^ dst i x <<< 13) >>> 17 ^^^ (dst i x ^^^ dst i x <<< 13 ^^^ (dst i x ^^^ dst i x <<< 13) >>> 17) <<< 5) = dst (i + 1) x := by rw [dst_succ]; rfl
          rw [hnext]
          have hg := dl_get n x i hi'
          generalize dbyte (dst (i + 1) x) = b at hg
          have hset : ((dl n x).take i ++ (List.replicate n 0#8).drop i).set i b = (dl n x).take (i + 1) ++ (List.replicate n 0#8).drop (i + 1) := by
            apply List.ext_getElem?
            intro j
            simp only [List.getElem?_set, List.length_append, List.length_take, List.length_drop, List.length_replicate, hdl, List.getElem?_append, List.getElem?_take, List.getElem?_drop, List.getElem?_replicate, Nat.min_eq_left hin, Nat.min_eq_left (show i + 1 ≤ n from hi')]
            by_cases e : i = j
            · subst e
              rw [if_pos rfl, if_pos (by omega), if_pos (by omega), if_pos (by omega), hg]
            · rw [if_neg e]
              by_cases h1 : j < i
              · rw [if_pos (by omega), if_pos h1, if_pos (by omega), if_pos (by omega)]
              · rw [if_neg h1, if_neg (show ¬ j < i + 1 by omega), show i + (j - i) = j by omega, show i + 1 + (j - (i + 1)) = j by omega]
          refine hr3.wr (x := b) rfl (by omega) (by omega) fun w5 hr5 hc5 => ?_
          rw [show ((i : Int)).toNat = i by omega, hset] at hr5
          have he5 : Ext w0 w5 := Ext.then he3 hc5 fun b hb => Row.base hr3 b hb
          have hall : ((dl n x).take (i + 1)).all (· == 0#8) = (((dl n x).take i).all (· == 0#8) && (b == 0#8)) := by
            rw [List.take_add_one, hg, List.all_append]; simp
          rw [w64 (by omega) (by omega)]
          refine br_iff.2 ⟨fun hz => ?_, fun hz => ?_⟩
          · have hb5 := hr5.byr (by simp [hdl]; omega)
            refine hb5.ix (by omega) (by simp [hdl]; omega) fun a ha => ⟨_, ha, ?_⟩
            have hv : vec (List.take (i + 1) (dl n x) ++ List.drop (i + 1) (List.replicate n 0#8)) (i : Int).toNat = b := by
              rw [show ((i : Int)).toNat = i by omega]
              simp only [vec, List.getD_eq_getElem?_getD]
              rw [List.getElem?_append_left (by simp [hdl]; omega), List.getElem?_take, if_pos (by omega), hg]; rfl
            rw [hv]
            refine hK (n - (i + 1)) _ _ (by omega) ⟨i + 1, ?_, by omega, hr5, he5, rfl⟩
            rw [hall, hz, Bool.true_and]
            have : ((b.toNat : Int) == 0) = (b == 0#8) := by
              rw [Bool.eq_iff_iff, beq_iff_eq, beq_iff_eq]; exact by_zero
            rw [this]; rfl
          · refine hK (n - (i + 1)) _ _ (by omega) ⟨i + 1, ?_, by omega, hr5, he5, rfl⟩
            rw [hall, hz, Bool.false_and]; rfl
        · have : i = n := by omega
          subst this
          rw [List.take_of_length_le (by omega), List.drop_of_length_le (by simp), List.append_nil] at hr3
          rw [List.take_of_length_le (by omega)]
          have hR : rowL frame symbol (i : Int).toNat = if (dl i x).all (· == 0#8) then (dl i x).set 0 1#8 else dl i x := by
            unfold rowL; rw [Int.toNat_natCast, if_neg hge0, hx]
          refine br_iff.2 ⟨fun hz => ?_, fun hz => ?_⟩
          · refine hr3.wr (x := 1#8) rfl (by omega) (by omega) fun w4 hr4 hc4 => ?_
            refine ⟨p, i, i, rfl, ?_, Ext.then he3 hc4 fun b hb => Row.base hr3 b hb⟩
            rw [hR, if_pos hz]; exact hr4
          · refine ⟨p, i, i, rfl, ?_, he3⟩
            rw [hR, if_neg (by rw [hz]; decide)]; exact hr3
      · have hs64 := seed64 (frame := frame) (symbol := symbol) hf ⟨hs.1, by omega⟩
        refine br_iff.2 ⟨fun h => ?_, fun h => ?_⟩
        · rw [if_pos (by simpa using h)] at hs64
          exact ⟨hs64, rfl⟩
        · rw [if_neg (by simpa using h)] at hs64
          exact ⟨hs64, rfl⟩
  · refine br_if (fun h => by exfalso; omega) (fun _ => br_if (fun h => by exfalso; omega) (fun _ => br_if (fun h => by exfalso; omega) (fun _ => ?_)))
    rw [w64 (by omega) (by omega)]
    exact br_if (fun h => by exfalso; omega) (fun _ => rfl)
end Go.SR

/- Matrices of one's own; the plain law of girandoleref1.reduced. -/
namespace Go.SR
open Go Go.Proofs

/-! ### appends, and where they lie -/

theorem append_block {P : Program} {w : World} {base : Nat} {t ty e : TypeId} {z : Value} {sz bytes : Nat} {p : Option Addr} {l c : Nat} {vs : List Value} {a : Addr} {m c' : Nat} {news : List Value}
    (ht : P.underlying t = some (.slice e)) (hi : (P.info? e).map (fun i => (i.zero, i.size, i.bytes)) = some (some z, sz, bytes)) (hzs : z.cells.size = sz) (hsz : 0 < sz)
    (h : Row w base e sz p l c vs) (hl : news.length = m * sz) (hnews : cellsAt w a news) (h1 : ∀ u ∈ news, u.oneCell' = true) (hb : l + m ≤ 4611686018427387904) (hby : (l + m) * bytes ≤ 140737488355328)
    {v' : Value} {w' : World} (hr : (Builtin.append_ #[t, t] ty #[.slice p l c, .slice (some a) m c']).run P w = .ok v' w') : ∀ x, v'.ownBlock = some x → rowS (.slice p l c) x ∨ w.heap.size ≤ x := by
  obtain ⟨i, hii, hz, hs, hbt⟩ := info_parts hi
  subst hs hbt
  rcases h.2 with ⟨h1', h2⟩ | ⟨g, cap, cur, h1', hbg, hg, hnc, hcm, hcs, htk⟩
  · cases h1'
    intro x hx
    have h0 : Row w w.heap.size e i.size none 0 0 vs := ⟨h.1, .inl ⟨rfl, rfl⟩⟩
    obtain ⟨v2, w2, hrun, hown, _⟩ := run_append_own (P := P) w w.heap.size t ty e i z i.size i.bytes ht hii hz rfl rfl hzs hsz _ 0 vs h0 a m c' news hl (fun j u hj => hnews.get j hj) h1 (by simp only [maxLen]; omega) hby (Nat.le_refl _)
    rw [hrun] at hr
    cases hr
    exact .inr (hown.lt x hx).1
  · cases h1'
    intro x hx
    by_cases hroom : l + m ≤ c
    · have hfit : l * i.size + news.length ≤ cur.size := by rw [hl, hcs, ← Nat.add_mul]; exact Nat.mul_le_mul_right _ hroom
      have := run_append_room (P := P) w t ty e i ht hii g l c cur hg a m c' news hl (fun j u hj => hnews.get j hj) h1 hroom hfit
      rw [this] at hr
      cases hr
      left; exact hx
    · have hg' : Row w base e i.size (some ⟨g, 0, none⟩) l c vs := h
      have holds : ∀ j u, vs[j]? = some u → w.cell? ((⟨g, 0, none⟩ : Addr).add j) = some u := World.ownsRow.cells hg' (g := g) rfl
      have := run_append_grow (P := P) w t ty e i z ht hii hz ⟨g, 0, none⟩ l c vs h.1 holds a m c' news hl (fun j u hj => hnews.get j hj) (by omega) (by omega) (growslice_fits (by omega) hby)
      rw [this] at hr
      cases hr
      right
      simp [Value.ownBlock] at hx
      omega

/-- append, and where the row lies then. -/
theorem append_new {P : Program} {w : World} {F : Value → World → Prop} {base : Nat} {t ty e : TypeId} {z : Value} {sz bytes : Nat} {p : Option Addr} {l c : Nat} {vs : List Value} {a : Addr} {m c' : Nat} {news : List Value}
    (ht : P.underlying t = some (.slice e)) (hi : (P.info? e).map (fun i => (i.zero, i.size, i.bytes)) = some (some z, sz, bytes)) (hzs : z.cells.size = sz) (hsz : 0 < sz)
    (h : Row w base e sz p l c vs) (hl : news.length = m * sz) (hnews : cellsAt w a news) (h1 : ∀ u ∈ news, u.oneCell' = true) (hb : l + m ≤ 4611686018427387904) (hby : (l + m) * bytes ≤ 140737488355328) (hbase : base ≤ w.heap.size)
    (hF : ∀ p' c' w', Row w' base e sz p' (l + m) c' (vs ++ news) → Chg (rowS (.slice p l c)) w w' → (∀ x, rowS (.slice p' (l + m) c') x → rowS (.slice p l c) x ∨ w.heap.size ≤ x) → F (.slice p' (l + m) c') w') :
    rnV P (Builtin.append_ #[t, t] ty #[.slice p l c, .slice (some a) m c']) w F := by
  have key := append_step (P := P) (ty := ty) (c' := c') (F := fun v w' => (∃ p' c'', v = .slice p' (l + m) c'' ∧ Row w' base e sz p' (l + m) c'' (vs ++ news)) ∧ Chg (rowS (.slice p l c)) w w') ht hi hzs hsz h hl hnews h1 hb hby hbase
    (fun p' c'' w' hr hc => ⟨⟨p', c'', rfl, hr⟩, hc⟩)
  obtain ⟨v, w', hrun, ⟨p', c'', rfl, hr⟩, hc⟩ := key
  exact ⟨_, w', hrun, hF p' c'' w' hr hc (append_block ht hi hzs hsz h hl hnews h1 hb hby hrun)⟩

theorem Row.away {S : Nat → Prop} {w w' : World} {base : Nat} {e : TypeId} {sz : Nat} {p : Option Addr} {l c : Nat} {vs : List Value} (h : Row w base e sz p l c vs) (hc : Chg S w w') (hS : ∀ x, rowS (.slice p l c) x → ¬ S x) : Row w' base e sz p l c vs := by
  refine ⟨h.1, ?_⟩
  rcases h.2 with h1 | ⟨g, cap, cur, hv, hbg, hat, hr⟩
  · exact .inl h1
  · cases hv
    exact .inr ⟨g, c, cur, rfl, hbg, hc.keep _ _ hat (hS _ rfl), hr⟩

theorem Row.here {w : World} {base : Nat} {e : TypeId} {sz : Nat} {p : Option Addr} {l c : Nat} {vs : List Value} (h : Row w base e sz p l c vs) {x : Nat} (hx : rowS (.slice p l c) x) : x < w.heap.size := by
  obtain ⟨cs, hA⟩ := h.cells x hx
  exact hA.lt

/-! ### matrices -/

def MatR (w : World) (base : Nat) (p : Option Addr) (l c : Nat) (A : List (List By)) : Prop :=
  ∃ vs, Row w base 22 1 p l c vs ∧ vs.length = A.length ∧ ∀ (i : Nat) bs, A[i]? = some bs → ∃ (q : Option Addr) (ql qc : Nat), vs[i]? = some (Value.slice q ql qc) ∧ RowB w base q ql qc bs

section
variable {w w' : World} {base : Nat} {p : Option Addr} {l c : Nat} {A : List (List By)}

theorem MatR.nil : MatR w base none 0 0 [] := ⟨[], Row.nil, rfl, fun i bs h => by simp at h⟩

theorem MatR.len (h : MatR w base p l c A) : l = A.length := by
  obtain ⟨vs, hr, hl, _⟩ := h
  have := hr.len
  omega

theorem MatR.chg {S : Nat → Prop} (h : MatR w base p l c A) (hc : Chg S w w') (hS : ∀ x, rowS (.slice p l c) x → ¬ S x) (h5 : Off S w 5) : MatR w' base p l c A := by
  obtain ⟨vs, hr, hl, hb⟩ := h
  refine ⟨vs, hr.away hc hS, hl, fun i bs hi => ?_⟩
  obtain ⟨q, ql, qc, h1, h2⟩ := hb i bs hi
  exact ⟨q, ql, qc, h1, Row.chg h2 hc h5⟩

theorem MatR.ext (h : MatR w base p l c A) (he : Ext w w') : MatR w' base p l c A := h.chg he (fun _ _ => id) Off.none

theorem MatR.off5 (h : MatR w base p l c A) : Off (rowS (.slice p l c)) w 5 := by
  obtain ⟨vs, hr, _⟩ := h
  exact hr.off (by decide)

theorem MatR.bse (h : MatR w base p l c A) : ∀ b, rowS (.slice p l c) b → base ≤ b := by
  obtain ⟨vs, hr, _⟩ := h
  exact Row.base hr

theorem MatR.here (h : MatR w base p l c A) {x : Nat} (hx : rowS (.slice p l c) x) : x < w.heap.size := by
  obtain ⟨vs, hr, _⟩ := h
  exact Row.here hr hx

theorem MatR.ix {i : Int} {F : Addr → Prop} (h : MatR w base p l c A) (h0 : 0 ≤ i) (h1 : i < A.length) (hF : ∀ a q ql qc, w.cell? a = some (.slice q ql qc) → RowB w base q ql qc (A.getD i.toNat []) → F a) : ixa p l i 1 F := by
  obtain ⟨vs, hr, hl, hb⟩ := h
  obtain ⟨q, ql, qc, hv, hrow⟩ := hb i.toNat _ (List.getElem?_eq_getElem (by omega))
  have hat := Row.at hr i.toNat [.slice q ql qc] (fun j u hj => by cases j with | zero => simp at hj; subst hj; simpa using hv | succ j => simp at hj) (by simp)
  have hlen := hr.len
  have hat' : AtI w p 22 (i.toNat * 1) [.slice q ql qc] := by rw [Nat.mul_one]; exact hat
  refine ixa_at hat' h0 (by omega) fun a ha => hF a q ql qc ha.get0 ?_
  rw [List.getD_eq_getElem?_getD, List.getElem?_eq_getElem (show i.toNat < A.length by omega)]; exact hrow

theorem MatR.wr {i : Int} {q : Option Addr} {ql qc : Nat} {bs : List By} {F : World → Prop} (h : MatR w base p l c A) (h0 : 0 ≤ i) (h1 : i < A.length) (hb : RowB w base q ql qc bs)
    (hF : ∀ w', MatR w' base p l c (A.set i.toNat bs) → Chg (rowS (.slice p l c)) w w' → F w') : ixa p l i 1 fun a => st1 a (.slice q ql qc) w F := by
  have h5 := h.off5
  have hl := h.len
  obtain ⟨vs, hr, hvl, hbs⟩ := h
  refine Row.wr hr h0 (by omega) rfl fun w' hr' hc => hF w' ⟨_, hr', by simp [hvl], fun j ds hj => ?_⟩ hc
  rw [List.getElem?_set] at hj
  by_cases e : i.toNat = j
  · subst e
    rw [if_pos rfl, if_pos (by omega)] at hj
    cases hj
    exact ⟨q, ql, qc, by rw [List.getElem?_set, if_pos rfl, if_pos (by omega)], Row.chg hb hc h5⟩
  · rw [if_neg e] at hj
    obtain ⟨r, rl, rc, e1, e2⟩ := hbs j ds hj
    exact ⟨r, rl, rc, by rw [List.getElem?_set, if_neg e]; exact e1, Row.chg e2 hc h5⟩

theorem und76 : Try.prog.underlying 76 = some (.slice 22) := by kernel_rfl
theorem inf22 : (Try.prog.info? 22).map (fun i => (i.zero, i.size, i.bytes)) = some (some (.slice none 0 0), 1, 24) := by kernel_rfl

theorem MatR.app {m : Nat} {q : Option Addr} {ql qc : Nat} {bs : List By} {F : Value → World → Prop} (h : MatR w base p l c A) (hm : At w m #[.slice q ql qc] 22) (hb : RowB w base q ql qc bs) (hl : l ≤ 1000000) (hbase : base ≤ w.heap.size)
    (hF : ∀ p' c' w', MatR w' base p' (l + 1) c' (A ++ [bs]) → Chg (rowS (.slice p l c)) w w' → (∀ x, rowS (.slice p' (l + 1) c') x → rowS (.slice p l c) x ∨ w.heap.size ≤ x) → F (.slice p' (l + 1) c') w') :
    rnV Try.prog (Builtin.append_ #[76, 76] 76 #[.slice p l c, .slice (some ⟨m, 0, none⟩) 1 1]) w F := by
  have h5 := h.off5
  obtain ⟨vs, hr, hvl, hbs⟩ := h
  refine append_new (news := [.slice q ql qc]) (z := .slice none 0 0) (bytes := 24) (m := 1) und76 inf22 rfl (by decide) hr rfl (hm.cellsAt _ 0 fun i hi => by simp at hi; subst hi; rfl) (by simp [Value.oneCell']) (by omega) (by omega) hbase
    fun p' c' w' hr' hc hx => hF p' c' w' ⟨_, hr', by simp [hvl], fun j ds hj => ?_⟩ hc hx
  rw [List.getElem?_append] at hj ⊢
  by_cases e : j < A.length
  · rw [if_pos e] at hj
    rw [if_pos (by omega)]
    obtain ⟨r, rl, rc, e1, e2⟩ := hbs j ds hj
    exact ⟨r, rl, rc, e1, Row.chg e2 hc h5⟩
  · rw [if_neg e] at hj
    rw [if_neg (by omega), hvl]
    have : j - A.length = 0 := by
      have := (List.getElem?_eq_some_iff.1 hj).1
      simp at this; omega
    rw [this] at hj ⊢
    simp at hj
    subst hj
    exact ⟨q, ql, qc, rfl, Row.chg hb hc h5⟩
end

/-! ### the plain law -/

def rv (A : List (List By)) : Nat → V := fun i => vec (A.getD i [])

theorem rv_set {A : List (List By)} {i : Nat} {bs : List By} (h : i < A.length) : rv (A.set i bs) = up (rv A) i (vec bs) := by
  funext j
  unfold rv up
  rw [List.getD_eq_getElem?_getD, List.getElem?_set]
  by_cases e : i = j
  · subst e; rw [if_pos rfl, if_pos h, if_pos rfl]; rfl
  · rw [if_neg e, if_neg (fun h => e h.symm), ← List.getD_eq_getElem?_getD]

/-- What holds ahead of each column. -/
structure PI (m : Nat) (A0 R : Nat → V) (n c : Nat) (q : Nat → Nat) : Prop where
  ind : Ind R (List.range m) ↔ Ind A0 (List.range m)
  nm : n ≤ m
  piv : ∀ i, i < m → ∀ j, j < n → R i (q j) = if i = j then 1#8 else 0#8
  zero : ∀ i, n ≤ i → i < m → ∀ d, d < c → R i d = 0#8

section
variable {m : Nat} {A0 R : Nat → V} {n c : Nat} {q : Nat → Nat}

theorem PI.none (h : PI m A0 R n c q) (hz : ∀ i, n ≤ i → i < m → R i c = 0#8) : PI m A0 R n (c + 1) q :=
  ⟨h.ind, h.nm, h.piv, fun i h1 h2 d hd => by
    by_cases e : d = c
    · subst e; exact hz i h1 h2
    · exact h.zero i h1 h2 d (by omega)⟩

theorem sw_at {f : Nat → V} {i j : Nat} (x : Nat) : sw f i j x = if x = j then f i else if x = i then f j else f x := by
  unfold sw up
  rfl

theorem PI.swap (h : PI m A0 R n c q) {t : Nat} (h1 : n ≤ t) (h2 : t < m) : PI m A0 (sw R n t) n c q := by
  refine ⟨(Ind.sw (range_nodup m) (List.mem_range.2 (by omega)) (List.mem_range.2 h2)).trans h.ind, h.nm, fun i hi j hj => ?_, fun i hi hi' d hd => ?_⟩
  · rw [sw_at]
    by_cases e1 : i = t
    · rw [if_pos e1, h.piv n (by omega) j hj, if_neg (by omega), if_neg (by omega)]
    · rw [if_neg e1]
      by_cases e2 : i = n
      · rw [if_pos e2, h.piv t h2 j hj, if_neg (by omega), if_neg (by omega)]
      · rw [if_neg e2]; exact h.piv i hi j hj
  · rw [sw_at]
    by_cases e1 : i = t
    · rw [if_pos e1]; exact h.zero n (by omega) (by omega) d hd
    · rw [if_neg e1]
      by_cases e2 : i = n
      · rw [if_pos e2]; exact h.zero t h1 h2 d hd
      · rw [if_neg e2]; exact h.zero i hi hi' d hd

theorem PI.elim (h : PI m A0 R n c q) {i : Nat} (hn : n < m) (hi : i < m) (hne : i ≠ n) (a : By) : PI m A0 (up R i (va (R i) (vm a (R n)))) n c q := by
  refine ⟨(Ind.add_iff (range_nodup m) (List.mem_range.2 hi) (List.mem_range.2 hn) hne a).trans h.ind, h.nm, fun x hx j hj => ?_, fun x hx hx' d hd => ?_⟩
  · by_cases e : x = i
    · subst e
      rw [up_same]
      show R x (q j) ^^^ mul a (R n (q j)) = _
      rw [h.piv n hn j hj, if_neg (by omega), mul_zero, BitVec.xor_zero]; exact h.piv x hx j hj
    · rw [up_ne _ _ e]; exact h.piv x hx j hj
  · by_cases e : x = i
    · subst e
      rw [up_same]
      show R x d ^^^ mul a (R n d) = _
      rw [h.zero n (Nat.le_refl _) hn d hd, mul_zero, BitVec.xor_zero]; exact h.zero x hx hx' d hd
    · rw [up_ne _ _ e]; exact h.zero x hx hx' d hd

theorem PI.scale (h : PI m A0 R n c q) {a : By} (hn : n < m) (ha : a ≠ 0#8) (h1 : mul a (R n c) = 1#8) (hz : ∀ i, i < m → i ≠ n → R i c = 0#8) : PI m A0 (up R n (vm a (R n))) (n + 1) (c + 1) (up q n c) := by
  refine ⟨(Ind.mul_iff (range_nodup m) (List.mem_range.2 hn) ha).trans h.ind, hn, fun x hx j hj => ?_, fun x hx hx' d hd => ?_⟩
  · by_cases e : j = n
    · subst e
      rw [up_same]
      by_cases e2 : x = j
      · subst e2; rw [up_same, if_pos rfl]; exact h1
      · rw [up_ne _ _ e2, if_neg e2]; exact hz x hx e2
    · rw [up_ne _ _ e]
      by_cases e2 : x = n
      · subst e2
        rw [up_same, if_neg (by omega)]
        show mul a (R x (q j)) = _
        rw [h.piv x hx j (by omega), if_neg (by omega), mul_zero]
      · rw [up_ne _ _ e2]; exact h.piv x hx j (by omega)
  · rw [up_ne _ _ (show x ≠ n by omega)]
    by_cases e : d = c
    · subst e; exact hz x hx' (by omega)
    · exact h.zero x (by omega) hx' d (by omega)

theorem PI.fin {k : Nat} (h : PI m A0 R n k q) (ho : ∀ i, i < m → ∀ t, k ≤ t → R i t = 0#8) : n = m ↔ Ind A0 (List.range m) := by
  rw [← h.ind]
  constructor
  · intro e
    subst e
    exact Ind.piv q fun i j hi hj => h.piv i hi j hj
  · intro hi
    by_cases e : n = m
    · exact e
    · exfalso
      have hn : n < m := by have := h.nm; omega
      refine Ind.no_zero hn ?_ hi
      funext t
      by_cases ht : t < k
      · exact h.zero n (Nat.le_refl _) hn t ht
      · exact ho n hn t (by omega)
end
end Go.SR

/- Contract: girandoleref1.reduced. -/
namespace Go.SR
open Go Go.Proofs

/-- Bytes that are appended to an empty slice without room: a new block. -/
theorem append_zero {w w0 : World} {m : Nat} {q : Option Addr} {ml c' : Nat} {news : List By} {F : Value → World → Prop} (_ : At w m #[] 5) (hn : Byr w q ml news) (hne : 0 < news.length) (hb : news.length ≤ 1000000) (h0 : w0.heap.size ≤ w.heap.size)
    (hF : ∀ p' c'' w', RowB w' w0.heap.size p' ml c'' news → Ext w w' → F (.slice p' ml c'') w') :
    rnV Try.prog (Builtin.append_ #[22, 22] 22 #[.slice (some ⟨m, 0, none⟩) 0 0, .slice q ml c']) w F := by
  have hml := hn.len
  obtain ⟨b0, hb0⟩ : ∃ b, news[0]? = some b := ⟨_, List.getElem?_eq_getElem hne⟩
  obtain ⟨a, rfl, _⟩ := hn.2 0 b0 hb0
  obtain ⟨i, hii, hz, hs, hbt⟩ := info_parts inf5
  have hr := run_append_grow (P := Try.prog) w 22 22 5 i (.int .u8 0) und22 hii hz ⟨m, 0, none⟩ 0 0 [] (by simp) (fun j v hj => by simp at hj) a ml c' (news.map bv) (by rw [hs]; simp [hml])
    (fun j u hj => hn.cells.get j hj) (by omega) (by omega) (growslice_fits (by omega) (by rw [hbt]; omega))
  refine ⟨_, _, hr, ?_⟩
  have hge := grownCap_ge w (0 + ml) 0 5
  have hle := grownCap_le_maxLen w (0 + ml) 0 5 (by simp only [maxLen]; omega)
  rw [Nat.zero_add] at *
  refine hF _ _ _ ⟨by simp [hml], .inr ⟨w.heap.size, _, _, rfl, h0, heap_alloc_new w.drew _, hge, hle, ?_, ?_⟩⟩ ⟨by simp, fun b o hb _ => ?_, rfl, rfl, rfl⟩
  · simp only [Array.size_append, List.size_toArray, size_zeroCells, List.length_nil, List.length_map, Value.cells]
    simp
    omega
  · simp only [Array.toList_append, List.append_assoc]
    rw [Nat.mul_one, List.nil_append, hml]
    have : (news.map bv).length = news.length := by simp
    rw [← this]
    exact List.take_left
  · rw [heap_alloc_old w.drew _ (lt_of_heap hb)]; exact hb

/-- Two matrices of one's own. -/
structure Two (w0 w : World) (ap : Option Addr) (al ac : Nat) (A : List (List By)) (bp : Option Addr) (bl bc : Nat) (B : List (List By)) : Prop where
  a : MatR w w0.heap.size ap al ac A
  b : MatR w w0.heap.size bp bl bc B
  dis : ∀ x, rowS (.slice ap al ac) x → ¬ rowS (.slice bp bl bc) x
  ext : Ext w0 w

section
variable {w0 w w' : World} {ap : Option Addr} {al ac : Nat} {A : List (List By)} {bp : Option Addr} {bl bc : Nat} {B : List (List By)}

theorem Two.more (h : Two w0 w ap al ac A bp bl bc B) (he : Ext w w') : Two w0 w' ap al ac A bp bl bc B := ⟨h.a.ext he, h.b.ext he, h.dis, h.ext.trans he⟩

theorem Two.appA {m : Nat} {q : Option Addr} {ql qc : Nat} {bs : List By} {F : Value → World → Prop} (h : Two w0 w ap al ac A bp bl bc B) (hm : At w m #[.slice q ql qc] 22) (hb : RowB w w0.heap.size q ql qc bs) (hl : al ≤ 1000000)
    (hF : ∀ p' c' w', Two w0 w' p' (al + 1) c' (A ++ [bs]) bp bl bc B → (∀ {x cs}, At w x cs 5 → At w' x cs 5) → F (.slice p' (al + 1) c') w') :
    rnV Try.prog (Builtin.append_ #[76, 76] 76 #[.slice ap al ac, .slice (some ⟨m, 0, none⟩) 1 1]) w F := by
  refine h.a.app hm hb hl h.ext.size fun p' c' w' ha hc hx => hF p' c' w' ⟨ha, h.b.chg hc (fun x hx hx' => h.dis x hx' hx) h.a.off5, fun x h1 h2 => ?_, Ext.then h.ext hc fun x hx => h.a.bse x hx⟩ (fun hA => hA.chg hc fun hx => h.a.off5 _ _ _ hA hx)
  rcases hx x h1 with h3 | h3
  · exact h.dis x h3 h2
  · have := h.b.here h2; omega

theorem Two.appB {m : Nat} {q : Option Addr} {ql qc : Nat} {bs : List By} {F : Value → World → Prop} (h : Two w0 w ap al ac A bp bl bc B) (hm : At w m #[.slice q ql qc] 22) (hb : RowB w w0.heap.size q ql qc bs) (hl : bl ≤ 1000000)
    (hF : ∀ p' c' w', Two w0 w' ap al ac A p' (bl + 1) c' (B ++ [bs]) → F (.slice p' (bl + 1) c') w') :
    rnV Try.prog (Builtin.append_ #[76, 76] 76 #[.slice bp bl bc, .slice (some ⟨m, 0, none⟩) 1 1]) w F := by
  refine h.b.app hm hb hl h.ext.size fun p' c' w' hb' hc hx => hF p' c' w' ⟨h.a.chg hc (fun x hx hx' => h.dis x hx hx') h.b.off5, hb', fun x h1 h2 => ?_, Ext.then h.ext hc fun x hx => h.b.bse x hx⟩
  rcases hx x h2 with h3 | h3
  · exact h.dis x h1 h3
  · have := h.a.here h1; omega

theorem Two.wrA {i : Int} {q : Option Addr} {ql qc : Nat} {bs : List By} {F : World → Prop} (h : Two w0 w ap al ac A bp bl bc B) (h0 : 0 ≤ i) (h1 : i < A.length) (hb : RowB w w0.heap.size q ql qc bs)
    (hF : ∀ w', Two w0 w' ap al ac (A.set i.toNat bs) bp bl bc B → (∀ {q ql qc bs}, RowB w w0.heap.size q ql qc bs → RowB w' w0.heap.size q ql qc bs) → F w') : ixa ap al i 1 fun a => st1 a (.slice q ql qc) w F :=
  h.a.wr h0 h1 hb fun w' ha hc => hF w' ⟨ha, h.b.chg hc (fun x hx hx' => h.dis x hx' hx) h.a.off5, h.dis, Ext.then h.ext hc fun x hx => h.a.bse x hx⟩ fun hr => Row.chg hr hc h.a.off5

theorem Two.wrB {i : Int} {q : Option Addr} {ql qc : Nat} {bs : List By} {F : World → Prop} (h : Two w0 w ap al ac A bp bl bc B) (h0 : 0 ≤ i) (h1 : i < B.length) (hb : RowB w w0.heap.size q ql qc bs)
    (hF : ∀ w', Two w0 w' ap al ac A bp bl bc (B.set i.toNat bs) → (∀ {q ql qc bs}, RowB w w0.heap.size q ql qc bs → RowB w' w0.heap.size q ql qc bs) → F w') : ixa bp bl i 1 fun a => st1 a (.slice q ql qc) w F :=
  h.b.wr h0 h1 hb fun w' hb' hc => hF w' ⟨h.a.chg hc (fun x hx hx' => h.dis x hx hx') h.b.off5, hb', h.dis, Ext.then h.ext hc fun x hx => h.b.bse x hx⟩ fun hr => Row.chg hr hc h.b.off5
end

/-- All rows are of a length. -/
def AllL (m k : Nat) (A : List (List By)) : Prop := A.length = m ∧ ∀ i, i < m → (A.getD i []).length = k

theorem AllL.set {m k : Nat} {A : List (List By)} {i : Nat} {bs : List By} (h : AllL m k A) (hb : bs.length = k) : AllL m k (A.set i bs) := by
  refine ⟨by simp [h.1], fun j hj => ?_⟩
  rw [List.getD_eq_getElem?_getD, List.getElem?_set]
  by_cases e : i = j
  · subst e; rw [if_pos rfl, if_pos (by rw [h.1]; exact hj)]; exact hb
  · rw [if_neg e, ← List.getD_eq_getElem?_getD]; exact h.2 j hj

theorem AllL.out {m k : Nat} {A : List (List By)} (h : AllL m k A) : ∀ i, i < m → ∀ t, k ≤ t → rv A i t = 0#8 := fun i hi t ht => vec_ge (by rw [h.2 i hi]; exact ht)

variable {w : World}

theorem refReduced_c {k d : Nat} {p q : Option Addr} {pl pc ql qc : Nat} {rows data : List (List By)} (hr : Lls w p pl rows) (hd : Lls w q ql data) (hk : 1 ≤ k ∧ k ≤ 1000) (hd1 : 1 ≤ d ∧ d ≤ 1000) (hm : rows.length ≤ 100)
    (hrl : ∀ i, i < rows.length → (rows.getD i []).length = k) (hdl : AllL rows.length d data) :
    Cs Try.prog 67 #[.int .i64 k, .slice p pl pc, .slice q ql qc] w (Ret fun v w' => ∃ (ap : Option Addr) (al ac : Nat) (bp : Option Addr) (bl bc n : Nat), v = .tuple #[.slice ap al ac, .slice bp bl bc, .int .i64 n] ∧ n ≤ rows.length ∧ (n = rows.length ↔ Ind (rv rows) (List.range rows.length)) ∧ Ext w w') := by
  apply gref1_reduced_ok
  unfold gref1_reduced
  have hpl := hr.1
  have hql := hd.1
  have hdl1 := hdl.1
  refine lp_step (fun n st w' => ∃ i : Nat, st.2.2 = i ∧ i ≤ rows.length ∧ Two w w' st.1.1 st.1.2.1 st.1.2.2 (rows.take i) st.2.1.1 st.2.1.2.1 st.2.1.2.2 (data.take i) ∧ n = rows.length - i)
    _ ⟨0, rfl, by omega, ⟨MatR.nil, MatR.nil, fun x hx => by simp [rowS, Value.ownBlock] at hx, Ext.refl _⟩, rfl⟩ ?_
  rintro n _ ⟨⟨ap, al, ac⟩, ⟨bp, bl, bc⟩, _⟩ w2 ⟨i, rfl, hi, hT, hn⟩ K hK
  have hT : Two w w2 ap al ac (rows.take i) bp bl bc (data.take i) := hT
  have hal := hT.a.len
  have hbl := hT.b.len
  rw [List.length_take] at hal hbl
  dsimp only
  refine br_if (fun hlt => ?_) (fun hge => ?_)
  · -- the rows are copied
    have hi' : i < rows.length := by omega
    refine dr_step fun w3 _ he3 => ?_
    have hT3 := hT.more he3
    have he03 := hT3.ext
    refine hr.ix (by omega) (by omega) fun a4 p5 m6 m7 h4 _ hb4 => ⟨_, _, _, Ext.cell he03 h4, ?_⟩
    refine hd.ix (by omega) (by omega) fun a8 p9 m10 m11 h8 _ hb8 => ⟨_, _, _, Ext.cell he03 h8, ?_⟩
    rw [Int.toNat_natCast] at hb4 hb8
    have l4 := hrl i hi'
    have l8 := hdl.2 i hi'
    have t4 : rows.take i ++ [rows.getD i []] = rows.take (i + 1) := by
      rw [List.take_add_one, List.getD_eq_getElem?_getD, List.getElem?_eq_getElem hi']; rfl
    have t8 : data.take i ++ [data.getD i []] = data.take (i + 1) := by
      rw [List.take_add_one, List.getD_eq_getElem?_getD, List.getElem?_eq_getElem (by omega)]; rfl
    have facts2 : ∀ {w'}, Ext w w' → hold [.cell a8 (.slice p9 m10 m11), .cell a4 (.slice p5 m6 m7)] w' := fun he => hold_cons (Ext.cell he h8) (hold_one (Ext.cell he h4))
    have facts1 : ∀ {w'}, Ext w w' → hold [.cell a8 (.slice p9 m10 m11)] w' := fun he => hold_one (Ext.cell he h8)
    have finish : ∀ (p23 : Option Addr) (m24 m25 mE : Nat) (wX : World), Two w wX p23 m24 m25 (rows.take (i + 1)) bp bl bc (data.take i) → At wX mE #[] 5 →
        rnV Try.prog (Builtin.append_ #[22, 22] 22 #[.slice (some ⟨mE, 0, none⟩) 0 0, .slice p9 m10 m11]) wX (fun v28 w29 => ∃ (p30 : Option Addr) (m31 m32 : Nat), v28 = .slice p30 m31 m32 ∧ SR.al #[.slice p30 m31 m32] 22 w29 (fun m33 w34 =>
          rnV Try.prog (Builtin.append_ #[76, 76] 76 #[.slice bp bl bc, .slice (some ⟨m33, 0, none⟩) 1 1]) w34 (fun v35 w36 => ∃ (p37 : Option Addr) (m38 m39 : Nat), v35 = .slice p37 m38 m39 ∧ K ((p23, (m24, m25)), ((p37, (m38, m39)), IntKind.wrap .i64 ((i : Int) + 1))) w36))) := by
      intro p23 m24 m25 mE wX hTX hE
      refine append_zero (w0 := w) hE (hb8.ext hTX.ext) (by omega) (by omega) hTX.ext.size fun p30 m32 w29 hr29 he29 => ⟨_, _, _, rfl, ?_⟩
      refine al_step fun m33 w34 a34 he34 _ => ?_
      refine ((hTX.more he29).more he34).appB a34 (Row.ext hr29 he34) (by omega) fun p37 m39 w36 hT36 => ⟨_, _, _, rfl, ?_⟩
      rw [w64 (by omega) (by omega)]
      rw [t8] at hT36
      exact hK (rows.length - (i + 1)) _ _ (by omega) ⟨i + 1, by simp, by omega, hT36, rfl⟩
    have appA : ∀ (p16 : Option Addr) (m17 m18 m19 : Nat) (wX : World) (G : Value → World → Prop), Two w wX ap al ac (rows.take i) bp bl bc (data.take i) → At wX m19 #[.slice p16 m17 m18] 22 → RowB wX w.heap.size p16 m17 m18 (rows.getD i []) →
        (∀ p' c' w', Two w w' p' (al + 1) c' (rows.take (i + 1)) bp bl bc (data.take i) → (∀ {x cs}, At wX x cs 5 → At w' x cs 5) → G (.slice p' (al + 1) c') w') →
        rnV Try.prog (Builtin.append_ #[76, 76] 76 #[.slice ap al ac, .slice (some ⟨m19, 0, none⟩) 1 1]) wX G := fun p16 m17 m18 m19 wX G hTX hA hR hG =>
      hTX.appA hA hR (by omega) fun p' c' w' h1 h2 => hG p' c' w' (by rw [t4] at h1; exact h1) h2
    refine ⟨al_step fun m12 w13 a13 he13 _ => ⟨facts2 (he03.trans he13), ?_, ?_⟩, al_step fun m106 w107 a107 he107 _ => ⟨facts2 (he03.trans he107), ?_⟩⟩
    · have hT13 := hT3.more he13
      refine append_zero (w0 := w) a13 (hb4.ext hT13.ext) (by omega) (by omega) hT13.ext.size fun p16 m18 w15 hr15 he15 => ⟨_, _, _, rfl, facts1 (hT13.ext.trans he15), ?_, ?_⟩
      · have hT15 := hT13.more he15
        refine al_step fun m19 w20 a20 he20 _ => ⟨facts1 (hT15.ext.trans he20), ?_, ?_⟩
        · have hT20 := hT15.more he20
          refine appA _ _ _ _ _ _ hT20 a20 (Row.ext hr15 he20) fun p23 m25 w22 hT22 _ => ⟨_, _, _, rfl, facts1 hT22.ext, ?_⟩
          refine al_step fun m26 w27 a27 he27 _ => ⟨facts1 (hT22.ext.trans he27), ?_⟩
          exact finish _ _ _ _ _ (hT22.more he27) a27
        · refine al_step fun m40 w41 a41 he41 _ => ⟨facts1 ((hT15.ext.trans he20).trans he41), ?_⟩
          have hT41 := (hT15.more he20).more he41
          refine appA _ _ _ _ _ _ hT41 (At.ext a20 he41) (Row.ext (Row.ext hr15 he20) he41) fun p44 m46 w43 hT43 h5 => ⟨_, _, _, rfl, facts1 hT43.ext, ?_⟩
          exact finish _ _ _ _ _ hT43 (h5 a41)
      · have hT15 := hT13.more he15
        refine al_step fun m59 w60 a60 he60 _ => ⟨facts1 (hT15.ext.trans he60), ?_⟩
        have hT60 := hT15.more he60
        refine al_step fun m61 w62 a62 he62 _ => ⟨facts1 (hT60.ext.trans he62), ?_⟩
        have hT62 := hT60.more he62
        refine appA _ _ _ _ _ _ hT62 a62 (Row.ext (Row.ext hr15 he60) he62) fun p65 m67 w64 hT64 h5 => ⟨_, _, _, rfl, facts1 hT64.ext, ?_⟩
        exact finish _ _ _ _ _ hT64 (h5 (At.ext a60 he62))
    · have hT13 := hT3.more he13
      refine al_step fun m80 w81 a81 he81 _ => ⟨facts2 (hT13.ext.trans he81), ?_⟩
      have hT81 := hT13.more he81
      refine append_zero (w0 := w) (At.ext a13 he81) (hb4.ext hT81.ext) (by omega) (by omega) hT81.ext.size fun p84 m86 w83 hr83 he83 => ⟨_, _, _, rfl, facts1 (hT81.ext.trans he83), ?_⟩
      have hT83 := hT81.more he83
      refine al_step fun m87 w88 a88 he88 _ => ⟨facts1 (hT83.ext.trans he88), ?_⟩
      have hT88 := hT83.more he88
      refine appA _ _ _ _ _ _ hT88 a88 (Row.ext hr83 he88) fun p91 m93 w90 hT90 h5 => ⟨_, _, _, rfl, facts1 hT90.ext, ?_⟩
      exact finish _ _ _ _ _ hT90 (h5 (At.ext (At.ext a81 he83) he88))
    · have hT107 := hT3.more he107
      refine al_step fun m108 w109 a109 he109 _ => ⟨facts2 (hT107.ext.trans he109), ?_⟩
      have hT109 := hT107.more he109
      refine append_zero (w0 := w) a109 (hb4.ext hT109.ext) (by omega) (by omega) hT109.ext.size fun p112 m114 w111 hr111 he111 => ⟨_, _, _, rfl, facts1 (hT109.ext.trans he111), ?_⟩
      have hT111 := hT109.more he111
      refine al_step fun m115 w116 a116 he116 _ => ⟨facts1 (hT111.ext.trans he116), ?_⟩
      have hT116 := hT111.more he116
      refine appA _ _ _ _ _ _ hT116 a116 (Row.ext hr111 he116) fun p119 m121 w118 hT118 h5 => ⟨_, _, _, rfl, facts1 hT118.ext, ?_⟩
      exact finish _ _ _ _ _ hT118 (h5 (At.ext (At.ext (At.ext a107 he109) he111) he116))
  · -- the columns
    have : i = rows.length := by omega
    subst this
    clear hK hn
    have hT2 : Two w w2 ap al ac rows bp bl bc data := by
      have e1 : rows.take rows.length = rows := List.take_length
      have e2 : data.take rows.length = data := List.take_of_length_le (by omega)
      rw [e1, e2] at hT
      exact hT
    generalize hM : rows.length = m at *
    have hal : al = m := by omega
    have hbl : bl = m := by omega
    have hA0 : AllL m k rows := ⟨hM, hrl⟩
    refine lp_step (fun N st w' => ∃ (n c : Nat) (A B : List (List By)) (q : Nat → Nat), st.1 = n ∧ st.2 = c ∧ c ≤ k ∧ Two w w' ap al ac A bp bl bc B ∧ AllL m k A ∧ AllL m d B ∧ PI m (rv rows) (rv A) n c q ∧ N = k - c)
      _ ⟨0, 0, rows, data, id, rfl, rfl, by omega, hT2, hA0, hdl, ⟨Iff.rfl, by omega, fun i _ j hj => by omega, fun i _ _ d hd => by omega⟩, rfl⟩ ?_
    rintro N _ ⟨_, _⟩ w136 ⟨n, c, A, B, q, rfl, rfl, hck, hT, hA, hB, hPI, hN⟩ K hK
    dsimp only
    have hnm := hPI.nm
    have hAl := hA.1
    have hBl := hB.1
    refine br_if (fun hlt => ?_) (fun hge => ?_)
    · have hck' : c < k := by omega
      refine jn_step (fun f w' => w' = w136 ∧ ((f = -1 ∧ ∀ i, n ≤ i → i < m → rv A i c = 0#8) ∨ ∃ t : Nat, f = t ∧ n ≤ t ∧ t < m ∧ rv A t c ≠ 0#8)) ?_ ?_
      · rintro _ f w138 ⟨hw138, hf⟩
        subst hw138
        rcases hf with ⟨rfl, hz⟩ | ⟨t, rfl, ht0, ht1, htz⟩
        · refine br_t ?_
          rw [w64 (by omega) (by omega)]
          exact hK (k - (c + 1)) _ _ (by omega) ⟨n, c + 1, A, B, q, rfl, by simp, by omega, hT, hA, hB, hPI.none hz, rfl⟩
        · refine br_if (fun h => by exfalso; omega) (fun _ => ?_)
          refine dr_step fun w139 _ he139 => ?_
          have hT139 := hT.more he139
          refine hT139.a.ix (by omega) (by omega) fun a140 p141 m142 m143 h140 hb140 => ⟨_, _, _, h140, ?_⟩
          refine hT139.a.ix (by omega) (by omega) fun a144 p145 m146 m147 h144 hb144 => ⟨_, _, _, h144, ?_⟩
          rw [Int.toNat_natCast] at hb140 hb144
          refine hT139.wrA (by omega) (by omega) hb140 fun w149 hT149 rw149 => ?_
          rw [Int.toNat_natCast] at hT149
          refine hT149.wrA (by omega) (by rw [List.length_set]; omega) (rw149 hb144) fun w151 hT151 _ => ?_
          rw [Int.toNat_natCast] at hT151
          refine dr_step fun w152 _ he152 => ?_
          have hT152 := hT151.more he152
          refine hT152.b.ix (by omega) (by omega) fun a153 p154 m155 m156 h153 hb153 => ⟨_, _, _, h153, ?_⟩
          refine hT152.b.ix (by omega) (by omega) fun a157 p158 m159 m160 h157 hb157 => ⟨_, _, _, h157, ?_⟩
          rw [Int.toNat_natCast] at hb153 hb157
          refine hT152.wrB (by omega) (by omega) hb153 fun w162 hT162 rw162 => ?_
          rw [Int.toNat_natCast] at hT162
          refine hT162.wrB (by omega) (by rw [List.length_set]; omega) (rw162 hb157) fun w164 hT164 _ => ?_
          rw [Int.toNat_natCast] at hT164
          have hA1 := (hA.set (i := n) (hA.2 t ht1)).set (i := t) (hA.2 n (by omega))
          have hB1 := (hB.set (i := n) (hB.2 t ht1)).set (i := t) (hB.2 n (by omega))
          have hrv : rv ((A.set n (A.getD t [])).set t (A.getD n [])) = sw (rv A) n t := by
            rw [rv_set (by rw [List.length_set]; omega), rv_set (by omega)]; rfl
          have hP1 := hPI.swap ht0 ht1
          rw [← hrv] at hP1
          have hnz : rv ((A.set n (A.getD t [])).set t (A.getD n [])) n c ≠ 0#8 := by
            rw [hrv, sw_at]
            by_cases e : n = t
            · subst e; rw [if_pos rfl]; exact htz
            · rw [if_neg e, if_pos rfl]; exact htz
          generalize (A.set n (A.getD t [])).set t (A.getD n []) = A1 at hT164 hA1 hP1 hnz
          generalize (B.set n (B.getD t [])).set t (B.getD n []) = B1 at hT164 hB1
          clear hT hT139 hT149 hT151 hT152 hT162 hPI hA hB hrv htz hb140 hb144 hb153 hb157 rw149 rw162 hAl hBl
          have hAl := hA1.1
          have hBl := hB1.1
          refine hT164.a.ix (by omega) (by omega) fun a165 p166 m167 m168 h165 hb165 => ⟨_, _, _, h165, ?_⟩
          rw [Int.toNat_natCast] at hb165
          have ln := hA1.2 n (by omega)
          refine (hb165.byr (by omega)).ix (by omega) (by omega) fun a169 h169 => ⟨_, h169, ?_⟩
          rw [Int.toNat_natCast]
          have hnz' : vec (A1.getD n []) c ≠ 0#8 := hnz
          refine cl_ret (refInv_c hnz') ?_
          rintro v w172 ⟨rfl, hw172⟩
          subst hw172
          refine ⟨_, _, rfl, ?_⟩
          generalize hz : inv (vec (A1.getD n []) c) = z
          have hz0 : z ≠ 0#8 := by rw [← hz]; exact inv_ne _
          have hz1 : mul z (rv A1 n c) = 1#8 := by rw [← hz]; exact inv_mul hnz
          refine lp_step (fun N st w' => ∃ (i : Nat) (A B : List (List By)), st = i ∧ i ≤ m ∧ Two w w' ap al ac A bp bl bc B ∧ AllL m k A ∧ AllL m d B ∧ PI m (rv rows) (rv A) n c q ∧ mul z (rv A n c) = 1#8 ∧ (∀ j, j < i → j ≠ n → rv A j c = 0#8) ∧ N = m - i)
            _ ⟨0, A1, B1, rfl, by omega, hT164, hA1, hB1, hP1, hz1, fun j hj => by omega, rfl⟩ ?_
          clear hT164 hA1 hB1 hP1 hz1 hnz hnz' ln hb165 hz hAl hBl
          rintro N' _ _ w177 ⟨i, A, B, rfl, hi, hT, hA, hB, hPI, hz1, hzero, hN'⟩ K' hK'
          have hAl := hA.1
          have hBl := hB.1
          have ln := hA.2 n (by omega)
          have lbn := hB.2 n (by omega)
          refine br_if (fun hil => ?_) (fun hig => ?_)
          · have hi' : i < m := by omega
            have li := hA.2 i hi'
            have lbi := hB.2 i hi'
            have skip : (i ≠ n → rv A i c = 0#8) → K' (IntKind.wrap .i64 ((i : Int) + 1)) w177 := fun h => by
              rw [w64 (by omega) (by omega)]
              refine hK' (m - (i + 1)) _ _ (by omega) ⟨i + 1, A, B, by simp, by omega, hT, hA, hB, hPI, hz1, fun j hj hjn => ?_, rfl⟩
              by_cases e : j = i
              · subst e; exact h hjn
              · exact hzero j (by omega) hjn
            refine jn_step (fun _ w' => w' = w177 ∧ i ≠ n ∧ rv A i c ≠ 0#8) ?_ ?_
            · rintro _ _ w178 ⟨hw178, hin, hic⟩
              subst hw178
              refine hT.a.ix (by omega) (by omega) fun a179 p180 m181 m182 h179 hb179 => ⟨_, _, _, h179, ?_⟩
              rw [Int.toNat_natCast] at hb179
              refine (hb179.byr (by omega)).ix (by omega) (by omega) fun a183 h183 => ⟨_, h183, ?_⟩
              rw [Int.toNat_natCast]
              refine cl_ret (refMul_c (a := vec (A.getD i []) c) (b := z)) ?_
              rintro v w186 ⟨rfl, hw186⟩
              subst hw186
              refine ⟨_, rfl, ?_⟩
              refine dr_step fun w188 _ he188 => ?_
              have hT188 := hT.more he188
              refine hT188.a.ix (by omega) (by omega) fun a189 p190 m191 m192 h189 hb189 => ⟨_, _, _, h189, ?_⟩
              refine hT188.a.ix (by omega) (by omega) fun a193 p194 m195 m196 h193 hb193 => ⟨_, _, _, h193, ?_⟩
              refine hT188.b.ix (by omega) (by omega) fun a197 p198 m199 m200 h197 hb197 => ⟨_, _, _, h197, ?_⟩
              refine hT188.b.ix (by omega) (by omega) fun a201 p202 m203 m204 h201 hb201 => ⟨_, _, _, h201, ?_⟩
              rw [Int.toNat_natCast] at hb189 hb193 hb197 hb201
              refine cl_ret (refAxpy_c (c := mul (vec (A.getD i []) c) z) (hb189.byr (by omega)) (hb193.byr (by omega)) (by omega) (by omega)) ?_
              rintro v w206 ⟨p207, m208, m209, rfl, hr206, he206⟩
              refine ⟨_, _, _, rfl, hold_cons (Ext.cell he206 h201) (hold_one (Ext.cell he206 h197)), ?_⟩
              have hb197' : RowB w206 w.heap.size p198 m199 m200 _ := Row.ext hb197 he206
              have hb201' : RowB w206 w.heap.size p202 m203 m204 _ := Row.ext hb201 he206
              refine cl_ret (refAxpy_c (c := mul (vec (A.getD i []) c) z) (hb197'.byr (by omega)) (hb201'.byr (by omega)) (by omega) (by omega)) ?_
              rintro v w211 ⟨p212, m213, m214, rfl, hr211, he211⟩
              refine ⟨_, _, _, rfl, ?_⟩
              have hT206 := hT188.more he206
              have hT211 := hT206.more he211
              have hr206' : RowB w211 w.heap.size p207 m208 m209 _ := Row.base_mono (Row.ext hr206 he211) hT188.ext.size
              have hr211' : RowB w211 w.heap.size p212 m213 m214 _ := Row.base_mono hr211 hT206.ext.size
              refine hT211.wrA (by omega) (by omega) hr206' fun w216 hT216 rw216 => ?_
              refine hT216.wrB (by omega) (by omega) (rw216 hr211') fun w218 hT218 _ => ?_
              rw [Int.toNat_natCast] at hT218
              have hv : vec (axl (A.getD i []) (A.getD n []) (mul (vec (A.getD i []) c) z)) = va (rv A i) (vm (mul (rv A i c) z) (rv A n)) := vec_axl (by omega)
              have hrv : rv (A.set i (axl (A.getD i []) (A.getD n []) (mul (vec (A.getD i []) c) z))) = up (rv A) i (va (rv A i) (vm (mul (rv A i c) z) (rv A n))) := by
                rw [rv_set (by omega), hv]
              have hP' := hPI.elim (by omega) hi' hin (mul (rv A i c) z)
              rw [← hrv] at hP'
              rw [w64 (by omega) (by omega)]
              refine hK' (m - (i + 1)) _ _ (by omega) ⟨i + 1, _, _, by simp, by omega, hT218, hA.set (by rw [axl_len (by omega)]; exact li), hB.set (by rw [axl_len (by omega)]; exact lbi), hP', ?_, fun j hj hjn => ?_, rfl⟩
              · rw [hrv, up_ne _ _ (fun e => hin e.symm)]; exact hz1
              · rw [hrv]
                by_cases e : j = i
                · subst e
                  rw [up_same]
                  show rv A j c ^^^ mul (mul (rv A j c) z) (rv A n c) = 0#8
                  rw [mul_assoc, hz1, mul_one, BitVec.xor_self]
                · rw [up_ne _ _ e]; exact hzero j (by omega) hjn
            · refine br_iff.2 ⟨fun he => ?_, fun he => ?_⟩
              · have he : i = n := by
                  have : (i : Int) = n := by simpa using he
                  omega
                exact skip fun h => absurd he h
              · have he : i ≠ n := by
                  have : ¬ (i : Int) = n := by simpa using he
                  omega
                refine hT.a.ix (by omega) (by omega) fun a222 p223 m224 m225 h222 hb222 => ⟨_, _, _, h222, ?_⟩
                rw [Int.toNat_natCast] at hb222
                refine (hb222.byr (by omega)).ix (by omega) (by omega) fun a226 h226 => ⟨_, h226, ?_⟩
                rw [Int.toNat_natCast]
                refine br_iff.2 ⟨fun hz0' => ?_, fun hz0' => ?_⟩
                · exact skip fun _ => by_zero.1 (eq_of_beq hz0')
                · refine ⟨rfl, he, fun h => ?_⟩
                  have h : vec (A.getD i []) c = 0#8 := h
                  rw [h] at hz0'
                  simp at hz0'
          · have him : i = m := by omega
            clear hK'
            refine hT.a.ix (by omega) (by omega) fun a228 p229 m230 m231 h228 hb228 => ⟨_, _, _, h228, ?_⟩
            rw [Int.toNat_natCast] at hb228
            have l230 := hb228.lenB
            refine make_bytes rfl rfl (by omega) fun p234 w233 hr233 he233 => ⟨_, _, _, rfl, ?_⟩
            have hT233 := hT.more he233
            refine hT233.b.ix (by omega) (by omega) fun a237 p238 m239 m240 h237 hb237 => ⟨_, _, _, h237, ?_⟩
            rw [Int.toNat_natCast] at hb237
            have l239 := hb237.lenB
            refine make_bytes rfl rfl (by omega) fun p243 w242 hr242 he242 => ⟨_, _, _, rfl, ?_⟩
            have hT242 := hT233.more he242
            refine dr_step fun w246 _ he246 => ?_
            have hT246 := hT242.more he246
            refine hT246.a.ix (by omega) (by omega) fun a247 p248 m249 m250 h247 hb247 => ⟨_, _, _, h247, ?_⟩
            refine hT246.b.ix (by omega) (by omega) fun a251 p252 m253 m254 h251 hb251 => ⟨_, _, _, h251, ?_⟩
            rw [Int.toNat_natCast] at hb247 hb251
            have hr233' : RowB w246 w177.heap.size p234 m230 m230 _ := Row.ext (Row.ext hr233 he242) he246
            have hr242' : RowB w246 w233.heap.size p243 m239 m239 _ := Row.ext hr242 he246
            refine cl_ret (refAxpy_c (c := z) (hr233'.byr (by simp; omega)) (hb247.byr (by omega)) (by simp; omega) (by omega)) ?_
            rintro v w256 ⟨p257, m258, m259, rfl, hr256, he256⟩
            refine ⟨_, _, _, rfl, hold_one (Ext.cell he256 h251), ?_⟩
            have hT256 := hT246.more he256
            have hb251' : RowB w256 w.heap.size p252 m253 m254 _ := Row.ext hb251 he256
            have hr242'' : RowB w256 w233.heap.size p243 m239 m239 _ := Row.ext hr242' he256
            refine cl_ret (refAxpy_c (c := z) (hr242''.byr (by simp; omega)) (hb251'.byr (by omega)) (by simp; omega) (by omega)) ?_
            rintro v w261 ⟨p262, m263, m264, rfl, hr261, he261⟩
            refine ⟨_, _, _, rfl, ?_⟩
            have hT261 := hT256.more he261
            have hr256' : RowB w261 w.heap.size p257 m258 m259 _ := Row.base_mono (Row.ext hr256 he261) hT246.ext.size
            have hr261' : RowB w261 w.heap.size p262 m263 m264 _ := Row.base_mono hr261 hT256.ext.size
            refine hT261.wrA (by omega) (by omega) hr256' fun w266 hT266 rw266 => ?_
            refine hT266.wrB (by omega) (by omega) (rw266 hr261') fun w268 hT268 _ => ?_
            rw [Int.toNat_natCast] at hT268
            have e1 : (List.replicate m230 0#8).length = (A.getD n []).length := by rw [List.length_replicate]; exact l230
            have e2 : (List.replicate m239 0#8).length = (B.getD n []).length := by rw [List.length_replicate]; exact l239
            have hv : vec (axl (List.replicate m230 0#8) (A.getD n []) z) = vm z (rv A n) := by
              rw [vec_axl e1, vec_zeros, va_zl]; rfl
            have hrv : rv (A.set n (axl (List.replicate m230 0#8) (A.getD n []) z)) = up (rv A) n (vm z (rv A n)) := by
              rw [rv_set (by omega), hv]
            have hP' := hPI.scale (by omega) hz0 hz1 fun j hj hjn => hzero j (by omega) hjn
            rw [← hrv] at hP'
            rw [w64 (by omega) (by omega), w64 (by omega) (by omega)]
            exact hK (k - (c + 1)) _ _ (by omega) ⟨n + 1, c + 1, _, _, _, by simp, by simp, by omega, hT268, hA.set (by rw [axl_len e1, e1]; exact ln), hB.set (by rw [axl_len e2, e2]; exact lbn), hP', rfl⟩
      · -- the first row that has something there
        refine lp_step (fun N st w' => ∃ i : Nat, st.2 = i ∧ n ≤ i ∧ i ≤ m ∧ w' = w136 ∧ ((st.1 = -1 ∧ ∀ j, n ≤ j → j < i → rv A j c = 0#8) ∨ ∃ t : Nat, st.1 = t ∧ n ≤ t ∧ t < m ∧ rv A t c ≠ 0#8) ∧ N = m - i)
          _ ⟨n, rfl, by omega, by omega, rfl, .inl ⟨rfl, fun j h1 h2 => by omega⟩, rfl⟩ ?_
        rintro N' _ ⟨f, _⟩ w274 ⟨i, rfl, hi0, hi1, hw274, hf, hN'⟩ K' hK'
        subst hw274
        dsimp only at *
        refine br_if (fun hil => ?_) (fun hig => ⟨rfl, ?_⟩)
        · have hi' : i < m := by omega
          refine br_if (fun hf0 => ?_) (fun hf0 => ⟨rfl, ?_⟩)
          · have hz : ∀ j, n ≤ j → j < i → rv A j c = 0#8 := by
              rcases hf with ⟨_, hz⟩ | ⟨t, ht, _⟩
              · exact hz
              · exfalso; omega
            have hf1 : f = -1 := by
              rcases hf with ⟨hf, _⟩ | ⟨t, ht, _⟩
              · exact hf
              · exfalso; omega
            refine hT.a.ix (by omega) (by omega) fun a275 p276 m277 m278 h275 hb275 => ⟨_, _, _, h275, ?_⟩
            rw [Int.toNat_natCast] at hb275
            have li := hA.2 i hi'
            refine (hb275.byr (by omega)).ix (by omega) (by omega) fun a279 h279 => ⟨_, h279, ?_⟩
            rw [Int.toNat_natCast]
            rw [w64 (by omega) (by omega)]
            refine br_iff.2 ⟨fun hne => ?_, fun he => ?_⟩
            · refine hK' (m - (i + 1)) _ _ (by omega) ⟨i + 1, by simp, by omega, by omega, rfl, .inr ⟨i, rfl, hi0, hi', fun h => ?_⟩, rfl⟩
              have h : vec (A.getD i []) c = 0#8 := h
              rw [h] at hne
              simp at hne
            · refine hK' (m - (i + 1)) _ _ (by omega) ⟨i + 1, by simp, by omega, by omega, rfl, .inl ⟨hf1, fun j hj1 hj2 => ?_⟩, rfl⟩
              by_cases e : j = i
              · subst e
                refine by_zero.1 ?_
                have : ¬ (((vec (A.getD j []) c).toNat : Int) != 0) = true := by rw [he]; decide
                simpa [rv] using this
              · exact hz j hj1 (by omega)
          · rcases hf with ⟨hf, _⟩ | hf
            · exfalso; omega
            · exact .inr hf
        · rcases hf with ⟨hf, hz⟩ | hf
          · exact .inl ⟨hf, fun j h1 h2 => hz j h1 (by omega)⟩
          · exact .inr hf
    · have : c = k := by omega
      subst this
      exact ⟨ap, al, ac, bp, bl, bc, n, rfl, hnm, hPI.fin hA.out, hT.ext⟩
end Go.SR
