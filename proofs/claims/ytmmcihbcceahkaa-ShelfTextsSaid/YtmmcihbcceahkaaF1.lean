/- Contracts: field.New, Mul, Div, Inv, Axpy. -/
import Derived.Test.YtmmcihbcceahkaaT1
import Derived.Test.YtmmcihbcceahkaaH4
import Derived.Test.YtmmcihbcceahkaaH5
import Derived.Test.YtmmcihbcceahkaaN1
namespace Go.SR
open Go Go.Proofs

/-- The tables lie in block f. -/
def FieldAt (w : World) (f : Nat) : Prop :=
  ∃ cs, At w f cs 125 ∧ (∀ n, n < 510 → cs[n]? = some (bv (pw n))) ∧ ∀ x : By, x ≠ 0#8 → cs[510 + x.toNat]? = some (.int .i64 (lg x))

theorem FieldAt.ext {w w' : World} {f : Nat} (h : FieldAt w f) (he : Ext w w') : FieldAt w' f := by
  obtain ⟨cs, hat, h1, h2⟩ := h
  exact ⟨cs, hat.ext he, h1, h2⟩
theorem FieldAt.chg {S : Nat → Prop} {w w' : World} {f : Nat} (h : FieldAt w f) (hc : Chg S w w') (hf : ¬ S f) : FieldAt w' f := by
  obtain ⟨cs, hat, h1, h2⟩ := h
  exact ⟨cs, hat.chg hc hf, h1, h2⟩
theorem FieldAt.nc {S : Nat → Prop} {w w' : World} {f : Nat} (h : FieldAt w f) (hn : NoCells S w) (hc : Chg S w w') : FieldAt w' f := by
  obtain ⟨cs, hat, h1, h2⟩ := h
  exact ⟨cs, hn.at hc hat, h1, h2⟩
theorem FieldAt.lt {w : World} {f : Nat} (h : FieldAt w f) : f < w.heap.size := by
  obtain ⟨cs, hat, h1, h2⟩ := h; exact hat.lt

theorem FieldAt.exp {w : World} {f n : Nat} (h : FieldAt w f) (hn : n < 510) : w.cell? ⟨f, n, none⟩ = some (bv (pw n)) := by
  obtain ⟨cs, hat, h1, h2⟩ := h
  rw [hat.cell]; exact h1 n hn
theorem FieldAt.log {w : World} {f : Nat} {x : By} (h : FieldAt w f) (hx : x ≠ 0#8) : w.cell? ⟨f, 510 + x.toNat, none⟩ = some (.int .i64 (lg x)) := by
  obtain ⟨cs, hat, h1, h2⟩ := h
  rw [hat.cell]; exact h2 x hx

theorem pw_add255 (n : Nat) : pw (n + 255) = pw n := by
  unfold pw
  rw [xtn_add]
  have : xtn 255 1#8 = 1#8 := pw_255
  rw [this]

theorem xt_step (x : By) : (decide ((Int.fdiv (IntKind.wrap .i64 ((x.toNat : Int) * ((2 : Int) ^ (Min.min (Int.toNat (1 : Int)) 64)))) ((2 : Int) ^ (Min.min (Int.toNat (8 : Int)) 64))) > (0 : Int)) = true ∧
    IntKind.wrap .i64 ((BitVec.toNat ((BitVec.ofInt 64 (IntKind.wrap .i64 ((x.toNat : Int) * ((2 : Int) ^ (Min.min (Int.toNat (1 : Int)) 64))))) ^^^ (BitVec.ofInt 64 (285 : Int)))) : Int) = ((xt x).toNat : Int)) ∨
    (decide ((Int.fdiv (IntKind.wrap .i64 ((x.toNat : Int) * ((2 : Int) ^ (Min.min (Int.toNat (1 : Int)) 64)))) ((2 : Int) ^ (Min.min (Int.toNat (8 : Int)) 64))) > (0 : Int)) = false ∧
    IntKind.wrap .i64 ((x.toNat : Int) * ((2 : Int) ^ (Min.min (Int.toNat (1 : Int)) 64))) = ((xt x).toNat : Int)) := by
  have := all256 (p := fun x => (decide ((Int.fdiv (IntKind.wrap .i64 ((x.toNat : Int) * ((2 : Int) ^ (Min.min (Int.toNat (1 : Int)) 64)))) ((2 : Int) ^ (Min.min (Int.toNat (8 : Int)) 64))) > (0 : Int)) &&
    decide (IntKind.wrap .i64 ((BitVec.toNat ((BitVec.ofInt 64 (IntKind.wrap .i64 ((x.toNat : Int) * ((2 : Int) ^ (Min.min (Int.toNat (1 : Int)) 64))))) ^^^ (BitVec.ofInt 64 (285 : Int)))) : Int) = ((xt x).toNat : Int))) ||
    (!decide ((Int.fdiv (IntKind.wrap .i64 ((x.toNat : Int) * ((2 : Int) ^ (Min.min (Int.toNat (1 : Int)) 64)))) ((2 : Int) ^ (Min.min (Int.toNat (8 : Int)) 64))) > (0 : Int)) &&
    decide (IntKind.wrap .i64 ((x.toNat : Int) * ((2 : Int) ^ (Min.min (Int.toNat (1 : Int)) 64))) = ((xt x).toNat : Int)))) (by decide +kernel) x
  generalize decide ((Int.fdiv (IntKind.wrap .i64 ((x.toNat : Int) * ((2 : Int) ^ (Min.min (Int.toNat (1 : Int)) 64)))) ((2 : Int) ^ (Min.min (Int.toNat (8 : Int)) 64))) > (0 : Int)) = b at this ⊢
  cases b
  · right; simp only [Bool.false_and, Bool.false_or, Bool.not_false, Bool.true_and, decide_eq_true_eq] at this; exact ⟨rfl, this⟩
  · left; simp only [Bool.true_and, Bool.not_true, Bool.false_and, Bool.or_false, decide_eq_true_eq] at this; exact ⟨rfl, this⟩

variable {w : World}

set_option maxRecDepth 20000 in
theorem fieldNew_c : Cs Try.prog field_New_n #[] w (Ret fun v w' => ∃ f, v = .pointer (some ⟨f, 0, none⟩) ∧ FieldAt w' f ∧ Ext w w' ∧ w.heap.size ≤ f) := by
  apply field_New_ok
  unfold field_New
  refine al_step fun f w1 hat he1 hf => ?_
  refine lp_step (fun m st w' => ∃ (n : Nat) (cs : Array Value), st.2 = n ∧ n ≤ 255 ∧ st.1 = ((pw n).toNat : Int) ∧ At w' f cs 125 ∧ cs.size = 766 ∧ (∀ j, j < n → cs[j]? = some (bv (pw j)) ∧ cs[j + 255]? = some (bv (pw j)) ∧ cs[510 + (pw j).toNat]? = some (.int .i64 j)) ∧ Ext w w' ∧ m = 255 - n)
    _ ⟨0, _, rfl, by omega, rfl, hat, by kernel_rfl, fun j hj => by omega, he1, rfl⟩ ?_
  clear hat he1
  rintro m _ ⟨x, i⟩ w2 ⟨n, cs, hi, hn, hx, hat, hsz, hcs, he2, hm⟩ K hK
  simp only [] at hi hx
  subst hi hx
  refine br_if (fun hlt => ?_) (fun hge => ?_)
  · simp only [] at hlt
    refine dr_step fun w3 _ he3 => ?_
    have hat3 := hat.ext he3
    have hpl := (pw n).isLt
    refine ⟨by show (0 : Int) ≤ n; omega, by show (n : Int) < 510; omega, ?_⟩
    have e0 : IntKind.wrap .u8 ((pw n).toNat : Int) = ((pw n).toNat : Int) := by_wrap _
    dsimp only
    rw [e0]
    refine st1_at (i := n) hat3 (by rw [add_mk]; congr 1; omega) (by rw [hsz]; omega) rfl fun w4 hat4 hc4 => ?_
    rw [w64 (n := (n : Int) + 255) (by omega) (by omega)]
    refine ⟨by omega, by show (n : Int) + 255 < 510; omega, ?_⟩
    refine st1_at (i := n + 255) hat4 (by rw [add_mk]; congr 1; omega) (by rw [Array.size_setIfInBounds, hsz]; omega) rfl fun w5 hat5 hc5 => ?_
    refine ⟨by omega, by show ((pw n).toNat : Int) < 256; omega, ?_⟩
    refine st1_at (i := 510 + (pw n).toNat) hat5 (by rw [add_mk, add_mk]; congr 1; omega) (by rw [Array.size_setIfInBounds, Array.size_setIfInBounds, hsz]; omega) rfl fun w6 hat6 hc6 => ?_
    refine ⟨by omega, by omega, ?_⟩
    have he6 : Ext w w6 := ((((he2.trans he3).then hc4 fun b hb => by omega).then hc5 fun b hb => by omega).then hc6 fun b hb => by omega)
    have next : ∀ y : Int, y = ((xt (pw n)).toNat : Int) → K (y, IntKind.wrap .i64 ((n : Int) + 1)) w6 := by
      rintro y rfl
      rw [w64 (by omega) (by omega)]
      refine hK (255 - (n + 1)) _ _ (by omega) ⟨n + 1, _, by simp, by omega, rfl, hat6, by simp [hsz], fun j hj => ?_, he6, rfl⟩
      simp only [Array.getElem?_setIfInBounds, Array.size_setIfInBounds, hsz]
      by_cases e : j = n
      · subst e
        refine ⟨?_, ?_, ?_⟩
        · rw [if_neg (by omega), if_neg (by omega), if_pos rfl, if_pos (by omega)]; rfl
        · rw [if_neg (by omega), if_pos rfl, if_pos (by omega)]; rfl
        · rw [if_pos rfl, if_pos (by omega)]
      · obtain ⟨q1, q2, q3⟩ := hcs j (by omega)
        have hne : (pw j).toNat ≠ (pw n).toNat := fun h => by
          have := BitVec.eq_of_toNat_eq h
          have h4 := lg_pw0 (n := j) (by omega)
          rw [this, lg_pw0 (by omega)] at h4
          omega
        refine ⟨?_, ?_, ?_⟩
        · rw [if_neg (by omega), if_neg (by omega), if_neg (by omega)]; exact q1
        · rw [if_neg (by omega), if_neg (by omega), if_neg (by omega)]; exact q2
        · rw [if_neg (by omega), if_neg (by omega), if_neg (by omega)]; exact q3
    rcases xt_step (pw n) with ⟨hb, hv⟩ | ⟨hb, hv⟩
    · rw [hb]; exact br_t (next _ hv)
    · rw [hb]; exact br_f (next _ hv)
  · simp only [] at hge
    have : n = 255 := by omega
    subst this
    refine ⟨f, rfl, ⟨cs, hat, fun k hk => ?_, fun y hy => ?_⟩, he2, hf⟩
    · by_cases h : k < 255
      · exact (hcs k h).1
      · have := (hcs (k - 255) (by omega)).2.1
        rw [show k - 255 + 255 = k by omega] at this
        rw [this, ← pw_add255 (k - 255), show k - 255 + 255 = k by omega]
    · have := (hcs (lg y) (lg_lt y)).2.2
      rw [pw_lg hy] at this
      exact this

theorem fieldMul_c {f : Nat} {a b : By} (h : FieldAt w f) : Cs Try.prog field_Field_Mul_n #[.pointer (some ⟨f, 0, none⟩), bv a, bv b] w (Ret fun v w' => v = bv (mul a b) ∧ Ext w w') := by
  apply field_Field_Mul_ok
  unfold field_Field_Mul
  refine jn_step (fun _ w' => w' = w ∧ a ≠ 0#8 ∧ b ≠ 0#8) ?_ ?_
  · rintro _ _ w1 ⟨rfl, ha, hb⟩
    refine dr_step fun w2 _ he2 => nc_s ?_
    have h2 := h.ext he2
    have ha1 := a.isLt
    have hb1 := b.isLt
    refine ⟨by omega, by omega, ?_⟩
    refine ⟨_, by rw [add_mk, add_mk, show 0 + 510 + (a.toNat : Int).toNat * 1 = 510 + a.toNat by omega]; exact h2.log ha, nc_s ⟨by omega, by omega, ?_⟩⟩
    refine ⟨_, by rw [add_mk, add_mk, show 0 + 510 + (b.toNat : Int).toNat * 1 = 510 + b.toNat by omega]; exact h2.log hb, nc_s ?_⟩
    have l1 := lg_lt a
    have l2 := lg_lt b
    rw [w64 (by omega) (by omega)]
    refine ⟨by omega, by omega, ?_⟩
    refine ⟨_, by rw [add_mk, show 0 + ((lg a : Int) + (lg b : Int)).toNat * 1 = lg a + lg b by omega]; exact h2.exp (by omega), ?_⟩
    exact ⟨by rw [mul_nz ha hb]; rfl, he2⟩
  · refine br_f ?_
    refine br_iff.2 ⟨fun ha => ?_, fun ha => br_iff.2 ⟨fun hb => ?_, fun hb => ⟨rfl, ?_, ?_⟩⟩⟩
    · have : a = 0#8 := by_zero.1 (by simpa using ha)
      subst this; exact ⟨by rw [zero_mul]; rfl, Ext.refl _⟩
    · have : b = 0#8 := by_zero.1 (by simpa using hb)
      subst this; exact ⟨by rw [mul_zero]; rfl, Ext.refl _⟩
    · rintro rfl; simp at ha
    · rintro rfl; simp at hb

theorem fieldDiv_c {f : Nat} {a b : By} (h : FieldAt w f) (ha : a ≠ 0#8) : Cs Try.prog field_Field_Div_n #[.pointer (some ⟨f, 0, none⟩), bv a, bv b] w (Ret fun v w' => v = .tuple #[bv (if b = 0#8 then 0#8 else pw (lg a + 255 - lg b)), .bool (decide (b ≠ 0#8))] ∧ Ext w w') := by
  apply field_Field_Div_ok
  unfold field_Field_Div
  refine jn_step (fun _ w' => w' = w ∧ b ≠ 0#8) ?_ ?_
  · rintro _ _ w1 ⟨rfl, hb⟩
    refine br_iff.2 ⟨fun h0 => absurd (by_zero.1 (by simpa using h0)) ha, fun _ => ?_⟩
    refine dr_step fun w2 _ he2 => nc_s ?_
    have h2 := h.ext he2
    have ha1 := a.isLt
    have hb1 := b.isLt
    refine ⟨by omega, by omega, ?_⟩
    refine ⟨_, by rw [add_mk, add_mk, show 0 + 510 + (a.toNat : Int).toNat * 1 = 510 + a.toNat by omega]; exact h2.log ha, nc_s ⟨by omega, by omega, ?_⟩⟩
    refine ⟨_, by rw [add_mk, add_mk, show 0 + 510 + (b.toNat : Int).toNat * 1 = 510 + b.toNat by omega]; exact h2.log hb, nc_s ?_⟩
    have l1 := lg_lt a
    have l2 := lg_lt b
    rw [w64 (n := (lg a : Int) + 255) (by omega) (by omega), w64 (by omega) (by omega)]
    refine ⟨by omega, by omega, ?_⟩
    refine ⟨_, by rw [add_mk, show 0 + ((lg a : Int) + 255 - (lg b : Int)).toNat * 1 = lg a + 255 - lg b by omega]; exact h2.exp (by omega), ?_⟩
    exact ⟨by rw [if_neg hb]; simp [hb, bv], he2⟩
  · refine br_f ?_
    refine br_iff.2 ⟨fun hb => ?_, fun hb => ⟨rfl, ?_⟩⟩
    · have : b = 0#8 := by_zero.1 (by simpa using hb)
      subst this; exact ⟨rfl, Ext.refl _⟩
    · rintro rfl; simp at hb

theorem fieldInv_c {f : Nat} {a : By} (h : FieldAt w f) (ha : a ≠ 0#8) : Cs Try.prog field_Field_Inv_n #[.pointer (some ⟨f, 0, none⟩), bv a] w (Ret fun v w' => v = .tuple #[bv (inv a), .bool true] ∧ Ext w w') := by
  apply field_Field_Inv_ok
  unfold field_Field_Inv
  refine cl_ret (fieldDiv_c (a := 1#8) (b := a) h (by decide)) ?_
  rintro v w1 ⟨rfl, he⟩
  refine ⟨_, _, rfl, ?_, he⟩
  have : lg 1#8 = 0 := by decide +kernel
  rw [if_neg ha, this, Nat.zero_add]
  simp [ha, inv, bv]

/-! ### Axpy -/

def axcur (y x : List By) (c : By) (n : Nat) : List By := (axl y x c).take n ++ y.drop n

theorem axl_get {y x : List By} {c : By} {i : Nat} : (axl y x c)[i]? = if i < y.length ∧ i < x.length then some (vec y i ^^^ mul c (vec x i)) else none := by
  simp only [axl, List.getElem?_zipWith]
  by_cases h : i < y.length
  · by_cases h' : i < x.length
    · simp [vec, h, h']
    · simp [h']
  · simp [h]

theorem axcur_len {y x : List By} {c : By} {n : Nat} (h : y.length ≤ x.length) : (axcur y x c n).length = y.length := by
  simp [axcur, axl]; omega

theorem axcur_get {y x : List By} {c : By} {n i : Nat} (h : y.length ≤ x.length) : (axcur y x c n)[i]? = if i < n then (axl y x c)[i]? else y[i]? := by
  have hl : (axl y x c).length = y.length := by simp [axl]; omega
  unfold axcur
  rw [List.getElem?_append, List.length_take, hl]
  by_cases h1 : i < n
  · rw [if_pos h1]
    by_cases h2 : i < y.length
    · rw [if_pos (by omega), List.getElem?_take, if_pos h1]
    · rw [if_neg (by omega), List.getElem?_drop, List.getElem?_eq_none (by omega), List.getElem?_eq_none (by omega)]
  · rw [if_neg h1]
    by_cases h2 : n ≤ y.length
    · rw [if_neg (by omega), List.getElem?_drop]; congr 1; omega
    · rw [List.getElem?_eq_none (l := y) (by omega)]
      split
      · rw [List.getElem?_take, if_neg h1]
      · rw [List.getElem?_drop, List.getElem?_eq_none (by omega)]

theorem axcur_set {y x : List By} {c : By} {n : Nat} (h : y.length ≤ x.length) (hn : n < y.length) : (axcur y x c n).set n (vec y n ^^^ mul c (vec x n)) = axcur y x c (n + 1) := by
  apply List.ext_getElem?
  intro i
  rw [List.getElem?_set, axcur_get h, axcur_get h, axcur_len h]
  by_cases e : n = i
  · subst e
    rw [if_pos rfl, if_pos hn, if_pos (by omega), axl_get, if_pos ⟨hn, by omega⟩]
  · rw [if_neg e]
    by_cases h1 : i < n
    · rw [if_pos h1, if_pos (by omega)]
    · rw [if_neg h1, if_neg (by omega)]

theorem axl_take {y x : List By} {c : By} : axl (y.take (min y.length x.length)) x c = axl y x c := by
  apply List.ext_getElem?
  intro i
  rw [axl_get, axl_get, List.length_take]
  by_cases h : i < y.length ∧ i < x.length
  · rw [if_pos (by omega), if_pos h]
    congr 1
    simp only [vec, List.getD_eq_getElem?_getD, List.getElem?_take]
    rw [if_pos (by omega)]
  · rw [if_neg (by omega), if_neg h]

theorem bv_gt (b : By) : (0 : Int) ≤ b.toNat := by omega

theorem axpy_c {f : Nat} {p q : Option Addr} {pl pc ql qc : Nat} {y x : List By} {c : By} (h : FieldAt w f) (hy : Byr w p pl y) (hx : Byr w q ql x) (hpc : pl ≤ pc) (hsm : y.length ≤ 1000000) :
    Cs Try.prog field_Field_Axpy_n #[.pointer (some ⟨f, 0, none⟩), .slice p pl pc, .slice q ql qc, bv c] w (Ret fun v w' => ∃ r l k, v = .slice r l k ∧ RowB w' w.heap.size r l k (axl y x c) ∧ Ext w w') := by
  apply field_Field_Axpy_ok
  unfold field_Field_Axpy
  have hpl := hy.len
  have hql := hx.len
  refine br_f (al_step fun m0 w1 hat1 he1 hb1 => ?_)
  generalize hn : min y.length x.length = n
  have hmin : (if (pl : Int) < (ql : Int) then (pl : Int) else (ql : Int)) = (n : Int) := by split <;> omega
  rw [hmin]
  refine pv_upto und22 siz5 (by omega) (by omega) ?_
  refine ⟨_, _, _, rfl, ?_⟩
  have hy' : Byr w1 p (n : Int).toNat (y.take n) := by
    rw [show ((n : Int)).toNat = n by omega]
    exact (hy.upto (by omega)).ext he1
  refine append_byr und22 inf5 (base := w.heap.size) (bs := []) (Row.empty hat1 hb1) hy' (by omega) he1.size fun p2 c2 w2 hr2 hc2 => ?_
  refine ⟨_, _, _, rfl, ?_⟩
  rw [List.nil_append] at hr2
  have he2 : Ext w w2 := he1.then hc2 fun b hb => by simp [rowS, Value.ownBlock] at hb; omega
  have hlen : (y.take n).length = n := by rw [List.length_take]; omega
  have hle : (y.take n).length ≤ x.length := by omega
  have hl2 : 0 + ((n : Int)).toNat = n := by omega
  rw [hl2] at hr2 ⊢
  refine lp_step (fun m i w' => ∃ k : Nat, i = k ∧ k ≤ n ∧ RowB w' w.heap.size p2 n c2 (axcur (y.take n) x c k) ∧ Ext w w' ∧ m = n - k)
    _ ⟨0, rfl, by omega, by simpa [axcur] using hr2, he2, rfl⟩ ?_
  rintro m _ i w3 ⟨k, rfl, hk, hr3, he3, hm⟩ K hK
  refine br_if (fun hlt => ?_) (fun hge => ?_)
  · refine dr_step fun w4 _ he4 => ?_
    have hr4 : RowB w4 _ _ _ _ _ := Row.ext hr3 he4
    have hcl := axcur_len (c := c) (n := k) hle
    have hb4 := hr4.byr (by omega)
    have hx4 := hx.ext (he3.trans he4)
    refine hb4.ix (by omega) (by omega) fun a1 ha1 => ⟨_, ha1, ?_⟩
    refine hx4.ix (by omega) (by omega) fun a2 ha2 => ⟨_, ha2, ?_⟩
    refine cl_ret (fieldMul_c (a := c) (b := vec x (k : Int).toNat) (h.ext (he3.trans he4))) ?_
    rintro v w5 ⟨rfl, he5⟩
    refine ⟨_, rfl, hold_one (he5.cell ha1), ?_⟩
    have hv : vec (axcur (y.take n) x c k) k = vec (y.take n) k := by
      simp only [vec, List.getD_eq_getElem?_getD, axcur_get hle]; rw [if_neg (by omega)]
    have hr5 : RowB w5 _ _ _ _ _ := Row.ext hr4 he5
    have hkk : ((k : Int)).toNat = k := by omega
    refine hr5.wr (x := vec (y.take n) k ^^^ mul c (vec x k)) ?_ (by omega) (by omega) fun w6 hr6 hc6 => ?_
    · rw [hkk, hv, by_xor]
    · rw [hkk, axcur_set hle (by omega)] at hr6
      rw [w64 (by omega) (by omega)]
      refine hK (n - (k + 1)) _ _ (by omega) ⟨k + 1, by simp, by omega, hr6, ?_, rfl⟩
      exact ((he3.trans he4).trans he5).then hc6 fun b hb => .inl (Row.base hr5 b hb)
  · have : k = n := by omega
    subst this
    refine ⟨_, _, _, rfl, ?_, he3⟩
    have : axcur (y.take k) x c k = axl y x c := by
      have h1 : (axl (y.take k) x c).length = k := by simp [axl]; omega
      unfold axcur
      rw [List.take_of_length_le (by omega), List.drop_of_length_le (by omega), List.append_nil]
      rw [← hn]; exact axl_take
    rw [← this]; exact hr3
end Go.SR
