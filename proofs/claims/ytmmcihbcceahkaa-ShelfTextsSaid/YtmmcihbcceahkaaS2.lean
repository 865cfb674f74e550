/- Sorting whole numbers: partition, the choice of a pivot, the breaking of patterns. -/
import Derived.Test.YtmmcihbcceahkaaS1
namespace Go.SR
open Go Go.Proofs

section
variable {w : World} {base : Nat} {p : Option Addr} {l c : Nat} {xs : List Int}

theorem partition_c {a b piv : Nat} (h : RowI w base p l c xs) (hab : a < b) (hb : b ≤ l) (hl : l < 4611686018427387904) (hp0 : a ≤ piv) (hp1 : piv < b) :
    Cs Try.prog slices_partitionOrdered_uint32_n #[.slice p l c, .int .i64 a, .int .i64 b, .int .i64 piv] w
      (Ret fun v w' => ∃ (m : Nat) (r : Bool) (ys : List Int), v = .tuple #[.int .i64 m, .bool r] ∧ a ≤ m ∧ m < b ∧ RowI w' base p l c ys ∧ RP xs ys a b ∧ (∀ k, a ≤ k → k < m → g ys k ≤ g ys m) ∧ (∀ k, m < k → k < b → g ys m ≤ g ys k) ∧ Chg (rowS (.slice p l c)) w w') := by
  apply slices_partitionOrdered_uint32_ok
  unfold slices_partitionOrdered_uint32
  have hxl := h.lenI
  refine dr_step fun w1 _ he1 => ?_
  have h1 : RowI w1 base p l c xs := Row.ext h he1
  refine h1.swap (by omega) (by omega) (by omega) (by omega) fun w2 h2 hc2 => ?_
  rw [Int.toNat_natCast, Int.toNat_natCast] at h2
  have hrp := RP.swp (xs := xs) (a := a) (b := b) (i := a) (j := piv) (by omega) (by omega) (by omega) (by omega) (by omega)
  have hc02 : Chg (rowS (.slice p l c)) w w2 := (Ext.any he1).trans hc2
  generalize swp xs a piv = xs1 at h2 hrp
  generalize hpv : g xs1 a = pv
  rw [w64 (n := (a : Int) + 1) (by omega) (by omega), w64 (n := (b : Int) - 1) (by omega) (by omega)]
  -- where it stands: i and j, what lies ahead of i is below, what lies behind j is not
  let St : List Int → Int → Int → World → Prop := fun ys i j w' => RowI w' base p l c ys ∧ RP xs ys a b ∧ g ys a = pv ∧ (∀ k : Nat, a < k → (k : Int) < i → g ys k < pv) ∧ (∀ k : Nat, j < k → k < b → pv ≤ g ys k) ∧
    Chg (rowS (.slice p l c)) w w' ∧ (a : Int) < i ∧ i ≤ b ∧ (a : Int) ≤ j ∧ j < b
  have stext : ∀ {ys i j w3 w4}, St ys i j w3 → Ext w3 w4 → St ys i j w4 := fun ⟨a1, a2, a3, a4, a5, a6, a7⟩ he => ⟨Row.ext a1 he, a2, a3, a4, a5, a6.trans (Ext.any he), a7⟩
  have fin : ∀ {ys i j w3 w4 r}, St ys i j w3 → i > j → RowI w4 base p l c (swp ys j.toNat a) → Chg (rowS (.slice p l c)) w3 w4 →
      ∃ (m : Nat) (r' : Bool) (ys : List Int), Value.tuple #[.int .i64 j, .bool r] = .tuple #[.int .i64 m, .bool r'] ∧ a ≤ m ∧ m < b ∧ RowI w4 base p l c ys ∧ RP xs ys a b ∧ (∀ k, a ≤ k → k < m → g ys k ≤ g ys m) ∧ (∀ k, m < k → k < b → g ys m ≤ g ys k) ∧ Chg (rowS (.slice p l c)) w w4 := by
    rintro ys i j w3 w4 r ⟨a1, a2, a3, a4, a5, a6, a7, a8, a9, a10⟩ hij hr4 hc4
    have hyl := a2.len
    have hm : g (swp ys j.toNat a) j.toNat = pv := by
      rw [swp_g (by omega) (by omega)]
      by_cases e : a = j.toNat
      · rw [if_pos e, ← e, a3]
      · rw [if_neg e, if_pos rfl, a3]
    refine ⟨j.toNat, r, _, by rw [Int.toNat_of_nonneg (by omega)], by omega, by omega, hr4, a2.trans (RP.swp (by omega) (by omega) (by omega) (by omega) (by omega)), fun k k1 k2 => ?_, fun k k1 k2 => ?_, a6.trans hc4⟩
    · rw [hm, swp_g (by omega) (by omega)]
      by_cases e : a = k
      · rw [if_pos e]
        rcases Nat.lt_or_ge a j.toNat with e' | e'
        · have := a4 j.toNat e' (by omega); omega
        · omega
      · rw [if_neg e, if_neg (by omega)]
        have := a4 k (by omega) (by omega); omega
    · rw [hm, swp_g (by omega) (by omega), if_neg (by omega), if_neg (by omega)]
      exact a5 k (by omega) k2
  have swap : ∀ {ys i j w3 w4}, St ys i j w3 → i ≤ j → pv ≤ g ys i.toNat → g ys j.toNat < pv → RowI w4 base p l c (swp ys i.toNat j.toNat) → Chg (rowS (.slice p l c)) w3 w4 → St (swp ys i.toNat j.toNat) (i + 1) (j - 1) w4 := by
    rintro ys i j w3 w4 ⟨a1, a2, a3, a4, a5, a6, a7, a8, a9, a10⟩ hij h1 h2 hr4 hc4
    have hyl := a2.len
    have hne : i ≠ j := fun e => by rw [e] at h1; omega
    refine ⟨hr4, a2.trans (RP.swp (by omega) (by omega) (by omega) (by omega) (by omega)), ?_, fun k k1 k2 => ?_, fun k k1 k2 => ?_, a6.trans hc4, by omega, by omega, by omega, by omega⟩
    · rw [swp_g (by omega) (by omega), if_neg (by omega), if_neg (by omega)]; exact a3
    · rw [swp_g (by omega) (by omega)]
      by_cases e1 : j.toNat = k
      · omega
      · rw [if_neg e1]
        by_cases e2 : i.toNat = k
        · rw [if_pos e2]; exact h2
        · rw [if_neg e2]; exact a4 k k1 (by omega)
    · rw [swp_g (by omega) (by omega)]
      by_cases e1 : j.toNat = k
      · rw [if_pos e1]; exact h1
      · rw [if_neg e1]
        by_cases e2 : i.toNat = k
        · omega
        · rw [if_neg e2]; exact a5 k (by omega) k2
  -- the first row from the left
  have left : ∀ {ys i j w3} {K' : Int → World → Prop}, St ys i j w3 → (∀ i' w', St ys i' j w' → (i' ≤ j → pv ≤ g ys i'.toNat) → i ≤ i' → K' i' w') →
      lp (σ := Int) (fun _ k84 n85 w86 => dr w86 fun w87 => br (decide (n85 ≤ j))
        (ixa p l n85 1 fun a88 => ∃ n89 : Int, w87.cell? a88 = some (.int .u32 n89) ∧ ixa p l a 1 fun a90 => ∃ n91 : Int, w87.cell? a90 = some (.int .u32 n91) ∧
          cl Try.prog cmp_Less_uint32_n #[.int .u32 n89, .int .u32 n91] w87 (fun v92 w93 => ∃ b94 : Bool, v92 = .bool b94 ∧ br b94 (k84 (IntKind.wrap .i64 (n85 + 1)) w93) (K' n85 w93)) fun _ _ => False) (K' n85 w87)) i w3 := by
    intro ys i j w3 K' hst hK'
    refine lp_step (fun n i' w' => St ys i' j w' ∧ i ≤ i' ∧ n = (b - i').toNat) _ ⟨hst, Int.le_refl _, rfl⟩ ?_
    rintro n _ i' w4 ⟨hs4, hii, hn⟩ K hK
    refine dr_step fun w5 _ he5 => ?_
    have hs5 := stext hs4 he5
    have ⟨a1, a2, a3, a4, a5, a6, a7, a8, a9, a10⟩ := hs5
    refine br_if (fun hlt => ?_) (fun hge => hK' _ _ hs5 (fun h => absurd h hge) hii)
    refine a1.less (by omega) (by omega) (by omega) (by omega) ?_
    rw [Int.toNat_natCast, a3]
    refine br_if (fun hlt2 => ?_) (fun hge2 => hK' _ _ hs5 (fun _ => by omega) hii)
    rw [w64 (by omega) (by omega)]
    refine hK _ _ _ (by omega) ⟨⟨a1, a2, a3, fun k k1 k2 => ?_, a5, a6, by omega, by omega, a9, a10⟩, by omega, rfl⟩
    by_cases e : (k : Int) < i'
    · exact a4 k k1 e
    · have : i'.toNat = k := by omega
      rw [← this]; exact hlt2
  refine jn_step (fun i w' => ∃ ys j, j = (b : Int) - 1 ∧ St ys i j w' ∧ (i ≤ j → pv ≤ g ys i.toNat)) ?_ ?_
  · rintro _ i w3 ⟨ys, j, rfl, hs, hpi⟩
    refine jn_step (fun j w' => St ys i j w' ∧ (i ≤ j → pv ≤ g ys i.toNat) ∧ (i ≤ j → g ys j.toNat < pv)) ?_ ?_
    · rintro _ j w4 ⟨hs4, hpi4, hpj4⟩
      have hs4' := hs4
      obtain ⟨a1, a2, a3, a4, a5, a6, a7, a8, a9, a10⟩ := hs4'
      refine br_if (fun hgt => ?_) (fun hle => ?_)
      · refine dr_step fun w5 _ he5 => ?_
        refine RowI.swap (Row.ext a1 he5) (by omega) (by omega) (by omega) (by omega) fun w6 h6 hc6 => ?_
        rw [Int.toNat_natCast] at h6
        exact fin (stext hs4 he5) hgt h6 hc6
      · refine dr_step fun w5 _ he5 => ?_
        refine RowI.swap (Row.ext a1 he5) (by omega) (by omega) (by omega) (by omega) fun w6 h6 hc6 => ?_
        have hs6 := swap (stext hs4 he5) (by omega) (hpi4 (by omega)) (hpj4 (by omega)) h6 hc6
        rw [w64 (n := i + 1) (by omega) (by omega), w64 (n := j - 1) (by omega) (by omega)]
        refine lp_step (fun n st w' => ∃ ys, St ys st.1 st.2 w' ∧ n = (b - st.1).toNat) _ ⟨_, hs6, rfl⟩ ?_
        rintro n _ ⟨i, j⟩ w7 ⟨ys, hs7, hn⟩ K hK
        simp only [] at hs7 hn
        refine jn_step (fun i' w' => St ys i' j w' ∧ (i' ≤ j → pv ≤ g ys i'.toNat) ∧ i ≤ i') ?_ (left hs7 fun i' w' s1 s2 s3 => ⟨s1, s2, s3⟩)
        rintro _ i' w8 ⟨hs8, hpi8, hii⟩
        have next : ∀ {j' w9 w10}, St ys i' j' w9 → i' ≤ j' → g ys j'.toNat < pv → (pv ≤ g ys i'.toNat) → RowI w10 base p l c (swp ys i'.toNat j'.toNat) → Chg (rowS (.slice p l c)) w9 w10 → K (IntKind.wrap .i64 (i' + 1), IntKind.wrap .i64 (j' - 1)) w10 := by
          intro j' w9 w10 q1 q2 q3 q4 q5 q6
          have hs10 := swap q1 q2 q4 q3 q5 q6
          have ⟨_, _, _, _, _, _, b7, b8, b9, b10⟩ := q1
          rw [w64 (by omega) (by omega), w64 (by omega) (by omega)]
          exact hK _ _ _ (by omega) ⟨_, hs10, rfl⟩
        refine lp_step (fun n j' w' => St ys i' j' w' ∧ j' ≤ j ∧ n = (j' + 1).toNat) _ ⟨hs8, Int.le_refl _, rfl⟩ ?_
        rintro n2 _ j' w9 ⟨hs9, hjj, hn2⟩ K2 hK2
        refine dr_step fun w10 _ he10 => ?_
        have hs10 := stext hs9 he10
        have hs10' := hs10
        obtain ⟨a1, a2, a3, a4, a5, a6, a7, a8, a9, a10⟩ := hs10'
        refine br_if (fun hlt => ?_) (fun hge => ?_)
        · refine a1.less (by omega) (by omega) (by omega) (by omega) ?_
          rw [Int.toNat_natCast, a3]
          refine br_iff.2 ⟨fun hnl => ?_, fun hl2 => ?_⟩
          · have hnl' : pv ≤ g ys j'.toNat := by
              have : ¬ g ys j'.toNat < pv := by simpa using hnl
              omega
            rw [w64 (by omega) (by omega)]
            refine hK2 _ _ _ (by omega) ⟨⟨a1, a2, a3, a4, fun k k1 k2 => ?_, a6, a7, a8, by omega, by omega⟩, by omega, rfl⟩
            by_cases e : j' < (k : Int)
            · exact a5 k e k2
            · have : j'.toNat = k := by omega
              rw [← this]; exact hnl'
          · have hl2' : g ys j'.toNat < pv := by simpa using hl2
            refine br_if (fun h => by omega) (fun _ => ?_)
            refine dr_step fun w11 _ he11 => ?_
            exact RowI.swap (Row.ext a1 he11) (by omega) (by omega) (by omega) (by omega) fun w12 h12 hc12 => next (stext hs10 he11) hlt hl2' (hpi8 (by omega)) h12 hc12
        · refine br_if (fun hgt => ?_) (fun h => by omega)
          refine dr_step fun w11 _ he11 => ?_
          refine RowI.swap (Row.ext a1 he11) (by omega) (by omega) (by omega) (by omega) fun w12 h12 hc12 => ?_
          rw [Int.toNat_natCast] at h12
          exact fin (stext hs10 he11) hgt h12 hc12
    · have hb1 : (b : Int) - 1 < b := by omega
      refine lp_step (fun n j' w' => St ys i j' w' ∧ (i ≤ j' → pv ≤ g ys i.toNat) ∧ n = (j' + 1).toNat) _ ⟨hs, hpi, rfl⟩ ?_
      rintro n2 _ j' w9 ⟨hs9, hpi9, hn2⟩ K2 hK2
      refine dr_step fun w10 _ he10 => ?_
      have hs10 := stext hs9 he10
      have hs10' := hs10
      obtain ⟨a1, a2, a3, a4, a5, a6, a7, a8, a9, a10⟩ := hs10'
      refine br_if (fun hlt => ?_) (fun hge => ⟨hs10, hpi9, fun h => absurd h hge⟩)
      refine a1.less (by omega) (by omega) (by omega) (by omega) ?_
      rw [Int.toNat_natCast, a3]
      refine br_iff.2 ⟨fun hnl => ?_, fun hl2 => ⟨hs10, hpi9, fun _ => by simpa using hl2⟩⟩
      have hnl' : pv ≤ g ys j'.toNat := by
        have : ¬ g ys j'.toNat < pv := by simpa using hnl
        omega
      rw [w64 (by omega) (by omega)]
      refine hK2 _ _ _ (by omega) ⟨⟨a1, a2, a3, a4, fun k k1 k2 => ?_, a6, a7, a8, by omega, by omega⟩, fun h => hpi9 (by omega), rfl⟩
      by_cases e : j' < (k : Int)
      · exact a5 k e k2
      · have : j'.toNat = k := by omega
        rw [← this]; exact hnl'
  · have hs2 : St xs1 ((a : Int) + 1) ((b : Int) - 1) w2 := ⟨h2, hrp, hpv, fun k k1 k2 => by omega, fun k k1 k2 => by omega, hc02, by omega, by omega, by omega, by omega⟩
    exact left hs2 fun i' w' s1 s2 _ => ⟨xs1, _, rfl, s1, s2⟩
end
end Go.SR
