/- Sorting whole numbers: the parts of pattern-defeating quicksort, for rows of fewer than 50. -/
import Derived.Test.YtmmcihbcceahkaaC2
import Derived.Test.YtmmcihbcceahkaaH2
namespace Go.SR
open Go Go.Proofs

/-- ys is xs, but for the order from a to b. -/
structure RP (xs ys : List Int) (a b : Nat) : Prop where
  perm : ys.Perm xs
  out : ∀ k, k < a ∨ b ≤ k → g ys k = g xs k
  inn : ∀ k, a ≤ k → k < b → ∃ j, a ≤ j ∧ j < b ∧ g ys k = g xs j

theorem RP.refl (xs : List Int) (a b : Nat) : RP xs xs a b := ⟨List.Perm.refl _, fun _ _ => rfl, fun k h1 h2 => ⟨k, h1, h2, rfl⟩⟩

theorem RP.trans {xs ys zs : List Int} {a b : Nat} (h : RP xs ys a b) (h' : RP ys zs a b) : RP xs zs a b :=
  ⟨h'.perm.trans h.perm, fun k hk => (h'.out k hk).trans (h.out k hk), fun k h1 h2 => by
    obtain ⟨j, j1, j2, e⟩ := h'.inn k h1 h2
    obtain ⟨i, i1, i2, e'⟩ := h.inn j j1 j2
    exact ⟨i, i1, i2, e.trans e'⟩⟩

theorem RP.wide {xs ys : List Int} {a b a' b' : Nat} (h : RP xs ys a b) (ha : a' ≤ a) (hb : b ≤ b') : RP xs ys a' b' :=
  ⟨h.perm, fun k hk => h.out k (by omega), fun k h1 h2 => by
    by_cases e : a ≤ k ∧ k < b
    · obtain ⟨j, j1, j2, e'⟩ := h.inn k e.1 e.2
      exact ⟨j, by omega, by omega, e'⟩
    · exact ⟨k, h1, h2, h.out k (by omega)⟩⟩

theorem RP.swp {xs : List Int} {a b i j : Nat} (hb : b ≤ xs.length) (hi : a ≤ i) (hi' : i < b) (hj : a ≤ j) (hj' : j < b) : RP xs (swp xs i j) a b :=
  ⟨swp_perm (by omega) (by omega), fun k hk => by rw [swp_g (by omega) (by omega), if_neg (by omega), if_neg (by omega)], fun k h1 h2 => by
    rw [swp_g (by omega) (by omega)]
    by_cases e1 : j = k
    · rw [if_pos e1]; exact ⟨i, hi, hi', rfl⟩
    · rw [if_neg e1]
      by_cases e2 : i = k
      · rw [if_pos e2]; exact ⟨j, hj, hj', rfl⟩
      · rw [if_neg e2]; exact ⟨k, h1, h2, rfl⟩⟩

theorem RP.len {xs ys : List Int} {a b : Nat} (h : RP xs ys a b) : ys.length = xs.length := h.perm.length_eq

/-- What holds of all in the range goes on holding. -/
theorem RP.all {xs ys : List Int} {a b : Nat} {Q : Int → Prop} (h : RP xs ys a b) (hq : ∀ k, a ≤ k → k < b → Q (g xs k)) : ∀ k, a ≤ k → k < b → Q (g ys k) := fun k h1 h2 => by
  obtain ⟨j, j1, j2, e⟩ := h.inn k h1 h2
  rw [e]; exact hq j j1 j2

section
variable {w : World} {base : Nat} {p : Option Addr} {l c : Nat} {xs : List Int}

theorem RowI.swap {i j : Int} {F : World → Prop} (h : RowI w base p l c xs) (hi0 : 0 ≤ i) (hi : i < l) (hj0 : 0 ≤ j) (hj : j < l)
    (hF : ∀ w', RowI w' base p l c (swp xs i.toNat j.toNat) → Chg (rowS (.slice p l c)) w w' → F w') :
    ixa p l j 1 fun a1 => ∃ n2 : Int, w.cell? a1 = some (.int .u32 n2) ∧ ixa p l i 1 fun a3 => ∃ n4 : Int, w.cell? a3 = some (.int .u32 n4) ∧
      ixa p l i 1 fun a5 => st1 a5 (.int .u32 n2) w fun w6 => ixa p l j 1 fun a7 => st1 a7 (.int .u32 n4) w6 F := by
  refine h.ix hj0 hj fun a1 h1 => ⟨_, h1, ?_⟩
  refine h.ix hi0 hi fun a2 h2 => ⟨_, h2, ?_⟩
  refine h.st hi0 hi fun w1 r1 c1 => ?_
  exact r1.st hj0 hj fun w2 r2 c2 => hF w2 r2 (c1.trans c2)

theorem RowI.less {i j : Int} {F : Bool → World → Prop} {Kp : List PanicEntry → World → Prop} (h : RowI w base p l c xs) (hi0 : 0 ≤ i) (hi : i < l) (hj0 : 0 ≤ j) (hj : j < l) (hF : F (decide (g xs i.toNat < g xs j.toNat)) w) :
    ixa p l i 1 fun a1 => ∃ n2 : Int, w.cell? a1 = some (.int .u32 n2) ∧ ixa p l j 1 fun a3 => ∃ n4 : Int, w.cell? a3 = some (.int .u32 n4) ∧
      cl Try.prog cmp_Less_uint32_n #[.int .u32 n2, .int .u32 n4] w (fun v w' => ∃ b : Bool, v = .bool b ∧ F b w') Kp := by
  refine h.ix hi0 hi fun a1 h1 => ⟨_, h1, ?_⟩
  refine h.ix hj0 hj fun a2 h2 => ⟨_, h2, ?_⟩
  refine cl_ret Less_c ?_
  rintro v w' ⟨rfl, rfl⟩
  exact ⟨_, rfl, hF⟩

theorem partialInsertion_c {a b : Nat} (h : RowI w base p l c xs) (hab : a < b) (hb : b ≤ l) (hl : l < 4611686018427387904) (h50 : b - a < 50) :
    Cs Try.prog slices_partialInsertionSortOrdered_uint32_n #[.slice p l c, .int .i64 a, .int .i64 b] w (Ret fun v w' => (∃ r : Bool, v = .bool r ∧ (r = true → Ordered xs a b)) ∧ Ext w w') := by
  apply slices_partialInsertionSortOrdered_uint32_ok
  unfold slices_partialInsertionSortOrdered_uint32
  rw [w64 (n := (a : Int) + 1) (by omega) (by omega)]
  refine lp_step (fun n st w' => n = 0 ∧ st.1 = (a : Int) + 1 ∧ st.2 = 0 ∧ Ext w w') 0 ⟨rfl, rfl, rfl, Ext.refl _⟩ ?_
  rintro _ _ ⟨i, j⟩ w1 ⟨rfl, hi, hj, he1⟩ K _
  simp only [] at hi hj
  subst hi hj
  refine br_if (fun _ => ?_) (fun h => by simp at h)
  refine jn_step (fun i w' => Ext w w' ∧ (i = b → Ordered xs a b)) ?_ ?_
  · rintro _ i w2 ⟨he2, ho⟩
    rw [w64 (n := (b : Int) - a) (by omega) (by omega)]
    refine br_iff.2 ⟨fun h => ⟨⟨true, rfl, fun _ => ho (by simpa using h)⟩, he2⟩, fun _ => ?_⟩
    exact br_if (fun _ => ⟨⟨false, rfl, fun h => by cases h⟩, he2⟩) (fun h => by omega)
  · refine lp_step (fun n i w' => Ext w w' ∧ (a : Int) < i ∧ i ≤ b ∧ (∀ k : Nat, a ≤ k → (k : Int) + 1 < i → g xs k ≤ g xs (k + 1)) ∧ n = ((b : Int) - i).toNat) _ ⟨he1, by simp only []; omega, by simp only []; omega, fun k h1 h2 => by simp only [] at h2; omega, rfl⟩ ?_
    rintro n _ i w2 ⟨he2, hi0, hi1, hI, hn⟩ K' hK'
    refine dr_step fun w3 _ he3 => ?_
    have he := he2.trans he3
    have hr : RowI w3 base p l c xs := Row.ext h he
    refine br_if (fun hlt => ?_) (fun hge => ?_)
    · rw [w64 (n := i - 1) (by omega) (by omega)]
      refine hr.less (by omega) (by omega) (by omega) (by omega) ?_
      have e1 : (i - 1).toNat + 1 = i.toNat := by omega
      refine br_iff.2 ⟨fun h => ?_, fun _ => ⟨he, fun e => by omega⟩⟩
      have hle : g xs (i - 1).toNat ≤ g xs i.toNat := by
        have : ¬ g xs i.toNat < g xs (i - 1).toNat := by simpa using h
        omega
      rw [w64 (by omega) (by omega)]
      refine hK' _ _ _ (by omega) ⟨he, by omega, by omega, fun k h1 h2 => ?_, rfl⟩
      by_cases e : (k : Int) + 1 < i
      · exact hI k h1 e
      · have : k = (i - 1).toNat := by omega
        rw [this, e1]; exact hle
    · refine ⟨he, fun hib => ?_⟩
      have step : ∀ d k, a ≤ k → k + d < b → g xs k ≤ g xs (k + d) := by
        intro d
        induction d with
        | zero => intro k _ _; exact Int.le_refl _
        | succ d ih =>
          intro k h1 h2
          exact Int.le_trans (ih k h1 (by omega)) (hI (k + d) (by omega) (by omega))
      intro x y h1 h2 h3
      have := step (y - x) x h1 (by omega)
      rwa [show x + (y - x) = y by omega] at this

theorem partitionEqual_c {a b piv : Nat} (h : RowI w base p l c xs) (hab : a < b) (hb : b ≤ l) (hl : l < 4611686018427387904) (hp0 : a ≤ piv) (hp1 : piv < b) (hmin : ∀ k, a ≤ k → k < b → g xs piv ≤ g xs k) :
    Cs Try.prog slices_partitionEqualOrdered_uint32_n #[.slice p l c, .int .i64 a, .int .i64 b, .int .i64 piv] w
      (Ret fun v w' => ∃ (m : Nat) (ys : List Int), v = .int .i64 m ∧ a < m ∧ m ≤ b ∧ RowI w' base p l c ys ∧ RP xs ys a b ∧ (∀ k, a ≤ k → k < m → g ys k = g xs piv) ∧ Chg (rowS (.slice p l c)) w w') := by
  apply slices_partitionEqualOrdered_uint32_ok
  unfold slices_partitionEqualOrdered_uint32
  have hxl := h.lenI
  refine dr_step fun w1 _ he1 => ?_
  have h1 : RowI w1 base p l c xs := Row.ext h he1
  refine h1.swap (by omega) (by omega) (by omega) (by omega) fun w2 h2 hc2 => ?_
  rw [Int.toNat_natCast, Int.toNat_natCast] at h2
  have hrp := RP.swp (xs := xs) (a := a) (b := b) (i := a) (j := piv) (by omega) (by omega) (by omega) (by omega) (by omega)
  have hpa : g (swp xs a piv) a = g xs piv := by
    rw [swp_g (by omega) (by omega)]
    by_cases e : piv = a
    · rw [if_pos e, e]
    · rw [if_neg e, if_pos rfl]
  rw [w64 (n := (a : Int) + 1) (by omega) (by omega), w64 (n := (b : Int) - 1) (by omega) (by omega)]
  have hc02 : Chg (rowS (.slice p l c)) w w2 := (Ext.any he1).trans hc2
  refine lp_step (fun n st w' => ∃ ys, RowI w' base p l c ys ∧ RP xs ys a b ∧ g ys a = g xs piv ∧ (∀ k : Nat, a ≤ k → (k : Int) < st.1 → g ys k ≤ g xs piv) ∧ Chg (rowS (.slice p l c)) w w' ∧ (a : Int) < st.1 ∧ st.1 ≤ b ∧ st.2 < b ∧ n = (b - st.1).toNat)
    _ ⟨_, h2, hrp, hpa, fun k k1 k2 => by have : k = a := by simp only [] at k2; omega
                                          rw [this, hpa]; exact Int.le_refl _, hc02, by simp only []; omega, by simp only []; omega, by simp only []; omega, rfl⟩ ?_
  rintro n _ ⟨i, j⟩ w3 ⟨ys, hy, hrpy, hya, hle, hc3, hi0, hi1, hj1, hn⟩ K hK
  simp only [] at hle hi0 hi1 hj1 hn
  have hyl := hrpy.len
  have ret : ∀ {i : Int} {w' : World}, (a : Int) < i → i ≤ b → (∀ k : Nat, a ≤ k → (k : Int) < i → g ys k ≤ g xs piv) → Ext w3 w' →
      ∃ (m : Nat) (ys : List Int), Value.int .i64 i = .int .i64 m ∧ a < m ∧ m ≤ b ∧ RowI w' base p l c ys ∧ RP xs ys a b ∧ (∀ k, a ≤ k → k < m → g ys k = g xs piv) ∧ Chg (rowS (.slice p l c)) w w' := by
    intro i w' h1 h2 h3 he
    refine ⟨i.toNat, ys, by rw [Int.toNat_of_nonneg (by omega)], by omega, by omega, Row.ext hy he, hrpy, fun k k1 k2 => ?_, hc3.trans (Ext.any he)⟩
    have e1 := h3 k k1 (by omega)
    have e2 := hrpy.all (Q := fun x => g xs piv ≤ x) hmin k k1 (by omega)
    omega
  refine jn_step (fun i' w' => Ext w3 w' ∧ i ≤ i' ∧ i' ≤ b ∧ (∀ k : Nat, a ≤ k → (k : Int) < i' → g ys k ≤ g xs piv)) ?_ ?_
  · rintro _ i' w4 ⟨he4, hii, hib, hle'⟩
    have next : ∀ {j' : Int} {w5 w6 : World}, i' ≤ j' → j' < b → Ext w3 w5 → ¬ g xs piv < g ys j'.toNat → RowI w6 base p l c (swp ys i'.toNat j'.toNat) → Chg (rowS (.slice p l c)) w5 w6 → K (IntKind.wrap .i64 (i' + 1), IntKind.wrap .i64 (j' - 1)) w6 := by
      intro j' w5 w6 q1 q2 q3 q4 q5 q6
      rw [w64 (by omega) (by omega), w64 (by omega) (by omega)]
      refine hK _ _ _ (by omega) ⟨_, q5, hrpy.trans (RP.swp (by omega) (by omega) (by omega) (by omega) (by omega)), ?_, ?_, (hc3.trans (Ext.any q3)).trans q6, by simp only []; omega, by simp only []; omega, by simp only []; omega, rfl⟩
      · rw [swp_g (by omega) (by omega), if_neg (by omega), if_neg (by omega)]; exact hya
      · intro k k1 k2
        simp only [] at k2
        rw [swp_g (by omega) (by omega)]
        by_cases e1 : j'.toNat = k
        · have : i'.toNat = j'.toNat := by omega
          rw [if_pos e1, this]; omega
        · rw [if_neg e1]
          by_cases e2 : i'.toNat = k
          · rw [if_pos e2]; omega
          · rw [if_neg e2]; exact hle' k k1 (by omega)
    refine lp_step (fun n j' w' => Ext w3 w' ∧ j' < b ∧ n = (j' + 1).toNat) _ ⟨he4, hj1, rfl⟩ ?_
    rintro n2 _ j' w5 ⟨he5, hjb, hn2⟩ K2 hK2
    refine dr_step fun w6 _ he6 => ?_
    have he36 := he5.trans he6
    have h6 : RowI w6 base p l c ys := Row.ext hy he36
    refine br_if (fun hlt => ?_) (fun hge => ?_)
    · refine h6.less (by omega) (by omega) (by omega) (by omega) ?_
      rw [Int.toNat_natCast, hya]
      refine br_if (fun hlt2 => ?_) (fun hge2 => ?_)
      · rw [w64 (by omega) (by omega)]
        exact hK2 _ _ _ (by omega) ⟨he36, by omega, rfl⟩
      · refine br_if (fun h => by omega) (fun _ => ?_)
        refine dr_step fun w7 _ he7 => ?_
        have h7 : RowI w7 base p l c ys := Row.ext h6 he7
        exact h7.swap (by omega) (by omega) (by omega) (by omega) fun w8 h8 hc8 => next hlt hjb (he36.trans he7) hge2 h8 hc8
    · exact br_if (fun _ => ret (by omega) hib hle' he36) (fun h => by omega)
  · refine lp_step (fun n i' w' => Ext w3 w' ∧ i ≤ i' ∧ i' ≤ b ∧ (∀ k : Nat, a ≤ k → (k : Int) < i' → g ys k ≤ g xs piv) ∧ n = (b - i').toNat) _ ⟨Ext.refl _, by omega, hi1, hle, rfl⟩ ?_
    rintro n2 _ i' w4 ⟨he4, hii, hib, hle', hn2⟩ K2 hK2
    refine dr_step fun w5 _ he5 => ?_
    have he35 := he4.trans he5
    have h5 : RowI w5 base p l c ys := Row.ext hy he35
    refine br_if (fun hlt => ?_) (fun hge => ⟨he35, hii, hib, hle'⟩)
    have hlt' : i' ≤ j := hlt
    refine h5.less (by omega) (by omega) (by omega) (by omega) ?_
    rw [Int.toNat_natCast, hya]
    refine br_iff.2 ⟨fun hnl => ?_, fun _ => ⟨he35, hii, hib, hle'⟩⟩
    have hnl' : ¬ g xs piv < g ys i'.toNat := by simpa using hnl
    rw [w64 (by omega) (by omega)]
    refine hK2 _ _ _ (by omega) ⟨he35, by omega, by omega, fun k k1 k2 => ?_, rfl⟩
    by_cases e : (k : Int) < i'
    · exact hle' k k1 e
    · have : i'.toNat = k := by omega
      rw [this] at hnl'; omega
end
end Go.SR
