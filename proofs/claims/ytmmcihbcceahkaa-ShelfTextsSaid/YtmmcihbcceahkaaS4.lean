/- Sorting whole numbers: pattern-defeating quicksort on up to 16 numbers. -/
import Derived.Test.YtmmcihbcceahkaaS5
namespace Go.SR
open Go Go.Proofs

section
variable {w : World} {base : Nat} {p : Option Addr} {l c : Nat} {xs : List Int}

theorem breakPatterns_c {a b : Nat} (h : RowI w base p l c xs) (hab : a + 8 ≤ b) (hb : b ≤ l) (hl : l < 4611686018427387904) (h50 : b - a < 50) :
    Cs Try.prog slices_breakPatternsOrdered_uint32_n #[.slice p l c, .int .i64 a, .int .i64 b] w
      (Ret fun _ w' => ∃ ys, RowI w' base p l c ys ∧ RP xs ys a b ∧ Chg (rowS (.slice p l c)) w w') := by
  apply slices_breakPatternsOrdered_uint32_ok
  unfold slices_breakPatternsOrdered_uint32
  have hxl := h.lenI
  have hd : ((b : Int) - a).tdiv 4 = ((b - a) / 4 : Nat) := by
    rw [show (b : Int) - a = ((b - a : Nat) : Int) by omega]; rfl
  rw [w64 (n := (b : Int) - a) (by omega) (by omega), hd]
  rw [w64 (n := (((b - a) / 4 : Nat) : Int)) (by omega) (by omega), w64 (n := (((b - a) / 4 : Nat) : Int) * 2) (by omega) (by omega),
    w64 (n := (a : Int) + (((b - a) / 4 : Nat) : Int) * 2) (by omega) (by omega), w64 (n := (a : Int) + (((b - a) / 4 : Nat) : Int) * 2 + 1) (by omega) (by omega), w64 (n := (a : Int) + (((b - a) / 4 : Nat) : Int) * 2 - 1) (by omega) (by omega)]
  refine br_if (fun _ => ?_) (fun h => by omega)
  refine al_step fun m0 w1 hat1 he1 hb1 => ?_
  rw [zc214] at hat1
  refine st1_at (i := 0) hat1 rfl (by simp) rfl fun w2 hat2 hc2 => ?_
  have he2 : Ext w w2 := he1.then hc2 fun x hx => by omega
  refine cl_ret (nextPow_c (by omega) (by omega)) ?_
  rintro v w3 ⟨⟨md, rfl, hm1, hm2⟩, rfl⟩
  refine ⟨md, rfl, by decide, ?_⟩
  refine lp_step (fun n i w' => ∃ ys v, RowI w' base p l c ys ∧ RP xs ys a b ∧ At w' m0 #[.int .u64 v] 214 ∧ Chg (rowS (.slice p l c)) w w' ∧ (a : Int) ≤ i ∧ n = (b - i).toNat) _
    ⟨xs, _, Row.ext h he2, RP.refl _ _ _, hat2, Ext.any he2, by omega, rfl⟩ ?_
  rintro n _ i w4 ⟨ys, v, hy, hrp, hat4, hc4, hi0, hn⟩ K hK
  have hyl := hrp.len
  refine ⟨by decide, ?_⟩
  refine br_if (fun hlt => ?_) (fun _ => ⟨ys, hy, hrp, hc4⟩)
  refine cl_ret (xorshift_c hat4) ?_
  rintro r w5 ⟨n11, rfl, hat5, hc5⟩
  refine ⟨n11, rfl, ?_⟩
  have hy5 : RowI w5 base p l c ys := Row.chg hy hc5 (Off.of_at hat4 (by decide))
  have hc05 : Chg (rowS (.slice p l c)) w w5 := hc4.then hc5 fun x hx => .inl (by omega)
  -- the other place
  have hand : ∀ (x : Int) (y : Int), 1 ≤ y → y ≤ 100 → 0 ≤ IntKind.wrap .i64 (IntKind.wrap .u64 ((BitVec.toNat (BitVec.ofInt 64 x &&& BitVec.ofInt 64 (IntKind.wrap .u64 (y - 1))) : Nat) : Int)) ∧
      IntKind.wrap .i64 (IntKind.wrap .u64 ((BitVec.toNat (BitVec.ofInt 64 x &&& BitVec.ofInt 64 (IntKind.wrap .u64 (y - 1))) : Nat) : Int)) < y := by
    intro x y y1 y2
    have e1 : (BitVec.ofInt 64 (IntKind.wrap .u64 (y - 1))).toNat = (y - 1).toNat := by
      rw [wu64 (by omega) (by omega), BitVec.toNat_ofInt]
      omega
    have e2 : (BitVec.ofInt 64 x &&& BitVec.ofInt 64 (IntKind.wrap .u64 (y - 1))).toNat ≤ (y - 1).toNat := by
      rw [BitVec.toNat_and, e1]; exact Nat.and_le_right
    generalize (BitVec.ofInt 64 x &&& BitVec.ofInt 64 (IntKind.wrap .u64 (y - 1))).toNat = z at e2
    rw [wu64 (by omega) (by omega), w64 (by omega) (by omega)]
    omega
  obtain ⟨ho0, ho1⟩ := hand n11 md hm1 (by omega)
  generalize IntKind.wrap .i64 (IntKind.wrap .u64 ((BitVec.toNat (BitVec.ofInt 64 n11 &&& BitVec.ofInt 64 (IntKind.wrap .u64 (md - 1))) : Nat) : Int)) = o at ho0 ho1 ⊢
  have next : ∀ {w6 w7 : World} {j : Int}, Ext w5 w6 → (a : Int) ≤ j → j < b → RowI w7 base p l c (swp ys i.toNat j.toNat) → Chg (rowS (.slice p l c)) w6 w7 → K (IntKind.wrap .i64 (i + 1)) w7 := by
    intro w6 w7 j q1 q2 q3 q4 q5
    rw [w64 (by omega) (by omega)]
    have hat6 : At w6 m0 _ 214 := q1.keep _ _ hat5 id
    have hat7 : At w7 m0 _ 214 := q5.keep _ _ hat6 (Row.not (Row.ext hy5 q1) hat6 (by decide))
    exact hK _ _ _ (by omega) ⟨_, _, q4, hrp.trans (RP.swp (by omega) (by omega) (by omega) (by omega) (by omega)), hat7, (hc05.trans (Ext.any q1)).trans q5, by omega, rfl⟩
  refine br_if (fun hge => ?_) (fun hlt' => ?_)
  · refine dr_step fun w6 _ he6 => ?_
    rw [w64 (n := o - (b - a)) (by omega) (by omega), w64 (n := (a : Int) + (o - (b - a))) (by omega) (by omega)]
    exact RowI.swap (Row.ext hy5 he6) (by omega) (by omega) (by omega) (by omega) fun w7 h7 hc7 => next he6 (by omega) (by omega) h7 hc7
  · refine dr_step fun w6 _ he6 => ?_
    rw [w64 (n := (a : Int) + o) (by omega) (by omega)]
    exact RowI.swap (Row.ext hy5 he6) (by omega) (by omega) (by omega) (by omega) fun w7 h7 hc7 => next he6 (by omega) (by omega) h7 hc7

/-- In order from a to b, but for two places both from a' to b'. -/
def OutO (ys : List Int) (a b a' b' : Nat) : Prop := ∀ i j, a ≤ i → i < j → j < b → ¬ (a' ≤ i ∧ j < b') → g ys i ≤ g ys j

theorem OutO.mono {ys zs : List Int} {a b a' b' : Nat} (h : OutO ys a b a' b') (hr : RP ys zs a' b') (ha : a ≤ a') (hb : b' ≤ b) : OutO zs a b a' b' := by
  intro i j h1 h2 h3 h4
  by_cases ei : a' ≤ i ∧ i < b'
  · obtain ⟨i', i1, i2, e⟩ := hr.inn i ei.1 ei.2
    rw [e, hr.out j (by omega)]
    exact h i' j (by omega) (by omega) h3 (by omega)
  · rw [hr.out i (by omega)]
    by_cases ej : a' ≤ j ∧ j < b'
    · obtain ⟨j', j1, j2, e⟩ := hr.inn j ej.1 ej.2
      rw [e]
      exact h i j' h1 (by omega) (by omega) (by omega)
    · rw [hr.out j (by omega)]; exact h i j h1 h2 h3 h4

theorem RP.of_perm {xs ys : List Int} {a b : Nat} (hp : ys.Perm xs) (hab : a ≤ b) (hb : b ≤ xs.length) (ho : ∀ k, k < a ∨ b ≤ k → g ys k = g xs k) : RP xs ys a b := by
  have hl := hp.length_eq
  have get : ∀ k, k < a ∨ b ≤ k → ys[k]? = xs[k]? := fun k hk => by
    by_cases e : k < xs.length
    · rw [get_g e, get_g (by omega), ho k hk]
    · rw [List.getElem?_eq_none (by omega), List.getElem?_eq_none (by omega)]
  have e1 : ys.take a = xs.take a := List.ext_getElem? fun k => by
    rw [List.getElem?_take, List.getElem?_take]
    split
    · exact get k (by omega)
    · rfl
  have e2 : ys.drop b = xs.drop b := List.ext_getElem? fun k => by
    rw [List.getElem?_drop, List.getElem?_drop]
    exact get _ (by omega)
  have dec : ∀ zs : List Int, zs = zs.take a ++ ((zs.drop a).take (b - a) ++ zs.drop b) := fun zs => by
    have : zs.drop b = (zs.drop a).drop (b - a) := by rw [List.drop_drop]; congr 1; omega
    rw [this, List.take_append_drop, List.take_append_drop]
  have hm : ((ys.drop a).take (b - a)).Perm ((xs.drop a).take (b - a)) := by
    have h := hp
    rw [dec ys, dec xs, e1, e2] at h
    exact (List.perm_append_right_iff _).1 ((List.perm_append_left_iff _).1 h)
  refine ⟨hp, ho, fun k k1 k2 => ?_⟩
  have hk : ((ys.drop a).take (b - a))[k - a]? = some (g ys k) := by
    rw [List.getElem?_take, if_pos (by omega), List.getElem?_drop, show a + (k - a) = k by omega]
    exact get_g (by omega)
  have := hm.mem_iff.1 (List.mem_of_getElem? hk)
  obtain ⟨j, hj⟩ := List.mem_iff_getElem?.1 this
  rw [List.getElem?_take] at hj
  split at hj
  · rw [List.getElem?_drop, get_g (by omega)] at hj
    exact ⟨a + j, by omega, by omega, (Option.some.inj hj).symm⟩
  · cases hj

theorem insertion_rp {a b : Nat} (h : RowI w base p l c xs) (hab : a ≤ b) (hb : b ≤ l) (hl62 : l < 4611686018427387904) :
    Cs Try.prog slices_insertionSortOrdered_uint32_n #[.slice p l c, .int .i64 a, .int .i64 b] w
      (Ret fun _ w' => ∃ ys, RowI w' base p l c ys ∧ RP xs ys a b ∧ Ordered ys a b ∧ Chg (rowS (.slice p l c)) w w') := by
  have hxl := h.lenI
  refine (insertion_c h hab hb hl62).ret ?_
  rintro v w' ⟨ys, h1, h2, h3, h4, h5⟩
  exact ⟨ys, h1, RP.of_perm h2 hab (by omega) h4, h3, h5⟩

theorem natI {x : Int} (h : 0 ≤ x) : ∃ n : Nat, x = n := ⟨x.toNat, by omega⟩

theorem pdq_c : ∀ (N : Nat) {w : World} {xs : List Int} {a b : Nat} {lim : Int}, b - a < N → RowI w base p l c xs → a ≤ b → b ≤ l → l < 1152921504606846976 → b - a < 50 → 0 ≤ lim → lim < 1000 → (0 < a → ∀ k, a ≤ k → k < b → g xs (a - 1) ≤ g xs k) →
    Cs Try.prog slices_pdqsortOrdered_uint32_n #[.slice p l c, .int .i64 a, .int .i64 b, .int .i64 lim] w
      (Ret fun _ w' => ∃ ys, RowI w' base p l c ys ∧ RP xs ys a b ∧ Ordered ys a b ∧ Chg (rowS (.slice p l c)) w w')
  | 0, _, _, _, _, _, hN, _, _, _, _, _, _, _, _ => by omega
  | N + 1, w, xs, a, b, lim, hN, h, hab, hb, hl, h50, hlim, hlimu, hpre => by
    apply slices_pdqsortOrdered_uint32_ok
    unfold slices_pdqsortOrdered_uint32
    have hxl := h.lenI
    refine lp_step (fun n st w' => ∃ (a' b' : Nat) (ys : List Int), st.1 = a' ∧ st.2.1 = b' ∧ RowI w' base p l c ys ∧ RP xs ys a b ∧ OutO ys a b a' b' ∧ a ≤ a' ∧ a' ≤ b' ∧ b' ≤ b ∧ 0 ≤ st.2.2.1 ∧ st.2.2.1 < 1000 ∧
        Chg (rowS (.slice p l c)) w w' ∧ n = b' - a') _ ⟨a, b, xs, rfl, rfl, h, RP.refl _ _ _, fun i j h1 h2 h3 h4 => absurd ⟨h1, h3⟩ h4, Nat.le_refl _, hab, Nat.le_refl _, hlim, hlimu, Chg.refl _ _, rfl⟩ ?_
    rintro n _ ⟨s1, s2, s3, s4, s5⟩ w1 ⟨a', b', ys, e1, e2, hy, hrp, hout, ha0, hab', hb0, hlm, hlm2, hc1, hn⟩ K hK
    simp only [] at e1 e2 hlm hlm2
    subst e1 e2
    have hyl := hrp.len
    have hpre' : ∀ zs, RP ys zs a' b' → 0 < a' → ∀ k, a' ≤ k → k < b' → g zs (a' - 1) ≤ g zs k := by
      intro zs hz hpos k k1 k2
      have hz' := (hrp.trans (hz.wide ha0 hb0))
      have hoz := hout.mono hz ha0 hb0
      rcases Nat.lt_or_ge a a' with e | e
      · exact hoz (a' - 1) k (by omega) (by omega) (by omega) (by omega)
      · have : a = a' := by omega
        subst this
        rw [hz'.out (a - 1) (by omega)]
        exact hz'.all (Q := fun x => g xs (a - 1) ≤ x) (hpre hpos) k k1 (by omega)
    have done : ∀ {w2 zs}, RowI w2 base p l c zs → RP ys zs a' b' → Ordered zs a' b' → Chg (rowS (.slice p l c)) w1 w2 →
        ∃ ys, RowI w2 base p l c ys ∧ RP xs ys a b ∧ Ordered ys a b ∧ Chg (rowS (.slice p l c)) w w2 := by
      intro w2 zs q1 q2 q3 q4
      refine ⟨zs, q1, hrp.trans (q2.wide ha0 hb0), fun i j h1 h2 h3 => ?_, hc1.trans q4⟩
      by_cases e : a' ≤ i ∧ j < b'
      · exact q3 i j e.1 h2 e.2
      · exact hout.mono q2 ha0 hb0 i j h1 h2 h3 e
    simp only []
    rw [w64 (n := (b' : Int) - a') (by omega) (by omega)]
    refine br_if (fun hle => ?_) (fun hgt => ?_)
    · refine cl_ret (insertion_rp hy hab' (by omega) (by omega)) ?_
      rintro v w2 ⟨zs, h1, h2, h3, h4⟩
      exact done h1 h2 h3 h4
    have hL : 13 ≤ b' - a' := by omega
    have hl62 : l < 4611686018427387904 := by omega
    refine br_iff.2 ⟨fun _ => ?_, fun h0 => ?_⟩
    · refine cl_ret (heapSort_c hy hab' (by omega) hl) ?_
      rintro v w2 ⟨zs, h1, h2, h3, h4⟩
      exact done h1 h2 h3 h4
    have hlm' : s3 ≠ 0 := by simpa using h0
    refine jn_step (fun lm w' => ∃ zs, RowI w' base p l c zs ∧ RP ys zs a' b' ∧ Chg (rowS (.slice p l c)) w1 w' ∧ s3 - 1 ≤ lm ∧ lm ≤ s3) ?_ ?_
    · rintro _ lm w2 ⟨zs, hz, hrz, hc2, hlm0, hlm1⟩
      have hzl := hrz.len
      refine cl_ret (choosePivot_c hz (by omega) (by omega) hl62 (by omega)) ?_
      rintro v w3 ⟨pv, r, rfl, hp0, hp1, hr2, he3⟩
      refine ⟨pv, r, rfl, ?_⟩
      have hz3 : RowI w3 base p l c zs := Row.ext hz he3
      have hc3 : Chg (rowS (.slice p l c)) w1 w3 := hc2.trans (Ext.any he3)
      refine jn_step (fun st w' => st = ((pv : Int), r) ∧ Ext w3 w') ?_ (br_iff.2 ⟨fun h => absurd (by simpa using h) hr2, fun _ => ⟨rfl, Ext.refl _⟩⟩)
      rintro _ _ w4 ⟨rfl, he4⟩
      simp only []
      have hz4 : RowI w4 base p l c zs := Row.ext hz3 he4
      have hc4 : Chg (rowS (.slice p l c)) w1 w4 := hc3.trans (Ext.any he4)
      refine jn_step (fun _ w' => Ext w4 w') ?_ ?_
      · rintro _ _ w5 he5
        have hz5 : RowI w5 base p l c zs := Row.ext hz4 he5
        have hc5 : Chg (rowS (.slice p l c)) w1 w5 := hc4.trans (Ext.any he5)
        refine jn_step (fun x w' => x = (a' : Int) ∧ Ext w5 w') ?_ ?_
        · -- the partition
          rintro _ _ w6 ⟨rfl, he6⟩
          have hz6 : RowI w6 base p l c zs := Row.ext hz5 he6
          have hc6 : Chg (rowS (.slice p l c)) w1 w6 := hc5.trans (Ext.any he6)
          refine cl_ret (partition_c hz6 (by omega) (by omega) hl62 hp0 hp1) ?_
          rintro v w7 ⟨m, r7, us, rfl, hm0, hm1, hu, hru, hlo, hhi, hc7⟩
          refine ⟨m, r7, rfl, by decide, ?_⟩
          have hul := hru.len
          have hru' : RP ys us a' b' := hrz.trans hru
          have hpreu := hpre' us hru'
          rw [w64 (n := (m : Int) - a') (by omega) (by omega), w64 (n := (b' : Int) - m) (by omega) (by omega), w64 (n := (m : Int) + 1) (by omega) (by omega)]
          refine br_if (fun _ => ?_) (fun _ => ?_)
          · refine cl_ret (pdq_c N (a := a') (b := m) (by omega) hu hm0 (by omega) hl (by omega) (by omega) (by omega) (fun hpos k k1 k2 => hpreu hpos k k1 (by omega))) ?_
            rintro v w8 ⟨vs, hv, hrv, hov, hc8⟩
            refine hK (b' - (m + 1)) _ _ (by omega) ⟨m + 1, b', vs, by simp, rfl, hv, hrp.trans ((hru'.trans (hrv.wide (Nat.le_refl _) (by omega))).wide ha0 hb0), ?_, by omega, by omega, hb0, by simp only []; omega, by simp only []; omega, ((hc1.trans hc6).trans hc7).trans hc8, rfl⟩
            have hvm : g vs m = g us m := hrv.out m (by omega)
            have hlo' := hrv.all (Q := fun x => x ≤ g us m) hlo
            intro i j h1 h2 h3 h4
            by_cases e : a' ≤ i ∧ j < b'
            · rcases Nat.lt_or_ge i m with ei | ei
              · rcases Nat.lt_or_ge j m with ej | ej
                · exact hov i j e.1 h2 ej
                · have q1 := hlo' i e.1 ei
                  rw [hrv.out j (by omega)]
                  rcases Nat.lt_or_ge m j with ejm | ejm
                  · exact Int.le_trans q1 (hhi j ejm e.2)
                  · have : j = m := by omega
                    rw [this]; exact q1
              · have : i = m := by omega
                subst this
                rw [hvm, hrv.out j (by omega)]
                exact hhi j h2 e.2
            · exact (hout.mono (hru'.trans (hrv.wide (Nat.le_refl _) (by omega))) ha0 hb0) i j h1 h2 h3 e
          · refine cl_ret (pdq_c N (a := m + 1) (b := b') (by omega) hu (by omega) (by omega) hl (by omega) (by omega) (by omega) (fun _ k k1 k2 => by rw [Nat.add_sub_cancel]; exact hhi k (by omega) k2)) ?_
            rintro v w8 ⟨vs, hv, hrv, hov, hc8⟩
            refine hK (m - a') _ _ (by omega) ⟨a', m, vs, rfl, rfl, hv, hrp.trans ((hru'.trans (hrv.wide (by omega) (Nat.le_refl _))).wide ha0 hb0), ?_, ha0, hm0, by omega, by simp only []; omega, by simp only []; omega, ((hc1.trans hc6).trans hc7).trans hc8, rfl⟩
            have hvm : g vs m = g us m := hrv.out m (by omega)
            have hhi' := hrv.all (Q := fun x => g us m ≤ x) (fun k k1 k2 => hhi k (by omega) k2)
            intro i j h1 h2 h3 h4
            by_cases e : a' ≤ i ∧ j < b'
            · rcases Nat.lt_or_ge m i with ei | ei
              · exact hov i j (by omega) h2 e.2
              · have q1 : g vs i ≤ g us m := by
                  rw [hrv.out i (by omega)]
                  rcases Nat.lt_or_ge i m with eim | eim
                  · exact hlo i e.1 eim
                  · have : i = m := by omega
                    rw [this]; exact Int.le_refl _
                rcases Nat.lt_or_ge m j with ej | ej
                · exact Int.le_trans q1 (hhi' j (by omega) e.2)
                · have : j = m := by omega
                  rw [this, hvm]; exact q1
            · exact (hout.mono (hru'.trans (hrv.wide (by omega) (Nat.le_refl _))) ha0 hb0) i j h1 h2 h3 e
        · -- is the pivot no greater than what lies ahead?
          refine dr_step fun w6 _ he6 => ?_
          refine br_if (fun hpos => ?_) (fun _ => ⟨rfl, he6⟩)
          have hz6 : RowI w6 base p l c zs := Row.ext hz5 he6
          have hc6 : Chg (rowS (.slice p l c)) w1 w6 := hc5.trans (Ext.any he6)
          rw [w64 (n := (a' : Int) - 1) (by omega) (by omega)]
          refine hz6.less (by omega) (by omega) (by omega) (by omega) ?_
          rw [show ((a' : Int) - 1).toNat = a' - 1 by omega, Int.toNat_natCast]
          refine br_iff.2 ⟨fun hnl => ?_, fun _ => ⟨rfl, he6⟩⟩
          have hnl' : g zs pv ≤ g zs (a' - 1) := by
            have : ¬ g zs (a' - 1) < g zs pv := by simpa using hnl
            omega
          have hprez := hpre' zs hrz (by omega)
          refine cl_ret (partitionEqual_c hz6 (by omega) (by omega) hl62 hp0 hp1 fun k k1 k2 => Int.le_trans hnl' (hprez k k1 k2)) ?_
          rintro v w7 ⟨m, us, rfl, hm0, hm1, hu, hru, heq, hc7⟩
          refine ⟨m, rfl, ?_⟩
          have hru' : RP ys us a' b' := hrz.trans hru
          refine hK (b' - m) _ _ (by omega) ⟨m, b', us, rfl, rfl, hu, hrp.trans (hru'.wide ha0 hb0), ?_, by omega, hm1, hb0, by simp only []; omega, by simp only []; omega, (hc1.trans hc6).trans hc7, rfl⟩
          have hmin := hru.all (Q := fun x => g zs pv ≤ x) (fun k k1 k2 => Int.le_trans hnl' (hprez k k1 k2))
          intro i j h1 h2 h3 h4
          by_cases e : a' ≤ i ∧ j < b'
          · rw [heq i e.1 (by omega)]
            exact hmin j (by omega) e.2
          · exact (hout.mono hru' ha0 hb0) i j h1 h2 h3 e
      · -- is it in order already?
        refine br_iff.2 ⟨fun _ => br_iff.2 ⟨fun _ => br_iff.2 ⟨fun _ => ?_, fun _ => Ext.refl _⟩, fun _ => Ext.refl _⟩, fun _ => Ext.refl _⟩
        refine cl_ret (partialInsertion_c hz4 (by omega) (by omega) hl62 (by omega)) ?_
        rintro v w5 ⟨⟨r5, rfl, ho⟩, he5⟩
        refine ⟨r5, rfl, ?_⟩
        refine br_iff.2 ⟨fun hr => ?_, fun _ => he5⟩
        exact done (Row.ext hz4 he5) hrz (ho hr) (hc4.trans (Ext.any he5))
    · refine br_iff.2 ⟨fun _ => ?_, fun _ => ⟨ys, hy, RP.refl _ _ _, Chg.refl _ _, by omega, Int.le_refl _⟩⟩
      refine cl_ret (breakPatterns_c hy (by omega) (by omega) hl62 (by omega)) ?_
      rintro v w2 ⟨zs, hz, hrz, hc2⟩
      rw [w64 (by omega) (by omega)]
      exact ⟨zs, hz, hrz, hc2, by omega, by omega⟩

theorem sortOk49 : SortOk 49 := by
  intro w base p l c xs h hl
  apply slices_Sort_uint32_uint32_ok
  unfold slices_Sort_uint32_uint32
  have hxl := h.lenI
  rw [wu64 (by omega) (by omega)]
  refine cl_ret (Len_q (by omega) (by omega)) ?_
  rintro v w' ⟨⟨n, rfl, hn⟩, rfl⟩
  refine ⟨n, rfl, ?_⟩
  have h8 : n ≤ 8 := by simp [lenQ] at hn; omega
  refine cl_ret (pdq_c (l + 1) (a := 0) (b := l) (by omega) h (by omega) (Nat.le_refl _) (by omega) (by omega) (by omega) (by omega) (fun h => by omega)) ?_
  rintro v w' ⟨ys, h1, h2, h3, h4⟩
  exact ⟨ys, h1, h2.perm, srt_of_ordered (by rw [h2.len, ← hxl]; exact h3), h4⟩
end
end Go.SR
