/- Sorting whole numbers: the heap. -/
import Derived.Test.YtmmcihbcceahkaaS3
namespace Go.SR
open Go Go.Proofs

/-- Node i of the heap that begins at a is no less than its children. -/
def Node (zs : List Int) (a hi i : Nat) : Prop := (2 * i + 1 < hi → g zs (a + (2 * i + 1)) ≤ g zs (a + i)) ∧ (2 * i + 2 < hi → g zs (a + (2 * i + 2)) ≤ g zs (a + i))

theorem heap_max {zs : List Int} {a hi : Nat} (h : ∀ i, i < hi → Node zs a hi i) : ∀ k, k < hi → g zs (a + k) ≤ g zs a := by
  intro k
  induction k using Nat.strongRecOn with
  | ind k ih =>
    intro hk
    rcases Nat.eq_zero_or_pos k with rfl | hpos
    · exact Int.le_refl _
    · have hp := h ((k - 1) / 2) (by omega)
      have h1 := ih ((k - 1) / 2) (by omega) (by omega)
      rcases Nat.mod_two_eq_zero_or_one k with e | e
      · have : 2 * ((k - 1) / 2) + 2 = k := by omega
        have := hp.2 (by omega)
        rw [show 2 * ((k - 1) / 2) + 2 = k by omega] at this
        omega
      · have := hp.1 (by omega)
        rw [show 2 * ((k - 1) / 2) + 1 = k by omega] at this
        omega

section
variable {w : World} {base : Nat} {p : Option Addr} {l c : Nat} {xs : List Int}

theorem siftDown_c {a lo hi : Nat} (h : RowI w base p l c xs) (hb : a + hi ≤ l) (hl : l < 1152921504606846976) (hlo : lo ≤ hi) (hh : ∀ i, lo < i → i < hi → Node xs a hi i) :
    Cs Try.prog slices_siftDownOrdered_uint32_n #[.slice p l c, .int .i64 lo, .int .i64 hi, .int .i64 a] w
      (Ret fun _ w' => ∃ ys, RowI w' base p l c ys ∧ RP xs ys a (a + hi) ∧ (∀ k, k < a + lo ∨ a + hi ≤ k → g ys k = g xs k) ∧ (∀ i, lo ≤ i → i < hi → Node ys a hi i) ∧ Chg (rowS (.slice p l c)) w w') := by
  apply slices_siftDownOrdered_uint32_ok
  unfold slices_siftDownOrdered_uint32
  have hxl := h.lenI
  refine lp_step (fun n r w' => ∃ (m : Nat) (ys : List Int), r = m ∧ lo ≤ m ∧ RowI w' base p l c ys ∧ RP xs ys a (a + hi) ∧ (∀ k, k < a + lo ∨ a + hi ≤ k → g ys k = g xs k) ∧
      (∀ i, lo ≤ i → i < hi → i ≠ m → Node ys a hi i) ∧ (∀ q, lo ≤ q → (m = 2 * q + 1 ∨ m = 2 * q + 2) → (2 * m + 1 < hi → g ys (a + (2 * m + 1)) ≤ g ys (a + q)) ∧ (2 * m + 2 < hi → g ys (a + (2 * m + 2)) ≤ g ys (a + q))) ∧
      Chg (rowS (.slice p l c)) w w' ∧ m ≤ hi ∧ n = hi - m)
    _ ⟨lo, xs, rfl, Nat.le_refl _, h, RP.refl _ _ _, fun _ _ => rfl, fun i h1 h2 h3 => hh i (by omega) h2, fun q h1 h2 => by omega, Chg.refl _ _, hlo, rfl⟩ ?_
  rintro n _ r w1 ⟨m, ys, rfl, hm0, hy, hrp, hout, hnode, hpar, hc1, hmh, hn⟩ K hK
  have hyl := hrp.len
  rw [w64 (n := (2 : Int) * m) (by omega) (by omega), w64 (n := (2 : Int) * m + 1) (by omega) (by omega), w64 (n := (2 : Int) * m + 1 + 1) (by omega) (by omega)]
  refine br_if (fun hge => ?_) (fun hlt => ?_)
  · refine ⟨ys, hy, hrp, hout, fun i h1 h2 => ?_, hc1⟩
    by_cases e : i = m
    · subst e; exact ⟨fun h => by omega, fun h => by omega⟩
    · exact hnode i h1 h2 e
  · have hch : 2 * m + 1 < hi := by omega
    refine jn_step (fun ch w' => ∃ d : Nat, ch = d ∧ (d = 2 * m + 1 ∨ d = 2 * m + 2) ∧ d < hi ∧ g ys (a + (2 * m + 1)) ≤ g ys (a + d) ∧ (2 * m + 2 < hi → g ys (a + (2 * m + 2)) ≤ g ys (a + d)) ∧ Ext w1 w') ?_ ?_
    · rintro _ ch w2 ⟨d, rfl, hd, hdh, hd1, hd2, he2⟩
      rw [w64 (n := (a : Int) + m) (by omega) (by omega), w64 (n := (a : Int) + d) (by omega) (by omega)]
      refine dr_step fun w3 _ he3 => ?_
      have hy3 : RowI w3 base p l c ys := Row.ext hy (he2.trans he3)
      refine hy3.less (by omega) (by omega) (by omega) (by omega) ?_
      rw [show ((a : Int) + m).toNat = a + m by omega, show ((a : Int) + d).toNat = a + d by omega]
      refine br_iff.2 ⟨fun hnl => ?_, fun hl2 => ?_⟩
      · have hnl' : ¬ g ys (a + m) < g ys (a + d) := by simpa using hnl
        refine ⟨ys, hy3, hrp, hout, fun i h1 h2 => ?_, hc1.trans (Ext.any (he2.trans he3))⟩
        by_cases e : i = m
        · subst e; exact ⟨fun _ => by omega, fun h => by have := hd2 h; omega⟩
        · exact hnode i h1 h2 e
      · have hl2' : g ys (a + m) < g ys (a + d) := by simpa using hl2
        refine dr_step fun w4 _ he4 => ?_
        refine RowI.swap (Row.ext hy3 he4) (by omega) (by omega) (by omega) (by omega) fun w5 h5 hc5 => ?_
        rw [show ((a : Int) + m).toNat = a + m by omega, show ((a : Int) + d).toNat = a + d by omega] at h5
        have gs : ∀ k, g (swp ys (a + m) (a + d)) (a + k) = if d = k then g ys (a + m) else if m = k then g ys (a + d) else g ys (a + k) := fun k => by
          rw [swp_g (by omega) (by omega)]
          by_cases e1 : d = k
          · subst e1; simp
          · by_cases e2 : m = k
            · subst e2; simp [e1]
            · rw [if_neg (by omega), if_neg (by omega), if_neg e1, if_neg e2]
        refine hK (hi - d) _ _ (by omega) ⟨d, _, rfl, by omega, h5, hrp.trans (RP.swp (by omega) (by omega) (by omega) (by omega) (by omega)), fun k hk => ?_, fun i h1 h2 h3 => ?_, fun q h1 h2 => ?_, (hc1.trans (Ext.any ((he2.trans he3).trans he4))).trans hc5, by omega, rfl⟩
        · rw [swp_g (by omega) (by omega), if_neg (by omega), if_neg (by omega)]; exact hout k hk
        · unfold Node
          rw [gs, gs, gs]
          by_cases e : i = m
          · subst e
            rw [if_neg (by omega : ¬ d = i), if_pos rfl]
            constructor
            · intro h
              by_cases e1 : d = 2 * i + 1
              · rw [if_pos e1]; omega
              · rw [if_neg e1, if_neg (by omega)]; exact hd1
            · intro h
              by_cases e1 : d = 2 * i + 2
              · rw [if_pos e1]; omega
              · rw [if_neg e1, if_neg (by omega)]; exact hd2 h
          · rw [if_neg (by omega : ¬ d = i), if_neg (by omega : ¬ m = i)]
            have hni := hnode i h1 h2 e
            constructor
            · intro h
              rw [if_neg (by omega)]
              by_cases e2 : m = 2 * i + 1
              · rw [if_pos e2]
                have hp := hpar i h1 (.inl e2)
                rcases hd with rfl | rfl
                · exact hp.1 hch
                · exact hp.2 hdh
              · rw [if_neg e2]; exact hni.1 h
            · intro h
              rw [if_neg (by omega)]
              by_cases e2 : m = 2 * i + 2
              · rw [if_pos e2]
                have hp := hpar i h1 (.inr e2)
                rcases hd with rfl | rfl
                · exact hp.1 hch
                · exact hp.2 hdh
              · rw [if_neg e2]; exact hni.2 h
        · have hq : q = m := by omega
          subst hq
          rw [gs, gs, gs]
          have hnd := hnode d (by omega) hdh (by omega)
          rw [if_neg (by omega : ¬ d = q), if_pos rfl]
          constructor
          · intro h
            rw [if_neg (by omega), if_neg (by omega)]; exact hnd.1 h
          · intro h
            rw [if_neg (by omega), if_neg (by omega)]; exact hnd.2 h
    · refine dr_step fun w2 _ he2 => ?_
      refine br_if (fun h2 => ?_) (fun h2 => ?_)
      · rw [w64 (n := (a : Int) + ((2 : Int) * m + 1)) (by omega) (by omega), w64 (n := (a : Int) + ((2 : Int) * m + 1) + 1) (by omega) (by omega)]
        refine RowI.less (Row.ext hy he2) (by omega) (by omega) (by omega) (by omega) ?_
        rw [show ((a : Int) + ((2 : Int) * m + 1)).toNat = a + (2 * m + 1) by omega, show ((a : Int) + ((2 : Int) * m + 1) + 1).toNat = a + (2 * m + 2) by omega]
        refine br_if (fun hl => ⟨2 * m + 2, by omega, .inr rfl, by omega, by omega, fun _ => Int.le_refl _, he2⟩) (fun hl => ⟨2 * m + 1, by omega, .inl rfl, hch, Int.le_refl _, fun _ => by omega, he2⟩)
      · exact ⟨2 * m + 1, by omega, .inl rfl, hch, Int.le_refl _, fun h => by omega, he2⟩

theorem heapSort_c {a b : Nat} (h : RowI w base p l c xs) (hab : a ≤ b) (hb : b ≤ l) (hl : l < 1152921504606846976) :
    Cs Try.prog slices_heapSortOrdered_uint32_n #[.slice p l c, .int .i64 a, .int .i64 b] w
      (Ret fun _ w' => ∃ ys, RowI w' base p l c ys ∧ RP xs ys a b ∧ Ordered ys a b ∧ Chg (rowS (.slice p l c)) w w') := by
  apply slices_heapSortOrdered_uint32_ok
  unfold slices_heapSortOrdered_uint32
  refine ⟨by decide, ?_⟩
  have hxl := h.lenI
  obtain ⟨hi, rfl⟩ : ∃ hi, b = a + hi := ⟨b - a, by omega⟩
  have hwr : IntKind.wrap .i64 (((a + hi : Nat) : Int) - a) = hi := by rw [w64 (by omega) (by omega)]; omega
  rw [hwr]
  obtain ⟨s0, hs0, hs1, hs2⟩ : ∃ s0 : Nat, IntKind.wrap .i64 ((IntKind.wrap .i64 ((hi : Int) - 1)).tdiv 2) = s0 ∧ s0 ≤ hi ∧ ∀ j, s0 < j → hi ≤ 2 * j + 1 := by
    rw [w64 (n := (hi : Int) - 1) (by omega) (by omega)]
    rcases Nat.eq_zero_or_pos hi with e | e
    · subst e; exact ⟨0, by decide, Nat.le_refl _, fun j hj => by omega⟩
    · refine ⟨(hi - 1) / 2, ?_, by omega, fun j hj => by omega⟩
      have : ((hi : Int) - 1).tdiv 2 = ((hi - 1) / 2 : Nat) := by
        rw [show (hi : Int) - 1 = ((hi - 1 : Nat) : Int) by omega]; rfl
      rw [this, w64 (by omega) (by omega)]
  rw [hs0]
  refine lp_step (fun n i w' => ∃ ys, RowI w' base p l c ys ∧ RP xs ys a (a + hi) ∧ (∀ j : Nat, i < j → j < hi → Node ys a hi j) ∧ Chg (rowS (.slice p l c)) w w' ∧ -1 ≤ i ∧ i ≤ hi ∧ n = (i + 1).toNat) _
    ⟨xs, h, RP.refl _ _ _, fun j h1 h2 => ⟨fun h => (by have := hs2 j (by omega); omega), fun h => (by have := hs2 j (by omega); omega)⟩, Chg.refl _ _, by omega, by omega, rfl⟩ ?_
  rintro n _ i w1 ⟨ys, hy, hrp, hnd, hc1, hi0, hi1, hn⟩ K hK
  refine br_if (fun hge => ?_) (fun hlt => ?_)
  · obtain ⟨m, rfl⟩ : ∃ m : Nat, i = m := ⟨i.toNat, by omega⟩
    refine cl_ret (siftDown_c (a := a) (lo := m) (hi := hi) hy hb hl (by omega) fun j h1 h2 => hnd j (by omega) h2) ?_
    rintro v w2 ⟨zs, hz, hrz, _, hnz, hc2⟩
    rw [w64 (by omega) (by omega)]
    exact hK _ _ _ (by omega) ⟨zs, hz, hrp.trans hrz, fun j h1 h2 => hnz j (by omega) h2, hc1.trans hc2, by omega, by omega, rfl⟩
  · have hi' : i = -1 := by omega
    subst hi'
    rw [w64 (n := (hi : Int) - 1) (by omega) (by omega)]
    refine lp_step (fun n i w' => ∃ ys, RowI w' base p l c ys ∧ RP xs ys a (a + hi) ∧ (∀ j : Nat, (j : Int) ≤ i → Node ys a (i + 1).toNat j) ∧ (∀ x y : Nat, i < x → x < y → y < hi → g ys (a + x) ≤ g ys (a + y)) ∧ (∀ x y : Nat, (x : Int) ≤ i → i < y → y < hi → g ys (a + x) ≤ g ys (a + y)) ∧
        Chg (rowS (.slice p l c)) w w' ∧ -1 ≤ i ∧ i < hi ∧ n = (i + 1).toNat) _
      ⟨ys, hy, hrp, fun j h1 => by rw [show ((hi : Int) - 1 + 1).toNat = hi by omega]; exact hnd j (by omega) (by omega), fun x y h1 h2 h3 => by omega, fun x y h1 h2 h3 => by omega, hc1, by omega, by omega, rfl⟩ ?_
    clear hn hnd hrp hy hc1 hi0 hi1 hK K hlt
    clear ys w1 n
    rintro n _ i w1 ⟨ys, hy, hrp, hnd, htail, hcut, hc1, hi0, hi1, hn⟩ K hK
    have hyl := hrp.len
    refine br_if (fun hge => ?_) (fun hlt => ?_)
    · obtain ⟨m, rfl⟩ : ∃ m : Nat, i = m := ⟨i.toNat, by omega⟩
      have hmx := heap_max (zs := ys) (a := a) (hi := m + 1) fun j hj => hnd j (by omega)
      refine dr_step fun w2 _ he2 => ?_
      rw [w64 (n := (a : Int) + m) (by omega) (by omega)]
      refine RowI.swap (Row.ext hy he2) (by omega) (by omega) (by omega) (by omega) fun w3 h3 hc3 => ?_
      rw [show ((a : Int) + m).toNat = a + m by omega, Int.toNat_natCast] at h3
      have gs : ∀ k, g (swp ys a (a + m)) (a + k) = if m = k then g ys a else if 0 = k then g ys (a + m) else g ys (a + k) := fun k => by
        rw [swp_g (by omega) (by omega)]
        by_cases e1 : m = k
        · subst e1; simp
        · by_cases e2 : 0 = k
          · subst e2; rw [if_neg (by omega), if_pos (by omega), if_neg e1, if_pos rfl]
          · rw [if_neg (by omega), if_neg (by omega), if_neg e1, if_neg e2]
      have hrs := RP.swp (xs := ys) (a := a) (b := a + hi) (i := a) (j := a + m) (by omega) (by omega) (by omega) (by omega) (by omega)
      generalize swp ys a (a + m) = zs at h3 gs hrs
      refine cl_ret (siftDown_c (a := a) (lo := 0) (hi := m) h3 (by omega) hl (by omega) fun j j1 j2 => ?_) ?_
      · have hj := hnd j (by omega)
        rw [show ((m : Int) + 1).toNat = m + 1 by omega] at hj
        unfold Node at hj ⊢
        rw [gs, gs, gs]
        rw [if_neg (by omega : ¬ m = j), if_neg (by omega : ¬ 0 = j)]
        constructor
        · intro h; rw [if_neg (by omega), if_neg (by omega)]; exact hj.1 (by omega)
        · intro h; rw [if_neg (by omega), if_neg (by omega)]; exact hj.2 (by omega)
      · rintro v w4 ⟨us, hu, hru, hou, hnu, hc4⟩
        have hle : ∀ k, a ≤ k → k < a + m → g us k ≤ g ys a := hru.all (Q := fun x => x ≤ g ys a) fun k k1 k2 => by
          obtain ⟨d, rfl⟩ : ∃ d, k = a + d := ⟨k - a, by omega⟩
          rw [gs, if_neg (by omega)]
          split
          · exact hmx m (by omega)
          · exact hmx d (by omega)
        have hle2 : ∀ y : Nat, m < y → y < hi → ∀ k, a ≤ k → k < a + m → g us k ≤ g ys (a + y) := fun y y1 y2 k k1 k2 => by
          have h1 := hle k k1 k2
          have h2 := hcut 0 y (by omega) (by omega) y2
          rw [Nat.add_zero] at h2
          omega
        have tl : ∀ y, m ≤ y → g us (a + y) = g zs (a + y) := fun y hy => hou (a + y) (by omega)
        rw [w64 (by omega) (by omega)]
        refine hK _ _ _ (by omega) ⟨us, hu, (hrp.trans hrs).trans (hru.wide (Nat.le_refl _) (by omega)), fun j h1 => ?_, fun x y h1 h2 h3 => ?_, fun x y h1 h2 h3 => ?_, ((hc1.trans (Ext.any he2)).trans hc3).trans hc4, by omega, by omega, rfl⟩
        · rw [show ((m : Int) - 1 + 1).toNat = m by omega]
          exact hnu j (by omega) (by omega)
        · rw [tl x (by omega), tl y (by omega), gs, gs, if_neg (by omega : ¬ m = y), if_neg (by omega : ¬ 0 = y)]
          by_cases e : m = x
          · rw [if_pos e]
            have := hcut 0 y (by omega) (by omega) h3
            rwa [Nat.add_zero] at this
          · rw [if_neg e, if_neg (by omega)]
            exact htail x y (by omega) h2 h3
        · rw [tl y (by omega), gs]
          by_cases e : m = y
          · rw [if_pos e]; exact hle (a + x) (by omega) (by omega)
          · rw [if_neg e, if_neg (by omega)]
            exact hle2 y (by omega) h3 (a + x) (by omega) (by omega)
    · have : i = -1 := by omega
      subst this
      refine ⟨ys, hy, hrp, fun x y h1 h2 h3 => ?_, hc1⟩
      have := htail (x - a) (y - a) (by omega) (by omega) (by omega)
      rwa [show a + (x - a) = x by omega, show a + (y - a) = y by omega] at this
end
end Go.SR
