/- Sorting whole numbers: insertion sort. -/
import Derived.Test.YtmmcihbcceahkaaB4
import Derived.Test.YtmmcihbcceahkaaC1
namespace Go.SR
open Go Go.Proofs

def g (xs : List Int) (k : Nat) : Int := xs.getD k 0

theorem g_set {xs : List Int} {i k : Nat} {v : Int} (hi : i < xs.length) : g (xs.set i v) k = if i = k then v else g xs k := by
  unfold g
  simp only [List.getD_eq_getElem?_getD, List.getElem?_set]
  by_cases h : i = k
  · subst h; simp [hi]
  · simp [h]

theorem gI_g {xs : List Int} {i : Int} : gI xs i = g xs i.toNat := rfl

theorem get_g {xs : List Int} {k : Nat} (h : k < xs.length) : xs[k]? = some (g xs k) := by
  simp [g, List.getD_eq_getElem?_getD, List.getElem?_eq_getElem h]

def swp (xs : List Int) (i j : Nat) : List Int := (xs.set i (g xs j)).set j (g xs i)

theorem swp_len {xs : List Int} {i j : Nat} : (swp xs i j).length = xs.length := by simp [swp]

theorem swp_g {xs : List Int} {i j k : Nat} (hi : i < xs.length) (hj : j < xs.length) : g (swp xs i j) k = if j = k then g xs i else if i = k then g xs j else g xs k := by
  rw [swp, g_set (by simpa using hj), g_set hi]

theorem swp_perm {xs : List Int} {i j : Nat} (hi : i < xs.length) (hj : j < xs.length) : (swp xs i j).Perm xs := by
  have h := Array.swap_perm (xs := xs.toArray) (i := i) (j := j) (by simpa using hi) (by simpa using hj)
  have e : (xs.toArray.swap i j (by simpa using hi) (by simpa using hj)).toList = swp xs i j := by
    rw [Array.toList_swap]
    simp [swp, g, List.getD_eq_getElem?_getD, List.getElem?_eq_getElem hi, List.getElem?_eq_getElem hj]
  have := h.toList
  rw [e] at this
  simpa using this

/-- A slice of whole numbers whose cells may be written. -/
abbrev RowI (w : World) (base : Nat) (p : Option Addr) (l c : Nat) (xs : List Int) : Prop := Row w base 23 1 p l c (xs.map (.int .u32))

theorem Row.st {w : World} {base : Nat} {e : TypeId} {p : Option Addr} {l c : Nat} {vs : List Value} {i : Int} {v : Value} {F : World → Prop} (h : Row w base e 1 p l c vs) (h0 : 0 ≤ i) (h1 : i < l) (hv : v.oneCell' = true)
    (hF : ∀ w', Row w' base e 1 p l c (vs.set i.toNat v) → Chg (rowS (.slice p l c)) w w' → F w') : ixa p l i 1 fun a => st1 a v w F := by
  rcases h.2 with ⟨h1', h2⟩ | ⟨g, cap, cur, hs, hbg, hat, hr1, hr2, hr3, hr4⟩
  · omega
  · cases hs
    refine ⟨_, rfl, h0, h1, ?_⟩
    rw [Nat.mul_one, add_mk, Nat.zero_add]
    have hA : At w g cur e := hat
    rw [Nat.mul_one] at hr3 hr4
    refine st1_step hA (by omega) hv fun w' hat' hc => hF w' ⟨by simpa using h.1, .inr ⟨g, c, _, rfl, hbg, hat', hr1, hr2, by simpa using hr3, ?_⟩⟩ (hc.mono fun x _ hx => by simp [rowS, Value.ownBlock, hx])
    rw [Nat.mul_one, ← hr4, Array.toList_setIfInBounds, List.take_set]

theorem RowI.st {w : World} {base : Nat} {p : Option Addr} {l c : Nat} {xs : List Int} {i x : Int} {F : World → Prop} (h : RowI w base p l c xs) (h0 : 0 ≤ i) (h1 : i < l)
    (hF : ∀ w', RowI w' base p l c (xs.set i.toNat x) → Chg (rowS (.slice p l c)) w w' → F w') : ixa p l i 1 fun a => st1 a (.int .u32 x) w F :=
  Row.st h h0 h1 rfl fun w' h' hc => hF w' (by unfold RowI; rw [List.map_set]; exact h') hc

theorem RowI.lenI {w : World} {base : Nat} {p : Option Addr} {l c : Nat} {xs : List Int} (h : RowI w base p l c xs) : l = xs.length := by
  have := Row.len h; simp at this; omega

theorem RowI.ix {w : World} {base : Nat} {p : Option Addr} {l c : Nat} {xs : List Int} {i : Int} {F : Addr → Prop} (h : RowI w base p l c xs) (h0 : 0 ≤ i) (h1 : i < l)
    (hF : ∀ a, w.cell? a = some (.int .u32 (g xs i.toNat)) → F a) : ixa p l i 1 F := by
  have hl := h.lenI
  have hx := get_g (xs := xs) (k := i.toNat) (by omega)
  have hg : AtI w p 23 (i.toNat * 1) [.int .u32 (g xs i.toNat)] := by
    rw [Nat.mul_one]
    refine Row.at h _ _ (fun j u hj => ?_) (by simp)
    cases j with
    | zero => simp at hj; subst hj; simp [hx]
    | succ j => simp at hj
  exact ixa_at hg h0 h1 fun a ha => hF a ha.get0

/-- In order from a on, up to b. -/
def Ordered (xs : List Int) (a b : Nat) : Prop := ∀ i j, a ≤ i → i < j → j < b → g xs i ≤ g xs j

theorem insertion_c {w : World} {base : Nat} {p : Option Addr} {l c : Nat} {xs : List Int} {a b : Nat} (h : RowI w base p l c xs) (hab : a ≤ b) (hb : b ≤ l) (hl62 : l < 4611686018427387904) :
    Cs Try.prog slices_insertionSortOrdered_uint32_n #[.slice p l c, .int .i64 a, .int .i64 b] w
      (Ret fun _ w' => ∃ ys, RowI w' base p l c ys ∧ ys.Perm xs ∧ Ordered ys a b ∧ (∀ k, k < a ∨ b ≤ k → g ys k = g xs k) ∧ Chg (rowS (.slice p l c)) w w') := by
  apply slices_insertionSortOrdered_uint32_ok
  unfold slices_insertionSortOrdered_uint32
  rw [w64 (by omega) (by omega)]
  refine lp_step (fun n s w' => ∃ ys, RowI w' base p l c ys ∧ ys.Perm xs ∧ Ordered ys a s.toNat ∧ (∀ k, k < a ∨ b ≤ k → g ys k = g xs k) ∧ Chg (rowS (.slice p l c)) w w' ∧ (a : Int) < s ∧ (s ≤ b ∨ s = a + 1) ∧ n = (b - s).toNat)
    _ ⟨xs, h, List.Perm.refl _, fun i j h1 h2 h3 => by omega, fun k _ => rfl, Chg.refl _ _, by omega, by omega, rfl⟩ ?_
  rintro n _ s w2 ⟨ys, hr, hp, ho, hk, hc, hs0, hs1, hn⟩ K hK
  refine br_if (fun hlt => ?_) (fun hge => ?_)
  · have hll := hr.lenI
    refine lp_step (fun m j w' => ∃ zs, RowI w' base p l c zs ∧ zs.Perm xs ∧ (∀ i k, a ≤ i → i < k → k < s.toNat + 1 → (k : Int) ≠ j → g zs i ≤ g zs k) ∧ (∀ k, k < a ∨ b ≤ k → g zs k = g xs k) ∧ Chg (rowS (.slice p l c)) w w' ∧ a ≤ j ∧ j ≤ s ∧ m = j.toNat)
      s.toNat ⟨ys, hr, hp, fun i k h1 h2 h3 h4 => ho i k h1 h2 (by omega), hk, hc, by omega, by omega, rfl⟩ ?_
    rintro m _ j w3 ⟨zs, hz, hzp, hzo, hzk, hzc, hj0, hj1, hm⟩ K' hK'
    have hzl := hz.lenI
    have done : (¬ (a : Int) < j ∨ g zs (j.toNat - 1) ≤ g zs j.toNat) → Ordered zs a (s.toNat + 1) := by
      intro hd i k h1 h2 h3
      by_cases hkj : (k : Int) = j
      · rcases hd with hd | hd
        · omega
        · have e : j.toNat = k := by omega
          rw [e] at hd
          by_cases hi : i = k - 1
          · rw [hi]; exact hd
          · exact Int.le_trans (hzo i (k - 1) h1 (by omega) (by omega) (by omega)) hd
      · exact hzo i k h1 h2 h3 hkj
    have out : ∀ w4, Ext w3 w4 → Ordered zs a (s.toNat + 1) → K (IntKind.wrap .i64 (s + 1)) w4 := by
      intro w4 he4 hord
      rw [w64 (by omega) (by omega)]
      refine hK (b - (s + 1)).toNat _ _ (by omega) ⟨zs, Row.ext hz he4, hzp, ?_, hzk, hzc.trans he4.any, by omega, by omega, rfl⟩
      rw [show (s + 1).toNat = s.toNat + 1 by omega]; exact hord
    refine dr_step fun w4 _ he4 => ?_
    have hz4 : RowI w4 base p l c zs := Row.ext hz he4
    refine br_if (fun hgt => ?_) (fun hle => out w4 he4 (done (.inl hle)))
    refine hz4.ix (by omega) (by omega) fun a1 ha1 => ⟨_, ha1, ?_⟩
    rw [w64 (by omega) (by omega)]
    refine hz4.ix (by omega) (by omega) fun a2 ha2 => ⟨_, ha2, ?_⟩
    have hj1' : (j - 1).toNat = j.toNat - 1 := by omega
    rw [hj1']
    refine cl_ret Less_c ?_
    rintro v w5 ⟨rfl, rfl⟩
    refine ⟨_, rfl, ?_⟩
    refine br_if (fun hless => ?_) (fun hnl => out w5 he4 (done (.inr (by omega))))
    refine dr_step fun w6 _ he6 => ?_
    have hz6 : RowI w6 base p l c zs := Row.ext hz4 he6
    refine hz6.ix (by omega) (by omega) fun a3 ha3 => ⟨_, ha3, ?_⟩
    refine hz6.ix (by omega) (by omega) fun a4 ha4 => ⟨_, ha4, ?_⟩
    refine hz6.st (by omega) (by omega) fun w7 hz7 hc7 => ?_
    refine hz7.st (by omega) (by omega) fun w8 hz8 hc8 => ?_
    have hsw : (zs.set j.toNat (g zs (j - 1).toNat)).set (j - 1).toNat (g zs j.toNat) = swp zs j.toNat (j.toNat - 1) := by rw [hj1']; rfl
    rw [hsw] at hz8
    refine hK' (j.toNat - 1) _ _ (by omega) ⟨_, hz8, (swp_perm (by omega) (by omega)).trans hzp, ?_, ?_, ((hzc.trans (Ext.any (he4.trans he6))).trans hc7).trans hc8, by omega, by omega, by omega⟩
    · intro i k h1 h2 h3 h4
      rw [swp_g (by omega) (by omega), swp_g (by omega) (by omega)]
      by_cases e1 : j.toNat - 1 = k
      · omega
      · rw [if_neg e1]
        by_cases e2 : j.toNat = k
        · rw [if_pos e2]
          by_cases e3 : j.toNat - 1 = i
          · rw [if_pos e3]; omega
          · rw [if_neg e3, if_neg (by omega)]
            exact hzo i (j.toNat - 1) h1 (by omega) (by omega) (by omega)
        · rw [if_neg e2]
          by_cases e3 : j.toNat - 1 = i
          · rw [if_pos e3]; exact hzo j.toNat k (by omega) (by omega) h3 (by omega)
          · rw [if_neg e3]
            by_cases e4 : j.toNat = i
            · rw [if_pos e4]; exact hzo (j.toNat - 1) k (by omega) (by omega) h3 (by omega)
            · rw [if_neg e4]; exact hzo i k h1 h2 h3 (by omega)
    · intro k hk'
      rw [swp_g (by omega) (by omega), if_neg (by omega), if_neg (by omega)]
      exact hzk k hk'
  · refine ⟨ys, hr, hp, ?_, hk, hc⟩
    intro i j h1 h2 h3
    exact ho i j h1 h2 (by omega)

theorem pv_index {P : Program} {t : TypeId} {s : ByteArray} {k : IntKind} {i : Int} {F : Value → Prop} (h : P.underlying t = some .string) (h0 : 0 ≤ i) (h1 : i < s.size) (hF : ∀ n : Int, F (.int .u8 n)) :
    pv P (Instr.index t (.string s) (.int k i)) F := by
  refine ⟨.int .u8 (s[i.toNat]'(by omega)).toNat, fun w => ?_, hF _⟩
  rw [run_index_string w t s k i h]
  simp [h0, h1]

set_option maxRecDepth 100000 in
theorem Len64_c {w : World} {x : Int} (h0 : 0 ≤ x) (h1 : x < 256) : Cs Try.prog math_bits_Len64_n #[.int .u64 x] w (Ret fun v w' => (∃ n, v = .int .i64 n) ∧ w' = w) := by
  apply math_bits_Len64_ok
  unfold math_bits_Len64
  refine br_if (fun h => by omega) (fun _ => ?_)
  refine br_if (fun h => by omega) (fun _ => ?_)
  refine br_if (fun h => by omega) (fun _ => ?_)
  refine pv_index (by kernel_rfl) (by rw [wu8 h0 h1]; exact h0) (by rw [wu8 h0 h1]; exact Int.lt_of_lt_of_le h1 (Int.le_of_eq (by kernel_rfl))) fun n => ⟨n, rfl, ⟨_, rfl⟩, rfl⟩

theorem Len_c {w : World} {x : Int} (h0 : 0 ≤ x) (h1 : x < 256) : Cs Try.prog math_bits_Len_n #[.int .u64 x] w (Ret fun v w' => (∃ n, v = .int .i64 n) ∧ w' = w) := by
  apply math_bits_Len_ok
  unfold math_bits_Len
  refine cl_ret (Len64_c h0 h1) ?_
  rintro v w' ⟨⟨n, rfl⟩, rfl⟩
  exact ⟨n, rfl, ⟨n, rfl⟩, rfl⟩

/-- Sorted. -/
def Srt (xs : List Int) : Prop := xs.Pairwise fun a b => a ≤ b

theorem srt_of_ordered {xs : List Int} (h : Ordered xs 0 xs.length) : Srt xs := by
  refine List.pairwise_iff_getElem.2 fun i j hi hj hij => ?_
  have := h i j (by omega) hij hj
  simpa [g, List.getD_eq_getElem?_getD, List.getElem?_eq_getElem hi, List.getElem?_eq_getElem hj] using this

theorem pdq12_c {w : World} {base : Nat} {p : Option Addr} {l c : Nat} {xs : List Int} {lim : Int} (h : RowI w base p l c xs) (hl : l ≤ 12) :
    Cs Try.prog slices_pdqsortOrdered_uint32_n #[.slice p l c, .int .i64 0, .int .i64 l, .int .i64 lim] w
      (Ret fun _ w' => ∃ ys, RowI w' base p l c ys ∧ ys.Perm xs ∧ Srt ys ∧ Chg (rowS (.slice p l c)) w w') := by
  apply slices_pdqsortOrdered_uint32_ok
  unfold slices_pdqsortOrdered_uint32
  refine lp_step (fun _ s w' => s.1 = 0 ∧ s.2.1 = l ∧ w' = w) 0 ⟨rfl, rfl, rfl⟩ ?_
  rintro n _ ⟨s1, s2, s3, s4, s5⟩ w2 ⟨rfl, rfl, rfl⟩ K hK
  rw [w64 (by simp only []; omega) (by simp only []; omega)]
  refine br_if (fun _ => ?_) (fun hge => by simp only [] at hge; omega)
  refine cl_ret (insertion_c (a := 0) (b := l) h (by omega) (by omega) (by omega)) ?_
  rintro v w' ⟨ys, hy, hp, ho, _, hc⟩
  exact ⟨ys, hy, hp, srt_of_ordered (by rw [← hy.lenI]; exact ho), hc⟩

/-- slices.Sort does its work on up to N numbers. -/
def SortOk (N : Nat) : Prop := ∀ {w : World} {base : Nat} {p : Option Addr} {l c : Nat} {xs : List Int}, RowI w base p l c xs → l ≤ N →
    Cs Try.prog slices_Sort_uint32_uint32_n #[.slice p l c] w (Ret fun _ w' => ∃ ys, RowI w' base p l c ys ∧ ys.Perm xs ∧ Srt ys ∧ Chg (rowS (.slice p l c)) w w')

theorem Sort12_c {w : World} {base : Nat} {p : Option Addr} {l c : Nat} {xs : List Int} (h : RowI w base p l c xs) (hl : l ≤ 12) :
    Cs Try.prog slices_Sort_uint32_uint32_n #[.slice p l c] w (Ret fun _ w' => ∃ ys, RowI w' base p l c ys ∧ ys.Perm xs ∧ Srt ys ∧ Chg (rowS (.slice p l c)) w w') := by
  apply slices_Sort_uint32_uint32_ok
  unfold slices_Sort_uint32_uint32
  rw [wu64 (by omega) (by omega)]
  refine cl_ret (Len_c (by omega) (by omega)) ?_
  rintro v w' ⟨⟨n, rfl⟩, rfl⟩
  refine ⟨n, rfl, ?_⟩
  refine cl_ret (pdq12_c h hl) ?_
  rintro v w' hy
  exact hy

theorem sortOk12 : SortOk 12 := fun h hl => Sort12_c h hl
end Go.SR
