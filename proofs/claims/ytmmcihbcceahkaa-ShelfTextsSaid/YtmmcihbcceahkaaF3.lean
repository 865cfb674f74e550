/- Contracts: slices.Clone, Grow, Concat, IndexFunc over bytes. -/
import Derived.Test.YtmmcihbcceahkaaF2
import Derived.Lib.AppendZeros
namespace Go.SR
open Go Go.Proofs

theorem und3 : Try.prog.underlying 3 = some (.int .i64) := by kernel_rfl
theorem und179 : Try.prog.underlying 179 = some (.slice 5) := by kernel_rfl

variable {w w' : World}

theorem cloneB_c {p : Option Addr} {l c : Nat} {bs : List By} (h : Byr w p l bs) (hs : bs.length ≤ 1000000) :
    Cs Try.prog slices_Clone_byte_byte_n #[.slice p l c] w (Ret fun v w' => ∃ q l' c', v = .slice q l' c' ∧ RowB w' w.heap.size q l' c' bs ∧ Ext w w') := by
  apply slices_Clone_byte_byte_ok
  unfold slices_Clone_byte_byte
  have hl := h.len
  refine br_iff.2 ⟨fun hn => ?_, fun hn => ?_⟩
  · have : p = none := by simpa using hn
    subst this
    have : bs = [] := by
      cases bs with
      | nil => rfl
      | cons b bs => obtain ⟨a, ha, _⟩ := h.2 0 b rfl; cases ha
    subst this
    exact ⟨none, 0, 0, rfl, Row.nil, Ext.refl _⟩
  · refine al_step fun m0 w1 hat1 he1 hb1 => ?_
    refine append_byr und22 inf5 (base := w.heap.size) (bs := []) (Row.empty hat1 hb1) (h.ext he1) (by omega) he1.size fun p2 c2 w2 hr2 hc2 => ?_
    refine ⟨_, _, _, rfl, _, _, _, rfl, hr2, Ext.then he1 hc2 fun b hb => by simp [rowS, Value.ownBlock] at hb; omega⟩

theorem cloneL_c {p : Option Addr} {l c : Nat} {bs : List By} (h : Byr w p l bs) (hs : bs.length ≤ 1000000) :
    Cs Try.prog slices_Clone_basis_line_byte_n #[.slice p l c] w (Ret fun v w' => ∃ q l' c', v = .slice q l' c' ∧ RowB w' w.heap.size q l' c' bs ∧ Ext w w') := by
  apply slices_Clone_basis_line_byte_ok
  unfold slices_Clone_basis_line_byte
  have hl := h.len
  refine br_iff.2 ⟨fun hn => ?_, fun hn => ?_⟩
  · have : p = none := by simpa using hn
    subst this
    have : bs = [] := by
      cases bs with
      | nil => rfl
      | cons b bs => obtain ⟨a, ha, _⟩ := h.2 0 b rfl; cases ha
    subst this
    exact ⟨none, 0, 0, rfl, Row.nil, Ext.refl _⟩
  · refine al_step fun m0 w1 hat1 he1 hb1 => ?_
    refine append_byr und179 inf5 (base := w.heap.size) (bs := []) (Row.empty hat1 hb1) (h.ext he1) (by omega) he1.size fun p2 c2 w2 hr2 hc2 => ?_
    refine ⟨_, _, _, rfl, _, _, _, rfl, hr2, Ext.then he1 hc2 fun b hb => by simp [rowS, Value.ownBlock] at hb; omega⟩

/-- A slice of slices of bytes. -/
def Lls (w : World) (p : Option Addr) (l : Nat) (ls : List (List By)) : Prop :=
  l = ls.length ∧ ∀ i bs, ls[i]? = some bs → ∃ a q ql qc, p = some a ∧ w.cell? (a.add i) = some (.slice q ql qc) ∧ ql ≤ qc ∧ Byr w q ql bs

theorem Lls.sty {p : Option Addr} {l : Nat} {ls : List (List By)} (h : Lls w p l ls) (hs : Sty w w') : Lls w' p l ls :=
  ⟨h.1, fun i bs hb => by obtain ⟨a, q, ql, qc, ha, hc, hl, hr⟩ := h.2 i bs hb; exact ⟨a, q, ql, qc, ha, hs _ _ hc, hl, hr.sty hs⟩⟩
theorem Lls.ext {p : Option Addr} {l : Nat} {ls : List (List By)} (h : Lls w p l ls) (he : Ext w w') : Lls w' p l ls := h.sty he.sty

theorem Lls.ix {p : Option Addr} {l : Nat} {ls : List (List By)} {i : Int} {F : Addr → Prop} (h : Lls w p l ls) (h0 : 0 ≤ i) (h1 : i < ls.length)
    (hF : ∀ a q ql qc, w.cell? a = some (.slice q ql qc) → ql ≤ qc → Byr w q ql (ls.getD i.toNat []) → F a) : ixa p l i 1 F := by
  have hi : i.toNat < ls.length := by omega
  obtain ⟨a, q, ql, qc, ha, hc, hl, hr⟩ := h.2 i.toNat _ (List.getElem?_eq_getElem hi)
  refine ⟨a, ha, h0, by rw [h.1]; exact h1, hF _ q ql qc (by rw [Nat.mul_one]; exact hc) hl ?_⟩
  rw [List.getD_eq_getElem?_getD, List.getElem?_eq_getElem hi]; exact hr

/-- append(nil, make([]byte, n)...) -/
theorem zeros_step {F : Value → World → Prop} {n : Nat} (h0 : 0 < n) (hn : n ≤ 10000000)
    (hF : ∀ b cap w', n ≤ cap → (∃ cur, At w' b cur 5 ∧ cur.size = cap) → cap ≤ maxLen → Ext w w' → w.heap.size ≤ b → F (.slice (some ⟨b, 0, none⟩) n cap) w') :
    rnV Try.prog (Builtin.append_ #[22, 3] 22 #[.slice none 0 0, .int .i64 n]) w F := by
  obtain ⟨i, hi, hz, hs, hb⟩ := info_parts inf5
  have hrun := Lib.run_append_nil_zeros (P := Try.prog) w 22 3 22 5 i (.int .u8 0) .i64 .i64 und22 und3 hi hz n h0 (by rw [hs]; omega) (by omega) (by rw [hb]; omega)
  have hge := grownCap_ge w n 0 5
  have hsz : (Builtin.zeroCells (Value.cells (.int .u8 0)) n ++ Builtin.zeroCells (Value.cells (.int .u8 0)) (grownCap w n 0 5 - n)).size = grownCap w n 0 5 := by
    simp only [Array.size_append, size_zeroCells, Value.cells]
    simp
    omega
  generalize (Builtin.zeroCells (Value.cells (.int .u8 0)) n ++ Builtin.zeroCells (Value.cells (.int .u8 0)) (grownCap w n 0 5 - n)) = C at hrun hsz
  have hat : At (w.drew.alloc (.cells C 5)) w.heap.size C 5 := heap_alloc_new w.drew _
  refine ⟨_, _, hrun, hF _ _ _ hge ⟨C, hat, hsz⟩ (grownCap_le_maxLen w n 0 5 (by simp only [maxLen]; omega)) ?_ (Nat.le_refl _)⟩
  refine ⟨?_, fun b o hbo _ => ?_, rfl, rfl, rfl⟩
  · show w.heap.size ≤ (w.drew.alloc _).heap.size
    simp
  · have : (w.drew).heap[b]? = some o := hbo
    rw [heap_alloc_old w.drew _ (lt_of_heap this)]; exact this

theorem growB_c {n : Nat} (hn : n ≤ 10000000) :
    Cs Try.prog slices_Grow_byte_byte_n #[.slice none 0 0, .int .i64 n] w (Ret fun v w' => ∃ p c, v = .slice p 0 c ∧ RowB w' w.heap.size p 0 c [] ∧ Ext w w') := by
  apply slices_Grow_byte_byte_ok
  unfold slices_Grow_byte_byte
  refine jn_step (fun _ w' => w' = w) ?_ ?_
  · rintro _ _ w0 rfl
    rw [show IntKind.wrap .i64 ((0 : Nat) - (0 : Nat) : Int) = 0 by decide, w64 (by omega) (by omega)]
    refine br_if (fun h => ?_) (fun h => ?_)
    · refine pv_upto und22 siz5 (by omega) (by omega) ?_
      refine ⟨_, _, _, rfl, ?_⟩
      rw [show (n : Int) - 0 = n by omega]
      refine zeros_step (by omega) hn fun b cap w1 hc hcur hm he1 hb1 => ?_
      refine ⟨_, _, _, rfl, ?_⟩
      refine pv_upto und22 siz5 (by omega) (by omega) ?_
      refine ⟨_, _, _, rfl, _, _, rfl, ?_, he1⟩
      obtain ⟨cur, hat, hsz⟩ := hcur
      exact ⟨by simp, .inr ⟨b, cap, cur, rfl, hb1, hat, by omega, hm, by omega, by simp⟩⟩
    · exact ⟨none, 0, rfl, Row.nil, Ext.refl _⟩
  · exact br_if (fun h => by omega) (fun _ => rfl)

theorem flat_take {α : Type} {ls : List (List α)} {i : Nat} {bs : List α} (h : ls[i]? = some bs) : (ls.take (i + 1)).flatten = (ls.take i).flatten ++ bs := by
  rw [List.take_add_one, h]; simp

theorem flat_len {α : Type} {ls : List (List α)} {i : Nat} : (ls.take i).flatten.length ≤ ls.flatten.length := by
  have := List.take_append_drop i ls
  conv => rhs; rw [← this, List.flatten_append, List.length_append]
  omega

theorem concat_c {p : Option Addr} {l c : Nat} {ls : List (List By)} (h : Lls w p l ls) (hs : ls.flatten.length ≤ 1000000) (hl62 : ls.length < 1000000) :
    Cs Try.prog slices_Concat_byte_byte_n #[.slice p l c] w (Ret fun v w' => ∃ q l' c', v = .slice q l' c' ∧ RowB w' w.heap.size q l' c' ls.flatten ∧ Ext w w') := by
  apply slices_Concat_byte_byte_ok
  unfold slices_Concat_byte_byte
  have hl := h.1
  have get : ∀ i : Nat, i < ls.length → ls[i]? = some (ls.getD i []) := fun i hi => by rw [List.getD_eq_getElem?_getD, List.getElem?_eq_getElem hi]; rfl
  refine lp_step (fun m st w' => w' = w ∧ ∃ i : Nat, st.2 = i ∧ i ≤ ls.length ∧ st.1 = ((ls.take i).flatten.length : Int) ∧ m = ls.length - i) _ ⟨rfl, 0, rfl, by omega, rfl, rfl⟩ ?_
  rintro m _ ⟨sz, ii⟩ w1 ⟨rfl, i, hi, hin, hsz, hm⟩ K hK
  simp only [] at hi hsz
  subst hi hsz
  refine br_if (fun hlt => ?_) (fun hge => ?_)
  · simp only [] at hlt
    have hi' : i < ls.length := by omega
    refine h.ix (by omega) (by omega) fun a q ql qc ha hq hr => ⟨_, _, _, ha, ?_⟩
    dsimp only at hr
    rw [show ((i : Int)).toNat = i by omega] at hr
    have hql := hr.len
    have hf := flat_take (get i hi')
    have hfl := flat_len (ls := ls) (i := i + 1)
    rw [hf, List.length_append] at hfl
    dsimp only
    rw [w64 (n := ((ls.take i).flatten.length : Int) + ql) (by omega) (by omega)]
    refine br_if (fun h => by omega) (fun _ => ?_)
    rw [w64 (by omega) (by omega)]
    refine hK (ls.length - (i + 1)) _ _ (by omega) ⟨rfl, i + 1, by simp, by omega, ?_, rfl⟩
    dsimp only; rw [hf, List.length_append]; omega
  · simp only [] at hge
    have : i = ls.length := by omega
    subst this
    rw [List.take_length]
    refine cl_ret (growB_c (by omega)) ?_
    rintro v w2 ⟨p2, c2, rfl, hr2, he2⟩
    refine ⟨_, _, _, rfl, ?_⟩
    clear hK hm hin hge
    refine lp_step (fun m st w' => ∃ i : Nat, st.2 = i ∧ i ≤ ls.length ∧ RowB w' w1.heap.size st.1.1 st.1.2.1 st.1.2.2 (ls.take i).flatten ∧ Ext w1 w' ∧ m = ls.length - i) _ ⟨0, rfl, by omega, by simpa using hr2, he2, rfl⟩ ?_
    rintro m _ ⟨⟨p3, l3, c3⟩, ii⟩ w3 ⟨i, hi, hin, hr3, he3, hm⟩ K hK
    simp only [] at hi
    subst hi
    have hr3 : RowB w3 w1.heap.size p3 l3 c3 (ls.take i).flatten := hr3
    have hl3 := hr3.lenB
    refine br_if (fun hlt => ?_) (fun hge => ?_)
    · simp only [] at hlt
      have hi' : i < ls.length := by omega
      refine (h.ext he3).ix (by omega) (by omega) fun a q ql qc ha hq hr => ⟨_, _, _, ha, ?_⟩
      dsimp only at hr
      rw [show ((i : Int)).toNat = i by omega] at hr
      have hql := hr.len
      have hf := flat_take (get i hi')
      have hfl := flat_len (ls := ls) (i := i + 1)
      rw [hf, List.length_append] at hfl
      dsimp only
      refine append_byr und22 inf5 hr3 hr (by omega) he3.size fun p4 c4 w4 hr4 hc4 => ?_
      refine ⟨_, _, _, rfl, ?_⟩
      rw [w64 (by omega) (by omega)]
      refine hK (ls.length - (i + 1)) _ _ (by omega) ⟨i + 1, by simp, by omega, ?_, Ext.then he3 hc4 fun b hb => Row.base hr3 b hb, rfl⟩
      rw [hf]; exact hr4
    · simp only [] at hge
      rw [List.take_of_length_le (by omega)] at hr3
      exact ⟨p3, l3, c3, rfl, hr3, he3⟩

theorem indexFunc_c {p : Option Addr} {l c : Nat} {bs : List By} (h : Byr w p l bs) :
    Cs Try.prog slices_IndexFunc_basis_line_byte_n #[.slice p l c, .func (.func basis_Basis_Add_1_n) #[] #[]] w (Ret fun v w' => w' = w ∧ ∃ i : Int, v = .int .i64 i ∧ ((i = -1 ∧ ∀ j, j < bs.length → vec bs j = 0#8) ∨ ∃ n : Nat, i = n ∧ n < bs.length ∧ vec bs n ≠ 0#8)) := by
  apply slices_IndexFunc_basis_line_byte_ok
  unfold slices_IndexFunc_basis_line_byte
  have hl := h.len
  have hlt62 := h.lt
  refine lp_step (fun m st w' => w' = w ∧ ∃ i : Nat, st = i ∧ i ≤ bs.length ∧ (∀ j, j < i → vec bs j = 0#8) ∧ m = bs.length - i) _ ⟨rfl, 0, rfl, by omega, fun j hj => by omega, rfl⟩ ?_
  rintro m _ _ w1 ⟨rfl, i, rfl, hin, hz, hm⟩ K hK
  refine br_if (fun hlt => ?_) (fun hge => ?_)
  · refine h.ix (by omega) (by omega) fun a ha => ⟨_, ha, ?_⟩
    rw [show ((i : Int)).toNat = i by omega]
    refine ⟨_, _, _, rfl, ?_⟩
    refine cl_ret (R := fun v w' => v = .bool (decide (vec bs i ≠ 0#8)) ∧ w' = w1) ?_ ?_
    · apply basis_Basis_Add_1_ok
      unfold basis_Basis_Add_1
      refine ⟨?_, rfl⟩
      congr 1
      by_cases h0 : vec bs i = 0#8
      · simp [h0]
      · have : ((vec bs i).toNat : Int) ≠ 0 := fun h => h0 (by_zero.1 h)
        simp only [bne, h0, ne_eq, not_false_eq_true, decide_true, Bool.not_eq_true', beq_eq_false_iff_ne]
        exact this
    · rintro v w2 ⟨rfl, rfl⟩
      refine ⟨_, rfl, br_if (fun hne => ?_) (fun he => ?_)⟩
      · exact ⟨rfl, _, rfl, .inr ⟨i, rfl, by omega, hne⟩⟩
      · have he' : vec bs i = 0#8 := Decidable.not_not.1 he
        rw [w64 (by omega) (by omega)]
        refine hK (bs.length - (i + 1)) _ _ (by omega) ⟨rfl, i + 1, by simp, by omega, fun j hj => ?_, rfl⟩
        by_cases e : j = i
        · subst e; exact he'
        · exact hz j (by omega)
  · have : i = bs.length := by omega
    subst this
    exact ⟨rfl, -1, rfl, .inl ⟨rfl, hz⟩⟩
end Go.SR
