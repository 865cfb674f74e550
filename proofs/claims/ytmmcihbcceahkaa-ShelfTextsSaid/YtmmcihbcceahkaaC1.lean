/- Contracts: the small functions. -/
import Derived.Test.YtmmcihbcceahkaaB2
import Derived.Test.YtmmcihbcceahkaaN1
import Derived.Test.YtmmcihbcceahkaaH1
namespace Go.SR
open Go Go.Proofs

/-- []uint32 -/
abbrev U32s (w : World) (p : Option Addr) (l : Nat) (xs : List Int) : Prop := Ints 23 .u32 w p l xs

theorem same_c {w : World} {p q : Option Addr} {pl pc ql qc : Nat} {xs ys : List Int} (ha : U32s w p pl xs) (hb : U32s w q ql ys) :
    Cs Try.prog glaw14_same_n #[.slice p pl pc, .slice q ql qc] w (Ret fun v w' => v = .bool (decide (xs = ys)) ∧ Ext w w') := by
  apply glaw14_same_ok
  unfold glaw14_same
  have la := ha.len
  have lb := hb.len
  subst la lb
  refine br_iff.2 ⟨fun h => ⟨?_, Ext.refl w⟩, fun h => ?_⟩
  · simp at h
    have : xs ≠ ys := fun e => h (by rw [e])
    simp [this]
  have hl : xs.length = ys.length := by simp at h; omega
  refine lp_step (fun n s w' => Ext w w' ∧ 0 ≤ s ∧ n = (xs.length - s).toNat ∧ s ≤ xs.length ∧ ∀ i : Nat, (i : Int) < s → xs[i]? = ys[i]?) xs.length ⟨Ext.refl w, by omega, by omega, by omega, fun i hi => by omega⟩ ?_
  rintro n j s w2 ⟨he, h0, hn, hs, hI⟩ K hK
  refine br_if (fun hlt => ?_) (fun hge => ?_)
  · refine dr_step fun w3 _ he3 => ?_
    have he3' := he.trans he3
    refine (ha.ext he3').ix h0 hlt fun a hca => ⟨_, hca, ?_⟩
    refine (hb.ext he3').ix h0 (by omega) fun b hcb => ⟨_, hcb, ?_⟩
    have ga := gI_get h0 hlt
    have gb := gI_get (xs := ys) h0 (by omega)
    refine br_iff.2 ⟨fun hne => ⟨?_, he3'⟩, fun heq => ?_⟩
    · have : xs ≠ ys := fun e => by simp [e] at hne
      simp [this]
    · have heq' : gI xs s = gI ys s := by simpa using heq
      refine hK (n - 1) _ _ (by omega) ?_
      rw [w64 (by omega) (by have := ha.lt; omega)]
      refine ⟨he3', by omega, by omega, by omega, fun i hi => ?_⟩
      by_cases hi' : (i : Int) < s
      · exact hI i hi'
      · have : s.toNat = i := by omega
        rw [this] at ga gb
        rw [ga, gb, heq']
  · refine ⟨?_, he⟩
    have : xs = ys := List.ext_getElem? fun i => by
      by_cases hi : i < xs.length
      · exact hI i (by omega)
      · rw [List.getElem?_eq_none (by omega), List.getElem?_eq_none (by omega)]
    simp [this]

theorem in_c {w : World} {p : Option Addr} {pl pc : Nat} {xs : List Int} {x : Int} (ha : U32s w p pl xs) :
    Cs Try.prog gref12_in_n #[.slice p pl pc, .int .u32 x] w (Ret fun v w' => v = .bool (decide (x ∈ xs)) ∧ Ext w w') := by
  apply gref12_in_ok
  unfold gref12_in
  have la := ha.len
  subst la
  refine lp_step (fun n s w' => Ext w w' ∧ 0 ≤ s ∧ n = (xs.length - s).toNat ∧ s ≤ xs.length ∧ ∀ i : Nat, (i : Int) < s → xs[i]? ≠ some x) xs.length ⟨Ext.refl w, by omega, by omega, by omega, fun i hi => by omega⟩ ?_
  rintro n j s w2 ⟨he, h0, hn, hs, hI⟩ K hK
  refine br_if (fun hlt => ?_) (fun hge => ?_)
  · refine (ha.ext he).ix h0 hlt fun a hca => ⟨_, hca, ?_⟩
    have ga := gI_get h0 hlt
    refine br_iff.2 ⟨fun heq => ⟨?_, he⟩, fun hne => ?_⟩
    · have heq' : gI xs s = x := by simpa using heq
      have : x ∈ xs := by rw [← heq']; exact List.mem_of_getElem? ga
      simp [this]
    · have hne' : gI xs s ≠ x := by simpa using hne
      refine hK (n - 1) _ _ (by omega) ?_
      rw [w64 (by omega) (by have := ha.lt; omega)]
      refine ⟨he, by omega, by omega, by omega, fun i hi => ?_⟩
      by_cases hi' : (i : Int) < s
      · exact hI i hi'
      · have : s.toNat = i := by omega
        rw [this] at ga
        rw [ga]; simpa using hne'
  · refine ⟨?_, he⟩
    have : x ∉ xs := fun hm => by
      obtain ⟨i, hi⟩ := List.mem_iff_getElem?.1 hm
      obtain ⟨hil, _⟩ := List.getElem?_eq_some_iff.1 hi
      exact hI i (by omega) hi
    simp [this]

theorem Index_c {w : World} {p : Option Addr} {pl pc : Nat} {xs : List Int} {x : Int} (ha : U32s w p pl xs) :
    Cs Try.prog slices_Index_uint32_uint32_n #[.slice p pl pc, .int .u32 x] w (Ret fun v w' => (∃ n, v = .int .i64 n ∧ (0 ≤ n ↔ x ∈ xs)) ∧ Ext w w') := by
  apply slices_Index_uint32_uint32_ok
  unfold slices_Index_uint32_uint32
  have la := ha.len
  subst la
  refine lp_step (fun n s w' => Ext w w' ∧ 0 ≤ s ∧ n = (xs.length - s).toNat ∧ s ≤ xs.length ∧ ∀ i : Nat, (i : Int) < s → xs[i]? ≠ some x) xs.length ⟨Ext.refl w, by omega, by omega, by omega, fun i hi => by omega⟩ ?_
  rintro n j s w2 ⟨he, h0, hn, hs, hI⟩ K hK
  refine br_if (fun hlt => ?_) (fun hge => ?_)
  · refine (ha.ext he).ix h0 hlt fun a hca => ⟨_, hca, ?_⟩
    have ga := gI_get h0 hlt
    refine br_iff.2 ⟨fun heq => ⟨?_, he⟩, fun hne => ?_⟩
    · have heq' : x = gI xs s := by simpa using heq
      have : x ∈ xs := by rw [heq']; exact List.mem_of_getElem? ga
      exact ⟨s, rfl, by simp [this, h0]⟩
    · have hne' : x ≠ gI xs s := by simpa using hne
      refine hK (n - 1) _ _ (by omega) ?_
      rw [w64 (by omega) (by have := ha.lt; omega)]
      refine ⟨he, by omega, by omega, by omega, fun i hi => ?_⟩
      by_cases hi' : (i : Int) < s
      · exact hI i hi'
      · have : s.toNat = i := by omega
        rw [this] at ga
        rw [ga]; simpa using fun e => hne' e.symm
  · refine ⟨⟨-1, rfl, ?_⟩, he⟩
    have : x ∉ xs := fun hm => by
      obtain ⟨i, hi⟩ := List.mem_iff_getElem?.1 hm
      obtain ⟨hil, _⟩ := List.getElem?_eq_some_iff.1 hi
      exact hI i (by omega) hi
    simp [this]

theorem Contains_c {w : World} {p : Option Addr} {pl pc : Nat} {xs : List Int} {x : Int} (ha : U32s w p pl xs) :
    Cs Try.prog slices_Contains_uint32_uint32_n #[.slice p pl pc, .int .u32 x] w (Ret fun v w' => v = .bool (decide (x ∈ xs)) ∧ Ext w w') := by
  apply slices_Contains_uint32_uint32_ok
  unfold slices_Contains_uint32_uint32
  refine cl_ret (Index_c ha) ?_
  rintro v w' ⟨⟨n, rfl, hn⟩, he⟩
  refine ⟨n, rfl, ?_, he⟩
  simp [hn]

theorem isNaN_c {w : World} {x : Int} : Cs Try.prog cmp_isNaN_uint32_n #[.int .u32 x] w (Ret fun v w' => v = .bool false ∧ w' = w) := by
  apply cmp_isNaN_uint32_ok
  unfold cmp_isNaN_uint32
  exact ⟨by simp, rfl⟩

theorem Less_c {w : World} {x y : Int} : Cs Try.prog cmp_Less_uint32_n #[.int .u32 x, .int .u32 y] w (Ret fun v w' => v = .bool (decide (x < y)) ∧ w' = w) := by
  apply cmp_Less_uint32_ok
  unfold cmp_Less_uint32
  refine cl_ret isNaN_c ?_
  rintro v w' ⟨rfl, rfl⟩
  exact ⟨_, rfl, br_f ⟨rfl, rfl⟩⟩

/-! ### numbers from which choices are read -/

/-- Whole numbers that a slice that came in holds, wherever it lies. -/
def Raw (k : IntKind) (w : World) (p : Option Addr) (l : Nat) (xs : List Int) : Prop :=
  (l = xs.length ∧ xs.length < 4611686018427387904) ∧ ∀ i x, xs[i]? = some x → ∃ a, p = some a ∧ w.cell? (a.add i) = some (.int k x)

theorem Raw.len {k : IntKind} {w : World} {p : Option Addr} {l : Nat} {xs : List Int} (h : Raw k w p l xs) : l = xs.length := h.1.1
theorem Raw.lt {k : IntKind} {w : World} {p : Option Addr} {l : Nat} {xs : List Int} (h : Raw k w p l xs) : xs.length < 4611686018427387904 := h.1.2

theorem add_block (a : Addr) (i : Nat) : (a.add i).block = a.block := by unfold Addr.add; split <;> rfl

theorem Raw.chg {S : Nat → Prop} {k : IntKind} {w w' : World} {p : Option Addr} {l : Nat} {xs : List Int} (h : Raw k w p l xs) (hc : Chg S w w') (hS : ∀ a, p = some a → xs ≠ [] → ¬ S a.block) : Raw k w' p l xs :=
  ⟨h.1, fun i x hx => by
    obtain ⟨a, ha, hcell⟩ := h.2 i x hx
    exact ⟨a, ha, hc.cell hcell (by rw [add_block]; exact hS a ha (fun e => by rw [e] at hx; simp at hx))⟩⟩

theorem Raw.ext {k : IntKind} {w w' : World} {p : Option Addr} {l : Nat} {xs : List Int} (h : Raw k w p l xs) (hc : Ext w w') : Raw k w' p l xs := h.chg hc fun _ _ _ => id

theorem Raw.block {k : IntKind} {w : World} {p : Option Addr} {l : Nat} {xs : List Int} (h : Raw k w p l xs) {a : Addr} (ha : p = some a) (hx : xs ≠ []) : a.block < w.heap.size := by
  cases xs with
  | nil => exact absurd rfl hx
  | cons x xs =>
    obtain ⟨c, hc, hcell⟩ := h.2 0 x rfl
    rw [ha] at hc; cases hc
    have := World.block_lt_of_cell? w _ hcell
    rwa [add_block] at this

theorem Raw.ix {k : IntKind} {w : World} {p : Option Addr} {l : Nat} {xs : List Int} {i : Int} {F : Addr → Prop} (h : Raw k w p l xs) (h0 : 0 ≤ i) (h1 : i < xs.length)
    (hF : ∀ a, w.cell? a = some (.int k (gI xs i)) → F a) : ixa p l i 1 F := by
  obtain ⟨a, ha, hcell⟩ := h.2 _ _ (gI_get h0 h1)
  exact ⟨a, ha, h0, by rw [h.len]; exact h1, by rw [Nat.mul_one]; exact hF _ hcell⟩

/-- A Picks in block b: numbers l, n of them read; w is w0, but for b and for what is new. -/
def PkS (w0 w : World) (b : Nat) (s : Option Addr × Nat × Nat) (l : List Int) (n : Nat) : Prop :=
  (∃ cs, At w0 b cs 87) ∧ (Raw .u8 w0 s.1 s.2.1 l ∧ ∀ a, s.1 = some a → l ≠ [] → a.block ≠ b) ∧ (∀ x ∈ l, 0 ≤ x ∧ x < 256) ∧ At w b #[.slice s.1 s.2.1 s.2.2, .int .i64 n] 87 ∧ Chg (fun x => x = b) w0 w

theorem PkS.chg {w0 w : World} {b : Nat} {s : Option Addr × Nat × Nat} {l : List Int} {n : Nat} (h : PkS w0 w b s l n) : Chg (fun x => x = b) w0 w := by
  exact h.2.2.2.2

theorem PkS.step {T : Nat → Prop} {w0 w w' : World} {b : Nat} {s : Option Addr × Nat × Nat} {l : List Int} {n : Nat} (h : PkS w0 w b s l n) (hc : Chg T w w') (hT : ∀ x, T x → w0.heap.size ≤ x) : PkS w0 w' b s l n := by
  obtain ⟨⟨cs, h0⟩, hi, hx, hat, h⟩ := h
  have hb := lt_of_heap h0
  exact ⟨⟨cs, h0⟩, hi, hx, hc.keep _ _ hat fun e => by have := hT _ e; omega, h.then hc fun x hx => .inl (hT x hx)⟩

theorem PkS.ext {w0 w w' : World} {b : Nat} {s : Option Addr × Nat × Nat} {l : List Int} {n : Nat} (h : PkS w0 w b s l n) (he : Ext w w') : PkS w0 w' b s l n := h.step he fun _ h => h.elim

/-- From here on. -/
theorem PkS.here {w0 w : World} {b : Nat} {s : Option Addr × Nat × Nat} {l : List Int} {n : Nat} (h : PkS w0 w b s l n) : PkS w w b s l n := by
  obtain ⟨⟨cs, h0⟩, hi, hx, hat, h⟩ := h
  exact ⟨⟨_, hat⟩, ⟨hi.1.chg h hi.2, hi.2⟩, hx, hat, Chg.refl _ _⟩

theorem PkS.after {w0 w w' : World} {b : Nat} {s : Option Addr × Nat × Nat} {l : List Int} {n n' : Nat} (h : PkS w0 w b s l n) (h' : PkS w w' b s l n') : PkS w0 w' b s l n' :=
  ⟨h.1, h.2.1, h.2.2.1, h'.2.2.2.1, h.chg.trans h'.chg⟩

theorem Over_c {w0 w : World} {b : Nat} {s : Option Addr × Nat × Nat} {l : List Int} {n : Nat} (h : PkS w0 w b s l n) :
    Cs Try.prog gplay_Picks_Over_n #[.pointer (some ⟨b, 0, none⟩)] w (Ret fun v w' => v = .bool (decide (l.length ≤ n)) ∧ Ext w w') := by
  apply gplay_Picks_Over_ok
  unfold gplay_Picks_Over
  obtain ⟨p, pl, pc⟩ := s
  obtain ⟨_, ⟨hi, _⟩, _, hat, _⟩ := h
  refine dr_step fun w0 hh he => ?_
  have hat0 : At w0 b #[.slice p pl pc, .int .i64 n] 87 := he.keep _ _ hat id
  refine ⟨n, by rw [add_mk, hat0.cell]; rfl, p, pl, pc, by rw [hat0.cell]; rfl, ?_, he⟩
  have := hi.len
  subst this
  congr 1
  simp

/-- The next number, and how many are read then. -/
def nextN (l : List Int) (n : Nat) : Nat := if n < l.length then n + 1 else n
def pick (l : List Int) (n : Nat) (m : Int) : Int := if n < l.length then l.getD n 0 % m else 0

theorem pick_nonneg {l : List Int} {n : Nat} {m : Int} (h : 0 < m) : 0 ≤ pick l n m := by
  unfold pick; split
  · exact Int.emod_nonneg _ (by omega)
  · omega
theorem pick_lt {l : List Int} {n : Nat} {m : Int} (h : 0 < m) : pick l n m < m := by
  unfold pick; split
  · exact Int.emod_lt_of_pos _ h
  · omega

theorem Num_c {w0 w : World} {b : Nat} {s : Option Addr × Nat × Nat} {l : List Int} {n : Nat} {m : Int} (h : PkS w0 w b s l n) (hm : 0 < m) :
    Cs Try.prog gplay_Picks_Num_n #[.pointer (some ⟨b, 0, none⟩), .int .i64 m] w (Ret fun v w' => v = .int .i64 (pick l n m) ∧ PkS w0 w' b s l (nextN l n) ∧ Chg (fun x => x = b) w w') := by
  apply gplay_Picks_Num_ok
  unfold gplay_Picks_Num
  obtain ⟨p, pl, pc⟩ := s
  obtain ⟨⟨cs, h0⟩, ⟨hi, hne⟩, hb, hat, hc0⟩ := h
  simp only [] at hi hne hat
  have hd := hi.chg hc0 hne
  refine dr_step fun w1 hh he => ?_
  have hat0 : At w1 b #[.slice p pl pc, .int .i64 n] 87 := he.keep _ _ hat id
  have hlen := hi.len
  subst hlen
  refine ⟨n, by rw [add_mk, hat0.cell]; rfl, p, l.length, pc, by rw [hat0.cell]; rfl, ?_⟩
  refine br_if (fun hge => ?_) (fun hlt => ?_)
  · refine ⟨by rw [pick, if_neg (by omega)], ⟨⟨cs, h0⟩, ⟨hi, hne⟩, hb, ?_, hc0.trans he.any⟩, he.any⟩
    rw [nextN, if_neg (by omega)]; exact hat0
  · have hln : n < l.length := by omega
    have hsz := hi.lt
    refine ⟨n, by rw [add_mk, hat0.cell]; rfl, ?_⟩
    refine nc_s ?_
    refine st1_at (i := 1) hat0 rfl (by simp) rfl fun w2 hat1 hc1 => ?_
    refine dr_step fun w3 hh2 he2 => ?_
    have hc2 : Chg (fun x => x = b) w w3 := (he.any.trans hc1).trans he2.any
    have hat2 : At w3 b #[.slice p l.length pc, .int .i64 (n + 1)] 87 := by
      have := he2.keep _ _ hat1 id
      rw [w64 (by omega) (by omega)] at this
      exact this
    have hi2 := hd.chg hc2 hne
    refine ⟨p, l.length, pc, by rw [hat2.cell]; rfl, n + 1, by rw [add_mk, hat2.cell]; rfl, ?_⟩
    rw [w64 (by omega) (by omega), show (n : Int) + 1 - 1 = n from by omega]
    refine hi2.ix (by omega) (by omega) fun a ha => ⟨_, ha, by omega, ?_, ⟨⟨cs, h0⟩, ⟨hi, hne⟩, hb, ?_, hc0.trans hc2⟩, hc2⟩
    · have hg := gI_get (xs := l) (i := n) (by omega) (by omega)
      have hm' := hb _ (List.mem_of_getElem? hg)
      rw [w64 (by omega) (by omega), Int.tmod_eq_emod_of_nonneg hm'.1]
      simp [pick, hln, gI]
    · rw [nextN, if_pos hln]; exact hat2
end Go.SR
