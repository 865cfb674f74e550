/- Rows over the field of 256 bytes: spans, rows that say more. No program in sight. -/
import Derived.Test.YtmmcihbcceahkaaM1
namespace Go.SR

abbrev V := Nat → By
def va (u v : V) : V := fun i => u i ^^^ v i
def vm (a : By) (v : V) : V := fun i => mul a (v i)
def vz : V := fun _ => 0#8

theorem va_z (u : V) : va u vz = u := by funext i; simp [va, vz]
theorem va_zl (u : V) : va vz u = u := by funext i; simp [va, vz]
theorem va_self (u : V) : va u u = vz := by funext i; simp [va, vz]
theorem va_comm (u v : V) : va u v = va v u := by funext i; simp [va, BitVec.xor_comm]
theorem va_assoc (u v x : V) : va (va u v) x = va u (va v x) := by funext i; simp [va, BitVec.xor_assoc]
theorem va_lc (u v x : V) : va u (va v x) = va v (va u x) := by rw [← va_assoc, va_comm u v, va_assoc]
theorem va_can (u v : V) : va u (va u v) = v := by rw [← va_assoc, va_self, va_zl]
theorem vm_z (a : By) : vm a vz = vz := by funext i; exact mul_zero a
theorem vm_0 (u : V) : vm 0#8 u = vz := by funext i; exact zero_mul _
theorem vm_1 (u : V) : vm 1#8 u = u := by funext i; exact one_mul _
theorem vm_va (a : By) (u v : V) : vm a (va u v) = va (vm a u) (vm a v) := by funext i; exact mul_xor _ _ _
theorem vm_xor (a b : By) (u : V) : vm (a ^^^ b) u = va (vm a u) (vm b u) := by funext i; exact xor_mul _ _ _
theorem vm_vm (a b : By) (u : V) : vm a (vm b u) = vm (mul a b) u := by funext i; exact (mul_assoc _ _ _).symm
theorem va_eq {u v : V} (h : va u v = vz) : u = v := by rw [← va_can v u, va_comm v u, h, va_z]

/-- What some rows span. -/
inductive Sp (S : V → Prop) : V → Prop
  | zero : Sp S vz
  | step (a : By) {x v : V} : S x → Sp S v → Sp S (va (vm a x) v)

theorem Sp.of {S : V → Prop} {x : V} (h : S x) : Sp S x := by
  have := Sp.step 1#8 h Sp.zero
  rwa [vm_1, va_z] at this
theorem Sp.add {S : V → Prop} {u v : V} (hu : Sp S u) (hv : Sp S v) : Sp S (va u v) := by
  induction hu with
  | zero => rwa [va_zl]
  | step a hx _ ih => rw [va_assoc]; exact .step a hx ih
theorem Sp.mul {S : V → Prop} {u : V} (b : By) (hu : Sp S u) : Sp S (vm b u) := by
  induction hu with
  | zero => rw [vm_z]; exact .zero
  | step a hx _ ih => rw [vm_va, vm_vm]; exact .step _ hx ih
theorem Sp.mono {S T : V → Prop} {u : V} (h : ∀ x, S x → Sp T x) (hu : Sp S u) : Sp T u := by
  induction hu with
  | zero => exact .zero
  | step a hx _ ih => exact ((h _ hx).mul a).add ih
/-- A property that is kept by sums and multiples. -/
theorem Sp.all {S : V → Prop} {Q : V → Prop} (h0 : Q vz) (ha : ∀ u v, Q u → Q v → Q (va u v)) (hm : ∀ a u, Q u → Q (vm a u)) (h : ∀ x, S x → Q x) {u : V} (hu : Sp S u) : Q u := by
  induction hu with
  | zero => exact h0
  | step a hx _ ih => exact ha _ _ (hm _ _ (h _ hx)) ih
theorem Sp.map {S T : V → Prop} {f : V → V} (h0 : f vz = vz) (ha : ∀ u v, f (va u v) = va (f u) (f v)) (hm : ∀ a u, f (vm a u) = vm a (f u)) (h : ∀ x, S x → Sp T (f x)) {u : V} (hu : Sp S u) : Sp T (f u) := by
  induction hu with
  | zero => rw [h0]; exact .zero
  | step a hx _ ih => rw [ha, hm]; exact ((h _ hx).mul a).add ih

/-- The part ahead of k. -/
def rp (k : Nat) (v : V) : V := fun i => if i < k then v i else 0#8
theorem rp_va (k : Nat) (u v : V) : rp k (va u v) = va (rp k u) (rp k v) := by funext i; simp only [rp, va]; split <;> simp
theorem rp_vm (k : Nat) (a : By) (v : V) : rp k (vm a v) = vm a (rp k v) := by funext i; simp only [rp, vm]; split <;> simp [mul_zero]
theorem rp_vz (k : Nat) : rp k vz = vz := by funext i; simp [rp, vz]
theorem rp_lt {k i : Nat} (h : i < k) (v : V) : rp k v i = v i := by simp [rp, h]

/-! ### sums over places -/

def cmb (c : V) (R : Nat → V) : List Nat → V
  | [] => vz
  | i :: l => va (vm (c i) (R i)) (cmb c R l)

theorem cmb_va (c d : V) (R : Nat → V) (l : List Nat) : cmb (va c d) R l = va (cmb c R l) (cmb d R l) := by
  induction l with
  | nil => simp [cmb, va_z]
  | cons i l ih =>
    simp only [cmb, ih]
    rw [show va c d i = c i ^^^ d i from rfl, vm_xor, va_assoc, va_assoc, va_lc (vm (d i) (R i))]
theorem cmb_vm (a : By) (c : V) (R : Nat → V) (l : List Nat) : cmb (vm a c) R l = vm a (cmb c R l) := by
  induction l with
  | nil => simp [cmb, vm_z]
  | cons i l ih => simp only [cmb, ih, vm_va, vm_vm]; rfl
theorem cmb_vz (R : Nat → V) (l : List Nat) : cmb vz R l = vz := by
  induction l with
  | nil => rfl
  | cons i l ih => simp only [cmb, ih, va_z]; exact vm_0 _
theorem cmb_sp {c : V} {R : Nat → V} {l : List Nat} {S : V → Prop} (h : ∀ i ∈ l, S (R i)) : Sp S (cmb c R l) := by
  induction l with
  | nil => exact .zero
  | cons i l ih => exact .step _ (h i (List.mem_cons_self ..)) (ih fun j hj => h j (List.mem_cons_of_mem _ hj))
theorem cmb_rp (k : Nat) (c : V) (R : Nat → V) (l : List Nat) : cmb c (fun i => rp k (R i)) l = rp k (cmb c R l) := by
  induction l with
  | nil => exact (rp_vz k).symm
  | cons i l ih => simp only [cmb, ih, rp_va, rp_vm]
theorem cmb_congr {c d : V} {R Q : Nat → V} {l : List Nat} (h : ∀ i ∈ l, vm (c i) (R i) = vm (d i) (Q i)) : cmb c R l = cmb d Q l := by
  induction l with
  | nil => rfl
  | cons i l ih => simp only [cmb, h i (List.mem_cons_self ..), ih fun j hj => h j (List.mem_cons_of_mem _ hj)]

/-- A 1 at one place. -/
def e1 (i : Nat) : V := fun j => if i = j then 1#8 else 0#8
theorem cmb_none (i : Nat) (R : Nat → V) (l : List Nat) (h : i ∉ l) : cmb (e1 i) R l = vz := by
  induction l with
  | nil => rfl
  | cons j l ih =>
    simp only [List.mem_cons, not_or] at h
    simp only [cmb, ih h.2, va_z, e1]
    rw [if_neg h.1]; exact vm_0 _
theorem cmb_one (i : Nat) (R : Nat → V) (l : List Nat) (hn : l.Nodup) (h : i ∈ l) : cmb (e1 i) R l = R i := by
  induction l with
  | nil => simp at h
  | cons j l ih =>
    simp only [List.nodup_cons] at hn
    simp only [cmb]
    rcases List.mem_cons.1 h with rfl | h
    · rw [cmb_none i R l hn.1, va_z]
      simp only [e1, if_true]; exact vm_1 _
    · have : i ≠ j := fun e => hn.1 (e ▸ h)
      rw [ih hn.2 h]
      simp only [e1, if_neg this]
      rw [vm_0, va_zl]

def up {α : Type} (f : Nat → α) (i : Nat) (x : α) : Nat → α := fun j => if j = i then x else f j
theorem up_same {α : Type} (f : Nat → α) (i : Nat) (x : α) : up f i x i = x := by simp [up]
theorem up_ne {α : Type} (f : Nat → α) {i j : Nat} (x : α) (h : j ≠ i) : up f i x j = f j := by simp [up, h]

theorem cmb_upC (c : V) (R : Nat → V) (l : List Nat) (hn : l.Nodup) (i : Nat) (hi : i ∈ l) (a : By) : cmb (up c i a) R l = va (cmb c R l) (vm (c i ^^^ a) (R i)) := by
  have : up c i a = va c (vm (c i ^^^ a) (e1 i)) := by
    funext j
    simp only [up, va, vm, e1]
    by_cases h : j = i
    · subst h
      simp only [if_true, mul_one]
      rw [← BitVec.xor_assoc, BitVec.xor_self, BitVec.zero_xor]
    · rw [if_neg h, if_neg (fun e => h e.symm), mul_zero, BitVec.xor_zero]
  rw [this, cmb_va, cmb_vm, cmb_one i R l hn hi]

theorem cmb_upR_none (c : V) (R : Nat → V) (l : List Nat) (i : Nat) (hi : i ∉ l) (x : V) : cmb c (up R i x) l = cmb c R l :=
  cmb_congr fun j hj => by rw [up_ne]; rintro rfl; exact hi hj

theorem cmb_upR (c : V) (R : Nat → V) (l : List Nat) (hn : l.Nodup) (i : Nat) (hi : i ∈ l) (x : V) : cmb c (up R i x) l = va (cmb c R l) (vm (c i) (va (R i) x)) := by
  induction l with
  | nil => simp at hi
  | cons j l ih =>
    simp only [List.nodup_cons] at hn
    simp only [cmb]
    rcases List.mem_cons.1 hi with rfl | h
    · rw [cmb_upR_none c R l i hn.1, up_same, vm_va, va_assoc, va_comm (cmb c R l), va_assoc, va_can, va_comm]
    · have : j ≠ i := fun e => hn.1 (e ▸ h)
      rw [ih hn.2 h, up_ne _ _ this, va_assoc]

/-! ### rows none of which hangs on the others -/

def Ind (R : Nat → V) (l : List Nat) : Prop := ∀ c, cmb c R l = vz → ∀ i ∈ l, c i = 0#8

theorem Ind.add {R : Nat → V} {l : List Nat} (hn : l.Nodup) {i n : Nat} (hi : i ∈ l) (hk : n ∈ l) (hne : i ≠ n) (a : By) (h : Ind R l) : Ind (up R i (va (R i) (vm a (R n)))) l := by
  intro c hc
  rw [cmb_upR c R l hn i hi, va_can, vm_vm] at hc
  have h1 := cmb_upC c R l hn n hk (c n ^^^ SR.mul (c i) a)
  rw [← BitVec.xor_assoc, BitVec.xor_self, BitVec.zero_xor, hc] at h1
  have h2 := h _ h1
  have h3 : c i = 0#8 := by have := h2 i hi; rwa [up_ne _ _ hne] at this
  intro j hj
  by_cases e : j = n
  · subst e
    have := h2 j hj
    rwa [up_same, h3, zero_mul, BitVec.xor_zero] at this
  · have := h2 j hj
    rwa [up_ne _ _ e] at this

theorem Ind.mul {R : Nat → V} {l : List Nat} (hn : l.Nodup) {n : Nat} (hk : n ∈ l) {a : By} (ha : a ≠ 0#8) (h : Ind R l) : Ind (up R n (vm a (R n))) l := by
  intro c hc
  have h1 := cmb_upC c R l hn n hk (SR.mul (c n) a)
  have h0 := cmb_upR c R l hn n hk (vm a (R n))
  rw [hc, vm_va, vm_vm, ← vm_xor] at h0
  rw [← h0] at h1
  have h2 := h _ h1
  intro j hj
  by_cases e : j = n
  · subst e
    have := h2 j hj
    rw [up_same] at this
    by_cases e : c j = 0#8
    · exact e
    · exact absurd this (mul_ne e ha)
  · have := h2 j hj
    rwa [up_ne _ _ e] at this

theorem up_up_eq {α : Type} (f : Nat → α) (i : Nat) : up f i (f i) = f := by funext j; simp only [up]; split <;> simp_all
theorem up_up {α : Type} (f : Nat → α) (i : Nat) (x y : α) : up (up f i x) i y = up f i y := by funext j; simp only [up]; split <;> simp_all

theorem Ind.add_iff {R : Nat → V} {l : List Nat} (hn : l.Nodup) {i n : Nat} (hi : i ∈ l) (hk : n ∈ l) (hne : i ≠ n) (a : By) : Ind (up R i (va (R i) (vm a (R n)))) l ↔ Ind R l := by
  refine ⟨fun h => ?_, .add hn hi hk hne a⟩
  have := h.add hn hi hk hne a
  rw [up_up, up_same, up_ne _ _ hne.symm, va_assoc, va_self, va_z, up_up_eq] at this
  exact this

theorem Ind.mul_iff {R : Nat → V} {l : List Nat} (hn : l.Nodup) {n : Nat} (hk : n ∈ l) {a : By} (ha : a ≠ 0#8) : Ind (up R n (vm a (R n))) l ↔ Ind R l := by
  refine ⟨fun h => ?_, .mul hn hk ha⟩
  have := h.mul hn hk (inv_ne a)
  rw [up_up, up_same, vm_vm, inv_mul ha, vm_1, up_up_eq] at this
  exact this

/-- Two rows change places. -/
def sw {α : Type} (f : Nat → α) (i j : Nat) : Nat → α := up (up f i (f j)) j (f i)

theorem Ind.sw {R : Nat → V} {l : List Nat} (hn : l.Nodup) {i j : Nat} (hi : i ∈ l) (hj : j ∈ l) : Ind (sw R i j) l ↔ Ind R l := by
  by_cases e : i = j
  · subst e; unfold SR.sw; rw [up_up, up_up_eq]
  · -- three sums
    have h1 := Ind.add_iff (R := R) hn hi hj e 1#8
    have h2 := Ind.add_iff (R := up R i (va (R i) (vm 1#8 (R j)))) hn hj hi (fun h => e h.symm) 1#8
    have h3 := Ind.add_iff (R := up (up R i (va (R i) (vm 1#8 (R j)))) j (va (up R i (va (R i) (vm 1#8 (R j))) j) (vm 1#8 (up R i (va (R i) (vm 1#8 (R j))) i)))) hn hi hj e 1#8
    rw [← h1, ← h2, ← h3]
    have : SR.sw R i j = up (up (up R i (va (R i) (vm 1#8 (R j)))) j (va (up R i (va (R i) (vm 1#8 (R j))) j) (vm 1#8 (up R i (va (R i) (vm 1#8 (R j))) i)))) i
        (va (up (up R i (va (R i) (vm 1#8 (R j)))) j (va (up R i (va (R i) (vm 1#8 (R j))) j) (vm 1#8 (up R i (va (R i) (vm 1#8 (R j))) i))) i) (vm 1#8 (up (up R i (va (R i) (vm 1#8 (R j)))) j (va (up R i (va (R i) (vm 1#8 (R j))) j) (vm 1#8 (up R i (va (R i) (vm 1#8 (R j))) i))) j))) := by
      funext m
      simp only [SR.sw, vm_1]
      rw [up_same, up_same]
      have hne : j ≠ i := fun h => e h.symm
      simp only [up_ne _ _ hne]
      rw [va_lc (R j) (R i) (R j), va_self, va_z, up_ne _ _ e, up_same, va_assoc, va_comm (R j), va_can]
      by_cases hm : m = j
      · subst hm; rw [up_same, up_ne _ _ hne, up_same]
      · rw [up_ne _ _ hm]
        by_cases hm' : m = i
        · subst hm'; rw [up_same, up_same]
        · rw [up_ne _ _ hm', up_ne _ _ hm', up_ne _ _ hm, up_ne _ _ hm']
    rw [this]

theorem range_nodup (m : Nat) : (List.range m).Nodup := List.nodup_range

theorem cmb_append (c : V) (R : Nat → V) (l l' : List Nat) : cmb c R (l ++ l') = va (cmb c R l) (cmb c R l') := by
  induction l with
  | nil => simp [cmb, va_zl]
  | cons i l ih => simp only [List.cons_append, cmb, ih, va_assoc]

/-- What the first m rows span. -/
def Fst (R : Nat → V) (m : Nat) : V → Prop := fun x => ∃ i, i < m ∧ x = R i

theorem sp_cmb {R : Nat → V} {m : Nat} {v : V} (h : Sp (Fst R m) v) : ∃ c, v = cmb c R (List.range m) := by
  induction h with
  | zero => exact ⟨vz, (cmb_vz _ _).symm⟩
  | step a hx _ ih =>
    obtain ⟨i, hi, rfl⟩ := hx
    obtain ⟨c, rfl⟩ := ih
    refine ⟨up c i (c i ^^^ a), ?_⟩
    rw [cmb_upC c R _ (range_nodup m) i (List.mem_range.2 hi), ← BitVec.xor_assoc, BitVec.xor_self, BitVec.zero_xor, va_comm]

theorem Ind.succ {R : Nat → V} {m : Nat} : Ind R (List.range (m + 1)) ↔ Ind R (List.range m) ∧ ¬ Sp (Fst R m) (R m) := by
  have hs : ∀ c, cmb c R (List.range (m + 1)) = va (cmb c R (List.range m)) (vm (c m) (R m)) := fun c => by
    rw [List.range_succ, cmb_append]; simp only [cmb, va_z]
  have hc : ∀ c d, (∀ i, i < m → c i = d i) → cmb c R (List.range m) = cmb d R (List.range m) := fun c d h => cmb_congr fun i hi => by rw [h i (List.mem_range.1 hi)]
  constructor
  · intro h
    refine ⟨fun c hc0 i hi => ?_, fun hsp => ?_⟩
    · have h1 := h (up c m 0#8) (by rw [hs, hc _ c fun i hi => up_ne _ _ (by omega), hc0, up_same, vm_0, va_z]) i (List.mem_range.2 (by have := List.mem_range.1 hi; omega))
      rwa [up_ne _ _ (by have := List.mem_range.1 hi; omega)] at h1
    · obtain ⟨c, hv⟩ := sp_cmb hsp
      have h1 := h (up c m 1#8) (by rw [hs, hc _ c fun i hi => up_ne _ _ (by omega), up_same, vm_1, ← hv, va_self]) m (List.mem_range.2 (by omega))
      rw [up_same] at h1
      exact absurd h1 (by decide)
  · rintro ⟨h1, h2⟩ c hc0
    rw [hs] at hc0
    have hcm : c m = 0#8 := by
      by_cases e : c m = 0#8
      · exact e
      · exfalso
        apply h2
        have h3 : R m = cmb (vm (inv (c m)) c) R (List.range m) := by
          rw [cmb_vm, va_eq hc0, vm_vm, inv_mul e, vm_1]
        rw [h3]
        exact cmb_sp fun i hi => ⟨i, List.mem_range.1 hi, rfl⟩
    rw [hcm, vm_0, va_z] at hc0
    intro i hi
    have := List.mem_range.1 hi
    by_cases e : i = m
    · rw [e]; exact hcm
    · exact h1 c hc0 i (List.mem_range.2 (by omega))

/-- Rows with places of their own hang on no others. -/
theorem Ind.piv {R : Nat → V} {m : Nat} (q : Nat → Nat) (h : ∀ i j, i < m → j < m → R i (q j) = if i = j then 1#8 else 0#8) : Ind R (List.range m) := by
  intro c hc j hj
  have hj' := List.mem_range.1 hj
  have : ∀ l : List Nat, (∀ i ∈ l, i < m) → l.Nodup → cmb c R l (q j) = if j ∈ l then c j else 0#8 := by
    intro l
    induction l with
    | nil => intros; rfl
    | cons i l ih =>
      intro hl hn
      have hi := hl i (List.mem_cons_self ..)
      have ih' := ih (fun k hk => hl k (List.mem_cons_of_mem _ hk)) (List.nodup_cons.1 hn).2
      simp only [cmb, va, vm, ih', h i j hi hj', List.mem_cons]
      by_cases e : i = j
      · subst e
        simp [mul_one, (List.nodup_cons.1 hn).1]
      · have e' : ¬ j = i := fun h => e h.symm
        simp [e, e', mul_zero]
  have h1 := this (List.range m) (fun i hi => List.mem_range.1 hi) (range_nodup m)
  rw [hc, if_pos hj] at h1
  exact h1.symm

/-- A row of noughts hangs on the others. -/
theorem Ind.no_zero {R : Nat → V} {m i : Nat} (hi : i < m) (h : R i = vz) : ¬ Ind R (List.range m) := by
  intro hI
  have h1 := hI (e1 i) (by rw [cmb_one i R _ (range_nodup m) (List.mem_range.2 hi)]; exact h) i (List.mem_range.2 hi)
  simp [e1] at h1

/-! ### rows with places of their own -/

/-- What is left of a row. -/
def red (X : Nat → V) (P : List Nat) (u : V) : V := va u (cmb u X P)

structure Piv (X : Nat → V) (P : List Nat) : Prop where
  nd : P.Nodup
  one : ∀ p ∈ P, ∀ q ∈ P, X p q = if p = q then 1#8 else 0#8

def Of (X : Nat → V) (P : List Nat) : V → Prop := fun x => ∃ p ∈ P, x = X p

theorem red_vz (X : Nat → V) (P : List Nat) : red X P vz = vz := by rw [red, cmb_vz, va_z]
theorem red_va (X : Nat → V) (P : List Nat) (u v : V) : red X P (va u v) = va (red X P u) (red X P v) := by
  simp only [red, cmb_va, va_assoc]; rw [va_lc v]
theorem red_vm (X : Nat → V) (P : List Nat) (a : By) (u : V) : red X P (vm a u) = vm a (red X P u) := by
  simp only [red, cmb_vm, vm_va]

variable {X : Nat → V} {P : List Nat}

theorem Piv.cmb_at (h : Piv X P) (c : V) : ∀ {l : List Nat}, l.Nodup → (∀ i ∈ l, i ∈ P) → ∀ q ∈ P, cmb c X l q = if q ∈ l then c q else 0#8
  | [], _, _, q, _ => rfl
  | i :: l, hn, hl, q, hq => by
    have ih := h.cmb_at c (List.nodup_cons.1 hn).2 (fun j hj => hl j (List.mem_cons_of_mem _ hj)) q hq
    simp only [cmb, va, vm, ih, h.one i (hl i (List.mem_cons_self ..)) q hq, List.mem_cons]
    by_cases e : i = q
    · subst e; simp [mul_one, (List.nodup_cons.1 hn).1]
    · have e' : ¬ q = i := fun h => e h.symm
      simp [e, e', mul_zero]

theorem Piv.red_at (h : Piv X P) (u : V) {q : Nat} (hq : q ∈ P) : red X P u q = 0#8 := by
  simp only [red, va, h.cmb_at u h.nd (fun _ hi => hi) q hq, if_pos hq, BitVec.xor_self]

theorem Piv.red_of (h : Piv X P) {p : Nat} (hp : p ∈ P) : red X P (X p) = vz := by
  have : cmb (X p) X P = X p := by
    have h1 : cmb (X p) X P = cmb (e1 p) X P := cmb_congr fun i hi => by rw [h.one p hp i hi]; rfl
    rw [h1, cmb_one p X P h.nd hp]
  rw [red, this, va_self]

theorem Piv.red_sp (h : Piv X P) {u : V} (hu : Sp (Of X P) u) : red X P u = vz :=
  hu.all (Q := fun u => red X P u = vz) (red_vz _ _) (fun u v h1 h2 => by rw [red_va, h1, h2, va_z]) (fun a u h1 => by rw [red_vm, h1, vm_z]) (by rintro x ⟨p, hp, rfl⟩; exact h.red_of hp)

theorem red_self (X : Nat → V) (P : List Nat) (u : V) : Sp (Of X P) (va u (red X P u)) := by
  rw [red, va_can]; exact cmb_sp fun i hi => ⟨i, hi, rfl⟩

/-- A row of the span hangs on its own places alone. -/
theorem Piv.unique (h : Piv X P) {u v : V} (hu : Sp (Of X P) u) (hv : Sp (Of X P) v) (he : ∀ p ∈ P, u p = v p) : u = v := by
  have h1 := va_eq (h.red_sp hu)
  have h2 := va_eq (h.red_sp hv)
  rw [h1, h2]
  exact cmb_congr fun i hi => by rw [he i hi]

/-- One more row. -/
theorem Piv.grow (h : Piv X P) {v : V} {at' : Nat} (hat : red X P v at' ≠ 0#8) :
    at' ∉ P ∧ Piv (fun p => if p = at' then vm (inv (red X P v at')) (red X P v) else va (X p) (vm (X p at') (vm (inv (red X P v at')) (red X P v)))) (at' :: P) := by
  have hn : at' ∉ P := fun hm => hat (h.red_at v hm)
  have hl1 : vm (inv (red X P v at')) (red X P v) at' = 1#8 := inv_mul hat
  have hl0 : ∀ q ∈ P, vm (inv (red X P v at')) (red X P v) q = 0#8 := fun q hq => by simp only [vm, h.red_at v hq, mul_zero]
  generalize vm (inv (red X P v at')) (red X P v) = l at hl1 hl0
  refine ⟨hn, List.nodup_cons.2 ⟨hn, h.nd⟩, fun p hp q hq => ?_⟩
  rcases List.mem_cons.1 hp with rfl | hp
  · simp only [if_true]
    rcases List.mem_cons.1 hq with rfl | hq
    · simp [hl1]
    · rw [hl0 q hq, if_neg]; rintro rfl; exact hn hq
  · have hpa : p ≠ at' := fun e => hn (e ▸ hp)
    simp only [if_neg hpa, va, vm]
    rcases List.mem_cons.1 hq with rfl | hq
    · rw [hl1, mul_one, BitVec.xor_self, if_neg hpa]
    · rw [hl0 q hq, mul_zero, BitVec.xor_zero]; exact h.one p hp q hq

theorem grow_sp {v : V} {at' : Nat} (hat : red X P v at' ≠ 0#8) (hn : at' ∉ P) (u : V) :
    Sp (Of (fun p => if p = at' then vm (inv (red X P v at')) (red X P v) else va (X p) (vm (X p at') (vm (inv (red X P v at')) (red X P v)))) (at' :: P)) u ↔ Sp (fun x => Of X P x ∨ x = v) u := by
  have hl : red X P v = vm (red X P v at') (vm (inv (red X P v at')) (red X P v)) := by rw [vm_vm, mul_inv hat, vm_1]
  have hsp : Sp (fun x => Of X P x ∨ x = v) (red X P v) := by
    have h1 := (red_self X P v).mono (T := fun x => Of X P x ∨ x = v) fun x hx => .of (.inl hx)
    have h2 := (Sp.of (S := fun x => Of X P x ∨ x = v) (.inr rfl : Of X P v ∨ v = v)).add h1
    rwa [va_can] at h2
  have hsl := hsp.mul (inv (red X P v at'))
  have hrs : red X P v = va v (cmb v X P) := rfl
  generalize hr : red X P v = r at hl hsl hrs hat
  generalize vm (inv (r at')) r = l at hl hsl
  constructor
  · refine Sp.mono ?_
    rintro x ⟨p, hp, rfl⟩
    by_cases e : p = at'
    · simp only [if_pos e]; exact hsl
    · simp only [if_neg e]
      refine Sp.add (.of (.inl ⟨p, (List.mem_cons.1 hp).resolve_left e, rfl⟩)) (hsl.mul _)
  · have hL : Sp (Of (fun p => if p = at' then l else va (X p) (vm (X p at') l)) (at' :: P)) l := .of ⟨at', List.mem_cons_self .., by simp⟩
    have hX : ∀ p ∈ P, Sp (Of (fun p => if p = at' then l else va (X p) (vm (X p at') l)) (at' :: P)) (X p) := fun p hp => by
      have e : p ≠ at' := fun e => hn (e ▸ hp)
      have h1 : Sp (Of (fun p => if p = at' then l else va (X p) (vm (X p at') l)) (at' :: P)) (va (X p) (vm (X p at') l)) := .of ⟨p, List.mem_cons_of_mem _ hp, by simp [e]⟩
      have h2 := h1.add (hL.mul (X p at'))
      rwa [va_assoc, va_self, va_z] at h2
    refine Sp.mono ?_
    rintro x (⟨p, hp, rfl⟩ | rfl)
    · exact hX p hp
    · have h1 : Sp (Of (fun p => if p = at' then l else va (X p) (vm (X p at') l)) (at' :: P)) (cmb x X P) :=
        (cmb_sp (S := Of X P) fun i hi => ⟨i, hi, rfl⟩).mono fun y hy => by obtain ⟨p, hp, rfl⟩ := hy; exact hX p hp
      have h2 := (hL.mul (r at')).add h1
      rw [← hl, hrs, va_assoc, va_self, va_z] at h2
      exact h2
end Go.SR
