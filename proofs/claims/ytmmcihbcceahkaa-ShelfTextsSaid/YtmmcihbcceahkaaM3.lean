/- Rows as lists of bytes: one and a multiple of another one. No program in sight. -/
import Derived.Test.YtmmcihbcceahkaaM2
namespace Go.SR

def vec (l : List By) : V := fun i => l.getD i 0#8
def axl (y x : List By) (c : By) : List By := List.zipWith (fun a b => a ^^^ mul c b) y x

theorem axl_len {y x : List By} {c : By} (h : y.length = x.length) : (axl y x c).length = y.length := by simp [axl, h]

theorem vec_axl {y x : List By} {c : By} (h : y.length = x.length) : vec (axl y x c) = va (vec y) (vm c (vec x)) := by
  funext i
  simp only [vec, va, vm, axl, List.getD_eq_getElem?_getD, List.getElem?_zipWith]
  by_cases hi : i < y.length
  · have hi' : i < x.length := by omega
    simp [List.getElem?_eq_getElem hi, List.getElem?_eq_getElem hi']
  · rw [List.getElem?_eq_none (by omega), List.getElem?_eq_none (by omega)]
    simp [mul_zero]

theorem axl_append {y y' x x' : List By} {c : By} (h : y.length = x.length) : axl (y ++ y') (x ++ x') c = axl y x c ++ axl y' x' c := by
  simp only [axl]; exact List.zipWith_append h

theorem vec_inj {x y : List By} (hl : x.length = y.length) (h : vec x = vec y) : x = y := by
  apply List.ext_getElem? ; intro i
  have := congrFun h i
  simp only [vec, List.getD_eq_getElem?_getD] at this
  by_cases hi : i < x.length
  · have hi' : i < y.length := by omega
    simp [List.getElem?_eq_getElem hi, List.getElem?_eq_getElem hi'] at this ⊢
    exact this
  · rw [List.getElem?_eq_none (by omega), List.getElem?_eq_none (by omega)]

theorem vec_get {l : List By} {i : Nat} (h : i < l.length) : l[i]? = some (vec l i) := by
  simp [vec, List.getElem?_eq_getElem h]

theorem vec_ge {l : List By} {i : Nat} (h : l.length ≤ i) : vec l i = 0#8 := by
  simp [vec, List.getElem?_eq_none h]

theorem vec_append_lt {x y : List By} {i : Nat} (h : i < x.length) : vec (x ++ y) i = vec x i := by
  simp [vec, List.getElem?_append_left h]

theorem vec_append_ge {x y : List By} {i : Nat} : vec (x ++ y) (x.length + i) = vec y i := by
  simp [vec, List.getElem?_append_right (Nat.le_add_right _ _)]

theorem vec_zeros (n : Nat) : vec (List.replicate n 0#8) = vz := by
  funext i
  simp only [vec, vz, List.getD_eq_getElem?_getD, List.getElem?_replicate]
  split <;> rfl

/-! ### rows that came, and what says more -/

/-- Does a row say more than those that came? (The part ahead of k alone counts.) -/
def More (k : Nat) (R : List V) (v : V) : Prop := ¬ Sp (fun x => ∃ u ∈ R, x = rp k u) (rp k v)

/-- Lines with places of their own, that say what came. -/
structure Says (k : Nat) (R : List V) (P : List Nat) (X : Nat → V) : Prop where
  piv : Piv X P
  lt : ∀ p ∈ P, p < k
  len : P.length = R.length
  span : ∀ u, Sp (Of X P) u ↔ Sp (fun x => x ∈ R) u

theorem Says.nil (k : Nat) (X : Nat → V) : Says k [] [] X :=
  ⟨⟨by simp, by simp⟩, by simp, rfl, fun u => ⟨Sp.mono fun x ⟨p, hp, _⟩ => by simp at hp, Sp.mono fun x hx => by simp at hx⟩⟩

variable {k : Nat} {R : List V} {P : List Nat} {X : Nat → V}

theorem sp_rp {S T : V → Prop} (h : ∀ x, S x → T (rp k x)) {u : V} (hu : Sp S u) : Sp T (rp k u) :=
  hu.map (f := rp k) (rp_vz k) (rp_va k) (rp_vm k) fun x hx => .of (h x hx)

theorem sp_rp_inv {S T : V → Prop} (h : ∀ x, T x → ∃ y, S y ∧ x = rp k y) {u : V} (hu : Sp T u) : ∃ y, Sp S y ∧ u = rp k y := by
  induction hu with
  | zero => exact ⟨vz, .zero, (rp_vz k).symm⟩
  | step a hx _ ih =>
    obtain ⟨y, hy, rfl⟩ := h _ hx
    obtain ⟨z, hz, rfl⟩ := ih
    exact ⟨va (vm a y) z, .step a hy hz, by rw [rp_va, rp_vm]⟩

/-- What is left of a row has something ahead of k just if the row says more. -/
theorem Says.more (h : Says k R P X) (v : V) : More k R v ↔ ∃ i, i < k ∧ red X P v i ≠ 0#8 := by
  constructor
  · intro hm
    by_cases hx : ∃ i, i < k ∧ red X P v i ≠ 0#8
    · exact hx
    · exfalso; apply hm
      have h0 : rp k (red X P v) = vz := by
        funext i
        simp only [rp]
        split
        · rename_i hi
          by_cases e : red X P v i = 0#8
          · exact e
          · exact absurd ⟨i, hi, e⟩ hx
        · rfl
      have h1 := (h.span _).1 (red_self X P v)
      have h2 : rp k (va v (red X P v)) = rp k v := by rw [rp_va, h0, va_z]
      rw [← h2]
      exact sp_rp (fun x hx => ⟨x, hx, rfl⟩) h1
  · rintro ⟨i, hi, hne⟩ hsp
    obtain ⟨y, hy, he⟩ := sp_rp_inv (S := fun x => x ∈ R) (fun x ⟨u, hu, e⟩ => ⟨u, hu, e⟩) hsp
    have hy' := (h.span _).2 hy
    have h0 := h.piv.red_sp hy'
    -- v and y are alike ahead of k
    have hat : ∀ j, j < k → v j = y j := fun j hj => by
      have := congrFun he j; rwa [rp_lt hj, rp_lt hj] at this
    have hc : cmb v X P = cmb y X P := cmb_congr fun p hp => by rw [hat p (h.lt p hp)]
    apply hne
    have : red X P v i = red X P y i := by simp only [red, va, hc, hat i hi]
    rw [this, h0]; rfl

theorem Says.grow (h : Says k R P X) {v : V} {q : Nat} (hq : q < k) (hne : red X P v q ≠ 0#8) :
    q ∉ P ∧ Says k (R ++ [v]) (q :: P) (fun p => if p = q then vm (inv (red X P v q)) (red X P v) else va (X p) (vm (X p q) (vm (inv (red X P v q)) (red X P v)))) := by
  obtain ⟨hn, hp⟩ := h.piv.grow hne
  refine ⟨hn, hp, fun p hp => ?_, by simp [h.len], fun u => ?_⟩
  · rcases List.mem_cons.1 hp with rfl | hp
    · exact hq
    · exact h.lt p hp
  · rw [grow_sp hne hn u]
    constructor
    · refine Sp.mono ?_
      rintro x (hx | rfl)
      · exact ((h.span x).1 (.of hx)).mono fun y hy => .of (List.mem_append_left _ hy)
      · exact .of (by simp)
    · refine Sp.mono fun x hx => ?_
      rcases List.mem_append.1 hx with hx | hx
      · exact ((h.span x).2 (.of hx)).mono fun y hy => .of (.inl hy)
      · simp at hx; subst hx; exact .of (.inr rfl)

theorem Says.more_lt (h : Says k R P X) {v : V} (hm : More k R v) : R.length < k := by
  obtain ⟨q, hq, hne⟩ := (h.more v).1 hm
  obtain ⟨hn, h'⟩ := h.grow hq hne
  have h1 : (q :: P).length ≤ (List.range k).length := by
    have hnd := h'.piv.nd
    have hs : ∀ x ∈ q :: P, x ∈ List.range k := fun x hx => List.mem_range.2 (h'.lt x hx)
    have : ∀ {l l' : List Nat}, l.Nodup → (∀ x ∈ l, x ∈ l') → l.length ≤ l'.length := by
      intro l
      induction l with
      | nil => intros; simp
      | cons a l ih =>
        intro l' hn hs
        have ha := hs a (List.mem_cons_self ..)
        have := ih (l' := l'.erase a) (List.nodup_cons.1 hn).2 fun x hx => (List.mem_erase_of_ne (fun (e : x = a) => (List.nodup_cons.1 hn).1 (e ▸ hx))).2 (hs x (List.mem_cons_of_mem _ hx))
        rw [List.length_erase_of_mem ha] at this
        have := List.length_pos_of_mem ha
        simp; omega
    exact this hnd hs
  simp at h1
  rw [← h.len]; omega

/-- All places are taken. -/
theorem Says.full (h : Says k R P X) (hl : R.length = k) : ∀ i, i < k → i ∈ P := by
  intro i hi
  by_cases hp : i ∈ P
  · exact hp
  · exfalso
    have : ∀ {l l' : List Nat}, l.Nodup → (∀ x ∈ l, x ∈ l') → l.length ≤ l'.length := by
      intro l
      induction l with
      | nil => intros; simp
      | cons a l ih =>
        intro l' hn hs
        have ha := hs a (List.mem_cons_self ..)
        have := ih (l' := l'.erase a) (List.nodup_cons.1 hn).2 fun x hx => (List.mem_erase_of_ne (fun (e : x = a) => (List.nodup_cons.1 hn).1 (e ▸ hx))).2 (hs x (List.mem_cons_of_mem _ hx))
        rw [List.length_erase_of_mem ha] at this
        have := List.length_pos_of_mem ha
        simp; omega
    have h2 := this (l := i :: P) (l' := List.range k) (List.nodup_cons.2 ⟨hp, h.piv.nd⟩) fun x hx => by
      rcases List.mem_cons.1 hx with rfl | hx
      · exact List.mem_range.2 hi
      · exact List.mem_range.2 (h.lt x hx)
    simp [h.len] at h2; omega

/-- Two that say the same of the same places are the same. -/
theorem Says.same (h : Says k R P X) {u v : V} (hu : Sp (fun x => x ∈ R) u) (hv : Sp (fun x => x ∈ R) v) (he : ∀ i, i < k → u i = v i) : u = v :=
  h.piv.unique ((h.span u).2 hu) ((h.span v).2 hv) fun p hp => he p (h.lt p hp)
end Go.SR
