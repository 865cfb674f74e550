/- Who hangs on whom: what holds of frames that Frames makes; girandolelaw14.begun. -/
import Derived.Test.YtmmcihbcceahkaaC4
import Derived.Test.YtmmcihbcceahkaaC6
namespace Go.SR
open Go Go.Proofs

theorem asc_ext {xs ys : List Int} (hx : Asc xs) (hy : Asc ys) (h : ∀ y, y ∈ xs ↔ y ∈ ys) : xs = ys := by
  have nx : xs.Nodup := hx.imp fun h => by omega
  have ny : ys.Nodup := hy.imp fun h => by omega
  have hp : xs.Perm ys := (List.perm_ext_iff_of_nodup nx ny).2 h
  refine List.Perm.eq_of_pairwise (le := fun a b => a < b) (fun a b _ _ h1 h2 => by omega) hx hy hp

theorem Up.inv {fs : List Fr} {i y : Int} (h : Up fs i y) : ∃ r ∈ kr fs i, y = r ∨ Up fs r y := by
  cases h with
  | one h => exact ⟨y, h, .inl rfl⟩
  | more h h' => exact ⟨_, h, .inr h'⟩

theorem Up.iff {fs : List Fr} {i y : Int} : Up fs i y ↔ ∃ r ∈ kr fs i, y = r ∨ Up fs r y := by
  refine ⟨Up.inv, ?_⟩
  rintro ⟨r, hr, rfl | h⟩
  · exact .one hr
  · exact .more hr h

section
variable {fs : List Fr}

theorem asc_get {xs : List Int} (h : Asc xs) {i j : Nat} {x y : Int} (hi : xs[i]? = some x) (hj : xs[j]? = some y) : i < j ↔ x < y := by
  obtain ⟨hi', rfl⟩ := List.getElem?_eq_some_iff.1 hi
  obtain ⟨hj', rfl⟩ := List.getElem?_eq_some_iff.1 hj
  have hp := List.pairwise_iff_getElem.1 h
  constructor
  · exact hp i j hi' hj'
  · intro hlt
    rcases Nat.lt_trichotomy i j with h | h | h
    · exact h
    · subst h; omega
    · have := hp j i hj' hi' h; omega

theorem ids_get (hA : Asc (fs.map Fr.id)) {i j : Nat} {f g : Fr} (hi : fs[i]? = some f) (hj : fs[j]? = some g) : i < j ↔ f.id < g.id :=
  asc_get hA (by simp [hi]) (by simp [hj])

theorem ids_inj (hA : Asc (fs.map Fr.id)) {i j : Nat} {f g : Fr} (hi : fs[i]? = some f) (hj : fs[j]? = some g) (h : f.id = g.id) : i = j := by
  have h1 := ids_get hA hi hj
  have h2 := ids_get hA hj hi
  omega

theorem refsOf_get (hA : Asc (fs.map Fr.id)) {i : Nat} {f : Fr} (hi : fs[i]? = some f) : refsOf fs f.id = some f.refs := by
  induction fs generalizing i with
  | nil => simp at hi
  | cons a fs ih =>
    unfold refsOf
    cases i with
    | zero => simp at hi; subst hi; simp
    | succ i =>
      simp at hi
      have : a.id ≠ f.id := by
        have := (List.pairwise_cons.1 hA).1 f.id (List.mem_map.2 ⟨f, List.mem_of_getElem? hi, rfl⟩)
        omega
      rw [if_neg this]
      exact ih (List.pairwise_cons.1 hA).2 hi

theorem kr_get (hg : Good fs) {i : Nat} {f : Fr} (hi : fs[i]? = some f) : kr fs f.id = f.refs := by
  rw [kr, refsOf_get hg.1.1 hi]
  show f.refs.filter _ = f.refs
  rw [List.filter_eq_self]
  intro r hr
  obtain ⟨j, _, g, hgj, rfl⟩ := hg.2 i f hi r hr
  rw [refsOf_get hg.1.1 hgj]; rfl

theorem up_lt (hg : Good fs) {i y : Int} (h : Up fs i y) : y < i := by
  have one : ∀ {i r : Int}, r ∈ kr fs i → r < i := by
    intro i r hr
    have hr' := hr
    rw [kr, List.mem_filter] at hr
    have hk : i ∈ fs.map Fr.id := by
      refine refsOf_known.1 ?_
      cases h : refsOf fs i with
      | none => rw [h] at hr; simp at hr
      | some _ => rfl
    obtain ⟨f, hf, rfl⟩ := List.mem_map.1 hk
    obtain ⟨k, hk⟩ := List.mem_iff_getElem?.1 hf
    rw [kr_get hg hk] at hr'
    obtain ⟨j, hj, g, hgj, rfl⟩ := hg.2 k f hk r hr'
    exact (ids_get hg.1.1 hgj hk).1 hj
  induction h with
  | one h => exact one h
  | more h _ ih => have := one h; omega

theorem up_get (hg : Good fs) {i : Nat} {f : Fr} (hi : fs[i]? = some f) {y : Int} (h : Up fs f.id y) : ∃ k g, k < i ∧ fs[k]? = some g ∧ g.id = y := by
  obtain ⟨g, hg', rfl⟩ := List.mem_map.1 h.known
  obtain ⟨k, hk⟩ := List.mem_iff_getElem?.1 hg'
  exact ⟨k, g, (ids_get hg.1.1 hk hi).2 (up_lt hg h), hk, rfl⟩

/-- With frames as Frames makes them nobody lies above itself. -/
theorem aboveL_iff (hg : Good fs) {i : Int} {ks : List Int} (h : AboveL fs i ks) (y : Int) : y ∈ ks ↔ Up fs i y := by
  rw [h.2]
  refine ⟨fun h => h.1, fun h => ⟨h, ?_⟩⟩
  have := up_lt hg h
  omega

theorem belowL_iff (hg : Good fs) {i : Int} {ks : List Int} (h : BelowL fs i ks) (y : Int) : y ∈ ks ↔ y ∈ fs.map Fr.id ∧ Up fs y i := by
  rw [h.2]
  refine ⟨fun h => ⟨h.1, h.2.1⟩, fun h => ⟨h.1, h.2, ?_⟩⟩
  have := up_lt hg h.2
  omega
end

/-- The three frames with which the law begins. -/
def fsB : List Fr := [⟨1, 1, 0, 0, 0, []⟩, ⟨2, 2, 0, 0, 0, [1]⟩, ⟨3, 3, 0, 0, 0, [2]⟩]

theorem fsB_good : Good fsB := by
  refine ⟨⟨by simp [fsB, Asc], fun i f h => ?_⟩, fun i f h r hr => ?_⟩
  · match i with
    | 0 => cases h; simp
    | 1 => cases h; simp
    | 2 => cases h; simp
    | i + 3 => simp [fsB] at h
  · match i with
    | 0 => cases h; simp at hr
    | 1 => cases h; simp at hr; subst hr; exact ⟨0, by omega, _, rfl, rfl⟩
    | 2 => cases h; simp at hr; subst hr; exact ⟨1, by omega, _, rfl, rfl⟩
    | i + 3 => simp [fsB] at h

theorem krB : kr fsB 1 = [] ∧ kr fsB 2 = [1] ∧ kr fsB 3 = [2] := by decide

theorem upB (i y : Int) (hi : i = 1 ∨ i = 2 ∨ i = 3) : Up fsB i y ↔ (y = 1 ∧ 1 < i) ∨ (y = 2 ∧ 2 < i) := by
  have h1 : ∀ y, Up fsB 1 y ↔ False := fun y => by rw [Up.iff, krB.1]; simp
  have h2 : ∀ y, Up fsB 2 y ↔ y = 1 := fun y => by rw [Up.iff, krB.2.1]; simp [h1]
  have h3 : ∀ y, Up fsB 3 y ↔ y = 2 ∨ y = 1 := fun y => by rw [Up.iff, krB.2.2]; simp [h2]
  rcases hi with rfl | rfl | rfl
  · rw [h1]; exact ⟨fun h => h.elim, fun h => by omega⟩
  · rw [h2]; omega
  · rw [h3]; omega

variable {w : World}

theorem begun14_c {N : Nat} (hS : SortOk N) (hN : N < 4294967296) (hN3 : 3 ≤ N) : Cs Try.prog glaw14_begun_n #[] w (Ret fun v w' => v = .bool true ∧ Ext w w') := by
  apply glaw14_begun_ok
  unfold glaw14_begun
  refine al_step fun m0 w1 hat1 he1 _ => ?_
  refine al_step fun m2 w2 hat2 he2 _ => ?_
  refine al_step fun m4 w3 hat3 he3 _ => ?_
  have hat1' : At w3 m0 _ 23 := (he2.trans he3).keep _ _ hat1 id
  have hat2' : At w3 m2 _ 23 := he3.keep _ _ hat2 id
  have hF : Frames w3 (some ⟨m4, 0, none⟩) 3 fsB := by
    refine ⟨⟨rfl, by decide⟩, fun i f h => ?_⟩
    match i with
    | 0 =>
      cases h
      refine ⟨none, 0, 0, ⟨m4, 0, _, _, rfl, hat3, fun j v hj => ?_⟩, Ints.nil⟩
      match j with
      | 0 | 1 | 2 | 3 | 4 | 5 => exact hj
      | j + 6 => simp [Fr.vals] at hj
    | 1 =>
      cases h
      refine ⟨some ⟨m0, 0, none⟩, 1, 1, ⟨m4, 0, _, _, rfl, hat3, fun j v hj => ?_⟩, ⟨rfl, by decide⟩, fun j x hj => ⟨m0, 0, _, _, rfl, hat1', fun k v hk => ?_⟩⟩
      · match j with
        | 0 | 1 | 2 | 3 | 4 | 5 => exact hj
        | j + 6 => simp [Fr.vals] at hj
      · match j with
        | 0 => cases hj; match k with
          | 0 => exact hk
          | k + 1 => simp at hk
        | j + 1 => simp at hj
    | 2 =>
      cases h
      refine ⟨some ⟨m2, 0, none⟩, 1, 1, ⟨m4, 0, _, _, rfl, hat3, fun j v hj => ?_⟩, ⟨rfl, by decide⟩, fun j x hj => ⟨m2, 0, _, _, rfl, hat2', fun k v hk => ?_⟩⟩
      · match j with
        | 0 | 1 | 2 | 3 | 4 | 5 => exact hj
        | j + 6 => simp [Fr.vals] at hj
      · match j with
        | 0 => cases hj; match k with
          | 0 => exact hk
          | k + 1 => simp at hk
        | j + 1 => simp at hj
    | i + 3 => simp [fsB] at h
  have hw3 := (he1.trans he2).trans he3
  refine cl_ret (Above_c hS hN hF (by simpa [fsB] using hN3)) ?_
  rintro v w4 ⟨q, ql, qc, ks, rfl, hr, hab, he4⟩
  have hks : ks = [1, 2] := asc_ext hab.1 (by simp [Asc]) fun y => by
    rw [aboveL_iff fsB_good hab, upB _ _ (by omega)]; simp
  subst hks
  refine ⟨q, ql, qc, rfl, ?_⟩
  refine cl_ret (Below_c hS hN (hF.ext he4) (by simpa [fsB] using hN3)) ?_
  rintro v w5 ⟨p, pl, pc, bs, rfl, hr', hbe, he5⟩
  have hbs : bs = [2, 3] := asc_ext hbe.1 (by simp [Asc]) fun y => by
    rw [belowL_iff fsB_good hbe]
    constructor
    · rintro ⟨h1, h2⟩
      have h1' : y = 1 ∨ y = 2 ∨ y = 3 := by simpa [fsB] using h1
      rw [upB y 1 h1'] at h2
      rcases h1' with rfl | rfl | rfl
      · omega
      · simp
      · simp
    · intro h
      have h' : y = 2 ∨ y = 3 := by simpa using h
      refine ⟨by simp [fsB]; omega, ?_⟩
      rw [upB y 1 (by omega)]; omega
  subst hbs
  refine ⟨p, pl, pc, rfl, ?_⟩
  have hql := hr.lenI
  have hpl := hr'.lenI
  simp at hql hpl
  subst hql hpl
  refine br_t ?_
  refine (Row.ints (xs := [1, 2]) (Row.ext hr he5) (by decide)).ix (by decide) (by decide) fun a ha => ⟨_, ha, ?_⟩
  refine br_t (br_t ?_)
  refine (Row.ints (xs := [2, 3]) hr' (by decide)).ix (by decide) (by decide) fun a ha => ⟨_, ha, ?_⟩
  refine br_t ?_
  refine cl_ret (Above_c hS hN (Frames.nil) (by simp)) ?_
  rintro v w6 ⟨r, rl, rc, cs, rfl, hr6, hab6, he6⟩
  refine ⟨r, rl, rc, rfl, ?_, ((hw3.trans he4).trans he5).trans he6⟩
  have hcs : cs = [] := by
    refine asc_ext hab6.1 (by simp [Asc]) fun y => ?_
    rw [hab6.2, Up.iff]
    simp [kr, refsOf]
  have := hr6.lenI
  rw [hcs] at this
  simp at this
  simp [this]
end Go.SR
