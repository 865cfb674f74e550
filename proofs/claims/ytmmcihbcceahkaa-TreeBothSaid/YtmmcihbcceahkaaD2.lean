/- girandolelaw14.TreeBoth answers true. -/
import Derived.Test.YtmmcihbcceahkaaD1
namespace Go.SR
open Go Go.Proofs

/-- A square of 12 by 12. -/
def matC (M : Nat → Nat → Bool) : Array Value := ((List.range 144).map fun x => Value.bool (M (x / 12) (x % 12))).toArray

theorem matC_size (M : Nat → Nat → Bool) : (matC M).size = 144 := by simp [matC]

theorem matC_get (M : Nat → Nat → Bool) {i k : Nat} (hi : i < 12) (hk : k < 12) : (matC M)[i * 12 + k]? = some (.bool (M i k)) := by
  have h : i * 12 + k < 144 := by omega
  have h1 : (i * 12 + k) / 12 = i := by omega
  have h2 : (i * 12 + k) % 12 = k := by omega
  simp [matC, h, h1, h2]

def updM (M : Nat → Nat → Bool) (i k : Nat) (v : Bool) : Nat → Nat → Bool := fun a b => if a = i ∧ b = k then v else M a b

theorem matC_set (M : Nat → Nat → Bool) {i k : Nat} (hi : i < 12) (hk : k < 12) (v : Bool) : (matC M).setIfInBounds (i * 12 + k) (.bool v) = matC (updM M i k v) := by
  apply Array.ext_getElem?
  intro x
  rw [Array.getElem?_setIfInBounds]
  split
  · rename_i h
    subst h
    rw [matC_get _ hi hk, if_pos (by rw [matC_size]; omega)]
    simp [updM]
  · rename_i h
    by_cases hx : x < 144
    · have h1 : ¬ (x / 12 = i ∧ x % 12 = k) := by omega
      simp [matC, hx, updM, h1]
    · simp [matC, hx]

theorem zc36 : zc Try.prog 36 = matC fun _ _ => false := by kernel_rfl

section
variable {S : Nat → Prop} {w0 w : World} {L : List (Nat × (Obj → Prop))} {m : Nat} {M : Nat → Nat → Bool} {i k : Int}

theorem mat_addr {m : Nat} {i k : Int} : ((⟨m, 0, none⟩ : Addr).add (i.toNat * 12)).add (k.toNat * 1) = ⟨m, i.toNat * 12 + k.toNat, none⟩ := by
  rw [add_mk, add_mk, Nat.mul_one, Nat.zero_add]

theorem mat_rd {F : Bool → Prop} (h : Own S w0 w L) (x : Nat) (hx : L[x]? = some (m, CellsO (matC M) 36)) (hi0 : 0 ≤ i) (hi : i < 12) (hk0 : 0 ≤ k) (hk : k < 12) (hF : F (M i.toNat k.toNat)) :
    ixr ⟨m, 0, none⟩ 12 i 12 fun a => ixr a 12 k 1 fun a' => ∃ b : Bool, w.cell? a' = some (.bool b) ∧ F b :=
  ⟨hi0, hi, hk0, hk, _, h.rd x _ hx mat_addr (matC_get M (by omega) (by omega)), hF⟩

theorem mat_st {v : Bool} {F : World → Prop} (h : Own S w0 w L) (x : Nat) (hx : L[x]? = some (m, CellsO (matC M) 36)) (hi0 : 0 ≤ i) (hi : i < 12) (hk0 : 0 ≤ k) (hk : k < 12)
    (hF : ∀ w', Own S w0 w' (L.set x (m, CellsO (matC (updM M i.toNat k.toNat v)) 36)) → Chg (fun y => y = m) w w' → F w') :
    ixr ⟨m, 0, none⟩ 12 i 12 fun a => ixr a 12 k 1 fun a' => st1 a' (.bool v) w F := by
  refine ⟨hi0, hi, hk0, hk, ?_⟩
  refine h.st x _ hx mat_addr (by rw [matC_size]; omega) rfl fun w' ho hc => ?_
  rw [matC_set M (by omega) (by omega)] at ho
  exact hF w' ho hc

/-- One cell of a square is filled: is frame k's ID on a list? -/
theorem fill {p q : Option Addr} {l ql : Nat} {fs : List Fr} {ks : List Int} {OUT : World → Prop} (h : Own S w0 w L) (x : Nat) (hx : L[x]? = some (m, CellsO (matC M) 36)) (hF : Frames w p l fs) (hK : U32s w q ql ks)
    (hi0 : 0 ≤ i) (hi : i < 12) (hk0 : 0 ≤ k) (hk : k < fs.length) (hl : fs.length ≤ 12) (hM : M i.toNat k.toNat = false)
    (hO : ∀ w' M', Own S w0 w' (L.set x (m, CellsO (matC M') 36)) → Chg (fun y => y = m) w w' → (∀ a b, ¬ (a = i.toNat ∧ b = k.toNat) → M' a b = M a b) → (M' i.toNat k.toNat = true ↔ (gF fs k).id ∈ ks) → OUT w') :
    lp (σ := Int) (fun _ k93 n94 w95 => br (decide (n94 < (ql : Int)))
      (dr w95 fun w96 => ixr ⟨m, 0, none⟩ 12 i 12 fun a97 => ixr a97 12 k 1 fun a98 => ∃ b99 : Bool, w96.cell? a98 = some (.bool b99) ∧
        br b99 (ixr ⟨m, 0, none⟩ 12 i 12 fun a100 => ixr a100 12 k 1 fun a101 => st1 a101 (.bool true) w96 fun w102 => k93 (IntKind.wrap .i64 (n94 + 1)) w102)
          (ixa q ql n94 1 fun a103 => ∃ n104 : Int, w96.cell? a103 = some (.int .u32 n104) ∧ ixa p l k 6 fun a105 => ∃ n106 : Int, w96.cell? a105 = some (.int .u32 n106) ∧
            ixr ⟨m, 0, none⟩ 12 i 12 fun a107 => ixr a107 12 k 1 fun a108 => st1 a108 (.bool (n104 == n106)) w96 fun w109 => k93 (IntKind.wrap .i64 (n94 + 1)) w109))
      (OUT w95)) 0 w := by
  have hkl := hK.len
  have hklt := hK.lt
  have hat := h.at x hx
  have o31 : Off (fun y => y = m) w 31 := Off.of_at hat (by decide)
  have o23 : Off (fun y => y = m) w 23 := Off.of_at hat (by decide)
  have hself : L.set x (m, CellsO (matC M) 36) = L := by
    apply List.ext_getElem?
    intro j
    rw [List.getElem?_set]
    split
    · rename_i e; subst e; rw [hx]; simp; exact (List.getElem?_eq_some_iff.1 hx).1
    · rfl
  refine lp_step (fun c n w' => ∃ M', Own S w0 w' (L.set x (m, CellsO (matC M') 36)) ∧ Chg (fun y => y = m) w w' ∧ (∀ a b, ¬ (a = i.toNat ∧ b = k.toNat) → M' a b = M a b) ∧
    (M' i.toNat k.toNat = true ↔ ∃ j : Nat, (j : Int) < n ∧ ks[j]? = some (gF fs k).id) ∧ 0 ≤ n ∧ n ≤ ks.length ∧ c = ((ks.length : Int) - n).toNat)
    _ ⟨M, by rw [hself]; exact h, Chg.refl _ _, fun _ _ _ => rfl, ⟨fun e => (by rw [hM] at e; cases e), fun ⟨j, hj, _⟩ => by omega⟩, by omega, by omega, rfl⟩ ?_
  rintro c _ n w1 ⟨M', o1, hc1, hrest, hcell, hn0, hn1, hcc⟩ K hKK
  have hx1 : (L.set x (m, CellsO (matC M') 36))[x]? = some (m, CellsO (matC M') 36) := by
    have := (List.getElem?_eq_some_iff.1 hx).1
    simp [this]
  refine br_if (fun hlt => ?_) (fun hge => ?_)
  · refine dr_step fun w2 _ he2 => ?_
    have o2 := o1.ext he2
    have hgk := gI_get hn0 (show n < ks.length by omega)
    have next : ∀ w3 v, Own S w0 w3 ((L.set x (m, CellsO (matC M') 36)).set x (m, CellsO (matC (updM M' i.toNat k.toNat v)) 36)) → Chg (fun y => y = m) w2 w3 → (v = true ↔ M' i.toNat k.toNat = true ∨ gI ks n = (gF fs k).id) → K (IntKind.wrap .i64 (n + 1)) w3 := by
      intro w3 v o3 hc3 hv
      rw [List.set_set] at o3
      rw [w64 (by omega) (by omega)]
      refine hKK _ _ _ (by omega) ⟨_, o3, (hc1.trans he2.any).trans hc3, fun a b hab => ?_, ?_, by omega, by omega, rfl⟩
      · simp only [updM, if_neg hab]; exact hrest a b hab
      · simp only [updM, and_self, if_true]
        rw [hv, hcell]
        constructor
        · rintro (⟨j, h1, h2⟩ | h)
          · exact ⟨j, by omega, h2⟩
          · exact ⟨n.toNat, by omega, by rw [hgk, h]⟩
        · rintro ⟨j, h1, h2⟩
          by_cases e : (j : Int) < n
          · exact .inl ⟨j, e, h2⟩
          · have : n.toNat = j := by omega
            rw [this, h2] at hgk
            exact .inr (Option.some.inj hgk).symm
    refine mat_rd o2 x hx1 hi0 hi hk0 (by omega) ?_
    refine br_iff.2 ⟨fun ht => ?_, fun hf => ?_⟩
    · exact mat_st o2 x hx1 hi0 hi hk0 (by omega) fun w3 o3 hc3 => next w3 true o3 hc3 ⟨fun _ => .inl ht, fun _ => rfl⟩
    · have hc2 := hc1.trans he2.any
      refine (hK.chg hc2 o23).ix hn0 (by omega) fun a ha => ⟨_, ha, ?_⟩
      refine (hF.chg hc2 o31 o23).ix hk0 hk fun a' _ _ _ ha' _ => ⟨_, ha'.get0, ?_⟩
      refine mat_st o2 x hx1 hi0 hi hk0 (by omega) fun w3 o3 hc3 => next w3 _ o3 hc3 ?_
      rw [hf]; simp
  · refine hO w1 M' o1 hc1 hrest ?_
    rw [hcell, List.mem_iff_getElem?]
    constructor
    · rintro ⟨j, _, h⟩; exact ⟨j, h⟩
    · rintro ⟨j, h⟩
      have := (List.getElem?_eq_some_iff.1 h).1
      exact ⟨j, by omega, h⟩
end

theorem filter_snoc {x : Int} {T : List Int} (hx : x ∉ T) : ∀ {ks : List Int}, ks.Nodup → (ks.filter fun y => y ∈ T ++ [x]).length = (ks.filter fun y => y ∈ T).length + if x ∈ ks then 1 else 0
  | [], _ => by simp
  | a :: ks, hn => by
    have ih := filter_snoc hx (List.nodup_cons.1 hn).2
    have hna := (List.nodup_cons.1 hn).1
    rw [List.filter_cons, List.filter_cons]
    by_cases ha : a = x
    · subst ha
      rw [if_neg hna] at ih
      rw [if_pos (by simp), if_neg (by simpa using hx), if_pos (List.mem_cons_self ..), List.length_cons, ih]
    · have h1 : (if x ∈ a :: ks then 1 else 0) = if x ∈ ks then 1 else 0 := by
        have : x ∈ a :: ks ↔ x ∈ ks := ⟨fun h => (List.mem_cons.1 h).resolve_left fun e => ha e.symm, List.mem_cons_of_mem _⟩
        simp only [this]
      rw [h1]
      by_cases hT : a ∈ T
      · rw [if_pos (by simp [hT]), if_pos (by simpa using hT), List.length_cons, List.length_cons, ih]; omega
      · rw [if_neg (by simp [hT, ha]), if_neg (by simpa using hT), ih]

theorem filter_all {T : List Int} {ks : List Int} (h : ∀ y ∈ ks, y ∈ T) : (ks.filter fun y => y ∈ T) = ks := by
  rw [List.filter_eq_self]; intro y hy; simpa using h y hy

/-- Frame k lies above frame i. -/
def UpN (fs : List Fr) (i k : Nat) : Prop := Up fs (fs.getD i fr0).id (fs.getD k fr0).id

theorem Off.or {S T : Nat → Prop} {w : World} {t : TypeId} (h : Off S w t) (h' : Off T w t) : Off (fun x => S x ∨ T x) w t := fun b cs fl hb hs => by
  rcases hs with hs | hs
  · exact h b cs fl hb hs
  · exact h' b cs fl hb hs

variable {w : World} {p : Option Addr} {pl pc : Nat}

theorem TreeBoth_c (hp : Handed w p pl 120) : Cs Try.prog glaw14_TreeBoth_n #[.slice p pl pc] w (Ret fun v w' => v = .bool true ∧ Ext w w') := by
  apply glaw14_TreeBoth_ok
  unfold glaw14_TreeBoth
  have hS : SortOk 12 := @sortOk12
  refine cl_ret (begun14_c hS (by decide) (by decide)) ?_
  rintro v w1 ⟨rfl, he1⟩
  refine ⟨_, rfl, br_f ?_⟩
  refine br_if (fun _ => ⟨rfl, he1⟩) (fun hle => ?_)
  obtain ⟨l, hl, hlb⟩ := hp (by omega)
  refine cl_ret (Made_c (hl.ext he1) hlb) ?_
  rintro v w2 ⟨b, rfl, hpk, hbs, he2⟩
  refine ⟨_, rfl, ?_⟩
  refine cl_ret (Frames_c hpk (by decide) (by decide)) ?_
  rintro v w3 ⟨q, ql, qc, fs, n', rfl, hF, hG, hlen, hpk3, hc3⟩
  refine ⟨_, _, _, rfl, ?_⟩
  have he3 : Ext w w3 := (he1.trans he2).then hc3 fun x hx => by have := he1.size; omega
  have hql := hF.len
  have hlen' : fs.length ≤ 12 := hlen
  have hA := hG.1.1
  refine (Own.nil (fun _ => False) w3).al fun mA wa oa _ => ?_
  refine oa.al fun mB wb ob _ => ?_
  rw [zc36] at ob
  have ob' : Own (fun _ => False) w3 wb [(mA, CellsO (matC fun _ _ => false) 36), (mB, CellsO (matC fun _ _ => false) 36)] := ob
  have frames : ∀ {w'}, Ext w3 w' → Frames w' q ql fs := fun he => hF.ext he
  -- what holds of the squares
  refine jn_step (fun _ w' => ∃ MA MB, Own (fun _ => False) w3 w' [(mA, CellsO (matC MA) 36), (mB, CellsO (matC MB) 36)] ∧
    (∀ a c, a < fs.length → c < fs.length → (MA a c = true ↔ UpN fs a c)) ∧ ∀ a c, a < fs.length → c < fs.length → (MB a c = true ↔ UpN fs c a)) ?_ ?_
  · rintro _ _ w4 ⟨MA, MB, o4, hMA, hMB⟩
    refine lp_step (fun c i w' => Ext w4 w' ∧ 0 ≤ i ∧ i ≤ fs.length ∧ c = ((fs.length : Int) - i).toNat) _ ⟨Ext.refl _, by omega, by omega, rfl⟩ ?_
    rintro c1 _ i w5 ⟨he5, hi0, hi1, hc1⟩ K hK
    have fin : Ret (fun v w' => v = Value.bool true ∧ Ext w w') (.returned (.bool true)) w5 := ⟨rfl, (he3.trans o4.chg).trans he5⟩
    refine jn_step (fun _ w' => w' = w5 ∧ i < fs.length ∧ i < 12) ?_ (br_if (fun h => br_if (fun h' => ⟨rfl, by omega, h'⟩) (fun _ => fin)) (fun _ => fin))
    rintro _ _ w5' ⟨e5, hi, hi12⟩
    rw [e5]; clear e5 w5' fin
    have hgi := gF_get hi0 hi
    generalize hfi : gF fs i = f at hgi
    have hgetD : fs.getD i.toNat fr0 = f := hfi
    refine lp_step (fun c k w' => Ext w4 w' ∧ 0 ≤ k ∧ k ≤ fs.length ∧ c = ((fs.length : Int) - k).toNat) _ ⟨he5, by omega, by omega, rfl⟩ ?_
    rintro c2 _ k w6 ⟨he6, hk0, hk1, hc2⟩ K2 hK2
    refine br_if (fun hk => ?_) (fun _ => by rw [w64 (by omega) (by omega)]; exact hK _ _ _ (by omega) ⟨he6, by omega, by omega, rfl⟩)
    have hk' : k < fs.length := by omega
    have hdec : ((fs.length : Int) - (k + 1)).toNat < c2 := by omega
    have hgk := gF_get hk0 hk'
    generalize hgg : gF fs k = g at hgk
    have hgetDk : fs.getD k.toNat fr0 = g := hgg
    have hmA := hMA i.toNat k.toNat (by omega) (by omega)
    have hmB := hMB k.toNat i.toNat (by omega) (by omega)
    have huk : UpN fs i.toNat k.toNat ↔ Up fs f.id g.id := by rw [UpN, hgetD, hgetDk]
    rw [huk] at hmA hmB
    refine lp_step (fun c st w' => Ext w4 w' ∧ 0 ≤ st.2 ∧ st.2 ≤ f.refs.length ∧ (st.1 = true → g.id ∈ f.refs) ∧ c = ((f.refs.length : Int) - st.2).toNat) _ ⟨he6, by simp, by simp, fun h => by simp at h, rfl⟩ ?_
    rintro c3 _ ⟨dir, m⟩ w7 ⟨he7, hm0, hm1, hdir, hc3'⟩ K3 hK3
    simp only [] at hm0 hm1 hdir hc3'
    have hFr7 := frames (o4.chg.trans he7)
    refine hFr7.ix hi0 hi fun a rq rl rc hca hu => ?_
    rw [hfi] at hca hu
    have hrl := hu.len
    have hrlt := hu.lt
    refine ⟨_, _, _, hca.get 2 rfl, ?_⟩
    refine br_if (fun hlt => ?_) (fun hge => ?_)
    · have hlt' : m < rl := hlt
      refine dr_step fun w8 _ he8 => ?_
      have go : ∀ b' : Bool, (b' = true → g.id ∈ f.refs) → K3 (b', IntKind.wrap .i64 (m + 1)) w8 := by
        intro b' hb'
        rw [w64 (by omega) (by omega)]
        exact hK3 _ _ _ (by omega) ⟨he7.trans he8, by simp only []; omega, by simp only []; omega, hb', rfl⟩
      refine br_iff.2 ⟨fun h => go _ fun _ => hdir h, fun _ => ?_⟩
      have hFr8 := hFr7.ext he8
      refine hFr8.ix hi0 hi fun a' rq' rl' rc' hca' hu' => ?_
      rw [hfi] at hca' hu'
      refine ⟨_, _, _, hca'.get 2 rfl, ?_⟩
      have hgm := gI_get (xs := f.refs) hm0 (by omega)
      refine hu'.ix hm0 (by omega) fun a3 h3 => ⟨_, h3, ?_⟩
      refine hFr8.ix hk0 hk' fun a4 _ _ _ h4 _ => ⟨_, h4.get0, go _ fun h => ?_⟩
      rw [hgg] at h
      have : gI f.refs m = g.id := by simpa using h
      rw [← this]; exact List.mem_of_getElem? hgm
    · have kk : k < 12 := by omega
      refine jn_step (fun _ w' => Ext w4 w') ?_ ?_
      · rintro _ _ w8 he8
        refine lp_step (fun c j w' => Ext w4 w' ∧ 0 ≤ j ∧ j ≤ fs.length ∧ c = ((fs.length : Int) - j).toNat) _ ⟨he8, by omega, by omega, rfl⟩ ?_
        rintro c4 _ j w9 ⟨he9, hj0, hj1, hc4⟩ K4 hK4
        refine br_if (fun hj => ?_) (fun _ => by rw [w64 (by omega) (by omega)]; exact hK2 _ _ _ hdec ⟨he9, by omega, by omega, rfl⟩)
        have hj' : j < fs.length := by omega
        have o9 := o4.ext he9
        have next : K4 (IntKind.wrap .i64 (j + 1)) w9 := by
          rw [w64 (by omega) (by omega)]
          exact hK4 _ _ _ (by omega) ⟨he9, by omega, by omega, rfl⟩
        refine mat_rd o9 0 rfl hi0 hi12 hk0 kk (br_if' (fun h1 => ?_) fun _ => next)
        refine mat_rd o9 0 rfl hk0 kk hj0 (by omega) (br_if' (fun h2 => ?_) fun _ => next)
        refine mat_rd o9 0 rfl hi0 hi12 hj0 (by omega) (br_if' (fun h3 => ?_) fun _ => next)
        have u1 := (hMA i.toNat k.toNat (by omega) (by omega)).1 h1
        have u2 := (hMA k.toNat j.toNat (by omega) (by omega)).1 h2
        have u3 := (hMA i.toNat j.toNat (by omega) (by omega)).2 (Up.trans' u1 u2)
        rw [u3] at h3; cases h3
      · refine dr_step fun w8 _ he8 => ?_
        have he48 := he7.trans he8
        have o8 := o4.ext he48
        refine mat_rd o8 0 rfl hi0 hi12 hk0 kk ?_
        refine mat_rd o8 1 rfl hk0 kk hi0 hi12 ?_
        have heq : MA i.toNat k.toNat = MB k.toNat i.toNat := by
          rw [Bool.eq_iff_iff, hmA, hmB]
        refine br_iff.2 ⟨fun h => by rw [heq] at h; simp at h, fun _ => ?_⟩
        have tail : ixr ⟨mA, 0, none⟩ 12 i 12 fun a66 => ixr a66 12 k 1 fun a67 => ∃ b68 : Bool, w8.cell? a67 = some (.bool b68) ∧
            br b68 (br (decide (k ≥ i)) (Ret (fun v w' => v = Value.bool true ∧ Ext w w') (.returned (.bool false)) w8) (Ext w4 w8)) (Ext w4 w8) := by
          refine mat_rd o8 0 rfl hi0 hi12 hk0 kk (br_if' (fun h => br_if (fun hge' => ?_) fun _ => he48) fun _ => he48)
          have hup := hmA.1 h
          have h1 := up_lt hG hup
          have h2 := (ids_get hA hgk hgi).2 h1
          omega
        refine br_iff.2 ⟨fun hd => ?_, fun _ => tail⟩
        refine mat_rd o8 0 rfl hi0 hi12 hk0 kk (br_if' (fun h => ?_) fun _ => tail)
        have hin : g.id ∈ kr fs f.id := by rw [kr_get hG hgi]; exact hdir hd
        have := hmA.2 (.one hin)
        rw [this] at h; cases h
  · refine lp_step (fun c i w' => ∃ MA MB, Own (fun _ => False) w3 w' [(mA, CellsO (matC MA) 36), (mB, CellsO (matC MB) 36)] ∧ (∀ a c, a < fs.length → c < fs.length → (MA a c = true ↔ (a : Int) < i ∧ UpN fs a c)) ∧
      (∀ a c, a < fs.length → c < fs.length → (MB a c = true ↔ (a : Int) < i ∧ UpN fs c a)) ∧ 0 ≤ i ∧ i ≤ fs.length ∧ c = ((fs.length : Int) - i).toNat)
      _ ⟨_, _, ob', fun a c _ _ => by simp; omega, fun a c _ _ => by simp; omega, by omega, by omega, rfl⟩ ?_
    rintro c1 _ i w4 ⟨MA, MB, o4, hMA, hMB, hi0, hi1, hc1⟩ K hK
    have fin : ∀ h : ¬ (i < fs.length), ∃ MA MB, Own (fun _ => False) w3 w4 [(mA, CellsO (matC MA) 36), (mB, CellsO (matC MB) 36)] ∧ (∀ a c, a < fs.length → c < fs.length → (MA a c = true ↔ UpN fs a c)) ∧ ∀ a c, a < fs.length → c < fs.length → (MB a c = true ↔ UpN fs c a) := by
      intro h
      refine ⟨MA, MB, o4, fun a c ha hc => ?_, fun a c ha hc => ?_⟩
      · rw [hMA a c ha hc]; exact ⟨fun h => h.2, fun h' => ⟨by omega, h'⟩⟩
      · rw [hMB a c ha hc]; exact ⟨fun h => h.2, fun h' => ⟨by omega, h'⟩⟩
    refine jn_step (fun _ w' => w' = w4 ∧ i < fs.length ∧ i < 12) ?_ (br_if (fun h => br_if (fun h' => ⟨rfl, by omega, h'⟩) (fun h => fin (by omega))) (fun h => fin (by omega)))
    rintro _ _ w4' ⟨e4, hi, hi12⟩
    rw [e4]; clear e4 w4' fin
    have hgi := gF_get hi0 hi
    generalize hfi : gF fs i = f at hgi
    have hgetD : fs.getD i.toNat fr0 = f := hfi
    have hdec : ((fs.length : Int) - (i + 1)).toNat < c1 := by omega
    refine dr_step fun w5 _ he5 => ?_
    have o5 := o4.ext he5
    have hF5 := frames o5.chg
    refine hF5.ix hi0 hi fun a1 _ _ _ ha1 _ => ⟨_, ha1.get0, ?_⟩
    refine hF5.ix hi0 hi fun a2 _ _ _ ha2 _ => ⟨_, ha2.get0, ?_⟩
    rw [hfi] at ha2 ⊢
    refine cl_ret (Above_c hS (by decide) hF5 hlen') ?_
    rintro v w6 ⟨ap, al, ac, ks, rfl, hr6, hab, he6⟩
    refine ⟨_, _, _, rfl, hold_cons (he6.cell ha2.get0) (fun x hx => by simp at hx), ?_⟩
    have hks := aboveL_iff hG hab
    have hksn : ks.Nodup := hab.1.imp fun h => by omega
    have hksl : ks.length ≤ fs.length := by
      have := nodup_len (l := ks) (l' := fs.map Fr.id) hksn fun x hx => ((hks x).1 hx).known
      simpa using this
    have o6 := o5.ext he6
    have hF6 := hF5.ext he6
    refine cl_ret (Below_c hS (by decide) hF6 hlen') ?_
    rintro v w7 ⟨bp, bl, bc, bs, rfl, hr7, hbe, he7⟩
    refine ⟨_, _, _, rfl, ?_⟩
    have hbm := belowL_iff hG hbe
    have hbsn : bs.Nodup := hbe.1.imp fun h => by omega
    have hbsl : bs.length ≤ fs.length := by
      have := nodup_len (l := bs) (l' := fs.map Fr.id) hbsn fun x hx => ((hbm x).1 hx).1
      simpa using this
    have o7 := o6.ext he7
    have hal := hr6.lenI
    have hbl := hr7.lenI
    have hK7 : U32s w7 ap al ks := (Row.ints hr6 (by omega)).ext he7
    have hB7 : U32s w7 bp bl bs := Row.ints hr7 (by omega)
    have offAB : Off (fun y => y = mA ∨ y = mB) w7 23 := Off.or (Off.of_at (o7.at 0 rfl) (by decide)) (Off.of_at (o7.at 1 rfl) (by decide))
    have idk : ∀ {k : Int}, 0 ≤ k → k < fs.length → (fs.map Fr.id)[k.toNat]? = some (gF fs k).id := fun h0 h1 => by rw [List.getElem?_map, gF_get h0 h1]; rfl
    have hupN : ∀ (c : Nat), UpN fs i.toNat c ↔ (fs.getD c fr0).id ∈ ks := fun c => by rw [hks, UpN, hgetD]
    have hupB : ∀ (c : Nat), c < fs.length → (UpN fs c i.toNat ↔ (fs.getD c fr0).id ∈ bs) := fun c hc => by
      rw [hbm, UpN, hgetD]
      refine ⟨fun h => ⟨List.mem_map.2 ⟨_, List.mem_of_getElem? (i := c) (by simp [List.getElem?_eq_getElem hc]), rfl⟩, h⟩, fun h => h.2⟩
    refine lp_step (fun c st w' => ∃ MA' MB', Own (fun _ => False) w3 w' [(mA, CellsO (matC MA') 36), (mB, CellsO (matC MB') 36)] ∧ Chg (fun y => y = mA ∨ y = mB) w7 w' ∧ (∀ a c, a ≠ i.toNat → MA' a c = MA a c) ∧ (∀ a c, a ≠ i.toNat → MB' a c = MB a c) ∧
        (∀ c, c < fs.length → (MA' i.toNat c = true ↔ (c : Int) < st.2 ∧ (fs.getD c fr0).id ∈ ks)) ∧ (∀ c, c < fs.length → (MB' i.toNat c = true ↔ (c : Int) < st.2 ∧ (fs.getD c fr0).id ∈ bs)) ∧
        st.1 = ((ks.filter fun y => y ∈ (fs.map Fr.id).take st.2.toNat).length : Int) + ((bs.filter fun y => y ∈ (fs.map Fr.id).take st.2.toNat).length : Int) ∧ 0 ≤ st.2 ∧ st.2 ≤ fs.length ∧ c = ((fs.length : Int) - st.2).toNat)
      _ ⟨MA, MB, o7, Chg.refl _ _, fun _ _ _ => rfl, fun _ _ _ => rfl, ?_, ?_, ?_, by simp, by simp, rfl⟩ ?_
    · intro c hc
      rw [hMA _ _ (by omega) hc]
      simp only []
      exact ⟨fun h => by omega, fun h => by omega⟩
    · intro c hc
      rw [hMB _ _ (by omega) hc]
      simp only []
      exact ⟨fun h => by omega, fun h => by omega⟩
    · have h0 : ∀ l : List Int, (l.filter fun _ => false) = [] := fun l => by rw [List.filter_eq_nil_iff]; simp
      simp [h0]
    rintro c2 _ ⟨n, k⟩ w8 ⟨MA1, MB1, o8, hc8, hA1, hB1, hAi, hBi, hn, hk0, hk1, hc2⟩ K2 hK2
    simp only [] at hAi hBi hn hk0 hk1 hc2
    refine br_if (fun hk => ?_) (fun hge => ?_)
    · have hk' : k < fs.length := by simp only [] at hk; omega
      have hdec2 : ((fs.length : Int) - (k + 1)).toNat < c2 := by omega
      have hA0 : MA1 i.toNat k.toNat = false := by
        have := hAi k.toNat (by omega)
        cases h : MA1 i.toNat k.toNat
        · rfl
        · have := this.1 h; omega
      have hB0 : MB1 i.toNat k.toNat = false := by
        have := hBi k.toNat (by omega)
        cases h : MB1 i.toNat k.toNat
        · rfl
        · have := this.1 h; omega
      refine fill o8 0 rfl (frames o8.chg) (hK7.chg hc8 offAB) hi0 hi12 hk0 hk' hlen' hA0 fun w9 MA2 o9 hc9 hA2 hA2i => ?_
      have hc79 : Chg (fun y => y = mA ∨ y = mB) w7 w9 := hc8.trans (hc9.mono fun _ _ h => .inl h)
      refine fill o9 1 rfl (frames o9.chg) (hB7.chg hc79 offAB) hi0 hi12 hk0 hk' hlen' hB0 fun wx MB2 ox hcx hB2 hB2i => ?_
      have hc7x : Chg (fun y => y = mA ∨ y = mB) w7 wx := hc79.trans (hcx.mono fun _ _ h => .inr h)
      have ox' : Own (fun _ => False) w3 wx [(mA, CellsO (matC MA2) 36), (mB, CellsO (matC MB2) 36)] := ox
      have hidk := idk hk0 hk'
      have htk : (fs.map Fr.id).take (k + 1).toNat = (fs.map Fr.id).take k.toNat ++ [(gF fs k).id] := by
        rw [show (k + 1).toNat = k.toNat + 1 by omega]; exact take_snoc hidk
      have hnotin : (gF fs k).id ∉ (fs.map Fr.id).take k.toNat := fun h => by
        obtain ⟨j, hj⟩ := List.mem_iff_getElem?.1 h
        rw [List.getElem?_take] at hj
        split at hj
        · have := asc_get hA hj hidk; omega
        · cases hj
      have hfil : ((ks.filter fun y => y ∈ (fs.map Fr.id).take (k + 1).toNat).length : Int) + ((bs.filter fun y => y ∈ (fs.map Fr.id).take (k + 1).toNat).length : Int) = n + (if MA2 i.toNat k.toNat then 1 else 0) + (if MB2 i.toNat k.toNat then 1 else 0) := by
        rw [htk, filter_snoc hnotin hksn, filter_snoc hnotin hbsn, hn]
        have e1 : (if (gF fs k).id ∈ ks then 1 else 0) = if MA2 i.toNat k.toNat then 1 else 0 := by simp only [hA2i]
        have e2 : (if (gF fs k).id ∈ bs then 1 else 0) = if MB2 i.toNat k.toNat then 1 else 0 := by simp only [hB2i]
        rw [e1, e2]
        cases MA2 i.toNat k.toNat <;> cases MB2 i.toNat k.toNat <;> simp <;> omega
      have hnl : n ≤ 24 ∧ 0 ≤ n := by
        have h1 := List.length_filter_le (fun y => decide (y ∈ (fs.map Fr.id).take k.toNat)) ks
        have h2 := List.length_filter_le (fun y => decide (y ∈ (fs.map Fr.id).take k.toNat)) bs
        omega
      have next : ∀ n', n' = n + (if MA2 i.toNat k.toNat then 1 else 0) + (if MB2 i.toNat k.toNat then 1 else 0) → K2 (n', IntKind.wrap .i64 (k + 1)) wx := by
        intro n' hn'
        rw [w64 (by omega) (by omega)]
        refine hK2 _ _ _ hdec2 ⟨MA2, MB2, ox', hc7x, fun a c ha => (hA2 a c fun h => ha h.1).trans (hA1 a c ha), fun a c ha => (hB2 a c fun h => ha h.1).trans (hB1 a c ha), fun c hc => ?_, fun c hc => ?_, ?_, by simp only []; omega, by simp only []; omega, rfl⟩
        · simp only []
          by_cases e : c = k.toNat
          · subst e
            rw [hA2i]
            exact ⟨fun h => ⟨by omega, h⟩, fun h => h.2⟩
          · rw [hA2 _ _ (fun h => e h.2), hAi c hc]
            exact ⟨fun h => ⟨by omega, h.2⟩, fun h => ⟨by omega, h.2⟩⟩
        · simp only []
          by_cases e : c = k.toNat
          · subst e
            rw [hB2i]
            exact ⟨fun h => ⟨by omega, h⟩, fun h => h.2⟩
          · rw [hB2 _ _ (fun h => e h.2), hBi c hc]
            exact ⟨fun h => ⟨by omega, h.2⟩, fun h => ⟨by omega, h.2⟩⟩
        · simp only []; rw [hn', hfil]
      simp only []
      refine mat_rd ox' 0 rfl hi0 hi12 hk0 (by omega) (br_iff.2 ⟨fun hA' => ?_, fun hA' => ?_⟩)
      · refine mat_rd ox' 1 rfl hi0 hi12 hk0 (by omega) (br_iff.2 ⟨fun hB' => ?_, fun hB' => ?_⟩)
        · rw [w64 (n := n + 1) (by omega) (by omega), w64 (n := n + 1 + 1) (by omega) (by omega)]
          exact next _ (by rw [hA', hB']; simp)
        · rw [w64 (n := n + 1) (by omega) (by omega)]
          exact next _ (by rw [hA', hB']; simp)
      · refine mat_rd ox' 1 rfl hi0 hi12 hk0 (by omega) (br_iff.2 ⟨fun hB' => ?_, fun hB' => ?_⟩)
        · rw [w64 (n := n + 1) (by omega) (by omega)]
          exact next _ (by rw [hA', hB']; simp)
        · exact next _ (by rw [hA', hB']; simp)
    · have hke : k = fs.length := by simp only [] at hge; omega
      subst hke
      have hall : (fs.map Fr.id).take ((fs.length : Int)).toNat = fs.map Fr.id := by
        rw [List.take_of_length_le]; simp
      rw [hall, filter_all fun y hy => ((hks y).1 hy).known, filter_all fun y hy => ((hbm y).1 hy).1] at hn
      rw [w64 (n := (al : Int) + bl) (by omega) (by omega)]
      refine br_iff.2 ⟨fun h => ?_, fun _ => ?_⟩
      · have : (n != (al : Int) + bl) = false := by simp; omega
        simp only [] at h
        rw [this] at h; cases h
      · refine lp_step (fun c m w' => Ext w8 w' ∧ 1 ≤ m ∧ c = ((al : Int) - m).toNat) _ ⟨Ext.refl _, by omega, rfl⟩ ?_
        rintro c3 _ m w9 ⟨he9, hm1, hc3⟩ K3 hK3
        refine br_if (fun hm => ?_) (fun _ => ?_)
        · refine dr_step fun wx _ hex => ?_
          have hKx := (hK7.chg hc8 offAB).ext (he9.trans hex)
          refine hKx.ix (by omega) (by omega) fun a3 h3 => ⟨_, h3, ?_⟩
          rw [w64 (n := m - 1) (by omega) (by omega)]
          refine hKx.ix (by omega) (by omega) fun a4 h4 => ⟨_, h4, ?_⟩
          have g1 := gI_get (xs := ks) (i := m) (by omega) (by omega)
          have g2 := gI_get (xs := ks) (i := m - 1) (by omega) (by omega)
          have := (asc_get hab.1 g2 g1).1 (by omega)
          refine br_if (fun h => by omega) (fun _ => ?_)
          rw [w64 (n := m + 1) (by omega) (by omega)]
          exact hK3 _ _ _ (by omega) ⟨he9.trans hex, by omega, rfl⟩
        · rw [w64 (n := i + 1) (by omega) (by omega)]
          refine hK _ _ _ hdec ⟨MA1, MB1, o8.ext he9, fun a c ha hc => ?_, fun a c ha hc => ?_, by omega, by omega, rfl⟩
          · by_cases e : a = i.toNat
            · subst e
              rw [hAi c hc, hupN]
              exact ⟨fun h => ⟨by omega, h.2⟩, fun h => ⟨by omega, h.2⟩⟩
            · rw [hA1 a c e, hMA a c ha hc]
              exact ⟨fun h => ⟨by omega, h.2⟩, fun h => ⟨by omega, h.2⟩⟩
          · by_cases e : a = i.toNat
            · subst e
              rw [hBi c hc, hupB c hc]
              exact ⟨fun h => ⟨by omega, h.2⟩, fun h => ⟨by omega, h.2⟩⟩
            · rw [hB1 a c e, hMB a c ha hc]
              exact ⟨fun h => ⟨by omega, h.2⟩, fun h => ⟨by omega, h.2⟩⟩
end Go.SR
