/- Contracts: shelf.worse, and slices.SortFunc over those who are on the shelf. -/
import Derived.Test.YtmmcihbcceahkaaF6
import Derived.Test.YtmmcihbcceahkaaH7
import Derived.Test.YtmmcihbcceahkaaC2
import Derived.Test.YtmmcihbcceahkaaSL
import Derived.Shelf.SlSortCmp.WholeK
namespace Go.SR
open Go Go.Proofs Go.Shelf Go.RowKit Go.Lib Go.Sort

/-- Who wants room. -/
structure Wn where
  id : Int
  rank : Int
  bytes : Int
instance : Inhabited Wn := ⟨⟨0, 0, 0⟩⟩

def encW (x : Wn) : List Value := [.int .u32 x.id, .int .i64 x.rank, .int .i64 x.bytes]

/-- Does one matter less? -/
def wrs (a b : Wn) : Bool := decide (a.rank > b.rank ∨ (a.rank = b.rank ∧ a.id > b.id))
def cfW (a b : Wn) : Int := if wrs a b then -1 else 1

theorem ltOf_cfW (a b : Wn) : ltOf cfW a b = wrs a b := by
  unfold ltOf cfW
  cases wrs a b <;> simp

theorem swo_cfW : Sort.SWO (ltOf cfW) where
  irrefl x := by rw [ltOf_cfW]; simp [wrs]
  trans x y z h1 h2 := by rw [ltOf_cfW] at *; simp only [wrs, decide_eq_true_eq] at *; omega
  ntrans x y z h1 h2 := by rw [ltOf_cfW] at *; simp only [wrs, decide_eq_false_iff_not] at *; omega

variable {w : World}

theorem al_exact {cs : Array Value} {t : TypeId} {F : Nat → World → Prop} (h : ∀ b w', w' = Sort.grow w #[.cells cs t] → At w' b cs t → Ext w w' → w.heap.size ≤ b → F b w') : al cs t w F := by
  have e : w.alloc (.cells cs t) = Sort.grow w #[.cells cs t] := by rw [alloc_eq_grow]
  refine h _ _ e ?_ ?_ (Nat.le_refl _)
  · exact heap_alloc_new w _
  · exact ⟨by simp, fun b o hb _ => by rw [heap_alloc_old w _ (lt_of_heap hb)]; exact hb, rfl, rfl, rfl⟩

theorem worse_c {x y : Wn} : Cs Try.prog shelf_worse_n #[.agg #[.int .u32 x.id, .int .i64 x.rank, .int .i64 x.bytes], .agg #[.int .u32 y.id, .int .i64 y.rank, .int .i64 y.bytes]] w
    (Ret fun v w' => v = .bool (wrs x y) ∧ (∃ os, w' = Sort.grow w os) ∧ Ext w w') := by
  apply shelf_worse_ok
  unfold shelf_worse
  refine al_exact fun m0 w1 e1 a1 he1 _ => al_exact fun m2 w3 e3 a3 he3 _ => ?_
  have a13 := a1.ext he3
  have hw : ∃ os, w3 = Sort.grow w os := ⟨_, by rw [e3, e1, Sort.grow_grow]⟩
  have he := he1.trans he3
  refine ⟨_, by rw [add_mk, a13.cell]; rfl, _, by rw [add_mk, a3.cell]; rfl, ?_⟩
  refine br_if (fun h => ⟨?_, hw, he⟩) (fun h => ?_)
  · simp [wrs, h]
  · refine ⟨_, by rw [add_mk, a13.cell]; rfl, _, by rw [add_mk, a3.cell]; rfl, ?_⟩
    refine br_iff.2 ⟨fun e => ?_, fun e => ⟨?_, hw, he⟩⟩
    · have e : x.rank = y.rank := by simpa using e
      refine ⟨_, by rw [a13.cell]; rfl, _, by rw [a3.cell]; rfl, ?_, hw, he⟩
      simp [wrs, e]
    · have e : ¬ x.rank = y.rank := by simpa using e
      simp only [wrs]
      rw [decide_eq_false]
      omega

theorem room1_c {x y : Wn} : Cs Try.prog shelf_Shelf_room_1_n #[.agg #[.int .u32 x.id, .int .i64 x.rank, .int .i64 x.bytes], .agg #[.int .u32 y.id, .int .i64 y.rank, .int .i64 y.bytes]] w
    (Ret fun v w' => v = .int .i64 (cfW x y) ∧ (∃ os, w' = Sort.grow w os) ∧ Ext w w') := by
  apply shelf_Shelf_room_1_ok
  unfold shelf_Shelf_room_1
  refine al_exact fun m0 w1 e1 a1 he1 _ => al_exact fun m2 w3 e3 a3 he3 _ => ?_
  have a13 := a1.ext he3
  refine ⟨_, _, _, a13.all rfl, _, _, _, a3.all rfl, ?_⟩
  refine cl_ret (worse_c (x := x) (y := y)) ?_
  rintro v w4 ⟨rfl, ⟨os, e4⟩, he4⟩
  have hw : ∃ os, w4 = Sort.grow w os := ⟨_, by rw [e4, e3, e1, Sort.grow_grow, Sort.grow_grow]⟩
  have he := (he1.trans he3).trans he4
  refine ⟨_, rfl, br_iff.2 ⟨fun h => ⟨?_, hw, he⟩, fun h => ⟨?_, hw, he⟩⟩⟩
  · simp [cfW, h]
  · simp [cfW, h]

/-- Those who are there, in cells. -/
def flatW (L : List Wn) : List Value := L.flatMap encW

theorem flatW_len (L : List Wn) : (flatW L).length = L.length * 3 := by
  induction L with
  | nil => rfl
  | cons x L ih => simp [flatW, encW] at ih ⊢; omega

theorem flatW_get : ∀ (L : List Wn) (i j : Nat), i < L.length → j < 3 → (flatW L)[i * 3 + j]? = (encW L[i]!)[j]?
  | [], i, j, h, _ => by simp at h
  | x :: L, 0, j, h, hj => by
    show (encW x ++ flatW L)[0 * 3 + j]? = _
    rw [List.getElem?_append_left (by simp [encW]; omega)]; simp
  | x :: L, i + 1, j, h, hj => by
    show (encW x ++ flatW L)[(i + 1) * 3 + j]? = _
    rw [List.getElem?_append_right (by simp [encW]; omega)]
    have := flatW_get L i j (by simpa using h) hj
    rw [show (i + 1) * 3 + j - (encW x).length = i * 3 + j by simp [encW]; omega, this]
    simp

theorem flatK_flatW (d : Array Wn) : (flatK encW 3 d).toList = flatW d.toList := by
  apply List.ext_getElem?
  intro t
  by_cases ht : t < d.size * 3
  · have h1 := get_flatK encW 3 d t ht
    have h2 : t < (flatK encW 3 d).size := by simp; omega
    rw [Array.getElem?_toList, Array.getElem?_eq_getElem h2]
    rw [getElem!_pos _ t h2] at h1
    rw [h1]
    have h3 := flatW_get d.toList (t / 3) (t % 3) (by simp; omega) (Nat.mod_lt _ (by omega))
    rw [show t / 3 * 3 + t % 3 = t by omega] at h3
    rw [h3]
    have hj : t % 3 < 3 := Nat.mod_lt _ (by omega)
    have e : d.toList[t / 3]! = d[t / 3]! := by
      rw [getElem!_pos d.toList _ (by simp; omega), getElem!_pos d _ (by omega)]; simp
    rw [e, getElem!_pos _ _ (by simp [encW]; omega), List.getElem?_eq_getElem (by simp [encW]; omega)]
  · rw [List.getElem?_eq_none (by simp; omega), List.getElem?_eq_none (by rw [flatW_len]; simp; omega)]

/-- The row of those who are there. -/
abbrev RowW (w : World) (base : Nat) (p : Option Addr) (l c : Nat) (L : List Wn) : Prop := Row w base 65 3 p l c (flatW L)

theorem RowW.lenW {base : Nat} {p : Option Addr} {l c : Nat} {L : List Wn} (h : RowW w base p l c L) : l = L.length := by
  have := Row.len h; rw [flatW_len] at this; omega

theorem sort_c {base : Nat} {p : Option Addr} {l c : Nat} {L : List Wn} (h : RowW w base p l c L) (hs : L.length < 1000000) :
    Cs Try.prog slices_SortFunc_api_Want_api_Want_n #[.slice p l c, .func (.func shelf_Shelf_room_1_n) #[] #[]] w
      (Ret fun _ w' => ∃ L', RowW w' base p l c L' ∧ L'.Perm L ∧ L'.Pairwise (fun a b => wrs b a = false) ∧ Chg (rowS (.slice p l c)) w w') := by
  have hl := h.lenW
  rcases h.2 with ⟨hv, h0⟩ | ⟨g, cap, cur, hv, hbg, hat, hlc, hcm, hcs, htk⟩
  · cases hv
    have hL : L = [] := List.eq_nil_of_length_eq_zero (by omega)
    subst hL
    apply slices_SortFunc_api_Want_api_Want_ok
    unfold slices_SortFunc_api_Want_api_Want
    rw [show IntKind.wrap .u64 ((0 : Nat) : Int) = 0 by decide]
    refine cl_ret (Len_c (by omega) (by omega)) ?_
    rintro v w1 ⟨⟨n, rfl⟩, rfl⟩
    refine ⟨_, rfl, ?_⟩
    refine cl_ret (R := fun _ w' => w' = w1) ?_ ?_
    · apply slices_pdqsortCmpFunc_api_Want_ok
      unfold slices_pdqsortCmpFunc_api_Want
      refine lp_step (fun _ st w' => w' = w1 ∧ st.1 = 0 ∧ st.2.1 = 0) 0 ⟨rfl, rfl, rfl⟩ ?_
      rintro _ _ ⟨a, b, rest⟩ w2 ⟨rfl, ha, hb⟩ K _
      simp only [] at ha hb
      subst ha hb
      refine br_if (fun _ => ?_) (fun h => absurd (show IntKind.wrap .i64 ((0 : Int) - 0) ≤ 12 by decide) h)
      refine cl_ret (R := fun _ w' => w' = w2) ?_ (fun v w' e => e)
      apply slices_insertionSortCmpFunc_api_Want_ok
      unfold slices_insertionSortCmpFunc_api_Want
      rw [show IntKind.wrap .i64 (0 + 1) = 1 by decide]
      refine lp_step (fun _ st w' => w' = w2 ∧ st = 1) 0 ⟨rfl, rfl⟩ ?_
      rintro _ _ _ w3 ⟨rfl, rfl⟩ K _
      exact br_if (fun h => absurd h (show ¬ (1 : Int) < 0 by decide)) (fun _ => rfl)
    · rintro v w2 rfl
      exact ⟨[], h, List.Perm.refl _, by simp, Chg.refl _ _⟩
  · cases hv
    have hsz : L.toArray.size = l := by simp [hl]
    have hlen : (flatK encW 3 L.toArray).size = l * 3 := by simp [hl]
    have hcells : ∀ j, j < l * 3 → cur[j]? = (flatW L)[j]? := fun j hj => by
      rw [← htk, List.getElem?_take, if_pos hj]; simp
    have hH : HoldsK encW 3 w g 0 L.toArray := by
      intro j hj
      rw [hlen] at hj
      have hA : At w g cur 65 := hat
      refine ⟨?_, hA.frozen _⟩
      rw [hA.cell, Nat.zero_add, hcells j hj]
      have := congrArg (fun l => l[j]?) (flatK_flatW L.toArray)
      simp only at this
      rw [← this, Array.getElem?_toList, Array.getElem?_eq_getElem (by rw [hlen]; exact hj)]
      rw [getElem!_pos _ j (by rw [hlen]; exact hj)]; rfl
    have eg : ∀ args w, (callFunc shelf_Shelf_room_1_n args).run Try.prog w = .ok (.enter shelf_Shelf_room_1_n args) w := run_callFunc (by kernel_rfl)
    have hcmp : CmpLays Try.prog shelf_Shelf_room_1_n #[] encW 3 cfW g 0 L.toArray.size w := fun m os dk _ x y => by
      refine Calls.mono (room1_c (x := x) (y := y)).2 ?_
      intro e w' he
      cases e with
      | returned v => obtain ⟨rfl, ⟨os', hw⟩, _⟩ := he; exact ⟨rfl, 0, os', hw⟩
      | panicked => exact he.elim
      | outgrown => exact he.elim
    have hcon := AnyQ.slices_SortFunc Try.sortWant 3 Try.isAgg65 Try.sizeOf65 encW (fun _ => rfl) (fun x v hv => by simp [encW] at hv; rcases hv with rfl | rfl | rfl <;> rfl) cfW swo_cfW shelf_Shelf_room_1_n #[] g 0 c L.toArray w eg hcmp hH (lt_of_heap hat) (by simp; omega)
    rw [hsz] at hcon
    refine ⟨by kernel_rfl, Calls.mono hcon ?_⟩
    rintro e w' ⟨rfl, d', n, os, hp, hso, rfl⟩
    obtain ⟨hd1, _, hd3⟩ := hp
    have hd1' : d'.size = l := by rw [hd1]; exact hsz
    have hfull : ∀ (d : Array Wn), d.size = l → d.extract 0 l = d := fun d hd => by rw [← hd]; simp
    rw [hfull d' hd1', hfull L.toArray hsz] at hd3
    have hheap : ∀ b o, w.heap[b]? = some o → b ≠ g → (sortWorldK encW 3 w g 0 n d' os).heap[b]? = some o := by
      intro b o hb hne
      show ((putRowK encW 3 (Sort.ahead w n) g 0 d').heap ++ os)[b]? = some o
      rw [Array.getElem?_append_left (by simp [putRowK]; exact lt_of_heap hb)]
      show ((w.heap.modify g _))[b]? = some o
      rw [Array.getElem?_modify, if_neg (fun e => hne e.symm)]; exact hb
    have hlenF : (flatK encW 3 d').size = l * 3 := by simp [hd1']
    have hg : (sortWorldK encW 3 w g 0 n d' os).heap[g]? = some (.cells (Sort.putCells id 0 (flatK encW 3 d') cur) 65 (0, 0)) := by
      show ((putRowK encW 3 (Sort.ahead w n) g 0 d').heap ++ os)[g]? = _
      rw [Array.getElem?_append_left (by simp [putRowK]; exact lt_of_heap hat)]
      show ((w.heap.modify g _))[g]? = _
      rw [Array.getElem?_modify, if_pos rfl, hat]; rfl
    refine ⟨d'.toList, ⟨by rw [flatW_len]; simp [hd1'], .inr ⟨g, c, _, rfl, hbg, hg, hlc, hcm, by simp [Sort.putCells, hcs], ?_⟩⟩, by simpa using hd3, ?_, ?_⟩
    · apply List.ext_getElem?
      intro j
      rw [List.getElem?_take]
      by_cases hj : j < l * 3
      · rw [if_pos hj, Array.getElem?_toList]
        have hjc : j < cur.size := by rw [hcs]; exact Nat.lt_of_lt_of_le hj (Nat.mul_le_mul_right 3 hlc)
        simp only [Sort.putCells, Array.getElem?_mapIdx, Array.getElem?_eq_getElem hjc, Option.map_some, hlenF]
        rw [if_pos ⟨by omega, by omega⟩, ← flatK_flatW, Array.getElem?_toList, Array.getElem?_eq_getElem (by rw [hlenF]; exact hj), Nat.sub_zero, getElem!_pos _ j (by rw [hlenF]; exact hj)]; rfl
      · rw [if_neg hj, List.getElem?_eq_none (by rw [flatW_len]; simp; omega)]
    · rw [List.pairwise_iff_getElem]
      intro i j hi hj hij
      have := hso i j (by omega) hij (by simp at hj; omega)
      rw [ltOf_cfW, getElem!_pos d' j (by simpa using hj), getElem!_pos d' i (by simpa using hi)] at this
      simpa using this
    · refine ⟨by simp [sortWorldK, putRowK, Sort.grow, Sort.ahead], fun b o hb hne => hheap b o hb fun e => hne (by simp [rowS, Value.ownBlock, e]), rfl, rfl, rfl⟩
end Go.SR
