/- Contracts: basis.Solve, cut.Join, basin.Basin. -/
import Derived.Test.YtmmcihbcceahkaaF4
import Derived.Test.YtmmcihbcceahkaaH6
namespace Go.SR
open Go Go.Proofs

variable {w : World}

/-- What the symbols are that solve what came. -/
def SolOk (k size : Nat) (R : List V) (outs : List (List By)) : Prop :=
  outs.length = k ∧ ∀ i, i < k → (outs.getD i []).length = size ∧ ∃ u, Sp (fun x => x ∈ R) u ∧ (∀ j, j < k → u j = if i = j then 1#8 else 0#8) ∧ ∀ t, t < size → vec (outs.getD i []) t = u (k + t)

/-- There is but one such list. -/
theorem SolOk.unique {k size : Nat} {R : List V} {P : List Nat} {X : Nat → V} {o o' : List (List By)} (hs : Says k R P X) (h : SolOk k size R o) (h' : SolOk k size R o') : o = o' := by
  apply List.ext_getElem (by rw [h.1, h'.1])
  intro i h1 h2
  obtain ⟨l1, u1, a1, b1, c1⟩ := h.2 i (by rw [← h.1]; exact h1)
  obtain ⟨l2, u2, a2, b2, c2⟩ := h'.2 i (by rw [← h.1]; exact h1)
  have hu : u1 = u2 := hs.same a1 a2 fun j hj => by rw [b1 j hj, b2 j hj]
  have e1 : o.getD i [] = o[i] := by rw [List.getD_eq_getElem?_getD, List.getElem?_eq_getElem h1]; rfl
  have e2 : o'.getD i [] = o'[i] := by rw [List.getD_eq_getElem?_getD, List.getElem?_eq_getElem h2]; rfl
  rw [e1] at l1 c1
  rw [e2] at l2 c2
  apply vec_inj (by omega)
  funext t
  by_cases ht : t < size
  · rw [c1 t ht, c2 t ht, hu]
  · rw [vec_ge (by omega), vec_ge (by omega)]

theorem RowB.cap {w : World} {base : Nat} {p : Option Addr} {l c : Nat} {bs : List By} (h : RowB w base p l c bs) : l ≤ c := by
  rcases h.2 with ⟨h1, _⟩ | ⟨g, cap, cur, h1, _, _, h3, _⟩
  · cases h1; simp
  · cases h1; exact h3

theorem lk_of_mem {m : List (Int × Value)} {k : Int} {v : Value} (hn : (m.map Prod.fst).Nodup) (h : (k, v) ∈ m) : lk m k = some v := by
  induction m with
  | nil => simp at h
  | cons x m ih =>
    simp only [List.map_cons, List.nodup_cons] at hn
    rw [lk]
    rcases List.mem_cons.1 h with rfl | h
    · rw [if_pos rfl]
    · rw [if_neg, ih hn.2 h]
      intro e
      exact hn.1 (e ▸ List.mem_map.2 ⟨_, h, rfl⟩)

theorem solve_c {b mb f k size : Nat} {R : List V} (h : BasisOk w b mb f k size R) :
    Cs Try.prog basis_Basis_Solve_n #[.pointer (some ⟨b, 0, none⟩)] w (Ret fun v w' => Ext w w' ∧
      if R.length < k then v = .tuple #[.slice none 0 0, .bool false] else ∃ p l c outs, v = .tuple #[.slice p l c, .bool true] ∧ Lls w' p l outs ∧ SolOk k size R outs ∧ l ≤ c) := by
  have hok := h
  obtain ⟨hbd, P, X, h1, h2⟩ := h
  obtain ⟨m, hm, hk, hl⟩ := h1.mp
  apply basis_Basis_Solve_ok
  unfold basis_Basis_Solve
  refine jn_step (fun _ w' => Ext w w' ∧ ¬ R.length < k) ?_ ?_
  rotate_left
  · refine dr_step fun w1 _ he1 => br_f (nc_s ⟨_, by rw [add_mk, (h1.bb.ext he1).cell]; rfl, ?_⟩)
    refine cl_ret (basisRank_c (hok.ext he1)) ?_
    rintro v w2 ⟨rfl, rfl⟩
    refine ⟨_, rfl, hold_one ?_, br_if (fun hlt => ?_) (fun hge => ?_)⟩
    · show World.cell? _ _ = _
      rw [add_mk, (h1.bb.ext he1).cell]; rfl
    · exact ⟨he1, by rw [if_pos (by omega)]⟩
    · exact ⟨he1, by omega⟩
  rintro _ _ w0 ⟨he0, hge⟩
  have hRk : R.length = k := by
    have : P.length ≤ (List.range k).length := by
      have := h2.piv.nd
      have hs : ∀ x ∈ P, x ∈ List.range k := fun x hx => List.mem_range.2 (h2.lt x hx)
      exact nodup_len this hs
    rw [List.length_range, h2.len] at this
    omega
  have hfull := h2.full hRk
  let outs : List (List By) := (List.range k).map fun j => (X j).drop k
  have hog : ∀ i, i < k → outs[i]? = some ((X i).drop k) := fun i hi => by simp [outs, List.getElem?_range hi]
  refine nc_s ⟨_, by rw [add_mk, (h1.bb.ext he0).cell]; rfl, ?_⟩
  refine lp_step (fun n st w' => ∃ (i : Nat) (vs : List Value), st.2 = i ∧ i ≤ k ∧ Ext w w' ∧ Row w' w.heap.size 22 1 st.1.1 st.1.2.1 st.1.2.2 vs ∧ vs.length = i ∧ (∀ j, j < i → ∃ q ql qc, vs[j]? = some (.slice q ql qc) ∧ RowB w' w.heap.size q ql qc ((X j).drop k)) ∧ n = k - i)
    _ ⟨0, [], rfl, by omega, he0, Row.nil, rfl, fun j hj => by omega, rfl⟩ ?_
  rintro n _ ⟨⟨op, ol, oc⟩, ii⟩ w1 ⟨i, vs, hi, hik, he1, hrow, hvl, hvs, hn⟩ K hK
  simp only [] at hi
  subst hi
  have hrow : Row w1 w.heap.size 22 1 op ol oc vs := hrow
  have hol : ol = i := by have := Row.len hrow; omega
  refine br_if (fun hlt => ?_) (fun hge2 => ?_)
  · simp only [] at hlt
    have hi' : i < k := by omega
    refine dr_step fun w2 _ he2 => ?_
    have he02 : Ext w w2 := Chg.trans he1 he2
    have bb2 := h1.bb.ext he02
    have hm2 := hm.ext he02
    refine nc_s ⟨_, by rw [add_mk, bb2.cell]; rfl, ?_⟩
    refine look_stepH und173 und3 zero179 hm2 fun fct hfct => ?_
    have hik' : (i : Int) ∈ m.map Prod.fst := hk.mem_iff.2 (mem_ks'.2 (hfull i hi'))
    obtain ⟨x, hx, hx1⟩ := List.mem_map.1 hik'
    obtain ⟨q, ql, qc, hv, hqc, hb⟩ := hl x hx
    have hlk : lk m i = some (.slice q ql qc) := by
      obtain ⟨xk, xv⟩ := x
      dsimp only at hx1 hv
      subst hx1 hv
      exact lk_of_mem hm.nodup hx
    refine ⟨q, ql, qc, by dsimp only; rw [hlk]; rfl, ?_⟩
    rw [hx1, Int.toNat_natCast] at hb
    refine nc_s ⟨_, by rw [add_mk, bb2.cell]; rfl, ?_⟩
    have hXl := h1.len i (hfull i hi')
    have hbl := hb.len
    refine pv_from und179 siz5 (by omega) (by omega) ⟨_, _, _, rfl, ?_⟩
    have hb2 := (hb.from' (n := (k : Int).toNat) (by omega) hqc).ext he02
    rw [show ((k : Int)).toNat = k by omega] at hb2 ⊢
    refine cl_ret (cloneL_c hb2 (by rw [List.length_drop]; omega)) ?_
    rintro v w3 ⟨np, nl, nc', rfl, hn3, he3⟩
    have facts : ∀ {w' : World}, At w' b #[.pointer (some ⟨f, 0, none⟩), .int .i64 k, .int .i64 size, .map (some mb)] 175 → w'.heap[mb]? = w2.heap[mb]? → hold [.cell ((⟨b, 0, none⟩ : Addr).add 1) (.int .i64 k), fct, .cell ((⟨b, 0, none⟩ : Addr).add 3) (.map (some mb))] w' := fun hbb hh => by
      refine hold_cons ?_ (hold_cons (hfct _ hh) (hold_one ?_))
      · show World.cell? _ _ = _
        rw [add_mk, hbb.cell]; rfl
      · show World.cell? _ _ = _
        rw [add_mk, hbb.cell]; rfl
    have mbE : ∀ {w' : World}, Ext w2 w' → w'.heap[mb]? = w2.heap[mb]? := fun he => by
      obtain ⟨o, ho, _⟩ := hm2
      rw [ho]; exact he.keep _ _ ho id
    refine ⟨_, _, _, rfl, facts (bb2.ext he3) (mbE he3), ?_⟩
    refine al_step fun m4 w4 a4 he4 hb4 => ⟨facts (bb2.ext (he3.trans he4)) (mbE (he3.trans he4)), ?_⟩
    have he24 := he3.trans he4
    have hrow4 : Row w4 w.heap.size 22 1 op ol oc vs := (Row.ext (Row.ext hrow he2) he24)
    dsimp only
    refine append_step (news := [.slice np nl nc']) (z := .slice none 0 0) (bytes := 24) (m := 1) und76 inf22 rfl (by decide) hrow4 rfl (a4.cellsAt _ 0 fun i hi => by simp at hi; subst hi; rfl) (by simp [Value.oneCell']) (by omega) (by omega) (Nat.le_trans he02.size he24.size) fun p5 c5 w5 hr5 hc5 => ?_
    have hext5 : Ext w w5 := Ext.then (Chg.trans he02 he24) hc5 fun b hb => Row.base hrow4 b hb
    have bb5 := (bb2.ext he24).chg hc5 (Row.not hrow4 (bb2.ext he24) (by decide))
    have mb5 : w5.heap[mb]? = w2.heap[mb]? := by
      rw [← mbE he24]
      obtain ⟨o, ho, _⟩ := hm2.ext he24
      rw [ho]
      refine hc5.keep _ _ ho fun h => ?_
      obtain ⟨cs, hcs⟩ := Row.cells hrow4 mb h
      exact (hm2.ext he24).ne_at hcs rfl
    refine ⟨_, _, _, rfl, facts bb5 mb5, ?_⟩
    rw [w64 (by omega) (by omega)]
    refine hK (k - (i + 1)) _ _ (by omega) ⟨i + 1, vs ++ [.slice np nl nc'], by simp, by omega, hext5, hr5, by simp [hvl], fun j hj => ?_, rfl⟩
    have off5 : Off (rowS (.slice op ol oc)) w4 5 := Row.off hrow4 (by decide)
    by_cases e : j = i
    · subst e
      refine ⟨np, nl, nc', by rw [List.getElem?_append_right (by omega), hvl]; simp, ?_⟩
      exact Row.base_mono (Row.chg (Row.ext hn3 he4) hc5 off5) he02.size
    · obtain ⟨q', l', c', e1, e2⟩ := hvs j (by omega)
      exact ⟨q', l', c', by rw [List.getElem?_append_left (by omega)]; exact e1, Row.chg (Row.ext (Row.ext e2 he2) he24) hc5 off5⟩
  · simp only [] at hge2
    have : i = k := by omega
    subst this
    refine ⟨he1, ?_⟩
    rw [if_neg (by omega)]
    refine ⟨op, ol, oc, outs, rfl, ⟨by simp [outs]; omega, fun j bs hj => ?_⟩, ⟨by simp [outs], fun j hj => ?_⟩, ?_⟩
    · have hjk : j < i := by have := (List.getElem?_eq_some_iff.1 hj).1; simpa [outs] using this
      rw [hog j hjk] at hj
      cases hj
      obtain ⟨q, ql, qc, e1, e2⟩ := hvs j hjk
      have hat := Row.at hrow j [.slice q ql qc] (fun t u ht => by cases t with | zero => simp at ht; subst ht; simpa using e1 | succ t => simp at ht) (by simp)
      obtain ⟨a, ha, hc⟩ := hat.cells
      have hXl := h1.len j (hfull j hjk)
      exact ⟨a, q, ql, qc, ha, hc.get0, e2.cap, e2.byr (by rw [List.length_drop]; omega)⟩
    · have hXl := h1.len j (hfull j hj)
      have e : outs.getD j [] = (X j).drop i := by rw [List.getD_eq_getElem?_getD, hog j hj]; rfl
      rw [e]
      refine ⟨by rw [List.length_drop]; omega, vec (X j), (h2.span _).1 (.of ⟨j, hfull j hj, rfl⟩), fun t ht => h2.piv.one j (hfull j hj) t (hfull t ht), fun t ht => ?_⟩
      simp only [vec, List.getD_eq_getElem?_getD, List.getElem?_drop]
    · rcases hrow.2 with ⟨h1, _⟩ | ⟨g, cap, cur, h1, _, _, h3, _⟩
      · cases h1; simp
      · cases h1; exact h3
end Go.SR
