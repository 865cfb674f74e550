/- The layer SR: a range over a map with whole numbers as keys. No program in sight. -/
import Derived.Test.YtmmcihbcceahkaaB4
namespace Go.SR
open Go
open Go.ChangeMaps (setBlock)

variable {P : Program}

theorem grown_of_chg {w w' : World} {r : Nat} (h : Chg (fun x => x = r) w w') : w.grownBy w' (some r) := by
  refine ⟨h.os, h.tape, h.output, h.size, fun k hk hne => ?_⟩
  have hs : w.heap[k]? = some w.heap[k] := Array.getElem?_eq_getElem hk
  rw [hs]
  exact h.keep k _ hs fun e => hne (by rw [e])

theorem grown_of_ext {w w' : World} (h : Ext w w') (row : Option Nat) : w.grownBy w' row := by
  refine ⟨h.os, h.tape, h.output, h.size, fun k hk _ => ?_⟩
  have hs : w.heap[k]? = some w.heap[k] := Array.getElem?_eq_getElem hk
  rw [hs]
  exact h.keep k _ hs id

/-- An iteration r over the map b, at which these keys are still to come. -/
def IterAt (w : World) (r b : Nat) (q : IntKind) (m : List (Int × Value)) (left : List Int) : Prop :=
  ∃ es c since seen c0, w.heap[b]? = some (.map es c) ∧ w.heap[r]? = some (.mapIter (some b) since seen c0) ∧ MapO q m (.map es c) ∧ (∀ e ∈ es.toList, e.born < since) ∧ since ≤ c0 ∧ since ≤ c ∧
    (es.toList.filter fun e => !seen.contains e.born).map (·.key) = left.map (.int q)

theorem IterAt.map {w : World} {r b : Nat} {q : IntKind} {m : List (Int × Value)} {left : List Int} (h : IterAt w r b q m left) : MapAt w b q m := by
  obtain ⟨es, c, since, seen, c0, hb, hr, hm, _⟩ := h
  exact ⟨_, hb, hm⟩

theorem IterAt.chg {S : Nat → Prop} {w w' : World} {r b : Nat} {q : IntKind} {m : List (Int × Value)} {left : List Int} (h : IterAt w r b q m left) (hc : Chg S w w') (hr : ¬ S r) (hb : ¬ S b) : IterAt w' r b q m left := by
  obtain ⟨es, c, since, seen, c0, h1, h2, h3⟩ := h
  exact ⟨es, c, since, seen, c0, hc.keep _ _ h1 hb, hc.keep _ _ h2 hr, h3⟩

theorem IterAt.walk {w : World} {r b : Nat} {q : IntKind} {m : List (Int × Value)} {left : List Int} (h : IterAt w r b q m left) : ∃ since seen c0, w.heap[r]? = some (.mapIter (some b) since seen c0) := by
  obtain ⟨es, c, since, seen, c0, _, hr, _⟩ := h
  exact ⟨_, _, _, hr⟩

theorem IterAt.ne {w : World} {r b : Nat} {q : IntKind} {m : List (Int × Value)} {left : List Int} (h : IterAt w r b q m left) : r ≠ b := by
  obtain ⟨es, c, since, seen, c0, hb, hr, _⟩ := h
  rintro rfl
  have := hb.symm.trans hr
  cases this

theorem range_run {t kt e : TypeId} {q : IntKind} {w : World} {b : Nat} {m : List (Int × Value)} (ht : P.underlying t = some (.map kt e)) (h : MapAt w b q m) :
    ∃ w', (Instr.range t (.map (some b))).run P w = .ok (.pointer (some ⟨w.heap.size, 0, none⟩)) w' ∧ IterAt w' w.heap.size b q m (m.map Prod.fst) ∧ Ext w w' ∧ w'.heap.size = w.heap.size + 1 := by
  obtain ⟨o, ho, hm⟩ := h
  obtain ⟨⟨es, cl, rfl, he, hn, hlt⟩, ha⟩ := hm
  refine ⟨_, run_range_map w t kt e b es cl ht ho, ⟨es, cl, cl, #[], cl, ?_, heap_alloc_new w _, ⟨⟨es, cl, rfl, he, hn, hlt⟩, ha⟩, hlt, Nat.le_refl _, Nat.le_refl _, ?_⟩, ⟨by simp, fun c p hp _ => ?_, rfl, rfl, rfl⟩, by simp⟩
  · rw [heap_alloc_old w _ (lt_of_heap ho)]; exact ho
  · have e1 : (es.toList.filter fun e => !(#[] : Array Nat).contains e.born) = es.toList := by
      rw [List.filter_eq_self]; intro x _; simp
    rw [e1]
    have := congrArg (List.map Prod.fst) he
    simpa [ents, Function.comp_def] using this
  · rw [heap_alloc_old w _ (lt_of_heap hp)]; exact hp

theorem erase_filter {q : IntKind} : ∀ (l : List MapEntry) (left : List Int) (seen : Array Nat) (e : MapEntry) (x : Int), (l.map (·.born)).Nodup → left.Nodup →
    (l.filter fun e => !seen.contains e.born).map (·.key) = left.map (.int q) → e ∈ l → seen.contains e.born = false → e.key = .int q x →
    (l.filter fun a => !(seen.push e.born).contains a.born).map (·.key) = (left.erase x).map (.int q) ∧ x ∈ left := by
  intro l left seen e x hn hl h he hs hk
  have hfil : (l.filter fun a => !(seen.push e.born).contains a.born) = (l.filter fun a => !seen.contains a.born).filter fun a => a.born ≠ e.born := by
    rw [List.filter_filter]
    congr 1
    funext a
    by_cases hab : a.born = e.born
    · simp [hab]
    · simp [hab]
  have heF : e ∈ l.filter fun a => !seen.contains a.born := by simp [he]; simpa using hs
  generalize hF : (l.filter fun a => !seen.contains a.born) = F at h heF hfil
  have hnF : (F.map (·.born)).Nodup := by rw [← hF]; exact hn.sublist (List.filter_sublist.map _)
  rw [hfil]
  clear hfil hF he hs hn
  induction F generalizing left with
  | nil => simp at heF
  | cons a F ih =>
    cases left with
    | nil => simp at h
    | cons y left =>
      simp only [List.map_cons, List.cons.injEq] at h
      obtain ⟨ha, ht⟩ := h
      simp only [List.map_cons, List.nodup_cons] at hnF
      rcases List.mem_cons.1 heF with rfl | heF'
      · have hxy : y = x := by rw [hk] at ha; cases ha; rfl
        subst hxy
        have hall : (F.filter fun b => decide (b.born ≠ e.born)) = F := by
          rw [List.filter_eq_self]
          intro b hb
          simp only [decide_eq_true_eq]
          exact fun e1 => hnF.1 (e1 ▸ List.mem_map.2 ⟨b, hb, rfl⟩)
        rw [List.filter_cons, if_neg (by simp), hall, ht]
        simp
      · have hne : a.born ≠ e.born := fun e1 => hnF.1 (e1 ▸ List.mem_map.2 ⟨e, heF', rfl⟩)
        obtain ⟨h1, h2⟩ := ih left (List.nodup_cons.1 hl).2 ht heF' hnF.2
        have hyx : y ≠ x := fun e1 => (List.nodup_cons.1 hl).1 (e1 ▸ h2)
        rw [List.filter_cons, if_pos (by simpa using hne), List.erase_cons_tail (by simpa using hyx)]
        simp only [List.map_cons, h1, ha]
        exact ⟨trivial, List.mem_cons_of_mem _ h2⟩

theorem next_run {ty : TypeId} {q : IntKind} {w : World} {r b : Nat} {m : List (Int × Value)} {left : List Int} (h : IterAt w r b q m left) (hl : left.Nodup) :
    (left = [] ∧ (Instr.next (.pointer (some ⟨r, 0, none⟩)) false ty).run P w = .ok (.tuple #[.bool false]) w) ∨
    ∃ x v w', x ∈ left ∧ (x, v) ∈ m ∧ (Instr.next (.pointer (some ⟨r, 0, none⟩)) false ty).run P w = .ok (.tuple #[.bool true, .int q x, v]) w' ∧ IterAt w' r b q m (left.erase x) ∧ Chg (fun y => y = r) w w' ∧ w'.heap.size = w.heap.size ∧
      (Instr.entry (.pointer (some ⟨r, 0, none⟩))).run P w' = .ok (.tuple #[.int q x, v]) w' := by
  have hne := h.ne
  obtain ⟨es, c, since, seen, c0, hb, hr, hm, hold, hsc, hsk, hleft⟩ := h
  obtain ⟨⟨es', c', e1, he, hn, hlt⟩, ha⟩ := hm
  cases e1
  rcases run_next_at (P := P) w ty r b since c0 seen es c hr hb hold hsc with ⟨h0, hrun⟩ | ⟨e, hel, w1, hal, hrun⟩
  · refine .inl ⟨?_, hrun⟩
    have h0' : (leftOf es seen).toList = [] := by rw [Array.size_eq_zero_iff.1 h0]
    have : (es.toList.filter fun e => !seen.contains e.born) = [] := by rw [← h0', leftOf, Array.toList_filter]
    rw [this] at hleft
    simpa using hleft.symm
  · have hel' : e ∈ es.toList.filter fun e => !seen.contains e.born := by rw [leftOf, Array.toList_filter] at hel; exact hel
    have hel'' := List.mem_filter.1 hel'
    have hmem : (e.key, e.val) ∈ m.map (fun x => ((.int q x.1 : Value), x.2)) := by rw [← he]; exact List.mem_map.2 ⟨e, hel''.1, rfl⟩
    obtain ⟨⟨x, v⟩, hxm, hxe⟩ := List.mem_map.1 hmem
    simp only [Prod.mk.injEq] at hxe
    obtain ⟨h1, h2⟩ := erase_filter es.toList left seen e x hn hl hleft hel''.1 (by simpa using hel''.2) hxe.1.symm
    have hr1 : w1.heap[r]? = some (.mapIter (some b) since seen c0) := by rcases hal with rfl | rfl <;> exact hr
    have hset := chg_setBlock w1 r _ (.mapIter (some b) since (seen.push e.born) c) hr1
    have hc : Chg (fun y => y = r) w (setBlock w1 r (.mapIter (some b) since (seen.push e.born) c)) := by
      have h01 : Ext w w1 := by
        rcases hal with rfl | rfl
        · exact Ext.refl _
        · exact ⟨Nat.le_refl _, fun _ _ hb _ => hb, rfl, rfl, rfl⟩
      exact h01.any.trans hset.1
    have hb' := hc.keep _ _ hb (fun e => hne e.symm)
    refine .inr ⟨x, v, _, h2, hxm, ?_, ⟨es, c, since, seen.push e.born, c, hb', hset.2, ⟨⟨es, c, rfl, he, hn, hlt⟩, ha⟩, hold, hsk, hsk, h1⟩, hc, ?_, ?_⟩
    · rw [hxe.1, hxe.2]; exact hrun
    · rcases hal with rfl | rfl <;> simp [setBlock]
    · rw [hxe.1, hxe.2]; exact run_entry_at _ r b since seen es c e hset.2 hb' hel''.1 hn
end Go.SR
