/- The layer SR: what is done to maps with whole numbers as keys. No program in sight. -/
import Derived.Test.YtmmcihbcceahkaaB3
namespace Go.SR
open Go
open Go.ChangeMaps (setBlock)

variable {P : Program}

theorem chg_setBlock (w : World) (b : Nat) (o o' : Obj) (h : w.heap[b]? = some o) : Chg (fun x => x = b) w (setBlock w b o') ∧ (setBlock w b o').heap[b]? = some o' := by
  have hlt := lt_of_heap h
  refine ⟨⟨?_, fun c p hp hc => ?_, rfl, rfl, rfl⟩, ?_⟩
  · simp [setBlock]
  · simp only [setBlock, Array.getElem?_setIfInBounds]
    rw [if_neg (fun e => hc e.symm)]; exact hp
  · simp [setBlock, hlt]

/-- A look into a map. -/
theorem look_step {t kt e : TypeId} {q : IntKind} {z : Value} {w : World} {b : Nat} {m : List (Int × Value)} {k : Int} {c : Bool} {F : Value → Fact → Prop}
    (ht : P.underlying t = some (.map kt e)) (hk : P.underlying kt = some (.int q)) (hz : ∀ w : World, (zeroValue e).run P w = .ok z w) (h : MapAt w b q m)
    (hF : ∀ f, F (if c then .tuple #[(lk m k).getD z, .bool (lk m k).isSome] else (lk m k).getD z) f) : mrd P (Instr.lookup t (.map (some b)) (.int q k) c) (some b) w F := by
  obtain ⟨o, ho, hm⟩ := h
  obtain ⟨⟨es, cl, rfl, he, _⟩, _⟩ := hm
  refine ⟨es, cl, _, fun c hc => by cases hc; exact ho, fun w' hw' => ?_, hF _⟩
  have hb' : w'.heap[b]? = some (.map es cl) := hw' b rfl
  have hf := run_findKey (k := k) w' hk he
  have hl := ix_lk m k 0
  simp [Instr.lookup, run_underlying ht, MapKept.run_getObj_map hb', Result.andThen, run_checkKey _ 9999 _ hk]
  rw [hf]
  cases hx : ix m k 0 with
  | none => rw [hx] at hl; simp at hl; simp [← hl, hz, Result.andThen]
  | some r => rw [hx] at hl; simp at hl; simp [← hl]

theorem modify_map {α β : Type} (f : α → β) (g : α → α) (h : β → β) (hfg : ∀ a, f (g a) = h (f a)) : ∀ (l : List α) (i : Nat), (l.modify i g).map f = (l.map f).modify i h
  | [], i => by simp
  | a :: l, 0 => by simp [hfg]
  | a :: l, i + 1 => by simp [modify_map f g h hfg l i]

theorem born_modify (k v : Value) : ∀ (l : List MapEntry) (i : Nat), (l.modify i fun e => { e with key := k, val := v }).map (·.born) = l.map (·.born)
  | [], i => by simp
  | a :: l, 0 => by simp
  | a :: l, i + 1 => by simp [born_modify k v l i]

theorem ix_ins {q : IntKind} {k : Int} {v : Value} : ∀ (m : List (Int × Value)) (j i : Nat) (x : Value), ix m k j = some (i, x) →
    j ≤ i ∧ (m.map (fun x => ((.int q x.1 : Value), x.2))).modify (i - j) (fun _ => (.int q k, v)) = (ins m k v).map fun x => (.int q x.1, x.2)
  | [], j, i, x, h => by simp [ix] at h
  | y :: m, j, i, x, h => by
    unfold ix at h
    unfold ins
    split at h
    · rename_i e
      cases h
      rw [if_pos e]
      simp
    · rename_i e
      obtain ⟨h1, h2⟩ := ix_ins (q := q) (v := v) m (j + 1) i x h
      rw [if_neg e]
      refine ⟨by omega, ?_⟩
      rw [show i - j = (i - (j + 1)) + 1 by omega]
      simp only [List.map_cons, List.modify_succ_cons, h2]

theorem ix_none_ins {q : IntKind} {k : Int} {v : Value} : ∀ (m : List (Int × Value)) (j : Nat), ix m k j = none →
    (m.map (fun x => ((.int q x.1 : Value), x.2))) ++ [(.int q k, v)] = (ins m k v).map fun x => (.int q x.1, x.2)
  | [], j, _ => by simp [ins]
  | y :: m, j, h => by
    unfold ix at h
    unfold ins
    split at h
    · cases h
    · rename_i e
      rw [if_neg e]
      simp only [List.map_cons, List.cons_append, ix_none_ins m (j + 1) h]

theorem ix_key {q : IntKind} {k : Int} : ∀ (l : List MapEntry) (m : List (Int × Value)) (j i : Nat) (x : Value), l.map (fun e => (e.key, e.val)) = m.map (fun x => ((.int q x.1 : Value), x.2)) → ix m k j = some (i, x) →
    j ≤ i ∧ ∃ e, l[i - j]? = some e ∧ e.key = .int q k
  | [], [], j, i, x, _, h => by simp [ix] at h
  | [], y :: m, j, i, x, h', h => by simp at h'
  | e :: l, [], j, i, x, h', h => by simp at h'
  | e :: l, y :: m, j, i, x, h', h => by
    simp only [List.map_cons, List.cons.injEq, Prod.mk.injEq] at h'
    obtain ⟨⟨hk, _⟩, ht⟩ := h'
    unfold ix at h
    split at h
    · rename_i e1
      cases h
      exact ⟨Nat.le_refl _, e, by simp, by rw [hk, e1]⟩
    · obtain ⟨h1, e', h2, h3⟩ := ix_key l m (j + 1) i x ht h
      refine ⟨by omega, e', ?_, h3⟩
      rw [show i - j = (i - (j + 1)) + 1 by omega]
      simpa using h2

theorem keyStays {w : World} {q : IntKind} {k : Int} : (Instr.keyThatStays (.int q k) (.int q k)).run P w = .ok (.int q k) w := by
  have h : Instr.sameBits 10000 (.int q k) (.int q k) = true := by cases q <;> simp [Instr.sameBits]
  simp [Instr.keyThatStays, h]

theorem update_step {t kt e : TypeId} {q : IntKind} {w : World} {b : Nat} {m : List (Int × Value)} {k : Int} {v : Value} {F : World → Prop}
    (ht : P.underlying t = some (.map kt e)) (hk : P.underlying kt = some (.int q)) (h : MapAt w b q m)
    (hF : ∀ w', MapAt w' b q (ins m k v) → Chg (fun x => x = b) w w' → F w') : rnU P (Instr.mapUpdate t (.map (some b)) (.int q k) v) w F := by
  obtain ⟨o, ho, hm⟩ := h
  obtain ⟨⟨es, cl, rfl, he, hn, hlt⟩, ha⟩ := hm
  have hf := run_findKey (k := k) w hk he
  cases hx : ix m k 0 with
  | none =>
    have h1 := chg_setBlock w b _ (.map (es.push ⟨.int q k, v, cl⟩) (cl + 1)) ho
    refine ⟨setBlock w b (.map (es.push ⟨.int q k, v, cl⟩) (cl + 1)), ?_, hF _ ⟨_, h1.2, ⟨⟨_, _, rfl, ?_, ?_, ?_⟩, ins_apart ha⟩⟩ h1.1⟩
    · rw [hx] at hf
      simp [Instr.mapUpdate, run_underlying ht, MapKept.run_getObj_map ho, run_checkKey _ 9999 _ hk, hf, MapKept.run_setObj_map _ ho, Result.andThen, setBlock]
    · show (es.push _).toList.map _ = _
      rw [Array.toList_push, List.map_append, he]
      exact ix_none_ins m 0 hx
    · rw [Array.toList_push, List.map_append, List.nodup_append]
      refine ⟨hn, by simp, fun a ha b hb => ?_⟩
      obtain ⟨x, hx', rfl⟩ := List.mem_map.1 ha
      have := hlt x hx'
      simp at hb; subst hb; omega
    · intro x hx'
      rw [Array.toList_push] at hx'
      rcases List.mem_append.1 hx' with h | h
      · have := hlt x h; omega
      · simp at h; subst h; simp
  | some r =>
    obtain ⟨i, x⟩ := r
    obtain ⟨_, e0, hi0, hek⟩ := ix_key es.toList m 0 i x he hx
    have h1 := chg_setBlock w b _ (.map (es.modify i fun e => { e with key := .int q k, val := v }) cl) ho
    refine ⟨setBlock w b (.map (es.modify i fun e => { e with key := .int q k, val := v }) cl), ?_, hF _ ⟨_, h1.2, ⟨⟨_, _, rfl, ?_, ?_, ?_⟩, ins_apart ha⟩⟩ h1.1⟩
    · rw [hx] at hf
      have hi0' : es[i]? = some e0 := by simpa using hi0
      simp [Instr.mapUpdate, run_underlying ht, MapKept.run_getObj_map ho, run_checkKey _ 9999 _ hk, hf, hi0', hek, keyStays, MapKept.run_setObj_map _ ho, Result.andThen, setBlock]
    · show (es.modify i _).toList.map _ = _
      rw [Array.toList_modify, modify_map _ _ (fun _ => (.int q k, v)) (fun a => rfl), he]
      exact (ix_ins m 0 i x hx).2
    · rw [Array.toList_modify, born_modify]; exact hn
    · intro y hy
      rw [Array.toList_modify] at hy
      have hy' : y.born ∈ (es.toList.modify i fun e => { e with key := .int q k, val := v }).map (·.born) := List.mem_map.2 ⟨y, hy, rfl⟩
      rw [born_modify] at hy'
      obtain ⟨z, hz, e⟩ := List.mem_map.1 hy'
      rw [← e]; exact hlt z hz

theorem ix_del {q : IntKind} {k : Int} : ∀ (m : List (Int × Value)) (j i : Nat) (x : Value), (m.map Prod.fst).Nodup → ix m k j = some (i, x) →
    j ≤ i ∧ (m.map (fun x => ((.int q x.1 : Value), x.2))).eraseIdx (i - j) = (del m k).map fun x => (.int q x.1, x.2)
  | [], j, i, x, _, h => by simp [ix] at h
  | y :: m, j, i, x, hn, h => by
    simp only [List.map_cons, List.nodup_cons] at hn
    unfold ix at h
    unfold del
    split at h
    · rename_i e
      cases h
      subst e
      have : (List.filter (fun x => decide (x.1 ≠ y.1)) m) = m := by
        rw [List.filter_eq_self]
        intro z hz
        simp only [decide_eq_true_eq]
        exact fun e => hn.1 (e ▸ List.mem_map.2 ⟨z, hz, rfl⟩)
      simp only [List.map_cons, Nat.sub_self, List.eraseIdx_cons_zero, Nat.le_refl, true_and]
      rw [List.filter_cons, if_neg (by simp), this]
    · rename_i e
      obtain ⟨h1, h2⟩ := ix_del (q := q) m (j + 1) i x hn.2 h
      refine ⟨by omega, ?_⟩
      rw [show i - j = (i - (j + 1)) + 1 by omega]
      simp only [List.map_cons, List.eraseIdx_cons_succ, h2]
      rw [List.filter_cons, if_pos (by simpa using e)]
      simp only [List.map_cons]
      rfl

theorem map_eraseIdx' {α β : Type} (f : α → β) : ∀ (l : List α) (i : Nat), (l.eraseIdx i).map f = (l.map f).eraseIdx i
  | [], i => by simp
  | a :: l, 0 => by simp
  | a :: l, i + 1 => by simp [map_eraseIdx' f l i]

theorem delete_step {t kt e ty : TypeId} {q : IntKind} {w : World} {b : Nat} {m : List (Int × Value)} {k : Int} {F : Value → World → Prop}
    (ht : P.underlying t = some (.map kt e)) (hk : P.underlying kt = some (.int q)) (h : MapAt w b q m)
    (hF : ∀ w', MapAt w' b q (del m k) → Chg (fun x => x = b) w w' → F (.tuple #[]) w') : rnV P (Builtin.delete_ #[t, kt] ty #[.map (some b), .int q k]) w F := by
  obtain ⟨o, ho, hm⟩ := h
  obtain ⟨⟨es, cl, rfl, he, hn, hlt⟩, ha⟩ := hm
  have hf := run_findKey (k := k) w hk he
  have hda : ((del m k).map Prod.fst).Nodup := by rw [del_keys]; exact ha.filter _
  cases hx : ix m k 0 with
  | none =>
    have h1 := chg_setBlock w b _ (.map es cl) ho
    have hd : del m k = m := by
      have hl := ix_lk m k 0
      rw [hx] at hl
      have := lk_none.1 hl.symm
      unfold del
      rw [List.filter_eq_self]
      intro z hz
      simp only [decide_eq_true_eq]
      exact fun e => this (e ▸ List.mem_map.2 ⟨z, hz, rfl⟩)
    refine ⟨_, setBlock w b (.map es cl), ?_, hF _ ⟨_, h1.2, ⟨⟨_, _, rfl, by rw [hd]; exact he, hn, hlt⟩, hda⟩⟩ h1.1⟩
    rw [hx] at hf
    simp [Builtin.delete_, run_underlying ht, MapKept.run_getObj_map ho, run_checkKey _ 9999 _ hk, hf, MapKept.run_setObj_map _ ho, Result.andThen, setBlock]
  | some r =>
    obtain ⟨i, x⟩ := r
    have h1 := chg_setBlock w b _ (.map (es.eraseIdxIfInBounds i) cl) ho
    obtain ⟨_, h2⟩ := ix_del (q := q) m 0 i x ha hx
    have hsub : (es.eraseIdxIfInBounds i).toList.Sublist es.toList := by
      rw [Array.toList_eraseIdxIfInBounds]; exact List.eraseIdx_sublist _ _
    refine ⟨_, setBlock w b (.map (es.eraseIdxIfInBounds i) cl), ?_, hF _ ⟨_, h1.2, ⟨⟨_, _, rfl, ?_, ?_, ?_⟩, hda⟩⟩ h1.1⟩
    · rw [hx] at hf
      simp [Builtin.delete_, run_underlying ht, MapKept.run_getObj_map ho, run_checkKey _ 9999 _ hk, hf, MapKept.run_setObj_map _ ho, Result.andThen, setBlock]
    · show (es.eraseIdxIfInBounds i).toList.map _ = _
      rw [Array.toList_eraseIdxIfInBounds, map_eraseIdx', he]; exact h2
    · exact hn.sublist (hsub.map _)
    · exact fun y hy => hlt y (hsub.mem hy)

theorem mlen_step {t kt e ty : TypeId} {q : IntKind} {w : World} {b : Nat} {m : List (Int × Value)} (ht : P.underlying t = some (.map kt e)) (h : MapAt w b q m) :
    (Builtin.len_ #[t] ty #[.map (some b)]).run P w = .ok (.int .i64 m.length) w := by
  obtain ⟨o, ho, hm⟩ := h
  obtain ⟨⟨es, cl, rfl, he, hn, hlt⟩, ha⟩ := hm
  have : es.size = m.length := by
    have := congrArg List.length he
    simpa [ents] using this
  simp [Builtin.len_, run_underlying ht, MapKept.run_getObj_map ho, Result.andThen, goInt, this]
end Go.SR
