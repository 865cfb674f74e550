/- The layer SR: walks over maps that are written on the way, looks that stay. No program in sight. -/
import Derived.Test.YtmmcihbcceahkaaB8
namespace Go.SR
open Go
open Go.ChangeMaps (setBlock)

variable {P : Program}

/-- A look into a map; what was seen stays while the map does. -/
theorem look_stepH {t kt e : TypeId} {q : IntKind} {z : Value} {w : World} {b : Nat} {m : List (Int × Value)} {k : Int} {c : Bool} {F : Value → Fact → Prop}
    (ht : P.underlying t = some (.map kt e)) (hk : P.underlying kt = some (.int q)) (hz : ∀ w : World, (zeroValue e).run P w = .ok z w) (h : MapAt w b q m)
    (hF : ∀ f : Fact, (∀ w' : World, w'.heap[b]? = w.heap[b]? → f.holds w') → F (if c then .tuple #[(lk m k).getD z, .bool (lk m k).isSome] else (lk m k).getD z) f) : mrd P (Instr.lookup t (.map (some b)) (.int q k) c) (some b) w F := by
  obtain ⟨o, ho, hm⟩ := h
  obtain ⟨⟨es, cl, rfl, he, _⟩, _⟩ := hm
  refine ⟨es, cl, _, fun c hc => by cases hc; exact ho, fun w' hw' => ?_, hF _ fun w' hw' b' hb' => by cases hb'; rw [hw']; exact ho⟩
  have hb' : w'.heap[b]? = some (.map es cl) := hw' b rfl
  have hf := run_findKey (k := k) w' hk he
  have hl := ix_lk m k 0
  simp [Instr.lookup, run_underlying ht, MapKept.run_getObj_map hb', Result.andThen, run_checkKey _ 9999 _ hk]
  rw [hf]
  cases hx : ix m k 0 with
  | none => rw [hx] at hl; simp at hl; simp [← hl, hz, Result.andThen]
  | some r => rw [hx] at hl; simp at hl; simp [← hl]

theorem len_step {t kt e ty : TypeId} {q : IntKind} {w : World} {b : Nat} {m : List (Int × Value)} {F : Value → Fact → Prop} (ht : P.underlying t = some (.map kt e)) (h : MapAt w b q m)
    (hF : ∀ f : Fact, (∀ w' : World, w'.heap[b]? = w.heap[b]? → f.holds w') → F (.int .i64 m.length) f) : mrd P (Builtin.len_ #[t] ty #[.map (some b)]) (some b) w F := by
  obtain ⟨o, ho, hm⟩ := h
  obtain ⟨⟨es, cl, rfl, he, hn, hlt⟩, ha⟩ := hm
  refine ⟨es, cl, _, fun c hc => by cases hc; exact ho, fun w' hw' => ?_, hF _ fun w' hw' b' hb' => by cases hb'; rw [hw']; exact ho⟩
  exact mlen_step ht ⟨_, hw' b rfl, ⟨⟨es, cl, rfl, he, hn, hlt⟩, ha⟩⟩

theorem range_step {t kt e : TypeId} {q : IntKind} {w : World} {b : Nat} {m : List (Int × Value)} {F : Value → World → Prop} (ht : P.underlying t = some (.map kt e)) (h : MapAt w b q m)
    (hF : ∀ r w', w.heap.size ≤ r → IterAt w' r b q m (m.map Prod.fst) → Ext w w' → F (.pointer (some ⟨r, 0, none⟩)) w') : rnV P (Instr.range t (.map (some b))) w F := by
  obtain ⟨w', hrun, hit, he, _⟩ := range_run ht h
  exact ⟨_, w', hrun, hF _ _ (Nat.le_refl _) hit he⟩

/-- A round of a walk over a map. -/
theorem iter_step {ty : TypeId} {q : IntKind} {w : World} {r b : Nat} {m : List (Int × Value)} {left : List Int} {K0 : World → Prop} {F : Value → Value → World → Prop} (h : IterAt w r b q m left) (hl : left.Nodup)
    (h0 : left = [] → K0 w) (h1 : ∀ x v w', x ∈ left → (x, v) ∈ m → IterAt w' r b q m (left.erase x) → Chg (fun y => y = r) w w' → F (.int q x) v w') :
    nxt P (Instr.next (.pointer (some ⟨r, 0, none⟩)) false ty) w K0 (fun _ _ w' => ent P (Instr.entry (.pointer (some ⟨r, 0, none⟩))) w' F) := by
  rcases next_run (P := P) (ty := ty) h hl with ⟨he, hrun⟩ | ⟨x, v, w', hx, hxm, hrun, hit, hc, _, hen⟩
  · exact ⟨_, _, hrun, .inl ⟨rfl, h0 he⟩⟩
  · exact ⟨_, _, hrun, .inr ⟨_, _, rfl, _, _, _, hen, h1 x v w' hx hxm hit hc⟩⟩

theorem modify_keys {p : Nat → Bool} {f : MapEntry → MapEntry} : ∀ (l : List MapEntry) (i : Nat), (∀ e, l[i]? = some e → (f e).key = e.key ∧ (f e).born = e.born) →
    ((l.modify i f).filter fun e => p e.born).map (·.key) = (l.filter fun e => p e.born).map (·.key)
  | [], i, _ => by simp
  | a :: l, 0, h => by
    obtain ⟨h1, h2⟩ := h a rfl
    simp only [List.modify_zero_cons, List.filter_cons, h2]
    split <;> simp [h1]
  | a :: l, i + 1, h => by
    have ih := modify_keys (p := p) (f := f) l i fun e he => h e (by simpa using he)
    simp only [List.modify_succ_cons, List.filter_cons]
    split <;> simp [ih]

/-- A key that is there is laid anew; walks go on. -/
theorem update_iter {t kt e : TypeId} {q : IntKind} {w : World} {r b : Nat} {m : List (Int × Value)} {left : List Int} {k : Int} {v : Value} {F : World → Prop}
    (ht : P.underlying t = some (.map kt e)) (hk : P.underlying kt = some (.int q)) (h : IterAt w r b q m left) (hin : k ∈ m.map Prod.fst)
    (hF : ∀ w', IterAt w' r b q (ins m k v) left → Chg (fun x => x = b) w w' → F w') : rnU P (Instr.mapUpdate t (.map (some b)) (.int q k) v) w F := by
  have hne := h.ne
  obtain ⟨es, cl, since, seen, c0, ho, hr, hm, hold, hsc, hsk, hleft⟩ := h
  obtain ⟨⟨es', cl', e1, he, hn, hlt⟩, ha⟩ := hm
  cases e1
  have hf := run_findKey (k := k) w hk he
  cases hx : ix m k 0 with
  | none =>
    exfalso
    have := ix_lk m k 0
    rw [hx] at this
    exact lk_none.1 this.symm hin
  | some p =>
    obtain ⟨i, x⟩ := p
    obtain ⟨_, e0, hi0, hek⟩ := ix_key es.toList m 0 i x he hx
    have hi0' : es[i]? = some e0 := by simpa using hi0
    have h1 := chg_setBlock w b _ (.map (es.modify i fun e => { e with key := .int q k, val := v }) cl) ho
    refine ⟨setBlock w b (.map (es.modify i fun e => { e with key := .int q k, val := v }) cl), ?_, hF _ ?_ h1.1⟩
    · rw [hx] at hf
      simp [Instr.mapUpdate, run_underlying ht, MapKept.run_getObj_map ho, run_checkKey _ 9999 _ hk, hf, hi0', hek, keyStays, MapKept.run_setObj_map _ ho, Result.andThen, setBlock]
    · refine ⟨_, cl, since, seen, c0, h1.2, h1.1.keep _ _ hr hne, ⟨⟨_, _, rfl, ?_, ?_, ?_⟩, ins_apart ha⟩, ?_, hsc, hsk, ?_⟩
      · show (es.modify i _).toList.map _ = _
        rw [Array.toList_modify, modify_map _ _ (fun _ => (.int q k, v)) (fun a => rfl), he]
        exact (ix_ins m 0 i x hx).2
      · rw [Array.toList_modify, born_modify]; exact hn
      · intro y hy
        rw [Array.toList_modify] at hy
        have hy' : y.born ∈ (es.toList.modify i fun e => { e with key := .int q k, val := v }).map (·.born) := List.mem_map.2 ⟨y, hy, rfl⟩
        rw [born_modify] at hy'
        obtain ⟨z, hz, e⟩ := List.mem_map.1 hy'
        rw [← e]; exact hlt z hz
      · intro y hy
        rw [Array.toList_modify] at hy
        have hy' : y.born ∈ (es.toList.modify i fun e => { e with key := .int q k, val := v }).map (·.born) := List.mem_map.2 ⟨y, hy, rfl⟩
        rw [born_modify] at hy'
        obtain ⟨z, hz, e⟩ := List.mem_map.1 hy'
        rw [← e]; exact hold z hz
      · rw [Array.toList_modify, modify_keys (p := fun n => !seen.contains n)]
        · exact hleft
        · intro e he'
          simp only [Nat.sub_zero] at hi0
          have e2 : e0 = e := by
            have : es.toList[i]? = some e0 := by simpa using hi0
            rw [this] at he'; exact Option.some.inj he'
          subst e2
          exact ⟨hek.symm, rfl⟩

theorem IterAt.ext {w w' : World} {r b : Nat} {q : IntKind} {m : List (Int × Value)} {left : List Int} (h : IterAt w r b q m left) (hc : Ext w w') : IterAt w' r b q m left := h.chg hc id id

theorem IterAt.nc {w : World} {r b : Nat} {q : IntKind} {m : List (Int × Value)} {left : List Int} (h : IterAt w r b q m left) : NoCells (fun x => x = r) w := by
  rintro c cs t fl hc rfl
  obtain ⟨es, cl, since, seen, c0, _, hr, _⟩ := h
  have := hr.symm.trans hc
  cases this
theorem IterAt.lt {w : World} {r b : Nat} {q : IntKind} {m : List (Int × Value)} {left : List Int} (h : IterAt w r b q m left) : r < w.heap.size := by
  obtain ⟨es, cl, since, seen, c0, _, hr, _⟩ := h
  exact lt_of_heap hr
end Go.SR
