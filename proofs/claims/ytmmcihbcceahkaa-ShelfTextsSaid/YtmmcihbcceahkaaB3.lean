/- The layer SR: rows that grow (append, make), maps with whole numbers as keys. No program in sight. -/
import Derived.Test.YtmmcihbcceahkaaB2
import Derived.OwnWalk
import Derived.Laws.OwnMore
import Derived.Laws.MakeOwn
import Derived.Maps.RangeRun
namespace Go.SR
open Go
open Go.ChangeMaps (setBlock)

theorem chg_of_grown {w w' : World} {row : Option Nat} (h : w.grownBy w' row) : Chg (fun x => row = some x) w w' :=
  ⟨h.size, fun b o hb hs => by rw [h.block b (lt_of_heap hb) fun e => hs e.symm]; exact hb, h.os, h.tape, h.output⟩

/-- The block of a row. -/
def rowS (v : Value) : Nat → Prop := fun x => v.ownBlock = some x

abbrev Row (w : World) (base : Nat) (e : TypeId) (sz : Nat) (p : Option Addr) (l c : Nat) (vs : List Value) : Prop := w.ownsRow base e sz (.slice p l c) l vs

theorem Row.nil {w : World} {base : Nat} {e : TypeId} {sz : Nat} : Row w base e sz none 0 0 [] := World.ownsRow_nil _ _ _ _

theorem Row.base {w : World} {base : Nat} {e : TypeId} {sz : Nat} {p : Option Addr} {l c : Nat} {vs : List Value} (h : Row w base e sz p l c vs) : ∀ b, rowS (.slice p l c) b → base ≤ b := by
  rintro b hb
  rcases h.2 with ⟨h1, _⟩ | ⟨g, cap, cur, hv, hbg, _⟩
  · cases h1; simp [rowS, Value.ownBlock] at hb
  · cases hv; simp [rowS, Value.ownBlock] at hb; omega

/-- The row's block is a block of cells of its type. -/
theorem Row.cells {w : World} {base : Nat} {e : TypeId} {sz : Nat} {p : Option Addr} {l c : Nat} {vs : List Value} (h : Row w base e sz p l c vs) : ∀ b, rowS (.slice p l c) b → ∃ cs, At w b cs e := by
  rintro b hb
  rcases h.2 with ⟨h1, _⟩ | ⟨g, cap, cur, hv, hbg, hat, _⟩
  · cases h1; simp [rowS, Value.ownBlock] at hb
  · cases hv; simp [rowS, Value.ownBlock] at hb; subst hb; exact ⟨_, hat⟩

theorem Row.off {w : World} {base : Nat} {e t : TypeId} {sz : Nat} {p : Option Addr} {l c : Nat} {vs : List Value} (h : Row w base e sz p l c vs) (hne : t ≠ e) : Off (rowS (.slice p l c)) w t := by
  rintro b cs fl hb hS
  obtain ⟨ds, hd⟩ := h.cells b hS
  have := hb.symm.trans hd
  cases this; exact hne rfl

theorem Row.chg {S : Nat → Prop} {w w' : World} {base : Nat} {e : TypeId} {sz : Nat} {p : Option Addr} {l c : Nat} {vs : List Value} (h : Row w base e sz p l c vs) (hc : Chg S w w') (hS : Off S w e) : Row w' base e sz p l c vs := by
  refine ⟨h.1, ?_⟩
  rcases h.2 with h1 | ⟨g, cap, cur, hv, hbg, hat, hr⟩
  · exact .inl h1
  · exact .inr ⟨g, cap, cur, hv, hbg, hc.keep _ _ hat (hS _ _ _ hat), hr⟩

theorem Row.ext {w w' : World} {base : Nat} {e : TypeId} {sz : Nat} {p : Option Addr} {l c : Nat} {vs : List Value} (h : Row w base e sz p l c vs) (hc : Ext w w') : Row w' base e sz p l c vs := h.chg hc Off.none

theorem Row.len {w : World} {base : Nat} {e : TypeId} {sz : Nat} {p : Option Addr} {l c : Nat} {vs : List Value} (h : Row w base e sz p l c vs) : vs.length = l * sz := h.1

theorem Row.at {w : World} {base : Nat} {e : TypeId} {sz : Nat} {p : Option Addr} {l c : Nat} {vs : List Value} (h : Row w base e sz p l c vs) (o : Nat) (us : List Value) (hu : ∀ i u, us[i]? = some u → vs[o + i]? = some u) (hne : us ≠ []) : AtI w p e o us := by
  rcases h.2 with ⟨h1, h2⟩ | ⟨g, cap, cur, hv, hbg, hat, hr1, hr2, hr3, hr4⟩
  · exfalso
    have hl := h.1
    rw [h2, Nat.zero_mul] at hl
    cases us with
    | nil => exact hne rfl
    | cons u us =>
      have := hu 0 u rfl
      rw [List.eq_nil_of_length_eq_zero hl] at this
      simp at this
  · cases hv
    refine ⟨g, 0, cur, _, rfl, hat, fun i v hi => ?_⟩
    have := hu i v hi
    rw [← hr4, List.getElem?_take] at this
    split at this
    · simpa using this
    · cases this

/-- append -/
theorem append_step {P : Program} {w : World} {F : Value → World → Prop} {base : Nat} {t ty e : TypeId} {z : Value} {sz bytes : Nat} {p : Option Addr} {l c : Nat} {vs : List Value} {a : Addr} {m c' : Nat} {news : List Value}
    (ht : P.underlying t = some (.slice e)) (hi : (P.info? e).map (fun i => (i.zero, i.size, i.bytes)) = some (some z, sz, bytes)) (hzs : z.cells.size = sz) (hsz : 0 < sz)
    (h : Row w base e sz p l c vs) (hl : news.length = m * sz) (hnews : cellsAt w a news) (h1 : ∀ u ∈ news, u.oneCell' = true) (hb : l + m ≤ 4611686018427387904) (hby : (l + m) * bytes ≤ 140737488355328) (hbase : base ≤ w.heap.size)
    (hF : ∀ p' c' w', Row w' base e sz p' (l + m) c' (vs ++ news) → Chg (rowS (.slice p l c)) w w' → F (.slice p' (l + m) c') w') :
    rnV P (Builtin.append_ #[t, t] ty #[.slice p l c, .slice (some a) m c']) w F := by
  obtain ⟨i, hi, hz, hs, hbt⟩ := info_parts hi
  obtain ⟨v', w', hrun, hown, hg, _⟩ := run_append_own (P := P) w base t ty e i z sz bytes ht hi hz hs hbt hzs hsz _ l vs h a m c' news hl
    (fun j u hj => hnews.get j hj) h1 (by simp only [maxLen]; omega) hby hbase
  refine ⟨v', w', hrun, ?_⟩
  have hshape : ∃ p' c', v' = .slice p' (l + m) c' := by
    rcases hown.2 with ⟨rfl, h0⟩ | ⟨g, cap, cur, hv, _⟩
    · exact ⟨none, 0, by rw [h0]⟩
    · exact ⟨_, _, hv⟩
  obtain ⟨p', c'', rfl⟩ := hshape
  exact hF p' c'' w' hown (chg_of_grown hg)

/-- make, of zeros -/
theorem make_step {P : Program} {w : World} {F : Value → World → Prop} {base : Nat} {t e : TypeId} {z : Value} {sz bytes : Nat} {n : Nat} {kl kc : IntKind} {x y : Int}
    (ht : P.underlying t = some (.slice e)) (hi : (P.info? e).map (fun i => (i.zero, i.size, i.bytes)) = some (some z, sz, bytes)) (hx : x = n) (hy : y = n)
    (hb : n ≤ 4611686018427387904) (hby : bytes * n ≤ 281474976710656) (hc : n * sz ≤ 16777216) (hbase : base ≤ w.heap.size)
    (hF : ∀ p w', Row w' base e sz p n n (madeCells z.cells (n * sz)).toList → Ext w w' → F (.slice p n n) w') :
    rnV P (Instr.makeSlice t (.int kl x) (.int kc y)) w F := by
  subst hx hy
  obtain ⟨i, hi', hz, hs, hbt⟩ := info_parts hi
  subst hbt
  obtain ⟨w', hrun, hown, hg⟩ := run_makeSlice_full (P := P) w base t e i z sz ht hi' hz hs kl kc n hc hby (by simp only [maxLen]; omega) hbase
  exact ⟨_, w', hrun, hF _ w' hown ((chg_of_grown hg).mono fun b _ h => by simp at h)⟩

theorem Row.ints {w : World} {base : Nat} {e : TypeId} {k : IntKind} {p : Option Addr} {l c : Nat} {xs : List Int} (h : Row w base e 1 p l c (xs.map (.int k))) (hb : xs.length < 4611686018427387904) : Ints e k w p l xs := by
  have hl := h.len
  rw [List.length_map, Nat.mul_one] at hl
  refine ⟨⟨hl.symm, hb⟩, fun i x hx => h.at i _ (fun j u hj => ?_) (by simp)⟩
  cases j with
  | zero => simp at hj; subst hj; simp [hx]
  | succ j => simp at hj

theorem Own.away {S T : Nat → Prop} {w0 w w' : World} {L : List (Nat × (Obj → Prop))} (h : Own S w0 w L) (hc : Chg T w w') (hT : ∀ b, T b → w0.heap.size ≤ b) (hL : ∀ x ∈ L, ¬ T x.1) : Own S w0 w' L :=
  ⟨h.chg.then hc fun b hb => .inl (hT b hb), fun k c ψ hk => by
    obtain ⟨⟨p, hp, hq⟩, hs⟩ := h.here k c ψ hk
    exact ⟨⟨p, hc.keep c p hp (hL _ (List.mem_of_getElem? hk)), hq⟩, hs⟩, h.apart⟩

theorem Row.not {w : World} {base : Nat} {e t : TypeId} {sz : Nat} {p : Option Addr} {l c : Nat} {vs : List Value} (h : Row w base e sz p l c vs) {b : Nat} {cs : Array Value} (hat : At w b cs t) (hne : t ≠ e) : ¬ rowS (.slice p l c) b := fun hb => by
  obtain ⟨ds, hd⟩ := h.cells b hb
  have := hat.symm.trans hd
  cases this; exact hne rfl

/-! ### maps with whole numbers as keys -/

/-- Entries that stand for a row of pairs. -/
def ents (q : IntKind) (es : Array MapEntry) (m : List (Int × Value)) : Prop := es.toList.map (fun e => (e.key, e.val)) = m.map fun x => (.int q x.1, x.2)

structure MapO (q : IntKind) (m : List (Int × Value)) (o : Obj) : Prop where
  is : ∃ es c, o = .map es c ∧ ents q es m ∧ (es.toList.map (·.born)).Nodup ∧ ∀ e ∈ es.toList, e.born < c
  apart : (m.map Prod.fst).Nodup

def MapAt (w : World) (b : Nat) (q : IntKind) (m : List (Int × Value)) : Prop := ∃ o, w.heap[b]? = some o ∧ MapO q m o

theorem MapO.empty (q : IntKind) : MapO q [] (.map #[] 0) := ⟨⟨#[], 0, rfl, rfl, by simp, by simp⟩, by simp⟩

theorem MapAt.ext {w w' : World} {b : Nat} {q : IntKind} {m : List (Int × Value)} (h : MapAt w b q m) (he : Ext w w') : MapAt w' b q m := by
  obtain ⟨o, ho, hm⟩ := h
  exact ⟨o, he.keep _ _ ho id, hm⟩

theorem MapAt.chg {S : Nat → Prop} {w w' : World} {b : Nat} {q : IntKind} {m : List (Int × Value)} (h : MapAt w b q m) (he : Chg S w w') (hb : ¬ S b) : MapAt w' b q m := by
  obtain ⟨o, ho, hm⟩ := h
  exact ⟨o, he.keep _ _ ho hb, hm⟩

theorem MapAt.ne_at {w : World} {b c : Nat} {q : IntKind} {m : List (Int × Value)} {cs : Array Value} {t : TypeId} (h : MapAt w b q m) (h' : At w c cs t) : b ≠ c := by
  obtain ⟨o, ho, hm⟩ := h
  obtain ⟨es, k, rfl, _⟩ := hm.is
  rintro rfl
  have := ho.symm.trans h'
  cases this

theorem Off.of_map {w : World} {b : Nat} {q : IntKind} {m : List (Int × Value)} {t : TypeId} (h : MapAt w b q m) : Off (fun x => x = b) w t := by
  rintro c cs fl hc rfl
  obtain ⟨o, ho, hm⟩ := h
  obtain ⟨es, k, rfl, _⟩ := hm.is
  have := ho.symm.trans hc
  cases this

def lk (m : List (Int × Value)) (k : Int) : Option Value :=
  match m with
  | [] => none
  | x :: m => if x.1 = k then some x.2 else lk m k

def ins (m : List (Int × Value)) (k : Int) (v : Value) : List (Int × Value) :=
  match m with
  | [] => [(k, v)]
  | x :: m => if x.1 = k then (k, v) :: m else x :: ins m k v

def del (m : List (Int × Value)) (k : Int) : List (Int × Value) := m.filter fun x => x.1 ≠ k

theorem lk_none {m : List (Int × Value)} {k : Int} : lk m k = none ↔ k ∉ m.map Prod.fst := by
  induction m with
  | nil => simp [lk]
  | cons x m ih =>
    unfold lk
    split
    · rename_i h; simp [h]
    · rename_i h; rw [ih]; simp; intro _ e; exact h e.symm

theorem lk_mem {m : List (Int × Value)} {k : Int} {v : Value} (h : lk m k = some v) : (k, v) ∈ m := by
  induction m with
  | nil => simp [lk] at h
  | cons x m ih =>
    unfold lk at h
    split at h
    · rename_i e; cases h; subst e; exact List.mem_cons_self ..
    · exact List.mem_cons_of_mem _ (ih h)

theorem lk_ins {m : List (Int × Value)} {k j : Int} {v : Value} : lk (ins m k v) j = if j = k then some v else lk m j := by
  induction m with
  | nil => simp only [ins, lk]; split <;> split <;> simp_all
  | cons x m ih =>
    unfold ins
    split
    · rename_i h; simp only [lk]
      by_cases hj : j = k
      · subst hj; simp
      · rw [if_neg (fun e => hj e.symm), if_neg hj, if_neg]; rw [h]; exact fun e => hj e.symm
    · rename_i h; simp only [lk]
      by_cases hx : x.1 = j
      · rw [if_pos hx, if_neg (by rw [← hx]; exact h), if_pos hx]
      · rw [if_neg hx, ih, if_neg hx]

theorem ins_keys {m : List (Int × Value)} {k : Int} {v : Value} : (ins m k v).map Prod.fst = if k ∈ m.map Prod.fst then m.map Prod.fst else m.map Prod.fst ++ [k] := by
  induction m with
  | nil => simp [ins]
  | cons x m ih =>
    unfold ins
    split
    · rename_i h; simp [h]
    · rename_i h
      simp only [List.map_cons, ih, List.mem_cons]
      by_cases hm : k ∈ m.map Prod.fst
      · simp [hm]
      · have : ¬ k = x.1 := fun e => h e.symm
        simp [hm, this]

theorem ins_mem_keys {m : List (Int × Value)} {k j : Int} {v : Value} : j ∈ (ins m k v).map Prod.fst ↔ j = k ∨ j ∈ m.map Prod.fst := by
  rw [ins_keys]
  split
  · rename_i h
    constructor
    · exact .inr
    · rintro (rfl | h') <;> assumption
  · rw [List.mem_append, List.mem_singleton]; exact Or.comm

theorem ins_apart {m : List (Int × Value)} {k : Int} {v : Value} (h : (m.map Prod.fst).Nodup) : ((ins m k v).map Prod.fst).Nodup := by
  rw [ins_keys]
  split
  · exact h
  · rename_i hk
    rw [List.nodup_append]
    exact ⟨h, by simp, fun a ha b hb => by simp at hb; subst hb; rintro rfl; exact hk ha⟩

theorem del_keys {m : List (Int × Value)} {k : Int} : (del m k).map Prod.fst = (m.map Prod.fst).filter fun x => x ≠ k := by
  unfold del
  induction m with
  | nil => simp
  | cons x m ih =>
    simp only [List.filter_cons, List.map_cons]
    split <;> simp_all

/-- Where a key stands. -/
def ix (m : List (Int × Value)) (k : Int) (i : Nat) : Option (Nat × Value) :=
  match m with
  | [] => none
  | x :: m => if x.1 = k then some (i, x.2) else ix m k (i + 1)

theorem ix_lk (m : List (Int × Value)) (k : Int) : ∀ i, (ix m k i).map Prod.snd = lk m k := by
  induction m with
  | nil => simp [ix, lk]
  | cons x m ih =>
    intro i; unfold ix lk
    split
    · rfl
    · exact ih _

theorem findNow_ix (q : IntKind) (k : Int) : ∀ (l : List MapEntry) (m : List (Int × Value)) (i : Nat), l.map (fun e => (e.key, e.val)) = m.map (fun x => (.int q x.1, x.2)) → Instr.findNow (.int q) (.int q k) l i = some (ix m k i)
  | [], [], i, _ => rfl
  | [], x :: m, i, h => by simp at h
  | e :: l, [], i, h => by simp at h
  | e :: l, x :: m, i, h => by
    simp only [List.map_cons, List.cons.injEq, Prod.mk.injEq] at h
    obtain ⟨⟨hk, hv⟩, ht⟩ := h
    unfold Instr.findNow ix
    rw [hk]
    simp only [Instr.sameNow, if_true]
    by_cases hx : x.1 = k
    · rw [if_pos hx, hx]; simp [hv]
    · rw [if_neg hx]
      have : (k == x.1) = false := by simp; exact fun e => hx e.symm
      rw [this]
      exact findNow_ix q k l m (i + 1) ht

theorem run_findKey {P : Program} {kt : TypeId} {q : IntKind} {k : Int} {es : Array MapEntry} {m : List (Int × Value)} (w : World) (hk : P.underlying kt = some (.int q)) (h : ents q es m) :
    (Instr.findKey kt (.int q k) es.toList).run P w = .ok (ix m k 0) w := by
  simp only [Instr.findKey, Sem.run_bind, run_underlying hk, Result.andThen, findNow_ix q k _ _ 0 h]
  rfl

theorem run_checkKey {P : Program} {kt : TypeId} {q : IntKind} {k : Int} (e : Bool) (n : Nat) (w : World) (hk : P.underlying kt = some (.int q)) :
    (Instr.checkKey e (n + 1) kt (.int q k)).run P w = .ok () w := by
  simp only [Instr.checkKey, Sem.run_bind, run_underlying hk, Result.andThen]
  rfl
end Go.SR
