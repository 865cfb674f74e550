/- The layer SR: sets kept in maps, rising lists. No program in sight. -/
import Derived.Test.YtmmcihbcceahkaaB5
namespace Go.SR
open Go

/-- A sorted list without repetitions. -/
def Asc (xs : List Int) : Prop := xs.Pairwise fun a b => a < b

/-- What is seen. -/
abbrev seenM (ss : List Int) : List (Int × Value) := ss.map fun k => (k, .bool true)

theorem lk_seen {ss : List Int} {k : Int} : lk (seenM ss) k = if k ∈ ss then some (.bool true) else none := by
  induction ss with
  | nil => simp [lk]
  | cons a ss ih =>
    simp only [seenM, List.map_cons, lk]
    by_cases h : a = k
    · simp [h]
    · rw [if_neg h]
      have : ¬ k = a := fun e => h e.symm
      simp only [List.mem_cons, this, false_or]
      exact ih

theorem ins_seen {ss : List Int} {k : Int} (h : k ∉ ss) : ins (seenM ss) k (.bool true) = seenM (ss ++ [k]) := by
  induction ss with
  | nil => simp [ins]
  | cons a ss ih =>
    simp only [List.mem_cons, not_or] at h
    simp only [seenM, List.map_cons, ins, List.cons_append]
    rw [if_neg (fun e => h.1 e.symm)]
    have := ih h.2
    simp only [seenM] at this
    rw [this]

theorem seen_keys {ss : List Int} : (seenM ss).map Prod.fst = ss := by simp [seenM, Function.comp_def]

theorem nodup_len {α : Type} [DecidableEq α] : ∀ {l l' : List α}, l.Nodup → (∀ x ∈ l, x ∈ l') → l.length ≤ l'.length
  | [], _, _, _ => by simp
  | a :: l, l', hn, hs => by
    have ha := hs a (List.mem_cons_self ..)
    have := nodup_len (l := l) (l' := l'.erase a) (List.nodup_cons.1 hn).2 fun x hx => (List.mem_erase_of_ne (fun (e : x = a) => (List.nodup_cons.1 hn).1 (e ▸ hx))).2 (hs x (List.mem_cons_of_mem _ hx))
    rw [List.length_erase_of_mem ha] at this
    have := List.length_pos_of_mem ha
    simp; omega

def addS (ss : List Int) (k : Int) : List Int := if k ∈ ss then ss else ss ++ [k]

theorem mem_addS {ss : List Int} {k y : Int} : y ∈ addS ss k ↔ y ∈ ss ∨ y = k := by
  unfold addS
  split
  · rename_i h
    exact ⟨.inl, fun h' => by rcases h' with h' | rfl; exact h'; exact h⟩
  · simp

theorem ins_addS {ss : List Int} {k : Int} : ins (seenM ss) k (.bool true) = seenM (addS ss k) := by
  unfold addS
  split
  · rename_i h
    induction ss with
    | nil => simp at h
    | cons a ss ih =>
      simp only [seenM, List.map_cons, ins]
      by_cases ha : a = k
      · simp [ha]
      · rw [if_neg ha]
        have := ih ((List.mem_cons.1 h).resolve_left fun e => ha e.symm)
        simp only [seenM] at this
        rw [this]
  · rename_i h; exact ins_seen h

theorem asc_ext {xs ys : List Int} (hx : Asc xs) (hy : Asc ys) (h : ∀ y, y ∈ xs ↔ y ∈ ys) : xs = ys := by
  have nx : xs.Nodup := hx.imp fun h => by omega
  have ny : ys.Nodup := hy.imp fun h => by omega
  have hp : xs.Perm ys := (List.perm_ext_iff_of_nodup nx ny).2 h
  refine List.Perm.eq_of_pairwise (le := fun a b => a < b) (fun a b _ _ h1 h2 => by omega) hx hy hp

theorem asc_get {xs : List Int} (h : Asc xs) {i j : Nat} {x y : Int} (hi : xs[i]? = some x) (hj : xs[j]? = some y) : i < j ↔ x < y := by
  obtain ⟨hi', rfl⟩ := List.getElem?_eq_some_iff.1 hi
  obtain ⟨hj', rfl⟩ := List.getElem?_eq_some_iff.1 hj
  have hp := List.pairwise_iff_getElem.1 h
  constructor
  · exact hp i j hi' hj'
  · intro hlt
    rcases Nat.lt_trichotomy i j with h | h | h
    · exact h
    · subst h; omega
    · have := hp j i hj' hi' h; omega

end Go.SR
