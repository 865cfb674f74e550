/- Arrays of three bytes that came in. -/
import Derived.Test.YtmmcihbcceahkaaB1
import Derived.OpenShut
import Derived.ChangeOld
import Derived.Deep.Slices
namespace Go.SR
open Go

theorem u8_bd {a : Int} (h : (Lit.int .u8 a).wf = true) : 0 ≤ a ∧ a < 256 := by
  simp [Lit.wf, IntKind.min, IntKind.max, IntKind.signed, IntKind.bits] at h
  omega

section
variable {H : Type} {enc : TypeId × Value → H} {P : Program} {w : World} {base : Nat} {spare : Nat → Bool} {held : Bool} {fuel : Nat}

theorem cells_arr3 {t e : TypeId} {cs : List Value} {x : DataW H × List MemPlace} (ht : P.underlying t = some (.array 3 e)) (he : P.underlying e = some (.int .u8)) (c1 : P.cellsOf e = 1) (c3 : P.cellsOf t = 3) (h : DataW.trod enc P w base spare held fuel t cs = some x) :
    ∃ a b c, cs = [.int .u8 a, .int .u8 b, .int .u8 c] ∧ (0 ≤ a ∧ a < 256) ∧ (0 ≤ b ∧ b < 256) ∧ (0 ≤ c ∧ c < 256) := by
  obtain ⟨xs, m, _, _, hl, hn, hel⟩ := DataW.trod_array ht h
  rw [c3] at hl
  rw [c1] at hel
  match cs, hl with
  | [u, v, z], _ =>
    have g : ∀ i, i < 3 → ∃ n, ((([u, v, z] : List Value).drop (i * 1)).take 1) = [.int .u8 n] ∧ (0 ≤ n ∧ n < 256) := fun i hi => by
      have := hel i hi
      rw [List.getElem?_eq_getElem (by omega)] at this
      obtain ⟨n, e1, _, e3⟩ := DataW.trod_int he this
      exact ⟨n, e1, u8_bd e3⟩
    obtain ⟨a, e0, b0⟩ := g 0 (by omega)
    obtain ⟨b, e1, b1⟩ := g 1 (by omega)
    obtain ⟨c, e2, b2⟩ := g 2 (by omega)
    simp at e0 e1 e2
    subst e0 e1 e2
    exact ⟨a, b, c, rfl, b0, b1, b2⟩

theorem value_arr3 {t e : TypeId} {v : Value} {x : DataW H × List MemPlace} (ht : P.underlying t = some (.array 3 e)) (he : P.underlying e = some (.int .u8)) (c1 : P.cellsOf e = 1) (c3 : P.cellsOf t = 3) (h : DataW.trod enc P w base spare held fuel t v.cells.toList = some x) :
    ∃ a b c, v = .agg #[.int .u8 a, .int .u8 b, .int .u8 c] ∧ (0 ≤ a ∧ a < 256) ∧ (0 ≤ b ∧ b < 256) ∧ (0 ≤ c ∧ c < 256) := by
  obtain ⟨a, b, c, e, ha, hb, hc⟩ := cells_arr3 ht he c1 c3 h
  refine ⟨a, b, c, ?_, ha, hb, hc⟩
  cases v with
  | agg xs =>
    simp only [Value.cells] at e
    congr 1
    exact Array.toList_inj.1 e
  | _ => simp [Value.cells] at e

/-- A slice of such. -/
theorem open_trips {t u e : TypeId} {p : Option Addr} {l c : Nat} {x : DataW H × List MemPlace} (hs : P.underlying u = some (.slice t)) (ht : P.underlying t = some (.array 3 e)) (he : P.underlying e = some (.int .u8)) (c1 : P.cellsOf e = 1) (c3 : P.cellsOf t = 3) (h : DataW.trod enc P w base spare held fuel u [.slice p l c] = some x) :
    ∃ ts : List (Int × Int × Int), (l = ts.length ∧ ∀ t ∈ ts, (0 ≤ t.1 ∧ t.1 < 256) ∧ (0 ≤ t.2.1 ∧ t.2.1 < 256) ∧ (0 ≤ t.2.2 ∧ t.2.2 < 256)) ∧
      ∀ (i : Nat) t, ts[i]? = some t → ∃ a, p = some a ∧ w.cell? (a.add (i * 3)) = some (.int .u8 t.1) ∧ w.cell? (a.add (i * 3 + 1)) = some (.int .u8 t.2.1) ∧ w.cell? (a.add (i * 3 + 2)) = some (.int .u8 t.2.2) := by
  rcases Go.Deep.open_slice hs h with ⟨e, _⟩ | ⟨a, len, cap, m, n, D, Pl, e, hb, hlc, hcm, hm, _, hel⟩
  · simp at e
    obtain ⟨rfl, rfl, rfl⟩ := e
    exact ⟨[], ⟨rfl, by simp⟩, fun i t h => by simp at h⟩
  · simp at e
    obtain ⟨rfl, rfl, rfl⟩ := e
    have hlm : l ≤ m := by rw [hm]; split <;> omega
    rw [c3] at hel
    have one : ∀ i, ∃ t : Int × Int × Int, i < l → ((0 ≤ t.1 ∧ t.1 < 256) ∧ (0 ≤ t.2.1 ∧ t.2.1 < 256) ∧ (0 ≤ t.2.2 ∧ t.2.2 < 256)) ∧ w.cell? (a.add (i * 3)) = some (.int .u8 t.1) ∧ w.cell? (a.add (i * 3 + 1)) = some (.int .u8 t.2.1) ∧ w.cell? (a.add (i * 3 + 2)) = some (.int .u8 t.2.2) := fun i => by
      by_cases hi : i < l
      · obtain ⟨cs, h1, h2⟩ := hel i (by omega)
        obtain ⟨x, y, z, rfl, hx, hy, hz⟩ := cells_arr3 ht he c1 c3 h2
        obtain ⟨_, _, h3⟩ := World.cells?_some h1
        have g : ∀ j, j < 3 → w.cell? (a.add (i * 3 + j)) = ([.int .u8 x, .int .u8 y, .int .u8 z] : List Value)[j]? := fun j hj => by
          have := h3 j hj
          rwa [Addr.add_add] at this
        exact ⟨(x, y, z), fun _ => ⟨⟨hx, hy, hz⟩, g 0 (by omega), g 1 (by omega), g 2 (by omega)⟩⟩
      · exact ⟨(0, 0, 0), fun h => absurd h hi⟩
    obtain ⟨f, hf⟩ : ∃ f : Nat → Int × Int × Int, ∀ i, i < l → ((0 ≤ (f i).1 ∧ (f i).1 < 256) ∧ (0 ≤ (f i).2.1 ∧ (f i).2.1 < 256) ∧ (0 ≤ (f i).2.2 ∧ (f i).2.2 < 256)) ∧ w.cell? (a.add (i * 3)) = some (.int .u8 (f i).1) ∧ w.cell? (a.add (i * 3 + 1)) = some (.int .u8 (f i).2.1) ∧ w.cell? (a.add (i * 3 + 2)) = some (.int .u8 (f i).2.2) :=
      ⟨fun i => Classical.choose (one i), fun i => Classical.choose_spec (one i)⟩
    refine ⟨(List.range l).map f, ⟨by simp, fun t ht => ?_⟩, fun i t hi => ?_⟩
    · obtain ⟨i, hi, rfl⟩ := List.mem_map.1 ht
      exact (hf i (by simpa using hi)).1
    · rw [List.getElem?_map] at hi
      obtain ⟨j, hj, rfl⟩ := Option.map_eq_some_iff.1 hi
      obtain ⟨h1, h2⟩ := List.getElem?_eq_some_iff.1 hj
      simp at h1 h2
      subst h2
      exact ⟨a, rfl, (hf i h1).2⟩
end
end Go.SR
