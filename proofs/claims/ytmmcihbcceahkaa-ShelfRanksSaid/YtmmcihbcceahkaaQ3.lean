/- Arrays of three bytes that came in. -/
import Derived.Test.YtmmcihbcceahkaaB1
import Derived.OpenShut
import Derived.ChangeOld
namespace Go.SR
open Go

theorem u8_bd {a : Int} (h : (Lit.int .u8 a).wf = true) : 0 ≤ a ∧ a < 256 := by
  simp [Lit.wf, IntKind.min, IntKind.max, IntKind.signed, IntKind.bits] at h
  omega

section
variable {H : Type} {enc : TypeId × Value → H} {P : Program} {w : World} {base : Nat} {spare : Nat → Bool} {held : Bool} {fuel : Nat}

theorem cells_arr3 {t e : TypeId} {cs : List Value} {x : DataW H × List MemPlace} (ht : P.underlying t = some (.array 3 e)) (he : P.underlying e = some (.int .u8)) (c1 : P.cellsOf e = 1) (c3 : P.cellsOf t = 3) (h : DataW.trod enc P w base spare held fuel t cs = some x) :
    ∃ a b c, cs = [.int .u8 a, .int .u8 b, .int .u8 c] ∧ (0 ≤ a ∧ a < 256) ∧ (0 ≤ b ∧ b < 256) ∧ (0 ≤ c ∧ c < 256) := by
  obtain ⟨xs, m, _, _, hl, hn, hel⟩ := DataW.trod_array ht h
  rw [c3] at hl
  rw [c1] at hel
  match cs, hl with
  | [u, v, z], _ =>
    have g : ∀ i, i < 3 → ∃ n, ((([u, v, z] : List Value).drop (i * 1)).take 1) = [.int .u8 n] ∧ (0 ≤ n ∧ n < 256) := fun i hi => by
      have := hel i hi
      rw [List.getElem?_eq_getElem (by omega)] at this
      obtain ⟨n, e1, _, e3⟩ := DataW.trod_int he this
      exact ⟨n, e1, u8_bd e3⟩
    obtain ⟨a, e0, b0⟩ := g 0 (by omega)
    obtain ⟨b, e1, b1⟩ := g 1 (by omega)
    obtain ⟨c, e2, b2⟩ := g 2 (by omega)
    simp at e0 e1 e2
    subst e0 e1 e2
    exact ⟨a, b, c, rfl, b0, b1, b2⟩

theorem value_arr3 {t e : TypeId} {v : Value} {x : DataW H × List MemPlace} (ht : P.underlying t = some (.array 3 e)) (he : P.underlying e = some (.int .u8)) (c1 : P.cellsOf e = 1) (c3 : P.cellsOf t = 3) (h : DataW.trod enc P w base spare held fuel t v.cells.toList = some x) :
    ∃ a b c, v = .agg #[.int .u8 a, .int .u8 b, .int .u8 c] ∧ (0 ≤ a ∧ a < 256) ∧ (0 ≤ b ∧ b < 256) ∧ (0 ≤ c ∧ c < 256) := by
  obtain ⟨a, b, c, e, ha, hb, hc⟩ := cells_arr3 ht he c1 c3 h
  refine ⟨a, b, c, ?_, ha, hb, hc⟩
  cases v with
  | agg xs =>
    simp only [Value.cells] at e
    congr 1
    exact Array.toList_inj.1 e
  | _ => simp [Value.cells] at e
end
end Go.SR
