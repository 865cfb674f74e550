/- The layer SR: more words on blocks and worlds. No program in sight. -/
import Derived.Test.YtmmcihbcceahkaaB6
namespace Go.SR
open Go

theorem At.chg {S : Nat → Prop} {w w' : World} {b : Nat} {cs : Array Value} {t : TypeId} (h : At w b cs t) (hc : Chg S w w') (hb : ¬ S b) : At w' b cs t := hc.keep _ _ h hb
theorem At.ext {w w' : World} {b : Nat} {cs : Array Value} {t : TypeId} (h : At w b cs t) (he : Ext w w') : At w' b cs t := he.keep _ _ h id
theorem At.rd {w : World} {b : Nat} {cs : Array Value} {t : TypeId} (h : At w b cs t) (i : Nat) {a : Addr} {v : Value} (ha : a = ⟨b, i, none⟩) (hv : cs[i]? = some v) : w.cell? a = some v := by rw [ha, h.cell]; exact hv
theorem At.lt {w : World} {b : Nat} {cs : Array Value} {t : TypeId} (h : At w b cs t) : b < w.heap.size := lt_of_heap h
theorem At.all {w : World} {b : Nat} {cs : Array Value} {t : TypeId} {vs : List Value} (h : At w b cs t) (hv : cs.toList = vs) : SR.cellsAt w ⟨b, 0, none⟩ vs := by
  subst hv; intro i hi; rw [h.cell0]; simp
theorem MapAt.lt {w : World} {b : Nat} {q : IntKind} {m : List (Int × Value)} (h : MapAt w b q m) : b < w.heap.size := by
  obtain ⟨o, ho, _⟩ := h; exact lt_of_heap ho
theorem MapAt.nodup {w : World} {b : Nat} {q : IntKind} {m : List (Int × Value)} (h : MapAt w b q m) : (m.map Prod.fst).Nodup := by
  obtain ⟨o, _, hm⟩ := h; exact hm.apart

theorem hold_one {f : Fact} {w : World} (h : f.holds w) : hold [f] w := hold_cons h (hold_nil w)

/-- All that changes is in S or new. -/
theorem Chg.of_ext {S : Nat → Prop} {w w' : World} (h : Ext w w') : Chg S w w' := h.any
theorem Chg.ext {S : Nat → Prop} {w w' w'' : World} (h : Chg S w w') (h' : Ext w' w'') : Chg S w w'' := h.then h' fun _ hb => hb.elim
end Go.SR
