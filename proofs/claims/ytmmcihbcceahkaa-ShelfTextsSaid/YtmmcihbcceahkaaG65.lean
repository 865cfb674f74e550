/- A shelf stays when an array of words is turned. -/
import Derived.Test.YtmmcihbcceahkaaG6
namespace Go.SR
open Go Go.Proofs

section
variable {w0 w w' : World} {s f sm b : Nat} {cs : Array Value} {t : TypeId} {frames bytes symbol : Int} {L : List Blk}

theorem Byr.other {p : Option Addr} {l : Nat} {bs : List By} (h : Byr w p l bs) (ha : At w b cs t) (hv : ∀ (i : Nat) x, cs[i]? ≠ some (bv x)) (hc : Chg (fun x => x = b) w w') : Byr w' p l bs :=
  ⟨h.1, fun i x hx => by
    obtain ⟨a, hp, hw⟩ := h.2 i x hx
    refine ⟨a, hp, ?_⟩
    unfold World.cell? at *
    cases ho : w.heap[(a.add i).block]? with
    | none => simp [ho] at hw
    | some o =>
      cases o with
      | cells ds u fl =>
        have hne : ¬ (a.add i).block = b := by
          intro e
          rw [e] at ho
          have h2 : w.heap[b]? = _ := ha
          rw [h2] at ho
          cases ho
          rw [e, h2] at hw
          dsimp only at hw
          split at hw
          · cases hw
          · exact hv _ _ hw
        rw [hc.keep _ _ ho hne]; rw [ho] at hw; exact hw
      | _ => rw [ho] at hw; simp at hw⟩

theorem BasisOk.other {bb mb k size : Nat} {R : List V} (h : BasisOk w bb mb f k size R) (ha : At w b cs t) (hv : ∀ (i : Nat) x, cs[i]? ≠ some (bv x)) (h1 : t ≠ 175) (h2 : t ≠ 125) (hc : Chg (fun x => x = b) w w') : BasisOk w' bb mb f k size R := by
  obtain ⟨h0, P, X, h3, h4⟩ := h
  obtain ⟨m, hm, hk, hl⟩ := h3.mp
  obtain ⟨ds, hd, _⟩ := h3.fl
  refine ⟨h0, P, X, ⟨h3.bb.chg hc (h3.bb.ne_type ha h1.symm), h3.fl.chg hc (hd.ne_type ha h2.symm), ⟨m, hm.chg hc (hm.ne_at ha), hk, fun x hx => ?_⟩, h3.len⟩, h4⟩
  obtain ⟨q, l, c, e1, e2, e3⟩ := hl x hx
  exact ⟨q, l, c, e1, e2, e3.other ha hv hc⟩

theorem ShelfAt.other (h : ShelfAt w s f sm frames bytes symbol L) (ha : At w b cs t) (hv : ∀ (i : Nat) x, cs[i]? ≠ some (bv x)) (h1 : t ≠ 175) (h2 : t ≠ 125) (h3 : t ≠ 121) (h4 : t ≠ 155) (hc : Chg (fun x => x = b) w w') : ShelfAt w' s f sm frames bytes symbol L := by
  obtain ⟨ds, hd, _⟩ := h.fl
  refine ⟨h.sb.chg hc (h.sb.ne_type ha h3.symm), h.fl.chg hc (hd.ne_type ha h2.symm), h.mp.chg hc (h.mp.ne_at ha), fun x hx => ?_, h.nd, h.pr, h.len⟩
  obtain ⟨e0, y, e1, e2⟩ := h.bs x hx
  exact ⟨e0, y, e1.chg hc (e1.ne_type ha h4.symm), e2.other ha hv h1 h2 hc⟩

theorem ShI.other (h : ShI w0 w s f sm frames bytes symbol L) (hb : w0.heap.size ≤ b) (ha : At w b cs t) (hv : ∀ (i : Nat) x, cs[i]? ≠ some (bv x)) (h1 : t ≠ 175) (h2 : t ≠ 125) (h3 : t ≠ 121) (h4 : t ≠ 155) (hc : Chg (fun x => x = b) w w') : ShI w0 w' s f sm frames bytes symbol L :=
  ⟨h.h.other ha hv h1 h2 h3 h4 hc, Ext.then h.ext hc fun y hy => by subst hy; exact hb, h.sn, h.bn⟩

/-- Words are no bytes. -/
theorem words_nb {cs : Array Value} {l : List Int} (h : cs.toList = l.map fun n => Value.int .i64 n) : ∀ (i : Nat) x, cs[i]? ≠ some (bv x) := by
  intro i x e
  have := congrArg (fun l => l[i]?) h
  simp only [List.getElem?_map] at this
  rw [Array.getElem?_toList, e] at this
  cases hl : l[i]? with
  | none => rw [hl] at this; simp at this
  | some n => rw [hl] at this; simp [bv] at this
end
end Go.SR
