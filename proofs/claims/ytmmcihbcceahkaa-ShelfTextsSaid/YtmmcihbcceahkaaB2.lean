/- The layer SR: what lies in memory: parts of blocks, slices of ints, blocks of one's own. No program in sight. -/
import Derived.Test.YtmmcihbcceahkaaB1
import Derived.Laws.BitsLemmas
import Derived.Laws.BitsAllLaws
namespace Go.SR
open Go

/-! ### whole numbers that do not wrap -/

theorem w64 {n : Int} (h0 : -9223372036854775808 ≤ n) (h1 : n < 9223372036854775808) : IntKind.wrap .i64 n = n := by
  simp [IntKind.wrap, IntKind.bits, IntKind.signed]; omega
theorem wu64 {n : Int} (h0 : 0 ≤ n) (h1 : n < 18446744073709551616) : IntKind.wrap .u64 n = n := by
  simp [IntKind.wrap, IntKind.bits, IntKind.signed]; omega
theorem wu32 {n : Int} (h0 : 0 ≤ n) (h1 : n < 4294967296) : IntKind.wrap .u32 n = n := by
  simp [IntKind.wrap, IntKind.bits, IntKind.signed]; omega
theorem wu16 {n : Int} (h0 : 0 ≤ n) (h1 : n < 65536) : IntKind.wrap .u16 n = n := by
  simp [IntKind.wrap, IntKind.bits, IntKind.signed]; omega
theorem wu8 {n : Int} (h0 : 0 ≤ n) (h1 : n < 256) : IntKind.wrap .u8 n = n := by
  simp [IntKind.wrap, IntKind.bits, IntKind.signed]; omega

theorem nc_s {a : Addr} {F : Addr → Prop} (h : F a) : nc (some a) F := h

/-! ### parts of blocks -/

/-- From place o of a slice that begins at p lie the cells vs, in a block of type t. -/
def AtI (w : World) (p : Option Addr) (t : TypeId) (o : Nat) (vs : List Value) : Prop :=
  ∃ b off cs fl, p = some ⟨b, off, none⟩ ∧ w.heap[b]? = some (.cells cs t fl) ∧ ∀ i v, vs[i]? = some v → cs[off + o + i]? = some v

/-- No block of cells of type t is in S. -/
def Off (S : Nat → Prop) (w : World) (t : TypeId) : Prop := ∀ b cs fl, w.heap[b]? = some (.cells cs t fl) → ¬ S b

theorem Off.none {w : World} {t : TypeId} : Off (fun _ => False) w t := fun _ _ _ _ h => h

theorem Off.of_at {w : World} {b : Nat} {cs : Array Value} {t u : TypeId} (h : At w b cs u) (hne : t ≠ u) : Off (fun x => x = b) w t := by
  rintro c ds fl hc rfl
  have e := hc.symm.trans h
  cases e; exact hne rfl

theorem AtI.chg {S : Nat → Prop} {w w' : World} {p : Option Addr} {t : TypeId} {o : Nat} {vs : List Value} (h : AtI w p t o vs) (hc : Chg S w w') (hS : Off S w t) : AtI w' p t o vs := by
  obtain ⟨b, off, cs, fl, hp, hb, hv⟩ := h
  exact ⟨b, off, cs, fl, hp, hc.keep b _ hb (hS b cs fl hb), hv⟩

theorem AtI.ext {w w' : World} {p : Option Addr} {t : TypeId} {o : Nat} {vs : List Value} (h : AtI w p t o vs) (hc : Ext w w') : AtI w' p t o vs := h.chg hc Off.none

theorem AtI.cells {w : World} {p : Option Addr} {t : TypeId} {o : Nat} {vs : List Value} (h : AtI w p t o vs) : ∃ a, p = some a ∧ cellsAt w (a.add o) vs := by
  obtain ⟨b, off, cs, fl, hp, hb, hv⟩ := h
  refine ⟨_, hp, fun i hi => ?_⟩
  rw [add_mk, add_mk]
  simp only [World.cell?, hb]
  exact hv i _ (List.getElem?_eq_getElem hi)

theorem ixa_at {w : World} {p : Option Addr} {t : TypeId} {i : Int} {l sz : Nat} {vs : List Value} {F : Addr → Prop} (h : AtI w p t (i.toNat * sz) vs) (h0 : 0 ≤ i) (h1 : i < l)
    (hF : ∀ a, cellsAt w a vs → F a) : ixa p l i sz F := by
  obtain ⟨a, hp, hc⟩ := h.cells
  exact ⟨a, hp, h0, h1, hF _ hc⟩

theorem add_zero (a : Addr) : a.add 0 = a := by
  obtain ⟨b, o, i⟩ := a
  cases i <;> simp [Addr.add]

theorem cellsAt.get {w : World} {a : Addr} {vs : List Value} (h : cellsAt w a vs) (i : Nat) {v : Value} (hv : vs[i]? = some v) : w.cell? (a.add i) = some v := by
  obtain ⟨hi, rfl⟩ := List.getElem?_eq_some_iff.1 hv
  exact h i hi

theorem cellsAt.get0 {w : World} {a : Addr} {v : Value} {vs : List Value} (h : cellsAt w a (v :: vs)) : w.cell? a = some v := by
  have := h.get 0 rfl
  rwa [add_zero] at this

/-! ### slices of whole numbers -/

def Ints (t : TypeId) (k : IntKind) (w : World) (p : Option Addr) (l : Nat) (xs : List Int) : Prop := (l = xs.length ∧ xs.length < 4611686018427387904) ∧ ∀ i x, xs[i]? = some x → AtI w p t i [.int k x]

theorem Ints.nil {t : TypeId} {k : IntKind} {w : World} {p : Option Addr} : Ints t k w p 0 [] := ⟨⟨rfl, by simp⟩, fun i x h => by simp at h⟩

theorem Ints.len {t : TypeId} {k : IntKind} {w : World} {p : Option Addr} {l : Nat} {xs : List Int} (h : Ints t k w p l xs) : l = xs.length := h.1.1

theorem Ints.lt {t : TypeId} {k : IntKind} {w : World} {p : Option Addr} {l : Nat} {xs : List Int} (h : Ints t k w p l xs) : xs.length < 4611686018427387904 := h.1.2

theorem Ints.chg {S : Nat → Prop} {t : TypeId} {k : IntKind} {w w' : World} {p : Option Addr} {l : Nat} {xs : List Int} (h : Ints t k w p l xs) (hc : Chg S w w') (hS : Off S w t) : Ints t k w' p l xs :=
  ⟨h.1, fun i x hx => (h.2 i x hx).chg hc hS⟩

theorem Ints.ext {t : TypeId} {k : IntKind} {w w' : World} {p : Option Addr} {l : Nat} {xs : List Int} (h : Ints t k w p l xs) (hc : Ext w w') : Ints t k w' p l xs := h.chg hc Off.none

/-- Element i, 0 where there is none. -/
def gI (xs : List Int) (i : Int) : Int := xs.getD i.toNat 0

theorem gI_get {xs : List Int} {i : Int} (h0 : 0 ≤ i) (h1 : i < xs.length) : xs[i.toNat]? = some (gI xs i) := by
  have h : i.toNat < xs.length := by omega
  simp [gI, List.getD, List.getElem?_eq_getElem h]

theorem Ints.ix {t : TypeId} {k : IntKind} {w : World} {p : Option Addr} {l : Nat} {xs : List Int} {i : Int} {F : Addr → Prop} (h : Ints t k w p l xs) (h0 : 0 ≤ i) (h1 : i < xs.length)
    (hF : ∀ a, w.cell? a = some (.int k (gI xs i)) → F a) : ixa p l i 1 F := by
  have hx := gI_get h0 h1
  have hg : AtI w p t (i.toNat * 1) [.int k (gI xs i)] := by rw [Nat.mul_one]; exact h.2 _ _ hx
  exact ixa_at hg h0 (by rw [h.len]; exact h1) fun a ha => hF a ha.get0

theorem st1_at {a : Addr} {b i : Nat} {v : Value} {w : World} {F : World → Prop} {cs : Array Value} {t : TypeId} (hat : At w b cs t) (ha : a = ⟨b, i, none⟩) (hi : i < cs.size) (h1 : v.oneCell' = true)
    (h : ∀ w', At w' b (cs.setIfInBounds i v) t → Chg (fun x => x = b) w w' → F w') : st1 a v w F := by
  subst ha; exact st1_step hat hi h1 h

/-! ### blocks of one's own -/

def CellsO (cs : Array Value) (t : TypeId) (o : Obj) : Prop := o = .cells cs t (0, 0)

/-- What is one's own: w is w0, but for S and for new blocks, among them these. -/
structure Own (S : Nat → Prop) (w0 w : World) (L : List (Nat × (Obj → Prop))) : Prop where
  chg : Chg S w0 w
  here : ∀ (k b : Nat) (φ : Obj → Prop), L[k]? = some (b, φ) → (∃ o, w.heap[b]? = some o ∧ φ o) ∧ (S b ∨ w0.heap.size ≤ b)
  apart : (L.map Prod.fst).Nodup

variable {S : Nat → Prop} {w0 w w' : World} {L : List (Nat × (Obj → Prop))}

theorem Own.nil (S : Nat → Prop) (w : World) : Own S w w [] := ⟨Chg.refl _ _, fun k b φ h => by simp at h, by simp⟩

/-- A block that may be written lies in w. -/
theorem Own.one {S : Nat → Prop} {w : World} {b : Nat} {o : Obj} {φ : Obj → Prop} (hb : w.heap[b]? = some o) (hφ : φ o) (hS : S b) : Own S w w [(b, φ)] := by
  refine ⟨Chg.refl _ _, fun k c ψ h => ?_, by simp⟩
  cases k with
  | zero => simp at h; obtain ⟨rfl, rfl⟩ := h; exact ⟨⟨o, hb, hφ⟩, .inl hS⟩
  | succ k => simp at h

theorem Own.lt (h : Own S w0 w L) {k b : Nat} {φ : Obj → Prop} (hk : L[k]? = some (b, φ)) : b < w.heap.size := by
  obtain ⟨⟨o, ho, _⟩, _⟩ := h.here k b φ hk
  exact lt_of_heap ho

theorem Own.at (h : Own S w0 w L) (k : Nat) {b : Nat} {cs : Array Value} {t : TypeId} (hk : L[k]? = some (b, CellsO cs t)) : At w b cs t := by
  obtain ⟨⟨o, ho, rfl⟩, _⟩ := h.here k b _ hk
  exact ho

theorem Own.rd (h : Own S w0 w L) (k i : Nat) {a : Addr} {b : Nat} {cs : Array Value} {t : TypeId} {v : Value} (hk : L[k]? = some (b, CellsO cs t)) (ha : a = ⟨b, i, none⟩) (hv : cs[i]? = some v) : w.cell? a = some v := by
  rw [ha, (h.at k hk).cell]; exact hv

/-- All cells of one of them. -/
theorem Own.all (h : Own S w0 w L) (k : Nat) {b : Nat} {cs : Array Value} {vs : List Value} {t : TypeId} (hk : L[k]? = some (b, CellsO cs t)) (hv : cs.toList = vs) : cellsAt w ⟨b, 0, none⟩ vs := by
  subst hv
  intro i hi
  rw [(h.at k hk).cell0]
  simp

theorem Own.push (h : Own S w0 w L) {b : Nat} {o : Obj} {φ : Obj → Prop} (he : Ext w w') (hb : w.heap.size ≤ b) (ho : w'.heap[b]? = some o) (hφ : φ o) : Own S w0 w' (L ++ [(b, φ)]) := by
  refine ⟨h.chg.trans he.any, fun k c ψ hk => ?_, ?_⟩
  · rw [List.getElem?_append] at hk
    split at hk
    · obtain ⟨⟨p, hp, hq⟩, hs⟩ := h.here k c ψ hk
      exact ⟨⟨p, he.keep c p hp id, hq⟩, hs⟩
    · rename_i hlt
      cases hj : k - L.length with
      | zero => rw [hj] at hk; simp at hk; obtain ⟨rfl, rfl⟩ := hk; exact ⟨⟨o, ho, hφ⟩, .inr (Nat.le_trans h.chg.size hb)⟩
      | succ j => rw [hj] at hk; simp at hk
  · rw [List.map_append, List.nodup_append]
    refine ⟨h.apart, by simp, fun a ha c hc => ?_⟩
    simp at hc; subst hc
    obtain ⟨⟨x, φ'⟩, hx, rfl⟩ := List.mem_map.1 ha
    obtain ⟨k, hk⟩ := List.mem_iff_getElem?.1 hx
    have := h.lt hk
    simp; omega

theorem Own.ext (h : Own S w0 w L) (he : Ext w w') : Own S w0 w' L :=
  ⟨h.chg.trans he.any, fun k c ψ hk => by
    obtain ⟨⟨p, hp, hq⟩, hs⟩ := h.here k c ψ hk
    exact ⟨⟨p, he.keep c p hp id, hq⟩, hs⟩, h.apart⟩

/-- One of them is turned. -/
theorem Own.turn (h : Own S w0 w L) (k : Nat) {b : Nat} {φ ψ : Obj → Prop} (hk : L[k]? = some (b, φ)) (hc : Chg (fun x => x = b) w w') {o : Obj} (ho : w'.heap[b]? = some o) (hψ : ψ o) : Own S w0 w' (L.set k (b, ψ)) := by
  obtain ⟨hkl, hke⟩ := List.getElem?_eq_some_iff.1 hk
  refine ⟨h.chg.then hc fun x hx => ?_, fun j c χ hj => ?_, ?_⟩
  · subst hx; exact (h.here k x φ hk).2.symm
  · rw [List.getElem?_set] at hj
    split at hj
    · rename_i e
      subst e
      cases hj
      exact ⟨⟨o, ho, hψ⟩, (h.here k b φ hk).2⟩
    · rename_i hne
      obtain ⟨⟨p, hp, hq⟩, hs⟩ := h.here j c χ hj
      refine ⟨⟨p, hc.keep c p hp ?_, hq⟩, hs⟩
      rintro rfl
      obtain ⟨hjl, hje⟩ := List.getElem?_eq_some_iff.1 hj
      have := List.pairwise_iff_getElem.1 h.apart
      rcases Nat.lt_or_gt_of_ne hne with hlt | hlt
      · exact this k j (by simpa using hkl) (by simpa using hjl) hlt (by simp [hke, hje])
      · exact this j k (by simpa using hjl) (by simpa using hkl) hlt (by simp [hke, hje])
  · have : (L.set k (b, ψ)).map Prod.fst = L.map Prod.fst := by
      rw [List.map_set]
      apply List.ext_getElem?
      intro i
      rw [List.getElem?_set]
      split
      · rename_i e; subst e; simp [hke, hkl]
      · rfl
    rw [this]; exact h.apart

theorem Own.take (h : Own S w0 w L) (n : Nat) : Own S w0 w (L.take n) := by
  refine ⟨h.chg, fun k c ψ hk => ?_, ?_⟩
  · rw [List.getElem?_take] at hk
    split at hk
    · exact h.here k c ψ hk
    · cases hk
  · rw [List.map_take]; exact h.apart.sublist (List.take_sublist _ _)

theorem Own.al (h : Own S w0 w L) {cs : Array Value} {t : TypeId} {F : Nat → World → Prop} (hF : ∀ b w', Own S w0 w' (L ++ [(b, CellsO cs t)]) → Ext w w' → F b w') : al cs t w F :=
  al_step fun b w' hat he hb => hF b w' (h.push he hb hat rfl) he

theorem Own.box (h : Own S w0 w L) {z : Array Value} {vs : List Value} {t : TypeId} {F : Nat → World → Prop} (hl : vs.length = z.size) (h1 : ∀ v ∈ vs, v.oneCell' = true)
    (hF : ∀ b w', Own S w0 w' (L ++ [(b, CellsO vs.toArray t)]) → Ext w w' → F b w') : SR.al z t w fun b w' => stN ⟨b, 0, none⟩ vs w' fun w' => F b w' :=
  box_step hl h1 fun b w' hat he hb => hF b w' (h.push he hb hat rfl) he

theorem Own.st (h : Own S w0 w L) (k i : Nat) {a : Addr} {b : Nat} {cs : Array Value} {t : TypeId} {v : Value} {F : World → Prop} (hk : L[k]? = some (b, CellsO cs t)) (ha : a = ⟨b, i, none⟩) (hi : i < cs.size) (h1 : v.oneCell' = true)
    (hF : ∀ w', Own S w0 w' (L.set k (b, CellsO (cs.setIfInBounds i v) t)) → Chg (fun x => x = b) w w' → F w') : st1 a v w F :=
  st1_at (h.at k hk) ha hi h1 fun w' hat hc => hF w' (h.turn k hk hc hat rfl) hc

theorem Own.stN (h : Own S w0 w L) (k : Nat) {b : Nat} {cs : Array Value} {t : TypeId} {vs : List Value} {F : World → Prop} (hk : L[k]? = some (b, CellsO cs t)) (hl : vs.length = cs.size) (h1 : ∀ v ∈ vs, v.oneCell' = true)
    (hF : ∀ w', Own S w0 w' (L.set k (b, CellsO vs.toArray t)) → Chg (fun x => x = b) w w' → F w') : SR.stN ⟨b, 0, none⟩ vs w F :=
  stN_step (h.at k hk) (by omega) h1 fun w' hat hc => by
    rw [over_all hl] at hat
    exact hF w' (h.turn k hk hc hat rfl) hc

/-- A call, or an operation, that turns one of them. -/
theorem Own.calls (h : Own S w0 w L) (k : Nat) {b : Nat} {φ : Obj → Prop} {cs : Array Value} {t : TypeId} (hk : L[k]? = some (b, φ)) (hc : Chg (fun x => x = b) w w') (hat : At w' b cs t) : Own S w0 w' (L.set k (b, CellsO cs t)) :=
  h.turn k hk hc hat rfl
end Go.SR
