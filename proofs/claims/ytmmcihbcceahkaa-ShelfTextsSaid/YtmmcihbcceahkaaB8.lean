/- The layer SR: bytes, parts of slices, what stays when maps alone are turned. No program in sight. -/
import Derived.Test.YtmmcihbcceahkaaB7
import Derived.Test.YtmmcihbcceahkaaM3
import Derived.Laws.Slices
namespace Go.SR
open Go

/-! ### cells that stay -/

def Sty (w w' : World) : Prop := ∀ a v, w.cell? a = some v → w'.cell? a = some v
theorem Sty.refl (w : World) : Sty w w := fun _ _ h => h
theorem Sty.trans {w w' w'' : World} (h : Sty w w') (h' : Sty w' w'') : Sty w w'' := fun a v hv => h' a v (h a v hv)
theorem Ext.sty {w w' : World} (h : Ext w w') : Sty w w' := fun _ _ hv => h.cell hv

/-- S holds maps (or blocks that are not there) alone. -/
def NoCells (S : Nat → Prop) (w : World) : Prop := ∀ b cs t fl, w.heap[b]? = some (.cells cs t fl) → ¬ S b

theorem Chg.sty {S : Nat → Prop} {w w' : World} (h : Chg S w w') (hS : NoCells S w) : Sty w w' := by
  intro a v hv
  unfold World.cell? at *
  cases ho : w.heap[a.block]? with
  | none => simp [ho] at hv
  | some o =>
    cases o with
    | cells cs t fl => rw [h.keep _ _ ho (hS _ _ _ _ ho)]; rw [ho] at hv; exact hv
    | _ => rw [ho] at hv; simp at hv

theorem NoCells.of_map {w : World} {b : Nat} {q : IntKind} {m : List (Int × Value)} (h : MapAt w b q m) : NoCells (fun x => x = b) w := by
  rintro c cs t fl hc rfl
  obtain ⟨o, ho, hm⟩ := h
  obtain ⟨es, k, rfl, _⟩ := hm.is
  have := ho.symm.trans hc
  cases this

theorem NoCells.or {S T : Nat → Prop} {w : World} (h : NoCells S w) (h' : NoCells T w) : NoCells (fun x => S x ∨ T x) w := fun b cs t fl hb hS => by
  rcases hS with h1 | h1
  · exact h b cs t fl hb h1
  · exact h' b cs t fl hb h1

theorem NoCells.at {S : Nat → Prop} {w w' : World} {b : Nat} {cs : Array Value} {t : TypeId} (h : NoCells S w) (hc : Chg S w w') (hat : At w b cs t) : At w' b cs t := hc.keep _ _ hat (h _ _ _ _ hat)

theorem Sty.cellsAt {w w' : World} {a : Addr} {vs : List Value} (h : Sty w w') (hc : cellsAt w a vs) : SR.cellsAt w' a vs := fun i hi => h _ _ (hc i hi)

/-! ### bytes -/

def bv (b : By) : Value := .int .u8 (b.toNat : Int)

theorem bv_one (b : By) : (bv b).oneCell' = true := rfl
theorem bv_all (bs : List By) : ∀ v ∈ bs.map bv, v.oneCell' = true := fun v hv => by obtain ⟨b, _, rfl⟩ := List.mem_map.1 hv; rfl

theorem by_of {n : Int} (h0 : 0 ≤ n) (h1 : n < 256) : ∃ b : By, n = (b.toNat : Int) := ⟨BitVec.ofNat 8 n.toNat, by rw [BitVec.toNat_ofNat, Nat.mod_eq_of_lt (by omega)]; omega⟩

theorem by_inj {a b : By} : ((a.toNat : Int) = (b.toNat : Int)) ↔ a = b := by
  constructor
  · intro h; exact BitVec.eq_of_toNat_eq (by omega)
  · rintro rfl; rfl

theorem by_zero {a : By} : ((a.toNat : Int) = 0) ↔ a = 0#8 := by rw [← by_inj]; simp

theorem by_ofInt (a : By) : BitVec.ofInt 8 (a.toNat : Int) = a := by
  apply BitVec.eq_of_toNat_eq
  rw [BitVec.toNat_ofInt]
  have := a.isLt
  omega

theorem by_wrap (a : By) : IntKind.wrap .u8 (a.toNat : Int) = (a.toNat : Int) := wu8 (by omega) (by have := a.isLt; omega)

theorem by_xor (a b : By) : IntKind.wrap .u8 ((BitVec.ofInt 8 (a.toNat : Int) ^^^ BitVec.ofInt 8 (b.toNat : Int)).toNat : Int) = ((a ^^^ b).toNat : Int) := by
  rw [by_ofInt, by_ofInt, by_wrap]

theorem by_or (a b : By) : IntKind.wrap .u8 ((BitVec.ofInt 8 (a.toNat : Int) ||| BitVec.ofInt 8 (b.toNat : Int)).toNat : Int) = ((a ||| b).toNat : Int) := by
  rw [by_ofInt, by_ofInt, by_wrap]

/-- A slice of bytes that reads so. -/
def Byr (w : World) (p : Option Addr) (l : Nat) (bs : List By) : Prop :=
  (l = bs.length ∧ bs.length < 4611686018427387904) ∧ ∀ i b, bs[i]? = some b → ∃ a, p = some a ∧ w.cell? (a.add i) = some (bv b)

theorem Byr.len {w : World} {p : Option Addr} {l : Nat} {bs : List By} (h : Byr w p l bs) : l = bs.length := h.1.1
theorem Byr.lt {w : World} {p : Option Addr} {l : Nat} {bs : List By} (h : Byr w p l bs) : bs.length < 4611686018427387904 := h.1.2
theorem Byr.nil {w : World} {p : Option Addr} : Byr w p 0 [] := ⟨⟨rfl, by simp⟩, fun i b h => by simp at h⟩
theorem Byr.sty {w w' : World} {p : Option Addr} {l : Nat} {bs : List By} (h : Byr w p l bs) (hs : Sty w w') : Byr w' p l bs :=
  ⟨h.1, fun i b hb => by obtain ⟨a, ha, hc⟩ := h.2 i b hb; exact ⟨a, ha, hs _ _ hc⟩⟩
theorem Byr.ext {w w' : World} {p : Option Addr} {l : Nat} {bs : List By} (h : Byr w p l bs) (he : Ext w w') : Byr w' p l bs := h.sty he.sty

theorem Byr.ix {w : World} {p : Option Addr} {l : Nat} {bs : List By} {i : Int} {F : Addr → Prop} (h : Byr w p l bs) (h0 : 0 ≤ i) (h1 : i < bs.length) (hF : ∀ a, w.cell? a = some (bv (vec bs i.toNat)) → F a) : ixa p l i 1 F := by
  have hi : i.toNat < bs.length := by omega
  obtain ⟨a, ha, hc⟩ := h.2 i.toNat _ (vec_get hi)
  exact ⟨a, ha, h0, by rw [h.len]; exact h1, hF _ (by rw [Nat.mul_one]; exact hc)⟩

theorem Byr.cells {w : World} {a : Addr} {l : Nat} {bs : List By} (h : Byr w (some a) l bs) : cellsAt w a (bs.map bv) := by
  intro i hi
  have hi' : i < bs.length := by simpa using hi
  obtain ⟨a', ha, hc⟩ := h.2 i _ (List.getElem?_eq_getElem hi')
  cases ha
  simpa using hc

abbrev RowB (w : World) (base : Nat) (p : Option Addr) (l c : Nat) (bs : List By) : Prop := Row w base 5 1 p l c (bs.map bv)

theorem RowB.lenB {w : World} {base : Nat} {p : Option Addr} {l c : Nat} {bs : List By} (h : RowB w base p l c bs) : l = bs.length := by
  have := Row.len h; simp at this; omega

theorem RowB.byr {w : World} {base : Nat} {p : Option Addr} {l c : Nat} {bs : List By} (h : RowB w base p l c bs) (hl : bs.length < 4611686018427387904) : Byr w p l bs := by
  refine ⟨⟨h.lenB, hl⟩, fun i b hb => ?_⟩
  have hat := Row.at h i [bv b] (fun j u hj => by cases j with | zero => simp at hj; subst hj; simp [hb] | succ j => simp at hj) (by simp)
  obtain ⟨a, ha, hc⟩ := hat.cells
  exact ⟨a, ha, hc.get0⟩

theorem Row.empty {w : World} {base b : Nat} {e : TypeId} {sz : Nat} (h : At w b #[] e) (hb : base ≤ b) : Row w base e sz (some ⟨b, 0, none⟩) 0 0 [] :=
  ⟨by simp, .inr ⟨b, 0, #[], rfl, hb, h, by simp, by simp, by simp, by simp⟩⟩

theorem Row.base_mono {w : World} {base base' : Nat} {e : TypeId} {sz : Nat} {p : Option Addr} {l c : Nat} {vs : List Value} (h : Row w base e sz p l c vs) (hb : base' ≤ base) : Row w base' e sz p l c vs := by
  refine ⟨h.1, ?_⟩
  rcases h.2 with h1 | ⟨g, cap, cur, h1, h2, h3⟩
  · exact .inl h1
  · exact .inr ⟨g, cap, cur, h1, Nat.le_trans hb h2, h3⟩

/-- A cell of a row is written. -/
theorem Row.wr {w : World} {base : Nat} {e : TypeId} {p : Option Addr} {l c : Nat} {vs : List Value} {i : Int} {v : Value} {F : World → Prop} (h : Row w base e 1 p l c vs) (h0 : 0 ≤ i) (h1 : i < l) (hv : v.oneCell' = true)
    (hF : ∀ w', Row w' base e 1 p l c (vs.set i.toNat v) → Chg (rowS (.slice p l c)) w w' → F w') : ixa p l i 1 fun a => st1 a v w F := by
  rcases h.2 with ⟨h1', h2⟩ | ⟨g, cap, cur, hs, hbg, hat, hr1, hr2, hr3, hr4⟩
  · omega
  · cases hs
    refine ⟨_, rfl, h0, h1, ?_⟩
    rw [Nat.mul_one, add_mk, Nat.zero_add]
    have hA : At w g cur e := hat
    rw [Nat.mul_one] at hr3 hr4
    refine st1_step hA (by omega) hv fun w' hat' hc => hF w' ⟨by simpa using h.1, .inr ⟨g, c, _, rfl, hbg, hat', hr1, hr2, by simpa using hr3, ?_⟩⟩ (hc.mono fun x _ hx => by simp [rowS, Value.ownBlock, hx])
    rw [Nat.mul_one, ← hr4, Array.toList_setIfInBounds, List.take_set]

theorem RowB.wr {w : World} {base : Nat} {p : Option Addr} {l c : Nat} {bs : List By} {i : Int} {x : By} {n : Int} {F : World → Prop} (h : RowB w base p l c bs) (hn : n = (x.toNat : Int)) (h0 : 0 ≤ i) (h1 : i < l)
    (hF : ∀ w', RowB w' base p l c (bs.set i.toNat x) → Chg (rowS (.slice p l c)) w w' → F w') : ixa p l i 1 fun a => st1 a (.int .u8 n) w F := by
  subst hn
  exact Row.wr h h0 h1 rfl fun w' h' hc => hF w' (by unfold RowB; rw [List.map_set]; exact h') hc

/-- append, what is added read from a slice that may be nil. -/
theorem append_byr {P : Program} {w : World} {F : Value → World → Prop} {base : Nat} {t ty : TypeId} {p : Option Addr} {l c : Nat} {bs : List By} {q : Option Addr} {m c' : Nat} {news : List By}
    (ht : P.underlying t = some (.slice 5)) (hi : (P.info? 5).map (fun i => (i.zero, i.size, i.bytes)) = some (some (.int .u8 0), 1, 1))
    (h : RowB w base p l c bs) (hn : Byr w q m news) (hb : l + m ≤ 140737488355328) (hbase : base ≤ w.heap.size)
    (hF : ∀ p' c' w', RowB w' base p' (l + m) c' (bs ++ news) → Chg (rowS (.slice p l c)) w w' → F (.slice p' (l + m) c') w') :
    rnV P (Builtin.append_ #[t, t] ty #[.slice p l c, .slice q m c']) w F := by
  have hm := hn.len
  cases q with
  | some a =>
    refine append_step (news := news.map bv) (z := .int .u8 0) (bytes := 1) (e := 5) ht hi rfl (by decide) h (by simp [hm]) hn.cells (bv_all _) (by omega) (by omega) hbase fun p' c'' w' h' hc => hF p' c'' w' ?_ hc
    unfold RowB; rw [List.map_append]; exact h'
  | none =>
    have hne : news = [] := by
      cases news with
      | nil => rfl
      | cons b news => obtain ⟨a, ha, _⟩ := hn.2 0 b rfl; cases ha
    subst hne
    simp at hm; subst hm
    obtain ⟨i, hi', hz, hs, hbt⟩ := info_parts hi
    refine ⟨.slice p l c, w, ?_, hF p c w (by simpa using h) (Chg.refl _ w)⟩
    rcases h.2 with ⟨h1, h2⟩ | ⟨g, cap, cur, h1, _, _, hnc, _⟩
    · cases h1; simp [Builtin.append_, run_underlying ht, sizeOf, typeInfo, hi', Builtin.lenOf, Builtin.firstCells]
    · cases h1; simp [Builtin.append_, run_underlying ht, sizeOf, typeInfo, hi', Builtin.lenOf, Builtin.firstCells, hnc, storeCells]

/-! ### parts of slices -/

theorem run_size {P : Program} {e : TypeId} {s : Nat} (h : (P.info? e).map (·.size) = some s) (w : World) : (sizeOf e).run P w = .ok s w := by
  cases hi : P.info? e with
  | none => rw [hi] at h; simp at h
  | some i => rw [hi] at h; simp at h; simp [sizeOf, typeInfo, hi, h]

theorem pv_upto {P : Program} {t e : TypeId} {s : Nat} {p : Option Addr} {l c : Nat} {k : IntKind} {n : Int} {F : Value → Prop} (ht : P.underlying t = some (.slice e)) (hs : (P.info? e).map (·.size) = some s)
    (h0 : 0 ≤ n) (h1 : n ≤ c) (hF : F (.slice p n.toNat c)) : pv P (Instr.sliceAt t (.slice p l c) none (some (.int k n)) none) F := by
  have he : P.elem t = e := by simp [Program.elem, ht]
  refine ⟨_, fun w => ?_, hF⟩
  rw [run_sliceAt_slice w t _ _ _ _ (by rw [he]; exact ht), run_slice_h w t p l c (by rw [he]; exact ht) k n h0 h1, he, run_size hs]
  simp only [Result.andThen, sliced]
  congr 1
  by_cases hc : c = 0
  · simp [hc]
  · rw [if_neg hc]
    cases p with
    | none => simp
    | some a => simp [add_zero]

theorem pv_from {P : Program} {t e : TypeId} {s : Nat} {p : Option Addr} {l c : Nat} {k : IntKind} {n : Int} {F : Value → Prop} (ht : P.underlying t = some (.slice e)) (hs : (P.info? e).map (·.size) = some s)
    (h0 : 0 ≤ n) (h1 : n ≤ l) (hF : F (.slice (sla p c n.toNat s) (l - n.toNat) (c - n.toNat))) : pv P (Instr.sliceAt t (.slice p l c) (some (.int k n)) none none) F := by
  have he : P.elem t = e := by simp [Program.elem, ht]
  refine ⟨_, fun w => ?_, hF⟩
  rw [run_sliceAt_slice w t _ _ _ _ (by rw [he]; exact ht), run_slice_l w t p l c (by rw [he]; exact ht) k n h0 h1, he, run_size hs]
  rfl

theorem Byr.upto {w : World} {p : Option Addr} {l n : Nat} {bs : List By} (h : Byr w p l bs) (hn : n ≤ bs.length) : Byr w p n (bs.take n) :=
  ⟨⟨by rw [List.length_take]; omega, by have := h.lt; rw [List.length_take]; omega⟩, fun i b hb => by
    rw [List.getElem?_take] at hb
    split at hb
    · exact h.2 i b hb
    · cases hb⟩

theorem add_add (a : Addr) (m n : Nat) : (a.add m).add n = a.add (m + n) := by
  obtain ⟨b, o, s⟩ := a
  unfold Addr.add
  by_cases hm : m = 0
  · subst hm; simp
  · by_cases hn : n = 0
    · subst hn; simp [hm]
    · simp [hm, hn, Nat.add_assoc]

theorem Byr.from' {w : World} {p : Option Addr} {l n c : Nat} {bs : List By} (h : Byr w p l bs) (hn : n ≤ bs.length) (hc : l ≤ c) : Byr w (sla p c n 1) (l - n) (bs.drop n) := by
  have hl := h.len
  refine ⟨⟨by rw [List.length_drop]; omega, by have := h.lt; rw [List.length_drop]; omega⟩, fun i b hb => ?_⟩
  rw [List.getElem?_drop] at hb
  obtain ⟨a, ha, hcell⟩ := h.2 _ b hb
  have hi := (List.getElem?_eq_some_iff.1 hb).1
  have hne : c ≠ n := by omega
  refine ⟨a.add n, ?_, ?_⟩
  · simp [sla, if_neg hne, ha]
  · rw [add_add]; exact hcell
end Go.SR
