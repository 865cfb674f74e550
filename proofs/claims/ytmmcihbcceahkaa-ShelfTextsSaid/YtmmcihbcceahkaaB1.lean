/- The layer SR: words on memory, and how each word of a residual is met. No program in sight. -/
import Derived.Test.YtmmcihbcceahkaaA6
import Derived.Below
import Derived.Laws.AppendOwn
namespace Go.SR
open Go

/-! ### worlds that grow -/

/-- w' is w, but for new blocks and for what is in S. -/
structure Chg (S : Nat → Prop) (w w' : World) : Prop where
  size : w.heap.size ≤ w'.heap.size
  keep : ∀ b o, w.heap[b]? = some o → ¬ S b → w'.heap[b]? = some o
  os : w'.os = w.os
  tape : w'.tape = w.tape
  output : w'.output = w.output

abbrev Ext (w w' : World) : Prop := Chg (fun _ => False) w w'

theorem lt_of_heap {w : World} {b : Nat} {o : Obj} (h : w.heap[b]? = some o) : b < w.heap.size := (Array.getElem?_eq_some_iff.1 h).1

theorem Chg.refl (S : Nat → Prop) (w : World) : Chg S w w := ⟨Nat.le_refl _, fun _ _ h _ => h, rfl, rfl, rfl⟩
theorem Ext.refl (w : World) : Ext w w := Chg.refl _ w

theorem Chg.trans {S : Nat → Prop} {w w' w'' : World} (h : Chg S w w') (h' : Chg S w' w'') : Chg S w w'' :=
  ⟨Nat.le_trans h.size h'.size, fun b o hb hs => h'.keep b o (h.keep b o hb hs) hs, h'.os.trans h.os, h'.tape.trans h.tape, h'.output.trans h.output⟩

theorem Chg.mono {S T : Nat → Prop} {w w' : World} (h : Chg S w w') (hs : ∀ b, b < w.heap.size → S b → T b) : Chg T w w' :=
  ⟨h.size, fun b o hb ht => h.keep b o hb fun hs' => ht (hs b (lt_of_heap hb) hs'), h.os, h.tape, h.output⟩

theorem Ext.any {S : Nat → Prop} {w w' : World} (h : Ext w w') : Chg S w w' := h.mono fun _ _ h => h.elim

/-- A step that touches nothing that was there at w. -/
theorem Chg.then {S T : Nat → Prop} {w w' w'' : World} (h : Chg S w w') (h' : Chg T w' w'') (ht : ∀ b, T b → w.heap.size ≤ b ∨ S b) : Chg S w w'' :=
  ⟨Nat.le_trans h.size h'.size, fun b o hb hs => h'.keep b o (h.keep b o hb hs) fun hT => by
    rcases ht b hT with hl | hS
    · have := lt_of_heap hb; omega
    · exact hs hS, h'.os.trans h.os, h'.tape.trans h.tape, h'.output.trans h.output⟩

theorem Ext.then {T : Nat → Prop} {w w' w'' : World} (h : Ext w w') (h' : Chg T w' w'') (ht : ∀ b, T b → w.heap.size ≤ b) : Ext w w'' :=
  Chg.then h h' fun b hb => .inl (ht b hb)

theorem Ext.below {w w' : World} (h : Ext w w') : RowKit.Below w.heap.size w w' := by
  refine ⟨h.os, h.tape, h.output, h.size, fun i hi => ?_⟩
  have hs : w.heap[i]? = some w.heap[i] := Array.getElem?_eq_getElem hi
  rw [hs]
  exact h.keep i _ hs id

theorem Chg.cell {S : Nat → Prop} {w w' : World} (h : Chg S w w') {a : Addr} {v : Value} (hv : w.cell? a = some v) (hs : ¬ S a.block) : w'.cell? a = some v := by
  unfold World.cell? at *
  cases ho : w.heap[a.block]? with
  | none => simp [ho] at hv
  | some o => rw [h.keep _ _ ho hs]; rw [ho] at hv; exact hv

theorem Ext.cell {w w' : World} (h : Ext w w') {a : Addr} {v : Value} (hv : w.cell? a = some v) : w'.cell? a = some v := Chg.cell h hv id

theorem cellsAt_nil (w : World) (a : Addr) : cellsAt w a [] := fun i h => by simp at h

theorem cellsAt.ext {w w' : World} {a : Addr} {vs : List Value} (h : cellsAt w a vs) (he : Ext w w') : cellsAt w' a vs := fun i hi => he.cell (h i hi)

theorem cellsAt.chg {S : Nat → Prop} {w w' : World} {a : Addr} {vs : List Value} (h : cellsAt w a vs) (he : Chg S w w') (hs : ¬ S a.block) : cellsAt w' a vs :=
  fun i hi => he.cell (h i hi) (by unfold Addr.add; split <;> exact hs)

/-! ### blocks -/

/-- A block of cells that may be written. -/
abbrev At (w : World) (b : Nat) (cs : Array Value) (t : TypeId) : Prop := w.heap[b]? = some (.cells cs t (0, 0))

theorem At.cell {w : World} {b : Nat} {cs : Array Value} {t : TypeId} (h : At w b cs t) (i : Nat) : w.cell? ⟨b, i, none⟩ = cs[i]? := by
  simp [World.cell?, h]

theorem add_mk (b o n : Nat) : (⟨b, o, none⟩ : Addr).add n = ⟨b, o + n, none⟩ := by
  unfold Addr.add; split <;> simp_all

theorem At.cell0 {w : World} {b : Nat} {cs : Array Value} {t : TypeId} (h : At w b cs t) (i : Nat) : w.cell? ((⟨b, 0, none⟩ : Addr).add i) = cs[i]? := by
  rw [add_mk, Nat.zero_add]; exact h.cell i

theorem At.cellsAt {w : World} {b : Nat} {cs : Array Value} {t : TypeId} (h : At w b cs t) (vs : List Value) (off : Nat) (hv : ∀ i (hi : i < vs.length), cs[off + i]? = some vs[i]) : cellsAt w ⟨b, off, none⟩ vs := by
  intro i hi
  rw [add_mk, h.cell]
  exact hv i hi

theorem At.frozen {w : World} {b : Nat} {cs : Array Value} {t : TypeId} (h : At w b cs t) (i : Nat) : w.frozen? ⟨b, i, none⟩ = false := by
  simp [World.frozen?, h]

/-- Blocks of other kinds are other blocks. -/
theorem ne_of_heap {w : World} {b c : Nat} {o p : Obj} (h : w.heap[b]? = some o) (h' : w.heap[c]? = some p) (hne : o ≠ p) : b ≠ c := by
  rintro rfl; rw [h] at h'; cases h'; exact hne rfl

theorem At.ne_type {w : World} {b c : Nat} {cs ds : Array Value} {t u : TypeId} (h : At w b cs t) (h' : At w c ds u) (hne : t ≠ u) : b ≠ c :=
  ne_of_heap h h' (by intro e; cases e; exact hne rfl)

theorem At.ne_map {w : World} {b c : Nat} {cs : Array Value} {t : TypeId} {es : Array MapEntry} {k : Nat} (h : At w b cs t) (h' : w.heap[c]? = some (.map es k)) : b ≠ c :=
  ne_of_heap h h' (by intro e; cases e)

/-! ### the words met -/

theorem al_step {cs : Array Value} {t : TypeId} {w : World} {F : Nat → World → Prop} (h : ∀ b w', At w' b cs t → Ext w w' → w.heap.size ≤ b → F b w') : al cs t w F := by
  refine h _ _ ?_ ⟨by simp, fun b o hb _ => ?_, rfl, rfl, rfl⟩ (Nat.le_refl _)
  · exact heap_alloc_new w _
  · rw [heap_alloc_old w _ (lt_of_heap hb)]; exact hb

theorem nwo_step {o : Obj} {w : World} {F : Nat → World → Prop} (h : ∀ b w', w'.heap[b]? = some o → Ext w w' → w.heap.size ≤ b → F b w') : nwo o w F := by
  refine h _ _ ?_ ⟨by simp, fun b o hb _ => ?_, rfl, rfl, rfl⟩ (Nat.le_refl _)
  · exact heap_alloc_new w _
  · rw [heap_alloc_old w _ (lt_of_heap hb)]; exact hb

theorem dr_step {w : World} {F : World → Prop} (h : ∀ w', w'.heap = w.heap → Ext w w' → F w') : dr w F :=
  h _ rfl ⟨Nat.le_refl _, fun _ _ hb _ => hb, rfl, rfl, rfl⟩

theorem setCell_at {w : World} {b : Nat} {cs : Array Value} {t : TypeId} (h : At w b cs t) (i : Nat) (v : Value) : At (w.setCell ⟨b, i, none⟩ v) b (cs.setIfInBounds i v) t :=
  heap_setCell_same w b i cs t v h

theorem setCell_chg (w : World) (a : Addr) (v : Value) : Chg (fun x => x = a.block) w (w.setCell a v) :=
  ⟨by simp, fun b o hb hs => by rw [heap_setCell_other w a b v hs]; exact hb, rfl, rfl, rfl⟩

theorem st1_step {b i : Nat} {v : Value} {w : World} {F : World → Prop} {cs : Array Value} {t : TypeId} (hat : At w b cs t) (hi : i < cs.size) (h1 : v.oneCell' = true)
    (h : ∀ w', At w' b (cs.setIfInBounds i v) t → Chg (fun x => x = b) w w' → F w') : st1 ⟨b, i, none⟩ v w F :=
  ⟨⟨cs[i], by rw [hat.cell]; exact Array.getElem?_eq_getElem hi⟩, hat.frozen i, h1, h _ (setCell_at hat i v) (setCell_chg w ⟨b, i, none⟩ v)⟩

/-- Cells laid over others. -/
def over (cs : Array Value) (off : Nat) (vs : List Value) : Array Value := (layAt cs.toList off vs).toArray

theorem over_size {cs : Array Value} {off : Nat} {vs : List Value} (h : off + vs.length ≤ cs.size) : (over cs off vs).size = cs.size := by
  simp only [over, List.size_toArray]
  rw [layAt_length (by simpa using h)]; simp

theorem over_get {cs : Array Value} {off : Nat} {vs : List Value} (h : off + vs.length ≤ cs.size) (i : Nat) : (over cs off vs)[i]? = if i < off then cs[i]? else if i < off + vs.length then vs[i - off]? else cs[i]? := by
  simp only [over, List.getElem?_toArray, layAt]
  by_cases h1 : i < off
  · rw [if_pos h1, List.getElem?_append_left (by simp; omega), List.getElem?_append_left (by simp; omega), List.getElem?_take, if_pos h1]; simp
  · rw [if_neg h1]
    by_cases h2 : i < off + vs.length
    · rw [if_pos h2, List.getElem?_append_left (by simp; omega), List.getElem?_append_right (by simp; omega)]
      simp only [List.length_take, Array.length_toList]
      congr 1; omega
    · rw [if_neg h2, List.getElem?_append_right (by simp; omega), List.getElem?_drop]
      simp only [List.length_append, List.length_take, Array.length_toList]
      rw [← Array.getElem?_toList]
      congr 1; omega

theorem stN'_step : ∀ (vs : List Value) {b off k : Nat} {w : World} {F : World → Prop} {cs : Array Value} {t : TypeId}, At w b cs t → off + k + vs.length ≤ cs.size → (∀ v ∈ vs, v.oneCell' = true) →
    (∀ w', At w' b (over cs (off + k) vs) t → Chg (fun x => x = b) w w' → F w') → stN' ⟨b, off, none⟩ vs k w F
  | [], b, off, k, w, F, cs, t, hat, hl, h1, h => by
    have : over cs (off + k) [] = cs := by simp [over, layAt]
    exact h w (by rw [this]; exact hat) (Chg.refl _ w)
  | v :: vs, b, off, k, w, F, cs, t, hat, hl, h1, h => by
    simp only [List.length_cons] at hl
    unfold stN'
    rw [add_mk]
    refine st1_step hat (by omega) (h1 v (List.mem_cons_self ..)) fun w1 hat1 hc1 => ?_
    refine stN'_step vs hat1 (by simp; omega) (fun u hu => h1 u (List.mem_cons_of_mem _ hu)) fun w2 hat2 hc2 => ?_
    refine h w2 ?_ (hc1.trans hc2)
    have : over (cs.setIfInBounds (off + k) v) (off + (k + 1)) vs = over cs (off + k) (v :: vs) := by
      apply Array.ext_getElem?
      intro i
      rw [over_get (by simp; omega), over_get (by simp; omega)]
      simp only [Array.getElem?_setIfInBounds, List.length_cons]
      split <;> split <;> (try split) <;> (try split) <;> (try split) <;> first | rfl | omega | skip
      all_goals (first | omega | skip)
      all_goals (try (rename_i h1 h2 h3; simp only [List.getElem?_cons]; split <;> first | omega | rfl | (congr 1; omega)))
      all_goals (first | omega | skip)
      all_goals (simp only [List.getElem?_cons]; split <;> first | omega | rfl | (congr 1; omega) | skip)
    rw [this] at hat2
    exact hat2

theorem stN_step {vs : List Value} {b off : Nat} {w : World} {F : World → Prop} {cs : Array Value} {t : TypeId} (hat : At w b cs t) (hl : off + vs.length ≤ cs.size) (h1 : ∀ v ∈ vs, v.oneCell' = true)
    (h : ∀ w', At w' b (over cs off vs) t → Chg (fun x => x = b) w w' → F w') : stN ⟨b, off, none⟩ vs w F :=
  stN'_step vs (k := 0) hat (by simpa using hl) h1 (by simpa using h)

theorem over_all {cs : Array Value} {vs : List Value} (h : vs.length = cs.size) : over cs 0 vs = vs.toArray := by
  simp [over, layAt, h]

/-- A local variable that lies in memory, laid and filled. -/
theorem box_step {z : Array Value} {vs : List Value} {t : TypeId} {w : World} {F : Nat → World → Prop} (hl : vs.length = z.size) (h1 : ∀ v ∈ vs, v.oneCell' = true)
    (h : ∀ b w', At w' b vs.toArray t → Ext w w' → w.heap.size ≤ b → F b w') : al z t w fun b w' => stN ⟨b, 0, none⟩ vs w' fun w' => F b w' :=
  al_step fun b w1 hat he hb => stN_step hat (by omega) h1 fun w2 hat2 hc => by
    rw [over_all hl] at hat2
    exact h b w2 hat2 (he.then hc fun x hx => by omega) hb

theorem br_iff {b : Bool} {x y : Prop} : br b x y ↔ (b = true → x) ∧ (b = false → y) := by cases b <;> simp [br]
theorem br_t {x y : Prop} (h : x) : br true x y := h
theorem br_f {x y : Prop} (h : y) : br false x y := h
theorem br_if {p : Prop} [Decidable p] {x y : Prop} (h1 : p → x) (h2 : ¬ p → y) : br (decide p) x y := br_iff.2 ⟨fun h => h1 (of_decide_eq_true h), fun h => h2 (of_decide_eq_false h)⟩

theorem ixa_step {p : Option Addr} {l sz : Nat} {i : Int} {F : Addr → Prop} {a : Addr} (hp : p = some a) (h0 : 0 ≤ i) (h1 : i < l) (h : F (a.add (i.toNat * sz))) : ixa p l i sz F := ⟨a, hp, h0, h1, h⟩

theorem lp_step {σ : Type} {body : Env → (σ → World → Prop) → σ → World → Prop} {s : σ} {w : World} (I : Nat → σ → World → Prop) (n : Nat) (h0 : I n s w)
    (h : ∀ n j s w, I n s w → ∀ K : σ → World → Prop, (∀ m s' w', m < n → I m s' w' → K s' w') → body j K s w) : lp body s w :=
  ⟨I, ⟨n, h0⟩, fun n j s w hI => h n j s w hI _ fun m _ _ hm hI' => ⟨m, hm, hI'⟩⟩

theorem jn_step {σ : Type} {K : Env → σ → World → Prop} {body : (σ → World → Prop) → Prop} (J : σ → World → Prop) (h1 : ∀ j s w, J s w → K j s w) (h2 : body J) : jn K body := ⟨J, h1, h2⟩

/-- Contracts. -/
theorem cl_step {P : Program} {f : FuncId} {args : Array Value} {w : World} {K : Value → World → Prop} {Kp : List PanicEntry → World → Prop} {R : Ending → World → Prop}
    (h : Cs P f args w R) (hr : ∀ e w', R e w' → match e with | .returned v => K v w' | .panicked ch => Kp ch w' | .outgrown => False) : cl P f args w K Kp := ⟨h.1, Calls.mono h.2 hr⟩

/-- What a call hands back, and the world behind it. -/
def Ret (R : Value → World → Prop) : Ending → World → Prop
  | .returned v, w => R v w
  | _, _ => False

theorem cl_ret {P : Program} {f : FuncId} {args : Array Value} {w : World} {K : Value → World → Prop} {Kp : List PanicEntry → World → Prop} {R : Value → World → Prop}
    (h : Cs P f args w (Ret R)) (hr : ∀ v w', R v w' → K v w') : cl P f args w K Kp :=
  cl_step h fun e w' he => by cases e with | returned v => exact hr v w' he | panicked => exact he.elim | outgrown => exact he.elim

theorem Cs.mono {P : Program} {f : FuncId} {args : Array Value} {w : World} {R R' : Ending → World → Prop} (h : Cs P f args w R) (hr : ∀ e w', R e w' → R' e w') : Cs P f args w R' := ⟨h.1, Calls.mono h.2 hr⟩

theorem Cs.ret {P : Program} {f : FuncId} {args : Array Value} {w : World} {R R' : Value → World → Prop} (h : Cs P f args w (Ret R)) (hr : ∀ v w', R v w' → R' v w') : Cs P f args w (Ret R') :=
  h.mono fun e w' he => by cases e <;> first | exact hr _ _ he | exact he

theorem hold_cons {f : Fact} {l : List Fact} {w : World} (h1 : f.holds w) (h2 : hold l w) : hold (f :: l) w := by
  intro p hp
  rcases List.mem_cons.1 hp with rfl | hp
  · exact h1
  · exact h2 p hp
end Go.SR
