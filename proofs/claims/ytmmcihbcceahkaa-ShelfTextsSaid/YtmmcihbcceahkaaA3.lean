/- The layer SR, third part: an operation, with memory; sound. -/
import Derived.Test.YtmmcihbcceahkaaA2
namespace Go.SR
open Go

/-- The result shapes of a function. -/
def ress (P : Program) (f : FuncId) : List Shp :=
  match P.funcs[f]? with
  | some fn => fn.resultTypes.toList.map (shp P)
  | none => []

/-- Parts laid into the cells of a struct or an array. -/
def buildL (P : Program) (t : TypeId) (s : St) : List (Nat × Operand) → List Value → (List Value → Prop) → Prop
  | [], cs, F => F cs
  | (i, x) :: ps, cs, F =>
    match P.underlying t with
    | some (.struct fs) => (match fs.toList[i]? with
      | some f => bif Nat.beq (s.ev x).cells.toList.length (szOf P f.type) && Nat.ble (f.offset + (s.ev x).cells.toList.length) cs.length then
          buildL P t s ps (layAt cs f.offset (s.ev x).cells.toList) F else False
      | none => False)
    | some (.array _ e) | some (.slice e) =>
      bif Nat.beq (s.ev x).cells.toList.length (szOf P e) && Nat.ble (i * szOf P e + (s.ev x).cells.toList.length) cs.length then
          buildL P t s ps (layAt cs (i * szOf P e) (s.ev x).cells.toList) F else False
    | _ => False

/-- A struct whose fields' types are known, or an array of such. -/
def fieldsOk (P : Program) (t : TypeId) : Bool :=
  match P.underlying t with
  | some (.struct fs) => fs.toList.all fun f => (P.info? f.type).isSome
  | some (.array _ e) => (P.info? e).isSome
  | _ => false

def repL (n : Nat) (zs : List Value) : List Value := (List.replicate n zs).flatten

/-- An operation that leaves the world alone; with what it read. -/
def opR (P : Program) (ty : List Nat) (o : Oper) (s : St) (w : World) (F : Value → List Fact → Prop) : Prop :=
  match o.op with
  | .load t x => (match s.ev x with
    | .pointer p => nc p fun a => ldT P t a w F
    | _ => False)
  | .lookup t x i ok => (match s.ev x with
    | .map r => mrd P (Instr.lookup t (s.ev x) (s.ev i) ok) r w fun v f => tyR (shps P o.type) v fun v => F v [f]
    | _ => False)
  | .build t parts => bif ((P.info? t).bind (·.zero)).isSome && fieldsOk P t then
      buildL P t s parts.toList (zc P t).toList fun cs => F (.agg cs.toArray) [] else False
  | .field t x i => pv P (Instr.field t (s.ev x) i) fun v => tyR (shps P o.type) v fun v => F v []
  | .index t x i => pv P (Instr.index t (s.ev x) (s.ev i)) fun v => tyR (shps P o.type) v fun v => F v []
  | .slice t x lo hi mx => pv P (Instr.sliceAt t (s.ev x) (lo.map s.ev) (hi.map s.ev) (mx.map s.ev)) fun v => tyR (shps P o.type) v fun v => F v []
  | .call { callee := .builtin .len, args, argTypes } => (match (argTypes[0]?).bind P.underlying with
    | some (.map _ _) => (match args.toList with
      | [x] => (match s.ev x with
        | .map r => mrd P (Builtin.len_ argTypes o.type (args.toList.map s.ev).toArray) r w fun v f => tyR [.cell (.int .i64)] v fun v => F v [f]
        | _ => False)
      | _ => False)
    | _ => pureT P ty o s fun v => F v [])
  | _ => pureT P ty o s fun v => F v []

def opT (P : Program) (ty : List Nat) (o : Oper) (s : St) (w : World) (K : Value → World → Prop) (Kp : List PanicEntry → World → Prop) : Prop :=
  match o.op with
  | .store t x y => (match s.ev x with
    | .pointer p => nc p fun a => stT P t a (s.ev y) w fun w => K undef w
    | _ => False)
  | .alloc t => bif ((P.info? t).bind (·.zero)).isSome then al (zc P t) t w fun b w => K (.pointer (some ⟨b, 0, none⟩)) w else False
  | .box t x => al (s.ev x).cells t w fun b w => K (.pointer (some ⟨b, 0, none⟩)) w
  | .buildSlice t len parts => (match P.underlying t with
    | some (.slice e) =>
      bif ((P.info? e).bind (·.zero)).isSome && Nat.beq (zc P e).toList.length (szOf P e) && Nat.ble (len * szOf P e) 16777216 then
        buildL P t s parts.toList (repL len (zc P e).toList) fun cs => al cs.toArray e w fun b w => K (.slice (some ⟨b, 0, none⟩) len len) w
      else False
    | _ => False)
  | .makeMap _ none => nwo (.map #[] 0) w fun b w => K (.map (some b)) w
  | .call { callee := .value f, args, .. } => (match f with
    | .func g => cl P g (args.toList.map s.ev).toArray w (fun v w => tyR (ress P g) v fun v => K v w) Kp
    | f => clv P (s.ev f) (args.toList.map s.ev) w (fun v w => tyR (shps P o.type) v fun v => K v w) Kp)
  | .call { callee := .builtin .append, args, argTypes } => rnV P (Builtin.append_ argTypes o.type (args.toList.map s.ev).toArray) w fun v w => tyR (shps P o.type) v fun v => K v w
  | .call { callee := .builtin .copy, args, argTypes } => rnV P (Builtin.copy_ argTypes o.type (args.toList.map s.ev).toArray) w fun v w => tyR [.cell (.int .i64)] v fun v => K v w
  | .call { callee := .builtin .delete, args, argTypes } => rnV P (Builtin.delete_ argTypes o.type (args.toList.map s.ev).toArray) w fun v w => tyR [] v fun v => K v w
  | .makeSlice t l c => rnV P (Instr.makeSlice t (s.ev l) (s.ev c)) w fun v w => tyR [.cell .slice] v fun v => K v w
  | .mapUpdate t m k x => rnU P (Instr.mapUpdate t (s.ev m) (s.ev k) (s.ev x)) w fun w => K undef w
  | .insert t m k x => rnU P (Instr.mapUpdate t (s.ev m) (s.ev k) (s.ev x)) w fun w => K undef w
  | .mapEntry t m k => rnV P (Instr.mapEntry t (s.ev m) (s.ev k)) w fun v w => tyR (shps P o.type) v fun v => K v w
  | .entryStore t m st x => rnU P (Instr.entryStore t (s.ev m) (s.ev st) (s.ev x)) w fun w => K undef w
  | .range t x => rnV P (Instr.range t (s.ev x)) w fun v w => tyR [.cell .ptr] v fun v => K v w
  | .next it isString => nxt P (Instr.next (s.ev it) isString o.type) w (fun w => K (.tuple #[.bool false]) w) (fun k x w => K (.tuple #[.bool true, k, x]) w)
  | .entry it => ent P (Instr.entry (s.ev it)) w fun k x w => K (.tuple #[k, x]) w
  | .typeAssert x t u ok => rnV P (Instr.typeAssert (s.ev x) t u ok) w fun v w => tyR (shps P o.type) v fun v => K v w
  | .panic x => (match s.ev x with
    | .iface t v => Kp [{ v := .iface t v, recovered := false }] w
    | _ => False)
  | .convert src dst x => (match P.underlying dst with
    | some (.int _) => pureT P ty o s fun v => K v w
    | _ => rnV P (convert src dst (s.ev x)) w fun v w => tyR (shps P o.type) v fun v => K v w)
  | _ => opR P ty o s w fun v _ => K v w

/-- What an operation's run comes to. -/
def Res (P : Program) (K : Value → World → Prop) (Kp : List PanicEntry → World → Prop) : Result Next → Prop
  | .ok (.value v) w => K v w
  | .ok .skip w => K undef w
  | .ok (.enter f args) w => cl P f args w K Kp
  | .halt (.panic v) w => Kp [{ v, recovered := false }] w
  | _ => False

theorem Res.mono {P : Program} {K K' : Value → World → Prop} {Kp Kp' : List PanicEntry → World → Prop} (h1 : ∀ v w, K v w → K' v w) (h2 : ∀ c w, Kp c w → Kp' c w)
    {r : Result Next} (h : Res P K Kp r) : Res P K' Kp' r := by
  unfold Res at *
  split at h
  · exact h1 _ _ h
  · exact h1 _ _ h
  · exact ⟨h.1, Calls.mono h.2 fun e w he => by cases e <;> first | exact h1 _ _ he | exact h2 _ _ he | exact he⟩
  · exact h2 _ _ h
  · exact h.elim

theorem Res.upon {P : Program} {o : Oper} {a : Act} {next : Act → World → Prop} {Q : Exit → Act → World → Prop} {K : Value → World → Prop} {Kp : List PanicEntry → World → Prop}
    (h1 : ∀ v w, K v w → next (a.put o.dst v) w) (h2 : ∀ c w, Kp c w → Q (.panic c) a w) {r : Result Next} (h : Res P K Kp r) : o.upon P a next Q r := by
  unfold Res at h
  split at h
  · exact h1 _ _ h
  · exact h1 _ _ h
  · refine Calls.mono h.2 fun e w he => ?_
    cases e with
    | returned v => exact h1 _ _ he
    | panicked c => exact h2 _ _ he
    | outgrown => exact he.elim
  · exact h2 _ _ h
  · exact h.elim

theorem ldT_sound {P : Program} {t : TypeId} {a : Addr} {w : World} {F : Value → List Fact → Prop} (h : ldT P t a w F) :
    ∃ v fs, F v fs ∧ hold fs w ∧ ∀ w', hold fs w' → (loadVar t a).run P w' = .ok v w' := by
  have key : ∀ {d : TypeDesc}, P.underlying t = some d → isAggT P t = true → (∃ vs : List Value, vs.length = szOf P t ∧ cellsAt w a vs ∧ F (.agg vs.toArray) [.cells a vs]) →
      ∃ v fs, F v fs ∧ hold fs w ∧ ∀ w', hold fs w' → (loadVar t a).run P w' = .ok v w' := by
    rintro d hu hagg ⟨vs, hl, hc, hF⟩
    obtain ⟨i, hi⟩ := info_of_und hu
    have hsz : i.size = vs.length := by rw [hl]; simp [szOf, hi]
    refine ⟨_, _, hF, by simpa [hold, Fact.holds] using hc, fun w' hw' => ?_⟩
    have hc' : cellsAt w' a vs := by simpa [hold, Fact.holds] using hw'
    have hA : (isAgg t).run P w' = .ok true w' := by
      unfold isAggT at hagg
      simp only [hu] at hagg
      split at hagg
      · rename_i fs he; cases he; simp [isAgg, run_und hu]
      · rename_i n e he; cases he; simp [isAgg, run_und hu]
      · cases hagg
    have hL := run_loadCells_list (P := P) w' a vs (fun j v hv => by
      obtain ⟨hj, rfl⟩ := List.getElem?_eq_some_iff.1 hv
      exact hc' j hj)
    simp [loadVar, hA, sizeOf, run_info hi, hsz, hL]
  unfold ldT at h
  split at h
  · rename_i fs hu
    cases hb : Nat.beq (szOf P t) (flat P 6 t).length with
    | false => rw [hb] at h; exact h.elim
    | true =>
      simp only [hb, cond_true] at h
      obtain ⟨vs, hl, hc, hF⟩ := exK_elim _ h
      exact key hu (by simp [isAggT, hu]) ⟨vs, by rw [hl]; exact (Nat.eq_of_beq_eq_true hb).symm, hc, hF⟩
  · rename_i n e hu
    cases hb : Nat.beq (szOf P t) (flat P 6 t).length with
    | false => rw [hb] at h; exact h.elim
    | true =>
      simp only [hb, cond_true] at h
      obtain ⟨vs, hl, hc, hF⟩ := exK_elim _ h
      exact key hu (by simp [isAggT, hu]) ⟨vs, by rw [hl]; exact (Nat.eq_of_beq_eq_true hb).symm, hc, hF⟩
  · rename_i d h1 h2 hu
    obtain ⟨v, hv, hF⟩ := exOne_elim h
    refine ⟨v, _, hF, by simpa [hold, Fact.holds] using hv, fun w' hw' => ?_⟩
    have hv' : w'.cell? a = some v := by simpa [hold, Fact.holds] using hw'
    have hA : (isAgg t).run P w' = .ok false w' := by
      simp only [isAgg, Sem.run_bind, run_und hu, Result.andThen_ok]
      rfl
    simp [loadVar, hA, hv']
  · exact h.elim

theorem st1_sound {P : Program} {a : Addr} {v : Value} {w : World} {F : World → Prop} (h : st1 a v w F) : F (w.setCell a v) ∧ (store a v).run P w = .ok () (w.setCell a v) := by
  obtain ⟨⟨u, hu⟩, hf, hv, h⟩ := h
  exact ⟨h, by rw [run_store _ _ _ _ _ hv]; simp [hu, hf]⟩

theorem stN_sound {P : Program} {a : Addr} : ∀ (vs : List Value) (i : Nat) (w : World) (F : World → Prop), stN' a vs i w F → ∃ w', F w' ∧ (storeCells a vs i).run P w = .ok () w'
  | [], _, w, _, h => ⟨w, h, rfl⟩
  | v :: vs, i, w, F, h => by
    obtain ⟨h1, h2⟩ := st1_sound (P := P) h
    obtain ⟨w', h3, h4⟩ := stN_sound (P := P) vs (i + 1) _ F h1
    exact ⟨w', h3, by simp [storeCells, h2, h4]⟩

theorem bif_elim {b : Bool} {x : Prop} (h : bif b then x else False) : b = true ∧ x := by
  cases b with
  | true => exact ⟨rfl, h⟩
  | false => exact h.elim

theorem stT_sound {P : Program} {t : TypeId} {a : Addr} {v : Value} {w : World} {F : World → Prop} (h : stT P t a v w F) :
    ∃ w', F w' ∧ (storeVar t a v).run P w = .ok () w' := by
  unfold stT at h
  split at h
  · rename_i cs
    obtain ⟨hb, h⟩ := bif_elim h
    obtain ⟨hi, hb⟩ := Bool.and_eq_true_iff.1 hb
    obtain ⟨inf, hinf⟩ := Option.isSome_iff_exists.1 hi
    obtain ⟨w', h1, h2⟩ := stN_sound (P := P) _ _ _ _ h
    have hs := Nat.eq_of_beq_eq_true hb
    have hs' : cs.size = inf.size := by simpa [szOf, hinf] using hs
    exact ⟨w', h1, by simp [storeVar, sizeOf, run_info hinf, Value.cells, hs', h2]⟩
  · rename_i hn
    obtain ⟨hb, h⟩ := bif_elim h
    have hs := Nat.eq_of_beq_eq_true hb
    obtain ⟨inf, hinf, hsz⟩ := info_of_szOf (P := P) (t := t) (by omega)
    obtain ⟨h1, h2⟩ := st1_sound (P := P) h
    refine ⟨_, h1, ?_⟩
    have hc : v.cells = #[v] := by cases v <;> first | rfl | exact (hn _ rfl).elim
    have h20 : (store (a.add 0) v).run P w = .ok () (w.setCell a v) := h2
    simp [storeVar, sizeOf, run_info hinf, hc, hsz, hs, storeCells, h20]

theorem foldset (off : Nat) : ∀ (vs : List Value) (k : Nat) (cs : Array Value), off + k + vs.length ≤ cs.size →
    ((vs.zipIdx k).foldl (fun (cs : Array Value) (p : Value × Nat) => cs.setIfInBounds (off + p.2) p.1) cs).toList = layAt cs.toList (off + k) vs
  | [], k, cs, h => by simp [layAt]
  | v :: vs, k, cs, h => by
    simp only [List.length_cons] at h
    rw [List.zipIdx_cons, List.foldl_cons, foldset off vs (k + 1) _ (by simp; omega)]
    unfold layAt
    have hlt : off + k < cs.toList.length := by simp; omega
    have e1 : (cs.setIfInBounds (off + k) v).toList.take (off + (k + 1)) = cs.toList.take (off + k) ++ [v] := by
      rw [Array.toList_setIfInBounds, ← Nat.add_assoc, List.take_add_one]
      rw [List.getElem?_set_self hlt, List.take_set_of_le (by omega)]
      rfl
    have e2 : (cs.setIfInBounds (off + k) v).toList.drop (off + (k + 1) + vs.length) = cs.toList.drop (off + k + (vs.length + 1)) := by
      rw [Array.toList_setIfInBounds, List.drop_set_of_lt (by omega)]
      congr 1; omega
    simp only [e1, e2, List.length_cons, List.append_assoc, List.cons_append, List.nil_append]

theorem foldlay (off : Nat) (vs cs : Array Value) (h : off + vs.size ≤ cs.size) :
    vs.zipIdx.foldl (fun (cs : Array Value) (p : Value × Nat) => cs.setIfInBounds (off + p.2) p.1) cs = (layAt cs.toList off vs.toList).toArray := by
  apply Array.toList_inj.1
  have := foldset off vs.toList 0 cs (by simpa using h)
  rw [← Array.foldl_toList]
  simpa using this

theorem layAt_length {cs vs : List Value} {off : Nat} (h : off + vs.length ≤ cs.length) : (layAt cs off vs).length = cs.length := by
  simp [layAt]; omega

/-- The places of a build. -/
def placeOf (P : Program) (t : TypeId) (i : Nat) : Option (Nat × Nat) :=
  match P.underlying t with
  | some (.struct fs) => (fs.toList[i]?).map fun f => (f.offset, szOf P f.type)
  | some (.array _ e) | some (.slice e) => some (i * szOf P e, szOf P e)
  | _ => none

theorem buildL_sound {P : Program} {t : TypeId} {s : St} : ∀ (ps : List (Nat × Operand)) (cs : List Value) (F : List Value → Prop), buildL P t s ps cs F →
    ∃ vs, F vs ∧ Instr.fill (placeOf P t) cs.toArray (ps.map fun (i, x) => (i, s.ev x)) = some vs.toArray
  | [], cs, F, h => ⟨cs, h, rfl⟩
  | (i, x) :: ps, cs, F, h => by
    unfold buildL at h
    have key : ∀ off size, (Nat.beq (s.ev x).cells.toList.length size && Nat.ble (off + (s.ev x).cells.toList.length) cs.length) = true → placeOf P t i = some (off, size) →
        buildL P t s ps (layAt cs off (s.ev x).cells.toList) F → ∃ vs, F vs ∧ Instr.fill (placeOf P t) cs.toArray (((i, x) :: ps).map fun (i, x) => (i, s.ev x)) = some vs.toArray := by
      intro off size hb hp h
      obtain ⟨h1, h2⟩ := Bool.and_eq_true_iff.1 hb
      have h1 := Nat.eq_of_beq_eq_true h1
      have h2 := Nat.le_of_ble_eq_true h2
      obtain ⟨vs, hF, hf⟩ := buildL_sound ps _ F h
      refine ⟨vs, hF, ?_⟩
      simp only [Array.length_toList] at h1 h2
      have hno : ¬ ((s.ev x).cells.size ≠ size ∨ off + (s.ev x).cells.size > cs.toArray.size) := by simp; omega
      simp only [List.map_cons, Instr.fill, hp]
      rw [if_neg (by simpa using hno)]
      have := foldlay off (s.ev x).cells cs.toArray (by simpa using h2)
      rw [this]
      exact hf
    split at h
    · rename_i fs hu
      split at h
      · rename_i f hf
        obtain ⟨hb, h⟩ := bif_elim h
        exact key _ _ hb (by simp [placeOf, hu, hf]) h
      · exact h.elim
    · rename_i n e hu
      obtain ⟨hb, h⟩ := bif_elim h
      exact key _ _ hb (by simp [placeOf, hu]) h
    · rename_i e hu
      obtain ⟨hb, h⟩ := bif_elim h
      exact key _ _ hb (by simp [placeOf, hu]) h
    · exact h.elim

theorem run_zero {P : Program} {t : TypeId} (h : ((P.info? t).bind (·.zero)).isSome = true) : ∃ v, v.cells = zc P t ∧ ∀ w, (zeroValue t).run P w = .ok v w := by
  obtain ⟨v, hv⟩ := Option.isSome_iff_exists.1 h
  refine ⟨v, by simp [zc, hv], fun w => ?_⟩
  obtain ⟨i, hi, hz⟩ := Option.bind_eq_some_iff.1 hv
  simp [zeroValue, run_info hi, hz]

theorem mapM_sizes {P : Program} (w : World) : ∀ (fs : List Field), (fs.all fun f => (P.info? f.type).isSome) = true →
    (fs.mapM fun (f : Field) => do pure (f.offset, ← sizeOf f.type) : Sem (List (Nat × Nat))).run P w = .ok (fs.map fun f => (f.offset, szOf P f.type)) w
  | [], _ => by simp
  | f :: fs, h => by
    simp only [List.all_cons, Bool.and_eq_true] at h
    obtain ⟨i, hi⟩ := Option.isSome_iff_exists.1 h.1
    have ih := mapM_sizes w fs h.2
    simp only [List.mapM_cons, Sem.run_bind, List.map_cons]
    simp [sizeOf, run_info hi, szOf, hi] at ih ⊢
    simp [ih]

theorem build_sound {P : Program} {t : TypeId} {s : St} {ps : Array (Nat × Operand)} {F : List Value → Prop}
    (hz : (((P.info? t).bind (·.zero)).isSome && fieldsOk P t) = true) (h : buildL P t s ps.toList (zc P t).toList F) :
    ∃ vs, F vs ∧ ∀ w, (Instr.build t (ps.map fun (i, x) => (i, s.ev x))).run P w = .ok (.agg vs.toArray) w := by
  obtain ⟨hz, hf⟩ := Bool.and_eq_true_iff.1 hz
  obtain ⟨v, hv, hr⟩ := run_zero hz
  obtain ⟨vs, hF, hfill⟩ := buildL_sound _ _ _ h
  refine ⟨vs, hF, fun w => ?_⟩
  unfold fieldsOk at hf
  split at hf
  · rename_i fs hu
    have hp : placeOf P t = fun i => ((fs.toList.map fun f => (f.offset, szOf P f.type)).toArray[i]?) := by
      funext i; simp [placeOf, hu]
    have hm := mapM_sizes (P := P) w fs.toList hf
    have hm' : (fs.mapM fun (f : Field) => do pure (f.offset, ← sizeOf f.type) : Sem (Array (Nat × Nat))).run P w = .ok (fs.toList.map fun f => (f.offset, szOf P f.type)).toArray w := by
      rw [← Array.toArray_toList (xs := fs)]
      simp only [List.mapM_toArray, Sem.run_map]
      rw [hm]
      simp
    rw [hp] at hfill
    simp only [Array.toArray_toList] at hfill
    simp only [Instr.build, Sem.run_bind, hr, Result.andThen_ok, run_und hu, hm', hv]
    simp only [Array.toList_map, hfill]
    rfl
  · rename_i n e hu
    obtain ⟨i, hi⟩ := Option.isSome_iff_exists.1 hf
    have hp : placeOf P t = fun i => some (i * szOf P e, szOf P e) := by
      funext i; simp [placeOf, hu]
    rw [hp] at hfill
    simp only [Array.toArray_toList] at hfill
    have hs : (sizeOf e).run P w = .ok (szOf P e) w := by simp [sizeOf, run_info hi, szOf, hi]
    simp only [Instr.build, Sem.run_bind, hr, Result.andThen_ok, run_und hu, hs, hv]
    simp only [Array.toList_map, hfill]
    rfl
  · cases hf

theorem toMap (xs : Array Operand) (f : Operand → Value) : (xs.toList.map f).toArray = xs.map f := by apply Array.toList_inj.1; simp

theorem repL_eq (n m : Nat) (zs : Array Value) (h : zs.toList.length = m) : ((Array.range (n * m)).map fun x => zs[x % zs.size]!) = (repL n zs.toList).toArray := by
  apply Array.toList_inj.1
  subst h
  simp only [Array.toList_map, Array.toList_range, Array.length_toList]
  induction n with
  | zero => simp [repL]
  | succ n ih =>
    rw [Nat.succ_mul, List.range_add, List.map_append, ih]
    unfold repL
    rw [List.replicate_succ', List.flatten_append]
    congr 1
    simp only [List.flatten_cons, List.flatten_nil, List.append_nil, List.map_map]
    apply List.ext_getElem
    · simp
    · intro i h1 h2
      have hi : i < zs.size := by simpa using h2
      have : (n * zs.size + i) % zs.size = i := by rw [Nat.mul_add_mod_self_right, Nat.mod_eq_of_lt hi]
      simp [this, hi]

theorem run_callFunc {P : Program} {f : FuncId} (h : callable P f = true) (args : Array Value) (w : World) : (callFunc f args).run P w = .ok (.enter f args) w := by
  unfold callable at h
  split at h
  · rename_i fn hf
    simp only [Bool.and_eq_true, Bool.not_eq_true'] at h
    have hb : fn.body.isNone = false := by cases hh : fn.body <;> simp_all
    simp only [callFunc, Sem.run_bind, run_program, Result.andThen_ok, hf, h.2, hb, Bool.false_eq_true, if_false]
    rfl
  · cases h

theorem rnV_sound {P : Program} {s : Sem Value} {ss : List Shp} {w : World} {F : Value → World → Prop} (h : rnV P s w fun v w => tyR ss v fun v => F v w) : ∃ v w', F v w' ∧ s.run P w = .ok v w' := by
  obtain ⟨v, w', hr, h⟩ := h
  exact ⟨v, w', tyR_elim h, hr⟩

theorem hold_nil (w : World) : hold [] w := by simp [hold]

theorem mrd_sound {P : Program} {x : Sem Value} {r : Option Nat} {ss : List Shp} {w : World} {F : Value → List Fact → Prop} (h : mrd P x r w fun v f => tyR ss v fun v => F v [f]) :
    ∃ v fs, F v fs ∧ hold fs w ∧ ∀ w', hold fs w' → x.run P w' = .ok v w' := by
  obtain ⟨es, c, v, h1, h2, h3⟩ := h
  exact ⟨v, _, tyR_elim h3, by simpa [hold] using h1, fun w' hw' => h2 w' (by simpa [hold] using hw')⟩

set_option maxHeartbeats 1000000 in
theorem opR_sound {P : Program} {ty : List Nat} {o : Oper} {s : St} {w : World} {F : Value → List Fact → Prop} (h : opR P ty o s w F) :
    ∃ v fs, F v fs ∧ hold fs w ∧ ∀ w', hold fs w' → (execOp s.ev o).run P w' = .ok (.value v) w' := by
  have pure : pureT P ty o s (fun v => F v []) → ∃ v fs, F v fs ∧ hold fs w ∧ ∀ w', hold fs w' → (execOp s.ev o).run P w' = .ok (.value v) w' := fun h => by
    obtain ⟨v, hF, hr⟩ := pureT_sound h
    exact ⟨v, [], hF, hold_nil w, fun w' _ => hr w'⟩
  have viaP : ∀ {x : Sem Value} {ss : List Shp}, pv P x (fun v => tyR ss v fun v => F v []) → (∀ w', (execOp s.ev o).run P w' = (x.run P w').andThen (fun v w' => .ok (.value v) w')) →
      ∃ v fs, F v fs ∧ hold fs w ∧ ∀ w', hold fs w' → (execOp s.ev o).run P w' = .ok (.value v) w' := by
    intro x ss h he
    obtain ⟨v, hr, h⟩ := h
    exact ⟨v, [], tyR_elim h, hold_nil w, fun w' _ => by rw [he, hr]; rfl⟩
  have viaM : ∀ {x : Sem Value} {r : Option Nat} {ss : List Shp}, mrd P x r w (fun v f => tyR ss v fun v => F v [f]) → (∀ w', (execOp s.ev o).run P w' = (x.run P w').andThen (fun v w' => .ok (.value v) w')) →
      ∃ v fs, F v fs ∧ hold fs w ∧ ∀ w', hold fs w' → (execOp s.ev o).run P w' = .ok (.value v) w' := by
    intro x r ss h he
    obtain ⟨v, fs, hF, h1, h2⟩ := mrd_sound h
    exact ⟨v, fs, hF, h1, fun w' hw' => by rw [he, h2 w' hw']; rfl⟩
  unfold opR at h
  split at h
  · rename_i t x ho
    split at h
    · rename_i p hx
      obtain ⟨a, rfl, h'⟩ := nc_elim h
      obtain ⟨v, fs, hF, h1, h2⟩ := ldT_sound h'
      exact ⟨v, fs, hF, h1, fun w' hw' => by simp [execOp, ho, hx, Instr.loadAt, Instr.sureAddr, h2 w' hw']⟩
    · exact h.elim
  · rename_i ho
    split at h
    · exact viaM h (fun w' => by simp [execOp, ho])
    · exact h.elim
  · rename_i t ps ho
    obtain ⟨hz, h⟩ := bif_elim h
    obtain ⟨vs, hF, hr⟩ := build_sound hz h
    exact ⟨_, [], hF, hold_nil w, fun w' _ => by simp only [execOp, ho, Sem.run_bind, hr, Result.andThen_ok]; rfl⟩
  · rename_i ho; exact viaP h (fun w' => by simp [execOp, ho])
  · rename_i ho; exact viaP h (fun w' => by simp [execOp, ho])
  · rename_i ho; exact viaP h (fun w' => by simp [execOp, ho])
  · rename_i ho
    split at h
    · split at h
      · split at h
        · exact viaM h (fun w' => by simp [execOp, ho, resolve, invoke, builtin, toMap])
        · exact h.elim
      · exact h.elim
    · exact pure h
  · exact pure h

set_option maxHeartbeats 1000000 in
theorem opT_sound {P : Program} {ty : List Nat} {o : Oper} {s : St} {w : World} {K : Value → World → Prop} {Kp : List PanicEntry → World → Prop} (h : opT P ty o s w K Kp) :
    Res P K Kp ((execOp s.ev o).run P w) := by
  have read : opR P ty o s w (fun v _ => K v w) → Res P K Kp ((execOp s.ev o).run P w) := fun h => by
    obtain ⟨v, fs, hF, h1, h2⟩ := opR_sound h
    rw [h2 w h1]; exact hF
  have pure : pureT P ty o s (fun v => K v w) → Res P K Kp ((execOp s.ev o).run P w) := fun h => by
    obtain ⟨v, hF, hr⟩ := pureT_sound h
    rw [hr w]; exact hF
  have viaV : ∀ {x : Sem Value} {ss : List Shp}, rnV P x w (fun v w => tyR ss v fun v => K v w) → (execOp s.ev o).run P w = (x.run P w).andThen (fun v w' => .ok (.value v) w') → Res P K Kp ((execOp s.ev o).run P w) := by
    intro x ss h he
    obtain ⟨v, w', hF, hr⟩ := rnV_sound h
    rw [he, hr]; exact hF
  have viaU : ∀ {x : Sem Unit}, rnU P x w (fun w => K undef w) → (execOp s.ev o).run P w = (x.run P w).andThen (fun _ w' => .ok .skip w') → Res P K Kp ((execOp s.ev o).run P w) := by
    intro x h he
    obtain ⟨w', hr, hF⟩ := h
    rw [he, hr]; exact hF
  unfold opT at h
  split at h
  · rename_i t x y ho
    split at h
    · rename_i p hx
      obtain ⟨a, rfl, h'⟩ := nc_elim h
      obtain ⟨w', hF, hr⟩ := stT_sound (P := P) h'
      simpa [execOp, ho, hx, Instr.storeAt, Instr.sureAddr, hr, Res] using hF
    · exact h.elim
  · rename_i t ho
    obtain ⟨hz, h⟩ := bif_elim h
    obtain ⟨v, hv, hr⟩ := run_zero hz
    rw [← hv] at h
    simpa [execOp, ho, Instr.alloc, hr, newVar, newRow, Res, al] using h
  · rename_i t x ho
    simpa [execOp, ho, Instr.box, newVar, newRow, Res, al] using h
  · rename_i t len ps ho
    split at h
    · rename_i e hu
      obtain ⟨hz, h⟩ := bif_elim h
      simp only [Bool.and_eq_true] at hz
      obtain ⟨⟨hz, hl⟩, hle⟩ := hz
      obtain ⟨v, hv, hr⟩ := run_zero hz
      obtain ⟨vs, hF, hfill⟩ := buildL_sound _ _ _ h
      have hsz : (sizeOf e).run P w = .ok (szOf P e) w := by
        cases hi : P.info? e with
        | none => simp [hi] at hz
        | some i => simp [sizeOf, run_info hi, szOf, hi]
      have hp : placeOf P t = fun i => some (i * szOf P e, szOf P e) := by
        funext i; simp [placeOf, hu]
      rw [hp] at hfill
      have hle := Nat.le_of_ble_eq_true hle
      have hl := Nat.eq_of_beq_eq_true hl
      have hno : ¬ len * szOf P e > 2 ^ 24 := by simp only [Nat.not_lt]; exact hle
      have hcells : ∀ z : Array Value, z = zc P e → ((Array.range (len * szOf P e)).map fun x => z[x % z.size]!) = (repL len (zc P e).toList).toArray := by
        intro z hz
        subst hz
        exact repL_eq len _ _ hl
      simp only [execOp, ho, Instr.buildSlice, Sem.run_bind, run_und hu, Result.andThen_ok, hsz, if_neg hno]
      by_cases h0 : len * szOf P e = 0
      · have hc0 : ∀ f : Nat → Value, (Array.range (len * szOf P e)).map f = (repL len (zc P e).toList).toArray := by
          intro f
          have : (repL len (zc P e).toList) = [] := by
            apply List.eq_nil_of_length_eq_zero
            simp only [repL, List.length_flatten, List.map_replicate, List.sum_replicate_nat, hl]; exact h0
          rw [this, h0]; simp
        rw [if_pos h0]
        simp only [Sem.run_pure, Sem.run_bind, Result.andThen_ok, hc0]
        have : (ps.map fun (x : Nat × Operand) => (x.1, s.ev x.2)).toList = ps.toList.map fun (i, x) => (i, s.ev x) := by simp
        simp only [this, hfill, newRow]
        simpa [Res, al] using hF
      · rw [if_neg h0]
        simp only [Sem.run_bind, hr, Result.andThen_ok, Sem.run_pure, hcells _ hv]
        have : (ps.map fun (x : Nat × Operand) => (x.1, s.ev x.2)).toList = ps.toList.map fun (i, x) => (i, s.ev x) := by simp
        simp only [this, hfill, newRow]
        simpa [Res, al] using hF
    · exact h.elim
  · rename_i t ho
    simpa [execOp, ho, Instr.makeMap, Res, nwo] using h
  · rename_i f args at' ho
    split at h
    · rename_i g
      have ha : (args.toList.map s.ev).toArray = #[] ++ args.map s.ev ++ #[] := by apply Array.toList_inj.1; simp
      rw [ha] at h
      have hf : s.ev (.func g) = .func (.func g) #[] #[] := rfl
      simp only [execOp, ho, resolve, Deferred.ofValue, hf, Sem.run_bind, invoke, Sem.run_pure, Result.andThen_ok, run_callFunc h.1]
      exact ⟨h.1, Calls.mono h.2 fun e w' he => by cases e <;> first | exact tyR_elim he | exact he⟩
    · obtain ⟨g, first, cap, hf, h⟩ := h
      simp only [execOp, ho, resolve, Deferred.ofValue, hf, Sem.run_bind, invoke, Sem.run_pure, Result.andThen_ok, run_callFunc h.1]
      have ha : (first.toList ++ args.toList.map s.ev ++ cap.toList).toArray = first ++ args.map s.ev ++ cap := by apply Array.toList_inj.1; simp
      rw [ha] at h
      exact ⟨h.1, Calls.mono h.2 fun e w' he => by cases e <;> first | exact tyR_elim he | exact he⟩
  · rename_i ho; exact viaV h (by simp [execOp, ho, resolve, invoke, builtin, toMap])
  · rename_i ho; exact viaV h (by simp [execOp, ho, resolve, invoke, builtin, toMap])
  · rename_i ho; exact viaV h (by simp [execOp, ho, resolve, invoke, builtin, toMap])
  · rename_i ho; exact viaV h (by simp [execOp, ho])
  · rename_i ho; exact viaU h (by simp [execOp, ho])
  · rename_i ho; exact viaU h (by simp [execOp, ho])
  · rename_i ho; exact viaV h (by simp [execOp, ho])
  · rename_i ho; exact viaU h (by simp [execOp, ho])
  · rename_i ho; exact viaV h (by simp [execOp, ho])
  · rename_i ho
    obtain ⟨v, w', hr, h⟩ := h
    rcases h with ⟨rfl, h⟩ | ⟨k, x, rfl, h⟩ <;> simpa [execOp, ho, hr, Res] using h
  · rename_i ho
    obtain ⟨k, x, w', hr, h⟩ := h
    simpa [execOp, ho, hr, Res] using h
  · rename_i ho; exact viaV h (by simp [execOp, ho])
  · rename_i x ho
    split at h
    · rename_i t v hx
      simpa [execOp, ho, hx, Instr.panic, Res] using h
    · exact h.elim
  · rename_i ho
    split at h
    · exact pure h
    · exact viaV h (by simp [execOp, ho])
  · exact read h
end Go.SR
