/- The layer SR, second part: what 'pureT' says of an operation is what the model's run comes to. -/
import Derived.Test.YtmmcihbcceahkaaA1
namespace Go.SR
open Go

theorem run_und {P : Program} {t : TypeId} {d : TypeDesc} (h : P.underlying t = some d) (w : World) : (underlying t).run P w = .ok d w := by
  simp [underlying, h]

theorem intT_sound {op : BinOp} {k k' : IntKind} {a b : Int} {F : Value → Prop} (h : intT op k a k' b F) (P : Program) (t : TypeId) :
    ∃ v, F v ∧ ∀ w, (binOp op t (.int k a) (.int k' b)).run P w = .ok v w := by
  unfold intT at h
  split at h
  · refine ⟨_, h.2, fun w => ?_⟩
    have : ¬ b < 0 := by omega
    simp [binOp, Op.shift, this]
  · refine ⟨_, h.2, fun w => ?_⟩
    have : ¬ b < 0 := by omega
    simp [binOp, Op.shift, this]
  · rename_i h1 h2
    split at h
    · rename_i hk
      subst hk
      cases op <;> simp only at h
      case quo => exact ⟨_, h.2, fun w => by simp [binOp, Op.intDiv, h.1]⟩
      case rem => exact ⟨_, h.2, fun w => by simp [binOp, Op.intDiv, h.1]⟩
      all_goals exact ⟨_, h, fun w => by simp [binOp, Op.intArith, Op.intBits, Op.intCmp]⟩
    · exact h.elim

theorem equal_at (P : Program) (t : TypeId) (x y : Value) (w : World) (b : Bool) (h : ∀ d, (Op.equalIn (d + 1) t x y).run P w = .ok b w) : (Op.equal t x y).run P w = .ok b w := h 9999

theorem eqT_sound {P : Program} {t : TypeId} {x y : Value} {F : Bool → Prop} (h : eqT P t x y F) :
    ∃ b, F b ∧ ∀ w, (Op.equal t x y).run P w = .ok b w := by
  unfold eqT at h
  split at h
  · rename_i hu
    split at h
    · exact ⟨_, h, fun w => equal_at P t _ _ w _ fun d => by simp [Op.equalIn, run_und hu]⟩
    · exact h.elim
  · rename_i e hu
    split at h
    · rename_i p
      refine ⟨_, h, fun w => ?_⟩
      exact equal_at P t _ _ w _ fun d => by cases p <;> simp [Op.equalIn, run_und hu]
    · rename_i q _
      exact ⟨_, h, fun w => equal_at P t _ _ w _ fun d => by simp [Op.equalIn, run_und hu]⟩
    · exact h.elim
  · rename_i e hu
    split at h
    · split at h
      · rename_i p _ _
        refine ⟨_, h, fun w => ?_⟩
        exact equal_at P t _ _ w _ fun d => by cases p <;> simp [Op.equalIn, run_und hu]
      · exact h.elim
    · exact h.elim
  · rename_i k e hu
    split at h
    · split at h
      · rename_i p
        refine ⟨_, h, fun w => ?_⟩
        exact equal_at P t _ _ w _ fun d => by cases p <;> simp [Op.equalIn, run_und hu]
      · exact h.elim
    · exact h.elim
  · exact h.elim

theorem run_part {P : Program} {t : TypeId} {cs : Array Value} {o : Nat} {v : Value} (hu : (∃ k, P.underlying t = some (.int k)) ∨ P.underlying t = some .bool) (hv : cs.toList[o]? = some v) (w : World) : (part t cs o).run P w = .ok v w := by
  have hv' : cs[o]? = some v := by simpa using hv
  have ha : (isAgg t).run P w = .ok false w := by
    rcases hu with ⟨k, hu⟩ | hu <;> simp [isAgg, run_und hu]
  simp [part, ha, hv']

theorem eqL_sound {P : Program} (xs ys : Array Value) (d : Nat) : ∀ (fs : List Field) (i : Nat) (us vs : List Value) {F : Bool → Prop}, xs.toList.drop i = us → ys.toList.drop i = vs → eqL P fs i us vs F →
    ∃ b, F b ∧ ∀ w, (Op.eqFields (d + 1) xs ys fs).run P w = .ok b w
  | [], i, us, vs, F, hu, hv, h => by
    unfold eqL at h
    split at h
    · exact ⟨true, h, fun w => by simp [Op.eqFields]⟩
    · rename_i e; cases e
    · exact h.elim
  | f :: fs, i, us, vs, F, hu, hv, h => by
    have get : ∀ (zs : Array Value) (z : Value) (zl : List Value), zs.toList.drop i = z :: zl → zs.toList[i]? = some z ∧ zs.toList.drop (i + 1) = zl := by
      intro zs z zl e
      constructor
      · have := congrArg (fun l => l[0]?) e
        simpa using this
      · have := congrArg List.tail e
        simpa using this
    cases us with
    | nil => simp [eqL] at h
    | cons x us =>
      cases vs with
      | nil => simp [eqL] at h
      | cons y vs =>
        obtain ⟨gx, dx⟩ := get xs x us hu
        obtain ⟨gy, dy⟩ := get ys y vs hv
        unfold eqL at h
        cases hok : okF f i with
        | false => rw [hok] at h; exact h.elim
        | true =>
          rw [hok] at h
          simp only [cond_true] at h
          simp only [okF, Bool.and_eq_true, Bool.not_eq_true', beq_eq_false_iff_ne, ne_eq] at hok
          have ho : f.offset = i := Nat.eq_of_beq_eq_true hok.2
          split at h
          · rename_i k hk
            split at h
            · split at h
              · split at h
                · rename_i k1 a _ k2 b hkk
                  subst hkk
                  obtain ⟨r, hF, hr⟩ := eqL_sound xs ys d fs (i + 1) us vs dx dy h
                  refine ⟨_, hF, fun w => ?_⟩
                  have h1 := run_part (.inl ⟨k, hk⟩) (ho ▸ gx) w
                  have h2 := run_part (.inl ⟨k, hk⟩) (ho ▸ gy) w
                  have h3 := run_equalIn_int (P := P) w d f.type k1 k a b hk
                  simp only [Op.eqFields, ne_eq, hok.1, not_false_eq_true, if_true, Sem.run_bind, h1, h2, h3, Result.andThen_ok]
                  cases hab : (a == b)
                  · simp
                  · simpa using hr w
                · exact h.elim
              · exact h.elim
            · exact h.elim
          · rename_i hk
            split at h
            · split at h
              · rename_i a _ b
                obtain ⟨r, hF, hr⟩ := eqL_sound xs ys d fs (i + 1) us vs dx dy h
                refine ⟨_, hF, fun w => ?_⟩
                have h1 := run_part (.inr hk) (ho ▸ gx) w
                have h2 := run_part (.inr hk) (ho ▸ gy) w
                have h3 := run_equalIn_bool' (P := P) w d f.type a b hk
                simp only [Op.eqFields, ne_eq, hok.1, not_false_eq_true, if_true, Sem.run_bind, h1, h2, h3, Result.andThen_ok]
                cases hab : (a == b)
                · simp
                · simpa using hr w
              · exact h.elim
            · exact h.elim
          · exact h.elim

theorem aggT_sound {P : Program} {t : TypeId} {xs ys : Array Value} {F : Bool → Prop} (h : aggT P t xs.toList ys.toList F) :
    ∃ b, F b ∧ (∀ w, (Op.equalIn 10000 t (.agg xs) (.agg ys)).run P w = .ok b w) ∧ P.eqGuardType P.depth t = false := by
  unfold aggT at h
  split at h
  · rename_i fs hu
    cases hb : (!(P.stoodInHeld t) && !(P.eqGuardType P.depth t)) with
    | false => rw [hb] at h; exact h.elim
    | true =>
      rw [hb] at h
      simp only [cond_true] at h
      simp only [Bool.and_eq_true, Bool.not_eq_true'] at hb
      obtain ⟨b, hF, hr⟩ := eqL_sound xs ys 9998 fs.toList 0 _ _ rfl rfl h
      have hf : P.fieldsOf t = fs := by simp [Program.fieldsOf, hu]
      refine ⟨b, hF, fun w => ?_, hb.2⟩
      rw [run_equalIn_struct w 9999 t xs ys (by rw [hf]; exact hu) hb.1, hf]
      exact hr w
  · exact h.elim

theorem binT_sound {P : Program} {op : BinOp} {t : TypeId} {x y : Value} {F : Value → Prop} (h : binT P op t x y F) :
    ∃ v, F v ∧ (∀ w, (binOp op t x y).run P w = .ok v w) ∧ ∀ (ox oy : Operand) w, (eqGuard op t ox oy x y).run P w = .ok () w := by
  unfold binT at h
  split at h
  · split at h
    · obtain ⟨v, hF, hr⟩ := intT_sound h P t
      exact ⟨v, hF, hr, fun ox oy w => by cases op <;> simp [eqGuard]⟩
    · exact h.elim
  · split at h
    · split at h
      · exact ⟨_, h, fun w => by simp [binOp, Op.stringOp], fun ox oy w => by simp [eqGuard]⟩
      · exact ⟨_, h, fun w => by simp [binOp, Op.stringOp], fun ox oy w => by simp [eqGuard]⟩
      · exact h.elim
    · exact h.elim
  · split at h
    · split at h
      · obtain ⟨b, hF, hr, hg⟩ := aggT_sound h
        exact ⟨_, hF, fun w => by rw [run_eql_struct, hr w]; rfl, fun ox oy w => run_eqGuard_agg w _ t ox oy _ _ hg⟩
      · obtain ⟨b, hF, hr, hg⟩ := aggT_sound h
        exact ⟨_, hF, fun w => by rw [run_neq_struct, hr w]; rfl, fun ox oy w => run_eqGuard_agg w _ t ox oy _ _ hg⟩
      · exact h.elim
    · exact h.elim
  · rename_i hi hs
    have hg : ∀ (ox oy : Operand) w b F, eqT P t x y F → (eqGuard op t ox oy x y).run P w = .ok () w ∨ b = 0 := by
      intro ox oy w b F he
      left
      unfold eqT at he
      (repeat' split at he) <;> first | exact he.elim | (cases op <;> simp [eqGuard])
    split at h
    · obtain ⟨b, hF, hr⟩ := eqT_sound h
      refine ⟨_, hF, fun w => ?_, fun ox oy w => (hg ox oy w 1 _ h).resolve_right (by omega)⟩
      have hh := hr w
      unfold eqT at h
      (repeat' split at h) <;> first | exact h.elim | simp [binOp, hh]
    · obtain ⟨b, hF, hr⟩ := eqT_sound h
      refine ⟨_, hF, fun w => ?_, fun ox oy w => (hg ox oy w 1 _ h).resolve_right (by omega)⟩
      have hh := hr w
      unfold eqT at h
      (repeat' split at h) <;> first | exact h.elim | simp [binOp, hh]
    · exact h.elim

theorem unT_sound {P : Program} {op : UnOp} {x : Value} {F : Value → Prop} (h : unT op x F) : ∃ v, F v ∧ ∀ w, (Op.unary op x).run P w = .ok v w := by
  unfold unT at h
  split at h
  · exact ⟨_, h, fun w => by simp [Op.unary]⟩
  · exact ⟨_, h, fun w => by simp [Op.unary, Op.intArith]⟩
  · exact ⟨_, h, fun w => by simp [Op.unary, Op.intBits]⟩
  · exact h.elim

theorem cnvT_sound {P : Program} {src dst : TypeId} {x : Value} {F : Value → Prop} (h : cnvT P src dst x F) :
    ∃ v, F v ∧ ∀ w, (convert src dst x).run P w = .ok v w := by
  unfold cnvT at h
  split at h
  · rename_i d k hs hd
    split at h
    · exact ⟨_, h, fun w => by simp [convert, run_und hs, run_und hd, Conv.intToInt]⟩
    · exact h.elim
  · exact h.elim

theorem nc_elim {p : Option Addr} {F : Addr → Prop} (h : nc p F) : ∃ a, p = some a ∧ F a := by
  cases p with
  | none => exact h.elim
  | some a => exact ⟨a, rfl, h⟩

theorem info_of_szOf {P : Program} {t : TypeId} (h : szOf P t ≠ 0) : ∃ i, P.info? t = some i ∧ i.size = szOf P t := by
  unfold szOf at *
  cases hi : P.info? t with
  | none => simp [hi] at h
  | some i => exact ⟨i, rfl, by simp⟩

theorem run_info {P : Program} {t : TypeId} {i : TypeInfo} (h : P.info? t = some i) (w : World) : (typeInfo t).run P w = .ok i w := by
  simp [typeInfo, h]

theorem info_of_und {P : Program} {t : TypeId} {d : TypeDesc} (h : P.underlying t = some d) : ∃ i, P.info? t = some i := by
  unfold Program.underlying at h
  cases hi : P.info? t with
  | none => simp [hi] at h
  | some i => exact ⟨i, rfl⟩

theorem idxOf_list {α : Type} (xs : Array α) (i : Nat) : xs[i]? = xs.toList[i]? := by simp

theorem toArray_of {α : Type} {xs : Array α} {l : List α} (h : xs.toList = l) : xs = l.toArray := by subst h; rfl

set_option maxHeartbeats 1000000 in
theorem pureT_sound {P : Program} {ty : List Nat} {o : Oper} {s : St} {F : Value → Prop} (h : pureT P ty o s F) :
    ∃ v, F v ∧ ∀ w, (execOp s.ev o).run P w = .ok (.value v) w := by
  unfold pureT at h
  split at h
  · rename_i x ho; exact ⟨_, h, fun w => by simp [execOp, ho]⟩
  · rename_i x ho; exact ⟨_, h, fun w => by simp [execOp, ho]⟩
  · rename_i c a b ho
    split at h
    · rename_i t hc
      refine ⟨_, h, fun w => ?_⟩
      cases t <;> simp [execOp, ho, hc, asBool]
    · exact h.elim
  · rename_i x ho
    split at h
    · rename_i p hx
      obtain ⟨a, rfl, h⟩ := nc_elim h
      exact ⟨_, h, fun w => by simp [execOp, ho, hx]⟩
    · rename_i hx
      exact ⟨_, h, fun w => by simp [execOp, ho, hx]⟩
    · exact h.elim
  · rename_i ho
    obtain ⟨v, hF, hr, hg⟩ := binT_sound h
    exact ⟨v, hF, fun w => by simp [execOp, ho, hg, hr]⟩
  · rename_i ho
    obtain ⟨v, hF, hr⟩ := unT_sound (P := P) h
    exact ⟨v, hF, fun w => by simp [execOp, ho, hr]⟩
  · rename_i ho
    obtain ⟨v, hF, hr⟩ := cnvT_sound h
    exact ⟨v, hF, fun w => by simp [execOp, ho, hr]⟩
  · rename_i t x ho
    split at h
    · exact h.elim
    · rename_i d hn hd
      refine ⟨_, h, fun w => ?_⟩
      simp only [execOp, ho, Instr.makeInterface, Sem.run_bind, run_und hd, Result.andThen_ok]
      rfl
    · exact h.elim
  · rename_i fn first captured ho
    refine ⟨_, h, fun w => ?_⟩
    have e : ∀ xs : Array Operand, (xs.toList.map s.ev).toArray = xs.map s.ev := fun xs => by apply Array.toList_inj.1; simp
    simp [execOp, ho, Instr.makeFunc, e]
  · rename_i t x i ho
    split at h
    · rename_i p hx
      split at h
      · rename_i f hf
        cases hz : Nat.beq (szOf P f.type) 0 with
        | true => simp [hz] at h
        | false =>
          simp only [hz, cond_false] at h
          obtain ⟨a, rfl, h⟩ := nc_elim h
          have hne : szOf P f.type ≠ 0 := by intro e; simp [e] at hz
          obtain ⟨inf, hinf, hsz⟩ := info_of_szOf hne
          unfold fieldOf at hf
          split at hf
          · rename_i fs hu
            refine ⟨_, h, fun w => ?_⟩
            have hfs : fs[i]? = some f := by rw [idxOf_list]; exact hf
            have hs0 : ¬ inf.size = 0 := by omega
            have hadd : a.add f.offset = bif Nat.beq f.offset 0 then a else a.add f.offset := by
              cases hb : Nat.beq f.offset 0 with
              | true => have : f.offset = 0 := Nat.eq_of_beq_eq_true hb; simp [Addr.add, this]
              | false => rfl
            rw [← hadd]
            simp [execOp, ho, hx, Instr.fieldAt, run_und hu, hfs, Instr.sureAddr, fieldPlace, sizeOf, run_info hinf, hs0]
          · cases hf
      · exact h.elim
    · exact h.elim
  · rename_i t x i ho
    split at h
    · rename_i k n hi
      split at h
      · rename_i e hu
        cases hz : Nat.beq (szOf P e) 0 with
        | true => simp [hz] at h
        | false =>
          simp only [hz, cond_false] at h
          have hne : szOf P e ≠ 0 := by intro e; simp [e] at hz
          obtain ⟨inf, hinf, hsz⟩ := info_of_szOf hne
          split at h
          · rename_i p l c hx
            obtain ⟨a, rfl, h0, h1, h⟩ := h
            refine ⟨_, h, fun w => ?_⟩
            simp [execOp, ho, hx, hi, Instr.indexAt, asIntOf, run_und hu, sizeOf, run_info hinf, h0, h1, hsz]
          · exact h.elim
      · rename_i len e hu
        cases hz : Nat.beq (szOf P e) 0 with
        | true => simp [hz] at h
        | false =>
          simp only [hz, cond_false] at h
          have hne : szOf P e ≠ 0 := by intro e; simp [e] at hz
          obtain ⟨inf, hinf, hsz⟩ := info_of_szOf hne
          split at h
          · rename_i p hx
            obtain ⟨a, rfl, h0, h1, h⟩ := nc_elim h
            refine ⟨_, h, fun w => ?_⟩
            simp [execOp, ho, hx, hi, Instr.indexAt, Instr.sureAddr, asIntOf, run_und hu, sizeOf, run_info hinf, h0, h1, hsz]
          · exact h.elim
      · exact h.elim
    · exact h.elim
  · rename_i x i ho
    split at h
    · rename_i vs hx
      split at h
      · rename_i v hv
        have h' : F v := by split at h <;> first | exact tyS_elim h | exact h
        refine ⟨_, h', fun w => ?_⟩
        have : vs[i]? = some v := by rw [idxOf_list]; exact hv
        simp [execOp, ho, hx, Instr.extract, this]
      · exact h.elim
    · exact h.elim
  · rename_i args argTypes ho
    split at h
    · rename_i x hx
      have hargs := toArray_of hx
      cases ht : argTypes[0]? with
      | none => simp [ht] at h
      | some t =>
        simp only [ht, Option.bind_some] at h
        split at h
        · rename_i e hu
          split at h
          · rename_i p n c hv
            refine ⟨_, h, fun w => ?_⟩
            simp [execOp, ho, resolve, invoke, builtin, hargs, Builtin.len_, ht, run_und hu, hv, goInt]
          · exact h.elim
        · rename_i hu
          split at h
          · rename_i b hv
            refine ⟨_, h, fun w => ?_⟩
            simp [execOp, ho, resolve, invoke, builtin, hargs, Builtin.len_, ht, run_und hu, hv, goInt]
          · exact h.elim
        · rename_i n e hu
          refine ⟨_, h, fun w => ?_⟩
          simp [execOp, ho, resolve, invoke, builtin, hargs, Builtin.len_, ht, run_und hu, goInt]
        · exact h.elim
    · exact h.elim
  · rename_i args argTypes ho
    split at h
    · rename_i x hx
      have hargs := toArray_of hx
      cases ht : argTypes[0]? with
      | none => simp [ht] at h
      | some t =>
        simp only [ht, Option.bind_some] at h
        split at h
        · rename_i e hu
          split at h
          · rename_i p n c hv
            refine ⟨_, h, fun w => ?_⟩
            simp [execOp, ho, resolve, invoke, builtin, hargs, Builtin.cap_, ht, run_und hu, hv, goInt]
          · exact h.elim
        · exact h.elim
    · exact h.elim
  · rename_i args argTypes ho
    split at h
    · rename_i x y hx
      have hargs := toArray_of hx
      split at h
      · rename_i k a hv
        split at h
        · rename_i k' b hv'
          refine ⟨_, h, fun w => ?_⟩
          simp [execOp, ho, resolve, invoke, builtin, hargs, Builtin.min_, Builtin.min2, hv, hv']
        · exact h.elim
      · exact h.elim
    · exact h.elim
  · rename_i args argTypes ho
    split at h
    · rename_i x y hx
      have hargs := toArray_of hx
      split at h
      · rename_i k a hv
        split at h
        · rename_i k' b hv'
          refine ⟨_, h, fun w => ?_⟩
          simp [execOp, ho, resolve, invoke, builtin, hargs, Builtin.max_, Builtin.max2, hv, hv']
        · exact h.elim
      · exact h.elim
    · exact h.elim
  · exact h.elim
end Go.SR
