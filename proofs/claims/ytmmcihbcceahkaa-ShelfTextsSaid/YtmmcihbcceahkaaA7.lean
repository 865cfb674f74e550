/- The layer SR: functions that defer a closure which may recover. No program in sight. -/
import Derived.Test.YtmmcihbcceahkaaA6
import Derived.Recover
namespace Go.SR
open Go

variable {P : Program}

/-- A deferred call, which comes back and lets the panic, if there is one, be over. -/
def dcl (P : Program) (g : FuncId) (args : Array Value) (m : FrameMode) (w : World) (K : World → Prop) : Prop :=
  callable P g = true ∧ CallsD P g args m w fun e u' w' => (∃ v, e = .returned v) ∧ settle u' = .returning ∧ K w'

def dfr (P : Program) (d : Deferred) (m : FrameMode) (w : World) (K : World → Prop) : Prop :=
  match d.target with
  | .fn (.func g) cap => dcl P g (d.args.toList ++ cap.toList).toArray m w K
  | _ => False

def exitD (P : Program) (rs : List ResultVar) (R : Ending → World → Prop) : Exit → St → World → Prop
  | .normal, s, w | .ret, s, w => (match s.d with
    | [] => resL P rs s w fun vs => R (.returned (resV vs)) w
    | [d] => dfr P d .returning w fun w' => resL P rs s w' fun vs => R (.returned (resV vs)) w'
    | _ => False)
  | .panic ch, s, w => (match s.d with
    | [] => R (.panicked ch) w
    | [d] => dfr P d (.panicking ch) w fun w' => resL P rs s w' fun vs => R (.returned (resV vs)) w'
    | _ => False)
  | _, _, _ => False

theorem dfr_leaves {fn : Func} {tmps : Array Value} {R : Ending → World → Prop} {d : Deferred} {m : FrameMode} {w : World} {K : World → Prop} (hm : m ≠ .run) (h : dfr P d m w K)
    (hK : ∀ w', K w' → Leaves P fn tmps R [] .returning w') : Leaves P fn tmps R [d] m w := by
  obtain ⟨t, da⟩ := d
  unfold dfr at h
  split at h
  · rename_i g cap ht
    dsimp only at ht
    subst ht
    obtain ⟨hc, hd⟩ := h
    refine leaves_cons hm (f := g) (args := (da.toList ++ cap.toList).toArray) ?_ (hd.mono fun e u' w' he => ?_)
    · have : (da.toList ++ cap.toList).toArray = da ++ cap := by simp
      rw [this]
      exact run_callFunc hc _ _
    · obtain ⟨⟨v, rfl⟩, hs, hk⟩ := he
      show Leaves P fn tmps R [] (settle u') w'
      rw [hs]; exact hK w' hk
  · exact h.elim

theorem fn_soundD {ty : List Nat} {f : FuncId} {fn : Func} {c : Code} {args : Array Value} {w : World} {R : Ending → World → Prop} {ann : Ann} {N : Nat} (hm : P.follows .mixedOrders = true)
    (hcall : callable P f = true) (hf : P.funcs[f]? = some fn) (hb : fn.body = some c) (hN : fn.ntmps = N) (hargs : args.size ≤ N) (hok : okA N ann c = true)
    (h : cdA P ty ann c (exitD P fn.results.toList R) ⟨fun t => args.toList.getD t undef, []⟩ w) : Cs P f args w R := by
  refine ⟨hcall, calls_of_wp_defers hf hb ?_⟩
  refine wp_mono (cdA_sound hm ann c _ _ w hok h _ ⟨?_, ?_, rfl⟩) ?_
  · simp [hN]; omega
  · intro t
    simp only [hN]
    by_cases ht : t < args.size
    · simp [Array.getElem?_append, ht]
    · simp [Array.getElem?_append, ht, Array.getElem?_replicate]
      split <;> rfl
  · have ret : ∀ a' s' w', Fits N a' s' → (match s'.d with
        | [] => resL P fn.results.toList s' w' fun vs => R (.returned (resV vs)) w'
        | [d] => dfr P d .returning w' fun w'' => resL P fn.results.toList s' w'' fun vs => R (.returned (resV vs)) w''
        | _ => False) → Leaves P fn a'.tmps R a'.defers .returning w' := by
      intro a' s' w' hf' hq
      rw [hf'.2.2]
      split at hq
      · rename_i hd
        rw [hd]
        obtain ⟨vs, hR, hr⟩ := results_sound hf' hq
        exact ⟨_, hr, hR⟩
      · rename_i d hd
        rw [hd]
        refine dfr_leaves (by intro h; cases h) hq fun w'' hk => ?_
        obtain ⟨vs, hR, hr⟩ := results_sound hf' hk
        exact ⟨_, hr, hR⟩
      · exact hq.elim
    rintro e a' w' ⟨s', hf', _, _, hq⟩
    cases e with
    | normal => exact ret a' s' w' hf' hq
    | ret => exact ret a' s' w' hf' hq
    | panic ch =>
      simp only [exitD] at hq
      show Leaves P fn a'.tmps R a'.defers (.panicking ch) w'
      rw [hf'.2.2]
      split at hq
      · rename_i hd
        rw [hd]; exact hq
      · rename_i d hd
        rw [hd]
        refine dfr_leaves (by intro h; cases h) hq fun w'' hk => ?_
        obtain ⟨vs, hR, hr⟩ := results_sound hf' hk
        exact ⟨_, hr, hR⟩
      · exact hq.elim
    | exit => exact hq.elim
    | goto => exact hq.elim
    | outgrown => exact hq.elim

/-! ### closures that recover: 'if x := recover(); x != nil { .. }' -/

/-- The shape of such a body. -/
structure RecBody (fn : Func) (T : TypeId) (t2 t3 t4 t5 : Nat) (A : Code) : Prop where
  body : ∃ id0 id1 o0 o1 o2 o3, fn.body = some (.seq (.region id0 #[o0, o1] false) (.seq (.region id1 #[o2, o3] false) (.cond (.tmp t5) A .skip))) ∧
    o0.op = .call { callee := .builtin .recover, args := #[], argTypes := #[] } ∧ o0.guard = none ∧ o0.dst = some t3 ∧
    o1.op = .assign (.tmp t3) ∧ o1.guard = none ∧ o1.dst = some t2 ∧ o2.op = .move (.tmp t2) ∧ o2.guard = none ∧ o2.dst = some t4 ∧
    (∃ T', o3.op = .binOp .neq T (.tmp t4) (.const .nilIface) T') ∧ o3.guard = none ∧ o3.dst = some t5
  res : fn.results = #[]
  ne : t2 < fn.ntmps ∧ t3 < fn.ntmps ∧ t4 < fn.ntmps ∧ t5 < fn.ntmps

theorem run_neq_nil {T T' : TypeId} {ms : Array (String × TypeId)} {ρ : Operand → Value} {o : Oper} {t4 : Nat} {b : Bool} (ho : o.op = .binOp .neq T (.tmp t4) (.const .nilIface) T') (hT : P.underlying T = some (.interface ms)) (w : World)
    (hx : (ρ (.tmp t4) = .nilIface ∧ b = false) ∨ ∃ t v, ρ (.tmp t4) = .iface t v ∧ b = true) (hc : ρ (.const .nilIface) = .nilIface) : (execOp ρ o).run P w = .ok (.value (.bool b)) w := by
  have e0 : (Op.equal T .nilIface .nilIface).run P w = .ok true w := equal_at P T _ _ w _ fun d => by simp [Op.equalIn, run_und hT]
  rcases hx with ⟨h1, rfl⟩ | ⟨t, v, h1, rfl⟩
  · simp [execOp, ho, h1, hc, binOp, e0, eqGuard_nil_constR]
  · have e1 : (Op.equal T (.iface t v) .nilIface).run P w = .ok false w := equal_at P T _ _ w _ fun d => by simp [Op.equalIn, run_und hT]
    simp [execOp, ho, h1, hc, binOp, e1, eqGuard]

theorem run_recover {ρ : Operand → Value} {o : Oper} (ho : o.op = .call { callee := .builtin .recover, args := #[], argTypes := #[] }) (w : World) : (execOp ρ o).run P w = .ok .recover w := by
  simp [execOp, ho, resolve, invoke, builtin]

theorem wpS_rec {fn : Func} {T : TypeId} {t2 t3 t4 t5 : Nat} {A : Code} {ms : Array (String × TypeId)} {Q : Exit → Act → List Frame → World → Prop} {a : Act} {cs cs' : List Frame} {w : World} {x : Value} {b : Bool}
    (hb : RecBody fn T t2 t3 t4 t5 A) (hT : P.underlying T = some (.interface ms)) (hsz : a.tmps.size = fn.ntmps)
    (hx : (recoverD cs = none ∧ x = .nilIface ∧ b = false ∧ cs' = cs) ∨ (recoverD cs = some (x, cs') ∧ ∃ t v, x = .iface t v ∧ b = true))
    (h : (if b then A else Code.skip).wpS P Q ((((a.put (some t3) x).put (some t2) x).put (some t4) x).put (some t5) (.bool b)) cs' w) :
    ∃ c, fn.body = some c ∧ c.wpS P Q a cs w := by
  obtain ⟨id0, id1, o0, o1, o2, o3, hbody, h0, g0, d0, h1, g1, d1, h2, g2, d2, ⟨T', h3⟩, g3, d3⟩ := hb.body
  obtain ⟨n2, n3, n4, n5⟩ := hb.ne
  refine ⟨_, hbody, ?_⟩
  apply wpS_seq
  apply wpS_region
  show wpOpsS P #[o0, o1] _ [0, 1] a cs w
  have w0 : ∀ y, Region.wanted o0 y = true := fun y => by simp [Region.wanted, g0]
  have w1 : ∀ y, Region.wanted o1 y = true := fun y => by simp [Region.wanted, g1]
  have w2 : ∀ y, Region.wanted o2 y = true := fun y => by simp [Region.wanted, g2]
  have w3 : ∀ y, Region.wanted o3 y = true := fun y => by simp [Region.wanted, g3]
  -- behind the recover
  have key : wpOpsS P #[o0, o1] (Exit.thenS ((Code.seq (.region id1 #[o2, o3] false) (.cond (.tmp t5) A .skip)).wpS P Q) Q) [1] (a.put (some t3) x) cs' w := by
    have e1 : (#[o0, o1] : Array Oper)[1]? = some o1 := rfl
    have q1 : (a.put (some t3) x).eval (.tmp t3) = x := by simp [Act.eval, Act.put, hsz, n3]
    have r1 : (execOp (a.put (some t3) x).eval o1).run P w = .ok (.value x) w := by simp [execOp, h1, q1]
    simp only [wpOpsS, e1, w1, if_true, r1, Oper.upon, d1]
    show (Code.seq (.region id1 #[o2, o3] false) (.cond (.tmp t5) A .skip)).wpS P Q _ cs' w
    apply wpS_seq
    apply wpS_region
    show wpOpsS P #[o2, o3] _ [0, 1] _ cs' w
    generalize ha2 : (a.put (some t3) x).put (some t2) x = a2 at h ⊢
    have hs2 : a2.tmps.size = fn.ntmps := by rw [← ha2]; simp [Act.put, hsz]
    have e2 : (#[o2, o3] : Array Oper)[0]? = some o2 := rfl
    have e3 : (#[o2, o3] : Array Oper)[1]? = some o3 := rfl
    have q2 : a2.eval (.tmp t2) = x := by rw [← ha2]; simp [Act.eval, Act.put, hsz, n2]
    have r2 : (execOp a2.eval o2).run P w = .ok (.value x) w := by simp [execOp, h2, q2]
    rw [wpOpsS]
    simp only [e2, w2, if_true, r2, Oper.upon, d2]
    generalize ha3 : a2.put (some t4) x = a3 at h ⊢
    have hs3 : a3.tmps.size = fn.ntmps := by rw [← ha3]; simp [Act.put, hs2]
    have q3 : a3.eval (.tmp t4) = x := by rw [← ha3]; simp [Act.eval, Act.put, hs2, n4]
    have r3 : (execOp a3.eval o3).run P w = .ok (.value (.bool b)) w := by
      refine run_neq_nil h3 hT w ?_ rfl
      rw [q3]
      rcases hx with ⟨_, e1, e2, _⟩ | ⟨_, t, v, e1, e2⟩
      · exact .inl ⟨e1, e2⟩
      · exact .inr ⟨t, v, e1, e2⟩
    simp only [wpOpsS, e3, w3, if_true, r3, Oper.upon, d3]
    show (Code.cond (.tmp t5) A .skip).wpS P Q _ cs' w
    refine wpS_cond (t := b) ?_ h
    simp [Act.eval, Act.put, hs3, n5]
  have e0 : (#[o0, o1] : Array Oper)[0]? = some o0 := rfl
  have r0 := run_recover (P := P) (ρ := a.eval) h0 w
  rw [wpOpsS]
  simp only [e0, w0, if_true]
  rw [r0]
  rcases hx with ⟨hr, rfl, rfl, rfl⟩ | ⟨hr, _⟩
  · simp only [hr, d0]; exact key
  · simp only [hr, d0]; exact key

theorem results_none {fn : Func} (h : fn.results = #[]) (tmps : Array Value) (w : World) : (results fn tmps).run P w = .ok (.tuple #[]) w := by
  rw [results_eq, h]
  simp

/-- No panic: nothing is done. -/
theorem dcl_nil {f : FuncId} {fn : Func} {T : TypeId} {t2 t3 t4 t5 : Nat} {A : Code} {ms : Array (String × TypeId)} {args : Array Value} {w : World} {K : World → Prop} (hcall : callable P f = true) (hf : P.funcs[f]? = some fn)
    (hb : RecBody fn T t2 t3 t4 t5 A) (hT : P.underlying T = some (.interface ms)) (hargs : args.size ≤ fn.ntmps) (hK : K w) : dcl P f args .returning w K := by
  refine ⟨hcall, ?_⟩
  obtain ⟨_, _, _, _, _, _, hbody, _⟩ := hb.body
  refine callsD_of_wpS hf hbody fun c₀ cs hu => ?_
  have hsz : (args ++ Array.replicate (fn.ntmps - args.size) undef).size = fn.ntmps := by simp; omega
  obtain ⟨c, hc, h⟩ := wpS_rec (Q := bodyPostS P fn c₀ cs fun e u' w' => (∃ v, e = .returned v) ∧ settle u' = .returning ∧ K w') (a := { tmps := args ++ Array.replicate (fn.ntmps - args.size) undef, defers := [] }) (cs := c₀ :: cs) (w := w) hb hT hsz
    (.inl ⟨by simp [recoverD, hu], rfl, rfl, rfl⟩) (by
      intro b k _ _
      refine ⟨.normal, _, c₀ :: cs, w, ⟨rfl, .returning, ?_, .tuple #[], results_none hb.res _ _, ⟨_, rfl⟩, rfl, hK⟩, .one step_skip⟩
      rw [← hu])
  rw [hbody] at hc
  cases hc
  exact h

/-- A panic is caught. -/
theorem dcl_some {f : FuncId} {fn : Func} {T : TypeId} {t2 t3 t4 t5 N : Nat} {A : Code} {ms : Array (String × TypeId)} {args : Array Value} {w : World} {K : World → Prop} {ty : List Nat} {ann : Ann} {t : TypeId} {v : Value} (hm : P.follows .mixedOrders = true) (hcall : callable P f = true) (hf : P.funcs[f]? = some fn)
    (hb : RecBody fn T t2 t3 t4 t5 A) (hT : P.underlying T = some (.interface ms)) (hN : fn.ntmps = N) (hargs : args.size ≤ N) (hok : okA N ann A = true)
    (h : cdA P ty ann A (exitT P [] (fun e w' => match e with | .returned _ => K w' | _ => False)) (((((⟨fun t => args.toList.getD t undef, []⟩ : St).upd (some t3) (.iface t v)).upd (some t2) (.iface t v)).upd (some t4) (.iface t v)).upd (some t5) (.bool true)) w) :
    dcl P f args (.panicking [⟨.iface t v, false, false⟩]) w K := by
  refine ⟨hcall, ?_⟩
  obtain ⟨_, _, _, _, _, _, hbody, _⟩ := hb.body
  obtain ⟨n2, n3, n4, n5⟩ := hb.ne
  rw [hN] at n2 n3 n4 n5
  refine callsD_of_wpS hf hbody fun c₀ cs hu => ?_
  have hsz : (args ++ Array.replicate (fn.ntmps - args.size) undef).size = fn.ntmps := by rw [hN]; simp; omega
  have f0 : Fits N { tmps := args ++ Array.replicate (fn.ntmps - args.size) undef, defers := [] } ⟨fun t => args.toList.getD t undef, []⟩ := by
    refine ⟨by rw [hsz, hN], fun t => ?_, rfl⟩
    simp only [hN]
    by_cases ht : t < args.size
    · simp [Array.getElem?_append, ht]
    · simp [Array.getElem?_append, ht, Array.getElem?_replicate]
      split <;> rfl
  have f1 := (((f0.put (dst := some t3) (v := .iface t v) (by rintro d ⟨⟩; exact n3)).put (dst := some t2) (v := .iface t v) (by rintro d ⟨⟩; exact n2)).put (dst := some t4) (v := .iface t v) (by rintro d ⟨⟩; exact n4)).put (dst := some t5) (v := .bool true) (by rintro d ⟨⟩; exact n5)
  obtain ⟨c, hc, h'⟩ := wpS_rec (Q := bodyPostS P fn c₀ cs fun e u' w' => (∃ v, e = .returned v) ∧ settle u' = .returning ∧ K w') (a := { tmps := args ++ Array.replicate (fn.ntmps - args.size) undef, defers := [] }) (cs := c₀ :: cs)
    (cs' := { c₀ with mode := .panicking [⟨.iface t v, true, false⟩] } :: cs) (x := .iface t v) (b := true) (w := w) hb hT hsz
    (.inr ⟨by simp [recoverD, hu], t, v, rfl, rfl⟩) (by
      refine wpS_of_wp ?_
      refine wp_mono (cdA_sound hm ann A _ _ w hok h _ f1) ?_
      have fin : ∀ a' s' w', Fits N a' s' → (match s'.d with
          | [] => resL P [] s' w' fun _ => K w'
          | _ => False) → a'.defers = [] ∧ ∃ u', ({ c₀ with mode := .panicking [⟨.iface t v, true, false⟩] } : Frame) :: cs = { c₀ with mode := u' } :: cs ∧ ∃ v, (results fn a'.tmps).run P w' = .ok v w' ∧ (∃ v', Ending.returned v = .returned v') ∧ settle u' = .returning ∧ K w' := by
        intro a' s' w' hf' hq
        split at hq
        · rename_i hd
          exact ⟨hf'.2.2.trans hd, _, rfl, _, results_none hb.res _ _, ⟨_, rfl⟩, rfl, hq⟩
        · exact hq.elim
      rintro e a' w' ⟨s', hf', _, _, hq⟩
      cases e with
      | normal => exact fin a' s' w' hf' hq
      | ret => exact fin a' s' w' hf' hq
      | panic ch =>
        simp only [exitT] at hq
        split at hq <;> exact hq.elim
      | exit => exact hq.elim
      | goto => exact hq.elim
      | outgrown => exact hq.elim)
  rw [hbody] at hc
  cases hc
  exact h'
end Go.SR
