/- The layer SR, fourth part: regions, in the order of the text and in whatever order. -/
import Derived.Test.YtmmcihbcceahkaaA3
namespace Go.SR
open Go

def Fits (N : Nat) (a : Act) (s : St) : Prop := a.tmps.size = N ∧ (∀ t, a.tmps.getD t undef = s.e t) ∧ a.defers = s.d

theorem Fits.eval {N : Nat} {a : Act} {s : St} (h : Fits N a s) : a.eval = s.ev := by
  funext x
  cases x <;> simp only [Act.eval, St.ev]
  exact h.2.1 _

theorem Fits.put {N : Nat} {a : Act} {s : St} {dst : Option Tmp} {v : Value} (h : Fits N a s) (hd : ∀ d, dst = some d → d < N) : Fits N (a.put dst v) (s.upd dst v) := by
  cases dst with
  | none => exact h
  | some d =>
    refine ⟨by simp [Act.put, h.1], fun t => ?_, h.2.2⟩
    have hdN := hd d rfl
    have hsz : d < a.tmps.size := by rw [h.1]; exact hdN
    simp only [Act.put, St.upd]
    cases hb : Nat.beq t d with
    | true =>
      have := Nat.eq_of_beq_eq_true hb
      subst this
      simp [hsz]
    | false =>
      have hne : d ≠ t := fun e => by subst e; simp at hb
      simp only [cond_false]
      rw [← h.2.1 t]
      simp [Array.getElem?_setIfInBounds_ne hne]

/-- The value of a guard. -/
def yieldE (ops : Array Oper) (s : St) (g : Nat) : Option Bool :=
  match (ops.toList[g]?).bind (·.dst) with
  | some t => (match s.e t with | .bool b => some b | _ => none)
  | none => none

theorem Fits.yielded {N : Nat} {a : Act} {s : St} (h : Fits N a s) (ops : Array Oper) (g : Nat) : yielded ops a.tmps g = yieldE ops s g := by
  unfold Go.yielded yieldE
  rw [idxOf_list]
  cases hd : (ops.toList[g]?).bind (·.dst) with
  | none => rfl
  | some t =>
    simp only [Option.bind_some]
    rw [← h.2.1 t]
    cases ht : a.tmps[t]? with
    | none => simp [ht, undef]
    | some v => simp only [ht, Option.getD_some, Array.getD_eq_getD_getElem?]; cases v <;> rfl

/-- Under a guard, or not. -/
def gd (ops : Array Oper) (o : Oper) (s : St) (A B : St → Prop) : Prop :=
  match o.guard with
  | none => A s
  | some (g, want) =>
    match (ops.toList[g]?).bind (·.dst) with
    | none => B s
    | some t =>
      match s.e t with
      | .bool b => br b (match want with | true => A (s.upd (some t) (.bool true)) | false => B (s.upd (some t) (.bool true)))
          (match want with | true => B (s.upd (some t) (.bool false)) | false => A (s.upd (some t) (.bool false)))
      | _ => B s

theorem upd_self {s : St} {t : Nat} {v : Value} (h : s.e t = v) : s.upd (some t) v = s := by
  cases s with
  | mk e d =>
    simp only [St.upd]
    congr 1
    funext u
    cases hb : Nat.beq u t with
    | true => have := Nat.eq_of_beq_eq_true hb; subst this; exact h.symm
    | false => rfl

theorem gd_elim {ops : Array Oper} {o : Oper} {s : St} {A B : St → Prop} (h : gd ops o s A B) {N : Nat} {a : Act} (hf : Fits N a s) :
    (Region.wanted o (yielded ops a.tmps) = true ∧ A s) ∨ (Region.wanted o (yielded ops a.tmps) = false ∧ B s) := by
  unfold gd at h
  unfold Region.wanted
  cases hg : o.guard with
  | none => simp only [hg] at h; exact .inl ⟨rfl, h⟩
  | some gw =>
    obtain ⟨g, want⟩ := gw
    simp only [hg] at h ⊢
    rw [hf.yielded]
    unfold yieldE
    cases ht : (ops.toList[g]?).bind (·.dst) with
    | none => simp only [ht] at h ⊢; exact .inr ⟨rfl, h⟩
    | some t =>
      simp only [ht] at h ⊢
      cases hv : s.e t with
      | bool b =>
        simp only [hv] at h ⊢
        cases b <;> cases want <;> simp only [br] at h <;> rw [upd_self hv] at h <;> first | exact .inl ⟨rfl, h⟩ | exact .inr ⟨rfl, h⟩
      | _ => simp only [hv] at h ⊢; exact .inr ⟨rfl, h⟩

/-- One operation of a region. -/
def opP (P : Program) (ty : List Nat) (o : Oper) (s : St) (w : World) (K : St → World → Prop) (Q : Exit → St → World → Prop) : Prop :=
  match o.op with
  | .defer { callee := .value f, args, .. } => (match s.ev f with
    | .func fn first cap => K ((⟨s.e, { target := .fn fn cap, args := (first.toList ++ args.toList.map s.ev).toArray } :: s.d⟩ : St).upd o.dst undef) w
    | _ => False)
  | _ => opT P ty o s w (fun v w => K (s.upd o.dst v) w) (fun ch w => Q (.panic ch) s w)

/-- A region in the order of the text. -/
def rg (P : Program) (ty : List Nat) (ops : Array Oper) : List Oper → (Exit → St → World → Prop) → St → World → Prop
  | [], Q, s, w => Q .normal s w
  | o :: r, Q, s, w => gd ops o s (fun s => opP P ty o s w (fun s w => rg P ty ops r Q s w) Q) (fun s => rg P ty ops r Q (s.upd o.dst undef) w)

def agree (W : List Nat) (s s' : St) : Prop := ∀ t, t ∉ W → s'.e t = s.e t

theorem agree.refl (W : List Nat) (s : St) : agree W s s := fun _ _ => rfl
theorem agree.trans {W : List Nat} {s s' s'' : St} (h : agree W s s') (h' : agree W s' s'') : agree W s s'' := fun t ht => (h' t ht).trans (h t ht)
theorem agree.mono {W W' : List Nat} {s s' : St} (h : agree W s s') (hs : ∀ t, t ∈ W → t ∈ W') : agree W' s s' := fun t ht => h t fun hm => ht (hs t hm)
theorem agree.upd {W : List Nat} {s : St} {dst : Option Nat} {v : Value} (h : ∀ d, dst = some d → d ∈ W) : agree W s (s.upd dst v) := by
  intro t ht
  cases dst with
  | none => rfl
  | some d =>
    have hne : t ≠ d := fun e => ht (e ▸ h d rfl)
    have : Nat.beq t d = false := by
      cases hb : Nat.beq t d with
      | true => exact (hne (Nat.eq_of_beq_eq_true hb)).elim
      | false => rfl
    simp [St.upd, this]

/-- What a goal over states means over frames. -/
def Lift (N : Nat) (Q : Exit → St → World → Prop) : Exit → Act → World → Prop := fun e a w => ∃ s, Fits N a s ∧ Q e s w

def wrOp (o : Oper) : List Nat := o.dst.toList

def isDefer (o : Oper) : Bool :=
  match o.op with
  | .defer _ => true
  | _ => false

theorem upd_d (s : St) (t : Option Nat) (v : Value) : (s.upd t v).d = s.d := by cases t <;> rfl

theorem opP_sound {P : Program} {ty : List Nat} {o : Oper} {s : St} {w : World} {K : St → World → Prop} {Q : Exit → St → World → Prop} (h : opP P ty o s w K Q) {N : Nat} {a : Act} (hf : Fits N a s)
    (hd : ∀ d, o.dst = some d → d < N) {next : Act → World → Prop} {Q' : Exit → Act → World → Prop}
    (hn : ∀ (s' : St) (a' : Act) w', agree o.dst.toList s s' → (isDefer o = false → s'.d = s.d) → Fits N a' s' → K s' w' → next a' w') (hp : ∀ ch w', Q (.panic ch) s w' → Q' (.panic ch) a w') : o.wp P a w next Q' := by
  unfold opP at h
  split at h
  · rename_i f args at' ho
    split at h
    · rename_i fn first cap hfv
      unfold Oper.wp
      rw [hf.eval]
      have ha : (first.toList ++ args.toList.map s.ev).toArray = first ++ args.map s.ev := by apply Array.toList_inj.1; simp
      rw [ha] at h
      simp only [execOp, ho, resolve, Deferred.ofValue, hfv, Sem.run_bind, Sem.run_pure, Result.andThen_ok, Oper.upon]
      refine hn _ _ _ ?_ (fun hd => by simp [isDefer, ho] at hd) ?_ h
      · refine (agree.upd ?_ : agree _ (⟨s.e, _⟩ : St) _)
        intro d hd; simp [hd]
      · refine Fits.put (s := ⟨s.e, _⟩) ⟨hf.1, hf.2.1, ?_⟩ hd
        simp [hf.2.2]
    · exact h.elim
  · have hr := opT_sound h
    unfold Oper.wp
    rw [hf.eval]
    exact Res.upon (fun v w' hk => hn _ _ _ (agree.upd (by intro d hd; simp [hd])) (fun _ => upd_d _ _ _) (hf.put hd) hk) (fun c w' hq => hp c w' hq) hr

theorem rg_sound {P : Program} {ty : List Nat} {ops : Array Oper} {N : Nat} {Q : Exit → St → World → Prop} : ∀ (l : List Oper) (s : St) (w : World), rg P ty ops l Q s w →
    (∀ o ∈ l, ∀ d, o.dst = some d → d < N) → ∀ a, Fits N a s → wpList P ops (Lift N fun e s' w' => agree (l.flatMap wrOp) s s' ∧ (l.any isDefer = false → s'.d = s.d) ∧ Q e s' w') l a w
  | [], s, w, h, _, a, hf => ⟨s, hf, agree.refl _ _, fun _ => rfl, h⟩
  | o :: l, s, w, h, hd, a, hf => by
    have hd' := fun o' (ho' : o' ∈ l) => hd o' (List.mem_cons_of_mem _ ho')
    have hdo := hd o (List.mem_cons_self ..)
    unfold rg at h
    have step : ∀ (s' : St) (a' : Act) w', agree o.dst.toList s s' → (isDefer o = false → s'.d = s.d) → Fits N a' s' → rg P ty ops l Q s' w' →
        wpList P ops (Lift N fun e s' w' => agree ((o :: l).flatMap wrOp) s s' ∧ ((o :: l).any isDefer = false → s'.d = s.d) ∧ Q e s' w') l a' w' := by
      intro s' a' w' hag hdd hf' hr
      refine wpList_mono' ?_ (rg_sound l s' w' hr hd' a' hf')
      rintro e a'' w'' ⟨s'', hf'', hag', hd', hq⟩
      refine ⟨s'', hf'', agree.trans (hag.mono ?_) (hag'.mono ?_), ?_, hq⟩
      · intro t ht; exact List.mem_flatMap.2 ⟨o, List.mem_cons_self .., ht⟩
      · intro t ht
        obtain ⟨o', ho', ht'⟩ := List.mem_flatMap.1 ht
        exact List.mem_flatMap.2 ⟨o', List.mem_cons_of_mem _ ho', ht'⟩
      · intro hn
        simp only [List.any_cons, Bool.or_eq_false_iff] at hn
        rw [hd' hn.2, hdd hn.1]
    unfold wpList
    rcases gd_elim h hf with ⟨hw, h⟩ | ⟨hw, h⟩
    · rw [if_pos hw]
      exact .inl (opP_sound h hf hdo (fun s' a' w' h1 h2 h3 h4 => step s' a' w' h1 h2 h3 h4) (fun ch w' hq => ⟨s, hf, agree.refl _ _, fun _ => rfl, hq⟩))
    · rw [hw, if_neg (by simp)]
      exact step _ _ _ (agree.upd (by intro d hd; simp [hd])) (fun _ => upd_d _ _ _) (hf.put hdo) h
where
  wpList_mono' {P : Program} {ops : Array Oper} {Q Q' : Exit → Act → World → Prop} (h : ∀ e a w, Q e a w → Q' e a w) {l : List Oper} {a : Act} {w : World}
      (hh : wpList P ops Q l a w) : wpList P ops Q' l a w := by
    induction l generalizing a w with
    | nil => exact h _ _ _ hh
    | cons o l ih =>
      unfold wpList at hh ⊢
      split
      · rename_i hw
        rw [if_pos hw] at hh
        rcases hh with hh | ⟨h1, h2⟩
        · left
          unfold Oper.wp at *
          generalize (execOp a.eval o).run P w = r at *
          cases r with
          | ok n w' =>
            cases n <;> simp only [Oper.upon] at hh ⊢ <;>
              first
                | exact ih hh
                | exact Calls.mono hh (fun e w'' he => by cases e <;> first | exact ih he | exact h _ _ _ he | (obtain ⟨a, w, hq⟩ := he; exact ⟨a, w, h _ _ _ hq⟩))
                | exact Rows.mono hh (fun _ _ he => ih he)
          | halt x w' => cases x <;> simp only [Oper.upon] at hh ⊢ <;> first | exact hh | exact h _ _ _ hh
        · right
          obtain ⟨a', w', hq⟩ := h2
          exact ⟨h1, a', w', h _ _ _ hq⟩
      · rename_i hw
        rw [if_neg hw] at hh
        exact ih hh
end Go.SR
