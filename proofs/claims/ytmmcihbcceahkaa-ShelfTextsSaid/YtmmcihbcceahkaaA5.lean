/- The layer SR, fifth part: a region that draws its order: one walk that serves every order. -/
import Derived.Test.YtmmcihbcceahkaaA4
namespace Go.SR
open Go

/-- Does operation j wait for i? -/
def wf (ops : Array Oper) (j i : Nat) : Bool :=
  match ops.toList[j]? with
  | some o => o.after.toList.any fun e => Region.binds .any e && Nat.beq e.on i
  | none => false

/-- Every order, with what must stay as it was read. -/
def wpG (P : Program) (ops : Array Oper) (Q : Exit → Act → World → Prop) : Nat → Array Bool → List (Nat × List Fact) → Act → World → Prop
  | 0, L, _, a, w => Region.ready .any ops L = [] ∧ Q .normal a w
  | n + 1, L, H, a, w => (Region.ready .any ops L = [] → Q .normal a w) ∧
      ∀ j ∈ Region.ready .any ops L, wpOp P ops Q j (fun a' w' => (∀ p ∈ H.filter (fun p => !wf ops j p.1), hold p.2 w') ∧ wpG P ops Q n (L.setIfInBounds j true) (H.filter fun p => !wf ops j p.1) a' w') a w

section
variable {P : Program} {ops : Array Oper} {Q : Exit → Act → World → Prop}

theorem wpG_any : ∀ (n : Nat) (L : Array Bool) (H : List (Nat × List Fact)) (a : Act) (w : World), wpG P ops Q n L H a w → wpAny P .any ops Q n L a w
  | 0, _, _, _, _, h => h
  | n + 1, _, _, _, _, h => ⟨h.1, fun j hj => wpOp_mono (fun a' w' h' => wpG_any n _ _ a' w' h'.2) (h.2 j hj)⟩

theorem wpG_weaken : ∀ (n : Nat) (L : Array Bool) (H H' : List (Nat × List Fact)) (a : Act) (w : World), (∀ p ∈ H, p ∈ H') → wpG P ops Q n L H' a w → wpG P ops Q n L H a w
  | 0, _, _, _, _, _, _, h => h
  | n + 1, _, H, H', _, _, hs, h => ⟨h.1, fun j hj => wpOp_mono (fun a' w' h' => by
      have hs' : ∀ p ∈ H.filter (fun p => !wf ops j p.1), p ∈ H'.filter (fun p => !wf ops j p.1) := fun p hp => by
        obtain ⟨h1, h2⟩ := List.mem_filter.1 hp
        exact List.mem_filter.2 ⟨hs p h1, h2⟩
      exact ⟨fun p hp => h'.1 p (hs' p hp), wpG_weaken n _ _ _ a' w' hs' h'.2⟩) (h.2 j hj)⟩

theorem wf_ready {i j : Nat} {L : Array Bool} (hi : i ∈ Region.ready .any ops L) (hj : j ∈ Region.ready .any ops L) : wf ops j i = false := by
  obtain ⟨hu, oi, hoi, _⟩ := mem_ready.1 hi
  obtain ⟨_, oj, hoj, hall⟩ := mem_ready.1 hj
  unfold wf
  rw [← idxOf_list, hoj]
  cases hb : oj.after.toList.any fun e => Region.binds .any e && Nat.beq e.on i with
  | false => exact hb
  | true =>
    obtain ⟨e, he, hbe⟩ := List.any_eq_true.1 hb
    obtain ⟨h1, h2⟩ := Bool.and_eq_true_iff.1 hbe
    have h2 := Nat.eq_of_beq_eq_true h2
    have h3 := hall e (by simpa using he) h1
    rw [h2] at h3
    rcases Nat.lt_or_ge i L.size with h' | h'
    · simp [h'] at hu h3; rw [hu] at h3; cases h3
    · simp [Array.getElem?_eq_none h'] at h3

theorem wpG_first {i : Nat} {oi : Oper} {v : Value} {fs : List Fact} (hi : ops[i]? = some oi) (hsel : ∀ (j : Nat) (o : Oper) cs b, ops[j]? = some o → o.op ≠ .select cs b)
    (hQ : ∀ c a w, ¬ Q (.panic c) a w) :
    ∀ (n : Nat) (L : Array Bool) (H : List (Nat × List Fact)) (a : Act) (w : World),
      (∀ j oj, ops[j]? = some oj → j ≠ i → L.getD j true = false → (∀ e ∈ oj.after, Region.binds .any e = true → e.on ≠ i) → oi.apart ops oj = true) →
      i ∈ Region.ready .any ops L → YieldsIf P ops (hold fs) oi v a → hold fs w → (∀ p ∈ H, hold p.2 w) →
      wpG P ops Q n (L.setIfInBounds i true) ((i, fs) :: H) (a.put oi.dst v) w → wpG P ops Q (n + 1) L H a w := by
  intro n
  have here : ∀ (n : Nat) (L : Array Bool) (H : List (Nat × List Fact)) (a : Act) (w : World), YieldsIf P ops (hold fs) oi v a → hold fs w → (∀ p ∈ H, hold p.2 w) →
      wpG P ops Q n (L.setIfInBounds i true) ((i, fs) :: H) (a.put oi.dst v) w →
      wpOp P ops Q i (fun a' w' => (∀ p ∈ H.filter (fun p => !wf ops i p.1), hold p.2 w') ∧ wpG P ops Q n (L.setIfInBounds i true) (H.filter fun p => !wf ops i p.1) a' w') a w := by
    intro n L H a w hy hS hH H'
    exact hy.wpOp hi hS ⟨fun p hp => hH p (List.mem_filter.1 hp).1, wpG_weaken _ _ _ _ _ _ (fun p hp => List.mem_cons_of_mem _ (List.mem_filter.1 hp).1) H'⟩
  induction n with
  | zero =>
    intro L H a w _ hr hy hS hH H'
    refine ⟨fun h => (by rw [h] at hr; cases hr), fun j hj => ?_⟩
    by_cases hji : j = i
    · subst hji; exact here 0 L H a w hy hS hH H'
    · have := ready_mono hj hji
      rw [H'.1] at this
      cases this
  | succ n ih =>
    intro L H a w hfree hr hy hS hH H'
    refine ⟨fun h => (by rw [h] at hr; cases hr), fun j hj => ?_⟩
    by_cases hji : j = i
    · subst hji; exact here _ L H a w hy hS hH H'
    · have h1 := H'.2 j (ready_mono hj hji)
      obtain ⟨hjun, oj, hoj, hall⟩ := mem_ready.1 hj
      have hw : wf ops j i = false := wf_ready hr hj
      have hnot : ∀ e ∈ oj.after, Region.binds .any e = true → e.on ≠ i := fun e he hb heq => by
        have : wf ops j i = true := by
          unfold wf
          rw [← idxOf_list, hoj]
          exact List.any_eq_true.2 ⟨e, by simpa using he, by simp [hb, heq]⟩
        rw [this] at hw
        cases hw
      have h2 := wpOp_putIf hoj (hfree j oj hoj hji hjun hnot) (fun cs b => hsel i oi cs b hi) (fun cs b => hsel j oj cs b hoj) (fun c a w h => (hQ c _ w h).elim) hy h1
      have hfree' : ∀ k ok, ops[k]? = some ok → k ≠ i → (L.setIfInBounds j true).getD k true = false →
          (∀ e ∈ ok.after, Region.binds .any e = true → e.on ≠ i) → oi.apart ops ok = true := fun k ok hk hki hun hno => by
        refine hfree k ok hk hki ?_ hno
        by_cases hjk : j = k
        · subst hjk; exact hjun
        · rw [getD_set_ne true hjk] at hun; exact hun
      have hfil : ((i, fs) :: H).filter (fun p => !wf ops j p.1) = (i, fs) :: H.filter (fun p => !wf ops j p.1) := by
        simp [hw]
      rw [hfil] at h2
      refine wpOp_mono (fun a' w' h3 => ?_) h2
      obtain ⟨hy', hheld, hrest⟩ := h3
      have hH' : ∀ p ∈ H.filter (fun p => !wf ops j p.1), hold p.2 w' := fun p hp => hheld p (List.mem_cons_of_mem _ hp)
      refine ⟨hH', ih (L.setIfInBounds j true) _ a' w' hfree' (ready_mono hr (Ne.symm hji)) hy' (hheld _ (List.mem_cons_self ..)) hH' ?_⟩
      rw [Array.setIfInBounds_comm _ _ hji]
      exact hrest
end

/-! ### the planned walk -/

inductive PStep where
  | take (i : Nat)
  | eff (i : Nat)

def holdK (l : List Fact) (w : World) (X : Prop) : Prop :=
  match l with
  | [] => X
  | l => hold l w ∧ X

theorem holdK_elim {l : List Fact} {w : World} {X : Prop} (h : holdK l w X) : hold l w ∧ X := by
  cases l with
  | nil => exact ⟨hold_nil w, h⟩
  | cons => exact h

def addH (i : Nat) (fs : List Fact) (H : List (Nat × List Fact)) : List (Nat × List Fact) :=
  match fs with
  | [] => H
  | fs => (i, fs) :: H

def rgP (P : Program) (ty : List Nat) (ops : Array Oper) : List PStep → List (Nat × List Fact) → (Exit → St → World → Prop) → St → World → Prop
  | [], _, Q, s, w => Q .normal s w
  | .take i :: r, H, Q, s, w =>
    match ops.toList[i]? with
    | none => False
    | some o => gd ops o s (fun s => opR P ty o s w fun v fs => rgP P ty ops r (addH i fs H) Q (s.upd o.dst v) w) (fun s => rgP P ty ops r H Q (s.upd o.dst undef) w)
  | .eff i :: r, H, Q, s, w =>
    match ops.toList[i]? with
    | none => False
    | some o => gd ops o s
        (fun s => opT P ty o s w (fun v w' => holdK ((H.filter fun p => !wf ops i p.1).flatMap (·.2)) w' (rgP P ty ops r (H.filter fun p => !wf ops i p.1) Q (s.upd o.dst v) w')) (fun _ _ => False))
        (fun s => rgP P ty ops r (H.filter fun p => !wf ops i p.1) Q (s.upd o.dst undef) w)

/-- Does a plan fit? -/
def chkP (ops : Array Oper) : List PStep → Array Bool → Bool
  | [], L => (Region.ready .any ops L).isEmpty
  | .take i :: r, L => (Region.ready .any ops L).contains i && Region.free .any ops L i && chkP ops r (L.setIfInBounds i true)
  | .eff i :: r, L => (match Region.ready .any ops L with | [j] => Nat.beq j i | _ => false) && chkP ops r (L.setIfInBounds i true)

theorem rgP_sound {P : Program} {ty : List Nat} {ops : Array Oper} {N : Nat} {Q : Exit → St → World → Prop} (hsel : Region.noSelect ops = true) (hd : ∀ o ∈ ops.toList, ∀ d, o.dst = some d → d < N) :
    ∀ (pl : List PStep) (L : Array Bool) (H : List (Nat × List Fact)) (s : St) (w : World), chkP ops pl L = true → (∀ p ∈ H, hold p.2 w) → rgP P ty ops pl H Q s w →
      ∀ s₀, agree (ops.toList.flatMap wrOp) s₀ s → s.d = s₀.d → ∀ a, Fits N a s →
      wpG P ops (NoPanic (Lift N fun e s' w' => agree (ops.toList.flatMap wrOp) s₀ s' ∧ s'.d = s₀.d ∧ Q e s' w')) pl.length L H a w
  | [], L, H, s, w, hc, hH, h, s₀, hs, hsd, a, hf => ⟨by simpa [chkP] using hc, s, hf, hs, hsd, h⟩
  | .take i :: r, L, H, s, w, hc, hH, h, s₀, hs, hsd, a, hf => by
    obtain ⟨hc1, hc2⟩ := Bool.and_eq_true_iff.1 hc
    obtain ⟨hc1, hc3⟩ := Bool.and_eq_true_iff.1 hc1
    unfold rgP at h
    split at h
    · exact h.elim
    · rename_i o ho
      have ho' : ops[i]? = some o := by rw [idxOf_list]; exact ho
      have hmem : o ∈ ops.toList := List.mem_of_getElem? ho
      have hdo := hd o hmem
      have hag : ∀ v, agree (ops.toList.flatMap wrOp) s (s.upd o.dst v) := fun v => agree.upd fun d hdd => List.mem_flatMap.2 ⟨o, hmem, by simp [wrOp, hdd]⟩
      have hready : i ∈ Region.ready .any ops L := by simpa using hc1
      rcases gd_elim h hf with ⟨hw, h⟩ | ⟨hw, h⟩
      · obtain ⟨v, fs, hF, h1, h2⟩ := opR_sound h
        have ih := rgP_sound hsel hd r (L.setIfInBounds i true) (addH i fs H) (s.upd o.dst v) w hc2 (by
          intro p hp
          cases fs with
          | nil => exact hH p hp
          | cons f fs =>
            rcases List.mem_cons.1 hp with rfl | hp
            · exact h1
            · exact hH p hp) hF s₀ (hs.trans (hag v)) ((upd_d _ _ _).trans hsd) _ (hf.put hdo)
        refine wpG_first (fs := fs) (v := v) ho' (Region.noSelect_spec hsel) (fun c a w h => h) r.length L H a w (Region.free_spec ho' hc3) hready ?_ h1 hH ?_
        · exact .inl ⟨hw, fun w' hw' => by rw [hf.eval]; exact h2 w' hw'⟩
        · cases fs with
          | nil =>
            exact wpG_nil ih
          | cons f fs => exact ih
      · have ih := rgP_sound hsel hd r (L.setIfInBounds i true) H (s.upd o.dst undef) w hc2 hH h s₀ (hs.trans (hag undef)) ((upd_d _ _ _).trans hsd) _ (hf.put hdo)
        exact wpG_first (fs := []) (v := undef) ho' (Region.noSelect_spec hsel) (fun c a w h => h) r.length L H a w (Region.free_spec ho' hc3) hready (.inr ⟨hw, rfl⟩) (hold_nil w) hH (wpG_nil ih)
  | .eff i :: r, L, H, s, w, hc, hH, h, s₀, hs, hsd, a, hf => by
    obtain ⟨hc1, hc2⟩ := Bool.and_eq_true_iff.1 hc
    unfold rgP at h
    split at h
    · exact h.elim
    · rename_i o ho
      have ho' : ops[i]? = some o := by rw [idxOf_list]; exact ho
      have hmem : o ∈ ops.toList := List.mem_of_getElem? ho
      have hdo := hd o hmem
      have hag : ∀ v, agree (ops.toList.flatMap wrOp) s (s.upd o.dst v) := fun v => agree.upd fun d hdd => List.mem_flatMap.2 ⟨o, hmem, by simp [wrOp, hdd]⟩
      have hone : Region.ready .any ops L = [i] := by
        split at hc1
        · rename_i j hj
          have := Nat.eq_of_beq_eq_true hc1
          rw [hj, this]
        · cases hc1
      refine ⟨fun h0 => (by rw [h0] at hone; cases hone), fun j hj => ?_⟩
      rw [hone] at hj
      obtain rfl := List.mem_singleton.1 hj
      unfold wpOp
      simp only [ho']
      rcases gd_elim h hf with ⟨hw, h⟩ | ⟨hw, h⟩
      · rw [if_pos hw]
        left
        have hr := opT_sound h
        unfold Oper.wp
        rw [hf.eval]
        refine Res.upon (fun v w' hk => ?_) (fun c w' hq => hq.elim) hr
        obtain ⟨h1, h2⟩ := holdK_elim hk
        have hH' : ∀ p ∈ H.filter (fun p => !wf ops j p.1), hold p.2 w' := fun p hp f hfm => h1 f (List.mem_flatMap.2 ⟨p, hp, hfm⟩)
        exact ⟨hH', rgP_sound hsel hd r _ _ _ _ hc2 hH' h2 s₀ (hs.trans (hag v)) ((upd_d _ _ _).trans hsd) _ (hf.put hdo)⟩
      · rw [hw, if_neg (by simp)]
        have hH' : ∀ p ∈ H.filter (fun p => !wf ops j p.1), hold p.2 w := fun p hp => hH p (List.mem_filter.1 hp).1
        exact ⟨hH', rgP_sound hsel hd r _ _ _ _ hc2 hH' h s₀ (hs.trans (hag undef)) ((upd_d _ _ _).trans hsd) _ (hf.put hdo)⟩
where
  wpG_nil {P : Program} {ops : Array Oper} {Q : Exit → Act → World → Prop} {i : Nat} : ∀ {n : Nat} {L : Array Bool} {H : List (Nat × List Fact)} {a : Act} {w : World},
      wpG P ops Q n L H a w → wpG P ops Q n L ((i, []) :: H) a w
    | 0, _, _, _, _, h => h
    | n + 1, _, H, _, _, h => ⟨h.1, fun j hj => wpOp_mono (fun a' w' h' => by
        have hc : ((i, []) :: H).filter (fun p => !wf ops j p.1) = (i, []) :: H.filter (fun p => !wf ops j p.1) ∨ ((i, []) :: H).filter (fun p => !wf ops j p.1) = H.filter (fun p => !wf ops j p.1) := by
          rw [List.filter_cons]
          split
          · exact .inl rfl
          · exact .inr rfl
        rcases hc with hc | hc <;> rw [hc]
        · refine ⟨fun p hp => ?_, wpG_nil h'.2⟩
          rcases List.mem_cons.1 hp with rfl | hp
          · exact hold_nil w'
          · exact h'.1 p hp
        · exact h') (h.2 j hj)⟩

/-! ### a plan that forks: several effects are ready at once -/

inductive Plan where
  | done
  | take (i : Nat) (r : Plan)
  | eff (i : Nat) (r : Plan)
  | fork (i : Nat) (r : Plan) (m : Plan)

def Plan.len : Plan → Nat
  | .done => 0
  | .take _ r => r.len + 1
  | .eff _ r => r.len + 1
  | .fork _ r _ => r.len + 1

def Plan.isEff : Plan → Bool
  | .eff _ _ => true
  | .fork _ _ _ => true
  | _ => false

/-- One effect. -/
def effX (P : Program) (ty : List Nat) (ops : Array Oper) (i : Nat) (H : List (Nat × List Fact)) (K : St → World → Prop) (s : St) (w : World) : Prop :=
  match ops.toList[i]? with
  | none => False
  | some o => gd ops o s
      (fun s => opT P ty o s w (fun v w' => holdK ((H.filter fun p => !wf ops i p.1).flatMap (·.2)) w' (K (s.upd o.dst v) w')) (fun _ _ => False))
      (fun s => K (s.upd o.dst undef) w)

def rgT (P : Program) (ty : List Nat) (ops : Array Oper) : Plan → List (Nat × List Fact) → (Exit → St → World → Prop) → St → World → Prop
  | .done, _, Q, s, w => Q .normal s w
  | .take i r, H, Q, s, w =>
    match ops.toList[i]? with
    | none => False
    | some o => gd ops o s (fun s => opR P ty o s w fun v fs => rgT P ty ops r (addH i fs H) Q (s.upd o.dst v) w) (fun s => rgT P ty ops r H Q (s.upd o.dst undef) w)
  | .eff i r, H, Q, s, w => effX P ty ops i H (fun s w => rgT P ty ops r (H.filter fun p => !wf ops i p.1) Q s w) s w
  | .fork i r m, H, Q, s, w => effX P ty ops i H (fun s w => rgT P ty ops r (H.filter fun p => !wf ops i p.1) Q s w) s w ∧ rgT P ty ops m H Q s w

/-- Does a plan fit? The ready ones that are still to be served are R. -/
def chkT (ops : Array Oper) : Plan → Array Bool → List Nat → Bool
  | .done, _, R => R.isEmpty
  | .take i r, L, _ => (Region.ready .any ops L).contains i && Region.free .any ops L i && chkT ops r (L.setIfInBounds i true) (Region.ready .any ops (L.setIfInBounds i true))
  | .eff i r, L, R => (match R with | [j] => Nat.beq j i | _ => false) && chkT ops r (L.setIfInBounds i true) (Region.ready .any ops (L.setIfInBounds i true))
  | .fork i r m, L, R => m.isEff && Nat.beq m.len (r.len + 1) && R.contains i && chkT ops r (L.setIfInBounds i true) (Region.ready .any ops (L.setIfInBounds i true)) && chkT ops m L (R.filter fun j => !Nat.beq j i)

section
variable {P : Program} {ty : List Nat} {ops : Array Oper} {N : Nat}

theorem effX_sound {i : Nat} {H : List (Nat × List Fact)} {K : St → World → Prop} {s s₀ : St} {w : World} {a : Act} {Q : Exit → Act → World → Prop} {n : Nat} {L : Array Bool}
    (h : effX P ty ops i H K s w) (hd : ∀ o ∈ ops.toList, ∀ d, o.dst = some d → d < N) (hH : ∀ p ∈ H, hold p.2 w) (hs : agree (ops.toList.flatMap wrOp) s₀ s) (hsd : s.d = s₀.d) (hf : Fits N a s)
    (hk : ∀ (s' : St) (w' : World) (a' : Act), K s' w' → (∀ p ∈ H.filter (fun p => !wf ops i p.1), hold p.2 w') → agree (ops.toList.flatMap wrOp) s₀ s' → s'.d = s₀.d → Fits N a' s' → wpG P ops Q n L (H.filter fun p => !wf ops i p.1) a' w') :
    wpOp P ops Q i (fun a' w' => (∀ p ∈ H.filter (fun p => !wf ops i p.1), hold p.2 w') ∧ wpG P ops Q n L (H.filter fun p => !wf ops i p.1) a' w') a w := by
  unfold effX at h
  split at h
  · exact h.elim
  · rename_i o ho
    have ho' : ops[i]? = some o := by rw [idxOf_list]; exact ho
    have hmem : o ∈ ops.toList := List.mem_of_getElem? ho
    have hdo := hd o hmem
    have hag : ∀ v, agree (ops.toList.flatMap wrOp) s (s.upd o.dst v) := fun v => agree.upd fun d hdd => List.mem_flatMap.2 ⟨o, hmem, by simp [wrOp, hdd]⟩
    unfold wpOp
    simp only [ho']
    rcases gd_elim h hf with ⟨hw, h⟩ | ⟨hw, h⟩
    · rw [if_pos hw]
      left
      have hr := opT_sound h
      unfold Oper.wp
      rw [hf.eval]
      refine Res.upon (fun v w' hkk => ?_) (fun c w' hq => hq.elim) hr
      obtain ⟨h1, h2⟩ := holdK_elim hkk
      have hH' : ∀ p ∈ H.filter (fun p => !wf ops i p.1), hold p.2 w' := fun p hp f hfm => h1 f (List.mem_flatMap.2 ⟨p, hp, hfm⟩)
      exact ⟨hH', hk _ _ _ h2 hH' (hs.trans (hag v)) ((upd_d _ _ _).trans hsd) (hf.put hdo)⟩
    · rw [hw, if_neg (by simp)]
      have hH' : ∀ p ∈ H.filter (fun p => !wf ops i p.1), hold p.2 w := fun p hp => hH p (List.mem_filter.1 hp).1
      exact ⟨hH', hk _ _ _ h hH' (hs.trans (hag undef)) ((upd_d _ _ _).trans hsd) (hf.put hdo)⟩

theorem rgT_sound {Q : Exit → St → World → Prop} (hsel : Region.noSelect ops = true) (hd : ∀ o ∈ ops.toList, ∀ d, o.dst = some d → d < N) :
    ∀ (pl : Plan) (L : Array Bool) (R : List Nat) (H : List (Nat × List Fact)) (s : St) (w : World), chkT ops pl L R = true → (∀ p ∈ H, hold p.2 w) → rgT P ty ops pl H Q s w →
      ∀ s₀, agree (ops.toList.flatMap wrOp) s₀ s → s.d = s₀.d → ∀ a, Fits N a s →
      (Region.ready .any ops L = R → wpG P ops (NoPanic (Lift N fun e s' w' => agree (ops.toList.flatMap wrOp) s₀ s' ∧ s'.d = s₀.d ∧ Q e s' w')) pl.len L H a w) ∧
      (pl.isEff = true → ∀ j ∈ R, wpOp P ops (NoPanic (Lift N fun e s' w' => agree (ops.toList.flatMap wrOp) s₀ s' ∧ s'.d = s₀.d ∧ Q e s' w')) j
        (fun a' w' => (∀ p ∈ H.filter (fun p => !wf ops j p.1), hold p.2 w') ∧ wpG P ops (NoPanic (Lift N fun e s' w' => agree (ops.toList.flatMap wrOp) s₀ s' ∧ s'.d = s₀.d ∧ Q e s' w')) (pl.len - 1) (L.setIfInBounds j true) (H.filter fun p => !wf ops j p.1) a' w') a w)
  | .done, L, R, H, s, w, hc, hH, h, s₀, hs, hsd, a, hf => by
    refine ⟨fun hR => ⟨?_, s, hf, hs, hsd, h⟩, fun he => by simp [Plan.isEff] at he⟩
    rw [hR]; simpa [chkT] using hc
  | .take i r, L, R, H, s, w, hc, hH, h, s₀, hs, hsd, a, hf => by
    refine ⟨fun _ => ?_, fun he => by simp [Plan.isEff] at he⟩
    obtain ⟨hc1, hc2⟩ := Bool.and_eq_true_iff.1 hc
    obtain ⟨hc1, hc3⟩ := Bool.and_eq_true_iff.1 hc1
    unfold rgT at h
    split at h
    · exact h.elim
    · rename_i o ho
      have ho' : ops[i]? = some o := by rw [idxOf_list]; exact ho
      have hmem : o ∈ ops.toList := List.mem_of_getElem? ho
      have hdo := hd o hmem
      have hag : ∀ v, agree (ops.toList.flatMap wrOp) s (s.upd o.dst v) := fun v => agree.upd fun d hdd => List.mem_flatMap.2 ⟨o, hmem, by simp [wrOp, hdd]⟩
      have hready : i ∈ Region.ready .any ops L := by simpa using hc1
      rcases gd_elim h hf with ⟨hw, h⟩ | ⟨hw, h⟩
      · obtain ⟨v, fs, hF, h1, h2⟩ := opR_sound h
        have ih := (rgT_sound hsel hd r (L.setIfInBounds i true) _ (addH i fs H) (s.upd o.dst v) w hc2 (by
          intro p hp
          cases fs with
          | nil => exact hH p hp
          | cons f fs =>
            rcases List.mem_cons.1 hp with rfl | hp
            · exact h1
            · exact hH p hp) hF s₀ (hs.trans (hag v)) ((upd_d _ _ _).trans hsd) _ (hf.put hdo)).1 rfl
        refine wpG_first (fs := fs) (v := v) ho' (Region.noSelect_spec hsel) (fun c a w h => h) r.len L H a w (Region.free_spec ho' hc3) hready ?_ h1 hH ?_
        · exact .inl ⟨hw, fun w' hw' => by rw [hf.eval]; exact h2 w' hw'⟩
        · cases fs with
          | nil => exact rgP_sound.wpG_nil ih
          | cons f fs => exact ih
      · have ih := (rgT_sound hsel hd r (L.setIfInBounds i true) _ H (s.upd o.dst undef) w hc2 hH h s₀ (hs.trans (hag undef)) ((upd_d _ _ _).trans hsd) _ (hf.put hdo)).1 rfl
        exact wpG_first (fs := []) (v := undef) ho' (Region.noSelect_spec hsel) (fun c a w h => h) r.len L H a w (Region.free_spec ho' hc3) hready (.inr ⟨hw, rfl⟩) (hold_nil w) hH (rgP_sound.wpG_nil ih)
  | .eff i r, L, R, H, s, w, hc, hH, h, s₀, hs, hsd, a, hf => by
    obtain ⟨hc1, hc2⟩ := Bool.and_eq_true_iff.1 hc
    have hone : R = [i] := by
      split at hc1
      · rename_i j
        have := Nat.eq_of_beq_eq_true hc1
        rw [this]
      · cases hc1
    subst hone
    have hB : ∀ j ∈ [i], wpOp P ops (NoPanic (Lift N fun e s' w' => agree (ops.toList.flatMap wrOp) s₀ s' ∧ s'.d = s₀.d ∧ Q e s' w')) j
        (fun a' w' => (∀ p ∈ H.filter (fun p => !wf ops j p.1), hold p.2 w') ∧ wpG P ops (NoPanic (Lift N fun e s' w' => agree (ops.toList.flatMap wrOp) s₀ s' ∧ s'.d = s₀.d ∧ Q e s' w')) r.len (L.setIfInBounds j true) (H.filter fun p => !wf ops j p.1) a' w') a w := by
      intro j hj
      obtain rfl := List.mem_singleton.1 hj
      unfold rgT at h
      exact effX_sound h hd hH hs hsd hf fun s' w' a' hk hH' hs' hsd' hf' => (rgT_sound hsel hd r _ _ _ _ _ hc2 hH' hk s₀ hs' hsd' _ hf').1 rfl
    refine ⟨fun hR => ⟨fun h0 => ?_, fun j hj => ?_⟩, fun _ => hB⟩
    · rw [hR] at h0; cases h0
    · rw [hR] at hj; exact hB j hj
  | .fork i r m, L, R, H, s, w, hc, hH, h, s₀, hs, hsd, a, hf => by
    simp only [chkT, Bool.and_eq_true] at hc
    obtain ⟨⟨⟨⟨hm1, hm2⟩, hm3⟩, hc2⟩, hc4⟩ := hc
    have hlen := Nat.eq_of_beq_eq_true hm2
    unfold rgT at h
    obtain ⟨h1, h2⟩ := h
    have hB : ∀ j ∈ R, wpOp P ops (NoPanic (Lift N fun e s' w' => agree (ops.toList.flatMap wrOp) s₀ s' ∧ s'.d = s₀.d ∧ Q e s' w')) j
        (fun a' w' => (∀ p ∈ H.filter (fun p => !wf ops j p.1), hold p.2 w') ∧ wpG P ops (NoPanic (Lift N fun e s' w' => agree (ops.toList.flatMap wrOp) s₀ s' ∧ s'.d = s₀.d ∧ Q e s' w')) r.len (L.setIfInBounds j true) (H.filter fun p => !wf ops j p.1) a' w') a w := by
      intro j hj
      by_cases e : j = i
      · subst e
        exact effX_sound h1 hd hH hs hsd hf fun s' w' a' hk hH' hs' hsd' hf' => (rgT_sound hsel hd r _ _ _ _ _ hc2 hH' hk s₀ hs' hsd' _ hf').1 rfl
      · have := (rgT_sound hsel hd m L _ H s w hc4 hH h2 s₀ hs hsd a hf).2 hm1 j (List.mem_filter.2 ⟨hj, by
          cases hb : Nat.beq j i with
          | false => rfl
          | true => exact absurd (Nat.eq_of_beq_eq_true hb) e⟩)
        rw [hlen] at this
        exact this
    refine ⟨fun hR => ⟨fun h0 => ?_, fun j hj => ?_⟩, fun _ => hB⟩
    · rw [hR] at h0; subst h0; simp at hm3
    · rw [hR] at hj; exact hB j hj
end
end Go.SR
