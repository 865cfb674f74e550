/- The layer SR, sixth part: code, functions. -/
import Derived.Test.YtmmcihbcceahkaaA5
namespace Go.SR
open Go

def KT : Knd → Type
  | .int _ => Int
  | .bool => Bool
  | .ptr => Option Addr
  | .slice => Option Addr × Nat × Nat
  | .map => Option Nat
  | .str => ByteArray
  | .val => Value

def toV : (k : Knd) → KT k → Value
  | .int k, n => .int k n
  | .bool, b => .bool b
  | .ptr, p => .pointer p
  | .slice, x => .slice x.1 x.2.1 x.2.2
  | .map, r => .map r
  | .str, s => .string s
  | .val, v => v

def fromV : (k : Knd) → Value → (KT k → Prop) → Prop
  | .int k, v, F => (match v with | .int k' n => if k' = k then F n else False | _ => False)
  | .bool, v, F => (match v with | .bool b => F b | _ => False)
  | .ptr, v, F => (match v with | .pointer p => F p | _ => False)
  | .slice, v, F => (match v with | .slice p l c => F (p, l, c) | _ => False)
  | .map, v, F => (match v with | .map r => F r | _ => False)
  | .str, v, F => (match v with | .string s => F s | _ => False)
  | .val, v, F => F v

theorem fromV_elim {k : Knd} {v : Value} {F : KT k → Prop} (h : fromV k v F) : ∃ x, v = toV k x ∧ F x := by
  cases k <;> simp only [fromV] at h
  case int k =>
    split at h
    · rename_i k' n
      split at h
      · rename_i hk; subst hk; exact ⟨n, rfl, h⟩
      · exact h.elim
    · exact h.elim
  case val => exact ⟨v, rfl, h⟩
  all_goals
    split at h
    · exact ⟨_, rfl, h⟩
    · exact h.elim

def Tup : List (Nat × Knd) → Type
  | [] => Unit
  | [(_, k)] => KT k
  | (_, k) :: b :: l => KT k × Tup (b :: l)

def setL : (l : List (Nat × Knd)) → Tup l → St → St
  | [], _, s => s
  | [(t, k)], x, s => s.upd (some t) (toV k x)
  | (t, k) :: b :: l, x, s => setL (b :: l) x.2 (s.upd (some t) (toV k x.1))

def getL : (l : List (Nat × Knd)) → St → (Tup l → Prop) → Prop
  | [], _, F => F ()
  | [(t, k)], s, F => fromV k (s.e t) F
  | (t, k) :: b :: l, s, F => fromV k (s.e t) fun x => getL (b :: l) s fun y => F (x, y)

theorem getL_elim : ∀ (l : List (Nat × Knd)) {s : St} {F : Tup l → Prop}, getL l s F → ∃ x, setL l x s = s ∧ F x
  | [], s, F, h => ⟨(), rfl, h⟩
  | [(t, k)], s, F, h => by
    obtain ⟨x, hx, h⟩ := fromV_elim h
    exact ⟨x, upd_self hx, h⟩
  | (t, k) :: b :: l, s, F, h => by
    obtain ⟨x, hx, h⟩ := fromV_elim h
    obtain ⟨y, hy, h⟩ := getL_elim (b :: l) h
    exact ⟨(x, y), by simp only [setL]; rw [upd_self hx]; exact hy, h⟩

theorem memN_iff {t : Nat} : ∀ {l : List Nat}, memN t l = true ↔ t ∈ l
  | [] => by simp [memN]
  | x :: l => by simp [memN, memN_iff (l := l)]

def mix (W : List Nat) (j : Env) (s : St) : St := ⟨fun t => bif memN t W then j t else s.e t, s.d⟩

theorem mix_eq {W : List Nat} {s s' : St} (h : agree W s s') (hd : s'.d = s.d) : mix W s'.e s = s' := by
  cases s' with
  | mk e d =>
    simp only at hd
    subst hd
    unfold mix
    congr 1
    funext t
    cases hb : memN t W with
    | true => rfl
    | false =>
      have : t ∉ W := fun hm => by rw [memN_iff.2 hm] at hb; cases hb
      exact (h t this).symm

inductive Ann where
  | leaf
  | plan (pl : List PStep)
  | tree (pl : Plan)
  | seq (a b : Ann)
  | join (a : Ann) (W : List Nat) (live : List (Nat × Knd)) (b : Ann)
  | cond (a b : Ann)
  | block (a : Ann)
  | loop (a : Ann) (W : List Nat) (live : List (Nat × Knd))

def thenQ (K : St → World → Prop) (Q : Exit → St → World → Prop) : Exit → St → World → Prop
  | .normal, s, w => K s w
  | e, s, w => Q e s w

def inBlk (id : Nat) (Q : Exit → St → World → Prop) : Exit → St → World → Prop
  | .exit i, s, w => bif Nat.beq i id then Q .normal s w else Q (.exit i) s w
  | e, s, w => Q e s w

def cdA (P : Program) (ty : List Nat) : Ann → Code → (Exit → St → World → Prop) → St → World → Prop
  | .leaf, c, Q, s, w => (match c with
    | .skip => Q .normal s w
    | .exit id => Q (.exit id) s w
    | .ret => Q .ret s w
    | .region _ ops false => rg P ty ops ops.toList Q s w
    | _ => False)
  | .plan pl, c, Q, s, w => (match c with
    | .region _ ops true => dr w fun w => rgP P ty ops pl [] Q s w
    | _ => False)
  | .tree pl, c, Q, s, w => (match c with
    | .region _ ops true => dr w fun w => rgT P ty ops pl [] Q s w
    | _ => False)
  | .seq a b, c, Q, s, w => (match c with
    | .seq x y => cdA P ty a x (thenQ (fun s w => cdA P ty b y Q s w) Q) s w
    | _ => False)
  | .join a W live b, c, Q, s, w => (match c with
    | .seq x y => jn (fun j v w => cdA P ty b y Q (setL live v (mix W j s)) w) (fun J => cdA P ty a x (thenQ (fun s w => getL live s fun v => J v w) Q) s w)
    | _ => False)
  | .cond a b, c, Q, s, w => (match c with
    | .cond t x y => (match s.ev t with
      | .bool t => br t (cdA P ty a x Q s w) (cdA P ty b y Q s w)
      | _ => False)
    | _ => False)
  | .block a, c, Q, s, w => (match c with
    | .block id x => cdA P ty a x (inBlk id Q) s w
    | _ => False)
  | .loop a W live, c, Q, s, w => (match c with
    | .loop x => getL live s fun v => lp (fun j nx v w => cdA P ty a x (thenQ (fun s w => getL live s fun v => nx v w) Q) (setL live v (mix W j s)) w) v w
    | _ => False)

/-! ### what is checked once a function -/

def wrC : Code → List Nat
  | .region _ ops _ => ops.toList.flatMap wrOp
  | .seq x y => wrC x ++ wrC y
  | .cond _ x y => wrC x ++ wrC y
  | .block _ x => wrC x
  | .loop x => wrC x
  | _ => []

def hasD : Code → Bool
  | .region _ ops _ => ops.toList.any isDefer
  | .seq x y => hasD x || hasD y
  | .cond _ x y => hasD x || hasD y
  | .block _ x => hasD x
  | .loop x => hasD x
  | _ => false

def okA (N : Nat) : Ann → Code → Bool
  | .leaf, c => (match c with
    | .region _ ops false => (ops.toList.flatMap wrOp).all fun d => Nat.blt d N
    | .skip => true
    | .exit _ => true
    | .ret => true
    | _ => false)
  | .plan pl, c => (match c with
    | .region _ ops true => ((ops.toList.flatMap wrOp).all fun d => Nat.blt d N) && Region.noSelect ops && Nat.beq pl.length ops.size && chkP ops pl (Array.replicate ops.size false) && !(ops.toList.any isDefer)
    | _ => false)
  | .tree pl, c => (match c with
    | .region _ ops true => ((ops.toList.flatMap wrOp).all fun d => Nat.blt d N) && Region.noSelect ops && Nat.beq pl.len ops.size && chkT ops pl (Array.replicate ops.size false) (Region.ready .any ops (Array.replicate ops.size false)) && !(ops.toList.any isDefer)
    | _ => false)
  | .seq a b, c => (match c with | .seq x y => okA N a x && okA N b y | _ => false)
  | .join a W _ b, c => (match c with | .seq x y => okA N a x && okA N b y && ((wrC x).all fun t => memN t W) && !hasD x | _ => false)
  | .cond a b, c => (match c with | .cond _ x y => okA N a x && okA N b y | _ => false)
  | .block a, c => (match c with | .block _ x => okA N a x | _ => false)
  | .loop a W _, c => (match c with | .loop x => okA N a x && ((wrC x).all fun t => memN t W) && !hasD x | _ => false)

/-- What a goal over states means over code. -/
def Sw (P : Program) (N : Nat) (c : Code) (Q : Exit → St → World → Prop) (s : St) (w : World) : Prop := ∀ a, Fits N a s → c.wp P (Lift N Q) a w

/-- The goal, with what stays. -/
def Kp (c : Code) (s : St) (Q : Exit → St → World → Prop) : Exit → St → World → Prop := fun e s' w' => agree (wrC c) s s' ∧ (hasD c = false → s'.d = s.d) ∧ Q e s' w'

theorem wp_loop_ix {P : Program} {c : Code} {Q : Exit → Act → World → Prop} {a : Act} {w : World} (I : Nat → Act → World → Prop) (h0 : ∃ n, I n a w)
    (round : ∀ n a w, I n a w → c.wp P (Exit.then (fun a' w' => ∃ m, m < n ∧ I m a' w') Q) a w) : (Code.loop c).wp P Q a w := by
  classical
  have ex : ∀ a w, (∃ n, I n a w) → ∃ n, I n a w ∧ ∀ m, I m a w → n ≤ m := by
    intro a w h
    obtain ⟨n, hn⟩ := h
    induction n using Nat.strongRecOn with
    | _ n ih =>
      by_cases hl : ∃ m, m < n ∧ I m a w
      · obtain ⟨m, hm, hI⟩ := hl; exact ih m hm hI
      · refine ⟨n, hn, fun m hm => ?_⟩
        rcases Nat.lt_or_ge m n with h | h
        · exact (hl ⟨m, h, hm⟩).elim
        · exact h
  refine wp_loop (fun a w => ∃ n, I n a w) (fun a w => if h : ∃ n, I n a w then (ex a w h).choose else 0) h0 fun a w h => ?_
  have hs := (ex a w h).choose_spec
  refine wp_mono (round _ a w hs.1) fun e a' w' hq => ?_
  cases e with
  | normal =>
    obtain ⟨m, hm, hI⟩ := hq
    have h' : ∃ n, I n a' w' := ⟨m, hI⟩
    refine ⟨h', ?_⟩
    simp only [dif_pos h, dif_pos h']
    exact Nat.lt_of_le_of_lt ((ex a' w' h').choose_spec.2 m hI) hm
  | _ => exact hq

theorem Sw.mono {P : Program} {N : Nat} {c : Code} {Q Q' : Exit → St → World → Prop} {s : St} {w : World} (h : Sw P N c Q s w) (hq : ∀ e s' w', Q e s' w' → Q' e s' w') : Sw P N c Q' s w :=
  fun a hf => wp_mono (h a hf) fun e _ w' ⟨s', hf', hh⟩ => ⟨s', hf', hq e s' w' hh⟩


theorem plain_sound {P : Program} {ty : List Nat} {N : Nat} {id : Nat} {ops : Array Oper} {Q : Exit → St → World → Prop} {s : St} {w : World}
    (hok : ((ops.toList.flatMap wrOp).all fun d => Nat.blt d N) = true) (h : rg P ty ops ops.toList Q s w) :
    Sw P N (.region id ops false) (Kp (.region id ops false) s Q) s w := by
  intro a hf
  have hd : ∀ o ∈ ops.toList, ∀ d, o.dst = some d → d < N := fun o ho d hdd => by
    have := List.all_eq_true.1 hok d (List.mem_flatMap.2 ⟨o, ho, by simp [wrOp, hdd]⟩)
    simpa using this
  refine wp_region_list (rg_sound.wpList_mono' ?_ (rg_sound ops.toList s w h hd a hf))
  rintro e a' w' ⟨s', hf', h1, h2, h3⟩
  exact ⟨s', hf', h1, fun hn => h2 (by simpa [hasD] using hn), h3⟩

theorem draw_sound {P : Program} {ty : List Nat} {N : Nat} {id : Nat} {ops : Array Oper} {pl : List PStep} {Q : Exit → St → World → Prop} {s : St} {w : World} (hm : P.follows .mixedOrders = true)
    (hok : okA N (.plan pl) (.region id ops true) = true) (h : rgP P ty ops pl [] Q s { w with drawn := w.drawn + 1 }) :
    Sw P N (.region id ops true) (Kp (.region id ops true) s Q) s w := by
  intro a hf
  simp only [okA, Bool.and_eq_true] at hok
  obtain ⟨⟨⟨⟨h1, h2⟩, h3⟩, h4⟩, h5⟩ := hok
  have hd : ∀ o ∈ ops.toList, ∀ d, o.dst = some d → d < N := fun o ho d hdd => by
    have := List.all_eq_true.1 h1 d (List.mem_flatMap.2 ⟨o, ho, by simp [wrOp, hdd]⟩)
    simpa using this
  have hl := Nat.eq_of_beq_eq_true h3
  have hg := wpG_any _ _ _ _ _ (rgP_sound h2 hd pl _ [] s _ h4 (by simp) h s (agree.refl _ _) rfl a hf)
  rw [hl] at hg
  refine wp_mono (wp_region_any (id := id) hm hg) fun e a' w' hq => ?_
  obtain ⟨s', hf', h1, h2, h3⟩ := NoPanic.imp e a' w' hq
  exact ⟨s', hf', h1, fun _ => h2, h3⟩

theorem tree_sound {P : Program} {ty : List Nat} {N : Nat} {id : Nat} {ops : Array Oper} {pl : Plan} {Q : Exit → St → World → Prop} {s : St} {w : World} (hm : P.follows .mixedOrders = true)
    (hok : okA N (.tree pl) (.region id ops true) = true) (h : rgT P ty ops pl [] Q s { w with drawn := w.drawn + 1 }) :
    Sw P N (.region id ops true) (Kp (.region id ops true) s Q) s w := by
  intro a hf
  simp only [okA, Bool.and_eq_true] at hok
  obtain ⟨⟨⟨⟨h1, h2⟩, h3⟩, h4⟩, h5⟩ := hok
  have hd : ∀ o ∈ ops.toList, ∀ d, o.dst = some d → d < N := fun o ho d hdd => by
    have := List.all_eq_true.1 h1 d (List.mem_flatMap.2 ⟨o, ho, by simp [wrOp, hdd]⟩)
    simpa using this
  have hl := Nat.eq_of_beq_eq_true h3
  have hg := wpG_any _ _ _ _ _ ((rgT_sound h2 hd pl _ _ [] s _ h4 (by simp) h s (agree.refl _ _) rfl a hf).1 rfl)
  rw [hl] at hg
  refine wp_mono (wp_region_any (id := id) hm hg) fun e a' w' hq => ?_
  obtain ⟨s', hf', h1, h2, h3⟩ := NoPanic.imp e a' w' hq
  exact ⟨s', hf', h1, fun _ => h2, h3⟩

theorem mix_fix {W : List Nat} {live : List (Nat × Knd)} {s s' : St} {v : Tup live} (hag : agree W s s') (hd : s'.d = s.d) (hv : setL live v s' = s') : setL live v (mix W s'.e s) = s' := by
  rw [mix_eq hag hd]; exact hv

set_option maxHeartbeats 400000 in
theorem cdA_sound {P : Program} {ty : List Nat} {N : Nat} (hm : P.follows .mixedOrders = true) : ∀ (ann : Ann) (c : Code) (Q : Exit → St → World → Prop) (s : St) (w : World),
    okA N ann c = true → cdA P ty ann c Q s w → Sw P N c (Kp c s Q) s w
  | .leaf, c, Q, s, w, hok, h => by
    unfold cdA at h
    split at h
    · exact fun a hf => wp_skip ⟨s, hf, agree.refl _ _, fun _ => rfl, h⟩
    · exact fun a hf => wp_exit ⟨s, hf, agree.refl _ _, fun _ => rfl, h⟩
    · exact fun a hf => wp_ret ⟨s, hf, agree.refl _ _, fun _ => rfl, h⟩
    · exact plain_sound (by simpa [okA] using hok) h
    · exact h.elim
  | .plan pl, c, Q, s, w, hok, h => by
    unfold cdA at h
    split at h
    · exact draw_sound hm hok h
    · exact h.elim
  | .tree pl, c, Q, s, w, hok, h => by
    unfold cdA at h
    split at h
    · exact tree_sound hm hok h
    · exact h.elim
  | .seq a b, c, Q, s, w, hok, h => by
    unfold cdA at h
    split at h
    · rename_i x y
      obtain ⟨hx, hy⟩ := Bool.and_eq_true_iff.1 (by simpa [okA] using hok : (okA N a x && okA N b y) = true)
      intro f hf
      refine wp_seq (wp_mono (cdA_sound hm a x _ s w hx h f hf) ?_)
      rintro e f' w' ⟨s', hf', h1, h2, h3⟩
      have h1' : agree (wrC (.seq x y)) s s' := h1.mono fun t ht => by simp [wrC, ht]
      have hd' : hasD (.seq x y) = false → s'.d = s.d := fun hn => h2 (by simp [hasD] at hn; exact hn.1)
      cases e with
      | normal =>
        refine wp_mono (cdA_sound hm b y Q s' w' hy h3 f' hf') ?_
        rintro e f'' w'' ⟨s'', hf'', g1, g2, g3⟩
        exact ⟨s'', hf'', h1'.trans (g1.mono fun t ht => by simp [wrC, ht]), fun hn => by rw [g2 (by simp [hasD] at hn; exact hn.2), hd' hn], g3⟩
      | _ => exact ⟨s', hf', h1', hd', h3⟩
    · exact h.elim
  | .join a W live b, c, Q, s, w, hok, h => by
    unfold cdA at h
    split at h
    · rename_i x y
      simp only [okA, Bool.and_eq_true, Bool.not_eq_true'] at hok
      obtain ⟨⟨⟨hx, hy⟩, hW⟩, hD⟩ := hok
      have hW' : ∀ t, t ∈ wrC x → t ∈ W := fun t ht => memN_iff.1 (List.all_eq_true.1 hW t ht)
      obtain ⟨J, hJ, hb⟩ := h
      intro f hf
      refine wp_seq (wp_mono (cdA_sound hm a x _ s w hx hb f hf) ?_)
      rintro e f' w' ⟨s', hf', h1, h2, h3⟩
      have h1' : agree (wrC (.seq x y)) s s' := h1.mono fun t ht => by simp [wrC, ht]
      have hd' : hasD (.seq x y) = false → s'.d = s.d := fun _ => h2 hD
      cases e with
      | normal =>
        obtain ⟨v, hv, hj⟩ := getL_elim live h3
        have hk := hJ s'.e v w' hj
        dsimp only at hk
        rw [mix_fix (h1.mono hW') (h2 hD) hv] at hk
        refine wp_mono (cdA_sound hm b y Q s' w' hy hk f' hf') ?_
        rintro e f'' w'' ⟨s'', hf'', g1, g2, g3⟩
        exact ⟨s'', hf'', h1'.trans (g1.mono fun t ht => by simp [wrC, ht]), fun hn => by rw [g2 (by simp [hasD] at hn; exact hn.2), h2 hD], g3⟩
      | _ => exact ⟨s', hf', h1', hd', h3⟩
    · exact h.elim
  | .cond a b, c, Q, s, w, hok, h => by
    unfold cdA at h
    split at h
    · rename_i t x y
      obtain ⟨hx, hy⟩ := Bool.and_eq_true_iff.1 (by simpa [okA] using hok : (okA N a x && okA N b y) = true)
      split at h
      · rename_i t' ht
        intro f hf
        have hev : f.eval t = .bool t' := by rw [hf.eval]; exact ht
        cases t' with
        | true =>
          refine wp_cond_true hev (wp_mono (cdA_sound hm a x Q s w hx h f hf) ?_)
          rintro e f' w' ⟨s', hf', h1, h2, h3⟩
          exact ⟨s', hf', h1.mono fun t ht => by simp [wrC, ht], fun hn => h2 (by simp [hasD] at hn; exact hn.1), h3⟩
        | false =>
          refine wp_cond_false hev (wp_mono (cdA_sound hm b y Q s w hy h f hf) ?_)
          rintro e f' w' ⟨s', hf', h1, h2, h3⟩
          exact ⟨s', hf', h1.mono fun t ht => by simp [wrC, ht], fun hn => h2 (by simp [hasD] at hn; exact hn.2), h3⟩
      · exact h.elim
    · exact h.elim
  | .block a, c, Q, s, w, hok, h => by
    unfold cdA at h
    split at h
    · rename_i id x
      have hx : okA N a x = true := by simpa [okA] using hok
      intro f hf
      refine wp_block (wp_mono (cdA_sound hm a x _ s w hx h f hf) ?_)
      rintro e f' w' ⟨s', hf', h1, h2, h3⟩
      have h2' : hasD (.block id x) = false → s'.d = s.d := fun hn => h2 (by simpa [hasD] using hn)
      cases e with
      | exit i =>
        simp only [Exit.inBlock]
        simp only [inBlk] at h3
        cases hb : Nat.beq i id with
        | true =>
          rw [hb] at h3
          rw [if_pos (Nat.eq_of_beq_eq_true hb)]
          exact ⟨s', hf', h1, h2', h3⟩
        | false =>
          rw [hb] at h3
          have hne : ¬ i = id := fun e => by subst e; simp at hb
          rw [if_neg hne]
          exact ⟨s', hf', h1, h2', h3⟩
      | _ => exact ⟨s', hf', h1, h2', h3⟩
    · exact h.elim
  | .loop a W live, c, Q, s, w, hok, h => by
    unfold cdA at h
    split at h
    · rename_i x
      simp only [okA, Bool.and_eq_true, Bool.not_eq_true'] at hok
      obtain ⟨⟨hx, hW⟩, hD⟩ := hok
      have hW' : ∀ t, t ∈ wrC x → t ∈ W := fun t ht => memN_iff.1 (List.all_eq_true.1 hW t ht)
      obtain ⟨v, hv, I, ⟨n, hn⟩, hround⟩ := getL_elim live h
      intro f hf
      refine wp_loop_ix (fun n f w => ∃ s', Fits N f s' ∧ agree (wrC x) s s' ∧ s'.d = s.d ∧ ∃ v, setL live v s' = s' ∧ I n v w) ⟨n, s, hf, agree.refl _ _, rfl, v, hv, hn⟩ ?_
      rintro n f w ⟨s', hf', h1, h2, v, hv, hI⟩
      have hb := hround n s'.e v w hI
      dsimp only at hb
      rw [mix_fix (h1.mono hW') h2 hv] at hb
      refine wp_mono (cdA_sound hm a x _ s' w hx hb f hf') ?_
      rintro e f'' w'' ⟨s'', hf'', g1, g2, g3⟩
      have g1' := h1.trans g1
      have g2' : s''.d = s.d := (g2 hD).trans h2
      cases e with
      | normal =>
        obtain ⟨v', hv', m, hm', hI'⟩ := getL_elim live g3
        exact ⟨m, hm', s'', hf'', g1', g2', v', hv', hI'⟩
      | _ => exact ⟨s'', hf'', g1', fun _ => g2', g3⟩
    · exact h.elim

/-! ### functions -/

def resL (P : Program) : List ResultVar → St → World → (List Value → Prop) → Prop
  | [], _, _, F => F []
  | .tmp t :: r, s, w, F => resL P r s w fun vs => F (s.e t :: vs)
  | .cell a t :: r, s, w, F => (match s.e a with
    | .pointer p => nc p fun ad => ldT P t ad w fun v _ => resL P r s w fun vs => F (v :: vs)
    | _ => False)

def resV : List Value → Value
  | [v] => v
  | vs => .tuple vs.toArray

def exitT (P : Program) (rs : List ResultVar) (R : Ending → World → Prop) : Exit → St → World → Prop
  | .normal, s, w | .ret, s, w => (match s.d with
    | [] => resL P rs s w fun vs => R (.returned (resV vs)) w
    | _ => False)
  | .panic ch, s, w => (match s.d with
    | [] => R (.panicked ch) w
    | _ => False)
  | _, _, _ => False

def resOne (tmps : Array Value) (x : ResultVar) : Sem Value :=
  match x with
  | .tmp t => pure (tmps.getD t undef)
  | .cell a t => do loadVar t (← asAddr (tmps.getD a undef))

theorem results_eq (fn : Func) (tmps : Array Value) : results fn tmps = (do
    let vs ← fn.results.mapM (resOne tmps)
    pure (if h : vs.size = 1 then vs[0] else .tuple vs)) := by
  unfold results
  congr 2

theorem resL_sound {P : Program} {N : Nat} {a : Act} {s : St} {w : World} (hf : Fits N a s) : ∀ (rs : List ResultVar) (F : List Value → Prop), resL P rs s w F →
    ∃ vs, F vs ∧ (rs.mapM (resOne a.tmps)).run P w = .ok vs w
  | [], F, h => ⟨[], h, by simp⟩
  | .tmp t :: r, F, h => by
    obtain ⟨vs, hF, hr⟩ := resL_sound hf r _ h
    have h1 : (resOne a.tmps (.tmp t)).run P w = .ok (s.e t) w := by simp only [resOne, Sem.run_pure, hf.2.1]
    exact ⟨_, hF, by simp only [List.mapM_cons, Sem.run_bind, Sem.run_pure, Result.andThen_ok, hr, h1]⟩
  | .cell x t :: r, F, h => by
    unfold resL at h
    split at h
    · rename_i p hp
      obtain ⟨ad, rfl, h'⟩ := nc_elim h
      obtain ⟨v, fs, hF', h1, h2⟩ := ldT_sound h'
      obtain ⟨vs, hF, hr⟩ := resL_sound hf r _ hF'
      have h3 : (resOne a.tmps (.cell x t)).run P w = .ok v w := by simp only [resOne, Sem.run_bind, hf.2.1, hp, asAddr, Sem.run_pure, Result.andThen_ok, h2 w h1]
      exact ⟨_, hF, by simp only [List.mapM_cons, Sem.run_bind, Sem.run_pure, Result.andThen_ok, hr, h3]⟩
    · exact h.elim

theorem results_sound {P : Program} {N : Nat} {a : Act} {s : St} {w : World} {fn : Func} (hf : Fits N a s) {F : List Value → Prop} (h : resL P fn.results.toList s w F) :
    ∃ vs, F vs ∧ (results fn a.tmps).run P w = .ok (resV vs) w := by
  obtain ⟨vs, hF, hr⟩ := resL_sound hf _ _ h
  refine ⟨vs, hF, ?_⟩
  have : (fn.results.mapM (resOne a.tmps)).run P w = .ok vs.toArray w := by
    rw [← Array.toArray_toList (xs := fn.results)]
    simp only [List.mapM_toArray, Sem.run_map]
    rw [hr]; rfl
  rw [results_eq]
  simp only [Sem.run_bind]
  rw [this]
  simp only [Result.andThen_ok, Sem.run_pure]
  match vs with
  | [] => rfl
  | [v] => rfl
  | v :: u :: r => simp [resV]

theorem fn_sound {P : Program} {ty : List Nat} {f : FuncId} {fn : Func} {c : Code} {args : Array Value} {w : World} {R : Ending → World → Prop} {ann : Ann} {N : Nat} (hm : P.follows .mixedOrders = true)
    (hcall : callable P f = true) (hf : P.funcs[f]? = some fn) (hb : fn.body = some c) (hN : fn.ntmps = N) (hargs : args.size ≤ N) (hok : okA N ann c = true)
    (h : cdA P ty ann c (exitT P fn.results.toList R) ⟨fun t => args.toList.getD t undef, []⟩ w) : Cs P f args w R := by
  refine ⟨hcall, calls_of_wp hf hb ?_⟩
  refine wp_mono (cdA_sound hm ann c _ _ w hok h _ ⟨?_, ?_, rfl⟩) ?_
  · simp [hN]; omega
  · intro t
    simp only [hN]
    by_cases ht : t < args.size
    · simp [Array.getElem?_append, ht]
    · simp [Array.getElem?_append, ht, Array.getElem?_replicate]
      split <;> rfl
  · rintro e a' w' ⟨s', hf', _, _, hq⟩
    cases e with
    | normal =>
      simp only [exitT] at hq
      split at hq
      · rename_i hd
        obtain ⟨vs, hR, hr⟩ := results_sound hf' hq
        exact ⟨hf'.2.2.trans hd, _, hr, hR⟩
      · exact hq.elim
    | ret =>
      simp only [exitT] at hq
      split at hq
      · rename_i hd
        obtain ⟨vs, hR, hr⟩ := results_sound hf' hq
        exact ⟨hf'.2.2.trans hd, _, hr, hR⟩
      · exact hq.elim
    | panic ch =>
      simp only [exitT] at hq
      split at hq
      · rename_i hd
        exact ⟨hf'.2.2.trans hd, hq⟩
      · exact hq.elim
    | exit => exact hq.elim
    | goto => exact hq.elim
    | outgrown => exact hq.elim
end Go.SR
