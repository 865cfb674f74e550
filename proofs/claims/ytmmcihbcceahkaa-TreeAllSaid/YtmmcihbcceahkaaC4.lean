/- Contracts: tree.climb, tree.Above, tree.Below. -/
import Derived.Test.YtmmcihbcceahkaaC3
namespace Go.SR
open Go Go.Proofs

/-- The refs of a frame that are known. -/
def kr (fs : List Fr) (i : Int) : List Int := ((refsOf fs i).getD []).filter fun r => (refsOf fs r).isSome

/-- y lies above i. -/
inductive Up (fs : List Fr) : Int → Int → Prop where
  | one {i y : Int} : y ∈ kr fs i → Up fs i y
  | more {i r y : Int} : r ∈ kr fs i → Up fs r y → Up fs i y

theorem refsOf_known {fs : List Fr} {i : Int} : (refsOf fs i).isSome ↔ i ∈ fs.map Fr.id := by
  induction fs with
  | nil => simp [refsOf]
  | cons f fs ih =>
    unfold refsOf
    split
    · rename_i h; simp [h]
    · rename_i h
      rw [ih]
      simp only [List.map_cons, List.mem_cons]
      constructor
      · exact .inr
      · rintro (e | e)
        · exact absurd e.symm h
        · exact e

theorem Up.known {fs : List Fr} {i y : Int} (h : Up fs i y) : y ∈ fs.map Fr.id := by
  induction h with
  | one h => rw [kr, List.mem_filter] at h; exact refsOf_known.1 h.2
  | more _ _ ih => exact ih

theorem Up.trans' {fs : List Fr} {i r y : Int} (h : Up fs i r) (h' : Up fs r y) : Up fs i y := by
  induction h with
  | one h => exact .more h h'
  | more h _ ih => exact .more h (ih h')

/-- A set that holds what i hangs on directly, and with each what it hangs on, holds all above i. -/
theorem Up.closed {fs : List Fr} {S : Int → Prop} {i y : Int} (h : Up fs i y) (h0 : ∀ r ∈ kr fs i, S r) (hS : ∀ r, S r → ∀ z ∈ kr fs r, S z) : S y := by
  induction h with
  | one h => exact h0 _ h
  | more h _ ih => exact ih (hS _ (h0 _ h))

/-- How many of the known are not seen. -/
def cnt (fs : List Fr) (ss : List Int) : Nat := ((fs.map Fr.id).filter fun i => i ∉ ss).length

theorem filter_lt {α : Type} {p q : α → Bool} : ∀ {l : List α} {x : α}, (∀ a, q a = true → p a = true) → x ∈ l → p x = true → q x = false → (l.filter q).length < (l.filter p).length
  | a :: l, x, hpq, hx, hp, hq => by
    have hle : ∀ l : List α, (l.filter q).length ≤ (l.filter p).length := fun l => by
      induction l with
      | nil => simp
      | cons b l ih =>
        simp only [List.filter_cons]
        cases hb : q b
        · cases p b <;> simp <;> omega
        · rw [hpq b hb]; simp; omega
    simp only [List.filter_cons]
    rcases List.mem_cons.1 hx with rfl | hx'
    · rw [hp, hq]; simp; have := hle l; omega
    · have ih := filter_lt hpq hx' hp hq
      cases hb : q a
      · cases p a <;> simp <;> omega
      · rw [hpq a hb]; simp; omega

theorem cnt_lt {fs : List Fr} {ss : List Int} {r : Int} (hr : r ∈ fs.map Fr.id) (hn : r ∉ ss) : cnt fs (ss ++ [r]) < cnt fs ss := by
  refine filter_lt (x := r) (fun a h => ?_) hr (by simpa using hn) (by simp)
  simp at h ⊢; exact h.1

theorem cnt_le {fs : List Fr} {ss tt : List Int} : cnt fs (ss ++ tt) ≤ cnt fs ss := by
  unfold cnt
  generalize fs.map Fr.id = l
  induction l with
  | nil => simp
  | cons a l ih =>
    simp only [List.filter_cons]
    by_cases h : a ∈ ss
    · simp [h]; simpa using ih
    · by_cases h' : a ∈ tt
      · simp [h, h']; simp at ih; omega
      · simp [h, h']; simpa using ih

/-- What is seen. -/
abbrev seenM (ss : List Int) : List (Int × Value) := ss.map fun k => (k, .bool true)

theorem lk_seen {ss : List Int} {k : Int} : lk (seenM ss) k = if k ∈ ss then some (.bool true) else none := by
  induction ss with
  | nil => simp [lk]
  | cons a ss ih =>
    simp only [seenM, List.map_cons, lk]
    by_cases h : a = k
    · simp [h]
    · rw [if_neg h]
      have : ¬ k = a := fun e => h e.symm
      simp only [List.mem_cons, this, false_or]
      exact ih

theorem ins_seen {ss : List Int} {k : Int} (h : k ∉ ss) : ins (seenM ss) k (.bool true) = seenM (ss ++ [k]) := by
  induction ss with
  | nil => simp [ins]
  | cons a ss ih =>
    simp only [List.mem_cons, not_or] at h
    simp only [seenM, List.map_cons, ins, List.cons_append]
    rw [if_neg (fun e => h.1 e.symm)]
    have := ih h.2
    simp only [seenM] at this
    rw [this]

theorem seen_keys {ss : List Int} : (seenM ss).map Prod.fst = ss := by simp [seenM, Function.comp_def]

variable {w w' : World} {fs : List Fr}

theorem climb_c : ∀ (n : Nat) {w : World} {b rb sb : Nat} {m : List (Int × Value)} {ss : List Int} {id : Int}, cnt fs ss < n → At w b #[.map (some rb), .map (some sb)] 96 → MapAt w rb .u32 m → RefsM w m fs → MapAt w sb .u32 (seenM ss) → rb ≠ sb →
    Cs Try.prog tree_climber_climb_n #[.pointer (some ⟨b, 0, none⟩), .int .u32 id] w (Ret fun _ w' => ∃ new, MapAt w' sb .u32 (seenM (ss ++ new)) ∧ Chg (fun x => x = sb) w w' ∧
      (∀ y ∈ new, Up fs id y) ∧ (∀ r ∈ kr fs id, r ∈ ss ++ new) ∧ ∀ y ∈ new, ∀ r ∈ kr fs y, r ∈ ss ++ new)
  | 0, _, _, _, _, _, _, _, hc, _, _, _, _, _ => by omega
  | n + 1, w, b, rb, sb, m, ss, id, hcnt, hat, hrm, hrf, hsm, hne => by
    apply tree_climber_climb_ok
    unfold tree_climber_climb
    refine nc_s ⟨_, by rw [hat.cell]; rfl, ?_⟩
    refine look_step und93 und23 zero29 hrm fun _ => ?_
    -- the refs of id
    obtain ⟨q, rl, rc, hlk, hu, hrs⟩ : ∃ q rl rc, (lk m id).getD (.slice none 0 0) = .slice q rl rc ∧ U32s w q rl ((refsOf fs id).getD []) ∧ True := by
      have hi := hrf id
      cases h : refsOf fs id with
      | none => rw [h] at hi; simp only [] at hi; exact ⟨none, 0, 0, by rw [hi]; rfl, Ints.nil, trivial⟩
      | some rs => rw [h] at hi; obtain ⟨q, rl, rc, h1, h2⟩ := hi; exact ⟨q, rl, rc, by rw [h1]; rfl, h2, trivial⟩
    refine ⟨q, rl, rc, hlk, ?_⟩
    generalize hR : (refsOf fs id).getD [] = rs at hu
    have hrl := hu.len
    have hrlt := hu.lt
    refine lp_step (fun k s w' => ∃ new, MapAt w' sb .u32 (seenM (ss ++ new)) ∧ Chg (fun x => x = sb) w w' ∧ (∀ y ∈ new, Up fs id y) ∧ (∀ i : Nat, (i : Int) < s → ∀ r, rs[i]? = some r → (refsOf fs r).isSome → r ∈ ss ++ new) ∧
      (∀ y ∈ new, ∀ r ∈ kr fs y, r ∈ ss ++ new) ∧ 0 ≤ s ∧ s ≤ rs.length ∧ k = (rs.length - s).toNat) rs.length
      ⟨[], by simpa using hsm, Chg.refl _ _, by simp, fun i hi => by omega, by simp, by omega, by omega, by omega⟩ ?_
    rintro k _ s w1 ⟨new, hsm1, hc1, hup, hdone, hclo, hs0, hs1, hk⟩ K hK
    have hoff : Off (fun x => x = sb) w 23 := Off.of_map hsm
    have hat1 : At w1 b #[.map (some rb), .map (some sb)] 96 := hc1.keep _ _ hat fun e => hsm.ne_at hat e.symm
    have hrm1 := hrm.chg hc1 hne
    have hrf1 := hrf.chg hc1 hoff
    have hu1 := hu.chg hc1 hoff
    refine br_if (fun hlt => ?_) (fun hge => ?_)
    · refine hu1.ix hs0 (by omega) fun a hca => ⟨_, hca, ?_⟩
      have hget := gI_get hs0 (show s < rs.length by omega)
      generalize gI rs s = r at hget ⊢
      refine nc_s ⟨_, by rw [hat1.cell]; rfl, ?_⟩
      refine look_step und93 und23 zero29 hrm1 fun _ => ?_
      have next : ∀ w2 new2, MapAt w2 sb .u32 (seenM (ss ++ new2)) → Chg (fun x => x = sb) w w2 → (∀ y ∈ new2, Up fs id y) → (∀ y ∈ new2, ∀ r ∈ kr fs y, r ∈ ss ++ new2) → (∀ y ∈ new, y ∈ new2) → ((refsOf fs r).isSome → r ∈ ss ++ new2) → K (IntKind.wrap .i64 (s + 1)) w2 := by
        intro w2 new2 h1 h2 h3 h4 h5 h6
        rw [w64 (by omega) (by omega)]
        refine hK _ _ _ (by omega) ⟨new2, h1, h2, h3, fun i hi r' hr' hk' => ?_, h4, by omega, by omega, rfl⟩
        by_cases e : (i : Int) < s
        · rcases List.mem_append.1 (hdone i e r' hr' hk') with h | h
          · exact List.mem_append_left _ h
          · exact List.mem_append_right _ (h5 _ h)
        · have : s.toNat = i := by omega
          rw [this] at hget
          rw [hget] at hr'; cases hr'
          exact h6 hk'
      have hri := hrf1 r
      cases hrk : refsOf fs r with
      | none =>
        rw [hrk] at hri; simp only [] at hri
        exact ⟨none, 0, 0, false, by rw [hri]; rfl, br_f (next w1 new hsm1 hc1 hup hclo (fun _ h => h) (fun h => by rw [hrk] at h; simp at h))⟩
      | some rr =>
        rw [hrk] at hri
        obtain ⟨q', rl', rc', hlk', _⟩ := hri
        refine ⟨q', rl', rc', true, by rw [hlk']; rfl, br_t ?_⟩
        refine nc_s ⟨_, by rw [add_mk, hat1.cell]; rfl, ?_⟩
        refine look_step und94 und23 zero4 hsm1 fun _ => ?_
        by_cases hse : r ∈ ss ++ new
        · exact ⟨true, by rw [lk_seen, if_pos hse]; rfl, br_f (next w1 new hsm1 hc1 hup hclo (fun _ h => h) (fun _ => hse))⟩
        · refine ⟨false, by rw [lk_seen, if_neg hse]; rfl, br_t ?_⟩
          refine nc_s ⟨_, by rw [add_mk, hat1.cell]; rfl, ?_⟩
          refine update_step und94 und23 hsm1 fun w2 hsm2 hc2 => ?_
          rw [ins_seen hse] at hsm2
          have hat2 : At w2 b #[.map (some rb), .map (some sb)] 96 := hc2.keep _ _ hat1 fun e => hsm1.ne_at hat1 e.symm
          have hrm2 := hrm1.chg hc2 hne
          have hrf2 := hrf1.chg hc2 (Off.of_map hsm1)
          have hkn : r ∈ fs.map Fr.id := refsOf_known.1 (by rw [hrk]; rfl)
          have hlt' : cnt fs (ss ++ new ++ [r]) < n := by
            have h1 := cnt_lt hkn hse
            have h2 := cnt_le (fs := fs) (ss := ss) (tt := new)
            omega
          refine cl_ret (climb_c n (id := r) hlt' hat2 hrm2 hrf2 hsm2 hne) ?_
          rintro v w3 ⟨new2, hsm3, hc3, hup3, hall3, hclo3⟩
          have hkr : r ∈ kr fs id := by
            rw [kr, hR, List.mem_filter]
            exact ⟨List.mem_of_getElem? hget, by rw [hrk]; rfl⟩
          have e : ss ++ new ++ [r] ++ new2 = ss ++ (new ++ r :: new2) := by simp
          rw [e] at hsm3 hall3 hclo3
          refine next w3 (new ++ r :: new2) hsm3 ((hc1.trans hc2).trans hc3) ?_ ?_ (fun y hy => List.mem_append_left _ hy) (fun _ => by simp)
          · intro y hy
            rcases List.mem_append.1 hy with hy | hy
            · exact hup y hy
            · rcases List.mem_cons.1 hy with rfl | hy
              · exact .one hkr
              · exact .more hkr (hup3 y hy)
          · intro y hy z hz
            rcases List.mem_append.1 hy with hy | hy
            · have := hclo y hy z hz
              rcases List.mem_append.1 this with h | h
              · exact List.mem_append_left _ h
              · exact List.mem_append_right _ (List.mem_append_left _ h)
            · rcases List.mem_cons.1 hy with rfl | hy
              · exact hall3 z hz
              · exact hclo3 y hy z hz
    · refine ⟨new, hsm1, hc1, hup, ?_, hclo⟩
      intro r hr
      rw [kr, hR, List.mem_filter] at hr
      obtain ⟨i, hi⟩ := List.mem_iff_getElem?.1 hr.1
      have hil := (List.getElem?_eq_some_iff.1 hi).1
      exact hdone i (by omega) r hi hr.2

theorem nodup_len {α : Type} [DecidableEq α] : ∀ {l l' : List α}, l.Nodup → (∀ x ∈ l, x ∈ l') → l.length ≤ l'.length
  | [], _, _, _ => by simp
  | a :: l, l', hn, hs => by
    have ha := hs a (List.mem_cons_self ..)
    have := nodup_len (l := l) (l' := l'.erase a) (List.nodup_cons.1 hn).2 fun x hx => (List.mem_erase_of_ne (fun (e : x = a) => (List.nodup_cons.1 hn).1 (e ▸ hx))).2 (hs x (List.mem_cons_of_mem _ hx))
    rw [List.length_erase_of_mem ha] at this
    have := List.length_pos_of_mem ha
    simp; omega

/-- The IDs above i, in order. -/
def AboveL (fs : List Fr) (i : Int) (ks : List Int) : Prop := Asc ks ∧ ∀ y, y ∈ ks ↔ Up fs i y ∧ y ≠ i

theorem Above_c {N : Nat} (hS : SortOk N) (hN : N < 4294967296) {p : Option Addr} {l c : Nat} {i : Int} (h : Frames w p l fs) (hlen : fs.length ≤ N) :
    Cs Try.prog tree_Above_n #[.slice p l c, .int .u32 i] w (Ret fun v w' => ∃ q ql qc ks, v = .slice q ql qc ∧ RowI w' w.heap.size q ql qc ks ∧ AboveL fs i ks ∧ Ext w w') := by
  apply tree_Above_ok
  unfold tree_Above
  refine cl_ret (known_c h) ?_
  rintro v w1 ⟨b, rb, sb, m, rfl, hat, hrm, hrf, hsm, hne, hb, hrb, hsb, he1⟩
  refine ⟨_, rfl, ?_⟩
  refine cl_ret (climb_c _ (ss := []) (Nat.lt_succ_self _) hat hrm hrf hsm hne) ?_
  rintro v w2 ⟨new, hsm2, hc2, hup, hall, hclo⟩
  simp only [List.nil_append] at hsm2 hall hclo
  have hat2 : At w2 b #[.map (some rb), .map (some sb)] 96 := hc2.keep _ _ hat fun e => hsm.ne_at hat e.symm
  refine nc_s ⟨_, by rw [add_mk, hat2.cell]; rfl, ?_⟩
  refine delete_step und94 und23 hsm2 fun w3 hsm3 hc3 => ?_
  have hat3 : At w3 b #[.map (some rb), .map (some sb)] 96 := hc3.keep _ _ hat2 fun e => hsm2.ne_at hat2 e.symm
  refine nc_s ⟨_, by rw [add_mk, hat3.cell]; rfl, ?_⟩
  refine cl_ret Keys_c ?_
  rintro v w4 ⟨B, rfl, hB, he4⟩
  refine ⟨_, rfl, ?_⟩
  have hnew : new.Nodup := by obtain ⟨o, _, hm⟩ := hsm2; have := hm.apart; rwa [seen_keys] at this
  have hmem : ∀ y, y ∈ new ↔ Up fs i y := fun y => ⟨hup y, fun h => h.closed (S := fun y => y ∈ new) hall hclo⟩
  have hdk : (del (seenM new) i).map Prod.fst = new.filter fun x => x ≠ i := by rw [del_keys, seen_keys]
  have hle : (del (seenM new) i).length ≤ N := by
    have h1 : (del (seenM new) i).length ≤ new.length := by
      have := List.length_filter_le (fun x : Int × Value => decide (x.1 ≠ i)) (seenM new)
      simpa [del] using this
    have h2 := nodup_len (l' := fs.map Fr.id) hnew fun x hx => ((hmem x).1 hx).known
    simp at h2; omega
  refine cl_ret (Sorted_c hS hN (by rw [hB.cell]; rfl) (hsm3.ext he4) hle) ?_
  rintro v w5 ⟨q, ql, qc, ks, rfl, hr, hp, hasc, he5⟩
  have hw3 : Ext w w3 := (he1.then hc2 fun x hx => by omega).then hc3 fun x hx => by omega
  have hw5 := (hw3.trans he4).trans he5
  refine ⟨q, ql, qc, rfl, q, ql, qc, ks, rfl, ?_, ⟨hasc, fun y => ?_⟩, hw5⟩
  · refine ⟨hr.1, ?_⟩
    rcases hr.2 with h | ⟨g, cap, cur, h1, h2, h3⟩
    · exact .inl h
    · exact .inr ⟨g, cap, cur, h1, Nat.le_trans (hw3.trans he4).size h2, h3⟩
  · rw [hp.mem_iff, hdk, List.mem_filter, hmem]; simp
/-- The IDs below i, in order. -/
def BelowL (fs : List Fr) (i : Int) (ks : List Int) : Prop := Asc ks ∧ ∀ y, y ∈ ks ↔ y ∈ fs.map Fr.id ∧ Up fs y i ∧ y ≠ i

theorem Below_c {N : Nat} (hS : SortOk N) (hN : N < 4294967296) {p : Option Addr} {l c : Nat} {i : Int} (h : Frames w p l fs) (hlen : fs.length ≤ N) :
    Cs Try.prog tree_Below_n #[.slice p l c, .int .u32 i] w (Ret fun v w' => ∃ q ql qc ks, v = .slice q ql qc ∧ RowI w' w.heap.size q ql qc ks ∧ BelowL fs i ks ∧ Ext w w') := by
  apply tree_Below_ok
  unfold tree_Below
  refine nwo_step fun ob w1 h1 he1 hb1 => ?_
  have o1 : Own (fun _ => False) w w1 [(ob, MapO .u32 [])] := (Own.nil _ w).push he1 hb1 h1 (MapO.empty _)
  have hlt := h.lt
  have hl := h.len
  refine lp_step (fun n s w' => ∃ out, Own (fun _ => False) w w' [(ob, MapO .u32 (seenM out))] ∧ (∀ y, y ∈ out ↔ ∃ k : Nat, (k : Int) < s ∧ ∃ f, fs[k]? = some f ∧ f.id = y ∧ Up fs y i ∧ i ≠ y) ∧ 0 ≤ s ∧ s ≤ fs.length ∧ n = (fs.length - s).toNat)
    fs.length ⟨[], o1, fun y => ⟨fun h => by simp at h, fun ⟨k, hk, _⟩ => by omega⟩, by omega, by omega, by omega⟩ ?_
  rintro n _ s w2 ⟨out, o2, hout, hs0, hs1, hn⟩ K hK
  refine br_if (fun hs => ?_) (fun hge => ?_)
  · have h2 := h.chg o2.chg Off.none Off.none
    refine h2.ix hs0 (by omega) fun a q rl rc hca hu => ?_
    have hget := gF_get hs0 (show s < fs.length by omega)
    generalize gF fs s = f at hget hca hu
    refine ⟨_, _, _, _, _, _, _, _, hca, ?_⟩
    refine o2.box zc31.symm (by simp [Value.oneCell']) fun b3 w3 o3 he3 => ?_
    refine ⟨_, o3.rd 1 0 rfl rfl rfl, ?_⟩
    have h3 := h2.ext he3
    refine cl_ret (Above_c hS hN h3 hlen) ?_
    rintro v w4 ⟨q', ql, qc, ks, rfl, hr, ⟨hasc, hks⟩, he4⟩
    refine ⟨q', ql, qc, rfl, ?_⟩
    have hkl : ks.length < 4611686018427387904 := by
      have := nodup_len (l := ks) (l' := fs.map Fr.id) (hasc.imp fun h => by omega) fun x hx => ((hks x).1 hx).1.known
      simp at this; omega
    refine cl_ret (Contains_c (Row.ints hr hkl)) ?_
    rintro v w5 ⟨rfl, he5⟩
    refine ⟨_, rfl, ?_⟩
    have o5 := (o3.ext he4).ext he5
    have next : ∀ w6 out', Own (fun _ => False) w w6 [(ob, MapO .u32 (seenM out'))] → (∀ y, y ∈ out' ↔ y ∈ out ∨ (y = f.id ∧ Up fs y i ∧ i ≠ y)) → K (IntKind.wrap .i64 (s + 1)) w6 := by
      intro w6 out' o6 ho
      rw [w64 (by omega) (by omega)]
      refine hK _ _ _ (by omega) ⟨out', o6, fun y => ?_, by omega, by omega, rfl⟩
      rw [ho, hout]
      constructor
      · rintro (⟨k, hk, f', hf', h1, h2⟩ | ⟨rfl, h1, h2⟩)
        · exact ⟨k, by omega, f', hf', h1, h2⟩
        · exact ⟨s.toNat, by omega, f, hget, rfl, h1, h2⟩
      · rintro ⟨k, hk, f', hf', h1, h2⟩
        by_cases e : (k : Int) < s
        · exact .inl ⟨k, e, f', hf', h1, h2⟩
        · have : s.toNat = k := by omega
          rw [this] at hget
          rw [hget] at hf'; cases hf'
          exact .inr ⟨h1.symm, h2⟩
    refine br_if (fun hin => ?_) (fun hni => ?_)
    · refine ⟨_, o5.rd 1 0 rfl rfl rfl, ?_⟩
      obtain ⟨⟨o, ho, hφ⟩, _⟩ := o5.here 0 ob _ rfl
      have hM : MapAt w5 ob .u32 (seenM out) := ⟨o, ho, hφ⟩
      refine update_step und94 und23 hM fun w6 hM6 hc6 => ?_
      have hup := (hks i).1 hin
      by_cases hmem : f.id ∈ out
      · have e : (ins (seenM out) f.id (.bool true)) = seenM out := by
          clear hM hM6 hc6 ho hφ o5 o2 o3 hout next
          induction out with
          | nil => simp at hmem
          | cons a out ih =>
            simp only [seenM, List.map_cons, ins]
            by_cases ha : a = f.id
            · simp [ha]
            · rw [if_neg ha]
              have := ih (by rcases List.mem_cons.1 hmem with h | h; exact absurd h.symm ha; exact h)
              simp only [seenM] at this
              rw [this]
        rw [e] at hM6
        obtain ⟨o', ho', hφ'⟩ := hM6
        refine next w6 out ((o5.turn 0 rfl hc6 ho' hφ').take 1) fun y => ⟨.inl, ?_⟩
        rintro (h | ⟨rfl, _⟩)
        · exact h
        · exact hmem
      · rw [ins_seen hmem] at hM6
        obtain ⟨o', ho', hφ'⟩ := hM6
        refine next w6 (out ++ [f.id]) ((o5.turn 0 rfl hc6 ho' hφ').take 1) fun y => ?_
        rw [List.mem_append, List.mem_singleton]
        constructor
        · rintro (h | rfl)
          · exact .inl h
          · exact .inr ⟨rfl, hup.1, hup.2⟩
        · rintro (h | ⟨rfl, _⟩)
          · exact .inl h
          · exact .inr rfl
    · refine next w5 out (o5.take 1) fun y => ⟨.inl, ?_⟩
      rintro (h | ⟨rfl, h1, h2⟩)
      · exact h
      · exact absurd ((hks i).2 ⟨h1, h2⟩) hni
  · obtain ⟨⟨o, ho, hφ⟩, hb⟩ := o2.here 0 ob _ rfl
    have hbs : w.heap.size ≤ ob := by rcases hb with h | h; exact h.elim; exact h
    have hM : MapAt w2 ob .u32 (seenM out) := ⟨o, ho, hφ⟩
    refine delete_step und94 und23 hM fun w3 hM3 hc3 => ?_
    refine cl_ret Keys_c ?_
    rintro v w4 ⟨B, rfl, hB, he4⟩
    refine ⟨_, rfl, ?_⟩
    have hnd : out.Nodup := by have := hφ.apart; rwa [seen_keys] at this
    have hmem : ∀ y, y ∈ out ↔ y ∈ fs.map Fr.id ∧ Up fs y i ∧ y ≠ i := fun y => by
      rw [hout]
      constructor
      · rintro ⟨k, _, f, hf, rfl, h1, h2⟩
        exact ⟨List.mem_map.2 ⟨f, List.mem_of_getElem? hf, rfl⟩, h1, h2.symm⟩
      · rintro ⟨hy, h1, h2⟩
        obtain ⟨f, hf, rfl⟩ := List.mem_map.1 hy
        obtain ⟨k, hk⟩ := List.mem_iff_getElem?.1 hf
        have := (List.getElem?_eq_some_iff.1 hk).1
        exact ⟨k, by omega, f, hk, rfl, h1, h2.symm⟩
    have hdk : (del (seenM out) i).map Prod.fst = out.filter fun x => x ≠ i := by rw [del_keys, seen_keys]
    have hle : (del (seenM out) i).length ≤ N := by
      have h1 : (del (seenM out) i).length ≤ out.length := by
        have := List.length_filter_le (fun x : Int × Value => decide (x.1 ≠ i)) (seenM out)
        simpa [del] using this
      have h2 := nodup_len (l' := fs.map Fr.id) hnd fun x hx => ((hmem x).1 hx).1
      simp at h2; omega
    refine cl_ret (Sorted_c hS hN (by rw [hB.cell]; rfl) (hM3.ext he4) hle) ?_
    rintro v w5 ⟨q, ql, qc, ks, rfl, hr, hp, hasc, he5⟩
    have hw3 : Ext w w3 := o2.chg.then hc3 fun x hx => .inl (by omega)
    have hw5 := (hw3.trans he4).trans he5
    refine ⟨q, ql, qc, rfl, q, ql, qc, ks, rfl, ?_, ⟨hasc, fun y => ?_⟩, hw5⟩
    · refine ⟨hr.1, ?_⟩
      rcases hr.2 with h | ⟨g, cap, cur, h1, h2, h3⟩
      · exact .inl h
      · exact .inr ⟨g, cap, cur, h1, Nat.le_trans (hw3.trans he4).size h2, h3⟩
    · rw [hp.mem_iff, hdk, List.mem_filter, hmem]; simp
end Go.SR
