/- girandolelaw16.TallyAny answers true. -/
import Derived.Test.YtmmcihbcceahkaaE2
namespace Go.SR
open Go Go.Proofs

theorem stepN {top n x : Int} (hx : x = 65536 + n) (h0 : -32768 ≤ x - top) (h1 : x - top < 32768) (h2 : 0 ≤ x) : extN top n = x := by
  unfold extN; subst hx
  have : (n - top + 32768) % 65536 - 32768 = 65536 + n - top := by omega
  rw [this]
  split <;> omega

theorem asc_perm_eq {ks xs : List Int} (h : Asc ks) (hp : ks.Perm xs) (hx : Asc xs) : ks = xs := asc_ext h hx fun _ => hp.mem_iff

theorem ty0_ok : (⟨0, false, [], 0, false, 0, 0⟩ : Ty).Ok := ⟨by simp, by simp, by simp, by simp, by simp, by simp, by simp, by simp, by simp⟩

variable {w : World}

theorem begun16_c : Cs Try.prog glaw16_begun_n #[] w (Ret fun v w' => v = .bool true ∧ Ext w w') := by
  apply glaw16_begun_ok
  unfold glaw16_begun
  refine cl_ret tallyNew_c ?_
  rintro v w1 ⟨t, e, m, rfl, h1, he1, ht, hee, hm⟩
  refine ⟨_, rfl, br_f ?_⟩
  have hS : ∀ {w' w''}, Ext w w' → Chg (TS t e m) w' w'' → Ext w w'' := fun h hc => h.then hc fun b hb => by rcases hb with rfl | rfl | rfl <;> assumption
  have ht' : ∀ {w' w''}, Ext w w' → Chg (fun x => x = t) w' w'' → Ext w w'' := fun h hc => h.then hc fun b hb => by subst hb; exact ht
  refine cl_ret (Got_c (n := 1) h1 ty0_ok (by omega) (by omega) (fun _ => by simp [xN])) ?_
  rintro v w2 ⟨rfl, h2, c2⟩
  have g1 : (⟨0, false, [], 0, false, 0, 0⟩ : Ty).got 1 = ⟨65537, true, [65537], 65536, true, 0, 0⟩ := by kernel_rfl
  rw [g1] at h2
  refine ⟨_, _, rfl, ?_⟩
  refine cl_ret (Got_c (n := 1) h2 (by constructor <;> simp) (by omega) (by omega) (fun h => by cases h)) ?_
  rintro v w3 ⟨rfl, h3, c3⟩
  have g2 : (⟨65537, true, [65537], 65536, true, 0, 0⟩ : Ty).got 1 = ⟨65537, true, [65537], 65536, true, 0, 1⟩ := by kernel_rfl
  rw [g2] at h3
  refine ⟨_, _, rfl, ?_⟩
  refine cl_ret (Got_c (n := 3) h3 (by constructor <;> simp) (by omega) (by omega) (fun h => by cases h)) ?_
  rintro v w4 ⟨rfl, h4, c4⟩
  have g3 : (⟨65537, true, [65537], 65536, true, 0, 1⟩ : Ty).got 3 = ⟨65539, true, [65537, 65539], 65536, true, 0, 1⟩ := by kernel_rfl
  rw [g3] at h4
  refine ⟨_, _, rfl, ?_⟩
  have hso : U64.SortOk 49 := @U64.sortOk49
  refine cl_ret (Report_c hso (by decide) h4 (by constructor <;> simp) rfl (by simp) (by simp)) ?_
  rintro v w5 ⟨ks, ha, hp, rfl, h5, c5⟩
  have hks : ks = [65537, 65539] := asc_perm_eq ha hp (by simp [Asc])
  subst hks
  refine ⟨_, _, _, _, _, rfl, ?_⟩
  have he5 := ht' (hS (hS (hS he1 c2) c3) c4) c5
  refine (Own.nil (fun _ => False) w5).box zc46.symm (by simp [Value.oneCell']) fun m0 w6 o6 he6 => ?_
  refine cl_ret (Report_c hso (by decide) (h5.ext he6) (by constructor <;> simp) rfl (by simp) (by simp)) ?_
  rintro v w7 ⟨ks2, ha2, hp2, rfl, h7, c7⟩
  have hks2 : ks2 = [65537, 65539] := asc_perm_eq ha2 hp2 (by simp [Asc])
  subst hks2
  refine ⟨_, _, _, _, _, rfl, ?_⟩
  have hm0 : m0 ≠ t := by
    have h8 := (o6.here 0 m0 _ rfl).2
    have h9 := h5.tb.lt
    rintro rfl
    rcases h8 with h | h
    · exact h
    · omega
  have o7 := (o6.at 0 rfl).chg c7 hm0
  refine al_step fun m1 w8 a8 he8 hb8 => ?_
  refine stN_step a8 (by rw [zc46]; simp) (by simp [Value.oneCell']) fun w9 a9 c9 => ?_
  rw [over_all (by rw [zc46]; simp)] at a9
  have hm1 : m0 ≠ m1 := by have := o7.lt; omega
  have o9 := (o7.ext he8).chg c9 hm1
  have h9 := (h7.ext he8).chg c9 (by have := h7.tb.lt; omega) (by have := h7.eb.lt; omega) (by have := h7.mb.lt; omega)
  have hE : Ext w w9 := ((ht' (he5.trans he6) c7).trans he8).then c9 fun x hx => by have := (ht' (he5.trans he6) c7).size; omega
  refine br_iff.2 ⟨fun _ => ?_, fun h => absurd h (by decide)⟩
  refine br_iff.2 ⟨fun _ => ?_, fun h => absurd h (by decide)⟩
  refine br_iff.2 ⟨fun _ => ?_, fun h => absurd h (by decide)⟩
  refine ⟨_, by rw [o9.cell]; rfl, br_iff.2 ⟨fun _ => ?_, fun h => absurd h (by decide)⟩⟩
  refine ⟨_, by rw [add_mk, o9.cell]; rfl, br_iff.2 ⟨fun _ => ?_, fun h => absurd h (by decide)⟩⟩
  refine ⟨_, by rw [add_mk, o9.cell]; rfl, br_iff.2 ⟨fun _ => ?_, fun h => absurd h (by decide)⟩⟩
  refine ⟨_, by rw [add_mk, o9.cell]; rfl, br_iff.2 ⟨fun _ => ?_, fun h => absurd h (by decide)⟩⟩
  refine ⟨_, by rw [add_mk, a9.cell]; rfl, br_iff.2 ⟨fun _ => ?_, fun h => absurd h (by decide)⟩⟩
  refine cl_ret (Twice_c h9) ?_
  rintro v w10 ⟨rfl, rfl⟩
  refine ⟨_, rfl, br_iff.2 ⟨fun _ => ?_, fun h => absurd h (by decide)⟩⟩
  refine cl_ret (Late_c h9) ?_
  rintro v w11 ⟨rfl, rfl⟩
  exact ⟨_, rfl, rfl, hE⟩

/-! ### what comes within one report -/

/-- A Tally at which some of 65636 .. 65656 came. -/
structure TI (s : Ty) (q : Int → Prop) (k : Nat) : Prop where
  since : s.since = 65635
  has : s.has = true
  ehas : s.ehas = true
  late : s.late = 0
  t0 : 0 ≤ s.twice
  t1 : s.twice ≤ k
  mem : ∀ x, x ∈ s.came ↔ q x
  nd : s.came.Nodup
  top : s.top ∈ s.came
  bd : ∀ x ∈ s.came, x ≤ s.top ∧ 65636 ≤ x ∧ x ≤ 65656

theorem TI.len {s : Ty} {q : Int → Prop} {k : Nat} (h : TI s q k) : s.came.length ≤ 21 := by
  have := nodup_len (l' := (List.range 21).map fun j : Nat => (65636 : Int) + (j : Int)) h.nd fun x hx => by
    obtain ⟨_, h1, h2⟩ := h.bd x hx
    exact List.mem_map.2 ⟨(x - 65636).toNat, List.mem_range.2 (by omega), by omega⟩
  simpa using this

theorem TI.ok {s : Ty} {q : Int → Prop} {k : Nat} (h : TI s q k) (hk : k < 1000) : s.Ok := by
  have h1 := h.bd _ h.top
  have h2 := h.len
  have h3 := h.t0
  have h4 := h.t1
  exact ⟨by omega, by omega, by rw [h.since]; omega, by rw [h.since]; omega, by rw [h.late]; omega, by rw [h.late]; omega, by omega, by omega, by omega⟩

theorem TI.x {s : Ty} {q : Int → Prop} {k : Nat} (h : TI s q k) {j : Int} (h0 : 0 ≤ j) (h1 : j < 20) : xN s.ehas s.top (101 + j) = 65637 + j := by
  have h2 := h.bd _ h.top
  rw [h.ehas]
  exact stepN (by omega) (by omega) (by omega) (by omega)

theorem TI.got {s : Ty} {q : Int → Prop} {k : Nat} (h : TI s q k) {j : Int} (h0 : 0 ≤ j) (h1 : j < 20) : TI (s.got (101 + j)) (fun y => q y ∨ y = 65637 + j) (k + 1) := by
  have hx := h.x h0 h1
  have hs : s.sn (101 + j) = 65635 := by show (if s.has then s.since else _) = _; rw [h.has]; exact h.since
  have ht : topN s.ehas s.top (101 + j) = max s.top (65637 + j) := by
    have := hx; rw [h.ehas] at this ⊢
    show max s.top (extN s.top (101 + j)) = _
    rw [show extN s.top (101 + j) = 65637 + j from this]
  have h2 := h.bd _ h.top
  have h3 := h.t0
  have h4 := h.t1
  unfold Ty.got
  rw [hx, hs, ht]
  by_cases hin : 65637 + j ∈ s.came
  · rw [if_pos hin]
    have h5 := h.bd _ hin
    have hm : max s.top (65637 + j) = s.top := by omega
    rw [hm]
    refine ⟨rfl, rfl, rfl, h.late, by show 0 ≤ s.twice + 1; omega, by show s.twice + 1 ≤ _; omega, fun x => ?_, h.nd, h.top, h.bd⟩
    show x ∈ s.came ↔ _
    rw [h.mem]
    constructor
    · exact .inl
    · rintro (h | rfl)
      · exact h
      · exact (h.mem _).1 hin
  · rw [if_neg hin, if_neg (by omega)]
    refine ⟨rfl, rfl, rfl, h.late, h3, by show s.twice ≤ _; omega, fun x => ?_, ?_, ?_, ?_⟩
    · show x ∈ s.came ++ [65637 + j] ↔ _
      rw [List.mem_append, h.mem, List.mem_singleton]
    · show (s.came ++ [65637 + j]).Nodup
      rw [List.nodup_append]
      exact ⟨h.nd, by simp, fun a ha b hb => by simp at hb; subst hb; rintro rfl; exact hin ha⟩
    · show max s.top (65637 + j) ∈ s.came ++ [65637 + j]
      rcases Int.le_total s.top (65637 + j) with h6 | h6
      · rw [Int.max_eq_right h6]; simp
      · rw [Int.max_eq_left h6]; exact List.mem_append_left _ h.top
    · intro x hx
      show x ≤ max s.top (65637 + j) ∧ _
      rcases List.mem_append.1 hx with hx | hx
      · have := h.bd x hx; omega
      · simp at hx; omega

theorem TI.first : TI ((⟨0, false, [], 0, false, 0, 0⟩ : Ty).got 100) (fun y => y = 65636) 0 := by
  have g1 : (⟨0, false, [], 0, false, 0, 0⟩ : Ty).got 100 = ⟨65636, true, [65636], 65635, true, 0, 0⟩ := by kernel_rfl
  rw [g1]
  refine ⟨rfl, rfl, rfl, rfl, by simp, by simp, fun x => by simp, by simp, by simp, fun x hx => by simp at hx; subst hx; simp⟩

/-- Those that came, in order. -/
def cameL (c : Nat → Bool) (i : Nat) : List Int := 65636 :: ((List.range i).filter c).map fun j : Nat => (65637 : Int) + (j : Int)

theorem cameL_succ (c : Nat → Bool) (i : Nat) : cameL c (i + 1) = cameL c i ++ if c i then [65637 + (i : Int)] else [] := by
  simp only [cameL, List.range_succ, List.filter_append, List.map_append, List.cons_append]
  congr 2
  by_cases h : c i <;> simp [h]

theorem cameL_mem {c : Nat → Bool} {i : Nat} {x : Int} : x ∈ cameL c i ↔ x = 65636 ∨ ∃ j : Nat, j < i ∧ c j = true ∧ x = 65637 + (j : Int) := by
  simp only [cameL, List.mem_cons, List.mem_map, List.mem_filter, List.mem_range]
  constructor
  · rintro (h | ⟨j, ⟨h1, h2⟩, h3⟩)
    · exact .inl h
    · exact .inr ⟨j, h1, h2, h3.symm⟩
  · rintro (h | ⟨j, h1, h2, h3⟩)
    · exact .inl h
    · exact .inr ⟨j, ⟨h1, h2⟩, h3.symm⟩

theorem cameL_asc (c : Nat → Bool) : ∀ i, Asc (cameL c i)
  | 0 => by simp [cameL, Asc]
  | i + 1 => by
    rw [cameL_succ]
    unfold Asc
    rw [List.pairwise_append]
    refine ⟨cameL_asc c i, by split <;> simp, fun x hx y hy => ?_⟩
    split at hy
    · simp at hy; subst hy
      rcases cameL_mem.1 hx with rfl | ⟨j, h1, _, rfl⟩ <;> omega
    · simp at hy

/-- What is counted on the way. -/
structure Cnt (c : Nat → Bool) (i : Nat) (n row most top : Int) : Prop where
  r : row = i - top
  n0 : 0 ≤ n
  n1 : n ≤ top
  t1 : top ≤ i
  m0 : 0 ≤ most
  m1 : most ≤ i
  f : repF 65635 (cameL c i) = (n + 1, most, 65636 + top)
  mem : 65636 + top ∈ cameL c i
  mx : ∀ x ∈ cameL c i, x ≤ 65636 + top

theorem Cnt.start (c : Nat → Bool) : Cnt c 0 0 0 0 0 := ⟨rfl, by omega, by omega, by simp, by omega, by simp, by rfl, by simp [cameL], by simp [cameL]⟩

theorem Cnt.yes {c : Nat → Bool} {i : Nat} {n row most top : Int} (h : Cnt c i n row most top) (hc : c i = true) : Cnt c (i + 1) (n + 1) 0 (max most row) (i + 1) := by
  have h1 := h.r; have h2 := h.n0; have h3 := h.n1; have h4 := h.t1; have h5 := h.m0; have h6 := h.m1
  have hs := cameL_succ c i
  rw [if_pos hc] at hs
  refine ⟨by omega, by omega, by omega, by omega, by omega, by omega, ?_, ?_, ?_⟩
  · rw [hs, repF, List.foldl_append]
    have := h.f; unfold repF at this; rw [this]
    show repStep 65635 (n + 1, most, 65636 + top) (65637 + (i : Int)) = _
    unfold repStep
    rw [if_pos (by omega)]
    simp only [Prod.mk.injEq]
    refine ⟨trivial, by omega, by omega⟩
  · rw [hs]; exact List.mem_append_right _ (by simp; omega)
  · intro x hx
    rw [hs] at hx
    rcases List.mem_append.1 hx with hx | hx
    · have := h.mx x hx; omega
    · simp at hx; omega

theorem Cnt.no {c : Nat → Bool} {i : Nat} {n row most top : Int} (h : Cnt c i n row most top) (hc : c i = false) : Cnt c (i + 1) n (row + 1) most top := by
  have h1 := h.r; have h2 := h.n0; have h3 := h.n1; have h4 := h.t1; have h5 := h.m0; have h6 := h.m1
  have hs := cameL_succ c i
  rw [if_neg (by rw [hc]; decide), List.append_nil] at hs
  exact ⟨by omega, h2, h3, by omega, h5, by omega, by rw [hs]; exact h.f, by rw [hs]; exact h.mem, by rw [hs]; exact h.mx⟩

/-- Turned places. -/
def trn (l t j : Int) : Int := (l - 1 - j + t) % l

theorem trn_onto {l t : Int} (hl : 0 < l) {y : Int} (h0 : 0 ≤ y) (h1 : y < l) : ∃ j : Int, 0 ≤ j ∧ j < l ∧ trn l t j = y := by
  refine ⟨(l - 1 + t - y) % l, Int.emod_nonneg _ (by omega), Int.emod_lt_of_pos _ hl, ?_⟩
  unfold trn
  have e := Int.emod_add_mul_ediv (l - 1 + t - y) l
  have e2 : l - 1 - (l - 1 + t - y) % l + t = y + l * ((l - 1 + t - y) / l) := by omega
  rw [e2, Int.add_mul_emod_self_left, Int.emod_eq_of_lt h0 h1]

/-- A slice of truths. -/
def Bools (w : World) (p : Option Addr) (l : Nat) (bs : List Bool) : Prop := l = bs.length ∧ ∀ (i : Nat) b, bs[i]? = some b → ∃ a, p = some a ∧ w.cell? (a.add i) = some (.bool b)

theorem Bools.ext {w' : World} {p : Option Addr} {l : Nat} {bs : List Bool} (h : Bools w p l bs) (he : Ext w w') : Bools w' p l bs :=
  ⟨h.1, fun i b hb => by obtain ⟨a, ha, hc⟩ := h.2 i b hb; exact ⟨a, ha, he.cell hc⟩⟩

theorem Bools.ix {p : Option Addr} {l : Nat} {bs : List Bool} {i : Int} {F : Addr → Prop} (h : Bools w p l bs) (h0 : 0 ≤ i) (h1 : i < l) (hF : ∀ a, w.cell? a = some (.bool (bs.getD i.toNat false)) → F a) : ixa p l i 1 F := by
  have hl := h.1
  have hi : i.toNat < bs.length := by omega
  obtain ⟨a, ha, hc⟩ := h.2 i.toNat _ (List.getElem?_eq_getElem hi)
  refine ⟨a, ha, h0, h1, hF _ ?_⟩
  rw [Nat.mul_one, hc, List.getD_eq_getElem?_getD, List.getElem?_eq_getElem hi]; rfl

theorem TallyAny_c {p : Option Addr} {l c : Nat} {turn : Int} (hb : ∃ bs, Bools w p l bs) (ht0 : 0 ≤ turn) (ht1 : turn < 256) :
    Cs Try.prog glaw16_TallyAny_n #[.slice p l c, .int .u8 turn] w (Ret fun v w' => v = .bool true ∧ Ext w w') := by
  apply glaw16_TallyAny_ok
  unfold glaw16_TallyAny
  refine cl_ret begun16_c ?_
  rintro v w1 ⟨rfl, he1⟩
  refine ⟨_, rfl, br_f ?_⟩
  refine br_if (fun _ => ⟨rfl, he1⟩) (fun hle => ?_)
  obtain ⟨bs, hbs⟩ := hb
  refine cl_ret tallyNew_c ?_
  rintro v w2 ⟨ta, ea, ma, rfl, hA2, he2, hta, hea, hma⟩
  refine ⟨_, rfl, ?_⟩
  refine cl_ret tallyNew_c ?_
  rintro v w3 ⟨tb, eb, mb, rfl, hB3, he3, htb, heb, hmb⟩
  refine ⟨_, rfl, ?_⟩
  have hA3 := hA2.ext he3
  have na : ta < w2.heap.size ∧ ea < w2.heap.size ∧ ma < w2.heap.size := ⟨hA2.tb.lt, hA2.eb.lt, hA2.mb.lt⟩
  have s1 := he1.size
  have s2 := he2.size
  have offA : ∀ b, TS tb eb mb b → ¬ (b = ta ∨ b = ea ∨ b = ma) := by intro b hb; rcases hb with rfl | rfl | rfl <;> omega
  have chgA : ∀ {w' w'' s}, TyAt w' ta ea ma s → Chg (TS tb eb mb) w' w'' → TyAt w'' ta ea ma s := fun h hc => h.chg hc (fun h => offA _ h (.inl rfl)) (fun h => offA _ h (.inr (.inl rfl))) (fun h => offA _ h (.inr (.inr rfl)))
  have chgB : ∀ {w' w'' s}, TyAt w' tb eb mb s → Chg (TS ta ea ma) w' w'' → TyAt w'' tb eb mb s := fun h hc => h.chg hc (by rintro (h | h | h) <;> omega) (by rintro (h | h | h) <;> omega) (by rintro (h | h | h) <;> omega)
  have extA : ∀ {w' w''}, Ext w w' → Chg (TS ta ea ma) w' w'' → Ext w w'' := fun h hc => h.then hc fun b hb => by rcases hb with rfl | rfl | rfl <;> omega
  have extB : ∀ {w' w''}, Ext w w' → Chg (TS tb eb mb) w' w'' → Ext w w'' := fun h hc => h.then hc fun b hb => by rcases hb with rfl | rfl | rfl <;> omega
  refine cl_ret (Got_c (n := 100) hA3 ty0_ok (by omega) (by omega) (fun _ => by simp [xN])) ?_
  rintro v w4 ⟨rfl, hA4, c4⟩
  refine ⟨_, _, rfl, ?_⟩
  refine cl_ret (Got_c (n := 100) (chgB hB3 c4) ty0_ok (by omega) (by omega) (fun _ => by simp [xN])) ?_
  rintro v w5 ⟨rfl, hB5, c5⟩
  refine ⟨_, _, rfl, ?_⟩
  have hA5 := chgA hA4 c5
  have he5 : Ext w w5 := extB (extA ((he1.trans he2).trans he3) c4) c5
  have hlen := hbs.1
  let cc : Nat → Bool := fun j => bs.getD j false
  have hcc : ∀ j, cc j = bs.getD j false := fun _ => rfl
  refine lp_step (fun m st w' => ∃ (i : Nat) (sa sb : Ty), st.2.2.2.2 = i ∧ i ≤ l ∧ Ext w w' ∧ TyAt w' ta ea ma sa ∧ TyAt w' tb eb mb sb ∧ TI sa (fun x => x = 65636 ∨ ∃ j : Nat, j < i ∧ cc j = true ∧ x = 65637 + (j : Int)) i ∧
      TI sb (fun x => x = 65636 ∨ ∃ j : Nat, j < i ∧ cc (trn l turn j).toNat = true ∧ x = 65637 + trn l turn j) i ∧ Cnt cc i st.1 st.2.1 st.2.2.1 st.2.2.2.1 ∧ m = l - i)
    _ ⟨0, _, _, rfl, by omega, he5, hA5, hB5, ?_, ?_, Cnt.start cc, rfl⟩ ?_
  · have h := TI.first
    exact ⟨h.since, h.has, h.ehas, h.late, h.t0, h.t1, fun x => by rw [h.mem]; constructor; exact .inl; rintro (h | ⟨j, hj, _⟩); exact h; omega, h.nd, h.top, h.bd⟩
  · have h := TI.first
    exact ⟨h.since, h.has, h.ehas, h.late, h.t0, h.t1, fun x => by rw [h.mem]; constructor; exact .inl; rintro (h | ⟨j, hj, _⟩); exact h; omega, h.nd, h.top, h.bd⟩
  rintro m _ ⟨n, row, most, top, ii⟩ w6 ⟨i, sa, sb, hi, hil, he6, hA, hB, tA, tB, hC, hm⟩ K hK
  simp only [] at hi hC
  subst hi
  have hr := hC.r; have hn0 := hC.n0; have hn1 := hC.n1; have ht1' := hC.t1; have hm0 := hC.m0; have hm1 := hC.m1
  refine br_if (fun hlt => ?_) (fun hge => ?_)
  · simp only [] at hlt
    have hlt' : i < l := by omega
    have hdec : l - (i + 1) < m := by omega
    refine ⟨by omega, ?_⟩
    have h6 := hbs.ext he6
    have htr0 : 0 ≤ trn l turn i := Int.emod_nonneg _ (by omega)
    have htr1 : trn l turn i < l := Int.emod_lt_of_pos _ (by omega)
    have hk : Int.tmod (IntKind.wrap .i64 (IntKind.wrap .i64 (IntKind.wrap .i64 ((l : Int) - 1) - (i : Int)) + IntKind.wrap .i64 turn)) (l : Int) = trn l turn i := by
      rw [w64 (n := (l : Int) - 1) (by omega) (by omega), w64 (n := (l : Int) - 1 - i) (by omega) (by omega), w64 (n := turn) (by omega) (by omega), w64 (by omega) (by omega), Int.tmod_eq_emod_of_nonneg (by omega)]
      rfl
    dsimp only
    rw [hk]
    generalize htr : trn l turn i = k at htr0 htr1
    have hw1 : IntKind.wrap .u16 (IntKind.wrap .i64 (101 + (i : Int))) = 101 + (i : Int) := by rw [w64 (by omega) (by omega), wu16 (by omega) (by omega)]
    have hw2 : IntKind.wrap .u16 (IntKind.wrap .i64 (101 + k)) = 101 + k := by rw [w64 (by omega) (by omega), wu16 (by omega) (by omega)]
    rw [hw1, hw2, w64 (n := n + 1) (by omega) (by omega), w64 (n := (i : Int) + 1) (by omega) (by omega), w64 (n := row + 1) (by omega) (by omega)]
    have hmx : (if most < row then row else most) = max most row := by omega
    rw [hmx]
    -- what b gets
    have putB : ∀ {w7 : World} {sa' : Ty} {n' row' most' top' : Int}, Ext w w7 → TyAt w7 ta ea ma sa' → TyAt w7 tb eb mb sb → TI sa' (fun x => x = 65636 ∨ ∃ j : Nat, j < i + 1 ∧ cc j = true ∧ x = 65637 + (j : Int)) (i + 1) → Cnt cc (i + 1) n' row' most' top' →
        (∀ w8, True → K (n', row', most', top', (i : Int) + 1) w8 → True) →
        ixa p l k 1 (fun a => ∃ b : Bool, World.cell? w7 a = some (.bool b) ∧ br b
          (cl Try.prog tally_Tally_Got_n #[.pointer (some ⟨tb, 0, none⟩), .int .u16 (101 + k)] w7 (fun v w' => ∃ (n30 : Int) (b31 : Bool), v = .tuple #[.int .u64 n30, .bool b31] ∧ K (n', row', most', top', (i : Int) + 1) w') (fun x w' => Ret (fun v w' => v = .bool true ∧ Ext w w') (.panicked x) w'))
          (K (n', row', most', top', (i : Int) + 1) w7)) := by
      intro w7 sa' n' row' most' top' he7 hA7 hB7 tA7 hC7 _
      refine (hbs.ext he7).ix htr0 htr1 fun a ha => ⟨_, ha, br_iff.2 ⟨fun hc => ?_, fun hc => ?_⟩⟩
      · refine cl_ret (Got_c (n := 101 + k) hB7 (tB.ok (by omega)) (by omega) (by omega) (fun h => by rw [tB.has] at h; cases h)) ?_
        rintro v w8 ⟨rfl, hB8, c8⟩
        refine ⟨_, _, rfl, hK (l - (i + 1)) _ _ hdec ⟨i + 1, sa', sb.got (101 + k), by simp, by omega, extB he7 c8, chgA hA7 c8, hB8, tA7, ?_, hC7, rfl⟩⟩
        have h8 := tB.got htr0 (show k < 20 by omega)
        refine ⟨h8.since, h8.has, h8.ehas, h8.late, h8.t0, h8.t1, fun x => ?_, h8.nd, h8.top, h8.bd⟩
        rw [h8.mem]
        constructor
        · rintro ((h | ⟨j, hj, h1, h2⟩) | rfl)
          · exact .inl h
          · exact .inr ⟨j, by omega, h1, h2⟩
          · exact .inr ⟨i, by omega, by rw [htr]; exact hc, by rw [htr]⟩
        · rintro (h | ⟨j, hj, h1, h2⟩)
          · exact .inl (.inl h)
          · by_cases e : j = i
            · subst e; rw [htr] at h2; exact .inr h2
            · exact .inl (.inr ⟨j, by omega, h1, h2⟩)
      · refine hK (l - (i + 1)) _ _ hdec ⟨i + 1, sa', sb, by simp, by omega, he7, hA7, hB7, tA7, ⟨tB.since, tB.has, tB.ehas, tB.late, tB.t0, by have := tB.t1; omega, fun x => ?_, tB.nd, tB.top, tB.bd⟩, hC7, rfl⟩
        rw [tB.mem]
        constructor
        · rintro (h | ⟨j, hj, h1, h2⟩)
          · exact .inl h
          · exact .inr ⟨j, by omega, h1, h2⟩
        · rintro (h | ⟨j, hj, h1, h2⟩)
          · exact .inl h
          · by_cases e : j = i
            · subst e; rw [htr] at h1; rw [hcc, hc] at h1; cases h1
            · exact .inr ⟨j, by omega, h1, h2⟩
    refine h6.ix (by omega) (by omega) fun a ha => ⟨_, ha, br_iff.2 ⟨fun hc => ?_, fun hc => ?_⟩⟩
    · have hci : cc i = true := by rw [hcc]; simpa using hc
      refine cl_ret (Got_c (n := 101 + (i : Int)) hA (tA.ok (by omega)) (by omega) (by omega) (fun h => by rw [tA.has] at h; cases h)) ?_
      rintro v w7 ⟨rfl, hA7, c7⟩
      refine ⟨_, _, rfl, ?_⟩
      refine putB (extA he6 c7) hA7 (chgB hB c7) ?_ (hC.yes hci) (fun _ _ _ => trivial)
      have h8 := tA.got (show (0 : Int) ≤ i by omega) (show (i : Int) < 20 by omega)
      refine ⟨h8.since, h8.has, h8.ehas, h8.late, h8.t0, h8.t1, fun x => ?_, h8.nd, h8.top, h8.bd⟩
      rw [h8.mem]
      constructor
      · rintro ((h | ⟨j, hj, h1, h2⟩) | rfl)
        · exact .inl h
        · exact .inr ⟨j, by omega, h1, h2⟩
        · exact .inr ⟨i, by omega, hci, rfl⟩
      · rintro (h | ⟨j, hj, h1, h2⟩)
        · exact .inl (.inl h)
        · by_cases e : j = i
          · subst e; exact .inr h2
          · exact .inl (.inr ⟨j, by omega, h1, h2⟩)
    · have hci : cc i = false := by rw [hcc]; simpa using hc
      refine putB he6 hA hB ⟨tA.since, tA.has, tA.ehas, tA.late, tA.t0, by have := tA.t1; omega, fun x => ?_, tA.nd, tA.top, tA.bd⟩ (hC.no hci) (fun _ _ _ => trivial)
      rw [tA.mem]
      constructor
      · rintro (h | ⟨j, hj, h1, h2⟩)
        · exact .inl h
        · exact .inr ⟨j, by omega, h1, h2⟩
      · rintro (h | ⟨j, hj, h1, h2⟩)
        · exact .inl h
        · by_cases e : j = i
          · subst e; rw [hci] at h1; cases h1
          · exact .inr ⟨j, by omega, h1, h2⟩
  · simp only [] at hge
    have hil' : i = l := by omega
    subst hil'
    have hso : U64.SortOk 49 := @U64.sortOk49
    refine cl_ret (Report_c hso (by decide) hA (tA.ok (by omega)) tA.has (by have := tA.len; omega) (fun x hx => by have := tA.bd x hx; omega)) ?_
    have q1 : IntKind.wrap .u64 (IntKind.wrap .u64 (65636 + top - 65635) - (n + 1)) = top - n := by rw [wu64 (n := 65636 + top - 65635) (by omega) (by omega), wu64 (by omega) (by omega)]; omega
    have q2 : mostN (top - n) = top - n := by unfold mostN; rw [if_neg (by omega), wu32 (by omega) (by omega)]
    have q3 : mostN (n + 1) = n + 1 := by unfold mostN; rw [if_neg (by omega), wu32 (by omega) (by omega)]
    have q4 : (if (65535 : Int) < most then (65535 : Int) else most) = most := if_neg (by omega)
    have hv : repV (65636 + top) 65635 (n + 1, most, 65636 + top) = .agg #[.int .u64 (65636 + top), .int .u32 (top - n), .int .u32 (n + 1), .int .u16 most, .int .u16 0] := by
      unfold repV
      dsimp only
      rw [q1, q2, q3, q4, wu16 hm0 (by omega)]
    rintro v w7 ⟨ksa, haa, hpa, hva, hA7, c7⟩
    have e1 : ksa = cameL cc i := asc_ext haa (cameL_asc cc i) fun y => by rw [hpa.mem_iff, tA.mem, cameL_mem]
    have hta' : sa.top = 65636 + top := by
      have h1 := hC.mx _ (e1 ▸ hpa.mem_iff.2 tA.top)
      have h2 := tA.bd _ (hpa.mem_iff.1 (e1.symm ▸ hC.mem))
      omega
    rw [e1, hta', tA.since, hC.f, hv] at hva
    subst hva
    refine ⟨_, _, _, _, _, rfl, ?_⟩
    have c7' : Chg (TS ta ea ma) w6 w7 := c7.mono fun _ _ h => .inl h
    refine cl_ret (Report_c hso (by decide) (chgB hB c7') (tB.ok (by omega)) tB.has (by have := tB.len; omega) (fun x hx => by have := tB.bd x hx; omega)) ?_
    rintro v w8 ⟨ksb, hab, hpb, hvb, hB8, c8⟩
    have he8 : Ext w w8 := extB (extA he6 c7') (c8.mono fun _ _ h => .inl h)
    have e2 : ksb = cameL cc i := asc_ext hab (cameL_asc cc i) fun y => by
      rw [hpb.mem_iff, tB.mem, cameL_mem]
      constructor
      · rintro (h | ⟨j, hj, h1, h2⟩)
        · exact .inl h
        · have q0 : 0 ≤ trn i turn j := Int.emod_nonneg _ (by omega)
          have q1 : trn i turn j < i := Int.emod_lt_of_pos _ (by omega)
          exact .inr ⟨(trn i turn j).toNat, by omega, h1, by omega⟩
      · rintro (h | ⟨j, hj, h1, h2⟩)
        · exact .inl h
        · obtain ⟨j', q0, q1, q2⟩ := trn_onto (l := i) (t := turn) (by omega) (y := j) (by omega) (by omega)
          refine .inr ⟨j'.toNat, by omega, ?_, ?_⟩
          · rw [show ((j'.toNat : Nat) : Int) = j' by omega, q2]; simpa using h1
          · rw [show ((j'.toNat : Nat) : Int) = j' by omega, q2]; exact h2
    have htb' : sb.top = 65636 + top := by
      have h1 := hC.mx _ (e2 ▸ hpb.mem_iff.2 tB.top)
      have h2 := tB.bd _ (hpb.mem_iff.1 (e2.symm ▸ hC.mem))
      omega
    rw [e2, htb', tB.since, hC.f, hv] at hvb
    subst hvb
    refine ⟨_, _, _, _, _, rfl, ?_⟩
    refine (Own.nil (fun _ => False) w8).al fun m0 w9 o9 he9 => ?_
    refine o9.al fun m1 w10 o10 he10 => ?_
    refine o10.stN 0 rfl (by rw [zc46]; rfl) (by simp [Value.oneCell']) fun w11 o11 c11 => ?_
    refine o11.stN 1 rfl (by rw [zc46]; rfl) (by simp [Value.oneCell']) fun w12 o12 c12 => ?_
    refine ⟨_, _, _, _, _, o12.all 0 rfl rfl, _, _, _, _, _, o12.all 1 rfl rfl, ?_⟩
    refine br_iff.2 ⟨fun _ => ?_, fun h => by simp at h⟩
    refine ⟨_, _, _, _, _, o12.all 0 rfl rfl, ?_⟩
    dsimp only
    rw [w64 (n := 65636 + top) (by omega) (by omega), w64 (n := top - n) (by omega) (by omega), w64 (n := n + 1) (by omega) (by omega), wu64 (by omega) (by omega), wu32 (n := top - n) (by omega) (by omega), wu32 (n := n + 1) (by omega) (by omega), wu16 (by omega) (by omega)]
    refine br_iff.2 ⟨fun _ => ?_, fun h => by simp at h⟩
    have hB12 := hB8.ext o12.chg
    refine cl_ret (Late_c hB12) ?_
    rintro v w13 ⟨rfl, rfl⟩
    refine ⟨_, rfl, ?_, he8.trans o12.chg⟩
    rw [show sb.late = 0 from tB.late]; rfl
end Go.SR
