/- Contracts: dice.of, next, Row; cut.Count. -/
import Derived.Test.YtmmcihbcceahkaaF1
namespace Go.SR
open Go Go.Proofs

abbrev W32 := BitVec 32

theorem w32_ofInt (a : W32) : BitVec.ofInt 32 (a.toNat : Int) = a := by
  apply BitVec.eq_of_toNat_eq
  rw [BitVec.toNat_ofInt]
  have := a.isLt
  omega

theorem w32_wrap (a : W32) : IntKind.wrap .u32 (a.toNat : Int) = (a.toNat : Int) := wu32 (by omega) (by have := a.isLt; omega)
theorem wrap32 (n : Int) : IntKind.wrap .u32 n = n % 4294967296 := by simp [IntKind.wrap, IntKind.bits, IntKind.signed]
theorem wrap8 (n : Int) : IntKind.wrap .u8 n = n % 256 := by simp [IntKind.wrap, IntKind.bits, IntKind.signed]

theorem w32_xor (a b : W32) : IntKind.wrap .u32 ((BitVec.ofInt 32 (a.toNat : Int) ^^^ BitVec.ofInt 32 (b.toNat : Int)).toNat : Int) = ((a ^^^ b).toNat : Int) := by
  rw [w32_ofInt, w32_ofInt, w32_wrap]

theorem w32_shl (a : W32) (k : Nat) : IntKind.wrap .u32 ((a.toNat : Int) * (2 : Int) ^ k) = ((a <<< k).toNat : Int) := by
  rw [wrap32, BitVec.toNat_shiftLeft, Nat.shiftLeft_eq]
  have : ((a.toNat : Int) * (2 : Int) ^ k) = ((a.toNat * 2 ^ k : Nat) : Int) := by simp
  rw [this]
  omega

theorem w32_shr (a : W32) (k : Nat) : Int.fdiv (a.toNat : Int) ((2 : Int) ^ k) = ((a >>> k).toNat : Int) := by
  rw [BitVec.toNat_ushiftRight, Nat.shiftRight_eq_div_pow]
  have : ((2 : Int) ^ k) = ((2 ^ k : Nat) : Int) := by simp
  rw [this, Int.fdiv_eq_ediv_of_nonneg _ (Int.natCast_nonneg _)]
  exact (Int.natCast_ediv _ _).symm

theorem w32_byte (a : W32) : IntKind.wrap .u8 (a.toNat : Int) = ((a.setWidth 8).toNat : Int) := by
  rw [wrap8, BitVec.toNat_setWidth]; omega

/-- The generator's next state, and its byte. -/
def dnext (x : W32) : W32 :=
  let x := x ^^^ (x <<< 13)
  let x := x ^^^ (x >>> 17)
  x ^^^ (x <<< 5)
def dbyte (x : W32) : By := (x >>> 11).setWidth 8

def dseed (frame symbol : Int) : W32 := let s := BitVec.ofInt 32 (frame * 2654435761 + symbol * 40503 + 1); if s = 0#32 then 1#32 else s

def dl : Nat → W32 → List By
  | 0, _ => []
  | n + 1, x => dbyte (dnext x) :: dl n (dnext x)

theorem dl_len : ∀ (n : Nat) (x : W32), (dl n x).length = n
  | 0, _ => rfl
  | n + 1, x => by simp [dl, dl_len n]

/-- The state behind so many bytes. -/
def dst : Nat → W32 → W32
  | 0, x => x
  | n + 1, x => dst n (dnext x)

theorem dst_succ : ∀ (n : Nat) (x : W32), dst (n + 1) x = dnext (dst n x)
  | 0, x => rfl
  | n + 1, x => by rw [dst, dst_succ n (dnext x)]; rfl

theorem dl_get : ∀ (n : Nat) (x : W32) (i : Nat), i < n → (dl n x)[i]? = some (dbyte (dst (i + 1) x))
  | 0, x, i, h => by omega
  | n + 1, x, 0, h => rfl
  | n + 1, x, i + 1, h => by
    rw [dl, List.getElem?_cons_succ, dl_get n (dnext x) i (by omega)]; rfl

/-- A symbol's row. -/
def rowL (frame symbol : Int) (k : Nat) : List By :=
  if symbol < k then (List.replicate k 0#8).set symbol.toNat 1#8
  else if (dl k (dseed frame symbol)).all (· == 0#8) then (dl k (dseed frame symbol)).set 0 1#8 else dl k (dseed frame symbol)

theorem rowL_len (frame symbol : Int) (k : Nat) : (rowL frame symbol k).length = k := by
  unfold rowL
  split
  · simp
  · split <;> simp [dl_len]

variable {w : World}

theorem diceNext_c {d : Nat} {x : W32} (h : At w d #[.int .u32 (x.toNat : Int)] 204) :
    Cs Try.prog dice_die_next_n #[.pointer (some ⟨d, 0, none⟩)] w (Ret fun v w' => v = bv (dbyte (dnext x)) ∧ At w' d #[.int .u32 ((dnext x).toNat : Int)] 204 ∧ Chg (fun y => y = d) w w') := by
  apply dice_die_next_ok
  unfold dice_die_next
  refine dr_step fun w1 _ he1 => nc_s ?_
  have a1 := h.ext he1
  refine ⟨_, by rw [a1.cell]; rfl, nc_s ⟨_, by rw [a1.cell]; rfl, by omega, nc_s ?_⟩⟩
  simp only [show (Min.min (Int.toNat (13 : Int)) 32) = 13 by decide, show (Min.min (Int.toNat (17 : Int)) 32) = 17 by decide, show (Min.min (Int.toNat (5 : Int)) 32) = 5 by decide, show (Min.min (Int.toNat (11 : Int)) 32) = 11 by decide]
  rw [w32_shl, w32_xor]
  generalize hx1 : x ^^^ x <<< 13 = x1
  refine st1_step a1 (by simp) rfl fun w2 a2 c2 => ?_
  refine dr_step fun w3 _ he3 => nc_s ?_
  have a3 : At w3 d #[.int .u32 (x1.toNat : Int)] 204 := At.ext a2 he3
  refine ⟨_, by rw [a3.cell]; rfl, nc_s ⟨_, by rw [a3.cell]; rfl, by omega, nc_s ?_⟩⟩
  rw [w32_shr, w32_xor]
  generalize hx2 : x1 ^^^ x1 >>> 17 = x2
  refine st1_step a3 (by simp) rfl fun w4 a4 c4 => ?_
  refine dr_step fun w5 _ he5 => nc_s ?_
  have a5 : At w5 d #[.int .u32 (x2.toNat : Int)] 204 := At.ext a4 he5
  refine ⟨_, by rw [a5.cell]; rfl, nc_s ⟨_, by rw [a5.cell]; rfl, by omega, nc_s ?_⟩⟩
  rw [w32_shl, w32_xor]
  have hx3 : x2 ^^^ x2 <<< 5 = dnext x := by subst hx2 hx1; rfl
  rw [hx3]
  refine st1_step a5 (by simp) rfl fun w6 a6 c6 => nc_s ?_
  refine ⟨_, by rw [a6.cell]; rfl, by omega, ?_, a6, ?_⟩
  · rw [w32_shr, w32_byte]; rfl
  · exact ((((he1.any.trans c2).ext he3).trans c4).ext he5).trans c6

theorem seed_eq {frame symbol : Int} : (if IntKind.wrap .u32 (IntKind.wrap .u32 (IntKind.wrap .u32 (frame * (2654435761 : Int)) + IntKind.wrap .u32 (IntKind.wrap .u32 symbol * (40503 : Int))) + (1 : Int)) < (1 : Int) then (1 : Int) else
    IntKind.wrap .u32 (IntKind.wrap .u32 (IntKind.wrap .u32 (frame * (2654435761 : Int)) + IntKind.wrap .u32 (IntKind.wrap .u32 symbol * (40503 : Int))) + (1 : Int))) = ((dseed frame symbol).toNat : Int) := by
  have e : IntKind.wrap .u32 (IntKind.wrap .u32 (IntKind.wrap .u32 (frame * (2654435761 : Int)) + IntKind.wrap .u32 (IntKind.wrap .u32 symbol * (40503 : Int))) + (1 : Int)) = (frame * 2654435761 + symbol * 40503 + 1) % 4294967296 := by
    simp only [wrap32]
    omega
  rw [e]
  unfold dseed
  have e2 : ((BitVec.ofInt 32 (frame * 2654435761 + symbol * 40503 + 1)).toNat : Int) = (frame * 2654435761 + symbol * 40503 + 1) % 4294967296 := by
    rw [BitVec.toNat_ofInt]
    omega
  dsimp only
  by_cases h : BitVec.ofInt 32 (frame * 2654435761 + symbol * 40503 + 1) = 0#32
  · rw [if_pos h]
    have e3 : (frame * 2654435761 + symbol * 40503 + 1) % 4294967296 = 0 := by rw [← e2, h]; rfl
    rw [e3, if_pos (by decide)]; simp
  · rw [if_neg h, ← e2]
    clear e e2
    generalize BitVec.ofInt 32 (frame * 2654435761 + symbol * 40503 + 1) = s at h ⊢
    have h0 : s.toNat ≠ 0 := fun h0 => h (BitVec.eq_of_toNat_eq h0)
    rw [if_neg (by omega)]

theorem diceOf_c {frame symbol : Int} : Cs Try.prog dice_of_n #[.int .u32 frame, .int .i64 symbol] w (Ret fun v w' => ∃ d, v = .pointer (some ⟨d, 0, none⟩) ∧ At w' d #[.int .u32 ((dseed frame symbol).toNat : Int)] 204 ∧ Ext w w' ∧ w.heap.size ≤ d) := by
  apply dice_of_ok
  unfold dice_of
  rw [seed_eq]
  exact al_step fun d w1 a1 he1 hb1 => ⟨d, rfl, a1, he1, hb1⟩

theorem made_zeros (n : Nat) : (madeCells (Value.cells (.int .u8 0)) (n * 1)).toList = (List.replicate n 0#8).map bv := by
  apply List.ext_getElem?
  intro i
  rw [Nat.mul_one]
  simp only [madeCells, Array.toList_map, List.getElem?_map, Array.toList_range, List.getElem?_replicate]
  by_cases h : i < n
  · rw [if_pos h, List.getElem?_range h]; simp [Value.cells, Nat.mod_one, bv]
  · rw [if_neg h, List.getElem?_eq_none (by simpa using h)]; rfl

/-- make([]byte, n) -/
theorem make_bytes {F : Value → World → Prop} {n : Nat} {x y : Int} (hx : x = n) (hy : y = n) (hn : n ≤ 1000000)
    (hF : ∀ p w', RowB w' w.heap.size p n n (List.replicate n 0#8) → Ext w w' → F (.slice p n n) w') : rnV Try.prog (Instr.makeSlice 22 (.int .i64 x) (.int .i64 y)) w F :=
  make_step (n := n) (sz := 1) (bytes := 1) und22 inf5 hx hy (by omega) (by omega) (by omega) (Nat.le_refl _) fun p w' hr he => hF p w' (by rw [made_zeros] at hr; exact hr) he

theorem allz_iff (l : List By) : (l.foldl (· ||| ·) 0#8 = 0#8) ↔ l.all (· == 0#8) = true := by
  have : ∀ (l : List By) (a : By), l.foldl (· ||| ·) a = 0#8 ↔ a = 0#8 ∧ l.all (· == 0#8) = true := by
    intro l
    induction l with
    | nil => simp
    | cons b l ih =>
      intro a
      rw [List.foldl_cons, ih]
      simp only [List.all_cons, Bool.and_eq_true, beq_iff_eq]
      rw [BitVec.or_eq_zero_iff]
      exact and_assoc
  rw [this]; simp

theorem diceRow_c {frame symbol k : Int} :
    Cs Try.prog dice_Row_n #[.int .u32 frame, .int .i64 symbol, .int .i64 k] w (Ret fun v w' =>
      if 1 ≤ k ∧ k ≤ 32 ∧ 0 ≤ symbol ∧ symbol < k + 64 then ∃ p l c, v = .tuple #[.slice p l c, .bool true] ∧ RowB w' w.heap.size p l c (rowL frame symbol k.toNat) ∧ Ext w w'
      else v = .tuple #[.slice none 0 0, .bool false] ∧ w' = w) := by
  apply dice_Row_ok
  unfold dice_Row
  refine jn_step (fun _ w' => w' = w ∧ 1 ≤ k ∧ k ≤ 32 ∧ 0 ≤ symbol ∧ symbol < k + 64) ?_ ?_
  · rintro _ _ w0 ⟨rfl, hk1, hk2, hs0, hs1⟩
    obtain ⟨n, rfl⟩ : ∃ n : Nat, k = n := ⟨k.toNat, by omega⟩
    refine make_bytes rfl rfl (by omega) fun p w1 hr1 he1 => ?_
    refine ⟨_, _, _, rfl, ?_⟩
    show br _ _ _
    refine br_if (fun hlt => ?_) (fun hge0 => ?_)
    · refine hr1.wr (x := 1#8) rfl hs0 (by omega) fun w2 hr2 hc2 => ?_
      show if _ then _ else _
      rw [if_pos ⟨hk1, hk2, hs0, hs1⟩]
      refine ⟨p, n, n, rfl, ?_, Ext.then he1 hc2 fun b hb => Row.base hr1 b hb⟩
      have : rowL frame symbol (n : Int).toNat = (List.replicate n 0#8).set symbol.toNat 1#8 := by
        unfold rowL; rw [Int.toNat_natCast, if_pos hlt]
      rw [this]; exact hr2
    · refine cl_ret diceOf_c ?_
      rintro v w2 ⟨d, rfl, a2, he2, hd2⟩
      refine ⟨_, rfl, ?_⟩
      have hr2 : RowB w2 _ _ _ _ _ := Row.ext hr1 he2
      generalize hx : dseed frame symbol = x at a2
      have hdl := dl_len n x
      have hsz := he1.size
      have hnd : ∀ {w' p' l' c' bs} {b cs}, RowB w' w0.heap.size p' l' c' bs → At w' b cs 204 → ¬ rowS (.slice p' l' c') b := fun h ha => Row.not h ha (by decide)
      refine lp_step (fun m st w' => ∃ i : Nat, st.2 = i ∧ i ≤ n ∧ RowB w' w0.heap.size p n n ((dl n x).take i ++ (List.replicate n 0#8).drop i) ∧ At w' d #[.int .u32 ((dst i x).toNat : Int)] 204 ∧ st.1 = ((((dl n x).take i).foldl (· ||| ·) 0#8).toNat : Int) ∧ Ext w0 w' ∧ m = n - i)
        _ ⟨0, rfl, by omega, by simpa using hr2, a2, rfl, he1.trans he2, rfl⟩ ?_
      rintro m _ ⟨all, ii⟩ w3 ⟨i, hi, hin, hr3, a3, hall, he3, hm⟩ K hK
      simp only [] at hi hall
      subst hi hall
      refine br_if (fun hlt => ?_) (fun hge => ?_)
      · simp only [] at hlt
        have hi' : i < n := by omega
        refine ⟨_, _, _, rfl, ?_⟩
        refine cl_ret (R := fun v w' => v = bv (dbyte (dst (i + 1) x)) ∧ At w' d #[.int .u32 ((dst (i + 1) x).toNat : Int)] 204 ∧ Chg (fun y => y = d) w3 w') (by rw [dst_succ]; exact diceNext_c a3) ?_
        rintro v w4 ⟨rfl, a4, c4⟩
        refine ⟨_, rfl, ?_⟩
        have hr4 : RowB w4 w0.heap.size p n n _ := Row.chg hr3 c4 (Off.of_at a3 (by decide))
        have hg := dl_get n x i hi'
        generalize dbyte (dst (i + 1) x) = b at hg
        dsimp only
        have hset : ((dl n x).take i ++ (List.replicate n 0#8).drop i).set i b = (dl n x).take (i + 1) ++ (List.replicate n 0#8).drop (i + 1) := by
          apply List.ext_getElem?
          intro j
          simp only [List.getElem?_set, List.length_append, List.length_take, List.length_drop, List.length_replicate, hdl, List.getElem?_append, List.getElem?_take, List.getElem?_drop, List.getElem?_replicate, Nat.min_eq_left hin, Nat.min_eq_left (show i + 1 ≤ n from hi')]
          by_cases e : i = j
          · subst e
            rw [if_pos rfl, if_pos (by omega), if_pos (by omega), if_pos (by omega), hg]
          · rw [if_neg e]
            by_cases h1 : j < i
            · rw [if_pos (by omega), if_pos h1, if_pos (by omega), if_pos (by omega)]
            · rw [if_neg h1, if_neg (show ¬ j < i + 1 by omega), show i + (j - i) = j by omega, show i + 1 + (j - (i + 1)) = j by omega]
        refine hr4.wr (x := b) rfl (by omega) (by omega) fun w5 hr5 hc5 => ?_
        rw [show ((i : Int)).toNat = i by omega, hset] at hr5
        have hb5 := hr5.byr (by simp [hdl]; omega)
        refine hb5.ix (by omega) (by simp [hdl]; omega) fun a ha => ⟨_, ha, ?_⟩
        have hv : vec (List.take (i + 1) (dl n x) ++ List.drop (i + 1) (List.replicate n 0#8)) (i : Int).toNat = b := by
          rw [show ((i : Int)).toNat = i by omega]
          simp only [vec, List.getD_eq_getElem?_getD]
          rw [List.getElem?_append_left (by simp [hdl]; omega), List.getElem?_take, if_pos (by omega), hg]; rfl
        rw [hv]
        have hfold : IntKind.wrap .u8 ((BitVec.ofInt 8 ((((dl n x).take i).foldl (· ||| ·) 0#8).toNat : Int) ||| BitVec.ofInt 8 (b.toNat : Int)).toNat : Int) = ((((dl n x).take (i + 1)).foldl (· ||| ·) 0#8).toNat : Int) := by
          rw [by_or, List.take_add_one, hg]
          simp
        rw [hfold, w64 (by omega) (by omega)]
        have hnr := hnd hr4 a4
        refine hK (n - (i + 1)) _ _ (by omega) ⟨i + 1, by simp, by omega, hr5, a4.chg hc5 hnr, rfl, ?_, rfl⟩
        exact Ext.then (Ext.then he3 c4 fun b hb => by omega) hc5 fun b hb => Row.base hr4 b hb
      · simp only [] at hge
        have : i = n := by omega
        subst this
        rw [List.take_of_length_le (by omega), List.drop_of_length_le (by simp), List.append_nil] at hr3
        rw [List.take_of_length_le (by omega)]
        have hR : rowL frame symbol (i : Int).toNat = if (dl i x).all (· == 0#8) then (dl i x).set 0 1#8 else dl i x := by
          unfold rowL; rw [Int.toNat_natCast, if_neg hge0, hx]
        refine br_iff.2 ⟨fun h0 => ?_, fun h0 => ?_⟩
        · have hz : (dl i x).all (· == 0#8) = true := (allz_iff _).1 (by_zero.1 (by simpa using h0))
          refine hr3.wr (x := 1#8) rfl (by omega) (by omega) fun w4 hr4 hc4 => ?_
          show if _ then _ else _
          rw [if_pos ⟨hk1, hk2, hs0, hs1⟩]
          refine ⟨p, i, i, rfl, ?_, Ext.then he3 hc4 fun b hb => Row.base hr3 b hb⟩
          rw [hR, if_pos hz]; exact hr4
        · have hz : ¬ (dl i x).all (· == 0#8) = true := fun h => by
            have := (allz_iff _).2 h
            rw [this] at h0; simp at h0
          show if _ then _ else _
          rw [if_pos ⟨hk1, hk2, hs0, hs1⟩]
          refine ⟨p, i, i, rfl, ?_, he3⟩
          rw [hR, if_neg hz]; exact hr3
  · have no : ¬ (1 ≤ k ∧ k ≤ 32 ∧ 0 ≤ symbol ∧ symbol < k + 64) → Ret (fun v w' => if 1 ≤ k ∧ k ≤ 32 ∧ 0 ≤ symbol ∧ symbol < k + 64 then ∃ p l c, v = .tuple #[.slice p l c, .bool true] ∧ RowB w' w.heap.size p l c (rowL frame symbol k.toNat) ∧ Ext w w'
        else v = .tuple #[.slice none 0 0, .bool false] ∧ w' = w) (.returned (.tuple #[.slice none 0 0, .bool false])) w := fun h => by
      show if _ then _ else _
      rw [if_neg h]; exact ⟨rfl, rfl⟩
    refine br_if (fun h => no (by omega)) (fun h1 => br_if (fun h => no (by omega)) (fun h2 => br_if (fun h => no (by omega)) (fun h3 => ?_)))
    rw [w64 (by omega) (by omega)]
    exact br_if (fun h => no (by omega)) (fun h4 => ⟨rfl, by omega, by omega, by omega, by omega⟩)

/-- How many symbols a text has. -/
def cntOk (size symbol : Int) : Bool := decide (1 ≤ symbol ∧ symbol ≤ 64 ∧ 1 ≤ size ∧ size ≤ 32 * symbol)
def cntK (size symbol : Int) : Int := if cntOk size symbol then (size + symbol - 1) / symbol else 0

theorem cnt_bd {size symbol : Int} (h : cntOk size symbol = true) : 1 ≤ (size + symbol - 1) / symbol ∧ (size + symbol - 1) / symbol ≤ 32 ∧ ((size + symbol - 1) / symbol - 1) * symbol < size ∧ size ≤ ((size + symbol - 1) / symbol) * symbol := by
  obtain ⟨h1, h2, h3, h4⟩ := of_decide_eq_true h
  have e := Int.emod_add_mul_ediv (size + symbol - 1) symbol
  have m0 := Int.emod_nonneg (size + symbol - 1) (show symbol ≠ 0 by omega)
  have m1 := Int.emod_lt_of_pos (size + symbol - 1) (show 0 < symbol by omega)
  generalize (size + symbol - 1) / symbol = q at e ⊢
  generalize (size + symbol - 1) % symbol = r at e m0 m1
  have hmul : symbol * q = q * symbol := Int.mul_comm _ _
  have hm1 : (q - 1) * symbol = q * symbol - symbol := by rw [Int.sub_mul, Int.one_mul]
  refine ⟨?_, ?_, by omega, by omega⟩
  · rcases Int.lt_or_le q 1 with h | h
    · exfalso
      have : q * symbol ≤ 0 := by
        have := Int.mul_le_mul_of_nonneg_right (show q ≤ 0 by omega) (show 0 ≤ symbol by omega)
        simpa using this
      omega
    · exact h
  · rcases Int.lt_or_le 32 q with h | h
    · exfalso
      have := Int.mul_le_mul_of_nonneg_right (show 33 ≤ q by omega) (show 0 ≤ symbol by omega)
      omega
    · exact h

theorem count_c {size symbol : Int} : Cs Try.prog cut_Count_n #[.int .i64 size, .int .i64 symbol] w (Ret fun v w' => v = .tuple #[.int .i64 (cntK size symbol), .bool (cntOk size symbol)] ∧ w' = w) := by
  apply cut_Count_ok
  unfold cut_Count
  have no : ¬ (1 ≤ symbol ∧ symbol ≤ 64 ∧ 1 ≤ size ∧ size ≤ 32 * symbol) → Ret (fun v w' => v = .tuple #[.int .i64 (cntK size symbol), .bool (cntOk size symbol)] ∧ w' = w) (.returned (.tuple #[.int .i64 0, .bool false])) w := fun h => by
    have : cntOk size symbol = false := decide_eq_false h
    refine ⟨?_, rfl⟩
    rw [this]; simp [cntK, this]
  refine br_if (fun h => no (by omega)) (fun h1 => br_if (fun h => no (by omega)) (fun h2 => br_if (fun h => no (by omega)) (fun h3 => ?_)))
  rw [w64 (n := 32 * symbol) (by omega) (by omega)]
  refine br_if (fun h => no (by omega)) (fun h4 => ?_)
  have hok : cntOk size symbol = true := decide_eq_true ⟨by omega, by omega, by omega, by omega⟩
  have hb := cnt_bd hok
  refine ⟨by omega, ?_, rfl⟩
  rw [w64 (n := size + symbol) (by omega) (by omega), w64 (n := size + symbol - 1) (by omega) (by omega), Int.tdiv_eq_ediv_of_nonneg (by omega), w64 (by omega) (by omega)]
  rw [hok]; simp [cntK, hok]
end Go.SR
