/- Contracts: cut.Join, basin.Basin. -/
import Derived.Test.YtmmcihbcceahkaaF5
namespace Go.SR
open Go Go.Proofs

variable {w : World}

theorem und20 : ∃ ms, Try.prog.underlying 20 = some (.interface ms) := ⟨#[], by kernel_rfl⟩
theorem zc22 : zc Try.prog 22 = #[.slice none 0 0] := by kernel_rfl
theorem zc4 : zc Try.prog 4 = #[.bool false] := by kernel_rfl

theorem rec107 : ∃ A, RecBody Try.f107 20 2 3 4 5 A :=
  ⟨_, ⟨_, _, _, _, _, _, rfl, rfl, rfl, rfl, rfl, rfl, rfl, rfl, rfl, rfl, ⟨_, rfl⟩, rfl, rfl⟩, rfl, by decide⟩

theorem whole_c {p : Option Addr} {l c n : Nat} {ls : List (List By)} (h : Lls w p l ls) (hn : ∀ bs ∈ ls, bs.length = n) (hs : ls.flatten.length ≤ 1000000) (hl62 : ls.length < 1000000) :
    Cs Try.prog cut_whole_n #[.slice p l c] w (Ret fun v w' => ∃ q l' c', v = .slice q l' c' ∧ RowB w' w.heap.size q l' c' ls.flatten ∧ Ext w w') := by
  apply cut_whole_ok
  unfold cut_whole
  have hl := h.1
  refine lp_step (fun m st w' => w' = w ∧ ∃ i : Nat, st = i ∧ i ≤ ls.length ∧ m = ls.length - i) _ ⟨rfl, 0, rfl, by omega, rfl⟩ ?_
  rintro m _ _ w1 ⟨rfl, i, rfl, hin, hm⟩ K hK
  refine br_if (fun hlt => ?_) (fun hge => ?_)
  · have mem : ∀ j : Nat, j < ls.length → (ls.getD j []).length = n := fun j hj => hn _ (by rw [List.getD_eq_getElem?_getD, List.getElem?_eq_getElem hj]; exact List.getElem_mem hj)
    refine h.ix (by omega) (by omega) fun a q ql qc ha hq hr => ⟨_, _, _, ha, ?_⟩
    refine h.ix (by omega) (by omega) fun a2 q2 ql2 qc2 ha2 hq2 hr2 => ⟨_, _, _, ha2, ?_⟩
    have e1 := hr.len
    have e2 := hr2.len
    rw [mem _ (by omega)] at e1 e2
    refine br_iff.2 ⟨fun hne => ?_, fun _ => ?_⟩
    · exfalso; simp at hne; omega
    · rw [w64 (by omega) (by omega)]
      exact hK (ls.length - (i + 1)) _ _ (by omega) ⟨rfl, i + 1, by simp, by omega, rfl⟩
  · refine cl_ret (concat_c h hs hl62) ?_
    rintro v w2 ⟨q, l', c', rfl, hr, he⟩
    exact ⟨_, _, _, rfl, _, _, _, rfl, hr, he⟩

theorem flatten_const {α : Type} {ls : List (List α)} {n : Nat} (h : ∀ bs ∈ ls, bs.length = n) : ls.flatten.length = ls.length * n := by
  induction ls with
  | nil => simp
  | cons a ls ih =>
    rw [List.flatten_cons, List.length_append, ih fun bs hb => h bs (List.mem_cons_of_mem _ hb), h a (List.mem_cons_self ..), List.length_cons, Nat.add_mul, Nat.one_mul, Nat.add_comm]

theorem join_c {p : Option Addr} {l c : Nat} {size n : Int} {ls : List (List By)} (h : Lls w p l ls) (hn : ∀ bs ∈ ls, (bs.length : Int) = n) (hok : cntOk size n = true) (hk : (ls.length : Int) = cntK size n) :
    Cs Try.prog cut_Join_n #[.slice p l c, .int .i64 size] w (Ret fun v w' => ∃ q l' c', v = .tuple #[.slice q l' c', .bool true] ∧ RowB w' w.heap.size q l' c' (ls.flatten.take size.toNat) ∧ Ext w w') := by
  apply cut_Join_ok
  unfold cut_Join
  have hl := h.1
  have hb := cnt_bd hok
  obtain ⟨g1, g2, g3, g4⟩ := of_decide_eq_true hok
  have hkk : cntK size n = (size + n - 1) / n := by unfold cntK; rw [if_pos hok]
  obtain ⟨N, rfl⟩ : ∃ N : Nat, n = N := ⟨n.toNat, by omega⟩
  have hn' : ∀ bs ∈ ls, bs.length = N := fun bs hb => by have := hn bs hb; omega
  have hfl := flatten_const hn'
  have hflb : ls.flatten.length ≤ 2048 := by
    rw [hfl]
    have : ls.length ≤ 32 := by omega
    exact Nat.le_trans (Nat.mul_le_mul this (show N ≤ 64 by omega)) (by omega)
  have hszb : size ≤ ls.flatten.length := by
    rw [hfl, Int.natCast_mul, hk, hkk]; exact hb.2.2.2
  refine al_step fun m0 w1 a1 he1 hb1 => ?_
  refine al_step fun m2 w3 a3 he3 hb3 => ?_
  rw [zc22] at a1
  rw [zc4] at a3
  have he13 := he1.trans he3
  have hm0 : At w3 m0 _ 22 := a1.ext he3
  refine br_iff.2 ⟨fun h0 => ?_, fun _ => ?_⟩
  · exfalso; simp at h0; omega
  refine cl_ret (whole_c (h.ext he13) hn' (by omega) (by omega)) ?_
  rintro v w4 ⟨q4, l4, c4, rfl, hr4, he4⟩
  refine ⟨_, _, _, rfl, ?_⟩
  have he04 := he13.trans he4
  refine ((h.ext he04).ix (by omega) (by omega) fun a q ql qc ha hq hr => ⟨_, _, _, ha, ?_⟩)
  have e1 := hr.len
  have hN : ql = N := by
    rw [e1]; exact hn' _ (by rw [List.getD_eq_getElem?_getD, List.getElem?_eq_getElem (show (0 : Int).toNat < ls.length by omega)]; exact List.getElem_mem _)
  subst hN
  refine cl_ret count_c ?_
  rintro v w5 ⟨rfl, rfl⟩
  refine ⟨_, _, rfl, ?_⟩
  rw [hok]
  refine br_f (br_iff.2 ⟨fun hne => ?_, fun _ => ?_⟩)
  · exfalso; simp at hne; omega
  have hb4 := hr4.byr (by omega)
  have hl4 := hr4.lenB
  have hcap := hr4.cap
  refine pv_upto und22 siz5 (by omega) (by omega) ⟨_, _, _, rfl, ?_⟩
  refine cl_ret (cloneB_c (hb4.upto (n := size.toNat) (by omega)) (by rw [List.length_take]; omega)) ?_
  rintro v w6 ⟨q6, l6, c6, rfl, hr6, he6⟩
  refine ⟨_, _, _, rfl, ?_⟩
  have hm06 : At w6 m0 _ 22 := (hm0.ext he4).ext he6
  have hm26 : At w6 m2 _ 4 := (a3.ext he4).ext he6
  refine st1_step hm06 (by simp) rfl fun w7 a7 c7 => ?_
  have hne : m2 ≠ m0 := hm26.ne_type hm06 (by decide)
  have hm27 := hm26.chg c7 hne
  refine st1_step hm27 (by simp) rfl fun w8 a8 c8 => ?_
  have hm08 := At.chg a7 c8 (fun h => hne h.symm)
  obtain ⟨A, hrec⟩ := rec107
  obtain ⟨ms, hms⟩ := und20
  refine dcl_nil (by kernel_rfl) Try.func107 hrec hms (show 2 ≤ 6 by decide) ?_
  refine ⟨_, _, _, by rw [hm08.cell]; rfl, _, by rw [a8.cell]; rfl, ?_⟩
  have hr8 : RowB w8 w5.heap.size q6 l6 c6 _ := (Row.chg (Row.chg hr6 c7 (Off.of_at hm06 (by decide))) c8 (Off.of_at hm27 (by decide)))
  have s1 := he1.size
  refine ⟨_, _, _, rfl, Row.base_mono hr8 he04.size, ?_⟩
  exact Ext.then (Ext.then (Chg.trans he04 he6) c7 fun b hb => by omega) c8 fun b hb => by omega

/-! ### a Basin -/

/-- A Basin lies in block bn, its lines in map mb. -/
def BasinOk (w : World) (bn mb f : Nat) (frame size symbol : Int) (R : List V) : Prop :=
  cntOk size symbol = true ∧ ∃ b, At w bn #[.pointer (some ⟨b, 0, none⟩), .int .u32 frame, .int .i64 (cntK size symbol), .int .i64 size, .int .i64 symbol] 155 ∧ BasisOk w b mb f (cntK size symbol).toNat symbol.toNat R

theorem BasinOk.nc {S : Nat → Prop} {w w' : World} {bn mb f : Nat} {frame size symbol : Int} {R : List V} (h : BasinOk w bn mb f frame size symbol R) (hn : NoCells S w) (hc : Chg S w w') (hmb : ¬ S mb) : BasinOk w' bn mb f frame size symbol R := by
  obtain ⟨h0, b, h1, h2⟩ := h
  exact ⟨h0, b, hn.at hc h1, h2.nc hn hc hmb⟩
theorem BasinOk.ext {w w' : World} {bn mb f : Nat} {frame size symbol : Int} {R : List V} (h : BasinOk w bn mb f frame size symbol R) (he : Ext w w') : BasinOk w' bn mb f frame size symbol R := h.nc (noCells_false w) he id
theorem BasinOk.map {w : World} {bn mb f : Nat} {frame size symbol : Int} {R : List V} (h : BasinOk w bn mb f frame size symbol R) : ∃ m, MapAt w mb .i64 m := by
  obtain ⟨_, b, _, h2⟩ := h; exact h2.map
theorem BasinOk.len {w : World} {bn mb f : Nat} {frame size symbol : Int} {R : List V} (h : BasinOk w bn mb f frame size symbol R) : (R.length : Int) ≤ cntK size symbol := by
  obtain ⟨h0, b, _, hbd, P, X, _, h2⟩ := h
  have : P.length ≤ (List.range (cntK size symbol).toNat).length := nodup_len h2.piv.nd fun x hx => List.mem_range.2 (h2.lt x hx)
  rw [List.length_range, h2.len] at this
  have := cnt_bd h0
  have e : cntK size symbol = (size + symbol - 1) / symbol := by unfold cntK; rw [if_pos h0]
  omega

theorem cntK_bd {size symbol : Int} (h : cntOk size symbol = true) : 1 ≤ cntK size symbol ∧ cntK size symbol ≤ 32 ∧ 1 ≤ symbol ∧ symbol ≤ 64 := by
  have hb := cnt_bd h
  obtain ⟨g1, g2, g3, g4⟩ := of_decide_eq_true h
  have e : cntK size symbol = (size + symbol - 1) / symbol := by unfold cntK; rw [if_pos h]
  omega

/-- May a symbol be, and does it say more? -/
def SymOk (frame size symbol : Int) (R : List V) (id : Int) (data : List By) : Prop :=
  0 ≤ id ∧ id < cntK size symbol + 64 ∧ (data.length : Int) = symbol ∧ More (cntK size symbol).toNat R (vec (rowL frame id (cntK size symbol).toNat ++ data))

theorem basinNew_c {fb : Nat} {frame size symbol : Int} (hf : FieldAt w fb) :
    Cs Try.prog basin_New_n #[.pointer (some ⟨fb, 0, none⟩), .int .u32 frame, .int .i64 size, .int .i64 symbol] w (Ret fun v w' => Ext w w' ∧
      if cntOk size symbol then ∃ bn mb, v = .tuple #[.pointer (some ⟨bn, 0, none⟩), .bool true] ∧ BasinOk w' bn mb fb frame size symbol [] ∧ w.heap.size ≤ bn ∧ w.heap.size ≤ mb else v = .tuple #[.pointer none, .bool false]) := by
  apply basin_New_ok
  unfold basin_New
  refine cl_ret count_c ?_
  rintro v w1 ⟨rfl, rfl⟩
  refine ⟨_, _, rfl, ?_⟩
  cases hok : cntOk size symbol with
  | false => exact br_t ⟨Ext.refl _, rfl⟩
  | true =>
    have hb := cntK_bd hok
    refine br_f ?_
    refine cl_ret (basisNew_c (k := cntK size symbol) (size := symbol) hf (by omega)) ?_
    rintro v w2 ⟨b, mb, rfl, hbo, he2, hb2, hmb2⟩
    refine ⟨_, _, rfl, br_f ?_⟩
    refine al_step fun bn w3 a3 he3 hb3 => ?_
    have := he2.size
    refine ⟨he2.trans he3, ?_⟩
    rw [if_pos rfl]
    exact ⟨bn, mb, rfl, ⟨hok, b, a3, hbo.ext he3⟩, by omega, hmb2⟩

variable {bn mb f : Nat} {frame size symbol : Int} {R : List V}

theorem basinAdd_c {id : Int} {p : Option Addr} {pl pc : Nat} {data : List By} (h : BasinOk w bn mb f frame size symbol R) (hd : Byr w p pl data) (hpc : pl ≤ pc) :
    Cs Try.prog basin_Basin_Add_n #[.pointer (some ⟨bn, 0, none⟩), .int .i64 id, .slice p pl pc] w (Ret fun v w' => ∃ ok : Bool, v = .bool ok ∧ (ok = true ↔ SymOk frame size symbol R id data) ∧
      BasinOk w' bn mb f frame size symbol (if ok then R ++ [vec (rowL frame id (cntK size symbol).toNat ++ data)] else R) ∧ Chg (fun x => x = mb) w w') := by
  obtain ⟨h0, b, h1, h2⟩ := h
  have hb := cntK_bd h0
  apply basin_Basin_Add_ok
  unfold basin_Basin_Add
  refine br_f (dr_step fun w1 _ he1 => ?_)
  have a1 := h1.ext he1
  refine nc_s ⟨_, by rw [add_mk, a1.cell]; rfl, nc_s ⟨_, by rw [add_mk, a1.cell]; rfl, ?_⟩⟩
  refine cl_ret diceRow_c ?_
  rintro v w2 hv
  by_cases hid : 1 ≤ cntK size symbol ∧ cntK size symbol ≤ 32 ∧ 0 ≤ id ∧ id < cntK size symbol + 64
  · rw [if_pos hid] at hv
    obtain ⟨q, ql, qc, rfl, hr, he2⟩ := hv
    refine ⟨_, _, _, _, rfl, br_t (nc_s ⟨_, by rw [(a1.ext he2).cell]; rfl, ?_⟩)⟩
    have he02 : Ext w w2 := Chg.trans he1 he2
    have hrl := rowL_len frame id (cntK size symbol).toNat
    refine cl_ret (basisAdd_c (h2.ext he02) (hr.byr (by omega)) hr.cap (hd.ext he02) hpc hrl) ?_
    rintro v w3 ⟨ok, rfl, hiff, hbo, hc⟩
    have hc' : Chg (fun x => x = mb) w w3 := (he02.any : Chg (fun x => x = mb) w w2).trans hc
    obtain ⟨m, hm⟩ := h2.map
    refine ⟨_, rfl, ok, rfl, ?_, ⟨h0, b, (NoCells.of_map hm).at hc' h1, hbo⟩, hc'⟩
    rw [hiff]
    unfold SymOk
    constructor
    · rintro ⟨e1, e2⟩; exact ⟨hid.2.2.1, hid.2.2.2, by omega, e2⟩
    · rintro ⟨_, _, e1, e2⟩; exact ⟨by omega, e2⟩
  · rw [if_neg hid] at hv
    obtain ⟨rfl, rfl⟩ := hv
    refine ⟨_, _, _, _, rfl, br_f ?_⟩
    exact ⟨false, rfl, ⟨fun h => (by cases h), fun h => absurd ⟨hb.1, hb.2.1, h.1, h.2.1⟩ hid⟩, ⟨h0, b, a1, h2.ext he1⟩, he1.any⟩

theorem basinMissing_c (h : BasinOk w bn mb f frame size symbol R) :
    Cs Try.prog basin_Basin_Missing_n #[.pointer (some ⟨bn, 0, none⟩)] w (Ret fun v w' => v = .int .i64 (cntK size symbol - R.length) ∧ Ext w w') := by
  have hlen := h.len
  obtain ⟨h0, b, h1, h2⟩ := h
  have hb := cntK_bd h0
  apply basin_Basin_Missing_ok
  unfold basin_Basin_Missing
  refine br_f (dr_step fun w1 _ he1 => ?_)
  have a1 := h1.ext he1
  refine nc_s ⟨_, by rw [add_mk, a1.cell]; rfl, nc_s ⟨_, by rw [a1.cell]; rfl, ?_⟩⟩
  refine cl_ret (basisRank_c (h2.ext he1)) ?_
  rintro v w2 ⟨rfl, rfl⟩
  refine ⟨_, rfl, hold_one ?_, ?_, he1⟩
  · show World.cell? _ _ = _
    rw [add_mk, a1.cell]; rfl
  · rw [w64 (by omega) (by omega)]

theorem basinBytes_c (h : BasinOk w bn mb f frame size symbol R) :
    Cs Try.prog basin_Basin_Bytes_n #[.pointer (some ⟨bn, 0, none⟩)] w (Ret fun v w' => v = .int .i64 (cntK size symbol * symbol) ∧ Ext w w') := by
  obtain ⟨h0, b, h1, h2⟩ := h
  have hb := cntK_bd h0
  apply basin_Basin_Bytes_ok
  unfold basin_Basin_Bytes
  refine br_f (dr_step fun w1 _ he1 => ?_)
  have a1 := h1.ext he1
  refine nc_s ⟨_, by rw [add_mk, a1.cell]; rfl, nc_s ⟨_, by rw [add_mk, a1.cell]; rfl, ?_, he1⟩⟩
  have h1 : cntK size symbol * symbol ≤ 32 * 64 := Int.mul_le_mul hb.2.1 hb.2.2.2 (by omega) (by omega)
  have h2 : 0 ≤ cntK size symbol * symbol := Int.mul_nonneg (by omega) (by omega)
  rw [w64 (by omega) (by omega)]

theorem basinPayload_c (h : BasinOk w bn mb f frame size symbol R) :
    Cs Try.prog basin_Basin_Payload_n #[.pointer (some ⟨bn, 0, none⟩)] w (Ret fun v w' => Ext w w' ∧
      if (R.length : Int) < cntK size symbol then v = .tuple #[.slice none 0 0, .bool false]
      else ∃ p l c outs, v = .tuple #[.slice p l c, .bool true] ∧ SolOk (cntK size symbol).toNat symbol.toNat R outs ∧ RowB w' w.heap.size p l c (outs.flatten.take size.toNat)) := by
  obtain ⟨h0, b, h1, h2⟩ := h
  have hb := cntK_bd h0
  apply basin_Basin_Payload_ok
  unfold basin_Basin_Payload
  refine br_f (nc_s ⟨_, by rw [h1.cell]; rfl, ?_⟩)
  refine cl_ret (solve_c h2) ?_
  rintro v w1 ⟨he1, hv⟩
  by_cases hlt : R.length < (cntK size symbol).toNat
  · rw [if_pos hlt] at hv
    subst hv
    refine ⟨_, _, _, _, rfl, br_t ⟨he1, ?_⟩⟩
    rw [if_pos (by omega)]
  · rw [if_neg hlt] at hv
    obtain ⟨p, l, c, outs, rfl, hl, hso, hlc⟩ := hv
    refine ⟨_, _, _, _, rfl, br_f (nc_s ⟨_, by rw [add_mk, (h1.ext he1).cell]; rfl, ?_⟩)⟩
    have hlens : ∀ bs ∈ outs, (bs.length : Int) = symbol := fun bs hbs => by
      obtain ⟨i, hi, rfl⟩ := List.getElem_of_mem hbs
      have := (hso.2 i (by rw [← hso.1]; exact hi)).1
      rw [List.getD_eq_getElem?_getD, List.getElem?_eq_getElem hi] at this
      simp at this; omega
    refine cl_ret (join_c hl hlens h0 (by rw [hso.1]; omega)) ?_
    rintro v w2 ⟨q, l', c', rfl, hr, he2⟩
    refine ⟨_, _, _, _, rfl, he1.trans he2, ?_⟩
    rw [if_neg (by omega)]
    exact ⟨q, l', c', outs, rfl, hso, Row.base_mono hr he1.size⟩
end Go.SR
