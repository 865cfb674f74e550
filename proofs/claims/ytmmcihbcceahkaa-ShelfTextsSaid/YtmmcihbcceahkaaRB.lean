/- The reference's basis, symbols, and girandolelaw24.ShelfTexts. -/
import Derived.Test.YtmmcihbcceahkaaRA
import Derived.Test.YtmmcihbcceahkaaG65

/- Contract: girandoleref1.Basis.Add. -/
namespace Go.SR
open Go Go.Proofs

/-- append, what is added read from a row of one's own that may be nil. -/
theorem append_row {P : Program} {w : World} {F : Value → World → Prop} {base base2 : Nat} {t ty e : TypeId} {z : Value} {bytes : Nat} {p : Option Addr} {l c : Nat} {vs : List Value} {q : Option Addr} {m c' : Nat} {news : List Value}
    (ht : P.underlying t = some (.slice e)) (hi : (P.info? e).map (fun i => (i.zero, i.size, i.bytes)) = some (some z, 1, bytes)) (hzs : z.cells.size = 1)
    (h : Row w base e 1 p l c vs) (hn : Row w base2 e 1 q m c' news) (h1 : ∀ u ∈ news, u.oneCell' = true) (hb : l + m ≤ 4611686018427387904) (hby : (l + m) * bytes ≤ 140737488355328) (hbase : base ≤ w.heap.size)
    (hF : ∀ p' c' w', Row w' base e 1 p' (l + m) c' (vs ++ news) → Chg (rowS (.slice p l c)) w w' → F (.slice p' (l + m) c') w') :
    rnV P (Builtin.append_ #[t, t] ty #[.slice p l c, .slice q m c']) w F := by
  have hm := hn.len
  rcases hn.2 with ⟨h2, h3⟩ | ⟨g, cap, cur, h2, hbg, hat, hnc, hcm, hcs, htk⟩
  · cases h2
    have : news = [] := List.eq_nil_of_length_eq_zero (by simpa using hm)
    subst this
    obtain ⟨i, hi', hz, hs, hbt⟩ := info_parts hi
    refine ⟨.slice p l c, w, ?_, hF p c w (by simpa using h) (Chg.refl _ w)⟩
    rcases h.2 with ⟨h1, h2⟩ | ⟨g, cap, cur, h1, _, _, hnc, _⟩
    · cases h1; simp [Builtin.append_, run_underlying ht, sizeOf, typeInfo, hi', Builtin.lenOf, Builtin.firstCells]
    · cases h1; simp [Builtin.append_, run_underlying ht, sizeOf, typeInfo, hi', Builtin.lenOf, Builtin.firstCells, hnc, storeCells]
  · cases h2
    refine append_step (news := news) ht hi hzs (by decide) h (by omega) (fun i hi => ?_) h1 hb hby hbase fun p' c'' w' h' hc => hF p' c'' w' h' hc
    have hA : At w g cur e := hat
    rw [add_mk, hA.cell, Nat.zero_add]
    rw [← List.getElem?_eq_getElem hi, ← htk, List.getElem?_take, if_pos (by omega)]
    simp

section
variable {w w' w0 : World} {base : Nat} {p : Option Addr} {l c : Nat} {A : List (List By)}

theorem MatR.lls (h : MatR w base p l c A) (hs : ∀ bs ∈ A, bs.length < 4611686018427387904) : Lls w p l A := by
  have hl := h.len
  obtain ⟨vs, hr, hvl, hb⟩ := h
  refine ⟨hl, fun i bs hi => ?_⟩
  obtain ⟨q, ql, qc, h1, h2⟩ := hb i bs hi
  have hat := Row.at hr i [.slice q ql qc] (fun j u hj => by cases j with | zero => simp at hj; subst hj; simpa using h1 | succ j => simp at hj) (by simp)
  obtain ⟨a, ha, hc⟩ := hat.cells
  exact ⟨a, q, ql, qc, ha, hc.get0, RowB.cap h2, h2.byr (hs bs (List.mem_of_getElem? hi))⟩

theorem MatR.base_mono {base' : Nat} (h : MatR w base p l c A) (hb : base' ≤ base) : MatR w base' p l c A := by
  obtain ⟨vs, hr, hvl, hbs⟩ := h
  refine ⟨vs, Row.base_mono hr hb, hvl, fun i bs hi => ?_⟩
  obtain ⟨q, ql, qc, h1, h2⟩ := hbs i bs hi
  exact ⟨q, ql, qc, h1, Row.base_mono h2 hb⟩

theorem Row.kc {e : TypeId} {sz : Nat} {vs : List Value} (h : Row w base e sz p l c vs) (hk : KC w w') : Row w' base e sz p l c vs := by
  refine ⟨h.1, ?_⟩
  rcases h.2 with h1 | ⟨g, cap, cur, hv, hbg, hat, hr⟩
  · exact .inl h1
  · exact .inr ⟨g, cap, cur, hv, hbg, hk.2 _ _ _ _ hat, hr⟩

theorem MatR.kc (h : MatR w base p l c A) (hk : KC w w') : MatR w' base p l c A := by
  obtain ⟨vs, hr, hvl, hbs⟩ := h
  refine ⟨vs, hr.kc hk, hvl, fun i bs hi => ?_⟩
  obtain ⟨q, ql, qc, h1, h2⟩ := hbs i bs hi
  exact ⟨q, ql, qc, h1, Row.kc h2 hk⟩

/-- append([][]byte{}, A...) -/
theorem MatR.copy {m : Nat} {F : Value → World → Prop} (h : MatR w base p l c A) (hm : At w m #[] 22) (hb : base ≤ m) (hl : l ≤ 1000000)
    (hF : ∀ p' c' w', MatR w' base p' l c' A → Chg (fun x => x = m) w w' → (∀ x, rowS (.slice p' l c') x → m ≤ x) → F (.slice p' l c') w') : rnV Try.prog (Builtin.append_ #[76, 76] 76 #[.slice (some ⟨m, 0, none⟩) 0 0, .slice p l c]) w F := by
  obtain ⟨vs, hr, hvl, hbs⟩ := h
  have h0 : Row w m 22 1 (some ⟨m, 0, none⟩) 0 0 [] := Row.empty hm (Nat.le_refl _)
  have := append_row (P := Try.prog) (ty := 76) (t := 76) (F := F) und76 inf22 rfl h0 hr (fun u hu => by
    obtain ⟨i, hi, rfl⟩ := List.getElem_of_mem hu
    obtain ⟨q, ql, qc, h1, _⟩ := hbs i _ (List.getElem?_eq_getElem (by omega))
    rw [List.getElem?_eq_getElem hi] at h1
    rw [Option.some.inj h1]; rfl) (by omega) (by omega) (Nat.le_of_lt hm.lt) fun p' c' w' hr' hc => by
      rw [Nat.zero_add] at *
      refine hF p' c' w' ⟨_, Row.base_mono hr' hb, by simpa using hvl, fun i bs hi => ?_⟩ (hc.mono fun x _ hx => by simp [rowS, Value.ownBlock] at hx; exact hx.symm) (Row.base hr')
      obtain ⟨q, ql, qc, h1, h2⟩ := hbs i bs hi
      exact ⟨q, ql, qc, by simpa using h1, Row.chg h2 hc (fun x cs fl hx hS => Off.of_at hm (by decide) x cs fl hx (by simp [rowS, Value.ownBlock] at hS; exact hS.symm))⟩
  exact this

/-- The reference's basis, its rows as they came. -/
def RefB (w0 w : World) (b k : Nat) (rows : List (List By)) : Prop :=
  ∃ (rp : Option Addr) (rl rc : Nat) (dp : Option Addr) (dl dc : Nat) (data : List (List By)), At w b #[.int .i64 k, .int .i64 1, .slice rp rl rc, .slice dp dl dc] 78 ∧ MatR w w0.heap.size rp rl rc rows ∧ MatR w w0.heap.size dp dl dc data ∧
    AllL rows.length k rows ∧ AllL rows.length 1 data ∧ Ind (rv rows) (List.range rows.length) ∧ (1 ≤ k ∧ k ≤ 32) ∧ w0.heap.size ≤ b

theorem RefB.kc {b k : Nat} {rows : List (List By)} (h : RefB w0 w b k rows) (hk : KC w w') : RefB w0 w' b k rows := by
  obtain ⟨rp, rl, rc, dp, dl, dc, data, h1, h2, h3, h4⟩ := h
  exact ⟨rp, rl, rc, dp, dl, dc, data, hk.at h1, h2.kc hk, h3.kc hk, h4⟩

theorem AllL.app {m k : Nat} {A : List (List By)} {bs : List By} (h : AllL m k A) (hb : bs.length = k) : AllL (m + 1) k (A ++ [bs]) := by
  refine ⟨by simp [h.1], fun i hi => ?_⟩
  rw [List.getD_eq_getElem?_getD, List.getElem?_append]
  by_cases e : i < A.length
  · rw [if_pos e, ← List.getD_eq_getElem?_getD]; exact h.2 i (by rw [← h.1]; exact e)
  · rw [if_neg e]
    have : i - A.length = 0 := by have := h.1; omega
    rw [this]; exact hb

theorem AllL.mem {m k : Nat} {A : List (List By)} (h : AllL m k A) : ∀ bs ∈ A, bs.length = k := fun bs hb => by
  obtain ⟨i, hi, rfl⟩ := List.getElem_of_mem hb
  have := h.2 i (by rw [← h.1]; exact hi)
  rwa [List.getD_eq_getElem?_getD, List.getElem?_eq_getElem hi] at this

theorem refAdd_c {b k : Nat} {rows : List (List By)} {p q : Option Addr} {pl pc ql qc : Nat} {row data : List By} (h : RefB w0 w b k rows) (hp : Byr w p pl row) (hq : Byr w q ql data) (hl : row.length = k) (hd : data.length = 1) (h0 : w0.heap.size ≤ w.heap.size) (hm : rows.length ≤ 90) :
    Cs Try.prog gref1_Basis_Add_n #[.pointer (some ⟨b, 0, none⟩), .slice p pl pc, .slice q ql qc] w
      (Ret fun v w' => ∃ ok : Bool, v = .bool ok ∧ (ok = true ↔ Ind (rv (rows ++ [row])) (List.range (rows.length + 1))) ∧ RefB w0 w' b k (if ok then rows ++ [row] else rows) ∧ Chg (fun x => x = b) w w') := by
  obtain ⟨rp, rl, rc, dp, dl, dc, ds, hat, hR, hD, hRl, hDl, hInd, hk, hb⟩ := h
  apply gref1_Basis_Add_ok
  unfold gref1_Basis_Add
  have hpl := hp.len
  have hql := hq.len
  have hrl := hR.len
  have hdl := hD.len
  have hdl1 := hDl.1
  have same : ∀ {w' : World}, Ext w w' → RefB w0 w' b k rows := fun he => ⟨rp, rl, rc, dp, dl, dc, ds, hat.ext he, hR.ext he, hD.ext he, hRl, hDl, hInd, hk, hb⟩
  refine jn_step (fun _ w' => w' = w) ?_ ?_
  · intro _ _ w' hw'
    subst hw'
    refine al_step fun m1 w2 a2 he2 hb2 => nc_s ⟨_, _, _, by rw [add_mk, (hat.ext he2).cell]; rfl, ?_⟩
    refine (hR.ext he2).copy a2 (by omega) (by omega) fun p9 m11 w8 hR8 hc8 hn8 => ⟨_, _, _, rfl, ?_⟩
    have he8 : Ext w' w8 := Ext.then he2 hc8 fun x hx => by omega
    refine al_step fun m12 w13 a13 he13 _ => ?_
    have he013 := he8.trans he13
    refine append_zero (w0 := w0) a13 (hp.ext he013) (by omega) (by omega) (Nat.le_trans h0 he013.size) fun p16 m18 w15 hr15 he15 => ⟨_, _, _, rfl, ?_⟩
    have he015 := he013.trans he15
    refine al_step fun m19 w20 a20 he20 _ => ?_
    have he020 := he015.trans he20
    have hR20 := ((hR8.ext he13).ext he15).ext he20
    refine hR20.app a20 (Row.ext hr15 he20) (by omega) (Nat.le_trans h0 he020.size) fun p23 c23 w22 hR22 hc22 _ => ⟨_, _, _, rfl, ?_⟩
    have he022 : Ext w' w22 := Ext.then he020 hc22 fun x hx => Nat.le_trans hb2 (hn8 x hx)
    refine al_step fun m26 w27 a27 he27 hb27 => nc_s ⟨_, _, _, by rw [add_mk, (hat.ext (he022.trans he27)).cell]; rfl, ?_⟩
    refine (hD.ext (he022.trans he27)).copy a27 (Nat.le_trans h0 (Nat.le_trans he022.size hb27)) (by omega) fun p34 m36 w33 hD33 hc33 hn33 => ⟨_, _, _, rfl, ?_⟩
    have he2233 : Ext w22 w33 := Ext.then he27 hc33 fun x hx => by omega
    refine al_step fun m37 w38 a38 he38 _ => ?_
    have he2238 := he2233.trans he38
    refine append_zero (w0 := w0) a38 (hq.ext (he022.trans he2238)) (by omega) (by omega) (Nat.le_trans h0 (he022.trans he2238).size) fun p41 m43 w40 hr40 he40 => ⟨_, _, _, rfl, ?_⟩
    have he2240 := he2238.trans he40
    refine al_step fun m44 w45 a45 he45 _ => ?_
    have he2245 := he2240.trans he45
    have hD45 := ((hD33.ext he38).ext he40).ext he45
    refine hD45.app a45 (Row.ext hr40 he45) (by omega) (Nat.le_trans h0 (he022.trans he2245).size) fun p48 c48 w47 hD47 hc47 _ => ⟨_, _, _, rfl, ?_⟩
    have he2247 : Ext w22 w47 := Ext.then he2245 hc47 fun x hx => Nat.le_trans hb27 (hn33 x hx)
    have he047 := he022.trans he2247
    have hR47 := hR22.ext he2247
    refine nc_s ⟨_, by rw [(hat.ext he047).cell]; rfl, ?_⟩
    have hRl' := hRl.app hl
    have hDl' := hDl.app hd
    have hlen : (rows ++ [row]).length = rows.length + 1 := by simp
    refine cl_ret (refReduced_c (k := k) (d := 1) (hR47.lls fun bs hbs => by rw [hRl'.mem bs hbs]; omega) (hD47.lls fun bs hbs => by rw [hDl'.mem bs hbs]; omega) (by omega) (by omega) (by omega) (fun i hi => hRl'.2 i (by omega)) (by rw [hlen]; exact hDl')) ?_
    rintro v w54 ⟨p55, m56, m57, p58, m59, m60, n, rfl, hn, hiff, he54⟩
    rw [hlen] at hn hiff
    refine ⟨_, _, _, _, _, _, _, rfl, ?_⟩
    have he054 := he047.trans he54
    have a54 := hat.ext he054
    refine nc_s ⟨_, _, _, by rw [add_mk, a54.cell]; rfl, ?_⟩
    refine br_if (fun hle => ⟨false, rfl, ?_, same he054, Ext.any he054⟩) (fun hgt => ?_)
    · rw [← hiff]
      constructor
      · intro h; cases h
      · intro h; exfalso; omega
    · have hnn : n = rows.length + 1 := by omega
      refine nc_s (st1_at (i := 2) a54 rfl (by simp) rfl fun w67 a67 c67 => ?_)
      refine nc_s (st1_at (i := 3) a67 rfl (by simp) rfl fun w69 a69 c69 => ?_)
      have c6769 : Chg (fun x => x = b) w54 w69 := c67.trans c69
      have hR54 := hR47.ext he54
      have hD54 := hD47.ext he54
      have notb : ∀ {p l c A}, MatR w54 w0.heap.size p l c A → ∀ x, rowS (.slice p l c) x → ¬ x = b := fun hM x hx e => by
        obtain ⟨vs, hr, _⟩ := hM
        subst e
        exact hr.not a54 (by decide) hx
      refine ⟨true, rfl, ⟨fun _ => hiff.1 hnn, fun _ => rfl⟩, ⟨p23, rl + 1, c23, p48, dl + 1, c48, _, a69, hR54.chg c6769 (notb hR54) (Off.of_at a54 (by decide)), hD54.chg c6769 (notb hD54) (Off.of_at a54 (by decide)), ?_, ?_, ?_, hk, hb⟩, ((Ext.any he054 : Chg (fun x => x = b) w' w54).trans c67).trans c69⟩
      · simp only [if_true]; rw [hlen]; exact hRl'
      · simp only [if_true]; rw [hlen]; exact hDl'
      · simp only [if_true]; rw [hlen]; exact hiff.1 hnn
  · refine nc_s ⟨_, by rw [hat.cell]; rfl, ?_⟩
    have e1 : ((pl : Int) != (k : Int)) = false := by simp; omega
    have e2 : ((ql : Int) != (1 : Int)) = false := by simp; omega
    rw [e1]
    refine br_f (nc_s ⟨_, by rw [add_mk, hat.cell]; rfl, ?_⟩)
    rw [e2]
    exact br_f rfl
end
end Go.SR

/- Contracts: girandoleref1.Split, Symbol. -/
namespace Go.SR
open Go Go.Proofs

/-- Part i of a text, noughts behind its end. -/
def chL (bs : List By) (sym i : Nat) : List By := (List.range sym).map fun t => vec bs (i * sym + t)

theorem chL_len (bs : List By) (sym i : Nat) : (chL bs sym i).length = sym := by simp [chL]
theorem chL_get {bs : List By} {sym i t : Nat} (h : t < sym) : (chL bs sym i)[t]? = some (vec bs (i * sym + t)) := by simp [chL, h]
theorem chL_vec {bs : List By} {sym i t : Nat} (h : t < sym) : vec (chL bs sym i) t = vec bs (i * sym + t) := by
  unfold vec
  rw [List.getD_eq_getElem?_getD, chL_get h]; rfl

theorem fill_set {l : List By} {n j : Nat} {b : By} (hl : l.length = n) (hj : j < n) (hb : l[j]? = some b) : (l.take j ++ (List.replicate n 0#8).drop j).set j b = l.take (j + 1) ++ (List.replicate n 0#8).drop (j + 1) := by
  apply List.ext_getElem?
  intro x
  simp only [List.getElem?_set, List.length_append, List.length_take, List.length_drop, List.length_replicate, hl, List.getElem?_append, List.getElem?_take, List.getElem?_drop, List.getElem?_replicate, Nat.min_eq_left (Nat.le_of_lt hj), Nat.min_eq_left (show j + 1 ≤ n from hj)]
  by_cases e : j = x
  · subst e
    rw [if_pos rfl, if_pos (by omega), if_pos (by omega), if_pos (by omega), hb]
  · rw [if_neg e]
    by_cases h1 : x < j
    · rw [if_pos (by omega), if_pos h1, if_pos (by omega), if_pos (by omega)]
    · rw [if_neg h1, if_neg (show ¬ x < j + 1 by omega), show j + (x - j) = x by omega, show j + 1 + (x - (j + 1)) = x by omega]

theorem fill_end {l : List By} {n j : Nat} (hl : l.length = n) (hj : j ≤ n) (hz : ∀ t, j ≤ t → t < n → l[t]? = some 0#8) : l.take j ++ (List.replicate n 0#8).drop j = l := by
  apply List.ext_getElem?
  intro x
  simp only [List.getElem?_append, List.length_take, hl, List.getElem?_take, List.getElem?_drop, List.getElem?_replicate, Nat.min_eq_left hj]
  by_cases h : x < j
  · rw [if_pos h, if_pos h]
  · rw [if_neg h, show j + (x - j) = x by omega]
    by_cases h2 : x < n
    · rw [if_pos h2, hz x (by omega) h2]
    · rw [if_neg h2, List.getElem?_eq_none (by omega)]

variable {w : World}

abbrev gref1_Split_n : FuncId := 65

theorem refSplit_c {p : Option Addr} {pl pc sym : Nat} {bs : List By} (hb : Byr w p pl bs) (hok : cntOk bs.length sym = true) :
    Cs Try.prog gref1_Split_n #[.slice p pl pc, .int .i64 sym] w (Ret fun v w' => ∃ q l c, v = .tuple #[.slice q l c, .bool true] ∧ MatR w' w.heap.size q l c ((List.range (cntK bs.length sym).toNat).map (chL bs sym)) ∧ Ext w w') := by
  apply gref1_Split_ok
  unfold gref1_Split
  have hpl := hb.len
  obtain ⟨g1, g2, g3, g4⟩ := of_decide_eq_true hok
  have hbd := cnt_bd hok
  have hK : cntK bs.length sym = ((bs.length : Int) + sym - 1) / sym := by unfold cntK; rw [if_pos hok]
  rw [← hK] at hbd
  subst hpl
  refine cl_ret refCount_c ?_
  rintro v w1 ⟨rfl, hw1⟩
  subst hw1
  refine ⟨_, _, rfl, ?_⟩
  rw [hok]
  refine br_f ?_
  obtain ⟨K, hKn⟩ : ∃ K : Nat, cntK bs.length sym = K := ⟨(cntK bs.length sym).toNat, by omega⟩
  rw [hKn] at hbd ⊢
  rw [Int.toNat_natCast]
  refine lp_step (fun n st w' => ∃ i : Nat, st.2 = i ∧ i ≤ K ∧ MatR w' w1.heap.size st.1.1 st.1.2.1 st.1.2.2 ((List.range i).map (chL bs sym)) ∧ Ext w1 w' ∧ n = K - i)
    _ ⟨0, rfl, by omega, MatR.nil, Ext.refl _, rfl⟩ ?_
  rintro n _ ⟨⟨ap, al, ac⟩, _⟩ w6 ⟨i, rfl, hi, hM, he6, hn⟩ KK hKK
  have hM : MatR w6 w1.heap.size ap al ac ((List.range i).map (chL bs sym)) := hM
  have hal := hM.len
  simp only [List.length_map, List.length_range] at hal
  dsimp only
  refine br_if (fun hlt => ?_) (fun hge => ?_)
  · have hi' : i < K := by omega
    have hnum : i * sym ≤ 32 * 64 := Nat.mul_le_mul (by omega) (by omega)
    refine make_bytes rfl rfl (by omega) fun p9 w8 hr8 he8 => ⟨_, _, _, rfl, ?_⟩
    have hcl := chL_len bs sym i
    have fin : ∀ w14, RowB w14 w6.heap.size p9 sym sym (chL bs sym i) → Ext w6 w14 → SR.al #[.slice p9 sym sym] 22 w14 (fun m19 w20 =>
        rnV Try.prog (Builtin.append_ #[76, 76] 76 #[.slice ap al ac, .slice (some ⟨m19, 0, none⟩) 1 1]) w20 (fun v21 w22 => ∃ (p23 : Option Addr) (m24 m25 : Nat), v21 = .slice p23 m24 m25 ∧ KK ((p23, (m24, m25)), IntKind.wrap .i64 ((i : Int) + 1)) w22)) := by
      intro w14 hr14 he14
      refine al_step fun m19 w20 a20 he20 _ => ?_
      have he020 := (he6.trans he14).trans he20
      refine ((hM.ext he14).ext he20).app a20 (Row.base_mono (Row.ext hr14 he20) he6.size) (by omega) he020.size fun p23 c23 w22 hM22 hc22 _ => ⟨_, _, _, rfl, ?_⟩
      rw [w64 (by omega) (by omega)]
      refine hKK (K - (i + 1)) _ _ (by omega) ⟨i + 1, by simp, by omega, ?_, Ext.then he020 hc22 fun x hx => MatR.bse ((hM.ext he14).ext he20) x hx, rfl⟩
      rw [List.range_succ, List.map_append]; exact hM22
    refine lp_step (fun n st w' => ∃ j : Nat, st = j ∧ j ≤ sym ∧ RowB w' w6.heap.size p9 sym sym ((chL bs sym i).take j ++ (List.replicate sym 0#8).drop j) ∧ Ext w6 w' ∧ n = sym - j)
      _ ⟨0, rfl, by omega, by simpa using hr8, he8, rfl⟩ ?_
    rintro n' _ _ w14 ⟨j, rfl, hj, hr14, he14, hn'⟩ K2 hK2
    have hcast : (i : Int) * (sym : Int) = ((i * sym : Nat) : Int) := by simp
    refine br_if (fun hjs => ?_) (fun hjs => ?_)
    · rw [hcast, w64 (n := ((i * sym : Nat) : Int)) (by omega) (by omega), w64 (n := ((i * sym : Nat) : Int) + (j : Int)) (by omega) (by omega)]
      have hj' : j < sym := by omega
      have hg := chL_get (bs := bs) (i := i) hj'
      refine br_if (fun hin => ?_) (fun hout => ?_)
      · refine (hb.ext (he6.trans he14)).ix (by omega) (by omega) fun a15 h15 => ⟨_, h15, ?_⟩
        rw [show (((i * sym : Nat) : Int) + (j : Int)).toNat = i * sym + j by omega]
        refine hr14.wr (x := vec bs (i * sym + j)) rfl (by omega) (by omega) fun w18 hr18 hc18 => ?_
        rw [Int.toNat_natCast, fill_set hcl hj' hg] at hr18
        rw [w64 (by omega) (by omega)]
        exact hK2 (sym - (j + 1)) _ _ (by omega) ⟨j + 1, by simp, by omega, hr18, Ext.then he14 hc18 fun x hx => Row.base hr14 x hx, rfl⟩
      · refine fin w14 ?_ he14
        rw [fill_end hcl hj fun t ht1 ht2 => by rw [chL_get ht2, vec_ge (by omega)]] at hr14
        exact hr14
    · refine fin w14 ?_ he14
      rw [fill_end hcl hj fun t ht1 ht2 => by exfalso; omega] at hr14
      exact hr14
  · have : i = K := by omega
    subst this
    exact ⟨ap, al, ac, rfl, hM, he6⟩

theorem refSymbol_c {frame id : Int} {p : Option Addr} {pl pc sym : Nat} {bs : List By} (hb : Byr w p pl bs) (hok : cntOk bs.length sym = true) (hf : 0 ≤ frame ∧ frame < 4294967296) (hid : 0 ≤ id ∧ id < cntK bs.length sym + 64) :
    Cs Try.prog gref1_Symbol_n #[.int .u32 frame, .slice p pl pc, .int .i64 sym, .int .i64 id] w (Ret fun v w' => ∃ q l c s, v = .tuple #[.slice q l c, .bool true] ∧ RowB w' w.heap.size q l c s ∧ s.length = sym ∧
      vec s = cmb (vec (rowL frame id (cntK bs.length sym).toNat)) (fun i => vec (chL bs sym i)) (List.range (cntK bs.length sym).toNat) ∧ Ext w w') := by
  apply gref1_Symbol_ok
  unfold gref1_Symbol
  obtain ⟨g1, g2, g3, g4⟩ := of_decide_eq_true hok
  have hbd := cnt_bd hok
  have hK : cntK bs.length sym = ((bs.length : Int) + sym - 1) / sym := by unfold cntK; rw [if_pos hok]
  rw [← hK] at hbd
  refine cl_ret (refSplit_c hb hok) ?_
  rintro v w1 ⟨p2, m3, m4, rfl, hM, he1⟩
  refine ⟨_, _, _, _, rfl, br_f ?_⟩
  have hl := hM.len
  obtain ⟨K, hKn⟩ : ∃ K : Nat, cntK bs.length sym = K := ⟨(cntK bs.length sym).toNat, by omega⟩
  rw [hKn] at hbd hM hl hid ⊢
  rw [Int.toNat_natCast] at hM hl ⊢
  simp only [List.length_map, List.length_range] at hl
  subst hl
  refine cl_ret (refRow_c (k := (m3 : Int)) hf (by omega) hid) ?_
  rintro v w7 ⟨p8, m9, m10, rfl, hr7, he7⟩
  refine ⟨_, _, _, _, rfl, br_f ?_⟩
  rw [Int.toNat_natCast] at hr7
  have l9 := hr7.lenB
  rw [rowL_len] at l9
  refine make_bytes rfl rfl (by omega) fun p14 w13 hr13 he13 => ⟨_, _, _, rfl, ?_⟩
  have he07 := he1.trans he7
  have he013 := he07.trans he13
  generalize hrow : rowL frame id m3 = row at hr7
  have lrow : row.length = m3 := by rw [← hrow]; exact rowL_len _ _ _
  refine lp_step (fun n st w' => ∃ (i : Nat) (s : List By), st.2 = i ∧ i ≤ m3 ∧ RowB w' w.heap.size st.1.1 st.1.2.1 st.1.2.2 s ∧ s.length = sym ∧ vec s = cmb (vec row) (fun i => vec (chL bs sym i)) (List.range i) ∧ Ext w13 w' ∧ n = m3 - i)
    _ ⟨0, _, rfl, by omega, Row.base_mono hr13 he07.size, by simp, vec_zeros _, Ext.refl _, rfl⟩ ?_
  rintro n _ ⟨⟨sp, sl, sc⟩, _⟩ w19 ⟨i, s, rfl, hi, hs, hsl, hsv, he19, hn⟩ KK hKK
  have hs : RowB w19 w.heap.size sp sl sc s := hs
  dsimp only
  refine br_if (fun hlt => ?_) (fun hge => ?_)
  · have hi' : i < m3 := by omega
    refine dr_step fun w20 _ he20 => ?_
    have e1320 := he19.trans he20
    have e720 := he13.trans e1320
    refine ((hM.ext he7).ext e720).ix (by omega) (by simp; omega) fun a21 p22 m23 m24 h21 hb21 => ⟨_, _, _, h21, ?_⟩
    have hch : ((List.range m3).map (chL bs sym)).getD ((i : Int)).toNat [] = chL bs sym i := by
      rw [Int.toNat_natCast, List.getD_eq_getElem?_getD, List.getElem?_map, List.getElem?_range hi']; rfl
    rw [hch] at hb21
    have hcl := chL_len bs sym i
    have hr20 : RowB w20 w1.heap.size p8 m9 m10 row := Row.ext hr7 e720
    refine (hr20.byr (by omega)).ix (by omega) (by omega) fun a25 h25 => ⟨_, h25, ?_⟩
    rw [Int.toNat_natCast]
    have hs20 : RowB w20 w.heap.size sp sl sc s := Row.ext hs he20
    refine cl_ret (refAxpy_c (c := vec row i) (hs20.byr (by omega)) (hb21.byr (by omega)) (by omega) (by omega)) ?_
    rintro v w28 ⟨p29, m30, m31, rfl, hr28, he28⟩
    refine ⟨_, _, _, rfl, ?_⟩
    rw [w64 (by omega) (by omega)]
    have hlen : s.length = (chL bs sym i).length := by omega
    refine hKK (m3 - (i + 1)) _ _ (by omega) ⟨i + 1, _, by simp, by omega, Row.base_mono hr28 (he013.trans e1320).size, by rw [axl_len hlen]; exact hsl, ?_, e1320.trans he28, rfl⟩
    rw [vec_axl hlen, hsv, List.range_succ, cmb_append]
    congr 1
    show _ = va (vm (vec row i) (vec (chL bs sym i))) vz
    rw [va_z]
  · have : i = m3 := by omega
    subst this
    refine ⟨sp, sl, sc, s, rfl, hs, hsl, ?_, he013.trans he19⟩
    exact hsv
end Go.SR

/- The plain law of girandolelaw24.ShelfTexts. -/
namespace Go.SR
open Go Go.Proofs

theorem rp_vec {k : Nat} {row s : List By} (h : row.length = k) : rp k (vec (row ++ s)) = vec row := by
  funext i
  unfold rp
  by_cases hi : i < k
  · rw [if_pos hi, vec_append_lt (by omega)]
  · rw [if_neg hi, vec_ge (by omega)]

theorem rv_app_lt {rows : List (List By)} {row : List By} {i : Nat} (h : i < rows.length) : rv (rows ++ [row]) i = rv rows i := by
  unfold rv
  rw [List.getD_eq_getElem?_getD, List.getElem?_append_left h, ← List.getD_eq_getElem?_getD]
theorem rv_app_eq {rows : List (List By)} {row : List By} : rv (rows ++ [row]) rows.length = vec row := by
  unfold rv
  rw [List.getD_eq_getElem?_getD, List.getElem?_append_right (Nat.le_refl _), Nat.sub_self]; rfl

/-- What a symbol says of the text. -/
def Lin (k : Nat) (bs : List By) (u : V) : Prop := ∀ t, t < 4 → u (k + t) = cmb u (fun i => vec (chL bs 4 i)) (List.range k) t

theorem Lin.all {k : Nat} {bs : List By} {S : V → Prop} (h : ∀ x, S x → Lin k bs x) {u : V} (hu : Sp S u) : Lin k bs u := by
  refine Sp.all (Q := Lin k bs) (fun t _ => ?_) (fun u v h1 h2 t ht => ?_) (fun a u h1 t ht => ?_) h hu
  · rw [cmb_vz]; rfl
  · rw [cmb_va]; show u (k + t) ^^^ v (k + t) = _; rw [h1 t ht, h2 t ht]; rfl
  · rw [cmb_vm]; show mul a (u (k + t)) = _; rw [h1 t ht]; rfl

theorem lin_sym {k : Nat} {bs row s : List By} (hr : row.length = k) (hs : vec s = cmb (vec row) (fun i => vec (chL bs 4 i)) (List.range k)) : Lin k bs (vec (row ++ s)) := by
  intro t ht
  rw [← hr, vec_append_ge, hs, hr]
  refine congrFun (cmb_congr fun i hi => ?_) t
  rw [vec_append_lt (by have := List.mem_range.1 hi; omega)]

/-- The rows, as the shelf and as the reference have them. -/
def Cor (k : Nat) (bs : List By) (rows : List (List By)) (R : List V) : Prop := R.length = rows.length ∧ ∀ j, j < rows.length → ∃ u, R[j]? = some u ∧ rp k u = rv rows j ∧ Lin k bs u

theorem Cor.app {k : Nat} {bs : List By} {rows : List (List By)} {R : List V} {row s : List By} (h : Cor k bs rows R) (hr : row.length = k) (hs : vec s = cmb (vec row) (fun i => vec (chL bs 4 i)) (List.range k)) : Cor k bs (rows ++ [row]) (R ++ [vec (row ++ s)]) := by
  refine ⟨by simp [h.1], fun j hj => ?_⟩
  rw [List.length_append, List.length_singleton] at hj
  by_cases e : j < rows.length
  · obtain ⟨u, h1, h2, h3⟩ := h.2 j e
    exact ⟨u, by rw [List.getElem?_append_left (by rw [h.1]; exact e)]; exact h1, by rw [rv_app_lt e]; exact h2, h3⟩
  · have : j = rows.length := by omega
    subst this
    refine ⟨_, ?_, by rw [rv_app_eq]; exact rp_vec hr, lin_sym hr hs⟩
    rw [List.getElem?_append_right (by rw [h.1]; exact Nat.le_refl _), h.1, Nat.sub_self]; rfl

theorem Cor.ind {k : Nat} {bs : List By} {rows : List (List By)} {R : List V} {row s : List By} (h : Cor k bs rows R) (hr : row.length = k) (hi : Ind (rv rows) (List.range rows.length)) :
    Ind (rv (rows ++ [row])) (List.range (rows.length + 1)) ↔ More k R (vec (row ++ s)) := by
  rw [Ind.succ, rv_app_eq]
  have e1 : Ind (rv (rows ++ [row])) (List.range rows.length) ↔ Ind (rv rows) (List.range rows.length) := by
    have : ∀ c, cmb c (rv (rows ++ [row])) (List.range rows.length) = cmb c (rv rows) (List.range rows.length) := fun c => cmb_congr fun i hi => by rw [rv_app_lt (List.mem_range.1 hi)]
    unfold Ind
    simp only [this]
  unfold More
  rw [rp_vec hr]
  have e2 : Sp (Fst (rv (rows ++ [row])) rows.length) (vec row) ↔ Sp (fun x => ∃ u ∈ R, x = rp k u) (vec row) := by
    constructor <;> refine Sp.mono fun x hx => ?_
    · obtain ⟨i, hi, rfl⟩ := hx
      obtain ⟨u, h1, h2, _⟩ := h.2 i hi
      exact .of ⟨u, List.mem_of_getElem? h1, by rw [rv_app_lt hi, h2]⟩
    · obtain ⟨u, hu, rfl⟩ := hx
      obtain ⟨j, hj, rfl⟩ := List.getElem_of_mem hu
      obtain ⟨u, h1, h2, _⟩ := h.2 j (by rw [← h.1]; exact hj)
      rw [List.getElem?_eq_getElem hj] at h1
      cases h1
      exact .of ⟨j, by rw [← h.1]; exact hj, by rw [h2, rv_app_lt (by rw [← h.1]; exact hj)]⟩
  rw [e2]
  exact ⟨fun h => h.2, fun h => ⟨e1.2 hi, h⟩⟩

theorem rowL_nz {f id : Int} {k : Nat} (hk : 1 ≤ k) (h0 : 0 ≤ id) : ∃ i, i < k ∧ vec (rowL f id k) i ≠ 0#8 := by
  unfold rowL
  split
  · rename_i h
    refine ⟨id.toNat, by omega, ?_⟩
    simp only [vec, List.getD_eq_getElem?_getD]
    rw [List.getElem?_set, if_pos rfl, if_pos (by simp; omega)]
    decide
  · split
    · refine ⟨0, by omega, ?_⟩
      simp only [vec, List.getD_eq_getElem?_getD]
      rw [List.getElem?_set, if_pos rfl, if_pos (by rw [dl_len]; omega)]
      decide
    · rename_i h
      have hx : ∃ x ∈ dl k (dseed f id), x ≠ 0#8 := Classical.byContradiction fun hn => h (by
        rw [List.all_eq_true]
        intro x hx
        rw [beq_iff_eq]
        exact Classical.byContradiction fun hne => hn ⟨x, hx, hne⟩)
      obtain ⟨x, hx, hne⟩ := hx
      obtain ⟨i, hi, rfl⟩ := List.getElem_of_mem hx
      refine ⟨i, by rw [dl_len] at hi; exact hi, ?_⟩
      simp only [vec, List.getD_eq_getElem?_getD]
      rw [List.getElem?_eq_getElem hi]; exact hne

/-- How the shelf stands behind so many symbols. -/
def St9 (len : Nat) (bs : List By) (i : Nat) (L : List Blk) (rows : List (List By)) : Prop :=
  (i = 0 ∧ L = [] ∧ rows = []) ∨ ∃ b, fnd L 9 = some b ∧ b.size = len ∧ b.rank = 0 ∧ Cor (cntK len 4).toNat bs rows b.R

theorem fnd_addR {L : List Blk} {k : Int} {u : V} {b : Blk} (h : fnd L k = some b) : fnd (addR L k u) k = some { b with R := b.R ++ [u] } := by
  induction L with
  | nil => simp [fnd] at h
  | cons c L ih =>
    by_cases e : c.id = k
    · rw [fnd_cons_same e] at h
      obtain rfl : c = b := Option.some.inj h
      have : addR (c :: L) k u = { c with R := c.R ++ [u] } :: addR L k u := by unfold addR; rw [List.map_cons, if_pos e]
      rw [this, fnd_cons_same (by exact e)]
    · rw [fnd_cons_other e] at h
      have : addR (c :: L) k u = c :: addR L k u := by unfold addR; rw [List.map_cons, if_neg e]
      rw [this, fnd_cons_other e]; exact ih h

theorem fnd_addR_other {L : List Blk} {k j : Int} {u : V} (hne : k ≠ j) : fnd (addR L k u) j = fnd L j := by
  induction L with
  | nil => rfl
  | cons c L ih =>
    by_cases e : c.id = k
    · have : addR (c :: L) k u = { c with R := c.R ++ [u] } :: addR L k u := by unfold addR; rw [List.map_cons, if_pos e]
      rw [this, fnd_cons_other (by show c.id ≠ j; omega), fnd_cons_other (by omega)]; exact ih
    · have : addR (c :: L) k u = c :: addR L k u := by unfold addR; rw [List.map_cons, if_neg e]
      rw [this]
      by_cases e2 : c.id = j
      · rw [fnd_cons_same e2, fnd_cons_same e2]
      · rw [fnd_cons_other e2, fnd_cons_other e2]; exact ih

theorem fnd_keep {L : List Blk} {gone : List Int} {c : Blk} {j : Int} (hg : j ∉ gone) (hc : c.id ≠ j) : fnd ((L.filter fun b => decide (b.id ∉ gone)) ++ [c]) j = fnd L j := by
  induction L with
  | nil => simp [fnd, hc]
  | cons d L ih =>
    by_cases e : d.id = j
    · have : decide (d.id ∉ gone) = true := by rw [decide_eq_true_eq, e]; exact hg
      rw [List.filter_cons, if_pos this, List.cons_append, fnd_cons_same e, fnd_cons_same e]
    · rw [fnd_cons_other e]
      by_cases h : decide (d.id ∉ gone) = true
      · rw [List.filter_cons, if_pos h, List.cons_append, fnd_cons_other e]; exact ih
      · rw [List.filter_cons, if_neg h]; exact ih

/-- Another one comes: the one that matters stays. -/
theorem other_keeps {L L' : List Blk} {ID size id : Int} {data : List By} {ok : Bool} {gone : List Int} (h : AddOk 4 2000 4 L ID size 3 id data ok gone L') (hn : (L.map Blk.id).Nodup) (hID : ID ≠ 9) {b : Blk} (hb : fnd L 9 = some b) (hr : b.rank = 0) : fnd L' 9 = some b := by
  unfold AddOk at h
  cases hf : fnd L ID with
  | some c =>
    rw [hf] at h
    obtain ⟨_, _, rfl⟩ := h
    split
    · rw [fnd_addR_other hID]; exact hb
    · exact hb
  | none =>
    rw [hf] at h
    rcases h with ⟨_, _, _, ⟨S, hp, _, hrm⟩, bn, mb, rfl⟩ | ⟨_, _, rfl, _⟩
    · obtain ⟨done, rest, rfl, rfl, _, _, hw⟩ := roomF_spec hrm
      rw [fnd_keep ?_ (by exact hID)]
      · exact hb
      · intro hm
        obtain ⟨x, hx, hxi⟩ := List.mem_map.1 hm
        obtain ⟨c, hc, rfl⟩ := List.mem_map.1 (hp.mem_iff.1 (List.mem_append_left _ hx))
        have hxi : c.id = 9 := hxi
        have h1 := fnd_mem hn hc
        rw [hxi, hb] at h1
        obtain rfl : b = c := Option.some.inj h1
        have h3 := hw _ hx
        unfold wrs at h3
        have h4 := of_decide_eq_true h3
        have h5 : (wnB 4 b).rank = b.rank := rfl
        dsimp only at h4
        omega
    · exact hb

/-- One symbol of the one that matters. -/
theorem add9 {len : Nat} {bs : List By} {i : Nat} {L L' : List Blk} {rows : List (List By)} {id : Int} {s : List By} {ok : Bool} {gone : List Int} (hok : cntOk len 4 = true) (h : AddOk 4 2000 4 L 9 len 0 id s ok gone L') (hl : len ≤ 40) (hS : St9 len bs i L rows)
    (hid : 0 ≤ id ∧ id < cntK len 4 + 64) (hsl : s.length = 4) (hi : Ind (rv rows) (List.range rows.length))
    (hs : vec s = cmb (vec (rowL 9 id (cntK len 4).toNat)) (fun i => vec (chL bs 4 i)) (List.range (cntK len 4).toNat)) :
    (ok = true ↔ Ind (rv (rows ++ [rowL 9 id (cntK len 4).toNat])) (List.range (rows.length + 1))) ∧ (i ≠ 0 → gone = []) ∧ ∃ b, fnd L' 9 = some b ∧ b.size = len ∧ b.rank = 0 ∧ Cor (cntK len 4).toNat bs (if ok then rows ++ [rowL 9 id (cntK len 4).toNat] else rows) b.R := by
  have hbd := cntK_bd hok
  have hrl := rowL_len 9 id (cntK len 4).toNat
  obtain ⟨t, ht, hnz⟩ := rowL_nz (f := 9) (k := (cntK len 4).toNat) (by omega) hid.1
  unfold AddOk at h
  rcases hS with ⟨rfl, rfl, rfl⟩ | ⟨b, hb, hsz, hrk, hcor⟩
  · have hc0 : Cor (cntK len 4).toNat bs [] [] := ⟨rfl, fun j hj => by simp at hj⟩
    have hmore : More (cntK len 4).toNat [] (vec (rowL 9 id (cntK len 4).toNat ++ s)) := more_nil ht (by rw [vec_append_lt (by omega)]; exact hnz)
    have hind := (hc0.ind (s := s) hrl hi).2 hmore
    have hsym : SymOk 9 len 4 [] id s := ⟨hid.1, hid.2, by omega, hmore⟩
    have hck : cntK len 4 ≤ 10 := by
      unfold cntK
      rw [if_pos hok]
      omega
    rw [fnd_nil] at h
    rcases h with ⟨rfl, _, _, _, bn, mb, rfl⟩ | ⟨_, _, _, he⟩
    · refine ⟨⟨fun _ => hind, fun _ => rfl⟩, fun h => absurd rfl h, _, fnd_cons_same rfl, rfl, rfl, ?_⟩
      exact hc0.app hrl hs
    · exfalso
      rcases he with he | he | ⟨S, hp, _, hr⟩
      · rw [hok] at he; cases he
      · exact he hsym
      · have : S = [] := List.perm_nil.1 hp
        subst this
        rw [roomF, if_neg (by simp [bsum]; omega)] at hr
        cases hr
  · rw [hb] at h
    obtain ⟨rfl, hiff, rfl⟩ := h
    rw [hsz] at hiff ⊢
    have hk := hcor.ind (s := s) hrl hi
    refine ⟨?_, fun _ => rfl, ?_⟩
    · rw [hiff, hk]
      exact ⟨fun h => h.2.2.2, fun h => ⟨hid.1, hid.2, by omega, h⟩⟩
    · cases ok with
      | true => exact ⟨_, fnd_addR hb, hsz, hrk, hcor.app hrl hs⟩
      | false => exact ⟨b, hb, hsz, hrk, hcor⟩

/-! ### the text -/

theorem flat_chunks (bs : List By) (sym : Nat) : ∀ K, ((List.range K).map (chL bs sym)).flatten = (List.range (K * sym)).map (vec bs)
  | 0 => by simp
  | K + 1 => by
    rw [List.range_succ, List.map_append, List.flatten_append, flat_chunks bs sym K, Nat.add_mul, Nat.one_mul, List.range_add, List.map_append, List.map_map]
    simp [chL, Function.comp_def]

theorem take_chunks {bs : List By} {K sym : Nat} (h : bs.length ≤ K * sym) : ((List.range K).map (chL bs sym)).flatten.take bs.length = bs := by
  rw [flat_chunks]
  apply List.ext_getElem?
  intro i
  rw [List.getElem?_take, List.getElem?_map]
  by_cases hi : i < bs.length
  · rw [if_pos hi, List.getElem?_range (by omega), vec_get hi]; rfl
  · rw [if_neg hi, List.getElem?_eq_none (by omega)]

/-- Enough came: the text. -/
theorem text_of {k : Nat} {bs : List By} {rows : List (List By)} {R : List V} {outs : List (List By)} (h : Cor k bs rows R) (ho : SolOk k 4 R outs) : outs = (List.range k).map (chL bs 4) := by
  apply List.ext_getElem (by simp [ho.1])
  intro i h1 h2
  have hik : i < k := by rw [← ho.1]; exact h1
  obtain ⟨l1, u, hu, hd, ht⟩ := ho.2 i hik
  have ee1 : outs.getD i [] = outs[i] := by rw [List.getD_eq_getElem?_getD, List.getElem?_eq_getElem h1]; rfl
  rw [ee1] at l1 ht
  have hlin : Lin k bs u := Lin.all (S := fun x => x ∈ R) (fun x hx => by
    obtain ⟨j, hj, rfl⟩ := List.getElem_of_mem hx
    obtain ⟨u, h1, _, h3⟩ := h.2 j (by rw [← h.1]; exact hj)
    rw [List.getElem?_eq_getElem hj] at h1
    cases h1; exact h3) hu
  have ee2 : ((List.range k).map (chL bs 4))[i] = chL bs 4 i := by simp
  rw [ee2]
  apply vec_inj (by rw [l1, chL_len])
  funext t
  by_cases h4 : t < 4
  · rw [ht t h4, hlin t h4]
    have : cmb u (fun i => vec (chL bs 4 i)) (List.range k) = cmb (e1 i) (fun i => vec (chL bs 4 i)) (List.range k) := cmb_congr fun j hj => by
      rw [hd j (List.mem_range.1 hj)]; rfl
    rw [this, cmb_one i _ _ (range_nodup k) (List.mem_range.2 hik)]
  · rw [vec_ge (by omega), vec_ge (by rw [chL_len]; omega)]
end Go.SR

/- girandolelaw24.ShelfTexts answers true. -/
namespace Go.SR
open Go Go.Proofs

variable {w : World}

theorem RefB.ext {w0 w w' : World} {b k : Nat} {rows : List (List By)} (h : RefB w0 w b k rows) (he : Ext w w') : RefB w0 w' b k rows := h.kc he.kc

/-- The cells of a reference's basis are no bytes. -/
theorem RefB.nb {k : Nat} {rp dp : Option Addr} {rl rc dl dc : Nat} : ∀ (i : Nat) x, (#[.int .i64 k, .int .i64 1, .slice rp rl rc, .slice dp dl dc] : Array Value)[i]? ≠ some (bv x) := by
  intro i x h
  match i, h with
  | 0, h => cases h
  | 1, h => cases h
  | 2, h => cases h
  | 3, h => cases h
  | n + 4, h => simp at h

theorem refSymbol4_c {frame id : Int} {p : Option Addr} {pl pc : Nat} {bs : List By} (hb : Byr w p pl bs) (hok : cntOk bs.length 4 = true) (hf : 0 ≤ frame ∧ frame < 4294967296) (hid : 0 ≤ id ∧ id < cntK bs.length 4 + 64) :
    Cs Try.prog gref1_Symbol_n #[.int .u32 frame, .slice p pl pc, .int .i64 4, .int .i64 id] w (Ret fun v w' => ∃ q l c s, v = .tuple #[.slice q l c, .bool true] ∧ RowB w' w.heap.size q l c s ∧ s.length = 4 ∧
      vec s = cmb (vec (rowL frame id (cntK bs.length 4).toNat)) (fun i => vec (chL bs 4 i)) (List.range (cntK bs.length 4).toNat) ∧ Ext w w') :=
  refSymbol_c (sym := 4) hb hok hf hid

theorem ShelfTexts_c {p0 p1 p2 : Option Addr} {l0 l1 l2 c0 c1 c2 : Nat} (h0 : l0 ≤ 40 → ∃ bs, Byr w p0 l0 bs) (h1 : l1 ≤ 30 → ∃ ids, Byr w p1 l1 ids) (h2 : ∀ i, i < l2 → ∃ a b, p2 = some a ∧ w.cell? (a.add i) = some (bv b)) :
    Cs Try.prog glaw24_ShelfTexts_n #[.slice p0 l0 c0, .slice p1 l1 c1, .slice p2 l2 c2] w (Ret fun v w' => v = .bool true ∧ Ext w w') := by
  apply glaw24_ShelfTexts_ok
  unfold glaw24_ShelfTexts
  refine cl_ret begun24_c ?_
  rintro v w1 ⟨rfl, he1⟩
  refine ⟨_, rfl, br_f ?_⟩
  refine jn_step (fun _ w' => w' = w1 ∧ 1 ≤ l0 ∧ l0 ≤ 40 ∧ l1 ≤ 30) ?_ ?_
  rotate_left
  · exact br_if (fun _ => ⟨rfl, he1⟩) (fun g1 => br_if (fun _ => ⟨rfl, he1⟩) (fun g2 => br_if (fun _ => ⟨rfl, he1⟩) (fun g3 => ⟨rfl, by omega, by omega, by omega⟩)))
  rintro _ _ w3 ⟨hw3, g1, g2, g3⟩
  obtain ⟨bs, h0⟩ := h0 g2
  obtain ⟨ids, h1⟩ := h1 g3
  have e0 := h0.len
  have e1 := h1.len
  rw [e0] at g1 g2
  rw [e1] at g3
  subst hw3
  refine cl_ret fieldNew_c ?_
  rintro v w5 ⟨f, rfl, hf, he5, _⟩
  refine ⟨_, rfl, ?_⟩
  refine cl_ret (ShI.new (w0 := w) (fr := 4) (by' := 2000) (sy := 4) hf (he1.trans he5) (by omega)) ?_
  rintro v w8 ⟨s, sm, rfl, h8, _⟩
  refine ⟨_, _, rfl, ?_⟩
  refine jn_step (fun _ w' => w' = w8) ?_ (br_f (br_f rfl))
  intro _ _ w11 hw11
  subst hw11
  refine al_step fun m12 w13 a13 he13 hb13 => ?_
  refine stN_step a13 (by rw [zc31]; simp) (by simp [Value.oneCell']) fun w14 a14 c14 => ⟨by decide, ?_⟩
  rw [over_all (by rw [zc31]; rfl)] at a14
  have e14 : Ext w11 w14 := Ext.then he13 c14 fun y hy => by omega
  have h14 := h8.more e14
  have hok : cntOk bs.length 4 = true := decide_eq_true ⟨by omega, by omega, by omega, by omega⟩
  have hcd := cntK_bd hok
  have hce : cntK bs.length 4 = ((bs.length : Int) + 4 - 1) / 4 := by unfold cntK; rw [if_pos hok]
  obtain ⟨K, hK⟩ : ∃ K : Nat, cntK bs.length 4 = K := ⟨(cntK bs.length 4).toNat, by omega⟩
  have hKe : IntKind.wrap .i64 (Int.tdiv (IntKind.wrap .i64 ((l0 : Int) + (3 : Int))) (4 : Int)) = K := by
    rw [w64 (n := (l0 : Int) + 3) (by omega) (by omega), Int.tdiv_eq_ediv_of_nonneg (by omega), w64 (by omega) (by omega)]
    omega
  have hKn : (cntK bs.length 4).toNat = K := by omega
  rw [hKe, w64 (n := (K : Int) + 64) (by omega) (by omega)]
  refine cl_ret (refNew_c (k := (K : Int)) (size := 1) (by omega) (by omega)) ?_
  rintro v w16 ⟨b, rfl, a16, he16, hb16⟩
  refine ⟨_, _, rfl, ?_⟩
  have h16 := h14.more he16
  have hbw : w.heap.size ≤ b := Nat.le_trans h14.ext.size hb16
  have hR16 : RefB w w16 b K [] := ⟨none, 0, 0, none, 0, 0, [], a16, MatR.nil, MatR.nil, ⟨rfl, fun i hi => by simp at hi⟩, ⟨rfl, fun i hi => by simp at hi⟩, fun c _ i hi => by simp at hi, by omega, hbw⟩
  have am16 := At.ext a14 he16
  refine lp_step (fun N st w' => ∃ (i : Nat) (L : List Blk) (rows : List (List By)), st = i ∧ i ≤ ids.length ∧ ShI w w' s f sm 4 2000 4 L ∧ RefB w w' b K rows ∧ At w' m12 #[.int .u32 9, .int .i64 1, .slice none 0 0, .int .i64 l0, .int .i64 0, .int .i64 0] 31 ∧ St9 bs.length bs i L rows ∧ N = ids.length - i)
    _ ⟨0, [], [], rfl, by omega, h16, hR16, am16, .inl ⟨rfl, rfl, rfl⟩, rfl⟩ ?_
  clear h8 h14 h16 hR16 am16 a16 a14 a13 c14 e14 he16 hb16
  rintro N _ _ w21 ⟨i, L, rows, rfl, hi, hS, hR, ha, hSt, hN⟩ KK hKK
  refine br_if (fun hlt => ?_) (fun hge => ⟨rfl, hS.ext⟩)
  have hi' : i < ids.length := by omega
  refine (h1.ext hS.ext).ix (by omega) (by omega) fun a22 h22 => ⟨_, h22, by omega, ?_⟩
  generalize vec ids ((i : Int)).toNat = idb
  have hib := idb.isLt
  rw [w64 (n := (idb.toNat : Int)) (by omega) (by omega), Int.tmod_eq_emod_of_nonneg (by omega)]
  obtain ⟨id, hid, hid0, hid1⟩ : ∃ id : Int, (idb.toNat : Int) % ((K : Int) + 64) = id ∧ 0 ≤ id ∧ id < (K : Int) + 64 := ⟨_, rfl, Int.emod_nonneg _ (by omega), Int.emod_lt_of_pos _ (by omega)⟩
  rw [hid]
  refine cl_ret (refSymbol4_c (frame := 9) (id := id) (h0.ext hS.ext) hok (by omega) (by omega)) ?_
  rintro v w25 ⟨p26, m27, m28, sy, rfl, hr25, hsl, hsv, he25⟩
  refine ⟨_, _, _, _, rfl, ?_⟩
  refine cl_ret (refRow_c (frame := 9) (symbol := id) (k := (K : Int)) (by omega) (by omega) (by omega)) ?_
  rintro v w31 ⟨p32, m33, m34, rfl, hr31, he31⟩
  refine ⟨_, _, _, _, rfl, ?_⟩
  rw [Int.toNat_natCast] at hr31
  rw [hKn] at hsv
  have hrl := rowL_len 9 id K
  have hS31 := (hS.more he25).more he31
  have hR31 := (hR.ext he25).ext he31
  have ha31 := At.ext (At.ext ha he25) he31
  refine ⟨_, _, _, _, _, _, _, _, ha31.all rfl, ?_⟩
  have hr25' : RowB w31 w21.heap.size p26 m27 m28 sy := Row.ext hr25 he31
  refine cl_ret (hS31.add (hr25'.byr (by omega)) (RowB.cap hr25')) ?_
  rintro v w45 ⟨ok, p47, m48, m49, gone, L', rfl, hg45, hS45, hadd, hk45⟩
  refine ⟨_, _, _, _, rfl, ?_⟩
  have hR45 := hR31.kc hk45
  have ha45 := hk45.at ha31
  have hr45 : RowB w45 w25.heap.size p32 m33 m34 _ := Row.kc hr31 hk45
  have hrows : rows.length ≤ 32 := by
    rcases hSt with ⟨_, _, rfl⟩ | ⟨blk, hb, hsz, _, hc⟩
    · simp
    · have := (hS.h.bs blk (fnd_some hb).1).len
      rw [hsz] at this
      have := hc.1
      omega
  obtain ⟨_, _, _, _, _, _, _, _, _, _, _, _, hind, _, _⟩ := _root_.id hR
  have hl0 : (l0 : Int) = bs.length := by omega
  rw [hl0] at hadd
  obtain ⟨hiff, hgone, hblk⟩ := add9 (len := bs.length) hok hadd g2 hSt ⟨hid0, by omega⟩ hsl hind (by rw [hKn]; exact hsv)
  rw [hKn] at hiff hblk
  refine jn_step (fun _ w' => ∃ (L : List Blk) (rows : List (List By)), ShI w w' s f sm 4 2000 4 L ∧ RefB w w' b K rows ∧ At w' m12 #[.int .u32 9, .int .i64 1, .slice none 0 0, .int .i64 l0, .int .i64 0, .int .i64 0] 31 ∧ ∃ b, fnd L 9 = some b ∧ b.size = bs.length ∧ b.rank = 0 ∧ Cor K bs rows b.R) ?_ ?_
  · clear hS hR ha hSt hS31 hR31 ha31 hr25 hr25' hr31 hS45 hadd hk45 hR45 ha45 hr45 hg45 hiff hgone hblk hind hrows hsv he25 he31 h22
    rintro _ _ w50 ⟨L, rows, hS, hR, ha, hblk⟩
    refine jn_step (fun _ w' => ∃ (L : List Blk) (rows : List (List By)), ShI w w' s f sm 4 2000 4 L ∧ RefB w w' b K rows ∧ At w' m12 #[.int .u32 9, .int .i64 1, .slice none 0 0, .int .i64 l0, .int .i64 0, .int .i64 0] 31 ∧ ∃ b, fnd L 9 = some b ∧ b.size = bs.length ∧ b.rank = 0 ∧ Cor K bs rows b.R) ?_ ?_
    · clear hS hR ha hblk
      rintro _ _ w51 ⟨L, rows, hS, hR, ha, blk, hfb, hsz, hrk, hcor⟩
      have next : ∀ {w' : World}, Ext w51 w' → KK (IntKind.wrap .i64 ((i : Int) + 1)) w' := fun he => by
        rw [w64 (by omega) (by omega)]
        exact hKK (ids.length - (i + 1)) _ _ (by omega) ⟨i + 1, L, rows, by simp, by omega, hS.more he, hR.ext he, ha.ext he, .inr ⟨blk, hfb, hsz, hrk, by rw [hKn]; exact hcor⟩, rfl⟩
      have hlen := (hS.h.bs blk (fnd_some hfb).1).len
      rw [hsz, hK] at hlen
      refine cl_ret (shelfPayload_c hS.h) ?_
      rintro v w53 ⟨he53, hv⟩
      rw [hfb] at hv
      dsimp only at hv
      rw [hsz, hK] at hv
      have hR53 := hR.ext he53
      obtain ⟨rp, rl, rc, dp, dl, dc, ds, hat, hRR, _, _, _, _, _, _⟩ := _root_.id hR53
      have hrl := hRR.len
      have hcl := hcor.1
      by_cases hfull : (blk.R.length : Int) < (K : Int)
      · rw [if_pos hfull] at hv
        subst hv
        refine ⟨_, _, _, _, rfl, nc_s ⟨_, _, _, by rw [add_mk, hat.cell]; rfl, ?_⟩⟩
        have : ((rl : Int) == (K : Int)) = false := by simp; omega
        rw [this]
        exact br_f (br_f (next he53))
      · rw [if_neg hfull] at hv
        obtain ⟨p54, m55, m56, outs, rfl, hso, hr53⟩ := hv
        refine ⟨_, _, _, _, rfl, nc_s ⟨_, _, _, by rw [add_mk, hat.cell]; rfl, ?_⟩⟩
        have : ((rl : Int) == (K : Int)) = true := by simp; omega
        rw [this]
        refine br_f (br_t ?_)
        rw [Int.toNat_natCast, show ((4 : Int)).toNat = 4 from rfl] at hso
        have hout := text_of hcor hso
        rw [hout, Int.toNat_natCast, take_chunks (by omega)] at hr53
        refine str_step (hr53.byr (by omega)) ⟨_, rfl, ?_⟩
        refine str_step (h0.ext (hS.ext.trans he53)) ⟨_, rfl, ?_⟩
        have : (!((strB bs).toList == (strB bs).toList)) = false := by simp
        rw [this]
        exact br_f (next he53)
    · refine br_if (fun hl2 => ?_) (fun _ => ⟨L, rows, hS, hR, ha, hblk⟩)
      obtain ⟨a2, ob, hp2, hc2⟩ := h2 i (by omega)
      refine ixa_step hp2 (by omega) (by omega) ⟨_, by rw [Int.toNat_natCast, Nat.mul_one]; exact Ext.cell hS.ext hc2, by decide, ?_⟩
      have hob := ob.isLt
      rw [Int.tmod_eq_emod_of_nonneg (by omega), wu8 (n := 20 + (ob.toNat : Int) % 6) (by omega) (by omega), wu32 (n := 20 + (ob.toNat : Int) % 6) (by omega) (by omega)]
      refine al_step fun m73 w74 a74 he74 hb74 => ?_
      refine conv_fresh a74 fun w76 hh76 hc76 => ⟨_, _, _, rfl, ?_⟩
      have he76 : Ext w50 w76 := Ext.then he74 hc76 fun y hy => by omega
      have hb76 := Byr.of_heap [97#8, 98#8, 99#8, 100#8] hh76 rfl (by simp)
      refine cl_ret ((hS.more he76).add hb76 (Nat.le_refl _)) ?_
      rintro v w81 ⟨ok2, p83, m84, m85, gone2, L2, rfl, _, hS81, hadd2, hk81⟩
      refine ⟨_, _, _, _, rfl, ?_⟩
      obtain ⟨blk, hfb, hsz, hrk, hcor⟩ := hblk
      exact ⟨L2, rows, hS81, (hR.ext he76).kc hk81, hk81.at (ha.ext he76), blk, other_keeps hadd2 hS.h.ids (by omega) hfb hrk, hsz, hrk, hcor⟩
  · refine al_step fun m89 w90 a90 he90 _ => ?_
    have hb90 : Byr w90 (some ⟨m89, 0, none⟩) 1 [0#8] := Byr.of_heap [0#8] a90 rfl (by simp)
    have hr90 : RowB w90 w25.heap.size p32 m33 m34 _ := Row.ext hr45 he90
    have hS90 := hS45.more he90
    have hR90 := hR45.ext he90
    obtain ⟨rp, rl, rc, dp, dl, dc, ds, hat90, _⟩ := _root_.id hR90
    refine cl_ret (refAdd_c hR90 (hr90.byr (by omega)) hb90 hrl rfl hS90.ext.size (by omega)) ?_
    rintro v w92 ⟨ok', rfl, hiff', hR92, hc92⟩
    have hoo : ok' = ok := by rw [Bool.eq_iff_iff, hiff', hiff]
    subst hoo
    refine ⟨_, rfl, ?_⟩
    rw [show (!(ok' == ok')) = false by simp]
    refine br_f ?_
    have hS92 := hS90.other hbw hat90 RefB.nb (by decide) (by decide) (by decide) (by decide) hc92
    have ha90 := At.ext ha45 he90
    have ha92 := ha90.chg hc92 (ha90.ne_type hat90 (by decide))
    have fin : ∃ (L : List Blk) (rows : List (List By)), ShI w w92 s f sm 4 2000 4 L ∧ RefB w w92 b K rows ∧ At w92 m12 #[.int .u32 9, .int .i64 1, .slice none 0 0, .int .i64 l0, .int .i64 0, .int .i64 0] 31 ∧ ∃ b, fnd L 9 = some b ∧ b.size = bs.length ∧ b.rank = 0 ∧ Cor K bs rows b.R := ⟨L', _, hS92, hR92, ha92, hblk⟩
    refine br_if (fun hpos => ?_) (fun _ => fin)
    have := hgone (by omega)
    subst this
    have hm48 := hg45.lenI
    refine br_if (fun h => by exfalso; simp at hm48; omega) (fun _ => fin)
end Go.SR
