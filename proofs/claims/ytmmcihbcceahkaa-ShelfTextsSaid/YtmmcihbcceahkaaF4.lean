/- Contracts: basis.New, Add, Rank, Solve. -/
import Derived.Test.YtmmcihbcceahkaaF3
namespace Go.SR
open Go Go.Proofs

theorem und173 : Try.prog.underlying 173 = some (.map 3 179) := by kernel_rfl
theorem und76 : Try.prog.underlying 76 = some (.slice 22) := by kernel_rfl
theorem inf22 : (Try.prog.info? 22).map (fun i => (i.zero, i.size, i.bytes)) = some (some (.slice none 0 0), 1, 24) := by kernel_rfl
theorem zero179 (w : World) : (zeroValue 179).run Try.prog w = .ok (.slice none 0 0) w := by
  have h : (Try.prog.info? 179).map (fun i => (i.zero, i.size, i.bytes)) = some (some (.slice none 0 0), 1, 24) := by kernel_rfl
  obtain ⟨i, hi, hz, _⟩ := info_parts h
  simp [zeroValue, typeInfo, hi, hz]

/-! ### sums in any order -/

theorem cmb_perm {c : V} {R : Nat → V} {l l' : List Nat} (h : l.Perm l') : cmb c R l = cmb c R l' := by
  induction h with
  | nil => rfl
  | cons x _ ih => simp only [cmb, ih]
  | swap x y l => simp only [cmb]; exact va_lc _ _ _
  | trans _ _ h1 h2 => exact h1.trans h2

/-! ### a Basis in memory -/

/-- Lines in a map. -/
def LinesAt (w : World) (m : List (Int × Value)) (X : Nat → List By) : Prop := ∀ x ∈ m, ∃ q l c, x.2 = .slice q l c ∧ l ≤ c ∧ Byr w q l (X x.1.toNat)

theorem LinesAt.sty {w w' : World} {m : List (Int × Value)} {X : Nat → List By} (h : LinesAt w m X) (hs : Sty w w') : LinesAt w' m X := fun x hx => by
  obtain ⟨q, l, c, h1, h2, h3⟩ := h x hx
  exact ⟨q, l, c, h1, h2, h3.sty hs⟩

/-- Places as keys. -/
def ks (P : List Nat) : List Int := P.map fun p : Nat => (p : Int)

theorem mem_ks {P : List Nat} {x : Int} : x ∈ ks P ↔ ∃ p ∈ P, x = (p : Nat) := by
  simp only [ks, List.mem_map]
  constructor
  · rintro ⟨p, hp, rfl⟩; exact ⟨p, hp, rfl⟩
  · rintro ⟨p, hp, rfl⟩; exact ⟨p, hp, rfl⟩

theorem mem_ks' {P : List Nat} {p : Nat} : (p : Int) ∈ ks P ↔ p ∈ P := by
  rw [mem_ks]
  constructor
  · rintro ⟨q, hq, h⟩; have : p = q := by omega
    subst this; exact hq
  · intro h; exact ⟨p, h, rfl⟩

theorem ks_nodup {P : List Nat} : (ks P).Nodup ↔ P.Nodup := by
  unfold ks
  rw [List.Nodup, List.pairwise_map, List.Nodup]
  constructor <;> intro h <;> exact h.imp fun {a b} h => by omega

theorem ks_perm_inv {P : List Nat} {l : List Int} (h : l.Perm (ks P)) : ∃ Q, l = ks Q ∧ Q.Perm P := by
  refine ⟨l.map Int.toNat, ?_, ?_⟩
  · unfold ks
    rw [List.map_map]
    have : ∀ x ∈ l, ((fun p : Nat => (p : Int)) ∘ Int.toNat) x = x := fun x hx => by
      obtain ⟨p, _, rfl⟩ := mem_ks.1 (h.mem_iff.1 hx)
      simp
    conv => lhs; rw [← List.map_id l]
    exact (List.map_congr_left (by simpa using this)).symm
  · have := h.map Int.toNat
    unfold ks at this
    rw [List.map_map] at this
    have e : (Int.toNat ∘ fun p : Nat => (p : Int)) = id := by funext x; simp
    rwa [e, List.map_id] at this

/-- A Basis lies in block b, its lines in map mb. -/
structure BasisAt (w : World) (b mb f k size : Nat) (P : List Nat) (X : Nat → List By) : Prop where
  bb : At w b #[.pointer (some ⟨f, 0, none⟩), .int .i64 k, .int .i64 size, .map (some mb)] 175
  fl : FieldAt w f
  mp : ∃ m, MapAt w mb .i64 m ∧ (m.map Prod.fst).Perm (ks P) ∧ LinesAt w m X
  len : ∀ p ∈ P, (X p).length = k + size

/-- The same, told by what came. -/
def BasisOk (w : World) (b mb f k size : Nat) (R : List V) : Prop :=
  (1 ≤ k ∧ k ≤ 32 ∧ 1 ≤ size ∧ size ≤ 64) ∧ ∃ P X, BasisAt w b mb f k size P X ∧ Says k R P (fun p => vec (X p))

theorem BasisOk.map {w : World} {b mb f k size : Nat} {R : List V} (h : BasisOk w b mb f k size R) : ∃ m, MapAt w mb .i64 m := by
  obtain ⟨_, P, X, h1, _⟩ := h
  obtain ⟨m, hm, _⟩ := h1.mp
  exact ⟨m, hm⟩

theorem BasisOk.bb {w : World} {b mb f k size : Nat} {R : List V} (h : BasisOk w b mb f k size R) : At w b #[.pointer (some ⟨f, 0, none⟩), .int .i64 k, .int .i64 size, .map (some mb)] 175 := by
  obtain ⟨_, P, X, h1, _⟩ := h; exact h1.bb

/-- Other maps are turned, and new blocks are laid. -/
theorem BasisOk.nc {S : Nat → Prop} {w w' : World} {b mb f k size : Nat} {R : List V} (h : BasisOk w b mb f k size R) (hn : NoCells S w) (hc : Chg S w w') (hmb : ¬ S mb) : BasisOk w' b mb f k size R := by
  obtain ⟨h0, P, X, h1, h2⟩ := h
  obtain ⟨m, hm, hk, hl⟩ := h1.mp
  exact ⟨h0, P, X, ⟨hn.at hc h1.bb, h1.fl.nc hn hc, ⟨m, hm.chg hc hmb, hk, hl.sty (hc.sty hn)⟩, h1.len⟩, h2⟩

theorem noCells_false (w : World) : NoCells (fun _ => False) w := fun _ _ _ _ _ h => h

theorem BasisOk.ext {w w' : World} {b mb f k size : Nat} {R : List V} (h : BasisOk w b mb f k size R) (he : Ext w w') : BasisOk w' b mb f k size R := h.nc (noCells_false w) he id

variable {w : World}

theorem basisNew_c {k size : Int} {fb : Nat} (hf : FieldAt w fb) (hb : 1 ≤ k ∧ k ≤ 32 ∧ 1 ≤ size ∧ size ≤ 64) :
    Cs Try.prog basis_New_n #[.pointer (some ⟨fb, 0, none⟩), .int .i64 k, .int .i64 size] w (Ret fun v w' => ∃ b mb, v = .tuple #[.pointer (some ⟨b, 0, none⟩), .bool true] ∧ BasisOk w' b mb fb k.toNat size.toNat [] ∧ Ext w w' ∧ w.heap.size ≤ b ∧ w.heap.size ≤ mb) := by
  apply basis_New_ok
  unfold basis_New
  refine br_f (br_if (fun h => by omega) fun _ => br_if (fun h => by omega) fun _ => br_if (fun h => by omega) fun _ => br_if (fun h => by omega) fun _ => ?_)
  refine nwo_step fun mb w1 h1 he1 hb1 => ?_
  refine al_step fun b w2 a2 he2 hb2 => ?_
  have hs := he1.size
  refine ⟨b, mb, rfl, ⟨by omega, [], fun _ => [], ⟨?_, (hf.ext he1).ext he2, ⟨[], ⟨_, he2.keep _ _ h1 id, MapO.empty _⟩, by simp [ks], fun x hx => by simp at hx⟩, by simp⟩, Says.nil _ _⟩, he1.trans he2, by omega, hb1⟩
  rw [show ((k.toNat : Nat) : Int) = k by omega, show ((size.toNat : Nat) : Int) = size by omega]
  exact a2

theorem basisRank_c {b mb f k size : Nat} {R : List V} (h : BasisOk w b mb f k size R) :
    Cs Try.prog basis_Basis_Rank_n #[.pointer (some ⟨b, 0, none⟩)] w (Ret fun v w' => v = .int .i64 R.length ∧ w' = w) := by
  apply basis_Basis_Rank_ok
  unfold basis_Basis_Rank
  obtain ⟨_, P, X, h1, h2⟩ := h
  obtain ⟨m, hm, hk, hl⟩ := h1.mp
  refine br_f (nc_s ⟨_, by rw [add_mk, h1.bb.cell]; rfl, ?_⟩)
  refine len_step und173 hm fun fct hfct => ⟨_, rfl, ?_, rfl⟩
  have := hk.length_eq
  simp [ks] at this
  rw [this, h2.len]

theorem chg_or {S T : Nat → Prop} {w w' w'' : World} (h : Chg S w w') (h' : Chg T w' w'') : Chg (fun x => S x ∨ T x) w w'' := (h.mono fun _ _ h => .inl h).trans (h'.mono fun _ _ h => .inr h)

theorem basisAdd_c {b mb f k size : Nat} {R : List V} {p q : Option Addr} {pl pc ql qc : Nat} {row data : List By} (h : BasisOk w b mb f k size R) (hr : Byr w p pl row) (hpc : pl ≤ pc) (hd : Byr w q ql data) (hqc : ql ≤ qc) (hrl : row.length = k) :
    Cs Try.prog basis_Basis_Add_n #[.pointer (some ⟨b, 0, none⟩), .slice p pl pc, .slice q ql qc] w (Ret fun v w' =>
      ∃ ok : Bool, v = .bool ok ∧ (ok = true ↔ data.length = size ∧ More k R (vec (row ++ data))) ∧ BasisOk w' b mb f k size (if ok then R ++ [vec (row ++ data)] else R) ∧ Chg (fun x => x = mb) w w') := by
  have hpl := hr.len
  have hql := hd.len
  have hok := h
  obtain ⟨hbd, P, X, h1, h2⟩ := h
  obtain ⟨m, hm, hk, hl⟩ := h1.mp
  apply basis_Basis_Add_ok
  unfold basis_Basis_Add
  refine jn_step (fun _ w' => w' = w ∧ data.length = size) ?_ ?_
  rotate_left
  · refine br_f (nc_s ⟨_, by rw [add_mk, h1.bb.cell]; rfl, br_iff.2 ⟨fun hne => ?_, fun _ => nc_s ⟨_, by rw [add_mk, h1.bb.cell]; rfl, br_iff.2 ⟨fun hne => ?_, fun he => ⟨rfl, ?_⟩⟩⟩⟩⟩)
    · exfalso; simp at hne; omega
    · have hne' : data.length ≠ size := by simp at hne; omega
      exact ⟨false, rfl, ⟨fun h => (by cases h), fun h => absurd h.1 hne'⟩, hok, Chg.refl _ _⟩
    · have := by simpa using he
      omega
  rintro _ _ w0 ⟨rfl, hds⟩
  clear hok
  have hv0len : (row ++ data).length = k + size := by rw [List.length_append]; omega
  generalize hv0 : vec (row ++ data) = v0
  -- the two, one behind the other
  refine al_step fun m1 w1 a1 he1 hb1 => ?_
  have hL : Lls w1 (some ⟨m1, 0, none⟩) 2 [row, data] := by
    refine ⟨rfl, fun i bs hi => ?_⟩
    match i, hi with
    | 0, hi => simp at hi; subst hi; exact ⟨_, p, pl, pc, rfl, by rw [add_mk, a1.cell]; rfl, hpc, hr.ext he1⟩
    | 1, hi => simp at hi; subst hi; exact ⟨_, q, ql, qc, rfl, by rw [add_mk, a1.cell]; rfl, hqc, hd.ext he1⟩
  refine cl_ret (concat_c hL (by simp; omega) (by simp)) ?_
  rintro v w2 ⟨lp0, ll0, lc0, rfl, hl0, he2⟩
  have hfl : [row, data].flatten = row ++ data := by simp
  rw [hfl] at hl0
  refine ⟨_, _, _, rfl, ?_⟩
  have he02 := he1.trans he2
  refine nc_s ⟨_, by rw [add_mk, (h1.bb.ext he02).cell]; rfl, ?_⟩
  refine range_step und173 (hm.ext he02) fun r1 w3 hr1 hit3 he3 => ⟨_, rfl, ?_⟩
  have he03 : Ext w0 w3 := he02.trans he3
  have hsz3 := he02.size
  have hmk : (m.map Prod.fst).Nodup := hm.nodup
  have hPnd : P.Nodup := h2.piv.nd
  -- what is left of the row
  refine lp_step (fun n st w' => ∃ (left : List Int) (done : List Nat) (l : List By), IterAt w' r1 mb .i64 m left ∧ left.Nodup ∧ (left ++ ks done).Perm (ks P) ∧ Chg (fun x => x = r1) w3 w' ∧ Ext w0 w' ∧ Byr w' st.1 st.2.1 l ∧ st.2.1 ≤ st.2.2 ∧ l.length = k + size ∧ vec l = va v0 (cmb v0 (fun p => vec (X p)) done) ∧ n = left.length)
    _ ⟨_, [], row ++ data, hit3, hmk, by simpa [ks] using hk, Chg.refl _ _, he03, (hl0.byr (by omega)).ext he3, ?_, hv0len, by rw [hv0]; simp [cmb, va_z], rfl⟩ ?_
  · rcases hl0.2 with ⟨h1, _⟩ | ⟨g, cap, cur, h1, _, _, h3, _⟩
    · cases h1; simp
    · cases h1; exact h3
  rintro n _ ⟨lp, ll, lc⟩ w4 ⟨left, done, l, hit, hnd, hperm, hc34, he04, hlb, hlc, hll, hvl, hn⟩ K hK
  dsimp only at hlb hlc
  have hbl := hlb.len
  have nd2 : (left ++ ks done).Nodup := hperm.nodup_iff.2 (ks_nodup.2 hPnd)
  refine iter_step hit hnd (fun h0 => ?_) (fun x v w5 hx hxm hit5 hc5 => ?_)
  · -- all lines are done
    subst h0
    have hdP : done.Perm P := by
      obtain ⟨Q, hQ1, hQ2⟩ := ks_perm_inv (by simpa using hperm : (ks done).Perm (ks P))
      have : done = Q := by
        have := congrArg (List.map Int.toNat) hQ1
        unfold ks at this
        rw [List.map_map, List.map_map] at this
        have e : (Int.toNat ∘ fun p : Nat => (p : Int)) = id := by funext x; simp
        rwa [e, List.map_id, List.map_id] at this
      rw [this]; exact hQ2
    have hred : vec l = red (fun p => vec (X p)) P v0 := by rw [hvl, cmb_perm hdP]; rfl
    have b4 := h1.bb.ext he04
    refine nc_s ⟨_, by rw [add_mk, b4.cell]; rfl, ?_⟩
    refine pv_upto und179 siz5 (by omega) (by show (k : Int) ≤ (lc : Int); omega) ⟨_, _, _, rfl, ?_⟩
    have hup := hlb.upto (n := (k : Int).toNat) (by omega)
    refine cl_ret (indexFunc_c hup) ?_
    rintro v w5 ⟨rfl, i, rfl, hi⟩
    refine ⟨_, rfl, ?_⟩
    have htake : ∀ j, j < k → vec (l.take (k : Int).toNat) j = vec l j := fun j hj => by
      simp only [vec, List.getD_eq_getElem?_getD, List.getElem?_take]
      rw [if_pos (by omega)]
    have htl : (l.take (k : Int).toNat).length = k := by rw [List.length_take]; omega
    refine br_if (fun hneg => ?_) (fun hpos => ?_)
    · -- nothing new
      have hz : ∀ j, j < k → red (fun p => vec (X p)) P v0 j = 0#8 := by
        rcases hi with ⟨_, hz⟩ | ⟨n, hn, _⟩
        · exact fun j hj => by rw [← hred, ← htake j hj]; exact hz j (by omega)
        · omega
      refine ⟨false, rfl, ⟨fun h => (by cases h), fun h => ?_⟩, ?_, he04.any⟩
      · obtain ⟨j, hj, hne⟩ := (h2.more v0).1 h.2
        exact absurd (hz j hj) hne
      · exact ⟨hbd, P, X, ⟨b4, h1.fl.ext he04, ⟨m, hm.ext he04, hk, hl.sty he04.sty⟩, h1.len⟩, h2⟩
    · obtain ⟨a', ha', hal, hane⟩ : ∃ n : Nat, i = n ∧ n < k ∧ vec l n ≠ 0#8 := by
        rcases hi with ⟨h, _⟩ | ⟨n, hn, hn2, hn3⟩
        · omega
        · rw [htl] at hn2
          exact ⟨n, hn, hn2, by rw [← htake n hn2]; exact hn3⟩
      subst ha'
      have hane' : red (fun p => vec (X p)) P v0 a' ≠ 0#8 := by rw [← hred]; exact hane
      obtain ⟨hanP, hgrow⟩ := h2.grow hal hane'
      rw [← hred] at hgrow
      refine dr_step fun w6 _ he6 => ?_
      have he06 : Ext w0 w6 := Chg.trans he04 he6
      have b6 := h1.bb.ext he06
      have l6 := hlb.ext he6
      refine nc_s ⟨_, by rw [b6.cell]; rfl, ?_⟩
      refine l6.ix (by omega) (by omega) fun aa haa => ⟨_, haa, ?_⟩
      rw [show ((a' : Int)).toNat = a' by omega]
      refine cl_ret (fieldInv_c (h1.fl.ext he06) hane) ?_
      rintro v w7 ⟨rfl, he7⟩
      refine ⟨_, _, rfl, ?_⟩
      refine dr_step fun w8 _ he8 => ?_
      have he68 := he7.trans he8
      have he08 : Ext w0 w8 := Chg.trans he06 he68
      refine nc_s ⟨_, by rw [(h1.bb.ext he08).cell]; rfl, ?_⟩
      refine make_bytes (n := ll) rfl rfl (by omega) fun zp w9 hz9 he9 => ⟨_, _, _, rfl, hold_one ?_, ?_⟩
      · show World.cell? _ _ = _
        rw [((h1.bb.ext he08).ext he9).cell]; rfl
      have he09 : Ext w0 w9 := he08.trans he9
      have l9 := (l6.ext he68).ext he9
      refine cl_ret (axpy_c (h1.fl.ext he09) (hz9.byr (by simp; omega)) l9 (Nat.le_refl _) (by simp; omega)) ?_
      rintro v w10 ⟨np, nl, nc', rfl, hn10, he10⟩
      refine ⟨_, _, _, rfl, ?_⟩
      have he010 : Ext w0 w10 := he09.trans he10
      have hNlen : (axl (List.replicate ll 0#8) l (inv (vec l a'))).length = k + size := by rw [axl_len (by simp; omega)]; simp; omega
      have hNv : vec (axl (List.replicate ll 0#8) l (inv (vec l a'))) = vm (inv (vec l a')) (vec l) := by
        rw [vec_axl (by simp; omega), vec_zeros, va_zl]
      have hNb := hn10.byr (by omega)
      have hncap : nl ≤ nc' := by
        rcases hn10.2 with ⟨h1, _⟩ | ⟨g, cap, cur, h1, _, _, h3, _⟩
        · cases h1; simp
        · cases h1; exact h3
      generalize axl (List.replicate ll 0#8) l (inv (vec l a')) = N at hNlen hNv hNb
      rw [← hNv] at hgrow
      refine nc_s ⟨_, by rw [add_mk, (h1.bb.ext he010).cell]; rfl, ?_⟩
      refine range_step und173 (hm.ext he010) fun r2 w11 hr2 hit11 he11 => ⟨_, rfl, ?_⟩
      have he011 : Ext w0 w11 := he010.trans he11
      have hs010 := he010.size
      have hs011 := he011.size
      have hmlt := hm.lt
      have hr2lt := hit11.lt
      -- each line anew
      let X' : Nat → List By := fun p => axl (X p) N (vec (X p) a')
      have hX' : ∀ p, p ∈ P → vec (X' p) = va (vec (X p)) (vm (vec (X p) a') (vec N)) := fun p hp => vec_axl (by rw [h1.len p hp, hNlen])
      have nc2 : ∀ {w' : World} {m' left}, IterAt w' r2 mb .i64 m' left → NoCells (fun x => x = mb ∨ x = r2) w' := fun h => NoCells.or (NoCells.of_map h.map) h.nc
      refine lp_step (fun n _ w' => ∃ (m' : List (Int × Value)) (left : List Int) (Y : Nat → List By), IterAt w' r2 mb .i64 m' left ∧ left.Nodup ∧ (∀ x ∈ left, x ∈ ks P) ∧ (m'.map Prod.fst).Perm (ks P) ∧ LinesAt w' m' Y ∧ (∀ p ∈ P, Y p = if (p : Int) ∈ left then X p else X' p) ∧
          Chg (fun x => x = mb ∨ x = r2) w11 w' ∧ Sty w11 w' ∧ n = left.length)
        _ ⟨m, _, X, hit11, hmk, fun x hx => hk.mem_iff.1 hx, hk, hl.sty he011.sty, fun p hp => by rw [if_pos (hk.mem_iff.2 (mem_ks'.2 hp))], Chg.refl _ _, Sty.refl _, rfl⟩ ?_
      rintro n2 _ _ w12 ⟨m', left2, Y, hit12, hnd2, hin2, hk2, hl12, hY, hc12, hs12, hn2⟩ K2 hK2
      have hbb : At w12 b _ 175 := (h1.bb.ext he011).chg hc12 (by
        have e1 := hm.ne_at h1.bb
        have e2 := h1.bb.lt
        rintro (h | h)
        · exact e1 h.symm
        · omega)
      have hf12 : FieldAt w12 f := (h1.fl.ext he011).chg hc12 (by
        obtain ⟨cs, hat, _⟩ := h1.fl
        have e1 := hm.ne_at hat
        have e2 := h1.fl.lt
        rintro (h | h)
        · exact e1 h.symm
        · omega)
      refine iter_step hit12 hnd2 (fun h0 => ?_) (fun x v w13 hx hxm hit13 hc13 => ?_)
      · -- the new line
        subst h0
        refine nc_s ⟨_, by rw [add_mk, hbb.cell]; rfl, ?_⟩
        refine update_step und173 und3 hit12.map fun w13 hm13 hc13 => ?_
        have hs13 := hc13.sty (NoCells.of_map hit12.map)
        have hcAll : Chg (fun x => x = mb) w0 w13 := by
          have h1 : Chg (fun x => x = mb ∨ x = r2) w11 w13 := hc12.trans (hc13.mono fun _ _ h => .inl h)
          exact (he011.any : Chg (fun x => x = mb) w0 w11).then h1 fun x hx => by
            rcases hx with h | h
            · exact .inr h
            · left; omega
        have hnin : (a' : Int) ∉ m'.map Prod.fst := fun h => hanP (mem_ks'.1 (hk2.mem_iff.1 h))
        have hmoreAll : data.length = size ∧ More k R v0 := ⟨hds, (h2.more v0).2 ⟨a', hal, hane'⟩⟩
        refine ⟨true, rfl, ⟨fun _ => hmoreAll, fun _ => rfl⟩, ?_, hcAll⟩
        rw [if_pos rfl]
        let Z : Nat → List By := fun p => if p = a' then N else X' p
        refine ⟨hbd, a' :: P, Z, ⟨?_, ?_, ⟨_, hm13, ?_, ?_⟩, ?_⟩, ?_⟩
        · exact (NoCells.of_map hit12.map).at hc13 hbb
        · exact hf12.nc (NoCells.of_map hit12.map) hc13
        · rw [ins_keys, if_neg hnin]
          have := hk2.append_right [(a' : Int)]
          refine this.trans ?_
          have e : ks (a' :: P) = (a' : Int) :: ks P := rfl
          rw [e]
          exact List.perm_append_singleton _ _
        · intro y hy
          -- an entry of the map
          have hys : y = ((a' : Int), .slice np nl nc') ∨ y ∈ m' := by
            have : ∀ (m : List (Int × Value)), (a' : Int) ∉ m.map Prod.fst → y ∈ ins m a' (.slice np nl nc') → y = ((a' : Int), .slice np nl nc') ∨ y ∈ m := by
              intro m
              induction m with
              | nil => intro _ h; simp [ins] at h; exact .inl h
              | cons z m ih =>
                intro hn h
                simp only [List.map_cons, List.mem_cons, not_or] at hn
                rw [ins, if_neg (fun e => hn.1 e.symm)] at h
                rcases List.mem_cons.1 h with h | h
                · exact .inr (h ▸ List.mem_cons_self ..)
                · rcases ih hn.2 h with h | h
                  · exact .inl h
                  · exact .inr (List.mem_cons_of_mem _ h)
            exact this m' hnin hy
          rcases hys with rfl | hy
          · refine ⟨np, nl, nc', rfl, hncap, ?_⟩
            have : Z (a' : Int).toNat = N := by simp [Z]
            rw [this]
            exact ((hNb.ext he11).sty hs12).sty hs13
          · obtain ⟨q, l', c, e1, e2, e3⟩ := hl12 y hy
            refine ⟨q, l', c, e1, e2, ?_⟩
            have hyk : y.1 ∈ ks P := hk2.mem_iff.1 (List.mem_map.2 ⟨y, hy, rfl⟩)
            obtain ⟨p', hp', hpe⟩ := mem_ks.1 hyk
            rw [hpe] at e3 ⊢
            rw [Int.toNat_natCast] at e3 ⊢
            have : Z p' = Y p' := by
              rw [hY p' hp', if_neg (by simp)]
              simp only [Z]; rw [if_neg]; rintro rfl; exact hanP hp'
            rw [this]; exact e3.sty hs13
        · intro p' hp'
          rcases List.mem_cons.1 hp' with rfl | hp2
          · simp only [Z, if_pos]; exact hNlen
          · have hne : p' ≠ a' := fun e => hanP (e ▸ hp2)
            simp only [Z]; rw [if_neg hne]
            show (axl _ _ _).length = _
            rw [axl_len (by rw [h1.len p' hp2, hNlen]), h1.len p' hp2]
        · have : ∀ p' ∈ a' :: P, vec (Z p') = if p' = a' then vec N else va (vec (X p')) (vm (vec (X p') a') (vec N)) := by
            intro p' hp'
            by_cases e : p' = a'
            · simp [Z, e]
            · simp only [Z, if_neg e]
              exact hX' p' ((List.mem_cons.1 hp').resolve_left e)
          have hg := hgrow
          have hcongr : ∀ (A B : Nat → V), (∀ p ∈ a' :: P, A p = B p) → Says k (R ++ [v0]) (a' :: P) A → Says k (R ++ [v0]) (a' :: P) B := by
            intro A B hAB hA
            have hof : ∀ x, Of A (a' :: P) x ↔ Of B (a' :: P) x := fun x => by
              constructor
              · rintro ⟨p, hp, rfl⟩; exact ⟨p, hp, hAB p hp⟩
              · rintro ⟨p, hp, rfl⟩; exact ⟨p, hp, (hAB p hp).symm⟩
            refine ⟨⟨hA.piv.nd, fun p hp q hq => by rw [← hAB p hp]; exact hA.piv.one p hp q hq⟩, hA.lt, hA.len, fun u => ?_⟩
            rw [← hA.span u]
            exact ⟨Sp.mono fun x hx => .of ((hof x).2 hx), Sp.mono fun x hx => .of ((hof x).1 hx)⟩
          exact hcongr _ _ (fun p hp => (this p hp).symm) hg
      · -- a line
        have hxP : x ∈ ks P := hin2 x hx
        obtain ⟨p', hp', rfl⟩ := mem_ks.1 hxP
        obtain ⟨xq, xl, xc, hv, hxlc, hxb⟩ := hl12 _ hxm
        dsimp only at hv hxb
        subst hv
        rw [Int.toNat_natCast, hY p' hp', if_pos hx] at hxb
        refine ⟨_, rfl, _, _, _, rfl, ?_⟩
        refine dr_step fun w14 _ he14 => ?_
        have nc12 : NoCells (fun y => y = r2) w12 := hit12.nc
        have hs1214 : Sty w12 w14 := (hc13.sty nc12).trans he14.sty
        have c1214 : Chg (fun y => y = r2) w12 w14 := hc13.ext he14
        have bb14 : At w14 b _ 175 := nc12.at c1214 hbb
        have f14 : FieldAt w14 f := hf12.nc nc12 c1214
        have it14 := hit13.ext he14
        refine nc_s ⟨_, by rw [add_mk, bb14.cell]; rfl, nc_s ⟨_, by rw [bb14.cell]; rfl, ?_⟩⟩
        have xb14 := hxb.sty hs1214
        have hXl := h1.len p' hp'
        refine xb14.ix (by omega) (by omega) fun a1 ha1 => ⟨_, ha1, ?_⟩
        rw [show ((a' : Int)).toNat = a' by omega]
        have Nb14 : Byr w14 np nl N := ((hNb.ext he11).sty hs12).sty hs1214
        refine cl_ret (axpy_c f14 xb14 Nb14 hxlc (by omega)) ?_
        rintro v w15 ⟨yp, yl, yc, rfl, hy15, he15⟩
        refine ⟨_, _, _, rfl, hold_one ?_, ?_⟩
        · show World.cell? _ _ = _
          rw [add_mk, (bb14.ext he15).cell]; rfl
        have it15 := it14.ext he15
        have hkin : (p' : Int) ∈ m'.map Prod.fst := hk2.mem_iff.2 (mem_ks'.2 hp')
        refine update_iter und173 und3 it15 hkin fun w16 it16 c16 => ?_
        have hs16 := c16.sty (NoCells.of_map it15.map)
        have hs1216 : Sty w12 w16 := (hs1214.trans he15.sty).trans hs16
        have hX'l : (X' p').length = k + size := by
          show (axl _ _ _).length = _
          rw [axl_len (by rw [hXl, hNlen]), hXl]
        have hyb := hy15.byr (by show (X' p').length < _; omega)
        have hycap : yl ≤ yc := by
          rcases hy15.2 with ⟨h1, _⟩ | ⟨g, cap, cur, h1, _, _, h3, _⟩
          · cases h1; simp
          · cases h1; exact h3
        let Y2 : Nat → List By := fun p => if p = p' then X' p' else Y p
        have hlpos := List.length_pos_of_mem hx
        refine hK2 (left2.erase (p' : Int)).length _ _ (by rw [List.length_erase_of_mem hx]; omega) ⟨_, _, Y2, it16, hnd2.erase _, fun x hx => hin2 x (List.mem_of_mem_erase hx), ?_, ?_, ?_, ?_, hs12.trans hs1216, rfl⟩
        · rw [ins_keys, if_pos hkin]; exact hk2
        · intro y hy
          have hys : y = ((p' : Int), .slice yp yl yc) ∨ (y ∈ m' ∧ y.1 ≠ p') := by
            have : ∀ (m : List (Int × Value)), (m.map Prod.fst).Nodup → y ∈ ins m p' (.slice yp yl yc) → y = ((p' : Int), .slice yp yl yc) ∨ (y ∈ m ∧ y.1 ≠ p') := by
              intro m
              induction m with
              | nil => intro _ h; simp [ins] at h; exact .inl h
              | cons z m ih =>
                intro hn h
                simp only [List.map_cons, List.nodup_cons] at hn
                rw [ins] at h
                split at h
                · rename_i e
                  rcases List.mem_cons.1 h with h | h
                  · exact .inl h
                  · refine .inr ⟨List.mem_cons_of_mem _ h, fun e2 => hn.1 ?_⟩
                    rw [e, ← e2]; exact List.mem_map.2 ⟨y, h, rfl⟩
                · rename_i e
                  rcases List.mem_cons.1 h with h | h
                  · exact .inr ⟨h ▸ List.mem_cons_self .., h ▸ e⟩
                  · rcases ih hn.2 h with h | ⟨h1, h2⟩
                    · exact .inl h
                    · exact .inr ⟨List.mem_cons_of_mem _ h1, h2⟩
            exact this m' it15.map.nodup hy
          rcases hys with rfl | ⟨hy, hne⟩
          · refine ⟨yp, yl, yc, rfl, hycap, ?_⟩
            have : Y2 (p' : Int).toNat = X' p' := by simp [Y2]
            rw [this]; exact hyb.sty hs16
          · obtain ⟨q', l', c', e1, e2, e3⟩ := hl12 y hy
            refine ⟨q', l', c', e1, e2, ?_⟩
            have hyk : y.1 ∈ ks P := hk2.mem_iff.1 (List.mem_map.2 ⟨y, hy, rfl⟩)
            obtain ⟨p2, hp2, hpe⟩ := mem_ks.1 hyk
            rw [hpe] at e3 hne ⊢
            rw [Int.toNat_natCast] at e3 ⊢
            have : Y2 p2 = Y p2 := by simp only [Y2]; rw [if_neg]; rintro rfl; exact hne rfl
            rw [this]; exact e3.sty hs1216
        · intro p2 hp2
          by_cases e : p2 = p'
          · subst e
            simp only [Y2, if_pos]
            rw [if_neg (fun h => by have := List.Nodup.not_mem_erase hnd2 (a := (p2 : Int)); exact this h)]
          · simp only [Y2, if_neg e]
            rw [hY p2 hp2]
            have hne : (p2 : Int) ≠ p' := by omega
            simp only [List.mem_erase_of_ne hne]
        · refine hc12.trans ?_
          have q1 : Chg (fun x => x = mb ∨ x = r2) w12 w15 := (c1214.ext he15).mono fun _ _ h => .inr h
          exact q1.trans (c16.mono fun _ _ h => .inl h)
  · -- a line
    have hxP : x ∈ ks P := hperm.mem_iff.1 (List.mem_append_left _ hx)
    obtain ⟨p', hp', rfl⟩ := mem_ks.1 hxP
    obtain ⟨xq, xl, xc, hv, hxlc, hxb⟩ := hl _ hxm
    dsimp only at hv hxb
    subst hv
    rw [Int.toNat_natCast] at hxb
    refine ⟨_, rfl, _, _, _, rfl, ?_⟩
    refine dr_step fun w6 _ he6 => ?_
    have c46 : Chg (fun y => y = r1) w4 w6 := hc5.ext he6
    have hs46 : Sty w4 w6 := c46.sty hit.nc
    have he06 : Ext w0 w6 := Ext.then he04 c46 fun y hy => by omega
    have l6 := hlb.sty hs46
    have b6 := h1.bb.ext he06
    refine nc_s ⟨_, by rw [b6.cell]; rfl, ?_⟩
    have hp'k := h2.lt p' hp'
    refine l6.ix (by omega) (by omega) fun a1 ha1 => ⟨_, ha1, ?_⟩
    rw [show ((p' : Int)).toNat = p' by omega]
    have hXl := h1.len p' hp'
    refine cl_ret (axpy_c (h1.fl.ext he06) l6 (hxb.ext he06) hlc (by omega)) ?_
    rintro v w7 ⟨np, nl, nc', rfl, hn7, he7⟩
    refine ⟨_, _, _, rfl, ?_⟩
    have hNlen : (axl l (X p') (vec l p')).length = k + size := by rw [axl_len (by omega)]; exact hll
    have hndone : p' ∉ done := fun hd => by
      have := (List.nodup_append.1 nd2).2.2 _ hx _ (mem_ks'.2 hd)
      exact this rfl
    have hvp : vec l p' = v0 p' := by
      rw [hvl]
      have := h2.piv.cmb_at v0 (l := done) (ks_nodup.1 (List.nodup_append.1 nd2).2.1) (fun i hi => mem_ks'.1 (hperm.mem_iff.1 (List.mem_append_right _ (mem_ks'.2 hi)))) p' hp'
      simp only [va, this, if_neg hndone, BitVec.xor_zero]
    have hlpos := List.length_pos_of_mem hx
    refine hK (left.erase (p' : Int)).length _ _ (by rw [List.length_erase_of_mem hx]; omega) ⟨left.erase (p' : Int), p' :: done, axl l (X p') (vec l p'), (hit5.ext he6).ext he7, hnd.erase _, ?_, ?_, he06.trans he7, hn7.byr (by omega), ?_, hNlen, ?_, rfl⟩
    · refine List.Perm.trans ?_ hperm
      have e : ks (p' :: done) = (p' : Int) :: ks done := rfl
      rw [e]
      have h1 : (left.erase (p' : Int) ++ (p' : Int) :: ks done).Perm ((p' : Int) :: (left.erase (p' : Int) ++ ks done)) := List.perm_middle
      refine h1.trans ?_
      rw [← List.cons_append]
      exact (List.perm_cons_erase hx).symm.append_right _
    · exact hc34.trans (c46.ext he7)
    · rcases hn7.2 with ⟨h1, _⟩ | ⟨g, cap, cur, h1, _, _, h3, _⟩
      · cases h1; simp
      · cases h1; exact h3
    · rw [vec_axl (by omega), hvp, hvl]
      simp only [cmb]
      rw [va_assoc, va_comm (cmb v0 _ done)]
end Go.SR
