/- girandolelaw24.ShelfFull answers true. -/
import Derived.Test.YtmmcihbcceahkaaG65
namespace Go.SR
open Go Go.Proofs

/-! ### what an Add does to what the law looks at -/

theorem fnd_iff {L : List Blk} {k : Int} : (fnd L k).isSome = true ↔ k ∈ L.map Blk.id := by
  unfold fnd
  rw [List.find?_isSome]
  constructor
  · rintro ⟨b, hb, h⟩
    exact List.mem_map.2 ⟨b, hb, by simpa using h⟩
  · intro h
    obtain ⟨b, hb, rfl⟩ := List.mem_map.1 h
    exact ⟨b, hb, by simp⟩

theorem fnd_not {L : List Blk} {k : Int} (h : k ∉ L.map Blk.id) : (fnd L k).isSome = false := by
  cases e : (fnd L k).isSome with
  | false => rfl
  | true => exact absurd (fnd_iff.1 e) h

theorem bsum_wn {symbol : Int} (L : List Blk) : ((L.map (wnB symbol)).map Wn.bytes).sum = bsum symbol L := by rw [List.map_map]; rfl

theorem addR_sum {symbol : Int} (L : List Blk) (k : Int) (u : V) : bsum symbol (addR L k u) = bsum symbol L := by
  unfold bsum addR
  rw [List.map_map]
  congr 1
  refine List.map_congr_left fun b _ => ?_
  simp only [Function.comp]
  split <;> rfl

theorem there_of {frames bytes symbol : Int} {L L' : List Blk} {ID size rank id : Int} {data : List By} {ok : Bool} {gone : List Int} (h : AddOk frames bytes symbol L ID size rank id data ok gone L') (hf : (fnd L ID).isSome = true) :
    gone = [] ∧ bsum symbol L' = bsum symbol L ∧ (ok = false → L' = L) ∧ ∀ b ∈ L', ∃ c ∈ L, b.id = c.id ∧ b.rank = c.rank := by
  obtain ⟨b, hb⟩ := Option.isSome_iff_exists.1 hf
  unfold AddOk at h
  rw [hb] at h
  obtain ⟨rfl, _, rfl⟩ := h
  cases ok with
  | true =>
    refine ⟨rfl, addR_sum _ _ _, by simp, fun c hc => ?_⟩
    obtain ⟨d, hd, rfl⟩ := List.mem_map.1 hc
    exact ⟨d, hd, by split <;> rfl, by split <;> rfl⟩
  | false => exact ⟨rfl, rfl, fun _ => rfl, fun c hc => ⟨c, hc, rfl, rfl⟩⟩

theorem fresh_of {frames bytes symbol : Int} {L L' : List Blk} {ID size rank id : Int} {data : List By} {ok : Bool} {gone : List Int} (h : AddOk frames bytes symbol L ID size rank id data ok gone L') (hn : (L.map Blk.id).Nodup) (hf : fnd L ID = none) (hb : bsum symbol L ≤ bytes) :
    bsum symbol L' ≤ bytes ∧ (ok = false → gone = [] ∧ L' = L) ∧ (fnd L' ID).isSome = ok ∧
    (∀ g ∈ gone, (fnd L' g).isSome = false ∧ ∃ b ∈ L, b.id = g ∧ ∀ x y : Int, wrs ⟨g, b.rank, x⟩ ⟨ID, rank, y⟩ = true) ∧
    (ok = true → L'.length + gone.length = L.length + 1 ∧ ∀ b ∈ L', (b.id = ID ∧ b.rank = rank) ∨ (b ∈ L ∧ b.id ≠ ID)) := by
  have hno : ∀ b ∈ L, b.id ≠ ID := fnd_none hf
  have hni : ID ∉ L.map Blk.id := fun h => by
    obtain ⟨b, hb, e⟩ := List.mem_map.1 h
    exact hno b hb e
  unfold AddOk at h
  rw [hf] at h
  rcases h with ⟨rfl, hc, _, ⟨S, hp, hso, hr⟩, bn, mb, rfl⟩ | ⟨rfl, rfl, rfl, _⟩
  · obtain ⟨done, rest, rfl, rfl, hrl, hrb, hdw⟩ := roomF_spec hr
    have hrest := room_rest hn hp
    have hsum : bsum symbol L = (done.map Wn.bytes).sum + (rest.map Wn.bytes).sum := by
      rw [← bsum_wn, ← perm_sum (hp.map Wn.bytes), List.map_append, List.sum_append]
    have hfs : bsum symbol (L.filter fun b => decide (b.id ∉ done.map Wn.id)) = (rest.map Wn.bytes).sum := by
      rw [← bsum_wn, perm_sum (hrest.map Wn.bytes)]
    have hfl := hrest.length_eq
    have hpl := hp.length_eq
    simp only [List.length_append, List.length_map] at hfl hpl
    have hg : ∀ x ∈ done, ∃ b ∈ L, wnB symbol b = x := fun x hx => List.mem_map.1 (hp.mem_iff.1 (List.mem_append_left _ hx))
    have hgi : ∀ g ∈ done.map Wn.id, g ≠ ID := fun g hg' => by
      obtain ⟨x, hx, rfl⟩ := List.mem_map.1 hg'
      obtain ⟨b, hb, rfl⟩ := hg x hx
      exact hno b hb
    refine ⟨?_, fun h => (by cases h), ?_, fun g hg' => ⟨?_, ?_⟩, fun _ => ⟨?_, fun b hb' => ?_⟩⟩
    · have : bsum symbol ((L.filter fun b => decide (b.id ∉ done.map Wn.id)) ++ [⟨ID, bn, mb, size, rank, [vec (rowL ID id (cntK size symbol).toNat ++ data)]⟩]) = bsum symbol (L.filter fun b => decide (b.id ∉ done.map Wn.id)) + cntK size symbol * symbol := by
        unfold bsum
        rw [List.map_append, List.sum_append]
        simp [byB]
      rw [this, hfs]
      dsimp only at hrb
      omega
    · rw [fnd_iff, List.map_append]
      exact List.mem_append_right _ (by simp)
    · refine fnd_not fun hm => ?_
      rw [List.map_append] at hm
      rcases List.mem_append.1 hm with hm | hm
      · obtain ⟨b, hb', rfl⟩ := List.mem_map.1 hm
        have := (List.mem_filter.1 hb').2
        simp only [decide_eq_true_eq] at this
        exact this hg'
      · simp at hm
        exact hgi g hg' hm
    · obtain ⟨x, hx, rfl⟩ := List.mem_map.1 hg'
      obtain ⟨b, hb', rfl⟩ := hg x hx
      refine ⟨b, hb', rfl, fun u v => ?_⟩
      have := hdw _ hx
      simpa [wrs, wnB] using this
    · simp only [List.length_append, List.length_map, List.length_singleton]
      omega
    · rcases List.mem_append.1 hb' with hm | hm
      · right
        have := (List.mem_filter.1 hm).1
        exact ⟨this, hno b this⟩
      · left
        simp at hm
        subst hm
        exact ⟨rfl, rfl⟩
  · refine ⟨hb, fun _ => ⟨rfl, rfl⟩, ?_, fun g hg' => by simp at hg', fun h => by cases h⟩
    rw [hf]; rfl

/-! ### the law -/

/-- Triples of bytes that came in. -/
def Trips (w : World) (p : Option Addr) (l : Nat) (ts : List (Int × Int × Int)) : Prop :=
  (l = ts.length ∧ ∀ t ∈ ts, (0 ≤ t.1 ∧ t.1 < 256) ∧ (0 ≤ t.2.1 ∧ t.2.1 < 256) ∧ (0 ≤ t.2.2 ∧ t.2.2 < 256)) ∧
  ∀ (i : Nat) t, ts[i]? = some t → ∃ a, p = some a ∧ w.cell? (a.add (i * 3)) = some (.int .u8 t.1) ∧ w.cell? (a.add (i * 3 + 1)) = some (.int .u8 t.2.1) ∧ w.cell? (a.add (i * 3 + 2)) = some (.int .u8 t.2.2)

theorem Trips.ext {w w' : World} {p : Option Addr} {l : Nat} {ts : List (Int × Int × Int)} (h : Trips w p l ts) (he : Ext w w') : Trips w' p l ts :=
  ⟨h.1, fun i t ht => by
    obtain ⟨a, ha, h1, h2, h3⟩ := h.2 i t ht
    exact ⟨a, ha, he.cell h1, he.cell h2, he.cell h3⟩⟩

/-- The ranks as cells. -/
def rkC (R : List Int) : Array Value := (R.map fun n => Value.int .i64 n).toArray
theorem rkC_nb (R : List Int) : ∀ (i : Nat) x, (rkC R)[i]? ≠ some (bv x) := words_nb (l := R) rfl
theorem rkC_get {R : List Int} {k : Nat} (h : k < R.length) : (rkC R)[k]? = some (.int .i64 (gI R k)) := by
  have := gI_get (xs := R) (i := k) (by omega) (by omega)
  rw [Int.toNat_natCast] at this
  simp [rkC, this]
theorem rkC_set (R : List Int) (k : Nat) (x : Int) : (rkC R).setIfInBounds k (.int .i64 x) = rkC (R.set k x) := by
  simp [rkC, List.map_set]
theorem zc65s : (zc Try.prog 65).size = 3 := by kernel_rfl
theorem zc56 : zc Try.prog 56 = rkC (List.replicate 64 0) := by kernel_rfl

/-- The ranks are those of the shelf. -/
def Rks (L : List Blk) (R : List Int) : Prop := R.length = 64 ∧ ∀ b ∈ L, (0 ≤ b.id ∧ b.id < 64) ∧ gI R b.id = b.rank

variable {w : World}

theorem ShelfFull_c {x0 x1 : Int} {p : Option Addr} {l c : Nat} {ts : List (Int × Int × Int)} (h0 : 0 ≤ x0 ∧ x0 < 256) (h1 : 0 ≤ x1 ∧ x1 < 256) (ht : Trips w p l ts) :
    Cs Try.prog glaw24_ShelfFull_n #[.int .u8 x0, .int .u8 x1, .slice p l c] w (Ret fun v w' => v = .bool true ∧ Ext w w') := by
  apply glaw24_ShelfFull_ok
  unfold glaw24_ShelfFull
  have hlt := ht.1.1
  refine cl_ret begun24_c ?_
  rintro v w1 ⟨rfl, he1⟩
  refine ⟨_, rfl, br_f ?_⟩
  refine br_if (fun _ => ⟨rfl, he1⟩) (fun hl30 => ?_)
  refine ⟨by decide, ?_⟩
  obtain ⟨n, hn, hn0, hn1⟩ : ∃ n : Int, IntKind.wrap .i64 ((1 : Int) + (Int.tmod (IntKind.wrap .i64 x0) (16 : Int))) = n ∧ 1 ≤ n ∧ n ≤ 16 := by
    rw [w64 (n := x0) (by omega) (by omega), Int.tmod_eq_emod_of_nonneg h0.1, w64 (by omega) (by omega)]
    exact ⟨_, rfl, by omega, by omega⟩
  obtain ⟨most, hm, hm0, hm1⟩ : ∃ m : Int, IntKind.wrap .i64 ((1 : Int) + (IntKind.wrap .i64 x1)) = m ∧ 1 ≤ m ∧ m ≤ 256 := by
    rw [w64 (n := x1) (by omega) (by omega), w64 (by omega) (by omega)]
    exact ⟨_, rfl, by omega, by omega⟩
  rw [hn, hm]
  refine cl_ret fieldNew_c ?_
  rintro v w4 ⟨f, rfl, hf, he4, _⟩
  refine ⟨_, rfl, ?_⟩
  refine cl_ret (ShI.new (w0 := w) (fr := n) (by' := most) (sy := 4) hf (he1.trans he4) (by omega)) ?_
  rintro v w7 ⟨s, sm, rfl, h7, he7⟩
  refine ⟨_, _, rfl, ?_⟩
  refine jn_step (fun _ w' => w' = w7) ?_ (br_f (br_f rfl))
  rintro _ _ w10 rfl
  refine al_step fun m11 w12 a12 he12 hb12 => ?_
  rw [zc56] at a12
  have hm11 : w.heap.size ≤ m11 := by
    have := h7.ext.size
    omega
  refine lp_step (fun k st w' => ∃ (i : Nat) (L : List Blk) (R : List Int), st = i ∧ i ≤ ts.length ∧ ShI w w' s f sm n most 4 L ∧ bsum 4 L ≤ most ∧ Rks L R ∧ At w' m11 (rkC R) 56 ∧ k = ts.length - i)
    _ ⟨0, [], _, rfl, by omega, h7.more he12, by simp [bsum]; omega, ⟨by simp, by simp⟩, a12, rfl⟩ ?_
  rintro k _ _ w15 ⟨i, L, R, rfl, hi, hS, hsum, hR, hc, hk⟩ K hK
  refine br_if (fun hil => ?_) (fun hge => ⟨rfl, hS.ext⟩)
  have hil : i < ts.length := by omega
  obtain ⟨t, hti⟩ : ∃ t, ts[i]? = some t := ⟨_, List.getElem?_eq_getElem hil⟩
  have htb := ht.1.2 t (List.mem_of_getElem? hti)
  obtain ⟨t0, t1, t2⟩ := t
  dsimp only at htb
  have ixt : ∀ {w' : World} {F : Addr → Prop} {j : Nat} {x : Int}, Ext w w' → j < 3 → (∀ a, p = some a → w'.cell? (a.add (i * 3 + j)) = some (.int .u8 x)) → (∀ a, w'.cell? a = some (.int .u8 x) → F a) → ixa p l (i : Int) 3 (fun a => ixr a 3 (j : Int) 1 F) := by
    intro w' F j x he hj hx hF
    obtain ⟨a, ha, _⟩ := ht.2 i _ hti
    refine ⟨a, ha, by omega, by omega, by omega, by show (j : Int) < 3; omega, hF _ ?_⟩
    rw [Addr.add_add]
    have := hx a ha
    rw [show (i : Int).toNat * 3 + (j : Int).toNat * 1 = i * 3 + j by omega]
    exact this
  have c0 : ∀ {w' : World}, Ext w w' → ∀ a, p = some a → w'.cell? (a.add (i * 3 + 0)) = some (.int .u8 t0) := fun he a ha => by
    obtain ⟨b, hb, e, _, _⟩ := (ht.ext he).2 i _ hti
    rw [ha] at hb; cases hb; exact e
  have c1 : ∀ {w' : World}, Ext w w' → ∀ a, p = some a → w'.cell? (a.add (i * 3 + 1)) = some (.int .u8 t1) := fun he a ha => by
    obtain ⟨b, hb, _, e, _⟩ := (ht.ext he).2 i _ hti
    rw [ha] at hb; cases hb; exact e
  have c2 : ∀ {w' : World}, Ext w w' → ∀ a, p = some a → w'.cell? (a.add (i * 3 + 2)) = some (.int .u8 t2) := fun he a ha => by
    obtain ⟨b, hb, _, _, e⟩ := (ht.ext he).2 i _ hti
    rw [ha] at hb; cases hb; exact e
  refine dr_step fun w16 _ he16 => ?_
  have h16 := hS.more he16
  refine ixt (j := 0) h16.ext (by omega) (c0 h16.ext) fun a18 ha18 => ⟨_, ha18, by decide, ?_⟩
  refine ixt (j := 1) h16.ext (by omega) (c1 h16.ext) fun a21 ha21 => ⟨_, ha21, by decide, ?_⟩
  rw [Int.tmod_eq_emod_of_nonneg htb.1.1, Int.tmod_eq_emod_of_nonneg htb.2.1.1, wu32 (n := t0 % 64) (by omega) (by omega), w64 (n := t1 % 64) (by omega) (by omega), w64 (by omega) (by omega)]
  obtain ⟨ID, hID, hID0, hID1⟩ : ∃ ID : Int, t0 % 64 = ID ∧ 0 ≤ ID ∧ ID < 64 := ⟨_, rfl, by omega, by omega⟩
  obtain ⟨size, hsz, hsz0, hsz1⟩ : ∃ size : Int, 1 + t1 % 64 = size ∧ 1 ≤ size ∧ size ≤ 64 := ⟨_, rfl, by omega, by omega⟩
  rw [hID, hsz]
  refine al_step fun m23 w24 a24 he24 hb24 => ⟨hold_cons (he24.cell ha21) (hold_one (he24.cell ha18)), ?_⟩
  refine stN_step a24 (by rw [zc31]; simp) (by simp [Value.oneCell']) fun w25 a25 c25 => ?_
  rw [over_all (by rw [zc31]; rfl)] at a25
  have e25 : Ext w16 w25 := Ext.then he24 c25 fun y hy => by omega
  have h25 := h16.more e25
  refine ⟨_, by rw [a25.cell]; rfl, ?_⟩
  refine cl_ret (shelfMissing_c h25.h) ?_
  rintro v w28 ⟨rfl, he28⟩
  refine ⟨_, _, rfl, ?_⟩
  have h28 := h25.more he28
  refine ixt (j := 2) h28.ext (by omega) (c2 h28.ext) fun a32 ha32 => ⟨_, ha32, by decide, ?_⟩
  rw [Int.tmod_eq_emod_of_nonneg htb.2.2.1, w64 (n := t2 % 4) (by omega) (by omega)]
  generalize t2 % 4 = rank
  have a28 := At.ext a25 he28
  refine cl_ret (shelfIDs_c h28.h) ?_
  rintro v w35 ⟨p36, m37, m38, ks, rfl, hr35, hp35, ha35, he35⟩
  refine ⟨_, _, _, rfl, ?_⟩
  have h35 := h28.more he35
  have a35 := At.ext a28 he35
  have hkl := hp35.length_eq
  have hLl := hS.h.len
  simp only [List.length_map] at hkl
  have hm37 := hr35.lenI
  refine dr_step fun w39 _ he39 => ?_
  have a39 := At.ext a35 he39
  refine ⟨_, _, _, _, _, _, _, _, a39.all rfl, ?_⟩
  refine make_bytes (n := 4) rfl rfl (by omega) fun p50 w49 hr49 he49 => ⟨_, _, _, rfl, hold_one (by show cellsAt _ _ _; exact (At.ext a39 he49).all rfl), ?_⟩
  have h49 := (h35.more he39).more he49
  have e35_49 : Ext w35 w49 := he39.trans he49
  refine cl_ret (h49.add (hr49.byr (by simp)) (Nat.le_refl _)) ?_
  rintro v w54 ⟨ok, p56, m57, m58, gone, L', rfl, hg54, h54, hadd, hk54⟩
  refine ⟨_, _, _, _, rfl, ?_⟩
  have hc54 : At w54 m11 (rkC R) 56 := hk54.at ((((hc.ext he16).ext e25).ext he28).ext he35 |>.ext e35_49)
  have a54 := hk54.at (At.ext a39 he49)
  have hb35 : Ints 23 .u32 w35 p36 m37 ks := Row.ints hr35 (by omega)
  have hb54 : Ints 23 .u32 w54 p36 m37 ks := hk54.ints (hb35.ext e35_49)
  have hgl := hg54.lenI
  have hLl' := h54.h.len
  have hids := hS.h.ids
  -- what came of it
  have sum' : bsum 4 L' ≤ most := by
    cases hf : fnd L ID with
    | none => exact (fresh_of hadd hids hf hsum).1
    | some b => rw [(there_of hadd (by rw [hf]; rfl)).2.1]; exact hsum
  have bad : ok = false → gone = [] ∧ L' = L := fun he => by
    cases hf : fnd L ID with
    | none => exact (fresh_of hadd hids hf hsum).2.1 he
    | some b =>
      have := there_of hadd (by rw [hf]; rfl)
      exact ⟨this.1, this.2.2.1 he⟩
  have hgone : gone.length ≤ 17 := by
    cases hf : fnd L ID with
    | none =>
      have := fresh_of hadd hids hf hsum
      cases ok with
      | false => rw [(bad rfl).1]; simp
      | true => have := (this.2.2.2.2 rfl).1; omega
    | some b => rw [(there_of hadd (by rw [hf]; rfl)).1]; simp
  refine jn_step (fun _ w' => Ext w54 w') ?_ ?_
  · intro _ _ w59 he59
    have h59 := h54.more he59
    have a59 := At.ext a54 he59
    have hc59 := At.ext hc54 he59
    cases hf : fnd L ID with
    | some b =>
      obtain ⟨_, _, _, hrk⟩ := there_of hadd (by rw [hf]; rfl)
      refine br_t ?_
      rw [w64 (by omega) (by omega)]
      refine hK (ts.length - (i + 1)) _ _ (by omega) ⟨i + 1, L', R, by simp, by omega, h59, sum', ⟨hR.1, fun d hd => ?_⟩, hc59, rfl⟩
      obtain ⟨e, he, e1, e2⟩ := hrk d hd
      rw [e1, e2]; exact hR.2 e he
    | none =>
      obtain ⟨_, _, hin, hgo, hok⟩ := fresh_of hadd hids hf hsum
      refine br_f ?_
      have hgi : Ints 23 .u32 w54 p56 m57 gone := Row.ints hg54 (by omega)
      refine lp_step (fun m st w' => ∃ j : Nat, st = j ∧ j ≤ gone.length ∧ Ext w59 w' ∧ m = gone.length - j) _ ⟨0, rfl, by omega, Ext.refl _, rfl⟩ ?_
      rintro m _ _ w62 ⟨j, rfl, hj, he62, hm'⟩ K' hK'
      have h62 := h59.more he62
      have a62 := At.ext a59 he62
      have hc62 := At.ext hc59 he62
      have hgi62 := (hgi.ext he59).ext he62
      refine br_if (fun hjl => ?_) (fun hjg => ?_)
      · -- one who went
        refine dr_step fun w63 _ he63 => ?_
        have hgj := List.getElem_mem (l := gone) (n := j) (by omega)
        have egj : gI gone j = gone[j]'(by omega) := by
          have := gI_get (xs := gone) (i := j) (by omega) (by omega)
          rw [Int.toNat_natCast, List.getElem?_eq_getElem (by omega)] at this
          exact (Option.some.inj this).symm
        obtain ⟨hstill, d, hd, hde, hwr⟩ := hgo _ hgj
        rw [← egj] at hstill hde hwr
        refine (hgi62.ext he63).ix (by omega) (by omega) fun a64 ha64 => ⟨_, ha64, ?_⟩
        refine (hgi62.ext he63).ix (by omega) (by omega) fun a66 ha66 => ⟨_, ha66, by decide, ?_⟩
        have hgb := hR.2 d hd
        rw [hde] at hgb
        obtain ⟨hgb, hgr⟩ := hgb
        have hRl := hR.1
        have hc63 := At.ext hc62 he63
        rw [Int.tmod_eq_emod_of_nonneg hgb.1, Int.emod_eq_of_lt hgb.1 hgb.2]
        obtain ⟨gn, hgn⟩ : ∃ gn : Nat, gI gone j = gn := ⟨(gI gone j).toNat, by omega⟩
        have hcg : w63.cell? ⟨m11, gn, none⟩ = some (.int .i64 d.rank) := by
          rw [hc63.cell, rkC_get (by omega), ← hgn, hgr]
        refine ⟨by omega, by show gI gone j < 64; omega, d.rank, by rw [add_mk, show 0 + (gI gone j).toNat * 1 = gn by omega]; exact hcg, ?_⟩
        refine al_step fun m70 w71 a71 he71 hb71 => ⟨hold_cons (he71.cell (by rw [add_mk, show 0 + (gI gone j).toNat * 1 = gn by omega]; exact hcg)) (hold_cons (he71.cell ha66) (hold_one (he71.cell ha64))), ?_⟩
        refine stN_step a71 (by rw [zc65s]; simp) (by simp [Value.oneCell']) fun w72 a72 c72 => ?_
        rw [over_all (by rw [zc65s]; rfl)] at a72
        have e72 : Ext w63 w72 := Ext.then he71 c72 fun y hy => by omega
        refine ((hgi62.ext he63).ext e72).ix (by omega) (by omega) fun a73 ha73 => ⟨_, ha73, ?_⟩
        have h72 := (h62.more he63).more e72
        refine cl_ret (shelfMissing_c h72.h) ?_
        rintro v w76 ⟨rfl, he76⟩
        refine ⟨_, _, rfl, _, _, _, (At.ext a72 he76).all rfl, _, by rw [(((a62.ext he63).ext e72).ext he76).cell]; rfl, ?_⟩
        refine cl_ret (worse12_c (x := ⟨gI gone j, d.rank, 0⟩) (y := ⟨ID, rank, 0⟩)) ?_
        rintro v w84 ⟨rfl, he84⟩
        refine ⟨_, rfl, ?_⟩
        rw [hwr, hstill]
        refine br_f (br_f ?_)
        rw [w64 (by omega) (by omega)]
        exact hK' (gone.length - (j + 1)) _ _ (by omega) ⟨j + 1, by simp, by omega, (((he62.trans he63).trans e72).trans he76).trans he84, rfl⟩
      · -- all who went are seen
        clear hK'
        refine ⟨_, by rw [a62.cell]; rfl, ?_⟩
        refine cl_ret (shelfMissing_c h62.h) ?_
        rintro v w92 ⟨rfl, he92⟩
        refine ⟨_, _, rfl, ?_⟩
        rw [hin]
        rw [show (!(ok == ok)) = false by simp]
        refine br_f ?_
        have h92 := h62.more he92
        have hc92 := At.ext hc62 he92
        cases ok with
        | false =>
          refine br_f ?_
          rw [w64 (by omega) (by omega)]
          refine hK (ts.length - (i + 1)) _ _ (by omega) ⟨i + 1, L', R, by simp, by omega, h92, sum', ?_, hc92, rfl⟩
          rw [(bad rfl).2]; exact hR
        | true =>
          refine br_t ?_
          refine cl_ret (shelfIDs_c h92.h) ?_
          rintro v w96 ⟨p97, m98, m99, ks', rfl, hr96, hp96, _, he96⟩
          refine ⟨_, _, _, rfl, ?_⟩
          obtain ⟨hcount, hwho⟩ := hok rfl
          have hl98 := hr96.lenI
          have hk98 := hp96.length_eq
          simp only [List.length_map] at hk98
          rw [w64 (n := (m37 : Int) + 1) (by omega) (by omega), w64 (by omega) (by omega)]
          refine br_iff.2 ⟨fun h => ?_, fun _ => ?_⟩
          · exfalso
            have : (m98 : Int) ≠ (m37 : Int) + 1 - m57 := by simpa using h
            omega
          refine br_t ?_
          have a96 := (a62.ext he92).ext he96
          have hc96 := At.ext hc92 he96
          have h96 := h92.more he96
          obtain ⟨In, hIn⟩ : ∃ In : Nat, ID = In := ⟨ID.toNat, by omega⟩
          refine ⟨_, by rw [a96.cell]; rfl, by decide, ?_⟩
          rw [Int.tmod_eq_emod_of_nonneg hID0, Int.emod_eq_of_lt hID0 hID1]
          refine ⟨hID0, by show ID < 64; omega, ?_⟩
          have hRl := hR.1
          refine st1_at (i := In) hc96 (by rw [add_mk]; congr 1; omega) (by simp [rkC]; omega) rfl fun w102 hc102 hch => ?_
          rw [rkC_set] at hc102
          have h102 := h96.other hm11 hc96 (rkC_nb R) (by decide) (by decide) (by decide) (by decide) hch
          rw [w64 (by omega) (by omega)]
          refine hK (ts.length - (i + 1)) _ _ (by omega) ⟨i + 1, L', R.set In rank, by simp, by omega, h102, sum', ⟨by simpa using hRl, fun b hb => ?_⟩, hc102, rfl⟩
          rcases hwho b hb with ⟨e1, e2⟩ | ⟨hb', hne⟩
          · rw [e1, e2]
            refine ⟨⟨hID0, hID1⟩, ?_⟩
            have := gI_get (xs := R.set In rank) (i := ID) hID0 (by simp; omega)
            rw [show ID.toNat = In by omega, List.getElem?_set, if_pos rfl, if_pos (by omega)] at this
            exact (Option.some.inj this).symm
          · have hb2 := hR.2 b hb'
            refine ⟨hb2.1, ?_⟩
            rw [← hb2.2]
            have e1 := gI_get (xs := R.set In rank) (i := b.id) hb2.1.1 (by simp; omega)
            have e2 := gI_get (xs := R) (i := b.id) hb2.1.1 (by omega)
            rw [List.getElem?_set, if_neg (by omega), e2] at e1
            exact (Option.some.inj e1).symm
  · -- what is looked at each time
    refine cl_ret (shelfIDs_c h54.h) ?_
    rintro v w112 ⟨p113, m114, m115, ks', rfl, hr112, hp112, ha112, he112⟩
    refine ⟨_, _, _, rfl, ?_⟩
    have hl114 := hr112.lenI
    have hk114 := hp112.length_eq
    simp only [List.length_map] at hk114
    refine br_if (fun h => by exfalso; omega) (fun _ => ?_)
    have h112 := h54.more he112
    refine cl_ret (shelfBytes_c h112.h) ?_
    rintro v w117 ⟨rfl, he117⟩
    refine ⟨_, rfl, ?_⟩
    refine br_if (fun h => by exfalso; omega) (fun _ => ?_)
    have e117 : Ext w54 w117 := he112.trans he117
    have g0 : (fnd L ID).isSome = true → m57 = 0 := fun he => by
      have := (there_of hadd he).1
      subst this
      simpa using hgl
    cases ok with
    | true =>
      refine br_f ?_
      refine br_iff.2 ⟨fun he => ?_, fun _ => e117⟩
      rw [g0 he]
      exact br_f e117
    | false =>
      obtain ⟨rfl, rfl⟩ := bad rfl
      have hm57 : m57 = 0 := by simpa using hgl
      subst hm57
      refine br_t (br_f ?_)
      have h117 := h112.more he117
      refine cl_ret (shelfIDs_c h117.h) ?_
      rintro v w120 ⟨p121, m122, m123, ks2, rfl, hr120, hp120, ha120, he120⟩
      refine ⟨_, _, _, rfl, ?_⟩
      have hk2 := hp120.length_eq
      simp only [List.length_map] at hk2
      have hi120 : Ints 23 .u32 w120 p121 m122 ks2 := Row.ints hr120 (by omega)
      have hb120 := (hb54.ext e117).ext he120
      refine cl_ret (same24_c hi120 hb120) ?_
      rintro v w125 ⟨rfl, he125⟩
      have : ks2 = ks := asc_ext ha120 ha35 fun y => by rw [hp120.mem_iff, hp35.mem_iff]
      refine ⟨_, rfl, ?_⟩
      rw [decide_eq_true this]
      have e125 : Ext w54 w125 := (e117.trans he120).trans he125
      refine br_f (br_iff.2 ⟨fun _ => br_f e125, fun _ => e125⟩)
end Go.SR
