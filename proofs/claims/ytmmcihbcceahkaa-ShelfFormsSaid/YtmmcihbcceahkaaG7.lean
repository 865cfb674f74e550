/- girandolelaw24.ShelfRanks answers true. -/
import Derived.Test.YtmmcihbcceahkaaG65
namespace Go.SR
open Go Go.Proofs

theorem map_wnB_ids {symbol : Int} {L : List Blk} {T : List Wn} (h : L.map (wnB symbol) = T) : L.map Blk.id = T.map Wn.id := by rw [← h, wnB_ids]

theorem fnd_none_of {symbol : Int} {L : List Blk} {T : List Wn} {k : Int} (h : L.map (wnB symbol) = T) (hk : k ∉ T.map Wn.id) : fnd L k = none := by
  unfold fnd
  rw [List.find?_eq_none]
  intro b hb
  simp only [decide_eq_true_eq]
  rintro rfl
  exact hk (by rw [← map_wnB_ids h]; exact List.mem_map.2 ⟨b, hb, rfl⟩)

theorem fnd_some_of {symbol : Int} {L : List Blk} {T : List Wn} {k : Int} (h : L.map (wnB symbol) = T) (hk : k ∈ T.map Wn.id) : (fnd L k).isSome = true := by
  rw [← map_wnB_ids h] at hk
  obtain ⟨b, hb, rfl⟩ := List.mem_map.1 hk
  unfold fnd
  rw [List.find?_isSome]
  exact ⟨b, hb, by simp⟩

theorem bsum_of {symbol : Int} {L : List Blk} {T : List Wn} (h : L.map (wnB symbol) = T) : bsum symbol L = (T.map Wn.bytes).sum := by
  rw [← h, List.map_map]; rfl

theorem roomF_fits {frames most : Int} {who : Wn} {S : List Wn} {by' : Int} (h1 : (S.length : Int) < frames) (h2 : by' + who.bytes ≤ most) : roomF frames most who S by' = some [] := by
  cases S with
  | nil => rw [roomF, if_neg (by simp at h1; omega)]
  | cons x S => rw [roomF, if_neg (by simp only [List.length_cons] at h1; omega)]

/-- There is room. -/
theorem addFits {frames bytes symbol : Int} {L L' : List Blk} {ID size rank id : Int} {data : List By} {ok : Bool} {gone : List Int} {T : List Wn} (h : AddOk frames bytes symbol L ID size rank id data ok gone L') (hT : L.map (wnB symbol) = T) (hf : ID ∉ T.map Wn.id)
    (hc : cntOk size symbol = true) (h0 : 0 ≤ id) (h1 : id < cntK size symbol) (hd : (data.length : Int) = symbol) (hl : (T.length : Int) < frames) (hb : (T.map Wn.bytes).sum + cntK size symbol * symbol ≤ bytes) :
    ok = true ∧ gone = [] ∧ L'.map (wnB symbol) = T ++ [⟨ID, rank, cntK size symbol * symbol⟩] := by
  have hfn := fnd_none_of hT hf
  have hs := sym0 (ID := ID) hc h0 h1 hd
  have hbs := bsum_of hT
  unfold AddOk at h
  rw [hfn] at h
  have fits : ∀ S : List Wn, S.Perm (L.map (wnB symbol)) → roomF frames bytes ⟨ID, rank, cntK size symbol * symbol⟩ S (bsum symbol L) = some [] := fun S hp => by
    refine roomF_fits ?_ (by rw [hbs]; exact hb)
    rw [hp.length_eq, hT]; exact hl
  rcases h with ⟨e1, _, _, ⟨S, hp, _, hr⟩, bn, mb, hL⟩ | ⟨_, _, _, he⟩
  · rw [fits S hp] at hr
    cases hr
    refine ⟨e1, rfl, ?_⟩
    have e : (L.filter fun b => decide (b.id ∉ ([] : List Int))) = L := by rw [List.filter_eq_self]; intro b _; simp
    rw [hL, e, List.map_append, hT]
    rfl
  · exfalso
    rcases he with he | he | ⟨S, hp, _, hr⟩
    · rw [hc] at he; cases he
    · exact he hs
    · rw [fits S hp] at hr; cases hr

variable {w : World}

/-- A rank, of a number. -/
def q4 (x : Int) : Int := 1 + x % 4

theorem q4_bd (x : Int) : 1 ≤ q4 x ∧ q4 x ≤ 4 := by unfold q4; omega
theorem q4_eq {x : Int} (h0 : 0 ≤ x) : IntKind.wrap .i64 (1 + IntKind.wrap .i64 (Int.tmod x 4)) = q4 x := by
  rw [Int.tmod_eq_emod_of_nonneg h0, w64 (n := x % 4) (by omega) (by omega), w64 (by omega) (by omega)]; rfl

theorem zc83 : zc Try.prog 83 = #[.int .i64 0, .int .i64 0, .int .i64 0] := by kernel_rfl

def dat4 : List By := [1#8, 2#8, 3#8, 4#8]

theorem setRank_map {symbol k rank : Int} (L : List Blk) : (setRank L k rank).map (wnB symbol) = (L.map (wnB symbol)).map fun x => if x.id = k then { x with rank := rank } else x := by
  unfold setRank
  rw [List.map_map, List.map_map]
  refine List.map_congr_left fun b _ => ?_
  simp only [Function.comp]
  by_cases h : b.id = k
  · have : (wnB symbol b).id = k := h
    rw [if_pos h, if_pos this]; rfl
  · have : ¬ (wnB symbol b).id = k := h
    rw [if_neg h, if_neg this]

theorem head_max {S : List Wn} {x : Wn} {S' : List Wn} (h : S = x :: S') (hs : S.Pairwise (fun a b => wrs b a = false)) : ∀ y ∈ S, wrs y x = false := by
  subst h
  intro y hy
  rcases List.mem_cons.1 hy with rfl | hy
  · simp [wrs]
  · exact (List.pairwise_cons.1 hs).1 y hy

/-- The last of the greatest. -/
theorem worst_id {a b c : Int} {x : Wn} {wst : Nat} (hx : x ∈ [⟨1, a, 4⟩, ⟨2, b, 4⟩, (⟨3, c, 4⟩ : Wn)]) (hm : ∀ y ∈ [⟨1, a, 4⟩, ⟨2, b, 4⟩, (⟨3, c, 4⟩ : Wn)], wrs y x = false)
    (hw : wst = if c ≥ (if b ≥ a then b else a) then 2 else if b ≥ a then 1 else 0) : x.id = (wst : Int) + 1 := by
  have m1 := hm _ (List.mem_cons_self ..)
  have m2 := hm _ (List.mem_cons_of_mem _ (List.mem_cons_self ..))
  have m3 := hm _ (List.mem_cons_of_mem _ (List.mem_cons_of_mem _ (List.mem_cons_self ..)))
  simp only [wrs, decide_eq_false_iff_not] at m1 m2 m3
  subst hw
  simp only [List.mem_cons, List.not_mem_nil, or_false] at hx
  rcases hx with rfl | rfl | rfl <;> simp only at m1 m2 m3 ⊢ <;> split <;> (try split at *) <;> (try split) <;> omega

/-- The greatest one goes. -/
theorem addPush {L L' : List Blk} {id : Int} {data : List By} {ok : Bool} {gone : List Int} {a b c : Int} (h : AddOk 3 100 4 L 50 4 0 id data ok gone L') (hT : L.map (wnB 4) = [⟨1, a, 4⟩, ⟨2, b, 4⟩, ⟨3, c, 4⟩]) (ha : 1 ≤ a) (hb : 1 ≤ b) (hc : 1 ≤ c) (h0 : 0 ≤ id) (h1 : id < cntK 4 4) (hd : (data.length : Int) = 4) :
    ok = true ∧ ∃ x ∈ [⟨1, a, 4⟩, ⟨2, b, 4⟩, (⟨3, c, 4⟩ : Wn)], gone = [x.id] ∧ ∀ y ∈ [⟨1, a, 4⟩, ⟨2, b, 4⟩, (⟨3, c, 4⟩ : Wn)], wrs y x = false := by
  have hfn := fnd_none_of (k := 50) hT (by simp)
  have hs := sym0 (ID := 50) (by decide : cntOk 4 4 = true) h0 h1 hd
  have hbs : bsum 4 L = 12 := by rw [bsum_of hT]; rfl
  have hcK : cntK 4 4 * 4 = 4 := by kernel_rfl
  unfold AddOk at h
  rw [hfn, hbs, hcK] at h
  have key : ∀ S : List Wn, S.Perm (L.map (wnB 4)) → S.Pairwise (fun a b => wrs b a = false) → ∃ x ∈ [⟨1, a, 4⟩, ⟨2, b, 4⟩, (⟨3, c, 4⟩ : Wn)], roomF 3 100 ⟨50, 0, 4⟩ S 12 = some [x.id] ∧ ∀ y ∈ [⟨1, a, 4⟩, ⟨2, b, 4⟩, (⟨3, c, 4⟩ : Wn)], wrs y x = false := by
    intro S hp hso
    rw [hT] at hp
    cases S with
    | nil => have := hp.length_eq; simp at this
    | cons x S =>
      have hl := hp.length_eq
      simp only [List.length_cons, List.length_nil] at hl
      have hx := hp.mem_iff.1 (List.mem_cons_self ..)
      refine ⟨x, hx, ?_, fun y hy => head_max rfl hso y (hp.mem_iff.2 hy)⟩
      have hr : 1 ≤ x.rank ∧ x.bytes = 4 := by
        simp only [List.mem_cons, List.not_mem_nil, or_false] at hx
        rcases hx with rfl | rfl | rfl <;> exact ⟨by assumption, rfl⟩
      rw [roomF, if_pos (.inl (by omega)), if_pos (by unfold wrs; simp only [decide_eq_true_eq]; left; show x.rank > 0; omega), hr.2, roomF_fits (by omega) (by decide)]
      rfl
  rcases h with ⟨e1, _, _, ⟨S, hp, hso, hr⟩, _⟩ | ⟨_, _, _, he⟩
  · obtain ⟨x, hx, e, hm⟩ := key S hp hso
    rw [e] at hr
    cases hr
    exact ⟨e1, x, hx, rfl, hm⟩
  · exfalso
    rcases he with he | he | ⟨S, hp, hso, hr⟩
    · cases he
    · exact he hs
    · obtain ⟨x, hx, e, hm⟩ := key S hp hso
      rw [e] at hr; cases hr

/-- One of three is turned. -/
theorem turn3 {a b c x : Int} {i : Nat} (hi : i < 3) (ha : 1 ≤ a) (hb : 1 ≤ b) (hc : 1 ≤ c) (hx : 1 ≤ x) : ∃ a' b' c' : Int, 1 ≤ a' ∧ 1 ≤ b' ∧ 1 ≤ c' ∧
    (#[.int .i64 a, .int .i64 b, .int .i64 c] : Array Value).setIfInBounds i (.int .i64 x) = #[.int .i64 a', .int .i64 b', .int .i64 c'] ∧ (#[.int .i64 a', .int .i64 b', .int .i64 c'] : Array Value)[i]? = some (.int .i64 x) ∧
    ([⟨1, a, 4⟩, ⟨2, b, 4⟩, ⟨3, c, 4⟩] : List Wn).map (fun y => if y.id = (i : Int) + 1 then { y with rank := x } else y) = [⟨1, a', 4⟩, ⟨2, b', 4⟩, ⟨3, c', 4⟩] := by
  obtain rfl | rfl | rfl : i = 0 ∨ i = 1 ∨ i = 2 := by omega
  · exact ⟨x, b, c, hx, hb, hc, rfl, rfl, rfl⟩
  · exact ⟨a, x, c, ha, hx, hc, rfl, rfl, rfl⟩
  · exact ⟨a, b, x, ha, hb, hx, rfl, rfl, rfl⟩

/-- The last of the greatest of the first i. -/
def wst (a b c : Int) (i : Nat) : Nat := if i = 1 then 0 else if i = 2 then (if b ≥ a then 1 else 0) else if c ≥ (if b ≥ a then b else a) then 2 else if b ≥ a then 1 else 0

theorem wst_lt (a b c : Int) (i : Nat) : wst a b c i < 3 := by unfold wst; (repeat' split) <;> omega

theorem wst_step {a b c : Int} {i : Nat} (h1 : 1 ≤ i) (h3 : i < 3) : ∃ x y : Int, (#[.int .i64 a, .int .i64 b, .int .i64 c] : Array Value)[i]? = some (.int .i64 x) ∧ (#[.int .i64 a, .int .i64 b, .int .i64 c] : Array Value)[wst a b c i]? = some (.int .i64 y) ∧ wst a b c (i + 1) = if x ≥ y then i else wst a b c i := by
  obtain rfl | rfl : i = 1 ∨ i = 2 := by omega
  · exact ⟨b, a, rfl, rfl, rfl⟩
  · refine ⟨c, if b ≥ a then b else a, rfl, ?_, rfl⟩
    by_cases h : b ≥ a
    · have : wst a b c 2 = 1 := by simp [wst, h]
      rw [this, if_pos h]; rfl
    · have : wst a b c 2 = 0 := by simp [wst, h]
      rw [this, if_neg h]; rfl

theorem ShelfRanks_c {x0 x1 x2 wh to : Int} (h0 : 0 ≤ x0) (h1 : 0 ≤ x1) (h2 : 0 ≤ x2) (hw : 0 ≤ wh) (ht : 0 ≤ to) :
    Cs Try.prog glaw24_ShelfRanks_n #[.agg #[.int .u8 x0, .int .u8 x1, .int .u8 x2], .int .u8 wh, .int .u8 to] w (Ret fun v w' => v = .bool true ∧ Ext w w') := by
  apply glaw24_ShelfRanks_ok
  unfold glaw24_ShelfRanks
  refine al_step fun m0 wa aa hea _ => ?_
  refine cl_ret begun24_c ?_
  rintro v w3 ⟨rfl, he3⟩
  refine ⟨_, rfl, br_f ?_⟩
  have a3 := aa.ext he3
  refine cl_ret fieldNew_c ?_
  rintro v w6 ⟨f, rfl, hf, he6, _⟩
  refine ⟨_, rfl, ?_⟩
  have a6 := At.ext a3 he6
  refine cl_ret (ShI.new (w0 := w) (fr := 3) (by' := 100) (sy := 4) hf ((hea.trans he3).trans he6) (by omega)) ?_
  rintro v w9 ⟨s, sm, rfl, h9, he9⟩
  refine ⟨_, _, rfl, ?_⟩
  have a9 := At.ext a6 he9
  refine jn_step (fun _ w' => w' = w9) ?_ (br_f (br_f rfl))
  rintro _ _ w12 rfl
  refine al_step fun m13 w14 a14 he14 _ => ?_
  refine al_step fun m15 w16 a16 he16 hb16 => ?_
  rw [zc83] at a16
  have d16 := a14.ext he16
  have r16 := (At.ext a9 he14).ext he16
  have h16 := (h9.more he14).more he16
  have hm15 : w.heap.size ≤ m15 := by
    have := h9.ext.size
    have := he14.size
    omega
  -- the three
  let T : Nat → List Wn := fun i => ([⟨1, q4 x0, 4⟩, ⟨2, q4 x1, 4⟩, ⟨3, q4 x2, 4⟩] : List Wn).take i
  let C : Nat → Array Value := fun i => #[.int .i64 (if 0 < i then q4 x0 else 0), .int .i64 (if 1 < i then q4 x1 else 0), .int .i64 (if 2 < i then q4 x2 else 0)]
  have Cnb : ∀ i, ∀ (j : Nat) x, (C i)[j]? ≠ some (bv x) := fun i => words_nb (l := [_, _, _]) rfl
  have hdat : ∀ {w'}, At w' m13 #[.int .u8 1, .int .u8 2, .int .u8 3, .int .u8 4] 5 → Byr w' (some ⟨m13, 0, none⟩) 4 dat4 := fun h => Byr.of_heap dat4 h rfl (by simp [dat4])
  refine lp_step (fun n st w' => ∃ (i : Nat) (L : List Blk), st = i ∧ i ≤ 3 ∧ ShI w w' s f sm 3 100 4 L ∧ L.map (wnB 4) = T i ∧ At w' m0 #[.int .u8 x0, .int .u8 x1, .int .u8 x2] 57 ∧ At w' m13 #[.int .u8 1, .int .u8 2, .int .u8 3, .int .u8 4] 5 ∧ At w' m15 (C i) 83 ∧ n = 3 - i)
    _ ⟨0, [], rfl, by omega, h16, rfl, r16, d16, a16, rfl⟩ ?_
  rintro n _ _ w19 ⟨i, L, rfl, hi, hS, hT, hr, hd, hc, hn⟩ K hK
  refine br_if (fun hlt => ?_) (fun hge => ?_)
  · -- one of the three
    have hi' : i < 3 := by omega
    have one : ∃ x : Int, 0 ≤ x ∧ (#[.int .u8 x0, .int .u8 x1, .int .u8 x2] : Array Value)[i]? = some (.int .u8 x) ∧ (C i).setIfInBounds i (.int .i64 (q4 x)) = C (i + 1) ∧ (C (i + 1))[i]? = some (.int .i64 (q4 x)) ∧ T (i + 1) = T i ++ [⟨(i : Int) + 1, q4 x, 4⟩] ∧ ((i : Int) + 1) ∉ (T i).map Wn.id ∧ (T i).length = i ∧ ((T i).map Wn.bytes).sum ≤ 8 := by
      obtain rfl | rfl | rfl : i = 0 ∨ i = 1 ∨ i = 2 := by omega
      · exact ⟨x0, h0, rfl, rfl, rfl, rfl, by simp [T], rfl, by simp [T]⟩
      · exact ⟨x1, h1, rfl, rfl, rfl, rfl, by simp [T], rfl, by simp [T]⟩
      · exact ⟨x2, h2, rfl, rfl, rfl, rfl, by simp [T], rfl, by simp [T]⟩
    obtain ⟨x, hx0, hxi, hC, hCi, hTs, hid, hTl, hTb⟩ := one
    refine ⟨by omega, by show (i : Int) < 3; omega, _, by rw [add_mk, hr.cell, show 0 + ((i : Int)).toNat * 1 = i by omega]; exact hxi, by decide, ⟨by omega, by show (i : Int) < 3; omega, ?_⟩⟩
    rw [q4_eq hx0]
    refine st1_at (i := i) hc (by rw [add_mk]; congr 1; omega) (by simpa [C] using hi') rfl fun w23 hc23 hch => ⟨by omega, by show (i : Int) < 3; omega, ?_⟩
    rw [hC] at hc23
    refine ⟨_, by rw [add_mk, hc23.cell, show 0 + ((i : Int)).toNat * 1 = i by omega]; exact hCi, ?_⟩
    have hS23 := hS.other hm15 hc (Cnb i) (by decide) (by decide) (by decide) (by decide) hch
    have hr23 := hr.chg hch (hr.ne_type hc (by decide))
    have hd23 := hd.chg hch (hd.ne_type hc (by decide))
    rw [show IntKind.wrap .u32 (IntKind.wrap .i64 ((i : Int) + 1)) = (i : Int) + 1 by rw [w64 (by omega) (by omega), wu32 (by omega) (by omega)]]
    refine cl_ret (hS23.add (hdat hd23) (Nat.le_refl _)) ?_
    rintro v w27 ⟨ok, p, l, c, gone, L', rfl, hg, hS27, hadd, hk⟩
    have hcK : cntK 4 4 * 4 = 4 := by kernel_rfl
    obtain ⟨rfl, rfl, hL'⟩ := addFits (id := 0) hadd hT hid (by decide) (by decide) (by decide) rfl (by omega) (by rw [hcK]; omega)
    rw [hcK, ← hTs] at hL'
    refine ⟨_, _, _, _, rfl, br_f ?_⟩
    rw [w64 (by omega) (by omega)]
    exact hK (3 - (i + 1)) _ _ (by omega) ⟨i + 1, L', by simp, by omega, hS27, hL', hk.at hr23, hk.at hd23, hk.at hc23, rfl⟩
  · have : i = 3 := by omega
    subst this
    clear hK hn
    have hT : L.map (wnB 4) = [⟨1, q4 x0, 4⟩, ⟨2, q4 x1, 4⟩, ⟨3, q4 x2, 4⟩] := hT
    have hc : At w19 m15 #[.int .i64 (q4 x0), .int .i64 (q4 x1), .int .i64 (q4 x2)] 83 := hc
    have hcn : ∀ {a b c : Int} (j : Nat) x, (#[.int .i64 a, .int .i64 b, .int .i64 c] : Array Value)[j]? ≠ some (bv x) := fun {a b c} => words_nb (l := [a, b, c]) rfl
    rw [Int.tmod_eq_emod_of_nonneg hw, w64 (n := wh % 3) (by omega) (by omega), q4_eq ht]
    obtain ⟨k, hk, hk3⟩ : ∃ k : Nat, wh % 3 = k ∧ k < 3 := ⟨(wh % 3).toNat, by omega, by omega⟩
    rw [hk]
    have ix3 : ∀ {j : Nat} {F : Addr → Prop}, j < 3 → F ⟨m15, j, none⟩ → ixr ⟨m15, 0, none⟩ 3 (j : Int) 1 F := fun {j F} hj hF => ⟨by omega, by show (j : Int) < 3; omega, by rw [add_mk, show 0 + ((j : Int)).toNat * 1 = j by omega]; exact hF⟩
    refine ⟨by decide, by decide, ix3 hk3 ?_⟩
    obtain ⟨a, b, c, ha, hb, hc1, e1, e2, e3⟩ := turn3 (x := q4 to) hk3 (q4_bd x0).1 (q4_bd x1).1 (q4_bd x2).1 (q4_bd to).1
    refine st1_at (i := k) hc rfl (by simpa using hk3) rfl fun w35 hc35 hch => ?_
    rw [e1] at hc35
    have hS35 := hS.other hm15 hc hcn (by decide) (by decide) (by decide) (by decide) hch
    have hd35 := hd.chg hch (hd.ne_type hc (by decide))
    refine jn_step (fun _ w' => ∃ L, ShI w w' s f sm 3 100 4 L ∧ L.map (wnB 4) = [⟨1, a, 4⟩, ⟨2, b, 4⟩, ⟨3, c, 4⟩] ∧ At w' m13 #[.int .u8 1, .int .u8 2, .int .u8 3, .int .u8 4] 5 ∧ At w' m15 #[.int .i64 a, .int .i64 b, .int .i64 c] 83) ?_ ?_
    · rintro _ _ w36 ⟨L, hS, hT, hd, hc⟩
      refine lp_step (fun n st w' => ∃ i : Nat, st.1 = wst a b c i ∧ st.2 = i ∧ 1 ≤ i ∧ i ≤ 3 ∧ Ext w36 w' ∧ n = 3 - i) _ ⟨1, rfl, rfl, by omega, by omega, Ext.refl _, rfl⟩ ?_
      rintro n _ ⟨_, _⟩ w39 ⟨i, rfl, rfl, hi1, hi3, he, hn⟩ K hK
      dsimp only at *
      refine br_if (fun hlt => ?_) (fun hge => ?_)
      · refine dr_step fun w40 _ he40 => ?_
        have hc40 := (hc.ext he).ext he40
        obtain ⟨x, y, ex, ey, es⟩ := wst_step (a := a) (b := b) (c := c) hi1 (show i < 3 by omega)
        refine ix3 (by omega) ⟨x, by rw [hc40.cell]; exact ex, ix3 (wst_lt ..) ⟨y, by rw [hc40.cell]; exact ey, ?_⟩⟩
        rw [w64 (by omega) (by omega)]
        refine br_if (fun hxy => ?_) (fun hxy => ?_)
        · exact hK (3 - (i + 1)) _ _ (by omega) ⟨i + 1, by rw [es, if_pos hxy], by simp, by omega, by omega, he.trans he40, rfl⟩
        · exact hK (3 - (i + 1)) _ _ (by omega) ⟨i + 1, by rw [es, if_neg hxy], by simp, by omega, by omega, he.trans he40, rfl⟩
      · have : i = 3 := by omega
        subst this
        refine cl_ret ((hS.more he).add (hdat (hd.ext he)) (Nat.le_refl _)) ?_
        rintro v w46 ⟨ok, p, l, cc, gone, L', rfl, hg, hS46, hadd, hk'⟩
        obtain ⟨rfl, x, hx, rfl, hm⟩ := addPush (id := 0) hadd hT ha hb hc1 (by decide) (by decide) rfl
        have hxi := worst_id hx hm (wst := wst a b c 3) rfl
        refine ⟨_, _, _, _, rfl, br_t ?_⟩
        have hl := hg.lenI
        simp only [List.length_singleton] at hl
        subst hl
        refine br_t ?_
        have hgi : Ints 23 .u32 w46 p 1 [x.id] := Row.ints hg (by simp)
        refine hgi.ix (by omega) (by simp) fun aa haa => ⟨_, haa, ?_, hS46.ext⟩
        have hlt := wst_lt a b c 3
        rw [w64 (by omega) (by omega), wu32 (by omega) (by omega), ← hxi]
        show Value.bool (x.id == x.id) = _
        rw [beq_self_eq_true]
    · refine ix3 hk3 ⟨q4 to, by rw [hc35.cell]; exact e2, ?_⟩
      rw [show IntKind.wrap .u32 (IntKind.wrap .i64 ((k : Int) + 1)) = (k : Int) + 1 by rw [w64 (by omega) (by omega), wu32 (by omega) (by omega)]]
      refine cl_ret hS35.rank ?_
      rintro v w59 ⟨rfl, hS59, hk59⟩
      have hin : ((k : Int) + 1) ∈ ([⟨1, q4 x0, 4⟩, ⟨2, q4 x1, 4⟩, ⟨3, q4 x2, 4⟩] : List Wn).map Wn.id := by
        simp only [List.map_cons, List.map_nil, List.mem_cons, List.not_mem_nil, or_false]; omega
      rw [fnd_some_of hT hin]
      refine ⟨_, rfl, br_f ?_⟩
      have hT59 : (setRank L ((k : Int) + 1) (q4 to)).map (wnB 4) = [⟨1, a, 4⟩, ⟨2, b, 4⟩, ⟨3, c, 4⟩] := by
        rw [setRank_map, hT]; exact e3
      refine cl_ret hS59.rank ?_
      rintro v w62 ⟨rfl, hS62, hk62⟩
      rw [fnd_none_of hT59 (by simp)]
      refine ⟨_, rfl, br_f ⟨_, hS62, ?_, hk62.at (hk59.at hd35), hk62.at (hk59.at hc35)⟩⟩
      rw [setRank_map, hT59]; rfl
end Go.SR
