/- girandolelaw14.TreeRefs answers true. -/
import Derived.Test.YtmmcihbcceahkaaC7
namespace Go.SR
open Go Go.Proofs

/-- The picks that a law is handed. -/
def Handed (w : World) (p : Option Addr) (pl : Nat) (most : Nat) : Prop := pl ≤ most → ∃ l, Raw .u8 w p pl l ∧ ∀ x ∈ l, 0 ≤ x ∧ x < 256

theorem asc_next {ks : List Int} (hk : Asc ks) {ids : List Int} (hi : Asc ids) {n k : Nat} {x : Int} (hx : ids[k]? = some x) (hxk : x ∈ ks) (hall : ∀ y ∈ ks, y ∈ ids)
    (hinv : ∀ y, y ∈ ks.take n ↔ y ∈ ks ∧ ∃ j : Nat, j < k ∧ ids[j]? = some y) : ks[n]? = some x := by
  obtain ⟨j, hj⟩ := List.mem_iff_getElem?.1 hxk
  have hjl := (List.getElem?_eq_some_iff.1 hj).1
  have hnj : n ≤ j := by
    rcases Nat.lt_or_ge j n with h | h
    · have : x ∈ ks.take n := List.mem_of_getElem? (i := j) (by rw [List.getElem?_take, if_pos h]; exact hj)
      obtain ⟨_, i, hik, hi'⟩ := (hinv x).1 this
      have := (asc_get hi hi' hx).1 hik
      omega
    · exact h
  have hnl : n < ks.length := by omega
  have hn : ks[n]? = some (ks[n]) := List.getElem?_eq_getElem hnl
  generalize ks[n] = y at hn
  have hyk : y ∈ ks := List.mem_of_getElem? hn
  obtain ⟨i, hiy⟩ := List.mem_iff_getElem?.1 (hall y hyk)
  have hki : k ≤ i := by
    rcases Nat.lt_or_ge i k with h | h
    · obtain ⟨m, hm⟩ := List.mem_iff_getElem?.1 ((hinv y).2 ⟨hyk, i, h, hiy⟩)
      rw [List.getElem?_take] at hm
      split at hm
      · have h1 := asc_get hk hm hn
        omega
      · cases hm
    · exact h
  have e1 : x ≤ y := by
    rcases Nat.lt_or_ge k i with h | h
    · have := (asc_get hi hx hiy).1 h; omega
    · have : k = i := by omega
      subst this; rw [hx] at hiy; cases hiy; exact Int.le_refl _
  have e2 : y ≤ x := by
    rcases Nat.lt_or_ge n j with h | h
    · have := (asc_get hk hn hj).1 h; omega
    · have : n = j := by omega
      subst this; rw [hn] at hj; cases hj; exact Int.le_refl _
  rw [hn]; congr 1; omega

theorem take_snoc {α : Type} {xs : List α} {n : Nat} {x : α} (h : xs[n]? = some x) : xs.take (n + 1) = xs.take n ++ [x] := by
  rw [List.take_add_one, h]; rfl

variable {w : World} {p : Option Addr} {pl pc : Nat}

theorem TreeRefs_c (hp : Handed w p pl 120) : Cs Try.prog glaw14_TreeRefs_n #[.slice p pl pc] w (Ret fun v w' => v = .bool true ∧ Ext w w') := by
  apply glaw14_TreeRefs_ok
  unfold glaw14_TreeRefs
  have hS : SortOk 12 := @sortOk12
  refine cl_ret (begun14_c hS (by decide) (by decide)) ?_
  rintro v w1 ⟨rfl, he1⟩
  refine ⟨_, rfl, br_f ?_⟩
  refine br_if (fun _ => ⟨rfl, he1⟩) (fun hle => ?_)
  obtain ⟨l, hl, hlb⟩ := hp (by omega)
  refine cl_ret (Made_c (hl.ext he1) hlb) ?_
  rintro v w2 ⟨b, rfl, hpk, hbs, he2⟩
  refine ⟨_, rfl, ?_⟩
  refine cl_ret (Frames_c hpk (by decide) (by decide)) ?_
  rintro v w3 ⟨q, ql, qc, fs, n', rfl, hF, hG, hlen, hpk3, hc3⟩
  refine ⟨_, _, _, rfl, ?_⟩
  have he3 : Ext w w3 := (he1.trans he2).then hc3 fun x hx => by have := he1.size; omega
  have hql := hF.len
  have hlen' : fs.length ≤ 12 := hlen
  have hA := hG.1.1
  refine lp_step (fun k i w' => Ext w3 w' ∧ 0 ≤ i ∧ i ≤ ql ∧ k = ((ql : Int) - i).toNat) _ ⟨Ext.refl _, by omega, by omega, rfl⟩ ?_
  rintro kk _ i w4 ⟨he4, hi0, hi1, hkk⟩ K hK
  refine br_if (fun hlt => ?_) (fun _ => ⟨rfl, he3.trans he4⟩)
  have hF4 := hF.ext he4
  refine hF4.ix hi0 (by omega) fun a rq rl rc hca hu => ⟨_, hca.get0, ?_⟩
  have hgi := gF_get hi0 (show i < fs.length by omega)
  generalize gF fs i = f at hgi hca hu
  refine cl_ret (Above_c hS (by decide) hF4 hlen') ?_
  rintro v w5 ⟨ap, al, ac, ks, rfl, hr5, hab, he5⟩
  refine ⟨_, _, _, rfl, ?_⟩
  have hal := hr5.lenI
  have hmem := aboveL_iff hG hab
  have hksl : ks.length ≤ fs.length := by
    have := nodup_len (l := ks) (l' := fs.map Fr.id) (hab.1.imp fun h => by omega) fun x hx => ((hmem x).1 hx).known
    simpa using this
  have hI5 : U32s w5 ap al ks := Row.ints hr5 (by omega)
  have hF5 := hF4.ext he5
  have he35 := he4.trans he5
  refine lp_step (fun m st w' => Ext w5 w' ∧ 0 ≤ st.1 ∧ st.1 ≤ ks.length ∧ 0 ≤ st.2 ∧ st.2 ≤ i ∧ (∀ y, y ∈ ks.take st.1.toNat ↔ y ∈ ks ∧ ∃ j : Nat, j < st.2.toNat ∧ (fs.map Fr.id)[j]? = some y) ∧ m = (i - st.2).toNat)
    _ ⟨Ext.refl _, by simp, by simp, by simp, by simpa using hi0, fun y => ⟨fun h => by simp at h, fun ⟨_, j, hj, _⟩ => by simp at hj⟩, rfl⟩ ?_
  rintro mm _ ⟨n, k⟩ w6 ⟨he6, hn0, hn1, hk0, hk1, hinv, hmm⟩ K1 hK1
  simp only [] at hn0 hn1 hk0 hk1 hinv hmm
  refine br_if (fun hk => ?_) (fun hge => ?_)
  · have hk' : k < i := hk
    have hdec : (i - (k + 1)).toNat < mm := by omega
    have hgk := gF_get hk0 (show k < fs.length by omega)
    generalize hgg : gF fs k = g at hgk
    have hidk : (fs.map Fr.id)[k.toNat]? = some g.id := by simp [hgk]
    have hne : g.id ≠ f.id := fun e => by have := ids_inj hA hgk hgi e; omega
    -- the inner loop: is it wanted?
    refine lp_step (fun m st w' => Ext w6 w' ∧ 0 ≤ st.2 ∧ st.2 ≤ f.refs.length ∧ (st.1 = true ↔ ∃ (j : Nat) (r : Int), (j : Int) < st.2 ∧ f.refs[j]? = some r ∧ (r = g.id ∨ Up fs r g.id)) ∧ m = ((f.refs.length : Int) - st.2).toNat)
      _ ⟨Ext.refl _, by simp, by simp, ⟨fun h => by simp at h, fun ⟨j, r, hj, _⟩ => by simp only [] at hj; omega⟩, rfl⟩ ?_
    rintro m3 _ ⟨want, m⟩ w7 ⟨he7, hm0, hm1, hwant, hm3⟩ K2 hK2
    simp only [] at hm0 hm1 hwant hm3
    have he57 := he6.trans he7
    have hF7 := hF5.ext he57
    refine hF7.ix hi0 (by omega) fun a' rq' rl' rc' hca' hu' => ?_
    have hgf : gF fs i = f := by
      have := gF_get hi0 (show i < fs.length by omega)
      rw [hgi] at this; exact (Option.some.inj this).symm
    rw [hgf] at hca' hu'
    have hrl' := hu'.len
    have hrlt := hu'.lt
    refine ⟨_, _, _, hca'.get 2 rfl, ?_⟩
    refine br_if (fun hlt2 => ?_) (fun hge2 => ?_)
    · have hlt2' : m < f.refs.length := by simp only [] at hlt2; omega
      refine hF7.ix hi0 (by omega) fun a'' rq'' rl'' rc'' hca'' hu'' => ?_
      rw [hgf] at hca'' hu''
      refine ⟨_, _, _, hca''.get 2 rfl, ?_⟩
      refine hu''.ix hm0 hlt2' fun a3 hca3 => ⟨_, hca3, ?_⟩
      have hgr := gI_get hm0 hlt2'
      generalize gI f.refs m = r at hgr ⊢
      refine cl_ret (Above_c hS (by decide) hF7 hlen') ?_
      rintro v w8 ⟨bp, bl, bc, bs, rfl, hr8, hbb, he8⟩
      refine ⟨_, _, _, rfl, ?_⟩
      have hbl := hr8.lenI
      have hbm := aboveL_iff hG hbb
      have hbsl : bs.length ≤ fs.length := by
        have := nodup_len (l := bs) (l' := fs.map Fr.id) (hbb.1.imp fun h => by omega) fun x hx => ((hbm x).1 hx).known
        simpa using this
      have hI8 : U32s w8 bp bl bs := Row.ints hr8 (by omega)
      have hF8 := hF7.ext he8
      refine jn_step (fun w0 w' => w' = w8 ∧ (w0 = true ↔ want = true ∨ r = g.id)) ?_ ?_
      · rintro _ want2 _ ⟨rfl, hw2⟩
        rename_i w8
        refine lp_step (fun m st w' => Ext w8 w' ∧ 0 ≤ st.2 ∧ st.2 ≤ bl ∧ (st.1 = true ↔ want2 = true ∨ ∃ (j : Nat), (j : Int) < st.2 ∧ bs[j]? = some g.id) ∧ m = ((bl : Int) - st.2).toNat)
          _ ⟨Ext.refl _, by simp, by simp, ⟨fun h => .inl h, fun h => by rcases h with h | ⟨j, hj, _⟩; exact h; simp only [] at hj; omega⟩, rfl⟩ ?_
        rintro m5 _ ⟨w9b, j⟩ w9 ⟨he9, hj0, hj1, hwb, hm5⟩ K3 hK3
        simp only [] at hj0 hj1 hwb hm5
        refine br_if (fun hlt3 => ?_) (fun hge3 => ?_)
        · have hlt3' : j < bl := hlt3
          refine dr_step fun w10 _ he10 => ?_
          have hgb := gI_get hj0 (show j < bs.length by omega)
          have go : ∀ b' : Bool, (b' = true ↔ w9b = true ∨ gI bs j = g.id) → K3 (b', IntKind.wrap .i64 (j + 1)) w10 := by
            intro b' hb'
            rw [w64 (by omega) (by omega)]
            refine hK3 _ _ _ (by omega) ⟨he9.trans he10, by simp only []; omega, by simp only []; omega, ?_, rfl⟩
            simp only []
            rw [hb', hwb]
            constructor
            · rintro ((h | ⟨j', h1, h2⟩) | h)
              · exact .inl h
              · exact .inr ⟨j', by omega, h2⟩
              · exact .inr ⟨j.toNat, by omega, by rw [hgb, h]⟩
            · rintro (h | ⟨j', h1, h2⟩)
              · exact .inl (.inl h)
              · by_cases e : (j' : Int) < j
                · exact .inl (.inr ⟨j', e, h2⟩)
                · have : j.toNat = j' := by omega
                  rw [← this, hgb] at h2
                  exact .inr (Option.some.inj h2)
          refine br_iff.2 ⟨fun h => go _ ⟨fun _ => .inl h, fun _ => rfl⟩, fun h => ?_⟩
          simp only [] at h
          refine (hI8.ext (he9.trans he10)).ix hj0 (by omega) fun a4 hca4 => ⟨_, hca4, ?_⟩
          refine (hF8.ext (he9.trans he10)).ix hk0 (by omega) fun a5 _ _ _ hca5 _ => ⟨_, hca5.get0, go _ ?_⟩
          rw [hgg]
          simp [h]
        · have hge3' : ¬ j < bl := hge3
          rw [w64 (by omega) (by omega)]
          refine hK2 _ _ _ (by omega) ⟨(he7.trans he8).trans he9, by simp only []; omega, by simp only []; omega, ?_, rfl⟩
          simp only []
          have hin : (∃ (j' : Nat), (j' : Int) < j ∧ bs[j']? = some g.id) ↔ Up fs r g.id := by
            rw [← hbm, List.mem_iff_getElem?]
            constructor
            · rintro ⟨j', _, h⟩; exact ⟨j', h⟩
            · rintro ⟨j', h⟩
              have := (List.getElem?_eq_some_iff.1 h).1
              exact ⟨j', by omega, h⟩
          rw [hwb, hw2, hin, hwant]
          constructor
          · rintro ((⟨j', r', h1, h2, h3⟩ | h) | h)
            · exact ⟨j', r', by omega, h2, h3⟩
            · exact ⟨m.toNat, r, by omega, hgr, .inl h⟩
            · exact ⟨m.toNat, r, by omega, hgr, .inr h⟩
          · rintro ⟨j', r', h1, h2, h3⟩
            by_cases e : (j' : Int) < m
            · exact .inl (.inl ⟨j', r', e, h2, h3⟩)
            · have : m.toNat = j' := by omega
              rw [this, h2] at hgr
              cases hgr
              rcases h3 with h3 | h3
              · exact .inl (.inr h3)
              · exact .inr h3
      · refine br_iff.2 ⟨fun h => ⟨rfl, by simp only [] at h; simp [h]⟩, fun h => ?_⟩
        simp only [] at h
        refine hF8.ix hk0 (by omega) fun a5 _ _ _ hca5 _ => ⟨_, hca5.get0, rfl, ?_⟩
        rw [hgg]
        simp [h]
    · -- behind the inner loop
      have hge2' : ¬ m < rl' := hge2
      have hup : want = true ↔ g.id ∈ ks := by
        rw [hwant, hmem, Up.iff, kr_get hG hgi]
        constructor
        · rintro ⟨j, r, _, h2, h3⟩
          exact ⟨r, List.mem_of_getElem? h2, by rcases h3 with h | h; exact .inl h.symm; exact .inr h⟩
        · rintro ⟨r, hr, h3⟩
          obtain ⟨j, hj⟩ := List.mem_iff_getElem?.1 hr
          have := (List.getElem?_eq_some_iff.1 hj).1
          exact ⟨j, r, by omega, hj, by rcases h3 with h | h; exact .inl h.symm; exact .inr h⟩
      refine br_iff.2 ⟨fun hnw => ?_, fun hw => ?_⟩
      · have hnin : g.id ∉ ks := fun h => by have := hup.2 h; simp [this] at hnw
        rw [w64 (by omega) (by omega)]
        refine hK1 _ _ _ hdec ⟨he57, by simpa using hn0, by simpa using hn1, by simp only []; omega, by simp only []; omega, fun y => ?_, rfl⟩
        simp only []
        rw [hinv]
        constructor
        · rintro ⟨h1, j, h2, h3⟩; exact ⟨h1, j, by omega, h3⟩
        · rintro ⟨h1, j, h2, h3⟩
          refine ⟨h1, j, ?_, h3⟩
          rcases Nat.lt_or_ge j k.toNat with h | h
          · exact h
          · have : j = k.toNat := by omega
            rw [this, hidk] at h3; cases h3; exact absurd h1 hnin
      · have hin : g.id ∈ ks := hup.1 (by simpa using hw)
        have hget := asc_next hab.1 hA hidk hin (fun y hy => ((hmem y).1 hy).known) hinv
        have hnl := (List.getElem?_eq_some_iff.1 hget).1
        refine dr_step fun w8 _ he8 => ?_
        refine br_if (fun hge => by simp only [] at hge; omega) (fun _ => ?_)
        refine (hI5.ext (he57.trans he8)).ix hn0 (by omega) fun a6 hca6 => ⟨_, hca6, ?_⟩
        refine (hF5.ext (he57.trans he8)).ix hk0 (by omega) fun a7 _ _ _ hca7 _ => ⟨_, hca7.get0, ?_⟩
        have hgn := gI_get hn0 (show n < ks.length by omega)
        rw [hget] at hgn
        have hgn' := (Option.some.inj hgn).symm
        simp only []
        rw [hgg, hgn']
        refine br_iff.2 ⟨fun h => by simp at h, fun _ => ?_⟩
        rw [w64 (by omega) (by omega), w64 (by omega) (by omega)]
        refine hK1 _ _ _ hdec ⟨he57.trans he8, by simp only []; omega, by simp only []; omega, by simp only []; omega, by simp only []; omega, fun y => ?_, rfl⟩
        simp only []
        rw [show (n + 1).toNat = n.toNat + 1 by omega, take_snoc hget, List.mem_append, List.mem_singleton, hinv]
        constructor
        · rintro (⟨h1, j, h2, h3⟩ | rfl)
          · exact ⟨h1, j, by omega, h3⟩
          · exact ⟨hin, k.toNat, by omega, hidk⟩
        · rintro ⟨h1, j, h2, h3⟩
          rcases Nat.lt_or_ge j k.toNat with h | h
          · exact .inl ⟨h1, j, h, h3⟩
          · have : j = k.toNat := by omega
            rw [this, hidk] at h3; cases h3; exact .inr rfl
  · -- all have been told
    have hge' : ¬ k < i := hge
    have hki : k = i := by omega
    have hfull : n = ks.length := by
      rcases Int.lt_or_le n ks.length with h | h
      · exfalso
        have hn : ks[n.toNat]? = some (ks[n.toNat]'(by omega)) := List.getElem?_eq_getElem (by omega)
        generalize ks[n.toNat]'(by omega) = y at hn
        have hy : y ∈ ks := List.mem_of_getElem? hn
        obtain ⟨j, g, hj, hgj, e⟩ := up_get hG hgi ((hmem y).1 hy)
        obtain ⟨m, hm⟩ := List.mem_iff_getElem?.1 ((hinv y).2 ⟨hy, j, by omega, by simp [hgj, e]⟩)
        rw [List.getElem?_take] at hm
        split at hm
        · have := asc_get hab.1 hm hn; omega
        · cases hm
      · omega
    refine br_iff.2 ⟨fun h => ?_, fun _ => ?_⟩
    · simp only [] at h
      have : (n != (al : Int)) = false := by simp; omega
      rw [this] at h; cases h
    · rw [w64 (by omega) (by omega)]
      exact hK _ _ _ (by omega) ⟨he35.trans he6, by omega, by omega, rfl⟩
end Go.SR
