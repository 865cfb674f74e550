/- girandolelaw14.TreeAll answers true. -/
import Derived.Test.YtmmcihbcceahkaaD3
namespace Go.SR
open Go Go.Proofs

section
variable {w : World} {fs : List Fr} {p : Option Addr} {l c : Nat}

theorem refBelow_c {x : Int} (h : Frames w p l fs) (hG : Good fs) (hsmall : fs.length ≤ 1000000) :
    Cs Try.prog gref12_Below_n #[.slice p l c, .int .u32 x] w (Ret fun v w' => ∃ q ql qc ks, v = .slice q ql qc ∧ RowI w' w.heap.size q ql qc ks ∧ BelowL fs x ks ∧ Ext w w') := by
  apply gref12_Below_ok
  unfold gref12_Below
  have hlt := h.lt
  have hl := h.len
  refine nwo_step fun ob w1 h1 he1 hb1 => ?_
  have o1 : Own (fun _ => False) w w1 [(ob, MapO .u32 (seenM []))] := (Own.nil _ w).push he1 hb1 h1 (MapO.empty _)
  refine lp_step (fun n s w' => ∃ out, Own (fun _ => False) w w' [(ob, MapO .u32 (seenM out))] ∧ (∀ y, y ∈ out ↔ ∃ k : Nat, (k : Int) < s ∧ ∃ f, fs[k]? = some f ∧ f.id = y ∧ Up fs y x) ∧ 0 ≤ s ∧ s ≤ fs.length ∧ n = ((fs.length : Int) - s).toNat)
    _ ⟨[], o1, fun y => ⟨fun h => by simp at h, fun ⟨k, hk, _⟩ => by omega⟩, by omega, by omega, rfl⟩ ?_
  rintro n _ s w2 ⟨out, o2, hout, hs0, hs1, hn⟩ K hK
  have hM : MapAt w2 ob .u32 (seenM out) := (o2.here 0 ob _ rfl).1
  have h2 := h.chg o2.chg Off.none Off.none
  refine br_if (fun hs => ?_) (fun hge => ?_)
  · have hget := gF_get hs0 (show s < fs.length by omega)
    generalize hgf : gF fs s = f at hget
    refine h2.ix hs0 (by omega) fun a _ _ _ ha _ => ⟨_, ha.get0, ?_⟩
    rw [hgf]
    refine cl_ret (refAbove_c h2 hG hsmall) ?_
    rintro v w4 ⟨q', ql, qc, ks, rfl, hr, hab, he4⟩
    refine ⟨q', ql, qc, rfl, ?_⟩
    have hks := aboveL_iff hG hab
    have hkl : ks.length < 4611686018427387904 := by
      have := nodup_len (l := ks) (l' := fs.map Fr.id) (hab.1.imp fun h => by omega) fun y hy => ((hks y).1 hy).known
      simp at this; omega
    refine cl_ret (in_c (Row.ints hr hkl)) ?_
    rintro v w5 ⟨rfl, he5⟩
    refine ⟨_, rfl, ?_⟩
    have o5 := (o2.ext he4).ext he5
    have next : ∀ w6 out', Own (fun _ => False) w w6 [(ob, MapO .u32 (seenM out'))] → (∀ y, y ∈ out' ↔ y ∈ out ∨ (y = f.id ∧ Up fs y x)) → K (IntKind.wrap .i64 (s + 1)) w6 := by
      intro w6 out' o6 ho
      rw [w64 (by omega) (by omega)]
      refine hK _ _ _ (by omega) ⟨out', o6, fun y => ?_, by omega, by omega, rfl⟩
      rw [ho, hout]
      constructor
      · rintro (⟨k, hk, f', hf', h1, h2⟩ | ⟨rfl, h1⟩)
        · exact ⟨k, by omega, f', hf', h1, h2⟩
        · exact ⟨s.toNat, by omega, f, hget, rfl, h1⟩
      · rintro ⟨k, hk, f', hf', h1, h2⟩
        by_cases e : (k : Int) < s
        · exact .inl ⟨k, e, f', hf', h1, h2⟩
        · have : s.toNat = k := by omega
          rw [this] at hget
          rw [hget] at hf'; cases hf'
          exact .inr ⟨h1.symm, h2⟩
    refine br_if (fun hin => ?_) (fun hni => ?_)
    · have h5 := (h2.ext he4).ext he5
      refine h5.ix hs0 (by omega) fun a2 _ _ _ ha2 _ => ⟨_, ha2.get0, ?_⟩
      rw [hgf]
      have hM5 : MapAt w5 ob .u32 (seenM out) := (o5.here 0 ob _ rfl).1
      refine update_step und94 und23 hM5 fun w6 hM6 hc6 => ?_
      rw [ins_addS] at hM6
      obtain ⟨o', ho', hφ'⟩ := hM6
      refine next w6 _ (o5.turn 0 rfl hc6 ho' hφ') fun y => ?_
      rw [mem_addS]
      constructor
      · rintro (h | rfl)
        · exact .inl h
        · exact .inr ⟨rfl, (hks x).1 hin⟩
      · rintro (h | ⟨h, _⟩)
        · exact .inl h
        · exact .inr h
    · refine next w5 out o5 fun y => ⟨.inl, ?_⟩
      rintro (h | ⟨rfl, h1⟩)
      · exact h
      · exact absurd ((hks x).2 h1) hni
  · refine cl_ret (told_c h2 hM hsmall) ?_
    rintro v w5 ⟨rq, rql, rqc, rfl, hr5, he5⟩
    refine ⟨_, _, _, rfl, rq, rql, rqc, _, rfl, ⟨hr5.1, ?_⟩, ⟨asc_filter hG.1.1 _, fun y => ?_⟩, o2.chg.trans he5⟩
    · rcases hr5.2 with h | ⟨g, cap, cur, h1, h2, h3⟩
      · exact .inl h
      · exact .inr ⟨g, cap, cur, h1, Nat.le_trans o2.chg.size h2, h3⟩
    · rw [List.mem_filter]
      simp only [decide_eq_true_eq]
      rw [hout]
      constructor
      · rintro ⟨h1, ⟨k, _, f, hf, e, h2⟩, h3⟩; exact ⟨h1, h2, h3⟩
      · rintro ⟨h1, h2, h3⟩
        obtain ⟨f, hf, e⟩ := List.mem_map.1 h1
        obtain ⟨k, hk⟩ := List.mem_iff_getElem?.1 hf
        have := (List.getElem?_eq_some_iff.1 hk).1
        exact ⟨h1, ⟨k, by omega, f, hk, e, h2⟩, h3⟩
end

variable {w : World} {p : Option Addr} {pl pc : Nat} {id : Int}

theorem TreeAll_c (hp : Handed w p pl 120) : Cs Try.prog glaw14_TreeAll_n #[.slice p pl pc, .int .u32 id] w (Ret fun v w' => v = .bool true ∧ Ext w w') := by
  apply glaw14_TreeAll_ok
  unfold glaw14_TreeAll
  have hS : SortOk 16 := @sortOk16
  refine cl_ret (begun14_c hS (by decide) (by decide)) ?_
  rintro v w1 ⟨rfl, he1⟩
  refine ⟨_, rfl, br_f ?_⟩
  refine br_if (fun _ => ⟨rfl, he1⟩) (fun hle => ?_)
  obtain ⟨l, hl, hlb⟩ := hp (by omega)
  refine cl_ret (Made_c (hl.ext he1) hlb) ?_
  rintro v w2 ⟨b, rfl, hpk, hbs, he2⟩
  refine ⟨_, rfl, ?_⟩
  refine cl_ret (Frames_c hpk (by decide) (by decide)) ?_
  rintro v w3 ⟨q, ql, qc, fs, n', rfl, hF, hG, hlen, hpk3, hc3⟩
  refine ⟨_, _, _, rfl, ?_⟩
  have he3 : Ext w w3 := (he1.trans he2).then hc3 fun x hx => by have := he1.size; omega
  have hql := hF.len
  have hlen' : fs.length ≤ 15 := hlen
  have short : ∀ {ks : List Int}, Asc ks → (∀ y ∈ ks, y ∈ fs.map Fr.id) → ks.length < 4611686018427387904 := fun ha hy => by
    have := nodup_len (l' := fs.map Fr.id) (ha.imp fun h => by omega) hy
    simp at this; omega
  refine lp_step (fun n i w' => Ext w3 w' ∧ 0 ≤ i ∧ i ≤ (ql : Int) + 1 ∧ n = ((ql : Int) + 1 - i).toNat) _ ⟨Ext.refl _, by omega, by omega, rfl⟩ ?_
  rintro n _ i w4 ⟨he4, hi0, hi1, hn⟩ K hK
  refine br_if (fun hi => ?_) (fun _ => ⟨rfl, he3.trans he4⟩)
  refine jn_step (fun _ w' => Ext w3 w') ?_ ?_
  · rintro _ x w5 he5
    have h5 := hF.ext he5
    refine cl_ret (Above_c hS (by decide) h5 (by omega)) ?_
    rintro v w6 ⟨a1, l1, c1, ks1, rfl, hr1, hab1, he6⟩
    refine ⟨_, _, _, rfl, ?_⟩
    have h6 := h5.ext he6
    refine cl_ret (refAbove_c h6 hG (by omega)) ?_
    rintro v w7 ⟨a2, l2, c2, ks2, rfl, hr2, hab2, he7⟩
    refine ⟨_, _, _, rfl, ?_⟩
    have k1 := short hab1.1 fun y hy => ((hab1.2 y).1 hy).1.known
    have k2 := short hab2.1 fun y hy => ((hab2.2 y).1 hy).1.known
    refine cl_ret (same_c ((Row.ints hr1 k1).ext he7) (Row.ints hr2 k2)) ?_
    rintro v w8 ⟨rfl, he8⟩
    refine ⟨_, rfl, ?_⟩
    have e12 : ks1 = ks2 := asc_ext hab1.1 hab2.1 fun y => by rw [hab1.2, hab2.2]
    refine br_iff.2 ⟨fun h => by simp [e12] at h, fun _ => ?_⟩
    have h8 := (h6.ext he7).ext he8
    refine cl_ret (Below_c hS (by decide) h8 (by omega)) ?_
    rintro v w9 ⟨a3, l3, c3, ks3, rfl, hr3, hab3, he9⟩
    refine ⟨_, _, _, rfl, ?_⟩
    have h9 := h8.ext he9
    refine cl_ret (refBelow_c h9 hG (by omega)) ?_
    rintro v wa ⟨a4, l4, c4, ks4, rfl, hr4, hab4, hea⟩
    refine ⟨_, _, _, rfl, ?_⟩
    have k3 := short hab3.1 fun y hy => ((hab3.2 y).1 hy).1
    have k4 := short hab4.1 fun y hy => ((hab4.2 y).1 hy).1
    refine cl_ret (same_c ((Row.ints hr3 k3).ext hea) (Row.ints hr4 k4)) ?_
    rintro v wb ⟨rfl, heb⟩
    refine ⟨_, rfl, ?_⟩
    have e34 : ks3 = ks4 := asc_ext hab3.1 hab4.1 fun y => by rw [hab3.2, hab4.2]
    refine br_iff.2 ⟨fun h => by simp [e34] at h, fun _ => ?_⟩
    rw [w64 (by omega) (by omega)]
    exact hK _ _ _ (by omega) ⟨(((((he5.trans he6).trans he7).trans he8).trans he9).trans hea).trans heb, by omega, by omega, rfl⟩
  · refine br_if (fun hlt => ?_) (fun _ => he4)
    exact (hF.ext he4).ix hi0 (by omega) fun a _ _ _ ha _ => ⟨_, ha.get0, he4⟩
end Go.SR
