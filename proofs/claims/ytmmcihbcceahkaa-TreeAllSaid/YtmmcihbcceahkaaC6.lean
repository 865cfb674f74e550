/- Contracts: Picks.Frames, Made. -/
import Derived.Test.YtmmcihbcceahkaaC5
namespace Go.SR
open Go Go.Proofs

theorem flatten_get : ∀ (vss : List (List Value)) (i j : Nat), (∀ v ∈ vss, v.length = 6) → j < 6 → vss.flatten[i * 6 + j]? = (vss[i]?).bind fun v => v[j]?
  | [], i, j, _, _ => by simp
  | v :: vss, 0, j, h, hj => by
    have hv := h v (List.mem_cons_self ..)
    simp only [Nat.zero_mul, Nat.zero_add, List.flatten_cons, List.getElem?_cons_zero, Option.bind_some]
    rw [List.getElem?_append_left (by omega)]
  | v :: vss, i + 1, j, h, hj => by
    have hv := h v (List.mem_cons_self ..)
    simp only [List.flatten_cons, List.getElem?_cons_succ]
    rw [List.getElem?_append_right (by omega), show (i + 1) * 6 + j - v.length = i * 6 + j by omega]
    exact flatten_get vss i j (fun v hv => h v (List.mem_cons_of_mem _ hv)) hj

theorem flatten_len : ∀ (vss : List (List Value)), (∀ v ∈ vss, v.length = 6) → vss.flatten.length = vss.length * 6
  | [], _ => by simp
  | v :: vss, h => by
    have hv := h v (List.mem_cons_self ..)
    have := flatten_len vss (fun v hv => h v (List.mem_cons_of_mem _ hv))
    simp only [List.flatten_cons, List.length_append, List.length_cons]; omega

/-- Frames in a row that may grow. -/
def FramesR (w : World) (base : Nat) (p : Option Addr) (l c : Nat) (fs : List Fr) : Prop :=
  ∃ vss : List (List Value), Row w base 31 6 p l c vss.flatten ∧ vss.length = fs.length ∧ (∀ v ∈ vss, v.length = 6) ∧ ∀ (i : Nat) (f : Fr), fs[i]? = some f → ∃ q rl rc, vss[i]? = some (f.vals q rl rc) ∧ U32s w q rl f.refs

section
variable {w w' : World} {base : Nat} {p : Option Addr} {l c : Nat} {fs : List Fr}

theorem FramesR.len (h : FramesR w base p l c fs) : l = fs.length := by
  obtain ⟨vss, hr, hl, h6, _⟩ := h
  have h1 := Row.len hr
  rw [flatten_len _ h6] at h1
  omega

theorem FramesR.nil : FramesR w base none 0 0 [] := ⟨[], Row.nil, rfl, by simp, fun i f h => by simp at h⟩

theorem FramesR.chg {S : Nat → Prop} (h : FramesR w base p l c fs) (hc : Chg S w w') (h31 : Off S w 31) (h23 : Off S w 23) : FramesR w' base p l c fs := by
  obtain ⟨vss, hr, hl, h6, hv⟩ := h
  refine ⟨vss, hr.chg hc h31, hl, h6, fun i f hf => ?_⟩
  obtain ⟨q, rl, rc, h1, h2⟩ := hv i f hf
  exact ⟨q, rl, rc, h1, h2.chg hc h23⟩

theorem FramesR.ext (h : FramesR w base p l c fs) (hc : Ext w w') : FramesR w' base p l c fs := h.chg hc Off.none Off.none

theorem FramesR.frames (h : FramesR w base p l c fs) (hlt : fs.length < 4611686018427387904) : Frames w p l fs := by
  refine ⟨⟨h.len, hlt⟩, fun i f hf => ?_⟩
  obtain ⟨vss, hr, hl, h6, hv⟩ := h
  obtain ⟨q, rl, rc, h1, h2⟩ := hv i f hf
  refine ⟨q, rl, rc, Row.at hr _ _ (fun j u hj => ?_) (by simp [Fr.vals]), h2⟩
  have hj6 : j < 6 := by
    have := (List.getElem?_eq_some_iff.1 hj).1
    simpa [Fr.vals] using this
  rw [flatten_get _ _ _ h6 hj6, h1]
  exact hj

/-- What holds of frames that Frames makes: the IDs rise, and refs are of those ahead. -/
def Good (fs : List Fr) : Prop := Rise fs ∧ ∀ i f, fs[i]? = some f → ∀ r ∈ f.refs, ∃ j : Nat, j < i ∧ ∃ g, fs[j]? = some g ∧ g.id = r

theorem Good.nil : Good [] := ⟨⟨List.Pairwise.nil, fun i f h => by simp at h⟩, fun i f h => by simp at h⟩

theorem Good.snoc {f : Fr} (h : Good fs) (hb : Behind fs f) (hr : ∀ r ∈ f.refs, r ∈ fs.map Fr.id) : Good (fs ++ [f]) := by
  obtain ⟨⟨h1, h2⟩, h3⟩ := h
  obtain ⟨b1, b2, b3⟩ := hb
  have getc : ∀ (i : Nat) g, (fs ++ [f])[i]? = some g → (i < fs.length ∧ fs[i]? = some g) ∨ (i = fs.length ∧ g = f) := by
    intro i g hg
    rw [List.getElem?_append] at hg
    split at hg
    · exact .inl ⟨by assumption, hg⟩
    · rename_i hlt
      cases hk : i - fs.length with
      | zero => rw [hk] at hg; simp at hg; exact .inr ⟨by omega, hg.symm⟩
      | succ k => rw [hk] at hg; simp at hg
  have lift : ∀ (j : Nat) g, fs[j]? = some g → (fs ++ [f])[j]? = some g := fun j g hg => by
    rw [List.getElem?_append_left (List.getElem?_eq_some_iff.1 hg).1]; exact hg
  refine ⟨⟨?_, fun i g hg => ?_⟩, fun i g hg r hrr => ?_⟩
  · unfold Asc at h1 ⊢
    rw [List.map_append, List.pairwise_append]
    refine ⟨h1, by simp, fun a ha b hb => ?_⟩
    obtain ⟨g, hg, rfl⟩ := List.mem_map.1 ha
    simp at hb; subst hb; exact b1 g hg
  · rcases getc i g hg with ⟨_, h⟩ | ⟨rfl, rfl⟩
    · exact h2 i g h
    · exact ⟨b2, b3⟩
  · rcases getc i g hg with ⟨_, h⟩ | ⟨rfl, rfl⟩
    · obtain ⟨j, hj, g', hg', e⟩ := h3 i g h r hrr
      exact ⟨j, hj, g', lift j g' hg', e⟩
    · obtain ⟨g', hg', e⟩ := List.mem_map.1 (hr r hrr)
      obtain ⟨j, hj⟩ := List.mem_iff_getElem?.1 hg'
      exact ⟨j, (List.getElem?_eq_some_iff.1 hj).1, g', lift j g' hj, e⟩
end

section
variable {w0 w w' : World} {b : Nat} {s : Option Addr × Nat × Nat} {l : List Int} {n : Nat}

theorem Frames_c {most : Int} (h : PkS w0 w b s l n) (hm0 : 0 ≤ most) (hm : most ≤ 1000) :
    Cs Try.prog gplay_Picks_Frames_n #[.pointer (some ⟨b, 0, none⟩), .int .i64 most] w
      (Ret fun v w' => ∃ p pl pc fs n', v = .slice p pl pc ∧ Frames w' p pl fs ∧ Good fs ∧ fs.length ≤ most.toNat ∧ PkS w0 w' b s l n' ∧ Chg (fun x => x = b) w w') := by
  apply gplay_Picks_Frames_ok
  unfold gplay_Picks_Frames
  have hh := h.here
  refine lp_step (fun k st w' => ∃ fs n', FramesR w' w.heap.size st.1.1 st.1.2.1 st.1.2.2 fs ∧ Good fs ∧ (fs.length : Int) ≤ st.2 ∧ PkS w w' b s l n' ∧ 0 ≤ st.2 ∧ st.2 ≤ most ∧ k = (most - st.2).toNat) _
    ⟨[], n, FramesR.nil, Good.nil, by simp, hh, by simp, by simpa using hm0, rfl⟩ ?_
  rintro k _ ⟨⟨p, pl, pc⟩, i⟩ w1 ⟨fs, n1, hfr, hg, hfl, hp, hi0, hi1, hk⟩ K hK
  simp only [] at hfr hfl hi0 hi1 hk
  have done : ∀ w2, FramesR w2 w.heap.size p pl pc fs → (∃ n', PkS w w2 b s l n') → Ret (fun v w' => ∃ p pl pc fs n', v = .slice p pl pc ∧ Frames w' p pl fs ∧ Good fs ∧ fs.length ≤ most.toNat ∧ PkS w0 w' b s l n' ∧ Chg (fun x => x = b) w w') (.returned (.slice p pl pc)) w2 := by
    rintro w2 h1 ⟨n', h2⟩
    exact ⟨p, pl, pc, fs, n', rfl, h1.frames (by omega), hg, by omega, h.after h2, h2.chg⟩
  refine jn_step (fun _ w' => FramesR w' w.heap.size p pl pc fs ∧ (∃ n', PkS w w' b s l n') ∧ i < most) ?_ ?_
  · rintro _ _ w2 ⟨hfr2, ⟨n2, hp2⟩, hlt⟩
    have hfl2 : fs.length < 4611686018427387904 := by omega
    refine cl_ret (Next_c hp2 (hfr2.frames hfl2) (by omega) hg.1 (by decide) (by decide)) ?_
    rintro v w3 ⟨⟨f, q, ql, qc, bp, bl, bc, rfl, hu, hul, hbe, href, _⟩, ⟨n3, hp3⟩, hc3⟩
    have hfr3 := hfr2.chg hc3 (hp2.off (by decide)) (hp2.off (by decide))
    refine ⟨_, _, _, _, _, _, _, _, _, _, _, rfl, ?_⟩
    have o0 : Own (fun _ => False) w3 w3 [] := Own.nil _ _
    refine o0.box zc31.symm (by simp [Value.oneCell']) fun m1 w4 o4 he4 => ?_
    refine ⟨_, _, _, o4.rd 0 2 rfl (add_mk _ _ _) rfl, _, o4.rd 0 1 rfl (add_mk _ _ _) rfl, ?_⟩
    have hqlen := hu.len
    have next : ∀ {w5 : World} {p' : Option Addr} {pl' pc' : Nat} {fs' : List Fr}, FramesR w5 w.heap.size p' pl' pc' fs' → Good fs' → fs'.length ≤ fs.length + 1 → (∃ n', PkS w w5 b s l n') → K ((p', (pl', pc')), IntKind.wrap .i64 (i + 1)) w5 := by
      rintro w5 p' pl' pc' fs' h1 h2 h3 ⟨n', h4⟩
      rw [w64 (by omega) (by omega)]
      exact hK _ _ _ (by omega) ⟨fs', n', h1, h2, by simp only []; omega, h4, by simp only []; omega, by simp only []; omega, rfl⟩
    refine lp_step (fun k' st w' => Ext w4 w' ∧ 0 ≤ st.2 ∧ st.2 ≤ ql ∧ (st.1 = true → ∀ j : Nat, (j : Int) < st.2 → f.refs[j]? ≠ some f.id) ∧ k' = ((ql : Int) - st.2).toNat) _ ⟨Ext.refl _, by simp, by simp, fun _ j hj => by simp only [] at hj; omega, rfl⟩ ?_
    rintro k' _ ⟨ok, j⟩ w5 ⟨he5, hj0, hj1, hok, hk'⟩ K' hK'
    simp only [] at hj0 hj1 hok hk'
    have o5 := o4.ext he5
    have hult := hu.lt
    have he35 := he4.trans he5
    refine ⟨_, _, _, o5.rd 0 2 rfl (add_mk _ _ _) rfl, ?_⟩
    refine br_if (fun hlt' => ?_) (fun hge => ?_)
    · have hlt'' : j < ql := hlt'
      refine dr_step fun w6 _ he6 => ?_
      have o6 := o5.ext he6
      have go : ∀ ok', (ok' = true → ok = true ∧ gI f.refs j ≠ f.id) → K' (ok', IntKind.wrap .i64 (j + 1)) w6 := by
        intro ok' h'
        rw [w64 (by omega) (by omega)]
        refine hK' _ _ _ (by omega) ⟨he5.trans he6, by simp only []; omega, by simp only []; omega, fun ht j' hj' => ?_, rfl⟩
        simp only [] at ht hj'
        by_cases e : (j' : Int) < j
        · exact hok (h' ht).1 j' e
        · have : j.toNat = j' := by omega
          rw [← this, gI_get hj0 (by omega)]
          intro e'; exact (h' ht).2 (Option.some.inj e')
      refine br_iff.2 ⟨fun hokt => ?_, fun _ => go _ (fun h => by cases h)⟩
      refine ⟨_, _, _, o6.rd 0 2 rfl (add_mk _ _ _) rfl, ?_⟩
      refine (hu.ext (he35.trans he6)).ix hj0 (by omega) fun a hca => ⟨_, hca, _, o6.rd 0 0 rfl rfl rfl, go _ fun h => ⟨hokt, by simpa using h⟩⟩
    · refine dr_step fun w6 _ he6 => ?_
      have o6 := o5.ext he6
      have he36 := he35.trans he6
      have hfr6 := hfr3.ext he36
      have hp6 := hp3.ext he36
      have skip : K ((p, (pl, pc)), IntKind.wrap .i64 (i + 1)) w6 := next hfr6 hg (by omega) ⟨_, hp6⟩
      refine br_iff.2 ⟨fun hokt => ?_, fun _ => skip⟩
      refine ⟨_, o6.rd 0 0 rfl rfl rfl, ?_⟩
      refine br_if (fun hpos => ?_) (fun _ => skip)
      have hge' : (ql : Int) ≤ j := by simp only [] at hge; omega
      have hnin : f.id ∉ f.refs := fun hin => by
        obtain ⟨x, hx⟩ := List.mem_iff_getElem?.1 hin
        have := (List.getElem?_eq_some_iff.1 hx).1
        exact hok hokt x (by omega) hx
      have hbe' : Behind fs f := by rcases hbe with h | h; omega; exact h
      have href' : ∀ r ∈ f.refs, r ∈ fs.map Fr.id := by rcases href with h | h; exact h; exact absurd h hnin
      have app : ∃ (n1 : Int) (n2 : Int) (p3 : Option Addr) (k4 k5 : Nat) (n6 n7 n8 : Int), cellsAt w6 ⟨m1, 0, none⟩ [.int .u32 n1, .int .i64 n2, .slice p3 k4 k5, .int .i64 n6, .int .i64 n7, .int .i64 n8] ∧
          al #[.int .u32 n1, .int .i64 n2, .slice p3 k4 k5, .int .i64 n6, .int .i64 n7, .int .i64 n8] 31 w6 fun m w7 => rnV Try.prog (Builtin.append_ #[25, 25] 25 #[.slice p pl pc, .slice (some ⟨m, 0, none⟩) 1 1]) w7 fun v w8 =>
            ∃ (p' : Option Addr) (k j : Nat), v = .slice p' k j ∧ K ((p', (k, j)), IntKind.wrap .i64 (i + 1)) w8 := by
        refine ⟨f.id, f.kind, q, ql, qc, f.size, f.play, f.dl, o6.all 0 rfl rfl, ?_⟩
        refine al_step fun m w7 hat7 he7 _ => ?_
        obtain ⟨vss, hr, hvl, h6, hv⟩ := hfr6.ext he7
        have hpl : pl = fs.length := hfr6.len
        have hp7 := hp6.ext he7
        refine append_step (news := f.vals q ql qc) und25 inf31 rfl (by decide) hr rfl (hat7.cellsAt _ 0 fun i hi => by
            have h : ∀ (x : List Value) (i : Nat) (hi : i < x.length), x.toArray[0 + i]? = some x[i] := fun x i hi => by simp [hi]
            exact h (f.vals q ql qc) i hi) (by simp [Value.oneCell', Fr.vals]) (by omega) (by omega) hp7.chg.size fun p' c' w8 hr8 hc8 => ?_
        refine ⟨p', _, c', rfl, ?_⟩
        refine next (fs' := fs ++ [f]) ⟨vss ++ [f.vals q ql qc], ?_, by simp [hvl], ?_, ?_⟩ (hg.snoc hbe' href') (by simp) ⟨_, hp7.step hc8 fun x hx => Row.base hr x hx⟩
        · rw [List.flatten_append, List.flatten_singleton]; exact hr8
        · intro v hv'
          rcases List.mem_append.1 hv' with h | h
          · exact h6 v h
          · simp at h; subst h; rfl
        · have hoff : Off (rowS (.slice p pl pc)) w7 23 := Row.off hr (by decide)
          intro x g hx
          by_cases hxl : x < fs.length
          · rw [List.getElem?_append_left hxl] at hx
            obtain ⟨q1, rl1, rc1, h1, h2⟩ := hv x g hx
            exact ⟨q1, rl1, rc1, by rw [List.getElem?_append_left (by omega)]; exact h1, h2.chg hc8 hoff⟩
          · have hxe : x = fs.length := by
              have := (List.getElem?_eq_some_iff.1 hx).1
              simp at this; omega
            subst hxe
            simp at hx; subst hx
            exact ⟨q, ql, qc, by rw [← hvl]; simp, (hu.ext (he36.trans he7)).chg hc8 hoff⟩
      have hpl : pl = fs.length := hfr6.len
      refine br_iff.2 ⟨fun _ => app, fun hne => ?_⟩
      refine ⟨_, o6.rd 0 5 rfl (add_mk _ _ _) rfl, ?_⟩
      have hne' : pl ≠ 0 := by simpa using hne
      rw [w64 (n := (pl : Int) - 1) (by omega) (by omega)]
      refine (hfr6.frames hfl2).ix (by omega) (by omega) fun a _ _ _ hca _ => ?_
      refine ⟨_, hca.get 5 rfl, ?_⟩
      exact br_iff.2 ⟨fun _ => app, fun _ => skip⟩
  · refine br_if (fun hlt => ?_) (fun _ => done w1 hfr ⟨_, hp⟩)
    refine cl_ret (Over_c hp) ?_
    rintro v w2 ⟨rfl, he2⟩
    refine ⟨_, rfl, ?_⟩
    exact br_iff.2 ⟨fun _ => ⟨hfr.ext he2, ⟨_, hp.ext he2⟩, hlt⟩, fun _ => done w2 (hfr.ext he2) ⟨_, hp.ext he2⟩⟩

theorem Made_c {p : Option Addr} {pl pc : Nat} (hi : Raw .u8 w p pl l) (hb : ∀ x ∈ l, 0 ≤ x ∧ x < 256) :
    Cs Try.prog gplay_Made_n #[.slice p pl pc] w (Ret fun v w' => ∃ b, v = .pointer (some ⟨b, 0, none⟩) ∧ PkS w' w' b (p, pl, pc) l 0 ∧ w.heap.size ≤ b ∧ Ext w w') := by
  apply gplay_Made_ok
  unfold gplay_Made
  exact al_step fun b w' hat he hbs => ⟨b, rfl, ⟨⟨_, hat⟩, ⟨hi.ext he, fun a ha hl => by have := hi.block ha hl; omega⟩, hb, hat, Chg.refl _ _⟩, hbs, he⟩
end
end Go.SR
