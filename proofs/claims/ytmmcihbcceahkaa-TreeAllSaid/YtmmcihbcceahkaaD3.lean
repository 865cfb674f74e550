/- The document's answer: Find, told, Above, Below; girandolelaw14.TreeAll answers true. -/
import Derived.Test.YtmmcihbcceahkaaD1
import Derived.Test.YtmmcihbcceahkaaS4
import Derived.Test.YtmmcihbcceahkaaC5
namespace Go.SR
open Go Go.Proofs

theorem refsOf_first {fs : List Fr} {x : Int} : ∀ {i : Nat} {f : Fr}, fs[i]? = some f → f.id = x → (∀ j g, j < i → fs[j]? = some g → g.id ≠ x) → refsOf fs x = some f.refs := by
  induction fs with
  | nil => intro i f h; simp at h
  | cons a fs ih =>
    intro i f h hx hn
    unfold refsOf
    cases i with
    | zero => simp at h; subst h; rw [if_pos hx]
    | succ i =>
      rw [if_neg (hn 0 a (by omega) rfl)]
      exact ih (by simpa using h) hx fun j g hj hg => hn (j + 1) g (by omega) (by simpa using hg)

def addS (ss : List Int) (k : Int) : List Int := if k ∈ ss then ss else ss ++ [k]

theorem mem_addS {ss : List Int} {k y : Int} : y ∈ addS ss k ↔ y ∈ ss ∨ y = k := by
  unfold addS
  split
  · rename_i h
    exact ⟨.inl, fun h' => by rcases h' with h' | rfl; exact h'; exact h⟩
  · simp

theorem ins_addS {ss : List Int} {k : Int} : ins (seenM ss) k (.bool true) = seenM (addS ss k) := by
  unfold addS
  split
  · rename_i h
    induction ss with
    | nil => simp at h
    | cons a ss ih =>
      simp only [seenM, List.map_cons, ins]
      by_cases ha : a = k
      · simp [ha]
      · rw [if_neg ha]
        have := ih ((List.mem_cons.1 h).resolve_left fun e => ha e.symm)
        simp only [seenM] at this
        rw [this]
  · rename_i h; exact ins_seen h

section
variable {w : World} {fs : List Fr} {p : Option Addr} {l c : Nat}

theorem Find_c {x : Int} (h : Frames w p l fs) :
    Cs Try.prog gref12_Find_n #[.slice p l c, .int .u32 x] w (Ret fun v w' => ∃ (f : Fr) (q : Option Addr) (rl rc : Nat), v = .tuple #[.agg #[.int .u32 f.id, .int .i64 f.kind, .slice q rl rc, .int .i64 f.size, .int .i64 f.play, .int .i64 f.dl], .bool (refsOf fs x).isSome] ∧
      f.refs = (refsOf fs x).getD [] ∧ U32s w' q rl f.refs ∧ Ext w w') := by
  apply gref12_Find_ok
  unfold gref12_Find
  have hlen := h.len
  have hlt := h.lt
  refine (Own.nil (fun _ => False) w).al fun m0 w1 o1 _ => ?_
  refine lp_step (fun n i w' => Own (fun _ => False) w w' [(m0, CellsO (zc Try.prog 31) 31)] ∧ 0 ≤ i ∧ i ≤ fs.length ∧ (∀ (j : Nat) g, (j : Int) < i → fs[j]? = some g → g.id ≠ x) ∧ n = ((fs.length : Int) - i).toNat)
    _ ⟨o1, by omega, by omega, fun j g hj => by omega, rfl⟩ ?_
  rintro n _ i w2 ⟨o2, hi0, hi1, hI, hn⟩ K hK
  have h2 := h.chg o2.chg Off.none Off.none
  refine br_if (fun hlt' => ?_) (fun hge => ?_)
  · have hi : i < fs.length := by omega
    have hgi := gF_get hi0 hi
    refine h2.ix hi0 hi fun a q rl rc hca hu => ⟨_, hca.get0, ?_⟩
    refine br_iff.2 ⟨fun he => ?_, fun hne => ?_⟩
    · have he' : (gF fs i).id = x := by simpa using he
      have hro := refsOf_first hgi he' fun j g hj hg => hI j g (by omega) hg
      refine h2.ix hi0 hi fun a q rl rc hca hu => ?_
      refine ⟨_, _, _, _, _, _, _, _, hca, ?_⟩
      refine o2.stN 0 rfl zc31.symm (by simp [Value.oneCell']) fun w3 o3 hc3 => ?_
      refine ⟨_, _, _, _, _, _, _, _, o3.all 0 rfl rfl, ?_⟩
      refine ⟨gF fs i, q, rl, rc, by rw [hro]; rfl, by rw [hro]; rfl, hu.chg hc3 (Off.of_at (o2.at 0 rfl) (by decide)), o3.chg⟩
    · have hne' : (gF fs i).id ≠ x := by simpa using hne
      rw [w64 (by omega) (by omega)]
      refine hK _ _ _ (by omega) ⟨o2, by omega, by omega, fun j g hj hg => ?_, rfl⟩
      by_cases e : (j : Int) < i
      · exact hI j g e hg
      · have : i.toNat = j := by omega
        rw [← this, hgi] at hg
        cases hg; exact hne'
  · have hro : refsOf fs x = none := by
      cases hr : refsOf fs x with
      | none => rfl
      | some r =>
        obtain ⟨f, hf, e⟩ := List.mem_map.1 (refsOf_known.1 (by rw [hr]; rfl : (refsOf fs x).isSome))
        obtain ⟨j, hj⟩ := List.mem_iff_getElem?.1 hf
        have := (List.getElem?_eq_some_iff.1 hj).1
        exact absurd e (hI j f (by omega) hj)
    refine o2.stN 0 rfl zc31.symm (by simp [Value.oneCell']) fun w3 o3 hc3 => ?_
    refine ⟨0, 0, none, 0, 0, 0, 0, 0, o3.all 0 rfl rfl, ?_⟩
    exact ⟨fr0, none, 0, 0, by rw [hro]; rfl, by rw [hro]; rfl, Ints.nil, o3.chg⟩

theorem told_c {b : Nat} {mk : List Int} {x : Int} (h : Frames w p l fs) (hm : MapAt w b .u32 (seenM mk)) (hsmall : fs.length ≤ 1000000) :
    Cs Try.prog gref12_told_n #[.slice p l c, .map (some b), .int .u32 x] w (Ret fun v w' => ∃ q ql qc, v = .slice q ql qc ∧ RowI w' w.heap.size q ql qc ((fs.map Fr.id).filter fun y => y ∈ mk ∧ y ≠ x) ∧ Ext w w') := by
  apply gref12_told_ok
  unfold gref12_told
  have hlen := h.len
  have hlt := h.lt
  refine lp_step (fun n st w' => RowI w' w.heap.size st.1.1 st.1.2.1 st.1.2.2 (((fs.map Fr.id).take st.2.toNat).filter fun y => y ∈ mk ∧ y ≠ x) ∧ Ext w w' ∧ 0 ≤ st.2 ∧ st.2 ≤ fs.length ∧ n = ((fs.length : Int) - st.2).toNat)
    _ ⟨Row.nil, Ext.refl _, by simp, by simp, rfl⟩ ?_
  rintro n _ ⟨⟨rp, rl, rc⟩, i⟩ w1 ⟨hr, he1, hi0, hi1, hn⟩ K hK
  simp only [] at hr hi0 hi1 hn
  have hrl := hr.lenI
  have hrle : rl ≤ fs.length := by
    have h1 := List.length_filter_le (fun y => decide (y ∈ mk ∧ y ≠ x)) ((fs.map Fr.id).take i.toNat)
    have h2 : ((fs.map Fr.id).take i.toNat).length ≤ fs.length := by rw [List.length_take]; simp; omega
    omega
  have h1 := h.ext he1
  refine br_if (fun hlt' => ?_) (fun hge => ?_)
  · have hi : i < fs.length := by simp only [] at hlt'; omega
    have hgi := gF_get hi0 hi
    have htk : (fs.map Fr.id).take (i + 1).toNat = (fs.map Fr.id).take i.toNat ++ [(gF fs i).id] := by
      rw [show (i + 1).toNat = i.toNat + 1 by omega]
      exact take_snoc (by rw [List.getElem?_map, hgi]; rfl)
    have next : ∀ {w2 rp' rl' rc'}, RowI w2 w.heap.size rp' rl' rc' (((fs.map Fr.id).take i.toNat).filter (fun y => y ∈ mk ∧ y ≠ x) ++ if (gF fs i).id ∈ mk ∧ (gF fs i).id ≠ x then [(gF fs i).id] else []) → Ext w w2 → K ((rp', (rl', rc')), IntKind.wrap .i64 (i + 1)) w2 := by
      intro w2 rp' rl' rc' hr2 he2
      rw [w64 (by omega) (by omega)]
      refine hK _ _ _ (by omega) ⟨?_, he2, by simp only []; omega, by simp only []; omega, rfl⟩
      simp only []
      rw [htk, List.filter_append]
      have e : List.filter (fun y => decide (y ∈ mk ∧ y ≠ x)) [(gF fs i).id] = if (gF fs i).id ∈ mk ∧ (gF fs i).id ≠ x then [(gF fs i).id] else [] := by
        rw [List.filter_cons]
        by_cases h : (gF fs i).id ∈ mk ∧ (gF fs i).id ≠ x
        · rw [if_pos (by simpa using h), if_pos h]; rfl
        · rw [if_neg (by simpa using h), if_neg h]; rfl
      rw [e]; exact hr2
    refine h1.ix hi0 hi fun a1 _ _ _ ha1 _ => ⟨_, ha1.get0, ?_⟩
    refine look_step und94 und23 zero4 (hm.ext he1) fun _ => ?_
    by_cases hmem : (gF fs i).id ∈ mk
    · refine ⟨true, by rw [lk_seen, if_pos hmem]; rfl, br_t ?_⟩
      refine h1.ix hi0 hi fun a2 _ _ _ ha2 _ => ⟨_, ha2.get0, ?_⟩
      refine br_iff.2 ⟨fun hne => ?_, fun heq => ?_⟩
      · have hne' : (gF fs i).id ≠ x := by simpa using hne
        refine h1.ix hi0 hi fun a3 _ _ _ ha3 _ => ⟨_, ha3.get0, ?_⟩
        refine al_step fun m w2 hat he2 _ => ?_
        refine append_step (news := [.int .u32 (gF fs i).id]) und29 inf23 rfl (by decide) (Row.ext hr he2) rfl (hat.cellsAt _ 0 fun i hi => by simp at hi; subst hi; rfl) (by simp [Value.oneCell']) (by simp only []; omega) (by simp only []; omega) (he1.trans he2).size fun p' c' w3 hr3 hc3 => ?_
        refine ⟨p', _, c', rfl, next ?_ (Ext.then (he1.trans he2) hc3 fun x hx => Row.base (Row.ext hr he2) x hx)⟩
        rw [if_pos ⟨hmem, hne'⟩]
        unfold RowI
        rw [List.map_append]; exact hr3
      · have heq' : (gF fs i).id = x := by simpa using heq
        refine next ?_ he1
        rw [if_neg (fun h => h.2 heq'), List.append_nil]; exact hr
    · refine ⟨false, by rw [lk_seen, if_neg hmem]; rfl, br_f (next ?_ he1)⟩
      rw [if_neg (fun h => hmem h.1), List.append_nil]; exact hr
  · have : (fs.map Fr.id).take i.toNat = fs.map Fr.id := by
      rw [List.take_of_length_le]; simp only [] at hge; simp; omega
    rw [this] at hr
    exact ⟨rp, rl, rc, rfl, hr, he1⟩

theorem asc_filter {xs : List Int} (h : Asc xs) (q : Int → Bool) : Asc (xs.filter q) := h.sublist List.filter_sublist

theorem refAbove_c {x : Int} (h : Frames w p l fs) (hG : Good fs) (hsmall : fs.length ≤ 1000000) :
    Cs Try.prog gref12_Above_n #[.slice p l c, .int .u32 x] w (Ret fun v w' => ∃ q ql qc ks, v = .slice q ql qc ∧ RowI w' w.heap.size q ql qc ks ∧ AboveL fs x ks ∧ Ext w w') := by
  apply gref12_Above_ok
  unfold gref12_Above
  have hlen := h.len
  have hlt := h.lt
  refine nwo_step fun mb w1 h1 he1 hb1 => ?_
  have o1 : Own (fun _ => False) w w1 [(mb, MapO .u32 (seenM []))] := (Own.nil _ w).push he1 hb1 h1 (MapO.empty _)
  refine cl_ret (Find_c (h.ext he1)) ?_
  rintro v w2 ⟨f, q, rl, rc, rfl, href, hu, he2⟩
  refine ⟨_, _, _, _, _, _, _, _, _, rfl, ?_⟩
  have o2 := o1.ext he2
  refine o2.box zc31.symm (by simp [Value.oneCell']) fun m1 w3 o3 he3 => ?_
  have hkr : ∀ r, r ∈ kr fs x ↔ r ∈ f.refs ∧ (refsOf fs r).isSome := fun r => by rw [kr, List.mem_filter, ← href]
  have hul := hu.len
  have hult := hu.lt
  have hu3 := hu.ext he3
  -- what is marked
  let L : List Int → List (Nat × (Obj → Prop)) := fun mk => [(mb, MapO .u32 (seenM mk)), (m1, CellsO #[.int .u32 f.id, .int .i64 f.kind, .slice q rl rc, .int .i64 f.size, .int .i64 f.play, .int .i64 f.dl] 31)]
  have mapAt : ∀ {w' mk}, Own (fun _ => False) w w' (L mk) → MapAt w' mb .u32 (seenM mk) := fun o => (o.here 0 mb _ rfl).1
  have upd : ∀ {w' w'' mk k}, Own (fun _ => False) w w' (L mk) → MapAt w'' mb .u32 (ins (seenM mk) k (.bool true)) → Chg (fun y => y = mb) w' w'' → Own (fun _ => False) w w'' (L (addS mk k)) := by
    intro w' w'' mk k o hm hc
    rw [ins_addS] at hm
    obtain ⟨o', ho', hφ⟩ := hm
    exact o.turn 0 rfl hc ho' hφ
  have frames : ∀ {w' mk}, Own (fun _ => False) w w' (L mk) → Frames w' p l fs := fun o => h.chg o.chg Off.none Off.none
  have find : ∀ {w' mk} (k : Int), Own (fun _ => False) w w' (L mk) → Cs Try.prog gref12_Find_n #[.slice p l c, .int .u32 k] w' (Ret fun v w'' => ∃ (f : Fr) (q : Option Addr) (rl rc : Nat),
      v = .tuple #[.agg #[.int .u32 f.id, .int .i64 f.kind, .slice q rl rc, .int .i64 f.size, .int .i64 f.play, .int .i64 f.dl], .bool (refsOf fs k).isSome] ∧ Ext w' w'') := fun k o => (Find_c (frames o)).ret fun _ _ ⟨f, q, rl, rc, h1, _, _, h4⟩ => ⟨f, q, rl, rc, h1, h4⟩
  refine lp_step (fun n i w' => ∃ mk, Own (fun _ => False) w w' (L mk) ∧ U32s w' q rl f.refs ∧ (∀ y ∈ mk, Up fs x y) ∧ (∀ (j : Nat) r, (j : Int) < i → f.refs[j]? = some r → (refsOf fs r).isSome → r ∈ mk) ∧ 0 ≤ i ∧ i ≤ rl ∧ n = ((rl : Int) - i).toNat)
    _ ⟨[], o3, hu3, fun y hy => by simp at hy, fun j r hj => by omega, by omega, by omega, rfl⟩ ?_
  rintro n _ i w4 ⟨mk, o4, hu4, hsound, hI, hi0, hi1, hn⟩ K hK
  refine ⟨_, _, _, o4.rd 1 2 rfl (add_mk _ _ _) rfl, ?_⟩
  refine br_if (fun hlt' => ?_) (fun hge => ?_)
  · refine ⟨_, _, _, o4.rd 1 2 rfl (add_mk _ _ _) rfl, ?_⟩
    have hgi := gI_get (xs := f.refs) hi0 (by omega)
    refine hu4.ix hi0 (by omega) fun a ha => ⟨_, ha, ?_⟩
    generalize gI f.refs i = r at hgi ⊢
    refine cl_ret (find r o4) ?_
    rintro v w5 ⟨f5, q5, rl5, rc5, rfl, he5⟩
    refine ⟨_, _, _, _, _, _, _, _, _, rfl, ?_⟩
    refine box_step zc31.symm (by simp [Value.oneCell']) fun m5 w6 _ he6 _ => ?_
    have o6 := (o4.ext he5).ext he6
    have hu6 := hu4.ext (he5.trans he6)
    have next : ∀ {w7 mk'}, Own (fun _ => False) w w7 (L mk') → U32s w7 q rl f.refs → (∀ y ∈ mk', Up fs x y) → (∀ y ∈ mk, y ∈ mk') → ((refsOf fs r).isSome → r ∈ mk') → K (IntKind.wrap .i64 (i + 1)) w7 := by
      intro w7 mk' q1 q2 q3 q4 q5
      rw [w64 (by omega) (by omega)]
      refine hK _ _ _ (by omega) ⟨mk', q1, q2, q3, fun j r' hj hr' hk => ?_, by omega, by omega, rfl⟩
      by_cases e : (j : Int) < i
      · exact q4 _ (hI j r' e hr' hk)
      · have : i.toNat = j := by omega
        rw [this, hr'] at hgi; cases hgi; exact q5 hk
    refine br_iff.2 ⟨fun hk => ?_, fun hk => next o6 hu6 hsound (fun _ h => h) (fun h => by rw [hk] at h; cases h)⟩
    refine ⟨_, _, _, o6.rd 1 2 rfl (add_mk _ _ _) rfl, ?_⟩
    refine hu6.ix hi0 (by omega) fun a2 ha2 => ⟨_, ha2, ?_⟩
    have hgi2 := gI_get (xs := f.refs) hi0 (by omega)
    rw [hgi] at hgi2
    rw [← Option.some.inj hgi2]
    refine update_step und94 und23 (mapAt o6) fun w7 hm7 hc7 => ?_
    refine next (upd o6 hm7 hc7) (hu6.chg hc7 (Off.of_map (mapAt o6))) (fun y hy => ?_) (fun y hy => mem_addS.2 (.inl hy)) (fun _ => mem_addS.2 (.inr rfl))
    rcases mem_addS.1 hy with hy | rfl
    · exact hsound y hy
    · exact .one ((hkr _).2 ⟨List.mem_of_getElem? hgi, hk⟩)
  · have hinit : ∀ r ∈ kr fs x, r ∈ mk := fun r hr => by
      obtain ⟨h1, h2⟩ := (hkr r).1 hr
      obtain ⟨j, hj⟩ := List.mem_iff_getElem?.1 h1
      have := (List.getElem?_eq_some_iff.1 hj).1
      exact hI j r (by omega) hj h2
    -- until nothing is marked anew
    refine lp_step (fun n again w' => ∃ mk, Own (fun _ => False) w w' (L mk) ∧ (∀ y ∈ mk, Up fs x y) ∧ (∀ r ∈ kr fs x, r ∈ mk) ∧ (again = false → ∀ y ∈ mk, ∀ z ∈ kr fs y, z ∈ mk) ∧ n = cnt fs mk + if again then 1 else 0)
      _ ⟨mk, o4, hsound, hinit, fun h => (by cases h), rfl⟩ ?_
    clear hI hi0 hi1 hn hsound hinit hge o4 hu4 hK K
    clear mk w4 i n
    rintro n _ again w4 ⟨mk0, o4, hsound, hinit, hclo, hn⟩ K hK
    refine br_iff.2 ⟨fun hag => ?_, fun hag => ?_⟩
    · subst hag
      simp only [if_true] at hn
      refine lp_step (fun n st w' => ∃ mk, Own (fun _ => False) w w' (L mk) ∧ (∀ y ∈ mk, Up fs x y) ∧ (∀ r ∈ kr fs x, r ∈ mk) ∧ (st.1 = false → mk = mk0 ∧ ∀ (j : Nat) f, (j : Int) < st.2 → fs[j]? = some f → f.id ∈ mk → ∀ z ∈ kr fs f.id, z ∈ mk) ∧
          (st.1 = true → cnt fs mk < cnt fs mk0) ∧ cnt fs mk ≤ cnt fs mk0 ∧ 0 ≤ st.2 ∧ st.2 ≤ fs.length ∧ n = ((fs.length : Int) - st.2).toNat)
        _ ⟨mk0, o4, hsound, hinit, fun _ => ⟨rfl, fun j f hj => by simp only [] at hj; omega⟩, fun h => (by cases h), Nat.le_refl _, by simp, by simp, rfl⟩ ?_
      rintro n2 _ ⟨ag, i⟩ w5 ⟨mk, o5, hs5, hi5, hf5, ht5, hle5, hi0, hi1, hn2⟩ K2 hK2
      simp only [] at hf5 ht5 hi0 hi1 hn2
      refine br_if (fun hlt' => ?_) (fun hge => ?_)
      · have hi : i < fs.length := by simp only [] at hlt'; omega
        have hgi := gF_get hi0 hi
        generalize hfi : gF fs i = fi at hgi
        have hkri := kr_get hG hgi
        have hdec : ((fs.length : Int) - (i + 1)).toNat < n2 := by omega
        refine lp_step (fun n st w' => ∃ mk, Own (fun _ => False) w w' (L mk) ∧ (∀ y ∈ mk, Up fs x y) ∧ (∀ r ∈ kr fs x, r ∈ mk) ∧ (st.1 = false → mk = mk0 ∧ (∀ (j : Nat) f, (j : Int) < i → fs[j]? = some f → f.id ∈ mk → ∀ z ∈ kr fs f.id, z ∈ mk) ∧ ∀ (j : Nat) r, (j : Int) < st.2 → fi.refs[j]? = some r → r ∈ mk) ∧
            (st.1 = true → cnt fs mk < cnt fs mk0) ∧ cnt fs mk ≤ cnt fs mk0 ∧ 0 ≤ st.2 ∧ st.2 ≤ fi.refs.length ∧ n = ((fi.refs.length : Int) - st.2).toNat)
          _ ⟨mk, o5, hs5, hi5, fun h => ⟨(hf5 h).1, (hf5 h).2, fun j r hj => by simp only [] at hj; omega⟩, ht5, hle5, by simp, by simp, rfl⟩ ?_
        clear hf5 ht5 hle5 hs5 hi5 o5 hn2
        clear mk w5
        rintro n3 _ ⟨ag, k⟩ w5 ⟨mk, o5, hs5, hi5, hf5, ht5, hle5, hk0, hk1, hn3⟩ K3 hK3
        simp only [] at hf5 ht5 hk0 hk1 hn3
        have hF5 := frames o5
        -- the frame is done
        have out : (fi.id ∈ mk → (fi.refs.length : Int) ≤ k) → K2 (ag, IntKind.wrap .i64 (i + 1)) w5 := by
          intro hout
          rw [w64 (by omega) (by omega)]
          refine hK2 _ _ _ hdec ⟨mk, o5, hs5, hi5, fun hf => ⟨(hf5 hf).1, fun j f hj hjf hin z hz => ?_⟩, ht5, hle5, by simp only []; omega, by simp only []; omega, rfl⟩
          simp only [] at hj
          by_cases e : (j : Int) < i
          · exact (hf5 hf).2.1 j f e hjf hin z hz
          · have : i.toNat = j := by omega
            rw [← this, hgi] at hjf
            cases hjf
            rw [hkri] at hz
            obtain ⟨m, hm⟩ := List.mem_iff_getElem?.1 hz
            have hml := (List.getElem?_eq_some_iff.1 hm).1
            have := hout hin
            exact (hf5 hf).2.2 m z (by omega) hm
        refine jn_step (fun _ w' => w' = w5 ∧ fi.id ∈ mk ∧ k < fi.refs.length) ?_ ?_
        · rintro _ _ w5' ⟨e5, hin, hkl⟩
          rw [e5]; clear e5 w5'
          refine hF5.ix hi0 hi fun a rq rl' rc' hca hu5 => ?_
          rw [hfi] at hca hu5
          have hrlt := hu5.lt
          refine ⟨_, _, _, hca.get 2 rfl, ?_⟩
          have hgk := gI_get hk0 hkl
          refine hu5.ix hk0 hkl fun a2 ha2 => ⟨_, ha2, ?_⟩
          generalize hrr : gI fi.refs k = r at hgk
          refine cl_ret (find r o5) ?_
          rintro v w6 ⟨f6, q6, rl6, rc6, rfl, he6⟩
          refine ⟨_, _, _, _, _, _, _, _, _, rfl, ?_⟩
          refine box_step zc31.symm (by simp [Value.oneCell']) fun m6 w7 _ he7 _ => ?_
          have o7 := (o5.ext he6).ext he7
          have hF7 := frames o7
          have hknown : (refsOf fs r).isSome = true := by
            obtain ⟨j, _, g, hg, e⟩ := hG.2 _ _ hgi r (List.mem_of_getElem? hgk)
            rw [← e, refsOf_get hG.1.1 hg]; rfl
          rw [hknown]
          refine br_t ?_
          refine hF7.ix hi0 hi fun a3 _ _ _ hca3 hu7 => ?_
          rw [hfi] at hca3 hu7
          refine ⟨_, _, _, hca3.get 2 rfl, ?_⟩
          refine hu7.ix hk0 hkl fun a4 ha4 => ⟨_, ha4, ?_⟩
          rw [hrr]
          refine look_step und94 und23 zero4 (mapAt o7) fun _ => ?_
          by_cases hmem : r ∈ mk
          · refine ⟨true, by rw [lk_seen, if_pos hmem]; rfl, br_f ?_⟩
            rw [w64 (by omega) (by omega)]
            refine hK3 _ _ _ (by omega) ⟨mk, o7, hs5, hi5, fun hf => ⟨(hf5 hf).1, (hf5 hf).2.1, fun j r' hj hr' => ?_⟩, ht5, hle5, by simp only []; omega, by simp only []; omega, rfl⟩
            simp only [] at hj
            by_cases e : (j : Int) < k
            · exact (hf5 hf).2.2 j r' e hr'
            · have : k.toNat = j := by omega
              rw [← this, hgk] at hr'; cases hr'; exact hmem
          · refine ⟨false, by rw [lk_seen, if_neg hmem]; rfl, br_t ?_⟩
            refine hF7.ix hi0 hi fun a5 _ _ _ hca5 hu7' => ?_
            rw [hfi] at hca5 hu7'
            refine ⟨_, _, _, hca5.get 2 rfl, ?_⟩
            refine hu7'.ix hk0 hkl fun a6 ha6 => ⟨_, ha6, ?_⟩
            rw [hrr]
            refine update_step und94 und23 (mapAt o7) fun w8 hm8 hc8 => ?_
            have hadd : addS mk r = mk ++ [r] := by unfold addS; rw [if_neg hmem]
            have hlt8 : cnt fs (addS mk r) < cnt fs mk := by rw [hadd]; exact cnt_lt (refsOf_known.1 hknown) hmem
            rw [w64 (by omega) (by omega)]
            refine hK3 _ _ _ (by omega) ⟨addS mk r, upd o7 hm8 hc8, fun y hy => ?_, fun r' hr' => mem_addS.2 (.inl (hi5 r' hr')), fun hf => (by cases hf), fun _ => by omega, by omega, by simp only []; omega, by simp only []; omega, rfl⟩
            rcases mem_addS.1 hy with hy | rfl
            · exact hs5 y hy
            · exact (hs5 _ hin).trans' (.one (by rw [hkri]; exact List.mem_of_getElem? hgk))
        · refine hF5.ix hi0 hi fun a _ _ _ ha _ => ⟨_, ha.get0, ?_⟩
          rw [hfi]
          refine look_step und94 und23 zero4 (mapAt o5) fun _ => ?_
          by_cases hmem : fi.id ∈ mk
          · refine ⟨true, by rw [lk_seen, if_pos hmem]; rfl, br_t ?_⟩
            refine hF5.ix hi0 hi fun a2 _ _ _ ha2 hu2 => ?_
            rw [hfi] at ha2 hu2
            refine ⟨_, _, _, ha2.get 2 rfl, ?_⟩
            have := hu2.len
            exact br_if (fun hk => ⟨rfl, hmem, by simp only [] at hk; omega⟩) (fun hk => out fun _ => by simp only [] at hk; omega)
          · exact ⟨false, by rw [lk_seen, if_neg hmem]; rfl, br_f (out fun h => absurd h hmem)⟩
      · have hif : i = fs.length := by simp only [] at hge; omega
        refine hK (cnt fs mk + if ag then 1 else 0) _ _ ?_ ⟨mk, o5, hs5, hi5, fun hf y hy z hz => ?_, rfl⟩
        · cases ag
          · simp only [Bool.false_eq_true, if_false]; omega
          · have := ht5 rfl; simp only [if_true]; omega
        · obtain ⟨e, hcl⟩ := hf5 hf
          obtain ⟨g, hg, rfl⟩ := List.mem_map.1 (hs5 y hy).known
          obtain ⟨j, hj⟩ := List.mem_iff_getElem?.1 hg
          have := (List.getElem?_eq_some_iff.1 hj).1
          exact hcl j g (by omega) hj hy z hz
    · have hmem : ∀ y, y ∈ mk0 ↔ Up fs x y := fun y => ⟨hsound y, fun hup => hup.closed (S := fun y => y ∈ mk0) hinit (hclo hag)⟩
      refine cl_ret (told_c (frames o4) (mapAt o4) hsmall) ?_
      rintro v w5 ⟨rq, rql, rqc, rfl, hr5, he5⟩
      refine ⟨_, _, _, rfl, rq, rql, rqc, _, rfl, ⟨hr5.1, ?_⟩, ⟨asc_filter hG.1.1 _, fun y => ?_⟩, o4.chg.trans he5⟩
      · rcases hr5.2 with h | ⟨g, cap, cur, h1, h2, h3⟩
        · exact .inl h
        · exact .inr ⟨g, cap, cur, h1, Nat.le_trans o4.chg.size h2, h3⟩
      · rw [List.mem_filter]
        simp only [decide_eq_true_eq, hmem]
        exact ⟨fun h => h.2, fun h => ⟨h.1.known, h⟩⟩
end
end Go.SR
