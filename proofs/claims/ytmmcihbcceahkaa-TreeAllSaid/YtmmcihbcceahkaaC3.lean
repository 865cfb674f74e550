/- Contracts: frames, and who hangs on whom. -/
import Derived.Test.YtmmcihbcceahkaaK2
namespace Go.SR
open Go Go.Proofs

/-- A frame. -/
structure Fr where
  id : Int
  kind : Int
  size : Int
  play : Int
  dl : Int
  refs : List Int

def Fr.vals (f : Fr) (p : Option Addr) (l c : Nat) : List Value := [.int .u32 f.id, .int .i64 f.kind, .slice p l c, .int .i64 f.size, .int .i64 f.play, .int .i64 f.dl]

/-- []api.Frame -/
def Frames (w : World) (p : Option Addr) (l : Nat) (fs : List Fr) : Prop :=
  (l = fs.length ∧ fs.length < 4611686018427387904) ∧ ∀ i f, fs[i]? = some f → ∃ q rl rc, AtI w p 31 (i * 6) (f.vals q rl rc) ∧ U32s w q rl f.refs

variable {w w' : World} {p : Option Addr} {l c : Nat} {fs : List Fr}

theorem Frames.len (h : Frames w p l fs) : l = fs.length := h.1.1
theorem Frames.lt (h : Frames w p l fs) : fs.length < 4611686018427387904 := h.1.2

theorem Frames.chg {S : Nat → Prop} (h : Frames w p l fs) (hc : Chg S w w') (h31 : Off S w 31) (h23 : Off S w 23) : Frames w' p l fs :=
  ⟨h.1, fun i f hf => by
    obtain ⟨q, rl, rc, ha, hu⟩ := h.2 i f hf
    exact ⟨q, rl, rc, ha.chg hc h31, hu.chg hc h23⟩⟩

theorem Frames.ext (h : Frames w p l fs) (he : Ext w w') : Frames w' p l fs := h.chg he Off.none Off.none

theorem Frames.nil : Frames w p 0 [] := ⟨⟨rfl, by simp⟩, fun i f h => by simp at h⟩

def fr0 : Fr := ⟨0, 0, 0, 0, 0, []⟩
/-- Frame i. -/
def gF (fs : List Fr) (i : Int) : Fr := fs.getD i.toNat fr0

theorem gF_get {i : Int} (h0 : 0 ≤ i) (h1 : i < fs.length) : fs[i.toNat]? = some (gF fs i) := by
  have h : i.toNat < fs.length := by omega
  simp [gF, List.getD_eq_getElem?_getD, List.getElem?_eq_getElem h]

theorem Frames.ix {i : Int} {F : Addr → Prop} (h : Frames w p l fs) (h0 : 0 ≤ i) (h1 : i < fs.length)
    (hF : ∀ a q rl rc, cellsAt w a ((gF fs i).vals q rl rc) → U32s w q rl (gF fs i).refs → F a) : ixa p l i 6 F := by
  obtain ⟨q, rl, rc, ha, hu⟩ := h.2 _ _ (gF_get h0 h1)
  exact ixa_at ha h0 (by rw [h.len]; exact h1) fun a hca => hF a q rl rc hca hu

/-- What is known of a frame's refs: those of the first of each ID. -/
def refsOf (fs : List Fr) (i : Int) : Option (List Int) :=
  match fs with
  | [] => none
  | f :: fs => if f.id = i then some f.refs else refsOf fs i

theorem refsOf_append (fs : List Fr) (f : Fr) (i : Int) : refsOf (fs ++ [f]) i = match refsOf fs i with | some r => some r | none => if f.id = i then some f.refs else none := by
  induction fs with
  | nil => simp [refsOf]
  | cons a fs ih =>
    simp only [List.cons_append, refsOf]
    split
    · rfl
    · exact ih

/-- The map of what is known. -/
def RefsM (w : World) (m : List (Int × Value)) (fs : List Fr) : Prop :=
  ∀ i, match refsOf fs i with
    | none => lk m i = none
    | some rs => ∃ q rl rc, lk m i = some (.slice q rl rc) ∧ U32s w q rl rs

theorem RefsM.chg {S : Nat → Prop} {m : List (Int × Value)} (h : RefsM w m fs) (hc : Chg S w w') (h23 : Off S w 23) : RefsM w' m fs := fun i => by
  have := h i
  split at this
  · exact this
  · obtain ⟨q, rl, rc, h1, h2⟩ := this
    exact ⟨q, rl, rc, h1, h2.chg hc h23⟩

theorem RefsM.ext {m : List (Int × Value)} (h : RefsM w m fs) (hc : Ext w w') : RefsM w' m fs := h.chg hc Off.none

theorem zc31 : (zc Try.prog 31).size = 6 := by kernel_rfl
theorem und93 : Try.prog.underlying 93 = some (.map 23 29) := by kernel_rfl
theorem und94 : Try.prog.underlying 94 = some (.map 23 4) := by kernel_rfl
theorem und23 : Try.prog.underlying 23 = some (.int .u32) := by kernel_rfl
theorem zero29 (w : World) : (zeroValue 29).run Try.prog w = .ok (.slice none 0 0) w := by
  have h : (Try.prog.info? 29).map (fun i => (i.zero, i.size, i.bytes)) = some (some (.slice none 0 0), 1, 24) := by kernel_rfl
  obtain ⟨i, hi, hz, _⟩ := info_parts h
  simp [zeroValue, typeInfo, hi, hz]
theorem zero4 (w : World) : (zeroValue 4).run Try.prog w = .ok (.bool false) w := by
  have h : (Try.prog.info? 4).map (fun i => (i.zero, i.size, i.bytes)) = some (some (.bool false), 1, 1) := by kernel_rfl
  obtain ⟨i, hi, hz, _⟩ := info_parts h
  simp [zeroValue, typeInfo, hi, hz]

/-- tree.climber, in its block: two maps. -/
theorem known_c (h : Frames w p l fs) :
    Cs Try.prog tree_known_n #[.slice p l c] w (Ret fun v w' => ∃ b rb sb m, v = .pointer (some ⟨b, 0, none⟩) ∧ At w' b #[.map (some rb), .map (some sb)] 96 ∧ MapAt w' rb .u32 m ∧ RefsM w' m fs ∧ MapAt w' sb .u32 [] ∧ rb ≠ sb ∧
      w.heap.size ≤ b ∧ w.heap.size ≤ rb ∧ w.heap.size ≤ sb ∧ Ext w w') := by
  apply tree_known_ok
  unfold tree_known
  refine nwo_step fun rb w1 h1 he1 hb1 => ?_
  refine nwo_step fun sb w2 h2 he2 hb2 => ?_
  have o1 : Own (fun _ => False) w w1 [(rb, MapO .u32 [])] := (Own.nil _ w).push he1 hb1 h1 (MapO.empty _)
  have o2 := o1.push he2 hb2 h2 (MapO.empty .u32)
  refine o2.al fun b w3 o3 he3 => ?_
  refine lp_step (fun n s w' => ∃ m, Own (fun _ => False) w w' [(rb, MapO .u32 m), (sb, MapO .u32 []), (b, CellsO #[.map (some rb), .map (some sb)] 96)] ∧ RefsM w' m (fs.take s.toNat) ∧ 0 ≤ s ∧ s ≤ fs.length ∧ n = (fs.length - s).toNat)
    fs.length ⟨[], o3, fun i => by simp [refsOf, lk], by omega, by omega, by omega⟩ ?_
  rintro n _ s w4 ⟨m, o4, hm, hs0, hs1, hn⟩ K hK
  have hl := h.len
  have hlt := h.lt
  refine br_if (fun hs => ?_) (fun hge => ?_)
  · have h4 := h.chg o4.chg Off.none Off.none
    refine h4.ix hs0 (by omega) fun a q rl rc hca hu => ?_
    refine ⟨_, _, _, _, _, _, _, _, hca, ?_⟩
    refine o4.box zc31.symm (by simp [Value.oneCell']) fun b5 w5 o5 he5 => ?_
    refine dr_step fun w6 hh6 he6 => ?_
    have o6 := o5.ext he6
    refine ⟨_, o6.rd 2 0 rfl rfl rfl, _, o6.rd 3 0 rfl rfl rfl, ?_⟩
    obtain ⟨⟨o, ho, hφ⟩, _⟩ := o6.here 0 rb _ rfl
    have hM : MapAt w6 rb .u32 m := ⟨o, ho, hφ⟩
    refine look_step und93 und23 zero29 hM fun _ => ?_
    have hfi := gF_get hs0 (show s < fs.length by omega)
    have htake : fs.take (s + 1).toNat = fs.take s.toNat ++ [gF fs s] := by
      rw [show (s + 1).toNat = s.toNat + 1 by omega, List.take_add_one, hfi]; rfl
    have hmi := (hm.ext (he5.trans he6)) (gF fs s).id
    have next : ∀ w7 m', Own (fun _ => False) w w7 [(rb, MapO .u32 m'), (sb, MapO .u32 []), (b, CellsO #[.map (some rb), .map (some sb)] 96)] → RefsM w7 m' (fs.take (s + 1).toNat) → K (IntKind.wrap .i64 (s + 1)) w7 := by
      intro w7 m' o7 hr7
      rw [w64 (by omega) (by omega)]
      exact hK _ _ _ (by omega) ⟨m', o7, hr7, by omega, by omega, rfl⟩
    cases hrf : refsOf (fs.take s.toNat) (gF fs s).id with
    | none =>
      rw [hrf] at hmi
      simp only [] at hmi
      refine ⟨none, 0, 0, false, by rw [hmi]; rfl, br_t ?_⟩
      refine dr_step fun w7 hh7 he7 => ?_
      have o7 := o6.ext he7
      refine ⟨_, o7.rd 2 0 rfl rfl rfl, _, o7.rd 3 0 rfl rfl rfl, _, _, _, o7.rd 3 2 rfl rfl rfl, ?_⟩
      refine update_step und93 und23 (hM.ext he7) fun w8 hM8 hc8 => ?_
      obtain ⟨o', ho', hφ'⟩ := hM8
      have o8 := o7.turn 0 rfl hc8 ho' hφ'
      refine next w8 _ (o8.take 3) ?_
      have hoff : Off (fun x => x = rb) w7 23 := Off.of_map (hM.ext he7)
      have hm8 := (hm.ext ((he5.trans he6).trans he7)).chg hc8 hoff
      have hu8 := (hu.ext ((he5.trans he6).trans he7)).chg hc8 hoff
      intro i
      rw [htake, refsOf_append, lk_ins]
      have hi := hm8 i
      by_cases e : i = (gF fs s).id
      · subst e
        rw [hrf] at hi ⊢
        simp only [if_true]
        exact ⟨_, _, _, rfl, hu8⟩
      · rw [if_neg e]
        cases hq : refsOf (fs.take s.toNat) i with
        | some r => rw [hq] at hi; exact hi
        | none => rw [hq] at hi; simp only [] at hi; rw [if_neg (fun e' => e e'.symm)]; exact hi
    | some r =>
      rw [hrf] at hmi
      obtain ⟨q', rl', rc', hlk, _⟩ := hmi
      refine ⟨q', rl', rc', true, by rw [hlk]; rfl, br_f ?_⟩
      refine next w6 m (o6.take 3) ?_
      have hm6 := hm.ext (he5.trans he6)
      intro i
      rw [htake, refsOf_append]
      have hi := hm6 i
      cases hq : refsOf (fs.take s.toNat) i with
      | some r => rw [hq] at hi; exact hi
      | none =>
        rw [hq] at hi; simp only [] at hi
        by_cases e : (gF fs s).id = i
        · rw [e] at hrf; rw [hrf] at hq; cases hq
        · simp only [if_neg e]; exact hi
  · have hss : s.toNat = fs.length := by omega
    rw [hss, List.take_length] at hm
    obtain ⟨⟨o, ho, hφ⟩, hb⟩ := o4.here 0 rb _ rfl
    obtain ⟨⟨o', ho', hφ'⟩, hb'⟩ := o4.here 1 sb _ rfl
    obtain ⟨_, hb''⟩ := o4.here 2 b _ rfl
    refine ⟨b, rb, sb, m, rfl, o4.at 2 rfl, ⟨o, ho, hφ⟩, hm, ⟨o', ho', hφ'⟩, ?_, ?_, ?_, ?_, o4.chg⟩
    · have := o4.apart
      simp at this
      exact this.1.1
    · rcases hb'' with h | h; exact h.elim; exact h
    · rcases hb with h | h; exact h.elim; exact h
    · rcases hb' with h | h; exact h.elim; exact h
end Go.SR
