/- Contracts: shelf.room. -/
import Derived.Test.YtmmcihbcceahkaaG2
namespace Go.SR
open Go Go.Proofs

theorem und159 : Try.prog.underlying 159 = some (.slice 65) := by kernel_rfl
theorem inf65 : (Try.prog.info? 65).map (fun i => (i.zero, i.size, i.bytes)) = some (some (.agg #[.int .u32 0, .int .i64 0, .int .i64 0]), 3, 24) := by kernel_rfl
theorem siz65 : (Try.prog.info? 65).map (·.size) = some 3 := by kernel_rfl

/-- Who goes, of those in order, for one who comes. -/
def roomF (frames most : Int) (who : Wn) : List Wn → Int → Option (List Int)
  | [], by' => if 0 ≥ frames ∨ by' + who.bytes > most then none else some []
  | x :: S, by' => if ((S.length : Int) + 1 ≥ frames ∨ by' + who.bytes > most) then (if wrs x who then (roomF frames most who S (by' - x.bytes)).map (x.id :: ·) else none) else some []

def wnB (symbol : Int) (b : Blk) : Wn := ⟨b.id, b.rank, byB symbol b⟩
def wnK (symbol : Int) (L : List Blk) (k : Int) : Wn := match fnd L k with | some b => wnB symbol b | none => ⟨k, 0, 0⟩

/-- A slice that reads so. -/
def Wnr (w : World) (p : Option Addr) (l c : Nat) (S : List Wn) : Prop := l = S.length ∧ l ≤ c ∧ ∀ (i : Nat) x, S[i]? = some x → AtI w p 65 (i * 3) (encW x)

section
variable {w w' : World} {s f sm : Nat} {frames bytes symbol : Int} {L : List Blk}

theorem Wnr.chg {T : Nat → Prop} {p : Option Addr} {l c : Nat} {S : List Wn} (h : Wnr w p l c S) (hc : Chg T w w') (hT : Off T w 65) : Wnr w' p l c S := ⟨h.1, h.2.1, fun i x hx => (h.2.2 i x hx).chg hc hT⟩
theorem Wnr.ext {p : Option Addr} {l c : Nat} {S : List Wn} (h : Wnr w p l c S) (hc : Ext w w') : Wnr w' p l c S := h.chg hc Off.none

theorem Wnr.tail {p : Option Addr} {l c : Nat} {x : Wn} {S : List Wn} (h : Wnr w p l c (x :: S)) : Wnr w (sla p c 1 3) (l - 1) (c - 1) S := by
  obtain ⟨h1, h2, h3⟩ := h
  simp at h1
  refine ⟨by omega, by omega, fun i y hy => ?_⟩
  have hi := (List.getElem?_eq_some_iff.1 hy).1
  obtain ⟨b, off, cs, fl, rfl, hb, hv⟩ := h3 (i + 1) y (by simpa using hy)
  refine ⟨b, off + 3, cs, fl, ?_, hb, fun j v hj => ?_⟩
  · simp only [sla]
    rw [if_neg (by omega)]
    simp [add_mk]
  · have := hv j v hj
    rw [show off + 3 + i * 3 + j = off + (i + 1) * 3 + j by omega]; exact this

theorem RowW.wnr {base : Nat} {p : Option Addr} {l c : Nat} {S : List Wn} (h : RowW w base p l c S) : Wnr w p l c S := by
  refine ⟨h.lenW, ?_, fun i x hx => ?_⟩
  · rcases h.2 with ⟨h1, _⟩ | ⟨g, cap, cur, h1, _, _, h3, _⟩
    · cases h1; simp
    · cases h1; exact h3
  · have hi := (List.getElem?_eq_some_iff.1 hx).1
    have e : S[i]! = x := by rw [getElem!_pos S i hi]; exact (List.getElem?_eq_some_iff.1 hx).2
    refine Row.at h _ _ (fun j u hj => ?_) (by simp [encW])
    have hj3 : j < 3 := by have := (List.getElem?_eq_some_iff.1 hj).1; simpa [encW] using this
    rw [flatW_get S i j hi hj3, e]; exact hj

theorem IterAt.row {r b : Nat} {q : IntKind} {m : List (Int × Value)} {left : List Int} {base : Nat} {e : TypeId} {sz : Nat} {p : Option Addr} {l c : Nat} {vs : List Value} (h : IterAt w r b q m left) (hr : Row w base e sz p l c vs) (hc : Chg (rowS (.slice p l c)) w w') : IterAt w' r b q m left := by
  refine h.chg hc (fun hS => ?_) (fun hS => ?_)
  · obtain ⟨cs, hA⟩ := hr.cells r hS
    exact h.nc _ _ _ _ hA rfl
  · obtain ⟨cs, hA⟩ := hr.cells b hS
    exact h.map.ne_at hA rfl

theorem wnK_mem {symbol : Int} {b : Blk} (hn : (L.map Blk.id).Nodup) (hb : b ∈ L) : wnK symbol L b.id = wnB symbol b := by simp [wnK, fnd_mem hn hb]

theorem room_c (h : ShelfAt w s f sm frames bytes symbol L) {who : Wn} (hw0 : 0 ≤ who.bytes) (hw1 : who.bytes ≤ 2048) :
    Cs Try.prog shelf_Shelf_room_n #[.pointer (some ⟨s, 0, none⟩), .agg #[.int .u32 who.id, .int .i64 who.rank, .int .i64 who.bytes]] w (Ret fun v w' => Ext w w' ∧ ∃ S, S.Perm (L.map (wnB symbol)) ∧ S.Pairwise (fun a b => wrs b a = false) ∧
      match roomF frames bytes who S (bsum symbol L) with
      | none => v = .tuple #[.slice none 0 0, .bool false]
      | some g => ∃ p l c, v = .tuple #[.slice p l c, .bool true] ∧ RowI w' w.heap.size p l c g) := by
  apply shelf_Shelf_room_ok
  unfold shelf_Shelf_room
  have hlen := h.len
  have hpr := h.pr
  have hbd := bsum_bd h.cok
  refine al_step fun m0 w1 a1 he1 hb1 => nc_s ⟨_, by rw [add_mk, (h.sb.ext he1).cell]; rfl, ?_⟩
  have h1 := h.ext he1
  refine range_step und119 h1.mp fun r w2 hr hit he2 => ⟨_, rfl, ?_⟩
  rw [ent_keys] at hit
  have hm0 := a1.lt
  refine lp_step (fun n st w' => ∃ (left : List Int) (W : List Wn), IterAt w' r sm .u32 (L.map Blk.ent) left ∧ left.Nodup ∧ RowW w' w1.heap.size st.1 st.2.1 st.2.2 W ∧ (W.map Wn.id ++ left).Perm (L.map Blk.id) ∧ (∀ x ∈ W, x = wnK symbol L x.id) ∧ Ext w1 w' ∧ n = left.length)
    _ ⟨_, [], hit, h.ids, Row.nil, by simp, by simp, he2, rfl⟩ ?_
  rintro n _ ⟨lp, ll, lc⟩ w3 ⟨left, W, hit3, hnd, hrow, hperm, hW, he3, hn⟩ K hK
  have hrow : RowW w3 w1.heap.size lp ll lc W := hrow
  have hll := hrow.lenW
  have hpl := hperm.length_eq
  simp at hpl
  refine iter_step hit3 hnd (fun h0 => ?_) (fun x v w4 hx hxm hit4 hc4 => ?_)
  · -- all are there
    subst h0
    have hWp : W.Perm (L.map (wnB symbol)) := by
      have e1 : W = (W.map Wn.id).map (wnK symbol L) := by
        rw [List.map_map]
        have : W.map ((wnK symbol L) ∘ Wn.id) = W.map id := List.map_congr_left fun x hx => (hW x hx).symm
        rw [this, List.map_id]
      have e2 : (L.map Blk.id).map (wnK symbol L) = L.map (wnB symbol) := by
        rw [List.map_map]; exact List.map_congr_left fun b hb => wnK_mem h.ids hb
      rw [e1, ← e2]
      exact (by simpa using hperm : (W.map Wn.id).Perm (L.map Blk.id)).map _
    refine cl_ret (sort_c hrow (by omega)) ?_
    rintro v w4 ⟨S, hrow4, hSp, hSs, hc4⟩
    have hSL := hSp.trans hWp
    have he4 : Ext w1 w4 := Ext.then he3 hc4 fun b hb => Row.base hrow b hb
    refine cl_ret (shelfBytes_c (h1.ext he4)) ?_
    rintro v w5 ⟨rfl, he5⟩
    refine ⟨_, rfl, ?_⟩
    have he15 : Ext w1 w5 := Chg.trans he4 he5
    have a5 : At w5 m0 _ 65 := a1.ext he15
    have hSlen : S.length = L.length := by have := hSL.length_eq; simpa using this
    have hSb : ∀ x ∈ S, 0 ≤ x.bytes ∧ x.bytes ≤ 2048 := fun x hx => by
      obtain ⟨b, hb, rfl⟩ := List.mem_map.1 (hSL.mem_iff.1 hx)
      exact byB_bd (h.cok b hb)
    have hsum : (S.map Wn.bytes).sum = bsum symbol L := by
      rw [perm_sum (hSL.map Wn.bytes), List.map_map]; rfl
    have hr5 : RowW w5 w1.heap.size lp ll lc S := Row.ext hrow4 he5
    refine lp_step (fun n st w' => ∃ (g : List Int) (rest : List Wn), RowI w' w5.heap.size st.1.1 st.1.2.1 st.1.2.2 g ∧ Wnr w' st.2.1.1 st.2.1.2.1 st.2.1.2.2 rest ∧ st.2.2 = (rest.map Wn.bytes).sum ∧ (∀ x ∈ rest, x ∈ S) ∧ g.length + rest.length = S.length ∧
        roomF frames bytes who S (bsum symbol L) = (roomF frames bytes who rest st.2.2).map (g ++ ·) ∧ Ext w5 w' ∧ n = rest.length)
      _ ⟨[], S, Row.nil, hr5.wnr, hsum.symm, fun _ h => h, by simp, by simp, Ext.refl _, rfl⟩ ?_
    clear hK hn hit3 hnd hperm
    rintro n _ ⟨⟨gp, gl, gc⟩, ⟨rp, rl, rc⟩, by'⟩ w6 ⟨g, rest, hg, hrr, hby, hrs, hgl, hroom, he6, hn⟩ K hK
    have hg : RowI w6 w5.heap.size gp gl gc g := hg
    have hrr : Wnr w6 rp rl rc rest := hrr
    have hby : by' = (rest.map Wn.bytes).sum := hby
    have hroom : roomF frames bytes who S (bsum symbol L) = (roomF frames bytes who rest by').map (g ++ ·) := hroom
    have hglI := hg.lenI
    have hrl := hrr.1
    have he16 : Ext w1 w6 := Chg.trans he15 he6
    have sum0 : ∀ {l : List Wn}, (∀ x ∈ l, x ∈ S) → 0 ≤ (l.map Wn.bytes).sum ∧ (l.map Wn.bytes).sum ≤ 2048 * l.length := by
      intro l
      induction l with
      | nil => simp
      | cons a l ih =>
        intro hl
        have h1 := hSb a (hl a (List.mem_cons_self ..))
        have h2 := ih fun x hx => hl x (List.mem_cons_of_mem _ hx)
        simp only [List.map_cons, List.sum_cons, List.length_cons]
        omega
    have hbyb := sum0 hrs
    rw [← hby] at hbyb
    refine jn_step (fun _ w' => Ext w6 w' ∧ ((rest.length : Int) ≥ frames ∨ by' + who.bytes > bytes)) ?_ ?_
    · rintro _ _ w7 ⟨he7, hcond⟩
      have he17 : Ext w1 w7 := Chg.trans he16 he7
      have hg7 : RowI w7 w5.heap.size gp gl gc g := Row.ext hg he7
      refine jn_step (fun st w' => st = (gp, (gl, gc)) ∧ Ext w7 w' ∧ ∃ x S', rest = x :: S' ∧ wrs x who = true) ?_ ?_
      · rintro _ _ w8 ⟨rfl, he8, x, S', rfl, hwx⟩
        have hrr8 := (hrr.ext he7).ext he8
        have hg8 : RowI w8 w5.heap.size gp gl gc g := Row.ext hg7 he8
        have hat0 := hrr8.2.2 0 x rfl
        simp only [List.length_cons] at hrl hgl
        dsimp only
        refine ixa_at (i := 0) hat0 (by omega) (by omega) fun a ha => ⟨_, ha.get0, ?_⟩
        refine al_step fun m3 w9 a9 he9 hb9 => ?_
        have hg9 : RowI w9 w5.heap.size gp gl gc g := Row.ext hg8 he9
        have he19 : Ext w1 w9 := Chg.trans (Chg.trans he17 he8) he9
        refine append_step (news := [.int .u32 x.id]) (z := .int .u32 0) (bytes := 4) (m := 1) und29 inf23 rfl (by decide) hg9 rfl (a9.cellsAt _ 0 fun i hi => by simp at hi; subst hi; rfl) (by simp [Value.oneCell']) (by omega) (by omega) (Chg.trans (Chg.trans (Chg.trans he6 he7) he8) he9).size fun p' c' w10 hr10 hc10 => ?_
        refine ⟨_, _, _, rfl, ?_⟩
        have hrr10 := (hrr8.ext he9).chg hc10 (Row.off hg9 (by decide))
        have hat10 := hrr10.2.2 0 x rfl
        refine ixa_at (i := 0) hat10 (by omega) (by omega) fun a2 ha2 => ⟨_, ha2.get 2 rfl, ?_⟩
        refine pv_from und159 siz65 (by omega) (by omega) ⟨_, _, _, rfl, ?_⟩
        have hxb := hSb x (hrs x (List.mem_cons_self ..))
        have hrest := sum0 (l := S') fun y hy => hrs y (List.mem_cons_of_mem _ hy)
        simp only [List.map_cons, List.sum_cons] at hby
        rw [w64 (by omega) (by omega)]
        simp only [List.length_cons] at hn
        refine hK S'.length _ _ (by omega) ⟨g ++ [x.id], S', ?_, hrr10.tail, by show by' - x.bytes = _; omega, fun y hy => hrs y (List.mem_cons_of_mem _ hy), by simp; omega, ?_, ?_, rfl⟩
        · unfold RowI; rw [List.map_append]; exact hr10
        · show roomF frames bytes who S (bsum symbol L) = (roomF frames bytes who S' (by' - x.bytes)).map (g ++ [x.id] ++ ·)
          rw [hroom]
          conv => lhs; rw [roomF]
          rw [if_pos (by simpa using hcond), if_pos hwx]
          cases roomF frames bytes who S' (by' - x.bytes) <;> simp
        · refine Ext.then (Chg.trans (Chg.trans (Chg.trans he6 he7) he8) he9) hc10 fun b hb => Row.base hg9 b hb
      · refine dr_step fun w8 _ he8 => ?_
        have fail : roomF frames bytes who rest by' = none → ∀ w9, Ext w7 w9 → Ret (fun v w' => Ext w w' ∧ ∃ S, S.Perm (L.map (wnB symbol)) ∧ S.Pairwise (fun a b => wrs b a = false) ∧
            match roomF frames bytes who S (bsum symbol L) with
            | none => v = .tuple #[.slice none 0 0, .bool false]
            | some g => ∃ p l c, v = .tuple #[.slice p l c, .bool true] ∧ RowI w' w.heap.size p l c g) (.returned (.tuple #[.slice none 0 0, .bool false])) w9 := by
          intro hf w9 he9
          refine ⟨Chg.trans he1 (Chg.trans he17 he9), S, hSL, hSs, ?_⟩
          rw [hroom, hf]; rfl
        refine br_iff.2 ⟨fun h0 => ?_, fun h0 => ?_⟩
        · have : rest = [] := by
            have : rl = 0 := by simpa using h0
            exact List.eq_nil_of_length_eq_zero (by omega)
          subst this
          refine fail ?_ w8 he8
          rw [roomF, if_pos (by simpa using hcond)]
        · cases rest with
          | nil => exfalso; simp at hrl; subst hrl; simp at h0
          | cons x S' =>
            have hrr8 := (hrr.ext he7).ext he8
            have hat0 := hrr8.2.2 0 x rfl
            simp only [List.length_cons] at hrl
            refine ixa_at (i := 0) hat0 (by omega) (by dsimp only; omega) fun a ha => ⟨_, _, _, ha, ?_⟩
            have a8 : At w8 m0 _ 65 := a1.ext (Chg.trans he17 he8)
            refine ⟨_, _, _, a8.all rfl, ?_⟩
            refine cl_ret (worse_c (x := x) (y := who)) ?_
            rintro v w9 ⟨rfl, _, he9⟩
            refine ⟨_, rfl, ?_⟩
            cases hwx : wrs x who with
            | false =>
              refine br_t (fail ?_ w9 (Chg.trans he8 he9))
              rw [roomF, if_pos (by simpa using hcond), if_neg (by rw [hwx]; decide)]
            | true => exact br_f ⟨rfl, Chg.trans he8 he9, x, S', rfl, hwx⟩
    · refine dr_step fun w7 _ he7 => ?_
      have he17 : Ext w1 w7 := Chg.trans he16 he7
      have sb7 := h1.sb.ext he17
      refine nc_s ⟨_, by rw [add_mk, sb7.cell]; rfl, ?_⟩
      refine br_if (fun hge => ⟨he7, .inl (by dsimp only at hge; omega)⟩) (fun hlt => ?_)
      have a7 : At w7 m0 _ 65 := a1.ext he17
      refine ⟨_, by rw [add_mk, a7.cell]; rfl, nc_s ⟨_, by rw [add_mk, sb7.cell]; rfl, ?_⟩⟩
      dsimp only
      rw [w64 (by omega) (by omega)]
      refine br_if (fun hgt => ⟨he7, .inr hgt⟩) (fun hle => ?_)
      refine ⟨Chg.trans he1 he17, S, hSL, hSs, ?_⟩
      have hno : ¬ ((rest.length : Int) ≥ frames ∨ by' + who.bytes > bytes) := by dsimp only at hlt; omega
      have hf : roomF frames bytes who rest by' = some [] := by
        cases rest with
        | nil => rw [roomF, if_neg (by simpa using hno)]
        | cons x S' => rw [roomF, if_neg (by simpa using hno)]
      rw [hroom, hf]
      refine ⟨gp, gl, gc, rfl, ?_⟩
      show RowI w7 w.heap.size gp gl gc (g ++ [])
      rw [List.append_nil]
      exact Row.base_mono (Row.ext hg he7) (Chg.trans he1 he15).size
  · -- one more
    obtain ⟨b, hb, hbe⟩ := List.mem_map.1 hxm
    have e1 : b.id = x := congrArg Prod.fst hbe
    have e2 : b.val = v := congrArg Prod.snd hbe
    subst e1 e2
    refine ⟨_, rfl, _, _, rfl, ?_⟩
    have he4 : Ext w1 w4 := Ext.then he3 hc4 fun y hy => by omega
    have hrow4 : RowW w4 w1.heap.size lp ll lc W := Row.chg hrow hc4 (by
      intro y cs fl hy hyr
      subst hyr
      exact hit3.nc _ _ _ _ hy rfl)
    refine box_step (by rw [zc131]; rfl) (by simp [Value.oneCell']) fun m4 w5 a5 he5 hb5 => ?_
    refine dr_step fun w6 _ he6 => ?_
    have a6 : At w6 m4 _ 131 := At.ext a5 he6
    refine ⟨_, by rw [add_mk, a6.cell]; rfl, _, by rw [a6.cell]; rfl, ?_⟩
    have he46 := he5.trans he6
    refine cl_ret (basinBytes_c ((h1.bs b hb).ext (Chg.trans he4 he46))) ?_
    rintro v w7 ⟨rfl, he7⟩
    have a7 : At w7 m4 _ 131 := At.ext a6 he7
    have rk : ∀ {w'}, At w' m4 #[.pointer (some ⟨b.bn, 0, none⟩), .int .i64 b.rank] 131 → hold [.cell ((⟨m4, 0, none⟩ : Addr).add 1) (.int .i64 b.rank)] w' := fun ha => hold_one (by
      show World.cell? _ _ = _
      rw [add_mk, ha.cell]; rfl)
    refine ⟨_, rfl, rk a7, ?_⟩
    refine al_step fun m5 w8 a8 he8 hb8 => ⟨rk (a7.ext he8), ?_⟩
    have he48 := (he46.trans he7).trans he8
    have hrow8 : RowW w8 w1.heap.size lp ll lc W := Row.ext hrow4 he48
    dsimp only
    refine append_step (news := encW (wnB symbol b)) (z := .agg #[.int .u32 0, .int .i64 0, .int .i64 0]) (bytes := 24) (m := 1) und159 inf65 rfl (by decide) hrow8 rfl (a8.cellsAt _ 0 fun i hi => by
      simp [encW] at hi
      match i, hi with
      | 0, _ => rfl
      | 1, _ => rfl
      | 2, _ => rfl) (by simp [Value.oneCell', encW]) (by omega) (by omega) (Nat.le_trans he4.size he48.size) fun p' c' w9 hr9 hc9 => ?_
    refine ⟨_, _, _, rfl, rk ?_, ?_⟩
    · exact (a7.ext he8).chg hc9 (Row.not hrow8 (a7.ext he8) (by decide))
    · have hl0 := List.length_pos_of_mem hx
      refine hK (left.erase b.id).length _ _ (by rw [List.length_erase_of_mem hx]; omega) ⟨left.erase b.id, W ++ [wnB symbol b], ?_, hnd.erase _, ?_, ?_, ?_, ?_, rfl⟩
      · exact ((hit4.ext he48)).row hrow8 hc9
      · have e : flatW (W ++ [wnB symbol b]) = flatW W ++ encW (wnB symbol b) := by simp [flatW]
        unfold RowW; rw [e]; exact hr9
      · refine List.Perm.trans ?_ hperm
        rw [List.map_append, List.append_assoc]
        refine List.Perm.append_left _ ?_
        exact (List.perm_cons_erase hx).symm
      · intro y hy
        rcases List.mem_append.1 hy with hy | hy
        · exact hW y hy
        · simp at hy; subst hy; exact (wnK_mem h.ids hb).symm
      · exact Ext.then (Chg.trans he4 he48) hc9 fun y hy => Row.base hrow8 y hy
end
end Go.SR
