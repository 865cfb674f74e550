/- Contracts: shelf.New, of, Missing, Payload, Drop, IDs, Bytes, Rank. -/
import Derived.Test.YtmmcihbcceahkaaG1
import Derived.Test.YtmmcihbcceahkaaBK
import Derived.Test.YtmmcihbcceahkaaS4
namespace Go.SR
open Go Go.Proofs

theorem und119 : Try.prog.underlying 119 = some (.map 23 131) := by kernel_rfl
theorem zc131 : zc Try.prog 131 = #[.pointer none, .int .i64 0] := by kernel_rfl
theorem zero131 (w : World) : (zeroValue 131).run Try.prog w = .ok (.agg #[.pointer none, .int .i64 0]) w := by
  have h : (Try.prog.info? 131).map (fun i => (i.zero, i.size, i.bytes)) = some (some (.agg #[.pointer none, .int .i64 0]), 2, 16) := by kernel_rfl
  obtain ⟨i, hi, hz, _⟩ := info_parts h
  simp [zeroValue, typeInfo, hi, hz]

/-- A frame on the shelf. -/
structure Blk where
  id : Int
  bn : Nat
  mb : Nat
  size : Int
  rank : Int
  R : List V

def Blk.val (b : Blk) : Value := .agg #[.pointer (some ⟨b.bn, 0, none⟩), .int .i64 b.rank]
def Blk.ent (b : Blk) : Int × Value := (b.id, b.val)

/-- A Shelf lies in block s, its map in sm. -/
structure ShelfAt (w : World) (s f sm : Nat) (frames bytes symbol : Int) (L : List Blk) : Prop where
  sb : At w s #[.pointer (some ⟨f, 0, none⟩), .int .i64 frames, .int .i64 bytes, .int .i64 symbol, .map (some sm)] 121
  fl : FieldAt w f
  mp : MapAt w sm .u32 (L.map Blk.ent)
  bs : ∀ b ∈ L, BasinOk w b.bn b.mb f b.id b.size symbol b.R
  nd : (sm :: L.map Blk.mb).Nodup
  pr : 1 ≤ frames ∧ frames ≤ 16 ∧ 1 ≤ bytes ∧ bytes ≤ 65536 ∧ 1 ≤ symbol ∧ symbol ≤ 64
  len : (L.length : Int) ≤ frames

/-- The maps of a shelf. -/
def ShS (sm : Nat) (L : List Blk) : Nat → Prop := fun x => x = sm ∨ ∃ b ∈ L, x = b.mb

def fnd (L : List Blk) (k : Int) : Option Blk := L.find? fun b => decide (b.id = k)

theorem fnd_some {L : List Blk} {k : Int} {b : Blk} (h : fnd L k = some b) : b ∈ L ∧ b.id = k := ⟨List.mem_of_find?_eq_some h, by have := List.find?_some h; simpa using this⟩
theorem fnd_none {L : List Blk} {k : Int} (h : fnd L k = none) : ∀ b ∈ L, b.id ≠ k := fun b hb e => by
  have := List.find?_eq_none.1 h b hb
  simp [e] at this

theorem lk_ent (L : List Blk) (k : Int) : lk (L.map Blk.ent) k = (fnd L k).map Blk.val := by
  induction L with
  | nil => rfl
  | cons b L ih =>
    simp only [List.map_cons, lk, fnd, List.find?_cons]
    by_cases h : b.id = k
    · simp [Blk.ent, h]
    · have : (Blk.ent b).1 = b.id := rfl
      rw [this, if_neg h]
      simp only [h, decide_false]
      exact ih

theorem ent_keys (L : List Blk) : (L.map Blk.ent).map Prod.fst = L.map Blk.id := by rw [List.map_map]; rfl

theorem fnd_mem {L : List Blk} (hn : (L.map Blk.id).Nodup) {b : Blk} (hb : b ∈ L) : fnd L b.id = some b := by
  induction L with
  | nil => simp at hb
  | cons c L ih =>
    simp only [List.map_cons, List.nodup_cons] at hn
    simp only [fnd, List.find?_cons]
    rcases List.mem_cons.1 hb with rfl | hb
    · simp
    · have : c.id ≠ b.id := fun e => hn.1 (e ▸ List.mem_map.2 ⟨b, hb, rfl⟩)
      simp only [this, decide_false]
      exact ih hn.2 hb

section
variable {w w' : World} {s f sm : Nat} {frames bytes symbol : Int} {L : List Blk}

theorem ShelfAt.ids (h : ShelfAt w s f sm frames bytes symbol L) : (L.map Blk.id).Nodup := by
  have := h.mp.nodup; rwa [ent_keys] at this

theorem ShelfAt.nocells (h : ShelfAt w s f sm frames bytes symbol L) : NoCells (ShS sm L) w := by
  rintro c cs t fl hc (rfl | ⟨b, hb, rfl⟩)
  · exact NoCells.of_map h.mp _ _ _ _ hc rfl
  · obtain ⟨m, hm⟩ := (h.bs b hb).map
    exact NoCells.of_map hm _ _ _ _ hc rfl

theorem ShelfAt.nc {S : Nat → Prop} (h : ShelfAt w s f sm frames bytes symbol L) (hn : NoCells S w) (hc : Chg S w w') (hS : ∀ x, ShS sm L x → ¬ S x) : ShelfAt w' s f sm frames bytes symbol L :=
  ⟨hn.at hc h.sb, h.fl.nc hn hc, h.mp.chg hc (hS _ (.inl rfl)), fun b hb => (h.bs b hb).nc hn hc (hS _ (.inr ⟨b, hb, rfl⟩)), h.nd, h.pr, h.len⟩
theorem ShelfAt.ext (h : ShelfAt w s f sm frames bytes symbol L) (he : Ext w w') : ShelfAt w' s f sm frames bytes symbol L := h.nc (noCells_false w) he fun _ _ => id

theorem ShelfAt.lt (h : ShelfAt w s f sm frames bytes symbol L) {x : Nat} (hx : ShS sm L x) : x < w.heap.size := by
  rcases hx with rfl | ⟨b, hb, rfl⟩
  · exact h.mp.lt
  · obtain ⟨m, hm⟩ := (h.bs b hb).map
    exact hm.lt

theorem shelfNew_c {fr by' sy : Int} {fb : Nat} (hf : FieldAt w fb) (hp : 1 ≤ fr ∧ fr ≤ 16 ∧ 1 ≤ by' ∧ by' ≤ 65536 ∧ 1 ≤ sy ∧ sy ≤ 64) :
    Cs Try.prog shelf_New_n #[.pointer (some ⟨fb, 0, none⟩), .int .i64 fr, .int .i64 by', .int .i64 sy] w (Ret fun v w' => ∃ s sm, v = .tuple #[.pointer (some ⟨s, 0, none⟩), .bool true] ∧ ShelfAt w' s fb sm fr by' sy [] ∧ Ext w w' ∧ w.heap.size ≤ sm) := by
  apply shelf_New_ok
  unfold shelf_New
  refine jn_step (fun _ w' => w' = w) ?_ ?_
  · rintro _ _ w0 rfl
    refine nwo_step fun sm w1 h1 he1 hb1 => ?_
    refine al_step fun s w2 a2 he2 hb2 => ?_
    exact ⟨s, sm, rfl, ⟨a2, (hf.ext he1).ext he2, ⟨_, he2.keep _ _ h1 id, MapO.empty _⟩, fun b hb => by simp at hb, by simp, hp, by simp; omega⟩, he1.trans he2, hb1⟩
  · exact br_f (br_if (fun h => by omega) fun _ => br_if (fun h => by omega) fun _ => br_if (fun h => by omega) fun _ => br_if (fun h => by omega) fun _ => br_if (fun h => by omega) fun _ => br_if (fun h => by omega) fun _ => rfl)

theorem run_field0 {p : Option Addr} {n : Int} : (Instr.field 131 (.agg #[.pointer p, .int .i64 n]) 0).run Try.prog w = .ok (.pointer p) w := by kernel_rfl

/-- Whose basin. -/
def bnOf (o : Option Blk) : Option Addr := o.map fun b => ⟨b.bn, 0, none⟩

theorem of_c (h : ShelfAt w s f sm frames bytes symbol L) {k : Int} :
    Cs Try.prog shelf_Shelf_of_n #[.pointer (some ⟨s, 0, none⟩), .int .u32 k] w (Ret fun v w' => v = .pointer (bnOf (fnd L k)) ∧ w' = w) := by
  apply shelf_Shelf_of_ok
  unfold shelf_Shelf_of
  refine br_f (nc_s ⟨_, by rw [add_mk, h.sb.cell]; rfl, ?_⟩)
  refine look_step und119 und23 zero131 h.mp fun _ => ?_
  rw [lk_ent]
  cases hf : fnd L k with
  | none => exact ⟨none, 0, rfl, ⟨_, fun w => run_field0, none, rfl, rfl, rfl⟩⟩
  | some b => exact ⟨some ⟨b.bn, 0, none⟩, b.rank, rfl, ⟨_, fun w => run_field0, _, rfl, rfl, rfl⟩⟩

theorem basinNil_missing : Cs Try.prog basin_Basin_Missing_n #[.pointer none] w (Ret fun v w' => v = .int .i64 0 ∧ w' = w) := by
  apply basin_Basin_Missing_ok
  unfold basin_Basin_Missing
  exact br_t ⟨rfl, rfl⟩

theorem basinNil_payload : Cs Try.prog basin_Basin_Payload_n #[.pointer none] w (Ret fun v w' => v = .tuple #[.slice none 0 0, .bool false] ∧ w' = w) := by
  apply basin_Basin_Payload_ok
  unfold basin_Basin_Payload
  exact br_t ⟨rfl, rfl⟩

def missN (symbol : Int) (o : Option Blk) : Int := match o with | some b => cntK b.size symbol - b.R.length | none => 0

theorem shelfMissing_c (h : ShelfAt w s f sm frames bytes symbol L) {k : Int} :
    Cs Try.prog shelf_Shelf_Missing_n #[.pointer (some ⟨s, 0, none⟩), .int .u32 k] w (Ret fun v w' => v = .tuple #[.int .i64 (missN symbol (fnd L k)), .bool (fnd L k).isSome] ∧ Ext w w') := by
  apply shelf_Shelf_Missing_ok
  unfold shelf_Shelf_Missing
  refine cl_ret (of_c h) ?_
  rintro v w1 ⟨rfl, rfl⟩
  refine ⟨_, rfl, ?_⟩
  cases hf : fnd L k with
  | none =>
    refine cl_ret basinNil_missing ?_
    rintro v w2 ⟨rfl, rfl⟩
    exact ⟨_, rfl, rfl, Ext.refl _⟩
  | some b =>
    obtain ⟨hb, e⟩ := fnd_some hf
    refine cl_ret (basinMissing_c (h.bs b hb)) ?_
    rintro v w2 ⟨rfl, he⟩
    exact ⟨_, rfl, rfl, he⟩

theorem shelfPayload_c (h : ShelfAt w s f sm frames bytes symbol L) {k : Int} :
    Cs Try.prog shelf_Shelf_Payload_n #[.pointer (some ⟨s, 0, none⟩), .int .u32 k] w (Ret fun v w' => Ext w w' ∧
      match fnd L k with
      | none => v = .tuple #[.slice none 0 0, .bool false]
      | some b => if (b.R.length : Int) < cntK b.size symbol then v = .tuple #[.slice none 0 0, .bool false]
        else ∃ p l c outs, v = .tuple #[.slice p l c, .bool true] ∧ SolOk (cntK b.size symbol).toNat symbol.toNat b.R outs ∧ RowB w' w.heap.size p l c (outs.flatten.take b.size.toNat)) := by
  apply shelf_Shelf_Payload_ok
  unfold shelf_Shelf_Payload
  refine cl_ret (of_c h) ?_
  rintro v w1 ⟨rfl, rfl⟩
  refine ⟨_, rfl, ?_⟩
  cases hf : fnd L k with
  | none =>
    refine cl_ret basinNil_payload ?_
    rintro v w2 ⟨rfl, rfl⟩
    exact ⟨_, _, _, _, rfl, Ext.refl _, rfl⟩
  | some b =>
    obtain ⟨hb, e⟩ := fnd_some hf
    refine cl_ret (basinPayload_c (h.bs b hb)) ?_
    rintro v w2 ⟨he, hv⟩
    dsimp only at hv ⊢
    split at hv
    · rename_i hlt
      subst hv
      exact ⟨_, _, _, _, rfl, he, by rw [if_pos hlt]⟩
    · rename_i hlt
      obtain ⟨p, l, c, outs, rfl, h1, h2⟩ := hv
      exact ⟨_, _, _, _, rfl, he, by rw [if_neg hlt]; exact ⟨p, l, c, outs, rfl, h1, h2⟩⟩

theorem del_ent (L : List Blk) (k : Int) : del (L.map Blk.ent) k = (L.filter fun b => decide (b.id ≠ k)).map Blk.ent := by
  induction L with
  | nil => rfl
  | cons b L ih =>
    simp only [del, List.map_cons, List.filter_cons] at ih ⊢
    by_cases h : b.id = k
    · simp only [Blk.ent, h, ne_eq, not_true, decide_false]; exact ih
    · simp only [Blk.ent, h, ne_eq, not_false_eq_true, decide_true, if_true, List.map_cons]
      congr 1

/-- Fewer of them. -/
theorem ShelfAt.fewer (h : ShelfAt w s f sm frames bytes symbol L) {q : Blk → Bool} (hc : Chg (fun x => x = sm) w w') (hm : MapAt w' sm .u32 ((L.filter q).map Blk.ent)) : ShelfAt w' s f sm frames bytes symbol (L.filter q) := by
  have hn := NoCells.of_map h.mp
  refine ⟨hn.at hc h.sb, h.fl.nc hn hc, hm, fun b hb => (h.bs b (List.mem_filter.1 hb).1).nc hn hc ?_, ?_, h.pr, ?_⟩
  · rintro rfl
    have := (List.nodup_cons.1 h.nd).1
    exact this (List.mem_map.2 ⟨b, (List.mem_filter.1 hb).1, rfl⟩)
  · exact h.nd.sublist ((List.filter_sublist.map _).cons_cons _)
  · have := List.length_filter_le q L
    have := h.len
    omega

theorem shelfDrop_c (h : ShelfAt w s f sm frames bytes symbol L) {k : Int} :
    Cs Try.prog shelf_Shelf_Drop_n #[.pointer (some ⟨s, 0, none⟩), .int .u32 k] w (Ret fun v w' => v = .bool (fnd L k).isSome ∧ ShelfAt w' s f sm frames bytes symbol (L.filter fun b => decide (b.id ≠ k)) ∧ Chg (fun x => x = sm) w w') := by
  apply shelf_Shelf_Drop_ok
  unfold shelf_Shelf_Drop
  refine cl_ret (of_c h) ?_
  rintro v w1 ⟨rfl, rfl⟩
  refine ⟨_, rfl, ?_⟩
  cases hf : fnd L k with
  | none =>
    refine br_f ⟨rfl, ?_, Chg.refl _ _⟩
    have : (L.filter fun b => decide (b.id ≠ k)) = L := by
      rw [List.filter_eq_self]
      intro b hb
      simpa using fnd_none hf b hb
    rw [this]; exact h
  | some b =>
    refine br_t (nc_s ⟨_, by rw [add_mk, h.sb.cell]; rfl, ?_⟩)
    refine delete_step und119 und23 h.mp fun w2 hm2 hc2 => ⟨rfl, ?_, hc2⟩
    rw [del_ent] at hm2
    exact h.fewer hc2 hm2

theorem shelfIDs_c (h : ShelfAt w s f sm frames bytes symbol L) :
    Cs Try.prog shelf_Shelf_IDs_n #[.pointer (some ⟨s, 0, none⟩)] w (Ret fun v w' => ∃ p l c ks, v = .slice p l c ∧ RowI w' w.heap.size p l c ks ∧ ks.Perm (L.map Blk.id) ∧ Asc ks ∧ Ext w w') := by
  apply shelf_Shelf_IDs_ok
  unfold shelf_Shelf_IDs
  refine br_f (nc_s ⟨_, by rw [add_mk, h.sb.cell]; rfl, ?_⟩)
  refine cl_ret Bk.Keys_c ?_
  rintro v w1 ⟨B, rfl, hB, he1⟩
  refine ⟨_, rfl, ?_⟩
  have hS : SortOk 49 := @sortOk49
  have hlen := h.len
  have hpr := h.pr
  refine cl_ret (Bk.Sorted_c hS (by decide) (by rw [hB.cell]; rfl) (h.mp.ext he1) (by rw [List.length_map]; omega)) ?_
  rintro v w2 ⟨p, l, c, ks, rfl, hr, hp, ha, he2⟩
  rw [ent_keys] at hp
  exact ⟨_, _, _, rfl, p, l, c, ks, rfl, Row.base_mono hr he1.size, hp, ha, he1.trans he2⟩

/-- How many bytes one has. -/
def byB (symbol : Int) (b : Blk) : Int := cntK b.size symbol * symbol
def bsum (symbol : Int) (L : List Blk) : Int := (L.map (byB symbol)).sum

theorem perm_sum {l l' : List Int} (h : l.Perm l') : l.sum = l'.sum := by
  induction h with
  | nil => rfl
  | cons x _ ih => simp [ih]
  | swap x y l => simp; omega
  | trans _ _ h1 h2 => exact h1.trans h2

theorem byB_bd {symbol : Int} {b : Blk} (h : cntOk b.size symbol = true) : 0 ≤ byB symbol b ∧ byB symbol b ≤ 2048 := by
  have hb := cntK_bd h
  exact ⟨Int.mul_nonneg (by omega) (by omega), Int.le_trans (Int.mul_le_mul hb.2.1 hb.2.2.2 (by omega) (by omega)) (by omega)⟩

theorem bsum_bd {symbol : Int} : ∀ {L : List Blk}, (∀ b ∈ L, cntOk b.size symbol = true) → 0 ≤ bsum symbol L ∧ bsum symbol L ≤ 2048 * L.length
  | [], _ => by simp [bsum]
  | b :: L, h => by
    have h1 := byB_bd (h b (List.mem_cons_self ..))
    have h2 := bsum_bd (L := L) fun c hc => h c (List.mem_cons_of_mem _ hc)
    simp only [bsum, List.map_cons, List.sum_cons, List.length_cons] at h2 ⊢
    omega

theorem ShelfAt.cok (h : ShelfAt w s f sm frames bytes symbol L) : ∀ b ∈ L, cntOk b.size symbol = true := fun b hb => (h.bs b hb).1

/-- Of a key, what it has. -/
def byK (symbol : Int) (L : List Blk) (k : Int) : Int := match fnd L k with | some b => byB symbol b | none => 0

theorem sum_byK (symbol : Int) {L : List Blk} (hn : (L.map Blk.id).Nodup) : ((L.map Blk.id).map (byK symbol L)).sum = bsum symbol L := by
  unfold bsum
  congr 1
  rw [List.map_map]
  exact List.map_congr_left fun b hb => by simp [byK, fnd_mem hn hb]

theorem shelfBytes_c (h : ShelfAt w s f sm frames bytes symbol L) :
    Cs Try.prog shelf_Shelf_Bytes_n #[.pointer (some ⟨s, 0, none⟩)] w (Ret fun v w' => v = .int .i64 (bsum symbol L) ∧ Ext w w') := by
  apply shelf_Shelf_Bytes_ok
  unfold shelf_Shelf_Bytes
  refine br_f (nc_s ⟨_, by rw [add_mk, h.sb.cell]; rfl, ?_⟩)
  refine range_step und119 h.mp fun r w1 hr hit he1 => ⟨_, rfl, ?_⟩
  rw [ent_keys] at hit
  have hlen := h.len
  have hpr := h.pr
  have hbd := bsum_bd h.cok
  have hsk := sum_byK symbol h.ids
  have kb : ∀ k, 0 ≤ byK symbol L k := fun k => by
    unfold byK; split
    · rename_i b hb; exact (byB_bd (h.cok b (fnd_some hb).1)).1
    · omega
  refine lp_step (fun n st w' => ∃ left : List Int, IterAt w' r sm .u32 (L.map Blk.ent) left ∧ left.Nodup ∧ st + (left.map (byK symbol L)).sum = bsum symbol L ∧ 0 ≤ st ∧ Ext w w' ∧ n = left.length)
    _ ⟨_, hit, h.ids, by rw [hsk]; omega, by omega, he1, rfl⟩ ?_
  rintro n _ st w2 ⟨left, hit2, hnd, hsum, hst, he2, hn⟩ K hK
  refine iter_step hit2 hnd (fun h0 => ?_) (fun x v w3 hx hxm hit3 hc3 => ?_)
  · subst h0
    simp at hsum
    exact ⟨by rw [hsum], he2⟩
  · obtain ⟨b, hb, hbe⟩ := List.mem_map.1 hxm
    have e1 : b.id = x := congrArg Prod.fst hbe
    have e2 : b.val = v := congrArg Prod.snd hbe
    subst e1 e2
    refine ⟨_, _, rfl, ?_⟩
    have he3 : Ext w w3 := Ext.then he2 hc3 fun y hy => by have := he1.size; omega
    refine box_step (by rw [zc131]; rfl) (by simp [Value.oneCell']) fun m4 w4 a4 he4 hb4 => ?_
    refine ⟨_, by rw [a4.cell]; rfl, ?_⟩
    refine cl_ret (basinBytes_c ((h.bs b hb).ext (he3.trans he4))) ?_
    rintro v w5 ⟨rfl, he5⟩
    refine ⟨_, rfl, ?_⟩
    have hbk : byK symbol L b.id = cntK b.size symbol * symbol := by simp [byK, fnd_mem h.ids hb, byB]
    have hps := perm_sum ((List.perm_cons_erase hx).map (byK symbol L))
    rw [List.map_cons, List.sum_cons, hbk] at hps
    have hb1 := byB_bd (h.cok b hb)
    unfold byB at hb1
    have hrest : 0 ≤ ((left.erase b.id).map (byK symbol L)).sum := by
      generalize left.erase b.id = l
      induction l with
      | nil => simp
      | cons a l ih => have := kb a; simp; omega
    rw [w64 (by omega) (by omega)]
    have hl0 := List.length_pos_of_mem hx
    refine hK (left.erase b.id).length _ _ (by rw [List.length_erase_of_mem hx]; omega) ⟨left.erase b.id, ?_, hnd.erase _, by omega, by omega, (he3.trans he4).trans he5, rfl⟩
    exact (hit3.ext he4).ext he5

/-- Another rank. -/
def setRank (L : List Blk) (k rank : Int) : List Blk := L.map fun b => if b.id = k then { b with rank := rank } else b

theorem ins_ent {L : List Blk} {k : Int} {b : Blk} {v : Value} {g : Blk → Blk} (hn : (L.map Blk.id).Nodup) (hf : fnd L k = some b) (hg : (g b).ent = (k, v)) : ins (L.map Blk.ent) k v = (L.map fun c => if c.id = k then g c else c).map Blk.ent := by
  induction L with
  | nil => simp [fnd] at hf
  | cons c L ih =>
    simp only [List.map_cons, List.nodup_cons] at hn
    simp only [List.map_cons, ins]
    have hc : (Blk.ent c).1 = c.id := rfl
    rw [hc]
    by_cases h : c.id = k
    · have : c = b := by simp [fnd, h] at hf; exact hf
      subst this
      rw [if_pos h, if_pos h, hg]
      congr 1
      refine congrArg (List.map Blk.ent) ?_
      have : L.map (fun c => if c.id = k then g c else c) = L.map id := List.map_congr_left fun d hd => by
        rw [if_neg]; rfl
        intro e; exact hn.1 (by rw [h, ← e]; exact List.mem_map.2 ⟨d, hd, rfl⟩)
      rw [this, List.map_id]
    · rw [if_neg h, if_neg h]
      congr 1
      refine ih hn.2 ?_
      simp only [fnd, List.find?_cons, h, decide_false] at hf
      exact hf

theorem shelfRank_c (h : ShelfAt w s f sm frames bytes symbol L) {k rank : Int} :
    Cs Try.prog shelf_Shelf_Rank_n #[.pointer (some ⟨s, 0, none⟩), .int .u32 k, .int .i64 rank] w (Ret fun v w' => v = .bool (fnd L k).isSome ∧ ShelfAt w' s f sm frames bytes symbol (setRank L k rank) ∧ Chg (fun x => x = sm) w w') := by
  apply shelf_Shelf_Rank_ok
  unfold shelf_Shelf_Rank
  refine cl_ret (of_c h) ?_
  rintro v w1 ⟨rfl, rfl⟩
  refine ⟨_, rfl, ?_⟩
  have hmb : (setRank L k rank).map Blk.mb = L.map Blk.mb := by
    unfold setRank; rw [List.map_map]
    exact List.map_congr_left fun b _ => by simp only [Function.comp]; split <;> rfl
  cases hf : fnd L k with
  | none =>
    refine br_f ⟨rfl, ?_, Chg.refl _ _⟩
    have : setRank L k rank = L := by
      have : setRank L k rank = L.map id := List.map_congr_left fun b hb => by rw [if_neg (fnd_none hf b hb)]; rfl
      rw [this, List.map_id]
    rw [this]; exact h
  | some b =>
    refine br_t (nc_s ⟨_, by rw [add_mk, h.sb.cell]; rfl, ?_⟩)
    refine update_step und119 und23 h.mp fun w2 hm2 hc2 => ⟨rfl, ?_, hc2⟩
    have hn := NoCells.of_map h.mp
    rw [ins_ent (g := fun b => { b with rank := rank }) h.ids hf (by have := (fnd_some hf).2; simp [Blk.ent, Blk.val, this, bnOf])] at hm2
    refine ⟨hn.at hc2 h.sb, h.fl.nc hn hc2, hm2, fun c hc => ?_, by rw [hmb]; exact h.nd, h.pr, by simpa [setRank] using h.len⟩
    obtain ⟨d, hd, rfl⟩ := List.mem_map.1 hc
    have hne : ¬ d.mb = sm := by
      rintro e
      exact (List.nodup_cons.1 h.nd).1 (List.mem_map.2 ⟨d, hd, e⟩)
    have := (h.bs d hd).nc hn hc2 hne
    split <;> exact this
end
end Go.SR
