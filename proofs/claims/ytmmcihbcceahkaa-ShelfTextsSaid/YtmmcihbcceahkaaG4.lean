/- Contracts: shelf.Add. -/
import Derived.Test.YtmmcihbcceahkaaG3
namespace Go.SR
open Go Go.Proofs

/-- Who goes: those ahead, each of which matters less; then there is room. -/
theorem roomF_spec {frames most : Int} {who : Wn} : ∀ {S : List Wn} {by' : Int} {g : List Int}, roomF frames most who S by' = some g →
    ∃ done rest, S = done ++ rest ∧ g = done.map Wn.id ∧ (rest.length : Int) < frames ∧ by' - (done.map Wn.bytes).sum + who.bytes ≤ most ∧ ∀ x ∈ done, wrs x who = true
  | [], by', g, h => by
    rw [roomF] at h
    split at h
    · cases h
    · rename_i hc
      cases h
      exact ⟨[], [], rfl, rfl, by simp; omega, by simp; omega, by simp⟩
  | x :: S, by', g, h => by
    rw [roomF] at h
    split at h
    · rename_i hc
      split at h
      · rename_i hw
        obtain ⟨g', hg', rfl⟩ := Option.map_eq_some_iff.1 h
        obtain ⟨done, rest, h1, h2, h3, h4, h5⟩ := roomF_spec hg'
        refine ⟨x :: done, rest, by rw [h1]; rfl, by rw [h2]; rfl, h3, by simp only [List.map_cons, List.sum_cons]; omega, fun y hy => ?_⟩
        rcases List.mem_cons.1 hy with rfl | hy
        · exact hw
        · exact h5 y hy
      · cases h
    · rename_i hc
      cases h
      exact ⟨[], x :: S, rfl, rfl, by simp only [List.length_cons]; omega, by simp; omega, by simp⟩

theorem wnB_ids {symbol : Int} (L : List Blk) : (L.map (wnB symbol)).map Wn.id = L.map Blk.id := by rw [List.map_map]; rfl

/-- Who stays. -/
theorem room_rest {symbol : Int} {L : List Blk} {done rest : List Wn} (hn : (L.map Blk.id).Nodup) (hp : (done ++ rest).Perm (L.map (wnB symbol))) :
    ((L.filter fun b => decide (b.id ∉ done.map Wn.id)).map (wnB symbol)).Perm rest := by
  have hnd : ((done ++ rest).map Wn.id).Nodup := by
    rw [(hp.map Wn.id).nodup_iff, wnB_ids]; exact hn
  have h1 := hp.filter fun x => decide (x.id ∉ done.map Wn.id)
  have h2 : (done ++ rest).filter (fun x => decide (x.id ∉ done.map Wn.id)) = rest := by
    rw [List.filter_append]
    have e1 : done.filter (fun x => decide (x.id ∉ done.map Wn.id)) = [] := by
      rw [List.filter_eq_nil_iff]
      intro x hx
      simp only [decide_eq_true_eq, Decidable.not_not]
      exact List.mem_map.2 ⟨x, hx, rfl⟩
    have e2 : rest.filter (fun x => decide (x.id ∉ done.map Wn.id)) = rest := by
      rw [List.filter_eq_self]
      intro x hx
      simp only [decide_eq_true_eq]
      intro hm
      rw [List.map_append] at hnd
      exact (List.nodup_append.1 hnd).2.2 _ hm _ (List.mem_map.2 ⟨x, hx, rfl⟩) rfl
    rw [e1, e2]; rfl
  have h3 : (L.map (wnB symbol)).filter (fun x => decide (x.id ∉ done.map Wn.id)) = (L.filter fun b => decide (b.id ∉ done.map Wn.id)).map (wnB symbol) := by
    rw [List.filter_map]; rfl
  rw [h2, h3] at h1
  exact h1.symm

def addR (L : List Blk) (k : Int) (u : V) : List Blk := L.map fun b => if b.id = k then { b with R := b.R ++ [u] } else b

/-- What becomes of the shelf. -/
def AddOk (frames bytes symbol : Int) (L : List Blk) (ID size rank id : Int) (data : List By) (ok : Bool) (gone : List Int) (L' : List Blk) : Prop :=
  match fnd L ID with
  | some b => gone = [] ∧ (ok = true ↔ SymOk ID b.size symbol b.R id data) ∧ L' = (if ok then addR L ID (vec (rowL ID id (cntK b.size symbol).toNat ++ data)) else L)
  | none =>
    (ok = true ∧ cntOk size symbol = true ∧ SymOk ID size symbol [] id data ∧ (∃ S, S.Perm (L.map (wnB symbol)) ∧ S.Pairwise (fun a b => wrs b a = false) ∧ roomF frames bytes ⟨ID, rank, cntK size symbol * symbol⟩ S (bsum symbol L) = some gone) ∧
      ∃ bn mb, L' = (L.filter fun b => decide (b.id ∉ gone)) ++ [⟨ID, bn, mb, size, rank, [vec (rowL ID id (cntK size symbol).toNat ++ data)]⟩]) ∨
    (ok = false ∧ gone = [] ∧ L' = L ∧ (cntOk size symbol = false ∨ ¬ SymOk ID size symbol [] id data ∨ ∃ S, S.Perm (L.map (wnB symbol)) ∧ S.Pairwise (fun a b => wrs b a = false) ∧ roomF frames bytes ⟨ID, rank, cntK size symbol * symbol⟩ S (bsum symbol L) = none))

theorem ins_new {m : List (Int × Value)} {k : Int} {v : Value} (h : k ∉ m.map Prod.fst) : ins m k v = m ++ [(k, v)] := by
  induction m with
  | nil => rfl
  | cons x m ih =>
    simp only [List.map_cons, List.mem_cons, not_or] at h
    rw [ins, if_neg (fun e => h.1 e.symm), ih h.2]; rfl

section
variable {w w' : World} {s f sm : Nat} {frames bytes symbol : Int} {L : List Blk}

/-- One basin gets on. -/
theorem ShelfAt.grow (h : ShelfAt w s f sm frames bytes symbol L) {b : Blk} {u : V} (hb : b ∈ L) (hc : Chg (fun x => x = b.mb) w w') (hbo : BasinOk w' b.bn b.mb f b.id b.size symbol (b.R ++ [u])) : ShelfAt w' s f sm frames bytes symbol (addR L b.id u) := by
  obtain ⟨m, hm⟩ := (h.bs b hb).map
  have hn := NoCells.of_map hm
  have hne : sm ≠ b.mb := fun e => (List.nodup_cons.1 h.nd).1 (List.mem_map.2 ⟨b, hb, e.symm⟩)
  have hmb : (addR L b.id u).map Blk.mb = L.map Blk.mb := by
    unfold addR; rw [List.map_map]
    exact List.map_congr_left fun b _ => by simp only [Function.comp]; split <;> rfl
  have hen : (addR L b.id u).map Blk.ent = L.map Blk.ent := by
    unfold addR; rw [List.map_map]
    exact List.map_congr_left fun b _ => by simp only [Function.comp]; split <;> rfl
  refine ⟨hn.at hc h.sb, h.fl.nc hn hc, by rw [hen]; exact h.mp.chg hc hne, fun c hc' => ?_, by rw [hmb]; exact h.nd, h.pr, by simpa [addR] using h.len⟩
  obtain ⟨d, hd, rfl⟩ := List.mem_map.1 hc'
  by_cases e : d.id = b.id
  · have : d = b := by
      have h1 := fnd_mem h.ids hd
      rw [e, fnd_mem h.ids hb] at h1
      exact (Option.some.inj h1).symm
    subst this
    simp only [if_true]; exact hbo
  · simp only [if_neg e]
    refine (h.bs d hd).nc hn hc ?_
    intro e2
    have hnd := (List.nodup_cons.1 h.nd).2
    obtain ⟨i, hi, rfl⟩ := List.getElem_of_mem hd
    obtain ⟨j, hj, rfl⟩ := List.getElem_of_mem hb
    have := List.pairwise_iff_getElem.1 hnd
    rcases Nat.lt_trichotomy i j with h | h | h
    · exact this i j (by simpa using hi) (by simpa using hj) h (by simpa using e2)
    · subst h; exact e rfl
    · exact this j i (by simpa using hj) (by simpa using hi) h (by simpa using e2.symm)

theorem addR_same {L : List Blk} {k : Int} {u : V} (h : fnd L k = none) : addR L k u = L := by
  have : addR L k u = L.map id := List.map_congr_left fun b hb => by rw [if_neg (fnd_none h b hb)]; rfl
  rw [this, List.map_id]

theorem shelfAdd_c (h : ShelfAt w s f sm frames bytes symbol L) {ID kind size play dl rank id : Int} {rp : Option Addr} {rl rc : Nat} {q : Option Addr} {ql qc : Nat} {data : List By} (hd : Byr w q ql data) (hqc : ql ≤ qc) :
    Cs Try.prog shelf_Shelf_Add_n #[.pointer (some ⟨s, 0, none⟩), .agg #[.int .u32 ID, .int .i64 kind, .slice rp rl rc, .int .i64 size, .int .i64 play, .int .i64 dl], .int .i64 rank, .int .i64 id, .slice q ql qc] w
      (Ret fun v w' => ∃ (ok : Bool) (p : Option Addr) (l c : Nat) (gone : List Int) (L' : List Blk), v = .tuple #[.bool ok, .slice p l c] ∧ RowI w' w.heap.size p l c gone ∧ ShelfAt w' s f sm frames bytes symbol L' ∧ AddOk frames bytes symbol L ID size rank id data ok gone L' ∧ Chg (ShS sm L) w w' ∧ ∀ b ∈ L', b.mb ∈ L.map Blk.mb ∨ w.heap.size ≤ b.mb) := by
  apply shelf_Shelf_Add_ok
  unfold shelf_Shelf_Add
  have hpr := h.pr
  have hlen := h.len
  refine al_step fun m0 w1 a1 he1 hb1 => br_f (dr_step fun w2 _ he2 => nc_s ?_)
  have he02 := he1.trans he2
  have a2 : At w2 m0 _ 31 := At.ext a1 he2
  have h2 := h.ext he02
  refine ⟨_, by rw [add_mk, h2.sb.cell]; rfl, _, by rw [a2.cell]; rfl, ?_⟩
  refine look_stepH und119 und23 zero131 h2.mp fun fct hfct => ?_
  rw [lk_ent]
  have facts : ∀ {w'}, Ext w2 w' → hold [fct, .cell ⟨m0, 0, none⟩ (.int .u32 ID), .cell ((⟨s, 0, none⟩ : Addr).add 4) (.map (some sm))] w' := fun he => hold_cons (hfct _ (by
      obtain ⟨o, ho, _⟩ := h2.mp
      rw [ho]; exact he.keep _ _ ho not_false)) (hold_cons (by show World.cell? _ _ = _; rw [(At.ext a2 he).cell]; rfl) (hold_one (by show World.cell? _ _ = _; rw [add_mk, (h2.sb.ext he).cell]; rfl)))
  cases hf : fnd L ID with
  | some b =>
    obtain ⟨hb, hbid⟩ := fnd_some hf
    refine ⟨some ⟨b.bn, 0, none⟩, b.rank, true, rfl, ?_⟩
    refine al_step fun m3 w3 a3 he3 hb3 => ⟨facts he3, ?_⟩
    refine stN_step a3 (by rw [zc131]; simp) (by simp [Value.oneCell']) fun w4 a4 c4 => ?_
    rw [over_all (by rw [zc131]; rfl)] at a4
    have he4 : Ext w2 w4 := Ext.then he3 c4 fun y hy => by omega
    refine br_t ⟨_, by rw [a4.cell]; rfl, ?_⟩
    have h4 := h2.ext he4
    have he04 := he02.trans he4
    refine cl_ret (basinAdd_c (h4.bs b hb) (hd.ext he04) hqc) ?_
    rintro v w5 ⟨ok, rfl, hiff, hbo, hc5⟩
    refine ⟨_, rfl, ?_⟩
    have hcA : Chg (ShS sm L) w w5 := ((Ext.any he04 : Chg (ShS sm L) w w4).trans (hc5.mono fun y _ hy => .inr ⟨b, hb, hy⟩))
    rw [hbid] at hiff hbo
    cases ok with
    | true =>
      refine ⟨true, none, 0, 0, [], addR L ID (vec (rowL ID id (cntK b.size symbol).toNat ++ data)), rfl, Row.nil, ?_, ?_, hcA, fun c hc => ?_⟩
      · have := h4.grow (u := vec (rowL ID id (cntK b.size symbol).toNat ++ data)) hb hc5 (by rw [hbid]; exact hbo)
        rw [hbid] at this
        exact this
      · unfold AddOk; rw [hf]; exact ⟨rfl, hiff, by rw [if_pos rfl]⟩
      · obtain ⟨d, hd, rfl⟩ := List.mem_map.1 hc
        left
        refine List.mem_map.2 ⟨d, hd, ?_⟩
        split <;> rfl
    | false =>
      obtain ⟨m, hm⟩ := (h4.bs b hb).map
      refine ⟨false, none, 0, 0, [], L, rfl, Row.nil, ?_, ?_, hcA, fun c hc => .inl (List.mem_map.2 ⟨c, hc, rfl⟩)⟩
      · have hn := NoCells.of_map hm
        have hne : ∀ x, ShS sm L x → x ≠ b.mb ∨ x = b.mb := fun x _ => by omega
        refine ⟨hn.at hc5 h4.sb, h4.fl.nc hn hc5, h4.mp.chg hc5 (fun e => (List.nodup_cons.1 h.nd).1 (List.mem_map.2 ⟨b, hb, e.symm⟩)), fun c hc => ?_, h.nd, h.pr, h.len⟩
        by_cases e : c.id = b.id
        · have : c = b := by
            have h1 := fnd_mem h.ids hc
            rw [e, fnd_mem h.ids hb] at h1
            exact (Option.some.inj h1).symm
          subst this
          rw [hbid]; exact hbo
        · refine (h4.bs c hc).nc hn hc5 ?_
          intro e2
          have hnd := (List.nodup_cons.1 h.nd).2
          obtain ⟨i, hi, rfl⟩ := List.getElem_of_mem hc
          obtain ⟨j, hj, rfl⟩ := List.getElem_of_mem hb
          have := List.pairwise_iff_getElem.1 hnd
          rcases Nat.lt_trichotomy i j with h | h | h
          · exact this i j (by simpa using hi) (by simpa using hj) h (by simpa using e2)
          · subst h; exact e rfl
          · exact this j i (by simpa using hj) (by simpa using hi) h (by simpa using e2.symm)
      · unfold AddOk; rw [hf]; exact ⟨rfl, hiff, by simp⟩
  | none =>
    refine ⟨none, 0, false, rfl, ?_⟩
    refine al_step fun m3 w3 a3 he3 hb3 => ⟨facts he3, ?_⟩
    refine stN_step a3 (by rw [zc131]; simp) (by simp [Value.oneCell']) fun w4 a4 c4 => ?_
    have he4 : Ext w2 w4 := Ext.then he3 c4 fun y hy => by omega
    refine br_f (dr_step fun w5 _ he5 => nc_s ?_)
    have he25 : Ext w2 w5 := Chg.trans he4 he5
    have h5 := h2.ext he25
    have a5 : At w5 m0 _ 31 := At.ext a2 he25
    have he05 : Ext w w5 := Chg.trans he02 he25
    refine ⟨_, by rw [h5.sb.cell]; rfl, _, by rw [a5.cell]; rfl, _, by rw [add_mk, a5.cell]; rfl, nc_s ⟨_, by rw [add_mk, h5.sb.cell]; rfl, ?_⟩⟩
    have no : ∀ {w'}, Ext w w' → (cntOk size symbol = false ∨ ¬ SymOk ID size symbol [] id data ∨ ∃ S, S.Perm (L.map (wnB symbol)) ∧ S.Pairwise (fun a b => wrs b a = false) ∧ roomF frames bytes ⟨ID, rank, cntK size symbol * symbol⟩ S (bsum symbol L) = none) →
        Ret (fun v w' => ∃ (ok : Bool) (p : Option Addr) (l c : Nat) (gone : List Int) (L' : List Blk), v = .tuple #[.bool ok, .slice p l c] ∧ RowI w' w.heap.size p l c gone ∧ ShelfAt w' s f sm frames bytes symbol L' ∧ AddOk frames bytes symbol L ID size rank id data ok gone L' ∧ Chg (ShS sm L) w w' ∧ ∀ b ∈ L', b.mb ∈ L.map Blk.mb ∨ w.heap.size ≤ b.mb) (.returned (.tuple #[.bool false, .slice none 0 0])) w' := fun he hr =>
      ⟨false, none, 0, 0, [], L, rfl, Row.nil, h.ext he, by unfold AddOk; rw [hf]; exact .inr ⟨rfl, rfl, rfl, hr⟩, Ext.any he, fun c hc => .inl (List.mem_map.2 ⟨c, hc, rfl⟩)⟩
    refine cl_ret (basinNew_c (frame := ID) (size := size) (symbol := symbol) h5.fl) ?_
    rintro v w6 ⟨he6, hv⟩
    have he06 : Ext w w6 := Chg.trans he05 he6
    cases hok : cntOk size symbol with
    | false =>
      rw [hok] at hv
      simp only [Bool.false_eq_true, if_false] at hv
      subst hv
      refine ⟨_, _, rfl, jn_step (fun _ _ => False) (fun _ _ _ h => h.elim) (br_t (no he06 (.inl hok)))⟩
    | true =>
      rw [hok] at hv
      simp only [if_true] at hv
      obtain ⟨bn, mb, rfl, hbo, hbn, hmb⟩ := hv
      refine ⟨_, _, rfl, ?_⟩
      have hck := cntK_bd hok
      have s05 := he05.size
      refine jn_step (fun _ w' => BasinOk w' bn mb f ID size symbol [vec (rowL ID id (cntK size symbol).toNat ++ data)] ∧ Ext w w' ∧ At w' m0 #[.int .u32 ID, .int .i64 kind, .slice rp rl rc, .int .i64 size, .int .i64 play, .int .i64 dl] 31 ∧ SymOk ID size symbol [] id data) ?_ ?_
      · rintro _ _ w7 ⟨hbo7, he07, a7, hsym⟩
        refine dr_step fun w8 _ he8 => ?_
        have he08 : Ext w w8 := Chg.trans he07 he8
        have a8 : At w8 m0 _ 31 := At.ext a7 he8
        refine ⟨_, by rw [a8.cell]; rfl, ?_⟩
        refine cl_ret (basinBytes_c (hbo7.ext he8)) ?_
        rintro v w9 ⟨rfl, he9⟩
        have a9 : At w9 m0 _ 31 := At.ext a8 he9
        have he09 : Ext w w9 := Chg.trans he08 he9
        have hbd := byB_bd (symbol := symbol) (b := ⟨ID, bn, mb, size, rank, []⟩) hok
        unfold byB at hbd
        refine ⟨_, rfl, hold_one (by show World.cell? _ _ = _; rw [a9.cell]; rfl), ?_⟩
        refine cl_ret (room_c (h.ext he09) (who := ⟨ID, rank, cntK size symbol * symbol⟩) hbd.1 hbd.2) ?_
        rintro v w10 ⟨he10, S, hSp, hSs, hv⟩
        have a10 : At w10 m0 _ 31 := At.ext a9 he10
        have he010 : Ext w w10 := Chg.trans he09 he10
        have m10 : hold [.cell ⟨m0, 0, none⟩ (.int .u32 ID)] w10 := hold_one (by show World.cell? _ _ = _; rw [a10.cell]; rfl)
        cases hrf : roomF frames bytes ⟨ID, rank, cntK size symbol * symbol⟩ S (bsum symbol L) with
        | none =>
          rw [hrf] at hv
          dsimp only at hv
          subst hv
          exact ⟨_, _, _, _, rfl, m10, br_t (no he010 (.inr (.inr ⟨S, hSp, hSs, hrf⟩)))⟩
        | some gone =>
          rw [hrf] at hv
          obtain ⟨gp, gl, gc, rfl, hg⟩ := hv
          refine ⟨_, _, _, _, rfl, m10, br_f ?_⟩
          obtain ⟨done, rest, hS, hgd, hrl, hrb, hrw⟩ := roomF_spec hrf
          have hgl := hg.lenI
          have hSlen : S.length = L.length := by have := hSp.length_eq; simpa using this
          have hgS : gone.length ≤ S.length := by rw [hgd, hS]; simp
          have hgi : Ints 23 .u32 w10 gp gl gone := Row.ints hg (by omega)
          have h10 := h.ext he010
          have hn := NoCells.of_map h10.mp
          have f0 : L.filter (fun b => decide (b.id ∉ gone.take 0)) = L := by simp
          refine lp_step (fun n st w' => ∃ i : Nat, st = i ∧ i ≤ gone.length ∧ MapAt w' sm .u32 ((L.filter fun b => decide (b.id ∉ gone.take i)).map Blk.ent) ∧ Chg (fun x => x = sm) w10 w' ∧ n = gone.length - i)
            _ ⟨0, rfl, by omega, by rw [f0]; exact h10.mp, Chg.refl _ _, rfl⟩ ?_
          rintro n _ _ w11 ⟨i, rfl, hi, hm11, hc11, hn11⟩ K hK
          have sb11 := hn.at hc11 h10.sb
          refine br_if (fun hlt => ?_) (fun hge => ?_)
          · have hget := gI_get (xs := gone) (i := i) (by omega) (by omega)
            rw [Int.toNat_natCast] at hget
            refine (hgi.chg hc11 (Off.of_map h10.mp)).ix (i := i) (by omega) (by omega) fun a ha => ⟨_, ha, nc_s ⟨_, by rw [add_mk, sb11.cell]; rfl, ?_⟩⟩
            refine delete_step und119 und23 hm11 fun w12 hm12 hc12 => ?_
            rw [del_ent, List.filter_filter] at hm12
            have hfe : (L.filter fun b => decide (b.id ≠ gI gone i) && decide (b.id ∉ gone.take i)) = L.filter fun b => decide (b.id ∉ gone.take (i + 1)) := by
              congr 1
              funext b
              rw [List.take_add_one, hget]
              simp only [List.mem_append, Option.toList_some, List.mem_singleton, not_or]
              by_cases e1 : b.id = gI gone i <;> by_cases e2 : b.id ∈ gone.take i <;> simp [e1, e2]
            rw [hfe] at hm12
            rw [w64 (by omega) (by omega)]
            exact hK (gone.length - (i + 1)) _ _ (by omega) ⟨i + 1, by simp, by omega, hm12, hc11.trans hc12, rfl⟩
          · have hil : i = gone.length := by omega
            subst hil
            rw [List.take_length] at hm11
            refine dr_step fun w12 _ he12 => nc_s ⟨_, by rw [add_mk, (sb11.ext he12).cell]; rfl, ?_⟩
            have a12 : At w12 m0 _ 31 := At.ext (hn.at hc11 a10) he12
            refine ⟨_, by rw [a12.cell]; rfl, ?_⟩
            refine update_step und119 und23 (hm11.ext he12) fun w13 hm13 hc13 => ?_
            have hnin : ID ∉ ((L.filter fun b => decide (b.id ∉ gone)).map Blk.ent).map Prod.fst := by
              rw [ent_keys]
              intro hm
              obtain ⟨b, hb, e⟩ := List.mem_map.1 hm
              exact fnd_none hf b (List.mem_filter.1 hb).1 e
            rw [ins_new hnin] at hm13
            have hcT : Chg (fun x => x = sm) w10 w13 := (hc11.ext he12).trans hc13
            have hmbs : ∀ b ∈ L, b.mb < w.heap.size := fun b hb => h.lt (.inr ⟨b, hb, rfl⟩)
            have hsmlt := h.mp.lt
            have hrr := room_rest (symbol := symbol) h.ids (hS ▸ hSp)
            rw [← hgd] at hrr
            have hfl : (L.filter fun b => decide (b.id ∉ gone)).length = rest.length := by have := hrr.length_eq; simpa using this
            refine ⟨true, gp, gl, gc, gone, (L.filter fun b => decide (b.id ∉ gone)) ++ [⟨ID, bn, mb, size, rank, [vec (rowL ID id (cntK size symbol).toNat ++ data)]⟩], rfl, ?_, ?_, ?_, ?_, fun c hc => ?_⟩
            · exact Row.base_mono (Row.chg hg hcT (Off.of_map h10.mp)) he09.size
            · refine ⟨hn.at hcT h10.sb, h10.fl.nc hn hcT, ?_, fun c hc => ?_, ?_, hpr, ?_⟩
              · rw [List.map_append]; exact hm13
              · rcases List.mem_append.1 hc with hc | hc
                · have hcL := (List.mem_filter.1 hc).1
                  refine (h10.bs c hcL).nc hn hcT ?_
                  intro e
                  exact (List.nodup_cons.1 h.nd).1 (List.mem_map.2 ⟨c, hcL, e⟩)
                · rw [List.mem_singleton] at hc
                  subst hc
                  exact ((hbo7.ext he8).ext (he9.trans he10)).nc hn hcT (by show ¬ mb = sm; omega)
              · rw [List.map_append, ← List.cons_append, List.nodup_append]
                refine ⟨h.nd.sublist ((List.filter_sublist.map _).cons_cons _), by simp, fun x hx y hy => ?_⟩
                simp at hy; subst hy
                rcases List.mem_cons.1 hx with rfl | hx
                · omega
                · obtain ⟨b, hb, rfl⟩ := List.mem_map.1 hx
                  have := hmbs b (List.mem_filter.1 hb).1
                  omega
              · rw [List.length_append, hfl]; simp; omega
            · unfold AddOk; rw [hf]
              exact .inl ⟨rfl, hok, hsym, ⟨S, hSp, hSs, hrf⟩, bn, mb, rfl⟩
            · exact (Ext.any he010 : Chg (ShS sm L) w w10).trans (hcT.mono fun x _ hx => .inl hx)
            · rcases List.mem_append.1 hc with hc | hc
              · exact .inl (List.mem_map.2 ⟨c, (List.mem_filter.1 hc).1, rfl⟩)
              · rw [List.mem_singleton] at hc
                subst hc
                exact .inr (by show w.heap.size ≤ mb; omega)
      · refine br_f ?_
        refine cl_ret (basinAdd_c hbo (hd.ext he06) hqc) ?_
        rintro v w7 ⟨ok, rfl, hiff, hbo7, hc7⟩
        refine ⟨_, rfl, ?_⟩
        have he07 : Ext w w7 := Ext.then he06 hc7 fun y hy => by omega
        cases ok with
        | false => exact br_t (no he07 (.inr (.inl fun hs => by have := hiff.2 hs; cases this)))
        | true =>
          obtain ⟨mm, hmm⟩ := hbo.map
          exact br_f ⟨by simpa using hbo7, he07, (NoCells.of_map hmm).at hc7 (At.ext a5 he6), hiff.1 rfl⟩
end
end Go.SR
