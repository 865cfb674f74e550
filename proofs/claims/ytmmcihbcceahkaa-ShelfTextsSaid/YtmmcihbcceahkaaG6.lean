/- Shelves that are one's own; girandolelaw24.begun answers true. -/
import Derived.Test.YtmmcihbcceahkaaG5
namespace Go.SR
open Go Go.Proofs

theorem ntf {b : Bool} (h : b = true) : ¬ b = false := by rw [h]; decide

/-- All cells stay. -/
def KC (w w' : World) : Prop := w.heap.size ≤ w'.heap.size ∧ ∀ (b : Nat) (cs : Array Value) (t : TypeId) (fl : Nat × Nat), w.heap[b]? = some (Obj.cells cs t fl) → w'.heap[b]? = some (Obj.cells cs t fl)

section
variable {w0 w w' w'' : World} {s f sm : Nat} {frames bytes symbol : Int} {L : List Blk}

theorem KC.refl (w : World) : KC w w := ⟨Nat.le_refl _, fun _ _ _ _ h => h⟩
theorem KC.trans (h : KC w w') (h' : KC w' w'') : KC w w'' := ⟨Nat.le_trans h.1 h'.1, fun b cs t fl hb => h'.2 b cs t fl (h.2 b cs t fl hb)⟩
theorem Ext.kc (h : Ext w w') : KC w w' := ⟨h.size, fun _ _ _ _ hb => h.keep _ _ hb id⟩
theorem Chg.kc {S : Nat → Prop} (h : Chg S w w') (hn : NoCells S w) : KC w w' := ⟨h.size, fun _ _ _ _ hb => h.keep _ _ hb (hn _ _ _ _ hb)⟩
theorem KC.at (h : KC w w') {b : Nat} {cs : Array Value} {t : TypeId} (ha : At w b cs t) : At w' b cs t := h.2 _ _ _ _ ha
theorem KC.ints (h : KC w w') {t : TypeId} {k : IntKind} {p : Option Addr} {l : Nat} {xs : List Int} (hi : Ints t k w p l xs) : Ints t k w' p l xs :=
  ⟨hi.1, fun i x hx => by
    obtain ⟨b, off, cs, fl, hp, hb, hv⟩ := hi.2 i x hx
    exact ⟨b, off, cs, fl, hp, h.2 _ _ _ _ hb, hv⟩⟩
theorem KC.sty (h : KC w w') : Sty w w' := by
  intro a v hv
  unfold World.cell? at *
  cases ho : w.heap[a.block]? with
  | none => simp [ho] at hv
  | some o =>
    cases o with
    | cells cs t fl => rw [h.2 _ _ _ _ ho]; rw [ho] at hv; exact hv
    | _ => rw [ho] at hv; simp at hv
theorem KC.byr (h : KC w w') {p : Option Addr} {l : Nat} {bs : List By} (hb : Byr w p l bs) : Byr w' p l bs := hb.sty h.sty

theorem Byr.of_heap {b : Nat} {cs : Array Value} {t : TypeId} {fl : Nat × Nat} (bs : List By) (h : w.heap[b]? = some (.cells cs t fl)) (hv : cs.toList = bs.map bv) (hl : bs.length < 4611686018427387904) : Byr w (some ⟨b, 0, none⟩) bs.length bs := by
  refine ⟨⟨rfl, hl⟩, fun i x hx => ⟨_, rfl, ?_⟩⟩
  rw [add_mk, Nat.zero_add]
  simp only [World.cell?, h]
  have := congrArg (fun l => l[i]?) hv
  simp only [List.getElem?_map, hx, Option.map_some] at this
  rw [← this]; simp

/-- A shelf that is all new since w0. -/
structure ShI (w0 w : World) (s f sm : Nat) (frames bytes symbol : Int) (L : List Blk) : Prop where
  h : ShelfAt w s f sm frames bytes symbol L
  ext : Ext w0 w
  sn : w0.heap.size ≤ sm
  bn : ∀ b ∈ L, w0.heap.size ≤ b.mb

theorem ShI.more (h : ShI w0 w s f sm frames bytes symbol L) (he : Ext w w') : ShI w0 w' s f sm frames bytes symbol L := ⟨h.h.ext he, Chg.trans h.ext he, h.sn, h.bn⟩

theorem ShI.new {f : Nat} {fr by' sy : Int} (hf : FieldAt w f) (h0 : Ext w0 w) (hp : 1 ≤ fr ∧ fr ≤ 16 ∧ 1 ≤ by' ∧ by' ≤ 65536 ∧ 1 ≤ sy ∧ sy ≤ 64) :
    Cs Try.prog shelf_New_n #[.pointer (some ⟨f, 0, none⟩), .int .i64 fr, .int .i64 by', .int .i64 sy] w (Ret fun v w' => ∃ s sm, v = .tuple #[.pointer (some ⟨s, 0, none⟩), .bool true] ∧ ShI w0 w' s f sm fr by' sy [] ∧ Ext w w') :=
  (shelfNew_c hf hp).ret fun _ _ ⟨s, sm, hv, h, he, hb⟩ => ⟨s, sm, hv, ⟨h, h0.trans he, Nat.le_trans h0.size hb, by simp⟩, he⟩

theorem ShI.add (h : ShI w0 w s f sm frames bytes symbol L) {ID kind size play dl rank id : Int} {rp : Option Addr} {rl rc : Nat} {q : Option Addr} {ql qc : Nat} {data : List By} (hd : Byr w q ql data) (hqc : ql ≤ qc) :
    Cs Try.prog shelf_Shelf_Add_n #[.pointer (some ⟨s, 0, none⟩), .agg #[.int .u32 ID, .int .i64 kind, .slice rp rl rc, .int .i64 size, .int .i64 play, .int .i64 dl], .int .i64 rank, .int .i64 id, .slice q ql qc] w
      (Ret fun v w' => ∃ (ok : Bool) (p : Option Addr) (l c : Nat) (gone : List Int) (L' : List Blk), v = .tuple #[.bool ok, .slice p l c] ∧ RowI w' w.heap.size p l c gone ∧ ShI w0 w' s f sm frames bytes symbol L' ∧ AddOk frames bytes symbol L ID size rank id data ok gone L' ∧ KC w w') :=
  (shelfAdd_c h.h hd hqc).ret fun _ _ ⟨ok, p, l, c, gone, L', hv, hg, hs, ha, hc, hm⟩ => ⟨ok, p, l, c, gone, L', hv, hg, ⟨hs, Ext.then h.ext hc fun x hx => by
      rcases hx with rfl | ⟨b, hb, rfl⟩
      · exact h.sn
      · exact h.bn b hb, h.sn, fun b hb => by
      rcases hm b hb with hm | hm
      · obtain ⟨c, hc, e⟩ := List.mem_map.1 hm
        rw [← e]; exact h.bn c hc
      · exact Nat.le_trans h.ext.size hm⟩, ha, hc.kc h.h.nocells⟩

theorem ShI.drop (h : ShI w0 w s f sm frames bytes symbol L) {k : Int} :
    Cs Try.prog shelf_Shelf_Drop_n #[.pointer (some ⟨s, 0, none⟩), .int .u32 k] w (Ret fun v w' => v = .bool (fnd L k).isSome ∧ ShI w0 w' s f sm frames bytes symbol (L.filter fun b => decide (b.id ≠ k)) ∧ KC w w') :=
  (shelfDrop_c h.h).ret fun _ _ ⟨hv, hs, hc⟩ => ⟨hv, ⟨hs, Ext.then h.ext hc fun x hx => by subst hx; exact h.sn, h.sn, fun b hb => h.bn b (List.mem_filter.1 hb).1⟩, hc.kc (NoCells.of_map h.h.mp)⟩

theorem ShI.rank (h : ShI w0 w s f sm frames bytes symbol L) {k rank : Int} :
    Cs Try.prog shelf_Shelf_Rank_n #[.pointer (some ⟨s, 0, none⟩), .int .u32 k, .int .i64 rank] w (Ret fun v w' => v = .bool (fnd L k).isSome ∧ ShI w0 w' s f sm frames bytes symbol (setRank L k rank) ∧ KC w w') :=
  (shelfRank_c h.h).ret fun _ _ ⟨hv, hs, hc⟩ => ⟨hv, ⟨hs, Ext.then h.ext hc fun x hx => by subst hx; exact h.sn, h.sn, fun b hb => by
      obtain ⟨c, hc, rfl⟩ := List.mem_map.1 hb
      have := h.bn c hc
      split <;> exact this⟩, hc.kc (NoCells.of_map h.h.mp)⟩

theorem solOne {R : List V} {u : V} {o : List By} {outs : List (List By)} {P : List Nat} {X : Nat → V} {size : Nat} (hs : Says 1 R P X) (hu : u ∈ R) (h1 : u 0 = 1#8) (hl : o.length = size) (ho : ∀ t, t < size → vec o t = u (1 + t)) (h : SolOk 1 size R outs) : outs = [o] := by
  refine h.unique hs ⟨rfl, fun i hi => ?_⟩
  have : i = 0 := by omega
  subst this
  refine ⟨hl, u, .of hu, fun j hj => ?_, ho⟩
  have : j = 0 := by omega
  subst this
  rw [h1]; rfl

theorem fnd_cons_same {b : Blk} {L : List Blk} {k : Int} (h : b.id = k) : fnd (b :: L) k = some b := by simp [fnd, h]
theorem fnd_cons_other {b : Blk} {L : List Blk} {k : Int} (h : b.id ≠ k) : fnd (b :: L) k = fnd L k := by simp [fnd, h]
theorem fnd_nil {k : Int} : fnd [] k = none := rfl
end

variable {w : World}

theorem begun24_c : Cs Try.prog glaw24_begun_n #[] w (Ret fun v w' => v = .bool true ∧ Ext w w') := by
  apply glaw24_begun_ok
  unfold glaw24_begun
  refine cl_ret fieldNew_c ?_
  rintro v w1 ⟨f, rfl, hf, he1, hfb⟩
  refine ⟨_, rfl, ?_⟩
  refine cl_ret (ShI.new (fr := 1) (by' := 100) (sy := 2) hf he1 (by omega)) ?_
  rintro v w4 ⟨s, sm, rfl, h4, _⟩
  refine ⟨_, _, rfl, ?_⟩
  refine jn_step (fun _ w' => w' = w4) ?_ (br_f (br_f rfl))
  rintro _ _ w5 rfl
  refine box_step zc31.symm (by simp [Value.oneCell']) fun m8 w10 a10 he10 hb10 => ?_
  refine box_step zc31.symm (by simp [Value.oneCell']) fun m11 w13 a13 he13 hb13 => ?_
  have a8 := a10.ext he13
  refine ⟨_, _, _, _, _, _, _, _, a8.all rfl, ?_⟩
  refine al_step fun m22 w23 a23 he23 hb23 => ?_
  refine conv_fresh a23 fun w25 hh25 hc25 => ⟨_, _, _, rfl, ?_⟩
  have e13_25 : Ext w13 w25 := Ext.then he23 hc25 fun x hx => by omega
  have h25 := ((h4.more he10).more he13).more e13_25
  have hb25 := Byr.of_heap [97#8, 98#8] hh25 rfl (by simp)
  have a11 : At w25 m11 _ 31 := At.ext a13 e13_25
  refine cl_ret (h25.add hb25 (Nat.le_refl _)) ?_
  rintro v w30 ⟨ok, p32, l33, c34, gone, L1, rfl, hg1, h30, hadd, hk30⟩
  refine ⟨_, _, _, _, rfl, ?_⟩
  have had := addNew (id := 0) hadd (by simp) rfl (by decide) (by decide) (by decide) rfl (T := []) (List.Perm.refl _) (by simp)
  rw [show roomF 1 100 ⟨1, 3, cntK 3 2 * 2⟩ [] (bsum 2 []) = some [] by kernel_rfl] at had
  obtain ⟨rfl, rfl, bn1, mb1, rfl⟩ := had
  simp only [List.filter_nil, List.nil_append] at h30
  generalize vec (rowL 1 0 (cntK 3 2).toNat ++ [97#8, 98#8]) = u1 at h30 hadd
  refine cl_ret (shelfMissing_c h30.h) ?_
  rintro v w36 ⟨rfl, he36⟩
  refine ⟨_, _, rfl, ?_⟩
  have a11' := (hk30.at a11).ext he36
  refine ⟨_, _, _, _, _, _, _, _, a11'.all rfl, ?_⟩
  refine al_step fun m47 w48 a48 he48 hb48 => ?_
  refine conv_fresh a48 fun w50 hh50 hc50 => ⟨_, _, _, rfl, ?_⟩
  have e36_50 : Ext w36 w50 := Ext.then he48 hc50 fun x hx => by omega
  have h50 := (h30.more he36).more e36_50
  have hb50 := Byr.of_heap [99#8, 100#8] hh50 rfl (by simp)
  refine cl_ret (h50.add hb50 (Nat.le_refl _)) ?_
  rintro v w55 ⟨ok2, p57, l58, c59, gone2, L2, rfl, hg2, h55, hadd2, hk55⟩
  refine ⟨_, _, _, _, rfl, ?_⟩
  have had2 := addNew (id := 0) hadd2 (by simp) (by rw [fnd_cons_other (show (1 : Int) ≠ 2 by decide), fnd_nil]) (by decide) (by decide) (by decide) rfl (T := [⟨1, 3, 4⟩]) (List.Perm.refl _) (by simp)
  rw [show roomF 1 100 ⟨2, 0, cntK 2 2 * 2⟩ [⟨1, 3, 4⟩] (bsum 2 [⟨1, bn1, mb1, 3, 3, [u1]⟩]) = some [1] by kernel_rfl] at had2
  obtain ⟨rfl, rfl, bn2, mb2, rfl⟩ := had2
  simp only [List.filter_cons, List.mem_singleton, not_true, decide_false, List.filter_nil, List.nil_append, Bool.false_eq_true, if_false] at h55
  have hvr : vec (rowL 2 0 (cntK 2 2).toNat ++ [99#8, 100#8]) = vec [1#8, 99#8, 100#8] := by kernel_rfl
  rw [hvr] at h55
  refine cl_ret (shelfPayload_c h55.h) ?_
  rintro v w61 ⟨he61, hv⟩
  rw [fnd_cons_same rfl] at hv
  dsimp only at hv
  rw [if_neg (by decide)] at hv
  obtain ⟨p62, l63, c64, outs, rfl, hso, hr61⟩ := hv
  refine ⟨_, _, _, _, rfl, ?_⟩
  have houts : outs = [[99#8, 100#8]] := by
    obtain ⟨_, b, _, _, P, X, _, hsays⟩ := h55.h.bs _ (List.mem_singleton.2 rfl)
    refine solOne hsays (List.mem_singleton.2 rfl) (by decide) rfl (fun t ht => ?_) hso
    have ht : t < 2 := ht
    match t, ht with
    | 0, _ => rfl
    | 1, _ => rfl
  subst houts
  have hb61 := hr61.byr (by simp)
  refine cl_ret (shelfIDs_c (h55.more he61).h) ?_
  rintro v w67 ⟨p68, l69, c70, ks, rfl, hr67, hp67, ha67, he67⟩
  have hks : ks = [2] := List.perm_singleton.1 hp67
  subst hks
  have h67 := (h55.more he61).more he67
  refine ⟨_, _, _, rfl, ?_⟩
  have l58e := hg2.lenI
  have l69e := hr67.lenI
  simp only [List.length_singleton] at l58e l69e
  subst l58e l69e
  refine br_t (br_t (br_iff.2 ⟨fun _ => ?_, fun h => absurd h (ntf (by kernel_rfl))⟩))
  refine br_t (br_iff.2 ⟨fun _ => ?_, fun h => absurd h (by decide)⟩)
  have hgi : Ints 23 .u32 w67 p57 1 [1] := ((Row.ints hg2 (by simp)).ext he61).ext he67
  refine hgi.ix (by omega) (by simp) fun a ha => ⟨_, ha, br_iff.2 ⟨fun _ => br_t ?_, fun h => absurd h (by decide)⟩⟩
  refine str_step (hb61.ext he67) ⟨_, rfl, br_iff.2 ⟨fun _ => ?_, fun h => absurd h (ntf (by kernel_rfl))⟩⟩
  refine br_iff.2 ⟨fun _ => ?_, fun h => absurd h (by decide)⟩
  have hki : Ints 23 .u32 w67 p68 1 [2] := Row.ints hr67 (by simp)
  refine hki.ix (by omega) (by simp) fun a ha => ⟨_, ha, br_iff.2 ⟨fun _ => ?_, fun h => absurd h (by decide)⟩⟩
  refine cl_ret (shelfBytes_c h67.h) ?_
  rintro v w79 ⟨rfl, he79⟩
  refine ⟨_, rfl, br_iff.2 ⟨fun _ => ?_, fun h => absurd h (ntf (by kernel_rfl))⟩⟩
  refine cl_ret (h67.more he79).rank ?_
  rintro v w82 ⟨rfl, h82, _⟩
  refine ⟨_, rfl, br_t ?_⟩
  refine cl_ret h82.drop ?_
  rintro v w85 ⟨rfl, h85, _⟩
  refine ⟨_, rfl, br_t ?_⟩
  refine cl_ret h85.drop ?_
  rintro v w88 ⟨rfl, h88, _⟩
  exact ⟨_, rfl, rfl, h88.ext⟩
end Go.SR
