/- girandolelaw24.ShelfForms answers true. -/
import Derived.Test.YtmmcihbcceahkaaG7
namespace Go.SR
open Go Go.Proofs

/-- Who lies there then. -/
def afterT (T : List Wn) (who : Wn) : Option (List Int) → List Wn
  | none => T
  | some g => (T.filter fun x => decide (x.id ∉ g)) ++ [who]

theorem addT {frames bytes symbol : Int} {L L' : List Blk} {ID size rank id : Int} {data : List By} {ok : Bool} {gone : List Int} {T S : List Wn} {r : Option (List Int)} (h : AddOk frames bytes symbol L ID size rank id data ok gone L') (hn : (L.map Blk.id).Nodup) (hT : L.map (wnB symbol) = T) (hf : ID ∉ T.map Wn.id)
    (hc : cntOk size symbol = true) (h0 : 0 ≤ id) (h1 : id < cntK size symbol) (hd : (data.length : Int) = symbol) (hS : T.Perm S) (hSs : S.Pairwise (fun a b => wrs b a = false)) (hr : roomF frames bytes ⟨ID, rank, cntK size symbol * symbol⟩ S (T.map Wn.bytes).sum = r) :
    ok = r.isSome ∧ gone = r.getD [] ∧ L'.map (wnB symbol) = afterT T ⟨ID, rank, cntK size symbol * symbol⟩ r := by
  have hA := addNew h hn (fnd_none_of hT hf) hc h0 h1 hd (by rw [hT]; exact hS) hSs
  rw [bsum_of hT, hr] at hA
  cases r with
  | none =>
    obtain ⟨e1, e2, e3⟩ := hA
    exact ⟨e1, e2, by rw [e3]; exact hT⟩
  | some g =>
    obtain ⟨e1, e2, bn, mb, e3⟩ := hA
    refine ⟨e1, e2, ?_⟩
    subst e2
    rw [e3, List.map_append, ← hT]
    dsimp only [afterT]
    rw [List.filter_map]; rfl

variable {w w0 : World}

/-- The shelf of the law, its word and its putter. -/
def JT (w0 w : World) (s f sm m n : Nat) (T : List Wn) : Prop := ∃ L, ShI w0 w s f sm 3 20 4 L ∧ L.map (wnB 4) = T ∧ At w m #[.int .u8 1, .int .u8 2, .int .u8 3, .int .u8 4] 5 ∧ At w n #[.pointer (some ⟨s, 0, none⟩), .slice (some ⟨m, 0, none⟩) 4 4] 81

theorem JT.kc {w' : World} {s f sm m n : Nat} {T : List Wn} (h : JT w0 w s f sm m n T) (he : Ext w w') : JT w0 w' s f sm m n T := by
  obtain ⟨L, h1, h2, h3, h4⟩ := h
  exact ⟨L, h1.more he, h2, h3.ext he, h4.ext he⟩

theorem dat4_byr {m : Nat} (h : At w m #[.int .u8 1, .int .u8 2, .int .u8 3, .int .u8 4] 5) : Byr w (some ⟨m, 0, none⟩) 4 dat4 := Byr.of_heap dat4 h rfl (by simp [dat4])

theorem JT.add {s f sm m n : Nat} {T S : List Wn} {ID size rank id : Int} {r : Option (List Int)} (h : JT w0 w s f sm m n T) (hf : ID ∉ T.map Wn.id) (hS : T.Perm S) (hSs : S.Pairwise (fun a b => wrs b a = false)) (hc : cntOk size 4 = true) (h0 : 0 ≤ id) (h1 : id < cntK size 4)
    (hr : roomF 3 20 ⟨ID, rank, cntK size 4 * 4⟩ S (T.map Wn.bytes).sum = r) {kind play dl : Int} {rp : Option Addr} {rl rc : Nat} :
    Cs Try.prog shelf_Shelf_Add_n #[.pointer (some ⟨s, 0, none⟩), .agg #[.int .u32 ID, .int .i64 kind, .slice rp rl rc, .int .i64 size, .int .i64 play, .int .i64 dl], .int .i64 rank, .int .i64 id, .slice (some ⟨m, 0, none⟩) 4 4] w
      (Ret fun v w' => ∃ p l c, v = .tuple #[.bool r.isSome, .slice p l c] ∧ RowI w' w.heap.size p l c (r.getD []) ∧ JT w0 w' s f sm m n (afterT T ⟨ID, rank, cntK size 4 * 4⟩ r)) := by
  obtain ⟨L, hL, hT, hm, hn⟩ := h
  refine (hL.add (dat4_byr hm) (Nat.le_refl _)).ret ?_
  rintro v w' ⟨ok, p, l, c, gone, L', rfl, hg, hS', hadd, hk⟩
  obtain ⟨rfl, rfl, e3⟩ := addT hadd hL.h.ids hT hf hc h0 h1 rfl hS hSs hr
  exact ⟨p, l, c, rfl, hg, L', hS', e3, hk.at hm, hk.at hn⟩

theorem JT.put {s f sm m n : Nat} {T S : List Wn} {ID size rank : Int} {r : Option (List Int)} (h : JT w0 w s f sm m n T) (hf : ID ∉ T.map Wn.id) (hS : T.Perm S) (hSs : S.Pairwise (fun a b => wrs b a = false)) (hc : cntOk size 4 = true) (h1 : 0 < cntK size 4)
    (hr : roomF 3 20 ⟨ID, rank, cntK size 4 * 4⟩ S (T.map Wn.bytes).sum = r) :
    Cs Try.prog glaw24_putter_of_n #[.agg #[.pointer (some ⟨s, 0, none⟩), .slice (some ⟨m, 0, none⟩) 4 4], .int .u32 ID, .int .i64 size, .int .i64 rank] w
      (Ret fun v w' => v = .bool r.isSome ∧ JT w0 w' s f sm m n (afterT T ⟨ID, rank, cntK size 4 * 4⟩ r)) := by
  apply glaw24_putter_of_ok
  unfold glaw24_putter_of
  refine al_step fun m0 w1 a1 he1 hb1 => ⟨_, by rw [a1.cell]; rfl, _, _, _, by rw [add_mk, a1.cell]; rfl, ?_⟩
  refine cl_ret ((h.kc he1).add hf hS hSs hc (Int.le_refl 0) h1 hr) ?_
  rintro v w2 ⟨p, l, c, rfl, _, h2⟩
  exact ⟨_, _, _, _, rfl, rfl, h2⟩

theorem JT.bytes {s f sm m n : Nat} {T : List Wn} (h : JT w0 w s f sm m n T) : Cs Try.prog shelf_Shelf_Bytes_n #[.pointer (some ⟨s, 0, none⟩)] w (Ret fun v w' => v = .int .i64 (T.map Wn.bytes).sum ∧ JT w0 w' s f sm m n T) := by
  obtain ⟨L, hL, hT, hm, hn⟩ := h
  refine (shelfBytes_c hL.h).ret ?_
  rintro v w' ⟨rfl, he⟩
  exact ⟨by rw [bsum_of hT], L, hL.more he, hT, hm.ext he, hn.ext he⟩

theorem JT.ids {s f sm m n : Nat} {T : List Wn} (h : JT w0 w s f sm m n T) : Cs Try.prog shelf_Shelf_IDs_n #[.pointer (some ⟨s, 0, none⟩)] w (Ret fun v w' => ∃ p l c, v = .slice p l c ∧ l = T.length ∧ JT w0 w' s f sm m n T) := by
  obtain ⟨L, hL, hT, hm, hn⟩ := h
  refine (shelfIDs_c hL.h).ret ?_
  rintro v w' ⟨p, l, c, ks, rfl, hr, hp, ha, he⟩
  refine ⟨p, l, c, rfl, ?_, L, hL.more he, hT, hm.ext he, hn.ext he⟩
  have h1 := hr.lenI
  have h2 := hp.length_eq
  have h3 := congrArg List.length hT
  simp at h2 h3
  omega

theorem zc81 : (zc Try.prog 81).size = 2 := by kernel_rfl

theorem ShelfForms_c : Cs Try.prog glaw24_ShelfForms_n #[] w (Ret fun v w' => v = .bool true ∧ Ext w w') := by
  apply glaw24_ShelfForms_ok
  unfold glaw24_ShelfForms
  refine cl_ret begun24_c ?_
  rintro v w3 ⟨rfl, he3⟩
  refine ⟨_, rfl, br_f ?_⟩
  refine cl_ret fieldNew_c ?_
  rintro v w6 ⟨f, rfl, hf, he6, _⟩
  refine ⟨_, rfl, ?_⟩
  refine cl_ret (ShI.new (w0 := w) (fr := 3) (by' := 20) (sy := 4) hf (he3.trans he6) (by omega)) ?_
  rintro v w9 ⟨s, sm, rfl, h9, he9⟩
  refine ⟨_, _, rfl, ?_⟩
  refine jn_step (fun _ w' => w' = w9) ?_ (br_f (br_f rfl))
  rintro _ _ w12 rfl
  refine al_step fun m w14 a14 he14 _ => ?_
  refine al_step fun n w16 a16 he16 hb16 => ?_
  refine stN_step a16 (by rw [zc81]; simp) (by simp [Value.oneCell']) fun w17 a17 c17 => ?_
  rw [over_all (by rw [zc81]; rfl)] at a17
  have e17 : Ext w14 w17 := Ext.then he16 c17 fun y hy => by omega
  have J : JT w w17 s f sm m n [] := ⟨[], (h9.more he14).more e17, rfl, a14.ext e17, a17⟩
  have out : ∀ {w' : World} {T : List Wn}, JT w w' s f sm m n T → Ext w w' := fun ⟨_, h, _⟩ => h.ext
  -- the end
  refine jn_step (fun _ w' => JT w w' s f sm m n [⟨1, 3, 12⟩, ⟨2, 2, 4⟩, ⟨3, 0, 4⟩]) ?_ ?_
  · clear J a17 c17 e17
    rintro _ _ w18 J
    refine jn_step (fun _ w' => JT w w' s f sm m n [⟨1, 3, 12⟩, ⟨2, 2, 4⟩, ⟨3, 0, 4⟩]) ?_ ?_
    · clear J
      rintro _ _ w19 J
      refine cl_ret (J.add (S := [⟨1, 3, 12⟩, ⟨2, 2, 4⟩, ⟨3, 0, 4⟩]) (r := some [1]) (by simp) (.refl _) (by decide) (by decide) (by decide) (by decide) (by kernel_rfl)) ?_
      rintro v w20 ⟨p, l, c, rfl, hg, J⟩
      refine ⟨_, _, _, _, rfl, ?_⟩
      have J : JT w w20 s f sm m n [⟨2, 2, 4⟩, ⟨3, 0, 4⟩, ⟨4, 1, 8⟩] := J
      refine jn_step (fun _ w' => JT w w' s f sm m n [⟨2, 2, 4⟩, ⟨3, 0, 4⟩, ⟨4, 1, 8⟩]) ?_ ?_
      · clear J hg
        rintro _ _ w21 J
        refine cl_ret (J.add (S := [⟨2, 2, 4⟩, ⟨4, 1, 8⟩, ⟨3, 0, 4⟩]) (r := some [2, 4]) (by simp) (.cons _ (.swap _ _ _)) (by decide) (by decide) (by decide) (by decide) (by kernel_rfl)) ?_
        rintro v w22 ⟨p, l, c, rfl, hg, J⟩
        refine ⟨_, _, _, _, rfl, ?_⟩
        have J : JT w w22 s f sm m n [⟨3, 0, 4⟩, ⟨5, 0, 16⟩] := J
        refine jn_step (fun _ w' => JT w w' s f sm m n [⟨3, 0, 4⟩, ⟨5, 0, 16⟩]) ?_ ?_
        · clear J hg
          rintro _ _ w23 J
          refine cl_ret (J.add (S := [⟨5, 0, 16⟩, ⟨3, 0, 4⟩]) (r := some [5]) (by simp) (.swap _ _ _) (by decide) (by decide) (by decide) (by decide) (by kernel_rfl)) ?_
          rintro v w24 ⟨p, l, c, rfl, hg, J⟩
          refine ⟨_, _, _, _, rfl, br_t ?_⟩
          have J : JT w w24 s f sm m n [⟨3, 0, 4⟩, ⟨0, 0, 8⟩] := J
          have hl := hg.lenI
          simp only [Option.getD_some, List.length_singleton] at hl
          subst hl
          refine br_t ?_
          have hgi : Ints 23 .u32 w24 p 1 [5] := Row.ints hg (by simp)
          refine hgi.ix (by omega) (by simp) fun aa haa => ⟨_, haa, br_t ?_⟩
          obtain ⟨L, hL, hT, hm, hn⟩ := id J
          refine ⟨_, _, _, _, hn.all rfl, ?_⟩
          refine cl_ret (J.put (S := [⟨3, 0, 4⟩, ⟨0, 0, 8⟩]) (r := none) (by simp) (.refl _) (by decide) (by decide) (by decide) (by kernel_rfl)) ?_
          rintro v w25 ⟨rfl, J⟩
          refine ⟨_, rfl, br_t ?_⟩
          have J : JT w w25 s f sm m n [⟨3, 0, 4⟩, ⟨0, 0, 8⟩] := J
          refine cl_ret J.bytes ?_
          rintro v w26 ⟨rfl, J⟩
          refine ⟨_, rfl, br_t ?_⟩
          refine cl_ret J.ids ?_
          rintro v w27 ⟨p, l, c, rfl, rfl, J⟩
          exact ⟨_, _, _, rfl, rfl, out J⟩
        · have hl := hg.lenI
          simp only [Option.getD_some, List.length_cons, List.length_nil] at hl
          subst hl
          refine br_f (br_f ?_)
          have hgi : Ints 23 .u32 w22 p 2 [2, 4] := Row.ints hg (by simp)
          refine hgi.ix (by omega) (by simp) fun aa haa => ⟨_, haa, br_f ?_⟩
          refine hgi.ix (by omega) (by simp) fun ab hab => ⟨_, hab, br_f ?_⟩
          refine cl_ret J.bytes ?_
          rintro v w23 ⟨rfl, J⟩
          exact ⟨_, rfl, br_f J⟩
      · have hl := hg.lenI
        simp only [Option.getD_some, List.length_cons, List.length_nil] at hl
        subst hl
        refine br_f (br_f ?_)
        have hgi : Ints 23 .u32 w20 p 1 [1] := Row.ints hg (by simp)
        refine hgi.ix (by omega) (by simp) fun aa haa => ⟨_, haa, br_f ?_⟩
        refine cl_ret J.bytes ?_
        rintro v w23 ⟨rfl, J⟩
        exact ⟨_, rfl, br_f J⟩
    · have put : ∀ {ID size rank : Int} {w1 : World}, JT w w1 s f sm m n [⟨1, 3, 12⟩, ⟨2, 2, 4⟩, ⟨3, 0, 4⟩] → ID ∉ ([1, 2, 3] : List Int) → cntOk size 4 = true → 0 < cntK size 4 → roomF 3 20 ⟨ID, rank, cntK size 4 * 4⟩ [⟨1, 3, 12⟩, ⟨2, 2, 4⟩, ⟨3, 0, 4⟩] 20 = none →
          Cs Try.prog glaw24_putter_of_n #[.agg #[.pointer (some ⟨s, 0, none⟩), .slice (some ⟨m, 0, none⟩) 4 4], .int .u32 ID, .int .i64 size, .int .i64 rank] w1 (Ret fun v w' => v = .bool false ∧ JT w w' s f sm m n [⟨1, 3, 12⟩, ⟨2, 2, 4⟩, ⟨3, 0, 4⟩]) :=
        fun J hf hc h1 hr => J.put (r := none) hf (.refl _) (by decide) hc h1 hr
      obtain ⟨L, hL, hT, hm, hn⟩ := id J
      refine ⟨_, _, _, _, hn.all rfl, ?_⟩
      refine cl_ret (put J (by decide) (by decide) (by decide) (by kernel_rfl)) ?_
      clear hL hT hm hn L J
      rintro v w19 ⟨rfl, J⟩
      refine ⟨_, rfl, br_f ?_⟩
      obtain ⟨L, hL, hT, hm, hn⟩ := id J
      refine ⟨_, _, _, _, hn.all rfl, ?_⟩
      refine cl_ret (put J (by decide) (by decide) (by decide) (by kernel_rfl)) ?_
      clear hL hT hm hn L J
      rintro v w20 ⟨rfl, J⟩
      refine ⟨_, rfl, br_f ?_⟩
      obtain ⟨L, hL, hT, hm, hn⟩ := id J
      refine ⟨_, _, _, _, hn.all rfl, ?_⟩
      refine cl_ret (put J (by decide) (by decide) (by decide) (by kernel_rfl)) ?_
      clear hL hT hm hn L J
      rintro v w21 ⟨rfl, J⟩
      refine ⟨_, rfl, br_f ?_⟩
      refine cl_ret J.ids ?_
      rintro v w22 ⟨p, l, c, rfl, rfl, J⟩
      exact ⟨_, _, _, rfl, br_f J⟩
  · refine ⟨_, _, _, _, a17.all rfl, ?_⟩
    refine cl_ret (J.put (S := []) (r := some []) (by simp) (.refl _) (by decide) (by decide) (by decide) (by kernel_rfl)) ?_
    clear J a17 c17 e17
    rintro v w19 ⟨rfl, J⟩
    have J : JT w w19 s f sm m n [⟨1, 3, 12⟩] := J
    refine ⟨_, rfl, br_f ?_⟩
    obtain ⟨L, hL, hT, hm, hn⟩ := id J
    refine ⟨_, _, _, _, hn.all rfl, ?_⟩
    refine cl_ret (J.put (S := [⟨1, 3, 12⟩]) (r := some []) (by simp) (.refl _) (by decide) (by decide) (by decide) (by kernel_rfl)) ?_
    clear hL hT hm hn L J
    rintro v w20 ⟨rfl, J⟩
    have J : JT w w20 s f sm m n [⟨1, 3, 12⟩, ⟨2, 2, 4⟩] := J
    refine ⟨_, rfl, br_f ?_⟩
    obtain ⟨L, hL, hT, hm, hn⟩ := id J
    refine ⟨_, _, _, _, hn.all rfl, ?_⟩
    refine cl_ret (J.put (S := [⟨1, 3, 12⟩, ⟨2, 2, 4⟩]) (r := some []) (by simp) (.refl _) (by decide) (by decide) (by decide) (by kernel_rfl)) ?_
    clear hL hT hm hn L J
    rintro v w21 ⟨rfl, J⟩
    have J : JT w w21 s f sm m n [⟨1, 3, 12⟩, ⟨2, 2, 4⟩, ⟨3, 0, 4⟩] := J
    refine ⟨_, rfl, br_f ?_⟩
    refine cl_ret J.bytes ?_
    rintro v w22 ⟨rfl, J⟩
    exact ⟨_, rfl, br_f J⟩
end Go.SR
