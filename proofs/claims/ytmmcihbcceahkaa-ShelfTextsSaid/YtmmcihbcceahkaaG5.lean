/- What the shelf's statements lean on: who is let in; girandolelaw24.begun, same; girandoleref12.Worse. -/
import Derived.Test.YtmmcihbcceahkaaG4
import Derived.Laws.BytesString
import Derived.Laws.IdiomStrings
namespace Go.SR
open Go Go.Proofs

theorem und5 : Try.prog.underlying 5 = some (.int .u8) := by kernel_rfl
theorem und9 : Try.prog.underlying 9 = some .string := by kernel_rfl

section
variable {w : World}

/-- A constant text as bytes: they are marked, and read as they were. -/
theorem conv_fresh {b l c : Nat} {cs : Array Value} {F : Value → World → Prop} (hat : At w b cs 5)
    (hF : ∀ w', w'.heap[b]? = some (.cells cs 5 (cs.size, cs.size + 1)) → Chg (fun x => x = b) w w' → F (.slice (some ⟨b, 0, none⟩) l c) w') : rnV Try.prog (convert 22 22 (.slice (some ⟨b, 0, none⟩) l c)) w F := by
  have hat' : w.heap[b]? = some (.cells cs 5 (0, 0)) := hat
  refine ⟨_, w.freeze ⟨b, cs.size, none⟩ 1, ?_, hF _ ?_ ?_⟩
  · have hsh : w.shape? b = some (5, cs.size) := by simp [World.shape?, hat']
    simp [convert, run_underlying und22, run_underlying und5, markStringish, hsh, Result.andThen]
  · show ((w.heap.modify b _))[b]? = _
    rw [Array.getElem?_modify, if_pos rfl, hat']; rfl
  · refine ⟨by simp [World.freeze], fun x o hx hne => ?_, rfl, rfl, rfl⟩
    simp only [World.freeze]
    rw [if_neg (by omega)]
    show (w.heap.modify b _)[x]? = some o
    rw [Array.getElem?_modify, if_neg (fun e => hne e.symm)]; exact hx

/-- A text of bytes. -/
def strB (bs : List By) : ByteArray := ⟨(bs.map UInt8.ofBitVec).toArray⟩

theorem str_step {p : Option Addr} {l c : Nat} {bs : List By} {F : Value → World → Prop} (hb : Byr w p l bs) (h : F (.string (strB bs)) w) : rnV Try.prog (convert 22 9 (.slice p l c)) w F := by
  have hl := hb.len
  cases p with
  | none =>
    have : bs = [] := by
      cases bs with
      | nil => rfl
      | cons b bs => obtain ⟨a, ha, _⟩ := hb.2 0 b rfl; cases ha
    subst this
    refine ⟨_, _, ?_, h⟩
    rw [run_convert_bytes_string w 22 9 5 none l c und22 und5 und9]
    simp [Conv.bytesToString, strB]
    rfl
  | some a =>
    refine ⟨_, _, ?_, h⟩
    have := run_convert_bytes_back (P := Try.prog) w 22 9 5 a c (bs.map UInt8.ofBitVec) und22 und5 und9 (fun j hj => by
      have hj' : j < bs.length := by simpa using hj
      obtain ⟨a', ha, hc⟩ := hb.2 j _ (List.getElem?_eq_getElem hj')
      cases ha
      rw [hc]; simp [bv])
    rw [List.length_map, ← hl] at this
    exact this

theorem same24_c {p q : Option Addr} {pl pc ql qc : Nat} {xs ys : List Int} (ha : U32s w p pl xs) (hb : U32s w q ql ys) :
    Cs Try.prog glaw24_same_n #[.slice p pl pc, .slice q ql qc] w (Ret fun v w' => v = .bool (decide (xs = ys)) ∧ Ext w w') := by
  have hla := ha.len
  have hlb := hb.len
  have hlt := ha.lt
  apply glaw24_same_ok
  unfold glaw24_same
  refine br_iff.2 ⟨fun hne => ⟨?_, Ext.refl _⟩, fun heq => ?_⟩
  · have : xs.length ≠ ys.length := by simp at hne; omega
    rw [decide_eq_false]; rintro rfl; exact this rfl
  · have heq : xs.length = ys.length := by simp at heq; omega
    refine lp_step (fun n st w' => ∃ i : Nat, st = i ∧ i ≤ xs.length ∧ xs.take i = ys.take i ∧ Ext w w' ∧ n = xs.length - i) _ ⟨0, rfl, by omega, by simp, Ext.refl _, rfl⟩ ?_
    rintro n _ _ w1 ⟨i, rfl, hi, ht, he1, hn⟩ K hK
    refine br_if (fun hlt' => ?_) (fun hge => ?_)
    · refine dr_step fun w2 _ he2 => ?_
      have he02 : Ext w w2 := Chg.trans he1 he2
      refine (ha.ext he02).ix (by omega) (by omega) fun a1 h1 => ⟨_, h1, ?_⟩
      refine (hb.ext he02).ix (by omega) (by omega) fun a2 h2 => ⟨_, h2, ?_⟩
      have g1 := gI_get (xs := xs) (i := i) (by omega) (by omega)
      have g2 := gI_get (xs := ys) (i := i) (by omega) (by omega)
      rw [Int.toNat_natCast] at g1 g2
      refine br_iff.2 ⟨fun hne => ⟨?_, he02⟩, fun he => ?_⟩
      · have hne : gI xs i ≠ gI ys i := by simpa using hne
        rw [decide_eq_false]
        rintro rfl
        exact hne rfl
      · have he : gI xs i = gI ys i := by simpa using he
        rw [w64 (by omega) (by omega)]
        refine hK (xs.length - (i + 1)) _ _ (by omega) ⟨i + 1, by simp, by omega, ?_, he02, rfl⟩
        rw [List.take_add_one, List.take_add_one, g1, g2, ht, he]
    · have : i = xs.length := by omega
      subst this
      refine ⟨?_, he1⟩
      rw [List.take_length, heq, List.take_length] at ht
      rw [decide_eq_true ht]

theorem worse12_c {x y : Wn} : Cs Try.prog gref12_Worse_n #[.agg #[.int .u32 x.id, .int .i64 x.rank, .int .i64 x.bytes], .agg #[.int .u32 y.id, .int .i64 y.rank, .int .i64 y.bytes]] w
    (Ret fun v w' => v = .bool (wrs x y) ∧ Ext w w') := by
  apply gref12_Worse_ok
  unfold gref12_Worse
  refine al_step fun m0 w1 a1 he1 _ => al_step fun m2 w3 a3 he3 _ => ?_
  have a13 := a1.ext he3
  have he := he1.trans he3
  refine ⟨_, by rw [add_mk, a13.cell]; rfl, _, by rw [add_mk, a3.cell]; rfl, ?_⟩
  refine br_if (fun h => ⟨?_, he⟩) (fun h => ?_)
  · simp [wrs, h]
  · refine ⟨_, by rw [add_mk, a13.cell]; rfl, _, by rw [add_mk, a3.cell]; rfl, ?_⟩
    refine br_iff.2 ⟨fun e => ?_, fun e => ⟨?_, he⟩⟩
    · have e : x.rank = y.rank := by simpa using e
      refine ⟨_, by rw [a13.cell]; rfl, _, by rw [a3.cell]; rfl, ?_, he⟩
      simp [wrs, e]
    · have e : ¬ x.rank = y.rank := by simpa using e
      simp only [wrs]
      rw [decide_eq_false]
      omega
end

/-! ### first symbols -/

theorem more_nil {k : Nat} {v : V} {i : Nat} (hi : i < k) (h : v i ≠ 0#8) : More k [] v := by
  rw [(Says.nil k fun _ => vz).more]
  refine ⟨i, hi, ?_⟩
  have : red (fun _ => vz) [] v = v := va_z v
  rw [this]; exact h

theorem rowL_sys {frame id : Int} {k : Nat} (h1 : id < k) : rowL frame id k = (List.replicate k 0#8).set id.toNat 1#8 := by unfold rowL; rw [if_pos h1]

theorem sym0 {ID size symbol id : Int} {data : List By} (h : cntOk size symbol = true) (h0 : 0 ≤ id) (h1 : id < cntK size symbol) (hd : (data.length : Int) = symbol) : SymOk ID size symbol [] id data := by
  have hk := cntK_bd h
  refine ⟨h0, by omega, hd, ?_⟩
  refine more_nil (i := id.toNat) (by omega) ?_
  rw [vec_append_lt (by rw [rowL_len]; omega), rowL_sys (by omega)]
  simp only [vec, List.getD_eq_getElem?_getD, List.getElem?_set]
  have hm : max id 0 < cntK size symbol := by omega
  simp [hm]

theorem wn_eq {a b : Wn} (h1 : a.id = b.id) (h2 : a.rank = b.rank) (h3 : a.bytes = b.bytes) : a = b := by cases a; cases b; simp_all

/-- There is but one order. -/
theorem sorted_eq {S T : List Wn} (hp : S.Perm T) (hn : (T.map Wn.id).Nodup) (hS : S.Pairwise (fun a b => wrs b a = false)) (hT : T.Pairwise (fun a b => wrs b a = false)) : S = T := by
  refine List.Perm.eq_of_pairwise (le := fun a b => wrs b a = false) (fun a b ha hb h1 h2 => ?_) hS hT hp
  simp only [wrs, decide_eq_false_iff_not] at h1 h2
  have hid : a.id = b.id := by omega
  have ha' := hp.mem_iff.1 ha
  clear h1 h2
  induction T generalizing S with
  | nil => simp at ha'
  | cons c T ih =>
    simp only [List.map_cons, List.nodup_cons] at hn
    rcases List.mem_cons.1 ha' with rfl | h1 <;> rcases List.mem_cons.1 hb with rfl | h2
    · rfl
    · exact absurd (List.mem_map.2 ⟨b, h2, hid.symm⟩) hn.1
    · exact absurd (List.mem_map.2 ⟨a, h1, hid⟩) hn.1
    · exact ih (S := T) (List.Perm.refl _) hn.2 (List.pairwise_cons.1 hT).2 (List.pairwise_cons.1 hT).2 h1 h2 h1

/-- One who is not there comes with a first symbol. -/
theorem addNew {frames bytes symbol : Int} {L L' : List Blk} {ID size rank id : Int} {data : List By} {ok : Bool} {gone : List Int} (h : AddOk frames bytes symbol L ID size rank id data ok gone L') (hn : (L.map Blk.id).Nodup) (hf : fnd L ID = none)
    (hc : cntOk size symbol = true) (h0 : 0 ≤ id) (h1 : id < cntK size symbol) (hd : (data.length : Int) = symbol) {T : List Wn} (hT : (L.map (wnB symbol)).Perm T) (hTs : T.Pairwise (fun a b => wrs b a = false)) :
    match roomF frames bytes ⟨ID, rank, cntK size symbol * symbol⟩ T (bsum symbol L) with
    | some g => ok = true ∧ gone = g ∧ ∃ bn mb, L' = (L.filter fun b => decide (b.id ∉ gone)) ++ [⟨ID, bn, mb, size, rank, [vec (rowL ID id (cntK size symbol).toNat ++ data)]⟩]
    | none => ok = false ∧ gone = [] ∧ L' = L := by
  have hTn : (T.map Wn.id).Nodup := by rw [← (hT.map Wn.id).nodup_iff, wnB_ids]; exact hn
  have hs := sym0 (ID := ID) hc h0 h1 hd
  unfold AddOk at h
  rw [hf] at h
  rcases h with ⟨e1, _, _, ⟨S, hp, hso, hr⟩, hL⟩ | ⟨e1, e2, e3, he⟩
  · have : S = T := sorted_eq (hp.trans hT) hTn hso hTs
    subst this
    rw [hr]
    exact ⟨e1, rfl, hL⟩
  · rcases he with he | he | ⟨S, hp, hso, hr⟩
    · rw [hc] at he; cases he
    · exact absurd hs he
    · have : S = T := sorted_eq (hp.trans hT) hTn hso hTs
      subst this
      rw [hr]
      exact ⟨e1, e2, e3⟩
end Go.SR
