/- maps.Keys over the shelf's map, and slices.Sorted of it. WRITTEN BY a program of the prover's (wip/sr/bk.sh) out of K1 and K2. -/
import Derived.Test.YtmmcihbcceahkaaK2
import Derived.Test.YtmmcihbcceahkaaH4
namespace Go.SR.Bk
open Go Go.Proofs Go.RowKit Go.Shelf

set_option maxRecDepth 100000 in
set_option maxHeartbeats 1000000 in
theorem keys1_in (F : Fence) (n : Nat) (h10 : F.fn maps_Keys_map_uint32_shelf_block_uint32_shelf_block_1_n) (hro : F.round = none) (hn : 1 ≤ n) (l Bm b : Nat) (m : List (Int × Value)) (J : List Int → World → Prop)
    (hY : ∀ pre x W, J pre W → pre.length < m.length → YieldAt F (n - 1) Try.prog l #[encU x] W fun e W' => e = .returned (.bool true) ∧ J (pre ++ [x]) W' ∧ KeepsWalks W W')
    (W : World) (hJ : AbidesFrom W.heap.size J) (hm : W.cell? ⟨Bm, 0, none⟩ = some (.map (some b))) (hown : MapAt W b .u32 m) (h0 : J [] W) :
    CallsIn F n Try.prog maps_Keys_map_uint32_shelf_block_uint32_shelf_block_1_n #[.func (.yield l) #[] #[], .pointer (some ⟨Bm, 0, none⟩)] W fun e W' => (∃ v, e = .returned v) ∧ ∃ ss : List Int, ss.Perm (m.map Prod.fst) ∧ J ss W' := by
  have hap : (m.map Prod.fst).Nodup := by obtain ⟨o, _, hm⟩ := hown; exact hm.apart
  refine callsIn_of_wp Try.func80 rfl h10 ?_ hro
  simp only [Try.ntmps80, List.size_toArray, List.length_cons, List.length_nil, Nat.reduceAdd, Nat.reduceSub, Array.replicate_succ, Array.replicate_zero, List.push_toArray, List.append_toArray, List.nil_append, List.cons_append]
  gi_wp2_with (first
    | (gi_at_range; refine wpListIn_range_k rfl _ 119 rfl 23 131 .u32 Try.underlying119 b m rfl hown ?_; intro w0 hrg0 hg0 hs0)
    | gi_in)
  go_frame
  gi_loopw [3] (fun _ wr => ∃ (left ss : List Int), IterAt wr W.heap.size b .u32 m left ∧ left.Nodup ∧ (ss ++ left).Perm (m.map Prod.fst) ∧ J ss wr)
    (fun _ wr => iterLeft wr W.heap.size b)
  case atStart =>
    exact ⟨_, [], hrg0, hap, List.Perm.refl _, hJ [] W w0 none h0 (grown_of_ext hg0 _) (fun r e => by cases e)⟩
  case round =>
    obtain ⟨left, ss, hrg, hnd, hpm, hJs⟩ := hrel
    gi_wp2_with (first
      | (gi_at_next; refine wpListIn_next_k rfl _ rfl .u32 b W.heap.size m left rfl hrg hnd ?_ ?_)
      | gi_in)
    · intro hc0
      subst hc0
      gi_wp2
      go_end0
      exact ⟨⟨_, rfl⟩, ss, by simpa using hpm, hJs⟩
    · intro x v w2 hx hxm hrg2 hc2 hs2 hen
      have hwk := hrg.walk
      have hJ2 : J ss w2 := hJ ss wr w2 (some W.heap.size) hJs (grown_of_chg hc2) (fun r e => by cases e; obtain ⟨_, _, _, h⟩ := hwk; exact ⟨Nat.le_refl _, _, h, rfl⟩)
      have hlen : ss.length < m.length := by
        have := hpm.length_eq
        have := List.length_pos_of_mem hx
        simp at *; omega
      obtain ⟨fn, tmps, assign, body, hy, hR⟩ := hY ss x w2 hJ2 hlen
      clear hs2
      gi_wp2
      refine hR.mono ?_
      rintro e W3 ⟨rfl, hJ3, hk3⟩
      gi_wp2
      have hrg3 := IterAt.walks hrg2 hk3
      go_roundw
      case rel =>
        refine ⟨_, ss ++ [x], hrg3, hnd.erase x, ?_, hJ3⟩
        refine List.Perm.trans ?_ hpm
        rw [List.append_assoc]
        exact List.Perm.append_left _ (List.perm_cons_erase hx).symm
      case measure =>
        rw [IterAt.left hrg3, IterAt.left hrg, List.length_erase_of_mem hx]
        have := List.length_pos_of_mem hx
        omega
theorem keys_gives {w : World} {Bm b : Nat} {m : List (Int × Value)} (F : Fence) (n : Nat) (h10 : F.fn maps_Keys_map_uint32_shelf_block_uint32_shelf_block_1_n) (hro : F.round = none) (hn : 1 ≤ n)
    (hm : w.cell? ⟨Bm, 0, none⟩ = some (.map (some b))) (hown : MapAt w b .u32 m) :
    SeqGives F n Try.prog maps_Keys_map_uint32_shelf_block_uint32_shelf_block_1_n #[.pointer (some ⟨Bm, 0, none⟩)] encU (fun ss => ss.Perm (m.map Prod.fst)) m.length w := fun l J W hW hJ hY h0 => by
  have he := ext_of_below hW
  exact keys1_in F n h10 hro hn l Bm b m J hY W hJ (he.cell hm) (hown.ext he) h0

theorem appendSeq_c {w : World} {Bm b : Nat} {m : List (Int × Value)} (hm : w.cell? ⟨Bm, 0, none⟩ = some (.map (some b))) (hown : MapAt w b .u32 m) (hlen : m.length < 4294967296) :
    Cs Try.prog 93 #[.slice none 0 0, .func (.func 80) #[] #[.pointer (some ⟨Bm, 0, none⟩)]] w
      (Ret fun v w' => ∃ p l c ks, v = .slice p l c ∧ RowI w' w.heap.size p l c ks ∧ ks.Perm (m.map Prod.fst) ∧ Ext w w') := by
  have h := callsIn_wide.1 (appendSeq_in Fence.wide 2 trivial rfl (Nat.le_refl _) 80 #[.pointer (some ⟨Bm, 0, none⟩)] trivial (enters_of Try.func80 (by kernel_rfl) rfl) _ m.length (by simp only [maxLen]; omega) (by omega) w (keys_gives Fence.wide 1 trivial rfl (Nat.le_refl _) hm hown))
  refine ⟨by kernel_rfl, Calls.mono h ?_⟩
  rintro e w' ⟨v, ss, rfl, hp, hr, _, hb⟩
  have hshape : ∃ p c, v = .slice p ss.length c := by
    rcases hr.2 with ⟨rfl, h0⟩ | ⟨g, cap, cur, hv, _⟩
    · exact ⟨none, 0, by rw [h0]⟩
    · exact ⟨_, _, hv⟩
  obtain ⟨p, c, rfl⟩ := hshape
  exact ⟨p, _, c, ss, rfl, hr, hp, ext_of_below hb⟩

theorem Collect_c {w : World} {Bm b : Nat} {m : List (Int × Value)} (hm : w.cell? ⟨Bm, 0, none⟩ = some (.map (some b))) (hown : MapAt w b .u32 m) (hlen : m.length < 4294967296) :
    Cs Try.prog slices_Collect_uint32_n #[.func (.func 80) #[] #[.pointer (some ⟨Bm, 0, none⟩)]] w
      (Ret fun v w' => ∃ p l c ks, v = .slice p l c ∧ RowI w' w.heap.size p l c ks ∧ ks.Perm (m.map Prod.fst) ∧ Ext w w') := by
  apply slices_Collect_uint32_ok
  unfold slices_Collect_uint32
  refine cl_ret (appendSeq_c hm hown hlen) ?_
  rintro v w' ⟨p, l, c, ks, rfl, h⟩
  exact ⟨p, l, c, rfl, p, l, c, ks, rfl, h⟩

theorem Keys_c {w : World} {p : Option Nat} :
    Cs Try.prog maps_Keys_map_uint32_shelf_block_uint32_shelf_block_n #[.map p] w (Ret fun v w' => ∃ B, v = .func (.func 80) #[] #[.pointer (some ⟨B, 0, none⟩)] ∧ At w' B #[.map p] 119 ∧ Ext w w') := by
  apply maps_Keys_map_uint32_shelf_block_uint32_shelf_block_ok
  unfold maps_Keys_map_uint32_shelf_block_uint32_shelf_block
  exact al_step fun B w' hat he _ => ⟨B, rfl, hat, he⟩

theorem Sorted_c {N : Nat} (hS : SortOk N) (hN : N < 4294967296) {w : World} {Bm b : Nat} {m : List (Int × Value)} (hm : w.cell? ⟨Bm, 0, none⟩ = some (.map (some b))) (hown : MapAt w b .u32 m) (hlen : m.length ≤ N) :
    Cs Try.prog slices_Sorted_uint32_n #[.func (.func 80) #[] #[.pointer (some ⟨Bm, 0, none⟩)]] w
      (Ret fun v w' => ∃ p l c ks, v = .slice p l c ∧ RowI w' w.heap.size p l c ks ∧ ks.Perm (m.map Prod.fst) ∧ Asc ks ∧ Ext w w') := by
  apply slices_Sorted_uint32_ok
  unfold slices_Sorted_uint32
  refine cl_ret (Collect_c hm hown (by omega)) ?_
  rintro v w1 ⟨p, l, c, ks, rfl, hr, hp, he⟩
  refine ⟨p, l, c, rfl, ?_⟩
  have hl := hr.lenI
  have hkl := hp.length_eq
  simp at hkl
  refine cl_ret (hS hr (by omega)) ?_
  rintro v w2 ⟨ys, hy, hyp, hs, hc⟩
  have hap : (m.map Prod.fst).Nodup := by obtain ⟨o, _, hm⟩ := hown; exact hm.apart
  have hpp := hyp.trans hp
  exact ⟨p, l, c, ys, rfl, hy, hpp, asc_of_srt hs (hpp.nodup_iff.2 hap), he.then hc fun x hx => hr.base x hx⟩
end Go.SR.Bk
