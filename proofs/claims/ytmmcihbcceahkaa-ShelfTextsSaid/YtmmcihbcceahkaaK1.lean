/- maps.Keys: the iterator. Turned from the worked proof of a range over a function (keys of strings) to keys that are whole numbers. -/
import Derived.Test.YtmmcihbcceahkaaB5
import Derived.Test.YtmmcihbcceahkaaN1
import Derived.Test.YtmmcihbcceahkaaProg
import Derived.RangeFuncGives
import Derived.RangeFuncSeq
import Derived.Sort.MapsRangeIn
import Derived.WalkKit
import Derived.OwnWalkIn
import Derived.TacticsInMore
import Derived.RegionIn
import Derived.LoopNIn
import Derived.LoopIn
import Derived.Shelf.Abstract
namespace Go.SR
open Go Go.Proofs Go.RowKit Go.Shelf

theorem wpListIn_range_k {F : Fence} {n : Nat} {P : Program} {ops : Array Oper} {rest : List Oper} {o : Oper} {a : Act} {Q : Exit → Act → World → Prop} {w : World} (hg : o.guard = none) (x : Operand) (t : TypeId) (hop : o.op = Op.range t x) (k e : TypeId) (q : IntKind)
    (ht : P.underlying t = some (.map k e)) (b : Nat) (m : List (Int × Value)) (hm : a.eval x = .map (some b)) (hown : MapAt w b q m)
    (hK : ∀ w', IterAt w' w.heap.size b q m (m.map Prod.fst) → Ext w w' → w'.heap.size = w.heap.size + 1 → wpListIn F n P ops Q rest (a.put o.dst (.pointer (some ⟨w.heap.size, 0, none⟩))) w') :
    wpListIn F n P ops Q (o :: rest) a w := by
  refine wpListIn_plain hg fun K' hK' => ?_
  obtain ⟨w', hrun, r1, r2, r3⟩ := range_run ht hown
  unfold Oper.wpIn
  refine ⟨?_, ?_⟩
  · simp [Oper.about, hop]
  · rw [Oper.semAt_plain F _ _ (by rw [hop]; intro c hc'; cases hc')]
    simp [execOp, hop, hm, hrun, Result.andThen]
    exact hK' _ _ (hK w' r1 r2 r3)

theorem wpListIn_next_k {F : Fence} {n : Nat} {P : Program} {ops : Array Oper} {rest : List Oper} {o : Oper} {a : Act} {Q : Exit → Act → World → Prop} {w : World} (hg : o.guard = none) (it : Operand) (hop : o.op = Op.next it false) (q : IntKind) (b r : Nat) (m : List (Int × Value)) (left : List Int)
    (hit : a.eval it = .pointer (some ⟨r, 0, none⟩)) (h : IterAt w r b q m left) (hl : left.Nodup)
    (hDone : left = [] → wpListIn F n P ops Q rest (a.put o.dst (.tuple #[.bool false])) w)
    (hMore : ∀ (x : Int) (v : Value) (w' : World), x ∈ left → (x, v) ∈ m → IterAt w' r b q m (left.erase x) → Chg (fun y => y = r) w w' → w'.heap.size = w.heap.size →
      (Instr.entry (.pointer (some ⟨r, 0, none⟩))).run P w' = .ok (.tuple #[.int q x, v]) w' → wpListIn F n P ops Q rest (a.put o.dst (.tuple #[.bool true, .int q x, v])) w') :
    wpListIn F n P ops Q (o :: rest) a w := by
  refine wpListIn_plain hg fun K' hK' => ?_
  unfold Oper.wpIn
  refine ⟨by simp [Oper.about, hop], ?_⟩
  rw [Oper.semAt_plain F _ _ (by rw [hop]; intro c hc'; cases hc')]
  rcases next_run (P := P) (ty := o.type) h hl with ⟨h0, hrun⟩ | ⟨x, v, w', hx, hxm, hrun, hit', hc, hsz, hen⟩
  · simp [execOp, hop, hit, hrun, Result.andThen]
    exact hK' _ _ (hDone h0)
  · simp [execOp, hop, hit, hrun, Result.andThen]
    exact hK' _ _ (hMore x v w' hx hxm hit' hc hsz hen)

/-- How many entries an iteration has still to tell. -/
def iterLeft (w : World) (r b : Nat) : Nat :=
  match w.heap[r]?, w.heap[b]? with
  | some (.mapIter _ _ seen _), some (.map es _) => (es.toList.filter fun e => !seen.contains e.born).length
  | _, _ => 0

theorem IterAt.left {w : World} {r b : Nat} {q : IntKind} {m : List (Int × Value)} {left : List Int} (h : IterAt w r b q m left) : iterLeft w r b = left.length := by
  obtain ⟨es, c, since, seen, c0, hb, hr, _, _, _, _, hl⟩ := h
  have := congrArg List.length hl
  simp only [iterLeft, hb, hr]
  simpa using this

theorem IterAt.walks {w w' : World} {r b : Nat} {q : IntKind} {m : List (Int × Value)} {left : List Int} (h : IterAt w r b q m left) (hk : KeepsWalks w w') : IterAt w' r b q m left := by
  obtain ⟨es, c, since, seen, c0, h1, h2, h3⟩ := h
  exact ⟨es, c, since, seen, c0, hk.same b _ h1 rfl, hk.same r _ h2 rfl, h3⟩

abbrev encU (x : Int) : Value := .int .u32 x

set_option maxRecDepth 100000 in
set_option maxHeartbeats 1000000 in
theorem keys1_in (F : Fence) (n : Nat) (h10 : F.fn maps_Keys_map_uint32_bool_uint32_bool_1_n) (hro : F.round = none) (hn : 1 ≤ n) (l Bm b : Nat) (m : List (Int × Value)) (J : List Int → World → Prop)
    (hY : ∀ pre x W, J pre W → pre.length < m.length → YieldAt F (n - 1) Try.prog l #[encU x] W fun e W' => e = .returned (.bool true) ∧ J (pre ++ [x]) W' ∧ KeepsWalks W W')
    (W : World) (hJ : AbidesFrom W.heap.size J) (hm : W.cell? ⟨Bm, 0, none⟩ = some (.map (some b))) (hown : MapAt W b .u32 m) (h0 : J [] W) :
    CallsIn F n Try.prog maps_Keys_map_uint32_bool_uint32_bool_1_n #[.func (.yield l) #[] #[], .pointer (some ⟨Bm, 0, none⟩)] W fun e W' => (∃ v, e = .returned v) ∧ ∃ ss : List Int, ss.Perm (m.map Prod.fst) ∧ J ss W' := by
  have hap : (m.map Prod.fst).Nodup := by obtain ⟨o, _, hm⟩ := hown; exact hm.apart
  refine callsIn_of_wp Try.func73 rfl h10 ?_ hro
  simp only [Try.ntmps73, List.size_toArray, List.length_cons, List.length_nil, Nat.reduceAdd, Nat.reduceSub, Array.replicate_succ, Array.replicate_zero, List.push_toArray, List.append_toArray, List.nil_append, List.cons_append]
  gi_wp2_with (first
    | (gi_at_range; refine wpListIn_range_k rfl _ 94 rfl 23 4 .u32 Try.underlying94 b m rfl hown ?_; intro w0 hrg0 hg0 hs0)
    | gi_in)
  go_frame
  gi_loopw [3] (fun _ wr => ∃ (left ss : List Int), IterAt wr W.heap.size b .u32 m left ∧ left.Nodup ∧ (ss ++ left).Perm (m.map Prod.fst) ∧ J ss wr)
    (fun _ wr => iterLeft wr W.heap.size b)
  case atStart =>
    exact ⟨_, [], hrg0, hap, List.Perm.refl _, hJ [] W w0 none h0 (grown_of_ext hg0 _) (fun r e => by cases e)⟩
  case round =>
    obtain ⟨left, ss, hrg, hnd, hpm, hJs⟩ := hrel
    gi_wp2_with (first
      | (gi_at_next; refine wpListIn_next_k rfl _ rfl .u32 b W.heap.size m left rfl hrg hnd ?_ ?_)
      | gi_in)
    · intro hc0
      subst hc0
      gi_wp2
      go_end0
      exact ⟨⟨_, rfl⟩, ss, by simpa using hpm, hJs⟩
    · intro x v w2 hx hxm hrg2 hc2 hs2 hen
      have hwk := hrg.walk
      have hJ2 : J ss w2 := hJ ss wr w2 (some W.heap.size) hJs (grown_of_chg hc2) (fun r e => by cases e; obtain ⟨_, _, _, h⟩ := hwk; exact ⟨Nat.le_refl _, _, h, rfl⟩)
      have hlen : ss.length < m.length := by
        have := hpm.length_eq
        have := List.length_pos_of_mem hx
        simp at *; omega
      obtain ⟨fn, tmps, assign, body, hy, hR⟩ := hY ss x w2 hJ2 hlen
      clear hs2
      gi_wp2
      refine hR.mono ?_
      rintro e W3 ⟨rfl, hJ3, hk3⟩
      gi_wp2
      have hrg3 := IterAt.walks hrg2 hk3
      go_roundw
      case rel =>
        refine ⟨_, ss ++ [x], hrg3, hnd.erase x, ?_, hJ3⟩
        refine List.Perm.trans ?_ hpm
        rw [List.append_assoc]
        exact List.Perm.append_left _ (List.perm_cons_erase hx).symm
      case measure =>
        rw [IterAt.left hrg3, IterAt.left hrg, List.length_erase_of_mem hx]
        have := List.length_pos_of_mem hx
        omega
end Go.SR
