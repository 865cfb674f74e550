/- Contracts: tally.Report; a Tally begins. -/
import Derived.Test.YtmmcihbcceahkaaE1
import Derived.Test.YtmmcihbcceahkaaUS4
namespace Go.SR
open Go Go.Proofs

def repStep (since : Int) (s : Int × Int × Int) (x : Int) : Int × Int × Int := if since < x then (s.1 + 1, max s.2.1 (x - s.2.2 - 1), x) else s
def repF (since : Int) (ks : List Int) : Int × Int × Int := ks.foldl (repStep since) (0, 0, since)
def mostN (x : Int) : Int := IntKind.wrap .u32 (if (4294967295 : Int) < x then 4294967295 else x)
def repV (top since : Int) (r : Int × Int × Int) : Value :=
  .agg #[.int .u64 top, .int .u32 (mostN (IntKind.wrap .u64 (IntKind.wrap .u64 (top - since) - r.1))), .int .u32 (mostN r.1), .int .u16 (IntKind.wrap .u16 (if (65535 : Int) < r.2.1 then 65535 else r.2.1)), .int .u16 0]

theorem most_c {w : World} {x : Int} : Cs Try.prog tally_most_n #[.int .u64 x] w (Ret fun v w' => v = .int .u32 (mostN x) ∧ w' = w) := by
  apply tally_most_ok
  unfold tally_most
  exact ⟨rfl, rfl⟩

theorem take_snoc' {α : Type} {xs : List α} {i : Nat} {x : α} (h : xs[i]? = some x) : xs.take (i + 1) = xs.take i ++ [x] := by rw [List.take_add_one, h]; rfl

theorem Report_c {N : Nat} (hS : U64.SortOk N) (hN : N < 4294967296) {w : World} {t e m : Nat} {s : Ty} (h : TyAt w t e m s) (ho : s.Ok) (hh : s.has = true) (hl : s.came.length ≤ N) (hcm : ∀ x ∈ s.came, x < 4611686018427500000) :
    Cs Try.prog tally_Tally_Report_n #[.pointer (some ⟨t, 0, none⟩)] w (Ret fun v w' => ∃ ks, Asc ks ∧ ks.Perm s.came ∧ v = repV s.top s.since (repF s.since ks) ∧ TyAt w' t e m { s with since := s.top } ∧ Chg (fun x => x = t) w w') := by
  apply tally_Tally_Report_ok
  unfold tally_Tally_Report
  refine (Own.nil (fun _ => False) w).al fun m0 w1 o1 he1 => ?_
  have h1 := h.ext he1
  have hh1 : At w1 t #[.pointer (some ⟨e, 0, none⟩), .map (some m), .int .u64 s.since, .bool true, .int .u64 s.late, .int .u64 s.twice] 109 := by have := h1.tb; rwa [hh] at this
  refine jn_step (fun _ w' => w' = w1) ?_ ?_
  · rintro _ _ w2 rfl
    refine nc_s ⟨_, by rw [hh1.cell]; rfl, ?_⟩
    refine cl_ret (Top_c h1.eb) ?_
    rintro v w3 ⟨rfl, he3⟩
    refine ⟨_, _, rfl, dr_step fun w4 hh4 he4 => ?_⟩
    have he14 := he3.trans he4
    have t4 := hh1.ext he14
    have h4 := h1.ext he14
    refine nc_s ⟨_, by rw [add_mk, t4.cell]; rfl, nc_s ⟨_, by rw [add_mk, t4.cell]; rfl, ?_⟩⟩
    refine cl_ret U64.Keys_c ?_
    rintro v w5 ⟨B, rfl, hB, he5⟩
    refine ⟨_, rfl, ?_⟩
    refine cl_ret (U64.Sorted_c hS hN (by rw [hB.cell]; rfl) (h4.mb.ext he5) (by simpa using hl)) ?_
    rintro v w6 ⟨p, l, c, ks, rfl, hr, hp, hasc, he6⟩
    refine ⟨_, _, _, rfl, ?_⟩
    rw [seen_keys] at hp
    have he26 := (he14.trans he5).trans he6
    have h6 := h1.ext he26
    have o6 := o1.ext he26
    have hlk := hr.lenI
    have hpl := hp.length_eq
    have hc1 := ho.c1
    have hu : Ints 41 .u64 w6 p l ks := Row.ints hr (by omega)
    have hs0 := ho.s0
    have hs1 := ho.s1
    have hks : ∀ x ∈ ks, x < 4611686018427500000 := fun x hx => hcm x (hp.mem_iff.1 hx)
    refine lp_step (fun n st w' => w' = w6 ∧ (st.1, st.2.1, st.2.2.1) = repF s.since (ks.take st.2.2.2.toNat) ∧ 0 ≤ st.2.2.2 ∧ st.2.2.2 ≤ l ∧ 0 ≤ st.1 ∧ st.1 ≤ st.2.2.2 ∧ 0 ≤ st.2.1 ∧ st.2.1 < 4611686018427500000 ∧ s.since ≤ st.2.2.1 ∧
        (∀ (j : Nat) x, st.2.2.2 ≤ (j : Int) → ks[j]? = some x → s.since < x → st.2.2.1 < x) ∧ n = ((l : Int) - st.2.2.2).toNat)
      _ ⟨rfl, rfl, by simp, by simp, by simp, by simp, by simp, by simp, by simp, fun j x _ _ hx => hx, rfl⟩ ?_
    rintro n _ ⟨got, burst, at', i⟩ w7 ⟨rfl, hf, hi0, hil, hg0, hg1, hb0, hb1, ha0, ha1, hn⟩ K hK
    simp only [] at hf hi0 hil hg0 hg1 hb0 hb1 ha0 ha1 hn
    refine br_if (fun hlt => ?_) (fun hge => ?_)
    · simp only [] at hlt
      have hgi := gI_get (xs := ks) hi0 (by omega)
      refine hu.ix (i := i) hi0 (by omega) fun a ha => ⟨_, ha, ?_⟩
      dsimp only
      generalize hx : gI ks i = x at hgi ha ⊢
      refine nc_s ⟨_, by rw [add_mk, h6.tb.cell]; rfl, ?_⟩
      have hts : ks.take (i + 1).toNat = ks.take i.toNat ++ [x] := by
        rw [show (i + 1).toNat = i.toNat + 1 by omega]; exact take_snoc' hgi
      have hfs : repF s.since (ks.take (i + 1).toNat) = repStep s.since (got, burst, at') x := by
        rw [hts, repF, List.foldl_append]
        have : List.foldl (repStep s.since) (0, 0, s.since) (ks.take i.toNat) = (got, burst, at') := hf.symm
        rw [this]; rfl
      have hasc' : ∀ (j : Nat) y, i + 1 ≤ (j : Int) → ks[j]? = some y → x < y := fun j y hj hy => (asc_get hasc hgi hy).1 (by omega)
      have hxk := hks x (List.mem_of_getElem? hgi)
      refine br_if (fun hgt => ?_) (fun hle => ?_)
      · have hat := ha1 i.toNat x (by omega) hgi hgt
        rw [wu64 (n := got + 1) (by omega) (by omega), wu64 (n := x - at') (by omega) (by omega), wu64 (n := x - at' - 1) (by omega) (by omega), w64 (by omega) (by omega)]
        have hmx : (if burst < x - at' - 1 then x - at' - 1 else burst) = max burst (x - at' - 1) := by omega
        rw [hmx]
        refine hK ((l : Int) - (i + 1)).toNat _ _ (by omega) ⟨rfl, ?_, by simp only []; omega, by simp only []; omega, by simp only []; omega, by simp only []; omega, by simp only []; omega, by simp only []; omega, by simp only []; omega, ?_, rfl⟩
        · simp only []; rw [hfs]; unfold repStep; rw [if_pos hgt]
        · exact fun j y hj hy _ => hasc' j y hj hy
      · rw [w64 (by omega) (by omega)]
        refine hK ((l : Int) - (i + 1)).toNat _ _ (by omega) ⟨rfl, ?_, by simp only []; omega, by simp only []; omega, hg0, by simp only []; omega, hb0, hb1, ha0, ?_, rfl⟩
        · simp only []; rw [hfs]; unfold repStep; rw [if_neg hle]
        · exact fun j y hj hy hy' => ha1 j y (by simp only [] at hj; omega) hy hy'
    · simp only [] at hge
      have hfin : (got, burst, at') = repF s.since ks := by
        rw [hf, List.take_of_length_le (by omega)]
      refine nc_s ⟨_, by rw [add_mk, h6.tb.cell]; rfl, ?_⟩
      refine cl_ret most_c ?_
      rintro v w8 ⟨rfl, rfl⟩
      refine ⟨_, rfl, ?_⟩
      refine cl_ret most_c ?_
      rintro v w9 ⟨rfl, rfl⟩
      refine ⟨_, rfl, ?_⟩
      refine o6.box zc46.symm (by simp [Value.oneCell']) fun m1 w10 o10 he10 => ?_
      have h10 := h6.ext he10
      refine nc_s ?_
      rw [add_mk]
      refine st1_step h10.tb (by simp) rfl fun w11 t11 c11 => ?_
      have htl : t < w.heap.size := h.tb.lt
      have hm1' : w.heap.size ≤ m1 := by rcases (o10.here 1 m1 _ rfl).2 with h | h; exact h.elim; exact h
      have hm0' : w.heap.size ≤ m0 := by rcases (o10.here 0 m0 _ rfl).2 with h | h; exact h.elim; exact h
      have a11 : At w11 m1 _ 46 := (o10.at 1 rfl).chg c11 (by omega)
      have b11 : At w11 m0 _ 46 := (o10.at 0 rfl).chg c11 (by omega)
      refine ⟨_, _, _, _, _, a11.all rfl, ?_⟩
      refine stN_step b11 (by rw [zc46]; simp) (by simp [Value.oneCell']) fun w12 b12 c12 => ?_
      rw [over_all (by rw [zc46]; simp)] at b12
      refine ⟨_, _, _, _, _, b12.all rfl, ?_⟩
      have hc12 : Chg (fun x => x = t) w w12 := ((Ext.any ((he1.trans he26).trans he10) : Chg (fun x => x = t) w w10).trans c11).then c12 fun x hx => .inl (by omega)
      refine ⟨ks, hasc, hp, ?_, ?_, hc12⟩
      · rw [← hfin]; rfl
      · have c112 : Chg (fun x => x = t ∨ x = m0) w10 w12 := (c11.mono fun _ _ h => .inl h).then c12 fun x hx => .inr (.inr hx)
        refine ⟨?_, ?_, ?_⟩
        · refine (At.chg t11 c12 (by omega))
        · exact h10.eb.chg c112 (by have h1 := h10.eb.ne_type h10.tb (by decide); have h2 := h.eb.lt; rintro (h | h); exact h1 h; omega)
        · exact h10.mb.chg c112 (by have h1 := h10.mb.ne_at h10.tb; have h2 := h.mb.lt; rintro (h | h); exact h1 h; omega)
  · refine br_f (nc_s ⟨true, by rw [add_mk, hh1.cell]; rfl, ?_⟩)
    exact br_f (x := _) rfl
end Go.SR
