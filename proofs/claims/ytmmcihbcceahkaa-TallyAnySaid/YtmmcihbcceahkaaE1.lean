/- Contracts: serial.Ext, tally.Tally. -/
import Derived.Test.YtmmcihbcceahkaaUK2
import Derived.Test.YtmmcihbcceahkaaT1
import Derived.Test.YtmmcihbcceahkaaH3
namespace Go.SR
open Go Go.Proofs

/-- The number that is meant. -/
def extN (top n : Int) : Int :=
  if top + ((n - top + 32768) % 65536 - 32768) < 0 then top + ((n - top + 32768) % 65536 - 32768) + 65536 else top + ((n - top + 32768) % 65536 - 32768)

def xN (has : Bool) (top n : Int) : Int := if has then extN top n else 65536 + n
def topN (has : Bool) (top n : Int) : Int := if has then max top (extN top n) else 65536 + n

theorem Diff_c {w : World} {a b : Int} : Cs Try.prog serial_Diff_n #[.int .u16 a, .int .u16 b] w (Ret fun v w' => v = .int .i64 ((b - a + 32768) % 65536 - 32768) ∧ w' = w) := by
  apply serial_Diff_ok
  unfold serial_Diff
  refine ⟨?_, rfl⟩
  congr 1
  simp [IntKind.wrap, IntKind.bits, IntKind.signed]
  omega

theorem extN_bd {top n : Int} (h0 : 0 ≤ top) : 0 ≤ extN top n ∧ extN top n ≤ top + 65536 ∧ top - 32768 ≤ extN top n := by
  unfold extN; split <;> omega

theorem Extend_c {w : World} {e : Nat} {top n : Int} {has : Bool} (h : At w e #[.int .u64 top, .bool has] 149) (h0 : 0 ≤ top) (h1 : top < 4611686018427387904) (hn : 0 ≤ n) (hn1 : n < 65536) :
    Cs Try.prog serial_Ext_Extend_n #[.pointer (some ⟨e, 0, none⟩), .int .u16 n] w (Ret fun v w' => v = .int .u64 (xN has top n) ∧ At w' e #[.int .u64 (topN has top n), .bool true] 149 ∧ Chg (fun x => x = e) w w') := by
  apply serial_Ext_Extend_ok
  unfold serial_Ext_Extend
  refine br_f (nc_s ⟨_, by rw [add_mk, h.cell]; rfl, ?_⟩)
  cases has with
  | false =>
    refine br_t (nc_s ?_)
    refine st1_step h (by simp) rfl fun w1 a1 c1 => nc_s ?_
    rw [add_mk]
    refine st1_step a1 (by simp) rfl fun w2 a2 c2 => nc_s ⟨_, by rw [a2.cell]; rfl, ?_⟩
    have e1 : IntKind.wrap .u64 (65536 + IntKind.wrap .u64 n) = 65536 + n := by rw [wu64 (n := n) (by omega) (by omega), wu64 (by omega) (by omega)]
    rw [e1] at a2 ⊢
    exact ⟨rfl, a2, c1.trans c2⟩
  | true =>
    refine br_f (dr_step fun w1 hh1 he1 => ?_)
    have a1 := h.ext he1
    refine nc_s ⟨top, by rw [a1.cell]; rfl, nc_s ⟨top, by rw [a1.cell]; rfl, ?_⟩⟩
    refine cl_ret Diff_c ?_
    rintro v w2 ⟨rfl, rfl⟩
    refine ⟨_, rfl, hold_cons (by show World.cell? _ _ = _; rw [a1.cell]; rfl) (hold_cons (by show World.cell? _ _ = _; rw [a1.cell]; rfl) (fun p hp => by simp at hp)), ?_⟩
    have hb := extN_bd (n := n) h0
    have e2 : IntKind.wrap .u16 top = top % 65536 := by simp [IntKind.wrap, IntKind.bits, IntKind.signed]
    have e3 : (n - IntKind.wrap .u16 top + 32768) % 65536 = (n - top + 32768) % 65536 := by rw [e2]; omega
    have e4 : IntKind.wrap .i64 (IntKind.wrap .i64 top + ((n - top + 32768) % 65536 - 32768)) = top + ((n - top + 32768) % 65536 - 32768) := by
      rw [w64 (n := top) (by omega) (by omega), w64 (by omega) (by omega)]
    rw [e3, e4]
    have fin : ∀ x : Int, x = extN top n → nc (some (⟨e, 0, none⟩ : Addr)) (fun a16 => ∃ n17 : Int, World.cell? w2 a16 = some (.int .u64 n17) ∧ nc (some (⟨e, 0, none⟩ : Addr)) fun a18 => st1 a18 (.int .u64 (if n17 < IntKind.wrap .u64 x then IntKind.wrap .u64 x else n17)) w2 fun w19 =>
        Ret (fun v w' => v = .int .u64 (xN true top n) ∧ At w' e #[.int .u64 (topN true top n), .bool true] 149 ∧ Chg (fun x => x = e) w w') (.returned (.int .u64 (IntKind.wrap .u64 x))) w19) := by
      rintro x rfl
      rw [wu64 (by omega) (by omega)]
      refine nc_s ⟨top, by rw [a1.cell]; rfl, nc_s ?_⟩
      refine st1_step a1 (by simp) rfl fun w3 a3 c3 => ⟨rfl, ?_, he1.any.trans c3⟩
      have : (if top < extN top n then extN top n else top) = topN true top n := by
        simp only [topN, if_true]; omega
      rw [this] at a3; exact a3
    refine br_if (fun hlt => ?_) (fun hge => ?_)
    · have : extN top n = top + ((n - top + 32768) % 65536 - 32768) + 65536 := by unfold extN; rw [if_pos hlt]
      rw [w64 (by omega) (by omega)]
      exact fin _ this.symm
    · have : extN top n = top + ((n - top + 32768) % 65536 - 32768) := by unfold extN; rw [if_neg hge]
      exact fin _ this.symm

theorem Top_c {w : World} {e : Nat} {top : Int} {has : Bool} (h : At w e #[.int .u64 top, .bool has] 149) :
    Cs Try.prog serial_Ext_Top_n #[.pointer (some ⟨e, 0, none⟩)] w (Ret fun v w' => v = .tuple #[.int .u64 top, .bool has] ∧ Ext w w') := by
  apply serial_Ext_Top_ok
  unfold serial_Ext_Top
  refine br_f (dr_step fun w1 hh1 he1 => ?_)
  have a1 : At w1 e #[.int .u64 top, .bool has] 149 := he1.keep _ _ h id
  exact nc_s ⟨_, by rw [a1.cell]; rfl, nc_s ⟨_, by rw [add_mk, a1.cell]; rfl, rfl, he1⟩⟩

/-- What a Tally holds. -/
structure Ty where
  top : Int
  ehas : Bool
  came : List Int
  since : Int
  has : Bool
  late : Int
  twice : Int

/-- A Tally lies in block t, its Ext in e, its map in m. -/
structure TyAt (w : World) (t e m : Nat) (s : Ty) : Prop where
  tb : At w t #[.pointer (some ⟨e, 0, none⟩), .map (some m), .int .u64 s.since, .bool s.has, .int .u64 s.late, .int .u64 s.twice] 109
  eb : At w e #[.int .u64 s.top, .bool s.ehas] 149
  mb : MapAt w m .u64 (seenM s.came)

theorem TyAt.chg {S : Nat → Prop} {w w' : World} {t e m : Nat} {s : Ty} (h : TyAt w t e m s) (hc : Chg S w w') (ht : ¬ S t) (he : ¬ S e) (hm : ¬ S m) : TyAt w' t e m s :=
  ⟨hc.keep _ _ h.tb ht, hc.keep _ _ h.eb he, h.mb.chg hc hm⟩
theorem TyAt.ext {w w' : World} {t e m : Nat} {s : Ty} (h : TyAt w t e m s) (hc : Ext w w') : TyAt w' t e m s := h.chg hc id id id

/-- The numbers are small. -/
structure Ty.Ok (s : Ty) : Prop where
  t0 : 0 ≤ s.top
  t1 : s.top < 4611686018427387904
  s0 : 0 ≤ s.since
  s1 : s.since < 4611686018427387904
  l0 : 0 ≤ s.late
  l1 : s.late ≤ s.came.length
  w0 : 0 ≤ s.twice
  w1 : s.twice < 4611686018427387904
  c1 : s.came.length < 1000000

abbrev Ty.sn (s : Ty) (n : Int) : Int := if s.has then s.since else xN s.ehas s.top n - 1

/-- A number comes. -/
def Ty.got (s : Ty) (n : Int) : Ty :=
  if xN s.ehas s.top n ∈ s.came then ⟨topN s.ehas s.top n, true, s.came, s.sn n, true, s.late, s.twice + 1⟩
  else ⟨topN s.ehas s.top n, true, s.came ++ [xN s.ehas s.top n], s.sn n, true, if xN s.ehas s.top n ≤ s.sn n then s.late + 1 else s.late, s.twice⟩

abbrev TS (t e m : Nat) : Nat → Prop := fun x => x = t ∨ x = e ∨ x = m

theorem Got_c {w : World} {t e m : Nat} {s : Ty} {n : Int} (h : TyAt w t e m s) (ho : s.Ok) (hn : 0 ≤ n) (hn1 : n < 65536) (hs : s.has = false → 1 ≤ xN s.ehas s.top n) :
    Cs Try.prog tally_Tally_Got_n #[.pointer (some ⟨t, 0, none⟩), .int .u16 n] w (Ret fun v w' => v = .tuple #[.int .u64 (xN s.ehas s.top n), .bool (decide (xN s.ehas s.top n ∉ s.came))] ∧ TyAt w' t e m (s.got n) ∧ Chg (TS t e m) w w') := by
  apply tally_Tally_Got_ok
  unfold tally_Tally_Got
  refine br_f (nc_s ⟨_, by rw [h.tb.cell]; rfl, ?_⟩)
  refine cl_ret (Extend_c h.eb ho.t0 ho.t1 hn hn1) ?_
  rintro v w1 ⟨rfl, e1, c1⟩
  refine ⟨_, rfl, ?_⟩
  have hte : t ≠ e := h.tb.ne_type h.eb (by decide)
  have hmt : m ≠ t := h.mb.ne_at h.tb
  have hme : m ≠ e := h.mb.ne_at h.eb
  have t1 : At w1 t _ 109 := c1.keep _ _ h.tb hte
  have m1 := h.mb.chg c1 hme
  have ht0 := ho.t0
  have ht1 := ho.t1
  have hb := extN_bd (n := n) ht0
  have hx0 : 0 ≤ xN s.ehas s.top n ∧ xN s.ehas s.top n < 4611686018427500000 := by
    show 0 ≤ xN s.ehas s.top n ∧ xN s.ehas s.top n < _
    unfold xN; split <;> omega
  generalize hxe : xN s.ehas s.top n = x at hx0 hs ⊢
  have hC : ∀ w', Chg (fun y => y = t) w1 w' → Chg (TS t e m) w w' := fun w' hc => (c1.mono fun b _ hb => .inr (.inl hb)).then hc fun b hb => .inr (.inl hb)
  refine jn_step (fun _ w' => At w' t #[.pointer (some ⟨e, 0, none⟩), .map (some m), .int .u64 (s.sn n), .bool true, .int .u64 s.late, .int .u64 s.twice] 109 ∧ At w' e #[.int .u64 (topN s.ehas s.top n), .bool true] 149 ∧ MapAt w' m .u64 (seenM s.came) ∧ Chg (TS t e m) w w') ?_ ?_
  · rintro _ _ w2 ⟨t2, e2, m2, c2⟩
    refine nc_s ⟨_, by rw [add_mk, t2.cell]; rfl, ?_⟩
    refine look_step und107 und41 zero4 m2 fun _ => ?_
    have hg : s.got n = if x ∈ s.came then ⟨topN s.ehas s.top n, true, s.came, s.sn n, true, s.late, s.twice + 1⟩
        else ⟨topN s.ehas s.top n, true, s.came ++ [x], s.sn n, true, if x ≤ s.sn n then s.late + 1 else s.late, s.twice⟩ := by unfold Ty.got; rw [hxe]
    have hsn0 : 0 ≤ s.sn n := by
      show 0 ≤ if s.has then s.since else xN s.ehas s.top n - 1
      have := ho.s0
      split
      · exact this
      · rename_i h; have := hs (by simpa using h); omega
    by_cases hin : x ∈ s.came
    · refine ⟨true, by rw [lk_seen, if_pos hin]; rfl, br_t ?_⟩
      refine nc_s ⟨_, by rw [add_mk, t2.cell]; rfl, nc_s ?_⟩
      rw [add_mk]
      have hw0 := ho.w0
      have hw1 := ho.w1
      rw [wu64 (n := s.twice + 1) (by omega) (by omega)]
      refine st1_step t2 (by simp) rfl fun w3 t3 c3 => ⟨?_, ?_, ?_⟩
      · simp [hin]
      · rw [hg, if_pos hin]
        exact ⟨t3, c3.keep _ _ e2 (fun h => hte h.symm), m2.chg c3 hmt⟩
      · exact c2.then c3 fun b hb => .inr (.inl hb)
    · refine ⟨false, by rw [lk_seen, if_neg hin]; rfl, br_f ?_⟩
      refine nc_s ⟨_, by rw [add_mk, t2.cell]; rfl, ?_⟩
      refine update_step und107 und41 m2 fun w3 m3 c3 => ?_
      rw [ins_seen hin] at m3
      have t3 : At w3 t _ 109 := c3.keep _ _ t2 (fun h => hmt h.symm)
      have e3 : At w3 e _ 149 := c3.keep _ _ e2 (fun h => hme h.symm)
      have c3' : Chg (TS t e m) w w3 := c2.then c3 fun b hb => .inr (.inr (.inr hb))
      refine nc_s ⟨_, by rw [add_mk, t3.cell]; rfl, ?_⟩
      refine br_if (fun hle => ?_) (fun hgt => ?_)
      · refine nc_s ⟨_, by rw [add_mk, t3.cell]; rfl, nc_s ?_⟩
        rw [add_mk]
        have hl0 := ho.l0
        have hl1 := ho.l1
        have hl2 := ho.c1
        rw [wu64 (n := s.late + 1) (by omega) (by omega)]
        refine st1_step t3 (by simp) rfl fun w4 t4 c4 => ⟨?_, ?_, ?_⟩
        · simp [hin]
        · rw [hg, if_neg hin, if_pos hle]
          exact ⟨t4, c4.keep _ _ e3 (fun h => hte h.symm), m3.chg c4 hmt⟩
        · exact c3'.then c4 fun b hb => .inr (.inl hb)
      · refine ⟨?_, ?_, c3'⟩
        · simp [hin]
        · rw [hg, if_neg hin, if_neg hgt]
          exact ⟨t3, e3, m3⟩
  · refine nc_s ⟨_, by rw [add_mk, t1.cell]; rfl, ?_⟩
    cases hh : s.has with
    | true =>
      refine br_f ⟨?_, e1, m1, c1.mono fun b _ hb => .inr (.inl hb)⟩
      have : s.sn n = s.since := by show (if s.has then s.since else xN s.ehas s.top n - 1) = _; rw [hh]; rfl
      rw [this]; rw [hh] at t1; exact t1
    | false =>
      have hs := hs hh
      refine br_t (nc_s ?_)
      rw [add_mk, wu64 (by omega) (by omega)]
      refine st1_step t1 (by simp) rfl fun w2 t2 c2 => nc_s ?_
      rw [add_mk]
      refine st1_step t2 (by simp) rfl fun w3 t3 c3 => ?_
      have c23 := c2.trans c3
      refine ⟨?_, c23.keep _ _ e1 (fun h => hte h.symm), m1.chg c23 hmt, hC _ c23⟩
      have : s.sn n = x - 1 := by show (if s.has then s.since else xN s.ehas s.top n - 1) = _; rw [hh, hxe]; rfl
      rw [this]; exact t3

theorem tallyNew_c {w : World} :
    Cs Try.prog tally_New_n #[] w (Ret fun v w' => ∃ t e m, v = .pointer (some ⟨t, 0, none⟩) ∧ TyAt w' t e m ⟨0, false, [], 0, false, 0, 0⟩ ∧ Ext w w' ∧ w.heap.size ≤ t ∧ w.heap.size ≤ e ∧ w.heap.size ≤ m) := by
  apply tally_New_ok
  unfold tally_New
  refine cl_ret (R := fun v w' => ∃ b, v = .pointer (some ⟨b, 0, none⟩) ∧ At w' b #[.int .u64 0, .bool false] 149 ∧ Ext w w' ∧ w.heap.size ≤ b) ?_ ?_
  · apply serial_New_ok
    unfold serial_New
    exact al_step fun b w' hat he hb => ⟨b, rfl, hat, he, hb⟩
  · rintro v w1 ⟨e, rfl, e1, he1, hb1⟩
    refine ⟨_, rfl, ?_⟩
    refine nwo_step fun m w2 h2 he2 hb2 => ?_
    refine al_step fun t w3 t3 he3 hb3 => ?_
    refine ⟨t, e, m, rfl, ⟨t3, (he2.trans he3).keep _ _ e1 id, ⟨_, he3.keep _ _ h2 id, MapO.empty _⟩⟩, (he1.trans he2).trans he3, ?_, hb1, ?_⟩
    · have h1 := he1.size; have h2 := he2.size; omega
    · have h1 := he1.size; omega

theorem Late_c {w : World} {t e m : Nat} {s : Ty} (h : TyAt w t e m s) :
    Cs Try.prog tally_Tally_Late_n #[.pointer (some ⟨t, 0, none⟩)] w (Ret fun v w' => v = .int .u64 s.late ∧ w' = w) := by
  apply tally_Tally_Late_ok
  unfold tally_Tally_Late
  exact br_f (nc_s ⟨_, by rw [add_mk, h.tb.cell]; rfl, rfl, rfl⟩)

theorem Twice_c {w : World} {t e m : Nat} {s : Ty} (h : TyAt w t e m s) :
    Cs Try.prog tally_Tally_Twice_n #[.pointer (some ⟨t, 0, none⟩)] w (Ret fun v w' => v = .int .u64 s.twice ∧ w' = w) := by
  apply tally_Tally_Twice_ok
  unfold tally_Tally_Twice
  exact br_f (nc_s ⟨_, by rw [add_mk, h.tb.cell]; rfl, rfl, rfl⟩)
end Go.SR
