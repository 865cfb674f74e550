/- Contracts: frames made out of numbers (Picks.Body, Picks.Next). -/
import Derived.Test.YtmmcihbcceahkaaC3
namespace Go.SR
open Go Go.Proofs

theorem und22 : Try.prog.underlying 22 = some (.slice 5) := by kernel_rfl
theorem und29 : Try.prog.underlying 29 = some (.slice 23) := by kernel_rfl
theorem und25 : Try.prog.underlying 25 = some (.slice 31) := by kernel_rfl
theorem inf5 : (Try.prog.info? 5).map (fun i => (i.zero, i.size, i.bytes)) = some (some (.int .u8 0), 1, 1) := by kernel_rfl
theorem inf23 : (Try.prog.info? 23).map (fun i => (i.zero, i.size, i.bytes)) = some (some (.int .u32 0), 1, 4) := by kernel_rfl
def z31 : Value := .agg #[.int .u32 0, .int .i64 0, .slice none 0 0, .int .i64 0, .int .i64 0, .int .i64 0]
theorem inf31 : (Try.prog.info? 31).map (fun i => (i.zero, i.size, i.bytes)) = some (some z31, 6, 64) := by kernel_rfl

section
variable {w0 w w' : World} {b : Nat} {s : Option Addr × Nat × Nat} {l : List Int} {n : Nat}

theorem PkS.off {t : TypeId} (h : PkS w0 w b s l n) (hne : t ≠ 87) : Off (fun x => x = b) w t := Off.of_at h.2.2.2.1 hne

theorem PkS.at (h : PkS w0 w b s l n) : ∃ cs, At w b cs 87 := ⟨_, h.2.2.2.1⟩

theorem PkS.lt0 (h : PkS w0 w b s l n) : b < w0.heap.size := by
  obtain ⟨⟨_, h⟩, _⟩ := h
  exact lt_of_heap h

theorem Body_c {N : Int} (h : PkS w0 w b s l n) (hN : 0 ≤ N) (hN' : N ≤ 1048576) :
    Cs Try.prog gplay_Picks_Body_n #[.pointer (some ⟨b, 0, none⟩), .int .i64 N] w
      (Ret fun v w' => ∃ p n' vs, v = .slice p N.toNat N.toNat ∧ Row w' w.heap.size 5 1 p N.toNat N.toNat vs ∧ PkS w0 w' b s l n' ∧ Chg (fun x => x = b) w w') := by
  apply gplay_Picks_Body_ok
  unfold gplay_Picks_Body
  refine make_step (n := N.toNat) und22 inf5 (by omega) (by omega) (by omega) (by omega) (by omega) (Nat.le_refl _) fun p w1 hr1 he1 => ?_
  refine ⟨p, _, _, rfl, ?_⟩
  have hp := h.here
  refine lp_step (fun k j w' => ∃ n' vs, Row w' w.heap.size 5 1 p N.toNat N.toNat vs ∧ PkS w w' b s l n' ∧ 0 ≤ j ∧ j ≤ N ∧ k = (N - j).toNat) _ ⟨n, _, hr1, hp.ext he1, by omega, by omega, rfl⟩ ?_
  rintro k _ j w2 ⟨n', vs, hr, hk, hs0, hs1, hkk⟩ K hK
  refine br_if (fun hlt => ?_) (fun hge => ⟨p, n', vs, rfl, hr, h.after hk, hk.chg⟩)
  refine cl_ret (Num_c hk (by omega)) ?_
  rintro v w3 ⟨rfl, hk3, hc⟩
  refine ⟨_, rfl, ?_⟩
  have hr3 := hr.chg hc (hk.off (by decide))
  refine hr3.st (by omega) (by omega) rfl fun w4 hr4 hc4 => ?_
  rw [w64 (by omega) (by omega)]
  exact hK _ _ _ (by omega) ⟨_, _, hr4, hk3.step hc4 fun x hx => hr3.base x hx, by omega, by omega, rfl⟩
end

/-- Where Next stands: its two frames in their blocks, the refs in their row. -/
structure NS (w0 w : World) (b : Nat) (s : Option Addr × Nat × Nat) (l : List Int) (n m0 m1 : Nat) (f : Fr) (rp : Option Addr) (rl rc : Nat) : Prop where
  own : ∃ z : Array Value, z.size = 6 ∧ Own (fun x => x = b) w0 w [(b, fun _ => True), (m0, CellsO z 31), (m1, CellsO (f.vals rp rl rc).toArray 31)]
  pk : PkS w0 w b s l n
  row : RowI w w0.heap.size rp rl rc f.refs

section
variable {w0 w w' : World} {b : Nat} {s : Option Addr × Nat × Nat} {l : List Int} {n m0 m1 : Nat} {f : Fr} {rp : Option Addr} {rl rc : Nat}

theorem NS.chg (h : NS w0 w b s l n m0 m1 f rp rl rc) : Chg (fun x => x = b) w0 w := h.pk.chg

theorem NS.ext (h : NS w0 w b s l n m0 m1 f rp rl rc) (he : Ext w w') : NS w0 w' b s l n m0 m1 f rp rl rc := by
  obtain ⟨z, hz, ho⟩ := h.own
  exact ⟨⟨z, hz, ho.ext he⟩, h.pk.ext he, Row.ext h.row he⟩

/-- The numbers have been read on. -/
theorem NS.read {n' : Nat} (h : NS w0 w b s l n m0 m1 f rp rl rc) (hp : PkS w0 w' b s l n') (hc : Chg (fun x => x = b) w w') : NS w0 w' b s l n' m0 m1 f rp rl rc := by
  obtain ⟨z, hz, ho⟩ := h.own
  obtain ⟨cs, hat⟩ := hp.at
  exact ⟨⟨z, hz, ho.turn 0 (ψ := fun _ => True) rfl hc hat trivial⟩, hp, h.row.chg hc (h.pk.off (by decide))⟩

theorem NS.num {m : Int} (h : NS w0 w b s l n m0 m1 f rp rl rc) (hm : 0 < m) :
    Cs Try.prog gplay_Picks_Num_n #[.pointer (some ⟨b, 0, none⟩), .int .i64 m] w (Ret fun v w' => v = .int .i64 (pick l n m) ∧ NS w0 w' b s l (nextN l n) m0 m1 f rp rl rc) :=
  (Num_c h.pk hm).ret fun _ _ ⟨hv, hp, hc⟩ => ⟨hv, h.read hp hc⟩

theorem NS.rd (i : Nat) {a : Addr} {v : Value} (h : NS w0 w b s l n m0 m1 f rp rl rc) (ha : a = ⟨m1, i, none⟩) (hv : (f.vals rp rl rc)[i]? = some v) : w.cell? a = some v := by
  obtain ⟨z, hz, ho⟩ := h.own
  exact ho.rd 2 i rfl ha (by simpa using hv)

theorem NS.st (i : Nat) (f' : Fr) {a : Addr} {v : Value} {F : World → Prop} (h : NS w0 w b s l n m0 m1 f rp rl rc) (ha : a = ⟨m1, i, none⟩) (hi : i < 6) (h1 : v.oneCell' = true)
    (hv : (f.vals rp rl rc).toArray.setIfInBounds i v = (f'.vals rp rl rc).toArray) (hr : f'.refs = f.refs) (hF : ∀ w', NS w0 w' b s l n m0 m1 f' rp rl rc → Chg (fun x => x = m1) w w' → F w') : st1 a v w F := by
  obtain ⟨z, hz, ho⟩ := h.own
  have hm1 : w0.heap.size ≤ m1 := by
    rcases (ho.here 2 m1 _ rfl).2 with e | e
    · have := ho.apart; simp [e] at this
    · exact e
  refine ho.st 2 i rfl ha (by simpa [Fr.vals] using hi) h1 fun w1 o1 hc => ?_
  refine hF w1 ⟨⟨z, hz, ?_⟩, h.pk.step hc fun x hx => by omega, ?_⟩ hc
  · rw [hv] at o1; exact o1
  · rw [hr]; exact h.row.chg hc (Off.of_at (ho.at 2 rfl) (by decide))

/-- f.Refs = append(f.Refs, x) -/
theorem NS.app {x : Int} {F : World → Prop} (h : NS w0 w b s l n m0 m1 f rp rl rc) (hl : rl < 4194304)
    (hF : ∀ w' rp' rc', NS w0 w' b s l n m0 m1 { f with refs := f.refs ++ [x] } rp' (rl + 1) rc' → F w') :
    al #[.int .u32 x] 23 w fun m w1 => rnV Try.prog (Builtin.append_ #[29, 29] 29 #[.slice rp rl rc, .slice (some ⟨m, 0, none⟩) 1 1]) w1 fun v w2 =>
      ∃ (p : Option Addr) (k j : Nat), v = .slice p k j ∧ st1 (Addr.add ⟨m1, 0, none⟩ 2) (.slice p k j) w2 F := by
  refine al_step fun m w1 hat he _ => ?_
  have h1 := h.ext he
  refine append_step (news := [.int .u32 x]) und29 inf23 rfl (by decide) h1.row rfl (hat.cellsAt _ 0 fun i hi => by simp at hi; subst hi; rfl) (by simp [Value.oneCell']) (by omega) (by omega) h1.chg.size fun p' c' w2 hr2 hc2 => ?_
  refine ⟨p', _, c', rfl, ?_⟩
  obtain ⟨z, hz, ho⟩ := h1.own
  have hm1 : w0.heap.size ≤ m1 := by
    rcases (ho.here 2 m1 _ rfl).2 with e | e
    · have := ho.apart; simp [e] at this
    · exact e
  have hbase := fun x hx => Row.base h1.row x hx
  have hL : ∀ x ∈ [(b, fun _ => True), (m0, CellsO z 31), (m1, CellsO (f.vals rp rl rc).toArray 31)], ¬ rowS (.slice rp rl rc) x.1 := by
    intro x hx
    simp only [List.mem_cons, List.not_mem_nil, or_false] at hx
    rcases hx with rfl | rfl | rfl
    · obtain ⟨cs, hat⟩ := h1.pk.at
      exact Row.not h1.row hat (by decide)
    · exact Row.not h1.row (ho.at 1 rfl) (by decide)
    · exact Row.not h1.row (ho.at 2 rfl) (by decide)
  have o2 := ho.away hc2 hbase hL
  refine o2.st 2 2 rfl (add_mk _ _ _) (by simp [Fr.vals]) rfl fun w3 o3 hc3 => ?_
  refine hF w3 p' c' ⟨⟨z, hz, o3⟩, (h1.pk.step hc2 hbase).step hc3 fun x hx => by omega, ?_⟩
  have := Row.chg hr2 hc3 (Off.of_at (o2.at 2 rfl) (by decide))
  unfold RowI
  rw [List.map_append]; exact this

/-- The frame is handed back. -/
theorem NS.ret {F : Int → Int → Option Addr → Nat → Nat → Int → Int → Int → World → Prop} (h : NS w0 w b s l n m0 m1 f rp rl rc)
    (hF : ∀ w', NS w0 w' b s l n m0 m1 f rp rl rc → Chg (fun x => x = m0) w w' → w0.heap.size ≤ m0 → F f.id f.kind rp rl rc f.size f.play f.dl w') :
    ∃ (n1 : Int) (n2 : Int) (p3 : Option Addr) (k4 k5 : Nat) (n6 n7 n8 : Int), cellsAt w ⟨m1, 0, none⟩ [.int .u32 n1, .int .i64 n2, .slice p3 k4 k5, .int .i64 n6, .int .i64 n7, .int .i64 n8] ∧
      stN ⟨m0, 0, none⟩ [.int .u32 n1, .int .i64 n2, .slice p3 k4 k5, .int .i64 n6, .int .i64 n7, .int .i64 n8] w fun w' =>
        ∃ (n1 : Int) (n2 : Int) (p3 : Option Addr) (k4 k5 : Nat) (n6 n7 n8 : Int), cellsAt w' ⟨m0, 0, none⟩ [.int .u32 n1, .int .i64 n2, .slice p3 k4 k5, .int .i64 n6, .int .i64 n7, .int .i64 n8] ∧ F n1 n2 p3 k4 k5 n6 n7 n8 w' := by
  obtain ⟨z, hz, ho⟩ := h.own
  have hm0 : w0.heap.size ≤ m0 := by
    rcases (ho.here 1 m0 _ rfl).2 with e | e
    · have := ho.apart; simp [e] at this
    · exact e
  refine ⟨f.id, f.kind, rp, rl, rc, f.size, f.play, f.dl, ho.all 2 rfl rfl, ?_⟩
  refine ho.stN 1 rfl (by simp [hz]) (by simp [Value.oneCell']) fun w1 o1 hc => ?_
  refine ⟨f.id, f.kind, rp, rl, rc, f.size, f.play, f.dl, o1.all 1 rfl rfl, hF w1 ⟨⟨_, rfl, o1⟩, h.pk.step hc fun x hx => by omega, ?_⟩ hc hm0⟩
  exact h.row.chg hc (Off.of_at (ho.at 1 rfl) (by decide))
end

theorem br_if' {b : Bool} {x y : Prop} (h1 : b = true → x) (h2 : b = false → y) : br b x y := br_iff.2 ⟨h1, h2⟩

/-- A frame that comes behind those that are known. -/
def Behind (known : List Fr) (f : Fr) : Prop := (∀ g ∈ known, g.id < f.id) ∧ 0 < f.id ∧ f.id ≤ 3 * (known.length + 1)

/-- The IDs rise, by 3 at most. -/
def Rise (known : List Fr) : Prop := Asc (known.map Fr.id) ∧ ∀ (i : Nat) f, known[i]? = some f → 0 < f.id ∧ f.id ≤ 3 * (i + 1)

theorem pick_lt' {l : List Int} {n : Nat} {m : Int} (h : 0 < m) : pick l n m ≤ m - 1 := by have := pick_lt (l := l) (n := n) h; omega

section
variable {w0 w w' : World} {b : Nat} {s : Option Addr × Nat × Nat} {l : List Int} {n : Nat}

theorem Asc.last {xs : List Int} (h : Asc xs) {i : Nat} {x y : Int} (hx : xs[i]? = some x) (hy : xs[xs.length - 1]? = some y) : x ≤ y := by
  obtain ⟨hi, rfl⟩ := List.getElem?_eq_some_iff.1 hx
  obtain ⟨hj, rfl⟩ := List.getElem?_eq_some_iff.1 hy
  rcases Nat.lt_or_ge i (xs.length - 1) with e | e
  · have := List.pairwise_iff_getElem.1 h i _ hi hj e; omega
  · have : i = xs.length - 1 := by omega
    subst this; exact Int.le_refl _

/-- What Next hands back. -/
def NextR (w : World) (known : List Fr) (v : Value) (w' : World) : Prop :=
  ∃ f q ql qc p pl pc, v = .tuple #[.agg (Fr.vals f q ql qc).toArray, .slice p pl pc] ∧ U32s w' q ql f.refs ∧ f.refs.length ≤ known.length + 1 ∧ (f.id = 0 ∨ Behind known f) ∧ ((∀ r ∈ f.refs, r ∈ known.map Fr.id) ∨ f.id ∈ f.refs) ∧ Chg (fun _ => True) w w'

theorem Next_c {q : Option Addr} {ql qc : Nat} {known : List Fr} {clock symbol : Int} (h : PkS w0 w b s l n) (hk : Frames w q ql known) (hkl : known.length ≤ 100000) (hr : Rise known) (hs0 : 0 < symbol) (hs1 : symbol ≤ 65536) :
    Cs Try.prog gplay_Picks_Next_n #[.pointer (some ⟨b, 0, none⟩), .slice q ql qc, .int .i64 clock, .int .i64 symbol] w
      (Ret fun v w' => NextR w known v w' ∧ (∃ n', PkS w0 w' b s l n') ∧ Chg (fun x => x = b) w w') := by
  apply gplay_Picks_Next_ok
  unfold gplay_Picks_Next
  have hh := h.here
  obtain ⟨cs0, hat0⟩ := h.at
  have o0 : Own (fun x => x = b) w w [(b, fun _ => True)] := Own.one (φ := fun _ => True) hat0 trivial rfl
  refine o0.al fun m0 w1 o1 he1 => ?_
  have hp1 := hh.ext he1
  have hql := hk.len
  have num : ∀ {w1 : World} {n1 : Nat} {m0 : Nat} {z : Array Value} {m : Int}, 0 < m → Own (fun x => x = b) w w1 [(b, fun _ => True), (m0, CellsO z 31)] → PkS w w1 b s l n1 →
      Cs Try.prog gplay_Picks_Num_n #[.pointer (some ⟨b, 0, none⟩), .int .i64 m] w1 (Ret fun v w' => v = .int .i64 (pick l n1 m) ∧ Own (fun x => x = b) w w' [(b, fun _ => True), (m0, CellsO z 31)] ∧ PkS w w' b s l (nextN l n1)) := by
    intro w1 n1 m0 z m hm o hp
    refine (Num_c hp hm).ret ?_
    rintro v w' ⟨hv, hp', hc⟩
    obtain ⟨cs, hat⟩ := hp'.at
    exact ⟨hv, o.turn 0 (ψ := fun _ => True) rfl hc hat trivial, hp'⟩
  refine cl_ret (num (by decide) o1 hp1) ?_
  rintro v w2 ⟨rfl, o2, hp2⟩
  refine ⟨_, rfl, ?_⟩
  have hid0 := pick_nonneg (l := l) (n := n) (m := 3) (by decide)
  have hid1 := pick_lt (l := l) (n := n) (m := 3) (by decide)
  generalize pick l n 3 = i0 at hid0 hid1 ⊢
  refine cl_ret (num (by decide) o2 hp2) ?_
  rintro v w3 ⟨rfl, o3, hp3⟩
  refine ⟨_, rfl, ?_⟩
  refine cl_ret (num (by decide) o3 hp3) ?_
  rintro v w4 ⟨rfl, o4, hp4⟩
  refine ⟨_, rfl, ?_⟩
  refine cl_ret (num (by decide) o4 hp4) ?_
  rintro v w5 ⟨rfl, o5, hp5⟩
  refine ⟨_, rfl, ?_⟩
  generalize pick l _ 3 = k0
  generalize pick l _ 4 = k1
  generalize pick l _ 8 = k2
  refine o5.box zc31.symm (by simp [Value.oneCell']) fun m1 w6 o6 he6 => ?_
  have hp6 := hp5.ext he6
  rw [w64 (n := 1 + i0) (by omega) (by omega), wu32 (n := 1 + i0) (by omega) (by omega)] at o6
  have ns6 : NS w w6 b s l _ m0 m1 ⟨1 + i0, IntKind.wrap .i64 (1 + k0), 0, IntKind.wrap .i64 (clock + k1), IntKind.wrap .i64 (clock + IntKind.wrap .i64 (2 + k2)), []⟩ none 0 0 :=
    ⟨⟨_, zc31, o6⟩, hp6, Row.nil⟩
  refine jn_step (fun _ w' => ∃ n' f, NS w w' b s l n' m0 m1 f none 0 0 ∧ f.refs = [] ∧ Behind known f) ?_ ?_
  · -- behind the first meeting
    rintro _ _ w7 ⟨n', f, ns, href, hb⟩
    refine ⟨_, ns.rd 5 (add_mk _ _ _) rfl, _, ns.rd 4 (add_mk _ _ _) rfl, ?_⟩
    refine ns.st 5 { f with dl := if f.dl < f.play then f.play else f.dl } (add_mk _ _ _) (by decide) rfl rfl rfl fun w8 ns8 _ => ?_
    refine jn_step (fun _ w' => ∃ n' f rp rl rc, NS w w' b s l n' m0 m1 f rp rl rc ∧ Behind known f ∧ f.refs.length ≤ known.length ∧ ∀ r ∈ f.refs, r ∈ known.map Fr.id) ?_ ?_
    · -- behind the second
      rintro _ _ w9 ⟨n', f, rp, rl, rc, ns9, hb, hrl, href⟩
      have hwr : IntKind.wrap .i64 (5 * symbol) = 5 * symbol := w64 (by omega) (by omega)
      rw [hwr]
      refine cl_ret (ns9.num (by omega)) ?_
      rintro v w10 ⟨rfl, ns10⟩
      refine ⟨_, rfl, ?_⟩
      have hz0 := pick_nonneg (l := l) (n := n') (m := 5 * symbol) (by omega)
      have hz1 := pick_lt (l := l) (n := n') (m := 5 * symbol) (by omega)
      generalize pick l n' (5 * symbol) = z0 at hz0 hz1 ⊢
      rw [w64 (n := 1 + z0) (by omega) (by omega)]
      refine ns10.st 3 { f with size := 1 + z0 } (add_mk _ _ _) (by decide) rfl rfl rfl fun w11 ns11 _ => ?_
      refine ⟨1 + z0, ns11.rd 3 (add_mk _ _ _) rfl, ?_⟩
      refine cl_ret (Body_c ns11.pk (by omega) (by omega)) ?_
      rintro v w12 ⟨bp, n2, vs, rfl, hrow, hpk, hc12⟩
      refine ⟨_, _, _, rfl, ?_⟩
      have ns12 := ns11.read hpk hc12
      have hrow12 : Row w12 w.heap.size 5 1 bp (1 + z0).toNat (1 + z0).toNat vs := by
        refine ⟨hrow.1, ?_⟩
        rcases hrow.2 with h | ⟨g, cap, cur, h1, h2, h3⟩
        · exact .inl h
        · exact .inr ⟨g, cap, cur, h1, Nat.le_trans ns11.chg.size h2, h3⟩
      refine cl_ret (Num_c ns12.pk (by decide)) ?_
      rintro v w13 ⟨rfl, hp13, hc13⟩
      have ns13 := ns12.read hp13 hc13
      have hrow13 := hrow12.chg hc13 (ns12.pk.off (by decide))
      refine ⟨_, rfl, ?_⟩
      generalize pick l n2 25 = cs
      have hrl9 := ns9.row.lenI
      have fin : ∀ {w14 : World} {n' : Nat} {f' : Fr} {rp' : Option Addr} {rl' rc' : Nat} {p : Option Addr} {pl pc : Nat} , NS w w14 b s l n' m0 m1 f' rp' rl' rc' → f'.refs.length ≤ known.length + 1 → (f'.id = 0 ∨ Behind known f') → ((∀ r ∈ f'.refs, r ∈ known.map Fr.id) ∨ f'.id ∈ f'.refs) →
          NextR w known (.tuple #[.agg #[.int .u32 f'.id, .int .i64 f'.kind, .slice rp' rl' rc', .int .i64 f'.size, .int .i64 f'.play, .int .i64 f'.dl], .slice p pl pc]) w14 ∧ (∃ n', PkS w0 w14 b s l n') ∧ Chg (fun x => x = b) w w14 := by
        intro w14 n' f' rp' rl' rc' p pl pc ns14 h1 h2 h3
        have hrow := ns14.row
        refine ⟨⟨f', rp', rl', rc', p, pl, pc, rfl, ?_, h1, h2, h3, ns14.chg.mono fun _ _ _ => trivial⟩, ⟨_, h.after ns14.pk⟩, ns14.chg⟩
        exact Row.ints hrow (by omega)
      refine br_if' ?_ ?_
      · -- its own ID among its refs
        intro _
        refine ⟨_, _, _, ns13.rd 2 (add_mk _ _ _) rfl, _, ns13.rd 0 rfl rfl, ?_⟩
        refine ns13.app (by omega) fun w14 rp' rc' ns14 => ?_
        refine ns14.ret fun w15 ns15 _ _ => ?_
        exact fin ns15 (by simp; omega) (.inr hb) (.inr (by simp))
      · intro _
        refine br_if' ?_ ?_
        · intro _
          refine ns13.st 5 { f with size := 1 + z0, dl := clock } (add_mk _ _ _) (by decide) rfl rfl rfl fun w14 ns14 _ => ?_
          refine ns14.ret fun w15 ns15 _ _ => ?_
          exact fin ns15 (by simp only []; omega) (.inr hb) (.inl href)
        · intro _
          refine br_if' ?_ ?_
          · intro _
            refine al_step fun m w14 hat he _ => ?_
            refine append_step (news := [.int .u8 1]) und22 inf5 rfl (by decide) (hrow13.ext he) rfl (hat.cellsAt _ 0 fun i hi => by simp at hi; subst hi; rfl) (by simp [Value.oneCell']) (by omega) (by omega) (ns13.ext he).chg.size fun p' c' w15 hr15 hc15 => ?_
            refine ⟨p', _, c', rfl, ?_⟩
            have ns14 := ns13.ext he
            have hrow14 := hrow13.ext he
            obtain ⟨z, hz, ho⟩ := ns14.own
            have hbase := fun x hx => hrow14.base x hx
            have hL : ∀ x ∈ [(b, fun _ => True), (m0, CellsO z 31), (m1, CellsO (Fr.vals { f with size := 1 + z0 } rp rl rc).toArray 31)], ¬ rowS (.slice bp (1 + z0).toNat (1 + z0).toNat) x.1 := by
              intro x hx
              simp only [List.mem_cons, List.not_mem_nil, or_false] at hx
              rcases hx with rfl | rfl | rfl
              · obtain ⟨cs, hat⟩ := ns14.pk.at
                exact hrow14.not hat (by decide)
              · exact hrow14.not (ho.at 1 rfl) (by decide)
              · exact hrow14.not (ho.at 2 rfl) (by decide)
            have ns15 : NS w w15 b s l _ m0 m1 { f with size := 1 + z0 } rp rl rc := ⟨⟨z, hz, ho.away hc15 hbase hL⟩, ns14.pk.step hc15 hbase, ns14.row.chg hc15 (hrow14.off (by decide))⟩
            refine ns15.ret fun w16 ns16 _ _ => ?_
            exact fin ns16 (by simp only []; omega) (.inr hb) (.inl href)
          · intro _
            refine br_if' ?_ ?_
            · intro _
              refine ns13.st 0 { f with size := 1 + z0, id := 0 } rfl (by decide) rfl rfl rfl fun w14 ns14 _ => ?_
              refine ns14.ret fun w15 ns15 _ _ => ?_
              exact fin ns15 (by simp only []; omega) (.inl rfl) (.inl href)
            · intro _
              refine ns13.ret fun w15 ns15 _ _ => ?_
              exact fin ns15 (by simp only []; omega) (.inr hb) (.inl href)
    · -- the refs
      refine cl_ret (ns8.num (by decide)) ?_
      rintro v w9 ⟨rfl, ns9⟩
      refine ⟨_, rfl, ?_⟩
      have hn0 := pick_nonneg (l := l) (n := n') (m := 3) (by decide)
      have hn1 := pick_lt (l := l) (n := n') (m := 3) (by decide)
      refine lp_step (fun k j w' => ∃ n' f rp rl rc, NS w w' b s l n' m0 m1 f rp rl rc ∧ Behind known f ∧ f.refs.length ≤ known.length ∧ (∀ r ∈ f.refs, r ∈ known.map Fr.id) ∧ -1 ≤ j ∧ j < 3 ∧ k = (j + 1).toNat)
        (pick l n' 3 + 1).toNat ⟨_, _, _, _, _, ns9, hb, by simp only [href]; simp, by simp only [href]; simp, by omega, by omega, by omega⟩ ?_
      clear ns9 ns8 ns hb href
      rintro k _ j wa ⟨n', f, rp, rl, rc, ns, hb, hrl, href, hj0, hj1, hk'⟩ K hK
      have hrln := ns.row.lenI
      refine jn_step (fun _ w' => w' = wa ∧ 0 ≤ j ∧ rl < ql) ?_ ?_
      · rintro _ _ _ ⟨rfl, hj, hlt⟩
        refine cl_ret (ns.num (by split <;> omega)) ?_
        rintro v wb ⟨rfl, nsb⟩
        refine ⟨_, rfl, ?_⟩
        have hpk0 := pick_nonneg (l := l) (n := n') (m := if (4 : Int) < (ql : Int) then 4 else (ql : Int)) (by split <;> omega)
        have hpk1 := pick_lt (l := l) (n := n') (m := if (4 : Int) < (ql : Int) then 4 else (ql : Int)) (by split <;> omega)
        have hpk2 : pick l n' (if (4 : Int) < (ql : Int) then 4 else (ql : Int)) < ql := by
          refine Int.lt_of_lt_of_le hpk1 ?_
          split <;> omega
        generalize pick l n' (if (4 : Int) < (ql : Int) then 4 else (ql : Int)) = pk at hpk0 hpk1 hpk2 ⊢
        rw [w64 (n := (ql : Int) - 1) (by omega) (by omega), w64 (n := (ql : Int) - 1 - pk) (by omega) (by omega)]
        have hkb := hk.chg nsb.chg (h.off (by decide)) (h.off (by decide))
        refine hkb.ix (by omega) (by omega) fun a q' rl' rc' hca _ => ⟨_, hca.get0, ?_⟩
        have hgf := gF_get (fs := known) (i := (ql : Int) - 1 - pk) (by omega) (by omega)
        have hidm : (gF known ((ql : Int) - 1 - pk)).id ∈ known.map Fr.id := List.mem_map.2 ⟨_, List.mem_of_getElem? hgf, rfl⟩
        generalize (gF known ((ql : Int) - 1 - pk)).id = rid at hidm ⊢
        have next : ∀ {wc : World} {n' : Nat} {f' : Fr} {rp' : Option Addr} {rl' rc' : Nat}, NS w wc b s l n' m0 m1 f' rp' rl' rc' → f'.id = f.id → f'.refs.length ≤ known.length → (∀ r ∈ f'.refs, r ∈ known.map Fr.id) → K (IntKind.wrap .i64 (j - 1)) wc := by
          intro wc n' f' rp' rl' rc' nsc hid h1 h2
          rw [w64 (by omega) (by omega)]
          refine hK j.toNat _ _ (by omega) ⟨_, f', _, _, _, nsc, ?_, h1, h2, by omega, by omega, by omega⟩
          unfold Behind at hb ⊢
          rw [hid]; exact hb
        refine lp_step (fun k st w' => NS w w' b s l _ m0 m1 f rp rl rc ∧ 0 ≤ st.2 ∧ st.2 ≤ rl ∧ k = ((rl : Int) - st.2).toNat) rl ⟨nsb, by simp, by simp, by simp⟩ ?_
        rintro k' _ ⟨tw, i⟩ wc ⟨nsc, hi0, hi1, hkk⟩ K' hK'
        simp only [] at hi0 hi1 hkk
        refine ⟨_, _, _, nsc.rd 2 (add_mk _ _ _) rfl, ?_⟩
        refine br_if (fun hlt' => ?_) (fun hge => ?_)
        · have go : ∀ tw', K' (tw', IntKind.wrap .i64 (i + 1)) wc := fun tw' => by
            have hlt'' : i < rl := hlt'
            rw [w64 (by omega) (by omega)]
            exact hK' _ _ _ (by omega) ⟨nsc, by simp only []; omega, by simp only []; omega, rfl⟩
          refine br_iff.2 ⟨fun _ => go _, fun _ => ?_⟩
          refine ⟨_, _, _, nsc.rd 2 (add_mk _ _ _) rfl, ?_⟩
          refine (Row.ints nsc.row (by omega)).ix hi0 (by simp only [] at hlt'; omega) fun a hca => ⟨_, hca, go _⟩
        · refine br_iff.2 ⟨fun _ => ?_, fun _ => next nsc rfl hrl href⟩
          refine ⟨_, _, _, nsc.rd 2 (add_mk _ _ _) rfl, ?_⟩
          refine nsc.app (by omega) fun wd rp' rc' nsd => ?_
          refine next nsd rfl (by simp; omega) ?_
          intro r hr
          rcases List.mem_append.1 hr with h | h
          · exact href r h
          · simp at h; subst h; exact hidm
      · refine ⟨_, ns.rd 1 (add_mk _ _ _) rfl, ?_⟩
        have out : (∃ n' f rp rl rc, NS w wa b s l n' m0 m1 f rp rl rc ∧ Behind known f ∧ f.refs.length ≤ known.length ∧ ∀ r ∈ f.refs, r ∈ known.map Fr.id) := ⟨_, _, _, _, _, ns, hb, hrl, href⟩
        refine br_iff.2 ⟨fun _ => ?_, fun _ => out⟩
        refine br_if (fun hj => ?_) (fun _ => out)
        refine ⟨_, _, _, ns.rd 2 (add_mk _ _ _) rfl, ?_⟩
        refine br_if (fun hlt => ⟨rfl, hj, by omega⟩) (fun _ => out)
  · -- the last of those that are known
    refine br_if (fun hpos => ?_) (fun hzero => ?_)
    · rw [w64 (n := (ql : Int) - 1) (by omega) (by omega)]
      have hk6 := hk.chg ns6.chg (h.off (by decide)) (h.off (by decide))
      refine hk6.ix (by omega) (by omega) fun a q' rl' rc' hca _ => ?_
      have hgf := gF_get (fs := known) (i := (ql : Int) - 1) (by omega) (by omega)
      generalize gF known ((ql : Int) - 1) = last at hca hgf
      refine ⟨_, _, _, _, _, _, _, _, hca, ?_⟩
      have hlast := hr.2 _ _ hgf
      have hq1 : ((ql : Int) - 1).toNat = known.length - 1 := by omega
      rw [hq1] at hgf hlast
      refine box_step zc31.symm (by simp [Value.oneCell']) fun m2 w7 hat7 he7 hb7 => ?_
      have ns7 := ns6.ext he7
      refine ⟨_, by rw [hat7.cell]; rfl, _, ns7.rd 0 rfl rfl, ?_⟩
      simp only []
      rw [wu32 (n := last.id + (1 + i0)) (by omega) (by omega)]
      have hne : m2 ≠ m1 := by
        obtain ⟨z, hz, ho⟩ := ns6.own
        have := ho.lt (k := 2) rfl
        omega
      refine ns7.st 0 ⟨last.id + (1 + i0), IntKind.wrap .i64 (1 + k0), 0, IntKind.wrap .i64 (clock + k1), IntKind.wrap .i64 (clock + IntKind.wrap .i64 (2 + k2)), []⟩ rfl (by decide) rfl rfl rfl fun w8 ns8 hc8 => ?_
      have hat8 := hc8.keep _ _ hat7 hne
      refine dr_step fun w9 _ he9 => ?_
      have ns9 := ns8.ext he9
      have hat9 : At w9 m2 _ 31 := he9.keep _ _ hat8 id
      refine ⟨_, ns9.rd 4 (add_mk _ _ _) rfl, last.play, by rw [add_mk, hat9.cell]; rfl, _, ns9.rd 5 (add_mk _ _ _) rfl, last.dl, by rw [add_mk, hat9.cell]; rfl, ?_⟩
      refine ns9.st 4 (f' := ⟨last.id + (1 + i0), IntKind.wrap .i64 (1 + k0), 0, if IntKind.wrap .i64 (clock + k1) < last.play then last.play else IntKind.wrap .i64 (clock + k1), IntKind.wrap .i64 (clock + IntKind.wrap .i64 (2 + k2)), []⟩) (add_mk _ _ _) (by decide) rfl rfl rfl fun w10 ns10 hc10 => ?_
      have hat10 := hc10.keep _ _ hat9 hne
      refine ⟨hold_cons (by show World.cell? w10 _ = _; rw [add_mk, At.cell hat10]; rfl) (fun p hp => by simp at hp), ?_⟩
      refine ns10.st 5 (f' := ⟨last.id + (1 + i0), IntKind.wrap .i64 (1 + k0), 0, if IntKind.wrap .i64 (clock + k1) < last.play then last.play else IntKind.wrap .i64 (clock + k1), if IntKind.wrap .i64 (clock + IntKind.wrap .i64 (2 + k2)) < last.dl then last.dl else IntKind.wrap .i64 (clock + IntKind.wrap .i64 (2 + k2)), []⟩) (add_mk _ _ _) (by decide) rfl rfl rfl fun w11 ns11 hc11 => ?_
      refine ⟨_, _, ns11, rfl, fun g hg => ?_, by simp only []; omega, by simp only []; omega⟩
      obtain ⟨i, hi⟩ := List.mem_iff_getElem?.1 hg
      have := hr.1.last (i := i) (x := g.id) (y := last.id) (by simp [hi]) (by simp [hgf])
      simp only []; omega
    · have hnil : known = [] := List.eq_nil_of_length_eq_zero (by omega)
      refine ns6.st 1 ⟨1 + i0, 1, 0, IntKind.wrap .i64 (clock + k1), IntKind.wrap .i64 (clock + IntKind.wrap .i64 (2 + k2)), []⟩ (add_mk _ _ _) (by decide) rfl rfl rfl fun w7 ns7 _ => ?_
      refine ⟨_, _, ns7, rfl, fun g hg => by rw [hnil] at hg; simp at hg, by simp only []; omega, by simp only []; omega⟩
end
end Go.SR
