/- PRINTED by a program of the prover's (wip/sr/Gen.lean): residuals of Go functions. -/
import Derived.Test.YtmmcihbcceahkaaA6
import Derived.Test.YtmmcihbcceahkaaProg
namespace Go.SR
open Go Go.Proofs

/- "girandole/girandolelaw16.TallyAny" (6) -/
set_option maxRecDepth 100000 in
def glaw16_TallyAny (x0 : Option Addr) (x0l _x0c : Nat) (x1 : Int) (R : Ending → World → Prop) (w : World) : Prop :=
  (cl Try.prog 19 #[] w (fun v0 w1 =>
 (∃ (b2 : Bool), ((v0 = (.bool b2)) ∧
  (br (!b2) (R (.returned (.bool Bool.false)) w1)
   (br (decide ((x0l : Int) > (20 : Int))) (R (.returned (.bool Bool.true)) w1)
   (cl Try.prog 20 #[] w1 (fun v3 w4 =>
  (∃ (p5 : (Option Addr)), ((v3 = (.pointer p5)) ∧
   (cl Try.prog 20 #[] w4 (fun v6 w7 =>
   (∃ (p8 : (Option Addr)), ((v6 = (.pointer p8)) ∧
    (cl Try.prog 21 #[(.pointer p5), (.int .u16 (100 : Int))] w7 (fun v9 w10 =>
    (∃ (n11 : Int) (b12 : Bool), ((v9 = (.tuple #[(.int .u64 n11), (.bool b12)])) ∧
     (cl Try.prog 21 #[(.pointer p8), (.int .u16 (100 : Int))] w10 (fun v13 w14 =>
     (∃ (n15 : Int) (b16 : Bool), ((v13 = (.tuple #[(.int .u64 n15), (.bool b16)])) ∧
      (lp (σ := (Int × (Int × (Int × (Int × Int))))) (fun _ k17 s18 w19 =>
      (br (decide (s18.2.2.2.2 < (x0l : Int)))
        (((x0l : Int) ≠ (0 : Int)) ∧
       (ixa x0 x0l s18.2.2.2.2 1 (fun a20 =>
       (∃ (b21 : Bool), (((World.cell? w19 a20) = (some (.bool b21))) ∧
        (br b21
         (cl Try.prog 21 #[(.pointer p5), (.int .u16 (IntKind.wrap .u16 (IntKind.wrap .i64 ((101 : Int) + s18.2.2.2.2))))] w19 (fun v22 w23 =>
        (∃ (n24 : Int) (b25 : Bool), ((v22 = (.tuple #[(.int .u64 n24), (.bool b25)])) ∧
         (ixa x0 x0l (Int.tmod (IntKind.wrap .i64 ((IntKind.wrap .i64 ((IntKind.wrap .i64 ((x0l : Int) - (1 : Int))) - s18.2.2.2.2)) + (IntKind.wrap .i64 x1))) (x0l : Int)) 1 (fun a26 =>
         (∃ (b27 : Bool), (((World.cell? w23 a26) = (some (.bool b27))) ∧
          (br b27
           (cl Try.prog 21 #[(.pointer p8), (.int .u16 (IntKind.wrap .u16 (IntKind.wrap .i64 ((101 : Int) + (Int.tmod (IntKind.wrap .i64 ((IntKind.wrap .i64 ((IntKind.wrap .i64 ((x0l : Int) - (1 : Int))) - s18.2.2.2.2)) + (IntKind.wrap .i64 x1))) (x0l : Int))))))] w23 (fun v28 w29 =>
          (∃ (n30 : Int) (b31 : Bool), ((v28 = (.tuple #[(.int .u64 n30), (.bool b31)])) ∧
           (k17 ((IntKind.wrap .i64 (s18.1 + (1 : Int))), ((0 : Int), ((if (s18.2.2.1 < s18.2.1) then s18.2.1 else s18.2.2.1), ((IntKind.wrap .i64 (s18.2.2.2.2 + (1 : Int))), (IntKind.wrap .i64 (s18.2.2.2.2 + (1 : Int))))))) w29)))) (fun x32 w33 => (R (.panicked x32) w33)))
           (k17 ((IntKind.wrap .i64 (s18.1 + (1 : Int))), ((0 : Int), ((if (s18.2.2.1 < s18.2.1) then s18.2.1 else s18.2.2.1), ((IntKind.wrap .i64 (s18.2.2.2.2 + (1 : Int))), (IntKind.wrap .i64 (s18.2.2.2.2 + (1 : Int))))))) w23))))))))) (fun x34 w35 => (R (.panicked x34) w35)))
         (ixa x0 x0l (Int.tmod (IntKind.wrap .i64 ((IntKind.wrap .i64 ((IntKind.wrap .i64 ((x0l : Int) - (1 : Int))) - s18.2.2.2.2)) + (IntKind.wrap .i64 x1))) (x0l : Int)) 1 (fun a36 =>
        (∃ (b37 : Bool), (((World.cell? w19 a36) = (some (.bool b37))) ∧
         (br b37
          (cl Try.prog 21 #[(.pointer p8), (.int .u16 (IntKind.wrap .u16 (IntKind.wrap .i64 ((101 : Int) + (Int.tmod (IntKind.wrap .i64 ((IntKind.wrap .i64 ((IntKind.wrap .i64 ((x0l : Int) - (1 : Int))) - s18.2.2.2.2)) + (IntKind.wrap .i64 x1))) (x0l : Int))))))] w19 (fun v38 w39 =>
         (∃ (n40 : Int) (b41 : Bool), ((v38 = (.tuple #[(.int .u64 n40), (.bool b41)])) ∧
          (k17 (s18.1, ((IntKind.wrap .i64 (s18.2.1 + (1 : Int))), (s18.2.2.1, (s18.2.2.2.1, (IntKind.wrap .i64 (s18.2.2.2.2 + (1 : Int))))))) w39)))) (fun x42 w43 => (R (.panicked x42) w43)))
          (k17 (s18.1, ((IntKind.wrap .i64 (s18.2.1 + (1 : Int))), (s18.2.2.1, (s18.2.2.2.1, (IntKind.wrap .i64 (s18.2.2.2.2 + (1 : Int))))))) w19))))))))))))
        (cl Try.prog 22 #[(.pointer p5)] w19 (fun v44 w45 =>
       (∃ (n46 : Int) (n47 : Int) (n48 : Int) (n49 : Int) (n50 : Int), ((v44 = (.agg #[(.int .u64 n46), (.int .u32 n47), (.int .u32 n48), (.int .u16 n49), (.int .u16 n50)])) ∧
        (cl Try.prog 22 #[(.pointer p8)] w45 (fun v51 w52 =>
        (∃ (n53 : Int) (n54 : Int) (n55 : Int) (n56 : Int) (n57 : Int), ((v51 = (.agg #[(.int .u64 n53), (.int .u32 n54), (.int .u32 n55), (.int .u16 n56), (.int .u16 n57)])) ∧
         (al (zc Try.prog 46) 46 w52 (fun m58 w59 =>
         (al (zc Try.prog 46) 46 w59 (fun m60 w61 =>
          (stN ⟨m58, 0, none⟩ [(.int .u64 n46), (.int .u32 n47), (.int .u32 n48), (.int .u16 n49), (.int .u16 n50)] w61 (fun w62 =>
           (stN ⟨m60, 0, none⟩ [(.int .u64 n53), (.int .u32 n54), (.int .u32 n55), (.int .u16 n56), (.int .u16 n57)] w62 (fun w63 =>
            (∃ (n64 : Int) (n65 : Int) (n66 : Int) (n67 : Int) (n68 : Int), ((cellsAt w63 ⟨m58, 0, none⟩ [(.int .u64 n64), (.int .u32 n65), (.int .u32 n66), (.int .u16 n67), (.int .u16 n68)]) ∧
             (∃ (n69 : Int) (n70 : Int) (n71 : Int) (n72 : Int) (n73 : Int), ((cellsAt w63 ⟨m60, 0, none⟩ [(.int .u64 n69), (.int .u32 n70), (.int .u32 n71), (.int .u16 n72), (.int .u16 n73)]) ∧
             (br
              ((n64 == n69) && ((n65 == n70) && ((n66 == n71) && ((n67 == n72) && ((n68 == n73) && Bool.true)))))
              (∃ (n74 : Int) (n75 : Int) (n76 : Int) (n77 : Int) (n78 : Int), ((cellsAt w63 ⟨m58, 0, none⟩ [(.int .u64 n74), (.int .u32 n75), (.int .u32 n76), (.int .u16 n77), (.int .u16 n78)]) ∧
             (br
              ((n74 == (IntKind.wrap .u64 (IntKind.wrap .i64 ((65636 : Int) + s18.2.2.2.1)))) && ((n75 == (IntKind.wrap .u32 (IntKind.wrap .i64 (s18.2.2.2.1 - s18.1)))) && ((n76 == (IntKind.wrap .u32 (IntKind.wrap .i64 (s18.1 + (1 : Int))))) && ((n77 == (IntKind.wrap .u16 s18.2.2.1)) && ((n78 == (0 : Int)) && Bool.true)))))
              (cl Try.prog 23 #[(.pointer p8)] w63 (fun v79 w80 =>
             (∃ (n81 : Int), ((v79 = (.int .u64 n81)) ∧ (R (.returned (.bool (n81 == (0 : Int)))) w80)))) (fun x82 w83 => (R (.panicked x82) w83))) (R (.returned (.bool Bool.false)) w63)))) (R (.returned (.bool Bool.false)) w63))))))))))))))))) (fun x84 w85 => (R (.panicked x84) w85)))))) (fun x86 w87 => (R (.panicked x86) w87))))) ((0 : Int), ((0 : Int), ((0 : Int), ((0 : Int), (0 : Int))))) w14)))) (fun x88 w89 => (R (.panicked x88) w89)))))) (fun x90 w91 => (R (.panicked x90) w91)))))) (fun x92 w93 => (R (.panicked x92) w93)))))) (fun x94 w95 => (R (.panicked x94) w95)))))))) (fun x96 w97 => (R (.panicked x96) w97)))

def glaw16_TallyAny_an : Ann := (.seq .leaf (.seq (.seq .leaf (.cond (.seq .leaf .leaf) .leaf)) (.seq (.seq .leaf (.cond (.seq .leaf .leaf) .leaf)) (.seq .leaf (.seq .leaf (.seq .leaf (.seq .leaf (.seq (.seq .leaf (.block (.loop (.seq (.seq .leaf (.cond .leaf .leaf)) (.seq (.block (.seq .leaf (.seq (.seq .leaf (.cond (.seq .leaf (.seq .leaf (.seq .leaf (.seq .leaf .leaf)))) .leaf)) (.seq .leaf (.cond .leaf .leaf))))) .leaf)) [7, 8, 9, 10, 11, 12, 26, 27, 28, 29, 30, 31, 32, 33, 34, 35, 36, 37, 38, 39, 40, 41, 42, 43, 44, 45, 46, 47, 48, 49, 50, 51, 52, 53, 54, 55, 56, 57, 58, 59, 60, 61, 62, 63, 64, 65, 66, 67, 68, 69] [(7, (.int .i64)), (8, (.int .i64)), (9, (.int .i64)), (10, (.int .i64)), (11, (.int .i64))]))) (.seq .leaf (.seq .leaf .leaf))))))))))

set_option maxRecDepth 100000 in
theorem glaw16_TallyAny_ok (x0 : Option Addr) (x0l x0c : Nat) (x1 : Int) (R : Ending → World → Prop) (w : World) (h : glaw16_TallyAny x0 x0l x0c x1 R w) : Cs Try.prog 6 (#[(.slice x0 x0l x0c), (.int .u8 x1)] : Array Value) w R :=
  fn_sound (ty := []) (ann := glaw16_TallyAny_an) (N := 99) (by kernel_rfl) (by kernel_rfl) Try.func6 rfl (by kernel_rfl) (by show 2 ≤ 99; decide) (by kernel_rfl)
    (Eq.mpr (show cdA Try.prog [] glaw16_TallyAny_an _ _ _ w = glaw16_TallyAny x0 x0l x0c x1 R w by kernel_rfl) h)

/- "girandole/girandolelaw16.begun" (19) -/
set_option maxRecDepth 100000 in
def glaw16_begun (R : Ending → World → Prop) (w : World) : Prop :=
  (cl Try.prog 20 #[] w (fun v0 w1 =>
 (∃ (p2 : (Option Addr)), ((v0 = (.pointer p2)) ∧
  (br (Option.isNone p2) (R (.returned (.bool Bool.false)) w1)
   (cl Try.prog 21 #[(.pointer p2), (.int .u16 (1 : Int))] w1 (fun v3 w4 =>
  (∃ (n5 : Int) (b6 : Bool), ((v3 = (.tuple #[(.int .u64 n5), (.bool b6)])) ∧
   (cl Try.prog 21 #[(.pointer p2), (.int .u16 (1 : Int))] w4 (fun v7 w8 =>
   (∃ (n9 : Int) (b10 : Bool), ((v7 = (.tuple #[(.int .u64 n9), (.bool b10)])) ∧
    (cl Try.prog 21 #[(.pointer p2), (.int .u16 (3 : Int))] w8 (fun v11 w12 =>
    (∃ (n13 : Int) (b14 : Bool), ((v11 = (.tuple #[(.int .u64 n13), (.bool b14)])) ∧
     (cl Try.prog 22 #[(.pointer p2)] w12 (fun v15 w16 =>
     (∃ (n17 : Int) (n18 : Int) (n19 : Int) (n20 : Int) (n21 : Int), ((v15 = (.agg #[(.int .u64 n17), (.int .u32 n18), (.int .u32 n19), (.int .u16 n20), (.int .u16 n21)])) ∧
      (al (zc Try.prog 46) 46 w16 (fun m22 w23 =>
      (stN ⟨m22, 0, none⟩ [(.int .u64 n17), (.int .u32 n18), (.int .u32 n19), (.int .u16 n20), (.int .u16 n21)] w23 (fun w24 =>
       (cl Try.prog 22 #[(.pointer p2)] w24 (fun v25 w26 =>
        (∃ (n27 : Int) (n28 : Int) (n29 : Int) (n30 : Int) (n31 : Int), ((v25 = (.agg #[(.int .u64 n27), (.int .u32 n28), (.int .u32 n29), (.int .u16 n30), (.int .u16 n31)])) ∧
         (al (zc Try.prog 46) 46 w26 (fun m32 w33 =>
         (stN ⟨m32, 0, none⟩ [(.int .u64 n27), (.int .u32 n28), (.int .u32 n29), (.int .u16 n30), (.int .u16 n31)] w33 (fun w34 =>
          (br (n5 == (65537 : Int))
            (br b6
            (br (!b10)
            (∃ (n35 : Int), (((World.cell? w34 ⟨m22, 0, none⟩) = (some (.int .u64 n35))) ∧
           (br (n35 == (65539 : Int))
            (∃ (n36 : Int), (((World.cell? w34 (Addr.add ⟨m22, 0, none⟩ 1)) = (some (.int .u32 n36))) ∧
           (br (n36 == (1 : Int))
            (∃ (n37 : Int), (((World.cell? w34 (Addr.add ⟨m22, 0, none⟩ 2)) = (some (.int .u32 n37))) ∧
           (br (n37 == (2 : Int))
            (∃ (n38 : Int), (((World.cell? w34 (Addr.add ⟨m22, 0, none⟩ 3)) = (some (.int .u16 n38))) ∧
           (br (n38 == (1 : Int))
            (∃ (n39 : Int), (((World.cell? w34 (Addr.add ⟨m32, 0, none⟩ 2)) = (some (.int .u32 n39))) ∧
           (br (n39 == (0 : Int))
            (cl Try.prog 50 #[(.pointer p2)] w34 (fun v40 w41 =>
           (∃ (n42 : Int), ((v40 = (.int .u64 n42)) ∧
            (br (n42 == (1 : Int))
             (cl Try.prog 23 #[(.pointer p2)] w41 (fun v43 w44 =>
            (∃ (n45 : Int), ((v43 = (.int .u64 n45)) ∧ (R (.returned (.bool (n45 == (0 : Int)))) w44)))) (fun x46 w47 => (R (.panicked x46) w47))) (R (.returned (.bool Bool.false)) w41))))) (fun x48 w49 => (R (.panicked x48) w49))) (R (.returned (.bool Bool.false)) w34)))) (R (.returned (.bool Bool.false)) w34)))) (R (.returned (.bool Bool.false)) w34)))) (R (.returned (.bool Bool.false)) w34)))) (R (.returned (.bool Bool.false)) w34)))) (R (.returned (.bool Bool.false)) w34)) (R (.returned (.bool Bool.false)) w34)) (R (.returned (.bool Bool.false)) w34))))))))) (fun x50 w51 => (R (.panicked x50) w51)))))))))) (fun x52 w53 => (R (.panicked x52) w53)))))) (fun x54 w55 => (R (.panicked x54) w55)))))) (fun x56 w57 => (R (.panicked x56) w57)))))) (fun x58 w59 => (R (.panicked x58) w59))))))) (fun x60 w61 => (R (.panicked x60) w61)))

def glaw16_begun_an : Ann := (.seq .leaf (.seq .leaf (.seq (.seq .leaf (.cond (.seq .leaf .leaf) .leaf)) (.seq .leaf (.seq .leaf (.seq .leaf (.seq .leaf (.seq .leaf (.seq .leaf .leaf)))))))))

set_option maxRecDepth 100000 in
theorem glaw16_begun_ok (R : Ending → World → Prop) (w : World) (h : glaw16_begun R w) : Cs Try.prog 19 (#[] : Array Value) w R :=
  fn_sound (ty := []) (ann := glaw16_begun_an) (N := 71) (by kernel_rfl) (by kernel_rfl) Try.func19 rfl (by kernel_rfl) (by show 0 ≤ 71; decide) (by kernel_rfl)
    (Eq.mpr (show cdA Try.prog [] glaw16_begun_an _ _ _ w = glaw16_begun R w by kernel_rfl) h)

/- "girandole/tally.New" (20) -/
set_option maxRecDepth 100000 in
def tally_New (R : Ending → World → Prop) (w : World) : Prop :=
  (cl Try.prog 51 #[] w (fun v0 w1 =>
 (∃ (p2 : (Option Addr)), ((v0 = (.pointer p2)) ∧
  (nwo (.map #[] 0) w1 (fun m3 w4 =>
  (al #[(.pointer p2), (.map (some m3)), (.int .u64 (0 : Int)), (.bool Bool.false), (.int .u64 (0 : Int)), (.int .u64 (0 : Int))] 109 w4 (fun m5 w6 => (R (.returned (.pointer (some ⟨m5, 0, none⟩))) w6)))))))) (fun x7 w8 => (R (.panicked x7) w8)))

def tally_New_an : Ann := (.seq .leaf (.seq .leaf .leaf))

set_option maxRecDepth 100000 in
theorem tally_New_ok (R : Ending → World → Prop) (w : World) (h : tally_New R w) : Cs Try.prog 20 (#[] : Array Value) w R :=
  fn_sound (ty := []) (ann := tally_New_an) (N := 5) (by kernel_rfl) (by kernel_rfl) Try.func20 rfl (by kernel_rfl) (by show 0 ≤ 5; decide) (by kernel_rfl)
    (Eq.mpr (show cdA Try.prog [] tally_New_an _ _ _ w = tally_New R w by kernel_rfl) h)

/- "(*girandole/tally.Tally).Got" (21) -/
set_option maxRecDepth 100000 in
def tally_Tally_Got (x0 : Option Addr) (x1 : Int) (R : Ending → World → Prop) (w : World) : Prop :=
  (br (Option.isNone x0)
  (R (.returned (.tuple #[(.int .u64 (0 : Int)), (.bool Bool.false)])) w)
  (nc x0 (fun a0 =>
 (∃ (p1 : (Option Addr)), (((World.cell? w a0) = (some (.pointer p1))) ∧
  (cl Try.prog 52 #[(.pointer p1), (.int .u16 x1)] w (fun v2 w3 =>
  (∃ (n4 : Int), ((v2 = (.int .u64 n4)) ∧
   (jn (σ := PUnit) (fun _ _ w5 =>
   (nc x0 (fun a6 =>
    (∃ (p7 : (Option Nat)), (((World.cell? w5 (Addr.add a6 1)) = (some (.map p7))) ∧
     (mrd Try.prog (Instr.lookup 107 (.map p7) (.int .u64 n4) Bool.false) p7 w5 (fun v8 _ =>
     (∃ (b9 : Bool), ((v8 = (.bool b9)) ∧
      (br b9
       (nc x0 (fun a10 =>
      (∃ (n11 : Int), (((World.cell? w5 (Addr.add a10 5)) = (some (.int .u64 n11))) ∧
       (nc x0 (fun a12 =>
       (st1 (Addr.add a12 5) (.int .u64 (IntKind.wrap .u64 (n11 + (1 : Int)))) w5 (fun w13 => (R (.returned (.tuple #[(.int .u64 n4), (.bool Bool.false)])) w13)))))))))
       (nc x0 (fun a14 =>
      (∃ (p15 : (Option Nat)), (((World.cell? w5 (Addr.add a14 1)) = (some (.map p15))) ∧
       (rnU Try.prog (Instr.mapUpdate 107 (.map p15) (.int .u64 n4) (.bool Bool.true)) w5 (fun w16 =>
       (nc x0 (fun a17 =>
        (∃ (n18 : Int), (((World.cell? w16 (Addr.add a17 2)) = (some (.int .u64 n18))) ∧
         (br (decide (n4 ≤ n18))
          (nc x0 (fun a19 =>
         (∃ (n20 : Int), (((World.cell? w16 (Addr.add a19 4)) = (some (.int .u64 n20))) ∧
          (nc x0 (fun a21 =>
          (st1 (Addr.add a21 4) (.int .u64 (IntKind.wrap .u64 (n20 + (1 : Int)))) w16 (fun w22 => (R (.returned (.tuple #[(.int .u64 n4), (.bool Bool.true)])) w22)))))))))
          (R (.returned (.tuple #[(.int .u64 n4), (.bool Bool.true)])) w16)))))))))))))))))))))) (fun k23 =>
   (nc x0 (fun a24 =>
    (∃ (b25 : Bool), (((World.cell? w3 (Addr.add a24 3)) = (some (.bool b25))) ∧
     (br (!b25)
      (nc x0 (fun a26 =>
     (st1 (Addr.add a26 2) (.int .u64 (IntKind.wrap .u64 (n4 - (1 : Int)))) w3 (fun w27 =>
      (nc x0 (fun a28 => (st1 (Addr.add a28 3) (.bool Bool.true) w27 (fun w29 => (k23 () w29))))))))) (k23 () w3))))))))))) (fun x30 w31 => (R (.panicked x30) w31))))))))

def tally_Tally_Got_an : Ann := (.seq .leaf (.seq (.seq .leaf (.cond (.seq .leaf .leaf) .leaf)) (.seq .leaf (.join (.seq .leaf (.cond .leaf .leaf)) [15, 16, 17, 18, 19, 20, 21, 22, 23, 24, 25, 26, 27] [] (.seq (.seq .leaf (.cond (.seq .leaf (.seq .leaf .leaf)) .leaf)) (.seq .leaf (.seq (.seq .leaf (.cond .leaf .leaf)) (.seq .leaf .leaf))))))))

set_option maxRecDepth 100000 in
theorem tally_Tally_Got_ok (x0 : Option Addr) (x1 : Int) (R : Ending → World → Prop) (w : World) (h : tally_Tally_Got x0 x1 R w) : Cs Try.prog 21 (#[(.pointer x0), (.int .u16 x1)] : Array Value) w R :=
  fn_sound (ty := []) (ann := tally_Tally_Got_an) (N := 61) (by kernel_rfl) (by kernel_rfl) Try.func21 rfl (by kernel_rfl) (by show 2 ≤ 61; decide) (by kernel_rfl)
    (Eq.mpr (show cdA Try.prog [] tally_Tally_Got_an _ _ _ w = tally_Tally_Got x0 x1 R w by kernel_rfl) h)

/- "(*girandole/tally.Tally).Report" (22) -/
set_option maxRecDepth 100000 in
def tally_Tally_Report (x0 : Option Addr) (R : Ending → World → Prop) (w : World) : Prop :=
  (al (zc Try.prog 46) 46 w (fun m0 w1 =>
 (jn (σ := PUnit) (fun _ _ w2 =>
  (nc x0 (fun a3 =>
   (∃ (p4 : (Option Addr)), (((World.cell? w2 a3) = (some (.pointer p4))) ∧
    (cl Try.prog 53 #[(.pointer p4)] w2 (fun v5 w6 =>
    (∃ (n7 : Int) (b8 : Bool), ((v5 = (.tuple #[(.int .u64 n7), (.bool b8)])) ∧
     (dr w6 (fun w9 =>
     (nc x0 (fun a10 =>
      (∃ (n11 : Int), (((World.cell? w9 (Addr.add a10 2)) = (some (.int .u64 n11))) ∧
       (nc x0 (fun a12 =>
       (∃ (p13 : (Option Nat)), (((World.cell? w9 (Addr.add a12 1)) = (some (.map p13))) ∧
        (cl Try.prog 55 #[(.map p13)] w9 (fun v14 w15 =>
        (∃ (v16 : Value), ((v14 = v16) ∧
         (cl Try.prog 54 #[v16] w15 (fun v17 w18 =>
         (∃ (p19 : (Option Addr)) (m20 : Nat) (m21 : Nat), ((v17 = (.slice p19 m20 m21)) ∧
          (lp (σ := (Int × (Int × (Int × Int)))) (fun _ k22 s23 w24 =>
          (br (decide (s23.2.2.2 < (m20 : Int)))
            (ixa p19 m20 s23.2.2.2 1 (fun a25 =>
           (∃ (n26 : Int), (((World.cell? w24 a25) = (some (.int .u64 n26))) ∧
            (nc x0 (fun a27 =>
            (∃ (n28 : Int), (((World.cell? w24 (Addr.add a27 2)) = (some (.int .u64 n28))) ∧
             (br (decide (n26 > n28))
              (k22 ((IntKind.wrap .u64 (s23.1 + (1 : Int))), ((if (s23.2.1 < (IntKind.wrap .u64 ((IntKind.wrap .u64 (n26 - s23.2.2.1)) - (1 : Int)))) then (IntKind.wrap .u64 ((IntKind.wrap .u64 (n26 - s23.2.2.1)) - (1 : Int))) else s23.2.1), (n26, (IntKind.wrap .i64 (s23.2.2.2 + (1 : Int)))))) w24)
              (k22 (s23.1, (s23.2.1, (s23.2.2.1, (IntKind.wrap .i64 (s23.2.2.2 + (1 : Int)))))) w24))))))))))
            (nc x0 (fun a29 =>
           (∃ (n30 : Int), (((World.cell? w24 (Addr.add a29 2)) = (some (.int .u64 n30))) ∧
            (cl Try.prog 56 #[(.int .u64 (IntKind.wrap .u64 ((IntKind.wrap .u64 (n7 - n30)) - s23.1)))] w24 (fun v31 w32 =>
            (∃ (n33 : Int), ((v31 = (.int .u32 n33)) ∧
             (cl Try.prog 56 #[(.int .u64 s23.1)] w32 (fun v34 w35 =>
             (∃ (n36 : Int), ((v34 = (.int .u32 n36)) ∧
              (al (zc Try.prog 46) 46 w35 (fun m37 w38 =>
              (stN ⟨m37, 0, none⟩ [(.int .u64 n7), (.int .u32 n33), (.int .u32 n36), (.int .u16 (IntKind.wrap .u16 (if ((65535 : Int) < s23.2.1) then (65535 : Int) else s23.2.1))), (.int .u16 (0 : Int))] w38 (fun w39 =>
               (nc x0 (fun a40 =>
                (st1 (Addr.add a40 2) (.int .u64 n7) w39 (fun w41 =>
                 (∃ (n42 : Int) (n43 : Int) (n44 : Int) (n45 : Int) (n46 : Int), ((cellsAt w41 ⟨m37, 0, none⟩ [(.int .u64 n42), (.int .u32 n43), (.int .u32 n44), (.int .u16 n45), (.int .u16 n46)]) ∧
                  (stN ⟨m0, 0, none⟩ [(.int .u64 n42), (.int .u32 n43), (.int .u32 n44), (.int .u16 n45), (.int .u16 n46)] w41 (fun w47 =>
                  (∃ (n48 : Int) (n49 : Int) (n50 : Int) (n51 : Int) (n52 : Int), ((cellsAt w47 ⟨m0, 0, none⟩ [(.int .u64 n48), (.int .u32 n49), (.int .u32 n50), (.int .u16 n51), (.int .u16 n52)]) ∧
                   (R (.returned (.agg #[(.int .u64 n48), (.int .u32 n49), (.int .u32 n50), (.int .u16 n51), (.int .u16 n52)])) w47)))))))))))))))))) (fun x53 w54 => (R (.panicked x53) w54)))))) (fun x55 w56 => (R (.panicked x55) w56))))))))) ((0 : Int), ((0 : Int), (n11, (0 : Int)))) w18)))) (fun x57 w58 => (R (.panicked x57) w58)))))) (fun x59 w60 => (R (.panicked x59) w60)))))))))))))))) (fun x61 w62 => (R (.panicked x61) w62)))))))) (fun k63 =>
  (br (Option.isNone x0)
    (stN ⟨m0, 0, none⟩ [(.int .u64 (0 : Int)), (.int .u32 (0 : Int)), (.int .u32 (0 : Int)), (.int .u16 (0 : Int)), (.int .u16 (0 : Int))] w1 (fun w64 =>
   (∃ (n65 : Int) (n66 : Int) (n67 : Int) (n68 : Int) (n69 : Int), ((cellsAt w64 ⟨m0, 0, none⟩ [(.int .u64 n65), (.int .u32 n66), (.int .u32 n67), (.int .u16 n68), (.int .u16 n69)]) ∧
    (R (.returned (.agg #[(.int .u64 n65), (.int .u32 n66), (.int .u32 n67), (.int .u16 n68), (.int .u16 n69)])) w64)))))
    (nc x0 (fun a70 =>
   (∃ (b71 : Bool), (((World.cell? w1 (Addr.add a70 3)) = (some (.bool b71))) ∧
    (br (!b71)
     (stN ⟨m0, 0, none⟩ [(.int .u64 (0 : Int)), (.int .u32 (0 : Int)), (.int .u32 (0 : Int)), (.int .u16 (0 : Int)), (.int .u16 (0 : Int))] w1 (fun w72 =>
    (∃ (n73 : Int) (n74 : Int) (n75 : Int) (n76 : Int) (n77 : Int), ((cellsAt w72 ⟨m0, 0, none⟩ [(.int .u64 n73), (.int .u32 n74), (.int .u32 n75), (.int .u16 n76), (.int .u16 n77)]) ∧
     (R (.returned (.agg #[(.int .u64 n73), (.int .u32 n74), (.int .u32 n75), (.int .u16 n76), (.int .u16 n77)])) w72))))) (k63 () w1)))))))))))

def tally_Tally_Report_an : Ann := (.seq .leaf (.join (.seq .leaf (.cond (.seq .leaf .leaf) .leaf)) [11, 12, 13, 14, 15, 16, 17, 18, 19, 20] [] (.seq .leaf (.seq (.plan [.take 0, .take 1, .take 2, .take 3, .take 4, .take 5, .take 6]) (.seq (.seq .leaf (.block (.loop (.seq .leaf (.seq (.cond .leaf .leaf) (.seq (.block (.seq .leaf (.seq .leaf (.cond (.seq .leaf (.seq .leaf .leaf)) .leaf)))) .leaf))) [5, 6, 7, 9, 40, 41, 42, 43, 44, 45, 46, 47, 48, 49, 50, 51, 52, 53, 54, 55, 56, 57, 58, 59] [(5, (.int .u64)), (6, (.int .u64)), (7, (.int .u64)), (40, (.int .i64))]))) (.seq .leaf (.seq .leaf (.seq .leaf .leaf))))))))

set_option maxRecDepth 100000 in
theorem tally_Tally_Report_ok (x0 : Option Addr) (R : Ending → World → Prop) (w : World) (h : tally_Tally_Report x0 R w) : Cs Try.prog 22 (#[(.pointer x0)] : Array Value) w R :=
  fn_sound (ty := []) (ann := tally_Tally_Report_an) (N := 81) (by kernel_rfl) (by kernel_rfl) Try.func22 rfl (by kernel_rfl) (by show 1 ≤ 81; decide) (by kernel_rfl)
    (Eq.mpr (show cdA Try.prog [] tally_Tally_Report_an _ _ _ w = tally_Tally_Report x0 R w by kernel_rfl) h)

/- "(*girandole/tally.Tally).Late" (23) -/
set_option maxRecDepth 100000 in
def tally_Tally_Late (x0 : Option Addr) (R : Ending → World → Prop) (w : World) : Prop :=
  (br (Option.isNone x0) (R (.returned (.int .u64 (0 : Int))) w)
  (nc x0 (fun a0 =>
 (∃ (n1 : Int), (((World.cell? w (Addr.add a0 4)) = (some (.int .u64 n1))) ∧ (R (.returned (.int .u64 n1)) w))))))

def tally_Tally_Late_an : Ann := (.seq .leaf (.seq (.seq .leaf (.cond (.seq .leaf .leaf) .leaf)) (.seq .leaf .leaf)))

set_option maxRecDepth 100000 in
theorem tally_Tally_Late_ok (x0 : Option Addr) (R : Ending → World → Prop) (w : World) (h : tally_Tally_Late x0 R w) : Cs Try.prog 23 (#[(.pointer x0)] : Array Value) w R :=
  fn_sound (ty := []) (ann := tally_Tally_Late_an) (N := 9) (by kernel_rfl) (by kernel_rfl) Try.func23 rfl (by kernel_rfl) (by show 1 ≤ 9; decide) (by kernel_rfl)
    (Eq.mpr (show cdA Try.prog [] tally_Tally_Late_an _ _ _ w = tally_Tally_Late x0 R w by kernel_rfl) h)

/- "(*girandole/tally.Tally).Twice" (50) -/
set_option maxRecDepth 100000 in
def tally_Tally_Twice (x0 : Option Addr) (R : Ending → World → Prop) (w : World) : Prop :=
  (br (Option.isNone x0) (R (.returned (.int .u64 (0 : Int))) w)
  (nc x0 (fun a0 =>
 (∃ (n1 : Int), (((World.cell? w (Addr.add a0 5)) = (some (.int .u64 n1))) ∧ (R (.returned (.int .u64 n1)) w))))))

def tally_Tally_Twice_an : Ann := (.seq .leaf (.seq (.seq .leaf (.cond (.seq .leaf .leaf) .leaf)) (.seq .leaf .leaf)))

set_option maxRecDepth 100000 in
theorem tally_Tally_Twice_ok (x0 : Option Addr) (R : Ending → World → Prop) (w : World) (h : tally_Tally_Twice x0 R w) : Cs Try.prog 50 (#[(.pointer x0)] : Array Value) w R :=
  fn_sound (ty := []) (ann := tally_Tally_Twice_an) (N := 9) (by kernel_rfl) (by kernel_rfl) Try.func50 rfl (by kernel_rfl) (by show 1 ≤ 9; decide) (by kernel_rfl)
    (Eq.mpr (show cdA Try.prog [] tally_Tally_Twice_an _ _ _ w = tally_Tally_Twice x0 R w by kernel_rfl) h)

/- "girandole/serial.New" (51) -/
set_option maxRecDepth 100000 in
def serial_New (R : Ending → World → Prop) (w : World) : Prop :=
  (al #[(.int .u64 (0 : Int)), (.bool Bool.false)] 149 w (fun m0 w1 => (R (.returned (.pointer (some ⟨m0, 0, none⟩))) w1)))

def serial_New_an : Ann := (.seq .leaf (.seq .leaf .leaf))

set_option maxRecDepth 100000 in
theorem serial_New_ok (R : Ending → World → Prop) (w : World) (h : serial_New R w) : Cs Try.prog 51 (#[] : Array Value) w R :=
  fn_sound (ty := []) (ann := serial_New_an) (N := 3) (by kernel_rfl) (by kernel_rfl) Try.func51 rfl (by kernel_rfl) (by show 0 ≤ 3; decide) (by kernel_rfl)
    (Eq.mpr (show cdA Try.prog [] serial_New_an _ _ _ w = serial_New R w by kernel_rfl) h)

/- "(*girandole/serial.Ext).Extend" (52) -/
set_option maxRecDepth 100000 in
def serial_Ext_Extend (x0 : Option Addr) (x1 : Int) (R : Ending → World → Prop) (w : World) : Prop :=
  (br (Option.isNone x0) (R (.returned (.int .u64 (0 : Int))) w)
  (nc x0 (fun a0 =>
 (∃ (b1 : Bool), (((World.cell? w (Addr.add a0 1)) = (some (.bool b1))) ∧
  (br (!b1)
   (nc x0 (fun a2 =>
  (st1 a2 (.int .u64 (IntKind.wrap .u64 ((65536 : Int) + (IntKind.wrap .u64 x1)))) w (fun w3 =>
   (nc x0 (fun a4 =>
    (st1 (Addr.add a4 1) (.bool Bool.true) w3 (fun w5 =>
     (nc x0 (fun a6 =>
      (∃ (n7 : Int), (((World.cell? w5 a6) = (some (.int .u64 n7))) ∧ (R (.returned (.int .u64 n7)) w5)))))))))))))
   (dr w (fun w8 =>
  (nc x0 (fun a9 =>
   (∃ (n10 : Int), (((World.cell? w8 a9) = (some (.int .u64 n10))) ∧
    (nc x0 (fun a11 =>
    (∃ (n12 : Int), (((World.cell? w8 a11) = (some (.int .u64 n12))) ∧
     (cl Try.prog 75 #[(.int .u16 (IntKind.wrap .u16 n12)), (.int .u16 x1)] w8 (fun v13 w14 =>
     (∃ (n15 : Int), ((v13 = (.int .i64 n15)) ∧
      ((hold [(.cell a11 (.int .u64 n12)), (.cell a9 (.int .u64 n10))] w14) ∧
      (br
       (decide ((IntKind.wrap .i64 ((IntKind.wrap .i64 n10) + n15)) < (0 : Int)))
       (nc x0 (fun a16 =>
      (∃ (n17 : Int), (((World.cell? w14 a16) = (some (.int .u64 n17))) ∧
       (nc x0 (fun a18 =>
       (st1 a18 (.int .u64 (if (n17 < (IntKind.wrap .u64 (IntKind.wrap .i64 ((IntKind.wrap .i64 ((IntKind.wrap .i64 n10) + n15)) + (65536 : Int))))) then (IntKind.wrap .u64 (IntKind.wrap .i64 ((IntKind.wrap .i64 ((IntKind.wrap .i64 n10) + n15)) + (65536 : Int)))) else n17)) w14 (fun w19 =>
        (R (.returned (.int .u64 (IntKind.wrap .u64 (IntKind.wrap .i64 ((IntKind.wrap .i64 ((IntKind.wrap .i64 n10) + n15)) + (65536 : Int)))))) w19)))))))))
       (nc x0 (fun a20 =>
      (∃ (n21 : Int), (((World.cell? w14 a20) = (some (.int .u64 n21))) ∧
       (nc x0 (fun a22 =>
       (st1 a22 (.int .u64 (if (n21 < (IntKind.wrap .u64 (IntKind.wrap .i64 ((IntKind.wrap .i64 n10) + n15)))) then (IntKind.wrap .u64 (IntKind.wrap .i64 ((IntKind.wrap .i64 n10) + n15))) else n21)) w14 (fun w23 =>
        (R (.returned (.int .u64 (IntKind.wrap .u64 (IntKind.wrap .i64 ((IntKind.wrap .i64 n10) + n15))))) w23)))))))))))))) (fun _ _ => False))))))))))))))))))

def serial_Ext_Extend_an : Ann := (.seq .leaf (.seq (.seq .leaf (.cond (.seq .leaf .leaf) .leaf)) (.seq (.seq .leaf (.cond (.seq .leaf (.seq .leaf .leaf)) .leaf)) (.seq (.plan [.take 0, .take 1, .take 2, .take 3, .take 4, .take 5, .take 6, .take 7, .take 8, .take 9, .take 10, .eff 11, .take 12, .take 13]) (.seq (.seq .leaf (.cond .leaf .leaf)) (.seq .leaf (.seq .leaf .leaf)))))))

set_option maxRecDepth 100000 in
theorem serial_Ext_Extend_ok (x0 : Option Addr) (x1 : Int) (R : Ending → World → Prop) (w : World) (h : serial_Ext_Extend x0 x1 R w) : Cs Try.prog 52 (#[(.pointer x0), (.int .u16 x1)] : Array Value) w R :=
  fn_sound (ty := []) (ann := serial_Ext_Extend_an) (N := 55) (by kernel_rfl) (by kernel_rfl) Try.func52 rfl (by kernel_rfl) (by show 2 ≤ 55; decide) (by kernel_rfl)
    (Eq.mpr (show cdA Try.prog [] serial_Ext_Extend_an _ _ _ w = serial_Ext_Extend x0 x1 R w by kernel_rfl) h)

/- "(*girandole/serial.Ext).Top" (53) -/
set_option maxRecDepth 100000 in
def serial_Ext_Top (x0 : Option Addr) (R : Ending → World → Prop) (w : World) : Prop :=
  (br (Option.isNone x0)
  (R (.returned (.tuple #[(.int .u64 (0 : Int)), (.bool Bool.false)])) w)
  (dr w (fun w0 =>
 (nc x0 (fun a1 =>
  (∃ (n2 : Int), (((World.cell? w0 a1) = (some (.int .u64 n2))) ∧
   (nc x0 (fun a3 =>
   (∃ (b4 : Bool), (((World.cell? w0 (Addr.add a3 1)) = (some (.bool b4))) ∧
    (R (.returned (.tuple #[(.int .u64 n2), (.bool b4)])) w0))))))))))))

def serial_Ext_Top_an : Ann := (.seq .leaf (.seq (.seq .leaf (.cond (.seq .leaf .leaf) .leaf)) (.seq (.plan [.take 0, .take 1, .take 2, .take 3, .take 4, .take 5, .take 6, .take 7, .take 8, .take 9]) .leaf)))

set_option maxRecDepth 100000 in
theorem serial_Ext_Top_ok (x0 : Option Addr) (R : Ending → World → Prop) (w : World) (h : serial_Ext_Top x0 R w) : Cs Try.prog 53 (#[(.pointer x0)] : Array Value) w R :=
  fn_sound (ty := []) (ann := serial_Ext_Top_an) (N := 14) (by kernel_rfl) (by kernel_rfl) Try.func53 rfl (by kernel_rfl) (by show 1 ≤ 14; decide) (by kernel_rfl)
    (Eq.mpr (show cdA Try.prog [] serial_Ext_Top_an _ _ _ w = serial_Ext_Top x0 R w by kernel_rfl) h)

/- "slices.Sorted[uint64]" (54) -/
set_option maxRecDepth 100000 in
def slices_Sorted_uint64 (x0 : Value) (R : Ending → World → Prop) (w : World) : Prop :=
  (cl Try.prog 76 #[x0] w (fun v0 w1 =>
 (∃ (p2 : (Option Addr)) (m3 : Nat) (m4 : Nat), ((v0 = (.slice p2 m3 m4)) ∧
  (cl Try.prog 77 #[(.slice p2 m3 m4)] w1 (fun _ w5 => (R (.returned (.slice p2 m3 m4)) w5)) (fun x6 w7 => (R (.panicked x6) w7)))))) (fun x8 w9 => (R (.panicked x8) w9)))

def slices_Sorted_uint64_an : Ann := (.seq .leaf (.seq .leaf (.seq .leaf (.seq .leaf .leaf))))

set_option maxRecDepth 100000 in
theorem slices_Sorted_uint64_ok (x0 : Value) (R : Ending → World → Prop) (w : World) (h : slices_Sorted_uint64 x0 R w) : Cs Try.prog 54 (#[x0] : Array Value) w R :=
  fn_sound (ty := []) (ann := slices_Sorted_uint64_an) (N := 9) (by kernel_rfl) (by kernel_rfl) Try.func54 rfl (by kernel_rfl) (by show 1 ≤ 9; decide) (by kernel_rfl)
    (Eq.mpr (show cdA Try.prog [] slices_Sorted_uint64_an _ _ _ w = slices_Sorted_uint64 x0 R w by kernel_rfl) h)

/- "maps.Keys[map[uint64]bool,uint64,bool]" (55) -/
set_option maxRecDepth 100000 in
def maps_Keys_map_uint64_bool_uint64_bool (x0 : Option Nat) (R : Ending → World → Prop) (w : World) : Prop :=
  (al #[(.map x0)] 107 w (fun m0 w1 => (R (.returned (.func (.func 78) #[] #[(.pointer (some ⟨m0, 0, none⟩))])) w1)))

def maps_Keys_map_uint64_bool_uint64_bool_an : Ann := (.seq .leaf (.seq .leaf .leaf))

set_option maxRecDepth 100000 in
theorem maps_Keys_map_uint64_bool_uint64_bool_ok (x0 : Option Nat) (R : Ending → World → Prop) (w : World) (h : maps_Keys_map_uint64_bool_uint64_bool x0 R w) : Cs Try.prog 55 (#[(.map x0)] : Array Value) w R :=
  fn_sound (ty := []) (ann := maps_Keys_map_uint64_bool_uint64_bool_an) (N := 4) (by kernel_rfl) (by kernel_rfl) Try.func55 rfl (by kernel_rfl) (by show 1 ≤ 4; decide) (by kernel_rfl)
    (Eq.mpr (show cdA Try.prog [] maps_Keys_map_uint64_bool_uint64_bool_an _ _ _ w = maps_Keys_map_uint64_bool_uint64_bool x0 R w by kernel_rfl) h)

/- "girandole/tally.most" (56) -/
set_option maxRecDepth 100000 in
def tally_most (x0 : Int) (R : Ending → World → Prop) (w : World) : Prop :=
  (R (.returned (.int .u32 (IntKind.wrap .u32 (if ((4294967295 : Int) < x0) then (4294967295 : Int) else x0)))) w)

def tally_most_an : Ann := (.seq .leaf (.seq .leaf .leaf))

set_option maxRecDepth 100000 in
theorem tally_most_ok (x0 : Int) (R : Ending → World → Prop) (w : World) (h : tally_most x0 R w) : Cs Try.prog 56 (#[(.int .u64 x0)] : Array Value) w R :=
  fn_sound (ty := []) (ann := tally_most_an) (N := 6) (by kernel_rfl) (by kernel_rfl) Try.func56 rfl (by kernel_rfl) (by show 1 ≤ 6; decide) (by kernel_rfl)
    (Eq.mpr (show cdA Try.prog [] tally_most_an _ _ _ w = tally_most x0 R w by kernel_rfl) h)

/- "girandole/serial.Diff" (75) -/
set_option maxRecDepth 100000 in
def serial_Diff (x0 : Int) (x1 : Int) (R : Ending → World → Prop) (w : World) : Prop :=
  (R (.returned (.int .i64 (IntKind.wrap .i64 (IntKind.wrap .i16 (IntKind.wrap .u16 (x1 - x0)))))) w)

def serial_Diff_an : Ann := (.seq .leaf (.seq .leaf .leaf))

set_option maxRecDepth 100000 in
theorem serial_Diff_ok (x0 : Int) (x1 : Int) (R : Ending → World → Prop) (w : World) (h : serial_Diff x0 x1 R w) : Cs Try.prog 75 (#[(.int .u16 x0), (.int .u16 x1)] : Array Value) w R :=
  fn_sound (ty := []) (ann := serial_Diff_an) (N := 10) (by kernel_rfl) (by kernel_rfl) Try.func75 rfl (by kernel_rfl) (by show 2 ≤ 10; decide) (by kernel_rfl)
    (Eq.mpr (show cdA Try.prog [] serial_Diff_an _ _ _ w = serial_Diff x0 x1 R w by kernel_rfl) h)

/- "slices.Collect[uint64]" (76) -/
set_option maxRecDepth 100000 in
def slices_Collect_uint64 (x0 : Value) (R : Ending → World → Prop) (w : World) : Prop :=
  (cl Try.prog 96 #[(.slice none 0 0), x0] w (fun v0 w1 =>
 (∃ (p2 : (Option Addr)) (m3 : Nat) (m4 : Nat), ((v0 = (.slice p2 m3 m4)) ∧ (R (.returned (.slice p2 m3 m4)) w1)))) (fun x5 w6 => (R (.panicked x5) w6)))

def slices_Collect_uint64_an : Ann := (.seq .leaf (.seq .leaf .leaf))

set_option maxRecDepth 100000 in
theorem slices_Collect_uint64_ok (x0 : Value) (R : Ending → World → Prop) (w : World) (h : slices_Collect_uint64 x0 R w) : Cs Try.prog 76 (#[x0] : Array Value) w R :=
  fn_sound (ty := []) (ann := slices_Collect_uint64_an) (N := 5) (by kernel_rfl) (by kernel_rfl) Try.func76 rfl (by kernel_rfl) (by show 1 ≤ 5; decide) (by kernel_rfl)
    (Eq.mpr (show cdA Try.prog [] slices_Collect_uint64_an _ _ _ w = slices_Collect_uint64 x0 R w by kernel_rfl) h)

/- "slices.Sort[[]uint64,uint64]" (77) -/
set_option maxRecDepth 100000 in
def slices_Sort_uint64_uint64 (x0 : Option Addr) (x0l x0c : Nat) (R : Ending → World → Prop) (w : World) : Prop :=
  (cl Try.prog 95 #[(.int .u64 (IntKind.wrap .u64 (x0l : Int)))] w (fun v0 w1 =>
 (∃ (n2 : Int), ((v0 = (.int .i64 n2)) ∧
  (cl Try.prog 97 #[(.slice x0 x0l x0c), (.int .i64 (0 : Int)), (.int .i64 (x0l : Int)), (.int .i64 n2)] w1 (fun _ w3 => (R (.returned (.tuple #[])) w3)) (fun x4 w5 => (R (.panicked x4) w5)))))) (fun x6 w7 => (R (.panicked x6) w7)))

def slices_Sort_uint64_uint64_an : Ann := (.seq .leaf .leaf)

set_option maxRecDepth 100000 in
theorem slices_Sort_uint64_uint64_ok (x0 : Option Addr) (x0l x0c : Nat) (R : Ending → World → Prop) (w : World) (h : slices_Sort_uint64_uint64 x0 x0l x0c R w) : Cs Try.prog 77 (#[(.slice x0 x0l x0c)] : Array Value) w R :=
  fn_sound (ty := []) (ann := slices_Sort_uint64_uint64_an) (N := 11) (by kernel_rfl) (by kernel_rfl) Try.func77 rfl (by kernel_rfl) (by show 1 ≤ 11; decide) (by kernel_rfl)
    (Eq.mpr (show cdA Try.prog [] slices_Sort_uint64_uint64_an _ _ _ w = slices_Sort_uint64_uint64 x0 x0l x0c R w by kernel_rfl) h)

/- "maps.Keys[map[uint64]bool,uint64,bool]$1" (78) -/
set_option maxRecDepth 100000 in
def maps_Keys_map_uint64_bool_uint64_bool_1 (x0 : Value) (x1 : Option Addr) (R : Ending → World → Prop) (w : World) : Prop :=
  (nc x1 (fun a0 =>
 (∃ (p1 : (Option Nat)), (((World.cell? w a0) = (some (.map p1))) ∧
  (rnV Try.prog (Instr.range 107 (.map p1)) w (fun v2 w3 =>
  (∃ (p4 : (Option Addr)), ((v2 = (.pointer p4)) ∧
   (lp (σ := PUnit) (fun _ k5 _ w6 =>
   (nxt Try.prog (Instr.next (.pointer p4) Bool.false 0) w6 (fun w7 => (R (.returned (.tuple #[])) w7)) (fun _ _ w8 =>
    (ent Try.prog (Instr.entry (.pointer p4)) w8 (fun v9 _ w10 =>
     (∃ (n11 : Int), ((v9 = (.int .u64 n11)) ∧
      (clv Try.prog x0 [(.int .u64 n11)] w10 (fun v12 w13 =>
      (∃ (b14 : Bool), ((v12 = (.bool b14)) ∧ (br (!b14) (R (.returned (.tuple #[])) w13) (k5 () w13))))) (fun x15 w16 => (R (.panicked x15) w16)))))))))) () w3)))))))))

def maps_Keys_map_uint64_bool_uint64_bool_1_an : Ann := (.seq .leaf (.block (.loop (.seq .leaf (.seq (.cond .leaf .leaf) (.block (.seq .leaf (.seq .leaf (.cond .leaf .leaf)))))) [3, 6, 7, 8, 9, 10, 11, 12, 13] [])))

set_option maxRecDepth 100000 in
theorem maps_Keys_map_uint64_bool_uint64_bool_1_ok (x0 : Value) (x1 : Option Addr) (R : Ending → World → Prop) (w : World) (h : maps_Keys_map_uint64_bool_uint64_bool_1 x0 x1 R w) : Cs Try.prog 78 (#[x0, (.pointer x1)] : Array Value) w R :=
  fn_sound (ty := [8]) (ann := maps_Keys_map_uint64_bool_uint64_bool_1_an) (N := 14) (by kernel_rfl) (by kernel_rfl) Try.func78 rfl (by kernel_rfl) (by show 2 ≤ 14; decide) (by kernel_rfl)
    (Eq.mpr (show cdA Try.prog [8] maps_Keys_map_uint64_bool_uint64_bool_1_an _ _ _ w = maps_Keys_map_uint64_bool_uint64_bool_1 x0 x1 R w by kernel_rfl) h)

/- "slices.pdqsortOrdered[uint64]" (97) -/
set_option maxRecDepth 100000 in
def slices_pdqsortOrdered_uint64 (x0 : Option Addr) (x0l x0c : Nat) (x1 : Int) (x2 : Int) (x3 : Int) (R : Ending → World → Prop) (w : World) : Prop :=
  (lp (σ := (Int × (Int × (Int × (Bool × Bool))))) (fun _ k0 s1 w2 =>
 (br (decide ((IntKind.wrap .i64 (s1.2.1 - s1.1)) ≤ (12 : Int)))
   (cl Try.prog 121 #[(.slice x0 x0l x0c), (.int .i64 s1.1), (.int .i64 s1.2.1)] w2 (fun _ w3 => (R (.returned (.tuple #[])) w3)) (fun x4 w5 => (R (.panicked x4) w5)))
   (br (s1.2.2.1 == (0 : Int))
   (cl Try.prog 122 #[(.slice x0 x0l x0c), (.int .i64 s1.1), (.int .i64 s1.2.1)] w2 (fun _ w6 => (R (.returned (.tuple #[])) w6)) (fun x7 w8 => (R (.panicked x7) w8)))
   (jn (σ := Int) (fun _ n9 w10 =>
  (cl Try.prog 124 #[(.slice x0 x0l x0c), (.int .i64 s1.1), (.int .i64 s1.2.1)] w10 (fun v11 w12 =>
   (∃ (n13 : Int) (n14 : Int), ((v11 = (.tuple #[(.int .i64 n13), (.int .i64 n14)])) ∧
    (jn (σ := (Int × Int)) (fun _ s15 w16 =>
    (jn (σ := PUnit) (fun _ _ w17 =>
     (jn (σ := Int) (fun _ n18 w19 =>
      (cl Try.prog 129 #[(.slice x0 x0l x0c), (.int .i64 n18), (.int .i64 s1.2.1), (.int .i64 s15.1)] w19 (fun v20 w21 =>
       (∃ (n22 : Int) (b23 : Bool), ((v20 = (.tuple #[(.int .i64 n22), (.bool b23)])) ∧
        (((8 : Int) ≠ (0 : Int)) ∧
        (br
         (decide ((IntKind.wrap .i64 (n22 - n18)) < (IntKind.wrap .i64 (s1.2.1 - n22))))
         (cl Try.prog 97 #[(.slice x0 x0l x0c), (.int .i64 n18), (.int .i64 n22), (.int .i64 n9)] w21 (fun _ w24 =>
        (k0 ((IntKind.wrap .i64 (n22 + (1 : Int))), (s1.2.1, (n9, ((decide ((IntKind.wrap .i64 (n22 - n18)) ≥ (IntKind.wrap .i64 (Int.tdiv (IntKind.wrap .i64 (s1.2.1 - s1.1)) (8 : Int))))), b23)))) w24)) (fun x25 w26 => (R (.panicked x25) w26)))
         (cl Try.prog 97 #[(.slice x0 x0l x0c), (.int .i64 (IntKind.wrap .i64 (n22 + (1 : Int)))), (.int .i64 s1.2.1), (.int .i64 n9)] w21 (fun _ w27 =>
        (k0 (n18, (n22, (n9, ((decide ((IntKind.wrap .i64 (s1.2.1 - n22)) ≥ (IntKind.wrap .i64 (Int.tdiv (IntKind.wrap .i64 (s1.2.1 - s1.1)) (8 : Int))))), b23)))) w27)) (fun x28 w29 => (R (.panicked x28) w29)))))))) (fun x30 w31 => (R (.panicked x30) w31)))) (fun k32 =>
      (dr w17 (fun w33 =>
       (br (decide (s1.1 > (0 : Int)))
         (ixa x0 x0l (IntKind.wrap .i64 (s1.1 - (1 : Int))) 1 (fun a34 =>
        (∃ (n35 : Int), (((World.cell? w33 a34) = (some (.int .u64 n35))) ∧
         (ixa x0 x0l s15.1 1 (fun a36 =>
         (∃ (n37 : Int), (((World.cell? w33 a36) = (some (.int .u64 n37))) ∧
          (cl Try.prog 127 #[(.int .u64 n35), (.int .u64 n37)] w33 (fun v38 w39 =>
          (∃ (b40 : Bool), ((v38 = (.bool b40)) ∧
           (br (!b40)
            (cl Try.prog 128 #[(.slice x0 x0l x0c), (.int .i64 s1.1), (.int .i64 s1.2.1), (.int .i64 s15.1)] w39 (fun v41 w42 =>
           (∃ (n43 : Int), ((v41 = (.int .i64 n43)) ∧ (k0 (n43, (s1.2.1, (n9, (s1.2.2.2.1, s1.2.2.2.2)))) w42)))) (fun x44 w45 => (R (.panicked x44) w45))) (k32 s1.1 w39))))) (fun _ _ => False)))))))))) (k32 s1.1 w33))))))) (fun k46 =>
     (br s1.2.2.2.1
       (br s1.2.2.2.2
       (br (s15.2 == (1 : Int))
       (cl Try.prog 126 #[(.slice x0 x0l x0c), (.int .i64 s1.1), (.int .i64 s1.2.1)] w16 (fun v47 w48 =>
      (∃ (b49 : Bool), ((v47 = (.bool b49)) ∧ (br b49 (R (.returned (.tuple #[])) w48) (k46 () w48))))) (fun x50 w51 => (R (.panicked x50) w51))) (k46 () w16)) (k46 () w16)) (k46 () w16))))) (fun k52 =>
    (br (n14 == (2 : Int))
      (cl Try.prog 125 #[(.slice x0 x0l x0c), (.int .i64 s1.1), (.int .i64 s1.2.1)] w12 (fun _ w53 =>
     (k52 ((IntKind.wrap .i64 ((IntKind.wrap .i64 (s1.2.1 - (1 : Int))) - (IntKind.wrap .i64 (n13 - s1.1)))), (1 : Int)) w53)) (fun x54 w55 => (R (.panicked x54) w55))) (k52 (n13, n14) w12))))))) (fun x56 w57 => (R (.panicked x56) w57)))) (fun k58 =>
  (br (!s1.2.2.2.1)
    (cl Try.prog 123 #[(.slice x0 x0l x0c), (.int .i64 s1.1), (.int .i64 s1.2.1)] w2 (fun _ w59 => (k58 (IntKind.wrap .i64 (s1.2.2.1 - (1 : Int))) w59)) (fun x60 w61 => (R (.panicked x60) w61))) (k58 s1.2.2.1 w2))))))) (x1, (x2, (x3, (Bool.true, Bool.true)))) w)

def slices_pdqsortOrdered_uint64_an : Ann := (.seq .leaf (.seq .leaf (.block (.loop (.block (.seq .leaf (.seq (.seq .leaf (.cond (.seq .leaf .leaf) .leaf)) (.seq (.seq .leaf (.cond (.seq .leaf .leaf) .leaf)) (.join (.seq .leaf (.cond (.seq .leaf .leaf) .leaf)) [3, 34, 35, 36, 37, 38, 39, 40, 41] [(3, (.int .i64))] (.seq .leaf (.join (.seq .leaf (.cond (.seq .leaf (.seq .leaf .leaf)) .leaf)) [11, 12, 49, 50, 51, 52, 53, 54, 55, 56, 57, 58, 59, 60] [(11, (.int .i64)), (12, (.int .i64))] (.join (.seq .leaf (.cond (.seq .leaf (.cond .leaf .leaf)) .leaf)) [61, 62, 63, 64, 65, 66, 67, 68, 69, 70, 71, 72] [] (.join (.seq (.plan [.take 0, .take 1, .take 2, .take 3, .take 4, .take 5, .take 6, .take 7, .take 8, .take 9, .take 10, .take 11, .eff 12, .take 13, .take 14]) (.cond (.seq .leaf (.seq .leaf .leaf)) .leaf)) [1, 13, 73, 74, 75, 76, 77, 78, 79, 80, 81, 82, 83, 84, 85, 86, 87, 88, 89, 90, 91, 92, 93] [(1, (.int .i64))] (.seq .leaf (.seq .leaf (.seq .leaf (.seq .leaf (.seq .leaf (.cond (.seq .leaf (.seq .leaf .leaf)) (.seq .leaf (.seq .leaf .leaf))))))))))))))))) [1, 2, 3, 8, 9, 10, 11, 12, 13, 14, 15, 16, 17, 18, 19, 20, 21, 22, 23, 24, 25, 26, 27, 28, 29, 30, 31, 32, 33, 34, 35, 36, 37, 38, 39, 40, 41, 42, 43, 44, 45, 46, 47, 48, 49, 50, 51, 52, 53, 54, 55, 56, 57, 58, 59, 60, 61, 62, 63, 64, 65, 66, 67, 68, 69, 70, 71, 72, 73, 74, 75, 76, 77, 78, 79, 80, 81, 82, 83, 84, 85, 86, 87, 88, 89, 90, 91, 92, 93, 94, 95, 96, 97, 98, 99, 100, 101, 102, 103, 104, 105, 106, 107, 108, 109, 110, 111, 112, 113, 114, 115, 116, 117, 118, 119, 120, 121, 122, 123, 124, 125, 126, 127, 128, 129, 130, 131, 132, 133] [(1, (.int .i64)), (2, (.int .i64)), (3, (.int .i64)), (8, .bool), (9, .bool)]))))

set_option maxRecDepth 100000 in
theorem slices_pdqsortOrdered_uint64_ok (x0 : Option Addr) (x0l x0c : Nat) (x1 : Int) (x2 : Int) (x3 : Int) (R : Ending → World → Prop) (w : World) (h : slices_pdqsortOrdered_uint64 x0 x0l x0c x1 x2 x3 R w) : Cs Try.prog 97 (#[(.slice x0 x0l x0c), (.int .i64 x1), (.int .i64 x2), (.int .i64 x3)] : Array Value) w R :=
  fn_sound (ty := []) (ann := slices_pdqsortOrdered_uint64_an) (N := 134) (by kernel_rfl) (by kernel_rfl) Try.func97 rfl (by kernel_rfl) (by show 4 ≤ 134; decide) (by kernel_rfl)
    (Eq.mpr (show cdA Try.prog [] slices_pdqsortOrdered_uint64_an _ _ _ w = slices_pdqsortOrdered_uint64 x0 x0l x0c x1 x2 x3 R w by kernel_rfl) h)

/- "slices.insertionSortOrdered[uint64]" (121) -/
set_option maxRecDepth 100000 in
def slices_insertionSortOrdered_uint64 (x0 : Option Addr) (x0l _x0c : Nat) (x1 : Int) (x2 : Int) (R : Ending → World → Prop) (w : World) : Prop :=
  (lp (σ := Int) (fun _ k0 n1 w2 =>
 (br (decide (n1 < x2))
   (lp (σ := Int) (fun _ k3 n4 w5 =>
  (dr w5 (fun w6 =>
   (br (decide (n4 > x1))
     (ixa x0 x0l n4 1 (fun a7 =>
    (∃ (n8 : Int), (((World.cell? w6 a7) = (some (.int .u64 n8))) ∧
     (ixa x0 x0l (IntKind.wrap .i64 (n4 - (1 : Int))) 1 (fun a9 =>
     (∃ (n10 : Int), (((World.cell? w6 a9) = (some (.int .u64 n10))) ∧
      (cl Try.prog 127 #[(.int .u64 n8), (.int .u64 n10)] w6 (fun v11 w12 =>
      (∃ (b13 : Bool), ((v11 = (.bool b13)) ∧
       (br b13
        (dr w12 (fun w14 =>
       (ixa x0 x0l (IntKind.wrap .i64 (n4 - (1 : Int))) 1 (fun a15 =>
        (∃ (n16 : Int), (((World.cell? w14 a15) = (some (.int .u64 n16))) ∧
         (ixa x0 x0l n4 1 (fun a17 =>
         (∃ (n18 : Int), (((World.cell? w14 a17) = (some (.int .u64 n18))) ∧
          (ixa x0 x0l n4 1 (fun a19 =>
          (st1 a19 (.int .u64 n16) w14 (fun w20 =>
           (ixa x0 x0l (IntKind.wrap .i64 (n4 - (1 : Int))) 1 (fun a21 => (st1 a21 (.int .u64 n18) w20 (fun w22 => (k3 (IntKind.wrap .i64 (n4 - (1 : Int))) w22))))))))))))))))))) (k0 (IntKind.wrap .i64 (n1 + (1 : Int))) w12))))) (fun _ _ => False)))))))))) (k0 (IntKind.wrap .i64 (n1 + (1 : Int))) w6))))) n1 w2) (R (.returned (.tuple #[])) w2))) (IntKind.wrap .i64 (x1 + (1 : Int))) w)

def slices_insertionSortOrdered_uint64_an : Ann := (.seq .leaf (.block (.loop (.seq (.seq .leaf (.cond .leaf .leaf)) (.seq (.block (.seq .leaf (.block (.loop (.seq (.seq (.plan [.take 0, .take 1, .take 2, .take 3, .take 4, .take 5, .take 6, .take 7, .take 8, .take 9, .take 10, .take 11, .take 12, .eff 13, .take 14]) (.cond .leaf .leaf)) (.seq (.block (.plan [.take 0, .take 1, .take 2, .take 3, .take 4, .take 5, .take 6, .take 7, .take 8, .take 9, .take 10, .take 11, .take 12, .take 13, .take 14, .eff 15, .take 16, .eff 17])) .leaf)) [7, 16, 17, 18, 19, 20, 21, 22, 23, 24, 25, 26, 27, 28, 29, 30, 31, 32, 33, 34, 35, 36, 37, 38, 39, 40, 41, 42, 43, 44, 45, 46, 47, 48] [(7, (.int .i64))])))) .leaf)) [6, 7, 10, 11, 12, 13, 14, 15, 16, 17, 18, 19, 20, 21, 22, 23, 24, 25, 26, 27, 28, 29, 30, 31, 32, 33, 34, 35, 36, 37, 38, 39, 40, 41, 42, 43, 44, 45, 46, 47, 48] [(6, (.int .i64))])))

set_option maxRecDepth 100000 in
theorem slices_insertionSortOrdered_uint64_ok (x0 : Option Addr) (x0l x0c : Nat) (x1 : Int) (x2 : Int) (R : Ending → World → Prop) (w : World) (h : slices_insertionSortOrdered_uint64 x0 x0l x0c x1 x2 R w) : Cs Try.prog 121 (#[(.slice x0 x0l x0c), (.int .i64 x1), (.int .i64 x2)] : Array Value) w R :=
  fn_sound (ty := []) (ann := slices_insertionSortOrdered_uint64_an) (N := 49) (by kernel_rfl) (by kernel_rfl) Try.func121 rfl (by kernel_rfl) (by show 3 ≤ 49; decide) (by kernel_rfl)
    (Eq.mpr (show cdA Try.prog [] slices_insertionSortOrdered_uint64_an _ _ _ w = slices_insertionSortOrdered_uint64 x0 x0l x0c x1 x2 R w by kernel_rfl) h)

/- "slices.heapSortOrdered[uint64]" (122) -/
set_option maxRecDepth 100000 in
def slices_heapSortOrdered_uint64 (x0 : Option Addr) (x0l x0c : Nat) (x1 : Int) (x2 : Int) (R : Ending → World → Prop) (w : World) : Prop :=
  (((2 : Int) ≠ (0 : Int)) ∧
 (lp (σ := Int) (fun _ k0 n1 w2 =>
 (br (decide (n1 ≥ (0 : Int)))
   (cl Try.prog 147 #[(.slice x0 x0l x0c), (.int .i64 n1), (.int .i64 (IntKind.wrap .i64 (x2 - x1))), (.int .i64 x1)] w2 (fun _ w3 => (k0 (IntKind.wrap .i64 (n1 - (1 : Int))) w3)) (fun x4 w5 => (R (.panicked x4) w5)))
   (lp (σ := Int) (fun _ k6 n7 w8 =>
  (br (decide (n7 ≥ (0 : Int)))
    (dr w8 (fun w9 =>
   (ixa x0 x0l (IntKind.wrap .i64 (x1 + n7)) 1 (fun a10 =>
    (∃ (n11 : Int), (((World.cell? w9 a10) = (some (.int .u64 n11))) ∧
     (ixa x0 x0l x1 1 (fun a12 =>
     (∃ (n13 : Int), (((World.cell? w9 a12) = (some (.int .u64 n13))) ∧
      (ixa x0 x0l x1 1 (fun a14 =>
      (st1 a14 (.int .u64 n11) w9 (fun w15 =>
       (ixa x0 x0l (IntKind.wrap .i64 (x1 + n7)) 1 (fun a16 =>
        (st1 a16 (.int .u64 n13) w15 (fun w17 =>
         (cl Try.prog 147 #[(.slice x0 x0l x0c), (.int .i64 (0 : Int)), (.int .i64 n7), (.int .i64 x1)] w17 (fun _ w18 => (k6 (IntKind.wrap .i64 (n7 - (1 : Int))) w18)) (fun x19 w20 => (R (.panicked x19) w20))))))))))))))))))))) (R (.returned (.tuple #[])) w8))) (IntKind.wrap .i64 ((IntKind.wrap .i64 (x2 - x1)) - (1 : Int))) w2))) (IntKind.wrap .i64 (Int.tdiv (IntKind.wrap .i64 ((IntKind.wrap .i64 (x2 - x1)) - (1 : Int))) (2 : Int))) w))

def slices_heapSortOrdered_uint64_an : Ann := (.seq .leaf (.seq .leaf (.seq .leaf (.seq (.seq .leaf (.block (.loop (.seq (.seq .leaf (.cond .leaf .leaf)) (.seq (.block .leaf) .leaf)) [9, 18, 19, 20, 21, 22, 23, 24, 25, 26] [(9, (.int .i64))]))) (.seq .leaf (.block (.loop (.seq (.seq .leaf (.cond .leaf .leaf)) (.seq (.block (.seq (.plan [.take 0, .take 1, .take 2, .take 3, .take 4, .take 5, .take 6, .take 7, .take 8, .take 9, .take 10, .take 11, .take 12, .take 13, .take 14, .take 15, .take 16, .eff 17, .take 18, .eff 19]) .leaf)) .leaf)) [10, 29, 30, 31, 32, 33, 34, 35, 36, 37, 38, 39, 40, 41, 42, 43, 44, 45, 46, 47, 48, 49, 50, 51, 52, 53, 54, 55] [(10, (.int .i64))])))))))

set_option maxRecDepth 100000 in
theorem slices_heapSortOrdered_uint64_ok (x0 : Option Addr) (x0l x0c : Nat) (x1 : Int) (x2 : Int) (R : Ending → World → Prop) (w : World) (h : slices_heapSortOrdered_uint64 x0 x0l x0c x1 x2 R w) : Cs Try.prog 122 (#[(.slice x0 x0l x0c), (.int .i64 x1), (.int .i64 x2)] : Array Value) w R :=
  fn_sound (ty := []) (ann := slices_heapSortOrdered_uint64_an) (N := 56) (by kernel_rfl) (by kernel_rfl) Try.func122 rfl (by kernel_rfl) (by show 3 ≤ 56; decide) (by kernel_rfl)
    (Eq.mpr (show cdA Try.prog [] slices_heapSortOrdered_uint64_an _ _ _ w = slices_heapSortOrdered_uint64 x0 x0l x0c x1 x2 R w by kernel_rfl) h)

/- "slices.breakPatternsOrdered[uint64]" (123) -/
set_option maxRecDepth 100000 in
def slices_breakPatternsOrdered_uint64 (x0 : Option Addr) (x0l _x0c : Nat) (x1 : Int) (x2 : Int) (R : Ending → World → Prop) (w : World) : Prop :=
  (br (decide ((IntKind.wrap .i64 (x2 - x1)) ≥ (8 : Int)))
  (al (zc Try.prog 214) 214 w (fun m0 w1 =>
 (st1 ⟨m0, 0, none⟩ (.int .u64 (IntKind.wrap .u64 (IntKind.wrap .i64 (x2 - x1)))) w1 (fun w2 =>
  (cl Try.prog 142 #[(.int .i64 (IntKind.wrap .i64 (x2 - x1)))] w2 (fun v3 w4 =>
   (∃ (n5 : Int), ((v3 = (.int .u64 n5)) ∧
    (((4 : Int) ≠ (0 : Int)) ∧
    (lp (σ := Int) (fun _ k6 n7 w8 =>
    (((4 : Int) ≠ (0 : Int)) ∧
     (br
      (decide (n7 ≤ (IntKind.wrap .i64 ((IntKind.wrap .i64 (x1 + (IntKind.wrap .i64 ((IntKind.wrap .i64 (Int.tdiv (IntKind.wrap .i64 (x2 - x1)) (4 : Int))) * (2 : Int))))) + (1 : Int)))))
      (cl Try.prog 143 #[(.pointer (some ⟨m0, 0, none⟩))] w8 (fun v9 w10 =>
     (∃ (n11 : Int), ((v9 = (.int .u64 n11)) ∧
      (br
       (decide ((IntKind.wrap .i64 (IntKind.wrap .u64 ((BitVec.toNat ((BitVec.ofInt 64 n11) &&& (BitVec.ofInt 64 (IntKind.wrap .u64 (n5 - (1 : Int)))))) : Int))) ≥ (IntKind.wrap .i64 (x2 - x1))))
       (dr w10 (fun w12 =>
      (ixa x0 x0l (IntKind.wrap .i64 (x1 + (IntKind.wrap .i64 ((IntKind.wrap .i64 (IntKind.wrap .u64 ((BitVec.toNat ((BitVec.ofInt 64 n11) &&& (BitVec.ofInt 64 (IntKind.wrap .u64 (n5 - (1 : Int)))))) : Int))) - (IntKind.wrap .i64 (x2 - x1)))))) 1 (fun a13 =>
       (∃ (n14 : Int), (((World.cell? w12 a13) = (some (.int .u64 n14))) ∧
        (ixa x0 x0l n7 1 (fun a15 =>
        (∃ (n16 : Int), (((World.cell? w12 a15) = (some (.int .u64 n16))) ∧
         (ixa x0 x0l n7 1 (fun a17 =>
         (st1 a17 (.int .u64 n14) w12 (fun w18 =>
          (ixa x0 x0l (IntKind.wrap .i64 (x1 + (IntKind.wrap .i64 ((IntKind.wrap .i64 (IntKind.wrap .u64 ((BitVec.toNat ((BitVec.ofInt 64 n11) &&& (BitVec.ofInt 64 (IntKind.wrap .u64 (n5 - (1 : Int)))))) : Int))) - (IntKind.wrap .i64 (x2 - x1)))))) 1 (fun a19 => (st1 a19 (.int .u64 n16) w18 (fun w20 => (k6 (IntKind.wrap .i64 (n7 + (1 : Int))) w20)))))))))))))))))))
       (dr w10 (fun w21 =>
      (ixa x0 x0l (IntKind.wrap .i64 (x1 + (IntKind.wrap .i64 (IntKind.wrap .u64 ((BitVec.toNat ((BitVec.ofInt 64 n11) &&& (BitVec.ofInt 64 (IntKind.wrap .u64 (n5 - (1 : Int)))))) : Int))))) 1 (fun a22 =>
       (∃ (n23 : Int), (((World.cell? w21 a22) = (some (.int .u64 n23))) ∧
        (ixa x0 x0l n7 1 (fun a24 =>
        (∃ (n25 : Int), (((World.cell? w21 a24) = (some (.int .u64 n25))) ∧
         (ixa x0 x0l n7 1 (fun a26 =>
         (st1 a26 (.int .u64 n23) w21 (fun w27 =>
          (ixa x0 x0l (IntKind.wrap .i64 (x1 + (IntKind.wrap .i64 (IntKind.wrap .u64 ((BitVec.toNat ((BitVec.ofInt 64 n11) &&& (BitVec.ofInt 64 (IntKind.wrap .u64 (n5 - (1 : Int)))))) : Int))))) 1 (fun a28 => (st1 a28 (.int .u64 n25) w27 (fun w29 => (k6 (IntKind.wrap .i64 (n7 + (1 : Int))) w29))))))))))))))))))))))) (fun x30 w31 => (R (.panicked x30) w31))) (R (.returned (.tuple #[])) w8)))) (IntKind.wrap .i64 ((IntKind.wrap .i64 (x1 + (IntKind.wrap .i64 ((IntKind.wrap .i64 (Int.tdiv (IntKind.wrap .i64 (x2 - x1)) (4 : Int))) * (2 : Int))))) - (1 : Int))) w4))))) (fun x32 w33 => (R (.panicked x32) w33))))))) (R (.returned (.tuple #[])) w))

def slices_breakPatternsOrdered_uint64_an : Ann := (.seq .leaf (.seq .leaf (.cond (.seq .leaf (.seq .leaf (.seq .leaf (.block (.loop (.seq (.seq .leaf (.cond .leaf .leaf)) (.seq (.block (.seq .leaf (.seq (.seq .leaf (.cond .leaf .leaf)) (.plan [.take 0, .take 1, .take 2, .take 3, .take 4, .take 5, .take 6, .take 7, .take 8, .take 9, .take 10, .take 11, .take 12, .take 13, .take 14, .take 15, .take 16, .eff 17, .take 18, .eff 19])))) .leaf)) [9, 10, 26, 27, 28, 29, 30, 31, 32, 33, 34, 35, 36, 37, 38, 39, 40, 41, 42, 43, 44, 45, 46, 47, 48, 49, 50, 51, 52, 53, 54, 55, 56, 57, 58, 59, 60, 61, 62, 63, 64] [(9, (.int .i64))]))))) .leaf)))

set_option maxRecDepth 100000 in
theorem slices_breakPatternsOrdered_uint64_ok (x0 : Option Addr) (x0l x0c : Nat) (x1 : Int) (x2 : Int) (R : Ending → World → Prop) (w : World) (h : slices_breakPatternsOrdered_uint64 x0 x0l x0c x1 x2 R w) : Cs Try.prog 123 (#[(.slice x0 x0l x0c), (.int .i64 x1), (.int .i64 x2)] : Array Value) w R :=
  fn_sound (ty := []) (ann := slices_breakPatternsOrdered_uint64_an) (N := 65) (by kernel_rfl) (by kernel_rfl) Try.func123 rfl (by kernel_rfl) (by show 3 ≤ 65; decide) (by kernel_rfl)
    (Eq.mpr (show cdA Try.prog [] slices_breakPatternsOrdered_uint64_an _ _ _ w = slices_breakPatternsOrdered_uint64 x0 x0l x0c x1 x2 R w by kernel_rfl) h)

/- "slices.choosePivotOrdered[uint64]" (124) -/
set_option maxRecDepth 100000 in
def slices_choosePivotOrdered_uint64 (x0 : Option Addr) (x0l x0c : Nat) (x1 : Int) (x2 : Int) (R : Ending → World → Prop) (w : World) : Prop :=
  (al (zc Try.prog 3) 3 w (fun m0 w1 =>
 (((4 : Int) ≠ (0 : Int)) ∧
  (((4 : Int) ≠ (0 : Int)) ∧
  (((4 : Int) ≠ (0 : Int)) ∧
  (br (decide ((IntKind.wrap .i64 (x2 - x1)) ≥ (8 : Int)))
   (br (decide ((IntKind.wrap .i64 (x2 - x1)) ≥ (50 : Int)))
   (cl Try.prog 148 #[(.slice x0 x0l x0c), (.int .i64 (IntKind.wrap .i64 (x1 + (IntKind.wrap .i64 ((IntKind.wrap .i64 (Int.tdiv (IntKind.wrap .i64 (x2 - x1)) (4 : Int))) * (1 : Int)))))), (.pointer (some ⟨m0, 0, none⟩))] w1 (fun v2 w3 =>
  (∃ (n4 : Int), ((v2 = (.int .i64 n4)) ∧
   (cl Try.prog 148 #[(.slice x0 x0l x0c), (.int .i64 (IntKind.wrap .i64 (x1 + (IntKind.wrap .i64 ((IntKind.wrap .i64 (Int.tdiv (IntKind.wrap .i64 (x2 - x1)) (4 : Int))) * (2 : Int)))))), (.pointer (some ⟨m0, 0, none⟩))] w3 (fun v5 w6 =>
   (∃ (n7 : Int), ((v5 = (.int .i64 n7)) ∧
    (cl Try.prog 148 #[(.slice x0 x0l x0c), (.int .i64 (IntKind.wrap .i64 (x1 + (IntKind.wrap .i64 ((IntKind.wrap .i64 (Int.tdiv (IntKind.wrap .i64 (x2 - x1)) (4 : Int))) * (3 : Int)))))), (.pointer (some ⟨m0, 0, none⟩))] w6 (fun v8 w9 =>
    (∃ (n10 : Int), ((v8 = (.int .i64 n10)) ∧
     (cl Try.prog 149 #[(.slice x0 x0l x0c), (.int .i64 n4), (.int .i64 n7), (.int .i64 n10), (.pointer (some ⟨m0, 0, none⟩))] w9 (fun v11 w12 =>
     (∃ (n13 : Int), ((v11 = (.int .i64 n13)) ∧
      (∃ (n14 : Int), (((World.cell? w12 ⟨m0, 0, none⟩) = (some (.int .i64 n14))) ∧
      (br (n14 == (0 : Int))
       (R (.returned (.tuple #[(.int .i64 n13), (.int .i64 (1 : Int))])) w12)
       (br (n14 == (12 : Int))
       (R (.returned (.tuple #[(.int .i64 n13), (.int .i64 (2 : Int))])) w12)
       (R (.returned (.tuple #[(.int .i64 n13), (.int .i64 (0 : Int))])) w12)))))))) (fun x15 w16 => (R (.panicked x15) w16)))))) (fun x17 w18 => (R (.panicked x17) w18)))))) (fun x19 w20 => (R (.panicked x19) w20)))))) (fun x21 w22 => (R (.panicked x21) w22)))
   (cl Try.prog 149 #[(.slice x0 x0l x0c), (.int .i64 (IntKind.wrap .i64 (x1 + (IntKind.wrap .i64 ((IntKind.wrap .i64 (Int.tdiv (IntKind.wrap .i64 (x2 - x1)) (4 : Int))) * (1 : Int)))))), (.int .i64 (IntKind.wrap .i64 (x1 + (IntKind.wrap .i64 ((IntKind.wrap .i64 (Int.tdiv (IntKind.wrap .i64 (x2 - x1)) (4 : Int))) * (2 : Int)))))), (.int .i64 (IntKind.wrap .i64 (x1 + (IntKind.wrap .i64 ((IntKind.wrap .i64 (Int.tdiv (IntKind.wrap .i64 (x2 - x1)) (4 : Int))) * (3 : Int)))))), (.pointer (some ⟨m0, 0, none⟩))] w1 (fun v23 w24 =>
  (∃ (n25 : Int), ((v23 = (.int .i64 n25)) ∧
   (∃ (n26 : Int), (((World.cell? w24 ⟨m0, 0, none⟩) = (some (.int .i64 n26))) ∧
   (br (n26 == (0 : Int))
    (R (.returned (.tuple #[(.int .i64 n25), (.int .i64 (1 : Int))])) w24)
    (br (n26 == (12 : Int))
    (R (.returned (.tuple #[(.int .i64 n25), (.int .i64 (2 : Int))])) w24)
    (R (.returned (.tuple #[(.int .i64 n25), (.int .i64 (0 : Int))])) w24)))))))) (fun x27 w28 => (R (.panicked x27) w28))))
   (∃ (n29 : Int), (((World.cell? w1 ⟨m0, 0, none⟩) = (some (.int .i64 n29))) ∧
  (br (n29 == (0 : Int))
   (R (.returned (.tuple #[(.int .i64 (IntKind.wrap .i64 (x1 + (IntKind.wrap .i64 ((IntKind.wrap .i64 (Int.tdiv (IntKind.wrap .i64 (x2 - x1)) (4 : Int))) * (2 : Int)))))), (.int .i64 (1 : Int))])) w1)
   (br (n29 == (12 : Int))
   (R (.returned (.tuple #[(.int .i64 (IntKind.wrap .i64 (x1 + (IntKind.wrap .i64 ((IntKind.wrap .i64 (Int.tdiv (IntKind.wrap .i64 (x2 - x1)) (4 : Int))) * (2 : Int)))))), (.int .i64 (2 : Int))])) w1)
   (R (.returned (.tuple #[(.int .i64 (IntKind.wrap .i64 (x1 + (IntKind.wrap .i64 ((IntKind.wrap .i64 (Int.tdiv (IntKind.wrap .i64 (x2 - x1)) (4 : Int))) * (2 : Int)))))), (.int .i64 (0 : Int))])) w1)))))))))))

def slices_choosePivotOrdered_uint64_an : Ann := (.seq .leaf (.seq .leaf (.seq .leaf (.seq .leaf (.seq .leaf (.seq .leaf (.seq (.seq .leaf (.cond (.seq (.seq .leaf (.cond (.seq .leaf (.seq .leaf .leaf)) .leaf)) .leaf) .leaf)) (.seq .leaf (.block (.seq .leaf (.cond (.seq .leaf .leaf) (.seq .leaf (.cond (.seq .leaf .leaf) (.seq .leaf .leaf))))))))))))))

set_option maxRecDepth 100000 in
theorem slices_choosePivotOrdered_uint64_ok (x0 : Option Addr) (x0l x0c : Nat) (x1 : Int) (x2 : Int) (R : Ending → World → Prop) (w : World) (h : slices_choosePivotOrdered_uint64 x0 x0l x0c x1 x2 R w) : Cs Try.prog 124 (#[(.slice x0 x0l x0c), (.int .i64 x1), (.int .i64 x2)] : Array Value) w R :=
  fn_sound (ty := []) (ann := slices_choosePivotOrdered_uint64_an) (N := 57) (by kernel_rfl) (by kernel_rfl) Try.func124 rfl (by kernel_rfl) (by show 3 ≤ 57; decide) (by kernel_rfl)
    (Eq.mpr (show cdA Try.prog [] slices_choosePivotOrdered_uint64_an _ _ _ w = slices_choosePivotOrdered_uint64 x0 x0l x0c x1 x2 R w by kernel_rfl) h)

/- "slices.partialInsertionSortOrdered[uint64]" (126) -/
set_option maxRecDepth 100000 in
def slices_partialInsertionSortOrdered_uint64 (x0 : Option Addr) (x0l _x0c : Nat) (x1 : Int) (x2 : Int) (R : Ending → World → Prop) (w : World) : Prop :=
  (lp (σ := (Int × Int)) (fun _ k0 s1 w2 =>
 (br (decide (s1.2 < (5 : Int)))
   (jn (σ := Int) (fun _ n3 w4 =>
  (br (n3 == x2) (R (.returned (.bool Bool.true)) w4)
    (br (decide ((IntKind.wrap .i64 (x2 - x1)) < (50 : Int))) (R (.returned (.bool Bool.false)) w4)
    (dr w4 (fun w5 =>
   (ixa x0 x0l (IntKind.wrap .i64 (n3 - (1 : Int))) 1 (fun a6 =>
    (∃ (n7 : Int), (((World.cell? w5 a6) = (some (.int .u64 n7))) ∧
     (ixa x0 x0l n3 1 (fun a8 =>
     (∃ (n9 : Int), (((World.cell? w5 a8) = (some (.int .u64 n9))) ∧
      (ixa x0 x0l n3 1 (fun a10 =>
      (st1 a10 (.int .u64 n7) w5 (fun w11 =>
       (ixa x0 x0l (IntKind.wrap .i64 (n3 - (1 : Int))) 1 (fun a12 =>
        (st1 a12 (.int .u64 n9) w11 (fun w13 =>
         (jn (σ := PUnit) (fun _ _ w14 =>
          (br (decide ((IntKind.wrap .i64 (x2 - n3)) ≥ (2 : Int)))
            (lp (σ := Int) (fun _ k15 n16 w17 =>
           (br (decide (n16 < x2))
             (dr w17 (fun w18 =>
            (ixa x0 x0l n16 1 (fun a19 =>
             (∃ (n20 : Int), (((World.cell? w18 a19) = (some (.int .u64 n20))) ∧
              (ixa x0 x0l (IntKind.wrap .i64 (n16 - (1 : Int))) 1 (fun a21 =>
              (∃ (n22 : Int), (((World.cell? w18 a21) = (some (.int .u64 n22))) ∧
               (cl Try.prog 127 #[(.int .u64 n20), (.int .u64 n22)] w18 (fun v23 w24 =>
               (∃ (b25 : Bool), ((v23 = (.bool b25)) ∧
                (br (!b25) (k0 (n3, (IntKind.wrap .i64 (s1.2 + (1 : Int)))) w24)
                 (dr w24 (fun w26 =>
                (ixa x0 x0l (IntKind.wrap .i64 (n16 - (1 : Int))) 1 (fun a27 =>
                 (∃ (n28 : Int), (((World.cell? w26 a27) = (some (.int .u64 n28))) ∧
                  (ixa x0 x0l n16 1 (fun a29 =>
                  (∃ (n30 : Int), (((World.cell? w26 a29) = (some (.int .u64 n30))) ∧
                   (ixa x0 x0l n16 1 (fun a31 =>
                   (st1 a31 (.int .u64 n28) w26 (fun w32 =>
                    (ixa x0 x0l (IntKind.wrap .i64 (n16 - (1 : Int))) 1 (fun a33 => (st1 a33 (.int .u64 n30) w32 (fun w34 => (k15 (IntKind.wrap .i64 (n16 + (1 : Int))) w34))))))))))))))))))))))) (fun _ _ => False)))))))))))) (k0 (n3, (IntKind.wrap .i64 (s1.2 + (1 : Int)))) w17))) (IntKind.wrap .i64 (n3 + (1 : Int))) w14) (k0 (n3, (IntKind.wrap .i64 (s1.2 + (1 : Int)))) w14))) (fun k35 =>
          (br (decide ((IntKind.wrap .i64 (n3 - x1)) ≥ (2 : Int)))
            (lp (σ := Int) (fun _ k36 n37 w38 =>
           (br (decide (n37 ≥ (1 : Int)))
             (dr w38 (fun w39 =>
            (ixa x0 x0l n37 1 (fun a40 =>
             (∃ (n41 : Int), (((World.cell? w39 a40) = (some (.int .u64 n41))) ∧
              (ixa x0 x0l (IntKind.wrap .i64 (n37 - (1 : Int))) 1 (fun a42 =>
              (∃ (n43 : Int), (((World.cell? w39 a42) = (some (.int .u64 n43))) ∧
               (cl Try.prog 127 #[(.int .u64 n41), (.int .u64 n43)] w39 (fun v44 w45 =>
               (∃ (b46 : Bool), ((v44 = (.bool b46)) ∧
                (br (!b46) (k35 () w45)
                 (dr w45 (fun w47 =>
                (ixa x0 x0l (IntKind.wrap .i64 (n37 - (1 : Int))) 1 (fun a48 =>
                 (∃ (n49 : Int), (((World.cell? w47 a48) = (some (.int .u64 n49))) ∧
                  (ixa x0 x0l n37 1 (fun a50 =>
                  (∃ (n51 : Int), (((World.cell? w47 a50) = (some (.int .u64 n51))) ∧
                   (ixa x0 x0l n37 1 (fun a52 =>
                   (st1 a52 (.int .u64 n49) w47 (fun w53 =>
                    (ixa x0 x0l (IntKind.wrap .i64 (n37 - (1 : Int))) 1 (fun a54 => (st1 a54 (.int .u64 n51) w53 (fun w55 => (k36 (IntKind.wrap .i64 (n37 - (1 : Int))) w55))))))))))))))))))))))) (fun _ _ => False)))))))))))) (k35 () w38))) (IntKind.wrap .i64 (n3 - (1 : Int))) w13) (k35 () w13))))))))))))))))))))))))) (fun k56 =>
  (lp (σ := Int) (fun _ k57 n58 w59 =>
   (dr w59 (fun w60 =>
    (br (decide (n58 < x2))
      (ixa x0 x0l n58 1 (fun a61 =>
     (∃ (n62 : Int), (((World.cell? w60 a61) = (some (.int .u64 n62))) ∧
      (ixa x0 x0l (IntKind.wrap .i64 (n58 - (1 : Int))) 1 (fun a63 =>
      (∃ (n64 : Int), (((World.cell? w60 a63) = (some (.int .u64 n64))) ∧
       (cl Try.prog 127 #[(.int .u64 n62), (.int .u64 n64)] w60 (fun v65 w66 =>
       (∃ (b67 : Bool), ((v65 = (.bool b67)) ∧ (br (!b67) (k57 (IntKind.wrap .i64 (n58 + (1 : Int))) w66) (k56 n58 w66))))) (fun _ _ => False)))))))))) (k56 n58 w60))))) s1.1 w2))) (R (.returned (.bool Bool.false)) w2))) ((IntKind.wrap .i64 (x1 + (1 : Int))), (0 : Int)) w)

def slices_partialInsertionSortOrdered_uint64_an : Ann := (.seq .leaf (.seq .leaf (.seq (.seq .leaf (.block (.loop (.seq (.seq .leaf (.cond .leaf .leaf)) (.seq (.block (.join (.block (.loop (.seq (.seq (.plan [.take 0, .take 1, .take 2, .take 3, .take 4, .take 5, .take 6, .take 7, .take 8, .take 9, .take 10, .take 11, .take 12, .eff 13, .take 14, .take 15]) (.cond .leaf .leaf)) (.block .leaf)) [7, 17, 18, 19, 20, 21, 22, 23, 24, 25, 26, 27, 28, 29, 30, 31, 32, 33, 34] [(7, (.int .i64))])) [7, 17, 18, 19, 20, 21, 22, 23, 24, 25, 26, 27, 28, 29, 30, 31, 32, 33, 34] [(7, (.int .i64))] (.seq (.seq .leaf (.cond (.seq .leaf .leaf) .leaf)) (.seq (.seq .leaf (.cond (.seq .leaf .leaf) .leaf)) (.seq (.plan [.take 0, .take 1, .take 2, .take 3, .take 4, .take 5, .take 6, .take 7, .take 8, .take 9, .take 10, .take 11, .take 12, .take 13, .take 14, .eff 15, .take 16, .eff 17]) (.join (.seq .leaf (.cond (.seq .leaf (.block (.loop (.seq (.seq .leaf (.cond .leaf .leaf)) (.seq (.block (.seq (.seq (.plan [.take 0, .take 1, .take 2, .take 3, .take 4, .take 5, .take 6, .take 7, .take 8, .eff 9, .take 10]) (.cond .leaf .leaf)) (.plan [.take 0, .take 1, .take 2, .take 3, .take 4, .take 5, .take 6, .take 7, .take 8, .take 9, .take 10, .take 11, .take 12, .take 13, .take 14, .eff 15, .take 16, .eff 17]))) .leaf)) [9, 64, 65, 66, 67, 68, 69, 70, 71, 72, 73, 74, 75, 76, 77, 78, 79, 80, 81, 82, 83, 84, 85, 86, 87, 88, 89, 90, 91, 92, 93, 94] [(9, (.int .i64))]))) .leaf)) [9, 58, 59, 60, 61, 62, 63, 64, 65, 66, 67, 68, 69, 70, 71, 72, 73, 74, 75, 76, 77, 78, 79, 80, 81, 82, 83, 84, 85, 86, 87, 88, 89, 90, 91, 92, 93, 94] [] (.seq .leaf (.cond (.seq .leaf (.block (.loop (.seq (.seq .leaf (.cond .leaf .leaf)) (.seq (.block (.seq (.seq (.plan [.take 0, .take 1, .take 2, .take 3, .take 4, .take 5, .take 6, .take 7, .take 8, .eff 9, .take 10]) (.cond .leaf .leaf)) (.plan [.take 0, .take 1, .take 2, .take 3, .take 4, .take 5, .take 6, .take 7, .take 8, .take 9, .take 10, .take 11, .take 12, .take 13, .take 14, .eff 15, .take 16, .eff 17]))) .leaf)) [10, 101, 102, 103, 104, 105, 106, 107, 108, 109, 110, 111, 112, 113, 114, 115, 116, 117, 118, 119, 120, 121, 122, 123, 124, 125, 126, 127, 128, 129, 130, 131, 132] [(10, (.int .i64))]))) .leaf)))))))) .leaf)) [6, 7, 8, 9, 10, 13, 14, 15, 16, 17, 18, 19, 20, 21, 22, 23, 24, 25, 26, 27, 28, 29, 30, 31, 32, 33, 34, 35, 36, 37, 38, 39, 40, 41, 42, 43, 44, 45, 46, 47, 48, 49, 50, 51, 52, 53, 54, 55, 56, 57, 58, 59, 60, 61, 62, 63, 64, 65, 66, 67, 68, 69, 70, 71, 72, 73, 74, 75, 76, 77, 78, 79, 80, 81, 82, 83, 84, 85, 86, 87, 88, 89, 90, 91, 92, 93, 94, 95, 96, 97, 98, 99, 100, 101, 102, 103, 104, 105, 106, 107, 108, 109, 110, 111, 112, 113, 114, 115, 116, 117, 118, 119, 120, 121, 122, 123, 124, 125, 126, 127, 128, 129, 130, 131, 132] [(7, (.int .i64)), (8, (.int .i64))]))) (.seq .leaf .leaf))))

set_option maxRecDepth 100000 in
theorem slices_partialInsertionSortOrdered_uint64_ok (x0 : Option Addr) (x0l x0c : Nat) (x1 : Int) (x2 : Int) (R : Ending → World → Prop) (w : World) (h : slices_partialInsertionSortOrdered_uint64 x0 x0l x0c x1 x2 R w) : Cs Try.prog 126 (#[(.slice x0 x0l x0c), (.int .i64 x1), (.int .i64 x2)] : Array Value) w R :=
  fn_sound (ty := []) (ann := slices_partialInsertionSortOrdered_uint64_an) (N := 133) (by kernel_rfl) (by kernel_rfl) Try.func126 rfl (by kernel_rfl) (by show 3 ≤ 133; decide) (by kernel_rfl)
    (Eq.mpr (show cdA Try.prog [] slices_partialInsertionSortOrdered_uint64_an _ _ _ w = slices_partialInsertionSortOrdered_uint64 x0 x0l x0c x1 x2 R w by kernel_rfl) h)

/- "cmp.Less[uint64]" (127) -/
set_option maxRecDepth 100000 in
def cmp_Less_uint64 (x0 : Int) (x1 : Int) (R : Ending → World → Prop) (w : World) : Prop :=
  (cl Try.prog 150 #[(.int .u64 x0)] w (fun v0 w1 =>
 (∃ (b2 : Bool), ((v0 = (.bool b2)) ∧
  (br b2
   (cl Try.prog 150 #[(.int .u64 x1)] w1 (fun v3 w4 =>
  (∃ (b5 : Bool), ((v3 = (.bool b5)) ∧ (br (!b5) (R (.returned (.bool Bool.true)) w4) (R (.returned (.bool (decide (x0 < x1)))) w4))))) (fun x6 w7 => (R (.panicked x6) w7))) (R (.returned (.bool (decide (x0 < x1)))) w1))))) (fun x8 w9 => (R (.panicked x8) w9)))

def cmp_Less_uint64_an : Ann := (.seq .leaf (.seq .leaf .leaf))

set_option maxRecDepth 100000 in
theorem cmp_Less_uint64_ok (x0 : Int) (x1 : Int) (R : Ending → World → Prop) (w : World) (h : cmp_Less_uint64 x0 x1 R w) : Cs Try.prog 127 (#[(.int .u64 x0), (.int .u64 x1)] : Array Value) w R :=
  fn_sound (ty := []) (ann := cmp_Less_uint64_an) (N := 17) (by kernel_rfl) (by kernel_rfl) Try.func127 rfl (by kernel_rfl) (by show 2 ≤ 17; decide) (by kernel_rfl)
    (Eq.mpr (show cdA Try.prog [] cmp_Less_uint64_an _ _ _ w = cmp_Less_uint64 x0 x1 R w by kernel_rfl) h)

/- "slices.partitionEqualOrdered[uint64]" (128) -/
set_option maxRecDepth 100000 in
def slices_partitionEqualOrdered_uint64 (x0 : Option Addr) (x0l _x0c : Nat) (x1 : Int) (x2 : Int) (x3 : Int) (R : Ending → World → Prop) (w : World) : Prop :=
  (dr w (fun w0 =>
 (ixa x0 x0l x3 1 (fun a1 =>
  (∃ (n2 : Int), (((World.cell? w0 a1) = (some (.int .u64 n2))) ∧
   (ixa x0 x0l x1 1 (fun a3 =>
   (∃ (n4 : Int), (((World.cell? w0 a3) = (some (.int .u64 n4))) ∧
    (ixa x0 x0l x1 1 (fun a5 =>
    (st1 a5 (.int .u64 n2) w0 (fun w6 =>
     (ixa x0 x0l x3 1 (fun a7 =>
      (st1 a7 (.int .u64 n4) w6 (fun w8 =>
       (lp (σ := (Int × Int)) (fun _ k9 s10 w11 =>
        (jn (σ := Int) (fun _ n12 w13 =>
         (lp (σ := Int) (fun _ k14 n15 w16 =>
          (dr w16 (fun w17 =>
           (br (decide (n12 ≤ n15))
             (ixa x0 x0l x1 1 (fun a18 =>
            (∃ (n19 : Int), (((World.cell? w17 a18) = (some (.int .u64 n19))) ∧
             (ixa x0 x0l n15 1 (fun a20 =>
             (∃ (n21 : Int), (((World.cell? w17 a20) = (some (.int .u64 n21))) ∧
              (cl Try.prog 127 #[(.int .u64 n19), (.int .u64 n21)] w17 (fun v22 w23 =>
              (∃ (b24 : Bool), ((v22 = (.bool b24)) ∧
               (br b24 (k14 (IntKind.wrap .i64 (n15 - (1 : Int))) w23)
                (br (decide (n12 > n15)) (R (.returned (.int .i64 n12)) w23)
                (dr w23 (fun w25 =>
               (ixa x0 x0l n15 1 (fun a26 =>
                (∃ (n27 : Int), (((World.cell? w25 a26) = (some (.int .u64 n27))) ∧
                 (ixa x0 x0l n12 1 (fun a28 =>
                 (∃ (n29 : Int), (((World.cell? w25 a28) = (some (.int .u64 n29))) ∧
                  (ixa x0 x0l n12 1 (fun a30 =>
                  (st1 a30 (.int .u64 n27) w25 (fun w31 =>
                   (ixa x0 x0l n15 1 (fun a32 =>
                    (st1 a32 (.int .u64 n29) w31 (fun w33 => (k9 ((IntKind.wrap .i64 (n12 + (1 : Int))), (IntKind.wrap .i64 (n15 - (1 : Int)))) w33)))))))))))))))))))))))) (fun _ _ => False))))))))))
             (br (decide (n12 > n15)) (R (.returned (.int .i64 n12)) w17)
             (dr w17 (fun w34 =>
            (ixa x0 x0l n15 1 (fun a35 =>
             (∃ (n36 : Int), (((World.cell? w34 a35) = (some (.int .u64 n36))) ∧
              (ixa x0 x0l n12 1 (fun a37 =>
              (∃ (n38 : Int), (((World.cell? w34 a37) = (some (.int .u64 n38))) ∧
               (ixa x0 x0l n12 1 (fun a39 =>
               (st1 a39 (.int .u64 n36) w34 (fun w40 =>
                (ixa x0 x0l n15 1 (fun a41 =>
                 (st1 a41 (.int .u64 n38) w40 (fun w42 => (k9 ((IntKind.wrap .i64 (n12 + (1 : Int))), (IntKind.wrap .i64 (n15 - (1 : Int)))) w42)))))))))))))))))))))))) s10.2 w13)) (fun k43 =>
         (lp (σ := Int) (fun _ k44 n45 w46 =>
          (dr w46 (fun w47 =>
           (br (decide (n45 ≤ s10.2))
             (ixa x0 x0l x1 1 (fun a48 =>
            (∃ (n49 : Int), (((World.cell? w47 a48) = (some (.int .u64 n49))) ∧
             (ixa x0 x0l n45 1 (fun a50 =>
             (∃ (n51 : Int), (((World.cell? w47 a50) = (some (.int .u64 n51))) ∧
              (cl Try.prog 127 #[(.int .u64 n49), (.int .u64 n51)] w47 (fun v52 w53 =>
              (∃ (b54 : Bool), ((v52 = (.bool b54)) ∧ (br (!b54) (k44 (IntKind.wrap .i64 (n45 + (1 : Int))) w53) (k43 n45 w53))))) (fun _ _ => False)))))))))) (k43 n45 w47))))) s10.1 w11)))) ((IntKind.wrap .i64 (x1 + (1 : Int))), (IntKind.wrap .i64 (x2 - (1 : Int)))) w8)))))))))))))))))))

def slices_partitionEqualOrdered_uint64_an : Ann := (.seq .leaf (.seq (.plan [.take 0, .take 1, .take 2, .take 3, .take 4, .take 5, .take 6, .take 7, .take 8, .take 9, .take 10, .take 11, .take 12, .eff 13, .take 14, .eff 15]) (.seq .leaf (.seq (.block (.loop (.block (.join (.block (.loop (.seq (.seq (.plan [.take 0, .take 1, .take 2, .take 3, .take 4, .take 5, .take 6, .take 7, .take 8, .take 9, .take 10, .take 11, .eff 12, .take 13, .take 14]) (.cond .leaf .leaf)) (.block .leaf)) [9, 29, 30, 31, 32, 33, 34, 35, 36, 37, 38, 39, 40, 41, 42, 43, 44, 45] [(9, (.int .i64))])) [9, 29, 30, 31, 32, 33, 34, 35, 36, 37, 38, 39, 40, 41, 42, 43, 44, 45] [(9, (.int .i64))] (.seq (.block (.loop (.seq (.seq (.plan [.take 0, .take 1, .take 2, .take 3, .take 4, .take 5, .take 6, .take 7, .take 8, .take 9, .take 10, .take 11, .eff 12, .take 13]) (.cond .leaf .leaf)) (.block .leaf)) [10, 46, 47, 48, 49, 50, 51, 52, 53, 54, 55, 56, 57, 58, 59, 60, 61] [(10, (.int .i64))])) (.seq (.seq .leaf (.cond .leaf .leaf)) (.seq (.plan [.take 0, .take 1, .take 2, .take 3, .take 4, .take 5, .take 6, .take 7, .take 8, .take 9, .take 10, .take 11, .take 12, .eff 13, .take 14, .eff 15]) (.seq .leaf .leaf)))))) [9, 10, 29, 30, 31, 32, 33, 34, 35, 36, 37, 38, 39, 40, 41, 42, 43, 44, 45, 46, 47, 48, 49, 50, 51, 52, 53, 54, 55, 56, 57, 58, 59, 60, 61, 62, 63, 64, 65, 66, 67, 68, 69, 70, 71, 72, 73, 74, 75, 76, 77, 78, 79, 80, 81, 82] [(9, (.int .i64)), (10, (.int .i64))])) (.seq .leaf .leaf)))))

set_option maxRecDepth 100000 in
theorem slices_partitionEqualOrdered_uint64_ok (x0 : Option Addr) (x0l x0c : Nat) (x1 : Int) (x2 : Int) (x3 : Int) (R : Ending → World → Prop) (w : World) (h : slices_partitionEqualOrdered_uint64 x0 x0l x0c x1 x2 x3 R w) : Cs Try.prog 128 (#[(.slice x0 x0l x0c), (.int .i64 x1), (.int .i64 x2), (.int .i64 x3)] : Array Value) w R :=
  fn_sound (ty := []) (ann := slices_partitionEqualOrdered_uint64_an) (N := 84) (by kernel_rfl) (by kernel_rfl) Try.func128 rfl (by kernel_rfl) (by show 4 ≤ 84; decide) (by kernel_rfl)
    (Eq.mpr (show cdA Try.prog [] slices_partitionEqualOrdered_uint64_an _ _ _ w = slices_partitionEqualOrdered_uint64 x0 x0l x0c x1 x2 x3 R w by kernel_rfl) h)

/- "slices.partitionOrdered[uint64]" (129) -/
set_option maxRecDepth 100000 in
def slices_partitionOrdered_uint64 (x0 : Option Addr) (x0l _x0c : Nat) (x1 : Int) (x2 : Int) (x3 : Int) (R : Ending → World → Prop) (w : World) : Prop :=
  (dr w (fun w0 =>
 (ixa x0 x0l x3 1 (fun a1 =>
  (∃ (n2 : Int), (((World.cell? w0 a1) = (some (.int .u64 n2))) ∧
   (ixa x0 x0l x1 1 (fun a3 =>
   (∃ (n4 : Int), (((World.cell? w0 a3) = (some (.int .u64 n4))) ∧
    (ixa x0 x0l x1 1 (fun a5 =>
    (st1 a5 (.int .u64 n2) w0 (fun w6 =>
     (ixa x0 x0l x3 1 (fun a7 =>
      (st1 a7 (.int .u64 n4) w6 (fun w8 =>
       (jn (σ := Int) (fun _ n9 w10 =>
        (jn (σ := Int) (fun _ n11 w12 =>
         (br (decide (n9 > n11))
           (dr w12 (fun w13 =>
          (ixa x0 x0l x1 1 (fun a14 =>
           (∃ (n15 : Int), (((World.cell? w13 a14) = (some (.int .u64 n15))) ∧
            (ixa x0 x0l n11 1 (fun a16 =>
            (∃ (n17 : Int), (((World.cell? w13 a16) = (some (.int .u64 n17))) ∧
             (ixa x0 x0l n11 1 (fun a18 =>
             (st1 a18 (.int .u64 n15) w13 (fun w19 =>
              (ixa x0 x0l x1 1 (fun a20 =>
               (st1 a20 (.int .u64 n17) w19 (fun w21 => (R (.returned (.tuple #[(.int .i64 n11), (.bool Bool.true)])) w21)))))))))))))))))))
           (dr w12 (fun w22 =>
          (ixa x0 x0l n11 1 (fun a23 =>
           (∃ (n24 : Int), (((World.cell? w22 a23) = (some (.int .u64 n24))) ∧
            (ixa x0 x0l n9 1 (fun a25 =>
            (∃ (n26 : Int), (((World.cell? w22 a25) = (some (.int .u64 n26))) ∧
             (ixa x0 x0l n9 1 (fun a27 =>
             (st1 a27 (.int .u64 n24) w22 (fun w28 =>
              (ixa x0 x0l n11 1 (fun a29 =>
               (st1 a29 (.int .u64 n26) w28 (fun w30 =>
                (lp (σ := (Int × Int)) (fun _ k31 s32 w33 =>
                 (jn (σ := Int) (fun _ n34 w35 =>
                  (lp (σ := Int) (fun _ k36 n37 w38 =>
                   (dr w38 (fun w39 =>
                    (br (decide (n34 ≤ n37))
                      (ixa x0 x0l n37 1 (fun a40 =>
                     (∃ (n41 : Int), (((World.cell? w39 a40) = (some (.int .u64 n41))) ∧
                      (ixa x0 x0l x1 1 (fun a42 =>
                      (∃ (n43 : Int), (((World.cell? w39 a42) = (some (.int .u64 n43))) ∧
                       (cl Try.prog 127 #[(.int .u64 n41), (.int .u64 n43)] w39 (fun v44 w45 =>
                       (∃ (b46 : Bool), ((v44 = (.bool b46)) ∧
                        (br (!b46) (k36 (IntKind.wrap .i64 (n37 - (1 : Int))) w45)
                         (br (decide (n34 > n37))
                         (dr w45 (fun w47 =>
                        (ixa x0 x0l x1 1 (fun a48 =>
                         (∃ (n49 : Int), (((World.cell? w47 a48) = (some (.int .u64 n49))) ∧
                          (ixa x0 x0l n37 1 (fun a50 =>
                          (∃ (n51 : Int), (((World.cell? w47 a50) = (some (.int .u64 n51))) ∧
                           (ixa x0 x0l n37 1 (fun a52 =>
                           (st1 a52 (.int .u64 n49) w47 (fun w53 =>
                            (ixa x0 x0l x1 1 (fun a54 =>
                             (st1 a54 (.int .u64 n51) w53 (fun w55 => (R (.returned (.tuple #[(.int .i64 n37), (.bool Bool.false)])) w55)))))))))))))))))))
                         (dr w45 (fun w56 =>
                        (ixa x0 x0l n37 1 (fun a57 =>
                         (∃ (n58 : Int), (((World.cell? w56 a57) = (some (.int .u64 n58))) ∧
                          (ixa x0 x0l n34 1 (fun a59 =>
                          (∃ (n60 : Int), (((World.cell? w56 a59) = (some (.int .u64 n60))) ∧
                           (ixa x0 x0l n34 1 (fun a61 =>
                           (st1 a61 (.int .u64 n58) w56 (fun w62 =>
                            (ixa x0 x0l n37 1 (fun a63 =>
                             (st1 a63 (.int .u64 n60) w62 (fun w64 => (k31 ((IntKind.wrap .i64 (n34 + (1 : Int))), (IntKind.wrap .i64 (n37 - (1 : Int)))) w64)))))))))))))))))))))))) (fun _ _ => False))))))))))
                      (br (decide (n34 > n37))
                      (dr w39 (fun w65 =>
                     (ixa x0 x0l x1 1 (fun a66 =>
                      (∃ (n67 : Int), (((World.cell? w65 a66) = (some (.int .u64 n67))) ∧
                       (ixa x0 x0l n37 1 (fun a68 =>
                       (∃ (n69 : Int), (((World.cell? w65 a68) = (some (.int .u64 n69))) ∧
                        (ixa x0 x0l n37 1 (fun a70 =>
                        (st1 a70 (.int .u64 n67) w65 (fun w71 =>
                         (ixa x0 x0l x1 1 (fun a72 =>
                          (st1 a72 (.int .u64 n69) w71 (fun w73 => (R (.returned (.tuple #[(.int .i64 n37), (.bool Bool.false)])) w73)))))))))))))))))))
                      (dr w39 (fun w74 =>
                     (ixa x0 x0l n37 1 (fun a75 =>
                      (∃ (n76 : Int), (((World.cell? w74 a75) = (some (.int .u64 n76))) ∧
                       (ixa x0 x0l n34 1 (fun a77 =>
                       (∃ (n78 : Int), (((World.cell? w74 a77) = (some (.int .u64 n78))) ∧
                        (ixa x0 x0l n34 1 (fun a79 =>
                        (st1 a79 (.int .u64 n76) w74 (fun w80 =>
                         (ixa x0 x0l n37 1 (fun a81 =>
                          (st1 a81 (.int .u64 n78) w80 (fun w82 => (k31 ((IntKind.wrap .i64 (n34 + (1 : Int))), (IntKind.wrap .i64 (n37 - (1 : Int)))) w82)))))))))))))))))))))))) s32.2 w35)) (fun k83 =>
                  (lp (σ := Int) (fun _ k84 n85 w86 =>
                   (dr w86 (fun w87 =>
                    (br (decide (n85 ≤ s32.2))
                      (ixa x0 x0l n85 1 (fun a88 =>
                     (∃ (n89 : Int), (((World.cell? w87 a88) = (some (.int .u64 n89))) ∧
                      (ixa x0 x0l x1 1 (fun a90 =>
                      (∃ (n91 : Int), (((World.cell? w87 a90) = (some (.int .u64 n91))) ∧
                       (cl Try.prog 127 #[(.int .u64 n89), (.int .u64 n91)] w87 (fun v92 w93 =>
                       (∃ (b94 : Bool), ((v92 = (.bool b94)) ∧ (br b94 (k84 (IntKind.wrap .i64 (n85 + (1 : Int))) w93) (k83 n85 w93))))) (fun _ _ => False)))))))))) (k83 n85 w87))))) s32.1 w33)))) ((IntKind.wrap .i64 (n9 + (1 : Int))), (IntKind.wrap .i64 (n11 - (1 : Int)))) w30))))))))))))))))))))) (fun k95 =>
         (lp (σ := Int) (fun _ k96 n97 w98 =>
          (dr w98 (fun w99 =>
           (br (decide (n9 ≤ n97))
             (ixa x0 x0l n97 1 (fun a100 =>
            (∃ (n101 : Int), (((World.cell? w99 a100) = (some (.int .u64 n101))) ∧
             (ixa x0 x0l x1 1 (fun a102 =>
             (∃ (n103 : Int), (((World.cell? w99 a102) = (some (.int .u64 n103))) ∧
              (cl Try.prog 127 #[(.int .u64 n101), (.int .u64 n103)] w99 (fun v104 w105 =>
              (∃ (b106 : Bool), ((v104 = (.bool b106)) ∧ (br (!b106) (k96 (IntKind.wrap .i64 (n97 - (1 : Int))) w105) (k95 n97 w105))))) (fun _ _ => False)))))))))) (k95 n97 w99))))) (IntKind.wrap .i64 (x2 - (1 : Int))) w10)))) (fun k107 =>
        (lp (σ := Int) (fun _ k108 n109 w110 =>
         (dr w110 (fun w111 =>
          (br (decide (n109 ≤ (IntKind.wrap .i64 (x2 - (1 : Int)))))
            (ixa x0 x0l n109 1 (fun a112 =>
           (∃ (n113 : Int), (((World.cell? w111 a112) = (some (.int .u64 n113))) ∧
            (ixa x0 x0l x1 1 (fun a114 =>
            (∃ (n115 : Int), (((World.cell? w111 a114) = (some (.int .u64 n115))) ∧
             (cl Try.prog 127 #[(.int .u64 n113), (.int .u64 n115)] w111 (fun v116 w117 =>
             (∃ (b118 : Bool), ((v116 = (.bool b118)) ∧ (br b118 (k108 (IntKind.wrap .i64 (n109 + (1 : Int))) w117) (k107 n109 w117))))) (fun _ _ => False)))))))))) (k107 n109 w111))))) (IntKind.wrap .i64 (x1 + (1 : Int))) w8)))))))))))))))))))))

def slices_partitionOrdered_uint64_an : Ann := (.seq .leaf (.seq (.plan [.take 0, .take 1, .take 2, .take 3, .take 4, .take 5, .take 6, .take 7, .take 8, .take 9, .take 10, .take 11, .take 12, .eff 13, .take 14, .eff 15]) (.seq .leaf (.join (.block (.loop (.seq (.seq (.plan [.take 0, .take 1, .take 2, .take 3, .take 4, .take 5, .take 6, .take 7, .take 8, .take 9, .take 10, .take 11, .eff 12, .take 13]) (.cond .leaf .leaf)) (.block .leaf)) [10, 30, 31, 32, 33, 34, 35, 36, 37, 38, 39, 40, 41, 42, 43, 44, 45] [(10, (.int .i64))])) [10, 30, 31, 32, 33, 34, 35, 36, 37, 38, 39, 40, 41, 42, 43, 44, 45] [(10, (.int .i64))] (.join (.block (.loop (.seq (.seq (.plan [.take 0, .take 1, .take 2, .take 3, .take 4, .take 5, .take 6, .take 7, .take 8, .take 9, .take 10, .take 11, .eff 12, .take 13, .take 14]) (.cond .leaf .leaf)) (.block .leaf)) [11, 46, 47, 48, 49, 50, 51, 52, 53, 54, 55, 56, 57, 58, 59, 60, 61, 62] [(11, (.int .i64))])) [11, 46, 47, 48, 49, 50, 51, 52, 53, 54, 55, 56, 57, 58, 59, 60, 61, 62] [(11, (.int .i64))] (.seq (.seq .leaf (.cond (.seq (.plan [.take 0, .take 1, .take 2, .take 3, .take 4, .take 5, .take 6, .take 7, .take 8, .take 9, .take 10, .take 11, .take 12, .eff 13, .take 14, .eff 15]) (.seq .leaf .leaf)) .leaf)) (.seq (.plan [.take 0, .take 1, .take 2, .take 3, .take 4, .take 5, .take 6, .take 7, .take 8, .take 9, .take 10, .take 11, .take 12, .eff 13, .take 14, .eff 15]) (.seq .leaf (.seq .leaf (.seq (.block (.loop (.block (.join (.block (.loop (.seq (.seq (.plan [.take 0, .take 1, .take 2, .take 3, .take 4, .take 5, .take 6, .take 7, .take 8, .take 9, .take 10, .take 11, .eff 12, .take 13]) (.cond .leaf .leaf)) (.block .leaf)) [10, 99, 100, 101, 102, 103, 104, 105, 106, 107, 108, 109, 110, 111, 112, 113, 114] [(10, (.int .i64))])) [10, 99, 100, 101, 102, 103, 104, 105, 106, 107, 108, 109, 110, 111, 112, 113, 114] [(10, (.int .i64))] (.seq (.block (.loop (.seq (.seq (.plan [.take 0, .take 1, .take 2, .take 3, .take 4, .take 5, .take 6, .take 7, .take 8, .take 9, .take 10, .take 11, .eff 12, .take 13, .take 14]) (.cond .leaf .leaf)) (.block .leaf)) [11, 115, 116, 117, 118, 119, 120, 121, 122, 123, 124, 125, 126, 127, 128, 129, 130, 131] [(11, (.int .i64))])) (.seq (.seq .leaf (.cond .leaf .leaf)) (.seq (.plan [.take 0, .take 1, .take 2, .take 3, .take 4, .take 5, .take 6, .take 7, .take 8, .take 9, .take 10, .take 11, .take 12, .eff 13, .take 14, .eff 15]) (.seq .leaf .leaf)))))) [10, 11, 99, 100, 101, 102, 103, 104, 105, 106, 107, 108, 109, 110, 111, 112, 113, 114, 115, 116, 117, 118, 119, 120, 121, 122, 123, 124, 125, 126, 127, 128, 129, 130, 131, 132, 133, 134, 135, 136, 137, 138, 139, 140, 141, 142, 143, 144, 145, 146, 147, 148, 149, 150, 151, 152] [(10, (.int .i64)), (11, (.int .i64))])) (.seq (.plan [.take 0, .take 1, .take 2, .take 3, .take 4, .take 5, .take 6, .take 7, .take 8, .take 9, .take 10, .take 11, .take 12, .eff 13, .take 14, .eff 15]) (.seq .leaf .leaf))))))))))))

set_option maxRecDepth 100000 in
theorem slices_partitionOrdered_uint64_ok (x0 : Option Addr) (x0l x0c : Nat) (x1 : Int) (x2 : Int) (x3 : Int) (R : Ending → World → Prop) (w : World) (h : slices_partitionOrdered_uint64 x0 x0l x0c x1 x2 x3 R w) : Cs Try.prog 129 (#[(.slice x0 x0l x0c), (.int .i64 x1), (.int .i64 x2), (.int .i64 x3)] : Array Value) w R :=
  fn_sound (ty := []) (ann := slices_partitionOrdered_uint64_an) (N := 168) (by kernel_rfl) (by kernel_rfl) Try.func129 rfl (by kernel_rfl) (by show 4 ≤ 168; decide) (by kernel_rfl)
    (Eq.mpr (show cdA Try.prog [] slices_partitionOrdered_uint64_an _ _ _ w = slices_partitionOrdered_uint64 x0 x0l x0c x1 x2 x3 R w by kernel_rfl) h)

/- "slices.siftDownOrdered[uint64]" (147) -/
set_option maxRecDepth 100000 in
def slices_siftDownOrdered_uint64 (x0 : Option Addr) (x0l _x0c : Nat) (x1 : Int) (x2 : Int) (x3 : Int) (R : Ending → World → Prop) (w : World) : Prop :=
  (lp (σ := Int) (fun _ k0 n1 w2 =>
 (br
   (decide ((IntKind.wrap .i64 ((IntKind.wrap .i64 ((2 : Int) * n1)) + (1 : Int))) ≥ x2)) (R (.returned (.tuple #[])) w2)
   (jn (σ := Int) (fun _ n3 w4 =>
  (dr w4 (fun w5 =>
   (ixa x0 x0l (IntKind.wrap .i64 (x3 + n1)) 1 (fun a6 =>
    (∃ (n7 : Int), (((World.cell? w5 a6) = (some (.int .u64 n7))) ∧
     (ixa x0 x0l (IntKind.wrap .i64 (x3 + n3)) 1 (fun a8 =>
     (∃ (n9 : Int), (((World.cell? w5 a8) = (some (.int .u64 n9))) ∧
      (cl Try.prog 127 #[(.int .u64 n7), (.int .u64 n9)] w5 (fun v10 w11 =>
      (∃ (b12 : Bool), ((v10 = (.bool b12)) ∧
       (br (!b12) (R (.returned (.tuple #[])) w11)
        (dr w11 (fun w13 =>
       (ixa x0 x0l (IntKind.wrap .i64 (x3 + n3)) 1 (fun a14 =>
        (∃ (n15 : Int), (((World.cell? w13 a14) = (some (.int .u64 n15))) ∧
         (ixa x0 x0l (IntKind.wrap .i64 (x3 + n1)) 1 (fun a16 =>
         (∃ (n17 : Int), (((World.cell? w13 a16) = (some (.int .u64 n17))) ∧
          (ixa x0 x0l (IntKind.wrap .i64 (x3 + n1)) 1 (fun a18 =>
          (st1 a18 (.int .u64 n15) w13 (fun w19 =>
           (ixa x0 x0l (IntKind.wrap .i64 (x3 + n3)) 1 (fun a20 => (st1 a20 (.int .u64 n17) w19 (fun w21 => (k0 n3 w21))))))))))))))))))))))) (fun _ _ => False))))))))))))) (fun k22 =>
  (dr w2 (fun w23 =>
   (br
     (decide ((IntKind.wrap .i64 ((IntKind.wrap .i64 ((IntKind.wrap .i64 ((2 : Int) * n1)) + (1 : Int))) + (1 : Int))) < x2))
     (ixa x0 x0l (IntKind.wrap .i64 (x3 + (IntKind.wrap .i64 ((IntKind.wrap .i64 ((2 : Int) * n1)) + (1 : Int))))) 1 (fun a24 =>
    (∃ (n25 : Int), (((World.cell? w23 a24) = (some (.int .u64 n25))) ∧
     (ixa x0 x0l (IntKind.wrap .i64 ((IntKind.wrap .i64 (x3 + (IntKind.wrap .i64 ((IntKind.wrap .i64 ((2 : Int) * n1)) + (1 : Int))))) + (1 : Int))) 1 (fun a26 =>
     (∃ (n27 : Int), (((World.cell? w23 a26) = (some (.int .u64 n27))) ∧
      (cl Try.prog 127 #[(.int .u64 n25), (.int .u64 n27)] w23 (fun v28 w29 =>
      (∃ (b30 : Bool), ((v28 = (.bool b30)) ∧
       (br b30
        (k22 (IntKind.wrap .i64 ((IntKind.wrap .i64 ((IntKind.wrap .i64 ((2 : Int) * n1)) + (1 : Int))) + (1 : Int))) w29)
        (k22 (IntKind.wrap .i64 ((IntKind.wrap .i64 ((2 : Int) * n1)) + (1 : Int))) w29))))) (fun _ _ => False))))))))))
     (k22 (IntKind.wrap .i64 ((IntKind.wrap .i64 ((2 : Int) * n1)) + (1 : Int))) w23)))))))) x1 w)

def slices_siftDownOrdered_uint64_an : Ann := (.seq .leaf (.block (.loop (.block (.seq .leaf (.seq (.seq .leaf (.cond .leaf .leaf)) (.join (.seq (.plan [.take 0, .take 1, .take 2, .take 3, .take 4, .take 5, .take 6, .take 7, .take 8, .take 9, .take 10, .take 11, .take 12, .take 13, .take 14, .take 15, .take 16, .take 17, .eff 18, .take 19]) (.cond .leaf .leaf)) [9, 17, 18, 19, 20, 21, 22, 23, 24, 25, 26, 27, 28, 29, 30, 31, 32, 33, 34, 35, 36, 37, 38] [(9, (.int .i64))] (.seq (.seq (.plan [.take 0, .take 1, .take 2, .take 3, .take 4, .take 5, .take 6, .take 7, .take 8, .take 9, .take 10, .take 11, .eff 12, .take 13]) (.cond .leaf .leaf)) (.seq (.plan [.take 0, .take 1, .take 2, .take 3, .take 4, .take 5, .take 6, .take 7, .take 8, .take 9, .take 10, .take 11, .take 12, .take 13, .take 14, .take 15, .take 16, .take 17, .take 18, .take 19, .take 20, .eff 21, .take 22, .eff 23]) .leaf)))))) [8, 9, 11, 12, 13, 14, 15, 16, 17, 18, 19, 20, 21, 22, 23, 24, 25, 26, 27, 28, 29, 30, 31, 32, 33, 34, 35, 36, 37, 38, 39, 40, 41, 42, 43, 44, 45, 46, 47, 48, 49, 50, 51, 52, 53, 54, 55, 56, 57, 58, 59, 60, 61, 62, 63, 64, 65, 66, 67, 68, 69, 70, 71, 72, 73, 74, 75] [(8, (.int .i64))])))

set_option maxRecDepth 100000 in
theorem slices_siftDownOrdered_uint64_ok (x0 : Option Addr) (x0l x0c : Nat) (x1 : Int) (x2 : Int) (x3 : Int) (R : Ending → World → Prop) (w : World) (h : slices_siftDownOrdered_uint64 x0 x0l x0c x1 x2 x3 R w) : Cs Try.prog 147 (#[(.slice x0 x0l x0c), (.int .i64 x1), (.int .i64 x2), (.int .i64 x3)] : Array Value) w R :=
  fn_sound (ty := []) (ann := slices_siftDownOrdered_uint64_an) (N := 76) (by kernel_rfl) (by kernel_rfl) Try.func147 rfl (by kernel_rfl) (by show 4 ≤ 76; decide) (by kernel_rfl)
    (Eq.mpr (show cdA Try.prog [] slices_siftDownOrdered_uint64_an _ _ _ w = slices_siftDownOrdered_uint64 x0 x0l x0c x1 x2 x3 R w by kernel_rfl) h)

/- "slices.medianOrdered[uint64]" (149) -/
set_option maxRecDepth 100000 in
def slices_medianOrdered_uint64 (x0 : Option Addr) (x0l x0c : Nat) (x1 : Int) (x2 : Int) (x3 : Int) (x4 : Option Addr) (R : Ending → World → Prop) (w : World) : Prop :=
  (cl Try.prog 155 #[(.slice x0 x0l x0c), (.int .i64 x1), (.int .i64 x2), (.pointer x4)] w (fun v0 w1 =>
 (∃ (n2 : Int) (n3 : Int), ((v0 = (.tuple #[(.int .i64 n2), (.int .i64 n3)])) ∧
  (cl Try.prog 155 #[(.slice x0 x0l x0c), (.int .i64 n3), (.int .i64 x3), (.pointer x4)] w1 (fun v4 w5 =>
  (∃ (n6 : Int) (n7 : Int), ((v4 = (.tuple #[(.int .i64 n6), (.int .i64 n7)])) ∧
   (cl Try.prog 155 #[(.slice x0 x0l x0c), (.int .i64 n2), (.int .i64 n6), (.pointer x4)] w5 (fun v8 w9 =>
   (∃ (n10 : Int) (n11 : Int), ((v8 = (.tuple #[(.int .i64 n10), (.int .i64 n11)])) ∧ (R (.returned (.int .i64 n11)) w9)))) (fun x12 w13 => (R (.panicked x12) w13)))))) (fun x14 w15 => (R (.panicked x14) w15)))))) (fun x16 w17 => (R (.panicked x16) w17)))

def slices_medianOrdered_uint64_an : Ann := (.seq .leaf (.seq .leaf (.seq .leaf (.seq .leaf (.seq .leaf .leaf)))))

set_option maxRecDepth 100000 in
theorem slices_medianOrdered_uint64_ok (x0 : Option Addr) (x0l x0c : Nat) (x1 : Int) (x2 : Int) (x3 : Int) (x4 : Option Addr) (R : Ending → World → Prop) (w : World) (h : slices_medianOrdered_uint64 x0 x0l x0c x1 x2 x3 x4 R w) : Cs Try.prog 149 (#[(.slice x0 x0l x0c), (.int .i64 x1), (.int .i64 x2), (.int .i64 x3), (.pointer x4)] : Array Value) w R :=
  fn_sound (ty := []) (ann := slices_medianOrdered_uint64_an) (N := 36) (by kernel_rfl) (by kernel_rfl) Try.func149 rfl (by kernel_rfl) (by show 5 ≤ 36; decide) (by kernel_rfl)
    (Eq.mpr (show cdA Try.prog [] slices_medianOrdered_uint64_an _ _ _ w = slices_medianOrdered_uint64 x0 x0l x0c x1 x2 x3 x4 R w by kernel_rfl) h)

/- "cmp.isNaN[uint64]" (150) -/
set_option maxRecDepth 100000 in
def cmp_isNaN_uint64 (x0 : Int) (R : Ending → World → Prop) (w : World) : Prop :=
  (R (.returned (.bool (x0 != x0))) w)

def cmp_isNaN_uint64_an : Ann := (.seq .leaf (.seq .leaf .leaf))

set_option maxRecDepth 100000 in
theorem cmp_isNaN_uint64_ok (x0 : Int) (R : Ending → World → Prop) (w : World) (h : cmp_isNaN_uint64 x0 R w) : Cs Try.prog 150 (#[(.int .u64 x0)] : Array Value) w R :=
  fn_sound (ty := []) (ann := cmp_isNaN_uint64_an) (N := 6) (by kernel_rfl) (by kernel_rfl) Try.func150 rfl (by kernel_rfl) (by show 1 ≤ 6; decide) (by kernel_rfl)
    (Eq.mpr (show cdA Try.prog [] cmp_isNaN_uint64_an _ _ _ w = cmp_isNaN_uint64 x0 R w by kernel_rfl) h)

/- "slices.order2Ordered[uint64]" (155) -/
set_option maxRecDepth 100000 in
def slices_order2Ordered_uint64 (x0 : Option Addr) (x0l _x0c : Nat) (x1 : Int) (x2 : Int) (x3 : Option Addr) (R : Ending → World → Prop) (w : World) : Prop :=
  (dr w (fun w0 =>
 (ixa x0 x0l x2 1 (fun a1 =>
  (∃ (n2 : Int), (((World.cell? w0 a1) = (some (.int .u64 n2))) ∧
   (ixa x0 x0l x1 1 (fun a3 =>
   (∃ (n4 : Int), (((World.cell? w0 a3) = (some (.int .u64 n4))) ∧
    (cl Try.prog 127 #[(.int .u64 n2), (.int .u64 n4)] w0 (fun v5 w6 =>
    (∃ (b7 : Bool), ((v5 = (.bool b7)) ∧
     (br b7
      (nc x3 (fun a8 =>
     (∃ (n9 : Int), (((World.cell? w6 a8) = (some (.int .i64 n9))) ∧
      (nc x3 (fun a10 =>
      (st1 a10 (.int .i64 (IntKind.wrap .i64 (n9 + (1 : Int)))) w6 (fun w11 => (R (.returned (.tuple #[(.int .i64 x2), (.int .i64 x1)])) w11)))))))))
      (R (.returned (.tuple #[(.int .i64 x1), (.int .i64 x2)])) w6))))) (fun _ _ => False))))))))))))

def slices_order2Ordered_uint64_an : Ann := (.seq .leaf (.seq (.seq (.plan [.take 0, .take 1, .take 2, .take 3, .take 4, .take 5, .take 6, .take 7, .eff 8]) (.cond (.seq .leaf (.seq .leaf .leaf)) .leaf)) (.seq .leaf .leaf)))

set_option maxRecDepth 100000 in
theorem slices_order2Ordered_uint64_ok (x0 : Option Addr) (x0l x0c : Nat) (x1 : Int) (x2 : Int) (x3 : Option Addr) (R : Ending → World → Prop) (w : World) (h : slices_order2Ordered_uint64 x0 x0l x0c x1 x2 x3 R w) : Cs Try.prog 155 (#[(.slice x0 x0l x0c), (.int .i64 x1), (.int .i64 x2), (.pointer x3)] : Array Value) w R :=
  fn_sound (ty := []) (ann := slices_order2Ordered_uint64_an) (N := 28) (by kernel_rfl) (by kernel_rfl) Try.func155 rfl (by kernel_rfl) (by show 4 ≤ 28; decide) (by kernel_rfl)
    (Eq.mpr (show cdA Try.prog [] slices_order2Ordered_uint64_an _ _ _ w = slices_order2Ordered_uint64 x0 x0l x0c x1 x2 x3 R w by kernel_rfl) h)

end Go.SR
