/- PRINTED by a program of the prover's (wip/sr/Gen.lean): residuals of Go functions. -/
import Derived.Test.YtmmcihbcceahkaaA6
import Derived.Test.YtmmcihbcceahkaaProg
namespace Go.SR
open Go Go.Proofs

/- "girandole/girandolelaw24.ShelfFull" (7) -/
set_option maxRecDepth 100000 in
def glaw24_ShelfFull (x0 : Int) (x1 : Int) (x2 : Option Addr) (x2l _x2c : Nat) (R : Ending → World → Prop) (w : World) : Prop :=
  (cl Try.prog 24 #[] w (fun v0 w1 =>
 (∃ (b2 : Bool), ((v0 = (.bool b2)) ∧
  (br (!b2) (R (.returned (.bool Bool.false)) w1)
   (br (decide ((x2l : Int) > (30 : Int))) (R (.returned (.bool Bool.true)) w1)
   (((16 : Int) ≠ (0 : Int)) ∧
  (cl Try.prog 26 #[] w1 (fun v3 w4 =>
  (∃ (p5 : (Option Addr)), ((v3 = (.pointer p5)) ∧
   (cl Try.prog 25 #[(.pointer p5), (.int .i64 (IntKind.wrap .i64 ((1 : Int) + (Int.tmod (IntKind.wrap .i64 x0) (16 : Int))))), (.int .i64 (IntKind.wrap .i64 ((1 : Int) + (IntKind.wrap .i64 x1)))), (.int .i64 (4 : Int))] w4 (fun v6 w7 =>
   (∃ (p8 : (Option Addr)) (b9 : Bool), ((v6 = (.tuple #[(.pointer p8), (.bool b9)])) ∧
    (jn (σ := PUnit) (fun _ _ w10 =>
    (al (zc Try.prog 56) 56 w10 (fun m11 w12 =>
     (lp (σ := Int) (fun _ k13 n14 w15 =>
      (br (decide (n14 < (x2l : Int)))
        (dr w15 (fun w16 =>
       (ixa x2 x2l n14 3 (fun a17 =>
        (ixr a17 3 (0 : Int) 1 (fun a18 =>
         (∃ (n19 : Int), (((World.cell? w16 a18) = (some (.int .u8 n19))) ∧
          (((64 : Int) ≠ (0 : Int)) ∧
          (ixa x2 x2l n14 3 (fun a20 =>
          (ixr a20 3 (1 : Int) 1 (fun a21 =>
           (∃ (n22 : Int), (((World.cell? w16 a21) = (some (.int .u8 n22))) ∧
            (((64 : Int) ≠ (0 : Int)) ∧
            (al (zc Try.prog 31) 31 w16 (fun m23 w24 =>
            ((hold [(.cell a21 (.int .u8 n22)), (.cell a18 (.int .u8 n19))] w24) ∧
             (stN ⟨m23, 0, none⟩ [(.int .u32 (IntKind.wrap .u32 (Int.tmod n19 (64 : Int)))), (.int .i64 (0 : Int)), (.slice none 0 0), (.int .i64 (IntKind.wrap .i64 ((1 : Int) + (IntKind.wrap .i64 (Int.tmod n22 (64 : Int)))))), (.int .i64 (0 : Int)), (.int .i64 (0 : Int))] w24 (fun w25 =>
             (∃ (n26 : Int), (((World.cell? w25 ⟨m23, 0, none⟩) = (some (.int .u32 n26))) ∧
              (cl Try.prog 27 #[(.pointer p8), (.int .u32 n26)] w25 (fun v27 w28 =>
              (∃ (n29 : Int) (b30 : Bool), ((v27 = (.tuple #[(.int .i64 n29), (.bool b30)])) ∧
               (ixa x2 x2l n14 3 (fun a31 =>
               (ixr a31 3 (2 : Int) 1 (fun a32 =>
                (∃ (n33 : Int), (((World.cell? w28 a32) = (some (.int .u8 n33))) ∧
                 (((4 : Int) ≠ (0 : Int)) ∧
                 (cl Try.prog 28 #[(.pointer p8)] w28 (fun v34 w35 =>
                 (∃ (p36 : (Option Addr)) (m37 : Nat) (m38 : Nat), ((v34 = (.slice p36 m37 m38)) ∧
                  (dr w35 (fun w39 =>
                  (∃ (n40 : Int) (n41 : Int) (p42 : (Option Addr)) (m43 : Nat) (m44 : Nat) (n45 : Int) (n46 : Int) (n47 : Int), ((cellsAt w39 ⟨m23, 0, none⟩ [(.int .u32 n40), (.int .i64 n41), (.slice p42 m43 m44), (.int .i64 n45), (.int .i64 n46), (.int .i64 n47)]) ∧
                   (rnV Try.prog (Instr.makeSlice 22 (.int .i64 (4 : Int)) (.int .i64 (4 : Int))) w39 (fun v48 w49 =>
                   (∃ (p50 : (Option Addr)) (m51 : Nat) (m52 : Nat), ((v48 = (.slice p50 m51 m52)) ∧
                    ((hold [(.cells ⟨m23, 0, none⟩ [(.int .u32 n40), (.int .i64 n41), (.slice p42 m43 m44), (.int .i64 n45), (.int .i64 n46), (.int .i64 n47)])] w49) ∧
                    (cl Try.prog 29 #[(.pointer p8), (.agg #[(.int .u32 n40), (.int .i64 n41), (.slice p42 m43 m44), (.int .i64 n45), (.int .i64 n46), (.int .i64 n47)]), (.int .i64 (IntKind.wrap .i64 (Int.tmod n33 (4 : Int)))), (.int .i64 (0 : Int)), (.slice p50 m51 m52)] w49 (fun v53 w54 =>
                    (∃ (b55 : Bool) (p56 : (Option Addr)) (m57 : Nat) (m58 : Nat), ((v53 = (.tuple #[(.bool b55), (.slice p56 m57 m58)])) ∧
                     (jn (σ := PUnit) (fun _ _ w59 =>
                     (br b30 (k13 (IntKind.wrap .i64 (n14 + (1 : Int))) w59)
                       (lp (σ := Int) (fun _ k60 n61 w62 =>
                      (br (decide (n61 < (m57 : Int)))
                        (dr w62 (fun w63 =>
                       (ixa p56 m57 n61 1 (fun a64 =>
                        (∃ (n65 : Int), (((World.cell? w63 a64) = (some (.int .u32 n65))) ∧
                         (ixa p56 m57 n61 1 (fun a66 =>
                         (∃ (n67 : Int), (((World.cell? w63 a66) = (some (.int .u32 n67))) ∧
                          (((64 : Int) ≠ (0 : Int)) ∧
                          (ixr ⟨m11, 0, none⟩ 64 (Int.tmod n67 (64 : Int)) 1 (fun a68 =>
                          (∃ (n69 : Int), (((World.cell? w63 a68) = (some (.int .i64 n69))) ∧
                           (al (zc Try.prog 65) 65 w63 (fun m70 w71 =>
                           ((hold [(.cell a68 (.int .i64 n69)), (.cell a66 (.int .u32 n67)), (.cell a64 (.int .u32 n65))] w71) ∧
                            (stN ⟨m70, 0, none⟩ [(.int .u32 n65), (.int .i64 n69), (.int .i64 (0 : Int))] w71 (fun w72 =>
                            (ixa p56 m57 n61 1 (fun a73 =>
                             (∃ (n74 : Int), (((World.cell? w72 a73) = (some (.int .u32 n74))) ∧
                              (cl Try.prog 27 #[(.pointer p8), (.int .u32 n74)] w72 (fun v75 w76 =>
                              (∃ (n77 : Int) (b78 : Bool), ((v75 = (.tuple #[(.int .i64 n77), (.bool b78)])) ∧
                               (∃ (n79 : Int) (n80 : Int) (n81 : Int), ((cellsAt w76 ⟨m70, 0, none⟩ [(.int .u32 n79), (.int .i64 n80), (.int .i64 n81)]) ∧
                               (∃ (n82 : Int), (((World.cell? w76 ⟨m23, 0, none⟩) = (some (.int .u32 n82))) ∧
                               (cl Try.prog 32 #[(.agg #[(.int .u32 n79), (.int .i64 n80), (.int .i64 n81)]), (.agg #[(.int .u32 n82), (.int .i64 (IntKind.wrap .i64 (Int.tmod n33 (4 : Int)))), (.int .i64 (0 : Int))])] w76 (fun v83 w84 =>
                               (∃ (b85 : Bool), ((v83 = (.bool b85)) ∧
                                (br (!b85) (R (.returned (.bool Bool.false)) w84)
                                 (br b78 (R (.returned (.bool Bool.false)) w84) (k60 (IntKind.wrap .i64 (n61 + (1 : Int))) w84)))))) (fun x86 w87 => (R (.panicked x86) w87)))))))))) (fun x88 w89 => (R (.panicked x88) w89)))))))))))))))))))))))))))
                        (∃ (n90 : Int), (((World.cell? w62 ⟨m23, 0, none⟩) = (some (.int .u32 n90))) ∧
                       (cl Try.prog 27 #[(.pointer p8), (.int .u32 n90)] w62 (fun v91 w92 =>
                       (∃ (n93 : Int) (b94 : Bool), ((v91 = (.tuple #[(.int .i64 n93), (.bool b94)])) ∧
                        (br (!(b94 == b55)) (R (.returned (.bool Bool.false)) w92)
                         (br b55
                         (cl Try.prog 28 #[(.pointer p8)] w92 (fun v95 w96 =>
                        (∃ (p97 : (Option Addr)) (m98 : Nat) (m99 : Nat), ((v95 = (.slice p97 m98 m99)) ∧
                         (br
                          ((m98 : Int) != (IntKind.wrap .i64 ((IntKind.wrap .i64 ((m37 : Int) + (1 : Int))) - (m57 : Int)))) (R (.returned (.bool Bool.false)) w96)
                          (br b55
                          (∃ (n100 : Int), (((World.cell? w96 ⟨m23, 0, none⟩) = (some (.int .u32 n100))) ∧
                         (((64 : Int) ≠ (0 : Int)) ∧
                         (ixr ⟨m11, 0, none⟩ 64 (Int.tmod n100 (64 : Int)) 1 (fun a101 =>
                         (st1 a101 (.int .i64 (IntKind.wrap .i64 (Int.tmod n33 (4 : Int)))) w96 (fun w102 => (k13 (IntKind.wrap .i64 (n14 + (1 : Int))) w102)))))))) (k13 (IntKind.wrap .i64 (n14 + (1 : Int))) w96)))))) (fun x103 w104 => (R (.panicked x103) w104)))
                         (br b55
                         (∃ (n105 : Int), (((World.cell? w92 ⟨m23, 0, none⟩) = (some (.int .u32 n105))) ∧
                        (((64 : Int) ≠ (0 : Int)) ∧
                        (ixr ⟨m11, 0, none⟩ 64 (Int.tmod n105 (64 : Int)) 1 (fun a106 =>
                        (st1 a106 (.int .i64 (IntKind.wrap .i64 (Int.tmod n33 (4 : Int)))) w92 (fun w107 => (k13 (IntKind.wrap .i64 (n14 + (1 : Int))) w107)))))))) (k13 (IntKind.wrap .i64 (n14 + (1 : Int))) w92))))))) (fun x108 w109 => (R (.panicked x108) w109))))))) (0 : Int) w59))) (fun k110 =>
                     (cl Try.prog 28 #[(.pointer p8)] w54 (fun v111 w112 =>
                      (∃ (p113 : (Option Addr)) (m114 : Nat) (m115 : Nat), ((v111 = (.slice p113 m114 m115)) ∧
                       (br
                        (decide ((m114 : Int) > (IntKind.wrap .i64 ((1 : Int) + (Int.tmod (IntKind.wrap .i64 x0) (16 : Int)))))) (R (.returned (.bool Bool.false)) w112)
                        (cl Try.prog 30 #[(.pointer p8)] w112 (fun v116 w117 =>
                       (∃ (n118 : Int), ((v116 = (.int .i64 n118)) ∧
                        (br
                         (decide (n118 > (IntKind.wrap .i64 ((1 : Int) + (IntKind.wrap .i64 x1))))) (R (.returned (.bool Bool.false)) w117)
                         (br (!b55)
                         (br (decide ((m57 : Int) > (0 : Int))) (R (.returned (.bool Bool.false)) w117)
                         (cl Try.prog 28 #[(.pointer p8)] w117 (fun v119 w120 =>
                        (∃ (p121 : (Option Addr)) (m122 : Nat) (m123 : Nat), ((v119 = (.slice p121 m122 m123)) ∧
                         (cl Try.prog 31 #[(.slice p121 m122 m123), (.slice p36 m37 m38)] w120 (fun v124 w125 =>
                         (∃ (b126 : Bool), ((v124 = (.bool b126)) ∧
                          (br (!b126) (R (.returned (.bool Bool.false)) w125)
                           (br b30
                           (br (decide ((m57 : Int) > (0 : Int))) (R (.returned (.bool Bool.false)) w125) (k110 () w125)) (k110 () w125)))))) (fun x127 w128 => (R (.panicked x127) w128)))))) (fun x129 w130 => (R (.panicked x129) w130))))
                         (br b30
                         (br (decide ((m57 : Int) > (0 : Int))) (R (.returned (.bool Bool.false)) w117) (k110 () w117)) (k110 () w117))))))) (fun x131 w132 => (R (.panicked x131) w132))))))) (fun x133 w134 => (R (.panicked x133) w134)))))))) (fun _ _ => False)))))))))))))) (fun x135 w136 => (R (.panicked x135) w136))))))))))))) (fun x137 w138 => (R (.panicked x137) w138)))))))))))))))))))))))))) (R (.returned (.bool Bool.true)) w15))) (0 : Int) w12)))) (fun k139 =>
    (br (!b9) (R (.returned (.bool Bool.false)) w7)
      (br (Option.isNone p8) (R (.returned (.bool Bool.false)) w7) (k139 () w7)))))))) (fun x140 w141 => (R (.panicked x140) w141)))))) (fun x142 w143 => (R (.panicked x142) w143))))))))) (fun x144 w145 => (R (.panicked x144) w145)))

def glaw24_ShelfFull_an : Ann := (.seq .leaf (.seq (.seq .leaf (.cond (.seq .leaf .leaf) .leaf)) (.seq (.seq .leaf (.cond (.seq .leaf .leaf) .leaf)) (.seq .leaf (.seq .leaf (.join (.seq .leaf (.cond (.seq .leaf .leaf) .leaf)) [6, 45, 46, 47, 48, 49, 50] [] (.seq .leaf (.seq (.seq .leaf (.block (.loop (.seq (.seq .leaf (.cond .leaf .leaf)) (.seq (.block (.seq (.plan [.take 0, .take 1, .take 2, .take 3, .take 4, .take 5, .take 6, .take 7, .take 8, .take 9, .take 10, .take 11, .take 12, .take 13, .take 14, .take 15, .eff 16, .eff 17]) (.seq .leaf (.seq .leaf (.seq .leaf (.seq (.plan [.take 0, .take 1, .take 2, .eff 3, .eff 4, .take 5, .take 6, .take 7, .take 8, .take 9]) (.join (.seq .leaf (.cond (.seq .leaf .leaf) .leaf)) [6, 97, 98, 99, 100, 101, 102, 103, 104, 105, 106, 107, 108, 109, 110, 111, 112, 113, 114, 115, 116, 117, 118, 119, 120, 121, 122, 123, 124, 125, 126, 127, 128, 129, 130, 131] [] (.seq (.seq .leaf (.cond .leaf .leaf)) (.seq (.seq .leaf (.block (.loop (.seq (.seq .leaf (.cond .leaf .leaf)) (.seq (.block (.seq (.plan [.take 0, .take 1, .take 2, .take 3, .take 4, .take 5, .take 6, .take 7, .take 8, .take 9, .take 10, .take 11, .eff 12, .eff 13]) (.seq .leaf (.seq .leaf (.cond (.seq .leaf .leaf) .leaf))))) .leaf)) [6, 20, 21, 22, 23, 133, 134, 135, 136, 137, 138, 139, 140, 141, 142, 143, 144, 145, 146, 147, 148, 149, 150, 151, 152, 153, 154, 155, 156, 157, 158, 159, 160, 161, 162, 163, 164, 165, 166, 167, 168, 169] [(20, (.int .i64))]))) (.seq .leaf (.seq (.seq .leaf (.cond (.seq .leaf .leaf) .leaf)) (.seq .leaf (.cond .leaf .leaf))))))))))))) .leaf)) [6, 12, 13, 14, 15, 16, 17, 18, 19, 20, 21, 22, 23, 24, 25, 51, 52, 53, 54, 55, 56, 57, 58, 59, 60, 61, 62, 63, 64, 65, 66, 67, 68, 69, 70, 71, 72, 73, 74, 75, 76, 77, 78, 79, 80, 81, 82, 83, 84, 85, 86, 87, 88, 89, 90, 91, 92, 93, 94, 95, 96, 97, 98, 99, 100, 101, 102, 103, 104, 105, 106, 107, 108, 109, 110, 111, 112, 113, 114, 115, 116, 117, 118, 119, 120, 121, 122, 123, 124, 125, 126, 127, 128, 129, 130, 131, 132, 133, 134, 135, 136, 137, 138, 139, 140, 141, 142, 143, 144, 145, 146, 147, 148, 149, 150, 151, 152, 153, 154, 155, 156, 157, 158, 159, 160, 161, 162, 163, 164, 165, 166, 167, 168, 169, 170, 171, 172, 173, 174, 175, 176, 177, 178, 179, 180, 181, 182, 183, 184, 185, 186, 187, 188, 189, 190, 191, 192, 193, 194, 195, 196, 197, 198, 199, 200] [(12, (.int .i64))]))) (.seq .leaf .leaf)))))))))

set_option maxRecDepth 100000 in
theorem glaw24_ShelfFull_ok (x0 : Int) (x1 : Int) (x2 : Option Addr) (x2l x2c : Nat) (R : Ending → World → Prop) (w : World) (h : glaw24_ShelfFull x0 x1 x2 x2l x2c R w) : Cs Try.prog 7 (#[(.int .u8 x0), (.int .u8 x1), (.slice x2 x2l x2c)] : Array Value) w R :=
  fn_sound (ty := []) (ann := glaw24_ShelfFull_an) (N := 201) (by kernel_rfl) (by kernel_rfl) Try.func7 rfl (by kernel_rfl) (by show 3 ≤ 201; decide) (by kernel_rfl)
    (Eq.mpr (show cdA Try.prog [] glaw24_ShelfFull_an _ _ _ w = glaw24_ShelfFull x0 x1 x2 x2l x2c R w by kernel_rfl) h)

/- "girandole/girandolelaw24.ShelfTexts" (8) -/
set_option maxRecDepth 100000 in
def glaw24_ShelfTexts (x0 : Option Addr) (x0l x0c : Nat) (x1 : Option Addr) (x1l _x1c : Nat) (x2 : Option Addr) (x2l _x2c : Nat) (R : Ending → World → Prop) (w : World) : Prop :=
  (cl Try.prog 24 #[] w (fun v0 w1 =>
 (∃ (b2 : Bool), ((v0 = (.bool b2)) ∧
  (br (!b2) (R (.returned (.bool Bool.false)) w1)
   (jn (σ := PUnit) (fun _ _ w3 =>
  (cl Try.prog 26 #[] w3 (fun v4 w5 =>
   (∃ (p6 : (Option Addr)), ((v4 = (.pointer p6)) ∧
    (cl Try.prog 25 #[(.pointer p6), (.int .i64 (4 : Int)), (.int .i64 (2000 : Int)), (.int .i64 (4 : Int))] w5 (fun v7 w8 =>
    (∃ (p9 : (Option Addr)) (b10 : Bool), ((v7 = (.tuple #[(.pointer p9), (.bool b10)])) ∧
     (jn (σ := PUnit) (fun _ _ w11 =>
     (al (zc Try.prog 31) 31 w11 (fun m12 w13 =>
      (stN ⟨m12, 0, none⟩ [(.int .u32 (9 : Int)), (.int .i64 (1 : Int)), (.slice none 0 0), (.int .i64 (x0l : Int)), (.int .i64 (0 : Int)), (.int .i64 (0 : Int))] w13 (fun w14 =>
       (((4 : Int) ≠ (0 : Int)) ∧
        (cl Try.prog 33 #[(.int .i64 (IntKind.wrap .i64 (Int.tdiv (IntKind.wrap .i64 ((x0l : Int) + (3 : Int))) (4 : Int)))), (.int .i64 (1 : Int))] w14 (fun v15 w16 =>
        (∃ (p17 : (Option Addr)) (b18 : Bool), ((v15 = (.tuple #[(.pointer p17), (.bool b18)])) ∧
         (lp (σ := Int) (fun _ k19 n20 w21 =>
         (br (decide (n20 < (x1l : Int)))
           (ixa x1 x1l n20 1 (fun a22 =>
          (∃ (n23 : Int), (((World.cell? w21 a22) = (some (.int .u8 n23))) ∧
           (((IntKind.wrap .i64 ((IntKind.wrap .i64 (Int.tdiv (IntKind.wrap .i64 ((x0l : Int) + (3 : Int))) (4 : Int))) + (64 : Int))) ≠ (0 : Int)) ∧
           (cl Try.prog 34 #[(.int .u32 (9 : Int)), (.slice x0 x0l x0c), (.int .i64 (4 : Int)), (.int .i64 (Int.tmod (IntKind.wrap .i64 n23) (IntKind.wrap .i64 ((IntKind.wrap .i64 (Int.tdiv (IntKind.wrap .i64 ((x0l : Int) + (3 : Int))) (4 : Int))) + (64 : Int)))))] w21 (fun v24 w25 =>
           (∃ (p26 : (Option Addr)) (m27 : Nat) (m28 : Nat) (b29 : Bool), ((v24 = (.tuple #[(.slice p26 m27 m28), (.bool b29)])) ∧
            (cl Try.prog 35 #[(.int .u32 (9 : Int)), (.int .i64 (Int.tmod (IntKind.wrap .i64 n23) (IntKind.wrap .i64 ((IntKind.wrap .i64 (Int.tdiv (IntKind.wrap .i64 ((x0l : Int) + (3 : Int))) (4 : Int))) + (64 : Int))))), (.int .i64 (IntKind.wrap .i64 (Int.tdiv (IntKind.wrap .i64 ((x0l : Int) + (3 : Int))) (4 : Int))))] w25 (fun v30 w31 =>
            (∃ (p32 : (Option Addr)) (m33 : Nat) (m34 : Nat) (b35 : Bool), ((v30 = (.tuple #[(.slice p32 m33 m34), (.bool b35)])) ∧
             (∃ (n36 : Int) (n37 : Int) (p38 : (Option Addr)) (m39 : Nat) (m40 : Nat) (n41 : Int) (n42 : Int) (n43 : Int), ((cellsAt w31 ⟨m12, 0, none⟩ [(.int .u32 n36), (.int .i64 n37), (.slice p38 m39 m40), (.int .i64 n41), (.int .i64 n42), (.int .i64 n43)]) ∧
             (cl Try.prog 29 #[(.pointer p9), (.agg #[(.int .u32 n36), (.int .i64 n37), (.slice p38 m39 m40), (.int .i64 n41), (.int .i64 n42), (.int .i64 n43)]), (.int .i64 (0 : Int)), (.int .i64 (Int.tmod (IntKind.wrap .i64 n23) (IntKind.wrap .i64 ((IntKind.wrap .i64 (Int.tdiv (IntKind.wrap .i64 ((x0l : Int) + (3 : Int))) (4 : Int))) + (64 : Int))))), (.slice p26 m27 m28)] w31 (fun v44 w45 =>
             (∃ (b46 : Bool) (p47 : (Option Addr)) (m48 : Nat) (m49 : Nat), ((v44 = (.tuple #[(.bool b46), (.slice p47 m48 m49)])) ∧
              (jn (σ := PUnit) (fun _ _ w50 =>
              (jn (σ := PUnit) (fun _ _ w51 =>
               (cl Try.prog 37 #[(.pointer p9), (.int .u32 (9 : Int))] w51 (fun v52 w53 =>
                (∃ (p54 : (Option Addr)) (m55 : Nat) (m56 : Nat) (b57 : Bool), ((v52 = (.tuple #[(.slice p54 m55 m56), (.bool b57)])) ∧
                 (nc p17 (fun a58 =>
                 (∃ (p59 : (Option Addr)) (m60 : Nat) (m61 : Nat), (((World.cell? w53 (Addr.add a58 2)) = (some (.slice p59 m60 m61))) ∧
                  (br
                   (!(b57 == ((m60 : Int) == (IntKind.wrap .i64 (Int.tdiv (IntKind.wrap .i64 ((x0l : Int) + (3 : Int))) (4 : Int)))))) (R (.returned (.bool Bool.false)) w53)
                   (br b57
                   (rnV Try.prog (convert 22 9 (.slice p54 m55 m56)) w53 (fun v62 w63 =>
                  (∃ (z64 : ByteArray), ((v62 = (.string z64)) ∧
                   (rnV Try.prog (convert 22 9 (.slice x0 x0l x0c)) w63 (fun v65 w66 =>
                   (∃ (z67 : ByteArray), ((v65 = (.string z67)) ∧
                    (br (!((ByteArray.toList z64) == (ByteArray.toList z67))) (R (.returned (.bool Bool.false)) w66) (k19 (IntKind.wrap .i64 (n20 + (1 : Int))) w66)))))))))) (k19 (IntKind.wrap .i64 (n20 + (1 : Int))) w53)))))))))) (fun x68 w69 => (R (.panicked x68) w69)))) (fun k70 =>
               (br (decide (n20 < (x2l : Int)))
                 (ixa x2 x2l n20 1 (fun a71 =>
                (∃ (n72 : Int), (((World.cell? w50 a71) = (some (.int .u8 n72))) ∧
                 (((6 : Int) ≠ (0 : Int)) ∧
                 (al #[(.int .u8 (97 : Int)), (.int .u8 (98 : Int)), (.int .u8 (99 : Int)), (.int .u8 (100 : Int))] 5 w50 (fun m73 w74 =>
                 (rnV Try.prog (convert 22 22 (.slice (some ⟨m73, 0, none⟩) 4 4)) w74 (fun v75 w76 =>
                  (∃ (p77 : (Option Addr)) (m78 : Nat) (m79 : Nat), ((v75 = (.slice p77 m78 m79)) ∧
                   (cl Try.prog 29 #[(.pointer p9), (.agg #[(.int .u32 (IntKind.wrap .u32 (IntKind.wrap .u8 ((20 : Int) + (Int.tmod n72 (6 : Int)))))), (.int .i64 (0 : Int)), (.slice none 0 0), (.int .i64 (5 : Int)), (.int .i64 (0 : Int)), (.int .i64 (0 : Int))]), (.int .i64 (3 : Int)), (.int .i64 (0 : Int)), (.slice p77 m78 m79)] w76 (fun v80 w81 =>
                   (∃ (b82 : Bool) (p83 : (Option Addr)) (m84 : Nat) (m85 : Nat), ((v80 = (.tuple #[(.bool b82), (.slice p83 m84 m85)])) ∧ (k70 () w81)))) (fun x86 w87 => (R (.panicked x86) w87)))))))))))))) (k70 () w50))))) (fun k88 =>
              (al #[(.int .u8 (0 : Int))] 5 w45 (fun m89 w90 =>
               (cl Try.prog 36 #[(.pointer p17), (.slice p32 m33 m34), (.slice (some ⟨m89, 0, none⟩) 1 1)] w90 (fun v91 w92 =>
                (∃ (b93 : Bool), ((v91 = (.bool b93)) ∧
                 (br (!(b46 == b93)) (R (.returned (.bool Bool.false)) w92)
                  (br (decide (n20 > (0 : Int)))
                  (br (decide ((m48 : Int) > (0 : Int))) (R (.returned (.bool Bool.false)) w92) (k88 () w92)) (k88 () w92)))))) (fun x94 w95 => (R (.panicked x94) w95)))))))))) (fun x96 w97 => (R (.panicked x96) w97)))))))) (fun x98 w99 => (R (.panicked x98) w99)))))) (fun x100 w101 => (R (.panicked x100) w101)))))))) (R (.returned (.bool Bool.true)) w21))) (0 : Int) w16)))) (fun x102 w103 => (R (.panicked x102) w103))))))))) (fun k104 =>
     (br (!b10) (R (.returned (.bool Bool.false)) w8)
       (br (Option.isNone p9) (R (.returned (.bool Bool.false)) w8) (k104 () w8)))))))) (fun x105 w106 => (R (.panicked x105) w106)))))) (fun x107 w108 => (R (.panicked x107) w108)))) (fun k109 =>
  (br (decide ((x0l : Int) < (1 : Int))) (R (.returned (.bool Bool.true)) w1)
    (br (decide ((x0l : Int) > (40 : Int))) (R (.returned (.bool Bool.true)) w1)
    (br (decide ((x1l : Int) > (30 : Int))) (R (.returned (.bool Bool.true)) w1) (k109 () w1)))))))))) (fun x110 w111 => (R (.panicked x110) w111)))

def glaw24_ShelfTexts_an : Ann := (.seq .leaf (.seq (.seq .leaf (.cond (.seq .leaf .leaf) .leaf)) (.join (.seq .leaf (.cond (.seq .leaf .leaf) .leaf)) [6, 25, 26, 27, 28, 29, 30, 31, 32, 33, 34, 35, 36, 37] [] (.seq .leaf (.join (.seq .leaf (.cond (.seq .leaf .leaf) .leaf)) [6, 43, 44, 45, 46, 47, 48] [] (.seq .leaf (.seq .leaf (.seq .leaf (.seq (.seq .leaf (.block (.loop (.seq (.seq .leaf (.cond .leaf .leaf)) (.seq (.block (.seq .leaf (.seq .leaf (.seq .leaf (.seq .leaf (.join (.seq .leaf (.cond (.seq .leaf .leaf) .leaf)) [6, 95, 96, 97, 98, 99, 100, 101, 102, 103, 104, 105, 106, 107, 108, 109] [] (.join (.seq .leaf (.cond .leaf .leaf)) [110, 111, 112, 113, 114, 115, 116, 117, 118, 119, 120, 121, 122, 123, 124, 125] [] (.seq .leaf (.seq .leaf (.cond (.seq .leaf .leaf) .leaf)))))))))) .leaf)) [6, 13, 14, 15, 16, 17, 18, 19, 20, 21, 22, 61, 62, 63, 64, 65, 66, 67, 68, 69, 70, 71, 72, 73, 74, 75, 76, 77, 78, 79, 80, 81, 82, 83, 84, 85, 86, 87, 88, 89, 90, 91, 92, 93, 94, 95, 96, 97, 98, 99, 100, 101, 102, 103, 104, 105, 106, 107, 108, 109, 110, 111, 112, 113, 114, 115, 116, 117, 118, 119, 120, 121, 122, 123, 124, 125, 126, 127, 128, 129, 130, 131, 132, 133, 134, 135, 136, 137, 138, 139, 140, 141, 142, 143, 144, 145, 146, 147, 148, 149] [(13, (.int .i64))]))) (.seq .leaf .leaf))))))))))

set_option maxRecDepth 100000 in
theorem glaw24_ShelfTexts_ok (x0 : Option Addr) (x0l x0c : Nat) (x1 : Option Addr) (x1l x1c : Nat) (x2 : Option Addr) (x2l x2c : Nat) (R : Ending → World → Prop) (w : World) (h : glaw24_ShelfTexts x0 x0l x0c x1 x1l x1c x2 x2l x2c R w) : Cs Try.prog 8 (#[(.slice x0 x0l x0c), (.slice x1 x1l x1c), (.slice x2 x2l x2c)] : Array Value) w R :=
  fn_sound (ty := []) (ann := glaw24_ShelfTexts_an) (N := 150) (by kernel_rfl) (by kernel_rfl) Try.func8 rfl (by kernel_rfl) (by show 3 ≤ 150; decide) (by kernel_rfl)
    (Eq.mpr (show cdA Try.prog [] glaw24_ShelfTexts_an _ _ _ w = glaw24_ShelfTexts x0 x0l x0c x1 x1l x1c x2 x2l x2c R w by kernel_rfl) h)

/- "girandole/girandolelaw24.ShelfForms" (9) -/
set_option maxRecDepth 100000 in
def glaw24_ShelfForms (R : Ending → World → Prop) (w : World) : Prop :=
  (cl Try.prog 24 #[] w (fun v0 w1 =>
 (∃ (b2 : Bool), ((v0 = (.bool b2)) ∧
  (br (!b2) (R (.returned (.bool Bool.false)) w1)
   (cl Try.prog 26 #[] w1 (fun v3 w4 =>
  (∃ (p5 : (Option Addr)), ((v3 = (.pointer p5)) ∧
   (cl Try.prog 25 #[(.pointer p5), (.int .i64 (3 : Int)), (.int .i64 (20 : Int)), (.int .i64 (4 : Int))] w4 (fun v6 w7 =>
   (∃ (p8 : (Option Addr)) (b9 : Bool), ((v6 = (.tuple #[(.pointer p8), (.bool b9)])) ∧
    (jn (σ := PUnit) (fun _ _ w10 =>
    (al #[(.int .u8 (1 : Int)), (.int .u8 (2 : Int)), (.int .u8 (3 : Int)), (.int .u8 (4 : Int))] 5 w10 (fun m11 w12 =>
     (al (zc Try.prog 81) 81 w12 (fun m13 w14 =>
      (stN ⟨m13, 0, none⟩ [(.pointer p8), (.slice (some ⟨m11, 0, none⟩) 4 4)] w14 (fun w15 =>
       (jn (σ := PUnit) (fun _ _ w16 =>
        (jn (σ := PUnit) (fun _ _ w17 =>
         (cl Try.prog 29 #[(.pointer p8), (.agg #[(.int .u32 (4 : Int)), (.int .i64 (0 : Int)), (.slice none 0 0), (.int .i64 (8 : Int)), (.int .i64 (0 : Int)), (.int .i64 (0 : Int))]), (.int .i64 (1 : Int)), (.int .i64 (1 : Int)), (.slice (some ⟨m11, 0, none⟩) 4 4)] w17 (fun v18 w19 =>
          (∃ (b20 : Bool) (p21 : (Option Addr)) (m22 : Nat) (m23 : Nat), ((v18 = (.tuple #[(.bool b20), (.slice p21 m22 m23)])) ∧
           (jn (σ := PUnit) (fun _ _ w24 =>
           (cl Try.prog 29 #[(.pointer p8), (.agg #[(.int .u32 (5 : Int)), (.int .i64 (0 : Int)), (.slice none 0 0), (.int .i64 (16 : Int)), (.int .i64 (0 : Int)), (.int .i64 (0 : Int))]), (.int .i64 (0 : Int)), (.int .i64 (0 : Int)), (.slice (some ⟨m11, 0, none⟩) 4 4)] w24 (fun v25 w26 =>
            (∃ (b27 : Bool) (p28 : (Option Addr)) (m29 : Nat) (m30 : Nat), ((v25 = (.tuple #[(.bool b27), (.slice p28 m29 m30)])) ∧
             (jn (σ := PUnit) (fun _ _ w31 =>
             (cl Try.prog 29 #[(.pointer p8), (.agg #[(.int .u32 (0 : Int)), (.int .i64 (0 : Int)), (.slice none 0 0), (.int .i64 (8 : Int)), (.int .i64 (0 : Int)), (.int .i64 (0 : Int))]), (.int .i64 (0 : Int)), (.int .i64 (0 : Int)), (.slice (some ⟨m11, 0, none⟩) 4 4)] w31 (fun v32 w33 =>
              (∃ (b34 : Bool) (p35 : (Option Addr)) (m36 : Nat) (m37 : Nat), ((v32 = (.tuple #[(.bool b34), (.slice p35 m36 m37)])) ∧
               (br b34
                (br ((m36 : Int) == (1 : Int))
                (ixa p35 m36 (0 : Int) 1 (fun a38 =>
               (∃ (n39 : Int), (((World.cell? w33 a38) = (some (.int .u32 n39))) ∧
                (br (n39 == (5 : Int))
                 (∃ (p40 : (Option Addr)) (p41 : (Option Addr)) (m42 : Nat) (m43 : Nat), ((cellsAt w33 ⟨m13, 0, none⟩ [(.pointer p40), (.slice p41 m42 m43)]) ∧
                (cl Try.prog 38 #[(.agg #[(.pointer p40), (.slice p41 m42 m43)]), (.int .u32 (7 : Int)), (.int .i64 (16 : Int)), (.int .i64 (0 : Int))] w33 (fun v44 w45 =>
                (∃ (b46 : Bool), ((v44 = (.bool b46)) ∧
                 (br (!b46)
                  (cl Try.prog 30 #[(.pointer p8)] w45 (fun v47 w48 =>
                 (∃ (n49 : Int), ((v47 = (.int .i64 n49)) ∧
                  (br (n49 == (12 : Int))
                   (cl Try.prog 28 #[(.pointer p8)] w48 (fun v50 w51 =>
                  (∃ (p52 : (Option Addr)) (m53 : Nat) (m54 : Nat), ((v50 = (.slice p52 m53 m54)) ∧ (R (.returned (.bool ((m53 : Int) == (2 : Int)))) w51)))) (fun x55 w56 => (R (.panicked x55) w56))) (R (.returned (.bool Bool.false)) w48))))) (fun x57 w58 => (R (.panicked x57) w58))) (R (.returned (.bool Bool.false)) w45))))) (fun x59 w60 => (R (.panicked x59) w60))))) (R (.returned (.bool Bool.false)) w33)))))) (R (.returned (.bool Bool.false)) w33)) (R (.returned (.bool Bool.false)) w33))))) (fun x61 w62 => (R (.panicked x61) w62)))) (fun k63 =>
             (br (!b27) (R (.returned (.bool Bool.false)) w26)
               (br ((m29 : Int) != (2 : Int)) (R (.returned (.bool Bool.false)) w26)
               (ixa p28 m29 (0 : Int) 1 (fun a64 =>
              (∃ (n65 : Int), (((World.cell? w26 a64) = (some (.int .u32 n65))) ∧
               (br (n65 != (2 : Int)) (R (.returned (.bool Bool.false)) w26)
                (ixa p28 m29 (1 : Int) 1 (fun a66 =>
               (∃ (n67 : Int), (((World.cell? w26 a66) = (some (.int .u32 n67))) ∧
                (br (n67 != (4 : Int)) (R (.returned (.bool Bool.false)) w26)
                 (cl Try.prog 30 #[(.pointer p8)] w26 (fun v68 w69 =>
                (∃ (n70 : Int), ((v68 = (.int .i64 n70)) ∧ (br (n70 != (20 : Int)) (R (.returned (.bool Bool.false)) w69) (k63 () w69))))) (fun x71 w72 => (R (.panicked x71) w72)))))))))))))))))))) (fun x73 w74 => (R (.panicked x73) w74)))) (fun k75 =>
           (br (!b20) (R (.returned (.bool Bool.false)) w19)
             (br ((m22 : Int) != (1 : Int)) (R (.returned (.bool Bool.false)) w19)
             (ixa p21 m22 (0 : Int) 1 (fun a76 =>
            (∃ (n77 : Int), (((World.cell? w19 a76) = (some (.int .u32 n77))) ∧
             (br (n77 != (1 : Int)) (R (.returned (.bool Bool.false)) w19)
              (cl Try.prog 30 #[(.pointer p8)] w19 (fun v78 w79 =>
             (∃ (n80 : Int), ((v78 = (.int .i64 n80)) ∧ (br (n80 != (16 : Int)) (R (.returned (.bool Bool.false)) w79) (k75 () w79))))) (fun x81 w82 => (R (.panicked x81) w82))))))))))))))) (fun x83 w84 => (R (.panicked x83) w84)))) (fun k85 =>
         (∃ (p86 : (Option Addr)) (p87 : (Option Addr)) (m88 : Nat) (m89 : Nat), ((cellsAt w16 ⟨m13, 0, none⟩ [(.pointer p86), (.slice p87 m88 m89)]) ∧
          (cl Try.prog 38 #[(.agg #[(.pointer p86), (.slice p87 m88 m89)]), (.int .u32 (9 : Int)), (.int .i64 (4 : Int)), (.int .i64 (3 : Int))] w16 (fun v90 w91 =>
          (∃ (b92 : Bool), ((v90 = (.bool b92)) ∧
           (br b92 (R (.returned (.bool Bool.false)) w91)
            (∃ (p93 : (Option Addr)) (p94 : (Option Addr)) (m95 : Nat) (m96 : Nat), ((cellsAt w91 ⟨m13, 0, none⟩ [(.pointer p93), (.slice p94 m95 m96)]) ∧
           (cl Try.prog 38 #[(.agg #[(.pointer p93), (.slice p94 m95 m96)]), (.int .u32 (9 : Int)), (.int .i64 (4 : Int)), (.int .i64 (4 : Int))] w91 (fun v97 w98 =>
           (∃ (b99 : Bool), ((v97 = (.bool b99)) ∧
            (br b99 (R (.returned (.bool Bool.false)) w98)
             (∃ (p100 : (Option Addr)) (p101 : (Option Addr)) (m102 : Nat) (m103 : Nat), ((cellsAt w98 ⟨m13, 0, none⟩ [(.pointer p100), (.slice p101 m102 m103)]) ∧
            (cl Try.prog 38 #[(.agg #[(.pointer p100), (.slice p101 m102 m103)]), (.int .u32 (9 : Int)), (.int .i64 (21 : Int)), (.int .i64 (0 : Int))] w98 (fun v104 w105 =>
            (∃ (b106 : Bool), ((v104 = (.bool b106)) ∧
             (br b106 (R (.returned (.bool Bool.false)) w105)
              (cl Try.prog 28 #[(.pointer p8)] w105 (fun v107 w108 =>
             (∃ (p109 : (Option Addr)) (m110 : Nat) (m111 : Nat), ((v107 = (.slice p109 m110 m111)) ∧
              (br ((m110 : Int) != (3 : Int)) (R (.returned (.bool Bool.false)) w108) (k85 () w108))))) (fun x112 w113 => (R (.panicked x112) w113))))))) (fun x114 w115 => (R (.panicked x114) w115))))))))) (fun x116 w117 => (R (.panicked x116) w117))))))))) (fun x118 w119 => (R (.panicked x118) w119)))))))) (fun k120 =>
        (∃ (p121 : (Option Addr)) (p122 : (Option Addr)) (m123 : Nat) (m124 : Nat), ((cellsAt w15 ⟨m13, 0, none⟩ [(.pointer p121), (.slice p122 m123 m124)]) ∧
         (cl Try.prog 38 #[(.agg #[(.pointer p121), (.slice p122 m123 m124)]), (.int .u32 (1 : Int)), (.int .i64 (9 : Int)), (.int .i64 (3 : Int))] w15 (fun v125 w126 =>
         (∃ (b127 : Bool), ((v125 = (.bool b127)) ∧
          (br (!b127) (R (.returned (.bool Bool.false)) w126)
           (∃ (p128 : (Option Addr)) (p129 : (Option Addr)) (m130 : Nat) (m131 : Nat), ((cellsAt w126 ⟨m13, 0, none⟩ [(.pointer p128), (.slice p129 m130 m131)]) ∧
          (cl Try.prog 38 #[(.agg #[(.pointer p128), (.slice p129 m130 m131)]), (.int .u32 (2 : Int)), (.int .i64 (4 : Int)), (.int .i64 (2 : Int))] w126 (fun v132 w133 =>
          (∃ (b134 : Bool), ((v132 = (.bool b134)) ∧
           (br (!b134) (R (.returned (.bool Bool.false)) w133)
            (∃ (p135 : (Option Addr)) (p136 : (Option Addr)) (m137 : Nat) (m138 : Nat), ((cellsAt w133 ⟨m13, 0, none⟩ [(.pointer p135), (.slice p136 m137 m138)]) ∧
           (cl Try.prog 38 #[(.agg #[(.pointer p135), (.slice p136 m137 m138)]), (.int .u32 (3 : Int)), (.int .i64 (4 : Int)), (.int .i64 (0 : Int))] w133 (fun v139 w140 =>
           (∃ (b141 : Bool), ((v139 = (.bool b141)) ∧
            (br (!b141) (R (.returned (.bool Bool.false)) w140)
             (cl Try.prog 30 #[(.pointer p8)] w140 (fun v142 w143 =>
            (∃ (n144 : Int), ((v142 = (.int .i64 n144)) ∧ (br (n144 != (20 : Int)) (R (.returned (.bool Bool.false)) w143) (k120 () w143))))) (fun x145 w146 => (R (.panicked x145) w146))))))) (fun x147 w148 => (R (.panicked x147) w148))))))))) (fun x149 w150 => (R (.panicked x149) w150))))))))) (fun x151 w152 => (R (.panicked x151) w152)))))))))))))) (fun k153 =>
    (br (!b9) (R (.returned (.bool Bool.false)) w7)
      (br (Option.isNone p8) (R (.returned (.bool Bool.false)) w7) (k153 () w7)))))))) (fun x154 w155 => (R (.panicked x154) w155)))))) (fun x156 w157 => (R (.panicked x156) w157))))))) (fun x158 w159 => (R (.panicked x158) w159)))

def glaw24_ShelfForms_an : Ann := (.seq .leaf (.seq (.seq .leaf (.cond (.seq .leaf .leaf) .leaf)) (.seq .leaf (.join (.seq .leaf (.cond (.seq .leaf .leaf) .leaf)) [0, 16, 17, 18, 19, 20, 21] [] (.seq .leaf (.seq .leaf (.join (.seq .leaf (.cond (.seq .leaf .leaf) .leaf)) [0, 26, 27, 28, 29, 30, 31, 32, 33, 34, 35, 36, 37, 38, 39, 40, 41, 42, 43] [] (.join (.seq .leaf (.cond (.seq .leaf .leaf) .leaf)) [0, 44, 45, 46, 47, 48, 49, 50, 51, 52, 53, 54, 55, 56, 57, 58, 59] [] (.seq .leaf (.join (.seq .leaf (.cond (.seq .leaf .leaf) .leaf)) [0, 67, 68, 69, 70, 71, 72, 73, 74, 75, 76, 77, 78, 79, 80, 81, 82, 83, 84] [] (.seq .leaf (.join (.seq .leaf (.cond (.seq .leaf .leaf) .leaf)) [0, 92, 93, 94, 95, 96, 97, 98, 99, 100, 101, 102, 103, 104, 105, 106, 107, 108, 109, 110, 111, 112, 113, 114, 115] [] (.seq .leaf (.seq .leaf .leaf))))))))))))))

set_option maxRecDepth 100000 in
theorem glaw24_ShelfForms_ok (R : Ending → World → Prop) (w : World) (h : glaw24_ShelfForms R w) : Cs Try.prog 9 (#[] : Array Value) w R :=
  fn_sound (ty := []) (ann := glaw24_ShelfForms_an) (N := 151) (by kernel_rfl) (by kernel_rfl) Try.func9 rfl (by kernel_rfl) (by show 0 ≤ 151; decide) (by kernel_rfl)
    (Eq.mpr (show cdA Try.prog [] glaw24_ShelfForms_an _ _ _ w = glaw24_ShelfForms R w by kernel_rfl) h)

/- "girandole/girandolelaw24.ShelfRanks" (10) -/
set_option maxRecDepth 100000 in
def glaw24_ShelfRanks (x0_0 : Int) (x0_1 : Int) (x0_2 : Int) (x1 : Int) (x2 : Int) (R : Ending → World → Prop) (w : World) : Prop :=
  (al #[(.int .u8 x0_0), (.int .u8 x0_1), (.int .u8 x0_2)] 57 w (fun m0 w1 =>
 (cl Try.prog 24 #[] w1 (fun v2 w3 =>
  (∃ (b4 : Bool), ((v2 = (.bool b4)) ∧
   (br (!b4) (R (.returned (.bool Bool.false)) w3)
    (cl Try.prog 26 #[] w3 (fun v5 w6 =>
   (∃ (p7 : (Option Addr)), ((v5 = (.pointer p7)) ∧
    (cl Try.prog 25 #[(.pointer p7), (.int .i64 (3 : Int)), (.int .i64 (100 : Int)), (.int .i64 (4 : Int))] w6 (fun v8 w9 =>
    (∃ (p10 : (Option Addr)) (b11 : Bool), ((v8 = (.tuple #[(.pointer p10), (.bool b11)])) ∧
     (jn (σ := PUnit) (fun _ _ w12 =>
     (al #[(.int .u8 (1 : Int)), (.int .u8 (2 : Int)), (.int .u8 (3 : Int)), (.int .u8 (4 : Int))] 5 w12 (fun m13 w14 =>
      (al (zc Try.prog 83) 83 w14 (fun m15 w16 =>
       (lp (σ := Int) (fun _ k17 n18 w19 =>
        (br (decide (n18 < (3 : Int)))
          (ixr ⟨m0, 0, none⟩ 3 n18 1 (fun a20 =>
         (∃ (n21 : Int), (((World.cell? w19 a20) = (some (.int .u8 n21))) ∧
          (((4 : Int) ≠ (0 : Int)) ∧
          (ixr ⟨m15, 0, none⟩ 3 n18 1 (fun a22 =>
          (st1 a22 (.int .i64 (IntKind.wrap .i64 ((1 : Int) + (IntKind.wrap .i64 (Int.tmod n21 (4 : Int)))))) w19 (fun w23 =>
           (ixr ⟨m15, 0, none⟩ 3 n18 1 (fun a24 =>
            (∃ (n25 : Int), (((World.cell? w23 a24) = (some (.int .i64 n25))) ∧
             (cl Try.prog 29 #[(.pointer p10), (.agg #[(.int .u32 (IntKind.wrap .u32 (IntKind.wrap .i64 (n18 + (1 : Int))))), (.int .i64 (0 : Int)), (.slice none 0 0), (.int .i64 (4 : Int)), (.int .i64 (0 : Int)), (.int .i64 (0 : Int))]), (.int .i64 n25), (.int .i64 (0 : Int)), (.slice (some ⟨m13, 0, none⟩) 4 4)] w23 (fun v26 w27 =>
             (∃ (b28 : Bool) (p29 : (Option Addr)) (m30 : Nat) (m31 : Nat), ((v26 = (.tuple #[(.bool b28), (.slice p29 m30 m31)])) ∧
              (br (!b28) (R (.returned (.bool Bool.false)) w27) (k17 (IntKind.wrap .i64 (n18 + (1 : Int))) w27))))) (fun x32 w33 => (R (.panicked x32) w33))))))))))))))))
          (((3 : Int) ≠ (0 : Int)) ∧
         (((4 : Int) ≠ (0 : Int)) ∧
         (ixr ⟨m15, 0, none⟩ 3 (IntKind.wrap .i64 (Int.tmod x1 (3 : Int))) 1 (fun a34 =>
         (st1 a34 (.int .i64 (IntKind.wrap .i64 ((1 : Int) + (IntKind.wrap .i64 (Int.tmod x2 (4 : Int)))))) w19 (fun w35 =>
          (jn (σ := PUnit) (fun _ _ w36 =>
           (lp (σ := (Int × Int)) (fun _ k37 s38 w39 =>
            (br (decide (s38.2 < (3 : Int)))
              (dr w39 (fun w40 =>
             (ixr ⟨m15, 0, none⟩ 3 s38.2 1 (fun a41 =>
              (∃ (n42 : Int), (((World.cell? w40 a41) = (some (.int .i64 n42))) ∧
               (ixr ⟨m15, 0, none⟩ 3 s38.1 1 (fun a43 =>
               (∃ (n44 : Int), (((World.cell? w40 a43) = (some (.int .i64 n44))) ∧
                (br (decide (n42 ≥ n44)) (k37 (s38.2, (IntKind.wrap .i64 (s38.2 + (1 : Int)))) w40) (k37 (s38.1, (IntKind.wrap .i64 (s38.2 + (1 : Int)))) w40))))))))))))
              (cl Try.prog 29 #[(.pointer p10), (.agg #[(.int .u32 (50 : Int)), (.int .i64 (0 : Int)), (.slice none 0 0), (.int .i64 (4 : Int)), (.int .i64 (0 : Int)), (.int .i64 (0 : Int))]), (.int .i64 (0 : Int)), (.int .i64 (0 : Int)), (.slice (some ⟨m13, 0, none⟩) 4 4)] w39 (fun v45 w46 =>
             (∃ (b47 : Bool) (p48 : (Option Addr)) (m49 : Nat) (m50 : Nat), ((v45 = (.tuple #[(.bool b47), (.slice p48 m49 m50)])) ∧
              (br b47
               (br ((m49 : Int) == (1 : Int))
               (ixa p48 m49 (0 : Int) 1 (fun a51 =>
              (∃ (n52 : Int), (((World.cell? w46 a51) = (some (.int .u32 n52))) ∧
               (R (.returned (.bool (n52 == (IntKind.wrap .u32 (IntKind.wrap .i64 (s38.1 + (1 : Int))))))) w46))))) (R (.returned (.bool Bool.false)) w46)) (R (.returned (.bool Bool.false)) w46))))) (fun x53 w54 => (R (.panicked x53) w54))))) ((0 : Int), (1 : Int)) w36)) (fun k55 =>
           (ixr ⟨m15, 0, none⟩ 3 (IntKind.wrap .i64 (Int.tmod x1 (3 : Int))) 1 (fun a56 =>
            (∃ (n57 : Int), (((World.cell? w35 a56) = (some (.int .i64 n57))) ∧
             (cl Try.prog 39 #[(.pointer p10), (.int .u32 (IntKind.wrap .u32 (IntKind.wrap .i64 ((IntKind.wrap .i64 (Int.tmod x1 (3 : Int))) + (1 : Int))))), (.int .i64 n57)] w35 (fun v58 w59 =>
             (∃ (b60 : Bool), ((v58 = (.bool b60)) ∧
              (br (!b60) (R (.returned (.bool Bool.false)) w59)
               (cl Try.prog 39 #[(.pointer p10), (.int .u32 (9 : Int)), (.int .i64 (0 : Int))] w59 (fun v61 w62 =>
              (∃ (b63 : Bool), ((v61 = (.bool b63)) ∧ (br b63 (R (.returned (.bool Bool.false)) w62) (k55 () w62))))) (fun x64 w65 => (R (.panicked x64) w65))))))) (fun x66 w67 => (R (.panicked x66) w67))))))))))))))))) (0 : Int) w16)))))) (fun k68 =>
     (br (!b11) (R (.returned (.bool Bool.false)) w9)
       (br (Option.isNone p10) (R (.returned (.bool Bool.false)) w9) (k68 () w9)))))))) (fun x69 w70 => (R (.panicked x69) w70)))))) (fun x71 w72 => (R (.panicked x71) w72))))))) (fun x73 w74 => (R (.panicked x73) w74)))))

def glaw24_ShelfRanks_an : Ann := (.seq .leaf (.seq (.seq .leaf (.cond (.seq .leaf .leaf) .leaf)) (.seq .leaf (.join (.seq .leaf (.cond (.seq .leaf .leaf) .leaf)) [6, 26, 27, 28, 29, 30, 31] [] (.seq .leaf (.seq .leaf (.seq (.seq .leaf (.block (.loop (.seq (.seq .leaf (.cond .leaf .leaf)) (.seq (.block (.seq .leaf (.seq .leaf (.seq .leaf (.cond (.seq .leaf .leaf) .leaf))))) .leaf)) [6, 11, 12, 13, 33, 34, 35, 36, 37, 38, 39, 40, 41, 42, 43, 44, 45, 46, 47, 48, 49, 50, 51, 52, 53, 54, 55, 56, 57, 58, 59] [(11, (.int .i64))]))) (.seq .leaf (.seq .leaf (.join (.seq .leaf (.cond (.seq .leaf .leaf) .leaf)) [6, 69, 70, 71, 72, 73, 74, 75, 76, 77, 78, 79, 80, 81] [] (.seq .leaf (.seq (.seq .leaf (.block (.loop (.seq (.seq .leaf (.cond .leaf .leaf)) (.seq (.block (.seq (.plan [.take 0, .take 1, .take 2, .take 3, .take 4, .take 5, .take 6]) (.cond .leaf .leaf))) .leaf)) [15, 16, 82, 83, 84, 85, 86, 87, 88, 89, 90, 91, 92, 93] [(15, (.int .i64)), (16, (.int .i64))]))) (.seq .leaf (.seq .leaf .leaf))))))))))))))

set_option maxRecDepth 100000 in
theorem glaw24_ShelfRanks_ok (x0_0 : Int) (x0_1 : Int) (x0_2 : Int) (x1 : Int) (x2 : Int) (R : Ending → World → Prop) (w : World) (h : glaw24_ShelfRanks x0_0 x0_1 x0_2 x1 x2 R w) : Cs Try.prog 10 (#[(.agg #[(.int .u8 x0_0), (.int .u8 x0_1), (.int .u8 x0_2)]), (.int .u8 x1), (.int .u8 x2)] : Array Value) w R :=
  fn_sound (ty := []) (ann := glaw24_ShelfRanks_an) (N := 116) (by kernel_rfl) (by kernel_rfl) Try.func10 rfl (by kernel_rfl) (by show 3 ≤ 116; decide) (by kernel_rfl)
    (Eq.mpr (show cdA Try.prog [] glaw24_ShelfRanks_an _ _ _ w = glaw24_ShelfRanks x0_0 x0_1 x0_2 x1 x2 R w by kernel_rfl) h)

/- "girandole/girandolelaw24.begun" (24) -/
set_option maxRecDepth 100000 in
def glaw24_begun (R : Ending → World → Prop) (w : World) : Prop :=
  (cl Try.prog 26 #[] w (fun v0 w1 =>
 (∃ (p2 : (Option Addr)), ((v0 = (.pointer p2)) ∧
  (cl Try.prog 25 #[(.pointer p2), (.int .i64 (1 : Int)), (.int .i64 (100 : Int)), (.int .i64 (2 : Int))] w1 (fun v3 w4 =>
  (∃ (p5 : (Option Addr)) (b6 : Bool), ((v3 = (.tuple #[(.pointer p5), (.bool b6)])) ∧
   (jn (σ := PUnit) (fun _ _ w7 =>
   (al (zc Try.prog 31) 31 w7 (fun m8 w9 =>
    (stN ⟨m8, 0, none⟩ [(.int .u32 (1 : Int)), (.int .i64 (3 : Int)), (.slice none 0 0), (.int .i64 (3 : Int)), (.int .i64 (0 : Int)), (.int .i64 (0 : Int))] w9 (fun w10 =>
     (al (zc Try.prog 31) 31 w10 (fun m11 w12 =>
      (stN ⟨m11, 0, none⟩ [(.int .u32 (2 : Int)), (.int .i64 (1 : Int)), (.slice none 0 0), (.int .i64 (2 : Int)), (.int .i64 (0 : Int)), (.int .i64 (0 : Int))] w12 (fun w13 =>
       (∃ (n14 : Int) (n15 : Int) (p16 : (Option Addr)) (m17 : Nat) (m18 : Nat) (n19 : Int) (n20 : Int) (n21 : Int), ((cellsAt w13 ⟨m8, 0, none⟩ [(.int .u32 n14), (.int .i64 n15), (.slice p16 m17 m18), (.int .i64 n19), (.int .i64 n20), (.int .i64 n21)]) ∧
        (al #[(.int .u8 (97 : Int)), (.int .u8 (98 : Int))] 5 w13 (fun m22 w23 =>
        (rnV Try.prog (convert 22 22 (.slice (some ⟨m22, 0, none⟩) 2 2)) w23 (fun v24 w25 =>
         (∃ (p26 : (Option Addr)) (m27 : Nat) (m28 : Nat), ((v24 = (.slice p26 m27 m28)) ∧
          (cl Try.prog 29 #[(.pointer p5), (.agg #[(.int .u32 n14), (.int .i64 n15), (.slice p16 m17 m18), (.int .i64 n19), (.int .i64 n20), (.int .i64 n21)]), (.int .i64 (3 : Int)), (.int .i64 (0 : Int)), (.slice p26 m27 m28)] w25 (fun v29 w30 =>
          (∃ (b31 : Bool) (p32 : (Option Addr)) (m33 : Nat) (m34 : Nat), ((v29 = (.tuple #[(.bool b31), (.slice p32 m33 m34)])) ∧
           (cl Try.prog 27 #[(.pointer p5), (.int .u32 (1 : Int))] w30 (fun v35 w36 =>
           (∃ (n37 : Int) (b38 : Bool), ((v35 = (.tuple #[(.int .i64 n37), (.bool b38)])) ∧
            (∃ (n39 : Int) (n40 : Int) (p41 : (Option Addr)) (m42 : Nat) (m43 : Nat) (n44 : Int) (n45 : Int) (n46 : Int), ((cellsAt w36 ⟨m11, 0, none⟩ [(.int .u32 n39), (.int .i64 n40), (.slice p41 m42 m43), (.int .i64 n44), (.int .i64 n45), (.int .i64 n46)]) ∧
            (al #[(.int .u8 (99 : Int)), (.int .u8 (100 : Int))] 5 w36 (fun m47 w48 =>
            (rnV Try.prog (convert 22 22 (.slice (some ⟨m47, 0, none⟩) 2 2)) w48 (fun v49 w50 =>
             (∃ (p51 : (Option Addr)) (m52 : Nat) (m53 : Nat), ((v49 = (.slice p51 m52 m53)) ∧
              (cl Try.prog 29 #[(.pointer p5), (.agg #[(.int .u32 n39), (.int .i64 n40), (.slice p41 m42 m43), (.int .i64 n44), (.int .i64 n45), (.int .i64 n46)]), (.int .i64 (0 : Int)), (.int .i64 (0 : Int)), (.slice p51 m52 m53)] w50 (fun v54 w55 =>
              (∃ (b56 : Bool) (p57 : (Option Addr)) (m58 : Nat) (m59 : Nat), ((v54 = (.tuple #[(.bool b56), (.slice p57 m58 m59)])) ∧
               (cl Try.prog 37 #[(.pointer p5), (.int .u32 (2 : Int))] w55 (fun v60 w61 =>
               (∃ (p62 : (Option Addr)) (m63 : Nat) (m64 : Nat) (b65 : Bool), ((v60 = (.tuple #[(.slice p62 m63 m64), (.bool b65)])) ∧
                (cl Try.prog 28 #[(.pointer p5)] w61 (fun v66 w67 =>
                (∃ (p68 : (Option Addr)) (m69 : Nat) (m70 : Nat), ((v66 = (.slice p68 m69 m70)) ∧
                 (br b31
                  (br b38
                  (br (n37 == (1 : Int))
                  (br b56
                  (br ((m58 : Int) == (1 : Int))
                  (ixa p57 m58 (0 : Int) 1 (fun a71 =>
                 (∃ (n72 : Int), (((World.cell? w67 a71) = (some (.int .u32 n72))) ∧
                  (br (n72 == (1 : Int))
                   (br b65
                   (rnV Try.prog (convert 22 9 (.slice p62 m63 m64)) w67 (fun v73 w74 =>
                  (∃ (z75 : ByteArray), ((v73 = (.string z75)) ∧
                   (br
                    ((ByteArray.toList z75) == (ByteArray.toList (ByteArray.mk #[99, 100])))
                    (br ((m69 : Int) == (1 : Int))
                    (ixa p68 m69 (0 : Int) 1 (fun a76 =>
                   (∃ (n77 : Int), (((World.cell? w74 a76) = (some (.int .u32 n77))) ∧
                    (br (n77 == (2 : Int))
                     (cl Try.prog 30 #[(.pointer p5)] w74 (fun v78 w79 =>
                    (∃ (n80 : Int), ((v78 = (.int .i64 n80)) ∧
                     (br (n80 == (2 : Int))
                      (cl Try.prog 39 #[(.pointer p5), (.int .u32 (2 : Int)), (.int .i64 (1 : Int))] w79 (fun v81 w82 =>
                     (∃ (b83 : Bool), ((v81 = (.bool b83)) ∧
                      (br b83
                       (cl Try.prog 57 #[(.pointer p5), (.int .u32 (2 : Int))] w82 (fun v84 w85 =>
                      (∃ (b86 : Bool), ((v84 = (.bool b86)) ∧
                       (br b86
                        (cl Try.prog 57 #[(.pointer p5), (.int .u32 (2 : Int))] w85 (fun v87 w88 => (∃ (b89 : Bool), ((v87 = (.bool b89)) ∧ (R (.returned (.bool (!b89))) w88)))) (fun x90 w91 => (R (.panicked x90) w91))) (R (.returned (.bool Bool.false)) w85))))) (fun x92 w93 => (R (.panicked x92) w93))) (R (.returned (.bool Bool.false)) w82))))) (fun x94 w95 => (R (.panicked x94) w95))) (R (.returned (.bool Bool.false)) w79))))) (fun x96 w97 => (R (.panicked x96) w97))) (R (.returned (.bool Bool.false)) w74)))))) (R (.returned (.bool Bool.false)) w74)) (R (.returned (.bool Bool.false)) w74)))))) (R (.returned (.bool Bool.false)) w67)) (R (.returned (.bool Bool.false)) w67)))))) (R (.returned (.bool Bool.false)) w67)) (R (.returned (.bool Bool.false)) w67)) (R (.returned (.bool Bool.false)) w67)) (R (.returned (.bool Bool.false)) w67)) (R (.returned (.bool Bool.false)) w67))))) (fun x98 w99 => (R (.panicked x98) w99)))))) (fun x100 w101 => (R (.panicked x100) w101)))))) (fun x102 w103 => (R (.panicked x102) w103)))))))))))))) (fun x104 w105 => (R (.panicked x104) w105)))))) (fun x106 w107 => (R (.panicked x106) w107)))))))))))))))))))) (fun k108 =>
   (br (!b6) (R (.returned (.bool Bool.false)) w4)
     (br (Option.isNone p5) (R (.returned (.bool Bool.false)) w4) (k108 () w4)))))))) (fun x109 w110 => (R (.panicked x109) w110)))))) (fun x111 w112 => (R (.panicked x111) w112)))

def glaw24_begun_an : Ann := (.seq .leaf (.seq .leaf (.join (.seq .leaf (.cond (.seq .leaf .leaf) .leaf)) [0, 19, 20, 21, 22, 23, 24] [] (.seq .leaf (.seq .leaf (.seq .leaf (.seq .leaf (.seq .leaf (.seq .leaf (.seq .leaf (.seq .leaf .leaf)))))))))))

set_option maxRecDepth 100000 in
theorem glaw24_begun_ok (R : Ending → World → Prop) (w : World) (h : glaw24_begun R w) : Cs Try.prog 24 (#[] : Array Value) w R :=
  fn_sound (ty := []) (ann := glaw24_begun_an) (N := 114) (by kernel_rfl) (by kernel_rfl) Try.func24 rfl (by kernel_rfl) (by show 0 ≤ 114; decide) (by kernel_rfl)
    (Eq.mpr (show cdA Try.prog [] glaw24_begun_an _ _ _ w = glaw24_begun R w by kernel_rfl) h)

/- "girandole/shelf.New" (25) -/
set_option maxRecDepth 100000 in
def shelf_New (x0 : Option Addr) (x1 : Int) (x2 : Int) (x3 : Int) (R : Ending → World → Prop) (w : World) : Prop :=
  (jn (σ := PUnit) (fun _ _ w0 =>
 (nwo (.map #[] 0) w0 (fun m1 w2 =>
  (al #[(.pointer x0), (.int .i64 x1), (.int .i64 x2), (.int .i64 x3), (.map (some m1))] 121 w2 (fun m3 w4 => (R (.returned (.tuple #[(.pointer (some ⟨m3, 0, none⟩)), (.bool Bool.true)])) w4)))))) (fun k5 =>
 (br (Option.isNone x0)
   (R (.returned (.tuple #[(.pointer none), (.bool Bool.false)])) w)
   (br (decide (x1 < (1 : Int)))
   (R (.returned (.tuple #[(.pointer none), (.bool Bool.false)])) w)
   (br (decide (x1 > (16 : Int)))
   (R (.returned (.tuple #[(.pointer none), (.bool Bool.false)])) w)
   (br (decide (x2 < (1 : Int)))
   (R (.returned (.tuple #[(.pointer none), (.bool Bool.false)])) w)
   (br (decide (x2 > (65536 : Int)))
   (R (.returned (.tuple #[(.pointer none), (.bool Bool.false)])) w)
   (br (decide (x3 < (1 : Int)))
   (R (.returned (.tuple #[(.pointer none), (.bool Bool.false)])) w)
   (br (decide (x3 > (64 : Int)))
   (R (.returned (.tuple #[(.pointer none), (.bool Bool.false)])) w) (k5 () w))))))))))

def shelf_New_an : Ann := (.seq .leaf (.join (.seq .leaf (.cond (.seq .leaf .leaf) .leaf)) [8, 9, 10, 11, 12, 13, 14, 15, 16, 17, 18, 19, 20, 21, 22, 23, 24, 25, 26, 27, 28, 29, 30, 31, 32, 33, 34, 35] [] (.seq .leaf .leaf)))

set_option maxRecDepth 100000 in
theorem shelf_New_ok (x0 : Option Addr) (x1 : Int) (x2 : Int) (x3 : Int) (R : Ending → World → Prop) (w : World) (h : shelf_New x0 x1 x2 x3 R w) : Cs Try.prog 25 (#[(.pointer x0), (.int .i64 x1), (.int .i64 x2), (.int .i64 x3)] : Array Value) w R :=
  fn_sound (ty := []) (ann := shelf_New_an) (N := 43) (by kernel_rfl) (by kernel_rfl) Try.func25 rfl (by kernel_rfl) (by show 4 ≤ 43; decide) (by kernel_rfl)
    (Eq.mpr (show cdA Try.prog [] shelf_New_an _ _ _ w = shelf_New x0 x1 x2 x3 R w by kernel_rfl) h)

/- "girandole/field.New" (26) -/
set_option maxRecDepth 100000 in
def field_New (R : Ending → World → Prop) (w : World) : Prop :=
  (al #[(.int .u8 (0 : Int)), (.int .u8 (0 : Int)), (.int .u8 (0 : Int)), (.int .u8 (0 : Int)), (.int .u8 (0 : Int)), (.int .u8 (0 : Int)), (.int .u8 (0 : Int)), (.int .u8 (0 : Int)), (.int .u8 (0 : Int)), (.int .u8 (0 : Int)), (.int .u8 (0 : Int)), (.int .u8 (0 : Int)), (.int .u8 (0 : Int)), (.int .u8 (0 : Int)), (.int .u8 (0 : Int)), (.int .u8 (0 : Int)), (.int .u8 (0 : Int)), (.int .u8 (0 : Int)), (.int .u8 (0 : Int)), (.int .u8 (0 : Int)), (.int .u8 (0 : Int)), (.int .u8 (0 : Int)), (.int .u8 (0 : Int)), (.int .u8 (0 : Int)), (.int .u8 (0 : Int)), (.int .u8 (0 : Int)), (.int .u8 (0 : Int)), (.int .u8 (0 : Int)), (.int .u8 (0 : Int)), (.int .u8 (0 : Int)), (.int .u8 (0 : Int)), (.int .u8 (0 : Int)), (.int .u8 (0 : Int)), (.int .u8 (0 : Int)), (.int .u8 (0 : Int)), (.int .u8 (0 : Int)), (.int .u8 (0 : Int)), (.int .u8 (0 : Int)), (.int .u8 (0 : Int)), (.int .u8 (0 : Int)), (.int .u8 (0 : Int)), (.int .u8 (0 : Int)), (.int .u8 (0 : Int)), (.int .u8 (0 : Int)), (.int .u8 (0 : Int)), (.int .u8 (0 : Int)), (.int .u8 (0 : Int)), (.int .u8 (0 : Int)), (.int .u8 (0 : Int)), (.int .u8 (0 : Int)), (.int .u8 (0 : Int)), (.int .u8 (0 : Int)), (.int .u8 (0 : Int)), (.int .u8 (0 : Int)), (.int .u8 (0 : Int)), (.int .u8 (0 : Int)), (.int .u8 (0 : Int)), (.int .u8 (0 : Int)), (.int .u8 (0 : Int)), (.int .u8 (0 : Int)), (.int .u8 (0 : Int)), (.int .u8 (0 : Int)), (.int .u8 (0 : Int)), (.int .u8 (0 : Int)), (.int .u8 (0 : Int)), (.int .u8 (0 : Int)), (.int .u8 (0 : Int)), (.int .u8 (0 : Int)), (.int .u8 (0 : Int)), (.int .u8 (0 : Int)), (.int .u8 (0 : Int)), (.int .u8 (0 : Int)), (.int .u8 (0 : Int)), (.int .u8 (0 : Int)), (.int .u8 (0 : Int)), (.int .u8 (0 : Int)), (.int .u8 (0 : Int)), (.int .u8 (0 : Int)), (.int .u8 (0 : Int)), (.int .u8 (0 : Int)), (.int .u8 (0 : Int)), (.int .u8 (0 : Int)), (.int .u8 (0 : Int)), (.int .u8 (0 : Int)), (.int .u8 (0 : Int)), (.int .u8 (0 : Int)), (.int .u8 (0 : Int)), (.int .u8 (0 : Int)), (.int .u8 (0 : Int)), (.int .u8 (0 : Int)), (.int .u8 (0 : Int)), (.int .u8 (0 : Int)), (.int .u8 (0 : Int)), (.int .u8 (0 : Int)), (.int .u8 (0 : Int)), (.int .u8 (0 : Int)), (.int .u8 (0 : Int)), (.int .u8 (0 : Int)), (.int .u8 (0 : Int)), (.int .u8 (0 : Int)), (.int .u8 (0 : Int)), (.int .u8 (0 : Int)), (.int .u8 (0 : Int)), (.int .u8 (0 : Int)), (.int .u8 (0 : Int)), (.int .u8 (0 : Int)), (.int .u8 (0 : Int)), (.int .u8 (0 : Int)), (.int .u8 (0 : Int)), (.int .u8 (0 : Int)), (.int .u8 (0 : Int)), (.int .u8 (0 : Int)), (.int .u8 (0 : Int)), (.int .u8 (0 : Int)), (.int .u8 (0 : Int)), (.int .u8 (0 : Int)), (.int .u8 (0 : Int)), (.int .u8 (0 : Int)), (.int .u8 (0 : Int)), (.int .u8 (0 : Int)), (.int .u8 (0 : Int)), (.int .u8 (0 : Int)), (.int .u8 (0 : Int)), (.int .u8 (0 : Int)), (.int .u8 (0 : Int)), (.int .u8 (0 : Int)), (.int .u8 (0 : Int)), (.int .u8 (0 : Int)), (.int .u8 (0 : Int)), (.int .u8 (0 : Int)), (.int .u8 (0 : Int)), (.int .u8 (0 : Int)), (.int .u8 (0 : Int)), (.int .u8 (0 : Int)), (.int .u8 (0 : Int)), (.int .u8 (0 : Int)), (.int .u8 (0 : Int)), (.int .u8 (0 : Int)), (.int .u8 (0 : Int)), (.int .u8 (0 : Int)), (.int .u8 (0 : Int)), (.int .u8 (0 : Int)), (.int .u8 (0 : Int)), (.int .u8 (0 : Int)), (.int .u8 (0 : Int)), (.int .u8 (0 : Int)), (.int .u8 (0 : Int)), (.int .u8 (0 : Int)), (.int .u8 (0 : Int)), (.int .u8 (0 : Int)), (.int .u8 (0 : Int)), (.int .u8 (0 : Int)), (.int .u8 (0 : Int)), (.int .u8 (0 : Int)), (.int .u8 (0 : Int)), (.int .u8 (0 : Int)), (.int .u8 (0 : Int)), (.int .u8 (0 : Int)), (.int .u8 (0 : Int)), (.int .u8 (0 : Int)), (.int .u8 (0 : Int)), (.int .u8 (0 : Int)), (.int .u8 (0 : Int)), (.int .u8 (0 : Int)), (.int .u8 (0 : Int)), (.int .u8 (0 : Int)), (.int .u8 (0 : Int)), (.int .u8 (0 : Int)), (.int .u8 (0 : Int)), (.int .u8 (0 : Int)), (.int .u8 (0 : Int)), (.int .u8 (0 : Int)), (.int .u8 (0 : Int)), (.int .u8 (0 : Int)), (.int .u8 (0 : Int)), (.int .u8 (0 : Int)), (.int .u8 (0 : Int)), (.int .u8 (0 : Int)), (.int .u8 (0 : Int)), (.int .u8 (0 : Int)), (.int .u8 (0 : Int)), (.int .u8 (0 : Int)), (.int .u8 (0 : Int)), (.int .u8 (0 : Int)), (.int .u8 (0 : Int)), (.int .u8 (0 : Int)), (.int .u8 (0 : Int)), (.int .u8 (0 : Int)), (.int .u8 (0 : Int)), (.int .u8 (0 : Int)), (.int .u8 (0 : Int)), (.int .u8 (0 : Int)), (.int .u8 (0 : Int)), (.int .u8 (0 : Int)), (.int .u8 (0 : Int)), (.int .u8 (0 : Int)), (.int .u8 (0 : Int)), (.int .u8 (0 : Int)), (.int .u8 (0 : Int)), (.int .u8 (0 : Int)), (.int .u8 (0 : Int)), (.int .u8 (0 : Int)), (.int .u8 (0 : Int)), (.int .u8 (0 : Int)), (.int .u8 (0 : Int)), (.int .u8 (0 : Int)), (.int .u8 (0 : Int)), (.int .u8 (0 : Int)), (.int .u8 (0 : Int)), (.int .u8 (0 : Int)), (.int .u8 (0 : Int)), (.int .u8 (0 : Int)), (.int .u8 (0 : Int)), (.int .u8 (0 : Int)), (.int .u8 (0 : Int)), (.int .u8 (0 : Int)), (.int .u8 (0 : Int)), (.int .u8 (0 : Int)), (.int .u8 (0 : Int)), (.int .u8 (0 : Int)), (.int .u8 (0 : Int)), (.int .u8 (0 : Int)), (.int .u8 (0 : Int)), (.int .u8 (0 : Int)), (.int .u8 (0 : Int)), (.int .u8 (0 : Int)), (.int .u8 (0 : Int)), (.int .u8 (0 : Int)), (.int .u8 (0 : Int)), (.int .u8 (0 : Int)), (.int .u8 (0 : Int)), (.int .u8 (0 : Int)), (.int .u8 (0 : Int)), (.int .u8 (0 : Int)), (.int .u8 (0 : Int)), (.int .u8 (0 : Int)), (.int .u8 (0 : Int)), (.int .u8 (0 : Int)), (.int .u8 (0 : Int)), (.int .u8 (0 : Int)), (.int .u8 (0 : Int)), (.int .u8 (0 : Int)), (.int .u8 (0 : Int)), (.int .u8 (0 : Int)), (.int .u8 (0 : Int)), (.int .u8 (0 : Int)), (.int .u8 (0 : Int)), (.int .u8 (0 : Int)), (.int .u8 (0 : Int)), (.int .u8 (0 : Int)), (.int .u8 (0 : Int)), (.int .u8 (0 : Int)), (.int .u8 (0 : Int)), (.int .u8 (0 : Int)), (.int .u8 (0 : Int)), (.int .u8 (0 : Int)), (.int .u8 (0 : Int)), (.int .u8 (0 : Int)), (.int .u8 (0 : Int)), (.int .u8 (0 : Int)), (.int .u8 (0 : Int)), (.int .u8 (0 : Int)), (.int .u8 (0 : Int)), (.int .u8 (0 : Int)), (.int .u8 (0 : Int)), (.int .u8 (0 : Int)), (.int .u8 (0 : Int)), (.int .u8 (0 : Int)), (.int .u8 (0 : Int)), (.int .u8 (0 : Int)), (.int .u8 (0 : Int)), (.int .u8 (0 : Int)), (.int .u8 (0 : Int)), (.int .u8 (0 : Int)), (.int .u8 (0 : Int)), (.int .u8 (0 : Int)), (.int .u8 (0 : Int)), (.int .u8 (0 : Int)), (.int .u8 (0 : Int)), (.int .u8 (0 : Int)), (.int .u8 (0 : Int)), (.int .u8 (0 : Int)), (.int .u8 (0 : Int)), (.int .u8 (0 : Int)), (.int .u8 (0 : Int)), (.int .u8 (0 : Int)), (.int .u8 (0 : Int)), (.int .u8 (0 : Int)), (.int .u8 (0 : Int)), (.int .u8 (0 : Int)), (.int .u8 (0 : Int)), (.int .u8 (0 : Int)), (.int .u8 (0 : Int)), (.int .u8 (0 : Int)), (.int .u8 (0 : Int)), (.int .u8 (0 : Int)), (.int .u8 (0 : Int)), (.int .u8 (0 : Int)), (.int .u8 (0 : Int)), (.int .u8 (0 : Int)), (.int .u8 (0 : Int)), (.int .u8 (0 : Int)), (.int .u8 (0 : Int)), (.int .u8 (0 : Int)), (.int .u8 (0 : Int)), (.int .u8 (0 : Int)), (.int .u8 (0 : Int)), (.int .u8 (0 : Int)), (.int .u8 (0 : Int)), (.int .u8 (0 : Int)), (.int .u8 (0 : Int)), (.int .u8 (0 : Int)), (.int .u8 (0 : Int)), (.int .u8 (0 : Int)), (.int .u8 (0 : Int)), (.int .u8 (0 : Int)), (.int .u8 (0 : Int)), (.int .u8 (0 : Int)), (.int .u8 (0 : Int)), (.int .u8 (0 : Int)), (.int .u8 (0 : Int)), (.int .u8 (0 : Int)), (.int .u8 (0 : Int)), (.int .u8 (0 : Int)), (.int .u8 (0 : Int)), (.int .u8 (0 : Int)), (.int .u8 (0 : Int)), (.int .u8 (0 : Int)), (.int .u8 (0 : Int)), (.int .u8 (0 : Int)), (.int .u8 (0 : Int)), (.int .u8 (0 : Int)), (.int .u8 (0 : Int)), (.int .u8 (0 : Int)), (.int .u8 (0 : Int)), (.int .u8 (0 : Int)), (.int .u8 (0 : Int)), (.int .u8 (0 : Int)), (.int .u8 (0 : Int)), (.int .u8 (0 : Int)), (.int .u8 (0 : Int)), (.int .u8 (0 : Int)), (.int .u8 (0 : Int)), (.int .u8 (0 : Int)), (.int .u8 (0 : Int)), (.int .u8 (0 : Int)), (.int .u8 (0 : Int)), (.int .u8 (0 : Int)), (.int .u8 (0 : Int)), (.int .u8 (0 : Int)), (.int .u8 (0 : Int)), (.int .u8 (0 : Int)), (.int .u8 (0 : Int)), (.int .u8 (0 : Int)), (.int .u8 (0 : Int)), (.int .u8 (0 : Int)), (.int .u8 (0 : Int)), (.int .u8 (0 : Int)), (.int .u8 (0 : Int)), (.int .u8 (0 : Int)), (.int .u8 (0 : Int)), (.int .u8 (0 : Int)), (.int .u8 (0 : Int)), (.int .u8 (0 : Int)), (.int .u8 (0 : Int)), (.int .u8 (0 : Int)), (.int .u8 (0 : Int)), (.int .u8 (0 : Int)), (.int .u8 (0 : Int)), (.int .u8 (0 : Int)), (.int .u8 (0 : Int)), (.int .u8 (0 : Int)), (.int .u8 (0 : Int)), (.int .u8 (0 : Int)), (.int .u8 (0 : Int)), (.int .u8 (0 : Int)), (.int .u8 (0 : Int)), (.int .u8 (0 : Int)), (.int .u8 (0 : Int)), (.int .u8 (0 : Int)), (.int .u8 (0 : Int)), (.int .u8 (0 : Int)), (.int .u8 (0 : Int)), (.int .u8 (0 : Int)), (.int .u8 (0 : Int)), (.int .u8 (0 : Int)), (.int .u8 (0 : Int)), (.int .u8 (0 : Int)), (.int .u8 (0 : Int)), (.int .u8 (0 : Int)), (.int .u8 (0 : Int)), (.int .u8 (0 : Int)), (.int .u8 (0 : Int)), (.int .u8 (0 : Int)), (.int .u8 (0 : Int)), (.int .u8 (0 : Int)), (.int .u8 (0 : Int)), (.int .u8 (0 : Int)), (.int .u8 (0 : Int)), (.int .u8 (0 : Int)), (.int .u8 (0 : Int)), (.int .u8 (0 : Int)), (.int .u8 (0 : Int)), (.int .u8 (0 : Int)), (.int .u8 (0 : Int)), (.int .u8 (0 : Int)), (.int .u8 (0 : Int)), (.int .u8 (0 : Int)), (.int .u8 (0 : Int)), (.int .u8 (0 : Int)), (.int .u8 (0 : Int)), (.int .u8 (0 : Int)), (.int .u8 (0 : Int)), (.int .u8 (0 : Int)), (.int .u8 (0 : Int)), (.int .u8 (0 : Int)), (.int .u8 (0 : Int)), (.int .u8 (0 : Int)), (.int .u8 (0 : Int)), (.int .u8 (0 : Int)), (.int .u8 (0 : Int)), (.int .u8 (0 : Int)), (.int .u8 (0 : Int)), (.int .u8 (0 : Int)), (.int .u8 (0 : Int)), (.int .u8 (0 : Int)), (.int .u8 (0 : Int)), (.int .u8 (0 : Int)), (.int .u8 (0 : Int)), (.int .u8 (0 : Int)), (.int .u8 (0 : Int)), (.int .u8 (0 : Int)), (.int .u8 (0 : Int)), (.int .u8 (0 : Int)), (.int .u8 (0 : Int)), (.int .u8 (0 : Int)), (.int .u8 (0 : Int)), (.int .u8 (0 : Int)), (.int .u8 (0 : Int)), (.int .u8 (0 : Int)), (.int .u8 (0 : Int)), (.int .u8 (0 : Int)), (.int .u8 (0 : Int)), (.int .u8 (0 : Int)), (.int .u8 (0 : Int)), (.int .u8 (0 : Int)), (.int .u8 (0 : Int)), (.int .u8 (0 : Int)), (.int .u8 (0 : Int)), (.int .u8 (0 : Int)), (.int .u8 (0 : Int)), (.int .u8 (0 : Int)), (.int .u8 (0 : Int)), (.int .u8 (0 : Int)), (.int .u8 (0 : Int)), (.int .u8 (0 : Int)), (.int .u8 (0 : Int)), (.int .u8 (0 : Int)), (.int .u8 (0 : Int)), (.int .u8 (0 : Int)), (.int .u8 (0 : Int)), (.int .u8 (0 : Int)), (.int .u8 (0 : Int)), (.int .u8 (0 : Int)), (.int .u8 (0 : Int)), (.int .u8 (0 : Int)), (.int .u8 (0 : Int)), (.int .u8 (0 : Int)), (.int .u8 (0 : Int)), (.int .u8 (0 : Int)), (.int .u8 (0 : Int)), (.int .u8 (0 : Int)), (.int .u8 (0 : Int)), (.int .u8 (0 : Int)), (.int .u8 (0 : Int)), (.int .u8 (0 : Int)), (.int .u8 (0 : Int)), (.int .u8 (0 : Int)), (.int .u8 (0 : Int)), (.int .u8 (0 : Int)), (.int .u8 (0 : Int)), (.int .u8 (0 : Int)), (.int .u8 (0 : Int)), (.int .u8 (0 : Int)), (.int .u8 (0 : Int)), (.int .u8 (0 : Int)), (.int .u8 (0 : Int)), (.int .u8 (0 : Int)), (.int .u8 (0 : Int)), (.int .u8 (0 : Int)), (.int .u8 (0 : Int)), (.int .u8 (0 : Int)), (.int .u8 (0 : Int)), (.int .u8 (0 : Int)), (.int .u8 (0 : Int)), (.int .u8 (0 : Int)), (.int .u8 (0 : Int)), (.int .u8 (0 : Int)), (.int .u8 (0 : Int)), (.int .u8 (0 : Int)), (.int .u8 (0 : Int)), (.int .u8 (0 : Int)), (.int .u8 (0 : Int)), (.int .u8 (0 : Int)), (.int .u8 (0 : Int)), (.int .u8 (0 : Int)), (.int .u8 (0 : Int)), (.int .u8 (0 : Int)), (.int .u8 (0 : Int)), (.int .u8 (0 : Int)), (.int .i64 (0 : Int)), (.int .i64 (0 : Int)), (.int .i64 (0 : Int)), (.int .i64 (0 : Int)), (.int .i64 (0 : Int)), (.int .i64 (0 : Int)), (.int .i64 (0 : Int)), (.int .i64 (0 : Int)), (.int .i64 (0 : Int)), (.int .i64 (0 : Int)), (.int .i64 (0 : Int)), (.int .i64 (0 : Int)), (.int .i64 (0 : Int)), (.int .i64 (0 : Int)), (.int .i64 (0 : Int)), (.int .i64 (0 : Int)), (.int .i64 (0 : Int)), (.int .i64 (0 : Int)), (.int .i64 (0 : Int)), (.int .i64 (0 : Int)), (.int .i64 (0 : Int)), (.int .i64 (0 : Int)), (.int .i64 (0 : Int)), (.int .i64 (0 : Int)), (.int .i64 (0 : Int)), (.int .i64 (0 : Int)), (.int .i64 (0 : Int)), (.int .i64 (0 : Int)), (.int .i64 (0 : Int)), (.int .i64 (0 : Int)), (.int .i64 (0 : Int)), (.int .i64 (0 : Int)), (.int .i64 (0 : Int)), (.int .i64 (0 : Int)), (.int .i64 (0 : Int)), (.int .i64 (0 : Int)), (.int .i64 (0 : Int)), (.int .i64 (0 : Int)), (.int .i64 (0 : Int)), (.int .i64 (0 : Int)), (.int .i64 (0 : Int)), (.int .i64 (0 : Int)), (.int .i64 (0 : Int)), (.int .i64 (0 : Int)), (.int .i64 (0 : Int)), (.int .i64 (0 : Int)), (.int .i64 (0 : Int)), (.int .i64 (0 : Int)), (.int .i64 (0 : Int)), (.int .i64 (0 : Int)), (.int .i64 (0 : Int)), (.int .i64 (0 : Int)), (.int .i64 (0 : Int)), (.int .i64 (0 : Int)), (.int .i64 (0 : Int)), (.int .i64 (0 : Int)), (.int .i64 (0 : Int)), (.int .i64 (0 : Int)), (.int .i64 (0 : Int)), (.int .i64 (0 : Int)), (.int .i64 (0 : Int)), (.int .i64 (0 : Int)), (.int .i64 (0 : Int)), (.int .i64 (0 : Int)), (.int .i64 (0 : Int)), (.int .i64 (0 : Int)), (.int .i64 (0 : Int)), (.int .i64 (0 : Int)), (.int .i64 (0 : Int)), (.int .i64 (0 : Int)), (.int .i64 (0 : Int)), (.int .i64 (0 : Int)), (.int .i64 (0 : Int)), (.int .i64 (0 : Int)), (.int .i64 (0 : Int)), (.int .i64 (0 : Int)), (.int .i64 (0 : Int)), (.int .i64 (0 : Int)), (.int .i64 (0 : Int)), (.int .i64 (0 : Int)), (.int .i64 (0 : Int)), (.int .i64 (0 : Int)), (.int .i64 (0 : Int)), (.int .i64 (0 : Int)), (.int .i64 (0 : Int)), (.int .i64 (0 : Int)), (.int .i64 (0 : Int)), (.int .i64 (0 : Int)), (.int .i64 (0 : Int)), (.int .i64 (0 : Int)), (.int .i64 (0 : Int)), (.int .i64 (0 : Int)), (.int .i64 (0 : Int)), (.int .i64 (0 : Int)), (.int .i64 (0 : Int)), (.int .i64 (0 : Int)), (.int .i64 (0 : Int)), (.int .i64 (0 : Int)), (.int .i64 (0 : Int)), (.int .i64 (0 : Int)), (.int .i64 (0 : Int)), (.int .i64 (0 : Int)), (.int .i64 (0 : Int)), (.int .i64 (0 : Int)), (.int .i64 (0 : Int)), (.int .i64 (0 : Int)), (.int .i64 (0 : Int)), (.int .i64 (0 : Int)), (.int .i64 (0 : Int)), (.int .i64 (0 : Int)), (.int .i64 (0 : Int)), (.int .i64 (0 : Int)), (.int .i64 (0 : Int)), (.int .i64 (0 : Int)), (.int .i64 (0 : Int)), (.int .i64 (0 : Int)), (.int .i64 (0 : Int)), (.int .i64 (0 : Int)), (.int .i64 (0 : Int)), (.int .i64 (0 : Int)), (.int .i64 (0 : Int)), (.int .i64 (0 : Int)), (.int .i64 (0 : Int)), (.int .i64 (0 : Int)), (.int .i64 (0 : Int)), (.int .i64 (0 : Int)), (.int .i64 (0 : Int)), (.int .i64 (0 : Int)), (.int .i64 (0 : Int)), (.int .i64 (0 : Int)), (.int .i64 (0 : Int)), (.int .i64 (0 : Int)), (.int .i64 (0 : Int)), (.int .i64 (0 : Int)), (.int .i64 (0 : Int)), (.int .i64 (0 : Int)), (.int .i64 (0 : Int)), (.int .i64 (0 : Int)), (.int .i64 (0 : Int)), (.int .i64 (0 : Int)), (.int .i64 (0 : Int)), (.int .i64 (0 : Int)), (.int .i64 (0 : Int)), (.int .i64 (0 : Int)), (.int .i64 (0 : Int)), (.int .i64 (0 : Int)), (.int .i64 (0 : Int)), (.int .i64 (0 : Int)), (.int .i64 (0 : Int)), (.int .i64 (0 : Int)), (.int .i64 (0 : Int)), (.int .i64 (0 : Int)), (.int .i64 (0 : Int)), (.int .i64 (0 : Int)), (.int .i64 (0 : Int)), (.int .i64 (0 : Int)), (.int .i64 (0 : Int)), (.int .i64 (0 : Int)), (.int .i64 (0 : Int)), (.int .i64 (0 : Int)), (.int .i64 (0 : Int)), (.int .i64 (0 : Int)), (.int .i64 (0 : Int)), (.int .i64 (0 : Int)), (.int .i64 (0 : Int)), (.int .i64 (0 : Int)), (.int .i64 (0 : Int)), (.int .i64 (0 : Int)), (.int .i64 (0 : Int)), (.int .i64 (0 : Int)), (.int .i64 (0 : Int)), (.int .i64 (0 : Int)), (.int .i64 (0 : Int)), (.int .i64 (0 : Int)), (.int .i64 (0 : Int)), (.int .i64 (0 : Int)), (.int .i64 (0 : Int)), (.int .i64 (0 : Int)), (.int .i64 (0 : Int)), (.int .i64 (0 : Int)), (.int .i64 (0 : Int)), (.int .i64 (0 : Int)), (.int .i64 (0 : Int)), (.int .i64 (0 : Int)), (.int .i64 (0 : Int)), (.int .i64 (0 : Int)), (.int .i64 (0 : Int)), (.int .i64 (0 : Int)), (.int .i64 (0 : Int)), (.int .i64 (0 : Int)), (.int .i64 (0 : Int)), (.int .i64 (0 : Int)), (.int .i64 (0 : Int)), (.int .i64 (0 : Int)), (.int .i64 (0 : Int)), (.int .i64 (0 : Int)), (.int .i64 (0 : Int)), (.int .i64 (0 : Int)), (.int .i64 (0 : Int)), (.int .i64 (0 : Int)), (.int .i64 (0 : Int)), (.int .i64 (0 : Int)), (.int .i64 (0 : Int)), (.int .i64 (0 : Int)), (.int .i64 (0 : Int)), (.int .i64 (0 : Int)), (.int .i64 (0 : Int)), (.int .i64 (0 : Int)), (.int .i64 (0 : Int)), (.int .i64 (0 : Int)), (.int .i64 (0 : Int)), (.int .i64 (0 : Int)), (.int .i64 (0 : Int)), (.int .i64 (0 : Int)), (.int .i64 (0 : Int)), (.int .i64 (0 : Int)), (.int .i64 (0 : Int)), (.int .i64 (0 : Int)), (.int .i64 (0 : Int)), (.int .i64 (0 : Int)), (.int .i64 (0 : Int)), (.int .i64 (0 : Int)), (.int .i64 (0 : Int)), (.int .i64 (0 : Int)), (.int .i64 (0 : Int)), (.int .i64 (0 : Int)), (.int .i64 (0 : Int)), (.int .i64 (0 : Int)), (.int .i64 (0 : Int)), (.int .i64 (0 : Int)), (.int .i64 (0 : Int)), (.int .i64 (0 : Int)), (.int .i64 (0 : Int)), (.int .i64 (0 : Int)), (.int .i64 (0 : Int)), (.int .i64 (0 : Int)), (.int .i64 (0 : Int)), (.int .i64 (0 : Int)), (.int .i64 (0 : Int)), (.int .i64 (0 : Int)), (.int .i64 (0 : Int)), (.int .i64 (0 : Int)), (.int .i64 (0 : Int)), (.int .i64 (0 : Int)), (.int .i64 (0 : Int)), (.int .i64 (0 : Int)), (.int .i64 (0 : Int)), (.int .i64 (0 : Int)), (.int .i64 (0 : Int)), (.int .i64 (0 : Int)), (.int .i64 (0 : Int)), (.int .i64 (0 : Int)), (.int .i64 (0 : Int)), (.int .i64 (0 : Int)), (.int .i64 (0 : Int)), (.int .i64 (0 : Int))] 125 w (fun m0 w1 =>
 (lp (σ := (Int × Int)) (fun _ k2 s3 w4 =>
  (br (decide (s3.2 < (255 : Int)))
    (dr w4 (fun w5 =>
   (ixr ⟨m0, 0, none⟩ 510 s3.2 1 (fun a6 =>
    (st1 a6 (.int .u8 (IntKind.wrap .u8 s3.1)) w5 (fun w7 =>
     (ixr ⟨m0, 0, none⟩ 510 (IntKind.wrap .i64 (s3.2 + (255 : Int))) 1 (fun a8 =>
      (st1 a8 (.int .u8 (IntKind.wrap .u8 s3.1)) w7 (fun w9 =>
       (ixr (Addr.add ⟨m0, 0, none⟩ 510) 256 s3.1 1 (fun a10 =>
        (st1 a10 (.int .i64 s3.2) w9 (fun w11 =>
         (((0 : Int) ≤ (1 : Int)) ∧
          (((0 : Int) ≤ (8 : Int)) ∧
          (br
           (decide ((Int.fdiv (IntKind.wrap .i64 (s3.1 * ((2 : Int) ^ (Min.min (Int.toNat (1 : Int)) 64)))) ((2 : Int) ^ (Min.min (Int.toNat (8 : Int)) 64))) > (0 : Int)))
           (k2 ((IntKind.wrap .i64 ((BitVec.toNat ((BitVec.ofInt 64 (IntKind.wrap .i64 (s3.1 * ((2 : Int) ^ (Min.min (Int.toNat (1 : Int)) 64))))) ^^^ (BitVec.ofInt 64 (285 : Int)))) : Int)), (IntKind.wrap .i64 (s3.2 + (1 : Int)))) w11)
           (k2 ((IntKind.wrap .i64 (s3.1 * ((2 : Int) ^ (Min.min (Int.toNat (1 : Int)) 64)))), (IntKind.wrap .i64 (s3.2 + (1 : Int)))) w11)))))))))))))))))) (R (.returned (.pointer (some ⟨m0, 0, none⟩))) w4))) ((1 : Int), (0 : Int)) w1)))

def field_New_an : Ann := (.seq .leaf (.seq .leaf (.seq .leaf (.seq (.seq .leaf (.block (.loop (.seq .leaf (.seq (.cond .leaf .leaf) (.seq (.block (.seq .leaf (.seq (.plan [.take 0, .take 1, .take 2, .take 3, .take 4, .take 5, .take 6, .take 7, .take 8, .take 9, .take 10, .take 11, .take 13, .take 14, .eff 12, .take 15, .eff 16]) (.seq .leaf (.seq .leaf (.seq .leaf (.cond .leaf .leaf))))))) .leaf))) [2, 3, 6, 7, 8, 9, 10, 11, 12, 13, 14, 15, 16, 17, 18, 19, 20, 21, 22, 23, 24, 25, 26, 27, 28, 29, 30, 31, 32, 33, 34, 35, 36, 37] [(2, (.int .i64)), (6, (.int .i64))]))) (.seq .leaf .leaf)))))

set_option maxRecDepth 100000 in
theorem field_New_ok (R : Ending → World → Prop) (w : World) (h : field_New R w) : Cs Try.prog 26 (#[] : Array Value) w R :=
  fn_sound (ty := []) (ann := field_New_an) (N := 39) (by kernel_rfl) (by kernel_rfl) Try.func26 rfl (by kernel_rfl) (by show 0 ≤ 39; decide) (by kernel_rfl)
    (Eq.mpr (show cdA Try.prog [] field_New_an _ _ _ w = field_New R w by kernel_rfl) h)

/- "(*girandole/shelf.Shelf).Missing" (27) -/
set_option maxRecDepth 100000 in
def shelf_Shelf_Missing (x0 : Option Addr) (x1 : Int) (R : Ending → World → Prop) (w : World) : Prop :=
  (cl Try.prog 58 #[(.pointer x0), (.int .u32 x1)] w (fun v0 w1 =>
 (∃ (p2 : (Option Addr)), ((v0 = (.pointer p2)) ∧
  (cl Try.prog 59 #[(.pointer p2)] w1 (fun v3 w4 =>
  (∃ (n5 : Int), ((v3 = (.int .i64 n5)) ∧ (R (.returned (.tuple #[(.int .i64 n5), (.bool (!(Option.isNone p2)))])) w4)))) (fun x6 w7 => (R (.panicked x6) w7)))))) (fun x8 w9 => (R (.panicked x8) w9)))

def shelf_Shelf_Missing_an : Ann := (.seq .leaf (.seq .leaf (.seq .leaf .leaf)))

set_option maxRecDepth 100000 in
theorem shelf_Shelf_Missing_ok (x0 : Option Addr) (x1 : Int) (R : Ending → World → Prop) (w : World) (h : shelf_Shelf_Missing x0 x1 R w) : Cs Try.prog 27 (#[(.pointer x0), (.int .u32 x1)] : Array Value) w R :=
  fn_sound (ty := []) (ann := shelf_Shelf_Missing_an) (N := 14) (by kernel_rfl) (by kernel_rfl) Try.func27 rfl (by kernel_rfl) (by show 2 ≤ 14; decide) (by kernel_rfl)
    (Eq.mpr (show cdA Try.prog [] shelf_Shelf_Missing_an _ _ _ w = shelf_Shelf_Missing x0 x1 R w by kernel_rfl) h)

/- "(*girandole/shelf.Shelf).IDs" (28) -/
set_option maxRecDepth 100000 in
def shelf_Shelf_IDs (x0 : Option Addr) (R : Ending → World → Prop) (w : World) : Prop :=
  (br (Option.isNone x0) (R (.returned (.slice none 0 0)) w)
  (nc x0 (fun a0 =>
 (∃ (p1 : (Option Nat)), (((World.cell? w (Addr.add a0 4)) = (some (.map p1))) ∧
  (cl Try.prog 60 #[(.map p1)] w (fun v2 w3 =>
  (∃ (v4 : Value), ((v2 = v4) ∧
   (cl Try.prog 44 #[v4] w3 (fun v5 w6 =>
   (∃ (p7 : (Option Addr)) (m8 : Nat) (m9 : Nat), ((v5 = (.slice p7 m8 m9)) ∧ (R (.returned (.slice p7 m8 m9)) w6)))) (fun x10 w11 => (R (.panicked x10) w11)))))) (fun x12 w13 => (R (.panicked x12) w13))))))))

def shelf_Shelf_IDs_an : Ann := (.seq .leaf (.seq (.seq .leaf (.cond (.seq .leaf .leaf) .leaf)) (.seq .leaf .leaf)))

set_option maxRecDepth 100000 in
theorem shelf_Shelf_IDs_ok (x0 : Option Addr) (R : Ending → World → Prop) (w : World) (h : shelf_Shelf_IDs x0 R w) : Cs Try.prog 28 (#[(.pointer x0)] : Array Value) w R :=
  fn_sound (ty := []) (ann := shelf_Shelf_IDs_an) (N := 11) (by kernel_rfl) (by kernel_rfl) Try.func28 rfl (by kernel_rfl) (by show 1 ≤ 11; decide) (by kernel_rfl)
    (Eq.mpr (show cdA Try.prog [] shelf_Shelf_IDs_an _ _ _ w = shelf_Shelf_IDs x0 R w by kernel_rfl) h)

/- "(*girandole/shelf.Shelf).Add" (29) -/
set_option maxRecDepth 100000 in
def shelf_Shelf_Add (x0 : Option Addr) (x1_0 : Int) (x1_1 : Int) (x1_2 : Option Addr) (x1_2l x1_2c : Nat) (x1_3 : Int) (x1_4 : Int) (x1_5 : Int) (x2 : Int) (x3 : Int) (x4 : Option Addr) (x4l x4c : Nat) (R : Ending → World → Prop) (w : World) : Prop :=
  (al #[(.int .u32 x1_0), (.int .i64 x1_1), (.slice x1_2 x1_2l x1_2c), (.int .i64 x1_3), (.int .i64 x1_4), (.int .i64 x1_5)] 31 w (fun m0 w1 =>
 (br (Option.isNone x0)
   (R (.returned (.tuple #[(.bool Bool.false), (.slice none 0 0)])) w1)
   (dr w1 (fun w2 =>
  (nc x0 (fun a3 =>
   (∃ (p4 : (Option Nat)), (((World.cell? w2 (Addr.add a3 4)) = (some (.map p4))) ∧
    (∃ (n5 : Int), (((World.cell? w2 ⟨m0, 0, none⟩) = (some (.int .u32 n5))) ∧
    (mrd Try.prog (Instr.lookup 119 (.map p4) (.int .u32 n5) Bool.true) p4 w2 (fun v6 x7 =>
    (∃ (p8 : (Option Addr)) (n9 : Int) (b10 : Bool), ((v6 = (.tuple #[(.agg #[(.pointer p8), (.int .i64 n9)]), (.bool b10)])) ∧
     (al (zc Try.prog 131) 131 w2 (fun m11 w12 =>
     ((hold [x7, (.cell ⟨m0, 0, none⟩ (.int .u32 n5)), (.cell (Addr.add a3 4) (.map p4))] w12) ∧
      (stN ⟨m11, 0, none⟩ [(.pointer p8), (.int .i64 n9)] w12 (fun w13 =>
      (br b10
        (∃ (p14 : (Option Addr)), (((World.cell? w13 ⟨m11, 0, none⟩) = (some (.pointer p14))) ∧
       (cl Try.prog 61 #[(.pointer p14), (.int .i64 x3), (.slice x4 x4l x4c)] w13 (fun v15 w16 =>
       (∃ (b17 : Bool), ((v15 = (.bool b17)) ∧ (R (.returned (.tuple #[(.bool b17), (.slice none 0 0)])) w16)))) (fun x18 w19 => (R (.panicked x18) w19)))))
        (dr w13 (fun w20 =>
       (nc x0 (fun a21 =>
        (∃ (p22 : (Option Addr)), (((World.cell? w20 a21) = (some (.pointer p22))) ∧
         (∃ (n23 : Int), (((World.cell? w20 ⟨m0, 0, none⟩) = (some (.int .u32 n23))) ∧
         (∃ (n24 : Int), (((World.cell? w20 (Addr.add ⟨m0, 0, none⟩ 3)) = (some (.int .i64 n24))) ∧
         (nc x0 (fun a25 =>
         (∃ (n26 : Int), (((World.cell? w20 (Addr.add a25 3)) = (some (.int .i64 n26))) ∧
          (cl Try.prog 62 #[(.pointer p22), (.int .u32 n23), (.int .i64 n24), (.int .i64 n26)] w20 (fun v27 w28 =>
          (∃ (p29 : (Option Addr)) (b30 : Bool), ((v27 = (.tuple #[(.pointer p29), (.bool b30)])) ∧
           (jn (σ := PUnit) (fun _ _ w31 =>
           (dr w31 (fun w32 =>
            (∃ (n33 : Int), (((World.cell? w32 ⟨m0, 0, none⟩) = (some (.int .u32 n33))) ∧
             (cl Try.prog 64 #[(.pointer p29)] w32 (fun v34 w35 =>
             (∃ (n36 : Int), ((v34 = (.int .i64 n36)) ∧
              ((hold [(.cell ⟨m0, 0, none⟩ (.int .u32 n33))] w35) ∧
              (cl Try.prog 63 #[(.pointer x0), (.agg #[(.int .u32 n33), (.int .i64 x2), (.int .i64 n36)])] w35 (fun v37 w38 =>
              (∃ (p39 : (Option Addr)) (m40 : Nat) (m41 : Nat) (b42 : Bool), ((v37 = (.tuple #[(.slice p39 m40 m41), (.bool b42)])) ∧
               ((hold [(.cell ⟨m0, 0, none⟩ (.int .u32 n33))] w38) ∧
               (br (!b42)
                (R (.returned (.tuple #[(.bool Bool.false), (.slice none 0 0)])) w38)
                (lp (σ := Int) (fun _ k43 n44 w45 =>
               (br (decide (n44 < (m40 : Int)))
                 (ixa p39 m40 n44 1 (fun a46 =>
                (∃ (n47 : Int), (((World.cell? w45 a46) = (some (.int .u32 n47))) ∧
                 (nc x0 (fun a48 =>
                 (∃ (p49 : (Option Nat)), (((World.cell? w45 (Addr.add a48 4)) = (some (.map p49))) ∧
                  (rnV Try.prog (Builtin.delete_ #[119, 23] 0 #[(.map p49), (.int .u32 n47)]) w45 (fun _ w50 => (k43 (IntKind.wrap .i64 (n44 + (1 : Int))) w50)))))))))))
                 (dr w45 (fun w51 =>
                (nc x0 (fun a52 =>
                 (∃ (p53 : (Option Nat)), (((World.cell? w51 (Addr.add a52 4)) = (some (.map p53))) ∧
                  (∃ (n54 : Int), (((World.cell? w51 ⟨m0, 0, none⟩) = (some (.int .u32 n54))) ∧
                  (rnU Try.prog (Instr.mapUpdate 119 (.map p53) (.int .u32 n54) (.agg #[(.pointer p29), (.int .i64 x2)])) w51 (fun w55 => (R (.returned (.tuple #[(.bool Bool.true), (.slice p39 m40 m41)])) w55))))))))))))) (0 : Int) w38)))))) (fun _ _ => False)))))) (fun _ _ => False))))))) (fun k56 =>
           (br (!b30)
             (R (.returned (.tuple #[(.bool Bool.false), (.slice none 0 0)])) w28)
             (cl Try.prog 61 #[(.pointer p29), (.int .i64 x3), (.slice x4 x4l x4c)] w28 (fun v57 w58 =>
            (∃ (b59 : Bool), ((v57 = (.bool b59)) ∧
             (br (!b59)
              (R (.returned (.tuple #[(.bool Bool.false), (.slice none 0 0)])) w58) (k56 () w58))))) (fun x60 w61 => (R (.panicked x60) w61))))))))) (fun _ _ => False)))))))))))))))))))))))))))))))))))))

def shelf_Shelf_Add_an : Ann := (.seq .leaf (.seq (.seq .leaf (.cond (.seq .leaf .leaf) .leaf)) (.seq (.seq (.plan [.take 0, .take 1, .take 2, .take 3, .take 4, .take 5, .take 6, .take 7, .take 8, .take 9, .eff 10, .eff 11, .take 12]) (.seq .leaf (.cond (.seq .leaf .leaf) .leaf))) (.seq (.plan [.take 0, .take 1, .take 2, .take 3, .take 4, .take 5, .take 6, .take 7, .take 8, .take 9, .take 10, .take 11, .eff 12, .take 13, .take 14, .take 15, .take 16, .take 17]) (.join (.seq .leaf (.cond (.seq .leaf .leaf) .leaf)) [10, 11, 52, 53, 54, 55, 56, 57, 58, 59, 60] [] (.seq (.plan [.take 0, .take 1, .take 2, .take 3, .take 4, .eff 5, .take 6, .eff 7, .take 8, .take 9, .take 10, .take 11, .take 12]) (.seq (.seq .leaf (.cond (.seq .leaf .leaf) .leaf)) (.seq (.seq .leaf (.block (.loop (.seq .leaf (.seq (.cond .leaf .leaf) (.seq (.block (.seq .leaf .leaf)) .leaf))) [17, 76, 77, 78, 79, 80, 81, 82, 83, 84, 85] [(76, (.int .i64))]))) (.seq (.plan [.take 0, .take 1, .take 2, .take 3, .take 4, .take 5, .take 6, .take 7, .take 8, .eff 9]) (.seq .leaf .leaf))))))))))

set_option maxRecDepth 100000 in
theorem shelf_Shelf_Add_ok (x0 : Option Addr) (x1_0 : Int) (x1_1 : Int) (x1_2 : Option Addr) (x1_2l x1_2c : Nat) (x1_3 : Int) (x1_4 : Int) (x1_5 : Int) (x2 : Int) (x3 : Int) (x4 : Option Addr) (x4l x4c : Nat) (R : Ending → World → Prop) (w : World) (h : shelf_Shelf_Add x0 x1_0 x1_1 x1_2 x1_2l x1_2c x1_3 x1_4 x1_5 x2 x3 x4 x4l x4c R w) : Cs Try.prog 29 (#[(.pointer x0), (.agg #[(.int .u32 x1_0), (.int .i64 x1_1), (.slice x1_2 x1_2l x1_2c), (.int .i64 x1_3), (.int .i64 x1_4), (.int .i64 x1_5)]), (.int .i64 x2), (.int .i64 x3), (.slice x4 x4l x4c)] : Array Value) w R :=
  fn_sound (ty := []) (ann := shelf_Shelf_Add_an) (N := 96) (by kernel_rfl) (by kernel_rfl) Try.func29 rfl (by kernel_rfl) (by show 5 ≤ 96; decide) (by kernel_rfl)
    (Eq.mpr (show cdA Try.prog [] shelf_Shelf_Add_an _ _ _ w = shelf_Shelf_Add x0 x1_0 x1_1 x1_2 x1_2l x1_2c x1_3 x1_4 x1_5 x2 x3 x4 x4l x4c R w by kernel_rfl) h)

/- "(*girandole/shelf.Shelf).Bytes" (30) -/
set_option maxRecDepth 100000 in
def shelf_Shelf_Bytes (x0 : Option Addr) (R : Ending → World → Prop) (w : World) : Prop :=
  (br (Option.isNone x0) (R (.returned (.int .i64 (0 : Int))) w)
  (nc x0 (fun a0 =>
 (∃ (p1 : (Option Nat)), (((World.cell? w (Addr.add a0 4)) = (some (.map p1))) ∧
  (rnV Try.prog (Instr.range 119 (.map p1)) w (fun v2 w3 =>
  (∃ (p4 : (Option Addr)), ((v2 = (.pointer p4)) ∧
   (lp (σ := Int) (fun _ k5 n6 w7 =>
   (nxt Try.prog (Instr.next (.pointer p4) Bool.false 0) w7 (fun w8 => (R (.returned (.int .i64 n6)) w8)) (fun _ _ w9 =>
    (ent Try.prog (Instr.entry (.pointer p4)) w9 (fun _ v10 w11 =>
     (∃ (p12 : (Option Addr)) (n13 : Int), ((v10 = (.agg #[(.pointer p12), (.int .i64 n13)])) ∧
      (al (zc Try.prog 131) 131 w11 (fun m14 w15 =>
      (stN ⟨m14, 0, none⟩ [(.pointer p12), (.int .i64 n13)] w15 (fun w16 =>
       (∃ (p17 : (Option Addr)), (((World.cell? w16 ⟨m14, 0, none⟩) = (some (.pointer p17))) ∧
        (cl Try.prog 64 #[(.pointer p17)] w16 (fun v18 w19 => (∃ (n20 : Int), ((v18 = (.int .i64 n20)) ∧ (k5 (IntKind.wrap .i64 (n6 + n20)) w19)))) (fun x21 w22 => (R (.panicked x21) w22)))))))))))))))) (0 : Int) w3))))))))))

def shelf_Shelf_Bytes_an : Ann := (.seq .leaf (.seq (.seq .leaf (.cond (.seq .leaf .leaf) .leaf)) (.seq (.seq .leaf (.block (.loop (.seq .leaf (.seq (.cond .leaf .leaf) (.block (.seq .leaf .leaf)))) [2, 4, 12, 13, 14, 15, 16, 17, 18, 19, 20] [(2, (.int .i64))]))) (.seq .leaf .leaf))))

set_option maxRecDepth 100000 in
theorem shelf_Shelf_Bytes_ok (x0 : Option Addr) (R : Ending → World → Prop) (w : World) (h : shelf_Shelf_Bytes x0 R w) : Cs Try.prog 30 (#[(.pointer x0)] : Array Value) w R :=
  fn_sound (ty := [14]) (ann := shelf_Shelf_Bytes_an) (N := 22) (by kernel_rfl) (by kernel_rfl) Try.func30 rfl (by kernel_rfl) (by show 1 ≤ 22; decide) (by kernel_rfl)
    (Eq.mpr (show cdA Try.prog [14] shelf_Shelf_Bytes_an _ _ _ w = shelf_Shelf_Bytes x0 R w by kernel_rfl) h)

/- "girandole/girandolelaw24.same" (31) -/
set_option maxRecDepth 100000 in
def glaw24_same (x0 : Option Addr) (x0l _x0c : Nat) (x1 : Option Addr) (x1l _x1c : Nat) (R : Ending → World → Prop) (w : World) : Prop :=
  (br ((x0l : Int) != (x1l : Int)) (R (.returned (.bool Bool.false)) w)
  (lp (σ := Int) (fun _ k0 n1 w2 =>
 (br (decide (n1 < (x0l : Int)))
   (dr w2 (fun w3 =>
  (ixa x0 x0l n1 1 (fun a4 =>
   (∃ (n5 : Int), (((World.cell? w3 a4) = (some (.int .u32 n5))) ∧
    (ixa x1 x1l n1 1 (fun a6 =>
    (∃ (n7 : Int), (((World.cell? w3 a6) = (some (.int .u32 n7))) ∧
     (br (n5 != n7) (R (.returned (.bool Bool.false)) w3) (k0 (IntKind.wrap .i64 (n1 + (1 : Int))) w3)))))))))))) (R (.returned (.bool Bool.true)) w2))) (0 : Int) w))

def glaw24_same_an : Ann := (.seq .leaf (.seq (.seq .leaf (.cond (.seq .leaf .leaf) .leaf)) (.seq (.seq .leaf (.block (.loop (.seq (.seq .leaf (.cond .leaf .leaf)) (.seq (.block (.seq (.plan [.take 0, .take 1, .take 2, .take 3, .take 4, .take 5, .take 6, .take 7, .take 8]) (.cond (.seq .leaf .leaf) .leaf))) .leaf)) [4, 5, 11, 12, 13, 14, 15, 16, 17, 18, 19, 20, 21, 22, 23, 24, 25] [(5, (.int .i64))]))) (.seq .leaf .leaf))))

set_option maxRecDepth 100000 in
theorem glaw24_same_ok (x0 : Option Addr) (x0l x0c : Nat) (x1 : Option Addr) (x1l x1c : Nat) (R : Ending → World → Prop) (w : World) (h : glaw24_same x0 x0l x0c x1 x1l x1c R w) : Cs Try.prog 31 (#[(.slice x0 x0l x0c), (.slice x1 x1l x1c)] : Array Value) w R :=
  fn_sound (ty := []) (ann := glaw24_same_an) (N := 26) (by kernel_rfl) (by kernel_rfl) Try.func31 rfl (by kernel_rfl) (by show 2 ≤ 26; decide) (by kernel_rfl)
    (Eq.mpr (show cdA Try.prog [] glaw24_same_an _ _ _ w = glaw24_same x0 x0l x0c x1 x1l x1c R w by kernel_rfl) h)

/- "girandole/girandoleref12.Worse" (32) -/
set_option maxRecDepth 100000 in
def gref12_Worse (x0_0 : Int) (x0_1 : Int) (x0_2 : Int) (x1_0 : Int) (x1_1 : Int) (x1_2 : Int) (R : Ending → World → Prop) (w : World) : Prop :=
  (al #[(.int .u32 x0_0), (.int .i64 x0_1), (.int .i64 x0_2)] 65 w (fun m0 w1 =>
 (al #[(.int .u32 x1_0), (.int .i64 x1_1), (.int .i64 x1_2)] 65 w1 (fun m2 w3 =>
  (∃ (n4 : Int), (((World.cell? w3 (Addr.add ⟨m0, 0, none⟩ 1)) = (some (.int .i64 n4))) ∧
   (∃ (n5 : Int), (((World.cell? w3 (Addr.add ⟨m2, 0, none⟩ 1)) = (some (.int .i64 n5))) ∧
   (br (decide (n4 > n5)) (R (.returned (.bool Bool.true)) w3)
    (∃ (n6 : Int), (((World.cell? w3 (Addr.add ⟨m0, 0, none⟩ 1)) = (some (.int .i64 n6))) ∧
   (∃ (n7 : Int), (((World.cell? w3 (Addr.add ⟨m2, 0, none⟩ 1)) = (some (.int .i64 n7))) ∧
   (br (n6 == n7)
    (∃ (n8 : Int), (((World.cell? w3 ⟨m0, 0, none⟩) = (some (.int .u32 n8))) ∧
   (∃ (n9 : Int), (((World.cell? w3 ⟨m2, 0, none⟩) = (some (.int .u32 n9))) ∧ (R (.returned (.bool (decide (n8 > n9)))) w3))))) (R (.returned (.bool Bool.false)) w3)))))))))))))))

def gref12_Worse_an : Ann := (.seq .leaf (.seq .leaf .leaf))

set_option maxRecDepth 100000 in
theorem gref12_Worse_ok (x0_0 : Int) (x0_1 : Int) (x0_2 : Int) (x1_0 : Int) (x1_1 : Int) (x1_2 : Int) (R : Ending → World → Prop) (w : World) (h : gref12_Worse x0_0 x0_1 x0_2 x1_0 x1_1 x1_2 R w) : Cs Try.prog 32 (#[(.agg #[(.int .u32 x0_0), (.int .i64 x0_1), (.int .i64 x0_2)]), (.agg #[(.int .u32 x1_0), (.int .i64 x1_1), (.int .i64 x1_2)])] : Array Value) w R :=
  fn_sound (ty := []) (ann := gref12_Worse_an) (N := 24) (by kernel_rfl) (by kernel_rfl) Try.func32 rfl (by kernel_rfl) (by show 2 ≤ 24; decide) (by kernel_rfl)
    (Eq.mpr (show cdA Try.prog [] gref12_Worse_an _ _ _ w = gref12_Worse x0_0 x0_1 x0_2 x1_0 x1_1 x1_2 R w by kernel_rfl) h)

/- "(*girandole/shelf.Shelf).Payload" (37) -/
set_option maxRecDepth 100000 in
def shelf_Shelf_Payload (x0 : Option Addr) (x1 : Int) (R : Ending → World → Prop) (w : World) : Prop :=
  (cl Try.prog 58 #[(.pointer x0), (.int .u32 x1)] w (fun v0 w1 =>
 (∃ (p2 : (Option Addr)), ((v0 = (.pointer p2)) ∧
  (cl Try.prog 68 #[(.pointer p2)] w1 (fun v3 w4 =>
  (∃ (p5 : (Option Addr)) (m6 : Nat) (m7 : Nat) (b8 : Bool), ((v3 = (.tuple #[(.slice p5 m6 m7), (.bool b8)])) ∧ (R (.returned (.tuple #[(.slice p5 m6 m7), (.bool b8)])) w4)))) (fun x9 w10 => (R (.panicked x9) w10)))))) (fun x11 w12 => (R (.panicked x11) w12)))

def shelf_Shelf_Payload_an : Ann := (.seq .leaf (.seq .leaf .leaf))

set_option maxRecDepth 100000 in
theorem shelf_Shelf_Payload_ok (x0 : Option Addr) (x1 : Int) (R : Ending → World → Prop) (w : World) (h : shelf_Shelf_Payload x0 x1 R w) : Cs Try.prog 37 (#[(.pointer x0), (.int .u32 x1)] : Array Value) w R :=
  fn_sound (ty := []) (ann := shelf_Shelf_Payload_an) (N := 12) (by kernel_rfl) (by kernel_rfl) Try.func37 rfl (by kernel_rfl) (by show 2 ≤ 12; decide) (by kernel_rfl)
    (Eq.mpr (show cdA Try.prog [] shelf_Shelf_Payload_an _ _ _ w = shelf_Shelf_Payload x0 x1 R w by kernel_rfl) h)

/- "(girandole/girandolelaw24.putter).of" (38) -/
set_option maxRecDepth 100000 in
def glaw24_putter_of (x0_0 : Option Addr) (x0_1 : Option Addr) (x0_1l x0_1c : Nat) (x1 : Int) (x2 : Int) (x3 : Int) (R : Ending → World → Prop) (w : World) : Prop :=
  (al #[(.pointer x0_0), (.slice x0_1 x0_1l x0_1c)] 81 w (fun m0 w1 =>
 (∃ (p2 : (Option Addr)), (((World.cell? w1 ⟨m0, 0, none⟩) = (some (.pointer p2))) ∧
  (∃ (p3 : (Option Addr)) (m4 : Nat) (m5 : Nat), (((World.cell? w1 (Addr.add ⟨m0, 0, none⟩ 1)) = (some (.slice p3 m4 m5))) ∧
  (cl Try.prog 29 #[(.pointer p2), (.agg #[(.int .u32 x1), (.int .i64 (0 : Int)), (.slice none 0 0), (.int .i64 x2), (.int .i64 (0 : Int)), (.int .i64 (0 : Int))]), (.int .i64 x3), (.int .i64 (0 : Int)), (.slice p3 m4 m5)] w1 (fun v6 w7 =>
  (∃ (b8 : Bool) (p9 : (Option Addr)) (m10 : Nat) (m11 : Nat), ((v6 = (.tuple #[(.bool b8), (.slice p9 m10 m11)])) ∧ (R (.returned (.bool b8)) w7)))) (fun x12 w13 => (R (.panicked x12) w13)))))))))

def glaw24_putter_of_an : Ann := (.seq .leaf (.seq .leaf (.seq .leaf .leaf)))

set_option maxRecDepth 100000 in
theorem glaw24_putter_of_ok (x0_0 : Option Addr) (x0_1 : Option Addr) (x0_1l x0_1c : Nat) (x1 : Int) (x2 : Int) (x3 : Int) (R : Ending → World → Prop) (w : World) (h : glaw24_putter_of x0_0 x0_1 x0_1l x0_1c x1 x2 x3 R w) : Cs Try.prog 38 (#[(.agg #[(.pointer x0_0), (.slice x0_1 x0_1l x0_1c)]), (.int .u32 x1), (.int .i64 x2), (.int .i64 x3)] : Array Value) w R :=
  fn_sound (ty := []) (ann := glaw24_putter_of_an) (N := 24) (by kernel_rfl) (by kernel_rfl) Try.func38 rfl (by kernel_rfl) (by show 4 ≤ 24; decide) (by kernel_rfl)
    (Eq.mpr (show cdA Try.prog [] glaw24_putter_of_an _ _ _ w = glaw24_putter_of x0_0 x0_1 x0_1l x0_1c x1 x2 x3 R w by kernel_rfl) h)

/- "(*girandole/shelf.Shelf).Rank" (39) -/
set_option maxRecDepth 100000 in
def shelf_Shelf_Rank (x0 : Option Addr) (x1 : Int) (x2 : Int) (R : Ending → World → Prop) (w : World) : Prop :=
  (cl Try.prog 58 #[(.pointer x0), (.int .u32 x1)] w (fun v0 w1 =>
 (∃ (p2 : (Option Addr)), ((v0 = (.pointer p2)) ∧
  (br (!(Option.isNone p2))
   (nc x0 (fun a3 =>
  (∃ (p4 : (Option Nat)), (((World.cell? w1 (Addr.add a3 4)) = (some (.map p4))) ∧
   (rnU Try.prog (Instr.mapUpdate 119 (.map p4) (.int .u32 x1) (.agg #[(.pointer p2), (.int .i64 x2)])) w1 (fun w5 => (R (.returned (.bool (!(Option.isNone p2)))) w5))))))) (R (.returned (.bool (!(Option.isNone p2)))) w1))))) (fun x6 w7 => (R (.panicked x6) w7)))

def shelf_Shelf_Rank_an : Ann := (.seq .leaf (.seq .leaf (.seq (.seq .leaf (.cond .leaf .leaf)) (.seq .leaf .leaf))))

set_option maxRecDepth 100000 in
theorem shelf_Shelf_Rank_ok (x0 : Option Addr) (x1 : Int) (x2 : Int) (R : Ending → World → Prop) (w : World) (h : shelf_Shelf_Rank x0 x1 x2 R w) : Cs Try.prog 39 (#[(.pointer x0), (.int .u32 x1), (.int .i64 x2)] : Array Value) w R :=
  fn_sound (ty := []) (ann := shelf_Shelf_Rank_an) (N := 23) (by kernel_rfl) (by kernel_rfl) Try.func39 rfl (by kernel_rfl) (by show 3 ≤ 23; decide) (by kernel_rfl)
    (Eq.mpr (show cdA Try.prog [] shelf_Shelf_Rank_an _ _ _ w = shelf_Shelf_Rank x0 x1 x2 R w by kernel_rfl) h)

/- "(*girandole/shelf.Shelf).Drop" (57) -/
set_option maxRecDepth 100000 in
def shelf_Shelf_Drop (x0 : Option Addr) (x1 : Int) (R : Ending → World → Prop) (w : World) : Prop :=
  (cl Try.prog 58 #[(.pointer x0), (.int .u32 x1)] w (fun v0 w1 =>
 (∃ (p2 : (Option Addr)), ((v0 = (.pointer p2)) ∧
  (br (!(Option.isNone p2))
   (nc x0 (fun a3 =>
  (∃ (p4 : (Option Nat)), (((World.cell? w1 (Addr.add a3 4)) = (some (.map p4))) ∧
   (rnV Try.prog (Builtin.delete_ #[119, 23] 0 #[(.map p4), (.int .u32 x1)]) w1 (fun _ w5 => (R (.returned (.bool (!(Option.isNone p2)))) w5))))))) (R (.returned (.bool (!(Option.isNone p2)))) w1))))) (fun x6 w7 => (R (.panicked x6) w7)))

def shelf_Shelf_Drop_an : Ann := (.seq .leaf (.seq .leaf (.seq (.seq .leaf (.cond .leaf .leaf)) (.seq .leaf .leaf))))

set_option maxRecDepth 100000 in
theorem shelf_Shelf_Drop_ok (x0 : Option Addr) (x1 : Int) (R : Ending → World → Prop) (w : World) (h : shelf_Shelf_Drop x0 x1 R w) : Cs Try.prog 57 (#[(.pointer x0), (.int .u32 x1)] : Array Value) w R :=
  fn_sound (ty := []) (ann := shelf_Shelf_Drop_an) (N := 17) (by kernel_rfl) (by kernel_rfl) Try.func57 rfl (by kernel_rfl) (by show 2 ≤ 17; decide) (by kernel_rfl)
    (Eq.mpr (show cdA Try.prog [] shelf_Shelf_Drop_an _ _ _ w = shelf_Shelf_Drop x0 x1 R w by kernel_rfl) h)

/- "(*girandole/shelf.Shelf).of" (58) -/
set_option maxRecDepth 100000 in
def shelf_Shelf_of (x0 : Option Addr) (x1 : Int) (R : Ending → World → Prop) (w : World) : Prop :=
  (br (Option.isNone x0) (R (.returned (.pointer none)) w)
  (nc x0 (fun a0 =>
 (∃ (p1 : (Option Nat)), (((World.cell? w (Addr.add a0 4)) = (some (.map p1))) ∧
  (mrd Try.prog (Instr.lookup 119 (.map p1) (.int .u32 x1) Bool.false) p1 w (fun v2 _ =>
  (∃ (p3 : (Option Addr)) (n4 : Int), ((v2 = (.agg #[(.pointer p3), (.int .i64 n4)])) ∧
   (pv Try.prog (Instr.field 131 (.agg #[(.pointer p3), (.int .i64 n4)]) 0) (fun v5 => (∃ (p6 : (Option Addr)), ((v5 = (.pointer p6)) ∧ (R (.returned (.pointer p6)) w))))))))))))))

def shelf_Shelf_of_an : Ann := (.seq .leaf (.seq (.seq .leaf (.cond (.seq .leaf .leaf) .leaf)) (.seq .leaf .leaf)))

set_option maxRecDepth 100000 in
theorem shelf_Shelf_of_ok (x0 : Option Addr) (x1 : Int) (R : Ending → World → Prop) (w : World) (h : shelf_Shelf_of x0 x1 R w) : Cs Try.prog 58 (#[(.pointer x0), (.int .u32 x1)] : Array Value) w R :=
  fn_sound (ty := []) (ann := shelf_Shelf_of_an) (N := 14) (by kernel_rfl) (by kernel_rfl) Try.func58 rfl (by kernel_rfl) (by show 2 ≤ 14; decide) (by kernel_rfl)
    (Eq.mpr (show cdA Try.prog [] shelf_Shelf_of_an _ _ _ w = shelf_Shelf_of x0 x1 R w by kernel_rfl) h)

/- "(*girandole/basin.Basin).Missing" (59) -/
set_option maxRecDepth 100000 in
def basin_Basin_Missing (x0 : Option Addr) (R : Ending → World → Prop) (w : World) : Prop :=
  (br (Option.isNone x0) (R (.returned (.int .i64 (0 : Int))) w)
  (dr w (fun w0 =>
 (nc x0 (fun a1 =>
  (∃ (n2 : Int), (((World.cell? w0 (Addr.add a1 2)) = (some (.int .i64 n2))) ∧
   (nc x0 (fun a3 =>
   (∃ (p4 : (Option Addr)), (((World.cell? w0 a3) = (some (.pointer p4))) ∧
    (cl Try.prog 79 #[(.pointer p4)] w0 (fun v5 w6 =>
    (∃ (n7 : Int), ((v5 = (.int .i64 n7)) ∧
     ((hold [(.cell (Addr.add a1 2) (.int .i64 n2))] w6) ∧ (R (.returned (.int .i64 (IntKind.wrap .i64 (n2 - n7)))) w6))))) (fun _ _ => False)))))))))))))

def basin_Basin_Missing_an : Ann := (.seq .leaf (.seq (.seq .leaf (.cond (.seq .leaf .leaf) .leaf)) (.seq (.plan [.take 0, .take 1, .take 2, .take 3, .take 4, .take 5, .take 6, .take 7, .eff 8, .take 9, .take 10]) .leaf)))

set_option maxRecDepth 100000 in
theorem basin_Basin_Missing_ok (x0 : Option Addr) (R : Ending → World → Prop) (w : World) (h : basin_Basin_Missing x0 R w) : Cs Try.prog 59 (#[(.pointer x0)] : Array Value) w R :=
  fn_sound (ty := []) (ann := basin_Basin_Missing_an) (N := 15) (by kernel_rfl) (by kernel_rfl) Try.func59 rfl (by kernel_rfl) (by show 1 ≤ 15; decide) (by kernel_rfl)
    (Eq.mpr (show cdA Try.prog [] basin_Basin_Missing_an _ _ _ w = basin_Basin_Missing x0 R w by kernel_rfl) h)

/- "maps.Keys[map[uint32]girandole/shelf.block,uint32,girandole/shelf.block]" (60) -/
set_option maxRecDepth 100000 in
def maps_Keys_map_uint32_shelf_block_uint32_shelf_block (x0 : Option Nat) (R : Ending → World → Prop) (w : World) : Prop :=
  (al #[(.map x0)] 119 w (fun m0 w1 => (R (.returned (.func (.func 80) #[] #[(.pointer (some ⟨m0, 0, none⟩))])) w1)))

def maps_Keys_map_uint32_shelf_block_uint32_shelf_block_an : Ann := (.seq .leaf (.seq .leaf .leaf))

set_option maxRecDepth 100000 in
theorem maps_Keys_map_uint32_shelf_block_uint32_shelf_block_ok (x0 : Option Nat) (R : Ending → World → Prop) (w : World) (h : maps_Keys_map_uint32_shelf_block_uint32_shelf_block x0 R w) : Cs Try.prog 60 (#[(.map x0)] : Array Value) w R :=
  fn_sound (ty := []) (ann := maps_Keys_map_uint32_shelf_block_uint32_shelf_block_an) (N := 4) (by kernel_rfl) (by kernel_rfl) Try.func60 rfl (by kernel_rfl) (by show 1 ≤ 4; decide) (by kernel_rfl)
    (Eq.mpr (show cdA Try.prog [] maps_Keys_map_uint32_shelf_block_uint32_shelf_block_an _ _ _ w = maps_Keys_map_uint32_shelf_block_uint32_shelf_block x0 R w by kernel_rfl) h)

/- "(*girandole/basin.Basin).Add" (61) -/
set_option maxRecDepth 100000 in
def basin_Basin_Add (x0 : Option Addr) (x1 : Int) (x2 : Option Addr) (x2l x2c : Nat) (R : Ending → World → Prop) (w : World) : Prop :=
  (br (Option.isNone x0) (R (.returned (.bool Bool.false)) w)
  (dr w (fun w0 =>
 (nc x0 (fun a1 =>
  (∃ (n2 : Int), (((World.cell? w0 (Addr.add a1 1)) = (some (.int .u32 n2))) ∧
   (nc x0 (fun a3 =>
   (∃ (n4 : Int), (((World.cell? w0 (Addr.add a3 2)) = (some (.int .i64 n4))) ∧
    (cl Try.prog 81 #[(.int .u32 n2), (.int .i64 x1), (.int .i64 n4)] w0 (fun v5 w6 =>
    (∃ (p7 : (Option Addr)) (m8 : Nat) (m9 : Nat) (b10 : Bool), ((v5 = (.tuple #[(.slice p7 m8 m9), (.bool b10)])) ∧
     (br b10
      (nc x0 (fun a11 =>
     (∃ (p12 : (Option Addr)), (((World.cell? w6 a11) = (some (.pointer p12))) ∧
      (cl Try.prog 82 #[(.pointer p12), (.slice p7 m8 m9), (.slice x2 x2l x2c)] w6 (fun v13 w14 => (∃ (b15 : Bool), ((v13 = (.bool b15)) ∧ (R (.returned (.bool b15)) w14)))) (fun x16 w17 => (R (.panicked x16) w17))))))) (R (.returned (.bool Bool.false)) w6))))) (fun _ _ => False)))))))))))))

def basin_Basin_Add_an : Ann := (.seq .leaf (.seq (.seq .leaf (.cond (.seq .leaf .leaf) .leaf)) (.seq (.plan [.take 0, .take 1, .take 2, .take 3, .take 4, .take 5, .take 6, .take 7, .take 8, .eff 9, .take 10, .take 11, .take 12, .take 13, .take 14]) (.seq .leaf .leaf))))

set_option maxRecDepth 100000 in
theorem basin_Basin_Add_ok (x0 : Option Addr) (x1 : Int) (x2 : Option Addr) (x2l x2c : Nat) (R : Ending → World → Prop) (w : World) (h : basin_Basin_Add x0 x1 x2 x2l x2c R w) : Cs Try.prog 61 (#[(.pointer x0), (.int .i64 x1), (.slice x2 x2l x2c)] : Array Value) w R :=
  fn_sound (ty := []) (ann := basin_Basin_Add_an) (N := 34) (by kernel_rfl) (by kernel_rfl) Try.func61 rfl (by kernel_rfl) (by show 3 ≤ 34; decide) (by kernel_rfl)
    (Eq.mpr (show cdA Try.prog [] basin_Basin_Add_an _ _ _ w = basin_Basin_Add x0 x1 x2 x2l x2c R w by kernel_rfl) h)

/- "girandole/basin.New" (62) -/
set_option maxRecDepth 100000 in
def basin_New (x0 : Option Addr) (x1 : Int) (x2 : Int) (x3 : Int) (R : Ending → World → Prop) (w : World) : Prop :=
  (cl Try.prog 83 #[(.int .i64 x2), (.int .i64 x3)] w (fun v0 w1 =>
 (∃ (n2 : Int) (b3 : Bool), ((v0 = (.tuple #[(.int .i64 n2), (.bool b3)])) ∧
  (br (!b3)
   (R (.returned (.tuple #[(.pointer none), (.bool Bool.false)])) w1)
   (cl Try.prog 84 #[(.pointer x0), (.int .i64 n2), (.int .i64 x3)] w1 (fun v4 w5 =>
  (∃ (p6 : (Option Addr)) (b7 : Bool), ((v4 = (.tuple #[(.pointer p6), (.bool b7)])) ∧
   (br (!b7)
    (R (.returned (.tuple #[(.pointer none), (.bool Bool.false)])) w5)
    (al #[(.pointer p6), (.int .u32 x1), (.int .i64 n2), (.int .i64 x2), (.int .i64 x3)] 155 w5 (fun m8 w9 => (R (.returned (.tuple #[(.pointer (some ⟨m8, 0, none⟩)), (.bool Bool.true)])) w9))))))) (fun x10 w11 => (R (.panicked x10) w11))))))) (fun x12 w13 => (R (.panicked x12) w13)))

def basin_New_an : Ann := (.seq .leaf (.seq .leaf (.seq (.seq .leaf (.cond (.seq .leaf .leaf) .leaf)) (.seq .leaf (.seq (.seq .leaf (.cond (.seq .leaf .leaf) .leaf)) (.seq .leaf .leaf))))))

set_option maxRecDepth 100000 in
theorem basin_New_ok (x0 : Option Addr) (x1 : Int) (x2 : Int) (x3 : Int) (R : Ending → World → Prop) (w : World) (h : basin_New x0 x1 x2 x3 R w) : Cs Try.prog 62 (#[(.pointer x0), (.int .u32 x1), (.int .i64 x2), (.int .i64 x3)] : Array Value) w R :=
  fn_sound (ty := []) (ann := basin_New_an) (N := 37) (by kernel_rfl) (by kernel_rfl) Try.func62 rfl (by kernel_rfl) (by show 4 ≤ 37; decide) (by kernel_rfl)
    (Eq.mpr (show cdA Try.prog [] basin_New_an _ _ _ w = basin_New x0 x1 x2 x3 R w by kernel_rfl) h)

/- "(*girandole/shelf.Shelf).room" (63) -/
set_option maxRecDepth 100000 in
def shelf_Shelf_room (x0 : Option Addr) (x1_0 : Int) (x1_1 : Int) (x1_2 : Int) (R : Ending → World → Prop) (w : World) : Prop :=
  (al #[(.int .u32 x1_0), (.int .i64 x1_1), (.int .i64 x1_2)] 65 w (fun m0 w1 =>
 (nc x0 (fun a2 =>
  (∃ (p3 : (Option Nat)), (((World.cell? w1 (Addr.add a2 4)) = (some (.map p3))) ∧
   (rnV Try.prog (Instr.range 119 (.map p3)) w1 (fun v4 w5 =>
   (∃ (p6 : (Option Addr)), ((v4 = (.pointer p6)) ∧
    (lp (σ := ((Option Addr) × (Nat × Nat))) (fun _ k7 s8 w9 =>
    (nxt Try.prog (Instr.next (.pointer p6) Bool.false 0) w9 (fun w10 =>
     (cl Try.prog 85 #[(.slice s8.1 s8.2.1 s8.2.2), (.func (.func 86) #[] #[])] w10 (fun _ w11 =>
      (cl Try.prog 30 #[(.pointer x0)] w11 (fun v12 w13 =>
       (∃ (n14 : Int), ((v12 = (.int .i64 n14)) ∧
        (lp (σ := (((Option Addr) × (Nat × Nat)) × (((Option Addr) × (Nat × Nat)) × Int))) (fun _ k15 s16 w17 =>
        (jn (σ := PUnit) (fun _ _ w18 =>
         (jn (σ := ((Option Addr) × (Nat × Nat))) (fun _ s19 w20 =>
          (ixa s16.2.1.1 s16.2.1.2.1 (0 : Int) 3 (fun a21 =>
           (∃ (n22 : Int), (((World.cell? w20 a21) = (some (.int .u32 n22))) ∧
            (al #[(.int .u32 n22)] 23 w20 (fun m23 w24 =>
            (rnV Try.prog (Builtin.append_ #[29, 29] 29 #[(.slice s19.1 s19.2.1 s19.2.2), (.slice (some ⟨m23, 0, none⟩) 1 1)]) w24 (fun v25 w26 =>
             (∃ (p27 : (Option Addr)) (m28 : Nat) (m29 : Nat), ((v25 = (.slice p27 m28 m29)) ∧
              (ixa s16.2.1.1 s16.2.1.2.1 (0 : Int) 3 (fun a30 =>
              (∃ (n31 : Int), (((World.cell? w26 (Addr.add a30 2)) = (some (.int .i64 n31))) ∧
               (pv Try.prog (Instr.sliceAt 159 (.slice s16.2.1.1 s16.2.1.2.1 s16.2.1.2.2) (some (.int .i64 (1 : Int))) none none) (fun v32 =>
               (∃ (p33 : (Option Addr)) (m34 : Nat) (m35 : Nat), ((v32 = (.slice p33 m34 m35)) ∧
                (k15 ((p27, (m28, m29)), ((p33, (m34, m35)), (IntKind.wrap .i64 (s16.2.2 - n31)))) w26)))))))))))))))))))) (fun k36 =>
          (dr w18 (fun w37 =>
           (br ((s16.2.1.2.1 : Int) == (0 : Int))
             (R (.returned (.tuple #[(.slice none 0 0), (.bool Bool.false)])) w37)
             (ixa s16.2.1.1 s16.2.1.2.1 (0 : Int) 3 (fun a38 =>
            (∃ (n39 : Int) (n40 : Int) (n41 : Int), ((cellsAt w37 a38 [(.int .u32 n39), (.int .i64 n40), (.int .i64 n41)]) ∧
             (∃ (n42 : Int) (n43 : Int) (n44 : Int), ((cellsAt w37 ⟨m0, 0, none⟩ [(.int .u32 n42), (.int .i64 n43), (.int .i64 n44)]) ∧
             (cl Try.prog 87 #[(.agg #[(.int .u32 n39), (.int .i64 n40), (.int .i64 n41)]), (.agg #[(.int .u32 n42), (.int .i64 n43), (.int .i64 n44)])] w37 (fun v45 w46 =>
             (∃ (b47 : Bool), ((v45 = (.bool b47)) ∧
              (br (!b47)
               (R (.returned (.tuple #[(.slice none 0 0), (.bool Bool.false)])) w46) (k36 (s16.1.1, (s16.1.2.1, s16.1.2.2)) w46))))) (fun _ _ => False)))))))))))))) (fun k48 =>
         (dr w17 (fun w49 =>
          (nc x0 (fun a50 =>
           (∃ (n51 : Int), (((World.cell? w49 (Addr.add a50 1)) = (some (.int .i64 n51))) ∧
            (br (decide ((s16.2.1.2.1 : Int) ≥ n51)) (k48 () w49)
             (∃ (n52 : Int), (((World.cell? w49 (Addr.add ⟨m0, 0, none⟩ 2)) = (some (.int .i64 n52))) ∧
            (nc x0 (fun a53 =>
            (∃ (n54 : Int), (((World.cell? w49 (Addr.add a53 2)) = (some (.int .i64 n54))) ∧
             (br (decide ((IntKind.wrap .i64 (s16.2.2 + n52)) > n54)) (k48 () w49)
              (R (.returned (.tuple #[(.slice s16.1.1 s16.1.2.1 s16.1.2.2), (.bool Bool.true)])) w49)))))))))))))))))) ((none, (0, 0)), ((s8.1, (s8.2.1, s8.2.2)), n14)) w13)))) (fun x55 w56 => (R (.panicked x55) w56)))) (fun x57 w58 => (R (.panicked x57) w58)))) (fun _ _ w59 =>
     (ent Try.prog (Instr.entry (.pointer p6)) w59 (fun v60 v61 w62 =>
      (∃ (n63 : Int), ((v60 = (.int .u32 n63)) ∧
       (∃ (p64 : (Option Addr)) (n65 : Int), ((v61 = (.agg #[(.pointer p64), (.int .i64 n65)])) ∧
       (al (zc Try.prog 131) 131 w62 (fun m66 w67 =>
       (stN ⟨m66, 0, none⟩ [(.pointer p64), (.int .i64 n65)] w67 (fun w68 =>
        (dr w68 (fun w69 =>
         (∃ (n70 : Int), (((World.cell? w69 (Addr.add ⟨m66, 0, none⟩ 1)) = (some (.int .i64 n70))) ∧
          (∃ (p71 : (Option Addr)), (((World.cell? w69 ⟨m66, 0, none⟩) = (some (.pointer p71))) ∧
          (cl Try.prog 64 #[(.pointer p71)] w69 (fun v72 w73 =>
          (∃ (n74 : Int), ((v72 = (.int .i64 n74)) ∧
           ((hold [(.cell (Addr.add ⟨m66, 0, none⟩ 1) (.int .i64 n70))] w73) ∧
           (al #[(.int .u32 n63), (.int .i64 n70), (.int .i64 n74)] 65 w73 (fun m75 w76 =>
           ((hold [(.cell (Addr.add ⟨m66, 0, none⟩ 1) (.int .i64 n70))] w76) ∧
            (rnV Try.prog (Builtin.append_ #[159, 159] 159 #[(.slice s8.1 s8.2.1 s8.2.2), (.slice (some ⟨m75, 0, none⟩) 1 1)]) w76 (fun v77 w78 =>
            (∃ (p79 : (Option Addr)) (m80 : Nat) (m81 : Nat), ((v77 = (.slice p79 m80 m81)) ∧
             ((hold [(.cell (Addr.add ⟨m66, 0, none⟩ 1) (.int .i64 n70))] w78) ∧ (k7 (p79, (m80, m81)) w78))))))))))))) (fun _ _ => False))))))))))))))))))))) (none, (0, 0)) w5)))))))))))

def shelf_Shelf_room_an : Ann := (.seq .leaf (.seq .leaf (.seq (.seq .leaf (.block (.loop (.seq .leaf (.seq (.cond .leaf .leaf) (.block (.seq .leaf (.plan [.take 0, .take 1, .take 2, .take 3, .take 4, .take 5, .eff 6, .take 7, .eff 8, .eff 9, .take 10]))))) [6, 7, 8, 15, 16, 17, 18, 19, 20, 21, 22, 23, 24, 25, 26, 27, 28, 29] [(6, .slice)]))) (.seq .leaf (.seq .leaf (.seq (.block (.loop (.join (.seq (.plan [.take 0, .take 1, .take 2, .take 3, .take 4, .take 5, .take 6, .take 7, .take 8, .take 9, .take 10, .take 11, .take 12, .take 13, .take 14, .take 15, .take 16, .take 17]) (.cond .leaf .leaf)) [34, 35, 36, 37, 38, 39, 40, 41, 42, 43, 44, 45, 46, 47, 48, 49, 50, 51] [] (.block (.join (.seq (.plan [.take 0, .take 1, .take 2, .take 3, .take 4, .take 5, .take 6, .take 7, .eff 8, .take 9, .take 10]) (.cond (.seq .leaf .leaf) .leaf)) [4, 5, 52, 53, 54, 55, 56, 57, 58, 59, 60, 61, 62] [(4, .slice)] (.seq .leaf (.seq .leaf .leaf))))) [4, 5, 6, 9, 34, 35, 36, 37, 38, 39, 40, 41, 42, 43, 44, 45, 46, 47, 48, 49, 50, 51, 52, 53, 54, 55, 56, 57, 58, 59, 60, 61, 62, 63, 64, 65, 66, 67, 68, 69, 70, 71, 72, 73, 74, 75, 76, 77] [(4, .slice), (6, .slice), (9, (.int .i64))])) (.seq .leaf .leaf)))))))

set_option maxRecDepth 100000 in
theorem shelf_Shelf_room_ok (x0 : Option Addr) (x1_0 : Int) (x1_1 : Int) (x1_2 : Int) (R : Ending → World → Prop) (w : World) (h : shelf_Shelf_room x0 x1_0 x1_1 x1_2 R w) : Cs Try.prog 63 (#[(.pointer x0), (.agg #[(.int .u32 x1_0), (.int .i64 x1_1), (.int .i64 x1_2)])] : Array Value) w R :=
  fn_sound (ty := [17]) (ann := shelf_Shelf_room_an) (N := 79) (by kernel_rfl) (by kernel_rfl) Try.func63 rfl (by kernel_rfl) (by show 2 ≤ 79; decide) (by kernel_rfl)
    (Eq.mpr (show cdA Try.prog [17] shelf_Shelf_room_an _ _ _ w = shelf_Shelf_room x0 x1_0 x1_1 x1_2 R w by kernel_rfl) h)

/- "(*girandole/basin.Basin).Bytes" (64) -/
set_option maxRecDepth 100000 in
def basin_Basin_Bytes (x0 : Option Addr) (R : Ending → World → Prop) (w : World) : Prop :=
  (br (Option.isNone x0) (R (.returned (.int .i64 (0 : Int))) w)
  (dr w (fun w0 =>
 (nc x0 (fun a1 =>
  (∃ (n2 : Int), (((World.cell? w0 (Addr.add a1 2)) = (some (.int .i64 n2))) ∧
   (nc x0 (fun a3 =>
   (∃ (n4 : Int), (((World.cell? w0 (Addr.add a3 4)) = (some (.int .i64 n4))) ∧
    (R (.returned (.int .i64 (IntKind.wrap .i64 (n2 * n4)))) w0))))))))))))

def basin_Basin_Bytes_an : Ann := (.seq .leaf (.seq (.seq .leaf (.cond (.seq .leaf .leaf) .leaf)) (.seq (.plan [.take 0, .take 1, .take 2, .take 3, .take 4, .take 5, .take 6, .take 7, .take 8, .take 9]) .leaf)))

set_option maxRecDepth 100000 in
theorem basin_Basin_Bytes_ok (x0 : Option Addr) (R : Ending → World → Prop) (w : World) (h : basin_Basin_Bytes x0 R w) : Cs Try.prog 64 (#[(.pointer x0)] : Array Value) w R :=
  fn_sound (ty := []) (ann := basin_Basin_Bytes_an) (N := 14) (by kernel_rfl) (by kernel_rfl) Try.func64 rfl (by kernel_rfl) (by show 1 ≤ 14; decide) (by kernel_rfl)
    (Eq.mpr (show cdA Try.prog [] basin_Basin_Bytes_an _ _ _ w = basin_Basin_Bytes x0 R w by kernel_rfl) h)

/- "(*girandole/basin.Basin).Payload" (68) -/
set_option maxRecDepth 100000 in
def basin_Basin_Payload (x0 : Option Addr) (R : Ending → World → Prop) (w : World) : Prop :=
  (br (Option.isNone x0)
  (R (.returned (.tuple #[(.slice none 0 0), (.bool Bool.false)])) w)
  (nc x0 (fun a0 =>
 (∃ (p1 : (Option Addr)), (((World.cell? w a0) = (some (.pointer p1))) ∧
  (cl Try.prog 91 #[(.pointer p1)] w (fun v2 w3 =>
  (∃ (p4 : (Option Addr)) (m5 : Nat) (m6 : Nat) (b7 : Bool), ((v2 = (.tuple #[(.slice p4 m5 m6), (.bool b7)])) ∧
   (br (!b7)
    (R (.returned (.tuple #[(.slice none 0 0), (.bool Bool.false)])) w3)
    (nc x0 (fun a8 =>
   (∃ (n9 : Int), (((World.cell? w3 (Addr.add a8 3)) = (some (.int .i64 n9))) ∧
    (cl Try.prog 92 #[(.slice p4 m5 m6), (.int .i64 n9)] w3 (fun v10 w11 =>
    (∃ (p12 : (Option Addr)) (m13 : Nat) (m14 : Nat) (b15 : Bool), ((v10 = (.tuple #[(.slice p12 m13 m14), (.bool b15)])) ∧
     (R (.returned (.tuple #[(.slice p12 m13 m14), (.bool b15)])) w11)))) (fun x16 w17 => (R (.panicked x16) w17))))))))))) (fun x18 w19 => (R (.panicked x18) w19))))))))

def basin_Basin_Payload_an : Ann := (.seq .leaf (.seq (.seq .leaf (.cond (.seq .leaf .leaf) .leaf)) (.seq .leaf (.seq (.seq .leaf (.cond (.seq .leaf .leaf) .leaf)) (.seq .leaf .leaf)))))

set_option maxRecDepth 100000 in
theorem basin_Basin_Payload_ok (x0 : Option Addr) (R : Ending → World → Prop) (w : World) (h : basin_Basin_Payload x0 R w) : Cs Try.prog 68 (#[(.pointer x0)] : Array Value) w R :=
  fn_sound (ty := []) (ann := basin_Basin_Payload_an) (N := 26) (by kernel_rfl) (by kernel_rfl) Try.func68 rfl (by kernel_rfl) (by show 1 ≤ 26; decide) (by kernel_rfl)
    (Eq.mpr (show cdA Try.prog [] basin_Basin_Payload_an _ _ _ w = basin_Basin_Payload x0 R w by kernel_rfl) h)

/- "(*girandole/basis.Basis).Rank" (79) -/
set_option maxRecDepth 100000 in
def basis_Basis_Rank (x0 : Option Addr) (R : Ending → World → Prop) (w : World) : Prop :=
  (br (Option.isNone x0) (R (.returned (.int .i64 (0 : Int))) w)
  (nc x0 (fun a0 =>
 (∃ (p1 : (Option Nat)), (((World.cell? w (Addr.add a0 3)) = (some (.map p1))) ∧
  (mrd Try.prog (Builtin.len_ #[173] 3 #[(.map p1)]) p1 w (fun v2 _ => (∃ (n3 : Int), ((v2 = (.int .i64 n3)) ∧ (R (.returned (.int .i64 n3)) w))))))))))

def basis_Basis_Rank_an : Ann := (.seq .leaf (.seq (.seq .leaf (.cond (.seq .leaf .leaf) .leaf)) (.seq .leaf .leaf)))

set_option maxRecDepth 100000 in
theorem basis_Basis_Rank_ok (x0 : Option Addr) (R : Ending → World → Prop) (w : World) (h : basis_Basis_Rank x0 R w) : Cs Try.prog 79 (#[(.pointer x0)] : Array Value) w R :=
  fn_sound (ty := []) (ann := basis_Basis_Rank_an) (N := 10) (by kernel_rfl) (by kernel_rfl) Try.func79 rfl (by kernel_rfl) (by show 1 ≤ 10; decide) (by kernel_rfl)
    (Eq.mpr (show cdA Try.prog [] basis_Basis_Rank_an _ _ _ w = basis_Basis_Rank x0 R w by kernel_rfl) h)

/- "maps.Keys[map[uint32]girandole/shelf.block,uint32,girandole/shelf.block]$1" (80) -/
set_option maxRecDepth 100000 in
def maps_Keys_map_uint32_shelf_block_uint32_shelf_block_1 (x0 : Value) (x1 : Option Addr) (R : Ending → World → Prop) (w : World) : Prop :=
  (nc x1 (fun a0 =>
 (∃ (p1 : (Option Nat)), (((World.cell? w a0) = (some (.map p1))) ∧
  (rnV Try.prog (Instr.range 119 (.map p1)) w (fun v2 w3 =>
  (∃ (p4 : (Option Addr)), ((v2 = (.pointer p4)) ∧
   (lp (σ := PUnit) (fun _ k5 _ w6 =>
   (nxt Try.prog (Instr.next (.pointer p4) Bool.false 0) w6 (fun w7 => (R (.returned (.tuple #[])) w7)) (fun _ _ w8 =>
    (ent Try.prog (Instr.entry (.pointer p4)) w8 (fun v9 _ w10 =>
     (∃ (n11 : Int), ((v9 = (.int .u32 n11)) ∧
      (clv Try.prog x0 [(.int .u32 n11)] w10 (fun v12 w13 =>
      (∃ (b14 : Bool), ((v12 = (.bool b14)) ∧ (br (!b14) (R (.returned (.tuple #[])) w13) (k5 () w13))))) (fun x15 w16 => (R (.panicked x15) w16)))))))))) () w3)))))))))

def maps_Keys_map_uint32_shelf_block_uint32_shelf_block_1_an : Ann := (.seq .leaf (.block (.loop (.seq .leaf (.seq (.cond .leaf .leaf) (.block (.seq .leaf (.seq .leaf (.cond .leaf .leaf)))))) [3, 6, 7, 8, 9, 10, 11, 12, 13] [])))

set_option maxRecDepth 100000 in
theorem maps_Keys_map_uint32_shelf_block_uint32_shelf_block_1_ok (x0 : Value) (x1 : Option Addr) (R : Ending → World → Prop) (w : World) (h : maps_Keys_map_uint32_shelf_block_uint32_shelf_block_1 x0 x1 R w) : Cs Try.prog 80 (#[x0, (.pointer x1)] : Array Value) w R :=
  fn_sound (ty := [8]) (ann := maps_Keys_map_uint32_shelf_block_uint32_shelf_block_1_an) (N := 14) (by kernel_rfl) (by kernel_rfl) Try.func80 rfl (by kernel_rfl) (by show 2 ≤ 14; decide) (by kernel_rfl)
    (Eq.mpr (show cdA Try.prog [8] maps_Keys_map_uint32_shelf_block_uint32_shelf_block_1_an _ _ _ w = maps_Keys_map_uint32_shelf_block_uint32_shelf_block_1 x0 x1 R w by kernel_rfl) h)

/- "girandole/dice.Row" (81) -/
set_option maxRecDepth 100000 in
def dice_Row (x0 : Int) (x1 : Int) (x2 : Int) (R : Ending → World → Prop) (w : World) : Prop :=
  (jn (σ := PUnit) (fun _ _ w0 =>
 (rnV Try.prog (Instr.makeSlice 22 (.int .i64 x2) (.int .i64 x2)) w0 (fun v1 w2 =>
  (∃ (p3 : (Option Addr)) (m4 : Nat) (m5 : Nat), ((v1 = (.slice p3 m4 m5)) ∧
   (br (decide (x1 < x2))
    (ixa p3 m4 x1 1 (fun a6 =>
   (st1 a6 (.int .u8 (1 : Int)) w2 (fun w7 => (R (.returned (.tuple #[(.slice p3 m4 m5), (.bool Bool.true)])) w7)))))
    (cl Try.prog 98 #[(.int .u32 x0), (.int .i64 x1)] w2 (fun v8 w9 =>
   (∃ (p10 : (Option Addr)), ((v8 = (.pointer p10)) ∧
    (lp (σ := (Int × Int)) (fun _ k11 s12 w13 =>
    (br (decide (s12.2 < (m4 : Int)))
      (clv Try.prog (.func (.func 99) #[(.pointer p10)] #[]) [] w13 (fun v14 w15 =>
     (∃ (n16 : Int), ((v14 = (.int .u8 n16)) ∧
      (ixa p3 m4 s12.2 1 (fun a17 =>
      (st1 a17 (.int .u8 n16) w15 (fun w18 =>
       (ixa p3 m4 s12.2 1 (fun a19 =>
        (∃ (n20 : Int), (((World.cell? w18 a19) = (some (.int .u8 n20))) ∧
         (k11 ((IntKind.wrap .u8 ((BitVec.toNat ((BitVec.ofInt 8 s12.1) ||| (BitVec.ofInt 8 n20))) : Int)), (IntKind.wrap .i64 (s12.2 + (1 : Int)))) w18)))))))))))) (fun x21 w22 => (R (.panicked x21) w22)))
      (br (s12.1 == (0 : Int))
      (ixa p3 m4 (0 : Int) 1 (fun a23 =>
     (st1 a23 (.int .u8 (1 : Int)) w13 (fun w24 => (R (.returned (.tuple #[(.slice p3 m4 m5), (.bool Bool.true)])) w24)))))
      (R (.returned (.tuple #[(.slice p3 m4 m5), (.bool Bool.true)])) w13)))) ((0 : Int), (0 : Int)) w9)))) (fun x25 w26 => (R (.panicked x25) w26))))))))) (fun k27 =>
 (br (decide (x2 < (1 : Int)))
   (R (.returned (.tuple #[(.slice none 0 0), (.bool Bool.false)])) w)
   (br (decide (x2 > (32 : Int)))
   (R (.returned (.tuple #[(.slice none 0 0), (.bool Bool.false)])) w)
   (br (decide (x1 < (0 : Int)))
   (R (.returned (.tuple #[(.slice none 0 0), (.bool Bool.false)])) w)
   (br (decide (x1 ≥ (IntKind.wrap .i64 (x2 + (64 : Int)))))
   (R (.returned (.tuple #[(.slice none 0 0), (.bool Bool.false)])) w) (k27 () w)))))))

def dice_Row_an : Ann := (.seq .leaf (.join (.seq .leaf (.cond (.seq .leaf .leaf) .leaf)) [6, 7, 12, 13, 14, 15, 16, 17, 18, 19, 20, 21, 22, 23, 24, 25, 26, 27] [] (.seq .leaf (.seq (.seq .leaf (.cond (.seq .leaf (.seq .leaf .leaf)) .leaf)) (.seq .leaf (.seq (.seq .leaf (.block (.loop (.seq .leaf (.seq (.cond .leaf .leaf) (.seq (.block (.seq .leaf (.seq .leaf .leaf))) .leaf))) [10, 11, 43, 44, 45, 46, 47, 48, 49, 50, 51, 52, 53, 54, 55, 56, 57] [(10, (.int .u8)), (43, (.int .i64))]))) (.seq (.seq .leaf (.cond .leaf .leaf)) (.seq .leaf .leaf))))))))

set_option maxRecDepth 100000 in
theorem dice_Row_ok (x0 : Int) (x1 : Int) (x2 : Int) (R : Ending → World → Prop) (w : World) (h : dice_Row x0 x1 x2 R w) : Cs Try.prog 81 (#[(.int .u32 x0), (.int .i64 x1), (.int .i64 x2)] : Array Value) w R :=
  fn_sound (ty := []) (ann := dice_Row_an) (N := 63) (by kernel_rfl) (by kernel_rfl) Try.func81 rfl (by kernel_rfl) (by show 3 ≤ 63; decide) (by kernel_rfl)
    (Eq.mpr (show cdA Try.prog [] dice_Row_an _ _ _ w = dice_Row x0 x1 x2 R w by kernel_rfl) h)

/- "(*girandole/basis.Basis).Add" (82) -/
set_option maxRecDepth 100000 in
def basis_Basis_Add (x0 : Option Addr) (x1 : Option Addr) (x1l x1c : Nat) (x2 : Option Addr) (x2l x2c : Nat) (R : Ending → World → Prop) (w : World) : Prop :=
  (jn (σ := PUnit) (fun _ _ w0 =>
 (al #[(.slice x1 x1l x1c), (.slice x2 x2l x2c)] 22 w0 (fun m1 w2 =>
  (cl Try.prog 100 #[(.slice (some ⟨m1, 0, none⟩) 2 2)] w2 (fun v3 w4 =>
   (∃ (p5 : (Option Addr)) (m6 : Nat) (m7 : Nat), ((v3 = (.slice p5 m6 m7)) ∧
    (nc x0 (fun a8 =>
    (∃ (p9 : (Option Nat)), (((World.cell? w4 (Addr.add a8 3)) = (some (.map p9))) ∧
     (rnV Try.prog (Instr.range 173 (.map p9)) w4 (fun v10 w11 =>
     (∃ (p12 : (Option Addr)), ((v10 = (.pointer p12)) ∧
      (lp (σ := ((Option Addr) × (Nat × Nat))) (fun _ k13 s14 w15 =>
      (nxt Try.prog (Instr.next (.pointer p12) Bool.false 0) w15 (fun w16 =>
       (nc x0 (fun a17 =>
        (∃ (n18 : Int), (((World.cell? w16 (Addr.add a17 1)) = (some (.int .i64 n18))) ∧
         (pv Try.prog (Instr.sliceAt 179 (.slice s14.1 s14.2.1 s14.2.2) none (some (.int .i64 n18)) none) (fun v19 =>
         (∃ (p20 : (Option Addr)) (m21 : Nat) (m22 : Nat), ((v19 = (.slice p20 m21 m22)) ∧
          (cl Try.prog 102 #[(.slice p20 m21 m22), (.func (.func 103) #[] #[])] w16 (fun v23 w24 =>
          (∃ (n25 : Int), ((v23 = (.int .i64 n25)) ∧
           (br (decide (n25 < (0 : Int))) (R (.returned (.bool Bool.false)) w24)
            (dr w24 (fun w26 =>
           (nc x0 (fun a27 =>
            (∃ (p28 : (Option Addr)), (((World.cell? w26 a27) = (some (.pointer p28))) ∧
             (ixa s14.1 s14.2.1 n25 1 (fun a29 =>
             (∃ (n30 : Int), (((World.cell? w26 a29) = (some (.int .u8 n30))) ∧
              (cl Try.prog 104 #[(.pointer p28), (.int .u8 n30)] w26 (fun v31 w32 =>
              (∃ (n33 : Int) (b34 : Bool), ((v31 = (.tuple #[(.int .u8 n33), (.bool b34)])) ∧
               (dr w32 (fun w35 =>
               (nc x0 (fun a36 =>
                (∃ (p37 : (Option Addr)), (((World.cell? w35 a36) = (some (.pointer p37))) ∧
                 (rnV Try.prog (Instr.makeSlice 22 (.int .i64 (s14.2.1 : Int)) (.int .i64 (s14.2.1 : Int))) w35 (fun v38 w39 =>
                 (∃ (p40 : (Option Addr)) (m41 : Nat) (m42 : Nat), ((v38 = (.slice p40 m41 m42)) ∧
                  ((hold [(.cell a36 (.pointer p37))] w39) ∧
                  (cl Try.prog 101 #[(.pointer p37), (.slice p40 m41 m42), (.slice s14.1 s14.2.1 s14.2.2), (.int .u8 n33)] w39 (fun v43 w44 =>
                  (∃ (p45 : (Option Addr)) (m46 : Nat) (m47 : Nat), ((v43 = (.slice p45 m46 m47)) ∧
                   (nc x0 (fun a48 =>
                   (∃ (p49 : (Option Nat)), (((World.cell? w44 (Addr.add a48 3)) = (some (.map p49))) ∧
                    (rnV Try.prog (Instr.range 173 (.map p49)) w44 (fun v50 w51 =>
                    (∃ (p52 : (Option Addr)), ((v50 = (.pointer p52)) ∧
                     (lp (σ := PUnit) (fun _ k53 _ w54 =>
                     (nxt Try.prog (Instr.next (.pointer p52) Bool.false 0) w54 (fun w55 =>
                      (nc x0 (fun a56 =>
                       (∃ (p57 : (Option Nat)), (((World.cell? w55 (Addr.add a56 3)) = (some (.map p57))) ∧
                        (rnU Try.prog (Instr.mapUpdate 173 (.map p57) (.int .i64 n25) (.slice p45 m46 m47)) w55 (fun w58 => (R (.returned (.bool Bool.true)) w58)))))))) (fun _ _ w59 =>
                      (ent Try.prog (Instr.entry (.pointer p52)) w59 (fun v60 v61 w62 =>
                       (∃ (n63 : Int), ((v60 = (.int .i64 n63)) ∧
                        (∃ (p64 : (Option Addr)) (m65 : Nat) (m66 : Nat), ((v61 = (.slice p64 m65 m66)) ∧
                        (dr w62 (fun w67 =>
                        (nc x0 (fun a68 =>
                         (∃ (p69 : (Option Nat)), (((World.cell? w67 (Addr.add a68 3)) = (some (.map p69))) ∧
                          (nc x0 (fun a70 =>
                          (∃ (p71 : (Option Addr)), (((World.cell? w67 a70) = (some (.pointer p71))) ∧
                           (ixa p64 m65 n25 1 (fun a72 =>
                           (∃ (n73 : Int), (((World.cell? w67 a72) = (some (.int .u8 n73))) ∧
                            (cl Try.prog 101 #[(.pointer p71), (.slice p64 m65 m66), (.slice p45 m46 m47), (.int .u8 n73)] w67 (fun v74 w75 =>
                            (∃ (p76 : (Option Addr)) (m77 : Nat) (m78 : Nat), ((v74 = (.slice p76 m77 m78)) ∧
                             ((hold [(.cell (Addr.add a68 3) (.map p69))] w75) ∧
                             (rnU Try.prog (Instr.mapUpdate 173 (.map p69) (.int .i64 n63) (.slice p76 m77 m78)) w75 (fun w79 => (k53 () w79))))))) (fun _ _ => False))))))))))))))))))))))))) () w51)))))))))))) (fun _ _ => False)))))))))))))))) (fun _ _ => False)))))))))))))))) (fun x80 w81 => (R (.panicked x80) w81)))))))))))) (fun _ _ w82 =>
       (ent Try.prog (Instr.entry (.pointer p12)) w82 (fun v83 v84 w85 =>
        (∃ (n86 : Int), ((v83 = (.int .i64 n86)) ∧
         (∃ (p87 : (Option Addr)) (m88 : Nat) (m89 : Nat), ((v84 = (.slice p87 m88 m89)) ∧
         (dr w85 (fun w90 =>
         (nc x0 (fun a91 =>
          (∃ (p92 : (Option Addr)), (((World.cell? w90 a91) = (some (.pointer p92))) ∧
           (ixa s14.1 s14.2.1 n86 1 (fun a93 =>
           (∃ (n94 : Int), (((World.cell? w90 a93) = (some (.int .u8 n94))) ∧
            (cl Try.prog 101 #[(.pointer p92), (.slice s14.1 s14.2.1 s14.2.2), (.slice p87 m88 m89), (.int .u8 n94)] w90 (fun v95 w96 =>
            (∃ (p97 : (Option Addr)) (m98 : Nat) (m99 : Nat), ((v95 = (.slice p97 m98 m99)) ∧ (k13 (p97, (m98, m99)) w96)))) (fun _ _ => False))))))))))))))))))))) (p5, (m6, m7)) w11)))))))))))) (fun x100 w101 => (R (.panicked x100) w101)))))) (fun k102 =>
 (br (Option.isNone x0) (R (.returned (.bool Bool.false)) w)
   (nc x0 (fun a103 =>
  (∃ (n104 : Int), (((World.cell? w (Addr.add a103 1)) = (some (.int .i64 n104))) ∧
   (br ((x1l : Int) != n104) (R (.returned (.bool Bool.false)) w)
    (nc x0 (fun a105 =>
   (∃ (n106 : Int), (((World.cell? w (Addr.add a105 2)) = (some (.int .i64 n106))) ∧
    (br ((x2l : Int) != n106) (R (.returned (.bool Bool.false)) w) (k102 () w))))))))))))))

def basis_Basis_Add_an : Ann := (.seq .leaf (.join (.seq .leaf (.cond (.seq .leaf .leaf) .leaf)) [6, 15, 16, 17, 18, 19, 20, 21, 22, 23, 24, 25, 26, 27, 28, 29, 30, 31, 32, 33, 34] [] (.seq .leaf (.seq (.seq .leaf (.block (.loop (.seq .leaf (.seq (.cond .leaf .leaf) (.block (.seq .leaf (.plan [.take 0, .take 1, .take 2, .take 3, .take 4, .take 5, .take 6, .take 7, .take 8, .take 9, .eff 10, .take 11]))))) [7, 8, 9, 44, 45, 46, 47, 48, 49, 50, 51, 52, 53, 54, 55, 56, 57, 58, 59] [(7, .slice)]))) (.seq .leaf (.seq (.seq .leaf (.cond (.seq .leaf .leaf) .leaf)) (.seq (.plan [.take 0, .take 1, .take 2, .take 3, .take 4, .take 5, .take 6, .take 7, .eff 8, .take 9, .take 10, .take 11, .take 12, .take 13]) (.seq (.plan [.take 0, .take 1, .take 2, .take 3, .take 4, .take 5, .take 7, .take 8, .eff 6, .eff 9, .take 10]) (.seq (.seq .leaf (.block (.loop (.seq .leaf (.seq (.cond .leaf .leaf) (.block (.seq .leaf (.plan [.take 0, .take 1, .take 2, .take 3, .take 4, .take 5, .take 6, .take 7, .take 8, .take 9, .take 10, .take 11, .take 12, .take 13, .take 14, .eff 15, .eff 16]))))) [13, 14, 96, 97, 98, 99, 100, 101, 102, 103, 104, 105, 106, 107, 108, 109, 110, 111, 112, 113, 114, 115, 116] []))) (.seq .leaf (.seq .leaf .leaf)))))))))))

set_option maxRecDepth 100000 in
theorem basis_Basis_Add_ok (x0 : Option Addr) (x1 : Option Addr) (x1l x1c : Nat) (x2 : Option Addr) (x2l x2c : Nat) (R : Ending → World → Prop) (w : World) (h : basis_Basis_Add x0 x1 x1l x1c x2 x2l x2c R w) : Cs Try.prog 82 (#[(.pointer x0), (.slice x1 x1l x1c), (.slice x2 x2l x2c)] : Array Value) w R :=
  fn_sound (ty := [46, 98]) (ann := basis_Basis_Add_an) (N := 123) (by kernel_rfl) (by kernel_rfl) Try.func82 rfl (by kernel_rfl) (by show 3 ≤ 123; decide) (by kernel_rfl)
    (Eq.mpr (show cdA Try.prog [46, 98] basis_Basis_Add_an _ _ _ w = basis_Basis_Add x0 x1 x1l x1c x2 x2l x2c R w by kernel_rfl) h)

/- "girandole/cut.Count" (83) -/
set_option maxRecDepth 100000 in
def cut_Count (x0 : Int) (x1 : Int) (R : Ending → World → Prop) (w : World) : Prop :=
  (br (decide (x1 < (1 : Int)))
  (R (.returned (.tuple #[(.int .i64 (0 : Int)), (.bool Bool.false)])) w)
  (br (decide (x1 > (64 : Int)))
  (R (.returned (.tuple #[(.int .i64 (0 : Int)), (.bool Bool.false)])) w)
  (br (decide (x0 < (1 : Int)))
  (R (.returned (.tuple #[(.int .i64 (0 : Int)), (.bool Bool.false)])) w)
  (br (decide (x0 > (IntKind.wrap .i64 ((32 : Int) * x1))))
  (R (.returned (.tuple #[(.int .i64 (0 : Int)), (.bool Bool.false)])) w)
  ((x1 ≠ (0 : Int)) ∧
 (R (.returned (.tuple #[(.int .i64 (IntKind.wrap .i64 (Int.tdiv (IntKind.wrap .i64 ((IntKind.wrap .i64 (x0 + x1)) - (1 : Int))) x1))), (.bool Bool.true)])) w))))))

def cut_Count_an : Ann := (.seq .leaf (.seq (.seq .leaf (.cond (.seq .leaf .leaf) .leaf)) (.seq .leaf .leaf)))

set_option maxRecDepth 100000 in
theorem cut_Count_ok (x0 : Int) (x1 : Int) (R : Ending → World → Prop) (w : World) (h : cut_Count x0 x1 R w) : Cs Try.prog 83 (#[(.int .i64 x0), (.int .i64 x1)] : Array Value) w R :=
  fn_sound (ty := []) (ann := cut_Count_an) (N := 28) (by kernel_rfl) (by kernel_rfl) Try.func83 rfl (by kernel_rfl) (by show 2 ≤ 28; decide) (by kernel_rfl)
    (Eq.mpr (show cdA Try.prog [] cut_Count_an _ _ _ w = cut_Count x0 x1 R w by kernel_rfl) h)

/- "girandole/basis.New" (84) -/
set_option maxRecDepth 100000 in
def basis_New (x0 : Option Addr) (x1 : Int) (x2 : Int) (R : Ending → World → Prop) (w : World) : Prop :=
  (br (Option.isNone x0)
  (R (.returned (.tuple #[(.pointer none), (.bool Bool.false)])) w)
  (br (decide (x1 < (1 : Int)))
  (R (.returned (.tuple #[(.pointer none), (.bool Bool.false)])) w)
  (br (decide (x1 > (32 : Int)))
  (R (.returned (.tuple #[(.pointer none), (.bool Bool.false)])) w)
  (br (decide (x2 < (1 : Int)))
  (R (.returned (.tuple #[(.pointer none), (.bool Bool.false)])) w)
  (br (decide (x2 > (64 : Int)))
  (R (.returned (.tuple #[(.pointer none), (.bool Bool.false)])) w)
  (nwo (.map #[] 0) w (fun m0 w1 =>
 (al #[(.pointer x0), (.int .i64 x1), (.int .i64 x2), (.map (some m0))] 175 w1 (fun m2 w3 => (R (.returned (.tuple #[(.pointer (some ⟨m2, 0, none⟩)), (.bool Bool.true)])) w3))))))))))

def basis_New_an : Ann := (.seq .leaf (.seq (.seq .leaf (.cond (.seq .leaf .leaf) .leaf)) (.seq .leaf .leaf)))

set_option maxRecDepth 100000 in
theorem basis_New_ok (x0 : Option Addr) (x1 : Int) (x2 : Int) (R : Ending → World → Prop) (w : World) (h : basis_New x0 x1 x2 R w) : Cs Try.prog 84 (#[(.pointer x0), (.int .i64 x1), (.int .i64 x2)] : Array Value) w R :=
  fn_sound (ty := []) (ann := basis_New_an) (N := 32) (by kernel_rfl) (by kernel_rfl) Try.func84 rfl (by kernel_rfl) (by show 3 ≤ 32; decide) (by kernel_rfl)
    (Eq.mpr (show cdA Try.prog [] basis_New_an _ _ _ w = basis_New x0 x1 x2 R w by kernel_rfl) h)

/- "(*girandole/shelf.Shelf).room$1" (86) -/
set_option maxRecDepth 100000 in
def shelf_Shelf_room_1 (x0_0 : Int) (x0_1 : Int) (x0_2 : Int) (x1_0 : Int) (x1_1 : Int) (x1_2 : Int) (R : Ending → World → Prop) (w : World) : Prop :=
  (al #[(.int .u32 x0_0), (.int .i64 x0_1), (.int .i64 x0_2)] 65 w (fun m0 w1 =>
 (al #[(.int .u32 x1_0), (.int .i64 x1_1), (.int .i64 x1_2)] 65 w1 (fun m2 w3 =>
  (∃ (n4 : Int) (n5 : Int) (n6 : Int), ((cellsAt w3 ⟨m0, 0, none⟩ [(.int .u32 n4), (.int .i64 n5), (.int .i64 n6)]) ∧
   (∃ (n7 : Int) (n8 : Int) (n9 : Int), ((cellsAt w3 ⟨m2, 0, none⟩ [(.int .u32 n7), (.int .i64 n8), (.int .i64 n9)]) ∧
   (cl Try.prog 87 #[(.agg #[(.int .u32 n4), (.int .i64 n5), (.int .i64 n6)]), (.agg #[(.int .u32 n7), (.int .i64 n8), (.int .i64 n9)])] w3 (fun v10 w11 =>
   (∃ (b12 : Bool), ((v10 = (.bool b12)) ∧
    (br b12 (R (.returned (.int .i64 (-(1 : Int)))) w11) (R (.returned (.int .i64 (1 : Int))) w11))))) (fun x13 w14 => (R (.panicked x13) w14)))))))))))

def shelf_Shelf_room_1_an : Ann := (.seq .leaf (.seq (.seq .leaf (.cond (.seq .leaf .leaf) .leaf)) (.seq .leaf .leaf)))

set_option maxRecDepth 100000 in
theorem shelf_Shelf_room_1_ok (x0_0 : Int) (x0_1 : Int) (x0_2 : Int) (x1_0 : Int) (x1_1 : Int) (x1_2 : Int) (R : Ending → World → Prop) (w : World) (h : shelf_Shelf_room_1 x0_0 x0_1 x0_2 x1_0 x1_1 x1_2 R w) : Cs Try.prog 86 (#[(.agg #[(.int .u32 x0_0), (.int .i64 x0_1), (.int .i64 x0_2)]), (.agg #[(.int .u32 x1_0), (.int .i64 x1_1), (.int .i64 x1_2)])] : Array Value) w R :=
  fn_sound (ty := []) (ann := shelf_Shelf_room_1_an) (N := 8) (by kernel_rfl) (by kernel_rfl) Try.func86 rfl (by kernel_rfl) (by show 2 ≤ 8; decide) (by kernel_rfl)
    (Eq.mpr (show cdA Try.prog [] shelf_Shelf_room_1_an _ _ _ w = shelf_Shelf_room_1 x0_0 x0_1 x0_2 x1_0 x1_1 x1_2 R w by kernel_rfl) h)

/- "girandole/shelf.worse" (87) -/
set_option maxRecDepth 100000 in
def shelf_worse (x0_0 : Int) (x0_1 : Int) (x0_2 : Int) (x1_0 : Int) (x1_1 : Int) (x1_2 : Int) (R : Ending → World → Prop) (w : World) : Prop :=
  (al #[(.int .u32 x0_0), (.int .i64 x0_1), (.int .i64 x0_2)] 65 w (fun m0 w1 =>
 (al #[(.int .u32 x1_0), (.int .i64 x1_1), (.int .i64 x1_2)] 65 w1 (fun m2 w3 =>
  (∃ (n4 : Int), (((World.cell? w3 (Addr.add ⟨m0, 0, none⟩ 1)) = (some (.int .i64 n4))) ∧
   (∃ (n5 : Int), (((World.cell? w3 (Addr.add ⟨m2, 0, none⟩ 1)) = (some (.int .i64 n5))) ∧
   (br (decide (n4 > n5)) (R (.returned (.bool Bool.true)) w3)
    (∃ (n6 : Int), (((World.cell? w3 (Addr.add ⟨m0, 0, none⟩ 1)) = (some (.int .i64 n6))) ∧
   (∃ (n7 : Int), (((World.cell? w3 (Addr.add ⟨m2, 0, none⟩ 1)) = (some (.int .i64 n7))) ∧
   (br (n6 == n7)
    (∃ (n8 : Int), (((World.cell? w3 ⟨m0, 0, none⟩) = (some (.int .u32 n8))) ∧
   (∃ (n9 : Int), (((World.cell? w3 ⟨m2, 0, none⟩) = (some (.int .u32 n9))) ∧ (R (.returned (.bool (decide (n8 > n9)))) w3))))) (R (.returned (.bool Bool.false)) w3)))))))))))))))

def shelf_worse_an : Ann := (.seq .leaf (.seq .leaf .leaf))

set_option maxRecDepth 100000 in
theorem shelf_worse_ok (x0_0 : Int) (x0_1 : Int) (x0_2 : Int) (x1_0 : Int) (x1_1 : Int) (x1_2 : Int) (R : Ending → World → Prop) (w : World) (h : shelf_worse x0_0 x0_1 x0_2 x1_0 x1_1 x1_2 R w) : Cs Try.prog 87 (#[(.agg #[(.int .u32 x0_0), (.int .i64 x0_1), (.int .i64 x0_2)]), (.agg #[(.int .u32 x1_0), (.int .i64 x1_1), (.int .i64 x1_2)])] : Array Value) w R :=
  fn_sound (ty := []) (ann := shelf_worse_an) (N := 24) (by kernel_rfl) (by kernel_rfl) Try.func87 rfl (by kernel_rfl) (by show 2 ≤ 24; decide) (by kernel_rfl)
    (Eq.mpr (show cdA Try.prog [] shelf_worse_an _ _ _ w = shelf_worse x0_0 x0_1 x0_2 x1_0 x1_1 x1_2 R w by kernel_rfl) h)

end Go.SR
