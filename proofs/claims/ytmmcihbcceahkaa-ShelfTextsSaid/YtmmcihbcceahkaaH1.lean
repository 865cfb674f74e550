/- PRINTED by a program of the prover's (wip/sr/Gen.lean): residuals of Go functions. -/
import Derived.Test.YtmmcihbcceahkaaA6
import Derived.Test.YtmmcihbcceahkaaProg
namespace Go.SR
open Go Go.Proofs

/- "girandole/girandolelaw14.TreeAll" (3) -/
set_option maxRecDepth 100000 in
def glaw14_TreeAll (x0 : Option Addr) (x0l x0c : Nat) (x1 : Int) (R : Ending → World → Prop) (w : World) : Prop :=
  (cl Try.prog 11 #[] w (fun v0 w1 =>
 (∃ (b2 : Bool), ((v0 = (.bool b2)) ∧
  (br (!b2) (R (.returned (.bool Bool.false)) w1)
   (br (decide ((x0l : Int) > (120 : Int))) (R (.returned (.bool Bool.true)) w1)
   (cl Try.prog 12 #[(.slice x0 x0l x0c)] w1 (fun v3 w4 =>
  (∃ (p5 : (Option Addr)), ((v3 = (.pointer p5)) ∧
   (cl Try.prog 13 #[(.pointer p5), (.int .i64 (15 : Int))] w4 (fun v6 w7 =>
   (∃ (p8 : (Option Addr)) (m9 : Nat) (m10 : Nat), ((v6 = (.slice p8 m9 m10)) ∧
    (lp (σ := Int) (fun _ k11 n12 w13 =>
    (br (decide (n12 ≤ (m9 : Int)))
      (jn (σ := Int) (fun _ n14 w15 =>
     (cl Try.prog 15 #[(.slice p8 m9 m10), (.int .u32 n14)] w15 (fun v16 w17 =>
      (∃ (p18 : (Option Addr)) (m19 : Nat) (m20 : Nat), ((v16 = (.slice p18 m19 m20)) ∧
       (cl Try.prog 16 #[(.slice p8 m9 m10), (.int .u32 n14)] w17 (fun v21 w22 =>
       (∃ (p23 : (Option Addr)) (m24 : Nat) (m25 : Nat), ((v21 = (.slice p23 m24 m25)) ∧
        (cl Try.prog 14 #[(.slice p18 m19 m20), (.slice p23 m24 m25)] w22 (fun v26 w27 =>
        (∃ (b28 : Bool), ((v26 = (.bool b28)) ∧
         (br (!b28) (R (.returned (.bool Bool.false)) w27)
          (cl Try.prog 17 #[(.slice p8 m9 m10), (.int .u32 n14)] w27 (fun v29 w30 =>
         (∃ (p31 : (Option Addr)) (m32 : Nat) (m33 : Nat), ((v29 = (.slice p31 m32 m33)) ∧
          (cl Try.prog 18 #[(.slice p8 m9 m10), (.int .u32 n14)] w30 (fun v34 w35 =>
          (∃ (p36 : (Option Addr)) (m37 : Nat) (m38 : Nat), ((v34 = (.slice p36 m37 m38)) ∧
           (cl Try.prog 14 #[(.slice p31 m32 m33), (.slice p36 m37 m38)] w35 (fun v39 w40 =>
           (∃ (b41 : Bool), ((v39 = (.bool b41)) ∧
            (br (!b41) (R (.returned (.bool Bool.false)) w40) (k11 (IntKind.wrap .i64 (n12 + (1 : Int))) w40))))) (fun x42 w43 => (R (.panicked x42) w43)))))) (fun x44 w45 => (R (.panicked x44) w45)))))) (fun x46 w47 => (R (.panicked x46) w47))))))) (fun x48 w49 => (R (.panicked x48) w49)))))) (fun x50 w51 => (R (.panicked x50) w51)))))) (fun x52 w53 => (R (.panicked x52) w53)))) (fun k54 =>
     (br (decide (n12 < (m9 : Int)))
       (ixa p8 m9 n12 6 (fun a55 => (∃ (n56 : Int), (((World.cell? w13 a55) = (some (.int .u32 n56))) ∧ (k54 n56 w13))))) (k54 x1 w13)))) (R (.returned (.bool Bool.true)) w13))) (0 : Int) w7)))) (fun x57 w58 => (R (.panicked x57) w58)))))) (fun x59 w60 => (R (.panicked x59) w60)))))))) (fun x61 w62 => (R (.panicked x61) w62)))

def glaw14_TreeAll_an : Ann := (.seq .leaf (.seq (.seq .leaf (.cond (.seq .leaf .leaf) .leaf)) (.seq (.seq .leaf (.cond (.seq .leaf .leaf) .leaf)) (.seq .leaf (.seq (.seq .leaf (.block (.loop (.seq (.seq .leaf (.cond .leaf .leaf)) (.seq (.block (.seq .leaf (.join (.seq .leaf (.cond .leaf .leaf)) [7, 23, 24, 25, 26, 27, 28, 29, 30, 31] [(7, (.int .u32))] (.seq .leaf (.cond (.seq .leaf .leaf) .leaf))))) .leaf)) [4, 6, 7, 16, 17, 18, 19, 20, 21, 22, 23, 24, 25, 26, 27, 28, 29, 30, 31, 32, 33, 34, 35, 36, 37, 38, 39, 40, 41, 42, 43, 44, 45, 46, 47, 48, 49] [(6, (.int .i64))]))) (.seq .leaf .leaf))))))

set_option maxRecDepth 100000 in
theorem glaw14_TreeAll_ok (x0 : Option Addr) (x0l x0c : Nat) (x1 : Int) (R : Ending → World → Prop) (w : World) (h : glaw14_TreeAll x0 x0l x0c x1 R w) : Cs Try.prog 3 (#[(.slice x0 x0l x0c), (.int .u32 x1)] : Array Value) w R :=
  fn_sound (ty := []) (ann := glaw14_TreeAll_an) (N := 50) (by kernel_rfl) (by kernel_rfl) Try.func3 rfl (by kernel_rfl) (by show 2 ≤ 50; decide) (by kernel_rfl)
    (Eq.mpr (show cdA Try.prog [] glaw14_TreeAll_an _ _ _ w = glaw14_TreeAll x0 x0l x0c x1 R w by kernel_rfl) h)

/- "girandole/girandolelaw14.TreeBoth" (4) -/
set_option maxRecDepth 100000 in
def glaw14_TreeBoth (x0 : Option Addr) (x0l x0c : Nat) (R : Ending → World → Prop) (w : World) : Prop :=
  (cl Try.prog 11 #[] w (fun v0 w1 =>
 (∃ (b2 : Bool), ((v0 = (.bool b2)) ∧
  (br (!b2) (R (.returned (.bool Bool.false)) w1)
   (br (decide ((x0l : Int) > (120 : Int))) (R (.returned (.bool Bool.true)) w1)
   (cl Try.prog 12 #[(.slice x0 x0l x0c)] w1 (fun v3 w4 =>
  (∃ (p5 : (Option Addr)), ((v3 = (.pointer p5)) ∧
   (cl Try.prog 13 #[(.pointer p5), (.int .i64 (12 : Int))] w4 (fun v6 w7 =>
   (∃ (p8 : (Option Addr)) (m9 : Nat) (m10 : Nat), ((v6 = (.slice p8 m9 m10)) ∧
    (al (zc Try.prog 36) 36 w7 (fun m11 w12 =>
    (al (zc Try.prog 36) 36 w12 (fun m13 w14 =>
     (jn (σ := PUnit) (fun _ _ w15 =>
      (lp (σ := Int) (fun _ k16 n17 w18 =>
       (jn (σ := PUnit) (fun _ _ w19 =>
        (lp (σ := Int) (fun _ k20 n21 w22 =>
         (br (decide (n21 < (m9 : Int)))
           (lp (σ := (Bool × Int)) (fun _ k23 s24 w25 =>
          (ixa p8 m9 n17 6 (fun a26 =>
           (∃ (p27 : (Option Addr)) (m28 : Nat) (m29 : Nat), (((World.cell? w25 (Addr.add a26 2)) = (some (.slice p27 m28 m29))) ∧
            (br (decide (s24.2 < (m28 : Int)))
             (dr w25 (fun w30 =>
            (br s24.1
              (k23 (Bool.true, (IntKind.wrap .i64 (s24.2 + (1 : Int)))) w30)
              (ixa p8 m9 n17 6 (fun a31 =>
             (∃ (p32 : (Option Addr)) (m33 : Nat) (m34 : Nat), (((World.cell? w30 (Addr.add a31 2)) = (some (.slice p32 m33 m34))) ∧
              (ixa p32 m33 s24.2 1 (fun a35 =>
              (∃ (n36 : Int), (((World.cell? w30 a35) = (some (.int .u32 n36))) ∧
               (ixa p8 m9 n21 6 (fun a37 =>
               (∃ (n38 : Int), (((World.cell? w30 a37) = (some (.int .u32 n38))) ∧
                (k23 ((n36 == n38), (IntKind.wrap .i64 (s24.2 + (1 : Int)))) w30))))))))))))))))
             (jn (σ := PUnit) (fun _ _ w39 =>
            (lp (σ := Int) (fun _ k40 n41 w42 =>
             (br (decide (n41 < (m9 : Int)))
               (ixr ⟨m11, 0, none⟩ 12 n17 12 (fun a43 =>
              (ixr a43 12 n21 1 (fun a44 =>
               (∃ (b45 : Bool), (((World.cell? w42 a44) = (some (.bool b45))) ∧
                (br b45
                 (ixr ⟨m11, 0, none⟩ 12 n21 12 (fun a46 =>
                (ixr a46 12 n41 1 (fun a47 =>
                 (∃ (b48 : Bool), (((World.cell? w42 a47) = (some (.bool b48))) ∧
                  (br b48
                   (ixr ⟨m11, 0, none⟩ 12 n17 12 (fun a49 =>
                  (ixr a49 12 n41 1 (fun a50 =>
                   (∃ (b51 : Bool), (((World.cell? w42 a50) = (some (.bool b51))) ∧
                    (br (!b51) (R (.returned (.bool Bool.false)) w42) (k40 (IntKind.wrap .i64 (n41 + (1 : Int))) w42)))))))) (k40 (IntKind.wrap .i64 (n41 + (1 : Int))) w42)))))))) (k40 (IntKind.wrap .i64 (n41 + (1 : Int))) w42)))))))) (k20 (IntKind.wrap .i64 (n21 + (1 : Int))) w42))) (0 : Int) w39)) (fun k52 =>
            (dr w25 (fun w53 =>
             (ixr ⟨m11, 0, none⟩ 12 n17 12 (fun a54 =>
              (ixr a54 12 n21 1 (fun a55 =>
               (∃ (b56 : Bool), (((World.cell? w53 a55) = (some (.bool b56))) ∧
                (ixr ⟨m13, 0, none⟩ 12 n21 12 (fun a57 =>
                (ixr a57 12 n17 1 (fun a58 =>
                 (∃ (b59 : Bool), (((World.cell? w53 a58) = (some (.bool b59))) ∧
                  (br (!(b56 == b59)) (R (.returned (.bool Bool.false)) w53)
                   (br s24.1
                   (ixr ⟨m11, 0, none⟩ 12 n17 12 (fun a60 =>
                  (ixr a60 12 n21 1 (fun a61 =>
                   (∃ (b62 : Bool), (((World.cell? w53 a61) = (some (.bool b62))) ∧
                    (br (!b62) (R (.returned (.bool Bool.false)) w53)
                     (ixr ⟨m11, 0, none⟩ 12 n17 12 (fun a63 =>
                    (ixr a63 12 n21 1 (fun a64 =>
                     (∃ (b65 : Bool), (((World.cell? w53 a64) = (some (.bool b65))) ∧
                      (br b65
                       (br (decide (n21 ≥ n17)) (R (.returned (.bool Bool.false)) w53) (k52 () w53)) (k52 () w53)))))))))))))))
                   (ixr ⟨m11, 0, none⟩ 12 n17 12 (fun a66 =>
                  (ixr a66 12 n21 1 (fun a67 =>
                   (∃ (b68 : Bool), (((World.cell? w53 a67) = (some (.bool b68))) ∧
                    (br b68
                     (br (decide (n21 ≥ n17)) (R (.returned (.bool Bool.false)) w53) (k52 () w53)) (k52 () w53)))))))))))))))))))))))))))))))) (Bool.false, (0 : Int)) w22) (k16 (IntKind.wrap .i64 (n17 + (1 : Int))) w22))) (0 : Int) w19)) (fun k69 =>
        (br (decide (n17 < (m9 : Int)))
          (br (decide (n17 < (12 : Int))) (k69 () w18) (R (.returned (.bool Bool.true)) w18)) (R (.returned (.bool Bool.true)) w18))))) (0 : Int) w15)) (fun k70 =>
      (lp (σ := Int) (fun _ k71 n72 w73 =>
       (jn (σ := PUnit) (fun _ _ w74 =>
        (dr w74 (fun w75 =>
         (ixa p8 m9 n72 6 (fun a76 =>
          (∃ (n77 : Int), (((World.cell? w75 a76) = (some (.int .u32 n77))) ∧
           (ixa p8 m9 n72 6 (fun a78 =>
           (∃ (n79 : Int), (((World.cell? w75 a78) = (some (.int .u32 n79))) ∧
            (cl Try.prog 15 #[(.slice p8 m9 m10), (.int .u32 n77)] w75 (fun v80 w81 =>
            (∃ (p82 : (Option Addr)) (m83 : Nat) (m84 : Nat), ((v80 = (.slice p82 m83 m84)) ∧
             ((hold [(.cell a78 (.int .u32 n79))] w81) ∧
             (cl Try.prog 17 #[(.slice p8 m9 m10), (.int .u32 n79)] w81 (fun v85 w86 =>
             (∃ (p87 : (Option Addr)) (m88 : Nat) (m89 : Nat), ((v85 = (.slice p87 m88 m89)) ∧
              (lp (σ := (Int × Int)) (fun _ k90 s91 w92 =>
              (br (decide (s91.2 < (m9 : Int)))
                (lp (σ := Int) (fun _ k93 n94 w95 =>
               (br (decide (n94 < (m83 : Int)))
                 (dr w95 (fun w96 =>
                (ixr ⟨m11, 0, none⟩ 12 n72 12 (fun a97 =>
                 (ixr a97 12 s91.2 1 (fun a98 =>
                  (∃ (b99 : Bool), (((World.cell? w96 a98) = (some (.bool b99))) ∧
                   (br b99
                    (ixr ⟨m11, 0, none⟩ 12 n72 12 (fun a100 =>
                   (ixr a100 12 s91.2 1 (fun a101 =>
                    (st1 a101 (.bool Bool.true) w96 (fun w102 => (k93 (IntKind.wrap .i64 (n94 + (1 : Int))) w102)))))))
                    (ixa p82 m83 n94 1 (fun a103 =>
                   (∃ (n104 : Int), (((World.cell? w96 a103) = (some (.int .u32 n104))) ∧
                    (ixa p8 m9 s91.2 6 (fun a105 =>
                    (∃ (n106 : Int), (((World.cell? w96 a105) = (some (.int .u32 n106))) ∧
                     (ixr ⟨m11, 0, none⟩ 12 n72 12 (fun a107 =>
                     (ixr a107 12 s91.2 1 (fun a108 =>
                      (st1 a108 (.bool (n104 == n106)) w96 (fun w109 => (k93 (IntKind.wrap .i64 (n94 + (1 : Int))) w109))))))))))))))))))))))))
                 (lp (σ := Int) (fun _ k110 n111 w112 =>
                (br (decide (n111 < (m88 : Int)))
                  (dr w112 (fun w113 =>
                 (ixr ⟨m13, 0, none⟩ 12 n72 12 (fun a114 =>
                  (ixr a114 12 s91.2 1 (fun a115 =>
                   (∃ (b116 : Bool), (((World.cell? w113 a115) = (some (.bool b116))) ∧
                    (br b116
                     (ixr ⟨m13, 0, none⟩ 12 n72 12 (fun a117 =>
                    (ixr a117 12 s91.2 1 (fun a118 =>
                     (st1 a118 (.bool Bool.true) w113 (fun w119 => (k110 (IntKind.wrap .i64 (n111 + (1 : Int))) w119)))))))
                     (ixa p87 m88 n111 1 (fun a120 =>
                    (∃ (n121 : Int), (((World.cell? w113 a120) = (some (.int .u32 n121))) ∧
                     (ixa p8 m9 s91.2 6 (fun a122 =>
                     (∃ (n123 : Int), (((World.cell? w113 a122) = (some (.int .u32 n123))) ∧
                      (ixr ⟨m13, 0, none⟩ 12 n72 12 (fun a124 =>
                      (ixr a124 12 s91.2 1 (fun a125 =>
                       (st1 a125 (.bool (n121 == n123)) w113 (fun w126 => (k110 (IntKind.wrap .i64 (n111 + (1 : Int))) w126))))))))))))))))))))))))
                  (ixr ⟨m11, 0, none⟩ 12 n72 12 (fun a127 =>
                 (ixr a127 12 s91.2 1 (fun a128 =>
                  (∃ (b129 : Bool), (((World.cell? w112 a128) = (some (.bool b129))) ∧
                   (br b129
                    (ixr ⟨m13, 0, none⟩ 12 n72 12 (fun a130 =>
                   (ixr a130 12 s91.2 1 (fun a131 =>
                    (∃ (b132 : Bool), (((World.cell? w112 a131) = (some (.bool b132))) ∧
                     (br b132
                      (k90 ((IntKind.wrap .i64 ((IntKind.wrap .i64 (s91.1 + (1 : Int))) + (1 : Int))), (IntKind.wrap .i64 (s91.2 + (1 : Int)))) w112)
                      (k90 ((IntKind.wrap .i64 (s91.1 + (1 : Int))), (IntKind.wrap .i64 (s91.2 + (1 : Int)))) w112))))))))
                    (ixr ⟨m13, 0, none⟩ 12 n72 12 (fun a133 =>
                   (ixr a133 12 s91.2 1 (fun a134 =>
                    (∃ (b135 : Bool), (((World.cell? w112 a134) = (some (.bool b135))) ∧
                     (br b135
                      (k90 ((IntKind.wrap .i64 (s91.1 + (1 : Int))), (IntKind.wrap .i64 (s91.2 + (1 : Int)))) w112) (k90 (s91.1, (IntKind.wrap .i64 (s91.2 + (1 : Int)))) w112))))))))))))))))) (0 : Int) w95))) (0 : Int) w92)
                (br (s91.1 != (IntKind.wrap .i64 ((m83 : Int) + (m88 : Int)))) (R (.returned (.bool Bool.false)) w92)
                (lp (σ := Int) (fun _ k136 n137 w138 =>
               (br (decide (n137 < (m83 : Int)))
                 (dr w138 (fun w139 =>
                (ixa p82 m83 n137 1 (fun a140 =>
                 (∃ (n141 : Int), (((World.cell? w139 a140) = (some (.int .u32 n141))) ∧
                  (ixa p82 m83 (IntKind.wrap .i64 (n137 - (1 : Int))) 1 (fun a142 =>
                  (∃ (n143 : Int), (((World.cell? w139 a142) = (some (.int .u32 n143))) ∧
                   (br (decide (n141 ≤ n143)) (R (.returned (.bool Bool.false)) w139) (k136 (IntKind.wrap .i64 (n137 + (1 : Int))) w139)))))))))))) (k71 (IntKind.wrap .i64 (n72 + (1 : Int))) w138))) (1 : Int) w92)))) ((0 : Int), (0 : Int)) w86)))) (fun _ _ => False)))))) (fun _ _ => False))))))))))))) (fun k144 =>
        (br (decide (n72 < (m9 : Int))) (br (decide (n72 < (12 : Int))) (k144 () w73) (k70 () w73)) (k70 () w73))))) (0 : Int) w14)))))))))) (fun x145 w146 => (R (.panicked x145) w146)))))) (fun x147 w148 => (R (.panicked x147) w148)))))))) (fun x149 w150 => (R (.panicked x149) w150)))

def glaw14_TreeBoth_an : Ann := (.seq .leaf (.seq (.seq .leaf (.cond (.seq .leaf .leaf) .leaf)) (.seq (.seq .leaf (.cond (.seq .leaf .leaf) .leaf)) (.seq .leaf (.seq .leaf (.join (.seq .leaf (.block (.loop (.join (.seq .leaf (.cond .leaf .leaf)) [27, 28, 29, 30, 31, 32, 33, 34] [] (.seq (.block (.seq (.plan [.take 0, .take 1, .take 2, .take 3, .take 4, .take 5, .take 7, .take 8, .take 9, .take 10, .take 11, .take 12, .eff 6, .eff 13, .take 14, .take 15]) (.seq .leaf (.seq (.seq .leaf (.block (.loop (.seq (.seq .leaf (.cond .leaf .leaf)) (.seq (.block (.seq (.seq .leaf (.block (.loop (.seq (.seq .leaf (.cond .leaf .leaf)) (.seq (.block (.plan [.take 0, .take 1, .take 2, .take 3, .take 4, .take 5, .take 6, .take 7, .take 8, .take 9, .take 10, .take 11, .take 12, .take 13, .take 14, .take 15, .take 16, .take 17, .take 18, .take 19, .take 20, .eff 21])) .leaf)) [11, 57, 58, 59, 60, 61, 62, 63, 64, 65, 66, 67, 68, 69, 70, 71, 72, 73, 74, 75, 76, 77, 78, 79, 80, 81, 82, 83] [(11, (.int .i64))]))) (.seq (.seq .leaf (.block (.loop (.seq (.seq .leaf (.cond .leaf .leaf)) (.seq (.block (.plan [.take 0, .take 1, .take 2, .take 3, .take 4, .take 5, .take 6, .take 7, .take 8, .take 9, .take 10, .take 11, .take 12, .take 13, .take 14, .take 15, .take 16, .take 17, .take 18, .take 19, .take 20, .eff 21])) .leaf)) [12, 84, 85, 86, 87, 88, 89, 90, 91, 92, 93, 94, 95, 96, 97, 98, 99, 100, 101, 102, 103, 104, 105, 106, 107, 108, 109, 110] [(12, (.int .i64))]))) (.seq (.seq .leaf (.cond .leaf .leaf)) (.seq .leaf (.cond .leaf .leaf)))))) .leaf)) [9, 10, 11, 12, 51, 52, 53, 54, 55, 56, 57, 58, 59, 60, 61, 62, 63, 64, 65, 66, 67, 68, 69, 70, 71, 72, 73, 74, 75, 76, 77, 78, 79, 80, 81, 82, 83, 84, 85, 86, 87, 88, 89, 90, 91, 92, 93, 94, 95, 96, 97, 98, 99, 100, 101, 102, 103, 104, 105, 106, 107, 108, 109, 110, 111, 112, 113, 114, 115, 116, 117, 118, 119, 120, 121, 122, 123, 124] [(9, (.int .i64)), (10, (.int .i64))]))) (.seq (.seq .leaf (.cond (.seq .leaf .leaf) .leaf)) (.seq .leaf (.block (.loop (.seq (.seq .leaf (.cond .leaf .leaf)) (.seq (.block (.seq (.plan [.take 0, .take 1, .take 2, .take 3, .take 4, .take 5, .take 6, .take 7, .take 8, .take 9]) (.cond (.seq .leaf .leaf) .leaf))) .leaf)) [2, 13, 132, 133, 134, 135, 136, 137, 138, 139, 140, 141, 142, 143, 144, 145, 146, 147] [(13, (.int .i64))])))))))) .leaf)) [2, 6, 7, 8, 9, 10, 11, 12, 13, 27, 28, 29, 30, 31, 32, 33, 34, 35, 36, 37, 38, 39, 40, 41, 42, 43, 44, 45, 46, 47, 48, 49, 50, 51, 52, 53, 54, 55, 56, 57, 58, 59, 60, 61, 62, 63, 64, 65, 66, 67, 68, 69, 70, 71, 72, 73, 74, 75, 76, 77, 78, 79, 80, 81, 82, 83, 84, 85, 86, 87, 88, 89, 90, 91, 92, 93, 94, 95, 96, 97, 98, 99, 100, 101, 102, 103, 104, 105, 106, 107, 108, 109, 110, 111, 112, 113, 114, 115, 116, 117, 118, 119, 120, 121, 122, 123, 124, 125, 126, 127, 128, 129, 130, 131, 132, 133, 134, 135, 136, 137, 138, 139, 140, 141, 142, 143, 144, 145, 146, 147] [(6, (.int .i64))]))) [2, 6, 7, 8, 9, 10, 11, 12, 13, 27, 28, 29, 30, 31, 32, 33, 34, 35, 36, 37, 38, 39, 40, 41, 42, 43, 44, 45, 46, 47, 48, 49, 50, 51, 52, 53, 54, 55, 56, 57, 58, 59, 60, 61, 62, 63, 64, 65, 66, 67, 68, 69, 70, 71, 72, 73, 74, 75, 76, 77, 78, 79, 80, 81, 82, 83, 84, 85, 86, 87, 88, 89, 90, 91, 92, 93, 94, 95, 96, 97, 98, 99, 100, 101, 102, 103, 104, 105, 106, 107, 108, 109, 110, 111, 112, 113, 114, 115, 116, 117, 118, 119, 120, 121, 122, 123, 124, 125, 126, 127, 128, 129, 130, 131, 132, 133, 134, 135, 136, 137, 138, 139, 140, 141, 142, 143, 144, 145, 146, 147] [] (.seq (.seq .leaf (.block (.loop (.join (.seq .leaf (.cond .leaf .leaf)) [148, 149, 150, 151, 152, 153, 154, 155] [] (.seq (.block (.seq .leaf (.block (.loop (.seq (.seq .leaf (.cond .leaf .leaf)) (.seq (.block (.seq .leaf (.seq (.seq .leaf (.block (.loop (.seq (.seq .leaf (.cond .leaf .leaf)) (.seq (.block (.plan [.take 0, .take 1, .take 2, .take 3, .take 4, .take 5, .take 6, .take 7, .take 8, .take 9, .take 10, .take 11, .take 12, .take 13, .take 14, .take 15, .take 16, .take 17])) .leaf)) [16, 17, 164, 165, 166, 167, 168, 169, 170, 171, 172, 173, 174, 175, 176, 177, 178, 179, 180, 181, 182, 183, 184, 185, 186, 187, 188, 189, 190] [(16, .bool), (17, (.int .i64))]))) (.join (.seq (.plan [.take 0, .take 1, .take 2, .take 3, .take 4, .take 5, .take 6, .take 7, .take 8, .take 9, .take 10, .take 11, .take 12, .take 13, .take 14, .take 15, .take 16, .take 17, .take 18, .take 19, .take 20, .take 21, .take 22, .take 23, .take 24, .take 25, .take 26, .take 27, .take 28, .take 29, .take 30, .take 31, .take 32, .take 33]) (.cond (.seq .leaf .leaf) .leaf)) [2, 191, 192, 193, 194, 195, 196, 197, 198, 199, 200, 201, 202, 203, 204, 205, 206, 207, 208, 209, 210, 211, 212, 213, 214, 215, 216, 217, 218, 219, 220, 221, 222, 223, 224] [] (.seq .leaf (.block (.loop (.seq (.seq .leaf (.cond .leaf .leaf)) (.seq (.block (.seq .leaf (.cond (.seq .leaf .leaf) .leaf))) .leaf)) [2, 18, 225, 226, 227, 228, 229, 230, 231, 232, 233, 234, 235, 236, 237, 238, 239, 240, 241, 242, 243, 244, 245, 246, 247, 248, 249, 250] [(18, (.int .i64))]))))))) .leaf)) [2, 15, 16, 17, 18, 158, 159, 160, 161, 162, 163, 164, 165, 166, 167, 168, 169, 170, 171, 172, 173, 174, 175, 176, 177, 178, 179, 180, 181, 182, 183, 184, 185, 186, 187, 188, 189, 190, 191, 192, 193, 194, 195, 196, 197, 198, 199, 200, 201, 202, 203, 204, 205, 206, 207, 208, 209, 210, 211, 212, 213, 214, 215, 216, 217, 218, 219, 220, 221, 222, 223, 224, 225, 226, 227, 228, 229, 230, 231, 232, 233, 234, 235, 236, 237, 238, 239, 240, 241, 242, 243, 244, 245, 246, 247, 248, 249, 250] [(15, (.int .i64))])))) .leaf)) [2, 14, 15, 16, 17, 18, 148, 149, 150, 151, 152, 153, 154, 155, 156, 157, 158, 159, 160, 161, 162, 163, 164, 165, 166, 167, 168, 169, 170, 171, 172, 173, 174, 175, 176, 177, 178, 179, 180, 181, 182, 183, 184, 185, 186, 187, 188, 189, 190, 191, 192, 193, 194, 195, 196, 197, 198, 199, 200, 201, 202, 203, 204, 205, 206, 207, 208, 209, 210, 211, 212, 213, 214, 215, 216, 217, 218, 219, 220, 221, 222, 223, 224, 225, 226, 227, 228, 229, 230, 231, 232, 233, 234, 235, 236, 237, 238, 239, 240, 241, 242, 243, 244, 245, 246, 247, 248, 249, 250] [(14, (.int .i64))]))) (.seq .leaf .leaf))))))))

set_option maxRecDepth 100000 in
theorem glaw14_TreeBoth_ok (x0 : Option Addr) (x0l x0c : Nat) (R : Ending → World → Prop) (w : World) (h : glaw14_TreeBoth x0 x0l x0c R w) : Cs Try.prog 4 (#[(.slice x0 x0l x0c)] : Array Value) w R :=
  fn_sound (ty := []) (ann := glaw14_TreeBoth_an) (N := 251) (by kernel_rfl) (by kernel_rfl) Try.func4 rfl (by kernel_rfl) (by show 1 ≤ 251; decide) (by kernel_rfl)
    (Eq.mpr (show cdA Try.prog [] glaw14_TreeBoth_an _ _ _ w = glaw14_TreeBoth x0 x0l x0c R w by kernel_rfl) h)

/- "girandole/girandolelaw14.TreeRefs" (5) -/
set_option maxRecDepth 100000 in
def glaw14_TreeRefs (x0 : Option Addr) (x0l x0c : Nat) (R : Ending → World → Prop) (w : World) : Prop :=
  (cl Try.prog 11 #[] w (fun v0 w1 =>
 (∃ (b2 : Bool), ((v0 = (.bool b2)) ∧
  (br (!b2) (R (.returned (.bool Bool.false)) w1)
   (br (decide ((x0l : Int) > (120 : Int))) (R (.returned (.bool Bool.true)) w1)
   (cl Try.prog 12 #[(.slice x0 x0l x0c)] w1 (fun v3 w4 =>
  (∃ (p5 : (Option Addr)), ((v3 = (.pointer p5)) ∧
   (cl Try.prog 13 #[(.pointer p5), (.int .i64 (12 : Int))] w4 (fun v6 w7 =>
   (∃ (p8 : (Option Addr)) (m9 : Nat) (m10 : Nat), ((v6 = (.slice p8 m9 m10)) ∧
    (lp (σ := Int) (fun _ k11 n12 w13 =>
    (br (decide (n12 < (m9 : Int)))
      (ixa p8 m9 n12 6 (fun a14 =>
     (∃ (n15 : Int), (((World.cell? w13 a14) = (some (.int .u32 n15))) ∧
      (cl Try.prog 15 #[(.slice p8 m9 m10), (.int .u32 n15)] w13 (fun v16 w17 =>
      (∃ (p18 : (Option Addr)) (m19 : Nat) (m20 : Nat), ((v16 = (.slice p18 m19 m20)) ∧
       (lp (σ := (Int × Int)) (fun _ k21 s22 w23 =>
       (br (decide (s22.2 < n12))
         (lp (σ := (Bool × Int)) (fun _ k24 s25 w26 =>
        (ixa p8 m9 n12 6 (fun a27 =>
         (∃ (p28 : (Option Addr)) (m29 : Nat) (m30 : Nat), (((World.cell? w26 (Addr.add a27 2)) = (some (.slice p28 m29 m30))) ∧
          (br (decide (s25.2 < (m29 : Int)))
           (ixa p8 m9 n12 6 (fun a31 =>
          (∃ (p32 : (Option Addr)) (m33 : Nat) (m34 : Nat), (((World.cell? w26 (Addr.add a31 2)) = (some (.slice p32 m33 m34))) ∧
           (ixa p32 m33 s25.2 1 (fun a35 =>
           (∃ (n36 : Int), (((World.cell? w26 a35) = (some (.int .u32 n36))) ∧
            (cl Try.prog 15 #[(.slice p8 m9 m10), (.int .u32 n36)] w26 (fun v37 w38 =>
            (∃ (p39 : (Option Addr)) (m40 : Nat) (m41 : Nat), ((v37 = (.slice p39 m40 m41)) ∧
             (jn (σ := Bool) (fun _ b42 w43 =>
             (lp (σ := (Bool × Int)) (fun _ k44 s45 w46 =>
              (br (decide (s45.2 < (m40 : Int)))
                (dr w46 (fun w47 =>
               (br s45.1
                 (k44 (Bool.true, (IntKind.wrap .i64 (s45.2 + (1 : Int)))) w47)
                 (ixa p39 m40 s45.2 1 (fun a48 =>
                (∃ (n49 : Int), (((World.cell? w47 a48) = (some (.int .u32 n49))) ∧
                 (ixa p8 m9 s22.2 6 (fun a50 =>
                 (∃ (n51 : Int), (((World.cell? w47 a50) = (some (.int .u32 n51))) ∧
                  (k44 ((n49 == n51), (IntKind.wrap .i64 (s45.2 + (1 : Int)))) w47)))))))))))) (k24 (s45.1, (IntKind.wrap .i64 (s25.2 + (1 : Int)))) w46))) (b42, (0 : Int)) w43)) (fun k52 =>
             (br s25.1 (k52 Bool.true w38)
               (ixa p8 m9 s22.2 6 (fun a53 =>
              (∃ (n54 : Int), (((World.cell? w38 a53) = (some (.int .u32 n54))) ∧ (k52 (n36 == n54) w38))))))))))) (fun x55 w56 => (R (.panicked x55) w56)))))))))))
           (br (!s25.1) (k21 (s22.1, (IntKind.wrap .i64 (s22.2 + (1 : Int)))) w26)
           (dr w26 (fun w57 =>
          (br (decide (s22.1 ≥ (m19 : Int))) (R (.returned (.bool Bool.false)) w57)
            (ixa p18 m19 s22.1 1 (fun a58 =>
           (∃ (n59 : Int), (((World.cell? w57 a58) = (some (.int .u32 n59))) ∧
            (ixa p8 m9 s22.2 6 (fun a60 =>
            (∃ (n61 : Int), (((World.cell? w57 a60) = (some (.int .u32 n61))) ∧
             (br (n59 != n61) (R (.returned (.bool Bool.false)) w57)
              (k21 ((IntKind.wrap .i64 (s22.1 + (1 : Int))), (IntKind.wrap .i64 (s22.2 + (1 : Int)))) w57)))))))))))))))))))) (Bool.false, (0 : Int)) w23)
         (br (s22.1 != (m19 : Int)) (R (.returned (.bool Bool.false)) w23) (k11 (IntKind.wrap .i64 (n12 + (1 : Int))) w23)))) ((0 : Int), (0 : Int)) w17)))) (fun x62 w63 => (R (.panicked x62) w63))))))) (R (.returned (.bool Bool.true)) w13))) (0 : Int) w7)))) (fun x64 w65 => (R (.panicked x64) w65)))))) (fun x66 w67 => (R (.panicked x66) w67)))))))) (fun x68 w69 => (R (.panicked x68) w69)))

def glaw14_TreeRefs_an : Ann := (.seq .leaf (.seq (.seq .leaf (.cond (.seq .leaf .leaf) .leaf)) (.seq (.seq .leaf (.cond (.seq .leaf .leaf) .leaf)) (.seq .leaf (.seq (.seq .leaf (.block (.loop (.seq (.seq .leaf (.cond .leaf .leaf)) (.seq (.block (.seq .leaf (.seq .leaf (.seq (.seq .leaf (.block (.loop (.seq (.seq .leaf (.cond .leaf .leaf)) (.seq (.block (.seq .leaf (.seq (.seq .leaf (.block (.loop (.seq (.seq .leaf (.cond .leaf .leaf)) (.seq (.block (.seq .leaf (.seq .leaf (.join .leaf [8, 60, 61, 62, 63, 64, 65, 66, 67, 68, 69] [(8, .bool)] (.seq .leaf (.block (.loop (.seq (.seq .leaf (.cond .leaf .leaf)) (.seq (.block (.plan [.take 0, .take 1, .take 2, .take 3, .take 4, .take 5, .take 6, .take 7, .take 8, .take 9, .take 10, .take 11, .take 12, .take 13])) .leaf)) [8, 12, 70, 71, 72, 73, 74, 75, 76, 77, 78, 79, 80, 81, 82, 83, 84, 85, 86, 87, 88] [(8, .bool), (12, (.int .i64))]))))))) .leaf)) [8, 9, 10, 11, 12, 39, 40, 41, 42, 43, 44, 45, 46, 47, 48, 49, 50, 51, 52, 53, 54, 55, 56, 57, 58, 59, 60, 61, 62, 63, 64, 65, 66, 67, 68, 69, 70, 71, 72, 73, 74, 75, 76, 77, 78, 79, 80, 81, 82, 83, 84, 85, 86, 87, 88] [(8, .bool), (9, (.int .i64))]))) (.seq (.seq .leaf (.cond .leaf .leaf)) (.seq (.seq (.plan [.take 0, .take 1, .take 2, .take 3, .take 4, .take 5, .take 6, .take 7, .take 8, .take 9, .take 10, .take 11, .take 12, .take 13, .take 14, .take 15]) (.cond (.seq .leaf .leaf) .leaf)) .leaf))))) .leaf)) [2, 6, 7, 8, 9, 10, 11, 12, 34, 35, 36, 37, 38, 39, 40, 41, 42, 43, 44, 45, 46, 47, 48, 49, 50, 51, 52, 53, 54, 55, 56, 57, 58, 59, 60, 61, 62, 63, 64, 65, 66, 67, 68, 69, 70, 71, 72, 73, 74, 75, 76, 77, 78, 79, 80, 81, 82, 83, 84, 85, 86, 87, 88, 89, 90, 91, 92, 93, 94, 95, 96, 97, 98, 99, 100, 101, 102, 103, 104, 105, 106, 107, 108] [(6, (.int .i64)), (7, (.int .i64))]))) (.seq .leaf (.cond (.seq .leaf .leaf) .leaf)))))) .leaf)) [2, 4, 5, 6, 7, 8, 9, 10, 11, 12, 21, 22, 23, 24, 25, 26, 27, 28, 29, 30, 31, 32, 33, 34, 35, 36, 37, 38, 39, 40, 41, 42, 43, 44, 45, 46, 47, 48, 49, 50, 51, 52, 53, 54, 55, 56, 57, 58, 59, 60, 61, 62, 63, 64, 65, 66, 67, 68, 69, 70, 71, 72, 73, 74, 75, 76, 77, 78, 79, 80, 81, 82, 83, 84, 85, 86, 87, 88, 89, 90, 91, 92, 93, 94, 95, 96, 97, 98, 99, 100, 101, 102, 103, 104, 105, 106, 107, 108, 109, 110, 111, 112] [(4, (.int .i64))]))) (.seq .leaf .leaf))))))

set_option maxRecDepth 100000 in
theorem glaw14_TreeRefs_ok (x0 : Option Addr) (x0l x0c : Nat) (R : Ending → World → Prop) (w : World) (h : glaw14_TreeRefs x0 x0l x0c R w) : Cs Try.prog 5 (#[(.slice x0 x0l x0c)] : Array Value) w R :=
  fn_sound (ty := []) (ann := glaw14_TreeRefs_an) (N := 113) (by kernel_rfl) (by kernel_rfl) Try.func5 rfl (by kernel_rfl) (by show 1 ≤ 113; decide) (by kernel_rfl)
    (Eq.mpr (show cdA Try.prog [] glaw14_TreeRefs_an _ _ _ w = glaw14_TreeRefs x0 x0l x0c R w by kernel_rfl) h)

/- "girandole/girandolelaw14.begun" (11) -/
set_option maxRecDepth 100000 in
def glaw14_begun (R : Ending → World → Prop) (w : World) : Prop :=
  (al #[(.int .u32 (1 : Int))] 23 w (fun m0 w1 =>
 (al #[(.int .u32 (2 : Int))] 23 w1 (fun m2 w3 =>
  (al #[(.int .u32 (1 : Int)), (.int .i64 (1 : Int)), (.slice none 0 0), (.int .i64 (0 : Int)), (.int .i64 (0 : Int)), (.int .i64 (0 : Int)), (.int .u32 (2 : Int)), (.int .i64 (2 : Int)), (.slice (some ⟨m0, 0, none⟩) 1 1), (.int .i64 (0 : Int)), (.int .i64 (0 : Int)), (.int .i64 (0 : Int)), (.int .u32 (3 : Int)), (.int .i64 (3 : Int)), (.slice (some ⟨m2, 0, none⟩) 1 1), (.int .i64 (0 : Int)), (.int .i64 (0 : Int)), (.int .i64 (0 : Int))] 31 w3 (fun m4 w5 =>
   (cl Try.prog 15 #[(.slice (some ⟨m4, 0, none⟩) 3 3), (.int .u32 (3 : Int))] w5 (fun v6 w7 =>
    (∃ (p8 : (Option Addr)) (m9 : Nat) (m10 : Nat), ((v6 = (.slice p8 m9 m10)) ∧
     (cl Try.prog 17 #[(.slice (some ⟨m4, 0, none⟩) 3 3), (.int .u32 (1 : Int))] w7 (fun v11 w12 =>
     (∃ (p13 : (Option Addr)) (m14 : Nat) (m15 : Nat), ((v11 = (.slice p13 m14 m15)) ∧
      (br ((m9 : Int) == (2 : Int))
       (ixa p8 m9 (0 : Int) 1 (fun a16 =>
      (∃ (n17 : Int), (((World.cell? w12 a16) = (some (.int .u32 n17))) ∧
       (br (n17 == (1 : Int))
        (br ((m14 : Int) == (2 : Int))
        (ixa p13 m14 (1 : Int) 1 (fun a18 =>
       (∃ (n19 : Int), (((World.cell? w12 a18) = (some (.int .u32 n19))) ∧
        (br (n19 == (3 : Int))
         (cl Try.prog 15 #[(.slice none 0 0), (.int .u32 (1 : Int))] w12 (fun v20 w21 =>
        (∃ (p22 : (Option Addr)) (m23 : Nat) (m24 : Nat), ((v20 = (.slice p22 m23 m24)) ∧ (R (.returned (.bool ((m23 : Int) == (0 : Int)))) w21)))) (fun x25 w26 => (R (.panicked x25) w26))) (R (.returned (.bool Bool.false)) w12)))))) (R (.returned (.bool Bool.false)) w12)) (R (.returned (.bool Bool.false)) w12)))))) (R (.returned (.bool Bool.false)) w12))))) (fun x27 w28 => (R (.panicked x27) w28)))))) (fun x29 w30 => (R (.panicked x29) w30)))))))))

def glaw14_begun_an : Ann := (.seq .leaf (.seq .leaf (.seq .leaf (.seq .leaf .leaf))))

set_option maxRecDepth 100000 in
theorem glaw14_begun_ok (R : Ending → World → Prop) (w : World) (h : glaw14_begun R w) : Cs Try.prog 11 (#[] : Array Value) w R :=
  fn_sound (ty := []) (ann := glaw14_begun_an) (N := 39) (by kernel_rfl) (by kernel_rfl) Try.func11 rfl (by kernel_rfl) (by show 0 ≤ 39; decide) (by kernel_rfl)
    (Eq.mpr (show cdA Try.prog [] glaw14_begun_an _ _ _ w = glaw14_begun R w by kernel_rfl) h)

/- "girandole/girandoleplay.Made" (12) -/
set_option maxRecDepth 100000 in
def gplay_Made (x0 : Option Addr) (x0l x0c : Nat) (R : Ending → World → Prop) (w : World) : Prop :=
  (al #[(.slice x0 x0l x0c), (.int .i64 (0 : Int))] 87 w (fun m0 w1 => (R (.returned (.pointer (some ⟨m0, 0, none⟩))) w1)))

def gplay_Made_an : Ann := (.seq .leaf (.seq .leaf .leaf))

set_option maxRecDepth 100000 in
theorem gplay_Made_ok (x0 : Option Addr) (x0l x0c : Nat) (R : Ending → World → Prop) (w : World) (h : gplay_Made x0 x0l x0c R w) : Cs Try.prog 12 (#[(.slice x0 x0l x0c)] : Array Value) w R :=
  fn_sound (ty := []) (ann := gplay_Made_an) (N := 6) (by kernel_rfl) (by kernel_rfl) Try.func12 rfl (by kernel_rfl) (by show 1 ≤ 6; decide) (by kernel_rfl)
    (Eq.mpr (show cdA Try.prog [] gplay_Made_an _ _ _ w = gplay_Made x0 x0l x0c R w by kernel_rfl) h)

/- "(*girandole/girandoleplay.Picks).Frames" (13) -/
set_option maxRecDepth 100000 in
def gplay_Picks_Frames (x0 : Option Addr) (x1 : Int) (R : Ending → World → Prop) (w : World) : Prop :=
  (lp (σ := (((Option Addr) × (Nat × Nat)) × Int)) (fun _ k0 s1 w2 =>
 (jn (σ := PUnit) (fun _ _ w3 =>
  (cl Try.prog 41 #[(.pointer x0), (.slice s1.1.1 s1.1.2.1 s1.1.2.2), (.int .i64 s1.2), (.int .i64 (4 : Int))] w3 (fun v4 w5 =>
   (∃ (n6 : Int) (n7 : Int) (p8 : (Option Addr)) (m9 : Nat) (m10 : Nat) (n11 : Int) (n12 : Int) (n13 : Int) (p14 : (Option Addr)) (m15 : Nat) (m16 : Nat), ((v4 = (.tuple #[(.agg #[(.int .u32 n6), (.int .i64 n7), (.slice p8 m9 m10), (.int .i64 n11), (.int .i64 n12), (.int .i64 n13)]), (.slice p14 m15 m16)])) ∧
    (al (zc Try.prog 31) 31 w5 (fun m17 w18 =>
    (stN ⟨m17, 0, none⟩ [(.int .u32 n6), (.int .i64 n7), (.slice p8 m9 m10), (.int .i64 n11), (.int .i64 n12), (.int .i64 n13)] w18 (fun w19 =>
     (∃ (p20 : (Option Addr)) (m21 : Nat) (m22 : Nat), (((World.cell? w19 (Addr.add ⟨m17, 0, none⟩ 2)) = (some (.slice p20 m21 m22))) ∧
      (∃ (n23 : Int), (((World.cell? w19 (Addr.add ⟨m17, 0, none⟩ 1)) = (some (.int .i64 n23))) ∧
      (lp (σ := (Bool × Int)) (fun _ k24 s25 w26 =>
      (∃ (p27 : (Option Addr)) (m28 : Nat) (m29 : Nat), (((World.cell? w26 (Addr.add ⟨m17, 0, none⟩ 2)) = (some (.slice p27 m28 m29))) ∧
       (br (decide (s25.2 < (m28 : Int)))
        (dr w26 (fun w30 =>
       (br s25.1
         (∃ (p31 : (Option Addr)) (m32 : Nat) (m33 : Nat), (((World.cell? w30 (Addr.add ⟨m17, 0, none⟩ 2)) = (some (.slice p31 m32 m33))) ∧
        (ixa p31 m32 s25.2 1 (fun a34 =>
        (∃ (n35 : Int), (((World.cell? w30 a34) = (some (.int .u32 n35))) ∧
         (∃ (n36 : Int), (((World.cell? w30 ⟨m17, 0, none⟩) = (some (.int .u32 n36))) ∧
         (k24 ((n35 != n36), (IntKind.wrap .i64 (s25.2 + (1 : Int)))) w30)))))))))
         (k24 (Bool.false, (IntKind.wrap .i64 (s25.2 + (1 : Int)))) w30))))
        (dr w26 (fun w37 =>
       (br s25.1
         (∃ (n38 : Int), (((World.cell? w37 ⟨m17, 0, none⟩) = (some (.int .u32 n38))) ∧
        (br (decide (n38 > (0 : Int)))
         (br ((s1.1.2.1 : Int) == (0 : Int))
         (∃ (n39 : Int) (n40 : Int) (p41 : (Option Addr)) (m42 : Nat) (m43 : Nat) (n44 : Int) (n45 : Int) (n46 : Int), ((cellsAt w37 ⟨m17, 0, none⟩ [(.int .u32 n39), (.int .i64 n40), (.slice p41 m42 m43), (.int .i64 n44), (.int .i64 n45), (.int .i64 n46)]) ∧
        (al #[(.int .u32 n39), (.int .i64 n40), (.slice p41 m42 m43), (.int .i64 n44), (.int .i64 n45), (.int .i64 n46)] 31 w37 (fun m47 w48 =>
        (rnV Try.prog (Builtin.append_ #[25, 25] 25 #[(.slice s1.1.1 s1.1.2.1 s1.1.2.2), (.slice (some ⟨m47, 0, none⟩) 1 1)]) w48 (fun v49 w50 =>
         (∃ (p51 : (Option Addr)) (m52 : Nat) (m53 : Nat), ((v49 = (.slice p51 m52 m53)) ∧ (k0 ((p51, (m52, m53)), (IntKind.wrap .i64 (s1.2 + (1 : Int)))) w50)))))))))
         (∃ (n54 : Int), (((World.cell? w37 (Addr.add ⟨m17, 0, none⟩ 5)) = (some (.int .i64 n54))) ∧
        (ixa s1.1.1 s1.1.2.1 (IntKind.wrap .i64 ((s1.1.2.1 : Int) - (1 : Int))) 6 (fun a55 =>
        (∃ (n56 : Int), (((World.cell? w37 (Addr.add a55 5)) = (some (.int .i64 n56))) ∧
         (br (decide (n54 ≥ n56))
          (∃ (n57 : Int) (n58 : Int) (p59 : (Option Addr)) (m60 : Nat) (m61 : Nat) (n62 : Int) (n63 : Int) (n64 : Int), ((cellsAt w37 ⟨m17, 0, none⟩ [(.int .u32 n57), (.int .i64 n58), (.slice p59 m60 m61), (.int .i64 n62), (.int .i64 n63), (.int .i64 n64)]) ∧
         (al #[(.int .u32 n57), (.int .i64 n58), (.slice p59 m60 m61), (.int .i64 n62), (.int .i64 n63), (.int .i64 n64)] 31 w37 (fun m65 w66 =>
         (rnV Try.prog (Builtin.append_ #[25, 25] 25 #[(.slice s1.1.1 s1.1.2.1 s1.1.2.2), (.slice (some ⟨m65, 0, none⟩) 1 1)]) w66 (fun v67 w68 =>
          (∃ (p69 : (Option Addr)) (m70 : Nat) (m71 : Nat), ((v67 = (.slice p69 m70 m71)) ∧ (k0 ((p69, (m70, m71)), (IntKind.wrap .i64 (s1.2 + (1 : Int)))) w68)))))))))
          (k0 ((s1.1.1, (s1.1.2.1, s1.1.2.2)), (IntKind.wrap .i64 (s1.2 + (1 : Int)))) w37)))))))))
         (k0 ((s1.1.1, (s1.1.2.1, s1.1.2.2)), (IntKind.wrap .i64 (s1.2 + (1 : Int)))) w37))))
         (k0 ((s1.1.1, (s1.1.2.1, s1.1.2.2)), (IntKind.wrap .i64 (s1.2 + (1 : Int)))) w37)))))))) ((((m21 : Int) == (0 : Int)) == (n23 == (1 : Int))), (0 : Int)) w19)))))))))))) (fun x72 w73 => (R (.panicked x72) w73)))) (fun k74 =>
  (br (decide (s1.2 < x1))
    (cl Try.prog 40 #[(.pointer x0)] w2 (fun v75 w76 =>
   (∃ (b77 : Bool), ((v75 = (.bool b77)) ∧ (br (!b77) (k74 () w76) (R (.returned (.slice s1.1.1 s1.1.2.1 s1.1.2.2)) w76))))) (fun x78 w79 => (R (.panicked x78) w79))) (R (.returned (.slice s1.1.1 s1.1.2.1 s1.1.2.2)) w2))))) ((none, (0, 0)), (0 : Int)) w)

def gplay_Picks_Frames_an : Ann := (.seq .leaf (.seq .leaf (.seq (.seq .leaf (.block (.loop (.join (.seq .leaf (.cond .leaf .leaf)) [11, 12, 13, 14, 15, 16, 17, 18] [] (.seq (.block (.seq .leaf (.seq .leaf (.seq (.seq .leaf (.block (.loop (.seq (.seq .leaf (.cond .leaf .leaf)) (.seq (.block (.plan [.take 0, .take 1, .take 2, .take 3, .take 4, .take 5, .take 6, .take 7, .take 8, .take 9, .take 10, .take 11])) .leaf)) [9, 10, 36, 37, 38, 39, 40, 41, 42, 43, 44, 45, 46, 47, 48, 49, 50, 51, 52, 53] [(9, .bool), (10, (.int .i64))]))) (.seq (.plan [.take 0, .take 1, .take 2, .take 3, .take 4, .take 5, .take 6, .take 7, .take 8, .take 9, .take 10, .take 11, .take 12, .take 13, .take 14, .take 15, .take 16, .take 17, .take 18, .take 19, .take 20, .take 21, .take 22]) (.cond .leaf .leaf)))))) .leaf)) [5, 6, 7, 8, 9, 10, 11, 12, 13, 14, 15, 16, 17, 18, 19, 20, 21, 22, 23, 24, 25, 26, 27, 28, 29, 30, 31, 32, 33, 34, 35, 36, 37, 38, 39, 40, 41, 42, 43, 44, 45, 46, 47, 48, 49, 50, 51, 52, 53, 54, 55, 56, 57, 58, 59, 60, 61, 62, 63, 64, 65, 66, 67, 68, 69, 70, 71, 72, 73, 74, 75, 76, 77, 78, 79, 80] [(5, .slice), (6, (.int .i64))]))) (.seq .leaf .leaf))))

set_option maxRecDepth 100000 in
theorem gplay_Picks_Frames_ok (x0 : Option Addr) (x1 : Int) (R : Ending → World → Prop) (w : World) (h : gplay_Picks_Frames x0 x1 R w) : Cs Try.prog 13 (#[(.pointer x0), (.int .i64 x1)] : Array Value) w R :=
  fn_sound (ty := []) (ann := gplay_Picks_Frames_an) (N := 82) (by kernel_rfl) (by kernel_rfl) Try.func13 rfl (by kernel_rfl) (by show 2 ≤ 82; decide) (by kernel_rfl)
    (Eq.mpr (show cdA Try.prog [] gplay_Picks_Frames_an _ _ _ w = gplay_Picks_Frames x0 x1 R w by kernel_rfl) h)

/- "girandole/girandolelaw14.same" (14) -/
set_option maxRecDepth 100000 in
def glaw14_same (x0 : Option Addr) (x0l _x0c : Nat) (x1 : Option Addr) (x1l _x1c : Nat) (R : Ending → World → Prop) (w : World) : Prop :=
  (br ((x0l : Int) != (x1l : Int)) (R (.returned (.bool Bool.false)) w)
  (lp (σ := Int) (fun _ k0 n1 w2 =>
 (br (decide (n1 < (x0l : Int)))
   (dr w2 (fun w3 =>
  (ixa x0 x0l n1 1 (fun a4 =>
   (∃ (n5 : Int), (((World.cell? w3 a4) = (some (.int .u32 n5))) ∧
    (ixa x1 x1l n1 1 (fun a6 =>
    (∃ (n7 : Int), (((World.cell? w3 a6) = (some (.int .u32 n7))) ∧
     (br (n5 != n7) (R (.returned (.bool Bool.false)) w3) (k0 (IntKind.wrap .i64 (n1 + (1 : Int))) w3)))))))))))) (R (.returned (.bool Bool.true)) w2))) (0 : Int) w))

def glaw14_same_an : Ann := (.seq .leaf (.seq (.seq .leaf (.cond (.seq .leaf .leaf) .leaf)) (.seq (.seq .leaf (.block (.loop (.seq (.seq .leaf (.cond .leaf .leaf)) (.seq (.block (.seq (.plan [.take 0, .take 1, .take 2, .take 3, .take 4, .take 5, .take 6, .take 7, .take 8]) (.cond (.seq .leaf .leaf) .leaf))) .leaf)) [4, 5, 11, 12, 13, 14, 15, 16, 17, 18, 19, 20, 21, 22, 23, 24, 25] [(5, (.int .i64))]))) (.seq .leaf .leaf))))

set_option maxRecDepth 100000 in
theorem glaw14_same_ok (x0 : Option Addr) (x0l x0c : Nat) (x1 : Option Addr) (x1l x1c : Nat) (R : Ending → World → Prop) (w : World) (h : glaw14_same x0 x0l x0c x1 x1l x1c R w) : Cs Try.prog 14 (#[(.slice x0 x0l x0c), (.slice x1 x1l x1c)] : Array Value) w R :=
  fn_sound (ty := []) (ann := glaw14_same_an) (N := 26) (by kernel_rfl) (by kernel_rfl) Try.func14 rfl (by kernel_rfl) (by show 2 ≤ 26; decide) (by kernel_rfl)
    (Eq.mpr (show cdA Try.prog [] glaw14_same_an _ _ _ w = glaw14_same x0 x0l x0c x1 x1l x1c R w by kernel_rfl) h)

/- "girandole/tree.Above" (15) -/
set_option maxRecDepth 100000 in
def tree_Above (x0 : Option Addr) (x0l x0c : Nat) (x1 : Int) (R : Ending → World → Prop) (w : World) : Prop :=
  (cl Try.prog 42 #[(.slice x0 x0l x0c)] w (fun v0 w1 =>
 (∃ (p2 : (Option Addr)), ((v0 = (.pointer p2)) ∧
  (cl Try.prog 43 #[(.pointer p2), (.int .u32 x1)] w1 (fun _ w3 =>
  (nc p2 (fun a4 =>
   (∃ (p5 : (Option Nat)), (((World.cell? w3 (Addr.add a4 1)) = (some (.map p5))) ∧
    (rnV Try.prog (Builtin.delete_ #[94, 23] 0 #[(.map p5), (.int .u32 x1)]) w3 (fun _ w6 =>
    (nc p2 (fun a7 =>
     (∃ (p8 : (Option Nat)), (((World.cell? w6 (Addr.add a7 1)) = (some (.map p8))) ∧
      (cl Try.prog 45 #[(.map p8)] w6 (fun v9 w10 =>
      (∃ (v11 : Value), ((v9 = v11) ∧
       (cl Try.prog 44 #[v11] w10 (fun v12 w13 =>
       (∃ (p14 : (Option Addr)) (m15 : Nat) (m16 : Nat), ((v12 = (.slice p14 m15 m16)) ∧ (R (.returned (.slice p14 m15 m16)) w13)))) (fun x17 w18 => (R (.panicked x17) w18)))))) (fun x19 w20 => (R (.panicked x19) w20)))))))))))))) (fun x21 w22 => (R (.panicked x21) w22)))))) (fun x23 w24 => (R (.panicked x23) w24)))

def tree_Above_an : Ann := (.seq .leaf (.seq .leaf (.seq .leaf (.seq .leaf (.seq .leaf .leaf)))))

set_option maxRecDepth 100000 in
theorem tree_Above_ok (x0 : Option Addr) (x0l x0c : Nat) (x1 : Int) (R : Ending → World → Prop) (w : World) (h : tree_Above x0 x0l x0c x1 R w) : Cs Try.prog 15 (#[(.slice x0 x0l x0c), (.int .u32 x1)] : Array Value) w R :=
  fn_sound (ty := []) (ann := tree_Above_an) (N := 22) (by kernel_rfl) (by kernel_rfl) Try.func15 rfl (by kernel_rfl) (by show 2 ≤ 22; decide) (by kernel_rfl)
    (Eq.mpr (show cdA Try.prog [] tree_Above_an _ _ _ w = tree_Above x0 x0l x0c x1 R w by kernel_rfl) h)

/- "girandole/girandoleref12.Above" (16) -/
set_option maxRecDepth 100000 in
def gref12_Above (x0 : Option Addr) (x0l x0c : Nat) (x1 : Int) (R : Ending → World → Prop) (w : World) : Prop :=
  (nwo (.map #[] 0) w (fun m0 w1 =>
 (cl Try.prog 46 #[(.slice x0 x0l x0c), (.int .u32 x1)] w1 (fun v2 w3 =>
  (∃ (n4 : Int) (n5 : Int) (p6 : (Option Addr)) (m7 : Nat) (m8 : Nat) (n9 : Int) (n10 : Int) (n11 : Int) (b12 : Bool), ((v2 = (.tuple #[(.agg #[(.int .u32 n4), (.int .i64 n5), (.slice p6 m7 m8), (.int .i64 n9), (.int .i64 n10), (.int .i64 n11)]), (.bool b12)])) ∧
   (al (zc Try.prog 31) 31 w3 (fun m13 w14 =>
   (stN ⟨m13, 0, none⟩ [(.int .u32 n4), (.int .i64 n5), (.slice p6 m7 m8), (.int .i64 n9), (.int .i64 n10), (.int .i64 n11)] w14 (fun w15 =>
    (lp (σ := Int) (fun _ k16 n17 w18 =>
     (∃ (p19 : (Option Addr)) (m20 : Nat) (m21 : Nat), (((World.cell? w18 (Addr.add ⟨m13, 0, none⟩ 2)) = (some (.slice p19 m20 m21))) ∧
      (br (decide (n17 < (m20 : Int)))
       (∃ (p22 : (Option Addr)) (m23 : Nat) (m24 : Nat), (((World.cell? w18 (Addr.add ⟨m13, 0, none⟩ 2)) = (some (.slice p22 m23 m24))) ∧
      (ixa p22 m23 n17 1 (fun a25 =>
      (∃ (n26 : Int), (((World.cell? w18 a25) = (some (.int .u32 n26))) ∧
       (cl Try.prog 46 #[(.slice x0 x0l x0c), (.int .u32 n26)] w18 (fun v27 w28 =>
       (∃ (n29 : Int) (n30 : Int) (p31 : (Option Addr)) (m32 : Nat) (m33 : Nat) (n34 : Int) (n35 : Int) (n36 : Int) (b37 : Bool), ((v27 = (.tuple #[(.agg #[(.int .u32 n29), (.int .i64 n30), (.slice p31 m32 m33), (.int .i64 n34), (.int .i64 n35), (.int .i64 n36)]), (.bool b37)])) ∧
        (al (zc Try.prog 31) 31 w28 (fun m38 w39 =>
        (stN ⟨m38, 0, none⟩ [(.int .u32 n29), (.int .i64 n30), (.slice p31 m32 m33), (.int .i64 n34), (.int .i64 n35), (.int .i64 n36)] w39 (fun w40 =>
         (br b37
           (∃ (p41 : (Option Addr)) (m42 : Nat) (m43 : Nat), (((World.cell? w40 (Addr.add ⟨m13, 0, none⟩ 2)) = (some (.slice p41 m42 m43))) ∧
          (ixa p41 m42 n17 1 (fun a44 =>
          (∃ (n45 : Int), (((World.cell? w40 a44) = (some (.int .u32 n45))) ∧
           (rnU Try.prog (Instr.mapUpdate 94 (.map (some m0)) (.int .u32 n45) (.bool Bool.true)) w40 (fun w46 => (k16 (IntKind.wrap .i64 (n17 + (1 : Int))) w46))))))))) (k16 (IntKind.wrap .i64 (n17 + (1 : Int))) w40))))))))) (fun x47 w48 => (R (.panicked x47) w48)))))))))
       (lp (σ := Bool) (fun _ k49 b50 w51 =>
      (br b50
        (lp (σ := (Bool × Int)) (fun _ k52 s53 w54 =>
       (br (decide (s53.2 < (x0l : Int)))
         (lp (σ := (Bool × Int)) (fun _ k55 s56 w57 =>
        (jn (σ := PUnit) (fun _ _ w58 =>
         (ixa x0 x0l s53.2 6 (fun a59 =>
          (∃ (p60 : (Option Addr)) (m61 : Nat) (m62 : Nat), (((World.cell? w58 (Addr.add a59 2)) = (some (.slice p60 m61 m62))) ∧
           (ixa p60 m61 s56.2 1 (fun a63 =>
           (∃ (n64 : Int), (((World.cell? w58 a63) = (some (.int .u32 n64))) ∧
            (cl Try.prog 46 #[(.slice x0 x0l x0c), (.int .u32 n64)] w58 (fun v65 w66 =>
            (∃ (n67 : Int) (n68 : Int) (p69 : (Option Addr)) (m70 : Nat) (m71 : Nat) (n72 : Int) (n73 : Int) (n74 : Int) (b75 : Bool), ((v65 = (.tuple #[(.agg #[(.int .u32 n67), (.int .i64 n68), (.slice p69 m70 m71), (.int .i64 n72), (.int .i64 n73), (.int .i64 n74)]), (.bool b75)])) ∧
             (al (zc Try.prog 31) 31 w66 (fun m76 w77 =>
             (stN ⟨m76, 0, none⟩ [(.int .u32 n67), (.int .i64 n68), (.slice p69 m70 m71), (.int .i64 n72), (.int .i64 n73), (.int .i64 n74)] w77 (fun w78 =>
              (br b75
                (ixa x0 x0l s53.2 6 (fun a79 =>
               (∃ (p80 : (Option Addr)) (m81 : Nat) (m82 : Nat), (((World.cell? w78 (Addr.add a79 2)) = (some (.slice p80 m81 m82))) ∧
                (ixa p80 m81 s56.2 1 (fun a83 =>
                (∃ (n84 : Int), (((World.cell? w78 a83) = (some (.int .u32 n84))) ∧
                 (mrd Try.prog (Instr.lookup 94 (.map (some m0)) (.int .u32 n84) Bool.false) (some m0) w78 (fun v85 _ =>
                 (∃ (b86 : Bool), ((v85 = (.bool b86)) ∧
                  (br (!b86)
                   (ixa x0 x0l s53.2 6 (fun a87 =>
                  (∃ (p88 : (Option Addr)) (m89 : Nat) (m90 : Nat), (((World.cell? w78 (Addr.add a87 2)) = (some (.slice p88 m89 m90))) ∧
                   (ixa p88 m89 s56.2 1 (fun a91 =>
                   (∃ (n92 : Int), (((World.cell? w78 a91) = (some (.int .u32 n92))) ∧
                    (rnU Try.prog (Instr.mapUpdate 94 (.map (some m0)) (.int .u32 n92) (.bool Bool.true)) w78 (fun w93 => (k55 (Bool.true, (IntKind.wrap .i64 (s56.2 + (1 : Int)))) w93))))))))))) (k55 (s56.1, (IntKind.wrap .i64 (s56.2 + (1 : Int)))) w78)))))))))))))) (k55 (s56.1, (IntKind.wrap .i64 (s56.2 + (1 : Int)))) w78))))))))) (fun x94 w95 => (R (.panicked x94) w95)))))))))))) (fun k96 =>
         (ixa x0 x0l s53.2 6 (fun a97 =>
          (∃ (n98 : Int), (((World.cell? w57 a97) = (some (.int .u32 n98))) ∧
           (mrd Try.prog (Instr.lookup 94 (.map (some m0)) (.int .u32 n98) Bool.false) (some m0) w57 (fun v99 _ =>
           (∃ (b100 : Bool), ((v99 = (.bool b100)) ∧
            (br b100
             (ixa x0 x0l s53.2 6 (fun a101 =>
            (∃ (p102 : (Option Addr)) (m103 : Nat) (m104 : Nat), (((World.cell? w57 (Addr.add a101 2)) = (some (.slice p102 m103 m104))) ∧
             (br (decide (s56.2 < (m103 : Int))) (k96 () w57) (k52 (s56.1, (IntKind.wrap .i64 (s53.2 + (1 : Int)))) w57)))))) (k52 (s56.1, (IntKind.wrap .i64 (s53.2 + (1 : Int)))) w57))))))))))))) (s53.1, (0 : Int)) w54) (k49 s53.1 w54))) (Bool.false, (0 : Int)) w51)
        (cl Try.prog 47 #[(.slice x0 x0l x0c), (.map (some m0)), (.int .u32 x1)] w51 (fun v105 w106 =>
       (∃ (p107 : (Option Addr)) (m108 : Nat) (m109 : Nat), ((v105 = (.slice p107 m108 m109)) ∧ (R (.returned (.slice p107 m108 m109)) w106)))) (fun x110 w111 => (R (.panicked x110) w111))))) Bool.true w18))))) (0 : Int) w15)))))))) (fun x112 w113 => (R (.panicked x112) w113)))))

def gref12_Above_an : Ann := (.seq .leaf (.seq .leaf (.seq .leaf (.seq (.seq .leaf (.block (.loop (.seq (.seq .leaf (.cond .leaf .leaf)) (.seq (.block (.seq .leaf (.seq .leaf (.cond .leaf .leaf)))) .leaf)) [8, 9, 10, 23, 24, 25, 26, 27, 28, 29, 30, 31, 32, 33, 34, 35, 36, 37, 38, 39, 40, 41, 42, 43, 44, 45, 46] [(8, (.int .i64))]))) (.seq (.seq .leaf (.block (.loop (.seq (.seq .leaf (.cond .leaf .leaf)) (.block (.seq .leaf (.seq .leaf (.block (.loop (.seq (.seq .leaf (.cond .leaf .leaf)) (.seq (.block (.seq .leaf (.block (.loop (.join (.seq .leaf (.cond .leaf .leaf)) [54, 55, 56, 57, 58, 59, 60, 61, 62, 63, 64, 65, 66, 67, 68, 69, 70] [] (.seq (.block (.seq .leaf (.seq .leaf (.cond (.seq .leaf .leaf) .leaf)))) .leaf)) [11, 13, 14, 15, 54, 55, 56, 57, 58, 59, 60, 61, 62, 63, 64, 65, 66, 67, 68, 69, 70, 71, 72, 73, 74, 75, 76, 77, 78, 79, 80, 81, 82, 83, 84, 85, 86, 87, 88, 89, 90, 91, 92, 93, 94, 95, 96, 97, 98, 99, 100, 101, 102, 103, 104, 105, 106, 107, 108] [(11, .bool), (13, (.int .i64))])))) .leaf)) [11, 12, 13, 14, 15, 48, 49, 50, 51, 52, 53, 54, 55, 56, 57, 58, 59, 60, 61, 62, 63, 64, 65, 66, 67, 68, 69, 70, 71, 72, 73, 74, 75, 76, 77, 78, 79, 80, 81, 82, 83, 84, 85, 86, 87, 88, 89, 90, 91, 92, 93, 94, 95, 96, 97, 98, 99, 100, 101, 102, 103, 104, 105, 106, 107, 108] [(11, .bool), (12, (.int .i64))])))))) [11, 12, 13, 14, 15, 47, 48, 49, 50, 51, 52, 53, 54, 55, 56, 57, 58, 59, 60, 61, 62, 63, 64, 65, 66, 67, 68, 69, 70, 71, 72, 73, 74, 75, 76, 77, 78, 79, 80, 81, 82, 83, 84, 85, 86, 87, 88, 89, 90, 91, 92, 93, 94, 95, 96, 97, 98, 99, 100, 101, 102, 103, 104, 105, 106, 107, 108] [(11, .bool)]))) (.seq .leaf .leaf))))))

set_option maxRecDepth 100000 in
theorem gref12_Above_ok (x0 : Option Addr) (x0l x0c : Nat) (x1 : Int) (R : Ending → World → Prop) (w : World) (h : gref12_Above x0 x0l x0c x1 R w) : Cs Try.prog 16 (#[(.slice x0 x0l x0c), (.int .u32 x1)] : Array Value) w R :=
  fn_sound (ty := []) (ann := gref12_Above_an) (N := 113) (by kernel_rfl) (by kernel_rfl) Try.func16 rfl (by kernel_rfl) (by show 2 ≤ 113; decide) (by kernel_rfl)
    (Eq.mpr (show cdA Try.prog [] gref12_Above_an _ _ _ w = gref12_Above x0 x0l x0c x1 R w by kernel_rfl) h)

/- "girandole/tree.Below" (17) -/
set_option maxRecDepth 100000 in
def tree_Below (x0 : Option Addr) (x0l x0c : Nat) (x1 : Int) (R : Ending → World → Prop) (w : World) : Prop :=
  (nwo (.map #[] 0) w (fun m0 w1 =>
 (lp (σ := Int) (fun _ k2 n3 w4 =>
  (br (decide (n3 < (x0l : Int)))
    (ixa x0 x0l n3 6 (fun a5 =>
   (∃ (n6 : Int) (n7 : Int) (p8 : (Option Addr)) (m9 : Nat) (m10 : Nat) (n11 : Int) (n12 : Int) (n13 : Int), ((cellsAt w4 a5 [(.int .u32 n6), (.int .i64 n7), (.slice p8 m9 m10), (.int .i64 n11), (.int .i64 n12), (.int .i64 n13)]) ∧
    (al (zc Try.prog 31) 31 w4 (fun m14 w15 =>
    (stN ⟨m14, 0, none⟩ [(.int .u32 n6), (.int .i64 n7), (.slice p8 m9 m10), (.int .i64 n11), (.int .i64 n12), (.int .i64 n13)] w15 (fun w16 =>
     (∃ (n17 : Int), (((World.cell? w16 ⟨m14, 0, none⟩) = (some (.int .u32 n17))) ∧
      (cl Try.prog 15 #[(.slice x0 x0l x0c), (.int .u32 n17)] w16 (fun v18 w19 =>
      (∃ (p20 : (Option Addr)) (m21 : Nat) (m22 : Nat), ((v18 = (.slice p20 m21 m22)) ∧
       (cl Try.prog 48 #[(.slice p20 m21 m22), (.int .u32 x1)] w19 (fun v23 w24 =>
       (∃ (b25 : Bool), ((v23 = (.bool b25)) ∧
        (br b25
         (∃ (n26 : Int), (((World.cell? w24 ⟨m14, 0, none⟩) = (some (.int .u32 n26))) ∧
        (rnU Try.prog (Instr.mapUpdate 94 (.map (some m0)) (.int .u32 n26) (.bool Bool.true)) w24 (fun w27 => (k2 (IntKind.wrap .i64 (n3 + (1 : Int))) w27))))) (k2 (IntKind.wrap .i64 (n3 + (1 : Int))) w24))))) (fun x28 w29 => (R (.panicked x28) w29)))))) (fun x30 w31 => (R (.panicked x30) w31)))))))))))))
    (rnV Try.prog (Builtin.delete_ #[94, 23] 0 #[(.map (some m0)), (.int .u32 x1)]) w4 (fun _ w32 =>
   (cl Try.prog 45 #[(.map (some m0))] w32 (fun v33 w34 =>
    (∃ (v35 : Value), ((v33 = v35) ∧
     (cl Try.prog 44 #[v35] w34 (fun v36 w37 =>
     (∃ (p38 : (Option Addr)) (m39 : Nat) (m40 : Nat), ((v36 = (.slice p38 m39 m40)) ∧ (R (.returned (.slice p38 m39 m40)) w37)))) (fun x41 w42 => (R (.panicked x41) w42)))))) (fun x43 w44 => (R (.panicked x43) w44))))))) (0 : Int) w1)))

def tree_Below_an : Ann := (.seq .leaf (.seq .leaf (.seq (.seq .leaf (.block (.loop (.seq .leaf (.seq (.cond .leaf .leaf) (.seq (.block (.seq .leaf (.seq .leaf (.cond .leaf .leaf)))) .leaf))) [7, 11, 12, 13, 14, 15, 16, 17, 18, 19, 20, 21, 22, 23, 24] [(11, (.int .i64))]))) (.seq .leaf (.seq .leaf .leaf)))))

set_option maxRecDepth 100000 in
theorem tree_Below_ok (x0 : Option Addr) (x0l x0c : Nat) (x1 : Int) (R : Ending → World → Prop) (w : World) (h : tree_Below x0 x0l x0c x1 R w) : Cs Try.prog 17 (#[(.slice x0 x0l x0c), (.int .u32 x1)] : Array Value) w R :=
  fn_sound (ty := []) (ann := tree_Below_an) (N := 30) (by kernel_rfl) (by kernel_rfl) Try.func17 rfl (by kernel_rfl) (by show 2 ≤ 30; decide) (by kernel_rfl)
    (Eq.mpr (show cdA Try.prog [] tree_Below_an _ _ _ w = tree_Below x0 x0l x0c x1 R w by kernel_rfl) h)

/- "girandole/girandoleref12.Below" (18) -/
set_option maxRecDepth 100000 in
def gref12_Below (x0 : Option Addr) (x0l x0c : Nat) (x1 : Int) (R : Ending → World → Prop) (w : World) : Prop :=
  (nwo (.map #[] 0) w (fun m0 w1 =>
 (lp (σ := Int) (fun _ k2 n3 w4 =>
  (br (decide (n3 < (x0l : Int)))
    (ixa x0 x0l n3 6 (fun a5 =>
   (∃ (n6 : Int), (((World.cell? w4 a5) = (some (.int .u32 n6))) ∧
    (cl Try.prog 16 #[(.slice x0 x0l x0c), (.int .u32 n6)] w4 (fun v7 w8 =>
    (∃ (p9 : (Option Addr)) (m10 : Nat) (m11 : Nat), ((v7 = (.slice p9 m10 m11)) ∧
     (cl Try.prog 49 #[(.slice p9 m10 m11), (.int .u32 x1)] w8 (fun v12 w13 =>
     (∃ (b14 : Bool), ((v12 = (.bool b14)) ∧
      (br b14
       (ixa x0 x0l n3 6 (fun a15 =>
      (∃ (n16 : Int), (((World.cell? w13 a15) = (some (.int .u32 n16))) ∧
       (rnU Try.prog (Instr.mapUpdate 94 (.map (some m0)) (.int .u32 n16) (.bool Bool.true)) w13 (fun w17 => (k2 (IntKind.wrap .i64 (n3 + (1 : Int))) w17))))))) (k2 (IntKind.wrap .i64 (n3 + (1 : Int))) w13))))) (fun x18 w19 => (R (.panicked x18) w19)))))) (fun x20 w21 => (R (.panicked x20) w21)))))))
    (cl Try.prog 47 #[(.slice x0 x0l x0c), (.map (some m0)), (.int .u32 x1)] w4 (fun v22 w23 =>
   (∃ (p24 : (Option Addr)) (m25 : Nat) (m26 : Nat), ((v22 = (.slice p24 m25 m26)) ∧ (R (.returned (.slice p24 m25 m26)) w23)))) (fun x27 w28 => (R (.panicked x27) w28))))) (0 : Int) w1)))

def gref12_Below_an : Ann := (.seq .leaf (.seq .leaf (.seq (.seq .leaf (.block (.loop (.seq (.seq .leaf (.cond .leaf .leaf)) (.seq (.block (.seq .leaf (.cond .leaf .leaf))) .leaf)) [6, 8, 9, 10, 11, 12, 13, 14, 15, 16, 17, 18, 19, 20, 21, 22, 23, 24, 25, 26, 27, 28] [(6, (.int .i64))]))) (.seq .leaf .leaf))))

set_option maxRecDepth 100000 in
theorem gref12_Below_ok (x0 : Option Addr) (x0l x0c : Nat) (x1 : Int) (R : Ending → World → Prop) (w : World) (h : gref12_Below x0 x0l x0c x1 R w) : Cs Try.prog 18 (#[(.slice x0 x0l x0c), (.int .u32 x1)] : Array Value) w R :=
  fn_sound (ty := []) (ann := gref12_Below_an) (N := 33) (by kernel_rfl) (by kernel_rfl) Try.func18 rfl (by kernel_rfl) (by show 2 ≤ 33; decide) (by kernel_rfl)
    (Eq.mpr (show cdA Try.prog [] gref12_Below_an _ _ _ w = gref12_Below x0 x0l x0c x1 R w by kernel_rfl) h)

/- "(*girandole/girandoleplay.Picks).Over" (40) -/
set_option maxRecDepth 100000 in
def gplay_Picks_Over (x0 : Option Addr) (R : Ending → World → Prop) (w : World) : Prop :=
  (dr w (fun w0 =>
 (nc x0 (fun a1 =>
  (∃ (n2 : Int), (((World.cell? w0 (Addr.add a1 1)) = (some (.int .i64 n2))) ∧
   (nc x0 (fun a3 =>
   (∃ (p4 : (Option Addr)) (m5 : Nat) (m6 : Nat), (((World.cell? w0 a3) = (some (.slice p4 m5 m6))) ∧ (R (.returned (.bool (decide (n2 ≥ (m5 : Int))))) w0)))))))))))

def gplay_Picks_Over_an : Ann := (.seq .leaf (.seq (.plan [.take 0, .take 1, .take 2, .take 3, .take 4, .take 5, .take 6, .take 7, .take 8, .take 9, .take 10]) .leaf))

set_option maxRecDepth 100000 in
theorem gplay_Picks_Over_ok (x0 : Option Addr) (R : Ending → World → Prop) (w : World) (h : gplay_Picks_Over x0 R w) : Cs Try.prog 40 (#[(.pointer x0)] : Array Value) w R :=
  fn_sound (ty := []) (ann := gplay_Picks_Over_an) (N := 13) (by kernel_rfl) (by kernel_rfl) Try.func40 rfl (by kernel_rfl) (by show 1 ≤ 13; decide) (by kernel_rfl)
    (Eq.mpr (show cdA Try.prog [] gplay_Picks_Over_an _ _ _ w = gplay_Picks_Over x0 R w by kernel_rfl) h)

/- "(*girandole/girandoleplay.Picks).Next" (41) -/
set_option maxRecDepth 100000 in
def gplay_Picks_Next (x0 : Option Addr) (x1 : Option Addr) (x1l _x1c : Nat) (x2 : Int) (x3 : Int) (R : Ending → World → Prop) (w : World) : Prop :=
  (al (zc Try.prog 31) 31 w (fun m0 w1 =>
 (cl Try.prog 69 #[(.pointer x0), (.int .i64 (3 : Int))] w1 (fun v2 w3 =>
  (∃ (n4 : Int), ((v2 = (.int .i64 n4)) ∧
   (cl Try.prog 69 #[(.pointer x0), (.int .i64 (3 : Int))] w3 (fun v5 w6 =>
   (∃ (n7 : Int), ((v5 = (.int .i64 n7)) ∧
    (cl Try.prog 69 #[(.pointer x0), (.int .i64 (4 : Int))] w6 (fun v8 w9 =>
    (∃ (n10 : Int), ((v8 = (.int .i64 n10)) ∧
     (cl Try.prog 69 #[(.pointer x0), (.int .i64 (8 : Int))] w9 (fun v11 w12 =>
     (∃ (n13 : Int), ((v11 = (.int .i64 n13)) ∧
      (al (zc Try.prog 31) 31 w12 (fun m14 w15 =>
      (stN ⟨m14, 0, none⟩ [(.int .u32 (IntKind.wrap .u32 (IntKind.wrap .i64 ((1 : Int) + n4)))), (.int .i64 (IntKind.wrap .i64 ((1 : Int) + n7))), (.slice none 0 0), (.int .i64 (0 : Int)), (.int .i64 (IntKind.wrap .i64 (x2 + n10))), (.int .i64 (IntKind.wrap .i64 (x2 + (IntKind.wrap .i64 ((2 : Int) + n13)))))] w15 (fun w16 =>
       (jn (σ := PUnit) (fun _ _ w17 =>
        (∃ (n18 : Int), (((World.cell? w17 (Addr.add ⟨m14, 0, none⟩ 5)) = (some (.int .i64 n18))) ∧
         (∃ (n19 : Int), (((World.cell? w17 (Addr.add ⟨m14, 0, none⟩ 4)) = (some (.int .i64 n19))) ∧
         (st1 (Addr.add ⟨m14, 0, none⟩ 5) (.int .i64 (if (n18 < n19) then n19 else n18)) w17 (fun w20 =>
         (jn (σ := PUnit) (fun _ _ w21 =>
          (cl Try.prog 69 #[(.pointer x0), (.int .i64 (IntKind.wrap .i64 ((5 : Int) * x3)))] w21 (fun v22 w23 =>
           (∃ (n24 : Int), ((v22 = (.int .i64 n24)) ∧
            (st1 (Addr.add ⟨m14, 0, none⟩ 3) (.int .i64 (IntKind.wrap .i64 ((1 : Int) + n24))) w23 (fun w25 =>
            (∃ (n26 : Int), (((World.cell? w25 (Addr.add ⟨m14, 0, none⟩ 3)) = (some (.int .i64 n26))) ∧
             (cl Try.prog 70 #[(.pointer x0), (.int .i64 n26)] w25 (fun v27 w28 =>
             (∃ (p29 : (Option Addr)) (m30 : Nat) (m31 : Nat), ((v27 = (.slice p29 m30 m31)) ∧
              (cl Try.prog 69 #[(.pointer x0), (.int .i64 (25 : Int))] w28 (fun v32 w33 =>
              (∃ (n34 : Int), ((v32 = (.int .i64 n34)) ∧
               (br (n34 == (0 : Int))
                (∃ (p35 : (Option Addr)) (m36 : Nat) (m37 : Nat), (((World.cell? w33 (Addr.add ⟨m14, 0, none⟩ 2)) = (some (.slice p35 m36 m37))) ∧
               (∃ (n38 : Int), (((World.cell? w33 ⟨m14, 0, none⟩) = (some (.int .u32 n38))) ∧
               (al #[(.int .u32 n38)] 23 w33 (fun m39 w40 =>
               (rnV Try.prog (Builtin.append_ #[29, 29] 29 #[(.slice p35 m36 m37), (.slice (some ⟨m39, 0, none⟩) 1 1)]) w40 (fun v41 w42 =>
                (∃ (p43 : (Option Addr)) (m44 : Nat) (m45 : Nat), ((v41 = (.slice p43 m44 m45)) ∧
                 (st1 (Addr.add ⟨m14, 0, none⟩ 2) (.slice p43 m44 m45) w42 (fun w46 =>
                 (∃ (n47 : Int) (n48 : Int) (p49 : (Option Addr)) (m50 : Nat) (m51 : Nat) (n52 : Int) (n53 : Int) (n54 : Int), ((cellsAt w46 ⟨m14, 0, none⟩ [(.int .u32 n47), (.int .i64 n48), (.slice p49 m50 m51), (.int .i64 n52), (.int .i64 n53), (.int .i64 n54)]) ∧
                  (stN ⟨m0, 0, none⟩ [(.int .u32 n47), (.int .i64 n48), (.slice p49 m50 m51), (.int .i64 n52), (.int .i64 n53), (.int .i64 n54)] w46 (fun w55 =>
                  (∃ (n56 : Int) (n57 : Int) (p58 : (Option Addr)) (m59 : Nat) (m60 : Nat) (n61 : Int) (n62 : Int) (n63 : Int), ((cellsAt w55 ⟨m0, 0, none⟩ [(.int .u32 n56), (.int .i64 n57), (.slice p58 m59 m60), (.int .i64 n61), (.int .i64 n62), (.int .i64 n63)]) ∧
                   (R (.returned (.tuple #[(.agg #[(.int .u32 n56), (.int .i64 n57), (.slice p58 m59 m60), (.int .i64 n61), (.int .i64 n62), (.int .i64 n63)]), (.slice p29 m30 m31)])) w55)))))))))))))))))))
                (br (n34 == (1 : Int))
                (st1 (Addr.add ⟨m14, 0, none⟩ 5) (.int .i64 x2) w33 (fun w64 =>
               (∃ (n65 : Int) (n66 : Int) (p67 : (Option Addr)) (m68 : Nat) (m69 : Nat) (n70 : Int) (n71 : Int) (n72 : Int), ((cellsAt w64 ⟨m14, 0, none⟩ [(.int .u32 n65), (.int .i64 n66), (.slice p67 m68 m69), (.int .i64 n70), (.int .i64 n71), (.int .i64 n72)]) ∧
                (stN ⟨m0, 0, none⟩ [(.int .u32 n65), (.int .i64 n66), (.slice p67 m68 m69), (.int .i64 n70), (.int .i64 n71), (.int .i64 n72)] w64 (fun w73 =>
                (∃ (n74 : Int) (n75 : Int) (p76 : (Option Addr)) (m77 : Nat) (m78 : Nat) (n79 : Int) (n80 : Int) (n81 : Int), ((cellsAt w73 ⟨m0, 0, none⟩ [(.int .u32 n74), (.int .i64 n75), (.slice p76 m77 m78), (.int .i64 n79), (.int .i64 n80), (.int .i64 n81)]) ∧
                 (R (.returned (.tuple #[(.agg #[(.int .u32 n74), (.int .i64 n75), (.slice p76 m77 m78), (.int .i64 n79), (.int .i64 n80), (.int .i64 n81)]), (.slice p29 m30 m31)])) w73)))))))))
                (br (n34 == (2 : Int))
                (al #[(.int .u8 (1 : Int))] 5 w33 (fun m82 w83 =>
               (rnV Try.prog (Builtin.append_ #[22, 22] 22 #[(.slice p29 m30 m31), (.slice (some ⟨m82, 0, none⟩) 1 1)]) w83 (fun v84 w85 =>
                (∃ (p86 : (Option Addr)) (m87 : Nat) (m88 : Nat), ((v84 = (.slice p86 m87 m88)) ∧
                 (∃ (n89 : Int) (n90 : Int) (p91 : (Option Addr)) (m92 : Nat) (m93 : Nat) (n94 : Int) (n95 : Int) (n96 : Int), ((cellsAt w85 ⟨m14, 0, none⟩ [(.int .u32 n89), (.int .i64 n90), (.slice p91 m92 m93), (.int .i64 n94), (.int .i64 n95), (.int .i64 n96)]) ∧
                 (stN ⟨m0, 0, none⟩ [(.int .u32 n89), (.int .i64 n90), (.slice p91 m92 m93), (.int .i64 n94), (.int .i64 n95), (.int .i64 n96)] w85 (fun w97 =>
                 (∃ (n98 : Int) (n99 : Int) (p100 : (Option Addr)) (m101 : Nat) (m102 : Nat) (n103 : Int) (n104 : Int) (n105 : Int), ((cellsAt w97 ⟨m0, 0, none⟩ [(.int .u32 n98), (.int .i64 n99), (.slice p100 m101 m102), (.int .i64 n103), (.int .i64 n104), (.int .i64 n105)]) ∧
                  (R (.returned (.tuple #[(.agg #[(.int .u32 n98), (.int .i64 n99), (.slice p100 m101 m102), (.int .i64 n103), (.int .i64 n104), (.int .i64 n105)]), (.slice p86 m87 m88)])) w97)))))))))))))
                (br (n34 == (3 : Int))
                (st1 ⟨m14, 0, none⟩ (.int .u32 (0 : Int)) w33 (fun w106 =>
               (∃ (n107 : Int) (n108 : Int) (p109 : (Option Addr)) (m110 : Nat) (m111 : Nat) (n112 : Int) (n113 : Int) (n114 : Int), ((cellsAt w106 ⟨m14, 0, none⟩ [(.int .u32 n107), (.int .i64 n108), (.slice p109 m110 m111), (.int .i64 n112), (.int .i64 n113), (.int .i64 n114)]) ∧
                (stN ⟨m0, 0, none⟩ [(.int .u32 n107), (.int .i64 n108), (.slice p109 m110 m111), (.int .i64 n112), (.int .i64 n113), (.int .i64 n114)] w106 (fun w115 =>
                (∃ (n116 : Int) (n117 : Int) (p118 : (Option Addr)) (m119 : Nat) (m120 : Nat) (n121 : Int) (n122 : Int) (n123 : Int), ((cellsAt w115 ⟨m0, 0, none⟩ [(.int .u32 n116), (.int .i64 n117), (.slice p118 m119 m120), (.int .i64 n121), (.int .i64 n122), (.int .i64 n123)]) ∧
                 (R (.returned (.tuple #[(.agg #[(.int .u32 n116), (.int .i64 n117), (.slice p118 m119 m120), (.int .i64 n121), (.int .i64 n122), (.int .i64 n123)]), (.slice p29 m30 m31)])) w115)))))))))
                (∃ (n124 : Int) (n125 : Int) (p126 : (Option Addr)) (m127 : Nat) (m128 : Nat) (n129 : Int) (n130 : Int) (n131 : Int), ((cellsAt w33 ⟨m14, 0, none⟩ [(.int .u32 n124), (.int .i64 n125), (.slice p126 m127 m128), (.int .i64 n129), (.int .i64 n130), (.int .i64 n131)]) ∧
               (stN ⟨m0, 0, none⟩ [(.int .u32 n124), (.int .i64 n125), (.slice p126 m127 m128), (.int .i64 n129), (.int .i64 n130), (.int .i64 n131)] w33 (fun w132 =>
               (∃ (n133 : Int) (n134 : Int) (p135 : (Option Addr)) (m136 : Nat) (m137 : Nat) (n138 : Int) (n139 : Int) (n140 : Int), ((cellsAt w132 ⟨m0, 0, none⟩ [(.int .u32 n133), (.int .i64 n134), (.slice p135 m136 m137), (.int .i64 n138), (.int .i64 n139), (.int .i64 n140)]) ∧
                (R (.returned (.tuple #[(.agg #[(.int .u32 n133), (.int .i64 n134), (.slice p135 m136 m137), (.int .i64 n138), (.int .i64 n139), (.int .i64 n140)]), (.slice p29 m30 m31)])) w132)))))))))))))) (fun x141 w142 => (R (.panicked x141) w142)))))) (fun x143 w144 => (R (.panicked x143) w144)))))))))) (fun x145 w146 => (R (.panicked x145) w146)))) (fun k147 =>
          (cl Try.prog 69 #[(.pointer x0), (.int .i64 (3 : Int))] w20 (fun v148 w149 =>
           (∃ (n150 : Int), ((v148 = (.int .i64 n150)) ∧
            (lp (σ := Int) (fun _ k151 n152 w153 =>
            (jn (σ := PUnit) (fun _ _ w154 =>
             (cl Try.prog 69 #[(.pointer x0), (.int .i64 (if ((4 : Int) < (x1l : Int)) then (4 : Int) else (x1l : Int)))] w154 (fun v155 w156 =>
              (∃ (n157 : Int), ((v155 = (.int .i64 n157)) ∧
               (ixa x1 x1l (IntKind.wrap .i64 ((IntKind.wrap .i64 ((x1l : Int) - (1 : Int))) - n157)) 6 (fun a158 =>
               (∃ (n159 : Int), (((World.cell? w156 a158) = (some (.int .u32 n159))) ∧
                (lp (σ := (Bool × Int)) (fun _ k160 s161 w162 =>
                (∃ (p163 : (Option Addr)) (m164 : Nat) (m165 : Nat), (((World.cell? w162 (Addr.add ⟨m14, 0, none⟩ 2)) = (some (.slice p163 m164 m165))) ∧
                 (br (decide (s161.2 < (m164 : Int)))
                  (br s161.1
                  (k160 (Bool.true, (IntKind.wrap .i64 (s161.2 + (1 : Int)))) w162)
                  (∃ (p166 : (Option Addr)) (m167 : Nat) (m168 : Nat), (((World.cell? w162 (Addr.add ⟨m14, 0, none⟩ 2)) = (some (.slice p166 m167 m168))) ∧
                 (ixa p166 m167 s161.2 1 (fun a169 =>
                 (∃ (n170 : Int), (((World.cell? w162 a169) = (some (.int .u32 n170))) ∧
                  (k160 ((n170 == n159), (IntKind.wrap .i64 (s161.2 + (1 : Int)))) w162))))))))
                  (br (!s161.1)
                  (∃ (p171 : (Option Addr)) (m172 : Nat) (m173 : Nat), (((World.cell? w162 (Addr.add ⟨m14, 0, none⟩ 2)) = (some (.slice p171 m172 m173))) ∧
                 (al #[(.int .u32 n159)] 23 w162 (fun m174 w175 =>
                 (rnV Try.prog (Builtin.append_ #[29, 29] 29 #[(.slice p171 m172 m173), (.slice (some ⟨m174, 0, none⟩) 1 1)]) w175 (fun v176 w177 =>
                  (∃ (p178 : (Option Addr)) (m179 : Nat) (m180 : Nat), ((v176 = (.slice p178 m179 m180)) ∧
                   (st1 (Addr.add ⟨m14, 0, none⟩ 2) (.slice p178 m179 m180) w177 (fun w181 => (k151 (IntKind.wrap .i64 (n152 - (1 : Int))) w181))))))))))) (k151 (IntKind.wrap .i64 (n152 - (1 : Int))) w162)))))) (Bool.false, (0 : Int)) w156)))))))) (fun x182 w183 => (R (.panicked x182) w183)))) (fun k184 =>
             (∃ (n185 : Int), (((World.cell? w153 (Addr.add ⟨m14, 0, none⟩ 1)) = (some (.int .i64 n185))) ∧
              (br (n185 != (1 : Int))
               (br (decide (n152 ≥ (0 : Int)))
               (∃ (p186 : (Option Addr)) (m187 : Nat) (m188 : Nat), (((World.cell? w153 (Addr.add ⟨m14, 0, none⟩ 2)) = (some (.slice p186 m187 m188))) ∧
              (br (decide ((m187 : Int) < (x1l : Int))) (k184 () w153) (k147 () w153)))) (k147 () w153)) (k147 () w153))))))) n150 w149)))) (fun x189 w190 => (R (.panicked x189) w190)))))))))))) (fun k191 =>
        (br (decide ((x1l : Int) > (0 : Int)))
          (ixa x1 x1l (IntKind.wrap .i64 ((x1l : Int) - (1 : Int))) 6 (fun a192 =>
         (∃ (n193 : Int) (n194 : Int) (p195 : (Option Addr)) (m196 : Nat) (m197 : Nat) (n198 : Int) (n199 : Int) (n200 : Int), ((cellsAt w16 a192 [(.int .u32 n193), (.int .i64 n194), (.slice p195 m196 m197), (.int .i64 n198), (.int .i64 n199), (.int .i64 n200)]) ∧
          (al (zc Try.prog 31) 31 w16 (fun m201 w202 =>
          (stN ⟨m201, 0, none⟩ [(.int .u32 n193), (.int .i64 n194), (.slice p195 m196 m197), (.int .i64 n198), (.int .i64 n199), (.int .i64 n200)] w202 (fun w203 =>
           (∃ (n204 : Int), (((World.cell? w203 ⟨m201, 0, none⟩) = (some (.int .u32 n204))) ∧
            (∃ (n205 : Int), (((World.cell? w203 ⟨m14, 0, none⟩) = (some (.int .u32 n205))) ∧
            (st1 ⟨m14, 0, none⟩ (.int .u32 (IntKind.wrap .u32 (n204 + n205))) w203 (fun w206 =>
            (dr w206 (fun w207 =>
             (∃ (n208 : Int), (((World.cell? w207 (Addr.add ⟨m14, 0, none⟩ 4)) = (some (.int .i64 n208))) ∧
              (∃ (n209 : Int), (((World.cell? w207 (Addr.add ⟨m201, 0, none⟩ 4)) = (some (.int .i64 n209))) ∧
              (∃ (n210 : Int), (((World.cell? w207 (Addr.add ⟨m14, 0, none⟩ 5)) = (some (.int .i64 n210))) ∧
              (∃ (n211 : Int), (((World.cell? w207 (Addr.add ⟨m201, 0, none⟩ 5)) = (some (.int .i64 n211))) ∧
              (st1 (Addr.add ⟨m14, 0, none⟩ 4) (.int .i64 (if (n208 < n209) then n209 else n208)) w207 (fun w212 =>
              ((hold [(.cell (Addr.add ⟨m201, 0, none⟩ 5) (.int .i64 n211))] w212) ∧
               (st1 (Addr.add ⟨m14, 0, none⟩ 5) (.int .i64 (if (n210 < n211) then n211 else n210)) w212 (fun w213 => (k191 () w213))))))))))))))))))))))))))))))
          (st1 (Addr.add ⟨m14, 0, none⟩ 1) (.int .i64 (1 : Int)) w16 (fun w214 => (k191 () w214))))))))))))) (fun x215 w216 => (R (.panicked x215) w216)))))) (fun x217 w218 => (R (.panicked x217) w218)))))) (fun x219 w220 => (R (.panicked x219) w220)))))) (fun x221 w222 => (R (.panicked x221) w222)))))

def gplay_Picks_Next_an : Ann := (.seq .leaf (.seq .leaf (.join (.seq .leaf (.cond (.seq .leaf (.seq .leaf (.plan [.take 0, .take 1, .take 2, .take 3, .take 4, .take 5, .take 6, .take 7, .take 8, .take 9, .take 10, .eff 11, .take 12, .eff 13]))) .leaf)) [11, 34, 35, 36, 37, 38, 39, 40, 41, 42, 43, 44, 45, 46, 47, 48, 49, 50, 51, 52, 53, 54, 55, 56, 57, 58, 59, 60, 61] [] (.seq .leaf (.join (.seq .leaf (.block (.loop (.join (.seq .leaf (.cond .leaf .leaf)) [70, 71, 72, 73, 74, 75, 76, 77, 78, 79, 80, 81, 82, 83, 84] [] (.seq (.block (.seq .leaf (.seq .leaf (.seq (.seq .leaf (.block (.loop (.seq (.seq .leaf (.cond .leaf .leaf)) (.seq (.block .leaf) .leaf)) [14, 15, 100, 101, 102, 103, 104, 105, 106, 107, 108, 109, 110, 111, 112, 113, 114, 115, 116] [(14, .bool), (15, (.int .i64))]))) (.seq .leaf (.cond .leaf .leaf)))))) .leaf)) [12, 13, 14, 15, 70, 71, 72, 73, 74, 75, 76, 77, 78, 79, 80, 81, 82, 83, 84, 85, 86, 87, 88, 89, 90, 91, 92, 93, 94, 95, 96, 97, 98, 99, 100, 101, 102, 103, 104, 105, 106, 107, 108, 109, 110, 111, 112, 113, 114, 115, 116, 117, 118, 119, 120, 121, 122, 123, 124] [(12, (.int .i64))]))) [12, 13, 14, 15, 68, 69, 70, 71, 72, 73, 74, 75, 76, 77, 78, 79, 80, 81, 82, 83, 84, 85, 86, 87, 88, 89, 90, 91, 92, 93, 94, 95, 96, 97, 98, 99, 100, 101, 102, 103, 104, 105, 106, 107, 108, 109, 110, 111, 112, 113, 114, 115, 116, 117, 118, 119, 120, 121, 122, 123, 124] [] (.seq .leaf (.seq .leaf (.seq (.seq .leaf (.block (.seq .leaf (.cond .leaf (.seq .leaf (.cond .leaf (.seq .leaf (.cond .leaf (.seq .leaf (.cond .leaf .leaf)))))))))) (.seq .leaf .leaf)))))))))

set_option maxRecDepth 100000 in
theorem gplay_Picks_Next_ok (x0 : Option Addr) (x1 : Option Addr) (x1l x1c : Nat) (x2 : Int) (x3 : Int) (R : Ending → World → Prop) (w : World) (h : gplay_Picks_Next x0 x1 x1l x1c x2 x3 R w) : Cs Try.prog 41 (#[(.pointer x0), (.slice x1 x1l x1c), (.int .i64 x2), (.int .i64 x3)] : Array Value) w R :=
  fn_sound (ty := []) (ann := gplay_Picks_Next_an) (N := 160) (by kernel_rfl) (by kernel_rfl) Try.func41 rfl (by kernel_rfl) (by show 4 ≤ 160; decide) (by kernel_rfl)
    (Eq.mpr (show cdA Try.prog [] gplay_Picks_Next_an _ _ _ w = gplay_Picks_Next x0 x1 x1l x1c x2 x3 R w by kernel_rfl) h)

/- "girandole/tree.known" (42) -/
set_option maxRecDepth 100000 in
def tree_known (x0 : Option Addr) (x0l _x0c : Nat) (R : Ending → World → Prop) (w : World) : Prop :=
  (nwo (.map #[] 0) w (fun m0 w1 =>
 (nwo (.map #[] 0) w1 (fun m2 w3 =>
  (al #[(.map (some m0)), (.map (some m2))] 96 w3 (fun m4 w5 =>
   (lp (σ := Int) (fun _ k6 n7 w8 =>
    (br (decide (n7 < (x0l : Int)))
      (ixa x0 x0l n7 6 (fun a9 =>
     (∃ (n10 : Int) (n11 : Int) (p12 : (Option Addr)) (m13 : Nat) (m14 : Nat) (n15 : Int) (n16 : Int) (n17 : Int), ((cellsAt w8 a9 [(.int .u32 n10), (.int .i64 n11), (.slice p12 m13 m14), (.int .i64 n15), (.int .i64 n16), (.int .i64 n17)]) ∧
      (al (zc Try.prog 31) 31 w8 (fun m18 w19 =>
      (stN ⟨m18, 0, none⟩ [(.int .u32 n10), (.int .i64 n11), (.slice p12 m13 m14), (.int .i64 n15), (.int .i64 n16), (.int .i64 n17)] w19 (fun w20 =>
       (dr w20 (fun w21 =>
        (∃ (p22 : (Option Nat)), (((World.cell? w21 ⟨m4, 0, none⟩) = (some (.map p22))) ∧
         (∃ (n23 : Int), (((World.cell? w21 ⟨m18, 0, none⟩) = (some (.int .u32 n23))) ∧
         (mrd Try.prog (Instr.lookup 93 (.map p22) (.int .u32 n23) Bool.true) p22 w21 (fun v24 _ =>
         (∃ (p25 : (Option Addr)) (m26 : Nat) (m27 : Nat) (b28 : Bool), ((v24 = (.tuple #[(.slice p25 m26 m27), (.bool b28)])) ∧
          (br (!b28)
           (dr w21 (fun w29 =>
          (∃ (p30 : (Option Nat)), (((World.cell? w29 ⟨m4, 0, none⟩) = (some (.map p30))) ∧
           (∃ (n31 : Int), (((World.cell? w29 ⟨m18, 0, none⟩) = (some (.int .u32 n31))) ∧
           (∃ (p32 : (Option Addr)) (m33 : Nat) (m34 : Nat), (((World.cell? w29 (Addr.add ⟨m18, 0, none⟩ 2)) = (some (.slice p32 m33 m34))) ∧
           (rnU Try.prog (Instr.mapUpdate 93 (.map p30) (.int .u32 n31) (.slice p32 m33 m34)) w29 (fun w35 => (k6 (IntKind.wrap .i64 (n7 + (1 : Int))) w35))))))))))) (k6 (IntKind.wrap .i64 (n7 + (1 : Int))) w21)))))))))))))))))))) (R (.returned (.pointer (some ⟨m4, 0, none⟩))) w8))) (0 : Int) w5)))))))

def tree_known_an : Ann := (.seq .leaf (.seq .leaf (.seq (.seq .leaf (.block (.loop (.seq .leaf (.seq (.cond .leaf .leaf) (.seq (.block (.seq .leaf (.seq (.plan [.take 0, .take 1, .take 2, .take 3, .take 4, .take 5, .take 6, .take 7, .take 8, .take 9, .take 10, .take 11]) (.seq .leaf (.cond (.plan [.take 0, .take 1, .take 2, .take 3, .take 4, .take 5, .take 6, .take 7, .eff 8]) .leaf))))) .leaf))) [5, 6, 7, 14, 15, 16, 17, 18, 19, 20, 21, 22, 23, 24, 25, 26, 27, 28, 29, 30, 31, 32, 33, 34, 35, 36, 37, 38] [(14, (.int .i64))]))) (.seq .leaf .leaf))))

set_option maxRecDepth 100000 in
theorem tree_known_ok (x0 : Option Addr) (x0l x0c : Nat) (R : Ending → World → Prop) (w : World) (h : tree_known x0 x0l x0c R w) : Cs Try.prog 42 (#[(.slice x0 x0l x0c)] : Array Value) w R :=
  fn_sound (ty := []) (ann := tree_known_an) (N := 40) (by kernel_rfl) (by kernel_rfl) Try.func42 rfl (by kernel_rfl) (by show 1 ≤ 40; decide) (by kernel_rfl)
    (Eq.mpr (show cdA Try.prog [] tree_known_an _ _ _ w = tree_known x0 x0l x0c R w by kernel_rfl) h)

/- "(*girandole/tree.climber).climb" (43) -/
set_option maxRecDepth 100000 in
def tree_climber_climb (x0 : Option Addr) (x1 : Int) (R : Ending → World → Prop) (w : World) : Prop :=
  (nc x0 (fun a0 =>
 (∃ (p1 : (Option Nat)), (((World.cell? w a0) = (some (.map p1))) ∧
  (mrd Try.prog (Instr.lookup 93 (.map p1) (.int .u32 x1) Bool.false) p1 w (fun v2 _ =>
  (∃ (p3 : (Option Addr)) (m4 : Nat) (m5 : Nat), ((v2 = (.slice p3 m4 m5)) ∧
   (lp (σ := Int) (fun _ k6 n7 w8 =>
   (br (decide (n7 < (m4 : Int)))
     (ixa p3 m4 n7 1 (fun a9 =>
    (∃ (n10 : Int), (((World.cell? w8 a9) = (some (.int .u32 n10))) ∧
     (nc x0 (fun a11 =>
     (∃ (p12 : (Option Nat)), (((World.cell? w8 a11) = (some (.map p12))) ∧
      (mrd Try.prog (Instr.lookup 93 (.map p12) (.int .u32 n10) Bool.true) p12 w8 (fun v13 _ =>
      (∃ (p14 : (Option Addr)) (m15 : Nat) (m16 : Nat) (b17 : Bool), ((v13 = (.tuple #[(.slice p14 m15 m16), (.bool b17)])) ∧
       (br b17
        (nc x0 (fun a18 =>
       (∃ (p19 : (Option Nat)), (((World.cell? w8 (Addr.add a18 1)) = (some (.map p19))) ∧
        (mrd Try.prog (Instr.lookup 94 (.map p19) (.int .u32 n10) Bool.false) p19 w8 (fun v20 _ =>
        (∃ (b21 : Bool), ((v20 = (.bool b21)) ∧
         (br (!b21)
          (nc x0 (fun a22 =>
         (∃ (p23 : (Option Nat)), (((World.cell? w8 (Addr.add a22 1)) = (some (.map p23))) ∧
          (rnU Try.prog (Instr.mapUpdate 94 (.map p23) (.int .u32 n10) (.bool Bool.true)) w8 (fun w24 =>
          (cl Try.prog 43 #[(.pointer x0), (.int .u32 n10)] w24 (fun _ w25 => (k6 (IntKind.wrap .i64 (n7 + (1 : Int))) w25)) (fun x26 w27 => (R (.panicked x26) w27))))))))) (k6 (IntKind.wrap .i64 (n7 + (1 : Int))) w8)))))))))) (k6 (IntKind.wrap .i64 (n7 + (1 : Int))) w8)))))))))))))) (R (.returned (.tuple #[])) w8))) (0 : Int) w)))))))))

def tree_climber_climb_an : Ann := (.seq .leaf (.block (.loop (.seq .leaf (.seq (.cond .leaf .leaf) (.seq (.block (.seq .leaf (.seq .leaf (.seq .leaf (.cond (.seq .leaf .leaf) .leaf))))) .leaf))) [5, 6, 7, 15, 16, 17, 18, 19, 20, 21, 22, 23, 24, 25, 26, 27, 28, 29, 30, 31, 32, 33, 34, 35, 36, 37, 38, 39, 40, 41, 42, 43, 44, 45, 46] [(15, (.int .i64))])))

set_option maxRecDepth 100000 in
theorem tree_climber_climb_ok (x0 : Option Addr) (x1 : Int) (R : Ending → World → Prop) (w : World) (h : tree_climber_climb x0 x1 R w) : Cs Try.prog 43 (#[(.pointer x0), (.int .u32 x1)] : Array Value) w R :=
  fn_sound (ty := []) (ann := tree_climber_climb_an) (N := 47) (by kernel_rfl) (by kernel_rfl) Try.func43 rfl (by kernel_rfl) (by show 2 ≤ 47; decide) (by kernel_rfl)
    (Eq.mpr (show cdA Try.prog [] tree_climber_climb_an _ _ _ w = tree_climber_climb x0 x1 R w by kernel_rfl) h)

/- "slices.Sorted[uint32]" (44) -/
set_option maxRecDepth 100000 in
def slices_Sorted_uint32 (x0 : Value) (R : Ending → World → Prop) (w : World) : Prop :=
  (cl Try.prog 71 #[x0] w (fun v0 w1 =>
 (∃ (p2 : (Option Addr)) (m3 : Nat) (m4 : Nat), ((v0 = (.slice p2 m3 m4)) ∧
  (cl Try.prog 72 #[(.slice p2 m3 m4)] w1 (fun _ w5 => (R (.returned (.slice p2 m3 m4)) w5)) (fun x6 w7 => (R (.panicked x6) w7)))))) (fun x8 w9 => (R (.panicked x8) w9)))

def slices_Sorted_uint32_an : Ann := (.seq .leaf (.seq .leaf (.seq .leaf (.seq .leaf .leaf))))

set_option maxRecDepth 100000 in
theorem slices_Sorted_uint32_ok (x0 : Value) (R : Ending → World → Prop) (w : World) (h : slices_Sorted_uint32 x0 R w) : Cs Try.prog 44 (#[x0] : Array Value) w R :=
  fn_sound (ty := []) (ann := slices_Sorted_uint32_an) (N := 9) (by kernel_rfl) (by kernel_rfl) Try.func44 rfl (by kernel_rfl) (by show 1 ≤ 9; decide) (by kernel_rfl)
    (Eq.mpr (show cdA Try.prog [] slices_Sorted_uint32_an _ _ _ w = slices_Sorted_uint32 x0 R w by kernel_rfl) h)

/- "maps.Keys[map[uint32]bool,uint32,bool]" (45) -/
set_option maxRecDepth 100000 in
def maps_Keys_map_uint32_bool_uint32_bool (x0 : Option Nat) (R : Ending → World → Prop) (w : World) : Prop :=
  (al #[(.map x0)] 94 w (fun m0 w1 => (R (.returned (.func (.func 73) #[] #[(.pointer (some ⟨m0, 0, none⟩))])) w1)))

def maps_Keys_map_uint32_bool_uint32_bool_an : Ann := (.seq .leaf (.seq .leaf .leaf))

set_option maxRecDepth 100000 in
theorem maps_Keys_map_uint32_bool_uint32_bool_ok (x0 : Option Nat) (R : Ending → World → Prop) (w : World) (h : maps_Keys_map_uint32_bool_uint32_bool x0 R w) : Cs Try.prog 45 (#[(.map x0)] : Array Value) w R :=
  fn_sound (ty := []) (ann := maps_Keys_map_uint32_bool_uint32_bool_an) (N := 4) (by kernel_rfl) (by kernel_rfl) Try.func45 rfl (by kernel_rfl) (by show 1 ≤ 4; decide) (by kernel_rfl)
    (Eq.mpr (show cdA Try.prog [] maps_Keys_map_uint32_bool_uint32_bool_an _ _ _ w = maps_Keys_map_uint32_bool_uint32_bool x0 R w by kernel_rfl) h)

/- "girandole/girandoleref12.Find" (46) -/
set_option maxRecDepth 100000 in
def gref12_Find (x0 : Option Addr) (x0l _x0c : Nat) (x1 : Int) (R : Ending → World → Prop) (w : World) : Prop :=
  (al (zc Try.prog 31) 31 w (fun m0 w1 =>
 (lp (σ := Int) (fun _ k2 n3 w4 =>
  (br (decide (n3 < (x0l : Int)))
    (ixa x0 x0l n3 6 (fun a5 =>
   (∃ (n6 : Int), (((World.cell? w4 a5) = (some (.int .u32 n6))) ∧
    (br (n6 == x1)
     (ixa x0 x0l n3 6 (fun a7 =>
    (∃ (n8 : Int) (n9 : Int) (p10 : (Option Addr)) (m11 : Nat) (m12 : Nat) (n13 : Int) (n14 : Int) (n15 : Int), ((cellsAt w4 a7 [(.int .u32 n8), (.int .i64 n9), (.slice p10 m11 m12), (.int .i64 n13), (.int .i64 n14), (.int .i64 n15)]) ∧
     (stN ⟨m0, 0, none⟩ [(.int .u32 n8), (.int .i64 n9), (.slice p10 m11 m12), (.int .i64 n13), (.int .i64 n14), (.int .i64 n15)] w4 (fun w16 =>
     (∃ (n17 : Int) (n18 : Int) (p19 : (Option Addr)) (m20 : Nat) (m21 : Nat) (n22 : Int) (n23 : Int) (n24 : Int), ((cellsAt w16 ⟨m0, 0, none⟩ [(.int .u32 n17), (.int .i64 n18), (.slice p19 m20 m21), (.int .i64 n22), (.int .i64 n23), (.int .i64 n24)]) ∧
      (R (.returned (.tuple #[(.agg #[(.int .u32 n17), (.int .i64 n18), (.slice p19 m20 m21), (.int .i64 n22), (.int .i64 n23), (.int .i64 n24)]), (.bool Bool.true)])) w16))))))))) (k2 (IntKind.wrap .i64 (n3 + (1 : Int))) w4))))))
    (stN ⟨m0, 0, none⟩ [(.int .u32 (0 : Int)), (.int .i64 (0 : Int)), (.slice none 0 0), (.int .i64 (0 : Int)), (.int .i64 (0 : Int)), (.int .i64 (0 : Int))] w4 (fun w25 =>
   (∃ (n26 : Int) (n27 : Int) (p28 : (Option Addr)) (m29 : Nat) (m30 : Nat) (n31 : Int) (n32 : Int) (n33 : Int), ((cellsAt w25 ⟨m0, 0, none⟩ [(.int .u32 n26), (.int .i64 n27), (.slice p28 m29 m30), (.int .i64 n31), (.int .i64 n32), (.int .i64 n33)]) ∧
    (R (.returned (.tuple #[(.agg #[(.int .u32 n26), (.int .i64 n27), (.slice p28 m29 m30), (.int .i64 n31), (.int .i64 n32), (.int .i64 n33)]), (.bool Bool.false)])) w25))))))) (0 : Int) w1)))

def gref12_Find_an : Ann := (.seq .leaf (.seq (.seq .leaf (.block (.loop (.seq (.seq .leaf (.cond .leaf .leaf)) (.seq (.block (.seq .leaf (.cond (.seq .leaf .leaf) .leaf))) .leaf)) [5, 6, 7, 8, 9, 10, 11, 12, 13, 14, 15, 16, 17, 18, 19, 20, 21, 22, 23] [(6, (.int .i64))]))) (.seq .leaf .leaf)))

set_option maxRecDepth 100000 in
theorem gref12_Find_ok (x0 : Option Addr) (x0l x0c : Nat) (x1 : Int) (R : Ending → World → Prop) (w : World) (h : gref12_Find x0 x0l x0c x1 R w) : Cs Try.prog 46 (#[(.slice x0 x0l x0c), (.int .u32 x1)] : Array Value) w R :=
  fn_sound (ty := []) (ann := gref12_Find_an) (N := 25) (by kernel_rfl) (by kernel_rfl) Try.func46 rfl (by kernel_rfl) (by show 2 ≤ 25; decide) (by kernel_rfl)
    (Eq.mpr (show cdA Try.prog [] gref12_Find_an _ _ _ w = gref12_Find x0 x0l x0c x1 R w by kernel_rfl) h)

/- "girandole/girandoleref12.told" (47) -/
set_option maxRecDepth 100000 in
def gref12_told (x0 : Option Addr) (x0l _x0c : Nat) (x1 : Option Nat) (x2 : Int) (R : Ending → World → Prop) (w : World) : Prop :=
  (lp (σ := (((Option Addr) × (Nat × Nat)) × Int)) (fun _ k0 s1 w2 =>
 (br (decide (s1.2 < (x0l : Int)))
   (ixa x0 x0l s1.2 6 (fun a3 =>
  (∃ (n4 : Int), (((World.cell? w2 a3) = (some (.int .u32 n4))) ∧
   (mrd Try.prog (Instr.lookup 94 (.map x1) (.int .u32 n4) Bool.false) x1 w2 (fun v5 _ =>
   (∃ (b6 : Bool), ((v5 = (.bool b6)) ∧
    (br b6
     (ixa x0 x0l s1.2 6 (fun a7 =>
    (∃ (n8 : Int), (((World.cell? w2 a7) = (some (.int .u32 n8))) ∧
     (br (n8 != x2)
      (ixa x0 x0l s1.2 6 (fun a9 =>
     (∃ (n10 : Int), (((World.cell? w2 a9) = (some (.int .u32 n10))) ∧
      (al #[(.int .u32 n10)] 23 w2 (fun m11 w12 =>
      (rnV Try.prog (Builtin.append_ #[29, 29] 29 #[(.slice s1.1.1 s1.1.2.1 s1.1.2.2), (.slice (some ⟨m11, 0, none⟩) 1 1)]) w12 (fun v13 w14 =>
       (∃ (p15 : (Option Addr)) (m16 : Nat) (m17 : Nat), ((v13 = (.slice p15 m16 m17)) ∧ (k0 ((p15, (m16, m17)), (IntKind.wrap .i64 (s1.2 + (1 : Int)))) w14)))))))))))
      (k0 ((s1.1.1, (s1.1.2.1, s1.1.2.2)), (IntKind.wrap .i64 (s1.2 + (1 : Int)))) w2))))))
     (k0 ((s1.1.1, (s1.1.2.1, s1.1.2.2)), (IntKind.wrap .i64 (s1.2 + (1 : Int)))) w2)))))))))) (R (.returned (.slice s1.1.1 s1.1.2.1 s1.1.2.2)) w2))) ((none, (0, 0)), (0 : Int)) w)

def gref12_told_an : Ann := (.seq .leaf (.seq .leaf (.seq (.seq .leaf (.block (.loop (.seq (.seq .leaf (.cond .leaf .leaf)) (.seq (.block (.seq .leaf (.cond .leaf .leaf))) .leaf)) [7, 8, 9, 10, 11, 12, 13, 14, 15, 16, 17, 18, 19, 20, 21, 22, 23, 24, 25, 26, 27, 28, 29, 30, 31, 32, 33, 34, 35, 36, 37, 38] [(7, .slice), (8, (.int .i64))]))) (.seq .leaf .leaf))))

set_option maxRecDepth 100000 in
theorem gref12_told_ok (x0 : Option Addr) (x0l x0c : Nat) (x1 : Option Nat) (x2 : Int) (R : Ending → World → Prop) (w : World) (h : gref12_told x0 x0l x0c x1 x2 R w) : Cs Try.prog 47 (#[(.slice x0 x0l x0c), (.map x1), (.int .u32 x2)] : Array Value) w R :=
  fn_sound (ty := []) (ann := gref12_told_an) (N := 40) (by kernel_rfl) (by kernel_rfl) Try.func47 rfl (by kernel_rfl) (by show 3 ≤ 40; decide) (by kernel_rfl)
    (Eq.mpr (show cdA Try.prog [] gref12_told_an _ _ _ w = gref12_told x0 x0l x0c x1 x2 R w by kernel_rfl) h)

/- "slices.Contains[[]uint32,uint32]" (48) -/
set_option maxRecDepth 100000 in
def slices_Contains_uint32_uint32 (x0 : Option Addr) (x0l x0c : Nat) (x1 : Int) (R : Ending → World → Prop) (w : World) : Prop :=
  (cl Try.prog 74 #[(.slice x0 x0l x0c), (.int .u32 x1)] w (fun v0 w1 =>
 (∃ (n2 : Int), ((v0 = (.int .i64 n2)) ∧ (R (.returned (.bool (decide (n2 ≥ (0 : Int))))) w1)))) (fun x3 w4 => (R (.panicked x3) w4)))

def slices_Contains_uint32_uint32_an : Ann := (.seq .leaf (.seq .leaf .leaf))

set_option maxRecDepth 100000 in
theorem slices_Contains_uint32_uint32_ok (x0 : Option Addr) (x0l x0c : Nat) (x1 : Int) (R : Ending → World → Prop) (w : World) (h : slices_Contains_uint32_uint32 x0 x0l x0c x1 R w) : Cs Try.prog 48 (#[(.slice x0 x0l x0c), (.int .u32 x1)] : Array Value) w R :=
  fn_sound (ty := []) (ann := slices_Contains_uint32_uint32_an) (N := 9) (by kernel_rfl) (by kernel_rfl) Try.func48 rfl (by kernel_rfl) (by show 2 ≤ 9; decide) (by kernel_rfl)
    (Eq.mpr (show cdA Try.prog [] slices_Contains_uint32_uint32_an _ _ _ w = slices_Contains_uint32_uint32 x0 x0l x0c x1 R w by kernel_rfl) h)

/- "girandole/girandoleref12.in" (49) -/
set_option maxRecDepth 100000 in
def gref12_in (x0 : Option Addr) (x0l _x0c : Nat) (x1 : Int) (R : Ending → World → Prop) (w : World) : Prop :=
  (lp (σ := Int) (fun _ k0 n1 w2 =>
 (br (decide (n1 < (x0l : Int)))
   (ixa x0 x0l n1 1 (fun a3 =>
  (∃ (n4 : Int), (((World.cell? w2 a3) = (some (.int .u32 n4))) ∧
   (br (n4 == x1) (R (.returned (.bool Bool.true)) w2) (k0 (IntKind.wrap .i64 (n1 + (1 : Int))) w2)))))) (R (.returned (.bool Bool.false)) w2))) (0 : Int) w)

def gref12_in_an : Ann := (.seq .leaf (.seq (.seq .leaf (.block (.loop (.seq (.seq .leaf (.cond .leaf .leaf)) (.seq (.block (.seq .leaf (.cond (.seq .leaf .leaf) .leaf))) .leaf)) [4, 5, 6, 7, 8, 9, 10, 11, 12, 13, 14, 15, 16, 17] [(5, (.int .i64))]))) (.seq .leaf .leaf)))

set_option maxRecDepth 100000 in
theorem gref12_in_ok (x0 : Option Addr) (x0l x0c : Nat) (x1 : Int) (R : Ending → World → Prop) (w : World) (h : gref12_in x0 x0l x0c x1 R w) : Cs Try.prog 49 (#[(.slice x0 x0l x0c), (.int .u32 x1)] : Array Value) w R :=
  fn_sound (ty := []) (ann := gref12_in_an) (N := 18) (by kernel_rfl) (by kernel_rfl) Try.func49 rfl (by kernel_rfl) (by show 2 ≤ 18; decide) (by kernel_rfl)
    (Eq.mpr (show cdA Try.prog [] gref12_in_an _ _ _ w = gref12_in x0 x0l x0c x1 R w by kernel_rfl) h)

/- "(*girandole/girandoleplay.Picks).Num" (69) -/
set_option maxRecDepth 100000 in
def gplay_Picks_Num (x0 : Option Addr) (x1 : Int) (R : Ending → World → Prop) (w : World) : Prop :=
  (dr w (fun w0 =>
 (nc x0 (fun a1 =>
  (∃ (n2 : Int), (((World.cell? w0 (Addr.add a1 1)) = (some (.int .i64 n2))) ∧
   (nc x0 (fun a3 =>
   (∃ (p4 : (Option Addr)) (m5 : Nat) (m6 : Nat), (((World.cell? w0 a3) = (some (.slice p4 m5 m6))) ∧
    (br (decide (n2 ≥ (m5 : Int))) (R (.returned (.int .i64 (0 : Int))) w0)
     (nc x0 (fun a7 =>
    (∃ (n8 : Int), (((World.cell? w0 (Addr.add a7 1)) = (some (.int .i64 n8))) ∧
     (nc x0 (fun a9 =>
     (st1 (Addr.add a9 1) (.int .i64 (IntKind.wrap .i64 (n8 + (1 : Int)))) w0 (fun w10 =>
      (dr w10 (fun w11 =>
       (nc x0 (fun a12 =>
        (∃ (p13 : (Option Addr)) (m14 : Nat) (m15 : Nat), (((World.cell? w11 a12) = (some (.slice p13 m14 m15))) ∧
         (nc x0 (fun a16 =>
         (∃ (n17 : Int), (((World.cell? w11 (Addr.add a16 1)) = (some (.int .i64 n17))) ∧
          (ixa p13 m14 (IntKind.wrap .i64 (n17 - (1 : Int))) 1 (fun a18 =>
          (∃ (n19 : Int), (((World.cell? w11 a18) = (some (.int .u8 n19))) ∧
           ((x1 ≠ (0 : Int)) ∧ (R (.returned (.int .i64 (Int.tmod (IntKind.wrap .i64 n19) x1))) w11)))))))))))))))))))))))))))))))))))

def gplay_Picks_Num_an : Ann := (.seq .leaf (.seq (.seq (.plan [.take 0, .take 1, .take 2, .take 3, .take 4, .take 5, .take 6, .take 7, .take 8, .take 9]) (.cond (.seq .leaf .leaf) .leaf)) (.seq .leaf (.seq (.plan [.take 0, .take 1, .take 2, .take 3, .take 4, .take 5, .take 6, .take 7, .take 8, .take 9, .take 10, .take 11, .take 12, .take 13, .take 14]) .leaf))))

set_option maxRecDepth 100000 in
theorem gplay_Picks_Num_ok (x0 : Option Addr) (x1 : Int) (R : Ending → World → Prop) (w : World) (h : gplay_Picks_Num x0 x1 R w) : Cs Try.prog 69 (#[(.pointer x0), (.int .i64 x1)] : Array Value) w R :=
  fn_sound (ty := []) (ann := gplay_Picks_Num_an) (N := 36) (by kernel_rfl) (by kernel_rfl) Try.func69 rfl (by kernel_rfl) (by show 2 ≤ 36; decide) (by kernel_rfl)
    (Eq.mpr (show cdA Try.prog [] gplay_Picks_Num_an _ _ _ w = gplay_Picks_Num x0 x1 R w by kernel_rfl) h)

/- "(*girandole/girandoleplay.Picks).Body" (70) -/
set_option maxRecDepth 100000 in
def gplay_Picks_Body (x0 : Option Addr) (x1 : Int) (R : Ending → World → Prop) (w : World) : Prop :=
  (rnV Try.prog (Instr.makeSlice 22 (.int .i64 x1) (.int .i64 x1)) w (fun v0 w1 =>
 (∃ (p2 : (Option Addr)) (m3 : Nat) (m4 : Nat), ((v0 = (.slice p2 m3 m4)) ∧
  (lp (σ := Int) (fun _ k5 n6 w7 =>
  (br (decide (n6 < x1))
    (cl Try.prog 69 #[(.pointer x0), (.int .i64 (256 : Int))] w7 (fun v8 w9 =>
   (∃ (n10 : Int), ((v8 = (.int .i64 n10)) ∧
    (ixa p2 m3 n6 1 (fun a11 =>
    (st1 a11 (.int .u8 (IntKind.wrap .u8 n10)) w9 (fun w12 => (k5 (IntKind.wrap .i64 (n6 + (1 : Int))) w12)))))))) (fun x13 w14 => (R (.panicked x13) w14))) (R (.returned (.slice p2 m3 m4)) w7))) (0 : Int) w1)))))

def gplay_Picks_Body_an : Ann := (.seq .leaf (.seq .leaf (.seq (.seq .leaf (.block (.loop (.seq (.seq .leaf (.cond .leaf .leaf)) (.seq (.block .leaf) .leaf)) [6, 9, 10, 11, 12, 13, 14, 15, 16, 17, 18, 19] [(6, (.int .i64))]))) (.seq .leaf .leaf))))

set_option maxRecDepth 100000 in
theorem gplay_Picks_Body_ok (x0 : Option Addr) (x1 : Int) (R : Ending → World → Prop) (w : World) (h : gplay_Picks_Body x0 x1 R w) : Cs Try.prog 70 (#[(.pointer x0), (.int .i64 x1)] : Array Value) w R :=
  fn_sound (ty := []) (ann := gplay_Picks_Body_an) (N := 21) (by kernel_rfl) (by kernel_rfl) Try.func70 rfl (by kernel_rfl) (by show 2 ≤ 21; decide) (by kernel_rfl)
    (Eq.mpr (show cdA Try.prog [] gplay_Picks_Body_an _ _ _ w = gplay_Picks_Body x0 x1 R w by kernel_rfl) h)

/- "slices.Collect[uint32]" (71) -/
set_option maxRecDepth 100000 in
def slices_Collect_uint32 (x0 : Value) (R : Ending → World → Prop) (w : World) : Prop :=
  (cl Try.prog 93 #[(.slice none 0 0), x0] w (fun v0 w1 =>
 (∃ (p2 : (Option Addr)) (m3 : Nat) (m4 : Nat), ((v0 = (.slice p2 m3 m4)) ∧ (R (.returned (.slice p2 m3 m4)) w1)))) (fun x5 w6 => (R (.panicked x5) w6)))

def slices_Collect_uint32_an : Ann := (.seq .leaf (.seq .leaf .leaf))

set_option maxRecDepth 100000 in
theorem slices_Collect_uint32_ok (x0 : Value) (R : Ending → World → Prop) (w : World) (h : slices_Collect_uint32 x0 R w) : Cs Try.prog 71 (#[x0] : Array Value) w R :=
  fn_sound (ty := []) (ann := slices_Collect_uint32_an) (N := 5) (by kernel_rfl) (by kernel_rfl) Try.func71 rfl (by kernel_rfl) (by show 1 ≤ 5; decide) (by kernel_rfl)
    (Eq.mpr (show cdA Try.prog [] slices_Collect_uint32_an _ _ _ w = slices_Collect_uint32 x0 R w by kernel_rfl) h)

/- "slices.Sort[[]uint32,uint32]" (72) -/
set_option maxRecDepth 100000 in
def slices_Sort_uint32_uint32 (x0 : Option Addr) (x0l x0c : Nat) (R : Ending → World → Prop) (w : World) : Prop :=
  (cl Try.prog 95 #[(.int .u64 (IntKind.wrap .u64 (x0l : Int)))] w (fun v0 w1 =>
 (∃ (n2 : Int), ((v0 = (.int .i64 n2)) ∧
  (cl Try.prog 94 #[(.slice x0 x0l x0c), (.int .i64 (0 : Int)), (.int .i64 (x0l : Int)), (.int .i64 n2)] w1 (fun _ w3 => (R (.returned (.tuple #[])) w3)) (fun x4 w5 => (R (.panicked x4) w5)))))) (fun x6 w7 => (R (.panicked x6) w7)))

def slices_Sort_uint32_uint32_an : Ann := (.seq .leaf .leaf)

set_option maxRecDepth 100000 in
theorem slices_Sort_uint32_uint32_ok (x0 : Option Addr) (x0l x0c : Nat) (R : Ending → World → Prop) (w : World) (h : slices_Sort_uint32_uint32 x0 x0l x0c R w) : Cs Try.prog 72 (#[(.slice x0 x0l x0c)] : Array Value) w R :=
  fn_sound (ty := []) (ann := slices_Sort_uint32_uint32_an) (N := 11) (by kernel_rfl) (by kernel_rfl) Try.func72 rfl (by kernel_rfl) (by show 1 ≤ 11; decide) (by kernel_rfl)
    (Eq.mpr (show cdA Try.prog [] slices_Sort_uint32_uint32_an _ _ _ w = slices_Sort_uint32_uint32 x0 x0l x0c R w by kernel_rfl) h)

/- "maps.Keys[map[uint32]bool,uint32,bool]$1" (73) -/
set_option maxRecDepth 100000 in
def maps_Keys_map_uint32_bool_uint32_bool_1 (x0 : Value) (x1 : Option Addr) (R : Ending → World → Prop) (w : World) : Prop :=
  (nc x1 (fun a0 =>
 (∃ (p1 : (Option Nat)), (((World.cell? w a0) = (some (.map p1))) ∧
  (rnV Try.prog (Instr.range 94 (.map p1)) w (fun v2 w3 =>
  (∃ (p4 : (Option Addr)), ((v2 = (.pointer p4)) ∧
   (lp (σ := PUnit) (fun _ k5 _ w6 =>
   (nxt Try.prog (Instr.next (.pointer p4) Bool.false 0) w6 (fun w7 => (R (.returned (.tuple #[])) w7)) (fun _ _ w8 =>
    (ent Try.prog (Instr.entry (.pointer p4)) w8 (fun v9 _ w10 =>
     (∃ (n11 : Int), ((v9 = (.int .u32 n11)) ∧
      (clv Try.prog x0 [(.int .u32 n11)] w10 (fun v12 w13 =>
      (∃ (b14 : Bool), ((v12 = (.bool b14)) ∧ (br (!b14) (R (.returned (.tuple #[])) w13) (k5 () w13))))) (fun x15 w16 => (R (.panicked x15) w16)))))))))) () w3)))))))))

def maps_Keys_map_uint32_bool_uint32_bool_1_an : Ann := (.seq .leaf (.block (.loop (.seq .leaf (.seq (.cond .leaf .leaf) (.block (.seq .leaf (.seq .leaf (.cond .leaf .leaf)))))) [3, 6, 7, 8, 9, 10, 11, 12, 13] [])))

set_option maxRecDepth 100000 in
theorem maps_Keys_map_uint32_bool_uint32_bool_1_ok (x0 : Value) (x1 : Option Addr) (R : Ending → World → Prop) (w : World) (h : maps_Keys_map_uint32_bool_uint32_bool_1 x0 x1 R w) : Cs Try.prog 73 (#[x0, (.pointer x1)] : Array Value) w R :=
  fn_sound (ty := [8]) (ann := maps_Keys_map_uint32_bool_uint32_bool_1_an) (N := 14) (by kernel_rfl) (by kernel_rfl) Try.func73 rfl (by kernel_rfl) (by show 2 ≤ 14; decide) (by kernel_rfl)
    (Eq.mpr (show cdA Try.prog [8] maps_Keys_map_uint32_bool_uint32_bool_1_an _ _ _ w = maps_Keys_map_uint32_bool_uint32_bool_1 x0 x1 R w by kernel_rfl) h)

/- "slices.Index[[]uint32,uint32]" (74) -/
set_option maxRecDepth 100000 in
def slices_Index_uint32_uint32 (x0 : Option Addr) (x0l _x0c : Nat) (x1 : Int) (R : Ending → World → Prop) (w : World) : Prop :=
  (lp (σ := Int) (fun _ k0 n1 w2 =>
 (br (decide (n1 < (x0l : Int)))
   (ixa x0 x0l n1 1 (fun a3 =>
  (∃ (n4 : Int), (((World.cell? w2 a3) = (some (.int .u32 n4))) ∧
   (br (x1 == n4) (R (.returned (.int .i64 n1)) w2) (k0 (IntKind.wrap .i64 (n1 + (1 : Int))) w2)))))) (R (.returned (.int .i64 (-(1 : Int)))) w2))) (0 : Int) w)

def slices_Index_uint32_uint32_an : Ann := (.seq .leaf (.seq (.seq .leaf (.block (.loop (.seq .leaf (.seq (.cond .leaf .leaf) (.seq (.block (.seq .leaf (.seq .leaf (.cond (.seq .leaf .leaf) .leaf)))) .leaf))) [4, 5, 8, 9, 10, 11, 12, 13, 14, 15, 16, 17, 18] [(8, (.int .i64))]))) (.seq .leaf .leaf)))

set_option maxRecDepth 100000 in
theorem slices_Index_uint32_uint32_ok (x0 : Option Addr) (x0l x0c : Nat) (x1 : Int) (R : Ending → World → Prop) (w : World) (h : slices_Index_uint32_uint32 x0 x0l x0c x1 R w) : Cs Try.prog 74 (#[(.slice x0 x0l x0c), (.int .u32 x1)] : Array Value) w R :=
  fn_sound (ty := []) (ann := slices_Index_uint32_uint32_an) (N := 19) (by kernel_rfl) (by kernel_rfl) Try.func74 rfl (by kernel_rfl) (by show 2 ≤ 19; decide) (by kernel_rfl)
    (Eq.mpr (show cdA Try.prog [] slices_Index_uint32_uint32_an _ _ _ w = slices_Index_uint32_uint32 x0 x0l x0c x1 R w by kernel_rfl) h)

/- "slices.pdqsortOrdered[uint32]" (94) -/
set_option maxRecDepth 100000 in
def slices_pdqsortOrdered_uint32 (x0 : Option Addr) (x0l x0c : Nat) (x1 : Int) (x2 : Int) (x3 : Int) (R : Ending → World → Prop) (w : World) : Prop :=
  (lp (σ := (Int × (Int × (Int × (Bool × Bool))))) (fun _ k0 s1 w2 =>
 (br (decide ((IntKind.wrap .i64 (s1.2.1 - s1.1)) ≤ (12 : Int)))
   (cl Try.prog 110 #[(.slice x0 x0l x0c), (.int .i64 s1.1), (.int .i64 s1.2.1)] w2 (fun _ w3 => (R (.returned (.tuple #[])) w3)) (fun x4 w5 => (R (.panicked x4) w5)))
   (br (s1.2.2.1 == (0 : Int))
   (cl Try.prog 111 #[(.slice x0 x0l x0c), (.int .i64 s1.1), (.int .i64 s1.2.1)] w2 (fun _ w6 => (R (.returned (.tuple #[])) w6)) (fun x7 w8 => (R (.panicked x7) w8)))
   (jn (σ := Int) (fun _ n9 w10 =>
  (cl Try.prog 113 #[(.slice x0 x0l x0c), (.int .i64 s1.1), (.int .i64 s1.2.1)] w10 (fun v11 w12 =>
   (∃ (n13 : Int) (n14 : Int), ((v11 = (.tuple #[(.int .i64 n13), (.int .i64 n14)])) ∧
    (jn (σ := (Int × Int)) (fun _ s15 w16 =>
    (jn (σ := PUnit) (fun _ _ w17 =>
     (jn (σ := Int) (fun _ n18 w19 =>
      (cl Try.prog 118 #[(.slice x0 x0l x0c), (.int .i64 n18), (.int .i64 s1.2.1), (.int .i64 s15.1)] w19 (fun v20 w21 =>
       (∃ (n22 : Int) (b23 : Bool), ((v20 = (.tuple #[(.int .i64 n22), (.bool b23)])) ∧
        (((8 : Int) ≠ (0 : Int)) ∧
        (br
         (decide ((IntKind.wrap .i64 (n22 - n18)) < (IntKind.wrap .i64 (s1.2.1 - n22))))
         (cl Try.prog 94 #[(.slice x0 x0l x0c), (.int .i64 n18), (.int .i64 n22), (.int .i64 n9)] w21 (fun _ w24 =>
        (k0 ((IntKind.wrap .i64 (n22 + (1 : Int))), (s1.2.1, (n9, ((decide ((IntKind.wrap .i64 (n22 - n18)) ≥ (IntKind.wrap .i64 (Int.tdiv (IntKind.wrap .i64 (s1.2.1 - s1.1)) (8 : Int))))), b23)))) w24)) (fun x25 w26 => (R (.panicked x25) w26)))
         (cl Try.prog 94 #[(.slice x0 x0l x0c), (.int .i64 (IntKind.wrap .i64 (n22 + (1 : Int)))), (.int .i64 s1.2.1), (.int .i64 n9)] w21 (fun _ w27 =>
        (k0 (n18, (n22, (n9, ((decide ((IntKind.wrap .i64 (s1.2.1 - n22)) ≥ (IntKind.wrap .i64 (Int.tdiv (IntKind.wrap .i64 (s1.2.1 - s1.1)) (8 : Int))))), b23)))) w27)) (fun x28 w29 => (R (.panicked x28) w29)))))))) (fun x30 w31 => (R (.panicked x30) w31)))) (fun k32 =>
      (dr w17 (fun w33 =>
       (br (decide (s1.1 > (0 : Int)))
         (ixa x0 x0l (IntKind.wrap .i64 (s1.1 - (1 : Int))) 1 (fun a34 =>
        (∃ (n35 : Int), (((World.cell? w33 a34) = (some (.int .u32 n35))) ∧
         (ixa x0 x0l s15.1 1 (fun a36 =>
         (∃ (n37 : Int), (((World.cell? w33 a36) = (some (.int .u32 n37))) ∧
          (cl Try.prog 116 #[(.int .u32 n35), (.int .u32 n37)] w33 (fun v38 w39 =>
          (∃ (b40 : Bool), ((v38 = (.bool b40)) ∧
           (br (!b40)
            (cl Try.prog 117 #[(.slice x0 x0l x0c), (.int .i64 s1.1), (.int .i64 s1.2.1), (.int .i64 s15.1)] w39 (fun v41 w42 =>
           (∃ (n43 : Int), ((v41 = (.int .i64 n43)) ∧ (k0 (n43, (s1.2.1, (n9, (s1.2.2.2.1, s1.2.2.2.2)))) w42)))) (fun x44 w45 => (R (.panicked x44) w45))) (k32 s1.1 w39))))) (fun _ _ => False)))))))))) (k32 s1.1 w33))))))) (fun k46 =>
     (br s1.2.2.2.1
       (br s1.2.2.2.2
       (br (s15.2 == (1 : Int))
       (cl Try.prog 115 #[(.slice x0 x0l x0c), (.int .i64 s1.1), (.int .i64 s1.2.1)] w16 (fun v47 w48 =>
      (∃ (b49 : Bool), ((v47 = (.bool b49)) ∧ (br b49 (R (.returned (.tuple #[])) w48) (k46 () w48))))) (fun x50 w51 => (R (.panicked x50) w51))) (k46 () w16)) (k46 () w16)) (k46 () w16))))) (fun k52 =>
    (br (n14 == (2 : Int))
      (cl Try.prog 114 #[(.slice x0 x0l x0c), (.int .i64 s1.1), (.int .i64 s1.2.1)] w12 (fun _ w53 =>
     (k52 ((IntKind.wrap .i64 ((IntKind.wrap .i64 (s1.2.1 - (1 : Int))) - (IntKind.wrap .i64 (n13 - s1.1)))), (1 : Int)) w53)) (fun x54 w55 => (R (.panicked x54) w55))) (k52 (n13, n14) w12))))))) (fun x56 w57 => (R (.panicked x56) w57)))) (fun k58 =>
  (br (!s1.2.2.2.1)
    (cl Try.prog 112 #[(.slice x0 x0l x0c), (.int .i64 s1.1), (.int .i64 s1.2.1)] w2 (fun _ w59 => (k58 (IntKind.wrap .i64 (s1.2.2.1 - (1 : Int))) w59)) (fun x60 w61 => (R (.panicked x60) w61))) (k58 s1.2.2.1 w2))))))) (x1, (x2, (x3, (Bool.true, Bool.true)))) w)

def slices_pdqsortOrdered_uint32_an : Ann := (.seq .leaf (.seq .leaf (.block (.loop (.block (.seq .leaf (.seq (.seq .leaf (.cond (.seq .leaf .leaf) .leaf)) (.seq (.seq .leaf (.cond (.seq .leaf .leaf) .leaf)) (.join (.seq .leaf (.cond (.seq .leaf .leaf) .leaf)) [3, 34, 35, 36, 37, 38, 39, 40, 41] [(3, (.int .i64))] (.seq .leaf (.join (.seq .leaf (.cond (.seq .leaf (.seq .leaf .leaf)) .leaf)) [11, 12, 49, 50, 51, 52, 53, 54, 55, 56, 57, 58, 59, 60] [(11, (.int .i64)), (12, (.int .i64))] (.join (.seq .leaf (.cond (.seq .leaf (.cond .leaf .leaf)) .leaf)) [61, 62, 63, 64, 65, 66, 67, 68, 69, 70, 71, 72] [] (.join (.seq (.plan [.take 0, .take 1, .take 2, .take 3, .take 4, .take 5, .take 6, .take 7, .take 8, .take 9, .take 10, .take 11, .eff 12, .take 13, .take 14]) (.cond (.seq .leaf (.seq .leaf .leaf)) .leaf)) [1, 13, 73, 74, 75, 76, 77, 78, 79, 80, 81, 82, 83, 84, 85, 86, 87, 88, 89, 90, 91, 92, 93] [(1, (.int .i64))] (.seq .leaf (.seq .leaf (.seq .leaf (.seq .leaf (.seq .leaf (.cond (.seq .leaf (.seq .leaf .leaf)) (.seq .leaf (.seq .leaf .leaf))))))))))))))))) [1, 2, 3, 8, 9, 10, 11, 12, 13, 14, 15, 16, 17, 18, 19, 20, 21, 22, 23, 24, 25, 26, 27, 28, 29, 30, 31, 32, 33, 34, 35, 36, 37, 38, 39, 40, 41, 42, 43, 44, 45, 46, 47, 48, 49, 50, 51, 52, 53, 54, 55, 56, 57, 58, 59, 60, 61, 62, 63, 64, 65, 66, 67, 68, 69, 70, 71, 72, 73, 74, 75, 76, 77, 78, 79, 80, 81, 82, 83, 84, 85, 86, 87, 88, 89, 90, 91, 92, 93, 94, 95, 96, 97, 98, 99, 100, 101, 102, 103, 104, 105, 106, 107, 108, 109, 110, 111, 112, 113, 114, 115, 116, 117, 118, 119, 120, 121, 122, 123, 124, 125, 126, 127, 128, 129, 130, 131, 132, 133] [(1, (.int .i64)), (2, (.int .i64)), (3, (.int .i64)), (8, .bool), (9, .bool)]))))

set_option maxRecDepth 100000 in
theorem slices_pdqsortOrdered_uint32_ok (x0 : Option Addr) (x0l x0c : Nat) (x1 : Int) (x2 : Int) (x3 : Int) (R : Ending → World → Prop) (w : World) (h : slices_pdqsortOrdered_uint32 x0 x0l x0c x1 x2 x3 R w) : Cs Try.prog 94 (#[(.slice x0 x0l x0c), (.int .i64 x1), (.int .i64 x2), (.int .i64 x3)] : Array Value) w R :=
  fn_sound (ty := []) (ann := slices_pdqsortOrdered_uint32_an) (N := 134) (by kernel_rfl) (by kernel_rfl) Try.func94 rfl (by kernel_rfl) (by show 4 ≤ 134; decide) (by kernel_rfl)
    (Eq.mpr (show cdA Try.prog [] slices_pdqsortOrdered_uint32_an _ _ _ w = slices_pdqsortOrdered_uint32 x0 x0l x0c x1 x2 x3 R w by kernel_rfl) h)

/- "math/bits.Len" (95) -/
set_option maxRecDepth 100000 in
def math_bits_Len (x0 : Int) (R : Ending → World → Prop) (w : World) : Prop :=
  (cl Try.prog 120 #[(.int .u64 x0)] w (fun v0 w1 => (∃ (n2 : Int), ((v0 = (.int .i64 n2)) ∧ (R (.returned (.int .i64 n2)) w1)))) (fun x3 w4 => (R (.panicked x3) w4)))

def math_bits_Len_an : Ann := (.seq .leaf (.seq (.cond (.seq .leaf .leaf) .leaf) (.seq .leaf .leaf)))

set_option maxRecDepth 100000 in
theorem math_bits_Len_ok (x0 : Int) (R : Ending → World → Prop) (w : World) (h : math_bits_Len x0 R w) : Cs Try.prog 95 (#[(.int .u64 x0)] : Array Value) w R :=
  fn_sound (ty := []) (ann := math_bits_Len_an) (N := 8) (by kernel_rfl) (by kernel_rfl) Try.func95 rfl (by kernel_rfl) (by show 1 ≤ 8; decide) (by kernel_rfl)
    (Eq.mpr (show cdA Try.prog [] math_bits_Len_an _ _ _ w = math_bits_Len x0 R w by kernel_rfl) h)

/- "slices.insertionSortOrdered[uint32]" (110) -/
set_option maxRecDepth 100000 in
def slices_insertionSortOrdered_uint32 (x0 : Option Addr) (x0l _x0c : Nat) (x1 : Int) (x2 : Int) (R : Ending → World → Prop) (w : World) : Prop :=
  (lp (σ := Int) (fun _ k0 n1 w2 =>
 (br (decide (n1 < x2))
   (lp (σ := Int) (fun _ k3 n4 w5 =>
  (dr w5 (fun w6 =>
   (br (decide (n4 > x1))
     (ixa x0 x0l n4 1 (fun a7 =>
    (∃ (n8 : Int), (((World.cell? w6 a7) = (some (.int .u32 n8))) ∧
     (ixa x0 x0l (IntKind.wrap .i64 (n4 - (1 : Int))) 1 (fun a9 =>
     (∃ (n10 : Int), (((World.cell? w6 a9) = (some (.int .u32 n10))) ∧
      (cl Try.prog 116 #[(.int .u32 n8), (.int .u32 n10)] w6 (fun v11 w12 =>
      (∃ (b13 : Bool), ((v11 = (.bool b13)) ∧
       (br b13
        (dr w12 (fun w14 =>
       (ixa x0 x0l (IntKind.wrap .i64 (n4 - (1 : Int))) 1 (fun a15 =>
        (∃ (n16 : Int), (((World.cell? w14 a15) = (some (.int .u32 n16))) ∧
         (ixa x0 x0l n4 1 (fun a17 =>
         (∃ (n18 : Int), (((World.cell? w14 a17) = (some (.int .u32 n18))) ∧
          (ixa x0 x0l n4 1 (fun a19 =>
          (st1 a19 (.int .u32 n16) w14 (fun w20 =>
           (ixa x0 x0l (IntKind.wrap .i64 (n4 - (1 : Int))) 1 (fun a21 => (st1 a21 (.int .u32 n18) w20 (fun w22 => (k3 (IntKind.wrap .i64 (n4 - (1 : Int))) w22))))))))))))))))))) (k0 (IntKind.wrap .i64 (n1 + (1 : Int))) w12))))) (fun _ _ => False)))))))))) (k0 (IntKind.wrap .i64 (n1 + (1 : Int))) w6))))) n1 w2) (R (.returned (.tuple #[])) w2))) (IntKind.wrap .i64 (x1 + (1 : Int))) w)

def slices_insertionSortOrdered_uint32_an : Ann := (.seq .leaf (.block (.loop (.seq (.seq .leaf (.cond .leaf .leaf)) (.seq (.block (.seq .leaf (.block (.loop (.seq (.seq (.plan [.take 0, .take 1, .take 2, .take 3, .take 4, .take 5, .take 6, .take 7, .take 8, .take 9, .take 10, .take 11, .take 12, .eff 13, .take 14]) (.cond .leaf .leaf)) (.seq (.block (.plan [.take 0, .take 1, .take 2, .take 3, .take 4, .take 5, .take 6, .take 7, .take 8, .take 9, .take 10, .take 11, .take 12, .take 13, .take 14, .eff 15, .take 16, .eff 17])) .leaf)) [7, 16, 17, 18, 19, 20, 21, 22, 23, 24, 25, 26, 27, 28, 29, 30, 31, 32, 33, 34, 35, 36, 37, 38, 39, 40, 41, 42, 43, 44, 45, 46, 47, 48] [(7, (.int .i64))])))) .leaf)) [6, 7, 10, 11, 12, 13, 14, 15, 16, 17, 18, 19, 20, 21, 22, 23, 24, 25, 26, 27, 28, 29, 30, 31, 32, 33, 34, 35, 36, 37, 38, 39, 40, 41, 42, 43, 44, 45, 46, 47, 48] [(6, (.int .i64))])))

set_option maxRecDepth 100000 in
theorem slices_insertionSortOrdered_uint32_ok (x0 : Option Addr) (x0l x0c : Nat) (x1 : Int) (x2 : Int) (R : Ending → World → Prop) (w : World) (h : slices_insertionSortOrdered_uint32 x0 x0l x0c x1 x2 R w) : Cs Try.prog 110 (#[(.slice x0 x0l x0c), (.int .i64 x1), (.int .i64 x2)] : Array Value) w R :=
  fn_sound (ty := []) (ann := slices_insertionSortOrdered_uint32_an) (N := 49) (by kernel_rfl) (by kernel_rfl) Try.func110 rfl (by kernel_rfl) (by show 3 ≤ 49; decide) (by kernel_rfl)
    (Eq.mpr (show cdA Try.prog [] slices_insertionSortOrdered_uint32_an _ _ _ w = slices_insertionSortOrdered_uint32 x0 x0l x0c x1 x2 R w by kernel_rfl) h)

/- "cmp.Less[uint32]" (116) -/
set_option maxRecDepth 100000 in
def cmp_Less_uint32 (x0 : Int) (x1 : Int) (R : Ending → World → Prop) (w : World) : Prop :=
  (cl Try.prog 146 #[(.int .u32 x0)] w (fun v0 w1 =>
 (∃ (b2 : Bool), ((v0 = (.bool b2)) ∧
  (br b2
   (cl Try.prog 146 #[(.int .u32 x1)] w1 (fun v3 w4 =>
  (∃ (b5 : Bool), ((v3 = (.bool b5)) ∧ (br (!b5) (R (.returned (.bool Bool.true)) w4) (R (.returned (.bool (decide (x0 < x1)))) w4))))) (fun x6 w7 => (R (.panicked x6) w7))) (R (.returned (.bool (decide (x0 < x1)))) w1))))) (fun x8 w9 => (R (.panicked x8) w9)))

def cmp_Less_uint32_an : Ann := (.seq .leaf (.seq .leaf .leaf))

set_option maxRecDepth 100000 in
theorem cmp_Less_uint32_ok (x0 : Int) (x1 : Int) (R : Ending → World → Prop) (w : World) (h : cmp_Less_uint32 x0 x1 R w) : Cs Try.prog 116 (#[(.int .u32 x0), (.int .u32 x1)] : Array Value) w R :=
  fn_sound (ty := []) (ann := cmp_Less_uint32_an) (N := 17) (by kernel_rfl) (by kernel_rfl) Try.func116 rfl (by kernel_rfl) (by show 2 ≤ 17; decide) (by kernel_rfl)
    (Eq.mpr (show cdA Try.prog [] cmp_Less_uint32_an _ _ _ w = cmp_Less_uint32 x0 x1 R w by kernel_rfl) h)

/- "math/bits.Len64" (120) -/
set_option maxRecDepth 100000 in
def math_bits_Len64 (x0 : Int) (R : Ending → World → Prop) (w : World) : Prop :=
  (br (decide (x0 ≥ (4294967296 : Int)))
  (((0 : Int) ≤ (32 : Int)) ∧
 (br
  (decide ((Int.fdiv x0 ((2 : Int) ^ (Min.min (Int.toNat (32 : Int)) 64))) ≥ (65536 : Int)))
  (((0 : Int) ≤ (16 : Int)) ∧
 (br
  (decide ((Int.fdiv (Int.fdiv x0 ((2 : Int) ^ (Min.min (Int.toNat (32 : Int)) 64))) ((2 : Int) ^ (Min.min (Int.toNat (16 : Int)) 64))) ≥ (256 : Int)))
  (((0 : Int) ≤ (8 : Int)) ∧
 (pv Try.prog (Instr.index 9 (.string (ByteArray.mk #[0, 1, 2, 2, 3, 3, 3, 3, 4, 4, 4, 4, 4, 4, 4, 4, 5, 5, 5, 5, 5, 5, 5, 5, 5, 5, 5, 5, 5, 5, 5, 5, 6, 6, 6, 6, 6, 6, 6, 6, 6, 6, 6, 6, 6, 6, 6, 6, 6, 6, 6, 6, 6, 6, 6, 6, 6, 6, 6, 6, 6, 6, 6, 6, 7, 7, 7, 7, 7, 7, 7, 7, 7, 7, 7, 7, 7, 7, 7, 7, 7, 7, 7, 7, 7, 7, 7, 7, 7, 7, 7, 7, 7, 7, 7, 7, 7, 7, 7, 7, 7, 7, 7, 7, 7, 7, 7, 7, 7, 7, 7, 7, 7, 7, 7, 7, 7, 7, 7, 7, 7, 7, 7, 7, 7, 7, 7, 7, 8, 8, 8, 8, 8, 8, 8, 8, 8, 8, 8, 8, 8, 8, 8, 8, 8, 8, 8, 8, 8, 8, 8, 8, 8, 8, 8, 8, 8, 8, 8, 8, 8, 8, 8, 8, 8, 8, 8, 8, 8, 8, 8, 8, 8, 8, 8, 8, 8, 8, 8, 8, 8, 8, 8, 8, 8, 8, 8, 8, 8, 8, 8, 8, 8, 8, 8, 8, 8, 8, 8, 8, 8, 8, 8, 8, 8, 8, 8, 8, 8, 8, 8, 8, 8, 8, 8, 8, 8, 8, 8, 8, 8, 8, 8, 8, 8, 8, 8, 8, 8, 8, 8, 8, 8, 8, 8, 8, 8, 8, 8, 8, 8, 8, 8, 8, 8, 8, 8, 8, 8, 8, 8, 8, 8, 8, 8, 8])) (.int .u8 (IntKind.wrap .u8 (Int.fdiv (Int.fdiv (Int.fdiv x0 ((2 : Int) ^ (Min.min (Int.toNat (32 : Int)) 64))) ((2 : Int) ^ (Min.min (Int.toNat (16 : Int)) 64))) ((2 : Int) ^ (Min.min (Int.toNat (8 : Int)) 64)))))) (fun v0 =>
 (∃ (n1 : Int), ((v0 = (.int .u8 n1)) ∧
  (R (.returned (.int .i64 (IntKind.wrap .i64 ((IntKind.wrap .i64 ((IntKind.wrap .i64 ((32 : Int) + (16 : Int))) + (8 : Int))) + (IntKind.wrap .i64 n1))))) w))))))
  (pv Try.prog (Instr.index 9 (.string (ByteArray.mk #[0, 1, 2, 2, 3, 3, 3, 3, 4, 4, 4, 4, 4, 4, 4, 4, 5, 5, 5, 5, 5, 5, 5, 5, 5, 5, 5, 5, 5, 5, 5, 5, 6, 6, 6, 6, 6, 6, 6, 6, 6, 6, 6, 6, 6, 6, 6, 6, 6, 6, 6, 6, 6, 6, 6, 6, 6, 6, 6, 6, 6, 6, 6, 6, 7, 7, 7, 7, 7, 7, 7, 7, 7, 7, 7, 7, 7, 7, 7, 7, 7, 7, 7, 7, 7, 7, 7, 7, 7, 7, 7, 7, 7, 7, 7, 7, 7, 7, 7, 7, 7, 7, 7, 7, 7, 7, 7, 7, 7, 7, 7, 7, 7, 7, 7, 7, 7, 7, 7, 7, 7, 7, 7, 7, 7, 7, 7, 7, 8, 8, 8, 8, 8, 8, 8, 8, 8, 8, 8, 8, 8, 8, 8, 8, 8, 8, 8, 8, 8, 8, 8, 8, 8, 8, 8, 8, 8, 8, 8, 8, 8, 8, 8, 8, 8, 8, 8, 8, 8, 8, 8, 8, 8, 8, 8, 8, 8, 8, 8, 8, 8, 8, 8, 8, 8, 8, 8, 8, 8, 8, 8, 8, 8, 8, 8, 8, 8, 8, 8, 8, 8, 8, 8, 8, 8, 8, 8, 8, 8, 8, 8, 8, 8, 8, 8, 8, 8, 8, 8, 8, 8, 8, 8, 8, 8, 8, 8, 8, 8, 8, 8, 8, 8, 8, 8, 8, 8, 8, 8, 8, 8, 8, 8, 8, 8, 8, 8, 8, 8, 8, 8, 8, 8, 8, 8, 8])) (.int .u8 (IntKind.wrap .u8 (Int.fdiv (Int.fdiv x0 ((2 : Int) ^ (Min.min (Int.toNat (32 : Int)) 64))) ((2 : Int) ^ (Min.min (Int.toNat (16 : Int)) 64)))))) (fun v2 =>
 (∃ (n3 : Int), ((v2 = (.int .u8 n3)) ∧
  (R (.returned (.int .i64 (IntKind.wrap .i64 ((IntKind.wrap .i64 ((32 : Int) + (16 : Int))) + (IntKind.wrap .i64 n3))))) w)))))))
  (br
  (decide ((Int.fdiv x0 ((2 : Int) ^ (Min.min (Int.toNat (32 : Int)) 64))) ≥ (256 : Int)))
  (((0 : Int) ≤ (8 : Int)) ∧
 (pv Try.prog (Instr.index 9 (.string (ByteArray.mk #[0, 1, 2, 2, 3, 3, 3, 3, 4, 4, 4, 4, 4, 4, 4, 4, 5, 5, 5, 5, 5, 5, 5, 5, 5, 5, 5, 5, 5, 5, 5, 5, 6, 6, 6, 6, 6, 6, 6, 6, 6, 6, 6, 6, 6, 6, 6, 6, 6, 6, 6, 6, 6, 6, 6, 6, 6, 6, 6, 6, 6, 6, 6, 6, 7, 7, 7, 7, 7, 7, 7, 7, 7, 7, 7, 7, 7, 7, 7, 7, 7, 7, 7, 7, 7, 7, 7, 7, 7, 7, 7, 7, 7, 7, 7, 7, 7, 7, 7, 7, 7, 7, 7, 7, 7, 7, 7, 7, 7, 7, 7, 7, 7, 7, 7, 7, 7, 7, 7, 7, 7, 7, 7, 7, 7, 7, 7, 7, 8, 8, 8, 8, 8, 8, 8, 8, 8, 8, 8, 8, 8, 8, 8, 8, 8, 8, 8, 8, 8, 8, 8, 8, 8, 8, 8, 8, 8, 8, 8, 8, 8, 8, 8, 8, 8, 8, 8, 8, 8, 8, 8, 8, 8, 8, 8, 8, 8, 8, 8, 8, 8, 8, 8, 8, 8, 8, 8, 8, 8, 8, 8, 8, 8, 8, 8, 8, 8, 8, 8, 8, 8, 8, 8, 8, 8, 8, 8, 8, 8, 8, 8, 8, 8, 8, 8, 8, 8, 8, 8, 8, 8, 8, 8, 8, 8, 8, 8, 8, 8, 8, 8, 8, 8, 8, 8, 8, 8, 8, 8, 8, 8, 8, 8, 8, 8, 8, 8, 8, 8, 8, 8, 8, 8, 8, 8, 8])) (.int .u8 (IntKind.wrap .u8 (Int.fdiv (Int.fdiv x0 ((2 : Int) ^ (Min.min (Int.toNat (32 : Int)) 64))) ((2 : Int) ^ (Min.min (Int.toNat (8 : Int)) 64)))))) (fun v4 =>
 (∃ (n5 : Int), ((v4 = (.int .u8 n5)) ∧
  (R (.returned (.int .i64 (IntKind.wrap .i64 ((IntKind.wrap .i64 ((32 : Int) + (8 : Int))) + (IntKind.wrap .i64 n5))))) w))))))
  (pv Try.prog (Instr.index 9 (.string (ByteArray.mk #[0, 1, 2, 2, 3, 3, 3, 3, 4, 4, 4, 4, 4, 4, 4, 4, 5, 5, 5, 5, 5, 5, 5, 5, 5, 5, 5, 5, 5, 5, 5, 5, 6, 6, 6, 6, 6, 6, 6, 6, 6, 6, 6, 6, 6, 6, 6, 6, 6, 6, 6, 6, 6, 6, 6, 6, 6, 6, 6, 6, 6, 6, 6, 6, 7, 7, 7, 7, 7, 7, 7, 7, 7, 7, 7, 7, 7, 7, 7, 7, 7, 7, 7, 7, 7, 7, 7, 7, 7, 7, 7, 7, 7, 7, 7, 7, 7, 7, 7, 7, 7, 7, 7, 7, 7, 7, 7, 7, 7, 7, 7, 7, 7, 7, 7, 7, 7, 7, 7, 7, 7, 7, 7, 7, 7, 7, 7, 7, 8, 8, 8, 8, 8, 8, 8, 8, 8, 8, 8, 8, 8, 8, 8, 8, 8, 8, 8, 8, 8, 8, 8, 8, 8, 8, 8, 8, 8, 8, 8, 8, 8, 8, 8, 8, 8, 8, 8, 8, 8, 8, 8, 8, 8, 8, 8, 8, 8, 8, 8, 8, 8, 8, 8, 8, 8, 8, 8, 8, 8, 8, 8, 8, 8, 8, 8, 8, 8, 8, 8, 8, 8, 8, 8, 8, 8, 8, 8, 8, 8, 8, 8, 8, 8, 8, 8, 8, 8, 8, 8, 8, 8, 8, 8, 8, 8, 8, 8, 8, 8, 8, 8, 8, 8, 8, 8, 8, 8, 8, 8, 8, 8, 8, 8, 8, 8, 8, 8, 8, 8, 8, 8, 8, 8, 8, 8, 8])) (.int .u8 (IntKind.wrap .u8 (Int.fdiv x0 ((2 : Int) ^ (Min.min (Int.toNat (32 : Int)) 64)))))) (fun v6 =>
 (∃ (n7 : Int), ((v6 = (.int .u8 n7)) ∧ (R (.returned (.int .i64 (IntKind.wrap .i64 ((32 : Int) + (IntKind.wrap .i64 n7))))) w))))))))
  (br (decide (x0 ≥ (65536 : Int)))
  (((0 : Int) ≤ (16 : Int)) ∧
 (br
  (decide ((Int.fdiv x0 ((2 : Int) ^ (Min.min (Int.toNat (16 : Int)) 64))) ≥ (256 : Int)))
  (((0 : Int) ≤ (8 : Int)) ∧
 (pv Try.prog (Instr.index 9 (.string (ByteArray.mk #[0, 1, 2, 2, 3, 3, 3, 3, 4, 4, 4, 4, 4, 4, 4, 4, 5, 5, 5, 5, 5, 5, 5, 5, 5, 5, 5, 5, 5, 5, 5, 5, 6, 6, 6, 6, 6, 6, 6, 6, 6, 6, 6, 6, 6, 6, 6, 6, 6, 6, 6, 6, 6, 6, 6, 6, 6, 6, 6, 6, 6, 6, 6, 6, 7, 7, 7, 7, 7, 7, 7, 7, 7, 7, 7, 7, 7, 7, 7, 7, 7, 7, 7, 7, 7, 7, 7, 7, 7, 7, 7, 7, 7, 7, 7, 7, 7, 7, 7, 7, 7, 7, 7, 7, 7, 7, 7, 7, 7, 7, 7, 7, 7, 7, 7, 7, 7, 7, 7, 7, 7, 7, 7, 7, 7, 7, 7, 7, 8, 8, 8, 8, 8, 8, 8, 8, 8, 8, 8, 8, 8, 8, 8, 8, 8, 8, 8, 8, 8, 8, 8, 8, 8, 8, 8, 8, 8, 8, 8, 8, 8, 8, 8, 8, 8, 8, 8, 8, 8, 8, 8, 8, 8, 8, 8, 8, 8, 8, 8, 8, 8, 8, 8, 8, 8, 8, 8, 8, 8, 8, 8, 8, 8, 8, 8, 8, 8, 8, 8, 8, 8, 8, 8, 8, 8, 8, 8, 8, 8, 8, 8, 8, 8, 8, 8, 8, 8, 8, 8, 8, 8, 8, 8, 8, 8, 8, 8, 8, 8, 8, 8, 8, 8, 8, 8, 8, 8, 8, 8, 8, 8, 8, 8, 8, 8, 8, 8, 8, 8, 8, 8, 8, 8, 8, 8, 8])) (.int .u8 (IntKind.wrap .u8 (Int.fdiv (Int.fdiv x0 ((2 : Int) ^ (Min.min (Int.toNat (16 : Int)) 64))) ((2 : Int) ^ (Min.min (Int.toNat (8 : Int)) 64)))))) (fun v8 =>
 (∃ (n9 : Int), ((v8 = (.int .u8 n9)) ∧
  (R (.returned (.int .i64 (IntKind.wrap .i64 ((IntKind.wrap .i64 ((IntKind.wrap .i64 ((0 : Int) + (16 : Int))) + (8 : Int))) + (IntKind.wrap .i64 n9))))) w))))))
  (pv Try.prog (Instr.index 9 (.string (ByteArray.mk #[0, 1, 2, 2, 3, 3, 3, 3, 4, 4, 4, 4, 4, 4, 4, 4, 5, 5, 5, 5, 5, 5, 5, 5, 5, 5, 5, 5, 5, 5, 5, 5, 6, 6, 6, 6, 6, 6, 6, 6, 6, 6, 6, 6, 6, 6, 6, 6, 6, 6, 6, 6, 6, 6, 6, 6, 6, 6, 6, 6, 6, 6, 6, 6, 7, 7, 7, 7, 7, 7, 7, 7, 7, 7, 7, 7, 7, 7, 7, 7, 7, 7, 7, 7, 7, 7, 7, 7, 7, 7, 7, 7, 7, 7, 7, 7, 7, 7, 7, 7, 7, 7, 7, 7, 7, 7, 7, 7, 7, 7, 7, 7, 7, 7, 7, 7, 7, 7, 7, 7, 7, 7, 7, 7, 7, 7, 7, 7, 8, 8, 8, 8, 8, 8, 8, 8, 8, 8, 8, 8, 8, 8, 8, 8, 8, 8, 8, 8, 8, 8, 8, 8, 8, 8, 8, 8, 8, 8, 8, 8, 8, 8, 8, 8, 8, 8, 8, 8, 8, 8, 8, 8, 8, 8, 8, 8, 8, 8, 8, 8, 8, 8, 8, 8, 8, 8, 8, 8, 8, 8, 8, 8, 8, 8, 8, 8, 8, 8, 8, 8, 8, 8, 8, 8, 8, 8, 8, 8, 8, 8, 8, 8, 8, 8, 8, 8, 8, 8, 8, 8, 8, 8, 8, 8, 8, 8, 8, 8, 8, 8, 8, 8, 8, 8, 8, 8, 8, 8, 8, 8, 8, 8, 8, 8, 8, 8, 8, 8, 8, 8, 8, 8, 8, 8, 8, 8])) (.int .u8 (IntKind.wrap .u8 (Int.fdiv x0 ((2 : Int) ^ (Min.min (Int.toNat (16 : Int)) 64)))))) (fun v10 =>
 (∃ (n11 : Int), ((v10 = (.int .u8 n11)) ∧
  (R (.returned (.int .i64 (IntKind.wrap .i64 ((IntKind.wrap .i64 ((0 : Int) + (16 : Int))) + (IntKind.wrap .i64 n11))))) w)))))))
  (br (decide (x0 ≥ (256 : Int)))
  (((0 : Int) ≤ (8 : Int)) ∧
 (pv Try.prog (Instr.index 9 (.string (ByteArray.mk #[0, 1, 2, 2, 3, 3, 3, 3, 4, 4, 4, 4, 4, 4, 4, 4, 5, 5, 5, 5, 5, 5, 5, 5, 5, 5, 5, 5, 5, 5, 5, 5, 6, 6, 6, 6, 6, 6, 6, 6, 6, 6, 6, 6, 6, 6, 6, 6, 6, 6, 6, 6, 6, 6, 6, 6, 6, 6, 6, 6, 6, 6, 6, 6, 7, 7, 7, 7, 7, 7, 7, 7, 7, 7, 7, 7, 7, 7, 7, 7, 7, 7, 7, 7, 7, 7, 7, 7, 7, 7, 7, 7, 7, 7, 7, 7, 7, 7, 7, 7, 7, 7, 7, 7, 7, 7, 7, 7, 7, 7, 7, 7, 7, 7, 7, 7, 7, 7, 7, 7, 7, 7, 7, 7, 7, 7, 7, 7, 8, 8, 8, 8, 8, 8, 8, 8, 8, 8, 8, 8, 8, 8, 8, 8, 8, 8, 8, 8, 8, 8, 8, 8, 8, 8, 8, 8, 8, 8, 8, 8, 8, 8, 8, 8, 8, 8, 8, 8, 8, 8, 8, 8, 8, 8, 8, 8, 8, 8, 8, 8, 8, 8, 8, 8, 8, 8, 8, 8, 8, 8, 8, 8, 8, 8, 8, 8, 8, 8, 8, 8, 8, 8, 8, 8, 8, 8, 8, 8, 8, 8, 8, 8, 8, 8, 8, 8, 8, 8, 8, 8, 8, 8, 8, 8, 8, 8, 8, 8, 8, 8, 8, 8, 8, 8, 8, 8, 8, 8, 8, 8, 8, 8, 8, 8, 8, 8, 8, 8, 8, 8, 8, 8, 8, 8, 8, 8])) (.int .u8 (IntKind.wrap .u8 (Int.fdiv x0 ((2 : Int) ^ (Min.min (Int.toNat (8 : Int)) 64)))))) (fun v12 =>
 (∃ (n13 : Int), ((v12 = (.int .u8 n13)) ∧
  (R (.returned (.int .i64 (IntKind.wrap .i64 ((IntKind.wrap .i64 ((0 : Int) + (8 : Int))) + (IntKind.wrap .i64 n13))))) w))))))
  (pv Try.prog (Instr.index 9 (.string (ByteArray.mk #[0, 1, 2, 2, 3, 3, 3, 3, 4, 4, 4, 4, 4, 4, 4, 4, 5, 5, 5, 5, 5, 5, 5, 5, 5, 5, 5, 5, 5, 5, 5, 5, 6, 6, 6, 6, 6, 6, 6, 6, 6, 6, 6, 6, 6, 6, 6, 6, 6, 6, 6, 6, 6, 6, 6, 6, 6, 6, 6, 6, 6, 6, 6, 6, 7, 7, 7, 7, 7, 7, 7, 7, 7, 7, 7, 7, 7, 7, 7, 7, 7, 7, 7, 7, 7, 7, 7, 7, 7, 7, 7, 7, 7, 7, 7, 7, 7, 7, 7, 7, 7, 7, 7, 7, 7, 7, 7, 7, 7, 7, 7, 7, 7, 7, 7, 7, 7, 7, 7, 7, 7, 7, 7, 7, 7, 7, 7, 7, 8, 8, 8, 8, 8, 8, 8, 8, 8, 8, 8, 8, 8, 8, 8, 8, 8, 8, 8, 8, 8, 8, 8, 8, 8, 8, 8, 8, 8, 8, 8, 8, 8, 8, 8, 8, 8, 8, 8, 8, 8, 8, 8, 8, 8, 8, 8, 8, 8, 8, 8, 8, 8, 8, 8, 8, 8, 8, 8, 8, 8, 8, 8, 8, 8, 8, 8, 8, 8, 8, 8, 8, 8, 8, 8, 8, 8, 8, 8, 8, 8, 8, 8, 8, 8, 8, 8, 8, 8, 8, 8, 8, 8, 8, 8, 8, 8, 8, 8, 8, 8, 8, 8, 8, 8, 8, 8, 8, 8, 8, 8, 8, 8, 8, 8, 8, 8, 8, 8, 8, 8, 8, 8, 8, 8, 8, 8, 8])) (.int .u8 (IntKind.wrap .u8 x0))) (fun v14 =>
 (∃ (n15 : Int), ((v14 = (.int .u8 n15)) ∧ (R (.returned (.int .i64 (IntKind.wrap .i64 ((0 : Int) + (IntKind.wrap .i64 n15))))) w))))))))

def math_bits_Len64_an : Ann := (.seq .leaf (.seq (.seq .leaf (.cond (.seq .leaf .leaf) .leaf)) (.seq (.seq .leaf (.cond (.seq .leaf .leaf) .leaf)) (.seq (.seq .leaf (.cond (.seq .leaf .leaf) .leaf)) (.seq .leaf .leaf)))))

set_option maxRecDepth 100000 in
theorem math_bits_Len64_ok (x0 : Int) (R : Ending → World → Prop) (w : World) (h : math_bits_Len64 x0 R w) : Cs Try.prog 120 (#[(.int .u64 x0)] : Array Value) w R :=
  fn_sound (ty := []) (ann := math_bits_Len64_an) (N := 25) (by kernel_rfl) (by kernel_rfl) Try.func120 rfl (by kernel_rfl) (by show 1 ≤ 25; decide) (by kernel_rfl)
    (Eq.mpr (show cdA Try.prog [] math_bits_Len64_an _ _ _ w = math_bits_Len64 x0 R w by kernel_rfl) h)

/- "cmp.isNaN[uint32]" (146) -/
set_option maxRecDepth 100000 in
def cmp_isNaN_uint32 (x0 : Int) (R : Ending → World → Prop) (w : World) : Prop :=
  (R (.returned (.bool (x0 != x0))) w)

def cmp_isNaN_uint32_an : Ann := (.seq .leaf (.seq .leaf .leaf))

set_option maxRecDepth 100000 in
theorem cmp_isNaN_uint32_ok (x0 : Int) (R : Ending → World → Prop) (w : World) (h : cmp_isNaN_uint32 x0 R w) : Cs Try.prog 146 (#[(.int .u32 x0)] : Array Value) w R :=
  fn_sound (ty := []) (ann := cmp_isNaN_uint32_an) (N := 6) (by kernel_rfl) (by kernel_rfl) Try.func146 rfl (by kernel_rfl) (by show 1 ≤ 6; decide) (by kernel_rfl)
    (Eq.mpr (show cdA Try.prog [] cmp_isNaN_uint32_an _ _ _ w = cmp_isNaN_uint32 x0 R w by kernel_rfl) h)

end Go.SR
