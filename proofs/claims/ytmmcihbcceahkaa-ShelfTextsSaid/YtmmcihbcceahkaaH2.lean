/- PRINTED by a program of the prover's (wip/sr/Gen.lean): residuals of Go functions. -/
import Derived.Test.YtmmcihbcceahkaaA6
import Derived.Test.YtmmcihbcceahkaaProg
namespace Go.SR
open Go Go.Proofs

/- "slices.heapSortOrdered[uint32]" (111) -/
set_option maxRecDepth 100000 in
def slices_heapSortOrdered_uint32 (x0 : Option Addr) (x0l x0c : Nat) (x1 : Int) (x2 : Int) (R : Ending → World → Prop) (w : World) : Prop :=
  (((2 : Int) ≠ (0 : Int)) ∧
 (lp (σ := Int) (fun _ k0 n1 w2 =>
 (br (decide (n1 ≥ (0 : Int)))
   (cl Try.prog 141 #[(.slice x0 x0l x0c), (.int .i64 n1), (.int .i64 (IntKind.wrap .i64 (x2 - x1))), (.int .i64 x1)] w2 (fun _ w3 => (k0 (IntKind.wrap .i64 (n1 - (1 : Int))) w3)) (fun x4 w5 => (R (.panicked x4) w5)))
   (lp (σ := Int) (fun _ k6 n7 w8 =>
  (br (decide (n7 ≥ (0 : Int)))
    (dr w8 (fun w9 =>
   (ixa x0 x0l (IntKind.wrap .i64 (x1 + n7)) 1 (fun a10 =>
    (∃ (n11 : Int), (((World.cell? w9 a10) = (some (.int .u32 n11))) ∧
     (ixa x0 x0l x1 1 (fun a12 =>
     (∃ (n13 : Int), (((World.cell? w9 a12) = (some (.int .u32 n13))) ∧
      (ixa x0 x0l x1 1 (fun a14 =>
      (st1 a14 (.int .u32 n11) w9 (fun w15 =>
       (ixa x0 x0l (IntKind.wrap .i64 (x1 + n7)) 1 (fun a16 =>
        (st1 a16 (.int .u32 n13) w15 (fun w17 =>
         (cl Try.prog 141 #[(.slice x0 x0l x0c), (.int .i64 (0 : Int)), (.int .i64 n7), (.int .i64 x1)] w17 (fun _ w18 => (k6 (IntKind.wrap .i64 (n7 - (1 : Int))) w18)) (fun x19 w20 => (R (.panicked x19) w20))))))))))))))))))))) (R (.returned (.tuple #[])) w8))) (IntKind.wrap .i64 ((IntKind.wrap .i64 (x2 - x1)) - (1 : Int))) w2))) (IntKind.wrap .i64 (Int.tdiv (IntKind.wrap .i64 ((IntKind.wrap .i64 (x2 - x1)) - (1 : Int))) (2 : Int))) w))

def slices_heapSortOrdered_uint32_an : Ann := (.seq .leaf (.seq .leaf (.seq .leaf (.seq (.seq .leaf (.block (.loop (.seq (.seq .leaf (.cond .leaf .leaf)) (.seq (.block .leaf) .leaf)) [9, 18, 19, 20, 21, 22, 23, 24, 25, 26] [(9, (.int .i64))]))) (.seq .leaf (.block (.loop (.seq (.seq .leaf (.cond .leaf .leaf)) (.seq (.block (.seq (.plan [.take 0, .take 1, .take 2, .take 3, .take 4, .take 5, .take 6, .take 7, .take 8, .take 9, .take 10, .take 11, .take 12, .take 13, .take 14, .take 15, .take 16, .eff 17, .take 18, .eff 19]) .leaf)) .leaf)) [10, 29, 30, 31, 32, 33, 34, 35, 36, 37, 38, 39, 40, 41, 42, 43, 44, 45, 46, 47, 48, 49, 50, 51, 52, 53, 54, 55] [(10, (.int .i64))])))))))

set_option maxRecDepth 100000 in
theorem slices_heapSortOrdered_uint32_ok (x0 : Option Addr) (x0l x0c : Nat) (x1 : Int) (x2 : Int) (R : Ending → World → Prop) (w : World) (h : slices_heapSortOrdered_uint32 x0 x0l x0c x1 x2 R w) : Cs Try.prog 111 (#[(.slice x0 x0l x0c), (.int .i64 x1), (.int .i64 x2)] : Array Value) w R :=
  fn_sound (ty := []) (ann := slices_heapSortOrdered_uint32_an) (N := 56) (by kernel_rfl) (by kernel_rfl) Try.func111 rfl (by kernel_rfl) (by show 3 ≤ 56; decide) (by kernel_rfl)
    (Eq.mpr (show cdA Try.prog [] slices_heapSortOrdered_uint32_an _ _ _ w = slices_heapSortOrdered_uint32 x0 x0l x0c x1 x2 R w by kernel_rfl) h)

/- "slices.breakPatternsOrdered[uint32]" (112) -/
set_option maxRecDepth 100000 in
def slices_breakPatternsOrdered_uint32 (x0 : Option Addr) (x0l _x0c : Nat) (x1 : Int) (x2 : Int) (R : Ending → World → Prop) (w : World) : Prop :=
  (br (decide ((IntKind.wrap .i64 (x2 - x1)) ≥ (8 : Int)))
  (al (zc Try.prog 214) 214 w (fun m0 w1 =>
 (st1 ⟨m0, 0, none⟩ (.int .u64 (IntKind.wrap .u64 (IntKind.wrap .i64 (x2 - x1)))) w1 (fun w2 =>
  (cl Try.prog 142 #[(.int .i64 (IntKind.wrap .i64 (x2 - x1)))] w2 (fun v3 w4 =>
   (∃ (n5 : Int), ((v3 = (.int .u64 n5)) ∧
    (((4 : Int) ≠ (0 : Int)) ∧
    (lp (σ := Int) (fun _ k6 n7 w8 =>
    (((4 : Int) ≠ (0 : Int)) ∧
     (br
      (decide (n7 ≤ (IntKind.wrap .i64 ((IntKind.wrap .i64 (x1 + (IntKind.wrap .i64 ((IntKind.wrap .i64 (Int.tdiv (IntKind.wrap .i64 (x2 - x1)) (4 : Int))) * (2 : Int))))) + (1 : Int)))))
      (cl Try.prog 143 #[(.pointer (some ⟨m0, 0, none⟩))] w8 (fun v9 w10 =>
     (∃ (n11 : Int), ((v9 = (.int .u64 n11)) ∧
      (br
       (decide ((IntKind.wrap .i64 (IntKind.wrap .u64 ((BitVec.toNat ((BitVec.ofInt 64 n11) &&& (BitVec.ofInt 64 (IntKind.wrap .u64 (n5 - (1 : Int)))))) : Int))) ≥ (IntKind.wrap .i64 (x2 - x1))))
       (dr w10 (fun w12 =>
      (ixa x0 x0l (IntKind.wrap .i64 (x1 + (IntKind.wrap .i64 ((IntKind.wrap .i64 (IntKind.wrap .u64 ((BitVec.toNat ((BitVec.ofInt 64 n11) &&& (BitVec.ofInt 64 (IntKind.wrap .u64 (n5 - (1 : Int)))))) : Int))) - (IntKind.wrap .i64 (x2 - x1)))))) 1 (fun a13 =>
       (∃ (n14 : Int), (((World.cell? w12 a13) = (some (.int .u32 n14))) ∧
        (ixa x0 x0l n7 1 (fun a15 =>
        (∃ (n16 : Int), (((World.cell? w12 a15) = (some (.int .u32 n16))) ∧
         (ixa x0 x0l n7 1 (fun a17 =>
         (st1 a17 (.int .u32 n14) w12 (fun w18 =>
          (ixa x0 x0l (IntKind.wrap .i64 (x1 + (IntKind.wrap .i64 ((IntKind.wrap .i64 (IntKind.wrap .u64 ((BitVec.toNat ((BitVec.ofInt 64 n11) &&& (BitVec.ofInt 64 (IntKind.wrap .u64 (n5 - (1 : Int)))))) : Int))) - (IntKind.wrap .i64 (x2 - x1)))))) 1 (fun a19 => (st1 a19 (.int .u32 n16) w18 (fun w20 => (k6 (IntKind.wrap .i64 (n7 + (1 : Int))) w20)))))))))))))))))))
       (dr w10 (fun w21 =>
      (ixa x0 x0l (IntKind.wrap .i64 (x1 + (IntKind.wrap .i64 (IntKind.wrap .u64 ((BitVec.toNat ((BitVec.ofInt 64 n11) &&& (BitVec.ofInt 64 (IntKind.wrap .u64 (n5 - (1 : Int)))))) : Int))))) 1 (fun a22 =>
       (∃ (n23 : Int), (((World.cell? w21 a22) = (some (.int .u32 n23))) ∧
        (ixa x0 x0l n7 1 (fun a24 =>
        (∃ (n25 : Int), (((World.cell? w21 a24) = (some (.int .u32 n25))) ∧
         (ixa x0 x0l n7 1 (fun a26 =>
         (st1 a26 (.int .u32 n23) w21 (fun w27 =>
          (ixa x0 x0l (IntKind.wrap .i64 (x1 + (IntKind.wrap .i64 (IntKind.wrap .u64 ((BitVec.toNat ((BitVec.ofInt 64 n11) &&& (BitVec.ofInt 64 (IntKind.wrap .u64 (n5 - (1 : Int)))))) : Int))))) 1 (fun a28 => (st1 a28 (.int .u32 n25) w27 (fun w29 => (k6 (IntKind.wrap .i64 (n7 + (1 : Int))) w29))))))))))))))))))))))) (fun x30 w31 => (R (.panicked x30) w31))) (R (.returned (.tuple #[])) w8)))) (IntKind.wrap .i64 ((IntKind.wrap .i64 (x1 + (IntKind.wrap .i64 ((IntKind.wrap .i64 (Int.tdiv (IntKind.wrap .i64 (x2 - x1)) (4 : Int))) * (2 : Int))))) - (1 : Int))) w4))))) (fun x32 w33 => (R (.panicked x32) w33))))))) (R (.returned (.tuple #[])) w))

def slices_breakPatternsOrdered_uint32_an : Ann := (.seq .leaf (.seq .leaf (.cond (.seq .leaf (.seq .leaf (.seq .leaf (.block (.loop (.seq (.seq .leaf (.cond .leaf .leaf)) (.seq (.block (.seq .leaf (.seq (.seq .leaf (.cond .leaf .leaf)) (.plan [.take 0, .take 1, .take 2, .take 3, .take 4, .take 5, .take 6, .take 7, .take 8, .take 9, .take 10, .take 11, .take 12, .take 13, .take 14, .take 15, .take 16, .eff 17, .take 18, .eff 19])))) .leaf)) [9, 10, 26, 27, 28, 29, 30, 31, 32, 33, 34, 35, 36, 37, 38, 39, 40, 41, 42, 43, 44, 45, 46, 47, 48, 49, 50, 51, 52, 53, 54, 55, 56, 57, 58, 59, 60, 61, 62, 63, 64] [(9, (.int .i64))]))))) .leaf)))

set_option maxRecDepth 100000 in
theorem slices_breakPatternsOrdered_uint32_ok (x0 : Option Addr) (x0l x0c : Nat) (x1 : Int) (x2 : Int) (R : Ending → World → Prop) (w : World) (h : slices_breakPatternsOrdered_uint32 x0 x0l x0c x1 x2 R w) : Cs Try.prog 112 (#[(.slice x0 x0l x0c), (.int .i64 x1), (.int .i64 x2)] : Array Value) w R :=
  fn_sound (ty := []) (ann := slices_breakPatternsOrdered_uint32_an) (N := 65) (by kernel_rfl) (by kernel_rfl) Try.func112 rfl (by kernel_rfl) (by show 3 ≤ 65; decide) (by kernel_rfl)
    (Eq.mpr (show cdA Try.prog [] slices_breakPatternsOrdered_uint32_an _ _ _ w = slices_breakPatternsOrdered_uint32 x0 x0l x0c x1 x2 R w by kernel_rfl) h)

/- "slices.choosePivotOrdered[uint32]" (113) -/
set_option maxRecDepth 100000 in
def slices_choosePivotOrdered_uint32 (x0 : Option Addr) (x0l x0c : Nat) (x1 : Int) (x2 : Int) (R : Ending → World → Prop) (w : World) : Prop :=
  (al (zc Try.prog 3) 3 w (fun m0 w1 =>
 (((4 : Int) ≠ (0 : Int)) ∧
  (((4 : Int) ≠ (0 : Int)) ∧
  (((4 : Int) ≠ (0 : Int)) ∧
  (br (decide ((IntKind.wrap .i64 (x2 - x1)) ≥ (8 : Int)))
   (br (decide ((IntKind.wrap .i64 (x2 - x1)) ≥ (50 : Int)))
   (cl Try.prog 144 #[(.slice x0 x0l x0c), (.int .i64 (IntKind.wrap .i64 (x1 + (IntKind.wrap .i64 ((IntKind.wrap .i64 (Int.tdiv (IntKind.wrap .i64 (x2 - x1)) (4 : Int))) * (1 : Int)))))), (.pointer (some ⟨m0, 0, none⟩))] w1 (fun v2 w3 =>
  (∃ (n4 : Int), ((v2 = (.int .i64 n4)) ∧
   (cl Try.prog 144 #[(.slice x0 x0l x0c), (.int .i64 (IntKind.wrap .i64 (x1 + (IntKind.wrap .i64 ((IntKind.wrap .i64 (Int.tdiv (IntKind.wrap .i64 (x2 - x1)) (4 : Int))) * (2 : Int)))))), (.pointer (some ⟨m0, 0, none⟩))] w3 (fun v5 w6 =>
   (∃ (n7 : Int), ((v5 = (.int .i64 n7)) ∧
    (cl Try.prog 144 #[(.slice x0 x0l x0c), (.int .i64 (IntKind.wrap .i64 (x1 + (IntKind.wrap .i64 ((IntKind.wrap .i64 (Int.tdiv (IntKind.wrap .i64 (x2 - x1)) (4 : Int))) * (3 : Int)))))), (.pointer (some ⟨m0, 0, none⟩))] w6 (fun v8 w9 =>
    (∃ (n10 : Int), ((v8 = (.int .i64 n10)) ∧
     (cl Try.prog 145 #[(.slice x0 x0l x0c), (.int .i64 n4), (.int .i64 n7), (.int .i64 n10), (.pointer (some ⟨m0, 0, none⟩))] w9 (fun v11 w12 =>
     (∃ (n13 : Int), ((v11 = (.int .i64 n13)) ∧
      (∃ (n14 : Int), (((World.cell? w12 ⟨m0, 0, none⟩) = (some (.int .i64 n14))) ∧
      (br (n14 == (0 : Int))
       (R (.returned (.tuple #[(.int .i64 n13), (.int .i64 (1 : Int))])) w12)
       (br (n14 == (12 : Int))
       (R (.returned (.tuple #[(.int .i64 n13), (.int .i64 (2 : Int))])) w12)
       (R (.returned (.tuple #[(.int .i64 n13), (.int .i64 (0 : Int))])) w12)))))))) (fun x15 w16 => (R (.panicked x15) w16)))))) (fun x17 w18 => (R (.panicked x17) w18)))))) (fun x19 w20 => (R (.panicked x19) w20)))))) (fun x21 w22 => (R (.panicked x21) w22)))
   (cl Try.prog 145 #[(.slice x0 x0l x0c), (.int .i64 (IntKind.wrap .i64 (x1 + (IntKind.wrap .i64 ((IntKind.wrap .i64 (Int.tdiv (IntKind.wrap .i64 (x2 - x1)) (4 : Int))) * (1 : Int)))))), (.int .i64 (IntKind.wrap .i64 (x1 + (IntKind.wrap .i64 ((IntKind.wrap .i64 (Int.tdiv (IntKind.wrap .i64 (x2 - x1)) (4 : Int))) * (2 : Int)))))), (.int .i64 (IntKind.wrap .i64 (x1 + (IntKind.wrap .i64 ((IntKind.wrap .i64 (Int.tdiv (IntKind.wrap .i64 (x2 - x1)) (4 : Int))) * (3 : Int)))))), (.pointer (some ⟨m0, 0, none⟩))] w1 (fun v23 w24 =>
  (∃ (n25 : Int), ((v23 = (.int .i64 n25)) ∧
   (∃ (n26 : Int), (((World.cell? w24 ⟨m0, 0, none⟩) = (some (.int .i64 n26))) ∧
   (br (n26 == (0 : Int))
    (R (.returned (.tuple #[(.int .i64 n25), (.int .i64 (1 : Int))])) w24)
    (br (n26 == (12 : Int))
    (R (.returned (.tuple #[(.int .i64 n25), (.int .i64 (2 : Int))])) w24)
    (R (.returned (.tuple #[(.int .i64 n25), (.int .i64 (0 : Int))])) w24)))))))) (fun x27 w28 => (R (.panicked x27) w28))))
   (∃ (n29 : Int), (((World.cell? w1 ⟨m0, 0, none⟩) = (some (.int .i64 n29))) ∧
  (br (n29 == (0 : Int))
   (R (.returned (.tuple #[(.int .i64 (IntKind.wrap .i64 (x1 + (IntKind.wrap .i64 ((IntKind.wrap .i64 (Int.tdiv (IntKind.wrap .i64 (x2 - x1)) (4 : Int))) * (2 : Int)))))), (.int .i64 (1 : Int))])) w1)
   (br (n29 == (12 : Int))
   (R (.returned (.tuple #[(.int .i64 (IntKind.wrap .i64 (x1 + (IntKind.wrap .i64 ((IntKind.wrap .i64 (Int.tdiv (IntKind.wrap .i64 (x2 - x1)) (4 : Int))) * (2 : Int)))))), (.int .i64 (2 : Int))])) w1)
   (R (.returned (.tuple #[(.int .i64 (IntKind.wrap .i64 (x1 + (IntKind.wrap .i64 ((IntKind.wrap .i64 (Int.tdiv (IntKind.wrap .i64 (x2 - x1)) (4 : Int))) * (2 : Int)))))), (.int .i64 (0 : Int))])) w1)))))))))))

def slices_choosePivotOrdered_uint32_an : Ann := (.seq .leaf (.seq .leaf (.seq .leaf (.seq .leaf (.seq .leaf (.seq .leaf (.seq (.seq .leaf (.cond (.seq (.seq .leaf (.cond (.seq .leaf (.seq .leaf .leaf)) .leaf)) .leaf) .leaf)) (.seq .leaf (.block (.seq .leaf (.cond (.seq .leaf .leaf) (.seq .leaf (.cond (.seq .leaf .leaf) (.seq .leaf .leaf))))))))))))))

set_option maxRecDepth 100000 in
theorem slices_choosePivotOrdered_uint32_ok (x0 : Option Addr) (x0l x0c : Nat) (x1 : Int) (x2 : Int) (R : Ending → World → Prop) (w : World) (h : slices_choosePivotOrdered_uint32 x0 x0l x0c x1 x2 R w) : Cs Try.prog 113 (#[(.slice x0 x0l x0c), (.int .i64 x1), (.int .i64 x2)] : Array Value) w R :=
  fn_sound (ty := []) (ann := slices_choosePivotOrdered_uint32_an) (N := 57) (by kernel_rfl) (by kernel_rfl) Try.func113 rfl (by kernel_rfl) (by show 3 ≤ 57; decide) (by kernel_rfl)
    (Eq.mpr (show cdA Try.prog [] slices_choosePivotOrdered_uint32_an _ _ _ w = slices_choosePivotOrdered_uint32 x0 x0l x0c x1 x2 R w by kernel_rfl) h)

/- "slices.partialInsertionSortOrdered[uint32]" (115) -/
set_option maxRecDepth 100000 in
def slices_partialInsertionSortOrdered_uint32 (x0 : Option Addr) (x0l _x0c : Nat) (x1 : Int) (x2 : Int) (R : Ending → World → Prop) (w : World) : Prop :=
  (lp (σ := (Int × Int)) (fun _ k0 s1 w2 =>
 (br (decide (s1.2 < (5 : Int)))
   (jn (σ := Int) (fun _ n3 w4 =>
  (br (n3 == x2) (R (.returned (.bool Bool.true)) w4)
    (br (decide ((IntKind.wrap .i64 (x2 - x1)) < (50 : Int))) (R (.returned (.bool Bool.false)) w4)
    (dr w4 (fun w5 =>
   (ixa x0 x0l (IntKind.wrap .i64 (n3 - (1 : Int))) 1 (fun a6 =>
    (∃ (n7 : Int), (((World.cell? w5 a6) = (some (.int .u32 n7))) ∧
     (ixa x0 x0l n3 1 (fun a8 =>
     (∃ (n9 : Int), (((World.cell? w5 a8) = (some (.int .u32 n9))) ∧
      (ixa x0 x0l n3 1 (fun a10 =>
      (st1 a10 (.int .u32 n7) w5 (fun w11 =>
       (ixa x0 x0l (IntKind.wrap .i64 (n3 - (1 : Int))) 1 (fun a12 =>
        (st1 a12 (.int .u32 n9) w11 (fun w13 =>
         (jn (σ := PUnit) (fun _ _ w14 =>
          (br (decide ((IntKind.wrap .i64 (x2 - n3)) ≥ (2 : Int)))
            (lp (σ := Int) (fun _ k15 n16 w17 =>
           (br (decide (n16 < x2))
             (dr w17 (fun w18 =>
            (ixa x0 x0l n16 1 (fun a19 =>
             (∃ (n20 : Int), (((World.cell? w18 a19) = (some (.int .u32 n20))) ∧
              (ixa x0 x0l (IntKind.wrap .i64 (n16 - (1 : Int))) 1 (fun a21 =>
              (∃ (n22 : Int), (((World.cell? w18 a21) = (some (.int .u32 n22))) ∧
               (cl Try.prog 116 #[(.int .u32 n20), (.int .u32 n22)] w18 (fun v23 w24 =>
               (∃ (b25 : Bool), ((v23 = (.bool b25)) ∧
                (br (!b25) (k0 (n3, (IntKind.wrap .i64 (s1.2 + (1 : Int)))) w24)
                 (dr w24 (fun w26 =>
                (ixa x0 x0l (IntKind.wrap .i64 (n16 - (1 : Int))) 1 (fun a27 =>
                 (∃ (n28 : Int), (((World.cell? w26 a27) = (some (.int .u32 n28))) ∧
                  (ixa x0 x0l n16 1 (fun a29 =>
                  (∃ (n30 : Int), (((World.cell? w26 a29) = (some (.int .u32 n30))) ∧
                   (ixa x0 x0l n16 1 (fun a31 =>
                   (st1 a31 (.int .u32 n28) w26 (fun w32 =>
                    (ixa x0 x0l (IntKind.wrap .i64 (n16 - (1 : Int))) 1 (fun a33 => (st1 a33 (.int .u32 n30) w32 (fun w34 => (k15 (IntKind.wrap .i64 (n16 + (1 : Int))) w34))))))))))))))))))))))) (fun _ _ => False)))))))))))) (k0 (n3, (IntKind.wrap .i64 (s1.2 + (1 : Int)))) w17))) (IntKind.wrap .i64 (n3 + (1 : Int))) w14) (k0 (n3, (IntKind.wrap .i64 (s1.2 + (1 : Int)))) w14))) (fun k35 =>
          (br (decide ((IntKind.wrap .i64 (n3 - x1)) ≥ (2 : Int)))
            (lp (σ := Int) (fun _ k36 n37 w38 =>
           (br (decide (n37 ≥ (1 : Int)))
             (dr w38 (fun w39 =>
            (ixa x0 x0l n37 1 (fun a40 =>
             (∃ (n41 : Int), (((World.cell? w39 a40) = (some (.int .u32 n41))) ∧
              (ixa x0 x0l (IntKind.wrap .i64 (n37 - (1 : Int))) 1 (fun a42 =>
              (∃ (n43 : Int), (((World.cell? w39 a42) = (some (.int .u32 n43))) ∧
               (cl Try.prog 116 #[(.int .u32 n41), (.int .u32 n43)] w39 (fun v44 w45 =>
               (∃ (b46 : Bool), ((v44 = (.bool b46)) ∧
                (br (!b46) (k35 () w45)
                 (dr w45 (fun w47 =>
                (ixa x0 x0l (IntKind.wrap .i64 (n37 - (1 : Int))) 1 (fun a48 =>
                 (∃ (n49 : Int), (((World.cell? w47 a48) = (some (.int .u32 n49))) ∧
                  (ixa x0 x0l n37 1 (fun a50 =>
                  (∃ (n51 : Int), (((World.cell? w47 a50) = (some (.int .u32 n51))) ∧
                   (ixa x0 x0l n37 1 (fun a52 =>
                   (st1 a52 (.int .u32 n49) w47 (fun w53 =>
                    (ixa x0 x0l (IntKind.wrap .i64 (n37 - (1 : Int))) 1 (fun a54 => (st1 a54 (.int .u32 n51) w53 (fun w55 => (k36 (IntKind.wrap .i64 (n37 - (1 : Int))) w55))))))))))))))))))))))) (fun _ _ => False)))))))))))) (k35 () w38))) (IntKind.wrap .i64 (n3 - (1 : Int))) w13) (k35 () w13))))))))))))))))))))))))) (fun k56 =>
  (lp (σ := Int) (fun _ k57 n58 w59 =>
   (dr w59 (fun w60 =>
    (br (decide (n58 < x2))
      (ixa x0 x0l n58 1 (fun a61 =>
     (∃ (n62 : Int), (((World.cell? w60 a61) = (some (.int .u32 n62))) ∧
      (ixa x0 x0l (IntKind.wrap .i64 (n58 - (1 : Int))) 1 (fun a63 =>
      (∃ (n64 : Int), (((World.cell? w60 a63) = (some (.int .u32 n64))) ∧
       (cl Try.prog 116 #[(.int .u32 n62), (.int .u32 n64)] w60 (fun v65 w66 =>
       (∃ (b67 : Bool), ((v65 = (.bool b67)) ∧ (br (!b67) (k57 (IntKind.wrap .i64 (n58 + (1 : Int))) w66) (k56 n58 w66))))) (fun _ _ => False)))))))))) (k56 n58 w60))))) s1.1 w2))) (R (.returned (.bool Bool.false)) w2))) ((IntKind.wrap .i64 (x1 + (1 : Int))), (0 : Int)) w)

def slices_partialInsertionSortOrdered_uint32_an : Ann := (.seq .leaf (.seq .leaf (.seq (.seq .leaf (.block (.loop (.seq (.seq .leaf (.cond .leaf .leaf)) (.seq (.block (.join (.block (.loop (.seq (.seq (.plan [.take 0, .take 1, .take 2, .take 3, .take 4, .take 5, .take 6, .take 7, .take 8, .take 9, .take 10, .take 11, .take 12, .eff 13, .take 14, .take 15]) (.cond .leaf .leaf)) (.block .leaf)) [7, 17, 18, 19, 20, 21, 22, 23, 24, 25, 26, 27, 28, 29, 30, 31, 32, 33, 34] [(7, (.int .i64))])) [7, 17, 18, 19, 20, 21, 22, 23, 24, 25, 26, 27, 28, 29, 30, 31, 32, 33, 34] [(7, (.int .i64))] (.seq (.seq .leaf (.cond (.seq .leaf .leaf) .leaf)) (.seq (.seq .leaf (.cond (.seq .leaf .leaf) .leaf)) (.seq (.plan [.take 0, .take 1, .take 2, .take 3, .take 4, .take 5, .take 6, .take 7, .take 8, .take 9, .take 10, .take 11, .take 12, .take 13, .take 14, .eff 15, .take 16, .eff 17]) (.join (.seq .leaf (.cond (.seq .leaf (.block (.loop (.seq (.seq .leaf (.cond .leaf .leaf)) (.seq (.block (.seq (.seq (.plan [.take 0, .take 1, .take 2, .take 3, .take 4, .take 5, .take 6, .take 7, .take 8, .eff 9, .take 10]) (.cond .leaf .leaf)) (.plan [.take 0, .take 1, .take 2, .take 3, .take 4, .take 5, .take 6, .take 7, .take 8, .take 9, .take 10, .take 11, .take 12, .take 13, .take 14, .eff 15, .take 16, .eff 17]))) .leaf)) [9, 64, 65, 66, 67, 68, 69, 70, 71, 72, 73, 74, 75, 76, 77, 78, 79, 80, 81, 82, 83, 84, 85, 86, 87, 88, 89, 90, 91, 92, 93, 94] [(9, (.int .i64))]))) .leaf)) [9, 58, 59, 60, 61, 62, 63, 64, 65, 66, 67, 68, 69, 70, 71, 72, 73, 74, 75, 76, 77, 78, 79, 80, 81, 82, 83, 84, 85, 86, 87, 88, 89, 90, 91, 92, 93, 94] [] (.seq .leaf (.cond (.seq .leaf (.block (.loop (.seq (.seq .leaf (.cond .leaf .leaf)) (.seq (.block (.seq (.seq (.plan [.take 0, .take 1, .take 2, .take 3, .take 4, .take 5, .take 6, .take 7, .take 8, .eff 9, .take 10]) (.cond .leaf .leaf)) (.plan [.take 0, .take 1, .take 2, .take 3, .take 4, .take 5, .take 6, .take 7, .take 8, .take 9, .take 10, .take 11, .take 12, .take 13, .take 14, .eff 15, .take 16, .eff 17]))) .leaf)) [10, 101, 102, 103, 104, 105, 106, 107, 108, 109, 110, 111, 112, 113, 114, 115, 116, 117, 118, 119, 120, 121, 122, 123, 124, 125, 126, 127, 128, 129, 130, 131, 132] [(10, (.int .i64))]))) .leaf)))))))) .leaf)) [6, 7, 8, 9, 10, 13, 14, 15, 16, 17, 18, 19, 20, 21, 22, 23, 24, 25, 26, 27, 28, 29, 30, 31, 32, 33, 34, 35, 36, 37, 38, 39, 40, 41, 42, 43, 44, 45, 46, 47, 48, 49, 50, 51, 52, 53, 54, 55, 56, 57, 58, 59, 60, 61, 62, 63, 64, 65, 66, 67, 68, 69, 70, 71, 72, 73, 74, 75, 76, 77, 78, 79, 80, 81, 82, 83, 84, 85, 86, 87, 88, 89, 90, 91, 92, 93, 94, 95, 96, 97, 98, 99, 100, 101, 102, 103, 104, 105, 106, 107, 108, 109, 110, 111, 112, 113, 114, 115, 116, 117, 118, 119, 120, 121, 122, 123, 124, 125, 126, 127, 128, 129, 130, 131, 132] [(7, (.int .i64)), (8, (.int .i64))]))) (.seq .leaf .leaf))))

set_option maxRecDepth 100000 in
theorem slices_partialInsertionSortOrdered_uint32_ok (x0 : Option Addr) (x0l x0c : Nat) (x1 : Int) (x2 : Int) (R : Ending → World → Prop) (w : World) (h : slices_partialInsertionSortOrdered_uint32 x0 x0l x0c x1 x2 R w) : Cs Try.prog 115 (#[(.slice x0 x0l x0c), (.int .i64 x1), (.int .i64 x2)] : Array Value) w R :=
  fn_sound (ty := []) (ann := slices_partialInsertionSortOrdered_uint32_an) (N := 133) (by kernel_rfl) (by kernel_rfl) Try.func115 rfl (by kernel_rfl) (by show 3 ≤ 133; decide) (by kernel_rfl)
    (Eq.mpr (show cdA Try.prog [] slices_partialInsertionSortOrdered_uint32_an _ _ _ w = slices_partialInsertionSortOrdered_uint32 x0 x0l x0c x1 x2 R w by kernel_rfl) h)

/- "slices.partitionEqualOrdered[uint32]" (117) -/
set_option maxRecDepth 100000 in
def slices_partitionEqualOrdered_uint32 (x0 : Option Addr) (x0l _x0c : Nat) (x1 : Int) (x2 : Int) (x3 : Int) (R : Ending → World → Prop) (w : World) : Prop :=
  (dr w (fun w0 =>
 (ixa x0 x0l x3 1 (fun a1 =>
  (∃ (n2 : Int), (((World.cell? w0 a1) = (some (.int .u32 n2))) ∧
   (ixa x0 x0l x1 1 (fun a3 =>
   (∃ (n4 : Int), (((World.cell? w0 a3) = (some (.int .u32 n4))) ∧
    (ixa x0 x0l x1 1 (fun a5 =>
    (st1 a5 (.int .u32 n2) w0 (fun w6 =>
     (ixa x0 x0l x3 1 (fun a7 =>
      (st1 a7 (.int .u32 n4) w6 (fun w8 =>
       (lp (σ := (Int × Int)) (fun _ k9 s10 w11 =>
        (jn (σ := Int) (fun _ n12 w13 =>
         (lp (σ := Int) (fun _ k14 n15 w16 =>
          (dr w16 (fun w17 =>
           (br (decide (n12 ≤ n15))
             (ixa x0 x0l x1 1 (fun a18 =>
            (∃ (n19 : Int), (((World.cell? w17 a18) = (some (.int .u32 n19))) ∧
             (ixa x0 x0l n15 1 (fun a20 =>
             (∃ (n21 : Int), (((World.cell? w17 a20) = (some (.int .u32 n21))) ∧
              (cl Try.prog 116 #[(.int .u32 n19), (.int .u32 n21)] w17 (fun v22 w23 =>
              (∃ (b24 : Bool), ((v22 = (.bool b24)) ∧
               (br b24 (k14 (IntKind.wrap .i64 (n15 - (1 : Int))) w23)
                (br (decide (n12 > n15)) (R (.returned (.int .i64 n12)) w23)
                (dr w23 (fun w25 =>
               (ixa x0 x0l n15 1 (fun a26 =>
                (∃ (n27 : Int), (((World.cell? w25 a26) = (some (.int .u32 n27))) ∧
                 (ixa x0 x0l n12 1 (fun a28 =>
                 (∃ (n29 : Int), (((World.cell? w25 a28) = (some (.int .u32 n29))) ∧
                  (ixa x0 x0l n12 1 (fun a30 =>
                  (st1 a30 (.int .u32 n27) w25 (fun w31 =>
                   (ixa x0 x0l n15 1 (fun a32 =>
                    (st1 a32 (.int .u32 n29) w31 (fun w33 => (k9 ((IntKind.wrap .i64 (n12 + (1 : Int))), (IntKind.wrap .i64 (n15 - (1 : Int)))) w33)))))))))))))))))))))))) (fun _ _ => False))))))))))
             (br (decide (n12 > n15)) (R (.returned (.int .i64 n12)) w17)
             (dr w17 (fun w34 =>
            (ixa x0 x0l n15 1 (fun a35 =>
             (∃ (n36 : Int), (((World.cell? w34 a35) = (some (.int .u32 n36))) ∧
              (ixa x0 x0l n12 1 (fun a37 =>
              (∃ (n38 : Int), (((World.cell? w34 a37) = (some (.int .u32 n38))) ∧
               (ixa x0 x0l n12 1 (fun a39 =>
               (st1 a39 (.int .u32 n36) w34 (fun w40 =>
                (ixa x0 x0l n15 1 (fun a41 =>
                 (st1 a41 (.int .u32 n38) w40 (fun w42 => (k9 ((IntKind.wrap .i64 (n12 + (1 : Int))), (IntKind.wrap .i64 (n15 - (1 : Int)))) w42)))))))))))))))))))))))) s10.2 w13)) (fun k43 =>
         (lp (σ := Int) (fun _ k44 n45 w46 =>
          (dr w46 (fun w47 =>
           (br (decide (n45 ≤ s10.2))
             (ixa x0 x0l x1 1 (fun a48 =>
            (∃ (n49 : Int), (((World.cell? w47 a48) = (some (.int .u32 n49))) ∧
             (ixa x0 x0l n45 1 (fun a50 =>
             (∃ (n51 : Int), (((World.cell? w47 a50) = (some (.int .u32 n51))) ∧
              (cl Try.prog 116 #[(.int .u32 n49), (.int .u32 n51)] w47 (fun v52 w53 =>
              (∃ (b54 : Bool), ((v52 = (.bool b54)) ∧ (br (!b54) (k44 (IntKind.wrap .i64 (n45 + (1 : Int))) w53) (k43 n45 w53))))) (fun _ _ => False)))))))))) (k43 n45 w47))))) s10.1 w11)))) ((IntKind.wrap .i64 (x1 + (1 : Int))), (IntKind.wrap .i64 (x2 - (1 : Int)))) w8)))))))))))))))))))

def slices_partitionEqualOrdered_uint32_an : Ann := (.seq .leaf (.seq (.plan [.take 0, .take 1, .take 2, .take 3, .take 4, .take 5, .take 6, .take 7, .take 8, .take 9, .take 10, .take 11, .take 12, .eff 13, .take 14, .eff 15]) (.seq .leaf (.seq (.block (.loop (.block (.join (.block (.loop (.seq (.seq (.plan [.take 0, .take 1, .take 2, .take 3, .take 4, .take 5, .take 6, .take 7, .take 8, .take 9, .take 10, .take 11, .eff 12, .take 13, .take 14]) (.cond .leaf .leaf)) (.block .leaf)) [9, 29, 30, 31, 32, 33, 34, 35, 36, 37, 38, 39, 40, 41, 42, 43, 44, 45] [(9, (.int .i64))])) [9, 29, 30, 31, 32, 33, 34, 35, 36, 37, 38, 39, 40, 41, 42, 43, 44, 45] [(9, (.int .i64))] (.seq (.block (.loop (.seq (.seq (.plan [.take 0, .take 1, .take 2, .take 3, .take 4, .take 5, .take 6, .take 7, .take 8, .take 9, .take 10, .take 11, .eff 12, .take 13]) (.cond .leaf .leaf)) (.block .leaf)) [10, 46, 47, 48, 49, 50, 51, 52, 53, 54, 55, 56, 57, 58, 59, 60, 61] [(10, (.int .i64))])) (.seq (.seq .leaf (.cond .leaf .leaf)) (.seq (.plan [.take 0, .take 1, .take 2, .take 3, .take 4, .take 5, .take 6, .take 7, .take 8, .take 9, .take 10, .take 11, .take 12, .eff 13, .take 14, .eff 15]) (.seq .leaf .leaf)))))) [9, 10, 29, 30, 31, 32, 33, 34, 35, 36, 37, 38, 39, 40, 41, 42, 43, 44, 45, 46, 47, 48, 49, 50, 51, 52, 53, 54, 55, 56, 57, 58, 59, 60, 61, 62, 63, 64, 65, 66, 67, 68, 69, 70, 71, 72, 73, 74, 75, 76, 77, 78, 79, 80, 81, 82] [(9, (.int .i64)), (10, (.int .i64))])) (.seq .leaf .leaf)))))

set_option maxRecDepth 100000 in
theorem slices_partitionEqualOrdered_uint32_ok (x0 : Option Addr) (x0l x0c : Nat) (x1 : Int) (x2 : Int) (x3 : Int) (R : Ending → World → Prop) (w : World) (h : slices_partitionEqualOrdered_uint32 x0 x0l x0c x1 x2 x3 R w) : Cs Try.prog 117 (#[(.slice x0 x0l x0c), (.int .i64 x1), (.int .i64 x2), (.int .i64 x3)] : Array Value) w R :=
  fn_sound (ty := []) (ann := slices_partitionEqualOrdered_uint32_an) (N := 84) (by kernel_rfl) (by kernel_rfl) Try.func117 rfl (by kernel_rfl) (by show 4 ≤ 84; decide) (by kernel_rfl)
    (Eq.mpr (show cdA Try.prog [] slices_partitionEqualOrdered_uint32_an _ _ _ w = slices_partitionEqualOrdered_uint32 x0 x0l x0c x1 x2 x3 R w by kernel_rfl) h)

/- "slices.partitionOrdered[uint32]" (118) -/
set_option maxRecDepth 100000 in
def slices_partitionOrdered_uint32 (x0 : Option Addr) (x0l _x0c : Nat) (x1 : Int) (x2 : Int) (x3 : Int) (R : Ending → World → Prop) (w : World) : Prop :=
  (dr w (fun w0 =>
 (ixa x0 x0l x3 1 (fun a1 =>
  (∃ (n2 : Int), (((World.cell? w0 a1) = (some (.int .u32 n2))) ∧
   (ixa x0 x0l x1 1 (fun a3 =>
   (∃ (n4 : Int), (((World.cell? w0 a3) = (some (.int .u32 n4))) ∧
    (ixa x0 x0l x1 1 (fun a5 =>
    (st1 a5 (.int .u32 n2) w0 (fun w6 =>
     (ixa x0 x0l x3 1 (fun a7 =>
      (st1 a7 (.int .u32 n4) w6 (fun w8 =>
       (jn (σ := Int) (fun _ n9 w10 =>
        (jn (σ := Int) (fun _ n11 w12 =>
         (br (decide (n9 > n11))
           (dr w12 (fun w13 =>
          (ixa x0 x0l x1 1 (fun a14 =>
           (∃ (n15 : Int), (((World.cell? w13 a14) = (some (.int .u32 n15))) ∧
            (ixa x0 x0l n11 1 (fun a16 =>
            (∃ (n17 : Int), (((World.cell? w13 a16) = (some (.int .u32 n17))) ∧
             (ixa x0 x0l n11 1 (fun a18 =>
             (st1 a18 (.int .u32 n15) w13 (fun w19 =>
              (ixa x0 x0l x1 1 (fun a20 =>
               (st1 a20 (.int .u32 n17) w19 (fun w21 => (R (.returned (.tuple #[(.int .i64 n11), (.bool Bool.true)])) w21)))))))))))))))))))
           (dr w12 (fun w22 =>
          (ixa x0 x0l n11 1 (fun a23 =>
           (∃ (n24 : Int), (((World.cell? w22 a23) = (some (.int .u32 n24))) ∧
            (ixa x0 x0l n9 1 (fun a25 =>
            (∃ (n26 : Int), (((World.cell? w22 a25) = (some (.int .u32 n26))) ∧
             (ixa x0 x0l n9 1 (fun a27 =>
             (st1 a27 (.int .u32 n24) w22 (fun w28 =>
              (ixa x0 x0l n11 1 (fun a29 =>
               (st1 a29 (.int .u32 n26) w28 (fun w30 =>
                (lp (σ := (Int × Int)) (fun _ k31 s32 w33 =>
                 (jn (σ := Int) (fun _ n34 w35 =>
                  (lp (σ := Int) (fun _ k36 n37 w38 =>
                   (dr w38 (fun w39 =>
                    (br (decide (n34 ≤ n37))
                      (ixa x0 x0l n37 1 (fun a40 =>
                     (∃ (n41 : Int), (((World.cell? w39 a40) = (some (.int .u32 n41))) ∧
                      (ixa x0 x0l x1 1 (fun a42 =>
                      (∃ (n43 : Int), (((World.cell? w39 a42) = (some (.int .u32 n43))) ∧
                       (cl Try.prog 116 #[(.int .u32 n41), (.int .u32 n43)] w39 (fun v44 w45 =>
                       (∃ (b46 : Bool), ((v44 = (.bool b46)) ∧
                        (br (!b46) (k36 (IntKind.wrap .i64 (n37 - (1 : Int))) w45)
                         (br (decide (n34 > n37))
                         (dr w45 (fun w47 =>
                        (ixa x0 x0l x1 1 (fun a48 =>
                         (∃ (n49 : Int), (((World.cell? w47 a48) = (some (.int .u32 n49))) ∧
                          (ixa x0 x0l n37 1 (fun a50 =>
                          (∃ (n51 : Int), (((World.cell? w47 a50) = (some (.int .u32 n51))) ∧
                           (ixa x0 x0l n37 1 (fun a52 =>
                           (st1 a52 (.int .u32 n49) w47 (fun w53 =>
                            (ixa x0 x0l x1 1 (fun a54 =>
                             (st1 a54 (.int .u32 n51) w53 (fun w55 => (R (.returned (.tuple #[(.int .i64 n37), (.bool Bool.false)])) w55)))))))))))))))))))
                         (dr w45 (fun w56 =>
                        (ixa x0 x0l n37 1 (fun a57 =>
                         (∃ (n58 : Int), (((World.cell? w56 a57) = (some (.int .u32 n58))) ∧
                          (ixa x0 x0l n34 1 (fun a59 =>
                          (∃ (n60 : Int), (((World.cell? w56 a59) = (some (.int .u32 n60))) ∧
                           (ixa x0 x0l n34 1 (fun a61 =>
                           (st1 a61 (.int .u32 n58) w56 (fun w62 =>
                            (ixa x0 x0l n37 1 (fun a63 =>
                             (st1 a63 (.int .u32 n60) w62 (fun w64 => (k31 ((IntKind.wrap .i64 (n34 + (1 : Int))), (IntKind.wrap .i64 (n37 - (1 : Int)))) w64)))))))))))))))))))))))) (fun _ _ => False))))))))))
                      (br (decide (n34 > n37))
                      (dr w39 (fun w65 =>
                     (ixa x0 x0l x1 1 (fun a66 =>
                      (∃ (n67 : Int), (((World.cell? w65 a66) = (some (.int .u32 n67))) ∧
                       (ixa x0 x0l n37 1 (fun a68 =>
                       (∃ (n69 : Int), (((World.cell? w65 a68) = (some (.int .u32 n69))) ∧
                        (ixa x0 x0l n37 1 (fun a70 =>
                        (st1 a70 (.int .u32 n67) w65 (fun w71 =>
                         (ixa x0 x0l x1 1 (fun a72 =>
                          (st1 a72 (.int .u32 n69) w71 (fun w73 => (R (.returned (.tuple #[(.int .i64 n37), (.bool Bool.false)])) w73)))))))))))))))))))
                      (dr w39 (fun w74 =>
                     (ixa x0 x0l n37 1 (fun a75 =>
                      (∃ (n76 : Int), (((World.cell? w74 a75) = (some (.int .u32 n76))) ∧
                       (ixa x0 x0l n34 1 (fun a77 =>
                       (∃ (n78 : Int), (((World.cell? w74 a77) = (some (.int .u32 n78))) ∧
                        (ixa x0 x0l n34 1 (fun a79 =>
                        (st1 a79 (.int .u32 n76) w74 (fun w80 =>
                         (ixa x0 x0l n37 1 (fun a81 =>
                          (st1 a81 (.int .u32 n78) w80 (fun w82 => (k31 ((IntKind.wrap .i64 (n34 + (1 : Int))), (IntKind.wrap .i64 (n37 - (1 : Int)))) w82)))))))))))))))))))))))) s32.2 w35)) (fun k83 =>
                  (lp (σ := Int) (fun _ k84 n85 w86 =>
                   (dr w86 (fun w87 =>
                    (br (decide (n85 ≤ s32.2))
                      (ixa x0 x0l n85 1 (fun a88 =>
                     (∃ (n89 : Int), (((World.cell? w87 a88) = (some (.int .u32 n89))) ∧
                      (ixa x0 x0l x1 1 (fun a90 =>
                      (∃ (n91 : Int), (((World.cell? w87 a90) = (some (.int .u32 n91))) ∧
                       (cl Try.prog 116 #[(.int .u32 n89), (.int .u32 n91)] w87 (fun v92 w93 =>
                       (∃ (b94 : Bool), ((v92 = (.bool b94)) ∧ (br b94 (k84 (IntKind.wrap .i64 (n85 + (1 : Int))) w93) (k83 n85 w93))))) (fun _ _ => False)))))))))) (k83 n85 w87))))) s32.1 w33)))) ((IntKind.wrap .i64 (n9 + (1 : Int))), (IntKind.wrap .i64 (n11 - (1 : Int)))) w30))))))))))))))))))))) (fun k95 =>
         (lp (σ := Int) (fun _ k96 n97 w98 =>
          (dr w98 (fun w99 =>
           (br (decide (n9 ≤ n97))
             (ixa x0 x0l n97 1 (fun a100 =>
            (∃ (n101 : Int), (((World.cell? w99 a100) = (some (.int .u32 n101))) ∧
             (ixa x0 x0l x1 1 (fun a102 =>
             (∃ (n103 : Int), (((World.cell? w99 a102) = (some (.int .u32 n103))) ∧
              (cl Try.prog 116 #[(.int .u32 n101), (.int .u32 n103)] w99 (fun v104 w105 =>
              (∃ (b106 : Bool), ((v104 = (.bool b106)) ∧ (br (!b106) (k96 (IntKind.wrap .i64 (n97 - (1 : Int))) w105) (k95 n97 w105))))) (fun _ _ => False)))))))))) (k95 n97 w99))))) (IntKind.wrap .i64 (x2 - (1 : Int))) w10)))) (fun k107 =>
        (lp (σ := Int) (fun _ k108 n109 w110 =>
         (dr w110 (fun w111 =>
          (br (decide (n109 ≤ (IntKind.wrap .i64 (x2 - (1 : Int)))))
            (ixa x0 x0l n109 1 (fun a112 =>
           (∃ (n113 : Int), (((World.cell? w111 a112) = (some (.int .u32 n113))) ∧
            (ixa x0 x0l x1 1 (fun a114 =>
            (∃ (n115 : Int), (((World.cell? w111 a114) = (some (.int .u32 n115))) ∧
             (cl Try.prog 116 #[(.int .u32 n113), (.int .u32 n115)] w111 (fun v116 w117 =>
             (∃ (b118 : Bool), ((v116 = (.bool b118)) ∧ (br b118 (k108 (IntKind.wrap .i64 (n109 + (1 : Int))) w117) (k107 n109 w117))))) (fun _ _ => False)))))))))) (k107 n109 w111))))) (IntKind.wrap .i64 (x1 + (1 : Int))) w8)))))))))))))))))))))

def slices_partitionOrdered_uint32_an : Ann := (.seq .leaf (.seq (.plan [.take 0, .take 1, .take 2, .take 3, .take 4, .take 5, .take 6, .take 7, .take 8, .take 9, .take 10, .take 11, .take 12, .eff 13, .take 14, .eff 15]) (.seq .leaf (.join (.block (.loop (.seq (.seq (.plan [.take 0, .take 1, .take 2, .take 3, .take 4, .take 5, .take 6, .take 7, .take 8, .take 9, .take 10, .take 11, .eff 12, .take 13]) (.cond .leaf .leaf)) (.block .leaf)) [10, 30, 31, 32, 33, 34, 35, 36, 37, 38, 39, 40, 41, 42, 43, 44, 45] [(10, (.int .i64))])) [10, 30, 31, 32, 33, 34, 35, 36, 37, 38, 39, 40, 41, 42, 43, 44, 45] [(10, (.int .i64))] (.join (.block (.loop (.seq (.seq (.plan [.take 0, .take 1, .take 2, .take 3, .take 4, .take 5, .take 6, .take 7, .take 8, .take 9, .take 10, .take 11, .eff 12, .take 13, .take 14]) (.cond .leaf .leaf)) (.block .leaf)) [11, 46, 47, 48, 49, 50, 51, 52, 53, 54, 55, 56, 57, 58, 59, 60, 61, 62] [(11, (.int .i64))])) [11, 46, 47, 48, 49, 50, 51, 52, 53, 54, 55, 56, 57, 58, 59, 60, 61, 62] [(11, (.int .i64))] (.seq (.seq .leaf (.cond (.seq (.plan [.take 0, .take 1, .take 2, .take 3, .take 4, .take 5, .take 6, .take 7, .take 8, .take 9, .take 10, .take 11, .take 12, .eff 13, .take 14, .eff 15]) (.seq .leaf .leaf)) .leaf)) (.seq (.plan [.take 0, .take 1, .take 2, .take 3, .take 4, .take 5, .take 6, .take 7, .take 8, .take 9, .take 10, .take 11, .take 12, .eff 13, .take 14, .eff 15]) (.seq .leaf (.seq .leaf (.seq (.block (.loop (.block (.join (.block (.loop (.seq (.seq (.plan [.take 0, .take 1, .take 2, .take 3, .take 4, .take 5, .take 6, .take 7, .take 8, .take 9, .take 10, .take 11, .eff 12, .take 13]) (.cond .leaf .leaf)) (.block .leaf)) [10, 99, 100, 101, 102, 103, 104, 105, 106, 107, 108, 109, 110, 111, 112, 113, 114] [(10, (.int .i64))])) [10, 99, 100, 101, 102, 103, 104, 105, 106, 107, 108, 109, 110, 111, 112, 113, 114] [(10, (.int .i64))] (.seq (.block (.loop (.seq (.seq (.plan [.take 0, .take 1, .take 2, .take 3, .take 4, .take 5, .take 6, .take 7, .take 8, .take 9, .take 10, .take 11, .eff 12, .take 13, .take 14]) (.cond .leaf .leaf)) (.block .leaf)) [11, 115, 116, 117, 118, 119, 120, 121, 122, 123, 124, 125, 126, 127, 128, 129, 130, 131] [(11, (.int .i64))])) (.seq (.seq .leaf (.cond .leaf .leaf)) (.seq (.plan [.take 0, .take 1, .take 2, .take 3, .take 4, .take 5, .take 6, .take 7, .take 8, .take 9, .take 10, .take 11, .take 12, .eff 13, .take 14, .eff 15]) (.seq .leaf .leaf)))))) [10, 11, 99, 100, 101, 102, 103, 104, 105, 106, 107, 108, 109, 110, 111, 112, 113, 114, 115, 116, 117, 118, 119, 120, 121, 122, 123, 124, 125, 126, 127, 128, 129, 130, 131, 132, 133, 134, 135, 136, 137, 138, 139, 140, 141, 142, 143, 144, 145, 146, 147, 148, 149, 150, 151, 152] [(10, (.int .i64)), (11, (.int .i64))])) (.seq (.plan [.take 0, .take 1, .take 2, .take 3, .take 4, .take 5, .take 6, .take 7, .take 8, .take 9, .take 10, .take 11, .take 12, .eff 13, .take 14, .eff 15]) (.seq .leaf .leaf))))))))))))

set_option maxRecDepth 100000 in
theorem slices_partitionOrdered_uint32_ok (x0 : Option Addr) (x0l x0c : Nat) (x1 : Int) (x2 : Int) (x3 : Int) (R : Ending → World → Prop) (w : World) (h : slices_partitionOrdered_uint32 x0 x0l x0c x1 x2 x3 R w) : Cs Try.prog 118 (#[(.slice x0 x0l x0c), (.int .i64 x1), (.int .i64 x2), (.int .i64 x3)] : Array Value) w R :=
  fn_sound (ty := []) (ann := slices_partitionOrdered_uint32_an) (N := 168) (by kernel_rfl) (by kernel_rfl) Try.func118 rfl (by kernel_rfl) (by show 4 ≤ 168; decide) (by kernel_rfl)
    (Eq.mpr (show cdA Try.prog [] slices_partitionOrdered_uint32_an _ _ _ w = slices_partitionOrdered_uint32 x0 x0l x0c x1 x2 x3 R w by kernel_rfl) h)

/- "slices.siftDownOrdered[uint32]" (141) -/
set_option maxRecDepth 100000 in
def slices_siftDownOrdered_uint32 (x0 : Option Addr) (x0l _x0c : Nat) (x1 : Int) (x2 : Int) (x3 : Int) (R : Ending → World → Prop) (w : World) : Prop :=
  (lp (σ := Int) (fun _ k0 n1 w2 =>
 (br
   (decide ((IntKind.wrap .i64 ((IntKind.wrap .i64 ((2 : Int) * n1)) + (1 : Int))) ≥ x2)) (R (.returned (.tuple #[])) w2)
   (jn (σ := Int) (fun _ n3 w4 =>
  (dr w4 (fun w5 =>
   (ixa x0 x0l (IntKind.wrap .i64 (x3 + n1)) 1 (fun a6 =>
    (∃ (n7 : Int), (((World.cell? w5 a6) = (some (.int .u32 n7))) ∧
     (ixa x0 x0l (IntKind.wrap .i64 (x3 + n3)) 1 (fun a8 =>
     (∃ (n9 : Int), (((World.cell? w5 a8) = (some (.int .u32 n9))) ∧
      (cl Try.prog 116 #[(.int .u32 n7), (.int .u32 n9)] w5 (fun v10 w11 =>
      (∃ (b12 : Bool), ((v10 = (.bool b12)) ∧
       (br (!b12) (R (.returned (.tuple #[])) w11)
        (dr w11 (fun w13 =>
       (ixa x0 x0l (IntKind.wrap .i64 (x3 + n3)) 1 (fun a14 =>
        (∃ (n15 : Int), (((World.cell? w13 a14) = (some (.int .u32 n15))) ∧
         (ixa x0 x0l (IntKind.wrap .i64 (x3 + n1)) 1 (fun a16 =>
         (∃ (n17 : Int), (((World.cell? w13 a16) = (some (.int .u32 n17))) ∧
          (ixa x0 x0l (IntKind.wrap .i64 (x3 + n1)) 1 (fun a18 =>
          (st1 a18 (.int .u32 n15) w13 (fun w19 =>
           (ixa x0 x0l (IntKind.wrap .i64 (x3 + n3)) 1 (fun a20 => (st1 a20 (.int .u32 n17) w19 (fun w21 => (k0 n3 w21))))))))))))))))))))))) (fun _ _ => False))))))))))))) (fun k22 =>
  (dr w2 (fun w23 =>
   (br
     (decide ((IntKind.wrap .i64 ((IntKind.wrap .i64 ((IntKind.wrap .i64 ((2 : Int) * n1)) + (1 : Int))) + (1 : Int))) < x2))
     (ixa x0 x0l (IntKind.wrap .i64 (x3 + (IntKind.wrap .i64 ((IntKind.wrap .i64 ((2 : Int) * n1)) + (1 : Int))))) 1 (fun a24 =>
    (∃ (n25 : Int), (((World.cell? w23 a24) = (some (.int .u32 n25))) ∧
     (ixa x0 x0l (IntKind.wrap .i64 ((IntKind.wrap .i64 (x3 + (IntKind.wrap .i64 ((IntKind.wrap .i64 ((2 : Int) * n1)) + (1 : Int))))) + (1 : Int))) 1 (fun a26 =>
     (∃ (n27 : Int), (((World.cell? w23 a26) = (some (.int .u32 n27))) ∧
      (cl Try.prog 116 #[(.int .u32 n25), (.int .u32 n27)] w23 (fun v28 w29 =>
      (∃ (b30 : Bool), ((v28 = (.bool b30)) ∧
       (br b30
        (k22 (IntKind.wrap .i64 ((IntKind.wrap .i64 ((IntKind.wrap .i64 ((2 : Int) * n1)) + (1 : Int))) + (1 : Int))) w29)
        (k22 (IntKind.wrap .i64 ((IntKind.wrap .i64 ((2 : Int) * n1)) + (1 : Int))) w29))))) (fun _ _ => False))))))))))
     (k22 (IntKind.wrap .i64 ((IntKind.wrap .i64 ((2 : Int) * n1)) + (1 : Int))) w23)))))))) x1 w)

def slices_siftDownOrdered_uint32_an : Ann := (.seq .leaf (.block (.loop (.block (.seq .leaf (.seq (.seq .leaf (.cond .leaf .leaf)) (.join (.seq (.plan [.take 0, .take 1, .take 2, .take 3, .take 4, .take 5, .take 6, .take 7, .take 8, .take 9, .take 10, .take 11, .take 12, .take 13, .take 14, .take 15, .take 16, .take 17, .eff 18, .take 19]) (.cond .leaf .leaf)) [9, 17, 18, 19, 20, 21, 22, 23, 24, 25, 26, 27, 28, 29, 30, 31, 32, 33, 34, 35, 36, 37, 38] [(9, (.int .i64))] (.seq (.seq (.plan [.take 0, .take 1, .take 2, .take 3, .take 4, .take 5, .take 6, .take 7, .take 8, .take 9, .take 10, .take 11, .eff 12, .take 13]) (.cond .leaf .leaf)) (.seq (.plan [.take 0, .take 1, .take 2, .take 3, .take 4, .take 5, .take 6, .take 7, .take 8, .take 9, .take 10, .take 11, .take 12, .take 13, .take 14, .take 15, .take 16, .take 17, .take 18, .take 19, .take 20, .eff 21, .take 22, .eff 23]) .leaf)))))) [8, 9, 11, 12, 13, 14, 15, 16, 17, 18, 19, 20, 21, 22, 23, 24, 25, 26, 27, 28, 29, 30, 31, 32, 33, 34, 35, 36, 37, 38, 39, 40, 41, 42, 43, 44, 45, 46, 47, 48, 49, 50, 51, 52, 53, 54, 55, 56, 57, 58, 59, 60, 61, 62, 63, 64, 65, 66, 67, 68, 69, 70, 71, 72, 73, 74, 75] [(8, (.int .i64))])))

set_option maxRecDepth 100000 in
theorem slices_siftDownOrdered_uint32_ok (x0 : Option Addr) (x0l x0c : Nat) (x1 : Int) (x2 : Int) (x3 : Int) (R : Ending → World → Prop) (w : World) (h : slices_siftDownOrdered_uint32 x0 x0l x0c x1 x2 x3 R w) : Cs Try.prog 141 (#[(.slice x0 x0l x0c), (.int .i64 x1), (.int .i64 x2), (.int .i64 x3)] : Array Value) w R :=
  fn_sound (ty := []) (ann := slices_siftDownOrdered_uint32_an) (N := 76) (by kernel_rfl) (by kernel_rfl) Try.func141 rfl (by kernel_rfl) (by show 4 ≤ 76; decide) (by kernel_rfl)
    (Eq.mpr (show cdA Try.prog [] slices_siftDownOrdered_uint32_an _ _ _ w = slices_siftDownOrdered_uint32 x0 x0l x0c x1 x2 x3 R w by kernel_rfl) h)

/- "slices.nextPowerOfTwo" (142) -/
set_option maxRecDepth 100000 in
def slices_nextPowerOfTwo (x0 : Int) (R : Ending → World → Prop) (w : World) : Prop :=
  (cl Try.prog 95 #[(.int .u64 (IntKind.wrap .u64 x0))] w (fun v0 w1 =>
 (∃ (n2 : Int), ((v0 = (.int .i64 n2)) ∧
  (((0 : Int) ≤ n2) ∧
  (R (.returned (.int .u64 (IntKind.wrap .u64 ((1 : Int) * ((2 : Int) ^ (Min.min (Int.toNat n2) 64)))))) w1))))) (fun x3 w4 => (R (.panicked x3) w4)))

def slices_nextPowerOfTwo_an : Ann := (.seq .leaf (.seq .leaf .leaf))

set_option maxRecDepth 100000 in
theorem slices_nextPowerOfTwo_ok (x0 : Int) (R : Ending → World → Prop) (w : World) (h : slices_nextPowerOfTwo x0 R w) : Cs Try.prog 142 (#[(.int .i64 x0)] : Array Value) w R :=
  fn_sound (ty := []) (ann := slices_nextPowerOfTwo_an) (N := 7) (by kernel_rfl) (by kernel_rfl) Try.func142 rfl (by kernel_rfl) (by show 1 ≤ 7; decide) (by kernel_rfl)
    (Eq.mpr (show cdA Try.prog [] slices_nextPowerOfTwo_an _ _ _ w = slices_nextPowerOfTwo x0 R w by kernel_rfl) h)

/- "(*slices.xorshift).Next" (143) -/
set_option maxRecDepth 100000 in
def slices_xorshift_Next (x0 : Option Addr) (R : Ending → World → Prop) (w : World) : Prop :=
  (dr w (fun w0 =>
 (nc x0 (fun a1 =>
  (∃ (n2 : Int), (((World.cell? w0 a1) = (some (.int .u64 n2))) ∧
   (nc x0 (fun a3 =>
   (∃ (n4 : Int), (((World.cell? w0 a3) = (some (.int .u64 n4))) ∧
    (((0 : Int) ≤ (13 : Int)) ∧
    (nc x0 (fun a5 =>
    (st1 a5 (.int .u64 (IntKind.wrap .u64 ((BitVec.toNat ((BitVec.ofInt 64 n2) ^^^ (BitVec.ofInt 64 (IntKind.wrap .u64 (n4 * ((2 : Int) ^ (Min.min (Int.toNat (13 : Int)) 64))))))) : Int))) w0 (fun w6 =>
     (dr w6 (fun w7 =>
      (nc x0 (fun a8 =>
       (∃ (n9 : Int), (((World.cell? w7 a8) = (some (.int .u64 n9))) ∧
        (nc x0 (fun a10 =>
        (∃ (n11 : Int), (((World.cell? w7 a10) = (some (.int .u64 n11))) ∧
         (((0 : Int) ≤ (7 : Int)) ∧
         (nc x0 (fun a12 =>
         (st1 a12 (.int .u64 (IntKind.wrap .u64 ((BitVec.toNat ((BitVec.ofInt 64 n9) ^^^ (BitVec.ofInt 64 (Int.fdiv n11 ((2 : Int) ^ (Min.min (Int.toNat (7 : Int)) 64)))))) : Int))) w7 (fun w13 =>
          (dr w13 (fun w14 =>
           (nc x0 (fun a15 =>
            (∃ (n16 : Int), (((World.cell? w14 a15) = (some (.int .u64 n16))) ∧
             (nc x0 (fun a17 =>
             (∃ (n18 : Int), (((World.cell? w14 a17) = (some (.int .u64 n18))) ∧
              (((0 : Int) ≤ (17 : Int)) ∧
              (nc x0 (fun a19 =>
              (st1 a19 (.int .u64 (IntKind.wrap .u64 ((BitVec.toNat ((BitVec.ofInt 64 n16) ^^^ (BitVec.ofInt 64 (IntKind.wrap .u64 (n18 * ((2 : Int) ^ (Min.min (Int.toNat (17 : Int)) 64))))))) : Int))) w14 (fun w20 =>
               (nc x0 (fun a21 =>
                (∃ (n22 : Int), (((World.cell? w20 a21) = (some (.int .u64 n22))) ∧ (R (.returned (.int .u64 n22)) w20))))))))))))))))))))))))))))))))))))))))))))))))))

def slices_xorshift_Next_an : Ann := (.seq .leaf (.seq (.plan [.take 0, .take 1, .take 2, .take 3, .take 4, .take 5, .take 6, .take 7, .take 8, .eff 9]) (.seq (.plan [.take 0, .take 1, .take 2, .take 3, .take 4, .take 5, .take 6, .take 7, .take 8, .eff 9]) (.seq (.plan [.take 0, .take 1, .take 2, .take 3, .take 4, .take 5, .take 6, .take 7, .take 8, .eff 9]) (.seq .leaf .leaf)))))

set_option maxRecDepth 100000 in
theorem slices_xorshift_Next_ok (x0 : Option Addr) (R : Ending → World → Prop) (w : World) (h : slices_xorshift_Next x0 R w) : Cs Try.prog 143 (#[(.pointer x0)] : Array Value) w R :=
  fn_sound (ty := []) (ann := slices_xorshift_Next_an) (N := 33) (by kernel_rfl) (by kernel_rfl) Try.func143 rfl (by kernel_rfl) (by show 1 ≤ 33; decide) (by kernel_rfl)
    (Eq.mpr (show cdA Try.prog [] slices_xorshift_Next_an _ _ _ w = slices_xorshift_Next x0 R w by kernel_rfl) h)

/- "slices.medianOrdered[uint32]" (145) -/
set_option maxRecDepth 100000 in
def slices_medianOrdered_uint32 (x0 : Option Addr) (x0l x0c : Nat) (x1 : Int) (x2 : Int) (x3 : Int) (x4 : Option Addr) (R : Ending → World → Prop) (w : World) : Prop :=
  (cl Try.prog 154 #[(.slice x0 x0l x0c), (.int .i64 x1), (.int .i64 x2), (.pointer x4)] w (fun v0 w1 =>
 (∃ (n2 : Int) (n3 : Int), ((v0 = (.tuple #[(.int .i64 n2), (.int .i64 n3)])) ∧
  (cl Try.prog 154 #[(.slice x0 x0l x0c), (.int .i64 n3), (.int .i64 x3), (.pointer x4)] w1 (fun v4 w5 =>
  (∃ (n6 : Int) (n7 : Int), ((v4 = (.tuple #[(.int .i64 n6), (.int .i64 n7)])) ∧
   (cl Try.prog 154 #[(.slice x0 x0l x0c), (.int .i64 n2), (.int .i64 n6), (.pointer x4)] w5 (fun v8 w9 =>
   (∃ (n10 : Int) (n11 : Int), ((v8 = (.tuple #[(.int .i64 n10), (.int .i64 n11)])) ∧ (R (.returned (.int .i64 n11)) w9)))) (fun x12 w13 => (R (.panicked x12) w13)))))) (fun x14 w15 => (R (.panicked x14) w15)))))) (fun x16 w17 => (R (.panicked x16) w17)))

def slices_medianOrdered_uint32_an : Ann := (.seq .leaf (.seq .leaf (.seq .leaf (.seq .leaf (.seq .leaf .leaf)))))

set_option maxRecDepth 100000 in
theorem slices_medianOrdered_uint32_ok (x0 : Option Addr) (x0l x0c : Nat) (x1 : Int) (x2 : Int) (x3 : Int) (x4 : Option Addr) (R : Ending → World → Prop) (w : World) (h : slices_medianOrdered_uint32 x0 x0l x0c x1 x2 x3 x4 R w) : Cs Try.prog 145 (#[(.slice x0 x0l x0c), (.int .i64 x1), (.int .i64 x2), (.int .i64 x3), (.pointer x4)] : Array Value) w R :=
  fn_sound (ty := []) (ann := slices_medianOrdered_uint32_an) (N := 36) (by kernel_rfl) (by kernel_rfl) Try.func145 rfl (by kernel_rfl) (by show 5 ≤ 36; decide) (by kernel_rfl)
    (Eq.mpr (show cdA Try.prog [] slices_medianOrdered_uint32_an _ _ _ w = slices_medianOrdered_uint32 x0 x0l x0c x1 x2 x3 x4 R w by kernel_rfl) h)

/- "slices.order2Ordered[uint32]" (154) -/
set_option maxRecDepth 100000 in
def slices_order2Ordered_uint32 (x0 : Option Addr) (x0l _x0c : Nat) (x1 : Int) (x2 : Int) (x3 : Option Addr) (R : Ending → World → Prop) (w : World) : Prop :=
  (dr w (fun w0 =>
 (ixa x0 x0l x2 1 (fun a1 =>
  (∃ (n2 : Int), (((World.cell? w0 a1) = (some (.int .u32 n2))) ∧
   (ixa x0 x0l x1 1 (fun a3 =>
   (∃ (n4 : Int), (((World.cell? w0 a3) = (some (.int .u32 n4))) ∧
    (cl Try.prog 116 #[(.int .u32 n2), (.int .u32 n4)] w0 (fun v5 w6 =>
    (∃ (b7 : Bool), ((v5 = (.bool b7)) ∧
     (br b7
      (nc x3 (fun a8 =>
     (∃ (n9 : Int), (((World.cell? w6 a8) = (some (.int .i64 n9))) ∧
      (nc x3 (fun a10 =>
      (st1 a10 (.int .i64 (IntKind.wrap .i64 (n9 + (1 : Int)))) w6 (fun w11 => (R (.returned (.tuple #[(.int .i64 x2), (.int .i64 x1)])) w11)))))))))
      (R (.returned (.tuple #[(.int .i64 x1), (.int .i64 x2)])) w6))))) (fun _ _ => False))))))))))))

def slices_order2Ordered_uint32_an : Ann := (.seq .leaf (.seq (.seq (.plan [.take 0, .take 1, .take 2, .take 3, .take 4, .take 5, .take 6, .take 7, .eff 8]) (.cond (.seq .leaf (.seq .leaf .leaf)) .leaf)) (.seq .leaf .leaf)))

set_option maxRecDepth 100000 in
theorem slices_order2Ordered_uint32_ok (x0 : Option Addr) (x0l x0c : Nat) (x1 : Int) (x2 : Int) (x3 : Option Addr) (R : Ending → World → Prop) (w : World) (h : slices_order2Ordered_uint32 x0 x0l x0c x1 x2 x3 R w) : Cs Try.prog 154 (#[(.slice x0 x0l x0c), (.int .i64 x1), (.int .i64 x2), (.pointer x3)] : Array Value) w R :=
  fn_sound (ty := []) (ann := slices_order2Ordered_uint32_an) (N := 28) (by kernel_rfl) (by kernel_rfl) Try.func154 rfl (by kernel_rfl) (by show 4 ≤ 28; decide) (by kernel_rfl)
    (Eq.mpr (show cdA Try.prog [] slices_order2Ordered_uint32_an _ _ _ w = slices_order2Ordered_uint32 x0 x0l x0c x1 x2 x3 R w by kernel_rfl) h)

end Go.SR
