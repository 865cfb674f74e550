/- PRINTED by a program of the prover's (wip/sr/Gen.lean): residuals of Go functions. -/
import Derived.Test.YtmmcihbcceahkaaA6
import Derived.Test.YtmmcihbcceahkaaProg
namespace Go.SR
open Go Go.Proofs

/- "slices.SortFunc[[]girandole/api.Want,girandole/api.Want]" (85) -/
set_option maxRecDepth 100000 in
def slices_SortFunc_api_Want_api_Want (x0 : Option Addr) (x0l x0c : Nat) (x1 : Value) (R : Ending → World → Prop) (w : World) : Prop :=
  (cl Try.prog 95 #[(.int .u64 (IntKind.wrap .u64 (x0l : Int)))] w (fun v0 w1 =>
 (∃ (n2 : Int), ((v0 = (.int .i64 n2)) ∧
  (cl Try.prog 105 #[(.slice x0 x0l x0c), (.int .i64 (0 : Int)), (.int .i64 (x0l : Int)), (.int .i64 n2), x1] w1 (fun _ w3 => (R (.returned (.tuple #[])) w3)) (fun x4 w5 => (R (.panicked x4) w5)))))) (fun x6 w7 => (R (.panicked x6) w7)))

def slices_SortFunc_api_Want_api_Want_an : Ann := (.seq .leaf .leaf)

set_option maxRecDepth 100000 in
theorem slices_SortFunc_api_Want_api_Want_ok (x0 : Option Addr) (x0l x0c : Nat) (x1 : Value) (R : Ending → World → Prop) (w : World) (h : slices_SortFunc_api_Want_api_Want x0 x0l x0c x1 R w) : Cs Try.prog 85 (#[(.slice x0 x0l x0c), x1] : Array Value) w R :=
  fn_sound (ty := []) (ann := slices_SortFunc_api_Want_api_Want_an) (N := 14) (by kernel_rfl) (by kernel_rfl) Try.func85 rfl (by kernel_rfl) (by show 2 ≤ 14; decide) (by kernel_rfl)
    (Eq.mpr (show cdA Try.prog [] slices_SortFunc_api_Want_api_Want_an _ _ _ w = slices_SortFunc_api_Want_api_Want x0 x0l x0c x1 R w by kernel_rfl) h)

/- "slices.pdqsortCmpFunc[girandole/api.Want]" (105) -/
set_option maxRecDepth 100000 in
def slices_pdqsortCmpFunc_api_Want (x0 : Option Addr) (x0l x0c : Nat) (x1 : Int) (x2 : Int) (x3 : Int) (x4 : Value) (R : Ending → World → Prop) (w : World) : Prop :=
  (lp (σ := (Int × (Int × (Int × (Bool × Bool))))) (fun _ k0 s1 w2 =>
 (br (decide ((IntKind.wrap .i64 (s1.2.1 - s1.1)) ≤ (12 : Int)))
   (cl Try.prog 133 #[(.slice x0 x0l x0c), (.int .i64 s1.1), (.int .i64 s1.2.1), x4] w2 (fun _ w3 => (R (.returned (.tuple #[])) w3)) (fun x4 w5 => (R (.panicked x4) w5)))
   (br (s1.2.2.1 == (0 : Int))
   (cl Try.prog 134 #[(.slice x0 x0l x0c), (.int .i64 s1.1), (.int .i64 s1.2.1), x4] w2 (fun _ w6 => (R (.returned (.tuple #[])) w6)) (fun x7 w8 => (R (.panicked x7) w8)))
   (jn (σ := Int) (fun _ n9 w10 =>
  (cl Try.prog 136 #[(.slice x0 x0l x0c), (.int .i64 s1.1), (.int .i64 s1.2.1), x4] w10 (fun v11 w12 =>
   (∃ (n13 : Int) (n14 : Int), ((v11 = (.tuple #[(.int .i64 n13), (.int .i64 n14)])) ∧
    (jn (σ := (Int × Int)) (fun _ s15 w16 =>
    (jn (σ := PUnit) (fun _ _ w17 =>
     (jn (σ := Int) (fun _ n18 w19 =>
      (cl Try.prog 140 #[(.slice x0 x0l x0c), (.int .i64 n18), (.int .i64 s1.2.1), (.int .i64 s15.1), x4] w19 (fun v20 w21 =>
       (∃ (n22 : Int) (b23 : Bool), ((v20 = (.tuple #[(.int .i64 n22), (.bool b23)])) ∧
        (((8 : Int) ≠ (0 : Int)) ∧
        (br
         (decide ((IntKind.wrap .i64 (n22 - n18)) < (IntKind.wrap .i64 (s1.2.1 - n22))))
         (cl Try.prog 105 #[(.slice x0 x0l x0c), (.int .i64 n18), (.int .i64 n22), (.int .i64 n9), x4] w21 (fun _ w24 =>
        (k0 ((IntKind.wrap .i64 (n22 + (1 : Int))), (s1.2.1, (n9, ((decide ((IntKind.wrap .i64 (n22 - n18)) ≥ (IntKind.wrap .i64 (Int.tdiv (IntKind.wrap .i64 (s1.2.1 - s1.1)) (8 : Int))))), b23)))) w24)) (fun x25 w26 => (R (.panicked x25) w26)))
         (cl Try.prog 105 #[(.slice x0 x0l x0c), (.int .i64 (IntKind.wrap .i64 (n22 + (1 : Int)))), (.int .i64 s1.2.1), (.int .i64 n9), x4] w21 (fun _ w27 =>
        (k0 (n18, (n22, (n9, ((decide ((IntKind.wrap .i64 (s1.2.1 - n22)) ≥ (IntKind.wrap .i64 (Int.tdiv (IntKind.wrap .i64 (s1.2.1 - s1.1)) (8 : Int))))), b23)))) w27)) (fun x28 w29 => (R (.panicked x28) w29)))))))) (fun x30 w31 => (R (.panicked x30) w31)))) (fun k32 =>
      (dr w17 (fun w33 =>
       (br (decide (s1.1 > (0 : Int)))
         (ixa x0 x0l (IntKind.wrap .i64 (s1.1 - (1 : Int))) 3 (fun a34 =>
        (∃ (n35 : Int) (n36 : Int) (n37 : Int), ((cellsAt w33 a34 [(.int .u32 n35), (.int .i64 n36), (.int .i64 n37)]) ∧
         (ixa x0 x0l s15.1 3 (fun a38 =>
         (∃ (n39 : Int) (n40 : Int) (n41 : Int), ((cellsAt w33 a38 [(.int .u32 n39), (.int .i64 n40), (.int .i64 n41)]) ∧
          (clv Try.prog x4 [(.agg #[(.int .u32 n35), (.int .i64 n36), (.int .i64 n37)]), (.agg #[(.int .u32 n39), (.int .i64 n40), (.int .i64 n41)])] w33 (fun v42 w43 =>
          (∃ (n44 : Int), ((v42 = (.int .i64 n44)) ∧
           (br (!(decide (n44 < (0 : Int))))
            (cl Try.prog 139 #[(.slice x0 x0l x0c), (.int .i64 s1.1), (.int .i64 s1.2.1), (.int .i64 s15.1), x4] w43 (fun v45 w46 =>
           (∃ (n47 : Int), ((v45 = (.int .i64 n47)) ∧ (k0 (n47, (s1.2.1, (n9, (s1.2.2.2.1, s1.2.2.2.2)))) w46)))) (fun x48 w49 => (R (.panicked x48) w49))) (k32 s1.1 w43))))) (fun _ _ => False)))))))))) (k32 s1.1 w33))))))) (fun k50 =>
     (br s1.2.2.2.1
       (br s1.2.2.2.2
       (br (s15.2 == (1 : Int))
       (cl Try.prog 138 #[(.slice x0 x0l x0c), (.int .i64 s1.1), (.int .i64 s1.2.1), x4] w16 (fun v51 w52 =>
      (∃ (b53 : Bool), ((v51 = (.bool b53)) ∧ (br b53 (R (.returned (.tuple #[])) w52) (k50 () w52))))) (fun x54 w55 => (R (.panicked x54) w55))) (k50 () w16)) (k50 () w16)) (k50 () w16))))) (fun k56 =>
    (br (n14 == (2 : Int))
      (cl Try.prog 137 #[(.slice x0 x0l x0c), (.int .i64 s1.1), (.int .i64 s1.2.1), x4] w12 (fun _ w57 =>
     (k56 ((IntKind.wrap .i64 ((IntKind.wrap .i64 (s1.2.1 - (1 : Int))) - (IntKind.wrap .i64 (n13 - s1.1)))), (1 : Int)) w57)) (fun x58 w59 => (R (.panicked x58) w59))) (k56 (n13, n14) w12))))))) (fun x60 w61 => (R (.panicked x60) w61)))) (fun k62 =>
  (br (!s1.2.2.2.1)
    (cl Try.prog 135 #[(.slice x0 x0l x0c), (.int .i64 s1.1), (.int .i64 s1.2.1), x4] w2 (fun _ w63 => (k62 (IntKind.wrap .i64 (s1.2.2.1 - (1 : Int))) w63)) (fun x64 w65 => (R (.panicked x64) w65))) (k62 s1.2.2.1 w2))))))) (x1, (x2, (x3, (Bool.true, Bool.true)))) w)

def slices_pdqsortCmpFunc_api_Want_an : Ann := (.seq .leaf (.seq .leaf (.block (.loop (.block (.seq .leaf (.seq (.seq .leaf (.cond (.seq .leaf .leaf) .leaf)) (.seq (.seq .leaf (.cond (.seq .leaf .leaf) .leaf)) (.join (.seq .leaf (.cond (.seq .leaf .leaf) .leaf)) [3, 38, 39, 40, 41, 42, 43, 44, 45, 46] [(3, (.int .i64))] (.seq .leaf (.join (.seq .leaf (.cond (.seq .leaf (.seq .leaf .leaf)) .leaf)) [13, 14, 55, 56, 57, 58, 59, 60, 61, 62, 63, 64, 65, 66, 67] [(13, (.int .i64)), (14, (.int .i64))] (.join (.seq .leaf (.cond (.seq .leaf (.cond .leaf .leaf)) .leaf)) [68, 69, 70, 71, 72, 73, 74, 75, 76, 77, 78, 79, 80] [] (.join (.seq (.plan [.take 0, .take 1, .take 2, .take 3, .take 4, .take 5, .take 6, .take 7, .take 8, .take 9, .take 10, .take 11, .take 12, .eff 13, .take 14, .take 15, .take 16]) (.cond (.seq .leaf (.seq .leaf .leaf)) .leaf)) [1, 15, 81, 82, 83, 84, 85, 86, 87, 88, 89, 90, 91, 92, 93, 94, 95, 96, 97, 98, 99, 100, 101, 102, 103, 104] [(1, (.int .i64))] (.seq .leaf (.seq .leaf (.seq .leaf (.seq .leaf (.seq .leaf (.cond (.seq .leaf (.seq .leaf .leaf)) (.seq .leaf (.seq .leaf .leaf))))))))))))))))) [1, 2, 3, 10, 11, 12, 13, 14, 15, 16, 17, 18, 19, 20, 21, 22, 23, 24, 25, 26, 27, 28, 29, 30, 31, 32, 33, 34, 35, 36, 37, 38, 39, 40, 41, 42, 43, 44, 45, 46, 47, 48, 49, 50, 51, 52, 53, 54, 55, 56, 57, 58, 59, 60, 61, 62, 63, 64, 65, 66, 67, 68, 69, 70, 71, 72, 73, 74, 75, 76, 77, 78, 79, 80, 81, 82, 83, 84, 85, 86, 87, 88, 89, 90, 91, 92, 93, 94, 95, 96, 97, 98, 99, 100, 101, 102, 103, 104, 105, 106, 107, 108, 109, 110, 111, 112, 113, 114, 115, 116, 117, 118, 119, 120, 121, 122, 123, 124, 125, 126, 127, 128, 129, 130, 131, 132, 133, 134, 135, 136, 137, 138, 139, 140, 141, 142, 143, 144, 145, 146, 147] [(1, (.int .i64)), (2, (.int .i64)), (3, (.int .i64)), (10, .bool), (11, .bool)]))))

set_option maxRecDepth 100000 in
theorem slices_pdqsortCmpFunc_api_Want_ok (x0 : Option Addr) (x0l x0c : Nat) (x1 : Int) (x2 : Int) (x3 : Int) (x4 : Value) (R : Ending → World → Prop) (w : World) (h : slices_pdqsortCmpFunc_api_Want x0 x0l x0c x1 x2 x3 x4 R w) : Cs Try.prog 105 (#[(.slice x0 x0l x0c), (.int .i64 x1), (.int .i64 x2), (.int .i64 x3), x4] : Array Value) w R :=
  fn_sound (ty := []) (ann := slices_pdqsortCmpFunc_api_Want_an) (N := 148) (by kernel_rfl) (by kernel_rfl) Try.func105 rfl (by kernel_rfl) (by show 5 ≤ 148; decide) (by kernel_rfl)
    (Eq.mpr (show cdA Try.prog [] slices_pdqsortCmpFunc_api_Want_an _ _ _ w = slices_pdqsortCmpFunc_api_Want x0 x0l x0c x1 x2 x3 x4 R w by kernel_rfl) h)

/- "slices.insertionSortCmpFunc[girandole/api.Want]" (133) -/
set_option maxRecDepth 100000 in
def slices_insertionSortCmpFunc_api_Want (x0 : Option Addr) (x0l _x0c : Nat) (x1 : Int) (x2 : Int) (x3 : Value) (R : Ending → World → Prop) (w : World) : Prop :=
  (lp (σ := Int) (fun _ k0 n1 w2 =>
 (br (decide (n1 < x2))
   (lp (σ := Int) (fun _ k3 n4 w5 =>
  (dr w5 (fun w6 =>
   (br (decide (n4 > x1))
     (ixa x0 x0l n4 3 (fun a7 =>
    (∃ (n8 : Int) (n9 : Int) (n10 : Int), ((cellsAt w6 a7 [(.int .u32 n8), (.int .i64 n9), (.int .i64 n10)]) ∧
     (ixa x0 x0l (IntKind.wrap .i64 (n4 - (1 : Int))) 3 (fun a11 =>
     (∃ (n12 : Int) (n13 : Int) (n14 : Int), ((cellsAt w6 a11 [(.int .u32 n12), (.int .i64 n13), (.int .i64 n14)]) ∧
      (clv Try.prog x3 [(.agg #[(.int .u32 n8), (.int .i64 n9), (.int .i64 n10)]), (.agg #[(.int .u32 n12), (.int .i64 n13), (.int .i64 n14)])] w6 (fun v15 w16 =>
      (∃ (n17 : Int), ((v15 = (.int .i64 n17)) ∧
       (br (decide (n17 < (0 : Int)))
        (dr w16 (fun w18 =>
       (ixa x0 x0l (IntKind.wrap .i64 (n4 - (1 : Int))) 3 (fun a19 =>
        (∃ (n20 : Int) (n21 : Int) (n22 : Int), ((cellsAt w18 a19 [(.int .u32 n20), (.int .i64 n21), (.int .i64 n22)]) ∧
         (ixa x0 x0l n4 3 (fun a23 =>
         (∃ (n24 : Int) (n25 : Int) (n26 : Int), ((cellsAt w18 a23 [(.int .u32 n24), (.int .i64 n25), (.int .i64 n26)]) ∧
          (ixa x0 x0l n4 3 (fun a27 =>
          (stN a27 [(.int .u32 n20), (.int .i64 n21), (.int .i64 n22)] w18 (fun w28 =>
           (ixa x0 x0l (IntKind.wrap .i64 (n4 - (1 : Int))) 3 (fun a29 =>
            (stN a29 [(.int .u32 n24), (.int .i64 n25), (.int .i64 n26)] w28 (fun w30 => (k3 (IntKind.wrap .i64 (n4 - (1 : Int))) w30))))))))))))))))))) (k0 (IntKind.wrap .i64 (n1 + (1 : Int))) w16))))) (fun _ _ => False)))))))))) (k0 (IntKind.wrap .i64 (n1 + (1 : Int))) w6))))) n1 w2) (R (.returned (.tuple #[])) w2))) (IntKind.wrap .i64 (x1 + (1 : Int))) w)

def slices_insertionSortCmpFunc_api_Want_an : Ann := (.seq .leaf (.block (.loop (.seq (.seq .leaf (.cond .leaf .leaf)) (.seq (.block (.seq .leaf (.block (.loop (.seq (.seq (.plan [.take 0, .take 1, .take 2, .take 3, .take 4, .take 5, .take 6, .take 7, .take 8, .take 9, .take 10, .take 11, .take 12, .take 13, .eff 14, .take 15, .take 16]) (.cond .leaf .leaf)) (.seq (.block (.plan [.take 0, .take 1, .take 2, .take 3, .take 4, .take 5, .take 6, .take 7, .take 8, .take 9, .take 10, .take 11, .take 12, .take 13, .take 14, .eff 15, .take 16, .eff 17])) .leaf)) [9, 18, 19, 20, 21, 22, 23, 24, 25, 26, 27, 28, 29, 30, 31, 32, 33, 34, 35, 36, 37, 38, 39, 40, 41, 42, 43, 44, 45, 46, 47, 48, 49, 50, 51, 52] [(9, (.int .i64))])))) .leaf)) [8, 9, 12, 13, 14, 15, 16, 17, 18, 19, 20, 21, 22, 23, 24, 25, 26, 27, 28, 29, 30, 31, 32, 33, 34, 35, 36, 37, 38, 39, 40, 41, 42, 43, 44, 45, 46, 47, 48, 49, 50, 51, 52] [(8, (.int .i64))])))

set_option maxRecDepth 100000 in
theorem slices_insertionSortCmpFunc_api_Want_ok (x0 : Option Addr) (x0l x0c : Nat) (x1 : Int) (x2 : Int) (x3 : Value) (R : Ending → World → Prop) (w : World) (h : slices_insertionSortCmpFunc_api_Want x0 x0l x0c x1 x2 x3 R w) : Cs Try.prog 133 (#[(.slice x0 x0l x0c), (.int .i64 x1), (.int .i64 x2), x3] : Array Value) w R :=
  fn_sound (ty := []) (ann := slices_insertionSortCmpFunc_api_Want_an) (N := 53) (by kernel_rfl) (by kernel_rfl) Try.func133 rfl (by kernel_rfl) (by show 4 ≤ 53; decide) (by kernel_rfl)
    (Eq.mpr (show cdA Try.prog [] slices_insertionSortCmpFunc_api_Want_an _ _ _ w = slices_insertionSortCmpFunc_api_Want x0 x0l x0c x1 x2 x3 R w by kernel_rfl) h)

end Go.SR
