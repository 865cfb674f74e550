/- PRINTED by a program of the prover's (wip/sr/Gen.lean): residuals of Go functions. -/
import Derived.Test.YtmmcihbcceahkaaA6
import Derived.Test.YtmmcihbcceahkaaProg
namespace Go.SR
open Go Go.Proofs

/- "girandole/girandoleref1.NewBasis" (33) -/
set_option maxRecDepth 100000 in
def gref1_NewBasis (x0 : Int) (x1 : Int) (R : Ending → World → Prop) (w : World) : Prop :=
  (br (decide (x0 < (1 : Int)))
  (R (.returned (.tuple #[(.pointer none), (.bool Bool.false)])) w)
  (br (decide (x0 > (32 : Int)))
  (R (.returned (.tuple #[(.pointer none), (.bool Bool.false)])) w)
  (br (decide (x1 < (1 : Int)))
  (R (.returned (.tuple #[(.pointer none), (.bool Bool.false)])) w)
  (br (decide (x1 > (64 : Int)))
  (R (.returned (.tuple #[(.pointer none), (.bool Bool.false)])) w)
  (al #[(.int .i64 x0), (.int .i64 x1), (.slice none 0 0), (.slice none 0 0)] 78 w (fun m0 w1 => (R (.returned (.tuple #[(.pointer (some ⟨m0, 0, none⟩)), (.bool Bool.true)])) w1)))))))

def gref1_NewBasis_an : Ann := (.seq .leaf (.seq (.seq .leaf (.cond (.seq .leaf .leaf) .leaf)) (.seq .leaf .leaf)))

set_option maxRecDepth 100000 in
theorem gref1_NewBasis_ok (x0 : Int) (x1 : Int) (R : Ending → World → Prop) (w : World) (h : gref1_NewBasis x0 x1 R w) : Cs Try.prog 33 (#[(.int .i64 x0), (.int .i64 x1)] : Array Value) w R :=
  fn_sound (ty := []) (ann := gref1_NewBasis_an) (N := 24) (by kernel_rfl) (by kernel_rfl) Try.func33 rfl (by kernel_rfl) (by show 2 ≤ 24; decide) (by kernel_rfl)
    (Eq.mpr (show cdA Try.prog [] gref1_NewBasis_an _ _ _ w = gref1_NewBasis x0 x1 R w by kernel_rfl) h)

/- "girandole/girandoleref1.Symbol" (34) -/
set_option maxRecDepth 100000 in
def gref1_Symbol (x0 : Int) (x1 : Option Addr) (x1l x1c : Nat) (x2 : Int) (x3 : Int) (R : Ending → World → Prop) (w : World) : Prop :=
  (cl Try.prog 65 #[(.slice x1 x1l x1c), (.int .i64 x2)] w (fun v0 w1 =>
 (∃ (p2 : (Option Addr)) (m3 : Nat) (m4 : Nat) (b5 : Bool), ((v0 = (.tuple #[(.slice p2 m3 m4), (.bool b5)])) ∧
  (br (!b5)
   (R (.returned (.tuple #[(.slice none 0 0), (.bool Bool.false)])) w1)
   (cl Try.prog 35 #[(.int .u32 x0), (.int .i64 x3), (.int .i64 (m3 : Int))] w1 (fun v6 w7 =>
  (∃ (p8 : (Option Addr)) (m9 : Nat) (m10 : Nat) (b11 : Bool), ((v6 = (.tuple #[(.slice p8 m9 m10), (.bool b11)])) ∧
   (br (!b11)
    (R (.returned (.tuple #[(.slice none 0 0), (.bool Bool.false)])) w7)
    (rnV Try.prog (Instr.makeSlice 22 (.int .i64 x2) (.int .i64 x2)) w7 (fun v12 w13 =>
   (∃ (p14 : (Option Addr)) (m15 : Nat) (m16 : Nat), ((v12 = (.slice p14 m15 m16)) ∧
    (lp (σ := (((Option Addr) × (Nat × Nat)) × Int)) (fun _ k17 s18 w19 =>
    (br (decide (s18.2 < (m3 : Int)))
      (dr w19 (fun w20 =>
     (ixa p2 m3 s18.2 1 (fun a21 =>
      (∃ (p22 : (Option Addr)) (m23 : Nat) (m24 : Nat), (((World.cell? w20 a21) = (some (.slice p22 m23 m24))) ∧
       (ixa p8 m9 s18.2 1 (fun a25 =>
       (∃ (n26 : Int), (((World.cell? w20 a25) = (some (.int .u8 n26))) ∧
        (cl Try.prog 66 #[(.slice s18.1.1 s18.1.2.1 s18.1.2.2), (.slice p22 m23 m24), (.int .u8 n26)] w20 (fun v27 w28 =>
        (∃ (p29 : (Option Addr)) (m30 : Nat) (m31 : Nat), ((v27 = (.slice p29 m30 m31)) ∧ (k17 ((p29, (m30, m31)), (IntKind.wrap .i64 (s18.2 + (1 : Int)))) w28)))) (fun _ _ => False))))))))))))
      (R (.returned (.tuple #[(.slice s18.1.1 s18.1.2.1 s18.1.2.2), (.bool Bool.true)])) w19))) ((p14, (m15, m16)), (0 : Int)) w13))))))))) (fun x32 w33 => (R (.panicked x32) w33))))))) (fun x34 w35 => (R (.panicked x34) w35)))

def gref1_Symbol_an : Ann := (.seq .leaf (.seq .leaf (.seq (.seq .leaf (.cond (.seq .leaf .leaf) .leaf)) (.seq .leaf (.seq (.seq .leaf (.cond (.seq .leaf .leaf) .leaf)) (.seq .leaf (.seq (.seq .leaf (.block (.loop (.seq (.seq .leaf (.cond .leaf .leaf)) (.seq (.block (.plan [.take 0, .take 1, .take 2, .take 3, .take 4, .take 5, .take 6, .take 7, .take 8, .eff 9, .take 10])) .leaf)) [14, 15, 36, 37, 38, 39, 40, 41, 42, 43, 44, 45, 46, 47, 48, 49, 50, 51] [(14, .slice), (15, (.int .i64))]))) (.seq .leaf .leaf))))))))

set_option maxRecDepth 100000 in
theorem gref1_Symbol_ok (x0 : Int) (x1 : Option Addr) (x1l x1c : Nat) (x2 : Int) (x3 : Int) (R : Ending → World → Prop) (w : World) (h : gref1_Symbol x0 x1 x1l x1c x2 x3 R w) : Cs Try.prog 34 (#[(.int .u32 x0), (.slice x1 x1l x1c), (.int .i64 x2), (.int .i64 x3)] : Array Value) w R :=
  fn_sound (ty := []) (ann := gref1_Symbol_an) (N := 53) (by kernel_rfl) (by kernel_rfl) Try.func34 rfl (by kernel_rfl) (by show 4 ≤ 53; decide) (by kernel_rfl)
    (Eq.mpr (show cdA Try.prog [] gref1_Symbol_an _ _ _ w = gref1_Symbol x0 x1 x1l x1c x2 x3 R w by kernel_rfl) h)

/- "girandole/girandoleref1.Row" (35) -/
set_option maxRecDepth 100000 in
def gref1_Row (x0 : Int) (x1 : Int) (x2 : Int) (R : Ending → World → Prop) (w : World) : Prop :=
  (jn (σ := PUnit) (fun _ _ w0 =>
 (rnV Try.prog (Instr.makeSlice 22 (.int .i64 x2) (.int .i64 x2)) w0 (fun v1 w2 =>
  (∃ (p3 : (Option Addr)) (m4 : Nat) (m5 : Nat), ((v1 = (.slice p3 m4 m5)) ∧
   (br (decide (x1 < x2))
    (ixa p3 m4 x1 1 (fun a6 =>
   (st1 a6 (.int .u8 (1 : Int)) w2 (fun w7 => (R (.returned (.tuple #[(.slice p3 m4 m5), (.bool Bool.true)])) w7)))))
    (((4294967296 : Int) ≠ (0 : Int)) ∧
   (jn (σ := Int) (fun _ n8 w9 =>
   (lp (σ := (Int × (Bool × Int))) (fun _ k10 s11 w12 =>
    (br (decide (s11.2.2 < x2))
      (((4294967296 : Int) ≠ (0 : Int)) ∧
     (((131072 : Int) ≠ (0 : Int)) ∧
     (((4294967296 : Int) ≠ (0 : Int)) ∧
     (((2048 : Int) ≠ (0 : Int)) ∧
     (((256 : Int) ≠ (0 : Int)) ∧
     (ixa p3 m4 s11.2.2 1 (fun a13 =>
     (st1 a13 (.int .u8 (IntKind.wrap .u8 (Int.tmod (IntKind.wrap .u64 (Int.tdiv (IntKind.wrap .u64 ((BitVec.toNat ((BitVec.ofInt 64 (IntKind.wrap .u64 ((BitVec.toNat ((BitVec.ofInt 64 (IntKind.wrap .u64 ((BitVec.toNat ((BitVec.ofInt 64 s11.1) ^^^ (BitVec.ofInt 64 (Int.tmod (IntKind.wrap .u64 (s11.1 * (8192 : Int))) (4294967296 : Int))))) : Int))) ^^^ (BitVec.ofInt 64 (IntKind.wrap .u64 (Int.tdiv (IntKind.wrap .u64 ((BitVec.toNat ((BitVec.ofInt 64 s11.1) ^^^ (BitVec.ofInt 64 (Int.tmod (IntKind.wrap .u64 (s11.1 * (8192 : Int))) (4294967296 : Int))))) : Int)) (131072 : Int)))))) : Int))) ^^^ (BitVec.ofInt 64 (Int.tmod (IntKind.wrap .u64 ((IntKind.wrap .u64 ((BitVec.toNat ((BitVec.ofInt 64 (IntKind.wrap .u64 ((BitVec.toNat ((BitVec.ofInt 64 s11.1) ^^^ (BitVec.ofInt 64 (Int.tmod (IntKind.wrap .u64 (s11.1 * (8192 : Int))) (4294967296 : Int))))) : Int))) ^^^ (BitVec.ofInt 64 (IntKind.wrap .u64 (Int.tdiv (IntKind.wrap .u64 ((BitVec.toNat ((BitVec.ofInt 64 s11.1) ^^^ (BitVec.ofInt 64 (Int.tmod (IntKind.wrap .u64 (s11.1 * (8192 : Int))) (4294967296 : Int))))) : Int)) (131072 : Int)))))) : Int)) * (32 : Int))) (4294967296 : Int))))) : Int)) (2048 : Int))) (256 : Int)))) w12 (fun w14 =>
      (br s11.2.1
        (ixa p3 m4 s11.2.2 1 (fun a15 =>
       (∃ (n16 : Int), (((World.cell? w14 a15) = (some (.int .u8 n16))) ∧
        (k10 ((IntKind.wrap .u64 ((BitVec.toNat ((BitVec.ofInt 64 (IntKind.wrap .u64 ((BitVec.toNat ((BitVec.ofInt 64 (IntKind.wrap .u64 ((BitVec.toNat ((BitVec.ofInt 64 s11.1) ^^^ (BitVec.ofInt 64 (Int.tmod (IntKind.wrap .u64 (s11.1 * (8192 : Int))) (4294967296 : Int))))) : Int))) ^^^ (BitVec.ofInt 64 (IntKind.wrap .u64 (Int.tdiv (IntKind.wrap .u64 ((BitVec.toNat ((BitVec.ofInt 64 s11.1) ^^^ (BitVec.ofInt 64 (Int.tmod (IntKind.wrap .u64 (s11.1 * (8192 : Int))) (4294967296 : Int))))) : Int)) (131072 : Int)))))) : Int))) ^^^ (BitVec.ofInt 64 (Int.tmod (IntKind.wrap .u64 ((IntKind.wrap .u64 ((BitVec.toNat ((BitVec.ofInt 64 (IntKind.wrap .u64 ((BitVec.toNat ((BitVec.ofInt 64 s11.1) ^^^ (BitVec.ofInt 64 (Int.tmod (IntKind.wrap .u64 (s11.1 * (8192 : Int))) (4294967296 : Int))))) : Int))) ^^^ (BitVec.ofInt 64 (IntKind.wrap .u64 (Int.tdiv (IntKind.wrap .u64 ((BitVec.toNat ((BitVec.ofInt 64 s11.1) ^^^ (BitVec.ofInt 64 (Int.tmod (IntKind.wrap .u64 (s11.1 * (8192 : Int))) (4294967296 : Int))))) : Int)) (131072 : Int)))))) : Int)) * (32 : Int))) (4294967296 : Int))))) : Int)), ((n16 == (0 : Int)), (IntKind.wrap .i64 (s11.2.2 + (1 : Int))))) w14)))))
        (k10 ((IntKind.wrap .u64 ((BitVec.toNat ((BitVec.ofInt 64 (IntKind.wrap .u64 ((BitVec.toNat ((BitVec.ofInt 64 (IntKind.wrap .u64 ((BitVec.toNat ((BitVec.ofInt 64 s11.1) ^^^ (BitVec.ofInt 64 (Int.tmod (IntKind.wrap .u64 (s11.1 * (8192 : Int))) (4294967296 : Int))))) : Int))) ^^^ (BitVec.ofInt 64 (IntKind.wrap .u64 (Int.tdiv (IntKind.wrap .u64 ((BitVec.toNat ((BitVec.ofInt 64 s11.1) ^^^ (BitVec.ofInt 64 (Int.tmod (IntKind.wrap .u64 (s11.1 * (8192 : Int))) (4294967296 : Int))))) : Int)) (131072 : Int)))))) : Int))) ^^^ (BitVec.ofInt 64 (Int.tmod (IntKind.wrap .u64 ((IntKind.wrap .u64 ((BitVec.toNat ((BitVec.ofInt 64 (IntKind.wrap .u64 ((BitVec.toNat ((BitVec.ofInt 64 s11.1) ^^^ (BitVec.ofInt 64 (Int.tmod (IntKind.wrap .u64 (s11.1 * (8192 : Int))) (4294967296 : Int))))) : Int))) ^^^ (BitVec.ofInt 64 (IntKind.wrap .u64 (Int.tdiv (IntKind.wrap .u64 ((BitVec.toNat ((BitVec.ofInt 64 s11.1) ^^^ (BitVec.ofInt 64 (Int.tmod (IntKind.wrap .u64 (s11.1 * (8192 : Int))) (4294967296 : Int))))) : Int)) (131072 : Int)))))) : Int)) * (32 : Int))) (4294967296 : Int))))) : Int)), (Bool.false, (IntKind.wrap .i64 (s11.2.2 + (1 : Int))))) w14)))))))))))
      (br s11.2.1
      (ixa p3 m4 (0 : Int) 1 (fun a17 =>
     (st1 a17 (.int .u8 (1 : Int)) w12 (fun w18 => (R (.returned (.tuple #[(.slice p3 m4 m5), (.bool Bool.true)])) w18)))))
      (R (.returned (.tuple #[(.slice p3 m4 m5), (.bool Bool.true)])) w12)))) (n8, (Bool.true, (0 : Int))) w9)) (fun k19 =>
   (br
     ((Int.tmod (IntKind.wrap .u64 ((IntKind.wrap .u64 ((IntKind.wrap .u64 ((IntKind.wrap .u64 x0) * (2654435761 : Int))) + (IntKind.wrap .u64 ((IntKind.wrap .u64 x1) * (40503 : Int))))) + (1 : Int))) (4294967296 : Int)) == (0 : Int)) (k19 (1 : Int) w2)
     (k19 (Int.tmod (IntKind.wrap .u64 ((IntKind.wrap .u64 ((IntKind.wrap .u64 ((IntKind.wrap .u64 x0) * (2654435761 : Int))) + (IntKind.wrap .u64 ((IntKind.wrap .u64 x1) * (40503 : Int))))) + (1 : Int))) (4294967296 : Int)) w2))))))))))) (fun k20 =>
 (br (decide (x2 < (1 : Int)))
   (R (.returned (.tuple #[(.slice none 0 0), (.bool Bool.false)])) w)
   (br (decide (x2 > (32 : Int)))
   (R (.returned (.tuple #[(.slice none 0 0), (.bool Bool.false)])) w)
   (br (decide (x1 < (0 : Int)))
   (R (.returned (.tuple #[(.slice none 0 0), (.bool Bool.false)])) w)
   (br (decide (x1 ≥ (IntKind.wrap .i64 (x2 + (64 : Int)))))
   (R (.returned (.tuple #[(.slice none 0 0), (.bool Bool.false)])) w) (k20 () w)))))))

def gref1_Row_an : Ann := (.seq .leaf (.join (.seq .leaf (.cond (.seq .leaf .leaf) .leaf)) [6, 7, 12, 13, 14, 15, 16, 17, 18, 19, 20, 21, 22, 23, 24, 25, 26, 27] [] (.seq .leaf (.seq (.seq .leaf (.cond (.seq .leaf (.seq .leaf .leaf)) .leaf)) (.seq .leaf (.seq .leaf (.join (.seq .leaf (.cond .leaf .leaf)) [9, 47, 48] [(9, (.int .u64))] (.seq .leaf (.seq (.seq .leaf (.block (.loop (.seq (.seq .leaf (.cond .leaf .leaf)) (.seq (.block (.seq .leaf (.seq .leaf (.seq .leaf (.seq .leaf .leaf))))) .leaf)) [9, 10, 11, 49, 50, 51, 52, 53, 54, 55, 56, 57, 58, 59, 60, 61, 62, 63, 64, 65, 66, 67, 68, 69, 70, 71, 72, 73, 74, 75, 76, 77, 78, 79, 80, 81, 82] [(9, (.int .u64)), (10, .bool), (11, (.int .i64))]))) (.seq (.seq .leaf (.cond .leaf .leaf)) (.seq .leaf .leaf)))))))))))

set_option maxRecDepth 100000 in
theorem gref1_Row_ok (x0 : Int) (x1 : Int) (x2 : Int) (R : Ending → World → Prop) (w : World) (h : gref1_Row x0 x1 x2 R w) : Cs Try.prog 35 (#[(.int .u32 x0), (.int .i64 x1), (.int .i64 x2)] : Array Value) w R :=
  fn_sound (ty := []) (ann := gref1_Row_an) (N := 87) (by kernel_rfl) (by kernel_rfl) Try.func35 rfl (by kernel_rfl) (by show 3 ≤ 87; decide) (by kernel_rfl)
    (Eq.mpr (show cdA Try.prog [] gref1_Row_an _ _ _ w = gref1_Row x0 x1 x2 R w by kernel_rfl) h)

/- "(*girandole/girandoleref1.Basis).Add" (36) -/
set_option maxRecDepth 100000 in
def gref1_Basis_Add (x0 : Option Addr) (x1 : Option Addr) (x1l x1c : Nat) (x2 : Option Addr) (x2l x2c : Nat) (R : Ending → World → Prop) (w : World) : Prop :=
  (jn (σ := PUnit) (fun _ _ w0 =>
 (al (List.toArray (repL 0 [(.slice none 0 0)])) 22 w0 (fun m1 w2 =>
  (nc x0 (fun a3 =>
   (∃ (p4 : (Option Addr)) (m5 : Nat) (m6 : Nat), (((World.cell? w2 (Addr.add a3 2)) = (some (.slice p4 m5 m6))) ∧
    (rnV Try.prog (Builtin.append_ #[76, 76] 76 #[(.slice (some ⟨m1, 0, none⟩) 0 0), (.slice p4 m5 m6)]) w2 (fun v7 w8 =>
    (∃ (p9 : (Option Addr)) (m10 : Nat) (m11 : Nat), ((v7 = (.slice p9 m10 m11)) ∧
     (al (List.toArray (repL 0 [(.int .u8 (0 : Int))])) 5 w8 (fun m12 w13 =>
     (rnV Try.prog (Builtin.append_ #[22, 22] 22 #[(.slice (some ⟨m12, 0, none⟩) 0 0), (.slice x1 x1l x1c)]) w13 (fun v14 w15 =>
      (∃ (p16 : (Option Addr)) (m17 : Nat) (m18 : Nat), ((v14 = (.slice p16 m17 m18)) ∧
       (al #[(.slice p16 m17 m18)] 22 w15 (fun m19 w20 =>
       (rnV Try.prog (Builtin.append_ #[76, 76] 76 #[(.slice p9 m10 m11), (.slice (some ⟨m19, 0, none⟩) 1 1)]) w20 (fun v21 w22 =>
        (∃ (p23 : (Option Addr)) (m24 : Nat) (m25 : Nat), ((v21 = (.slice p23 m24 m25)) ∧
         (al (List.toArray (repL 0 [(.slice none 0 0)])) 22 w22 (fun m26 w27 =>
         (nc x0 (fun a28 =>
          (∃ (p29 : (Option Addr)) (m30 : Nat) (m31 : Nat), (((World.cell? w27 (Addr.add a28 3)) = (some (.slice p29 m30 m31))) ∧
           (rnV Try.prog (Builtin.append_ #[76, 76] 76 #[(.slice (some ⟨m26, 0, none⟩) 0 0), (.slice p29 m30 m31)]) w27 (fun v32 w33 =>
           (∃ (p34 : (Option Addr)) (m35 : Nat) (m36 : Nat), ((v32 = (.slice p34 m35 m36)) ∧
            (al (List.toArray (repL 0 [(.int .u8 (0 : Int))])) 5 w33 (fun m37 w38 =>
            (rnV Try.prog (Builtin.append_ #[22, 22] 22 #[(.slice (some ⟨m37, 0, none⟩) 0 0), (.slice x2 x2l x2c)]) w38 (fun v39 w40 =>
             (∃ (p41 : (Option Addr)) (m42 : Nat) (m43 : Nat), ((v39 = (.slice p41 m42 m43)) ∧
              (al #[(.slice p41 m42 m43)] 22 w40 (fun m44 w45 =>
              (rnV Try.prog (Builtin.append_ #[76, 76] 76 #[(.slice p34 m35 m36), (.slice (some ⟨m44, 0, none⟩) 1 1)]) w45 (fun v46 w47 =>
               (∃ (p48 : (Option Addr)) (m49 : Nat) (m50 : Nat), ((v46 = (.slice p48 m49 m50)) ∧
                (nc x0 (fun a51 =>
                (∃ (n52 : Int), (((World.cell? w47 a51) = (some (.int .i64 n52))) ∧
                 (cl Try.prog 67 #[(.int .i64 n52), (.slice p23 m24 m25), (.slice p48 m49 m50)] w47 (fun v53 w54 =>
                 (∃ (p55 : (Option Addr)) (m56 : Nat) (m57 : Nat) (p58 : (Option Addr)) (m59 : Nat) (m60 : Nat) (n61 : Int), ((v53 = (.tuple #[(.slice p55 m56 m57), (.slice p58 m59 m60), (.int .i64 n61)])) ∧
                  (nc x0 (fun a62 =>
                  (∃ (p63 : (Option Addr)) (m64 : Nat) (m65 : Nat), (((World.cell? w54 (Addr.add a62 2)) = (some (.slice p63 m64 m65))) ∧
                   (br (decide (n61 ≤ (m64 : Int))) (R (.returned (.bool Bool.false)) w54)
                    (nc x0 (fun a66 =>
                   (st1 (Addr.add a66 2) (.slice p23 m24 m25) w54 (fun w67 =>
                    (nc x0 (fun a68 =>
                     (st1 (Addr.add a68 3) (.slice p48 m49 m50) w67 (fun w69 => (R (.returned (.bool Bool.true)) w69))))))))))))))))) (fun x70 w71 => (R (.panicked x70) w71)))))))))))))))))))))))))))))))))))))))))))))))))))) (fun k72 =>
 (nc x0 (fun a73 =>
  (∃ (n74 : Int), (((World.cell? w a73) = (some (.int .i64 n74))) ∧
   (br ((x1l : Int) != n74) (R (.returned (.bool Bool.false)) w)
    (nc x0 (fun a75 =>
   (∃ (n76 : Int), (((World.cell? w (Addr.add a75 1)) = (some (.int .i64 n76))) ∧
    (br ((x2l : Int) != n76) (R (.returned (.bool Bool.false)) w) (k72 () w)))))))))))))

def gref1_Basis_Add_an : Ann := (.seq .leaf (.join (.seq .leaf (.cond (.seq .leaf .leaf) .leaf)) [6, 12, 13, 14, 15, 16, 17, 18, 19, 20, 21, 22, 23, 24, 25, 26, 27] [] (.seq .leaf (.seq .leaf (.seq .leaf (.seq (.seq .leaf (.cond (.seq .leaf .leaf) .leaf)) (.seq .leaf (.seq .leaf .leaf))))))))

set_option maxRecDepth 100000 in
theorem gref1_Basis_Add_ok (x0 : Option Addr) (x1 : Option Addr) (x1l x1c : Nat) (x2 : Option Addr) (x2l x2c : Nat) (R : Ending → World → Prop) (w : World) (h : gref1_Basis_Add x0 x1 x1l x1c x2 x2l x2c R w) : Cs Try.prog 36 (#[(.pointer x0), (.slice x1 x1l x1c), (.slice x2 x2l x2c)] : Array Value) w R :=
  fn_sound (ty := []) (ann := gref1_Basis_Add_an) (N := 76) (by kernel_rfl) (by kernel_rfl) Try.func36 rfl (by kernel_rfl) (by show 3 ≤ 76; decide) (by kernel_rfl)
    (Eq.mpr (show cdA Try.prog [] gref1_Basis_Add_an _ _ _ w = gref1_Basis_Add x0 x1 x1l x1c x2 x2l x2c R w by kernel_rfl) h)

/- "girandole/girandoleref1.Axpy" (66) -/
set_option maxRecDepth 100000 in
def gref1_Axpy (x0 : Option Addr) (x0l _x0c : Nat) (x1 : Option Addr) (x1l _x1c : Nat) (x2 : Int) (R : Ending → World → Prop) (w : World) : Prop :=
  (lp (σ := (((Option Addr) × (Nat × Nat)) × Int)) (fun _ k0 s1 w2 =>
 (jn (σ := PUnit) (fun _ _ w3 =>
  (dr w3 (fun w4 =>
   (ixa x0 x0l s1.2 1 (fun a5 =>
    (∃ (n6 : Int), (((World.cell? w4 a5) = (some (.int .u8 n6))) ∧
     (ixa x1 x1l s1.2 1 (fun a7 =>
     (∃ (n8 : Int), (((World.cell? w4 a7) = (some (.int .u8 n8))) ∧
      (cl Try.prog 89 #[(.int .u8 x2), (.int .u8 n8)] w4 (fun v9 w10 =>
      (∃ (n11 : Int), ((v9 = (.int .u8 n11)) ∧
       ((hold [(.cell a5 (.int .u8 n6))] w10) ∧
       (al #[(.int .u8 (IntKind.wrap .u8 ((BitVec.toNat ((BitVec.ofInt 8 n6) ^^^ (BitVec.ofInt 8 n11))) : Int)))] 5 w10 (fun m12 w13 =>
       ((hold [(.cell a5 (.int .u8 n6))] w13) ∧
        (rnV Try.prog (Builtin.append_ #[22, 22] 22 #[(.slice s1.1.1 s1.1.2.1 s1.1.2.2), (.slice (some ⟨m12, 0, none⟩) 1 1)]) w13 (fun v14 w15 =>
        (∃ (p16 : (Option Addr)) (m17 : Nat) (m18 : Nat), ((v14 = (.slice p16 m17 m18)) ∧
         ((hold [(.cell a5 (.int .u8 n6))] w15) ∧ (k0 ((p16, (m17, m18)), (IntKind.wrap .i64 (s1.2 + (1 : Int)))) w15))))))))))))) (fun _ _ => False))))))))))))) (fun k19 =>
  (br (decide (s1.2 < (x0l : Int)))
    (br (decide (s1.2 < (x1l : Int))) (k19 () w2) (R (.returned (.slice s1.1.1 s1.1.2.1 s1.1.2.2)) w2)) (R (.returned (.slice s1.1.1 s1.1.2.1 s1.1.2.2)) w2))))) ((none, (0, 0)), (0 : Int)) w)

def gref1_Axpy_an : Ann := (.seq .leaf (.seq .leaf (.seq (.seq .leaf (.block (.loop (.join (.seq .leaf (.cond .leaf .leaf)) [9, 10, 11, 12, 13, 14, 15, 16, 17, 18] [] (.seq (.block (.plan [.take 0, .take 1, .take 2, .take 3, .take 4, .take 5, .take 6, .take 7, .take 8, .take 9, .eff 10, .take 11, .eff 12, .eff 13, .take 14])) .leaf)) [7, 8, 9, 10, 11, 12, 13, 14, 15, 16, 17, 18, 19, 20, 21, 22, 23, 24, 25, 26, 27, 28, 29, 30, 31, 32, 33, 34] [(7, .slice), (8, (.int .i64))]))) (.seq .leaf .leaf))))

set_option maxRecDepth 100000 in
theorem gref1_Axpy_ok (x0 : Option Addr) (x0l x0c : Nat) (x1 : Option Addr) (x1l x1c : Nat) (x2 : Int) (R : Ending → World → Prop) (w : World) (h : gref1_Axpy x0 x0l x0c x1 x1l x1c x2 R w) : Cs Try.prog 66 (#[(.slice x0 x0l x0c), (.slice x1 x1l x1c), (.int .u8 x2)] : Array Value) w R :=
  fn_sound (ty := []) (ann := gref1_Axpy_an) (N := 36) (by kernel_rfl) (by kernel_rfl) Try.func66 rfl (by kernel_rfl) (by show 3 ≤ 36; decide) (by kernel_rfl)
    (Eq.mpr (show cdA Try.prog [] gref1_Axpy_an _ _ _ w = gref1_Axpy x0 x0l x0c x1 x1l x1c x2 R w by kernel_rfl) h)

/- "girandole/girandoleref1.Count" (88) -/
set_option maxRecDepth 100000 in
def gref1_Count (x0 : Int) (x1 : Int) (R : Ending → World → Prop) (w : World) : Prop :=
  (br (decide (x1 < (1 : Int)))
  (R (.returned (.tuple #[(.int .i64 (0 : Int)), (.bool Bool.false)])) w)
  (br (decide (x1 > (64 : Int)))
  (R (.returned (.tuple #[(.int .i64 (0 : Int)), (.bool Bool.false)])) w)
  (br (decide (x0 < (1 : Int)))
  (R (.returned (.tuple #[(.int .i64 (0 : Int)), (.bool Bool.false)])) w)
  (br (decide (x0 > (IntKind.wrap .i64 ((32 : Int) * x1))))
  (R (.returned (.tuple #[(.int .i64 (0 : Int)), (.bool Bool.false)])) w)
  ((x1 ≠ (0 : Int)) ∧
 (R (.returned (.tuple #[(.int .i64 (IntKind.wrap .i64 (Int.tdiv (IntKind.wrap .i64 ((IntKind.wrap .i64 (x0 + x1)) - (1 : Int))) x1))), (.bool Bool.true)])) w))))))

def gref1_Count_an : Ann := (.seq .leaf (.seq (.seq .leaf (.cond (.seq .leaf .leaf) .leaf)) (.seq .leaf .leaf)))

set_option maxRecDepth 100000 in
theorem gref1_Count_ok (x0 : Int) (x1 : Int) (R : Ending → World → Prop) (w : World) (h : gref1_Count x0 x1 R w) : Cs Try.prog 88 (#[(.int .i64 x0), (.int .i64 x1)] : Array Value) w R :=
  fn_sound (ty := []) (ann := gref1_Count_an) (N := 28) (by kernel_rfl) (by kernel_rfl) Try.func88 rfl (by kernel_rfl) (by show 2 ≤ 28; decide) (by kernel_rfl)
    (Eq.mpr (show cdA Try.prog [] gref1_Count_an _ _ _ w = gref1_Count x0 x1 R w by kernel_rfl) h)

/- "girandole/girandoleref1.Mul" (89) -/
set_option maxRecDepth 100000 in
def gref1_Mul (x0 : Int) (x1 : Int) (R : Ending → World → Prop) (w : World) : Prop :=
  (lp (σ := (Int × (Int × Int))) (fun _ k0 s1 w2 =>
 (br (decide (s1.2.1 > (0 : Int)))
   (((2 : Int) ≠ (0 : Int)) ∧
  (br ((Int.tmod s1.2.1 (2 : Int)) == (1 : Int))
   (br
   (decide ((IntKind.wrap .i64 ((2 : Int) * s1.1)) ≥ (256 : Int)))
   (((2 : Int) ≠ (0 : Int)) ∧
  (k0 ((IntKind.wrap .i64 ((BitVec.toNat ((BitVec.ofInt 64 (IntKind.wrap .i64 ((2 : Int) * s1.1))) ^^^ (BitVec.ofInt 64 (285 : Int)))) : Int)), ((IntKind.wrap .i64 (Int.tdiv s1.2.1 (2 : Int))), (IntKind.wrap .i64 ((BitVec.toNat ((BitVec.ofInt 64 s1.2.2) ^^^ (BitVec.ofInt 64 s1.1))) : Int)))) w2))
   (((2 : Int) ≠ (0 : Int)) ∧
  (k0 ((IntKind.wrap .i64 ((2 : Int) * s1.1)), ((IntKind.wrap .i64 (Int.tdiv s1.2.1 (2 : Int))), (IntKind.wrap .i64 ((BitVec.toNat ((BitVec.ofInt 64 s1.2.2) ^^^ (BitVec.ofInt 64 s1.1))) : Int)))) w2)))
   (br
   (decide ((IntKind.wrap .i64 ((2 : Int) * s1.1)) ≥ (256 : Int)))
   (((2 : Int) ≠ (0 : Int)) ∧
  (k0 ((IntKind.wrap .i64 ((BitVec.toNat ((BitVec.ofInt 64 (IntKind.wrap .i64 ((2 : Int) * s1.1))) ^^^ (BitVec.ofInt 64 (285 : Int)))) : Int)), ((IntKind.wrap .i64 (Int.tdiv s1.2.1 (2 : Int))), s1.2.2)) w2))
   (((2 : Int) ≠ (0 : Int)) ∧
  (k0 ((IntKind.wrap .i64 ((2 : Int) * s1.1)), ((IntKind.wrap .i64 (Int.tdiv s1.2.1 (2 : Int))), s1.2.2)) w2))))) (R (.returned (.int .u8 (IntKind.wrap .u8 s1.2.2))) w2))) ((IntKind.wrap .i64 x0), ((IntKind.wrap .i64 x1), (0 : Int))) w)

def gref1_Mul_an : Ann := (.seq .leaf (.seq .leaf (.seq (.block (.loop (.seq (.seq .leaf (.cond .leaf .leaf)) (.block (.seq (.seq .leaf (.cond .leaf .leaf)) (.seq .leaf (.seq (.seq .leaf (.cond .leaf .leaf)) .leaf))))) [5, 6, 7, 12, 13, 14, 15, 16, 17, 18, 19, 20, 21, 22, 23, 24, 25, 26, 27] [(5, (.int .i64)), (6, (.int .i64)), (7, (.int .i64))])) (.seq .leaf .leaf))))

set_option maxRecDepth 100000 in
theorem gref1_Mul_ok (x0 : Int) (x1 : Int) (R : Ending → World → Prop) (w : World) (h : gref1_Mul x0 x1 R w) : Cs Try.prog 89 (#[(.int .u8 x0), (.int .u8 x1)] : Array Value) w R :=
  fn_sound (ty := []) (ann := gref1_Mul_an) (N := 30) (by kernel_rfl) (by kernel_rfl) Try.func89 rfl (by kernel_rfl) (by show 2 ≤ 30; decide) (by kernel_rfl)
    (Eq.mpr (show cdA Try.prog [] gref1_Mul_an _ _ _ w = gref1_Mul x0 x1 R w by kernel_rfl) h)

/- "girandole/girandoleref1.Inv" (90) -/
set_option maxRecDepth 100000 in
def gref1_Inv (x0 : Int) (R : Ending → World → Prop) (w : World) : Prop :=
  (lp (σ := Int) (fun _ k0 n1 w2 =>
 (br (decide (n1 < (256 : Int)))
   (cl Try.prog 89 #[(.int .u8 x0), (.int .u8 (IntKind.wrap .u8 n1))] w2 (fun v3 w4 =>
  (∃ (n5 : Int), ((v3 = (.int .u8 n5)) ∧
   (br (n5 == (1 : Int))
    (R (.returned (.tuple #[(.int .u8 (IntKind.wrap .u8 n1)), (.bool Bool.true)])) w4) (k0 (IntKind.wrap .i64 (n1 + (1 : Int))) w4))))) (fun x6 w7 => (R (.panicked x6) w7)))
   (R (.returned (.tuple #[(.int .u8 (0 : Int)), (.bool Bool.false)])) w2))) (1 : Int) w)

def gref1_Inv_an : Ann := (.seq .leaf (.seq (.seq .leaf (.block (.loop (.seq (.seq .leaf (.cond .leaf .leaf)) (.seq (.block (.seq .leaf (.cond (.seq .leaf .leaf) .leaf))) .leaf)) [2, 3, 4, 5, 6, 7, 8, 9, 10, 11, 12, 13, 14, 15] [(4, (.int .i64))]))) (.seq .leaf .leaf)))

set_option maxRecDepth 100000 in
theorem gref1_Inv_ok (x0 : Int) (R : Ending → World → Prop) (w : World) (h : gref1_Inv x0 R w) : Cs Try.prog 90 (#[(.int .u8 x0)] : Array Value) w R :=
  fn_sound (ty := []) (ann := gref1_Inv_an) (N := 16) (by kernel_rfl) (by kernel_rfl) Try.func90 rfl (by kernel_rfl) (by show 1 ≤ 16; decide) (by kernel_rfl)
    (Eq.mpr (show cdA Try.prog [] gref1_Inv_an _ _ _ w = gref1_Inv x0 R w by kernel_rfl) h)

/- "(*girandole/basis.Basis).Solve" (91) -/
set_option maxRecDepth 100000 in
def basis_Basis_Solve (x0 : Option Addr) (R : Ending → World → Prop) (w : World) : Prop :=
  (jn (σ := PUnit) (fun _ _ w0 =>
 (nc x0 (fun a1 =>
  (∃ (n2 : Int), (((World.cell? w0 (Addr.add a1 1)) = (some (.int .i64 n2))) ∧
   (lp (σ := (((Option Addr) × (Nat × Nat)) × Int)) (fun _ k3 s4 w5 =>
   (br (decide (s4.2 < n2))
     (dr w5 (fun w6 =>
    (nc x0 (fun a7 =>
     (∃ (p8 : (Option Nat)), (((World.cell? w6 (Addr.add a7 3)) = (some (.map p8))) ∧
      (mrd Try.prog (Instr.lookup 173 (.map p8) (.int .i64 s4.2) Bool.false) p8 w6 (fun v9 x10 =>
      (∃ (p11 : (Option Addr)) (m12 : Nat) (m13 : Nat), ((v9 = (.slice p11 m12 m13)) ∧
       (nc x0 (fun a14 =>
       (∃ (n15 : Int), (((World.cell? w6 (Addr.add a14 1)) = (some (.int .i64 n15))) ∧
        (pv Try.prog (Instr.sliceAt 179 (.slice p11 m12 m13) (some (.int .i64 n15)) none none) (fun v16 =>
        (∃ (p17 : (Option Addr)) (m18 : Nat) (m19 : Nat), ((v16 = (.slice p17 m18 m19)) ∧
         (cl Try.prog 106 #[(.slice p17 m18 m19)] w6 (fun v20 w21 =>
         (∃ (p22 : (Option Addr)) (m23 : Nat) (m24 : Nat), ((v20 = (.slice p22 m23 m24)) ∧
          ((hold [(.cell (Addr.add a14 1) (.int .i64 n15)), x10, (.cell (Addr.add a7 3) (.map p8))] w21) ∧
          (al #[(.slice p22 m23 m24)] 22 w21 (fun m25 w26 =>
          ((hold [(.cell (Addr.add a14 1) (.int .i64 n15)), x10, (.cell (Addr.add a7 3) (.map p8))] w26) ∧
           (rnV Try.prog (Builtin.append_ #[76, 76] 76 #[(.slice s4.1.1 s4.1.2.1 s4.1.2.2), (.slice (some ⟨m25, 0, none⟩) 1 1)]) w26 (fun v27 w28 =>
           (∃ (p29 : (Option Addr)) (m30 : Nat) (m31 : Nat), ((v27 = (.slice p29 m30 m31)) ∧
            ((hold [(.cell (Addr.add a14 1) (.int .i64 n15)), x10, (.cell (Addr.add a7 3) (.map p8))] w28) ∧
            (k3 ((p29, (m30, m31)), (IntKind.wrap .i64 (s4.2 + (1 : Int)))) w28))))))))))))) (fun _ _ => False))))))))))))))))))))
     (R (.returned (.tuple #[(.slice s4.1.1 s4.1.2.1 s4.1.2.2), (.bool Bool.true)])) w5))) ((none, (0, 0)), (0 : Int)) w0)))))) (fun k32 =>
 (dr w (fun w33 =>
  (br (Option.isNone x0)
    (R (.returned (.tuple #[(.slice none 0 0), (.bool Bool.false)])) w33)
    (nc x0 (fun a34 =>
   (∃ (n35 : Int), (((World.cell? w33 (Addr.add a34 1)) = (some (.int .i64 n35))) ∧
    (cl Try.prog 79 #[(.pointer x0)] w33 (fun v36 w37 =>
    (∃ (n38 : Int), ((v36 = (.int .i64 n38)) ∧
     ((hold [(.cell (Addr.add a34 1) (.int .i64 n35))] w37) ∧
     (br (decide (n38 < n35))
      (R (.returned (.tuple #[(.slice none 0 0), (.bool Bool.false)])) w37) (k32 () w37)))))) (fun _ _ => False)))))))))))

def basis_Basis_Solve_an : Ann := (.seq .leaf (.join (.seq (.plan [.take 0, .take 1, .take 2, .take 3, .take 5, .take 6, .take 7, .take 8, .eff 4, .take 9, .take 10]) (.cond (.seq .leaf .leaf) .leaf)) [2, 3, 6, 7, 8, 9, 10, 11, 12, 13, 14, 15, 16] [] (.seq .leaf (.seq (.seq .leaf (.block (.loop (.seq .leaf (.seq (.cond .leaf .leaf) (.seq (.block (.seq .leaf (.plan [.take 0, .take 1, .take 2, .take 3, .take 4, .take 5, .take 6, .take 7, .take 8, .take 9, .take 10, .take 11, .eff 12, .eff 13, .eff 14, .take 15]))) .leaf))) [4, 5, 21, 22, 23, 24, 25, 26, 27, 28, 29, 30, 31, 32, 33, 34, 35, 36, 37, 38, 39] [(4, .slice), (21, (.int .i64))]))) (.seq .leaf .leaf)))))

set_option maxRecDepth 100000 in
theorem basis_Basis_Solve_ok (x0 : Option Addr) (R : Ending → World → Prop) (w : World) (h : basis_Basis_Solve x0 R w) : Cs Try.prog 91 (#[(.pointer x0)] : Array Value) w R :=
  fn_sound (ty := []) (ann := basis_Basis_Solve_an) (N := 41) (by kernel_rfl) (by kernel_rfl) Try.func91 rfl (by kernel_rfl) (by show 1 ≤ 41; decide) (by kernel_rfl)
    (Eq.mpr (show cdA Try.prog [] basis_Basis_Solve_an _ _ _ w = basis_Basis_Solve x0 R w by kernel_rfl) h)

/- "girandole/dice.of" (98) -/
set_option maxRecDepth 100000 in
def dice_of (x0 : Int) (x1 : Int) (R : Ending → World → Prop) (w : World) : Prop :=
  (al #[(.int .u32 (if ((IntKind.wrap .u32 ((IntKind.wrap .u32 ((IntKind.wrap .u32 (x0 * (2654435761 : Int))) + (IntKind.wrap .u32 ((IntKind.wrap .u32 x1) * (40503 : Int))))) + (1 : Int))) < (1 : Int)) then (1 : Int) else (IntKind.wrap .u32 ((IntKind.wrap .u32 ((IntKind.wrap .u32 (x0 * (2654435761 : Int))) + (IntKind.wrap .u32 ((IntKind.wrap .u32 x1) * (40503 : Int))))) + (1 : Int)))))] 204 w (fun m0 w1 => (R (.returned (.pointer (some ⟨m0, 0, none⟩))) w1)))

def dice_of_an : Ann := (.seq .leaf (.seq .leaf .leaf))

set_option maxRecDepth 100000 in
theorem dice_of_ok (x0 : Int) (x1 : Int) (R : Ending → World → Prop) (w : World) (h : dice_of x0 x1 R w) : Cs Try.prog 98 (#[(.int .u32 x0), (.int .i64 x1)] : Array Value) w R :=
  fn_sound (ty := []) (ann := dice_of_an) (N := 15) (by kernel_rfl) (by kernel_rfl) Try.func98 rfl (by kernel_rfl) (by show 2 ≤ 15; decide) (by kernel_rfl)
    (Eq.mpr (show cdA Try.prog [] dice_of_an _ _ _ w = dice_of x0 x1 R w by kernel_rfl) h)

/- "(*girandole/dice.die).next" (99) -/
set_option maxRecDepth 100000 in
def dice_die_next (x0 : Option Addr) (R : Ending → World → Prop) (w : World) : Prop :=
  (dr w (fun w0 =>
 (nc x0 (fun a1 =>
  (∃ (n2 : Int), (((World.cell? w0 a1) = (some (.int .u32 n2))) ∧
   (nc x0 (fun a3 =>
   (∃ (n4 : Int), (((World.cell? w0 a3) = (some (.int .u32 n4))) ∧
    (((0 : Int) ≤ (13 : Int)) ∧
    (nc x0 (fun a5 =>
    (st1 a5 (.int .u32 (IntKind.wrap .u32 ((BitVec.toNat ((BitVec.ofInt 32 n2) ^^^ (BitVec.ofInt 32 (IntKind.wrap .u32 (n4 * ((2 : Int) ^ (Min.min (Int.toNat (13 : Int)) 32))))))) : Int))) w0 (fun w6 =>
     (dr w6 (fun w7 =>
      (nc x0 (fun a8 =>
       (∃ (n9 : Int), (((World.cell? w7 a8) = (some (.int .u32 n9))) ∧
        (nc x0 (fun a10 =>
        (∃ (n11 : Int), (((World.cell? w7 a10) = (some (.int .u32 n11))) ∧
         (((0 : Int) ≤ (17 : Int)) ∧
         (nc x0 (fun a12 =>
         (st1 a12 (.int .u32 (IntKind.wrap .u32 ((BitVec.toNat ((BitVec.ofInt 32 n9) ^^^ (BitVec.ofInt 32 (Int.fdiv n11 ((2 : Int) ^ (Min.min (Int.toNat (17 : Int)) 32)))))) : Int))) w7 (fun w13 =>
          (dr w13 (fun w14 =>
           (nc x0 (fun a15 =>
            (∃ (n16 : Int), (((World.cell? w14 a15) = (some (.int .u32 n16))) ∧
             (nc x0 (fun a17 =>
             (∃ (n18 : Int), (((World.cell? w14 a17) = (some (.int .u32 n18))) ∧
              (((0 : Int) ≤ (5 : Int)) ∧
              (nc x0 (fun a19 =>
              (st1 a19 (.int .u32 (IntKind.wrap .u32 ((BitVec.toNat ((BitVec.ofInt 32 n16) ^^^ (BitVec.ofInt 32 (IntKind.wrap .u32 (n18 * ((2 : Int) ^ (Min.min (Int.toNat (5 : Int)) 32))))))) : Int))) w14 (fun w20 =>
               (nc x0 (fun a21 =>
                (∃ (n22 : Int), (((World.cell? w20 a21) = (some (.int .u32 n22))) ∧
                 (((0 : Int) ≤ (11 : Int)) ∧
                 (R (.returned (.int .u8 (IntKind.wrap .u8 (Int.fdiv n22 ((2 : Int) ^ (Min.min (Int.toNat (11 : Int)) 32)))))) w20)))))))))))))))))))))))))))))))))))))))))))))))))))

def dice_die_next_an : Ann := (.seq .leaf (.seq (.plan [.take 0, .take 1, .take 2, .take 3, .take 4, .take 5, .take 6, .take 7, .take 8, .take 9, .take 10, .take 11, .eff 12]) (.seq (.plan [.take 0, .take 1, .take 2, .take 3, .take 4, .take 5, .take 6, .take 7, .take 8, .take 9, .take 10, .take 11, .eff 12]) (.seq (.plan [.take 0, .take 1, .take 2, .take 3, .take 4, .take 5, .take 6, .take 7, .take 8, .take 9, .take 10, .take 11, .eff 12]) (.seq .leaf .leaf)))))

set_option maxRecDepth 100000 in
theorem dice_die_next_ok (x0 : Option Addr) (R : Ending → World → Prop) (w : World) (h : dice_die_next x0 R w) : Cs Try.prog 99 (#[(.pointer x0)] : Array Value) w R :=
  fn_sound (ty := []) (ann := dice_die_next_an) (N := 45) (by kernel_rfl) (by kernel_rfl) Try.func99 rfl (by kernel_rfl) (by show 1 ≤ 45; decide) (by kernel_rfl)
    (Eq.mpr (show cdA Try.prog [] dice_die_next_an _ _ _ w = dice_die_next x0 R w by kernel_rfl) h)

/- "slices.Concat[[]byte,byte]" (100) -/
set_option maxRecDepth 100000 in
def slices_Concat_byte_byte (x0 : Option Addr) (x0l _x0c : Nat) (R : Ending → World → Prop) (w : World) : Prop :=
  (lp (σ := (Int × Int)) (fun _ k0 s1 w2 =>
 (br (decide (s1.2 < (x0l : Int)))
   (ixa x0 x0l s1.2 1 (fun a3 =>
  (∃ (p4 : (Option Addr)) (m5 : Nat) (m6 : Nat), (((World.cell? w2 a3) = (some (.slice p4 m5 m6))) ∧
   (br
    (decide ((IntKind.wrap .i64 (s1.1 + (m5 : Int))) < (0 : Int)))
    (R (.panicked [(.mk (.iface 9 (.string (ByteArray.mk #[108, 101, 110, 32, 111, 117, 116, 32, 111, 102, 32, 114, 97, 110, 103, 101]))) Bool.false Bool.false)]) w2)
    (k0 ((IntKind.wrap .i64 (s1.1 + (m5 : Int))), (IntKind.wrap .i64 (s1.2 + (1 : Int)))) w2))))))
   (cl Try.prog 130 #[(.slice none 0 0), (.int .i64 s1.1)] w2 (fun v7 w8 =>
  (∃ (p9 : (Option Addr)) (m10 : Nat) (m11 : Nat), ((v7 = (.slice p9 m10 m11)) ∧
   (lp (σ := (((Option Addr) × (Nat × Nat)) × Int)) (fun _ k12 s13 w14 =>
   (br (decide (s13.2 < (x0l : Int)))
     (ixa x0 x0l s13.2 1 (fun a15 =>
    (∃ (p16 : (Option Addr)) (m17 : Nat) (m18 : Nat), (((World.cell? w14 a15) = (some (.slice p16 m17 m18))) ∧
     (rnV Try.prog (Builtin.append_ #[22, 22] 22 #[(.slice s13.1.1 s13.1.2.1 s13.1.2.2), (.slice p16 m17 m18)]) w14 (fun v19 w20 =>
     (∃ (p21 : (Option Addr)) (m22 : Nat) (m23 : Nat), ((v19 = (.slice p21 m22 m23)) ∧ (k12 ((p21, (m22, m23)), (IntKind.wrap .i64 (s13.2 + (1 : Int)))) w20))))))))) (R (.returned (.slice s13.1.1 s13.1.2.1 s13.1.2.2)) w14))) ((p9, (m10, m11)), (0 : Int)) w8)))) (fun x24 w25 => (R (.panicked x24) w25))))) ((0 : Int), (0 : Int)) w)

def slices_Concat_byte_byte_an : Ann := (.seq .leaf (.seq .leaf (.seq (.seq .leaf (.block (.loop (.seq .leaf (.seq (.cond .leaf .leaf) (.seq (.block (.seq .leaf (.seq .leaf (.seq .leaf (.cond .leaf .leaf))))) .leaf))) [3, 5, 11, 12, 13, 14, 15, 16, 17, 18, 19, 20, 21, 22] [(3, (.int .i64)), (11, (.int .i64))]))) (.seq .leaf (.seq (.seq .leaf (.block (.loop (.seq .leaf (.seq (.cond .leaf .leaf) (.seq (.block (.seq .leaf .leaf)) .leaf))) [6, 8, 27, 28, 29, 30, 31, 32, 33, 34] [(6, .slice), (27, (.int .i64))]))) (.seq .leaf .leaf))))))

set_option maxRecDepth 100000 in
theorem slices_Concat_byte_byte_ok (x0 : Option Addr) (x0l x0c : Nat) (R : Ending → World → Prop) (w : World) (h : slices_Concat_byte_byte x0 x0l x0c R w) : Cs Try.prog 100 (#[(.slice x0 x0l x0c)] : Array Value) w R :=
  fn_sound (ty := []) (ann := slices_Concat_byte_byte_an) (N := 36) (by kernel_rfl) (by kernel_rfl) Try.func100 rfl (by kernel_rfl) (by show 1 ≤ 36; decide) (by kernel_rfl)
    (Eq.mpr (show cdA Try.prog [] slices_Concat_byte_byte_an _ _ _ w = slices_Concat_byte_byte x0 x0l x0c R w by kernel_rfl) h)

/- "(*girandole/field.Field).Axpy" (101) -/
set_option maxRecDepth 100000 in
def field_Field_Axpy (x0 : Option Addr) (x1 : Option Addr) (x1l x1c : Nat) (x2 : Option Addr) (x2l _x2c : Nat) (x3 : Int) (R : Ending → World → Prop) (w : World) : Prop :=
  (br (Option.isNone x0) (R (.returned (.slice none 0 0)) w)
  (al (List.toArray (repL 0 [(.int .u8 (0 : Int))])) 5 w (fun m0 w1 =>
 (pv Try.prog (Instr.sliceAt 22 (.slice x1 x1l x1c) none (some (.int .i64 (if ((x1l : Int) < (x2l : Int)) then (x1l : Int) else (x2l : Int)))) none) (fun v2 =>
  (∃ (p3 : (Option Addr)) (m4 : Nat) (m5 : Nat), ((v2 = (.slice p3 m4 m5)) ∧
   (rnV Try.prog (Builtin.append_ #[22, 22] 22 #[(.slice (some ⟨m0, 0, none⟩) 0 0), (.slice p3 m4 m5)]) w1 (fun v6 w7 =>
   (∃ (p8 : (Option Addr)) (m9 : Nat) (m10 : Nat), ((v6 = (.slice p8 m9 m10)) ∧
    (lp (σ := Int) (fun _ k11 n12 w13 =>
    (br (decide (n12 < (m9 : Int)))
      (dr w13 (fun w14 =>
     (ixa p8 m9 n12 1 (fun a15 =>
      (∃ (n16 : Int), (((World.cell? w14 a15) = (some (.int .u8 n16))) ∧
       (ixa x2 x2l n12 1 (fun a17 =>
       (∃ (n18 : Int), (((World.cell? w14 a17) = (some (.int .u8 n18))) ∧
        (cl Try.prog 131 #[(.pointer x0), (.int .u8 x3), (.int .u8 n18)] w14 (fun v19 w20 =>
        (∃ (n21 : Int), ((v19 = (.int .u8 n21)) ∧
         ((hold [(.cell a15 (.int .u8 n16))] w20) ∧
         (ixa p8 m9 n12 1 (fun a22 =>
         (st1 a22 (.int .u8 (IntKind.wrap .u8 ((BitVec.toNat ((BitVec.ofInt 8 n16) ^^^ (BitVec.ofInt 8 n21))) : Int))) w20 (fun w23 => (k11 (IntKind.wrap .i64 (n12 + (1 : Int))) w23))))))))) (fun _ _ => False)))))))))))) (R (.returned (.slice p8 m9 m10)) w13))) (0 : Int) w7))))))))))))

def field_Field_Axpy_an : Ann := (.seq .leaf (.seq (.seq .leaf (.cond (.seq .leaf .leaf) .leaf)) (.seq .leaf (.seq (.seq .leaf (.block (.loop (.seq .leaf (.seq (.cond .leaf .leaf) (.seq (.block (.seq .leaf (.plan [.take 0, .take 1, .take 2, .take 3, .take 4, .take 5, .take 6, .take 7, .take 8, .take 9, .eff 10, .take 11, .take 12, .eff 13]))) .leaf))) [10, 24, 25, 26, 27, 28, 29, 30, 31, 32, 33, 34, 35, 36, 37, 38, 39, 40] [(24, (.int .i64))]))) (.seq .leaf .leaf)))))

set_option maxRecDepth 100000 in
theorem field_Field_Axpy_ok (x0 : Option Addr) (x1 : Option Addr) (x1l x1c : Nat) (x2 : Option Addr) (x2l x2c : Nat) (x3 : Int) (R : Ending → World → Prop) (w : World) (h : field_Field_Axpy x0 x1 x1l x1c x2 x2l x2c x3 R w) : Cs Try.prog 101 (#[(.pointer x0), (.slice x1 x1l x1c), (.slice x2 x2l x2c), (.int .u8 x3)] : Array Value) w R :=
  fn_sound (ty := []) (ann := field_Field_Axpy_an) (N := 42) (by kernel_rfl) (by kernel_rfl) Try.func101 rfl (by kernel_rfl) (by show 4 ≤ 42; decide) (by kernel_rfl)
    (Eq.mpr (show cdA Try.prog [] field_Field_Axpy_an _ _ _ w = field_Field_Axpy x0 x1 x1l x1c x2 x2l x2c x3 R w by kernel_rfl) h)

/- "slices.IndexFunc[girandole/basis.line,byte]" (102) -/
set_option maxRecDepth 100000 in
def slices_IndexFunc_basis_line_byte (x0 : Option Addr) (x0l _x0c : Nat) (x1 : Value) (R : Ending → World → Prop) (w : World) : Prop :=
  (lp (σ := Int) (fun _ k0 n1 w2 =>
 (br (decide (n1 < (x0l : Int)))
   (ixa x0 x0l n1 1 (fun a3 =>
  (∃ (n4 : Int), (((World.cell? w2 a3) = (some (.int .u8 n4))) ∧
   (clv Try.prog x1 [(.int .u8 n4)] w2 (fun v5 w6 =>
   (∃ (b7 : Bool), ((v5 = (.bool b7)) ∧ (br b7 (R (.returned (.int .i64 n1)) w6) (k0 (IntKind.wrap .i64 (n1 + (1 : Int))) w6))))) (fun x8 w9 => (R (.panicked x8) w9))))))) (R (.returned (.int .i64 (-(1 : Int)))) w2))) (0 : Int) w)

def slices_IndexFunc_basis_line_byte_an : Ann := (.seq .leaf (.seq (.seq .leaf (.block (.loop (.seq .leaf (.seq (.cond .leaf .leaf) (.seq (.block (.seq .leaf (.seq .leaf (.cond (.seq .leaf .leaf) .leaf)))) .leaf))) [4, 5, 8, 9, 10, 11, 12, 13, 14, 15, 16, 17, 18] [(8, (.int .i64))]))) (.seq .leaf .leaf)))

set_option maxRecDepth 100000 in
theorem slices_IndexFunc_basis_line_byte_ok (x0 : Option Addr) (x0l x0c : Nat) (x1 : Value) (R : Ending → World → Prop) (w : World) (h : slices_IndexFunc_basis_line_byte x0 x0l x0c x1 R w) : Cs Try.prog 102 (#[(.slice x0 x0l x0c), x1] : Array Value) w R :=
  fn_sound (ty := []) (ann := slices_IndexFunc_basis_line_byte_an) (N := 19) (by kernel_rfl) (by kernel_rfl) Try.func102 rfl (by kernel_rfl) (by show 2 ≤ 19; decide) (by kernel_rfl)
    (Eq.mpr (show cdA Try.prog [] slices_IndexFunc_basis_line_byte_an _ _ _ w = slices_IndexFunc_basis_line_byte x0 x0l x0c x1 R w by kernel_rfl) h)

/- "(*girandole/basis.Basis).Add$1" (103) -/
set_option maxRecDepth 100000 in
def basis_Basis_Add_1 (x0 : Int) (R : Ending → World → Prop) (w : World) : Prop :=
  (R (.returned (.bool (x0 != (0 : Int)))) w)

def basis_Basis_Add_1_an : Ann := (.seq .leaf (.seq .leaf .leaf))

set_option maxRecDepth 100000 in
theorem basis_Basis_Add_1_ok (x0 : Int) (R : Ending → World → Prop) (w : World) (h : basis_Basis_Add_1 x0 R w) : Cs Try.prog 103 (#[(.int .u8 x0)] : Array Value) w R :=
  fn_sound (ty := []) (ann := basis_Basis_Add_1_an) (N := 5) (by kernel_rfl) (by kernel_rfl) Try.func103 rfl (by kernel_rfl) (by show 1 ≤ 5; decide) (by kernel_rfl)
    (Eq.mpr (show cdA Try.prog [] basis_Basis_Add_1_an _ _ _ w = basis_Basis_Add_1 x0 R w by kernel_rfl) h)

/- "(*girandole/field.Field).Inv" (104) -/
set_option maxRecDepth 100000 in
def field_Field_Inv (x0 : Option Addr) (x1 : Int) (R : Ending → World → Prop) (w : World) : Prop :=
  (cl Try.prog 132 #[(.pointer x0), (.int .u8 (1 : Int)), (.int .u8 x1)] w (fun v0 w1 =>
 (∃ (n2 : Int) (b3 : Bool), ((v0 = (.tuple #[(.int .u8 n2), (.bool b3)])) ∧ (R (.returned (.tuple #[(.int .u8 n2), (.bool b3)])) w1)))) (fun x4 w5 => (R (.panicked x4) w5)))

def field_Field_Inv_an : Ann := (.seq .leaf (.seq .leaf .leaf))

set_option maxRecDepth 100000 in
theorem field_Field_Inv_ok (x0 : Option Addr) (x1 : Int) (R : Ending → World → Prop) (w : World) (h : field_Field_Inv x0 x1 R w) : Cs Try.prog 104 (#[(.pointer x0), (.int .u8 x1)] : Array Value) w R :=
  fn_sound (ty := []) (ann := field_Field_Inv_an) (N := 11) (by kernel_rfl) (by kernel_rfl) Try.func104 rfl (by kernel_rfl) (by show 2 ≤ 11; decide) (by kernel_rfl)
    (Eq.mpr (show cdA Try.prog [] field_Field_Inv_an _ _ _ w = field_Field_Inv x0 x1 R w by kernel_rfl) h)

/- "slices.Clone[girandole/basis.line,byte]" (106) -/
set_option maxRecDepth 100000 in
def slices_Clone_basis_line_byte (x0 : Option Addr) (x0l x0c : Nat) (R : Ending → World → Prop) (w : World) : Prop :=
  (br (Option.isNone x0) (R (.returned (.slice none 0 0)) w)
  (al (List.toArray (repL 0 [(.int .u8 (0 : Int))])) 5 w (fun m0 w1 =>
 (rnV Try.prog (Builtin.append_ #[179, 179] 179 #[(.slice (some ⟨m0, 0, none⟩) 0 0), (.slice x0 x0l x0c)]) w1 (fun v2 w3 =>
  (∃ (p4 : (Option Addr)) (m5 : Nat) (m6 : Nat), ((v2 = (.slice p4 m5 m6)) ∧ (R (.returned (.slice p4 m5 m6)) w3))))))))

def slices_Clone_basis_line_byte_an : Ann := (.seq .leaf (.seq (.seq .leaf (.cond (.seq .leaf .leaf) .leaf)) (.seq .leaf .leaf)))

set_option maxRecDepth 100000 in
theorem slices_Clone_basis_line_byte_ok (x0 : Option Addr) (x0l x0c : Nat) (R : Ending → World → Prop) (w : World) (h : slices_Clone_basis_line_byte x0 x0l x0c R w) : Cs Try.prog 106 (#[(.slice x0 x0l x0c)] : Array Value) w R :=
  fn_sound (ty := []) (ann := slices_Clone_basis_line_byte_an) (N := 8) (by kernel_rfl) (by kernel_rfl) Try.func106 rfl (by kernel_rfl) (by show 1 ≤ 8; decide) (by kernel_rfl)
    (Eq.mpr (show cdA Try.prog [] slices_Clone_basis_line_byte_an _ _ _ w = slices_Clone_basis_line_byte x0 x0l x0c R w by kernel_rfl) h)

/- "girandole/cut.whole" (108) -/
set_option maxRecDepth 100000 in
def cut_whole (x0 : Option Addr) (x0l x0c : Nat) (R : Ending → World → Prop) (w : World) : Prop :=
  (lp (σ := Int) (fun _ k0 n1 w2 =>
 (br (decide (n1 < (x0l : Int)))
   (ixa x0 x0l n1 1 (fun a3 =>
  (∃ (p4 : (Option Addr)) (m5 : Nat) (m6 : Nat), (((World.cell? w2 a3) = (some (.slice p4 m5 m6))) ∧
   (ixa x0 x0l (0 : Int) 1 (fun a7 =>
   (∃ (p8 : (Option Addr)) (m9 : Nat) (m10 : Nat), (((World.cell? w2 a7) = (some (.slice p8 m9 m10))) ∧
    (br ((m5 : Int) != (m9 : Int))
     (R (.panicked [(.mk (.iface 213 (.agg #[])) Bool.false Bool.false)]) w2) (k0 (IntKind.wrap .i64 (n1 + (1 : Int))) w2))))))))))
   (cl Try.prog 100 #[(.slice x0 x0l x0c)] w2 (fun v11 w12 =>
  (∃ (p13 : (Option Addr)) (m14 : Nat) (m15 : Nat), ((v11 = (.slice p13 m14 m15)) ∧ (R (.returned (.slice p13 m14 m15)) w12)))) (fun x16 w17 => (R (.panicked x16) w17))))) (0 : Int) w)

def cut_whole_an : Ann := (.seq .leaf (.seq (.seq .leaf (.block (.loop (.seq .leaf (.seq (.cond .leaf .leaf) (.seq (.block (.seq .leaf (.seq .leaf (.cond .leaf .leaf)))) .leaf))) [4, 7, 8, 9, 10, 11, 12, 13, 14, 15, 16, 17, 18, 19, 20] [(7, (.int .i64))]))) (.seq .leaf .leaf)))

set_option maxRecDepth 100000 in
theorem cut_whole_ok (x0 : Option Addr) (x0l x0c : Nat) (R : Ending → World → Prop) (w : World) (h : cut_whole x0 x0l x0c R w) : Cs Try.prog 108 (#[(.slice x0 x0l x0c)] : Array Value) w R :=
  fn_sound (ty := []) (ann := cut_whole_an) (N := 23) (by kernel_rfl) (by kernel_rfl) Try.func108 rfl (by kernel_rfl) (by show 1 ≤ 23; decide) (by kernel_rfl)
    (Eq.mpr (show cdA Try.prog [] cut_whole_an _ _ _ w = cut_whole x0 x0l x0c R w by kernel_rfl) h)

/- "slices.Clone[[]byte,byte]" (109) -/
set_option maxRecDepth 100000 in
def slices_Clone_byte_byte (x0 : Option Addr) (x0l x0c : Nat) (R : Ending → World → Prop) (w : World) : Prop :=
  (br (Option.isNone x0) (R (.returned (.slice none 0 0)) w)
  (al (List.toArray (repL 0 [(.int .u8 (0 : Int))])) 5 w (fun m0 w1 =>
 (rnV Try.prog (Builtin.append_ #[22, 22] 22 #[(.slice (some ⟨m0, 0, none⟩) 0 0), (.slice x0 x0l x0c)]) w1 (fun v2 w3 =>
  (∃ (p4 : (Option Addr)) (m5 : Nat) (m6 : Nat), ((v2 = (.slice p4 m5 m6)) ∧ (R (.returned (.slice p4 m5 m6)) w3))))))))

def slices_Clone_byte_byte_an : Ann := (.seq .leaf (.seq (.seq .leaf (.cond (.seq .leaf .leaf) .leaf)) (.seq .leaf .leaf)))

set_option maxRecDepth 100000 in
theorem slices_Clone_byte_byte_ok (x0 : Option Addr) (x0l x0c : Nat) (R : Ending → World → Prop) (w : World) (h : slices_Clone_byte_byte x0 x0l x0c R w) : Cs Try.prog 109 (#[(.slice x0 x0l x0c)] : Array Value) w R :=
  fn_sound (ty := []) (ann := slices_Clone_byte_byte_an) (N := 8) (by kernel_rfl) (by kernel_rfl) Try.func109 rfl (by kernel_rfl) (by show 1 ≤ 8; decide) (by kernel_rfl)
    (Eq.mpr (show cdA Try.prog [] slices_Clone_byte_byte_an _ _ _ w = slices_Clone_byte_byte x0 x0l x0c R w by kernel_rfl) h)

/- "slices.Grow[[]byte,byte]" (130) -/
set_option maxRecDepth 100000 in
def slices_Grow_byte_byte (x0 : Option Addr) (x0l x0c : Nat) (x1 : Int) (R : Ending → World → Prop) (w : World) : Prop :=
  (jn (σ := PUnit) (fun _ _ w0 =>
 (br
   (decide ((IntKind.wrap .i64 (x1 - (IntKind.wrap .i64 ((x0c : Int) - (x0l : Int))))) > (0 : Int)))
   (pv Try.prog (Instr.sliceAt 22 (.slice x0 x0l x0c) none (some (.int .i64 (x0c : Int))) none) (fun v1 =>
  (∃ (p2 : (Option Addr)) (m3 : Nat) (m4 : Nat), ((v1 = (.slice p2 m3 m4)) ∧
   (rnV Try.prog (Builtin.append_ #[22, 3] 22 #[(.slice p2 m3 m4), (.int .i64 (IntKind.wrap .i64 (x1 - (IntKind.wrap .i64 ((x0c : Int) - (x0l : Int))))))]) w0 (fun v5 w6 =>
   (∃ (p7 : (Option Addr)) (m8 : Nat) (m9 : Nat), ((v5 = (.slice p7 m8 m9)) ∧
    (pv Try.prog (Instr.sliceAt 22 (.slice p7 m8 m9) none (some (.int .i64 (x0l : Int))) none) (fun v10 =>
    (∃ (p11 : (Option Addr)) (m12 : Nat) (m13 : Nat), ((v10 = (.slice p11 m12 m13)) ∧ (R (.returned (.slice p11 m12 m13)) w6))))))))))))) (R (.returned (.slice x0 x0l x0c)) w0))) (fun k14 =>
 (br (decide (x1 < (0 : Int)))
   (R (.panicked [(.mk (.iface 9 (.string (ByteArray.mk #[99, 97, 110, 110, 111, 116, 32, 98, 101, 32, 110, 101, 103, 97, 116, 105, 118, 101]))) Bool.false Bool.false)]) w) (k14 () w))))

def slices_Grow_byte_byte_an : Ann := (.seq .leaf (.join (.seq .leaf (.cond .leaf .leaf)) [5, 6, 7] [] (.seq (.seq .leaf (.seq .leaf (.cond .leaf .leaf))) (.seq .leaf .leaf))))

set_option maxRecDepth 100000 in
theorem slices_Grow_byte_byte_ok (x0 : Option Addr) (x0l x0c : Nat) (x1 : Int) (R : Ending → World → Prop) (w : World) (h : slices_Grow_byte_byte x0 x0l x0c x1 R w) : Cs Try.prog 130 (#[(.slice x0 x0l x0c), (.int .i64 x1)] : Array Value) w R :=
  fn_sound (ty := []) (ann := slices_Grow_byte_byte_an) (N := 27) (by kernel_rfl) (by kernel_rfl) Try.func130 rfl (by kernel_rfl) (by show 2 ≤ 27; decide) (by kernel_rfl)
    (Eq.mpr (show cdA Try.prog [] slices_Grow_byte_byte_an _ _ _ w = slices_Grow_byte_byte x0 x0l x0c x1 R w by kernel_rfl) h)

/- "(*girandole/field.Field).Mul" (131) -/
set_option maxRecDepth 100000 in
def field_Field_Mul (x0 : Option Addr) (x1 : Int) (x2 : Int) (R : Ending → World → Prop) (w : World) : Prop :=
  (jn (σ := PUnit) (fun _ _ w0 =>
 (dr w0 (fun w1 =>
  (nc x0 (fun a2 =>
   (ixr (Addr.add a2 510) 256 x1 1 (fun a3 =>
    (∃ (n4 : Int), (((World.cell? w1 a3) = (some (.int .i64 n4))) ∧
     (nc x0 (fun a5 =>
     (ixr (Addr.add a5 510) 256 x2 1 (fun a6 =>
      (∃ (n7 : Int), (((World.cell? w1 a6) = (some (.int .i64 n7))) ∧
       (nc x0 (fun a8 =>
       (ixr a8 510 (IntKind.wrap .i64 (n4 + n7)) 1 (fun a9 =>
        (∃ (n10 : Int), (((World.cell? w1 a9) = (some (.int .u8 n10))) ∧ (R (.returned (.int .u8 n10)) w1)))))))))))))))))))))) (fun k11 =>
 (br (Option.isNone x0) (R (.returned (.int .u8 (0 : Int))) w)
   (br (x1 == (0 : Int)) (R (.returned (.int .u8 (0 : Int))) w)
   (br (x2 == (0 : Int)) (R (.returned (.int .u8 (0 : Int))) w) (k11 () w))))))

def field_Field_Mul_an : Ann := (.seq .leaf (.join (.seq .leaf (.cond (.seq .leaf .leaf) .leaf)) [6, 7, 8, 9, 10, 11, 12, 13, 14, 15, 16] [] (.seq (.plan [.take 0, .take 1, .take 2, .take 3, .take 4, .take 5, .take 6, .take 7, .take 8, .take 9, .take 10, .take 11, .take 12, .take 13, .take 14, .take 15, .take 16, .take 17, .take 18]) .leaf)))

set_option maxRecDepth 100000 in
theorem field_Field_Mul_ok (x0 : Option Addr) (x1 : Int) (x2 : Int) (R : Ending → World → Prop) (w : World) (h : field_Field_Mul x0 x1 x2 R w) : Cs Try.prog 131 (#[(.pointer x0), (.int .u8 x1), (.int .u8 x2)] : Array Value) w R :=
  fn_sound (ty := []) (ann := field_Field_Mul_an) (N := 35) (by kernel_rfl) (by kernel_rfl) Try.func131 rfl (by kernel_rfl) (by show 3 ≤ 35; decide) (by kernel_rfl)
    (Eq.mpr (show cdA Try.prog [] field_Field_Mul_an _ _ _ w = field_Field_Mul x0 x1 x2 R w by kernel_rfl) h)

/- "(*girandole/field.Field).Div" (132) -/
set_option maxRecDepth 100000 in
def field_Field_Div (x0 : Option Addr) (x1 : Int) (x2 : Int) (R : Ending → World → Prop) (w : World) : Prop :=
  (jn (σ := PUnit) (fun _ _ w0 =>
 (br (x1 == (0 : Int))
   (R (.returned (.tuple #[(.int .u8 (0 : Int)), (.bool Bool.true)])) w0)
   (dr w0 (fun w1 =>
  (nc x0 (fun a2 =>
   (ixr (Addr.add a2 510) 256 x1 1 (fun a3 =>
    (∃ (n4 : Int), (((World.cell? w1 a3) = (some (.int .i64 n4))) ∧
     (nc x0 (fun a5 =>
     (ixr (Addr.add a5 510) 256 x2 1 (fun a6 =>
      (∃ (n7 : Int), (((World.cell? w1 a6) = (some (.int .i64 n7))) ∧
       (nc x0 (fun a8 =>
       (ixr a8 510 (IntKind.wrap .i64 ((IntKind.wrap .i64 (n4 + (255 : Int))) - n7)) 1 (fun a9 =>
        (∃ (n10 : Int), (((World.cell? w1 a9) = (some (.int .u8 n10))) ∧ (R (.returned (.tuple #[(.int .u8 n10), (.bool Bool.true)])) w1))))))))))))))))))))))) (fun k11 =>
 (br (Option.isNone x0)
   (R (.returned (.tuple #[(.int .u8 (0 : Int)), (.bool Bool.false)])) w)
   (br (x2 == (0 : Int))
   (R (.returned (.tuple #[(.int .u8 (0 : Int)), (.bool Bool.false)])) w) (k11 () w)))))

def field_Field_Div_an : Ann := (.seq .leaf (.join (.seq .leaf (.cond (.seq .leaf .leaf) .leaf)) [6, 7, 8, 9, 10, 11, 12, 13] [] (.seq (.seq .leaf (.cond (.seq .leaf .leaf) .leaf)) (.seq (.plan [.take 0, .take 1, .take 2, .take 3, .take 4, .take 5, .take 6, .take 7, .take 8, .take 9, .take 10, .take 11, .take 12, .take 13, .take 14, .take 15, .take 16, .take 17, .take 18, .take 19, .take 20]) .leaf))))

set_option maxRecDepth 100000 in
theorem field_Field_Div_ok (x0 : Option Addr) (x1 : Int) (x2 : Int) (R : Ending → World → Prop) (w : World) (h : field_Field_Div x0 x1 x2 R w) : Cs Try.prog 132 (#[(.pointer x0), (.int .u8 x1), (.int .u8 x2)] : Array Value) w R :=
  fn_sound (ty := []) (ann := field_Field_Div_an) (N := 35) (by kernel_rfl) (by kernel_rfl) Try.func132 rfl (by kernel_rfl) (by show 3 ≤ 35; decide) (by kernel_rfl)
    (Eq.mpr (show cdA Try.prog [] field_Field_Div_an _ _ _ w = field_Field_Div x0 x1 x2 R w by kernel_rfl) h)

end Go.SR
