/- PRINTED by a program of the prover's (wip/sr/Gen.lean): residuals of Go functions. -/
import Derived.Test.YtmmcihbcceahkaaA7
import Derived.Test.YtmmcihbcceahkaaProg
namespace Go.SR
open Go Go.Proofs

/- "girandole/cut.Join" (92) -/
set_option maxRecDepth 100000 in
def cut_Join (x0 : Option Addr) (x0l x0c : Nat) (x1 : Int) (R : Ending → World → Prop) (w : World) : Prop :=
  (al (zc Try.prog 22) 22 w (fun m0 w1 =>
 (al (zc Try.prog 4) 4 w1 (fun m2 w3 =>
  (br ((x0l : Int) == (0 : Int))
    (st1 ⟨m0, 0, none⟩ (.slice none 0 0) w3 (fun w4 =>
   (st1 ⟨m2, 0, none⟩ (.bool Bool.false) w4 (fun w5 =>
    (dcl Try.prog 107 #[(.pointer (some ⟨m0, 0, none⟩)), (.pointer (some ⟨m2, 0, none⟩))] .returning w5 (fun w6 =>
     (∃ (p7 : (Option Addr)) (m8 : Nat) (m9 : Nat), (((World.cell? w6 ⟨m0, 0, none⟩) = (some (.slice p7 m8 m9))) ∧
      (∃ (b10 : Bool), (((World.cell? w6 ⟨m2, 0, none⟩) = (some (.bool b10))) ∧
      (R (.returned (.tuple #[(.slice p7 m8 m9), (.bool b10)])) w6)))))))))))
    (cl Try.prog 108 #[(.slice x0 x0l x0c)] w3 (fun v11 w12 =>
   (∃ (p13 : (Option Addr)) (m14 : Nat) (m15 : Nat), ((v11 = (.slice p13 m14 m15)) ∧
    (ixa x0 x0l (0 : Int) 1 (fun a16 =>
    (∃ (p17 : (Option Addr)) (m18 : Nat) (m19 : Nat), (((World.cell? w12 a16) = (some (.slice p17 m18 m19))) ∧
     (cl Try.prog 83 #[(.int .i64 x1), (.int .i64 (m18 : Int))] w12 (fun v20 w21 =>
     (∃ (n22 : Int) (b23 : Bool), ((v20 = (.tuple #[(.int .i64 n22), (.bool b23)])) ∧
      (br (!b23)
       (st1 ⟨m0, 0, none⟩ (.slice none 0 0) w21 (fun w24 =>
      (st1 ⟨m2, 0, none⟩ (.bool Bool.false) w24 (fun w25 =>
       (dcl Try.prog 107 #[(.pointer (some ⟨m0, 0, none⟩)), (.pointer (some ⟨m2, 0, none⟩))] .returning w25 (fun w26 =>
        (∃ (p27 : (Option Addr)) (m28 : Nat) (m29 : Nat), (((World.cell? w26 ⟨m0, 0, none⟩) = (some (.slice p27 m28 m29))) ∧
         (∃ (b30 : Bool), (((World.cell? w26 ⟨m2, 0, none⟩) = (some (.bool b30))) ∧
         (R (.returned (.tuple #[(.slice p27 m28 m29), (.bool b30)])) w26)))))))))))
       (br (n22 != (x0l : Int))
       (st1 ⟨m0, 0, none⟩ (.slice none 0 0) w21 (fun w31 =>
      (st1 ⟨m2, 0, none⟩ (.bool Bool.false) w31 (fun w32 =>
       (dcl Try.prog 107 #[(.pointer (some ⟨m0, 0, none⟩)), (.pointer (some ⟨m2, 0, none⟩))] .returning w32 (fun w33 =>
        (∃ (p34 : (Option Addr)) (m35 : Nat) (m36 : Nat), (((World.cell? w33 ⟨m0, 0, none⟩) = (some (.slice p34 m35 m36))) ∧
         (∃ (b37 : Bool), (((World.cell? w33 ⟨m2, 0, none⟩) = (some (.bool b37))) ∧
         (R (.returned (.tuple #[(.slice p34 m35 m36), (.bool b37)])) w33)))))))))))
       (pv Try.prog (Instr.sliceAt 22 (.slice p13 m14 m15) none (some (.int .i64 x1)) none) (fun v38 =>
      (∃ (p39 : (Option Addr)) (m40 : Nat) (m41 : Nat), ((v38 = (.slice p39 m40 m41)) ∧
       (cl Try.prog 109 #[(.slice p39 m40 m41)] w21 (fun v42 w43 =>
       (∃ (p44 : (Option Addr)) (m45 : Nat) (m46 : Nat), ((v42 = (.slice p44 m45 m46)) ∧
        (st1 ⟨m0, 0, none⟩ (.slice p44 m45 m46) w43 (fun w47 =>
        (st1 ⟨m2, 0, none⟩ (.bool Bool.true) w47 (fun w48 =>
         (dcl Try.prog 107 #[(.pointer (some ⟨m0, 0, none⟩)), (.pointer (some ⟨m2, 0, none⟩))] .returning w48 (fun w49 =>
          (∃ (p50 : (Option Addr)) (m51 : Nat) (m52 : Nat), (((World.cell? w49 ⟨m0, 0, none⟩) = (some (.slice p50 m51 m52))) ∧
           (∃ (b53 : Bool), (((World.cell? w49 ⟨m2, 0, none⟩) = (some (.bool b53))) ∧
           (R (.returned (.tuple #[(.slice p50 m51 m52), (.bool b53)])) w49)))))))))))))) (fun x54 w55 =>
       (dcl Try.prog 107 #[(.pointer (some ⟨m0, 0, none⟩)), (.pointer (some ⟨m2, 0, none⟩))] (.panicking x54) w55 (fun w56 =>
        (∃ (p57 : (Option Addr)) (m58 : Nat) (m59 : Nat), (((World.cell? w56 ⟨m0, 0, none⟩) = (some (.slice p57 m58 m59))) ∧
         (∃ (b60 : Bool), (((World.cell? w56 ⟨m2, 0, none⟩) = (some (.bool b60))) ∧
         (R (.returned (.tuple #[(.slice p57 m58 m59), (.bool b60)])) w56)))))))))))))))))) (fun x61 w62 =>
     (dcl Try.prog 107 #[(.pointer (some ⟨m0, 0, none⟩)), (.pointer (some ⟨m2, 0, none⟩))] (.panicking x61) w62 (fun w63 =>
      (∃ (p64 : (Option Addr)) (m65 : Nat) (m66 : Nat), (((World.cell? w63 ⟨m0, 0, none⟩) = (some (.slice p64 m65 m66))) ∧
       (∃ (b67 : Bool), (((World.cell? w63 ⟨m2, 0, none⟩) = (some (.bool b67))) ∧
       (R (.returned (.tuple #[(.slice p64 m65 m66), (.bool b67)])) w63)))))))))))))))) (fun x68 w69 =>
   (dcl Try.prog 107 #[(.pointer (some ⟨m0, 0, none⟩)), (.pointer (some ⟨m2, 0, none⟩))] (.panicking x68) w69 (fun w70 =>
    (∃ (p71 : (Option Addr)) (m72 : Nat) (m73 : Nat), (((World.cell? w70 ⟨m0, 0, none⟩) = (some (.slice p71 m72 m73))) ∧
     (∃ (b74 : Bool), (((World.cell? w70 ⟨m2, 0, none⟩) = (some (.bool b74))) ∧
     (R (.returned (.tuple #[(.slice p71 m72 m73), (.bool b74)])) w70))))))))))))))

def cut_Join_an : Ann := (.seq .leaf (.seq .leaf (.seq (.seq .leaf (.cond (.seq .leaf .leaf) .leaf)) (.seq .leaf (.seq (.seq .leaf (.seq .leaf (.cond (.seq .leaf .leaf) .leaf))) (.seq .leaf .leaf))))))

set_option maxRecDepth 100000 in
theorem cut_Join_ok (x0 : Option Addr) (x0l x0c : Nat) (x1 : Int) (R : Ending → World → Prop) (w : World) (h : cut_Join x0 x0l x0c x1 R w) : Cs Try.prog 92 (#[(.slice x0 x0l x0c), (.int .i64 x1)] : Array Value) w R :=
  fn_soundD (ty := []) (ann := cut_Join_an) (N := 36) (by kernel_rfl) (by kernel_rfl) Try.func92 rfl (by kernel_rfl) (by show 2 ≤ 36; decide) (by kernel_rfl)
    (Eq.mpr (show cdA Try.prog [] cut_Join_an _ _ _ w = cut_Join x0 x0l x0c x1 R w by kernel_rfl) h)

end Go.SR
