/- PRINTED by a program of the prover's (wip/sr/Gen.lean): residuals of Go functions. -/
import Derived.Test.YtmmcihbcceahkaaA6
import Derived.Test.YtmmcihbcceahkaaProg
namespace Go.SR
open Go Go.Proofs

/- "girandole/girandoleref1.Split" (65) -/
set_option maxRecDepth 100000 in
def gref1_Split (x0 : Option Addr) (x0l _x0c : Nat) (x1 : Int) (R : Ending → World → Prop) (w : World) : Prop :=
  (cl Try.prog 88 #[(.int .i64 (x0l : Int)), (.int .i64 x1)] w (fun v0 w1 =>
 (∃ (n2 : Int) (b3 : Bool), ((v0 = (.tuple #[(.int .i64 n2), (.bool b3)])) ∧
  (br (!b3)
   (R (.returned (.tuple #[(.slice none 0 0), (.bool Bool.false)])) w1)
   (lp (σ := (((Option Addr) × (Nat × Nat)) × Int)) (fun _ k4 s5 w6 =>
  (br (decide (s5.2 < n2))
    (rnV Try.prog (Instr.makeSlice 22 (.int .i64 x1) (.int .i64 x1)) w6 (fun v7 w8 =>
   (∃ (p9 : (Option Addr)) (m10 : Nat) (m11 : Nat), ((v7 = (.slice p9 m10 m11)) ∧
    (lp (σ := Int) (fun _ k12 n13 w14 =>
    (br (decide (n13 < x1))
      (br
      (decide ((IntKind.wrap .i64 ((IntKind.wrap .i64 (s5.2 * x1)) + n13)) < (x0l : Int)))
      (ixa x0 x0l (IntKind.wrap .i64 ((IntKind.wrap .i64 (s5.2 * x1)) + n13)) 1 (fun a15 =>
     (∃ (n16 : Int), (((World.cell? w14 a15) = (some (.int .u8 n16))) ∧
      (ixa p9 m10 n13 1 (fun a17 => (st1 a17 (.int .u8 n16) w14 (fun w18 => (k12 (IntKind.wrap .i64 (n13 + (1 : Int))) w18)))))))))
      (al #[(.slice p9 m10 m11)] 22 w14 (fun m19 w20 =>
     (rnV Try.prog (Builtin.append_ #[76, 76] 76 #[(.slice s5.1.1 s5.1.2.1 s5.1.2.2), (.slice (some ⟨m19, 0, none⟩) 1 1)]) w20 (fun v21 w22 =>
      (∃ (p23 : (Option Addr)) (m24 : Nat) (m25 : Nat), ((v21 = (.slice p23 m24 m25)) ∧ (k4 ((p23, (m24, m25)), (IntKind.wrap .i64 (s5.2 + (1 : Int)))) w22))))))))
      (al #[(.slice p9 m10 m11)] 22 w14 (fun m26 w27 =>
     (rnV Try.prog (Builtin.append_ #[76, 76] 76 #[(.slice s5.1.1 s5.1.2.1 s5.1.2.2), (.slice (some ⟨m26, 0, none⟩) 1 1)]) w27 (fun v28 w29 =>
      (∃ (p30 : (Option Addr)) (m31 : Nat) (m32 : Nat), ((v28 = (.slice p30 m31 m32)) ∧ (k4 ((p30, (m31, m32)), (IntKind.wrap .i64 (s5.2 + (1 : Int)))) w29))))))))) (0 : Int) w8)))))
    (R (.returned (.tuple #[(.slice s5.1.1 s5.1.2.1 s5.1.2.2), (.bool Bool.true)])) w6))) ((none, (0, 0)), (0 : Int)) w1))))) (fun x33 w34 => (R (.panicked x33) w34)))

def gref1_Split_an : Ann := (.seq .leaf (.seq .leaf (.seq (.seq .leaf (.cond (.seq .leaf .leaf) .leaf)) (.seq .leaf (.seq (.seq .leaf (.block (.loop (.seq (.seq .leaf (.cond .leaf .leaf)) (.seq (.block (.seq .leaf (.seq (.seq .leaf (.block (.loop (.seq (.seq .leaf (.cond .leaf .leaf)) (.seq (.block .leaf) .leaf)) [11, 28, 29, 30, 31, 32, 33, 34, 35, 36, 37, 38, 39, 40, 41, 42, 43, 44, 45, 46, 47, 48, 49, 50, 51, 52, 53] [(11, (.int .i64))]))) .leaf))) .leaf)) [8, 9, 10, 11, 21, 22, 23, 24, 25, 26, 27, 28, 29, 30, 31, 32, 33, 34, 35, 36, 37, 38, 39, 40, 41, 42, 43, 44, 45, 46, 47, 48, 49, 50, 51, 52, 53, 54, 55, 56, 57] [(8, .slice), (9, (.int .i64))]))) (.seq .leaf .leaf))))))

set_option maxRecDepth 100000 in
theorem gref1_Split_ok (x0 : Option Addr) (x0l x0c : Nat) (x1 : Int) (R : Ending → World → Prop) (w : World) (h : gref1_Split x0 x0l x0c x1 R w) : Cs Try.prog 65 (#[(.slice x0 x0l x0c), (.int .i64 x1)] : Array Value) w R :=
  fn_sound (ty := []) (ann := gref1_Split_an) (N := 59) (by kernel_rfl) (by kernel_rfl) Try.func65 rfl (by kernel_rfl) (by show 2 ≤ 59; decide) (by kernel_rfl)
    (Eq.mpr (show cdA Try.prog [] gref1_Split_an _ _ _ w = gref1_Split x0 x0l x0c x1 R w by kernel_rfl) h)

/- "girandole/girandoleref1.reduced" (67) -/
set_option maxRecDepth 100000 in
def gref1_reduced (x0 : Int) (x1 : Option Addr) (x1l _x1c : Nat) (x2 : Option Addr) (x2l _x2c : Nat) (R : Ending → World → Prop) (w : World) : Prop :=
  (lp (σ := (((Option Addr) × (Nat × Nat)) × (((Option Addr) × (Nat × Nat)) × Int))) (fun _ k0 s1 w2 =>
 (br (decide (s1.2.2 < (x1l : Int)))
   (dr w2 (fun w3 =>
  (ixa x1 x1l s1.2.2 1 (fun a4 =>
   (∃ (p5 : (Option Addr)) (m6 : Nat) (m7 : Nat), (((World.cell? w3 a4) = (some (.slice p5 m6 m7))) ∧
    (ixa x2 x2l s1.2.2 1 (fun a8 =>
    (∃ (p9 : (Option Addr)) (m10 : Nat) (m11 : Nat), (((World.cell? w3 a8) = (some (.slice p9 m10 m11))) ∧
     ((al (List.toArray (repL 0 [(.int .u8 (0 : Int))])) 5 w3 (fun m12 w13 =>
     ((hold [(.cell a8 (.slice p9 m10 m11)), (.cell a4 (.slice p5 m6 m7))] w13) ∧
      ((rnV Try.prog (Builtin.append_ #[22, 22] 22 #[(.slice (some ⟨m12, 0, none⟩) 0 0), (.slice p5 m6 m7)]) w13 (fun v14 w15 =>
      (∃ (p16 : (Option Addr)) (m17 : Nat) (m18 : Nat), ((v14 = (.slice p16 m17 m18)) ∧
       ((hold [(.cell a8 (.slice p9 m10 m11))] w15) ∧
       ((al #[(.slice p16 m17 m18)] 22 w15 (fun m19 w20 =>
       ((hold [(.cell a8 (.slice p9 m10 m11))] w20) ∧
        ((rnV Try.prog (Builtin.append_ #[76, 76] 76 #[(.slice s1.1.1 s1.1.2.1 s1.1.2.2), (.slice (some ⟨m19, 0, none⟩) 1 1)]) w20 (fun v21 w22 =>
        (∃ (p23 : (Option Addr)) (m24 : Nat) (m25 : Nat), ((v21 = (.slice p23 m24 m25)) ∧
         ((hold [(.cell a8 (.slice p9 m10 m11))] w22) ∧
         (al (List.toArray (repL 0 [(.int .u8 (0 : Int))])) 5 w22 (fun m26 w27 =>
         ((hold [(.cell a8 (.slice p9 m10 m11))] w27) ∧
          (rnV Try.prog (Builtin.append_ #[22, 22] 22 #[(.slice (some ⟨m26, 0, none⟩) 0 0), (.slice p9 m10 m11)]) w27 (fun v28 w29 =>
          (∃ (p30 : (Option Addr)) (m31 : Nat) (m32 : Nat), ((v28 = (.slice p30 m31 m32)) ∧
           (al #[(.slice p30 m31 m32)] 22 w29 (fun m33 w34 =>
           (rnV Try.prog (Builtin.append_ #[76, 76] 76 #[(.slice s1.2.1.1 s1.2.1.2.1 s1.2.1.2.2), (.slice (some ⟨m33, 0, none⟩) 1 1)]) w34 (fun v35 w36 =>
            (∃ (p37 : (Option Addr)) (m38 : Nat) (m39 : Nat), ((v35 = (.slice p37 m38 m39)) ∧
             (k0 ((p23, (m24, m25)), ((p37, (m38, m39)), (IntKind.wrap .i64 (s1.2.2 + (1 : Int))))) w36))))))))))))))))))) ∧
        (al (List.toArray (repL 0 [(.int .u8 (0 : Int))])) 5 w20 (fun m40 w41 =>
        ((hold [(.cell a8 (.slice p9 m10 m11))] w41) ∧
         (rnV Try.prog (Builtin.append_ #[76, 76] 76 #[(.slice s1.1.1 s1.1.2.1 s1.1.2.2), (.slice (some ⟨m19, 0, none⟩) 1 1)]) w41 (fun v42 w43 =>
         (∃ (p44 : (Option Addr)) (m45 : Nat) (m46 : Nat), ((v42 = (.slice p44 m45 m46)) ∧
          ((hold [(.cell a8 (.slice p9 m10 m11))] w43) ∧
          (rnV Try.prog (Builtin.append_ #[22, 22] 22 #[(.slice (some ⟨m40, 0, none⟩) 0 0), (.slice p9 m10 m11)]) w43 (fun v47 w48 =>
          (∃ (p49 : (Option Addr)) (m50 : Nat) (m51 : Nat), ((v47 = (.slice p49 m50 m51)) ∧
           (al #[(.slice p49 m50 m51)] 22 w48 (fun m52 w53 =>
           (rnV Try.prog (Builtin.append_ #[76, 76] 76 #[(.slice s1.2.1.1 s1.2.1.2.1 s1.2.1.2.2), (.slice (some ⟨m52, 0, none⟩) 1 1)]) w53 (fun v54 w55 =>
            (∃ (p56 : (Option Addr)) (m57 : Nat) (m58 : Nat), ((v54 = (.slice p56 m57 m58)) ∧
             (k0 ((p44, (m45, m46)), ((p56, (m57, m58)), (IntKind.wrap .i64 (s1.2.2 + (1 : Int))))) w55))))))))))))))))))))))) ∧
       (al (List.toArray (repL 0 [(.int .u8 (0 : Int))])) 5 w15 (fun m59 w60 =>
       ((hold [(.cell a8 (.slice p9 m10 m11))] w60) ∧
        (al #[(.slice p16 m17 m18)] 22 w60 (fun m61 w62 =>
        ((hold [(.cell a8 (.slice p9 m10 m11))] w62) ∧
         (rnV Try.prog (Builtin.append_ #[76, 76] 76 #[(.slice s1.1.1 s1.1.2.1 s1.1.2.2), (.slice (some ⟨m61, 0, none⟩) 1 1)]) w62 (fun v63 w64 =>
         (∃ (p65 : (Option Addr)) (m66 : Nat) (m67 : Nat), ((v63 = (.slice p65 m66 m67)) ∧
          ((hold [(.cell a8 (.slice p9 m10 m11))] w64) ∧
          (rnV Try.prog (Builtin.append_ #[22, 22] 22 #[(.slice (some ⟨m59, 0, none⟩) 0 0), (.slice p9 m10 m11)]) w64 (fun v68 w69 =>
          (∃ (p70 : (Option Addr)) (m71 : Nat) (m72 : Nat), ((v68 = (.slice p70 m71 m72)) ∧
           (al #[(.slice p70 m71 m72)] 22 w69 (fun m73 w74 =>
           (rnV Try.prog (Builtin.append_ #[76, 76] 76 #[(.slice s1.2.1.1 s1.2.1.2.1 s1.2.1.2.2), (.slice (some ⟨m73, 0, none⟩) 1 1)]) w74 (fun v75 w76 =>
            (∃ (p77 : (Option Addr)) (m78 : Nat) (m79 : Nat), ((v75 = (.slice p77 m78 m79)) ∧
             (k0 ((p65, (m66, m67)), ((p77, (m78, m79)), (IntKind.wrap .i64 (s1.2.2 + (1 : Int))))) w76)))))))))))))))))))))))))))) ∧
      (al (List.toArray (repL 0 [(.int .u8 (0 : Int))])) 5 w13 (fun m80 w81 =>
      ((hold [(.cell a8 (.slice p9 m10 m11)), (.cell a4 (.slice p5 m6 m7))] w81) ∧
       (rnV Try.prog (Builtin.append_ #[22, 22] 22 #[(.slice (some ⟨m12, 0, none⟩) 0 0), (.slice p5 m6 m7)]) w81 (fun v82 w83 =>
       (∃ (p84 : (Option Addr)) (m85 : Nat) (m86 : Nat), ((v82 = (.slice p84 m85 m86)) ∧
        ((hold [(.cell a8 (.slice p9 m10 m11))] w83) ∧
        (al #[(.slice p84 m85 m86)] 22 w83 (fun m87 w88 =>
        ((hold [(.cell a8 (.slice p9 m10 m11))] w88) ∧
         (rnV Try.prog (Builtin.append_ #[76, 76] 76 #[(.slice s1.1.1 s1.1.2.1 s1.1.2.2), (.slice (some ⟨m87, 0, none⟩) 1 1)]) w88 (fun v89 w90 =>
         (∃ (p91 : (Option Addr)) (m92 : Nat) (m93 : Nat), ((v89 = (.slice p91 m92 m93)) ∧
          ((hold [(.cell a8 (.slice p9 m10 m11))] w90) ∧
          (rnV Try.prog (Builtin.append_ #[22, 22] 22 #[(.slice (some ⟨m80, 0, none⟩) 0 0), (.slice p9 m10 m11)]) w90 (fun v94 w95 =>
          (∃ (p96 : (Option Addr)) (m97 : Nat) (m98 : Nat), ((v94 = (.slice p96 m97 m98)) ∧
           (al #[(.slice p96 m97 m98)] 22 w95 (fun m99 w100 =>
           (rnV Try.prog (Builtin.append_ #[76, 76] 76 #[(.slice s1.2.1.1 s1.2.1.2.1 s1.2.1.2.2), (.slice (some ⟨m99, 0, none⟩) 1 1)]) w100 (fun v101 w102 =>
            (∃ (p103 : (Option Addr)) (m104 : Nat) (m105 : Nat), ((v101 = (.slice p103 m104 m105)) ∧
             (k0 ((p91, (m92, m93)), ((p103, (m104, m105)), (IntKind.wrap .i64 (s1.2.2 + (1 : Int))))) w102))))))))))))))))))))))))))))))) ∧
     (al (List.toArray (repL 0 [(.int .u8 (0 : Int))])) 5 w3 (fun m106 w107 =>
     ((hold [(.cell a8 (.slice p9 m10 m11)), (.cell a4 (.slice p5 m6 m7))] w107) ∧
      (al (List.toArray (repL 0 [(.int .u8 (0 : Int))])) 5 w107 (fun m108 w109 =>
      ((hold [(.cell a8 (.slice p9 m10 m11)), (.cell a4 (.slice p5 m6 m7))] w109) ∧
       (rnV Try.prog (Builtin.append_ #[22, 22] 22 #[(.slice (some ⟨m108, 0, none⟩) 0 0), (.slice p5 m6 m7)]) w109 (fun v110 w111 =>
       (∃ (p112 : (Option Addr)) (m113 : Nat) (m114 : Nat), ((v110 = (.slice p112 m113 m114)) ∧
        ((hold [(.cell a8 (.slice p9 m10 m11))] w111) ∧
        (al #[(.slice p112 m113 m114)] 22 w111 (fun m115 w116 =>
        ((hold [(.cell a8 (.slice p9 m10 m11))] w116) ∧
         (rnV Try.prog (Builtin.append_ #[76, 76] 76 #[(.slice s1.1.1 s1.1.2.1 s1.1.2.2), (.slice (some ⟨m115, 0, none⟩) 1 1)]) w116 (fun v117 w118 =>
         (∃ (p119 : (Option Addr)) (m120 : Nat) (m121 : Nat), ((v117 = (.slice p119 m120 m121)) ∧
          ((hold [(.cell a8 (.slice p9 m10 m11))] w118) ∧
          (rnV Try.prog (Builtin.append_ #[22, 22] 22 #[(.slice (some ⟨m106, 0, none⟩) 0 0), (.slice p9 m10 m11)]) w118 (fun v122 w123 =>
          (∃ (p124 : (Option Addr)) (m125 : Nat) (m126 : Nat), ((v122 = (.slice p124 m125 m126)) ∧
           (al #[(.slice p124 m125 m126)] 22 w123 (fun m127 w128 =>
           (rnV Try.prog (Builtin.append_ #[76, 76] 76 #[(.slice s1.2.1.1 s1.2.1.2.1 s1.2.1.2.2), (.slice (some ⟨m127, 0, none⟩) 1 1)]) w128 (fun v129 w130 =>
            (∃ (p131 : (Option Addr)) (m132 : Nat) (m133 : Nat), ((v129 = (.slice p131 m132 m133)) ∧
             (k0 ((p119, (m120, m121)), ((p131, (m132, m133)), (IntKind.wrap .i64 (s1.2.2 + (1 : Int))))) w130)))))))))))))))))))))))))))))))))))))))))
   (lp (σ := (Int × Int)) (fun _ k134 s135 w136 =>
  (br (decide (s135.2 < x0))
    (jn (σ := Int) (fun _ n137 w138 =>
   (br (decide (n137 < (0 : Int)))
     (k134 (s135.1, (IntKind.wrap .i64 (s135.2 + (1 : Int)))) w138)
     (dr w138 (fun w139 =>
    (ixa s1.1.1 s1.1.2.1 n137 1 (fun a140 =>
     (∃ (p141 : (Option Addr)) (m142 : Nat) (m143 : Nat), (((World.cell? w139 a140) = (some (.slice p141 m142 m143))) ∧
      (ixa s1.1.1 s1.1.2.1 s135.1 1 (fun a144 =>
      (∃ (p145 : (Option Addr)) (m146 : Nat) (m147 : Nat), (((World.cell? w139 a144) = (some (.slice p145 m146 m147))) ∧
       (ixa s1.1.1 s1.1.2.1 s135.1 1 (fun a148 =>
       (st1 a148 (.slice p141 m142 m143) w139 (fun w149 =>
        (ixa s1.1.1 s1.1.2.1 n137 1 (fun a150 =>
         (st1 a150 (.slice p145 m146 m147) w149 (fun w151 =>
          (dr w151 (fun w152 =>
           (ixa s1.2.1.1 s1.2.1.2.1 n137 1 (fun a153 =>
            (∃ (p154 : (Option Addr)) (m155 : Nat) (m156 : Nat), (((World.cell? w152 a153) = (some (.slice p154 m155 m156))) ∧
             (ixa s1.2.1.1 s1.2.1.2.1 s135.1 1 (fun a157 =>
             (∃ (p158 : (Option Addr)) (m159 : Nat) (m160 : Nat), (((World.cell? w152 a157) = (some (.slice p158 m159 m160))) ∧
              (ixa s1.2.1.1 s1.2.1.2.1 s135.1 1 (fun a161 =>
              (st1 a161 (.slice p154 m155 m156) w152 (fun w162 =>
               (ixa s1.2.1.1 s1.2.1.2.1 n137 1 (fun a163 =>
                (st1 a163 (.slice p158 m159 m160) w162 (fun w164 =>
                 (ixa s1.1.1 s1.1.2.1 s135.1 1 (fun a165 =>
                  (∃ (p166 : (Option Addr)) (m167 : Nat) (m168 : Nat), (((World.cell? w164 a165) = (some (.slice p166 m167 m168))) ∧
                   (ixa p166 m167 s135.2 1 (fun a169 =>
                   (∃ (n170 : Int), (((World.cell? w164 a169) = (some (.int .u8 n170))) ∧
                    (cl Try.prog 90 #[(.int .u8 n170)] w164 (fun v171 w172 =>
                    (∃ (n173 : Int) (b174 : Bool), ((v171 = (.tuple #[(.int .u8 n173), (.bool b174)])) ∧
                     (lp (σ := Int) (fun _ k175 n176 w177 =>
                     (br (decide (n176 < (s1.1.2.1 : Int)))
                       (jn (σ := PUnit) (fun _ _ w178 =>
                      (ixa s1.1.1 s1.1.2.1 n176 1 (fun a179 =>
                       (∃ (p180 : (Option Addr)) (m181 : Nat) (m182 : Nat), (((World.cell? w178 a179) = (some (.slice p180 m181 m182))) ∧
                        (ixa p180 m181 s135.2 1 (fun a183 =>
                        (∃ (n184 : Int), (((World.cell? w178 a183) = (some (.int .u8 n184))) ∧
                         (cl Try.prog 89 #[(.int .u8 n184), (.int .u8 n173)] w178 (fun v185 w186 =>
                         (∃ (n187 : Int), ((v185 = (.int .u8 n187)) ∧
                          (dr w186 (fun w188 =>
                          (ixa s1.1.1 s1.1.2.1 n176 1 (fun a189 =>
                           (∃ (p190 : (Option Addr)) (m191 : Nat) (m192 : Nat), (((World.cell? w188 a189) = (some (.slice p190 m191 m192))) ∧
                            (ixa s1.1.1 s1.1.2.1 s135.1 1 (fun a193 =>
                            (∃ (p194 : (Option Addr)) (m195 : Nat) (m196 : Nat), (((World.cell? w188 a193) = (some (.slice p194 m195 m196))) ∧
                             (ixa s1.2.1.1 s1.2.1.2.1 n176 1 (fun a197 =>
                             (∃ (p198 : (Option Addr)) (m199 : Nat) (m200 : Nat), (((World.cell? w188 a197) = (some (.slice p198 m199 m200))) ∧
                              (ixa s1.2.1.1 s1.2.1.2.1 s135.1 1 (fun a201 =>
                              (∃ (p202 : (Option Addr)) (m203 : Nat) (m204 : Nat), (((World.cell? w188 a201) = (some (.slice p202 m203 m204))) ∧
                               (cl Try.prog 66 #[(.slice p190 m191 m192), (.slice p194 m195 m196), (.int .u8 n187)] w188 (fun v205 w206 =>
                               (∃ (p207 : (Option Addr)) (m208 : Nat) (m209 : Nat), ((v205 = (.slice p207 m208 m209)) ∧
                                ((hold [(.cell a201 (.slice p202 m203 m204)), (.cell a197 (.slice p198 m199 m200))] w206) ∧
                                (cl Try.prog 66 #[(.slice p198 m199 m200), (.slice p202 m203 m204), (.int .u8 n187)] w206 (fun v210 w211 =>
                                (∃ (p212 : (Option Addr)) (m213 : Nat) (m214 : Nat), ((v210 = (.slice p212 m213 m214)) ∧
                                 (ixa s1.1.1 s1.1.2.1 n176 1 (fun a215 =>
                                 (st1 a215 (.slice p207 m208 m209) w211 (fun w216 =>
                                  (ixa s1.2.1.1 s1.2.1.2.1 n176 1 (fun a217 =>
                                   (st1 a217 (.slice p212 m213 m214) w216 (fun w218 => (k175 (IntKind.wrap .i64 (n176 + (1 : Int))) w218)))))))))))) (fun _ _ => False)))))) (fun _ _ => False))))))))))))))))))))))) (fun x219 w220 => (R (.panicked x219) w220)))))))))))) (fun k221 =>
                      (br (n176 == s135.1) (k175 (IntKind.wrap .i64 (n176 + (1 : Int))) w177)
                        (ixa s1.1.1 s1.1.2.1 n176 1 (fun a222 =>
                       (∃ (p223 : (Option Addr)) (m224 : Nat) (m225 : Nat), (((World.cell? w177 a222) = (some (.slice p223 m224 m225))) ∧
                        (ixa p223 m224 s135.2 1 (fun a226 =>
                        (∃ (n227 : Int), (((World.cell? w177 a226) = (some (.int .u8 n227))) ∧
                         (br (n227 == (0 : Int)) (k175 (IntKind.wrap .i64 (n176 + (1 : Int))) w177) (k221 () w177)))))))))))))
                       (ixa s1.1.1 s1.1.2.1 s135.1 1 (fun a228 =>
                      (∃ (p229 : (Option Addr)) (m230 : Nat) (m231 : Nat), (((World.cell? w177 a228) = (some (.slice p229 m230 m231))) ∧
                       (rnV Try.prog (Instr.makeSlice 22 (.int .i64 (m230 : Int)) (.int .i64 (m230 : Int))) w177 (fun v232 w233 =>
                       (∃ (p234 : (Option Addr)) (m235 : Nat) (m236 : Nat), ((v232 = (.slice p234 m235 m236)) ∧
                        (ixa s1.2.1.1 s1.2.1.2.1 s135.1 1 (fun a237 =>
                        (∃ (p238 : (Option Addr)) (m239 : Nat) (m240 : Nat), (((World.cell? w233 a237) = (some (.slice p238 m239 m240))) ∧
                         (rnV Try.prog (Instr.makeSlice 22 (.int .i64 (m239 : Int)) (.int .i64 (m239 : Int))) w233 (fun v241 w242 =>
                         (∃ (p243 : (Option Addr)) (m244 : Nat) (m245 : Nat), ((v241 = (.slice p243 m244 m245)) ∧
                          (dr w242 (fun w246 =>
                          (ixa s1.1.1 s1.1.2.1 s135.1 1 (fun a247 =>
                           (∃ (p248 : (Option Addr)) (m249 : Nat) (m250 : Nat), (((World.cell? w246 a247) = (some (.slice p248 m249 m250))) ∧
                            (ixa s1.2.1.1 s1.2.1.2.1 s135.1 1 (fun a251 =>
                            (∃ (p252 : (Option Addr)) (m253 : Nat) (m254 : Nat), (((World.cell? w246 a251) = (some (.slice p252 m253 m254))) ∧
                             (cl Try.prog 66 #[(.slice p234 m235 m236), (.slice p248 m249 m250), (.int .u8 n173)] w246 (fun v255 w256 =>
                             (∃ (p257 : (Option Addr)) (m258 : Nat) (m259 : Nat), ((v255 = (.slice p257 m258 m259)) ∧
                              ((hold [(.cell a251 (.slice p252 m253 m254))] w256) ∧
                              (cl Try.prog 66 #[(.slice p243 m244 m245), (.slice p252 m253 m254), (.int .u8 n173)] w256 (fun v260 w261 =>
                              (∃ (p262 : (Option Addr)) (m263 : Nat) (m264 : Nat), ((v260 = (.slice p262 m263 m264)) ∧
                               (ixa s1.1.1 s1.1.2.1 s135.1 1 (fun a265 =>
                               (st1 a265 (.slice p257 m258 m259) w261 (fun w266 =>
                                (ixa s1.2.1.1 s1.2.1.2.1 s135.1 1 (fun a267 =>
                                 (st1 a267 (.slice p262 m263 m264) w266 (fun w268 =>
                                  (k134 ((IntKind.wrap .i64 (s135.1 + (1 : Int))), (IntKind.wrap .i64 (s135.2 + (1 : Int)))) w268)))))))))))) (fun _ _ => False)))))) (fun _ _ => False)))))))))))))))))))))))))))))) (0 : Int) w172)))) (fun x269 w270 => (R (.panicked x269) w270))))))))))))))))))))))))))))))))))))))))))))))))) (fun k271 =>
   (lp (σ := (Int × Int)) (fun _ k272 s273 w274 =>
    (br (decide (s273.2 < (s1.1.2.1 : Int)))
      (br (decide (s273.1 < (0 : Int)))
      (ixa s1.1.1 s1.1.2.1 s273.2 1 (fun a275 =>
     (∃ (p276 : (Option Addr)) (m277 : Nat) (m278 : Nat), (((World.cell? w274 a275) = (some (.slice p276 m277 m278))) ∧
      (ixa p276 m277 s135.2 1 (fun a279 =>
      (∃ (n280 : Int), (((World.cell? w274 a279) = (some (.int .u8 n280))) ∧
       (br (n280 != (0 : Int))
        (k272 (s273.2, (IntKind.wrap .i64 (s273.2 + (1 : Int)))) w274)
        (k272 (s273.1, (IntKind.wrap .i64 (s273.2 + (1 : Int)))) w274)))))))))) (k271 s273.1 w274)) (k271 s273.1 w274))) ((-(1 : Int)), s135.1) w136)))
    (R (.returned (.tuple #[(.slice s1.1.1 s1.1.2.1 s1.1.2.2), (.slice s1.2.1.1 s1.2.1.2.1 s1.2.1.2.2), (.int .i64 s135.1)])) w136))) ((0 : Int), (0 : Int)) w2))) ((none, (0, 0)), ((none, (0, 0)), (0 : Int))) w)

def gref1_reduced_an : Ann := (.seq .leaf (.seq .leaf (.seq (.seq .leaf (.block (.loop (.seq (.seq .leaf (.cond .leaf .leaf)) (.seq (.block (.tree (.take 0 (.take 2 (.take 3 (.take 4 (.take 5 (.take 9 (.take 11 (.take 12 (.take 13 (.take 14 (.fork 1 (.fork 6 (.fork 7 (.fork 8 (.eff 10 (.eff 15 (.eff 16 (.eff 17 (.take 18 (.take 19 .done)))))) (.eff 10 (.eff 8 (.eff 15 (.eff 16 (.eff 17 (.take 18 (.take 19 .done)))))))) (.eff 10 (.eff 7 (.eff 8 (.eff 15 (.eff 16 (.eff 17 (.take 18 (.take 19 .done))))))))) (.eff 10 (.eff 6 (.eff 7 (.eff 8 (.eff 15 (.eff 16 (.eff 17 (.take 18 (.take 19 .done)))))))))) (.eff 10 (.eff 1 (.eff 6 (.eff 7 (.eff 8 (.eff 15 (.eff 16 (.eff 17 (.take 18 (.take 19 .done))))))))))))))))))))))) .leaf)) [9, 10, 11, 22, 23, 24, 25, 26, 27, 28, 29, 30, 31, 32, 33, 34, 35, 36, 37, 38, 39, 40, 41, 42, 43, 44, 45] [(9, .slice), (10, .slice), (11, (.int .i64))]))) (.seq .leaf (.seq (.seq .leaf (.block (.loop (.seq (.seq .leaf (.cond .leaf .leaf)) (.seq (.block (.seq .leaf (.join (.seq .leaf (.block (.loop (.seq (.seq .leaf (.cond .leaf .leaf)) (.seq (.block (.seq .leaf (.cond .leaf .leaf))) .leaf)) [14, 15, 52, 53, 54, 55, 56, 57, 58, 59, 60, 61, 62, 63, 64, 65, 66, 67, 68, 69, 70] [(14, (.int .i64)), (15, (.int .i64))]))) [14, 15, 51, 52, 53, 54, 55, 56, 57, 58, 59, 60, 61, 62, 63, 64, 65, 66, 67, 68, 69, 70] [(14, (.int .i64))] (.seq (.seq .leaf (.cond .leaf .leaf)) (.seq (.plan [.take 0, .take 1, .take 2, .take 3, .take 4, .take 5, .take 6, .take 7, .take 8, .take 9, .take 10, .take 11, .take 12, .eff 13, .take 14, .eff 15]) (.seq (.plan [.take 0, .take 1, .take 2, .take 3, .take 4, .take 5, .take 6, .take 7, .take 8, .take 9, .take 10, .take 11, .take 12, .eff 13, .take 14, .eff 15]) (.seq .leaf (.seq (.seq .leaf (.block (.loop (.seq (.seq .leaf (.cond .leaf .leaf)) (.seq (.block (.join (.seq .leaf (.cond .leaf .leaf)) [118, 119, 120, 121, 122, 123, 124, 125, 126, 127, 128, 129, 130] [] (.seq .leaf (.plan [.take 0, .take 1, .take 2, .take 3, .take 4, .take 5, .take 6, .take 7, .take 8, .take 9, .take 10, .take 11, .take 12, .take 14, .take 15, .take 16, .take 17, .take 18, .take 19, .take 20, .take 21, .take 22, .eff 13, .eff 23, .take 24, .eff 25, .take 26, .eff 27])))) .leaf)) [18, 19, 112, 113, 114, 115, 116, 117, 118, 119, 120, 121, 122, 123, 124, 125, 126, 127, 128, 129, 130, 131, 132, 133, 134, 135, 136, 137, 138, 139, 140, 141, 142, 143, 144, 145, 146, 147, 148, 149, 150, 151, 152, 153, 154, 155, 156, 157, 158, 159, 160, 161, 162, 163, 164, 165] [(18, (.int .i64))]))) (.seq .leaf (.seq .leaf (.seq (.plan [.take 0, .take 1, .take 2, .take 3, .take 4, .take 5, .take 6, .take 7, .take 8, .take 9, .take 11, .take 12, .take 13, .take 14, .take 15, .take 16, .eff 10, .eff 17, .take 18, .eff 19, .take 20, .eff 21]) .leaf))))))))))) .leaf)) [12, 13, 14, 15, 16, 17, 18, 19, 20, 21, 46, 47, 48, 49, 50, 51, 52, 53, 54, 55, 56, 57, 58, 59, 60, 61, 62, 63, 64, 65, 66, 67, 68, 69, 70, 71, 72, 73, 74, 75, 76, 77, 78, 79, 80, 81, 82, 83, 84, 85, 86, 87, 88, 89, 90, 91, 92, 93, 94, 95, 96, 97, 98, 99, 100, 101, 102, 103, 104, 105, 106, 107, 108, 109, 110, 111, 112, 113, 114, 115, 116, 117, 118, 119, 120, 121, 122, 123, 124, 125, 126, 127, 128, 129, 130, 131, 132, 133, 134, 135, 136, 137, 138, 139, 140, 141, 142, 143, 144, 145, 146, 147, 148, 149, 150, 151, 152, 153, 154, 155, 156, 157, 158, 159, 160, 161, 162, 163, 164, 165, 166, 167, 168, 169, 170, 171, 172, 173, 174, 175, 176, 177, 178, 179, 180, 181, 182, 183, 184, 185, 186, 187, 188, 189, 190, 191, 192, 193, 194, 195, 196, 197, 198, 199] [(12, (.int .i64)), (13, (.int .i64))]))) (.seq .leaf .leaf))))))

set_option maxRecDepth 100000 in
theorem gref1_reduced_ok (x0 : Int) (x1 : Option Addr) (x1l x1c : Nat) (x2 : Option Addr) (x2l x2c : Nat) (R : Ending → World → Prop) (w : World) (h : gref1_reduced x0 x1 x1l x1c x2 x2l x2c R w) : Cs Try.prog 67 (#[(.int .i64 x0), (.slice x1 x1l x1c), (.slice x2 x2l x2c)] : Array Value) w R :=
  fn_sound (ty := []) (ann := gref1_reduced_an) (N := 203) (by kernel_rfl) (by kernel_rfl) Try.func67 rfl (by kernel_rfl) (by show 3 ≤ 203; decide) (by kernel_rfl)
    (Eq.mpr (show cdA Try.prog [] gref1_reduced_an _ _ _ w = gref1_reduced x0 x1 x1l x1c x2 x2l x2c R w by kernel_rfl) h)

end Go.SR
