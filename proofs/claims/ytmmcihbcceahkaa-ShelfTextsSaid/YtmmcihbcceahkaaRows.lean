/-
  No cell of these rows narrows 'for every input' (looked for: loops, veiled, ifaces, maps, wideKeys, modest, calm, conditions, laid).
  DERIVED. THE GIVEN ROWS OF THIS SEAT. 8 by the template 'for every input the law returns true; each argument reads behind the call as it read before'; 0 by the template 'total and deterministic' (their statements: YtmmcihbcceahkaaTotals.lean).
  GIVEN WITH THE SEED: the statements are not yours to turn. If you find one false, say at which input.
  Laid BY PROGRAM, IN A SANDBOX (cutbox-rows.mjs): the forced cells as the released guide's own fill.sh prints them over the translation eab0f1edf0843987… (all of the seat's roots in one cut). By AI agents, Wed Nov 11 2026. No macro, syntax, notation, axiom, sorry.
-/
import Derived.Test.YtmmcihbcceahkaaChecked
import GoSem.Claim
import GoSem.ClaimJoined
import GoSem.ClaimMapViews
import Derived.JoinedTies
import Derived.KernelRfl
namespace Go.Proofs.Ytmmcihbcceahkaa
/- THE CELL 'sum', in the pinned program and in every row, IS THE sha256 OF THE DUMP (.gsa) THAT YtmmcihbcceahkaaProg.lean LOADS. Nothing in Lean hashes anything: it is a label: what it is worth is what the hold of that sum in a sandbox is worth. -/
noncomputable def Try.pinned : Pinned := { name := "ytmmcihbcceahkaa", sum := "eab0f1edf08439878d9237e233c861733c4e47394757bac59910dbc3c6ef3342", checked := Try.checked }
namespace Rows
def none {H : Type} : Left H := { results := [], args := [] }

/-- 'girandolelaw14.TreeAll': WHATEVER THE INPUT: true; the input reads as it did. -/
def treeAllSpec : ChangeSpec := { name := "treeAll", fn := fun _ => fun
  | [d1, d2] => { results := [.lit (.bool true)], args := [d1, d2] }
  | _ => none }
def treeAllRow : OpenClaim := { program := "ytmmcihbcceahkaa", sum := "eab0f1edf08439878d9237e233c861733c4e47394757bac59910dbc3c6ef3342", func := "girandole/girandolelaw14.TreeAll", spec := "treeAll", unfollowed := true, recurses := true, apart := false }
def TreeAllSaid : Prop := treeAllRow.holds Try.pinned (OpenSpec.ofChange treeAllSpec)

/-- ITS FALSE NEIGHBOUR: 'it returns false'. Refute it at one input. -/
def treeAllWrong : ChangeSpec := { name := "treeAll", fn := fun _ => fun
  | [d1, d2] => { results := [.lit (.bool false)], args := [d1, d2] }
  | _ => none }
def TreeAllWrongFalsely : Prop := treeAllRow.holds Try.pinned (OpenSpec.ofChange treeAllWrong)

/-- 'girandolelaw14.TreeBoth': WHATEVER THE INPUT: true; the input reads as it did. -/
def treeBothSpec : ChangeSpec := { name := "treeBoth", fn := fun _ => fun
  | [d] => { results := [.lit (.bool true)], args := [d] }
  | _ => none }
def treeBothRow : OpenClaim := { program := "ytmmcihbcceahkaa", sum := "eab0f1edf08439878d9237e233c861733c4e47394757bac59910dbc3c6ef3342", func := "girandole/girandolelaw14.TreeBoth", spec := "treeBoth", unfollowed := true, recurses := true, apart := false }
def TreeBothSaid : Prop := treeBothRow.holds Try.pinned (OpenSpec.ofChange treeBothSpec)

/-- ITS FALSE NEIGHBOUR: 'it returns false'. Refute it at one input. -/
def treeBothWrong : ChangeSpec := { name := "treeBoth", fn := fun _ => fun
  | [d] => { results := [.lit (.bool false)], args := [d] }
  | _ => none }
def TreeBothWrongFalsely : Prop := treeBothRow.holds Try.pinned (OpenSpec.ofChange treeBothWrong)

/-- 'girandolelaw14.TreeRefs': WHATEVER THE INPUT: true; the input reads as it did. -/
def treeRefsSpec : ChangeSpec := { name := "treeRefs", fn := fun _ => fun
  | [d] => { results := [.lit (.bool true)], args := [d] }
  | _ => none }
def treeRefsRow : OpenClaim := { program := "ytmmcihbcceahkaa", sum := "eab0f1edf08439878d9237e233c861733c4e47394757bac59910dbc3c6ef3342", func := "girandole/girandolelaw14.TreeRefs", spec := "treeRefs", unfollowed := true, recurses := true, apart := false }
def TreeRefsSaid : Prop := treeRefsRow.holds Try.pinned (OpenSpec.ofChange treeRefsSpec)

/-- ITS FALSE NEIGHBOUR: 'it returns false'. Refute it at one input. -/
def treeRefsWrong : ChangeSpec := { name := "treeRefs", fn := fun _ => fun
  | [d] => { results := [.lit (.bool false)], args := [d] }
  | _ => none }
def TreeRefsWrongFalsely : Prop := treeRefsRow.holds Try.pinned (OpenSpec.ofChange treeRefsWrong)

/-- 'girandolelaw16.TallyAny': WHATEVER THE INPUT: true; the input reads as it did. -/
def tallyAnySpec : ChangeSpec := { name := "tallyAny", fn := fun _ => fun
  | [d1, d2] => { results := [.lit (.bool true)], args := [d1, d2] }
  | _ => none }
def tallyAnyRow : OpenClaim := { program := "ytmmcihbcceahkaa", sum := "eab0f1edf08439878d9237e233c861733c4e47394757bac59910dbc3c6ef3342", func := "girandole/girandolelaw16.TallyAny", spec := "tallyAny", unfollowed := true, recurses := true, apart := false }
def TallyAnySaid : Prop := tallyAnyRow.holds Try.pinned (OpenSpec.ofChange tallyAnySpec)

/-- ITS FALSE NEIGHBOUR: 'it returns false'. Refute it at one input. -/
def tallyAnyWrong : ChangeSpec := { name := "tallyAny", fn := fun _ => fun
  | [d1, d2] => { results := [.lit (.bool false)], args := [d1, d2] }
  | _ => none }
def TallyAnyWrongFalsely : Prop := tallyAnyRow.holds Try.pinned (OpenSpec.ofChange tallyAnyWrong)

/-- 'girandolelaw24.ShelfFull': WHATEVER THE INPUT: true; the input reads as it did. -/
def shelfFullSpec : ChangeSpec := { name := "shelfFull", fn := fun _ => fun
  | [d1, d2, d3] => { results := [.lit (.bool true)], args := [d1, d2, d3] }
  | _ => none }
def shelfFullRow : OpenClaim := { program := "ytmmcihbcceahkaa", sum := "eab0f1edf08439878d9237e233c861733c4e47394757bac59910dbc3c6ef3342", func := "girandole/girandolelaw24.ShelfFull", spec := "shelfFull", unfollowed := true, recurses := true, apart := false }
def ShelfFullSaid : Prop := shelfFullRow.holds Try.pinned (OpenSpec.ofChange shelfFullSpec)

/-- ITS FALSE NEIGHBOUR: 'it returns false'. Refute it at one input. -/
def shelfFullWrong : ChangeSpec := { name := "shelfFull", fn := fun _ => fun
  | [d1, d2, d3] => { results := [.lit (.bool false)], args := [d1, d2, d3] }
  | _ => none }
def ShelfFullWrongFalsely : Prop := shelfFullRow.holds Try.pinned (OpenSpec.ofChange shelfFullWrong)

/-- 'girandolelaw24.ShelfTexts': WHATEVER THE INPUT: true; the input reads as it did. -/
def shelfTextsSpec : ChangeSpec := { name := "shelfTexts", fn := fun _ => fun
  | [d1, d2, d3] => { results := [.lit (.bool true)], args := [d1, d2, d3] }
  | _ => none }
def shelfTextsRow : OpenClaim := { program := "ytmmcihbcceahkaa", sum := "eab0f1edf08439878d9237e233c861733c4e47394757bac59910dbc3c6ef3342", func := "girandole/girandolelaw24.ShelfTexts", spec := "shelfTexts", unfollowed := true, recurses := true, apart := false }
def ShelfTextsSaid : Prop := shelfTextsRow.holds Try.pinned (OpenSpec.ofChange shelfTextsSpec)

/-- ITS FALSE NEIGHBOUR: 'it returns false'. Refute it at one input. -/
def shelfTextsWrong : ChangeSpec := { name := "shelfTexts", fn := fun _ => fun
  | [d1, d2, d3] => { results := [.lit (.bool false)], args := [d1, d2, d3] }
  | _ => none }
def ShelfTextsWrongFalsely : Prop := shelfTextsRow.holds Try.pinned (OpenSpec.ofChange shelfTextsWrong)

/-- 'girandolelaw24.ShelfForms': WHATEVER THE INPUT: true; the input reads as it did. -/
def shelfFormsSpec : ChangeSpec := { name := "shelfForms", fn := fun _ => fun
  | [] => { results := [.lit (.bool true)], args := [] }
  | _ => none }
def shelfFormsRow : OpenClaim := { program := "ytmmcihbcceahkaa", sum := "eab0f1edf08439878d9237e233c861733c4e47394757bac59910dbc3c6ef3342", func := "girandole/girandolelaw24.ShelfForms", spec := "shelfForms", unfollowed := true, recurses := true, apart := false }
def ShelfFormsSaid : Prop := shelfFormsRow.holds Try.pinned (OpenSpec.ofChange shelfFormsSpec)

/-- ITS FALSE NEIGHBOUR: 'it returns false'. Refute it at one input. -/
def shelfFormsWrong : ChangeSpec := { name := "shelfForms", fn := fun _ => fun
  | [] => { results := [.lit (.bool false)], args := [] }
  | _ => none }
def ShelfFormsWrongFalsely : Prop := shelfFormsRow.holds Try.pinned (OpenSpec.ofChange shelfFormsWrong)

/-- 'girandolelaw24.ShelfRanks': WHATEVER THE INPUT: true; the input reads as it did. -/
def shelfRanksSpec : ChangeSpec := { name := "shelfRanks", fn := fun _ => fun
  | [d1, d2, d3] => { results := [.lit (.bool true)], args := [d1, d2, d3] }
  | _ => none }
def shelfRanksRow : OpenClaim := { program := "ytmmcihbcceahkaa", sum := "eab0f1edf08439878d9237e233c861733c4e47394757bac59910dbc3c6ef3342", func := "girandole/girandolelaw24.ShelfRanks", spec := "shelfRanks", unfollowed := true, recurses := true, apart := false }
def ShelfRanksSaid : Prop := shelfRanksRow.holds Try.pinned (OpenSpec.ofChange shelfRanksSpec)

/-- ITS FALSE NEIGHBOUR: 'it returns false'. Refute it at one input. -/
def shelfRanksWrong : ChangeSpec := { name := "shelfRanks", fn := fun _ => fun
  | [d1, d2, d3] => { results := [.lit (.bool false)], args := [d1, d2, d3] }
  | _ => none }
def ShelfRanksWrongFalsely : Prop := shelfRanksRow.holds Try.pinned (OpenSpec.ofChange shelfRanksWrong)

/- THE SECOND FORM. 'bulk': how many values and letters a reading holds, each counted each time it is reached (what is shared counts as often as it is met; a slice's spare places count too). A statement '..UptoSaid' is the law's where the arguments, and the package variables that the reading takes, are together of bulk at most 1048576: NARROWER than '..Said'. Prove '..Said' where nothing that the law and all that it calls make is longer than what came in: it says more and counts as full. Else prove '..UptoSaid'. A law counts once. -/
mutual
def uptoBulk {H : Type} : DataW H → Nat
  | .lit (.string bytes) => bytes.length + 1
  | .lit _ => 1
  | .nil => 1
  | .ptr d => uptoBulk d + 1
  | .slice elems spare => uptoBulkAll elems + uptoBulkAll spare + 1
  | .agg parts => uptoBulkAll parts + 1
  | .iface _ d => uptoBulk d + 1
  | .map entries => uptoBulkEntries entries + 1
  | .held _ => 1
def uptoBulkAll {H : Type} : List (DataW H) → Nat
  | [] => 0
  | d :: r => uptoBulk d + uptoBulkAll r
def uptoBulkEntries {H : Type} : List (Lit × DataW H) → Nat
  | [] => 0
  | x :: r => uptoBulkEntry x + uptoBulkEntries r
def uptoBulkEntry {H : Type} : Lit × DataW H → Nat
  | (.string bytes, d) => bytes.length + uptoBulk d + 1
  | (_, d) => uptoBulk d + 1
 end
def uptoSmall : (H : Type) → List (DataW H) → Bool := fun _ ds => decide (uptoBulkAll ds ≤ 1048576)
def OpenSpec.upto (s : _root_.Go.ChangeSpec) : _root_.Go.OpenSpec := { _root_.Go.OpenSpec.ofChange s with cond := some uptoSmall }

/-- 'girandolelaw14.TreeAll', WHERE WHAT IT READS IS OF BULK AT MOST 1048576: true; the input reads as it did. -/
def treeAllUptoRow : OpenClaim := { program := "ytmmcihbcceahkaa", sum := "eab0f1edf08439878d9237e233c861733c4e47394757bac59910dbc3c6ef3342", func := "girandole/girandolelaw14.TreeAll", spec := "treeAll", unfollowed := true, recurses := true, apart := false, narrowed := true }
def TreeAllUptoSaid : Prop := treeAllUptoRow.holds Try.pinned (OpenSpec.upto treeAllSpec)

/-- 'girandolelaw14.TreeBoth', WHERE WHAT IT READS IS OF BULK AT MOST 1048576: true; the input reads as it did. -/
def treeBothUptoRow : OpenClaim := { program := "ytmmcihbcceahkaa", sum := "eab0f1edf08439878d9237e233c861733c4e47394757bac59910dbc3c6ef3342", func := "girandole/girandolelaw14.TreeBoth", spec := "treeBoth", unfollowed := true, recurses := true, apart := false, narrowed := true }
def TreeBothUptoSaid : Prop := treeBothUptoRow.holds Try.pinned (OpenSpec.upto treeBothSpec)

/-- 'girandolelaw14.TreeRefs', WHERE WHAT IT READS IS OF BULK AT MOST 1048576: true; the input reads as it did. -/
def treeRefsUptoRow : OpenClaim := { program := "ytmmcihbcceahkaa", sum := "eab0f1edf08439878d9237e233c861733c4e47394757bac59910dbc3c6ef3342", func := "girandole/girandolelaw14.TreeRefs", spec := "treeRefs", unfollowed := true, recurses := true, apart := false, narrowed := true }
def TreeRefsUptoSaid : Prop := treeRefsUptoRow.holds Try.pinned (OpenSpec.upto treeRefsSpec)

/-- 'girandolelaw16.TallyAny', WHERE WHAT IT READS IS OF BULK AT MOST 1048576: true; the input reads as it did. -/
def tallyAnyUptoRow : OpenClaim := { program := "ytmmcihbcceahkaa", sum := "eab0f1edf08439878d9237e233c861733c4e47394757bac59910dbc3c6ef3342", func := "girandole/girandolelaw16.TallyAny", spec := "tallyAny", unfollowed := true, recurses := true, apart := false, narrowed := true }
def TallyAnyUptoSaid : Prop := tallyAnyUptoRow.holds Try.pinned (OpenSpec.upto tallyAnySpec)

/-- 'girandolelaw24.ShelfFull', WHERE WHAT IT READS IS OF BULK AT MOST 1048576: true; the input reads as it did. -/
def shelfFullUptoRow : OpenClaim := { program := "ytmmcihbcceahkaa", sum := "eab0f1edf08439878d9237e233c861733c4e47394757bac59910dbc3c6ef3342", func := "girandole/girandolelaw24.ShelfFull", spec := "shelfFull", unfollowed := true, recurses := true, apart := false, narrowed := true }
def ShelfFullUptoSaid : Prop := shelfFullUptoRow.holds Try.pinned (OpenSpec.upto shelfFullSpec)

/-- 'girandolelaw24.ShelfTexts', WHERE WHAT IT READS IS OF BULK AT MOST 1048576: true; the input reads as it did. -/
def shelfTextsUptoRow : OpenClaim := { program := "ytmmcihbcceahkaa", sum := "eab0f1edf08439878d9237e233c861733c4e47394757bac59910dbc3c6ef3342", func := "girandole/girandolelaw24.ShelfTexts", spec := "shelfTexts", unfollowed := true, recurses := true, apart := false, narrowed := true }
def ShelfTextsUptoSaid : Prop := shelfTextsUptoRow.holds Try.pinned (OpenSpec.upto shelfTextsSpec)

/-- 'girandolelaw24.ShelfForms', WHERE WHAT IT READS IS OF BULK AT MOST 1048576: true; the input reads as it did. -/
def shelfFormsUptoRow : OpenClaim := { program := "ytmmcihbcceahkaa", sum := "eab0f1edf08439878d9237e233c861733c4e47394757bac59910dbc3c6ef3342", func := "girandole/girandolelaw24.ShelfForms", spec := "shelfForms", unfollowed := true, recurses := true, apart := false, narrowed := true }
def ShelfFormsUptoSaid : Prop := shelfFormsUptoRow.holds Try.pinned (OpenSpec.upto shelfFormsSpec)

/-- 'girandolelaw24.ShelfRanks', WHERE WHAT IT READS IS OF BULK AT MOST 1048576: true; the input reads as it did. -/
def shelfRanksUptoRow : OpenClaim := { program := "ytmmcihbcceahkaa", sum := "eab0f1edf08439878d9237e233c861733c4e47394757bac59910dbc3c6ef3342", func := "girandole/girandolelaw24.ShelfRanks", spec := "shelfRanks", unfollowed := true, recurses := true, apart := false, narrowed := true }
def ShelfRanksUptoSaid : Prop := shelfRanksUptoRow.holds Try.pinned (OpenSpec.upto shelfRanksSpec)

end Rows
end Go.Proofs.Ytmmcihbcceahkaa
