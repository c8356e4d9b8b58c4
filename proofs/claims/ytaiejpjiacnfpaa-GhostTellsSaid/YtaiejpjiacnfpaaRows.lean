/-
  No cell of these rows narrows 'for every input' (looked for: loops, veiled, ifaces, maps, wideKeys, modest, calm, conditions, laid).
  DERIVED. THE GIVEN ROWS OF THIS SEAT. 5 by the template 'for every input the law returns true; each argument reads behind the call as it read before'; 0 by the template 'total and deterministic' (their statements: YtaiejpjiacnfpaaTotals.lean).
  GIVEN WITH THE SEED: the statements are not yours to turn. If you find one false, say at which input.
  Laid BY PROGRAM, IN A SANDBOX (cutbox-rows.mjs): the forced cells as the released guide's own fill.sh prints them over the translation 8ce6d2213e5881ef… (all of the seat's roots in one cut). By AI agents, Wed Nov 11 2026. No macro, syntax, notation, axiom, sorry.
-/
import Derived.Test.YtaiejpjiacnfpaaChecked
import GoSem.Claim
import GoSem.ClaimJoined
import GoSem.ClaimMapViews
import Derived.JoinedTies
import Derived.KernelRfl
namespace Go.Proofs.Ytaiejpjiacnfpaa
/- THE CELL 'sum', in the pinned program and in every row, IS THE sha256 OF THE DUMP (.gsa) THAT YtaiejpjiacnfpaaProg.lean LOADS. Nothing in Lean hashes anything: it is a label: what it is worth is what the hold of that sum in a sandbox is worth. -/
noncomputable def Try.pinned : Pinned := { name := "ytaiejpjiacnfpaa", sum := "8ce6d2213e5881ef353c28e8cd3adbe0cad8ebc8ae88e7c76956520eb42f32b2", checked := Try.checked }
namespace Rows
def none {H : Type} : Left H := { results := [], args := [] }

/-- 'cardexlaw15.GhostEach': WHATEVER THE INPUT: true; the input reads as it did. -/
def ghostEachSpec : ChangeSpec := { name := "ghostEach", fn := fun _ => fun
  | [d1, d2, d3, d4, d5, d6] => { results := [.lit (.bool true)], args := [d1, d2, d3, d4, d5, d6] }
  | _ => none }
def ghostEachRow : OpenClaim := { program := "ytaiejpjiacnfpaa", sum := "8ce6d2213e5881ef353c28e8cd3adbe0cad8ebc8ae88e7c76956520eb42f32b2", func := "cardex/cardexlaw15.GhostEach", spec := "ghostEach", apart := false }
def GhostEachSaid : Prop := ghostEachRow.holds Try.pinned (OpenSpec.ofChange ghostEachSpec)

/-- ITS FALSE NEIGHBOUR: 'it returns false'. Refute it at one input. -/
def ghostEachWrong : ChangeSpec := { name := "ghostEach", fn := fun _ => fun
  | [d1, d2, d3, d4, d5, d6] => { results := [.lit (.bool false)], args := [d1, d2, d3, d4, d5, d6] }
  | _ => none }
def GhostEachWrongFalsely : Prop := ghostEachRow.holds Try.pinned (OpenSpec.ofChange ghostEachWrong)

/-- 'cardexlaw15.GhostMerges': WHATEVER THE INPUT: true; the input reads as it did. -/
def ghostMergesSpec : ChangeSpec := { name := "ghostMerges", fn := fun _ => fun
  | [d1, d2, d3, d4] => { results := [.lit (.bool true)], args := [d1, d2, d3, d4] }
  | _ => none }
def ghostMergesRow : OpenClaim := { program := "ytaiejpjiacnfpaa", sum := "8ce6d2213e5881ef353c28e8cd3adbe0cad8ebc8ae88e7c76956520eb42f32b2", func := "cardex/cardexlaw15.GhostMerges", spec := "ghostMerges", apart := false }
def GhostMergesSaid : Prop := ghostMergesRow.holds Try.pinned (OpenSpec.ofChange ghostMergesSpec)

/-- ITS FALSE NEIGHBOUR: 'it returns false'. Refute it at one input. -/
def ghostMergesWrong : ChangeSpec := { name := "ghostMerges", fn := fun _ => fun
  | [d1, d2, d3, d4] => { results := [.lit (.bool false)], args := [d1, d2, d3, d4] }
  | _ => none }
def GhostMergesWrongFalsely : Prop := ghostMergesRow.holds Try.pinned (OpenSpec.ofChange ghostMergesWrong)

/-- 'cardexlaw15.GhostAgain': WHATEVER THE INPUT: true; the input reads as it did. -/
def ghostAgainSpec : ChangeSpec := { name := "ghostAgain", fn := fun _ => fun
  | [d1, d2, d3, d4, d5] => { results := [.lit (.bool true)], args := [d1, d2, d3, d4, d5] }
  | _ => none }
def ghostAgainRow : OpenClaim := { program := "ytaiejpjiacnfpaa", sum := "8ce6d2213e5881ef353c28e8cd3adbe0cad8ebc8ae88e7c76956520eb42f32b2", func := "cardex/cardexlaw15.GhostAgain", spec := "ghostAgain", apart := false }
def GhostAgainSaid : Prop := ghostAgainRow.holds Try.pinned (OpenSpec.ofChange ghostAgainSpec)

/-- ITS FALSE NEIGHBOUR: 'it returns false'. Refute it at one input. -/
def ghostAgainWrong : ChangeSpec := { name := "ghostAgain", fn := fun _ => fun
  | [d1, d2, d3, d4, d5] => { results := [.lit (.bool false)], args := [d1, d2, d3, d4, d5] }
  | _ => none }
def GhostAgainWrongFalsely : Prop := ghostAgainRow.holds Try.pinned (OpenSpec.ofChange ghostAgainWrong)

/-- 'cardexlaw21.ClashOf': WHATEVER THE INPUT: true; the input reads as it did. -/
def clashOfSpec : ChangeSpec := { name := "clashOf", fn := fun _ => fun
  | [d1, d2, d3, d4, d5, d6, d7] => { results := [.lit (.bool true)], args := [d1, d2, d3, d4, d5, d6, d7] }
  | _ => none }
def clashOfRow : OpenClaim := { program := "ytaiejpjiacnfpaa", sum := "8ce6d2213e5881ef353c28e8cd3adbe0cad8ebc8ae88e7c76956520eb42f32b2", func := "cardex/cardexlaw21.ClashOf", spec := "clashOf", apart := false }
def ClashOfSaid : Prop := clashOfRow.holds Try.pinned (OpenSpec.ofChange clashOfSpec)

/-- ITS FALSE NEIGHBOUR: 'it returns false'. Refute it at one input. -/
def clashOfWrong : ChangeSpec := { name := "clashOf", fn := fun _ => fun
  | [d1, d2, d3, d4, d5, d6, d7] => { results := [.lit (.bool false)], args := [d1, d2, d3, d4, d5, d6, d7] }
  | _ => none }
def ClashOfWrongFalsely : Prop := clashOfRow.holds Try.pinned (OpenSpec.ofChange clashOfWrong)

/-- 'cardexlaw15.GhostTells': WHATEVER THE INPUT: true; the input reads as it did. -/
def ghostTellsSpec : ChangeSpec := { name := "ghostTells", fn := fun _ => fun
  | [d1, d2, d3, d4, d5] => { results := [.lit (.bool true)], args := [d1, d2, d3, d4, d5] }
  | _ => none }
def ghostTellsRow : OpenClaim := { program := "ytaiejpjiacnfpaa", sum := "8ce6d2213e5881ef353c28e8cd3adbe0cad8ebc8ae88e7c76956520eb42f32b2", func := "cardex/cardexlaw15.GhostTells", spec := "ghostTells", apart := false }
def GhostTellsSaid : Prop := ghostTellsRow.holds Try.pinned (OpenSpec.ofChange ghostTellsSpec)

/-- ITS FALSE NEIGHBOUR: 'it returns false'. Refute it at one input. -/
def ghostTellsWrong : ChangeSpec := { name := "ghostTells", fn := fun _ => fun
  | [d1, d2, d3, d4, d5] => { results := [.lit (.bool false)], args := [d1, d2, d3, d4, d5] }
  | _ => none }
def GhostTellsWrongFalsely : Prop := ghostTellsRow.holds Try.pinned (OpenSpec.ofChange ghostTellsWrong)

/- THE SECOND FORM. 'bulk': how many values and letters a reading holds, each counted each time it is reached (what is shared counts as often as it is met; a slice's spare places count too). A statement '..UptoSaid' is the law's where the arguments, and the package variables that the reading takes, are together of bulk at most 1048576: NARROWER than '..Said'. Prove '..Said' where nothing that the law and all that it calls make is longer than what came in: it says more and counts as full. Else prove '..UptoSaid'. A law counts once. -/
mutual
def uptoBulk {H : Type} : DataW H → Nat
  | .lit (.string bytes) => bytes.length + 1
  | .lit _ => 1
  | .nil => 1
  | .ptr d => uptoBulk d + 1
  | .slice elems spare => uptoBulkAll elems + uptoBulkAll spare + 1
  | .agg parts => uptoBulkAll parts + 1
  | .iface _ d => uptoBulk d + 1
  | .map entries => uptoBulkEntries entries + 1
  | .held _ => 1
def uptoBulkAll {H : Type} : List (DataW H) → Nat
  | [] => 0
  | d :: r => uptoBulk d + uptoBulkAll r
def uptoBulkEntries {H : Type} : List (Lit × DataW H) → Nat
  | [] => 0
  | x :: r => uptoBulkEntry x + uptoBulkEntries r
def uptoBulkEntry {H : Type} : Lit × DataW H → Nat
  | (.string bytes, d) => bytes.length + uptoBulk d + 1
  | (_, d) => uptoBulk d + 1
 end
def uptoSmall : (H : Type) → List (DataW H) → Bool := fun _ ds => decide (uptoBulkAll ds ≤ 1048576)
def OpenSpec.upto (s : _root_.Go.ChangeSpec) : _root_.Go.OpenSpec := { _root_.Go.OpenSpec.ofChange s with cond := some uptoSmall }

/-- 'cardexlaw15.GhostEach', WHERE WHAT IT READS IS OF BULK AT MOST 1048576: true; the input reads as it did. -/
def ghostEachUptoRow : OpenClaim := { program := "ytaiejpjiacnfpaa", sum := "8ce6d2213e5881ef353c28e8cd3adbe0cad8ebc8ae88e7c76956520eb42f32b2", func := "cardex/cardexlaw15.GhostEach", spec := "ghostEach", apart := false, narrowed := true }
def GhostEachUptoSaid : Prop := ghostEachUptoRow.holds Try.pinned (OpenSpec.upto ghostEachSpec)

/-- 'cardexlaw15.GhostMerges', WHERE WHAT IT READS IS OF BULK AT MOST 1048576: true; the input reads as it did. -/
def ghostMergesUptoRow : OpenClaim := { program := "ytaiejpjiacnfpaa", sum := "8ce6d2213e5881ef353c28e8cd3adbe0cad8ebc8ae88e7c76956520eb42f32b2", func := "cardex/cardexlaw15.GhostMerges", spec := "ghostMerges", apart := false, narrowed := true }
def GhostMergesUptoSaid : Prop := ghostMergesUptoRow.holds Try.pinned (OpenSpec.upto ghostMergesSpec)

/-- 'cardexlaw15.GhostAgain', WHERE WHAT IT READS IS OF BULK AT MOST 1048576: true; the input reads as it did. -/
def ghostAgainUptoRow : OpenClaim := { program := "ytaiejpjiacnfpaa", sum := "8ce6d2213e5881ef353c28e8cd3adbe0cad8ebc8ae88e7c76956520eb42f32b2", func := "cardex/cardexlaw15.GhostAgain", spec := "ghostAgain", apart := false, narrowed := true }
def GhostAgainUptoSaid : Prop := ghostAgainUptoRow.holds Try.pinned (OpenSpec.upto ghostAgainSpec)

/-- 'cardexlaw21.ClashOf', WHERE WHAT IT READS IS OF BULK AT MOST 1048576: true; the input reads as it did. -/
def clashOfUptoRow : OpenClaim := { program := "ytaiejpjiacnfpaa", sum := "8ce6d2213e5881ef353c28e8cd3adbe0cad8ebc8ae88e7c76956520eb42f32b2", func := "cardex/cardexlaw21.ClashOf", spec := "clashOf", apart := false, narrowed := true }
def ClashOfUptoSaid : Prop := clashOfUptoRow.holds Try.pinned (OpenSpec.upto clashOfSpec)

/-- 'cardexlaw15.GhostTells', WHERE WHAT IT READS IS OF BULK AT MOST 1048576: true; the input reads as it did. -/
def ghostTellsUptoRow : OpenClaim := { program := "ytaiejpjiacnfpaa", sum := "8ce6d2213e5881ef353c28e8cd3adbe0cad8ebc8ae88e7c76956520eb42f32b2", func := "cardex/cardexlaw15.GhostTells", spec := "ghostTells", apart := false, narrowed := true }
def GhostTellsUptoSaid : Prop := ghostTellsUptoRow.holds Try.pinned (OpenSpec.upto ghostTellsSpec)

end Rows
end Go.Proofs.Ytaiejpjiacnfpaa
