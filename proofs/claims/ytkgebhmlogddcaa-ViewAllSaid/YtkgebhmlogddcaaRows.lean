/-
  No cell of these rows narrows 'for every input' (looked for: loops, veiled, ifaces, maps, wideKeys, modest, calm, conditions, laid).
  DERIVED. THE GIVEN ROWS OF THIS SEAT. 7 by the template 'for every input the law returns true; each argument reads behind the call as it read before'; 0 by the template 'total and deterministic' (their statements: YtkgebhmlogddcaaTotals.lean).
  GIVEN WITH THE SEED: the statements are not yours to turn. If you find one false, say at which input.
  Laid BY PROGRAM, IN A SANDBOX (cutbox-rows.mjs): the forced cells as the released guide's own fill.sh prints them over the translation 2ab2ce4478b8c79d… (all of the seat's roots in one cut). By AI agents, Wed Nov 11 2026. No macro, syntax, notation, axiom, sorry.
-/
import Derived.Test.YtkgebhmlogddcaaChecked
import GoSem.Claim
import GoSem.ClaimJoined
import GoSem.ClaimMapViews
import Derived.JoinedTies
import Derived.KernelRfl
namespace Go.Proofs.Ytkgebhmlogddcaa
/- THE CELL 'sum', in the pinned program and in every row, IS THE sha256 OF THE DUMP (.gsa) THAT YtkgebhmlogddcaaProg.lean LOADS. Nothing in Lean hashes anything: it is a label: what it is worth is what the hold of that sum in a sandbox is worth. -/
noncomputable def Try.pinned : Pinned := { name := "ytkgebhmlogddcaa", sum := "2ab2ce4478b8c79d7c7783f696ef121e967e91e691ebb914e5d16f43df505df1", checked := Try.checked }
namespace Rows
def none {H : Type} : Left H := { results := [], args := [] }

/-- 'cardexlaw19.ItemDoes': WHATEVER THE INPUT: true; the input reads as it did. -/
def itemDoesSpec : ChangeSpec := { name := "itemDoes", fn := fun _ => fun
  | [d1, d2] => { results := [.lit (.bool true)], args := [d1, d2] }
  | _ => none }
def itemDoesRow : OpenClaim := { program := "ytkgebhmlogddcaa", sum := "2ab2ce4478b8c79d7c7783f696ef121e967e91e691ebb914e5d16f43df505df1", func := "cardex/cardexlaw19.ItemDoes", spec := "itemDoes", unfollowed := true, recurses := true, apart := false }
def ItemDoesSaid : Prop := itemDoesRow.holds Try.pinned (OpenSpec.ofChange itemDoesSpec)

/-- ITS FALSE NEIGHBOUR: 'it returns false'. Refute it at one input. -/
def itemDoesWrong : ChangeSpec := { name := "itemDoes", fn := fun _ => fun
  | [d1, d2] => { results := [.lit (.bool false)], args := [d1, d2] }
  | _ => none }
def ItemDoesWrongFalsely : Prop := itemDoesRow.holds Try.pinned (OpenSpec.ofChange itemDoesWrong)

/-- 'cardexlaw19.ItemBack': WHATEVER THE INPUT: true; the input reads as it did. -/
def itemBackSpec : ChangeSpec := { name := "itemBack", fn := fun _ => fun
  | [d1, d2, d3] => { results := [.lit (.bool true)], args := [d1, d2, d3] }
  | _ => none }
def itemBackRow : OpenClaim := { program := "ytkgebhmlogddcaa", sum := "2ab2ce4478b8c79d7c7783f696ef121e967e91e691ebb914e5d16f43df505df1", func := "cardex/cardexlaw19.ItemBack", spec := "itemBack", unfollowed := true, recurses := true, apart := false }
def ItemBackSaid : Prop := itemBackRow.holds Try.pinned (OpenSpec.ofChange itemBackSpec)

/-- ITS FALSE NEIGHBOUR: 'it returns false'. Refute it at one input. -/
def itemBackWrong : ChangeSpec := { name := "itemBack", fn := fun _ => fun
  | [d1, d2, d3] => { results := [.lit (.bool false)], args := [d1, d2, d3] }
  | _ => none }
def ItemBackWrongFalsely : Prop := itemBackRow.holds Try.pinned (OpenSpec.ofChange itemBackWrong)

/-- 'cardexlaw19.ItemParts': WHATEVER THE INPUT: true; the input reads as it did. -/
def itemPartsSpec : ChangeSpec := { name := "itemParts", fn := fun _ => fun
  | [d1, d2] => { results := [.lit (.bool true)], args := [d1, d2] }
  | _ => none }
def itemPartsRow : OpenClaim := { program := "ytkgebhmlogddcaa", sum := "2ab2ce4478b8c79d7c7783f696ef121e967e91e691ebb914e5d16f43df505df1", func := "cardex/cardexlaw19.ItemParts", spec := "itemParts", unfollowed := true, recurses := true, apart := false }
def ItemPartsSaid : Prop := itemPartsRow.holds Try.pinned (OpenSpec.ofChange itemPartsSpec)

/-- ITS FALSE NEIGHBOUR: 'it returns false'. Refute it at one input. -/
def itemPartsWrong : ChangeSpec := { name := "itemParts", fn := fun _ => fun
  | [d1, d2] => { results := [.lit (.bool false)], args := [d1, d2] }
  | _ => none }
def ItemPartsWrongFalsely : Prop := itemPartsRow.holds Try.pinned (OpenSpec.ofChange itemPartsWrong)

/-- 'cardexlaw19.ItemTells': WHATEVER THE INPUT: true; the input reads as it did. -/
def itemTellsSpec : ChangeSpec := { name := "itemTells", fn := fun _ => fun
  | [d1, d2, d3, d4] => { results := [.lit (.bool true)], args := [d1, d2, d3, d4] }
  | _ => none }
def itemTellsRow : OpenClaim := { program := "ytkgebhmlogddcaa", sum := "2ab2ce4478b8c79d7c7783f696ef121e967e91e691ebb914e5d16f43df505df1", func := "cardex/cardexlaw19.ItemTells", spec := "itemTells", unfollowed := true, recurses := true, apart := false }
def ItemTellsSaid : Prop := itemTellsRow.holds Try.pinned (OpenSpec.ofChange itemTellsSpec)

/-- ITS FALSE NEIGHBOUR: 'it returns false'. Refute it at one input. -/
def itemTellsWrong : ChangeSpec := { name := "itemTells", fn := fun _ => fun
  | [d1, d2, d3, d4] => { results := [.lit (.bool false)], args := [d1, d2, d3, d4] }
  | _ => none }
def ItemTellsWrongFalsely : Prop := itemTellsRow.holds Try.pinned (OpenSpec.ofChange itemTellsWrong)

/-- 'cardexlaw21.ClashTold': WHATEVER THE INPUT: true; the input reads as it did. -/
def clashToldSpec : ChangeSpec := { name := "clashTold", fn := fun _ => fun
  | [d1, d2, d3, d4, d5, d6] => { results := [.lit (.bool true)], args := [d1, d2, d3, d4, d5, d6] }
  | _ => none }
def clashToldRow : OpenClaim := { program := "ytkgebhmlogddcaa", sum := "2ab2ce4478b8c79d7c7783f696ef121e967e91e691ebb914e5d16f43df505df1", func := "cardex/cardexlaw21.ClashTold", spec := "clashTold", inPlace := ["slices.overlaps[cardex/api.Seen]"], unfollowed := true, recurses := true, apart := false }
def ClashToldSaid : Prop := clashToldRow.holds Try.pinned (OpenSpec.ofChange clashToldSpec)

/-- ITS FALSE NEIGHBOUR: 'it returns false'. Refute it at one input. -/
def clashToldWrong : ChangeSpec := { name := "clashTold", fn := fun _ => fun
  | [d1, d2, d3, d4, d5, d6] => { results := [.lit (.bool false)], args := [d1, d2, d3, d4, d5, d6] }
  | _ => none }
def ClashToldWrongFalsely : Prop := clashToldRow.holds Try.pinned (OpenSpec.ofChange clashToldWrong)

/-- 'cardexlaw20.ViewSets': WHATEVER THE INPUT: true; the input reads as it did. -/
def viewSetsSpec : ChangeSpec := { name := "viewSets", fn := fun _ => fun
  | [d1, d2, d3] => { results := [.lit (.bool true)], args := [d1, d2, d3] }
  | _ => none }
def viewSetsRow : OpenClaim := { program := "ytkgebhmlogddcaa", sum := "2ab2ce4478b8c79d7c7783f696ef121e967e91e691ebb914e5d16f43df505df1", func := "cardex/cardexlaw20.ViewSets", spec := "viewSets", inPlace := ["slices.overlaps[cardex/api.Seen]"], unfollowed := true, recurses := true, apart := false }
def ViewSetsSaid : Prop := viewSetsRow.holds Try.pinned (OpenSpec.ofChange viewSetsSpec)

/-- ITS FALSE NEIGHBOUR: 'it returns false'. Refute it at one input. -/
def viewSetsWrong : ChangeSpec := { name := "viewSets", fn := fun _ => fun
  | [d1, d2, d3] => { results := [.lit (.bool false)], args := [d1, d2, d3] }
  | _ => none }
def ViewSetsWrongFalsely : Prop := viewSetsRow.holds Try.pinned (OpenSpec.ofChange viewSetsWrong)

/-- 'cardexlaw20.ViewAll': WHATEVER THE INPUT: true; the input reads as it did. -/
def viewAllSpec : ChangeSpec := { name := "viewAll", fn := fun _ => fun
  | [d1, d2, d3] => { results := [.lit (.bool true)], args := [d1, d2, d3] }
  | _ => none }
def viewAllRow : OpenClaim := { program := "ytkgebhmlogddcaa", sum := "2ab2ce4478b8c79d7c7783f696ef121e967e91e691ebb914e5d16f43df505df1", func := "cardex/cardexlaw20.ViewAll", spec := "viewAll", inPlace := ["slices.overlaps[cardex/api.Seen]"], unfollowed := true, recurses := true, apart := false }
def ViewAllSaid : Prop := viewAllRow.holds Try.pinned (OpenSpec.ofChange viewAllSpec)

/-- ITS FALSE NEIGHBOUR: 'it returns false'. Refute it at one input. -/
def viewAllWrong : ChangeSpec := { name := "viewAll", fn := fun _ => fun
  | [d1, d2, d3] => { results := [.lit (.bool false)], args := [d1, d2, d3] }
  | _ => none }
def ViewAllWrongFalsely : Prop := viewAllRow.holds Try.pinned (OpenSpec.ofChange viewAllWrong)

/- THE SECOND FORM. 'bulk': how many values and letters a reading holds, each counted each time it is reached (what is shared counts as often as it is met; a slice's spare places count too). A statement '..UptoSaid' is the law's where the arguments, and the package variables that the reading takes, are together of bulk at most 1048576: NARROWER than '..Said'. Prove '..Said' where nothing that the law and all that it calls make is longer than what came in: it says more and counts as full. Else prove '..UptoSaid'. A law counts once. -/
mutual
def uptoBulk {H : Type} : DataW H → Nat
  | .lit (.string bytes) => bytes.length + 1
  | .lit _ => 1
  | .nil => 1
  | .ptr d => uptoBulk d + 1
  | .slice elems spare => uptoBulkAll elems + uptoBulkAll spare + 1
  | .agg parts => uptoBulkAll parts + 1
  | .iface _ d => uptoBulk d + 1
  | .map entries => uptoBulkEntries entries + 1
  | .held _ => 1
def uptoBulkAll {H : Type} : List (DataW H) → Nat
  | [] => 0
  | d :: r => uptoBulk d + uptoBulkAll r
def uptoBulkEntries {H : Type} : List (Lit × DataW H) → Nat
  | [] => 0
  | x :: r => uptoBulkEntry x + uptoBulkEntries r
def uptoBulkEntry {H : Type} : Lit × DataW H → Nat
  | (.string bytes, d) => bytes.length + uptoBulk d + 1
  | (_, d) => uptoBulk d + 1
 end
def uptoSmall : (H : Type) → List (DataW H) → Bool := fun _ ds => decide (uptoBulkAll ds ≤ 1048576)
def OpenSpec.upto (s : _root_.Go.ChangeSpec) : _root_.Go.OpenSpec := { _root_.Go.OpenSpec.ofChange s with cond := some uptoSmall }

/-- 'cardexlaw19.ItemDoes', WHERE WHAT IT READS IS OF BULK AT MOST 1048576: true; the input reads as it did. -/
def itemDoesUptoRow : OpenClaim := { program := "ytkgebhmlogddcaa", sum := "2ab2ce4478b8c79d7c7783f696ef121e967e91e691ebb914e5d16f43df505df1", func := "cardex/cardexlaw19.ItemDoes", spec := "itemDoes", unfollowed := true, recurses := true, apart := false, narrowed := true }
def ItemDoesUptoSaid : Prop := itemDoesUptoRow.holds Try.pinned (OpenSpec.upto itemDoesSpec)

/-- 'cardexlaw19.ItemBack', WHERE WHAT IT READS IS OF BULK AT MOST 1048576: true; the input reads as it did. -/
def itemBackUptoRow : OpenClaim := { program := "ytkgebhmlogddcaa", sum := "2ab2ce4478b8c79d7c7783f696ef121e967e91e691ebb914e5d16f43df505df1", func := "cardex/cardexlaw19.ItemBack", spec := "itemBack", unfollowed := true, recurses := true, apart := false, narrowed := true }
def ItemBackUptoSaid : Prop := itemBackUptoRow.holds Try.pinned (OpenSpec.upto itemBackSpec)

/-- 'cardexlaw19.ItemParts', WHERE WHAT IT READS IS OF BULK AT MOST 1048576: true; the input reads as it did. -/
def itemPartsUptoRow : OpenClaim := { program := "ytkgebhmlogddcaa", sum := "2ab2ce4478b8c79d7c7783f696ef121e967e91e691ebb914e5d16f43df505df1", func := "cardex/cardexlaw19.ItemParts", spec := "itemParts", unfollowed := true, recurses := true, apart := false, narrowed := true }
def ItemPartsUptoSaid : Prop := itemPartsUptoRow.holds Try.pinned (OpenSpec.upto itemPartsSpec)

/-- 'cardexlaw19.ItemTells', WHERE WHAT IT READS IS OF BULK AT MOST 1048576: true; the input reads as it did. -/
def itemTellsUptoRow : OpenClaim := { program := "ytkgebhmlogddcaa", sum := "2ab2ce4478b8c79d7c7783f696ef121e967e91e691ebb914e5d16f43df505df1", func := "cardex/cardexlaw19.ItemTells", spec := "itemTells", unfollowed := true, recurses := true, apart := false, narrowed := true }
def ItemTellsUptoSaid : Prop := itemTellsUptoRow.holds Try.pinned (OpenSpec.upto itemTellsSpec)

/-- 'cardexlaw21.ClashTold', WHERE WHAT IT READS IS OF BULK AT MOST 1048576: true; the input reads as it did. -/
def clashToldUptoRow : OpenClaim := { program := "ytkgebhmlogddcaa", sum := "2ab2ce4478b8c79d7c7783f696ef121e967e91e691ebb914e5d16f43df505df1", func := "cardex/cardexlaw21.ClashTold", spec := "clashTold", inPlace := ["slices.overlaps[cardex/api.Seen]"], unfollowed := true, recurses := true, apart := false, narrowed := true }
def ClashToldUptoSaid : Prop := clashToldUptoRow.holds Try.pinned (OpenSpec.upto clashToldSpec)

/-- 'cardexlaw20.ViewSets', WHERE WHAT IT READS IS OF BULK AT MOST 1048576: true; the input reads as it did. -/
def viewSetsUptoRow : OpenClaim := { program := "ytkgebhmlogddcaa", sum := "2ab2ce4478b8c79d7c7783f696ef121e967e91e691ebb914e5d16f43df505df1", func := "cardex/cardexlaw20.ViewSets", spec := "viewSets", inPlace := ["slices.overlaps[cardex/api.Seen]"], unfollowed := true, recurses := true, apart := false, narrowed := true }
def ViewSetsUptoSaid : Prop := viewSetsUptoRow.holds Try.pinned (OpenSpec.upto viewSetsSpec)

/-- 'cardexlaw20.ViewAll', WHERE WHAT IT READS IS OF BULK AT MOST 1048576: true; the input reads as it did. -/
def viewAllUptoRow : OpenClaim := { program := "ytkgebhmlogddcaa", sum := "2ab2ce4478b8c79d7c7783f696ef121e967e91e691ebb914e5d16f43df505df1", func := "cardex/cardexlaw20.ViewAll", spec := "viewAll", inPlace := ["slices.overlaps[cardex/api.Seen]"], unfollowed := true, recurses := true, apart := false, narrowed := true }
def ViewAllUptoSaid : Prop := viewAllUptoRow.holds Try.pinned (OpenSpec.upto viewAllSpec)

end Rows
end Go.Proofs.Ytkgebhmlogddcaa
