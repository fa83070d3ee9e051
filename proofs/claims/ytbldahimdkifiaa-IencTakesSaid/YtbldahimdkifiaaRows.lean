/-
  No cell of these rows narrows 'for every input' (looked for: loops, veiled, ifaces, maps, wideKeys, modest, calm, conditions, laid).
  DERIVED. THE GIVEN ROWS OF THIS SEAT. 10 by the template 'for every input the law returns true; each argument reads behind the call as it read before'; 0 by the template 'total and deterministic' (their statements: YtbldahimdkifiaaTotals.lean).
  GIVEN WITH THE SEED: the statements are not yours to turn. If you find one false, say at which input.
  Laid BY PROGRAM, IN A SANDBOX (cutbox-rows.mjs): the forced cells as the released guide's own fill.sh prints them over the translation 7f0d612fd5af8911… (all of the seat's roots in one cut). By AI agents, Wed Nov 11 2026. No macro, syntax, notation, axiom, sorry.
-/
import Derived.Test.YtbldahimdkifiaaChecked
import GoSem.Claim
import GoSem.ClaimJoined
import GoSem.ClaimMapViews
import Derived.JoinedTies
import Derived.KernelRfl
namespace Go.Proofs.Ytbldahimdkifiaa
/- THE CELL 'sum', in the pinned program and in every row, IS THE sha256 OF THE DUMP (.gsa) THAT YtbldahimdkifiaaProg.lean LOADS. Nothing in Lean hashes anything: it is a label: what it is worth is what the hold of that sum in a sandbox is worth. -/
noncomputable def Try.pinned : Pinned := { name := "ytbldahimdkifiaa", sum := "7f0d612fd5af891108db55a974abbd3e727d10a76c3b8980c31316a85ae80fde", checked := Try.checked }
namespace Rows
def none {H : Type} : Left H := { results := [], args := [] }

/-- 'spunyarnlaw01.KeysOrder': WHATEVER THE INPUT: true; the input reads as it did. -/
def keysOrderSpec : ChangeSpec := { name := "keysOrder", fn := fun _ => fun
  | [d1, d2] => { results := [.lit (.bool true)], args := [d1, d2] }
  | _ => none }
def keysOrderRow : OpenClaim := { program := "ytbldahimdkifiaa", sum := "7f0d612fd5af891108db55a974abbd3e727d10a76c3b8980c31316a85ae80fde", func := "spunyarn/spunyarnlaw01.KeysOrder", spec := "keysOrder", inPlace := ["internal/bytealg.IndexByteString", "internal/bytealg.Compare"], apart := false }
def KeysOrderSaid : Prop := keysOrderRow.holds Try.pinned (OpenSpec.ofChange keysOrderSpec)

/-- ITS FALSE NEIGHBOUR: 'it returns false'. Refute it at one input. -/
def keysOrderWrong : ChangeSpec := { name := "keysOrder", fn := fun _ => fun
  | [d1, d2] => { results := [.lit (.bool false)], args := [d1, d2] }
  | _ => none }
def KeysOrderWrongFalsely : Prop := keysOrderRow.holds Try.pinned (OpenSpec.ofChange keysOrderWrong)

/-- 'spunyarnlaw01.KeysNext': WHATEVER THE INPUT: true; the input reads as it did. -/
def keysNextSpec : ChangeSpec := { name := "keysNext", fn := fun _ => fun
  | [d1, d2] => { results := [.lit (.bool true)], args := [d1, d2] }
  | _ => none }
def keysNextRow : OpenClaim := { program := "ytbldahimdkifiaa", sum := "7f0d612fd5af891108db55a974abbd3e727d10a76c3b8980c31316a85ae80fde", func := "spunyarn/spunyarnlaw01.KeysNext", spec := "keysNext", inPlace := ["internal/bytealg.IndexByteString", "internal/bytealg.Compare"], apart := false }
def KeysNextSaid : Prop := keysNextRow.holds Try.pinned (OpenSpec.ofChange keysNextSpec)

/-- ITS FALSE NEIGHBOUR: 'it returns false'. Refute it at one input. -/
def keysNextWrong : ChangeSpec := { name := "keysNext", fn := fun _ => fun
  | [d1, d2] => { results := [.lit (.bool false)], args := [d1, d2] }
  | _ => none }
def KeysNextWrongFalsely : Prop := keysNextRow.holds Try.pinned (OpenSpec.ofChange keysNextWrong)

/-- 'spunyarnlaw01.KeysWithin': WHATEVER THE INPUT: true; the input reads as it did. -/
def keysWithinSpec : ChangeSpec := { name := "keysWithin", fn := fun _ => fun
  | [d1, d2, d3] => { results := [.lit (.bool true)], args := [d1, d2, d3] }
  | _ => none }
def keysWithinRow : OpenClaim := { program := "ytbldahimdkifiaa", sum := "7f0d612fd5af891108db55a974abbd3e727d10a76c3b8980c31316a85ae80fde", func := "spunyarn/spunyarnlaw01.KeysWithin", spec := "keysWithin", inPlace := ["internal/bytealg.IndexByteString", "internal/bytealg.Compare"], apart := false }
def KeysWithinSaid : Prop := keysWithinRow.holds Try.pinned (OpenSpec.ofChange keysWithinSpec)

/-- ITS FALSE NEIGHBOUR: 'it returns false'. Refute it at one input. -/
def keysWithinWrong : ChangeSpec := { name := "keysWithin", fn := fun _ => fun
  | [d1, d2, d3] => { results := [.lit (.bool false)], args := [d1, d2, d3] }
  | _ => none }
def KeysWithinWrongFalsely : Prop := keysWithinRow.holds Try.pinned (OpenSpec.ofChange keysWithinWrong)

/-- 'spunyarnlaw02.UencPuts': WHATEVER THE INPUT: true; the input reads as it did. -/
def uencPutsSpec : ChangeSpec := { name := "uencPuts", fn := fun _ => fun
  | [d1, d2] => { results := [.lit (.bool true)], args := [d1, d2] }
  | _ => none }
def uencPutsRow : OpenClaim := { program := "ytbldahimdkifiaa", sum := "7f0d612fd5af891108db55a974abbd3e727d10a76c3b8980c31316a85ae80fde", func := "spunyarn/spunyarnlaw02.UencPuts", spec := "uencPuts", apart := false }
def UencPutsSaid : Prop := uencPutsRow.holds Try.pinned (OpenSpec.ofChange uencPutsSpec)

/-- ITS FALSE NEIGHBOUR: 'it returns false'. Refute it at one input. -/
def uencPutsWrong : ChangeSpec := { name := "uencPuts", fn := fun _ => fun
  | [d1, d2] => { results := [.lit (.bool false)], args := [d1, d2] }
  | _ => none }
def UencPutsWrongFalsely : Prop := uencPutsRow.holds Try.pinned (OpenSpec.ofChange uencPutsWrong)

/-- 'spunyarnlaw02.UencTakes': WHATEVER THE INPUT: true; the input reads as it did. -/
def uencTakesSpec : ChangeSpec := { name := "uencTakes", fn := fun _ => fun
  | [d1, d2] => { results := [.lit (.bool true)], args := [d1, d2] }
  | _ => none }
def uencTakesRow : OpenClaim := { program := "ytbldahimdkifiaa", sum := "7f0d612fd5af891108db55a974abbd3e727d10a76c3b8980c31316a85ae80fde", func := "spunyarn/spunyarnlaw02.UencTakes", spec := "uencTakes", apart := false }
def UencTakesSaid : Prop := uencTakesRow.holds Try.pinned (OpenSpec.ofChange uencTakesSpec)

/-- ITS FALSE NEIGHBOUR: 'it returns false'. Refute it at one input. -/
def uencTakesWrong : ChangeSpec := { name := "uencTakes", fn := fun _ => fun
  | [d1, d2] => { results := [.lit (.bool false)], args := [d1, d2] }
  | _ => none }
def UencTakesWrongFalsely : Prop := uencTakesRow.holds Try.pinned (OpenSpec.ofChange uencTakesWrong)

/-- 'spunyarnlaw02.UencOrder': WHATEVER THE INPUT: true; the input reads as it did. -/
def uencOrderSpec : ChangeSpec := { name := "uencOrder", fn := fun _ => fun
  | [d1, d2, d3] => { results := [.lit (.bool true)], args := [d1, d2, d3] }
  | _ => none }
def uencOrderRow : OpenClaim := { program := "ytbldahimdkifiaa", sum := "7f0d612fd5af891108db55a974abbd3e727d10a76c3b8980c31316a85ae80fde", func := "spunyarn/spunyarnlaw02.UencOrder", spec := "uencOrder", apart := false }
def UencOrderSaid : Prop := uencOrderRow.holds Try.pinned (OpenSpec.ofChange uencOrderSpec)

/-- ITS FALSE NEIGHBOUR: 'it returns false'. Refute it at one input. -/
def uencOrderWrong : ChangeSpec := { name := "uencOrder", fn := fun _ => fun
  | [d1, d2, d3] => { results := [.lit (.bool false)], args := [d1, d2, d3] }
  | _ => none }
def UencOrderWrongFalsely : Prop := uencOrderRow.holds Try.pinned (OpenSpec.ofChange uencOrderWrong)

/-- 'spunyarnlaw01.KeysTexts': WHATEVER THE INPUT: true; the input reads as it did. -/
def keysTextsSpec : ChangeSpec := { name := "keysTexts", fn := fun _ => fun
  | [d1, d2] => { results := [.lit (.bool true)], args := [d1, d2] }
  | _ => none }
def keysTextsRow : OpenClaim := { program := "ytbldahimdkifiaa", sum := "7f0d612fd5af891108db55a974abbd3e727d10a76c3b8980c31316a85ae80fde", func := "spunyarn/spunyarnlaw01.KeysTexts", spec := "keysTexts", inPlace := ["internal/bytealg.IndexByteString", "internal/bytealg.Compare"], apart := false }
def KeysTextsSaid : Prop := keysTextsRow.holds Try.pinned (OpenSpec.ofChange keysTextsSpec)

/-- ITS FALSE NEIGHBOUR: 'it returns false'. Refute it at one input. -/
def keysTextsWrong : ChangeSpec := { name := "keysTexts", fn := fun _ => fun
  | [d1, d2] => { results := [.lit (.bool false)], args := [d1, d2] }
  | _ => none }
def KeysTextsWrongFalsely : Prop := keysTextsRow.holds Try.pinned (OpenSpec.ofChange keysTextsWrong)

/-- 'spunyarnlaw03.IencPuts': WHATEVER THE INPUT: true; the input reads as it did. -/
def iencPutsSpec : ChangeSpec := { name := "iencPuts", fn := fun _ => fun
  | [d1, d2] => { results := [.lit (.bool true)], args := [d1, d2] }
  | _ => none }
def iencPutsRow : OpenClaim := { program := "ytbldahimdkifiaa", sum := "7f0d612fd5af891108db55a974abbd3e727d10a76c3b8980c31316a85ae80fde", func := "spunyarn/spunyarnlaw03.IencPuts", spec := "iencPuts", apart := false }
def IencPutsSaid : Prop := iencPutsRow.holds Try.pinned (OpenSpec.ofChange iencPutsSpec)

/-- ITS FALSE NEIGHBOUR: 'it returns false'. Refute it at one input. -/
def iencPutsWrong : ChangeSpec := { name := "iencPuts", fn := fun _ => fun
  | [d1, d2] => { results := [.lit (.bool false)], args := [d1, d2] }
  | _ => none }
def IencPutsWrongFalsely : Prop := iencPutsRow.holds Try.pinned (OpenSpec.ofChange iencPutsWrong)

/-- 'spunyarnlaw03.IencTakes': WHATEVER THE INPUT: true; the input reads as it did. -/
def iencTakesSpec : ChangeSpec := { name := "iencTakes", fn := fun _ => fun
  | [d1, d2] => { results := [.lit (.bool true)], args := [d1, d2] }
  | _ => none }
def iencTakesRow : OpenClaim := { program := "ytbldahimdkifiaa", sum := "7f0d612fd5af891108db55a974abbd3e727d10a76c3b8980c31316a85ae80fde", func := "spunyarn/spunyarnlaw03.IencTakes", spec := "iencTakes", apart := false }
def IencTakesSaid : Prop := iencTakesRow.holds Try.pinned (OpenSpec.ofChange iencTakesSpec)

/-- ITS FALSE NEIGHBOUR: 'it returns false'. Refute it at one input. -/
def iencTakesWrong : ChangeSpec := { name := "iencTakes", fn := fun _ => fun
  | [d1, d2] => { results := [.lit (.bool false)], args := [d1, d2] }
  | _ => none }
def IencTakesWrongFalsely : Prop := iencTakesRow.holds Try.pinned (OpenSpec.ofChange iencTakesWrong)

/-- 'spunyarnlaw03.IencOrder': WHATEVER THE INPUT: true; the input reads as it did. -/
def iencOrderSpec : ChangeSpec := { name := "iencOrder", fn := fun _ => fun
  | [d1, d2, d3] => { results := [.lit (.bool true)], args := [d1, d2, d3] }
  | _ => none }
def iencOrderRow : OpenClaim := { program := "ytbldahimdkifiaa", sum := "7f0d612fd5af891108db55a974abbd3e727d10a76c3b8980c31316a85ae80fde", func := "spunyarn/spunyarnlaw03.IencOrder", spec := "iencOrder", apart := false }
def IencOrderSaid : Prop := iencOrderRow.holds Try.pinned (OpenSpec.ofChange iencOrderSpec)

/-- ITS FALSE NEIGHBOUR: 'it returns false'. Refute it at one input. -/
def iencOrderWrong : ChangeSpec := { name := "iencOrder", fn := fun _ => fun
  | [d1, d2, d3] => { results := [.lit (.bool false)], args := [d1, d2, d3] }
  | _ => none }
def IencOrderWrongFalsely : Prop := iencOrderRow.holds Try.pinned (OpenSpec.ofChange iencOrderWrong)

/- THE SECOND FORM. 'bulk': how many values and letters a reading holds, each counted each time it is reached (what is shared counts as often as it is met; a slice's spare places count too). A statement '..UptoSaid' is the law's where the arguments, and the package variables that the reading takes, are together of bulk at most 1048576: NARROWER than '..Said'. Prove '..Said' where nothing that the law and all that it calls make is longer than what came in: it says more and counts as full. Else prove '..UptoSaid'. A law counts once. -/
mutual
def uptoBulk {H : Type} : DataW H → Nat
  | .lit (.string bytes) => bytes.length + 1
  | .lit _ => 1
  | .nil => 1
  | .ptr d => uptoBulk d + 1
  | .slice elems spare => uptoBulkAll elems + uptoBulkAll spare + 1
  | .agg parts => uptoBulkAll parts + 1
  | .iface _ d => uptoBulk d + 1
  | .map entries => uptoBulkEntries entries + 1
  | .held _ => 1
def uptoBulkAll {H : Type} : List (DataW H) → Nat
  | [] => 0
  | d :: r => uptoBulk d + uptoBulkAll r
def uptoBulkEntries {H : Type} : List (Lit × DataW H) → Nat
  | [] => 0
  | x :: r => uptoBulkEntry x + uptoBulkEntries r
def uptoBulkEntry {H : Type} : Lit × DataW H → Nat
  | (.string bytes, d) => bytes.length + uptoBulk d + 1
  | (_, d) => uptoBulk d + 1
 end
def uptoSmall : (H : Type) → List (DataW H) → Bool := fun _ ds => decide (uptoBulkAll ds ≤ 1048576)
def OpenSpec.upto (s : _root_.Go.ChangeSpec) : _root_.Go.OpenSpec := { _root_.Go.OpenSpec.ofChange s with cond := some uptoSmall }

/-- 'spunyarnlaw01.KeysOrder', WHERE WHAT IT READS IS OF BULK AT MOST 1048576: true; the input reads as it did. -/
def keysOrderUptoRow : OpenClaim := { program := "ytbldahimdkifiaa", sum := "7f0d612fd5af891108db55a974abbd3e727d10a76c3b8980c31316a85ae80fde", func := "spunyarn/spunyarnlaw01.KeysOrder", spec := "keysOrder", inPlace := ["internal/bytealg.IndexByteString", "internal/bytealg.Compare"], apart := false, narrowed := true }
def KeysOrderUptoSaid : Prop := keysOrderUptoRow.holds Try.pinned (OpenSpec.upto keysOrderSpec)

/-- 'spunyarnlaw01.KeysNext', WHERE WHAT IT READS IS OF BULK AT MOST 1048576: true; the input reads as it did. -/
def keysNextUptoRow : OpenClaim := { program := "ytbldahimdkifiaa", sum := "7f0d612fd5af891108db55a974abbd3e727d10a76c3b8980c31316a85ae80fde", func := "spunyarn/spunyarnlaw01.KeysNext", spec := "keysNext", inPlace := ["internal/bytealg.IndexByteString", "internal/bytealg.Compare"], apart := false, narrowed := true }
def KeysNextUptoSaid : Prop := keysNextUptoRow.holds Try.pinned (OpenSpec.upto keysNextSpec)

/-- 'spunyarnlaw01.KeysWithin', WHERE WHAT IT READS IS OF BULK AT MOST 1048576: true; the input reads as it did. -/
def keysWithinUptoRow : OpenClaim := { program := "ytbldahimdkifiaa", sum := "7f0d612fd5af891108db55a974abbd3e727d10a76c3b8980c31316a85ae80fde", func := "spunyarn/spunyarnlaw01.KeysWithin", spec := "keysWithin", inPlace := ["internal/bytealg.IndexByteString", "internal/bytealg.Compare"], apart := false, narrowed := true }
def KeysWithinUptoSaid : Prop := keysWithinUptoRow.holds Try.pinned (OpenSpec.upto keysWithinSpec)

/-- 'spunyarnlaw02.UencPuts', WHERE WHAT IT READS IS OF BULK AT MOST 1048576: true; the input reads as it did. -/
def uencPutsUptoRow : OpenClaim := { program := "ytbldahimdkifiaa", sum := "7f0d612fd5af891108db55a974abbd3e727d10a76c3b8980c31316a85ae80fde", func := "spunyarn/spunyarnlaw02.UencPuts", spec := "uencPuts", apart := false, narrowed := true }
def UencPutsUptoSaid : Prop := uencPutsUptoRow.holds Try.pinned (OpenSpec.upto uencPutsSpec)

/-- 'spunyarnlaw02.UencTakes', WHERE WHAT IT READS IS OF BULK AT MOST 1048576: true; the input reads as it did. -/
def uencTakesUptoRow : OpenClaim := { program := "ytbldahimdkifiaa", sum := "7f0d612fd5af891108db55a974abbd3e727d10a76c3b8980c31316a85ae80fde", func := "spunyarn/spunyarnlaw02.UencTakes", spec := "uencTakes", apart := false, narrowed := true }
def UencTakesUptoSaid : Prop := uencTakesUptoRow.holds Try.pinned (OpenSpec.upto uencTakesSpec)

/-- 'spunyarnlaw02.UencOrder', WHERE WHAT IT READS IS OF BULK AT MOST 1048576: true; the input reads as it did. -/
def uencOrderUptoRow : OpenClaim := { program := "ytbldahimdkifiaa", sum := "7f0d612fd5af891108db55a974abbd3e727d10a76c3b8980c31316a85ae80fde", func := "spunyarn/spunyarnlaw02.UencOrder", spec := "uencOrder", apart := false, narrowed := true }
def UencOrderUptoSaid : Prop := uencOrderUptoRow.holds Try.pinned (OpenSpec.upto uencOrderSpec)

/-- 'spunyarnlaw01.KeysTexts', WHERE WHAT IT READS IS OF BULK AT MOST 1048576: true; the input reads as it did. -/
def keysTextsUptoRow : OpenClaim := { program := "ytbldahimdkifiaa", sum := "7f0d612fd5af891108db55a974abbd3e727d10a76c3b8980c31316a85ae80fde", func := "spunyarn/spunyarnlaw01.KeysTexts", spec := "keysTexts", inPlace := ["internal/bytealg.IndexByteString", "internal/bytealg.Compare"], apart := false, narrowed := true }
def KeysTextsUptoSaid : Prop := keysTextsUptoRow.holds Try.pinned (OpenSpec.upto keysTextsSpec)

/-- 'spunyarnlaw03.IencPuts', WHERE WHAT IT READS IS OF BULK AT MOST 1048576: true; the input reads as it did. -/
def iencPutsUptoRow : OpenClaim := { program := "ytbldahimdkifiaa", sum := "7f0d612fd5af891108db55a974abbd3e727d10a76c3b8980c31316a85ae80fde", func := "spunyarn/spunyarnlaw03.IencPuts", spec := "iencPuts", apart := false, narrowed := true }
def IencPutsUptoSaid : Prop := iencPutsUptoRow.holds Try.pinned (OpenSpec.upto iencPutsSpec)

/-- 'spunyarnlaw03.IencTakes', WHERE WHAT IT READS IS OF BULK AT MOST 1048576: true; the input reads as it did. -/
def iencTakesUptoRow : OpenClaim := { program := "ytbldahimdkifiaa", sum := "7f0d612fd5af891108db55a974abbd3e727d10a76c3b8980c31316a85ae80fde", func := "spunyarn/spunyarnlaw03.IencTakes", spec := "iencTakes", apart := false, narrowed := true }
def IencTakesUptoSaid : Prop := iencTakesUptoRow.holds Try.pinned (OpenSpec.upto iencTakesSpec)

/-- 'spunyarnlaw03.IencOrder', WHERE WHAT IT READS IS OF BULK AT MOST 1048576: true; the input reads as it did. -/
def iencOrderUptoRow : OpenClaim := { program := "ytbldahimdkifiaa", sum := "7f0d612fd5af891108db55a974abbd3e727d10a76c3b8980c31316a85ae80fde", func := "spunyarn/spunyarnlaw03.IencOrder", spec := "iencOrder", apart := false, narrowed := true }
def IencOrderUptoSaid : Prop := iencOrderUptoRow.holds Try.pinned (OpenSpec.upto iencOrderSpec)

end Rows
end Go.Proofs.Ytbldahimdkifiaa
