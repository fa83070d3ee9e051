/-
  No cell of these rows narrows 'for every input' (looked for: loops, veiled, ifaces, maps, wideKeys, modest, calm, conditions, laid).
  DERIVED. THE GIVEN ROWS OF THIS SEAT. 9 by the template 'for every input the law returns true; each argument reads behind the call as it read before'; 0 by the template 'total and deterministic' (their statements: YthohpeinmkdfeaaTotals.lean).
  GIVEN WITH THE SEED: the statements are not yours to turn. If you find one false, say at which input.
  Laid BY PROGRAM, IN A SANDBOX (cutbox-rows.mjs): the forced cells as the released guide's own fill.sh prints them over the translation 06bce60bc855ecc7… (all of the seat's roots in one cut). By AI agents, Wed Nov 11 2026. No macro, syntax, notation, axiom, sorry.
-/
import Derived.Test.YthohpeinmkdfeaaChecked
import GoSem.Claim
import GoSem.ClaimJoined
import GoSem.ClaimMapViews
import Derived.JoinedTies
import Derived.KernelRfl
namespace Go.Proofs.Ythohpeinmkdfeaa
/- THE CELL 'sum', in the pinned program and in every row, IS THE sha256 OF THE DUMP (.gsa) THAT YthohpeinmkdfeaaProg.lean LOADS. Nothing in Lean hashes anything: it is a label: what it is worth is what the hold of that sum in a sandbox is worth. -/
noncomputable def Try.pinned : Pinned := { name := "ythohpeinmkdfeaa", sum := "06bce60bc855ecc714778607befc4e615acfc9476e96e6d1efd2ef2dd5da3ea1", checked := Try.checked }
namespace Rows
def none {H : Type} : Left H := { results := [], args := [] }

/-- 'spunyarnlaw10.WideCopies': WHATEVER THE INPUT: true; the input reads as it did. -/
def wideCopiesSpec : ChangeSpec := { name := "wideCopies", fn := fun _ => fun
  | [d1, d2] => { results := [.lit (.bool true)], args := [d1, d2] }
  | _ => none }
def wideCopiesRow : OpenClaim := { program := "ythohpeinmkdfeaa", sum := "06bce60bc855ecc714778607befc4e615acfc9476e96e6d1efd2ef2dd5da3ea1", func := "spunyarn/spunyarnlaw10.WideCopies", spec := "wideCopies", apart := false }
def WideCopiesSaid : Prop := wideCopiesRow.holds Try.pinned (OpenSpec.ofChange wideCopiesSpec)

/-- ITS FALSE NEIGHBOUR: 'it returns false'. Refute it at one input. -/
def wideCopiesWrong : ChangeSpec := { name := "wideCopies", fn := fun _ => fun
  | [d1, d2] => { results := [.lit (.bool false)], args := [d1, d2] }
  | _ => none }
def WideCopiesWrongFalsely : Prop := wideCopiesRow.holds Try.pinned (OpenSpec.ofChange wideCopiesWrong)

/-- 'spunyarnlaw08.MeterOwners': WHATEVER THE INPUT: true; the input reads as it did. -/
def meterOwnersSpec : ChangeSpec := { name := "meterOwners", fn := fun _ => fun
  | [d] => { results := [.lit (.bool true)], args := [d] }
  | _ => none }
def meterOwnersRow : OpenClaim := { program := "ythohpeinmkdfeaa", sum := "06bce60bc855ecc714778607befc4e615acfc9476e96e6d1efd2ef2dd5da3ea1", func := "spunyarn/spunyarnlaw08.MeterOwners", spec := "meterOwners", inPlace := ["sync/atomic.LoadUint64", "sync/atomic.AddUint64", "sync/atomic.AddInt64", "sync/atomic.LoadInt64", "sync/atomic.LoadUint32", "(*internal/sync.Mutex).Lock", "internal/race.Disable", "sync/atomic.CompareAndSwapInt32", "internal/race.Enable", "internal/race.Acquire", "(*internal/sync.Mutex).lockSlow", "internal/sync.runtime_canSpin", "internal/sync.runtime_doSpin", "internal/sync.throw", "internal/sync.runtime_nanotime", "internal/sync.runtime_SemacquireMutex", "sync/atomic.AddInt32", "(*internal/sync.Mutex).Unlock", "internal/race.ReleaseMerge", "(*internal/sync.Mutex).unlockSlow", "internal/sync.fatal", "internal/sync.runtime_Semrelease", "sync/atomic.StoreUint32"], unfollowed := true, recurses := true, apart := false }
def MeterOwnersSaid : Prop := meterOwnersRow.holds Try.pinned (OpenSpec.ofChange meterOwnersSpec)

/-- ITS FALSE NEIGHBOUR: 'it returns false'. Refute it at one input. -/
def meterOwnersWrong : ChangeSpec := { name := "meterOwners", fn := fun _ => fun
  | [d] => { results := [.lit (.bool false)], args := [d] }
  | _ => none }
def MeterOwnersWrongFalsely : Prop := meterOwnersRow.holds Try.pinned (OpenSpec.ofChange meterOwnersWrong)

/-- 'spunyarnlaw08.MeterOnce': WHATEVER THE INPUT: true; the input reads as it did. -/
def meterOnceSpec : ChangeSpec := { name := "meterOnce", fn := fun _ => fun
  | [d] => { results := [.lit (.bool true)], args := [d] }
  | _ => none }
def meterOnceRow : OpenClaim := { program := "ythohpeinmkdfeaa", sum := "06bce60bc855ecc714778607befc4e615acfc9476e96e6d1efd2ef2dd5da3ea1", func := "spunyarn/spunyarnlaw08.MeterOnce", spec := "meterOnce", inPlace := ["sync/atomic.LoadUint32", "(*internal/sync.Mutex).Lock", "internal/race.Disable", "sync/atomic.CompareAndSwapInt32", "internal/race.Enable", "internal/race.Acquire", "(*internal/sync.Mutex).lockSlow", "internal/sync.runtime_canSpin", "internal/sync.runtime_doSpin", "internal/sync.throw", "internal/sync.runtime_nanotime", "internal/sync.runtime_SemacquireMutex", "sync/atomic.AddInt32", "(*internal/sync.Mutex).Unlock", "internal/race.ReleaseMerge", "(*internal/sync.Mutex).unlockSlow", "internal/sync.fatal", "internal/sync.runtime_Semrelease", "sync/atomic.StoreUint32", "sync/atomic.AddInt64", "sync/atomic.LoadInt64", "sync/atomic.AddUint64", "sync/atomic.LoadUint64"], unfollowed := true, recurses := true, apart := false }
def MeterOnceSaid : Prop := meterOnceRow.holds Try.pinned (OpenSpec.ofChange meterOnceSpec)

/-- ITS FALSE NEIGHBOUR: 'it returns false'. Refute it at one input. -/
def meterOnceWrong : ChangeSpec := { name := "meterOnce", fn := fun _ => fun
  | [d] => { results := [.lit (.bool false)], args := [d] }
  | _ => none }
def MeterOnceWrongFalsely : Prop := meterOnceRow.holds Try.pinned (OpenSpec.ofChange meterOnceWrong)

/-- 'spunyarnlaw10.WidePlays': WHATEVER THE INPUT: true; the input reads as it did. -/
def widePlaysSpec : ChangeSpec := { name := "widePlays", fn := fun _ => fun
  | [d1, d2, d3] => { results := [.lit (.bool true)], args := [d1, d2, d3] }
  | _ => none }
def widePlaysRow : OpenClaim := { program := "ythohpeinmkdfeaa", sum := "06bce60bc855ecc714778607befc4e615acfc9476e96e6d1efd2ef2dd5da3ea1", func := "spunyarn/spunyarnlaw10.WidePlays", spec := "widePlays", apart := false }
def WidePlaysSaid : Prop := widePlaysRow.holds Try.pinned (OpenSpec.ofChange widePlaysSpec)

/-- ITS FALSE NEIGHBOUR: 'it returns false'. Refute it at one input. -/
def widePlaysWrong : ChangeSpec := { name := "widePlays", fn := fun _ => fun
  | [d1, d2, d3] => { results := [.lit (.bool false)], args := [d1, d2, d3] }
  | _ => none }
def WidePlaysWrongFalsely : Prop := widePlaysRow.holds Try.pinned (OpenSpec.ofChange widePlaysWrong)

/-- 'spunyarnlaw10.WideNobody': WHATEVER THE INPUT: true; the input reads as it did. -/
def wideNobodySpec : ChangeSpec := { name := "wideNobody", fn := fun _ => fun
  | [d1, d2] => { results := [.lit (.bool true)], args := [d1, d2] }
  | _ => none }
def wideNobodyRow : OpenClaim := { program := "ythohpeinmkdfeaa", sum := "06bce60bc855ecc714778607befc4e615acfc9476e96e6d1efd2ef2dd5da3ea1", func := "spunyarn/spunyarnlaw10.WideNobody", spec := "wideNobody", apart := false }
def WideNobodySaid : Prop := wideNobodyRow.holds Try.pinned (OpenSpec.ofChange wideNobodySpec)

/-- ITS FALSE NEIGHBOUR: 'it returns false'. Refute it at one input. -/
def wideNobodyWrong : ChangeSpec := { name := "wideNobody", fn := fun _ => fun
  | [d1, d2] => { results := [.lit (.bool false)], args := [d1, d2] }
  | _ => none }
def WideNobodyWrongFalsely : Prop := wideNobodyRow.holds Try.pinned (OpenSpec.ofChange wideNobodyWrong)

/-- 'spunyarnlaw08.MeterCounts': WHATEVER THE INPUT: true; the input reads as it did. -/
def meterCountsSpec : ChangeSpec := { name := "meterCounts", fn := fun _ => fun
  | [d1, d2] => { results := [.lit (.bool true)], args := [d1, d2] }
  | _ => none }
def meterCountsRow : OpenClaim := { program := "ythohpeinmkdfeaa", sum := "06bce60bc855ecc714778607befc4e615acfc9476e96e6d1efd2ef2dd5da3ea1", func := "spunyarn/spunyarnlaw08.MeterCounts", spec := "meterCounts", inPlace := ["sync/atomic.AddInt64", "sync/atomic.LoadInt64", "sync/atomic.AddUint64", "sync/atomic.LoadUint64", "sync/atomic.LoadUint32", "(*internal/sync.Mutex).Lock", "internal/race.Disable", "sync/atomic.CompareAndSwapInt32", "internal/race.Enable", "internal/race.Acquire", "(*internal/sync.Mutex).lockSlow", "internal/sync.runtime_canSpin", "internal/sync.runtime_doSpin", "internal/sync.throw", "internal/sync.runtime_nanotime", "internal/sync.runtime_SemacquireMutex", "sync/atomic.AddInt32", "(*internal/sync.Mutex).Unlock", "internal/race.ReleaseMerge", "(*internal/sync.Mutex).unlockSlow", "internal/sync.fatal", "internal/sync.runtime_Semrelease", "sync/atomic.StoreUint32"], unfollowed := true, recurses := true, apart := false }
def MeterCountsSaid : Prop := meterCountsRow.holds Try.pinned (OpenSpec.ofChange meterCountsSpec)

/-- ITS FALSE NEIGHBOUR: 'it returns false'. Refute it at one input. -/
def meterCountsWrong : ChangeSpec := { name := "meterCounts", fn := fun _ => fun
  | [d1, d2] => { results := [.lit (.bool false)], args := [d1, d2] }
  | _ => none }
def MeterCountsWrongFalsely : Prop := meterCountsRow.holds Try.pinned (OpenSpec.ofChange meterCountsWrong)

/-- 'spunyarnlaw09.SmallPlays': WHATEVER THE INPUT: true; the input reads as it did. -/
def smallPlaysSpec : ChangeSpec := { name := "smallPlays", fn := fun _ => fun
  | [d1, d2, d3] => { results := [.lit (.bool true)], args := [d1, d2, d3] }
  | _ => none }
def smallPlaysRow : OpenClaim := { program := "ythohpeinmkdfeaa", sum := "06bce60bc855ecc714778607befc4e615acfc9476e96e6d1efd2ef2dd5da3ea1", func := "spunyarn/spunyarnlaw09.SmallPlays", spec := "smallPlays", apart := false }
def SmallPlaysSaid : Prop := smallPlaysRow.holds Try.pinned (OpenSpec.ofChange smallPlaysSpec)

/-- ITS FALSE NEIGHBOUR: 'it returns false'. Refute it at one input. -/
def smallPlaysWrong : ChangeSpec := { name := "smallPlays", fn := fun _ => fun
  | [d1, d2, d3] => { results := [.lit (.bool false)], args := [d1, d2, d3] }
  | _ => none }
def SmallPlaysWrongFalsely : Prop := smallPlaysRow.holds Try.pinned (OpenSpec.ofChange smallPlaysWrong)

/-- 'spunyarnlaw09.SmallWalks': WHATEVER THE INPUT: true; the input reads as it did. -/
def smallWalksSpec : ChangeSpec := { name := "smallWalks", fn := fun _ => fun
  | [d1, d2] => { results := [.lit (.bool true)], args := [d1, d2] }
  | _ => none }
def smallWalksRow : OpenClaim := { program := "ythohpeinmkdfeaa", sum := "06bce60bc855ecc714778607befc4e615acfc9476e96e6d1efd2ef2dd5da3ea1", func := "spunyarn/spunyarnlaw09.SmallWalks", spec := "smallWalks", apart := false }
def SmallWalksSaid : Prop := smallWalksRow.holds Try.pinned (OpenSpec.ofChange smallWalksSpec)

/-- ITS FALSE NEIGHBOUR: 'it returns false'. Refute it at one input. -/
def smallWalksWrong : ChangeSpec := { name := "smallWalks", fn := fun _ => fun
  | [d1, d2] => { results := [.lit (.bool false)], args := [d1, d2] }
  | _ => none }
def SmallWalksWrongFalsely : Prop := smallWalksRow.holds Try.pinned (OpenSpec.ofChange smallWalksWrong)

/-- 'spunyarnlaw09.SmallNobody': WHATEVER THE INPUT: true; the input reads as it did. -/
def smallNobodySpec : ChangeSpec := { name := "smallNobody", fn := fun _ => fun
  | [d1, d2] => { results := [.lit (.bool true)], args := [d1, d2] }
  | _ => none }
def smallNobodyRow : OpenClaim := { program := "ythohpeinmkdfeaa", sum := "06bce60bc855ecc714778607befc4e615acfc9476e96e6d1efd2ef2dd5da3ea1", func := "spunyarn/spunyarnlaw09.SmallNobody", spec := "smallNobody", apart := false }
def SmallNobodySaid : Prop := smallNobodyRow.holds Try.pinned (OpenSpec.ofChange smallNobodySpec)

/-- ITS FALSE NEIGHBOUR: 'it returns false'. Refute it at one input. -/
def smallNobodyWrong : ChangeSpec := { name := "smallNobody", fn := fun _ => fun
  | [d1, d2] => { results := [.lit (.bool false)], args := [d1, d2] }
  | _ => none }
def SmallNobodyWrongFalsely : Prop := smallNobodyRow.holds Try.pinned (OpenSpec.ofChange smallNobodyWrong)

/- THE SECOND FORM. 'bulk': how many values and letters a reading holds, each counted each time it is reached (what is shared counts as often as it is met; a slice's spare places count too). A statement '..UptoSaid' is the law's where the arguments, and the package variables that the reading takes, are together of bulk at most 1048576: NARROWER than '..Said'. Prove '..Said' where nothing that the law and all that it calls make is longer than what came in: it says more and counts as full. Else prove '..UptoSaid'. A law counts once. -/
mutual
def uptoBulk {H : Type} : DataW H → Nat
  | .lit (.string bytes) => bytes.length + 1
  | .lit _ => 1
  | .nil => 1
  | .ptr d => uptoBulk d + 1
  | .slice elems spare => uptoBulkAll elems + uptoBulkAll spare + 1
  | .agg parts => uptoBulkAll parts + 1
  | .iface _ d => uptoBulk d + 1
  | .map entries => uptoBulkEntries entries + 1
  | .held _ => 1
def uptoBulkAll {H : Type} : List (DataW H) → Nat
  | [] => 0
  | d :: r => uptoBulk d + uptoBulkAll r
def uptoBulkEntries {H : Type} : List (Lit × DataW H) → Nat
  | [] => 0
  | x :: r => uptoBulkEntry x + uptoBulkEntries r
def uptoBulkEntry {H : Type} : Lit × DataW H → Nat
  | (.string bytes, d) => bytes.length + uptoBulk d + 1
  | (_, d) => uptoBulk d + 1
 end
def uptoSmall : (H : Type) → List (DataW H) → Bool := fun _ ds => decide (uptoBulkAll ds ≤ 1048576)
def OpenSpec.upto (s : _root_.Go.ChangeSpec) : _root_.Go.OpenSpec := { _root_.Go.OpenSpec.ofChange s with cond := some uptoSmall }

/-- 'spunyarnlaw10.WideCopies', WHERE WHAT IT READS IS OF BULK AT MOST 1048576: true; the input reads as it did. -/
def wideCopiesUptoRow : OpenClaim := { program := "ythohpeinmkdfeaa", sum := "06bce60bc855ecc714778607befc4e615acfc9476e96e6d1efd2ef2dd5da3ea1", func := "spunyarn/spunyarnlaw10.WideCopies", spec := "wideCopies", apart := false, narrowed := true }
def WideCopiesUptoSaid : Prop := wideCopiesUptoRow.holds Try.pinned (OpenSpec.upto wideCopiesSpec)

/-- 'spunyarnlaw08.MeterOwners', WHERE WHAT IT READS IS OF BULK AT MOST 1048576: true; the input reads as it did. -/
def meterOwnersUptoRow : OpenClaim := { program := "ythohpeinmkdfeaa", sum := "06bce60bc855ecc714778607befc4e615acfc9476e96e6d1efd2ef2dd5da3ea1", func := "spunyarn/spunyarnlaw08.MeterOwners", spec := "meterOwners", inPlace := ["sync/atomic.LoadUint64", "sync/atomic.AddUint64", "sync/atomic.AddInt64", "sync/atomic.LoadInt64", "sync/atomic.LoadUint32", "(*internal/sync.Mutex).Lock", "internal/race.Disable", "sync/atomic.CompareAndSwapInt32", "internal/race.Enable", "internal/race.Acquire", "(*internal/sync.Mutex).lockSlow", "internal/sync.runtime_canSpin", "internal/sync.runtime_doSpin", "internal/sync.throw", "internal/sync.runtime_nanotime", "internal/sync.runtime_SemacquireMutex", "sync/atomic.AddInt32", "(*internal/sync.Mutex).Unlock", "internal/race.ReleaseMerge", "(*internal/sync.Mutex).unlockSlow", "internal/sync.fatal", "internal/sync.runtime_Semrelease", "sync/atomic.StoreUint32"], unfollowed := true, recurses := true, apart := false, narrowed := true }
def MeterOwnersUptoSaid : Prop := meterOwnersUptoRow.holds Try.pinned (OpenSpec.upto meterOwnersSpec)

/-- 'spunyarnlaw08.MeterOnce', WHERE WHAT IT READS IS OF BULK AT MOST 1048576: true; the input reads as it did. -/
def meterOnceUptoRow : OpenClaim := { program := "ythohpeinmkdfeaa", sum := "06bce60bc855ecc714778607befc4e615acfc9476e96e6d1efd2ef2dd5da3ea1", func := "spunyarn/spunyarnlaw08.MeterOnce", spec := "meterOnce", inPlace := ["sync/atomic.LoadUint32", "(*internal/sync.Mutex).Lock", "internal/race.Disable", "sync/atomic.CompareAndSwapInt32", "internal/race.Enable", "internal/race.Acquire", "(*internal/sync.Mutex).lockSlow", "internal/sync.runtime_canSpin", "internal/sync.runtime_doSpin", "internal/sync.throw", "internal/sync.runtime_nanotime", "internal/sync.runtime_SemacquireMutex", "sync/atomic.AddInt32", "(*internal/sync.Mutex).Unlock", "internal/race.ReleaseMerge", "(*internal/sync.Mutex).unlockSlow", "internal/sync.fatal", "internal/sync.runtime_Semrelease", "sync/atomic.StoreUint32", "sync/atomic.AddInt64", "sync/atomic.LoadInt64", "sync/atomic.AddUint64", "sync/atomic.LoadUint64"], unfollowed := true, recurses := true, apart := false, narrowed := true }
def MeterOnceUptoSaid : Prop := meterOnceUptoRow.holds Try.pinned (OpenSpec.upto meterOnceSpec)

/-- 'spunyarnlaw10.WidePlays', WHERE WHAT IT READS IS OF BULK AT MOST 1048576: true; the input reads as it did. -/
def widePlaysUptoRow : OpenClaim := { program := "ythohpeinmkdfeaa", sum := "06bce60bc855ecc714778607befc4e615acfc9476e96e6d1efd2ef2dd5da3ea1", func := "spunyarn/spunyarnlaw10.WidePlays", spec := "widePlays", apart := false, narrowed := true }
def WidePlaysUptoSaid : Prop := widePlaysUptoRow.holds Try.pinned (OpenSpec.upto widePlaysSpec)

/-- 'spunyarnlaw10.WideNobody', WHERE WHAT IT READS IS OF BULK AT MOST 1048576: true; the input reads as it did. -/
def wideNobodyUptoRow : OpenClaim := { program := "ythohpeinmkdfeaa", sum := "06bce60bc855ecc714778607befc4e615acfc9476e96e6d1efd2ef2dd5da3ea1", func := "spunyarn/spunyarnlaw10.WideNobody", spec := "wideNobody", apart := false, narrowed := true }
def WideNobodyUptoSaid : Prop := wideNobodyUptoRow.holds Try.pinned (OpenSpec.upto wideNobodySpec)

/-- 'spunyarnlaw08.MeterCounts', WHERE WHAT IT READS IS OF BULK AT MOST 1048576: true; the input reads as it did. -/
def meterCountsUptoRow : OpenClaim := { program := "ythohpeinmkdfeaa", sum := "06bce60bc855ecc714778607befc4e615acfc9476e96e6d1efd2ef2dd5da3ea1", func := "spunyarn/spunyarnlaw08.MeterCounts", spec := "meterCounts", inPlace := ["sync/atomic.AddInt64", "sync/atomic.LoadInt64", "sync/atomic.AddUint64", "sync/atomic.LoadUint64", "sync/atomic.LoadUint32", "(*internal/sync.Mutex).Lock", "internal/race.Disable", "sync/atomic.CompareAndSwapInt32", "internal/race.Enable", "internal/race.Acquire", "(*internal/sync.Mutex).lockSlow", "internal/sync.runtime_canSpin", "internal/sync.runtime_doSpin", "internal/sync.throw", "internal/sync.runtime_nanotime", "internal/sync.runtime_SemacquireMutex", "sync/atomic.AddInt32", "(*internal/sync.Mutex).Unlock", "internal/race.ReleaseMerge", "(*internal/sync.Mutex).unlockSlow", "internal/sync.fatal", "internal/sync.runtime_Semrelease", "sync/atomic.StoreUint32"], unfollowed := true, recurses := true, apart := false, narrowed := true }
def MeterCountsUptoSaid : Prop := meterCountsUptoRow.holds Try.pinned (OpenSpec.upto meterCountsSpec)

/-- 'spunyarnlaw09.SmallPlays', WHERE WHAT IT READS IS OF BULK AT MOST 1048576: true; the input reads as it did. -/
def smallPlaysUptoRow : OpenClaim := { program := "ythohpeinmkdfeaa", sum := "06bce60bc855ecc714778607befc4e615acfc9476e96e6d1efd2ef2dd5da3ea1", func := "spunyarn/spunyarnlaw09.SmallPlays", spec := "smallPlays", apart := false, narrowed := true }
def SmallPlaysUptoSaid : Prop := smallPlaysUptoRow.holds Try.pinned (OpenSpec.upto smallPlaysSpec)

/-- 'spunyarnlaw09.SmallWalks', WHERE WHAT IT READS IS OF BULK AT MOST 1048576: true; the input reads as it did. -/
def smallWalksUptoRow : OpenClaim := { program := "ythohpeinmkdfeaa", sum := "06bce60bc855ecc714778607befc4e615acfc9476e96e6d1efd2ef2dd5da3ea1", func := "spunyarn/spunyarnlaw09.SmallWalks", spec := "smallWalks", apart := false, narrowed := true }
def SmallWalksUptoSaid : Prop := smallWalksUptoRow.holds Try.pinned (OpenSpec.upto smallWalksSpec)

/-- 'spunyarnlaw09.SmallNobody', WHERE WHAT IT READS IS OF BULK AT MOST 1048576: true; the input reads as it did. -/
def smallNobodyUptoRow : OpenClaim := { program := "ythohpeinmkdfeaa", sum := "06bce60bc855ecc714778607befc4e615acfc9476e96e6d1efd2ef2dd5da3ea1", func := "spunyarn/spunyarnlaw09.SmallNobody", spec := "smallNobody", apart := false, narrowed := true }
def SmallNobodyUptoSaid : Prop := smallNobodyUptoRow.holds Try.pinned (OpenSpec.upto smallNobodySpec)

end Rows
end Go.Proofs.Ythohpeinmkdfeaa
