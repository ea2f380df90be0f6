/-
  No cell of these rows narrows 'for every input' (looked for: loops, veiled, ifaces, maps, wideKeys, modest, calm, conditions, laid).
  DERIVED. THE GIVEN ROWS OF THIS SEAT. 7 by the template 'for every input the law returns true; each argument reads behind the call as it read before'; 0 by the template 'total and deterministic' (their statements: YtdkammcandclhaaTotals.lean).
  GIVEN WITH THE SEED: the statements are not yours to turn. If you find one false, say at which input.
  Laid BY PROGRAM, IN A SANDBOX (cutbox-rows.mjs): the forced cells as the released guide's own fill.sh prints them over the translation 340546a95fbacb8b… (all of the seat's roots in one cut). By AI agents, Wed Nov 11 2026. No macro, syntax, notation, axiom, sorry.
-/
import Derived.Test.YtdkammcandclhaaChecked
import GoSem.Claim
import GoSem.ClaimJoined
import GoSem.ClaimMapViews
import Derived.JoinedTies
import Derived.KernelRfl
namespace Go.Proofs.Ytdkammcandclhaa
/- THE CELL 'sum', in the pinned program and in every row, IS THE sha256 OF THE DUMP (.gsa) THAT YtdkammcandclhaaProg.lean LOADS. Nothing in Lean hashes anything: it is a label: what it is worth is what the hold of that sum in a sandbox is worth. -/
noncomputable def Try.pinned : Pinned := { name := "ytdkammcandclhaa", sum := "340546a95fbacb8bd57bfa36103887a0f7de2821ef8eda7585ccbe0d3081c88a", checked := Try.checked }
namespace Rows
def none {H : Type} : Left H := { results := [], args := [] }

/-- 'ledgerstonelaw17.NestWhole': WHATEVER THE INPUT: true; the input reads as it did. -/
def nestWholeSpec : ChangeSpec := { name := "nestWhole", fn := fun _ => fun
  | [d1, d2, d3] => { results := [.lit (.bool true)], args := [d1, d2, d3] }
  | _ => none }
def nestWholeRow : OpenClaim := { program := "ytdkammcandclhaa", sum := "340546a95fbacb8bd57bfa36103887a0f7de2821ef8eda7585ccbe0d3081c88a", func := "ledgerstone/ledgerstonelaw17.NestWhole", spec := "nestWhole", unfollowed := true, recurses := true, apart := false }
def NestWholeSaid : Prop := nestWholeRow.holds Try.pinned (OpenSpec.ofChange nestWholeSpec)

/-- ITS FALSE NEIGHBOUR: 'it returns false'. Refute it at one input. -/
def nestWholeWrong : ChangeSpec := { name := "nestWhole", fn := fun _ => fun
  | [d1, d2, d3] => { results := [.lit (.bool false)], args := [d1, d2, d3] }
  | _ => none }
def NestWholeWrongFalsely : Prop := nestWholeRow.holds Try.pinned (OpenSpec.ofChange nestWholeWrong)

/-- 'ledgerstonelaw17.NestNumbers': WHATEVER THE INPUT: true; the input reads as it did. -/
def nestNumbersSpec : ChangeSpec := { name := "nestNumbers", fn := fun _ => fun
  | [] => { results := [.lit (.bool true)], args := [] }
  | _ => none }
def nestNumbersRow : OpenClaim := { program := "ytdkammcandclhaa", sum := "340546a95fbacb8bd57bfa36103887a0f7de2821ef8eda7585ccbe0d3081c88a", func := "ledgerstone/ledgerstonelaw17.NestNumbers", spec := "nestNumbers", unfollowed := true, recurses := true, apart := false }
def NestNumbersSaid : Prop := nestNumbersRow.holds Try.pinned (OpenSpec.ofChange nestNumbersSpec)

/-- ITS FALSE NEIGHBOUR: 'it returns false'. Refute it at one input. -/
def nestNumbersWrong : ChangeSpec := { name := "nestNumbers", fn := fun _ => fun
  | [] => { results := [.lit (.bool false)], args := [] }
  | _ => none }
def NestNumbersWrongFalsely : Prop := nestNumbersRow.holds Try.pinned (OpenSpec.ofChange nestNumbersWrong)

/-- 'ledgerstonelaw17.NestNone': WHATEVER THE INPUT: true; the input reads as it did. -/
def nestNoneSpec : ChangeSpec := { name := "nestNone", fn := fun _ => fun
  | [d] => { results := [.lit (.bool true)], args := [d] }
  | _ => none }
def nestNoneRow : OpenClaim := { program := "ytdkammcandclhaa", sum := "340546a95fbacb8bd57bfa36103887a0f7de2821ef8eda7585ccbe0d3081c88a", func := "ledgerstone/ledgerstonelaw17.NestNone", spec := "nestNone", unfollowed := true, recurses := true, apart := false }
def NestNoneSaid : Prop := nestNoneRow.holds Try.pinned (OpenSpec.ofChange nestNoneSpec)

/-- ITS FALSE NEIGHBOUR: 'it returns false'. Refute it at one input. -/
def nestNoneWrong : ChangeSpec := { name := "nestNone", fn := fun _ => fun
  | [d] => { results := [.lit (.bool false)], args := [d] }
  | _ => none }
def NestNoneWrongFalsely : Prop := nestNoneRow.holds Try.pinned (OpenSpec.ofChange nestNoneWrong)

/-- 'ledgerstonelaw16.Tl2Serial': WHATEVER THE INPUT: true; the input reads as it did. -/
def tl2SerialSpec : ChangeSpec := { name := "tl2Serial", fn := fun _ => fun
  | [d] => { results := [.lit (.bool true)], args := [d] }
  | _ => none }
def tl2SerialRow : OpenClaim := { program := "ytdkammcandclhaa", sum := "340546a95fbacb8bd57bfa36103887a0f7de2821ef8eda7585ccbe0d3081c88a", func := "ledgerstone/ledgerstonelaw16.Tl2Serial", spec := "tl2Serial", unfollowed := true, recurses := true, apart := false }
def Tl2SerialSaid : Prop := tl2SerialRow.holds Try.pinned (OpenSpec.ofChange tl2SerialSpec)

/-- ITS FALSE NEIGHBOUR: 'it returns false'. Refute it at one input. -/
def tl2SerialWrong : ChangeSpec := { name := "tl2Serial", fn := fun _ => fun
  | [d] => { results := [.lit (.bool false)], args := [d] }
  | _ => none }
def Tl2SerialWrongFalsely : Prop := tl2SerialRow.holds Try.pinned (OpenSpec.ofChange tl2SerialWrong)

/-- 'ledgerstonelaw16.Tl2Opaque': WHATEVER THE INPUT: true; the input reads as it did. -/
def tl2OpaqueSpec : ChangeSpec := { name := "tl2Opaque", fn := fun _ => fun
  | [d] => { results := [.lit (.bool true)], args := [d] }
  | _ => none }
def tl2OpaqueRow : OpenClaim := { program := "ytdkammcandclhaa", sum := "340546a95fbacb8bd57bfa36103887a0f7de2821ef8eda7585ccbe0d3081c88a", func := "ledgerstone/ledgerstonelaw16.Tl2Opaque", spec := "tl2Opaque", unfollowed := true, recurses := true, apart := false }
def Tl2OpaqueSaid : Prop := tl2OpaqueRow.holds Try.pinned (OpenSpec.ofChange tl2OpaqueSpec)

/-- ITS FALSE NEIGHBOUR: 'it returns false'. Refute it at one input. -/
def tl2OpaqueWrong : ChangeSpec := { name := "tl2Opaque", fn := fun _ => fun
  | [d] => { results := [.lit (.bool false)], args := [d] }
  | _ => none }
def Tl2OpaqueWrongFalsely : Prop := tl2OpaqueRow.holds Try.pinned (OpenSpec.ofChange tl2OpaqueWrong)

/-- 'ledgerstonelaw17.NestFirst': WHATEVER THE INPUT: true; the input reads as it did. -/
def nestFirstSpec : ChangeSpec := { name := "nestFirst", fn := fun _ => fun
  | [d] => { results := [.lit (.bool true)], args := [d] }
  | _ => none }
def nestFirstRow : OpenClaim := { program := "ytdkammcandclhaa", sum := "340546a95fbacb8bd57bfa36103887a0f7de2821ef8eda7585ccbe0d3081c88a", func := "ledgerstone/ledgerstonelaw17.NestFirst", spec := "nestFirst", unfollowed := true, recurses := true, apart := false }
def NestFirstSaid : Prop := nestFirstRow.holds Try.pinned (OpenSpec.ofChange nestFirstSpec)

/-- ITS FALSE NEIGHBOUR: 'it returns false'. Refute it at one input. -/
def nestFirstWrong : ChangeSpec := { name := "nestFirst", fn := fun _ => fun
  | [d] => { results := [.lit (.bool false)], args := [d] }
  | _ => none }
def NestFirstWrongFalsely : Prop := nestFirstRow.holds Try.pinned (OpenSpec.ofChange nestFirstWrong)

/-- 'ledgerstonelaw16.Tl2None': WHATEVER THE INPUT: true; the input reads as it did. -/
def tl2NoneSpec : ChangeSpec := { name := "tl2None", fn := fun _ => fun
  | [d1, d2] => { results := [.lit (.bool true)], args := [d1, d2] }
  | _ => none }
def tl2NoneRow : OpenClaim := { program := "ytdkammcandclhaa", sum := "340546a95fbacb8bd57bfa36103887a0f7de2821ef8eda7585ccbe0d3081c88a", func := "ledgerstone/ledgerstonelaw16.Tl2None", spec := "tl2None", unfollowed := true, recurses := true, apart := false }
def Tl2NoneSaid : Prop := tl2NoneRow.holds Try.pinned (OpenSpec.ofChange tl2NoneSpec)

/-- ITS FALSE NEIGHBOUR: 'it returns false'. Refute it at one input. -/
def tl2NoneWrong : ChangeSpec := { name := "tl2None", fn := fun _ => fun
  | [d1, d2] => { results := [.lit (.bool false)], args := [d1, d2] }
  | _ => none }
def Tl2NoneWrongFalsely : Prop := tl2NoneRow.holds Try.pinned (OpenSpec.ofChange tl2NoneWrong)

/- THE SECOND FORM. 'bulk': how many values and letters a reading holds, each counted each time it is reached (what is shared counts as often as it is met; a slice's spare places count too). A statement '..UptoSaid' is the law's where the arguments, and the package variables that the reading takes, are together of bulk at most 1048576: NARROWER than '..Said'. Prove '..Said' where nothing that the law and all that it calls make is longer than what came in: it says more and counts as full. Else prove '..UptoSaid'. A law counts once. -/
mutual
def uptoBulk {H : Type} : DataW H → Nat
  | .lit (.string bytes) => bytes.length + 1
  | .lit _ => 1
  | .nil => 1
  | .ptr d => uptoBulk d + 1
  | .slice elems spare => uptoBulkAll elems + uptoBulkAll spare + 1
  | .agg parts => uptoBulkAll parts + 1
  | .iface _ d => uptoBulk d + 1
  | .map entries => uptoBulkEntries entries + 1
  | .held _ => 1
def uptoBulkAll {H : Type} : List (DataW H) → Nat
  | [] => 0
  | d :: r => uptoBulk d + uptoBulkAll r
def uptoBulkEntries {H : Type} : List (Lit × DataW H) → Nat
  | [] => 0
  | x :: r => uptoBulkEntry x + uptoBulkEntries r
def uptoBulkEntry {H : Type} : Lit × DataW H → Nat
  | (.string bytes, d) => bytes.length + uptoBulk d + 1
  | (_, d) => uptoBulk d + 1
 end
def uptoSmall : (H : Type) → List (DataW H) → Bool := fun _ ds => decide (uptoBulkAll ds ≤ 1048576)
def OpenSpec.upto (s : _root_.Go.ChangeSpec) : _root_.Go.OpenSpec := { _root_.Go.OpenSpec.ofChange s with cond := some uptoSmall }

/-- 'ledgerstonelaw17.NestWhole', WHERE WHAT IT READS IS OF BULK AT MOST 1048576: true; the input reads as it did. -/
def nestWholeUptoRow : OpenClaim := { program := "ytdkammcandclhaa", sum := "340546a95fbacb8bd57bfa36103887a0f7de2821ef8eda7585ccbe0d3081c88a", func := "ledgerstone/ledgerstonelaw17.NestWhole", spec := "nestWhole", unfollowed := true, recurses := true, apart := false, narrowed := true }
def NestWholeUptoSaid : Prop := nestWholeUptoRow.holds Try.pinned (OpenSpec.upto nestWholeSpec)

/-- 'ledgerstonelaw17.NestNumbers', WHERE WHAT IT READS IS OF BULK AT MOST 1048576: true; the input reads as it did. -/
def nestNumbersUptoRow : OpenClaim := { program := "ytdkammcandclhaa", sum := "340546a95fbacb8bd57bfa36103887a0f7de2821ef8eda7585ccbe0d3081c88a", func := "ledgerstone/ledgerstonelaw17.NestNumbers", spec := "nestNumbers", unfollowed := true, recurses := true, apart := false, narrowed := true }
def NestNumbersUptoSaid : Prop := nestNumbersUptoRow.holds Try.pinned (OpenSpec.upto nestNumbersSpec)

/-- 'ledgerstonelaw17.NestNone', WHERE WHAT IT READS IS OF BULK AT MOST 1048576: true; the input reads as it did. -/
def nestNoneUptoRow : OpenClaim := { program := "ytdkammcandclhaa", sum := "340546a95fbacb8bd57bfa36103887a0f7de2821ef8eda7585ccbe0d3081c88a", func := "ledgerstone/ledgerstonelaw17.NestNone", spec := "nestNone", unfollowed := true, recurses := true, apart := false, narrowed := true }
def NestNoneUptoSaid : Prop := nestNoneUptoRow.holds Try.pinned (OpenSpec.upto nestNoneSpec)

/-- 'ledgerstonelaw16.Tl2Serial', WHERE WHAT IT READS IS OF BULK AT MOST 1048576: true; the input reads as it did. -/
def tl2SerialUptoRow : OpenClaim := { program := "ytdkammcandclhaa", sum := "340546a95fbacb8bd57bfa36103887a0f7de2821ef8eda7585ccbe0d3081c88a", func := "ledgerstone/ledgerstonelaw16.Tl2Serial", spec := "tl2Serial", unfollowed := true, recurses := true, apart := false, narrowed := true }
def Tl2SerialUptoSaid : Prop := tl2SerialUptoRow.holds Try.pinned (OpenSpec.upto tl2SerialSpec)

/-- 'ledgerstonelaw16.Tl2Opaque', WHERE WHAT IT READS IS OF BULK AT MOST 1048576: true; the input reads as it did. -/
def tl2OpaqueUptoRow : OpenClaim := { program := "ytdkammcandclhaa", sum := "340546a95fbacb8bd57bfa36103887a0f7de2821ef8eda7585ccbe0d3081c88a", func := "ledgerstone/ledgerstonelaw16.Tl2Opaque", spec := "tl2Opaque", unfollowed := true, recurses := true, apart := false, narrowed := true }
def Tl2OpaqueUptoSaid : Prop := tl2OpaqueUptoRow.holds Try.pinned (OpenSpec.upto tl2OpaqueSpec)

/-- 'ledgerstonelaw17.NestFirst', WHERE WHAT IT READS IS OF BULK AT MOST 1048576: true; the input reads as it did. -/
def nestFirstUptoRow : OpenClaim := { program := "ytdkammcandclhaa", sum := "340546a95fbacb8bd57bfa36103887a0f7de2821ef8eda7585ccbe0d3081c88a", func := "ledgerstone/ledgerstonelaw17.NestFirst", spec := "nestFirst", unfollowed := true, recurses := true, apart := false, narrowed := true }
def NestFirstUptoSaid : Prop := nestFirstUptoRow.holds Try.pinned (OpenSpec.upto nestFirstSpec)

/-- 'ledgerstonelaw16.Tl2None', WHERE WHAT IT READS IS OF BULK AT MOST 1048576: true; the input reads as it did. -/
def tl2NoneUptoRow : OpenClaim := { program := "ytdkammcandclhaa", sum := "340546a95fbacb8bd57bfa36103887a0f7de2821ef8eda7585ccbe0d3081c88a", func := "ledgerstone/ledgerstonelaw16.Tl2None", spec := "tl2None", unfollowed := true, recurses := true, apart := false, narrowed := true }
def Tl2NoneUptoSaid : Prop := tl2NoneUptoRow.holds Try.pinned (OpenSpec.upto tl2NoneSpec)

end Rows
end Go.Proofs.Ytdkammcandclhaa
