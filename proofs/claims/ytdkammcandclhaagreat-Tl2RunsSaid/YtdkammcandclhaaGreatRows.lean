/-
  NARROWER THAN 'FOR EVERY INPUT', by the rows' own cells (each row's printed sentence says how): NestRuns: loops.
  DERIVED. THE GIVEN ROWS OF THIS SEAT. 2 by the template 'for every input the law returns true; each argument reads behind the call as it read before'; 0 by the template 'total and deterministic' (their statements: YtdkammcandclhaaGreatTotals.lean).
  GIVEN WITH THE SEED: the statements are not yours to turn. If you find one false, say at which input.
  Laid BY PROGRAM, IN A SANDBOX (cutbox-rows.mjs): the forced cells as the released guide's own fill.sh prints them over the translation 06825ee23f544b41… (all of the seat's roots in one cut). By AI agents, Wed Nov 11 2026. No macro, syntax, notation, axiom, sorry.
-/
import Derived.Test.YtdkammcandclhaaGreatChecked
import GoSem.Claim
import GoSem.ClaimJoined
import GoSem.ClaimMapViews
import Derived.JoinedTies
import Derived.KernelRfl
namespace Go.Proofs.YtdkammcandclhaaGreat
/- THE CELL 'sum', in the pinned program and in every row, IS THE sha256 OF THE DUMP (.gsa) THAT YtdkammcandclhaaGreatProg.lean LOADS. Nothing in Lean hashes anything: it is a label: what it is worth is what the hold of that sum in a sandbox is worth. -/
noncomputable def Tryz.pinned : Pinned := { name := "ytdkammcandclhaagreat", sum := "06825ee23f544b41fc7895d3766037b5af9876fe0a60af2be3f2848a28126c5e", checked := Tryz.checked }
namespace Rows
def none {H : Type} : Left H := { results := [], args := [] }

/-- 'ledgerstonelaw17.NestRuns': WHATEVER THE INPUT: true; the input reads as it did. -/
def nestRunsSpec : ChangeSpec := { name := "nestRuns", fn := fun _ => fun
  | [d1, d2] => { results := [.lit (.bool true)], args := [d1, d2] }
  | _ => none }
def nestRunsRow : OpenClaim := { program := "ytdkammcandclhaagreat", sum := "06825ee23f544b41fc7895d3766037b5af9876fe0a60af2be3f2848a28126c5e", func := "ledgerstone/ledgerstonelaw17.NestRuns", spec := "nestRuns", unfollowed := true, recurses := true, loops := true, apart := false }
def NestRunsSaid : Prop := nestRunsRow.holds Tryz.pinned (OpenSpec.ofChange nestRunsSpec)

/-- ITS FALSE NEIGHBOUR: 'it returns false'. Refute it at one input. -/
def nestRunsWrong : ChangeSpec := { name := "nestRuns", fn := fun _ => fun
  | [d1, d2] => { results := [.lit (.bool false)], args := [d1, d2] }
  | _ => none }
def NestRunsWrongFalsely : Prop := nestRunsRow.holds Tryz.pinned (OpenSpec.ofChange nestRunsWrong)

/-- 'ledgerstonelaw16.Tl2Runs': WHATEVER THE INPUT: true; the input reads as it did. -/
def tl2RunsSpec : ChangeSpec := { name := "tl2Runs", fn := fun _ => fun
  | [d] => { results := [.lit (.bool true)], args := [d] }
  | _ => none }
def tl2RunsRow : OpenClaim := { program := "ytdkammcandclhaagreat", sum := "06825ee23f544b41fc7895d3766037b5af9876fe0a60af2be3f2848a28126c5e", func := "ledgerstone/ledgerstonelaw16.Tl2Runs", spec := "tl2Runs", unfollowed := true, recurses := true, apart := false }
def Tl2RunsSaid : Prop := tl2RunsRow.holds Tryz.pinned (OpenSpec.ofChange tl2RunsSpec)

/-- ITS FALSE NEIGHBOUR: 'it returns false'. Refute it at one input. -/
def tl2RunsWrong : ChangeSpec := { name := "tl2Runs", fn := fun _ => fun
  | [d] => { results := [.lit (.bool false)], args := [d] }
  | _ => none }
def Tl2RunsWrongFalsely : Prop := tl2RunsRow.holds Tryz.pinned (OpenSpec.ofChange tl2RunsWrong)

/- THE SECOND FORM. 'bulk': how many values and letters a reading holds, each counted each time it is reached (what is shared counts as often as it is met; a slice's spare places count too). A statement '..UptoSaid' is the law's where the arguments, and the package variables that the reading takes, are together of bulk at most 1048576: NARROWER than '..Said'. Prove '..Said' where nothing that the law and all that it calls make is longer than what came in: it says more and counts as full. Else prove '..UptoSaid'. A law counts once. -/
mutual
def uptoBulk {H : Type} : DataW H → Nat
  | .lit (.string bytes) => bytes.length + 1
  | .lit _ => 1
  | .nil => 1
  | .ptr d => uptoBulk d + 1
  | .slice elems spare => uptoBulkAll elems + uptoBulkAll spare + 1
  | .agg parts => uptoBulkAll parts + 1
  | .iface _ d => uptoBulk d + 1
  | .map entries => uptoBulkEntries entries + 1
  | .held _ => 1
def uptoBulkAll {H : Type} : List (DataW H) → Nat
  | [] => 0
  | d :: r => uptoBulk d + uptoBulkAll r
def uptoBulkEntries {H : Type} : List (Lit × DataW H) → Nat
  | [] => 0
  | x :: r => uptoBulkEntry x + uptoBulkEntries r
def uptoBulkEntry {H : Type} : Lit × DataW H → Nat
  | (.string bytes, d) => bytes.length + uptoBulk d + 1
  | (_, d) => uptoBulk d + 1
 end
def uptoSmall : (H : Type) → List (DataW H) → Bool := fun _ ds => decide (uptoBulkAll ds ≤ 1048576)
def OpenSpec.upto (s : _root_.Go.ChangeSpec) : _root_.Go.OpenSpec := { _root_.Go.OpenSpec.ofChange s with cond := some uptoSmall }

/-- 'ledgerstonelaw17.NestRuns', WHERE WHAT IT READS IS OF BULK AT MOST 1048576: true; the input reads as it did. -/
def nestRunsUptoRow : OpenClaim := { program := "ytdkammcandclhaagreat", sum := "06825ee23f544b41fc7895d3766037b5af9876fe0a60af2be3f2848a28126c5e", func := "ledgerstone/ledgerstonelaw17.NestRuns", spec := "nestRuns", unfollowed := true, recurses := true, loops := true, apart := false, narrowed := true }
def NestRunsUptoSaid : Prop := nestRunsUptoRow.holds Tryz.pinned (OpenSpec.upto nestRunsSpec)

/-- 'ledgerstonelaw16.Tl2Runs', WHERE WHAT IT READS IS OF BULK AT MOST 1048576: true; the input reads as it did. -/
def tl2RunsUptoRow : OpenClaim := { program := "ytdkammcandclhaagreat", sum := "06825ee23f544b41fc7895d3766037b5af9876fe0a60af2be3f2848a28126c5e", func := "ledgerstone/ledgerstonelaw16.Tl2Runs", spec := "tl2Runs", unfollowed := true, recurses := true, apart := false, narrowed := true }
def Tl2RunsUptoSaid : Prop := tl2RunsUptoRow.holds Tryz.pinned (OpenSpec.upto tl2RunsSpec)

end Rows
end Go.Proofs.YtdkammcandclhaaGreat
