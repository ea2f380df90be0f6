/-
  NARROWER THAN 'FOR EVERY INPUT', by the rows' own cells (each row's printed sentence says how): SessionRuns: loops.
  DERIVED. THE GIVEN ROWS OF THIS SEAT. 9 by the template 'for every input the law returns true; each argument reads behind the call as it read before'; 0 by the template 'total and deterministic' (their statements: YtodbjmagcelfjaaGreatTotals.lean).
  GIVEN WITH THE SEED: the statements are not yours to turn. If you find one false, say at which input.
  Laid BY PROGRAM, IN A SANDBOX (cutbox-rows.mjs): the forced cells as the released guide's own fill.sh prints them over the translation f65b1f9701d7acd3… (all of the seat's roots in one cut). By AI agents, Wed Nov 11 2026. No macro, syntax, notation, axiom, sorry.
-/
import Derived.Test.YtodbjmagcelfjaaGreatChecked
import GoSem.Claim
import GoSem.ClaimJoined
import GoSem.ClaimMapViews
import Derived.JoinedTies
import Derived.KernelRfl
namespace Go.Proofs.YtodbjmagcelfjaaGreat
/- THE CELL 'sum', in the pinned program and in every row, IS THE sha256 OF THE DUMP (.gsa) THAT YtodbjmagcelfjaaGreatProg.lean LOADS. Nothing in Lean hashes anything: it is a label: what it is worth is what the hold of that sum in a sandbox is worth. -/
noncomputable def Tryz.pinned : Pinned := { name := "ytodbjmagcelfjaagreat", sum := "f65b1f9701d7acd37f4b946564394250c292cc03832e905393cadf66eff5dcdd", checked := Tryz.checked }
namespace Rows
def none {H : Type} : Left H := { results := [], args := [] }

/-- 'ledgerstonelaw30.SessionAlone': WHATEVER THE INPUT: true; the input reads as it did. -/
def sessionAloneSpec : ChangeSpec := { name := "sessionAlone", fn := fun _ => fun
  | [d] => { results := [.lit (.bool true)], args := [d] }
  | _ => none }
def sessionAloneRow : OpenClaim := { program := "ytodbjmagcelfjaagreat", sum := "f65b1f9701d7acd37f4b946564394250c292cc03832e905393cadf66eff5dcdd", func := "ledgerstone/ledgerstonelaw30.SessionAlone", spec := "sessionAlone", unfollowed := true, recurses := true, apart := false }
def SessionAloneSaid : Prop := sessionAloneRow.holds Tryz.pinned (OpenSpec.ofChange sessionAloneSpec)

/-- ITS FALSE NEIGHBOUR: 'it returns false'. Refute it at one input. -/
def sessionAloneWrong : ChangeSpec := { name := "sessionAlone", fn := fun _ => fun
  | [d] => { results := [.lit (.bool false)], args := [d] }
  | _ => none }
def SessionAloneWrongFalsely : Prop := sessionAloneRow.holds Tryz.pinned (OpenSpec.ofChange sessionAloneWrong)

/-- 'ledgerstonelaw30.SessionNone': WHATEVER THE INPUT: true; the input reads as it did. -/
def sessionNoneSpec : ChangeSpec := { name := "sessionNone", fn := fun _ => fun
  | [d] => { results := [.lit (.bool true)], args := [d] }
  | _ => none }
def sessionNoneRow : OpenClaim := { program := "ytodbjmagcelfjaagreat", sum := "f65b1f9701d7acd37f4b946564394250c292cc03832e905393cadf66eff5dcdd", func := "ledgerstone/ledgerstonelaw30.SessionNone", spec := "sessionNone", unfollowed := true, recurses := true, apart := false }
def SessionNoneSaid : Prop := sessionNoneRow.holds Tryz.pinned (OpenSpec.ofChange sessionNoneSpec)

/-- ITS FALSE NEIGHBOUR: 'it returns false'. Refute it at one input. -/
def sessionNoneWrong : ChangeSpec := { name := "sessionNone", fn := fun _ => fun
  | [d] => { results := [.lit (.bool false)], args := [d] }
  | _ => none }
def SessionNoneWrongFalsely : Prop := sessionNoneRow.holds Tryz.pinned (OpenSpec.ofChange sessionNoneWrong)

/-- 'ledgerstonelaw18.WaitElse': WHATEVER THE INPUT: true; the input reads as it did. -/
def waitElseSpec : ChangeSpec := { name := "waitElse", fn := fun _ => fun
  | [d1, d2] => { results := [.lit (.bool true)], args := [d1, d2] }
  | _ => none }
def waitElseRow : OpenClaim := { program := "ytodbjmagcelfjaagreat", sum := "f65b1f9701d7acd37f4b946564394250c292cc03832e905393cadf66eff5dcdd", func := "ledgerstone/ledgerstonelaw18.WaitElse", spec := "waitElse", unfollowed := true, recurses := true, apart := false }
def WaitElseSaid : Prop := waitElseRow.holds Tryz.pinned (OpenSpec.ofChange waitElseSpec)

/-- ITS FALSE NEIGHBOUR: 'it returns false'. Refute it at one input. -/
def waitElseWrong : ChangeSpec := { name := "waitElse", fn := fun _ => fun
  | [d1, d2] => { results := [.lit (.bool false)], args := [d1, d2] }
  | _ => none }
def WaitElseWrongFalsely : Prop := waitElseRow.holds Tryz.pinned (OpenSpec.ofChange waitElseWrong)

/-- 'ledgerstonelaw18.WaitWakes': WHATEVER THE INPUT: true; the input reads as it did. -/
def waitWakesSpec : ChangeSpec := { name := "waitWakes", fn := fun _ => fun
  | [d1, d2, d3] => { results := [.lit (.bool true)], args := [d1, d2, d3] }
  | _ => none }
def waitWakesRow : OpenClaim := { program := "ytodbjmagcelfjaagreat", sum := "f65b1f9701d7acd37f4b946564394250c292cc03832e905393cadf66eff5dcdd", func := "ledgerstone/ledgerstonelaw18.WaitWakes", spec := "waitWakes", unfollowed := true, recurses := true, apart := false }
def WaitWakesSaid : Prop := waitWakesRow.holds Tryz.pinned (OpenSpec.ofChange waitWakesSpec)

/-- ITS FALSE NEIGHBOUR: 'it returns false'. Refute it at one input. -/
def waitWakesWrong : ChangeSpec := { name := "waitWakes", fn := fun _ => fun
  | [d1, d2, d3] => { results := [.lit (.bool false)], args := [d1, d2, d3] }
  | _ => none }
def WaitWakesWrongFalsely : Prop := waitWakesRow.holds Tryz.pinned (OpenSpec.ofChange waitWakesWrong)

/-- 'ledgerstonelaw18.WaitNone': WHATEVER THE INPUT: true; the input reads as it did. -/
def waitNoneSpec : ChangeSpec := { name := "waitNone", fn := fun _ => fun
  | [d] => { results := [.lit (.bool true)], args := [d] }
  | _ => none }
def waitNoneRow : OpenClaim := { program := "ytodbjmagcelfjaagreat", sum := "f65b1f9701d7acd37f4b946564394250c292cc03832e905393cadf66eff5dcdd", func := "ledgerstone/ledgerstonelaw18.WaitNone", spec := "waitNone", unfollowed := true, recurses := true, apart := false }
def WaitNoneSaid : Prop := waitNoneRow.holds Tryz.pinned (OpenSpec.ofChange waitNoneSpec)

/-- ITS FALSE NEIGHBOUR: 'it returns false'. Refute it at one input. -/
def waitNoneWrong : ChangeSpec := { name := "waitNone", fn := fun _ => fun
  | [d] => { results := [.lit (.bool false)], args := [d] }
  | _ => none }
def WaitNoneWrongFalsely : Prop := waitNoneRow.holds Tryz.pinned (OpenSpec.ofChange waitNoneWrong)

/-- 'ledgerstonelaw30.SessionSerial': WHATEVER THE INPUT: true; the input reads as it did. -/
def sessionSerialSpec : ChangeSpec := { name := "sessionSerial", fn := fun _ => fun
  | [d1, d2] => { results := [.lit (.bool true)], args := [d1, d2] }
  | _ => none }
def sessionSerialRow : OpenClaim := { program := "ytodbjmagcelfjaagreat", sum := "f65b1f9701d7acd37f4b946564394250c292cc03832e905393cadf66eff5dcdd", func := "ledgerstone/ledgerstonelaw30.SessionSerial", spec := "sessionSerial", unfollowed := true, recurses := true, apart := false }
def SessionSerialSaid : Prop := sessionSerialRow.holds Tryz.pinned (OpenSpec.ofChange sessionSerialSpec)

/-- ITS FALSE NEIGHBOUR: 'it returns false'. Refute it at one input. -/
def sessionSerialWrong : ChangeSpec := { name := "sessionSerial", fn := fun _ => fun
  | [d1, d2] => { results := [.lit (.bool false)], args := [d1, d2] }
  | _ => none }
def SessionSerialWrongFalsely : Prop := sessionSerialRow.holds Tryz.pinned (OpenSpec.ofChange sessionSerialWrong)

/-- 'ledgerstonelaw18.WaitTells': WHATEVER THE INPUT: true; the input reads as it did. -/
def waitTellsSpec : ChangeSpec := { name := "waitTells", fn := fun _ => fun
  | [d] => { results := [.lit (.bool true)], args := [d] }
  | _ => none }
def waitTellsRow : OpenClaim := { program := "ytodbjmagcelfjaagreat", sum := "f65b1f9701d7acd37f4b946564394250c292cc03832e905393cadf66eff5dcdd", func := "ledgerstone/ledgerstonelaw18.WaitTells", spec := "waitTells", unfollowed := true, recurses := true, apart := false }
def WaitTellsSaid : Prop := waitTellsRow.holds Tryz.pinned (OpenSpec.ofChange waitTellsSpec)

/-- ITS FALSE NEIGHBOUR: 'it returns false'. Refute it at one input. -/
def waitTellsWrong : ChangeSpec := { name := "waitTells", fn := fun _ => fun
  | [d] => { results := [.lit (.bool false)], args := [d] }
  | _ => none }
def WaitTellsWrongFalsely : Prop := waitTellsRow.holds Tryz.pinned (OpenSpec.ofChange waitTellsWrong)

/-- 'ledgerstonelaw30.SessionNumbers': WHATEVER THE INPUT: true; the input reads as it did. -/
def sessionNumbersSpec : ChangeSpec := { name := "sessionNumbers", fn := fun _ => fun
  | [] => { results := [.lit (.bool true)], args := [] }
  | _ => none }
def sessionNumbersRow : OpenClaim := { program := "ytodbjmagcelfjaagreat", sum := "f65b1f9701d7acd37f4b946564394250c292cc03832e905393cadf66eff5dcdd", func := "ledgerstone/ledgerstonelaw30.SessionNumbers", spec := "sessionNumbers", unfollowed := true, recurses := true, apart := false }
def SessionNumbersSaid : Prop := sessionNumbersRow.holds Tryz.pinned (OpenSpec.ofChange sessionNumbersSpec)

/-- ITS FALSE NEIGHBOUR: 'it returns false'. Refute it at one input. -/
def sessionNumbersWrong : ChangeSpec := { name := "sessionNumbers", fn := fun _ => fun
  | [] => { results := [.lit (.bool false)], args := [] }
  | _ => none }
def SessionNumbersWrongFalsely : Prop := sessionNumbersRow.holds Tryz.pinned (OpenSpec.ofChange sessionNumbersWrong)

/-- 'ledgerstonelaw30.SessionRuns': WHATEVER THE INPUT: true; the input reads as it did. -/
def sessionRunsSpec : ChangeSpec := { name := "sessionRuns", fn := fun _ => fun
  | [d1, d2] => { results := [.lit (.bool true)], args := [d1, d2] }
  | _ => none }
def sessionRunsRow : OpenClaim := { program := "ytodbjmagcelfjaagreat", sum := "f65b1f9701d7acd37f4b946564394250c292cc03832e905393cadf66eff5dcdd", func := "ledgerstone/ledgerstonelaw30.SessionRuns", spec := "sessionRuns", unfollowed := true, recurses := true, loops := true, apart := false }
def SessionRunsSaid : Prop := sessionRunsRow.holds Tryz.pinned (OpenSpec.ofChange sessionRunsSpec)

/-- ITS FALSE NEIGHBOUR: 'it returns false'. Refute it at one input. -/
def sessionRunsWrong : ChangeSpec := { name := "sessionRuns", fn := fun _ => fun
  | [d1, d2] => { results := [.lit (.bool false)], args := [d1, d2] }
  | _ => none }
def SessionRunsWrongFalsely : Prop := sessionRunsRow.holds Tryz.pinned (OpenSpec.ofChange sessionRunsWrong)

/- THE SECOND FORM. 'bulk': how many values and letters a reading holds, each counted each time it is reached (what is shared counts as often as it is met; a slice's spare places count too). A statement '..UptoSaid' is the law's where the arguments, and the package variables that the reading takes, are together of bulk at most 1048576: NARROWER than '..Said'. Prove '..Said' where nothing that the law and all that it calls make is longer than what came in: it says more and counts as full. Else prove '..UptoSaid'. A law counts once. -/
mutual
def uptoBulk {H : Type} : DataW H → Nat
  | .lit (.string bytes) => bytes.length + 1
  | .lit _ => 1
  | .nil => 1
  | .ptr d => uptoBulk d + 1
  | .slice elems spare => uptoBulkAll elems + uptoBulkAll spare + 1
  | .agg parts => uptoBulkAll parts + 1
  | .iface _ d => uptoBulk d + 1
  | .map entries => uptoBulkEntries entries + 1
  | .held _ => 1
def uptoBulkAll {H : Type} : List (DataW H) → Nat
  | [] => 0
  | d :: r => uptoBulk d + uptoBulkAll r
def uptoBulkEntries {H : Type} : List (Lit × DataW H) → Nat
  | [] => 0
  | x :: r => uptoBulkEntry x + uptoBulkEntries r
def uptoBulkEntry {H : Type} : Lit × DataW H → Nat
  | (.string bytes, d) => bytes.length + uptoBulk d + 1
  | (_, d) => uptoBulk d + 1
 end
def uptoSmall : (H : Type) → List (DataW H) → Bool := fun _ ds => decide (uptoBulkAll ds ≤ 1048576)
def OpenSpec.upto (s : _root_.Go.ChangeSpec) : _root_.Go.OpenSpec := { _root_.Go.OpenSpec.ofChange s with cond := some uptoSmall }

/-- 'ledgerstonelaw30.SessionAlone', WHERE WHAT IT READS IS OF BULK AT MOST 1048576: true; the input reads as it did. -/
def sessionAloneUptoRow : OpenClaim := { program := "ytodbjmagcelfjaagreat", sum := "f65b1f9701d7acd37f4b946564394250c292cc03832e905393cadf66eff5dcdd", func := "ledgerstone/ledgerstonelaw30.SessionAlone", spec := "sessionAlone", unfollowed := true, recurses := true, apart := false, narrowed := true }
def SessionAloneUptoSaid : Prop := sessionAloneUptoRow.holds Tryz.pinned (OpenSpec.upto sessionAloneSpec)

/-- 'ledgerstonelaw30.SessionNone', WHERE WHAT IT READS IS OF BULK AT MOST 1048576: true; the input reads as it did. -/
def sessionNoneUptoRow : OpenClaim := { program := "ytodbjmagcelfjaagreat", sum := "f65b1f9701d7acd37f4b946564394250c292cc03832e905393cadf66eff5dcdd", func := "ledgerstone/ledgerstonelaw30.SessionNone", spec := "sessionNone", unfollowed := true, recurses := true, apart := false, narrowed := true }
def SessionNoneUptoSaid : Prop := sessionNoneUptoRow.holds Tryz.pinned (OpenSpec.upto sessionNoneSpec)

/-- 'ledgerstonelaw18.WaitElse', WHERE WHAT IT READS IS OF BULK AT MOST 1048576: true; the input reads as it did. -/
def waitElseUptoRow : OpenClaim := { program := "ytodbjmagcelfjaagreat", sum := "f65b1f9701d7acd37f4b946564394250c292cc03832e905393cadf66eff5dcdd", func := "ledgerstone/ledgerstonelaw18.WaitElse", spec := "waitElse", unfollowed := true, recurses := true, apart := false, narrowed := true }
def WaitElseUptoSaid : Prop := waitElseUptoRow.holds Tryz.pinned (OpenSpec.upto waitElseSpec)

/-- 'ledgerstonelaw18.WaitWakes', WHERE WHAT IT READS IS OF BULK AT MOST 1048576: true; the input reads as it did. -/
def waitWakesUptoRow : OpenClaim := { program := "ytodbjmagcelfjaagreat", sum := "f65b1f9701d7acd37f4b946564394250c292cc03832e905393cadf66eff5dcdd", func := "ledgerstone/ledgerstonelaw18.WaitWakes", spec := "waitWakes", unfollowed := true, recurses := true, apart := false, narrowed := true }
def WaitWakesUptoSaid : Prop := waitWakesUptoRow.holds Tryz.pinned (OpenSpec.upto waitWakesSpec)

/-- 'ledgerstonelaw18.WaitNone', WHERE WHAT IT READS IS OF BULK AT MOST 1048576: true; the input reads as it did. -/
def waitNoneUptoRow : OpenClaim := { program := "ytodbjmagcelfjaagreat", sum := "f65b1f9701d7acd37f4b946564394250c292cc03832e905393cadf66eff5dcdd", func := "ledgerstone/ledgerstonelaw18.WaitNone", spec := "waitNone", unfollowed := true, recurses := true, apart := false, narrowed := true }
def WaitNoneUptoSaid : Prop := waitNoneUptoRow.holds Tryz.pinned (OpenSpec.upto waitNoneSpec)

/-- 'ledgerstonelaw30.SessionSerial', WHERE WHAT IT READS IS OF BULK AT MOST 1048576: true; the input reads as it did. -/
def sessionSerialUptoRow : OpenClaim := { program := "ytodbjmagcelfjaagreat", sum := "f65b1f9701d7acd37f4b946564394250c292cc03832e905393cadf66eff5dcdd", func := "ledgerstone/ledgerstonelaw30.SessionSerial", spec := "sessionSerial", unfollowed := true, recurses := true, apart := false, narrowed := true }
def SessionSerialUptoSaid : Prop := sessionSerialUptoRow.holds Tryz.pinned (OpenSpec.upto sessionSerialSpec)

/-- 'ledgerstonelaw18.WaitTells', WHERE WHAT IT READS IS OF BULK AT MOST 1048576: true; the input reads as it did. -/
def waitTellsUptoRow : OpenClaim := { program := "ytodbjmagcelfjaagreat", sum := "f65b1f9701d7acd37f4b946564394250c292cc03832e905393cadf66eff5dcdd", func := "ledgerstone/ledgerstonelaw18.WaitTells", spec := "waitTells", unfollowed := true, recurses := true, apart := false, narrowed := true }
def WaitTellsUptoSaid : Prop := waitTellsUptoRow.holds Tryz.pinned (OpenSpec.upto waitTellsSpec)

/-- 'ledgerstonelaw30.SessionNumbers', WHERE WHAT IT READS IS OF BULK AT MOST 1048576: true; the input reads as it did. -/
def sessionNumbersUptoRow : OpenClaim := { program := "ytodbjmagcelfjaagreat", sum := "f65b1f9701d7acd37f4b946564394250c292cc03832e905393cadf66eff5dcdd", func := "ledgerstone/ledgerstonelaw30.SessionNumbers", spec := "sessionNumbers", unfollowed := true, recurses := true, apart := false, narrowed := true }
def SessionNumbersUptoSaid : Prop := sessionNumbersUptoRow.holds Tryz.pinned (OpenSpec.upto sessionNumbersSpec)

/-- 'ledgerstonelaw30.SessionRuns', WHERE WHAT IT READS IS OF BULK AT MOST 1048576: true; the input reads as it did. -/
def sessionRunsUptoRow : OpenClaim := { program := "ytodbjmagcelfjaagreat", sum := "f65b1f9701d7acd37f4b946564394250c292cc03832e905393cadf66eff5dcdd", func := "ledgerstone/ledgerstonelaw30.SessionRuns", spec := "sessionRuns", unfollowed := true, recurses := true, loops := true, apart := false, narrowed := true }
def SessionRunsUptoSaid : Prop := sessionRunsUptoRow.holds Tryz.pinned (OpenSpec.upto sessionRunsSpec)

end Rows
end Go.Proofs.YtodbjmagcelfjaaGreat
