/-
  No cell of these rows narrows 'for every input' (looked for: loops, veiled, ifaces, maps, wideKeys, modest, calm, conditions, laid).
  DERIVED. THE GIVEN ROWS OF THIS SEAT. 10 by the template 'for every input the law returns true; each argument reads behind the call as it read before'; 0 by the template 'total and deterministic' (their statements: YtplfjljdakkigaaTotals.lean).
  GIVEN WITH THE SEED: the statements are not yours to turn. If you find one false, say at which input.
  Laid BY PROGRAM, IN A SANDBOX (cutbox-rows.mjs): the forced cells as the released guide's own fill.sh prints them over the translation ac87a9b0095956ae… (all of the seat's roots in one cut). By AI agents, Wed Nov 11 2026. No macro, syntax, notation, axiom, sorry.
-/
import Derived.Test.YtplfjljdakkigaaChecked
import GoSem.Claim
import GoSem.ClaimJoined
import GoSem.ClaimMapViews
import Derived.JoinedTies
import Derived.KernelRfl
namespace Go.Proofs.Ytplfjljdakkigaa
/- THE CELL 'sum', in the pinned program and in every row, IS THE sha256 OF THE DUMP (.gsa) THAT YtplfjljdakkigaaProg.lean LOADS. Nothing in Lean hashes anything: it is a label: what it is worth is what the hold of that sum in a sandbox is worth. -/
noncomputable def Try.pinned : Pinned := { name := "ytplfjljdakkigaa", sum := "ac87a9b0095956ae47323d7685948075e3f4f40b4df9556cd3ff696e51921d44", checked := Try.checked }
namespace Rows
def none {H : Type} : Left H := { results := [], args := [] }

/-- 'ledgerstonelaw14.CellNumbers': WHATEVER THE INPUT: true; the input reads as it did. -/
def cellNumbersSpec : ChangeSpec := { name := "cellNumbers", fn := fun _ => fun
  | [] => { results := [.lit (.bool true)], args := [] }
  | _ => none }
def cellNumbersRow : OpenClaim := { program := "ytplfjljdakkigaa", sum := "ac87a9b0095956ae47323d7685948075e3f4f40b4df9556cd3ff696e51921d44", func := "ledgerstone/ledgerstonelaw14.CellNumbers", spec := "cellNumbers", apart := false }
def CellNumbersSaid : Prop := cellNumbersRow.holds Try.pinned (OpenSpec.ofChange cellNumbersSpec)

/-- ITS FALSE NEIGHBOUR: 'it returns false'. Refute it at one input. -/
def cellNumbersWrong : ChangeSpec := { name := "cellNumbers", fn := fun _ => fun
  | [] => { results := [.lit (.bool false)], args := [] }
  | _ => none }
def CellNumbersWrongFalsely : Prop := cellNumbersRow.holds Try.pinned (OpenSpec.ofChange cellNumbersWrong)

/-- 'ledgerstonelaw14.CellOwners': WHATEVER THE INPUT: true; the input reads as it did. -/
def cellOwnersSpec : ChangeSpec := { name := "cellOwners", fn := fun _ => fun
  | [d] => { results := [.lit (.bool true)], args := [d] }
  | _ => none }
def cellOwnersRow : OpenClaim := { program := "ytplfjljdakkigaa", sum := "ac87a9b0095956ae47323d7685948075e3f4f40b4df9556cd3ff696e51921d44", func := "ledgerstone/ledgerstonelaw14.CellOwners", spec := "cellOwners", apart := false }
def CellOwnersSaid : Prop := cellOwnersRow.holds Try.pinned (OpenSpec.ofChange cellOwnersSpec)

/-- ITS FALSE NEIGHBOUR: 'it returns false'. Refute it at one input. -/
def cellOwnersWrong : ChangeSpec := { name := "cellOwners", fn := fun _ => fun
  | [d] => { results := [.lit (.bool false)], args := [d] }
  | _ => none }
def CellOwnersWrongFalsely : Prop := cellOwnersRow.holds Try.pinned (OpenSpec.ofChange cellOwnersWrong)

/-- 'ledgerstonelaw14.CellVersions': WHATEVER THE INPUT: true; the input reads as it did. -/
def cellVersionsSpec : ChangeSpec := { name := "cellVersions", fn := fun _ => fun
  | [d] => { results := [.lit (.bool true)], args := [d] }
  | _ => none }
def cellVersionsRow : OpenClaim := { program := "ytplfjljdakkigaa", sum := "ac87a9b0095956ae47323d7685948075e3f4f40b4df9556cd3ff696e51921d44", func := "ledgerstone/ledgerstonelaw14.CellVersions", spec := "cellVersions", apart := false }
def CellVersionsSaid : Prop := cellVersionsRow.holds Try.pinned (OpenSpec.ofChange cellVersionsSpec)

/-- ITS FALSE NEIGHBOUR: 'it returns false'. Refute it at one input. -/
def cellVersionsWrong : ChangeSpec := { name := "cellVersions", fn := fun _ => fun
  | [d] => { results := [.lit (.bool false)], args := [d] }
  | _ => none }
def CellVersionsWrongFalsely : Prop := cellVersionsRow.holds Try.pinned (OpenSpec.ofChange cellVersionsWrong)

/-- 'ledgerstonelaw13.SchedNumbers': WHATEVER THE INPUT: true; the input reads as it did. -/
def schedNumbersSpec : ChangeSpec := { name := "schedNumbers", fn := fun _ => fun
  | [] => { results := [.lit (.bool true)], args := [] }
  | _ => none }
def schedNumbersRow : OpenClaim := { program := "ytplfjljdakkigaa", sum := "ac87a9b0095956ae47323d7685948075e3f4f40b4df9556cd3ff696e51921d44", func := "ledgerstone/ledgerstonelaw13.SchedNumbers", spec := "schedNumbers", unfollowed := true, recurses := true, apart := false }
def SchedNumbersSaid : Prop := schedNumbersRow.holds Try.pinned (OpenSpec.ofChange schedNumbersSpec)

/-- ITS FALSE NEIGHBOUR: 'it returns false'. Refute it at one input. -/
def schedNumbersWrong : ChangeSpec := { name := "schedNumbers", fn := fun _ => fun
  | [] => { results := [.lit (.bool false)], args := [] }
  | _ => none }
def SchedNumbersWrongFalsely : Prop := schedNumbersRow.holds Try.pinned (OpenSpec.ofChange schedNumbersWrong)

/-- 'ledgerstonelaw13.SchedFair': WHATEVER THE INPUT: true; the input reads as it did. -/
def schedFairSpec : ChangeSpec := { name := "schedFair", fn := fun _ => fun
  | [d1, d2] => { results := [.lit (.bool true)], args := [d1, d2] }
  | _ => none }
def schedFairRow : OpenClaim := { program := "ytplfjljdakkigaa", sum := "ac87a9b0095956ae47323d7685948075e3f4f40b4df9556cd3ff696e51921d44", func := "ledgerstone/ledgerstonelaw13.SchedFair", spec := "schedFair", unfollowed := true, recurses := true, apart := false }
def SchedFairSaid : Prop := schedFairRow.holds Try.pinned (OpenSpec.ofChange schedFairSpec)

/-- ITS FALSE NEIGHBOUR: 'it returns false'. Refute it at one input. -/
def schedFairWrong : ChangeSpec := { name := "schedFair", fn := fun _ => fun
  | [d1, d2] => { results := [.lit (.bool false)], args := [d1, d2] }
  | _ => none }
def SchedFairWrongFalsely : Prop := schedFairRow.holds Try.pinned (OpenSpec.ofChange schedFairWrong)

/-- 'ledgerstonelaw14.CellTells': WHATEVER THE INPUT: true; the input reads as it did. -/
def cellTellsSpec : ChangeSpec := { name := "cellTells", fn := fun _ => fun
  | [d1, d2] => { results := [.lit (.bool true)], args := [d1, d2] }
  | _ => none }
def cellTellsRow : OpenClaim := { program := "ytplfjljdakkigaa", sum := "ac87a9b0095956ae47323d7685948075e3f4f40b4df9556cd3ff696e51921d44", func := "ledgerstone/ledgerstonelaw14.CellTells", spec := "cellTells", apart := false }
def CellTellsSaid : Prop := cellTellsRow.holds Try.pinned (OpenSpec.ofChange cellTellsSpec)

/-- ITS FALSE NEIGHBOUR: 'it returns false'. Refute it at one input. -/
def cellTellsWrong : ChangeSpec := { name := "cellTells", fn := fun _ => fun
  | [d1, d2] => { results := [.lit (.bool false)], args := [d1, d2] }
  | _ => none }
def CellTellsWrongFalsely : Prop := cellTellsRow.holds Try.pinned (OpenSpec.ofChange cellTellsWrong)

/-- 'ledgerstonelaw14.CellNone': WHATEVER THE INPUT: true; the input reads as it did. -/
def cellNoneSpec : ChangeSpec := { name := "cellNone", fn := fun _ => fun
  | [d] => { results := [.lit (.bool true)], args := [d] }
  | _ => none }
def cellNoneRow : OpenClaim := { program := "ytplfjljdakkigaa", sum := "ac87a9b0095956ae47323d7685948075e3f4f40b4df9556cd3ff696e51921d44", func := "ledgerstone/ledgerstonelaw14.CellNone", spec := "cellNone", apart := false }
def CellNoneSaid : Prop := cellNoneRow.holds Try.pinned (OpenSpec.ofChange cellNoneSpec)

/-- ITS FALSE NEIGHBOUR: 'it returns false'. Refute it at one input. -/
def cellNoneWrong : ChangeSpec := { name := "cellNone", fn := fun _ => fun
  | [d] => { results := [.lit (.bool false)], args := [d] }
  | _ => none }
def CellNoneWrongFalsely : Prop := cellNoneRow.holds Try.pinned (OpenSpec.ofChange cellNoneWrong)

/-- 'ledgerstonelaw13.SchedRuns': WHATEVER THE INPUT: true; the input reads as it did. -/
def schedRunsSpec : ChangeSpec := { name := "schedRuns", fn := fun _ => fun
  | [d1, d2] => { results := [.lit (.bool true)], args := [d1, d2] }
  | _ => none }
def schedRunsRow : OpenClaim := { program := "ytplfjljdakkigaa", sum := "ac87a9b0095956ae47323d7685948075e3f4f40b4df9556cd3ff696e51921d44", func := "ledgerstone/ledgerstonelaw13.SchedRuns", spec := "schedRuns", unfollowed := true, recurses := true, apart := false }
def SchedRunsSaid : Prop := schedRunsRow.holds Try.pinned (OpenSpec.ofChange schedRunsSpec)

/-- ITS FALSE NEIGHBOUR: 'it returns false'. Refute it at one input. -/
def schedRunsWrong : ChangeSpec := { name := "schedRuns", fn := fun _ => fun
  | [d1, d2] => { results := [.lit (.bool false)], args := [d1, d2] }
  | _ => none }
def SchedRunsWrongFalsely : Prop := schedRunsRow.holds Try.pinned (OpenSpec.ofChange schedRunsWrong)

/-- 'ledgerstonelaw13.SchedNone': WHATEVER THE INPUT: true; the input reads as it did. -/
def schedNoneSpec : ChangeSpec := { name := "schedNone", fn := fun _ => fun
  | [d] => { results := [.lit (.bool true)], args := [d] }
  | _ => none }
def schedNoneRow : OpenClaim := { program := "ytplfjljdakkigaa", sum := "ac87a9b0095956ae47323d7685948075e3f4f40b4df9556cd3ff696e51921d44", func := "ledgerstone/ledgerstonelaw13.SchedNone", spec := "schedNone", unfollowed := true, recurses := true, apart := false }
def SchedNoneSaid : Prop := schedNoneRow.holds Try.pinned (OpenSpec.ofChange schedNoneSpec)

/-- ITS FALSE NEIGHBOUR: 'it returns false'. Refute it at one input. -/
def schedNoneWrong : ChangeSpec := { name := "schedNone", fn := fun _ => fun
  | [d] => { results := [.lit (.bool false)], args := [d] }
  | _ => none }
def SchedNoneWrongFalsely : Prop := schedNoneRow.holds Try.pinned (OpenSpec.ofChange schedNoneWrong)

/-- 'ledgerstonelaw13.SchedSteps': WHATEVER THE INPUT: true; the input reads as it did. -/
def schedStepsSpec : ChangeSpec := { name := "schedSteps", fn := fun _ => fun
  | [d1, d2] => { results := [.lit (.bool true)], args := [d1, d2] }
  | _ => none }
def schedStepsRow : OpenClaim := { program := "ytplfjljdakkigaa", sum := "ac87a9b0095956ae47323d7685948075e3f4f40b4df9556cd3ff696e51921d44", func := "ledgerstone/ledgerstonelaw13.SchedSteps", spec := "schedSteps", unfollowed := true, recurses := true, apart := false }
def SchedStepsSaid : Prop := schedStepsRow.holds Try.pinned (OpenSpec.ofChange schedStepsSpec)

/-- ITS FALSE NEIGHBOUR: 'it returns false'. Refute it at one input. -/
def schedStepsWrong : ChangeSpec := { name := "schedSteps", fn := fun _ => fun
  | [d1, d2] => { results := [.lit (.bool false)], args := [d1, d2] }
  | _ => none }
def SchedStepsWrongFalsely : Prop := schedStepsRow.holds Try.pinned (OpenSpec.ofChange schedStepsWrong)

/- THE SECOND FORM. 'bulk': how many values and letters a reading holds, each counted each time it is reached (what is shared counts as often as it is met; a slice's spare places count too). A statement '..UptoSaid' is the law's where the arguments, and the package variables that the reading takes, are together of bulk at most 1048576: NARROWER than '..Said'. Prove '..Said' where nothing that the law and all that it calls make is longer than what came in: it says more and counts as full. Else prove '..UptoSaid'. A law counts once. -/
mutual
def uptoBulk {H : Type} : DataW H → Nat
  | .lit (.string bytes) => bytes.length + 1
  | .lit _ => 1
  | .nil => 1
  | .ptr d => uptoBulk d + 1
  | .slice elems spare => uptoBulkAll elems + uptoBulkAll spare + 1
  | .agg parts => uptoBulkAll parts + 1
  | .iface _ d => uptoBulk d + 1
  | .map entries => uptoBulkEntries entries + 1
  | .held _ => 1
def uptoBulkAll {H : Type} : List (DataW H) → Nat
  | [] => 0
  | d :: r => uptoBulk d + uptoBulkAll r
def uptoBulkEntries {H : Type} : List (Lit × DataW H) → Nat
  | [] => 0
  | x :: r => uptoBulkEntry x + uptoBulkEntries r
def uptoBulkEntry {H : Type} : Lit × DataW H → Nat
  | (.string bytes, d) => bytes.length + uptoBulk d + 1
  | (_, d) => uptoBulk d + 1
 end
def uptoSmall : (H : Type) → List (DataW H) → Bool := fun _ ds => decide (uptoBulkAll ds ≤ 1048576)
def OpenSpec.upto (s : _root_.Go.ChangeSpec) : _root_.Go.OpenSpec := { _root_.Go.OpenSpec.ofChange s with cond := some uptoSmall }

/-- 'ledgerstonelaw14.CellNumbers', WHERE WHAT IT READS IS OF BULK AT MOST 1048576: true; the input reads as it did. -/
def cellNumbersUptoRow : OpenClaim := { program := "ytplfjljdakkigaa", sum := "ac87a9b0095956ae47323d7685948075e3f4f40b4df9556cd3ff696e51921d44", func := "ledgerstone/ledgerstonelaw14.CellNumbers", spec := "cellNumbers", apart := false, narrowed := true }
def CellNumbersUptoSaid : Prop := cellNumbersUptoRow.holds Try.pinned (OpenSpec.upto cellNumbersSpec)

/-- 'ledgerstonelaw14.CellOwners', WHERE WHAT IT READS IS OF BULK AT MOST 1048576: true; the input reads as it did. -/
def cellOwnersUptoRow : OpenClaim := { program := "ytplfjljdakkigaa", sum := "ac87a9b0095956ae47323d7685948075e3f4f40b4df9556cd3ff696e51921d44", func := "ledgerstone/ledgerstonelaw14.CellOwners", spec := "cellOwners", apart := false, narrowed := true }
def CellOwnersUptoSaid : Prop := cellOwnersUptoRow.holds Try.pinned (OpenSpec.upto cellOwnersSpec)

/-- 'ledgerstonelaw14.CellVersions', WHERE WHAT IT READS IS OF BULK AT MOST 1048576: true; the input reads as it did. -/
def cellVersionsUptoRow : OpenClaim := { program := "ytplfjljdakkigaa", sum := "ac87a9b0095956ae47323d7685948075e3f4f40b4df9556cd3ff696e51921d44", func := "ledgerstone/ledgerstonelaw14.CellVersions", spec := "cellVersions", apart := false, narrowed := true }
def CellVersionsUptoSaid : Prop := cellVersionsUptoRow.holds Try.pinned (OpenSpec.upto cellVersionsSpec)

/-- 'ledgerstonelaw13.SchedNumbers', WHERE WHAT IT READS IS OF BULK AT MOST 1048576: true; the input reads as it did. -/
def schedNumbersUptoRow : OpenClaim := { program := "ytplfjljdakkigaa", sum := "ac87a9b0095956ae47323d7685948075e3f4f40b4df9556cd3ff696e51921d44", func := "ledgerstone/ledgerstonelaw13.SchedNumbers", spec := "schedNumbers", unfollowed := true, recurses := true, apart := false, narrowed := true }
def SchedNumbersUptoSaid : Prop := schedNumbersUptoRow.holds Try.pinned (OpenSpec.upto schedNumbersSpec)

/-- 'ledgerstonelaw13.SchedFair', WHERE WHAT IT READS IS OF BULK AT MOST 1048576: true; the input reads as it did. -/
def schedFairUptoRow : OpenClaim := { program := "ytplfjljdakkigaa", sum := "ac87a9b0095956ae47323d7685948075e3f4f40b4df9556cd3ff696e51921d44", func := "ledgerstone/ledgerstonelaw13.SchedFair", spec := "schedFair", unfollowed := true, recurses := true, apart := false, narrowed := true }
def SchedFairUptoSaid : Prop := schedFairUptoRow.holds Try.pinned (OpenSpec.upto schedFairSpec)

/-- 'ledgerstonelaw14.CellTells', WHERE WHAT IT READS IS OF BULK AT MOST 1048576: true; the input reads as it did. -/
def cellTellsUptoRow : OpenClaim := { program := "ytplfjljdakkigaa", sum := "ac87a9b0095956ae47323d7685948075e3f4f40b4df9556cd3ff696e51921d44", func := "ledgerstone/ledgerstonelaw14.CellTells", spec := "cellTells", apart := false, narrowed := true }
def CellTellsUptoSaid : Prop := cellTellsUptoRow.holds Try.pinned (OpenSpec.upto cellTellsSpec)

/-- 'ledgerstonelaw14.CellNone', WHERE WHAT IT READS IS OF BULK AT MOST 1048576: true; the input reads as it did. -/
def cellNoneUptoRow : OpenClaim := { program := "ytplfjljdakkigaa", sum := "ac87a9b0095956ae47323d7685948075e3f4f40b4df9556cd3ff696e51921d44", func := "ledgerstone/ledgerstonelaw14.CellNone", spec := "cellNone", apart := false, narrowed := true }
def CellNoneUptoSaid : Prop := cellNoneUptoRow.holds Try.pinned (OpenSpec.upto cellNoneSpec)

/-- 'ledgerstonelaw13.SchedRuns', WHERE WHAT IT READS IS OF BULK AT MOST 1048576: true; the input reads as it did. -/
def schedRunsUptoRow : OpenClaim := { program := "ytplfjljdakkigaa", sum := "ac87a9b0095956ae47323d7685948075e3f4f40b4df9556cd3ff696e51921d44", func := "ledgerstone/ledgerstonelaw13.SchedRuns", spec := "schedRuns", unfollowed := true, recurses := true, apart := false, narrowed := true }
def SchedRunsUptoSaid : Prop := schedRunsUptoRow.holds Try.pinned (OpenSpec.upto schedRunsSpec)

/-- 'ledgerstonelaw13.SchedNone', WHERE WHAT IT READS IS OF BULK AT MOST 1048576: true; the input reads as it did. -/
def schedNoneUptoRow : OpenClaim := { program := "ytplfjljdakkigaa", sum := "ac87a9b0095956ae47323d7685948075e3f4f40b4df9556cd3ff696e51921d44", func := "ledgerstone/ledgerstonelaw13.SchedNone", spec := "schedNone", unfollowed := true, recurses := true, apart := false, narrowed := true }
def SchedNoneUptoSaid : Prop := schedNoneUptoRow.holds Try.pinned (OpenSpec.upto schedNoneSpec)

/-- 'ledgerstonelaw13.SchedSteps', WHERE WHAT IT READS IS OF BULK AT MOST 1048576: true; the input reads as it did. -/
def schedStepsUptoRow : OpenClaim := { program := "ytplfjljdakkigaa", sum := "ac87a9b0095956ae47323d7685948075e3f4f40b4df9556cd3ff696e51921d44", func := "ledgerstone/ledgerstonelaw13.SchedSteps", spec := "schedSteps", unfollowed := true, recurses := true, apart := false, narrowed := true }
def SchedStepsUptoSaid : Prop := schedStepsUptoRow.holds Try.pinned (OpenSpec.upto schedStepsSpec)

end Rows
end Go.Proofs.Ytplfjljdakkigaa
