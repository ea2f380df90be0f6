/-
  No cell of these rows narrows 'for every input' (looked for: loops, veiled, ifaces, maps, wideKeys, modest, calm, conditions, laid).
  DERIVED. THE GIVEN ROWS OF THIS SEAT. 7 by the template 'for every input the law returns true; each argument reads behind the call as it read before'; 0 by the template 'total and deterministic' (their statements: YtciiigaagggefaaTotals.lean).
  GIVEN WITH THE SEED: the statements are not yours to turn. If you find one false, say at which input.
  Laid BY PROGRAM, IN A SANDBOX (cutbox-rows.mjs): the forced cells as the released guide's own fill.sh prints them over the translation ec168b91b21c65b4… (all of the seat's roots in one cut). By AI agents, Wed Nov 11 2026. No macro, syntax, notation, axiom, sorry.
-/
import Derived.Test.YtciiigaagggefaaChecked
import GoSem.Claim
import GoSem.ClaimJoined
import GoSem.ClaimMapViews
import Derived.JoinedTies
import Derived.KernelRfl
namespace Go.Proofs.Ytciiigaagggefaa
/- THE CELL 'sum', in the pinned program and in every row, IS THE sha256 OF THE DUMP (.gsa) THAT YtciiigaagggefaaProg.lean LOADS. Nothing in Lean hashes anything: it is a label: what it is worth is what the hold of that sum in a sandbox is worth. -/
noncomputable def Try.pinned : Pinned := { name := "ytciiigaagggefaa", sum := "ec168b91b21c65b4fbefbf2e05767a25836a739e8e120d5a63b139eaba00f8cd", checked := Try.checked }
namespace Rows
def none {H : Type} : Left H := { results := [], args := [] }

/-- 'ledgerstonelaw20.TableNumbers': WHATEVER THE INPUT: true; the input reads as it did. -/
def tableNumbersSpec : ChangeSpec := { name := "tableNumbers", fn := fun _ => fun
  | [] => { results := [.lit (.bool true)], args := [] }
  | _ => none }
def tableNumbersRow : OpenClaim := { program := "ytciiigaagggefaa", sum := "ec168b91b21c65b4fbefbf2e05767a25836a739e8e120d5a63b139eaba00f8cd", func := "ledgerstone/ledgerstonelaw20.TableNumbers", spec := "tableNumbers", inPlace := ["internal/bytealg.abigen_runtime_cmpstring", "slices.overlaps[ledgerstone/table.Entry]"], unfollowed := true, recurses := true, apart := false }
def TableNumbersSaid : Prop := tableNumbersRow.holds Try.pinned (OpenSpec.ofChange tableNumbersSpec)

/-- ITS FALSE NEIGHBOUR: 'it returns false'. Refute it at one input. -/
def tableNumbersWrong : ChangeSpec := { name := "tableNumbers", fn := fun _ => fun
  | [] => { results := [.lit (.bool false)], args := [] }
  | _ => none }
def TableNumbersWrongFalsely : Prop := tableNumbersRow.holds Try.pinned (OpenSpec.ofChange tableNumbersWrong)

/-- 'ledgerstonelaw20.TableTells': WHATEVER THE INPUT: true; the input reads as it did. -/
def tableTellsSpec : ChangeSpec := { name := "tableTells", fn := fun _ => fun
  | [d1, d2, d3] => { results := [.lit (.bool true)], args := [d1, d2, d3] }
  | _ => none }
def tableTellsRow : OpenClaim := { program := "ytciiigaagggefaa", sum := "ec168b91b21c65b4fbefbf2e05767a25836a739e8e120d5a63b139eaba00f8cd", func := "ledgerstone/ledgerstonelaw20.TableTells", spec := "tableTells", inPlace := ["internal/bytealg.abigen_runtime_cmpstring", "slices.overlaps[ledgerstone/table.Entry]"], unfollowed := true, recurses := true, apart := false }
def TableTellsSaid : Prop := tableTellsRow.holds Try.pinned (OpenSpec.ofChange tableTellsSpec)

/-- ITS FALSE NEIGHBOUR: 'it returns false'. Refute it at one input. -/
def tableTellsWrong : ChangeSpec := { name := "tableTells", fn := fun _ => fun
  | [d1, d2, d3] => { results := [.lit (.bool false)], args := [d1, d2, d3] }
  | _ => none }
def TableTellsWrongFalsely : Prop := tableTellsRow.holds Try.pinned (OpenSpec.ofChange tableTellsWrong)

/-- 'ledgerstonelaw20.TableNone': WHATEVER THE INPUT: true; the input reads as it did. -/
def tableNoneSpec : ChangeSpec := { name := "tableNone", fn := fun _ => fun
  | [d] => { results := [.lit (.bool true)], args := [d] }
  | _ => none }
def tableNoneRow : OpenClaim := { program := "ytciiigaagggefaa", sum := "ec168b91b21c65b4fbefbf2e05767a25836a739e8e120d5a63b139eaba00f8cd", func := "ledgerstone/ledgerstonelaw20.TableNone", spec := "tableNone", inPlace := ["internal/bytealg.abigen_runtime_cmpstring", "slices.overlaps[ledgerstone/table.Entry]"], unfollowed := true, recurses := true, apart := false }
def TableNoneSaid : Prop := tableNoneRow.holds Try.pinned (OpenSpec.ofChange tableNoneSpec)

/-- ITS FALSE NEIGHBOUR: 'it returns false'. Refute it at one input. -/
def tableNoneWrong : ChangeSpec := { name := "tableNone", fn := fun _ => fun
  | [d] => { results := [.lit (.bool false)], args := [d] }
  | _ => none }
def TableNoneWrongFalsely : Prop := tableNoneRow.holds Try.pinned (OpenSpec.ofChange tableNoneWrong)

/-- 'ledgerstonelaw15.SetsTells': WHATEVER THE INPUT: true; the input reads as it did. -/
def setsTellsSpec : ChangeSpec := { name := "setsTells", fn := fun _ => fun
  | [d] => { results := [.lit (.bool true)], args := [d] }
  | _ => none }
def setsTellsRow : OpenClaim := { program := "ytciiigaagggefaa", sum := "ec168b91b21c65b4fbefbf2e05767a25836a739e8e120d5a63b139eaba00f8cd", func := "ledgerstone/ledgerstonelaw15.SetsTells", spec := "setsTells", unfollowed := true, recurses := true, apart := false }
def SetsTellsSaid : Prop := setsTellsRow.holds Try.pinned (OpenSpec.ofChange setsTellsSpec)

/-- ITS FALSE NEIGHBOUR: 'it returns false'. Refute it at one input. -/
def setsTellsWrong : ChangeSpec := { name := "setsTells", fn := fun _ => fun
  | [d] => { results := [.lit (.bool false)], args := [d] }
  | _ => none }
def SetsTellsWrongFalsely : Prop := setsTellsRow.holds Try.pinned (OpenSpec.ofChange setsTellsWrong)

/-- 'ledgerstonelaw15.SetsNone': WHATEVER THE INPUT: true; the input reads as it did. -/
def setsNoneSpec : ChangeSpec := { name := "setsNone", fn := fun _ => fun
  | [d] => { results := [.lit (.bool true)], args := [d] }
  | _ => none }
def setsNoneRow : OpenClaim := { program := "ytciiigaagggefaa", sum := "ec168b91b21c65b4fbefbf2e05767a25836a739e8e120d5a63b139eaba00f8cd", func := "ledgerstone/ledgerstonelaw15.SetsNone", spec := "setsNone", unfollowed := true, recurses := true, apart := false }
def SetsNoneSaid : Prop := setsNoneRow.holds Try.pinned (OpenSpec.ofChange setsNoneSpec)

/-- ITS FALSE NEIGHBOUR: 'it returns false'. Refute it at one input. -/
def setsNoneWrong : ChangeSpec := { name := "setsNone", fn := fun _ => fun
  | [d] => { results := [.lit (.bool false)], args := [d] }
  | _ => none }
def SetsNoneWrongFalsely : Prop := setsNoneRow.holds Try.pinned (OpenSpec.ofChange setsNoneWrong)

/-- 'ledgerstonelaw15.SetsUndo': WHATEVER THE INPUT: true; the input reads as it did. -/
def setsUndoSpec : ChangeSpec := { name := "setsUndo", fn := fun _ => fun
  | [d1, d2] => { results := [.lit (.bool true)], args := [d1, d2] }
  | _ => none }
def setsUndoRow : OpenClaim := { program := "ytciiigaagggefaa", sum := "ec168b91b21c65b4fbefbf2e05767a25836a739e8e120d5a63b139eaba00f8cd", func := "ledgerstone/ledgerstonelaw15.SetsUndo", spec := "setsUndo", unfollowed := true, recurses := true, apart := false }
def SetsUndoSaid : Prop := setsUndoRow.holds Try.pinned (OpenSpec.ofChange setsUndoSpec)

/-- ITS FALSE NEIGHBOUR: 'it returns false'. Refute it at one input. -/
def setsUndoWrong : ChangeSpec := { name := "setsUndo", fn := fun _ => fun
  | [d1, d2] => { results := [.lit (.bool false)], args := [d1, d2] }
  | _ => none }
def SetsUndoWrongFalsely : Prop := setsUndoRow.holds Try.pinned (OpenSpec.ofChange setsUndoWrong)

/-- 'ledgerstonelaw15.SetsKeep': WHATEVER THE INPUT: true; the input reads as it did. -/
def setsKeepSpec : ChangeSpec := { name := "setsKeep", fn := fun _ => fun
  | [d] => { results := [.lit (.bool true)], args := [d] }
  | _ => none }
def setsKeepRow : OpenClaim := { program := "ytciiigaagggefaa", sum := "ec168b91b21c65b4fbefbf2e05767a25836a739e8e120d5a63b139eaba00f8cd", func := "ledgerstone/ledgerstonelaw15.SetsKeep", spec := "setsKeep", unfollowed := true, recurses := true, apart := false }
def SetsKeepSaid : Prop := setsKeepRow.holds Try.pinned (OpenSpec.ofChange setsKeepSpec)

/-- ITS FALSE NEIGHBOUR: 'it returns false'. Refute it at one input. -/
def setsKeepWrong : ChangeSpec := { name := "setsKeep", fn := fun _ => fun
  | [d] => { results := [.lit (.bool false)], args := [d] }
  | _ => none }
def SetsKeepWrongFalsely : Prop := setsKeepRow.holds Try.pinned (OpenSpec.ofChange setsKeepWrong)

/- THE SECOND FORM. 'bulk': how many values and letters a reading holds, each counted each time it is reached (what is shared counts as often as it is met; a slice's spare places count too). A statement '..UptoSaid' is the law's where the arguments, and the package variables that the reading takes, are together of bulk at most 1048576: NARROWER than '..Said'. Prove '..Said' where nothing that the law and all that it calls make is longer than what came in: it says more and counts as full. Else prove '..UptoSaid'. A law counts once. -/
mutual
def uptoBulk {H : Type} : DataW H → Nat
  | .lit (.string bytes) => bytes.length + 1
  | .lit _ => 1
  | .nil => 1
  | .ptr d => uptoBulk d + 1
  | .slice elems spare => uptoBulkAll elems + uptoBulkAll spare + 1
  | .agg parts => uptoBulkAll parts + 1
  | .iface _ d => uptoBulk d + 1
  | .map entries => uptoBulkEntries entries + 1
  | .held _ => 1
def uptoBulkAll {H : Type} : List (DataW H) → Nat
  | [] => 0
  | d :: r => uptoBulk d + uptoBulkAll r
def uptoBulkEntries {H : Type} : List (Lit × DataW H) → Nat
  | [] => 0
  | x :: r => uptoBulkEntry x + uptoBulkEntries r
def uptoBulkEntry {H : Type} : Lit × DataW H → Nat
  | (.string bytes, d) => bytes.length + uptoBulk d + 1
  | (_, d) => uptoBulk d + 1
 end
def uptoSmall : (H : Type) → List (DataW H) → Bool := fun _ ds => decide (uptoBulkAll ds ≤ 1048576)
def OpenSpec.upto (s : _root_.Go.ChangeSpec) : _root_.Go.OpenSpec := { _root_.Go.OpenSpec.ofChange s with cond := some uptoSmall }

/-- 'ledgerstonelaw20.TableNumbers', WHERE WHAT IT READS IS OF BULK AT MOST 1048576: true; the input reads as it did. -/
def tableNumbersUptoRow : OpenClaim := { program := "ytciiigaagggefaa", sum := "ec168b91b21c65b4fbefbf2e05767a25836a739e8e120d5a63b139eaba00f8cd", func := "ledgerstone/ledgerstonelaw20.TableNumbers", spec := "tableNumbers", inPlace := ["internal/bytealg.abigen_runtime_cmpstring", "slices.overlaps[ledgerstone/table.Entry]"], unfollowed := true, recurses := true, apart := false, narrowed := true }
def TableNumbersUptoSaid : Prop := tableNumbersUptoRow.holds Try.pinned (OpenSpec.upto tableNumbersSpec)

/-- 'ledgerstonelaw20.TableTells', WHERE WHAT IT READS IS OF BULK AT MOST 1048576: true; the input reads as it did. -/
def tableTellsUptoRow : OpenClaim := { program := "ytciiigaagggefaa", sum := "ec168b91b21c65b4fbefbf2e05767a25836a739e8e120d5a63b139eaba00f8cd", func := "ledgerstone/ledgerstonelaw20.TableTells", spec := "tableTells", inPlace := ["internal/bytealg.abigen_runtime_cmpstring", "slices.overlaps[ledgerstone/table.Entry]"], unfollowed := true, recurses := true, apart := false, narrowed := true }
def TableTellsUptoSaid : Prop := tableTellsUptoRow.holds Try.pinned (OpenSpec.upto tableTellsSpec)

/-- 'ledgerstonelaw20.TableNone', WHERE WHAT IT READS IS OF BULK AT MOST 1048576: true; the input reads as it did. -/
def tableNoneUptoRow : OpenClaim := { program := "ytciiigaagggefaa", sum := "ec168b91b21c65b4fbefbf2e05767a25836a739e8e120d5a63b139eaba00f8cd", func := "ledgerstone/ledgerstonelaw20.TableNone", spec := "tableNone", inPlace := ["internal/bytealg.abigen_runtime_cmpstring", "slices.overlaps[ledgerstone/table.Entry]"], unfollowed := true, recurses := true, apart := false, narrowed := true }
def TableNoneUptoSaid : Prop := tableNoneUptoRow.holds Try.pinned (OpenSpec.upto tableNoneSpec)

/-- 'ledgerstonelaw15.SetsTells', WHERE WHAT IT READS IS OF BULK AT MOST 1048576: true; the input reads as it did. -/
def setsTellsUptoRow : OpenClaim := { program := "ytciiigaagggefaa", sum := "ec168b91b21c65b4fbefbf2e05767a25836a739e8e120d5a63b139eaba00f8cd", func := "ledgerstone/ledgerstonelaw15.SetsTells", spec := "setsTells", unfollowed := true, recurses := true, apart := false, narrowed := true }
def SetsTellsUptoSaid : Prop := setsTellsUptoRow.holds Try.pinned (OpenSpec.upto setsTellsSpec)

/-- 'ledgerstonelaw15.SetsNone', WHERE WHAT IT READS IS OF BULK AT MOST 1048576: true; the input reads as it did. -/
def setsNoneUptoRow : OpenClaim := { program := "ytciiigaagggefaa", sum := "ec168b91b21c65b4fbefbf2e05767a25836a739e8e120d5a63b139eaba00f8cd", func := "ledgerstone/ledgerstonelaw15.SetsNone", spec := "setsNone", unfollowed := true, recurses := true, apart := false, narrowed := true }
def SetsNoneUptoSaid : Prop := setsNoneUptoRow.holds Try.pinned (OpenSpec.upto setsNoneSpec)

/-- 'ledgerstonelaw15.SetsUndo', WHERE WHAT IT READS IS OF BULK AT MOST 1048576: true; the input reads as it did. -/
def setsUndoUptoRow : OpenClaim := { program := "ytciiigaagggefaa", sum := "ec168b91b21c65b4fbefbf2e05767a25836a739e8e120d5a63b139eaba00f8cd", func := "ledgerstone/ledgerstonelaw15.SetsUndo", spec := "setsUndo", unfollowed := true, recurses := true, apart := false, narrowed := true }
def SetsUndoUptoSaid : Prop := setsUndoUptoRow.holds Try.pinned (OpenSpec.upto setsUndoSpec)

/-- 'ledgerstonelaw15.SetsKeep', WHERE WHAT IT READS IS OF BULK AT MOST 1048576: true; the input reads as it did. -/
def setsKeepUptoRow : OpenClaim := { program := "ytciiigaagggefaa", sum := "ec168b91b21c65b4fbefbf2e05767a25836a739e8e120d5a63b139eaba00f8cd", func := "ledgerstone/ledgerstonelaw15.SetsKeep", spec := "setsKeep", unfollowed := true, recurses := true, apart := false, narrowed := true }
def SetsKeepUptoSaid : Prop := setsKeepUptoRow.holds Try.pinned (OpenSpec.upto setsKeepSpec)

end Rows
end Go.Proofs.Ytciiigaagggefaa
