/-
  No cell of these rows narrows 'for every input' (looked for: loops, veiled, ifaces, maps, wideKeys, modest, calm, conditions, laid).
  DERIVED. THE GIVEN ROWS OF THIS SEAT. 4 by the template 'for every input the law returns true; each argument reads behind the call as it read before'; 0 by the template 'total and deterministic' (their statements: YtmjcbpocciaafaaTotals.lean).
  GIVEN WITH THE SEED: the statements are not yours to turn. If you find one false, say at which input.
  Laid BY PROGRAM, IN A SANDBOX (cutbox-rows.mjs): the forced cells as the released guide's own fill.sh prints them over the translation 5cf9f796789a2cde… (all of the seat's roots in one cut). By AI agents, Wed Nov 11 2026. No macro, syntax, notation, axiom, sorry.
-/
import Derived.Test.YtmjcbpocciaafaaChecked
import GoSem.Claim
import GoSem.ClaimJoined
import GoSem.ClaimMapViews
import Derived.JoinedTies
import Derived.KernelRfl
namespace Go.Proofs.Ytmjcbpocciaafaa
/- THE CELL 'sum', in the pinned program and in every row, IS THE sha256 OF THE DUMP (.gsa) THAT YtmjcbpocciaafaaProg.lean LOADS. Nothing in Lean hashes anything: it is a label: what it is worth is what the hold of that sum in a sandbox is worth. -/
noncomputable def Try.pinned : Pinned := { name := "ytmjcbpocciaafaa", sum := "5cf9f796789a2cde242559409efc979dec67107732ccecc12daf8baa7783accd", checked := Try.checked }
namespace Rows
def none {H : Type} : Left H := { results := [], args := [] }

/-- 'ledgerstonelaw19.AfterOrder': WHATEVER THE INPUT: true; the input reads as it did. -/
def afterOrderSpec : ChangeSpec := { name := "afterOrder", fn := fun _ => fun
  | [d] => { results := [.lit (.bool true)], args := [d] }
  | _ => none }
def afterOrderRow : OpenClaim := { program := "ytmjcbpocciaafaa", sum := "5cf9f796789a2cde242559409efc979dec67107732ccecc12daf8baa7783accd", func := "ledgerstone/ledgerstonelaw19.AfterOrder", spec := "afterOrder", unfollowed := true, recurses := true, apart := false }
def AfterOrderSaid : Prop := afterOrderRow.holds Try.pinned (OpenSpec.ofChange afterOrderSpec)

/-- ITS FALSE NEIGHBOUR: 'it returns false'. Refute it at one input. -/
def afterOrderWrong : ChangeSpec := { name := "afterOrder", fn := fun _ => fun
  | [d] => { results := [.lit (.bool false)], args := [d] }
  | _ => none }
def AfterOrderWrongFalsely : Prop := afterOrderRow.holds Try.pinned (OpenSpec.ofChange afterOrderWrong)

/-- 'ledgerstonelaw19.AfterNumbers': WHATEVER THE INPUT: true; the input reads as it did. -/
def afterNumbersSpec : ChangeSpec := { name := "afterNumbers", fn := fun _ => fun
  | [] => { results := [.lit (.bool true)], args := [] }
  | _ => none }
def afterNumbersRow : OpenClaim := { program := "ytmjcbpocciaafaa", sum := "5cf9f796789a2cde242559409efc979dec67107732ccecc12daf8baa7783accd", func := "ledgerstone/ledgerstonelaw19.AfterNumbers", spec := "afterNumbers", unfollowed := true, recurses := true, apart := false }
def AfterNumbersSaid : Prop := afterNumbersRow.holds Try.pinned (OpenSpec.ofChange afterNumbersSpec)

/-- ITS FALSE NEIGHBOUR: 'it returns false'. Refute it at one input. -/
def afterNumbersWrong : ChangeSpec := { name := "afterNumbers", fn := fun _ => fun
  | [] => { results := [.lit (.bool false)], args := [] }
  | _ => none }
def AfterNumbersWrongFalsely : Prop := afterNumbersRow.holds Try.pinned (OpenSpec.ofChange afterNumbersWrong)

/-- 'ledgerstonelaw19.AfterTells': WHATEVER THE INPUT: true; the input reads as it did. -/
def afterTellsSpec : ChangeSpec := { name := "afterTells", fn := fun _ => fun
  | [d] => { results := [.lit (.bool true)], args := [d] }
  | _ => none }
def afterTellsRow : OpenClaim := { program := "ytmjcbpocciaafaa", sum := "5cf9f796789a2cde242559409efc979dec67107732ccecc12daf8baa7783accd", func := "ledgerstone/ledgerstonelaw19.AfterTells", spec := "afterTells", unfollowed := true, recurses := true, apart := false }
def AfterTellsSaid : Prop := afterTellsRow.holds Try.pinned (OpenSpec.ofChange afterTellsSpec)

/-- ITS FALSE NEIGHBOUR: 'it returns false'. Refute it at one input. -/
def afterTellsWrong : ChangeSpec := { name := "afterTells", fn := fun _ => fun
  | [d] => { results := [.lit (.bool false)], args := [d] }
  | _ => none }
def AfterTellsWrongFalsely : Prop := afterTellsRow.holds Try.pinned (OpenSpec.ofChange afterTellsWrong)

/-- 'ledgerstonelaw19.AfterNone': WHATEVER THE INPUT: true; the input reads as it did. -/
def afterNoneSpec : ChangeSpec := { name := "afterNone", fn := fun _ => fun
  | [d] => { results := [.lit (.bool true)], args := [d] }
  | _ => none }
def afterNoneRow : OpenClaim := { program := "ytmjcbpocciaafaa", sum := "5cf9f796789a2cde242559409efc979dec67107732ccecc12daf8baa7783accd", func := "ledgerstone/ledgerstonelaw19.AfterNone", spec := "afterNone", unfollowed := true, recurses := true, apart := false }
def AfterNoneSaid : Prop := afterNoneRow.holds Try.pinned (OpenSpec.ofChange afterNoneSpec)

/-- ITS FALSE NEIGHBOUR: 'it returns false'. Refute it at one input. -/
def afterNoneWrong : ChangeSpec := { name := "afterNone", fn := fun _ => fun
  | [d] => { results := [.lit (.bool false)], args := [d] }
  | _ => none }
def AfterNoneWrongFalsely : Prop := afterNoneRow.holds Try.pinned (OpenSpec.ofChange afterNoneWrong)

/- THE SECOND FORM. 'bulk': how many values and letters a reading holds, each counted each time it is reached (what is shared counts as often as it is met; a slice's spare places count too). A statement '..UptoSaid' is the law's where the arguments, and the package variables that the reading takes, are together of bulk at most 1048576: NARROWER than '..Said'. Prove '..Said' where nothing that the law and all that it calls make is longer than what came in: it says more and counts as full. Else prove '..UptoSaid'. A law counts once. -/
mutual
def uptoBulk {H : Type} : DataW H → Nat
  | .lit (.string bytes) => bytes.length + 1
  | .lit _ => 1
  | .nil => 1
  | .ptr d => uptoBulk d + 1
  | .slice elems spare => uptoBulkAll elems + uptoBulkAll spare + 1
  | .agg parts => uptoBulkAll parts + 1
  | .iface _ d => uptoBulk d + 1
  | .map entries => uptoBulkEntries entries + 1
  | .held _ => 1
def uptoBulkAll {H : Type} : List (DataW H) → Nat
  | [] => 0
  | d :: r => uptoBulk d + uptoBulkAll r
def uptoBulkEntries {H : Type} : List (Lit × DataW H) → Nat
  | [] => 0
  | x :: r => uptoBulkEntry x + uptoBulkEntries r
def uptoBulkEntry {H : Type} : Lit × DataW H → Nat
  | (.string bytes, d) => bytes.length + uptoBulk d + 1
  | (_, d) => uptoBulk d + 1
 end
def uptoSmall : (H : Type) → List (DataW H) → Bool := fun _ ds => decide (uptoBulkAll ds ≤ 1048576)
def OpenSpec.upto (s : _root_.Go.ChangeSpec) : _root_.Go.OpenSpec := { _root_.Go.OpenSpec.ofChange s with cond := some uptoSmall }

/-- 'ledgerstonelaw19.AfterOrder', WHERE WHAT IT READS IS OF BULK AT MOST 1048576: true; the input reads as it did. -/
def afterOrderUptoRow : OpenClaim := { program := "ytmjcbpocciaafaa", sum := "5cf9f796789a2cde242559409efc979dec67107732ccecc12daf8baa7783accd", func := "ledgerstone/ledgerstonelaw19.AfterOrder", spec := "afterOrder", unfollowed := true, recurses := true, apart := false, narrowed := true }
def AfterOrderUptoSaid : Prop := afterOrderUptoRow.holds Try.pinned (OpenSpec.upto afterOrderSpec)

/-- 'ledgerstonelaw19.AfterNumbers', WHERE WHAT IT READS IS OF BULK AT MOST 1048576: true; the input reads as it did. -/
def afterNumbersUptoRow : OpenClaim := { program := "ytmjcbpocciaafaa", sum := "5cf9f796789a2cde242559409efc979dec67107732ccecc12daf8baa7783accd", func := "ledgerstone/ledgerstonelaw19.AfterNumbers", spec := "afterNumbers", unfollowed := true, recurses := true, apart := false, narrowed := true }
def AfterNumbersUptoSaid : Prop := afterNumbersUptoRow.holds Try.pinned (OpenSpec.upto afterNumbersSpec)

/-- 'ledgerstonelaw19.AfterTells', WHERE WHAT IT READS IS OF BULK AT MOST 1048576: true; the input reads as it did. -/
def afterTellsUptoRow : OpenClaim := { program := "ytmjcbpocciaafaa", sum := "5cf9f796789a2cde242559409efc979dec67107732ccecc12daf8baa7783accd", func := "ledgerstone/ledgerstonelaw19.AfterTells", spec := "afterTells", unfollowed := true, recurses := true, apart := false, narrowed := true }
def AfterTellsUptoSaid : Prop := afterTellsUptoRow.holds Try.pinned (OpenSpec.upto afterTellsSpec)

/-- 'ledgerstonelaw19.AfterNone', WHERE WHAT IT READS IS OF BULK AT MOST 1048576: true; the input reads as it did. -/
def afterNoneUptoRow : OpenClaim := { program := "ytmjcbpocciaafaa", sum := "5cf9f796789a2cde242559409efc979dec67107732ccecc12daf8baa7783accd", func := "ledgerstone/ledgerstonelaw19.AfterNone", spec := "afterNone", unfollowed := true, recurses := true, apart := false, narrowed := true }
def AfterNoneUptoSaid : Prop := afterNoneUptoRow.holds Try.pinned (OpenSpec.upto afterNoneSpec)

end Rows
end Go.Proofs.Ytmjcbpocciaafaa
