/- The evaluator's slices and appends, without the program; words for proofs over the abstract memory. -/
import Derived.Test.YtciiigaagggefaaEv26
namespace Go.Lg
set_option linter.unusedVariables false
open Go

/-- append, for elements of sz cells and by bytes -/
def appE (sz by_ : Nat) (s x : Value) (h : AH) : Option (Value × AH) := match s with
  | .slice base sLen sCap =>
    (newCells h sz x).bind fun nl =>
    let need := sLen + nl.1
    cond (roomOk need by_ && Nat.beq nl.2.length (nl.1 * sz)) (match base with
      | none => cond (Nat.beq sLen 0 && Nat.beq sCap 0) (cond (Nat.beq nl.1 0) (some (.slice none 0 0, h))
            (some (.slice (some ⟨h.n, 0, none⟩) need opn, (h.push (.cells nl.2 true false sz))))) none
      | some a => cond (Nat.blt sCap opn)
          (cond (Nat.ble need sCap)
            ((h.st a.block (a.off + sLen * sz) nl.2).bind fun h' => some (.slice base need sCap, h'))
            ((ldRow h a.block a.off (sLen * sz)).bind fun old =>
              some (.slice (some ⟨h.n, 0, none⟩) need opn, (h.push (.cells (old ++ nl.2) true false sz)))))
          (match h.get a.block with
            | some (.cells c true false esz) => cond (Nat.beq esz sz)
              (cond (Nat.ble (a.off + need * sz) c.length)
                ((h.st a.block (a.off + sLen * sz) nl.2).bind fun h' => some (.slice base need opn, h'))
                (cond (Nat.ble (a.off + sLen * sz) c.length)
                  (some (.slice (some ⟨h.n, 0, none⟩) need opn, ((h.set a.block none).push (.cells ((c.drop a.off).take (sLen * sz) ++ nl.2) true false sz))))
                  none)) none
            | _ => none)) none
  | _ => none

/-- a slice expression on a slice of elements of sz cells -/
def slcE (sz : Nat) (a : Option Addr) (len cap : Nat) (lo hi mx : Option Value) (h : AH) : Res :=
    match a with
    | none => cond (Nat.beq len 0 && Nat.beq cap 0) (match mx with
        | none => boundOf hi 0 0 fun hi => boundOf lo 0 hi fun _ => some (.slice none 0 0, h)
        | some mx => cond hi.isSome (boundOf (some mx) 0 0 fun m => boundOf hi 0 m fun hi => boundOf lo 0 hi fun _ => some (.slice none 0 0, h)) none) none
    | some a => cond (Nat.blt cap opn)
      (match mx with
        | none => boundOf hi len cap fun hi => boundOf lo 0 hi fun lo => some (.slice (some ⟨a.block, a.off + cond (Nat.beq lo cap) 0 (lo * sz), none⟩) (hi - lo) (cap - lo), h)
        | some mx => cond hi.isSome (boundOf (some mx) 0 cap fun m => boundOf hi 0 m fun hi => boundOf lo 0 hi fun lo => some (.slice (some ⟨a.block, a.off + cond (Nat.beq lo m) 0 (lo * sz), none⟩) (hi - lo) (m - lo), h)) none)
      (cond (Nat.beq sz 0) none (match h.get a.block with
        | some (.cells c _ _ esz) => cond (Nat.beq esz sz) (match mx with
          | none => boundOf hi len ((c.length - a.off) / sz) fun hi => boundOf lo 0 hi fun lo => some (.slice (some ⟨a.block, a.off + lo * sz, none⟩) (hi - lo) opn, h)
          | some mx => cond hi.isSome (boundOf (some mx) 0 ((c.length - a.off) / sz) fun m => cond (Nat.blt m opn) (boundOf hi 0 m fun hi => boundOf lo 0 hi fun lo => some (.slice (some ⟨a.block, a.off + cond (Nat.beq lo m) 0 (lo * sz), none⟩) (hi - lo) (m - lo), h)) none) none) none
        | _ => none))
/-- a slice expression on a string -/
def slcS (s : ByteArray) (lo hi : Option Value) (h : AH) : Res := boundOf hi s.data.toList.length s.data.toList.length fun hi => boundOf lo 0 hi fun lo => some (.string ⟨((s.data.toList.drop lo).take (hi - lo)).toArray⟩, h)
end Go.Lg
