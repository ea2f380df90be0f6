/- A region that draws its order: the evaluator. -/
import Derived.Test.YtciiigaagggefaaEv15
namespace Go.Lg
open Go

def edgesOf (o : Oper) : List Nat := (o.after.toList.filter (Region.binds .any)).map (·.on)
def bitsOf (acc : List Nat) : List Nat → Nat
  | [] => 0
  | e :: es => (bitsOf acc es ||| 2 ^ e) ||| acc.getD e 0
def befL : List Oper → List Nat → List Nat
  | [], acc => acc
  | o :: rest, acc => befL rest (acc ++ [bitsOf acc (edgesOf o)])

def tmpsIn : List Operand → List Nat
  | [] => []
  | .tmp t :: xs => t :: tmpsIn xs
  | _ :: xs => tmpsIn xs
def looks (ops : List Oper) (o : Oper) : List Nat := (match o.guard with
  | some (g, _) => ((ops[g]?).bind (·.dst)).toList
  | none => []) ++ tmpsIn o.op.operands.toList
def memN (t : Nat) : List Nat → Bool
  | [] => false
  | x :: xs => cond (Nat.beq t x) true (memN t xs)
def dstIn (d : Option Tmp) (l : List Nat) : Bool := match d with
  | none => false
  | some t => memN t l
def isEff (o : Oper) : Bool := !(isPure o.op || isRead o.op)
def effAt (ops : List Oper) (i : Nat) : Bool := match ops[i]? with
  | some o => isEff o
  | none => false
def noSel (o : Oper) : Bool := match o.op with
  | .select _ _ => false
  | _ => true

/-- a new block that nothing is told of ahead of it: it may be made at any time -/
def isLate (o : Oper) : Bool := match o.op, o.guard with
  | .alloc _, none => true
  | _, _ => false
def lateAt (ops : List Oper) (i : Nat) : Bool := match ops[i]? with
  | some o => isLate o
  | none => false
def pairOK (ops : List Oper) (bits : List Nat) (i j : Nat) : Bool := match ops[i]?, ops[j]? with
  | some oi, some oj =>
    cond (dstIn oj.dst (oi.dst.toList ++ looks ops oi) || dstIn oi.dst (looks ops oj) || (isEff oi && isEff oj && !isLate oi)) ((bits.getD i 0).testBit j) true
  | _, _ => true
def allBelow (p : Nat → Bool) : Nat → Bool
  | 0 => true
  | n + 1 => p n && allBelow p n
/-- who comes behind such a block, comes behind all that is ahead of it -/
def lateOK (ops : List Oper) (bit i : Nat) : Bool := allBelow (fun j => cond (lateAt ops j && bit.testBit j) (allBelow (fun k => cond (effAt ops k) (bit.testBit k) true) j) true) i
def statOK (ops : List Oper) (bits : List Nat) : Bool :=
  allBelow (fun i => match ops[i]? with
    | some o => (edgesOf o).all (fun e => Nat.blt e i) && (match o.guard with | some (g, _) => Nat.blt g i && memN g (edgesOf o) | none => true) && allBelow (fun j => pairOK ops bits i j) i && lateOK ops (bits.getD i 0) i
    | none => true) ops.length

structure Pend where
  j : Nat
  op : Op
  tm : T Value
  v : Option Value

/-- the operation comes to the same over these memories -/
def reck (P : Program) (O : Orc) (tm : T Value) (op : Op) (v : Option Value) : List AH → Res → Res
  | [], k => k
  | h :: hs, k => evOp P O tm op h fun v' _ => cond (veqO v v') (reck P O tm op v hs k) none
def recheck (P : Program) (O : Orc) (bit : Nat) (h : AH) : List Pend → Res → Res
  | [], k => k
  | p :: ps, k => cond (bit.testBit p.j) (recheck P O bit h ps k) (evOp P O p.tm p.op h fun v' _ => cond (veqO p.v v') (recheck P O bit h ps k) none)

def cN (p : Nat → Bool) : Nat → Nat
  | 0 => 0
  | n + 1 => cN p n + cond (p n) 1 0

def evD (P : Program) (O : Orc) (nt : Nat) (ops : List Oper) (bits : List Nat) : List Oper → Nat → T Value → AH → List AH → List Pend → (T Value → AH → Res) → Res
  | [], _, tm, h, _, _, K => K tm h
  | o :: rest, i, tm, h, past, pend, K =>
    let run : T Value → Res := fun tm =>
      cond (isPure o.op) (evOpX P O tm o.type o.op h fun v _ => put nt tm o.dst v fun tm => evD P O nt ops bits rest (i + 1) tm h past pend K)
      (cond (isRead o.op)
        (evOp P O tm o.op h fun v _ => reck P O tm o.op v (past.take (past.length - cN (fun k => effAt ops k && (bits.getD i 0).testBit k) i))
          (put nt tm o.dst v fun tm' => evD P O nt ops bits rest (i + 1) tm' h past (⟨i, o.op, tm, v⟩ :: pend) K))
        (evOpX P O tm o.type o.op h fun v h' => recheck P O (bits.getD i 0) h' pend (put nt tm o.dst v fun tm => evD P O nt ops bits rest (i + 1) tm h' (h :: past) pend K)))
    let skip : T Value → Res := fun tm =>
      cond (isEff o) (recheck P O (bits.getD i 0) h pend (put nt tm o.dst (some skipV) fun tm => evD P O nt ops bits rest (i + 1) tm h (h :: past) pend K))
        (put nt tm o.dst (some skipV) fun tm => evD P O nt ops bits rest (i + 1) tm h past pend K)
    match o.guard with
    | none => run tm
    | some (j, want) => match (ops[j]?).bind (·.dst) with
      | none => none
      | some d => match tm.get d with
        | some (.bool b) => cond b
            (cond want (run (tm.set d (some (.bool true)))) (skip (tm.set d (some (.bool true)))))
            (cond want (skip (tm.set d (some (.bool false)))) (run (tm.set d (some (.bool false)))))
        | some (.tuple _) => skip tm
        | _ => none

/-- the evaluator of regions that draw their order -/
def drawEv (P : Program) : DrawEv := fun O nt ops tm h K =>
  cond (P.follows .mixedOrders && statOK ops.toList (befL ops.toList []) && ops.toList.all noSel)
    (cond (ops.toList.all fun o => !isEff o) (evOps P O nt ops.toList ops.toList tm h K) (evD P O nt ops.toList (befL ops.toList []) ops.toList 0 tm h [] [] K)) none
end Go.Lg
