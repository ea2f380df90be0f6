/- A deterministic evaluator over an abstract memory. Part 2: values, memory, operations, code. -/
import Derived.Test.YtciiigaagggefaaEv1
namespace Go.Lg
open Go

/-- the mark for 'the capacity is not known' in an abstract slice -/
def opn : Nat := 4611686018427387904

/-- a block of the abstract memory: cells (is the real row perhaps longer? is it for reading only? cells an element), or a map -/
inductive Blk where
  | cells (c : List Value) (open_ ro : Bool) (esz : Nat)
  | map (es : List MapEntry) (clk : Nat)

structure AH where
  n : Nat
  t : T Blk
namespace AH
def get (h : AH) (b : Nat) : Option Blk := h.t.get b
def set (h : AH) (b : Nat) (x : Option Blk) : AH := ⟨h.n, h.t.set b x⟩
def push (h : AH) (x : Blk) : AH := ⟨h.n + 1, h.t.set h.n (some x)⟩
def ld (h : AH) (b o : Nat) : Option Value := match h.get b with
  | some (.cells c _ _ _) => c[o]?
  | _ => none
def ldI (h : AH) (k : IntKind) (b o : Nat) : Option Int := (h.ld b o).bind fun v => match v with
  | .int k' x => cond (k == k') (some x) none
  | _ => none
def ldB (h : AH) (b o : Nat) : Option Bool := (h.ld b o).bind fun v => match v with
  | .bool x => some x
  | _ => none
def ldStr (h : AH) (b o : Nat) : Option ByteArray := (h.ld b o).bind fun v => match v with
  | .string x => some x
  | _ => none
def ldP (h : AH) (b o : Nat) : Option (Option Addr) := (h.ld b o).bind fun v => match v with
  | .pointer x => some x
  | _ => none
def ldS (h : AH) (b o : Nat) : Option (Option Addr × Nat × Nat) := (h.ld b o).bind fun v => match v with
  | .slice a n c => some (a, n, c)
  | _ => none
def ldM (h : AH) (b o : Nat) : Option (Option Nat) := (h.ld b o).bind fun v => match v with
  | .map r => some r
  | _ => none
def ldF (h : AH) (b o : Nat) : Option (Option (TypeId × Value)) := (h.ld b o).bind fun v => match v with
  | .nilIface => some none
  | .iface t x => some (some (t, x))
  | _ => none
def ldG (h : AH) (b o : Nat) : Option (Option (FuncId × List Value × List Value)) := (h.ld b o).bind fun v => match v with
  | .nilFunc => some none
  | .func (.func f) x y => some (some (f, x.toList, y.toList))
  | _ => none
def setL : List Value → Nat → List Value → List Value
  | c, _, [] => c
  | c, o, v :: vs => setL (c.set o v) (o + 1) vs
def st (h : AH) (b o : Nat) (vs : List Value) : Option AH := match h.get b with
  | some (.cells c op ro esz) => cond ro none (cond (Nat.ble (o + vs.length) c.length) (some (h.set b (some (.cells (setL c o vs) op false esz)))) none)
  | _ => none
end AH

/-- interface values and function values -/
def ifV : Option (TypeId × Value) → Value
  | none => .nilIface
  | some p => .iface p.1 p.2
def fnV : Option (FuncId × List Value × List Value) → Value
  | none => .nilFunc
  | some p => .func (.func p.1) p.2.1.toArray p.2.2.toArray

abbrev Res := Option (Value × AH)

inductive Ex where
  | normal | exit (id : Nat) | ret

/-- the kind of a cell -/
inductive CK where
  | int (k : IntKind) | bool | str | ptr | slice | map | ifc | fn | any
def ckOf : Value → CK
  | .int k _ => .int k
  | .bool _ => .bool
  | .string _ => .str
  | .pointer _ => .ptr
  | .slice _ _ _ => .slice
  | .map _ => .map
  | .nilIface => .ifc
  | .nilFunc => .fn
  | _ => .any

def ldCK (h : AH) (c : CK) (b o : Nat) (K : Value → Res) : Res := match c with
  | .int k => (h.ldI k b o).bind fun x => K (.int k x)
  | .bool => (h.ldB b o).bind fun x => K (.bool x)
  | .str => (h.ldStr b o).bind fun x => K (.string x)
  | .ptr => (h.ldP b o).bind fun x => K (.pointer x)
  | .slice => (h.ldS b o).bind fun x => K (.slice x.1 x.2.1 x.2.2)
  | .map => (h.ldM b o).bind fun x => K (.map x)
  | .ifc => (h.ldF b o).bind fun x => K (ifV x)
  | .fn => (h.ldG b o).bind fun x => K (fnV x)
  | .any => (h.ld b o).bind K

def ldN (h : AH) : List CK → Nat → Nat → (List Value → Res) → Res
  | [], _, _, K => K []
  | c :: cs, b, o, K => ldCK h c b o fun v => ldN h cs b (o + 1) fun vs => K (v :: vs)

def isAggD : TypeDesc → Bool
  | .struct _ | .array _ _ => true
  | _ => false

/-- the kinds of a type's cells; is it a struct or an array? -/
def kindsOf (P : Program) (t : TypeId) : Option (Bool × List CK) :=
  match P.underlying t, P.info? t with
  | some d, some i => match i.zero with
    | some z => cond (Nat.beq z.cells.size i.size) (some (isAggD d, z.cells.toList.map ckOf)) none
    | none => none
  | _, _ => none

def ldT (P : Program) (h : AH) (t : TypeId) (b o : Nat) (K : Value → Res) : Res :=
  match kindsOf P t with
  | some (true, cs) => ldN h cs b o fun vs => K (.agg vs.toArray)
  | some (false, [c]) => ldCK h c b o K
  | _ => none

/-- is a constant free of addresses? -/
def flat1 : Value → Bool
  | .bool _ | .int _ _ | .string _ | .pointer none | .slice none 0 0 | .map none | .nilFunc | .nilIface => true
  | _ => false
def flat : Value → Bool
  | .agg cs => cs.toList.all flat1
  | v => flat1 v

def opv (tm : T Value) : Operand → Option Value
  | .tmp t => tm.get t
  | .const v => cond (flat v) (some v) none
  | .func f => some (.func (.func f) #[] #[])
  | .global _ => none

def opvs (tm : T Value) : List Operand → Option (List Value)
  | [] => some []
  | x :: xs => (opv tm x).bind fun v => (opvs tm xs).bind fun vs => some (v :: vs)

def beqL : List UInt8 → List UInt8 → Bool
  | [], [] => true
  | a :: x, b :: y => cond (Nat.beq a.toNat b.toNat) (beqL x y) false
  | _, _ => false
def seqB (a b : ByteArray) : Bool := beqL a.data.toList b.data.toList
def ltL : List UInt8 → List UInt8 → Bool
  | _, [] => false
  | [], _ :: _ => true
  | a :: x, b :: y => cond (Nat.blt a.toNat b.toNat) true (cond (Nat.beq a.toNat b.toNat) (ltL x y) false)
def sltB (a b : ByteArray) : Bool := ltL a.data.toList b.data.toList

def abinInt (op : BinOp) (k : IntKind) (x y : Int) : Option Value := match op with
  | .add => some (.int k (k.wrap (x + y)))
  | .sub => some (.int k (k.wrap (x - y)))
  | .mul => some (.int k (k.wrap (x * y)))
  | .quo => cond (decide (y = 0)) none (some (.int k (k.wrap (x.tdiv y))))
  | .rem => cond (decide (y = 0)) none (some (.int k (x.tmod y)))
  | .and => some (.int k (k.wrap ((BitVec.ofInt k.bits x &&& BitVec.ofInt k.bits y).toNat)))
  | .or => some (.int k (k.wrap ((BitVec.ofInt k.bits x ||| BitVec.ofInt k.bits y).toNat)))
  | .xor => some (.int k (k.wrap ((BitVec.ofInt k.bits x ^^^ BitVec.ofInt k.bits y).toNat)))
  | .andNot => some (.int k (k.wrap ((BitVec.ofInt k.bits x &&& ~~~ BitVec.ofInt k.bits y).toNat)))
  | .eql => some (.bool (decide (x = y)))
  | .neq => some (.bool (!decide (x = y)))
  | .lss => some (.bool (decide (x < y)))
  | .leq => some (.bool (decide (x ≤ y)))
  | .gtr => some (.bool (decide (y < x)))
  | .geq => some (.bool (!decide (x < y)))
  | _ => none

def abinStr (op : BinOp) (x y : ByteArray) : Option Value := match op with
  | .add => cond (Nat.ble (x.size + y.size) 1152921504606846976) (some (.string (x ++ y))) none
  | .eql => some (.bool (seqB x y))
  | .neq => some (.bool (!seqB x y))
  | .lss => some (.bool (sltB x y))
  | .leq => some (.bool (sltB x y || seqB x y))
  | .gtr => some (.bool (!(sltB x y || seqB x y)))
  | .geq => some (.bool (!sltB x y))
  | _ => none

def eqOpt {α : Type} (a b : Option α) : Option Bool := match b with
  | none => some a.isNone
  | some _ => match a with
    | none => some false
    | some _ => none

/-- equality of values that are no integers and no strings; c: one operand is a constant -/
def aeq (d : TypeDesc) (c : Bool) (x y : Value) : Option Bool := match d, x, y with
  | .bool, .bool a, .bool b => some (a == b)
  | .pointer _, .pointer a, .pointer b => eqOpt a b
  | .slice _, .slice a _ _, .slice b _ _ => eqOpt a b
  | .map _ _, .map a, .map b => eqOpt a b
  | .interface _, x, .nilIface => match x with
    | .nilIface => cond c (some true) none
    | .iface _ _ => some false
    | _ => none
  | .interface _, .nilIface, .iface _ _ => some false
  | .func _ _ _, x, .nilFunc => match x with
    | .nilFunc => some true
    | .func _ _ _ => some false
    | _ => none
  | _, _, _ => none

def isC : Operand → Bool
  | .const _ => true
  | _ => false

def shiftOp (op : BinOp) (k : IntKind) (x y : Int) : Option Value :=
  cond (decide (y < 0)) none (match op with
    | .shl => some (.int k (k.wrap (x * 2 ^ (min y.toNat k.bits))))
    | .shr => some (.int k (x.fdiv (2 ^ (min y.toNat k.bits))))
    | _ => none)

def abin (P : Program) (op : BinOp) (t : TypeId) (c : Bool) (x y : Value) : Option Value := match x, y with
  | .int k a, .int k' b => match op with
    | .shl => shiftOp .shl k a b
    | .shr => shiftOp .shr k a b
    | op => cond (k == k') (abinInt op k a b) none
  | .string a, .string b => abinStr op a b
  | x, y => match op, P.underlying t with
    | .eql, some d => (aeq d c x y).bind fun b => some (.bool b)
    | .neq, some d => (aeq d c x y).bind fun b => some (.bool (!b))
    | _, _ => none

/-- does the operation go without a panic? -/
def binOk (op : BinOp) (x y : Value) : Bool := match op, x, y with
  | .quo, .int _ _, .int _ b => !decide (b = 0)
  | .rem, .int _ _, .int _ b => !decide (b = 0)
  | .shl, .int _ _, .int _ b => !decide (b < 0)
  | .shr, .int _ _, .int _ b => !decide (b < 0)
  | .add, .string a, .string b => Nat.ble (a.size + b.size) 1152921504606846976
  | _, _, _ => true
/-- and then its value -/
def abinT (P : Program) (op : BinOp) (t : TypeId) (c : Bool) (x y : Value) : Option Value := match x, y with
  | .int k a, .int k' b => match op with
    | .shl => some (.int k (k.wrap (a * 2 ^ (min b.toNat k.bits))))
    | .shr => some (.int k (a.fdiv (2 ^ (min b.toNat k.bits))))
    | .quo => cond (k == k') (some (.int k (k.wrap (a.tdiv b)))) none
    | .rem => cond (k == k') (some (.int k (a.tmod b))) none
    | op => cond (k == k') (abinInt op k a b) none
  | .string a, .string b => match op with
    | .add => some (.string (a ++ b))
    | op => abinStr op a b
  | x, y => match op, P.underlying t with
    | .eql, some d => (aeq d c x y).bind fun b => some (.bool b)
    | .neq, some d => (aeq d c x y).bind fun b => some (.bool (!b))
    | _, _ => none
theorem abinT_abin {P : Program} {op : BinOp} {t : TypeId} {c : Bool} {x y v : Value} (h1 : binOk op x y = true) (h2 : abinT P op t c x y = some v) : abin P op t c x y = some v := by
  unfold abinT at h2
  unfold abin
  split at h2
  · rename_i k a k' b
    cases op <;> simp only [binOk, Bool.not_eq_true', decide_eq_false_iff_not] at h1 h2 ⊢
    all_goals first
      | exact h2
      | (unfold shiftOp; simp only [h1, decide_false, cond_false]; exact h2)
      | (cases hk : (k == k') <;> rw [hk] at h2 <;> simp only [cond_false, cond_true] at h2 ⊢
         · cases h2
         · simp only [abinInt, h1, decide_false, cond_false]; exact h2)
  · cases op <;> simp only [binOk] at h1 h2 ⊢
    all_goals first
      | exact h2
      | (simp only [abinStr, h1, cond_true]; exact h2)
  · rename_i hn1 hn2
    cases x <;> cases y <;> first
      | exact h2
      | exact (hn1 _ _ _ _ rfl rfl).elim
      | exact (hn2 _ _ rfl rfl).elim

def aun (op : UnOp) (x : Value) : Option Value := match op, x with
  | .not, .bool b => some (.bool (!b))
  | .neg, .int k n => some (.int k (k.wrap (0 - n)))
  | _, _ => none

def fieldOf (P : Program) (t : TypeId) (f : Nat) : Option Field := match P.underlying t with
  | some (.struct fs) => fs.toList[f]?
  | _ => none
def sizeT (P : Program) (t : TypeId) : Option Nat := (P.info? t).bind fun i => some i.size

/-- a struct's or an array's part -/
def apart (P : Program) (t : TypeId) (cs : List Value) (o : Nat) : Option Value :=
  match P.underlying t, sizeT P t with
  | some d, some n => cond (isAggD d) (cond (Nat.ble (o + n) cs.length) (some (.agg ((cs.drop o).take n).toArray)) none) (cs[o]?)
  | _, _ => none

/-- fill places of a row of cells -/
def fillL (pl : Nat → Option (Nat × Nat)) : List Value → List (Nat × Value) → Option (List Value)
  | cs, [] => some cs
  | cs, (i, v) :: rest => (pl i).bind fun p =>
      cond (Nat.beq v.cells.toList.length p.2 && Nat.ble (p.1 + v.cells.toList.length) cs.length) (fillL pl (AH.setL cs p.1 v.cells.toList) rest) none

def opParts (tm : T Value) : List (Nat × Operand) → Option (List (Nat × Value))
  | [] => some []
  | (i, x) :: xs => (opv tm x).bind fun v => (opParts tm xs).bind fun vs => some ((i, v) :: vs)

def zeroCellsOf (P : Program) (t : TypeId) : Option (List Value) := (P.info? t).bind fun i => i.zero.bind fun z => cond (Nat.beq z.cells.size i.size && z.cells.toList.all flat1) (some z.cells.toList) none
def zeroOf (P : Program) (t : TypeId) : Option Value := (P.info? t).bind fun i => i.zero.bind fun z => cond (flat z) (some z) none

def placesL (P : Program) : List Field → Option (List (Nat × Nat))
  | [] => some []
  | f :: fs => (sizeT P f.type).bind fun n => (placesL P fs).bind fun l => some ((f.offset, n) :: l)

def placeOf (P : Program) (t : TypeId) : Option (Nat → Option (Nat × Nat)) := match P.underlying t with
  | some (.struct fs) => (placesL P fs.toList).bind fun l => some fun i => l[i]?
  | some (.array _ e) => (sizeT P e).bind fun n => some fun i => some (i * n, n)
  | _ => none

def cellOk : Value → Bool
  | .agg _ | .tuple _ => false
  | _ => true

def repL (l : List Value) : Nat → List Value
  | 0 => []
  | n + 1 => l ++ repL l n

def ldRow (h : AH) (b : Nat) (o n : Nat) : Option (List Value) := match h.get b with
  | some (.cells c _ _ _) => cond (Nat.ble (o + n) c.length) (some ((c.drop o).take n)) none
  | _ => none

/-- what an append appends: its cells, and how many elements -/
def newCells (h : AH) (size : Nat) : Value → Option (Nat × List Value)
  | .slice (some a) n _ => (ldRow h a.block a.off (n * size)).bind fun l => some (n, l)
  | .slice none n _ => cond (Nat.beq n 0) (some (0, [])) none
  | .string s => some (s.data.toList.length, s.data.toList.map fun b => .int .u8 b.toNat)
  | _ => none

def roomOk (need bytes : Nat) : Bool := Nat.ble (need * bytes) 1099511627776 && Nat.ble need 1099511627776

def aappend (P : Program) (t tx : TypeId) (s x : Value) (h : AH) (K : Value → AH → Res) : Res :=
  match P.underlying t, P.underlying tx with
  | some (.slice e), some dx =>
    match dx with
    | .int _ => none
    | _ => match P.info? e, s with
      | some i, .slice base sLen sCap =>
        cond (Nat.beq i.size 0) none <|
        (zeroCellsOf P e).bind fun _ =>
        (newCells h i.size x).bind fun nl =>
        let need := sLen + nl.1
        cond (roomOk need i.bytes && Nat.beq nl.2.length (nl.1 * i.size)) (match base with
          | none => cond (Nat.beq sLen 0 && Nat.beq sCap 0) (cond (Nat.beq nl.1 0) (K (.slice none 0 0) h)
                (K (.slice (some ⟨h.n, 0, none⟩) need opn) (h.push (.cells nl.2 true false i.size)))) none
          | some a => cond (Nat.blt sCap opn)
              (cond (Nat.ble need sCap)
                ((h.st a.block (a.off + sLen * i.size) nl.2).bind fun h' => K (.slice base need sCap) h')
                ((ldRow h a.block a.off (sLen * i.size)).bind fun old =>
                  K (.slice (some ⟨h.n, 0, none⟩) need opn) (h.push (.cells (old ++ nl.2) true false i.size))))
              (match h.get a.block with
                | some (.cells c true false esz) => cond (Nat.beq esz i.size)
                  (cond (Nat.ble (a.off + need * i.size) c.length)
                    ((h.st a.block (a.off + sLen * i.size) nl.2).bind fun h' => K (.slice base need opn) h')
                    (cond (Nat.ble (a.off + sLen * i.size) c.length)
                      (K (.slice (some ⟨h.n, 0, none⟩) need opn) ((h.set a.block none).push (.cells ((c.drop a.off).take (sLen * i.size) ++ nl.2) true false i.size)))
                      none)) none
                | _ => none)) none
      | _, _ => none
  | _, _ => none

def inB (i : Int) (n : Nat) : Bool := decide (0 ≤ i) && decide (i < n)
def inBe (i : Int) (n : Nat) : Bool := decide (0 ≤ i) && decide (i ≤ n)

/-- a bound of a slice expression, as a value -/
def boundOf (x : Option Value) (dflt : Nat) (top : Nat) (K : Nat → Res) : Res := match x with
  | none => K dflt
  | some (.int _ i) => cond (inBe i top) (K i.toNat) none
  | _ => none
def optv (tm : T Value) : Option Operand → Option (Option Value)
  | none => some none
  | some x => (opv tm x).bind fun v => some (some v)

def evSlice (P : Program) (t : TypeId) (x : Value) (lo hi mx : Option Value) (h : AH) (K : Value → AH → Res) : Res :=
  match P.underlying t, x with
  | some (.string), .string s => match mx with
    | some _ => none
    | none => boundOf hi s.data.toList.length s.data.toList.length fun hi => boundOf lo 0 hi fun lo => K (.string ⟨((s.data.toList.drop lo).take (hi - lo)).toArray⟩) h
  | some (.slice e), .slice a len cap => (sizeT P e).bind fun sz =>
    match a with
    | none => cond (Nat.beq len 0 && Nat.beq cap 0) (match mx with
        | none => boundOf hi 0 0 fun hi => boundOf lo 0 hi fun _ => K (.slice none 0 0) h
        | some mx => cond hi.isSome (boundOf (some mx) 0 0 fun m => boundOf hi 0 m fun hi => boundOf lo 0 hi fun _ => K (.slice none 0 0) h) none) none
    | some a => cond (Nat.blt cap opn)
      (match mx with
        | none => boundOf hi len cap fun hi => boundOf lo 0 hi fun lo => K (.slice (some ⟨a.block, a.off + cond (Nat.beq lo cap) 0 (lo * sz), none⟩) (hi - lo) (cap - lo)) h
        | some mx => cond hi.isSome (boundOf (some mx) 0 cap fun m => boundOf hi 0 m fun hi => boundOf lo 0 hi fun lo => K (.slice (some ⟨a.block, a.off + cond (Nat.beq lo m) 0 (lo * sz), none⟩) (hi - lo) (m - lo)) h) none)
      (cond (Nat.beq sz 0) none (match h.get a.block with
        | some (.cells c _ _ esz) => cond (Nat.beq esz sz) (match mx with
          | none => boundOf hi len ((c.length - a.off) / sz) fun hi => boundOf lo 0 hi fun lo => K (.slice (some ⟨a.block, a.off + lo * sz, none⟩) (hi - lo) opn) h
          | some mx => cond hi.isSome (boundOf (some mx) 0 ((c.length - a.off) / sz) fun m => cond (Nat.blt m opn) (boundOf hi 0 m fun hi => boundOf lo 0 hi fun lo => K (.slice (some ⟨a.block, a.off + cond (Nat.beq lo m) 0 (lo * sz), none⟩) (hi - lo) (m - lo)) h) none) none) none
        | _ => none))
  | _, _ => none

/-- a slice expression, and an append, by themselves -/
def aslice (P : Program) (t : TypeId) (x : Value) (lo hi mx : Option Value) (h : AH) : Res := evSlice P t x lo hi mx h fun v h => some (v, h)
def aapp (P : Program) (t tx : TypeId) (s x : Value) (h : AH) : Res := aappend P t tx s x h fun v h => some (v, h)

/-- values of a kind -/
def asI (k : IntKind) : Value → Option Int
  | .int k' x => cond (k == k') (some x) none
  | _ => none
def asB : Value → Option Bool
  | .bool x => some x
  | _ => none
def asStr : Value → Option ByteArray
  | .string x => some x
  | _ => none
def asP : Value → Option (Option Addr)
  | .pointer x => some x
  | _ => none
def asS : Value → Option (Option Addr × Nat × Nat)
  | .slice a n c => some (a, n, c)
  | _ => none
def asM : Value → Option (Option Nat)
  | .map r => some r
  | _ => none
def asF : Value → Option (Option (TypeId × Value))
  | .nilIface => some none
  | .iface t x => some (some (t, x))
  | _ => none
def asG : Value → Option (Option (FuncId × List Value × List Value))
  | .nilFunc => some none
  | .func (.func f) x y => some (some (f, x.toList, y.toList))
  | _ => none
def asAg : Value → Option (List Value)
  | .agg cs => some cs.toList
  | _ => none
def asTu : Value → Option (List Value)
  | .tuple cs => some cs.toList
  | _ => none
def hdO : List Value → Option (Value × List Value)
  | v :: vs => some (v, vs)
  | [] => none
def castCK (c : CK) (v : Value) (K : Value → Res) : Res := match c with
  | .int k => (asI k v).bind fun x => K (.int k x)
  | .bool => (asB v).bind fun x => K (.bool x)
  | .str => (asStr v).bind fun x => K (.string x)
  | .ptr => (asP v).bind fun x => K (.pointer x)
  | .slice => (asS v).bind fun x => K (.slice x.1 x.2.1 x.2.2)
  | .map => (asM v).bind fun x => K (.map x)
  | .ifc => (asF v).bind fun x => K (ifV x)
  | .fn => (asG v).bind fun x => K (fnV x)
  | .any => K v
def castN : List CK → List Value → (List Value → Res) → Res
  | [], l, K => cond l.isEmpty (K []) none
  | c :: cs, l, K => (hdO l).bind fun p => castCK c p.1 fun v => castN cs p.2 fun vs => K (v :: vs)
def castT (P : Program) (t : TypeId) (v : Value) (K : Value → Res) : Res := match kindsOf P t with
  | some (true, cs) => (asAg v).bind fun l => castN cs l fun vs => K (.agg vs.toArray)
  | some (false, [c]) => castCK c v K
  | _ => none
def castTs (P : Program) : List TypeId → List Value → (List Value → Res) → Res
  | [], l, K => cond l.isEmpty (K []) none
  | t :: ts, l, K => (hdO l).bind fun p => castT P t p.1 fun v => castTs P ts p.2 fun vs => K (v :: vs)
/-- what a call hands back, by its result types -/
def castR (P : Program) (ts : List TypeId) (v : Value) (K : Value → Res) : Res := match ts with
  | [t] => castT P t v K
  | ts => (asTu v).bind fun l => castTs P ts l fun vs => K (.tuple vs.toArray)

/-- what the level below can do -/
structure Orc where
  call : FuncId → List Value → AH → Res
  loop : Nat → (Nat → Option (List Nat)) → Code → T Value → AH → (Ex → T Value → AH → Res) → Res
  code : Nat → (Nat → Option (List Nat)) → Code → T Value → AH → (Ex → T Value → AH → Res) → Res

def addrK (v : Value) (K : Addr → Res) : Res := match v with
  | .pointer p => p.bind K
  | _ => none

/-- what a slot has whose operation was not asked for -/
def skipV : Value := .tuple #[]
/-- does a guard let run? -/
def wantV (v : Value) (want : Bool) : Option Bool := match v with
  | .bool b => some (b == want)
  | .tuple _ => some false
  | _ => none
/-- keys of maps -/
def keyOk : TypeDesc → Value → Bool
  | .bool, .bool _ => true
  | .int k, .int k' _ => k' == k
  | .string, .string _ => true
  | _, _ => false
def keqB : Value → Value → Bool
  | .int k a, .int k' b => k == k' && decide (a = b)
  | .string a, .string b => seqB a b
  | .bool a, .bool b => a == b
  | _, _ => false
def afind (k : Value) : List MapEntry → Nat → Option (Nat × Value)
  | [], _ => none
  | e :: es, i => cond (keqB k e.key) (some (i, e.val)) (afind k es (i + 1))
def keysOk (d : TypeDesc) (es : List MapEntry) : Bool := es.all fun e => keyOk d e.key
def mapOf (h : AH) : Value → Option (List MapEntry)
  | .map none => some []
  | .map (some r) => match h.get r with
    | some (.map es _) => some es
    | _ => none
  | _ => none
/-- the types of a map's keys and elements -/
def mapTy (P : Program) (t : TypeId) : Option (TypeDesc × TypeId) := match P.underlying t with
  | some (.map k e) => (P.underlying k).bind fun d => some (d, e)
  | _ => none
def lookE (P : Program) (d : TypeDesc) (e : TypeId) (k : Value) (es : List MapEntry) : Option (Value × Bool) :=
  cond (keyOk d k && keysOk d es) (match afind k es 0 with
    | some p => some (p.2, true)
    | none => (zeroOf P e).bind fun z => some (z, false)) none
def putE (k v : Value) (es : List MapEntry) (clk : Nat) : List MapEntry × Nat := match afind k es 0 with
  | some p => (es.modify p.1 (fun e => { e with key := k, val := v }), clk)
  | none => (es ++ [{ key := k, val := v, born := clk }], clk + 1)
def delE (k : Value) (es : List MapEntry) : List MapEntry := match afind k es 0 with
  | some p => es.eraseIdx p.1
  | none => es
def aput (d : TypeDesc) (m k v : Value) (h : AH) : Option AH := match m with
  | .map (some r) => match h.get r with
    | some (.map es clk) => cond (keyOk d k && keysOk d es) (some (h.set r (some (.map (putE k v es clk).1 (putE k v es clk).2)))) none
    | _ => none
  | _ => none
def adel (d : TypeDesc) (m k : Value) (h : AH) : Option AH := match m with
  | .map none => cond (keyOk d k) (some h) none
  | .map (some r) => match h.get r with
    | some (.map es clk) => cond (keyOk d k && keysOk d es) (some (h.set r (some (.map (delE k es) clk)))) none
    | _ => none
  | _ => none
def intO : Option Value → Bool
  | none => true
  | some (.int _ _) => true
  | _ => false
def isMapT (P : Program) (t : TypeId) : Bool := match P.underlying t with
  | some (.map _ _) => true
  | _ => false

def veq1 : Value → Value → Bool
  | .bool a, .bool b => a == b
  | .int k a, .int k' b => (k == k') && decide (a = b)
  | .string a, .string b => seqB a b
  | .pointer a, .pointer b => decide (a = b)
  | .slice a n c, .slice b m d => decide (a = b) && Nat.beq n m && Nat.beq c d
  | .map a, .map b => decide (a = b)
  | .nilFunc, .nilFunc => true
  | .nilIface, .nilIface => true
  | _, _ => false
def veqL : List Value → List Value → Bool
  | [], [] => true
  | a :: l, b :: m => veq1 a b && veqL l m
  | _, _ => false
def veq2 : Value → Value → Bool
  | .agg a, .agg b => veqL a.toList b.toList
  | .iface t a, .iface u b => Nat.beq t u && veq1 a b
  | .func (.func f) a b, .func (.func g) c d => Nat.beq f g && veqL a.toList c.toList && veqL b.toList d.toList
  | a, b => veq1 a b
def veqL2 : List Value → List Value → Bool
  | [], [] => true
  | a :: l, b :: m => veq2 a b && veqL2 l m
  | _, _ => false
def veq : Value → Value → Bool
  | .tuple a, .tuple b => veqL2 a.toList b.toList
  | a, b => veq2 a b
def veqO : Option Value → Option Value → Bool
  | some a, some b => veq a b
  | none, none => true
  | _, _ => false


/-- are two results the same? -/
def veqs : List Value → List Value → Bool
  | [], [] => true
  | a :: l, b :: m => veq a b && veqs l m
  | _, _ => false
def eeqs : List MapEntry → List MapEntry → Bool
  | [], [] => true
  | a :: l, b :: m => veq a.key b.key && veq a.val b.val && Nat.beq a.born b.born && eeqs l m
  | _, _ => false
def beq2 : Blk → Blk → Bool
  | .cells c op ro e, .cells c' op' ro' e' => veqs c c' && (op == op') && (ro == ro') && Nat.beq e e'
  | .map es k, .map es' k' => eeqs es es' && Nat.beq k k'
  | _, _ => false
def beqO : Option Blk → Option Blk → Bool
  | none, none => true
  | some a, some b => beq2 a b
  | _, _ => false
def teq : T Blk → T Blk → Bool
  | .nil, .nil => true
  | .node v l r, .node v' l' r' => beqO v v' && teq l l' && teq r r'
  | _, _ => false
def resEq : Res → Res → Bool
  | some a, some b => veq a.1 b.1 && Nat.beq a.2.n b.2.n && teq a.2.t b.2.t
  | _, _ => false
open Classical in
/-- one result, whatever comes -/
noncomputable def allR : List Res → Res
  | [] => none
  | r :: rs => cond (rs.all (resEq r)) r (if ∀ x ∈ rs, x = r then r else none)
theorem allR_same {r : Res} {rs : List Res} (h : ∀ x ∈ rs, x = r) : allR (r :: rs) = r := by
  simp only [allR]
  cases rs.all (resEq r) with
  | true => rfl
  | false => rw [cond_false, if_pos h]
/-- functions of which a summary tells all outcomes -/
abbrev SumEv := FuncId → Option (List Value → AH → Option (List (Value × AH)))
def noSum : SumEv := fun _ => none

end Go.Lg
