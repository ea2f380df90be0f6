/- A deterministic evaluator over an abstract memory for the program's code, and its soundness against the model. Part 1: the evaluator. -/
import Derived.Calls
set_option linter.unusedVariables false
set_option linter.unusedSimpArgs false
namespace Go.Lg
open Go

/-- a map from numbers, by their bits -/
inductive T (α : Type) where
  | nil
  | node (v : Option α) (l r : T α)

namespace T
variable {α : Type}
def get : T α → Nat → Option α
  | .nil, _ => none
  | .node v l r, k => cond (Nat.beq k 0) v (cond (Nat.beq (k % 2) 1) (l.get (k / 2)) (r.get (k / 2 - 1)))
def setF : Nat → T α → Nat → Option α → T α
  | 0, t, _, _ => t
  | n + 1, t, k, x =>
    match t with
    | .nil => cond (Nat.beq k 0) (.node x .nil .nil) (cond (Nat.beq (k % 2) 1) (.node none (setF n .nil (k / 2) x) .nil) (.node none .nil (setF n .nil (k / 2 - 1) x)))
    | .node v l r => cond (Nat.beq k 0) (.node x l r) (cond (Nat.beq (k % 2) 1) (.node v (setF n l (k / 2) x) r) (.node v l (setF n r (k / 2 - 1) x)))
def set (t : T α) (k : Nat) (x : Option α) : T α := setF (k + 1) t k x

theorem get_nil (k : Nat) : (T.nil : T α).get k = none := rfl
theorem get_setF (x : Option α) : ∀ (n : Nat) (t : T α) (k j : Nat), k < n → (setF n t k x).get j = if j = k then x else t.get j := by
  intro n
  induction n with
  | zero => intro t k j h; omega
  | succ n ih =>
    intro t k j hk
    have aux : ∀ (j k : Nat), Nat.beq j k = decide (j = k) := fun j k => by
      rw [Bool.eq_iff_iff]; simp
    cases t with
    | nil =>
      simp only [setF, aux]
      by_cases k0 : k = 0
      · subst k0
        simp only [decide_true, cond_true, get, aux]
        by_cases j0 : j = 0
        · simp [j0]
        · simp [j0]
      · simp only [k0, decide_false, cond_false]
        by_cases ko : k % 2 = 1
        · simp only [ko, decide_true, cond_true, get, aux]
          by_cases j0 : j = 0
          · subst j0; simp [Ne.symm k0]
          · simp only [j0, decide_false, cond_false]
            by_cases jo : j % 2 = 1
            · simp only [jo, decide_true, cond_true, ih _ _ _ (show k / 2 < n by omega), get]
              have : j / 2 = k / 2 ↔ j = k := by omega
              simp [this]
            · have : j ≠ k := by omega
              simp [jo, this]
        · simp only [ko, decide_false, cond_false, get, aux]
          by_cases j0 : j = 0
          · subst j0; simp [Ne.symm k0]
          · simp only [j0, decide_false, cond_false]
            by_cases jo : j % 2 = 1
            · have : j ≠ k := by omega
              simp [jo, this]
            · simp only [jo, decide_false, cond_false, ih _ _ _ (show k / 2 - 1 < n by omega), get]
              have : j / 2 - 1 = k / 2 - 1 ↔ j = k := by omega
              simp [this]
    | node v l r =>
      simp only [setF, aux]
      by_cases k0 : k = 0
      · subst k0
        simp only [decide_true, cond_true, get, aux]
        by_cases j0 : j = 0
        · simp [j0]
        · simp [j0]
      · simp only [k0, decide_false, cond_false]
        by_cases ko : k % 2 = 1
        · simp only [ko, decide_true, cond_true, get, aux]
          by_cases j0 : j = 0
          · subst j0; simp [Ne.symm k0]
          · simp only [j0, decide_false, cond_false]
            by_cases jo : j % 2 = 1
            · simp only [jo, decide_true, cond_true, ih _ _ _ (show k / 2 < n by omega)]
              have : j / 2 = k / 2 ↔ j = k := by omega
              simp [this]
            · have : j ≠ k := by omega
              simp [jo, this]
        · simp only [ko, decide_false, cond_false, get, aux]
          by_cases j0 : j = 0
          · subst j0; simp [Ne.symm k0]
          · simp only [j0, decide_false, cond_false]
            by_cases jo : j % 2 = 1
            · have : j ≠ k := by omega
              simp [jo, this]
            · simp only [jo, decide_false, cond_false, ih _ _ _ (show k / 2 - 1 < n by omega)]
              have : j / 2 - 1 = k / 2 - 1 ↔ j = k := by omega
              simp [this]
theorem get_set (t : T α) (k : Nat) (x : Option α) (j : Nat) : (t.set k x).get j = if j = k then x else t.get j := get_setF x _ t k j (Nat.lt_succ_self k)
theorem get_set_eq (t : T α) (k : Nat) (x : Option α) : (t.set k x).get k = x := by rw [get_set, if_pos rfl]
theorem get_set_ne (t : T α) {k j : Nat} (x : Option α) (h : j ≠ k) : (t.set k x).get j = t.get j := by rw [get_set, if_neg h]
end T
end Go.Lg

namespace Go.Lg
open Go

/-- the mark for 'the capacity is not known' in an abstract slice -/
def opn : Nat := 4611686018427387904

/-- a block of the abstract memory: cells (is the real row perhaps longer? is it for reading only? cells an element), or a map -/
inductive Blk where
  | cells (c : List Value) (open_ ro : Bool) (esz : Nat)
  | map (es : List MapEntry) (clk : Nat)
  | iter (m : Option Nat) (since : Nat) (seen : List Nat) (last : Nat)

structure AH where
  n : Nat
  t : T Blk
namespace AH
def get (h : AH) (b : Nat) : Option Blk := h.t.get b
def set (h : AH) (b : Nat) (x : Option Blk) : AH := ⟨h.n, h.t.set b x⟩
def push (h : AH) (x : Blk) : AH := ⟨h.n + 1, h.t.set h.n (some x)⟩
def ld (h : AH) (b o : Nat) : Option Value := match h.get b with
  | some (.cells c _ _ _) => c[o]?
  | _ => none
def ldI (h : AH) (k : IntKind) (b o : Nat) : Option Int := (h.ld b o).bind fun v => match v with
  | .int k' x => cond (k == k') (some x) none
  | _ => none
def ldB (h : AH) (b o : Nat) : Option Bool := (h.ld b o).bind fun v => match v with
  | .bool x => some x
  | _ => none
def ldStr (h : AH) (b o : Nat) : Option ByteArray := (h.ld b o).bind fun v => match v with
  | .string x => some x
  | _ => none
def ldP (h : AH) (b o : Nat) : Option (Option Addr) := (h.ld b o).bind fun v => match v with
  | .pointer x => some x
  | _ => none
def ldS (h : AH) (b o : Nat) : Option (Option Addr × Nat × Nat) := (h.ld b o).bind fun v => match v with
  | .slice a n c => some (a, n, c)
  | _ => none
def ldM (h : AH) (b o : Nat) : Option (Option Nat) := (h.ld b o).bind fun v => match v with
  | .map r => some r
  | _ => none
def ldF (h : AH) (b o : Nat) : Option (Option (TypeId × Value)) := (h.ld b o).bind fun v => match v with
  | .nilIface => some none
  | .iface t x => some (some (t, x))
  | _ => none
def ldG (h : AH) (b o : Nat) : Option (Option (FuncId × List Value × List Value)) := (h.ld b o).bind fun v => match v with
  | .nilFunc => some none
  | .func (.func f) x y => some (some (f, x.toList, y.toList))
  | _ => none
def setL : List Value → Nat → List Value → List Value
  | c, _, [] => c
  | c, o, v :: vs => setL (c.set o v) (o + 1) vs
def st (h : AH) (b o : Nat) (vs : List Value) : Option AH := match h.get b with
  | some (.cells c op ro esz) => cond ro none (cond (Nat.ble (o + vs.length) c.length) (some (h.set b (some (.cells (setL c o vs) op false esz)))) none)
  | _ => none
end AH

/-- interface values and function values -/
def ifV : Option (TypeId × Value) → Value
  | none => .nilIface
  | some p => .iface p.1 p.2
def fnV : Option (FuncId × List Value × List Value) → Value
  | none => .nilFunc
  | some p => .func (.func p.1) p.2.1.toArray p.2.2.toArray

abbrev Res := Option (Value × AH)

inductive Ex where
  | normal | exit (id : Nat) | ret

/-- the kind of a cell -/
inductive CK where
  | int (k : IntKind) | bool | str | ptr | slice | map | ifc | fn | any
def ckOf : Value → CK
  | .int k _ => .int k
  | .bool _ => .bool
  | .string _ => .str
  | .pointer _ => .ptr
  | .slice _ _ _ => .slice
  | .map _ => .map
  | .nilIface => .ifc
  | .nilFunc => .fn
  | _ => .any

def ldCK (h : AH) (c : CK) (b o : Nat) (K : Value → Res) : Res := match c with
  | .int k => (h.ldI k b o).bind fun x => K (.int k x)
  | .bool => (h.ldB b o).bind fun x => K (.bool x)
  | .str => (h.ldStr b o).bind fun x => K (.string x)
  | .ptr => (h.ldP b o).bind fun x => K (.pointer x)
  | .slice => (h.ldS b o).bind fun x => K (.slice x.1 x.2.1 x.2.2)
  | .map => (h.ldM b o).bind fun x => K (.map x)
  | .ifc => (h.ldF b o).bind fun x => K (ifV x)
  | .fn => (h.ldG b o).bind fun x => K (fnV x)
  | .any => (h.ld b o).bind K

def ldN (h : AH) : List CK → Nat → Nat → (List Value → Res) → Res
  | [], _, _, K => K []
  | c :: cs, b, o, K => ldCK h c b o fun v => ldN h cs b (o + 1) fun vs => K (v :: vs)

def isAggD : TypeDesc → Bool
  | .struct _ | .array _ _ => true
  | _ => false

/-- the kinds of a type's cells; is it a struct or an array? -/
def kindsOf (P : Program) (t : TypeId) : Option (Bool × List CK) :=
  match P.underlying t, P.info? t with
  | some d, some i => match i.zero with
    | some z => cond (Nat.beq z.cells.size i.size) (some (isAggD d, z.cells.toList.map ckOf)) none
    | none => none
  | _, _ => none

def ldT (P : Program) (h : AH) (t : TypeId) (b o : Nat) (K : Value → Res) : Res :=
  match kindsOf P t with
  | some (true, cs) => ldN h cs b o fun vs => K (.agg vs.toArray)
  | some (false, [c]) => ldCK h c b o K
  | _ => none

/-- is a constant free of addresses? -/
def flat1 : Value → Bool
  | .bool _ | .int _ _ | .string _ | .pointer none | .slice none 0 0 | .map none | .nilFunc | .nilIface => true
  | _ => false
def flat : Value → Bool
  | .agg cs => cs.toList.all flat1
  | v => flat1 v

def opv (tm : T Value) : Operand → Option Value
  | .tmp t => tm.get t
  | .const v => cond (flat v) (some v) none
  | .func f => some (.func (.func f) #[] #[])
  | .global _ => none

def opvs (tm : T Value) : List Operand → Option (List Value)
  | [] => some []
  | x :: xs => (opv tm x).bind fun v => (opvs tm xs).bind fun vs => some (v :: vs)

def beqL : List UInt8 → List UInt8 → Bool
  | [], [] => true
  | a :: x, b :: y => cond (Nat.beq a.toNat b.toNat) (beqL x y) false
  | _, _ => false
def seqB (a b : ByteArray) : Bool := beqL a.data.toList b.data.toList
def ltL : List UInt8 → List UInt8 → Bool
  | _, [] => false
  | [], _ :: _ => true
  | a :: x, b :: y => cond (Nat.blt a.toNat b.toNat) true (cond (Nat.beq a.toNat b.toNat) (ltL x y) false)
def sltB (a b : ByteArray) : Bool := ltL a.data.toList b.data.toList

def abinInt (op : BinOp) (k : IntKind) (x y : Int) : Option Value := match op with
  | .add => some (.int k (k.wrap (x + y)))
  | .sub => some (.int k (k.wrap (x - y)))
  | .mul => some (.int k (k.wrap (x * y)))
  | .quo => cond (decide (y = 0)) none (some (.int k (k.wrap (x.tdiv y))))
  | .rem => cond (decide (y = 0)) none (some (.int k (x.tmod y)))
  | .and => some (.int k (k.wrap ((BitVec.ofInt k.bits x &&& BitVec.ofInt k.bits y).toNat)))
  | .or => some (.int k (k.wrap ((BitVec.ofInt k.bits x ||| BitVec.ofInt k.bits y).toNat)))
  | .xor => some (.int k (k.wrap ((BitVec.ofInt k.bits x ^^^ BitVec.ofInt k.bits y).toNat)))
  | .andNot => some (.int k (k.wrap ((BitVec.ofInt k.bits x &&& ~~~ BitVec.ofInt k.bits y).toNat)))
  | .eql => some (.bool (decide (x = y)))
  | .neq => some (.bool (!decide (x = y)))
  | .lss => some (.bool (decide (x < y)))
  | .leq => some (.bool (decide (x ≤ y)))
  | .gtr => some (.bool (decide (y < x)))
  | .geq => some (.bool (!decide (x < y)))
  | _ => none

def abinStr (op : BinOp) (x y : ByteArray) : Option Value := match op with
  | .add => cond (Nat.ble (x.size + y.size) 1152921504606846976) (some (.string (x ++ y))) none
  | .eql => some (.bool (seqB x y))
  | .neq => some (.bool (!seqB x y))
  | .lss => some (.bool (sltB x y))
  | .leq => some (.bool (sltB x y || seqB x y))
  | .gtr => some (.bool (!(sltB x y || seqB x y)))
  | .geq => some (.bool (!sltB x y))
  | _ => none

def eqOpt {α : Type} (a b : Option α) : Option Bool := match b with
  | none => some a.isNone
  | some _ => match a with
    | none => some false
    | some _ => none

/-- equality of values that are no integers and no strings; c: one operand is a constant -/
def aeq (d : TypeDesc) (c : Bool) (x y : Value) : Option Bool := match d, x, y with
  | .bool, .bool a, .bool b => some (a == b)
  | .pointer _, .pointer a, .pointer b => eqOpt a b
  | .slice _, .slice a _ _, .slice b _ _ => eqOpt a b
  | .map _ _, .map a, .map b => eqOpt a b
  | .interface _, x, .nilIface => match x with
    | .nilIface => cond c (some true) none
    | .iface _ _ => some false
    | _ => none
  | .interface _, .nilIface, .iface _ _ => some false
  | .func _ _ _, x, .nilFunc => match x with
    | .nilFunc => some true
    | .func _ _ _ => some false
    | _ => none
  | _, _, _ => none

/-- equality of arrays of whole numbers, part by part -/
def eqI (k : IntKind) : List Value → List Value → Option Bool
  | [], [] => some true
  | .int k1 a :: xs, .int k2 b :: ys => cond (k1 == k && k2 == k) ((eqI k xs ys).bind fun r => some (decide (a = b) && r)) none
  | _, _ => none
def arrEq (P : Program) (t : TypeId) (n : Nat) (e : TypeId) (x y : Value) : Option Bool := match x, y with
  | .agg xs, .agg ys => match P.underlying e, P.info? e with
    | some (.int k), some ie => cond (Nat.beq ie.size 1 && (Nat.beq xs.toList.length n && (Nat.beq ys.toList.length n && !(P.eqGuardType P.depth t)))) (eqI k xs.toList ys.toList) none
    | _, _ => none
  | _, _ => none
/-- equality of one part of a struct: a whole number, a truth value, a text -/
def eq1 (P : Program) (t : TypeId) (x y : Value) : Option Bool := match P.underlying t, x, y with
  | some (.int k), .int k1 a, .int k2 b => cond (k1 == k && k2 == k) (some (decide (a = b))) none
  | some .bool, .bool a, .bool b => some (a == b)
  | some .string, .string a, .string b => some (seqB a b)
  | _, _, _ => none
/-- equality of structs of such parts -/
def eqF (P : Program) (xs ys : List Value) : List Field → Option Bool
  | [] => some true
  | f :: fs => cond (f.name == "_") none ((xs[f.offset]?).bind fun x => (ys[f.offset]?).bind fun y => (eq1 P f.type x y).bind fun r => (eqF P xs ys fs).bind fun q => some (r && q))
def strEq (P : Program) (t : TypeId) (fs : Array Field) (x y : Value) : Option Bool := match x, y with
  | .agg xs, .agg ys => cond (P.stoodInHeld t || P.eqGuardType P.depth t) none (eqF P xs.toList ys.toList fs.toList)
  | _, _ => none
def aeqP (P : Program) (t : TypeId) (d : TypeDesc) (c : Bool) (x y : Value) : Option Bool := match d with
  | .array n e => arrEq P t n e x y
  | .struct fs => strEq P t fs x y
  | d => aeq d c x y

def isC : Operand → Bool
  | .const _ => true
  | _ => false

def shiftOp (op : BinOp) (k : IntKind) (x y : Int) : Option Value :=
  cond (decide (y < 0)) none (match op with
    | .shl => some (.int k (k.wrap (x * 2 ^ (min y.toNat k.bits))))
    | .shr => some (.int k (x.fdiv (2 ^ (min y.toNat k.bits))))
    | _ => none)

def abin (P : Program) (op : BinOp) (t : TypeId) (c : Bool) (x y : Value) : Option Value := match x, y with
  | .int k a, .int k' b => match op with
    | .shl => shiftOp .shl k a b
    | .shr => shiftOp .shr k a b
    | op => cond (k == k') (abinInt op k a b) none
  | .string a, .string b => abinStr op a b
  | x, y => match op, P.underlying t with
    | .eql, some d => (aeqP P t d c x y).bind fun b => some (.bool b)
    | .neq, some d => (aeqP P t d c x y).bind fun b => some (.bool (!b))
    | _, _ => none

/-- does the operation go without a panic? -/
def binOk (op : BinOp) (x y : Value) : Bool := match op, x, y with
  | .quo, .int _ _, .int _ b => !decide (b = 0)
  | .rem, .int _ _, .int _ b => !decide (b = 0)
  | .shl, .int _ _, .int _ b => !decide (b < 0)
  | .shr, .int _ _, .int _ b => !decide (b < 0)
  | .add, .string a, .string b => Nat.ble (a.size + b.size) 1152921504606846976
  | _, _, _ => true
/-- and then its value -/
def abinT (P : Program) (op : BinOp) (t : TypeId) (c : Bool) (x y : Value) : Option Value := match x, y with
  | .int k a, .int k' b => match op with
    | .shl => some (.int k (k.wrap (a * 2 ^ (min b.toNat k.bits))))
    | .shr => some (.int k (a.fdiv (2 ^ (min b.toNat k.bits))))
    | .quo => cond (k == k') (some (.int k (k.wrap (a.tdiv b)))) none
    | .rem => cond (k == k') (some (.int k (a.tmod b))) none
    | op => cond (k == k') (abinInt op k a b) none
  | .string a, .string b => match op with
    | .add => some (.string (a ++ b))
    | op => abinStr op a b
  | x, y => match op, P.underlying t with
    | .eql, some d => (aeqP P t d c x y).bind fun b => some (.bool b)
    | .neq, some d => (aeqP P t d c x y).bind fun b => some (.bool (!b))
    | _, _ => none
theorem abinT_abin {P : Program} {op : BinOp} {t : TypeId} {c : Bool} {x y v : Value} (h1 : binOk op x y = true) (h2 : abinT P op t c x y = some v) : abin P op t c x y = some v := by
  unfold abinT at h2
  unfold abin
  split at h2
  · rename_i k a k' b
    cases op <;> simp only [binOk, Bool.not_eq_true', decide_eq_false_iff_not] at h1 h2 ⊢
    all_goals first
      | exact h2
      | (unfold shiftOp; simp only [h1, decide_false, cond_false]; exact h2)
      | (cases hk : (k == k') <;> rw [hk] at h2 <;> simp only [cond_false, cond_true] at h2 ⊢
         · cases h2
         · simp only [abinInt, h1, decide_false, cond_false]; exact h2)
  · cases op <;> simp only [binOk] at h1 h2 ⊢
    all_goals first
      | exact h2
      | (simp only [abinStr, h1, cond_true]; exact h2)
  · rename_i hn1 hn2
    cases x <;> cases y <;> first
      | exact h2
      | exact (hn1 _ _ _ _ rfl rfl).elim
      | exact (hn2 _ _ rfl rfl).elim

def aun (op : UnOp) (x : Value) : Option Value := match op, x with
  | .not, .bool b => some (.bool (!b))
  | .neg, .int k n => some (.int k (k.wrap (0 - n)))
  | _, _ => none

def fieldOf (P : Program) (t : TypeId) (f : Nat) : Option Field := match P.underlying t with
  | some (.struct fs) => fs.toList[f]?
  | _ => none
def sizeT (P : Program) (t : TypeId) : Option Nat := (P.info? t).bind fun i => some i.size

/-- a struct's or an array's part -/
def apart (P : Program) (t : TypeId) (cs : List Value) (o : Nat) : Option Value :=
  match P.underlying t, sizeT P t with
  | some d, some n => cond (isAggD d) (cond (Nat.ble (o + n) cs.length) (some (.agg ((cs.drop o).take n).toArray)) none) (cs[o]?)
  | _, _ => none

/-- fill places of a row of cells -/
def fillL (pl : Nat → Option (Nat × Nat)) : List Value → List (Nat × Value) → Option (List Value)
  | cs, [] => some cs
  | cs, (i, v) :: rest => (pl i).bind fun p =>
      cond (Nat.beq v.cells.toList.length p.2 && Nat.ble (p.1 + v.cells.toList.length) cs.length) (fillL pl (AH.setL cs p.1 v.cells.toList) rest) none

def opParts (tm : T Value) : List (Nat × Operand) → Option (List (Nat × Value))
  | [] => some []
  | (i, x) :: xs => (opv tm x).bind fun v => (opParts tm xs).bind fun vs => some ((i, v) :: vs)

def zeroCellsOf (P : Program) (t : TypeId) : Option (List Value) := (P.info? t).bind fun i => i.zero.bind fun z => cond (Nat.beq z.cells.size i.size && z.cells.toList.all flat1) (some z.cells.toList) none
def zeroOf (P : Program) (t : TypeId) : Option Value := (P.info? t).bind fun i => i.zero.bind fun z => cond (flat z) (some z) none

def placesL (P : Program) : List Field → Option (List (Nat × Nat))
  | [] => some []
  | f :: fs => (sizeT P f.type).bind fun n => (placesL P fs).bind fun l => some ((f.offset, n) :: l)

def placeOf (P : Program) (t : TypeId) : Option (Nat → Option (Nat × Nat)) := match P.underlying t with
  | some (.struct fs) => (placesL P fs.toList).bind fun l => some fun i => l[i]?
  | some (.array _ e) => (sizeT P e).bind fun n => some fun i => some (i * n, n)
  | _ => none

def cellOk : Value → Bool
  | .agg _ | .tuple _ => false
  | _ => true

def repL (l : List Value) : Nat → List Value
  | 0 => []
  | n + 1 => l ++ repL l n

def ldRow (h : AH) (b : Nat) (o n : Nat) : Option (List Value) := match h.get b with
  | some (.cells c _ _ _) => cond (Nat.ble (o + n) c.length) (some ((c.drop o).take n)) none
  | _ => none

/-- what an append appends: its cells, and how many elements -/
def newCells (h : AH) (size : Nat) : Value → Option (Nat × List Value)
  | .slice (some a) n _ => (ldRow h a.block a.off (n * size)).bind fun l => some (n, l)
  | .slice none n _ => cond (Nat.beq n 0) (some (0, [])) none
  | .string s => some (s.data.toList.length, s.data.toList.map fun b => .int .u8 b.toNat)
  | _ => none

def roomOk (need bytes : Nat) : Bool := Nat.ble (need * bytes) 1099511627776 && Nat.ble need 1099511627776

def aappend (P : Program) (t tx : TypeId) (s x : Value) (h : AH) (K : Value → AH → Res) : Res :=
  match P.underlying t, P.underlying tx with
  | some (.slice e), some dx =>
    match dx with
    | .int _ => none
    | _ => match P.info? e, s with
      | some i, .slice base sLen sCap =>
        cond (Nat.beq i.size 0) none <|
        (zeroCellsOf P e).bind fun _ =>
        (newCells h i.size x).bind fun nl =>
        let need := sLen + nl.1
        cond (roomOk need i.bytes && Nat.beq nl.2.length (nl.1 * i.size)) (match base with
          | none => cond (Nat.beq sLen 0 && Nat.beq sCap 0) (cond (Nat.beq nl.1 0) (K (.slice none 0 0) h)
                (K (.slice (some ⟨h.n, 0, none⟩) need opn) (h.push (.cells nl.2 true false i.size)))) none
          | some a => cond (Nat.blt sCap opn)
              (cond (Nat.ble need sCap)
                ((h.st a.block (a.off + sLen * i.size) nl.2).bind fun h' => K (.slice base need sCap) h')
                ((ldRow h a.block a.off (sLen * i.size)).bind fun old =>
                  K (.slice (some ⟨h.n, 0, none⟩) need opn) (h.push (.cells (old ++ nl.2) true false i.size))))
              (match h.get a.block with
                | some (.cells c true false esz) => cond (Nat.beq esz i.size)
                  (cond (Nat.ble (a.off + need * i.size) c.length)
                    ((h.st a.block (a.off + sLen * i.size) nl.2).bind fun h' => K (.slice base need opn) h')
                    (cond (Nat.ble (a.off + sLen * i.size) c.length)
                      (K (.slice (some ⟨h.n, 0, none⟩) need opn) ((h.set a.block none).push (.cells ((c.drop a.off).take (sLen * i.size) ++ nl.2) true false i.size)))
                      none)) none
                | _ => none)) none
      | _, _ => none
  | _, _ => none

def inB (i : Int) (n : Nat) : Bool := decide (0 ≤ i) && decide (i < n)
def inBe (i : Int) (n : Nat) : Bool := decide (0 ≤ i) && decide (i ≤ n)

/-- a bound of a slice expression, as a value -/
def boundOf (x : Option Value) (dflt : Nat) (top : Nat) (K : Nat → Res) : Res := match x with
  | none => K dflt
  | some (.int _ i) => cond (inBe i top) (K i.toNat) none
  | _ => none
def optv (tm : T Value) : Option Operand → Option (Option Value)
  | none => some none
  | some x => (opv tm x).bind fun v => some (some v)

def evSlice (P : Program) (t : TypeId) (x : Value) (lo hi mx : Option Value) (h : AH) (K : Value → AH → Res) : Res :=
  match P.underlying t, x with
  | some (.string), .string s => match mx with
    | some _ => none
    | none => boundOf hi s.data.toList.length s.data.toList.length fun hi => boundOf lo 0 hi fun lo => K (.string ⟨((s.data.toList.drop lo).take (hi - lo)).toArray⟩) h
  | some (.slice e), .slice a len cap => (sizeT P e).bind fun sz =>
    match a with
    | none => cond (Nat.beq len 0 && Nat.beq cap 0) (match mx with
        | none => boundOf hi 0 0 fun hi => boundOf lo 0 hi fun _ => K (.slice none 0 0) h
        | some mx => cond hi.isSome (boundOf (some mx) 0 0 fun m => boundOf hi 0 m fun hi => boundOf lo 0 hi fun _ => K (.slice none 0 0) h) none) none
    | some a => cond (Nat.blt cap opn)
      (match mx with
        | none => boundOf hi len cap fun hi => boundOf lo 0 hi fun lo => K (.slice (some ⟨a.block, a.off + cond (Nat.beq lo cap) 0 (lo * sz), none⟩) (hi - lo) (cap - lo)) h
        | some mx => cond hi.isSome (boundOf (some mx) 0 cap fun m => boundOf hi 0 m fun hi => boundOf lo 0 hi fun lo => K (.slice (some ⟨a.block, a.off + cond (Nat.beq lo m) 0 (lo * sz), none⟩) (hi - lo) (m - lo)) h) none)
      (cond (Nat.beq sz 0) none (match h.get a.block with
        | some (.cells c _ _ esz) => cond (Nat.beq esz sz) (match mx with
          | none => boundOf hi len ((c.length - a.off) / sz) fun hi => boundOf lo 0 hi fun lo => K (.slice (some ⟨a.block, a.off + lo * sz, none⟩) (hi - lo) opn) h
          | some mx => cond hi.isSome (boundOf (some mx) 0 ((c.length - a.off) / sz) fun m => cond (Nat.blt m opn) (boundOf hi 0 m fun hi => boundOf lo 0 hi fun lo => K (.slice (some ⟨a.block, a.off + cond (Nat.beq lo m) 0 (lo * sz), none⟩) (hi - lo) (m - lo)) h) none) none) none
        | _ => none))
  | _, _ => none

/-- a slice expression, and an append, by themselves -/
def aslice (P : Program) (t : TypeId) (x : Value) (lo hi mx : Option Value) (h : AH) : Res := evSlice P t x lo hi mx h fun v h => some (v, h)
def aapp (P : Program) (t tx : TypeId) (s x : Value) (h : AH) : Res := aappend P t tx s x h fun v h => some (v, h)

/-- values of a kind -/
def asI (k : IntKind) : Value → Option Int
  | .int k' x => cond (k == k') (some x) none
  | _ => none
def asB : Value → Option Bool
  | .bool x => some x
  | _ => none
def asStr : Value → Option ByteArray
  | .string x => some x
  | _ => none
def asP : Value → Option (Option Addr)
  | .pointer x => some x
  | _ => none
def asS : Value → Option (Option Addr × Nat × Nat)
  | .slice a n c => some (a, n, c)
  | _ => none
def asM : Value → Option (Option Nat)
  | .map r => some r
  | _ => none
def asF : Value → Option (Option (TypeId × Value))
  | .nilIface => some none
  | .iface t x => some (some (t, x))
  | _ => none
def asG : Value → Option (Option (FuncId × List Value × List Value))
  | .nilFunc => some none
  | .func (.func f) x y => some (some (f, x.toList, y.toList))
  | _ => none
def asAg : Value → Option (List Value)
  | .agg cs => some cs.toList
  | _ => none
def asTu : Value → Option (List Value)
  | .tuple cs => some cs.toList
  | _ => none
def hdO : List Value → Option (Value × List Value)
  | v :: vs => some (v, vs)
  | [] => none
def castCK (c : CK) (v : Value) (K : Value → Res) : Res := match c with
  | .int k => (asI k v).bind fun x => K (.int k x)
  | .bool => (asB v).bind fun x => K (.bool x)
  | .str => (asStr v).bind fun x => K (.string x)
  | .ptr => (asP v).bind fun x => K (.pointer x)
  | .slice => (asS v).bind fun x => K (.slice x.1 x.2.1 x.2.2)
  | .map => (asM v).bind fun x => K (.map x)
  | .ifc => (asF v).bind fun x => K (ifV x)
  | .fn => (asG v).bind fun x => K (fnV x)
  | .any => K v
def castN : List CK → List Value → (List Value → Res) → Res
  | [], l, K => cond l.isEmpty (K []) none
  | c :: cs, l, K => (hdO l).bind fun p => castCK c p.1 fun v => castN cs p.2 fun vs => K (v :: vs)
def castT (P : Program) (t : TypeId) (v : Value) (K : Value → Res) : Res := match kindsOf P t with
  | some (true, cs) => (asAg v).bind fun l => castN cs l fun vs => K (.agg vs.toArray)
  | some (false, [c]) => castCK c v K
  | _ => none
def castTs (P : Program) : List TypeId → List Value → (List Value → Res) → Res
  | [], l, K => cond l.isEmpty (K []) none
  | t :: ts, l, K => (hdO l).bind fun p => castT P t p.1 fun v => castTs P ts p.2 fun vs => K (v :: vs)
/-- what a call hands back, by its result types -/
def castR (P : Program) (ts : List TypeId) (v : Value) (K : Value → Res) : Res := match ts with
  | [t] => castT P t v K
  | ts => (asTu v).bind fun l => castTs P ts l fun vs => K (.tuple vs.toArray)

/-- what the level below can do -/
structure Orc where
  call : FuncId → List Value → AH → Res
  loop : Nat → (Nat → Option (List Nat)) → Code → T Value → AH → (Ex → T Value → AH → Res) → Res
  code : Nat → (Nat → Option (List Nat)) → Code → T Value → AH → (Ex → T Value → AH → Res) → Res

def addrK (v : Value) (K : Addr → Res) : Res := match v with
  | .pointer p => p.bind K
  | _ => none

/-- what a slot has whose operation was not asked for -/
def skipV : Value := .tuple #[]
/-- does a guard let run? -/
def wantV (v : Value) (want : Bool) : Option Bool := match v with
  | .bool b => some (b == want)
  | .tuple _ => some false
  | _ => none
/-- keys of maps -/
def keyOk : TypeDesc → Value → Bool
  | .bool, .bool _ => true
  | .int k, .int k' _ => k' == k
  | .string, .string _ => true
  | _, _ => false
def keqB : Value → Value → Bool
  | .int k a, .int k' b => k == k' && decide (a = b)
  | .string a, .string b => seqB a b
  | .bool a, .bool b => a == b
  | _, _ => false
def afind (k : Value) : List MapEntry → Nat → Option (Nat × Value)
  | [], _ => none
  | e :: es, i => cond (keqB k e.key) (some (i, e.val)) (afind k es (i + 1))
def keysOk (d : TypeDesc) (es : List MapEntry) : Bool := es.all fun e => keyOk d e.key
def mapOf (h : AH) : Value → Option (List MapEntry)
  | .map none => some []
  | .map (some r) => match h.get r with
    | some (.map es _) => some es
    | _ => none
  | _ => none
/-- the types of a map's keys and elements -/
def mapTy (P : Program) (t : TypeId) : Option (TypeDesc × TypeId) := match P.underlying t with
  | some (.map k e) => (P.underlying k).bind fun d => some (d, e)
  | _ => none
def lookE (P : Program) (d : TypeDesc) (e : TypeId) (k : Value) (es : List MapEntry) : Option (Value × Bool) :=
  cond (keyOk d k && keysOk d es) (match afind k es 0 with
    | some p => some (p.2, true)
    | none => (zeroOf P e).bind fun z => some (z, false)) none
def putE (k v : Value) (es : List MapEntry) (clk : Nat) : List MapEntry × Nat := match afind k es 0 with
  | some p => (es.modify p.1 (fun e => { e with key := k, val := v }), clk)
  | none => (es ++ [{ key := k, val := v, born := clk }], clk + 1)
def delE (k : Value) (es : List MapEntry) : List MapEntry := match afind k es 0 with
  | some p => es.eraseIdx p.1
  | none => es
def aput (d : TypeDesc) (m k v : Value) (h : AH) : Option AH := match m with
  | .map (some r) => match h.get r with
    | some (.map es clk) => cond (keyOk d k && keysOk d es) (some (h.set r (some (.map (putE k v es clk).1 (putE k v es clk).2)))) none
    | _ => none
  | _ => none
def adel (d : TypeDesc) (m k : Value) (h : AH) : Option AH := match m with
  | .map none => cond (keyOk d k) (some h) none
  | .map (some r) => match h.get r with
    | some (.map es clk) => cond (keyOk d k && keysOk d es) (some (h.set r (some (.map (delE k es) clk)))) none
    | _ => none
  | _ => none
def intO : Option Value → Bool
  | none => true
  | some (.int _ _) => true
  | _ => false
def isMapT (P : Program) (t : TypeId) : Bool := match P.underlying t with
  | some (.map _ _) => true
  | _ => false

def veq1 : Value → Value → Bool
  | .bool a, .bool b => a == b
  | .int k a, .int k' b => (k == k') && decide (a = b)
  | .string a, .string b => seqB a b
  | .pointer a, .pointer b => decide (a = b)
  | .slice a n c, .slice b m d => decide (a = b) && Nat.beq n m && Nat.beq c d
  | .map a, .map b => decide (a = b)
  | .nilFunc, .nilFunc => true
  | .nilIface, .nilIface => true
  | _, _ => false
def veqL : List Value → List Value → Bool
  | [], [] => true
  | a :: l, b :: m => veq1 a b && veqL l m
  | _, _ => false
def veq2 : Value → Value → Bool
  | .agg a, .agg b => veqL a.toList b.toList
  | .iface t a, .iface u b => Nat.beq t u && veq1 a b
  | .func (.func f) a b, .func (.func g) c d => Nat.beq f g && veqL a.toList c.toList && veqL b.toList d.toList
  | a, b => veq1 a b
def veqL2 : List Value → List Value → Bool
  | [], [] => true
  | a :: l, b :: m => veq2 a b && veqL2 l m
  | _, _ => false
def veq : Value → Value → Bool
  | .tuple a, .tuple b => veqL2 a.toList b.toList
  | a, b => veq2 a b
def veqO : Option Value → Option Value → Bool
  | some a, some b => veq a b
  | none, none => true
  | _, _ => false


/-- are two results the same? -/
def veqs : List Value → List Value → Bool
  | [], [] => true
  | a :: l, b :: m => veq a b && veqs l m
  | _, _ => false
def eeqs : List MapEntry → List MapEntry → Bool
  | [], [] => true
  | a :: l, b :: m => veq a.key b.key && veq a.val b.val && Nat.beq a.born b.born && eeqs l m
  | _, _ => false
def beq2 : Blk → Blk → Bool
  | .cells c op ro e, .cells c' op' ro' e' => veqs c c' && (op == op') && (ro == ro') && Nat.beq e e'
  | .map es k, .map es' k' => eeqs es es' && Nat.beq k k'
  | _, _ => false
def beqO : Option Blk → Option Blk → Bool
  | none, none => true
  | some a, some b => beq2 a b
  | _, _ => false
def teq : T Blk → T Blk → Bool
  | .nil, .nil => true
  | .node v l r, .node v' l' r' => beqO v v' && teq l l' && teq r r'
  | _, _ => false
def resEq : Res → Res → Bool
  | some a, some b => veq a.1 b.1 && Nat.beq a.2.n b.2.n && teq a.2.t b.2.t
  | _, _ => false
open Classical in
/-- one result, whatever comes -/
noncomputable def allR : List Res → Res
  | [] => none
  | r :: rs => cond (rs.all (resEq r)) r (if ∀ x ∈ rs, x = r then r else none)
theorem allR_same {r : Res} {rs : List Res} (h : ∀ x ∈ rs, x = r) : allR (r :: rs) = r := by
  simp only [allR]
  cases rs.all (resEq r) with
  | true => rfl
  | false => rw [cond_false, if_pos h]
/-- functions of which a summary tells all outcomes -/
abbrev SumEv := FuncId → Option (List Value → AH → Option (List (Value × AH)))
def noSum : SumEv := fun _ => none

/-! going through a map -/
/-- a going-through begins -/
def rngE (m : Option Nat) (h : AH) : Option AH := match m with
  | none => some (h.push (.iter none 0 [] 0))
  | some r => match h.get r with
    | some (.map _ clk) => some (h.push (.iter (some r) clk [] clk))
    | _ => none
def rngX (u : Option TypeDesc) (v : Option Value) (h : AH) : Option AH := match u with
  | some (.map _ _) => match v with
    | some (.map m) => rngE m h
    | _ => none
  | _ => none
/-- its next round: none is left (the going-through is let go), or any of those that are left -/
def nxC (v : Value) (h : AH) : Option (AH × List (Value × Value × AH)) := match v with
  | .pointer (some ⟨b, 0, none⟩) => match h.get b with
    | some (.iter none _ _ _) => some (h.set b none, [])
    | some (.iter (some m) since seen last) => match h.get m with
      | some (.map es clk) => cond (!seen.isEmpty && !es.isEmpty && es.all (fun e => Nat.ble last e.born)) none
          (cond ((es.filter fun e => !seen.contains e.born).all (fun e => Nat.blt e.born since))
            (cond (es.filter fun e => !seen.contains e.born).isEmpty (some (h.set b none, []))
              (some (h, (es.filter fun e => !seen.contains e.born).map fun e => (e.key, e.val, h.set b (some (.iter (some m) since (seen ++ [e.born]) clk))))))
            none)
      | _ => none
    | _ => none
  | _ => none
/-- the round's key and value -/
def entC (v : Value) (h : AH) : Option (Value × Value) := match v with
  | .pointer (some ⟨b, 0, none⟩) => match h.get b with
    | some (.iter (some m) _ seen last) => match seen.getLast?, h.get m with
      | some st, some (.map es clk) => cond (Nat.beq clk last) ((es.find? fun e => e.born == st).bind fun e => some (e.key, e.val)) none
      | _, _ => none
    | _ => none
  | _ => none
noncomputable def nxK (x : Option (AH × List (Value × Value × AH))) (a : AH → Res) (b : Value → Value → AH → Res) : Res := match x with
  | none => none
  | some p => match p.2 with
    | [] => a p.1
    | q :: l => allR (b q.1 q.2.1 q.2.2 :: l.map fun q => b q.1 q.2.1 q.2.2)
/-- all goings-through are let go -/
def noItB : Option Blk → Option Blk
  | some (.iter _ _ _ _) => none
  | x => x
def T.noIt : T Blk → T Blk
  | .nil => .nil
  | .node v l r => .node (noItB v) l.noIt r.noIt
def AH.noIt (h : AH) : AH := ⟨h.n, h.t.noIt⟩
/-- what was made since is let go; what is left is laid anew, so that it tells nothing of how it came to be -/
def AH.cutR (h : AH) (N : Nat) : Nat → AH
  | 0 => ⟨N, .nil⟩
  | k + 1 => match h.get k with
    | some x => (AH.cutR h N k).set k (some x)
    | none => AH.cutR h N k
def AH.cut (n0 : Nat) (h : AH) : AH := AH.cutR h (cond (Nat.ble h.n (n0 + 256)) (n0 + 256) h.n) n0
/-- what a function's end does to memory: nothing; goings-through are let go; all that the function made is let go -/
def endOf (k : Option (List Nat)) (n : Nat) : Option (Option Nat) := match k with
  | none => none
  | some [] => some none
  | some (_ :: _) => some (some n)
def endH (k : Option (Option Nat)) (h : AH) : AH := match k with
  | none => h
  | some none => h.noIt
  | some (some n) => h.cut n
theorem T.get_noIt : ∀ (t : T Blk) (k : Nat), t.noIt.get k = noItB (t.get k)
  | .nil, k => rfl
  | .node v l r, k => by
    simp only [T.noIt, T.get]
    cases Nat.beq k 0 with
    | true => rfl
    | false =>
      cases Nat.beq (k % 2) 1 with
      | true => exact T.get_noIt l _
      | false => exact T.get_noIt r _
theorem AH.get_noIt (h : AH) (b : Nat) : h.noIt.get b = noItB (h.get b) := T.get_noIt _ _
theorem AH.cutR_n (h : AH) (N : Nat) : ∀ k, (AH.cutR h N k).n = N
  | 0 => rfl
  | k + 1 => by
    unfold AH.cutR
    split
    · exact AH.cutR_n h N k
    · exact AH.cutR_n h N k
theorem AH.cutR_get (h : AH) (N : Nat) : ∀ (k b : Nat), (AH.cutR h N k).get b = if b < k then h.get b else none
  | 0, b => by simp [AH.cutR, AH.get, T.get]
  | k + 1, b => by
    unfold AH.cutR
    split
    · rename_i x hx
      show (T.set _ k (some x)).get b = _
      rw [T.get_set]
      by_cases e : b = k
      · subst e; rw [if_pos rfl, if_pos (Nat.lt_succ_self _), hx]
      · rw [if_neg e]
        have := AH.cutR_get h N k b
        unfold AH.get at this ⊢
        rw [this]
        by_cases e2 : b < k
        · rw [if_pos e2, if_pos (by omega)]
        · rw [if_neg e2, if_neg (by omega)]
    · rename_i hx
      rw [AH.cutR_get h N k b]
      by_cases e : b = k
      · subst e; rw [if_neg (by omega), if_pos (Nat.lt_succ_self _), hx]
      · by_cases e2 : b < k
        · rw [if_pos e2, if_pos (by omega)]
        · rw [if_neg e2, if_neg (by omega)]
theorem AH.cut_get (n0 : Nat) (h : AH) (b : Nat) : (h.cut n0).get b = if b < n0 then h.get b else none := AH.cutR_get _ _ _ _
theorem AH.get_cut {n0 : Nat} {h : AH} {b : Nat} {x : Blk} (hg : (h.cut n0).get b = some x) : h.get b = some x := by
  rw [AH.cut_get] at hg
  split at hg
  · exact hg
  · cases hg
theorem AH.cut_nn (n0 : Nat) (h : AH) : (h.cut n0).n = cond (Nat.ble h.n (n0 + 256)) (n0 + 256) h.n := AH.cutR_n _ _ _
theorem AH.cut_n (n0 : Nat) (h : AH) : h.n ≤ (h.cut n0).n := by
  rw [AH.cut_nn]
  cases hc : Nat.ble h.n (n0 + 256) with
  | true => rw [cond_true]; exact Nat.le_of_ble_eq_true hc
  | false => rw [cond_false]; exact Nat.le_refl _
/-- what is the same below comes to the same -/
theorem AH.cut_congr {n0 : Nat} {h h' : AH} (hn : h.n ≤ n0 + 256) (hn' : h'.n ≤ n0 + 256) (hg : ∀ b, b < n0 → h.get b = h'.get b) : h.cut n0 = h'.cut n0 := by
  unfold AH.cut
  rw [Nat.ble_eq_true_of_le hn, Nat.ble_eq_true_of_le hn', cond_true]
  generalize n0 + 256 = N
  have : ∀ k, k ≤ n0 → AH.cutR h N k = AH.cutR h' N k := by
    intro k
    induction k with
    | zero => intro _; rfl
    | succ k ih =>
      intro hk
      unfold AH.cutR
      rw [hg k (by omega), ih (by omega)]
  exact this n0 (Nat.le_refl _)
end Go.Lg

namespace Go.Lg
open Go

/-- a function and the arguments ahead of and behind the call's own -/
def calleeOf (P : Program) (tm : T Value) : Callee → Option (FuncId × List Value × List Value)
  | .value (.func f) => some (f, [], [])
  | .value x => match opv tm x with
    | some (.func (.func f) first cap) => some (f, first.toList, cap.toList)
    | _ => none
  | .invoke r name => match opv tm r with
    | some (.iface t v) => (P.info? t).bind fun i =>
      match i.methods.toList.find? (·.name == name) with
      | some m => match m.path.toList, m.func, P.underlying t with
        | [], some (f, pr), some d => match d with
          | .pointer _ => cond pr (some (f, [v], [])) none
          | .interface _ => none
          | _ => cond pr none (some (f, [v], []))
        | _, _, _ => none
      | none => none
    | _ => none
  | .builtin _ => none

def fnQ (v : Value) : Option (FuncId × List Value × List Value) := match v with
  | .func (.func f) first cap => some (f, first.toList, cap.toList)
  | _ => none
def ifcQ (P : Program) (name : String) (v : Value) : Option (FuncId × List Value × List Value) := match v with
  | .iface t v => (P.info? t).bind fun i =>
      match i.methods.toList.find? (·.name == name) with
      | some m => match m.path.toList, m.func, P.underlying t with
        | [], some (f, pr), some d => match d with
          | .pointer _ => cond pr (some (f, [v], [])) none
          | .interface _ => none
          | _ => cond pr none (some (f, [v], []))
        | _, _, _ => none
      | none => none
  | _ => none
/-- the same, by what is known of the callee -/
def calleeX (P : Program) (tm : T Value) : Callee → Option (FuncId × List Value × List Value)
  | .value (.func f) => some (f, [], [])
  | .value x => (opv tm x).bind fnQ
  | .invoke r name => (opv tm r).bind (ifcQ P name)
  | .builtin _ => none
theorem calleeX_eq (P : Program) (tm : T Value) (cl : Callee) : calleeX P tm cl = calleeOf P tm cl := by
  cases cl with
  | builtin b => rfl
  | invoke r name =>
    simp only [calleeX, calleeOf]
    cases opv tm r with
    | none => rfl
    | some v => cases v <;> rfl
  | value x =>
    cases x with
    | func f => rfl
    | _ =>
      simp only [calleeX, calleeOf]
      generalize opv tm _ = o
      cases o with
      | none => rfl
      | some v =>
        cases v with
        | func fn a b => cases fn <;> rfl
        | _ => rfl

def hasBody (P : Program) (f : FuncId) : Bool := match P.funcs[f]? with
  | some fn => fn.body.isSome && !(fn.name == "runtime.NumGoroutine")
  | none => false

/-- functions of the library that may be taken by contracts (which say nothing of deferred calls) -/
def libNames : List String := ["strings.Index", "strings.Count", "strings.Join", "strings.IndexFunc", "strings.Compare", "strings.IndexByte", "strings.LastIndex", "strings.HasPrefix", "strings.HasSuffix", "strings.Contains", "sort.SliceIsSorted", "slices.Insert[[]ledgerstone/table.Entry,ledgerstone/table.Entry]", "slices.Insert[[]ledgerstone/api.Entry,ledgerstone/api.Entry]"]
def plainF (P : Program) (f : FuncId) : Bool := match P.funcs[f]? with
  | some fn => !libNames.any (fun n => fn.name == n)
  | none => false

/-- the result types of a function with a body -/
def resTypes (P : Program) (f : FuncId) : Option (List TypeId) := cond (hasBody P f) ((P.funcs[f]?).bind fun fn => some fn.resultTypes.toList) none

/-- clear of a slice -/
def clrE (z : List Value) (a : Option Addr) (n : Nat) (h : AH) : Option AH := match n with
  | 0 => some h
  | n + 1 => match a with
    | some a => h.st a.block a.off (repL z (n + 1))
    | none => none
def evBuiltin (P : Program) (tm : T Value) (b : Builtin) (ats : List TypeId) (as : List Operand) (h : AH) (K : Value → AH → Res) : Res :=
  match b, ats, as with
  | .append, [t, tx], [s, x] => match opv tm s, opv tm x with
    | some s, some x => (aapp P t tx s x h).bind fun r => castCK .slice r.1 fun v => K v r.2
    | _, _ => none
  | .len, [t], [x] => match P.underlying t, opv tm x with
    | some .string, some (.string s) => K (.int .i64 s.data.toList.length) h
    | some (.slice _), some (.slice _ n _) => K (.int .i64 n) h
    | some (.map _ _), some (.map m) => (mapOf h (.map m)).bind fun es => K (.int .i64 es.length) h
    | _, _ => none
  | .min, _, [x, y] => match opv tm x, opv tm y with
    | some (.int k a), some (.int _ b) => K (.int k (cond (decide (b < a)) b a)) h
    | _, _ => none
  | .max, _, [x, y] => match opv tm x, opv tm y with
    | some (.int k a), some (.int _ b) => K (.int k (cond (decide (a < b)) b a)) h
    | _, _ => none
  | .delete, [t, _], [m, k] => (opv tm m).bind fun m => (opv tm k).bind fun k => (mapTy P t).bind fun ty => (adel ty.1 m k h).bind fun h => K (.tuple #[]) h
  | .clear, [t], [x] => match P.underlying t, opv tm x with
    | some (.slice e), some (.slice a n _) => (zeroCellsOf P e).bind fun z => (clrE z a n h).bind fun h => K (.tuple #[]) h
    | _, _ => none
  | _, _, _ => none

/-- one operation; what it yields may be nothing (none: the slot is not to be read) -/
def evOp (P : Program) (O : Orc) (tm : T Value) (op : Op) (h : AH) (K : Option Value → AH → Res) : Res :=
  match op with
  | .move x | .assign x => (opv tm x).bind fun v => K (some v) h
  | .pick c a b => match opv tm c with
    | some (.bool t) => cond t ((opv tm a).bind fun v => K (some v) h) ((opv tm b).bind fun v => K (some v) h)
    | _ => none
  | .alloc e => (zeroCellsOf P e).bind fun z => K (some (.pointer (some ⟨h.n, 0, none⟩))) (h.push (.cells z false false z.length))
  | .box _ x => (opv tm x).bind fun v => cond (v.cells.toList.all cellOk) (K (some (.pointer (some ⟨h.n, 0, none⟩))) (h.push (.cells v.cells.toList false false v.cells.toList.length))) none
  | .build t ps => (zeroCellsOf P t).bind fun z => (opParts tm ps.toList).bind fun vs => (placeOf P t).bind fun pl => (fillL pl z vs).bind fun cs => K (some (.agg cs.toArray)) h
  | .buildSlice t n ps => match P.underlying t with
    | some (.slice e) => (sizeT P e).bind fun sz => (zeroCellsOf P e).bind fun z => (opParts tm ps.toList).bind fun vs =>
      cond (Nat.beq z.length sz && Nat.ble (n * sz) 65536 && Nat.blt n opn) ((fillL (fun i => some (i * sz, sz)) (repL z n) vs).bind fun cs => cond (cs.all cellOk) (K (some (.slice (some ⟨h.n, 0, none⟩) n n)) (h.push (.cells cs false false sz))) none) none
    | _ => none
  | .load t a => (opv tm a).bind fun a => addrK a fun a => ldT P h t a.block a.off fun v => K (some v) h
  | .store t a x => (opv tm a).bind fun a => addrK a fun a => (opv tm x).bind fun v => (sizeT P t).bind fun n =>
      cond (Nat.beq v.cells.toList.length n && v.cells.toList.all cellOk) ((h.st a.block a.off v.cells.toList).bind fun h => K none h) none
  | .nilCheck x => (opv tm x).bind fun v => match v with
    | .pointer p => p.bind fun a => K (some (.pointer (some a))) h
    | _ => none
  | .binOp op t x y _ => (opv tm x).bind fun a => (opv tm y).bind fun b => cond (binOk op a b) ((abinT P op t (isC x || isC y) a b).bind fun v => K (some v) h) none
  | .unOp op _ x => (opv tm x).bind fun a => (aun op a).bind fun v => K (some v) h
  | .convert s d x => match P.underlying s, P.underlying d, opv tm x with
    | some _, some (.int k), some (.int _ n) => K (some (.int k (k.wrap n))) h
    | some _, some (.string), some (.string s) => K (some (.string s)) h
    | _, _, _ => none
  | .makeInterface t x => match P.underlying t, opv tm x with
    | some d, some v => match d with
      | .interface _ => none
      | _ => K (some (.iface t v)) h
    | _, _ => none
  | .makeFunc fn first cap => match fn with
    | .func f => (opvs tm first.toList).bind fun vs => (opvs tm cap.toList).bind fun ws => K (some (.func (.func f) vs.toArray ws.toArray)) h
    | _ => none
  | .makeSlice t l c => match P.underlying t, opv tm l, opv tm c with
    | some (.slice e), some (.int .i64 l), some (.int .i64 c) => (P.info? e).bind fun i => (zeroCellsOf P e).bind fun z =>
      cond (decide (0 ≤ l) && decide (l ≤ c) && decide (c * i.bytes ≤ 281474976710656) && decide (c ≤ 281474976710656))
        (K (some (.slice (some ⟨h.n, 0, none⟩) l.toNat c.toNat)) (h.push (.cells (repL z c.toNat) false false i.size))) none
    | _, _, _ => none
  | .slice t x lo hi mx => (opv tm x).bind fun x => (optv tm lo).bind fun lo => (optv tm hi).bind fun hi => (optv tm mx).bind fun mx => (aslice P t x lo hi mx h).bind fun r => castCK (ckOf x) r.1 fun v => K (some v) h
  | .fieldAddr t x f => (opv tm x).bind fun x => addrK x fun a => (fieldOf P t f).bind fun fd => (sizeT P fd.type).bind fun n =>
      cond (Nat.beq n 0) none (K (some (.pointer (some ⟨a.block, a.off + fd.offset, none⟩))) h)
  | .field t x f => (opv tm x).bind fun x => match x with
    | .agg cs => (fieldOf P t f).bind fun fd => (apart P fd.type cs.toList fd.offset).bind fun v => K (some v) h
    | _ => none
  | .indexAddr t x i => match P.underlying t, opv tm x, opv tm i with
    | some (.array len e), some (.pointer p), some (.int _ i) => p.bind fun a => (sizeT P e).bind fun sz =>
        cond (inB i len) (K (some (.pointer (some ⟨a.block, a.off + i.toNat * sz, none⟩))) h) none
    | some (.slice e), some (.slice p len _), some (.int _ i) => p.bind fun a => (sizeT P e).bind fun sz =>
        cond (inB i len) (K (some (.pointer (some ⟨a.block, a.off + i.toNat * sz, none⟩))) h) none
    | _, _, _ => none
  | .index t x i => match P.underlying t, opv tm x, opv tm i with
    | some (.array len e), some (.agg cs), some (.int _ i) => (sizeT P e).bind fun sz => cond (inB i len) ((apart P e cs.toList (i.toNat * sz)).bind fun v => castT P e v fun v => K (some v) h) none
    | some (.string), some (.string s), some (.int _ i) => cond (decide (0 ≤ i)) ((s.data.toList[i.toNat]?).bind fun b => K (some (.int .u8 b.toNat)) h) none
    | _, _, _ => none
  | .extract x i => match opv tm x with
    | some (.tuple vs) => (vs.toList[i]?).bind fun v => K (some v) h
    | _ => none
  | .makeMap t r => (optv tm r).bind fun v => cond (intO v && isMapT P t) (K (some (.map (some h.n))) (h.push (.map [] 0))) none
  | .range t x => (rngX (P.underlying t) (opv tm x) h).bind fun h' => K (some (.pointer (some ⟨h.n, 0, none⟩))) h'
  | .entry x => (opv tm x).bind fun v => (entC v h).bind fun p => K (some (.tuple #[p.1, p.2])) h
  | .lookup t x i ok => (opv tm x).bind fun x => (opv tm i).bind fun k => (mapTy P t).bind fun ty => (mapOf h x).bind fun es => (lookE P ty.1 ty.2 k es).bind fun p => castT P ty.2 p.1 fun v => K (some (cond ok (.tuple #[v, .bool p.2]) v)) h
  | .mapUpdate t m k x => (opv tm m).bind fun m => (opv tm k).bind fun k => (opv tm x).bind fun v => (mapTy P t).bind fun ty => (aput ty.1 m k v h).bind fun h => K none h
  | .call c => match c.callee with
    | .builtin b => evBuiltin P tm b c.argTypes.toList c.args.toList h fun v h => K (some v) h
    | cl => (calleeX P tm cl).bind fun f => (opvs tm c.args.toList).bind fun vs => cond (hasBody P f.1) ((O.call f.1 (f.2.1 ++ vs ++ f.2.2) h).bind fun r => K (some r.1) r.2) none
  | _ => none

/-- is the type's value many cells? -/
def aggT (P : Program) (t : TypeId) : Bool := match kindsOf P t with
  | some (false, _) => false
  | _ => true
def cellsX (ag : Bool) (v : Value) : List Value := cond ag v.cells.toList [v]
def okX (ag : Bool) (v : Value) : Bool := cond ag true (cellOk v)
def fillX (pl : Nat → Option (Nat × Nat × Bool)) : List Value → List (Nat × Value) → Option (List Value)
  | cs, [] => some cs
  | cs, (i, v) :: rest => (pl i).bind fun p =>
      cond (okX p.2.2 v && (Nat.beq (cellsX p.2.2 v).length p.2.1 && Nat.ble (p.1 + (cellsX p.2.2 v).length) cs.length)) (fillX pl (AH.setL cs p.1 (cellsX p.2.2 v)) rest) none
def fillK (pl : Nat → Option (Nat × Nat × Bool)) : List Value → List (Nat × Value) → (List Value → Res) → Res
  | cs, [], K => K cs
  | cs, (i, v) :: rest, K => (pl i).bind fun p =>
      cond (okX p.2.2 v && (Nat.beq (cellsX p.2.2 v).length p.2.1 && Nat.ble (p.1 + (cellsX p.2.2 v).length) cs.length)) (fillK pl (AH.setL cs p.1 (cellsX p.2.2 v)) rest K) none
theorem fillK_eq (pl : Nat → Option (Nat × Nat × Bool)) (K : List Value → Res) : ∀ (ps : List (Nat × Value)) (cs : List Value), fillK pl cs ps K = (fillX pl cs ps).bind K
  | [], _ => rfl
  | (i, v) :: rest, cs => by
    simp only [fillK, fillX]
    cases pl i with
    | none => rfl
    | some p =>
      simp only [Option.bind_some]
      cases (okX p.2.2 v && (Nat.beq (cellsX p.2.2 v).length p.2.1 && Nat.ble (p.1 + (cellsX p.2.2 v).length) cs.length)) with
      | false => rfl
      | true => exact fillK_eq pl K rest _
def placesX (P : Program) : List Field → Option (List (Nat × Nat × Bool))
  | [] => some []
  | f :: fs => (sizeT P f.type).bind fun n => (placesX P fs).bind fun l => some ((f.offset, n, aggT P f.type) :: l)
def placeX (P : Program) (t : TypeId) : Option (Nat → Option (Nat × Nat × Bool)) := match P.underlying t with
  | some (.struct fs) => (placesX P fs.toList).bind fun l => some fun i => l[i]?
  | some (.array _ e) => (sizeT P e).bind fun n => some fun i => some (i * n, n, aggT P e)
  | _ => none
/-- a comparison with nil of an interface's or a function's type -/
def nilT (P : Program) (op : BinOp) (t : TypeId) (y : Value) : Option (Bool × Bool) := match op, y with
  | .eql, .nilIface => match P.underlying t with
    | some (.interface _) => some (false, true)
    | _ => none
  | .neq, .nilIface => match P.underlying t with
    | some (.interface _) => some (false, false)
    | _ => none
  | .eql, .nilFunc => match P.underlying t with
    | some (.func _ _ _) => some (true, true)
    | _ => none
  | .neq, .nilFunc => match P.underlying t with
    | some (.func _ _ _) => some (true, false)
    | _ => none
  | _, _ => none
def isNilI (c : Bool) (v : Value) : Option Bool := match v with
  | .nilIface => cond c (some true) none
  | .iface _ _ => some false
  | _ => none
def isNilG (v : Value) : Option Bool := match v with
  | .nilFunc => some true
  | .func _ _ _ => some false
  | _ => none
/-- the types of a call's results -/
def tysOf (P : Program) (t : TypeId) : List TypeId := match P.underlying t with
  | some (.tuple ts) => ts.toList
  | _ => [t]
def binX (P : Program) (op : BinOp) (t : TypeId) (c : Bool) (a b : Value) (K : Value → Res) : Res := match nilT P op t b with
  | some e => (cond e.1 (isNilG a) (isNilI c a)).bind fun q => K (.bool (cond e.2 q (!q)))
  | none => cond (binOk op a b) ((abinT P op t c a b).bind K) none
/-- a value by its kind, where the kind is known -/
def castX (P : Program) (t : TypeId) (v : Value) (K : Value → Res) : Res := match kindsOf P t with
  | some (true, cs) => (asAg v).bind fun l => castN cs l fun vs => K (.agg vs.toArray)
  | some (false, [c]) => castCK c v K
  | _ => K v
/-- one operation, by the types: so that a value of which only the kind is known goes through -/
def evOpX (P : Program) (O : Orc) (tm : T Value) (ty : TypeId) (op : Op) (h : AH) (K : Option Value → AH → Res) : Res :=
  match op with
  | .box e x => (opv tm x).bind fun v => cond (okX (aggT P e) v && (cellsX (aggT P e) v).all cellOk) (K (some (.pointer (some ⟨h.n, 0, none⟩))) (h.push (.cells (cellsX (aggT P e) v) false false (cellsX (aggT P e) v).length))) none
  | .build t ps => (zeroCellsOf P t).bind fun z => (opParts tm ps.toList).bind fun vs => (placeX P t).bind fun pl => fillK pl z vs fun cs => K (some (.agg cs.toArray)) h
  | .buildSlice t n ps => match P.underlying t with
    | some (.slice e) => (sizeT P e).bind fun sz => (zeroCellsOf P e).bind fun z => (opParts tm ps.toList).bind fun vs =>
      cond (Nat.beq z.length sz && Nat.ble (n * sz) 65536 && Nat.blt n opn) (fillK (fun i => some (i * sz, sz, aggT P e)) (repL z n) vs fun cs => cond (cs.all cellOk) (K (some (.slice (some ⟨h.n, 0, none⟩) n n)) (h.push (.cells cs false false sz))) none) none
    | _ => none
  | .store t a x => (opv tm a).bind fun a => addrK a fun a => (opv tm x).bind fun v => (sizeT P t).bind fun n =>
      cond (okX (aggT P t) v && (Nat.beq (cellsX (aggT P t) v).length n && (cellsX (aggT P t) v).all cellOk)) ((h.st a.block a.off (cellsX (aggT P t) v)).bind fun h => K none h) none
  | .binOp op t x y _ => (opv tm x).bind fun a => (opv tm y).bind fun b => binX P op t (isC x || isC y) a b fun v => K (some v) h
  | .call c => match c.callee with
    | .builtin _ => evOp P O tm op h K
    | cl => (calleeX P tm cl).bind fun f => (opvs tm c.args.toList).bind fun vs => cond (hasBody P f.1) ((O.call f.1 (f.2.1 ++ vs ++ f.2.2) h).bind fun r => castR P (tysOf P ty) r.1 fun v => K (some v) r.2) none
  | .extract x i => match opv tm x with
    | some (.tuple vs) => (vs.toList[i]?).bind fun v => castX P ty v fun v => K (some v) h
    | _ => none
  | op => evOp P O tm op h K

/-- the slot that an operation writes -/
def put (nt : Nat) (tm : T Value) (dst : Option Tmp) (v : Option Value) (K : T Value → Res) : Res := match dst with
  | none => K tm
  | some d => cond (Nat.blt d nt) (K (tm.set d v)) none

/-- the operations of a region, in the text's order -/
def evOps (P : Program) (O : Orc) (nt : Nat) (ops : List Oper) : List Oper → T Value → AH → (T Value → AH → Res) → Res
  | [], tm, h, K => K tm h
  | o :: rest, tm, h, K =>
    match o.guard with
    | none => evOpX P O tm o.type o.op h fun v h => put nt tm o.dst v fun tm => evOps P O nt ops rest tm h K
    | some (j, want) => match (ops[j]?).bind (·.dst) with
      | none => none
      | some d => match tm.get d with
        | some (.bool b) =>
          cond b
            (cond want (evOpX P O (tm.set d (some (.bool true))) o.type o.op h fun v h => put nt (tm.set d (some (.bool true))) o.dst v fun tm => evOps P O nt ops rest tm h K)
              (put nt (tm.set d (some (.bool true))) o.dst (some skipV) fun tm => evOps P O nt ops rest tm h K))
            (cond want (put nt (tm.set d (some (.bool false))) o.dst (some skipV) fun tm => evOps P O nt ops rest tm h K)
              (evOpX P O (tm.set d (some (.bool false))) o.type o.op h fun v h => put nt (tm.set d (some (.bool false))) o.dst v fun tm => evOps P O nt ops rest tm h K))
        | some (.tuple _) => put nt tm o.dst (some skipV) fun tm => evOps P O nt ops rest tm h K
        | _ => none

def sumAt (P : Program) (S : SumEv) (tm : T Value) (o : Oper) (h : AH) : Option (List (Value × AH)) := match o.guard, o.op with
  | none, .call c => match c.callee with
    | .value (.func f) => (resTypes P f).bind fun _ => (S f).bind fun g => (opvs tm c.args.toList).bind fun vs => g vs h
    | _ => none
  | _, _ => none
def sumTs (P : Program) (o : Oper) : List TypeId := match o.op with
  | .call c => match c.callee with
    | .value (.func f) => (resTypes P f).getD []
    | _ => []
  | _ => []
def sumK (x : Option (List (Value × AH))) (a : List (Value × AH) → Res) (b : Res) : Res := match x with
  | some l => a l
  | none => b
/-- is it the next round of a going-through? -/
def nextAt (tm : T Value) (o : Oper) : Option (Option Value) := match o.guard, o.op with
  | none, .next x false => some (opv tm x)
  | _, _ => none
/-- bytes as a text -/
def bytesOf : List Value → Option (List UInt8)
  | [] => some []
  | .int .u8 n :: vs => (bytesOf vs).bind fun l => some (UInt8.ofNat n.toNat :: l)
  | _ :: _ => none
def convAt (P : Program) (tm : T Value) (o : Oper) (h : AH) : Option ByteArray := match o.guard, o.op with
  | none, .convert s d x => match P.underlying s, P.underlying d, opv tm x with
    | some (.slice e), some (.string), some (.slice a n _) => match P.underlying e with
      | some (.int .u8) => match a with
        | none => some ⟨#[]⟩
        | some ⟨b, o, none⟩ => (ldRow h b o n).bind fun row => (bytesOf row).bind fun l => some ⟨l.toArray⟩
        | _ => none
      | _ => none
    | _, _, _ => none
  | _, _ => none
def convK (x : Option ByteArray) (a : ByteArray → Res) (b : Res) : Res := match x with
  | some s => a s
  | none => b
/-- the operations of a region, with summaries -/
noncomputable def evOpsS (P : Program) (S : SumEv) (O : Orc) (nt : Nat) (ops : List Oper) : List Oper → T Value → AH → (T Value → AH → Res) → Res
  | [], tm, h, K => K tm h
  | o :: rest, tm, h, K => match nextAt tm o with
    | some v => v.bind fun v => nxK (nxC v h) (fun h => put nt tm o.dst (some (.tuple #[.bool false])) fun tm => evOpsS P S O nt ops rest tm h K)
        (fun k v h => put nt tm o.dst (some (.tuple #[.bool true, k, v])) fun tm => evOpsS P S O nt ops rest tm h K)
    | none => convK (convAt P tm o h) (fun s => put nt tm o.dst (some (.string s)) fun tm => evOpsS P S O nt ops rest tm h K)
      (sumK (sumAt P S tm o h) (fun l => allR (l.map fun q => castR P (sumTs P o) q.1 fun v => put nt tm o.dst (some v) fun tm => evOpsS P S O nt ops rest tm q.2 K))
      (evOps P O nt ops [o] tm h fun tm h => evOpsS P S O nt ops rest tm h K))

def scrub (tm : T Value) : List Nat → T Value
  | [] => .nil
  | k :: ks => (scrub tm ks).set k (tm.get k)
def scrubO (tm : T Value) : Option (List Nat) → T Value
  | none => tm
  | some ks => scrub tm ks
def firstRegion : Code → Nat
  | .region id _ _ => id
  | .seq a b => cond (Nat.beq (firstRegion a) 0) (firstRegion b) (firstRegion a)
  | .cond _ a b => cond (Nat.beq (firstRegion a) 0) (firstRegion b) (firstRegion a)
  | .block _ b => firstRegion b
  | .scope b => firstRegion b
  | .loop b => firstRegion b
  | _ => 0

/-- a region that draws its order: its evaluator is handed in -/
abbrev DrawEv := Orc → Nat → Array Oper → T Value → AH → (T Value → AH → Res) → Res

/-- continuations, by name -/
def seqK (k : T Value → AH → Res) (K : Ex → T Value → AH → Res) : Ex → T Value → AH → Res := fun e tm h => match e with
  | .normal => k tm h
  | e => K e tm h
def blkK (id : Nat) (K : Ex → T Value → AH → Res) : Ex → T Value → AH → Res := fun e tm h => match e with
  | .exit i => cond (Nat.beq i id) (K .normal tm h) (K (.exit i) tm h)
  | e => K e tm h
def scrK (ks : Option (List Nat)) (K : Ex → T Value → AH → Res) : Ex → T Value → AH → Res := fun e tm h => K e (scrubO tm ks) h
def loopK (k : T Value → AH → Res) (K : Ex → T Value → AH → Res) : Ex → T Value → AH → Res := fun e tm h => match e with
  | .normal => k tm h
  | e => K e tm h

/-- a region that ends with a deferred call of a function value -/
def splitD : List Oper → Option (List Oper × Tmp)
  | [] => none
  | o :: rest => match rest with
    | [] => match o.dst, o.op, o.guard with
      | none, .defer c, none => match c.callee, c.args.toList with
        | .value (.tmp x), [] => some ([], x)
        | _, _ => none
      | _, _, _ => none
    | _ :: _ => (splitD rest).bind fun p => some (o :: p.1, p.2)
def deferOf : Code → Option (List Oper × List Oper × Tmp)
  | .region _ ops draw => cond draw none ((splitD ops.toList).bind fun p => some (ops.toList, p.1, p.2))
  | _ => none
/-- the deferred call runs at the function's end -/
def defK (f : AH → Res) (K : Ex → T Value → AH → Res) : Ex → T Value → AH → Res := fun e tm h => match e with
  | .ret => (f h).bind fun r => K .ret tm r.2
  | _ => none

def isRegion : Code → Bool
  | .region _ _ _ => true
  | _ => false

noncomputable def evC (P : Program) (D : DrawEv) (S : SumEv) (O : Orc) (nt : Nat) (keep : Nat → Option (List Nat)) : Code → T Value → AH → (Ex → T Value → AH → Res) → Res
  | .skip, tm, h, K => K .normal tm h
  | .region _ ops draw, tm, h, K => cond draw (D O nt ops tm h fun tm h => K .normal tm h) (evOpsS P S O nt ops.toList ops.toList tm h fun tm h => K .normal tm h)
  | .seq a b, tm, h, K => match deferOf a with
    | none => cond (isRegion a && (keep (3 * firstRegion b + 2)).isNone) (evC P D S O nt keep a tm h (seqK (fun tm h => evC P D S O nt keep b (scrubO tm (keep (3 * firstRegion b + 2))) h K) K))
        (evC P D S O nt keep a tm h (seqK (fun tm h => O.code nt keep b (scrubO tm (keep (3 * firstRegion b + 2))) h K) K))
    | some p => evOpsS P S O nt p.1 p.2.1 tm h fun tm h => match tm.get p.2.2 with
      | some (.func (.func f) first cap) => cond (plainF P f) (cond (hasBody P f) (evC P D S O nt keep b tm h (defK (O.call f (first.toList ++ cap.toList)) K)) none) none
      | _ => none
  | .cond c a b, tm, h, K => match opv tm c with
    | some (.bool t) => cond t (evC P D S O nt keep a tm h K) (evC P D S O nt keep b tm h K)
    | _ => none
  | .block id b, tm, h, K => evC P D S O nt keep b tm h (blkK id K)
  | .loop b, tm, h, K => O.loop nt keep b (scrubO tm (keep (3 * firstRegion b))) h (scrK (keep (3 * firstRegion b + 1)) K)
  | .exit id, tm, h, K => K (.exit id) tm h
  | .label _, tm, h, K => K .normal tm h
  | .ret, tm, h, K => K .ret tm h
  | _, _, _, _ => none

def resv (P : Program) (tm : T Value) (h : AH) : List ResultVar → (List Value → Res) → Res
  | [], K => K []
  | .tmp t :: rs, K => (tm.get t).bind fun v => resv P tm h rs fun vs => K (v :: vs)
  | .cell a t :: rs, K => (tm.get a).bind fun a => addrK a fun a => ldT P h t a.block a.off fun v => resv P tm h rs fun vs => K (v :: vs)

def one : List Value → Value
  | [v] => v
  | vs => .tuple vs.toArray

def argsT : List Value → Nat → T Value
  | [], _ => .nil
  | v :: vs, i => (argsT vs (i + 1)).set i (some v)

/-- what a function hands back at its end -/
def endK (P : Program) (kp : Option (Option Nat)) (rs : List ResultVar) : Ex → T Value → AH → Res := fun e tm h => match e with
  | .exit _ => none
  | _ => resv P tm h rs fun vs => some (one vs, endH kp h)

noncomputable def callF (P : Program) (D : DrawEv) (S : SumEv) (O : Orc) (keep : Nat → Nat → Option (List Nat)) (f : FuncId) (args : List Value) (h : AH) : Res :=
  match P.funcs[f]? with
  | none => none
  | some fn => match fn.body with
    | none => none
    | some c => cond (Nat.ble args.length fn.ntmps) (evC P D S O fn.ntmps (keep f) c (argsT args 0) h (endK P (endOf (keep f 1000000) h.n) fn.results.toList)) none

/-- answers that are known ahead -/
abbrev Over := FuncId → List Value → AH → Res
def noOv : Over := fun _ _ _ => none
def orR (x y : Res) : Res := match x with
  | some r => some r
  | none => y
/-- the evaluator: n bounds the depth of calls and the rounds of loops -/
noncomputable def ev (P : Program) (D : DrawEv) (S : SumEv) (ov : Over) (keep : Nat → Nat → Option (List Nat)) : Nat → Orc
  | 0 => { call := fun _ _ _ => none, loop := fun _ _ _ _ _ _ => none, code := fun _ _ _ _ _ _ => none }
  | n + 1 =>
    { call := fun f args h => orR (ov f args h) (callF P D S (ev P D S ov keep n) keep f args h)
      loop := fun nt kp b tm h K => evC P D S (ev P D S ov keep n) nt kp b tm h (loopK (fun tm h => (ev P D S ov keep n).loop nt kp b (scrubO tm (kp (3 * firstRegion b))) h K) K)
      code := fun nt kp c tm h K => evC P D S (ev P D S ov keep n) nt kp c tm h K }
/-- a piece of a function's code, by its place -/
def subC : List Nat → Code → Code
  | [], c => c
  | k :: ks, .seq a b => cond (Nat.beq k 0) (subC ks a) (subC ks b)
  | k :: ks, .cond _ a b => cond (Nat.beq k 0) (subC ks a) (subC ks b)
  | _ :: ks, .block _ b => subC ks b
  | _ :: ks, .loop b => subC ks b
  | _ :: ks, .scope b => subC ks b
  | _, c => c
def codeAt (P : Program) (f : FuncId) (ks : List Nat) : Code := match (P.funcs[f]?).bind (·.body) with
  | some c => subC ks c
  | none => .skip
def resOf (P : Program) (f : FuncId) : List ResultVar := match P.funcs[f]? with
  | some fn => fn.results.toList
  | none => []
/-- a table of what is kept, by function and place -/
def assocN {α : Type} (k : Nat) : List (Nat × α) → Option α
  | [] => none
  | (j, x) :: l => cond (Nat.beq k j) (some x) (assocN k l)
def keepOf (tab : List (Nat × List (Nat × List Nat))) (f k : Nat) : Option (List Nat) := (assocN f tab).bind (assocN k)
end Go.Lg
