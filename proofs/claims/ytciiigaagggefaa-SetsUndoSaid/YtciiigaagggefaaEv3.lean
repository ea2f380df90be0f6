/- A deterministic evaluator over an abstract memory. Part 3: operations, code, calls. -/
import Derived.Test.YtciiigaagggefaaEv2
namespace Go.Lg
open Go

/-- a function and the arguments ahead of and behind the call's own -/
def calleeOf (P : Program) (tm : T Value) : Callee → Option (FuncId × List Value × List Value)
  | .value (.func f) => some (f, [], [])
  | .value x => match opv tm x with
    | some (.func (.func f) first cap) => some (f, first.toList, cap.toList)
    | _ => none
  | .invoke r name => match opv tm r with
    | some (.iface t v) => (P.info? t).bind fun i =>
      match i.methods.toList.find? (·.name == name) with
      | some m => match m.path.toList, m.func, P.underlying t with
        | [], some (f, pr), some d => match d with
          | .pointer _ => cond pr (some (f, [v], [])) none
          | .interface _ => none
          | _ => cond pr none (some (f, [v], []))
        | _, _, _ => none
      | none => none
    | _ => none
  | .builtin _ => none

def fnQ (v : Value) : Option (FuncId × List Value × List Value) := match v with
  | .func (.func f) first cap => some (f, first.toList, cap.toList)
  | _ => none
def ifcQ (P : Program) (name : String) (v : Value) : Option (FuncId × List Value × List Value) := match v with
  | .iface t v => (P.info? t).bind fun i =>
      match i.methods.toList.find? (·.name == name) with
      | some m => match m.path.toList, m.func, P.underlying t with
        | [], some (f, pr), some d => match d with
          | .pointer _ => cond pr (some (f, [v], [])) none
          | .interface _ => none
          | _ => cond pr none (some (f, [v], []))
        | _, _, _ => none
      | none => none
  | _ => none
/-- the same, by what is known of the callee -/
def calleeX (P : Program) (tm : T Value) : Callee → Option (FuncId × List Value × List Value)
  | .value (.func f) => some (f, [], [])
  | .value x => (opv tm x).bind fnQ
  | .invoke r name => (opv tm r).bind (ifcQ P name)
  | .builtin _ => none
theorem calleeX_eq (P : Program) (tm : T Value) (cl : Callee) : calleeX P tm cl = calleeOf P tm cl := by
  cases cl with
  | builtin b => rfl
  | invoke r name =>
    simp only [calleeX, calleeOf]
    cases opv tm r with
    | none => rfl
    | some v => cases v <;> rfl
  | value x =>
    cases x with
    | func f => rfl
    | _ =>
      simp only [calleeX, calleeOf]
      generalize opv tm _ = o
      cases o with
      | none => rfl
      | some v =>
        cases v with
        | func fn a b => cases fn <;> rfl
        | _ => rfl

def hasBody (P : Program) (f : FuncId) : Bool := match P.funcs[f]? with
  | some fn => fn.body.isSome && !(fn.name == "runtime.NumGoroutine")
  | none => false

/-- the result types of a function with a body -/
def resTypes (P : Program) (f : FuncId) : Option (List TypeId) := cond (hasBody P f) ((P.funcs[f]?).bind fun fn => some fn.resultTypes.toList) none

/-- clear of a slice -/
def clrE (z : List Value) (a : Option Addr) (n : Nat) (h : AH) : Option AH := match n with
  | 0 => some h
  | n + 1 => match a with
    | some a => h.st a.block a.off (repL z (n + 1))
    | none => none
def evBuiltin (P : Program) (tm : T Value) (b : Builtin) (ats : List TypeId) (as : List Operand) (h : AH) (K : Value → AH → Res) : Res :=
  match b, ats, as with
  | .append, [t, tx], [s, x] => match opv tm s, opv tm x with
    | some s, some x => (aapp P t tx s x h).bind fun r => castCK .slice r.1 fun v => K v r.2
    | _, _ => none
  | .len, [t], [x] => match P.underlying t, opv tm x with
    | some .string, some (.string s) => K (.int .i64 s.data.toList.length) h
    | some (.slice _), some (.slice _ n _) => K (.int .i64 n) h
    | some (.map _ _), some (.map m) => (mapOf h (.map m)).bind fun es => K (.int .i64 es.length) h
    | _, _ => none
  | .min, _, [x, y] => match opv tm x, opv tm y with
    | some (.int k a), some (.int _ b) => K (.int k (cond (decide (b < a)) b a)) h
    | _, _ => none
  | .max, _, [x, y] => match opv tm x, opv tm y with
    | some (.int k a), some (.int _ b) => K (.int k (cond (decide (a < b)) b a)) h
    | _, _ => none
  | .delete, [t, _], [m, k] => (opv tm m).bind fun m => (opv tm k).bind fun k => (mapTy P t).bind fun ty => (adel ty.1 m k h).bind fun h => K (.tuple #[]) h
  | .clear, [t], [x] => match P.underlying t, opv tm x with
    | some (.slice e), some (.slice a n _) => (zeroCellsOf P e).bind fun z => (clrE z a n h).bind fun h => K (.tuple #[]) h
    | _, _ => none
  | _, _, _ => none

/-- one operation; what it yields may be nothing (none: the slot is not to be read) -/
def evOp (P : Program) (O : Orc) (tm : T Value) (op : Op) (h : AH) (K : Option Value → AH → Res) : Res :=
  match op with
  | .move x | .assign x => (opv tm x).bind fun v => K (some v) h
  | .pick c a b => match opv tm c with
    | some (.bool t) => cond t ((opv tm a).bind fun v => K (some v) h) ((opv tm b).bind fun v => K (some v) h)
    | _ => none
  | .alloc e => (zeroCellsOf P e).bind fun z => K (some (.pointer (some ⟨h.n, 0, none⟩))) (h.push (.cells z false false z.length))
  | .box _ x => (opv tm x).bind fun v => cond (v.cells.toList.all cellOk) (K (some (.pointer (some ⟨h.n, 0, none⟩))) (h.push (.cells v.cells.toList false false v.cells.toList.length))) none
  | .build t ps => (zeroCellsOf P t).bind fun z => (opParts tm ps.toList).bind fun vs => (placeOf P t).bind fun pl => (fillL pl z vs).bind fun cs => K (some (.agg cs.toArray)) h
  | .buildSlice t n ps => match P.underlying t with
    | some (.slice e) => (sizeT P e).bind fun sz => (zeroCellsOf P e).bind fun z => (opParts tm ps.toList).bind fun vs =>
      cond (Nat.beq z.length sz && Nat.ble (n * sz) 65536 && Nat.blt n opn) ((fillL (fun i => some (i * sz, sz)) (repL z n) vs).bind fun cs => cond (cs.all cellOk) (K (some (.slice (some ⟨h.n, 0, none⟩) n n)) (h.push (.cells cs false false sz))) none) none
    | _ => none
  | .load t a => (opv tm a).bind fun a => addrK a fun a => ldT P h t a.block a.off fun v => K (some v) h
  | .store t a x => (opv tm a).bind fun a => addrK a fun a => (opv tm x).bind fun v => (sizeT P t).bind fun n =>
      cond (Nat.beq v.cells.toList.length n && v.cells.toList.all cellOk) ((h.st a.block a.off v.cells.toList).bind fun h => K none h) none
  | .nilCheck x => (opv tm x).bind fun v => match v with
    | .pointer p => p.bind fun a => K (some (.pointer (some a))) h
    | _ => none
  | .binOp op t x y _ => (opv tm x).bind fun a => (opv tm y).bind fun b => cond (binOk op a b) ((abinT P op t (isC x || isC y) a b).bind fun v => K (some v) h) none
  | .unOp op _ x => (opv tm x).bind fun a => (aun op a).bind fun v => K (some v) h
  | .convert s d x => match P.underlying s, P.underlying d, opv tm x with
    | some _, some (.int k), some (.int _ n) => K (some (.int k (k.wrap n))) h
    | some _, some (.string), some (.string s) => K (some (.string s)) h
    | _, _, _ => none
  | .makeInterface t x => match P.underlying t, opv tm x with
    | some d, some v => match d with
      | .interface _ => none
      | _ => K (some (.iface t v)) h
    | _, _ => none
  | .makeFunc fn first cap => match fn with
    | .func f => (opvs tm first.toList).bind fun vs => (opvs tm cap.toList).bind fun ws => K (some (.func (.func f) vs.toArray ws.toArray)) h
    | _ => none
  | .makeSlice t l c => match P.underlying t, opv tm l, opv tm c with
    | some (.slice e), some (.int .i64 l), some (.int .i64 c) => (P.info? e).bind fun i => (zeroCellsOf P e).bind fun z =>
      cond (decide (0 ≤ l) && decide (l ≤ c) && decide (c * i.bytes ≤ 281474976710656) && decide (c ≤ 281474976710656))
        (K (some (.slice (some ⟨h.n, 0, none⟩) l.toNat c.toNat)) (h.push (.cells (repL z c.toNat) false false i.size))) none
    | _, _, _ => none
  | .slice t x lo hi mx => (opv tm x).bind fun x => (optv tm lo).bind fun lo => (optv tm hi).bind fun hi => (optv tm mx).bind fun mx => (aslice P t x lo hi mx h).bind fun r => castCK (ckOf x) r.1 fun v => K (some v) h
  | .fieldAddr t x f => (opv tm x).bind fun x => addrK x fun a => (fieldOf P t f).bind fun fd => (sizeT P fd.type).bind fun n =>
      cond (Nat.beq n 0) none (K (some (.pointer (some ⟨a.block, a.off + fd.offset, none⟩))) h)
  | .field t x f => (opv tm x).bind fun x => match x with
    | .agg cs => (fieldOf P t f).bind fun fd => (apart P fd.type cs.toList fd.offset).bind fun v => K (some v) h
    | _ => none
  | .indexAddr t x i => match P.underlying t, opv tm x, opv tm i with
    | some (.array len e), some (.pointer p), some (.int _ i) => p.bind fun a => (sizeT P e).bind fun sz =>
        cond (inB i len) (K (some (.pointer (some ⟨a.block, a.off + i.toNat * sz, none⟩))) h) none
    | some (.slice e), some (.slice p len _), some (.int _ i) => p.bind fun a => (sizeT P e).bind fun sz =>
        cond (inB i len) (K (some (.pointer (some ⟨a.block, a.off + i.toNat * sz, none⟩))) h) none
    | _, _, _ => none
  | .index t x i => match P.underlying t, opv tm x, opv tm i with
    | some (.array len e), some (.agg cs), some (.int _ i) => (sizeT P e).bind fun sz => cond (inB i len) ((apart P e cs.toList (i.toNat * sz)).bind fun v => K (some v) h) none
    | some (.string), some (.string s), some (.int _ i) => cond (decide (0 ≤ i)) ((s.data.toList[i.toNat]?).bind fun b => K (some (.int .u8 b.toNat)) h) none
    | _, _, _ => none
  | .extract x i => match opv tm x with
    | some (.tuple vs) => (vs.toList[i]?).bind fun v => K (some v) h
    | _ => none
  | .makeMap t r => (optv tm r).bind fun v => cond (intO v && isMapT P t) (K (some (.map (some h.n))) (h.push (.map [] 0))) none
  | .lookup t x i ok => (opv tm x).bind fun x => (opv tm i).bind fun k => (mapTy P t).bind fun ty => (mapOf h x).bind fun es => (lookE P ty.1 ty.2 k es).bind fun p => castT P ty.2 p.1 fun v => K (some (cond ok (.tuple #[v, .bool p.2]) v)) h
  | .mapUpdate t m k x => (opv tm m).bind fun m => (opv tm k).bind fun k => (opv tm x).bind fun v => (mapTy P t).bind fun ty => (aput ty.1 m k v h).bind fun h => K none h
  | .call c => match c.callee with
    | .builtin b => evBuiltin P tm b c.argTypes.toList c.args.toList h fun v h => K (some v) h
    | cl => (calleeX P tm cl).bind fun f => (opvs tm c.args.toList).bind fun vs => cond (hasBody P f.1) ((O.call f.1 (f.2.1 ++ vs ++ f.2.2) h).bind fun r => K (some r.1) r.2) none
  | _ => none

/-- is the type's value many cells? -/
def aggT (P : Program) (t : TypeId) : Bool := match kindsOf P t with
  | some (false, _) => false
  | _ => true
def cellsX (ag : Bool) (v : Value) : List Value := cond ag v.cells.toList [v]
def okX (ag : Bool) (v : Value) : Bool := cond ag true (cellOk v)
def fillX (pl : Nat → Option (Nat × Nat × Bool)) : List Value → List (Nat × Value) → Option (List Value)
  | cs, [] => some cs
  | cs, (i, v) :: rest => (pl i).bind fun p =>
      cond (okX p.2.2 v && (Nat.beq (cellsX p.2.2 v).length p.2.1 && Nat.ble (p.1 + (cellsX p.2.2 v).length) cs.length)) (fillX pl (AH.setL cs p.1 (cellsX p.2.2 v)) rest) none
def fillK (pl : Nat → Option (Nat × Nat × Bool)) : List Value → List (Nat × Value) → (List Value → Res) → Res
  | cs, [], K => K cs
  | cs, (i, v) :: rest, K => (pl i).bind fun p =>
      cond (okX p.2.2 v && (Nat.beq (cellsX p.2.2 v).length p.2.1 && Nat.ble (p.1 + (cellsX p.2.2 v).length) cs.length)) (fillK pl (AH.setL cs p.1 (cellsX p.2.2 v)) rest K) none
theorem fillK_eq (pl : Nat → Option (Nat × Nat × Bool)) (K : List Value → Res) : ∀ (ps : List (Nat × Value)) (cs : List Value), fillK pl cs ps K = (fillX pl cs ps).bind K
  | [], _ => rfl
  | (i, v) :: rest, cs => by
    simp only [fillK, fillX]
    cases pl i with
    | none => rfl
    | some p =>
      simp only [Option.bind_some]
      cases (okX p.2.2 v && (Nat.beq (cellsX p.2.2 v).length p.2.1 && Nat.ble (p.1 + (cellsX p.2.2 v).length) cs.length)) with
      | false => rfl
      | true => exact fillK_eq pl K rest _
def placesX (P : Program) : List Field → Option (List (Nat × Nat × Bool))
  | [] => some []
  | f :: fs => (sizeT P f.type).bind fun n => (placesX P fs).bind fun l => some ((f.offset, n, aggT P f.type) :: l)
def placeX (P : Program) (t : TypeId) : Option (Nat → Option (Nat × Nat × Bool)) := match P.underlying t with
  | some (.struct fs) => (placesX P fs.toList).bind fun l => some fun i => l[i]?
  | some (.array _ e) => (sizeT P e).bind fun n => some fun i => some (i * n, n, aggT P e)
  | _ => none
/-- a comparison with nil of an interface's or a function's type -/
def nilT (P : Program) (op : BinOp) (t : TypeId) (y : Value) : Option (Bool × Bool) := match op, y with
  | .eql, .nilIface => match P.underlying t with
    | some (.interface _) => some (false, true)
    | _ => none
  | .neq, .nilIface => match P.underlying t with
    | some (.interface _) => some (false, false)
    | _ => none
  | .eql, .nilFunc => match P.underlying t with
    | some (.func _ _ _) => some (true, true)
    | _ => none
  | .neq, .nilFunc => match P.underlying t with
    | some (.func _ _ _) => some (true, false)
    | _ => none
  | _, _ => none
def isNilI (c : Bool) (v : Value) : Option Bool := match v with
  | .nilIface => cond c (some true) none
  | .iface _ _ => some false
  | _ => none
def isNilG (v : Value) : Option Bool := match v with
  | .nilFunc => some true
  | .func _ _ _ => some false
  | _ => none
/-- the types of a call's results -/
def tysOf (P : Program) (t : TypeId) : List TypeId := match P.underlying t with
  | some (.tuple ts) => ts.toList
  | _ => [t]
def binX (P : Program) (op : BinOp) (t : TypeId) (c : Bool) (a b : Value) (K : Value → Res) : Res := match nilT P op t b with
  | some e => (cond e.1 (isNilG a) (isNilI c a)).bind fun q => K (.bool (cond e.2 q (!q)))
  | none => cond (binOk op a b) ((abinT P op t c a b).bind K) none
/-- one operation, by the types: so that a value of which only the kind is known goes through -/
def evOpX (P : Program) (O : Orc) (tm : T Value) (ty : TypeId) (op : Op) (h : AH) (K : Option Value → AH → Res) : Res :=
  match op with
  | .box e x => (opv tm x).bind fun v => cond (okX (aggT P e) v && (cellsX (aggT P e) v).all cellOk) (K (some (.pointer (some ⟨h.n, 0, none⟩))) (h.push (.cells (cellsX (aggT P e) v) false false (cellsX (aggT P e) v).length))) none
  | .build t ps => (zeroCellsOf P t).bind fun z => (opParts tm ps.toList).bind fun vs => (placeX P t).bind fun pl => fillK pl z vs fun cs => K (some (.agg cs.toArray)) h
  | .buildSlice t n ps => match P.underlying t with
    | some (.slice e) => (sizeT P e).bind fun sz => (zeroCellsOf P e).bind fun z => (opParts tm ps.toList).bind fun vs =>
      cond (Nat.beq z.length sz && Nat.ble (n * sz) 65536 && Nat.blt n opn) (fillK (fun i => some (i * sz, sz, aggT P e)) (repL z n) vs fun cs => cond (cs.all cellOk) (K (some (.slice (some ⟨h.n, 0, none⟩) n n)) (h.push (.cells cs false false sz))) none) none
    | _ => none
  | .store t a x => (opv tm a).bind fun a => addrK a fun a => (opv tm x).bind fun v => (sizeT P t).bind fun n =>
      cond (okX (aggT P t) v && (Nat.beq (cellsX (aggT P t) v).length n && (cellsX (aggT P t) v).all cellOk)) ((h.st a.block a.off (cellsX (aggT P t) v)).bind fun h => K none h) none
  | .binOp op t x y _ => (opv tm x).bind fun a => (opv tm y).bind fun b => binX P op t (isC x || isC y) a b fun v => K (some v) h
  | .call c => match c.callee with
    | .builtin _ => evOp P O tm op h K
    | cl => (calleeX P tm cl).bind fun f => (opvs tm c.args.toList).bind fun vs => cond (hasBody P f.1) ((O.call f.1 (f.2.1 ++ vs ++ f.2.2) h).bind fun r => castR P (tysOf P ty) r.1 fun v => K (some v) r.2) none
  | op => evOp P O tm op h K

/-- the slot that an operation writes -/
def put (nt : Nat) (tm : T Value) (dst : Option Tmp) (v : Option Value) (K : T Value → Res) : Res := match dst with
  | none => K tm
  | some d => cond (Nat.blt d nt) (K (tm.set d v)) none

/-- the operations of a region, in the text's order -/
def evOps (P : Program) (O : Orc) (nt : Nat) (ops : List Oper) : List Oper → T Value → AH → (T Value → AH → Res) → Res
  | [], tm, h, K => K tm h
  | o :: rest, tm, h, K =>
    match o.guard with
    | none => evOpX P O tm o.type o.op h fun v h => put nt tm o.dst v fun tm => evOps P O nt ops rest tm h K
    | some (j, want) => match (ops[j]?).bind (·.dst) with
      | none => none
      | some d => match tm.get d with
        | some (.bool b) =>
          cond b
            (cond want (evOpX P O (tm.set d (some (.bool true))) o.type o.op h fun v h => put nt (tm.set d (some (.bool true))) o.dst v fun tm => evOps P O nt ops rest tm h K)
              (put nt (tm.set d (some (.bool true))) o.dst (some skipV) fun tm => evOps P O nt ops rest tm h K))
            (cond want (put nt (tm.set d (some (.bool false))) o.dst (some skipV) fun tm => evOps P O nt ops rest tm h K)
              (evOpX P O (tm.set d (some (.bool false))) o.type o.op h fun v h => put nt (tm.set d (some (.bool false))) o.dst v fun tm => evOps P O nt ops rest tm h K))
        | some (.tuple _) => put nt tm o.dst (some skipV) fun tm => evOps P O nt ops rest tm h K
        | _ => none

def sumAt (P : Program) (S : SumEv) (tm : T Value) (o : Oper) (h : AH) : Option (List (Value × AH)) := match o.guard, o.op with
  | none, .call c => match c.callee with
    | .value (.func f) => (resTypes P f).bind fun _ => (S f).bind fun g => (opvs tm c.args.toList).bind fun vs => g vs h
    | _ => none
  | _, _ => none
def sumTs (P : Program) (o : Oper) : List TypeId := match o.op with
  | .call c => match c.callee with
    | .value (.func f) => (resTypes P f).getD []
    | _ => []
  | _ => []
def sumK (x : Option (List (Value × AH))) (a : List (Value × AH) → Res) (b : Res) : Res := match x with
  | some l => a l
  | none => b
/-- the operations of a region, with summaries -/
noncomputable def evOpsS (P : Program) (S : SumEv) (O : Orc) (nt : Nat) (ops : List Oper) : List Oper → T Value → AH → (T Value → AH → Res) → Res
  | [], tm, h, K => K tm h
  | o :: rest, tm, h, K => sumK (sumAt P S tm o h) (fun l => allR (l.map fun q => castR P (sumTs P o) q.1 fun v => put nt tm o.dst (some v) fun tm => evOpsS P S O nt ops rest tm q.2 K))
      (evOps P O nt ops [o] tm h fun tm h => evOpsS P S O nt ops rest tm h K)

def scrub (tm : T Value) : List Nat → T Value
  | [] => .nil
  | k :: ks => (scrub tm ks).set k (tm.get k)
def scrubO (tm : T Value) : Option (List Nat) → T Value
  | none => tm
  | some ks => scrub tm ks
def firstRegion : Code → Nat
  | .region id _ _ => id
  | .seq a b => cond (Nat.beq (firstRegion a) 0) (firstRegion b) (firstRegion a)
  | .cond _ a b => cond (Nat.beq (firstRegion a) 0) (firstRegion b) (firstRegion a)
  | .block _ b => firstRegion b
  | .scope b => firstRegion b
  | .loop b => firstRegion b
  | _ => 0

/-- a region that draws its order: its evaluator is handed in -/
abbrev DrawEv := Orc → Nat → Array Oper → T Value → AH → (T Value → AH → Res) → Res

/-- continuations, by name -/
def seqK (k : T Value → AH → Res) (K : Ex → T Value → AH → Res) : Ex → T Value → AH → Res := fun e tm h => match e with
  | .normal => k tm h
  | e => K e tm h
def blkK (id : Nat) (K : Ex → T Value → AH → Res) : Ex → T Value → AH → Res := fun e tm h => match e with
  | .exit i => cond (Nat.beq i id) (K .normal tm h) (K (.exit i) tm h)
  | e => K e tm h
def scrK (ks : Option (List Nat)) (K : Ex → T Value → AH → Res) : Ex → T Value → AH → Res := fun e tm h => K e (scrubO tm ks) h
def loopK (k : T Value → AH → Res) (K : Ex → T Value → AH → Res) : Ex → T Value → AH → Res := fun e tm h => match e with
  | .normal => k tm h
  | e => K e tm h

/-- a region that ends with a deferred call of a function value -/
def splitD : List Oper → Option (List Oper × Tmp)
  | [] => none
  | o :: rest => match rest with
    | [] => match o.dst, o.op, o.guard with
      | none, .defer c, none => match c.callee, c.args.toList with
        | .value (.tmp x), [] => some ([], x)
        | _, _ => none
      | _, _, _ => none
    | _ :: _ => (splitD rest).bind fun p => some (o :: p.1, p.2)
def deferOf : Code → Option (List Oper × List Oper × Tmp)
  | .region _ ops draw => cond draw none ((splitD ops.toList).bind fun p => some (ops.toList, p.1, p.2))
  | _ => none
/-- the deferred call runs at the function's end -/
def defK (f : AH → Res) (K : Ex → T Value → AH → Res) : Ex → T Value → AH → Res := fun e tm h => match e with
  | .ret => (f h).bind fun r => K .ret tm r.2
  | _ => none

def isRegion : Code → Bool
  | .region _ _ _ => true
  | _ => false

noncomputable def evC (P : Program) (D : DrawEv) (S : SumEv) (O : Orc) (nt : Nat) (keep : Nat → Option (List Nat)) : Code → T Value → AH → (Ex → T Value → AH → Res) → Res
  | .skip, tm, h, K => K .normal tm h
  | .region _ ops draw, tm, h, K => cond draw (D O nt ops tm h fun tm h => K .normal tm h) (evOpsS P S O nt ops.toList ops.toList tm h fun tm h => K .normal tm h)
  | .seq a b, tm, h, K => match deferOf a with
    | none => cond (isRegion a && (keep (3 * firstRegion b + 2)).isNone) (evC P D S O nt keep a tm h (seqK (fun tm h => evC P D S O nt keep b (scrubO tm (keep (3 * firstRegion b + 2))) h K) K))
        (evC P D S O nt keep a tm h (seqK (fun tm h => O.code nt keep b (scrubO tm (keep (3 * firstRegion b + 2))) h K) K))
    | some p => evOpsS P S O nt p.1 p.2.1 tm h fun tm h => match tm.get p.2.2 with
      | some (.func (.func f) first cap) => cond (hasBody P f) (evC P D S O nt keep b tm h (defK (O.call f (first.toList ++ cap.toList)) K)) none
      | _ => none
  | .cond c a b, tm, h, K => match opv tm c with
    | some (.bool t) => cond t (evC P D S O nt keep a tm h K) (evC P D S O nt keep b tm h K)
    | _ => none
  | .block id b, tm, h, K => evC P D S O nt keep b tm h (blkK id K)
  | .loop b, tm, h, K => O.loop nt keep b (scrubO tm (keep (3 * firstRegion b))) h (scrK (keep (3 * firstRegion b + 1)) K)
  | .exit id, tm, h, K => K (.exit id) tm h
  | .label _, tm, h, K => K .normal tm h
  | .ret, tm, h, K => K .ret tm h
  | _, _, _, _ => none

def resv (P : Program) (tm : T Value) (h : AH) : List ResultVar → (List Value → Res) → Res
  | [], K => K []
  | .tmp t :: rs, K => (tm.get t).bind fun v => resv P tm h rs fun vs => K (v :: vs)
  | .cell a t :: rs, K => (tm.get a).bind fun a => addrK a fun a => ldT P h t a.block a.off fun v => resv P tm h rs fun vs => K (v :: vs)

def one : List Value → Value
  | [v] => v
  | vs => .tuple vs.toArray

def argsT : List Value → Nat → T Value
  | [], _ => .nil
  | v :: vs, i => (argsT vs (i + 1)).set i (some v)

/-- what a function hands back at its end -/
def endK (P : Program) (rs : List ResultVar) : Ex → T Value → AH → Res := fun e tm h => match e with
  | .exit _ => none
  | _ => resv P tm h rs fun vs => some (one vs, h)

noncomputable def callF (P : Program) (D : DrawEv) (S : SumEv) (O : Orc) (keep : Nat → Nat → Option (List Nat)) (f : FuncId) (args : List Value) (h : AH) : Res :=
  match P.funcs[f]? with
  | none => none
  | some fn => match fn.body with
    | none => none
    | some c => cond (Nat.ble args.length fn.ntmps) (evC P D S O fn.ntmps (keep f) c (argsT args 0) h (endK P fn.results.toList)) none

/-- answers that are known ahead -/
abbrev Over := FuncId → List Value → AH → Res
def noOv : Over := fun _ _ _ => none
def orR (x y : Res) : Res := match x with
  | some r => some r
  | none => y
/-- the evaluator: n bounds the depth of calls and the rounds of loops -/
noncomputable def ev (P : Program) (D : DrawEv) (S : SumEv) (ov : Over) (keep : Nat → Nat → Option (List Nat)) : Nat → Orc
  | 0 => { call := fun _ _ _ => none, loop := fun _ _ _ _ _ _ => none, code := fun _ _ _ _ _ _ => none }
  | n + 1 =>
    { call := fun f args h => orR (ov f args h) (callF P D S (ev P D S ov keep n) keep f args h)
      loop := fun nt kp b tm h K => evC P D S (ev P D S ov keep n) nt kp b tm h (loopK (fun tm h => (ev P D S ov keep n).loop nt kp b (scrubO tm (kp (3 * firstRegion b))) h K) K)
      code := fun nt kp c tm h K => evC P D S (ev P D S ov keep n) nt kp c tm h K }
/-- a piece of a function's code, by its place -/
def subC : List Nat → Code → Code
  | [], c => c
  | k :: ks, .seq a b => cond (Nat.beq k 0) (subC ks a) (subC ks b)
  | k :: ks, .cond _ a b => cond (Nat.beq k 0) (subC ks a) (subC ks b)
  | _ :: ks, .block _ b => subC ks b
  | _ :: ks, .loop b => subC ks b
  | _ :: ks, .scope b => subC ks b
  | _, c => c
def codeAt (P : Program) (f : FuncId) (ks : List Nat) : Code := match (P.funcs[f]?).bind (·.body) with
  | some c => subC ks c
  | none => .skip
def resOf (P : Program) (f : FuncId) : List ResultVar := match P.funcs[f]? with
  | some fn => fn.results.toList
  | none => []
/-- a table of what is kept, by function and place -/
def assocN {α : Type} (k : Nat) : List (Nat × α) → Option α
  | [] => none
  | (j, x) :: l => cond (Nat.beq k j) (some x) (assocN k l)
def keepOf (tab : List (Nat × List (Nat × List Nat))) (f k : Nat) : Option (List Nat) := (assocN f tab).bind (assocN k)
end Go.Lg
