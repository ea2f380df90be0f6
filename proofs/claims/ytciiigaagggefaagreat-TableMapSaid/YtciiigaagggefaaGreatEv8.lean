/- Soundness of the evaluator. Part 4: how abstract values and memory stand for the model's. -/
import Derived.Test.YtciiigaagggefaaGreatEv3
import Derived.Laws.Sem
import Derived.Laws.World
import Derived.Laws.AppendOwn
import Derived.Lib.Strings
set_option linter.unusedVariables false
set_option linter.unusedSimpArgs false
namespace Go.Lg
open Go

structure Tgt where
  blk : Nat
  sh : Nat
  tot : Nat
  esz : Nat
  ro : Bool
abbrev Emb := Nat → Option Tgt

inductive VR (φ : Emb) : Value → Value → Prop
  | bool (b : Bool) : VR φ (.bool b) (.bool b)
  | int (k : IntKind) (n : Int) : VR φ (.int k n) (.int k n)
  | string (s : ByteArray) : VR φ (.string s) (.string s)
  | nilP : VR φ (.pointer none) (.pointer none)
  | ptr {b o : Nat} {t : Tgt} : φ b = some t → VR φ (.pointer (some ⟨b, o, none⟩)) (.pointer (some ⟨t.blk, t.sh + o, none⟩))
  | nilS : VR φ (.slice none 0 0) (.slice none 0 0)
  | slice {b o n c : Nat} {t : Tgt} : φ b = some t → c < opn → VR φ (.slice (some ⟨b, o, none⟩) n c) (.slice (some ⟨t.blk, t.sh + o, none⟩) n c)
  | sliceO {b o n c : Nat} {t : Tgt} : φ b = some t → t.sh + o + c * t.esz = t.tot → n ≤ c → VR φ (.slice (some ⟨b, o, none⟩) n opn) (.slice (some ⟨t.blk, t.sh + o, none⟩) n c)
  | sliceE {b o o' : Nat} {t : Tgt} : φ b = some t → t.sh + o = t.tot → VR φ (.slice (some ⟨b, o, none⟩) 0 opn) (.slice (some ⟨t.blk, o', none⟩) 0 0)
  | sliceZ {b o o' : Nat} {t : Tgt} : φ b = some t → VR φ (.slice (some ⟨b, o, none⟩) 0 0) (.slice (some ⟨t.blk, o', none⟩) 0 0)
  | sliceV {b o : Nat} {a' : Addr} {t : Tgt} : φ b = some t → t.ro = true → VR φ (.slice (some ⟨b, o, none⟩) 0 0) (.slice (some a') 0 0)
  | nilM : VR φ (.map none) (.map none)
  | map {r : Nat} {t : Tgt} : φ r = some t → VR φ (.map (some r)) (.map (some t.blk))
  | nilF : VR φ .nilFunc .nilFunc
  | func {f : FuncId} {as bs as' bs' : Array Value} : as.size = as'.size → (∀ (i : Nat) (v v' : Value), as[i]? = some v → as'[i]? = some v' → VR φ v v') →
      bs.size = bs'.size → (∀ (i : Nat) (v v' : Value), bs[i]? = some v → bs'[i]? = some v' → VR φ v v') → VR φ (.func (.func f) as bs) (.func (.func f) as' bs')
  | nilI : VR φ .nilIface .nilIface
  | iface {t : TypeId} {v v' : Value} : VR φ v v' → VR φ (.iface t v) (.iface t v')
  | agg {as as' : Array Value} : as.size = as'.size → (∀ (i : Nat) (v v' : Value), as[i]? = some v → as'[i]? = some v' → VR φ v v') → VR φ (.agg as) (.agg as')
  | tuple {as as' : Array Value} : as.size = as'.size → (∀ (i : Nat) (v v' : Value), as[i]? = some v → as'[i]? = some v' → VR φ v v') → VR φ (.tuple as) (.tuple as')

def Sub (φ φ' : Emb) : Prop := ∀ b t, φ b = some t → φ' b = some t
theorem Sub.refl (φ : Emb) : Sub φ φ := fun _ _ h => h
theorem Sub.trans {a b c : Emb} (h : Sub a b) (k : Sub b c) : Sub a c := fun x t hx => k x t (h x t hx)

theorem VR.mono {φ φ' : Emb} (hs : Sub φ φ') {v w : Value} (h : VR φ v w) : VR φ' v w := by
  induction h with
  | bool b => exact .bool b
  | int k n => exact .int k n
  | string s => exact .string s
  | nilP => exact .nilP
  | ptr h => exact .ptr (hs _ _ h)
  | nilS => exact .nilS
  | slice h hc => exact .slice (hs _ _ h) hc
  | sliceO h h1 h2 => exact .sliceO (hs _ _ h) h1 h2
  | sliceE h h1 => exact .sliceE (hs _ _ h) h1
  | sliceZ h => exact .sliceZ (hs _ _ h)
  | sliceV h k => exact .sliceV (hs _ _ h) k
  | nilM => exact .nilM
  | map h => exact .map (hs _ _ h)
  | nilF => exact .nilF
  | func h1 _ h2 _ ih1 ih2 => exact .func h1 ih1 h2 ih2
  | nilI => exact .nilI
  | iface _ ih => exact .iface ih
  | agg h _ ih => exact .agg h ih
  | tuple h _ ih => exact .tuple h ih

/-- lists of values, one by one -/
inductive VRs (φ : Emb) : List Value → List Value → Prop
  | nil : VRs φ [] []
  | cons {v w : Value} {vs ws : List Value} : VR φ v w → VRs φ vs ws → VRs φ (v :: vs) (w :: ws)

namespace VRs
variable {φ : Emb}
theorem mono {φ' : Emb} (hs : Sub φ φ') {l m : List Value} (h : VRs φ l m) : VRs φ' l m := by
  induction h with
  | nil => exact .nil
  | cons h _ ih => exact .cons (h.mono hs) ih
theorem length {l m : List Value} (h : VRs φ l m) : l.length = m.length := by
  induction h with
  | nil => rfl
  | cons _ _ ih => simp [ih]
theorem get {l m : List Value} (h : VRs φ l m) : ∀ (i : Nat) (v : Value), l[i]? = some v → ∃ w, m[i]? = some w ∧ VR φ v w := by
  induction h with
  | nil => intro i v hv; simp at hv
  | cons h _ ih =>
    intro i v hv
    cases i with
    | zero => simp at hv; subst hv; exact ⟨_, rfl, h⟩
    | succ i => simp at hv; simpa using ih i v hv
theorem get2 {l m : List Value} (h : VRs φ l m) (i : Nat) (v v' : Value) (h1 : l[i]? = some v) (h2 : m[i]? = some v') : VR φ v v' := by
  obtain ⟨w, hw, hr⟩ := h.get i v h1
  rw [h2] at hw
  obtain rfl := Option.some.inj hw
  exact hr
theorem of_get : ∀ {l m : List Value}, l.length = m.length → (∀ (i : Nat) (v v' : Value), l[i]? = some v → m[i]? = some v' → VR φ v v') → VRs φ l m
  | [], [], _, _ => .nil
  | v :: l, w :: m, hl, h => .cons (h 0 v w rfl rfl) (of_get (by simpa using hl) fun i v v' h1 h2 => h (i + 1) v v' (by simpa using h1) (by simpa using h2))
  | [], _ :: _, hl, _ => by simp at hl
  | _ :: _, [], hl, _ => by simp at hl
theorem append {l m l' m' : List Value} (h : VRs φ l m) (h' : VRs φ l' m') : VRs φ (l ++ l') (m ++ m') := by
  induction h with
  | nil => exact h'
  | cons h _ ih => exact .cons h ih
theorem take {l m : List Value} (h : VRs φ l m) : ∀ n, VRs φ (l.take n) (m.take n) := by
  induction h with
  | nil => intro n; simp; exact .nil
  | cons h _ ih => intro n; cases n with
    | zero => exact .nil
    | succ n => exact .cons h (ih n)
theorem drop {l m : List Value} (h : VRs φ l m) : ∀ n, VRs φ (l.drop n) (m.drop n) := by
  induction h with
  | nil => intro n; simp; exact .nil
  | cons h hr ih => intro n; cases n with
    | zero => exact .cons h hr
    | succ n => simpa using ih n
theorem set {l m : List Value} (h : VRs φ l m) {v w : Value} (hv : VR φ v w) : ∀ i, VRs φ (l.set i v) (m.set i w) := by
  induction h with
  | nil => intro i; simp; exact .nil
  | cons h hr ih => intro i; cases i with
    | zero => exact .cons hv hr
    | succ n => exact .cons h (ih n)
theorem setL {l m : List Value} (h : VRs φ l m) {vs ws : List Value} (hv : VRs φ vs ws) : ∀ o, VRs φ (AH.setL l o vs) (AH.setL m o ws) := by
  induction hv generalizing l m with
  | nil => intro o; exact h
  | cons hv _ ih => intro o; exact ih (h.set hv o) (o + 1)
theorem agg {l m : List Value} (h : VRs φ l m) : VR φ (.agg l.toArray) (.agg m.toArray) :=
  .agg (by simpa using h.length) (by simpa using h.get2)
theorem tuple {l m : List Value} (h : VRs φ l m) : VR φ (.tuple l.toArray) (.tuple m.toArray) :=
  .tuple (by simpa using h.length) (by simpa using h.get2)
end VRs

theorem VR.cells {φ : Emb} {v w : Value} (h : VR φ v w) : VRs φ v.cells.toList w.cells.toList := by
  cases h with
  | agg hs hr => exact VRs.of_get (by simpa [Value.cells] using hs) (by simpa [Value.cells] using hr)
  | _ => exact .cons (by constructor <;> assumption) .nil

theorem VR.oneCell {φ : Emb} {v w : Value} (h : VR φ v w) (hc : cellOk v = true) : w.oneCell' = true := by
  cases h <;> first | rfl | (simp [cellOk] at hc)
theorem VR.cellOk {φ : Emb} {v w : Value} (h : VR φ v w) (hc : cellOk v = true) : w.cells = #[w] := by
  cases h <;> first | rfl | (simp [Lg.cellOk] at hc)

theorem flat1_VR {φ : Emb} {v : Value} (h : flat1 v = true) : VR φ v v := by
  unfold flat1 at h
  split at h <;> first | constructor | (simp at h)
theorem flat_VR {φ : Emb} {v : Value} (h : flat v = true) : VR φ v v := by
  unfold flat at h
  split at h
  · rename_i cs
    refine .agg rfl fun i v v' h1 h2 => ?_
    rw [h1] at h2
    obtain rfl := Option.some.inj h2
    rw [List.all_eq_true] at h
    exact flat1_VR (h v (by rw [Array.mem_toList_iff]; exact Array.mem_of_getElem? h1))
  · exact flat1_VR h
theorem flats_VRs {φ : Emb} : ∀ {l : List Value}, l.all flat1 = true → VRs φ l l
  | [], _ => .nil
  | v :: l, h => by
    simp at h
    exact .cons (flat1_VR h.1) (flats_VRs (by simpa using h.2))

structure MapRel (φ : Emb) (es es' : List MapEntry) : Prop where
  len : es.length = es'.length
  at_ : ∀ (i : Nat) (e e' : MapEntry), es[i]? = some e → es'[i]? = some e' → flat1 e.key = true ∧ e'.key = e.key ∧ e'.born = e.born ∧ VR φ e.val e'.val

structure HRel (φ : Emb) (h : AH) (w : World) : Prop where
  lt : ∀ b t, φ b = some t → b < h.n
  blkLt : ∀ b t, φ b = some t → t.blk < w.heap.size
  cells : ∀ (b : Nat) (c : List Value) (op ro : Bool) (esz : Nat), h.get b = some (.cells c op ro esz) → ∃ t, φ b = some t ∧ t.ro = ro ∧ t.esz = esz ∧ t.sh + c.length ≤ t.tot ∧
    (ro = false → ∃ rc el, w.heap[t.blk]? = some (.cells rc el (0, 0)) ∧ t.tot ≤ rc.size) ∧
    ∀ (k : Nat) (v : Value), c[k]? = some v → cellOk v = true ∧ ∃ v', w.cell? ⟨t.blk, t.sh + k, none⟩ = some v' ∧ VR φ v v'
  maps : ∀ (b : Nat) (es : List MapEntry) (clk : Nat), h.get b = some (.map es clk) → ∃ t es', φ b = some t ∧ t.ro = false ∧ w.heap[t.blk]? = some (.map es' clk) ∧ MapRel φ es es'.toList
  inj : ∀ b b' x x' t t', h.get b = some x → h.get b' = some x' → φ b = some t → φ b' = some t' → t.blk = t'.blk → b = b' ∨ (t.ro = true ∧ t'.ro = true)
  gets : ∀ b x, h.get b = some x → b < h.n
  sh0 : ∀ b c esz t, h.get b = some (.cells c false false esz) → φ b = some t → t.sh = 0
  iters : ∀ b m since seen last, h.get b = some (.iter m since seen last) → ∃ t cm, φ b = some t ∧ t.ro = false ∧ t.sh = 0 ∧ w.heap[t.blk]? = some (.mapIter cm since seen.toArray last) ∧ VR φ (.map m) (.map cm)

/-- how the embedding may grow -/
def Ext (φ : Emb) (w : World) (φ' : Emb) : Prop :=
  Sub φ φ' ∧ ∀ b t, φ' b = some t → φ b = some t ∨ w.heap.size ≤ t.blk ∨ ∃ b0 t0, φ b0 = some t0 ∧ t0.blk = t.blk ∧ t0.ro = false

/-- what may turn in the world -/
structure FR (φ : Emb) (w w' : World) : Prop where
  os : w'.os = w.os
  tape : w'.tape = w.tape
  output : w'.output = w.output
  size : w.heap.size ≤ w'.heap.size
  block : ∀ B, B < w.heap.size → (∀ b t, φ b = some t → t.blk = B → t.ro = true) → w'.heap[B]? = w.heap[B]?

theorem FR.refl (φ : Emb) (w : World) : FR φ w w := ⟨rfl, rfl, rfl, Nat.le_refl _, fun _ _ _ => rfl⟩
theorem Ext.refl (φ : Emb) (w : World) : Ext φ w φ := ⟨Sub.refl φ, fun _ _ h => .inl h⟩
theorem Ext.trans {φ φ1 φ2 : Emb} {w w1 : World} (h : Ext φ w φ1) (hf : FR φ w w1) (k : Ext φ1 w1 φ2) : Ext φ w φ2 := by
  refine ⟨h.1.trans k.1, fun b t hb => ?_⟩
  rcases k.2 b t hb with h1 | h1 | ⟨b0, t0, h1, h2, h3⟩
  · exact h.2 b t h1
  · exact .inr (.inl (Nat.le_trans hf.size h1))
  · rcases h.2 b0 t0 h1 with h4 | h4 | ⟨b1, t1, h4, h5, h6⟩
    · exact .inr (.inr ⟨b0, t0, h4, h2, h3⟩)
    · exact .inr (.inl (by omega))
    · exact .inr (.inr ⟨b1, t1, h4, h5.trans h2, h6⟩)
theorem FR.trans {φ φ1 : Emb} {w w1 w2 : World} (h : FR φ w w1) (he : Ext φ w φ1) (k : FR φ1 w1 w2) : FR φ w w2 := by
  refine ⟨k.os.trans h.os, k.tape.trans h.tape, k.output.trans h.output, Nat.le_trans h.size k.size, fun B hB hro => ?_⟩
  refine (k.block B (Nat.lt_of_lt_of_le hB h.size) fun b t hb ht => ?_).trans (h.block B hB hro)
  rcases he.2 b t hb with h1 | h1 | ⟨b0, t0, h1, h2, h3⟩
  · exact hro b t h1 ht
  · omega
  · have := hro b0 t0 h1 (by omega)
    rw [h3] at this
    cases this

/-- a step of the abstract memory and of the world -/
structure Good (φ : Emb) (w : World) (h' : AH) (w' : World) (φ' : Emb) : Prop where
  ext : Ext φ w φ'
  fr : FR φ w w'
  rel : HRel φ' h' w'
theorem Good.refl {φ : Emb} {h : AH} {w : World} (hr : HRel φ h w) : Good φ w h w φ := ⟨.refl _ _, .refl _ _, hr⟩
theorem Good.trans {φ φ1 φ2 : Emb} {w w1 w2 : World} {h1 h2 : AH} (a : Good φ w h1 w1 φ1) (b : Good φ1 w1 h2 w2 φ2) : Good φ w h2 w2 φ2 :=
  ⟨a.ext.trans a.fr b.ext, a.fr.trans a.ext b.fr, b.rel⟩

theorem HRel.drew {φ : Emb} {h : AH} {w : World} (hr : HRel φ h w) : HRel φ h w.drew := ⟨hr.lt, hr.blkLt, hr.cells, hr.maps, hr.inj, hr.gets, hr.sh0, hr.iters⟩
theorem Good.drew {φ : Emb} {h : AH} {w : World} (hr : HRel φ h w) : Good φ w h w.drew φ := ⟨.refl _ _, ⟨rfl, rfl, rfl, Nat.le_refl _, fun _ _ _ => rfl⟩, hr.drew⟩

theorem AH.get_push (h : AH) (x : Blk) (b : Nat) : (h.push x).get b = if b = h.n then some x else h.get b := by
  simp [AH.get, AH.push, T.get_set]
theorem AH.get_set (h : AH) (c : Nat) (x : Option Blk) (b : Nat) : (h.set c x).get b = if b = c then x else h.get b := by
  simp [AH.get, AH.set, T.get_set]

/-- slots -/
structure TR (φ : Emb) (tm : T Value) (nt : Nat) (ts : Array Value) : Prop where
  size : ts.size = nt
  val : ∀ t v, tm.get t = some v → ∃ c, ts[t]? = some c ∧ VR φ v c
theorem TR.mono {φ φ' : Emb} (hs : Sub φ φ') {tm : T Value} {nt : Nat} {ts : Array Value} (h : TR φ tm nt ts) : TR φ' tm nt ts :=
  ⟨h.size, fun t v hv => let ⟨c, h1, h2⟩ := h.val t v hv; ⟨c, h1, h2.mono hs⟩⟩
theorem TR.set {φ : Emb} {tm : T Value} {nt : Nat} {ts : Array Value} (h : TR φ tm nt ts) {d : Nat} {v : Option Value} {c : Value} (hd : d < nt) (hv : ∀ x, v = some x → VR φ x c) :
    TR φ (tm.set d v) nt (ts.setIfInBounds d c) := by
  refine ⟨by simp [h.size], fun t x hx => ?_⟩
  rw [T.get_set] at hx
  by_cases e : t = d
  · subst e
    rw [if_pos rfl] at hx
    exact ⟨c, by simp [h.size, hd], hv x hx⟩
  · rw [if_neg e] at hx
    obtain ⟨c', h1, h2⟩ := h.val t x hx
    exact ⟨c', by rw [Array.getElem?_setIfInBounds_ne (Ne.symm e)]; exact h1, h2⟩
theorem TR.same {φ : Emb} {tm : T Value} {nt : Nat} {ts : Array Value} (h : TR φ tm nt ts) {d : Nat} {v : Value} (hv : tm.get d = some v) : TR φ (tm.set d (some v)) nt ts := by
  refine ⟨h.size, fun t x hx => ?_⟩
  rw [T.get_set] at hx
  by_cases e : t = d
  · subst e
    rw [if_pos rfl] at hx
    obtain rfl := Option.some.inj hx
    exact h.val t _ hv
  · rw [if_neg e] at hx
    exact h.val t x hx
theorem scrub_get (tm : T Value) : ∀ (ks : List Nat) (t : Nat) (v : Value), (scrub tm ks).get t = some v → tm.get t = some v
  | [], t, v, h => by simp [scrub, T.get_nil] at h
  | k :: ks, t, v, h => by
    simp only [scrub, T.get_set] at h
    split at h
    · rename_i e; subst e; exact h
    · exact scrub_get tm ks t v h
theorem TR.scrubO {φ : Emb} {tm : T Value} {nt : Nat} {ts : Array Value} (h : TR φ tm nt ts) (ks : Option (List Nat)) : TR φ (scrubO tm ks) nt ts := by
  cases ks with
  | none => exact h
  | some ks => exact ⟨h.size, fun t v hv => h.val t v (scrub_get tm ks t v hv)⟩

theorem opv_rel {φ : Emb} {tm : T Value} {nt : Nat} {a : Act} (h : TR φ tm nt a.tmps) {x : Operand} {v : Value} (hx : opv tm x = some v) : VR φ v (a.eval x) := by
  cases x with
  | tmp t =>
    obtain ⟨c, h1, h2⟩ := h.val t v hx
    simp only [Act.eval, Array.getD_eq_getD_getElem?, h1, Option.getD_some]
    exact h2
  | const v' =>
    simp only [opv] at hx
    cases hf : flat v' with
    | false => simp [hf] at hx
    | true => simp [hf] at hx; subst hx; exact flat_VR hf
  | global g => simp [opv] at hx
  | func f =>
    simp only [opv, Option.some.injEq] at hx
    subst hx
    exact .func rfl (by simp) rfl (by simp)

theorem opvs_rel {φ : Emb} {tm : T Value} {nt : Nat} {a : Act} (h : TR φ tm nt a.tmps) : ∀ {xs : List Operand} {vs : List Value}, opvs tm xs = some vs → VRs φ vs (xs.map a.eval)
  | [], vs, hx => by simp [opvs] at hx; subst hx; exact .nil
  | x :: xs, vs, hx => by
    simp only [opvs, Option.bind_eq_some_iff] at hx
    obtain ⟨v, h1, ws, h2, h3⟩ := hx
    obtain rfl := Option.some.inj h3
    exact .cons (opv_rel h h1) (opvs_rel h h2)
end Go.Lg

namespace Go.Lg
open Go

theorem setL_length : ∀ (vs c : List Value) (o : Nat), (AH.setL c o vs).length = c.length
  | [], _, _ => rfl
  | v :: vs, c, o => by simp [AH.setL, setL_length vs]

theorem setL_get : ∀ (vs c : List Value) (o k : Nat), o + vs.length ≤ c.length → (AH.setL c o vs)[k]? = if o ≤ k ∧ k < o + vs.length then vs[k - o]? else c[k]?
  | [], c, o, k, _ => by
    simp only [AH.setL, List.length_nil, Nat.add_zero]
    rw [if_neg (by omega)]
  | v :: vs, c, o, k, h => by
    simp only [List.length_cons] at h
    simp only [AH.setL, List.length_cons]
    rw [setL_get vs (c.set o v) (o + 1) k (by simpa using (by omega : o + 1 + vs.length ≤ c.length))]
    by_cases h1 : o + 1 ≤ k ∧ k < o + 1 + vs.length
    · rw [if_pos h1, if_pos (by omega)]
      have : k - o = (k - (o + 1)) + 1 := by omega
      rw [this]; rfl
    · rw [if_neg h1]
      by_cases hk : k = o
      · subst hk
        rw [if_pos (by omega), List.getElem?_set_self (by omega)]
        simp
      · rw [if_neg (by omega), List.getElem?_set_ne (by omega)]

theorem add_lit (b o n : Nat) : (⟨b, o, none⟩ : Addr).add n = ⟨b, o + n, none⟩ := by
  unfold Addr.add; split <;> simp_all

theorem ld_rel {φ : Emb} {h : AH} {w : World} (hr : HRel φ h w) {b o : Nat} {v : Value} (hv : h.ld b o = some v) :
    ∃ t v', φ b = some t ∧ w.cell? ⟨t.blk, t.sh + o, none⟩ = some v' ∧ VR φ v v' ∧ cellOk v = true := by
  unfold AH.ld at hv
  split at hv
  · rename_i c op ro esz hb
    obtain ⟨t, h1, _, _, _, _, h2⟩ := hr.cells b c op ro esz hb
    obtain ⟨hc, v', h3, h4⟩ := h2 o v hv
    exact ⟨t, v', h1, h3, h4, hc⟩
  · cases hv

theorem ldCK_inv {h : AH} {c : CK} {b o : Nat} {K : Value → Res} {r : Value × AH} (hv : ldCK h c b o K = some r) : ∃ v, h.ld b o = some v ∧ K v = some r := by
  cases c <;> simp only [ldCK, Option.bind_eq_some_iff] at hv
  case int k =>
    obtain ⟨x, h1, h2⟩ := hv
    simp only [AH.ldI, Option.bind_eq_some_iff] at h1
    obtain ⟨v, h3, h4⟩ := h1
    split at h4
    · rename_i k' y
      cases hk : (k == k') with
      | false => simp [hk] at h4
      | true =>
        simp [hk] at h4
        have := eq_of_beq hk
        subst this; subst h4
        exact ⟨_, h3, h2⟩
    · cases h4
  case any => exact hv
  case ifc =>
    obtain ⟨x, h1, h2⟩ := hv
    simp only [AH.ldF, Option.bind_eq_some_iff] at h1
    obtain ⟨v, h3, h4⟩ := h1
    split at h4
    · obtain rfl := Option.some.inj h4; exact ⟨_, h3, h2⟩
    · obtain rfl := Option.some.inj h4; exact ⟨_, h3, h2⟩
    · cases h4
  case fn =>
    obtain ⟨x, h1, h2⟩ := hv
    simp only [AH.ldG, Option.bind_eq_some_iff] at h1
    obtain ⟨v, h3, h4⟩ := h1
    split at h4
    · obtain rfl := Option.some.inj h4; exact ⟨_, h3, h2⟩
    · obtain rfl := Option.some.inj h4; exact ⟨_, h3, h2⟩
    · cases h4
  all_goals
    obtain ⟨x, h1, h2⟩ := hv
    simp only [AH.ldB, AH.ldStr, AH.ldP, AH.ldS, AH.ldM, Option.bind_eq_some_iff] at h1
    obtain ⟨v, h3, h4⟩ := h1
    split at h4
    · obtain rfl := Option.some.inj h4
      exact ⟨_, h3, h2⟩
    · cases h4

theorem ldN_inv {h : AH} : ∀ {cs : List CK} {b o : Nat} {K : List Value → Res} {r : Value × AH}, ldN h cs b o K = some r →
    ∃ vs, vs.length = cs.length ∧ (∀ (i : Nat) (v : Value), vs[i]? = some v → h.ld b (o + i) = some v) ∧ K vs = some r
  | [], b, o, K, r, hv => ⟨[], rfl, by simp, hv⟩
  | c :: cs, b, o, K, r, hv => by
    obtain ⟨v, h1, h2⟩ := ldCK_inv hv
    obtain ⟨vs, h3, h4, h5⟩ := ldN_inv h2
    refine ⟨v :: vs, by simp [h3], fun i u hu => ?_, h5⟩
    cases i with
    | zero => simp at hu; subst hu; exact h1
    | succ i => simp at hu; have := h4 i u hu; rw [← this]; congr 1; omega

/-- a row of abstract cells stands for a row of the world's -/
theorem row_rel {φ : Emb} {h : AH} {w : World} (hr : HRel φ h w) {b o : Nat} {t : Tgt} (ht : φ b = some t) : ∀ {vs : List Value},
    (∀ (i : Nat) (v : Value), vs[i]? = some v → h.ld b (o + i) = some v) → ∃ cs, VRs φ vs cs ∧ (∀ (i : Nat) (c : Value), cs[i]? = some c → w.cell? ⟨t.blk, t.sh + o + i, none⟩ = some c) ∧ (∀ c ∈ cs, c.oneCell' = true) := by
  intro vs
  induction vs generalizing o with
  | nil => intro _; exact ⟨[], .nil, by simp, by simp⟩
  | cons v vs ih =>
    intro hv
    obtain ⟨t', v', h1, h2, h3, h4⟩ := ld_rel hr (hv 0 v rfl)
    rw [ht] at h1
    obtain rfl := Option.some.inj h1
    obtain ⟨cs, h5, h6, h7⟩ := ih (o := o + 1) fun i u hu => by rw [← hv (i + 1) u (by simpa using hu)]; congr 1; omega
    refine ⟨v' :: cs, .cons h3 h5, fun i c hc => ?_, ?_⟩
    · cases i with
      | zero => simp at hc; subst hc; simpa using h2
      | succ i => simp at hc; rw [← h6 i c hc]; congr 2; omega
    · intro c hc
      rcases List.mem_cons.1 hc with rfl | hc
      · exact h3.oneCell h4
      · exact h7 c hc

theorem kindsOf_inv {P : Program} {t : TypeId} {ag : Bool} {cs : List CK} (h : kindsOf P t = some (ag, cs)) :
    ∃ d i, P.underlying t = some d ∧ P.info? t = some i ∧ isAggD d = ag ∧ i.size = cs.length := by
  unfold kindsOf at h
  split at h
  · rename_i d i hd hi
    split at h
    · rename_i z hz
      cases hb : Nat.beq z.cells.size i.size with
      | false => simp [hb] at h
      | true =>
        simp [hb] at h
        refine ⟨d, i, hd, hi, h.1, ?_⟩
        rw [← h.2]
        have := Nat.eq_of_beq_eq_true hb
        simp [this]
    · cases h
  · cases h

theorem run_isAgg {P : Program} {t : TypeId} {d : TypeDesc} (hd : P.underlying t = some d) (w : World) : (isAgg t).run P w = .ok (isAggD d) w := by
  unfold isAgg
  simp only [underlying, Sem.run_bind, run_program, Result.andThen_ok, hd, Sem.run_pure]
  cases d <;> rfl
theorem run_sizeOf' {P : Program} {t : TypeId} {i : TypeInfo} (hi : P.info? t = some i) (w : World) : (sizeOf t).run P w = .ok i.size w := by
  simp [sizeOf, typeInfo, hi]
theorem run_underlying' {P : Program} {t : TypeId} {d : TypeDesc} (hd : P.underlying t = some d) (w : World) : (underlying t).run P w = .ok d w := by
  simp [underlying, hd]
theorem run_typeInfo' {P : Program} {t : TypeId} {i : TypeInfo} (hi : P.info? t = some i) (w : World) : (typeInfo t).run P w = .ok i w := by
  simp [typeInfo, hi]
theorem sizeT_inv {P : Program} {t : TypeId} {n : Nat} (h : sizeT P t = some n) : ∃ i, P.info? t = some i ∧ i.size = n := by
  simp only [sizeT, Option.bind_eq_some_iff] at h
  obtain ⟨i, h1, h2⟩ := h
  exact ⟨i, h1, Option.some.inj h2⟩

theorem run_load_cell {P : Program} {w : World} {a : Addr} {v : Value} (h : w.cell? a = some v) : (load a).run P w = .ok v w := by simp [h]

/-- what is read at an address -/
theorem ldT_sound {P : Program} {φ : Emb} {h : AH} {w : World} (hr : HRel φ h w) {ty : TypeId} {b o : Nat} {t : Tgt} (ht : φ b = some t) {K : Value → Res} {r : Value × AH}
    (hv : ldT P h ty b o K = some r) : ∃ v c, (loadVar ty ⟨t.blk, t.sh + o, none⟩).run P w = .ok c w ∧ VR φ v c ∧ K v = some r := by
  unfold ldT at hv
  split at hv
  · rename_i cs hk
    obtain ⟨d, i, hd, hi, hag, hsz⟩ := kindsOf_inv hk
    obtain ⟨vs, h1, h2, h3⟩ := ldN_inv hv
    obtain ⟨ws, h4, h5, _⟩ := row_rel hr ht h2
    refine ⟨_, .agg ws.toArray, ?_, h4.agg, h3⟩
    simp only [loadVar, Sem.run_bind, run_isAgg hd, Result.andThen_ok, hag, if_true, run_sizeOf' hi]
    have hl : i.size = ws.length := by rw [hsz, ← h1, h4.length]
    rw [hl]
    have := run_loadCells_list (P := P) w ⟨t.blk, t.sh + o, none⟩ ws (fun j v hj => by rw [add_lit]; exact h5 j v hj)
    simp [this]
  · rename_i c hk
    obtain ⟨d, i, hd, hi, hag, hsz⟩ := kindsOf_inv hk
    obtain ⟨v, h1, h2⟩ := ldCK_inv hv
    obtain ⟨t', v', h3, h4, h5, _⟩ := ld_rel hr h1
    rw [ht] at h3
    obtain rfl := Option.some.inj h3
    refine ⟨v, v', ?_, h5, h2⟩
    simp only [loadVar, Sem.run_bind, run_isAgg hd, Result.andThen_ok, hag]
    exact run_load_cell h4
  · cases hv

/-- a row of the world, written from a place on -/
theorem run_storeCells_rel {P : Program} (g o : Nat) (el : TypeId) : ∀ (vs : List Value) (i : Nat) (cur : Array Value) (w : World), w.heap[g]? = some (.cells cur el (0, 0)) → o + i + vs.length ≤ cur.size → (∀ v ∈ vs, v.oneCell' = true) →
    ∃ w', (storeCells ⟨g, o, none⟩ vs i).run P w = .ok () w' ∧ w'.heap[g]? = some (.cells (AH.setL cur.toList (o + i) vs).toArray el (0, 0)) ∧ (∀ k, k ≠ g → w'.heap[k]? = w.heap[k]?) ∧
      w'.os = w.os ∧ w'.tape = w.tape ∧ w'.output = w.output ∧ w'.heap.size = w.heap.size
  | [], i, cur, w, hg, _, _ => ⟨w, by simp [storeCells], by simpa [AH.setL] using hg, fun _ _ => rfl, rfl, rfl, rfl, rfl⟩
  | v :: vs, i, cur, w, hg, hl, h1 => by
    simp only [List.length_cons] at hl
    have hcell : w.cell? ⟨g, o + i, none⟩ = some cur[o + i] := by
      rw [cell_of_row w g (o + i) cur el (0, 0) hg]
      exact Array.getElem?_eq_getElem (by omega)
    have hst : (store (⟨g, o + i, none⟩ : Addr) v).run P w = .ok () (w.setCell ⟨g, o + i, none⟩ v) := by
      rw [run_store P w _ v .plain (h1 v (by simp)), hcell]
      simp [frozen_of_row w g (o + i) cur el hg]
    have hg' : (w.setCell ⟨g, o + i, none⟩ v).heap[g]? = some (.cells (cur.setIfInBounds (o + i) v) el (0, 0)) := by
      have := heap_setCell_same w g (o + i) cur el v hg
      simpa using this
    obtain ⟨w', h2, h3, h4, h5, h6, h7, h8⟩ := run_storeCells_rel (P := P) g o el vs (i + 1) (cur.setIfInBounds (o + i) v) (w.setCell ⟨g, o + i, none⟩ v) hg' (by simp; omega) (fun u hu => h1 u (by simp [hu]))
    refine ⟨w', ?_, ?_, fun k hk => ?_, h5, h6, h7, by simpa using h8⟩
    · simp only [storeCells, Sem.run_bind, add_lit, hst, Result.andThen_ok, h2]
    · rw [h3]; simp [AH.setL]; congr 1
    · rw [h4 k hk, heap_setCell_other _ _ _ _ hk]

theorem st_inv {h h' : AH} {b o : Nat} {vs : List Value} (hs : h.st b o vs = some h') : ∃ c op esz, h.get b = some (.cells c op false esz) ∧ o + vs.length ≤ c.length ∧ h' = h.set b (some (.cells (AH.setL c o vs) op false esz)) := by
  unfold AH.st at hs
  split at hs
  · rename_i c op ro esz hb
    cases ro with
    | true => simp at hs
    | false =>
      simp only [cond_false] at hs
      cases hle : Nat.ble (o + vs.length) c.length with
      | false => simp [hle] at hs
      | true =>
        simp only [hle, cond_true, Option.some.injEq] at hs
        exact ⟨c, op, esz, hb, Nat.le_of_ble_eq_true hle, hs.symm⟩
  · cases hs

/-- the abstract memory after a store stands for the world after it -/
theorem st_sound {P : Program} {φ : Emb} {h h' : AH} {w : World} (hr : HRel φ h w) {b o : Nat} {t : Tgt} (ht : φ b = some t) {vs cs : List Value} (hv : VRs φ vs cs) (hok : vs.all cellOk = true)
    (hs : h.st b o vs = some h') : ∃ w', (storeCells ⟨t.blk, t.sh + o, none⟩ cs).run P w = .ok () w' ∧ Good φ w h' w' φ := by
  obtain ⟨c, op, esz, hb, hle, rfl⟩ := st_inv hs
  obtain ⟨t', h1, hro, hesz, htot, hblk, hcells⟩ := hr.cells b c op false esz hb
  rw [ht] at h1
  obtain rfl := Option.some.inj h1
  obtain ⟨rc, el, hg, hrc⟩ := hblk rfl
  have hlen := hv.length
  have hone : ∀ u ∈ cs, u.oneCell' = true := by
    intro u hu
    obtain ⟨i, hi, rfl⟩ := List.mem_iff_getElem.1 hu
    have hi' : i < vs.length := by omega
    have := hv.get2 i vs[i] cs[i] (by simp) (by simp)
    exact this.oneCell (by rw [List.all_eq_true] at hok; exact hok _ (List.getElem_mem hi'))
  obtain ⟨w', h2, h3, h4, h5, h6, h7, h8⟩ := run_storeCells_rel (P := P) t.blk (t.sh + o) el cs 0 rc w hg (by omega) hone
  simp only [Nat.add_zero] at h3
  have hother : ∀ a : Addr, a.block ≠ t.blk → w'.cell? a = w.cell? a := fun a ha => by simp [World.cell?, h4 a.block ha]
  refine ⟨w', h2, .refl _ _, ⟨h5, h6, h7, by omega, fun B hB hro' => ?_⟩, ?_⟩
  · by_cases hBt : B = t.blk
    · have := hro' b t ht hBt.symm
      rw [hro] at this
      cases this
    · exact h4 B hBt
  · refine ⟨hr.lt, fun b' t' h => by have := hr.blkLt b' t' h; omega, ?_, ?_, ?_, ?_, ?_, ?_⟩
    · intro b' c' op' ro' esz' hb'
      rw [AH.get_set] at hb'
      by_cases e : b' = b
      · subst e
        rw [if_pos rfl] at hb'
        simp only [Option.some.injEq, Blk.cells.injEq] at hb'
        obtain ⟨rfl, rfl, rfl, rfl⟩ := hb'
        refine ⟨t, ht, hro, hesz, by rw [setL_length]; exact htot, fun _ => ⟨_, el, h3, by simp [setL_length]; exact hrc⟩, fun k v hk => ?_⟩
        rw [setL_get _ _ _ _ hle] at hk
        rw [cell_of_row w' t.blk _ _ el (0, 0) h3]
        simp only [List.getElem?_toArray]
        rw [setL_get _ _ _ _ (by simp; omega)]
        by_cases hin : o ≤ k ∧ k < o + vs.length
        · rw [if_pos hin] at hk
          rw [if_pos (by omega)]
          obtain ⟨c', hc', hvr⟩ := hv.get _ _ hk
          refine ⟨?_, c', ?_, hvr⟩
          · rw [List.all_eq_true] at hok
            exact hok _ (List.mem_of_getElem? hk)
          · rw [← hc']; congr 1; omega
        · rw [if_neg hin] at hk
          rw [if_neg (by omega)]
          obtain ⟨hc, v', h9, h10⟩ := hcells k v hk
          rw [cell_of_row w t.blk _ _ el (0, 0) hg] at h9
          exact ⟨hc, v', by simpa using h9, h10⟩
      · rw [if_neg e] at hb'
        obtain ⟨t', g1, g2, g3, g4, g5, g6⟩ := hr.cells b' c' op' ro' esz' hb'
        have hne : t'.blk ≠ t.blk := fun he => by
          rcases hr.inj b' b _ _ t' t hb' hb g1 ht he with h | ⟨_, h⟩
          · exact e h
          · rw [hro] at h; cases h
        refine ⟨t', g1, g2, g3, g4, fun hf => by rw [h4 _ hne]; exact g5 hf, fun k v hk => ?_⟩
        obtain ⟨hc, v', h9, h10⟩ := g6 k v hk
        exact ⟨hc, v', by rw [hother _ hne]; exact h9, h10⟩
    · intro b' es clk hb'
      rw [AH.get_set] at hb'
      by_cases e : b' = b
      · subst e; rw [if_pos rfl] at hb'; cases hb'
      · rw [if_neg e] at hb'
        obtain ⟨t', es', g1, g2, g3, g4⟩ := hr.maps b' es clk hb'
        have hne : t'.blk ≠ t.blk := fun he => by
          rcases hr.inj b' b _ _ t' t hb' hb g1 ht he with h | ⟨_, h⟩
          · exact e h
          · rw [hro] at h; cases h
        exact ⟨t', es', g1, g2, by rw [h4 _ hne]; exact g3, g4⟩
    · intro b1 b2 x x' t1 t2 hx hx' h1 h2' he
      rw [AH.get_set] at hx hx'
      have fx : ∃ y, h.get b1 = some y := by
        by_cases e : b1 = b
        · subst e; exact ⟨_, hb⟩
        · rw [if_neg e] at hx; exact ⟨_, hx⟩
      have fx' : ∃ y, h.get b2 = some y := by
        by_cases e : b2 = b
        · subst e; exact ⟨_, hb⟩
        · rw [if_neg e] at hx'; exact ⟨_, hx'⟩
      obtain ⟨y, hy⟩ := fx
      obtain ⟨y', hy'⟩ := fx'
      exact hr.inj b1 b2 y y' t1 t2 hy hy' h1 h2' he
    · intro b' x hx
      rw [AH.get_set] at hx
      by_cases e : b' = b
      · subst e; exact hr.gets _ _ hb
      · rw [if_neg e] at hx; exact hr.gets _ _ hx
    · intro b' c' esz' t' hx ht'
      rw [AH.get_set] at hx
      by_cases e : b' = b
      · subst e
        rw [if_pos rfl] at hx
        simp only [Option.some.injEq, Blk.cells.injEq] at hx
        obtain ⟨_, rfl, _, _⟩ := hx
        exact hr.sh0 _ _ _ _ hb ht'
      · rw [if_neg e] at hx; exact hr.sh0 _ _ _ _ hx ht'
    · intro b' m since seen last hb'
      rw [AH.get_set] at hb'
      by_cases e : b' = b
      · subst e; rw [if_pos rfl] at hb'; cases hb'
      · rw [if_neg e] at hb'
        obtain ⟨t', cm, g1, g2, g3, g4, g5⟩ := hr.iters b' m since seen last hb'
        have hne : t'.blk ≠ t.blk := fun he => by
          rcases hr.inj b' b _ _ t' t hb' hb g1 ht he with h | ⟨_, h⟩
          · exact e h
          · rw [hro] at h; cases h
        exact ⟨t', cm, g1, g2, g3, by rw [h4 _ hne]; exact g4, g5⟩

/-- the embedding with one block more -/
def grow (φ : Emb) (n : Nat) (t : Tgt) : Emb := fun b => if b = n then some t else φ b
theorem grow_sub {φ : Emb} {h : AH} {w : World} (hr : HRel φ h w) (t : Tgt) : Sub φ (grow φ h.n t) := fun b u hb => by
  have := hr.lt b u hb
  simp only [grow]
  rw [if_neg (by omega)]
  exact hb
theorem grow_new (φ : Emb) (n : Nat) (t : Tgt) : grow φ n t n = some t := by simp [grow]

/-- a new row of cells -/
theorem push_sound {φ : Emb} {h : AH} {w : World} (hr : HRel φ h w) {c rc : List Value} {el : TypeId} {op : Bool} {esz : Nat} (tail : List Value) (hv : VRs φ c rc) (hok : c.all cellOk = true) :
    Good φ w (h.push (.cells c op false esz)) (w.alloc (.cells (rc ++ tail).toArray el)) (grow φ h.n ⟨w.heap.size, 0, rc.length + tail.length, esz, false⟩) := by
  have hsub := grow_sub hr ⟨w.heap.size, 0, rc.length + tail.length, esz, false⟩
  have hlen := hv.length
  refine ⟨⟨hsub, fun b t hb => ?_⟩, ⟨rfl, rfl, rfl, by simp, fun B hB _ => heap_alloc_old w _ B hB⟩, ?_⟩
  · simp only [grow] at hb
    split at hb
    · obtain rfl := Option.some.inj hb; exact .inr (.inl (Nat.le_refl _))
    · exact .inl hb
  · have hnew := heap_alloc_new w (.cells (rc ++ tail).toArray el)
    refine ⟨?_, ?_, ?_, ?_, ?_, ?_, ?_, ?_⟩
    · intro b t hb
      simp only [grow] at hb
      split at hb
      · rename_i e; simp [AH.push, e]
      · have := hr.lt b t hb; simp [AH.push]; omega
    · intro b t hb
      simp only [grow] at hb
      split at hb
      · obtain rfl := Option.some.inj hb; simp
      · have := hr.blkLt b t hb; simp; omega
    · intro b c' op' ro' esz' hb
      rw [AH.get_push] at hb
      by_cases e : b = h.n
      · subst e
        rw [if_pos rfl] at hb
        simp only [Option.some.injEq, Blk.cells.injEq] at hb
        obtain ⟨rfl, rfl, rfl, rfl⟩ := hb
        refine ⟨_, grow_new φ h.n _, rfl, rfl, by simp; omega, fun _ => ⟨_, el, hnew, by simp⟩, fun k v hk => ?_⟩
        rw [cell_of_row _ w.heap.size _ _ el (0, 0) hnew]
        obtain ⟨v', h1, h2⟩ := hv.get k v hk
        refine ⟨by rw [List.all_eq_true] at hok; exact hok _ (List.mem_of_getElem? hk), v', ?_, h2.mono hsub⟩
        simp only [Nat.zero_add, List.getElem?_toArray]
        rw [List.getElem?_append_left (by
          rcases Nat.lt_or_ge k rc.length with h' | h'
          · exact h'
          · rw [List.getElem?_eq_none h'] at h1; cases h1)]
        exact h1
      · rw [if_neg e] at hb
        obtain ⟨t', g1, g2, g3, g4, g5, g6⟩ := hr.cells b c' op' ro' esz' hb
        have hlt := hr.blkLt b t' g1
        refine ⟨t', hsub _ _ g1, g2, g3, g4, fun hf => by rw [heap_alloc_old w _ _ hlt]; exact g5 hf, fun k v hk => ?_⟩
        obtain ⟨hc, v', h9, h10⟩ := g6 k v hk
        exact ⟨hc, v', by rw [World.cell?_alloc_lt _ _ _ hlt]; exact h9, h10.mono hsub⟩
    · intro b es clk hb
      rw [AH.get_push] at hb
      by_cases e : b = h.n
      · subst e; rw [if_pos rfl] at hb; cases hb
      · rw [if_neg e] at hb
        obtain ⟨t', es', g1, g2, g3, g4⟩ := hr.maps b es clk hb
        have hlt := hr.blkLt b t' g1
        exact ⟨t', es', hsub _ _ g1, g2, by rw [heap_alloc_old w _ _ hlt]; exact g3, g4.len, fun i e e' h1 h2 => let ⟨a, b, c, d⟩ := g4.at_ i e e' h1 h2; ⟨a, b, c, d.mono hsub⟩⟩
    · intro b1 b2 x x' t1 t2 hx hx' h1 h2 he
      rw [AH.get_push] at hx hx'
      simp only [grow] at h1 h2
      by_cases e1 : b1 = h.n
      · by_cases e2 : b2 = h.n
        · exact .inl (e1.trans e2.symm)
        · rw [if_pos e1] at h1
          rw [if_neg e2] at h2
          obtain rfl := Option.some.inj h1
          have := hr.blkLt b2 t2 h2
          simp at he; omega
      · rw [if_neg e1] at h1 hx
        by_cases e2 : b2 = h.n
        · rw [if_pos e2] at h2
          obtain rfl := Option.some.inj h2
          have := hr.blkLt b1 t1 h1
          simp at he; omega
        · rw [if_neg e2] at h2 hx'
          exact hr.inj b1 b2 _ _ t1 t2 hx hx' h1 h2 he
    · intro b x hx
      rw [AH.get_push] at hx
      by_cases e : b = h.n
      · simp [AH.push, e]
      · rw [if_neg e] at hx
        have := hr.gets b x hx
        simp [AH.push]; omega
    · intro b c' esz' t' hx ht'
      rw [AH.get_push] at hx
      simp only [grow] at ht'
      by_cases e : b = h.n
      · rw [if_pos e] at ht'
        obtain rfl := Option.some.inj ht'
        rfl
      · rw [if_neg e] at hx ht'
        exact hr.sh0 _ _ _ _ hx ht'
    · intro b m since seen last hb
      rw [AH.get_push] at hb
      by_cases e : b = h.n
      · rw [if_pos e] at hb; cases hb
      · rw [if_neg e] at hb
        obtain ⟨t', cm, g1, g2, g3, g4, g5⟩ := hr.iters b m since seen last hb
        exact ⟨t', cm, hsub _ _ g1, g2, g3, by rw [heap_alloc_old w _ _ (hr.blkLt _ _ g1)]; exact g4, g5.mono hsub⟩

/-- what is forgotten -/
theorem forget_rel {φ : Emb} {h : AH} {w : World} (hr : HRel φ h w) (b : Nat) : HRel φ (h.set b none) w := by
  have key : ∀ c x, (h.set b none).get c = some x → h.get c = some x ∧ c ≠ b := fun c x hc => by
    rw [AH.get_set] at hc
    split at hc
    · cases hc
    · rename_i hne; exact ⟨hc, hne⟩
  exact ⟨hr.lt, hr.blkLt, fun b' c op ro esz hb => hr.cells b' c op ro esz (key _ _ hb).1, fun b' es clk hb => hr.maps b' es clk (key _ _ hb).1,
    fun b1 b2 x x' t1 t2 hx hx' => hr.inj b1 b2 x x' t1 t2 (key _ _ hx).1 (key _ _ hx').1, fun b' x hx => hr.gets b' x (key _ _ hx).1, fun b' c esz t hx ht => hr.sh0 b' c esz t (key _ _ hx).1 ht, fun b' m s l k hx => hr.iters b' m s l k (key _ _ hx).1⟩
/-- goings-through are let go -/
theorem noIt_rel {φ : Emb} {h : AH} {w : World} (hr : HRel φ h w) : HRel φ h.noIt w := by
  have key : ∀ c x, h.noIt.get c = some x → h.get c = some x ∧ ∀ m s l k, x ≠ .iter m s l k := fun c x hc => by
    rw [AH.get_noIt] at hc
    unfold noItB at hc
    split at hc
    · cases hc
    · rename_i hne; exact ⟨hc, fun m s l k e => hne m s l k (by rw [hc, e])⟩
  exact ⟨hr.lt, hr.blkLt, fun b' c op ro esz hb => hr.cells b' c op ro esz (key _ _ hb).1, fun b' es clk hb => hr.maps b' es clk (key _ _ hb).1,
    fun b1 b2 x x' t1 t2 hx hx' => hr.inj b1 b2 x x' t1 t2 (key _ _ hx).1 (key _ _ hx').1, fun b' x hx => hr.gets b' x (key _ _ hx).1, fun b' c esz t hx ht => hr.sh0 b' c esz t (key _ _ hx).1 ht, fun b' m s l k hx => hr.iters b' m s l k (key _ _ hx).1⟩
theorem cut_rel {φ : Emb} {h : AH} {w : World} (n0 : Nat) (hr : HRel φ h w) : HRel φ (h.cut n0) w := by
  have g := hr
  have key : ∀ c x, (h.cut n0).get c = some x → h.get c = some x := fun c x hc => AH.get_cut hc
  have hn := AH.cut_n n0 h
  exact ⟨fun b t hb => Nat.lt_of_lt_of_le (hr.lt b t hb) hn, g.blkLt, fun b' c op ro esz hb => g.cells b' c op ro esz (key _ _ hb), fun b' es clk hb => g.maps b' es clk (key _ _ hb),
    fun b1 b2 x x' t1 t2 hx hx' => g.inj b1 b2 x x' t1 t2 (key _ _ hx) (key _ _ hx'), fun b' x hx => Nat.lt_of_lt_of_le (g.gets b' x (key _ _ hx)) hn, fun b' c esz t hx ht => g.sh0 b' c esz t (key _ _ hx) ht, fun b' m s l k hx => g.iters b' m s l k (key _ _ hx)⟩
theorem Good.endH {φ : Emb} {w w' : World} {h : AH} {φ' : Emb} (g : Good φ w h w' φ') (k : Option (Option Nat)) : Good φ w (endH k h) w' φ' := by
  match k with
  | none => exact g
  | some none => exact ⟨g.ext, g.fr, noIt_rel g.rel⟩
  | some (some n) => exact ⟨g.ext, g.fr, cut_rel n g.rel⟩
end Go.Lg

namespace Go.Lg
open Go

def OpRun (P : Program) (a : Act) (o : Oper) (w : World) (c : Value) (w' : World) : Prop :=
  (execOp a.eval o).run P w = .ok (.value c) w' ∨ ((execOp a.eval o).run P w = .ok .skip w' ∧ c = undef)

section inv
variable {φ : Emb} {c : Value}
theorem vr_bool {b : Bool} (h : VR φ (.bool b) c) : c = .bool b := by cases h; rfl
theorem vr_int {k : IntKind} {n : Int} (h : VR φ (.int k n) c) : c = .int k n := by cases h; rfl
theorem vr_string {s : ByteArray} (h : VR φ (.string s) c) : c = .string s := by cases h; rfl
theorem vr_nilP (h : VR φ (.pointer none) c) : c = .pointer none := by cases h; rfl
theorem vr_ptr {a : Addr} (h : VR φ (.pointer (some a)) c) : ∃ t, φ a.block = some t ∧ a.spot = none ∧ c = .pointer (some ⟨t.blk, t.sh + a.off, none⟩) := by
  cases h with
  | ptr h => exact ⟨_, h, rfl, rfl⟩
theorem vr_agg {as : Array Value} (h : VR φ (.agg as) c) : ∃ cs, c = .agg cs ∧ VRs φ as.toList cs.toList := by
  cases h with
  | agg h1 h2 => exact ⟨_, rfl, VRs.of_get (by simpa using h1) (by simpa using h2)⟩
theorem vr_tuple {as : Array Value} (h : VR φ (.tuple as) c) : ∃ cs, c = .tuple cs ∧ VRs φ as.toList cs.toList := by
  cases h with
  | tuple h1 h2 => exact ⟨_, rfl, VRs.of_get (by simpa using h1) (by simpa using h2)⟩
theorem vr_iface {t : TypeId} {v : Value} (h : VR φ (.iface t v) c) : ∃ c', c = .iface t c' ∧ VR φ v c' := by
  cases h with
  | iface h => exact ⟨_, rfl, h⟩
theorem vr_nilI (h : VR φ .nilIface c) : c = .nilIface := by cases h; rfl
theorem vr_nilF (h : VR φ .nilFunc c) : c = .nilFunc := by cases h; rfl
end inv

theorem flat1_cellOk {v : Value} (h : flat1 v = true) : cellOk v = true := by
  unfold flat1 at h
  split at h <;> first | rfl | (simp at h)
theorem all_flat1_cellOk {l : List Value} (h : l.all flat1 = true) : l.all cellOk = true := by
  rw [List.all_eq_true] at h ⊢
  exact fun v hv => flat1_cellOk (h v hv)

theorem zeroCellsOf_inv {P : Program} {t : TypeId} {l : List Value} (h : zeroCellsOf P t = some l) :
    ∃ i z, P.info? t = some i ∧ i.zero = some z ∧ z.cells.toList = l ∧ z.cells.size = i.size ∧ l.all flat1 = true := by
  simp only [zeroCellsOf, Option.bind_eq_some_iff] at h
  obtain ⟨i, h1, z, h2, h3⟩ := h
  cases hb : (Nat.beq z.cells.size i.size && z.cells.toList.all flat1) with
  | false => rw [hb, cond_false] at h3; cases h3
  | true =>
    simp only [hb, cond_true, Option.some.injEq] at h3
    subst h3
    simp only [Bool.and_eq_true] at hb
    exact ⟨i, z, h1, h2, rfl, Nat.eq_of_beq_eq_true hb.1, hb.2⟩
theorem run_zeroValue' {P : Program} {t : TypeId} {i : TypeInfo} {z : Value} (hi : P.info? t = some i) (hz : i.zero = some z) (w : World) : (zeroValue t).run P w = .ok z w := by
  simp [zeroValue, typeInfo, hi, hz]

theorem run_newVar {P : Program} (t : TypeId) (v : Value) (w : World) : (newVar t v).run P w = .ok ⟨w.heap.size, 0, none⟩ (w.alloc (.cells v.cells t)) := by
  simp [newVar, newRow]

/-- filling, over lists -/
theorem foldl_zipIdx_setL : ∀ (l : List Value) (o n : Nat) (cs : Array Value), ((l.zipIdx n).foldl (fun cs p => cs.setIfInBounds (o + p.2) p.1) cs).toList = AH.setL cs.toList (o + n) l
  | [], o, n, cs => by simp [AH.setL]
  | v :: l, o, n, cs => by
    simp only [List.zipIdx_cons, List.foldl_cons, AH.setL]
    rw [foldl_zipIdx_setL l o (n + 1)]
    simp [Nat.add_assoc]

theorem fill_eq (pl : Nat → Option (Nat × Nat)) : ∀ (ps : List (Nat × Value)) (cs : Array Value), (Instr.fill pl cs ps).map (·.toList) = fillL pl cs.toList ps
  | [], cs => by simp [Instr.fill, fillL]
  | (i, v) :: ps, cs => by
    simp only [Instr.fill, fillL]
    cases h : pl i with
    | none => simp
    | some p =>
      obtain ⟨off, size⟩ := p
      simp only [Option.bind_some]
      by_cases hc : (v.cells.size ≠ size || off + v.cells.size > cs.size) = true
      · rw [if_pos hc]
        have : (Nat.beq v.cells.toList.length size && Nat.ble (off + v.cells.toList.length) cs.toList.length) = false := by
          rw [Bool.eq_false_iff]
          intro ht
          simp only [Bool.and_eq_true, Array.length_toList] at ht
          have h1 := Nat.eq_of_beq_eq_true ht.1
          have h2 := Nat.le_of_ble_eq_true ht.2
          simp at hc
          omega
        rw [this]; rfl
      · rw [if_neg hc]
        have : (Nat.beq v.cells.toList.length size && Nat.ble (off + v.cells.toList.length) cs.toList.length) = true := by
          simp only [Bool.or_eq_true, decide_eq_true_eq, not_or, Decidable.not_not] at hc
          simp only [Bool.and_eq_true, Array.length_toList]
          exact ⟨by rw [hc.1]; exact Nat.beq_refl _, Nat.ble_eq_true_of_le (by omega)⟩
        rw [this, cond_true, fill_eq pl ps]
        congr 1
        have := foldl_zipIdx_setL v.cells.toList off 0 cs
        rw [Nat.add_zero] at this
        rw [← this, ← Array.foldl_toList, Array.toList_zipIdx]

/-- parts that stand for parts -/
inductive PR (φ : Emb) : List (Nat × Value) → List (Nat × Value) → Prop
  | nil : PR φ [] []
  | cons {i : Nat} {v w : Value} {l m : List (Nat × Value)} : VR φ v w → PR φ l m → PR φ ((i, v) :: l) ((i, w) :: m)

theorem opParts_rel {φ : Emb} {tm : T Value} {nt : Nat} {a : Act} (h : TR φ tm nt a.tmps) : ∀ {xs : List (Nat × Operand)} {vs : List (Nat × Value)}, opParts tm xs = some vs → PR φ vs (xs.map fun p => (p.1, a.eval p.2))
  | [], vs, hx => by simp [opParts] at hx; subst hx; exact .nil
  | (i, x) :: xs, vs, hx => by
    simp only [opParts, Option.bind_eq_some_iff] at hx
    obtain ⟨v, h1, ws, h2, h3⟩ := hx
    obtain rfl := Option.some.inj h3
    exact .cons (opv_rel h h1) (opParts_rel h h2)

theorem fillL_rel {φ : Emb} (pl : Nat → Option (Nat × Nat)) {ps qs : List (Nat × Value)} (hp : PR φ ps qs) : ∀ {cs ds : List Value} {r : List Value}, VRs φ cs ds → fillL pl cs ps = some r → ∃ r', fillL pl ds qs = some r' ∧ VRs φ r r' := by
  induction hp with
  | nil => intro cs ds r h hr; simp [fillL] at hr; subst hr; exact ⟨ds, rfl, h⟩
  | @cons i v u l m hv _ ih =>
    intro cs ds r h hr
    simp only [fillL, Option.bind_eq_some_iff] at hr
    obtain ⟨p, hp, hr⟩ := hr
    cases hc : (Nat.beq v.cells.toList.length p.2 && Nat.ble (p.1 + v.cells.toList.length) cs.length) with
    | false => rw [hc, cond_false] at hr; cases hr
    | true =>
      rw [hc, cond_true] at hr
      obtain ⟨r', h1, h2⟩ := ih (h.setL hv.cells p.1) hr
      refine ⟨r', ?_, h2⟩
      simp only [fillL, hp, Option.bind_some]
      rw [← hv.cells.length, ← h.length, hc]
      exact h1

theorem run_mapM_ok {P : Program} {α β : Type} (w : World) (g : α → Sem β) (v : α → β) : ∀ (fs : List α), (∀ f ∈ fs, (g f).run P w = .ok (v f) w) → (fs.mapM g).run P w = .ok (fs.map v) w
  | [], _ => by simp
  | f :: fs, h => by
    have h1 := h f (by simp)
    have h2 := run_mapM_ok w g v fs (fun x hx => h x (by simp [hx]))
    simp only [List.mapM_cons, Sem.run_bind, h1, Result.andThen_ok, h2, Sem.run_pure, List.map_cons]
theorem placesL_inv {P : Program} : ∀ {fs : List Field} {l : List (Nat × Nat)}, placesL P fs = some l → l = fs.map (fun f => (f.offset, ((P.info? f.type).map (·.size)).getD 0)) ∧ ∀ f ∈ fs, (P.info? f.type).isSome = true
  | [], l, h => by simp [placesL] at h; subst h; simp
  | f :: fs, l, h => by
    simp only [placesL, Option.bind_eq_some_iff] at h
    obtain ⟨n, h1, l', h2, h3⟩ := h
    obtain rfl := Option.some.inj h3
    obtain ⟨i, hi, hn⟩ := sizeT_inv h1
    obtain ⟨e, hs⟩ := placesL_inv h2
    subst e
    refine ⟨by simp [hi, hn], fun g hg => ?_⟩
    rcases List.mem_cons.1 hg with rfl | hg
    · simp [hi]
    · exact hs g hg
theorem run_mapM_places {P : Program} (w : World) {fs : Array Field} {l : List (Nat × Nat)} (h : placesL P fs.toList = some l) :
    (fs.mapM fun f => do pure (f.offset, ← sizeOf f.type) : Sem (Array (Nat × Nat))).run P w = .ok l.toArray w := by
  obtain ⟨rfl, hs⟩ := placesL_inv h
  rw [Array.mapM_eq_mapM_toList]
  have := run_mapM_ok (P := P) w (fun f : Field => (do pure (f.offset, ← sizeOf f.type) : Sem (Nat × Nat))) (fun f => (f.offset, ((P.info? f.type).map (·.size)).getD 0)) fs.toList (fun f hf => by
    have := hs f hf
    cases hi : P.info? f.type with
    | none => rw [hi] at this; cases this
    | some i => simp [run_sizeOf' hi])
  simp only [Sem.run_map, this, Result.andThen_ok]

theorem repL_length (z : List Value) : ∀ n, (repL z n).length = n * z.length
  | 0 => by simp [repL]
  | n + 1 => by simp [repL, repL_length z n, Nat.add_mul, Nat.add_comm]
theorem repL_get (z : List Value) : ∀ (n k : Nat), k < n * z.length → (repL z n)[k]? = z[k % z.length]?
  | 0, k, h => by simp at h
  | n + 1, k, h => by
    have hz : 0 < z.length := by
      rcases Nat.eq_zero_or_pos z.length with h0 | h0
      · rw [h0] at h; simp at h
      · exact h0
    simp only [repL]
    by_cases hk : k < z.length
    · rw [List.getElem?_append_left hk, Nat.mod_eq_of_lt hk]
    · rw [List.getElem?_append_right (by omega), repL_get z n (k - z.length) (by rw [Nat.add_mul, Nat.one_mul] at h; omega)]
      congr 1
      exact (Nat.mod_eq_sub_mod (by omega)).symm
theorem range_map_repL (z : Array Value) (n : Nat) : ((Array.range (n * z.size)).map (z[· % z.size]!)).toList = repL z.toList n := by
  apply List.ext_getElem?
  intro k
  by_cases hk : k < n * z.size
  · have hz : 0 < z.size := by
      rcases Nat.eq_zero_or_pos z.size with h0 | h0
      · rw [h0] at hk; simp at hk
      · exact h0
    rw [repL_get _ _ _ (by simpa using hk)]
    have hm := Nat.mod_lt k hz
    simp [hk, hm]
  · rw [List.getElem?_eq_none (by simp; omega), List.getElem?_eq_none (by simp [repL_length]; omega)]
theorem zeroCells_toList (z : Array Value) (n : Nat) : (Builtin.zeroCells z n).toList = repL z.toList n := range_map_repL z n
theorem repL_VRs {φ : Emb} {z z' : List Value} (h : VRs φ z z') : ∀ n, VRs φ (repL z n) (repL z' n)
  | 0 => .nil
  | n + 1 => h.append (repL_VRs h n)
theorem repL_all {z : List Value} {p : Value → Bool} (h : z.all p = true) : ∀ n, (repL z n).all p = true
  | 0 => rfl
  | n + 1 => by simp only [repL, List.all_append, h, repL_all h n, Bool.and_self]
end Go.Lg

namespace Go.Lg
open Go

theorem castCK_inv {c : CK} {v : Value} {K : Value → Res} {r : Value × AH} (h : castCK c v K = some r) : K v = some r := by
  unfold castCK at h
  cases c with
  | any => exact h
  | ifc =>
    simp only [Option.bind_eq_some_iff] at h
    obtain ⟨x, h1, h2⟩ := h
    unfold asF at h1
    split at h1
    · obtain rfl := Option.some.inj h1; exact h2
    · obtain rfl := Option.some.inj h1; exact h2
    · cases h1
  | fn =>
    simp only [Option.bind_eq_some_iff] at h
    obtain ⟨x, h1, h2⟩ := h
    unfold asG at h1
    split at h1
    · obtain rfl := Option.some.inj h1; exact h2
    · obtain rfl := Option.some.inj h1; exact h2
    · cases h1
  | int k =>
    simp only [Option.bind_eq_some_iff] at h
    obtain ⟨x, h1, h2⟩ := h
    unfold asI at h1
    split at h1
    · rename_i k' y
      cases hk : (k == k') with
      | false => rw [hk, cond_false] at h1; cases h1
      | true =>
        rw [hk, cond_true] at h1
        obtain rfl := Option.some.inj h1
        have := eq_of_beq hk
        subst this
        exact h2
    · cases h1
  | _ =>
    simp only [Option.bind_eq_some_iff] at h
    obtain ⟨x, h1, h2⟩ := h
    simp only [asB, asStr, asP, asS, asM] at h1
    split at h1
    · obtain rfl := Option.some.inj h1; exact h2
    · cases h1
theorem castN_inv : ∀ {cs : List CK} {l : List Value} {K : List Value → Res} {r : Value × AH}, castN cs l K = some r → K l = some r
  | [], [], _, _, h => h
  | [], _ :: _, _, _, h => by simp [castN] at h
  | c :: cs, l, K, r, h => by
    simp only [castN, Option.bind_eq_some_iff] at h
    obtain ⟨⟨v, vs⟩, h1, h2⟩ := h
    cases l with
    | nil => simp [hdO] at h1
    | cons u us =>
      simp only [hdO, Option.some.injEq, Prod.mk.injEq] at h1
      obtain ⟨rfl, rfl⟩ := h1
      have h3 := castCK_inv h2
      exact castN_inv (cs := cs) (l := us) (K := fun vs => K (u :: vs)) h3
theorem castT_inv {P : Program} {t : TypeId} {v : Value} {K : Value → Res} {r : Value × AH} (h : castT P t v K = some r) : K v = some r := by
  unfold castT at h
  split at h
  · simp only [Option.bind_eq_some_iff] at h
    obtain ⟨l, h1, h2⟩ := h
    have h3 := castN_inv h2
    unfold asAg at h1
    split at h1
    · obtain rfl := Option.some.inj h1; simpa using h3
    · cases h1
  · exact castCK_inv h
  · cases h
def OpOK (P : Program) (φ : Emb) (_h : AH) (w : World) (a : Act) (o : Oper) (K : Option Value → AH → Res) (r : Value × AH) : Prop :=
  ∃ φ' v h' c w', OpRun P a o w c w' ∧ Good φ w h' w' φ' ∧ (∀ x, v = some x → VR φ' x c) ∧ K v h' = some r

theorem castX_inv {P : Program} {t : TypeId} {v : Value} {K : Value → Res} {r : Value × AH} (h : castX P t v K = some r) : K v = some r := by
  unfold castX at h
  split at h
  · simp only [Option.bind_eq_some_iff] at h
    obtain ⟨l, h1, h2⟩ := h
    have h3 := castN_inv h2
    unfold asAg at h1
    split at h1
    · obtain rfl := Option.some.inj h1; simpa using h3
    · cases h1
  · exact castCK_inv h
  · exact h
theorem OpOK.value {P : Program} {φ : Emb} {h : AH} {w : World} {a : Act} {o : Oper} {K : Option Value → AH → Res} {r : Value × AH} {v c : Value}
    (hr : HRel φ h w) (hrun : (execOp a.eval o).run P w = .ok (.value c) w) (hv : VR φ v c) (hk : K (some v) h = some r) : OpOK P φ h w a o K r :=
  ⟨φ, some v, h, c, w, .inl hrun, .refl hr, fun x hx => by obtain rfl := Option.some.inj hx; exact hv, hk⟩
theorem OpOK.good {P : Program} {φ φ' : Emb} {h h' : AH} {w w' : World} {a : Act} {o : Oper} {K : Option Value → AH → Res} {r : Value × AH} {v c : Value}
    (hrun : (execOp a.eval o).run P w = .ok (.value c) w') (hg : Good φ w h' w' φ') (hv : VR φ' v c) (hk : K (some v) h' = some r) : OpOK P φ h w a o K r :=
  ⟨φ', some v, h', c, w', .inl hrun, hg, fun x hx => by obtain rfl := Option.some.inj hx; exact hv, hk⟩

theorem run_v {P : Program} {s : Sem Value} {w w' : World} {c : Value} (h : s.run P w = .ok c w') : (do pure (Next.value (← s)) : Sem Next).run P w = .ok (.value c) w' := by
  simp [h]

section
variable {P : Program} {φ : Emb} {h : AH} {w : World} {a : Act} {tm : T Value} {nt : Nat} {K : Option Value → AH → Res} {r : Value × AH} {O : Orc}
  {dst : Option Tmp} {ty : TypeId} {pos : String} {after : Array Edge} {guard : Option (Nat × Bool)}

theorem ok_move {x : Operand} (hr : HRel φ h w) (ht : TR φ tm nt a.tmps) (hk : evOp P O tm (.move x) h K = some r) : OpOK P φ h w a ⟨dst, .move x, ty, pos, after, guard⟩ K r := by
  simp only [evOp, Option.bind_eq_some_iff] at hk
  obtain ⟨v, h1, h2⟩ := hk
  exact .value hr rfl (opv_rel ht h1) h2
theorem ok_assign {x : Operand} (hr : HRel φ h w) (ht : TR φ tm nt a.tmps) (hk : evOp P O tm (.assign x) h K = some r) : OpOK P φ h w a ⟨dst, .assign x, ty, pos, after, guard⟩ K r := by
  simp only [evOp, Option.bind_eq_some_iff] at hk
  obtain ⟨v, h1, h2⟩ := hk
  exact .value hr rfl (opv_rel ht h1) h2

theorem ok_pick {c x y : Operand} (hr : HRel φ h w) (ht : TR φ tm nt a.tmps) (hk : evOp P O tm (.pick c x y) h K = some r) : OpOK P φ h w a ⟨dst, .pick c x y, ty, pos, after, guard⟩ K r := by
  simp only [evOp] at hk
  split at hk
  · rename_i t hc
    have hb := vr_bool (opv_rel ht hc)
    cases t with
    | true =>
      simp only [cond_true, Option.bind_eq_some_iff] at hk
      obtain ⟨v, h1, h2⟩ := hk
      exact .value hr (c := a.eval x) (by simp [execOp, hb, asBool]) (opv_rel ht h1) h2
    | false =>
      simp only [cond_false, Option.bind_eq_some_iff] at hk
      obtain ⟨v, h1, h2⟩ := hk
      exact .value hr (c := a.eval y) (by simp [execOp, hb, asBool]) (opv_rel ht h1) h2
  · cases hk

theorem ok_alloc {e : TypeId} (hr : HRel φ h w) (hk : evOp P O tm (.alloc e) h K = some r) : OpOK P φ h w a ⟨dst, .alloc e, ty, pos, after, guard⟩ K r := by
  simp only [evOp, Option.bind_eq_some_iff] at hk
  obtain ⟨z, h1, h2⟩ := hk
  obtain ⟨i, zv, hi, hz, rfl, hsz, hfl⟩ := zeroCellsOf_inv h1
  have hg := push_sound hr (op := false) (esz := zv.cells.toList.length) (el := e) [] (flats_VRs (φ := φ) hfl) (all_flat1_cellOk hfl)
  simp only [List.append_nil, Array.toArray_toList] at hg
  refine .good (c := .pointer (some ⟨w.heap.size, 0, none⟩)) (w' := w.alloc (.cells zv.cells e)) (run_v ?_) hg ?_ h2
  · simp [Instr.alloc, run_zeroValue' hi hz, run_newVar]
  · have := @VR.ptr (grow φ h.n ⟨w.heap.size, 0, zv.cells.toList.length + ([] : List Value).length, zv.cells.toList.length, false⟩) h.n 0 _ (grow_new φ h.n _)
    simpa using this

theorem ok_box {e : TypeId} {x : Operand} (hr : HRel φ h w) (ht : TR φ tm nt a.tmps) (hk : evOp P O tm (.box e x) h K = some r) : OpOK P φ h w a ⟨dst, .box e x, ty, pos, after, guard⟩ K r := by
  simp only [evOp, Option.bind_eq_some_iff] at hk
  obtain ⟨v, h1, h2⟩ := hk
  cases hc : v.cells.toList.all cellOk with
  | false => rw [hc, cond_false] at h2; cases h2
  | true =>
    rw [hc, cond_true] at h2
    have hv := opv_rel ht h1
    have hg := push_sound hr (op := false) (esz := v.cells.toList.length) (el := e) [] hv.cells hc
    simp only [List.append_nil, Array.toArray_toList] at hg
    refine .good (c := .pointer (some ⟨w.heap.size, 0, none⟩)) (run_v ?_) hg ?_ h2
    · simp [Instr.box, run_newVar]
    · have := @VR.ptr (grow φ h.n ⟨w.heap.size, 0, (a.eval x).cells.toList.length + ([] : List Value).length, v.cells.toList.length, false⟩) h.n 0 _ (grow_new φ h.n _)
      simpa using this

theorem ok_build {t : TypeId} {ps : Array (Nat × Operand)} (hr : HRel φ h w) (ht : TR φ tm nt a.tmps) (hk : evOp P O tm (.build t ps) h K = some r) : OpOK P φ h w a ⟨dst, .build t ps, ty, pos, after, guard⟩ K r := by
  simp only [evOp, Option.bind_eq_some_iff] at hk
  obtain ⟨z, h1, vs, h2, pl, h3, cs, h4, h5⟩ := hk
  obtain ⟨i, zv, hi, hz, rfl, hsz, hfl⟩ := zeroCellsOf_inv h1
  have hps := opParts_rel ht h2
  obtain ⟨cs', h6, h7⟩ := fillL_rel pl hps (flats_VRs (φ := φ) hfl) h4
  have hparts : (ps.map fun (i, x) => (i, a.eval x)).toList = ps.toList.map fun p => (p.1, a.eval p.2) := by simp
  have hfill : Instr.fill pl zv.cells (ps.map fun (i, x) => (i, a.eval x)).toList = some cs'.toArray := by
    have := fill_eq pl (ps.map fun (i, x) => (i, a.eval x)).toList zv.cells
    rw [hparts, h6] at this
    rw [hparts]
    cases hf : Instr.fill pl zv.cells (ps.toList.map fun p => (p.1, a.eval p.2)) with
    | none => rw [hf] at this; cases this
    | some ar =>
      rw [hf] at this
      simp only [Option.map_some, Option.some.injEq] at this
      rw [← this]
  refine .value hr (c := .agg cs'.toArray) (run_v ?_) h7.agg h5
  unfold placeOf at h3
  split at h3
  · rename_i fs hd
    simp only [Option.bind_eq_some_iff] at h3
    obtain ⟨l, h8, h9⟩ := h3
    obtain rfl := Option.some.inj h9
    have hm := run_mapM_places (P := P) w h8
    simp only [Instr.build, Sem.run_bind, run_zeroValue' hi hz, Result.andThen_ok, run_underlying' hd, hm]
    have : (fun x : Nat => l.toArray[x]?) = fun i : Nat => l[i]? := by funext x; simp
    rw [this, hfill]
    rfl
  · rename_i n e hd
    simp only [Option.bind_eq_some_iff] at h3
    obtain ⟨n', h8, h9⟩ := h3
    obtain rfl := Option.some.inj h9
    obtain ⟨ie, hie, rfl⟩ := sizeT_inv h8
    simp only [Instr.build, Sem.run_bind, run_zeroValue' hi hz, Result.andThen_ok, run_underlying' hd, run_sizeOf' hie]
    rw [hfill]
    rfl
  · cases h3

theorem ok_buildSlice {t : TypeId} {n : Nat} {ps : Array (Nat × Operand)} (hr : HRel φ h w) (ht : TR φ tm nt a.tmps) (hk : evOp P O tm (.buildSlice t n ps) h K = some r) : OpOK P φ h w a ⟨dst, .buildSlice t n ps, ty, pos, after, guard⟩ K r := by
  simp only [evOp] at hk
  split at hk
  · rename_i e hd
    simp only [Option.bind_eq_some_iff] at hk
    obtain ⟨sz, h1, z, h2, vs, h3, h4⟩ := hk
    cases hc : (Nat.beq z.length sz && Nat.ble (n * sz) 65536 && Nat.blt n opn) with
    | false => rw [hc, cond_false] at h4; cases h4
    | true =>
      rw [hc, cond_true] at h4
      simp only [Bool.and_eq_true] at hc
      have hzs := Nat.eq_of_beq_eq_true hc.1.1
      have hle := Nat.le_of_ble_eq_true hc.1.2
      have hn : n < opn := Nat.le_of_ble_eq_true hc.2
      simp only [Option.bind_eq_some_iff] at h4
      obtain ⟨cs, h5, h6⟩ := h4
      cases hok : cs.all cellOk with
      | false => rw [hok, cond_false] at h6; cases h6
      | true =>
      rw [hok, cond_true] at h6
      obtain ⟨i, zv, hi, hz, rfl, hsz, hfl⟩ := zeroCellsOf_inv h2
      obtain ⟨i', hi', rfl⟩ := sizeT_inv h1
      rw [hi] at hi'
      obtain rfl := Option.some.inj hi'
      have hps := opParts_rel ht h3
      obtain ⟨cs', h7, h8⟩ := fillL_rel _ hps (repL_VRs (flats_VRs (φ := φ) hfl) n) h5
      have hparts : (ps.map fun (i, x) => (i, a.eval x)).toList = ps.toList.map fun p => (p.1, a.eval p.2) := by simp
      have hg := push_sound hr (op := false) (esz := i.size) (el := e) [] h8 hok
      simp only [List.append_nil] at hg
      refine .good (c := .slice (some ⟨w.heap.size, 0, none⟩) n n) (run_v ?_) hg ?_ h6
      · have hfill : ∀ z0 : Array Value, ((Array.range (n * i.size)).map (z0[· % z0.size]!)).toList = repL zv.cells.toList n → Instr.fill (fun j => some (j * i.size, i.size)) ((Array.range (n * i.size)).map (z0[· % z0.size]!)) (ps.map fun (i, x) => (i, a.eval x)).toList = some cs'.toArray := by
          intro z0 hz0
          have := fill_eq (fun j => some (j * i.size, i.size)) (ps.map fun (i, x) => (i, a.eval x)).toList ((Array.range (n * i.size)).map (z0[· % z0.size]!))
          rw [hz0, hparts, h7] at this
          rw [hparts]
          generalize Instr.fill (fun j => some (j * i.size, i.size)) ((Array.range (n * i.size)).map (z0[· % z0.size]!)) (ps.toList.map fun p => (p.1, a.eval p.2)) = q at *
          cases q with
          | none => cases this
          | some ar =>
            simp only [Option.map_some, Option.some.injEq] at this
            rw [← this]
        have h24 : ¬ (n * i.size > 2 ^ 24) := by omega
        by_cases h0 : n * i.size = 0
        · have hrep := repL_length zv.cells.toList n
          rw [hzs, h0] at hrep
          have := hfill #[] (by rw [List.eq_nil_of_length_eq_zero hrep]; simp [h0])
          simp only [Instr.buildSlice, Sem.run_bind, run_underlying' hd, Result.andThen_ok, run_sizeOf' hi, if_neg h24, if_pos h0]
          simp only [Sem.run_bind, Sem.run_pure, Result.andThen_ok, this, newRow, run_newObj]
          rfl
        · have := hfill zv.cells (by rw [← hsz]; exact range_map_repL zv.cells n)
          simp only [Instr.buildSlice, Sem.run_bind, run_underlying' hd, Result.andThen_ok, run_sizeOf' hi, if_neg h24, if_neg h0, run_zeroValue' hi hz]
          simp only [Sem.run_bind, Sem.run_pure, Result.andThen_ok, this, newRow, run_newObj]
          rfl
      · have := @VR.slice (grow φ h.n ⟨w.heap.size, 0, cs'.length + ([] : List Value).length, i.size, false⟩) h.n 0 n n _ (grow_new φ h.n _) hn
        simpa using this
  · cases hk

theorem ok_load {t : TypeId} {x : Operand} (hr : HRel φ h w) (ht : TR φ tm nt a.tmps) (hk : evOp P O tm (.load t x) h K = some r) : OpOK P φ h w a ⟨dst, .load t x, ty, pos, after, guard⟩ K r := by
  simp only [evOp, Option.bind_eq_some_iff] at hk
  obtain ⟨v, h1, h2⟩ := hk
  unfold addrK at h2
  split at h2
  · rename_i p
    simp only [Option.bind_eq_some_iff] at h2
    obtain ⟨ad, h3, h4⟩ := h2
    subst h3
    obtain ⟨t', hφ, hsp, hc⟩ := vr_ptr (opv_rel ht h1)
    obtain ⟨v, c, h5, h6, h7⟩ := ldT_sound hr hφ h4
    refine .value hr (c := c) (run_v ?_) h6 h7
    simp [Instr.loadAt, hc, Instr.sureAddr, h5]
  · cases h2

theorem ok_store {t : TypeId} {x y : Operand} (hr : HRel φ h w) (ht : TR φ tm nt a.tmps) (hk : evOp P O tm (.store t x y) h K = some r) : OpOK P φ h w a ⟨dst, .store t x y, ty, pos, after, guard⟩ K r := by
  simp only [evOp, Option.bind_eq_some_iff] at hk
  obtain ⟨v, h1, h2⟩ := hk
  unfold addrK at h2
  split at h2
  · rename_i p
    simp only [Option.bind_eq_some_iff] at h2
    obtain ⟨ad, h3, u, h4, n, h5, h6⟩ := h2
    subst h3
    cases hc : (Nat.beq u.cells.toList.length n && u.cells.toList.all cellOk) with
    | false => rw [hc, cond_false] at h6; cases h6
    | true =>
      rw [hc, cond_true] at h6
      simp only [Bool.and_eq_true] at hc
      simp only [Option.bind_eq_some_iff] at h6
      obtain ⟨h', h7, h8⟩ := h6
      obtain ⟨t', hφ, hsp, hcp⟩ := vr_ptr (opv_rel ht h1)
      have hu := opv_rel ht h4
      obtain ⟨w', h9, h10⟩ := st_sound (P := P) hr hφ hu.cells hc.2 h7
      obtain ⟨i, hi, rfl⟩ := sizeT_inv h5
      refine ⟨φ, none, h', undef, w', .inr ⟨?_, rfl⟩, h10, by simp, h8⟩
      have hl : (a.eval y).cells.size = i.size := by
        have h11 := Nat.eq_of_beq_eq_true hc.1
        have h12 := hu.cells.length
        simp at h11 h12
        omega
      simp [execOp, Instr.storeAt, hcp, Instr.sureAddr, storeVar, run_sizeOf' hi, hl, h9]
  · cases h2

theorem ok_nilCheck {x : Operand} (hr : HRel φ h w) (ht : TR φ tm nt a.tmps) (hk : evOp P O tm (.nilCheck x) h K = some r) : OpOK P φ h w a ⟨dst, .nilCheck x, ty, pos, after, guard⟩ K r := by
  simp only [evOp, Option.bind_eq_some_iff] at hk
  obtain ⟨v, h1, h2⟩ := hk
  split at h2
  · rename_i p
    simp only [Option.bind_eq_some_iff] at h2
    obtain ⟨ad, h3, h4⟩ := h2
    subst h3
    have hv := opv_rel ht h1
    obtain ⟨t', hφ, hsp, hc⟩ := vr_ptr hv
    refine .value hr (c := a.eval x) ?_ hv h4
    simp [execOp, hc]
  · cases h2

theorem ok_unOp {op : UnOp} {t : TypeId} {x : Operand} (hr : HRel φ h w) (ht : TR φ tm nt a.tmps) (hk : evOp P O tm (.unOp op t x) h K = some r) : OpOK P φ h w a ⟨dst, .unOp op t x, ty, pos, after, guard⟩ K r := by
  simp only [evOp, Option.bind_eq_some_iff] at hk
  obtain ⟨v, h1, u, h2, h3⟩ := hk
  have hv := opv_rel ht h1
  unfold aun at h2
  split at h2
  · rename_i b
    obtain rfl := Option.some.inj h2
    have hc := vr_bool hv
    exact .value hr (c := .bool (!b)) (run_v (by simp [hc, Op.unary])) (.bool _) h3
  · rename_i k n
    obtain rfl := Option.some.inj h2
    have hc := vr_int hv
    exact .value hr (c := .int k (k.wrap (0 - n))) (run_v (by simp [hc, Op.unary, Op.intArith])) (.int _ _) h3
  · cases h2

theorem ok_convert {s d : TypeId} {x : Operand} (hr : HRel φ h w) (ht : TR φ tm nt a.tmps) (hk : evOp P O tm (.convert s d x) h K = some r) : OpOK P φ h w a ⟨dst, .convert s d x, ty, pos, after, guard⟩ K r := by
  simp only [evOp] at hk
  split at hk
  · rename_i ds k k' n hs hd hx
    have hc := vr_int (opv_rel ht hx)
    exact .value hr (c := .int k (k.wrap n)) (run_v (by simp [convert, run_underlying' hs, run_underlying' hd, hc, Conv.intToInt])) (.int _ _) hk
  · rename_i ds s' hs hd hx
    have hc := vr_string (opv_rel ht hx)
    refine .value hr (c := .string s') (run_v ?_) (.string _) hk
    simp only [convert, Sem.run_bind, run_underlying' hs, run_underlying' hd, hc, Result.andThen_ok]
    cases ds <;> rfl
  · cases hk

theorem ok_makeInterface {t : TypeId} {x : Operand} (hr : HRel φ h w) (ht : TR φ tm nt a.tmps) (hk : evOp P O tm (.makeInterface t x) h K = some r) : OpOK P φ h w a ⟨dst, .makeInterface t x, ty, pos, after, guard⟩ K r := by
  simp only [evOp] at hk
  split at hk
  · rename_i d v hd hx
    split at hk
    · cases hk
    · rename_i hni
      refine .value hr (c := .iface t (a.eval x)) (run_v ?_) (.iface (opv_rel ht hx)) hk
      simp only [Instr.makeInterface, Sem.run_bind, run_underlying' hd, Result.andThen_ok, Sem.run_pure]
  · cases hk

theorem ok_makeFunc {fn : Fn} {xs ys : Array Operand} (hr : HRel φ h w) (ht : TR φ tm nt a.tmps) (hk : evOp P O tm (.makeFunc fn xs ys) h K = some r) : OpOK P φ h w a ⟨dst, .makeFunc fn xs ys, ty, pos, after, guard⟩ K r := by
  simp only [evOp] at hk
  split at hk
  · rename_i f
    simp only [Option.bind_eq_some_iff] at hk
    obtain ⟨vs, h1, ws, h2, h3⟩ := hk
    have r1 := opvs_rel ht h1
    have r2 := opvs_rel ht h2
    refine .value hr (c := .func (.func f) (xs.map a.eval) (ys.map a.eval)) (run_v rfl) (.func ?_ ?_ ?_ ?_) h3
    · simpa using r1.length
    · intro i v v' g1 g2; exact r1.get2 i v v' (by simpa using g1) (by simpa using g2)
    · simpa using r2.length
    · intro i v v' g1 g2; exact r2.get2 i v v' (by simpa using g1) (by simpa using g2)
  · cases hk

theorem ok_makeSlice {t : TypeId} {x y : Operand} (hr : HRel φ h w) (ht : TR φ tm nt a.tmps) (hk : evOp P O tm (.makeSlice t x y) h K = some r) : OpOK P φ h w a ⟨dst, .makeSlice t x y, ty, pos, after, guard⟩ K r := by
  simp only [evOp] at hk
  split at hk
  · rename_i e l c hd hx hy
    simp only [Option.bind_eq_some_iff] at hk
    obtain ⟨i, hi, z, hz0, hk⟩ := hk
    cases hc : (decide (0 ≤ l) && decide (l ≤ c) && decide (c * i.bytes ≤ 281474976710656) && decide (c ≤ 281474976710656)) with
    | false => rw [hc, cond_false] at hk; cases hk
    | true =>
      rw [hc, cond_true] at hk
      simp only [Bool.and_eq_true, decide_eq_true_eq] at hc
      obtain ⟨⟨⟨c1, c2⟩, c3⟩, c4⟩ := hc
      obtain ⟨i', zv, hi', hz, rfl, hsz, hfl⟩ := zeroCellsOf_inv hz0
      rw [hi] at hi'
      obtain rfl := Option.some.inj hi'
      have e1 := vr_int (opv_rel ht hx)
      have e2 := vr_int (opv_rel ht hy)
      have hg := push_sound hr (op := false) (esz := i.size) (el := e) [] (repL_VRs (flats_VRs (φ := φ) hfl) c.toNat) (repL_all (all_flat1_cellOk hfl) c.toNat)
      simp only [List.append_nil] at hg
      refine .good (c := .slice (some ⟨w.heap.size, 0, none⟩) l.toNat c.toNat) (run_v ?_) hg ?_ hk
      · have wl : IntKind.i64.wrap l = l := by simp [IntKind.wrap, IntKind.bits, IntKind.signed]; omega
        have wc : IntKind.i64.wrap c = c := by simp [IntKind.wrap, IntKind.bits, IntKind.signed]; omega
        have hby : ((i.bytes : Int) * c) ≤ 281474976710656 := by rw [Int.mul_comm]; omega
        have hnl : ¬ (l < 0) := by omega
        have hnc : ¬ (c < 0) := by omega
        have hlc : ¬ (l > c) := by omega
        have hbig : ¬ ((i.bytes : Int) * c > 281474976710656) := by omega
        have hz0 : ∀ z0 : Array Value, (c.toNat * i.size = 0 ∨ z0 = zv.cells) → ((Array.range (c.toNat * i.size)).map (z0[· % z0.size]!)) = (repL zv.cells.toList c.toNat).toArray := by
          intro z0 h0
          apply Array.ext'
          rcases h0 with h0 | h0
          · have := repL_length zv.cells.toList c.toNat
            rw [show zv.cells.toList.length = i.size from by simpa using hsz, h0] at this
            rw [List.eq_nil_of_length_eq_zero this]
            simp [h0]
          · subst h0
            rw [← hsz]
            exact range_map_repL zv.cells c.toNat
        have hcond : ¬ ((decide (c < 0) || decide ((i.bytes : Int) * c > 2 ^ 48)) || decide (l < 0) || decide (l > c)) = true := by
          simp only [Bool.or_eq_true, decide_eq_true_eq, not_or]
          exact ⟨⟨⟨hnc, by simpa using hbig⟩, hnl⟩, hlc⟩
        simp only [Instr.makeSlice, Sem.run_bind, run_underlying' hd, Result.andThen_ok, e1, e2, asInt, asIntOf, Sem.run_pure, run_typeInfo' hi, wl, wc]
        rw [if_neg hcond]
        simp only [Sem.run_bind, run_askRoom, Result.andThen_ok, run_sizeOf' hi]
        by_cases h0 : c.toNat * i.size = 0
        · rw [if_pos h0]
          simp only [Sem.run_bind, Sem.run_pure, Result.andThen_ok, hz0 #[] (.inl h0), newRow, run_newObj]
          rfl
        · rw [if_neg h0]
          simp only [Sem.run_bind, Sem.run_pure, Result.andThen_ok, run_zeroValue' hi hz, hz0 zv.cells (.inr rfl), newRow, run_newObj]
          rfl
      · have := @VR.slice (grow φ h.n ⟨w.heap.size, 0, (repL zv.cells.toList c.toNat).length + ([] : List Value).length, i.size, false⟩) h.n 0 l.toNat c.toNat _ (grow_new φ h.n _) (by unfold opn; omega)
        simpa using this
  · cases hk

theorem fieldOf_inv {t : TypeId} {f : Nat} {fd : Field} (h : fieldOf P t f = some fd) : ∃ fs, P.underlying t = some (.struct fs) ∧ fs[f]? = some fd := by
  unfold fieldOf at h
  split at h
  · rename_i fs hd; exact ⟨fs, hd, by simpa using h⟩
  · cases h

theorem ok_fieldAddr {t : TypeId} {x : Operand} {f : Nat} (hr : HRel φ h w) (ht : TR φ tm nt a.tmps) (hk : evOp P O tm (.fieldAddr t x f) h K = some r) : OpOK P φ h w a ⟨dst, .fieldAddr t x f, ty, pos, after, guard⟩ K r := by
  simp only [evOp, Option.bind_eq_some_iff] at hk
  obtain ⟨v, h1, h2⟩ := hk
  unfold addrK at h2
  split at h2
  · rename_i p
    simp only [Option.bind_eq_some_iff] at h2
    obtain ⟨ad, h3, fd, h4, n, h5, h6⟩ := h2
    subst h3
    cases hn : Nat.beq n 0 with
    | true => rw [hn, cond_true] at h6; cases h6
    | false =>
      rw [hn, cond_false] at h6
      obtain ⟨fs, hd, hf⟩ := fieldOf_inv h4
      obtain ⟨i, hi, rfl⟩ := sizeT_inv h5
      obtain ⟨t', hφ, hsp, hc⟩ := vr_ptr (opv_rel ht h1)
      have hne : i.size ≠ 0 := fun e => by rw [e] at hn; cases hn
      refine .value hr (c := .pointer (some ⟨t'.blk, t'.sh + ad.off + fd.offset, none⟩)) (run_v ?_) ?_ h6
      · simp [Instr.fieldAt, run_underlying' hd, hf, hc, Instr.sureAddr, fieldPlace, run_sizeOf' hi, hne, add_lit]
      · have := @VR.ptr φ ad.block (ad.off + fd.offset) t' hφ
        rw [Nat.add_assoc]; exact this
  · cases h2

theorem apart_rel {t : TypeId} {cs ds : List Value} {o : Nat} {v : Value} (hv : VRs φ cs ds) (h : apart P t cs o = some v) : ∃ c, (part t ds.toArray o).run P w = .ok c w ∧ VR φ v c := by
  unfold apart at h
  split at h
  · rename_i d n hd hs
    obtain ⟨i, hi, rfl⟩ := sizeT_inv hs
    cases ha : isAggD d with
    | true =>
      rw [ha, cond_true] at h
      cases hle : Nat.ble (o + i.size) cs.length with
      | false => rw [hle, cond_false] at h; cases h
      | true =>
        rw [hle, cond_true] at h
        obtain rfl := Option.some.inj h
        have h1 := Nat.le_of_ble_eq_true hle
        refine ⟨.agg ((ds.drop o).take i.size).toArray, ?_, ((hv.drop o).take i.size).agg⟩
        simp only [part, Sem.run_bind, run_isAgg hd, ha, Result.andThen_ok, if_true, run_sizeOf' hi, Sem.run_pure]
        congr 2
        apply Array.ext'
        simp [List.extract_eq_take_drop]
    | false =>
      rw [ha, cond_false] at h
      obtain ⟨c, h1, h2⟩ := hv.get o v h
      refine ⟨c, ?_, h2⟩
      simp [part, run_isAgg hd, ha, h1]
  · cases h

theorem ok_field {t : TypeId} {x : Operand} {f : Nat} (hr : HRel φ h w) (ht : TR φ tm nt a.tmps) (hk : evOp P O tm (.field t x f) h K = some r) : OpOK P φ h w a ⟨dst, .field t x f, ty, pos, after, guard⟩ K r := by
  simp only [evOp, Option.bind_eq_some_iff] at hk
  obtain ⟨v, h1, h2⟩ := hk
  split at h2
  · rename_i cs
    simp only [Option.bind_eq_some_iff] at h2
    obtain ⟨fd, h3, u, h4, h5⟩ := h2
    obtain ⟨fs, hd, hf⟩ := fieldOf_inv h3
    obtain ⟨ds, hc, hv⟩ := vr_agg (opv_rel ht h1)
    obtain ⟨c, h6, h7⟩ := apart_rel (P := P) (w := w) hv h4
    refine .value hr (c := c) (run_v ?_) h7 h5
    simp only [Array.toArray_toList] at h6
    simp [Instr.field, run_underlying' hd, hf, hc, asAgg, h6]
  · cases h2

theorem inB_iff {i : Int} {n : Nat} : inB i n = true ↔ 0 ≤ i ∧ i < n := by simp [inB]
theorem inBe_iff {i : Int} {n : Nat} : inBe i n = true ↔ 0 ≤ i ∧ i ≤ n := by simp [inBe]

theorem ok_indexAddr {t : TypeId} {x y : Operand} (hr : HRel φ h w) (ht : TR φ tm nt a.tmps) (hk : evOp P O tm (.indexAddr t x y) h K = some r) : OpOK P φ h w a ⟨dst, .indexAddr t x y, ty, pos, after, guard⟩ K r := by
  simp only [evOp] at hk
  split at hk
  · rename_i len e p k i hd hx hy
    simp only [Option.bind_eq_some_iff] at hk
    obtain ⟨ad, rfl, sz, h2, h3⟩ := hk
    cases hb : inB i len with
    | false => rw [hb, cond_false] at h3; cases h3
    | true =>
      rw [hb, cond_true] at h3
      obtain ⟨ie, hie, rfl⟩ := sizeT_inv h2
      obtain ⟨t', hφ, hsp, hc⟩ := vr_ptr (opv_rel ht hx)
      have hci := vr_int (opv_rel ht hy)
      refine .value hr (c := .pointer (some ⟨t'.blk, t'.sh + ad.off + i.toNat * ie.size, none⟩)) (run_v ?_) ?_ h3
      · have := inB_iff.1 hb
        simp [Instr.indexAt, run_underlying' hd, hc, hci, asIntOf, Instr.sureAddr, run_sizeOf' hie, this, add_lit]
      · have := @VR.ptr φ ad.block (ad.off + i.toNat * ie.size) t' hφ
        rw [Nat.add_assoc]; exact this
  · rename_i e p len cp k i hd hx hy
    simp only [Option.bind_eq_some_iff] at hk
    obtain ⟨ad, rfl, sz, h2, h3⟩ := hk
    cases hb : inB i len with
    | false => rw [hb, cond_false] at h3; cases h3
    | true =>
      rw [hb, cond_true] at h3
      have hbb := inB_iff.1 hb
      obtain ⟨ie, hie, rfl⟩ := sizeT_inv h2
      have hci := vr_int (opv_rel ht hy)
      have hv := opv_rel ht hx
      obtain ⟨t', cp', hφ, hc⟩ : ∃ t' cp', φ ad.block = some t' ∧ a.eval x = .slice (some ⟨t'.blk, t'.sh + ad.off, none⟩) len cp' := by
        generalize a.eval x = q at hv
        cases hv with
        | slice h1 h2 => exact ⟨_, _, h1, rfl⟩
        | sliceO h1 h2 h3 => exact ⟨_, _, h1, rfl⟩
        | sliceE h1 h2 => omega
        | sliceZ h1 => omega
        | sliceV h1 h2 => omega
      refine .value hr (c := .pointer (some ⟨t'.blk, t'.sh + ad.off + i.toNat * ie.size, none⟩)) (run_v ?_) ?_ h3
      · simp [Instr.indexAt, run_underlying' hd, hc, hci, asIntOf, run_sizeOf' hie, hbb, add_lit]
      · have := @VR.ptr φ ad.block (ad.off + i.toNat * ie.size) t' hφ
        rw [Nat.add_assoc]; exact this
  · cases hk

theorem ok_index {t : TypeId} {x y : Operand} (hr : HRel φ h w) (ht : TR φ tm nt a.tmps) (hk : evOp P O tm (.index t x y) h K = some r) : OpOK P φ h w a ⟨dst, .index t x y, ty, pos, after, guard⟩ K r := by
  simp only [evOp] at hk
  split at hk
  · rename_i len e cs k i hd hx hy
    simp only [Option.bind_eq_some_iff] at hk
    obtain ⟨sz, h2, h3⟩ := hk
    cases hb : inB i len with
    | false => rw [hb, cond_false] at h3; cases h3
    | true =>
      rw [hb, cond_true] at h3
      simp only [Option.bind_eq_some_iff] at h3
      obtain ⟨u, h4, h5⟩ := h3
      obtain ⟨ie, hie, rfl⟩ := sizeT_inv h2
      have hci := vr_int (opv_rel ht hy)
      obtain ⟨ds, hc, hv⟩ := vr_agg (opv_rel ht hx)
      obtain ⟨c, h6, h7⟩ := apart_rel (P := P) (w := w) hv h4
      refine .value hr (c := c) (run_v ?_) h7 (castT_inv h5)
      have := inB_iff.1 hb
      simp only [Array.toArray_toList] at h6
      simp [Instr.index, run_underlying' hd, hc, hci, asIntOf, run_sizeOf' hie, this, h6]
  · rename_i s k i hd hx hy
    cases hb : decide (0 ≤ i) with
    | false => rw [hb, cond_false] at hk; cases hk
    | true =>
      rw [hb, cond_true] at hk
      simp only [Option.bind_eq_some_iff] at hk
      obtain ⟨b, h4, h5⟩ := hk
      have hci := vr_int (opv_rel ht hy)
      have hcs := vr_string (opv_rel ht hx)
      have h0 : 0 ≤ i := of_decide_eq_true hb
      refine .value hr (c := .int .u8 b.toNat) (run_v ?_) (.int _ _) h5
      have hs : s[i.toNat]? = some b := by
        have hlt : i.toNat < s.data.toList.length := by
          rcases Nat.lt_or_ge i.toNat s.data.toList.length with h' | h'
          · exact h'
          · rw [List.getElem?_eq_none h'] at h4; cases h4
        have hlt' : i.toNat < s.size := by simpa using hlt
        rw [List.getElem?_eq_getElem hlt] at h4
        rw [getElem?_pos s i.toNat hlt']
        have h4' : s.data[i.toNat]'hlt' = b := by simpa using h4
        exact congrArg some h4'
      simp [Instr.index, run_underlying' hd, hcs, hci, asIntOf, h0, hs]
  · cases hk

theorem ok_extract {x : Operand} {i : Nat} (hr : HRel φ h w) (ht : TR φ tm nt a.tmps) (hk : evOp P O tm (.extract x i) h K = some r) : OpOK P φ h w a ⟨dst, .extract x i, ty, pos, after, guard⟩ K r := by
  simp only [evOp] at hk
  split at hk
  · rename_i vs hx
    simp only [Option.bind_eq_some_iff] at hk
    obtain ⟨v, h1, h2⟩ := hk
    obtain ⟨ds, hc, hv⟩ := vr_tuple (opv_rel ht hx)
    obtain ⟨c, h3, h4⟩ := hv.get i v h1
    refine .value hr (c := c) (run_v ?_) h4 h2
    have h3' : ds[i]? = some c := by simpa using h3
    simp [Instr.extract, hc, h3']
  · cases hk
end
end Go.Lg

namespace Go.Lg
open Go

theorem beqL_iff : ∀ {l m : List UInt8}, beqL l m = true ↔ l = m
  | [], [] => by simp [beqL]
  | [], _ :: _ => by simp [beqL]
  | _ :: _, [] => by simp [beqL]
  | a :: l, b :: m => by
    simp only [beqL]
    cases hb : Nat.beq a.toNat b.toNat with
    | true =>
      have := Nat.eq_of_beq_eq_true hb
      have := UInt8.toNat_inj.1 this
      simp [this, beqL_iff]
    | false =>
      have : a ≠ b := fun e => by subst e; rw [Nat.beq_refl] at hb; cases hb
      simp [this]
theorem seqB_eq (x y : ByteArray) : (x.toList == y.toList) = seqB x y := by
  rw [ByteArray.toList_eq, ByteArray.toList_eq, Bool.eq_iff_iff, beq_iff_eq]
  exact beqL_iff.symm
theorem ltL_eq : ∀ (l m : List UInt8), Op.bytesLess l m = ltL l m
  | [], [] => rfl
  | _ :: _, [] => rfl
  | [], _ :: _ => rfl
  | a :: l, b :: m => by
    simp only [Op.bytesLess, ltL, ltL_eq l m]
    cases hb : Nat.blt a.toNat b.toNat with
    | true =>
      have : a.toNat < b.toNat := Nat.le_of_ble_eq_true hb
      have : a < b := UInt8.lt_iff_toNat_lt.2 this
      simp [this]
    | false =>
      have hn : ¬ a.toNat < b.toNat := fun hl => by
        have : Nat.blt a.toNat b.toNat = true := Nat.ble_eq_true_of_le hl
        rw [hb] at this; cases this
      have hn' : ¬ a < b := fun h => hn (UInt8.lt_iff_toNat_lt.1 h)
      cases he : Nat.beq a.toNat b.toNat with
      | true =>
        have := UInt8.toNat_inj.1 (Nat.eq_of_beq_eq_true he)
        simp [this]
      | false =>
        have : a ≠ b := fun e => by subst e; rw [Nat.beq_refl] at he; cases he
        simp [this, hn']
theorem sltB_eq (x y : ByteArray) : Op.bytesLess x.toList y.toList = sltB x y := by
  rw [ByteArray.toList_eq, ByteArray.toList_eq, ltL_eq]; rfl

theorem stringOp_sound {P : Program} {op : BinOp} {x y : ByteArray} {v : Value} (h : abinStr op x y = some v) (w : World) : (Op.stringOp op x y).run P w = .ok v w ∧ ∀ φ, VR φ v v := by
  unfold abinStr at h
  split at h
  · cases hc : Nat.ble (x.size + y.size) 1152921504606846976 with
    | false => rw [hc, cond_false] at h; cases h
    | true =>
      rw [hc, cond_true] at h
      obtain rfl := Option.some.inj h
      have := Nat.le_of_ble_eq_true hc
      have hm : IntKind.i64.max = 9223372036854775807 := by decide
      have hn : ¬ (((x.size + y.size : Nat) : Int) > IntKind.i64.max) := by rw [hm]; omega
      refine ⟨?_, fun φ => .string _⟩
      unfold Op.stringOp
      simp only [if_neg hn]
      rfl
  all_goals first
    | (cases h; done)
    | (obtain rfl := Option.some.inj h
       refine ⟨?_, fun φ => .bool _⟩
       simp [Op.stringOp, seqB_eq, sltB_eq])

theorem intOps_sound {P : Program} {op : BinOp} {t : TypeId} {k : IntKind} {x y : Int} {v : Value} (h : abinInt op k x y = some v) (w : World) : (binOp op t (.int k x) (.int k y)).run P w = .ok v w ∧ ∀ φ, VR φ v v := by
  cases op <;> simp only [abinInt] at h
  case quo =>
    cases hc : decide (y = 0) with
    | true => rw [hc, cond_true] at h; cases h
    | false =>
      rw [hc, cond_false] at h
      obtain rfl := Option.some.inj h
      have := of_decide_eq_false hc
      exact ⟨by simp [binOp, Op.intDiv, this], fun φ => .int _ _⟩
  case rem =>
    cases hc : decide (y = 0) with
    | true => rw [hc, cond_true] at h; cases h
    | false =>
      rw [hc, cond_false] at h
      obtain rfl := Option.some.inj h
      have := of_decide_eq_false hc
      exact ⟨by simp [binOp, Op.intDiv, this], fun φ => .int _ _⟩
  all_goals first
    | (cases h; done)
    | (obtain rfl := Option.some.inj h
       refine ⟨?_, fun φ => by constructor⟩
       first
         | (simp [binOp, Op.intArith]; done)
         | (simp [binOp, Op.intBits]; done)
         | (simp [binOp, Op.intCmp]; done)
         | (simp only [binOp, Op.intCmp, ne_eq, not_true_eq_false, if_false, Sem.run_pure]; rfl)
         | (simp only [binOp, Op.intCmp, ne_eq, not_true_eq_false, if_false, Sem.run_pure]
            congr 2; rw [Bool.eq_iff_iff]; simp))

theorem shift_sound {P : Program} {op : BinOp} {k k' : IntKind} {x y : Int} {v : Value} (h : shiftOp op k x y = some v) (w : World) : (Op.shift op k x k' y).run P w = .ok v w ∧ ∀ φ, VR φ v v := by
  unfold shiftOp at h
  cases hc : decide (y < 0) with
  | true => rw [hc, cond_true] at h; cases h
  | false =>
    rw [hc, cond_false] at h
    have hn : ¬ y < 0 := of_decide_eq_false hc
    split at h
    all_goals first
      | (cases h; done)
      | (obtain rfl := Option.some.inj h
         refine ⟨?_, fun φ => .int _ _⟩
         simp [Op.shift, hn])

theorem eqOpt_inv {α : Type} {a b : Option α} {r : Bool} (h : eqOpt a b = some r) : (b = none ∧ r = a.isNone) ∨ (a = none ∧ b.isSome = true ∧ r = false) := by
  unfold eqOpt at h
  split at h
  · exact .inl ⟨rfl, (Option.some.inj h).symm⟩
  · split at h
    · exact .inr ⟨rfl, rfl, (Option.some.inj h).symm⟩
    · cases h

theorem guard_nil {P : Program} {t : TypeId} (op : BinOp) (p q : Operand) (hpq : (isC p || isC q) = true) (w : World) : (eqGuard op t p q .nilIface .nilIface).run P w = .ok () w := by
  unfold eqGuard
  cases p <;> cases q <;> first
    | (simp [isC] at hpq; done)
    | (cases op <;> rfl)

set_option maxHeartbeats 1000000 in
/-- the guard and the comparison of values that are no numbers and no strings -/
theorem aeq_sound0 {P : Program} {φ : Emb} {t : TypeId} {d : TypeDesc} {c : Bool} {x y x' y' : Value} {r : Bool} (dp : Nat) (hd : P.underlying t = some d) (h : aeq d c x y = some r) (hx : VR φ x x') (hy : VR φ y y') (w : World) :
    (Op.equalIn (dp + 1) t x' y').run P w = .ok r w ∧ (binOp .eql t x' y' = do pure (.bool (← Op.equal t x' y'))) ∧ (binOp .neq t x' y' = do pure (.bool (!(← Op.equal t x' y')))) ∧
      (∀ op (a b : Operand), c = (isC a || isC b) → (eqGuard op t a b x' y').run P w = .ok () w) := by
  have guard : (∀ op (a b : Operand), (match x', y' with | .nilIface, .nilIface => False | .agg _, .agg _ => False | _, _ => True) → (eqGuard op t a b x' y').run P w = .ok () w) := by
    intro op a b hm
    unfold eqGuard
    cases op <;> first
      | rfl
      | (simp only [Bool.not_true, Bool.false_eq_true, if_false]
         split
         · exact hm.elim
         · exact hm.elim
         · rfl)
  unfold aeq at h
  split at h
  · rename_i a b
    obtain rfl := vr_bool hx
    obtain rfl := vr_bool hy
    obtain rfl := Option.some.inj h
    refine ⟨?_, rfl, rfl, fun op p q _ => guard op p q trivial⟩
    simp [Op.equalIn, run_underlying' hd]
  · rename_i e a b
    rcases eqOpt_inv h with ⟨rfl, rfl⟩ | ⟨rfl, hb, rfl⟩
    · obtain rfl := vr_nilP hy
      cases a with
      | none =>
        obtain rfl := vr_nilP hx
        refine ⟨?_, rfl, rfl, fun op p q _ => guard op p q trivial⟩
        simp [Op.equalIn, run_underlying' hd]
      | some a =>
        obtain ⟨t', _, _, rfl⟩ := vr_ptr hx
        refine ⟨?_, rfl, rfl, fun op p q _ => guard op p q trivial⟩
        simp [Op.equalIn, run_underlying' hd]
    · obtain rfl := vr_nilP hx
      cases b with
      | none => cases hb
      | some b =>
        obtain ⟨t', _, _, rfl⟩ := vr_ptr hy
        refine ⟨?_, rfl, rfl, fun op p q _ => guard op p q trivial⟩
        simp [Op.equalIn, run_underlying' hd]
  · rename_i e a n1 c1 b n2 c2
    rcases eqOpt_inv h with ⟨rfl, rfl⟩ | ⟨rfl, hb, rfl⟩
    · cases hy
      cases hx <;>
      · refine ⟨?_, rfl, rfl, fun op p q _ => guard op p q trivial⟩
        simp [Op.equalIn, run_underlying' hd]
    · cases hx
      cases hy <;> first
        | (cases hb; done)
        | (refine ⟨?_, rfl, rfl, fun op p q _ => guard op p q trivial⟩
           simp [Op.equalIn, run_underlying' hd])
  · rename_i k e a b
    rcases eqOpt_inv h with ⟨rfl, rfl⟩ | ⟨rfl, hb, rfl⟩
    · cases hy
      cases hx <;>
      · refine ⟨?_, rfl, rfl, fun op p q _ => guard op p q trivial⟩
        simp [Op.equalIn, run_underlying' hd]
    · cases hx
      cases hy <;> first
        | (cases hb; done)
        | (refine ⟨?_, rfl, rfl, fun op p q _ => guard op p q trivial⟩
           simp [Op.equalIn, run_underlying' hd])
  · rename_i ms
    obtain rfl := vr_nilI hy
    split at h
    · obtain rfl := vr_nilI hx
      cases c with
      | false => cases h
      | true =>
        obtain rfl := Option.some.inj h
        refine ⟨?_, rfl, rfl, fun op p q hpq => guard_nil op p q hpq.symm w⟩
        simp [Op.equalIn, run_underlying' hd]
    · obtain rfl := Option.some.inj h
      obtain ⟨c', rfl, _⟩ := vr_iface hx
      refine ⟨?_, rfl, rfl, fun op p q _ => guard op p q trivial⟩
      simp [Op.equalIn, run_underlying' hd]
    · cases h
  · obtain rfl := vr_nilI hx
    obtain ⟨c', rfl, _⟩ := vr_iface hy
    obtain rfl := Option.some.inj h
    refine ⟨?_, rfl, rfl, fun op p q _ => guard op p q trivial⟩
    simp [Op.equalIn, run_underlying' hd]
  · obtain rfl := vr_nilF hy
    split at h
    · obtain rfl := vr_nilF hx
      obtain rfl := Option.some.inj h
      refine ⟨?_, rfl, rfl, fun op p q _ => guard op p q trivial⟩
      simp [Op.equalIn, run_underlying' hd]
    · obtain rfl := Option.some.inj h
      cases hx
      refine ⟨?_, rfl, rfl, fun op p q _ => guard op p q trivial⟩
      simp [Op.equalIn, run_underlying' hd]
    · cases h
  · cases h

theorem aeq_sound {P : Program} {φ : Emb} {t : TypeId} {d : TypeDesc} {c : Bool} {x y x' y' : Value} {r : Bool} (hd : P.underlying t = some d) (h : aeq d c x y = some r) (hx : VR φ x x') (hy : VR φ y y') (w : World) :
    (Op.equal t x' y').run P w = .ok r w ∧ (binOp .eql t x' y' = do pure (.bool (← Op.equal t x' y'))) ∧ (binOp .neq t x' y' = do pure (.bool (!(← Op.equal t x' y')))) ∧
      (∀ op (a b : Operand), c = (isC a || isC b) → (eqGuard op t a b x' y').run P w = .ok () w) := aeq_sound0 9999 hd h hx hy w

theorem eqI_len {k : IntKind} : ∀ {xs ys : List Value} {r : Bool}, eqI k xs ys = some r → xs.length = ys.length
  | [], [], _, _ => rfl
  | [], _ :: _, _, h => by simp [eqI] at h
  | .int k1 a :: xs, .int k2 b :: ys, r, h => by
    unfold eqI at h
    cases hk : (k1 == k && k2 == k) with
    | false => rw [hk] at h; cases h
    | true =>
      rw [hk, cond_true, Option.bind_eq_some_iff] at h
      obtain ⟨r', h1, _⟩ := h
      simp [eqI_len h1]
theorem run_part {P : Program} {e : TypeId} {d : TypeDesc} (he : P.underlying e = some d) (ha : isAggD d = false) {xs : List Value} {i : Nat} {v : Value} (hv : xs[i]? = some v) (w : World) : (part e ⟨xs⟩ i).run P w = .ok v w := by
  unfold part
  simp only [Sem.run_bind, run_isAgg he, Result.andThen_ok, ha, Bool.false_eq_true, if_false]
  have : (⟨xs⟩ : Array Value)[i]? = some v := by simpa using hv
  rw [this]; rfl
theorem run_eqArr {P : Program} {t e : TypeId} {n : Nat} {k : IntKind} {ie : TypeInfo} (ht : P.underlying t = some (.array n e)) (he : P.underlying e = some (.int k)) (hi : P.info? e = some ie) (hz : ie.size = 1) (xs ys : List Value) (hx : xs.length = n) (hy : ys.length = n) {r : Bool} (h : eqI k xs ys = some r) (dp : Nat) (w : World) :
    (Op.equalIn (dp + 2) t (.agg ⟨xs⟩) (.agg ⟨ys⟩)).run P w = .ok r w := by
  rw [Op.equalIn]
  simp only [Sem.run_bind, run_underlying' ht, Result.andThen_ok, run_sizeOf' hi, hz]
  simp only [Std.Legacy.Range.forIn_eq_forIn_range', Std.Legacy.Range.size, Nat.sub_zero, Nat.add_sub_cancel, Nat.div_one, Nat.mul_one]
  have key : ∀ (m i : Nat), i + m = n → ∀ r, eqI k (xs.drop i) (ys.drop i) = some r → Sem.run P
          (forIn (List.range' i m) ((none : Option Bool), ()) fun i __s => do
            let __do_lift ← part e { toList := xs } i
            let __do_lift_1 ← part e { toList := ys } i
            let __do_lift ← Op.equalIn (dp + 1) e __do_lift __do_lift_1
            if (!__do_lift) = true then pure (ForInStep.done (some false, ())) else pure (ForInStep.yield (none, ())))
          w = .ok ((if r = true then none else some false), ()) w := by
    intro m
    induction m with
    | zero =>
      intro i hi r h
      rw [List.drop_of_length_le (by omega), List.drop_of_length_le (by omega)] at h
      obtain rfl := Option.some.inj h
      simp [Sem.run_pure]
    | succ m ih =>
      intro i hi r h
      have hxl : i < xs.length := by omega
      have hyl : i < ys.length := by omega
      obtain ⟨x, hx'⟩ : ∃ x, xs[i]? = some x := ⟨_, List.getElem?_eq_getElem hxl⟩
      obtain ⟨y, hy'⟩ : ∃ y, ys[i]? = some y := ⟨_, List.getElem?_eq_getElem hyl⟩
      have ex : xs.drop i = x :: xs.drop (i + 1) := by rw [List.drop_eq_getElem_cons hxl, (List.getElem?_eq_some_iff.mp hx').2]
      have ey : ys.drop i = y :: ys.drop (i + 1) := by rw [List.drop_eq_getElem_cons hyl, (List.getElem?_eq_some_iff.mp hy').2]
      rw [ex, ey] at h
      unfold eqI at h
      split at h
      · rename_i h0 _; simp at h0
      · rename_i k1 a xs' k2 b ys' h1 h2
        simp only [List.cons.injEq] at h1 h2
        obtain ⟨rfl, rfl⟩ := h1
        obtain ⟨rfl, rfl⟩ := h2
        cases hk : (k1 == k && k2 == k) with
        | false => rw [hk] at h; cases h
        | true =>
          rw [hk, cond_true, Option.bind_eq_some_iff] at h
          obtain ⟨r', h3, h4⟩ := h
          obtain rfl := Option.some.inj h4
          rw [Bool.and_eq_true] at hk
          obtain rfl := eq_of_beq hk.1
          obtain rfl := eq_of_beq hk.2
          have eq : (Op.equalIn (dp + 1) e (.int k2 a) (.int k2 b)).run P w = .ok (a == b) w := by
            simp [Op.equalIn, run_underlying' he]
          rw [List.range'_succ, List.forIn_cons]
          simp only [Sem.run_bind, run_part he rfl hx', run_part he rfl hy', Result.andThen_ok, eq]
          by_cases c : a = b
          · subst c
            have := ih (i + 1) (by omega) r' h3
            simpa [Sem.run_pure] using this
          · have hb : (a == b) = false := by simpa using c
            rw [hb]
            simp [Sem.run_pure, c]
      · cases h
  have h0 := key n 0 (by omega) r (by rw [List.drop_zero, List.drop_zero]; exact h)
  rw [h0]
  cases r <;> simp [Sem.run_pure]
theorem eqI_same {φ : Emb} {k : IntKind} : ∀ {xs ys : List Value} {r : Bool} {xs' ys' : List Value}, eqI k xs ys = some r → VRs φ xs xs' → VRs φ ys ys' → xs' = xs ∧ ys' = ys
  | [], [], _, _, _, _, h1, h2 => by cases h1; cases h2; exact ⟨rfl, rfl⟩
  | [], _ :: _, _, _, _, h, _, _ => by simp [eqI] at h
  | .int k1 a :: xs, .int k2 b :: ys, r, xs', ys', h, h1, h2 => by
    unfold eqI at h
    cases hk : (k1 == k && k2 == k) with
    | false => rw [hk] at h; cases h
    | true =>
      rw [hk, cond_true, Option.bind_eq_some_iff] at h
      obtain ⟨r', h3, _⟩ := h
      cases h1 with
      | cons a1 a2 =>
        cases h2 with
        | cons b1 b2 =>
          obtain rfl := vr_int a1
          obtain rfl := vr_int b1
          obtain ⟨rfl, rfl⟩ := eqI_same h3 a2 b2
          exact ⟨rfl, rfl⟩
theorem seqB_beq (a b : ByteArray) : (a == b) = seqB a b := by
  have h : (a.data == b.data) = (a.toList == b.toList) := by
    rw [ByteArray.toList_eq, ByteArray.toList_eq]
    by_cases c : a.data = b.data
    · rw [c]; simp
    · have : a.data.toList ≠ b.data.toList := fun h => c (Array.ext' h)
      rw [beq_eq_false_iff_ne.mpr c, beq_eq_false_iff_ne.mpr this]
  rw [← seqB_eq, ← h]; rfl
theorem run_eq1 {P : Program} {t : TypeId} {x y : Value} {r : Bool} (h : eq1 P t x y = some r) (dp : Nat) (w : World) : (Op.equalIn (dp + 1) t x y).run P w = .ok r w ∧ ∃ d, P.underlying t = some d ∧ isAggD d = false := by
  unfold eq1 at h
  split at h
  · rename_i k k1 a k2 b hu
    cases hk : (k1 == k && k2 == k) with
    | false => rw [hk] at h; cases h
    | true =>
      rw [hk] at h
      obtain rfl := Option.some.inj h
      rw [Bool.and_eq_true] at hk
      obtain rfl := eq_of_beq hk.1
      obtain rfl := eq_of_beq hk.2
      refine ⟨?_, _, hu, rfl⟩
      simp [Op.equalIn, run_underlying' hu]
      rfl
  · rename_i a b hu
    obtain rfl := Option.some.inj h
    refine ⟨?_, _, hu, rfl⟩
    simp [Op.equalIn, run_underlying' hu]
  · rename_i a b hu
    obtain rfl := Option.some.inj h
    refine ⟨?_, _, hu, rfl⟩
    simp [Op.equalIn, run_underlying' hu, seqB_beq]
  · cases h
theorem run_eqF {P : Program} {t : TypeId} {fs : Array Field} (ht : P.underlying t = some (.struct fs)) (hs : P.stoodInHeld t = false) (xs ys : List Value) {r : Bool} (h : eqF P xs ys fs.toList = some r) (dp : Nat) (w : World) :
    (Op.equalIn (dp + 2) t (.agg ⟨xs⟩) (.agg ⟨ys⟩)).run P w = .ok r w := by
  rw [Op.equalIn]
  have hp : Sem.run P program w = .ok P w := rfl
  simp only [Sem.run_bind, run_underlying' ht, Result.andThen_ok, hp, hs, Bool.false_eq_true, if_false]
  have key : ∀ (l : List Field) r, eqF P xs ys l = some r → Sem.run P
          (forIn l ((none : Option Bool), ()) fun f __s =>
            if f.name ≠ "_" then do
              let __do_lift ← part f.type { toList := xs } f.offset
              let __do_lift_1 ← part f.type { toList := ys } f.offset
              let __do_lift ← Op.equalIn (dp + 1) f.type __do_lift __do_lift_1
              if (!__do_lift) = true then pure (ForInStep.done (some false, ())) else pure (ForInStep.yield (none, ()))
            else pure (ForInStep.yield (none, ())))
          w = .ok ((if r = true then none else some false), ()) w := by
    intro l
    induction l with
    | nil =>
      intro r h
      obtain rfl := Option.some.inj h
      simp [Sem.run_pure]
    | cons f l ih =>
      intro r h
      unfold eqF at h
      cases hf : (f.name == "_") with
      | true => rw [hf] at h; cases h
      | false =>
        rw [hf, cond_false] at h
        obtain ⟨x, hx, h⟩ := Option.bind_eq_some_iff.mp h
        obtain ⟨y, hy, h⟩ := Option.bind_eq_some_iff.mp h
        obtain ⟨b, hb, h⟩ := Option.bind_eq_some_iff.mp h
        obtain ⟨q, hq, h⟩ := Option.bind_eq_some_iff.mp h
        obtain rfl := Option.some.inj h
        obtain ⟨e1, d, hd, ha⟩ := run_eq1 hb dp w
        have hn : f.name ≠ "_" := by simpa using hf
        rw [List.forIn_cons]
        simp only [if_pos hn, Sem.run_bind, run_part hd ha hx, run_part hd ha hy, Result.andThen_ok, e1]
        cases b with
        | true =>
          have := ih q hq
          simpa [Sem.run_pure] using this
        | false => simp [Sem.run_pure]
  rw [← Array.forIn_toList, key _ r h]
  cases r <;> simp [Sem.run_pure]
theorem eq1_same {P : Program} {φ : Emb} {t : TypeId} {x y x' y' : Value} {r : Bool} (h : eq1 P t x y = some r) (hx : VR φ x x') (hy : VR φ y y') : x' = x ∧ y' = y := by
  unfold eq1 at h
  split at h
  · exact ⟨vr_int hx, vr_int hy⟩
  · cases hx; cases hy; exact ⟨rfl, rfl⟩
  · cases hx; cases hy; exact ⟨rfl, rfl⟩
  · cases h
theorem eqF_same {P : Program} {φ : Emb} {xs ys xs' ys' : List Value} (hx : VRs φ xs xs') (hy : VRs φ ys ys') : ∀ {l : List Field} {r : Bool}, eqF P xs ys l = some r → eqF P xs' ys' l = some r
  | [], _, h => h
  | f :: l, r, h => by
    unfold eqF at h ⊢
    cases hf : (f.name == "_") with
    | true => rw [hf] at h; cases h
    | false =>
      rw [hf, cond_false] at h
      rw [cond_false]
      obtain ⟨x, h1, h⟩ := Option.bind_eq_some_iff.mp h
      obtain ⟨y, h2, h⟩ := Option.bind_eq_some_iff.mp h
      obtain ⟨b, hb, h⟩ := Option.bind_eq_some_iff.mp h
      obtain ⟨q, hq, h5⟩ := Option.bind_eq_some_iff.mp h
      obtain ⟨x', e1, v1⟩ := hx.get _ _ h1
      obtain ⟨y', e2, v2⟩ := hy.get _ _ h2
      obtain ⟨rfl, rfl⟩ := eq1_same hb v1 v2
      rw [e1, e2, Option.bind_some, Option.bind_some, hb, Option.bind_some, eqF_same hx hy hq]
      exact h5
theorem aeqP_sound {P : Program} {φ : Emb} {t : TypeId} {d : TypeDesc} {c : Bool} {x y x' y' : Value} {r : Bool} (hd : P.underlying t = some d) (h : aeqP P t d c x y = some r) (hx : VR φ x x') (hy : VR φ y y') (w : World) :
    (Op.equal t x' y').run P w = .ok r w ∧ (binOp .eql t x' y' = do pure (.bool (← Op.equal t x' y'))) ∧ (binOp .neq t x' y' = do pure (.bool (!(← Op.equal t x' y')))) ∧
      (∀ op (a b : Operand), c = (isC a || isC b) → (eqGuard op t a b x' y').run P w = .ok () w) := by
  unfold aeqP at h
  split at h
  · rename_i n e
    unfold arrEq at h
    split at h
    · rename_i xs ys
      split at h
      · rename_i k ie he hi
        cases hk : (Nat.beq ie.size 1 && (Nat.beq xs.toList.length n && (Nat.beq ys.toList.length n && !(P.eqGuardType P.depth t)))) with
        | false => rw [hk] at h; cases h
        | true =>
          rw [hk, cond_true] at h
          simp only [Bool.and_eq_true, Bool.not_eq_true'] at hk
          obtain ⟨h1, h2, h3, h4⟩ := hk
          obtain ⟨xs', rfl, vx⟩ := vr_agg hx
          obtain ⟨ys', rfl, vy⟩ := vr_agg hy
          obtain ⟨e1, e2⟩ := eqI_same h vx vy
          obtain ⟨xl⟩ := xs
          obtain ⟨yl⟩ := ys
          obtain ⟨xl'⟩ := xs'
          obtain ⟨yl'⟩ := ys'
          simp only at e1 e2 h h2 h3
          subst e1 e2
          refine ⟨?_, rfl, rfl, fun op a b _ => ?_⟩
          · exact run_eqArr hd he hi (Nat.eq_of_beq_eq_true h1) _ _ (Nat.eq_of_beq_eq_true h2) (Nat.eq_of_beq_eq_true h3) h 9998 w
          · unfold eqGuard
            cases op <;> first
              | rfl
              | (simp [h4])
      · cases h
    · cases h
  · rename_i fs
    unfold strEq at h
    split at h
    · rename_i xs ys
      cases hk : (P.stoodInHeld t || P.eqGuardType P.depth t) with
      | true => rw [hk] at h; cases h
      | false =>
        rw [hk, cond_false] at h
        rw [Bool.or_eq_false_iff] at hk
        obtain ⟨xs', rfl, vx⟩ := vr_agg hx
        obtain ⟨ys', rfl, vy⟩ := vr_agg hy
        obtain ⟨xl⟩ := xs
        obtain ⟨yl⟩ := ys
        obtain ⟨xl'⟩ := xs'
        obtain ⟨yl'⟩ := ys'
        refine ⟨run_eqF hd hk.1 xl' yl' (eqF_same vx vy h) 9998 w, rfl, rfl, fun op a b _ => ?_⟩
        unfold eqGuard
        cases op <;> first
          | rfl
          | (simp [hk.2])
    · cases h
  · exact aeq_sound hd h hx hy w

theorem abin_sound {P : Program} {φ : Emb} {op : BinOp} {t : TypeId} {x y x' y' : Value} {v : Value} {p q : Operand} (h : abin P op t (isC p || isC q) x y = some v) (hx : VR φ x x') (hy : VR φ y y') (w : World) :
    ∃ c, (do eqGuard op t p q x' y'; binOp op t x' y' : Sem Value).run P w = .ok c w ∧ VR φ v c := by
  unfold abin at h
  split at h
  · rename_i k a k' b
    obtain rfl := vr_int hx
    obtain rfl := vr_int hy
    have hg : (eqGuard op t p q (.int k a) (.int k' b)).run P w = .ok () w := by
      unfold eqGuard; cases op <;> rfl
    split at h
    · obtain ⟨h1, h2⟩ := shift_sound (P := P) (k' := k') h w
      exact ⟨v, by simp only [Sem.run_bind, hg, Result.andThen_ok]; exact h1, h2 φ⟩
    · obtain ⟨h1, h2⟩ := shift_sound (P := P) (k' := k') h w
      exact ⟨v, by simp only [Sem.run_bind, hg, Result.andThen_ok]; exact h1, h2 φ⟩
    · cases hk : k == k' with
      | false => rw [hk, cond_false] at h; cases h
      | true =>
        rw [hk, cond_true] at h
        have := eq_of_beq hk
        subst this
        obtain ⟨h1, h2⟩ := intOps_sound (P := P) (t := t) h w
        exact ⟨v, by simp only [Sem.run_bind, hg, Result.andThen_ok]; exact h1, h2 φ⟩
  · rename_i a b
    obtain rfl := vr_string hx
    obtain rfl := vr_string hy
    have hg : (eqGuard op t p q (.string a) (.string b)).run P w = .ok () w := by
      unfold eqGuard; cases op <;> rfl
    obtain ⟨h1, h2⟩ := stringOp_sound (P := P) h w
    refine ⟨v, ?_, h2 φ⟩
    simp only [Sem.run_bind, hg, Result.andThen_ok]
    have : binOp op t (.string a) (.string b) = Op.stringOp op a b := by cases op <;> rfl
    rw [this]; exact h1
  · split at h
    · rename_i d hd
      simp only [Option.bind_eq_some_iff] at h
      obtain ⟨b, h1, h2⟩ := h
      obtain rfl := Option.some.inj h2
      obtain ⟨e1, e2, _, e4⟩ := aeqP_sound hd h1 hx hy w
      refine ⟨.bool b, ?_, .bool b⟩
      simp only [Sem.run_bind, e4 .eql p q rfl, Result.andThen_ok, e2, e1, Sem.run_pure]
    · rename_i d hd
      simp only [Option.bind_eq_some_iff] at h
      obtain ⟨b, h1, h2⟩ := h
      obtain rfl := Option.some.inj h2
      obtain ⟨e1, _, e3, e4⟩ := aeqP_sound hd h1 hx hy w
      refine ⟨.bool (!b), ?_, .bool _⟩
      simp only [Sem.run_bind, e4 .neq p q rfl, Result.andThen_ok, e3, e1, Sem.run_pure]
    · cases h

section
variable {P : Program} {φ : Emb} {h : AH} {w : World} {a : Act} {tm : T Value} {nt : Nat} {K : Option Value → AH → Res} {r : Value × AH} {O : Orc}
  {dst : Option Tmp} {ty : TypeId} {pos : String} {after : Array Edge} {guard : Option (Nat × Bool)}
theorem ok_binOp {op : BinOp} {t u : TypeId} {x y : Operand} (hr : HRel φ h w) (ht : TR φ tm nt a.tmps) (hk : evOp P O tm (.binOp op t x y u) h K = some r) : OpOK P φ h w a ⟨dst, .binOp op t x y u, ty, pos, after, guard⟩ K r := by
  simp only [evOp, Option.bind_eq_some_iff] at hk
  obtain ⟨v1, h1, v2, h2, hk⟩ := hk
  cases hb : binOk op v1 v2 with
  | false => rw [hb] at hk; cases hk
  | true =>
  rw [hb, cond_true, Option.bind_eq_some_iff] at hk
  obtain ⟨v, h3, h4⟩ := hk
  obtain ⟨c, h5, h6⟩ := abin_sound (abinT_abin hb h3) (opv_rel ht h1) (opv_rel ht h2) w
  exact .value hr (run_v h5) h6 h4
end
end Go.Lg
