/- Soundness of the evaluator. Part 4: how abstract values and memory stand for the model's. -/
import Derived.Test.YtciiigaagggefaaEv3
import Derived.Laws.Sem
import Derived.Laws.World
import Derived.Laws.AppendOwn
import Derived.Lib.Strings
namespace Go.Lg
open Go

structure Tgt where
  blk : Nat
  sh : Nat
  tot : Nat
  esz : Nat
  ro : Bool
abbrev Emb := Nat → Option Tgt

inductive VR (φ : Emb) : Value → Value → Prop
  | bool (b : Bool) : VR φ (.bool b) (.bool b)
  | int (k : IntKind) (n : Int) : VR φ (.int k n) (.int k n)
  | string (s : ByteArray) : VR φ (.string s) (.string s)
  | nilP : VR φ (.pointer none) (.pointer none)
  | ptr {b o : Nat} {t : Tgt} : φ b = some t → VR φ (.pointer (some ⟨b, o, none⟩)) (.pointer (some ⟨t.blk, t.sh + o, none⟩))
  | nilS : VR φ (.slice none 0 0) (.slice none 0 0)
  | slice {b o n c : Nat} {t : Tgt} : φ b = some t → c < opn → VR φ (.slice (some ⟨b, o, none⟩) n c) (.slice (some ⟨t.blk, t.sh + o, none⟩) n c)
  | sliceO {b o n c : Nat} {t : Tgt} : φ b = some t → t.sh + o + c * t.esz = t.tot → n ≤ c → VR φ (.slice (some ⟨b, o, none⟩) n opn) (.slice (some ⟨t.blk, t.sh + o, none⟩) n c)
  | sliceE {b o o' : Nat} {t : Tgt} : φ b = some t → t.sh + o = t.tot → VR φ (.slice (some ⟨b, o, none⟩) 0 opn) (.slice (some ⟨t.blk, o', none⟩) 0 0)
  | sliceZ {b o o' : Nat} {t : Tgt} : φ b = some t → VR φ (.slice (some ⟨b, o, none⟩) 0 0) (.slice (some ⟨t.blk, o', none⟩) 0 0)
  | sliceV {b o : Nat} {a' : Addr} {t : Tgt} : φ b = some t → t.ro = true → VR φ (.slice (some ⟨b, o, none⟩) 0 0) (.slice (some a') 0 0)
  | nilM : VR φ (.map none) (.map none)
  | map {r : Nat} {t : Tgt} : φ r = some t → VR φ (.map (some r)) (.map (some t.blk))
  | nilF : VR φ .nilFunc .nilFunc
  | func {f : FuncId} {as bs as' bs' : Array Value} : as.size = as'.size → (∀ (i : Nat) (v v' : Value), as[i]? = some v → as'[i]? = some v' → VR φ v v') →
      bs.size = bs'.size → (∀ (i : Nat) (v v' : Value), bs[i]? = some v → bs'[i]? = some v' → VR φ v v') → VR φ (.func (.func f) as bs) (.func (.func f) as' bs')
  | nilI : VR φ .nilIface .nilIface
  | iface {t : TypeId} {v v' : Value} : VR φ v v' → VR φ (.iface t v) (.iface t v')
  | agg {as as' : Array Value} : as.size = as'.size → (∀ (i : Nat) (v v' : Value), as[i]? = some v → as'[i]? = some v' → VR φ v v') → VR φ (.agg as) (.agg as')
  | tuple {as as' : Array Value} : as.size = as'.size → (∀ (i : Nat) (v v' : Value), as[i]? = some v → as'[i]? = some v' → VR φ v v') → VR φ (.tuple as) (.tuple as')

def Sub (φ φ' : Emb) : Prop := ∀ b t, φ b = some t → φ' b = some t
theorem Sub.refl (φ : Emb) : Sub φ φ := fun _ _ h => h
theorem Sub.trans {a b c : Emb} (h : Sub a b) (k : Sub b c) : Sub a c := fun x t hx => k x t (h x t hx)

theorem VR.mono {φ φ' : Emb} (hs : Sub φ φ') {v w : Value} (h : VR φ v w) : VR φ' v w := by
  induction h with
  | bool b => exact .bool b
  | int k n => exact .int k n
  | string s => exact .string s
  | nilP => exact .nilP
  | ptr h => exact .ptr (hs _ _ h)
  | nilS => exact .nilS
  | slice h hc => exact .slice (hs _ _ h) hc
  | sliceO h h1 h2 => exact .sliceO (hs _ _ h) h1 h2
  | sliceE h h1 => exact .sliceE (hs _ _ h) h1
  | sliceZ h => exact .sliceZ (hs _ _ h)
  | sliceV h k => exact .sliceV (hs _ _ h) k
  | nilM => exact .nilM
  | map h => exact .map (hs _ _ h)
  | nilF => exact .nilF
  | func h1 _ h2 _ ih1 ih2 => exact .func h1 ih1 h2 ih2
  | nilI => exact .nilI
  | iface _ ih => exact .iface ih
  | agg h _ ih => exact .agg h ih
  | tuple h _ ih => exact .tuple h ih

/-- lists of values, one by one -/
inductive VRs (φ : Emb) : List Value → List Value → Prop
  | nil : VRs φ [] []
  | cons {v w : Value} {vs ws : List Value} : VR φ v w → VRs φ vs ws → VRs φ (v :: vs) (w :: ws)

namespace VRs
variable {φ : Emb}
theorem mono {φ' : Emb} (hs : Sub φ φ') {l m : List Value} (h : VRs φ l m) : VRs φ' l m := by
  induction h with
  | nil => exact .nil
  | cons h _ ih => exact .cons (h.mono hs) ih
theorem length {l m : List Value} (h : VRs φ l m) : l.length = m.length := by
  induction h with
  | nil => rfl
  | cons _ _ ih => simp [ih]
theorem get {l m : List Value} (h : VRs φ l m) : ∀ (i : Nat) (v : Value), l[i]? = some v → ∃ w, m[i]? = some w ∧ VR φ v w := by
  induction h with
  | nil => intro i v hv; simp at hv
  | cons h _ ih =>
    intro i v hv
    cases i with
    | zero => simp at hv; subst hv; exact ⟨_, rfl, h⟩
    | succ i => simp at hv; simpa using ih i v hv
theorem get2 {l m : List Value} (h : VRs φ l m) (i : Nat) (v v' : Value) (h1 : l[i]? = some v) (h2 : m[i]? = some v') : VR φ v v' := by
  obtain ⟨w, hw, hr⟩ := h.get i v h1
  rw [h2] at hw
  obtain rfl := Option.some.inj hw
  exact hr
theorem of_get : ∀ {l m : List Value}, l.length = m.length → (∀ (i : Nat) (v v' : Value), l[i]? = some v → m[i]? = some v' → VR φ v v') → VRs φ l m
  | [], [], _, _ => .nil
  | v :: l, w :: m, hl, h => .cons (h 0 v w rfl rfl) (of_get (by simpa using hl) fun i v v' h1 h2 => h (i + 1) v v' (by simpa using h1) (by simpa using h2))
  | [], _ :: _, hl, _ => by simp at hl
  | _ :: _, [], hl, _ => by simp at hl
theorem append {l m l' m' : List Value} (h : VRs φ l m) (h' : VRs φ l' m') : VRs φ (l ++ l') (m ++ m') := by
  induction h with
  | nil => exact h'
  | cons h _ ih => exact .cons h ih
theorem take {l m : List Value} (h : VRs φ l m) : ∀ n, VRs φ (l.take n) (m.take n) := by
  induction h with
  | nil => intro n; simp; exact .nil
  | cons h _ ih => intro n; cases n with
    | zero => exact .nil
    | succ n => exact .cons h (ih n)
theorem drop {l m : List Value} (h : VRs φ l m) : ∀ n, VRs φ (l.drop n) (m.drop n) := by
  induction h with
  | nil => intro n; simp; exact .nil
  | cons h hr ih => intro n; cases n with
    | zero => exact .cons h hr
    | succ n => simpa using ih n
theorem set {l m : List Value} (h : VRs φ l m) {v w : Value} (hv : VR φ v w) : ∀ i, VRs φ (l.set i v) (m.set i w) := by
  induction h with
  | nil => intro i; simp; exact .nil
  | cons h hr ih => intro i; cases i with
    | zero => exact .cons hv hr
    | succ n => exact .cons h (ih n)
theorem setL {l m : List Value} (h : VRs φ l m) {vs ws : List Value} (hv : VRs φ vs ws) : ∀ o, VRs φ (AH.setL l o vs) (AH.setL m o ws) := by
  induction hv generalizing l m with
  | nil => intro o; exact h
  | cons hv _ ih => intro o; exact ih (h.set hv o) (o + 1)
theorem agg {l m : List Value} (h : VRs φ l m) : VR φ (.agg l.toArray) (.agg m.toArray) :=
  .agg (by simpa using h.length) (by simpa using h.get2)
theorem tuple {l m : List Value} (h : VRs φ l m) : VR φ (.tuple l.toArray) (.tuple m.toArray) :=
  .tuple (by simpa using h.length) (by simpa using h.get2)
end VRs

theorem VR.cells {φ : Emb} {v w : Value} (h : VR φ v w) : VRs φ v.cells.toList w.cells.toList := by
  cases h with
  | agg hs hr => exact VRs.of_get (by simpa [Value.cells] using hs) (by simpa [Value.cells] using hr)
  | _ => exact .cons (by constructor <;> assumption) .nil

theorem VR.oneCell {φ : Emb} {v w : Value} (h : VR φ v w) (hc : cellOk v = true) : w.oneCell' = true := by
  cases h <;> first | rfl | (simp [cellOk] at hc)
theorem VR.cellOk {φ : Emb} {v w : Value} (h : VR φ v w) (hc : cellOk v = true) : w.cells = #[w] := by
  cases h <;> first | rfl | (simp [Lg.cellOk] at hc)

theorem flat1_VR {φ : Emb} {v : Value} (h : flat1 v = true) : VR φ v v := by
  unfold flat1 at h
  split at h <;> first | constructor | (simp at h)
theorem flat_VR {φ : Emb} {v : Value} (h : flat v = true) : VR φ v v := by
  unfold flat at h
  split at h
  · rename_i cs
    refine .agg rfl fun i v v' h1 h2 => ?_
    rw [h1] at h2
    obtain rfl := Option.some.inj h2
    rw [List.all_eq_true] at h
    exact flat1_VR (h v (by rw [Array.mem_toList_iff]; exact Array.mem_of_getElem? h1))
  · exact flat1_VR h
theorem flats_VRs {φ : Emb} : ∀ {l : List Value}, l.all flat1 = true → VRs φ l l
  | [], _ => .nil
  | v :: l, h => by
    simp at h
    exact .cons (flat1_VR h.1) (flats_VRs (by simpa using h.2))

structure MapRel (φ : Emb) (es es' : List MapEntry) : Prop where
  len : es.length = es'.length
  at_ : ∀ (i : Nat) (e e' : MapEntry), es[i]? = some e → es'[i]? = some e' → flat1 e.key = true ∧ e'.key = e.key ∧ e'.born = e.born ∧ VR φ e.val e'.val

structure HRel (φ : Emb) (h : AH) (w : World) : Prop where
  lt : ∀ b t, φ b = some t → b < h.n
  blkLt : ∀ b t, φ b = some t → t.blk < w.heap.size
  cells : ∀ (b : Nat) (c : List Value) (op ro : Bool) (esz : Nat), h.get b = some (.cells c op ro esz) → ∃ t, φ b = some t ∧ t.ro = ro ∧ t.esz = esz ∧ t.sh + c.length ≤ t.tot ∧
    (ro = false → ∃ rc el, w.heap[t.blk]? = some (.cells rc el (0, 0)) ∧ t.tot ≤ rc.size) ∧
    ∀ (k : Nat) (v : Value), c[k]? = some v → cellOk v = true ∧ ∃ v', w.cell? ⟨t.blk, t.sh + k, none⟩ = some v' ∧ VR φ v v'
  maps : ∀ (b : Nat) (es : List MapEntry) (clk : Nat), h.get b = some (.map es clk) → ∃ t es', φ b = some t ∧ t.ro = false ∧ w.heap[t.blk]? = some (.map es' clk) ∧ MapRel φ es es'.toList
  inj : ∀ b b' x x' t t', h.get b = some x → h.get b' = some x' → φ b = some t → φ b' = some t' → t.blk = t'.blk → b = b' ∨ (t.ro = true ∧ t'.ro = true)
  gets : ∀ b x, h.get b = some x → b < h.n
  sh0 : ∀ b c esz t, h.get b = some (.cells c false false esz) → φ b = some t → t.sh = 0

/-- how the embedding may grow -/
def Ext (φ : Emb) (w : World) (φ' : Emb) : Prop :=
  Sub φ φ' ∧ ∀ b t, φ' b = some t → φ b = some t ∨ w.heap.size ≤ t.blk ∨ ∃ b0 t0, φ b0 = some t0 ∧ t0.blk = t.blk ∧ t0.ro = false

/-- what may turn in the world -/
structure FR (φ : Emb) (w w' : World) : Prop where
  os : w'.os = w.os
  tape : w'.tape = w.tape
  output : w'.output = w.output
  size : w.heap.size ≤ w'.heap.size
  block : ∀ B, B < w.heap.size → (∀ b t, φ b = some t → t.blk = B → t.ro = true) → w'.heap[B]? = w.heap[B]?

theorem FR.refl (φ : Emb) (w : World) : FR φ w w := ⟨rfl, rfl, rfl, Nat.le_refl _, fun _ _ _ => rfl⟩
theorem Ext.refl (φ : Emb) (w : World) : Ext φ w φ := ⟨Sub.refl φ, fun _ _ h => .inl h⟩
theorem Ext.trans {φ φ1 φ2 : Emb} {w w1 : World} (h : Ext φ w φ1) (hf : FR φ w w1) (k : Ext φ1 w1 φ2) : Ext φ w φ2 := by
  refine ⟨h.1.trans k.1, fun b t hb => ?_⟩
  rcases k.2 b t hb with h1 | h1 | ⟨b0, t0, h1, h2, h3⟩
  · exact h.2 b t h1
  · exact .inr (.inl (Nat.le_trans hf.size h1))
  · rcases h.2 b0 t0 h1 with h4 | h4 | ⟨b1, t1, h4, h5, h6⟩
    · exact .inr (.inr ⟨b0, t0, h4, h2, h3⟩)
    · exact .inr (.inl (by omega))
    · exact .inr (.inr ⟨b1, t1, h4, h5.trans h2, h6⟩)
theorem FR.trans {φ φ1 : Emb} {w w1 w2 : World} (h : FR φ w w1) (he : Ext φ w φ1) (k : FR φ1 w1 w2) : FR φ w w2 := by
  refine ⟨k.os.trans h.os, k.tape.trans h.tape, k.output.trans h.output, Nat.le_trans h.size k.size, fun B hB hro => ?_⟩
  refine (k.block B (Nat.lt_of_lt_of_le hB h.size) fun b t hb ht => ?_).trans (h.block B hB hro)
  rcases he.2 b t hb with h1 | h1 | ⟨b0, t0, h1, h2, h3⟩
  · exact hro b t h1 ht
  · omega
  · have := hro b0 t0 h1 (by omega)
    rw [h3] at this
    cases this

/-- a step of the abstract memory and of the world -/
structure Good (φ : Emb) (w : World) (h' : AH) (w' : World) (φ' : Emb) : Prop where
  ext : Ext φ w φ'
  fr : FR φ w w'
  rel : HRel φ' h' w'
theorem Good.refl {φ : Emb} {h : AH} {w : World} (hr : HRel φ h w) : Good φ w h w φ := ⟨.refl _ _, .refl _ _, hr⟩
theorem Good.trans {φ φ1 φ2 : Emb} {w w1 w2 : World} {h1 h2 : AH} (a : Good φ w h1 w1 φ1) (b : Good φ1 w1 h2 w2 φ2) : Good φ w h2 w2 φ2 :=
  ⟨a.ext.trans a.fr b.ext, a.fr.trans a.ext b.fr, b.rel⟩

theorem HRel.drew {φ : Emb} {h : AH} {w : World} (hr : HRel φ h w) : HRel φ h w.drew := ⟨hr.lt, hr.blkLt, hr.cells, hr.maps, hr.inj, hr.gets, hr.sh0⟩
theorem Good.drew {φ : Emb} {h : AH} {w : World} (hr : HRel φ h w) : Good φ w h w.drew φ := ⟨.refl _ _, ⟨rfl, rfl, rfl, Nat.le_refl _, fun _ _ _ => rfl⟩, hr.drew⟩

theorem AH.get_push (h : AH) (x : Blk) (b : Nat) : (h.push x).get b = if b = h.n then some x else h.get b := by
  simp [AH.get, AH.push, T.get_set]
theorem AH.get_set (h : AH) (c : Nat) (x : Option Blk) (b : Nat) : (h.set c x).get b = if b = c then x else h.get b := by
  simp [AH.get, AH.set, T.get_set]

/-- slots -/
structure TR (φ : Emb) (tm : T Value) (nt : Nat) (ts : Array Value) : Prop where
  size : ts.size = nt
  val : ∀ t v, tm.get t = some v → ∃ c, ts[t]? = some c ∧ VR φ v c
theorem TR.mono {φ φ' : Emb} (hs : Sub φ φ') {tm : T Value} {nt : Nat} {ts : Array Value} (h : TR φ tm nt ts) : TR φ' tm nt ts :=
  ⟨h.size, fun t v hv => let ⟨c, h1, h2⟩ := h.val t v hv; ⟨c, h1, h2.mono hs⟩⟩
theorem TR.set {φ : Emb} {tm : T Value} {nt : Nat} {ts : Array Value} (h : TR φ tm nt ts) {d : Nat} {v : Option Value} {c : Value} (hd : d < nt) (hv : ∀ x, v = some x → VR φ x c) :
    TR φ (tm.set d v) nt (ts.setIfInBounds d c) := by
  refine ⟨by simp [h.size], fun t x hx => ?_⟩
  rw [T.get_set] at hx
  by_cases e : t = d
  · subst e
    rw [if_pos rfl] at hx
    exact ⟨c, by simp [h.size, hd], hv x hx⟩
  · rw [if_neg e] at hx
    obtain ⟨c', h1, h2⟩ := h.val t x hx
    exact ⟨c', by rw [Array.getElem?_setIfInBounds_ne (Ne.symm e)]; exact h1, h2⟩
theorem TR.same {φ : Emb} {tm : T Value} {nt : Nat} {ts : Array Value} (h : TR φ tm nt ts) {d : Nat} {v : Value} (hv : tm.get d = some v) : TR φ (tm.set d (some v)) nt ts := by
  refine ⟨h.size, fun t x hx => ?_⟩
  rw [T.get_set] at hx
  by_cases e : t = d
  · subst e
    rw [if_pos rfl] at hx
    obtain rfl := Option.some.inj hx
    exact h.val t _ hv
  · rw [if_neg e] at hx
    exact h.val t x hx
theorem scrub_get (tm : T Value) : ∀ (ks : List Nat) (t : Nat) (v : Value), (scrub tm ks).get t = some v → tm.get t = some v
  | [], t, v, h => by simp [scrub, T.get_nil] at h
  | k :: ks, t, v, h => by
    simp only [scrub, T.get_set] at h
    split at h
    · rename_i e; subst e; exact h
    · exact scrub_get tm ks t v h
theorem TR.scrubO {φ : Emb} {tm : T Value} {nt : Nat} {ts : Array Value} (h : TR φ tm nt ts) (ks : Option (List Nat)) : TR φ (scrubO tm ks) nt ts := by
  cases ks with
  | none => exact h
  | some ks => exact ⟨h.size, fun t v hv => h.val t v (scrub_get tm ks t v hv)⟩

theorem opv_rel {φ : Emb} {tm : T Value} {nt : Nat} {a : Act} (h : TR φ tm nt a.tmps) {x : Operand} {v : Value} (hx : opv tm x = some v) : VR φ v (a.eval x) := by
  cases x with
  | tmp t =>
    obtain ⟨c, h1, h2⟩ := h.val t v hx
    simp only [Act.eval, Array.getD_eq_getD_getElem?, h1, Option.getD_some]
    exact h2
  | const v' =>
    simp only [opv] at hx
    cases hf : flat v' with
    | false => simp [hf] at hx
    | true => simp [hf] at hx; subst hx; exact flat_VR hf
  | global g => simp [opv] at hx
  | func f =>
    simp only [opv, Option.some.injEq] at hx
    subst hx
    exact .func rfl (by simp) rfl (by simp)

theorem opvs_rel {φ : Emb} {tm : T Value} {nt : Nat} {a : Act} (h : TR φ tm nt a.tmps) : ∀ {xs : List Operand} {vs : List Value}, opvs tm xs = some vs → VRs φ vs (xs.map a.eval)
  | [], vs, hx => by simp [opvs] at hx; subst hx; exact .nil
  | x :: xs, vs, hx => by
    simp only [opvs, Option.bind_eq_some_iff] at hx
    obtain ⟨v, h1, ws, h2, h3⟩ := hx
    obtain rfl := Option.some.inj h3
    exact .cons (opv_rel h h1) (opvs_rel h h2)
end Go.Lg
