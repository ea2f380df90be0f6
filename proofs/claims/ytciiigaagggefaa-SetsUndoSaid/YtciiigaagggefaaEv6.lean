/- Soundness of the evaluator. Part 6: operations that yield values. -/
import Derived.Test.YtciiigaagggefaaEv5
namespace Go.Lg
open Go

def OpRun (P : Program) (a : Act) (o : Oper) (w : World) (c : Value) (w' : World) : Prop :=
  (execOp a.eval o).run P w = .ok (.value c) w' ∨ ((execOp a.eval o).run P w = .ok .skip w' ∧ c = undef)

section inv
variable {φ : Emb} {c : Value}
theorem vr_bool {b : Bool} (h : VR φ (.bool b) c) : c = .bool b := by cases h; rfl
theorem vr_int {k : IntKind} {n : Int} (h : VR φ (.int k n) c) : c = .int k n := by cases h; rfl
theorem vr_string {s : ByteArray} (h : VR φ (.string s) c) : c = .string s := by cases h; rfl
theorem vr_nilP (h : VR φ (.pointer none) c) : c = .pointer none := by cases h; rfl
theorem vr_ptr {a : Addr} (h : VR φ (.pointer (some a)) c) : ∃ t, φ a.block = some t ∧ a.spot = none ∧ c = .pointer (some ⟨t.blk, t.sh + a.off, none⟩) := by
  cases h with
  | ptr h => exact ⟨_, h, rfl, rfl⟩
theorem vr_agg {as : Array Value} (h : VR φ (.agg as) c) : ∃ cs, c = .agg cs ∧ VRs φ as.toList cs.toList := by
  cases h with
  | agg h1 h2 => exact ⟨_, rfl, VRs.of_get (by simpa using h1) (by simpa using h2)⟩
theorem vr_tuple {as : Array Value} (h : VR φ (.tuple as) c) : ∃ cs, c = .tuple cs ∧ VRs φ as.toList cs.toList := by
  cases h with
  | tuple h1 h2 => exact ⟨_, rfl, VRs.of_get (by simpa using h1) (by simpa using h2)⟩
theorem vr_iface {t : TypeId} {v : Value} (h : VR φ (.iface t v) c) : ∃ c', c = .iface t c' ∧ VR φ v c' := by
  cases h with
  | iface h => exact ⟨_, rfl, h⟩
theorem vr_nilI (h : VR φ .nilIface c) : c = .nilIface := by cases h; rfl
theorem vr_nilF (h : VR φ .nilFunc c) : c = .nilFunc := by cases h; rfl
end inv

theorem flat1_cellOk {v : Value} (h : flat1 v = true) : cellOk v = true := by
  unfold flat1 at h
  split at h <;> first | rfl | (simp at h)
theorem all_flat1_cellOk {l : List Value} (h : l.all flat1 = true) : l.all cellOk = true := by
  rw [List.all_eq_true] at h ⊢
  exact fun v hv => flat1_cellOk (h v hv)

theorem zeroCellsOf_inv {P : Program} {t : TypeId} {l : List Value} (h : zeroCellsOf P t = some l) :
    ∃ i z, P.info? t = some i ∧ i.zero = some z ∧ z.cells.toList = l ∧ z.cells.size = i.size ∧ l.all flat1 = true := by
  simp only [zeroCellsOf, Option.bind_eq_some_iff] at h
  obtain ⟨i, h1, z, h2, h3⟩ := h
  cases hb : (Nat.beq z.cells.size i.size && z.cells.toList.all flat1) with
  | false => rw [hb, cond_false] at h3; cases h3
  | true =>
    simp only [hb, cond_true, Option.some.injEq] at h3
    subst h3
    simp only [Bool.and_eq_true] at hb
    exact ⟨i, z, h1, h2, rfl, Nat.eq_of_beq_eq_true hb.1, hb.2⟩
theorem run_zeroValue' {P : Program} {t : TypeId} {i : TypeInfo} {z : Value} (hi : P.info? t = some i) (hz : i.zero = some z) (w : World) : (zeroValue t).run P w = .ok z w := by
  simp [zeroValue, typeInfo, hi, hz]

theorem run_newVar {P : Program} (t : TypeId) (v : Value) (w : World) : (newVar t v).run P w = .ok ⟨w.heap.size, 0, none⟩ (w.alloc (.cells v.cells t)) := by
  simp [newVar, newRow]

/-- filling, over lists -/
theorem foldl_zipIdx_setL : ∀ (l : List Value) (o n : Nat) (cs : Array Value), ((l.zipIdx n).foldl (fun cs p => cs.setIfInBounds (o + p.2) p.1) cs).toList = AH.setL cs.toList (o + n) l
  | [], o, n, cs => by simp [AH.setL]
  | v :: l, o, n, cs => by
    simp only [List.zipIdx_cons, List.foldl_cons, AH.setL]
    rw [foldl_zipIdx_setL l o (n + 1)]
    simp [Nat.add_assoc]

theorem fill_eq (pl : Nat → Option (Nat × Nat)) : ∀ (ps : List (Nat × Value)) (cs : Array Value), (Instr.fill pl cs ps).map (·.toList) = fillL pl cs.toList ps
  | [], cs => by simp [Instr.fill, fillL]
  | (i, v) :: ps, cs => by
    simp only [Instr.fill, fillL]
    cases h : pl i with
    | none => simp
    | some p =>
      obtain ⟨off, size⟩ := p
      simp only [Option.bind_some]
      by_cases hc : (v.cells.size ≠ size || off + v.cells.size > cs.size) = true
      · rw [if_pos hc]
        have : (Nat.beq v.cells.toList.length size && Nat.ble (off + v.cells.toList.length) cs.toList.length) = false := by
          rw [Bool.eq_false_iff]
          intro ht
          simp only [Bool.and_eq_true, Array.length_toList] at ht
          have h1 := Nat.eq_of_beq_eq_true ht.1
          have h2 := Nat.le_of_ble_eq_true ht.2
          simp at hc
          omega
        rw [this]; rfl
      · rw [if_neg hc]
        have : (Nat.beq v.cells.toList.length size && Nat.ble (off + v.cells.toList.length) cs.toList.length) = true := by
          simp only [Bool.or_eq_true, decide_eq_true_eq, not_or, Decidable.not_not] at hc
          simp only [Bool.and_eq_true, Array.length_toList]
          exact ⟨by rw [hc.1]; exact Nat.beq_refl _, Nat.ble_eq_true_of_le (by omega)⟩
        rw [this, cond_true, fill_eq pl ps]
        congr 1
        have := foldl_zipIdx_setL v.cells.toList off 0 cs
        rw [Nat.add_zero] at this
        rw [← this, ← Array.foldl_toList, Array.toList_zipIdx]

/-- parts that stand for parts -/
inductive PR (φ : Emb) : List (Nat × Value) → List (Nat × Value) → Prop
  | nil : PR φ [] []
  | cons {i : Nat} {v w : Value} {l m : List (Nat × Value)} : VR φ v w → PR φ l m → PR φ ((i, v) :: l) ((i, w) :: m)

theorem opParts_rel {φ : Emb} {tm : T Value} {nt : Nat} {a : Act} (h : TR φ tm nt a.tmps) : ∀ {xs : List (Nat × Operand)} {vs : List (Nat × Value)}, opParts tm xs = some vs → PR φ vs (xs.map fun p => (p.1, a.eval p.2))
  | [], vs, hx => by simp [opParts] at hx; subst hx; exact .nil
  | (i, x) :: xs, vs, hx => by
    simp only [opParts, Option.bind_eq_some_iff] at hx
    obtain ⟨v, h1, ws, h2, h3⟩ := hx
    obtain rfl := Option.some.inj h3
    exact .cons (opv_rel h h1) (opParts_rel h h2)

theorem fillL_rel {φ : Emb} (pl : Nat → Option (Nat × Nat)) {ps qs : List (Nat × Value)} (hp : PR φ ps qs) : ∀ {cs ds : List Value} {r : List Value}, VRs φ cs ds → fillL pl cs ps = some r → ∃ r', fillL pl ds qs = some r' ∧ VRs φ r r' := by
  induction hp with
  | nil => intro cs ds r h hr; simp [fillL] at hr; subst hr; exact ⟨ds, rfl, h⟩
  | @cons i v u l m hv _ ih =>
    intro cs ds r h hr
    simp only [fillL, Option.bind_eq_some_iff] at hr
    obtain ⟨p, hp, hr⟩ := hr
    cases hc : (Nat.beq v.cells.toList.length p.2 && Nat.ble (p.1 + v.cells.toList.length) cs.length) with
    | false => rw [hc, cond_false] at hr; cases hr
    | true =>
      rw [hc, cond_true] at hr
      obtain ⟨r', h1, h2⟩ := ih (h.setL hv.cells p.1) hr
      refine ⟨r', ?_, h2⟩
      simp only [fillL, hp, Option.bind_some]
      rw [← hv.cells.length, ← h.length, hc]
      exact h1

theorem run_mapM_ok {P : Program} {α β : Type} (w : World) (g : α → Sem β) (v : α → β) : ∀ (fs : List α), (∀ f ∈ fs, (g f).run P w = .ok (v f) w) → (fs.mapM g).run P w = .ok (fs.map v) w
  | [], _ => by simp
  | f :: fs, h => by
    have h1 := h f (by simp)
    have h2 := run_mapM_ok w g v fs (fun x hx => h x (by simp [hx]))
    simp only [List.mapM_cons, Sem.run_bind, h1, Result.andThen_ok, h2, Sem.run_pure, List.map_cons]
theorem placesL_inv {P : Program} : ∀ {fs : List Field} {l : List (Nat × Nat)}, placesL P fs = some l → l = fs.map (fun f => (f.offset, ((P.info? f.type).map (·.size)).getD 0)) ∧ ∀ f ∈ fs, (P.info? f.type).isSome = true
  | [], l, h => by simp [placesL] at h; subst h; simp
  | f :: fs, l, h => by
    simp only [placesL, Option.bind_eq_some_iff] at h
    obtain ⟨n, h1, l', h2, h3⟩ := h
    obtain rfl := Option.some.inj h3
    obtain ⟨i, hi, hn⟩ := sizeT_inv h1
    obtain ⟨e, hs⟩ := placesL_inv h2
    subst e
    refine ⟨by simp [hi, hn], fun g hg => ?_⟩
    rcases List.mem_cons.1 hg with rfl | hg
    · simp [hi]
    · exact hs g hg
theorem run_mapM_places {P : Program} (w : World) {fs : Array Field} {l : List (Nat × Nat)} (h : placesL P fs.toList = some l) :
    (fs.mapM fun f => do pure (f.offset, ← sizeOf f.type) : Sem (Array (Nat × Nat))).run P w = .ok l.toArray w := by
  obtain ⟨rfl, hs⟩ := placesL_inv h
  rw [Array.mapM_eq_mapM_toList]
  have := run_mapM_ok (P := P) w (fun f : Field => (do pure (f.offset, ← sizeOf f.type) : Sem (Nat × Nat))) (fun f => (f.offset, ((P.info? f.type).map (·.size)).getD 0)) fs.toList (fun f hf => by
    have := hs f hf
    cases hi : P.info? f.type with
    | none => rw [hi] at this; cases this
    | some i => simp [run_sizeOf' hi])
  simp only [Sem.run_map, this, Result.andThen_ok]

theorem repL_length (z : List Value) : ∀ n, (repL z n).length = n * z.length
  | 0 => by simp [repL]
  | n + 1 => by simp [repL, repL_length z n, Nat.add_mul, Nat.add_comm]
theorem repL_get (z : List Value) : ∀ (n k : Nat), k < n * z.length → (repL z n)[k]? = z[k % z.length]?
  | 0, k, h => by simp at h
  | n + 1, k, h => by
    have hz : 0 < z.length := by
      rcases Nat.eq_zero_or_pos z.length with h0 | h0
      · rw [h0] at h; simp at h
      · exact h0
    simp only [repL]
    by_cases hk : k < z.length
    · rw [List.getElem?_append_left hk, Nat.mod_eq_of_lt hk]
    · rw [List.getElem?_append_right (by omega), repL_get z n (k - z.length) (by rw [Nat.add_mul, Nat.one_mul] at h; omega)]
      congr 1
      exact (Nat.mod_eq_sub_mod (by omega)).symm
theorem range_map_repL (z : Array Value) (n : Nat) : ((Array.range (n * z.size)).map (z[· % z.size]!)).toList = repL z.toList n := by
  apply List.ext_getElem?
  intro k
  by_cases hk : k < n * z.size
  · have hz : 0 < z.size := by
      rcases Nat.eq_zero_or_pos z.size with h0 | h0
      · rw [h0] at hk; simp at hk
      · exact h0
    rw [repL_get _ _ _ (by simpa using hk)]
    have hm := Nat.mod_lt k hz
    simp [hk, hm]
  · rw [List.getElem?_eq_none (by simp; omega), List.getElem?_eq_none (by simp [repL_length]; omega)]
theorem zeroCells_toList (z : Array Value) (n : Nat) : (Builtin.zeroCells z n).toList = repL z.toList n := range_map_repL z n
theorem repL_VRs {φ : Emb} {z z' : List Value} (h : VRs φ z z') : ∀ n, VRs φ (repL z n) (repL z' n)
  | 0 => .nil
  | n + 1 => h.append (repL_VRs h n)
theorem repL_all {z : List Value} {p : Value → Bool} (h : z.all p = true) : ∀ n, (repL z n).all p = true
  | 0 => rfl
  | n + 1 => by simp only [repL, List.all_append, h, repL_all h n, Bool.and_self]
end Go.Lg
