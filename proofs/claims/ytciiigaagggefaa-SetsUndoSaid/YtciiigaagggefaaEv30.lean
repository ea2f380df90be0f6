/- What comes in: slices of an argument as blocks for reading; the arguments read again behind the call. -/
import Derived.Test.YtciiigaagggefaaEv29
import Derived.Deep.Slices
import Derived.Deep.Fields
import Derived.ChangeSame
import Derived.WideKeyArgs
import Derived.SizedLaws
import Derived.ChangeOld
import Derived.Below
namespace Go.Lg
set_option linter.unusedVariables false
open Go Go.ChangeShapes Go.WideShapes Go.Deep

def AllRo (φ : Emb) : Prop := ∀ b t, φ b = some t → t.ro = true
theorem AllRo.empty : AllRo (fun _ => none) := fun _ _ h => by cases h

theorem HRel.addRo {φ : Emb} {h : AH} {w : World} (hr : HRel φ h w) (ha : AllRo φ) {B sh : Nat} {cs : List Value} (e : Nat) (hB : B < w.heap.size)
    (hc : ∀ k v, cs[k]? = some v → cellOk v = true ∧ ∃ v', w.cell? ⟨B, sh + k, none⟩ = some v' ∧ VR φ v v') :
    ∃ φ', HRel φ' (h.push (.cells cs false true e)) w ∧ AllRo φ' ∧ Sub φ φ' ∧ φ' h.n = some ⟨B, sh, sh + cs.length, e, true⟩ := by
  have hnone : φ h.n = none := by
    cases hx : φ h.n with
    | none => rfl
    | some t => have := hr.lt _ _ hx; omega
  let φ' : Emb := fun b => if b = h.n then some ⟨B, sh, sh + cs.length, e, true⟩ else φ b
  have hsub : Sub φ φ' := fun b t hb => by
    show (if b = h.n then _ else φ b) = some t
    rw [if_neg (fun e => by rw [e, hnone] at hb; cases hb)]; exact hb
  have hat : φ' h.n = some ⟨B, sh, sh + cs.length, e, true⟩ := if_pos rfl
  have hne : ∀ b, b ≠ h.n → φ' b = φ b := fun b hb => if_neg hb
  have hro : AllRo φ' := fun b t hb => by
    by_cases e : b = h.n
    · subst e; rw [hat] at hb; rw [← Option.some.inj hb]
    · rw [hne b e] at hb; exact ha b t hb
  refine ⟨φ', ⟨?_, ?_, ?_, ?_, ?_, ?_, ?_⟩, hro, hsub, hat⟩
  · intro b t hb
    by_cases e : b = h.n
    · subst e; show h.n < h.n + 1; omega
    · rw [hne b e] at hb; have := hr.lt b t hb; show b < h.n + 1; omega
  · intro b t hb
    by_cases e : b = h.n
    · subst e; rw [hat] at hb; rw [← Option.some.inj hb]; exact hB
    · rw [hne b e] at hb; exact hr.blkLt b t hb
  · intro b c op ro esz hg
    by_cases eb : b = h.n
    · subst eb
      rw [AH.get_push_eq] at hg
      simp only [Option.some.injEq, Blk.cells.injEq] at hg
      obtain ⟨rfl, rfl, rfl, rfl⟩ := hg
      exact ⟨_, hat, rfl, rfl, Nat.le_refl _, (fun h0 => by cases h0), fun k v hk => by
        obtain ⟨h1, v', h2, h3⟩ := hc k v hk
        exact ⟨h1, v', h2, h3.mono hsub⟩⟩
    · rw [AH.get_push_ne _ eb] at hg
      obtain ⟨t, h1, h2, h3, h4, h5, h6⟩ := hr.cells b c op ro esz hg
      exact ⟨t, hsub _ _ h1, h2, h3, h4, h5, fun k v hk => by
        obtain ⟨a, v', b', c'⟩ := h6 k v hk
        exact ⟨a, v', b', c'.mono hsub⟩⟩
  · intro b es clk hg
    by_cases eb : b = h.n
    · subst eb; rw [AH.get_push_eq] at hg; cases hg
    · rw [AH.get_push_ne _ eb] at hg
      obtain ⟨t, es', h1, h2, h3, h4⟩ := hr.maps b es clk hg
      have := ha b t h1
      rw [h2] at this; cases this
  · intro b b' x x' t t' h1 h2 h3 h4 h5
    exact .inr ⟨hro _ _ h3, hro _ _ h4⟩
  · intro b x hg
    by_cases eb : b = h.n
    · subst eb; show h.n < h.n + 1; omega
    · rw [AH.get_push_ne _ eb] at hg; have := hr.gets b x hg; show b < h.n + 1; omega
  · intro b c esz t hg hb
    by_cases eb : b = h.n
    · subst eb; rw [AH.get_push_eq] at hg; cases hg
    · rw [AH.get_push_ne _ eb] at hg
      rw [hne b eb] at hb
      exact hr.sh0 b c esz t hg hb

/-- a slice that came in, as a list -/
structure SlIn {α : Type} (h : AH) (enc : α → List Value) (good : α → Prop) (a : Option Addr) (n c : Nat) (l : List α) : Prop where
  len : n = l.length
  rd : Rd h a (l.flatMap enc)
  lt : ∀ b, blk a b → b < h.n
  good : ∀ x ∈ l, good x
  cap : c < 140737488355328
  le : n ≤ c
theorem SlIn.fr {α : Type} {h h' : AH} {enc : α → List Value} {good : α → Prop} {a : Option Addr} {n c : Nat} {l : List α} (hs : SlIn h enc good a n c l) (hf : Fr [] h h') : SlIn h' enc good a n c l :=
  ⟨hs.len, hs.rd.fr hf (by simp), fun b hb => Nat.lt_of_lt_of_le (hs.lt b hb) hf.n, hs.good, hs.cap, hs.le⟩

theorem list_of {α : Type} {R : Nat → α → Prop} : ∀ n : Nat, (∀ i, i < n → ∃ x, R i x) → ∃ l : List α, l.length = n ∧ ∀ i x, l[i]? = some x → R i x
  | 0, _ => ⟨[], rfl, fun i x h => by simp at h⟩
  | n + 1, h => by
    obtain ⟨l, h1, h2⟩ := list_of n fun i hi => h i (by omega)
    obtain ⟨y, hy⟩ := h n (by omega)
    refine ⟨l ++ [y], by simp [h1], fun i x hx => ?_⟩
    by_cases hi : i < n
    · rw [List.getElem?_append_left (by omega)] at hx; exact h2 i x hx
    · by_cases e : i = n
      · subst e
        rw [List.getElem?_append_right (by omega), h1] at hx
        simp at hx; rw [← hx]; exact hy
      · rw [List.getElem?_eq_none (by simp; omega)] at hx; cases hx

theorem flat_inv {α : Type} {enc : α → List Value} {sz : Nat} (hs : ∀ a, (enc a).length = sz) (h0 : 0 < sz) {l : List α} {k : Nat} {v : Value} (hk : (l.flatMap enc)[k]? = some v) : ∃ x, l[k / sz]? = some x ∧ (enc x)[k % sz]? = some v := by
  have hm := Nat.mod_lt k h0
  have hd : k / sz * sz + k % sz = k := by rw [Nat.mul_comm]; exact Nat.div_add_mod k sz
  have := flat_get hs hm l (k / sz)
  rw [hd, hk] at this
  cases hx : l[k / sz]? with
  | none => rw [hx] at this; cases this
  | some x => rw [hx] at this; exact ⟨x, rfl, this.symm⟩

section
variable {H : Type} {encd : TypeId × Value → H} {P : Program} {W : World}

theorem in_slice {α : Type} {enc : α → List Value} {good : α → Prop} {sz : Nat} (hs : ∀ a, (enc a).length = sz) (h0 : 0 < sz) (hok : ∀ a v, v ∈ enc a → cellOk v = true ∧ ∀ φ, VR φ v v) {t e : TypeId} (ht : P.underlying t = some (.slice e)) (hC : P.cellsOf e = sz)
    (dec : ∀ n cs x, DataW.trod encd P W 0 (fun _ => true) true n e cs = some x → ∃ a, cs = enc a ∧ good a) {v : Value} {d : DataW H} {ps : List MemPlace} {base : Nat}
    (hv : Value.okWide P W .any base t v) (hd : DataW.Trod encd P W 0 (fun _ => true) true t v d ps) (hz : ∀ l m, d = .slice l m → (l.length + m.length) * P.bytesOf e ≤ reachBytes) (hb : 0 < P.bytesOf e)
    {φ : Emb} {h : AH} (hr : HRel φ h W) (ha : AllRo φ) : ∃ φ' h' a n c l, HRel φ' h' W ∧ AllRo φ' ∧ Sub φ φ' ∧ Fr [] h h' ∧ VR φ' (.slice a n c) v ∧ SlIn h' enc good a n c l := by
  obtain ⟨fuel, hf⟩ := hd
  rcases open_slice ht hf with ⟨hcs, _⟩ | ⟨a, len, cap, m, n, D, Pl, hcs, _, hl, hm, hmm, hx, hi⟩
  · have : v = .slice none 0 0 := by
      cases v <;> simp [Value.cells] at hcs
      · obtain ⟨rfl, rfl, rfl⟩ := hcs; rfl
      · rename_i as
        exfalso
        simp only [Value.okWide, ht, Cell.okWide, Cell.ok] at hv
    subst this
    exact ⟨φ, h, none, 0, 0, [], hr, ha, fun _ _ hb => hb, .refl _ _, .nilS, ⟨rfl, .inl rfl, (fun b hb => by cases hb), by simp, by omega, Nat.le_refl _⟩⟩
  · have : v = .slice (some a) len cap := by
      cases v <;> simp [Value.cells] at hcs
      · obtain ⟨rfl, rfl, rfl⟩ := hcs; rfl
      · rename_i as
        exfalso
        simp only [Value.okWide, ht, Cell.okWide, Cell.ok] at hv
    subst this
    simp only [Value.okWide, ht, Cell.okWide, Cell.ok] at hv
    obtain ⟨_, _, _, hspot, row, cells, hsh, _⟩ := hv
    obtain ⟨B, o, spot⟩ := a
    simp only at hspot
    subst hspot
    have hB : B < W.heap.size := by
      unfold World.shape? at hsh
      split at hsh
      · rename_i hh; exact (Array.getElem?_eq_some_iff.mp hh).1
      · cases hsh
    simp only [if_true] at hmm
    subst hmm
    have hcap : m < 140737488355328 := by
      have := hz ((List.range len).map D) ((List.range (m - len)).map fun j => D (len + j)) (by simpa using congrArg Prod.fst hx)
      simp only [List.length_map, List.length_range] at this
      have h1 : len + (m - len) ≤ (len + (m - len)) * P.bytesOf e := Nat.le_mul_of_pos_right _ hb
      have h2 := reachBytes_lt
      omega
    obtain ⟨l, hll, hlr⟩ := list_of (α := α) (R := fun i x => good x ∧ ∀ j c, (enc x)[j]? = some c → W.cell? ⟨B, o + (i * sz + j), none⟩ = some c) len (fun i hil => by
      obtain ⟨cs', hc, htr⟩ := hi i (by omega)
      rw [hC] at hc
      obtain ⟨x, rfl, hg⟩ := dec _ _ _ htr
      obtain ⟨_, hlen, hat⟩ := World.cells?_some hc
      refine ⟨x, hg, fun j c hj => ?_⟩
      have hjs : j < sz := by rw [← hs x]; exact (List.getElem?_eq_some_iff.mp hj).1
      have := hat j hjs
      rw [hj] at this
      rw [← this]
      rw [add_plain, add_plain, Nat.add_assoc])
    have hcells : ∀ k c, (l.flatMap enc)[k]? = some c → W.cell? ⟨B, o + k, none⟩ = some c ∧ cellOk c = true ∧ ∀ φ, VR φ c c := by
      intro k c hk
      obtain ⟨x, hx1, hx2⟩ := flat_inv hs h0 hk
      have := (hlr _ _ hx1).2 _ _ hx2
      have hd : k / sz * sz + k % sz = k := by rw [Nat.mul_comm]; exact Nat.div_add_mod k sz
      rw [hd] at this
      exact ⟨this, hok x c (List.mem_of_getElem? hx2)⟩
    obtain ⟨φ', hr', ha', hsub, hat⟩ := hr.addRo ha (B := B) (sh := o) (cs := l.flatMap enc) sz hB (fun k c hk => by
      obtain ⟨h1, h2, h3⟩ := hcells k c hk
      exact ⟨h2, c, h1, h3 φ⟩)
    refine ⟨φ', _, some ⟨h.n, 0, none⟩, len, m, l, hr', ha', hsub, Fr.push _ _ _, ?_, ⟨hll.symm, .inr ⟨⟨h.n, 0, none⟩, _, _, _, _, rfl, AH.get_push_eq _ _, by show h.n < h.n + 1; omega, fun k c hk => by simpa using hk⟩, fun b hb => ?_, ?_, by omega, by omega⟩⟩
    · exact .slice hat (by show m < 4611686018427387904; omega)
    · obtain rfl : h.n = b := hb
      show h.n < h.n + 1; omega
    · intro x hx
      obtain ⟨i, hi⟩ := List.getElem?_of_mem hx
      exact (hlr i x hi).1

/-- the fields of a struct of one-cell fields -/
theorem dec_fields {e : TypeId} {fs : Array Field} (he : P.underlying e = some (.struct fs)) (hone : oneCellFields P fs = true) (hC : P.cellsOf e = fs.size) {n : Nat} {cs : List Value} {x : DataW H × List MemPlace}
    (h : DataW.trod encd P W 0 (fun _ => true) true n e cs = some x) : cs.length = fs.size ∧ ∀ (j : Nat) (f : Field), fs[j]? = some f → ∃ n' v y, cs[j]? = some v ∧ DataW.trod encd P W 0 (fun _ => true) true n' f.type [v] = some y := by
  obtain ⟨xs, n', _, _, hlen, hxl, hf⟩ := DataW.trod_struct he h
  rw [hC] at hlen
  refine ⟨hlen, fun j f hj => ?_⟩
  obtain ⟨ho, hk⟩ := hone_of hone j f hj
  have hjl : j < fs.size := (Array.getElem?_eq_some_iff.1 hj).1
  have h1 := hf j f hj
  rw [ho, hk] at h1
  have e1 : (cs.drop j).take 1 = [cs[j]'(by omega)] := by
    rw [List.drop_eq_getElem_cons (by omega)]; rfl
  rw [e1, List.getElem?_eq_getElem (by omega)] at h1
  exact ⟨n', _, _, List.getElem?_eq_getElem (by omega), h1⟩

theorem dec_int {t : TypeId} {k : IntKind} (ht : P.underlying t = some (.int k)) {n : Nat} {cs : List Value} {x : DataW H × List MemPlace} (h : DataW.trod encd P W 0 (fun _ => true) true n t cs = some x) : ∃ i, cs = [.int k i] ∧ (Lit.int k i).wf = true := by
  obtain ⟨i, h1, _, h2⟩ := DataW.trod_int ht h
  exact ⟨i, h1, h2⟩
theorem dec_bool {t : TypeId} (ht : P.underlying t = some .bool) {n : Nat} {cs : List Value} {x : DataW H × List MemPlace} (h : DataW.trod encd P W 0 (fun _ => true) true n t cs = some x) : ∃ b, cs = [.bool b] := by
  obtain ⟨i, h1, _⟩ := DataW.trod_bool ht h
  exact ⟨i, h1⟩
theorem dec_string {t : TypeId} (ht : P.underlying t = some .string) {n : Nat} {cs : List Value} {x : DataW H × List MemPlace} (h : DataW.trod encd P W 0 (fun _ => true) true n t cs = some x) : ∃ s : ByteArray, cs = [.string s] := by
  obtain ⟨i, h1, _⟩ := DataW.trod_string ht h
  exact ⟨i, h1⟩

/-- the arguments read again -/
theorem all_stays (hl : laidOutB P = true) : ∀ {ts : List TypeId} {vs : List Value} {ds : List (DataW H)} {ps : List MemPlace} {W' : World} {sp' : Nat → Bool}, (ts.all fun t => P.readableRec t && decide (t < P.types.size)) = true →
    DataW.TrodAll encd P W 0 (fun _ => true) true ts vs ds ps → (∀ p ∈ ps, W.sameAt W' p) → (∀ p ∈ ps, sp' p.block = true) → DataW.TrodAll encd P W' 0 sp' true ts vs ds ps
  | [], _, _, _, _, _, _, h, _, _ => by
    obtain ⟨rfl, rfl, rfl⟩ := trodAll_nil h
    exact trodAll_mk0
  | t :: ts, _, _, _, W', sp', hc, h, hs, hsp => by
    obtain ⟨v, vs1, d, ds1, a, b, rfl, rfl, rfl, h1, h2⟩ := trodAll_cons h
    simp only [List.all_cons, Bool.and_eq_true, decide_eq_true_eq] at hc
    exact ⟨a, b, WideElems.Trod_stays hl hc.1.1 hc.1.2 h1 (fun p hp => hs p (List.mem_append_left _ hp)) (fun p hp => hsp p (List.mem_append_left _ hp)),
      all_stays hl hc.2 h2 (fun p hp => hs p (List.mem_append_right _ hp)) (fun p hp => hsp p (List.mem_append_right _ hp)), rfl⟩
end

theorem wf_i64 {x : Int} (h : (Lit.int .i64 x).wf = true) : -9223372036854775808 ≤ x ∧ x < 9223372036854775808 := by
  simp only [Lit.wf, Bool.and_eq_true, decide_eq_true_eq] at h
  have e1 : IntKind.i64.min = -9223372036854775808 := rfl
  have e2 : IntKind.i64.max = 9223372036854775807 := rfl
  rw [e1, e2] at h
  omega
end Go.Lg
