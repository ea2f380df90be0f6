/- What comes in: slices of slices. -/
import Derived.Test.YtciiigaagggefaaEv32
namespace Go.Lg
set_option linter.unusedVariables false
open Go Go.ChangeShapes Go.WideShapes Go.Deep

structure Inn (α : Type) where
  a : Option Addr
  n : Nat
  c : Nat
  l : List α
def encInn {α : Type} (x : Inn α) : List Value := [.slice x.a x.n x.c]
theorem encInn_len {α : Type} (x : Inn α) : (encInn x).length = 1 := rfl
structure SlIn2 {α : Type} (h : AH) (enc : α → List Value) (good : α → Prop) (a : Option Addr) (n c : Nat) (ls : List (Inn α)) : Prop where
  len : n = ls.length
  rd : Rd h a (ls.flatMap encInn)
  lt : ∀ b, blk a b → b < h.n
  each : ∀ x ∈ ls, SlIn h enc good x.a x.n x.c x.l
  cap : c < 140737488355328
  le : n ≤ c
  nil : a = none → n = 0 ∧ c = 0
theorem SlIn2.fr {α : Type} {h h' : AH} {enc : α → List Value} {good : α → Prop} {a : Option Addr} {n c : Nat} {l : List (Inn α)} (hs : SlIn2 h enc good a n c l) (hf : Fr [] h h') : SlIn2 h' enc good a n c l :=
  ⟨hs.len, hs.rd.fr hf (by simp), fun b hb => Nat.lt_of_lt_of_le (hs.lt b hb) hf.n, fun x hx => (hs.each x hx).fr hf, hs.cap, hs.le, hs.nil⟩

theorem weightsAll_mem' {H : Type} {P : Program} {e : TypeId} : ∀ {l : List (DataW H)} {d : DataW H}, d ∈ l → ∀ n ∈ d.weights P e, n ∈ DataW.weightsAll P e l
  | d' :: r, d, hd, n, hn => by
    simp only [DataW.weightsAll, List.mem_append]
    rcases List.mem_cons.1 hd with rfl | h
    · exact .inl hn
    · exact .inr (weightsAll_mem' h n hn)
theorem sized_inner' {H : Type} {P : Program} {ts : List TypeId} {ds : List (DataW H)} (h : (DataW.weightsEach P ts ds).all (· ≤ reachBytes) = true) {j : Nat} {t e q : TypeId} {elems spare e' sp' : List (DataW H)}
    (ht : ts[j]? = some t) (hd : ds[j]? = some (.slice elems spare)) (hu : P.underlying t = some (.slice e)) (hu2 : P.underlying e = some (.slice q)) (hx : DataW.slice e' sp' ∈ elems) : (e'.length + sp'.length) * P.bytesOf q ≤ reachBytes := by
  refine of_decide_eq_true (List.all_eq_true.1 h _ (DataW.weights_mem_each ht hd _ ?_))
  simp only [DataW.weights, hu, List.mem_cons, List.mem_append]
  exact .inr (.inl (weightsAll_mem' hx _ (by simp [DataW.weights, hu2])))

section
variable {H : Type} {encd : TypeId × Value → H} {P : Program} {W : World}

/-- a slice in a cell -/
theorem in_cell {α : Type} {enc : α → List Value} {good : α → Prop} {sz : Nat} (hs : ∀ a, (enc a).length = sz) (h0 : 0 < sz) (hok : ∀ a v, v ∈ enc a → cellOk v = true ∧ ∀ φ, VR φ v v) {t e : TypeId} (ht : P.underlying t = some (.slice e)) (hC : P.cellsOf e = sz)
    (dec : ∀ n cs x, DataW.trod encd P W 0 (fun _ => true) true n e cs = some x → ∃ a, cs = enc a ∧ good a) {v : Value} {fuel : Nat} {x : DataW H × List MemPlace}
    (hd : DataW.trod encd P W 0 (fun _ => true) true fuel t [v] = some x) (hz : ∀ l m, x.1 = .slice l m → (l.length + m.length) * P.bytesOf e ≤ reachBytes) (hb : 0 < P.bytesOf e) {B0 : Nat} (hB0 : B0 < W.heap.size)
    {φ : Emb} {h : AH} (hr : HRel φ h W) (ha : AllRo φ) : ∃ φ' h' a n c l, HRel φ' h' W ∧ AllRo φ' ∧ Sub φ φ' ∧ Fr [] h h' ∧ VR φ' (.slice a n c) v ∧ SlIn h' enc good a n c l ∧ n * P.bytesOf e ≤ reachBytes := by
  rcases open_slice ht hd with ⟨hcs, _⟩ | ⟨a, len, cap, m, n, D, Pl, hcs, _, hl, hm, hmm, hx, hi⟩
  · obtain rfl : v = .slice none 0 0 := (List.cons.inj hcs).1
    exact ⟨φ, h, none, 0, 0, [], hr, ha, fun _ _ hb => hb, .refl _ _, .nilS, ⟨rfl, .inl rfl, (fun b hb => by cases hb), by simp, by omega, Nat.le_refl _⟩, by simp⟩
  · obtain rfl : v = .slice (some a) len cap := (List.cons.inj hcs).1
    simp only [if_true] at hmm
    subst hmm
    rcases Nat.eq_zero_or_pos m with hm0 | hmp
    · subst hm0
      obtain rfl : len = 0 := by omega
      obtain ⟨φ', hr', ha', hsub, hat⟩ := hr.addRo ha (B := B0) (sh := 0) (cs := []) sz hB0 (fun k c hk => by simp at hk)
      exact ⟨φ', _, some ⟨h.n, 0, none⟩, 0, 0, [], hr', ha', hsub, Fr.push _ _ _, .sliceV hat rfl, ⟨rfl, .inr ⟨⟨h.n, 0, none⟩, _, _, _, _, rfl, AH.get_push_eq _ _, by show h.n < h.n + 1; omega, fun k c hk => by simp at hk⟩, fun b hb => by
        obtain rfl : h.n = b := hb
        show h.n < h.n + 1; omega, by simp, by omega, Nat.le_refl _⟩, by simp⟩
    obtain ⟨B, o, spot⟩ := a
    have hfirst : ∃ y, W.cell? ⟨B, o, spot⟩ = some y := by
      obtain ⟨cs', hc, htr⟩ := hi 0 hmp
      rw [hC] at hc
      obtain ⟨_, hlen, hat⟩ := World.cells?_some hc
      have := hat 0 h0
      rw [List.getElem?_eq_getElem (by omega)] at this
      exact ⟨_, by simpa [Addr.add] using this⟩
    have hsB : spot = none ∧ B < W.heap.size := by
      obtain ⟨y, hy⟩ := hfirst
      unfold World.cell? at hy
      split at hy
      · rename_i c _ _ hh
        refine ⟨?_, (Array.getElem?_eq_some_iff.mp hh).1⟩
        cases spot with
        | none => rfl
        | some _ => simp at hy
      · cases hy
    obtain ⟨rfl, hB⟩ := hsB
    have hcap : m < 140737488355328 := by
      have := hz ((List.range len).map D) ((List.range (m - len)).map fun j => D (len + j)) (by simpa using congrArg Prod.fst hx)
      simp only [List.length_map, List.length_range] at this
      have h1 : len + (m - len) ≤ (len + (m - len)) * P.bytesOf e := Nat.le_mul_of_pos_right _ hb
      have h2 := reachBytes_lt
      omega
    have hroom : len * P.bytesOf e ≤ reachBytes := by
      have := hz ((List.range len).map D) ((List.range (m - len)).map fun j => D (len + j)) (by simpa using congrArg Prod.fst hx)
      simp only [List.length_map, List.length_range] at this
      exact Nat.le_trans (Nat.mul_le_mul_right _ (by omega)) this
    obtain ⟨l, hll, hlr⟩ := list_of (α := α) (R := fun i x => good x ∧ ∀ j c, (enc x)[j]? = some c → W.cell? ⟨B, o + (i * sz + j), none⟩ = some c) len (fun i hil => by
      obtain ⟨cs', hc, htr⟩ := hi i (by omega)
      rw [hC] at hc
      obtain ⟨x, rfl, hg⟩ := dec _ _ _ htr
      obtain ⟨_, hlen, hat⟩ := World.cells?_some hc
      refine ⟨x, hg, fun j c hj => ?_⟩
      have hjs : j < sz := by rw [← hs x]; exact (List.getElem?_eq_some_iff.mp hj).1
      have := hat j hjs
      rw [hj] at this
      rw [← this]
      rw [add_plain, add_plain, Nat.add_assoc])
    have hcells : ∀ k c, (l.flatMap enc)[k]? = some c → W.cell? ⟨B, o + k, none⟩ = some c ∧ cellOk c = true ∧ ∀ φ, VR φ c c := by
      intro k c hk
      obtain ⟨x, hx1, hx2⟩ := flat_inv hs h0 hk
      have := (hlr _ _ hx1).2 _ _ hx2
      have hd : k / sz * sz + k % sz = k := by rw [Nat.mul_comm]; exact Nat.div_add_mod k sz
      rw [hd] at this
      exact ⟨this, hok x c (List.mem_of_getElem? hx2)⟩
    obtain ⟨φ', hr', ha', hsub, hat⟩ := hr.addRo ha (B := B) (sh := o) (cs := l.flatMap enc) sz hB (fun k c hk => by
      obtain ⟨h1, h2, h3⟩ := hcells k c hk
      exact ⟨h2, c, h1, h3 φ⟩)
    refine ⟨φ', _, some ⟨h.n, 0, none⟩, len, m, l, hr', ha', hsub, Fr.push _ _ _, ?_, ⟨hll.symm, .inr ⟨⟨h.n, 0, none⟩, _, _, _, _, rfl, AH.get_push_eq _ _, by show h.n < h.n + 1; omega, fun k c hk => by simpa using hk⟩, fun b hb => ?_, ?_, by omega, by omega⟩, hroom⟩
    · exact .slice hat (by show m < 4611686018427387904; omega)
    · obtain rfl : h.n = b := hb
      show h.n < h.n + 1; omega
    · intro x hx
      obtain ⟨i, hi⟩ := List.getElem?_of_mem hx
      exact (hlr i x hi).1

/-- a slice of slices of flat elements -/
theorem in_slice2 {α : Type} {enc : α → List Value} {good : α → Prop} {sz : Nat} (hs : ∀ a, (enc a).length = sz) (h0 : 0 < sz) (hok : ∀ a v, v ∈ enc a → cellOk v = true ∧ ∀ φ, VR φ v v) {t e q : TypeId} (ht : P.underlying t = some (.slice e)) (he : P.underlying e = some (.slice q)) (hCe : P.cellsOf e = 1) (hC : P.cellsOf q = sz)
    (dec : ∀ n cs x, DataW.trod encd P W 0 (fun _ => true) true n q cs = some x → ∃ a, cs = enc a ∧ good a) {v : Value} {d : DataW H} {ps : List MemPlace} {base : Nat}
    (hv : Value.okWide P W .any base t v) (hd : DataW.Trod encd P W 0 (fun _ => true) true t v d ps) (hz : ∀ l m, d = .slice l m → (l.length + m.length) * P.bytesOf e ≤ reachBytes)
    (hz2 : ∀ l m, d = .slice l m → ∀ e' sp', DataW.slice e' sp' ∈ l → (e'.length + sp'.length) * P.bytesOf q ≤ reachBytes) (hb : 0 < P.bytesOf e) (hbq : 0 < P.bytesOf q)
    {φ : Emb} {h : AH} (hr : HRel φ h W) (ha : AllRo φ) : ∃ φ' h' a n c l, HRel φ' h' W ∧ AllRo φ' ∧ Sub φ φ' ∧ Fr [] h h' ∧ VR φ' (.slice a n c) v ∧ SlIn2 h' enc good a n c l ∧ ∀ x ∈ l, x.n * P.bytesOf q ≤ reachBytes := by
  obtain ⟨fuel, hf⟩ := hd
  rcases open_slice1 ht hCe hf with ⟨hcs, _⟩ | ⟨a, len, cap, m, n, V, D, Pl, hcs, _, hl, hm, hmm, hx, hi⟩
  · have : v = .slice none 0 0 := by
      cases v <;> simp [Value.cells] at hcs
      · obtain ⟨rfl, rfl, rfl⟩ := hcs; rfl
      · rename_i as
        exfalso
        simp only [Value.okWide, ht, Cell.okWide, Cell.ok] at hv
    subst this
    exact ⟨φ, h, none, 0, 0, [], hr, ha, fun _ _ hb => hb, .refl _ _, .nilS, ⟨rfl, .inl rfl, (fun b hb => by cases hb), by simp, by omega, Nat.le_refl _, fun _ => ⟨rfl, rfl⟩⟩, by simp⟩
  · have : v = .slice (some a) len cap := by
      cases v <;> simp [Value.cells] at hcs
      · obtain ⟨rfl, rfl, rfl⟩ := hcs; rfl
      · rename_i as
        exfalso
        simp only [Value.okWide, ht, Cell.okWide, Cell.ok] at hv
    subst this
    simp only [Value.okWide, ht, Cell.okWide, Cell.ok] at hv
    obtain ⟨_, _, _, hspot, row, cells, hsh, _⟩ := hv
    obtain ⟨B, o, spot⟩ := a
    simp only at hspot
    subst hspot
    have hB : B < W.heap.size := by
      unfold World.shape? at hsh
      split at hsh
      · rename_i hh; exact (Array.getElem?_eq_some_iff.mp hh).1
      · cases hsh
    simp only [if_true] at hmm
    subst hmm
    have hdd : d = .slice ((List.range len).map D) ((List.range (m - len)).map fun j => D (len + j)) := by simpa using congrArg Prod.fst hx
    have hcap : m < 140737488355328 := by
      have := hz _ _ hdd
      simp only [List.length_map, List.length_range] at this
      have h1 : len + (m - len) ≤ (len + (m - len)) * P.bytesOf e := Nat.le_mul_of_pos_right _ hb
      have h2 := reachBytes_lt
      omega
    have step : ∀ k, k ≤ len → ∃ φ' h' ls, List.length ls = k ∧ HRel φ' h' W ∧ AllRo φ' ∧ Sub φ φ' ∧ Fr [] h h' ∧ ∀ (i : Nat) (x : Inn α), ls[i]? = some x → SlIn h' enc good x.a x.n x.c x.l ∧ x.n * P.bytesOf q ≤ reachBytes ∧ ∃ v, W.cell? ⟨B, o + i, none⟩ = some v ∧ VR φ' (.slice x.a x.n x.c) v := by
      intro k
      induction k with
      | zero => intro _; exact ⟨φ, h, [], rfl, hr, ha, fun _ _ hb => hb, .refl _ _, fun i x hx => by simp at hx⟩
      | succ k ih =>
        intro hk
        obtain ⟨φ1, h1, ls, e1, hr1, ha1, hs1, hf1, hl1⟩ := ih (by omega)
        obtain ⟨g1, g2⟩ := hi k (by omega)
        have hw : ∀ l m, (D k, Pl k).1 = DataW.slice l m → (l.length + m.length) * P.bytesOf q ≤ reachBytes := fun l m he' =>
          hz2 _ _ hdd l m (by rw [← he']; exact List.mem_map.mpr ⟨k, List.mem_range.mpr (by omega), rfl⟩)
        obtain ⟨φ2, h2, a2, n2, c2, l2, hr2, ha2, hs2, hf2, hv2, hi2, hr2m⟩ := in_cell hs h0 hok he hC dec g2 hw hbq hB hr1 ha1
        refine ⟨φ2, h2, ls ++ [⟨a2, n2, c2, l2⟩], by simp [e1], hr2, ha2, hs1.trans hs2, hf1.trans hf2, fun i x hx => ?_⟩
        by_cases hik : i < k
        · rw [List.getElem?_append_left (by omega)] at hx
          obtain ⟨p1, p0, v, p2, p3⟩ := hl1 i x hx
          exact ⟨p1.fr hf2, p0, v, p2, p3.mono hs2⟩
        · by_cases e : i = k
          · subst e
            rw [List.getElem?_append_right (by omega), e1] at hx
            simp at hx
            subst hx
            rw [add_plain] at g1
            exact ⟨hi2, hr2m, _, g1, hv2⟩
          · rw [List.getElem?_eq_none (by simp; omega)] at hx; cases hx
    obtain ⟨φ1, h1, ls, e1, hr1, ha1, hs1, hf1, hl1⟩ := step len (Nat.le_refl _)
    have hflat : ∀ (k : Nat) (c : Value), (ls.flatMap encInn)[k]? = some c → ∃ x, ls[k]? = some x ∧ c = .slice x.a x.n x.c := fun k c hk => by
      obtain ⟨x, hx1, hx2⟩ := flat_inv encInn_len (by omega) hk
      rw [Nat.div_one] at hx1
      rw [Nat.mod_one] at hx2
      exact ⟨x, hx1, by simpa [encInn] using hx2.symm⟩
    obtain ⟨φ', hr', ha', hsub, hat⟩ := hr1.addRo ha1 (B := B) (sh := o) (cs := ls.flatMap encInn) 1 hB (fun k c hk => by
      obtain ⟨x, hx1, rfl⟩ := hflat k c hk
      obtain ⟨_, _, v, p2, p3⟩ := hl1 k x hx1
      exact ⟨rfl, v, p2, p3⟩)
    refine ⟨φ', _, some ⟨h1.n, 0, none⟩, len, m, ls, hr', ha', hs1.trans hsub, hf1.trans (Fr.push _ _ _), ?_, ⟨e1.symm, .inr ⟨⟨h1.n, 0, none⟩, _, _, _, _, rfl, AH.get_push_eq _ _, by show h1.n < h1.n + 1; omega, fun k c hk => by simpa using hk⟩, fun b hb => ?_, fun x hx => ?_, by omega, by omega, fun e => by cases e⟩, fun x hx => ?_⟩
    · exact .slice hat (by show m < 4611686018427387904; omega)
    · obtain rfl : h1.n = b := hb
      show h1.n < h1.n + 1; omega
    · obtain ⟨i, hi⟩ := List.getElem?_of_mem hx
      exact ((hl1 i x hi).1).fr (Fr.push _ _ _)
    · obtain ⟨i, hi⟩ := List.getElem?_of_mem hx
      exact (hl1 i x hi).2.1
end
end Go.Lg
