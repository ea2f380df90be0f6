/- TableMap: what is wanted, as a map; the plain law. -/
import Derived.Test.YtciiigaagggefaaGreatEv49
import Derived.Test.YtciiigaagggefaaGreatPuEnd
import Derived.Test.YtciiigaagggefaaGreatPuP
namespace Go.Lg.Tryz
set_option linter.unusedVariables false
set_option linter.unusedSimpArgs false
open Go Go.Proofs
namespace Tab
abbrev vS (s : ByteArray) : Value := .string s
/-- a map that has what the list has -/
structure WR (want l : List Pr) : Prop where
  len : want.length = l.length
  at_ : ∀ k v, Mt.alook want k = some v ↔ (k, v) ∈ l
theorem hit_mem' {l : List Pr} (hs : Srt l) {key : ByteArray} : hit l key = true ↔ ∃ v, (key, v) ∈ l := by
  constructor
  · intro h
    obtain ⟨v, hv⟩ := hit_iff.mp h
    exact ⟨v, List.mem_of_getElem? hv⟩
  · rintro ⟨v, hv⟩
    obtain ⟨j, hj, e⟩ := List.mem_iff_getElem.mp hv
    exact (hit_mem hs (j := j) (p := (key, v)) (by rw [List.getElem?_eq_getElem hj, e]) rfl).2
theorem mem_pos {l : List Pr} (hs : Srt l) {key v : ByteArray} (h : (key, v) ∈ l) : l[pos l key]? = some (key, v) := by
  obtain ⟨j, hj, e⟩ := List.mem_iff_getElem.mp h
  have he : l[j]? = some (key, v) := by rw [List.getElem?_eq_getElem hj, e]
  have := (hit_mem hs he rfl).1
  rw [← this]; exact he
theorem WR.aok {want l : List Pr} (w : WR want l) (hs : Srt l) (key : ByteArray) : Mt.aok (Mt.alook want key) = hit l key := by
  rw [Bool.eq_iff_iff, hit_mem' hs]
  constructor
  · intro h
    cases hq : Mt.alook want key with
    | none => rw [hq] at h; cases h
    | some v => exact ⟨v, (w.at_ key v).mp hq⟩
  · rintro ⟨v, hv⟩
    rw [(w.at_ key v).mpr hv]; rfl
theorem put_mem {l : List Pr} (hs : Srt l) {n : Nat} {key v : ByteArray} (hl : l.length < n) (k u : ByteArray) : (k, u) ∈ (putP l n key v).1 ↔ if key = k then u = v else (k, u) ∈ l := by
  have hP := (pos_ok (key := key) hs).le
  unfold putP
  split
  · rename_i hh
    obtain ⟨v0, h0⟩ := hit_iff.mp hh
    have hlt := (List.getElem?_eq_some_iff.mp h0).1
    constructor
    · intro h
      obtain ⟨j, hj, e⟩ := List.mem_iff_getElem.mp h
      rw [List.length_set] at hj
      rw [List.getElem_set] at e
      split at e
      · rw [Prod.mk.injEq] at e
        rw [if_pos e.1]; exact e.2.symm
      · rename_i hne
        have hm : (k, u) ∈ l := by rw [← e]; exact List.getElem_mem _
        rw [if_neg]
        · exact hm
        · rintro rfl
          have := (hit_mem hs (j := j) (p := (key, u)) (by rw [List.getElem?_eq_getElem hj, e]) rfl).1
          exact hne this.symm
    · intro h
      split at h
      · rename_i e
        subst e; subst h
        exact List.mem_iff_getElem.mpr ⟨pos l key, by rw [List.length_set]; exact hlt, by simp⟩
      · rename_i hne
        obtain ⟨j, hj, e⟩ := List.mem_iff_getElem.mp h
        refine List.mem_iff_getElem.mpr ⟨j, by rw [List.length_set]; exact hj, ?_⟩
        rw [List.getElem_set, if_neg]
        · exact e
        · rintro rfl
          have := (List.getElem?_eq_some_iff.mp h0).2
          rw [this] at e
          exact hne (congrArg Prod.fst e)
  · rename_i hh
    rw [if_neg (by omega)]
    have hk : ∀ u, (key, u) ∉ l := fun u hu => hh ((hit_mem' hs).mpr ⟨u, hu⟩)
    have hsp : ∀ x, x ∈ l ↔ x ∈ l.take (pos l key) ∨ x ∈ l.drop (pos l key) := fun x => by
      rw [← List.mem_append, List.take_append_drop]
    rw [List.mem_append, List.mem_cons]
    constructor
    · rintro (h | h | h)
      · have hm := (hsp _).mpr (.inl h)
        rw [if_neg (fun e => by subst e; exact hk _ hm)]; exact hm
      · rw [Prod.mk.injEq] at h
        rw [if_pos h.1.symm]; exact h.2
      · have hm := (hsp _).mpr (.inr h)
        rw [if_neg (fun e => by subst e; exact hk _ hm)]; exact hm
    · intro h
      split at h
      · rename_i e
        subst e; subst h
        exact .inr (.inl rfl)
      · rcases (hsp _).mp h with h | h
        · exact .inl h
        · exact .inr (.inr h)
theorem put_len' {l : List Pr} (hs : Srt l) {n : Nat} {key v : ByteArray} (hl : l.length < n) : (putP l n key v).1.length = if hit l key then l.length else l.length + 1 := by
  have hP := (pos_ok (key := key) hs).le
  unfold putP
  split
  · simp
  · rw [if_neg (by omega)]
    simp; omega
theorem put_ok0 {l : List Pr} {n : Nat} {key v : ByteArray} (hl : l.length < n) : (putP l n key v).2 = 0 := by
  unfold putP
  split
  · rfl
  · rw [if_neg (by omega)]
theorem WR.put {want l : List Pr} (w : WR want l) (hs : Srt l) {n : Nat} (hl : l.length < n) (key v : ByteArray) : WR (Mt.aputL want key v) (putP l n key v).1 := by
  refine ⟨?_, fun k u => ?_⟩
  · rw [Mt.len_put, put_len' hs hl, w.aok hs, w.len]
  · rw [Mt.alook_put, put_mem hs hl]
    split
    · exact ⟨fun h => (Option.some.inj h).symm, fun h => by rw [h]⟩
    · exact w.at_ k u
theorem rem_mem {l : List Pr} (hs : Srt l) (key k u : ByteArray) : (k, u) ∈ remP l key ↔ key ≠ k ∧ (k, u) ∈ l := by
  unfold remP
  split
  · rename_i hh
    obtain ⟨v0, h0⟩ := hit_iff.mp hh
    have hlt := (List.getElem?_eq_some_iff.mp h0).1
    rw [List.mem_eraseIdx_iff_getElem?]
    constructor
    · rintro ⟨j, hj, e⟩
      refine ⟨?_, List.mem_of_getElem? e⟩
      rintro rfl
      exact hj (hit_mem hs e rfl).1
    · rintro ⟨h1, h2⟩
      obtain ⟨j, hj, e⟩ := List.mem_iff_getElem.mp h2
      refine ⟨j, ?_, by rw [List.getElem?_eq_getElem hj, e]⟩
      rintro rfl
      have := (List.getElem?_eq_some_iff.mp h0).2
      rw [this] at e
      exact h1 (congrArg Prod.fst e)
  · rename_i hh
    exact ⟨fun h => ⟨fun e => by subst e; exact hh ((hit_mem' hs).mpr ⟨u, h⟩), h⟩, fun h => h.2⟩
theorem Mt_len_del : ∀ (w : List Pr) (key : ByteArray), (Mt.adelL w key).length = if Mt.aok (Mt.alook w key) then w.length - 1 else w.length
  | [], key => rfl
  | p :: w, key => by
    unfold Mt.adelL Mt.alook
    by_cases h : p.1 = key
    · rw [if_pos h, if_pos h]; rfl
    · rw [if_neg h, if_neg h, List.length_cons, Mt_len_del w key]
      split
      · rename_i hq
        cases w with
        | nil => cases hq
        | cons a w => simp
      · rfl
theorem WR.rem {want l : List Pr} (w : WR want l) (hs : Srt l) (hn : Mt.Nk want) (key : ByteArray) : WR (Mt.adelL want key) (remP l key) := by
  refine ⟨?_, fun k u => ?_⟩
  · rw [Mt_len_del, w.aok hs, w.len]
    unfold remP
    split
    · rename_i hh
      obtain ⟨v0, h0⟩ := hit_iff.mp hh
      rw [List.length_eraseIdx, if_pos (List.getElem?_eq_some_iff.mp h0).1]
    · rfl
  · rw [Mt.alook_del hn, rem_mem hs]
    split
    · rename_i e
      exact ⟨fun h => (by cases h), fun h => absurd e h.1⟩
    · rename_i e
      rw [w.at_ k u]
      exact ⟨fun h => ⟨e, h⟩, fun h => h.2⟩
theorem right_map {l : List Pr} (hs : Srt l) : rightB (l.map toE) = true := by
  have := right_Tb (n := l.length) hs (Nat.le_refl _)
  unfold Tb at this
  rw [Nat.sub_self, List.replicate_zero, List.append_nil] at this
  exact this
theorem sis_srt {l : List Pr} (hs : Srt l) : ∀ n, n ≤ l.length → sisB (fun k => sltB ((l.map Prod.fst).getD (k + 1) ⟨#[]⟩) ((l.map Prod.fst).getD k ⟨#[]⟩)) n = true
  | 0, _ => rfl
  | 1, _ => rfl
  | n + 2, h => by
    have e1 := List.getElem?_eq_getElem (show n < l.length by omega)
    have e2 := List.getElem?_eq_getElem (show n + 1 < l.length by omega)
    have hlt := hs.lt (show n < n + 1 by omega) e1 e2
    have g1 : (l.map Prod.fst).getD n ⟨#[]⟩ = (l[n]'(by omega)).1 := by rw [List.getD_eq_getElem?_getD, List.getElem?_map, e1]; rfl
    have g2 : (l.map Prod.fst).getD (n + 1) ⟨#[]⟩ = (l[n + 1]'(by omega)).1 := by rw [List.getD_eq_getElem?_getD, List.getElem?_map, e2]; rfl
    have hf : sltB (l[n + 1]'(by omega)).1 (l[n]'(by omega)).1 = false := by
      cases hq : sltB (l[n + 1]'(by omega)).1 (l[n]'(by omega)).1 with
      | false => rfl
      | true => exact absurd (lt_tr hlt hq) (lt_irr _)
    unfold sisB
    rw [g1, g2, hf, if_neg (by decide)]
    exact sis_srt hs (n + 1) (by omega)
theorem keyL_of {h : AH} {a : Option Addr} {b : Nat} {l : List Pr} (hr : Rd h (some ⟨b, 0, none⟩) ((l.map toE).flatMap cE)) : ∀ n, n ≤ l.length → keyL h b 0 n = some ((l.take n).map Prod.fst)
  | 0, _ => rfl
  | n + 1, hn => by
    have e1 := List.getElem?_eq_getElem (show n < l.length by omega)
    have hm : (l.map toE)[n]? = some (toE (l[n]'(by omega))) := by rw [List.getElem?_map, e1]; rfl
    obtain ⟨ad, ea, q1, q2, q3⟩ := rd3 hr hm
    obtain rfl := Option.some.inj ea
    unfold keyL
    rw [keyL_of (a := a) hr n (by omega)]
    simp only [Option.bind_some]
    rw [show h.ldStr b (0 + n * 3 + 1) = some (l[n]'(by omega)).1 from q2]
    simp only [Option.bind_some]
    rw [List.take_add_one, e1, List.map_append]
    rfl
end Tab
end Go.Lg.Tryz
