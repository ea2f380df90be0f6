/- Maps as parts of memory, and going through one. -/
import Derived.Test.YtdkammcandclhaaEv37
import Derived.Test.YtdkammcandclhaaPtl2Ser5
import Derived.Test.YtdkammcandclhaaFlaw16
set_option linter.unusedVariables false
set_option linter.unusedSimpArgs false
namespace Go.Lg.Try
set_option linter.unusedVariables false
set_option linter.unusedSimpArgs false
open Go Go.Proofs
namespace Rg
def left (es : List MapEntry) (seen : List Nat) : List MapEntry := es.filter fun e => !seen.contains e.born
theorem mem_left {es : List MapEntry} {seen : List Nat} {e : MapEntry} : e ∈ left es seen ↔ e ∈ es ∧ e.born ∉ seen := by
  unfold left
  rw [List.mem_filter]
  simp
theorem left_len {es : List MapEntry} {seen : List Nat} {e : MapEntry} (he : e ∈ left es seen) : (left es (seen ++ [e.born])).length < (left es seen).length := by
  have : left es (seen ++ [e.born]) = (left es seen).filter fun x => !(x.born == e.born) := by
    unfold left
    rw [List.filter_filter]
    apply List.filter_congr
    intro x _
    rw [List.contains_append]
    cases seen.contains x.born <;> first | (simp; done) | (simp; rfl)
  rw [this, List.length_filter_lt_length_iff_exists]
  exact ⟨e, he, by simp⟩
theorem find_born : ∀ {es : List MapEntry} {e : MapEntry}, (es.map (·.born)).Nodup → e ∈ es → es.find? (fun x => x.born == e.born) = some e
  | x :: es, e, hn, he => by
    rw [List.map_cons, List.nodup_cons] at hn
    rw [List.find?_cons]
    rcases List.mem_cons.mp he with rfl | he
    · simp
    · have : x.born ≠ e.born := fun h => hn.1 (by rw [h]; exact List.mem_map_of_mem he)
      rw [beq_eq_false_iff_ne.mpr this]
      exact find_born hn.2 he
theorem left_nil (es : List MapEntry) : left es [] = es := by
  unfold left
  exact List.filter_eq_self.mpr fun e _ => by simp
theorem mem_look {l : List (Int × Int)} (h : Nk l) (z : Int × Int) : z ∈ l ↔ alook l z.1 = some z.2 := by
  induction l with
  | nil => simp [alook]
  | cons p l ih =>
    unfold Nk at h
    rw [List.map_cons, List.nodup_cons] at h
    unfold alook
    rw [List.mem_cons]
    split
    · rename_i e
      constructor
      · rintro (h1 | h1)
        · rw [h1]
        · exact absurd (by rw [e]; exact List.mem_map_of_mem h1) h.1
      · intro h1
        left
        exact (Prod.ext e (Option.some.inj h1)).symm
    · rename_i e
      constructor
      · rintro (h1 | h1)
        · exact absurd (by rw [h1]) e
        · exact (ih h.2).mp h1
      · exact fun h1 => .inr ((ih h.2).mpr h1)
theorem setL_int (l : List Int) {k : Nat} (hk : k < l.length) (v : Int) : AH.setL (l.map (Value.int .i64)) k [.int .i64 v] = (l.set k v).map (Value.int .i64) := by
  apply List.ext_getElem?
  intro j
  rw [AH.setL_get _ _ _ _ (by simp; omega), List.getElem?_map, List.getElem?_map]
  by_cases e : k = j
  · subst e
    rw [if_pos (by simp), Nat.sub_self, List.getElem?_set_self hk]; rfl
  · rw [if_neg (by simp; omega), List.getElem?_set_ne e]
end Rg
end Go.Lg.Try

namespace Go.Lg.Try
set_option linter.unusedVariables false
set_option linter.unusedSimpArgs false
open Go Go.Proofs
namespace Ser
theorem keep_at : keepT k_law16_at 1000000 = some [0] := by kernel_rfl
theorem cut_eq {n0 : Nat} {h h' : AH} (hn : h.n = h'.n) (hg : ∀ b, b < n0 → h.get b = h'.get b) : h.cut n0 = h'.cut n0 := by
  unfold AH.cut
  rw [hn]
  generalize _root_.cond (Nat.ble h'.n (n0 + 256)) (n0 + 256) h'.n = N
  have key : ∀ k, k ≤ n0 → AH.cutR h N k = AH.cutR h' N k := by
    intro k
    induction k with
    | zero => intro _; rfl
    | succ k ih =>
      intro hk
      unfold AH.cutR
      rw [hg k (by omega), ih (by omega)]
  exact key n0 (Nat.le_refl _)
/-- memory while `at` goes on: below it is as it was; the cells so far -/
structure Pre (h0 h : AH) (N : Nat) (c : List Int) : Prop where
  n : h.n = N
  lo : h0.n + 2 ≤ N
  g : ∀ b, b < h0.n → h.get b = h0.get b
  cc : h.get (h0.n + 1) = some (.cells (c.map (Value.int .i64)) false false 6)
  z : h.get h0.n = some (.cells [.int .i64 0, .int .i64 0, .int .i64 0, .int .i64 0, .int .i64 0, .int .i64 0] false false 6)
  l : c.length = 6
variable {h0 : AH}
/-- going through the writes of one -/
theorem at_L3 {es : List MapEntry} {ck : Nat} {l : List (Int × Int)} {rm : Nat} (h1 : h0.get rm = some (.map es ck)) (hrm : rm < h0.n) (h2 : es.map prI = l.map encPr) (h3 : ∀ e ∈ es, e.born < ck) (h4 : (es.map (·.born)).Nodup)
    (hk : Nk l) (hr : ∀ i ∈ l.map Prod.fst, 0 ≤ i ∧ i < ((6 : Nat) : Int)) {r : Value × AH} {x13 x12 x10 x4 : Int} {a1 : Option Addr} {l2 c3 it N : Nat} {c : List Int} (hc : c.length = 6) (hit0 : h0.n + 2 ≤ it) (hit1 : it < N)
    (K : ∀ h', Pre h0 h' N (wrAll c l) → law16_at_j3 a1 l2 x10 (some ⟨h0.n + 1, 0, none⟩) c3 (some ⟨h0.n, 0, none⟩) x4 h0.n x12 x13 h' = some r) :
    ∀ (n : Nat) (seen : List Nat) (h : AH) (d : List Int), (Rg.left es seen).length ≤ n → Pre h0 h N d → h.get it = some (.iter (some rm) ck seen ck) →
      (∀ i : Nat, i < 6 → ((∃ e ∈ es, e.born ∈ seen ∧ e.key = .int .i64 (i : Int)) ∧ d[i]? = alook l i) ∨ ((¬∃ e ∈ es, e.born ∈ seen ∧ e.key = .int .i64 (i : Int)) ∧ d[i]? = c[i]?)) →
      law16_at_L3 (some ⟨h0.n + 1, 0, none⟩) x13 x12 a1 l2 c3 x10 (some ⟨h0.n, 0, none⟩) x4 h0.n (some ⟨it, 0, none⟩) h = some r := by
  have entry : ∀ e ∈ es, ∃ z : Int × Int, z ∈ l ∧ e.key = .int .i64 z.1 ∧ e.val = .int .i64 z.2 := by
    intro e he
    have hm : prI e ∈ es.map prI := List.mem_map_of_mem he
    rw [h2] at hm
    obtain ⟨z, hz, ez⟩ := List.mem_map.mp hm
    unfold encPr prI at ez
    exact ⟨z, hz, (congrArg Prod.fst ez).symm, (congrArg Prod.snd ez).symm⟩
  have entry2 : ∀ z ∈ l, ∃ e ∈ es, e.key = .int .i64 z.1 := by
    intro z hz
    have hm : encPr z ∈ l.map encPr := List.mem_map_of_mem hz
    rw [← h2] at hm
    obtain ⟨e, he, ez⟩ := List.mem_map.mp hm
    unfold encPr prI at ez
    exact ⟨e, he, congrArg Prod.fst ez⟩
  intro n
  induction n with
  | zero =>
    intro seen h d hl hp hit hd
    exact (by
      have hl0 : Rg.left es seen = [] := List.eq_nil_of_length_eq_zero (by omega)
      have hes : h.get rm = some (.map es ck) := by rw [hp.g rm hrm]; exact h1
      have c1 : (!seen.isEmpty && !es.isEmpty && es.all (fun e => Nat.ble ck e.born)) = false := by
        cases es with
        | nil => simp
        | cons e es =>
          have hb := h3 e (by simp)
          have : Nat.ble ck e.born = false := by
            cases hq : Nat.ble ck e.born with
            | false => rfl
            | true => have := Nat.le_of_ble_eq_true hq; omega
          simp [this]
      have c2 : (es.filter fun e => !seen.contains e.born) = [] := hl0
      have hnx : nxC (.pointer (some ⟨it, 0, none⟩)) h = some (h.set it none, []) := by
        unfold nxC
        simp only [hit, hes, c1, cond_f, c2, List.all_nil, cond_t, List.isEmpty_nil]
      refine law16_at_L3_le _ ?_
      rw [hnx]
      unfold nxK
      simp only
      refine law16_at_j5_le _ ?_
      rw [cond_f]
      have hdl : d = wrAll c l := by
        apply List.ext_getElem?
        intro i
        by_cases hi : i < 6
        · rw [wrAll_get l c hk hr hc i hi]
          cases hx : alook l (i : Int) with
          | some x =>
            simp only
            obtain ⟨e, he, ek⟩ := entry2 ((i : Int), x) ((Rg.mem_look hk _).mpr hx)
            have hb : e.born ∈ seen := by
              by_cases hb : e.born ∈ seen
              · exact hb
              · have := Rg.mem_left.mpr ⟨he, hb⟩
                rw [hl0] at this; simp at this
            rcases hd i hi with ⟨_, h5⟩ | ⟨h5, _⟩
            · rw [h5, hx]
            · exact absurd ⟨e, he, hb, ek⟩ h5
          | none =>
            simp only
            rcases hd i hi with ⟨⟨e, he, _, ek⟩, _⟩ | ⟨_, h5⟩
            · obtain ⟨z, hz, e1, _⟩ := entry e he
              rw [e1] at ek
              have e3 : z.1 = (i : Int) := by injection ek
              have e4 := (Rg.mem_look hk z).mp hz
              rw [e3, hx] at e4
              cases e4
            · exact h5
        · rw [List.getElem?_eq_none (by rw [hp.l]; omega), List.getElem?_eq_none (by rw [wrAll_len, hc]; omega)]
      rw [hdl] at hp
      refine K _ ⟨by rw [AH.n_set]; exact hp.n, hp.lo, fun b hb => by rw [AH.get_set_ne _ (by omega)]; exact hp.g b hb, by rw [AH.get_set_ne _ (by omega)]; exact hp.cc, by rw [AH.get_set_ne _ (by omega)]; exact hp.z, hp.l⟩)
  | succ n ih =>
    intro seen h d hl hp hit hd
    by_cases hemp : Rg.left es seen = []
    · exact (by
        have : (Rg.left es seen).length ≤ n := by rw [hemp]; simp
        exact ih seen h d this hp hit hd)
    have hes : h.get rm = some (.map es ck) := by rw [hp.g rm hrm]; exact h1
    have c1 : (!seen.isEmpty && !es.isEmpty && es.all (fun e => Nat.ble ck e.born)) = false := by
      cases es with
      | nil => simp
      | cons e es =>
        have hb := h3 e (by simp)
        have : Nat.ble ck e.born = false := by
          cases hq : Nat.ble ck e.born with
          | false => rfl
          | true => have := Nat.le_of_ble_eq_true hq; omega
        simp [this]
    have c3' : (Rg.left es seen).all (fun e => Nat.blt e.born ck) = true := by
      rw [List.all_eq_true]
      intro e he
      exact Nat.ble_eq_true_of_le (h3 e (Rg.mem_left.mp he).1)
    refine law16_at_L3_le _ ?_
    have hnx : nxC (.pointer (some ⟨it, 0, none⟩)) h = _root_.cond (Rg.left es seen).isEmpty (some (h.set it none, [])) (some (h, (Rg.left es seen).map fun e => (e.key, e.val, h.set it (some (.iter (some rm) ck (seen ++ [e.born]) ck))))) := by
      unfold nxC
      unfold Rg.left at c3' ⊢
      simp only [hit, hes, c1, cond_f, c3', cond_t]
    rw [hnx]
    have step : ∀ e ∈ Rg.left es seen, law16_at_j5 (some ⟨it, 0, none⟩) (some ⟨h0.n + 1, 0, none⟩) x13 x12 a1 l2 c3 x10 (some ⟨h0.n, 0, none⟩) x4 h0.n true (h.set it (some (.iter (some rm) ck (seen ++ [e.born]) ck))) = some r := by
      intro e he
      have hee := (Rg.mem_left.mp he).1
      have hit2 : (h.set it (some (.iter (some rm) ck (seen ++ [e.born]) ck))).get it = some (.iter (some rm) ck (seen ++ [e.born]) ck) := AH.get_set_eq _ _ _
      have hp2 : Pre h0 (h.set it (some (.iter (some rm) ck (seen ++ [e.born]) ck))) N d := ⟨by rw [AH.n_set]; exact hp.n, hp.lo, fun b hb => by rw [AH.get_set_ne _ (by omega)]; exact hp.g b hb, by rw [AH.get_set_ne _ (by omega)]; exact hp.cc, by rw [AH.get_set_ne _ (by omega)]; exact hp.z, hp.l⟩
      generalize h.set it (some (.iter (some rm) ck (seen ++ [e.born]) ck)) = hh at hit2 hp2
      have hes2 : hh.get rm = some (.map es ck) := by rw [hp2.g rm hrm]; exact h1
      have hent : entC (.pointer (some ⟨it, 0, none⟩)) hh = some (e.key, e.val) := by
        unfold entC
        simp only [hit2, List.getLast?_append, List.getLast?_singleton, Option.some_or, hes2, Nat.beq_refl, cond_t, Rg.find_born h4 hee, Option.bind_some]
      obtain ⟨z, hz, k1, k2⟩ := entry e hee
      obtain ⟨z0, z6⟩ := hr z.1 (List.mem_map_of_mem hz)
      have hst : hh.st (h0.n + 1) (0 + z.1.toNat * 1) [.int .i64 z.2] = some (hh.set (h0.n + 1) (some (.cells ((d.set z.1.toNat z.2).map (Value.int .i64)) false false 6))) := by
        rw [AH.st_of hp2.cc (by simp [hp2.l]; omega), Nat.zero_add, Nat.mul_one, Rg.setL_int _ (by rw [hp2.l]; omega)]
      refine law16_at_j5_le _ ?_
      rw [cond_t]
      refine law16_at_j4_le _ ?_
      simp only [hent, Option.bind_some, k1, k2, asI_i64, inB_t z0 (show z.1 < ((6 : Nat) : Int) by omega), cond_t, hst]
      refine ih (seen ++ [e.born]) _ (d.set z.1.toNat z.2) (by have := Rg.left_len he; omega) ⟨by rw [AH.n_set]; exact hp2.n, hp2.lo, fun b hb => by rw [AH.get_set_ne _ (by omega)]; exact hp2.g b hb, AH.get_set_eq _ _ _, by rw [AH.get_set_ne _ (by omega)]; exact hp2.z, by rw [List.length_set]; exact hp2.l⟩ (by rw [AH.get_set_ne _ (by omega)]; exact hit2) ?_
      intro i hi
      by_cases ei : z.1.toNat = i
      · have ez : z.1 = (i : Int) := by omega
        have e4 := (Rg.mem_look hk z).mp hz
        rw [ez] at e4
        exact .inl ⟨⟨e, hee, by simp, by rw [k1, ez]⟩, by rw [ei, List.getElem?_set_self (by rw [hp2.l]; exact hi)]; exact e4.symm⟩
      · rw [List.getElem?_set_ne ei]
        have : (∃ e' ∈ es, e'.born ∈ seen ∧ e'.key = .int .i64 (i : Int)) ↔ (∃ e' ∈ es, e'.born ∈ seen ++ [e.born] ∧ e'.key = .int .i64 (i : Int)) := by
          constructor
          · rintro ⟨e', a, b, c⟩; exact ⟨e', a, List.mem_append_left _ b, c⟩
          · rintro ⟨e', a, b, c⟩
            rcases List.mem_append.mp b with b | b
            · exact ⟨e', a, b, c⟩
            · have hb : e'.born = e.born := by simpa using b
              have h5 := Rg.find_born h4 a
              have h6 := Rg.find_born h4 hee
              rw [hb, h6] at h5
              obtain rfl := Option.some.inj h5
              rw [k1] at c
              have : z.1 = (i : Int) := by injection c
              omega
        rcases hd i hi with ⟨q, h5⟩ | ⟨q, h5⟩
        · exact .inl ⟨this.mp q, h5⟩
        · exact .inr ⟨fun h => q (this.mpr h), h5⟩
    cases hls : Rg.left es seen with
    | nil => exact absurd hls hemp
    | cons e rest =>
      rw [hls] at step
      simp only [List.isEmpty_cons, cond_f, List.map_cons]
      unfold nxK
      simp only
      rw [allR_same]
      · exact step e (by simp)
      · intro x hx
        obtain ⟨y, hy, rfl⟩ := List.mem_map.mp hx
        obtain ⟨e', he', rfl⟩ := List.mem_map.mp hy
        rw [step e' (List.mem_cons_of_mem _ he'), step e (by simp)]
/-- a history in memory: its block, its reads, its writes -/
structure HP where
  b : Nat
  ra : Option Addr
  rc : Nat
  rm : Nat
  H : Hi
def encHP (x : HP) : List Value := [.int .i64 x.H.beg, .int .i64 x.H.ver, .slice x.ra x.H.reads.length x.rc, .map (some x.rm), .bool x.H.done]
def encP1 (x : HP) : List Value := [.pointer (some ⟨x.b, 0, none⟩)]
theorem encP1_len (x : HP) : (encP1 x).length = 1 := rfl
structure AtF (h0 : AH) (a : Option Addr) (hp : List HP) : Prop where
  al : Rd h0 a (hp.flatMap encP1)
  hb : ∀ x ∈ hp, h0.get x.b = some (.cells (encHP x) false false 5) ∧ x.b < h0.n
  mp : ∀ x ∈ hp, MI h0 x.rm x.H.writes
  rg : ∀ x ∈ hp, ∀ i ∈ x.H.writes.map Prod.fst, 0 ≤ i ∧ i < ((6 : Nat) : Int)
theorem Pre.fr {h : AH} {N : Nat} {c : List Int} (p : Pre h0 h N c) : Fr [] h0 h := ⟨by rw [p.n]; have := p.lo; omega, fun b hb _ => p.g b hb⟩
theorem rd_p {h : AH} {a : Option Addr} {hp : List HP} (hr : Rd h a (hp.flatMap encP1)) {i : Nat} {x : HP} (hx : hp[i]? = some x) : ∃ ad, a = some ad ∧ h.ldP ad.block (ad.off + i * 1) = some (some ⟨x.b, 0, none⟩) := by
  have hne : hp.flatMap encP1 ≠ [] := by
    intro he
    have := congrArg List.length he
    rw [flat_len encP1_len] at this
    have h2 := (List.getElem?_eq_some_iff.mp hx).1
    simp only [List.length_nil] at this
    omega
  obtain ⟨ad, rfl, hrd⟩ := hr.some hne
  have c0 := flat_get_some encP1_len (j := 0) (by decide) hx
  exact ⟨ad, rfl, (hrd (i * 1 + 0)).2.2.1 _ c0⟩
def cnt (n : Int) (l : List Hi) : Nat := (l.filter fun H => decide (Ser.cond n H)).length
theorem at_L2 {a1 : Option Addr} {hp : List HP} {c3 : Nat} {x4 : Int} (F : AtF h0 a1 hp) (hl : hp.length < 1000000) {n : Int} {r : Value × AH} : ∀ (m k : Nat) (h : AH) (N : Nat) (c : List Int), hp.length - k = m → k ≤ hp.length → Pre h0 h N c →
    (∀ h', Pre h0 h' (N + cnt n ((hp.drop k).map (·.H))) (roundM n ((hp.drop k).map (·.H)) c) → law16_at_j2 x4 a1 hp.length c3 h0.n (some ⟨h0.n, 0, none⟩) (some ⟨h0.n + 1, 0, none⟩) n h' = some r) →
    law16_at_L2 a1 hp.length n (some ⟨h0.n + 1, 0, none⟩) c3 (some ⟨h0.n, 0, none⟩) x4 h0.n (hp.length : Nat) (k : Nat) h = some r := by
  intro m
  induction m with
  | zero =>
    intro k h N c hm hk hp' K
    obtain rfl : k = hp.length := by omega
    refine law16_at_L2_le _ ?_
    refine law16_at_j8_le _ ?_
    rw [dec_f (by omega), cond_f]
    rw [List.drop_length] at K
    exact K h hp'
  | succ m ih =>
    intro k h N c hm hk hp' K
    have hkl : k < hp.length := by omega
    obtain ⟨x, hx⟩ : ∃ x, hp[k]? = some x := ⟨_, List.getElem?_eq_getElem hkl⟩
    have hxm := List.mem_of_getElem? hx
    have hd : hp.drop k = x :: hp.drop (k + 1) := by
      rw [List.drop_eq_getElem_cons hkl]
      obtain ⟨_, hy2⟩ := List.getElem?_eq_some_iff.mp hx
      rw [hy2]
    rw [hd, List.map_cons] at K
    obtain ⟨ad, ea, e1⟩ := rd_p (F.al.fr hp'.fr (by simp)) hx
    obtain ⟨hb1, hb2⟩ := F.hb x hxm
    have hb : h.get x.b = some (.cells (encHP x) false false 5) := by rw [hp'.g x.b hb2]; exact hb1
    have eD : h.ldB x.b (0 + 4) = some x.H.done := AH.ldB_of hb rfl
    have eV : h.ldI .i64 x.b (0 + 1) = some x.H.ver := AH.ldI_of hb rfl
    have eM : h.ldM x.b (0 + 3) = some (some x.rm) := AH.ldM_of hb rfl
    have hm2 := F.mp x hxm
    obtain ⟨es, ck, g1, g2, g3, g4⟩ := hm2.ex
    have hrm := hm2.lt
    have hgm : h.get x.rm = some (.map es ck) := by rw [hp'.g x.rm hrm]; exact g1
    have hlen : es.length = x.H.writes.length := ent_len g2
    have ew : IntKind.wrap .i64 (((k : Nat) : Int) + 1) = ((k + 1 : Nat) : Int) := by rw [wrap64 (by omega) (by omega)]; omega
    -- the next one
    have next : ∀ h' N' c', Pre h0 h' N' c' → N' + cnt n ((hp.drop (k + 1)).map (·.H)) = N + cnt n (x.H :: (hp.drop (k + 1)).map (·.H)) → roundM n ((hp.drop (k + 1)).map (·.H)) c' = roundM n (x.H :: (hp.drop (k + 1)).map (·.H)) c →
        law16_at_j3 a1 hp.length n (some ⟨h0.n + 1, 0, none⟩) c3 (some ⟨h0.n, 0, none⟩) x4 h0.n (hp.length : Nat) (k : Nat) h' = some r := by
      intro h' N' c' hq e2 e3
      refine law16_at_j3_le _ ?_
      rw [ew]
      refine ih (k + 1) h' N' c' (by omega) (by omega) hq fun h'' hq'' => K h'' ?_
      rw [← e2, ← e3]; exact hq''
    have skip : ¬Ser.cond n x.H → law16_at_j6 (some ⟨x.b, 0, none⟩) h (some ⟨h0.n + 1, 0, none⟩) (k : Nat) (hp.length : Nat) a1 hp.length c3 n (some ⟨h0.n, 0, none⟩) x4 h0.n false = some r := fun hc => by
      refine law16_at_j6_le _ ?_
      rw [cond_f]
      refine next h N c hp' ?_ ?_
      · unfold cnt; rw [List.filter_cons_of_neg (by simpa using hc)]
      · show _ = roundM n _ (if Ser.cond n x.H then wrAll c x.H.writes else c)
        rw [if_neg hc]
    refine law16_at_L2_le _ ?_
    refine law16_at_j8_le _ ?_
    rw [dec_t (by omega), cond_t]
    refine law16_at_j7_le _ ?_
    subst ea
    simp only [Option.bind_some, inB_t (show (0 : Int) ≤ (k : Int) by omega) (show (k : Int) < (hp.length : Nat) by omega), cond_t, Int.toNat_natCast, e1, eD]
    cases hdn : x.H.done with
    | false =>
      rw [cond_f]
      exact skip fun h => by rw [h.1] at hdn; cases hdn
    | true =>
      rw [cond_t]
      simp only [eV, Option.bind_some]
      by_cases cv : x.H.ver = n
      · rw [dec_t cv, cond_t]
        have em : mapOf h (.map (some x.rm)) = some es := by simp only [mapOf, hgm]
        simp only [eM, Option.bind_some, em]
        by_cases cw : x.H.writes = []
        · rw [dec_f (by rw [hlen, cw]; simp)]
          exact skip fun h => h.2.2 cw
        · have hpos : 0 < x.H.writes.length := List.length_pos_iff.mpr cw
          rw [dec_t (by omega)]
          refine law16_at_j6_le _ ?_
          rw [cond_t]
          have hr : rngE (some x.rm) h = some (h.push (.iter (some x.rm) ck [] ck)) := by simp only [rngE, hgm]
          have hlo := hp'.lo
          have hn' := hp'.n
          simp only [eM, Option.bind_some, hr]
          refine at_L3 g1 hrm g2 g3 g4 hm2.nk (F.rg x hxm) hp'.l (N := N + 1) (by omega) (by omega) (fun h' hq => ?_) es.length [] _ c (by rw [Rg.left_nil]; exact Nat.le_refl _) ⟨by rw [AH.n_push]; omega, by omega, fun b hb => by rw [AH.get_push_ne _ (by omega)]; exact hp'.g b hb, by rw [AH.get_push_ne _ (by omega)]; exact hp'.cc, by rw [AH.get_push_ne _ (by omega)]; exact hp'.z, hp'.l⟩ (AH.get_push_eq _ _) (fun i _ => .inr ⟨by rintro ⟨_, _, h, _⟩; simp at h, rfl⟩)
          have hcd : Ser.cond n x.H := ⟨hdn, cv, cw⟩
          refine next h' (N + 1) _ hq ?_ ?_
          · unfold cnt; rw [List.filter_cons_of_pos (by simpa using hcd), List.length_cons]; omega
          · show _ = roundM n _ (if Ser.cond n x.H then wrAll c x.H.writes else c)
            rw [if_pos hcd]
      · rw [dec_f cv, cond_f]
        exact skip fun h => cv h.2.1
def totN (all : List Hi) : Nat → Nat → Nat → Nat
  | _, 0, N => N
  | k, m + 1, N => totN all (k + 1) m (N + cnt ((k : Int) + 1) all)
def cellsN (all : List Hi) : Nat → Nat → List Int → List Int
  | _, 0, c => c
  | k, m + 1, c => cellsN all (k + 1) m (roundM ((k : Int) + 1) all c)
theorem cellsN_eq (all : List Hi) : ∀ (m k : Nat) (c : List Int), cellsN all k m c = (List.range' k m).foldl (fun c (k : Nat) => roundM ((k : Int) + 1) all c) c
  | 0, k, c => rfl
  | m + 1, k, c => by
    show cellsN all (k + 1) m _ = _
    rw [cellsN_eq all m (k + 1), List.range'_succ]; rfl
theorem atM_eq (all : List Hi) (n : Nat) : atM all n = cellsN all 0 n (List.replicate 6 0) := by
  rw [cellsN_eq]; unfold atM; rw [List.range_eq_range']
def aggV (c : List Int) : Value := .agg (c.map (Value.int .i64)).toArray
def hN (h0 : AH) (N : Nat) : AH := { h0 with n := N }
theorem at_L1 {a1 : Option Addr} {hp : List HP} {c3 : Nat} {x4 : Int} (F : AtF h0 a1 hp) (hl : hp.length < 1000000) (hx : x4 < 1000000) : ∀ (m k : Nat) (h : AH) (N : Nat) (c : List Int), x4.toNat - k = m → k ≤ x4.toNat → Pre h0 h N c →
    law16_at_L1 x4 a1 hp.length c3 h0.n (some ⟨h0.n, 0, none⟩) (some ⟨h0.n + 1, 0, none⟩) ((k : Int) + 1) h = some (aggV (cellsN (hp.map (·.H)) k m c), (hN h0 (totN (hp.map (·.H)) k m N)).cut h0.n) := by
  intro m
  induction m with
  | zero =>
    intro k h N c hm hk hp'
    refine law16_at_L1_le _ ?_
    rw [dec_f (by omega), cond_f]
    refine law16_at_j1_le _ ?_
    have hl := hp'.l
    have hc := hp'.cc
    match c, hl, hc with
    | [c0, c1, c2, c3, c4, c5], _, hc =>
      have hst : h.st h0.n 0 [.int .i64 c0, .int .i64 c1, .int .i64 c2, .int .i64 c3, .int .i64 c4, .int .i64 c5] = some (h.set h0.n (some (.cells [.int .i64 c0, .int .i64 c1, .int .i64 c2, .int .i64 c3, .int .i64 c4, .int .i64 c5] false false 6))) := by
        rw [AH.st_of hp'.z (by simp), setL_all (by simp)]
      have hg2 : (h.set h0.n (some (.cells [.int .i64 c0, .int .i64 c1, .int .i64 c2, .int .i64 c3, .int .i64 c4, .int .i64 c5] false false 6))).get h0.n = _ := AH.get_set_eq _ _ _
      simp only [Option.bind_some, AH.ldI_of (k := .i64) (o := 0) hc rfl, AH.ldI_of (k := .i64) (o := 0 + 1) hc rfl, AH.ldI_of (k := .i64) (o := 0 + 2) hc rfl, AH.ldI_of (k := .i64) (o := 0 + 3) hc rfl, AH.ldI_of (k := .i64) (o := 0 + 4) hc rfl, AH.ldI_of (k := .i64) (o := 0 + 5) hc rfl, hst,
        AH.ldI_of (k := .i64) (o := 0) hg2 rfl, AH.ldI_of (k := .i64) (o := 0 + 1) hg2 rfl, AH.ldI_of (k := .i64) (o := 0 + 2) hg2 rfl, AH.ldI_of (k := .i64) (o := 0 + 3) hg2 rfl, AH.ldI_of (k := .i64) (o := 0 + 4) hg2 rfl, AH.ldI_of (k := .i64) (o := 0 + 5) hg2 rfl]
      rw [keep_at]
      show some (aggV [c0, c1, c2, c3, c4, c5], AH.cut h0.n _) = some (aggV [c0, c1, c2, c3, c4, c5], AH.cut h0.n (hN h0 N))
      rw [cut_eq (h' := hN h0 N) (by rw [AH.n_set]; exact hp'.n) (fun b hb => by rw [AH.get_set_ne _ (by omega)]; exact hp'.g b hb)]
  | succ m ih =>
    intro k h N c hm hk hp'
    refine law16_at_L1_le _ ?_
    rw [dec_t (by omega), cond_t]
    refine law16_at_j9_le _ ?_
    refine at_L2 F hl hp.length 0 h N c rfl (by omega) hp' ?_
    intro h' hq
    rw [List.drop_zero] at hq
    refine law16_at_j2_le _ ?_
    rw [show IntKind.wrap .i64 ((k : Int) + 1 + 1) = ((k + 1 : Nat) : Int) + 1 by rw [wrap64 (by omega) (by omega)]; omega]
    exact ih (k + 1) h' _ _ (by omega) (by omega) hq
theorem at_ok {a1 : Option Addr} {hp : List HP} {c3 : Nat} {x4 : Int} (F : AtF h0 a1 hp) (hl : hp.length < 1000000) (hx : x4 < 1000000) :
    ∃ N, h0.n ≤ N ∧ C k_law16_at [.slice a1 hp.length c3, .int .i64 x4] h0 = some (aggV (atM (hp.map (·.H)) x4.toNat), (hN h0 N).cut h0.n) := by
  have hle : ∀ (m k N : Nat), N ≤ totN (hp.map (·.H)) k m N := by
    intro m
    induction m with
    | zero => intro k N; exact Nat.le_refl _
    | succ m ih => intro k N; exact Nat.le_trans (Nat.le_add_right _ _) (ih (k + 1) _)
  refine ⟨totN (hp.map (·.H)) 0 x4.toNat (h0.n + 2), Nat.le_trans (by omega) (hle _ _ _), ?_⟩
  refine law16_at_le _ ?_
  unfold F_law16_at
  rw [atM_eq]
  have hp0 : Pre h0 ((h0.push (.cells [.int .i64 0, .int .i64 0, .int .i64 0, .int .i64 0, .int .i64 0, .int .i64 0] false false 6)).push (.cells [.int .i64 0, .int .i64 0, .int .i64 0, .int .i64 0, .int .i64 0, .int .i64 0] false false 6)) (h0.n + 2) (List.replicate 6 0) :=
    ⟨rfl, Nat.le_refl _, fun b hb => by rw [AH.get_push_ne _ (by rw [AH.n_push]; omega), AH.get_push_ne _ (by omega)], AH.get_push_eq _ _, by rw [AH.get_push_ne _ (by rw [AH.n_push]; omega)]; exact AH.get_push_eq _ _, rfl⟩
  exact at_L1 F hl hx x4.toNat 0 _ _ _ (by omega) (by omega) hp0
end Ser
end Go.Lg.Try

namespace Go.Lg.Try
set_option linter.unusedVariables false
set_option linter.unusedSimpArgs false
open Go Go.Proofs
namespace Ser
def aM (r : Nat) (l : List (Int × Int)) : Asr := Up (fun h => MI h r l) (fun b => b = r)
def encG (p : Int × Int) : List Value := [.int .i64 p.1, .int .i64 p.2]
theorem encG_len (p : Int × Int) : (encG p).length = 2 := rfl
def aHP (x : HP) : Asr := Lay [Cs x.b (encHP x) 5, aOw 2 x.ra x.H.reads.length x.rc (x.H.reads.flatMap encG), aM x.rm x.H.writes]
section
variable {h h' : AH} {r : Nat} {l : List (Int × Int)} {F : List Asr}
theorem gm_at (hh : H h (aM r l :: F)) : MI h r l := hh.of_up
theorem gl (hm : MI h r l) : ∀ b, b = r → (h.get b).isSome = true ∧ b < h.n := fun b e => by
  subst e; obtain ⟨es, clk, h1, _⟩ := hm.ex; exact ⟨by rw [h1]; rfl, hm.lt⟩
theorem gs (hm : MI h r l) (hg : ∀ b, b = r → h'.get b = h.get b ∧ b < h'.n) : MI h' r l := by
  obtain ⟨es, clk, h1, h2⟩ := hm.ex
  exact ⟨⟨es, clk, by rw [(hg r rfl).1]; exact h1, h2⟩, hm.nk, (hg r rfl).2⟩
theorem gm_new (hh : H h F) : H (h.push (.map [] 0)) (aM h.n [] :: F) :=
  hh.fresh (Nat.le_succ _) (fun b hb => AH.get_push_ne _ (by omega)) (fun b e => by omega) (gl (MI.new h)) fun h'' hg => gs (MI.new h) hg
theorem gm_put (hh : H h (aM r l :: F)) (i v : Int) : ∃ h', aput (.int .i64) (.map (some r)) (.int .i64 i) (.int .i64 v) h = some h' ∧ H h' (aM r (aputL l i v) :: F) := by
  obtain ⟨h', e1, m1, n1, g1⟩ := (gm_at hh).put i v
  exact ⟨h', e1, hh.run (by omega) (fun b hb hn => g1 b hn) (fun b hb => .inl hb) (gl m1) fun h'' hg => gs m1 hg⟩
theorem setL_one {l : List Value} {k : Nat} (hk : k < l.length) (v : Value) : AH.setL l k [v] = l.set k v := by
  apply List.ext_getElem?
  intro j
  rw [AH.setL_get _ _ _ _ (by simp; omega)]
  by_cases e : k = j
  · subst e
    rw [if_pos (by simp), Nat.sub_self, List.getElem?_set_self hk]; rfl
  · rw [if_neg (by simp; omega), List.getElem?_set_ne e]
theorem st_one {b e : Nat} {vs : List Value} (hh : H h (Cs b vs e :: F)) {k : Nat} (hk : k < vs.length) (v : Value) : ∃ h', h.st b (0 + k * 1) [v] = some h' ∧ H h' (Cs b (vs.set k v) e :: F) ∧ h'.n = h.n := by
  obtain ⟨h2, s2, w2, n2⟩ := hh.st (o := 0 + k * 1) [v] (by simp; omega)
  rw [Nat.zero_add, Nat.mul_one, setL_one hk] at w2
  exact ⟨h2, s2, w2, n2⟩
end
section
variable {h : AH} {p q mb tb hb ab : Nat} {cs : List Cel} {clk : Int} {vs us : List Value} {aa : Option Addr} {ac : Nat} {hp : List HP} {F : List Asr}
theorem anew_ok {w : Nat} (hw : w < 4) (hv : vs.length = 4) (hu : us.length = 4) (hpl : hp.length ≤ 1000)
    (hh : H h (aMem p q cs clk :: Cs mb [ptr p] 1 :: Cs tb vs 4 :: Cs hb us 4 :: Cs ab [.slice aa hp.length ac] 1 :: aOw 1 aa hp.length ac (hp.flatMap encP1) :: Lay (hp.map aHP) :: F)) :
    Ok (C k_law16_lived_1 [.int .i64 (w : Nat), ptr mb, ptr tb, ptr hb, ptr ab] h) fun v h' => v = .bool true ∧ ∃ t x aa', x.H = ⟨clk, 0, [], [], false⟩ ∧
      H h' (aTX p t (TM.new ((w : Int) + 1) clk) :: aMem p q cs clk :: Cs mb [ptr p] 1 :: Cs tb (vs.set w (ptr t)) 4 :: Cs hb (us.set w (ptr x.b)) 4 :: Cs ab [.slice aa' (hp ++ [x]).length opn] 1 :: aOw 1 aa' (hp ++ [x]).length opn ((hp ++ [x]).flatMap encP1) :: Lay ((hp ++ [x]).map aHP) :: F) := by
  refine Ok.le ?_ law16_lived_1_le
  unfold F_law16_lived_1
  have e1 : h.ldP mb 0 = some (some ⟨p, 0, none⟩) := AH.ldP_of (hh.g 1 rfl) rfl
  have ew : IntKind.wrap .i64 (((w : Nat) : Int) + 1) = (w : Int) + 1 := wrap64 (by omega) (by omega)
  simp only [Option.bind_some, e1, ew]
  refine Ok.bind (MBegin hh (o := (w : Int) + 1) (by omega)) ?_
  rintro _ h2 ⟨t, rfl, w2⟩
  have hb4 : inB ((w : Nat) : Int) 4 = true := inB_t (by omega) (by omega)
  have w2' : H h2 (Cs tb vs 4 :: aTX p t (TM.new ((w : Int) + 1) clk) :: aMem p q cs clk :: Cs mb [ptr p] 1 :: Cs hb us 4 :: Cs ab [.slice aa hp.length ac] 1 :: aOw 1 aa hp.length ac (hp.flatMap encP1) :: Lay (hp.map aHP) :: F) := w2.mv 3 rfl
  obtain ⟨h3, s3, w3, n3⟩ := st_one w2' (k := w) (by omega) (ptr t)
  have e3 : h3.ldP mb 0 = some (some ⟨p, 0, none⟩) := AH.ldP_of (w3.g 3 rfl) rfl
  have e4 := clock_eq (mem_at (w3.mv 2 rfl))
  have e4 : C k_cell_Memory_int_Clock [.pointer (some ⟨p, 0, none⟩)] h3 = _ := e4
  simp only [asTu_t, hdO_c, asP_p, asI_i64, Option.bind_some, List.isEmpty_nil, cond_t, hb4, Int.toNat_natCast, s3, e3, e4]
  have w5 := gm_new w3
  have w6 := w5.push (.cells [.int .i64 clk, .int .i64 0, .slice none 0 0, .map (some h3.n), .bool false] false false 5)
  have w6' : H ((h3.push (.map [] 0)).push (.cells [.int .i64 clk, .int .i64 0, .slice none 0 0, .map (some h3.n), .bool false] false false 5)) (Cs hb us 4 :: Cs (h3.push (.map [] 0)).n [.int .i64 clk, .int .i64 0, .slice none 0 0, .map (some h3.n), .bool false] 5 :: aM h3.n [] :: Cs tb (vs.set w (ptr t)) 4 :: aTX p t (TM.new ((w : Int) + 1) clk) :: aMem p q cs clk :: Cs mb [ptr p] 1 :: Cs ab [.slice aa hp.length ac] 1 :: aOw 1 aa hp.length ac (hp.flatMap encP1) :: Lay (hp.map aHP) :: F) := w6.mv 6 rfl
  obtain ⟨h7, s7, w7, n7⟩ := st_one w6' (k := w) (by omega) (ptr (h3.push (.map [] 0)).n)
  have e7 : h7.ldS ab 0 = some (aa, hp.length, ac) := AH.ldS_of (w7.g 7 rfl) rfl
  have e8 : h7.ldP hb (0 + w * 1) = some (some ⟨(h3.push (.map [] 0)).n, 0, none⟩) := AH.ldP_of (w7.g 0 rfl) (by rw [Nat.zero_add, Nat.mul_one, List.getElem?_set_self (by omega)])
  have e9 : (h7.push (.cells [.pointer (some ⟨(h3.push (.map [] 0)).n, 0, none⟩)] false false 1)).ldS ab 0 = some (aa, hp.length, ac) := AH.ldS_of ((w7.push _).g 8 rfl) rfl
  have w7' : H h7 (aOw 1 aa hp.length ac (hp.flatMap encP1) :: Cs hb (us.set w (ptr (h3.push (.map [] 0)).n)) 4 :: Cs (h3.push (.map [] 0)).n [.int .i64 clk, .int .i64 0, .slice none 0 0, .map (some h3.n), .bool false] 5 :: aM h3.n [] :: Cs tb (vs.set w (ptr t)) 4 :: aTX p t (TM.new ((w : Int) + 1) clk) :: aMem p q cs clk :: Cs mb [ptr p] 1 :: Cs ab [.slice aa hp.length ac] 1 :: Lay (hp.map aHP) :: F) := w7.mv 8 rfl
  obtain ⟨aa', h8, s8, w8, n8⟩ := w7'.app (by_ := 8) (c' := 1) (xs := [ptr (h3.push (.map [] 0)).n]) rfl (by decide) (by omega) (by omega)
  have s8' : appE 1 8 (.slice aa hp.length ac) (.slice (some ⟨h7.n, 0, none⟩) 1 1) (h7.push (.cells [.pointer (some ⟨(h3.push (.map [] 0)).n, 0, none⟩)] false false 1)) = _ := s8
  have w8' : H h8 (Cs ab [.slice aa hp.length ac] 1 :: aOw 1 aa' (hp.length + 1) opn (hp.flatMap encP1 ++ [ptr (h3.push (.map [] 0)).n]) :: Cs hb (us.set w (ptr (h3.push (.map [] 0)).n)) 4 :: Cs (h3.push (.map [] 0)).n [.int .i64 clk, .int .i64 0, .slice none 0 0, .map (some h3.n), .bool false] 5 :: aM h3.n [] :: Cs tb (vs.set w (ptr t)) 4 :: aTX p t (TM.new ((w : Int) + 1) clk) :: aMem p q cs clk :: Cs mb [ptr p] 1 :: Lay (hp.map aHP) :: F) := w8.mv 8 rfl
  obtain ⟨h9, s9, w9, n9⟩ := w8'.st1 (.slice aa' (hp.length + 1) opn)
  simp only [hb4, cond_t, Option.bind_some, Int.toNat_natCast, s7, e7, e8, e9, veqO_slice, s8', asS_s, s9]
  let x : HP := ⟨(h3.push (.map [] 0)).n, none, 0, h3.n, ⟨clk, 0, [], [], false⟩⟩
  refine Ok.some ⟨rfl, t, x, aa', rfl, ?_⟩
  have w10 := w9.owNil 2
  have w11 : H h9 (Cs x.b (encHP x) 5 :: aOw 2 x.ra x.H.reads.length x.rc (x.H.reads.flatMap encG) :: aM x.rm x.H.writes :: Cs ab [.slice aa' (hp.length + 1) opn] 1 :: aOw 1 aa' (hp.length + 1) opn (hp.flatMap encP1 ++ [ptr x.b]) :: Cs hb (us.set w (ptr x.b)) 4 :: Cs tb (vs.set w (ptr t)) 4 :: aTX p t (TM.new ((w : Int) + 1) clk) :: aMem p q cs clk :: Cs mb [ptr p] 1 :: Lay (hp.map aHP) :: F) := w10.pm [4, 0, 5, 1, 2, 3, 6, 7, 8, 9, 10]
  have w12 : H h9 (aHP x :: Cs ab [.slice aa' (hp.length + 1) opn] 1 :: aOw 1 aa' (hp.length + 1) opn (hp.flatMap encP1 ++ [ptr x.b]) :: Cs hb (us.set w (ptr x.b)) 4 :: Cs tb (vs.set w (ptr t)) 4 :: aTX p t (TM.new ((w : Int) + 1) clk) :: aMem p q cs clk :: Cs mb [ptr p] 1 :: Lay (hp.map aHP) :: F) := H.cls (L := [Cs x.b (encHP x) 5, aOw 2 x.ra x.H.reads.length x.rc (x.H.reads.flatMap encG), aM x.rm x.H.writes]) w11
  have w13 := H.snoc_i (f := aHP) (x := x) (w12.pm [0, 8, 1, 2, 3, 4, 5, 6, 7])
  have e10 : (hp ++ [x]).flatMap encP1 = hp.flatMap encP1 ++ [ptr x.b] := by rw [List.flatMap_append]; simp [encP1]
  rw [e10, show (hp ++ [x]).length = hp.length + 1 by simp]
  exact w13.pm [5, 6, 7, 4, 3, 1, 2, 0]
end
end Ser
end Go.Lg.Try
