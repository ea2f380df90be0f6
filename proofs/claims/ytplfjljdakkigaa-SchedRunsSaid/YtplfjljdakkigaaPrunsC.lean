/- SchedRuns: the tasks are added; the law. -/
import Derived.Test.YtplfjljdakkigaaPrunsM
namespace Go.Lg.Try
set_option linter.unusedVariables false
set_option linter.unusedSimpArgs false
open Go Go.Proofs
namespace Rn
theorem cut70 {h : AH} {a : Option Addr} {n c : Nat} {ls : List (Inn DoR)} (s1 : SlIn2 h encDo (fun _ => True) a n c ls) : ∃ a' c', slcE 1 a n c none (some (.int .i64 (cond (decide (70 < ((n : Nat) : Int))) 70 ((n : Nat) : Int)))) none h = some (.slice a' (ls.take 70).length c', h) ∧ Rd h a' ((ls.take 70).flatMap encInn) ∧ (∀ b, blk a' b → b < h.n) := by
  have hn := s1.len
  have hlen : (ls.take 70).length = min 70 n := by rw [List.length_take, hn]
  have hv : cond (decide (70 < ((n : Nat) : Int))) 70 ((n : Nat) : Int) = (((ls.take 70).length : Nat) : Int) := by
    by_cases c1 : (70 : Int) < (n : Int)
    · rw [dec_t c1, cond_t, hlen]; omega
    · rw [dec_f c1, cond_f, hlen]; omega
  rw [hv]
  cases a with
  | none =>
    obtain ⟨rfl, rfl⟩ := s1.nil rfl
    have hz : (ls.take 70).length = 0 := by omega
    rw [hz]
    have hz' : ls.take 70 = [] := List.eq_nil_of_length_eq_zero hz
    refine ⟨none, 0, ?_, .inl (by rw [hz']; rfl), fun b hb => hb.elim⟩
    simp only [slcE, Nat.beq_refl, Bool.and_self, cond_t]
    rw [bnd (k := 0) rfl (Nat.le_refl _), bnd0]
  | some ad =>
    refine ⟨some ⟨ad.block, ad.off + cond (Nat.beq 0 c) 0 (0 * 1), none⟩, c - 0, ?_, ?_, fun b hb => s1.lt b hb⟩
    · have hc := s1.cap
      have hle := s1.le
      simp only [slcE, blt_small (show c < 4611686018427387904 by omega), cond_t]
      rw [bnd rfl (by rw [hlen]; omega), bnd0, Nat.sub_zero]
    · have ho : ad.off + cond (Nat.beq 0 c) 0 (0 * 1) = ad.off := by cases Nat.beq 0 c <;> rfl
      rw [ho]
      have hsplit : ls.flatMap encInn = (ls.take 70).flatMap encInn ++ (ls.drop 70).flatMap encInn := by rw [← List.flatMap_append, List.take_append_drop]
      rcases s1.rd with e | ⟨ad', cc, op, ro, e, had, h1, h2, h3⟩
      · rw [hsplit] at e
        exact .inl (List.append_eq_nil_iff.mp e).1
      · obtain rfl := Option.some.inj had
        refine .inr ⟨_, cc, op, ro, e, rfl, h1, h2, fun k v hk => ?_⟩
        refine h3 k v ?_
        rw [hsplit, List.getElem?_append_left (List.getElem?_eq_some_iff.mp hk).1]
        exact hk

def pk (d : DoR) : DoR := { d with tell := pickM d.tell 7 }
def cpy (l : List DoR) (j : Nat) : List DoR := (l.take j).map pk ++ List.replicate (l.length - j) ⟨0, 0, false⟩
theorem cpy_len (l : List DoR) (j : Nat) (hj : j ≤ l.length) : (cpy l j).length = l.length := by
  unfold cpy
  rw [List.length_append, List.length_map, List.length_take, List.length_replicate]; omega
theorem cpy_at (l : List DoR) (j : Nat) (hj : j < l.length) : (cpy l j)[j]? = some ⟨0, 0, false⟩ := by
  unfold cpy
  have hl : ((l.take j).map pk).length = j := by rw [List.length_map, List.length_take]; omega
  rw [List.getElem?_append_right (by omega), hl, Nat.sub_self, List.getElem?_replicate, if_pos (by omega)]
theorem cpy_step (l : List DoR) (j : Nat) {d : DoR} (hd : l[j]? = some d) : (cpy l j).set j (pk d) = cpy l (j + 1) := by
  have hj := (List.getElem?_eq_some_iff.mp hd).1
  have hl : ((l.take j).map pk).length = j := by rw [List.length_map, List.length_take]; omega
  apply List.ext_getElem?
  intro k
  by_cases e : k = j
  · subst e
    rw [List.getElem?_set_self (by rw [cpy_len _ _ (by omega)]; exact hj)]
    unfold cpy
    rw [List.getElem?_append_left (by rw [List.length_map, List.length_take]; omega), List.getElem?_map, List.getElem?_take_of_lt (by omega), hd]; rfl
  · rw [List.getElem?_set_ne (Ne.symm e)]
    unfold cpy
    by_cases h1 : k < j
    · rw [List.getElem?_append_left (by omega), List.getElem?_append_left (by rw [List.length_map, List.length_take]; omega), List.getElem?_map, List.getElem?_map, List.getElem?_take_of_lt h1, List.getElem?_take_of_lt (by omega)]
    · rw [List.getElem?_append_right (by omega), List.getElem?_append_right (by rw [List.length_map, List.length_take]; omega), List.getElem?_replicate, List.getElem?_replicate, hl, List.length_map, List.length_take]
      by_cases h2 : k < l.length
      · rw [if_pos (by omega), if_pos (by omega)]
      · rw [if_neg (by omega), if_neg (by omega)]
theorem cpy_all (l : List DoR) : cpy l l.length = l.map pk := by
  unfold cpy
  rw [List.take_length, Nat.sub_self, List.replicate_zero, List.append_nil]
theorem repL_flat : ∀ n : Nat, repL [.int .i64 0, .int .i64 0, .bool false] n = (List.replicate n (⟨0, 0, false⟩ : DoR)).flatMap encDo
  | 0 => rfl
  | n + 1 => by
    rw [List.replicate_succ, List.flatMap_cons, ← repL_flat n]; rfl
section
variable {hb : AH} {K : Nat → Prop} {s o1 o2 wb : Nat} {a16 : Option Addr} {ls : List (Inn DoR)} {c18 : Nat} {a4 : Option Addr} {l5 c6 : Nat} {i : Nat} {x : Inn DoR}
theorem copy_ok (hx : ls[i]? = some x) (hr : Rd hb a16 (ls.flatMap encInn)) (ha : ∀ b, blk a16 b → b < hb.n) (hxr : Rd hb x.a (x.l.flatMap encDo)) (hxa : ∀ b, blk x.a b → b < hb.n) (hxn : x.n = x.l.length) (hbig : x.n < 4611686018427387904) {Q : Value → AH → Prop}
    (hnext : ∀ g : AH, g.n = hb.n + 1 → (∀ b, b < hb.n → g.get b = hb.get b) → g.get hb.n = some (.cells ((x.l.map pk).flatMap encDo) false false 3) → Ok (law13_SchedRuns_j16 g (some ⟨s, 0, none⟩) (some ⟨hb.n, 0, none⟩) x.n x.n (some ⟨o1, 0, none⟩) (some ⟨o2, 0, none⟩) (some ⟨wb, 0, none⟩) ls.length a16 a4 l5 c6 c18 (i : Int)) Q) :
    ∀ (d j : Nat) (g : AH), x.n - j = d → j ≤ x.n → g.n = hb.n + 1 → (∀ b, b < hb.n → g.get b = hb.get b) → g.get hb.n = some (.cells ((cpy x.l j).flatMap encDo) false false 3) →
      Ok (law13_SchedRuns_L5 a16 (i : Int) ls.length (some ⟨s, 0, none⟩) (some ⟨o2, 0, none⟩) (some ⟨o1, 0, none⟩) (some ⟨wb, 0, none⟩) a4 l5 c6 c18 (some ⟨hb.n, 0, none⟩) x.n x.n ((x.n : Nat) : Int) (j : Int) g) Q := by
  have hil := (List.getElem?_eq_some_iff.mp hx).1
  intro d
  induction d with
  | zero =>
    intro j g hd hj hn hg hM
    obtain rfl : j = x.n := by omega
    refine Ok.le ?_ law13_SchedRuns_L5_le
    refine Ok.le ?_ law13_SchedRuns_j19_le
    rw [dec_f (by omega), cond_f]
    refine hnext g hn hg ?_
    rw [hM, hxn, cpy_all]
  | succ d ih =>
    intro j g hd hj hn hg hM
    refine Ok.le ?_ law13_SchedRuns_L5_le
    refine Ok.le ?_ law13_SchedRuns_j19_le
    rw [dec_t (by omega), cond_t]
    refine Ok.le ?_ law13_SchedRuns_j18_le
    obtain ⟨dd, hdd⟩ : ∃ dd, x.l[j]? = some dd := ⟨_, List.getElem?_eq_getElem (by omega)⟩
    obtain ⟨ad, had, hrd⟩ := (rd_keep hr (fun b hb' => hg b (ha b hb')) (by omega : hb.n ≤ g.n)).some (by
      intro he
      have := congrArg List.length he
      rw [flat_len encInn_len] at this
      have h0 : ls.length * 1 = 0 := this
      omega)
    have e1 : g.ldS ad.block (ad.off + i * 1) = some (x.a, x.n, x.c) := by
      have := (hrd (i * 1 + 0)).2.2.2.2 x.a x.n x.c (by rw [flat_get_some encInn_len (by omega) hx]; rfl)
      exact this
    obtain ⟨ax, hax, hrx⟩ := (rd_keep hxr (fun b hb' => hg b (hxa b hb')) (by omega : hb.n ≤ g.n)).some (by
      intro he
      have := congrArg List.length he
      rw [flat_len encDo_len] at this
      have h0 : x.l.length * 3 = 0 := this
      omega)
    have d0 : g.ldI .i64 ax.block (ax.off + j * 3) = some dd.tell := by
      have := (hrx (j * 3 + 0)).1 .i64 dd.tell (by rw [flat_get_some encDo_len (by omega) hdd]; rfl)
      exact this
    have d1 : g.ldI .i64 ax.block (ax.off + j * 3 + 1) = some dd.wake := by
      have := (hrx (j * 3 + 1)).1 .i64 dd.wake (by rw [flat_get_some encDo_len (by omega) hdd]; rfl)
      rw [Nat.add_assoc]; exact this
    have d2 : g.ldB ax.block (ax.off + j * 3 + 2) = some dd.inner := by
      have := (hrx (j * 3 + 2)).2.1 dd.inner (by rw [flat_get_some encDo_len (by omega) hdd]; rfl)
      rw [Nat.add_assoc]; exact this
    have hcl := cpy_len x.l j (by omega)
    have s1 : AH.setL ((cpy x.l j).flatMap encDo) (j * 3) [.int .i64 dd.tell, .int .i64 dd.wake, .bool dd.inner] = ((cpy x.l j).set j dd).flatMap encDo := by
      have := flat_set (enc := encDo) encDo_len (i := j) (j := 0) (vs := [.int .i64 dd.tell, .int .i64 dd.wake, .bool dd.inner]) (a := ⟨0, 0, false⟩) (a' := dd) (cpy_at x.l j (by omega)) (by simp) rfl
      simpa using this
    have st1 : g.st hb.n (0 + j * 3) [.int .i64 dd.tell, .int .i64 dd.wake, .bool dd.inner] = some (g.set hb.n (some (.cells (((cpy x.l j).set j dd).flatMap encDo) false false 3))) := by
      rw [AH.st_of hM (by rw [flat_len encDo_len, hcl]; simp; omega), Nat.zero_add, s1]
    have hM1 : (g.set hb.n (some (.cells (((cpy x.l j).set j dd).flatMap encDo) false false 3))).get hb.n = some (.cells (((cpy x.l j).set j dd).flatMap encDo) false false 3) := AH.get_set_eq _ _ _
    have hat : ((cpy x.l j).set j dd)[j]? = some dd := List.getElem?_set_self (by omega)
    have e2 : (g.set hb.n (some (.cells (((cpy x.l j).set j dd).flatMap encDo) false false 3))).ldI .i64 hb.n (0 + j * 3 + 0) = some dd.tell := AH.ldI_of hM1 (by
      have := flat_get_some encDo_len (j := 0) (by omega) hat
      simpa [encDo] using this)
    have s2 : AH.setL (((cpy x.l j).set j dd).flatMap encDo) (j * 3) [.int .i64 (pickM dd.tell 7)] = (((cpy x.l j).set j dd).set j (pk dd)).flatMap encDo := by
      have := flat_set (enc := encDo) encDo_len (i := j) (j := 0) (vs := [.int .i64 (pickM dd.tell 7)]) (a := dd) (a' := pk dd) hat (by simp) rfl
      simpa using this
    have st2 : (g.set hb.n (some (.cells (((cpy x.l j).set j dd).flatMap encDo) false false 3))).st hb.n (0 + j * 3 + 0) [.int .i64 (pickM dd.tell 7)] = some ((g.set hb.n (some (.cells (((cpy x.l j).set j dd).flatMap encDo) false false 3))).set hb.n (some (.cells ((cpy x.l (j + 1)).flatMap encDo) false false 3))) := by
      rw [AH.st_of hM1 (by rw [flat_len encDo_len, List.length_set, hcl]; simp; omega)]
      have : 0 + j * 3 + 0 = j * 3 := by omega
      rw [this, s2, List.set_set, cpy_step _ _ hdd]
    have i1 := inB_t (show (0 : Int) ≤ (i : Int) by omega) (show (i : Int) < (ls.length : Nat) by omega)
    have i2 := inB_t (show (0 : Int) ≤ (j : Int) by omega) (show (j : Int) < (x.n : Nat) by omega)
    simp only [had, hax, Option.bind_some, i1, i2, cond_t, Int.toNat_natCast, e1, d0, d1, d2, st1, e2, pick_eq dd.tell 7 (by omega) (by omega), asI_i64, st2]
    refine Ok.le ?_ law13_SchedRuns_j17_le
    rw [wrap64 (by omega) (by omega), ← had]
    refine ih (j + 1) _ (by omega) (by omega) (by rw [AH.n_set, AH.n_set]; exact hn) (fun b hb' => ?_) (AH.get_set_eq _ _ _)
    rw [AH.get_set_ne _ (by omega), AH.get_set_ne _ (by omega)]; exact hg b hb'
end
end Rn
end Go.Lg.Try
