/- The document's queue: what is put off, made due, dropped, taken. -/
import Derived.Test.YtmjcbpocciaafaaFref19
import Derived.Test.YtmjcbpocciaafaaPafterY
import Derived.Test.YtmjcbpocciaafaaPafterK
set_option linter.unusedVariables false
set_option linter.unusedSimpArgs false
namespace Go.Lg.Try
set_option linter.unusedVariables false
set_option linter.unusedSimpArgs false
open Go Go.Proofs
def encR (e : En) : List Value := [.int .i64 e.o, .int .i64 e.a, .int .i64 e.v]
theorem encR_len (e : En) : (encR e).length = 3 := rfl
theorem rdR {h : AH} {a : Option Addr} {l : List En} (hr : Rd h a (l.flatMap encR)) {k : Nat} {x : En} (hx : l[k]? = some x) : ∃ ad, a = some ad ∧ h.ldI .i64 ad.block (ad.off + k * 3) = some x.o ∧ h.ldI .i64 ad.block (ad.off + k * 3 + 1) = some x.a ∧ h.ldI .i64 ad.block (ad.off + k * 3 + 2) = some x.v := by
  have c0 : (l.flatMap encR)[k * 3 + 0]? = some (.int .i64 x.o) := by rw [flat_get_some encR_len (by decide) hx]; rfl
  have c1 : (l.flatMap encR)[k * 3 + 1]? = some (.int .i64 x.a) := by rw [flat_get_some encR_len (by decide) hx]; rfl
  have c2 : (l.flatMap encR)[k * 3 + 2]? = some (.int .i64 x.v) := by rw [flat_get_some encR_len (by decide) hx]; rfl
  rcases hr with e | ⟨ad, c, op, ro, e, ha, h1, h2, h3⟩
  · rw [e] at c0; simp at c0
  · refine ⟨ad, ha, AH.ldI_of h1 (h3 _ _ c0), AH.ldI_of h1 ?_, AH.ldI_of h1 ?_⟩
    · rw [Nat.add_assoc]; exact h3 _ _ c1
    · rw [Nat.add_assoc]; exact h3 _ _ c2
section
variable {w d : List En} {r : Nat} {a1 a2 : Option Addr} {c1 c2 : Nat} {F : List Asr} {h : AH}
abbrev Rb (r : Nat) (a1 : Option Addr) (n1 c1 : Nat) (a2 : Option Addr) (n2 c2 : Nat) : Asr := Cs r [.slice a1 n1 c1, .slice a2 n2 c2] 2
abbrev aRl (a : Option Addr) (c : Nat) (l : List En) : Asr := aOs a l.length c (l.flatMap encR)
abbrev aRP (r : Nat) (a1 : Option Addr) (c1 : Nat) (a2 : Option Addr) (c2 : Nat) (w d : List En) : List Asr := [Rb r a1 w.length c1 a2 d.length c2, aRl a1 c1 w, aRl a2 c2 d]
def aRQ (r : Nat) (w d : List En) : Asr := fun m => ∃ a1 : Option Addr, ∃ c1 : Nat, ∃ a2 : Option Addr, ∃ c2 : Nat, Lay (aRP r a1 c1 a2 c2 w d) m
theorem rOpen (hh : H h (aRQ r w d :: F)) : ∃ a1 c1 a2 c2, H h (Rb r a1 w.length c1 a2 d.length c2 :: aRl a1 c1 w :: aRl a2 c2 d :: F) := by
  obtain ⟨a1, hh⟩ := hh.ex
  obtain ⟨c1, hh⟩ := hh.ex
  obtain ⟨a2, hh⟩ := hh.ex
  obtain ⟨c2, hh⟩ := hh.ex
  exact ⟨a1, c1, a2, c2, hh.opn_⟩
theorem rClose (hh : H h (Rb r a1 w.length c1 a2 d.length c2 :: aRl a1 c1 w :: aRl a2 c2 d :: F)) : H h (aRQ r w d :: F) :=
  (H.cls (L := aRP r a1 c1 a2 c2 w d) hh).imp fun m hm => ⟨a1, c1, a2, c2, hm⟩
theorem appR {l : List En} {a : Option Addr} {c : Nat} (x : En) (w : H h (aRl a c l :: F)) (hl : l.length < 1000000) : ∃ a' h', appE 3 24 (.slice a l.length c) (.slice (some ⟨h.n, 0, none⟩) 1 1) (h.push (.cells [.int .i64 x.o, .int .i64 x.a, .int .i64 x.v] false false 3)) = some (.slice a' (l.length + 1) opn, h') ∧ H h' (aRl a' opn (l ++ [x]) :: F) := by
  obtain ⟨a', h', e, w'⟩ := appN (by_ := 24) (xs := [.int .i64 x.o, .int .i64 x.a, .int .i64 x.v]) w (c' := 1) rfl (by omega) (by omega)
  refine ⟨a', h', e, ?_⟩
  have hl : (l ++ [x]).length = l.length + 1 := by simp
  have hf : (l ++ [x]).flatMap encR = l.flatMap encR ++ [.int .i64 x.o, .int .i64 x.a, .int .i64 x.v] := by simp [encR]
  show H h' (aOs a' (l ++ [x]).length opn ((l ++ [x]).flatMap encR) :: F)
  rw [hl, hf]; exact w'
theorem rLater_ok (hs : w.length + d.length ≤ 1024) (o a : Int) (hh : H h (aRQ r w d :: F)) : Ok (C k_ref19_Queue_Later [ptrN r, .int .i64 o, .int .i64 a] h) fun v h' => v = .int .i64 (laterM w d o a).1 ∧ H h' (aRQ r (laterM w d o a).2 d :: F) := by
  obtain ⟨a1, c1, a2, c2, w0⟩ := rOpen hh
  refine Ok.le ?_ ref19_Queue_Later_le
  unfold F_ref19_Queue_Later laterM
  by_cases c0 : o < 1
  · rw [dec_t c0, cond_t, if_pos c0]; exact Ok.some ⟨rfl, hh⟩
  rw [dec_f c0, cond_f, if_neg c0]
  refine Ok.le ?_ ref19_Queue_Later_j2_le
  simp only [AH.ldS_of (o := 0 + 0) w0.get rfl, AH.ldS_of (o := 0 + 1) w0.get rfl, Option.bind_some]
  rw [wadd (by omega) (by omega)]
  by_cases c3 : 1024 ≤ w.length + d.length
  · rw [dec_t (show ((w.length + d.length : Nat) : Int) = 1024 by omega), cond_t, if_pos c3]; exact Ok.some ⟨rfl, hh⟩
  rw [dec_f (show ¬((w.length + d.length : Nat) : Int) = 1024 by omega), cond_f, if_neg c3]
  refine Ok.le ?_ ref19_Queue_Later_j1_le
  obtain ⟨a', h15, e15, w15⟩ := appR (⟨0, o, a⟩ : En) w0.u1 (by omega)
  have e15' : appE 3 24 (.slice a1 w.length c1) (.slice (some ⟨h.n, 0, none⟩) 1 1) (h.push (.cells [.int .i64 o, .int .i64 a, .int .i64 0] false false 3)) = some (.slice a' (w.length + 1) opn, h15) := e15
  obtain ⟨h18, s18, w18, n18⟩ := (w15.u1).st (o := 0 + 0) [.slice a' (w.length + 1) opn] (by simp)
  simp only [AH.ldS_of (o := 0 + 0) w0.get rfl, Option.bind_some, e15', asS_s, s18]
  refine Ok.some ⟨rfl, rClose (a1 := a') (c1 := opn) (a2 := a2) (c2 := c2) ?_⟩
  have hlen : (w ++ [⟨0, o, a⟩] : List En).length = w.length + 1 := by simp
  rw [hlen]
  exact w18
/-- Mark -/
theorem cntO_succ {o : Int} {l : List En} {k : Nat} {x : En} (hx : l[k]? = some x) : cntO o (l.take (k + 1)) = cntO o (l.take k) + (if x.o = o then 1 else 0) := by
  rw [List.take_add_one, hx]; exact cntO_snoc _ _ _
theorem rMark_ok {o : Int} (hw : w.length < 1000000) (hh : H h (aRQ r w d :: F)) : Ok (C k_ref19_Queue_Mark [ptrN r, .int .i64 o] h) fun v h' => v = .int .i64 (cntO o w : Nat) ∧ h' = h := by
  obtain ⟨a1, c1, a2, c2, w0⟩ := rOpen hh
  refine Ok.le ?_ ref19_Queue_Mark_le
  unfold F_ref19_Queue_Mark
  have ho : OwS h 3 a1 w.length c1 (w.flatMap encR) := H.of_up w0.u1
  have key : ∀ (n k : Nat), w.length - k = n → k ≤ w.length → Ok (ref19_Queue_Mark_L1 (some ⟨r, 0, none⟩) o (cntO o (w.take k) : Nat) (k : Nat) h) fun v h' => v = .int .i64 (cntO o w : Nat) ∧ h' = h := by
    intro n
    induction n with
    | zero =>
      intro k hn hk
      refine Ok.le ?_ ref19_Queue_Mark_L1_le
      simp only [Option.bind_some, AH.ldS_of (o := 0 + 0) w0.get rfl]
      rw [dec_f (by omega), cond_f]
      refine Ok.le ?_ ref19_Queue_Mark_j1_le
      obtain rfl : k = w.length := by omega
      rw [List.take_length]
      exact Ok.some ⟨rfl, rfl⟩
    | succ n ih =>
      intro k hn hk
      obtain ⟨x, hx⟩ : ∃ x, w[k]? = some x := ⟨_, List.getElem?_eq_getElem (by omega)⟩
      have hc := cntO_succ (o := o) hx
      have hle : cntO o (w.take k) ≤ k := Nat.le_trans (cntO_le _ _) (by rw [List.length_take]; omega)
      refine Ok.le ?_ ref19_Queue_Mark_L1_le
      simp only [Option.bind_some, AH.ldS_of (o := 0 + 0) w0.get rfl]
      rw [dec_t (by omega), cond_t]
      refine Ok.le ?_ ref19_Queue_Mark_j3_le
      obtain ⟨ad, rfl, x1, x2, x3⟩ := rdR ho.rd hx
      have hi : inB ((k : Nat) : Int) w.length = true := inB_t (by omega) (by omega)
      simp only [Option.bind_some, AH.ldS_of (o := 0 + 0) w0.get rfl, hi, cond_t, Int.toNat_natCast, Nat.add_zero, x1]
      have := ih (k + 1) (by omega) (by omega)
      by_cases c0 : x.o = o
      · rw [dec_t c0, cond_t]
        refine Ok.le ?_ ref19_Queue_Mark_j2_le
        rw [wadd1 (by omega), wadd1 (by omega)]
        rw [if_pos c0] at hc
        rw [hc] at this
        exact this
      · rw [dec_f c0, cond_f]
        refine Ok.le ?_ ref19_Queue_Mark_j2_le
        rw [wadd1 (by omega)]
        rw [if_neg c0, Nat.add_zero] at hc
        rw [hc] at this
        exact this
  exact key w.length 0 rfl (by omega)
/-- what stays of the first k -/
def stK (o keep : Int) (l : List En) (k : Nat) : List En := keepF (dO o keep l) 0 (l.take k)
theorem stK_succ {o keep : Int} {l : List En} {k : Nat} {x : En} (hx : l[k]? = some x) : stK o keep l (k + 1) = stK o keep l k ++ (if dO o keep l k then [] else [x]) := by
  have hk := (List.getElem?_eq_some_iff.mp hx).1
  unfold stK
  rw [List.take_add_one, hx]
  show keepF _ 0 (l.take k ++ [x]) = _
  rw [keepF_snoc, List.length_take, Nat.min_eq_left (by omega), Nat.zero_add]
theorem stK_all (o keep : Int) (l : List En) : stK o keep l l.length = stayO o keep l := by unfold stK stayO; rw [List.take_length]
theorem stK_le (o keep : Int) (l : List En) (k : Nat) : (stK o keep l k).length ≤ k := Nat.le_trans (keepF_le _ _ _) (by rw [List.length_take]; omega)
theorem rBack_ok {o m : Int} (hm : 0 ≤ m) (hw : w.length < 1000000) (hh : H h (aRQ r w d :: F)) : Ok (C k_ref19_Queue_Back [ptrN r, .int .i64 o, .int .i64 m] h) fun v h' => v = .int .i64 ((outO o m w w.length).length : Nat) ∧ H h' (aRQ r (stayO o m w) d :: F) := by
  obtain ⟨a1, c1, a2, c2, w0⟩ := rOpen hh
  refine Ok.le ?_ ref19_Queue_Back_le
  unfold F_ref19_Queue_Back
  rw [dec_f (by omega), cond_f]
  refine Ok.le ?_ ref19_Queue_Back_j5_le
  have key : ∀ (n k : Nat) (h : AH) (a : Option Addr) (c : Nat), w.length - k = n → k ≤ w.length → H h (aRl a c (stK o m w k) :: Rb r a1 w.length c1 a2 d.length c2 :: aRl a1 c1 w :: aRl a2 c2 d :: F) →
      Ok (ref19_Queue_Back_L1 (some ⟨r, 0, none⟩) o m a (stK o m w k).length c (cntO o (w.take k) : Nat) ((outO o m w k).length : Nat) (k : Nat) h) fun v h' => v = .int .i64 ((outO o m w w.length).length : Nat) ∧ H h' (aRQ r (stayO o m w) d :: F) := by
    intro n
    induction n with
    | zero =>
      intro k h a c hn hk w1
      refine Ok.le ?_ ref19_Queue_Back_L1_le
      simp only [Option.bind_some, AH.ldS_of (o := 0 + 0) (w1.g 1 rfl) rfl]
      rw [dec_f (by omega), cond_f]
      refine Ok.le ?_ ref19_Queue_Back_j1_le
      obtain rfl : k = w.length := by omega
      obtain ⟨h4, s4, w4, n4⟩ := (w1.mv 1 rfl : H h (Rb r a1 w.length c1 a2 d.length c2 :: _)).st (o := 0 + 0) [.slice a (stK o m w w.length).length c] (by simp)
      simp only [Option.bind_some, s4]
      rw [stK_all] at w4
      refine Ok.some ⟨rfl, rClose (a1 := a) (c1 := c) (a2 := a2) (c2 := c2) ?_⟩
      have w5 : H h4 (Rb r a (stayO o m w).length c a2 d.length c2 :: aRl a c (stayO o m w) :: aRl a1 c1 w :: aRl a2 c2 d :: F) := w4
      exact w5.rm 2 rfl
    | succ n ih =>
      intro k h a c hn hk w1
      obtain ⟨x, hx⟩ : ∃ x, w[k]? = some x := ⟨_, List.getElem?_eq_getElem (by omega)⟩
      have hc := cntO_succ (o := o) hx
      have hle : cntO o (w.take k) ≤ k := Nat.le_trans (cntO_le _ _) (by rw [List.length_take]; omega)
      have hso := outO_succ (o := o) (keep := m) hx
      have hss := stK_succ (o := o) (keep := m) hx
      have hol := outO_le o m w k
      have hsl := stK_le o m w k
      have hd : dO o m w k = (decide (x.o = o) && decide (m - (cntO o (w.take k) : Nat) - 1 < 0)) := by unfold dO; rw [hx]
      have ho : OwS h 3 a1 w.length c1 (w.flatMap encR) := H.of_up (w1.mv 2 rfl)
      refine Ok.le ?_ ref19_Queue_Back_L1_le
      simp only [Option.bind_some, AH.ldS_of (o := 0 + 0) (w1.g 1 rfl) rfl]
      rw [dec_t (by omega), cond_t]
      refine Ok.le ?_ ref19_Queue_Back_j4_le
      obtain ⟨ad, rfl, x1, x2, x3⟩ := rdR ho.rd hx
      have hi : inB ((k : Nat) : Int) w.length = true := inB_t (by omega) (by omega)
      obtain ⟨a', h6, e6, w6⟩ := appR x w1 (by omega)
      simp only [Option.bind_some, AH.ldS_of (o := 0 + 0) (w1.g 1 rfl) rfl, hi, cond_t, Int.toNat_natCast, Nat.add_zero, x1]
      have stay : ∀ {t : Int}, dO o m w k = false → t = (cntO o (w.take (k + 1)) : Nat) → Ok (ref19_Queue_Back_j2 (some ⟨r, 0, none⟩) o m (k : Nat) a' ((stK o m w k).length + 1) opn t ((outO o m w k).length : Nat) h6) fun v h' => v = .int .i64 ((outO o m w w.length).length : Nat) ∧ H h' (aRQ r (stayO o m w) d :: F) := by
        intro t hf ht
        rw [hf, if_neg (by decide), List.append_nil] at hso
        rw [hf, if_neg (by decide)] at hss
        have := ih (k + 1) h6 a' opn (by omega) (by omega) (by rw [hss]; exact w6)
        rw [hss, hso, List.length_append] at this
        refine Ok.le ?_ ref19_Queue_Back_j2_le
        rw [wadd1 (by omega), ht]
        exact this
      by_cases c0 : x.o = o
      · rw [dec_t c0, Bool.not_true, cond_f]
        refine Ok.le ?_ ref19_Queue_Back_j3_le
        rw [if_pos c0] at hc
        rw [wadd1 (by omega)]
        by_cases c3 : m < ((cntO o (w.take k) + 1 : Nat) : Int)
        · rw [dec_t c3, cond_t, wadd1 (by omega)]
          rw [decide_eq_true c0, decide_eq_true (by omega), Bool.and_self] at hd
          rw [hd, if_pos rfl] at hso hss
          rw [List.append_nil] at hss
          have := ih (k + 1) h a c (by omega) (by omega) (by rw [hss]; exact w1)
          rw [hss, hso, hc, List.length_append] at this
          refine Ok.le ?_ ref19_Queue_Back_j2_le
          rw [wadd1 (by omega)]
          exact this
        · rw [dec_f c3, cond_f]
          simp only [Option.bind_some, AH.ldS_of (o := 0 + 0) (w1.g 1 rfl) rfl, hi, cond_t, Int.toNat_natCast, x1, x2, x3, e6, asS_s]
          rw [decide_eq_false (show ¬ m - (cntO o (w.take k) : Nat) - 1 < 0 by omega), Bool.and_false] at hd
          exact stay hd (by rw [hc])
      · rw [dec_f c0, Bool.not_false, cond_t]
        simp only [Option.bind_some, AH.ldS_of (o := 0 + 0) (w1.g 1 rfl) rfl, hi, cond_t, Int.toNat_natCast, x1, x2, x3, e6, asS_s]
        rw [decide_eq_false c0, Bool.false_and] at hd
        exact stay hd (by rw [hc, if_neg c0]; rfl)
  exact key w.length 0 h none 0 rfl (by omega) (os_nil w0)
/-- Take -/
theorem rTake_ok {upto : Int} (hd : d.length < 1000000) (hh : H h (aRQ r w d :: F)) : Ok (C k_ref19_Queue_Take [ptrN r, .int .i64 upto] h) fun v h' => ∃ a c, v = .slice a (d.filter fun x => decide (x.v ≤ upto)).length c ∧ H h' (aRl a c (d.filter fun x => decide (x.v ≤ upto)) :: aRQ r w (d.filter fun x => !decide (x.v ≤ upto)) :: F) := by
  obtain ⟨a1, c1, a2, c2, w0⟩ := rOpen hh
  refine Ok.le ?_ ref19_Queue_Take_le
  unfold F_ref19_Queue_Take
  have key : ∀ (n k : Nat) (h : AH) (a a' : Option Addr) (c c' : Nat), d.length - k = n → k ≤ d.length →
      H h (aRl a c ((d.take k).filter fun x => decide (x.v ≤ upto)) :: aRl a' c' ((d.take k).filter fun x => !decide (x.v ≤ upto)) :: Rb r a1 w.length c1 a2 d.length c2 :: aRl a1 c1 w :: aRl a2 c2 d :: F) →
      Ok (ref19_Queue_Take_L1 (some ⟨r, 0, none⟩) upto a ((d.take k).filter fun x => decide (x.v ≤ upto)).length c a' ((d.take k).filter fun x => !decide (x.v ≤ upto)).length c' (k : Nat) h) fun v h' => ∃ a c, v = .slice a (d.filter fun x => decide (x.v ≤ upto)).length c ∧ H h' (aRl a c (d.filter fun x => decide (x.v ≤ upto)) :: aRQ r w (d.filter fun x => !decide (x.v ≤ upto)) :: F) := by
    intro n
    induction n with
    | zero =>
      intro k h a a' c c' hn hk w1
      obtain rfl : k = d.length := by omega
      rw [List.take_length] at w1 ⊢
      refine Ok.le ?_ ref19_Queue_Take_L1_le
      simp only [Option.bind_some, AH.ldS_of (o := 0 + 1) (w1.g 2 rfl) rfl]
      rw [dec_f (by omega), cond_f]
      refine Ok.le ?_ ref19_Queue_Take_j1_le
      generalize (d.filter fun x => decide (x.v ≤ upto)) = d1 at *
      generalize (d.filter fun x => !decide (x.v ≤ upto)) = d2 at *
      obtain ⟨h4, s4, w4, n4⟩ := (w1.mv 2 rfl : H h (Rb r a1 w.length c1 a2 d.length c2 :: _)).st (o := 0 + 1) [.slice a' d2.length c'] (by simp)
      simp only [Option.bind_some, s4]
      refine Ok.some ⟨a, c, rfl, ?_⟩
      have w5 : H h4 (Rb r a1 w.length c1 a' d2.length c' :: aRl a c d1 :: aRl a' c' d2 :: aRl a1 c1 w :: aRl a2 c2 d :: F) := w4
      have w6 := w5.rm 4 rfl
      have w7 : H h4 (Rb r a1 w.length c1 a' d2.length c' :: aRl a1 c1 w :: aRl a' c' d2 :: aRl a c d1 :: F) := w6.pm [0, 3, 2, 1]
      exact (rClose w7).u1
    | succ n ih =>
      intro k h a a' c c' hn hk w1
      obtain ⟨x, hx⟩ : ∃ x, d[k]? = some x := ⟨_, List.getElem?_eq_getElem (by omega)⟩
      have ho : OwS h 3 a2 d.length c2 (d.flatMap encR) := H.of_up (w1.mv 4 rfl)
      have l1 : ((d.take k).filter fun x => decide (x.v ≤ upto)).length ≤ k := Nat.le_trans (List.length_filter_le _ _) (by rw [List.length_take]; omega)
      have l2 : ((d.take k).filter fun x => !decide (x.v ≤ upto)).length ≤ k := Nat.le_trans (List.length_filter_le _ _) (by rw [List.length_take]; omega)
      have e1 : (d.take (k + 1)).filter (fun x => decide (x.v ≤ upto)) = (d.take k).filter (fun x => decide (x.v ≤ upto)) ++ (if x.v ≤ upto then [x] else []) := by
        rw [List.take_add_one, hx, List.filter_append]
        by_cases c : x.v ≤ upto <;> simp [c]
      have e2 : (d.take (k + 1)).filter (fun x => !decide (x.v ≤ upto)) = (d.take k).filter (fun x => !decide (x.v ≤ upto)) ++ (if x.v ≤ upto then [] else [x]) := by
        rw [List.take_add_one, hx, List.filter_append]
        by_cases c : x.v ≤ upto
        · simp [c]
        · simp [c]
      have ih' := ih (k + 1) 
      rw [e1, e2] at ih'
      clear ih e1 e2
      generalize (d.take k).filter (fun x => decide (x.v ≤ upto)) = d1 at *
      generalize (d.take k).filter (fun x => !decide (x.v ≤ upto)) = d2 at *
      refine Ok.le ?_ ref19_Queue_Take_L1_le
      simp only [Option.bind_some, AH.ldS_of (o := 0 + 1) (w1.g 2 rfl) rfl]
      rw [dec_t (by omega), cond_t]
      refine Ok.le ?_ ref19_Queue_Take_j3_le
      obtain ⟨ad, rfl, x1, x2, x3⟩ := rdR ho.rd hx
      have hi : inB ((k : Nat) : Int) d.length = true := inB_t (by omega) (by omega)
      simp only [Option.bind_some, AH.ldS_of (o := 0 + 1) (w1.g 2 rfl) rfl, hi, cond_t, Int.toNat_natCast, x1, x2, x3]
      by_cases c0 : x.v ≤ upto
      · rw [dec_t c0, cond_t]
        obtain ⟨a3, h6, e6, w6⟩ := appR x w1 (by omega)
        simp only [e6, Option.bind_some, asS_s]
        refine Ok.le ?_ ref19_Queue_Take_j2_le
        rw [wadd1 (by omega)]
        rw [if_pos c0, if_pos c0, List.append_nil] at ih'
        have := ih' h6 a3 a' opn c' (by omega) (by omega) w6
        rw [List.length_append] at this
        exact this
      · rw [dec_f c0, cond_f]
        obtain ⟨a3, h6, e6, w6⟩ := appR x (w1.mv 1 rfl : H h (aRl a' c' d2 :: aRl a c d1 :: _)) (by omega)
        simp only [e6, Option.bind_some, asS_s]
        refine Ok.le ?_ ref19_Queue_Take_j2_le
        rw [wadd1 (by omega)]
        rw [if_neg c0, if_neg c0, List.append_nil] at ih'
        have w7 : H h6 (aRl a c d1 :: aRl a3 opn (d2 ++ [x]) :: Rb r a1 w.length c1 (some ad) d.length c2 :: aRl a1 c1 w :: aRl (some ad) c2 d :: F) := w6.mv 1 rfl
        have := ih' h6 a a3 c opn (by omega) (by omega) w7
        rw [show (d2 ++ [x]).length = d2.length + 1 by simp] at this
        exact this
  exact key d.length 0 h none none 0 0 rfl (by omega) (os_nil (os_nil w0))
end
end Go.Lg.Try

namespace Go.Lg.Try
set_option linter.unusedVariables false
set_option linter.unusedSimpArgs false
open Go Go.Proofs
abbrev sv (v : Int) (l : List En) : List En := l.map fun x => { x with v := v }
section
variable {w d : List En} {r q : Nat} {a1 a2 : Option Addr} {c1 c2 : Nat} {F G : List Asr} {h : AH}
theorem osPt {l : List En} {a : Option Addr} {c : Nat} (hne : l ≠ []) (w : H h (aRl a c l :: F)) : ∃ b m rest, a = some ⟨b, 0, none⟩ ∧ c = opn ∧ rest.length = m * 3 ∧ H h (Pt b (.cells (l.flatMap encR ++ rest) true false 3) :: F) := by
  have ho : OwS h 3 a l.length c (l.flatMap encR) := H.of_up w
  have hpos := List.length_pos_iff.mpr hne
  generalize hcs : l.flatMap encR = cs at ho w
  generalize hn : l.length = n at ho w
  cases ho with
  | nil => omega
  | @mk b _ m _ rest hb1 hl1 hr1 hn1 =>
    exact ⟨b, m, rest, rfl, rfl, hr1, up_pt w hb1⟩
theorem stR {b : Nat} {rest : List Value} {l : List En} {k : Nat} (x : En) (w : H h (Pt b (.cells (l.flatMap encR ++ rest) true false 3) :: F)) (hk : k < l.length) : ∃ h', h.st b (0 + k * 3) [.int .i64 x.o, .int .i64 x.a, .int .i64 x.v] = some h' ∧ H h' (Pt b (.cells ((l.set k x).flatMap encR ++ rest) true false 3) :: F) := by
  obtain ⟨y, hy⟩ : ∃ y, l[k]? = some y := ⟨_, List.getElem?_eq_getElem hk⟩
  have hfl : (l.flatMap encR).length = l.length * 3 := flat_len encR_len l
  obtain ⟨h', s, w', n⟩ := w.st (o := 0 + k * 3) [.int .i64 x.o, .int .i64 x.a, .int .i64 x.v] (by rw [List.length_append, hfl]; simp only [List.length_cons, List.length_nil]; omega)
  refine ⟨h', s, ?_⟩
  rw [Nat.zero_add, setL_left (by rw [hfl]; simp only [List.length_cons, List.length_nil]; omega)] at w'
  have e := flat_set (enc := encR) encR_len (i := k) (j := 0) (a := y) (a' := x) (vs := [.int .i64 x.o, .int .i64 x.a, .int .i64 x.v]) hy (by simp) rfl
  rw [Nat.add_zero] at e
  rw [e] at w'
  exact w'
theorem swpR {b : Nat} {rest : List Value} {Q R : List En} {x y : En} (w : H h (Pt b (.cells ((Q ++ y :: x :: R).flatMap encR ++ rest) true false 3) :: F)) : ∃ h1 h2, h.st b (0 + (Q.length + 1) * 3) [.int .i64 y.o, .int .i64 y.a, .int .i64 y.v] = some h1 ∧ h1.st b (0 + Q.length * 3) [.int .i64 x.o, .int .i64 x.a, .int .i64 x.v] = some h2 ∧ H h2 (Pt b (.cells ((Q ++ x :: y :: R).flatMap encR ++ rest) true false 3) :: F) ∧ ∃ z, H h1 (Pt b z :: F) := by
  obtain ⟨h1, s1, w1⟩ := stR y w (k := Q.length + 1) (by simp)
  obtain ⟨h2, s2, w2⟩ := stR x w1 (k := Q.length) (by simp)
  exact ⟨h1, h2, s1, s2, by rw [adj_set] at w2; exact w2, _, w1⟩
theorem ldR {b : Nat} {rest : List Value} {l : List En} {k : Nat} {x : En} (w : H h (Pt b (.cells (l.flatMap encR ++ rest) true false 3) :: F)) (hx : l[k]? = some x) :
    h.ldI .i64 b (0 + k * 3) = some x.o ∧ h.ldI .i64 b (0 + k * 3 + 1) = some x.a ∧ h.ldI .i64 b (0 + k * 3 + 2) = some x.v := by
  have hk := (List.getElem?_eq_some_iff.mp hx).1
  have hl : ∀ r, r < 3 → (l.flatMap encR ++ rest)[k * 3 + r]? = (encR x)[r]? := fun r hr => by
    rw [List.getElem?_append_left (by rw [flat_len encR_len]; omega)]
    exact flat_get_some encR_len hr hx
  refine ⟨AH.ldI_of w.get ?_, AH.ldI_of w.get ?_, AH.ldI_of w.get ?_⟩
  · rw [Nat.zero_add]; exact hl 0 (by decide)
  · rw [Nat.zero_add]; exact hl 1 (by decide)
  · rw [Nat.zero_add]; exact hl 2 (by decide)
/-- one goes to its place -/
theorem rb_L2 {T : List En} {x : En} {b nw N : Nat} {rest : List Value} {k lf c nn : Nat} {o v : Int} {a : Option Addr} {Q : Value → AH → Prop} (hN : N < 100000000)
    (K : ∀ h M, Stb (T ++ [x]) M → H h (Pt b (.cells (M.flatMap encR ++ rest) true false 3) :: Rb r a1 nw c1 (some ⟨b, 0, none⟩) N opn :: G) → Ok (ref19_Queue_Commit_j2 (some ⟨r, 0, none⟩) o v (k : Nat) a lf c (nn : Nat) h) Q) :
    ∀ (n : Nat) (D1 D2 : List En) (h : AH), D1.length = n → D1.length + 1 + D2.length = N → Stb T (D1 ++ D2) → (∀ y ∈ D2, x.v < y.v) → H h (Pt b (.cells ((D1 ++ x :: D2).flatMap encR ++ rest) true false 3) :: Rb r a1 nw c1 (some ⟨b, 0, none⟩) N opn :: G) →
      Ok (ref19_Queue_Commit_L2 (some ⟨r, 0, none⟩) (k : Nat) a lf c v o (nn : Nat) (D1.length : Nat) h) Q := by
  intro n
  induction n with
  | zero =>
    intro D1 D2 h hn hl hs h2 w
    obtain rfl := List.eq_nil_of_length_eq_zero hn
    refine Ok.le ?_ ref19_Queue_Commit_L2_le
    rw [dec_f (by simp), cond_f]
    exact K h (x :: D2) (stb_ins (M1 := []) hs (fun _ h => by simp at h) h2) w
  | succ n ih =>
    intro D1 D2 h hn hl hs h2 w
    rcases List.eq_nil_or_concat D1 with rfl | ⟨D, y, rfl⟩
    · simp at hn
    rw [List.concat_eq_append] at *
    have hlen : (D ++ [y]).length = D.length + 1 := by simp
    rw [hlen] at hn hl ⊢
    have e1 : D ++ [y] ++ x :: D2 = D ++ y :: x :: D2 := by simp
    rw [e1] at w
    have gy := adj_get (x :: D2) y D
    have gx := adj_get1 D2 x y D
    obtain ⟨x1, x2, x3⟩ := ldR w gx
    obtain ⟨y1, y2, y3⟩ := ldR w gy
    have b1 : inB ((D.length + 1 : Nat) : Int) N = true := inB_t (by omega) (by omega)
    have b2 : inB ((D.length : Nat) : Int) N = true := inB_t (by omega) (by omega)
    have sl : h.ldS r (0 + 1) = some (some ⟨b, 0, none⟩, N, opn) := AH.ldS_of (w.g 1 rfl) rfl
    refine Ok.le ?_ ref19_Queue_Commit_L2_le
    rw [dec_t (by omega), cond_t, wsub1 (by omega) (by omega), Nat.add_sub_cancel]
    simp only [Option.bind_some, sl, b1, b2, cond_t, Int.toNat_natCast, x3, y3]
    by_cases c0 : x.v < y.v
    · rw [dec_t c0, cond_t]
      refine Ok.le ?_ ref19_Queue_Commit_j4_le
      rw [wsub1 (by omega) (by omega), Nat.add_sub_cancel]
      obtain ⟨h4, h5, s4, s5, w5, z, w4⟩ := swpR w
      simp only [Option.bind_some, sl, b1, b2, cond_t, Int.toNat_natCast, x1, x2, x3, y1, y2, y3, s4, s5]
      refine Ok.le ?_ ref19_Queue_Commit_j3_le
      rw [wsub1 (by omega) (by omega), Nat.add_sub_cancel]
      refine ih D (y :: D2) h5 (by omega) (by simp only [List.length_cons]; omega) (by simpa using hs) (fun z hz => ?_) w5
      rcases List.mem_cons.mp hz with rfl | hz
      · exact c0
      · exact h2 z hz
    · rw [dec_f c0, cond_f]
      refine K h (D ++ [y] ++ x :: D2) (stb_ins hs (fun z hz => ?_) h2) (by rw [e1]; exact w)
      rcases List.mem_append.mp hz with hz | hz
      · have := hs.1.left.le z hz y (by simp); omega
      · obtain rfl : z = y := by simpa using hz
        omega
theorem ofO_succ {o : Int} {l : List En} {k : Nat} {x : En} (hx : l[k]? = some x) : ofO o (l.take (k + 1)) = ofO o (l.take k) ++ (if x.o = o then [x] else []) ∧ notO o (l.take (k + 1)) = notO o (l.take k) ++ (if x.o = o then [] else [x]) := by
  unfold ofO notO
  rw [List.take_add_one, hx, List.filter_append, List.filter_append]
  by_cases c : x.o = o <;> simp [c]
/-- Commit -/
theorem rCommit_ok {o v : Int} (hv : 0 ≤ v) (ho : 1 ≤ o) (hw : w.length < 100000) (hd : d.length < 100000) (hsd : Sd d) (hh : H h (aRQ r w d :: F)) :
    Ok (C k_ref19_Queue_Commit [ptrN r, .int .i64 o, .int .i64 v] h) fun t h' => t = .tuple #[.int .i64 ((ofO o w).length : Nat), .int .i64 0] ∧ ∃ M, Stb (d ++ sv v (ofO o w)) M ∧ H h' (aRQ r (notO o w) M :: F) := by
  obtain ⟨a1, c1, a2, c2, w0⟩ := rOpen hh
  refine Ok.le ?_ ref19_Queue_Commit_le
  unfold F_ref19_Queue_Commit
  rw [dec_f (by omega), cond_f, dec_f (by omega), cond_f]
  refine Ok.le ?_ ref19_Queue_Commit_j7_le
  have key : ∀ (n k : Nat) (h : AH) (a a2 : Option Addr) (c c2 : Nat) (D : List En), w.length - k = n → k ≤ w.length → Stb (d ++ sv v (ofO o (w.take k))) D →
      H h (aRl a c (notO o (w.take k)) :: Rb r a1 w.length c1 a2 D.length c2 :: aRl a1 c1 w :: aRl a2 c2 D :: F) →
      Ok (ref19_Queue_Commit_L1 (some ⟨r, 0, none⟩) o v a (notO o (w.take k)).length c ((ofO o (w.take k)).length : Nat) (k : Nat) h) fun t h' => t = .tuple #[.int .i64 ((ofO o w).length : Nat), .int .i64 0] ∧ ∃ M, Stb (d ++ sv v (ofO o w)) M ∧ H h' (aRQ r (notO o w) M :: F) := by
    intro n
    induction n with
    | zero =>
      intro k h a a2 c c2 D hn hk hs w1
      obtain rfl : k = w.length := by omega
      rw [List.take_length] at *
      refine Ok.le ?_ ref19_Queue_Commit_L1_le
      simp only [Option.bind_some, AH.ldS_of (o := 0 + 0) (w1.g 1 rfl) rfl]
      rw [dec_f (by omega), cond_f]
      refine Ok.le ?_ ref19_Queue_Commit_j1_le
      obtain ⟨h4, s4, w4, n4⟩ := (w1.mv 1 rfl : H h (Rb r a1 w.length c1 a2 D.length c2 :: _)).st (o := 0 + 0) [.slice a (notO o w).length c] (by simp)
      simp only [Option.bind_some, s4]
      refine Ok.some ⟨rfl, D, hs, rClose (a1 := a) (c1 := c) (a2 := a2) (c2 := c2) ?_⟩
      have w5 : H h4 (Rb r a (notO o w).length c a2 D.length c2 :: aRl a c (notO o w) :: aRl a1 c1 w :: aRl a2 c2 D :: F) := w4
      exact w5.rm 2 rfl
    | succ n ih =>
      intro k h a a2 c c2 D hn hk hs w1
      obtain ⟨x, hx⟩ : ∃ x, w[k]? = some x := ⟨_, List.getElem?_eq_getElem (by omega)⟩
      obtain ⟨e1, e2⟩ := ofO_succ (o := o) hx
      have hol : (ofO o (w.take k)).length ≤ k := Nat.le_trans (ofO_le _ _) (by rw [List.length_take]; omega)
      have hnl : (notO o (w.take k)).length ≤ k := Nat.le_trans (notO_le _ _) (by rw [List.length_take]; omega)
      have hDl : D.length = d.length + (ofO o (w.take k)).length := by rw [hs.perm]; simp
      have ih' := ih (k + 1)
      rw [e1, e2] at ih'
      clear ih e1 e2
      generalize ofO o (w.take k) = T at *
      generalize notO o (w.take k) = L at *
      have how : OwS h 3 a1 w.length c1 (w.flatMap encR) := H.of_up (w1.mv 2 rfl)
      refine Ok.le ?_ ref19_Queue_Commit_L1_le
      simp only [Option.bind_some, AH.ldS_of (o := 0 + 0) (w1.g 1 rfl) rfl]
      rw [dec_t (by omega), cond_t]
      refine Ok.le ?_ ref19_Queue_Commit_j6_le
      obtain ⟨ad, rfl, x1, x2, x3⟩ := rdR how.rd hx
      have hi : inB ((k : Nat) : Int) w.length = true := inB_t (by omega) (by omega)
      obtain ⟨h20, s20, w20, n20⟩ := w1.var [.int .i64 0, .int .i64 0, .int .i64 0] [.int .i64 x.o, .int .i64 x.a, .int .i64 x.v] 3 rfl
      have g20 := w20.get
      simp only [Option.bind_some, AH.ldS_of (o := 0 + 0) (w1.g 1 rfl) rfl, hi, cond_t, Int.toNat_natCast, x1, x2, x3, s20, AH.ldI_of (k := .i64) (o := 0 + 0) g20 rfl, AH.ldI_of (k := .i64) (o := 0) g20 rfl, AH.ldI_of (k := .i64) (o := 0 + 1) g20 rfl, AH.ldI_of (k := .i64) (o := 0 + 2) g20 rfl]
      by_cases c0 : x.o = o
      · rw [dec_t c0, Bool.not_true, cond_f]
        refine Ok.le ?_ ref19_Queue_Commit_j5_le
        rw [if_pos c0, if_pos c0] at ih'
        rw [List.append_nil] at ih'
        obtain ⟨h30, s30, w30, n30⟩ := w20.st (o := 0 + 2) [.int .i64 v] (by simp)
        have g30 : h30.get h.n = some (.cells [.int .i64 x.o, .int .i64 x.a, .int .i64 v] false false 3) := w30.get
        have w30' : H h30 (aRl a2 c2 D :: Cs h.n [.int .i64 x.o, .int .i64 x.a, .int .i64 v] 3 :: aRl a c L :: Rb r (some ad) w.length c1 a2 D.length c2 :: aRl (some ad) c1 w :: F) := w30.pm [4, 0, 1, 2, 3]
        obtain ⟨a', h39, e39, w39⟩ := appR (⟨v, x.o, x.a⟩ : En) w30' (by omega)
        have e39' : appE 3 24 (.slice a2 D.length c2) (.slice (some ⟨h30.n, 0, none⟩) 1 1) (h30.push (.cells [.int .i64 x.o, .int .i64 x.a, .int .i64 v] false false 3)) = some (.slice a' (D.length + 1) opn, h39) := e39
        have sl30 : h30.ldS r (0 + 1) = some (a2, D.length, c2) := AH.ldS_of (w30'.g 3 rfl) rfl
        have sl37 : (h30.push (.cells [.int .i64 x.o, .int .i64 x.a, .int .i64 v] false false 3)).ldS r (0 + 1) = some (a2, D.length, c2) := AH.ldS_of ((w30'.push (.cells [.int .i64 x.o, .int .i64 x.a, .int .i64 v] false false 3)).g 4 rfl) rfl
        obtain ⟨h42, s42, w42, n42⟩ := (w39.mv 3 rfl : H h39 (Rb r (some ad) w.length c1 a2 D.length c2 :: _)).st (o := 0 + 1) [.slice a' (D.length + 1) opn] (by simp)
        have w43 : H h42 (aRl a' opn (D ++ [⟨v, x.o, x.a⟩]) :: Rb r (some ad) w.length c1 a' (D.length + 1) opn :: Cs h.n [.int .i64 x.o, .int .i64 x.a, .int .i64 v] 3 :: aRl a c L :: aRl (some ad) c1 w :: F) := w42.mv 1 rfl
        simp only [Option.bind_some, s30, sl30, AH.ldI_of (k := .i64) (o := 0) g30 rfl, AH.ldI_of (k := .i64) (o := 0 + 1) g30 rfl, AH.ldI_of (k := .i64) (o := 0 + 2) g30 rfl, sl37, veqO_slice, cond_t, e39', asS_s, s42, AH.ldS_of (o := 0 + 1) (w43.g 1 rfl) rfl]
        rw [wadd1 (by omega), wsub1 (by omega) (by omega), Nat.add_sub_cancel]
        obtain ⟨b, m, rest, rfl, _, hr, w44⟩ := osPt (by simp) w43
        refine rb_L2 (T := d ++ sv v T) (x := ⟨v, x.o, x.a⟩) (N := D.length + 1) (by omega) (fun h' M hs2 w45 => ?_) D.length D [] h42 rfl (by simp) (by simpa using hs) (fun _ h => by simp at h) w44
        refine Ok.le ?_ ref19_Queue_Commit_j2_le
        rw [wadd1 (by omega)]
        have hMl : M.length = D.length + 1 := by rw [hs2.perm, List.length_append, ← hs.perm]; rfl
        have w46 : H h' (aRl (some ⟨b, 0, none⟩) opn M :: Rb r (some ad) w.length c1 (some ⟨b, 0, none⟩) (D.length + 1) opn :: Cs h.n [.int .i64 x.o, .int .i64 x.a, .int .i64 v] 3 :: aRl a c L :: aRl (some ad) c1 w :: F) := pt_os w45 (by rw [flat_len encR_len]) hr
        have w47 := (w46.rm 2 rfl).pm [2, 1, 3, 0]
        rw [← hMl] at w47
        have := ih' h' a (some ⟨b, 0, none⟩) c opn M (by omega) (by omega) (by
          have e : sv v (T ++ [x]) = sv v T ++ [⟨v, x.o, x.a⟩] := by simp [sv]
          rw [e, ← List.append_assoc]; exact hs2) w47
        rw [List.length_append] at this
        exact this
      · rw [dec_f c0, Bool.not_false, cond_t]
        rw [if_neg c0, if_neg c0] at ih'
        rw [List.append_nil] at ih'
        obtain ⟨a', h26, e26, w26⟩ := appR x (w20.u1) (by omega)
        simp only [e26, Option.bind_some, asS_s]
        refine Ok.le ?_ ref19_Queue_Commit_j2_le
        rw [wadd1 (by omega)]
        have := ih' h26 a' a2 opn c2 D (by omega) (by omega) hs (w26.rm 1 rfl)
        rw [List.length_append] at this
        exact this
  exact key w.length 0 h none a2 0 c2 d rfl (by omega) (by simpa [sv, ofO] using Stb.refl hsd) (os_nil w0)
end
section
variable {w d : List En} {q : Nat} {F : List Asr} {h : AH}
/-- Commit of the queue, with any version -/
theorem commitU {o v : Int} (ho : 1 ≤ o) (hv : 0 ≤ v) (hw : w.length < 1000000) (hd : d.length < 1000000) (hh : H h (aQu q w d :: F)) :
    Ok (C k_after_Queue_int_Commit [ptrN q, .int .i64 o, .int .i64 v] h) fun r h' => r = .tuple #[.int .i64 ((ofO o w).length : Nat), .int .i64 0] ∧ ∃ M, Stb (d ++ sv v (ofO o w)) M ∧ H h' (aQu q (notO o w) M :: F) := by
  obtain ⟨a1, c1, a2, c2, w0⟩ := qOpen hh
  have hol := ofO_le o w
  refine Ok.le ?_ after_Queue_int_Commit_le
  simp only [F_after_Queue_int_Commit, qRight w0, Option.bind_some, asB_b, Bool.not_true, cond_f]
  rw [dec_f (by omega), cond_f, dec_f (by omega), cond_f]
  refine Ok.le ?_ after_Queue_int_Commit_j5_le
  refine Ok.bind (own_ok (o := o) (keep := 0) (by decide) (by decide) hw w0) ?_
  rintro _ h8 ⟨a, c, rfl, w8⟩
  rw [out0_all, stay0_all] at w8
  rw [out0_all]
  simp only [asS_s, Option.bind_some]
  have J1 : ∀ h, H h (aOs a (ofO o w).length c ((sv v (ofO o w)).flatMap encN) :: Qb q a1 (notO o w).length c1 a2 d.length c2 :: aOs a1 (notO o w).length c1 ((notO o w).flatMap encN) :: aOs a2 d.length c2 (d.flatMap encN) :: F) →
      Ok (after_Queue_int_Commit_j1 (some ⟨q, 0, none⟩) h a (ofO o w).length c) fun r h' => r = .tuple #[.int .i64 ((ofO o w).length : Nat), .int .i64 0] ∧ ∃ M, Stb (d ++ sv v (ofO o w)) M ∧ H h' (aQu q (notO o w) M :: F) := fun h w9 => by
    refine Ok.le ?_ after_Queue_int_Commit_j1_le
    have w10 : H h (aOs a2 d.length c2 (d.flatMap encN) :: aOs a (ofO o w).length c ((sv v (ofO o w)).flatMap encN) :: Qb q a1 (notO o w).length c1 a2 d.length c2 :: aOs a1 (notO o w).length c1 ((notO o w).flatMap encN) :: F) := w9.pm [3, 0, 1, 2]
    obtain ⟨a', c', h21, e21, w21⟩ := appOs (by_ := 24) w10 (by omega) (by omega)
    have w22 : H h21 (Qb q a1 (notO o w).length c1 a2 d.length c2 :: aOs a1 (notO o w).length c1 ((notO o w).flatMap encN) :: aOs a' (d.length + (ofO o w).length) c' (d.flatMap encN ++ (sv v (ofO o w)).flatMap encN) :: F) := (w21.pm [2, 3, 0, 1]).rm 3 rfl
    obtain ⟨h24, s24, w24, n24⟩ := w22.st (o := 0 + 2) [.slice a' (d.length + (ofO o w).length) c'] (by simp)
    have w25 : H h24 (Qb q a1 (notO o w).length c1 a' (d.length + (ofO o w).length) c' :: aOs a1 (notO o w).length c1 ((notO o w).flatMap encN) :: aOs a' (d.length + (ofO o w).length) c' (d.flatMap encN ++ (sv v (ofO o w)).flatMap encN) :: F) := w24
    simp only [Option.bind_some, AH.ldS_of (o := 0 + 2) (w9.g 1 rfl) rfl, e21, asS_s, s24, AH.ldS_of (o := 0 + 2) w25.get rfl]
    have hlen : (d ++ sv v (ofO o w)).length = d.length + (ofO o w).length := by simp
    have hfl : (d ++ sv v (ofO o w)).flatMap encN = d.flatMap encN ++ (sv v (ofO o w)).flatMap encN := List.flatMap_append
    have w26 : H h24 (aOs a' (d.length + (ofO o w).length) c' ((d ++ sv v (ofO o w)).flatMap encN) :: Qb q a1 (notO o w).length c1 a' (d.length + (ofO o w).length) c' :: aOs a1 (notO o w).length c1 ((notO o w).flatMap encN) :: F) := by
      rw [hfl]; exact w25.pm [2, 0, 1]
    refine Ok.bind (sortU (by rw [hlen]; omega) hlen.symm w26) ?_
    rintro _ h27 ⟨rfl, M, t, w27⟩
    simp only [asTu_nil, Option.bind_some, List.isEmpty_nil, cond_t]
    refine Ok.some ⟨rfl, M, t, qClose (a1 := a1) (c1 := c1) (a2 := a') (c2 := c') ?_⟩
    rw [t.perm, hlen]
    exact w27.pm [1, 2, 0]
  have ho8 : OwS h8 3 a (ofO o w).length c ((ofO o w).flatMap encN) := H.of_up w8
  generalize hT : ofO o w = T at *
  generalize hcs : T.flatMap encN = cs at ho8 w8
  generalize hn : T.length = n at ho8 w8
  cases ho8 with
  | nil =>
    have e0 : T = [] := List.eq_nil_of_length_eq_zero hn
    subst e0
    refine Ok.le ?_ after_Queue_int_Commit_L1_le
    refine Ok.le ?_ after_Queue_int_Commit_j4_le
    rw [dec_f (by decide), cond_f]
    exact J1 h8 w8
  | @mk b _ m _ rest hb1 hl1 hr1 hn1 =>
    subst hn
    have w9 := up_pt w8 hb1
    rw [← hcs] at w9
    refine com_loop (by omega) v (rest := rest) (fun h w10 => ?_) _ 0 h8 rfl (by omega) w9
    rw [setV_all] at w10
    exact J1 h (pt_os w10 (by rw [flat_len encN_len, List.length_map]) hr1)
theorem backU {o m : Int} (hm : 0 ≤ m) (hm2 : m < 9223372036854775808) (hw : w.length < 1000000) (hh : H h (aQu q w d :: F)) :
    Ok (C k_after_Queue_int_Back [ptrN q, .int .i64 o, .int .i64 m] h) fun r h' => r = .int .i64 ((outO o m w w.length).length : Nat) ∧ H h' (aQu q (stayO o m w) d :: F) := by
  obtain ⟨a1, c1, a2, c2, w0⟩ := qOpen hh
  refine Ok.le ?_ after_Queue_int_Back_le
  simp only [F_after_Queue_int_Back, qRight w0, Option.bind_some, asB_b, Bool.not_true, cond_f]
  rw [dec_f (by omega), cond_f]
  refine Ok.le ?_ after_Queue_int_Back_j1_le
  refine Ok.bind (own_ok (o := o) (keep := m) hm hm2 hw w0) ?_
  rintro _ h8 ⟨a, c, rfl, w8⟩
  simp only [asS_s, Option.bind_some]
  exact Ok.some ⟨rfl, qClose w8.drop⟩
theorem back_neg {o m : Int} (hm : m < 0) (hh : H h (aQu q w d :: F)) : Ok (C k_after_Queue_int_Back [ptrN q, .int .i64 o, .int .i64 m] h) fun r h' => r = .int .i64 0 ∧ h' = h := by
  obtain ⟨a1, c1, a2, c2, w0⟩ := qOpen hh
  refine Ok.le ?_ after_Queue_int_Back_le
  simp only [F_after_Queue_int_Back, qRight w0, Option.bind_some, asB_b, Bool.not_true, cond_f]
  rw [dec_t hm, cond_t]
  exact Ok.some ⟨rfl, rfl⟩
theorem commit_bad {o v : Int} (hb : o < 1 ∨ v < 0) (hh : H h (aQu q w d :: F)) : Ok (C k_after_Queue_int_Commit [ptrN q, .int .i64 o, .int .i64 v] h) fun r h' => r = .tuple #[.int .i64 0, .int .i64 2] ∧ h' = h := by
  obtain ⟨a1, c1, a2, c2, w0⟩ := qOpen hh
  refine Ok.le ?_ after_Queue_int_Commit_le
  simp only [F_after_Queue_int_Commit, qRight w0, Option.bind_some, asB_b, Bool.not_true, cond_f]
  by_cases c0 : o < 1
  · rw [dec_t c0, cond_t]; exact Ok.some ⟨rfl, rfl⟩
  · rw [dec_f c0, cond_f, dec_t (by omega), cond_t]; exact Ok.some ⟨rfl, rfl⟩
/-- Mark -/
theorem mark_ok {o : Int} (hw : w.length < 1000000) (hh : H h (aQu q w d :: F)) : Ok (C k_after_Queue_int_Mark [ptrN q, .int .i64 o] h) fun v h' => v = .int .i64 (cntO o w : Nat) ∧ H h' (aQu q w d :: F) := by
  obtain ⟨a1, c1, a2, c2, w0⟩ := qOpen hh
  refine Ok.le ?_ after_Queue_int_Mark_le
  simp only [F_after_Queue_int_Mark, qRight w0, Option.bind_some, asB_b, Bool.not_true, cond_f]
  refine Ok.le ?_ after_Queue_int_Mark_j5_le
  simp only [Option.bind_some, AH.ldS_of (o := 0 + 1) w0.get rfl]
  have key : ∀ (n k : Nat) (h : AH), w.length - k = n → k ≤ w.length → H h (Qb q a1 w.length c1 a2 d.length c2 :: aOs a1 w.length c1 (w.flatMap encN) :: aOs a2 d.length c2 (d.flatMap encN) :: F) →
      Ok (after_Queue_int_Mark_L1 o (cntO o (w.take k) : Nat) a1 w.length c1 (w.length : Nat) (k : Nat) h) fun v h' => v = .int .i64 (cntO o w : Nat) ∧ H h' (aQu q w d :: F) := by
    intro n
    induction n with
    | zero =>
      intro k h hn hk w1
      refine Ok.le ?_ after_Queue_int_Mark_L1_le
      refine Ok.le ?_ after_Queue_int_Mark_j4_le
      rw [dec_f (by omega), cond_f]
      refine Ok.le ?_ after_Queue_int_Mark_j1_le
      obtain rfl : k = w.length := by omega
      rw [List.take_length]
      exact Ok.some ⟨rfl, qClose w1⟩
    | succ n ih =>
      intro k h hn hk w1
      obtain ⟨x, hx⟩ : ∃ x, w[k]? = some x := ⟨_, List.getElem?_eq_getElem (by omega)⟩
      have hc := cntO_succ (o := o) hx
      have hle : cntO o (w.take k) ≤ k := Nat.le_trans (cntO_le _ _) (by rw [List.length_take]; omega)
      have ho : OwS h 3 a1 w.length c1 (w.flatMap encN) := H.of_up w1.u1
      refine Ok.le ?_ after_Queue_int_Mark_L1_le
      refine Ok.le ?_ after_Queue_int_Mark_j4_le
      rw [dec_t (by omega), cond_t]
      refine Ok.le ?_ after_Queue_int_Mark_j3_le
      have c0' : (w.flatMap encN)[k * 3 + 0]? = some (.int .i64 x.v) := by rw [flat_get_some encN_len (by decide) hx]; rfl
      have c1' : (w.flatMap encN)[k * 3 + 1]? = some (.int .i64 x.o) := by rw [flat_get_some encN_len (by decide) hx]; rfl
      have c2' : (w.flatMap encN)[k * 3 + 2]? = some (.int .i64 x.a) := by rw [flat_get_some encN_len (by decide) hx]; rfl
      obtain ⟨ad, ha, x1, x2, x3⟩ : ∃ ad, a1 = some ad ∧ h.ldI .i64 ad.block (ad.off + k * 3) = some x.v ∧ h.ldI .i64 ad.block (ad.off + k * 3 + 1) = some x.o ∧ h.ldI .i64 ad.block (ad.off + k * 3 + 2) = some x.a := by
        rcases ho.rd with e | ⟨ad, c, op, ro, e, ha, h1, h2, h3⟩
        · rw [e] at c0'; simp at c0'
        · refine ⟨ad, ha, AH.ldI_of h1 (h3 _ _ c0'), AH.ldI_of h1 ?_, AH.ldI_of h1 ?_⟩
          · rw [Nat.add_assoc]; exact h3 _ _ c1'
          · rw [Nat.add_assoc]; exact h3 _ _ c2'
      have hi : inB ((k : Nat) : Int) w.length = true := inB_t (by omega) (by omega)
      obtain ⟨h20, s20, w20, n20⟩ := w1.var [.int .i64 0, .int .i64 0, .int .i64 0] [.int .i64 x.v, .int .i64 x.o, .int .i64 x.a] 3 rfl
      simp only [ha, Option.bind_some, hi, cond_t, Int.toNat_natCast, x1, x2, x3, s20, AH.ldI_of (k := .i64) (o := 0 + 1) w20.get rfl]
      have := ih (k + 1) h20 (by omega) (by omega) w20.drop
      rw [ha] at this
      by_cases c0 : x.o = o
      · rw [dec_t c0, cond_t]
        refine Ok.le ?_ after_Queue_int_Mark_j2_le
        rw [wadd1 (by omega), wadd1 (by omega)]
        rw [if_pos c0] at hc
        rw [hc] at this
        exact this
      · rw [dec_f c0, cond_f]
        refine Ok.le ?_ after_Queue_int_Mark_j2_le
        rw [wadd1 (by omega)]
        rw [if_neg c0, Nat.add_zero] at hc
        rw [hc] at this
        exact this
  exact key w.length 0 h rfl (by omega) w0
end
end Go.Lg.Try
