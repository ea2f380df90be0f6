/- The document's waiters (ref18), over parts of memory. -/
import Derived.Test.YtodbjmagcelfjaaGreatFref18
import Derived.Test.YtodbjmagcelfjaaGreatPref16T
import Derived.Test.YtodbjmagcelfjaaGreatPwait5
import Derived.Test.YtodbjmagcelfjaaGreatPtxInv
set_option linter.unusedVariables false
set_option linter.unusedSimpArgs false
namespace Go.Lg.Tryz
set_option linter.unusedVariables false
set_option linter.unusedSimpArgs false
open Go Go.Proofs
structure RW where
  id : Int
  a : Option Addr
  n : Nat
  c : Nat
  R : List (Int × Int)
def encRW (x : RW) : List Value := [.int .i64 x.id, .slice x.a x.n x.c]
theorem encRW_len (x : RW) : (encRW x).length = 2 := rfl
def okR (x : RW) : Prop := x.n = x.R.length ∧ x.n < 1000000
def rp (x : RW) : Asr := aRd x.a (x.R.flatMap encQ)
abbrev rpr (x : RW) : Int × List (Int × Int) := (x.id, x.R)
/-- the document's waiters, by rising ids -/
def aWR (rw p : Nat) (L : List (Int × List (Int × Int))) : Asr := fun m => ∃ a : Option Addr, ∃ c : Nat, ∃ wl : List RW, (wl.map rpr = L ∧ ∀ x ∈ wl, okR x) ∧
  Lay [Cs rw [.pointer (some ⟨p, 0, none⟩), .slice a wl.length c] 2, aOw 2 a wl.length c (wl.flatMap encRW), Lay (wl.map rp)] m
theorem flat_ne {α : Type} {enc : α → List Value} {sz : Nat} (hs : ∀ a, (enc a).length = sz) (h0 : 0 < sz) {l : List α} {i : Nat} {x : α} (hx : l[i]? = some x) : l.flatMap enc ≠ [] := by
  intro he
  have := congrArg List.length he
  rw [flat_len hs] at this
  have h2 := (List.getElem?_eq_some_iff.mp hx).1
  simp only [List.length_nil] at this
  rcases Nat.mul_eq_zero.mp this with h | h <;> omega
theorem rd_w {h : AH} {a : Option Addr} {wl : List RW} (hr : Rd h a (wl.flatMap encRW)) {i : Nat} {x : RW} (hx : wl[i]? = some x) : ∃ ad, a = some ad ∧ h.ldI .i64 ad.block (ad.off + i * 2) = some x.id ∧ h.ldI .i64 ad.block (ad.off + i * 2 + 0) = some x.id ∧ h.ldS ad.block (ad.off + i * 2 + 1) = some (x.a, x.n, x.c) := by
  obtain ⟨ad, rfl, hrd⟩ := hr.some (flat_ne encRW_len (by decide) hx)
  have c0 := flat_get_some encRW_len (j := 0) (by decide) hx
  have c1 := flat_get_some encRW_len (j := 1) (by decide) hx
  have e0 := (hrd (i * 2 + 0)).1 .i64 x.id c0
  have e1 := (hrd (i * 2 + 1)).2.2.2.2 x.a x.n x.c c1
  exact ⟨ad, rfl, e0, e0, by rw [Nat.add_assoc]; exact e1⟩
theorem rd_q {h : AH} {a : Option Addr} {R : List (Int × Int)} (hr : Rd h a (R.flatMap encQ)) {i : Nat} {x : Int × Int} (hx : R[i]? = some x) : ∃ ad, a = some ad ∧ h.ldI .i64 ad.block (ad.off + i * 2 + 0) = some x.1 ∧ h.ldI .i64 ad.block (ad.off + i * 2 + 1) = some x.2 := by
  obtain ⟨ad, rfl, hrd⟩ := hr.some (flat_ne encQ_len (by decide) hx)
  have c0 := flat_get_some encQ_len (j := 0) (by decide) hx
  have c1 := flat_get_some encQ_len (j := 1) (by decide) hx
  have e0 := (hrd (i * 2 + 0)).1 .i64 x.1 c0
  have e1 := (hrd (i * 2 + 1)).1 .i64 x.2 c1
  exact ⟨ad, rfl, e0, by rw [Nat.add_assoc]; exact e1⟩
section
variable {h h' : AH} {α : Type} {f : α → Asr} {l l' : List α} {F : List Asr}
theorem lay_sub0 (s : l'.Sublist l) : ∀ {F : List Asr}, H h (l.map f ++ F) → H h (l'.map f ++ F) := by
  induction s with
  | slnil => exact fun hh => hh
  | @cons l1 l2 a s ih =>
    intro F hh
    have h1 : H h (f a :: (l2.map f ++ F)) := hh
    exact ih h1.drop
  | @cons_cons l1 l2 a s ih =>
    intro F hh
    have h1 : H h (l2.map f ++ (f a :: F)) := hh.perm List.perm_middle.symm
    exact (ih h1).perm List.perm_middle
theorem lay_sub (s : l'.Sublist l) (hh : H h (Lay (l.map f) :: F)) : H h (Lay (l'.map f) :: F) := H.cls (lay_sub0 s hh.opn_)
theorem lay_perm (s : l.Perm l') (hh : H h (Lay (l.map f) :: F)) : H h (Lay (l'.map f) :: F) := hh.imp fun m hm => Lay.perm (s.map f) hm
end
section
variable {h h' : AH} {rw p q : Nat} {cs : List Cel} {clk : Int} {F : List Asr} {L : List (Int × List (Int × Int))} {wl : List RW}
theorem WR_at (hh : H h (aWR rw p L :: F)) : ∃ (a : Option Addr) (c : Nat) (wl : List RW), wl.map rpr = L ∧ (∀ x ∈ wl, okR x) ∧ H h (Cs rw [.pointer (some ⟨p, 0, none⟩), .slice a wl.length c] 2 :: aOw 2 a wl.length c (wl.flatMap encRW) :: Lay (wl.map rp) :: F) := by
  obtain ⟨a, hh⟩ := hh.ex
  obtain ⟨c, hh⟩ := hh.ex
  obtain ⟨wl, hh⟩ := hh.ex
  obtain ⟨⟨e1, e2⟩, hh⟩ := hh.pu
  exact ⟨a, c, wl, e1, e2, hh.opn_⟩
theorem WR_mk {a : Option Addr} {c : Nat} (e1 : wl.map rpr = L) (e2 : ∀ x ∈ wl, okR x) (hh : H h (Cs rw [.pointer (some ⟨p, 0, none⟩), .slice a wl.length c] 2 :: aOw 2 a wl.length c (wl.flatMap encRW) :: Lay (wl.map rp) :: F)) : H h (aWR rw p L :: F) :=
  (H.cls (L := [Cs rw [.pointer (some ⟨p, 0, none⟩), .slice a wl.length c] 2, aOw 2 a wl.length c (wl.flatMap encRW), Lay (wl.map rp)]) hh).imp fun m hm => ⟨a, c, wl, ⟨e1, e2⟩, hm⟩
/-- can a waiter go on? -/
theorem rgoes_loop {h0 : AH} {x : Nat} {id : Int} {a : Option Addr} {c : Nat} {sl : Value} {R : List (Int × Int)} (hM : MemR h0 p q cs clk) (hw : h0.get rw = some (.cells [.pointer (some ⟨p, 0, none⟩), sl] false false 2)) (hwl : rw < h0.n)
    (hx : h0.get x = some (.cells [.int .i64 id, .slice a R.length c] false false 2)) (hxl : x < h0.n) (hr : Rd h0 a (R.flatMap encQ)) (hl : R.length < 1000000) : ∀ (n k : Nat) (h : AH), R.length - k = n → k ≤ R.length → Fr [] h0 h →
    Ok (ref18_Watch_goes_L1 (some ⟨rw, 0, none⟩) (some ⟨x, 0, none⟩) (k : Nat) h) fun v h' => v = .bool ((R.drop k).any (badC cs)) ∧ Fr [] h0 h' := by
  intro n
  induction n with
  | zero =>
    intro k h hn hk hf
    obtain rfl : k = R.length := by omega
    refine Ok.le ?_ ref18_Watch_goes_L1_le
    have e1 : h.ldS x (0 + 1) = some (a, R.length, c) := AH.ldS_of (by rw [hf.g x hxl (by simp)]; exact hx) rfl
    simp only [Option.bind_some, e1]
    rw [dec_f (by omega), cond_f]
    refine Ok.le ?_ ref18_Watch_goes_j1_le
    rw [List.drop_length]
    exact Ok.some ⟨rfl, hf⟩
  | succ n ih =>
    intro k h hn hk hf
    have hkl : k < R.length := by omega
    obtain ⟨y, hy⟩ : ∃ y, R[k]? = some y := ⟨_, List.getElem?_eq_getElem hkl⟩
    have e1 : ∀ h, Fr [] h0 h → h.ldS x (0 + 1) = some (a, R.length, c) := fun h hf => AH.ldS_of (by rw [hf.g x hxl (by simp)]; exact hx) rfl
    have e2 : ∀ h, Fr [] h0 h → h.ldP rw (0 + 0) = some (some ⟨p, 0, none⟩) := fun h hf => AH.ldP_of (by rw [hf.g rw hwl (by simp)]; exact hw) rfl
    obtain ⟨ad, rfl, _⟩ := rd_q hr hy
    have e3 : ∀ h, Fr [] h0 h → h.ldI .i64 ad.block (ad.off + k * 2 + 0) = some y.1 ∧ h.ldI .i64 ad.block (ad.off + k * 2 + 1) = some y.2 := fun h hf => by
      obtain ⟨ad', e, e'⟩ := rd_q (hr.fr hf (by simp)) hy
      obtain rfl := Option.some.inj e
      exact e'
    refine Ok.le ?_ ref18_Watch_goes_L1_le
    simp only [Option.bind_some, e1 h hf]
    rw [dec_t (by omega), cond_t]
    refine Ok.le ?_ ref18_Watch_goes_j3_le
    have hb : inB ((k : Nat) : Int) R.length = true := inB_t (by omega) (by omega)
    simp only [Option.bind_some, e1 h hf, e2 h hf, hb, cond_t, Int.toNat_natCast, (e3 h hf).1]
    refine Ok.bind (rload_ok (hM.fr hf (by simp) (by simp)) y.1) ?_
    rintro _ h2 ⟨rfl, _, f2⟩
    obtain ⟨h3, s3, g3, f3, n3⟩ := push_st h2 [.int .i64 0, .int .i64 0, .int .i64 0] [.int .i64 (loadM cs y.1).1.v, .int .i64 (loadM cs y.1).1.ver, .int .i64 (loadM cs y.1).1.own] 3 rfl
    have fp : Fr [] h0 (h2.push (.cells [.int .i64 0, .int .i64 0, .int .i64 0] false false 3)) := (hf.trans f2).trans (Fr.push _ _ _)
    have ff : Fr [] h0 h3 := (hf.trans f2).trans f3
    simp only [asTu_t, hdO_c, asAg_t, asI_i64, Option.bind_some, List.isEmpty_nil, cond_t, (e3 _ fp).1, veqO_int, e1 _ fp, veqO_slice, e2 _ fp, veqO_ptr, s3, AH.ldI_of (k := .i64) (o := 0 + 1) g3 rfl, e1 _ ff, hb, Int.toNat_natCast, (e3 _ ff).2]
    have hd : R.drop k = y :: R.drop (k + 1) := by
      rw [List.drop_eq_getElem_cons hkl]
      obtain ⟨_, hy2⟩ := List.getElem?_eq_some_iff.mp hy
      rw [hy2]
    rw [hd, List.any_cons]
    by_cases cc : (loadM cs y.1).1.ver = y.2
    · rw [dec_t cc, Bool.not_true, cond_f]
      have eb : badC cs y = false := by unfold badC; rw [dec_f (not_not_intro cc)]
      rw [eb, Bool.false_or]
      refine Ok.le ?_ ref18_Watch_goes_j2_le
      rw [show IntKind.wrap .i64 (((k : Nat) : Int) + 1) = ((k + 1 : Nat) : Int) by rw [wrap64 (by omega) (by omega)]; omega]
      exact ih (k + 1) h3 (by omega) (by omega) ff
    · rw [dec_f cc, Bool.not_false, cond_t]
      have eb : badC cs y = true := by unfold badC; rw [dec_t cc]
      rw [eb, Bool.true_or]
      exact Ok.some ⟨rfl, ff⟩
theorem rgoes_ok {id : Int} {a : Option Addr} {c : Nat} {sl : Value} {R : List (Int × Int)} (hM : MemR h p q cs clk) (hw : h.get rw = some (.cells [.pointer (some ⟨p, 0, none⟩), sl] false false 2)) (hwl : rw < h.n) (hr : Rd h a (R.flatMap encQ)) (hl : R.length < 1000000) :
    Ok (C k_ref18_Watch_goes [.pointer (some ⟨rw, 0, none⟩), .agg #[.int .i64 id, .slice a R.length c]] h) fun v h' => v = .bool (R.any (badC cs)) ∧ Fr [] h h' := by
  refine Ok.le ?_ ref18_Watch_goes_le
  unfold F_ref18_Watch_goes
  have f1 : Fr [] h (h.push (.cells [.int .i64 id, .slice a R.length c] false false 2)) := Fr.push _ _ _
  refine Ok.mono (rgoes_loop (hM.fr f1 (by simp) (by simp)) (by rw [f1.g rw hwl (by simp)]; exact hw) (Nat.lt_of_lt_of_le hwl f1.n) (AH.get_push_eq _ _) (by rw [AH.n_push]; omega) (hr.fr f1 (by simp)) hl R.length 0 _ rfl (by omega) (.refl _ _)) ?_
  rintro v h' ⟨e, f⟩
  exact ⟨e, f1.trans f⟩
theorem rparked_loop {a : Option Addr} {c : Nat} (hl : wl.length ≤ 1000) : ∀ (n k : Nat) (h : AH) (a3 : Option Addr) (c5 : Nat), wl.length - k = n → k ≤ wl.length →
    H h (aOw 1 a3 k c5 (((wl.take k).map (·.id)).flatMap encI) :: Cs rw [.pointer (some ⟨p, 0, none⟩), .slice a wl.length c] 2 :: aOw 2 a wl.length c (wl.flatMap encRW) :: F) →
    Ok (ref18_Watch_Parked_L1 (some ⟨rw, 0, none⟩) a3 k c5 (k : Nat) h) fun v h' => ∃ a' c', v = .slice a' wl.length c' ∧ H h' (aOw 1 a' wl.length c' ((wl.map (·.id)).flatMap encI) :: Cs rw [.pointer (some ⟨p, 0, none⟩), .slice a wl.length c] 2 :: aOw 2 a wl.length c (wl.flatMap encRW) :: F) := by
  intro n
  induction n with
  | zero =>
    intro k h a3 c5 hn hk w
    obtain rfl : k = wl.length := by omega
    refine Ok.le ?_ ref18_Watch_Parked_L1_le
    have e1 : h.ldS rw (0 + 1) = some (a, wl.length, c) := AH.ldS_of (w.g 1 rfl) rfl
    simp only [Option.bind_some, e1]
    rw [dec_f (by omega), cond_f]
    refine Ok.le ?_ ref18_Watch_Parked_j1_le
    rw [List.take_length] at w
    exact Ok.some ⟨_, _, rfl, w⟩
  | succ n ih =>
    intro k h a3 c5 hn hk w
    have hkl : k < wl.length := by omega
    obtain ⟨y, hy⟩ : ∃ y, wl[k]? = some y := ⟨_, List.getElem?_eq_getElem hkl⟩
    have e1 : h.ldS rw (0 + 1) = some (a, wl.length, c) := AH.ldS_of (w.g 1 rfl) rfl
    obtain ⟨ad, rfl, _, e2, _⟩ := rd_w (w.mv 2 rfl : H h (aOw 2 a _ c _ :: _)).ow.rd hy
    refine Ok.le ?_ ref18_Watch_Parked_L1_le
    simp only [Option.bind_some, e1]
    rw [dec_t (by omega), cond_t]
    refine Ok.le ?_ ref18_Watch_Parked_j3_le
    have hb : inB ((k : Nat) : Int) wl.length = true := inB_t (by omega) (by omega)
    obtain ⟨a', h2, s2, w2, n2⟩ := w.app (by_ := 8) (c' := 1) (xs := [.int .i64 y.id]) rfl (by decide) (by omega) (by omega)
    simp only [Option.bind_some, e1, hb, cond_t, Int.toNat_natCast, e2, s2, asS_s]
    refine Ok.le ?_ ref18_Watch_Parked_j2_le
    rw [show IntKind.wrap .i64 (((k : Nat) : Int) + 1) = ((k + 1 : Nat) : Int) by rw [wrap64 (by omega) (by omega)]; omega]
    refine ih (k + 1) h2 a' opn (by omega) (by omega) ?_
    rw [List.take_add_one, hy, List.map_append, List.flatMap_append]
    exact w2
theorem rparked_ok (hh : H h (aWR rw p L :: F)) (hl : L.length ≤ 1000) : Ok (C k_ref18_Watch_Parked [.pointer (some ⟨rw, 0, none⟩)] h) fun v h' => ∃ a c, v = .slice a L.length c ∧ H h' (aOw 1 a L.length c ((L.map Prod.fst).flatMap encI) :: aWR rw p L :: F) := by
  obtain ⟨a, c, wl, rfl, h2, w⟩ := WR_at hh
  rw [List.length_map] at hl ⊢
  refine Ok.le ?_ ref18_Watch_Parked_le
  unfold F_ref18_Watch_Parked
  refine Ok.mono (rparked_loop hl wl.length 0 h none 0 rfl (by omega) (w.owNil 1)) ?_
  rintro v h' ⟨a', c', rfl, w'⟩
  refine ⟨a', c', rfl, ?_⟩
  have e : (wl.map rpr).map Prod.fst = wl.map (·.id) := by rw [List.map_map]; rfl
  rw [e]
  exact (WR_mk rfl h2 (w'.pm [1, 2, 3, 0])).u1
theorem rforget_loop {a : Option Addr} {c : Nat} {id : Int} (hl : wl.length ≤ 1000) : ∀ (n k : Nat) (h : AH) (a3 : Option Addr) (c5 : Nat), wl.length - k = n → k ≤ wl.length →
    H h (aOw 2 a3 ((wl.take k).filter fun x => !decide (x.id = id)).length c5 (((wl.take k).filter fun x => !decide (x.id = id)).flatMap encRW) :: Cs rw [.pointer (some ⟨p, 0, none⟩), .slice a wl.length c] 2 :: aOw 2 a wl.length c (wl.flatMap encRW) :: F) →
    Ok (ref18_Watch_Forget_L1 (some ⟨rw, 0, none⟩) id a3 ((wl.take k).filter fun x => !decide (x.id = id)).length c5 (k : Nat) h) fun v h' => ∃ a' c', v = .bool (decide (((wl.filter fun x => !decide (x.id = id)).length : Int) < (wl.length : Int))) ∧
      H h' (Cs rw [.pointer (some ⟨p, 0, none⟩), .slice a' (wl.filter fun x => !decide (x.id = id)).length c'] 2 :: aOw 2 a' (wl.filter fun x => !decide (x.id = id)).length c' ((wl.filter fun x => !decide (x.id = id)).flatMap encRW) :: F) := by
  intro n
  induction n with
  | zero =>
    intro k h a3 c5 hn hk w
    obtain rfl : k = wl.length := by omega
    refine Ok.le ?_ ref18_Watch_Forget_L1_le
    have e1 : h.ldS rw (0 + 1) = some (a, wl.length, c) := AH.ldS_of (w.g 1 rfl) rfl
    simp only [Option.bind_some, e1]
    rw [dec_f (by omega), cond_f]
    refine Ok.le ?_ ref18_Watch_Forget_j1_le
    rw [List.take_length] at w ⊢
    obtain ⟨h2, s2, w2, n2⟩ := (w.u1).st (o := 0 + 1) [.slice a3 (wl.filter fun x => !decide (x.id = id)).length c5] (by simp)
    simp only [Option.bind_some, e1, s2]
    exact Ok.some ⟨a3, c5, rfl, w2.rm 2 rfl⟩
  | succ n ih =>
    intro k h a3 c5 hn hk w
    have hkl : k < wl.length := by omega
    obtain ⟨y, hy⟩ : ∃ y, wl[k]? = some y := ⟨_, List.getElem?_eq_getElem hkl⟩
    have e1 : h.ldS rw (0 + 1) = some (a, wl.length, c) := AH.ldS_of (w.g 1 rfl) rfl
    obtain ⟨ad, rfl, e2, e2', e3⟩ := rd_w (w.mv 2 rfl : H h (aOw 2 a _ c _ :: _)).ow.rd hy
    refine Ok.le ?_ ref18_Watch_Forget_L1_le
    simp only [Option.bind_some, e1]
    rw [dec_t (by omega), cond_t]
    refine Ok.le ?_ ref18_Watch_Forget_j3_le
    have hb : inB ((k : Nat) : Int) wl.length = true := inB_t (by omega) (by omega)
    have hkeep : ((wl.take k).filter fun x => !decide (x.id = id)).length ≤ 1000 := by
      have h1 := List.length_filter_le (fun x : RW => !decide (x.id = id)) (wl.take k)
      rw [List.length_take] at h1
      omega
    simp only [Option.bind_some, e1, hb, cond_t, Int.toNat_natCast, e2']
    by_cases cc : y.id = id
    · rw [dec_t cc, Bool.not_true, cond_f]
      refine Ok.le ?_ ref18_Watch_Forget_j2_le
      rw [show IntKind.wrap .i64 (((k : Nat) : Int) + 1) = ((k + 1 : Nat) : Int) by rw [wrap64 (by omega) (by omega)]; omega]
      have hs : ((wl.take (k + 1)).filter fun x => !decide (x.id = id)) = ((wl.take k).filter fun x => !decide (x.id = id)) := by
        rw [List.take_add_one, hy, List.filter_append, Option.toList_some, List.filter_cons_of_neg (by simp [cc])]; simp
      have := ih (k + 1) h a3 c5 (by omega) (by omega) (by rw [hs]; exact w)
      rw [hs] at this
      exact this
    · rw [dec_f cc, Bool.not_false, cond_t]
      obtain ⟨a', h2, s2, w2, n2⟩ := w.app (by_ := 32) (c' := 1) (xs := encRW y) rfl (by decide) (by omega) (by omega)
      have s2' : appE 2 32 (.slice a3 ((wl.take k).filter fun x => !decide (x.id = id)).length c5) (.slice (some ⟨h.n, 0, none⟩) 1 1) (h.push (.cells [.int .i64 y.id, .slice y.a y.n y.c] false false 2)) = _ := s2
      simp only [e2, e3, Option.bind_some, s2', asS_s]
      refine Ok.le ?_ ref18_Watch_Forget_j2_le
      rw [show IntKind.wrap .i64 (((k : Nat) : Int) + 1) = ((k + 1 : Nat) : Int) by rw [wrap64 (by omega) (by omega)]; omega]
      have hs : ((wl.take (k + 1)).filter fun x => !decide (x.id = id)) = ((wl.take k).filter fun x => !decide (x.id = id)) ++ [y] := by
        rw [List.take_add_one, hy, List.filter_append, Option.toList_some, List.filter_cons_of_pos (by simp [cc])]; simp
      have hsl : ((wl.take (k + 1)).filter fun x => !decide (x.id = id)).length = ((wl.take k).filter fun x => !decide (x.id = id)).length + 1 := by rw [hs]; simp
      have := ih (k + 1) h2 a' opn (by omega) (by omega) (by
        rw [hsl, hs, List.flatMap_append]
        simpa using w2)
      rw [hsl] at this
      exact this
theorem rforget_ok (hh : H h (aWR rw p L :: F)) (hl : L.length ≤ 1000) (id : Int) : Ok (C k_ref18_Watch_Forget [.pointer (some ⟨rw, 0, none⟩), .int .i64 id] h) fun v h' => v = .bool (decide (((L.filter fun x => !decide (x.1 = id)).length : Int) < (L.length : Int))) ∧ H h' (aWR rw p (L.filter fun x => !decide (x.1 = id)) :: F) := by
  obtain ⟨a, c, wl, rfl, h2, w⟩ := WR_at hh
  rw [List.length_map] at hl ⊢
  refine Ok.le ?_ ref18_Watch_Forget_le
  unfold F_ref18_Watch_Forget
  refine Ok.mono (rforget_loop (id := id) hl wl.length 0 h none 0 rfl (by omega) (w.owNil 2)) ?_
  rintro v h' ⟨a', c', rfl, w'⟩
  have e : (wl.map rpr).filter (fun x => !decide (x.1 = id)) = (wl.filter fun x => !decide (x.id = id)).map rpr := by
    rw [List.filter_map]; rfl
  rw [e, List.length_map]
  have w1 : H h' (Lay (wl.map rp) :: Cs rw [.pointer (some ⟨p, 0, none⟩), .slice a' (wl.filter fun x => !decide (x.id = id)).length c'] 2 :: aOw 2 a' (wl.filter fun x => !decide (x.id = id)).length c' ((wl.filter fun x => !decide (x.id = id)).flatMap encRW) :: F) := w'.mv 2 rfl
  have w2 := lay_sub (List.filter_sublist (p := fun x : RW => !decide (x.id = id)) (l := wl)) w1
  exact ⟨rfl, WR_mk (a := a') (c := c') rfl (fun x hx => h2 x (List.mem_filter.mp hx).1) w2.d2⟩
theorem rchanged_loop {a : Option Addr} {c : Nat} (hl : wl.length ≤ 1000) (ho : ∀ x ∈ wl, okR x) : ∀ (n k : Nat) (h : AH) (a3 : Option Addr) (c5 : Nat) (a6 : Option Addr) (c8 : Nat), wl.length - k = n → k ≤ wl.length →
    H h (aOw 1 a3 ((wl.take k).filter fun x => x.R.any (badC cs)).length c5 ((((wl.take k).filter fun x => x.R.any (badC cs)).map (·.id)).flatMap encI) :: aOw 2 a6 ((wl.take k).filter fun x => !x.R.any (badC cs)).length c8 (((wl.take k).filter fun x => !x.R.any (badC cs)).flatMap encRW) :: Cs rw [.pointer (some ⟨p, 0, none⟩), .slice a wl.length c] 2 :: aOw 2 a wl.length c (wl.flatMap encRW) :: Lay (wl.map rp) :: aMem p q cs clk :: F) →
    Ok (ref18_Watch_Changed_L1 (some ⟨rw, 0, none⟩) a3 ((wl.take k).filter fun x => x.R.any (badC cs)).length c5 a6 ((wl.take k).filter fun x => !x.R.any (badC cs)).length c8 (k : Nat) h) fun v h' => ∃ a' c' a'' c'', v = .slice a'' (wl.filter fun x => x.R.any (badC cs)).length c'' ∧
      H h' (aOw 1 a'' (wl.filter fun x => x.R.any (badC cs)).length c'' (((wl.filter fun x => x.R.any (badC cs)).map (·.id)).flatMap encI) :: Cs rw [.pointer (some ⟨p, 0, none⟩), .slice a' (wl.filter fun x => !x.R.any (badC cs)).length c'] 2 :: aOw 2 a' (wl.filter fun x => !x.R.any (badC cs)).length c' ((wl.filter fun x => !x.R.any (badC cs)).flatMap encRW) :: Lay (wl.map rp) :: aMem p q cs clk :: F) := by
  intro n
  induction n with
  | zero =>
    intro k h a3 c5 a6 c8 hn hk w
    obtain rfl : k = wl.length := by omega
    refine Ok.le ?_ ref18_Watch_Changed_L1_le
    have e1 : h.ldS rw (0 + 1) = some (a, wl.length, c) := AH.ldS_of (w.g 2 rfl) rfl
    simp only [Option.bind_some, e1]
    rw [dec_f (by omega), cond_f]
    refine Ok.le ?_ ref18_Watch_Changed_j1_le
    rw [List.take_length] at w ⊢
    obtain ⟨h2, s2, w2, n2⟩ := (w.u2).st (o := 0 + 1) [.slice a6 (wl.filter fun x => !x.R.any (badC cs)).length c8] (by simp)
    simp only [Option.bind_some, s2]
    have w3 : H h2 (Cs rw [.pointer (some ⟨p, 0, none⟩), .slice a6 (wl.filter fun x => !x.R.any (badC cs)).length c8] 2 :: aOw 1 a3 (wl.filter fun x => x.R.any (badC cs)).length c5 (((wl.filter fun x => x.R.any (badC cs)).map (·.id)).flatMap encI) :: aOw 2 a6 (wl.filter fun x => !x.R.any (badC cs)).length c8 ((wl.filter fun x => !x.R.any (badC cs)).flatMap encRW) :: Lay (wl.map rp) :: aMem p q cs clk :: F) := w2.rm 3 rfl
    exact Ok.some ⟨a6, c8, a3, c5, rfl, w3.u1⟩
  | succ n ih =>
    intro k h a3 c5 a6 c8 hn hk w
    have hkl : k < wl.length := by omega
    obtain ⟨y, hy⟩ : ∃ y, wl[k]? = some y := ⟨_, List.getElem?_eq_getElem hkl⟩
    have hyo : okR y := ho y (List.mem_of_getElem? hy)
    have e1 : h.ldS rw (0 + 1) = some (a, wl.length, c) := AH.ldS_of (w.g 2 rfl) rfl
    obtain ⟨ad, rfl, e2, e2', e3⟩ := rd_w (w.mv 3 rfl : H h (aOw 2 a _ c _ :: _)).ow.rd hy
    refine Ok.le ?_ ref18_Watch_Changed_L1_le
    simp only [Option.bind_some, e1]
    rw [dec_t (by omega), cond_t]
    refine Ok.le ?_ ref18_Watch_Changed_j3_le
    have hb : inB ((k : Nat) : Int) wl.length = true := inB_t (by omega) (by omega)
    have hk1 : ((wl.take k).filter fun x => x.R.any (badC cs)).length ≤ 1000 := by
      have h1 := List.length_filter_le (fun x : RW => x.R.any (badC cs)) (wl.take k)
      rw [List.length_take] at h1
      omega
    have hk2 : ((wl.take k).filter fun x => !x.R.any (badC cs)).length ≤ 1000 := by
      have h1 := List.length_filter_le (fun x : RW => !x.R.any (badC cs)) (wl.take k)
      rw [List.length_take] at h1
      omega
    have hM : MemR h p q cs clk := mem_at (w.mv 5 rfl)
    have hrd : Rd h y.a (y.R.flatMap encQ) := (H.take_i (f := rp) hy (w.mv 4 rfl)).rd
    have hwl : rw < h.n := (w.mv 2 rfl : H h (Cs rw _ 2 :: _)).lt
    simp only [Option.bind_some, e1, hb, cond_t, Int.toNat_natCast, e2, e3, hyo.1]
    refine Ok.bind (rgoes_ok (id := y.id) (c := y.c) hM (w.g 2 rfl) hwl hrd (by rw [← hyo.1]; exact hyo.2)) ?_
    rintro _ h1 ⟨rfl, f1⟩
    have w1 := w.fr f1
    have e1 : h1.ldS rw (0 + 1) = some (some ad, wl.length, c) := AH.ldS_of (w1.g 2 rfl) rfl
    obtain ⟨ad', e4, e2, e2', e3⟩ := rd_w (w1.mv 3 rfl : H h1 (aOw 2 (some ad) _ c _ :: _)).ow.rd hy
    obtain rfl := Option.some.inj e4
    simp only [asB_b, Option.bind_some, e1, hb, cond_t, Int.toNat_natCast, e2, e2', e3]
    have ew : IntKind.wrap .i64 (((k : Nat) : Int) + 1) = ((k + 1 : Nat) : Int) := by rw [wrap64 (by omega) (by omega)]; omega
    cases hc : y.R.any (badC cs) with
    | true =>
      rw [cond_t]
      obtain ⟨a', h2, s2, w2, n2⟩ := w1.app (by_ := 8) (c' := 1) (xs := [.int .i64 y.id]) rfl (by decide) (by omega) (by omega)
      simp only [s2, asS_s, Option.bind_some]
      refine Ok.le ?_ ref18_Watch_Changed_j2_le
      rw [ew]
      have hs : ((wl.take (k + 1)).filter fun x => x.R.any (badC cs)) = ((wl.take k).filter fun x => x.R.any (badC cs)) ++ [y] := by
        rw [List.take_add_one, hy, List.filter_append, Option.toList_some, List.filter_cons_of_pos (by simp only [hc])]; simp
      have hs2 : ((wl.take (k + 1)).filter fun x => !x.R.any (badC cs)) = ((wl.take k).filter fun x => !x.R.any (badC cs)) := by
        rw [List.take_add_one, hy, List.filter_append, Option.toList_some, List.filter_cons_of_neg (by simp [hc])]; simp
      have hsl : ((wl.take (k + 1)).filter fun x => x.R.any (badC cs)).length = ((wl.take k).filter fun x => x.R.any (badC cs)).length + 1 := by rw [hs]; simp
      have := ih (k + 1) h2 a' opn a6 c8 (by omega) (by omega) (by
        rw [hsl, hs, hs2, List.map_append, List.flatMap_append]
        exact w2)
      rw [hsl, hs2] at this
      exact this
    | false =>
      rw [cond_f]
      obtain ⟨a', h2, s2, w2, n2⟩ := (w1.u1).app (by_ := 32) (c' := 1) (xs := encRW y) rfl (by decide) (by omega) (by omega)
      have s2' : appE 2 32 (.slice a6 ((wl.take k).filter fun x => !x.R.any (badC cs)).length c8) (.slice (some ⟨h1.n, 0, none⟩) 1 1) (h1.push (.cells [.int .i64 y.id, .slice y.a y.n y.c] false false 2)) = _ := s2
      simp only [s2', asS_s, Option.bind_some]
      refine Ok.le ?_ ref18_Watch_Changed_j2_le
      rw [ew]
      have hs2 : ((wl.take (k + 1)).filter fun x => !x.R.any (badC cs)) = ((wl.take k).filter fun x => !x.R.any (badC cs)) ++ [y] := by
        rw [List.take_add_one, hy, List.filter_append, Option.toList_some, List.filter_cons_of_pos (by simp [hc])]; simp
      have hs : ((wl.take (k + 1)).filter fun x => x.R.any (badC cs)) = ((wl.take k).filter fun x => x.R.any (badC cs)) := by
        rw [List.take_add_one, hy, List.filter_append, Option.toList_some, List.filter_cons_of_neg (by simp [hc])]; simp
      have hsl : ((wl.take (k + 1)).filter fun x => !x.R.any (badC cs)).length = ((wl.take k).filter fun x => !x.R.any (badC cs)).length + 1 := by rw [hs2]; simp
      have := ih (k + 1) h2 a3 c5 a' opn (by omega) (by omega) (by
        rw [hsl, hs2, hs, List.flatMap_append]
        have w3 := w2.u1
        simpa using w3)
      rw [hsl, hs] at this
      exact this
theorem rchanged_ok (hh : H h (aWR rw p L :: aMem p q cs clk :: F)) (hl : L.length ≤ 1000) : Ok (C k_ref18_Watch_Changed [.pointer (some ⟨rw, 0, none⟩)] h) fun v h' => ∃ a c, v = .slice a (L.filter fun x => x.2.any (badC cs)).length c ∧
    H h' (aOw 1 a (L.filter fun x => x.2.any (badC cs)).length c (((L.filter fun x => x.2.any (badC cs)).map Prod.fst).flatMap encI) :: aWR rw p (L.filter fun x => !x.2.any (badC cs)) :: aMem p q cs clk :: F) := by
  obtain ⟨a, c, wl, rfl, h2, w⟩ := WR_at hh
  rw [List.length_map] at hl
  refine Ok.le ?_ ref18_Watch_Changed_le
  unfold F_ref18_Watch_Changed
  refine Ok.mono (rchanged_loop (cs := cs) (clk := clk) (q := q) hl h2 wl.length 0 h none 0 none 0 rfl (by omega) ((w.owNil 2).owNil 1)) ?_
  rintro v h' ⟨a', c', a'', c'', rfl, w'⟩
  have e : (wl.map rpr).filter (fun x => x.2.any (badC cs)) = (wl.filter fun x => x.R.any (badC cs)).map rpr := by
    rw [List.filter_map]; rfl
  have e' : (wl.map rpr).filter (fun x => !x.2.any (badC cs)) = (wl.filter fun x => !x.R.any (badC cs)).map rpr := by
    rw [List.filter_map]; rfl
  rw [e, e', List.length_map, List.map_map]
  refine ⟨a'', c'', rfl, ?_⟩
  have w1 := w'.u3
  have w2 := lay_sub (List.filter_sublist (p := fun x : RW => !x.R.any (badC cs)) (l := wl)) w1
  have w3 := WR_mk (rw := rw) (p := p) (a := a') (c := c') (wl := wl.filter fun x => !x.R.any (badC cs)) rfl (fun x hx => h2 x (List.mem_filter.mp hx).1) (w2.pm [2, 3, 0, 1])
  exact w3.u1
end
end Go.Lg.Tryz

namespace Go.Lg.Tryz
set_option linter.unusedVariables false
set_option linter.unusedSimpArgs false
open Go Go.Proofs
theorem ow_st {α : Type} {enc : α → List Value} {sz : Nat} (hs : ∀ a, (enc a).length = sz) {h : AH} {F : List Asr} {ad : Addr} {n c : Nat} {l : List α} (hh : H h (aOw sz (some ad) n c (l.flatMap enc) :: F)) {i : Nat} {x : α} (x' : α) (hi : l[i]? = some x) :
    ∃ h', h.st ad.block (ad.off + i * sz) (enc x') = some h' ∧ H h' (aOw sz (some ad) n c ((l.set i x').flatMap enc) :: F) := by
  have ho := hh.ow
  have hset := flat_set hs hi (j := 0) (vs := enc x') (a' := x') (by rw [hs]; omega) (setL_all (by rw [hs, hs]))
  have hil : i < l.length := (List.getElem?_eq_some_iff.mp hi).1
  have hb2 : i * sz + sz ≤ l.length * sz := by
    have := Nat.mul_le_mul_right sz (Nat.succ_le_of_lt hil)
    rw [Nat.succ_mul] at this; exact this
  have hfl := flat_len hs l
  have hfl2 := flat_len hs (l.set i x')
  rw [List.length_set] at hfl2
  generalize l.flatMap enc = cells at ho hset hfl hh
  generalize (l.set i x').flatMap enc = cells' at hset hfl2 ⊢
  cases ho with
  | @mk b _ _ hb hl hn =>
    obtain ⟨h2, s2, w2, _⟩ := (up_ptI hh hb).st (o := 0 + i * sz) (enc x') (by rw [hs]; omega)
    refine ⟨h2, s2, ?_⟩
    rw [Nat.zero_add] at w2
    rw [Nat.add_zero] at hset
    rw [hset] at w2
    exact pt_upI w2 fun h' g l => .mk g (by omega) l
section
variable {h h' : AH} {rw p q t : Nat} {m : TM} {cs : List Cel} {clk : Int} {F : List Asr} {L : List (Int × List (Int × Int))} {wl : List RW}
/-- the new one goes to its place -/
theorem rswap_loop {x : RW} {a : Option Addr} {N c : Nat} (hN : N ≤ 1000) : ∀ (n : Nat) (pre suf : List RW) (h : AH), pre.length = n → pre.length + 1 + suf.length = N →
    H h (aOw 2 a N c ((pre ++ x :: suf).flatMap encRW) :: Cs rw [.pointer (some ⟨p, 0, none⟩), .slice a N c] 2 :: F) → (∀ y ∈ suf, x.id < y.id) →
    Ok (ref18_Watch_Park_L1 (some ⟨rw, 0, none⟩) (n : Nat) h) fun v h' => v = .int .i64 0 ∧ ∃ pre' suf', pre ++ suf = pre' ++ suf' ∧ (∀ y ∈ suf', x.id < y.id) ∧ (∀ y, pre'.getLast? = some y → ¬x.id < y.id) ∧
      H h' (aOw 2 a N c ((pre' ++ x :: suf').flatMap encRW) :: Cs rw [.pointer (some ⟨p, 0, none⟩), .slice a N c] 2 :: F) := by
  intro n
  induction n with
  | zero =>
    intro pre suf h hp hn w hs
    obtain rfl := List.eq_nil_of_length_eq_zero hp
    refine Ok.le ?_ ref18_Watch_Park_L1_le
    rw [dec_f (by omega), cond_f]
    refine Ok.le ?_ ref18_Watch_Park_j1_le
    exact Ok.some ⟨rfl, [], suf, rfl, hs, fun y hy => by simp at hy, w⟩
  | succ n ih =>
    intro pre suf h hp hn w hs
    obtain ⟨pre0, y, rfl⟩ : ∃ pre0 y, pre = pre0 ++ [y] := by
      rcases List.eq_nil_or_concat pre with rfl | ⟨l, y, e⟩
      · simp at hp
      · exact ⟨l, y, by rw [e, List.concat_eq_append]⟩
    have hp0 : pre0.length = n := by simpa using hp
    have hwl : ((pre0 ++ [y]) ++ x :: suf) = pre0 ++ y :: x :: suf := by simp
    rw [hwl] at w
    have g1 : (pre0 ++ y :: x :: suf)[n]? = some y := by rw [List.getElem?_append_right (by omega), hp0, Nat.sub_self]; rfl
    have g2 : (pre0 ++ y :: x :: suf)[n + 1]? = some x := by rw [List.getElem?_append_right (by omega), hp0, show n + 1 - n = 1 by omega]; rfl
    have hn' : n + 1 < N := by simp at hn; omega
    obtain ⟨ad, rfl, x2, x2', x3⟩ := rd_w w.ow.rd g2
    obtain ⟨ad', e', y2, y2', y3⟩ := rd_w w.ow.rd g1
    obtain rfl := Option.some.inj e'
    have es : ∀ {h : AH} {A : Asr}, H h (A :: Cs rw [.pointer (some ⟨p, 0, none⟩), .slice (some ad) N c] 2 :: F) → h.ldS rw (0 + 1) = some (some ad, N, c) := fun w => AH.ldS_of (w.g 1 rfl) rfl
    have eSw : IntKind.wrap .i64 (((n + 1 : Nat) : Int) - 1) = ((n : Nat) : Int) := by rw [wrap64 (by omega) (by omega)]; omega
    have b1 : inB ((n + 1 : Nat) : Int) N = true := inB_t (by omega) (by omega)
    have b2 : inB ((n : Nat) : Int) N = true := inB_t (by omega) (by omega)
    refine Ok.le ?_ ref18_Watch_Park_L1_le
    rw [dec_t (by omega), cond_t]
    simp only [Option.bind_some, es w, b1, b2, cond_t, Int.toNat_natCast, eSw, x2', y2']
    by_cases cc : x.id < y.id
    · rw [dec_t cc, cond_t]
      refine Ok.le ?_ ref18_Watch_Park_j3_le
      obtain ⟨h2, s2, w2⟩ := ow_st encRW_len w y g2
      have s2' : h.st ad.block (ad.off + (n + 1) * 2) [.int .i64 y.id, .slice y.a y.n y.c] = some h2 := s2
      have hset : (pre0 ++ y :: x :: suf).set (n + 1) y = pre0 ++ y :: y :: suf := by
        rw [List.set_append_right _ _ (by omega), hp0, show n + 1 - n = 1 by omega]; rfl
      rw [hset] at w2
      have g3 : (pre0 ++ y :: y :: suf)[n]? = some y := by rw [List.getElem?_append_right (by omega), hp0, Nat.sub_self]; rfl
      obtain ⟨h3, s3, w3⟩ := ow_st encRW_len w2 x g3
      have s3' : h2.st ad.block (ad.off + n * 2) [.int .i64 x.id, .slice x.a x.n x.c] = some h3 := s3
      have hset2 : (pre0 ++ y :: y :: suf).set n x = pre0 ++ x :: y :: suf := by
        rw [List.set_append_right _ _ (by omega), hp0, Nat.sub_self]; rfl
      rw [hset2] at w3
      simp only [Option.bind_some, es w, b1, b2, cond_t, Int.toNat_natCast, eSw, x2, y2, x3, y3, s2', s3']
      refine Ok.le ?_ ref18_Watch_Park_j2_le
      rw [eSw]
      refine Ok.mono (ih pre0 (y :: suf) h3 hp0 (by simp at hn ⊢; omega) w3 (fun z hz => by
        rcases List.mem_cons.mp hz with rfl | hz
        · exact cc
        · exact hs z hz)) ?_
      rintro v h4 ⟨rfl, pre', suf', e1, e2, e3, w4⟩
      exact ⟨rfl, pre', suf', by rw [← e1]; simp, e2, e3, w4⟩
    · rw [dec_f cc, cond_f]
      refine Ok.le ?_ ref18_Watch_Park_j1_le
      rw [← hwl] at w
      refine Ok.some ⟨rfl, pre0 ++ [y], suf, rfl, hs, fun z hz => ?_, w⟩
      rw [List.getLast?_concat] at hz
      obtain rfl := Option.some.inj hz
      exact cc
def rcode (L : List (Int × List (Int × Int))) (id : Int) : Int := if id < 1 then 2 else if id ∈ L.map Prod.fst then 130 else if L.length = 64 then 5 else 0
def Ins (L : List (Int × List (Int × Int))) (id : Int) (R : List (Int × Int)) (L' : List (Int × List (Int × Int))) : Prop :=
  ∃ pre suf, L = pre ++ suf ∧ L' = pre ++ (id, R) :: suf ∧ (∀ y ∈ suf, id < y.1) ∧ ∀ y, pre.getLast? = some y → ¬id < y.1
theorem rfind {Q : Value → AH → Prop} {a : Option Addr} {c : Nat} {r : Option Addr} {id : Int} (hl : wl.length ≤ 1000) (w : H h (Cs rw [.pointer (some ⟨p, 0, none⟩), .slice a wl.length c] 2 :: aOw 2 a wl.length c (wl.flatMap encRW) :: F))
    (E : id ∈ wl.map (·.id) → Q (.int .i64 130) h) (K : id ∉ wl.map (·.id) → Ok (ref18_Watch_Park_j5 (some ⟨rw, 0, none⟩) h r id) Q) :
    ∀ (n k : Nat), wl.length - k = n → k ≤ wl.length → id ∉ (wl.take k).map (·.id) → Ok (ref18_Watch_Park_L2 (some ⟨rw, 0, none⟩) id r (k : Nat) h) Q := by
  have e1 : h.ldS rw (0 + 1) = some (a, wl.length, c) := AH.ldS_of (w.g 0 rfl) rfl
  intro n
  induction n with
  | zero =>
    intro k hn hk hno
    obtain rfl : k = wl.length := by omega
    rw [List.take_length] at hno
    refine Ok.le ?_ ref18_Watch_Park_L2_le
    simp only [Option.bind_some, e1]
    rw [dec_f (by omega), cond_f]
    exact K hno
  | succ n ih =>
    intro k hn hk hno
    have hkl : k < wl.length := by omega
    obtain ⟨y, hy⟩ : ∃ y, wl[k]? = some y := ⟨_, List.getElem?_eq_getElem hkl⟩
    obtain ⟨ad, rfl, e2, e2', e3⟩ := rd_w (w.mv 1 rfl : H h (aOw 2 a _ c _ :: _)).ow.rd hy
    refine Ok.le ?_ ref18_Watch_Park_L2_le
    simp only [Option.bind_some, e1]
    rw [dec_t (by omega), cond_t]
    refine Ok.le ?_ ref18_Watch_Park_j7_le
    have hb : inB ((k : Nat) : Int) wl.length = true := inB_t (by omega) (by omega)
    simp only [Option.bind_some, e1, hb, cond_t, Int.toNat_natCast, e2']
    by_cases cc : y.id = id
    · rw [dec_t cc, cond_t]
      exact Ok.some (E (by rw [← cc]; exact List.mem_map_of_mem (List.mem_of_getElem? hy)))
    · rw [dec_f cc, cond_f]
      refine Ok.le ?_ ref18_Watch_Park_j6_le
      rw [show IntKind.wrap .i64 (((k : Nat) : Int) + 1) = ((k + 1 : Nat) : Int) by rw [wrap64 (by omega) (by omega)]; omega]
      refine ih (k + 1) (by omega) (by omega) ?_
      rw [List.take_add_one, hy, List.map_append, List.mem_append]
      rintro (h1 | h1)
      · exact hno h1
      · simp at h1; exact cc h1.symm
theorem rpark_ok (hh : H h (aWR rw p L :: aRX q t m :: F)) (hl : L.length ≤ 64) (hrl : m.σ.reads.length < 1000000) (id : Int) :
    Ok (C k_ref18_Watch_Park [.pointer (some ⟨rw, 0, none⟩), .int .i64 id, .pointer (some ⟨t, 0, none⟩)] h) fun v h' => v = .int .i64 (rcode L id) ∧ ∃ L', (rcode L id ≠ 0 → L' = L) ∧ (rcode L id = 0 → Ins L id m.σ.reads L') ∧ H h' (aWR rw p L' :: aRX q t m :: F) := by
  refine Ok.le ?_ ref18_Watch_Park_le
  unfold F_ref18_Watch_Park
  by_cases c1 : id < 1
  · rw [dec_t c1, cond_t]
    have e : rcode L id = 2 := if_pos c1
    rw [e]
    exact Ok.some ⟨rfl, L, fun _ => rfl, fun h => absurd h (by decide), hh⟩
  rw [dec_f c1, cond_f]
  refine Ok.le ?_ ref18_Watch_Park_j8_le
  obtain ⟨a, c, wl, rfl, h2, w⟩ := WR_at hh
  have hwl : wl.length ≤ 64 := by rw [List.length_map] at hl; exact hl
  have eids : (wl.map rpr).map Prod.fst = wl.map (·.id) := by rw [List.map_map]; rfl
  refine rfind (by omega) w ?_ ?_ wl.length 0 rfl (by omega) (by simp)
  · intro hin
    have e : rcode (wl.map rpr) id = 130 := by unfold rcode; rw [if_neg c1, eids, if_pos hin]
    rw [e]
    exact ⟨rfl, _, fun _ => rfl, fun h => absurd h (by decide), hh⟩
  · intro hno
    refine Ok.le ?_ ref18_Watch_Park_j5_le
    have e1 : h.ldS rw (0 + 1) = some (a, wl.length, c) := AH.ldS_of (w.g 0 rfl) rfl
    simp only [Option.bind_some, e1]
    by_cases c2 : wl.length = 64
    · rw [dec_t (by omega), cond_t]
      have e : rcode (wl.map rpr) id = 5 := by unfold rcode; rw [if_neg c1, eids, if_neg hno, List.length_map, if_pos c2]
      rw [e]
      exact Ok.some ⟨rfl, _, fun _ => rfl, fun h => absurd h (by decide), hh⟩
    rw [dec_f (by omega), cond_f]
    have e : rcode (wl.map rpr) id = 0 := by unfold rcode; rw [if_neg c1, eids, if_neg hno, List.length_map, if_neg c2]
    rw [e]
    refine Ok.le ?_ ref18_Watch_Park_j4_le
    obtain ⟨ra, rv, sn, rc, wx⟩ := RX_at (w.mv 3 rfl)
    obtain ⟨A, wx⟩ := wx.ex
    have qr : RR (UU q m.owner m.beg m.st ra rv) h t A m.σ.reads m.σ.writes sn := wx.of_up
    have f1 : Fr [] h (h.push (.cells [] false false 2)) := Fr.push _ _ _
    have qr1 := qr.fr f1
    have hal := qr.rl
    have e2 : h.ldS t (0 + 3 + 0) = some (A.ra, A.rn, A.rc) := AH.ldS_of qr.g rfl
    have e2' : (h.push (.cells [] false false 2)).ldS t (0 + 3 + 0) = some (A.ra, A.rn, A.rc) := AH.ldS_of qr1.g rfl
    have e1' : (h.push (.cells [] false false 2)).ldS rw (0 + 1) = some (a, wl.length, c) := AH.ldS_of ((w.push (.cells [] false false 2)).g 1 rfl) rfl
    obtain ⟨a', c', h3, s3, o3, n3, g3, b3⟩ := snap_of (by_ := 16) (AH.get_push_eq h (.cells [] false false 2)) (by rw [AH.n_push]; omega) (OwE.s qr1.R).row (OwE.s qr1.R).len (by decide) (by omega) (by omega)
    have n3' : h.n ≤ h3.n := Nat.le_trans (by rw [AH.n_push]; omega) n3
    have hR : Rd h3 a' (m.σ.reads.flatMap encQ) := o3.rd
    have w3 : H h3 (aRd a' (m.σ.reads.flatMap encQ) :: Cs rw [.pointer (some ⟨p, 0, none⟩), .slice a wl.length c] 2 :: aOw 2 a wl.length c (wl.flatMap encRW) :: Lay (wl.map rp) :: aRX q t m :: F) :=
      w.fresh n3' (fun b hb => by rw [g3 b (by rw [AH.n_push]; omega), AH.get_push_ne _ (by omega)]) (fun b hb => by
        rcases b3 b hb.2 with h1 | h1
        · omega
        · rw [AH.n_push] at h1; omega) (Rd.live hR) fun h'' hg => Rd.same2 hR hg
    have e4 : h3.ldS rw (0 + 1) = some (a, wl.length, c) := AH.ldS_of (w3.g 1 rfl) rfl
    let x : RW := ⟨id, a', A.rn, c', m.σ.reads⟩
    have w3' : H h3 (aOw 2 a wl.length c (wl.flatMap encRW) :: aRd a' (m.σ.reads.flatMap encQ) :: Cs rw [.pointer (some ⟨p, 0, none⟩), .slice a wl.length c] 2 :: Lay (wl.map rp) :: aRX q t m :: F) := w3.u2
    obtain ⟨a2, h5, s5, w5, n5⟩ := w3'.app (by_ := 32) (c' := 1) (xs := encRW x) rfl (by decide) (by omega) (by omega)
    have s5' : appE 2 32 (.slice a wl.length c) (.slice (some ⟨h3.n, 0, none⟩) 1 1) (h3.push (.cells [.int .i64 id, .slice a' A.rn c'] false false 2)) = _ := s5
    have e5 : (h3.push (.cells [.int .i64 id, .slice a' A.rn c'] false false 2)).ldS rw (0 + 1) = some (a, wl.length, c) := AH.ldS_of ((w3.push (.cells [.int .i64 id, .slice a' A.rn c'] false false 2)).g 2 rfl) rfl
    obtain ⟨h6, s6, w6, n6⟩ := (w5.u2).st (o := 0 + 1) [.slice a2 (wl.length + 1) opn] (by simp)
    have e6 : h6.ldS rw (0 + 1) = some (a2, wl.length + 1, opn) := AH.ldS_of (w6.g 0 rfl) rfl
    simp only [Option.bind_some, e1, e1', veqO_slice, cond_t, e2, e2', s3, asS_s, e4, e5, s5', s6, e6]
    rw [show IntKind.wrap .i64 (((wl.length + 1 : Nat) : Int) - 1) = ((wl.length : Nat) : Int) by rw [wrap64 (by omega) (by omega)]; omega]
    have w7 : H h6 (aOw 2 a2 (wl.length + 1) opn ((wl ++ x :: []).flatMap encRW) :: Cs rw [.pointer (some ⟨p, 0, none⟩), .slice a2 (wl.length + 1) opn] 2 :: aRd a' (m.σ.reads.flatMap encQ) :: Lay (wl.map rp) :: aRX q t m :: F) := by
      rw [List.flatMap_append]
      have w6' : H h6 (aOw 2 a2 (wl.length + 1) opn (wl.flatMap encRW ++ encRW x) :: Cs rw [.pointer (some ⟨p, 0, none⟩), .slice a2 (wl.length + 1) opn] 2 :: aRd a' (m.σ.reads.flatMap encQ) :: Lay (wl.map rp) :: aRX q t m :: F) := w6.u1
      have e : [x].flatMap encRW = encRW x := by simp
      rw [e]
      exact w6'
    refine Ok.mono (rswap_loop (x := x) (by omega) wl.length wl [] h6 rfl (by simp) w7 (by simp)) ?_
    rintro v h8 ⟨rfl, pre, suf, d1, d2, d3, w8⟩
    rw [List.append_nil] at d1
    refine ⟨rfl, (pre ++ x :: suf).map rpr, fun h => absurd rfl h, fun _ => ⟨pre.map rpr, suf.map rpr, by rw [d1, List.map_append], by rw [List.map_append]; rfl, ?_, ?_⟩, ?_⟩
    · intro y hy
      obtain ⟨z, hz, rfl⟩ := List.mem_map.mp hy
      exact d2 z hz
    · intro y hy
      rw [List.getLast?_map] at hy
      obtain ⟨z, hz, rfl⟩ := Option.map_eq_some_iff.mp hy
      exact d3 z hz
    · have hlen : (pre ++ x :: suf).length = wl.length + 1 := by rw [d1]; simp; omega
      have w9 : H h8 (rp x :: Lay (wl.map rp) :: Cs rw [.pointer (some ⟨p, 0, none⟩), .slice a2 (wl.length + 1) opn] 2 :: aOw 2 a2 (wl.length + 1) opn ((pre ++ x :: suf).flatMap encRW) :: aRX q t m :: F) := w8.pm [2, 3, 1, 0]
      have w10 := H.snoc_i (f := rp) (x := x) w9
      have hp : (wl ++ [x]).Perm (pre ++ x :: suf) := by
        rw [d1]
        exact (List.perm_append_comm (l₁ := pre ++ suf) (l₂ := [x])).trans (show (x :: (pre ++ suf)).Perm (pre ++ x :: suf) from List.perm_middle.symm)
      have w11 := lay_perm hp w10
      refine WR_mk (a := a2) (c := opn) (wl := pre ++ x :: suf) rfl (fun y hy => ?_) ?_
      · rcases List.mem_append.mp (hp.symm.subset hy) with h | h
        · exact h2 y h
        · obtain rfl : y = x := by simpa using h
          exact ⟨hal, by show A.rn < 1000000; omega⟩
      · rw [hlen]
        exact w11.d2
end
end Go.Lg.Tryz

namespace Go.Lg.Tryz
set_option linter.unusedVariables false
set_option linter.unusedSimpArgs false
open Go Go.Proofs
abbrev WL0 := List (Int × List (Int × Int))
theorem find_some : ∀ {W : WL0} {id : Int} {l : List (Int × Int)}, find id W = some l → (id, l) ∈ W
  | [], _, _, h => by simp [find] at h
  | x :: W, id, l, h => by
    unfold find at h
    split at h
    · rename_i e
      obtain rfl := Option.some.inj h
      subst e
      exact List.mem_cons_self ..
    · exact List.mem_cons_of_mem _ (find_some h)
theorem find_iff : ∀ {W : WL0} {id : Int}, (find id W).isSome = true ↔ id ∈ W.map Prod.fst
  | [], id => by simp [find]
  | x :: W, id => by
    unfold find
    rw [List.map_cons, List.mem_cons]
    split
    · rename_i e; simp [e]
    · rename_i e
      rw [find_iff]
      constructor
      · exact .inr
      · rintro (h | h)
        · exact absurd h.symm e
        · exact h
theorem delW_eq (id : Int) : ∀ {W : WL0}, (W.map Prod.fst).Nodup → delW id W = W.filter fun x => !decide (x.1 = id)
  | [], _ => rfl
  | x :: W, h => by
    rw [List.map_cons, List.nodup_cons] at h
    unfold delW
    split
    · rename_i e
      rw [List.filter_cons_of_neg (by simp [e])]
      symm
      rw [List.filter_eq_self]
      intro y hy
      have : y.1 ≠ id := fun e2 => h.1 (by rw [e, ← e2]; exact List.mem_map_of_mem hy)
      simp [this]
    · rename_i e
      rw [List.filter_cons_of_pos (by simp [e]), delW_eq id h.2]
theorem nodup_filter {W : WL0} (h : (W.map Prod.fst).Nodup) (P : Int × List (Int × Int) → Bool) : ((W.filter P).map Prod.fst).Nodup := h.sublist (List.filter_sublist.map _)
theorem delAll_eq : ∀ (C : List Int) {W : WL0}, (W.map Prod.fst).Nodup → delAll C W = W.filter fun x => !C.contains x.1
  | [], W, h => by
    symm
    show W.filter _ = W
    rw [List.filter_eq_self]; simp
  | c :: C, W, h => by
    show delAll C (delW c W) = _
    rw [delW_eq c h, delAll_eq C (nodup_filter h _), List.filter_filter]
    apply List.filter_congr
    intro x _
    by_cases e : x.1 = c
    · simp [e]
    · simp [e]
theorem mem_look {l : List (Int × Int)} (h : Nk l) (z : Int × Int) : z ∈ l ↔ alook l z.1 = some z.2 := by
  induction l with
  | nil => simp [alook]
  | cons p l ih =>
    unfold Nk at h
    rw [List.map_cons, List.nodup_cons] at h
    unfold alook
    rw [List.mem_cons]
    split
    · rename_i e
      constructor
      · rintro (h1 | h1)
        · rw [h1]
        · exact absurd (by rw [e]; exact List.mem_map_of_mem h1) h.1
      · intro h1
        left
        exact (Prod.ext e (Option.some.inj h1)).symm
    · rename_i e
      constructor
      · rintro (h1 | h1)
        · exact absurd (by rw [h1]) e
        · exact (ih h.2).mp h1
      · exact fun h1 => .inr ((ih h.2).mpr h1)
theorem mem_cells {m : TM} (h : Nk m.σ.reads) (z : Int × Int) : z ∈ cellsOf m ↔ z ∈ m.σ.reads := by
  have key : ∀ (K : List Int) (acc : List (Int × Int)), K.Nodup → (∀ i ∈ K, i ∉ acc.map Prod.fst) → (z ∈ K.foldl (fun c i => aputL c i (aval (alook m.σ.reads i))) acc ↔ z ∈ acc ∨ (z.1 ∈ K ∧ z.2 = aval (alook m.σ.reads z.1))) := by
    intro K
    induction K with
    | nil => intro acc _ _; simp
    | cons k K ih =>
      intro acc hn hd
      rw [List.nodup_cons] at hn
      have hk : alook acc k = none := alook_none (hd k (by simp))
      rw [List.foldl_cons, put_new hk, ih _ hn.2 (fun i hi => by
        rw [List.map_append, List.mem_append]
        rintro (h1 | h1)
        · exact hd i (List.mem_cons_of_mem _ hi) h1
        · obtain rfl : i = k := by simpa using h1
          exact hn.1 hi), List.mem_append, List.mem_singleton, show (z.1 ∈ k :: K) = (z.1 = k ∨ z.1 ∈ K) from propext List.mem_cons]
      constructor
      · rintro ((h1 | h1) | h1)
        · exact .inl h1
        · rw [h1]; exact .inr ⟨.inl rfl, rfl⟩
        · exact .inr ⟨.inr h1.1, h1.2⟩
      · rintro (h1 | ⟨h1 | h1, h2⟩)
        · exact .inl (.inl h1)
        · exact .inl (.inr (Prod.ext h1 (by rw [h2, h1])))
        · exact .inr ⟨h1, h2⟩
  have hnd : (sortI (m.σ.reads.map Prod.fst)).Nodup := (List.mergeSort_perm _ _).nodup_iff.mpr h
  unfold cellsOf
  rw [key _ [] hnd (by simp), sortI_mem, mem_look h]
  constructor
  · rintro (h1 | ⟨h1, h2⟩)
    · simp at h1
    · obtain ⟨v, hv⟩ := alook_mem.mpr h1
      rw [h2, hv]; rfl
  · intro h1
    exact .inr ⟨alook_mem.mp ⟨_, h1⟩, by rw [h1]; rfl⟩
/-- the two lists of waiters -/
structure Rl (W L : WL0) : Prop where
  nd : (W.map Prod.fst).Nodup
  so : L.Pairwise fun a b => a.1 < b.1
  mem : ∀ id, id ∈ W.map Prod.fst ↔ id ∈ L.map Prod.fst
  eq : ∀ x ∈ W, ∀ y ∈ L, x.1 = y.1 → ∀ z, z ∈ x.2 ↔ z ∈ y.2
namespace Rl
variable {W L L' : WL0} {cs : List Cel}
theorem new : Rl [] [] := ⟨by simp, .nil, fun _ => Iff.rfl, fun x hx => by simp at hx⟩
theorem so1 (r : Rl W L) : (L.map Prod.fst).Pairwise (· < ·) := List.pairwise_map.mpr r.so
theorem ndL (r : Rl W L) : (L.map Prod.fst).Nodup := r.so1.imp fun h => Int.ne_of_lt h
theorem ids (r : Rl W L) : sortI (W.map Prod.fst) = L.map Prod.fst := by
  refine (sortI_of ((List.perm_ext_iff_of_nodup r.ndL r.nd).mpr fun id => (r.mem id).symm) ?_).symm
  intro i j x y hij hx hy
  obtain ⟨hi, rfl⟩ := List.getElem?_eq_some_iff.mp hx
  obtain ⟨hj, rfl⟩ := List.getElem?_eq_some_iff.mp hy
  exact Int.le_of_lt (List.pairwise_iff_getElem.mp r.so1 i j hi hj hij)
theorem len (r : Rl W L) : W.length = L.length := by
  have := congrArg List.length r.ids
  rw [sortI_len, List.length_map, List.length_map] at this
  exact this
theorem goes (r : Rl W L) {y : Int × List (Int × Int)} (hy : y ∈ L) : goesM W cs y.1 = y.2.any (badC cs) := by
  have hin : y.1 ∈ W.map Prod.fst := (r.mem _).mpr (List.mem_map_of_mem hy)
  obtain ⟨l, hl⟩ := Option.isSome_iff_exists.mp (find_iff.mpr hin)
  unfold goesM
  rw [hl]
  have he := r.eq _ (find_some hl) y hy rfl
  rw [Bool.eq_iff_iff, List.any_eq_true, List.any_eq_true]
  exact ⟨fun ⟨z, h1, h2⟩ => ⟨z, (he z).mp h1, h2⟩, fun ⟨z, h1, h2⟩ => ⟨z, (he z).mpr h1, h2⟩⟩
theorem filter (r : Rl W L) (P : Int → Bool) : Rl (W.filter fun x => P x.1) (L.filter fun y => P y.1) := by
  refine ⟨nodup_filter r.nd _, r.so.sublist List.filter_sublist, fun id => ?_, fun x hx y hy => r.eq x (List.mem_filter.mp hx).1 y (List.mem_filter.mp hy).1⟩
  have h1 : ∀ (M : WL0), id ∈ (M.filter fun x => P x.1).map Prod.fst ↔ id ∈ M.map Prod.fst ∧ P id = true := by
    intro M
    rw [List.mem_map, List.mem_map]
    constructor
    · rintro ⟨x, hx, rfl⟩
      exact ⟨⟨x, (List.mem_filter.mp hx).1, rfl⟩, (List.mem_filter.mp hx).2⟩
    · rintro ⟨⟨x, hx, rfl⟩, hp⟩
      exact ⟨x, List.mem_filter.mpr ⟨hx, hp⟩, rfl⟩
  rw [h1, h1, r.mem]
theorem changed (r : Rl W L) : (L.map Prod.fst).filter (goesM W cs) = (L.filter fun x => x.2.any (badC cs)).map Prod.fst ∧ Rl (delAll ((L.map Prod.fst).filter (goesM W cs)) W) (L.filter fun x => !x.2.any (badC cs)) := by
  have e1 : (L.map Prod.fst).filter (goesM W cs) = (L.filter fun x => x.2.any (badC cs)).map Prod.fst := by
    rw [List.filter_map]
    congr 1
    apply List.filter_congr
    intro y hy
    exact r.goes hy
  refine ⟨e1, ?_⟩
  rw [delAll_eq _ r.nd]
  have e2 : (L.filter fun x => !x.2.any (badC cs)) = L.filter fun x => !((L.map Prod.fst).filter (goesM W cs)).contains x.1 := by
    apply List.filter_congr
    intro y hy
    congr 1
    rw [Bool.eq_iff_iff, List.contains_iff_mem, List.mem_filter, r.goes hy]
    exact ⟨fun h => ⟨List.mem_map_of_mem hy, h⟩, fun h => h.2⟩
  rw [e2]
  exact r.filter fun id => !((L.map Prod.fst).filter (goesM W cs)).contains id
theorem forget (r : Rl W L) (id : Int) : (find id W).isSome = decide (((L.filter fun x => !decide (x.1 = id)).length : Int) < (L.length : Int)) ∧ Rl (delW id W) (L.filter fun x => !decide (x.1 = id)) := by
  refine ⟨?_, by rw [delW_eq id r.nd]; exact r.filter fun i => !decide (i = id)⟩
  rw [Bool.eq_iff_iff, find_iff, r.mem, decide_eq_true_eq, Int.ofNat_lt, List.length_filter_lt_length_iff_exists, List.mem_map]
  constructor
  · rintro ⟨x, hx, e⟩; exact ⟨x, hx, by simp [e]⟩
  · rintro ⟨x, hx, e⟩; exact ⟨x, hx, by simpa using e⟩
theorem park (r : Rl W L) {m : TM} (hm : Nk m.σ.reads) (id : Int) : (parkM W m id).1 = rcode L id ∧ (rcode L id ≠ 0 → L' = L → Rl (parkM W m id).2 L') ∧ (rcode L id = 0 → Ins L id m.σ.reads L' → Rl (parkM W m id).2 L') := by
  unfold parkM rcode
  by_cases c1 : id < 1
  · rw [if_pos c1, if_pos c1]; exact ⟨rfl, fun _ e => by rw [e]; exact r, fun h => absurd h (by decide)⟩
  rw [if_neg c1, if_neg c1]
  by_cases c2 : id ∈ L.map Prod.fst
  · rw [if_pos (find_iff.mpr ((r.mem id).mpr c2)), if_pos c2]; exact ⟨rfl, fun _ e => by rw [e]; exact r, fun h => absurd h (by decide)⟩
  have hno : id ∉ W.map Prod.fst := fun h => c2 ((r.mem id).mp h)
  rw [if_neg (fun h => hno (find_iff.mp h)), if_neg c2, r.len]
  by_cases c3 : L.length = 64
  · rw [if_pos c3, if_pos c3]; exact ⟨rfl, fun _ e => by rw [e]; exact r, fun h => absurd h (by decide)⟩
  rw [if_neg c3, if_neg c3]
  refine ⟨rfl, fun h => absurd rfl h, fun _ => ?_⟩
  rintro ⟨pre, suf, e1, e2, h1, h2⟩
  have so := r.so
  rw [e1] at so
  rw [List.pairwise_append] at so
  have hpre : ∀ y ∈ pre, y.1 < id := by
    intro y hy
    rcases List.eq_nil_or_concat pre with rfl | ⟨l, z, e⟩
    · simp at hy
    · rw [List.concat_eq_append] at e
      have hz := h2 z (by rw [e, List.getLast?_concat])
      have hne : z.1 ≠ id := fun e3 => c2 (by rw [e1, e, ← e3]; simp)
      rw [e] at hy so
      rcases List.mem_append.mp hy with h | h
      · have := (List.pairwise_append.mp so.1).2.2 y h z (by simp)
        omega
      · obtain rfl : y = z := by simpa using h
        omega
  refine ⟨?_, ?_, ?_, ?_⟩
  · rw [List.map_append, List.nodup_append]
    refine ⟨r.nd, by simp, fun a ha b hb e => ?_⟩
    simp at hb
    exact hno (by rw [← hb, ← e]; exact ha)
  · rw [e2, List.pairwise_append]
    refine ⟨so.1, ?_, ?_⟩
    · rw [List.pairwise_cons]; exact ⟨h1, so.2.1⟩
    · intro a ha b hb
      rcases List.mem_cons.mp hb with rfl | hb
      · exact hpre a ha
      · exact so.2.2 a ha b hb
  · intro i
    rw [List.map_append, List.mem_append, r.mem, e1, e2]
    simp only [List.map_append, List.map_cons, List.map_nil, List.mem_append, List.mem_cons, List.not_mem_nil, or_false]
    constructor
    · rintro ((h | h) | h)
      · exact .inl h
      · exact .inr (.inr h)
      · exact .inr (.inl h)
    · rintro (h | h | h)
      · exact .inl (.inl h)
      · exact .inr h
      · exact .inl (.inr h)
  · intro x hx y hy exy
    rw [e2] at hy
    have hyL : y = (id, m.σ.reads) ∨ y ∈ L := by
      rw [e1]
      rcases List.mem_append.mp hy with h | h
      · exact .inr (List.mem_append_left _ h)
      · rcases List.mem_cons.mp h with h | h
        · exact .inl h
        · exact .inr (List.mem_append_right _ h)
    rcases List.mem_append.mp hx with h | h
    · rcases hyL with rfl | h3
      · exact absurd (by rw [← show x.1 = id from exy]; exact List.mem_map_of_mem h) hno
      · exact r.eq x h y h3 exy
    · obtain rfl : x = (id, cellsOf m) := by simpa using h
      rcases hyL with rfl | h3
      · exact mem_cells hm
      · exact absurd (by rw [show id = y.1 from exy]; exact List.mem_map_of_mem h3) c2
end Rl
end Go.Lg.Tryz
