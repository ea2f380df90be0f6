/- Tl2Runs: four transactions do, call by call, what the document defines. -/
import Derived.Test.YtdkammcandclhaaGreatPref16T
import Derived.Test.YtdkammcandclhaaGreatPtxInv
import Derived.Test.YtdkammcandclhaaGreatPkitPick
import Derived.Test.YtdkammcandclhaaGreatPkitInts
import Derived.Test.YtdkammcandclhaaGreatFlaw16
import Derived.Test.YtdkammcandclhaaGreatPokS
namespace Go.Lg.Tryz
set_option linter.unusedVariables false
set_option linter.unusedSimpArgs false
open Go Go.Proofs
namespace Runs
def Q : Value → AH → Prop := fun v _ => v = .bool true
structure Op where
  who : Int
  kind : Int
  i : Int
  v : Int
def encOp (x : Op) : List Value := [.int .i64 x.who, .int .i64 x.kind, .int .i64 x.i, .int .i64 x.v]
theorem encOp_len (x : Op) : (encOp x).length = 4 := rfl
theorem op_at {h : AH} {a : Option Addr} {ops : List Op} (hr : Rd h a (ops.flatMap encOp)) {k : Nat} {x : Op} (hx : ops[k]? = some x) : ∃ ad, a = some ad ∧ h.ldI .i64 ad.block (ad.off + k * 4) = some x.who ∧ h.ldI .i64 ad.block (ad.off + k * 4 + 1) = some x.kind ∧ h.ldI .i64 ad.block (ad.off + k * 4 + 2) = some x.i ∧ h.ldI .i64 ad.block (ad.off + k * 4 + 3) = some x.v := by
  have hc : ∀ j, j < 4 → (ops.flatMap encOp)[k * 4 + j]? = (encOp x)[j]? := fun j hj => flat_get_some encOp_len hj hx
  rcases hr with e | ⟨ad, c, op, ro, e, ha, h1, h2, h3⟩
  · have := hc 0 (by decide); rw [e] at this; simp [encOp] at this
  · refine ⟨ad, ha, AH.ldI_of h1 (h3 _ _ (hc 0 (by decide))), ?_, ?_, ?_⟩
    · rw [Nat.add_assoc]; exact AH.ldI_of h1 (h3 _ _ (hc 1 (by decide)))
    · rw [Nat.add_assoc]; exact AH.ldI_of h1 (h3 _ _ (hc 2 (by decide)))
    · rw [Nat.add_assoc]; exact AH.ldI_of h1 (h3 _ _ (hc 3 (by decide)))
section
variable {h h' : AH} {p q p' q' t r : Nat} {m : TM} {cs : List Cel} {clk : Int} {F : List Asr} {N : Nat}
theorem nk_of (w : H h (aTX p t m :: F)) : Nk m.σ.writes ∧ Nk m.σ.reads := by
  obtain ⟨s, la, ln, lc, w⟩ := TX_at w
  obtain ⟨A, qs⟩ := set_at w.u1
  exact ⟨qs.w.nk, qs.r.nk⟩
theorem same_ok (w : H h (aTX p t m :: aMem p q cs clk :: aRX p' r m :: F)) (inv : TInv 6 m N) (hcs : cs.length = 6) (i : Int) : Ok (C k_law16_same [ptr t, ptr r, .int .i64 i] h) fun x h' => x = .bool true ∧ H h' (aTX p t m :: aMem p q cs clk :: aRX p' r m :: F) := by
  obtain ⟨nw, nr⟩ := nk_of w
  have hwl := inv.wlen nw
  have hrl := inv.rlen nr
  refine Ok.le ?_ law16_same_le
  simp only [F_law16_same, MSeen w, Option.bind_some, asTu_t, hdO_c, asI_i64, asB_b, List.isEmpty_nil, cond_t, RSeen w.u2 i (by omega), MValue w, RValue w.u2 i (by omega), decide_true, Bool.not_true, cond_f, beq_self_eq_true]
  obtain ⟨a, v, sn, c, w1⟩ := RX_at w.u2
  obtain ⟨A, qr⟩ := RF_at w1
  have J2 : Ok (law16_same_j2 (some ⟨r, 0, none⟩) (some ⟨t, 0, none⟩) (aval (alook m.σ.reads i)) (aval (alook m.σ.reads i)) (aok (alook m.σ.reads i)) (aok (alook m.σ.reads i)) h) fun x h' => x = .bool true ∧ H h' (aTX p t m :: aMem p q cs clk :: aRX p' r m :: F) := by
    refine Ok.le ?_ law16_same_j2_le
    simp only [Option.bind_some, RF8 w1, RF6 w1]
    have J1 : ∀ x, x = (if m.st = 3 then m.ver else 0) → Ok (law16_same_j1 (some ⟨t, 0, none⟩) h (some ⟨r, 0, none⟩) (aval (alook m.σ.reads i)) (aval (alook m.σ.reads i)) (aok (alook m.σ.reads i)) (aok (alook m.σ.reads i)) x) fun x h' => x = .bool true ∧ H h' (aTX p t m :: aMem p q cs clk :: aRX p' r m :: F) := by
      rintro x rfl
      refine Ok.le ?_ law16_same_j1_le
      have hwr : IntKind.wrap .i64 m.st = m.st := by have := inv.st; rw [wrap64 (by omega) (by omega)]
      have hmn : A.mn = m.σ.marks.length := by rw [qr.ml, c.s.l]
      simp only [MStatus w, Option.bind_some, asI_u8, RF6 w1, veqO_int, cond_t, hwr, decide_true, MVersion w, asI_i64, beq_self_eq_true, MDepth w, qr.c2, veqO_slice, hmn, MCells w, hcs]
      rw [show decide (((6 : Nat) : Int) = 6) = true from rfl, cond_t]
      refine Ok.bind (MReads w inv.wkr (by omega)) ?_
      rintro _ h2 ⟨ra, rc, rfl, w2⟩
      simp only [asS_s, Option.bind_some]
      refine Ok.bind (RReads (w2.mv 3 rfl) (by omega)) ?_
      rintro _ h3 ⟨ra2, rc2, rfl, w3⟩
      have hrl2 : m.σ.reads.length = (sortI (m.σ.reads.map Prod.fst)).length := by rw [sortI_len, List.length_map]
      have s1 := sameInts_eq rc rc2 (w3.mv 2 rfl : H h3 (aOw 1 ra _ rc _ :: _)).ow.rd w3.ow.rd hrl2 hrl2 (by omega)
      simp only [asS_s, Option.bind_some, s1, decide_true, asB_b, cond_t]
      have w4 := (w3.rm 2 rfl).drop
      refine Ok.bind (MWrites w4.u1 inv.wkw (by omega)) ?_
      rintro _ h5 ⟨wa, wc, rfl, w5⟩
      simp only [asS_s, Option.bind_some]
      refine Ok.bind (RWrites (w5.mv 2 rfl) (by omega)) ?_
      rintro _ h6 ⟨wa2, wc2, rfl, w6⟩
      have hwl2 : m.σ.writes.length = (sortI (m.σ.writes.map Prod.fst)).length := by rw [sortI_len, List.length_map]
      have s2 := sameInts_eq wc wc2 (w6.mv 2 rfl : H h6 (aOw 1 wa _ wc _ :: _)).ow.rd w6.ow.rd hwl2 hwl2 (by omega)
      simp only [asS_s, Option.bind_some, s2, decide_true, asB_b]
      exact Ok.some ⟨rfl, ((w6.rm 2 rfl).drop).pm [1, 2, 0]⟩
    by_cases c3 : m.st = 3
    · rw [dec_t c3, Bool.not_true, cond_f]
      exact J1 _ (by rw [if_pos c3]; exact c.v (by omega))
    · rw [dec_f c3, Bool.not_false, cond_t]
      exact J1 _ (by rw [if_neg c3])
  refine Ok.le ?_ law16_same_j4_le
  simp only [Option.bind_some, RF6 w1, RF8 w1]
  by_cases c2 : m.st = 2
  · rw [dec_t c2, cond_t]
    refine Ok.le ?_ law16_same_j3_le
    simp only [MClaimed w, Option.bind_some, asI_i64]
    rw [if_pos c2, dec_t (c.v (by omega)).symm, Bool.not_true, cond_f]
    exact J2
  · rw [dec_f c2, cond_f]
    refine Ok.le ?_ law16_same_j3_le
    simp only [MClaimed w, Option.bind_some, asI_i64]
    rw [if_neg c2, dec_t rfl, Bool.not_true, cond_f]
    exact J2
end
/-- one of the four: the program's, the document's, what both are -/
structure It where
  t : Nat
  r : Nat
  m : TM
def aPair (p p' : Nat) (x : It) : Asr := Lay [aTX p x.t x.m, aRX p' x.r x.m]
abbrev WL (p q p' q' tb ub : Nat) (cs : List Cel) (clk : Int) (l : List It) (a1 : Option Addr) (ops : List Op) : List Asr :=
  [aMem p q cs clk, aMem p' q' cs clk, Cs tb (l.map fun x => ptr x.t) 4, Cs ub (l.map fun x => ptr x.r) 4, aRd a1 (ops.flatMap encOp), Lay (l.map (aPair p p'))]
abbrev WK (p q p' q' tb ub t r : Nat) (m m' : TM) (cs cs' : List Cel) (clk clk' : Int) (l : List It) (i : Nat) (a1 : Option Addr) (ops : List Op) (ob : Nat) (o : Op) : List Asr :=
  [aTX p t m, aMem p q cs clk, aRX p' r m', aMem p' q' cs' clk', Cs tb (l.map fun x => ptr x.t) 4, Cs ub (l.map fun x => ptr x.r) 4, aRd a1 (ops.flatMap encOp), Lay ((l.eraseIdx i).map (aPair p p')), Cs ob (encOp o) 4]
structure LI (l : List It) (N : Nat) : Prop where
  n : l.length = 4
  i : ∀ (k : Nat) x, l[k]? = some x → TInv 6 x.m N ∧ x.m.owner = k + 1
theorem LI.set {l : List It} {N M : Nat} (L : LI l N) (hNM : N ≤ M) {k : Nat} {x : It} (hk : k < 4) (h1 : TInv 6 x.m M) (h2 : x.m.owner = k + 1) : LI (l.set k x) M := by
  refine ⟨by rw [List.length_set]; exact L.n, fun j y hy => ?_⟩
  by_cases e : k = j
  · subst e
    rw [List.getElem?_set_self (by rw [L.n]; exact hk)] at hy
    obtain rfl := Option.some.inj hy
    exact ⟨h1, h2⟩
  · rw [List.getElem?_set_ne e] at hy
    exact ⟨((L.i j y hy).1).more hNM, (L.i j y hy).2⟩
section
variable {p q p' q' tb ub : Nat} {a1 : Option Addr} {l2 c3 : Nat} {ops : List Op}
theorem ow_read (m : TM) (cs : List Cel) (i : Int) : (m.read cs i).2.1.owner = m.owner := by
  unfold TM.read
  repeat' split
  all_goals rfl
theorem ow_write (m : TM) (n : Nat) (i v : Int) : (m.write n i v).2.owner = m.owner := by unfold TM.write; split <;> rfl
theorem ow_mark (m : TM) : m.mark.2.owner = m.owner := by unfold TM.mark; split <;> rfl
theorem ow_keep (m : TM) : m.keep.2.owner = m.owner := by unfold TM.keep; split <;> rfl
theorem ow_undo (m : TM) : m.undo.2.owner = m.owner := by unfold TM.undo; split <;> rfl
theorem ow_abort (m : TM) (cs : List Cel) : (m.abort cs).2.1.owner = m.owner := by unfold TM.abort; split <;> rfl
theorem ow_go (m : TM) (cs : List Cel) (clk : Int) : (m.go cs clk).2.1.owner = m.owner := by
  unfold TM.go
  cases m.left with
  | nil => rfl
  | cons s l =>
    have := (TInv.eff_keep m cs clk s).2.2.1
    simp only
    repeat' split
    all_goals exact this
theorem ow_step (m : TM) (cs : List Cel) (clk : Int) : (m.step cs clk).2.1.owner = m.owner := by
  unfold TM.step
  repeat' split
  · exact ow_go _ _ _
  · exact ow_go _ _ _
  · rfl
/-- the cells, one by one -/
theorem cell_loop {k : Nat} {cs : List Cel} {clk : Int} (hcs : cs.length = 6) {F : List Asr} {h0 : AH} (K : ∀ h, H h (aMem p q cs clk :: aMem p' q' cs clk :: F) → Ok (law16_Tl2Runs_j2 l2 a1 (some ⟨tb, 0, none⟩) (some ⟨ub, 0, none⟩) (some ⟨p, 0, none⟩) (some ⟨p', 0, none⟩) c3 (k : Nat) h) Q) :
    ∀ (n j : Nat) {h : AH}, 6 - j = n → j ≤ 6 → H h (aMem p q cs clk :: aMem p' q' cs clk :: F) → Ok (law16_Tl2Runs_L2 (some ⟨p, 0, none⟩) (some ⟨p', 0, none⟩) (k : Nat) (some ⟨ub, 0, none⟩) (some ⟨tb, 0, none⟩) a1 l2 c3 (j : Nat) h) Q := by
  intro n
  induction n with
  | zero =>
    intro j h hn hj w
    refine Ok.le ?_ law16_Tl2Runs_L2_le
    rw [dec_f (by omega), cond_f]
    exact K h w
  | succ n ih =>
    intro j h hn hj w
    refine Ok.le ?_ law16_Tl2Runs_L2_le
    rw [dec_t (by omega), cond_t]
    refine Ok.le ?_ law16_Tl2Runs_j4_le
    obtain ⟨c, hc⟩ : ∃ c, cs[j]? = some c := ⟨_, List.getElem?_eq_getElem (by omega)⟩
    have hM := mem_at w
    have hM2 := mem_at w.u1
    have hl : loadM cs ((j : Nat) : Int) = (c, 0) := by unfold loadM; rw [if_neg (by omega), Int.toNat_natCast, hc]
    have hb : inB ((j : Nat) : Int) cs.length = true := inB_t (by omega) (by omega)
    obtain ⟨h2, e2, w2, _⟩ := w.var [.int .i64 0, .int .i64 0, .int .i64 0] [.int .i64 c.v, .int .i64 c.ver, .int .i64 c.own] 3 rfl
    simp only [load_eq hM, hl, Option.bind_some, asTu_t, hdO_c, asI_i64, List.isEmpty_nil, cond_t, hM2.sl, hb, Int.toNat_natCast, hM2.ld0' hc, hM2.ld1 hc, hM2.ld2 hc, e2, AH.ldI_of (k := .i64) (o := 0 + 0) w2.get rfl, AH.ldI_of (k := .i64) (o := 0 + 1) w2.get rfl, AH.ldI_of (k := .i64) (o := 0 + 2) w2.get rfl, decide_true, Bool.not_true, cond_f]
    refine Ok.le ?_ law16_Tl2Runs_j3_le
    rw [show IntKind.wrap .i64 (((j : Nat) : Int) + 1) = ((j + 1 : Nat) : Int) by rw [wrap64 (by omega) (by omega)]; omega]
    exact ih (j + 1) (by omega) (by omega) w2.drop
theorem wk_back {h : AH} {t r : Nat} {m : TM} {cs : List Cel} {clk : Int} {l : List It} {i ob : Nat} {o : Op} {F : List Asr} (hi : i < l.length) (ht : (l.map fun x => ptr x.t)[i]? = some (ptr t)) (hr : (l.map fun x => ptr x.r)[i]? = some (ptr r))
    (w : H h (WK p q p' q' tb ub t r m m cs cs clk clk l i a1 ops ob o ++ F)) : H h (WL p q p' q' tb ub cs clk (l.set i ⟨t, r, m⟩) a1 ops ++ F) := by
  have w2 := H.cls (L := [aTX p t m, aRX p' r m]) (w.pm [0, 2, 1, 3, 4, 5, 6, 7, 8])
  have w3 := (w2.pm [0, 6, 1, 2, 3, 4, 5, 7]).rm 7 rfl
  have w4 : H h (Lay ((l.set i ⟨t, r, m⟩).map (aPair p p')) :: _) := H.put_i (f := aPair p p') ⟨t, r, m⟩ hi w3
  have e1 : ((l.set i ⟨t, r, m⟩).map fun x => ptr x.t) = l.map fun x => ptr x.t := by
    rw [List.map_set]
    apply List.ext_getElem?
    intro k
    by_cases e : i = k
    · subst e; rw [List.getElem?_set_self (by simpa using hi)]; exact ht.symm
    · rw [List.getElem?_set_ne e]
  have e2 : ((l.set i ⟨t, r, m⟩).map fun x => ptr x.r) = l.map fun x => ptr x.r := by
    rw [List.map_set]
    apply List.ext_getElem?
    intro k
    by_cases e : i = k
    · subst e; rw [List.getElem?_set_self (by simpa using hi)]; exact hr.symm
    · rw [List.getElem?_set_ne e]
  simp only [WL, e1, e2]
  exact w4.pm [1, 2, 3, 4, 5, 0]
/-- behind a call -/
theorem j7_ok {h : AH} {t r : Nat} {m : TM} {cs : List Cel} {clk : Int} {l : List It} {i ob k N : Nat} {o : Op} {F : List Asr} {x y : Int} (hk : k < 1000) (hcs : cs.length = 6) (inv : TInv 6 m N) (hi : i < l.length) (hi4 : i < 4) (ht : (l.map fun x => ptr x.t)[i]? = some (ptr t)) (hr : (l.map fun x => ptr x.r)[i]? = some (ptr r))
    (w : H h (WK p q p' q' tb ub t r m m cs cs clk clk l i a1 ops ob o ++ F))
    (K : ∀ h', H h' (WL p q p' q' tb ub cs clk (l.set i ⟨t, r, m⟩) a1 ops ++ F) → Ok (law16_Tl2Runs_L1 l2 a1 (some ⟨tb, 0, none⟩) (some ⟨ub, 0, none⟩) (some ⟨p, 0, none⟩) (some ⟨p', 0, none⟩) c3 ((k + 1 : Nat) : Int) h') Q) :
    Ok (law16_Tl2Runs_j7 (some ⟨p, 0, none⟩) (some ⟨p', 0, none⟩) (k : Nat) (some ⟨ub, 0, none⟩) (some ⟨tb, 0, none⟩) a1 l2 c3 (i : Nat) (some ⟨ob, 0, none⟩) x x y y h) Q := by
  refine Ok.le ?_ law16_Tl2Runs_j7_le
  have hb : inB ((i : Nat) : Int) 4 = true := inB_t (by omega) (by omega)
  have gt : h.ldP tb (0 + i * 1) = some (some ⟨t, 0, none⟩) := AH.ldP_of (w.g 4 rfl) (by rw [Nat.zero_add, Nat.mul_one]; exact ht)
  have gr : h.ldP ub (0 + i * 1) = some (some ⟨r, 0, none⟩) := AH.ldP_of (w.g 5 rfl) (by rw [Nat.zero_add, Nat.mul_one]; exact hr)
  simp only [decide_true, Bool.not_true, cond_f, Option.bind_some, hb, cond_t, Int.toNat_natCast, gt, gr, AH.ldI_of (k := .i64) (o := 0 + 2) (w.g 8 rfl) rfl]
  refine Ok.bind (same_ok (w.pm [0, 1, 2]) inv hcs o.i) ?_
  rintro _ h2 ⟨rfl, w2⟩
  have hM := mem_at w2.u1
  have hM2 := mem_at (w2.mv 3 rfl)
  simp only [asB_b, Option.bind_some, Bool.not_true, cond_f, clock_eq hM, asI_i64, hM2.clock, veqO_int, cond_t, decide_true]
  refine Ok.le ?_ law16_Tl2Runs_j6_le
  rw [cond_f]
  refine Ok.le ?_ law16_Tl2Runs_j5_le
  refine cell_loop (h0 := h2) hcs (F := _) ?_ _ 0 rfl (by omega) (w2.pm [1, 3, 0, 2, 4, 5, 6, 7, 8])
  intro h3 w3
  refine Ok.le ?_ law16_Tl2Runs_j2_le
  rw [show IntKind.wrap .i64 (((k : Nat) : Int) + 1) = ((k + 1 : Nat) : Int) by rw [wrap64 (by omega) (by omega)]; omega]
  exact K h3 (wk_back hi ht hr (w3.pm [2, 0, 3, 1, 4, 5, 6, 7, 8]))
theorem pm_own {l : List It} {N i : Nat} {x : It} (L : LI l N) (hx : l[i]? = some x) : TInv 6 x.m N ∧ x.m.owner = i + 1 := L.i i x hx
theorem erase_set {α : Type} : ∀ (l : List α) (i : Nat) (x : α), (l.set i x).eraseIdx i = l.eraseIdx i
  | [], i, x => by simp
  | a :: l, 0, x => rfl
  | a :: l, i + 1, x => by simp only [List.set_cons_succ, List.eraseIdx_cons_succ, erase_set l i x]
/-- a call -/
theorem arm_ok {h : AH} {t r : Nat} {m : TM} {cs : List Cel} {clk : Int} {l : List It} {i ob k N : Nat} {o : Op} {F : List Asr} (hN : N < 2000) (hcs : cs.length = 6) (inv : TInv 6 m N) (hown : m.owner = i + 1) (hl : l.length = 4) (hi4 : i < 4) (ht : (l.map fun x => ptr x.t)[i]? = some (ptr t)) (hr : (l.map fun x => ptr x.r)[i]? = some (ptr r))
    (w : H h (WK p q p' q' tb ub t r m m cs cs clk clk l i a1 ops ob o ++ F))
    (K : ∀ h' t' r' m' cs' clk' x y l', l'.length = 4 → (∀ j : Nat, j ≠ i → l'[j]? = l[j]?) → (l'.map fun x => ptr x.t)[i]? = some (ptr t') → (l'.map fun x => ptr x.r)[i]? = some (ptr r') → cs'.length = 6 → TInv 6 m' (N + 2) → m'.owner = i + 1 → H h' (WK p q p' q' tb ub t' r' m' m' cs' cs' clk' clk' l' i a1 ops ob o ++ F) →
      Ok (law16_Tl2Runs_j7 (some ⟨p, 0, none⟩) (some ⟨p', 0, none⟩) (k : Nat) (some ⟨ub, 0, none⟩) (some ⟨tb, 0, none⟩) a1 l2 c3 (i : Nat) (some ⟨ob, 0, none⟩) x x y y h') Q) :
    Ok (law16_Tl2Runs_j10 (some ⟨tb, 0, none⟩) (i : Nat) (some ⟨ub, 0, none⟩) (some ⟨p, 0, none⟩) (some ⟨p', 0, none⟩) (k : Nat) a1 l2 c3 o.kind (some ⟨ob, 0, none⟩) (decide (o.kind = 0 ∨ o.kind = 1)) h) Q := by
  have hb : inB ((i : Nat) : Int) 4 = true := inB_t (by omega) (by omega)
  obtain ⟨nw, nr⟩ := nk_of w
  have hwl := inv.wlen nw
  have hrl := inv.rlen nr
  have gT : ∀ {h' : AH} {t' r' m1 m2 cs1 cs2 c1 c2} , H h' (WK p q p' q' tb ub t' r' m1 m2 cs1 cs2 c1 c2 l i a1 ops ob o ++ F) → h'.ldP tb (0 + i * 1) = some (some ⟨t, 0, none⟩) ∧ h'.ldP ub (0 + i * 1) = some (some ⟨r, 0, none⟩) ∧ h'.ldI .i64 ob (0 + 2) = some o.i ∧ h'.ldI .i64 ob (0 + 3) = some o.v := fun w' =>
    ⟨AH.ldP_of (w'.g 4 rfl) (by rw [Nat.zero_add, Nat.mul_one]; exact ht), AH.ldP_of (w'.g 5 rfl) (by rw [Nat.zero_add, Nat.mul_one]; exact hr), AH.ldI_of (w'.g 8 rfl) rfl, AH.ldI_of (w'.g 8 rfl) rfl⟩
  obtain ⟨gt, gr, gi, gv⟩ := gT w
  have Kl : ∀ h' m' cs' clk' x y, cs'.length = 6 → TInv 6 m' (N + 2) → m'.owner = i + 1 → H h' (WK p q p' q' tb ub t r m' m' cs' cs' clk' clk' l i a1 ops ob o ++ F) → Ok (law16_Tl2Runs_j7 (some ⟨p, 0, none⟩) (some ⟨p', 0, none⟩) (k : Nat) (some ⟨ub, 0, none⟩) (some ⟨tb, 0, none⟩) a1 l2 c3 (i : Nat) (some ⟨ob, 0, none⟩) x x y y h') Q :=
    fun h' m' cs' clk' x y => K h' t r m' cs' clk' x y l hl (fun _ _ => rfl) ht hr
  refine Ok.le ?_ law16_Tl2Runs_j10_le
  by_cases d0 : o.kind = 0 ∨ o.kind = 1
  · rw [dec_t d0, cond_t]
    simp only [Option.bind_some, hb, cond_t, Int.toNat_natCast, gt, gi]
    refine Ok.bind (MRead w inv.ow (by omega) o.i) ?_
    rintro _ h2 ⟨rfl, w2⟩
    obtain ⟨gt2, gr2, gi2, gv2⟩ := gT w2
    simp only [asTu_t, hdO_c, asI_i64, Option.bind_some, List.isEmpty_nil, cond_t, hb, Int.toNat_natCast, gr2, gi2]
    refine Ok.bind (RRead (w2.pm [2, 3, 0, 1]) (by omega) (by omega) inv.ow (by omega) o.i) ?_
    rintro _ h3 ⟨rfl, w3⟩
    simp only [asTu_t, hdO_c, asI_i64, Option.bind_some, List.isEmpty_nil, cond_t]
    exact Kl h3 _ _ clk _ _ (by rw [TInv.read_len]; exact hcs) (inv.read hcs o.i) (by rw [ow_read]; exact hown) (w3.pm [2, 3, 0, 1])
  rw [dec_f d0, cond_f]
  have J9 : ∀ b, b = decide (o.kind = 2 ∨ o.kind = 3) → Ok (law16_Tl2Runs_j9 (some ⟨tb, 0, none⟩) (i : Nat) h (some ⟨ob, 0, none⟩) (some ⟨ub, 0, none⟩) (some ⟨p, 0, none⟩) (some ⟨p', 0, none⟩) (k : Nat) a1 l2 c3 o.kind b) Q := by
    rintro b rfl
    refine Ok.le ?_ law16_Tl2Runs_j9_le
    by_cases d2 : o.kind = 2 ∨ o.kind = 3
    · rw [dec_t d2, cond_t]
      simp only [Option.bind_some, hb, cond_t, Int.toNat_natCast, gt, gi, gv]
      refine Ok.bind (MWrite w (by have := inv.wf.sz; omega) o.i o.v) ?_
      rintro _ h2 ⟨rfl, w2⟩
      obtain ⟨gt2, gr2, gi2, gv2⟩ := gT w2
      simp only [asI_i64, Option.bind_some, hb, cond_t, Int.toNat_natCast, gr2, gr, gi2, gi, gv2, gv, veqO_ptr, veqO_int]
      refine Ok.bind (RWrite (w2.pm [2, 3, 0, 1]) (by omega) o.i o.v) ?_
      rintro _ h3 ⟨rfl, w3⟩
      simp only [asI_i64, Option.bind_some]
      exact Kl h3 _ _ clk _ _ hcs (inv.write hcs o.i o.v) (by rw [ow_write]; exact hown) (w3.pm [2, 3, 0, 1])
    rw [dec_f d2, cond_f]
    by_cases d4 : o.kind = 4
    · rw [dec_t d4, cond_t]
      simp only [Option.bind_some, hb, cond_t, Int.toNat_natCast, gt]
      refine Ok.bind (MMark w inv.wf.ml) ?_
      rintro _ h2 ⟨rfl, w2⟩
      obtain ⟨gt2, gr2, gi2, gv2⟩ := gT w2
      simp only [asI_i64, Option.bind_some, hb, cond_t, Int.toNat_natCast, gr2, gr, veqO_ptr]
      refine Ok.bind (RMark (w2.mv 2 rfl) (by omega) inv.wf.ml inv.mo) ?_
      rintro _ h3 ⟨rfl, w3⟩
      simp only [asI_i64, Option.bind_some]
      exact Kl h3 _ _ clk _ _ hcs inv.mark (by rw [ow_mark]; exact hown) (w3.pm [1, 2, 0])
    rw [dec_f d4, cond_f]
    by_cases d5 : o.kind = 5
    · rw [dec_t d5, cond_t]
      simp only [Option.bind_some, hb, cond_t, Int.toNat_natCast, gt]
      refine Ok.bind (MKeep w inv.wf.ml) ?_
      rintro _ h2 ⟨rfl, w2⟩
      obtain ⟨gt2, gr2, gi2, gv2⟩ := gT w2
      simp only [asI_i64, Option.bind_some, hb, cond_t, Int.toNat_natCast, gr2, gr, veqO_ptr]
      refine Ok.bind (RKeep (w2.mv 2 rfl) inv.wf.ml) ?_
      rintro _ h3 ⟨rfl, w3⟩
      simp only [asI_i64, Option.bind_some]
      exact Kl h3 _ _ clk _ _ hcs inv.keep (by rw [ow_keep]; exact hown) (w3.pm [1, 2, 0])
    rw [dec_f d5, cond_f]
    by_cases d6 : o.kind = 6
    · rw [dec_t d6, cond_t]
      simp only [Option.bind_some, hb, cond_t, Int.toNat_natCast, gt]
      refine Ok.bind (MUndo w inv.wf.ml (by have := inv.wf.sz; omega) inv.wf.m0) ?_
      rintro _ h2 ⟨rfl, w2⟩
      obtain ⟨gt2, gr2, gi2, gv2⟩ := gT w2
      simp only [asI_i64, Option.bind_some, hb, cond_t, Int.toNat_natCast, gr2, gr, veqO_ptr]
      refine Ok.bind (RUndo (w2.mv 2 rfl) inv.wf.ml inv.mo) ?_
      rintro _ h3 ⟨rfl, w3⟩
      simp only [asI_i64, Option.bind_some]
      exact Kl h3 _ _ clk _ _ hcs inv.undo (by rw [ow_undo]; exact hown) (w3.pm [1, 2, 0])
    rw [dec_f d6, cond_f]
    have J8 : ∀ b, b = decide (o.kind = 7 ∨ o.kind = 8 ∨ o.kind = 9) → Ok (law16_Tl2Runs_j8 (some ⟨tb, 0, none⟩) (i : Nat) h (some ⟨ub, 0, none⟩) (some ⟨p, 0, none⟩) (some ⟨p', 0, none⟩) (k : Nat) a1 l2 c3 (some ⟨ob, 0, none⟩) o.kind b) Q := by
      rintro b rfl
      refine Ok.le ?_ law16_Tl2Runs_j8_le
      by_cases d7 : o.kind = 7 ∨ o.kind = 8 ∨ o.kind = 9
      · rw [dec_t d7, cond_t]
        simp only [Option.bind_some, hb, cond_t, Int.toNat_natCast, gt]
        refine Ok.bind (MStep w inv.ow (by omega) inv.st inv.left_ne inv.wkw inv.wkr (by omega) (by omega)) ?_
        rintro _ h2 ⟨rfl, w2⟩
        obtain ⟨gt2, gr2, gi2, gv2⟩ := gT w2
        simp only [asTu_t, hdO_c, asI_u8, asI_i64, Option.bind_some, List.isEmpty_nil, hb, cond_t, Int.toNat_natCast, gr2]
        refine Ok.bind (RStep (w2.pm [2, 3, 0, 1]) inv.ow (by omega) inv.st inv.left_ne (by omega) (by omega)) ?_
        rintro _ h3 ⟨rfl, w3⟩
        have hst : (m.step cs clk).1.1 = 2 ∨ (m.step cs clk).1.1 = 3 ∨ (m.step cs clk).1.1 = 4 := by
          have hst := inv.st
          have hg : ∀ m' : TM, m'.st = 2 → (m'.go cs clk).1.1 = 2 ∨ (m'.go cs clk).1.1 = 3 ∨ (m'.go cs clk).1.1 = 4 := fun m' h2 => by
            unfold TM.go
            cases m'.left with
            | nil => exact .inl h2
            | cons s lf =>
              simp only
              repeat' split
              · exact .inr (.inr rfl)
              · exact .inr (.inl rfl)
              · exact .inl h2
          unfold TM.step
          by_cases e1 : m.st = 1
          · rw [if_pos e1]; exact hg m.plan rfl
          · rw [if_neg e1]
            by_cases e2 : m.st = 2
            · rw [if_pos e2]; exact hg m e2
            · rw [if_neg e2]
              show m.st = 2 ∨ m.st = 3 ∨ m.st = 4
              omega
        have hwr : IntKind.wrap .i64 (m.step cs clk).1.1 = (m.step cs clk).1.1 := wrap64 (by omega) (by omega)
        simp only [asTu_t, hdO_c, asI_i64, Option.bind_some, List.isEmpty_nil, cond_t, hwr]
        exact Kl h3 _ _ _ _ _ (by rw [TInv.step_len]; exact hcs) ((inv.step (by omega)).more (by omega)) (by rw [ow_step]; exact hown) (w3.pm [2, 3, 0, 1])
      rw [dec_f d7, cond_f]
      by_cases d10 : o.kind = 10
      · rw [dec_t d10, cond_t]
        simp only [Option.bind_some, hb, cond_t, Int.toNat_natCast, gt]
        refine Ok.bind (MAbort w inv.ow (by omega)) ?_
        rintro _ h2 ⟨rfl, w2⟩
        obtain ⟨gt2, gr2, gi2, gv2⟩ := gT w2
        simp only [asI_i64, Option.bind_some, hb, cond_t, Int.toNat_natCast, gr2, gr, veqO_ptr]
        refine Ok.bind (RAbort (w2.pm [2, 3, 0, 1]) inv.st (by omega) (by omega) inv.ow (by omega)) ?_
        rintro _ h3 ⟨rfl, w3⟩
        simp only [asI_i64, Option.bind_some]
        exact Kl h3 _ _ clk _ _ (by rw [TInv.abort_len]; exact hcs) (inv.abort.more (by omega)) (by rw [ow_abort]; exact hown) (w3.pm [2, 3, 0, 1])
      rw [dec_f d10, cond_f]
      by_cases d11 : o.kind = 11
      · rw [dec_t d11, cond_t]
        obtain ⟨a, v, sn, c, w1⟩ := RX_at (w.mv 2 rfl)
        simp only [Option.bind_some, hb, cond_t, Int.toNat_natCast, gr, RF6 w1]
        by_cases d : m.st < 3
        · rw [dec_t d, Bool.not_true, cond_f]
          exact Kl h m cs clk 0 0 hcs (inv.more (by omega)) hown w
        · rw [dec_f d, Bool.not_false, cond_t]
          rw [show IntKind.wrap .i64 (((i : Nat) : Int) + 1) = (i : Int) + 1 by rw [wrap64 (by omega) (by omega)]]
          refine Ok.bind (MBegin (w.pm [1, 0]) (o := (i : Int) + 1) (by omega)) ?_
          rintro _ h2 ⟨t2, rfl, w2⟩
          have w3 := w2.pm [0, 1, 3, 4, 6, 7, 8, 9, 5, 2]
          obtain ⟨h4, e4, w4, _⟩ := (w3.mv 8 rfl : H h2 (Cs tb _ 4 :: _)).st (o := 0 + i * 1) [ptr t2] (by simp [hl]; omega)
          have w5 := w4.pm [4, 0, 1, 2, 3]
          simp only [asTu_t, hdO_c, asP_p, asI_i64, Option.bind_some, List.isEmpty_nil, cond_t, hb, Int.toNat_natCast, e4]
          refine Ok.bind (RNew w5 (o := (i : Int) + 1) (by omega)) ?_
          rintro _ h5 ⟨r2, rfl, w6⟩
          obtain ⟨h7, e7, w7, _⟩ := (w6.mv 6 rfl : H h5 (Cs ub _ 4 :: _)).st (o := 0 + i * 1) [ptr r2] (by simp [hl]; omega)
          simp only [asTu_t, hdO_c, asP_p, asI_i64, Option.bind_some, List.isEmpty_nil, cond_t, hb, Int.toNat_natCast, e7]
          have w8 := ((w7.pm [4, 5, 1, 2, 3, 0, 7, 8, 9, 6, 10]).rm 9 rfl).rm 9 rfl
          have hil : i < l.length := by omega
          have s1 : AH.setL (l.map fun x => ptr x.t) (0 + i * 1) [ptr t2] = (l.set i ⟨t2, r2, TM.new ((i : Int) + 1) clk⟩).map fun x => ptr x.t := by
            rw [List.map_set, Nat.zero_add, Nat.mul_one]; rfl
          have s2 : AH.setL (l.map fun x => ptr x.r) (0 + i * 1) [ptr r2] = (l.set i ⟨t2, r2, TM.new ((i : Int) + 1) clk⟩).map fun x => ptr x.r := by
            rw [List.map_set, Nat.zero_add, Nat.mul_one]; rfl
          have s3 : l.eraseIdx i = (l.set i ⟨t2, r2, TM.new ((i : Int) + 1) clk⟩).eraseIdx i := (erase_set l i _).symm
          have w9 : H h7 (aTX p t2 (TM.new ((i : Int) + 1) clk) :: aMem p q cs clk :: aRX p' r2 (TM.new ((i : Int) + 1) clk) :: aMem p' q' cs clk :: Cs tb (AH.setL (l.map fun x => ptr x.t) (0 + i * 1) [ptr t2]) 4 :: Cs ub (AH.setL (l.map fun x => ptr x.r) (0 + i * 1) [ptr r2]) 4 :: aRd a1 (ops.flatMap encOp) :: Lay ((l.eraseIdx i).map (aPair p p')) :: Cs ob (encOp o) 4 :: F) := w8
          rw [s1, s2, s3] at w9
          refine K h7 t2 r2 (TM.new ((i : Int) + 1) clk) cs clk 0 0 (l.set i ⟨t2, r2, TM.new ((i : Int) + 1) clk⟩) (by simpa using hl) (fun j hj => by rw [List.getElem?_set_ne (fun e => hj e.symm)]) (by rw [List.getElem?_map, List.getElem?_set_self hil]; rfl) (by rw [List.getElem?_map, List.getElem?_set_self hil]; rfl) hcs ((TInv.new (by omega)).more (by omega)) rfl w9
      · rw [dec_f d11, cond_f]
        exact Kl h m cs clk 0 0 hcs (inv.more (by omega)) hown w
    by_cases d7 : o.kind = 7
    · rw [dec_t d7, cond_t]; exact J8 _ (by rw [dec_t (.inl d7)])
    rw [dec_f d7, cond_f]
    by_cases d8 : o.kind = 8
    · rw [dec_t d8, cond_t]; exact J8 _ (by rw [dec_t (.inr (.inl d8))])
    rw [dec_f d8, cond_f]
    exact J8 _ (by by_cases d9 : o.kind = 9
                   · rw [dec_t d9, dec_t (.inr (.inr d9))]
                   · rw [dec_f d9, dec_f (by omega)])
  by_cases d2 : o.kind = 2
  · rw [dec_t d2, cond_t]; exact J9 _ (by rw [dec_t (.inl d2)])
  rw [dec_f d2, cond_f]
  exact J9 _ (by by_cases d3 : o.kind = 3
                 · rw [dec_t d3, dec_t (.inr d3)]
                 · rw [dec_f d3, dec_f (by omega)])
/-- all calls -/
theorem calls (hl2 : l2 = ops.length) : ∀ (n k : Nat) {h : AH} {cs : List Cel} {clk : Int} {l : List It} {N : Nat} {F : List Asr}, 300 - k = n → k ≤ 300 → cs.length = 6 → LI l N → N + 2 * n < 1500 → H h (WL p q p' q' tb ub cs clk l a1 ops ++ F) →
    Ok (law16_Tl2Runs_L1 l2 a1 (some ⟨tb, 0, none⟩) (some ⟨ub, 0, none⟩) (some ⟨p, 0, none⟩) (some ⟨p', 0, none⟩) c3 (k : Nat) h) Q := by
  subst hl2
  intro n
  induction n with
  | zero =>
    intro k h cs clk l N F hn hk hcs L hN w
    have fin : Ok (law16_Tl2Runs_j1 h) Q := by
      refine Ok.le ?_ law16_Tl2Runs_j1_le
      simp only [C_closed (f := k_law16_awake) rfl h, Option.bind_some, asB_b]
      exact Ok.some rfl
    refine Ok.le ?_ law16_Tl2Runs_L1_le
    by_cases c1 : k < ops.length
    · rw [dec_t (by omega), cond_t, dec_f (by omega), cond_f]; exact fin
    · rw [dec_f (by omega), cond_f]; exact fin
  | succ n ih =>
    intro k h cs clk l N F hn hk hcs L hN w
    refine Ok.le ?_ law16_Tl2Runs_L1_le
    by_cases c1 : k < ops.length
    rotate_left
    · rw [dec_f (by omega), cond_f]
      refine Ok.le ?_ law16_Tl2Runs_j1_le
      simp only [C_closed (f := k_law16_awake) rfl h, Option.bind_some, asB_b]
      exact Ok.some rfl
    rw [dec_t (by omega), cond_t, dec_t (by omega), cond_t]
    refine Ok.le ?_ law16_Tl2Runs_j11_le
    obtain ⟨o, ho⟩ : ∃ o, ops[k]? = some o := ⟨_, List.getElem?_eq_getElem c1⟩
    obtain ⟨ad, ha, g0, g1, g2, g3⟩ := op_at (w.mv 4 rfl : H h (aRd a1 _ :: _)).rd ho
    have hb : inB ((k : Nat) : Int) ops.length = true := inB_t (by omega) (by omega)
    obtain ⟨h50, e50, w50, _⟩ := w.var [.int .i64 0, .int .i64 0, .int .i64 0, .int .i64 0] (encOp o) 4 rfl
    obtain ⟨pk0, pk1⟩ := pickM_bd o.who 4 (by decide)
    obtain ⟨i, hi⟩ : ∃ i : Nat, pickM o.who 4 = i := ⟨(pickM o.who 4).toNat, by omega⟩
    have e50' : (h.push (.cells [.int .i64 0, .int .i64 0, .int .i64 0, .int .i64 0] false false 4)).st h.n 0 [.int .i64 o.who, .int .i64 o.kind, .int .i64 o.i, .int .i64 o.v] = some h50 := e50
    rw [ha]
    simp only [Option.bind_some, hb, cond_t, Int.toNat_natCast, g0, g1, g2, g3, e50', AH.ldI_of (k := .i64) (o := 0 + 0) w50.get rfl, pick_eq o.who 4 (by decide) (by decide), asI_i64, AH.ldI_of (k := .i64) (o := 0 + 1) w50.get rfl, hi]
    rw [← ha]
    have hi4 : i < 4 := by omega
    obtain ⟨x, hx⟩ : ∃ x, l[i]? = some x := ⟨_, List.getElem?_eq_getElem (by rw [L.n]; exact hi4)⟩
    obtain ⟨inv, hown⟩ := L.i i x hx
    have w51 := ((H.take_i hx (w50.mv 6 rfl)) : H h50 (aPair p p' x :: _))
    have w52 : H h50 (WK p q p' q' tb ub x.t x.r x.m x.m cs cs clk clk l i a1 ops h.n o ++ F) := (w51.opn_ : H h50 (aTX p x.t x.m :: aRX p' x.r x.m :: _)).pm [0, 4, 1, 5, 6, 7, 8, 2, 3]
    have step := arm_ok (l2 := ops.length) (c3 := c3) (k := k) (by omega) hcs inv hown L.n hi4 (by rw [List.getElem?_map, hx]; rfl) (by rw [List.getElem?_map, hx]; rfl) w52 (fun h' t' r' m' cs' clk' xx yy l' hl' hj ht hr hcs' inv' hown' w' =>
      j7_ok (by omega) hcs' inv' (by rw [hl']; exact hi4) hi4 ht hr w' fun h'' w'' => ih (k + 1) (by omega) (by omega) hcs' (N := N + 2) ⟨by rw [List.length_set]; exact hl', fun j y hy => by
        by_cases e : i = j
        · subst e
          rw [List.getElem?_set_self (by rw [hl']; exact hi4)] at hy
          obtain rfl := Option.some.inj hy
          exact ⟨inv', hown'⟩
        · rw [List.getElem?_set_ne e, hj j (fun e2 => e e2.symm)] at hy
          exact ⟨((L.i j y hy).1).more (by omega), (L.i j y hy).2⟩⟩ (by omega) w'')
    by_cases d0 : o.kind = 0
    · rw [dec_t d0, cond_t]
      have e : decide (o.kind = 0 ∨ o.kind = 1) = true := dec_t (.inl d0)
      rw [e] at step
      exact step
    · rw [dec_f d0, cond_f]
      have e : decide (o.kind = 0 ∨ o.kind = 1) = decide (o.kind = 1) := by
        by_cases d1 : o.kind = 1
        · rw [dec_t d1, dec_t (.inr d1)]
        · rw [dec_f d1, dec_f (by omega)]
      rw [e] at step
      exact step
/-- the four, as they begin -/
theorem begins (hl2 : l2 = ops.length) {clk : Int} : ∀ (n k : Nat) {h : AH} {l : List It} {us vs : List Value} {F : List Asr}, 4 - k = n → k ≤ 4 → l.length = k → us.length = 4 → vs.length = 4 → (∀ (j : Nat) x, l[j]? = some x → TInv 6 x.m 0 ∧ x.m.owner = j + 1) → us.take k = l.map (fun x => ptr x.t) → vs.take k = l.map (fun x => ptr x.r) →
    H h (aMem p q (List.replicate 6 ⟨0, 0, 0⟩) clk :: aMem p' q' (List.replicate 6 ⟨0, 0, 0⟩) clk :: Cs tb us 4 :: Cs ub vs 4 :: aRd a1 (ops.flatMap encOp) :: Lay (l.map (aPair p p')) :: F) →
    Ok (law16_Tl2Runs_L3 (some ⟨p, 0, none⟩) (some ⟨p', 0, none⟩) a1 l2 c3 (some ⟨tb, 0, none⟩) (some ⟨ub, 0, none⟩) (k : Nat) h) Q := by
  intro n
  induction n with
  | zero =>
    intro k h l us vs F hn hk hl hu hv L eu ev w
    refine Ok.le ?_ law16_Tl2Runs_L3_le
    refine Ok.le ?_ law16_Tl2Runs_j16_le
    rw [dec_f (by omega), cond_f]
    refine Ok.le ?_ law16_Tl2Runs_j12_le
    have hk4 : k = 4 := by omega
    subst hk4
    rw [List.take_of_length_le (by omega)] at eu ev
    rw [eu, ev] at w
    exact calls hl2 _ 0 rfl (by omega) (by simp) ⟨hl, L⟩ (by omega) w
  | succ n ih =>
    intro k h l us vs F hn hk hl hu hv L eu ev w
    refine Ok.le ?_ law16_Tl2Runs_L3_le
    refine Ok.le ?_ law16_Tl2Runs_j16_le
    rw [dec_t (by omega), cond_t]
    refine Ok.le ?_ law16_Tl2Runs_j15_le
    have hb : inB ((k : Nat) : Int) 4 = true := inB_t (by omega) (by omega)
    rw [show IntKind.wrap .i64 (((k : Nat) : Int) + 1) = (k : Int) + 1 by rw [wrap64 (by omega) (by omega)]]
    refine Ok.bind (MBegin w (o := (k : Int) + 1) (by omega)) ?_
    rintro _ h2 ⟨t2, rfl, w2⟩
    simp only [asTu_t, hdO_c, asP_p, asI_i64, Option.bind_some, List.isEmpty_nil, cond_t]
    refine Ok.bind (RNew (w2.mv 2 rfl) (o := (k : Int) + 1) (by omega)) ?_
    rintro _ h3 ⟨r2, rfl, w3⟩
    simp only [asTu_t, hdO_c, asP_p, asI_i64, Option.bind_some, List.isEmpty_nil, cond_t, decide_true, Bool.not_true, cond_f]
    refine Ok.le ?_ law16_Tl2Runs_j14_le
    obtain ⟨h4, e4, w4, _⟩ := (w3.mv 4 rfl : H h3 (Cs tb us 4 :: _)).st (o := 0 + k * 1) [ptr t2] (by simp; omega)
    obtain ⟨h5, e5, w5, _⟩ := (w4.mv 5 rfl : H h4 (Cs ub vs 4 :: _)).st (o := 0 + k * 1) [ptr r2] (by simp; omega)
    simp only [Option.bind_some, hb, cond_t, Int.toNat_natCast, e4, e5]
    refine Ok.le ?_ law16_Tl2Runs_j13_le
    rw [show IntKind.wrap .i64 (((k : Nat) : Int) + 1) = ((k + 1 : Nat) : Int) by rw [wrap64 (by omega) (by omega)]; omega]
    have w5' : H h5 (aTX p t2 (TM.new ((k : Int) + 1) clk) :: aRX p' r2 (TM.new ((k : Int) + 1) clk) :: Lay (l.map (aPair p p')) :: aMem p q (List.replicate 6 ⟨0, 0, 0⟩) clk :: aMem p' q' (List.replicate 6 ⟨0, 0, 0⟩) clk :: Cs tb (AH.setL us (0 + k * 1) [ptr t2]) 4 :: Cs ub (AH.setL vs (0 + k * 1) [ptr r2]) 4 :: aRd a1 (ops.flatMap encOp) :: F) := w5.pm [4, 2, 7, 5, 3, 1, 0, 6]
    have w6 : H h5 (aPair p p' ⟨t2, r2, TM.new ((k : Int) + 1) clk⟩ :: Lay (l.map (aPair p p')) :: aMem p q (List.replicate 6 ⟨0, 0, 0⟩) clk :: aMem p' q' (List.replicate 6 ⟨0, 0, 0⟩) clk :: Cs tb (AH.setL us (0 + k * 1) [ptr t2]) 4 :: Cs ub (AH.setL vs (0 + k * 1) [ptr r2]) 4 :: aRd a1 (ops.flatMap encOp) :: F) := H.cls (L := [aTX p t2 (TM.new ((k : Int) + 1) clk), aRX p' r2 (TM.new ((k : Int) + 1) clk)]) w5'
    have w7 := H.snoc_i (f := aPair p p') (l := l) (x := ⟨t2, r2, TM.new ((k : Int) + 1) clk⟩) w6
    have set_take : ∀ (us : List Value) (x : Value), us.length = 4 → (AH.setL us (0 + k * 1) [x]).take (k + 1) = us.take k ++ [x] := fun us x hu => by
      have : AH.setL us (0 + k * 1) [x] = us.set k x := by rw [Nat.zero_add, Nat.mul_one]; rfl
      rw [this, List.take_add_one, List.take_set_of_le (Nat.le_refl _), List.getElem?_set_self (by omega)]; rfl
    refine ih (k + 1) (l := l ++ [It.mk t2 r2 (TM.new ((k : Int) + 1) clk)]) (us := AH.setL us (0 + k * 1) [ptr t2]) (vs := AH.setL vs (0 + k * 1) [ptr r2]) (F := F) (by omega) (by omega) (by simp [hl]) (by rw [AH.setL_length]; exact hu) (by rw [AH.setL_length]; exact hv) ?_ ?_ ?_ (w7.pm [1, 2, 3, 4, 5, 0])
    · intro j x hx
      by_cases e : j < l.length
      · rw [List.getElem?_append_left e] at hx; exact L j x hx
      · rw [List.getElem?_append_right (by omega)] at hx
        have : j - l.length = 0 := by
          by_cases e2 : j - l.length = 0
          · exact e2
          · rw [List.getElem?_eq_none (by simp; omega)] at hx; cases hx
        rw [this] at hx
        obtain rfl : _ = x := by simpa using hx
        have hjk : j = k := by omega
        subst hjk
        exact ⟨TInv.new (by omega), rfl⟩
    · rw [set_take us _ hu, eu]; simp
    · rw [set_take vs _ hv, ev]; simp
end
theorem main (h : AH) {a1 : Option Addr} {l2 c3 : Nat} {ops : List Op} (hs1 : SlIn h encOp (fun _ => True) a1 l2 c3 ops) : Ok (C k_law16_Tl2Runs [.slice a1 l2 c3] h) Q := by
  have w : H h [aRds [(a1, ops.flatMap encOp)]] := H.args (by
    intro p hp
    simp only [List.mem_cons, List.not_mem_nil, or_false] at hp
    subst hp; exact hs1.rd)
  have w0 : H h [aRd a1 (ops.flatMap encOp)] := H.one (fun b hb => hs1.rd.live b hb) fun h' hg => hs1.rd.same2 hg
  refine Ok.le ?_ law16_Tl2Runs_le
  unfold F_law16_Tl2Runs
  rcases new_ok h 6 with ⟨hbad, _⟩ | ⟨_, _, h1, e1, M1, f1, n1⟩
  · omega
  have w1 : H h1 (aMem (h.n + 1) h.n (List.replicate 6 ⟨0, 0, 0⟩) 0 :: _) := w0.fresh f1.n (fun b hb => f1.g b hb (by simp)) (fun b hb => by omega) M1.live fun h'' hg => M1.same2 hg
  rcases rnew_ok h1 6 with ⟨hbad, _⟩ | ⟨_, _, h2, e2, M2, f2, n2⟩
  · omega
  have w2 : H h2 (aMem (h1.n + 1) h1.n (List.replicate 6 ⟨0, 0, 0⟩) 0 :: _) := w1.fresh f2.n (fun b hb => f2.g b hb (by simp)) (fun b hb => by omega) M2.live fun h'' hg => M2.same2 hg
  simp only [e1, Option.bind_some, asTu_t, hdO_c, asP_p, asI_i64, List.isEmpty_nil, cond_t, e2, decide_true, Bool.not_true, cond_f]
  refine Ok.le ?_ law16_Tl2Runs_j17_le
  have w3 := w2.push (.cells [.pointer none, .pointer none, .pointer none, .pointer none] false false 4)
  generalize hh3 : h2.push (.cells [.pointer none, .pointer none, .pointer none, .pointer none] false false 4) = h3 at w3 ⊢
  have w4 := w3.push (.cells [.pointer none, .pointer none, .pointer none, .pointer none] false false 4)
  have w5 := H.cls (L := []) w4
  exact begins hs1.len _ 0 (l := []) (us := [.pointer none, .pointer none, .pointer none, .pointer none]) (vs := [.pointer none, .pointer none, .pointer none, .pointer none]) rfl (by omega) rfl rfl rfl (fun j x hx => by simp at hx) rfl rfl (w5.pm [4, 3, 2, 1, 5, 0])
end Runs
end Go.Lg.Tryz
