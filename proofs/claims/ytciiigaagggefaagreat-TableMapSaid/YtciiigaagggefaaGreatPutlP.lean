/- The end of a transaction: its plan, its steps; over parts of memory. -/
import Derived.Test.YtciiigaagggefaaGreatPutl
import Derived.Test.YtciiigaagggefaaGreatPuD
namespace Go.Lg.Tryz
set_option linter.unusedVariables false
set_option linter.unusedSimpArgs false
open Go Go.Proofs
namespace Tab
/-- a step of the end -/
inductive Stp where
  | fin
  | lock (i : Int)
  | adv
  | chk (i : Int)
  | pub (i : Int) (k : Nat)
def aStp (tb wb : Nat) (v : Value) : Stp → Asr
  | .fin => fun m => v = fnV (some (k_tl2_Tx_table_Entry_plan_2, [], [ptr tb])) ∧ Lay [] m
  | .lock i => fun m => ∃ fb ib, v = fnV (some (k_tl2_Tx_table_Entry_plan_1_1, [], [ptr fb])) ∧ Lay [Cs fb [fnV (some (k_tl2_Tx_table_Entry_plan_3, [], [ptr tb, ptr ib]))] 1, Cs ib [.int .i64 i] 1] m
  | .adv => fun m => ∃ fb, v = fnV (some (k_tl2_Tx_table_Entry_plan_1_1, [], [ptr fb])) ∧ Lay [Cs fb [fnV (some (k_tl2_Tx_table_Entry_plan_4, [], [ptr tb]))] 1] m
  | .chk i => fun m => ∃ fb ib, v = fnV (some (k_tl2_Tx_table_Entry_plan_1_1, [], [ptr fb])) ∧ Lay [Cs fb [fnV (some (k_tl2_Tx_table_Entry_plan_5, [], [ptr tb, ptr ib]))] 1, Cs ib [.int .i64 i] 1] m
  | .pub i k => fun m => ∃ ib kb, v = fnV (some (k_tl2_Tx_table_Entry_plan_6, [], [ptr tb, ptr ib, ptr kb, ptr wb])) ∧ Lay [Cs ib [.int .i64 i] 1, Cs kb [.int .i64 (k : Nat)] 1] m
def aSs (tb wb : Nat) (l : List (Value × Stp)) : Asr := Lay (l.map fun p => aStp tb wb p.1 p.2)
theorem aSs_snoc {h : AH} {tb wb : Nat} {l : List (Value × Stp)} {v : Value} {s : Stp} {F : List Asr} (w : H h (aSs tb wb l :: aStp tb wb v s :: F)) : H h (aSs tb wb (l ++ [(v, s)]) :: F) := by
  have w1 : H h ((l.map fun p => aStp tb wb p.1 p.2) ++ (aStp tb wb v s :: F)) := w.opn_
  have w2 : H h (((l ++ [(v, s)]).map fun p => aStp tb wb p.1 p.2) ++ F) := by simpa using w1
  exact w2.cls
theorem aSs_cons {h : AH} {tb wb : Nat} {l : List (Value × Stp)} {v : Value} {s : Stp} {F : List Asr} : H h (aSs tb wb ((v, s) :: l) :: F) ↔ H h (aStp tb wb v s :: aSs tb wb l :: F) :=
  ⟨fun w => by
    have w1 : H h (aStp tb wb v s :: ((l.map fun p => aStp tb wb p.1 p.2) ++ F)) := w.opn_
    have w2 : H h ((l.map fun p => aStp tb wb p.1 p.2) ++ (aStp tb wb v s :: F)) := w1.perm (List.perm_middle.symm)
    exact w2.cls.u1, fun w => by
    have w1 : H h ((l.map fun p => aStp tb wb p.1 p.2) ++ (aStp tb wb v s :: F)) := w.u1.opn_
    have w2 : H h ((((v, s) :: l).map fun p => aStp tb wb p.1 p.2) ++ F) := w1.perm List.perm_middle
    exact w2.cls⟩
theorem ldG_of {h : AH} {b o e : Nat} {c : List Value} {op ro : Bool} {f : FuncId × List Value × List Value} (hg : h.get b = some (.cells c op ro e)) (hc : c[o]? = some (fnV (some f))) : h.ldG b o = some (some f) := by
  simp only [AH.ldG, AH.ld_of hg, hc, Option.bind_some]
  rfl
theorem fnQ_some' (c : FuncId × List Value × List Value) : fnQ (fnV (some c)) = some c := rfl
theorem rdI {h : AH} {a : Option Addr} {l : List Int} (hr : Rd h a (l.flatMap encI)) {k : Nat} {x : Int} (hx : l[k]? = some x) : ∃ ad, a = some ad ∧ h.ldI .i64 ad.block (ad.off + k * 1) = some x := by
  have hc : (l.flatMap encI)[k * 1 + 0]? = some (.int .i64 x) := by rw [flat_get_some encI_len (by decide) hx]; rfl
  rcases hr with e | ⟨ad, c, op, ro, e, ha, h1, h2, h3⟩
  · rw [e] at hc; simp at hc
  · have := h3 _ _ hc
    rw [Nat.add_zero] at this
    exact ⟨ad, ha, AH.ldI_of h1 this⟩
section
variable {h h' : AH} {t : Nat} {X : Txc} {σ σ' : St} {q : Nat} {cs : List Cel} {clk : Int} {F : List Asr} {tb wb : Nat} {wa : Option Addr} {wn wc : Nat}
theorem T_st {k : Nat} {v : Value} (w : H h (aT t X :: F)) (X' : Txc) (hk : k + 1 ≤ 8) (e : AH.setL (encX X) (0 + k) [v] = encX X') : ∃ h', h.st t (0 + k) [v] = some h' ∧ H h' (aT t X' :: F) ∧ h'.n = h.n := by
  obtain ⟨h', e1, w1, n1⟩ := w.st (o := 0 + k) [v] (by show 0 + k + 1 ≤ 8; omega)
  rw [e] at w1
  exact ⟨h', e1, w1, n1⟩
/-- what is to be checked is there -/
def Chk (cs : List Cel) : Stp → Prop
  | .chk i => ∃ (j : Nat) (c : Cel), i = (j : Int) ∧ cs[j]? = some c
  | _ => True
/-- what a step does -/
def stepEff (X : Txc) (σ : St) (cs : List Cel) (clk : Int) (n : Nat) : Stp → (Bool × Int) × Txc × List Cel × Int
  | .fin => ((true, 0), { X with ver := X.beg }, cs, clk)
  | .lock i => ((false, (lockM cs i X.owner).1), X, (lockM cs i X.owner).2, clk)
  | .adv => ((false, (advM clk).2.1), { X with ver := (advM clk).1 }, cs, (advM clk).2.2)
  | .chk i => ((false, if (loadM cs i).1.own ≠ 0 ∧ (loadM cs i).1.own ≠ X.owner ∨ (loadM cs i).1.ver ≠ (Mg.alook σ.R i).getD 0 then 131 else 0), X, cs, clk)
  | .pub i k => ((decide ((k : Int) = IntKind.wrap .i64 ((n : Int) - 1)), 0), { X with told := true }, (publishM cs clk i X.owner ((Mg.alook σ.W i).getD E0) X.ver).2, clk)
theorem stp_run {v : Value} {s : Stp} (w : H h (aT t X :: aSet X.s σ :: aMem X.p q cs clk :: Cs tb [ptr t] 1 :: Cs wb [.slice wa wn wc] 1 :: aStp tb wb v s :: F)) (hk : Chk cs s) :
    ∃ f, v = fnV (some f) ∧ hasBody Tryz.prog f.1 = true ∧ Ok (C f.1 (f.2.1 ++ [] ++ f.2.2) h) fun x h' => x = .tuple #[.bool (stepEff X σ cs clk wn s).1.1, .int .i64 (stepEff X σ cs clk wn s).1.2] ∧
      H h' (aT t (stepEff X σ cs clk wn s).2.1 :: aSet X.s σ :: aMem X.p q (stepEff X σ cs clk wn s).2.2.1 (stepEff X σ cs clk wn s).2.2.2 :: Cs tb [ptr t] 1 :: Cs wb [.slice wa wn wc] 1 :: F) := by
  have k11 : hasBody Tryz.prog k_tl2_Tx_table_Entry_plan_1_1 = true := by kernel_rfl
  have k2 : hasBody Tryz.prog k_tl2_Tx_table_Entry_plan_2 = true := by kernel_rfl
  have k3 : hasBody Tryz.prog k_tl2_Tx_table_Entry_plan_3 = true := by kernel_rfl
  have k4 : hasBody Tryz.prog k_tl2_Tx_table_Entry_plan_4 = true := by kernel_rfl
  have k5 : hasBody Tryz.prog k_tl2_Tx_table_Entry_plan_5 = true := by kernel_rfl
  have k6 : hasBody Tryz.prog k_tl2_Tx_table_Entry_plan_6 = true := by kernel_rfl
  cases s with
  | fin =>
    obtain ⟨rfl, w1⟩ := (w.mv 5 rfl : H h (aStp tb wb v .fin :: _)).pu
    have w2 : H h (aT t X :: aSet X.s σ :: aMem X.p q cs clk :: Cs tb [ptr t] 1 :: Cs wb [.slice wa wn wc] 1 :: F) := w1.opn_
    refine ⟨_, rfl, k2, ?_⟩
    refine Ok.le ?_ tl2_Tx_table_Entry_plan_2_le
    obtain ⟨h1, e1, w3, _⟩ := T_st (k := 7) (v := .int .i64 X.beg) w2 { X with ver := X.beg } (by decide) rfl
    simp only [F_tl2_Tx_table_Entry_plan_2, Option.bind_some, AH.ldP_of (o := 0) (w2.g 3 rfl) rfl, T2 w2, e1]
    exact Ok.some ⟨rfl, w3⟩
  | lock i =>
    obtain ⟨fb, w1⟩ := (w.mv 5 rfl : H h (aStp tb wb v (.lock i) :: _)).ex
    obtain ⟨ib, w1⟩ := w1.ex
    obtain ⟨rfl, w1⟩ := w1.pu
    have w2 := w1.opn_.pm [2, 3, 4, 5, 6, 0, 1]
    refine ⟨_, rfl, k11, ?_⟩
    refine Ok.le ?_ tl2_Tx_table_Entry_plan_1_1_le
    simp only [F_tl2_Tx_table_Entry_plan_1_1, Option.bind_some, ldG_of (o := 0) (w2.g 5 rfl) (f := (k_tl2_Tx_table_Entry_plan_3, [], [ptr tb, ptr ib])) rfl, fnQ_some', k3, cond_t, List.nil_append]
    refine Ok.bind (Q := fun x h' => x = .int .i64 (lockM cs i X.owner).1 ∧ H h' (aMem X.p q (lockM cs i X.owner).2 clk :: aT t X :: aSet X.s σ :: Cs tb [ptr t] 1 :: Cs wb [.slice wa wn wc] 1 :: Cs fb [fnV (some (k_tl2_Tx_table_Entry_plan_3, [], [ptr tb, ptr ib]))] 1 :: Cs ib [.int .i64 i] 1 :: F)) ?_ ?_
    · refine Ok.le ?_ tl2_Tx_table_Entry_plan_3_le
      simp only [F_tl2_Tx_table_Entry_plan_3, Option.bind_some, AH.ldP_of (o := 0) (w2.g 3 rfl) rfl, T0 w2, T1 w2, AH.ldI_of (k := .i64) (o := 0) (w2.g 6 rfl) rfl]
      refine Ok.bind (mem_run (S := [q]) (by simp) (w2.mv 2 rfl) fun m => lock_ok m i X.owner) ?_
      rintro _ h2 ⟨rfl, w3⟩
      simp only [asI_i64, Option.bind_some]
      exact Ok.some ⟨rfl, w3⟩
    · rintro _ h2 ⟨rfl, w3⟩
      simp only [asI_i64, Option.bind_some]
      exact Ok.some ⟨rfl, (w3.pm [1, 2, 0, 3, 4, 5, 6]).rm 5 rfl |>.rm 5 rfl⟩
  | adv =>
    obtain ⟨fb, w1⟩ := (w.mv 5 rfl : H h (aStp tb wb v .adv :: _)).ex
    obtain ⟨rfl, w1⟩ := w1.pu
    have w2 := w1.opn_.pm [1, 2, 3, 4, 5, 0]
    refine ⟨_, rfl, k11, ?_⟩
    refine Ok.le ?_ tl2_Tx_table_Entry_plan_1_1_le
    simp only [F_tl2_Tx_table_Entry_plan_1_1, Option.bind_some, ldG_of (o := 0) (w2.g 5 rfl) (f := (k_tl2_Tx_table_Entry_plan_4, [], [ptr tb])) rfl, fnQ_some', k4, cond_t, List.nil_append]
    refine Ok.bind (Q := fun x h' => x = .int .i64 (advM clk).2.1 ∧ H h' (aT t { X with ver := (advM clk).1 } :: aSet X.s σ :: aMem X.p q cs (advM clk).2.2 :: Cs tb [ptr t] 1 :: Cs wb [.slice wa wn wc] 1 :: Cs fb [fnV (some (k_tl2_Tx_table_Entry_plan_4, [], [ptr tb]))] 1 :: F)) ?_ ?_
    · refine Ok.le ?_ tl2_Tx_table_Entry_plan_4_le
      simp only [F_tl2_Tx_table_Entry_plan_4, Option.bind_some, AH.ldP_of (o := 0) (w2.g 3 rfl) rfl, T0 w2]
      refine Ok.bind (mem_run (S := [X.p]) (by simp) (w2.mv 2 rfl) fun m => adv_ok m) ?_
      rintro _ h2 ⟨rfl, w3⟩
      have w4 := w3.pm [1, 2, 0, 3, 4, 5]
      obtain ⟨h3, e3, w5, _⟩ := T_st (k := 7) (v := .int .i64 (advM clk).1) w4 { X with ver := (advM clk).1 } (by decide) rfl
      simp only [asTu_t, hdO_c, asI_i64, Option.bind_some, List.isEmpty_nil, cond_t, AH.ldP_of (o := 0) (w4.g 3 rfl) rfl, e3]
      exact Ok.some ⟨rfl, w5⟩
    · rintro _ h2 ⟨rfl, w3⟩
      simp only [asI_i64, Option.bind_some]
      exact Ok.some ⟨rfl, w3.rm 5 rfl⟩
  | chk i =>
    obtain ⟨fb, w1⟩ := (w.mv 5 rfl : H h (aStp tb wb v (.chk i) :: _)).ex
    obtain ⟨ib, w1⟩ := w1.ex
    obtain ⟨rfl, w1⟩ := w1.pu
    have w2 : H h (aT t X :: aSet X.s σ :: aMem X.p q cs clk :: Cs tb [ptr t] 1 :: Cs wb [.slice wa wn wc] 1 :: Cs fb [fnV (some (k_tl2_Tx_table_Entry_plan_5, [], [ptr tb, ptr ib]))] 1 :: Cs ib [.int .i64 i] 1 :: F) := w1.opn_.pm [2, 3, 4, 5, 6, 0, 1]
    refine ⟨_, rfl, k11, ?_⟩
    refine Ok.le ?_ tl2_Tx_table_Entry_plan_1_1_le
    simp only [F_tl2_Tx_table_Entry_plan_1_1, Option.bind_some, ldG_of (o := 0) (w2.g 5 rfl) (f := (k_tl2_Tx_table_Entry_plan_5, [], [ptr tb, ptr ib])) rfl, fnQ_some', k5, cond_t, List.nil_append]
    obtain ⟨jn, c, rfl, hc⟩ := hk
    have hlm : loadM cs (jn : Int) = (c, 0) := by
      have := (List.getElem?_eq_some_iff.mp hc).1
      unfold loadM
      rw [if_neg (by omega), Int.toNat_natCast, hc]
    refine Ok.bind (Q := fun x h' => x = .int .i64 (stepEff X σ cs clk wn (.chk jn)).1.2 ∧ H h' (aT t X :: aSet X.s σ :: aMem X.p q cs clk :: Cs tb [ptr t] 1 :: Cs wb [.slice wa wn wc] 1 :: Cs fb [fnV (some (k_tl2_Tx_table_Entry_plan_5, [], [ptr tb, ptr ib]))] 1 :: Cs ib [.int .i64 (jn : Int)] 1 :: F)) ?_ ?_
    · refine Ok.le ?_ tl2_Tx_table_Entry_plan_5_le
      simp only [F_tl2_Tx_table_Entry_plan_5, Option.bind_some, AH.ldP_of (o := 0) (w2.g 3 rfl) rfl, T0 w2, AH.ldI_of (k := .i64) (o := 0) (w2.g 6 rfl) rfl]
      refine Ok.bind (mload_ok (w2.mv 2 rfl) hc) ?_
      rintro _ h3 ⟨rfl, w3⟩
      have w3o : H h3 (aT t X :: aSet X.s σ :: aMem X.p q cs clk :: Cs tb [ptr t] 1 :: Cs wb [.slice wa wn wc] 1 :: Cs fb [fnV (some (k_tl2_Tx_table_Entry_plan_5, [], [ptr tb, ptr ib]))] 1 :: Cs ib [.int .i64 (jn : Int)] 1 :: F) := w3.pm [1, 2, 0]
      simp only [asTu_t, hdO_c, asAg_t, asB_b, asStr_s, asI_i64, List.isEmpty_nil, cond_t, Option.bind_some]
      have w4 := w3o.push (.cells [.bool false, .string (ByteArray.mk #[]), .string (ByteArray.mk #[])] false false 3)
      obtain ⟨h5, e5, w5, _⟩ := w3o.var [.bool false, .string (ByteArray.mk #[]), .string (ByteArray.mk #[])] (cE c.v) 3 rfl
      obtain ⟨A, Aw, qs⟩ := set_sf (w5.mv 2 rfl)
      have w5t : H h5 (aT t X :: _) := w5.mv 1 rfl
      have w4t : H _ (aT t X :: _) := w4.mv 1 rfl
      simp only [AH.ldI_of (k := .i64) (o := 0) (w4.g 7 rfl) rfl, Option.bind_some, veqO_int, cond_t, T0 w4t, veqO_ptr, AH.ldP_of (o := 0) (w4.g 4 rfl) rfl, e5, AH.ldP_of (o := 0) (w5.g 4 rfl) rfl, T3 w5t, AH.ldI_of (k := .i64) (o := 0) (w5.g 7 rfl) rfl, sSeen qs, asTu_t, hdO_c, asI_i64, asB_b, List.isEmpty_nil, T1 w5t, stepEff, hlm]
      by_cases c1 : c.own = 0
      · rw [dec_t c1, Bool.not_true, cond_f]
        by_cases c2 : c.ver = (Mg.alook σ.R (jn : Int)).getD 0
        · rw [dec_t c2, Bool.not_true, cond_f, if_neg (by simp [c1, c2])]
          exact Ok.le (Ok.some ⟨rfl, w5.drop⟩) tl2_Tx_table_Entry_plan_5_j1_le
        · rw [dec_f c2, Bool.not_false, cond_t, if_pos (.inr c2)]
          exact Ok.some ⟨rfl, w5.drop⟩
      · rw [dec_f c1, Bool.not_false, cond_t]
        by_cases c3 : c.own = X.owner
        · rw [dec_t c3, Bool.not_true, cond_f]
          by_cases c2 : c.ver = (Mg.alook σ.R (jn : Int)).getD 0
          · rw [dec_t c2, Bool.not_true, cond_f, if_neg (by simp [c3, c2])]
            exact Ok.le (Ok.some ⟨rfl, w5.drop⟩) tl2_Tx_table_Entry_plan_5_j1_le
          · rw [dec_f c2, Bool.not_false, cond_t, if_pos (.inr c2)]
            exact Ok.some ⟨rfl, w5.drop⟩
        · rw [dec_f c3, Bool.not_false, cond_t, if_pos (.inl ⟨c1, c3⟩)]
          exact Ok.some ⟨rfl, w5.drop⟩
    · rintro _ h9 ⟨rfl, w9⟩
      simp only [asI_i64, Option.bind_some]
      exact Ok.some ⟨rfl, (w9.rm 5 rfl).rm 5 rfl⟩
  | pub i k =>
    obtain ⟨ib, w1⟩ := (w.mv 5 rfl : H h (aStp tb wb v (.pub i k) :: _)).ex
    obtain ⟨kb, w1⟩ := w1.ex
    obtain ⟨rfl, w1⟩ := w1.pu
    have w2 : H h (aT t X :: aSet X.s σ :: aMem X.p q cs clk :: Cs tb [ptr t] 1 :: Cs wb [.slice wa wn wc] 1 :: Cs ib [.int .i64 i] 1 :: Cs kb [.int .i64 (k : Nat)] 1 :: F) := w1.opn_.pm [2, 3, 4, 5, 6, 0, 1]
    refine ⟨_, rfl, k6, ?_⟩
    refine Ok.le ?_ tl2_Tx_table_Entry_plan_6_le
    simp only [F_tl2_Tx_table_Entry_plan_6, List.nil_append, Option.bind_some, AH.ldP_of (o := 0) (w2.g 3 rfl) rfl, T3 w2, AH.ldI_of (k := .i64) (o := 0) (w2.g 5 rfl) rfl]
    refine Ok.bind (sValue (w2.mv 1 rfl) i) ?_
    rintro _ h3 ⟨rfl, w3⟩
    obtain ⟨x, hx⟩ : ∃ x, x = (Mg.alook σ.W i).getD E0 := ⟨_, rfl⟩
    simp only [stepEff]
    rw [← hx]
    have w3o : H h3 (aT t X :: aSet X.s σ :: aMem X.p q cs clk :: Cs tb [ptr t] 1 :: Cs wb [.slice wa wn wc] 1 :: Cs ib [.int .i64 i] 1 :: Cs kb [.int .i64 (k : Nat)] 1 :: F) := w3.pm [1, 0]
    simp only [asTu_t, hdO_c, asAg_t, asB_b, asStr_s, asI_i64, List.isEmpty_nil, cond_t, Option.bind_some]
    have w4 := w3o.push (.cells [.bool false, .string (ByteArray.mk #[]), .string (ByteArray.mk #[])] false false 3)
    obtain ⟨h5, e5, w5, _⟩ := w3o.var [.bool false, .string (ByteArray.mk #[]), .string (ByteArray.mk #[])] (cE x) 3 rfl
    have w5t : H h5 (aT t X :: _) := w5.mv 1 rfl
    have w4t : H _ (aT t X :: _) := w4.mv 1 rfl
    obtain ⟨h6, e6, w6, _⟩ := T_st (k := 6) (v := .bool true) w5t { X with told := true } (by decide) rfl
    have w6o : H h6 (aT t { X with told := true } :: Cs h3.n (cE x) 3 :: aSet X.s σ :: aMem X.p q cs clk :: Cs tb [ptr t] 1 :: Cs wb [.slice wa wn wc] 1 :: Cs ib [.int .i64 i] 1 :: Cs kb [.int .i64 (k : Nat)] 1 :: F) := w6
    have g6 := w6o.g 1 rfl
    simp only [AH.ldI_of (k := .i64) (o := 0) (w4.g 6 rfl) rfl, Option.bind_some, veqO_int, cond_t, T3 w4t, veqO_ptr, AH.ldP_of (o := 0) (w4.g 4 rfl) rfl, e5, AH.ldP_of (o := 0) (w5.g 4 rfl) rfl, e6, AH.ldP_of (o := 0) (w6o.g 4 rfl) rfl, T0 w6o, T1 w6o, T7 w6o, AH.ldI_of (k := .i64) (o := 0) (w6o.g 6 rfl) rfl,
      AH.ldB_of g6 (o := 0) rfl, AH.ldStr_of g6 (o := 0 + 1) rfl, AH.ldStr_of g6 (o := 0 + 2) rfl]
    refine Ok.bind (publish_ok (w6o.mv 3 rfl) i X.owner x X.ver) ?_
    rintro _ h7 ⟨rfl, w7⟩
    have w8 : H h7 (aT t { X with told := true } :: aSet X.s σ :: aMem X.p q (publishM cs clk i X.owner x X.ver).2 clk :: Cs tb [ptr t] 1 :: Cs wb [.slice wa wn wc] 1 :: Cs ib [.int .i64 i] 1 :: Cs kb [.int .i64 (k : Nat)] 1 :: Cs h3.n (cE x) 3 :: F) := w7.pm [1, 3, 0, 4, 5, 6, 7, 2]
    simp only [asI_i64, Option.bind_some, AH.ldI_of (k := .i64) (o := 0) (w8.g 6 rfl) rfl, AH.ldS_of (o := 0) (w8.g 4 rfl) rfl]
    exact Ok.some ⟨rfl, ((w8.rm 5 rfl).rm 5 rfl).rm 5 rfl⟩
/-- a step is put behind the others -/
theorem plan1 {vs : List Value} (w : H h (aT t X :: Cs tb [ptr t] 1 :: aOw 1 X.la X.ln X.lc vs :: F)) (hn : X.ln < 1000000) {f : FuncId × List Value × List Value} (hf : (cellOk (fnV (some f)) && [fnV (some f)].all cellOk) = true) :
    Ok (C k_tl2_Tx_table_Entry_plan_1 [fnV (some f), ptr tb] h) fun x h' => x = .tuple #[] ∧ ∃ fb la, H h' (aT t { X with la := la, ln := X.ln + 1, lc := opn } :: Cs tb [ptr t] 1 :: aOw 1 la (X.ln + 1) opn (vs ++ [fnV (some (k_tl2_Tx_table_Entry_plan_1_1, [], [ptr fb]))]) :: Cs fb [fnV (some f)] 1 :: F) := by
  refine Ok.le ?_ tl2_Tx_table_Entry_plan_1_le
  unfold F_tl2_Tx_table_Entry_plan_1
  rw [hf, cond_t]
  have w4 := w.push (.cells [fnV (some f)] false false 1)
  generalize hh4 : h.push (.cells [fnV (some f)] false false 1) = h4 at w4 ⊢
  have w11 := w4.push (.cells [fnV (some (k_tl2_Tx_table_Entry_plan_1_1, [], [ptr h.n]))] false false 1)
  obtain ⟨a', h17, e17, w17, _⟩ := (w4.mv 3 rfl : H h4 (aOw 1 X.la X.ln X.lc vs :: _)).app (by_ := 8) (xs := [fnV (some (k_tl2_Tx_table_Entry_plan_1_1, [], [ptr h.n]))]) (c' := 1) rfl (by decide) (by omega) (by omega)
  generalize hh11 : h4.push (.cells [fnV (some (k_tl2_Tx_table_Entry_plan_1_1, [], [ptr h.n]))] false false 1) = h11 at w11 e17
  have hh11' : h4.push (.cells [fnV (some (k_tl2_Tx_table_Entry_plan_1_1, [], [.pointer (some ⟨h.n, 0, none⟩)]))] false false 1) = h11 := hh11
  obtain ⟨h22, e22, w22, _⟩ := T_st (k := 5) (v := .slice a' (X.ln + 1) opn) (w17.mv 2 rfl) { X with la := a', ln := X.ln + 1, lc := opn } (by decide) rfl
  simp only [hh11', Option.bind_some, AH.ldP_of (o := 0) (w4.g 2 rfl) rfl, T5 (w4.mv 1 rfl), AH.ldP_of (o := 0) (w11.g 3 rfl) rfl, T5 (w11.mv 2 rfl), veqO_slice, veqO_ptr, cond_t, e17, asS_s, AH.ldP_of (o := 0) (w17.g 3 rfl) rfl, e22]
  exact Ok.some ⟨rfl, h.n, a', w22.pm [0, 3, 1, 2]⟩
def mapF (l : List (Value × Stp)) : List Value := l.map Prod.fst
abbrev PLs (t tb wb : Nat) (X : Txc) (l : List (Value × Stp)) (wa ra : Option Addr) (wn wc rn rc : Nat) (W R : List Int) : List Asr :=
  [aT t X, Cs tb [ptr t] 1, aOw 1 X.la X.ln X.lc (mapF l), aSs tb wb l, Cs wb [.slice wa wn wc] 1, aOw 1 wa wn wc (W.flatMap encI), aOw 1 ra rn rc (R.flatMap encI)]
variable {ra : Option Addr} {rn rc : Nat} {W R : List Int}
theorem mapF_snoc (l : List (Value × Stp)) (v : Value) (s : Stp) : mapF (l ++ [(v, s)]) = mapF l ++ [v] := by simp [mapF]
/-- a wrapped step is put behind the others -/
theorem planW {l : List (Value × Stp)} {f : FuncId × List Value × List Value} {s : Stp} {E : List Asr} (hE : ∀ fb m, Lay (Cs fb [fnV (some f)] 1 :: E) m → aStp tb wb (fnV (some (k_tl2_Tx_table_Entry_plan_1_1, [], [ptr fb]))) s m)
    (w : H h (PLs t tb wb X l wa ra wn wc rn rc W R ++ (Lay E :: F))) (hn : X.ln < 1000000) (hf : (cellOk (fnV (some f)) && [fnV (some f)].all cellOk) = true) :
    Ok (C k_tl2_Tx_table_Entry_plan_1 [fnV (some f), ptr tb] h) fun x h' => x = .tuple #[] ∧ ∃ v la, H h' (PLs t tb wb { X with la := la, ln := X.ln + 1, lc := opn } (l ++ [(v, s)]) wa ra wn wc rn rc W R ++ F) := by
  refine Ok.mono (plan1 w hn hf) ?_
  rintro x h' ⟨rfl, fb, la, w1⟩
  refine ⟨rfl, fnV (some (k_tl2_Tx_table_Entry_plan_1_1, [], [ptr fb])), la, ?_⟩
  have w2 := w1.pm [3, 8, 0, 1, 2, 4, 5, 6, 7]
  have w3 : H h' (Lay (Cs fb [fnV (some f)] 1 :: E) :: _) := (w2.u1.opn_.perm (List.perm_middle (l₁ := E)) : H h' (Cs fb [fnV (some f)] 1 :: (E ++ _))).cls (L := Cs fb [fnV (some f)] 1 :: E)
  have w4 := w3.imp (hE fb)
  have w5 := aSs_snoc (w4.u4)
  have w6 := w5.pm [1, 2, 3, 0, 4, 5, 6]
  have e := mapF_snoc l (fnV (some (k_tl2_Tx_table_Entry_plan_1_1, [], [ptr fb]))) s
  simp only [PLs]
  rw [e]
  exact w6
theorem lockE (fb ib : Nat) (i : Int) (m : Hp) (h : Lay (Cs fb [fnV (some (k_tl2_Tx_table_Entry_plan_3, [], [ptr tb, ptr ib]))] 1 :: [Cs ib [.int .i64 i] 1]) m) : aStp tb wb (fnV (some (k_tl2_Tx_table_Entry_plan_1_1, [], [ptr fb]))) (.lock i) m := ⟨fb, ib, rfl, h⟩
theorem chkE (fb ib : Nat) (i : Int) (m : Hp) (h : Lay (Cs fb [fnV (some (k_tl2_Tx_table_Entry_plan_5, [], [ptr tb, ptr ib]))] 1 :: [Cs ib [.int .i64 i] 1]) m) : aStp tb wb (fnV (some (k_tl2_Tx_table_Entry_plan_1_1, [], [ptr fb]))) (.chk i) m := ⟨fb, ib, rfl, h⟩
theorem advE (fb : Nat) (m : Hp) (h : Lay (Cs fb [fnV (some (k_tl2_Tx_table_Entry_plan_4, [], [ptr tb]))] 1 :: []) m) : aStp tb wb (fnV (some (k_tl2_Tx_table_Entry_plan_1_1, [], [ptr fb]))) .adv m := ⟨fb, rfl, h⟩
abbrev stepV (tb : Nat) : Option (FuncId × List Value × List Value) := some (k_tl2_Tx_table_Entry_plan_1, [], [ptr tb])
/-- the publishing steps -/
theorem plan_pubs {Q : Value → AH → Prop} (hW : wn = W.length) (hWl : W.length ≤ 300) : ∀ (n k : Nat) {h : AH} {X : Txc} {l : List (Value × Stp)}, W.length - k = n → k ≤ W.length → X.ln = l.length → X.ln + n < 10000 →
    H h (PLs t tb wb X l wa ra wn wc rn rc W R ++ F) →
    (∀ h' la l', l'.map Prod.snd = l.map Prod.snd ++ ((List.range n).map fun j => Stp.pub (W.getD (k + j) 0) (k + j)) → H h' (PLs t tb wb { X with la := la, ln := l'.length, lc := if n = 0 then X.lc else opn } l' wa ra wn wc rn rc W R ++ F) → Q (.tuple #[]) h') →
    Ok (tl2_Tx_table_Entry_plan_L1 (some ⟨tb, 0, none⟩) (some ⟨wb, 0, none⟩) wa wn wc ((wn : Nat) : Int) (k : Nat) h) Q := by
  subst hW
  intro n
  induction n with
  | zero =>
    intro k h X l hn hk hl hb w K
    refine Ok.le ?_ tl2_Tx_table_Entry_plan_L1_le
    refine Ok.le ?_ tl2_Tx_table_Entry_plan_j3_le
    rw [dec_f (by omega), cond_f]
    refine Ok.some (K h X.la l (by simp) ?_)
    rw [if_pos rfl, ← hl]; exact w
  | succ n ih =>
    intro k h X l hn hk hl hb w K
    refine Ok.le ?_ tl2_Tx_table_Entry_plan_L1_le
    refine Ok.le ?_ tl2_Tx_table_Entry_plan_j3_le
    rw [dec_t (by omega), cond_t]
    refine Ok.le ?_ tl2_Tx_table_Entry_plan_j2_le
    obtain ⟨x, hx⟩ : ∃ x, W[k]? = some x := ⟨_, List.getElem?_eq_getElem (by omega)⟩
    obtain ⟨ad, ha, g0⟩ := rdI ((w.mv 5 rfl : H h (aOw 1 wa W.length wc _ :: _)).ow.rd) hx
    have hb1 : inB ((k : Nat) : Int) W.length = true := inB_t (by omega) (by omega)
    have w86 := (w.push (.cells [.int .i64 0] false false 1)).push (.cells [.int .i64 0] false false 1)
    generalize hh85 : h.push (.cells [.int .i64 0] false false 1) = h85 at w86
    generalize hh86 : h85.push (.cells [.int .i64 0] false false 1) = h86 at w86
    obtain ⟨h87, e87, w87, _⟩ := (w86.u1).st1 (.int .i64 (k : Nat))
    obtain ⟨h88, e88, w88, _⟩ := (w87.u1).st1 (.int .i64 x)
    have w95 := w88.push (.cells [fnV (some (k_tl2_Tx_table_Entry_plan_6, [], [ptr tb, ptr h85.n, ptr h.n, ptr wb]))] false false 1)
    obtain ⟨a', h101, e101, w101, _⟩ := (w88.mv 4 rfl : H h88 (aOw 1 X.la X.ln X.lc (mapF l) :: _)).app (by_ := 8) (xs := [fnV (some (k_tl2_Tx_table_Entry_plan_6, [], [ptr tb, ptr h85.n, ptr h.n, ptr wb]))]) (c' := 1) rfl (by decide) (by omega) (by omega)
    generalize hh95 : h88.push (.cells [fnV (some (k_tl2_Tx_table_Entry_plan_6, [], [ptr tb, ptr h85.n, ptr h.n, ptr wb]))] false false 1) = h95 at w95 e101
    have hh95' : h88.push (.cells [fnV (some (k_tl2_Tx_table_Entry_plan_6, [], [.pointer (some ⟨tb, 0, none⟩), .pointer (some ⟨h85.n, 0, none⟩), .pointer (some ⟨h.n, 0, none⟩), .pointer (some ⟨wb, 0, none⟩)]))] false false 1) = h95 := hh95
    obtain ⟨h106, e106, w106, _⟩ := T_st (k := 5) (v := .slice a' (X.ln + 1) opn) (w101.mv 3 rfl) { X with la := a', ln := X.ln + 1, lc := opn } (by decide) rfl
    rw [ha]
    simp only [Option.bind_some, hb1, cond_t, Int.toNat_natCast, g0, hh85, hh86, e87, e88, AH.ldP_of (o := 0) (w88.g 3 rfl) rfl, T5 (w88.mv 2 rfl), hh95', AH.ldP_of (o := 0) (w95.g 4 rfl) rfl, T5 (w95.mv 3 rfl), veqO_slice, veqO_ptr, e101, asS_s, AH.ldP_of (o := 0) (w101.g 4 rfl) rfl, e106]
    rw [← ha]
    refine Ok.le ?_ tl2_Tx_table_Entry_plan_j1_le
    rw [show IntKind.wrap .i64 (((k : Nat) : Int) + 1) = ((k + 1 : Nat) : Int) by rw [wrap64 (by omega) (by omega)]; omega]
    have w7 := H.cls (L := [Cs h85.n [.int .i64 x] 1, Cs h.n [.int .i64 (k : Nat)] 1]) (w106.pm [2, 3, 0, 4, 1, 5, 6, 7, 8])
    have w8 := w7.imp (B := aStp tb wb (fnV (some (k_tl2_Tx_table_Entry_plan_6, [], [ptr tb, ptr h85.n, ptr h.n, ptr wb]))) (.pub x k)) fun m hm => ⟨h85.n, h.n, rfl, hm⟩
    have w9 := (aSs_snoc w8.u4).pm [1, 2, 3, 0, 4, 5, 6]
    have em := mapF_snoc l (fnV (some (k_tl2_Tx_table_Entry_plan_6, [], [ptr tb, ptr h85.n, ptr h.n, ptr wb]))) (.pub x k)
    refine ih (k + 1) (X := { X with la := a', ln := X.ln + 1, lc := opn }) (l := l ++ [(_, .pub x k)]) (by omega) (by omega) (by simp [hl]) (by show X.ln + 1 + n < 10000; omega) (by simp only [PLs]; rw [em]; exact w9) ?_
    intro h' la l' hl' w'
    refine K h' la l' ?_ ?_
    · rw [hl', List.map_append, List.range_succ_eq_map, List.append_assoc]
      congr 1
      have : W.getD k 0 = x := by rw [List.getD_eq_getElem?_getD, hx]; rfl
      simp only [List.map_cons, List.map_nil, List.map_map, Nat.add_zero, this, List.singleton_append, List.cons.injEq, true_and]
      refine List.map_congr_left fun j _ => ?_
      simp only [Function.comp_apply, Nat.succ_eq_add_one, show k + 1 + j = k + (j + 1) by omega]
    · rw [if_neg (by omega)]
      have : (if n = 0 then opn else opn) = opn := by split <;> rfl
      simp only [this] at w'
      exact w'
/-- the checking steps -/
theorem plan_chks {Q : Value → AH → Prop} (hR : rn = R.length) (hRl : R.length ≤ 300) : ∀ (n k : Nat) {h : AH} {X : Txc} {l : List (Value × Stp)}, R.length - k = n → k ≤ R.length → X.ln = l.length → X.ln + n < 9000 → X.lc = opn →
    H h (PLs t tb wb X l wa ra wn wc rn rc W R ++ F) →
    (∀ h' la l', l'.map Prod.snd = l.map Prod.snd ++ ((R.drop k).map Stp.chk) → H h' (PLs t tb wb { X with la := la, ln := l'.length } l' wa ra wn wc rn rc W R ++ F) → Ok (tl2_Tx_table_Entry_plan_j4 (some ⟨wb, 0, none⟩) h' (some ⟨tb, 0, none⟩)) Q) →
    Ok (tl2_Tx_table_Entry_plan_L2 ra rn (stepV tb) (some ⟨tb, 0, none⟩) rc (some ⟨wb, 0, none⟩) ((rn : Nat) : Int) (k : Nat) h) Q := by
  subst hR
  intro n
  induction n with
  | zero =>
    intro k h X l hn hk hl hb hc w K
    refine Ok.le ?_ tl2_Tx_table_Entry_plan_L2_le
    refine Ok.le ?_ tl2_Tx_table_Entry_plan_j7_le
    rw [dec_f (by omega), cond_f]
    refine K h X.la l (by rw [List.drop_of_length_le (by omega)]; simp) ?_
    rw [← hl]; exact w
  | succ n ih =>
    intro k h X l hn hk hl hb hc w K
    refine Ok.le ?_ tl2_Tx_table_Entry_plan_L2_le
    refine Ok.le ?_ tl2_Tx_table_Entry_plan_j7_le
    rw [dec_t (by omega), cond_t]
    refine Ok.le ?_ tl2_Tx_table_Entry_plan_j6_le
    have k1 : hasBody Tryz.prog k_tl2_Tx_table_Entry_plan_1 = true := by kernel_rfl
    obtain ⟨x, hx⟩ : ∃ x, R[k]? = some x := ⟨_, List.getElem?_eq_getElem (by omega)⟩
    obtain ⟨ad, ha, g0⟩ := rdI ((w.mv 6 rfl : H h (aOw 1 ra R.length rc _ :: _)).ow.rd) hx
    have hb1 : inB ((k : Nat) : Int) R.length = true := inB_t (by omega) (by omega)
    obtain ⟨h69, e69, w69, _⟩ := w.var [.int .i64 0] [.int .i64 x] 1 rfl
    rw [ha]
    simp only [Option.bind_some, hb1, cond_t, Int.toNat_natCast, g0, e69, fnQ_some', k1, List.nil_append]
    rw [← ha]
    have w70 : H h69 (PLs t tb wb X l wa ra wn wc R.length rc W R ++ (Lay [Cs h.n [.int .i64 x] 1] :: F)) := (H.cls (L := [Cs h.n [.int .i64 x] 1]) w69).d7
    refine Ok.bind (planW (E := [Cs h.n [.int .i64 x] 1]) (s := .chk x) (fun fb m hm => chkE fb h.n x m hm) w70 (by omega) rfl) ?_
    rintro _ h2 ⟨rfl, v, la, w2⟩
    simp only [asTu_t, Option.bind_some, List.isEmpty_nil, cond_t]
    refine Ok.le ?_ tl2_Tx_table_Entry_plan_j5_le
    rw [show IntKind.wrap .i64 (((k : Nat) : Int) + 1) = ((k + 1 : Nat) : Int) by rw [wrap64 (by omega) (by omega)]; omega]
    refine ih (k + 1) (X := { X with la := la, ln := X.ln + 1, lc := opn }) (l := l ++ [(v, .chk x)]) (by omega) (by omega) (by simp [hl]) (by show X.ln + 1 + n < 9000; omega) rfl w2 ?_
    intro h' la' l' hl' w'
    refine K h' la' l' ?_ (by rw [← hc] at w'; exact w')
    obtain ⟨hlt, e⟩ := List.getElem?_eq_some_iff.mp hx
    rw [hl', List.map_append, List.append_assoc, List.drop_eq_getElem_cons hlt, e]
    simp only [List.map_cons, List.map_nil, List.singleton_append]
/-- the locking steps -/
theorem plan_locks {Q : Value → AH → Prop} (hW : wn = W.length) (hWl : W.length ≤ 300) : ∀ (n k : Nat) {h : AH} {X : Txc} {l : List (Value × Stp)}, W.length - k = n → k ≤ W.length → X.ln = l.length → X.ln + n < 8000 →
    H h (PLs t tb wb X l wa ra wn wc rn rc W R ++ F) →
    (∀ h' la l', l'.map Prod.snd = l.map Prod.snd ++ ((W.drop k).map Stp.lock) → H h' (PLs t tb wb { X with la := la, ln := l'.length, lc := if n = 0 then X.lc else opn } l' wa ra wn wc rn rc W R ++ F) → Ok (tl2_Tx_table_Entry_plan_j8 (stepV tb) (some ⟨tb, 0, none⟩) h' ra rn rc (some ⟨wb, 0, none⟩)) Q) →
    Ok (tl2_Tx_table_Entry_plan_L3 (stepV tb) (some ⟨tb, 0, none⟩) ra rn rc (some ⟨wb, 0, none⟩) wa wn wc ((wn : Nat) : Int) (k : Nat) h) Q := by
  subst hW
  intro n
  induction n with
  | zero =>
    intro k h X l hn hk hl hb w K
    refine Ok.le ?_ tl2_Tx_table_Entry_plan_L3_le
    refine Ok.le ?_ tl2_Tx_table_Entry_plan_j11_le
    rw [dec_f (by omega), cond_f]
    refine K h X.la l (by rw [List.drop_of_length_le (by omega)]; simp) ?_
    rw [if_pos rfl, ← hl]; exact w
  | succ n ih =>
    intro k h X l hn hk hl hb w K
    refine Ok.le ?_ tl2_Tx_table_Entry_plan_L3_le
    refine Ok.le ?_ tl2_Tx_table_Entry_plan_j11_le
    rw [dec_t (by omega), cond_t]
    refine Ok.le ?_ tl2_Tx_table_Entry_plan_j10_le
    have k1 : hasBody Tryz.prog k_tl2_Tx_table_Entry_plan_1 = true := by kernel_rfl
    obtain ⟨x, hx⟩ : ∃ x, W[k]? = some x := ⟨_, List.getElem?_eq_getElem (by omega)⟩
    obtain ⟨ad, ha, g0⟩ := rdI ((w.mv 5 rfl : H h (aOw 1 wa W.length wc _ :: _)).ow.rd) hx
    have hb1 : inB ((k : Nat) : Int) W.length = true := inB_t (by omega) (by omega)
    obtain ⟨h69, e69, w69, _⟩ := w.var [.int .i64 0] [.int .i64 x] 1 rfl
    rw [ha]
    simp only [Option.bind_some, hb1, cond_t, Int.toNat_natCast, g0, e69, fnQ_some', k1, List.nil_append]
    rw [← ha]
    have w70 : H h69 (PLs t tb wb X l wa ra W.length wc rn rc W R ++ (Lay [Cs h.n [.int .i64 x] 1] :: F)) := (H.cls (L := [Cs h.n [.int .i64 x] 1]) w69).d7
    refine Ok.bind (planW (E := [Cs h.n [.int .i64 x] 1]) (s := .lock x) (fun fb m hm => lockE fb h.n x m hm) w70 (by omega) rfl) ?_
    rintro _ h2 ⟨rfl, v, la, w2⟩
    simp only [asTu_t, Option.bind_some, List.isEmpty_nil, cond_t]
    refine Ok.le ?_ tl2_Tx_table_Entry_plan_j9_le
    rw [show IntKind.wrap .i64 (((k : Nat) : Int) + 1) = ((k + 1 : Nat) : Int) by rw [wrap64 (by omega) (by omega)]; omega]
    refine ih (k + 1) (X := { X with la := la, ln := X.ln + 1, lc := opn }) (l := l ++ [(v, .lock x)]) (by omega) (by omega) (by simp [hl]) (by show X.ln + 1 + n < 8000; omega) w2 ?_
    intro h' la' l' hl' w'
    refine K h' la' l' ?_ ?_
    · obtain ⟨hlt, e⟩ := List.getElem?_eq_some_iff.mp hx
      rw [hl', List.map_append, List.append_assoc, List.drop_eq_getElem_cons hlt, e]
      simp only [List.map_cons, List.map_nil, List.singleton_append]
    · rw [if_neg (by omega)]
      have : (if n = 0 then opn else opn) = opn := by split <;> rfl
      simp only [this] at w'
      exact w'
/-- the steps of an end -/
def planM (W R : List Int) : List Stp := if W = [] then [.fin] else W.map .lock ++ [.adv] ++ R.map .chk ++ ((List.range W.length).map fun j => Stp.pub (W.getD j 0) j)
/-- what is left of the end: closures, in a block that append has made -/
def aLf (la : Option Addr) (ln lc : Nat) (vs : List Value) : Asr := fun m => ∃ b o pre, (la = some ⟨b, o, none⟩ ∧ ln = vs.length ∧ lc = opn ∧ pre.length = o) ∧ Pt b (.cells (pre ++ vs) true false 1) m
theorem lf_of_ow {h : AH} {F : List Asr} {la : Option Addr} {ln lc : Nat} {vs : List Value} (w : H h (aOw 1 la ln lc vs :: F)) (hne : vs ≠ []) : H h (aLf la ln lc vs :: F) := by
  have ho := w.ow
  cases ho with
  | nil => exact absurd rfl hne
  | @mk b _ _ hb hl hn =>
    refine w.imp fun m hm => ⟨b, 0, [], ⟨rfl, by rw [hl, Nat.mul_one], rfl, rfl⟩, ?_⟩
    obtain ⟨hs, hf⟩ := hm
    funext c
    show m c = if c = b then some (.cells ([] ++ vs) true false 1) else none
    by_cases e : c = b
    · subst e
      rw [if_pos rfl]
      obtain ⟨y, hy⟩ := Option.isSome_iff_exists.mp ((hs c).mpr rfl)
      have : Hp.In m ⟨c + 1, T.nil.set c (some y)⟩ := fun c' y' hy' => by
        have : blk (some ⟨c, 0, none⟩) c' := (hs c').mp (by rw [hy']; rfl)
        obtain rfl : c = c' := this
        rw [hy] at hy'
        obtain rfl := Option.some.inj hy'
        exact ⟨(show (T.set T.nil c (some y)).get c = some y from T.get_set_eq _ _ _), Nat.lt_succ_self _⟩
      have h2 := hf _ this
      cases h2 with
      | mk hb2 _ _ =>
        have : (⟨c + 1, T.nil.set c (some y)⟩ : AH).get c = some y := (show (T.set T.nil c (some y)).get c = some y from T.get_set_eq _ _ _)
        rw [this] at hb2
        rw [hy]; simpa using hb2
    · rw [if_neg e]
      cases hm' : m c with
      | none => rfl
      | some y => exact absurd ((hs c).mp (by rw [hm']; rfl)) fun e2 => e (by have : b = c := e2; exact this.symm)
/-- what stands of an end -/
abbrev EndP (t tb wb : Nat) (X : Txc) (l : List (Value × Stp)) (wa : Option Addr) (wn wc : Nat) : List Asr :=
  [Cs tb [ptr t] 1, aLf X.la X.ln X.lc (mapF l), aSs tb wb l, Cs wb [.slice wa wn wc] 1]
theorem _root_.Go.Lg.H.owN {h : AH} {F : List Asr} {a : Option Addr} {n c : Nat} (w : H h F) (e : a = none ∧ n = 0 ∧ c = 0) : H h (aOw 1 a n c [] :: F) := by
  obtain ⟨rfl, rfl, rfl⟩ := e
  exact w.owNil 1
theorem txPlan (w : H h (aT t X :: aSet X.s σ :: F)) (h0 : X.la = none ∧ X.ln = 0 ∧ X.lc = 0) (hw : Wk (σ.W.map Prod.fst)) (hr : Wk (σ.R.map Prod.fst)) (hwl : σ.W.length ≤ 300) (hrl : σ.R.length ≤ 300) :
    Ok (C k_tl2_Tx_table_Entry_plan [ptr t] h) fun x h' => x = .tuple #[] ∧ ∃ tb wb la l wa wc, l.map Prod.snd = planM (sortI (σ.W.map Prod.fst)) (sortI (σ.R.map Prod.fst)) ∧
      H h' (aT t { X with la := la, ln := l.length, lc := opn } :: aSet X.s σ :: EndP t tb wb { X with la := la, ln := l.length, lc := opn } l wa σ.W.length wc ++ F) := by
  have hWl : (sortI (σ.W.map Prod.fst)).length = σ.W.length := by rw [sortI_len, List.length_map]
  have hRl : (sortI (σ.R.map Prod.fst)).length = σ.R.length := by rw [sortI_len, List.length_map]
  refine Ok.le ?_ tl2_Tx_table_Entry_plan_le
  unfold F_tl2_Tx_table_Entry_plan
  have w3 := w.push (.cells [ptr t] false false 1)
  generalize hh3 : h.push (.cells [ptr t] false false 1) = h3 at w3 ⊢
  obtain ⟨A, Aw, qs⟩ := set_sf (w3.mv 2 rfl)
  simp only [AH.ldP_of (o := 0) w3.get rfl, Option.bind_some, T3 (w3.mv 1 rfl)]
  refine Ok.bind (fresh_run w3 (set_writes qs hw (by omega))) ?_
  rintro _ h7 ⟨wa, wc, rfl, _, w7⟩
  obtain ⟨A7, A7w, qs7⟩ := set_sf (w7.mv 3 rfl)
  simp only [asS_s, Option.bind_some, AH.ldP_of (o := 0) (w7.g 1 rfl) rfl, veqO_ptr, cond_t, T3 (w7.mv 2 rfl), T3 (w3.mv 1 rfl), AH.ldP_of (o := 0) w3.get rfl]
  refine Ok.bind (fresh_run w7 (set_reads qs7 hr (by omega))) ?_
  rintro _ h14 ⟨ra, rc, rfl, _, w14⟩
  have w16 := w14.push (.cells [.slice none 0 0] false false 1)
  obtain ⟨h21, e21, w21, _⟩ := w16.st1 (.slice wa σ.W.length wc)
  generalize hh16 : h14.push (.cells [.slice none 0 0] false false 1) = h16 at w16 e21
  simp only [asS_s, Option.bind_some, hh16, AH.ldP_of (o := 0) (w16.g 3 rfl) rfl, veqO_ptr, cond_t, T3 (w16.mv 4 rfl), e21, AH.ldS_of (o := 0) w21.get rfl]
  by_cases c : σ.W.length = 0
  · rw [dec_t (by omega), cond_t]
    have hp : planM (sortI (σ.W.map Prod.fst)) (sortI (σ.R.map Prod.fst)) = [.fin] := by
      unfold planM; rw [if_pos (List.eq_nil_of_length_eq_zero (by rw [hWl, c]))]
    have wN := H.owN w21 h0
    have w27 := w21.push (.cells [fnV (some (k_tl2_Tx_table_Entry_plan_2, [], [ptr h.n]))] false false 1)
    obtain ⟨a', h31, e31, w31, _⟩ := wN.app (by_ := 8) (xs := [fnV (some (k_tl2_Tx_table_Entry_plan_2, [], [ptr h.n]))]) (c' := 1) rfl (by decide) (by rw [h0.2.1]; decide) (by rw [h0.2.1]; decide)
    generalize hh27 : h21.push (.cells [fnV (some (k_tl2_Tx_table_Entry_plan_2, [], [ptr h.n]))] false false 1) = h27 at w27 e31
    have hh27' : h21.push (.cells [fnV (some (k_tl2_Tx_table_Entry_plan_2, [], [.pointer (some ⟨h.n, 0, none⟩)]))] false false 1) = h27 := hh27
    obtain ⟨h35, e35, w35, _⟩ := T_st (k := 5) (v := .slice a' (X.ln + 1) opn) (w31.mv 5 rfl) { X with la := a', ln := X.ln + 1, lc := opn } (by decide) rfl
    simp only [AH.ldP_of (o := 0) (w21.g 3 rfl) rfl, Option.bind_some, T5 (w21.mv 4 rfl), hh27', T5 (w27.mv 5 rfl), veqO_slice, veqO_ptr, cond_t, AH.ldP_of (o := 0) (w27.g 4 rfl) rfl, e31, asS_s, AH.ldP_of (o := 0) (w31.g 4 rfl) rfl, e35]
    refine Ok.some ⟨rfl, h.n, h14.n, a', [(fnV (some (k_tl2_Tx_table_Entry_plan_2, [], [ptr h.n])), .fin)], wa, wc, hp.symm, ?_⟩
    have w36 := lf_of_ow (w35.mv 1 rfl) (by simp)
    have w37 := H.cls (L := [aStp h.n h14.n (fnV (some (k_tl2_Tx_table_Entry_plan_2, [], [ptr h.n]))) .fin]) ((H.cls (L := []) w36 : H h35 (Lay [] :: _)).imp fun m hm => ⟨rfl, hm⟩)
    have w38 := ((w37.pm [2, 7, 6, 1, 0, 3, 4, 5]).rm 6 rfl).rm 6 rfl
    have e1 : X.ln + 1 = 1 := by omega
    rw [e1] at w38
    exact w38
  · rw [dec_f (by omega), cond_f]
    have hne : sortI (σ.W.map Prod.fst) ≠ [] := fun e => by rw [e] at hWl; simp at hWl; omega
    refine Ok.le ?_ tl2_Tx_table_Entry_plan_j12_le
    simp only [Option.bind_some, AH.ldS_of (o := 0) w21.get rfl]
    have wS := H.cls (L := []) (H.owN w21 h0)
    have w22 : H h21 (PLs t h.n h14.n X [] wa ra σ.W.length wc σ.R.length rc (sortI (σ.W.map Prod.fst)) (sortI (σ.R.map Prod.fst)) ++ (aSet X.s σ :: F)) := wS.pm [6, 5, 1, 0, 2, 4, 3, 7]
    refine plan_locks hWl.symm (by omega) _ 0 rfl (by omega) h0.2.1 (by omega) w22 ?_
    intro h2 la2 l2 e2 w2
    refine Ok.le ?_ tl2_Tx_table_Entry_plan_j8_le
    have k1 : hasBody Tryz.prog k_tl2_Tx_table_Entry_plan_1 = true := by kernel_rfl
    simp only [Option.bind_some, fnQ_some', k1, cond_t, List.nil_append]
    have hl2 : l2.length = σ.W.length := by have := congrArg List.length e2; simpa [hWl] using this
    refine Ok.bind (planW (E := []) (s := .adv) (fun fb m hm => advE fb m hm) ((H.cls (L := []) w2).d7) (by show l2.length < 1000000; omega) rfl) ?_
    rintro _ h3' ⟨rfl, v3, la3, w3'⟩
    simp only [asTu_t, Option.bind_some, List.isEmpty_nil, cond_t]
    refine plan_chks hRl.symm (by omega) _ 0 rfl (by omega) (by simp) (by show l2.length + 1 + _ < 9000; rw [hRl]; omega) rfl w3' ?_
    intro h4 la4 l4 e4 w4
    refine Ok.le ?_ tl2_Tx_table_Entry_plan_j4_le
    simp only [Option.bind_some, AH.ldS_of (o := 0) (w4.g 4 rfl) rfl]
    have hl4 : l4.length = σ.W.length + 1 + σ.R.length := by have := congrArg List.length e4; simp [hl2, hRl] at this; omega
    refine plan_pubs hWl.symm (by omega) _ 0 rfl (by omega) rfl (by show l4.length + _ < 10000; rw [hWl]; omega) w4 ?_
    intro h5 la5 l5 e5 w5
    have hc : (if (sortI (σ.W.map Prod.fst)).length - 0 = 0 then opn else opn) = opn := by split <;> rfl
    refine ⟨rfl, h.n, h14.n, la5, l5, wa, wc, ?_, ?_⟩
    · rw [e5, e4, List.map_append, e2]
      unfold planM
      rw [if_neg hne]
      simp
    · simp only [hc] at w5
      have h1 := congrArg List.length e5
      simp only [List.length_map, List.length_append, List.length_range] at h1
      have hl5 : l5 ≠ [] := fun e => by rw [e] at h1; simp at h1; omega
      have w6 := lf_of_ow (w5.mv 2 rfl) (by unfold mapF; intro e; exact hl5 (List.map_eq_nil_iff.mp e))
      exact ((w6.pm [1, 7, 2, 0, 3, 4, 5, 6]).rm 6 rfl).rm 6 rfl
theorem eff_keep (X : Txc) (σ : St) (cs : List Cel) (clk : Int) (n : Nat) (s : Stp) : (stepEff X σ cs clk n s).2.1.p = X.p ∧ (stepEff X σ cs clk n s).2.1.s = X.s ∧ (stepEff X σ cs clk n s).2.1.owner = X.owner ∧ (stepEff X σ cs clk n s).2.1.st = X.st ∧ (stepEff X σ cs clk n s).2.1.la = X.la ∧ (stepEff X σ cs clk n s).2.1.ln = X.ln ∧ (stepEff X σ cs clk n s).2.1.lc = X.lc ∧ (stepEff X σ cs clk n s).2.2.1.length = cs.length := by
  cases s with
  | lock i =>
    refine ⟨rfl, rfl, rfl, rfl, rfl, rfl, rfl, ?_⟩
    show (lockM cs i X.owner).2.length = _
    unfold lockM
    repeat' split
    all_goals simp
  | pub i k =>
    refine ⟨rfl, rfl, rfl, rfl, rfl, rfl, rfl, ?_⟩
    show (publishM cs clk i X.owner _ X.ver).2.length = _
    unfold publishM
    repeat' split
    all_goals simp
  | fin => exact ⟨rfl, rfl, rfl, rfl, rfl, rfl, rfl, rfl⟩
  | adv => exact ⟨rfl, rfl, rfl, rfl, rfl, rfl, rfl, rfl⟩
  | chk i => exact ⟨rfl, rfl, rfl, rfl, rfl, rfl, rfl, rfl⟩
/-- a step of the end of one that is ending -/
theorem step_on {v : Value} {s : Stp} {l : List (Value × Stp)} {tb wb : Nat} {wa : Option Addr} {wn wc : Nat} (w : H h (aT t X :: aSet X.s σ :: EndP t tb wb X ((v, s) :: l) wa wn wc ++ (aMem X.p q cs clk :: F))) (hk : Chk cs s) (he : (stepEff X σ cs clk wn s).1.2 = 0) {st : Int} (hst : st = if (stepEff X σ cs clk wn s).1.1 then 3 else X.st) :
    Ok (tl2_Tx_table_Entry_Step_j2 (some ⟨t, 0, none⟩) h) fun x h' => ∃ la, x = .tuple #[.int .u8 st, .int .i64 0] ∧
       H h' (aT t { (stepEff X σ cs clk wn s).2.1 with la := la, ln := l.length, lc := opn, st := st } :: aSet X.s σ :: EndP t tb wb { (stepEff X σ cs clk wn s).2.1 with la := la, ln := l.length, lc := opn, st := st } l wa wn wc ++ (aMem X.p q (stepEff X σ cs clk wn s).2.2.1 (stepEff X σ cs clk wn s).2.2.2 :: F)) := by
  refine Ok.le ?_ tl2_Tx_table_Entry_Step_j2_le
  obtain ⟨b, w1⟩ := (w.mv 3 rfl : H h (aLf X.la X.ln X.lc (mapF ((v, s) :: l)) :: _)).ex
  obtain ⟨o, w1⟩ := w1.ex
  obtain ⟨pre, w1⟩ := w1.ex
  obtain ⟨⟨e1, e2, e3, e4⟩, w1⟩ := w1.pu
  have gB : h.get b = some (.cells (pre ++ v :: mapF l) true false 1) := w1.get
  have wS : H h (aStp tb wb v s :: aSs tb wb l :: _) := aSs_cons.mp (w1.mv 4 rfl)
  have hb0 : inB (0 : Int) X.ln = true := inB_t (by omega) (by rw [e2]; show (0 : Int) < ((mapF ((v, s) :: l)).length : Nat); simp [mapF])
  have hln : X.ln = l.length + 1 := by rw [e2]; simp [mapF]
  -- the list of what is left
  have hsl : slcE 1 (some ⟨b, o, none⟩) X.ln X.lc (some (.int .i64 1)) none none h = some (.slice (some ⟨b, o + 1 * 1, none⟩) (X.ln - 1) opn, h) := by
    rw [e3]
    have hi1 : inBe (1 : Int) X.ln = true := inBe_t (by omega) (by omega)
    simp only [slcE, blt_opn, cond_f, gB, boundOf, hi1, cond_t, Nat.beq_refl, show Nat.beq 1 0 = false from rfl]
    rfl
  obtain ⟨h25, e25, w25, _⟩ := T_st (k := 5) (v := .slice (some ⟨b, o + 1 * 1, none⟩) (X.ln - 1) opn) (wS.mv 3 rfl) { X with la := some ⟨b, o + 1, none⟩, ln := l.length, lc := opn } (by decide) (by simp only [encX, hln]; rfl)
  have wr := w25.pm [0, 4, 7, 5, 6, 1, 2, 3]
  obtain ⟨f, rfl, hf, run⟩ := stp_run (X := { X with la := some ⟨b, o + 1, none⟩, ln := l.length, lc := opn }) wr hk
  have hG : h.ldG b (o + 0 * 1) = some (some f) := ldG_of gB (by rw [Nat.zero_mul, Nat.add_zero, ← e4, List.getElem?_append_right (Nat.le_refl _), Nat.sub_self]; rfl)
  have wT : H h (aT t X :: _) := w
  simp only [Option.bind_some, T5 wT, e1, hb0, cond_t, hG, hsl, asS_s, e25, fnQ_some', hf]
  refine Ok.bind run ?_
  rintro _ h27 ⟨rfl, w27⟩
  have eff : stepEff { X with la := some ⟨b, o + 1, none⟩, ln := l.length, lc := opn } σ cs clk wn s = ((stepEff X σ cs clk wn s).1, { (stepEff X σ cs clk wn s).2.1 with la := some ⟨b, o + 1, none⟩, ln := l.length, lc := opn }, (stepEff X σ cs clk wn s).2.2) := by cases s <;> rfl
  rw [eff] at w27 ⊢
  obtain ⟨k1, k2, k3, k4, k5, k6, k7, k8⟩ := eff_keep X σ cs clk wn s
  simp only [asTu_t, hdO_c, asB_b, asI_i64, Option.bind_some, List.isEmpty_nil, cond_t]
  generalize hr : stepEff X σ cs clk wn s = r at w27 k1 k2 k3 k4 k5 k6 k7 k8 he hst ⊢
  obtain ⟨⟨last, e⟩, X2, cs2, clk2⟩ := r
  simp only at w27 k1 k2 k3 k4 k5 k6 k7 k8 he hst ⊢
  subst he
  rw [dec_t rfl, Bool.not_true, cond_f]
  have fin : ∀ (h' : AH) (X3 : Txc), X3.la = some ⟨b, o + 1, none⟩ → X3.ln = l.length → X3.lc = opn → H h' (aT t X3 :: aSet X.s σ :: aMem X.p q cs2 clk2 :: Cs tb [ptr t] 1 :: Cs wb [.slice wa wn wc] 1 :: aSs tb wb l :: Pt b (.cells (pre ++ fnV (some f) :: mapF l) true false 1) :: F) →
      H h' (aT t X3 :: aSet X.s σ :: EndP t tb wb X3 l wa wn wc ++ (aMem X.p q cs2 clk2 :: F)) := fun h' X3 a1 a2 a3 w' => by
    have w2 := (w'.mv 6 rfl).imp (B := aLf X3.la X3.ln X3.lc (mapF l)) fun m hm => ⟨b, o + 1, pre ++ [fnV (some f)], ⟨a1, by rw [a2]; simp [mapF], a3, by simp [e4]⟩, by rw [List.append_assoc, List.singleton_append]; exact hm⟩
    exact w2.pm [1, 2, 4, 0, 6, 5, 3]
  cases last with
  | true =>
    rw [if_pos rfl] at hst
    subst hst
    rw [cond_t]
    obtain ⟨h36, e36, w36, _⟩ := T_st (k := 4) (v := .int .u8 3) w27 { X2 with la := some ⟨b, o + 1, none⟩, ln := l.length, lc := opn, st := 3 } (by decide) rfl
    simp only [e36, Option.bind_some]
    refine Ok.le ?_ tl2_Tx_table_Entry_Step_j1_le
    simp only [T4 w36, Option.bind_some]
    exact Ok.some ⟨some ⟨b, o + 1, none⟩, rfl, fin h36 _ rfl rfl rfl w36⟩
  | false =>
    rw [if_neg (by decide)] at hst
    subst hst
    rw [cond_f]
    refine Ok.le ?_ tl2_Tx_table_Entry_Step_j1_le
    simp only [T4 w27, Option.bind_some]
    refine Ok.some ⟨some ⟨b, o + 1, none⟩, by rw [k4], ?_⟩
    rw [← k4]
    exact fin h27 _ rfl rfl rfl w27
end
end Tab
end Go.Lg.Tryz
