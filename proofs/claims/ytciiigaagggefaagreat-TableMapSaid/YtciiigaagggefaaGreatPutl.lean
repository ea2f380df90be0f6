/- A transaction over entries, in any memory: Begin, Read, Write; a range of cells as a list. -/
import Derived.Test.YtciiigaagggefaaGreatPukeys
import Derived.Test.YtciiigaagggefaaGreatPucell
namespace Go.Lg.Tryz
set_option linter.unusedVariables false
set_option linter.unusedSimpArgs false
open Go Go.Proofs
namespace Tab
theorem asI_u8' (x : Int) : asI .u8 (.int .u8 x) = some x := rfl
structure Txc where
  p : Nat
  owner : Int
  beg : Int
  s : Nat
  st : Int
  la : Option Addr
  ln : Nat
  lc : Nat
  told : Bool
  ver : Int
def encX (X : Txc) : List Value := [.pointer (some ⟨X.p, 0, none⟩), .int .i64 X.owner, .int .i64 X.beg, .pointer (some ⟨X.s, 0, none⟩), .int .u8 X.st, .slice X.la X.ln X.lc, .bool X.told, .int .i64 X.ver]
abbrev aT (t : Nat) (X : Txc) : Asr := Cs t (encX X) 8
theorem wLook {h : AH} {s r w : Nat} {σ : St} (f : SF h s r w σ) (i : Int) : ∃ es, mapOf h (.map (some w)) = some es ∧ es.length = σ.W.length ∧ lookE Tryz.prog (.int .i64) 28 (.int .i64 i) es = some (vE ((Mg.alook σ.W i).getD E0), Mg.aok (Mg.alook σ.W i)) := by
  obtain ⟨es, e1, e2, e3⟩ := f.w.map
  refine ⟨es, e1, e2, ?_⟩
  rw [Mg.look_eq (z0 := vE E0) (by kernel_rfl) e3 i]
  cases Mg.alook σ.W i <;> rfl
theorem rLook {h : AH} {s r w : Nat} {σ : St} (f : SF h s r w σ) (i : Int) : ∃ es, mapOf h (.map (some r)) = some es ∧ es.length = σ.R.length ∧ lookE Tryz.prog (.int .i64) 2 (.int .i64 i) es = some (vI ((Mg.alook σ.R i).getD 0), Mg.aok (Mg.alook σ.R i)) := by
  obtain ⟨es, e1, e2, e3⟩ := f.r.map
  refine ⟨es, e1, e2, ?_⟩
  rw [Mg.look_eq (z0 := vI 0) (by kernel_rfl) e3 i]
  cases Mg.alook σ.R i <;> rfl
section
variable {h h' : AH} {t : Nat} {X : Txc} {σ σ' : St} {q : Nat} {cs : List Cel} {clk : Int} {F : List Asr}
theorem T0 (w : H h (aT t X :: F)) : h.ldP t (0 + 0) = some (some ⟨X.p, 0, none⟩) := AH.ldP_of w.get rfl
theorem T1 (w : H h (aT t X :: F)) : h.ldI .i64 t (0 + 1) = some X.owner := AH.ldI_of w.get rfl
theorem T2 (w : H h (aT t X :: F)) : h.ldI .i64 t (0 + 2) = some X.beg := AH.ldI_of w.get rfl
theorem T3 (w : H h (aT t X :: F)) : h.ldP t (0 + 3) = some (some ⟨X.s, 0, none⟩) := AH.ldP_of w.get rfl
theorem T4 (w : H h (aT t X :: F)) : h.ldI .u8 t (0 + 4) = some X.st := AH.ldI_of w.get rfl
theorem T5 (w : H h (aT t X :: F)) : h.ldS t (0 + 5) = some (X.la, X.ln, X.lc) := AH.ldS_of w.get rfl
theorem T6 (w : H h (aT t X :: F)) : h.ldB t (0 + 6) = some X.told := AH.ldB_of w.get rfl
theorem T7 (w : H h (aT t X :: F)) : h.ldI .i64 t (0 + 7) = some X.ver := AH.ldI_of w.get rfl
theorem txr (w : H h (aT t X :: F)) : C k_tl2_Tx_table_Entry_right [ptr t] h = some (.bool true, h) := by
  refine tl2_Tx_table_Entry_right_le _ ?_
  simp only [F_tl2_Tx_table_Entry_right, Option.isNone_some, Bool.not_false, cond_t, Option.bind_some, T0 w]
theorem txStatus (w : H h (aT t X :: F)) : C k_tl2_Tx_table_Entry_Status [ptr t] h = some (.int .u8 X.st, h) := by
  refine tl2_Tx_table_Entry_Status_le _ ?_
  simp only [F_tl2_Tx_table_Entry_Status, txr w, Option.bind_some, asB_b, Bool.not_true, cond_f]
  refine tl2_Tx_table_Entry_Status_j1_le _ ?_
  simp only [Option.bind_some, T4 w]
theorem txCells (w : H h (aT t X :: aMem X.p q cs clk :: F)) : C k_tl2_Tx_table_Entry_Cells [ptr t] h = some (.int .i64 (cs.length : Nat), h) := by
  refine tl2_Tx_table_Entry_Cells_le _ ?_
  simp only [F_tl2_Tx_table_Entry_Cells, txr w, Option.bind_some, asB_b, Bool.not_true, cond_f]
  refine tl2_Tx_table_Entry_Cells_j1_le _ ?_
  simp only [Option.bind_some, T0 w, size_eq (mem_at w.u1), asI_i64]
theorem txOpen (w : H h (aT t X :: aMem X.p q cs clk :: F)) (hst : X.st = 1) {i : Int} (h0 : 0 ≤ i) (h1 : i < (cs.length : Int)) : C k_tl2_Tx_table_Entry_open [ptr t, .int .i64 i] h = some (.int .i64 0, h) := by
  refine tl2_Tx_table_Entry_open_le _ ?_
  simp only [F_tl2_Tx_table_Entry_open, txr w, Option.bind_some, asB_b, Bool.not_true, cond_f, T4 w, dec_t hst, dec_f (show ¬ i < 0 by omega), T0 w, size_eq (mem_at w.u1), asI_i64, dec_t h1]
  exact tl2_Tx_table_Entry_open_j1_le _ rfl
/-- the sets: Seen, Value, Read, Write -/
theorem sSeen {r w s : Nat} (f : SF h s r w σ) (i : Int) : C k_sets_Sets_table_Entry_Seen [ptr s, .int .i64 i] h = some (.tuple #[vI ((Mg.alook σ.R i).getD 0), .bool (Mg.aok (Mg.alook σ.R i))], h) := by
  refine sets_Sets_table_Entry_Seen_le _ ?_
  simp only [F_sets_Sets_table_Entry_Seen, sRight f, Option.bind_some, asB_b, Bool.not_true, cond_f]
  refine sets_Sets_table_Entry_Seen_j1_le _ ?_
  obtain ⟨es, e1, e2, e3⟩ := rLook f i
  simp only [Option.bind_some, AH.ldM_of f.s (o := 0 + 0) rfl, e1, e3, asI_i64]
theorem sValue {s : Nat} (w : H h (aSet s σ :: F)) (i : Int) : Ok (C k_sets_Sets_table_Entry_Value [ptr s, .int .i64 i] h) fun x h' =>
    x = .tuple #[vE ((Mg.alook σ.W i).getD E0), .bool (Mg.aok (Mg.alook σ.W i))] ∧ H h' (aSet s σ :: F) := by
  refine Ok.le ?_ sets_Sets_table_Entry_Value_le
  have w1 := w.push (.cells [.bool false, .string (ByteArray.mk #[]), .string (ByteArray.mk #[])] false false 3)
  obtain ⟨rr, ww, f1⟩ := set_sf w1.drop
  simp only [F_sets_Sets_table_Entry_Value, sRight f1, Option.bind_some, asB_b, Bool.not_true, cond_f]
  refine Ok.le ?_ sets_Sets_table_Entry_Value_j1_le
  obtain ⟨es, e1, e2, e3⟩ := wLook f1 i
  obtain ⟨x, hx⟩ : ∃ x, x = (Mg.alook σ.W i).getD E0 := ⟨_, rfl⟩
  rw [← hx] at e3 ⊢
  simp only [Option.bind_some, AH.ldM_of f1.s (o := 0 + 1) rfl, e1, e3, asAg_t, hdO_c, asB_b, asStr_s, List.isEmpty_nil, cond_t]
  obtain ⟨h2, k1, w2, k2⟩ := w1.var [.bool false, .string (ByteArray.mk #[]), .string (ByteArray.mk #[])] (cE x) 3 rfl
  simp only [k1, Option.bind_some, AH.ldB_of w2.get (o := 0) rfl, AH.ldStr_of w2.get (o := 0 + 1) rfl, AH.ldStr_of w2.get (o := 0 + 2) rfl]
  obtain ⟨h3, k3, w3, k4⟩ := w2.u1.st (o := 0) (cE x) (by simp)
  have w3' : H h3 (Cs h.n (cE x) 3 :: Cs _ (cE x) 3 :: aSet s σ :: F) := w3
  simp only [k3, Option.bind_some, AH.ldB_of w3'.get (o := 0) rfl, AH.ldStr_of w3'.get (o := 0 + 1) rfl, AH.ldStr_of w3'.get (o := 0 + 2) rfl]
  exact Ok.some ⟨rfl, w3'.drop.drop⟩
theorem sRead {s : Nat} (w : H h (aSet s σ :: F)) {i ver : Int} (h0 : 0 ≤ i) (h1 : i < 1024) (hv : 0 ≤ ver) (hz : (Mg.alook σ.R i).getD ver = ver) (hl : σ.R.length < 256) : Ok (C k_sets_Sets_table_Entry_Read [ptr s, .int .i64 i, .int .i64 ver] h) fun x h' =>
    x = .int .i64 0 ∧ H h' (aSet s { σ with R := Mg.aputL σ.R i ver } :: F) := by
  obtain ⟨rr, ww, w⟩ := set_op w
  have f := SF.of w
  refine Ok.le ?_ sets_Sets_table_Entry_Read_le
  simp only [F_sets_Sets_table_Entry_Read, sMay f h0 h1, Option.bind_some, asI_i64, decide_true, Bool.not_true, cond_f]
  refine Ok.le ?_ sets_Sets_table_Entry_Read_j3_le
  obtain ⟨es, e1, e2, e3⟩ := rLook f i
  simp only [Option.bind_some, AH.ldM_of f.s (o := 0 + 0) rfl, e1, e3, asI_i64, dec_f (show ¬ ver < 0 by omega), cond_f]
  have hj1 : Ok (sets_Sets_table_Entry_Read_j1 (some ⟨s, 0, none⟩) h i ver) fun x h' => x = .int .i64 0 ∧ H h' (aSet s { σ with R := Mg.aputL σ.R i ver } :: F) := by
    refine Ok.le ?_ sets_Sets_table_Entry_Read_j1_le
    obtain ⟨h', k1, k2, k3⟩ := Mg.m_put (w.mv 1 rfl) i ver
    simp only [Option.bind_some, AH.ldM_of f.s (o := 0 + 0) rfl, k1]
    have w2 : H h' (setP s rr ww { σ with R := Mg.aputL σ.R i ver } ++ F) := k2.pb 1
    exact Ok.some ⟨rfl, set_cl w2⟩
  have hj2 : ∀ b, Ok (sets_Sets_table_Entry_Read_j2 h (some ⟨s, 0, none⟩) i ver b false) fun x h' => x = .int .i64 0 ∧ H h' (aSet s { σ with R := Mg.aputL σ.R i ver } :: F) := fun b => by
    refine Ok.le ?_ sets_Sets_table_Entry_Read_j2_le
    cases b with
    | true => simp only [cond_f, Bool.not_true]; exact hj1
    | false =>
      simp only [cond_f, cond_t, Bool.not_false, Option.bind_some, AH.ldM_of f.s (o := 0 + 0) rfl, e1, e2, dec_f (show ¬ ((σ.R.length : Nat) : Int) = 256 by omega)]
      exact hj1
  cases hq : Mg.alook σ.R i with
  | none => simp only [Mg.aok, Option.isSome_none, cond_f]; exact hj2 _
  | some u =>
    rw [hq] at hz
    obtain rfl : u = ver := hz
    simp only [Mg.aok, Option.isSome_some, cond_t, Option.getD_some, decide_true, Bool.not_true]; exact hj2 _
abbrev σW (σ : St) (i : Int) (x : En) : St := { σ with W := Mg.aputL σ.W i x }
theorem sWrite {s : Nat} (w : H h (aSet s σ :: F)) {i : Int} (h0 : 0 ≤ i) (h1 : i < 1024) (x : En) (hl : σ.W.length < 256) : Ok (C k_sets_Sets_table_Entry_Write [ptr s, .int .i64 i, vE x] h) fun y h' =>
    y = .int .i64 0 ∧ H h' (aSet s (σW σ i x) :: F) := by
  obtain ⟨rr, ww, w⟩ := set_op w
  refine Ok.le ?_ sets_Sets_table_Entry_Write_le
  have w1 := w.push (.cells [.bool x.u, .string x.k, .string x.v] false false 3)
  have f1 := SF.of w1.drop
  simp only [F_sets_Sets_table_Entry_Write, sMay f1 h0 h1, Option.bind_some, asI_i64, decide_true, Bool.not_true, cond_f]
  refine Ok.le ?_ sets_Sets_table_Entry_Write_j3_le
  obtain ⟨es, e1, e2, e3⟩ := wLook f1 i
  obtain ⟨o, ho⟩ : ∃ o, o = (Mg.alook σ.W i).getD E0 := ⟨_, rfl⟩
  rw [← ho] at e3
  simp only [Option.bind_some, AH.ldM_of f1.s (o := 0 + 1) rfl, e1, e3, asAg_t, hdO_c, asB_b, asStr_s, List.isEmpty_nil, cond_t]
  obtain ⟨h2, k1, w2, k2⟩ := w1.var [.bool false, .string (ByteArray.mk #[]), .string (ByteArray.mk #[])] (cE o) 3 rfl
  have w2' : H h2 (setP s rr ww σ ++ (Cs h.n (cE x) 3 :: Cs (h.push (.cells [.bool x.u, .string x.k, .string x.v] false false 3)).n (cE o) 3 :: F)) := w2.pm [2, 3, 4, 1, 0]
  have f2 := SF.of w2'
  simp only [k1, Option.bind_some]
  have hj1 : Ok (sets_Sets_table_Entry_Write_j1 (some ⟨s, 0, none⟩) (some ⟨h.n, 0, none⟩) i h2) fun y h' => y = .int .i64 0 ∧ H h' (aSet s (σW σ i x) :: F) := by
    refine Ok.le ?_ sets_Sets_table_Entry_Write_j1_le
    obtain ⟨h', k3, k4, k5⟩ := Mg.m_put (w2'.mv 2 rfl) i x
    have g1 := w2'.g 3 rfl
    simp only [Option.bind_some, AH.ldM_of f2.s (o := 0 + 1) rfl, AH.ldB_of g1 (o := 0) rfl, AH.ldStr_of g1 (o := 0 + 1) rfl, AH.ldStr_of g1 (o := 0 + 2) rfl]
    rw [show aput (.int .i64) (.map (some ww)) (.int .i64 i) (.agg #[.bool x.u, .string x.k, .string x.v]) h2 = some h' from k3]
    simp only [Option.bind_some]
    have w4 : H h' (setP s rr ww (σW σ i x) ++ (Cs h.n (cE x) 3 :: Cs (h.push (.cells [.bool x.u, .string x.k, .string x.v] false false 3)).n (cE o) 3 :: F)) := k4.pb 2
    exact Ok.some ⟨rfl, set_cl ((w4.rm 3 rfl).rm 3 rfl)⟩
  have hj2 : ∀ p b, Ok (sets_Sets_table_Entry_Write_j2 (some ⟨s, 0, none⟩) h2 i (some ⟨h.n, 0, none⟩) p b) fun y h' => y = .int .i64 0 ∧ H h' (aSet s (σW σ i x) :: F) := fun p b => by
    refine Ok.le ?_ sets_Sets_table_Entry_Write_j2_le
    simp only [Option.bind_some, AH.ldS_of f2.s (o := 0 + 3) rfl, dec_f (show ¬ (0 : Int) < ((0 : Nat) : Int) by decide), cond_f]
    exact hj1
  cases Mg.aok (Mg.alook σ.W i) with
  | true => simp only [Bool.not_true, cond_f]; exact hj2 _ _
  | false =>
    obtain ⟨es2, e4, e5, _⟩ := wLook f2 i
    simp only [Bool.not_false, cond_t, Option.bind_some, AH.ldM_of f2.s (o := 0 + 1) rfl, e4, e5, dec_f (show ¬ ((σ.W.length : Nat) : Int) = 256 by omega), cond_f]
    exact hj2 _ _
/-- what is read, and the reads behind it -/
def rdR (σ : St) (i ver : Int) : St := if Mg.aok (Mg.alook σ.W i) then σ else { σ with R := Mg.aputL σ.R i ver }
theorem tRead (w : H h (aT t X :: aSet X.s σ :: aMem X.p q cs clk :: F)) (hst : X.st = 1) {i : Nat} {c : Cel} (hc : cs[i]? = some c) (hN : cs.length ≤ 1024) (ho : c.own = 0) (hv0 : 0 ≤ c.ver) (hv : c.ver ≤ X.beg) (hz : (Mg.alook σ.R (i : Int)).getD c.ver = c.ver) (hl : σ.R.length < 256) :
    Ok (C k_tl2_Tx_table_Entry_Read [ptr t, .int .i64 (i : Int)] h) fun x h' => x = .tuple #[vE ((Mg.alook σ.W (i : Int)).getD c.v), .int .i64 0] ∧ H h' (aT t X :: aSet X.s (rdR σ i c.ver) :: aMem X.p q cs clk :: F) := by
  have h1 := (List.getElem?_eq_some_iff.mp hc).1
  refine Ok.le ?_ tl2_Tx_table_Entry_Read_le
  have w1 := w.push (.cells [.bool false, .string (ByteArray.mk #[]), .string (ByteArray.mk #[])] false false 3)
  have w2 := w1.push (.cells [.bool false, .string (ByteArray.mk #[]), .string (ByteArray.mk #[])] false false 3)
  have w2o : H _ (aT t X :: aMem X.p q cs clk :: _) := w2.pm [2, 4, 0, 1, 3]
  simp only [F_tl2_Tx_table_Entry_Read, txOpen w2o hst (i := (i : Int)) (by omega) (by omega), Option.bind_some, asI_i64, decide_true, Bool.not_true, cond_f]
  refine Ok.le ?_ tl2_Tx_table_Entry_Read_j5_le
  simp only [Option.bind_some, T3 w2o]
  have w3 : H _ (aSet X.s σ :: aT t X :: aMem X.p q cs clk :: Cs h.n (cE E0) 3 :: Cs (h.n + 1) (cE E0) 3 :: F) := w2.pm [3, 2, 4, 1, 0]
  refine Ok.bind (sValue w3 i) ?_
  rintro _ h3 ⟨rfl, w4⟩
  obtain ⟨x, hx⟩ : ∃ x, x = (Mg.alook σ.W (i : Int)).getD E0 := ⟨_, rfl⟩
  rw [← hx]
  simp only [asTu_t, Option.bind_some, hdO_c, asAg_t, asB_b, asStr_s, List.isEmpty_nil, cond_t]
  obtain ⟨h4, k1, w5, k2⟩ := w4.var [.bool false, .string (ByteArray.mk #[]), .string (ByteArray.mk #[])] (cE x) 3 rfl
  simp only [k1, Option.bind_some]
  cases hok : Mg.aok (Mg.alook σ.W (i : Int)) with
  | true =>
    have hr : rdR σ i c.ver = σ := by unfold rdR; rw [if_pos hok]
    have hxe : (Mg.alook σ.W (i : Int)).getD c.v = x := by
      rw [hx]
      cases hq : Mg.alook σ.W (i : Int) with
      | none => rw [hq] at hok; cases hok
      | some v => rfl
    rw [hr, hxe, cond_t]
    simp only [AH.ldB_of w5.get (o := 0) rfl, AH.ldStr_of w5.get (o := 0 + 1) rfl, AH.ldStr_of w5.get (o := 0 + 2) rfl, Option.bind_some]
    obtain ⟨h5, k3, w6, k4⟩ := (w5.mv 4 rfl).st (o := 0) (cE x) (by simp)
    have w6' : H h5 (Cs h.n (cE x) 3 :: Cs h3.n (cE x) 3 :: aSet X.s σ :: aT t X :: aMem X.p q cs clk :: Cs (h.n + 1) (cE E0) 3 :: F) := w6
    simp only [k3, Option.bind_some, AH.ldB_of w6'.get (o := 0) rfl, AH.ldStr_of w6'.get (o := 0 + 1) rfl, AH.ldStr_of w6'.get (o := 0 + 2) rfl]
    exact Ok.some ⟨rfl, ((w6'.drop.drop).rm 3 rfl).u1⟩
  | false =>
    have hr : rdR σ i c.ver = { σ with R := Mg.aputL σ.R i c.ver } := by unfold rdR; rw [if_neg (by rw [hok]; decide)]
    have hxe : (Mg.alook σ.W (i : Int)).getD c.v = c.v := by
      cases hq : Mg.alook σ.W (i : Int) with
      | none => rfl
      | some v => rw [hq] at hok; cases hok
    rw [hr, hxe, cond_f]
    refine Ok.le ?_ tl2_Tx_table_Entry_Read_j4_le
    have w6 : H h4 (aMem X.p q cs clk :: aT t X :: aSet X.s σ :: Cs h.n (cE E0) 3 :: Cs (h.n + 1) (cE E0) 3 :: F) := w5.drop.pm [2, 1, 0]
    simp only [Option.bind_some, T0 w6.u1]
    refine Ok.bind (mload_ok w6 hc) ?_
    rintro _ h5 ⟨rfl, w7⟩
    simp only [asTu_t, Option.bind_some, hdO_c, asAg_t, asB_b, asStr_s, asI_i64, List.isEmpty_nil, cond_t]
    obtain ⟨h6, k5, w8, k6⟩ := w7.var [.bool false, .string (ByteArray.mk #[]), .string (ByteArray.mk #[])] (cE c.v) 3 rfl
    obtain ⟨rr, ww, f8⟩ := set_sf (w8.mv 3 rfl)
    have w8t : H h6 (aT t X :: _) := w8.mv 2 rfl
    simp only [k5, Option.bind_some, T3 w8t, sSeen f8, asTu_t, hdO_c, asI_i64, asB_b, List.isEmpty_nil, cond_t, dec_t ho, Bool.not_true, cond_f, T2 w8t, dec_f (show ¬ X.beg < c.ver by omega)]
    have key : Ok (tl2_Tx_table_Entry_Read_j3 (some ⟨t, 0, none⟩) (some ⟨h.n + 1, 0, none⟩) (some ⟨h.n, 0, none⟩) (i : Int) c.ver (some ⟨h5.n, 0, none⟩) false h6) fun y h' => y = .tuple #[vE c.v, .int .i64 0] ∧ H h' (aT t X :: aSet X.s { σ with R := Mg.aputL σ.R i c.ver } :: aMem X.p q cs clk :: F) := by
      refine Ok.le ?_ tl2_Tx_table_Entry_Read_j3_le
      rw [cond_f]
      refine Ok.le ?_ tl2_Tx_table_Entry_Read_j2_le
      simp only [Option.bind_some, T3 w8t]
      have w9 : H h6 (aSet X.s σ :: Cs h5.n (cE c.v) 3 :: Cs h.n (cE E0) 3 :: Cs (h.n + 1) (cE E0) 3 :: aT t X :: aMem X.p q cs clk :: F) := w8.pm [3, 0, 4, 5, 2, 1]
      refine Ok.bind (sRead w9 (i := (i : Int)) (by omega) (by omega) hv0 hz hl) ?_
      rintro _ h7 ⟨rfl, wA⟩
      simp only [asI_i64, Option.bind_some, decide_true, Bool.not_true, cond_f]
      refine Ok.le ?_ tl2_Tx_table_Entry_Read_j1_le
      have g1 := wA.g 1 rfl
      simp only [Option.bind_some, AH.ldB_of g1 (o := 0) rfl, AH.ldStr_of g1 (o := 0 + 1) rfl, AH.ldStr_of g1 (o := 0 + 2) rfl]
      obtain ⟨h8, k7, wB, k8⟩ := (wA.mv 2 rfl).st (o := 0) (cE c.v) (by simp)
      have wB' : H h8 (Cs h.n (cE c.v) 3 :: aSet X.s { σ with R := Mg.aputL σ.R i c.ver } :: Cs h5.n (cE c.v) 3 :: Cs (h.n + 1) (cE E0) 3 :: aT t X :: aMem X.p q cs clk :: F) := wB
      simp only [k7, Option.bind_some, AH.ldB_of wB'.get (o := 0) rfl, AH.ldStr_of wB'.get (o := 0 + 1) rfl, AH.ldStr_of wB'.get (o := 0 + 2) rfl]
      exact Ok.some ⟨rfl, ((wB'.drop.rm 1 rfl).rm 1 rfl).u1⟩
    cases hq : Mg.alook σ.R (i : Int) with
    | none => simp only [Mg.aok, Option.isSome_none, cond_f]; exact key
    | some u =>
      rw [hq] at hz
      obtain rfl : u = c.ver := hz
      simp only [Mg.aok, Option.isSome_some, cond_t, Option.getD_some, decide_true, Bool.not_true]; exact key
theorem tWrite (w : H h (aT t X :: aSet X.s σ :: aMem X.p q cs clk :: F)) (hst : X.st = 1) {i : Nat} (h1 : i < cs.length) (hN : cs.length ≤ 1024) (x : En) (hl : σ.W.length < 256) : Ok (C k_tl2_Tx_table_Entry_Write [ptr t, .int .i64 (i : Int), vE x] h) fun y h' =>
    y = .int .i64 0 ∧ H h' (aT t X :: aSet X.s (σW σ i x) :: aMem X.p q cs clk :: F) := by
  refine Ok.le ?_ tl2_Tx_table_Entry_Write_le
  have w1 := w.push (.cells [.bool x.u, .string x.k, .string x.v] false false 3)
  have w1o : H _ (aT t X :: aMem X.p q cs clk :: _) := w1.pm [1, 3, 0, 2]
  simp only [F_tl2_Tx_table_Entry_Write, txOpen w1o hst (i := (i : Int)) (by omega) (by omega), Option.bind_some, asI_i64, decide_true, Bool.not_true, cond_f]
  refine Ok.le ?_ tl2_Tx_table_Entry_Write_j1_le
  have g1 := w1.get
  simp only [Option.bind_some, T3 w1o, AH.ldB_of g1 (o := 0) rfl, AH.ldStr_of g1 (o := 0 + 1) rfl, AH.ldStr_of g1 (o := 0 + 2) rfl]
  refine Ok.bind (sWrite (w1.drop.u1) (i := (i : Int)) (by omega) (by omega) x hl) ?_
  rintro _ h3 ⟨rfl, w4⟩
  simp only [asI_i64, Option.bind_some]
  exact Ok.some ⟨rfl, w4.u1⟩
theorem setsNew {h : AH} {F : List Asr} (w : H h F) : ∃ s h', C k_sets_New_table_Entry [] h = some (ptr s, h') ∧ H h' (aSet s ⟨[], []⟩ :: F) := by
  have w1 : H _ (Mg.aM vI h.n [] :: F) := Mg.m_new (ev := vI) w
  have w2 : H _ (Mg.aM vE (h.push (.map [] 0)).n [] :: Mg.aM vI h.n [] :: F) := Mg.m_new (ev := vE) w1
  have w3 := w2.push (.cells [.map (some h.n), .map (some (h.push (.map [] 0)).n), .slice none 0 0, .slice none 0 0] false false 4)
  have w4 : H _ (setP (h.n + 2) h.n (h.push (.map [] 0)).n ⟨[], []⟩ ++ F) := w3.pm [0, 2, 1]
  exact ⟨_, _, sets_New_table_Entry_le _ rfl, set_cl w4⟩
theorem begin_ok {p : Nat} (w : H h (aMem p q cs clk :: F)) : Ok (C k_tl2_Begin_table_Entry [ptr p, .int .i64 1] h) fun v h' =>
    ∃ t s, v = .tuple #[ptr t, .int .i64 0] ∧ H h' (aT t ⟨p, 1, clk, s, 1, none, 0, 0, false, 0⟩ :: aSet s ⟨[], []⟩ :: aMem p q cs clk :: F) := by
  have hM := mem_at w
  have hl := hM.len
  refine Ok.le ?_ tl2_Begin_table_Entry_le
  simp only [F_tl2_Begin_table_Entry, size_eq hM, Option.bind_some, asI_i64, dec_f (show ¬ (cs.length : Int) = 0 by omega), cond_f, dec_f (show ¬ (1 : Int) < 1 by decide)]
  refine Ok.le ?_ tl2_Begin_table_Entry_j1_le
  obtain ⟨s, h2, e, w2⟩ := setsNew w
  simp only [clock_eq hM, Option.bind_some, asI_i64, e, asP_p]
  have w3 := w2.push (.cells (encX ⟨p, 1, clk, s, 1, none, 0, 0, false, 0⟩) false false 8)
  exact Ok.some ⟨h2.n, s, rfl, w3⟩
end
/-- a memory, told whole -/
structure MD where
  p : Nat
  q : Nat
  cs : List Cel
  clk : Int
abbrev X0 (μ : MD) (s : Nat) : Txc := ⟨μ.p, 1, μ.clk, s, 1, none, 0, 0, false, 0⟩
theorem nodup_range : ∀ (n : Nat) (b : Int) (l : List Int), l.Nodup → (∀ a ∈ l, b ≤ a ∧ a < b + n) → l.length ≤ n
  | 0, b, l, _, h => by
    cases l with
    | nil => simp
    | cons a l => have := h a (by simp); omega
  | n + 1, b, l, hd, h => by
    have := nodup_range n (b + 1) (l.erase b) (hd.erase b) (fun a ha => by
      have h1 := h a (List.mem_of_mem_erase ha)
      have h2 : a ≠ b := fun e => by subst e; exact (List.Nodup.not_mem_erase hd) ha
      omega)
    rw [List.length_erase] at this
    split at this <;> omega
/-- the range from base on, of n cells, reads as L -/
structure TI (base n : Nat) (μ : MD) (σ : St) (L : List En) : Prop where
  len : L.length = n
  at_ : ∀ i x c, L[i]? = some x → μ.cs[base + i]? = some c → (Mg.alook σ.W ((base + i : Nat) : Int)).getD c.v = x
  rk : ∀ a ∈ σ.R.map Prod.fst, (base : Int) ≤ a ∧ a < base + n
  rv : ∀ (i : Nat) c, μ.cs[i]? = some c → (Mg.alook σ.R (i : Int)).getD c.ver = c.ver
  wk : ∀ a ∈ σ.W.map Prod.fst, (base : Int) ≤ a ∧ a < base + n
  bN : base + n ≤ μ.cs.length
  N1 : μ.cs.length ≤ 1024
  n1 : n ≤ 200
  cl : ∀ c ∈ μ.cs, c.own = 0 ∧ 0 ≤ c.ver ∧ c.ver ≤ μ.clk
abbrev TP (t : Nat) (μ : MD) (s : Nat) (σ : St) : List Asr := [aT t (X0 μ s), aSet s σ, aMem μ.p μ.q μ.cs μ.clk]
def aTab (t : Nat) (N : MD) (base n : Nat) (L : List En) : Asr := fun m => ∃ sσ : Nat × St, TI base n N sσ.2 L ∧ Lay (TP t N sσ.1 sσ.2) m
section
variable {h : AH} {t base n : Nat} {N : MD} {L : List En} {F : List Asr}
theorem tab_op (w : H h (aTab t N base n L :: F)) : ∃ s σ, TI base n N σ L ∧ H h (TP t N s σ ++ F) := by
  obtain ⟨σ, w⟩ := w.ex
  obtain ⟨i, w⟩ := w.pu
  exact ⟨σ.1, σ.2, i, w.opn_⟩
theorem tab_cl {s : Nat} {σ : St} (w : H h (TP t N s σ ++ F)) (i : TI base n N σ L) : H h (aTab t N base n L :: F) := w.cls.imp fun m hm => ⟨(s, σ), i, hm⟩
theorem TI.rl {s : Nat} {σ : St} (i : TI base n N σ L) (w : H h (TP t N s σ ++ F)) : σ.R.length < 256 := by
  obtain ⟨r, v, f⟩ := set_sf (w.mv 1 rfl)
  have := nodup_range n base (σ.R.map Prod.fst) f.r.nk i.rk
  rw [List.length_map] at this
  have := i.n1; omega
theorem TI.wl {s : Nat} {σ : St} (i : TI base n N σ L) (w : H h (TP t N s σ ++ F)) : σ.W.length < 256 := by
  obtain ⟨r, v, f⟩ := set_sf (w.mv 1 rfl)
  have := nodup_range n base (σ.W.map Prod.fst) f.w.nk i.wk
  rw [List.length_map] at this
  have := i.n1; omega
theorem tab_le (w : H h (aTab t N base n L :: F)) : base + n ≤ 1024 ∧ True ∧ n ≤ 200 ∧ L.length = n := by
  obtain ⟨s, σ, i, w⟩ := tab_op w
  exact ⟨Nat.le_trans i.bN i.N1, trivial, i.n1, i.len⟩
theorem tab_read (w : H h (aTab t N base n L :: F)) {i : Nat} {x : En} (hx : L[i]? = some x) : Ok (C k_tl2_Tx_table_Entry_Read [ptr t, .int .i64 ((base + i : Nat) : Int)] h) fun y h' =>
    y = .tuple #[vE x, .int .i64 0] ∧ H h' (aTab t N base n L :: F) := by
  obtain ⟨s, σ, I, w⟩ := tab_op w
  have hi : i < n := by rw [← I.len]; exact (List.getElem?_eq_some_iff.mp hx).1
  have hb := I.bN
  obtain ⟨c, hc⟩ : ∃ c, N.cs[base + i]? = some c := ⟨_, List.getElem?_eq_getElem (by omega)⟩
  obtain ⟨o1, o2, o3⟩ := I.cl c (List.mem_of_getElem? hc)
  refine Ok.mono (tRead w rfl hc I.N1 o1 o2 o3 (I.rv _ c hc) (I.rl w)) ?_
  rintro _ h' ⟨rfl, w'⟩
  refine ⟨by rw [I.at_ i x c hx hc], tab_cl w' ?_⟩
  unfold rdR
  split
  · exact I
  · refine ⟨I.len, I.at_, fun a ha => ?_, fun j d hd => ?_, I.wk, I.bN, I.N1, I.n1, I.cl⟩
    · rw [Mg.keys_put] at ha
      split at ha
      · exact I.rk a ha
      · rcases List.mem_append.mp ha with h | h
        · exact I.rk a h
        · simp at h; omega
    · show (Mg.alook (Mg.aputL σ.R ((base + i : Nat) : Int) c.ver) (j : Int)).getD d.ver = d.ver
      rw [Mg.alook_put]
      split
      · rename_i e
        have : base + i = j := by omega
        subst this
        rw [hc] at hd
        rw [← Option.some.inj hd]; rfl
      · exact I.rv j d hd
theorem tab_write (w : H h (aTab t N base n L :: F)) {i : Nat} (hi : i < n) (x : En) : Ok (C k_tl2_Tx_table_Entry_Write [ptr t, .int .i64 ((base + i : Nat) : Int), vE x] h) fun y h' =>
    y = .int .i64 0 ∧ H h' (aTab t N base n (L.set i x) :: F) := by
  obtain ⟨s, σ, I, w⟩ := tab_op w
  have hb := I.bN
  refine Ok.mono (tWrite w rfl (i := base + i) (by omega) I.N1 x (I.wl w)) ?_
  rintro _ h' ⟨rfl, w'⟩
  refine ⟨rfl, tab_cl w' ⟨by rw [List.length_set]; exact I.len, fun j y c hy hc => ?_, I.rk, I.rv, fun a ha => ?_, I.bN, I.N1, I.n1, I.cl⟩⟩
  · show (Mg.alook (Mg.aputL σ.W ((base + i : Nat) : Int) x) _).getD c.v = y
    rw [Mg.alook_put]
    by_cases e : i = j
    · subst e
      rw [if_pos rfl]
      rw [List.getElem?_set_self (by rw [I.len]; exact hi)] at hy
      exact Option.some.inj hy
    · rw [if_neg (by omega)]
      rw [List.getElem?_set_ne e] at hy
      exact I.at_ j y c hy hc
  · rw [Mg.keys_put] at ha
    split at ha
    · exact I.wk a ha
    · rcases List.mem_append.mp ha with h | h
      · exact I.wk a h
      · simp at h; omega
end
end Tab
end Go.Lg.Tryz
