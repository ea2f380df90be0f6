/- A transaction over cells that hold entries: what is read and written in one range of a memory that was never published in. -/
import Derived.Test.YtciiigaagggefaaFtl2
import Derived.Test.YtciiigaagggefaaFsets
import Derived.Test.YtciiigaagggefaaFcell
import Derived.Test.YtciiigaagggefaaEv47
import Derived.Test.YtciiigaagggefaaEv38
set_option linter.unusedVariables false
set_option linter.unusedSimpArgs false
namespace Go.Lg.Try
set_option linter.unusedVariables false
set_option linter.unusedSimpArgs false
open Go Go.Proofs
namespace Tab
structure En where
  u : Bool
  k : ByteArray
  v : ByteArray
abbrev eS : ByteArray := ByteArray.mk #[]
abbrev E0 : En := ⟨false, ByteArray.mk #[], ByteArray.mk #[]⟩
abbrev cE (e : En) : List Value := [.bool e.u, .string e.k, .string e.v]
abbrev vE (e : En) : Value := .agg #[.bool e.u, .string e.k, .string e.v]
abbrev vI (n : Int) : Value := .int .i64 n
abbrev zc : List Value := [.bool false, .string (ByteArray.mk #[]), .string (ByteArray.mk #[]), .int .i64 0, .int .i64 0]
abbrev ptr (b : Nat) : Value := .pointer (some ⟨b, 0, none⟩)
structure TS where
  p : Nat
  q : Nat
  s : Nat
  r : Nat
  w : Nat
  R : List (Int × Int)
  W : List (Int × En)
abbrev tC (σ : TS) (st : Int) : List Value := [.pointer (some ⟨σ.p, 0, none⟩), .int .i64 1, .int .i64 0, .pointer (some ⟨σ.s, 0, none⟩), .int .u8 st, .slice none 0 0, .bool false, .int .i64 0]
abbrev tabP (t N : Nat) (σ : TS) (st : Int) : List Asr :=
  [Cs t (tC σ st) 8, Cs σ.s [.map (some σ.r), .map (some σ.w), .slice none 0 0, .slice none 0 0] 4, Mg.aM vI σ.r σ.R, Mg.aM vE σ.w σ.W, Cs σ.p [.slice (some ⟨σ.q, 0, none⟩) N N, .int .i64 0] 2, Cs σ.q (repL zc N) 5]
structure TF (h : AH) (t N : Nat) (σ : TS) (st : Int) : Prop where
  t : h.get t = some (.cells (tC σ st) false false 8)
  s : h.get σ.s = some (.cells [.map (some σ.r), .map (some σ.w), .slice none 0 0, .slice none 0 0] false false 4)
  r : Mg.MI vI h σ.r σ.R
  w : Mg.MI vE h σ.w σ.W
  p : h.get σ.p = some (.cells [.slice (some ⟨σ.q, 0, none⟩) N N, .int .i64 0] false false 2)
  q : h.get σ.q = some (.cells (repL zc N) false false 5)
section
variable {h : AH} {t N : Nat} {σ : TS} {st : Int} {F : List Asr}
theorem TF.of (w : H h (tabP t N σ st ++ F)) : TF h t N σ st :=
  ⟨w.g 0 rfl, w.g 1 rfl, Mg.m_at (w.mv 2 rfl), Mg.m_at (w.mv 3 rfl), w.g 4 rfl, w.g 5 rfl⟩
/-- the sets, the memory and the transaction are right ones -/
theorem sRight (f : TF h t N σ st) : C k_sets_Sets_table_Entry_right [ptr σ.s] h = some (.bool true, h) := by
  refine sets_Sets_table_Entry_right_le _ ?_
  simp only [F_sets_Sets_table_Entry_right, Option.isNone_some, Bool.not_false, cond_t, Option.bind_some, AH.ldM_of f.s (o := 0 + 0) rfl]
theorem sMay (f : TF h t N σ st) {i : Int} (h0 : 0 ≤ i) (h1 : i < 1024) : C k_sets_Sets_table_Entry_may [ptr σ.s, .int .i64 i] h = some (.int .i64 0, h) := by
  refine sets_Sets_table_Entry_may_le _ ?_
  simp only [F_sets_Sets_table_Entry_may, sRight f, Option.bind_some, asB_b, Bool.not_true, cond_f, dec_f (show ¬ i < 0 by omega), dec_t h1]
  exact sets_Sets_table_Entry_may_j1_le _ rfl
theorem tRight (f : TF h t N σ st) : C k_tl2_Tx_table_Entry_right [ptr t] h = some (.bool true, h) := by
  refine tl2_Tx_table_Entry_right_le _ ?_
  simp only [F_tl2_Tx_table_Entry_right, Option.isNone_some, Bool.not_false, cond_t, Option.bind_some, AH.ldP_of f.t (o := 0 + 0) rfl]
theorem mRight (f : TF h t N σ st) (hN : 0 < N) : C k_cell_Memory_table_Entry_right [ptr σ.p] h = some (.bool true, h) := by
  refine cell_Memory_table_Entry_right_le _ ?_
  simp only [F_cell_Memory_table_Entry_right, Option.isNone_some, Bool.not_false, cond_t, Option.bind_some, AH.ldS_of f.p (o := 0 + 0) rfl, dec_t (show (0 : Int) < (N : Int) by omega)]
theorem mSize (f : TF h t N σ st) (hN : 0 < N) : C k_cell_Memory_table_Entry_Size [ptr σ.p] h = some (.int .i64 (N : Int), h) := by
  refine cell_Memory_table_Entry_Size_le _ ?_
  simp only [F_cell_Memory_table_Entry_Size, mRight f hN, Option.bind_some, asB_b, Bool.not_true, cond_f]
  refine cell_Memory_table_Entry_Size_j1_le _ ?_
  simp only [Option.bind_some, AH.ldS_of f.p (o := 0 + 0) rfl]
theorem mMay (f : TF h t N σ st) {i : Int} (h0 : 0 ≤ i) (h1 : i < (N : Int)) : C k_cell_Memory_table_Entry_may [ptr σ.p, .int .i64 i, .int .i64 1] h = some (.int .i64 0, h) := by
  refine cell_Memory_table_Entry_may_le _ ?_
  simp only [F_cell_Memory_table_Entry_may, mRight f (by omega), Option.bind_some, asB_b, Bool.not_true, cond_f, dec_f (show ¬ i < 0 by omega), AH.ldS_of f.p (o := 0 + 0) rfl, dec_t h1, dec_f (show ¬ (1 : Int) < 1 by decide)]
  exact cell_Memory_table_Entry_may_j1_le _ rfl
theorem tStatus (f : TF h t N σ st) : C k_tl2_Tx_table_Entry_Status [ptr t] h = some (.int .u8 st, h) := by
  refine tl2_Tx_table_Entry_Status_le _ ?_
  simp only [F_tl2_Tx_table_Entry_Status, tRight f, Option.bind_some, asB_b, Bool.not_true, cond_f]
  refine tl2_Tx_table_Entry_Status_j1_le _ ?_
  simp only [Option.bind_some, AH.ldI_of f.t (o := 0 + 4) rfl]
theorem tCells (f : TF h t N σ st) (hN : 0 < N) : C k_tl2_Tx_table_Entry_Cells [ptr t] h = some (.int .i64 (N : Int), h) := by
  refine tl2_Tx_table_Entry_Cells_le _ ?_
  simp only [F_tl2_Tx_table_Entry_Cells, tRight f, Option.bind_some, asB_b, Bool.not_true, cond_f]
  refine tl2_Tx_table_Entry_Cells_j1_le _ ?_
  simp only [Option.bind_some, AH.ldP_of f.t (o := 0 + 0) rfl, mSize f hN, asI_i64]
theorem tOpen (f : TF h t N σ 1) {i : Int} (h0 : 0 ≤ i) (h1 : i < (N : Int)) : C k_tl2_Tx_table_Entry_open [ptr t, .int .i64 i] h = some (.int .i64 0, h) := by
  refine tl2_Tx_table_Entry_open_le _ ?_
  simp only [F_tl2_Tx_table_Entry_open, tRight f, Option.bind_some, asB_b, Bool.not_true, cond_f, AH.ldI_of f.t (o := 0 + 4) rfl, dec_t, dec_f (show ¬ i < 0 by omega), AH.ldP_of f.t (o := 0 + 0) rfl, mSize f (by omega), asI_i64, dec_t h1]
  exact tl2_Tx_table_Entry_open_j1_le _ rfl
theorem tOver (f : TF h t N σ st) (hst : st ≠ 1) (i : Int) : C k_tl2_Tx_table_Entry_open [ptr t, .int .i64 i] h = some (.int .i64 132, h) := by
  refine tl2_Tx_table_Entry_open_le _ ?_
  simp only [F_tl2_Tx_table_Entry_open, tRight f, Option.bind_some, asB_b, Bool.not_true, cond_f, AH.ldI_of f.t (o := 0 + 4) rfl, dec_f hst, Bool.not_false, cond_t]
theorem mLook (f : TF h t N σ st) (i : Int) : ∃ es, mapOf h (.map (some σ.w)) = some es ∧ es.length = σ.W.length ∧ lookE Try.prog (.int .i64) 27 (.int .i64 i) es = some (vE ((Mg.alook σ.W i).getD E0), Mg.aok (Mg.alook σ.W i)) := by
  obtain ⟨es, e1, e2, e3⟩ := f.w.map
  refine ⟨es, e1, e2, ?_⟩
  rw [Mg.look_eq (z0 := vE E0) (by kernel_rfl) e3 i]
  cases Mg.alook σ.W i <;> rfl
theorem rLook (f : TF h t N σ st) (i : Int) : ∃ es, mapOf h (.map (some σ.r)) = some es ∧ es.length = σ.R.length ∧ lookE Try.prog (.int .i64) 2 (.int .i64 i) es = some (vI ((Mg.alook σ.R i).getD 0), Mg.aok (Mg.alook σ.R i)) := by
  obtain ⟨es, e1, e2, e3⟩ := f.r.map
  refine ⟨es, e1, e2, ?_⟩
  rw [Mg.look_eq (z0 := vI 0) (by kernel_rfl) e3 i]
  cases Mg.alook σ.R i <;> rfl
end
/-- what a cell is written with -/
theorem sValue {h : AH} {t N : Nat} {σ : TS} {st : Int} {F : List Asr} (w : H h (tabP t N σ st ++ F)) (i : Int) : Ok (C k_sets_Sets_table_Entry_Value [ptr σ.s, .int .i64 i] h) fun x h' =>
    x = .tuple #[vE ((Mg.alook σ.W i).getD E0), .bool (Mg.aok (Mg.alook σ.W i))] ∧ H h' (tabP t N σ st ++ F) := by
  refine Ok.le ?_ sets_Sets_table_Entry_Value_le
  have w1 := w.push (.cells [.bool false, .string (ByteArray.mk #[]), .string (ByteArray.mk #[])] false false 3)
  have f1 := TF.of w1.drop
  simp only [F_sets_Sets_table_Entry_Value, sRight f1, Option.bind_some, asB_b, Bool.not_true, cond_f]
  refine Ok.le ?_ sets_Sets_table_Entry_Value_j1_le
  obtain ⟨es, e1, e2, e3⟩ := mLook f1 i
  obtain ⟨x, hx⟩ : ∃ x, x = (Mg.alook σ.W i).getD E0 := ⟨_, rfl⟩
  rw [← hx] at e3 ⊢
  simp only [Option.bind_some, AH.ldM_of f1.s (o := 0 + 1) rfl, e1, e3, asAg_t, hdO_c, asB_b, asStr_s, List.isEmpty_nil, cond_t]
  obtain ⟨h2, k1, w2, k2⟩ := w1.var [.bool false, .string (ByteArray.mk #[]), .string (ByteArray.mk #[])] (cE x) 3 rfl
  simp only [k1, Option.bind_some, AH.ldB_of w2.get (o := 0) rfl, AH.ldStr_of w2.get (o := 0 + 1) rfl, AH.ldStr_of w2.get (o := 0 + 2) rfl]
  obtain ⟨h3, k3, w3, k4⟩ := w2.u1.st (o := 0) (cE x) (by simp)
  have w3' : H h3 (Cs h.n (cE x) 3 :: Cs _ (cE x) 3 :: (tabP t N σ st ++ F)) := w3
  simp only [k3, Option.bind_some, AH.ldB_of w3'.get (o := 0) rfl, AH.ldStr_of w3'.get (o := 0 + 1) rfl, AH.ldStr_of w3'.get (o := 0 + 2) rfl]
  exact Ok.some ⟨rfl, w3'.drop.drop⟩
end Tab
end Go.Lg.Try

namespace Go.Lg.Try
set_option linter.unusedVariables false
set_option linter.unusedSimpArgs false
open Go Go.Proofs
namespace Tab
theorem repz (N : Nat) : repL zc N = (List.replicate N ()).flatMap fun _ => zc := flat_rep (enc := fun _ => zc) () N
theorem zget {N i j : Nat} (hi : i < N) (hj : j < 5) : (repL zc N)[i * 5 + j]? = zc[j]? := by
  rw [repz]
  exact flat_get_some (sz := 5) (enc := fun _ : Unit => zc) (fun _ => rfl) hj (a := ()) (by rw [List.getElem?_replicate, if_pos hi])
section
variable {h : AH} {t N : Nat} {σ : TS} {st : Int} {F : List Asr}
theorem sSeen (f : TF h t N σ st) (i : Int) : C k_sets_Sets_table_Entry_Seen [ptr σ.s, .int .i64 i] h = some (.tuple #[vI ((Mg.alook σ.R i).getD 0), .bool (Mg.aok (Mg.alook σ.R i))], h) := by
  refine sets_Sets_table_Entry_Seen_le _ ?_
  simp only [F_sets_Sets_table_Entry_Seen, sRight f, Option.bind_some, asB_b, Bool.not_true, cond_f]
  refine sets_Sets_table_Entry_Seen_j1_le _ ?_
  obtain ⟨es, e1, e2, e3⟩ := rLook f i
  simp only [Option.bind_some, AH.ldM_of f.s (o := 0 + 0) rfl, e1, e3, asI_i64]
theorem sRead (w : H h (tabP t N σ st ++ F)) {i : Int} (h0 : 0 ≤ i) (h1 : i < 1024) (hz : (Mg.alook σ.R i).getD 0 = 0) (hl : σ.R.length < 256) : Ok (C k_sets_Sets_table_Entry_Read [ptr σ.s, .int .i64 i, .int .i64 0] h) fun x h' =>
    x = .int .i64 0 ∧ H h' (tabP t N { σ with R := Mg.aputL σ.R i 0 } st ++ F) := by
  have f := TF.of w
  refine Ok.le ?_ sets_Sets_table_Entry_Read_le
  simp only [F_sets_Sets_table_Entry_Read, sMay f h0 h1, Option.bind_some, asI_i64, decide_true, Bool.not_true, cond_f]
  refine Ok.le ?_ sets_Sets_table_Entry_Read_j3_le
  obtain ⟨es, e1, e2, e3⟩ := rLook f i
  rw [hz] at e3
  simp only [Option.bind_some, AH.ldM_of f.s (o := 0 + 0) rfl, e1, e3, asI_i64, decide_true, Bool.not_true, cond_f, dec_f (show ¬ (0 : Int) < 0 by decide)]
  have hj1 : Ok (sets_Sets_table_Entry_Read_j1 (some ⟨σ.s, 0, none⟩) h i 0) fun x h' => x = .int .i64 0 ∧ H h' (tabP t N { σ with R := Mg.aputL σ.R i 0 } st ++ F) := by
    refine Ok.le ?_ sets_Sets_table_Entry_Read_j1_le
    obtain ⟨h', k1, k2, k3⟩ := Mg.m_put (w.mv 2 rfl) i 0
    simp only [Option.bind_some, AH.ldM_of f.s (o := 0 + 0) rfl, k1]
    exact Ok.some ⟨rfl, k2.pb 2⟩
  have hj2 : ∀ b, Ok (sets_Sets_table_Entry_Read_j2 h (some ⟨σ.s, 0, none⟩) i 0 b false) fun x h' => x = .int .i64 0 ∧ H h' (tabP t N { σ with R := Mg.aputL σ.R i 0 } st ++ F) := fun b => by
    refine Ok.le ?_ sets_Sets_table_Entry_Read_j2_le
    cases b with
    | true => simp only [cond_f, Bool.not_true]; exact hj1
    | false =>
      simp only [cond_f, cond_t, Bool.not_false, Option.bind_some, AH.ldM_of f.s (o := 0 + 0) rfl, e1, e2, dec_f (show ¬ ((σ.R.length : Nat) : Int) = 256 by omega)]
      exact hj1
  cases Mg.aok (Mg.alook σ.R i) with
  | true => rw [cond_t]; exact hj2 _
  | false => rw [cond_f]; exact hj2 _
theorem mLoad (w : H h (tabP t N σ st ++ F)) {i : Nat} (h1 : i < N) : Ok (C k_cell_Memory_table_Entry_Load [ptr σ.p, .int .i64 i] h) fun x h' =>
    x = .tuple #[vE E0, .int .i64 0, .int .i64 0, .int .i64 0] ∧ H h' (tabP t N σ st ++ F) := by
  refine Ok.le ?_ cell_Memory_table_Entry_Load_le
  have w1 := w.push (.cells [.bool false, .string (ByteArray.mk #[]), .string (ByteArray.mk #[])] false false 3)
  have f1 := TF.of w1.drop
  simp only [F_cell_Memory_table_Entry_Load, mMay f1 (i := (i : Int)) (by omega) (by omega), Option.bind_some, asI_i64, decide_true, Bool.not_true, cond_f]
  refine Ok.le ?_ cell_Memory_table_Entry_Load_j1_le
  have hin : inB (i : Int) N = true := by unfold inB; simp; omega
  have z : ∀ j, j < 5 → (repL zc N)[i * 5 + j]? = zc[j]? := fun j hj => zget h1 hj
  have q0 : (h.push (.cells [.bool false, .string (ByteArray.mk #[]), .string (ByteArray.mk #[])] false false 3)).ldB σ.q (0 + i * 5 + 0) = some false := AH.ldB_of f1.q (by rw [Nat.zero_add, z 0 (by omega)]; rfl)
  have q1 : (h.push (.cells [.bool false, .string (ByteArray.mk #[]), .string (ByteArray.mk #[])] false false 3)).ldStr σ.q (0 + i * 5 + 0 + 1) = some eS := AH.ldStr_of f1.q (by rw [Nat.zero_add, Nat.add_zero, z 1 (by omega)]; rfl)
  have q2 : (h.push (.cells [.bool false, .string (ByteArray.mk #[]), .string (ByteArray.mk #[])] false false 3)).ldStr σ.q (0 + i * 5 + 0 + 2) = some eS := AH.ldStr_of f1.q (by rw [Nat.zero_add, Nat.add_zero, z 2 (by omega)]; rfl)
  have q3 : (h.push (.cells [.bool false, .string (ByteArray.mk #[]), .string (ByteArray.mk #[])] false false 3)).ldI .i64 σ.q (0 + i * 5 + 3) = some 0 := AH.ldI_of f1.q (by rw [Nat.zero_add, z 3 (by omega)]; rfl)
  have q4 : (h.push (.cells [.bool false, .string (ByteArray.mk #[]), .string (ByteArray.mk #[])] false false 3)).ldI .i64 σ.q (0 + i * 5 + 4) = some 0 := AH.ldI_of f1.q (by rw [Nat.zero_add, z 4 (by omega)]; rfl)
  simp only [Option.bind_some, AH.ldS_of f1.p (o := 0 + 0) rfl, hin, cond_t, Int.toNat_natCast, q0, q1, q2, q3, q4]
  obtain ⟨h2, k1, w2, k2⟩ := w1.st (o := 0) (cE E0) (by simp)
  have w2' : H h2 (Cs h.n (cE E0) 3 :: (tabP t N σ st ++ F)) := w2
  have f2 := TF.of w2'.drop
  have r3 : h2.ldI .i64 σ.q (0 + i * 5 + 3) = some 0 := AH.ldI_of f2.q (by rw [Nat.zero_add, z 3 (by omega)]; rfl)
  have r4 : h2.ldI .i64 σ.q (0 + i * 5 + 4) = some 0 := AH.ldI_of f2.q (by rw [Nat.zero_add, z 4 (by omega)]; rfl)
  simp only [k1, Option.bind_some, r3, r4, show veqO (some (vI 0)) (some (vI 0)) = true from rfl, cond_t, AH.ldB_of w2'.get (o := 0) rfl, AH.ldStr_of w2'.get (o := 0 + 1) rfl, AH.ldStr_of w2'.get (o := 0 + 2) rfl]
  exact Ok.some ⟨rfl, w2'.drop⟩
end

section
variable {h : AH} {t N : Nat} {σ : TS} {F : List Asr}
/-- what is read, and the reads behind it -/
def rdR (σ : TS) (i : Int) : TS := if Mg.aok (Mg.alook σ.W i) then σ else { σ with R := Mg.aputL σ.R i 0 }
theorem tRead (w : H h (tabP t N σ 1 ++ F)) {i : Nat} (h1 : i < N) (hN : N ≤ 1024) (hz : (Mg.alook σ.R (i : Int)).getD 0 = 0) (hl : σ.R.length < 256) : Ok (C k_tl2_Tx_table_Entry_Read [ptr t, .int .i64 i] h) fun x h' =>
    x = .tuple #[vE ((Mg.alook σ.W (i : Int)).getD E0), .int .i64 0] ∧ H h' (tabP t N (rdR σ i) 1 ++ F) := by
  refine Ok.le ?_ tl2_Tx_table_Entry_Read_le
  have w1 := w.push (.cells [.bool false, .string (ByteArray.mk #[]), .string (ByteArray.mk #[])] false false 3)
  have w2 := w1.push (.cells [.bool false, .string (ByteArray.mk #[]), .string (ByteArray.mk #[])] false false 3)
  have f2 := TF.of w2.drop.drop
  simp only [F_tl2_Tx_table_Entry_Read, tOpen f2 (i := (i : Int)) (by omega) (by omega), Option.bind_some, asI_i64, decide_true, Bool.not_true, cond_f]
  refine Ok.le ?_ tl2_Tx_table_Entry_Read_j5_le
  simp only [Option.bind_some, AH.ldP_of f2.t (o := 0 + 3) rfl]
  have w3 : H _ (tabP t N σ 1 ++ (Cs h.n (cE E0) 3 :: Cs (h.n + 1) (cE E0) 3 :: F)) := w2.pm [2, 3, 4, 5, 6, 7, 1, 0]
  refine Ok.bind (sValue w3 i) ?_
  rintro _ h3 ⟨rfl, w4⟩
  obtain ⟨x, hx⟩ : ∃ x, x = (Mg.alook σ.W (i : Int)).getD E0 := ⟨_, rfl⟩
  rw [← hx]
  simp only [asTu_t, Option.bind_some, hdO_c, asAg_t, asB_b, asStr_s, List.isEmpty_nil, cond_t]
  obtain ⟨h4, k1, w5, k2⟩ := w4.var [.bool false, .string (ByteArray.mk #[]), .string (ByteArray.mk #[])] (cE x) 3 rfl
  simp only [k1, Option.bind_some]
  cases hok : Mg.aok (Mg.alook σ.W (i : Int)) with
  | true =>
    have hr : rdR σ i = σ := by unfold rdR; rw [if_pos hok]
    rw [hr, cond_t]
    simp only [AH.ldB_of w5.get (o := 0) rfl, AH.ldStr_of w5.get (o := 0 + 1) rfl, AH.ldStr_of w5.get (o := 0 + 2) rfl, Option.bind_some]
    obtain ⟨h5, k3, w6, k4⟩ := (w5.mv 7 rfl).st (o := 0) (cE x) (by simp)
    have w6' : H h5 (Cs h.n (cE x) 3 :: Cs h3.n (cE x) 3 :: (tabP t N σ 1 ++ (Cs (h.n + 1) (cE E0) 3 :: F))) := w6
    simp only [k3, Option.bind_some, AH.ldB_of w6'.get (o := 0) rfl, AH.ldStr_of w6'.get (o := 0 + 1) rfl, AH.ldStr_of w6'.get (o := 0 + 2) rfl]
    exact Ok.some ⟨rfl, w6'.drop.drop.rm 6 rfl⟩
  | false =>
    have hr : rdR σ i = { σ with R := Mg.aputL σ.R i 0 } := by unfold rdR; rw [if_neg (by rw [hok]; decide)]
    have hx0 : x = E0 := by
      rw [hx]
      cases hq : Mg.alook σ.W (i : Int) with
      | none => rfl
      | some v => rw [hq] at hok; cases hok
    rw [hr, cond_f]
    refine Ok.le ?_ tl2_Tx_table_Entry_Read_j4_le
    have w6 : H h4 (tabP t N σ 1 ++ (Cs h.n (cE E0) 3 :: Cs (h.n + 1) (cE E0) 3 :: F)) := w5.drop
    have f6 := TF.of w6
    simp only [Option.bind_some, AH.ldP_of f6.t (o := 0 + 0) rfl]
    refine Ok.bind (mLoad w6 h1) ?_
    rintro _ h5 ⟨rfl, w7⟩
    simp only [asTu_t, Option.bind_some, hdO_c, asAg_t, asB_b, asStr_s, asI_i64, List.isEmpty_nil, cond_t]
    obtain ⟨h6, k5, w8, k6⟩ := w7.var [.bool false, .string (ByteArray.mk #[]), .string (ByteArray.mk #[])] (cE E0) 3 rfl
    have f8 := TF.of w8.drop
    simp only [k5, Option.bind_some, AH.ldP_of f8.t (o := 0 + 3) rfl, sSeen f8, asTu_t, hdO_c, asI_i64, asB_b, List.isEmpty_nil, cond_t, decide_true, Bool.not_true, cond_f, AH.ldI_of f8.t (o := 0 + 2) rfl, dec_f (show ¬ (0 : Int) < 0 by decide), hz]
    have hj1 : Ok (tl2_Tx_table_Entry_Read_j2 (some ⟨t, 0, none⟩) h6 (i : Int) 0 (some ⟨h.n + 1, 0, none⟩) (some ⟨h.n, 0, none⟩) (some ⟨h5.n, 0, none⟩)) fun y h' => y = .tuple #[vE x, .int .i64 0] ∧ H h' (tabP t N { σ with R := Mg.aputL σ.R i 0 } 1 ++ F) := by
      refine Ok.le ?_ tl2_Tx_table_Entry_Read_j2_le
      simp only [Option.bind_some, AH.ldP_of f8.t (o := 0 + 3) rfl]
      have w9 : H h6 (tabP t N σ 1 ++ (Cs h5.n (cE E0) 3 :: Cs h.n (cE E0) 3 :: Cs (h.n + 1) (cE E0) 3 :: F)) := w8.pm [1, 2, 3, 4, 5, 6, 0]
      refine Ok.bind (sRead w9 (i := (i : Int)) (by omega) (by omega) hz hl) ?_
      rintro _ h7 ⟨rfl, wA⟩
      simp only [asI_i64, Option.bind_some, decide_true, Bool.not_true, cond_f]
      refine Ok.le ?_ tl2_Tx_table_Entry_Read_j1_le
      have g1 := wA.g 6 rfl
      simp only [Option.bind_some, AH.ldB_of g1 (o := 0) rfl, AH.ldStr_of g1 (o := 0 + 1) rfl, AH.ldStr_of g1 (o := 0 + 2) rfl]
      obtain ⟨h8, k7, wB, k8⟩ := (wA.mv 7 rfl).st (o := 0) (cE E0) (by simp)
      have wB' : H h8 (Cs h.n (cE E0) 3 :: (tabP t N { σ with R := Mg.aputL σ.R i 0 } 1 ++ (Cs h5.n (cE E0) 3 :: Cs (h.n + 1) (cE E0) 3 :: F))) := wB
      simp only [k7, Option.bind_some, AH.ldB_of wB'.get (o := 0) rfl, AH.ldStr_of wB'.get (o := 0 + 1) rfl, AH.ldStr_of wB'.get (o := 0 + 2) rfl]
      exact Ok.some ⟨by rw [hx0], (wB'.drop.rm 6 rfl).rm 6 rfl⟩
    have hj : Ok (tl2_Tx_table_Entry_Read_j3 (some ⟨t, 0, none⟩) (some ⟨h.n + 1, 0, none⟩) (some ⟨h.n, 0, none⟩) (i : Int) 0 (some ⟨h5.n, 0, none⟩) false h6) fun y h' => y = .tuple #[vE x, .int .i64 0] ∧ H h' (tabP t N { σ with R := Mg.aputL σ.R i 0 } 1 ++ F) := by
      refine Ok.le ?_ tl2_Tx_table_Entry_Read_j3_le
      rw [cond_f]; exact hj1
    cases Mg.aok (Mg.alook σ.R (i : Int)) with
    | true => rw [cond_t]; exact hj
    | false => rw [cond_f]; exact hj
end
end Tab
end Go.Lg.Try

namespace Go.Lg.Try
set_option linter.unusedVariables false
set_option linter.unusedSimpArgs false
open Go Go.Proofs
namespace Tab
section
variable {h : AH} {t N : Nat} {σ : TS} {st : Int} {F : List Asr}
abbrev σW (σ : TS) (i : Int) (x : En) : TS := { σ with W := Mg.aputL σ.W i x }
theorem sWrite (w : H h (tabP t N σ st ++ F)) {i : Int} (h0 : 0 ≤ i) (h1 : i < 1024) (x : En) (hl : σ.W.length < 256) : Ok (C k_sets_Sets_table_Entry_Write [ptr σ.s, .int .i64 i, vE x] h) fun y h' =>
    y = .int .i64 0 ∧ H h' (tabP t N (σW σ i x) st ++ F) := by
  refine Ok.le ?_ sets_Sets_table_Entry_Write_le
  have w1 := w.push (.cells [.bool x.u, .string x.k, .string x.v] false false 3)
  have f1 := TF.of w1.drop
  simp only [F_sets_Sets_table_Entry_Write, sMay f1 h0 h1, Option.bind_some, asI_i64, decide_true, Bool.not_true, cond_f]
  refine Ok.le ?_ sets_Sets_table_Entry_Write_j3_le
  obtain ⟨es, e1, e2, e3⟩ := mLook f1 i
  obtain ⟨o, ho⟩ : ∃ o, o = (Mg.alook σ.W i).getD E0 := ⟨_, rfl⟩
  rw [← ho] at e3
  simp only [Option.bind_some, AH.ldM_of f1.s (o := 0 + 1) rfl, e1, e3, asAg_t, hdO_c, asB_b, asStr_s, List.isEmpty_nil, cond_t]
  obtain ⟨h2, k1, w2, k2⟩ := w1.var [.bool false, .string (ByteArray.mk #[]), .string (ByteArray.mk #[])] (cE o) 3 rfl
  have w2' : H h2 (tabP t N σ st ++ (Cs h.n (cE x) 3 :: Cs (h.push (.cells [.bool x.u, .string x.k, .string x.v] false false 3)).n (cE o) 3 :: F)) := w2.pm [2, 3, 4, 5, 6, 7, 1, 0]
  have f2 := TF.of w2'
  simp only [k1, Option.bind_some]
  have hj1 : Ok (sets_Sets_table_Entry_Write_j1 (some ⟨σ.s, 0, none⟩) (some ⟨h.n, 0, none⟩) i h2) fun y h' => y = .int .i64 0 ∧ H h' (tabP t N (σW σ i x) st ++ F) := by
    refine Ok.le ?_ sets_Sets_table_Entry_Write_j1_le
    obtain ⟨h', k3, k4, k5⟩ := Mg.m_put (w2'.mv 3 rfl) i x
    have g1 := w2'.g 6 rfl
    simp only [Option.bind_some, AH.ldM_of f2.s (o := 0 + 1) rfl, AH.ldB_of g1 (o := 0) rfl, AH.ldStr_of g1 (o := 0 + 1) rfl, AH.ldStr_of g1 (o := 0 + 2) rfl]
    rw [show aput (.int .i64) (.map (some σ.w)) (.int .i64 i) (.agg #[.bool x.u, .string x.k, .string x.v]) h2 = some h' from k3]
    simp only [Option.bind_some]
    have w4 : H h' (tabP t N (σW σ i x) st ++ (Cs h.n (cE x) 3 :: Cs (h.push (.cells [.bool x.u, .string x.k, .string x.v] false false 3)).n (cE o) 3 :: F)) := k4.pb 3
    exact Ok.some ⟨rfl, (w4.rm 6 rfl).rm 6 rfl⟩
  have hj2 : ∀ p b, Ok (sets_Sets_table_Entry_Write_j2 (some ⟨σ.s, 0, none⟩) h2 i (some ⟨h.n, 0, none⟩) p b) fun y h' => y = .int .i64 0 ∧ H h' (tabP t N (σW σ i x) st ++ F) := fun p b => by
    refine Ok.le ?_ sets_Sets_table_Entry_Write_j2_le
    simp only [Option.bind_some, AH.ldS_of f2.s (o := 0 + 3) rfl, dec_f (show ¬ (0 : Int) < ((0 : Nat) : Int) by decide), cond_f]
    exact hj1
  cases Mg.aok (Mg.alook σ.W i) with
  | true => simp only [Bool.not_true, cond_f]; exact hj2 _ _
  | false =>
    obtain ⟨es2, e4, e5, _⟩ := mLook f2 i
    simp only [Bool.not_false, cond_t, Option.bind_some, AH.ldM_of f2.s (o := 0 + 1) rfl, e4, e5, dec_f (show ¬ ((σ.W.length : Nat) : Int) = 256 by omega), cond_f]
    exact hj2 _ _
theorem tWrite (w : H h (tabP t N σ 1 ++ F)) {i : Nat} (h1 : i < N) (hN : N ≤ 1024) (x : En) (hl : σ.W.length < 256) : Ok (C k_tl2_Tx_table_Entry_Write [ptr t, .int .i64 i, vE x] h) fun y h' =>
    y = .int .i64 0 ∧ H h' (tabP t N (σW σ i x) 1 ++ F) := by
  refine Ok.le ?_ tl2_Tx_table_Entry_Write_le
  have w1 := w.push (.cells [.bool x.u, .string x.k, .string x.v] false false 3)
  have f1 := TF.of w1.drop
  simp only [F_tl2_Tx_table_Entry_Write, tOpen f1 (i := (i : Int)) (by omega) (by omega), Option.bind_some, asI_i64, decide_true, Bool.not_true, cond_f]
  refine Ok.le ?_ tl2_Tx_table_Entry_Write_j1_le
  have g1 := w1.get
  simp only [Option.bind_some, AH.ldP_of f1.t (o := 0 + 3) rfl, AH.ldB_of g1 (o := 0) rfl, AH.ldStr_of g1 (o := 0 + 1) rfl, AH.ldStr_of g1 (o := 0 + 2) rfl]
  refine Ok.bind (sWrite (w1.drop) (i := (i : Int)) (by omega) (by omega) x hl) ?_
  rintro _ h3 ⟨rfl, w4⟩
  simp only [asI_i64, Option.bind_some]
  exact Ok.some ⟨rfl, w4⟩
end
theorem nodup_range : ∀ (n : Nat) (b : Int) (l : List Int), l.Nodup → (∀ a ∈ l, b ≤ a ∧ a < b + n) → l.length ≤ n
  | 0, b, l, _, h => by
    cases l with
    | nil => simp
    | cons a l => have := h a (by simp); omega
  | n + 1, b, l, hd, h => by
    have := nodup_range n (b + 1) (l.erase b) (hd.erase b) (fun a ha => by
      have h1 := h a (List.mem_of_mem_erase ha)
      have h2 : a ≠ b := fun e => by subst e; exact (List.Nodup.not_mem_erase hd) ha
      omega)
    rw [List.length_erase] at this
    split at this <;> omega
/-- the range from base on, of n cells, reads as L -/
structure TI (base n N : Nat) (σ : TS) (L : List En) : Prop where
  len : L.length = n
  at_ : ∀ i x, L[i]? = some x → (Mg.alook σ.W ((base + i : Nat) : Int)).getD E0 = x
  rk : ∀ a ∈ σ.R.map Prod.fst, (base : Int) ≤ a ∧ a < base + n
  rv : ∀ i, (Mg.alook σ.R i).getD 0 = 0
  wk : ∀ a ∈ σ.W.map Prod.fst, (base : Int) ≤ a ∧ a < base + n
  bN : base + n ≤ N
  N1 : N ≤ 1024
  n1 : n ≤ 200
def aTab (t N base n : Nat) (L : List En) : Asr := fun m => ∃ σ, TI base n N σ L ∧ Lay (tabP t N σ 1) m
section
variable {h : AH} {t N base n : Nat} {L : List En} {F : List Asr}
theorem tab_op (w : H h (aTab t N base n L :: F)) : ∃ σ, TI base n N σ L ∧ H h (tabP t N σ 1 ++ F) := by
  obtain ⟨σ, w⟩ := w.ex
  obtain ⟨i, w⟩ := w.pu
  exact ⟨σ, i, w.opn_⟩
theorem tab_cl {σ : TS} (w : H h (tabP t N σ 1 ++ F)) (i : TI base n N σ L) : H h (aTab t N base n L :: F) := w.cls.imp fun m hm => ⟨σ, i, hm⟩
theorem TI.rl {σ : TS} (i : TI base n N σ L) (w : H h (tabP t N σ 1 ++ F)) : σ.R.length < 256 := by
  have := nodup_range n base (σ.R.map Prod.fst) (TF.of w).r.nk i.rk
  rw [List.length_map] at this
  have := i.n1; omega
theorem TI.wl {σ : TS} (i : TI base n N σ L) (w : H h (tabP t N σ 1 ++ F)) : σ.W.length < 256 := by
  have := nodup_range n base (σ.W.map Prod.fst) (TF.of w).w.nk i.wk
  rw [List.length_map] at this
  have := i.n1; omega
theorem tab_le (w : H h (aTab t N base n L :: F)) : base + n ≤ N ∧ N ≤ 1024 ∧ n ≤ 200 ∧ L.length = n := by
  obtain ⟨σ, i, w⟩ := tab_op w
  exact ⟨i.bN, i.N1, i.n1, i.len⟩
theorem tab_read (w : H h (aTab t N base n L :: F)) {i : Nat} {x : En} (hx : L[i]? = some x) : Ok (C k_tl2_Tx_table_Entry_Read [ptr t, .int .i64 ((base + i : Nat) : Int)] h) fun y h' =>
    y = .tuple #[vE x, .int .i64 0] ∧ H h' (aTab t N base n L :: F) := by
  obtain ⟨σ, I, w⟩ := tab_op w
  have hi : i < n := by rw [← I.len]; exact (List.getElem?_eq_some_iff.mp hx).1
  have hb := I.bN
  refine Ok.mono (tRead w (i := base + i) (by omega) I.N1 (I.rv _) (I.rl w)) ?_
  rintro _ h' ⟨rfl, w'⟩
  refine ⟨by rw [I.at_ i x hx], tab_cl w' ?_⟩
  unfold rdR
  split
  · exact I
  · refine ⟨I.len, I.at_, fun a ha => ?_, fun j => ?_, I.wk, I.bN, I.N1, I.n1⟩
    · rw [Mg.keys_put] at ha
      split at ha
      · exact I.rk a ha
      · rcases List.mem_append.mp ha with h | h
        · exact I.rk a h
        · simp at h; omega
    · show (Mg.alook (Mg.aputL σ.R ((base + i : Nat) : Int) 0) j).getD 0 = 0
      rw [Mg.alook_put]
      split
      · rfl
      · exact I.rv j
theorem tab_write (w : H h (aTab t N base n L :: F)) {i : Nat} (hi : i < n) (x : En) : Ok (C k_tl2_Tx_table_Entry_Write [ptr t, .int .i64 ((base + i : Nat) : Int), vE x] h) fun y h' =>
    y = .int .i64 0 ∧ H h' (aTab t N base n (L.set i x) :: F) := by
  obtain ⟨σ, I, w⟩ := tab_op w
  have hb := I.bN
  refine Ok.mono (tWrite w (i := base + i) (by omega) I.N1 x (I.wl w)) ?_
  rintro _ h' ⟨rfl, w'⟩
  refine ⟨rfl, tab_cl w' ⟨by rw [List.length_set]; exact I.len, fun j y hy => ?_, I.rk, I.rv, fun a ha => ?_, I.bN, I.N1, I.n1⟩⟩
  · show (Mg.alook (Mg.aputL σ.W ((base + i : Nat) : Int) x) _).getD E0 = y
    rw [Mg.alook_put]
    by_cases e : i = j
    · subst e
      rw [if_pos rfl]
      rw [List.getElem?_set_self (by rw [I.len]; exact hi)] at hy
      exact Option.some.inj hy
    · rw [if_neg (by omega)]
      rw [List.getElem?_set_ne e] at hy
      exact I.at_ j y hy
  · rw [Mg.keys_put] at ha
    split at ha
    · exact I.wk a ha
    · rcases List.mem_append.mp ha with h | h
      · exact I.wk a h
      · simp at h; omega
end
end Tab
end Go.Lg.Try
