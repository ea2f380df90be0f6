/- Transactions, as long as they are open. -/
import Derived.Test.YtdkammcandclhaaFtl2
import Derived.Test.YtdkammcandclhaaPsets4
import Derived.Test.YtdkammcandclhaaPcell
import Derived.Test.YtdkammcandclhaaFnest
set_option linter.unusedVariables false
set_option linter.unusedSimpArgs false
namespace Go.Lg.Try
set_option linter.unusedVariables false
set_option linter.unusedSimpArgs false
open Go Go.Proofs
theorem asI_u8' (x : Int) : asI .u8 (.int .u8 x) = some x := rfl
theorem asP_p' (x : Option Addr) : asP (.pointer x) = some x := rfl
structure Txc where
  p : Nat
  owner : Int
  beg : Int
  s : Nat
  st : Int
  la : Option Addr
  ln : Nat
  lc : Nat
  told : Bool
  ver : Int
def encX (X : Txc) : List Value := [.pointer (some ⟨X.p, 0, none⟩), .int .i64 X.owner, .int .i64 X.beg, .pointer (some ⟨X.s, 0, none⟩), .int .u8 X.st, .slice X.la X.ln X.lc, .bool X.told, .int .i64 X.ver]
/-- a transaction, its sets, its memory -/
structure WT (h : AH) (t : Nat) (X : Txc) (A : SA) (σ : St) (q : Nat) (cs : List Cel) (clk : Int) : Prop where
  T : h.get t = some (.cells (encX X) false false 8)
  S : SQ h X.s A σ
  M : MemR h X.p q cs clk
  tn : t < h.n
  ot : ¬ own X.s A t
  op : ¬ own X.s A X.p
  oq : ¬ own X.s A q
  tp : t ≠ X.p
  tq : t ≠ q
section
variable {h h' : AH} {t : Nat} {X : Txc} {A A' : SA} {σ σ' : St} {q : Nat} {cs : List Cel} {clk : Int}
namespace WT
theorem mem (hM : MemR h X.p q cs clk) (h1 : h'.get X.p = h.get X.p) (h2 : h'.get q = h.get q) (hn : h.n ≤ h'.n) : MemR h' X.p q cs clk :=
  ⟨by rw [h1]; exact hM.hp, by rw [h2]; exact hM.hq, hM.ne, Nat.lt_of_lt_of_le hM.pn hn, Nat.lt_of_lt_of_le hM.qn hn, hM.len, hM.c0, hM.c1⟩
theorem mv (w : WT h t X A σ q cs clk) (s : SQ h' X.s A' σ') (m : Mv X.s A A' h h') : WT h' t X A' σ' q cs clk :=
  ⟨by rw [m.g t w.tn w.ot]; exact w.T, s, mem w.M (m.g _ w.M.pn w.op) (m.g _ w.M.qn w.oq) m.n, Nat.lt_of_lt_of_le w.tn m.n,
    fun ho => (m.o t ho).elim w.ot fun hl => by have := w.tn; omega, fun ho => (m.o _ ho).elim w.op fun hl => by have := w.M.pn; omega, fun ho => (m.o _ ho).elim w.oq fun hl => by have := w.M.qn; omega, w.tp, w.tq⟩
theorem fr (w : WT h t X A σ q cs clk) (f : Fr [] h h') : WT h' t X A σ q cs clk := w.mv (w.S.fr f) (.fr f)
/-- what does not touch it -/
theorem off (w : WT h t X A σ q cs clk) (hg : ∀ b, b < h.n → b = t ∨ b = X.p ∨ b = q ∨ own X.s A b → h'.get b = h.get b) (hn : h.n ≤ h'.n) : WT h' t X A σ q cs clk :=
  ⟨by rw [hg t w.tn (.inl rfl)]; exact w.T, w.S.same (fun b h1 h2 => hg b h1 (.inr (.inr (.inr h2)))) hn, mem w.M (hg _ w.M.pn (.inr (.inl rfl))) (hg _ w.M.qn (.inr (.inr (.inl rfl)))) hn, Nat.lt_of_lt_of_le w.tn hn, w.ot, w.op, w.oq, w.tp, w.tq⟩
theorem c0 (w : WT h t X A σ q cs clk) : h.ldP t (0 + 0) = some (some ⟨X.p, 0, none⟩) := AH.ldP_of w.T rfl
theorem c1 (w : WT h t X A σ q cs clk) : h.ldI .i64 t (0 + 1) = some X.owner := AH.ldI_of w.T rfl
theorem c2 (w : WT h t X A σ q cs clk) : h.ldI .i64 t (0 + 2) = some X.beg := AH.ldI_of w.T rfl
theorem c3 (w : WT h t X A σ q cs clk) : h.ldP t (0 + 3) = some (some ⟨X.s, 0, none⟩) := AH.ldP_of w.T rfl
theorem c4 (w : WT h t X A σ q cs clk) : h.ldI .u8 t (0 + 4) = some X.st := AH.ldI_of w.T rfl
theorem c5 (w : WT h t X A σ q cs clk) : h.ldS t (0 + 5) = some (X.la, X.ln, X.lc) := AH.ldS_of w.T rfl
theorem c6 (w : WT h t X A σ q cs clk) : h.ldB t (0 + 6) = some X.told := AH.ldB_of w.T rfl
theorem c7 (w : WT h t X A σ q cs clk) : h.ldI .i64 t (0 + 7) = some X.ver := AH.ldI_of w.T rfl
end WT
theorem tx_right (w : WT h t X A σ q cs clk) : C k_tl2_Tx_int_right [ptr t] h = some (.bool true, h) := by
  refine tl2_Tx_int_right_le _ ?_
  simp only [F_tl2_Tx_int_right, Option.isNone_some, Bool.not_false, cond_t, Option.bind_some, w.c0]
theorem tx_status (w : WT h t X A σ q cs clk) : C k_tl2_Tx_int_Status [ptr t] h = some (.int .u8 X.st, h) := by
  refine tl2_Tx_int_Status_le _ ?_
  simp only [F_tl2_Tx_int_Status, tx_right w, Option.bind_some, asB_b, Bool.not_true, cond_f]
  refine tl2_Tx_int_Status_j1_le _ ?_
  simp only [Option.bind_some, w.c4]
theorem tx_depth (w : WT h t X A σ q cs clk) : C k_tl2_Tx_int_Depth [ptr t] h = some (.int .i64 (σ.marks.length : Nat), h) := by
  refine tl2_Tx_int_Depth_le _ ?_
  simp only [F_tl2_Tx_int_Depth, tx_right w, Option.bind_some, asB_b, Bool.not_true, cond_f]
  refine tl2_Tx_int_Depth_j1_le _ ?_
  simp only [Option.bind_some, w.c3, set_depth w.S, asI_i64]
def openE (st : Int) (n : Nat) (i : Int) : Int := if st ≠ 1 then 132 else if i < 0 ∨ (n : Int) ≤ i then 2 else 0
theorem tx_open (w : WT h t X A σ q cs clk) (i : Int) : C k_tl2_Tx_int_open [ptr t, .int .i64 i] h = some (.int .i64 (openE X.st cs.length i), h) := by
  refine tl2_Tx_int_open_le _ ?_
  simp only [F_tl2_Tx_int_open, tx_right w, Option.bind_some, asB_b, Bool.not_true, cond_f, w.c4, w.c0, openE]
  by_cases a : X.st = 1
  · rw [dec_t a, Bool.not_true, cond_f, if_neg (by simp [a])]
    by_cases b : i < 0
    · rw [dec_t b, cond_t, if_pos (.inl b)]
    · rw [dec_f b, cond_f]
      simp only [size_eq w.M, Option.bind_some, asI_i64]
      by_cases c : i < (cs.length : Int)
      · rw [dec_t c, Bool.not_true, cond_f, if_neg (by omega)]
        exact tl2_Tx_int_open_j1_le _ rfl
      · rw [dec_f c, Bool.not_false, cond_t, if_pos (by omega)]
  · rw [dec_f a, Bool.not_false, cond_t, if_pos a]
theorem open0 (w : WT h t X A σ q cs clk) (h1 : X.st = 1) : C k_tl2_Tx_int_open [ptr t, .int .i64 0] h = some (.int .i64 0, h) := by
  rw [tx_open w]
  have hl := w.M.len
  simp only [openE, h1]
  rw [if_neg (by simp), if_neg (by omega)]
theorem tx_mark (w : WT h t X A σ q cs clk) (h1 : X.st = 1) (hm : σ.marks.length ≤ 8) : Ok (C k_tl2_Tx_int_Mark [ptr t] h) fun x h' => x = .int .i64 σ.mark.1 ∧ ∃ A', WT h' t X A' σ.mark.2 q cs clk ∧ Mv X.s A A' h h' := by
  refine Ok.le ?_ tl2_Tx_int_Mark_le
  simp only [F_tl2_Tx_int_Mark, open0 w h1, Option.bind_some, asI_i64, decide_true, Bool.not_true, cond_f]
  refine Ok.le ?_ tl2_Tx_int_Mark_j1_le
  simp only [Option.bind_some, w.c3]
  refine Ok.bind (set_mark w.S hm) ?_
  rintro _ h2 ⟨rfl, A2, s2, m2⟩
  simp only [asI_i64, Option.bind_some]
  exact Ok.some ⟨rfl, A2, w.mv s2 m2, m2⟩
theorem tx_keep (w : WT h t X A σ q cs clk) (h1 : X.st = 1) (hm : σ.marks.length ≤ 8) : Ok (C k_tl2_Tx_int_Keep [ptr t] h) fun x h' => x = .int .i64 σ.keep.1 ∧ ∃ A', WT h' t X A' σ.keep.2 q cs clk ∧ Mv X.s A A' h h' := by
  refine Ok.le ?_ tl2_Tx_int_Keep_le
  simp only [F_tl2_Tx_int_Keep, open0 w h1, Option.bind_some, asI_i64, decide_true, Bool.not_true, cond_f]
  refine Ok.le ?_ tl2_Tx_int_Keep_j1_le
  simp only [Option.bind_some, w.c3]
  refine Ok.bind (set_keep w.S hm) ?_
  rintro _ h2 ⟨rfl, A2, s2, m2⟩
  simp only [asI_i64, Option.bind_some]
  exact Ok.some ⟨rfl, A2, w.mv s2 m2, m2⟩
theorem tx_undo (w : WT h t X A σ q cs clk) (h1 : X.st = 1) (hm : σ.marks.length ≤ 8) (hp : σ.past.length < 1000000) (h0 : ∀ x ∈ σ.marks, 0 ≤ x) : Ok (C k_tl2_Tx_int_Undo [ptr t] h) fun x h' => x = .int .i64 σ.undo.1 ∧ ∃ A', WT h' t X A' σ.undo.2 q cs clk ∧ Mv X.s A A' h h' := by
  refine Ok.le ?_ tl2_Tx_int_Undo_le
  simp only [F_tl2_Tx_int_Undo, open0 w h1, Option.bind_some, asI_i64, decide_true, Bool.not_true, cond_f]
  refine Ok.le ?_ tl2_Tx_int_Undo_j1_le
  simp only [Option.bind_some, w.c3]
  refine Ok.bind (set_undo w.S hm hp h0) ?_
  rintro _ h2 ⟨rfl, A2, s2, m2⟩
  simp only [asI_i64, Option.bind_some]
  exact Ok.some ⟨rfl, A2, w.mv s2 m2, m2⟩
theorem tx_write (w : WT h t X A σ q cs clk) (h1 : X.st = 1) (hp : σ.past.length < 1000000) {i : Int} (hi0 : 0 ≤ i) (hi1 : i < cs.length) (v : Int) : Ok (C k_tl2_Tx_int_Write [ptr t, .int .i64 i, .int .i64 v] h) fun x h' => x = .int .i64 (σ.write i v).1 ∧ ∃ A', WT h' t X A' (σ.write i v).2 q cs clk ∧ Mv X.s A A' h h' := by
  have e : openE X.st cs.length i = 0 := by
    simp only [openE, h1]
    rw [if_neg (by simp), if_neg (by omega)]
  refine Ok.le ?_ tl2_Tx_int_Write_le
  simp only [F_tl2_Tx_int_Write, tx_open w, e, Option.bind_some, asI_i64, decide_true, Bool.not_true, cond_f]
  refine Ok.le ?_ tl2_Tx_int_Write_j1_le
  simp only [Option.bind_some, w.c3]
  refine Ok.bind (set_write w.S hp i v) ?_
  rintro _ h2 ⟨rfl, A2, s2, m2⟩
  simp only [asI_i64, Option.bind_some]
  exact Ok.some ⟨rfl, A2, w.mv s2 m2, m2⟩
theorem tx_writes (w : WT h t X A σ q cs clk) (hw : Wk (σ.writes.map Prod.fst)) (hl : σ.writes.length ≤ 1000000) : Ok (C k_tl2_Tx_int_Writes [ptr t] h) fun x h' => ∃ a c, x = .slice a σ.writes.length c ∧ Fresh h h' a σ.writes.length c (sortI (σ.writes.map Prod.fst)) := by
  refine Ok.le ?_ tl2_Tx_int_Writes_le
  simp only [F_tl2_Tx_int_Writes, tx_right w, Option.bind_some, asB_b, Bool.not_true, cond_f]
  refine Ok.le ?_ tl2_Tx_int_Writes_j1_le
  simp only [Option.bind_some, w.c3]
  refine Ok.bind (set_writes w.S hw hl) ?_
  rintro _ h2 ⟨a2, c2, rfl, F2⟩
  simp only [asS_s, Option.bind_some]
  exact Ok.some ⟨a2, c2, rfl, F2⟩
/-- a read of a cell that nobody has published -/
theorem tx_read (w : WT h t X A σ q cs clk) (h1 : X.st = 1) {i : Int} (hi0 : 0 ≤ i) (hi1 : i < cs.length) {c : Cel} (hc : cs[i.toNat]? = some c) (ho : c.own = 0) (hv : c.ver ≤ X.beg) (hr : ∀ n, alook σ.reads i = some n → n = c.ver) :
    Ok (C k_tl2_Tx_int_Read [ptr t, .int .i64 i] h) fun x h' => ∃ σ' A', WT h' t X A' σ' q cs clk ∧ Mv X.s A A' h h' ∧ σ'.writes = σ.writes ∧ σ'.past = σ.past ∧ σ'.marks = σ.marks ∧
      (σ' = σ ∧ alook σ.writes i = some (aval (alook σ.writes i)) ∧ x = .tuple #[.int .i64 (aval (alook σ.writes i)), .int .i64 0] ∨
       alook σ.writes i = none ∧ σ' = (σ.read i c.ver).2 ∧ x = (if (σ.read i c.ver).1 = 0 then .tuple #[.int .i64 c.v, .int .i64 0] else .tuple #[.int .i64 0, .int .i64 (σ.read i c.ver).1])) := by
  have e : openE X.st cs.length i = 0 := by
    simp only [openE, h1]
    rw [if_neg (by simp), if_neg (by omega)]
  have hload : loadM cs i = (c, 0) := by
    simp only [loadM]
    rw [if_neg (by omega), hc]
  refine Ok.le ?_ tl2_Tx_int_Read_le
  simp only [F_tl2_Tx_int_Read, tx_open w, e, Option.bind_some, asI_i64, decide_true, Bool.not_true, cond_f]
  refine Ok.le ?_ tl2_Tx_int_Read_j5_le
  simp only [Option.bind_some, w.c3, set_value w.S, asTu_t, hdO_c, asI_i64, asB_b, List.isEmpty_nil, cond_t]
  obtain hwv | ⟨v, hwv⟩ := Option.eq_none_or_eq_some (alook σ.writes i)
  · rw [show aok (alook σ.writes i) = false by rw [hwv]; rfl, cond_f]
    refine Ok.le ?_ tl2_Tx_int_Read_j4_le
    simp only [Option.bind_some, w.c0, w.c2, w.c3, load_eq w.M, hload, asTu_t, hdO_c, asI_i64, asB_b, List.isEmpty_nil, cond_t, set_seen w.S, ho, decide_true, Bool.not_true, cond_f]
    have hb : ¬ X.beg < c.ver := by omega
    rw [dec_f hb, cond_f]
    have fin : Ok (tl2_Tx_int_Read_j3 (some ⟨t, 0, none⟩) i c.ver c.v false h) fun x h' => ∃ σ' A', WT h' t X A' σ' q cs clk ∧ Mv X.s A A' h h' ∧ σ'.writes = σ.writes ∧ σ'.past = σ.past ∧ σ'.marks = σ.marks ∧
      (σ' = σ ∧ alook σ.writes i = some (aval (alook σ.writes i)) ∧ x = .tuple #[.int .i64 (aval (alook σ.writes i)), .int .i64 0] ∨
       alook σ.writes i = none ∧ σ' = (σ.read i c.ver).2 ∧ x = (if (σ.read i c.ver).1 = 0 then .tuple #[.int .i64 c.v, .int .i64 0] else .tuple #[.int .i64 0, .int .i64 (σ.read i c.ver).1])) := by
      refine Ok.le ?_ tl2_Tx_int_Read_j3_le
      rw [cond_f]
      refine Ok.le ?_ tl2_Tx_int_Read_j2_le
      simp only [Option.bind_some, w.c3]
      refine Ok.bind (set_rd w.S i c.ver) ?_
      rintro _ h2 ⟨rfl, s2, m2⟩
      rw [asI_i64, Option.bind_some]
      by_cases d : (σ.read i c.ver).1 = 0
      · rw [dec_t d, Bool.not_true, cond_f, if_pos d]
        refine Ok.le ?_ tl2_Tx_int_Read_j1_le
        exact Ok.some ⟨_, A, w.mv s2 m2, m2, rfl, rfl, rfl, .inr ⟨hwv, rfl, rfl⟩⟩
      · rw [dec_f d, Bool.not_false, cond_t, if_neg d]
        exact Ok.some ⟨_, A, w.mv s2 m2, m2, rfl, rfl, rfl, .inr ⟨hwv, rfl, rfl⟩⟩
    obtain hrd | ⟨n, hrd⟩ := Option.eq_none_or_eq_some (alook σ.reads i)
    · rw [show aok (alook σ.reads i) = false by rw [hrd]; rfl, cond_f]; exact fin
    · rw [show aok (alook σ.reads i) = true by rw [hrd]; rfl, cond_t, dec_t (show aval (alook σ.reads i) = c.ver by rw [hrd]; exact hr n hrd), Bool.not_true]
      exact fin
  · rw [show aok (alook σ.writes i) = true by rw [hwv]; rfl, cond_t]
    exact Ok.some ⟨σ, A, w, .refl _ _ _, rfl, rfl, rfl, .inl ⟨rfl, by rw [hwv]; rfl, rfl⟩⟩
theorem tx_begin {p : Nat} (hM : MemR h p q cs clk) {o : Int} (ho : 1 ≤ o) : ∃ h', C k_tl2_Begin_int [ptr p, .int .i64 o] h = some (.tuple #[ptr (h.n + 3), .int .i64 0], h') ∧ WT h' (h.n + 3) ⟨p, o, clk, h.n + 2, 1, none, 0, 0, false, 0⟩ ⟨h.n, h.n + 1, none, 0, 0, none, 0, 0⟩ {} q cs clk ∧ h'.n = h.n + 4 ∧ Fr [] h h' := by
  obtain ⟨h1, e1, s1, n1, f1⟩ := set_new h
  have f2 : Fr [] h1 (h1.push (.cells (encX ⟨p, o, clk, h.n + 2, 1, none, 0, 0, false, 0⟩) false false 8)) := Fr.push _ _ _
  refine ⟨h1.push (.cells (encX ⟨p, o, clk, h.n + 2, 1, none, 0, 0, false, 0⟩) false false 8), ?_, ?_, by show h1.n + 1 = _; omega, f1.trans f2⟩
  · refine tl2_Begin_int_le _ ?_
    have hl := hM.len
    simp only [F_tl2_Begin_int, size_eq hM, Option.bind_some, asI_i64]
    rw [dec_f (by omega), cond_f, dec_f (by omega), cond_f]
    refine tl2_Begin_int_j1_le _ ?_
    simp only [clock_eq hM, Option.bind_some, asI_i64, e1, asP_p, n1]
    rfl
  · have own1 : ∀ b, own (h.n + 2) ⟨h.n, h.n + 1, none, 0, 0, none, 0, 0⟩ b → h.n ≤ b ∧ b < h.n + 3 := fun b hb => by
      rcases hb with hb | hb | hb | hb | hb
      · omega
      · simp only at hb; omega
      · simp only at hb; omega
      · exact hb.elim
      · exact hb.elim
    have pn := hM.pn
    have qn := hM.qn
    refine ⟨by rw [← n1]; exact AH.get_push_eq _ _, s1.fr f2, WT.mem hM ((f1.trans f2).g _ pn (by simp)) ((f1.trans f2).g _ qn (by simp)) (f1.trans f2).n, by show h.n + 3 < h1.n + 1; omega, fun ho => by have := own1 _ ho; omega, fun ho => by have := own1 _ ho; simp only at this; omega, fun ho => by have := own1 _ ho; omega, ?_, by omega⟩
    show h.n + 3 ≠ p
    omega
end
end Go.Lg.Try

namespace Go.Lg.Try
set_option linter.unusedVariables false
set_option linter.unusedSimpArgs false
open Go Go.Proofs
/-- what a body may change besides the transaction's sets -/
structure Fp (F : Nat → Prop) (s : Nat) (A A' : SA) (h h' : AH) : Prop where
  n : h.n ≤ h'.n
  g : ∀ b, b < h.n → ¬ own s A b → ¬ F b → h'.get b = h.get b
  o : ∀ b, own s A' b → own s A b ∨ h.n ≤ b
theorem Fp.refl (F : Nat → Prop) (s : Nat) (A : SA) (h : AH) : Fp F s A A h h := ⟨Nat.le_refl _, fun _ _ _ _ => rfl, fun _ hb => .inl hb⟩
theorem Mv.fp {s : Nat} {A A' : SA} {h h' : AH} (m : Mv s A A' h h') (F : Nat → Prop) : Fp F s A A' h h' := ⟨m.n, fun b h1 h2 _ => m.g b h1 h2, m.o⟩
theorem Fp.trans {F : Nat → Prop} {s : Nat} {A B D : SA} {h h1 h2 : AH} (a : Fp F s A B h h1) (b : Fp F s B D h1 h2) : Fp F s A D h h2 :=
  ⟨Nat.le_trans a.n b.n, fun x hx hn hf => (b.g x (Nat.lt_of_lt_of_le hx a.n) (fun ho => (a.o x ho).elim hn fun hl => by omega) hf).trans (a.g x hx hn hf), fun x hx => (b.o x hx).elim (a.o x) fun hl => .inr (Nat.le_trans a.n hl)⟩
section
variable {h h' : AH} {t : Nat} {X : Txc} {A A' : SA} {σ σ' : St} {q : Nat} {cs : List Cel} {clk : Int}
def closeSt (e : Int) (σ : St) : St := if e = 0 then σ.keep.2 else σ.undo.2
theorem closeSt_len (e : Int) (σ : St) : (closeSt e σ).marks.length = σ.marks.length - 1 := by
  unfold closeSt
  split
  · unfold St.keep St.last; split
    · simp only; omega
    · simp only [List.length_take]; omega
  · unfold St.undo St.last; split
    · simp only; omega
    · simp only [List.length_take]; omega
theorem closed_ok (w : WT h t X A σ q cs clk) (h1 : X.st = 1) {d : Nat} (hm : σ.marks.length = d + 1) (h8 : d < 8) (hp : σ.past.length < 1000000) (h0 : ∀ x ∈ σ.marks, 0 ≤ x) (e : Int) :
    Ok (C k_nest_closed_int [ptr t, .int .i64 (d : Nat), .int .i64 e] h) fun x h' => x = .int .i64 e ∧ ∃ A', WT h' t X A' (closeSt e σ) q cs clk ∧ Mv X.s A A' h h' := by
  have L1 : ∀ {h' : AH} {A' : SA} {σ' : St}, WT h' t X A' σ' q cs clk → σ'.marks.length = d → nest_closed_int_L1 (some ⟨t, 0, none⟩) ((d : Nat) : Int) e h' = some (.int .i64 e, h') := by
    intro h' A' σ' w' hl
    refine nest_closed_int_L1_le _ ?_
    simp only [tx_depth w', Option.bind_some, asI_i64, hl]
    rw [dec_f (by omega), cond_f]
    exact nest_closed_int_j1_le _ rfl
  have J3 : Ok (nest_closed_int_j3 (some ⟨t, 0, none⟩) ((d : Nat) : Int) e h) fun x h' => x = .int .i64 e ∧ ∃ A', WT h' t X A' (closeSt e σ) q cs clk ∧ Mv X.s A A' h h' := by
    refine Ok.le ?_ nest_closed_int_j3_le
    refine Ok.le ?_ nest_closed_int_L1_le
    simp only [tx_depth w, Option.bind_some, asI_i64, hm]
    rw [dec_t (by omega), cond_t]
    refine Ok.le ?_ nest_closed_int_j2_le
    by_cases c : e = 0
    · rw [dec_t c, cond_t]
      refine Ok.bind (tx_keep w h1 (by omega)) ?_
      rintro _ h2 ⟨rfl, A2, w2, m2⟩
      simp only [asI_i64, Option.bind_some]
      have e2 : closeSt e σ = σ.keep.2 := by unfold closeSt; rw [if_pos c]
      have e3 := closeSt_len e σ
      rw [e2] at e3
      rw [L1 w2 (by omega), e2]
      exact Ok.some ⟨rfl, A2, w2, m2⟩
    · rw [dec_f c, cond_f]
      refine Ok.bind (tx_undo w h1 (by omega) hp h0) ?_
      rintro _ h2 ⟨rfl, A2, w2, m2⟩
      simp only [asI_i64, Option.bind_some]
      have e2 : closeSt e σ = σ.undo.2 := by unfold closeSt; rw [if_neg c]
      have e3 := closeSt_len e σ
      rw [e2] at e3
      rw [L1 w2 (by omega), e2]
      exact Ok.some ⟨rfl, A2, w2, m2⟩
  refine Ok.le ?_ nest_closed_int_le
  simp only [F_nest_closed_int, tx_status w, h1, Option.bind_some, asI_u8, decide_true, Bool.not_true, cond_f]
  refine Ok.le ?_ nest_closed_int_j4_le
  rw [cond_f]
  simp only [tx_status w, h1, Option.bind_some, asI_u8, decide_true, Bool.not_true, cond_f, tx_depth w, asI_i64, hm]
  rw [dec_f (by omega), cond_f]
  exact J3
theorem isNilG_some (c : FuncId × List Value × List Value) : isNilG (fnV (some c)) = some false := rfl
theorem fnQ_some (c : FuncId × List Value × List Value) : fnQ (fnV (some c)) = some c := rfl
theorem get_set1 {h : AH} {b b' : Nat} {x : Value} {e : Nat} (hg : h.get b = some (.cells [x] false false e)) (v : Value) : ∃ h', h.st b 0 [v] = some h' ∧ h'.get b = some (.cells [v] false false e) ∧ h'.n = h.n ∧ ∀ b', b' ≠ b → h'.get b' = h.get b' :=
  ⟨_, AH.st_of hg (by simp), AH.get_set_eq _ _ _, rfl, fun b' hb => AH.get_set_ne _ hb⟩
theorem scope_ok (w : WT h t X A σ q cs clk) (hst : X.st = 1) (hm : σ.marks.length < 8) {fid : FuncId} {caps : List Value} (hbody : hasBody Try.prog fid = true) (F : Nat → Prop) (hF : ∀ b, F b → b < h.n) {Bp : AH → Int → AH → SA → St → Prop}
    (body : ∀ h1 A1, WT h1 t X A1 σ.mark.2 q cs clk → Mv X.s A A1 h h1 → Ok (C fid caps h1) fun x h2 => ∃ e A2 σ2, x = .int .i64 e ∧ WT h2 t X A2 σ2 q cs clk ∧ σ2.marks.length = σ.marks.length + 1 ∧ σ2.past.length < 1000000 ∧ (∀ x ∈ σ2.marks, 0 ≤ x) ∧ Fp F X.s A1 A2 h1 h2 ∧ Bp h1 e h2 A2 σ2) :
    Ok (C k_nest_Scope_int [ptr t, fnV (some (fid, [], caps))] h) fun x h' => ∃ e h1 h2 A2 σ2 A', x = .int .i64 e ∧ Bp h1 e h2 A2 σ2 ∧ WT h' t X A' (closeSt e σ2) q cs clk ∧ h2.n ≤ h'.n ∧ (∀ b, (b < h.n ∨ h1.n ≤ b) → b < h2.n → ¬ own X.s A2 b → h'.get b = h2.get b) ∧ Fp F X.s A A' h h' ∧ (∀ b, own X.s A' b → own X.s A2 b ∨ h2.n ≤ b) := by
  refine Ok.le ?_ nest_Scope_int_le
  unfold F_nest_Scope_int
  have f4 : Fr [] h (h.push (.cells [ptr t] false false 1)) := Fr.push _ _ _
  have f5 : Fr [] (h.push (.cells [ptr t] false false 1)) ((h.push (.cells [ptr t] false false 1)).push (.cells [.int .i64 0] false false 1)) := Fr.push _ _ _
  generalize hh4 : h.push (.cells [ptr t] false false 1) = h4 at f4 f5
  have n4 : h4.n = h.n + 1 := by rw [← hh4]; rfl
  have g4 : h4.get h.n = some (.cells [ptr t] false false 1) := by rw [← hh4]; exact AH.get_push_eq _ _
  generalize hh5 : h4.push (.cells [.int .i64 0] false false 1) = h5 at f5
  have n5 : h5.n = h.n + 2 := by rw [← hh5, AH.n_push, n4]
  have g5 : h5.get h4.n = some (.cells [.int .i64 0] false false 1) := by rw [← hh5]; exact AH.get_push_eq _ _
  have g54 : h5.get h.n = some (.cells [ptr t] false false 1) := by rw [f5.g h.n (by omega) (by simp)]; exact g4
  have w5 := w.fr (f4.trans f5)
  simp only [hh4, hh5, AH.ldP_of (o := 0) g54 rfl, Option.bind_some, tx_status w5, hst, asI_u8, isNilG_some, cond_f]
  rw [dec_f (show ¬(1 : Int) = 0 by omega), cond_f]
  refine Ok.le ?_ nest_Scope_int_j2_le
  simp only [Option.bind_some, AH.ldP_of (o := 0) g54 rfl, tx_depth w5, asI_i64]
  obtain ⟨h20, s20, g20, f20, n20⟩ := push_st h5 [.int .i64 0] [.int .i64 (σ.marks.length : Nat)] 1 rfl
  have w20 := w5.fr f20
  have t20 : h20.get h.n = some (.cells [ptr t] false false 1) := by rw [f20.g h.n (by omega) (by simp)]; exact g54
  have e20 : h20.get h4.n = some (.cells [.int .i64 0] false false 1) := by rw [f20.g h4.n (by omega) (by simp)]; exact g5
  simp only [s20, Option.bind_some, AH.ldP_of (o := 0) t20 rfl]
  refine Ok.bind (tx_mark w20 hst (by omega)) ?_
  rintro _ h1 ⟨rfl, A1, w1, m1⟩
  have em : σ.mark.1 = 0 := by unfold St.mark; rw [if_neg (by omega)]
  rw [em]
  simp only [asI_i64, Option.bind_some, decide_true, Bool.not_true, cond_f]
  refine Ok.le ?_ nest_Scope_int_j1_le
  simp only [fnQ_some, Option.bind_some, hbody, cond_t, List.nil_append]
  have fa : Fr [] h h20 := (f4.trans f5).trans f20
  have mv : Mv X.s A A1 h h1 := (Mv.fr fa).trans m1
  refine Ok.bind (body h1 A1 w1 mv) ?_
  rintro _ h2 ⟨e, A2, σ2, rfl, w2, b1, b2, b3, b4, b5⟩
  simp only [asI_i64, Option.bind_some]
  have n1 := m1.n
  -- the boxes
  have na : ∀ b, h.n ≤ b → b < h20.n → ¬ own X.s A1 b := fun b hb1 hb2 ho => (m1.o b ho).elim (fun ho => by have := w.S.lt b ho; omega) fun hl => by omega
  have keep1 : ∀ b, h.n ≤ b → b < h20.n → h2.get b = h20.get b := fun b hb1 hb2 => (b4.g b (by omega) (na b hb1 hb2) (fun hf => by have := hF b hf; omega)).trans (m1.g b hb2 fun ho => by have := w.S.lt b ho; omega)
  have t2 : h2.get h.n = some (.cells [ptr t] false false 1) := by rw [keep1 h.n (Nat.le_refl _) (by omega)]; exact t20
  have e2 : h2.get h4.n = some (.cells [.int .i64 0] false false 1) := by rw [keep1 h4.n (by omega) (by omega)]; exact e20
  have d2 : h2.get h5.n = some (.cells [.int .i64 (σ.marks.length : Nat)] false false 1) := by rw [keep1 h5.n (by omega) (by omega)]; exact g20
  have na2 : ∀ b, h.n ≤ b → b < h20.n → ¬ own X.s A2 b := fun b hb1 hb2 ho => (b4.o b ho).elim (na b hb1 hb2) fun hl => by omega
  obtain ⟨h33, s33, g33, n33, o33⟩ := get_set1 (b' := 0) e2 (.int .i64 e)
  have ne4 : ∀ b, (b = t ∨ b = X.p ∨ b = q ∨ own X.s A2 b) → b ≠ h4.n := fun b hb e => by
    subst e
    have := w.tn; have := w.M.pn; have := w.M.qn
    rcases hb with hb | hb | hb | hb
    · omega
    · omega
    · omega
    · exact na2 _ (by omega) (by omega) hb
  have w33 := w2.off (h' := h33) (fun b _ hb => o33 b (ne4 b hb)) (by omega)
  simp only [s33]
  have t33 : h33.get h.n = some (.cells [ptr t] false false 1) := by rw [o33 h.n (by omega)]; exact t2
  have d33 : h33.get h5.n = some (.cells [.int .i64 (σ.marks.length : Nat)] false false 1) := by rw [o33 h5.n (by omega)]; exact d2
  have deferred : Ok (C k_nest_Scope_int_1 [.pointer (some ⟨h.n, 0, none⟩), .pointer (some ⟨h5.n, 0, none⟩), .pointer (some ⟨h4.n, 0, none⟩)] h33) fun x h' => h'.get h4.n = some (.cells [.int .i64 e] false false 1) ∧ ∃ A', WT h' t X A' (closeSt e σ2) q cs clk ∧ h33.n ≤ h'.n ∧ (∀ b, b < h33.n → b ≠ h4.n → ¬ own X.s A2 b → h'.get b = h33.get b) ∧ (∀ b, own X.s A' b → own X.s A2 b ∨ h33.n ≤ b) := by
    refine Ok.le ?_ nest_Scope_int_1_le
    simp only [F_nest_Scope_int_1, Option.bind_some, AH.ldP_of (o := 0) t33 rfl, AH.ldI_of (k := .i64) (o := 0) d33 rfl, AH.ldI_of (k := .i64) (o := 0) g33 rfl]
    refine Ok.bind (closed_ok w33 hst b1 (by omega) b2 b3 e) ?_
    rintro _ h5' ⟨rfl, A5, w5', m5⟩
    simp only [asI_i64, Option.bind_some]
    have e5 : h5'.get h4.n = some (.cells [.int .i64 e] false false 1) := by rw [m5.g h4.n (by have := b4.n; omega) (na2 _ (by omega) (by omega))]; exact g33
    obtain ⟨h6, s6, g6, n6, o6⟩ := get_set1 (b' := 0) e5 (.int .i64 e)
    simp only [s6, Option.bind_some]
    have na5 : ∀ b, h.n ≤ b → b < h20.n → ¬ own X.s A5 b := fun b hb1 hb2 ho => (m5.o b ho).elim (na2 b hb1 hb2) fun hl => by have := b4.n; omega
    refine Ok.some ⟨g6, A5, w5'.off (fun b _ hb => o6 b fun e => ?_) (by omega), by have := m5.n; omega, fun b hb1 hb2 hb3 => (o6 b hb2).trans (m5.g b hb1 hb3), m5.o⟩
    subst e
    have := w.tn; have := w.M.pn; have := w.M.qn
    rcases hb with hb | hb | hb | hb
    · omega
    · omega
    · omega
    · exact na5 _ (by omega) (by omega) hb
  refine Ok.bind deferred ?_
  rintro x h' ⟨q1, A', q2, q3, q4, q5⟩
  simp only [AH.ldI_of (k := .i64) (o := 0) q1 rfl, Option.bind_some]
  refine Ok.some ⟨e, h1, h2, A2, σ2, A', rfl, b5, q2, by omega, fun b hb1 hb2 hb3 => ?_, ⟨by have := b4.n; omega, fun b hb1 hb2 hb3 => ?_, fun b hb => ?_⟩, fun b hb => (q5 b hb).imp id fun hl => by omega⟩
  · have hne : b ≠ h4.n := fun e => by rcases hb1 with hb1 | hb1 <;> omega
    rw [q4 b (by omega) hne hb3, o33 b hne]
  · have h3 : ¬ own X.s A2 b := fun ho => (b4.o b ho).elim (fun ho => (mv.o b ho).elim hb2 fun hl => by omega) fun hl => by omega
    rw [q4 b (by have := b4.n; omega) (by omega) h3, o33 b (by omega), b4.g b (by omega) (fun ho => (mv.o b ho).elim hb2 fun hl => by omega) hb3]
    exact mv.g b hb1 hb2
  · rcases q5 b hb with ho | hl
    · exact (b4.o b ho).elim (mv.o b) fun hl => .inr (by omega)
    · exact .inr (by have := b4.n; omega)
end
end Go.Lg.Try
