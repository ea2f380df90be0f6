/- Sets, memories and transactions as parts of memory. -/
import Derived.Test.YtodbjmagcelfjaaGreatFtl2
import Derived.Test.YtodbjmagcelfjaaGreatPsetsJ
import Derived.Test.YtodbjmagcelfjaaGreatPcellOwn
import Derived.Test.YtodbjmagcelfjaaGreatEv38
import Derived.Test.YtodbjmagcelfjaaGreatFnest
set_option linter.unusedVariables false
set_option linter.unusedSimpArgs false
namespace Go.Lg.Tryz
set_option linter.unusedVariables false
set_option linter.unusedSimpArgs false
open Go Go.Proofs
theorem asI_u8' (x : Int) : asI .u8 (.int .u8 x) = some x := rfl
theorem _root_.Go.Lg.OwS.live {h : AH} {sz : Nat} {a : Option Addr} {n c : Nat} {cs : List Value} (ho : OwS h sz a n c cs) : ∀ b, blk a b → (h.get b).isSome = true ∧ b < h.n := by
  cases ho with
  | nil => intro b hb; cases hb
  | mk hb hl hr hn => rintro b rfl; exact ⟨by rw [hb]; rfl, hn⟩
theorem _root_.Go.Lg.OwS.same2 {h h' : AH} {sz : Nat} {a : Option Addr} {n c : Nat} {cs : List Value} (ho : OwS h sz a n c cs) (hg : ∀ b, blk a b → h'.get b = h.get b ∧ b < h'.n) : OwS h' sz a n c cs := by
  cases ho with
  | nil => exact .nil
  | mk hb hl hr hn => exact .mk (by rw [(hg _ rfl).1]; exact hb) hl hr (hg _ rfl).2
theorem _root_.Go.Lg.MI.live {h : AH} {r : Nat} {l : List (Int × Int)} (hm : MI h r l) : (h.get r).isSome = true ∧ r < h.n := by
  obtain ⟨es, clk, h1, h2⟩ := hm.ex
  exact ⟨by rw [h1]; rfl, hm.lt⟩
theorem _root_.Go.Lg.MI.same2 {h h' : AH} {r : Nat} {l : List (Int × Int)} (hm : MI h r l) (hg : h'.get r = h.get r ∧ r < h'.n) : MI h' r l := by
  obtain ⟨es, clk, h1, h2⟩ := hm.ex
  exact ⟨⟨es, clk, by rw [hg.1]; exact h1, h2⟩, hm.nk, hg.2⟩
section
variable {h h' : AH} {s : Nat} {A A' : SA} {σ σ' : St} {F : List Asr}
theorem SQ.live (q : SQ h s A σ) : ∀ b, own s A b → (h.get b).isSome = true ∧ b < h.n := by
  rintro b (rfl | rfl | rfl | hb | hb)
  · exact ⟨by rw [q.g]; rfl, q.sn⟩
  · exact q.r.live
  · exact q.w.live
  · exact q.po.live b hb
  · exact q.mo.live b hb
theorem SQ.same2 (q : SQ h s A σ) (hg : ∀ b, own s A b → h'.get b = h.get b ∧ b < h'.n) : SQ h' s A σ :=
  ⟨by rw [(hg s (.inl rfl)).1]; exact q.g, q.r.same2 (hg _ (.inr (.inl rfl))), q.w.same2 (hg _ (.inr (.inr (.inl rfl)))), q.po.same2 fun b hb => hg b (.inr (.inr (.inr (.inl hb)))), q.mo.same2 fun b hb => hg b (.inr (.inr (.inr (.inr hb)))), (hg s (.inl rfl)).2, q.d1, q.d2, q.d3, q.p1, q.p2, q.p3, q.m1, q.m2, q.m3, q.pm⟩
def aSet (s : Nat) (σ : St) : Asr := fun m => ∃ A, Up (fun h => SQ h s A σ) (own s A) m
theorem set_at (hh : H h (aSet s σ :: F)) : ∃ A, SQ h s A σ := by
  obtain ⟨A, hh⟩ := hh.ex
  exact ⟨A, hh.of_up⟩
theorem set_run {x : Res} {P : Value → Prop} (hh : H h (aSet s σ :: F)) (f : ∀ A, SQ h s A σ → Ok x fun v h' => P v ∧ ∃ A', SQ h' s A' σ' ∧ Mv s A A' h h') : Ok x fun v h' => P v ∧ H h' (aSet s σ' :: F) := by
  obtain ⟨A, hh⟩ := hh.ex
  refine Ok.mono (f A hh.of_up) ?_
  rintro v h' ⟨p, A', q', m⟩
  refine ⟨p, ?_⟩
  have := hh.run m.n (fun b hb hn => m.g b hb hn) m.o q'.live fun h'' hg => q'.same2 hg
  exact this.imp fun m hm => ⟨A', hm⟩
theorem fresh_run {x : Res} {n : Nat} {l : List Int} (hh : H h F) (f : Ok x fun v h' => ∃ a c, v = .slice a n c ∧ Fresh h h' a n c l) : Ok x fun v h' => ∃ a c, v = .slice a n c ∧ n = l.length ∧ H h' (aOw 1 a n c (l.flatMap encI) :: F) := by
  refine Ok.mono f ?_
  rintro v h' ⟨a, c, rfl, fr⟩
  refine ⟨a, c, rfl, fr.e, ?_⟩
  exact hh.fresh fr.f.n (fun b hb => fr.f.g b hb (by simp)) fr.b fr.o.live fun h'' hg => fr.o.same2 hg
end
section
variable {h h' : AH} {p q : Nat} {cs cs' : List Cel} {clk clk' : Int} {F : List Asr}
theorem MemR.live (m : MemR h p q cs clk) : ∀ b, (b = p ∨ b = q) → (h.get b).isSome = true ∧ b < h.n := by
  rintro b (rfl | rfl)
  · exact ⟨by rw [m.hp]; rfl, m.pn⟩
  · exact ⟨by rw [m.hq]; rfl, m.qn⟩
theorem MemR.same2 (m : MemR h p q cs clk) (hg : ∀ b, (b = p ∨ b = q) → h'.get b = h.get b ∧ b < h'.n) : MemR h' p q cs clk :=
  ⟨by rw [(hg p (.inl rfl)).1]; exact m.hp, by rw [(hg q (.inr rfl)).1]; exact m.hq, m.ne, (hg p (.inl rfl)).2, (hg q (.inr rfl)).2, m.len, m.c0, m.c1⟩
def aMem (p q : Nat) (cs : List Cel) (clk : Int) : Asr := Up (fun h => MemR h p q cs clk) fun b => b = p ∨ b = q
theorem mem_at (hh : H h (aMem p q cs clk :: F)) : MemR h p q cs clk := hh.of_up
theorem mem_run {x : Res} {P : Value → Prop} {S : List Nat} (hS : ∀ b ∈ S, b = p ∨ b = q) (hh : H h (aMem p q cs clk :: F)) (f : MemR h p q cs clk → Ok x fun v h' => P v ∧ MemR h' p q cs' clk' ∧ Fr S h h') : Ok x fun v h' => P v ∧ H h' (aMem p q cs' clk' :: F) := by
  refine Ok.mono (f hh.of_up) ?_
  rintro v h' ⟨hp, m, fr⟩
  exact ⟨hp, hh.run fr.n (fun b hb hn => fr.g b hb fun hs => hn (hS b hs)) (fun b hb => .inl hb) m.live fun h'' hg => m.same2 hg⟩
end
structure Txc where
  p : Nat
  owner : Int
  beg : Int
  s : Nat
  st : Int
  la : Option Addr
  ln : Nat
  lc : Nat
  told : Bool
  ver : Int
def encX (X : Txc) : List Value := [.pointer (some ⟨X.p, 0, none⟩), .int .i64 X.owner, .int .i64 X.beg, .pointer (some ⟨X.s, 0, none⟩), .int .u8 X.st, .slice X.la X.ln X.lc, .bool X.told, .int .i64 X.ver]
/-- a transaction and its sets -/
abbrev aT (t : Nat) (X : Txc) : Asr := Cs t (encX X) 8
section
variable {h h' : AH} {t : Nat} {X : Txc} {σ σ' : St} {q : Nat} {cs : List Cel} {clk : Int} {F : List Asr}
theorem T0 (w : H h (aT t X :: F)) : h.ldP t (0 + 0) = some (some ⟨X.p, 0, none⟩) := AH.ldP_of w.get rfl
theorem T1 (w : H h (aT t X :: F)) : h.ldI .i64 t (0 + 1) = some X.owner := AH.ldI_of w.get rfl
theorem T2 (w : H h (aT t X :: F)) : h.ldI .i64 t (0 + 2) = some X.beg := AH.ldI_of w.get rfl
theorem T3 (w : H h (aT t X :: F)) : h.ldP t (0 + 3) = some (some ⟨X.s, 0, none⟩) := AH.ldP_of w.get rfl
theorem T4 (w : H h (aT t X :: F)) : h.ldI .u8 t (0 + 4) = some X.st := AH.ldI_of w.get rfl
theorem T5 (w : H h (aT t X :: F)) : h.ldS t (0 + 5) = some (X.la, X.ln, X.lc) := AH.ldS_of w.get rfl
theorem T6 (w : H h (aT t X :: F)) : h.ldB t (0 + 6) = some X.told := AH.ldB_of w.get rfl
theorem T7 (w : H h (aT t X :: F)) : h.ldI .i64 t (0 + 7) = some X.ver := AH.ldI_of w.get rfl
theorem txr (w : H h (aT t X :: F)) : C k_tl2_Tx_int_right [ptr t] h = some (.bool true, h) := by
  refine tl2_Tx_int_right_le _ ?_
  simp only [F_tl2_Tx_int_right, Option.isNone_some, Bool.not_false, cond_t, Option.bind_some, T0 w]
theorem txStatus (w : H h (aT t X :: F)) : C k_tl2_Tx_int_Status [ptr t] h = some (.int .u8 X.st, h) := by
  refine tl2_Tx_int_Status_le _ ?_
  simp only [F_tl2_Tx_int_Status, txr w, Option.bind_some, asB_b, Bool.not_true, cond_f]
  refine tl2_Tx_int_Status_j1_le _ ?_
  simp only [Option.bind_some, T4 w]
theorem txDepth (w : H h (aT t X :: aSet X.s σ :: F)) : C k_tl2_Tx_int_Depth [ptr t] h = some (.int .i64 (σ.marks.length : Nat), h) := by
  obtain ⟨A, q⟩ := set_at w.u1
  refine tl2_Tx_int_Depth_le _ ?_
  simp only [F_tl2_Tx_int_Depth, txr w, Option.bind_some, asB_b, Bool.not_true, cond_f]
  refine tl2_Tx_int_Depth_j1_le _ ?_
  simp only [Option.bind_some, T3 w, set_depth q, asI_i64]
def openE (st : Int) (n : Nat) (i : Int) : Int := if st ≠ 1 then 132 else if i < 0 ∨ (n : Int) ≤ i then 2 else 0
theorem txOpen (w : H h (aT t X :: aMem X.p q cs clk :: F)) (i : Int) : C k_tl2_Tx_int_open [ptr t, .int .i64 i] h = some (.int .i64 (openE X.st cs.length i), h) := by
  have hM := mem_at w.u1
  refine tl2_Tx_int_open_le _ ?_
  simp only [F_tl2_Tx_int_open, txr w, Option.bind_some, asB_b, Bool.not_true, cond_f, T4 w, T0 w, openE]
  by_cases a : X.st = 1
  · rw [dec_t a, Bool.not_true, cond_f, if_neg (by simp [a])]
    by_cases b : i < 0
    · rw [dec_t b, cond_t, if_pos (.inl b)]
    · rw [dec_f b, cond_f]
      simp only [size_eq hM, Option.bind_some, asI_i64]
      by_cases c : i < (cs.length : Int)
      · rw [dec_t c, Bool.not_true, cond_f, if_neg (by omega)]
        exact tl2_Tx_int_open_j1_le _ rfl
      · rw [dec_f c, Bool.not_false, cond_t, if_pos (by omega)]
  · rw [dec_f a, Bool.not_false, cond_t, if_pos a]
theorem openE0 (w : H h (aT t X :: aMem X.p q cs clk :: F)) : openE X.st cs.length 0 = if X.st = 1 then 0 else 132 := by
  have hl := (mem_at w.u1).len
  simp only [openE]
  by_cases a : X.st = 1
  · rw [if_neg (by simp [a]), if_neg (by omega), if_pos a]
  · rw [if_pos a, if_neg a]
/-- Mark, Keep, Undo -/
theorem txMark (w : H h (aT t X :: aSet X.s σ :: aMem X.p q cs clk :: F)) (hm : σ.marks.length ≤ 8) : Ok (C k_tl2_Tx_int_Mark [ptr t] h) fun x h' => x = .int .i64 (if X.st = 1 then σ.mark.1 else 132) ∧ H h' (aT t X :: aSet X.s (if X.st = 1 then σ.mark.2 else σ) :: aMem X.p q cs clk :: F) := by
  refine Ok.le ?_ tl2_Tx_int_Mark_le
  have w2 : H h (aT t X :: aMem X.p q cs clk :: aSet X.s σ :: F) := w.perm (.cons _ (.swap _ _ _))
  simp only [F_tl2_Tx_int_Mark, txOpen w2, openE0 w2, Option.bind_some, asI_i64]
  by_cases a : X.st = 1
  · simp only [if_pos a, decide_true, Bool.not_true, cond_f]
    refine Ok.le ?_ tl2_Tx_int_Mark_j1_le
    simp only [Option.bind_some, T3 w]
    refine Ok.bind (set_run w.u1 fun A q => set_mark q hm) ?_
    rintro _ h2 ⟨rfl, w3⟩
    simp only [asI_i64, Option.bind_some]
    exact Ok.some ⟨rfl, w3.u1⟩
  · simp only [if_neg a]
    rw [dec_f (by decide), Bool.not_false, cond_t]
    exact Ok.some ⟨rfl, w⟩
theorem txKeep (w : H h (aT t X :: aSet X.s σ :: aMem X.p q cs clk :: F)) (hm : σ.marks.length ≤ 8) : Ok (C k_tl2_Tx_int_Keep [ptr t] h) fun x h' => x = .int .i64 (if X.st = 1 then σ.keep.1 else 132) ∧ H h' (aT t X :: aSet X.s (if X.st = 1 then σ.keep.2 else σ) :: aMem X.p q cs clk :: F) := by
  refine Ok.le ?_ tl2_Tx_int_Keep_le
  have w2 : H h (aT t X :: aMem X.p q cs clk :: aSet X.s σ :: F) := w.perm (.cons _ (.swap _ _ _))
  simp only [F_tl2_Tx_int_Keep, txOpen w2, openE0 w2, Option.bind_some, asI_i64]
  by_cases a : X.st = 1
  · simp only [if_pos a, decide_true, Bool.not_true, cond_f]
    refine Ok.le ?_ tl2_Tx_int_Keep_j1_le
    simp only [Option.bind_some, T3 w]
    refine Ok.bind (set_run w.u1 fun A q => set_keep q hm) ?_
    rintro _ h2 ⟨rfl, w3⟩
    simp only [asI_i64, Option.bind_some]
    exact Ok.some ⟨rfl, w3.u1⟩
  · simp only [if_neg a]
    rw [dec_f (by decide), Bool.not_false, cond_t]
    exact Ok.some ⟨rfl, w⟩
theorem txUndo (w : H h (aT t X :: aSet X.s σ :: aMem X.p q cs clk :: F)) (hm : σ.marks.length ≤ 8) (hp : σ.past.length < 1000000) (h0 : ∀ x ∈ σ.marks, 0 ≤ x) : Ok (C k_tl2_Tx_int_Undo [ptr t] h) fun x h' => x = .int .i64 (if X.st = 1 then σ.undo.1 else 132) ∧ H h' (aT t X :: aSet X.s (if X.st = 1 then σ.undo.2 else σ) :: aMem X.p q cs clk :: F) := by
  refine Ok.le ?_ tl2_Tx_int_Undo_le
  have w2 : H h (aT t X :: aMem X.p q cs clk :: aSet X.s σ :: F) := w.perm (.cons _ (.swap _ _ _))
  simp only [F_tl2_Tx_int_Undo, txOpen w2, openE0 w2, Option.bind_some, asI_i64]
  by_cases a : X.st = 1
  · simp only [if_pos a, decide_true, Bool.not_true, cond_f]
    refine Ok.le ?_ tl2_Tx_int_Undo_j1_le
    simp only [Option.bind_some, T3 w]
    refine Ok.bind (set_run w.u1 fun A q => set_undo q hm hp h0) ?_
    rintro _ h2 ⟨rfl, w3⟩
    simp only [asI_i64, Option.bind_some]
    exact Ok.some ⟨rfl, w3.u1⟩
  · simp only [if_neg a]
    rw [dec_f (by decide), Bool.not_false, cond_t]
    exact Ok.some ⟨rfl, w⟩
def txW (X : Txc) (n : Nat) (σ : St) (i v : Int) : Int × St := if openE X.st n i = 0 then σ.write i v else (openE X.st n i, σ)
theorem txWrite (w : H h (aT t X :: aSet X.s σ :: aMem X.p q cs clk :: F)) (hp : σ.past.length < 1000000) (i v : Int) : Ok (C k_tl2_Tx_int_Write [ptr t, .int .i64 i, .int .i64 v] h) fun x h' => x = .int .i64 (txW X cs.length σ i v).1 ∧ H h' (aT t X :: aSet X.s (txW X cs.length σ i v).2 :: aMem X.p q cs clk :: F) := by
  refine Ok.le ?_ tl2_Tx_int_Write_le
  have w2 : H h (aT t X :: aMem X.p q cs clk :: aSet X.s σ :: F) := w.perm (.cons _ (.swap _ _ _))
  simp only [F_tl2_Tx_int_Write, txOpen w2, Option.bind_some, asI_i64, txW]
  by_cases a : openE X.st cs.length i = 0
  · rw [dec_t a, Bool.not_true, cond_f, if_pos a]
    refine Ok.le ?_ tl2_Tx_int_Write_j1_le
    simp only [Option.bind_some, T3 w]
    refine Ok.bind (set_run w.u1 fun A q => set_write q hp i v) ?_
    rintro _ h2 ⟨rfl, w3⟩
    simp only [asI_i64, Option.bind_some]
    exact Ok.some ⟨rfl, w3.u1⟩
  · rw [dec_f a, Bool.not_false, cond_t, if_neg a]
    exact Ok.some ⟨rfl, w⟩
theorem txReads (w : H h (aT t X :: aSet X.s σ :: F)) (hw : Wk (σ.reads.map Prod.fst)) (hl : σ.reads.length ≤ 1000000) : Ok (C k_tl2_Tx_int_Reads [ptr t] h) fun x h' => ∃ a c, x = .slice a σ.reads.length c ∧ H h' (aOw 1 a σ.reads.length c ((sortI (σ.reads.map Prod.fst)).flatMap encI) :: aT t X :: aSet X.s σ :: F) := by
  refine Ok.le ?_ tl2_Tx_int_Reads_le
  simp only [F_tl2_Tx_int_Reads, txr w, Option.bind_some, asB_b, Bool.not_true, cond_f]
  refine Ok.le ?_ tl2_Tx_int_Reads_j1_le
  obtain ⟨A, q⟩ := set_at w.u1
  simp only [Option.bind_some, T3 w]
  refine Ok.bind (fresh_run w (set_reads q hw hl)) ?_
  rintro _ h2 ⟨a2, c2, rfl, _, w2⟩
  simp only [asS_s, Option.bind_some]
  exact Ok.some ⟨a2, c2, rfl, w2⟩
theorem txBegin {p : Nat} (w : H h (aMem p q cs clk :: F)) {o : Int} (ho : 1 ≤ o) : Ok (C k_tl2_Begin_int [ptr p, .int .i64 o] h) fun x h' => ∃ t s, x = .tuple #[ptr t, .int .i64 0] ∧ H h' (aT t ⟨p, o, clk, s, 1, none, 0, 0, false, 0⟩ :: aSet s {} :: aMem p q cs clk :: F) := by
  have hM := mem_at w
  obtain ⟨h1, e1, s1, n1, f1⟩ := set_new h
  have w1 : H h1 (aSet (h.n + 2) {} :: aMem p q cs clk :: F) := (w.fresh (Φ' := fun h' => SQ h' (h.n + 2) ⟨h.n, h.n + 1, none, 0, 0, none, 0, 0⟩ {}) (S' := own (h.n + 2) ⟨h.n, h.n + 1, none, 0, 0, none, 0, 0⟩) f1.n (fun b hb => f1.g b hb (by simp)) (fun b hb => by
    rcases hb with hb | hb | hb | hb | hb
    · omega
    · simp only at hb; omega
    · simp only at hb; omega
    · exact hb.elim
    · exact hb.elim) s1.live fun h'' hg => s1.same2 hg).imp fun m hm => ⟨_, hm⟩
  refine ⟨_, h1.push (.cells (encX ⟨p, o, clk, h.n + 2, 1, none, 0, 0, false, 0⟩) false false 8), ?_, h1.n, h.n + 2, rfl, w1.push _⟩
  refine tl2_Begin_int_le _ ?_
  have hl := hM.len
  simp only [F_tl2_Begin_int, size_eq hM, Option.bind_some, asI_i64]
  rw [dec_f (by omega), cond_f, dec_f (by omega), cond_f]
  refine tl2_Begin_int_j1_le _ ?_
  simp only [clock_eq hM, Option.bind_some, asI_i64, e1, asP_p]
  rfl
end
end Go.Lg.Tryz

namespace Go.Lg.Tryz
set_option linter.unusedVariables false
set_option linter.unusedSimpArgs false
open Go Go.Proofs
/-- all that an owner has is free -/
def free1 (o : Int) (c : Cel) : Cel := if c.own = o then { c with own := 0 } else c
def freeM (cs : List Cel) (o : Int) : List Cel := cs.map (free1 o)
def uns (cs : List Cel) (o : Int) (l : List Int) : List Cel := l.foldl (fun cs i => (unlockM cs i o).2) cs
theorem unlock_get {cs : List Cel} {i o : Int} (h0 : 0 ≤ i) (h1 : i < cs.length) (ho : 1 ≤ o) (j : Nat) : (unlockM cs i o).2[j]? = if (j : Int) = i then (cs[j]?).map (free1 o) else cs[j]? := by
  obtain ⟨c, hc⟩ : ∃ c, cs[i.toNat]? = some c := ⟨_, List.getElem?_eq_getElem (by omega)⟩
  unfold unlockM
  rw [if_neg (show ¬(i < 0 ∨ (cs.length : Int) ≤ i ∨ o < 1) by omega)]
  simp only [hc]
  by_cases e : (j : Int) = i
  · rw [if_pos e]
    obtain rfl : i.toNat = j := by omega
    rw [hc]
    by_cases e2 : c.own = o
    · simp [e2, free1, List.getElem?_set_self (show i.toNat < cs.length by omega)]
    · simp [e2, free1, hc]
  · rw [if_neg e]
    by_cases e2 : c.own = o
    · simp [e2, List.getElem?_set_ne (show i.toNat ≠ j by omega)]
    · simp [e2]
theorem unlock_len {cs : List Cel} {i o : Int} : (unlockM cs i o).2.length = cs.length := by
  unfold unlockM
  repeat' split
  all_goals simp
theorem free1_idem (o : Int) (c : Cel) : free1 o (free1 o c) = free1 o c := by
  unfold free1
  by_cases e : c.own = o
  · simp only [if_pos e]; split <;> rfl
  · simp only [if_neg e]
theorem uns_get {o : Int} (ho : 1 ≤ o) : ∀ (l : List Int) {cs : List Cel}, (∀ i ∈ l, 0 ≤ i ∧ i < cs.length) → ∀ j : Nat, (uns cs o l)[j]? = if (j : Int) ∈ l then (cs[j]?).map (free1 o) else cs[j]?
  | [], cs, _, j => by simp [uns]
  | i :: l, cs, hl, j => by
    obtain ⟨h0, h1⟩ := hl i (List.mem_cons_self ..)
    have ih := uns_get ho l (cs := (unlockM cs i o).2) (fun k hk => by rw [unlock_len]; exact hl k (List.mem_cons_of_mem _ hk)) j
    show (uns (unlockM cs i o).2 o l)[j]? = _
    rw [ih, unlock_get h0 h1 ho]
    by_cases e : (j : Int) = i
    · rw [if_pos e, if_pos (show (j : Int) ∈ i :: l by rw [e]; exact List.mem_cons_self ..)]
      split
      · rw [Option.map_map]; congr 1; funext c; exact free1_idem o c
      · rfl
    · rw [if_neg e]
      by_cases e2 : (j : Int) ∈ l
      · rw [if_pos e2, if_pos (List.mem_cons_of_mem _ e2)]
      · rw [if_neg e2, if_neg (by rintro h; rcases List.mem_cons.mp h with h | h; exact e h; exact e2 h)]
theorem uns_len {o : Int} : ∀ (l : List Int) {cs : List Cel}, (uns cs o l).length = cs.length
  | [], cs => rfl
  | i :: l, cs => by show (uns (unlockM cs i o).2 o l).length = _; rw [uns_len l, unlock_len]
theorem mem_owned {cs : List Cel} {o : Int} (ho : 1 ≤ o) {i : Int} : i ∈ ownedM cs o ↔ 0 ≤ i ∧ ∃ c, cs[i.toNat]? = some c ∧ c.own = o := by
  unfold ownedM ownUp
  rw [if_neg (by omega)]
  simp only [List.mem_map, List.mem_filter, List.mem_range]
  constructor
  · rintro ⟨k, ⟨hk, hc⟩, rfl⟩
    refine ⟨by omega, ?_⟩
    simp only [Int.toNat_natCast]
    cases hg : cs[k]? with
    | none => rw [hg] at hc; simp at hc
    | some c => rw [hg] at hc; exact ⟨c, rfl, by simpa using hc⟩
  · rintro ⟨h0, c, hc, ho⟩
    refine ⟨i.toNat, ⟨?_, ?_⟩, by omega⟩
    · exact (List.getElem?_eq_some_iff.mp hc).1
    · rw [hc]; simpa using ho
theorem uns_owned {cs : List Cel} {o : Int} (ho : 1 ≤ o) : uns cs o (ownedM cs o) = freeM cs o := by
  apply List.ext_getElem?
  intro j
  rw [uns_get ho _ (fun i hi => by
    obtain ⟨h0, c, hc, _⟩ := (mem_owned ho).mp hi
    have := (List.getElem?_eq_some_iff.mp hc).1
    omega)]
  unfold freeM
  rw [List.getElem?_map]
  split
  · rfl
  · rename_i hn
    cases hc : cs[j]? with
    | none => rfl
    | some c =>
      have : ¬ c.own = o := fun e => hn ((mem_owned ho).mpr ⟨by omega, c, by simpa using hc, e⟩)
      simp [free1, this]
theorem free_len (cs : List Cel) (o : Int) : (freeM cs o).length = cs.length := by simp [freeM]
theorem rdI {h : AH} {a : Option Addr} {l : List Int} (hr : Rd h a (l.flatMap encI)) {k : Nat} {x : Int} (hx : l[k]? = some x) : ∃ ad, a = some ad ∧ h.ldI .i64 ad.block (ad.off + k * 1) = some x := by
  have hc : (l.flatMap encI)[k * 1 + 0]? = some (.int .i64 x) := by rw [flat_get_some encI_len (by decide) hx]; rfl
  rcases hr with e | ⟨ad, c, op, ro, e, ha, h1, h2, h3⟩
  · rw [e] at hc; simp at hc
  · have := h3 _ _ hc
    rw [Nat.add_zero] at this
    exact ⟨ad, ha, AH.ldI_of h1 this⟩
/-- a list of numbers that may be read -/
theorem rd_run {x : Res} {F : List Asr} {h : AH} {l : List Int} (hh : H h F) (f : Ok x fun v h' => ∃ a n c, v = .slice a n c ∧ n = l.length ∧ Rd h' a (l.flatMap encI) ∧ Fr [] h h' ∧ (∀ b, blk a b → h.n ≤ b)) : Ok x fun v h' => ∃ a c, v = .slice a l.length c ∧ H h' (aRd a (l.flatMap encI) :: F) := by
  refine Ok.mono f ?_
  rintro v h' ⟨a, n, c, rfl, rfl, hr, fr, hb⟩
  exact ⟨a, c, rfl, hh.fresh fr.n (fun b hb => fr.g b hb (by simp)) (fun b hb' => hb b hb'.2) hr.live fun h'' hg => hr.same2 hg⟩
section
variable {h h' : AH} {t : Nat} {X : Txc} {σ σ' : St} {q : Nat} {cs : List Cel} {clk : Int} {F : List Asr}
theorem T_st {k : Nat} {v : Value} (w : H h (aT t X :: F)) (X' : Txc) (hk : k + 1 ≤ 8) (e : AH.setL (encX X) (0 + k) [v] = encX X') : ∃ h', h.st t (0 + k) [v] = some h' ∧ H h' (aT t X' :: F) ∧ h'.n = h.n := by
  obtain ⟨h', e1, w1, n1⟩ := w.st (o := 0 + k) [v] (by show 0 + k + 1 ≤ 8; omega)
  rw [e] at w1
  exact ⟨h', e1, w1, n1⟩
def failX (X : Txc) : Txc := { X with st := 4, ver := 0, la := none, ln := 0, lc := 0 }
theorem fail_loop (l : List Int) {a : Option Addr} {c : Nat} (hlen : l.length < 1000000) : ∀ (n k : Nat) {h : AH} {cs : List Cel}, l.length - k = n → k ≤ l.length → H h (aRd a (l.flatMap encI) :: aT t X :: aMem X.p q cs clk :: F) →
    Ok (tl2_Tx_int_fail_L1 (some ⟨t, 0, none⟩) a l.length c ((l.length : Nat) : Int) (k : Nat) h) fun x h' => x = .tuple #[] ∧ H h' (aT t (failX X) :: aMem X.p q (uns cs X.owner (l.drop k)) clk :: F) := by
  intro n
  induction n with
  | zero =>
    intro k h cs hn hk w
    refine Ok.le ?_ tl2_Tx_int_fail_L1_le
    refine Ok.le ?_ tl2_Tx_int_fail_j4_le
    rw [dec_f (by omega), cond_f]
    refine Ok.le ?_ tl2_Tx_int_fail_j1_le
    obtain ⟨h1, e1, w1, _⟩ := T_st (k := 4) (v := .int .u8 4) w.drop { X with st := 4 } (by decide) rfl
    obtain ⟨h2, e2, w2, _⟩ := T_st (k := 7) (v := .int .i64 0) w1 { X with st := 4, ver := 0 } (by decide) rfl
    obtain ⟨h3, e3, w3, _⟩ := T_st (k := 5) (v := .slice none 0 0) w2 (failX X) (by decide) rfl
    simp only [Option.bind_some, e1, e2, e3]
    rw [List.drop_of_length_le (by omega)]
    exact Ok.some ⟨rfl, w3⟩
  | succ n ih =>
    intro k h cs hn hk w
    refine Ok.le ?_ tl2_Tx_int_fail_L1_le
    refine Ok.le ?_ tl2_Tx_int_fail_j4_le
    rw [dec_t (by omega), cond_t]
    refine Ok.le ?_ tl2_Tx_int_fail_j3_le
    obtain ⟨x, hx⟩ : ∃ x, l[k]? = some x := ⟨_, List.getElem?_eq_getElem (by omega)⟩
    obtain ⟨ad, ha, g0⟩ := rdI w.rd hx
    have hb : inB ((k : Nat) : Int) l.length = true := inB_t (by omega) (by omega)
    have wT := w.u1
    rw [ha]
    simp only [Option.bind_some, hb, cond_t, Int.toNat_natCast, g0, T0 wT, T1 wT]
    rw [← ha]
    refine Ok.bind (mem_run (S := [q]) (by simp) w.u2 fun m => unlock_ok m x X.owner) ?_
    rintro _ h2 ⟨rfl, w2⟩
    simp only [asI_i64, Option.bind_some]
    refine Ok.le ?_ tl2_Tx_int_fail_j2_le
    rw [show IntKind.wrap .i64 (((k : Nat) : Int) + 1) = ((k + 1 : Nat) : Int) by rw [wrap64 (by omega) (by omega)]; omega]
    have := ih (k + 1) (by omega) (by omega) w2.d2
    have hd : l.drop k = x :: l.drop (k + 1) := by
      obtain ⟨hl, e⟩ := List.getElem?_eq_some_iff.mp hx
      rw [List.drop_eq_getElem_cons hl, e]
    rw [hd]
    exact this
theorem txFail (w : H h (aT t X :: aMem X.p q cs clk :: F)) (ho : 1 ≤ X.owner) (hcs : cs.length ≤ 1024) : Ok (C k_tl2_Tx_int_fail [ptr t] h) fun x h' => x = .tuple #[] ∧ H h' (aT t (failX X) :: aMem X.p q (freeM cs X.owner) clk :: F) := by
  refine Ok.le ?_ tl2_Tx_int_fail_le
  simp only [F_tl2_Tx_int_fail, Option.bind_some, T0 w, T1 w]
  refine Ok.bind (rd_run w (owned_ok (mem_at w.u1) X.owner hcs)) ?_
  rintro _ h2 ⟨a, c, rfl, w2⟩
  simp only [asS_s, Option.bind_some]
  have hle := ownedM_le cs X.owner
  refine Ok.mono (fail_loop (ownedM cs X.owner) (by omega) _ 0 rfl (by omega) w2) ?_
  rintro x h' ⟨rfl, w3⟩
  rw [List.drop_zero, uns_owned ho] at w3
  exact ⟨rfl, w3⟩
theorem txAbort (w : H h (aT t X :: aMem X.p q cs clk :: F)) (ho : 1 ≤ X.owner) (hcs : cs.length ≤ 1024) : Ok (C k_tl2_Tx_int_Abort [ptr t] h) fun x h' => (X.st = 3 ∨ X.st = 4 ∨ X.told = true) ∧ x = .int .i64 132 ∧ H h' (aT t X :: aMem X.p q cs clk :: F) ∨
    ¬(X.st = 3 ∨ X.st = 4 ∨ X.told = true) ∧ x = .int .i64 0 ∧ H h' (aT t (failX X) :: aMem X.p q (freeM cs X.owner) clk :: F) := by
  refine Ok.le ?_ tl2_Tx_int_Abort_le
  simp only [F_tl2_Tx_int_Abort, txr w, Option.bind_some, asB_b, Bool.not_true, cond_f, T4 w, T6 w]
  by_cases c1 : X.st = 3
  · rw [dec_t c1, cond_t]; exact Ok.some (.inl ⟨.inl c1, rfl, w⟩)
  rw [dec_f c1, cond_f]
  by_cases c2 : X.st = 4
  · rw [dec_t c2, cond_t]; exact Ok.some (.inl ⟨.inr (.inl c2), rfl, w⟩)
  rw [dec_f c2, cond_f]
  cases c3 : X.told with
  | true => rw [cond_t]; exact Ok.some (.inl ⟨.inr (.inr rfl), rfl, w⟩)
  | false =>
    rw [cond_f]
    refine Ok.le ?_ tl2_Tx_int_Abort_j1_le
    refine Ok.bind (txFail w ho hcs) ?_
    rintro _ h2 ⟨rfl, w2⟩
    simp only [asTu_t, Option.bind_some, List.isEmpty_nil, cond_t]
    exact Ok.some (.inr ⟨by simp [c1, c2], rfl, w2⟩)
theorem txSeen (w : H h (aT t X :: aSet X.s σ :: F)) (i : Int) : C k_tl2_Tx_int_Seen [ptr t, .int .i64 i] h = some (.tuple #[.int .i64 (aval (alook σ.reads i)), .bool (aok (alook σ.reads i))], h) := by
  obtain ⟨A, q⟩ := set_at w.u1
  refine tl2_Tx_int_Seen_le _ ?_
  simp only [F_tl2_Tx_int_Seen, txr w, Option.bind_some, asB_b, Bool.not_true, cond_f]
  refine tl2_Tx_int_Seen_j1_le _ ?_
  simp only [Option.bind_some, T3 w, set_seen q, asTu_t, hdO_c, asI_i64, asB_b, List.isEmpty_nil, cond_t]
/-- what a read comes to: what it tells, the transaction, its sets, the cells -/
def staleM (X : Txc) (σ : St) (c : Cel) (i : Int) : Bool := c.own ≠ 0 ∨ X.beg < c.ver ∨ (aok (alook σ.reads i) = true ∧ aval (alook σ.reads i) ≠ c.ver)
def readTx (X : Txc) (σ : St) (cs : List Cel) (i : Int) : (Int × Int) × Txc × St × List Cel :=
  if openE X.st cs.length i ≠ 0 then ((0, openE X.st cs.length i), X, σ, cs)
  else if aok (alook σ.writes i) then ((aval (alook σ.writes i), 0), X, σ, cs)
  else if staleM X σ (loadM cs i).1 i then ((0, 131), failX X, σ, freeM cs X.owner)
  else if (σ.read i (loadM cs i).1.ver).1 ≠ 0 then ((0, (σ.read i (loadM cs i).1.ver).1), X, (σ.read i (loadM cs i).1.ver).2, cs)
  else (((loadM cs i).1.v, 0), X, (σ.read i (loadM cs i).1.ver).2, cs)
theorem txRead (w : H h (aT t X :: aSet X.s σ :: aMem X.p q cs clk :: F)) (ho : 1 ≤ X.owner) (hcs : cs.length ≤ 1024) (i : Int) : Ok (C k_tl2_Tx_int_Read [ptr t, .int .i64 i] h) fun x h' => x = .tuple #[.int .i64 (readTx X σ cs i).1.1, .int .i64 (readTx X σ cs i).1.2] ∧
    H h' (aT t (readTx X σ cs i).2.1 :: aSet X.s (readTx X σ cs i).2.2.1 :: aMem X.p q (readTx X σ cs i).2.2.2 clk :: F) := by
  have w2 : H h (aT t X :: aMem X.p q cs clk :: aSet X.s σ :: F) := w.perm (.cons _ (.swap _ _ _))
  refine Ok.le ?_ tl2_Tx_int_Read_le
  simp only [F_tl2_Tx_int_Read, txOpen w2, Option.bind_some, asI_i64]
  unfold readTx
  by_cases c0 : openE X.st cs.length i = 0
  rotate_left
  · rw [dec_f c0, Bool.not_false, cond_t, if_pos c0]
    exact Ok.some ⟨rfl, w⟩
  rw [dec_t c0, Bool.not_true, cond_f, if_neg (by simp [c0])]
  refine Ok.le ?_ tl2_Tx_int_Read_j5_le
  obtain ⟨A, qs⟩ := set_at w.u1
  have hM := mem_at w.u2
  simp only [Option.bind_some, T3 w, set_value qs, asTu_t, hdO_c, asI_i64, asB_b, List.isEmpty_nil, cond_t]
  by_cases c1 : aok (alook σ.writes i) = true
  · rw [if_pos c1, c1, cond_t]
    exact Ok.some ⟨rfl, w⟩
  rw [if_neg c1, Bool.eq_false_iff.mpr c1, cond_f]
  refine Ok.le ?_ tl2_Tx_int_Read_j4_le
  simp only [Option.bind_some, T0 w, T2 w, T3 w, load_eq hM, asTu_t, hdO_c, asI_i64, asB_b, List.isEmpty_nil, cond_t, set_seen qs]
  generalize hcc : (loadM cs i).1 = c
  have stale : staleM X σ c i = true → Ok (tl2_Tx_int_Read_j3 (some ⟨t, 0, none⟩) i c.ver c.v true h) fun x h' => x = .tuple #[.int .i64 (0, (131 : Int)).1, .int .i64 (0, (131 : Int)).2] ∧ H h' (aT t (failX X) :: aSet X.s σ :: aMem X.p q (freeM cs X.owner) clk :: F) := fun hs => by
    refine Ok.le ?_ tl2_Tx_int_Read_j3_le
    rw [cond_t]
    refine Ok.bind (txFail w2 ho hcs) ?_
    rintro _ h2 ⟨rfl, w3⟩
    simp only [asTu_t, Option.bind_some, List.isEmpty_nil, cond_t]
    exact Ok.some ⟨rfl, w3.perm (.cons _ (.swap _ _ _))⟩
  have fine : staleM X σ c i = false → Ok (tl2_Tx_int_Read_j3 (some ⟨t, 0, none⟩) i c.ver c.v false h) fun x h' => x = .tuple #[.int .i64 (if (σ.read i c.ver).1 ≠ 0 then ((0, (σ.read i c.ver).1), X, (σ.read i c.ver).2, cs) else ((c.v, 0), X, (σ.read i c.ver).2, cs) : (Int × Int) × Txc × St × List Cel).1.1, .int .i64 (if (σ.read i c.ver).1 ≠ 0 then ((0, (σ.read i c.ver).1), X, (σ.read i c.ver).2, cs) else ((c.v, 0), X, (σ.read i c.ver).2, cs) : (Int × Int) × Txc × St × List Cel).1.2] ∧
      H h' (aT t (if (σ.read i c.ver).1 ≠ 0 then ((0, (σ.read i c.ver).1), X, (σ.read i c.ver).2, cs) else ((c.v, 0), X, (σ.read i c.ver).2, cs) : (Int × Int) × Txc × St × List Cel).2.1 :: aSet X.s (if (σ.read i c.ver).1 ≠ 0 then ((0, (σ.read i c.ver).1), X, (σ.read i c.ver).2, cs) else ((c.v, 0), X, (σ.read i c.ver).2, cs) : (Int × Int) × Txc × St × List Cel).2.2.1 :: aMem X.p q (if (σ.read i c.ver).1 ≠ 0 then ((0, (σ.read i c.ver).1), X, (σ.read i c.ver).2, cs) else ((c.v, 0), X, (σ.read i c.ver).2, cs) : (Int × Int) × Txc × St × List Cel).2.2.2 clk :: F) := fun hs => by
    refine Ok.le ?_ tl2_Tx_int_Read_j3_le
    rw [cond_f]
    refine Ok.le ?_ tl2_Tx_int_Read_j2_le
    simp only [Option.bind_some, T3 w]
    refine Ok.bind (set_run w.u1 fun A q => Ok.mono (set_rd q i c.ver) fun v h' ⟨a, b, d⟩ => ⟨a, A, b, d⟩) ?_
    rintro _ h2 ⟨rfl, w3⟩
    rw [asI_i64, Option.bind_some]
    by_cases d : (σ.read i c.ver).1 = 0
    · rw [dec_t d, Bool.not_true, cond_f, if_neg (by simp [d])]
      refine Ok.le ?_ tl2_Tx_int_Read_j1_le
      exact Ok.some ⟨rfl, w3.u1⟩
    · rw [dec_f d, Bool.not_false, cond_t, if_pos d]
      exact Ok.some ⟨rfl, w3.u1⟩
  by_cases c2 : c.own = 0
  rotate_left
  · have hs : staleM X σ c i = true := by simp [staleM, c2]
    rw [dec_f c2, Bool.not_false, cond_t, if_pos hs]
    exact stale hs
  rw [dec_t c2, Bool.not_true, cond_f]
  by_cases c3 : X.beg < c.ver
  · have hs : staleM X σ c i = true := by simp [staleM, c3]
    rw [dec_t c3, cond_t, if_pos hs]
    exact stale hs
  rw [dec_f c3, cond_f]
  by_cases c4 : aok (alook σ.reads i) = true
  · rw [c4, cond_t]
    by_cases c5 : aval (alook σ.reads i) = c.ver
    · have hs : staleM X σ c i = false := by simp [staleM, c2, c3, c5]
      rw [dec_t c5, Bool.not_true, if_neg (by simp [hs])]
      exact fine hs
    · have hs : staleM X σ c i = true := by simp [staleM, c4, c5]
      rw [dec_f c5, Bool.not_false, if_pos hs]
      exact stale hs
  · have hs : staleM X σ c i = false := by simp [staleM, c2, c3, c4]
    rw [Bool.eq_false_iff.mpr c4, cond_f, if_neg (by simp [hs])]
    exact fine hs
end
end Go.Lg.Tryz

namespace Go.Lg.Tryz
set_option linter.unusedVariables false
set_option linter.unusedSimpArgs false
open Go Go.Proofs
def closeSt (e : Int) (σ : St) : St := if e = 0 then σ.keep.2 else σ.undo.2
theorem closeSt_len (e : Int) (σ : St) : (closeSt e σ).marks.length = σ.marks.length - 1 := by
  unfold closeSt
  split
  · unfold St.keep St.last; split
    · simp only; omega
    · simp only [List.length_take]; omega
  · unfold St.undo St.last; split
    · simp only; omega
    · simp only [List.length_take]; omega
theorem closeSt_wf {e : Int} {σ : St} {N : Nat} (w : Wf σ N) : Wf (closeSt e σ) (N + 2) := by
  unfold closeSt; split
  · exact w.keep
  · exact w.undo
def closeN (e : Int) : Nat → St → St
  | 0, σ => σ
  | n + 1, σ => closeN e n (closeSt e σ)
def closedM (st e : Int) (d : Nat) (σ : St) : Int × St := if st ≠ 1 then (if e = 0 then 132 else e, σ) else if σ.marks.length ≤ d ∧ e = 0 then (136, σ) else (e, closeN e (σ.marks.length - d) σ)
theorem closeN_wf (e : Int) : ∀ (n : Nat) {σ : St} {N : Nat}, Wf σ N → Wf (closeN e n σ) (N + 2 * n)
  | 0, σ, N, w => w
  | n + 1, σ, N, w => (closeN_wf e n (closeSt_wf w)).more (by omega)
theorem closedM_wf {st e : Int} {d : Nat} {σ : St} {N : Nat} (w : Wf σ N) : Wf (closedM st e d σ).2 (N + 16) := by
  have := w.ml
  unfold closedM
  split
  · exact w.more (by omega)
  · split
    · exact w.more (by omega)
    · exact (closeN_wf e _ w).more (by omega)
section
variable {h h' : AH} {t : Nat} {X : Txc} {σ σ' : St} {q : Nat} {cs : List Cel} {clk : Int} {F : List Asr}
theorem closed_loop (hst : X.st = 1) (e : Int) (d : Nat) : ∀ (n : Nat) {h : AH} {σ : St} {N : Nat}, σ.marks.length - d = n → Wf σ N → N + 2 * n < 1000000 → H h (aT t X :: aSet X.s σ :: aMem X.p q cs clk :: F) →
    Ok (nest_closed_int_L1 (some ⟨t, 0, none⟩) ((d : Nat) : Int) e h) fun x h' => x = .int .i64 e ∧ H h' (aT t X :: aSet X.s (closeN e n σ) :: aMem X.p q cs clk :: F) := by
  intro n
  induction n with
  | zero =>
    intro h σ N hn wf hN w
    refine Ok.le ?_ nest_closed_int_L1_le
    simp only [txDepth w, Option.bind_some, asI_i64]
    rw [dec_f (by omega), cond_f]
    refine Ok.le ?_ nest_closed_int_j1_le
    exact Ok.some ⟨rfl, w⟩
  | succ n ih =>
    intro h σ N hn wf hN w
    refine Ok.le ?_ nest_closed_int_L1_le
    simp only [txDepth w, Option.bind_some, asI_i64]
    rw [dec_t (by omega), cond_t]
    refine Ok.le ?_ nest_closed_int_j2_le
    have hl := closeSt_len e σ
    by_cases c : e = 0
    · rw [dec_t c, cond_t]
      refine Ok.bind (txKeep w wf.ml) ?_
      rintro _ h2 ⟨rfl, w2⟩
      simp only [asI_i64, Option.bind_some]
      have e2 : closeSt e σ = σ.keep.2 := by unfold closeSt; rw [if_pos c]
      rw [if_pos hst, ← e2] at w2
      exact ih (by omega) (closeSt_wf wf) (by omega) w2
    · rw [dec_f c, cond_f]
      refine Ok.bind (txUndo w wf.ml (by have := wf.sz; omega) wf.m0) ?_
      rintro _ h2 ⟨rfl, w2⟩
      simp only [asI_i64, Option.bind_some]
      have e2 : closeSt e σ = σ.undo.2 := by unfold closeSt; rw [if_neg c]
      rw [if_pos hst, ← e2] at w2
      exact ih (by omega) (closeSt_wf wf) (by omega) w2
theorem closedS (w : H h (aT t X :: aSet X.s σ :: aMem X.p q cs clk :: F)) {N : Nat} (wf : Wf σ N) (hN : N < 900000) (d : Nat) (e : Int) :
    Ok (C k_nest_closed_int [ptr t, .int .i64 (d : Nat), .int .i64 e] h) fun x h' => x = .int .i64 (closedM X.st e d σ).1 ∧ H h' (aT t X :: aSet X.s (closedM X.st e d σ).2 :: aMem X.p q cs clk :: F) := by
  refine Ok.le ?_ nest_closed_int_le
  have ml := wf.ml
  simp only [F_nest_closed_int, txStatus w, Option.bind_some, asI_u8]
  by_cases hst : X.st = 1
  · have J3 : ¬(σ.marks.length ≤ d ∧ e = 0) → Ok (nest_closed_int_j3 (some ⟨t, 0, none⟩) ((d : Nat) : Int) e h) fun x h' => x = .int .i64 (closedM X.st e d σ).1 ∧ H h' (aT t X :: aSet X.s (closedM X.st e d σ).2 :: aMem X.p q cs clk :: F) := fun hc => by
      refine Ok.le ?_ nest_closed_int_j3_le
      simp only [closedM]
      rw [if_neg (by simp [hst]), if_neg hc]
      exact closed_loop hst e d _ rfl wf (by omega) w
    rw [dec_t hst, Bool.not_true, cond_f]
    refine Ok.le ?_ nest_closed_int_j4_le
    rw [cond_f]
    simp only [txStatus w, Option.bind_some, asI_u8]
    rw [dec_t hst, Bool.not_true, cond_f]
    simp only [txDepth w, Option.bind_some, asI_i64]
    by_cases c1 : σ.marks.length ≤ d
    · rw [dec_t (by omega), cond_t]
      by_cases c2 : e = 0
      · rw [dec_t c2, cond_t]
        refine Ok.some ⟨?_, ?_⟩
        · simp only [closedM]; rw [if_neg (by simp [hst]), if_pos ⟨c1, c2⟩]
        · simp only [closedM]; rw [if_neg (by simp [hst]), if_pos ⟨c1, c2⟩]; exact w
      · rw [dec_f c2, cond_f]
        exact J3 fun hc => c2 hc.2
    · rw [dec_f (by omega), cond_f]
      exact J3 fun hc => c1 hc.1
  · have e1 : (closedM X.st e d σ) = (if e = 0 then 132 else e, σ) := by simp only [closedM]; rw [if_pos hst]
    rw [dec_f hst, Bool.not_false, cond_t, e1]
    refine Ok.le ?_ nest_closed_int_j4_le
    by_cases c2 : e = 0
    · rw [dec_t c2, cond_t, if_pos c2]
      exact Ok.some ⟨rfl, w⟩
    · rw [dec_f c2, cond_f, if_neg c2]
      simp only [txStatus w, Option.bind_some, asI_u8]
      rw [dec_f hst, Bool.not_false, cond_t]
      exact Ok.some ⟨rfl, w⟩
theorem isNilG_some (c : FuncId × List Value × List Value) : isNilG (fnV (some c)) = some false := rfl
theorem fnQ_some (c : FuncId × List Value × List Value) : fnQ (fnV (some c)) = some c := rfl
/-- a scope that can not be opened -/
theorem scopeNo (w : H h (aT t X :: aSet X.s σ :: aMem X.p q cs clk :: F)) (h0 : X.st ≠ 0) (hm : σ.marks.length ≤ 8) (hn : ¬(X.st = 1 ∧ σ.marks.length < 8)) {c : FuncId × List Value × List Value} :
    Ok (C k_nest_Scope_int [ptr t, fnV (some c)] h) fun x h' => x = .int .i64 (if X.st = 1 then 3 else 132) ∧ H h' (aT t X :: aSet X.s σ :: aMem X.p q cs clk :: F) := by
  refine Ok.le ?_ nest_Scope_int_le
  unfold F_nest_Scope_int
  have w5 := (w.push (.cells [ptr t] false false 1)).push (.cells [.int .i64 0] false false 1)
  generalize hh4 : h.push (.cells [ptr t] false false 1) = h4 at w5 ⊢
  generalize hh5 : h4.push (.cells [.int .i64 0] false false 1) = h5 at w5
  simp only [hh5, AH.ldP_of (o := 0) w5.u1.get rfl, Option.bind_some, txStatus w5.u2, asI_u8, isNilG_some, cond_f]
  rw [dec_f h0, cond_f]
  refine Ok.le ?_ nest_Scope_int_j2_le
  simp only [Option.bind_some, AH.ldP_of (o := 0) w5.u1.get rfl, txDepth (w5.u3.u3), asI_i64]
  obtain ⟨h20, s20, w20, n20⟩ := w5.var [.int .i64 0] [.int .i64 (σ.marks.length : Nat)] 1 rfl
  simp only [s20, Option.bind_some, AH.ldP_of (o := 0) w20.u2.get rfl]
  refine Ok.bind (txMark (w20.u5.u5.u5) hm) ?_
  rintro _ h1 ⟨rfl, w1⟩
  have hx : (if X.st = 1 then σ.mark.1 else 132) = (if X.st = 1 then (3 : Int) else 132) ∧ (if X.st = 1 then σ.mark.2 else σ) = σ := by
    by_cases a : X.st = 1
    · have : σ.marks.length = 8 := by omega
      simp only [if_pos a, St.mark, if_pos this]; exact ⟨trivial, trivial⟩
    · simp only [if_neg a]; exact ⟨trivial, trivial⟩
  rw [hx.1]
  rw [hx.2] at w1
  simp only [asI_i64, Option.bind_some]
  rw [dec_f (by split <;> decide), Bool.not_false, cond_t]
  obtain ⟨h26, s26, w26, n26⟩ := (w1.u4).st1 (.int .i64 (if X.st = 1 then 3 else 132))
  simp only [s26, Option.bind_some, AH.ldI_of (k := .i64) (o := 0) w26.get rfl]
  exact Ok.some ⟨rfl, w26.drop.u3.drop.u3.drop⟩
/-- a scope around a body -/
theorem scopeS {B : Asr} {B' : Int → Txc → St → List Cel → Int → Asr} {P : Int → Txc → St → List Cel → Int → Prop} (w : H h (aT t X :: aSet X.s σ :: aMem X.p q cs clk :: B :: F)) (hst : X.st = 1) (hm : σ.marks.length < 8) {fid : FuncId} {caps : List Value} (hbody : hasBody Tryz.prog fid = true)
    (body : ∀ h1 G, H h1 (aT t X :: aSet X.s σ.mark.2 :: aMem X.p q cs clk :: B :: G) → Ok (C fid caps h1) fun x h2 => ∃ e X2 σ2 cs2 clk2 N, x = .int .i64 e ∧ H h2 (aT t X2 :: aSet X.s σ2 :: aMem X.p q cs2 clk2 :: B' e X2 σ2 cs2 clk2 :: G) ∧ X2.s = X.s ∧ X2.p = X.p ∧ Wf σ2 N ∧ N < 900000 ∧ P e X2 σ2 cs2 clk2) :
    Ok (C k_nest_Scope_int [ptr t, fnV (some (fid, [], caps))] h) fun x h' => ∃ e X2 σ2 cs2 clk2, x = .int .i64 (closedM X2.st e σ.marks.length σ2).1 ∧ P e X2 σ2 cs2 clk2 ∧ X2.s = X.s ∧ X2.p = X.p ∧ H h' (aT t X2 :: aSet X.s (closedM X2.st e σ.marks.length σ2).2 :: aMem X.p q cs2 clk2 :: B' e X2 σ2 cs2 clk2 :: F) := by
  refine Ok.le ?_ nest_Scope_int_le
  unfold F_nest_Scope_int
  have w5 := (w.push (.cells [ptr t] false false 1)).push (.cells [.int .i64 0] false false 1)
  generalize hh4 : h.push (.cells [ptr t] false false 1) = h4 at w5 ⊢
  generalize hh5 : h4.push (.cells [.int .i64 0] false false 1) = h5 at w5
  simp only [hh5, AH.ldP_of (o := 0) w5.u1.get rfl, Option.bind_some, txStatus w5.u2, asI_u8, isNilG_some, cond_f]
  rw [dec_f (show ¬X.st = 0 by omega), cond_f]
  refine Ok.le ?_ nest_Scope_int_j2_le
  simp only [Option.bind_some, AH.ldP_of (o := 0) w5.u1.get rfl, txDepth (w5.u3.u3), asI_i64]
  obtain ⟨h20, s20, w20, n20⟩ := w5.var [.int .i64 0] [.int .i64 (σ.marks.length : Nat)] 1 rfl
  simp only [s20, Option.bind_some, AH.ldP_of (o := 0) w20.u2.get rfl]
  refine Ok.bind (txMark (w20.u5.u5.u5) (by omega)) ?_
  rintro _ h1 ⟨rfl, w1⟩
  have em : σ.mark.1 = 0 := by unfold St.mark; rw [if_neg (by omega)]
  rw [if_pos hst] at w1 ⊢
  rw [em]
  simp only [asI_i64, Option.bind_some, decide_true, Bool.not_true, cond_f]
  refine Ok.le ?_ nest_Scope_int_j1_le
  simp only [fnQ_some, Option.bind_some, hbody, cond_t, List.nil_append]
  refine Ok.bind (body h1 _ w1.u6.d3) ?_
  rintro _ h2 ⟨e, X2, σ2, cs2, clk2, N, rfl, w2, es, ep, wf2, hN, hP⟩
  simp only [asI_i64, Option.bind_some]
  obtain ⟨h33, s33, w33, n33⟩ := (w2.u5).st1 (.int .i64 e)
  simp only [s33]
  refine Ok.bind (Q := fun _ h' => ∃ y, h'.ldI .i64 h4.n 0 = some y ∧ y = (closedM X2.st e σ.marks.length σ2).1 ∧ H h' (aT t X2 :: aSet X.s (closedM X2.st e σ.marks.length σ2).2 :: aMem X.p q cs2 clk2 :: B' e X2 σ2 cs2 clk2 :: F)) ?_ ?_
  · refine Ok.le ?_ nest_Scope_int_1_le
    simp only [F_nest_Scope_int_1, Option.bind_some, AH.ldP_of (o := 0) (w33.u6).get rfl, AH.ldI_of (k := .i64) (o := 0) (w33.u5).get rfl, AH.ldI_of (k := .i64) (o := 0) w33.get rfl]
    have w34 := w33.d3
    rw [← es, ← ep] at w34
    refine Ok.bind (closedS w34 wf2 hN σ.marks.length e) ?_
    rintro _ h5' ⟨rfl, w35⟩
    simp only [asI_i64, Option.bind_some]
    obtain ⟨h6, s6, w6, n6⟩ := (w35.u3).st1 (.int .i64 (closedM X2.st e σ.marks.length σ2).1)
    simp only [s6, Option.bind_some]
    rw [es, ep] at w6
    exact Ok.some ⟨_, AH.ldI_of (k := .i64) (o := 0) w6.get rfl, rfl, w6.drop.u4.drop.u4.drop⟩
  · rintro _ h' ⟨y, hy, rfl, w6⟩
    simp only [hy, Option.bind_some]
    exact Ok.some ⟨e, X2, σ2, cs2, clk2, rfl, hP, es, ep, w6⟩
end
end Go.Lg.Tryz
