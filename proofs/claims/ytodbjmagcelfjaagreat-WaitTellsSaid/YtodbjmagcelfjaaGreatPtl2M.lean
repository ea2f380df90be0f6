/- Sets, memories and transactions as parts of memory. -/
import Derived.Test.YtodbjmagcelfjaaGreatFtl2
import Derived.Test.YtodbjmagcelfjaaGreatPsetsJ
import Derived.Test.YtodbjmagcelfjaaGreatPcellOwn
import Derived.Test.YtodbjmagcelfjaaGreatEv38
set_option linter.unusedVariables false
set_option linter.unusedSimpArgs false
namespace Go.Lg.Tryz
set_option linter.unusedVariables false
set_option linter.unusedSimpArgs false
open Go Go.Proofs
theorem _root_.Go.Lg.OwS.live {h : AH} {sz : Nat} {a : Option Addr} {n c : Nat} {cs : List Value} (ho : OwS h sz a n c cs) : ∀ b, blk a b → (h.get b).isSome = true ∧ b < h.n := by
  cases ho with
  | nil => intro b hb; cases hb
  | mk hb hl hr hn => rintro b rfl; exact ⟨by rw [hb]; rfl, hn⟩
theorem _root_.Go.Lg.OwS.same2 {h h' : AH} {sz : Nat} {a : Option Addr} {n c : Nat} {cs : List Value} (ho : OwS h sz a n c cs) (hg : ∀ b, blk a b → h'.get b = h.get b ∧ b < h'.n) : OwS h' sz a n c cs := by
  cases ho with
  | nil => exact .nil
  | mk hb hl hr hn => exact .mk (by rw [(hg _ rfl).1]; exact hb) hl hr (hg _ rfl).2
theorem _root_.Go.Lg.MI.live {h : AH} {r : Nat} {l : List (Int × Int)} (hm : MI h r l) : (h.get r).isSome = true ∧ r < h.n := by
  obtain ⟨es, clk, h1, h2⟩ := hm.ex
  exact ⟨by rw [h1]; rfl, hm.lt⟩
theorem _root_.Go.Lg.MI.same2 {h h' : AH} {r : Nat} {l : List (Int × Int)} (hm : MI h r l) (hg : h'.get r = h.get r ∧ r < h'.n) : MI h' r l := by
  obtain ⟨es, clk, h1, h2⟩ := hm.ex
  exact ⟨⟨es, clk, by rw [hg.1]; exact h1, h2⟩, hm.nk, hg.2⟩
section
variable {h h' : AH} {s : Nat} {A A' : SA} {σ σ' : St} {F : List Asr}
theorem SQ.live (q : SQ h s A σ) : ∀ b, own s A b → (h.get b).isSome = true ∧ b < h.n := by
  rintro b (rfl | rfl | rfl | hb | hb)
  · exact ⟨by rw [q.g]; rfl, q.sn⟩
  · exact q.r.live
  · exact q.w.live
  · exact q.po.live b hb
  · exact q.mo.live b hb
theorem SQ.same2 (q : SQ h s A σ) (hg : ∀ b, own s A b → h'.get b = h.get b ∧ b < h'.n) : SQ h' s A σ :=
  ⟨by rw [(hg s (.inl rfl)).1]; exact q.g, q.r.same2 (hg _ (.inr (.inl rfl))), q.w.same2 (hg _ (.inr (.inr (.inl rfl)))), q.po.same2 fun b hb => hg b (.inr (.inr (.inr (.inl hb)))), q.mo.same2 fun b hb => hg b (.inr (.inr (.inr (.inr hb)))), (hg s (.inl rfl)).2, q.d1, q.d2, q.d3, q.p1, q.p2, q.p3, q.m1, q.m2, q.m3, q.pm⟩
def aSet (s : Nat) (σ : St) : Asr := fun m => ∃ A, Up (fun h => SQ h s A σ) (own s A) m
theorem set_at (hh : H h (aSet s σ :: F)) : ∃ A, SQ h s A σ := by
  obtain ⟨A, hh⟩ := hh.ex
  exact ⟨A, hh.of_up⟩
theorem set_run {x : Res} {P : Value → Prop} (hh : H h (aSet s σ :: F)) (f : ∀ A, SQ h s A σ → Ok x fun v h' => P v ∧ ∃ A', SQ h' s A' σ' ∧ Mv s A A' h h') : Ok x fun v h' => P v ∧ H h' (aSet s σ' :: F) := by
  obtain ⟨A, hh⟩ := hh.ex
  refine Ok.mono (f A hh.of_up) ?_
  rintro v h' ⟨p, A', q', m⟩
  refine ⟨p, ?_⟩
  have := hh.run m.n (fun b hb hn => m.g b hb hn) m.o q'.live fun h'' hg => q'.same2 hg
  exact this.imp fun m hm => ⟨A', hm⟩
theorem fresh_run {x : Res} {n : Nat} {l : List Int} (hh : H h F) (f : Ok x fun v h' => ∃ a c, v = .slice a n c ∧ Fresh h h' a n c l) : Ok x fun v h' => ∃ a c, v = .slice a n c ∧ n = l.length ∧ H h' (aOw 1 a n c (l.flatMap encI) :: F) := by
  refine Ok.mono f ?_
  rintro v h' ⟨a, c, rfl, fr⟩
  refine ⟨a, c, rfl, fr.e, ?_⟩
  exact hh.fresh fr.f.n (fun b hb => fr.f.g b hb (by simp)) fr.b fr.o.live fun h'' hg => fr.o.same2 hg
end
section
variable {h h' : AH} {p q : Nat} {cs cs' : List Cel} {clk clk' : Int} {F : List Asr}
theorem MemR.live (m : MemR h p q cs clk) : ∀ b, (b = p ∨ b = q) → (h.get b).isSome = true ∧ b < h.n := by
  rintro b (rfl | rfl)
  · exact ⟨by rw [m.hp]; rfl, m.pn⟩
  · exact ⟨by rw [m.hq]; rfl, m.qn⟩
theorem MemR.same2 (m : MemR h p q cs clk) (hg : ∀ b, (b = p ∨ b = q) → h'.get b = h.get b ∧ b < h'.n) : MemR h' p q cs clk :=
  ⟨by rw [(hg p (.inl rfl)).1]; exact m.hp, by rw [(hg q (.inr rfl)).1]; exact m.hq, m.ne, (hg p (.inl rfl)).2, (hg q (.inr rfl)).2, m.len, m.c0, m.c1⟩
def aMem (p q : Nat) (cs : List Cel) (clk : Int) : Asr := Up (fun h => MemR h p q cs clk) fun b => b = p ∨ b = q
theorem mem_at (hh : H h (aMem p q cs clk :: F)) : MemR h p q cs clk := hh.of_up
theorem mem_run {x : Res} {P : Value → Prop} {S : List Nat} (hS : ∀ b ∈ S, b = p ∨ b = q) (hh : H h (aMem p q cs clk :: F)) (f : MemR h p q cs clk → Ok x fun v h' => P v ∧ MemR h' p q cs' clk' ∧ Fr S h h') : Ok x fun v h' => P v ∧ H h' (aMem p q cs' clk' :: F) := by
  refine Ok.mono (f hh.of_up) ?_
  rintro v h' ⟨hp, m, fr⟩
  exact ⟨hp, hh.run fr.n (fun b hb hn => fr.g b hb fun hs => hn (hS b hs)) (fun b hb => .inl hb) m.live fun h'' hg => m.same2 hg⟩
end
structure Txc where
  p : Nat
  owner : Int
  beg : Int
  s : Nat
  st : Int
  la : Option Addr
  ln : Nat
  lc : Nat
  told : Bool
  ver : Int
def encX (X : Txc) : List Value := [.pointer (some ⟨X.p, 0, none⟩), .int .i64 X.owner, .int .i64 X.beg, .pointer (some ⟨X.s, 0, none⟩), .int .u8 X.st, .slice X.la X.ln X.lc, .bool X.told, .int .i64 X.ver]
/-- a transaction and its sets -/
abbrev aT (t : Nat) (X : Txc) : Asr := Cs t (encX X) 8
section
variable {h h' : AH} {t : Nat} {X : Txc} {σ σ' : St} {q : Nat} {cs : List Cel} {clk : Int} {F : List Asr}
theorem T0 (w : H h (aT t X :: F)) : h.ldP t (0 + 0) = some (some ⟨X.p, 0, none⟩) := AH.ldP_of w.get rfl
theorem T1 (w : H h (aT t X :: F)) : h.ldI .i64 t (0 + 1) = some X.owner := AH.ldI_of w.get rfl
theorem T2 (w : H h (aT t X :: F)) : h.ldI .i64 t (0 + 2) = some X.beg := AH.ldI_of w.get rfl
theorem T3 (w : H h (aT t X :: F)) : h.ldP t (0 + 3) = some (some ⟨X.s, 0, none⟩) := AH.ldP_of w.get rfl
theorem T4 (w : H h (aT t X :: F)) : h.ldI .u8 t (0 + 4) = some X.st := AH.ldI_of w.get rfl
theorem T6 (w : H h (aT t X :: F)) : h.ldB t (0 + 6) = some X.told := AH.ldB_of w.get rfl
theorem txr (w : H h (aT t X :: F)) : C k_tl2_Tx_int_right [ptr t] h = some (.bool true, h) := by
  refine tl2_Tx_int_right_le _ ?_
  simp only [F_tl2_Tx_int_right, Option.isNone_some, Bool.not_false, cond_t, Option.bind_some, T0 w]
theorem txStatus (w : H h (aT t X :: F)) : C k_tl2_Tx_int_Status [ptr t] h = some (.int .u8 X.st, h) := by
  refine tl2_Tx_int_Status_le _ ?_
  simp only [F_tl2_Tx_int_Status, txr w, Option.bind_some, asB_b, Bool.not_true, cond_f]
  refine tl2_Tx_int_Status_j1_le _ ?_
  simp only [Option.bind_some, T4 w]
def openE (st : Int) (n : Nat) (i : Int) : Int := if st ≠ 1 then 132 else if i < 0 ∨ (n : Int) ≤ i then 2 else 0
theorem txOpen (w : H h (aT t X :: aMem X.p q cs clk :: F)) (i : Int) : C k_tl2_Tx_int_open [ptr t, .int .i64 i] h = some (.int .i64 (openE X.st cs.length i), h) := by
  have hM := mem_at w.u1
  refine tl2_Tx_int_open_le _ ?_
  simp only [F_tl2_Tx_int_open, txr w, Option.bind_some, asB_b, Bool.not_true, cond_f, T4 w, T0 w, openE]
  by_cases a : X.st = 1
  · rw [dec_t a, Bool.not_true, cond_f, if_neg (by simp [a])]
    by_cases b : i < 0
    · rw [dec_t b, cond_t, if_pos (.inl b)]
    · rw [dec_f b, cond_f]
      simp only [size_eq hM, Option.bind_some, asI_i64]
      by_cases c : i < (cs.length : Int)
      · rw [dec_t c, Bool.not_true, cond_f, if_neg (by omega)]
        exact tl2_Tx_int_open_j1_le _ rfl
      · rw [dec_f c, Bool.not_false, cond_t, if_pos (by omega)]
  · rw [dec_f a, Bool.not_false, cond_t, if_pos a]
theorem txReads (w : H h (aT t X :: aSet X.s σ :: F)) (hw : Wk (σ.reads.map Prod.fst)) (hl : σ.reads.length ≤ 1000000) : Ok (C k_tl2_Tx_int_Reads [ptr t] h) fun x h' => ∃ a c, x = .slice a σ.reads.length c ∧ H h' (aOw 1 a σ.reads.length c ((sortI (σ.reads.map Prod.fst)).flatMap encI) :: aT t X :: aSet X.s σ :: F) := by
  refine Ok.le ?_ tl2_Tx_int_Reads_le
  simp only [F_tl2_Tx_int_Reads, txr w, Option.bind_some, asB_b, Bool.not_true, cond_f]
  refine Ok.le ?_ tl2_Tx_int_Reads_j1_le
  obtain ⟨A, q⟩ := set_at w.u1
  simp only [Option.bind_some, T3 w]
  refine Ok.bind (fresh_run w (set_reads q hw hl)) ?_
  rintro _ h2 ⟨a2, c2, rfl, _, w2⟩
  simp only [asS_s, Option.bind_some]
  exact Ok.some ⟨a2, c2, rfl, w2⟩
theorem txBegin {p : Nat} (w : H h (aMem p q cs clk :: F)) {o : Int} (ho : 1 ≤ o) : Ok (C k_tl2_Begin_int [ptr p, .int .i64 o] h) fun x h' => ∃ t s, x = .tuple #[ptr t, .int .i64 0] ∧ H h' (aT t ⟨p, o, clk, s, 1, none, 0, 0, false, 0⟩ :: aSet s {} :: aMem p q cs clk :: F) := by
  have hM := mem_at w
  obtain ⟨h1, e1, s1, n1, f1⟩ := set_new h
  have w1 : H h1 (aSet (h.n + 2) {} :: aMem p q cs clk :: F) := (w.fresh (Φ' := fun h' => SQ h' (h.n + 2) ⟨h.n, h.n + 1, none, 0, 0, none, 0, 0⟩ {}) (S' := own (h.n + 2) ⟨h.n, h.n + 1, none, 0, 0, none, 0, 0⟩) f1.n (fun b hb => f1.g b hb (by simp)) (fun b hb => by
    rcases hb with hb | hb | hb | hb | hb
    · omega
    · simp only at hb; omega
    · simp only at hb; omega
    · exact hb.elim
    · exact hb.elim) s1.live fun h'' hg => s1.same2 hg).imp fun m hm => ⟨_, hm⟩
  refine ⟨_, h1.push (.cells (encX ⟨p, o, clk, h.n + 2, 1, none, 0, 0, false, 0⟩) false false 8), ?_, h1.n, h.n + 2, rfl, w1.push _⟩
  refine tl2_Begin_int_le _ ?_
  have hl := hM.len
  simp only [F_tl2_Begin_int, size_eq hM, Option.bind_some, asI_i64]
  rw [dec_f (by omega), cond_f, dec_f (by omega), cond_f]
  refine tl2_Begin_int_j1_le _ ?_
  simp only [clock_eq hM, Option.bind_some, asI_i64, e1, asP_p]
  rfl
end
end Go.Lg.Tryz

namespace Go.Lg.Tryz
set_option linter.unusedVariables false
set_option linter.unusedSimpArgs false
open Go Go.Proofs
/-- all that an owner has is free -/
def free1 (o : Int) (c : Cel) : Cel := if c.own = o then { c with own := 0 } else c
def freeM (cs : List Cel) (o : Int) : List Cel := cs.map (free1 o)
def uns (cs : List Cel) (o : Int) (l : List Int) : List Cel := l.foldl (fun cs i => (unlockM cs i o).2) cs
theorem unlock_get {cs : List Cel} {i o : Int} (h0 : 0 ≤ i) (h1 : i < cs.length) (ho : 1 ≤ o) (j : Nat) : (unlockM cs i o).2[j]? = if (j : Int) = i then (cs[j]?).map (free1 o) else cs[j]? := by
  obtain ⟨c, hc⟩ : ∃ c, cs[i.toNat]? = some c := ⟨_, List.getElem?_eq_getElem (by omega)⟩
  unfold unlockM
  rw [if_neg (show ¬(i < 0 ∨ (cs.length : Int) ≤ i ∨ o < 1) by omega)]
  simp only [hc]
  by_cases e : (j : Int) = i
  · rw [if_pos e]
    obtain rfl : i.toNat = j := by omega
    rw [hc]
    by_cases e2 : c.own = o
    · simp [e2, free1, List.getElem?_set_self (show i.toNat < cs.length by omega)]
    · simp [e2, free1, hc]
  · rw [if_neg e]
    by_cases e2 : c.own = o
    · simp [e2, List.getElem?_set_ne (show i.toNat ≠ j by omega)]
    · simp [e2]
theorem unlock_len {cs : List Cel} {i o : Int} : (unlockM cs i o).2.length = cs.length := by
  unfold unlockM
  repeat' split
  all_goals simp
theorem free1_idem (o : Int) (c : Cel) : free1 o (free1 o c) = free1 o c := by
  unfold free1
  by_cases e : c.own = o
  · simp only [if_pos e]; split <;> rfl
  · simp only [if_neg e]
theorem uns_get {o : Int} (ho : 1 ≤ o) : ∀ (l : List Int) {cs : List Cel}, (∀ i ∈ l, 0 ≤ i ∧ i < cs.length) → ∀ j : Nat, (uns cs o l)[j]? = if (j : Int) ∈ l then (cs[j]?).map (free1 o) else cs[j]?
  | [], cs, _, j => by simp [uns]
  | i :: l, cs, hl, j => by
    obtain ⟨h0, h1⟩ := hl i (List.mem_cons_self ..)
    have ih := uns_get ho l (cs := (unlockM cs i o).2) (fun k hk => by rw [unlock_len]; exact hl k (List.mem_cons_of_mem _ hk)) j
    show (uns (unlockM cs i o).2 o l)[j]? = _
    rw [ih, unlock_get h0 h1 ho]
    by_cases e : (j : Int) = i
    · rw [if_pos e, if_pos (show (j : Int) ∈ i :: l by rw [e]; exact List.mem_cons_self ..)]
      split
      · rw [Option.map_map]; congr 1; funext c; exact free1_idem o c
      · rfl
    · rw [if_neg e]
      by_cases e2 : (j : Int) ∈ l
      · rw [if_pos e2, if_pos (List.mem_cons_of_mem _ e2)]
      · rw [if_neg e2, if_neg (by rintro h; rcases List.mem_cons.mp h with h | h; exact e h; exact e2 h)]
theorem mem_owned {cs : List Cel} {o : Int} (ho : 1 ≤ o) {i : Int} : i ∈ ownedM cs o ↔ 0 ≤ i ∧ ∃ c, cs[i.toNat]? = some c ∧ c.own = o := by
  unfold ownedM ownUp
  rw [if_neg (by omega)]
  simp only [List.mem_map, List.mem_filter, List.mem_range]
  constructor
  · rintro ⟨k, ⟨hk, hc⟩, rfl⟩
    refine ⟨by omega, ?_⟩
    simp only [Int.toNat_natCast]
    cases hg : cs[k]? with
    | none => rw [hg] at hc; simp at hc
    | some c => rw [hg] at hc; exact ⟨c, rfl, by simpa using hc⟩
  · rintro ⟨h0, c, hc, ho⟩
    refine ⟨i.toNat, ⟨?_, ?_⟩, by omega⟩
    · exact (List.getElem?_eq_some_iff.mp hc).1
    · rw [hc]; simpa using ho
theorem uns_owned {cs : List Cel} {o : Int} (ho : 1 ≤ o) : uns cs o (ownedM cs o) = freeM cs o := by
  apply List.ext_getElem?
  intro j
  rw [uns_get ho _ (fun i hi => by
    obtain ⟨h0, c, hc, _⟩ := (mem_owned ho).mp hi
    have := (List.getElem?_eq_some_iff.mp hc).1
    omega)]
  unfold freeM
  rw [List.getElem?_map]
  split
  · rfl
  · rename_i hn
    cases hc : cs[j]? with
    | none => rfl
    | some c =>
      have : ¬ c.own = o := fun e => hn ((mem_owned ho).mpr ⟨by omega, c, by simpa using hc, e⟩)
      simp [free1, this]
theorem rdI {h : AH} {a : Option Addr} {l : List Int} (hr : Rd h a (l.flatMap encI)) {k : Nat} {x : Int} (hx : l[k]? = some x) : ∃ ad, a = some ad ∧ h.ldI .i64 ad.block (ad.off + k * 1) = some x := by
  have hc : (l.flatMap encI)[k * 1 + 0]? = some (.int .i64 x) := by rw [flat_get_some encI_len (by decide) hx]; rfl
  rcases hr with e | ⟨ad, c, op, ro, e, ha, h1, h2, h3⟩
  · rw [e] at hc; simp at hc
  · have := h3 _ _ hc
    rw [Nat.add_zero] at this
    exact ⟨ad, ha, AH.ldI_of h1 this⟩
/-- a list of numbers that may be read -/
theorem rd_run {x : Res} {F : List Asr} {h : AH} {l : List Int} (hh : H h F) (f : Ok x fun v h' => ∃ a n c, v = .slice a n c ∧ n = l.length ∧ Rd h' a (l.flatMap encI) ∧ Fr [] h h' ∧ (∀ b, blk a b → h.n ≤ b)) : Ok x fun v h' => ∃ a c, v = .slice a l.length c ∧ H h' (aRd a (l.flatMap encI) :: F) := by
  refine Ok.mono f ?_
  rintro v h' ⟨a, n, c, rfl, rfl, hr, fr, hb⟩
  exact ⟨a, c, rfl, hh.fresh fr.n (fun b hb => fr.g b hb (by simp)) (fun b hb' => hb b hb'.2) hr.live fun h'' hg => hr.same2 hg⟩
section
variable {h h' : AH} {t : Nat} {X : Txc} {σ σ' : St} {q : Nat} {cs : List Cel} {clk : Int} {F : List Asr}
theorem T_st {k : Nat} {v : Value} (w : H h (aT t X :: F)) (X' : Txc) (hk : k + 1 ≤ 8) (e : AH.setL (encX X) (0 + k) [v] = encX X') : ∃ h', h.st t (0 + k) [v] = some h' ∧ H h' (aT t X' :: F) ∧ h'.n = h.n := by
  obtain ⟨h', e1, w1, n1⟩ := w.st (o := 0 + k) [v] (by show 0 + k + 1 ≤ 8; omega)
  rw [e] at w1
  exact ⟨h', e1, w1, n1⟩
def failX (X : Txc) : Txc := { X with st := 4, ver := 0, la := none, ln := 0, lc := 0 }
theorem fail_loop (l : List Int) {a : Option Addr} {c : Nat} (hlen : l.length < 1000000) : ∀ (n k : Nat) {h : AH} {cs : List Cel}, l.length - k = n → k ≤ l.length → H h (aRd a (l.flatMap encI) :: aT t X :: aMem X.p q cs clk :: F) →
    Ok (tl2_Tx_int_fail_L1 (some ⟨t, 0, none⟩) a l.length c ((l.length : Nat) : Int) (k : Nat) h) fun x h' => x = .tuple #[] ∧ H h' (aT t (failX X) :: aMem X.p q (uns cs X.owner (l.drop k)) clk :: F) := by
  intro n
  induction n with
  | zero =>
    intro k h cs hn hk w
    refine Ok.le ?_ tl2_Tx_int_fail_L1_le
    refine Ok.le ?_ tl2_Tx_int_fail_j4_le
    rw [dec_f (by omega), cond_f]
    refine Ok.le ?_ tl2_Tx_int_fail_j1_le
    obtain ⟨h1, e1, w1, _⟩ := T_st (k := 4) (v := .int .u8 4) w.drop { X with st := 4 } (by decide) rfl
    obtain ⟨h2, e2, w2, _⟩ := T_st (k := 7) (v := .int .i64 0) w1 { X with st := 4, ver := 0 } (by decide) rfl
    obtain ⟨h3, e3, w3, _⟩ := T_st (k := 5) (v := .slice none 0 0) w2 (failX X) (by decide) rfl
    simp only [Option.bind_some, e1, e2, e3]
    rw [List.drop_of_length_le (by omega)]
    exact Ok.some ⟨rfl, w3⟩
  | succ n ih =>
    intro k h cs hn hk w
    refine Ok.le ?_ tl2_Tx_int_fail_L1_le
    refine Ok.le ?_ tl2_Tx_int_fail_j4_le
    rw [dec_t (by omega), cond_t]
    refine Ok.le ?_ tl2_Tx_int_fail_j3_le
    obtain ⟨x, hx⟩ : ∃ x, l[k]? = some x := ⟨_, List.getElem?_eq_getElem (by omega)⟩
    obtain ⟨ad, ha, g0⟩ := rdI w.rd hx
    have hb : inB ((k : Nat) : Int) l.length = true := inB_t (by omega) (by omega)
    have wT := w.u1
    rw [ha]
    simp only [Option.bind_some, hb, cond_t, Int.toNat_natCast, g0, T0 wT, T1 wT]
    rw [← ha]
    refine Ok.bind (mem_run (S := [q]) (by simp) w.u2 fun m => unlock_ok m x X.owner) ?_
    rintro _ h2 ⟨rfl, w2⟩
    simp only [asI_i64, Option.bind_some]
    refine Ok.le ?_ tl2_Tx_int_fail_j2_le
    rw [show IntKind.wrap .i64 (((k : Nat) : Int) + 1) = ((k + 1 : Nat) : Int) by rw [wrap64 (by omega) (by omega)]; omega]
    have := ih (k + 1) (by omega) (by omega) w2.d2
    have hd : l.drop k = x :: l.drop (k + 1) := by
      obtain ⟨hl, e⟩ := List.getElem?_eq_some_iff.mp hx
      rw [List.drop_eq_getElem_cons hl, e]
    rw [hd]
    exact this
theorem txFail (w : H h (aT t X :: aMem X.p q cs clk :: F)) (ho : 1 ≤ X.owner) (hcs : cs.length ≤ 1024) : Ok (C k_tl2_Tx_int_fail [ptr t] h) fun x h' => x = .tuple #[] ∧ H h' (aT t (failX X) :: aMem X.p q (freeM cs X.owner) clk :: F) := by
  refine Ok.le ?_ tl2_Tx_int_fail_le
  simp only [F_tl2_Tx_int_fail, Option.bind_some, T0 w, T1 w]
  refine Ok.bind (rd_run w (owned_ok (mem_at w.u1) X.owner hcs)) ?_
  rintro _ h2 ⟨a, c, rfl, w2⟩
  simp only [asS_s, Option.bind_some]
  have hle := ownedM_le cs X.owner
  refine Ok.mono (fail_loop (ownedM cs X.owner) (by omega) _ 0 rfl (by omega) w2) ?_
  rintro x h' ⟨rfl, w3⟩
  rw [List.drop_zero, uns_owned ho] at w3
  exact ⟨rfl, w3⟩
theorem txAbort (w : H h (aT t X :: aMem X.p q cs clk :: F)) (ho : 1 ≤ X.owner) (hcs : cs.length ≤ 1024) : Ok (C k_tl2_Tx_int_Abort [ptr t] h) fun x h' => (X.st = 3 ∨ X.st = 4 ∨ X.told = true) ∧ x = .int .i64 132 ∧ H h' (aT t X :: aMem X.p q cs clk :: F) ∨
    ¬(X.st = 3 ∨ X.st = 4 ∨ X.told = true) ∧ x = .int .i64 0 ∧ H h' (aT t (failX X) :: aMem X.p q (freeM cs X.owner) clk :: F) := by
  refine Ok.le ?_ tl2_Tx_int_Abort_le
  simp only [F_tl2_Tx_int_Abort, txr w, Option.bind_some, asB_b, Bool.not_true, cond_f, T4 w, T6 w]
  by_cases c1 : X.st = 3
  · rw [dec_t c1, cond_t]; exact Ok.some (.inl ⟨.inl c1, rfl, w⟩)
  rw [dec_f c1, cond_f]
  by_cases c2 : X.st = 4
  · rw [dec_t c2, cond_t]; exact Ok.some (.inl ⟨.inr (.inl c2), rfl, w⟩)
  rw [dec_f c2, cond_f]
  cases c3 : X.told with
  | true => rw [cond_t]; exact Ok.some (.inl ⟨.inr (.inr rfl), rfl, w⟩)
  | false =>
    rw [cond_f]
    refine Ok.le ?_ tl2_Tx_int_Abort_j1_le
    refine Ok.bind (txFail w ho hcs) ?_
    rintro _ h2 ⟨rfl, w2⟩
    simp only [asTu_t, Option.bind_some, List.isEmpty_nil, cond_t]
    exact Ok.some (.inr ⟨by simp [c1, c2], rfl, w2⟩)
theorem txSeen (w : H h (aT t X :: aSet X.s σ :: F)) (i : Int) : C k_tl2_Tx_int_Seen [ptr t, .int .i64 i] h = some (.tuple #[.int .i64 (aval (alook σ.reads i)), .bool (aok (alook σ.reads i))], h) := by
  obtain ⟨A, q⟩ := set_at w.u1
  refine tl2_Tx_int_Seen_le _ ?_
  simp only [F_tl2_Tx_int_Seen, txr w, Option.bind_some, asB_b, Bool.not_true, cond_f]
  refine tl2_Tx_int_Seen_j1_le _ ?_
  simp only [Option.bind_some, T3 w, set_seen q, asTu_t, hdO_c, asI_i64, asB_b, List.isEmpty_nil, cond_t]
/-- what a read comes to: what it tells, the transaction, its sets, the cells -/
def staleM (X : Txc) (σ : St) (c : Cel) (i : Int) : Bool := c.own ≠ 0 ∨ X.beg < c.ver ∨ (aok (alook σ.reads i) = true ∧ aval (alook σ.reads i) ≠ c.ver)
def readTx (X : Txc) (σ : St) (cs : List Cel) (i : Int) : (Int × Int) × Txc × St × List Cel :=
  if openE X.st cs.length i ≠ 0 then ((0, openE X.st cs.length i), X, σ, cs)
  else if aok (alook σ.writes i) then ((aval (alook σ.writes i), 0), X, σ, cs)
  else if staleM X σ (loadM cs i).1 i then ((0, 131), failX X, σ, freeM cs X.owner)
  else if (σ.read i (loadM cs i).1.ver).1 ≠ 0 then ((0, (σ.read i (loadM cs i).1.ver).1), X, (σ.read i (loadM cs i).1.ver).2, cs)
  else (((loadM cs i).1.v, 0), X, (σ.read i (loadM cs i).1.ver).2, cs)
theorem txRead (w : H h (aT t X :: aSet X.s σ :: aMem X.p q cs clk :: F)) (ho : 1 ≤ X.owner) (hcs : cs.length ≤ 1024) (i : Int) : Ok (C k_tl2_Tx_int_Read [ptr t, .int .i64 i] h) fun x h' => x = .tuple #[.int .i64 (readTx X σ cs i).1.1, .int .i64 (readTx X σ cs i).1.2] ∧
    H h' (aT t (readTx X σ cs i).2.1 :: aSet X.s (readTx X σ cs i).2.2.1 :: aMem X.p q (readTx X σ cs i).2.2.2 clk :: F) := by
  have w2 : H h (aT t X :: aMem X.p q cs clk :: aSet X.s σ :: F) := w.perm (.cons _ (.swap _ _ _))
  refine Ok.le ?_ tl2_Tx_int_Read_le
  simp only [F_tl2_Tx_int_Read, txOpen w2, Option.bind_some, asI_i64]
  unfold readTx
  by_cases c0 : openE X.st cs.length i = 0
  rotate_left
  · rw [dec_f c0, Bool.not_false, cond_t, if_pos c0]
    exact Ok.some ⟨rfl, w⟩
  rw [dec_t c0, Bool.not_true, cond_f, if_neg (by simp [c0])]
  refine Ok.le ?_ tl2_Tx_int_Read_j5_le
  obtain ⟨A, qs⟩ := set_at w.u1
  have hM := mem_at w.u2
  simp only [Option.bind_some, T3 w, set_value qs, asTu_t, hdO_c, asI_i64, asB_b, List.isEmpty_nil, cond_t]
  by_cases c1 : aok (alook σ.writes i) = true
  · rw [if_pos c1, c1, cond_t]
    exact Ok.some ⟨rfl, w⟩
  rw [if_neg c1, Bool.eq_false_iff.mpr c1, cond_f]
  refine Ok.le ?_ tl2_Tx_int_Read_j4_le
  simp only [Option.bind_some, T0 w, T2 w, T3 w, load_eq hM, asTu_t, hdO_c, asI_i64, asB_b, List.isEmpty_nil, cond_t, set_seen qs]
  generalize hcc : (loadM cs i).1 = c
  have stale : staleM X σ c i = true → Ok (tl2_Tx_int_Read_j3 (some ⟨t, 0, none⟩) i c.ver c.v true h) fun x h' => x = .tuple #[.int .i64 (0, (131 : Int)).1, .int .i64 (0, (131 : Int)).2] ∧ H h' (aT t (failX X) :: aSet X.s σ :: aMem X.p q (freeM cs X.owner) clk :: F) := fun hs => by
    refine Ok.le ?_ tl2_Tx_int_Read_j3_le
    rw [cond_t]
    refine Ok.bind (txFail w2 ho hcs) ?_
    rintro _ h2 ⟨rfl, w3⟩
    simp only [asTu_t, Option.bind_some, List.isEmpty_nil, cond_t]
    exact Ok.some ⟨rfl, w3.perm (.cons _ (.swap _ _ _))⟩
  have fine : staleM X σ c i = false → Ok (tl2_Tx_int_Read_j3 (some ⟨t, 0, none⟩) i c.ver c.v false h) fun x h' => x = .tuple #[.int .i64 (if (σ.read i c.ver).1 ≠ 0 then ((0, (σ.read i c.ver).1), X, (σ.read i c.ver).2, cs) else ((c.v, 0), X, (σ.read i c.ver).2, cs) : (Int × Int) × Txc × St × List Cel).1.1, .int .i64 (if (σ.read i c.ver).1 ≠ 0 then ((0, (σ.read i c.ver).1), X, (σ.read i c.ver).2, cs) else ((c.v, 0), X, (σ.read i c.ver).2, cs) : (Int × Int) × Txc × St × List Cel).1.2] ∧
      H h' (aT t (if (σ.read i c.ver).1 ≠ 0 then ((0, (σ.read i c.ver).1), X, (σ.read i c.ver).2, cs) else ((c.v, 0), X, (σ.read i c.ver).2, cs) : (Int × Int) × Txc × St × List Cel).2.1 :: aSet X.s (if (σ.read i c.ver).1 ≠ 0 then ((0, (σ.read i c.ver).1), X, (σ.read i c.ver).2, cs) else ((c.v, 0), X, (σ.read i c.ver).2, cs) : (Int × Int) × Txc × St × List Cel).2.2.1 :: aMem X.p q (if (σ.read i c.ver).1 ≠ 0 then ((0, (σ.read i c.ver).1), X, (σ.read i c.ver).2, cs) else ((c.v, 0), X, (σ.read i c.ver).2, cs) : (Int × Int) × Txc × St × List Cel).2.2.2 clk :: F) := fun hs => by
    refine Ok.le ?_ tl2_Tx_int_Read_j3_le
    rw [cond_f]
    refine Ok.le ?_ tl2_Tx_int_Read_j2_le
    simp only [Option.bind_some, T3 w]
    refine Ok.bind (set_run w.u1 fun A q => Ok.mono (set_rd q i c.ver) fun v h' ⟨a, b, d⟩ => ⟨a, A, b, d⟩) ?_
    rintro _ h2 ⟨rfl, w3⟩
    rw [asI_i64, Option.bind_some]
    by_cases d : (σ.read i c.ver).1 = 0
    · rw [dec_t d, Bool.not_true, cond_f, if_neg (by simp [d])]
      refine Ok.le ?_ tl2_Tx_int_Read_j1_le
      exact Ok.some ⟨rfl, w3.u1⟩
    · rw [dec_f d, Bool.not_false, cond_t, if_pos d]
      exact Ok.some ⟨rfl, w3.u1⟩
  by_cases c2 : c.own = 0
  rotate_left
  · have hs : staleM X σ c i = true := by simp [staleM, c2]
    rw [dec_f c2, Bool.not_false, cond_t, if_pos hs]
    exact stale hs
  rw [dec_t c2, Bool.not_true, cond_f]
  by_cases c3 : X.beg < c.ver
  · have hs : staleM X σ c i = true := by simp [staleM, c3]
    rw [dec_t c3, cond_t, if_pos hs]
    exact stale hs
  rw [dec_f c3, cond_f]
  by_cases c4 : aok (alook σ.reads i) = true
  · rw [c4, cond_t]
    by_cases c5 : aval (alook σ.reads i) = c.ver
    · have hs : staleM X σ c i = false := by simp [staleM, c2, c3, c5]
      rw [dec_t c5, Bool.not_true, if_neg (by simp [hs])]
      exact fine hs
    · have hs : staleM X σ c i = true := by simp [staleM, c4, c5]
      rw [dec_f c5, Bool.not_false, if_pos hs]
      exact stale hs
  · have hs : staleM X σ c i = false := by simp [staleM, c2, c3, c4]
    rw [Bool.eq_false_iff.mpr c4, cond_f, if_neg (by simp [hs])]
    exact fine hs
end
end Go.Lg.Tryz

namespace Go.Lg.Tryz
set_option linter.unusedVariables false
set_option linter.unusedSimpArgs false
open Go Go.Proofs
/-- a step of the end -/
inductive Stp where
  | fin
  | lock (i : Int)
  | adv
  | chk (i : Int)
  | pub (i : Int) (k : Nat)
def aStp (tb wb : Nat) (v : Value) : Stp → Asr
  | .fin => fun m => v = fnV (some (k_tl2_Tx_int_plan_2, [], [ptr tb])) ∧ Lay [] m
  | .lock i => fun m => ∃ fb ib, v = fnV (some (k_tl2_Tx_int_plan_1_1, [], [ptr fb])) ∧ Lay [Cs fb [fnV (some (k_tl2_Tx_int_plan_3, [], [ptr tb, ptr ib]))] 1, Cs ib [.int .i64 i] 1] m
  | .adv => fun m => ∃ fb, v = fnV (some (k_tl2_Tx_int_plan_1_1, [], [ptr fb])) ∧ Lay [Cs fb [fnV (some (k_tl2_Tx_int_plan_4, [], [ptr tb]))] 1] m
  | .chk i => fun m => ∃ fb ib, v = fnV (some (k_tl2_Tx_int_plan_1_1, [], [ptr fb])) ∧ Lay [Cs fb [fnV (some (k_tl2_Tx_int_plan_5, [], [ptr tb, ptr ib]))] 1, Cs ib [.int .i64 i] 1] m
  | .pub i k => fun m => ∃ ib kb, v = fnV (some (k_tl2_Tx_int_plan_6, [], [ptr tb, ptr ib, ptr kb, ptr wb])) ∧ Lay [Cs ib [.int .i64 i] 1, Cs kb [.int .i64 (k : Nat)] 1] m
def aSs (tb wb : Nat) (l : List (Value × Stp)) : Asr := Lay (l.map fun p => aStp tb wb p.1 p.2)
section
variable {h h' : AH} {t : Nat} {X : Txc} {σ σ' : St} {q : Nat} {cs : List Cel} {clk : Int} {F : List Asr} {tb wb : Nat} {wa : Option Addr} {wn wc : Nat}
/-- what a step does -/
def stepEff (X : Txc) (σ : St) (cs : List Cel) (clk : Int) (n : Nat) : Stp → (Bool × Int) × Txc × List Cel × Int
  | .fin => ((true, 0), { X with ver := X.beg }, cs, clk)
  | .lock i => ((false, (lockM cs i X.owner).1), X, (lockM cs i X.owner).2, clk)
  | .adv => ((false, (advM clk).2.1), { X with ver := (advM clk).1 }, cs, (advM clk).2.2)
  | .chk i => ((false, if (loadM cs i).1.own ≠ 0 ∧ (loadM cs i).1.own ≠ X.owner ∨ (loadM cs i).1.ver ≠ aval (alook σ.reads i) then 131 else 0), X, cs, clk)
  | .pub i k => ((decide ((k : Int) = IntKind.wrap .i64 ((n : Int) - 1)), 0), { X with told := true }, (publishM cs clk i X.owner (aval (alook σ.writes i)) X.ver).2, clk)
def mapF (l : List (Value × Stp)) : List Value := l.map Prod.fst
variable {ra : Option Addr} {rn rc : Nat} {W R : List Int}
/-- the steps of an end -/
def planM (W R : List Int) : List Stp := if W = [] then [.fin] else W.map .lock ++ [.adv] ++ R.map .chk ++ ((List.range W.length).map fun j => Stp.pub (W.getD j 0) j)
/-- what is left of the end: closures, in a block that append has made -/
def aLf (la : Option Addr) (ln lc : Nat) (vs : List Value) : Asr := fun m => ∃ b o pre, (la = some ⟨b, o, none⟩ ∧ ln = vs.length ∧ lc = opn ∧ pre.length = o) ∧ Pt b (.cells (pre ++ vs) true false 1) m
/-- what stands of an end -/
abbrev EndP (t tb wb : Nat) (X : Txc) (l : List (Value × Stp)) (wa : Option Addr) (wn wc : Nat) : List Asr :=
  [Cs tb [ptr t] 1, aLf X.la X.ln X.lc (mapF l), aSs tb wb l, Cs wb [.slice wa wn wc] 1]
theorem eff_keep (X : Txc) (σ : St) (cs : List Cel) (clk : Int) (n : Nat) (s : Stp) : (stepEff X σ cs clk n s).2.1.p = X.p ∧ (stepEff X σ cs clk n s).2.1.s = X.s ∧ (stepEff X σ cs clk n s).2.1.owner = X.owner ∧ (stepEff X σ cs clk n s).2.1.st = X.st ∧ (stepEff X σ cs clk n s).2.1.la = X.la ∧ (stepEff X σ cs clk n s).2.1.ln = X.ln ∧ (stepEff X σ cs clk n s).2.1.lc = X.lc ∧ (stepEff X σ cs clk n s).2.2.1.length = cs.length := by
  cases s with
  | lock i =>
    refine ⟨rfl, rfl, rfl, rfl, rfl, rfl, rfl, ?_⟩
    show (lockM cs i X.owner).2.length = _
    unfold lockM
    repeat' split
    all_goals simp
  | pub i k =>
    refine ⟨rfl, rfl, rfl, rfl, rfl, rfl, rfl, ?_⟩
    show (publishM cs clk i X.owner _ X.ver).2.length = _
    unfold publishM
    repeat' split
    all_goals simp
  | fin => exact ⟨rfl, rfl, rfl, rfl, rfl, rfl, rfl, rfl⟩
  | adv => exact ⟨rfl, rfl, rfl, rfl, rfl, rfl, rfl, rfl⟩
  | chk i => exact ⟨rfl, rfl, rfl, rfl, rfl, rfl, rfl, rfl⟩
end
end Go.Lg.Tryz

namespace Go.Lg.Tryz
set_option linter.unusedVariables false
set_option linter.unusedSimpArgs false
open Go Go.Proofs
structure TM where
  owner : Int
  beg : Int
  st : Int
  told : Bool
  ver : Int
  σ : St
  left : List Stp
namespace TM
def X (m : TM) (p s : Nat) (la : Option Addr) (ln lc : Nat) : Txc := ⟨p, m.owner, m.beg, s, m.st, la, ln, lc, m.told, m.ver⟩
def fail (m : TM) : TM := { m with st := 4, ver := 0, left := [] }
def write (m : TM) (n : Nat) (i v : Int) : Int × TM := if openE m.st n i = 0 then ((m.σ.write i v).1, { m with σ := (m.σ.write i v).2 }) else (openE m.st n i, m)
def mark (m : TM) : Int × TM := if m.st = 1 then (m.σ.mark.1, { m with σ := m.σ.mark.2 }) else (132, m)
def keep (m : TM) : Int × TM := if m.st = 1 then (m.σ.keep.1, { m with σ := m.σ.keep.2 }) else (132, m)
def undo (m : TM) : Int × TM := if m.st = 1 then (m.σ.undo.1, { m with σ := m.σ.undo.2 }) else (132, m)
def stale (m : TM) (c : Cel) (i : Int) : Bool := c.own ≠ 0 ∨ m.beg < c.ver ∨ (aok (alook m.σ.reads i) = true ∧ aval (alook m.σ.reads i) ≠ c.ver)
def read (m : TM) (cs : List Cel) (i : Int) : (Int × Int) × TM × List Cel :=
  if openE m.st cs.length i ≠ 0 then ((0, openE m.st cs.length i), m, cs)
  else if aok (alook m.σ.writes i) then ((aval (alook m.σ.writes i), 0), m, cs)
  else if m.stale (loadM cs i).1 i then ((0, 131), m.fail, freeM cs m.owner)
  else if (m.σ.read i (loadM cs i).1.ver).1 ≠ 0 then ((0, (m.σ.read i (loadM cs i).1.ver).1), { m with σ := (m.σ.read i (loadM cs i).1.ver).2 }, cs)
  else (((loadM cs i).1.v, 0), { m with σ := (m.σ.read i (loadM cs i).1.ver).2 }, cs)
def over (m : TM) : Prop := m.st = 3 ∨ m.st = 4 ∨ m.told = true
instance (m : TM) : Decidable m.over := inferInstanceAs (Decidable (_ ∨ _))
def abort (m : TM) (cs : List Cel) : Int × TM × List Cel := if m.over then (132, m, cs) else (0, m.fail, freeM cs m.owner)
def plan (m : TM) : TM := { m with st := 2, left := planM (sortI (m.σ.writes.map Prod.fst)) (sortI (m.σ.reads.map Prod.fst)) }
/-- what a step does -/
def eff (m : TM) (cs : List Cel) (clk : Int) : Stp → (Bool × Int) × TM × List Cel × Int
  | .fin => ((true, 0), { m with ver := m.beg }, cs, clk)
  | .lock i => ((false, (lockM cs i m.owner).1), m, (lockM cs i m.owner).2, clk)
  | .adv => ((false, (advM clk).2.1), { m with ver := (advM clk).1 }, cs, (advM clk).2.2)
  | .chk i => ((false, if (loadM cs i).1.own ≠ 0 ∧ (loadM cs i).1.own ≠ m.owner ∨ (loadM cs i).1.ver ≠ aval (alook m.σ.reads i) then 131 else 0), m, cs, clk)
  | .pub i k => ((decide ((k : Int) = IntKind.wrap .i64 ((m.σ.writes.length : Int) - 1)), 0), { m with told := true }, (publishM cs clk i m.owner (aval (alook m.σ.writes i)) m.ver).2, clk)
/-- one step of those that are left -/
def go (m : TM) (cs : List Cel) (clk : Int) : (Int × Int) × TM × List Cel × Int := match m.left with
  | [] => ((m.st, 132), m, cs, clk)
  | s :: l =>
    let r := m.eff cs clk s
    if r.1.2 ≠ 0 then ((4, r.1.2), r.2.1.fail, freeM r.2.2.1 m.owner, r.2.2.2)
    else if r.1.1 then ((3, 0), { r.2.1 with st := 3, left := l }, r.2.2.1, r.2.2.2)
    else ((m.st, 0), { r.2.1 with left := l }, r.2.2.1, r.2.2.2)
def step (m : TM) (cs : List Cel) (clk : Int) : (Int × Int) × TM × List Cel × Int :=
  if m.st = 1 then m.plan.go cs clk else if m.st = 2 then m.go cs clk else ((m.st, 132), m, cs, clk)
end TM
/-- what stands of an end, or that none has begun -/
def aEnd (t : Nat) (X : Txc) (m : TM) : Asr := fun hp => (m.st = 2 ∧ ∃ tb wb l wa wc, l.map Prod.snd = m.left ∧ Lay (EndP t tb wb X l wa m.σ.writes.length wc) hp) ∨ (m.st ≠ 2 ∧ (m.st = 1 → (X.la = none ∧ X.ln = 0 ∧ X.lc = 0)) ∧ Lay [] hp)
def aTX (p t : Nat) (m : TM) : Asr := fun hp => ∃ s la ln lc, Lay [aT t (m.X p s la ln lc), aSet s m.σ, aEnd t (m.X p s la ln lc) m] hp
section
variable {h h' : AH} {p t : Nat} {m : TM} {q : Nat} {cs : List Cel} {clk : Int} {F : List Asr}
theorem TX_at (w : H h (aTX p t m :: F)) : ∃ s la ln lc, H h (aT t (m.X p s la ln lc) :: aSet s m.σ :: aEnd t (m.X p s la ln lc) m :: F) := by
  obtain ⟨s, w⟩ := w.ex
  obtain ⟨la, w⟩ := w.ex
  obtain ⟨ln, w⟩ := w.ex
  obtain ⟨lc, w⟩ := w.ex
  exact ⟨s, la, ln, lc, w.opn_⟩
theorem TX_mk {s : Nat} {la : Option Addr} {ln lc : Nat} (w : H h (aT t (m.X p s la ln lc) :: aSet s m.σ :: aEnd t (m.X p s la ln lc) m :: F)) : H h (aTX p t m :: F) :=
  (H.cls (L := [aT t (m.X p s la ln lc), aSet s m.σ, aEnd t (m.X p s la ln lc) m]) w).imp fun hp x => ⟨s, la, ln, lc, x⟩
/-- an end of one that is open: nothing -/
theorem end_open {X : Txc} (w : H h (aEnd t X m :: F)) (h1 : m.st ≠ 2) : H h F ∧ (m.st = 1 → (X.la = none ∧ X.ln = 0 ∧ X.lc = 0)) := by
  obtain ⟨hp, h2, a, b, d, rfl, ha, hb⟩ := w
  rcases ha with ⟨e, _⟩ | ⟨_, e, _⟩
  · exact absurd e h1
  · exact ⟨⟨b, h2.right d, hb⟩, e⟩
theorem end_none {X : Txc} (w : H h F) (h1 : m.st ≠ 2) (h2 : m.st = 1 → (X.la = none ∧ X.ln = 0 ∧ X.lc = 0)) : H h (aEnd t X m :: F) :=
  (H.cls (L := []) w).imp fun hp x => .inr ⟨h1, h2, x⟩
theorem MStatus (w : H h (aTX p t m :: F)) : C k_tl2_Tx_int_Status [ptr t] h = some (.int .u8 m.st, h) := by
  obtain ⟨s, la, ln, lc, w⟩ := TX_at w
  exact txStatus w
theorem MSeen (w : H h (aTX p t m :: F)) (i : Int) : C k_tl2_Tx_int_Seen [ptr t, .int .i64 i] h = some (.tuple #[.int .i64 (aval (alook m.σ.reads i)), .bool (aok (alook m.σ.reads i))], h) := by
  obtain ⟨s, la, ln, lc, w⟩ := TX_at w
  exact txSeen (X := m.X p s la ln lc) w i
theorem MReads (w : H h (aTX p t m :: F)) (hw : Wk (m.σ.reads.map Prod.fst)) (hl : m.σ.reads.length ≤ 1000000) : Ok (C k_tl2_Tx_int_Reads [ptr t] h) fun x h' => ∃ a c, x = .slice a m.σ.reads.length c ∧ H h' (aOw 1 a m.σ.reads.length c ((sortI (m.σ.reads.map Prod.fst)).flatMap encI) :: aTX p t m :: F) := by
  obtain ⟨s, la, ln, lc, w⟩ := TX_at w
  refine Ok.mono (txReads (X := m.X p s la ln lc) w hw hl) ?_
  rintro x h' ⟨a, c, rfl, w2⟩
  exact ⟨a, c, rfl, (TX_mk (w2.pm [1, 2, 3, 0])).u1⟩
/-- a step that changes the sets of one that is open, at most -/
theorem set_open {m' : TM} {s : Nat} {la : Option Addr} {ln lc : Nat} {E : Asr} (e : m' = { m with σ := m'.σ }) (hno : m.st ≠ 1 → m' = m) (w : H h (aT t (m.X p s la ln lc) :: aSet s m'.σ :: E :: aEnd t (m.X p s la ln lc) m :: F)) : H h (aTX p t m' :: E :: F) := by
  by_cases c : m.st = 1
  · have eX : m'.X p s la ln lc = m.X p s la ln lc := by rw [e]; rfl
    obtain ⟨w2, h1⟩ := end_open (w.mv 3 rfl) (by omega)
    have w3 := end_none (m := m') (X := m'.X p s la ln lc) (t := t) w2 (by rw [e]; show m.st ≠ 2; omega) (fun _ => by rw [eX]; exact h1 c)
    refine TX_mk (s := s) (la := la) (ln := ln) (lc := lc) ?_
    rw [eX] at w3 ⊢
    exact w3.pm [1, 2, 0, 3]
  · have := hno c
    subst this
    exact TX_mk (w.pm [0, 1, 3, 2])
/-- it has failed: whatever stood of an end is let go -/
theorem fail_mk {s : Nat} {la : Option Addr} {ln lc : Nat} {m' : TM} {E D : Asr} (e : m' = TM.fail m') (w : H h (aT t (m'.X p s none 0 0) :: aSet s m'.σ :: E :: D :: F)) : H h (aTX p t m' :: E :: F) := by
  have w2 := (w.mv 3 rfl).drop
  have h4 : m'.st = 4 := by rw [e]; rfl
  have w3 := end_none (m := m') (X := m'.X p s none 0 0) (t := t) w2 (by omega) (fun _ => ⟨rfl, rfl, rfl⟩)
  exact TX_mk (s := s) (la := none) (ln := 0) (lc := 0) (w3.pm [1, 2, 0, 3])
theorem MRead (w : H h (aTX p t m :: aMem p q cs clk :: F)) (ho : 1 ≤ m.owner) (hcs : cs.length ≤ 1024) (i : Int) : Ok (C k_tl2_Tx_int_Read [ptr t, .int .i64 i] h) fun x h' => x = .tuple #[.int .i64 (m.read cs i).1.1, .int .i64 (m.read cs i).1.2] ∧ H h' (aTX p t (m.read cs i).2.1 :: aMem p q (m.read cs i).2.2 clk :: F) := by
  obtain ⟨s, la, ln, lc, w⟩ := TX_at w
  refine Ok.mono (txRead (X := m.X p s la ln lc) (w.pm [0, 1, 3, 2]) ho hcs i) ?_
  rintro x h' ⟨rfl, w2⟩
  have hst : (m.X p s la ln lc).st = m.st := rfl
  have hsl : ∀ c, staleM (m.X p s la ln lc) m.σ c i = m.stale c i := fun c => rfl
  by_cases c0 : openE m.st cs.length i ≠ 0
  · have r : readTx (m.X p s la ln lc) m.σ cs i = ((0, openE m.st cs.length i), m.X p s la ln lc, m.σ, cs) := by unfold readTx; rw [if_pos (by rw [hst]; exact c0)]; rfl
    have r2 : m.read cs i = ((0, openE m.st cs.length i), m, cs) := by unfold TM.read; rw [if_pos c0]
    rw [r] at w2
    rw [r, r2]
    exact ⟨rfl, set_open (s := s) (la := la) (ln := ln) (lc := lc) rfl (fun _ => rfl) w2⟩
  have c0' : ¬openE (m.X p s la ln lc).st cs.length i ≠ 0 := c0
  have h1 : m.st = 1 := by
    unfold openE at c0
    by_cases q : m.st = 1
    · exact q
    · rw [if_pos q] at c0; omega
  by_cases c1 : aok (alook m.σ.writes i) = true
  · have r : readTx (m.X p s la ln lc) m.σ cs i = ((aval (alook m.σ.writes i), 0), m.X p s la ln lc, m.σ, cs) := by unfold readTx; rw [if_neg c0', if_pos c1]
    have r2 : m.read cs i = ((aval (alook m.σ.writes i), 0), m, cs) := by unfold TM.read; rw [if_neg c0, if_pos c1]
    rw [r] at w2
    rw [r, r2]
    exact ⟨rfl, set_open (s := s) (la := la) (ln := ln) (lc := lc) rfl (fun _ => rfl) w2⟩
  by_cases c2 : m.stale (loadM cs i).1 i = true
  · have r : readTx (m.X p s la ln lc) m.σ cs i = ((0, 131), failX (m.X p s la ln lc), m.σ, freeM cs m.owner) := by unfold readTx; rw [if_neg c0', if_neg c1, if_pos (by rw [hsl]; exact c2)]; rfl
    have r2 : m.read cs i = ((0, 131), m.fail, freeM cs m.owner) := by unfold TM.read; rw [if_neg c0, if_neg c1, if_pos c2]
    rw [r] at w2
    rw [r, r2]
    exact ⟨rfl, fail_mk (s := s) (la := none) (ln := 0) (lc := 0) (m' := m.fail) rfl w2⟩
  by_cases c3 : (m.σ.read i (loadM cs i).1.ver).1 ≠ 0
  · have r : readTx (m.X p s la ln lc) m.σ cs i = ((0, (m.σ.read i (loadM cs i).1.ver).1), m.X p s la ln lc, (m.σ.read i (loadM cs i).1.ver).2, cs) := by unfold readTx; rw [if_neg c0', if_neg c1, if_neg (by rw [hsl]; exact c2), if_pos c3]
    have r2 : m.read cs i = ((0, (m.σ.read i (loadM cs i).1.ver).1), { m with σ := (m.σ.read i (loadM cs i).1.ver).2 }, cs) := by unfold TM.read; rw [if_neg c0, if_neg c1, if_neg c2, if_pos c3]
    rw [r] at w2
    rw [r, r2]
    exact ⟨rfl, set_open (s := s) (la := la) (ln := ln) (lc := lc) (m' := { m with σ := (m.σ.read i (loadM cs i).1.ver).2 }) rfl (fun h => absurd h1 h) w2⟩
  · have r : readTx (m.X p s la ln lc) m.σ cs i = (((loadM cs i).1.v, 0), m.X p s la ln lc, (m.σ.read i (loadM cs i).1.ver).2, cs) := by unfold readTx; rw [if_neg c0', if_neg c1, if_neg (by rw [hsl]; exact c2), if_neg c3]
    have r2 : m.read cs i = (((loadM cs i).1.v, 0), { m with σ := (m.σ.read i (loadM cs i).1.ver).2 }, cs) := by unfold TM.read; rw [if_neg c0, if_neg c1, if_neg c2, if_neg c3]
    rw [r] at w2
    rw [r, r2]
    exact ⟨rfl, set_open (s := s) (la := la) (ln := ln) (lc := lc) (m' := { m with σ := (m.σ.read i (loadM cs i).1.ver).2 }) rfl (fun h => absurd h1 h) w2⟩
theorem MAbort (w : H h (aTX p t m :: aMem p q cs clk :: F)) (ho : 1 ≤ m.owner) (hcs : cs.length ≤ 1024) : Ok (C k_tl2_Tx_int_Abort [ptr t] h) fun x h' => x = .int .i64 (m.abort cs).1 ∧ H h' (aTX p t (m.abort cs).2.1 :: aMem p q (m.abort cs).2.2 clk :: F) := by
  obtain ⟨s, la, ln, lc, w⟩ := TX_at w
  refine Ok.mono (txAbort (X := m.X p s la ln lc) (w.pm [0, 3, 1, 2]) ho hcs) ?_
  unfold TM.abort
  rintro x h' (⟨c, rfl, w2⟩ | ⟨c, rfl, w2⟩)
  · have c' : m.over := c
    rw [if_pos c']
    exact ⟨rfl, TX_mk (w2.pm [0, 2, 3, 1])⟩
  · have c' : ¬m.over := c
    rw [if_neg c']
    exact ⟨rfl, fail_mk (la := none) (ln := 0) (lc := 0) (m' := m.fail) rfl (w2.pm [0, 2, 1, 3])⟩
theorem go_eq (m : TM) : m.plan.st = 2 ∧ ∃ s l, m.plan.left = s :: l := by
  refine ⟨rfl, ?_⟩
  unfold TM.plan planM
  simp only
  split
  · exact ⟨_, _, rfl⟩
  · rename_i hn
    cases hq : sortI (m.σ.writes.map Prod.fst) with
    | nil => exact absurd hq hn
    | cons x l => exact ⟨_, _, rfl⟩
/-- a new one -/
def TM.new (o clk : Int) : TM := ⟨o, clk, 1, false, 0, {}, []⟩
theorem MBegin (w : H h (aMem p q cs clk :: F)) {o : Int} (ho : 1 ≤ o) : Ok (C k_tl2_Begin_int [ptr p, .int .i64 o] h) fun x h' => ∃ t, x = .tuple #[ptr t, .int .i64 0] ∧ H h' (aTX p t (TM.new o clk) :: aMem p q cs clk :: F) := by
  refine Ok.mono (txBegin w ho) ?_
  rintro x h' ⟨t, s, rfl, w2⟩
  have w3 := end_none (m := TM.new o clk) (X := (TM.new o clk).X p s none 0 0) (t := t) w2 (by show (1 : Int) ≠ 2; decide) (fun _ => ⟨rfl, rfl, rfl⟩)
  exact ⟨t, rfl, TX_mk (m := TM.new o clk) (s := s) (la := none) (ln := 0) (lc := 0) (w3.pm [1, 2, 0, 3])⟩
end
end Go.Lg.Tryz
