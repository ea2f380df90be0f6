/- Sets, memories and transactions as parts of memory. -/
import Derived.Test.YtdkammcandclhaaFtl2
import Derived.Test.YtdkammcandclhaaPsetsJ
import Derived.Test.YtdkammcandclhaaPcellOwn
import Derived.Test.YtdkammcandclhaaEv38
set_option linter.unusedVariables false
set_option linter.unusedSimpArgs false
namespace Go.Lg.Try
set_option linter.unusedVariables false
set_option linter.unusedSimpArgs false
open Go Go.Proofs
theorem _root_.Go.Lg.OwS.live {h : AH} {sz : Nat} {a : Option Addr} {n c : Nat} {cs : List Value} (ho : OwS h sz a n c cs) : ∀ b, blk a b → (h.get b).isSome = true ∧ b < h.n := by
  cases ho with
  | nil => intro b hb; cases hb
  | mk hb hl hr hn => rintro b rfl; exact ⟨by rw [hb]; rfl, hn⟩
theorem _root_.Go.Lg.OwS.same2 {h h' : AH} {sz : Nat} {a : Option Addr} {n c : Nat} {cs : List Value} (ho : OwS h sz a n c cs) (hg : ∀ b, blk a b → h'.get b = h.get b ∧ b < h'.n) : OwS h' sz a n c cs := by
  cases ho with
  | nil => exact .nil
  | mk hb hl hr hn => exact .mk (by rw [(hg _ rfl).1]; exact hb) hl hr (hg _ rfl).2
theorem _root_.Go.Lg.MI.live {h : AH} {r : Nat} {l : List (Int × Int)} (hm : MI h r l) : (h.get r).isSome = true ∧ r < h.n := by
  obtain ⟨es, clk, h1, h2⟩ := hm.ex
  exact ⟨by rw [h1]; rfl, hm.lt⟩
theorem _root_.Go.Lg.MI.same2 {h h' : AH} {r : Nat} {l : List (Int × Int)} (hm : MI h r l) (hg : h'.get r = h.get r ∧ r < h'.n) : MI h' r l := by
  obtain ⟨es, clk, h1, h2⟩ := hm.ex
  exact ⟨⟨es, clk, by rw [hg.1]; exact h1, h2⟩, hm.nk, hg.2⟩
section
variable {h h' : AH} {s : Nat} {A A' : SA} {σ σ' : St} {F : List Asr}
theorem SQ.live (q : SQ h s A σ) : ∀ b, own s A b → (h.get b).isSome = true ∧ b < h.n := by
  rintro b (rfl | rfl | rfl | hb | hb)
  · exact ⟨by rw [q.g]; rfl, q.sn⟩
  · exact q.r.live
  · exact q.w.live
  · exact q.po.live b hb
  · exact q.mo.live b hb
theorem SQ.same2 (q : SQ h s A σ) (hg : ∀ b, own s A b → h'.get b = h.get b ∧ b < h'.n) : SQ h' s A σ :=
  ⟨by rw [(hg s (.inl rfl)).1]; exact q.g, q.r.same2 (hg _ (.inr (.inl rfl))), q.w.same2 (hg _ (.inr (.inr (.inl rfl)))), q.po.same2 fun b hb => hg b (.inr (.inr (.inr (.inl hb)))), q.mo.same2 fun b hb => hg b (.inr (.inr (.inr (.inr hb)))), (hg s (.inl rfl)).2, q.d1, q.d2, q.d3, q.p1, q.p2, q.p3, q.m1, q.m2, q.m3, q.pm⟩
def aSet (s : Nat) (σ : St) : Asr := fun m => ∃ A, Up (fun h => SQ h s A σ) (own s A) m
theorem set_at (hh : H h (aSet s σ :: F)) : ∃ A, SQ h s A σ := by
  obtain ⟨A, hh⟩ := hh.ex
  exact ⟨A, hh.of_up⟩
theorem set_run {x : Res} {P : Value → Prop} (hh : H h (aSet s σ :: F)) (f : ∀ A, SQ h s A σ → Ok x fun v h' => P v ∧ ∃ A', SQ h' s A' σ' ∧ Mv s A A' h h') : Ok x fun v h' => P v ∧ H h' (aSet s σ' :: F) := by
  obtain ⟨A, hh⟩ := hh.ex
  refine Ok.mono (f A hh.of_up) ?_
  rintro v h' ⟨p, A', q', m⟩
  refine ⟨p, ?_⟩
  have := hh.run m.n (fun b hb hn => m.g b hb hn) m.o q'.live fun h'' hg => q'.same2 hg
  exact this.imp fun m hm => ⟨A', hm⟩
theorem fresh_run {x : Res} {n : Nat} {l : List Int} (hh : H h F) (f : Ok x fun v h' => ∃ a c, v = .slice a n c ∧ Fresh h h' a n c l) : Ok x fun v h' => ∃ a c, v = .slice a n c ∧ n = l.length ∧ H h' (aOw 1 a n c (l.flatMap encI) :: F) := by
  refine Ok.mono f ?_
  rintro v h' ⟨a, c, rfl, fr⟩
  refine ⟨a, c, rfl, fr.e, ?_⟩
  exact hh.fresh fr.f.n (fun b hb => fr.f.g b hb (by simp)) fr.b fr.o.live fun h'' hg => fr.o.same2 hg
end
section
variable {h h' : AH} {p q : Nat} {cs cs' : List Cel} {clk clk' : Int} {F : List Asr}
theorem MemR.live (m : MemR h p q cs clk) : ∀ b, (b = p ∨ b = q) → (h.get b).isSome = true ∧ b < h.n := by
  rintro b (rfl | rfl)
  · exact ⟨by rw [m.hp]; rfl, m.pn⟩
  · exact ⟨by rw [m.hq]; rfl, m.qn⟩
theorem MemR.same2 (m : MemR h p q cs clk) (hg : ∀ b, (b = p ∨ b = q) → h'.get b = h.get b ∧ b < h'.n) : MemR h' p q cs clk :=
  ⟨by rw [(hg p (.inl rfl)).1]; exact m.hp, by rw [(hg q (.inr rfl)).1]; exact m.hq, m.ne, (hg p (.inl rfl)).2, (hg q (.inr rfl)).2, m.len, m.c0, m.c1⟩
def aMem (p q : Nat) (cs : List Cel) (clk : Int) : Asr := Up (fun h => MemR h p q cs clk) fun b => b = p ∨ b = q
theorem mem_at (hh : H h (aMem p q cs clk :: F)) : MemR h p q cs clk := hh.of_up
theorem mem_run {x : Res} {P : Value → Prop} {S : List Nat} (hS : ∀ b ∈ S, b = p ∨ b = q) (hh : H h (aMem p q cs clk :: F)) (f : MemR h p q cs clk → Ok x fun v h' => P v ∧ MemR h' p q cs' clk' ∧ Fr S h h') : Ok x fun v h' => P v ∧ H h' (aMem p q cs' clk' :: F) := by
  refine Ok.mono (f hh.of_up) ?_
  rintro v h' ⟨hp, m, fr⟩
  exact ⟨hp, hh.run fr.n (fun b hb hn => fr.g b hb fun hs => hn (hS b hs)) (fun b hb => .inl hb) m.live fun h'' hg => m.same2 hg⟩
end
structure Txc where
  p : Nat
  owner : Int
  beg : Int
  s : Nat
  st : Int
  la : Option Addr
  ln : Nat
  lc : Nat
  told : Bool
  ver : Int
def encX (X : Txc) : List Value := [.pointer (some ⟨X.p, 0, none⟩), .int .i64 X.owner, .int .i64 X.beg, .pointer (some ⟨X.s, 0, none⟩), .int .u8 X.st, .slice X.la X.ln X.lc, .bool X.told, .int .i64 X.ver]
/-- a transaction and its sets -/
abbrev aT (t : Nat) (X : Txc) : Asr := Cs t (encX X) 8
section
variable {h h' : AH} {t : Nat} {X : Txc} {σ σ' : St} {q : Nat} {cs : List Cel} {clk : Int} {F : List Asr}
theorem T0 (w : H h (aT t X :: F)) : h.ldP t (0 + 0) = some (some ⟨X.p, 0, none⟩) := AH.ldP_of w.get rfl
theorem T1 (w : H h (aT t X :: F)) : h.ldI .i64 t (0 + 1) = some X.owner := AH.ldI_of w.get rfl
theorem T2 (w : H h (aT t X :: F)) : h.ldI .i64 t (0 + 2) = some X.beg := AH.ldI_of w.get rfl
theorem T3 (w : H h (aT t X :: F)) : h.ldP t (0 + 3) = some (some ⟨X.s, 0, none⟩) := AH.ldP_of w.get rfl
theorem T4 (w : H h (aT t X :: F)) : h.ldI .u8 t (0 + 4) = some X.st := AH.ldI_of w.get rfl
theorem T5 (w : H h (aT t X :: F)) : h.ldS t (0 + 5) = some (X.la, X.ln, X.lc) := AH.ldS_of w.get rfl
theorem T6 (w : H h (aT t X :: F)) : h.ldB t (0 + 6) = some X.told := AH.ldB_of w.get rfl
theorem T7 (w : H h (aT t X :: F)) : h.ldI .i64 t (0 + 7) = some X.ver := AH.ldI_of w.get rfl
theorem txr (w : H h (aT t X :: F)) : C k_tl2_Tx_int_right [ptr t] h = some (.bool true, h) := by
  refine tl2_Tx_int_right_le _ ?_
  simp only [F_tl2_Tx_int_right, Option.isNone_some, Bool.not_false, cond_t, Option.bind_some, T0 w]
theorem txStatus (w : H h (aT t X :: F)) : C k_tl2_Tx_int_Status [ptr t] h = some (.int .u8 X.st, h) := by
  refine tl2_Tx_int_Status_le _ ?_
  simp only [F_tl2_Tx_int_Status, txr w, Option.bind_some, asB_b, Bool.not_true, cond_f]
  refine tl2_Tx_int_Status_j1_le _ ?_
  simp only [Option.bind_some, T4 w]
def openE (st : Int) (n : Nat) (i : Int) : Int := if st ≠ 1 then 132 else if i < 0 ∨ (n : Int) ≤ i then 2 else 0
theorem txOpen (w : H h (aT t X :: aMem X.p q cs clk :: F)) (i : Int) : C k_tl2_Tx_int_open [ptr t, .int .i64 i] h = some (.int .i64 (openE X.st cs.length i), h) := by
  have hM := mem_at w.u1
  refine tl2_Tx_int_open_le _ ?_
  simp only [F_tl2_Tx_int_open, txr w, Option.bind_some, asB_b, Bool.not_true, cond_f, T4 w, T0 w, openE]
  by_cases a : X.st = 1
  · rw [dec_t a, Bool.not_true, cond_f, if_neg (by simp [a])]
    by_cases b : i < 0
    · rw [dec_t b, cond_t, if_pos (.inl b)]
    · rw [dec_f b, cond_f]
      simp only [size_eq hM, Option.bind_some, asI_i64]
      by_cases c : i < (cs.length : Int)
      · rw [dec_t c, Bool.not_true, cond_f, if_neg (by omega)]
        exact tl2_Tx_int_open_j1_le _ rfl
      · rw [dec_f c, Bool.not_false, cond_t, if_pos (by omega)]
  · rw [dec_f a, Bool.not_false, cond_t, if_pos a]
def txW (X : Txc) (n : Nat) (σ : St) (i v : Int) : Int × St := if openE X.st n i = 0 then σ.write i v else (openE X.st n i, σ)
theorem txWrite (w : H h (aT t X :: aSet X.s σ :: aMem X.p q cs clk :: F)) (hp : σ.past.length < 1000000) (i v : Int) : Ok (C k_tl2_Tx_int_Write [ptr t, .int .i64 i, .int .i64 v] h) fun x h' => x = .int .i64 (txW X cs.length σ i v).1 ∧ H h' (aT t X :: aSet X.s (txW X cs.length σ i v).2 :: aMem X.p q cs clk :: F) := by
  refine Ok.le ?_ tl2_Tx_int_Write_le
  have w2 : H h (aT t X :: aMem X.p q cs clk :: aSet X.s σ :: F) := w.perm (.cons _ (.swap _ _ _))
  simp only [F_tl2_Tx_int_Write, txOpen w2, Option.bind_some, asI_i64, txW]
  by_cases a : openE X.st cs.length i = 0
  · rw [dec_t a, Bool.not_true, cond_f, if_pos a]
    refine Ok.le ?_ tl2_Tx_int_Write_j1_le
    simp only [Option.bind_some, T3 w]
    refine Ok.bind (set_run w.u1 fun A q => set_write q hp i v) ?_
    rintro _ h2 ⟨rfl, w3⟩
    simp only [asI_i64, Option.bind_some]
    exact Ok.some ⟨rfl, w3.u1⟩
  · rw [dec_f a, Bool.not_false, cond_t, if_neg a]
    exact Ok.some ⟨rfl, w⟩
theorem txBegin {p : Nat} (w : H h (aMem p q cs clk :: F)) {o : Int} (ho : 1 ≤ o) : Ok (C k_tl2_Begin_int [ptr p, .int .i64 o] h) fun x h' => ∃ t s, x = .tuple #[ptr t, .int .i64 0] ∧ H h' (aT t ⟨p, o, clk, s, 1, none, 0, 0, false, 0⟩ :: aSet s {} :: aMem p q cs clk :: F) := by
  have hM := mem_at w
  obtain ⟨h1, e1, s1, n1, f1⟩ := set_new h
  have w1 : H h1 (aSet (h.n + 2) {} :: aMem p q cs clk :: F) := (w.fresh (Φ' := fun h' => SQ h' (h.n + 2) ⟨h.n, h.n + 1, none, 0, 0, none, 0, 0⟩ {}) (S' := own (h.n + 2) ⟨h.n, h.n + 1, none, 0, 0, none, 0, 0⟩) f1.n (fun b hb => f1.g b hb (by simp)) (fun b hb => by
    rcases hb with hb | hb | hb | hb | hb
    · omega
    · simp only at hb; omega
    · simp only at hb; omega
    · exact hb.elim
    · exact hb.elim) s1.live fun h'' hg => s1.same2 hg).imp fun m hm => ⟨_, hm⟩
  refine ⟨_, h1.push (.cells (encX ⟨p, o, clk, h.n + 2, 1, none, 0, 0, false, 0⟩) false false 8), ?_, h1.n, h.n + 2, rfl, w1.push _⟩
  refine tl2_Begin_int_le _ ?_
  have hl := hM.len
  simp only [F_tl2_Begin_int, size_eq hM, Option.bind_some, asI_i64]
  rw [dec_f (by omega), cond_f, dec_f (by omega), cond_f]
  refine tl2_Begin_int_j1_le _ ?_
  simp only [clock_eq hM, Option.bind_some, asI_i64, e1, asP_p]
  rfl
end
end Go.Lg.Try

namespace Go.Lg.Try
set_option linter.unusedVariables false
set_option linter.unusedSimpArgs false
open Go Go.Proofs
/-- all that an owner has is free -/
def free1 (o : Int) (c : Cel) : Cel := if c.own = o then { c with own := 0 } else c
def freeM (cs : List Cel) (o : Int) : List Cel := cs.map (free1 o)
def uns (cs : List Cel) (o : Int) (l : List Int) : List Cel := l.foldl (fun cs i => (unlockM cs i o).2) cs
theorem unlock_get {cs : List Cel} {i o : Int} (h0 : 0 ≤ i) (h1 : i < cs.length) (ho : 1 ≤ o) (j : Nat) : (unlockM cs i o).2[j]? = if (j : Int) = i then (cs[j]?).map (free1 o) else cs[j]? := by
  obtain ⟨c, hc⟩ : ∃ c, cs[i.toNat]? = some c := ⟨_, List.getElem?_eq_getElem (by omega)⟩
  unfold unlockM
  rw [if_neg (show ¬(i < 0 ∨ (cs.length : Int) ≤ i ∨ o < 1) by omega)]
  simp only [hc]
  by_cases e : (j : Int) = i
  · rw [if_pos e]
    obtain rfl : i.toNat = j := by omega
    rw [hc]
    by_cases e2 : c.own = o
    · simp [e2, free1, List.getElem?_set_self (show i.toNat < cs.length by omega)]
    · simp [e2, free1, hc]
  · rw [if_neg e]
    by_cases e2 : c.own = o
    · simp [e2, List.getElem?_set_ne (show i.toNat ≠ j by omega)]
    · simp [e2]
theorem unlock_len {cs : List Cel} {i o : Int} : (unlockM cs i o).2.length = cs.length := by
  unfold unlockM
  repeat' split
  all_goals simp
theorem free1_idem (o : Int) (c : Cel) : free1 o (free1 o c) = free1 o c := by
  unfold free1
  by_cases e : c.own = o
  · simp only [if_pos e]; split <;> rfl
  · simp only [if_neg e]
theorem uns_get {o : Int} (ho : 1 ≤ o) : ∀ (l : List Int) {cs : List Cel}, (∀ i ∈ l, 0 ≤ i ∧ i < cs.length) → ∀ j : Nat, (uns cs o l)[j]? = if (j : Int) ∈ l then (cs[j]?).map (free1 o) else cs[j]?
  | [], cs, _, j => by simp [uns]
  | i :: l, cs, hl, j => by
    obtain ⟨h0, h1⟩ := hl i (List.mem_cons_self ..)
    have ih := uns_get ho l (cs := (unlockM cs i o).2) (fun k hk => by rw [unlock_len]; exact hl k (List.mem_cons_of_mem _ hk)) j
    show (uns (unlockM cs i o).2 o l)[j]? = _
    rw [ih, unlock_get h0 h1 ho]
    by_cases e : (j : Int) = i
    · rw [if_pos e, if_pos (show (j : Int) ∈ i :: l by rw [e]; exact List.mem_cons_self ..)]
      split
      · rw [Option.map_map]; congr 1; funext c; exact free1_idem o c
      · rfl
    · rw [if_neg e]
      by_cases e2 : (j : Int) ∈ l
      · rw [if_pos e2, if_pos (List.mem_cons_of_mem _ e2)]
      · rw [if_neg e2, if_neg (by rintro h; rcases List.mem_cons.mp h with h | h; exact e h; exact e2 h)]
theorem mem_owned {cs : List Cel} {o : Int} (ho : 1 ≤ o) {i : Int} : i ∈ ownedM cs o ↔ 0 ≤ i ∧ ∃ c, cs[i.toNat]? = some c ∧ c.own = o := by
  unfold ownedM ownUp
  rw [if_neg (by omega)]
  simp only [List.mem_map, List.mem_filter, List.mem_range]
  constructor
  · rintro ⟨k, ⟨hk, hc⟩, rfl⟩
    refine ⟨by omega, ?_⟩
    simp only [Int.toNat_natCast]
    cases hg : cs[k]? with
    | none => rw [hg] at hc; simp at hc
    | some c => rw [hg] at hc; exact ⟨c, rfl, by simpa using hc⟩
  · rintro ⟨h0, c, hc, ho⟩
    refine ⟨i.toNat, ⟨?_, ?_⟩, by omega⟩
    · exact (List.getElem?_eq_some_iff.mp hc).1
    · rw [hc]; simpa using ho
theorem uns_owned {cs : List Cel} {o : Int} (ho : 1 ≤ o) : uns cs o (ownedM cs o) = freeM cs o := by
  apply List.ext_getElem?
  intro j
  rw [uns_get ho _ (fun i hi => by
    obtain ⟨h0, c, hc, _⟩ := (mem_owned ho).mp hi
    have := (List.getElem?_eq_some_iff.mp hc).1
    omega)]
  unfold freeM
  rw [List.getElem?_map]
  split
  · rfl
  · rename_i hn
    cases hc : cs[j]? with
    | none => rfl
    | some c =>
      have : ¬ c.own = o := fun e => hn ((mem_owned ho).mpr ⟨by omega, c, by simpa using hc, e⟩)
      simp [free1, this]
theorem free_len (cs : List Cel) (o : Int) : (freeM cs o).length = cs.length := by simp [freeM]
theorem rdI {h : AH} {a : Option Addr} {l : List Int} (hr : Rd h a (l.flatMap encI)) {k : Nat} {x : Int} (hx : l[k]? = some x) : ∃ ad, a = some ad ∧ h.ldI .i64 ad.block (ad.off + k * 1) = some x := by
  have hc : (l.flatMap encI)[k * 1 + 0]? = some (.int .i64 x) := by rw [flat_get_some encI_len (by decide) hx]; rfl
  rcases hr with e | ⟨ad, c, op, ro, e, ha, h1, h2, h3⟩
  · rw [e] at hc; simp at hc
  · have := h3 _ _ hc
    rw [Nat.add_zero] at this
    exact ⟨ad, ha, AH.ldI_of h1 this⟩
/-- a list of numbers that may be read -/
theorem rd_run {x : Res} {F : List Asr} {h : AH} {l : List Int} (hh : H h F) (f : Ok x fun v h' => ∃ a n c, v = .slice a n c ∧ n = l.length ∧ Rd h' a (l.flatMap encI) ∧ Fr [] h h' ∧ (∀ b, blk a b → h.n ≤ b)) : Ok x fun v h' => ∃ a c, v = .slice a l.length c ∧ H h' (aRd a (l.flatMap encI) :: F) := by
  refine Ok.mono f ?_
  rintro v h' ⟨a, n, c, rfl, rfl, hr, fr, hb⟩
  exact ⟨a, c, rfl, hh.fresh fr.n (fun b hb => fr.g b hb (by simp)) (fun b hb' => hb b hb'.2) hr.live fun h'' hg => hr.same2 hg⟩
section
variable {h h' : AH} {t : Nat} {X : Txc} {σ σ' : St} {q : Nat} {cs : List Cel} {clk : Int} {F : List Asr}
theorem T_st {k : Nat} {v : Value} (w : H h (aT t X :: F)) (X' : Txc) (hk : k + 1 ≤ 8) (e : AH.setL (encX X) (0 + k) [v] = encX X') : ∃ h', h.st t (0 + k) [v] = some h' ∧ H h' (aT t X' :: F) ∧ h'.n = h.n := by
  obtain ⟨h', e1, w1, n1⟩ := w.st (o := 0 + k) [v] (by show 0 + k + 1 ≤ 8; omega)
  rw [e] at w1
  exact ⟨h', e1, w1, n1⟩
def failX (X : Txc) : Txc := { X with st := 4, ver := 0, la := none, ln := 0, lc := 0 }
theorem fail_loop (l : List Int) {a : Option Addr} {c : Nat} (hlen : l.length < 1000000) : ∀ (n k : Nat) {h : AH} {cs : List Cel}, l.length - k = n → k ≤ l.length → H h (aRd a (l.flatMap encI) :: aT t X :: aMem X.p q cs clk :: F) →
    Ok (tl2_Tx_int_fail_L1 (some ⟨t, 0, none⟩) a l.length c ((l.length : Nat) : Int) (k : Nat) h) fun x h' => x = .tuple #[] ∧ H h' (aT t (failX X) :: aMem X.p q (uns cs X.owner (l.drop k)) clk :: F) := by
  intro n
  induction n with
  | zero =>
    intro k h cs hn hk w
    refine Ok.le ?_ tl2_Tx_int_fail_L1_le
    refine Ok.le ?_ tl2_Tx_int_fail_j4_le
    rw [dec_f (by omega), cond_f]
    refine Ok.le ?_ tl2_Tx_int_fail_j1_le
    obtain ⟨h1, e1, w1, _⟩ := T_st (k := 4) (v := .int .u8 4) w.drop { X with st := 4 } (by decide) rfl
    obtain ⟨h2, e2, w2, _⟩ := T_st (k := 7) (v := .int .i64 0) w1 { X with st := 4, ver := 0 } (by decide) rfl
    obtain ⟨h3, e3, w3, _⟩ := T_st (k := 5) (v := .slice none 0 0) w2 (failX X) (by decide) rfl
    simp only [Option.bind_some, e1, e2, e3]
    rw [List.drop_of_length_le (by omega)]
    exact Ok.some ⟨rfl, w3⟩
  | succ n ih =>
    intro k h cs hn hk w
    refine Ok.le ?_ tl2_Tx_int_fail_L1_le
    refine Ok.le ?_ tl2_Tx_int_fail_j4_le
    rw [dec_t (by omega), cond_t]
    refine Ok.le ?_ tl2_Tx_int_fail_j3_le
    obtain ⟨x, hx⟩ : ∃ x, l[k]? = some x := ⟨_, List.getElem?_eq_getElem (by omega)⟩
    obtain ⟨ad, ha, g0⟩ := rdI w.rd hx
    have hb : inB ((k : Nat) : Int) l.length = true := inB_t (by omega) (by omega)
    have wT := w.u1
    rw [ha]
    simp only [Option.bind_some, hb, cond_t, Int.toNat_natCast, g0, T0 wT, T1 wT]
    rw [← ha]
    refine Ok.bind (mem_run (S := [q]) (by simp) w.u2 fun m => unlock_ok m x X.owner) ?_
    rintro _ h2 ⟨rfl, w2⟩
    simp only [asI_i64, Option.bind_some]
    refine Ok.le ?_ tl2_Tx_int_fail_j2_le
    rw [show IntKind.wrap .i64 (((k : Nat) : Int) + 1) = ((k + 1 : Nat) : Int) by rw [wrap64 (by omega) (by omega)]; omega]
    have := ih (k + 1) (by omega) (by omega) w2.d2
    have hd : l.drop k = x :: l.drop (k + 1) := by
      obtain ⟨hl, e⟩ := List.getElem?_eq_some_iff.mp hx
      rw [List.drop_eq_getElem_cons hl, e]
    rw [hd]
    exact this
theorem txFail (w : H h (aT t X :: aMem X.p q cs clk :: F)) (ho : 1 ≤ X.owner) (hcs : cs.length ≤ 1024) : Ok (C k_tl2_Tx_int_fail [ptr t] h) fun x h' => x = .tuple #[] ∧ H h' (aT t (failX X) :: aMem X.p q (freeM cs X.owner) clk :: F) := by
  refine Ok.le ?_ tl2_Tx_int_fail_le
  simp only [F_tl2_Tx_int_fail, Option.bind_some, T0 w, T1 w]
  refine Ok.bind (rd_run w (owned_ok (mem_at w.u1) X.owner hcs)) ?_
  rintro _ h2 ⟨a, c, rfl, w2⟩
  simp only [asS_s, Option.bind_some]
  have hle := ownedM_le cs X.owner
  refine Ok.mono (fail_loop (ownedM cs X.owner) (by omega) _ 0 rfl (by omega) w2) ?_
  rintro x h' ⟨rfl, w3⟩
  rw [List.drop_zero, uns_owned ho] at w3
  exact ⟨rfl, w3⟩
theorem txAbort (w : H h (aT t X :: aMem X.p q cs clk :: F)) (ho : 1 ≤ X.owner) (hcs : cs.length ≤ 1024) : Ok (C k_tl2_Tx_int_Abort [ptr t] h) fun x h' => (X.st = 3 ∨ X.st = 4 ∨ X.told = true) ∧ x = .int .i64 132 ∧ H h' (aT t X :: aMem X.p q cs clk :: F) ∨
    ¬(X.st = 3 ∨ X.st = 4 ∨ X.told = true) ∧ x = .int .i64 0 ∧ H h' (aT t (failX X) :: aMem X.p q (freeM cs X.owner) clk :: F) := by
  refine Ok.le ?_ tl2_Tx_int_Abort_le
  simp only [F_tl2_Tx_int_Abort, txr w, Option.bind_some, asB_b, Bool.not_true, cond_f, T4 w, T6 w]
  by_cases c1 : X.st = 3
  · rw [dec_t c1, cond_t]; exact Ok.some (.inl ⟨.inl c1, rfl, w⟩)
  rw [dec_f c1, cond_f]
  by_cases c2 : X.st = 4
  · rw [dec_t c2, cond_t]; exact Ok.some (.inl ⟨.inr (.inl c2), rfl, w⟩)
  rw [dec_f c2, cond_f]
  cases c3 : X.told with
  | true => rw [cond_t]; exact Ok.some (.inl ⟨.inr (.inr rfl), rfl, w⟩)
  | false =>
    rw [cond_f]
    refine Ok.le ?_ tl2_Tx_int_Abort_j1_le
    refine Ok.bind (txFail w ho hcs) ?_
    rintro _ h2 ⟨rfl, w2⟩
    simp only [asTu_t, Option.bind_some, List.isEmpty_nil, cond_t]
    exact Ok.some (.inr ⟨by simp [c1, c2], rfl, w2⟩)
theorem txVersion (w : H h (aT t X :: F)) : C k_tl2_Tx_int_Version [ptr t] h = some (.int .i64 (if X.st = 3 then X.ver else 0), h) := by
  refine tl2_Tx_int_Version_le _ ?_
  simp only [F_tl2_Tx_int_Version, txr w, Option.bind_some, asB_b, Bool.not_true, cond_f, T4 w]
  by_cases c : X.st = 3
  · rw [dec_t c, Bool.not_true, cond_f, if_pos c]
    refine tl2_Tx_int_Version_j1_le _ ?_
    simp only [Option.bind_some, T7 w]
  · rw [dec_f c, Bool.not_false, cond_t, if_neg c]
/-- what a read comes to: what it tells, the transaction, its sets, the cells -/
def staleM (X : Txc) (σ : St) (c : Cel) (i : Int) : Bool := c.own ≠ 0 ∨ X.beg < c.ver ∨ (aok (alook σ.reads i) = true ∧ aval (alook σ.reads i) ≠ c.ver)
def readTx (X : Txc) (σ : St) (cs : List Cel) (i : Int) : (Int × Int) × Txc × St × List Cel :=
  if openE X.st cs.length i ≠ 0 then ((0, openE X.st cs.length i), X, σ, cs)
  else if aok (alook σ.writes i) then ((aval (alook σ.writes i), 0), X, σ, cs)
  else if staleM X σ (loadM cs i).1 i then ((0, 131), failX X, σ, freeM cs X.owner)
  else if (σ.read i (loadM cs i).1.ver).1 ≠ 0 then ((0, (σ.read i (loadM cs i).1.ver).1), X, (σ.read i (loadM cs i).1.ver).2, cs)
  else (((loadM cs i).1.v, 0), X, (σ.read i (loadM cs i).1.ver).2, cs)
theorem txRead (w : H h (aT t X :: aSet X.s σ :: aMem X.p q cs clk :: F)) (ho : 1 ≤ X.owner) (hcs : cs.length ≤ 1024) (i : Int) : Ok (C k_tl2_Tx_int_Read [ptr t, .int .i64 i] h) fun x h' => x = .tuple #[.int .i64 (readTx X σ cs i).1.1, .int .i64 (readTx X σ cs i).1.2] ∧
    H h' (aT t (readTx X σ cs i).2.1 :: aSet X.s (readTx X σ cs i).2.2.1 :: aMem X.p q (readTx X σ cs i).2.2.2 clk :: F) := by
  have w2 : H h (aT t X :: aMem X.p q cs clk :: aSet X.s σ :: F) := w.perm (.cons _ (.swap _ _ _))
  refine Ok.le ?_ tl2_Tx_int_Read_le
  simp only [F_tl2_Tx_int_Read, txOpen w2, Option.bind_some, asI_i64]
  unfold readTx
  by_cases c0 : openE X.st cs.length i = 0
  rotate_left
  · rw [dec_f c0, Bool.not_false, cond_t, if_pos c0]
    exact Ok.some ⟨rfl, w⟩
  rw [dec_t c0, Bool.not_true, cond_f, if_neg (by simp [c0])]
  refine Ok.le ?_ tl2_Tx_int_Read_j5_le
  obtain ⟨A, qs⟩ := set_at w.u1
  have hM := mem_at w.u2
  simp only [Option.bind_some, T3 w, set_value qs, asTu_t, hdO_c, asI_i64, asB_b, List.isEmpty_nil, cond_t]
  by_cases c1 : aok (alook σ.writes i) = true
  · rw [if_pos c1, c1, cond_t]
    exact Ok.some ⟨rfl, w⟩
  rw [if_neg c1, Bool.eq_false_iff.mpr c1, cond_f]
  refine Ok.le ?_ tl2_Tx_int_Read_j4_le
  simp only [Option.bind_some, T0 w, T2 w, T3 w, load_eq hM, asTu_t, hdO_c, asI_i64, asB_b, List.isEmpty_nil, cond_t, set_seen qs]
  generalize hcc : (loadM cs i).1 = c
  have stale : staleM X σ c i = true → Ok (tl2_Tx_int_Read_j3 (some ⟨t, 0, none⟩) i c.ver c.v true h) fun x h' => x = .tuple #[.int .i64 (0, (131 : Int)).1, .int .i64 (0, (131 : Int)).2] ∧ H h' (aT t (failX X) :: aSet X.s σ :: aMem X.p q (freeM cs X.owner) clk :: F) := fun hs => by
    refine Ok.le ?_ tl2_Tx_int_Read_j3_le
    rw [cond_t]
    refine Ok.bind (txFail w2 ho hcs) ?_
    rintro _ h2 ⟨rfl, w3⟩
    simp only [asTu_t, Option.bind_some, List.isEmpty_nil, cond_t]
    exact Ok.some ⟨rfl, w3.perm (.cons _ (.swap _ _ _))⟩
  have fine : staleM X σ c i = false → Ok (tl2_Tx_int_Read_j3 (some ⟨t, 0, none⟩) i c.ver c.v false h) fun x h' => x = .tuple #[.int .i64 (if (σ.read i c.ver).1 ≠ 0 then ((0, (σ.read i c.ver).1), X, (σ.read i c.ver).2, cs) else ((c.v, 0), X, (σ.read i c.ver).2, cs) : (Int × Int) × Txc × St × List Cel).1.1, .int .i64 (if (σ.read i c.ver).1 ≠ 0 then ((0, (σ.read i c.ver).1), X, (σ.read i c.ver).2, cs) else ((c.v, 0), X, (σ.read i c.ver).2, cs) : (Int × Int) × Txc × St × List Cel).1.2] ∧
      H h' (aT t (if (σ.read i c.ver).1 ≠ 0 then ((0, (σ.read i c.ver).1), X, (σ.read i c.ver).2, cs) else ((c.v, 0), X, (σ.read i c.ver).2, cs) : (Int × Int) × Txc × St × List Cel).2.1 :: aSet X.s (if (σ.read i c.ver).1 ≠ 0 then ((0, (σ.read i c.ver).1), X, (σ.read i c.ver).2, cs) else ((c.v, 0), X, (σ.read i c.ver).2, cs) : (Int × Int) × Txc × St × List Cel).2.2.1 :: aMem X.p q (if (σ.read i c.ver).1 ≠ 0 then ((0, (σ.read i c.ver).1), X, (σ.read i c.ver).2, cs) else ((c.v, 0), X, (σ.read i c.ver).2, cs) : (Int × Int) × Txc × St × List Cel).2.2.2 clk :: F) := fun hs => by
    refine Ok.le ?_ tl2_Tx_int_Read_j3_le
    rw [cond_f]
    refine Ok.le ?_ tl2_Tx_int_Read_j2_le
    simp only [Option.bind_some, T3 w]
    refine Ok.bind (set_run w.u1 fun A q => Ok.mono (set_rd q i c.ver) fun v h' ⟨a, b, d⟩ => ⟨a, A, b, d⟩) ?_
    rintro _ h2 ⟨rfl, w3⟩
    rw [asI_i64, Option.bind_some]
    by_cases d : (σ.read i c.ver).1 = 0
    · rw [dec_t d, Bool.not_true, cond_f, if_neg (by simp [d])]
      refine Ok.le ?_ tl2_Tx_int_Read_j1_le
      exact Ok.some ⟨rfl, w3.u1⟩
    · rw [dec_f d, Bool.not_false, cond_t, if_pos d]
      exact Ok.some ⟨rfl, w3.u1⟩
  by_cases c2 : c.own = 0
  rotate_left
  · have hs : staleM X σ c i = true := by simp [staleM, c2]
    rw [dec_f c2, Bool.not_false, cond_t, if_pos hs]
    exact stale hs
  rw [dec_t c2, Bool.not_true, cond_f]
  by_cases c3 : X.beg < c.ver
  · have hs : staleM X σ c i = true := by simp [staleM, c3]
    rw [dec_t c3, cond_t, if_pos hs]
    exact stale hs
  rw [dec_f c3, cond_f]
  by_cases c4 : aok (alook σ.reads i) = true
  · rw [c4, cond_t]
    by_cases c5 : aval (alook σ.reads i) = c.ver
    · have hs : staleM X σ c i = false := by simp [staleM, c2, c3, c5]
      rw [dec_t c5, Bool.not_true, if_neg (by simp [hs])]
      exact fine hs
    · have hs : staleM X σ c i = true := by simp [staleM, c4, c5]
      rw [dec_f c5, Bool.not_false, if_pos hs]
      exact stale hs
  · have hs : staleM X σ c i = false := by simp [staleM, c2, c3, c4]
    rw [Bool.eq_false_iff.mpr c4, cond_f, if_neg (by simp [hs])]
    exact fine hs
end
end Go.Lg.Try

namespace Go.Lg.Try
set_option linter.unusedVariables false
set_option linter.unusedSimpArgs false
open Go Go.Proofs
/-- a step of the end -/
inductive Stp where
  | fin
  | lock (i : Int)
  | adv
  | chk (i : Int)
  | pub (i : Int) (k : Nat)
def aStp (tb wb : Nat) (v : Value) : Stp → Asr
  | .fin => fun m => v = fnV (some (k_tl2_Tx_int_plan_2, [], [ptr tb])) ∧ Lay [] m
  | .lock i => fun m => ∃ fb ib, v = fnV (some (k_tl2_Tx_int_plan_1_1, [], [ptr fb])) ∧ Lay [Cs fb [fnV (some (k_tl2_Tx_int_plan_3, [], [ptr tb, ptr ib]))] 1, Cs ib [.int .i64 i] 1] m
  | .adv => fun m => ∃ fb, v = fnV (some (k_tl2_Tx_int_plan_1_1, [], [ptr fb])) ∧ Lay [Cs fb [fnV (some (k_tl2_Tx_int_plan_4, [], [ptr tb]))] 1] m
  | .chk i => fun m => ∃ fb ib, v = fnV (some (k_tl2_Tx_int_plan_1_1, [], [ptr fb])) ∧ Lay [Cs fb [fnV (some (k_tl2_Tx_int_plan_5, [], [ptr tb, ptr ib]))] 1, Cs ib [.int .i64 i] 1] m
  | .pub i k => fun m => ∃ ib kb, v = fnV (some (k_tl2_Tx_int_plan_6, [], [ptr tb, ptr ib, ptr kb, ptr wb])) ∧ Lay [Cs ib [.int .i64 i] 1, Cs kb [.int .i64 (k : Nat)] 1] m
def aSs (tb wb : Nat) (l : List (Value × Stp)) : Asr := Lay (l.map fun p => aStp tb wb p.1 p.2)
theorem aSs_snoc {h : AH} {tb wb : Nat} {l : List (Value × Stp)} {v : Value} {s : Stp} {F : List Asr} (w : H h (aSs tb wb l :: aStp tb wb v s :: F)) : H h (aSs tb wb (l ++ [(v, s)]) :: F) := by
  have w1 : H h ((l.map fun p => aStp tb wb p.1 p.2) ++ (aStp tb wb v s :: F)) := w.opn_
  have w2 : H h (((l ++ [(v, s)]).map fun p => aStp tb wb p.1 p.2) ++ F) := by simpa using w1
  exact w2.cls
theorem aSs_cons {h : AH} {tb wb : Nat} {l : List (Value × Stp)} {v : Value} {s : Stp} {F : List Asr} : H h (aSs tb wb ((v, s) :: l) :: F) ↔ H h (aStp tb wb v s :: aSs tb wb l :: F) :=
  ⟨fun w => by
    have w1 : H h (aStp tb wb v s :: ((l.map fun p => aStp tb wb p.1 p.2) ++ F)) := w.opn_
    have w2 : H h ((l.map fun p => aStp tb wb p.1 p.2) ++ (aStp tb wb v s :: F)) := w1.perm (List.perm_middle.symm)
    exact w2.cls.u1, fun w => by
    have w1 : H h ((l.map fun p => aStp tb wb p.1 p.2) ++ (aStp tb wb v s :: F)) := w.u1.opn_
    have w2 : H h ((((v, s) :: l).map fun p => aStp tb wb p.1 p.2) ++ F) := w1.perm List.perm_middle
    exact w2.cls⟩
theorem ldG_of {h : AH} {b o e : Nat} {c : List Value} {op ro : Bool} {f : FuncId × List Value × List Value} (hg : h.get b = some (.cells c op ro e)) (hc : c[o]? = some (fnV (some f))) : h.ldG b o = some (some f) := by
  simp only [AH.ldG, AH.ld_of hg, hc, Option.bind_some]
  rfl
theorem fnQ_some' (c : FuncId × List Value × List Value) : fnQ (fnV (some c)) = some c := rfl
section
variable {h h' : AH} {t : Nat} {X : Txc} {σ σ' : St} {q : Nat} {cs : List Cel} {clk : Int} {F : List Asr} {tb wb : Nat} {wa : Option Addr} {wn wc : Nat}
/-- what a step does -/
def stepEff (X : Txc) (σ : St) (cs : List Cel) (clk : Int) (n : Nat) : Stp → (Bool × Int) × Txc × List Cel × Int
  | .fin => ((true, 0), { X with ver := X.beg }, cs, clk)
  | .lock i => ((false, (lockM cs i X.owner).1), X, (lockM cs i X.owner).2, clk)
  | .adv => ((false, (advM clk).2.1), { X with ver := (advM clk).1 }, cs, (advM clk).2.2)
  | .chk i => ((false, if (loadM cs i).1.own ≠ 0 ∧ (loadM cs i).1.own ≠ X.owner ∨ (loadM cs i).1.ver ≠ aval (alook σ.reads i) then 131 else 0), X, cs, clk)
  | .pub i k => ((decide ((k : Int) = IntKind.wrap .i64 ((n : Int) - 1)), 0), { X with told := true }, (publishM cs clk i X.owner (aval (alook σ.writes i)) X.ver).2, clk)
theorem stp_run {v : Value} {s : Stp} (w : H h (aT t X :: aSet X.s σ :: aMem X.p q cs clk :: Cs tb [ptr t] 1 :: Cs wb [.slice wa wn wc] 1 :: aStp tb wb v s :: F)) :
    ∃ f, v = fnV (some f) ∧ hasBody Try.prog f.1 = true ∧ Ok (C f.1 (f.2.1 ++ [] ++ f.2.2) h) fun x h' => x = .tuple #[.bool (stepEff X σ cs clk wn s).1.1, .int .i64 (stepEff X σ cs clk wn s).1.2] ∧
      H h' (aT t (stepEff X σ cs clk wn s).2.1 :: aSet X.s σ :: aMem X.p q (stepEff X σ cs clk wn s).2.2.1 (stepEff X σ cs clk wn s).2.2.2 :: Cs tb [ptr t] 1 :: Cs wb [.slice wa wn wc] 1 :: F) := by
  have k11 : hasBody Try.prog k_tl2_Tx_int_plan_1_1 = true := by kernel_rfl
  have k2 : hasBody Try.prog k_tl2_Tx_int_plan_2 = true := by kernel_rfl
  have k3 : hasBody Try.prog k_tl2_Tx_int_plan_3 = true := by kernel_rfl
  have k4 : hasBody Try.prog k_tl2_Tx_int_plan_4 = true := by kernel_rfl
  have k5 : hasBody Try.prog k_tl2_Tx_int_plan_5 = true := by kernel_rfl
  have k6 : hasBody Try.prog k_tl2_Tx_int_plan_6 = true := by kernel_rfl
  cases s with
  | fin =>
    obtain ⟨rfl, w1⟩ := (w.mv 5 rfl : H h (aStp tb wb v .fin :: _)).pu
    have w2 : H h (aT t X :: aSet X.s σ :: aMem X.p q cs clk :: Cs tb [ptr t] 1 :: Cs wb [.slice wa wn wc] 1 :: F) := w1.opn_
    refine ⟨_, rfl, k2, ?_⟩
    refine Ok.le ?_ tl2_Tx_int_plan_2_le
    obtain ⟨h1, e1, w3, _⟩ := T_st (k := 7) (v := .int .i64 X.beg) w2 { X with ver := X.beg } (by decide) rfl
    simp only [F_tl2_Tx_int_plan_2, Option.bind_some, AH.ldP_of (o := 0) (w2.g 3 rfl) rfl, T2 w2, e1]
    exact Ok.some ⟨rfl, w3⟩
  | lock i =>
    obtain ⟨fb, w1⟩ := (w.mv 5 rfl : H h (aStp tb wb v (.lock i) :: _)).ex
    obtain ⟨ib, w1⟩ := w1.ex
    obtain ⟨rfl, w1⟩ := w1.pu
    have w2 := w1.opn_.pm [2, 3, 4, 5, 6, 0, 1]
    refine ⟨_, rfl, k11, ?_⟩
    refine Ok.le ?_ tl2_Tx_int_plan_1_1_le
    simp only [F_tl2_Tx_int_plan_1_1, Option.bind_some, ldG_of (o := 0) (w2.g 5 rfl) (f := (k_tl2_Tx_int_plan_3, [], [ptr tb, ptr ib])) rfl, fnQ_some', k3, cond_t, List.nil_append]
    refine Ok.bind (Q := fun x h' => x = .int .i64 (lockM cs i X.owner).1 ∧ H h' (aMem X.p q (lockM cs i X.owner).2 clk :: aT t X :: aSet X.s σ :: Cs tb [ptr t] 1 :: Cs wb [.slice wa wn wc] 1 :: Cs fb [fnV (some (k_tl2_Tx_int_plan_3, [], [ptr tb, ptr ib]))] 1 :: Cs ib [.int .i64 i] 1 :: F)) ?_ ?_
    · refine Ok.le ?_ tl2_Tx_int_plan_3_le
      simp only [F_tl2_Tx_int_plan_3, Option.bind_some, AH.ldP_of (o := 0) (w2.g 3 rfl) rfl, T0 w2, T1 w2, AH.ldI_of (k := .i64) (o := 0) (w2.g 6 rfl) rfl]
      refine Ok.bind (mem_run (S := [q]) (by simp) (w2.mv 2 rfl) fun m => lock_ok m i X.owner) ?_
      rintro _ h2 ⟨rfl, w3⟩
      simp only [asI_i64, Option.bind_some]
      exact Ok.some ⟨rfl, w3⟩
    · rintro _ h2 ⟨rfl, w3⟩
      simp only [asI_i64, Option.bind_some]
      exact Ok.some ⟨rfl, (w3.pm [1, 2, 0, 3, 4, 5, 6]).rm 5 rfl |>.rm 5 rfl⟩
  | adv =>
    obtain ⟨fb, w1⟩ := (w.mv 5 rfl : H h (aStp tb wb v .adv :: _)).ex
    obtain ⟨rfl, w1⟩ := w1.pu
    have w2 := w1.opn_.pm [1, 2, 3, 4, 5, 0]
    refine ⟨_, rfl, k11, ?_⟩
    refine Ok.le ?_ tl2_Tx_int_plan_1_1_le
    simp only [F_tl2_Tx_int_plan_1_1, Option.bind_some, ldG_of (o := 0) (w2.g 5 rfl) (f := (k_tl2_Tx_int_plan_4, [], [ptr tb])) rfl, fnQ_some', k4, cond_t, List.nil_append]
    refine Ok.bind (Q := fun x h' => x = .int .i64 (advM clk).2.1 ∧ H h' (aT t { X with ver := (advM clk).1 } :: aSet X.s σ :: aMem X.p q cs (advM clk).2.2 :: Cs tb [ptr t] 1 :: Cs wb [.slice wa wn wc] 1 :: Cs fb [fnV (some (k_tl2_Tx_int_plan_4, [], [ptr tb]))] 1 :: F)) ?_ ?_
    · refine Ok.le ?_ tl2_Tx_int_plan_4_le
      simp only [F_tl2_Tx_int_plan_4, Option.bind_some, AH.ldP_of (o := 0) (w2.g 3 rfl) rfl, T0 w2]
      refine Ok.bind (mem_run (S := [X.p]) (by simp) (w2.mv 2 rfl) fun m => adv_ok m) ?_
      rintro _ h2 ⟨rfl, w3⟩
      have w4 := w3.pm [1, 2, 0, 3, 4, 5]
      obtain ⟨h3, e3, w5, _⟩ := T_st (k := 7) (v := .int .i64 (advM clk).1) w4 { X with ver := (advM clk).1 } (by decide) rfl
      simp only [asTu_t, hdO_c, asI_i64, Option.bind_some, List.isEmpty_nil, cond_t, AH.ldP_of (o := 0) (w4.g 3 rfl) rfl, e3]
      exact Ok.some ⟨rfl, w5⟩
    · rintro _ h2 ⟨rfl, w3⟩
      simp only [asI_i64, Option.bind_some]
      exact Ok.some ⟨rfl, w3.rm 5 rfl⟩
  | chk i =>
    obtain ⟨fb, w1⟩ := (w.mv 5 rfl : H h (aStp tb wb v (.chk i) :: _)).ex
    obtain ⟨ib, w1⟩ := w1.ex
    obtain ⟨rfl, w1⟩ := w1.pu
    have w2 := w1.opn_.pm [2, 3, 4, 5, 6, 0, 1]
    refine ⟨_, rfl, k11, ?_⟩
    refine Ok.le ?_ tl2_Tx_int_plan_1_1_le
    simp only [F_tl2_Tx_int_plan_1_1, Option.bind_some, ldG_of (o := 0) (w2.g 5 rfl) (f := (k_tl2_Tx_int_plan_5, [], [ptr tb, ptr ib])) rfl, fnQ_some', k5, cond_t, List.nil_append]
    have fin := (w2.rm 5 rfl).rm 5 rfl
    have hM := mem_at (w2.mv 2 rfl)
    obtain ⟨A, qs⟩ := set_at (w2.mv 1 rfl)
    refine Ok.bind (Q := fun x h' => x = .int .i64 (stepEff X σ cs clk wn (.chk i)).1.2 ∧ h' = h) ?_ ?_
    · refine Ok.le ?_ tl2_Tx_int_plan_5_le
      simp only [F_tl2_Tx_int_plan_5, Option.bind_some, AH.ldP_of (o := 0) (w2.g 3 rfl) rfl, T0 w2, T1 w2, T3 w2, AH.ldI_of (k := .i64) (o := 0) (w2.g 6 rfl) rfl, load_eq hM, set_seen qs, asTu_t, hdO_c, asI_i64, asB_b, List.isEmpty_nil, cond_t, stepEff]
      by_cases c1 : (loadM cs i).1.own = 0
      · rw [dec_t c1, Bool.not_true, cond_f]
        by_cases c2 : (loadM cs i).1.ver = aval (alook σ.reads i)
        · rw [dec_t c2, Bool.not_true, cond_f, if_neg (by simp [c1, c2])]
          exact Ok.le (Ok.some ⟨rfl, rfl⟩) tl2_Tx_int_plan_5_j1_le
        · rw [dec_f c2, Bool.not_false, cond_t, if_pos (.inr c2)]
          exact Ok.some ⟨rfl, rfl⟩
      · rw [dec_f c1, Bool.not_false, cond_t]
        by_cases c3 : (loadM cs i).1.own = X.owner
        · rw [dec_t c3, Bool.not_true, cond_f]
          by_cases c2 : (loadM cs i).1.ver = aval (alook σ.reads i)
          · rw [dec_t c2, Bool.not_true, cond_f, if_neg (by simp [c3, c2])]
            exact Ok.le (Ok.some ⟨rfl, rfl⟩) tl2_Tx_int_plan_5_j1_le
          · rw [dec_f c2, Bool.not_false, cond_t, if_pos (.inr c2)]
            exact Ok.some ⟨rfl, rfl⟩
        · rw [dec_f c3, Bool.not_false, cond_t, if_pos (.inl ⟨c1, c3⟩)]
          exact Ok.some ⟨rfl, rfl⟩
    · rintro _ _ ⟨rfl, rfl⟩
      simp only [asI_i64, Option.bind_some]
      exact Ok.some ⟨rfl, fin⟩
  | pub i k =>
    obtain ⟨ib, w1⟩ := (w.mv 5 rfl : H h (aStp tb wb v (.pub i k) :: _)).ex
    obtain ⟨kb, w1⟩ := w1.ex
    obtain ⟨rfl, w1⟩ := w1.pu
    have w2 := w1.opn_.pm [2, 3, 4, 5, 6, 0, 1]
    refine ⟨_, rfl, k6, ?_⟩
    refine Ok.le ?_ tl2_Tx_int_plan_6_le
    obtain ⟨A, qs⟩ := set_at (w2.mv 1 rfl)
    obtain ⟨h1, e1, w3, _⟩ := T_st (k := 6) (v := .bool true) w2 { X with told := true } (by decide) rfl
    simp only [F_tl2_Tx_int_plan_6, List.nil_append, Option.bind_some, AH.ldP_of (o := 0) (w2.g 3 rfl) rfl, T3 w2, AH.ldI_of (k := .i64) (o := 0) (w2.g 5 rfl) rfl, set_value qs, asTu_t, hdO_c, asI_i64, asB_b, List.isEmpty_nil, cond_t, e1, AH.ldP_of (o := 0) (w3.g 3 rfl) rfl, T0 w3, T1 w3, T7 w3, AH.ldI_of (k := .i64) (o := 0) (w3.g 5 rfl) rfl]
    refine Ok.bind (mem_run (S := [q]) (by simp) (w3.mv 2 rfl) fun m => publish_ok m i X.owner (aval (alook σ.writes i)) X.ver) ?_
    rintro _ h2 ⟨rfl, w4⟩
    have w5 := w4.pm [1, 2, 0, 3, 4, 5, 6]
    simp only [asI_i64, Option.bind_some, AH.ldI_of (k := .i64) (o := 0) (w5.g 6 rfl) rfl, AH.ldS_of (o := 0) (w5.g 4 rfl) rfl]
    exact Ok.some ⟨rfl, (w5.rm 5 rfl).rm 5 rfl⟩
/-- a step is put behind the others -/
theorem plan1 {vs : List Value} (w : H h (aT t X :: Cs tb [ptr t] 1 :: aOw 1 X.la X.ln X.lc vs :: F)) (hn : X.ln < 1000000) {f : FuncId × List Value × List Value} (hf : (cellOk (fnV (some f)) && [fnV (some f)].all cellOk) = true) :
    Ok (C k_tl2_Tx_int_plan_1 [fnV (some f), ptr tb] h) fun x h' => x = .tuple #[] ∧ ∃ fb la, H h' (aT t { X with la := la, ln := X.ln + 1, lc := opn } :: Cs tb [ptr t] 1 :: aOw 1 la (X.ln + 1) opn (vs ++ [fnV (some (k_tl2_Tx_int_plan_1_1, [], [ptr fb]))]) :: Cs fb [fnV (some f)] 1 :: F) := by
  refine Ok.le ?_ tl2_Tx_int_plan_1_le
  unfold F_tl2_Tx_int_plan_1
  rw [hf, cond_t]
  have w4 := w.push (.cells [fnV (some f)] false false 1)
  generalize hh4 : h.push (.cells [fnV (some f)] false false 1) = h4 at w4 ⊢
  have w11 := w4.push (.cells [fnV (some (k_tl2_Tx_int_plan_1_1, [], [ptr h.n]))] false false 1)
  obtain ⟨a', h17, e17, w17, _⟩ := (w4.mv 3 rfl : H h4 (aOw 1 X.la X.ln X.lc vs :: _)).app (by_ := 8) (xs := [fnV (some (k_tl2_Tx_int_plan_1_1, [], [ptr h.n]))]) (c' := 1) rfl (by decide) (by omega) (by omega)
  generalize hh11 : h4.push (.cells [fnV (some (k_tl2_Tx_int_plan_1_1, [], [ptr h.n]))] false false 1) = h11 at w11 e17
  have hh11' : h4.push (.cells [fnV (some (k_tl2_Tx_int_plan_1_1, [], [.pointer (some ⟨h.n, 0, none⟩)]))] false false 1) = h11 := hh11
  obtain ⟨h22, e22, w22, _⟩ := T_st (k := 5) (v := .slice a' (X.ln + 1) opn) (w17.mv 2 rfl) { X with la := a', ln := X.ln + 1, lc := opn } (by decide) rfl
  simp only [hh11', Option.bind_some, AH.ldP_of (o := 0) (w4.g 2 rfl) rfl, T5 (w4.mv 1 rfl), AH.ldP_of (o := 0) (w11.g 3 rfl) rfl, T5 (w11.mv 2 rfl), veqO_slice, veqO_ptr, cond_t, e17, asS_s, AH.ldP_of (o := 0) (w17.g 3 rfl) rfl, e22]
  exact Ok.some ⟨rfl, h.n, a', w22.pm [0, 3, 1, 2]⟩
def mapF (l : List (Value × Stp)) : List Value := l.map Prod.fst
abbrev PLs (t tb wb : Nat) (X : Txc) (l : List (Value × Stp)) (wa ra : Option Addr) (wn wc rn rc : Nat) (W R : List Int) : List Asr :=
  [aT t X, Cs tb [ptr t] 1, aOw 1 X.la X.ln X.lc (mapF l), aSs tb wb l, Cs wb [.slice wa wn wc] 1, aOw 1 wa wn wc (W.flatMap encI), aOw 1 ra rn rc (R.flatMap encI)]
variable {ra : Option Addr} {rn rc : Nat} {W R : List Int}
theorem mapF_snoc (l : List (Value × Stp)) (v : Value) (s : Stp) : mapF (l ++ [(v, s)]) = mapF l ++ [v] := by simp [mapF]
/-- a wrapped step is put behind the others -/
theorem planW {l : List (Value × Stp)} {f : FuncId × List Value × List Value} {s : Stp} {E : List Asr} (hE : ∀ fb m, Lay (Cs fb [fnV (some f)] 1 :: E) m → aStp tb wb (fnV (some (k_tl2_Tx_int_plan_1_1, [], [ptr fb]))) s m)
    (w : H h (PLs t tb wb X l wa ra wn wc rn rc W R ++ (Lay E :: F))) (hn : X.ln < 1000000) (hf : (cellOk (fnV (some f)) && [fnV (some f)].all cellOk) = true) :
    Ok (C k_tl2_Tx_int_plan_1 [fnV (some f), ptr tb] h) fun x h' => x = .tuple #[] ∧ ∃ v la, H h' (PLs t tb wb { X with la := la, ln := X.ln + 1, lc := opn } (l ++ [(v, s)]) wa ra wn wc rn rc W R ++ F) := by
  refine Ok.mono (plan1 w hn hf) ?_
  rintro x h' ⟨rfl, fb, la, w1⟩
  refine ⟨rfl, fnV (some (k_tl2_Tx_int_plan_1_1, [], [ptr fb])), la, ?_⟩
  have w2 := w1.pm [3, 8, 0, 1, 2, 4, 5, 6, 7]
  have w3 : H h' (Lay (Cs fb [fnV (some f)] 1 :: E) :: _) := (w2.u1.opn_.perm (List.perm_middle (l₁ := E)) : H h' (Cs fb [fnV (some f)] 1 :: (E ++ _))).cls (L := Cs fb [fnV (some f)] 1 :: E)
  have w4 := w3.imp (hE fb)
  have w5 := aSs_snoc (w4.u4)
  have w6 := w5.pm [1, 2, 3, 0, 4, 5, 6]
  have e := mapF_snoc l (fnV (some (k_tl2_Tx_int_plan_1_1, [], [ptr fb]))) s
  simp only [PLs]
  rw [e]
  exact w6
theorem lockE (fb ib : Nat) (i : Int) (m : Hp) (h : Lay (Cs fb [fnV (some (k_tl2_Tx_int_plan_3, [], [ptr tb, ptr ib]))] 1 :: [Cs ib [.int .i64 i] 1]) m) : aStp tb wb (fnV (some (k_tl2_Tx_int_plan_1_1, [], [ptr fb]))) (.lock i) m := ⟨fb, ib, rfl, h⟩
theorem chkE (fb ib : Nat) (i : Int) (m : Hp) (h : Lay (Cs fb [fnV (some (k_tl2_Tx_int_plan_5, [], [ptr tb, ptr ib]))] 1 :: [Cs ib [.int .i64 i] 1]) m) : aStp tb wb (fnV (some (k_tl2_Tx_int_plan_1_1, [], [ptr fb]))) (.chk i) m := ⟨fb, ib, rfl, h⟩
theorem advE (fb : Nat) (m : Hp) (h : Lay (Cs fb [fnV (some (k_tl2_Tx_int_plan_4, [], [ptr tb]))] 1 :: []) m) : aStp tb wb (fnV (some (k_tl2_Tx_int_plan_1_1, [], [ptr fb]))) .adv m := ⟨fb, rfl, h⟩
abbrev stepV (tb : Nat) : Option (FuncId × List Value × List Value) := some (k_tl2_Tx_int_plan_1, [], [ptr tb])
/-- the publishing steps -/
theorem plan_pubs {Q : Value → AH → Prop} (hW : wn = W.length) (hWl : W.length ≤ 300) : ∀ (n k : Nat) {h : AH} {X : Txc} {l : List (Value × Stp)}, W.length - k = n → k ≤ W.length → X.ln = l.length → X.ln + n < 10000 →
    H h (PLs t tb wb X l wa ra wn wc rn rc W R ++ F) →
    (∀ h' la l', l'.map Prod.snd = l.map Prod.snd ++ ((List.range n).map fun j => Stp.pub (W.getD (k + j) 0) (k + j)) → H h' (PLs t tb wb { X with la := la, ln := l'.length, lc := if n = 0 then X.lc else opn } l' wa ra wn wc rn rc W R ++ F) → Q (.tuple #[]) h') →
    Ok (tl2_Tx_int_plan_L1 (some ⟨tb, 0, none⟩) (some ⟨wb, 0, none⟩) wa wn wc ((wn : Nat) : Int) (k : Nat) h) Q := by
  subst hW
  intro n
  induction n with
  | zero =>
    intro k h X l hn hk hl hb w K
    refine Ok.le ?_ tl2_Tx_int_plan_L1_le
    refine Ok.le ?_ tl2_Tx_int_plan_j3_le
    rw [dec_f (by omega), cond_f]
    refine Ok.some (K h X.la l (by simp) ?_)
    rw [if_pos rfl, ← hl]; exact w
  | succ n ih =>
    intro k h X l hn hk hl hb w K
    refine Ok.le ?_ tl2_Tx_int_plan_L1_le
    refine Ok.le ?_ tl2_Tx_int_plan_j3_le
    rw [dec_t (by omega), cond_t]
    refine Ok.le ?_ tl2_Tx_int_plan_j2_le
    obtain ⟨x, hx⟩ : ∃ x, W[k]? = some x := ⟨_, List.getElem?_eq_getElem (by omega)⟩
    obtain ⟨ad, ha, g0⟩ := rdI ((w.mv 5 rfl : H h (aOw 1 wa W.length wc _ :: _)).ow.rd) hx
    have hb1 : inB ((k : Nat) : Int) W.length = true := inB_t (by omega) (by omega)
    have w86 := (w.push (.cells [.int .i64 0] false false 1)).push (.cells [.int .i64 0] false false 1)
    generalize hh85 : h.push (.cells [.int .i64 0] false false 1) = h85 at w86
    generalize hh86 : h85.push (.cells [.int .i64 0] false false 1) = h86 at w86
    obtain ⟨h87, e87, w87, _⟩ := (w86.u1).st1 (.int .i64 (k : Nat))
    obtain ⟨h88, e88, w88, _⟩ := (w87.u1).st1 (.int .i64 x)
    have w95 := w88.push (.cells [fnV (some (k_tl2_Tx_int_plan_6, [], [ptr tb, ptr h85.n, ptr h.n, ptr wb]))] false false 1)
    obtain ⟨a', h101, e101, w101, _⟩ := (w88.mv 4 rfl : H h88 (aOw 1 X.la X.ln X.lc (mapF l) :: _)).app (by_ := 8) (xs := [fnV (some (k_tl2_Tx_int_plan_6, [], [ptr tb, ptr h85.n, ptr h.n, ptr wb]))]) (c' := 1) rfl (by decide) (by omega) (by omega)
    generalize hh95 : h88.push (.cells [fnV (some (k_tl2_Tx_int_plan_6, [], [ptr tb, ptr h85.n, ptr h.n, ptr wb]))] false false 1) = h95 at w95 e101
    have hh95' : h88.push (.cells [fnV (some (k_tl2_Tx_int_plan_6, [], [.pointer (some ⟨tb, 0, none⟩), .pointer (some ⟨h85.n, 0, none⟩), .pointer (some ⟨h.n, 0, none⟩), .pointer (some ⟨wb, 0, none⟩)]))] false false 1) = h95 := hh95
    obtain ⟨h106, e106, w106, _⟩ := T_st (k := 5) (v := .slice a' (X.ln + 1) opn) (w101.mv 3 rfl) { X with la := a', ln := X.ln + 1, lc := opn } (by decide) rfl
    rw [ha]
    simp only [Option.bind_some, hb1, cond_t, Int.toNat_natCast, g0, hh85, hh86, e87, e88, AH.ldP_of (o := 0) (w88.g 3 rfl) rfl, T5 (w88.mv 2 rfl), hh95', AH.ldP_of (o := 0) (w95.g 4 rfl) rfl, T5 (w95.mv 3 rfl), veqO_slice, veqO_ptr, e101, asS_s, AH.ldP_of (o := 0) (w101.g 4 rfl) rfl, e106]
    rw [← ha]
    refine Ok.le ?_ tl2_Tx_int_plan_j1_le
    rw [show IntKind.wrap .i64 (((k : Nat) : Int) + 1) = ((k + 1 : Nat) : Int) by rw [wrap64 (by omega) (by omega)]; omega]
    have w7 := H.cls (L := [Cs h85.n [.int .i64 x] 1, Cs h.n [.int .i64 (k : Nat)] 1]) (w106.pm [2, 3, 0, 4, 1, 5, 6, 7, 8])
    have w8 := w7.imp (B := aStp tb wb (fnV (some (k_tl2_Tx_int_plan_6, [], [ptr tb, ptr h85.n, ptr h.n, ptr wb]))) (.pub x k)) fun m hm => ⟨h85.n, h.n, rfl, hm⟩
    have w9 := (aSs_snoc w8.u4).pm [1, 2, 3, 0, 4, 5, 6]
    have em := mapF_snoc l (fnV (some (k_tl2_Tx_int_plan_6, [], [ptr tb, ptr h85.n, ptr h.n, ptr wb]))) (.pub x k)
    refine ih (k + 1) (X := { X with la := a', ln := X.ln + 1, lc := opn }) (l := l ++ [(_, .pub x k)]) (by omega) (by omega) (by simp [hl]) (by show X.ln + 1 + n < 10000; omega) (by simp only [PLs]; rw [em]; exact w9) ?_
    intro h' la l' hl' w'
    refine K h' la l' ?_ ?_
    · rw [hl', List.map_append, List.range_succ_eq_map, List.append_assoc]
      congr 1
      have : W.getD k 0 = x := by rw [List.getD_eq_getElem?_getD, hx]; rfl
      simp only [List.map_cons, List.map_nil, List.map_map, Nat.add_zero, this, List.singleton_append, List.cons.injEq, true_and]
      refine List.map_congr_left fun j _ => ?_
      simp only [Function.comp_apply, Nat.succ_eq_add_one, show k + 1 + j = k + (j + 1) by omega]
    · rw [if_neg (by omega)]
      have : (if n = 0 then opn else opn) = opn := by split <;> rfl
      simp only [this] at w'
      exact w'
/-- the checking steps -/
theorem plan_chks {Q : Value → AH → Prop} (hR : rn = R.length) (hRl : R.length ≤ 300) : ∀ (n k : Nat) {h : AH} {X : Txc} {l : List (Value × Stp)}, R.length - k = n → k ≤ R.length → X.ln = l.length → X.ln + n < 9000 → X.lc = opn →
    H h (PLs t tb wb X l wa ra wn wc rn rc W R ++ F) →
    (∀ h' la l', l'.map Prod.snd = l.map Prod.snd ++ ((R.drop k).map Stp.chk) → H h' (PLs t tb wb { X with la := la, ln := l'.length } l' wa ra wn wc rn rc W R ++ F) → Ok (tl2_Tx_int_plan_j4 (some ⟨wb, 0, none⟩) h' (some ⟨tb, 0, none⟩)) Q) →
    Ok (tl2_Tx_int_plan_L2 ra rn (stepV tb) (some ⟨tb, 0, none⟩) rc (some ⟨wb, 0, none⟩) ((rn : Nat) : Int) (k : Nat) h) Q := by
  subst hR
  intro n
  induction n with
  | zero =>
    intro k h X l hn hk hl hb hc w K
    refine Ok.le ?_ tl2_Tx_int_plan_L2_le
    refine Ok.le ?_ tl2_Tx_int_plan_j7_le
    rw [dec_f (by omega), cond_f]
    refine K h X.la l (by rw [List.drop_of_length_le (by omega)]; simp) ?_
    rw [← hl]; exact w
  | succ n ih =>
    intro k h X l hn hk hl hb hc w K
    refine Ok.le ?_ tl2_Tx_int_plan_L2_le
    refine Ok.le ?_ tl2_Tx_int_plan_j7_le
    rw [dec_t (by omega), cond_t]
    refine Ok.le ?_ tl2_Tx_int_plan_j6_le
    have k1 : hasBody Try.prog k_tl2_Tx_int_plan_1 = true := by kernel_rfl
    obtain ⟨x, hx⟩ : ∃ x, R[k]? = some x := ⟨_, List.getElem?_eq_getElem (by omega)⟩
    obtain ⟨ad, ha, g0⟩ := rdI ((w.mv 6 rfl : H h (aOw 1 ra R.length rc _ :: _)).ow.rd) hx
    have hb1 : inB ((k : Nat) : Int) R.length = true := inB_t (by omega) (by omega)
    obtain ⟨h69, e69, w69, _⟩ := w.var [.int .i64 0] [.int .i64 x] 1 rfl
    rw [ha]
    simp only [Option.bind_some, hb1, cond_t, Int.toNat_natCast, g0, e69, fnQ_some', k1, List.nil_append]
    rw [← ha]
    have w70 : H h69 (PLs t tb wb X l wa ra wn wc R.length rc W R ++ (Lay [Cs h.n [.int .i64 x] 1] :: F)) := (H.cls (L := [Cs h.n [.int .i64 x] 1]) w69).d7
    refine Ok.bind (planW (E := [Cs h.n [.int .i64 x] 1]) (s := .chk x) (fun fb m hm => chkE fb h.n x m hm) w70 (by omega) rfl) ?_
    rintro _ h2 ⟨rfl, v, la, w2⟩
    simp only [asTu_t, Option.bind_some, List.isEmpty_nil, cond_t]
    refine Ok.le ?_ tl2_Tx_int_plan_j5_le
    rw [show IntKind.wrap .i64 (((k : Nat) : Int) + 1) = ((k + 1 : Nat) : Int) by rw [wrap64 (by omega) (by omega)]; omega]
    refine ih (k + 1) (X := { X with la := la, ln := X.ln + 1, lc := opn }) (l := l ++ [(v, .chk x)]) (by omega) (by omega) (by simp [hl]) (by show X.ln + 1 + n < 9000; omega) rfl w2 ?_
    intro h' la' l' hl' w'
    refine K h' la' l' ?_ (by rw [← hc] at w'; exact w')
    obtain ⟨hlt, e⟩ := List.getElem?_eq_some_iff.mp hx
    rw [hl', List.map_append, List.append_assoc, List.drop_eq_getElem_cons hlt, e]
    simp only [List.map_cons, List.map_nil, List.singleton_append]
/-- the locking steps -/
theorem plan_locks {Q : Value → AH → Prop} (hW : wn = W.length) (hWl : W.length ≤ 300) : ∀ (n k : Nat) {h : AH} {X : Txc} {l : List (Value × Stp)}, W.length - k = n → k ≤ W.length → X.ln = l.length → X.ln + n < 8000 →
    H h (PLs t tb wb X l wa ra wn wc rn rc W R ++ F) →
    (∀ h' la l', l'.map Prod.snd = l.map Prod.snd ++ ((W.drop k).map Stp.lock) → H h' (PLs t tb wb { X with la := la, ln := l'.length, lc := if n = 0 then X.lc else opn } l' wa ra wn wc rn rc W R ++ F) → Ok (tl2_Tx_int_plan_j8 (stepV tb) (some ⟨tb, 0, none⟩) h' ra rn rc (some ⟨wb, 0, none⟩)) Q) →
    Ok (tl2_Tx_int_plan_L3 (stepV tb) (some ⟨tb, 0, none⟩) ra rn rc (some ⟨wb, 0, none⟩) wa wn wc ((wn : Nat) : Int) (k : Nat) h) Q := by
  subst hW
  intro n
  induction n with
  | zero =>
    intro k h X l hn hk hl hb w K
    refine Ok.le ?_ tl2_Tx_int_plan_L3_le
    refine Ok.le ?_ tl2_Tx_int_plan_j11_le
    rw [dec_f (by omega), cond_f]
    refine K h X.la l (by rw [List.drop_of_length_le (by omega)]; simp) ?_
    rw [if_pos rfl, ← hl]; exact w
  | succ n ih =>
    intro k h X l hn hk hl hb w K
    refine Ok.le ?_ tl2_Tx_int_plan_L3_le
    refine Ok.le ?_ tl2_Tx_int_plan_j11_le
    rw [dec_t (by omega), cond_t]
    refine Ok.le ?_ tl2_Tx_int_plan_j10_le
    have k1 : hasBody Try.prog k_tl2_Tx_int_plan_1 = true := by kernel_rfl
    obtain ⟨x, hx⟩ : ∃ x, W[k]? = some x := ⟨_, List.getElem?_eq_getElem (by omega)⟩
    obtain ⟨ad, ha, g0⟩ := rdI ((w.mv 5 rfl : H h (aOw 1 wa W.length wc _ :: _)).ow.rd) hx
    have hb1 : inB ((k : Nat) : Int) W.length = true := inB_t (by omega) (by omega)
    obtain ⟨h69, e69, w69, _⟩ := w.var [.int .i64 0] [.int .i64 x] 1 rfl
    rw [ha]
    simp only [Option.bind_some, hb1, cond_t, Int.toNat_natCast, g0, e69, fnQ_some', k1, List.nil_append]
    rw [← ha]
    have w70 : H h69 (PLs t tb wb X l wa ra W.length wc rn rc W R ++ (Lay [Cs h.n [.int .i64 x] 1] :: F)) := (H.cls (L := [Cs h.n [.int .i64 x] 1]) w69).d7
    refine Ok.bind (planW (E := [Cs h.n [.int .i64 x] 1]) (s := .lock x) (fun fb m hm => lockE fb h.n x m hm) w70 (by omega) rfl) ?_
    rintro _ h2 ⟨rfl, v, la, w2⟩
    simp only [asTu_t, Option.bind_some, List.isEmpty_nil, cond_t]
    refine Ok.le ?_ tl2_Tx_int_plan_j9_le
    rw [show IntKind.wrap .i64 (((k : Nat) : Int) + 1) = ((k + 1 : Nat) : Int) by rw [wrap64 (by omega) (by omega)]; omega]
    refine ih (k + 1) (X := { X with la := la, ln := X.ln + 1, lc := opn }) (l := l ++ [(v, .lock x)]) (by omega) (by omega) (by simp [hl]) (by show X.ln + 1 + n < 8000; omega) w2 ?_
    intro h' la' l' hl' w'
    refine K h' la' l' ?_ ?_
    · obtain ⟨hlt, e⟩ := List.getElem?_eq_some_iff.mp hx
      rw [hl', List.map_append, List.append_assoc, List.drop_eq_getElem_cons hlt, e]
      simp only [List.map_cons, List.map_nil, List.singleton_append]
    · rw [if_neg (by omega)]
      have : (if n = 0 then opn else opn) = opn := by split <;> rfl
      simp only [this] at w'
      exact w'
/-- the steps of an end -/
def planM (W R : List Int) : List Stp := if W = [] then [.fin] else W.map .lock ++ [.adv] ++ R.map .chk ++ ((List.range W.length).map fun j => Stp.pub (W.getD j 0) j)
/-- what is left of the end: closures, in a block that append has made -/
def aLf (la : Option Addr) (ln lc : Nat) (vs : List Value) : Asr := fun m => ∃ b o pre, (la = some ⟨b, o, none⟩ ∧ ln = vs.length ∧ lc = opn ∧ pre.length = o) ∧ Pt b (.cells (pre ++ vs) true false 1) m
theorem lf_of_ow {h : AH} {F : List Asr} {la : Option Addr} {ln lc : Nat} {vs : List Value} (w : H h (aOw 1 la ln lc vs :: F)) (hne : vs ≠ []) : H h (aLf la ln lc vs :: F) := by
  have ho := w.ow
  cases ho with
  | nil => exact absurd rfl hne
  | @mk b _ _ hb hl hn =>
    refine w.imp fun m hm => ⟨b, 0, [], ⟨rfl, by rw [hl, Nat.mul_one], rfl, rfl⟩, ?_⟩
    obtain ⟨hs, hf⟩ := hm
    funext c
    show m c = if c = b then some (.cells ([] ++ vs) true false 1) else none
    by_cases e : c = b
    · subst e
      rw [if_pos rfl]
      obtain ⟨y, hy⟩ := Option.isSome_iff_exists.mp ((hs c).mpr rfl)
      have : Hp.In m ⟨c + 1, T.nil.set c (some y)⟩ := fun c' y' hy' => by
        have : blk (some ⟨c, 0, none⟩) c' := (hs c').mp (by rw [hy']; rfl)
        obtain rfl : c = c' := this
        rw [hy] at hy'
        obtain rfl := Option.some.inj hy'
        exact ⟨(show (T.set T.nil c (some y)).get c = some y from T.get_set_eq _ _ _), Nat.lt_succ_self _⟩
      have h2 := hf _ this
      cases h2 with
      | mk hb2 _ _ =>
        have : (⟨c + 1, T.nil.set c (some y)⟩ : AH).get c = some y := (show (T.set T.nil c (some y)).get c = some y from T.get_set_eq _ _ _)
        rw [this] at hb2
        rw [hy]; simpa using hb2
    · rw [if_neg e]
      cases hm' : m c with
      | none => rfl
      | some y => exact absurd ((hs c).mp (by rw [hm']; rfl)) fun e2 => e (by have : b = c := e2; exact this.symm)
/-- what stands of an end -/
abbrev EndP (t tb wb : Nat) (X : Txc) (l : List (Value × Stp)) (wa : Option Addr) (wn wc : Nat) : List Asr :=
  [Cs tb [ptr t] 1, aLf X.la X.ln X.lc (mapF l), aSs tb wb l, Cs wb [.slice wa wn wc] 1]
theorem _root_.Go.Lg.H.owN {h : AH} {F : List Asr} {a : Option Addr} {n c : Nat} (w : H h F) (e : a = none ∧ n = 0 ∧ c = 0) : H h (aOw 1 a n c [] :: F) := by
  obtain ⟨rfl, rfl, rfl⟩ := e
  exact w.owNil 1
theorem txPlan (w : H h (aT t X :: aSet X.s σ :: F)) (h0 : X.la = none ∧ X.ln = 0 ∧ X.lc = 0) (hw : Wk (σ.writes.map Prod.fst)) (hr : Wk (σ.reads.map Prod.fst)) (hwl : σ.writes.length ≤ 300) (hrl : σ.reads.length ≤ 300) :
    Ok (C k_tl2_Tx_int_plan [ptr t] h) fun x h' => x = .tuple #[] ∧ ∃ tb wb la l wa wc, l.map Prod.snd = planM (sortI (σ.writes.map Prod.fst)) (sortI (σ.reads.map Prod.fst)) ∧
      H h' (aT t { X with la := la, ln := l.length, lc := opn } :: aSet X.s σ :: EndP t tb wb { X with la := la, ln := l.length, lc := opn } l wa σ.writes.length wc ++ F) := by
  have hWl : (sortI (σ.writes.map Prod.fst)).length = σ.writes.length := by rw [sortI_len, List.length_map]
  have hRl : (sortI (σ.reads.map Prod.fst)).length = σ.reads.length := by rw [sortI_len, List.length_map]
  refine Ok.le ?_ tl2_Tx_int_plan_le
  unfold F_tl2_Tx_int_plan
  have w3 := w.push (.cells [ptr t] false false 1)
  generalize hh3 : h.push (.cells [ptr t] false false 1) = h3 at w3 ⊢
  obtain ⟨A, qs⟩ := set_at (w3.mv 2 rfl)
  simp only [AH.ldP_of (o := 0) w3.get rfl, Option.bind_some, T3 (w3.mv 1 rfl)]
  refine Ok.bind (fresh_run w3 (set_writes qs hw (by omega))) ?_
  rintro _ h7 ⟨wa, wc, rfl, _, w7⟩
  obtain ⟨A7, qs7⟩ := set_at (w7.mv 3 rfl)
  simp only [asS_s, Option.bind_some, AH.ldP_of (o := 0) (w7.g 1 rfl) rfl, veqO_ptr, cond_t, T3 (w7.mv 2 rfl), T3 (w3.mv 1 rfl), AH.ldP_of (o := 0) w3.get rfl]
  refine Ok.bind (fresh_run w7 (set_reads qs7 hr (by omega))) ?_
  rintro _ h14 ⟨ra, rc, rfl, _, w14⟩
  have w16 := w14.push (.cells [.slice none 0 0] false false 1)
  obtain ⟨h21, e21, w21, _⟩ := w16.st1 (.slice wa σ.writes.length wc)
  generalize hh16 : h14.push (.cells [.slice none 0 0] false false 1) = h16 at w16 e21
  simp only [asS_s, Option.bind_some, hh16, AH.ldP_of (o := 0) (w16.g 3 rfl) rfl, veqO_ptr, cond_t, T3 (w16.mv 4 rfl), e21, AH.ldS_of (o := 0) w21.get rfl]
  by_cases c : σ.writes.length = 0
  · rw [dec_t (by omega), cond_t]
    have hp : planM (sortI (σ.writes.map Prod.fst)) (sortI (σ.reads.map Prod.fst)) = [.fin] := by
      unfold planM; rw [if_pos (List.eq_nil_of_length_eq_zero (by rw [hWl, c]))]
    have wN := H.owN w21 h0
    have w27 := w21.push (.cells [fnV (some (k_tl2_Tx_int_plan_2, [], [ptr h.n]))] false false 1)
    obtain ⟨a', h31, e31, w31, _⟩ := wN.app (by_ := 8) (xs := [fnV (some (k_tl2_Tx_int_plan_2, [], [ptr h.n]))]) (c' := 1) rfl (by decide) (by rw [h0.2.1]; decide) (by rw [h0.2.1]; decide)
    generalize hh27 : h21.push (.cells [fnV (some (k_tl2_Tx_int_plan_2, [], [ptr h.n]))] false false 1) = h27 at w27 e31
    have hh27' : h21.push (.cells [fnV (some (k_tl2_Tx_int_plan_2, [], [.pointer (some ⟨h.n, 0, none⟩)]))] false false 1) = h27 := hh27
    obtain ⟨h35, e35, w35, _⟩ := T_st (k := 5) (v := .slice a' (X.ln + 1) opn) (w31.mv 5 rfl) { X with la := a', ln := X.ln + 1, lc := opn } (by decide) rfl
    simp only [AH.ldP_of (o := 0) (w21.g 3 rfl) rfl, Option.bind_some, T5 (w21.mv 4 rfl), hh27', T5 (w27.mv 5 rfl), veqO_slice, veqO_ptr, cond_t, AH.ldP_of (o := 0) (w27.g 4 rfl) rfl, e31, asS_s, AH.ldP_of (o := 0) (w31.g 4 rfl) rfl, e35]
    refine Ok.some ⟨rfl, h.n, h14.n, a', [(fnV (some (k_tl2_Tx_int_plan_2, [], [ptr h.n])), .fin)], wa, wc, hp.symm, ?_⟩
    have w36 := lf_of_ow (w35.mv 1 rfl) (by simp)
    have w37 := H.cls (L := [aStp h.n h14.n (fnV (some (k_tl2_Tx_int_plan_2, [], [ptr h.n]))) .fin]) ((H.cls (L := []) w36 : H h35 (Lay [] :: _)).imp fun m hm => ⟨rfl, hm⟩)
    have w38 := ((w37.pm [2, 7, 6, 1, 0, 3, 4, 5]).rm 6 rfl).rm 6 rfl
    have e1 : X.ln + 1 = 1 := by omega
    rw [e1] at w38
    exact w38
  · rw [dec_f (by omega), cond_f]
    have hne : sortI (σ.writes.map Prod.fst) ≠ [] := fun e => by rw [e] at hWl; simp at hWl; omega
    refine Ok.le ?_ tl2_Tx_int_plan_j12_le
    simp only [Option.bind_some, AH.ldS_of (o := 0) w21.get rfl]
    have wS := H.cls (L := []) (H.owN w21 h0)
    have w22 : H h21 (PLs t h.n h14.n X [] wa ra σ.writes.length wc σ.reads.length rc (sortI (σ.writes.map Prod.fst)) (sortI (σ.reads.map Prod.fst)) ++ (aSet X.s σ :: F)) := wS.pm [6, 5, 1, 0, 2, 4, 3, 7]
    refine plan_locks hWl.symm (by omega) _ 0 rfl (by omega) h0.2.1 (by omega) w22 ?_
    intro h2 la2 l2 e2 w2
    refine Ok.le ?_ tl2_Tx_int_plan_j8_le
    have k1 : hasBody Try.prog k_tl2_Tx_int_plan_1 = true := by kernel_rfl
    simp only [Option.bind_some, fnQ_some', k1, cond_t, List.nil_append]
    have hl2 : l2.length = σ.writes.length := by have := congrArg List.length e2; simpa [hWl] using this
    refine Ok.bind (planW (E := []) (s := .adv) (fun fb m hm => advE fb m hm) ((H.cls (L := []) w2).d7) (by show l2.length < 1000000; omega) rfl) ?_
    rintro _ h3' ⟨rfl, v3, la3, w3'⟩
    simp only [asTu_t, Option.bind_some, List.isEmpty_nil, cond_t]
    refine plan_chks hRl.symm (by omega) _ 0 rfl (by omega) (by simp) (by show l2.length + 1 + _ < 9000; rw [hRl]; omega) rfl w3' ?_
    intro h4 la4 l4 e4 w4
    refine Ok.le ?_ tl2_Tx_int_plan_j4_le
    simp only [Option.bind_some, AH.ldS_of (o := 0) (w4.g 4 rfl) rfl]
    have hl4 : l4.length = σ.writes.length + 1 + σ.reads.length := by have := congrArg List.length e4; simp [hl2, hRl] at this; omega
    refine plan_pubs hWl.symm (by omega) _ 0 rfl (by omega) rfl (by show l4.length + _ < 10000; rw [hWl]; omega) w4 ?_
    intro h5 la5 l5 e5 w5
    have hc : (if (sortI (σ.writes.map Prod.fst)).length - 0 = 0 then opn else opn) = opn := by split <;> rfl
    refine ⟨rfl, h.n, h14.n, la5, l5, wa, wc, ?_, ?_⟩
    · rw [e5, e4, List.map_append, e2]
      unfold planM
      rw [if_neg hne]
      simp
    · simp only [hc] at w5
      have h1 := congrArg List.length e5
      simp only [List.length_map, List.length_append, List.length_range] at h1
      have hl5 : l5 ≠ [] := fun e => by rw [e] at h1; simp at h1; omega
      have w6 := lf_of_ow (w5.mv 2 rfl) (by unfold mapF; intro e; exact hl5 (List.map_eq_nil_iff.mp e))
      exact ((w6.pm [1, 7, 2, 0, 3, 4, 5, 6]).rm 6 rfl).rm 6 rfl
/-- how a step ends -/
def stepTx (X : Txc) (σ : St) (cs : List Cel) (clk : Int) (n : Nat) (s : Stp) : (Int × Int) × Txc × List Cel × Int :=
  let r := stepEff X σ cs clk n s
  if r.1.2 ≠ 0 then ((4, r.1.2), failX r.2.1, freeM r.2.2.1 X.owner, r.2.2.2)
  else if r.1.1 then ((3, 0), { r.2.1 with st := 3 }, r.2.2.1, r.2.2.2)
  else ((X.st, 0), r.2.1, r.2.2.1, r.2.2.2)
theorem eff_keep (X : Txc) (σ : St) (cs : List Cel) (clk : Int) (n : Nat) (s : Stp) : (stepEff X σ cs clk n s).2.1.p = X.p ∧ (stepEff X σ cs clk n s).2.1.s = X.s ∧ (stepEff X σ cs clk n s).2.1.owner = X.owner ∧ (stepEff X σ cs clk n s).2.1.st = X.st ∧ (stepEff X σ cs clk n s).2.1.la = X.la ∧ (stepEff X σ cs clk n s).2.1.ln = X.ln ∧ (stepEff X σ cs clk n s).2.1.lc = X.lc ∧ (stepEff X σ cs clk n s).2.2.1.length = cs.length := by
  cases s with
  | lock i =>
    refine ⟨rfl, rfl, rfl, rfl, rfl, rfl, rfl, ?_⟩
    show (lockM cs i X.owner).2.length = _
    unfold lockM
    repeat' split
    all_goals simp
  | pub i k =>
    refine ⟨rfl, rfl, rfl, rfl, rfl, rfl, rfl, ?_⟩
    show (publishM cs clk i X.owner _ X.ver).2.length = _
    unfold publishM
    repeat' split
    all_goals simp
  | fin => exact ⟨rfl, rfl, rfl, rfl, rfl, rfl, rfl, rfl⟩
  | adv => exact ⟨rfl, rfl, rfl, rfl, rfl, rfl, rfl, rfl⟩
  | chk i => exact ⟨rfl, rfl, rfl, rfl, rfl, rfl, rfl, rfl⟩
/-- a step of the end of one that is ending -/
theorem step_on {v : Value} {s : Stp} {l : List (Value × Stp)} {tb wb : Nat} {wa : Option Addr} {wn wc : Nat} (w : H h (aT t X :: aSet X.s σ :: EndP t tb wb X ((v, s) :: l) wa wn wc ++ (aMem X.p q cs clk :: F))) (ho : 1 ≤ X.owner) (hcs : cs.length ≤ 1024) :
    Ok (tl2_Tx_int_Step_j2 (some ⟨t, 0, none⟩) h) fun x h' => ∃ la, x = .tuple #[.int .u8 (stepTx X σ cs clk wn s).1.1, .int .i64 (stepTx X σ cs clk wn s).1.2] ∧
      ((stepTx X σ cs clk wn s).1.2 ≠ 0 ∧ H h' (aT t (stepTx X σ cs clk wn s).2.1 :: aSet X.s σ :: aMem X.p q (stepTx X σ cs clk wn s).2.2.1 (stepTx X σ cs clk wn s).2.2.2 :: F) ∨
       (stepTx X σ cs clk wn s).1.2 = 0 ∧ H h' (aT t { (stepTx X σ cs clk wn s).2.1 with la := la, ln := l.length, lc := opn } :: aSet X.s σ :: EndP t tb wb { (stepTx X σ cs clk wn s).2.1 with la := la, ln := l.length, lc := opn } l wa wn wc ++ (aMem X.p q (stepTx X σ cs clk wn s).2.2.1 (stepTx X σ cs clk wn s).2.2.2 :: F))) := by
  refine Ok.le ?_ tl2_Tx_int_Step_j2_le
  obtain ⟨b, w1⟩ := (w.mv 3 rfl : H h (aLf X.la X.ln X.lc (mapF ((v, s) :: l)) :: _)).ex
  obtain ⟨o, w1⟩ := w1.ex
  obtain ⟨pre, w1⟩ := w1.ex
  obtain ⟨⟨e1, e2, e3, e4⟩, w1⟩ := w1.pu
  have gB : h.get b = some (.cells (pre ++ v :: mapF l) true false 1) := w1.get
  have wS : H h (aStp tb wb v s :: aSs tb wb l :: _) := aSs_cons.mp (w1.mv 4 rfl)
  have hb0 : inB (0 : Int) X.ln = true := inB_t (by omega) (by rw [e2]; show (0 : Int) < ((mapF ((v, s) :: l)).length : Nat); simp [mapF])
  have hln : X.ln = l.length + 1 := by rw [e2]; simp [mapF]
  -- the list of what is left
  have hsl : slcE 1 (some ⟨b, o, none⟩) X.ln X.lc (some (.int .i64 1)) none none h = some (.slice (some ⟨b, o + 1 * 1, none⟩) (X.ln - 1) opn, h) := by
    rw [e3]
    have hi1 : inBe (1 : Int) X.ln = true := inBe_t (by omega) (by omega)
    simp only [slcE, blt_opn, cond_f, gB, boundOf, hi1, cond_t, Nat.beq_refl, show Nat.beq 1 0 = false from rfl]
    rfl
  obtain ⟨h25, e25, w25, _⟩ := T_st (k := 5) (v := .slice (some ⟨b, o + 1 * 1, none⟩) (X.ln - 1) opn) (wS.mv 3 rfl) { X with la := some ⟨b, o + 1, none⟩, ln := l.length, lc := opn } (by decide) (by simp only [encX, hln]; rfl)
  have wr := w25.pm [0, 4, 7, 5, 6, 1, 2, 3]
  obtain ⟨f, rfl, hf, run⟩ := stp_run (X := { X with la := some ⟨b, o + 1, none⟩, ln := l.length, lc := opn }) wr
  have hG : h.ldG b (o + 0 * 1) = some (some f) := ldG_of gB (by rw [Nat.zero_mul, Nat.add_zero, ← e4, List.getElem?_append_right (Nat.le_refl _), Nat.sub_self]; rfl)
  have wT : H h (aT t X :: _) := w
  simp only [Option.bind_some, T5 wT, e1, hb0, cond_t, hG, hsl, asS_s, e25, fnQ_some', hf]
  refine Ok.bind run ?_
  rintro _ h27 ⟨rfl, w27⟩
  have eff : stepEff { X with la := some ⟨b, o + 1, none⟩, ln := l.length, lc := opn } σ cs clk wn s = ((stepEff X σ cs clk wn s).1, { (stepEff X σ cs clk wn s).2.1 with la := some ⟨b, o + 1, none⟩, ln := l.length, lc := opn }, (stepEff X σ cs clk wn s).2.2) := by cases s <;> rfl
  rw [eff] at w27 ⊢
  obtain ⟨k1, k2, k3, k4, k5, k6, k7, k8⟩ := eff_keep X σ cs clk wn s
  simp only [asTu_t, hdO_c, asB_b, asI_i64, Option.bind_some, List.isEmpty_nil, cond_t]
  unfold stepTx
  generalize hr : stepEff X σ cs clk wn s = r at w27 k1 k2 k3 k4 k5 k6 k7 k8 ⊢
  obtain ⟨⟨last, e⟩, X2, cs2, clk2⟩ := r
  simp only at w27 k1 k2 k3 k4 k5 k6 k7 k8 ⊢
  by_cases c : e = 0
  · subst c
    rw [dec_t rfl, Bool.not_true, cond_f, if_neg (by simp)]
    have fin : ∀ (h' : AH) (X3 : Txc), X3.la = some ⟨b, o + 1, none⟩ → X3.ln = l.length → X3.lc = opn → H h' (aT t X3 :: aSet X.s σ :: aMem X.p q cs2 clk2 :: Cs tb [ptr t] 1 :: Cs wb [.slice wa wn wc] 1 :: aSs tb wb l :: Pt b (.cells (pre ++ fnV (some f) :: mapF l) true false 1) :: F) →
        H h' (aT t X3 :: aSet X.s σ :: EndP t tb wb X3 l wa wn wc ++ (aMem X.p q cs2 clk2 :: F)) := fun h' X3 a1 a2 a3 w' => by
      have w2 := (w'.mv 6 rfl).imp (B := aLf X3.la X3.ln X3.lc (mapF l)) fun m hm => ⟨b, o + 1, pre ++ [fnV (some f)], ⟨a1, by rw [a2]; simp [mapF], a3, by simp [e4]⟩, by rw [List.append_assoc, List.singleton_append]; exact hm⟩
      exact w2.pm [1, 2, 4, 0, 6, 5, 3]
    cases last with
    | true =>
      rw [cond_t, if_pos rfl]
      obtain ⟨h36, e36, w36, _⟩ := T_st (k := 4) (v := .int .u8 3) w27 { X2 with la := some ⟨b, o + 1, none⟩, ln := l.length, lc := opn, st := 3 } (by decide) rfl
      simp only [e36, Option.bind_some]
      refine Ok.le ?_ tl2_Tx_int_Step_j1_le
      simp only [T4 w36, Option.bind_some]
      exact Ok.some ⟨some ⟨b, o + 1, none⟩, rfl, .inr ⟨trivial, fin h36 _ rfl rfl rfl w36⟩⟩
    | false =>
      rw [cond_f, if_neg (by simp)]
      refine Ok.le ?_ tl2_Tx_int_Step_j1_le
      simp only [T4 w27, Option.bind_some]
      exact Ok.some ⟨some ⟨b, o + 1, none⟩, by rw [k4], .inr ⟨trivial, fin h27 _ rfl rfl rfl w27⟩⟩
  · rw [dec_f c, Bool.not_false, cond_t, if_pos c]
    rw [← k1] at w27
    refine Ok.bind (txFail (X := { X2 with la := some ⟨b, o + 1, none⟩, ln := l.length, lc := opn }) (w27.pm [0, 2, 1]) (by show 1 ≤ X2.owner; rw [k3]; exact ho) (by rw [k8]; exact hcs)) ?_
    rintro _ h2 ⟨rfl, w29⟩
    simp only [asTu_t, Option.bind_some, List.isEmpty_nil, cond_t]
    refine Ok.le ?_ tl2_Tx_int_Step_j1_le
    simp only [T4 w29, Option.bind_some]
    have w30 := w29.pm [0, 2, 1, 3, 4, 5, 6]
    have w31 : H h2 (aT t (failX X2) :: aSet X.s σ :: aMem X2.p q (freeM cs2 X2.owner) clk2 :: F) := (((w30.rm 3 rfl).rm 3 rfl).rm 3 rfl).rm 3 rfl
    rw [k1, k3] at w31
    exact Ok.some ⟨none, rfl, .inl ⟨c, w31⟩⟩
end
end Go.Lg.Try

namespace Go.Lg.Try
set_option linter.unusedVariables false
set_option linter.unusedSimpArgs false
open Go Go.Proofs
structure TM where
  owner : Int
  beg : Int
  st : Int
  told : Bool
  ver : Int
  σ : St
  left : List Stp
namespace TM
def X (m : TM) (p s : Nat) (la : Option Addr) (ln lc : Nat) : Txc := ⟨p, m.owner, m.beg, s, m.st, la, ln, lc, m.told, m.ver⟩
def fail (m : TM) : TM := { m with st := 4, ver := 0, left := [] }
def write (m : TM) (n : Nat) (i v : Int) : Int × TM := if openE m.st n i = 0 then ((m.σ.write i v).1, { m with σ := (m.σ.write i v).2 }) else (openE m.st n i, m)
def mark (m : TM) : Int × TM := if m.st = 1 then (m.σ.mark.1, { m with σ := m.σ.mark.2 }) else (132, m)
def keep (m : TM) : Int × TM := if m.st = 1 then (m.σ.keep.1, { m with σ := m.σ.keep.2 }) else (132, m)
def undo (m : TM) : Int × TM := if m.st = 1 then (m.σ.undo.1, { m with σ := m.σ.undo.2 }) else (132, m)
def stale (m : TM) (c : Cel) (i : Int) : Bool := c.own ≠ 0 ∨ m.beg < c.ver ∨ (aok (alook m.σ.reads i) = true ∧ aval (alook m.σ.reads i) ≠ c.ver)
def read (m : TM) (cs : List Cel) (i : Int) : (Int × Int) × TM × List Cel :=
  if openE m.st cs.length i ≠ 0 then ((0, openE m.st cs.length i), m, cs)
  else if aok (alook m.σ.writes i) then ((aval (alook m.σ.writes i), 0), m, cs)
  else if m.stale (loadM cs i).1 i then ((0, 131), m.fail, freeM cs m.owner)
  else if (m.σ.read i (loadM cs i).1.ver).1 ≠ 0 then ((0, (m.σ.read i (loadM cs i).1.ver).1), { m with σ := (m.σ.read i (loadM cs i).1.ver).2 }, cs)
  else (((loadM cs i).1.v, 0), { m with σ := (m.σ.read i (loadM cs i).1.ver).2 }, cs)
def over (m : TM) : Prop := m.st = 3 ∨ m.st = 4 ∨ m.told = true
instance (m : TM) : Decidable m.over := inferInstanceAs (Decidable (_ ∨ _))
def abort (m : TM) (cs : List Cel) : Int × TM × List Cel := if m.over then (132, m, cs) else (0, m.fail, freeM cs m.owner)
def plan (m : TM) : TM := { m with st := 2, left := planM (sortI (m.σ.writes.map Prod.fst)) (sortI (m.σ.reads.map Prod.fst)) }
/-- what a step does -/
def eff (m : TM) (cs : List Cel) (clk : Int) : Stp → (Bool × Int) × TM × List Cel × Int
  | .fin => ((true, 0), { m with ver := m.beg }, cs, clk)
  | .lock i => ((false, (lockM cs i m.owner).1), m, (lockM cs i m.owner).2, clk)
  | .adv => ((false, (advM clk).2.1), { m with ver := (advM clk).1 }, cs, (advM clk).2.2)
  | .chk i => ((false, if (loadM cs i).1.own ≠ 0 ∧ (loadM cs i).1.own ≠ m.owner ∨ (loadM cs i).1.ver ≠ aval (alook m.σ.reads i) then 131 else 0), m, cs, clk)
  | .pub i k => ((decide ((k : Int) = IntKind.wrap .i64 ((m.σ.writes.length : Int) - 1)), 0), { m with told := true }, (publishM cs clk i m.owner (aval (alook m.σ.writes i)) m.ver).2, clk)
/-- one step of those that are left -/
def go (m : TM) (cs : List Cel) (clk : Int) : (Int × Int) × TM × List Cel × Int := match m.left with
  | [] => ((m.st, 132), m, cs, clk)
  | s :: l =>
    let r := m.eff cs clk s
    if r.1.2 ≠ 0 then ((4, r.1.2), r.2.1.fail, freeM r.2.2.1 m.owner, r.2.2.2)
    else if r.1.1 then ((3, 0), { r.2.1 with st := 3, left := l }, r.2.2.1, r.2.2.2)
    else ((m.st, 0), { r.2.1 with left := l }, r.2.2.1, r.2.2.2)
def step (m : TM) (cs : List Cel) (clk : Int) : (Int × Int) × TM × List Cel × Int :=
  if m.st = 1 then m.plan.go cs clk else if m.st = 2 then m.go cs clk else ((m.st, 132), m, cs, clk)
end TM
/-- what stands of an end, or that none has begun -/
def aEnd (t : Nat) (X : Txc) (m : TM) : Asr := fun hp => (m.st = 2 ∧ ∃ tb wb l wa wc, l.map Prod.snd = m.left ∧ Lay (EndP t tb wb X l wa m.σ.writes.length wc) hp) ∨ (m.st ≠ 2 ∧ (m.st = 1 → (X.la = none ∧ X.ln = 0 ∧ X.lc = 0)) ∧ Lay [] hp)
def aTX (p t : Nat) (m : TM) : Asr := fun hp => ∃ s la ln lc, Lay [aT t (m.X p s la ln lc), aSet s m.σ, aEnd t (m.X p s la ln lc) m] hp
section
variable {h h' : AH} {p t : Nat} {m : TM} {q : Nat} {cs : List Cel} {clk : Int} {F : List Asr}
theorem TX_at (w : H h (aTX p t m :: F)) : ∃ s la ln lc, H h (aT t (m.X p s la ln lc) :: aSet s m.σ :: aEnd t (m.X p s la ln lc) m :: F) := by
  obtain ⟨s, w⟩ := w.ex
  obtain ⟨la, w⟩ := w.ex
  obtain ⟨ln, w⟩ := w.ex
  obtain ⟨lc, w⟩ := w.ex
  exact ⟨s, la, ln, lc, w.opn_⟩
theorem TX_mk {s : Nat} {la : Option Addr} {ln lc : Nat} (w : H h (aT t (m.X p s la ln lc) :: aSet s m.σ :: aEnd t (m.X p s la ln lc) m :: F)) : H h (aTX p t m :: F) :=
  (H.cls (L := [aT t (m.X p s la ln lc), aSet s m.σ, aEnd t (m.X p s la ln lc) m]) w).imp fun hp x => ⟨s, la, ln, lc, x⟩
/-- an end of one that is open: nothing -/
theorem end_open {X : Txc} (w : H h (aEnd t X m :: F)) (h1 : m.st ≠ 2) : H h F ∧ (m.st = 1 → (X.la = none ∧ X.ln = 0 ∧ X.lc = 0)) := by
  obtain ⟨hp, h2, a, b, d, rfl, ha, hb⟩ := w
  rcases ha with ⟨e, _⟩ | ⟨_, e, _⟩
  · exact absurd e h1
  · exact ⟨⟨b, h2.right d, hb⟩, e⟩
theorem end_none {X : Txc} (w : H h F) (h1 : m.st ≠ 2) (h2 : m.st = 1 → (X.la = none ∧ X.ln = 0 ∧ X.lc = 0)) : H h (aEnd t X m :: F) :=
  (H.cls (L := []) w).imp fun hp x => .inr ⟨h1, h2, x⟩
theorem end_some {X : Txc} (w : H h (aEnd t X m :: F)) (h1 : m.st = 2) : ∃ tb wb l wa wc, l.map Prod.snd = m.left ∧ H h (EndP t tb wb X l wa m.σ.writes.length wc ++ F) := by
  obtain ⟨hp, h2, a, b, d, rfl, ha, hb⟩ := w
  rcases ha with ⟨_, tb, wb, l, wa, wc, e, x⟩ | ⟨e, _⟩
  · exact ⟨tb, wb, l, wa, wc, e, H.opn_ ⟨_, h2, a, b, d, rfl, x, hb⟩⟩
  · exact absurd h1 e
theorem end_mk {X : Txc} {tb wb : Nat} {l : List (Value × Stp)} {wa : Option Addr} {wc : Nat} (w : H h (EndP t tb wb X l wa m.σ.writes.length wc ++ F)) (h1 : m.st = 2) (e : l.map Prod.snd = m.left) : H h (aEnd t X m :: F) :=
  (H.cls w).imp fun hp x => .inl ⟨h1, tb, wb, l, wa, wc, e, x⟩
theorem MStatus (w : H h (aTX p t m :: F)) : C k_tl2_Tx_int_Status [ptr t] h = some (.int .u8 m.st, h) := by
  obtain ⟨s, la, ln, lc, w⟩ := TX_at w
  exact txStatus w
theorem MVersion (w : H h (aTX p t m :: F)) : C k_tl2_Tx_int_Version [ptr t] h = some (.int .i64 (if m.st = 3 then m.ver else 0), h) := by
  obtain ⟨s, la, ln, lc, w⟩ := TX_at w
  exact txVersion w
/-- a step that changes the sets of one that is open, at most -/
theorem set_open {m' : TM} {s : Nat} {la : Option Addr} {ln lc : Nat} {E : Asr} (e : m' = { m with σ := m'.σ }) (hno : m.st ≠ 1 → m' = m) (w : H h (aT t (m.X p s la ln lc) :: aSet s m'.σ :: E :: aEnd t (m.X p s la ln lc) m :: F)) : H h (aTX p t m' :: E :: F) := by
  by_cases c : m.st = 1
  · have eX : m'.X p s la ln lc = m.X p s la ln lc := by rw [e]; rfl
    obtain ⟨w2, h1⟩ := end_open (w.mv 3 rfl) (by omega)
    have w3 := end_none (m := m') (X := m'.X p s la ln lc) (t := t) w2 (by rw [e]; show m.st ≠ 2; omega) (fun _ => by rw [eX]; exact h1 c)
    refine TX_mk (s := s) (la := la) (ln := ln) (lc := lc) ?_
    rw [eX] at w3 ⊢
    exact w3.pm [1, 2, 0, 3]
  · have := hno c
    subst this
    exact TX_mk (w.pm [0, 1, 3, 2])
theorem MWrite (w : H h (aTX p t m :: aMem p q cs clk :: F)) (hp : m.σ.past.length < 1000000) (i v : Int) : Ok (C k_tl2_Tx_int_Write [ptr t, .int .i64 i, .int .i64 v] h) fun x h' => x = .int .i64 (m.write cs.length i v).1 ∧ H h' (aTX p t (m.write cs.length i v).2 :: aMem p q cs clk :: F) := by
  obtain ⟨s, la, ln, lc, w⟩ := TX_at w
  refine Ok.mono (txWrite (X := m.X p s la ln lc) (w.pm [0, 1, 3, 2]) hp i v) ?_
  rintro x h' ⟨rfl, w2⟩
  have e : (m.write cs.length i v).1 = (txW (m.X p s la ln lc) cs.length m.σ i v).1 ∧ (m.write cs.length i v).2.σ = (txW (m.X p s la ln lc) cs.length m.σ i v).2 ∧ (m.write cs.length i v).2 = { m with σ := (m.write cs.length i v).2.σ } ∧ (m.st ≠ 1 → (m.write cs.length i v).2 = m) := by
    unfold TM.write txW
    by_cases c : openE m.st cs.length i = 0
    · have c2 : openE (m.X p s la ln lc).st cs.length i = 0 := c
      rw [if_pos c, if_pos c2]
      refine ⟨rfl, rfl, rfl, fun h => ?_⟩
      unfold openE at c
      rw [if_pos h] at c; omega
    · have c2 : ¬openE (m.X p s la ln lc).st cs.length i = 0 := c
      rw [if_neg c, if_neg c2]
      exact ⟨rfl, rfl, rfl, fun _ => rfl⟩
  exact ⟨by rw [e.1], set_open (s := s) (la := la) (ln := ln) (lc := lc) e.2.2.1 e.2.2.2 (by rw [e.2.1]; exact w2)⟩
/-- it has failed: whatever stood of an end is let go -/
theorem fail_mk {s : Nat} {la : Option Addr} {ln lc : Nat} {m' : TM} {E D : Asr} (e : m' = TM.fail m') (w : H h (aT t (m'.X p s none 0 0) :: aSet s m'.σ :: E :: D :: F)) : H h (aTX p t m' :: E :: F) := by
  have w2 := (w.mv 3 rfl).drop
  have h4 : m'.st = 4 := by rw [e]; rfl
  have w3 := end_none (m := m') (X := m'.X p s none 0 0) (t := t) w2 (by omega) (fun _ => ⟨rfl, rfl, rfl⟩)
  exact TX_mk (s := s) (la := none) (ln := 0) (lc := 0) (w3.pm [1, 2, 0, 3])
theorem MRead (w : H h (aTX p t m :: aMem p q cs clk :: F)) (ho : 1 ≤ m.owner) (hcs : cs.length ≤ 1024) (i : Int) : Ok (C k_tl2_Tx_int_Read [ptr t, .int .i64 i] h) fun x h' => x = .tuple #[.int .i64 (m.read cs i).1.1, .int .i64 (m.read cs i).1.2] ∧ H h' (aTX p t (m.read cs i).2.1 :: aMem p q (m.read cs i).2.2 clk :: F) := by
  obtain ⟨s, la, ln, lc, w⟩ := TX_at w
  refine Ok.mono (txRead (X := m.X p s la ln lc) (w.pm [0, 1, 3, 2]) ho hcs i) ?_
  rintro x h' ⟨rfl, w2⟩
  have hst : (m.X p s la ln lc).st = m.st := rfl
  have hsl : ∀ c, staleM (m.X p s la ln lc) m.σ c i = m.stale c i := fun c => rfl
  by_cases c0 : openE m.st cs.length i ≠ 0
  · have r : readTx (m.X p s la ln lc) m.σ cs i = ((0, openE m.st cs.length i), m.X p s la ln lc, m.σ, cs) := by unfold readTx; rw [if_pos (by rw [hst]; exact c0)]; rfl
    have r2 : m.read cs i = ((0, openE m.st cs.length i), m, cs) := by unfold TM.read; rw [if_pos c0]
    rw [r] at w2
    rw [r, r2]
    exact ⟨rfl, set_open (s := s) (la := la) (ln := ln) (lc := lc) rfl (fun _ => rfl) w2⟩
  have c0' : ¬openE (m.X p s la ln lc).st cs.length i ≠ 0 := c0
  have h1 : m.st = 1 := by
    unfold openE at c0
    by_cases q : m.st = 1
    · exact q
    · rw [if_pos q] at c0; omega
  by_cases c1 : aok (alook m.σ.writes i) = true
  · have r : readTx (m.X p s la ln lc) m.σ cs i = ((aval (alook m.σ.writes i), 0), m.X p s la ln lc, m.σ, cs) := by unfold readTx; rw [if_neg c0', if_pos c1]
    have r2 : m.read cs i = ((aval (alook m.σ.writes i), 0), m, cs) := by unfold TM.read; rw [if_neg c0, if_pos c1]
    rw [r] at w2
    rw [r, r2]
    exact ⟨rfl, set_open (s := s) (la := la) (ln := ln) (lc := lc) rfl (fun _ => rfl) w2⟩
  by_cases c2 : m.stale (loadM cs i).1 i = true
  · have r : readTx (m.X p s la ln lc) m.σ cs i = ((0, 131), failX (m.X p s la ln lc), m.σ, freeM cs m.owner) := by unfold readTx; rw [if_neg c0', if_neg c1, if_pos (by rw [hsl]; exact c2)]; rfl
    have r2 : m.read cs i = ((0, 131), m.fail, freeM cs m.owner) := by unfold TM.read; rw [if_neg c0, if_neg c1, if_pos c2]
    rw [r] at w2
    rw [r, r2]
    exact ⟨rfl, fail_mk (s := s) (la := none) (ln := 0) (lc := 0) (m' := m.fail) rfl w2⟩
  by_cases c3 : (m.σ.read i (loadM cs i).1.ver).1 ≠ 0
  · have r : readTx (m.X p s la ln lc) m.σ cs i = ((0, (m.σ.read i (loadM cs i).1.ver).1), m.X p s la ln lc, (m.σ.read i (loadM cs i).1.ver).2, cs) := by unfold readTx; rw [if_neg c0', if_neg c1, if_neg (by rw [hsl]; exact c2), if_pos c3]
    have r2 : m.read cs i = ((0, (m.σ.read i (loadM cs i).1.ver).1), { m with σ := (m.σ.read i (loadM cs i).1.ver).2 }, cs) := by unfold TM.read; rw [if_neg c0, if_neg c1, if_neg c2, if_pos c3]
    rw [r] at w2
    rw [r, r2]
    exact ⟨rfl, set_open (s := s) (la := la) (ln := ln) (lc := lc) (m' := { m with σ := (m.σ.read i (loadM cs i).1.ver).2 }) rfl (fun h => absurd h1 h) w2⟩
  · have r : readTx (m.X p s la ln lc) m.σ cs i = (((loadM cs i).1.v, 0), m.X p s la ln lc, (m.σ.read i (loadM cs i).1.ver).2, cs) := by unfold readTx; rw [if_neg c0', if_neg c1, if_neg (by rw [hsl]; exact c2), if_neg c3]
    have r2 : m.read cs i = (((loadM cs i).1.v, 0), { m with σ := (m.σ.read i (loadM cs i).1.ver).2 }, cs) := by unfold TM.read; rw [if_neg c0, if_neg c1, if_neg c2, if_neg c3]
    rw [r] at w2
    rw [r, r2]
    exact ⟨rfl, set_open (s := s) (la := la) (ln := ln) (lc := lc) (m' := { m with σ := (m.σ.read i (loadM cs i).1.ver).2 }) rfl (fun h => absurd h1 h) w2⟩
theorem MAbort (w : H h (aTX p t m :: aMem p q cs clk :: F)) (ho : 1 ≤ m.owner) (hcs : cs.length ≤ 1024) : Ok (C k_tl2_Tx_int_Abort [ptr t] h) fun x h' => x = .int .i64 (m.abort cs).1 ∧ H h' (aTX p t (m.abort cs).2.1 :: aMem p q (m.abort cs).2.2 clk :: F) := by
  obtain ⟨s, la, ln, lc, w⟩ := TX_at w
  refine Ok.mono (txAbort (X := m.X p s la ln lc) (w.pm [0, 3, 1, 2]) ho hcs) ?_
  unfold TM.abort
  rintro x h' (⟨c, rfl, w2⟩ | ⟨c, rfl, w2⟩)
  · have c' : m.over := c
    rw [if_pos c']
    exact ⟨rfl, TX_mk (w2.pm [0, 2, 3, 1])⟩
  · have c' : ¬m.over := c
    rw [if_neg c']
    exact ⟨rfl, fail_mk (la := none) (ln := 0) (lc := 0) (m' := m.fail) rfl (w2.pm [0, 2, 1, 3])⟩
theorem go_ok (w : H h (aTX p t m :: aMem p q cs clk :: F)) (h2 : m.st = 2) {st : Stp} {lf : List Stp} (hl : m.left = st :: lf) (ho : 1 ≤ m.owner) (hcs : cs.length ≤ 1024) :
    Ok (tl2_Tx_int_Step_j2 (some ⟨t, 0, none⟩) h) fun x h' => x = .tuple #[.int .u8 (m.go cs clk).1.1, .int .i64 (m.go cs clk).1.2] ∧ H h' (aTX p t (m.go cs clk).2.1 :: aMem p q (m.go cs clk).2.2.1 (m.go cs clk).2.2.2 :: F) := by
  obtain ⟨s, la, ln, lc, w⟩ := TX_at w
  obtain ⟨tb, wb, l, wa, wc, el, w2⟩ := end_some (w.u2) h2
  rw [hl] at el
  obtain ⟨⟨v, st'⟩, l', rfl, rfl, rfl⟩ := List.map_eq_cons_iff.mp el
  refine Ok.mono (step_on (X := m.X p s la ln lc) (w2.pm [4, 5, 0, 1, 2, 3, 6]) ho hcs) ?_
  rintro x h' ⟨la', rfl, w3⟩
  have eff : stepEff (m.X p s la ln lc) m.σ cs clk m.σ.writes.length st' = ((m.eff cs clk st').1, (m.eff cs clk st').2.1.X p s la ln lc, (m.eff cs clk st').2.2) := by cases st' <;> rfl
  have keep : (m.eff cs clk st').2.1.σ = m.σ ∧ (m.eff cs clk st').2.1.st = m.st ∧ (m.eff cs clk st').2.1.left = m.left := by cases st' <;> exact ⟨rfl, rfl, rfl⟩
  unfold stepTx at w3 ⊢
  unfold TM.go
  rw [hl]
  simp only [eff] at w3 ⊢
  generalize hr : m.eff cs clk st' = r at w3 keep ⊢
  obtain ⟨⟨last, e⟩, m2, cs2, clk2⟩ := r
  obtain ⟨k1, k2, k3⟩ := keep
  simp only at k1 k2 k3 w3 ⊢
  by_cases c : e = 0
  · rw [if_neg (by simp [c])] at w3 ⊢
    cases last with
    | true =>
      simp only [if_true] at w3 ⊢
      rcases w3 with ⟨c2, _⟩ | ⟨_, w3⟩
      · exact absurd rfl c2
      rw [if_neg (by simp [c])]
      refine ⟨rfl, ?_⟩
      have w4 := (((w3.rm 2 rfl).rm 2 rfl).rm 2 rfl).rm 2 rfl
      rw [← k1] at w4
      have w5 := end_none (m := { m2 with st := 3, left := List.map Prod.snd l' }) (X := ({ m2 with st := 3, left := List.map Prod.snd l' } : TM).X p s la' l'.length opn) (t := t) w4 (by show (3 : Int) ≠ 2; decide) (fun h => by have : (3 : Int) = 1 := h; omega)
      exact TX_mk (m := { m2 with st := 3, left := List.map Prod.snd l' }) (s := s) (la := la') (ln := l'.length) (lc := opn) (w5.pm [1, 2, 0, 3])
    | false =>
      simp only [Bool.false_eq_true, if_false] at w3 ⊢
      rcases w3 with ⟨c2, _⟩ | ⟨_, w3⟩
      · exact absurd rfl c2
      rw [if_neg (by simp [c])]
      refine ⟨rfl, ?_⟩
      rw [← k1] at w3
      have w5 := end_mk (m := { m2 with left := List.map Prod.snd l' }) (X := ({ m2 with left := List.map Prod.snd l' } : TM).X p s la' l'.length opn) (w3.pm [2, 3, 4, 5, 0, 1, 6]) (by show m2.st = 2; rw [k2, h2]) rfl
      exact TX_mk (m := { m2 with left := List.map Prod.snd l' }) (s := s) (la := la') (ln := l'.length) (lc := opn) (w5.pm [1, 2, 0, 3])
  · rw [if_pos c] at w3 ⊢
    rcases w3 with ⟨_, w3⟩ | ⟨c2, _⟩
    rotate_left
    · exact absurd c2 c
    rw [if_pos c]
    refine ⟨rfl, ?_⟩
    rw [← k1] at w3
    have w4 := H.cls (L := []) w3
    exact fail_mk (la := none) (ln := 0) (lc := 0) (m' := m2.fail) rfl (w4.pm [1, 2, 3, 0])
theorem go_eq (m : TM) : m.plan.st = 2 ∧ ∃ s l, m.plan.left = s :: l := by
  refine ⟨rfl, ?_⟩
  unfold TM.plan planM
  simp only
  split
  · exact ⟨_, _, rfl⟩
  · rename_i hn
    cases hq : sortI (m.σ.writes.map Prod.fst) with
    | nil => exact absurd hq hn
    | cons x l => exact ⟨_, _, rfl⟩
theorem MStep (w : H h (aTX p t m :: aMem p q cs clk :: F)) (ho : 1 ≤ m.owner) (hcs : cs.length ≤ 1024) (hst : m.st = 1 ∨ m.st = 2 ∨ m.st = 3 ∨ m.st = 4) (hlf : m.st = 2 → m.left ≠ []) (hw : Wk (m.σ.writes.map Prod.fst)) (hr : Wk (m.σ.reads.map Prod.fst)) (hwl : m.σ.writes.length ≤ 300) (hrl : m.σ.reads.length ≤ 300) :
    Ok (C k_tl2_Tx_int_Step [ptr t] h) fun x h' => x = .tuple #[.int .u8 (m.step cs clk).1.1, .int .i64 (m.step cs clk).1.2] ∧ H h' (aTX p t (m.step cs clk).2.1 :: aMem p q (m.step cs clk).2.2.1 (m.step cs clk).2.2.2 :: F) := by
  obtain ⟨s, la, ln, lc, w1⟩ := TX_at w
  refine Ok.le ?_ tl2_Tx_int_Step_le
  simp only [F_tl2_Tx_int_Step, txr w1, Option.bind_some, asB_b, Bool.not_true, cond_f]
  refine Ok.le ?_ tl2_Tx_int_Step_j4_le
  have e4 : h.ldI .u8 t (0 + 4) = some m.st := T4 w1
  simp only [Option.bind_some, e4]
  unfold TM.step
  by_cases c1 : m.st = 1
  · rw [dec_t c1, cond_t, if_pos c1]
    obtain ⟨w2, h0⟩ := end_open (w1.u2) (by omega)
    obtain ⟨h9, e9, w9, _⟩ := T_st (k := 4) (v := .int .u8 2) w2 { m.X p s la ln lc with st := 2 } (by decide) rfl
    simp only [e9, Option.bind_some]
    refine Ok.bind (txPlan (X := { m.X p s la ln lc with st := 2 }) w9 (h0 c1) hw hr hwl hrl) ?_
    rintro _ h10 ⟨rfl, tb, wb, la', l, wa, wc, el, w10⟩
    simp only [asTu_t, Option.bind_some, List.isEmpty_nil, cond_t]
    have w11 := end_mk (m := m.plan) (X := m.plan.X p s la' l.length opn) (w10.pm [2, 3, 4, 5, 0, 1]) rfl el
    have w12 : H h10 (aTX p t m.plan :: _) := TX_mk (m := m.plan) (s := s) (la := la') (ln := l.length) (lc := opn) (w11.pm [1, 2, 0, 3])
    obtain ⟨a1, s1, l1, a2⟩ := go_eq m
    exact go_ok w12 a1 a2 ho hcs
  rw [dec_f c1, cond_f, if_neg c1]
  by_cases c3 : m.st = 3
  · rw [dec_t c3, cond_t]
    refine Ok.le ?_ tl2_Tx_int_Step_j3_le
    rw [cond_t]
    simp only [Option.bind_some, e4]
    rw [if_neg (by omega)]
    exact Ok.some ⟨rfl, w⟩
  rw [dec_f c3, cond_f]
  refine Ok.le ?_ tl2_Tx_int_Step_j3_le
  by_cases c4 : m.st = 4
  · rw [dec_t c4, cond_t]
    simp only [Option.bind_some, e4]
    rw [if_neg (by omega)]
    exact Ok.some ⟨rfl, w⟩
  · rw [dec_f c4, cond_f]
    have c2 : m.st = 2 := by omega
    rw [if_pos c2]
    obtain ⟨s1, l1, hl⟩ : ∃ s1 l1, m.left = s1 :: l1 := by
      cases hq : m.left with
      | nil => exact absurd hq (hlf c2)
      | cons a b => exact ⟨a, b, rfl⟩
    exact go_ok w c2 hl ho hcs
/-- a new one -/
def TM.new (o clk : Int) : TM := ⟨o, clk, 1, false, 0, {}, []⟩
theorem MBegin (w : H h (aMem p q cs clk :: F)) {o : Int} (ho : 1 ≤ o) : Ok (C k_tl2_Begin_int [ptr p, .int .i64 o] h) fun x h' => ∃ t, x = .tuple #[ptr t, .int .i64 0] ∧ H h' (aTX p t (TM.new o clk) :: aMem p q cs clk :: F) := by
  refine Ok.mono (txBegin w ho) ?_
  rintro x h' ⟨t, s, rfl, w2⟩
  have w3 := end_none (m := TM.new o clk) (X := (TM.new o clk).X p s none 0 0) (t := t) w2 (by show (1 : Int) ≠ 2; decide) (fun _ => ⟨rfl, rfl, rfl⟩)
  exact ⟨t, rfl, TX_mk (m := TM.new o clk) (s := s) (la := none) (ln := 0) (lc := 0) (w3.pm [1, 2, 0, 3])⟩
end
end Go.Lg.Try
