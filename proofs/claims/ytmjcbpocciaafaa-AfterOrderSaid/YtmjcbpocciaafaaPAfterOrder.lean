/- AfterOrder: each action of a committed owner is told once, in the order of commits. -/
import Derived.Test.YtmjcbpocciaafaaPafterG
import Derived.Test.YtmjcbpocciaafaaPkitInts
import Derived.Test.YtmjcbpocciaafaaPok
namespace Go.Lg.Try
set_option linter.unusedVariables false
set_option linter.unusedSimpArgs false
open Go Go.Proofs
namespace Order
open MapS
def Q : Value → AH → Prop := fun v _ => v = .bool true
structure Op where
  k : Int
  o : Int
  a : Int
  v : Int
def encOp (x : Op) : List Value := [.int .i64 x.k, .int .i64 x.o, .int .i64 x.a, .int .i64 x.v]
theorem encOp_len (x : Op) : (encOp x).length = 4 := rfl
theorem appMany {h : AH} {a : Option Addr} {n c m : Nat} {cs xs : List Value} {x : Value} {F : List Asr} (hh : H h (aOw 1 a n c cs :: F)) (hx : newCells h 1 x = some (m, xs)) (hm : xs.length = m) (hr : n + m < 1000000) :
    ∃ a' c' h', appE 1 8 (.slice a n c) x h = some (.slice a' (n + m) c', h') ∧ H h' (aOw 1 a' (n + m) c' (cs ++ xs) :: F) := by
  have ho := hh.ow
  cases m with
  | zero =>
    obtain rfl : xs = [] := List.eq_nil_of_length_eq_zero hm
    have e1 : roomOk (n + 0) 8 = true := roomOk_t (by omega) (by omega)
    rw [List.append_nil]
    generalize hcs : cs = cs' at ho
    cases ho with
    | nil =>
      subst hcs
      exact ⟨none, 0, h, by simp only [appE, hx, Option.bind_some, e1]; rfl, hh⟩
    | @mk b _ _ hb hl hn =>
      subst hcs
      have h5 : Nat.blt opn opn = false := by show Nat.blt 4611686018427387904 4611686018427387904 = false; rfl
      have h3 : Nat.ble (0 + (n + 0) * 1) cs.length = true := Nat.ble_eq_true_of_le (by omega)
      have hst : h.st b (0 + n * 1) [] = some (h.set b (some (.cells (AH.setL cs (0 + n * 1) []) true false 1))) := AH.st_of hb (by simp; omega)
      refine ⟨some ⟨b, 0, none⟩, opn, h.set b (some (.cells (AH.setL cs (0 + n * 1) []) true false 1)), by simp only [appE, hx, Option.bind_some, e1, List.length_nil, Nat.zero_mul, Nat.beq_refl, Bool.and_self, cond_true, h5, cond_false, hb, h3, hst], ?_⟩
      refine H.run hh (Nat.le_refl _) (fun b' hb' hne => AH.get_set_ne _ (fun e => hne (by subst e; rfl))) (fun b' hb' => .inl hb') (fun b' hb' => ?_) fun h'' hg => ?_
      · obtain rfl : b = b' := hb'
        exact ⟨by rw [AH.get_set_eq]; rfl, hn⟩
      · refine .mk ?_ hl (hg b rfl).2
        rw [(hg b rfl).1, AH.get_set_eq]; rfl
  | succ m =>
    obtain ⟨h', e1, o1, n1, g1⟩ := ho.app (by_ := 8) hx (by omega) (by decide) (by omega) (by omega) (by omega)
    refine ⟨_, _, h', e1, H.run hh (by omega) g1 (fun b hb => .inr ?_) (fun b hb => o1.live b hb) fun h'' hg => o1.same2 hg⟩
    obtain rfl : h.n = b := hb
    exact Nat.le_refl _
theorem of_snoc (j o : Int) (i : Int) (w : List En) : actsN (ofO j (w ++ [⟨0, o, i⟩])) = if j = o then actsN (ofO j w) ++ [i] else actsN (ofO j w) := by
  unfold ofO actsN
  rw [List.filter_append]
  by_cases h : j = o
  · subst h; simp
  · have : ¬ o = j := fun e => h e.symm
    simp [h, this]
theorem of_not (j o : Int) (w : List En) : ofO j (notO o w) = if j = o then [] else ofO j w := by
  unfold ofO notO
  rw [List.filter_filter]
  by_cases h : j = o
  · subst h
    rw [if_pos rfl, List.filter_eq_nil_iff]
    intro x _
    by_cases e : x.o = j <;> simp [e]
  · rw [if_neg h]
    apply List.filter_congr
    intro x _
    by_cases e : x.o = j
    · have : ¬ x.o = o := fun q => h (e.symm.trans q)
      simp [e, h]
    · simp [e]
theorem of_len (o : Int) (w : List En) : (ofO o w).length + (notO o w).length = w.length := by
  unfold ofO notO
  induction w with
  | nil => rfl
  | cons x l ih => by_cases e : x.o = o <;> simp [e] at ih ⊢ <;> omega
structure OI (V : Nat) (w d : List En) (L : List WE) (got want : List Int) (i : Nat) : Prop where
  vi : V ≤ i
  sz : w.length + d.length + got.length ≤ i
  lk : ∀ j, lkW L j = actsN (ofO j w)
  wa : want = got ++ actsN d
  so : Srt d
  v0 : ∀ x ∈ d, 0 ≤ x.v
  v1 : ∀ x ∈ d, x.v ≤ (V : Nat)
section
variable {V : Nat} {w d : List En} {L : List WE} {got want : List Int} {i : Nat}
theorem OI.step (h : OI V w d L got want i) : OI V w d L got want (i + 1) := ⟨by have := h.vi; omega, by have := h.sz; omega, h.lk, h.wa, h.so, h.v0, h.v1⟩
theorem OI.later (h : OI V w d L got want i) (o : Int) {y : WE} (hy : y.k = o) (hl : y.l = lkW L o ++ [(i : Int)]) : OI V (w ++ [⟨0, o, (i : Nat)⟩]) d (putW o y L) got want (i + 1) := by
  refine ⟨by have := h.vi; omega, by have := h.sz; simp; omega, fun j => ?_, h.wa, h.so, h.v0, h.v1⟩
  rw [lk_put hy, of_snoc, hl, h.lk, h.lk]
  by_cases c : j = o
  · subst c; simp
  · rw [if_neg c, if_neg c]
theorem OI.drop (h : OI V w d L got want i) (o : Int) : OI V (notO o w) d (putW o ⟨o, none, 0, []⟩ L) got want (i + 1) := by
  refine ⟨by have := h.vi; omega, by have := h.sz; have := notO_le o w; omega, fun j => ?_, h.wa, h.so, h.v0, h.v1⟩
  rw [lk_put (i := o) (y := ⟨o, none, 0, []⟩) rfl, of_not, h.lk]
  by_cases c : j = o
  · rw [if_pos c, if_pos c]; rfl
  · rw [if_neg c, if_neg c]
theorem srt_app {v : Int} {l : List En} (hs : Srt d) (hv : ∀ x ∈ d, x.v ≤ v) (hl : ∀ x ∈ l, x.v = v) : Srt (d ++ l) := by
  intro i j x y hij hx hy
  by_cases c : j < d.length
  · rw [List.getElem?_append_left (by omega)] at hx
    rw [List.getElem?_append_left c] at hy
    exact hs i j x y hij hx hy
  · rw [List.getElem?_append_right (by omega)] at hy
    rw [hl y (List.mem_of_getElem? hy)]
    by_cases e : i < d.length
    · rw [List.getElem?_append_left e] at hx
      exact hv x (List.mem_of_getElem? hx)
    · rw [List.getElem?_append_right (by omega)] at hx
      rw [hl x (List.mem_of_getElem? hx)]; exact Int.le_refl _
abbrev com (V : Nat) (o : Int) (w : List En) : List En := (ofO o w).map fun x => { x with v := ((V + 1 : Nat) : Int) }
theorem com_v {o : Int} : ∀ x ∈ com V o w, x.v = ((V + 1 : Nat) : Int) := fun x hx => by
  obtain ⟨y, _, rfl⟩ := List.mem_map.mp hx
  rfl
theorem OI.srt (h : OI V w d L got want i) (o : Int) : Srt (d ++ com V o w) := srt_app h.so (fun x hx => by have := h.v1 x hx; omega) com_v
theorem OI.commit (h : OI V w d L got want i) (o : Int) : OI (V + 1) (notO o w) (d ++ com V o w) (putW o ⟨o, none, 0, []⟩ L) got (want ++ lkW L o) (i + 1) := by
  refine ⟨by have := h.vi; omega, ?_, fun j => ?_, ?_, h.srt o, fun x hx => ?_, fun x hx => ?_⟩
  · have := h.sz; have := of_len o w; simp; omega
  · rw [lk_put (i := o) (y := ⟨o, none, 0, []⟩) rfl, of_not, h.lk]
    by_cases c : j = o
    · rw [if_pos c, if_pos c]; rfl
    · rw [if_neg c, if_neg c]
  · rw [h.wa, h.lk]; simp [actsN, List.map_map, Function.comp_def]
  · rcases List.mem_append.mp hx with q | q
    · exact h.v0 x q
    · rw [com_v x q]; omega
  · rcases List.mem_append.mp hx with q | q
    · have := h.v1 x q; omega
    · rw [com_v x q]; exact Int.le_refl _
theorem OI.take (h : OI V w d L got want i) : OI V w [] L (got ++ actsN d) want (i + 1) := by
  refine ⟨by have := h.vi; omega, by have := h.sz; simp [actsN]; omega, h.lk, by rw [h.wa]; simp [actsN], fun i j x y _ hx => by simp at hx, fun x hx => by simp at hx, fun x hx => by simp at hx⟩
end
section
variable {q qb gb mb : Nat} {ops : List Op} {a1 : Option Addr} {c3 : Nat}
theorem hz26 : zeroOf Try.prog 26 = some (.slice none 0 0) := by kernel_rfl
abbrev Ps (q qb gb mb : Nat) (w d : List En) (L : List WE) (got want : List Int) (a14 : Option Addr) (c16 : Nat) (a1 : Option Addr) (ops : List Op) : List Asr :=
  [Cs qb [ptrN q] 1, aGot gb got, aQu q w d, aMS mb L, aOw 1 a14 want.length c16 (want.flatMap encI), aRds [(a1, ops.flatMap encOp)]]
abbrev fT (qb gb : Nat) : Option (FuncId × List Value × List Value) := some (k_law19_AfterOrder_1, [], [ptrN qb, ptrN gb])
theorem hasT : hasBody Try.prog k_law19_AfterOrder_1 = true := by kernel_rfl
theorem tell {h : AH} {V : Nat} {w d : List En} {L : List WE} {got want : List Int} {i : Nat} {a14 : Option Addr} {c16 : Nat} {G : List Asr} (hi : i < 1000) (oi : OI V w d L got want i) (wh : H h (Ps q qb gb mb w d L got want a14 c16 a1 ops ++ G)) :
    Ok (C k_law19_AfterOrder_1 ([] ++ [.int .i64 (V : Nat)] ++ [ptrN qb, ptrN gb]) h) fun v h' => v = .bool true ∧ H h' (Ps q qb gb mb w [] L (got ++ actsN d) want a14 c16 a1 ops ++ G) := by
  have := oi.sz
  exact takeAll oi.so (by omega) (by omega) (by omega) oi.v0 oi.v1 wh
theorem j1_ok {h : AH} {V : Nat} {w d : List En} {L : List WE} {got want : List Int} {i : Nat} {a14 : Option Addr} {c16 : Nat} {G : List Asr} (hi : i < 1000) (oi : OI V w d L got want i) (wh : H h (Ps q qb gb mb w d L got want a14 c16 a1 ops ++ G)) :
    Ok (law19_AfterOrder_j1 (fT qb gb) (V : Nat) h (some ⟨gb, 0, none⟩) a14 want.length c16) Q := by
  refine Ok.le ?_ law19_AfterOrder_j1_le
  simp only [fnQ_sm, Option.bind_some, hasT, cond_t]
  refine Ok.bind (tell hi oi wh) ?_
  rintro _ h2 ⟨rfl, w2⟩
  simp only [asB_b, Option.bind_some, cond_t]
  obtain ⟨ga, gc, w3⟩ := gOpen (w2.u1)
  have hwa := oi.wa
  have hs := oi.sz
  have wl : want.length < 4611686018427387904 := by rw [hwa]; simp [actsN]; omega
  have r1 : Rd h2 ga (want.flatMap encI) := by rw [hwa]; exact (w3.u1).ow.rd
  have r2 : Rd h2 a14 (want.flatMap encI) := (w3.mv 5 rfl : H h2 (aOw 1 a14 want.length c16 (want.flatMap encI) :: _)).ow.rd
  have e := sameInts_eq gc c16 r1 r2 (n1 := (got ++ actsN d).length) (n2 := want.length) (by rw [hwa]) rfl wl
  simp only [AH.ldS_of (o := 0) (w3.g 0 rfl) rfl, Option.bind_some, e, asB_b, decide_true, cond_t]
  simp only [C_closed (f := k_law19_awake) rfl h2, Option.bind_some, asB_b]
  exact Ok.some rfl
theorem veqS (a : Option Addr) (n c : Nat) : veqO (some (.slice a n c)) (some (.slice a n c)) = true := by simp [veqO, veq, veq2, veq1]
theorem veqI (n : Int) : veqO (some (.int .i64 n)) (some (.int .i64 n)) = true := by simp [veqO, veq, veq2, veq1]
theorem asS_sl (x : WE) : asS (sl x) = some (x.a, x.l.length, x.c) := rfl
theorem rd4 {h : AH} {a : Option Addr} {l : List Op} (hr : Rd h a (l.flatMap encOp)) {k : Nat} {x : Op} (hx : l[k]? = some x) : ∃ ad, a = some ad ∧ h.ldI .i64 ad.block (ad.off + k * 4) = some x.k ∧ h.ldI .i64 ad.block (ad.off + k * 4 + 1) = some x.o ∧ h.ldI .i64 ad.block (ad.off + k * 4 + 2) = some x.a ∧ h.ldI .i64 ad.block (ad.off + k * 4 + 3) = some x.v := by
  have c0 : (l.flatMap encOp)[k * 4 + 0]? = some (.int .i64 x.k) := by rw [flat_get_some encOp_len (by decide) hx]; rfl
  have c1 : (l.flatMap encOp)[k * 4 + 1]? = some (.int .i64 x.o) := by rw [flat_get_some encOp_len (by decide) hx]; rfl
  have c2 : (l.flatMap encOp)[k * 4 + 2]? = some (.int .i64 x.a) := by rw [flat_get_some encOp_len (by decide) hx]; rfl
  have c3 : (l.flatMap encOp)[k * 4 + 3]? = some (.int .i64 x.v) := by rw [flat_get_some encOp_len (by decide) hx]; rfl
  rcases hr with e | ⟨ad, c, op, ro, e, ha, h1, h2, h3⟩
  · rw [e] at c0; simp at c0
  · refine ⟨ad, ha, AH.ldI_of h1 (h3 _ _ c0), AH.ldI_of h1 ?_, AH.ldI_of h1 ?_, AH.ldI_of h1 ?_⟩
    · rw [Nat.add_assoc]; exact h3 _ _ c1
    · rw [Nat.add_assoc]; exact h3 _ _ c2
    · rw [Nat.add_assoc]; exact h3 _ _ c3
theorem law_loop : ∀ (n i : Nat) (h : AH) (V : Nat) (w d : List En) (L : List WE) (got want : List Int) (a14 : Option Addr) (c16 : Nat) (G : List Asr), 300 - i = n → i ≤ 300 → OI V w d L got want i → H h (Ps q qb gb mb w d L got want a14 c16 a1 ops ++ G) →
    Ok (law19_AfterOrder_L1 ops.length a1 (some ⟨qb, 0, none⟩) c3 (some mb) a14 want.length c16 (some ⟨gb, 0, none⟩) (V : Nat) (fT qb gb) (i : Nat) h) Q := by
  intro n
  induction n with
  | zero =>
    intro i h V w d L got want a14 c16 G hn hi oi wh
    refine Ok.le ?_ law19_AfterOrder_L1_le
    have J := j1_ok (by omega) oi wh
    rw [dec_f (show ¬((i : Nat) : Int) < 300 by omega), cond_f]
    by_cases c : ((i : Nat) : Int) < ((ops.length : Nat) : Int)
    · rw [dec_t c, cond_t]; exact J
    · rw [dec_f c, cond_f]; exact J
  | succ n ih =>
    intro i h V w d L got want a14 c16 G hn hi oi wh
    refine Ok.le ?_ law19_AfterOrder_L1_le
    by_cases c : i < ops.length
    rotate_left
    · rw [dec_f (by omega), cond_f]; exact j1_ok (by omega) oi wh
    rw [dec_t (by omega), cond_t, dec_t (by omega), cond_t]
    obtain ⟨x, hx⟩ : ∃ x, ops[i]? = some x := ⟨_, List.getElem?_eq_getElem c⟩
    refine Ok.le ?_ law19_AfterOrder_j7_le
    have hii : inB ((i : Nat) : Int) ops.length = true := inB_t (by omega) (by omega)
    obtain ⟨ad, ha, x1, x2, x3, x4⟩ := rd4 ((wh.mv 5 rfl : H h (aRds [(a1, ops.flatMap encOp)] :: _)).rds (p := (a1, ops.flatMap encOp)) (by simp)) hx
    subst ha
    obtain ⟨h28, s28, w28, n28⟩ := wh.var [.int .i64 0, .int .i64 0, .int .i64 0, .int .i64 0] [.int .i64 x.k, .int .i64 x.o, .int .i64 x.a, .int .i64 x.v] 4 rfl
    have g28 := w28.get
    obtain ⟨pk0, pk1⟩ := pickM_bd x.o 4 (by decide)
    have ew : IntKind.wrap .i64 (1 + pickM x.o 4) = 1 + pickM x.o 4 := wrap64 (by omega) (by omega)
    simp only [Option.bind_some, hii, cond_t, Int.toNat_natCast, x1, x2, x3, x4, s28, AH.ldI_of (k := .i64) (o := 0 + 0) g28 rfl, AH.ldI_of (k := .i64) (o := 0 + 1) g28 rfl, pick_eq x.o 4 (by decide) (by decide), asI_i64, ew]
    generalize hwho : 1 + pickM x.o 4 = who
    have wh2 : H h28 (Ps q qb gb mb w d L got want a14 c16 (some ad) ops ++ Cs h.n [.int .i64 x.k, .int .i64 x.o, .int .i64 x.a, .int .i64 x.v] 4 :: G) := w28.pm [1, 2, 3, 4, 5, 6, 0]
    generalize (Cs h.n [.int .i64 x.k, .int .i64 x.o, .int .i64 x.a, .int .i64 x.v] 4 :: G) = G2 at wh2
    have hsz := oi.sz
    have hvi := oi.vi
    have hlk := oi.lk who
    have hll : (lkW L who).length ≤ i := by rw [hlk]; simp only [actsN, List.length_map]; have := ofO_le who w; omega
    have J2 : ∀ (h : AH) (V : Nat) (w d : List En) (L : List WE) (got want : List Int) (a14 : Option Addr) (c16 : Nat) (G : List Asr), OI V w d L got want (i + 1) → H h (Ps q qb gb mb w d L got want a14 c16 (some ad) ops ++ G) →
        Ok (law19_AfterOrder_j2 ops.length (some ad) (some ⟨qb, 0, none⟩) c3 (some mb) (some ⟨gb, 0, none⟩) (fT qb gb) (i : Nat) a14 want.length c16 (V : Nat) h) Q := fun h V w d L got want a14 c16 G oi wh => by
      refine Ok.le ?_ law19_AfterOrder_j2_le
      rw [wadd1 (by omega)]
      exact ih (i + 1) h V w d L got want a14 c16 G (by omega) (by omega) oi wh
    have hle : (ofO who w).length = (getW who L).l.length := by have := congrArg List.length hlk; simpa [lkW, actsN] using this.symm
    have hsm : i < 300 := by omega
    have J6 : ∀ b34, Ok (law19_AfterOrder_j6 (some ⟨qb, 0, none⟩) (i : Nat) (some mb) ops.length (some ad) c3 (some ⟨gb, 0, none⟩) (fT qb gb) a14 want.length c16 (V : Nat) x.k who b34 h28) Q := fun b34 => by
      refine Ok.le ?_ law19_AfterOrder_j6_le
      cases b34 with
      | true =>
        rw [cond_t]
        simp only [Option.bind_some, AH.ldP_of (o := 0) (wh2.g 0 rfl) rfl]
        refine Ok.bind (later_ok (by omega) (by omega) who ((i : Nat) : Int) (wh2.mv 2 rfl)) ?_
        rintro _ h3 ⟨rfl, w3⟩
        have e3 : laterM w d who ((i : Nat) : Int) = (0, w ++ [⟨0, who, ((i : Nat) : Int)⟩]) := by unfold laterM; rw [if_neg (by omega), if_neg (by omega)]
        rw [e3] at w3 ⊢
        dsimp only at w3
        simp only [asI_i64, Option.bind_some, decide_true, Bool.not_true, cond_f]
        refine Ok.le ?_ law19_AfterOrder_j3_le
        obtain ⟨es, b, a', h45, h47, q1, q2, q3, q4, w4⟩ := addW hz26 who ((i : Nat) : Int) (by omega) (w3.mv 3 rfl : H h3 (aMS mb L :: _))
        simp only [q1, Option.bind_some, q2, asS_sl, q3, asS_s, q4]
        refine J2 h47 V _ d _ got want a14 c16 G2 (oi.later who (y := ⟨who, a', opn, (getW who L).l ++ [((i : Nat) : Int)]⟩) rfl rfl) ?_
        exact w4.pm [2, 3, 1, 0, 4, 5]
      | false =>
        rw [cond_f]
        by_cases k2 : x.k = 2
        · rw [dec_t k2, cond_t]
          simp only [Option.bind_some, AH.ldP_of (o := 0) (wh2.g 0 rfl) rfl, wadd1 (show V < 1000000000 by omega)]
          refine Ok.bind (commit_ok (o := who) (v := ((V + 1 : Nat) : Int)) (by omega) (by omega) (by omega) (by omega) (oi.srt who) (wh2.mv 2 rfl)) ?_
          rintro _ h3 ⟨rfl, w3⟩
          have w3m : H h3 (aMS mb L :: aQu q (notO who w) (d ++ com V who w) :: Cs qb [ptrN q] 1 :: aGot gb got :: aOw 1 a14 want.length c16 (want.flatMap encI) :: aRds [(some ad, ops.flatMap encOp)] :: G2) := w3.mv 3 rfl
          obtain ⟨es, b, q1, q2, q3⟩ := rdW hz26 who w3m
          simp only [asTu_t, hdO_c, asI_i64, Option.bind_some, List.isEmpty_nil, cond_t, decide_true, Bool.not_true, cond_f, q1, q2, asS_sl, hle]
          refine Ok.le ?_ law19_AfterOrder_j4_le
          simp only [q1, q2, Option.bind_some, asS_sl]
          have hwl : want.length ≤ i := by rw [oi.wa]; simp [actsN]; omega
          obtain ⟨a', c', h64, e64, w64⟩ := appMany (w3m.mv 4 rfl : H h3 (aOw 1 a14 want.length c16 (want.flatMap encI) :: _)) q3 (by rw [flat_len encI_len, Nat.mul_one]) (by omega)
          have e64' : appE 1 8 (.slice a14 want.length c16) (.slice (getW who L).a (getW who L).l.length (getW who L).c) h3 = some (.slice a' (want.length + (lkW L who).length) c', h64) := e64
          obtain ⟨h66, q5, w66⟩ := nilW who (w64.u1)
          simp only [e64', asS_s, q5, Option.bind_some]
          have key := J2 h66 (V + 1) (notO who w) (d ++ com V who w) (putW who ⟨who, none, 0, []⟩ L) got (want ++ lkW L who) a' c' G2 (oi.commit who)
          have w67 : H h66 (Ps q qb gb mb (notO who w) (d ++ com V who w) (putW who ⟨who, none, 0, []⟩ L) got (want ++ lkW L who) a' c' (some ad) ops ++ G2) := by
            have w68 := w66.pm [3, 4, 2, 0, 1, 5]
            rw [← List.length_append, ← List.flatMap_append] at w68
            exact w68
          have key2 := key w67
          rw [List.length_append] at key2
          exact key2
        · rw [dec_f k2, cond_f]
          by_cases k3 : x.k = 3
          · rw [dec_t k3, cond_t]
            simp only [Option.bind_some, AH.ldP_of (o := 0) (wh2.g 0 rfl) rfl]
            refine Ok.bind (drop_ok (o := who) (by omega) (wh2.mv 2 rfl)) ?_
            rintro _ h3 ⟨rfl, w3⟩
            obtain ⟨es, b, q1, q2, _⟩ := rdW hz26 who (w3.mv 3 rfl : H h3 (aMS mb L :: _))
            obtain ⟨es', b', q1', q2', _⟩ := rdW hz26 who (wh2.mv 3 rfl : H h28 (aMS mb L :: _))
            simp only [asI_i64, q1, q2, q1', q2', Option.bind_some, asS_sl, veqS, veqI, cond_t, hle, decide_true, Bool.not_true, cond_f]
            refine Ok.le ?_ law19_AfterOrder_j5_le
            obtain ⟨h4, q5, w4⟩ := nilW who (w3.mv 3 rfl : H h3 (aMS mb L :: _))
            simp only [q5, Option.bind_some]
            exact J2 h4 V _ d _ got want a14 c16 G2 (oi.drop who) (w4.pm [2, 3, 1, 0, 4, 5])
          · rw [dec_f k3, cond_f]
            by_cases k4 : x.k = 4
            · rw [dec_t k4, cond_t]
              simp only [fnQ_sm, Option.bind_some, hasT, cond_t]
              refine Ok.bind (tell (by omega) oi wh2) ?_
              rintro _ h3 ⟨rfl, w3⟩
              simp only [asB_b, Option.bind_some, Bool.not_true, cond_f]
              exact J2 h3 V w [] L _ want a14 c16 G2 oi.take w3
            · rw [dec_f k4, cond_f]
              exact J2 h28 V w d L got want a14 c16 G2 oi.step wh2
    generalize decide (x.k = 0) = b0
    cases b0 with
    | true => rw [cond_t]; exact J6 _
    | false =>
      rw [cond_f]
      generalize decide (x.k = 1) = b1
      cases b1 with
      | true => rw [cond_t]; exact J6 _
      | false =>
        rw [cond_f]
        generalize decide (x.k = 5) = b5
        cases b5 with
        | true => rw [cond_t]; exact J6 _
        | false => rw [cond_f]; exact J6 _
end
theorem main (h : AH) {a1 : Option Addr} {l2 c3 : Nat} {ops : List Op} (hs : SlIn h encOp (fun _ => True) a1 l2 c3 ops) : Ok (C k_law19_AfterOrder [.slice a1 l2 c3] h) Q := by
  have w : H h [aRds [(a1, ops.flatMap encOp)]] := H.args (by
    intro p hp
    simp only [List.mem_cons, List.not_mem_nil, or_false] at hp
    subst hp
    exact hs.rd)
  obtain rfl := hs.len
  refine Ok.le ?_ law19_AfterOrder_le
  unfold F_law19_AfterOrder
  have w1 := w.push (.cells [.bool true, .slice none 0 0, .slice none 0 0] false false 3)
  have e : C k_after_New_int [] h = some (.pointer (some ⟨h.n, 0, none⟩), h.push (.cells [.bool true, .slice none 0 0, .slice none 0 0] false false 3)) := after_New_int_le _ rfl
  simp only [e, Option.bind_some, asP_p]
  generalize h.push (.cells [.bool true, .slice none 0 0, .slice none 0 0] false false 3) = h1 at w1 ⊢
  have w2 : H h1 (Qb h.n none ([] : List En).length 0 none ([] : List En).length 0 :: aOs none ([] : List En).length 0 (([] : List En).flatMap encN) :: aOs none ([] : List En).length 0 (([] : List En).flatMap encN) :: aRds [(a1, ops.flatMap encOp)] :: []) := (os_nil (os_nil w1)).pm [2, 0, 1]
  have w3 := qClose w2
  obtain ⟨h8, s8, w8, n8⟩ := w3.var [.pointer none] [ptrN h.n] 1 rfl
  simp only [s8, Option.bind_some, AH.ldP_of (o := 0) w8.get rfl, Option.isNone_some, cond_f]
  refine Ok.le ?_ law19_AfterOrder_j8_le
  have w11 := w8.push (.map [] 0)
  generalize hh11 : h8.push (.map [] 0) = h11 at w11 ⊢
  have w12 := w11.push (.cells [.slice none 0 0] false false 1)
  generalize hh12 : h11.push (.cells [.slice none 0 0] false false 1) = h12 at w12
  simp only [hh12]
  have w13 : H h12 (Cs h11.n [.slice none ([] : List Int).length 0] 1 :: aOw 1 none ([] : List Int).length 0 (([] : List Int).flatMap encI) :: Pt h8.n (.map [] 0) :: Cs h1.n [ptrN h.n] 1 :: aQu h.n [] [] :: aRds [(a1, ops.flatMap encOp)] :: []) := (w12.owNil 1).u1
  have w14 := gClose w13
  have w15 : H h12 (Pt h8.n (.map [] 0) :: Lay (([] : List WE).map fun x => aOw 1 x.a x.l.length x.c (x.l.flatMap encI)) :: aGot h11.n [] :: Cs h1.n [ptrN h.n] 1 :: aQu h.n [] [] :: aRds [(a1, ops.flatMap encOp)] :: []) :=
    (H.cls (L := []) (F := Pt h8.n (.map [] 0) :: aGot h11.n [] :: Cs h1.n [ptrN h.n] 1 :: aQu h.n [] [] :: aRds [(a1, ops.flatMap encOp)] :: []) w14.u1).u1
  have w16 := msClose (L := []) (es := []) rfl w15
  have w17 : H h12 (Ps h.n h1.n h11.n h8.n [] [] [] [] [] none 0 a1 ops ++ []) := (w16.owNil 1).pm [3, 2, 4, 1, 0, 5]
  exact law_loop 300 0 h12 0 [] [] [] [] [] none 0 [] rfl (by decide) ⟨Nat.le_refl _, Nat.le_refl _, fun j => rfl, rfl, fun i j x y _ hx => by simp at hx, fun x hx => by simp at hx, fun x hx => by simp at hx⟩ w17
end Order
end Go.Lg.Try
