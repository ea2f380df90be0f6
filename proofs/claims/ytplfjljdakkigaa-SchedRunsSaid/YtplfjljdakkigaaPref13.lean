/- What the document's scheduler (ref13.World) comes to. In work. -/
import Derived.Test.YtplfjljdakkigaaFref13
import Derived.Test.YtplfjljdakkigaaPschedGood
namespace Go.Lg.Try
set_option linter.unusedVariables false
set_option linter.unusedSimpArgs false
open Go Go.Proofs
/-- a row of whole numbers grown by append alone, one of them turned -/
theorem ow_seti {h : AH} {a : Option Addr} {n c : Nat} {l : List Int} (ho : Ow h 1 a n c (l.flatMap encI)) {i : Nat} {x : Int} (hx : l[i]? = some x) (y : Int) : ∃ ad, a = some ad ∧ n = l.length ∧ h.ldI .i64 ad.block (ad.off + i * 1) = some x ∧ ∃ h', h.st ad.block (ad.off + i * 1) [.int .i64 y] = some h' ∧ Ow h' 1 a n c ((l.set i y).flatMap encI) ∧ h'.n = h.n ∧ ∀ b, ¬ blk a b → h'.get b = h.get b := by
  have hi : i < l.length := (List.getElem?_eq_some_iff.mp hx).1
  have hlen : n = l.length := by have := ho.len; rw [flat_len encI_len] at this; omega
  have e1 : ∃ ad, a = some ad ∧ h.ldI .i64 ad.block (ad.off + i * 1) = some x := by
    obtain ⟨ad, had, hrd⟩ := ho.rd.some (by
      intro he
      have := congrArg List.length he
      rw [flat_len encI_len] at this
      have h0 : l.length * 1 = 0 := this
      omega)
    refine ⟨ad, had, ?_⟩
    have := (hrd (i * 1 + 0)).1 .i64 x (by rw [flat_get_some encI_len (by omega) hx]; rfl)
    exact this
  obtain ⟨ad, had, hld⟩ := e1
  refine ⟨ad, had, hlen, hld, ?_⟩
  generalize hcs : l.flatMap encI = cs at ho
  cases ho with
  | nil => cases had
  | @mk b _ _ hb hl hn =>
    obtain rfl := Option.some.inj had
    have hcl : cs.length = l.length * 1 := by rw [← hcs, flat_len encI_len]
    refine ⟨_, AH.st_of hb (by rw [hcl]; simp; omega), ?_, rfl, fun b' hb' => AH.get_set_ne _ (fun e => hb' e.symm)⟩
    have hset : AH.setL cs (0 + i * 1) [.int .i64 y] = (l.set i y).flatMap encI := by
      rw [← hcs, Nat.zero_add]
      have := flat_set (enc := encI) encI_len (i := i) (j := 0) (vs := [.int .i64 y]) (a := x) (a' := y) hx (by simp) rfl
      simpa using this
    rw [hset]
    exact .mk (AH.get_set_eq _ _ _) (by rw [flat_len encI_len]; simpa using hlen.symm) hn
/-- a row that append has grown out of nil or out of []int{} -/
inductive OwZ (h : AH) : Option Addr → Nat → Nat → List Value → Prop
  | ow {a : Option Addr} {n c : Nat} {cs : List Value} : Ow h 1 a n c cs → OwZ h a n c cs
  | z {b : Nat} : h.get b = some (.cells [] false false 1) → b < h.n → OwZ h (some ⟨b, 0, none⟩) 0 0 []
theorem OwZ.same {h h' : AH} {a : Option Addr} {n c : Nat} {cs : List Value} (ho : OwZ h a n c cs) (hg : ∀ b, b < h.n → blk a b → h'.get b = h.get b) (hn : h.n ≤ h'.n) : OwZ h' a n c cs := by
  cases ho with
  | ow h1 => exact .ow (ow_same h1 hg hn)
  | z h1 h2 => exact .z (by rw [hg _ h2 rfl]; exact h1) (Nat.lt_of_lt_of_le h2 hn)
theorem OwZ.len {h : AH} {a : Option Addr} {n c : Nat} {cs : List Value} (ho : OwZ h a n c cs) : cs.length = n * 1 := by
  cases ho with
  | ow h1 => exact h1.len
  | z _ _ => rfl
theorem OwZ.rd {h : AH} {a : Option Addr} {n c : Nat} {cs : List Value} (ho : OwZ h a n c cs) : Rd h a cs := by
  cases ho with
  | ow h1 => exact h1.rd
  | z _ _ => exact .inl rfl
theorem OwZ.lt {h : AH} {a : Option Addr} {n c : Nat} {cs : List Value} (ho : OwZ h a n c cs) : ∀ b, blk a b → b < h.n := by
  cases ho with
  | ow h1 =>
    cases h1 with
    | nil => intro b hb; cases hb
    | mk hb hl hn => intro b hb; obtain rfl : _ = b := hb; exact hn
  | z h1 h2 => intro b hb; obtain rfl : _ = b := hb; exact h2
/-- more behind it -/
theorem OwZ.app {h : AH} {by_ : Nat} {a : Option Addr} {n c m : Nat} {cs xs : List Value} {x : Value} (ho : OwZ h a n c cs) (hx : newCells h 1 x = some (m, xs)) (hm : xs.length = m * 1) (hm0 : 0 < m)
    (hr : (n + m) * by_ ≤ 1099511627776) (hr2 : n + m ≤ 1099511627776) : ∃ h', appE 1 by_ (.slice a n c) x h = some (.slice (some ⟨h.n, 0, none⟩) (n + m) opn, h') ∧ Ow h' 1 (some ⟨h.n, 0, none⟩) (n + m) opn (cs ++ xs) ∧ h'.n = h.n + 1 ∧
      ∀ b, b < h.n → ¬ blk a b → h'.get b = h.get b := by
  cases ho with
  | ow h1 => exact h1.app hx hm (by omega) hm0 hr hr2
  | @z b h1 h2 =>
    have e1 : Nat.ble (0 + m) 0 = false := by
      cases hq : Nat.ble (0 + m) 0 with
      | false => rfl
      | true => have := Nat.le_of_ble_eq_true hq; omega
    have e2 : ldRow h b 0 (0 * 1) = some [] := by
      simp only [ldRow, h1, Nat.zero_mul]
      rfl
    refine ⟨h.push (.cells xs true false 1), ?_, .mk (by rw [AH.get_push_eq]; rfl) (by simpa using hm) (by simp [AH.push]), rfl, fun b hb _ => AH.get_push_ne _ (by omega)⟩
    simp only [appE, hx, Option.bind_some, roomOk_t hr hr2, Bool.true_and, hm, Nat.beq_refl, cond_true, blt_small (show 0 < 4611686018427387904 by omega), e1, cond_false, e2, List.nil_append]
/-- nothing more behind it -/
theorem OwZ.app0 {h : AH} {by_ : Nat} {a : Option Addr} {n c : Nat} {cs : List Value} {x : Value} (ho : OwZ h a n c cs) (hx : newCells h 1 x = some (0, [])) (hr : n * by_ ≤ 1099511627776) (hr2 : n ≤ 1099511627776) :
    ∃ h', appE 1 by_ (.slice a n c) x h = some (.slice a n c, h') ∧ OwZ h' a n c cs ∧ h'.n = h.n ∧ ∀ b, h'.get b = h.get b := by
  cases ho with
  | ow h1 =>
    cases h1 with
    | nil =>
      have e3 : Nat.beq ([] : List Value).length (0 * 1) = true := rfl
      exact ⟨h, by simp only [appE, hx, Option.bind_some, Nat.add_zero, roomOk_t hr hr2, Bool.true_and, e3, cond_true]; rfl, .ow .nil, rfl, fun _ => rfl⟩
    | @mk b _ _ hb hl hn =>
      have hst : h.st b (0 + n * 1) [] = some (h.set b (some (.cells cs true false 1))) := by rw [AH.st_of hb (by simp [hl])]; rfl
      have e1 : Nat.ble (0 + n * 1) cs.length = true := Nat.ble_eq_true_of_le (by rw [hl]; omega)
      have hg : ∀ b', (h.set b (some (.cells cs true false 1))).get b' = h.get b' := fun b' => by
        by_cases e : b' = b
        · subst e; rw [AH.get_set_eq, hb]
        · rw [AH.get_set_ne _ e]
      refine ⟨h.set b (some (.cells cs true false 1)), ?_, .ow (.mk (by rw [hg]; exact hb) hl hn), rfl, hg⟩
      have h5 : Nat.blt opn opn = false := by show Nat.blt 4611686018427387904 4611686018427387904 = false; rfl
      have e3 : Nat.beq ([] : List Value).length (0 * 1) = true := rfl
      simp only [appE, hx, Option.bind_some, Nat.add_zero, roomOk_t hr hr2, Bool.true_and, e3, cond_true, h5, cond_false, hb, Nat.beq_refl, e1, hst]
  | @z b h1 h2 =>
    have hst : h.st b (0 + 0 * 1) [] = some (h.set b (some (.cells [] false false 1))) := by rw [AH.st_of h1 (by simp)]; rfl
    have hg : ∀ b', (h.set b (some (.cells [] false false 1))).get b' = h.get b' := fun b' => by
      by_cases e : b' = b
      · subst e; rw [AH.get_set_eq, h1]
      · rw [AH.get_set_ne _ e]
    refine ⟨h.set b (some (.cells [] false false 1)), ?_, .z (by rw [hg]; exact h1) h2, rfl, hg⟩
    have e3 : Nat.beq ([] : List Value).length (0 * 1) = true := rfl
    have e4 : Nat.ble (0 + 0) 0 = true := rfl
    have e5 : Nat.blt 0 opn = true := by show Nat.blt 0 4611686018427387904 = true; rfl
    simp only [appE, hx, Option.bind_some, Nat.add_zero, roomOk_t hr hr2, Bool.true_and, e3, cond_true, e5, e4, hst]
/-- the slices of a World: states, steps, line, told -/
structure WA where
  sa : Option Addr
  sn : Nat
  sc : Nat
  na : Option Addr
  nn : Nat
  nc : Nat
  la : Option Addr
  ln : Nat
  lc : Nat
  ta : Option Addr
  tn : Nat
  tc : Nat
def apart (a b : Option Addr) : Prop := ∀ x, blk a x → ¬ blk b x
structure WR (h : AH) (wb : Nat) (pa : Option Addr) (pn pc : Nat) (A : WA) (sts sns line : List Int) (told : List Bool) (woken : Bool) (now : Int) : Prop where
  g : h.get wb = some (.cells [.slice pa pn pc, .slice A.sa A.sn A.sc, .slice A.na A.nn A.nc, .slice A.la A.ln A.lc, .slice A.ta A.tn A.tc, .bool woken, .int .i64 now] false false 7)
  so : Ow h 1 A.sa A.sn A.sc (sts.flatMap encI)
  no : Ow h 1 A.na A.nn A.nc (sns.flatMap encI)
  lo : OwZ h A.la A.ln A.lc (line.flatMap encI)
  to : Ow h 1 A.ta A.tn A.tc (told.map Value.bool)
  wn : wb < h.n
  w1 : ¬ blk A.sa wb
  w2 : ¬ blk A.na wb
  w3 : ¬ blk A.la wb
  w4 : ¬ blk A.ta wb
  d1 : apart A.sa A.na
  d2 : apart A.sa A.la
  d3 : apart A.sa A.ta
  d4 : apart A.na A.la
  d5 : apart A.na A.ta
  d6 : apart A.la A.ta
namespace WR
variable {h h' : AH} {wb : Nat} {pa : Option Addr} {pn pc : Nat} {A : WA} {sts sns line : List Int} {told : List Bool} {woken : Bool} {now : Int}
theorem slen (hw : WR h wb pa pn pc A sts sns line told woken now) : A.sn = sts.length := by have := hw.so.len; rw [flat_len encI_len] at this; omega
theorem llen (hw : WR h wb pa pn pc A sts sns line told woken now) : A.ln = line.length := by have := hw.lo.len; rw [flat_len encI_len] at this; omega
theorem c0 (hw : WR h wb pa pn pc A sts sns line told woken now) : h.ldS wb (0 + 0) = some (pa, pn, pc) := AH.ldS_of hw.g rfl
theorem c1 (hw : WR h wb pa pn pc A sts sns line told woken now) : h.ldS wb (0 + 1) = some (A.sa, A.sn, A.sc) := AH.ldS_of hw.g rfl
theorem c2 (hw : WR h wb pa pn pc A sts sns line told woken now) : h.ldS wb (0 + 2) = some (A.na, A.nn, A.nc) := AH.ldS_of hw.g rfl
theorem c3 (hw : WR h wb pa pn pc A sts sns line told woken now) : h.ldS wb (0 + 3) = some (A.la, A.ln, A.lc) := AH.ldS_of hw.g rfl
theorem c4 (hw : WR h wb pa pn pc A sts sns line told woken now) : h.ldS wb (0 + 4) = some (A.ta, A.tn, A.tc) := AH.ldS_of hw.g rfl
theorem c5 (hw : WR h wb pa pn pc A sts sns line told woken now) : h.ldB wb (0 + 5) = some woken := AH.ldB_of hw.g rfl
theorem c6 (hw : WR h wb pa pn pc A sts sns line told woken now) : h.ldI .i64 wb (0 + 6) = some now := AH.ldI_of hw.g rfl
theorem same (hw : WR h wb pa pn pc A sts sns line told woken now) (hg : ∀ b, b < h.n → (b = wb ∨ blk A.sa b ∨ blk A.na b ∨ blk A.la b ∨ blk A.ta b) → h'.get b = h.get b) (hn : h.n ≤ h'.n) : WR h' wb pa pn pc A sts sns line told woken now :=
  ⟨by rw [hg wb hw.wn (.inl rfl)]; exact hw.g, ow_same hw.so (fun b h1 h2 => hg b h1 (.inr (.inl h2))) hn, ow_same hw.no (fun b h1 h2 => hg b h1 (.inr (.inr (.inl h2)))) hn, hw.lo.same (fun b h1 h2 => hg b h1 (.inr (.inr (.inr (.inl h2))))) hn, ow_same hw.to (fun b h1 h2 => hg b h1 (.inr (.inr (.inr (.inr h2))))) hn, Nat.lt_of_lt_of_le hw.wn hn, hw.w1, hw.w2, hw.w3, hw.w4, hw.d1, hw.d2, hw.d3, hw.d4, hw.d5, hw.d6⟩
theorem fr (hw : WR h wb pa pn pc A sts sns line told woken now) (hf : Fr [] h h') : WR h' wb pa pn pc A sts sns line told woken now := hw.same (fun b h1 _ => hf.g b h1 (by simp)) hf.n
/-- one of its own plain fields turned -/
theorem fld (hw : WR h wb pa pn pc A sts sns line told woken now) (woken' : Bool) (now' : Int) : WR (h.set wb (some (.cells [.slice pa pn pc, .slice A.sa A.sn A.sc, .slice A.na A.nn A.nc, .slice A.la A.ln A.lc, .slice A.ta A.tn A.tc, .bool woken', .int .i64 now'] false false 7))) wb pa pn pc A sts sns line told woken' now' :=
  ⟨AH.get_set_eq _ _ _, ow_same hw.so (fun b _ h2 => AH.get_set_ne _ (fun e => hw.w1 (e ▸ h2))) (Nat.le_refl _), ow_same hw.no (fun b _ h2 => AH.get_set_ne _ (fun e => hw.w2 (e ▸ h2))) (Nat.le_refl _), hw.lo.same (fun b _ h2 => AH.get_set_ne _ (fun e => hw.w3 (e ▸ h2))) (Nat.le_refl _), ow_same hw.to (fun b _ h2 => AH.get_set_ne _ (fun e => hw.w4 (e ▸ h2))) (Nat.le_refl _), hw.wn, hw.w1, hw.w2, hw.w3, hw.w4, hw.d1, hw.d2, hw.d3, hw.d4, hw.d5, hw.d6⟩
end WR
section
variable {h h' : AH} {wb : Nat} {pa : Option Addr} {pn pc : Nat} {A : WA} {sts sns line : List Int} {told : List Bool} {woken : Bool} {now : Int}
/-- a state turned -/
theorem WR.setS (hw : WR h wb pa pn pc A sts sns line told woken now) {i : Nat} {x : Int} (hx : sts[i]? = some x) (y : Int) : ∃ ad, A.sa = some ad ∧ h.ldI .i64 ad.block (ad.off + i * 1) = some x ∧ ∃ h', h.st ad.block (ad.off + i * 1) [.int .i64 y] = some h' ∧ WR h' wb pa pn pc A (sts.set i y) sns line told woken now ∧ h'.n = h.n ∧ ∀ b, ¬ blk A.sa b → h'.get b = h.get b := by
  obtain ⟨ad, e1, _, e2, h', e3, e4, e5, e6⟩ := ow_seti hw.so hx y
  have hn : h.n ≤ h'.n := by omega
  refine ⟨ad, e1, e2, h', e3, ⟨by rw [e6 wb hw.w1]; exact hw.g, e4, ow_same hw.no (fun b _ hb => e6 b (fun h1 => hw.d1 b h1 hb)) hn, hw.lo.same (fun b _ hb => e6 b (fun h1 => hw.d2 b h1 hb)) hn, ow_same hw.to (fun b _ hb => e6 b (fun h1 => hw.d3 b h1 hb)) hn, by rw [e5]; exact hw.wn, hw.w1, hw.w2, hw.w3, hw.w4, hw.d1, hw.d2, hw.d3, hw.d4, hw.d5, hw.d6⟩, e5, e6⟩
/-- a count of steps turned -/
theorem WR.setN (hw : WR h wb pa pn pc A sts sns line told woken now) {i : Nat} {x : Int} (hx : sns[i]? = some x) (y : Int) : ∃ ad, A.na = some ad ∧ A.nn = sns.length ∧ h.ldI .i64 ad.block (ad.off + i * 1) = some x ∧ ∃ h', h.st ad.block (ad.off + i * 1) [.int .i64 y] = some h' ∧ WR h' wb pa pn pc A sts (sns.set i y) line told woken now ∧ h'.n = h.n ∧ ∀ b, ¬ blk A.na b → h'.get b = h.get b := by
  obtain ⟨ad, e1, e0, e2, h', e3, e4, e5, e6⟩ := ow_seti hw.no hx y
  have hn : h.n ≤ h'.n := by omega
  refine ⟨ad, e1, e0, e2, h', e3, ⟨by rw [e6 wb hw.w2]; exact hw.g, ow_same hw.so (fun b _ hb => e6 b (fun h1 => hw.d1 b hb h1)) hn, e4, hw.lo.same (fun b _ hb => e6 b (fun h1 => hw.d4 b h1 hb)) hn, ow_same hw.to (fun b _ hb => e6 b (fun h1 => hw.d5 b h1 hb)) hn, by rw [e5]; exact hw.wn, hw.w1, hw.w2, hw.w3, hw.w4, hw.d1, hw.d2, hw.d3, hw.d4, hw.d5, hw.d6⟩, e5, e6⟩
theorem ow_lt {h : AH} {sz : Nat} {a : Option Addr} {n c : Nat} {cs : List Value} (ho : Ow h sz a n c cs) : ∀ b, blk a b → b < h.n := by
  cases ho with
  | nil => intro b hb; cases hb
  | mk hb hl hn => intro b hb; obtain rfl : _ = b := hb; exact hn
/-- one more on the line -/
theorem WR.pushL (hw : WR h wb pa pn pc A sts sns line told woken now) (x : Int) (hl : line.length < 1000000) : ∃ la' ln' lc' h1, appE 1 8 (.slice A.la A.ln A.lc) (.slice (some ⟨h.n, 0, none⟩) 1 1) (h.push (.cells [.int .i64 x] false false 1)) = some (.slice la' ln' lc', h1) ∧ ∃ h2, h1.st wb (0 + 3) [.slice la' ln' lc'] = some h2 ∧
    WR h2 wb pa pn pc { A with la := la', ln := ln', lc := lc' } sts sns (line ++ [x]) told woken now ∧ h.n ≤ h2.n ∧ (∀ b, b < h.n → b ≠ wb → ¬ blk A.la b → h2.get b = h.get b) ∧ (∀ b, blk la' b → h.n ≤ b) := by
  have hlen := hw.llen
  obtain ⟨h1, e1, e2, e3, e4⟩ := (hw.lo.same (fun b hb _ => (Fr.push [] h (.cells [.int .i64 x] false false 1)).g b hb (by simp)) (Fr.push [] h (.cells [.int .i64 x] false false 1)).n).app (by_ := 8) (newCells_one (c := 1) (AH.get_push_eq h _) rfl) (by rfl) (by omega) (by omega) (by omega)
  have hpn : (h.push (.cells [.int .i64 x] false false 1)).n = h.n + 1 := rfl
  have hwn := hw.wn
  have keep : ∀ b, b < h.n → ¬ blk A.la b → h1.get b = h.get b := fun b hb hnb => by rw [e4 b (by omega) hnb, AH.get_push_ne _ (by omega)]
  have g1 : h1.get wb = some (.cells [.slice pa pn pc, .slice A.sa A.sn A.sc, .slice A.na A.nn A.nc, .slice A.la A.ln A.lc, .slice A.ta A.tn A.tc, .bool woken, .int .i64 now] false false 7) := by rw [keep wb hwn hw.w3]; exact hw.g
  have st2 : h1.st wb (0 + 3) [.slice (some ⟨h.n + 1, 0, none⟩) (A.ln + 1) opn] = some (h1.set wb (some (.cells [.slice pa pn pc, .slice A.sa A.sn A.sc, .slice A.na A.nn A.nc, .slice (some ⟨h.n + 1, 0, none⟩) (A.ln + 1) opn, .slice A.ta A.tn A.tc, .bool woken, .int .i64 now] false false 7))) := AH.st_of g1 (by simp)
  have keep2 : ∀ b, b < h.n → b ≠ wb → ¬ blk A.la b → (h1.set wb (some (.cells [.slice pa pn pc, .slice A.sa A.sn A.sc, .slice A.na A.nn A.nc, .slice (some ⟨h.n + 1, 0, none⟩) (A.ln + 1) opn, .slice A.ta A.tn A.tc, .bool woken, .int .i64 now] false false 7))).get b = h.get b := fun b hb hne hnb => by rw [AH.get_set_ne _ hne]; exact keep b hb hnb
  have hn2 : h.n ≤ (h1.set wb (some (.cells [.slice pa pn pc, .slice A.sa A.sn A.sc, .slice A.na A.nn A.nc, .slice (some ⟨h.n + 1, 0, none⟩) (A.ln + 1) opn, .slice A.ta A.tn A.tc, .bool woken, .int .i64 now] false false 7))).n := by rw [AH.n_set]; omega
  have fresh : ∀ {o : Option Addr}, (∀ b, blk o b → b < h.n) → apart o (some ⟨h.n + 1, 0, none⟩) := fun ho b hb hb2 => by
    have := ho b hb
    have : h.n + 1 = b := hb2
    omega
  refine ⟨_, _, _, h1, e1, _, st2, ⟨AH.get_set_eq _ _ _, ow_same hw.so (fun b hb hbl => keep2 b hb (fun e => hw.w1 (e ▸ hbl)) (hw.d2 b hbl)) hn2, ow_same hw.no (fun b hb hbl => keep2 b hb (fun e => hw.w2 (e ▸ hbl)) (hw.d4 b hbl)) hn2, ?_, ow_same hw.to (fun b hb hbl => keep2 b hb (fun e => hw.w4 (e ▸ hbl)) (fun h1 => hw.d6 b h1 hbl)) hn2, Nat.lt_of_lt_of_le hwn hn2, hw.w1, hw.w2, fun e => ?_, hw.w4, hw.d1, fresh (ow_lt hw.so), hw.d3, fresh (ow_lt hw.no), hw.d5, fun b hb hb2 => fresh (ow_lt hw.to) b hb2 hb⟩, hn2, keep2, fun b hb => ?_⟩
  · have : (line ++ [x]).flatMap encI = line.flatMap encI ++ [.int .i64 x] := by simp [List.flatMap_append, encI]
    rw [this]
    exact .ow (ow_same e2 (fun b hb hbl => AH.get_set_ne _ (fun e => by
      have : h.n + 1 = b := hbl
      omega)) (Nat.le_refl _))
  · have : h.n + 1 = wb := e
    omega
  · have : h.n + 1 = b := hb
    omega
/-- one more state -/
theorem WR.pushS (hw : WR h wb pa pn pc A sts sns line told woken now) (x : Int) (hl : sts.length < 1000000) : ∃ la' ln' lc' h1, appE 1 8 (.slice A.sa A.sn A.sc) (.slice (some ⟨h.n, 0, none⟩) 1 1) (h.push (.cells [.int .i64 x] false false 1)) = some (.slice la' ln' lc', h1) ∧ ∃ h2, h1.st wb (0 + 1) [.slice la' ln' lc'] = some h2 ∧
    WR h2 wb pa pn pc { A with sa := la', sn := ln', sc := lc' } (sts ++ [x]) sns line told woken now ∧ h.n ≤ h2.n ∧ (∀ b, b < h.n → b ≠ wb → ¬ blk A.sa b → h2.get b = h.get b) ∧ (∀ b, blk la' b → h.n ≤ b) := by
  have hlen := hw.slen
  obtain ⟨h1, e1, e2, e3, e4⟩ := (hw.so.fr (Fr.push [] h (.cells [.int .i64 x] false false 1)) (by simp)).app (by_ := 8) (newCells_one (c := 1) (AH.get_push_eq h _) rfl) (by rfl) (by omega) (by omega) (by omega) (by omega)
  have hpn : (h.push (.cells [.int .i64 x] false false 1)).n = h.n + 1 := rfl
  have hwn := hw.wn
  have keep : ∀ b, b < h.n → ¬ blk A.sa b → h1.get b = h.get b := fun b hb hnb => by rw [e4 b (by omega) hnb, AH.get_push_ne _ (by omega)]
  have g1 : h1.get wb = some (.cells [.slice pa pn pc, .slice A.sa A.sn A.sc, .slice A.na A.nn A.nc, .slice A.la A.ln A.lc, .slice A.ta A.tn A.tc, .bool woken, .int .i64 now] false false 7) := by rw [keep wb hwn hw.w1]; exact hw.g
  have st2 : h1.st wb (0 + 1) [.slice (some ⟨h.n + 1, 0, none⟩) (A.sn + 1) opn] = some (h1.set wb (some (.cells [.slice pa pn pc, .slice (some ⟨h.n + 1, 0, none⟩) (A.sn + 1) opn, .slice A.na A.nn A.nc, .slice A.la A.ln A.lc, .slice A.ta A.tn A.tc, .bool woken, .int .i64 now] false false 7))) := AH.st_of g1 (by simp)
  have keep2 : ∀ b, b < h.n → b ≠ wb → ¬ blk A.sa b → (h1.set wb (some (.cells [.slice pa pn pc, .slice (some ⟨h.n + 1, 0, none⟩) (A.sn + 1) opn, .slice A.na A.nn A.nc, .slice A.la A.ln A.lc, .slice A.ta A.tn A.tc, .bool woken, .int .i64 now] false false 7))).get b = h.get b := fun b hb hne hnb => by rw [AH.get_set_ne _ hne]; exact keep b hb hnb
  have hn2 : h.n ≤ (h1.set wb (some (.cells [.slice pa pn pc, .slice (some ⟨h.n + 1, 0, none⟩) (A.sn + 1) opn, .slice A.na A.nn A.nc, .slice A.la A.ln A.lc, .slice A.ta A.tn A.tc, .bool woken, .int .i64 now] false false 7))).n := by rw [AH.n_set]; omega
  have fresh : ∀ {o : Option Addr}, (∀ b, blk o b → b < h.n) → apart o (some ⟨h.n + 1, 0, none⟩) := fun ho b hb hb2 => by
    have := ho b hb
    have : h.n + 1 = b := hb2
    omega
  refine ⟨_, _, _, h1, e1, _, st2, ⟨AH.get_set_eq _ _ _, ?_, ow_same hw.no (fun b hb hbl => keep2 b hb (fun e => hw.w2 (e ▸ hbl)) (fun h1 => hw.d1 b h1 hbl)) hn2, hw.lo.same (fun b hb hbl => keep2 b hb (fun e => hw.w3 (e ▸ hbl)) (fun h1 => hw.d2 b h1 hbl)) hn2, ow_same hw.to (fun b hb hbl => keep2 b hb (fun e => hw.w4 (e ▸ hbl)) (fun h1 => hw.d3 b h1 hbl)) hn2, Nat.lt_of_lt_of_le hwn hn2, fun e => ?_, hw.w2, hw.w3, hw.w4, fun b hb hb2 => fresh (ow_lt hw.no) b hb2 hb, fun b hb hb2 => fresh hw.lo.lt b hb2 hb, fun b hb hb2 => fresh (ow_lt hw.to) b hb2 hb, hw.d4, hw.d5, hw.d6⟩, hn2, keep2, fun b hb => ?_⟩
  · have : (sts ++ [x]).flatMap encI = sts.flatMap encI ++ [.int .i64 x] := by simp [List.flatMap_append, encI]
    rw [this]
    exact ow_same e2 (fun b hb hbl => AH.get_set_ne _ (fun e => by
      have : h.n + 1 = b := hbl
      omega)) (Nat.le_refl _)
  · have : h.n + 1 = wb := e
    omega
  · have : h.n + 1 = b := hb
    omega
/-- one more count of steps -/
theorem WR.pushN (hw : WR h wb pa pn pc A sts sns line told woken now) (x : Int) (hl : sns.length < 1000000) : ∃ la' ln' lc' h1, appE 1 8 (.slice A.na A.nn A.nc) (.slice (some ⟨h.n, 0, none⟩) 1 1) (h.push (.cells [.int .i64 x] false false 1)) = some (.slice la' ln' lc', h1) ∧ ∃ h2, h1.st wb (0 + 2) [.slice la' ln' lc'] = some h2 ∧
    WR h2 wb pa pn pc { A with na := la', nn := ln', nc := lc' } sts (sns ++ [x]) line told woken now ∧ h.n ≤ h2.n ∧ (∀ b, b < h.n → b ≠ wb → ¬ blk A.na b → h2.get b = h.get b) ∧ (∀ b, blk la' b → h.n ≤ b) := by
  have hlen : A.nn = sns.length := by have := hw.no.len; rw [flat_len encI_len] at this; omega
  obtain ⟨h1, e1, e2, e3, e4⟩ := (hw.no.fr (Fr.push [] h (.cells [.int .i64 x] false false 1)) (by simp)).app (by_ := 8) (newCells_one (c := 1) (AH.get_push_eq h _) rfl) (by rfl) (by omega) (by omega) (by omega) (by omega)
  have hpn : (h.push (.cells [.int .i64 x] false false 1)).n = h.n + 1 := rfl
  have hwn := hw.wn
  have keep : ∀ b, b < h.n → ¬ blk A.na b → h1.get b = h.get b := fun b hb hnb => by rw [e4 b (by omega) hnb, AH.get_push_ne _ (by omega)]
  have g1 : h1.get wb = some (.cells [.slice pa pn pc, .slice A.sa A.sn A.sc, .slice A.na A.nn A.nc, .slice A.la A.ln A.lc, .slice A.ta A.tn A.tc, .bool woken, .int .i64 now] false false 7) := by rw [keep wb hwn hw.w2]; exact hw.g
  have st2 : h1.st wb (0 + 2) [.slice (some ⟨h.n + 1, 0, none⟩) (A.nn + 1) opn] = some (h1.set wb (some (.cells [.slice pa pn pc, .slice A.sa A.sn A.sc, .slice (some ⟨h.n + 1, 0, none⟩) (A.nn + 1) opn, .slice A.la A.ln A.lc, .slice A.ta A.tn A.tc, .bool woken, .int .i64 now] false false 7))) := AH.st_of g1 (by simp)
  have keep2 : ∀ b, b < h.n → b ≠ wb → ¬ blk A.na b → (h1.set wb (some (.cells [.slice pa pn pc, .slice A.sa A.sn A.sc, .slice (some ⟨h.n + 1, 0, none⟩) (A.nn + 1) opn, .slice A.la A.ln A.lc, .slice A.ta A.tn A.tc, .bool woken, .int .i64 now] false false 7))).get b = h.get b := fun b hb hne hnb => by rw [AH.get_set_ne _ hne]; exact keep b hb hnb
  have hn2 : h.n ≤ (h1.set wb (some (.cells [.slice pa pn pc, .slice A.sa A.sn A.sc, .slice (some ⟨h.n + 1, 0, none⟩) (A.nn + 1) opn, .slice A.la A.ln A.lc, .slice A.ta A.tn A.tc, .bool woken, .int .i64 now] false false 7))).n := by rw [AH.n_set]; omega
  have fresh : ∀ {o : Option Addr}, (∀ b, blk o b → b < h.n) → apart o (some ⟨h.n + 1, 0, none⟩) := fun ho b hb hb2 => by
    have := ho b hb
    have : h.n + 1 = b := hb2
    omega
  refine ⟨_, _, _, h1, e1, _, st2, ⟨AH.get_set_eq _ _ _, ow_same hw.so (fun b hb hbl => keep2 b hb (fun e => hw.w1 (e ▸ hbl)) (hw.d1 b hbl)) hn2, ?_, hw.lo.same (fun b hb hbl => keep2 b hb (fun e => hw.w3 (e ▸ hbl)) (fun h1 => hw.d4 b h1 hbl)) hn2, ow_same hw.to (fun b hb hbl => keep2 b hb (fun e => hw.w4 (e ▸ hbl)) (fun h1 => hw.d5 b h1 hbl)) hn2, Nat.lt_of_lt_of_le hwn hn2, hw.w1, fun e => ?_, hw.w3, hw.w4, fresh (ow_lt hw.so), hw.d2, hw.d3, fun b hb hb2 => fresh hw.lo.lt b hb2 hb, fun b hb hb2 => fresh (ow_lt hw.to) b hb2 hb, hw.d6⟩, hn2, keep2, fun b hb => ?_⟩
  · have : (sns ++ [x]).flatMap encI = sns.flatMap encI ++ [.int .i64 x] := by simp [List.flatMap_append, encI]
    rw [this]
    exact ow_same e2 (fun b hb hbl => AH.get_set_ne _ (fun e => by
      have : h.n + 1 = b := hbl
      omega)) (Nat.le_refl _)
  · have : h.n + 1 = wb := e
    omega
  · have : h.n + 1 = b := hb
    omega
/-- one more answer -/
theorem WR.pushT (hw : WR h wb pa pn pc A sts sns line told woken now) (x : Bool) (hl : told.length < 1000000) : ∃ la' ln' lc' h1, appE 1 1 (.slice A.ta A.tn A.tc) (.slice (some ⟨h.n, 0, none⟩) 1 1) (h.push (.cells [.bool x] false false 1)) = some (.slice la' ln' lc', h1) ∧ ∃ h2, h1.st wb (0 + 4) [.slice la' ln' lc'] = some h2 ∧
    WR h2 wb pa pn pc { A with ta := la', tn := ln', tc := lc' } sts sns line (told ++ [x]) woken now ∧ h.n ≤ h2.n ∧ (∀ b, b < h.n → b ≠ wb → ¬ blk A.ta b → h2.get b = h.get b) ∧ (∀ b, blk la' b → h.n ≤ b) := by
  have hlen : A.tn = told.length := by have := hw.to.len; rw [List.length_map] at this; omega
  obtain ⟨h1, e1, e2, e3, e4⟩ := (hw.to.fr (Fr.push [] h (.cells [.bool x] false false 1)) (by simp)).app (by_ := 1) (newCells_one (c := 1) (AH.get_push_eq h _) rfl) (by rfl) (by omega) (by omega) (by omega) (by omega)
  have hpn : (h.push (.cells [.bool x] false false 1)).n = h.n + 1 := rfl
  have hwn := hw.wn
  have keep : ∀ b, b < h.n → ¬ blk A.ta b → h1.get b = h.get b := fun b hb hnb => by rw [e4 b (by omega) hnb, AH.get_push_ne _ (by omega)]
  have g1 : h1.get wb = some (.cells [.slice pa pn pc, .slice A.sa A.sn A.sc, .slice A.na A.nn A.nc, .slice A.la A.ln A.lc, .slice A.ta A.tn A.tc, .bool woken, .int .i64 now] false false 7) := by rw [keep wb hwn hw.w4]; exact hw.g
  have st2 : h1.st wb (0 + 4) [.slice (some ⟨h.n + 1, 0, none⟩) (A.tn + 1) opn] = some (h1.set wb (some (.cells [.slice pa pn pc, .slice A.sa A.sn A.sc, .slice A.na A.nn A.nc, .slice A.la A.ln A.lc, .slice (some ⟨h.n + 1, 0, none⟩) (A.tn + 1) opn, .bool woken, .int .i64 now] false false 7))) := AH.st_of g1 (by simp)
  have keep2 : ∀ b, b < h.n → b ≠ wb → ¬ blk A.ta b → (h1.set wb (some (.cells [.slice pa pn pc, .slice A.sa A.sn A.sc, .slice A.na A.nn A.nc, .slice A.la A.ln A.lc, .slice (some ⟨h.n + 1, 0, none⟩) (A.tn + 1) opn, .bool woken, .int .i64 now] false false 7))).get b = h.get b := fun b hb hne hnb => by rw [AH.get_set_ne _ hne]; exact keep b hb hnb
  have hn2 : h.n ≤ (h1.set wb (some (.cells [.slice pa pn pc, .slice A.sa A.sn A.sc, .slice A.na A.nn A.nc, .slice A.la A.ln A.lc, .slice (some ⟨h.n + 1, 0, none⟩) (A.tn + 1) opn, .bool woken, .int .i64 now] false false 7))).n := by rw [AH.n_set]; omega
  have fresh : ∀ {o : Option Addr}, (∀ b, blk o b → b < h.n) → apart o (some ⟨h.n + 1, 0, none⟩) := fun ho b hb hb2 => by
    have := ho b hb
    have : h.n + 1 = b := hb2
    omega
  refine ⟨_, _, _, h1, e1, _, st2, ⟨AH.get_set_eq _ _ _, ow_same hw.so (fun b hb hbl => keep2 b hb (fun e => hw.w1 (e ▸ hbl)) (hw.d3 b hbl)) hn2, ow_same hw.no (fun b hb hbl => keep2 b hb (fun e => hw.w2 (e ▸ hbl)) (hw.d5 b hbl)) hn2, hw.lo.same (fun b hb hbl => keep2 b hb (fun e => hw.w3 (e ▸ hbl)) (hw.d6 b hbl)) hn2, ?_, Nat.lt_of_lt_of_le hwn hn2, hw.w1, hw.w2, hw.w3, fun e => ?_, hw.d1, hw.d2, fresh (ow_lt hw.so), hw.d4, fresh (ow_lt hw.no), fresh hw.lo.lt⟩, hn2, keep2, fun b hb => ?_⟩
  · rw [List.map_append]
    exact ow_same e2 (fun b hb hbl => AH.get_set_ne _ (fun e => by
      have : h.n + 1 = b := hbl
      omega)) (Nat.le_refl _)
  · have : h.n + 1 = wb := e
    omega
  · have : h.n + 1 = b := hb
    omega
/-- another line -/
theorem WR.newL (hw : WR h wb pa pn pc A sts sns line told woken now) {h2 : AH} (hn : h.n ≤ h2.n) (hg : ∀ b, b < h.n → h2.get b = h.get b) {Y : Option Addr} {n c : Nat} {line' : List Int} (hY : OwZ h2 Y n c (line'.flatMap encI)) (hf : ∀ b, blk Y b → h.n ≤ b) :
    ∃ h3, h2.st wb (0 + 3) [.slice Y n c] = some h3 ∧ WR h3 wb pa pn pc { A with la := Y, ln := n, lc := c } sts sns line' told woken now ∧ h3.n = h2.n ∧ ∀ b, b ≠ wb → h3.get b = h2.get b := by
  have hwn := hw.wn
  have g1 : h2.get wb = some (.cells [.slice pa pn pc, .slice A.sa A.sn A.sc, .slice A.na A.nn A.nc, .slice A.la A.ln A.lc, .slice A.ta A.tn A.tc, .bool woken, .int .i64 now] false false 7) := by rw [hg wb hwn]; exact hw.g
  have st2 : h2.st wb (0 + 3) [.slice Y n c] = some (h2.set wb (some (.cells [.slice pa pn pc, .slice A.sa A.sn A.sc, .slice A.na A.nn A.nc, .slice Y n c, .slice A.ta A.tn A.tc, .bool woken, .int .i64 now] false false 7))) := AH.st_of g1 (by simp)
  have keep2 : ∀ b, b < h.n → b ≠ wb → (h2.set wb (some (.cells [.slice pa pn pc, .slice A.sa A.sn A.sc, .slice A.na A.nn A.nc, .slice Y n c, .slice A.ta A.tn A.tc, .bool woken, .int .i64 now] false false 7))).get b = h.get b := fun b hb hne => by rw [AH.get_set_ne _ hne]; exact hg b hb
  have hn2 : h.n ≤ (h2.set wb (some (.cells [.slice pa pn pc, .slice A.sa A.sn A.sc, .slice A.na A.nn A.nc, .slice Y n c, .slice A.ta A.tn A.tc, .bool woken, .int .i64 now] false false 7))).n := by rw [AH.n_set]; omega
  have fresh : ∀ {o : Option Addr}, (∀ b, blk o b → b < h.n) → apart o Y := fun ho b hb hb2 => by
    have := ho b hb
    have := hf b hb2
    omega
  refine ⟨_, st2, ⟨AH.get_set_eq _ _ _, ow_same hw.so (fun b hb hbl => keep2 b hb (fun e => hw.w1 (e ▸ hbl))) hn2, ow_same hw.no (fun b hb hbl => keep2 b hb (fun e => hw.w2 (e ▸ hbl))) hn2, hY.same (fun b hb hbl => AH.get_set_ne _ (fun e => by have := hf b hbl; omega)) (Nat.le_refl _), ow_same hw.to (fun b hb hbl => keep2 b hb (fun e => hw.w4 (e ▸ hbl))) hn2, Nat.lt_of_lt_of_le hwn hn2, hw.w1, hw.w2, fun e => (by have := hf _ e; omega), hw.w4, hw.d1, fresh (ow_lt hw.so), hw.d3, fresh (ow_lt hw.no), hw.d5, fun b hb hb2 => fresh (ow_lt hw.to) b hb2 hb⟩, rfl, fun b hb => AH.get_set_ne _ hb⟩
theorem flatI : ∀ l : List Int, l.flatMap encI = l.map (Value.int .i64)
  | [] => rfl
  | x :: l => by rw [List.flatMap_cons, flatI l]; rfl
theorem WR.cutL (hw : WR h wb pa pn pc A sts sns line told woken now) {k : Nat} (hk : k < line.length) (hl : line.length < 100000) : ∃ b, A.la = some ⟨b, 0, none⟩ ∧ b < h.n ∧
    (∀ g : AH, g.get b = h.get b → slcE 1 A.la A.ln A.lc none (some (.int .i64 (k : Int))) none g = some (.slice (some ⟨b, 0 + 0 * 1, none⟩) (k - 0) opn, g)) ∧
    (∀ g : AH, g.get b = h.get b → slcE 1 A.la A.ln A.lc (some (.int .i64 ((k : Int) + 1))) none none g = some (.slice (some ⟨b, 0 + (k + 1) * 1, none⟩) (A.ln - (k + 1)) opn, g)) ∧
    ∃ X n c h1, appE 1 8 (.slice (some ⟨h.n, 0, none⟩) 0 0) (.slice (some ⟨b, 0 + 0 * 1, none⟩) (k - 0) opn) (h.push (.cells [] false false 1)) = some (.slice X n c, h1) ∧ h.n ≤ h1.n ∧ (∀ b', b' < h.n → h1.get b' = h.get b') ∧
    ∃ Y n' c' h2, appE 1 8 (.slice X n c) (.slice (some ⟨b, 0 + (k + 1) * 1, none⟩) (A.ln - (k + 1)) opn) h1 = some (.slice Y n' c', h2) ∧ h.n ≤ h2.n ∧ (∀ b', b' < h.n → h2.get b' = h.get b') ∧ OwZ h2 Y n' c' ((line.eraseIdx k).flatMap encI) ∧ ∀ b', blk Y b' → h.n ≤ b' := by
  have hln := hw.llen
  have hlo := hw.lo
  generalize hcs : line.flatMap encI = cs at hlo
  have hcl : cs.length = line.length := by rw [← hcs, flat_len encI_len]; omega
  generalize hla : A.la = la at *
  generalize hlc : A.lc = lc at *
  have hlo' : ∃ b, la = some ⟨b, 0, none⟩ ∧ lc = opn ∧ h.get b = some (.cells cs true false 1) ∧ b < h.n := by
    clear hla hlc hw
    generalize A.ln = ln at *
    cases hlo with
    | z h1 h2 => simp at hcl; omega
    | ow h1 =>
      cases h1 with
      | nil => simp at hcl; omega
      | mk hb hl hn => exact ⟨_, rfl, rfl, hb, hn⟩
  obtain ⟨b, rfl, rfl, hb, hbn⟩ := hlo'
  have hb10 : Nat.beq 1 0 = false := rfl
  have htop : (cs.length - 0) / 1 = cs.length := by simp
  have row : ∀ (g : AH) (o m : Nat) (c : Nat), g.get b = h.get b → o + m ≤ cs.length → newCells g 1 (.slice (some ⟨b, o, none⟩) m c) = some (m, (cs.drop o).take m) := fun g o m c hg hle => by
    simp only [newCells, ldRow, hg, hb, Nat.mul_one]
    rw [Nat.ble_eq_true_of_le hle]; rfl
  refine ⟨b, rfl, hbn, fun g hg => ?_, fun g hg => ?_, ?_⟩
  · simp only [slcE, blt_opn, cond_f, hg, hb, Nat.beq_refl, cond_t, htop, hb10]
    rw [bnd rfl (by omega)]; rfl
  · simp only [slcE, blt_opn, cond_f, hg, hb, Nat.beq_refl, cond_t, htop, hb10]
    rw [bnd0, bnd (k := k + 1) (by omega) (by omega)]
  · have hz : OwZ (h.push (.cells [] false false 1)) (some ⟨h.n, 0, none⟩) 0 0 [] := .z (AH.get_push_eq _ _) (by simp [AH.push])
    have hp : ∀ b', b' < h.n → (h.push (.cells [] false false 1)).get b' = h.get b' := fun b' hb' => AH.get_push_ne _ (by omega)
    have step1 : ∃ X n c h1, appE 1 8 (.slice (some ⟨h.n, 0, none⟩) 0 0) (.slice (some ⟨b, 0 + 0 * 1, none⟩) (k - 0) opn) (h.push (.cells [] false false 1)) = some (.slice X n c, h1) ∧ h.n + 1 ≤ h1.n ∧ (∀ b', b' < h.n → h1.get b' = h.get b') ∧ OwZ h1 X n c (cs.take k) ∧ n = k ∧ (∀ b', blk X b' → h.n ≤ b') := by
      have r := row (h.push (.cells [] false false 1)) (0 + 0 * 1) (k - 0) opn (hp b hbn) (by omega)
      by_cases h0 : k = 0
      · subst h0
        obtain ⟨h1, u1, u2, u3, u4⟩ := hz.app0 (by_ := 8) r (by omega) (by omega)
        exact ⟨_, _, _, h1, u1, by rw [u3]; simp [AH.push], fun b' hb' => by rw [u4]; exact hp b' hb', u2, rfl, fun b' hb' => by obtain rfl : h.n = b' := hb'; exact Nat.le_refl _⟩
      · obtain ⟨h1, u1, u2, u3, u4⟩ := hz.app (by_ := 8) r (by simp; omega) (by omega) (by omega) (by omega)
        refine ⟨_, _, _, h1, u1, by rw [u3]; simp [AH.push], fun b' hb' => by rw [u4 b' (by simp [AH.push]; omega) (fun e => by obtain rfl : h.n = b' := e; omega)]; exact hp b' hb', .ow ?_, by omega, fun b' hb' => by obtain rfl : (h.push (.cells [] false false 1)).n = b' := hb'; simp [AH.push]⟩
        simpa using u2
    obtain ⟨X, n, c, h1, a1, a2, a3, a4, rfl, a6⟩ := step1
    refine ⟨X, n, c, h1, a1, by omega, a3, ?_⟩
    have r := row h1 (0 + (n + 1) * 1) (A.ln - (n + 1)) opn (a3 b hbn) (by omega)
    have he : (line.eraseIdx n).flatMap encI = cs.take n ++ cs.drop (n + 1) := by
      rw [← hcs, List.eraseIdx_eq_take_drop_succ, List.flatMap_append]
      rw [flatI, flatI, flatI, List.map_take, List.map_drop]
    by_cases h0 : A.ln - (n + 1) = 0
    · rw [h0] at r ⊢
      have hr0 : (cs.drop (0 + (n + 1) * 1)).take 0 = [] := by simp
      rw [hr0] at r
      obtain ⟨h2, u1, u2, u3, u4⟩ := a4.app0 (by_ := 8) r (by omega) (by omega)
      refine ⟨_, _, _, h2, u1, by omega, fun b' hb' => by rw [u4]; exact a3 b' hb', ?_, a6⟩
      have : cs.drop (n + 1) = [] := List.drop_eq_nil_of_le (by omega)
      rw [he, this, List.append_nil]; exact u2
    · obtain ⟨h2, u1, u2, u3, u4⟩ := a4.app (by_ := 8) r (by simp; omega) (by omega) (by omega) (by omega)
      refine ⟨_, _, _, h2, u1, by omega, fun b' hb' => by rw [u4 b' (by omega) (fun e => by have := a6 b' e; omega)]; exact a3 b' hb', .ow ?_, fun b' hb' => by obtain rfl : h1.n = b' := hb'; omega⟩
      rw [he]
      have : (cs.drop (0 + (n + 1) * 1)).take (A.ln - (n + 1)) = cs.drop (n + 1) := by
        have : 0 + (n + 1) * 1 = n + 1 := by omega
        rw [this]; exact List.take_of_length_le (by simp; omega)
      rw [this] at u2; exact u2
end
/-- a World within a set of blocks; where the answers lie -/
def WldT (h : AH) (wb : Nat) (F : Nat → Prop) (pa : Option Addr) (pn pc : Nat) (sts sns line : List Int) (told : List Bool) (woken : Bool) (now : Int) (t : Option Addr × Nat × Nat) : Prop :=
  ∃ A, WR h wb pa pn pc A sts sns line told woken now ∧ (∀ b, (b = wb ∨ blk A.sa b ∨ blk A.na b ∨ blk A.la b ∨ blk A.ta b) → F b) ∧ (A.ta, A.tn, A.tc) = t
def Wld (h : AH) (wb : Nat) (F : Nat → Prop) (pa : Option Addr) (pn pc : Nat) (sts sns line : List Int) (told : List Bool) (woken : Bool) (now : Int) : Prop := ∃ t, WldT h wb F pa pn pc sts sns line told woken now t
def wakeW (sts line : List Int) (now : Int) (woken : Bool) (id : Int) : Bool × List Int × List Int × Bool :=
  if 1 ≤ id ∧ id ≤ sts.length then
    if id = now then (!woken, sts, line, true)
    else match sts[(id - 1).toNat]? with
      | none => (false, sts, line, woken)
      | some x => if x = 2 then (true, sts.set (id - 1).toNat 1, line ++ [id], woken) else (false, sts, line, woken)
  else (false, sts, line, woken)
section
variable {h h' : AH} {wb : Nat} {F : Nat → Prop} {pa : Option Addr} {pn pc : Nat} {sts sns line : List Int} {told : List Bool} {woken : Bool} {now : Int}
theorem ref_wake {t : Option Addr × Nat × Nat} (hW : WldT h wb F pa pn pc sts sns line told woken now t) (id : Int) (hb : sts.length < 1000000) (hb2 : line.length < 1000000) : Ok (C k_ref13_World_Wake [.pointer (some ⟨wb, 0, none⟩), .int .i64 id] h) fun v h' =>
    v = .bool (wakeW sts line now woken id).1 ∧ ∃ F', WldT h' wb F' pa pn pc (wakeW sts line now woken id).2.1 sns (wakeW sts line now woken id).2.2.1 told (wakeW sts line now woken id).2.2.2 now t ∧ Moved F F' h h' := by
  obtain ⟨A, hw, hF, ht⟩ := hW
  have hs := hw.slen
  refine Ok.le ?_ ref13_World_Wake_le
  simp only [F_ref13_World_Wake, Option.bind_some, hw.c1, hs, wakeW]
  by_cases a : 1 ≤ id
  · rw [dec_f (show ¬ id < 1 by omega), cond_f]
    by_cases b : id ≤ (sts.length : Int)
    · rw [dec_f (show ¬ (sts.length : Int) < id by omega), cond_f, if_pos ⟨a, b⟩]
      refine Ok.le ?_ ref13_World_Wake_j3_le
      simp only [Option.bind_some, hw.c6]
      by_cases c : id = now
      · have st : h.st wb (0 + 5) [.bool true] = some _ := AH.st_of hw.g (by simp)
        simp only [dec_t c, cond_t, hw.c5, Option.bind_some, st, if_pos c]
        exact Ok.some ⟨rfl, F, ⟨A, hw.fld true now, hF, ht⟩, Nat.le_refl _, fun b' h1 h2 => AH.get_set_ne _ (fun e => h2 (hF _ (.inl e))), fun b' hb' => .inl hb'⟩
      · rw [dec_f c, cond_f, if_neg c]
        refine Ok.le ?_ ref13_World_Wake_j2_le
        obtain ⟨x, hx⟩ : ∃ x, sts[(id - 1).toNat]? = some x := ⟨_, List.getElem?_eq_getElem (by omega)⟩
        obtain ⟨ad, e1, e2, h1, e3, hw1, e5, e6⟩ := hw.setS hx 1
        have i1 := inB_t (show 0 ≤ id - 1 by omega) (show id - 1 < (sts.length : Nat) by omega)
        rw [wrap64 (by omega) (by omega)]
        simp only [Option.bind_some, hw.c1, hs, e1, i1, cond_t, e2, hx]
        by_cases d : x = 2
        · simp only [dec_t d, Bool.not_true, cond_f, if_pos d]
          refine Ok.le ?_ ref13_World_Wake_j1_le
          rw [wrap64 (by omega) (by omega)]
          obtain ⟨la', ln', lc', h2, u1, h3, u2, u3, u4, u5, u6⟩ := hw1.pushL id hb2
          simp only [Option.bind_some, hw.c1, hs, e1, i1, cond_t, e3, hw1.c3, u1, asS_s, u2]
          refine Ok.some ⟨rfl, fun b => F b ∨ h.n ≤ b, ⟨_, u3, fun b hb => ?_, ht⟩, by omega, fun b hb hn => ?_, fun b hb => hb⟩
          · rcases hb with hb | hb | hb | hb | hb
            · exact .inl (hF b (.inl hb))
            · exact .inl (hF b (.inr (.inl hb)))
            · exact .inl (hF b (.inr (.inr (.inl hb))))
            · have := u6 b hb; exact .inr (by omega)
            · exact .inl (hF b (.inr (.inr (.inr (.inr hb)))))
          · rw [u5 b (by omega) (fun e => hn (hF b (.inl e))) (fun e => hn (hF b (.inr (.inr (.inr (.inl e)))))), e6 b (fun e => hn (hF b (.inr (.inl e))))]
        · simp only [dec_f d, Bool.not_false, cond_t, if_neg d]
          exact Ok.some ⟨rfl, F, ⟨A, hw, hF, ht⟩, .refl _ _⟩
    · rw [dec_t (show (sts.length : Int) < id by omega), cond_t, if_neg (fun e => b e.2)]
      exact Ok.some ⟨rfl, F, ⟨A, hw, hF, ht⟩, .refl _ _⟩
  · rw [dec_t (show id < 1 by omega), cond_t, if_neg (fun e => a e.1)]
    exact Ok.some ⟨rfl, F, ⟨A, hw, hF, ht⟩, .refl _ _⟩
end
def isS (sts : List Int) (i : Nat) : Bool := match sts[i]? with
  | some x => decide (x = 2)
  | none => false
def blkS (sts : List Int) (k : Nat) : List Int := ((List.range k).filter (isS sts)).map fun (i : Nat) => (i : Int) + 1
theorem blkS_step (sts : List Int) (k : Nat) {x : Int} (hx : sts[k]? = some x) : blkS sts (k + 1) = if x = 2 then blkS sts k ++ [(k : Int) + 1] else blkS sts k := by
  unfold blkS
  rw [List.range_succ, List.filter_append, List.map_append]
  by_cases c : x = 2 <;> simp [isS, hx, c]
theorem blkS_len (sts : List Int) (k : Nat) : (blkS sts k).length ≤ k := by
  unfold blkS
  rw [List.length_map]
  exact Nat.le_trans (List.length_filter_le _ _) (by simp)
/-- the scheduler's own list of the blocked is the document's -/
theorem blkU_S (ts : List TD) (k : Nat) : blkU ts k = blkS (ts.map TD.st) k := by
  unfold blkU blkS
  have : isB ts = isS (ts.map TD.st) := by
    funext i
    unfold isB isS
    rw [List.getElem?_map]
    cases ts[i]? <;> rfl
  rw [this]
section
variable {h0 : AH} {wb : Nat} {pa : Option Addr} {pn pc : Nat} {A : WA} {sts sns line : List Int} {told : List Bool} {woken : Bool} {now : Int}
theorem refB_loop (hw : WR h0 wb pa pn pc A sts sns line told woken now) (hb : sts.length < 100000) : ∀ (n i : Nat) (h : AH) (a : Option Addr) (m c : Nat), sts.length - i = n → i ≤ sts.length → Fr [] h0 h →
    Ow h 1 a m c ((blkS sts i).flatMap encI) → (∀ b, blk a b → h0.n ≤ b) →
    Ok (ref13_World_Blocked_L1 (some ⟨wb, 0, none⟩) a m c i h) fun v h' => ∃ a n c, v = .slice a n c ∧ Ow h' 1 a n c ((blkS sts sts.length).flatMap encI) ∧ Fr [] h0 h' ∧ (∀ b, blk a b → h0.n ≤ b) := by
  have hs := hw.slen
  intro n
  induction n with
  | zero =>
    intro i h a m c hn hi hf ho hfr
    obtain rfl : i = sts.length := by omega
    refine Ok.le ?_ ref13_World_Blocked_L1_le
    simp only [Option.bind_some, (hw.fr hf).c1, hs]
    rw [dec_f (by omega), cond_f]
    refine Ok.le ?_ ref13_World_Blocked_j1_le
    exact Ok.some ⟨a, m, c, rfl, ho, hf, hfr⟩
  | succ n ih =>
    intro i h a m c hn hi hf ho hfr
    have hw1 := hw.fr hf
    obtain ⟨x, hx⟩ : ∃ x, sts[i]? = some x := ⟨_, List.getElem?_eq_getElem (by omega)⟩
    obtain ⟨ad, e1, e2, _⟩ := hw1.setS hx 1
    have hstep := blkS_step sts i hx
    refine Ok.le ?_ ref13_World_Blocked_L1_le
    simp only [Option.bind_some, hw1.c1, hs]
    rw [dec_t (by omega), cond_t]
    refine Ok.le ?_ ref13_World_Blocked_j3_le
    simp only [Option.bind_some, hw1.c1, hs, e1, inB_t (show (0 : Int) ≤ (i : Int) by omega) (show (i : Int) < (sts.length : Nat) by omega), cond_t, Int.toNat_natCast, e2]
    by_cases c2 : x = 2
    · rw [if_pos c2] at hstep
      have hle := blkS_len sts i
      obtain ⟨a', n', c', h3, u1, u2, u3, u4⟩ := ho.push1 hf hfr ((i : Int) + 1) (by omega)
      simp only [dec_t c2, cond_t, wrap64 (show -9223372036854775808 ≤ (i : Int) + 1 by omega) (by omega), u1, Option.bind_some, asS_s]
      refine Ok.le ?_ ref13_World_Blocked_j2_le
      rw [wrap64 (by omega) (by omega)]
      rw [← hstep] at u2
      exact ih (i + 1) h3 a' n' c' (by omega) (by omega) u3 u2 u4
    · rw [if_neg c2] at hstep
      simp only [dec_f c2, cond_f]
      refine Ok.le ?_ ref13_World_Blocked_j2_le
      rw [wrap64 (by omega) (by omega)]
      rw [← hstep] at ho
      exact ih (i + 1) h a m c (by omega) (by omega) hf ho hfr
theorem refB_ok (hw : WR h0 wb pa pn pc A sts sns line told woken now) (hb : sts.length < 100000) : Ok (C k_ref13_World_Blocked [.pointer (some ⟨wb, 0, none⟩)] h0) fun v h' => ∃ a n c, v = .slice a n c ∧ Ow h' 1 a n c ((blkS sts sts.length).flatMap encI) ∧ Fr [] h0 h' ∧ (∀ b, blk a b → h0.n ≤ b) := by
  refine Ok.le ?_ ref13_World_Blocked_le
  exact refB_loop hw hb sts.length 0 h0 none 0 0 (by omega) (by omega) (.refl _ _) .nil (fun b hb => hb.elim)
end
end Go.Lg.Try
