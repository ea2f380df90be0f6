/- The document's World: Pick. -/
import Derived.Test.YtplfjljdakkigaaPrefAdd
import Derived.Test.YtplfjljdakkigaaPSchedSteps
namespace Go.Lg.Try
set_option linter.unusedVariables false
set_option linter.unusedSimpArgs false
open Go Go.Proofs
def finW (sts line : List Int) (w : Bool) (id tell : Int) : Int × List Int × List Int :=
  if tell = 1 ∨ (tell = 2 ∧ w = true) then (1, sts.set (id - 1).toNat 1, line ++ [id])
  else if tell = 2 then (2, sts.set (id - 1).toNat 2, line)
  else (3, sts.set (id - 1).toNat 3, line)
def aftW (sts line : List Int) (id : Int) (d : DoR) : List Int × List Int × Bool := if d.wake = 0 then (sts, line, false) else (wakeW sts line id false d.wake).2
def toldW (sts line : List Int) (id : Int) (d : DoR) : List Bool := if d.wake = 0 then [] else [(wakeW sts line id false d.wake).1]
theorem wakeW_len (sts line : List Int) (now : Int) (w : Bool) (id : Int) : (wakeW sts line now w id).2.1.length = sts.length ∧ (wakeW sts line now w id).2.2.1.length ≤ line.length + 1 := by
  unfold wakeW
  repeat' split
  all_goals simp
section
variable {h h' : AH} {wb : Nat} {F : Nat → Prop} {pa : Option Addr} {pn pc : Nat} {sts sns line : List Int} {told : List Bool} {woken : Bool} {now : Int}
theorem rp_j1 (hW : Wld h wb F pa pn pc sts sns line told woken now) {id x : Int} (hid : 1 ≤ id ∧ id ≤ sts.length) (hb : sts.length < 1000) (hx : sts[(id - 1).toNat]? = some x) : ref13_World_Pick_j1 (some ⟨wb, 0, none⟩) id h = some (.tuple #[.int .i64 id, .int .i64 x, .bool true], h) := by
  obtain ⟨t, A, hw, hF, ht⟩ := hW
  have hs := hw.slen
  obtain ⟨ad, e1, e2, _⟩ := hw.setS hx 1
  refine ref13_World_Pick_j1_le _ ?_
  simp only [Option.bind_some, hw.c1, hs, e1, wrap64 (show -9223372036854775808 ≤ id - 1 by omega) (by omega), inB_t (show 0 ≤ id - 1 by omega) (show id - 1 < (sts.length : Nat) by omega), cond_t, e2]
theorem rp_j2 (hW : Wld h wb F pa pn pc sts sns line told woken now) {id : Int} (hid : 1 ≤ id ∧ id ≤ sts.length) (hb : sts.length < 1000) (hb2 : line.length < 1000) {D : Nat} {d : DoR} (hD : h.get D = some (.cells (encDo d) false false 3)) :
    Ok (ref13_World_Pick_j2 (some ⟨wb, 0, none⟩) h id (some ⟨D, 0, none⟩) (decide (d.tell = 1 ∨ (d.tell = 2 ∧ woken = true)))) fun v h' => v = .tuple #[.int .i64 id, .int .i64 (finW sts line woken id d.tell).1, .bool true] ∧
      ∃ F', Wld h' wb F' pa pn pc (finW sts line woken id d.tell).2.1 sns (finW sts line woken id d.tell).2.2 told woken now ∧ Moved F F' h h' := by
  obtain ⟨t, A, hw, hF, ht⟩ := hW
  have hs := hw.slen
  obtain ⟨x, hx⟩ : ∃ x, sts[(id - 1).toNat]? = some x := ⟨_, List.getElem?_eq_getElem (by omega)⟩
  have hlt := (List.getElem?_eq_some_iff.mp hx).1
  have e0 : h.ldI .i64 D (0 + 0) = some d.tell := AH.ldI_of hD rfl
  have w1 : IntKind.wrap .i64 (id - 1) = id - 1 := wrap64 (by omega) (by omega)
  have i1 := inB_t (show 0 ≤ id - 1 by omega) (show id - 1 < (sts.length : Nat) by omega)
  refine Ok.le ?_ ref13_World_Pick_j2_le
  have plain : ∀ y : Int, (finW sts line woken id d.tell) = (y, sts.set (id - 1).toNat y, line) → ∃ ad, A.sa = some ad ∧ ∃ h1, h.st ad.block (ad.off + (id - 1).toNat * 1) [.int .i64 y] = some h1 ∧ Ok (ref13_World_Pick_j1 (some ⟨wb, 0, none⟩) id h1) fun v h' => v = .tuple #[.int .i64 id, .int .i64 (finW sts line woken id d.tell).1, .bool true] ∧
      ∃ F', Wld h' wb F' pa pn pc (finW sts line woken id d.tell).2.1 sns (finW sts line woken id d.tell).2.2 told woken now ∧ Moved F F' h h' := by
    intro y hy
    obtain ⟨ad, e1, _, h1, e3, hw1, e5, e6⟩ := hw.setS hx y
    have hW1 : Wld h1 wb F pa pn pc (sts.set (id - 1).toNat y) sns line told woken now := ⟨t, A, hw1, hF, ht⟩
    refine ⟨ad, e1, h1, e3, ?_⟩
    rw [rp_j1 hW1 (by simpa using hid) (by simpa using hb) (List.getElem?_set_self hlt), hy]
    exact Ok.some ⟨rfl, F, hW1, by omega, fun b hb hn => e6 b (fun e => hn (hF b (.inr (.inl e)))), fun b hb => .inl hb⟩
  by_cases c : d.tell = 1 ∨ (d.tell = 2 ∧ woken = true)
  · obtain ⟨ad, e1, _, h1, e3, hw1, e5, e6⟩ := hw.setS hx 1
    obtain ⟨la', ln', lc', h2, u1, h3, u2, u3, u4, u5, u6⟩ := hw1.pushL id (by omega)
    simp only [dec_t c, cond_t, Option.bind_some, hw.c1, hs, e1, w1, i1, e3, hw1.c3, u1, asS_s, u2]
    have hW3 : Wld h3 wb (fun b => F b ∨ h.n ≤ b) pa pn pc (sts.set (id - 1).toNat 1) sns (line ++ [id]) told woken now := ⟨t, _, u3, fun b hb => by
      rcases hb with hb | hb | hb | hb | hb
      · exact .inl (hF b (.inl hb))
      · exact .inl (hF b (.inr (.inl hb)))
      · exact .inl (hF b (.inr (.inr (.inl hb))))
      · have := u6 b hb; exact .inr (by omega)
      · exact .inl (hF b (.inr (.inr (.inr (.inr hb))))), ht⟩
    rw [rp_j1 hW3 (by simpa using hid) (by simpa using hb) (List.getElem?_set_self hlt)]
    simp only [finW, if_pos c]
    refine Ok.some ⟨rfl, _, hW3, by omega, fun b hb hn => ?_, fun b hb => hb⟩
    rw [u5 b (by omega) (fun e => hn (hF b (.inl e))) (fun e => hn (hF b (.inr (.inr (.inr (.inl e)))))), e6 b (fun e => hn (hF b (.inr (.inl e))))]
  · simp only [dec_f c, cond_f, Option.bind_some, e0, hw.c1, hs]
    by_cases e : d.tell = 2
    · obtain ⟨ad, e1, h1, e3, fin⟩ := plain 2 (by simp only [finW, if_neg c, if_pos e])
      simp only [dec_t e, cond_t, e1, Option.bind_some, w1, i1, e3]
      exact fin
    · obtain ⟨ad, e1, h1, e3, fin⟩ := plain 3 (by simp only [finW, if_neg c, if_neg e])
      simp only [dec_f e, cond_f, cond_t, e1, Option.bind_some, w1, i1, e3]
      exact fin
theorem rp_j3 (hW : Wld h wb F pa pn pc sts sns line told woken now) {id : Int} (hid : 1 ≤ id ∧ id ≤ sts.length) (hb : sts.length < 1000) (hb2 : line.length < 1000) {D : Nat} {d : DoR} (hD : h.get D = some (.cells (encDo d) false false 3)) (hDF : D ≠ wb) :
    Ok (ref13_World_Pick_j3 (some ⟨wb, 0, none⟩) (some ⟨D, 0, none⟩) id h) fun v h' => v = .tuple #[.int .i64 id, .int .i64 (finW sts line woken id d.tell).1, .bool true] ∧
      ∃ F', Wld h' wb F' pa pn pc (finW sts line woken id d.tell).2.1 sns (finW sts line woken id d.tell).2.2 told woken 0 ∧ Moved F F' h h' := by
  obtain ⟨t, A, hw, hF, ht⟩ := hW
  have st : h.st wb (0 + 6) [.int .i64 0] = some _ := AH.st_of hw.g (by simp)
  have hw1 := hw.fld woken 0
  have hg1 : ∀ b, b ≠ wb → (h.set wb (some (.cells [.slice pa pn pc, .slice A.sa A.sn A.sc, .slice A.na A.nn A.nc, .slice A.la A.ln A.lc, .slice A.ta A.tn A.tc, .bool woken, .int .i64 0] false false 7))).get b = h.get b := fun b hb => AH.get_set_ne _ hb
  have st : h.st wb (0 + 6) [.int .i64 0] = some (h.set wb (some (.cells [.slice pa pn pc, .slice A.sa A.sn A.sc, .slice A.na A.nn A.nc, .slice A.la A.ln A.lc, .slice A.ta A.tn A.tc, .bool woken, .int .i64 0] false false 7))) := AH.st_of hw.g (by simp)
  generalize hh1 : (h.set wb (some (.cells [.slice pa pn pc, .slice A.sa A.sn A.sc, .slice A.na A.nn A.nc, .slice A.la A.ln A.lc, .slice A.ta A.tn A.tc, .bool woken, .int .i64 0] false false 7))) = h1 at *
  have hn1 : h1.n = h.n := by rw [← hh1]; rfl
  have hD1 : h1.get D = some (.cells (encDo d) false false 3) := by rw [hg1 D hDF]; exact hD
  have e0 : h1.ldI .i64 D (0 + 0) = some d.tell := AH.ldI_of hD1 rfl
  have hW1 : Wld h1 wb F pa pn pc sts sns line told woken 0 := ⟨t, A, hw1, hF, ht⟩
  have fin := rp_j2 hW1 hid hb hb2 hD1
  have mv : Moved F F h h1 := ⟨by omega, fun b hb hn => hg1 b (fun e => hn (hF b (.inl e))), fun b hb => .inl hb⟩
  have fin2 : ∀ b95, b95 = decide (d.tell = 1 ∨ (d.tell = 2 ∧ woken = true)) → Ok (ref13_World_Pick_j2 (some ⟨wb, 0, none⟩) h1 id (some ⟨D, 0, none⟩) b95) fun v h' => v = .tuple #[.int .i64 id, .int .i64 (finW sts line woken id d.tell).1, .bool true] ∧
      ∃ F', Wld h' wb F' pa pn pc (finW sts line woken id d.tell).2.1 sns (finW sts line woken id d.tell).2.2 told woken 0 ∧ Moved F F' h h' := by
    rintro _ rfl
    refine fin.mono ?_
    rintro v h' ⟨rfl, F', g1, g2⟩
    exact ⟨rfl, F', g1, mv.trans g2⟩
  refine Ok.le ?_ ref13_World_Pick_j3_le
  simp only [Option.bind_some, st, e0, hw1.c5]
  by_cases c1 : d.tell = 1
  · rw [dec_t c1, cond_t]; exact fin2 _ (by rw [dec_t (.inl c1)])
  · rw [dec_f c1, cond_f]
    by_cases c2 : d.tell = 2
    · rw [dec_t c2, cond_t]
      refine fin2 _ ?_
      cases woken <;> simp [c1, c2]
    · rw [dec_f c2, cond_f]; exact fin2 _ (by rw [dec_f (fun e => by rcases e with e | e; exact c1 e; exact c2 e.1)])
theorem rp_j4 (hW : Wld h wb F pa pn pc sts sns line told false now) {id m : Int} (hnow : now = id) (hid : 1 ≤ id ∧ id ≤ sts.length) (hsn : sns.length = sts.length) (hm : sns[(id - 1).toNat]? = some m) (hmb : 0 ≤ m ∧ m < 1000000) (hb : sts.length < 900) (hb2 : line.length < 900) (hb3 : told.length < 100000) {D : Nat} {d : DoR} (hD : h.get D = some (.cells (encDo d) false false 3)) (hDF : ¬ F D) (hDl : D < h.n) :
    Ok (ref13_World_Pick_j4 (some ⟨wb, 0, none⟩) id (some ⟨D, 0, none⟩) h) fun v h' => v = .tuple #[.int .i64 id, .int .i64 (finW (aftW sts line id d).1 (aftW sts line id d).2.1 (aftW sts line id d).2.2 id d.tell).1, .bool true] ∧
      ∃ F', Wld h' wb F' pa pn pc (finW (aftW sts line id d).1 (aftW sts line id d).2.1 (aftW sts line id d).2.2 id d.tell).2.1 (sns.set (id - 1).toNat (m + 1)) (finW (aftW sts line id d).1 (aftW sts line id d).2.1 (aftW sts line id d).2.2 id d.tell).2.2 (told ++ toldW sts line id d) (aftW sts line id d).2.2 0 ∧ Moved F F' h h' := by
  subst hnow
  obtain ⟨t, A, hw, hF, ht⟩ := hW
  obtain ⟨ad, e1, e0, e2, h1, e3, hw1, e5, e6⟩ := hw.setN hm (m + 1)
  have w1 : IntKind.wrap .i64 (now - 1) = now - 1 := wrap64 (by omega) (by omega)
  have i1 := inB_t (show 0 ≤ now - 1 by omega) (show now - 1 < ((sns.length : Nat) : Int) by omega)
  have w2 : IntKind.wrap .i64 (m + 1) = m + 1 := wrap64 (by omega) (by omega)
  have hD1 : h1.get D = some (.cells (encDo d) false false 3) := by rw [e6 D (fun e => hDF (hF D (.inr (.inr (.inl e)))))]; exact hD
  have ew : h1.ldI .i64 D (0 + 1) = some d.wake := AH.ldI_of hD1 rfl
  have mv1 : Moved F F h h1 := ⟨by omega, fun b hb hn => e6 b (fun e => hn (hF b (.inr (.inr (.inl e))))), fun b hb => .inl hb⟩
  refine Ok.le ?_ ref13_World_Pick_j4_le
  simp only [Option.bind_some, hw.c2, e0, e1, w1, i1, cond_t, e2, w2, e3, ew]
  unfold aftW toldW
  by_cases c : d.wake = 0
  · simp only [dec_t c, Bool.not_true, cond_f, if_pos c, List.append_nil]
    refine (rp_j3 ⟨t, A, hw1, hF, ht⟩ hid (by omega) (by omega) hD1 (fun e => hDF (hF D (.inl e)))).mono ?_
    rintro v h' ⟨rfl, F', g1, g2⟩
    exact ⟨rfl, F', g1, mv1.trans g2⟩
  · simp only [dec_f c, Bool.not_false, cond_t, if_neg c, hw1.c4, Option.bind_some]
    refine Ok.bind (ref_wake (t := t) ⟨A, hw1, hF, ht⟩ d.wake (by omega) (by omega)) ?_
    rintro _ h2 ⟨rfl, F2, ⟨A2, hw2, hF2, ht2⟩, mv2⟩
    obtain ⟨wl1, wl2⟩ := wakeW_len sts line now false d.wake
    have ht' : A2.ta = A.ta ∧ A2.tn = A.tn ∧ A2.tc = A.tc := by
      rw [← ht] at ht2
      simp only [Prod.mk.injEq] at ht2
      exact ht2
    obtain ⟨ta', tn', tc', h3, u1, h4, u2, u3, u4, u5, u6⟩ := hw2.pushT (wakeW sts line now false d.wake).1 (by omega)
    have hfp : Fr [] h2 (h2.push (.cells [.bool (wakeW sts line now false d.wake).1] false false 1)) := Fr.push _ _ _
    have c4 := hw2.c4
    have c4p := (hw2.fr hfp).c4
    rw [ht'.1, ht'.2.1, ht'.2.2] at c4 c4p u1
    simp only [asB_b, Option.bind_some, c4, c4p, veqO_slice, cond_t, u1, asS_s, u2]
    have hn1 : h.n ≤ h2.n := Nat.le_trans mv1.n mv2.n
    have hD2 : h2.get D = some (.cells (encDo d) false false 3) := by rw [mv2.g D (by omega) hDF]; exact hD1
    have hDF2 : ¬ F2 D := mv2.keep (by omega) hDF
    have hD4 : h4.get D = some (.cells (encDo d) false false 3) := by
      rw [u5 D (by omega) (fun e => hDF2 (hF2 D (.inl e))) (fun e => hDF2 (hF2 D (.inr (.inr (.inr (.inr e))))))]; exact hD2
    have hW4 : Wld h4 wb (fun b => F2 b ∨ h2.n ≤ b) pa pn pc (wakeW sts line now false d.wake).2.1 (sns.set (now - 1).toNat (m + 1)) (wakeW sts line now false d.wake).2.2.1 (told ++ [(wakeW sts line now false d.wake).1]) (wakeW sts line now false d.wake).2.2.2 now := ⟨_, _, u3, fun b hb => by
      rcases hb with hb | hb | hb | hb | hb
      · exact .inl (hF2 b (.inl hb))
      · exact .inl (hF2 b (.inr (.inl hb)))
      · exact .inl (hF2 b (.inr (.inr (.inl hb))))
      · exact .inl (hF2 b (.inr (.inr (.inr (.inl hb)))))
      · have := u6 b hb; exact .inr this, rfl⟩
    have mv4 : Moved F2 (fun b => F2 b ∨ h2.n ≤ b) h2 h4 := ⟨u4, fun b hb hn => u5 b hb (fun e => hn (hF2 b (.inl e))) (fun e => hn (hF2 b (.inr (.inr (.inr (.inr e)))))), fun b hb => hb⟩
    refine (rp_j3 hW4 (by rw [wl1]; exact hid) (by omega) (by omega) hD4 (fun e => hDF (hF D (.inl e)))).mono ?_
    rintro v h' ⟨rfl, F', g1, g2⟩
    exact ⟨rfl, F', g1, mv1.trans (mv2.trans (mv4.trans g2))⟩
theorem rp_row {h : AH} {a : Option Addr} {tl : List TK} (hr : Rd h a (tl.map fun p => Value.slice p.a p.n p.c)) {i : Nat} {q : TK} (hq : tl[i]? = some q) : ∃ ad, a = some ad ∧ h.ldS ad.block (ad.off + i * 1) = some (q.a, q.n, q.c) := by
  have hi := (List.getElem?_eq_some_iff.mp hq).1
  rcases hr with e | ⟨ad, c, op, ro, e, rfl, h1, h2, h3⟩
  · have := congrArg List.length e
    simp at this
    subst this
    simp at hi
  · refine ⟨ad, rfl, AH.ldS_of h1 (h3 _ _ ?_)⟩
    rw [Nat.mul_one, List.getElem?_map, hq]; rfl
theorem ref_pick (hW : Wld h wb F pa pn pc sts sns line told woken now) {tl : List TK} {K : Nat → Prop} (hK : ∀ b, K b → b < h.n ∧ ¬ F b) (hpa : Rd h pa (tl.map fun p => Value.slice p.a p.n p.c)) (hpaK : ∀ b, blk pa b → K b) (hpn : pn = tl.length)
    (hins : ∀ p ∈ tl, Rd h p.a (p.l.flatMap encDo) ∧ (∀ b, blk p.a b → K b) ∧ p.n = p.l.length) {p : Int} (hp0 : 0 ≤ p) {k : Nat} (hk : (p % (line.length : Int)).toNat = k) {id : Int} (hat : line[k]? = some id) (hid : 1 ≤ id ∧ id ≤ sts.length) (hsn : sns.length = sts.length) {q : TK}
    (hq : tl[(id - 1).toNat]? = some q) (hm : sns[(id - 1).toNat]? = some (q.at_ : Int)) (hmb : q.at_ < 1000000) (hb : sts.length < 900) (hb2 : line.length < 900) (hb3 : told.length < 100000) :
    Ok (C k_ref13_World_Pick [.pointer (some ⟨wb, 0, none⟩), .int .u64 p] h) fun v h' => v = .tuple #[.int .i64 id, .int .i64 (finW (aftW sts (line.eraseIdx k) id (doOf q)).1 (aftW sts (line.eraseIdx k) id (doOf q)).2.1 (aftW sts (line.eraseIdx k) id (doOf q)).2.2 id (doOf q).tell).1, .bool true] ∧
      ∃ F', Wld h' wb F' pa pn pc (finW (aftW sts (line.eraseIdx k) id (doOf q)).1 (aftW sts (line.eraseIdx k) id (doOf q)).2.1 (aftW sts (line.eraseIdx k) id (doOf q)).2.2 id (doOf q).tell).2.1 (sns.set (id - 1).toNat ((q.at_ : Int) + 1)) (finW (aftW sts (line.eraseIdx k) id (doOf q)).1 (aftW sts (line.eraseIdx k) id (doOf q)).2.1 (aftW sts (line.eraseIdx k) id (doOf q)).2.2 id (doOf q).tell).2.2 (told ++ toldW sts (line.eraseIdx k) id (doOf q)) (aftW sts (line.eraseIdx k) id (doOf q)).2.2 0 ∧ Moved F F' h h' := by
  obtain ⟨t, A, hw, hF, ht⟩ := hW
  have hln := hw.llen
  have hkl : k < line.length := (List.getElem?_eq_some_iff.mp hat).1
  have hmod : p.tmod (line.length : Int) = (k : Int) := by
    rw [Int.tmod_eq_emod_of_nonneg hp0]
    have := Int.emod_nonneg p (show (line.length : Int) ≠ 0 by omega)
    omega
  obtain ⟨b, hla, hbn, s1, s2, X, xn, xc, g1, a1, a2, a3, Y, yn, yc, g2, b1, b2, b3, b4, b5⟩ := hw.cutL hkl (by omega)
  have hid0 : h.ldI .i64 b (0 + k * 1) = some id := by
    obtain ⟨ad, e1, e2⟩ := rd_i hw.lo.rd hat
    rw [hla] at e1
    obtain rfl := Option.some.inj e1
    exact e2
  obtain ⟨g3, c1, hw3, c3, c4⟩ := hw.newL b2 b3 b4 b5
  have hwn := hw.wn
  have hwf := hF wb (.inl rfl)
  have w1 : IntKind.wrap .u64 (line.length : Int) = (line.length : Int) := wrapu64 (by omega) (by omega)
  have w2 : IntKind.wrap .i64 (k : Int) = (k : Int) := wrap64 (by omega) (by omega)
  have w3 : IntKind.wrap .i64 ((k : Int) + 1) = (k : Int) + 1 := wrap64 (by omega) (by omega)
  have w4 : IntKind.wrap .i64 (id - 1) = id - 1 := wrap64 (by omega) (by omega)
  have i1 := inB_t (show (0 : Int) ≤ (k : Int) by omega) (show (k : Int) < (A.ln : Nat) by omega)
  have hgw : ∀ g : AH, (∀ b', b' < h.n → g.get b' = h.get b') → g.ldS wb (0 + 3) = some (A.la, A.ln, A.lc) := fun g hg => AH.ldS_of (by rw [hg wb hwn]; exact hw.g) rfl
  have hp12 : ∀ b', b' < h.n → (h.push (.cells [] false false 1)).get b' = h.get b' := fun b' hb' => AH.get_push_ne _ (by omega)
  have d12 := hgw _ hp12
  have d1 := hgw g1 a3
  have p12 := s1 _ (hp12 b hbn)
  have p0 := s1 h rfl
  have q1 := s2 g1 (a3 b hbn)
  have q12 := s2 _ (hp12 b hbn)
  have q0 := s2 h rfl
  -- behind the cut
  have hw4 := hw3.fld woken id
  have st4 : g3.st wb (0 + 6) [.int .i64 id] = some (g3.set wb (some (.cells [.slice pa pn pc, .slice A.sa A.sn A.sc, .slice A.na A.nn A.nc, .slice Y yn yc, .slice A.ta A.tn A.tc, .bool woken, .int .i64 id] false false 7))) := AH.st_of hw3.g (by simp)
  have hw5 := hw4.fld false id
  have st5 : (g3.set wb (some (.cells [.slice pa pn pc, .slice A.sa A.sn A.sc, .slice A.na A.nn A.nc, .slice Y yn yc, .slice A.ta A.tn A.tc, .bool woken, .int .i64 id] false false 7))).st wb (0 + 5) [.bool false] = some ((g3.set wb (some (.cells [.slice pa pn pc, .slice A.sa A.sn A.sc, .slice A.na A.nn A.nc, .slice Y yn yc, .slice A.ta A.tn A.tc, .bool woken, .int .i64 id] false false 7))).set wb (some (.cells [.slice pa pn pc, .slice A.sa A.sn A.sc, .slice A.na A.nn A.nc, .slice Y yn yc, .slice A.ta A.tn A.tc, .bool false, .int .i64 id] false false 7))) := AH.st_of hw4.g (by simp)
  generalize hg5 : ((g3.set wb (some (.cells [.slice pa pn pc, .slice A.sa A.sn A.sc, .slice A.na A.nn A.nc, .slice Y yn yc, .slice A.ta A.tn A.tc, .bool woken, .int .i64 id] false false 7))).set wb (some (.cells [.slice pa pn pc, .slice A.sa A.sn A.sc, .slice A.na A.nn A.nc, .slice Y yn yc, .slice A.ta A.tn A.tc, .bool false, .int .i64 id] false false 7))) = g5 at *
  have hg5g : ∀ b', b' < h.n → b' ≠ wb → g5.get b' = h.get b' := fun b' hb' hne => by
    rw [← hg5, AH.get_set_ne _ hne, AH.get_set_ne _ hne, c4 b' hne]; exact b3 b' hb'
  have hg5n : g5.n = g3.n := by rw [← hg5]; rfl
  obtain ⟨g6, e1, e2, e3, e4⟩ := push_st g5 [(.int .i64 0), (.int .i64 0), (.bool false)] [(.int .i64 0), (.int .i64 0), (.bool false)] 3 rfl
  have hw6 := hw5.fr e3
  obtain ⟨ad, n1, n2, n3, _⟩ := hw6.setN hm 0
  replace n1 : A.na = some ad := n1
  replace n2 : A.nn = sns.length := n2
  have keep6 : ∀ b', b' < h.n → b' ≠ wb → g6.get b' = h.get b' := fun b' hb' hne => by rw [e3.g b' (by omega) (by simp)]; exact hg5g b' hb' hne
  have rdk : ∀ {a : Option Addr} {cs : List Value}, Rd h a cs → (∀ b', blk a b' → K b') → Rd g6 a cs := fun hr hk' => rd_keep hr (fun b' hb' => keep6 b' (hK b' (hk' b' hb')).1 (fun e => (hK b' (hk' b' hb')).2 (e ▸ hwf))) (by omega)
  obtain ⟨ap, m1, m2⟩ := rp_row (rdk hpa hpaK) hq
  obtain ⟨z1, z2, z3⟩ := hins q (List.mem_of_getElem? hq)
  have hql : (id - 1).toNat < tl.length := (List.getElem?_eq_some_iff.mp hq).1
  have i2 := inB_t (show 0 ≤ id - 1 by omega) (show id - 1 < ((pn : Nat) : Int) by omega)
  have i3 := inB_t (show 0 ≤ id - 1 by omega) (show id - 1 < ((A.nn : Nat) : Int) by rw [show A.nn = sns.length from n2]; omega)
  have fin : ∀ g : AH, Fr [] g5 g → g5.n < g.n → g.get g5.n = some (.cells (encDo (doOf q)) false false 3) → Ok (ref13_World_Pick_j4 (some ⟨wb, 0, none⟩) id (some ⟨g5.n, 0, none⟩) g) fun v h' => v = .tuple #[.int .i64 id, .int .i64 (finW (aftW sts (line.eraseIdx k) id (doOf q)).1 (aftW sts (line.eraseIdx k) id (doOf q)).2.1 (aftW sts (line.eraseIdx k) id (doOf q)).2.2 id (doOf q).tell).1, .bool true] ∧
      ∃ F', Wld h' wb F' pa pn pc (finW (aftW sts (line.eraseIdx k) id (doOf q)).1 (aftW sts (line.eraseIdx k) id (doOf q)).2.1 (aftW sts (line.eraseIdx k) id (doOf q)).2.2 id (doOf q).tell).2.1 (sns.set (id - 1).toNat ((q.at_ : Int) + 1)) (finW (aftW sts (line.eraseIdx k) id (doOf q)).1 (aftW sts (line.eraseIdx k) id (doOf q)).2.1 (aftW sts (line.eraseIdx k) id (doOf q)).2.2 id (doOf q).tell).2.2 (told ++ toldW sts (line.eraseIdx k) id (doOf q)) (aftW sts (line.eraseIdx k) id (doOf q)).2.2 0 ∧ Moved F F' h h' := by
    intro g hf hgn hg
    have hwg := hw5.fr hf
    have hel : (line.eraseIdx k).length ≤ line.length := by rw [List.length_eraseIdx]; split <;> omega
    have hWg : Wld g wb (fun b' => (F b' ∧ b' < h.n) ∨ (h.n ≤ b' ∧ b' ≠ g5.n)) pa pn pc sts sns (line.eraseIdx k) told false id := ⟨_, _, hwg, fun b' hb' => by
      rcases hb' with hb' | hb' | hb' | hb' | hb'
      · exact .inl ⟨hF b' (.inl hb'), by rw [hb']; exact hwn⟩
      · exact .inl ⟨hF b' (.inr (.inl hb')), ow_lt hw.so b' hb'⟩
      · exact .inl ⟨hF b' (.inr (.inr (.inl hb'))), ow_lt hw.no b' hb'⟩
      · have h1 := b5 b' hb'
        have h2 := hw5.lo.lt b' hb'
        exact .inr ⟨h1, by omega⟩
      · exact .inl ⟨hF b' (.inr (.inr (.inr (.inr hb')))), ow_lt hw.to b' hb'⟩, rfl⟩
    refine (rp_j4 hWg rfl hid hsn hm ⟨by omega, by omega⟩ hb (by omega) hb3 hg (fun e => by rcases e with e | e; have := e.2; omega; exact e.2 rfl) hgn).mono ?_
    rintro v h' ⟨rfl, F', u1, u2⟩
    refine ⟨rfl, F', u1, ⟨by have := u2.n; have := hf.n; omega, fun b' hb' hn => ?_, fun b' hb' => ?_⟩⟩
    · rw [u2.g b' (by have := hf.n; omega) (fun e => by rcases e with e | e; exact hn e.1; have := e.1; omega), hf.g b' (by omega) (by simp)]
      exact hg5g b' hb' (fun e => hn (e ▸ hwf))
    · rcases u2.f b' hb' with e | e
      · rcases e with e | e
        · exact .inl e.1
        · exact .inr e.1
      · have := hf.n; exact .inr (by omega)
  refine Ok.le ?_ ref13_World_Pick_le
  simp only [F_ref13_World_Pick, Option.bind_some, hw.c3, hln, dec_f (show ¬(line.length : Int) = 0 by omega), cond_f]
  refine Ok.le ?_ ref13_World_Pick_j5_le
  rw [hln] at i1 d12 d1 p12 p0 q1 q12 q0 b1
  have c3' := hw.c3
  rw [hln] at c3'
  simp only [Option.bind_some, c3', w1, dec_f (show ¬(line.length : Int) = 0 by omega), Bool.not_false, cond_t, hmod, w2, hla]
  rw [hla] at d12 d1 p12 p0 q1 q12 q0 c3'
  simp only [Option.bind_some, i1, cond_t, Int.toNat_natCast, hid0, d12, c3', veqO_slice, p12, p0, asS_s, a1, d1, w3, q1, q12, q0, b1, c1, st4, st5, e1, hw6.c2, w4, i3, cond_t, hw6.c0]
  simp only [n1, Option.bind_some, n3, m1, i2, i3, cond_t, m2]
  by_cases c : (q.at_ : Int) < ((q.n : Nat) : Int)
  · have hx : q.l[q.at_]? = some (doOf q) := by
      unfold doOf
      obtain ⟨d, hd⟩ : ∃ d, q.l[q.at_]? = some d := ⟨_, List.getElem?_eq_getElem (by omega)⟩
      rw [hd]
    obtain ⟨aq, haq, hrd⟩ := (rdk z1 z2).some (by
      intro he
      have := congrArg List.length he
      rw [flat_len encDo_len] at this
      simp at this; omega)
    have d0 : g6.ldI .i64 aq.block (aq.off + q.at_ * 3) = some (doOf q).tell := by
      have := (hrd (q.at_ * 3 + 0)).1 .i64 (doOf q).tell (by rw [flat_get_some encDo_len (by omega) hx]; rfl)
      exact this
    have d1 : g6.ldI .i64 aq.block (aq.off + q.at_ * 3 + 1) = some (doOf q).wake := by
      have := (hrd (q.at_ * 3 + 1)).1 .i64 (doOf q).wake (by rw [flat_get_some encDo_len (by omega) hx]; rfl)
      rw [Nat.add_assoc]; exact this
    have d2 : g6.ldB aq.block (aq.off + q.at_ * 3 + 2) = some (doOf q).inner := by
      have := (hrd (q.at_ * 3 + 2)).2.1 (doOf q).inner (by rw [flat_get_some encDo_len (by omega) hx]; rfl)
      rw [Nat.add_assoc]; exact this
    have st2 : g6.st g5.n 0 [.int .i64 (doOf q).tell, .int .i64 (doOf q).wake, .bool (doOf q).inner] = some (g6.set g5.n (some (.cells (encDo (doOf q)) false false 3))) := AH.st_of e2 (by simp)
    simp only [dec_t c, cond_t, haq, Option.bind_some, hw6.c0, m1, i2, m2, hw6.c2, n1, i3, n3, inB_t (show (0 : Int) ≤ (q.at_ : Int) by omega) c, Int.toNat_natCast, d0, d1, d2, st2]
    have r := fin (g6.set g5.n (some (.cells (encDo (doOf q)) false false 3))) ⟨by rw [AH.n_set]; omega, fun b' hb' _ => by rw [AH.get_set_ne _ (by omega)]; exact e3.g b' hb' (by simp)⟩ (by rw [AH.n_set]; omega) (AH.get_set_eq _ _ _)
    simp only [m1] at r
    exact r
  · have hx : doOf q = ⟨0, 0, false⟩ := by
      unfold doOf
      rw [List.getElem?_eq_none (by omega)]
    simp only [dec_f c, cond_f]
    have r := fin g6 e3 (by omega) (by rw [hx]; exact e2)
    simp only [m1] at r
    exact r
end
end Go.Lg.Try
