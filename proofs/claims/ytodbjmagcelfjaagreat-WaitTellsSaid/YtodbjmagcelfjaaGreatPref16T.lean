/- The document's transactions are as the model; over parts of memory. -/
import Derived.Test.YtodbjmagcelfjaaGreatFref16
import Derived.Test.YtodbjmagcelfjaaGreatPtl2M
import Derived.Test.YtodbjmagcelfjaaGreatPsetsSn
import Derived.Test.YtodbjmagcelfjaaGreatPref14
set_option linter.unusedVariables false
set_option linter.unusedSimpArgs false
namespace Go.Lg.Tryz
set_option linter.unusedVariables false
set_option linter.unusedSimpArgs false
open Go Go.Proofs
theorem OwE.live {h : AH} {sz : Nat} {a : Option Addr} {n c : Nat} {cs : List Value} (ho : OwE h sz a n c cs) : ∀ b, blk a b → (h.get b).isSome = true ∧ b < h.n := by
  cases ho with
  | s ho => exact ho.live
  | z hb hn => rintro b rfl; exact ⟨by rw [hb]; rfl, hn⟩
theorem OwE.same2 {h h' : AH} {sz : Nat} {a : Option Addr} {n c : Nat} {cs : List Value} (ho : OwE h sz a n c cs) (hg : ∀ b, blk a b → h'.get b = h.get b ∧ b < h'.n) : OwE h' sz a n c cs := by
  cases ho with
  | s ho => exact .s (ho.same2 hg)
  | z hb hn => exact .z (by rw [(hg _ rfl).1]; exact hb) (hg _ rfl).2
section
variable {u u' : Us} {h h' : AH} {r : Nat} {A A' : RA} {R W R' W' : List (Int × Int)} {sn sn' : List (List (Int × Int))} {F : List Asr}
theorem RR.live (q : RR u h r A R W sn) : ∀ b, rown r A b → (h.get b).isSome = true ∧ b < h.n := by
  rintro b ⟨a, ha, hb⟩
  simp only [RA.ls, List.mem_cons, List.mem_map] at ha
  rcases ha with rfl | rfl | rfl | rfl | ⟨t, ht, rfl⟩
  · obtain rfl : r = b := hb
    exact ⟨by rw [q.g]; rfl, q.n⟩
  · exact q.R.live b hb
  · exact q.W.live b hb
  · exact q.M.live b hb
  · obtain ⟨k, hk⟩ := List.getElem?_of_mem ht
    obtain ⟨w, _, h2⟩ := q.S k t hk
    exact h2.live b hb
theorem RR.same2 (q : RR u h r A R W sn) (hg : ∀ b, rown r A b → h'.get b = h.get b ∧ b < h'.n) : RR u h' r A R W sn :=
  ⟨by rw [(hg r RR.o0).1]; exact q.g, q.R.same2 fun b hb => hg b (RR.oR hb), q.W.same2 fun b hb => hg b (RR.oW hb), q.M.same2 fun b hb => hg b (RR.oM hb), fun k t hk => by
    obtain ⟨w, h1, h2⟩ := q.S k t hk
    exact ⟨w, h1, h2.same2 fun b hb => hg b (RR.oS hk hb)⟩, q.l, q.d, (hg r RR.o0).2⟩
def aRF (r : Nat) (u : Us) (R W : List (Int × Int)) (sn : List (List (Int × Int))) : Asr := fun m => ∃ A, Up (fun h => RR u h r A R W sn) (rown r A) m
theorem RF_at (w : H h (aRF r u R W sn :: F)) : ∃ A, RR u h r A R W sn := by
  obtain ⟨A, w⟩ := w.ex
  exact ⟨A, w.of_up⟩
theorem RF_run {x : Res} {P : Value → Prop} (hh : H h (aRF r u R W sn :: F)) (f : ∀ A, RR u h r A R W sn → Ok x fun v h' => P v ∧ ∃ A', RR u h' r A' R' W' sn' ∧ Mr r A A' h h') : Ok x fun v h' => P v ∧ H h' (aRF r u R' W' sn' :: F) := by
  obtain ⟨A, hh⟩ := hh.ex
  refine Ok.mono (f A hh.of_up) ?_
  rintro v h' ⟨p, A', q', m⟩
  refine ⟨p, ?_⟩
  exact (hh.run m.n (fun b hb hn => m.g b hb hn) m.o q'.live fun h'' hg => q'.same2 hg).imp fun m hm => ⟨A', hm⟩
def ucells (u : Us) (A : RA) : List Value := [u.a, u.b, u.c, .slice A.ra A.rn A.rc, .slice A.wa A.wn A.wc, .slice A.ma A.mn A.mc, u.d, u.e, u.f]
theorem RF_st {k : Nat} {v : Value} (w : H h (aRF r u R W sn :: F)) (u' : Us) (hk : k < 9) (e : ∀ A, AH.setL (ucells u A) (0 + k) [v] = ucells u' A) : ∃ h', h.st r (0 + k) [v] = some h' ∧ H h' (aRF r u' R W sn :: F) := by
  obtain ⟨A, w⟩ := w.ex
  have q := w.of_up
  have hst := AH.st_of (vs := [v]) (o := 0 + k) q.g (by simp only [List.length_cons, List.length_nil]; omega)
  have eq : AH.setL [u.a, u.b, u.c, .slice A.ra A.rn A.rc, .slice A.wa A.wn A.wc, .slice A.ma A.mn A.mc, u.d, u.e, u.f] (0 + k) [v] = ucells u' A := e A
  rw [eq] at hst
  refine ⟨_, hst, ?_⟩
  have hne : ∀ x, x ∈ A.ra :: A.wa :: A.ma :: A.sl.map (·.1) → ∀ b, blk x b → b ≠ r := fun x hx b hb e => by
    have := List.rel_of_pairwise_cons (show List.Pairwise dj (some ⟨r, 0, none⟩ :: A.ra :: A.wa :: A.ma :: A.sl.map (·.1)) from q.d) hx
    exact this r rfl (e ▸ hb)
  have q' : RR u' (h.set r (some (.cells (ucells u' A) false false 9))) r A R W sn :=
    ⟨AH.get_set_eq _ _ _, q.R.same2 fun b hb => ⟨AH.get_set_ne _ (hne A.ra (by simp) b hb), (q.R.live b hb).2⟩, q.W.same2 fun b hb => ⟨AH.get_set_ne _ (hne A.wa (by simp) b hb), (q.W.live b hb).2⟩, q.M.same2 fun b hb => ⟨AH.get_set_ne _ (hne A.ma (by simp) b hb), (q.M.live b hb).2⟩, fun k t hk => by
      obtain ⟨w, h1, h2⟩ := q.S k t hk
      exact ⟨w, h1, h2.same2 fun b hb => ⟨AH.get_set_ne _ (hne t.1 (by
        have : t ∈ A.sl := List.mem_of_getElem? hk
        simp only [List.mem_cons, List.mem_map]
        exact .inr (.inr (.inr ⟨t, this, rfl⟩))) b hb), (h2.live b hb).2⟩⟩, q.l, q.d, q.n⟩
  exact (w.run (h' := h.set r (some (.cells (ucells u' A) false false 9))) (Nat.le_refl _) (fun b hb hn => AH.get_set_ne _ fun e => hn (by rw [e]; exact RR.o0)) (fun b hb => .inl hb) q'.live fun h'' hg => q'.same2 hg).imp fun m hm => ⟨A, hm⟩
end
def UU (p : Nat) (o b st a v : Int) : Us := ⟨.pointer (some ⟨p, 0, none⟩), .int .i64 o, .int .i64 b, .int .i64 st, .int .i64 a, .int .i64 v⟩
/-- where an end is -/
structure RC (m : TM) (a v : Int) (sn : List (List (Int × Int))) : Prop where
  s : Sn m.σ sn
  v : m.st ≠ 4 → v = m.ver
  a1 : m.st = 1 → a = 0
  a2 : m.st = 2 → 0 ≤ a ∧ a ≤ 1000000 ∧ m.left = (planM (sortI (m.σ.writes.map Prod.fst)) (sortI (m.σ.reads.map Prod.fst))).drop a.toNat ∧ m.σ.writes ≠ []
  t : m.st = 1 ∨ m.st = 2 → (m.told = true ↔ ((m.σ.writes.length + 1 + m.σ.reads.length : Nat) : Int) < a)
def aRX (p r : Nat) (m : TM) : Asr := fun hp => ∃ a v sn, RC m a v sn ∧ aRF r (UU p m.owner m.beg m.st a v) m.σ.reads m.σ.writes sn hp
section
variable {h h' : AH} {r p q : Nat} {o b st a v : Int} {m : TM} {R W : List (Int × Int)} {sn : List (List (Int × Int))} {cs : List Cel} {clk : Int} {F : List Asr}
theorem RF0 (w : H h (aRF r (UU p o b st a v) R W sn :: F)) : h.ldP r (0 + 0) = some (some ⟨p, 0, none⟩) := by obtain ⟨A, q⟩ := RF_at w; exact AH.ldP_of q.g rfl
theorem RF1 (w : H h (aRF r (UU p o b st a v) R W sn :: F)) : h.ldI .i64 r (0 + 1) = some o := by obtain ⟨A, q⟩ := RF_at w; exact AH.ldI_of q.g rfl
theorem RF2 (w : H h (aRF r (UU p o b st a v) R W sn :: F)) : h.ldI .i64 r (0 + 2) = some b := by obtain ⟨A, q⟩ := RF_at w; exact AH.ldI_of q.g rfl
theorem RF6 (w : H h (aRF r (UU p o b st a v) R W sn :: F)) : h.ldI .i64 r (0 + 6) = some st := by obtain ⟨A, q⟩ := RF_at w; exact AH.ldI_of q.g rfl
theorem RX_at (w : H h (aRX p r m :: F)) : ∃ a v sn, RC m a v sn ∧ H h (aRF r (UU p m.owner m.beg m.st a v) m.σ.reads m.σ.writes sn :: F) := by
  obtain ⟨a, w⟩ := w.ex
  obtain ⟨v, w⟩ := w.ex
  obtain ⟨sn, w⟩ := w.ex
  obtain ⟨c, w⟩ := w.pu
  exact ⟨a, v, sn, c, w⟩
theorem RX_mk (c : RC m a v sn) (w : H h (aRF r (UU p m.owner m.beg m.st a v) m.σ.reads m.σ.writes sn :: F)) : H h (aRX p r m :: F) := w.imp fun hp x => ⟨a, v, sn, c, x⟩
theorem rfail_loop (l : List Int) {sa : Option Addr} {c : Nat} (hlen : l.length < 1000000) : ∀ (n k : Nat) {h : AH} {cs : List Cel}, l.length - k = n → k ≤ l.length → H h (aRd sa (l.flatMap encI) :: aRF r (UU p o b st a v) R W sn :: aMem p q cs clk :: F) →
    Ok (ref16_Tx_fail_L1 (some ⟨r, 0, none⟩) sa l.length c (k : Nat) h) fun x h' => x = .tuple #[] ∧ H h' (aRF r (UU p o b 4 a v) R W sn :: aMem p q (uns cs o (l.drop k)) clk :: F) := by
  intro n
  induction n with
  | zero =>
    intro k h cs hn hk w
    refine Ok.le ?_ ref16_Tx_fail_L1_le
    rw [dec_f (by omega), cond_f]
    refine Ok.le ?_ ref16_Tx_fail_j1_le
    obtain ⟨h1, e1, w1⟩ := RF_st (k := 6) (v := .int .i64 4) w.drop (UU p o b 4 a v) (by decide) (fun _ => rfl)
    simp only [Option.bind_some, e1]
    rw [List.drop_of_length_le (by omega)]
    exact Ok.some ⟨rfl, w1⟩
  | succ n ih =>
    intro k h cs hn hk w
    refine Ok.le ?_ ref16_Tx_fail_L1_le
    rw [dec_t (by omega), cond_t]
    refine Ok.le ?_ ref16_Tx_fail_j3_le
    obtain ⟨x, hx⟩ : ∃ x, l[k]? = some x := ⟨_, List.getElem?_eq_getElem (by omega)⟩
    obtain ⟨ad, ha, g0⟩ := rdI w.rd hx
    have hb : inB ((k : Nat) : Int) l.length = true := inB_t (by omega) (by omega)
    have wT := w.u1
    rw [ha]
    simp only [Option.bind_some, hb, cond_t, Int.toNat_natCast, g0, RF0 wT, RF1 wT]
    rw [← ha]
    refine Ok.bind (mem_run (S := [q]) (by simp) w.u2 fun mm => runlock_ok mm x o) ?_
    rintro _ h2 ⟨rfl, w2⟩
    simp only [asI_i64, Option.bind_some]
    refine Ok.le ?_ ref16_Tx_fail_j2_le
    rw [show IntKind.wrap .i64 (((k : Nat) : Int) + 1) = ((k + 1 : Nat) : Int) by rw [wrap64 (by omega) (by omega)]; omega]
    have := ih (k + 1) (by omega) (by omega) w2.d2
    have hd : l.drop k = x :: l.drop (k + 1) := by
      obtain ⟨hl, e⟩ := List.getElem?_eq_some_iff.mp hx
      rw [List.drop_eq_getElem_cons hl, e]
    rw [hd]
    exact this
theorem rFail (w : H h (aRF r (UU p o b st a v) R W sn :: aMem p q cs clk :: F)) (ho : 1 ≤ o) (hcs : cs.length ≤ 1024) : Ok (C k_ref16_Tx_fail [ptr r] h) fun x h' => x = .tuple #[] ∧ H h' (aRF r (UU p o b 4 a v) R W sn :: aMem p q (freeM cs o) clk :: F) := by
  refine Ok.le ?_ ref16_Tx_fail_le
  simp only [F_ref16_Tx_fail, Option.bind_some, RF0 w, RF1 w]
  refine Ok.bind (rd_run w (rowned_ok (mem_at w.u1) o hcs)) ?_
  rintro _ h2 ⟨sa, c, rfl, w2⟩
  simp only [asS_s, Option.bind_some]
  have hle := ownedM_le cs o
  refine Ok.mono (rfail_loop (ownedM cs o) (by omega) _ 0 rfl (by omega) w2) ?_
  rintro x h' ⟨rfl, w3⟩
  rw [List.drop_zero, uns_owned ho] at w3
  exact ⟨rfl, w3⟩
theorem load_run (w : H h (aMem p q cs clk :: F)) (i : Int) : Ok (C k_ref14_Memory_Load [at0 p, .int .i64 i] h) fun v h' => v = .tuple #[.agg #[.int .i64 (loadM cs i).1.v, .int .i64 (loadM cs i).1.ver, .int .i64 (loadM cs i).1.own], .int .i64 (loadM cs i).2] ∧ H h' (aMem p q cs clk :: F) :=
  mem_run (S := []) (by simp) w fun mm => rload_ok mm i
theorem loadM_e (cs : List Cel) (i : Int) : (loadM cs i).2 = if i < 0 ∨ (cs.length : Int) ≤ i then 2 else 0 := by
  unfold loadM
  split
  · rfl
  · rename_i h
    obtain ⟨c, hc⟩ : ∃ c, cs[i.toNat]? = some c := ⟨_, List.getElem?_eq_getElem (by omega)⟩
    rw [hc]
theorem openE_st {st : Int} {n : Nat} {i : Int} (h : st = 1) : openE st n i = if i < 0 ∨ (n : Int) ≤ i then 2 else 0 := by
  unfold openE; rw [if_neg (by simp [h])]
theorem RC.setσ {σ' : St} (c : RC m a v sn) (h1 : m.st = 1) (s' : Sn σ' sn) (hv : v = m.ver) : RC { m with σ := σ' } a v sn := by
  refine ⟨s', fun _ => hv, fun _ => c.a1 h1, fun h => absurd h (by show m.st ≠ 2; omega), fun _ => ?_⟩
  have h0 := c.a1 h1
  have := c.t (.inl h1)
  show m.told = true ↔ _
  constructor
  · intro h; have := this.mp h; omega
  · intro h; subst h0; omega
theorem RRead (w : H h (aRX p r m :: aMem p q cs clk :: F)) (hl : m.σ.writes.length < 1000000) (hrl : m.σ.reads.length < 1000000) (ho : 1 ≤ m.owner) (hcs : cs.length ≤ 1024) (i : Int) : Ok (C k_ref16_Tx_Read [ptr r, .int .i64 i] h) fun y h' => y = .tuple #[.int .i64 (m.read cs i).1.1, .int .i64 (m.read cs i).1.2] ∧ H h' (aRX p r (m.read cs i).2.1 :: aMem p q (m.read cs i).2.2 clk :: F) := by
  obtain ⟨a, v, sn, c, w⟩ := RX_at w
  refine Ok.le ?_ ref16_Tx_Read_le
  simp only [F_ref16_Tx_Read, Option.bind_some, RF6 w]
  unfold TM.read
  by_cases h1 : m.st = 1
  rotate_left
  · rw [dec_f h1, Bool.not_false, cond_t]
    have e : openE m.st cs.length i = 132 := by unfold openE; rw [if_pos h1]
    rw [e, if_pos (by decide)]
    exact Ok.some ⟨rfl, RX_mk c w⟩
  rw [dec_t h1, Bool.not_true, cond_f, openE_st h1]
  refine Ok.le ?_ ref16_Tx_Read_j6_le
  simp only [Option.bind_some, RF0 w]
  refine Ok.bind (load_run w.u1 i) ?_
  rintro _ h2 ⟨rfl, w2⟩
  obtain ⟨h21, e21, w21, _⟩ := w2.var [.int .i64 0, .int .i64 0, .int .i64 0] [.int .i64 (loadM cs i).1.v, .int .i64 (loadM cs i).1.ver, .int .i64 (loadM cs i).1.own] 3 rfl
  simp only [asTu_t, hdO_c, asAg_t, asI_i64, Option.bind_some, List.isEmpty_nil, cond_t, e21, loadM_e]
  generalize hcc : (loadM cs i).1 = cc at w21 ⊢
  generalize h2.n = cb at w21 ⊢
  by_cases c1 : i < 0 ∨ (cs.length : Int) ≤ i
  · rw [if_pos c1, dec_f (by decide), Bool.not_false, cond_t, if_pos (by decide)]
    exact Ok.some ⟨rfl, RX_mk c w21.drop.u1⟩
  rw [if_neg c1, dec_t rfl, Bool.not_true, cond_f, if_neg (by decide)]
  refine Ok.le ?_ ref16_Tx_Read_j5_le
  have w22 := w21.pm [2, 1, 0]
  obtain ⟨A, qr⟩ := RF_at w22
  simp only [Option.bind_some, rvalue qr i hl, asTu_t, hdO_c, asI_i64, asB_b, List.isEmpty_nil, cond_t]
  by_cases c2 : aok (alook m.σ.writes i) = true
  · rw [if_pos c2, c2, cond_t]
    exact Ok.some ⟨rfl, RX_mk c w21.drop.u1⟩
  rw [if_neg c2, Bool.eq_false_iff.mpr c2, cond_f]
  refine Ok.le ?_ ref16_Tx_Read_j4_le
  simp only [Option.bind_some, rseen qr i hrl, asTu_t, hdO_c, asI_i64, asB_b, List.isEmpty_nil, cond_t, AH.ldI_of (k := .i64) (o := 0 + 2) w21.get rfl, AH.ldI_of (k := .i64) (o := 0 + 1) w21.get rfl, RF2 w22]
  have stale : m.stale cc i = true → Ok (ref16_Tx_Read_j3 (some ⟨r, 0, none⟩) (some ⟨cb, 0, none⟩) i true h21) fun x h' => x = .tuple #[.int .i64 (0, (131 : Int)).1, .int .i64 (0, (131 : Int)).2] ∧ H h' (aRX p r m.fail :: aMem p q (freeM cs m.owner) clk :: F) := fun hs => by
    refine Ok.le ?_ ref16_Tx_Read_j3_le
    rw [cond_t]
    refine Ok.bind (rFail (w21.pm [2, 1, 0]) ho hcs) ?_
    rintro _ h4 ⟨rfl, w4⟩
    simp only [asTu_t, Option.bind_some, List.isEmpty_nil, cond_t]
    refine Ok.some ⟨rfl, RX_mk (m := m.fail) (a := a) (v := v) (sn := sn) ⟨c.s, fun h => absurd rfl h, fun h => by have : (4 : Int) = 1 := h; omega, fun h => by have : (4 : Int) = 2 := h; omega, fun h => by rcases h with h | h <;> · have : (4 : Int) = _ := h; omega⟩ ((w4.mv 2 rfl).drop)⟩
  have fine : m.stale cc i = false → Ok (ref16_Tx_Read_j3 (some ⟨r, 0, none⟩) (some ⟨cb, 0, none⟩) i false h21) fun x h' => x = .tuple #[.int .i64 (if (m.σ.read i cc.ver).1 ≠ 0 then ((0, (m.σ.read i cc.ver).1), { m with σ := (m.σ.read i cc.ver).2 }, cs) else ((cc.v, 0), { m with σ := (m.σ.read i cc.ver).2 }, cs) : (Int × Int) × TM × List Cel).1.1, .int .i64 (if (m.σ.read i cc.ver).1 ≠ 0 then ((0, (m.σ.read i cc.ver).1), { m with σ := (m.σ.read i cc.ver).2 }, cs) else ((cc.v, 0), { m with σ := (m.σ.read i cc.ver).2 }, cs) : (Int × Int) × TM × List Cel).1.2] ∧
      H h' (aRX p r (if (m.σ.read i cc.ver).1 ≠ 0 then ((0, (m.σ.read i cc.ver).1), { m with σ := (m.σ.read i cc.ver).2 }, cs) else ((cc.v, 0), { m with σ := (m.σ.read i cc.ver).2 }, cs) : (Int × Int) × TM × List Cel).2.1 :: aMem p q (if (m.σ.read i cc.ver).1 ≠ 0 then ((0, (m.σ.read i cc.ver).1), { m with σ := (m.σ.read i cc.ver).2 }, cs) else ((cc.v, 0), { m with σ := (m.σ.read i cc.ver).2 }, cs) : (Int × Int) × TM × List Cel).2.2 clk :: F) := fun hs => by
    refine Ok.le ?_ ref16_Tx_Read_j3_le
    rw [cond_f]
    refine Ok.le ?_ ref16_Tx_Read_j2_le
    simp only [Option.bind_some, AH.ldI_of (k := .i64) (o := 0 + 1) w21.get rfl]
    refine Ok.bind (RF_run (w21.pm [2, 1, 0]) fun A q => rread q i cc.ver hrl) ?_
    rintro _ h4 ⟨rfl, w4⟩
    rw [asI_i64, Option.bind_some]
    have rx : H h4 (aRX p r { m with σ := (m.σ.read i cc.ver).2 } :: _) := RX_mk (m := { m with σ := (m.σ.read i cc.ver).2 }) (c.setσ h1 (c.s.read i cc.ver) (c.v (by omega))) w4
    by_cases d : (m.σ.read i cc.ver).1 = 0
    · have d' : (readM m.σ.reads i cc.ver).1 = 0 := d
      rw [dec_t d', Bool.not_true, cond_f, if_neg (by simp [d])]
      refine Ok.le ?_ ref16_Tx_Read_j1_le
      simp only [Option.bind_some, AH.ldI_of (k := .i64) (o := 0 + 0) (rx.g 2 rfl) rfl]
      exact Ok.some ⟨rfl, (rx.mv 2 rfl).drop⟩
    · have d' : ¬(readM m.σ.reads i cc.ver).1 = 0 := d
      rw [dec_f d', Bool.not_false, cond_t, if_pos d]
      exact Ok.some ⟨rfl, (rx.mv 2 rfl).drop⟩
  by_cases d2 : cc.own = 0
  rotate_left
  · have hs : m.stale cc i = true := by simp [TM.stale, d2]
    rw [dec_f d2, Bool.not_false, cond_t, if_pos hs]
    exact stale hs
  rw [dec_t d2, Bool.not_true, cond_f]
  by_cases d3 : m.beg < cc.ver
  · have hs : m.stale cc i = true := by simp [TM.stale, d3]
    rw [dec_t d3, cond_t, if_pos hs]
    exact stale hs
  rw [dec_f d3, cond_f]
  by_cases d4 : aok (alook m.σ.reads i) = true
  · rw [d4, cond_t]
    by_cases d5 : aval (alook m.σ.reads i) = cc.ver
    · have hs : m.stale cc i = false := by simp [TM.stale, d2, d3, d5]
      rw [dec_t d5, Bool.not_true, if_neg (by simp [hs])]
      exact fine hs
    · have hs : m.stale cc i = true := by simp [TM.stale, d4, d5]
      rw [dec_f d5, Bool.not_false, if_pos hs]
      exact stale hs
  · have hs : m.stale cc i = false := by simp [TM.stale, d2, d3, d4]
    rw [Bool.eq_false_iff.mpr d4, cond_f, if_neg (by simp [hs])]
    exact fine hs
theorem RNew (w : H h (aMem p q cs clk :: F)) {o : Int} (ho : 1 ≤ o) : Ok (C k_ref16_New [at0 p, .int .i64 o] h) fun y h' => ∃ r, y = .tuple #[ptr r, .int .i64 0] ∧ H h' (aRX p r (TM.new o clk) :: aMem p q cs clk :: F) := by
  refine Ok.le ?_ ref16_New_le
  unfold F_ref16_New
  rw [dec_f (by omega), cond_f]
  refine Ok.le ?_ ref16_New_j1_le
  have hM := mem_at w
  simp only [Option.bind_some, hM.clock]
  have wp := w.push (.cells [ptr p, .int .i64 o, .int .i64 clk, .slice none 0 0, .slice none 0 0, .slice none 0 0, .int .i64 1, .int .i64 0, .int .i64 0] false false 9)
  refine Ok.some ⟨h.n, rfl, RX_mk (m := TM.new o clk) (a := 0) (v := 0) (sn := []) ⟨Sn.new, fun _ => rfl, fun _ => rfl, fun h => by have : (1 : Int) = 2 := h; omega, fun _ => by show (false = true) ↔ ((0 + 1 + 0 : Nat) : Int) < 0; constructor <;> intro h <;> simp at h⟩ ?_⟩
  have q' : RR (UU p o clk 1 0 0) (h.push (.cells [ptr p, .int .i64 o, .int .i64 clk, .slice none 0 0, .slice none 0 0, .slice none 0 0, .int .i64 1, .int .i64 0, .int .i64 0] false false 9)) h.n ⟨none, 0, 0, none, 0, 0, none, 0, 0, []⟩ [] [] [] :=
    ⟨AH.get_push_eq _ _, .nil, .s .nil, .nil, fun k t h => by simp at h, rfl, (by
      simp only [RA.ls, List.map_nil, List.pairwise_cons, List.mem_cons, List.not_mem_nil, or_false]
      refine ⟨fun x hx b h1 h2 => ?_, fun x hx b h1 => (by cases h1), fun x hx b h1 => (by cases h1), fun x hx => hx.elim, List.Pairwise.nil⟩
      rcases hx with rfl | rfl | rfl <;> cases h2), by show h.n < h.n + 1; omega⟩
  refine (w.fresh (Φ' := fun h' => RR (UU p o clk 1 0 0) h' h.n ⟨none, 0, 0, none, 0, 0, none, 0, 0, []⟩ [] [] []) (S' := rown h.n ⟨none, 0, 0, none, 0, 0, none, 0, 0, []⟩) (Nat.le_succ _) (fun b hb => AH.get_push_ne _ (by omega)) (fun b hb => ?_) q'.live fun h'' hg => q'.same2 hg).imp fun m hm => ⟨_, hm⟩
  obtain ⟨x, hx, hb⟩ := hb
  simp only [RA.ls, List.map_nil, List.mem_cons, List.not_mem_nil, or_false] at hx
  rcases hx with rfl | rfl | rfl | rfl
  · obtain rfl : h.n = b := hb
    exact Nat.le_refl _
  all_goals cases hb
end
end Go.Lg.Tryz

namespace Go.Lg.Tryz
set_option linter.unusedVariables false
set_option linter.unusedSimpArgs false
open Go Go.Proofs
section
variable {h h' : AH} {r p q : Nat} {m : TM} {sn : List (List (Int × Int))} {cs : List Cel} {clk : Int} {F : List Asr}
theorem RC.failed {a' v' : Int} (s : Sn m.σ sn) : RC m.fail a' v' sn :=
  ⟨s, fun h => absurd rfl h, fun h => by have : (4 : Int) = 1 := h; omega, fun h => by have : (4 : Int) = 2 := h; omega, fun h => by rcases h with h | h <;> (have : (4 : Int) = _ := h; omega)⟩
end
end Go.Lg.Tryz
