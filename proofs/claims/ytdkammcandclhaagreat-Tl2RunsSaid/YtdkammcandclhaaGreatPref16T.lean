/- The document's transactions are as the model; over parts of memory. -/
import Derived.Test.YtdkammcandclhaaGreatFref16
import Derived.Test.YtdkammcandclhaaGreatPtl2M
import Derived.Test.YtdkammcandclhaaGreatPsetsSn
import Derived.Test.YtdkammcandclhaaGreatPref14
set_option linter.unusedVariables false
set_option linter.unusedSimpArgs false
namespace Go.Lg.Tryz
set_option linter.unusedVariables false
set_option linter.unusedSimpArgs false
open Go Go.Proofs
theorem OwE.live {h : AH} {sz : Nat} {a : Option Addr} {n c : Nat} {cs : List Value} (ho : OwE h sz a n c cs) : ∀ b, blk a b → (h.get b).isSome = true ∧ b < h.n := by
  cases ho with
  | s ho => exact ho.live
  | z hb hn => rintro b rfl; exact ⟨by rw [hb]; rfl, hn⟩
theorem OwE.same2 {h h' : AH} {sz : Nat} {a : Option Addr} {n c : Nat} {cs : List Value} (ho : OwE h sz a n c cs) (hg : ∀ b, blk a b → h'.get b = h.get b ∧ b < h'.n) : OwE h' sz a n c cs := by
  cases ho with
  | s ho => exact .s (ho.same2 hg)
  | z hb hn => exact .z (by rw [(hg _ rfl).1]; exact hb) (hg _ rfl).2
section
variable {u u' : Us} {h h' : AH} {r : Nat} {A A' : RA} {R W R' W' : List (Int × Int)} {sn sn' : List (List (Int × Int))} {F : List Asr}
theorem RR.live (q : RR u h r A R W sn) : ∀ b, rown r A b → (h.get b).isSome = true ∧ b < h.n := by
  rintro b ⟨a, ha, hb⟩
  simp only [RA.ls, List.mem_cons, List.mem_map] at ha
  rcases ha with rfl | rfl | rfl | rfl | ⟨t, ht, rfl⟩
  · obtain rfl : r = b := hb
    exact ⟨by rw [q.g]; rfl, q.n⟩
  · exact q.R.live b hb
  · exact q.W.live b hb
  · exact q.M.live b hb
  · obtain ⟨k, hk⟩ := List.getElem?_of_mem ht
    obtain ⟨w, _, h2⟩ := q.S k t hk
    exact h2.live b hb
theorem RR.same2 (q : RR u h r A R W sn) (hg : ∀ b, rown r A b → h'.get b = h.get b ∧ b < h'.n) : RR u h' r A R W sn :=
  ⟨by rw [(hg r RR.o0).1]; exact q.g, q.R.same2 fun b hb => hg b (RR.oR hb), q.W.same2 fun b hb => hg b (RR.oW hb), q.M.same2 fun b hb => hg b (RR.oM hb), fun k t hk => by
    obtain ⟨w, h1, h2⟩ := q.S k t hk
    exact ⟨w, h1, h2.same2 fun b hb => hg b (RR.oS hk hb)⟩, q.l, q.d, (hg r RR.o0).2⟩
def aRF (r : Nat) (u : Us) (R W : List (Int × Int)) (sn : List (List (Int × Int))) : Asr := fun m => ∃ A, Up (fun h => RR u h r A R W sn) (rown r A) m
theorem RF_at (w : H h (aRF r u R W sn :: F)) : ∃ A, RR u h r A R W sn := by
  obtain ⟨A, w⟩ := w.ex
  exact ⟨A, w.of_up⟩
theorem RF_run {x : Res} {P : Value → Prop} (hh : H h (aRF r u R W sn :: F)) (f : ∀ A, RR u h r A R W sn → Ok x fun v h' => P v ∧ ∃ A', RR u h' r A' R' W' sn' ∧ Mr r A A' h h') : Ok x fun v h' => P v ∧ H h' (aRF r u R' W' sn' :: F) := by
  obtain ⟨A, hh⟩ := hh.ex
  refine Ok.mono (f A hh.of_up) ?_
  rintro v h' ⟨p, A', q', m⟩
  refine ⟨p, ?_⟩
  exact (hh.run m.n (fun b hb hn => m.g b hb hn) m.o q'.live fun h'' hg => q'.same2 hg).imp fun m hm => ⟨A', hm⟩
def ucells (u : Us) (A : RA) : List Value := [u.a, u.b, u.c, .slice A.ra A.rn A.rc, .slice A.wa A.wn A.wc, .slice A.ma A.mn A.mc, u.d, u.e, u.f]
theorem RF_st {k : Nat} {v : Value} (w : H h (aRF r u R W sn :: F)) (u' : Us) (hk : k < 9) (e : ∀ A, AH.setL (ucells u A) (0 + k) [v] = ucells u' A) : ∃ h', h.st r (0 + k) [v] = some h' ∧ H h' (aRF r u' R W sn :: F) := by
  obtain ⟨A, w⟩ := w.ex
  have q := w.of_up
  have hst := AH.st_of (vs := [v]) (o := 0 + k) q.g (by simp only [List.length_cons, List.length_nil]; omega)
  have eq : AH.setL [u.a, u.b, u.c, .slice A.ra A.rn A.rc, .slice A.wa A.wn A.wc, .slice A.ma A.mn A.mc, u.d, u.e, u.f] (0 + k) [v] = ucells u' A := e A
  rw [eq] at hst
  refine ⟨_, hst, ?_⟩
  have hne : ∀ x, x ∈ A.ra :: A.wa :: A.ma :: A.sl.map (·.1) → ∀ b, blk x b → b ≠ r := fun x hx b hb e => by
    have := List.rel_of_pairwise_cons (show List.Pairwise dj (some ⟨r, 0, none⟩ :: A.ra :: A.wa :: A.ma :: A.sl.map (·.1)) from q.d) hx
    exact this r rfl (e ▸ hb)
  have q' : RR u' (h.set r (some (.cells (ucells u' A) false false 9))) r A R W sn :=
    ⟨AH.get_set_eq _ _ _, q.R.same2 fun b hb => ⟨AH.get_set_ne _ (hne A.ra (by simp) b hb), (q.R.live b hb).2⟩, q.W.same2 fun b hb => ⟨AH.get_set_ne _ (hne A.wa (by simp) b hb), (q.W.live b hb).2⟩, q.M.same2 fun b hb => ⟨AH.get_set_ne _ (hne A.ma (by simp) b hb), (q.M.live b hb).2⟩, fun k t hk => by
      obtain ⟨w, h1, h2⟩ := q.S k t hk
      exact ⟨w, h1, h2.same2 fun b hb => ⟨AH.get_set_ne _ (hne t.1 (by
        have : t ∈ A.sl := List.mem_of_getElem? hk
        simp only [List.mem_cons, List.mem_map]
        exact .inr (.inr (.inr ⟨t, this, rfl⟩))) b hb), (h2.live b hb).2⟩⟩, q.l, q.d, q.n⟩
  exact (w.run (h' := h.set r (some (.cells (ucells u' A) false false 9))) (Nat.le_refl _) (fun b hb hn => AH.get_set_ne _ fun e => hn (by rw [e]; exact RR.o0)) (fun b hb => .inl hb) q'.live fun h'' hg => q'.same2 hg).imp fun m hm => ⟨A, hm⟩
end
def UU (p : Nat) (o b st a v : Int) : Us := ⟨.pointer (some ⟨p, 0, none⟩), .int .i64 o, .int .i64 b, .int .i64 st, .int .i64 a, .int .i64 v⟩
/-- where an end is -/
structure RC (m : TM) (a v : Int) (sn : List (List (Int × Int))) : Prop where
  s : Sn m.σ sn
  v : m.st ≠ 4 → v = m.ver
  a1 : m.st = 1 → a = 0
  a2 : m.st = 2 → 0 ≤ a ∧ a ≤ 1000000 ∧ m.left = (planM (sortI (m.σ.writes.map Prod.fst)) (sortI (m.σ.reads.map Prod.fst))).drop a.toNat ∧ m.σ.writes ≠ []
  t : m.st = 1 ∨ m.st = 2 → (m.told = true ↔ ((m.σ.writes.length + 1 + m.σ.reads.length : Nat) : Int) < a)
def aRX (p r : Nat) (m : TM) : Asr := fun hp => ∃ a v sn, RC m a v sn ∧ aRF r (UU p m.owner m.beg m.st a v) m.σ.reads m.σ.writes sn hp
section
variable {h h' : AH} {r p q : Nat} {o b st a v : Int} {m : TM} {R W : List (Int × Int)} {sn : List (List (Int × Int))} {cs : List Cel} {clk : Int} {F : List Asr}
theorem RF0 (w : H h (aRF r (UU p o b st a v) R W sn :: F)) : h.ldP r (0 + 0) = some (some ⟨p, 0, none⟩) := by obtain ⟨A, q⟩ := RF_at w; exact AH.ldP_of q.g rfl
theorem RF1 (w : H h (aRF r (UU p o b st a v) R W sn :: F)) : h.ldI .i64 r (0 + 1) = some o := by obtain ⟨A, q⟩ := RF_at w; exact AH.ldI_of q.g rfl
theorem RF2 (w : H h (aRF r (UU p o b st a v) R W sn :: F)) : h.ldI .i64 r (0 + 2) = some b := by obtain ⟨A, q⟩ := RF_at w; exact AH.ldI_of q.g rfl
theorem RF6 (w : H h (aRF r (UU p o b st a v) R W sn :: F)) : h.ldI .i64 r (0 + 6) = some st := by obtain ⟨A, q⟩ := RF_at w; exact AH.ldI_of q.g rfl
theorem RF7 (w : H h (aRF r (UU p o b st a v) R W sn :: F)) : h.ldI .i64 r (0 + 7) = some a := by obtain ⟨A, q⟩ := RF_at w; exact AH.ldI_of q.g rfl
theorem RF8 (w : H h (aRF r (UU p o b st a v) R W sn :: F)) : h.ldI .i64 r (0 + 8) = some v := by obtain ⟨A, q⟩ := RF_at w; exact AH.ldI_of q.g rfl
theorem RX_at (w : H h (aRX p r m :: F)) : ∃ a v sn, RC m a v sn ∧ H h (aRF r (UU p m.owner m.beg m.st a v) m.σ.reads m.σ.writes sn :: F) := by
  obtain ⟨a, w⟩ := w.ex
  obtain ⟨v, w⟩ := w.ex
  obtain ⟨sn, w⟩ := w.ex
  obtain ⟨c, w⟩ := w.pu
  exact ⟨a, v, sn, c, w⟩
theorem RX_mk (c : RC m a v sn) (w : H h (aRF r (UU p m.owner m.beg m.st a v) m.σ.reads m.σ.writes sn :: F)) : H h (aRX p r m :: F) := w.imp fun hp x => ⟨a, v, sn, c, x⟩
theorem rfail_loop (l : List Int) {sa : Option Addr} {c : Nat} (hlen : l.length < 1000000) : ∀ (n k : Nat) {h : AH} {cs : List Cel}, l.length - k = n → k ≤ l.length → H h (aRd sa (l.flatMap encI) :: aRF r (UU p o b st a v) R W sn :: aMem p q cs clk :: F) →
    Ok (ref16_Tx_fail_L1 (some ⟨r, 0, none⟩) sa l.length c (k : Nat) h) fun x h' => x = .tuple #[] ∧ H h' (aRF r (UU p o b 4 a v) R W sn :: aMem p q (uns cs o (l.drop k)) clk :: F) := by
  intro n
  induction n with
  | zero =>
    intro k h cs hn hk w
    refine Ok.le ?_ ref16_Tx_fail_L1_le
    rw [dec_f (by omega), cond_f]
    refine Ok.le ?_ ref16_Tx_fail_j1_le
    obtain ⟨h1, e1, w1⟩ := RF_st (k := 6) (v := .int .i64 4) w.drop (UU p o b 4 a v) (by decide) (fun _ => rfl)
    simp only [Option.bind_some, e1]
    rw [List.drop_of_length_le (by omega)]
    exact Ok.some ⟨rfl, w1⟩
  | succ n ih =>
    intro k h cs hn hk w
    refine Ok.le ?_ ref16_Tx_fail_L1_le
    rw [dec_t (by omega), cond_t]
    refine Ok.le ?_ ref16_Tx_fail_j3_le
    obtain ⟨x, hx⟩ : ∃ x, l[k]? = some x := ⟨_, List.getElem?_eq_getElem (by omega)⟩
    obtain ⟨ad, ha, g0⟩ := rdI w.rd hx
    have hb : inB ((k : Nat) : Int) l.length = true := inB_t (by omega) (by omega)
    have wT := w.u1
    rw [ha]
    simp only [Option.bind_some, hb, cond_t, Int.toNat_natCast, g0, RF0 wT, RF1 wT]
    rw [← ha]
    refine Ok.bind (mem_run (S := [q]) (by simp) w.u2 fun mm => runlock_ok mm x o) ?_
    rintro _ h2 ⟨rfl, w2⟩
    simp only [asI_i64, Option.bind_some]
    refine Ok.le ?_ ref16_Tx_fail_j2_le
    rw [show IntKind.wrap .i64 (((k : Nat) : Int) + 1) = ((k + 1 : Nat) : Int) by rw [wrap64 (by omega) (by omega)]; omega]
    have := ih (k + 1) (by omega) (by omega) w2.d2
    have hd : l.drop k = x :: l.drop (k + 1) := by
      obtain ⟨hl, e⟩ := List.getElem?_eq_some_iff.mp hx
      rw [List.drop_eq_getElem_cons hl, e]
    rw [hd]
    exact this
theorem rFail (w : H h (aRF r (UU p o b st a v) R W sn :: aMem p q cs clk :: F)) (ho : 1 ≤ o) (hcs : cs.length ≤ 1024) : Ok (C k_ref16_Tx_fail [ptr r] h) fun x h' => x = .tuple #[] ∧ H h' (aRF r (UU p o b 4 a v) R W sn :: aMem p q (freeM cs o) clk :: F) := by
  refine Ok.le ?_ ref16_Tx_fail_le
  simp only [F_ref16_Tx_fail, Option.bind_some, RF0 w, RF1 w]
  refine Ok.bind (rd_run w (rowned_ok (mem_at w.u1) o hcs)) ?_
  rintro _ h2 ⟨sa, c, rfl, w2⟩
  simp only [asS_s, Option.bind_some]
  have hle := ownedM_le cs o
  refine Ok.mono (rfail_loop (ownedM cs o) (by omega) _ 0 rfl (by omega) w2) ?_
  rintro x h' ⟨rfl, w3⟩
  rw [List.drop_zero, uns_owned ho] at w3
  exact ⟨rfl, w3⟩
theorem load_run (w : H h (aMem p q cs clk :: F)) (i : Int) : Ok (C k_ref14_Memory_Load [at0 p, .int .i64 i] h) fun v h' => v = .tuple #[.agg #[.int .i64 (loadM cs i).1.v, .int .i64 (loadM cs i).1.ver, .int .i64 (loadM cs i).1.own], .int .i64 (loadM cs i).2] ∧ H h' (aMem p q cs clk :: F) :=
  mem_run (S := []) (by simp) w fun mm => rload_ok mm i
theorem RSeen (w : H h (aRX p r m :: F)) (i : Int) (hl : m.σ.reads.length < 1000000) : C k_ref15_Sets_Seen [.pointer (some ⟨r, 0 + 3, none⟩), .int .i64 i] h = some (.tuple #[.int .i64 (aval (alook m.σ.reads i)), .bool (aok (alook m.σ.reads i))], h) := by
  obtain ⟨a, v, sn, c, w⟩ := RX_at w
  obtain ⟨A, q⟩ := RF_at w
  exact rseen q i hl
theorem RValue (w : H h (aRX p r m :: F)) (i : Int) (hl : m.σ.writes.length < 1000000) : C k_ref15_Sets_Value [.pointer (some ⟨r, 0 + 3, none⟩), .int .i64 i] h = some (.tuple #[.int .i64 (aval (alook m.σ.writes i)), .bool (aok (alook m.σ.writes i))], h) := by
  obtain ⟨a, v, sn, c, w⟩ := RX_at w
  obtain ⟨A, q⟩ := RF_at w
  exact rvalue q i hl
theorem loadM_e (cs : List Cel) (i : Int) : (loadM cs i).2 = if i < 0 ∨ (cs.length : Int) ≤ i then 2 else 0 := by
  unfold loadM
  split
  · rfl
  · rename_i h
    obtain ⟨c, hc⟩ : ∃ c, cs[i.toNat]? = some c := ⟨_, List.getElem?_eq_getElem (by omega)⟩
    rw [hc]
theorem openE_st {st : Int} {n : Nat} {i : Int} (h : st = 1) : openE st n i = if i < 0 ∨ (n : Int) ≤ i then 2 else 0 := by
  unfold openE; rw [if_neg (by simp [h])]
theorem RC.setσ {σ' : St} (c : RC m a v sn) (h1 : m.st = 1) (s' : Sn σ' sn) (hv : v = m.ver) : RC { m with σ := σ' } a v sn := by
  refine ⟨s', fun _ => hv, fun _ => c.a1 h1, fun h => absurd h (by show m.st ≠ 2; omega), fun _ => ?_⟩
  have h0 := c.a1 h1
  have := c.t (.inl h1)
  show m.told = true ↔ _
  constructor
  · intro h; have := this.mp h; omega
  · intro h; subst h0; omega
theorem RWrite (w : H h (aRX p r m :: aMem p q cs clk :: F)) (hl : m.σ.writes.length < 1000000) (i x : Int) : Ok (C k_ref16_Tx_Write [ptr r, .int .i64 i, .int .i64 x] h) fun y h' => y = .int .i64 (m.write cs.length i x).1 ∧ H h' (aRX p r (m.write cs.length i x).2 :: aMem p q cs clk :: F) := by
  obtain ⟨a, v, sn, c, w⟩ := RX_at w
  refine Ok.le ?_ ref16_Tx_Write_le
  simp only [F_ref16_Tx_Write, Option.bind_some, RF6 w]
  unfold TM.write
  by_cases h1 : m.st = 1
  rotate_left
  · rw [dec_f h1, Bool.not_false, cond_t]
    have e : openE m.st cs.length i = 132 := by unfold openE; rw [if_pos h1]
    rw [e, if_neg (by decide)]
    exact Ok.some ⟨rfl, RX_mk c w⟩
  rw [dec_t h1, Bool.not_true, cond_f, openE_st h1]
  refine Ok.le ?_ ref16_Tx_Write_j2_le
  simp only [Option.bind_some, RF0 w]
  refine Ok.bind (load_run w.u1 i) ?_
  rintro _ h2 ⟨rfl, w2⟩
  obtain ⟨h22, e22, w22, _⟩ := w2.var [.int .i64 0, .int .i64 0, .int .i64 0] [.int .i64 (loadM cs i).1.v, .int .i64 (loadM cs i).1.ver, .int .i64 (loadM cs i).1.own] 3 rfl
  have w23 := w22.drop.u1
  simp only [asTu_t, hdO_c, asAg_t, asI_i64, Option.bind_some, List.isEmpty_nil, cond_t, e22, loadM_e]
  by_cases c1 : i < 0 ∨ (cs.length : Int) ≤ i
  · rw [if_pos c1, dec_f (by decide), Bool.not_false, cond_t, if_neg (by decide)]
    exact Ok.some ⟨rfl, RX_mk c w23⟩
  rw [if_neg c1, dec_t rfl, Bool.not_true, cond_f, if_pos rfl]
  refine Ok.le ?_ ref16_Tx_Write_j1_le
  simp only [Option.bind_some]
  refine Ok.bind (RF_run w23 fun A q => rwrite q i x hl) ?_
  rintro _ h3 ⟨rfl, w3⟩
  simp only [asI_i64, Option.bind_some]
  obtain ⟨we1, we2, we3⟩ := Sn.write_eq (σ := m.σ) i x
  refine Ok.some ⟨by rw [we1], RX_mk (c.setσ h1 (c.s.write i x) (c.v (by omega))) ?_⟩
  show H h3 (aRF r (UU p m.owner m.beg m.st a v) (m.σ.write i x).2.reads (m.σ.write i x).2.writes sn :: _)
  rw [we2, we3]
  exact w3
theorem RMark (w : H h (aRX p r m :: F)) (hl : m.σ.writes.length < 1000000) (hm : m.σ.marks.length ≤ 8) (hmo : Mo m.σ) : Ok (C k_ref16_Tx_Scope [ptr r, .int .i64 0] h) fun y h' => y = .int .i64 m.mark.1 ∧ H h' (aRX p r m.mark.2 :: F) := by
  obtain ⟨a, v, sn, c, w⟩ := RX_at w
  refine Ok.le ?_ ref16_Tx_Scope_le
  simp only [F_ref16_Tx_Scope, Option.bind_some, RF6 w]
  unfold TM.mark
  by_cases h1 : m.st = 1
  rotate_left
  · rw [dec_f h1, Bool.not_false, cond_t, if_neg h1]
    exact Ok.some ⟨rfl, RX_mk c w⟩
  rw [dec_t h1, Bool.not_true, cond_f, if_pos h1]
  refine Ok.le ?_ ref16_Tx_Scope_j3_le
  rw [dec_t rfl, cond_t]
  simp only [Option.bind_some]
  refine Ok.bind (RF_run w fun A q => rmark q hl (by rw [c.s.l]; exact hm)) ?_
  rintro _ h3 ⟨rfl, w3⟩
  simp only [asI_i64, Option.bind_some]
  refine Ok.some ⟨by rw [c.s.l]; unfold St.mark; split <;> rfl, RX_mk (c.setσ h1 c.s (c.v (by omega)) |> fun c' => ⟨c.s.mark hmo, c'.v, c'.a1, fun h => absurd h (by show m.st ≠ 2; omega), by
    obtain ⟨e1, e2⟩ := Sn.mark_eq (σ := m.σ)
    have := c'.t
    intro h
    show m.told = true ↔ ((m.σ.mark.2.writes.length + 1 + m.σ.mark.2.reads.length : Nat) : Int) < a
    rw [e1, e2]; exact this h⟩) ?_⟩
  obtain ⟨e1, e2⟩ := Sn.mark_eq (σ := m.σ)
  show H h3 (aRF r (UU p m.owner m.beg m.st a v) m.σ.mark.2.reads m.σ.mark.2.writes _ :: _)
  rw [e1, e2]
  exact w3
theorem RKeep (w : H h (aRX p r m :: F)) (hm : m.σ.marks.length ≤ 8) : Ok (C k_ref16_Tx_Scope [ptr r, .int .i64 1] h) fun y h' => y = .int .i64 m.keep.1 ∧ H h' (aRX p r m.keep.2 :: F) := by
  obtain ⟨a, v, sn, c, w⟩ := RX_at w
  refine Ok.le ?_ ref16_Tx_Scope_le
  simp only [F_ref16_Tx_Scope, Option.bind_some, RF6 w]
  unfold TM.keep
  by_cases h1 : m.st = 1
  rotate_left
  · rw [dec_f h1, Bool.not_false, cond_t, if_neg h1]
    exact Ok.some ⟨rfl, RX_mk c w⟩
  rw [dec_t h1, Bool.not_true, cond_f, if_pos h1]
  refine Ok.le ?_ ref16_Tx_Scope_j3_le
  rw [dec_f (by decide), cond_f]
  refine Ok.le ?_ ref16_Tx_Scope_j2_le
  rw [dec_t rfl, cond_t]
  simp only [Option.bind_some]
  refine Ok.bind (RF_run w fun A q => rkeep q (by rw [c.s.l]; exact hm)) ?_
  rintro _ h3 ⟨rfl, w3⟩
  simp only [asI_i64, Option.bind_some]
  obtain ⟨e1, e2⟩ := Sn.keep_eq (σ := m.σ)
  have c' := c.setσ h1 c.s (c.v (by omega))
  refine Ok.some ⟨by rw [c.s.l]; unfold St.keep; split <;> rfl, RX_mk (m := { m with σ := m.σ.keep.2 }) ⟨c.s.keep, c'.v, c'.a1, fun h => absurd h (by show m.st ≠ 2; omega), by
    intro h
    show m.told = true ↔ ((m.σ.keep.2.writes.length + 1 + m.σ.keep.2.reads.length : Nat) : Int) < a
    rw [e1, e2]; exact c'.t h⟩ ?_⟩
  show H h3 (aRF r (UU p m.owner m.beg m.st a v) m.σ.keep.2.reads m.σ.keep.2.writes _ :: _)
  rw [e1, e2]
  exact w3
theorem RUndo (w : H h (aRX p r m :: F)) (hm : m.σ.marks.length ≤ 8) (hmo : Mo m.σ) : Ok (C k_ref16_Tx_Scope [ptr r, .int .i64 2] h) fun y h' => y = .int .i64 m.undo.1 ∧ H h' (aRX p r m.undo.2 :: F) := by
  obtain ⟨a, v, sn, c, w⟩ := RX_at w
  refine Ok.le ?_ ref16_Tx_Scope_le
  simp only [F_ref16_Tx_Scope, Option.bind_some, RF6 w]
  unfold TM.undo
  by_cases h1 : m.st = 1
  rotate_left
  · rw [dec_f h1, Bool.not_false, cond_t, if_neg h1]
    exact Ok.some ⟨rfl, RX_mk c w⟩
  rw [dec_t h1, Bool.not_true, cond_f, if_pos h1]
  refine Ok.le ?_ ref16_Tx_Scope_j3_le
  rw [dec_f (by decide), cond_f]
  refine Ok.le ?_ ref16_Tx_Scope_j2_le
  rw [dec_f (by decide), cond_f]
  refine Ok.le ?_ ref16_Tx_Scope_j1_le
  simp only [Option.bind_some]
  refine Ok.bind (RF_run w fun A q => rundo q (by rw [c.s.l]; exact hm)) ?_
  rintro _ h3 ⟨rfl, w3⟩
  simp only [asI_i64, Option.bind_some]
  obtain ⟨s2, e1, e2⟩ := c.s.undo hmo
  have h0 := c.a1 h1
  have ht := c.t (.inl h1)
  refine Ok.some ⟨by rw [c.s.l]; unfold St.undo; split <;> rfl, RX_mk (m := { m with σ := m.σ.undo.2 }) ⟨s2, fun _ => c.v (by omega), fun _ => h0, fun h => absurd h (by show m.st ≠ 2; omega), by
    intro h
    show m.told = true ↔ ((m.σ.undo.2.writes.length + 1 + m.σ.undo.2.reads.length : Nat) : Int) < a
    constructor
    · intro h; have := ht.mp h; omega
    · intro h; omega⟩ ?_⟩
  show H h3 (aRF r (UU p m.owner m.beg m.st a v) m.σ.undo.2.reads m.σ.undo.2.writes _ :: _)
  rw [e1, e2]
  exact w3
theorem RRead (w : H h (aRX p r m :: aMem p q cs clk :: F)) (hl : m.σ.writes.length < 1000000) (hrl : m.σ.reads.length < 1000000) (ho : 1 ≤ m.owner) (hcs : cs.length ≤ 1024) (i : Int) : Ok (C k_ref16_Tx_Read [ptr r, .int .i64 i] h) fun y h' => y = .tuple #[.int .i64 (m.read cs i).1.1, .int .i64 (m.read cs i).1.2] ∧ H h' (aRX p r (m.read cs i).2.1 :: aMem p q (m.read cs i).2.2 clk :: F) := by
  obtain ⟨a, v, sn, c, w⟩ := RX_at w
  refine Ok.le ?_ ref16_Tx_Read_le
  simp only [F_ref16_Tx_Read, Option.bind_some, RF6 w]
  unfold TM.read
  by_cases h1 : m.st = 1
  rotate_left
  · rw [dec_f h1, Bool.not_false, cond_t]
    have e : openE m.st cs.length i = 132 := by unfold openE; rw [if_pos h1]
    rw [e, if_pos (by decide)]
    exact Ok.some ⟨rfl, RX_mk c w⟩
  rw [dec_t h1, Bool.not_true, cond_f, openE_st h1]
  refine Ok.le ?_ ref16_Tx_Read_j6_le
  simp only [Option.bind_some, RF0 w]
  refine Ok.bind (load_run w.u1 i) ?_
  rintro _ h2 ⟨rfl, w2⟩
  obtain ⟨h21, e21, w21, _⟩ := w2.var [.int .i64 0, .int .i64 0, .int .i64 0] [.int .i64 (loadM cs i).1.v, .int .i64 (loadM cs i).1.ver, .int .i64 (loadM cs i).1.own] 3 rfl
  simp only [asTu_t, hdO_c, asAg_t, asI_i64, Option.bind_some, List.isEmpty_nil, cond_t, e21, loadM_e]
  generalize hcc : (loadM cs i).1 = cc at w21 ⊢
  generalize h2.n = cb at w21 ⊢
  by_cases c1 : i < 0 ∨ (cs.length : Int) ≤ i
  · rw [if_pos c1, dec_f (by decide), Bool.not_false, cond_t, if_pos (by decide)]
    exact Ok.some ⟨rfl, RX_mk c w21.drop.u1⟩
  rw [if_neg c1, dec_t rfl, Bool.not_true, cond_f, if_neg (by decide)]
  refine Ok.le ?_ ref16_Tx_Read_j5_le
  have w22 := w21.pm [2, 1, 0]
  obtain ⟨A, qr⟩ := RF_at w22
  simp only [Option.bind_some, rvalue qr i hl, asTu_t, hdO_c, asI_i64, asB_b, List.isEmpty_nil, cond_t]
  by_cases c2 : aok (alook m.σ.writes i) = true
  · rw [if_pos c2, c2, cond_t]
    exact Ok.some ⟨rfl, RX_mk c w21.drop.u1⟩
  rw [if_neg c2, Bool.eq_false_iff.mpr c2, cond_f]
  refine Ok.le ?_ ref16_Tx_Read_j4_le
  simp only [Option.bind_some, rseen qr i hrl, asTu_t, hdO_c, asI_i64, asB_b, List.isEmpty_nil, cond_t, AH.ldI_of (k := .i64) (o := 0 + 2) w21.get rfl, AH.ldI_of (k := .i64) (o := 0 + 1) w21.get rfl, RF2 w22]
  have stale : m.stale cc i = true → Ok (ref16_Tx_Read_j3 (some ⟨r, 0, none⟩) (some ⟨cb, 0, none⟩) i true h21) fun x h' => x = .tuple #[.int .i64 (0, (131 : Int)).1, .int .i64 (0, (131 : Int)).2] ∧ H h' (aRX p r m.fail :: aMem p q (freeM cs m.owner) clk :: F) := fun hs => by
    refine Ok.le ?_ ref16_Tx_Read_j3_le
    rw [cond_t]
    refine Ok.bind (rFail (w21.pm [2, 1, 0]) ho hcs) ?_
    rintro _ h4 ⟨rfl, w4⟩
    simp only [asTu_t, Option.bind_some, List.isEmpty_nil, cond_t]
    refine Ok.some ⟨rfl, RX_mk (m := m.fail) (a := a) (v := v) (sn := sn) ⟨c.s, fun h => absurd rfl h, fun h => by have : (4 : Int) = 1 := h; omega, fun h => by have : (4 : Int) = 2 := h; omega, fun h => by rcases h with h | h <;> · have : (4 : Int) = _ := h; omega⟩ ((w4.mv 2 rfl).drop)⟩
  have fine : m.stale cc i = false → Ok (ref16_Tx_Read_j3 (some ⟨r, 0, none⟩) (some ⟨cb, 0, none⟩) i false h21) fun x h' => x = .tuple #[.int .i64 (if (m.σ.read i cc.ver).1 ≠ 0 then ((0, (m.σ.read i cc.ver).1), { m with σ := (m.σ.read i cc.ver).2 }, cs) else ((cc.v, 0), { m with σ := (m.σ.read i cc.ver).2 }, cs) : (Int × Int) × TM × List Cel).1.1, .int .i64 (if (m.σ.read i cc.ver).1 ≠ 0 then ((0, (m.σ.read i cc.ver).1), { m with σ := (m.σ.read i cc.ver).2 }, cs) else ((cc.v, 0), { m with σ := (m.σ.read i cc.ver).2 }, cs) : (Int × Int) × TM × List Cel).1.2] ∧
      H h' (aRX p r (if (m.σ.read i cc.ver).1 ≠ 0 then ((0, (m.σ.read i cc.ver).1), { m with σ := (m.σ.read i cc.ver).2 }, cs) else ((cc.v, 0), { m with σ := (m.σ.read i cc.ver).2 }, cs) : (Int × Int) × TM × List Cel).2.1 :: aMem p q (if (m.σ.read i cc.ver).1 ≠ 0 then ((0, (m.σ.read i cc.ver).1), { m with σ := (m.σ.read i cc.ver).2 }, cs) else ((cc.v, 0), { m with σ := (m.σ.read i cc.ver).2 }, cs) : (Int × Int) × TM × List Cel).2.2 clk :: F) := fun hs => by
    refine Ok.le ?_ ref16_Tx_Read_j3_le
    rw [cond_f]
    refine Ok.le ?_ ref16_Tx_Read_j2_le
    simp only [Option.bind_some, AH.ldI_of (k := .i64) (o := 0 + 1) w21.get rfl]
    refine Ok.bind (RF_run (w21.pm [2, 1, 0]) fun A q => rread q i cc.ver hrl) ?_
    rintro _ h4 ⟨rfl, w4⟩
    rw [asI_i64, Option.bind_some]
    have rx : H h4 (aRX p r { m with σ := (m.σ.read i cc.ver).2 } :: _) := RX_mk (m := { m with σ := (m.σ.read i cc.ver).2 }) (c.setσ h1 (c.s.read i cc.ver) (c.v (by omega))) w4
    by_cases d : (m.σ.read i cc.ver).1 = 0
    · have d' : (readM m.σ.reads i cc.ver).1 = 0 := d
      rw [dec_t d', Bool.not_true, cond_f, if_neg (by simp [d])]
      refine Ok.le ?_ ref16_Tx_Read_j1_le
      simp only [Option.bind_some, AH.ldI_of (k := .i64) (o := 0 + 0) (rx.g 2 rfl) rfl]
      exact Ok.some ⟨rfl, (rx.mv 2 rfl).drop⟩
    · have d' : ¬(readM m.σ.reads i cc.ver).1 = 0 := d
      rw [dec_f d', Bool.not_false, cond_t, if_pos d]
      exact Ok.some ⟨rfl, (rx.mv 2 rfl).drop⟩
  by_cases d2 : cc.own = 0
  rotate_left
  · have hs : m.stale cc i = true := by simp [TM.stale, d2]
    rw [dec_f d2, Bool.not_false, cond_t, if_pos hs]
    exact stale hs
  rw [dec_t d2, Bool.not_true, cond_f]
  by_cases d3 : m.beg < cc.ver
  · have hs : m.stale cc i = true := by simp [TM.stale, d3]
    rw [dec_t d3, cond_t, if_pos hs]
    exact stale hs
  rw [dec_f d3, cond_f]
  by_cases d4 : aok (alook m.σ.reads i) = true
  · rw [d4, cond_t]
    by_cases d5 : aval (alook m.σ.reads i) = cc.ver
    · have hs : m.stale cc i = false := by simp [TM.stale, d2, d3, d5]
      rw [dec_t d5, Bool.not_true, if_neg (by simp [hs])]
      exact fine hs
    · have hs : m.stale cc i = true := by simp [TM.stale, d4, d5]
      rw [dec_f d5, Bool.not_false, if_pos hs]
      exact stale hs
  · have hs : m.stale cc i = false := by simp [TM.stale, d2, d3, d4]
    rw [Bool.eq_false_iff.mpr d4, cond_f, if_neg (by simp [hs])]
    exact fine hs
theorem RNew (w : H h (aMem p q cs clk :: F)) {o : Int} (ho : 1 ≤ o) : Ok (C k_ref16_New [at0 p, .int .i64 o] h) fun y h' => ∃ r, y = .tuple #[ptr r, .int .i64 0] ∧ H h' (aRX p r (TM.new o clk) :: aMem p q cs clk :: F) := by
  refine Ok.le ?_ ref16_New_le
  unfold F_ref16_New
  rw [dec_f (by omega), cond_f]
  refine Ok.le ?_ ref16_New_j1_le
  have hM := mem_at w
  simp only [Option.bind_some, hM.clock]
  have wp := w.push (.cells [ptr p, .int .i64 o, .int .i64 clk, .slice none 0 0, .slice none 0 0, .slice none 0 0, .int .i64 1, .int .i64 0, .int .i64 0] false false 9)
  refine Ok.some ⟨h.n, rfl, RX_mk (m := TM.new o clk) (a := 0) (v := 0) (sn := []) ⟨Sn.new, fun _ => rfl, fun _ => rfl, fun h => by have : (1 : Int) = 2 := h; omega, fun _ => by show (false = true) ↔ ((0 + 1 + 0 : Nat) : Int) < 0; constructor <;> intro h <;> simp at h⟩ ?_⟩
  have q' : RR (UU p o clk 1 0 0) (h.push (.cells [ptr p, .int .i64 o, .int .i64 clk, .slice none 0 0, .slice none 0 0, .slice none 0 0, .int .i64 1, .int .i64 0, .int .i64 0] false false 9)) h.n ⟨none, 0, 0, none, 0, 0, none, 0, 0, []⟩ [] [] [] :=
    ⟨AH.get_push_eq _ _, .nil, .s .nil, .nil, fun k t h => by simp at h, rfl, (by
      simp only [RA.ls, List.map_nil, List.pairwise_cons, List.mem_cons, List.not_mem_nil, or_false]
      refine ⟨fun x hx b h1 h2 => ?_, fun x hx b h1 => (by cases h1), fun x hx b h1 => (by cases h1), fun x hx => hx.elim, List.Pairwise.nil⟩
      rcases hx with rfl | rfl | rfl <;> cases h2), by show h.n < h.n + 1; omega⟩
  refine (w.fresh (Φ' := fun h' => RR (UU p o clk 1 0 0) h' h.n ⟨none, 0, 0, none, 0, 0, none, 0, 0, []⟩ [] [] []) (S' := rown h.n ⟨none, 0, 0, none, 0, 0, none, 0, 0, []⟩) (Nat.le_succ _) (fun b hb => AH.get_push_ne _ (by omega)) (fun b hb => ?_) q'.live fun h'' hg => q'.same2 hg).imp fun m hm => ⟨_, hm⟩
  obtain ⟨x, hx, hb⟩ := hb
  simp only [RA.ls, List.map_nil, List.mem_cons, List.not_mem_nil, or_false] at hx
  rcases hx with rfl | rfl | rfl | rfl
  · obtain rfl : h.n = b := hb
    exact Nat.le_refl _
  all_goals cases hb
end
end Go.Lg.Tryz

namespace Go.Lg.Tryz
set_option linter.unusedVariables false
set_option linter.unusedSimpArgs false
open Go Go.Proofs
theorem planM_get {W R : List Int} (hW : W ≠ []) (k : Nat) : (planM W R)[k]? = if k < W.length then (W[k]?).map Stp.lock else if k = W.length then some .adv else if k < W.length + 1 + R.length then (R[k - W.length - 1]?).map Stp.chk else if k < W.length + 1 + R.length + W.length then some (Stp.pub (W.getD (k - W.length - 1 - R.length) 0) (k - W.length - 1 - R.length)) else none := by
  unfold planM
  rw [if_neg hW]
  by_cases c1 : k < W.length
  · rw [if_pos c1, List.getElem?_append_left (by simp; omega), List.getElem?_append_left (by simp; omega), List.getElem?_append_left (by simpa using c1), List.getElem?_map]
  rw [if_neg c1]
  by_cases c2 : k = W.length
  · rw [if_pos c2, List.getElem?_append_left (by simp; omega), List.getElem?_append_left (by simp; omega), List.getElem?_append_right (by simp; omega)]
    simp [c2]
  rw [if_neg c2]
  by_cases c3 : k < W.length + 1 + R.length
  · rw [if_pos c3, List.getElem?_append_left (by simp; omega), List.getElem?_append_right (by simp; omega)]
    simp only [List.length_append, List.length_map, List.length_singleton, List.getElem?_map, show k - (W.length + 1) = k - W.length - 1 by omega]
  rw [if_neg c3, List.getElem?_append_right (by simp; omega)]
  simp only [List.length_append, List.length_map, List.length_singleton, List.getElem?_map, show k - (W.length + 1 + R.length) = k - W.length - 1 - R.length by omega]
  by_cases c4 : k < W.length + 1 + R.length + W.length
  · rw [if_pos c4, List.getElem?_range (by omega)]; rfl
  · rw [if_neg c4, List.getElem?_eq_none (by simp; omega)]; rfl
theorem planM_len {W R : List Int} (hW : W ≠ []) : (planM W R).length = W.length + 1 + R.length + W.length := by
  unfold planM
  rw [if_neg hW]
  simp
  omega
section
variable {h h' : AH} {r p q : Nat} {m : TM} {sn : List (List (Int × Int))} {cs : List Cel} {clk : Int} {F : List Asr}
theorem RWrites (w : H h (aRX p r m :: F)) (hl : m.σ.writes.length < 1000000) : Ok (C k_ref15_Sets_Writes [.pointer (some ⟨r, 0 + 3, none⟩)] h) fun x h' => ∃ a c, x = .slice a m.σ.writes.length c ∧ H h' (aOw 1 a m.σ.writes.length c ((sortI (m.σ.writes.map Prod.fst)).flatMap encI) :: aRX p r m :: F) := by
  obtain ⟨a, v, sn, c, w⟩ := RX_at w
  obtain ⟨A, qr⟩ := RF_at w
  refine Ok.mono (fresh_run w (rwrites qr hl)) ?_
  rintro x h' ⟨a', c', rfl, _, w2⟩
  exact ⟨a', c', rfl, (RX_mk c w2.u1).u1⟩
theorem RReads (w : H h (aRX p r m :: F)) (hl : m.σ.reads.length < 1000000) : Ok (C k_ref15_Sets_Reads [.pointer (some ⟨r, 0 + 3, none⟩)] h) fun x h' => ∃ a c, x = .slice a m.σ.reads.length c ∧ H h' (aOw 1 a m.σ.reads.length c ((sortI (m.σ.reads.map Prod.fst)).flatMap encI) :: aRX p r m :: F) := by
  obtain ⟨a, v, sn, c, w⟩ := RX_at w
  obtain ⟨A, qr⟩ := RF_at w
  refine Ok.mono (fresh_run w (rreads qr hl)) ?_
  rintro x h' ⟨a', c', rfl, _, w2⟩
  exact ⟨a', c', rfl, (RX_mk c w2.u1).u1⟩
theorem RC.failed {a' v' : Int} (s : Sn m.σ sn) : RC m.fail a' v' sn :=
  ⟨s, fun h => absurd rfl h, fun h => by have : (4 : Int) = 1 := h; omega, fun h => by have : (4 : Int) = 2 := h; omega, fun h => by rcases h with h | h <;> (have : (4 : Int) = _ := h; omega)⟩
theorem RAbort (w : H h (aRX p r m :: aMem p q cs clk :: F)) (hst : m.st = 1 ∨ m.st = 2 ∨ m.st = 3 ∨ m.st = 4) (hwl : m.σ.writes.length < 1000000) (hrl : m.σ.reads.length < 1000000) (ho : 1 ≤ m.owner) (hcs : cs.length ≤ 1024) : Ok (C k_ref16_Tx_Abort [ptr r] h) fun x h' => x = .int .i64 (m.abort cs).1 ∧ H h' (aRX p r (m.abort cs).2.1 :: aMem p q (m.abort cs).2.2 clk :: F) := by
  obtain ⟨a, v, sn, c, w1⟩ := RX_at w
  refine Ok.le ?_ ref16_Tx_Abort_le
  obtain ⟨A, qr⟩ := RF_at w1
  simp only [F_ref16_Tx_Abort, Option.bind_some, RF7 w1]
  refine Ok.bind (fresh_run w1 (rwrites qr hwl)) ?_
  rintro _ h6 ⟨wa, wc, rfl, _, w6⟩
  obtain ⟨A6, qr6⟩ := RF_at w6.u1
  simp only [asS_s, Option.bind_some, RF7 w6.u1, veqO_int, cond_t]
  refine Ok.bind (fresh_run w6.drop (rreads qr6 hrl)) ?_
  rintro _ h10 ⟨ra, rc, rfl, _, w10⟩
  have wz := w10.drop
  obtain ⟨A10, qr10⟩ := RF_at wz
  have hsum : IntKind.wrap .i64 (IntKind.wrap .i64 (((m.σ.writes.length : Nat) : Int) + 1) + ((m.σ.reads.length : Nat) : Int)) = ((m.σ.writes.length + 1 + m.σ.reads.length : Nat) : Int) := by
    rw [wrap64 (x := ((m.σ.writes.length : Nat) : Int) + 1) (by omega) (by omega), wrap64 (by omega) (by omega)]; omega
  simp only [asS_s, Option.bind_some, veqO_int, cond_t, RF7 wz, hsum]
  -- what is told behind
  have J2 : ∀ h' bb (F' : List Asr), (m.st = 1 ∨ m.st = 2 → bb = m.told) → H h' (aRF r (UU p m.owner m.beg m.st a v) m.σ.reads m.σ.writes sn :: aMem p q cs clk :: F) → Ok (ref16_Tx_Abort_j2 (some ⟨r, 0, none⟩) bb h') fun x h' => x = .int .i64 (m.abort cs).1 ∧ H h' (aRX p r (m.abort cs).2.1 :: aMem p q (m.abort cs).2.2 clk :: F) := by
    intro h' bb F' hb w'
    refine Ok.le ?_ ref16_Tx_Abort_j2_le
    simp only [Option.bind_some, RF6 w']
    have no : m.over → Ok (some (Value.int .i64 132, h')) fun x h' => x = .int .i64 (m.abort cs).1 ∧ H h' (aRX p r (m.abort cs).2.1 :: aMem p q (m.abort cs).2.2 clk :: F) := fun ho => by
      unfold TM.abort; rw [if_pos ho]
      exact Ok.some ⟨rfl, RX_mk c w'⟩
    have yes : ¬m.over → Ok (ref16_Tx_Abort_j1 (some ⟨r, 0, none⟩) h') fun x h' => x = .int .i64 (m.abort cs).1 ∧ H h' (aRX p r (m.abort cs).2.1 :: aMem p q (m.abort cs).2.2 clk :: F) := fun hno => by
      unfold TM.abort; rw [if_neg hno]
      refine Ok.le ?_ ref16_Tx_Abort_j1_le
      refine Ok.bind (rFail w' ho hcs) ?_
      rintro _ h2 ⟨rfl, w2⟩
      obtain ⟨h3, e3, w3⟩ := RF_st (k := 8) (v := .int .i64 0) w2 (UU p m.owner m.beg 4 a 0) (by decide) (fun _ => rfl)
      simp only [asTu_t, Option.bind_some, List.isEmpty_nil, cond_t, e3]
      exact Ok.some ⟨rfl, RX_mk (m := m.fail) (RC.failed c.s) w3⟩
    have branch : m.st = 1 ∨ m.st = 2 → Ok (cond bb (some (Value.int .i64 132, h')) (ref16_Tx_Abort_j1 (some ⟨r, 0, none⟩) h')) fun x h' => x = .int .i64 (m.abort cs).1 ∧ H h' (aRX p r (m.abort cs).2.1 :: aMem p q (m.abort cs).2.2 clk :: F) := fun h12 => by
      rw [hb h12]
      cases ht : m.told with
      | true => rw [cond_t]; exact no (.inr (.inr ht))
      | false =>
        rw [cond_f]
        refine yes fun ho => ?_
        rcases ho with e | e | e
        · omega
        · omega
        · rw [ht] at e; cases e
    by_cases c1 : m.st = 1
    · rw [dec_t c1, Bool.not_true, cond_f]
      exact branch (.inl c1)
    · rw [dec_f c1, Bool.not_false, cond_t]
      by_cases c2 : m.st = 2
      · rw [dec_t c2, Bool.not_true, cond_f]
        exact branch (.inr c2)
      · rw [dec_f c2, Bool.not_false, cond_t]
        exact no (by rcases hst with e | e | e | e
                     · exact absurd e c1
                     · exact absurd e c2
                     · exact .inl e
                     · exact .inr (.inl e))
  by_cases c1 : ((m.σ.writes.length + 1 + m.σ.reads.length : Nat) : Int) < a
  · rw [dec_t c1, cond_t]
    refine Ok.bind (fresh_run wz (rwrites qr10 hwl)) ?_
    rintro _ h14 ⟨wa2, wc2, rfl, _, w14⟩
    simp only [asS_s, Option.bind_some]
    refine J2 h14 _ [] (fun h12 => ?_) w14.drop
    rw [(c.t h12).mpr c1]
    have : m.σ.writes ≠ [] := by
      rcases h12 with e | e
      · have := c.a1 e; omega
      · exact (c.a2 e).2.2.2
    have : 0 < m.σ.writes.length := List.length_pos_iff.mpr this
    rw [dec_t (by omega)]
  · rw [dec_f c1, cond_f]
    refine J2 h10 _ [] (fun h12 => ?_) wz
    cases ht : m.told with
    | true => exact absurd ((c.t h12).mp ht) c1
    | false => rfl
/-- what a step of the end leaves -/
theorem rdO {h : AH} {a : Option Addr} {n c : Nat} {l : List Int} {F : List Asr} (w : H h (aOw 1 a n c (l.flatMap encI) :: F)) {k : Nat} {x : Int} (hx : l[k]? = some x) : ∃ ad, a = some ad ∧ h.ldI .i64 ad.block (ad.off + k * 1) = some x := rdI w.ow.rd hx
theorem wI {x : Int} (h1 : -1000000000 ≤ x) (h2 : x ≤ 1000000000) : IntKind.wrap .i64 x = x := wrap64 (by omega) (by omega)
theorem rstep_on {a v : Int} {s : Stp} {lf : List Stp} {wa ra : Option Addr} {wc rc : Nat} (c : RC m a v sn) (h2 : m.st = 2) (hl : m.left = s :: lf) (ho : 1 ≤ m.owner) (hcs : cs.length ≤ 1024) (hwl : m.σ.writes.length ≤ 300) (hrl : m.σ.reads.length ≤ 300)
    (w : H h (aRF r (UU p m.owner m.beg 2 a v) m.σ.reads m.σ.writes sn :: aMem p q cs clk :: aOw 1 wa m.σ.writes.length wc ((sortI (m.σ.writes.map Prod.fst)).flatMap encI) :: aOw 1 ra m.σ.reads.length rc ((sortI (m.σ.reads.map Prod.fst)).flatMap encI) :: F)) :
    Ok (ref16_Tx_Step_j3 (some ⟨r, 0, none⟩) wa m.σ.writes.length wc ra m.σ.reads.length rc h) fun x h' => x = .tuple #[.int .i64 (m.go cs clk).1.1, .int .i64 (m.go cs clk).1.2] ∧ H h' (aRX p r (m.go cs clk).2.1 :: aMem p q (m.go cs clk).2.2.1 (m.go cs clk).2.2.2 :: F) := by
  obtain ⟨a0, a1, a2, a3⟩ := c.a2 h2
  have hWl : (sortI (m.σ.writes.map Prod.fst)).length = m.σ.writes.length := by rw [sortI_len, List.length_map]
  have hRl : (sortI (m.σ.reads.map Prod.fst)).length = m.σ.reads.length := by rw [sortI_len, List.length_map]
  generalize hWS : sortI (m.σ.writes.map Prod.fst) = WS at *
  generalize hRS : sortI (m.σ.reads.map Prod.fst) = RS at *
  have hne : WS ≠ [] := fun e => by rw [e] at hWl; exact a3 (List.eq_nil_of_length_eq_zero (by simpa using hWl.symm))
  have hd : (planM WS RS).drop a.toNat = s :: lf := by rw [← a2, hl]
  have hs : (planM WS RS)[a.toNat]? = some s := by
    have := congrArg (·[0]?) hd
    simpa using this
  have hlf : lf = (planM WS RS).drop (a + 1).toNat := by
    have := congrArg List.tail hd
    rw [List.tail_drop] at this
    rw [show (a + 1).toNat = a.toNat + 1 by omega]; exact this.symm
  have han : a.toNat < (planM WS RS).length := (List.getElem?_eq_some_iff.mp hs).1
  rw [planM_len hne] at han
  rw [planM_get hne] at hs
  have told_no : ¬ ((m.σ.writes.length + 1 + m.σ.reads.length : Nat) : Int) < a → m.told = false := fun hn => by
    cases ht : m.told with
    | true => exact absurd ((c.t (.inr h2)).mp ht) hn
    | false => rfl
  -- the ends
  have bad : ∀ (h' : AH) (m' : TM) (cs' : List Cel) (clk' e v' : Int) (F' : List Asr), e ≠ 0 → (m.eff cs clk s) = ((false, e), m', cs', clk') → m'.σ = m.σ → m'.owner = m.owner → m'.beg = m.beg → cs'.length = cs.length → H h' (aRF r (UU p m.owner m.beg 2 (a + 1) v') m.σ.reads m.σ.writes sn :: aMem p q cs' clk' :: F) →
      Ok (ref16_Tx_Step_j2 (some ⟨r, 0, none⟩) e h') fun x h' => x = .tuple #[.int .i64 (m.go cs clk).1.1, .int .i64 (m.go cs clk).1.2] ∧ H h' (aRX p r (m.go cs clk).2.1 :: aMem p q (m.go cs clk).2.2.1 (m.go cs clk).2.2.2 :: F) := by
    intro h' m' cs' clk' e v' F' he hr k1 k2 k3 k4 w'
    refine Ok.le ?_ ref16_Tx_Step_j2_le
    have hgo : m.go cs clk = ((4, e), m'.fail, freeM cs' m.owner, clk') := by unfold TM.go; rw [hl]; simp only [hr]; rw [if_pos he]
    rw [dec_f he, Bool.not_false, cond_t, hgo]
    refine Ok.bind (rFail w' ho (by rw [k4]; exact hcs)) ?_
    rintro _ h3 ⟨rfl, w3⟩
    obtain ⟨h4, e4, w4⟩ := RF_st (k := 8) (v := .int .i64 0) w3 (UU p m.owner m.beg 4 (a + 1) 0) (by decide) (fun _ => rfl)
    simp only [asTu_t, Option.bind_some, List.isEmpty_nil, cond_t, e4]
    refine Ok.le ?_ ref16_Tx_Step_j1_le
    simp only [Option.bind_some, RF6 w4]
    have c' : RC m'.fail (a + 1) 0 sn := RC.failed (by rw [k1]; exact c.s)
    refine Ok.some ⟨rfl, RX_mk (m := m'.fail) (a := a + 1) (v := 0) (sn := sn) c' ?_⟩
    show H h4 (aRF r (UU p m'.owner m'.beg 4 (a + 1) 0) m'.σ.reads m'.σ.writes sn :: _)
    rw [k1, k2, k3]
    exact w4
  have good : ∀ (h' : AH) (m' : TM) (cs' : List Cel) (clk' v' : Int) (F' : List Asr), (m.eff cs clk s) = ((false, 0), m', cs', clk') → m'.σ = m.σ → m'.owner = m.owner → m'.beg = m.beg → m'.st = 2 → v' = m'.ver → m'.told = m.told → a.toNat < WS.length + 1 + RS.length → H h' (aRF r (UU p m.owner m.beg 2 (a + 1) v') m.σ.reads m.σ.writes sn :: aMem p q cs' clk' :: F) →
      Ok (ref16_Tx_Step_j2 (some ⟨r, 0, none⟩) 0 h') fun x h' => x = .tuple #[.int .i64 (m.go cs clk).1.1, .int .i64 (m.go cs clk).1.2] ∧ H h' (aRX p r (m.go cs clk).2.1 :: aMem p q (m.go cs clk).2.2.1 (m.go cs clk).2.2.2 :: F) := by
    intro h' m' cs' clk' v' F' hr k1 k2 k3 k5 k6 k7 hlt w'
    refine Ok.le ?_ ref16_Tx_Step_j2_le
    have hgo : m.go cs clk = ((m.st, 0), { m' with left := lf }, cs', clk') := by unfold TM.go; rw [hl]; simp only [hr]; rw [if_neg (by simp), if_neg (by simp)]
    rw [dec_t rfl, Bool.not_true, cond_f, hgo]
    refine Ok.le ?_ ref16_Tx_Step_j1_le
    simp only [Option.bind_some, RF6 w']
    refine Ok.some ⟨by rw [h2], RX_mk (m := { m' with left := lf }) (a := a + 1) (v := v') (sn := sn) ⟨by show Sn m'.σ sn; rw [k1]; exact c.s, fun _ => k6, fun h => ?_, fun _ => ?_, fun _ => ?_⟩ ?_⟩
    · have : m'.st = 1 := h
      omega
    · show 0 ≤ a + 1 ∧ a + 1 ≤ 1000000 ∧ lf = (planM (sortI (m'.σ.writes.map Prod.fst)) (sortI (m'.σ.reads.map Prod.fst))).drop (a + 1).toNat ∧ m'.σ.writes ≠ []
      rw [k1, hWS, hRS]
      exact ⟨by omega, by omega, hlf, a3⟩
    · show m'.told = true ↔ ((m'.σ.writes.length + 1 + m'.σ.reads.length : Nat) : Int) < a + 1
      rw [k1, k7, told_no (by omega)]
      constructor
      · intro h; cases h
      · intro h; omega
    · show H h' (aRF r (UU p m'.owner m'.beg m'.st (a + 1) v') m'.σ.reads m'.σ.writes sn :: _)
      rw [k1, k2, k3, k5]
      exact w'
  -- the step
  refine Ok.le ?_ ref16_Tx_Step_j3_le
  have hw1 : IntKind.wrap .i64 (a + 1) = a + 1 := wI (by omega) (by omega)
  obtain ⟨h36, e36, w36⟩ := RF_st (k := 7) (v := .int .i64 (a + 1)) w (UU p m.owner m.beg 2 (a + 1) v) (by decide) (fun _ => rfl)
  simp only [Option.bind_some, RF7 w, hw1, e36]
  have hta : ((a.toNat : Nat) : Int) = a := by omega
  by_cases c1 : a.toNat < WS.length
  · rw [if_pos c1] at hs
    obtain ⟨x, hx, rfl⟩ := Option.map_eq_some_iff.mp hs
    obtain ⟨ad, ha, g0⟩ := rdO (w36.mv 2 rfl) hx
    have hb : inB a m.σ.writes.length = true := inB_t (by omega) (by omega)
    rw [dec_t (show a < ((m.σ.writes.length : Nat) : Int) by omega), cond_t]
    subst ha
    simp only [Option.bind_some, RF0 w36, RF1 w36, hb, cond_t, g0]
    refine Ok.bind (mem_run (S := [q]) (by simp) w36.u1 fun mm => rlock_ok mm x m.owner) ?_
    rintro _ h43 ⟨rfl, w43⟩
    simp only [asI_i64, Option.bind_some]
    have w44 := ((w43.u1.rm 2 rfl).rm 2 rfl)
    by_cases e : (lockM cs x m.owner).1 = 0
    · rw [e]
      exact good h43 m _ clk v [] (by show ((false, (lockM cs x m.owner).1), _) = _; rw [e]) rfl rfl rfl h2 (c.v (by omega)) rfl (by omega) w44
    · refine bad h43 m _ clk _ v [] e rfl rfl rfl rfl ?_ w44
      unfold lockM
      repeat' split
      all_goals simp
  rw [if_neg c1] at hs
  rw [dec_f (show ¬a < ((m.σ.writes.length : Nat) : Int) by omega), cond_f]
  by_cases c2 : a.toNat = WS.length
  · rw [if_pos c2] at hs
    obtain rfl := Option.some.inj hs
    rw [dec_t (show a = ((m.σ.writes.length : Nat) : Int) by omega), cond_t]
    simp only [Option.bind_some, RF0 w36]
    refine Ok.bind (mem_run (S := [p]) (by simp) w36.u1 fun mm => radv_ok mm) ?_
    rintro _ h47 ⟨rfl, w47⟩
    obtain ⟨h54, e54, w54⟩ := RF_st (k := 8) (v := .int .i64 (advM clk).1) w47.u1 (UU p m.owner m.beg 2 (a + 1) (advM clk).1) (by decide) (fun _ => rfl)
    simp only [asTu_t, hdO_c, asI_i64, Option.bind_some, List.isEmpty_nil, cond_t, e54]
    have w55 := ((w54.rm 2 rfl).rm 2 rfl)
    by_cases e : (advM clk).2.1 = 0
    · rw [e]
      exact good h54 { m with ver := (advM clk).1 } cs _ (advM clk).1 [] (by show ((false, (advM clk).2.1), _) = _; rw [e]) rfl rfl rfl h2 rfl rfl (by omega) w55
    · exact bad h54 { m with ver := (advM clk).1 } cs _ _ (advM clk).1 [] e rfl rfl rfl rfl rfl w55
  rw [if_neg c2] at hs
  rw [dec_f (show ¬a = ((m.σ.writes.length : Nat) : Int) by omega), cond_f]
  have hi1 : IntKind.wrap .i64 (((m.σ.writes.length : Nat) : Int) + ((m.σ.reads.length : Nat) : Int)) = ((m.σ.writes.length + m.σ.reads.length : Nat) : Int) := by rw [wI (by omega) (by omega)]; omega
  have hi2 : IntKind.wrap .i64 (IntKind.wrap .i64 (a - ((m.σ.writes.length : Nat) : Int)) - 1) = ((a.toNat - WS.length - 1 : Nat) : Int) := by rw [wI (x := a - _) (by omega) (by omega), wI (by omega) (by omega)]; omega
  rw [hi1, hi2]
  by_cases c3 : a.toNat < WS.length + 1 + RS.length
  · rw [if_pos c3] at hs
    obtain ⟨x, hx, rfl⟩ := Option.map_eq_some_iff.mp hs
    rw [dec_t (show a ≤ ((m.σ.writes.length + m.σ.reads.length : Nat) : Int) by omega), cond_t]
    obtain ⟨ad, ha, g0⟩ := rdO (w36.mv 3 rfl) hx
    have hb : inB ((a.toNat - WS.length - 1 : Nat) : Int) m.σ.reads.length = true := inB_t (by omega) (by omega)
    subst ha
    simp only [Option.bind_some, hb, cond_t, Int.toNat_natCast, g0, RF0 w36]
    refine Ok.bind (load_run w36.u1 x) ?_
    rintro _ h59 ⟨rfl, w59⟩
    obtain ⟨h72, e72, w72, _⟩ := w59.var [.int .i64 0, .int .i64 0, .int .i64 0] [.int .i64 (loadM cs x).1.v, .int .i64 (loadM cs x).1.ver, .int .i64 (loadM cs x).1.own] 3 rfl
    obtain ⟨A, qr⟩ := RF_at w72.u2
    simp only [asTu_t, hdO_c, asAg_t, asI_i64, Option.bind_some, List.isEmpty_nil, cond_t, e72, rseen qr x (by omega), asB_b, AH.ldI_of (k := .i64) (o := 0 + 2) w72.get rfl, AH.ldI_of (k := .i64) (o := 0 + 1) w72.get rfl, RF1 w72.u2]
    have w73 := (((w72.drop.u1).rm 2 rfl).rm 2 rfl)
    have hbad : ((loadM cs x).1.own ≠ 0 ∧ (loadM cs x).1.own ≠ m.owner ∨ (loadM cs x).1.ver ≠ aval (alook m.σ.reads x)) → Ok (ref16_Tx_Step_j2 (some ⟨r, 0, none⟩) 131 h72) fun y h' => y = .tuple #[.int .i64 (m.go cs clk).1.1, .int .i64 (m.go cs clk).1.2] ∧ H h' (aRX p r (m.go cs clk).2.1 :: aMem p q (m.go cs clk).2.2.1 (m.go cs clk).2.2.2 :: F) := fun hc =>
      bad h72 m cs clk 131 v [] (by decide) (by show ((false, if _ then (131 : Int) else 0), _) = _; rw [if_pos hc]) rfl rfl rfl rfl w73
    have hgood : ¬((loadM cs x).1.own ≠ 0 ∧ (loadM cs x).1.own ≠ m.owner ∨ (loadM cs x).1.ver ≠ aval (alook m.σ.reads x)) → Ok (ref16_Tx_Step_j2 (some ⟨r, 0, none⟩) 0 h72) fun y h' => y = .tuple #[.int .i64 (m.go cs clk).1.1, .int .i64 (m.go cs clk).1.2] ∧ H h' (aRX p r (m.go cs clk).2.1 :: aMem p q (m.go cs clk).2.2.1 (m.go cs clk).2.2.2 :: F) := fun hc =>
      good h72 m cs clk v [] (by show ((false, if _ then (131 : Int) else 0), _) = _; rw [if_neg hc]) rfl rfl rfl h2 (c.v (by omega)) rfl c3 w73
    by_cases d1 : (loadM cs x).1.own = 0
    · rw [dec_t d1, Bool.not_true, cond_f]
      by_cases d2 : (loadM cs x).1.ver = aval (alook m.σ.reads x)
      · rw [dec_t d2, Bool.not_true, cond_f]; exact hgood (by simp [d1, d2])
      · rw [dec_f d2, Bool.not_false, cond_t]; exact hbad (.inr d2)
    · rw [dec_f d1, Bool.not_false, cond_t]
      by_cases d3 : (loadM cs x).1.own = m.owner
      · rw [dec_t d3, Bool.not_true, cond_f]
        by_cases d2 : (loadM cs x).1.ver = aval (alook m.σ.reads x)
        · rw [dec_t d2, Bool.not_true, cond_f]; exact hgood (by simp [d3, d2])
        · rw [dec_f d2, Bool.not_false, cond_t]; exact hbad (.inr d2)
      · rw [dec_f d3, Bool.not_false, cond_t]; exact hbad (.inl ⟨d1, d3⟩)
  rw [if_neg c3, if_pos han] at hs
  obtain rfl := Option.some.inj hs
  rw [dec_f (show ¬a ≤ ((m.σ.writes.length + m.σ.reads.length : Nat) : Int) by omega), cond_f]
  have hi3 : IntKind.wrap .i64 (((a.toNat - WS.length - 1 : Nat) : Int) - ((m.σ.reads.length : Nat) : Int)) = ((a.toNat - WS.length - 1 - RS.length : Nat) : Int) := by rw [wI (by omega) (by omega)]; omega
  rw [hi3]
  generalize hk : a.toNat - WS.length - 1 - RS.length = k at *
  obtain ⟨x, hx⟩ : ∃ x, WS[k]? = some x := ⟨_, List.getElem?_eq_getElem (by omega)⟩
  obtain ⟨ad, ha, g0⟩ := rdO (w36.mv 2 rfl) hx
  have hb : inB ((k : Nat) : Int) m.σ.writes.length = true := inB_t (by omega) (by omega)
  have hgd : WS.getD k 0 = x := by rw [List.getD_eq_getElem?_getD, hx]; rfl
  obtain ⟨A, qr⟩ := RF_at w36
  subst ha
  simp only [Option.bind_some, hb, cond_t, Int.toNat_natCast, g0, rvalue qr x (by omega), asTu_t, hdO_c, asI_i64, asB_b, List.isEmpty_nil, RF0 w36, RF1 w36, RF8 w36]
  have hv : v = m.ver := c.v (by omega)
  refine Ok.bind (mem_run (S := [q]) (by simp) w36.u1 fun mm => rpublish_ok mm x m.owner (aval (alook m.σ.writes x)) v) ?_
  rintro _ h103 ⟨rfl, w103⟩
  simp only [asI_i64, Option.bind_some]
  have w104 := ((w103.u1.rm 2 rfl).rm 2 rfl)
  have heff : m.eff cs clk (.pub (WS.getD k 0) k) = ((decide ((k : Int) = IntKind.wrap .i64 ((m.σ.writes.length : Int) - 1)), 0), { m with told := true }, (publishM cs clk x m.owner (aval (alook m.σ.writes x)) v).2, clk) := by rw [hgd, hv]; rfl
  by_cases d : (k : Int) = IntKind.wrap .i64 ((m.σ.writes.length : Int) - 1)
  · rw [dec_t d, cond_t]
    obtain ⟨h106, e106, w106⟩ := RF_st (k := 6) (v := .int .i64 3) w104 (UU p m.owner m.beg 3 (a + 1) v) (by decide) (fun _ => rfl)
    simp only [e106, Option.bind_some]
    refine Ok.le ?_ ref16_Tx_Step_j2_le
    have hgo : m.go cs clk = ((3, 0), { m with told := true, st := 3, left := lf }, (publishM cs clk x m.owner (aval (alook m.σ.writes x)) v).2, clk) := by unfold TM.go; rw [hl]; simp only [heff]; rw [if_neg (by simp), if_pos (by simpa using d)]
    rw [dec_t rfl, Bool.not_true, cond_f, hgo]
    refine Ok.le ?_ ref16_Tx_Step_j1_le
    simp only [Option.bind_some, RF6 w106]
    refine Ok.some ⟨rfl, RX_mk (m := { m with told := true, st := 3, left := lf }) (a := a + 1) (v := v) (sn := sn) ⟨c.s, fun _ => hv, fun h => by have : (3 : Int) = 1 := h; omega, fun h => by have : (3 : Int) = 2 := h; omega, fun h => by rcases h with h | h <;> (have : (3 : Int) = _ := h; omega)⟩ w106⟩
  · rw [dec_f d, cond_f]
    refine Ok.le ?_ ref16_Tx_Step_j2_le
    have hgo : m.go cs clk = ((m.st, 0), { m with told := true, left := lf }, (publishM cs clk x m.owner (aval (alook m.σ.writes x)) v).2, clk) := by unfold TM.go; rw [hl]; simp only [heff]; rw [if_neg (by simp), if_neg (by simpa using d)]
    rw [dec_t rfl, Bool.not_true, cond_f, hgo]
    refine Ok.le ?_ ref16_Tx_Step_j1_le
    simp only [Option.bind_some, RF6 w104]
    refine Ok.some ⟨by rw [h2], RX_mk (m := { m with told := true, left := lf }) (a := a + 1) (v := v) (sn := sn) ⟨c.s, fun _ => hv, fun h => by have : m.st = 1 := h; omega, fun _ => ?_, fun _ => ?_⟩ ?_⟩
    · show 0 ≤ a + 1 ∧ a + 1 ≤ 1000000 ∧ lf = (planM (sortI (m.σ.writes.map Prod.fst)) (sortI (m.σ.reads.map Prod.fst))).drop (a + 1).toNat ∧ m.σ.writes ≠ []
      rw [hWS, hRS]
      exact ⟨by omega, by omega, hlf, a3⟩
    · show true = true ↔ ((m.σ.writes.length + 1 + m.σ.reads.length : Nat) : Int) < a + 1
      constructor
      · intro _; omega
      · intro _; rfl
    · show H h103 (aRF r (UU p m.owner m.beg m.st (a + 1) v) m.σ.reads m.σ.writes sn :: _)
      rw [h2]
      exact w104
theorem RStep (w : H h (aRX p r m :: aMem p q cs clk :: F)) (ho : 1 ≤ m.owner) (hcs : cs.length ≤ 1024) (hst : m.st = 1 ∨ m.st = 2 ∨ m.st = 3 ∨ m.st = 4) (hlf : m.st = 2 → m.left ≠ []) (hwl : m.σ.writes.length ≤ 300) (hrl : m.σ.reads.length ≤ 300) :
    Ok (C k_ref16_Tx_Step [ptr r] h) fun x h' => x = .tuple #[.int .i64 (m.step cs clk).1.1, .int .i64 (m.step cs clk).1.2] ∧ H h' (aRX p r (m.step cs clk).2.1 :: aMem p q (m.step cs clk).2.2.1 (m.step cs clk).2.2.2 :: F) := by
  obtain ⟨a, v, sn, c, w1⟩ := RX_at w
  refine Ok.le ?_ ref16_Tx_Step_le
  simp only [F_ref16_Tx_Step, Option.bind_some, RF6 w1]
  unfold TM.step
  have J4 : m.st = 1 ∨ m.st = 2 → Ok (ref16_Tx_Step_j4 (some ⟨r, 0, none⟩) h) fun x h' => x = .tuple #[.int .i64 (m.step cs clk).1.1, .int .i64 (m.step cs clk).1.2] ∧ H h' (aRX p r (m.step cs clk).2.1 :: aMem p q (m.step cs clk).2.2.1 (m.step cs clk).2.2.2 :: F) := fun h12 => by
    refine Ok.le ?_ ref16_Tx_Step_j4_le
    obtain ⟨h11, e11, w11⟩ := RF_st (k := 6) (v := .int .i64 2) w1 (UU p m.owner m.beg 2 a v) (by decide) (fun _ => rfl)
    obtain ⟨A, qr⟩ := RF_at w11
    simp only [Option.bind_some, e11]
    refine Ok.bind (fresh_run w11 (rwrites qr (by omega))) ?_
    rintro _ h13 ⟨wa, wc, rfl, _, w13⟩
    obtain ⟨A13, qr13⟩ := RF_at w13.u1
    simp only [asS_s, Option.bind_some]
    refine Ok.bind (fresh_run w13 (rreads qr13 (by omega))) ?_
    rintro _ h16 ⟨ra, rc, rfl, _, w16⟩
    simp only [asS_s, Option.bind_some]
    have w17 := w16.pm [2, 3, 1, 0]
    unfold TM.step
    by_cases c0 : m.σ.writes.length = 0
    · have h1 : m.st = 1 := by
        rcases h12 with e | e
        · exact e
        · exact absurd (List.eq_nil_of_length_eq_zero c0) (c.a2 e).2.2.2
      rw [dec_t (by omega), cond_t, if_pos h1]
      obtain ⟨h21, e21, w21⟩ := RF_st (k := 6) (v := .int .i64 3) w17 (UU p m.owner m.beg 3 a v) (by decide) (fun _ => rfl)
      obtain ⟨h23, e23, w23⟩ := RF_st (k := 8) (v := .int .i64 m.beg) w21 (UU p m.owner m.beg 3 a m.beg) (by decide) (fun _ => rfl)
      simp only [Option.bind_some, RF2 w17, e21, e23]
      have hnil : m.σ.writes = [] := List.eq_nil_of_length_eq_zero c0
      have hp : m.plan.left = [.fin] := by
        show planM (sortI (m.σ.writes.map Prod.fst)) _ = _
        unfold planM
        rw [if_pos (List.eq_nil_of_length_eq_zero (by rw [sortI_len, List.length_map, c0]))]
      have hgo : m.plan.go cs clk = ((3, 0), { m.plan with ver := m.beg, st := 3, left := [] }, cs, clk) := by unfold TM.go; rw [hp]; rfl
      rw [hgo]
      exact Ok.some ⟨rfl, RX_mk (m := { m.plan with ver := m.beg, st := 3, left := [] }) (a := a) (v := m.beg) (sn := sn) ⟨c.s, fun _ => rfl, fun h => by have : (3 : Int) = 1 := h; omega, fun h => by have : (3 : Int) = 2 := h; omega, fun h => by rcases h with h | h <;> (have : (3 : Int) = _ := h; omega)⟩ ((w23.rm 2 rfl).rm 2 rfl)⟩
    · rw [dec_f (by omega), cond_f]
      have hne : m.σ.writes ≠ [] := fun e => c0 (by rw [e]; rfl)
      by_cases h1 : m.st = 1
      · rw [if_pos h1]
        obtain ⟨_, s1, l1, hl1⟩ := go_eq m
        have c' : RC m.plan a v sn := ⟨c.s, fun _ => c.v (by omega), fun h => by have : (2 : Int) = 1 := h; omega, fun _ => ⟨by rw [c.a1 h1]; decide, by rw [c.a1 h1]; decide, by rw [c.a1 h1]; rfl, hne⟩, fun _ => c.t (.inl h1)⟩
        exact rstep_on (m := m.plan) c' rfl hl1 ho hcs hwl hrl w17
      · have h2 : m.st = 2 := by omega
        rw [if_neg h1, if_pos h2]
        obtain ⟨s1, l1, hl1⟩ : ∃ s1 l1, m.left = s1 :: l1 := by
          cases hq : m.left with
          | nil => exact absurd hq (hlf h2)
          | cons a b => exact ⟨a, b, rfl⟩
        exact rstep_on c h2 hl1 ho hcs hwl hrl w17
  have J4' := J4
  unfold TM.step at J4'
  by_cases c1 : m.st = 1
  · rw [dec_t c1, Bool.not_true, cond_f]
    refine Ok.le ?_ ref16_Tx_Step_j5_le
    rw [cond_f]
    exact J4' (.inl c1)
  rw [dec_f c1, Bool.not_false, cond_t]
  refine Ok.le ?_ ref16_Tx_Step_j5_le
  by_cases c2 : m.st = 2
  · rw [dec_t c2, Bool.not_true, cond_f]
    exact J4' (.inr c2)
  · rw [dec_f c2, Bool.not_false, cond_t, if_neg c1, if_neg c2]
    simp only [Option.bind_some, RF6 w1]
    exact Ok.some ⟨rfl, w⟩
end
end Go.Lg.Tryz
