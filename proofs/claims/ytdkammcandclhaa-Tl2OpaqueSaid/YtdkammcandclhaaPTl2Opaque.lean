/- Tl2Opaque: all that a transaction read belongs to the moment at which it began. -/
import Derived.Test.YtdkammcandclhaaPlived10
namespace Go.Lg.Try
set_option linter.unusedVariables false
set_option linter.unusedSimpArgs false
open Go Go.Proofs
namespace Ser
def QT : Value → AH → Prop := fun v _ => v = .bool true
theorem H.hN {h : AH} {F : List Asr} (hh : H h F) {N : Nat} (hle : h.n ≤ N) : H ((hN h N).cut h.n) F := by
  obtain ⟨m, h1, h2⟩ := hh
  refine ⟨m, fun b x hx => ?_, h2⟩
  obtain ⟨g1, g2⟩ := h1 b x hx
  refine ⟨by rw [AH.cut_get, if_pos g2]; exact g1, Nat.lt_of_lt_of_le g2 (Nat.le_trans hle (show N ≤ _ from AH.cut_n h.n (Ser.hN h N)))⟩
theorem rd_g {h : AH} {a : Option Addr} {R : List (Int × Int)} (hr : Rd h a (R.flatMap encG)) {i : Nat} {x : Int × Int} (hx : R[i]? = some x) : ∃ ad, a = some ad ∧ h.ldI .i64 ad.block (ad.off + i * 2) = some x.1 ∧ h.ldI .i64 ad.block (ad.off + i * 2 + 1) = some x.2 := by
  have hne : R.flatMap encG ≠ [] := by
    intro he
    have := congrArg List.length he
    rw [flat_len encG_len] at this
    have h2 := (List.getElem?_eq_some_iff.mp hx).1
    simp only [List.length_nil] at this
    omega
  obtain ⟨ad, rfl, hrd⟩ := hr.some hne
  have c0 := flat_get_some encG_len (j := 0) (by decide) hx
  have c1 := flat_get_some encG_len (j := 1) (by decide) hx
  have e0 := (hrd (i * 2 + 0)).1 .i64 x.1 c0
  have e1 := (hrd (i * 2 + 1)).1 .i64 x.2 c1
  exact ⟨ad, rfl, e0, by rw [Nat.add_assoc]; exact e1⟩
section
variable {cs : List Cel} {clk : Int} {E : List Pb} {sl : List Sl} {aa : Option Addr} {ac : Nat} {hp : List HP} {F : List Asr}
theorem hist {h : AH} (w : H h (Lay (hp.map aHP) :: F)) {k : Nat} {x : HP} (hx : hp[k]? = some x) : h.get x.b = some (.cells (encHP x) false false 5) ∧ x.b < h.n ∧ Rd h x.ra (x.H.reads.flatMap encG) ∧ MI h x.rm x.H.writes := by
  have w1 := H.take_i (f := aHP) hx w
  have w2 := H.opn_ (L := [Cs x.b (encHP x) 5, aOw 2 x.ra x.H.reads.length x.rc (x.H.reads.flatMap encG), aM x.rm x.H.writes]) w1
  exact ⟨w2.g 0 rfl, (show H h (Cs x.b (encHP x) 5 :: _) from w2).lt, (w2.mv 1 rfl : H h (aOw 2 x.ra _ x.rc _ :: _)).ow.rd, gm_at (w2.mv 2 rfl)⟩
theorem atF {h : AH} (I : Inv cs clk E sl (hp.map (·.H))) (w : H h (aOw 1 aa hp.length ac (hp.flatMap encP1) :: Lay (hp.map aHP) :: F)) : AtF h aa hp := by
  have key : ∀ x ∈ hp, ∃ k, hp[k]? = some x := fun x hx => List.getElem?_of_mem hx
  refine ⟨w.ow.rd, fun x hx => ?_, fun x hx => ?_, fun x hx => ?_⟩
  · obtain ⟨k, hk⟩ := key x hx
    obtain ⟨a, b, _, _⟩ := hist w.u1 hk
    exact ⟨a, b⟩
  · obtain ⟨k, hk⟩ := key x hx
    exact (hist w.u1 hk).2.2.2
  · exact (I.h x.H (List.mem_map_of_mem hx)).nk.2
/-- the reads of one -/
theorem op_L2 (I : Inv cs clk E sl (hp.map (·.H))) (hf : ∀ s ∈ sl, s.m.st ≠ 2) {k : Nat} {x : HP} (hx : hp[k]? = some x) (hr : x.H.reads.length ≤ 400) {cb : Nat} {lq : Int} {a27 : Option Addr} {l28 c29 : Nat}
    (K : ∀ h, H h (aOw 1 aa hp.length ac (hp.flatMap encP1) :: Lay (hp.map aHP) :: Cs cb ((atM (hp.map (·.H)) x.H.beg.toNat).map (Value.int .i64)) 6 :: F) → Ok (law16_Tl2Opaque_j2 a27 l28 c29 lq (k : Nat) h) QT) :
    ∀ (n i : Nat) (h : AH), x.H.reads.length - i = n → i ≤ x.H.reads.length → H h (aOw 1 aa hp.length ac (hp.flatMap encP1) :: Lay (hp.map aHP) :: Cs cb ((atM (hp.map (·.H)) x.H.beg.toNat).map (Value.int .i64)) 6 :: F) →
      Ok (law16_Tl2Opaque_L2 (k : Nat) lq a27 l28 c29 (some ⟨cb, 0, none⟩) x.ra x.H.reads.length x.rc (x.H.reads.length : Nat) (i : Nat) h) QT := by
  intro n
  induction n with
  | zero =>
    intro i h hn hi w
    refine Ok.le ?_ law16_Tl2Opaque_L2_le
    refine Ok.le ?_ law16_Tl2Opaque_j5_le
    rw [dec_f (by omega), cond_f]
    exact K h w
  | succ n ih =>
    intro i h hn hi w
    refine Ok.le ?_ law16_Tl2Opaque_L2_le
    refine Ok.le ?_ law16_Tl2Opaque_j5_le
    rw [dec_t (by omega), cond_t]
    refine Ok.le ?_ law16_Tl2Opaque_j4_le
    obtain ⟨z, hz⟩ : ∃ z, x.H.reads[i]? = some z := ⟨_, List.getElem?_eq_getElem (by omega)⟩
    have hmem : x.H ∈ hp.map (·.H) := List.mem_map_of_mem (List.mem_of_getElem? hx)
    have hzm := List.mem_of_getElem? hz
    obtain ⟨z0, z6⟩ := (I.h x.H hmem).rk z hzm
    have ho := opaque_ok I hf hmem hzm
    obtain ⟨ad, ea, e1, e2⟩ := rd_g (hist w.u1 hx).2.2.1 hz
    obtain ⟨h2, s2, w2, n2⟩ := w.var [.int .i64 0, .int .i64 0] [.int .i64 z.1, .int .i64 z.2] 2 rfl
    have l0 : h2.ldI .i64 h.n (0 + 0) = some z.1 := AH.ldI_of (w2.g 0 rfl) rfl
    have l1 : h2.ldI .i64 h.n (0 + 1) = some z.2 := AH.ldI_of (w2.g 0 rfl) rfl
    have l2 : h2.ldI .i64 cb (0 + z.1.toNat * 1) = some z.2 := AH.ldI_of (w2.g 3 rfl) (by rw [Nat.zero_add, Nat.mul_one, List.getElem?_map, ho]; rfl)
    simp only [ea, Option.bind_some, inB_t (show (0 : Int) ≤ (i : Int) by omega) (show (i : Int) < (x.H.reads.length : Nat) by omega), cond_t, Int.toNat_natCast, e1, e2, s2, l0, inB_t z0 (show z.1 < ((6 : Nat) : Int) by omega), l2, l1, decide_true, Bool.not_true, cond_f]
    refine Ok.le ?_ law16_Tl2Opaque_j3_le
    rw [show IntKind.wrap .i64 (((i : Nat) : Int) + 1) = ((i + 1 : Nat) : Int) by rw [wrap64 (by omega) (by omega)]; omega]
    have := ih (i + 1) h2 (by omega) (by omega) w2.drop
    rw [ea] at this
    exact this
end
theorem op_L1 {cs : List Cel} {clk : Int} {E : List Pb} {sl : List Sl} {aa : Option Addr} {ac : Nat} {hp : List HP} (I : Inv cs clk E sl (hp.map (·.H))) (hf : ∀ s ∈ sl, s.m.st ≠ 2) (hl : hp.length ≤ 404) (hclk : clk ≤ 400) (hr : ∀ x ∈ hp, x.H.reads.length ≤ 400) :
    ∀ (n k : Nat) (h : AH) (F : List Asr), hp.length - k = n → k ≤ hp.length → H h (aOw 1 aa hp.length ac (hp.flatMap encP1) :: Lay (hp.map aHP) :: F) →
      Ok (law16_Tl2Opaque_L1 aa hp.length ac (hp.length : Nat) (k : Nat) h) QT := by
  intro n
  induction n with
  | zero =>
    intro k h F hn hk w
    refine Ok.le ?_ law16_Tl2Opaque_L1_le
    refine Ok.le ?_ law16_Tl2Opaque_j7_le
    rw [dec_f (by omega), cond_f]
    refine Ok.le ?_ law16_Tl2Opaque_j1_le
    simp only [C_closed (f := k_law16_awake) rfl h, Option.bind_some, asB_b]
    exact Ok.some rfl
  | succ n ih =>
    intro k h F hn hk w
    refine Ok.le ?_ law16_Tl2Opaque_L1_le
    refine Ok.le ?_ law16_Tl2Opaque_j7_le
    rw [dec_t (by omega), cond_t]
    refine Ok.le ?_ law16_Tl2Opaque_j6_le
    obtain ⟨x, hx⟩ : ∃ x, hp[k]? = some x := ⟨_, List.getElem?_eq_getElem (by omega)⟩
    have hxm := List.mem_of_getElem? hx
    have hmem : x.H ∈ hp.map (·.H) := List.mem_map_of_mem hxm
    obtain ⟨ad, ea, e1⟩ := rd_p w.ow.rd hx
    have e2 : h.ldI .i64 x.b (0 + 0) = some x.H.beg := AH.ldI_of (hist w.u1 hx).1 rfl
    have hb1 := (I.h x.H hmem).b1
    obtain ⟨N, hNl, eA⟩ := at_ok (c3 := ac) (x4 := x.H.beg) (atF I w) (by omega) (by omega)
    have w2 := H.hN w hNl
    have hlen := at_len (hp.map (·.H)) x.H.beg.toNat
    have K : ∀ h2 cb, H h2 (aOw 1 aa hp.length ac (hp.flatMap encP1) :: Lay (hp.map aHP) :: Cs cb ((atM (hp.map (·.H)) x.H.beg.toNat).map (Value.int .i64)) 6 :: F) → Ok (law16_Tl2Opaque_L2 (k : Nat) (hp.length : Nat) aa hp.length ac (some ⟨cb, 0, none⟩) x.ra x.H.reads.length x.rc (x.H.reads.length : Nat) 0 h2) QT := by
      intro h2 cb w3
      refine op_L2 I hf hx (hr x hxm) ?_ x.H.reads.length 0 h2 rfl (by omega) w3
      intro h4 w4
      refine Ok.le ?_ law16_Tl2Opaque_j2_le
      rw [show IntKind.wrap .i64 (((k : Nat) : Int) + 1) = ((k + 1 : Nat) : Int) by rw [wrap64 (by omega) (by omega)]; omega]
      exact ih (k + 1) h4 _ (by omega) (by omega) w4
    generalize atM (hp.map (·.H)) x.H.beg.toNat = c at eA hlen K
    match c, hlen, eA, K with
    | [c0, c1, c2, c3, c4, c5], _, eA, K =>
      have eA : C k_law16_at [.slice aa hp.length ac, .int .i64 x.H.beg] h = some (.agg #[.int .i64 c0, .int .i64 c1, .int .i64 c2, .int .i64 c3, .int .i64 c4, .int .i64 c5], (hN h N).cut h.n) := eA
      obtain ⟨h3, s3, w3, n3⟩ := w2.var z6 [.int .i64 c0, .int .i64 c1, .int .i64 c2, .int .i64 c3, .int .i64 c4, .int .i64 c5] 6 rfl
      have e3 : h3.ldS x.b (0 + 2) = some (x.ra, x.H.reads.length, x.rc) := AH.ldS_of (hist (w3.mv 2 rfl) hx).1 rfl
      subst ea
      simp only [Option.bind_some, inB_t (show (0 : Int) ≤ (k : Int) by omega) (show (k : Int) < (hp.length : Nat) by omega), cond_t, Int.toNat_natCast, e1, e2, eA, asAg_t, hdO_c, asI_i64, List.isEmpty_nil, s3, e3]
      exact K h3 _ (w3.d2)
theorem opaque_main (h : AH) {a1 : Option Addr} {l2 c3 : Nat} {ops : List Op} (hs : SlIn h encOp (fun _ => True) a1 l2 c3 ops) : Ok (C k_law16_Tl2Opaque [.slice a1 l2 c3] h) QT := by
  have w : H h [aRds [(a1, ops.flatMap encOp)]] := H.args (by
    intro p hp
    simp only [List.mem_cons, List.not_mem_nil, or_false] at hp
    rcases hp with rfl
    exact hs.rd)
  obtain rfl := hs.len
  refine Ok.le ?_ law16_Tl2Opaque_le
  unfold F_law16_Tl2Opaque
  refine Ok.bind (lived_ok (A := [(a1, ops.flatMap encOp)]) (F := []) (by simp) w) ?_
  rintro _ h2 ⟨cs, clk, E, sl, aa, ac, hp, F, rfl, I, hf, hl, hclk, hr, w2⟩
  have hlen : (cs.map (·.v)).length = 6 := by rw [List.length_map]; exact I.n
  generalize cs.map (·.v) = c at hlen
  match c, hlen with
  | [c0, c1, c2, c3, c4, c5], _ =>
    obtain ⟨h3, s3, w3, n3⟩ := w2.var z6 [.int .i64 c0, .int .i64 c1, .int .i64 c2, .int .i64 c3, .int .i64 c4, .int .i64 c5] 6 rfl
    show Ok ((some ([.slice aa hp.length ac, .agg #[.int .i64 c0, .int .i64 c1, .int .i64 c2, .int .i64 c3, .int .i64 c4, .int .i64 c5], .bool true] : List Value)).bind _) QT
    simp only [Option.bind_some, hdO_c, asS_s, asAg_t, asI_i64, List.isEmpty_nil, cond_t, asB_b, s3, Bool.not_true, cond_f]
    refine Ok.le ?_ law16_Tl2Opaque_j8_le
    exact op_L1 I hf hl hclk hr hp.length 0 h3 _ rfl (by omega) (w3.d2)
end Ser
end Go.Lg.Try
