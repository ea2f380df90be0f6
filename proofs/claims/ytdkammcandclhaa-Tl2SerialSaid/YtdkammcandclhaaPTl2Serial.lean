/- Tl2Opaque: all that a transaction read belongs to the moment at which it began. -/
import Derived.Test.YtdkammcandclhaaPlived10
import Derived.Test.YtdkammcandclhaaPsetsJ
import Derived.Test.YtdkammcandclhaaEv42
set_option linter.unusedVariables false
set_option linter.unusedSimpArgs false
namespace Go.Lg.Try
set_option linter.unusedVariables false
set_option linter.unusedSimpArgs false
open Go Go.Proofs
namespace Ser
def QT : Value → AH → Prop := fun v _ => v = .bool true
theorem H.hN {h : AH} {F : List Asr} (hh : H h F) {N : Nat} (hle : h.n ≤ N) : H ((hN h N).cut h.n) F := by
  obtain ⟨m, h1, h2⟩ := hh
  refine ⟨m, fun b x hx => ?_, h2⟩
  obtain ⟨g1, g2⟩ := h1 b x hx
  refine ⟨by rw [AH.cut_get, if_pos g2]; exact g1, Nat.lt_of_lt_of_le g2 (Nat.le_trans hle (show N ≤ _ from AH.cut_n h.n (Ser.hN h N)))⟩
theorem rd_g {h : AH} {a : Option Addr} {R : List (Int × Int)} (hr : Rd h a (R.flatMap encG)) {i : Nat} {x : Int × Int} (hx : R[i]? = some x) : ∃ ad, a = some ad ∧ h.ldI .i64 ad.block (ad.off + i * 2) = some x.1 ∧ h.ldI .i64 ad.block (ad.off + i * 2 + 1) = some x.2 := by
  have hne : R.flatMap encG ≠ [] := by
    intro he
    have := congrArg List.length he
    rw [flat_len encG_len] at this
    have h2 := (List.getElem?_eq_some_iff.mp hx).1
    simp only [List.length_nil] at this
    omega
  obtain ⟨ad, rfl, hrd⟩ := hr.some hne
  have c0 := flat_get_some encG_len (j := 0) (by decide) hx
  have c1 := flat_get_some encG_len (j := 1) (by decide) hx
  have e0 := (hrd (i * 2 + 0)).1 .i64 x.1 c0
  have e1 := (hrd (i * 2 + 1)).1 .i64 x.2 c1
  exact ⟨ad, rfl, e0, by rw [Nat.add_assoc]; exact e1⟩
section
variable {cs : List Cel} {clk : Int} {E : List Pb} {sl : List Sl} {aa : Option Addr} {ac : Nat} {hp : List HP} {F : List Asr}
theorem hist {h : AH} (w : H h (Lay (hp.map aHP) :: F)) {k : Nat} {x : HP} (hx : hp[k]? = some x) : h.get x.b = some (.cells (encHP x) false false 5) ∧ x.b < h.n ∧ Rd h x.ra (x.H.reads.flatMap encG) ∧ MI h x.rm x.H.writes := by
  have w1 := H.take_i (f := aHP) hx w
  have w2 := H.opn_ (L := [Cs x.b (encHP x) 5, aOw 2 x.ra x.H.reads.length x.rc (x.H.reads.flatMap encG), aM x.rm x.H.writes]) w1
  exact ⟨w2.g 0 rfl, (show H h (Cs x.b (encHP x) 5 :: _) from w2).lt, (w2.mv 1 rfl : H h (aOw 2 x.ra _ x.rc _ :: _)).ow.rd, gm_at (w2.mv 2 rfl)⟩
theorem atF {h : AH} (I : Inv cs clk E sl (hp.map (·.H))) (w : H h (aOw 1 aa hp.length ac (hp.flatMap encP1) :: Lay (hp.map aHP) :: F)) : AtF h aa hp := by
  have key : ∀ x ∈ hp, ∃ k, hp[k]? = some x := fun x hx => List.getElem?_of_mem hx
  refine ⟨w.ow.rd, fun x hx => ?_, fun x hx => ?_, fun x hx => ?_⟩
  · obtain ⟨k, hk⟩ := key x hx
    obtain ⟨a, b, _, _⟩ := hist w.u1 hk
    exact ⟨a, b⟩
  · obtain ⟨k, hk⟩ := key x hx
    exact (hist w.u1 hk).2.2.2
  · exact (I.h x.H (List.mem_map_of_mem hx)).nk.2
end
end Ser
end Go.Lg.Try

namespace Go.Lg.Try
set_option linter.unusedVariables false
set_option linter.unusedSimpArgs false
open Go Go.Proofs
def aMB (r : Nat) (l : List (Int × Int)) : Asr := Up (fun h => Mb.MI h r l) (fun b => b = r)
section
variable {h h' : AH} {r : Nat} {l : List (Int × Int)} {F : List Asr}
theorem mb_at (hh : H h (aMB r l :: F)) : Mb.MI h r l := hh.of_up
theorem MB.live (hm : Mb.MI h r l) : ∀ b, b = r → (h.get b).isSome = true ∧ b < h.n := fun b e => by
  subst e; obtain ⟨es, clk, h1, _⟩ := hm.ex; exact ⟨by rw [h1]; rfl, hm.lt⟩
theorem MB.same2 (hm : Mb.MI h r l) (hg : ∀ b, b = r → h'.get b = h.get b ∧ b < h'.n) : Mb.MI h' r l := by
  obtain ⟨es, clk, h1, h2⟩ := hm.ex
  exact ⟨⟨es, clk, by rw [(hg r rfl).1]; exact h1, h2⟩, hm.nk, (hg r rfl).2⟩
theorem mb_new (hh : H h F) : H (h.push (.map [] 0)) (aMB h.n [] :: F) :=
  hh.fresh (Nat.le_succ _) (fun b hb => AH.get_push_ne _ (by omega)) (fun b e => by omega) (MB.live (Mb.MI.new h)) fun h'' hg => MB.same2 (Mb.MI.new h) hg
theorem mb_put (hh : H h (aMB r l :: F)) (i : Int) : ∃ h', aput (.int .i64) (.map (some r)) (.int .i64 i) (.bool true) h = some h' ∧ H h' (aMB r (aputL l i 1) :: F) := by
  obtain ⟨h', e1, m1, n1, g1⟩ := (mb_at hh).put i 1
  exact ⟨h', e1, hh.run (by omega) (fun b hb hn => g1 b hn) (fun b hb => .inl hb) (MB.live m1) fun h'' hg => MB.same2 m1 hg⟩
end
end Go.Lg.Try

namespace Go.Lg.Try
set_option linter.unusedVariables false
set_option linter.unusedSimpArgs false
open Go Go.Proofs
namespace Ser
theorem alook_put (S : List (Int × Int)) (v w u : Int) (h : alook (aputL S v w) u ≠ none) : u = v ∨ alook S u ≠ none := by
  induction S with
  | nil =>
    simp only [aputL, alook] at h
    by_cases c : v = u
    · exact .inl c.symm
    · rw [if_neg c] at h; exact absurd rfl h
  | cons p S ih =>
    unfold aputL at h
    by_cases c : p.1 = v
    · rw [if_pos c] at h
      unfold alook at h ⊢
      by_cases d : p.1 = u
      · exact .inl (d.symm.trans c)
      · rw [if_neg d]
        by_cases d2 : v = u
        · exact .inl d2.symm
        · rw [if_neg d2] at h
          exact .inr h
    · rw [if_neg c] at h
      unfold alook at h ⊢
      by_cases d : p.1 = u
      · rw [if_pos d]; right; simp
      · rw [if_neg d] at h ⊢
        exact ih h
theorem veq6 (a b c d e f : Int) : veqO (some (.agg #[.int .i64 a, .int .i64 b, .int .i64 c, .int .i64 d, .int .i64 e, .int .i64 f])) (some (.agg #[.int .i64 a, .int .i64 b, .int .i64 c, .int .i64 d, .int .i64 e, .int .i64 f])) = true := by simp [veqO, veq, veq2, veq1, veqL]
section
variable {cs : List Cel} {clk : Int} {E : List Pb} {sl : List Sl} {aa : Option Addr} {ac : Nat} {hp : List HP} {F : List Asr}
/-- the reads of one -/
theorem sr_L2 {l : List Int} {x : HP} {k : Nat} (hx : hp[k]? = some x) (hr : x.H.reads.length ≤ 400) (hrk : ∀ z ∈ x.H.reads, 0 ≤ z.1 ∧ z.1 < 6) (ho : ∀ z ∈ x.H.reads, l[z.1.toNat]? = some z.2) {cb lb r : Nat} {lq most : Int} {a27 : Option Addr} {l28 c29 : Nat}
    (K : ∀ h, H h (aOw 1 aa hp.length ac (hp.flatMap encP1) :: Lay (hp.map aHP) :: Cs cb (l.map (Value.int .i64)) 6 :: F) → Ok (law16_Tl2Serial_j2 a27 l28 c29 (some ⟨lb, 0, none⟩) (some r) lq (k : Nat) most h) QT) :
    ∀ (n i : Nat) (h : AH), x.H.reads.length - i = n → i ≤ x.H.reads.length → H h (aOw 1 aa hp.length ac (hp.flatMap encP1) :: Lay (hp.map aHP) :: Cs cb (l.map (Value.int .i64)) 6 :: F) →
      Ok (law16_Tl2Serial_L2 (k : Nat) lq a27 l28 c29 (some r) most (some ⟨lb, 0, none⟩) (some ⟨cb, 0, none⟩) x.ra x.H.reads.length x.rc (x.H.reads.length : Nat) (i : Nat) h) QT := by
  intro n
  induction n with
  | zero =>
    intro i h hn hi w
    refine Ok.le ?_ law16_Tl2Serial_L2_le
    refine Ok.le ?_ law16_Tl2Serial_j5_le
    rw [dec_f (by omega), cond_f]
    exact K h w
  | succ n ih =>
    intro i h hn hi w
    refine Ok.le ?_ law16_Tl2Serial_L2_le
    refine Ok.le ?_ law16_Tl2Serial_j5_le
    rw [dec_t (by omega), cond_t]
    refine Ok.le ?_ law16_Tl2Serial_j4_le
    obtain ⟨z, hz⟩ : ∃ z, x.H.reads[i]? = some z := ⟨_, List.getElem?_eq_getElem (by omega)⟩
    have hzm := List.mem_of_getElem? hz
    obtain ⟨z0, z6⟩ := hrk z hzm
    have ho := ho z hzm
    obtain ⟨ad, ea, e1, e2⟩ := rd_g (hist w.u1 hx).2.2.1 hz
    obtain ⟨h2, s2, w2, n2⟩ := w.var [.int .i64 0, .int .i64 0] [.int .i64 z.1, .int .i64 z.2] 2 rfl
    have l0 : h2.ldI .i64 h.n (0 + 0) = some z.1 := AH.ldI_of (w2.g 0 rfl) rfl
    have l1 : h2.ldI .i64 h.n (0 + 1) = some z.2 := AH.ldI_of (w2.g 0 rfl) rfl
    have l2 : h2.ldI .i64 cb (0 + z.1.toNat * 1) = some z.2 := AH.ldI_of (w2.g 3 rfl) (by rw [Nat.zero_add, Nat.mul_one, List.getElem?_map, ho]; rfl)
    simp only [ea, Option.bind_some, inB_t (show (0 : Int) ≤ (i : Int) by omega) (show (i : Int) < (x.H.reads.length : Nat) by omega), cond_t, Int.toNat_natCast, e1, e2, s2, l0, inB_t z0 (show z.1 < ((6 : Nat) : Int) by omega), l2, l1, decide_true, Bool.not_true, cond_f]
    refine Ok.le ?_ law16_Tl2Serial_j3_le
    rw [show IntKind.wrap .i64 (((i : Nat) : Int) + 1) = ((i + 1 : Nat) : Int) by rw [wrap64 (by omega) (by omega)]; omega]
    have := ih (i + 1) h2 (by omega) (by omega) w2.drop
    rw [ea] at this
    exact this
end
/-- what has been seen of those below k -/
structure SeenI (hp : List HP) (clk : Int) (k : Nat) (S : List (Int × Int)) (most : Int) : Prop where
  s : ∀ v, alook S v ≠ none → ∃ j x, j < k ∧ hp[j]? = some x ∧ x.H.done = true ∧ x.H.writes ≠ [] ∧ x.H.ver = v
  m : ∀ j x, j < k → hp[j]? = some x → x.H.done = true → x.H.writes ≠ [] → x.H.ver ≤ most
  b : 0 ≤ most ∧ most ≤ clk
theorem sr_L1 {cs : List Cel} {clk : Int} {E : List Pb} {sl : List Sl} {aa : Option Addr} {ac : Nat} {hp : List HP} (I : Inv cs clk E sl (hp.map (·.H))) (hf : ∀ s ∈ sl, s.m.st ≠ 2) (hl : hp.length ≤ 404) (hclk : clk ≤ 400) (hr : ∀ x ∈ hp, x.H.reads.length ≤ 400)
    {c0 c1 c2 c3 c4 c5 : Int} (hc : cs.map (·.v) = [c0, c1, c2, c3, c4, c5]) {lb r : Nat} :
    ∀ (n k : Nat) (h : AH) (F : List Asr) (S : List (Int × Int)) (most : Int), hp.length - k = n → k ≤ hp.length → SeenI hp clk k S most → H h (aOw 1 aa hp.length ac (hp.flatMap encP1) :: Lay (hp.map aHP) :: aMB r S :: Cs lb [.int .i64 c0, .int .i64 c1, .int .i64 c2, .int .i64 c3, .int .i64 c4, .int .i64 c5] 6 :: F) →
      Ok (law16_Tl2Serial_L1 aa hp.length ac (some ⟨lb, 0, none⟩) most (some r) (hp.length : Nat) (k : Nat) h) QT := by
  intro n
  induction n with
  | zero =>
    intro k h F S most hn hk si w
    refine Ok.le ?_ law16_Tl2Serial_L1_le
    refine Ok.le ?_ law16_Tl2Serial_j11_le
    rw [dec_f (by omega), cond_f]
    refine Ok.le ?_ law16_Tl2Serial_j1_le
    have hb := si.b
    obtain ⟨N, hNl, eA⟩ := at_ok (c3 := ac) (x4 := most) (atF I w) (by omega) (by omega)
    have w2 := H.hN w hNl
    have hEq : atM (hp.map (·.H)) most.toNat = cs.map (·.v) := by
      apply List.ext_getElem?
      intro i
      rcases Nat.lt_or_ge i cs.length with hi | hi
      · have h1 := last_ok I hf (n := most.toNat) (fun G hG hd hw => by
          obtain ⟨x, hx, rfl⟩ := List.mem_map.mp hG
          obtain ⟨j, hj⟩ := List.getElem?_of_mem hx
          have := si.m j x (by have := (List.getElem?_eq_some_iff.mp hj).1; omega) hj hd hw
          omega) (List.getElem?_eq_getElem hi)
        rw [h1, List.getElem?_map, List.getElem?_eq_getElem hi]; rfl
      · have h1 := at_len (hp.map (·.H)) most.toNat
        have h2 := I.n
        rw [List.getElem?_eq_none (by omega), List.getElem?_eq_none (by simp; omega)]
    rw [hEq, hc] at eA
    have eA : C k_law16_at [.slice aa hp.length ac, .int .i64 most] h = some (.agg #[.int .i64 c0, .int .i64 c1, .int .i64 c2, .int .i64 c3, .int .i64 c4, .int .i64 c5], (hN h N).cut h.n) := eA
    have ld : ∀ {h' : AH}, h'.get lb = some (.cells [.int .i64 c0, .int .i64 c1, .int .i64 c2, .int .i64 c3, .int .i64 c4, .int .i64 c5] false false 6) →
        h'.ldI .i64 lb 0 = some c0 ∧ h'.ldI .i64 lb (0 + 1) = some c1 ∧ h'.ldI .i64 lb (0 + 2) = some c2 ∧ h'.ldI .i64 lb (0 + 3) = some c3 ∧ h'.ldI .i64 lb (0 + 4) = some c4 ∧ h'.ldI .i64 lb (0 + 5) = some c5 := fun hg =>
      ⟨AH.ldI_of hg rfl, AH.ldI_of hg rfl, AH.ldI_of hg rfl, AH.ldI_of hg rfl, AH.ldI_of hg rfl, AH.ldI_of hg rfl⟩
    obtain ⟨p0, p1, p2, p3, p4, p5⟩ := ld (w.g 3 rfl)
    obtain ⟨q0, q1, q2, q3, q4, q5⟩ := ld (w2.g 3 rfl)
    simp only [eA, Option.bind_some, asAg_t, hdO_c, asI_i64, List.isEmpty_nil, cond_t, p0, p1, p2, p3, p4, p5, q0, q1, q2, q3, q4, q5, veq6, decide_true, Bool.and_self, C_closed (f := k_law16_awake) rfl ((hN h N).cut h.n), asB_b]
    exact Ok.some rfl
  | succ n ih =>
    intro k h F S most hn hk si w
    refine Ok.le ?_ law16_Tl2Serial_L1_le
    refine Ok.le ?_ law16_Tl2Serial_j11_le
    rw [dec_t (by omega), cond_t]
    refine Ok.le ?_ law16_Tl2Serial_j10_le
    obtain ⟨x, hx⟩ : ∃ x, hp[k]? = some x := ⟨_, List.getElem?_eq_getElem (by omega)⟩
    have hxm := List.mem_of_getElem? hx
    have hmem : x.H ∈ hp.map (·.H) := List.mem_map_of_mem hxm
    have hxk : (hp.map (·.H))[k]? = some x.H := by rw [List.getElem?_map, hx]; rfl
    obtain ⟨ad, ea, e1⟩ := rd_p w.ow.rd hx
    have ldx : ∀ {h' : AH}, h'.get x.b = some (.cells (encHP x) false false 5) → h'.ldB x.b (0 + 4) = some x.H.done ∧ h'.ldI .i64 x.b (0 + 1) = some x.H.ver ∧ h'.ldM x.b (0 + 3) = some (some x.rm) ∧ h'.ldS x.b (0 + 2) = some (x.ra, x.H.reads.length, x.rc) := fun hg =>
      ⟨AH.ldB_of hg rfl, AH.ldI_of hg rfl, AH.ldM_of hg rfl, AH.ldS_of hg rfl⟩
    obtain ⟨d1, d2, d3, d4⟩ := ldx (hist w.u1 hx).1
    have b1 : inB ((k : Nat) : Int) hp.length = true := inB_t (by omega) (by omega)
    have J2 : ∀ (h : AH) (F : List Asr) (S : List (Int × Int)) (most : Int), SeenI hp clk (k + 1) S most → H h (aOw 1 aa hp.length ac (hp.flatMap encP1) :: Lay (hp.map aHP) :: aMB r S :: Cs lb [.int .i64 c0, .int .i64 c1, .int .i64 c2, .int .i64 c3, .int .i64 c4, .int .i64 c5] 6 :: F) →
        Ok (law16_Tl2Serial_j2 aa hp.length ac (some ⟨lb, 0, none⟩) (some r) (hp.length : Nat) (k : Nat) most h) QT := by
      intro h F S most si w
      refine Ok.le ?_ law16_Tl2Serial_j2_le
      rw [show IntKind.wrap .i64 (((k : Nat) : Int) + 1) = ((k + 1 : Nat) : Int) by rw [wrap64 (by omega) (by omega)]; omega]
      exact ih (k + 1) h F S most (by omega) (by omega) si w
    subst ea
    simp only [Option.bind_some, b1, cond_t, Int.toNat_natCast, e1, d1]
    cases hdn : x.H.done with
    | false =>
      simp only [Bool.not_false, cond_t]
      refine J2 h F S most ⟨fun v hv => ?_, fun j y hj hy hyd hyw => ?_, si.b⟩ w
      · obtain ⟨j, y, hj, hy⟩ := si.s v hv
        exact ⟨j, y, by omega, hy⟩
      · rcases Nat.lt_or_ge j k with c | c
        · exact si.m j y c hy hyd hyw
        · obtain rfl : j = k := by omega
          rw [hx] at hy; injection hy with hy; subst hy
          rw [hdn] at hyd; cases hyd
    | true =>
      simp only [Bool.not_true, cond_f]
      refine Ok.le ?_ law16_Tl2Serial_j9_le
      obtain ⟨es, m1, m2, m3⟩ := (hist w.u1 hx).2.2.2.map
      simp only [Option.bind_some, d3, m1, m2]
      -- the reads, with whatever has been noted
      have J6 : ∀ (h : AH) (F : List Asr) (S : List (Int × Int)) (most vv : Int), SeenI hp clk (k + 1) S most → vv = (if x.H.writes ≠ [] then x.H.ver - 1 else x.H.ver) → vv < 1000000 → H h (aOw 1 (some ad) hp.length ac (hp.flatMap encP1) :: Lay (hp.map aHP) :: aMB r S :: Cs lb [.int .i64 c0, .int .i64 c1, .int .i64 c2, .int .i64 c3, .int .i64 c4, .int .i64 c5] 6 :: F) →
          Ok (law16_Tl2Serial_j6 (some ad) hp.length ac h (some ⟨x.b, 0, none⟩) (k : Nat) (hp.length : Nat) (some r) most (some ⟨lb, 0, none⟩) vv) QT := by
        intro h F S most vv si hvv hvl w
        refine Ok.le ?_ law16_Tl2Serial_j6_le
        obtain ⟨N, hNl, eA⟩ := at_ok (c3 := ac) (x4 := vv) (atF I w) (by omega) hvl
        have w2 := H.hN w hNl
        have hlen := at_len (hp.map (·.H)) vv.toNat
        have ho : ∀ z ∈ x.H.reads, (atM (hp.map (·.H)) vv.toNat)[z.1.toNat]? = some z.2 := fun z hz => by
          rw [hvv]; exact serial_ok I hf hmem hdn hz
        generalize atM (hp.map (·.H)) vv.toNat = cc at eA hlen ho
        match cc, hlen, eA, ho with
        | [f0, f1, f2, f3, f4, f5], _, eA, ho =>
          have eA : C k_law16_at [.slice (some ad) hp.length ac, .int .i64 vv] h = some (.agg #[.int .i64 f0, .int .i64 f1, .int .i64 f2, .int .i64 f3, .int .i64 f4, .int .i64 f5], (hN h N).cut h.n) := eA
          obtain ⟨h3, s3, w3, n3⟩ := w2.var z6 [.int .i64 f0, .int .i64 f1, .int .i64 f2, .int .i64 f3, .int .i64 f4, .int .i64 f5] 6 rfl
          have e3 : h3.ldS x.b (0 + 2) = some (x.ra, x.H.reads.length, x.rc) := AH.ldS_of (hist (w3.mv 2 rfl) hx).1 rfl
          simp only [Option.bind_some, eA, asAg_t, hdO_c, asI_i64, List.isEmpty_nil, cond_t, s3, e3]
          have w4 : H h3 (aOw 1 (some ad) hp.length ac (hp.flatMap encP1) :: Lay (hp.map aHP) :: Cs ((hN h N).cut h.n).n (([f0, f1, f2, f3, f4, f5] : List Int).map (Value.int .i64)) 6 :: aMB r S :: Cs lb [.int .i64 c0, .int .i64 c1, .int .i64 c2, .int .i64 c3, .int .i64 c4, .int .i64 c5] 6 :: F) := w3.pm [1, 2, 0]
          refine sr_L2 (l := [f0, f1, f2, f3, f4, f5]) hx (hr x hxm) (I.h x.H hmem).rk ho (fun h' w' => ?_) x.H.reads.length 0 h3 rfl (by omega) w4
          exact J2 h' (Cs _ (([f0, f1, f2, f3, f4, f5] : List Int).map (Value.int .i64)) 6 :: F) S most si (w'.pm [0, 1, 3, 4, 2])
      have J7 : ∀ (h : AH) (F : List Asr) (S : List (Int × Int)) (most : Int), SeenI hp clk (k + 1) S most → H h (aOw 1 (some ad) hp.length ac (hp.flatMap encP1) :: Lay (hp.map aHP) :: aMB r S :: Cs lb [.int .i64 c0, .int .i64 c1, .int .i64 c2, .int .i64 c3, .int .i64 c4, .int .i64 c5] 6 :: F) →
          Ok (law16_Tl2Serial_j7 (some ⟨x.b, 0, none⟩) (some ad) hp.length ac (k : Nat) (hp.length : Nat) (some r) (some ⟨lb, 0, none⟩) most h) QT := by
        intro h F S most si w
        refine Ok.le ?_ law16_Tl2Serial_j7_le
        obtain ⟨d1, d2, d3, d4⟩ := ldx (hist w.u1 hx).1
        obtain ⟨es, m1, m2, m3⟩ := (hist w.u1 hx).2.2.2.map
        simp only [Option.bind_some, d2, d3, m1, m2]
        by_cases c : x.H.writes = []
        · rw [c, dec_f (by simp), cond_f]
          have hv := (I.h x.H hmem).d0 hdn c
          have hb := (I.h x.H hmem).b1
          exact J6 h F S most x.H.ver si (by rw [if_neg (by simpa using c)]) (by omega) w
        · have hpos : 0 < x.H.writes.length := List.length_pos_iff.mpr c
          have hcm := I.cm k x.H.ver (.inl ⟨x.H, hxk, hdn, c, rfl⟩)
          rw [dec_t (by omega), cond_t]
          refine J6 h F S most _ si ?_ ?_ w
          · rw [if_pos c, wrap64 (by omega) (by omega)]
          · rw [wrap64 (by omega) (by omega)]; omega
      by_cases c : x.H.writes = []
      · rw [c, dec_f (by simp), cond_f]
        refine J7 h F S most ⟨fun v hv => ?_, fun j y hj hy hyd hyw => ?_, si.b⟩ w
        · obtain ⟨j, y, hj, hy⟩ := si.s v hv
          exact ⟨j, y, by omega, hy⟩
        · rcases Nat.lt_or_ge j k with c' | c'
          · exact si.m j y c' hy hyd hyw
          · obtain rfl : j = k := by omega
            rw [hx] at hy; injection hy with hy; subst hy
            exact absurd c hyw
      · have hpos : 0 < x.H.writes.length := List.length_pos_iff.mpr c
        have hcl : Claim (hp.map (·.H)) sl k x.H.ver := .inl ⟨x.H, hxk, hdn, c, rfl⟩
        have hcm := I.cm k x.H.ver hcl
        have hno : alook S x.H.ver = none := by
          by_cases hs : alook S x.H.ver = none
          · exact hs
          · obtain ⟨j, y, hj, hy, y1, y2, y3⟩ := si.s _ hs
            have := I.un j k x.H.ver (.inl ⟨y.H, by rw [List.getElem?_map, hy]; rfl, y1, y2, y3⟩) hcl
            omega
        obtain ⟨es2, k1, k2, k3⟩ := (mb_at (w.mv 2 rfl)).map
        have lk : lookE Try.prog (.int .i64) 4 (.int .i64 x.H.ver) es2 = some (.bool false, false) := by
          rw [Mb.look_eq (by kernel_rfl) k3, hno]; rfl
        rw [dec_t (by omega), cond_t]
        simp only [Option.bind_some, d2, dec_f (show ¬ x.H.ver < 1 by omega), cond_f, k1, lk, asB_b]
        refine Ok.le ?_ law16_Tl2Serial_j8_le
        obtain ⟨h5, s5, w5⟩ := mb_put (w.pm [2, 0, 1, 3]) x.H.ver
        have w6 : H h5 (aOw 1 (some ad) hp.length ac (hp.flatMap encP1) :: Lay (hp.map aHP) :: aMB r (aputL S x.H.ver 1) :: Cs lb [.int .i64 c0, .int .i64 c1, .int .i64 c2, .int .i64 c3, .int .i64 c4, .int .i64 c5] 6 :: F) := w5.pm [1, 2, 0]
        obtain ⟨g1, g2, g3, g4⟩ := ldx (hist w6.u1 hx).1
        simp only [Option.bind_some, d2, s5, g2]
        have hb := si.b
        have hmx : most ≤ (_root_.cond (decide (most < x.H.ver)) x.H.ver most) ∧ x.H.ver ≤ (_root_.cond (decide (most < x.H.ver)) x.H.ver most) ∧ (_root_.cond (decide (most < x.H.ver)) x.H.ver most) ≤ clk := by
          by_cases q : most < x.H.ver
          · rw [dec_t q, cond_t]; omega
          · rw [dec_f q, cond_f]; omega
        refine J7 h5 F _ _ ⟨fun v hv => ?_, fun j y hj hy hyd hyw => ?_, by omega, hmx.2.2⟩ w6
        · rcases alook_put S x.H.ver 1 v hv with rfl | h9
          · exact ⟨k, x, by omega, hx, hdn, c, rfl⟩
          · obtain ⟨j, y, hj, hy⟩ := si.s v h9
            exact ⟨j, y, by omega, hy⟩
        · rcases Nat.lt_or_ge j k with c' | c'
          · have := si.m j y c' hy hyd hyw; omega
          · obtain rfl : j = k := by omega
            rw [hx] at hy; injection hy with hy; subst hy
            exact hmx.2.1
theorem serial_main (h : AH) {a1 : Option Addr} {l2 c3 : Nat} {ops : List Op} (hs : SlIn h encOp (fun _ => True) a1 l2 c3 ops) : Ok (C k_law16_Tl2Serial [.slice a1 l2 c3] h) QT := by
  have w : H h [aRds [(a1, ops.flatMap encOp)]] := H.args (by
    intro p hp
    simp only [List.mem_cons, List.not_mem_nil, or_false] at hp
    rcases hp with rfl
    exact hs.rd)
  obtain rfl := hs.len
  refine Ok.le ?_ law16_Tl2Serial_le
  unfold F_law16_Tl2Serial
  refine Ok.bind (lived_ok (A := [(a1, ops.flatMap encOp)]) (F := []) (by simp) w) ?_
  rintro _ h2 ⟨cs, clk, E, sl, aa, ac, hp, F, rfl, I, hf, hl, hclk, hr, w2⟩
  have hlen : (cs.map (·.v)).length = 6 := by rw [List.length_map]; exact I.n
  obtain ⟨c0, c1, c2, c3, c4, c5, hc⟩ : ∃ c0 c1 c2 c3 c4 c5, cs.map (·.v) = [c0, c1, c2, c3, c4, c5] := by
    generalize cs.map (·.v) = c at hlen
    match c, hlen with
    | [c0, c1, c2, c3, c4, c5], _ => exact ⟨_, _, _, _, _, _, rfl⟩
  rw [hc]
  obtain ⟨h3, s3, w3, n3⟩ := w2.var z6 [.int .i64 c0, .int .i64 c1, .int .i64 c2, .int .i64 c3, .int .i64 c4, .int .i64 c5] 6 rfl
  show Ok ((some ([.slice aa hp.length ac, .agg #[.int .i64 c0, .int .i64 c1, .int .i64 c2, .int .i64 c3, .int .i64 c4, .int .i64 c5], .bool true] : List Value)).bind _) QT
  simp only [Option.bind_some, hdO_c, asS_s, asAg_t, asI_i64, List.isEmpty_nil, cond_t, asB_b, s3, Bool.not_true, cond_f]
  refine Ok.le ?_ law16_Tl2Serial_j12_le
  have w4 := mb_new w3
  refine sr_L1 I hf hl hclk hr hc hp.length 0 _ F [] 0 rfl (by omega) ⟨fun v hv => absurd rfl hv, fun j y hj => by omega, by omega, I.c0⟩ (w4.pm [2, 3, 0, 1])
end Ser
end Go.Lg.Try
