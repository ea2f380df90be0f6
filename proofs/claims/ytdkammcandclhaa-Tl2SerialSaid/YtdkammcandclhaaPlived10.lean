/- lived: what is told. -/
import Derived.Test.YtdkammcandclhaaPlived8
set_option linter.unusedVariables false
set_option linter.unusedSimpArgs false
namespace Go.Lg.Try
set_option linter.unusedVariables false
set_option linter.unusedSimpArgs false
open Go Go.Proofs
namespace Ser
section
variable {p q mb tb hb ab rb lb : Nat} {A : List (Option Addr × List Value)} {Q : Value → AH → Prop} {cs : List Cel} {clk : Int} {aa : Option Addr} {ac : Nat} {hp : List HP} {F : List Asr}
theorem ld_loop (h6 : cs.length = 6) (h0 : ∀ (i : Nat) c, cs[i]? = some c → c.own = 0) (K : ∀ h', H h' (aOw 1 aa hp.length ac (hp.flatMap encP1) :: Lay (hp.map aHP) :: F) → Q (.tuple #[.slice aa hp.length ac, aggV (cs.map (·.v)), .bool true]) h') :
    ∀ (n i : Nat) (h : AH) (D : List Int), 6 - i = n → i ≤ 6 → D.length = 6 → (∀ j : Nat, j < i → D[j]? = (cs[j]?).map (·.v)) →
      H h (aMem p q cs clk :: Cs mb [ptr p] 1 :: Cs ab [.slice aa hp.length ac] 1 :: aOw 1 aa hp.length ac (hp.flatMap encP1) :: Lay (hp.map aHP) :: Cs rb z6 6 :: Cs lb (D.map (Value.int .i64)) 6 :: F) →
      Ok (law16_lived_L1 (some ⟨mb, 0, none⟩) (some ⟨lb, 0, none⟩) (some ⟨rb, 0, none⟩) (some ⟨ab, 0, none⟩) (i : Nat) h) Q := by
  intro n
  induction n with
  | zero =>
    intro i h D hn hi hD hcells w
    obtain rfl : i = 6 := by omega
    refine Ok.le ?_ law16_lived_L1_le
    refine Ok.le ?_ law16_lived_j5_le
    rw [dec_f (by omega), cond_f]
    refine Ok.le ?_ law16_lived_j1_le
    have eC : D = cs.map (·.v) := by
      apply List.ext_getElem?
      intro j
      by_cases hj : j < 6
      · rw [hcells j hj, List.getElem?_map]
      · rw [List.getElem?_eq_none (by omega), List.getElem?_eq_none (by rw [List.length_map]; omega)]
    rw [← eC] at K
    match D, hD, w, K with
    | [c0, c1, c2, c3, c4, c5], _, w, K =>
      have gl := w.g 6 rfl
      have e1 : h.ldS ab 0 = some (aa, hp.length, ac) := AH.ldS_of (w.g 2 rfl) rfl
      have w2 : H h (Cs rb z6 6 :: aMem p q cs clk :: Cs mb [ptr p] 1 :: Cs ab [.slice aa hp.length ac] 1 :: aOw 1 aa hp.length ac (hp.flatMap encP1) :: Lay (hp.map aHP) :: Cs lb ([c0, c1, c2, c3, c4, c5].map (Value.int .i64)) 6 :: F) := w.mv 5 rfl
      obtain ⟨h3, s3, w3, n3⟩ := w2.st (o := 0) [.int .i64 c0, .int .i64 c1, .int .i64 c2, .int .i64 c3, .int .i64 c4, .int .i64 c5] (by simp)
      have g3 : h3.get rb = some (.cells [.int .i64 c0, .int .i64 c1, .int .i64 c2, .int .i64 c3, .int .i64 c4, .int .i64 c5] false false 6) := w3.g 0 rfl
      have gl' : h.get lb = some (.cells [.int .i64 c0, .int .i64 c1, .int .i64 c2, .int .i64 c3, .int .i64 c4, .int .i64 c5] false false 6) := gl
      simp only [Option.bind_some, e1, AH.ldI_of (k := .i64) (o := 0) gl' rfl, AH.ldI_of (k := .i64) (o := 0 + 1) gl' rfl, AH.ldI_of (k := .i64) (o := 0 + 2) gl' rfl, AH.ldI_of (k := .i64) (o := 0 + 3) gl' rfl, AH.ldI_of (k := .i64) (o := 0 + 4) gl' rfl, AH.ldI_of (k := .i64) (o := 0 + 5) gl' rfl, s3,
        AH.ldI_of (k := .i64) (o := 0) g3 rfl, AH.ldI_of (k := .i64) (o := 0 + 1) g3 rfl, AH.ldI_of (k := .i64) (o := 0 + 2) g3 rfl, AH.ldI_of (k := .i64) (o := 0 + 3) g3 rfl, AH.ldI_of (k := .i64) (o := 0 + 4) g3 rfl, AH.ldI_of (k := .i64) (o := 0 + 5) g3 rfl]
      have w4 := w3.pm [4, 5, 0, 1, 2, 3, 6]
      have w5 : H h3 (aOw 1 aa hp.length ac (hp.flatMap encP1) :: Lay (hp.map aHP) :: F) := by
        have := w4.rm 2 rfl
        have := this.rm 2 rfl
        have := this.rm 2 rfl
        have := this.rm 2 rfl
        exact this.rm 2 rfl
      exact Ok.some (K h3 w5)
  | succ n ih =>
    intro i h D hn hi hD hcells w
    refine Ok.le ?_ law16_lived_L1_le
    refine Ok.le ?_ law16_lived_j5_le
    rw [dec_t (by omega), cond_t]
    refine Ok.le ?_ law16_lived_j4_le
    obtain ⟨c, hc⟩ : ∃ c, cs[i]? = some c := ⟨_, List.getElem?_eq_getElem (by omega)⟩
    have hl : loadM cs ((i : Nat) : Int) = (c, 0) := by unfold loadM; rw [if_neg (by omega), Int.toNat_natCast, hc]
    have e1 : h.ldP mb 0 = some (some ⟨p, 0, none⟩) := AH.ldP_of (w.g 1 rfl) rfl
    have e2 := load_eq (mem_at w) ((i : Nat) : Int)
    have e2 : C k_cell_Memory_int_Load [.pointer (some ⟨p, 0, none⟩), .int .i64 (i : Nat)] h = _ := e2
    rw [hl] at e2
    simp only [Option.bind_some, e1, e2, asTu_t, hdO_c, asI_i64, List.isEmpty_nil, cond_t, h0 i c hc, decide_true, Bool.not_true, cond_f]
    refine Ok.le ?_ law16_lived_j3_le
    have hb6 : inB ((i : Nat) : Int) 6 = true := inB_t (by omega) (by omega)
    have w2 : H h (Cs lb (D.map (Value.int .i64)) 6 :: aMem p q cs clk :: Cs mb [ptr p] 1 :: Cs ab [.slice aa hp.length ac] 1 :: aOw 1 aa hp.length ac (hp.flatMap encP1) :: Lay (hp.map aHP) :: Cs rb z6 6 :: F) := w.mv 6 rfl
    obtain ⟨h3, s3, w3, n3⟩ := st_one w2 (k := i) (by rw [List.length_map]; omega) (.int .i64 c.v)
    simp only [Option.bind_some, hb6, cond_t, Int.toNat_natCast, s3]
    refine Ok.le ?_ law16_lived_j2_le
    rw [show IntKind.wrap .i64 (((i : Nat) : Int) + 1) = ((i + 1 : Nat) : Int) by rw [wrap64 (by omega) (by omega)]; omega]
    have e3 : (D.map (Value.int .i64)).set i (.int .i64 c.v) = (D.set i c.v).map (Value.int .i64) := by rw [List.map_set]
    rw [e3] at w3
    refine ih (i + 1) h3 (D.set i c.v) (by omega) (by omega) (by rw [List.length_set]; exact hD) (fun j hj => ?_) (w3.pm [1, 2, 3, 4, 5, 6, 0])
    by_cases e : i = j
    · subst e; rw [List.getElem?_set_self (by omega), hc]; rfl
    · rw [List.getElem?_set_ne e]; exact hcells j (by omega)
end
end Ser
end Go.Lg.Try

namespace Go.Lg.Try
set_option linter.unusedVariables false
set_option linter.unusedSimpArgs false
open Go Go.Proofs
namespace Ser
/-- what lived tells -/
def QL (v : Value) (h' : AH) : Prop := ∃ (cs : List Cel) (clk : Int) (E : List Pb) (sl : List Sl) (aa : Option Addr) (ac : Nat) (hp : List HP) (F : List Asr), v = .tuple #[.slice aa hp.length ac, aggV (cs.map (·.v)), .bool true] ∧ Inv cs clk E sl (hp.map (·.H)) ∧ (∀ s ∈ sl, s.m.st ≠ 2) ∧ hp.length ≤ 404 ∧ clk ≤ 400 ∧
  (∀ x ∈ hp, x.H.reads.length ≤ 400) ∧ H h' (aOw 1 aa hp.length ac (hp.flatMap encP1) :: Lay (hp.map aHP) :: F)
theorem set_app (l r : List Value) (a x : Value) : (l ++ a :: r).set l.length x = l ++ x :: r := by
  rw [List.set_append_right _ _ (Nat.le_refl _), Nat.sub_self]; rfl
section
variable {p q mb tb hb ab rb lb c3 : Nat} {a1 : Option Addr} {A : List (Option Addr × List Value)} {ops : List Op}
/-- behind the beginning -/
theorem after_init (hA : (a1, ops.flatMap encOp) ∈ A) {h : AH} {cs : List Cel} {clk : Int} {tl : List TS} {aa : Option Addr} {ac : Nat} {hp : List HP} {F : List Asr} (L : LI 0 cs clk tl hp) (w0 : H h (LT p q mb tb hb ab rb lb tl cs clk aa ac hp A ++ F)) :
    Ok (law16_lived_j22 ops.length a1 (some ⟨hb, 0, none⟩) (some ⟨tb, 0, none⟩) (F31 mb tb hb ab) (some ⟨ab, 0, none⟩) (some ⟨mb, 0, none⟩) (some ⟨lb, 0, none⟩) (some ⟨rb, 0, none⟩) c3 h) QL := by
  refine Ok.le ?_ law16_lived_j22_le
  refine lv_loop hA ?_ 300 0 h cs clk tl aa ac hp F rfl (by omega) L w0
  intro h cs clk tl aa ac hp N F hN L w0
  refine Ok.le ?_ law16_lived_j14_le
  refine en_loop (F := F) (aa := aa) (ac := ac) ?_ 4 0 N h cs clk tl hp rfl (by omega) (by omega) L (fun u y hu => by omega) w0
  intro h cs clk tl hp N hN L E w0
  refine Ok.le ?_ law16_lived_j6_le
  obtain ⟨E0, I⟩ := L.I
  have hf : ∀ s ∈ tl.map (·.s), s.m.st ≠ 2 := by
    intro s hs
    obtain ⟨y, hy, rfl⟩ := List.mem_map.mp hs
    obtain ⟨u, hu⟩ := List.getElem?_of_mem hy
    have hl := I.l
    rw [List.length_map] at hl
    exact E u y (by have := (List.getElem?_eq_some_iff.mp hu).1; omega) hu
  have w1 : H h (aMem p q cs clk :: Cs mb [ptr p] 1 :: Cs ab [.slice aa hp.length ac] 1 :: aOw 1 aa hp.length ac (hp.flatMap encP1) :: Lay (hp.map aHP) :: Cs rb z6 6 :: Cs lb (([0, 0, 0, 0, 0, 0] : List Int).map (Value.int .i64)) 6 :: Lay (tl.map (aTs p)) :: Cs tb (tl.map fun (y : TS) => ptr y.t) 4 :: Cs hb (tl.map fun (y : TS) => ptr y.b) 4 :: aRds A :: F) := w0.pm [0, 1, 4, 5, 6, 8, 9, 7, 2, 3, 10]
  refine ld_loop I.n (fun i c hc => ?_) (fun h' w' => ?_) 6 0 h [0, 0, 0, 0, 0, 0] rfl (by omega) rfl (fun j hj => by omega) w1
  · rcases I.own i c hc with h1 | ⟨z, hz, _, hh⟩
    · exact h1
    · exact absurd hh.1 (hf z hz)
  · exact ⟨cs, clk, E0, _, aa, ac, hp, _, rfl, I, hf, by have := L.h; omega, by have := L.n; omega, fun x hx => by have := L.r x hx; omega, w'⟩
theorem init_loop (hA : (a1, ops.flatMap encOp) ∈ A) {F : List Asr} : ∀ (n i : Nat) (h : AH) (tl : List TS) (aa : Option Addr) (ac : Nat) (hp : List HP), 4 - i = n → i ≤ 4 → tl.length = i → hp.length = i →
    tl.map (·.s) = (List.range i).map (fun (w : Nat) => (⟨TM.new ((w : Int) + 1) 0, w, 0⟩ : Sl)) → hp.map (·.H) = List.replicate i ⟨0, 0, [], [], false⟩ → hp.map (·.b) = tl.map (·.b) →
    H h (aMem p q (List.replicate 6 ⟨0, 0, 0⟩) 0 :: Cs mb [ptr p] 1 :: Cs tb ((tl.map fun y => ptr y.t) ++ List.replicate (4 - i) (.pointer none)) 4 :: Cs hb ((tl.map fun y => ptr y.b) ++ List.replicate (4 - i) (.pointer none)) 4 :: Cs ab [.slice aa hp.length ac] 1 :: aOw 1 aa hp.length ac (hp.flatMap encP1) :: Lay (hp.map aHP) :: Lay (tl.map (aTs p)) :: Cs rb z6 6 :: Cs lb z6 6 :: aRds A :: F) →
    Ok (law16_lived_L5 (some ⟨lb, 0, none⟩) (some ⟨rb, 0, none⟩) (some ⟨mb, 0, none⟩) a1 ops.length c3 (some ⟨tb, 0, none⟩) (some ⟨hb, 0, none⟩) (some ⟨ab, 0, none⟩) (F31 mb tb hb ab) (i : Nat) h) QL := by
  intro n
  induction n with
  | zero =>
    intro i h tl aa ac hp hn hi htl hhp hsl hH hB w0
    obtain rfl : i = 4 := by omega
    refine Ok.le ?_ law16_lived_L5_le
    refine Ok.le ?_ law16_lived_j25_le
    rw [dec_f (by omega), cond_f]
    have e1 : (tl.map fun y => ptr y.t) ++ List.replicate (4 - 4) (.pointer none) = tl.map fun y => ptr y.t := by simp
    have e2 : (tl.map fun y => ptr y.b) ++ List.replicate (4 - 4) (.pointer none) = tl.map fun y => ptr y.b := by simp
    rw [e1, e2] at w0
    refine after_init hA (F := F) ⟨⟨[], by rw [hsl, hH]; exact Inv.init⟩, fun w y hy => ?_, Int.le_refl _, by omega, fun x hx => ?_⟩ w0
    · have h1 : (tl.map (·.s))[w]? = some y.s := by rw [List.getElem?_map, hy]; rfl
      have hw : w < 4 := by have := (List.getElem?_eq_some_iff.mp hy).1; omega
      rw [hsl, List.getElem?_map, List.getElem?_range hw] at h1
      have h2 : y.s.j = w := by have := Option.some.inj h1; rw [← this]
      have h3 : (hp.map (·.b))[w]? = some y.b := by rw [hB, List.getElem?_map, hy]; rfl
      rw [List.getElem?_map] at h3
      obtain ⟨x, hx, e⟩ := Option.map_eq_some_iff.mp h3
      exact ⟨x, by rw [h2]; exact hx, e⟩
    · have : x.H ∈ hp.map (·.H) := List.mem_map_of_mem hx
      rw [hH] at this
      rw [List.eq_of_mem_replicate this]; simp
  | succ n ih =>
    intro i h tl aa ac hp hn hi htl hhp hsl hH hB w0
    have hi4 : i < 4 := by omega
    refine Ok.le ?_ law16_lived_L5_le
    refine Ok.le ?_ law16_lived_j25_le
    rw [dec_t (by omega), cond_t]
    refine Ok.le ?_ law16_lived_j24_le
    have hbd : hasBody Try.prog k_law16_lived_1 = true := by kernel_rfl
    show Ok ((some (k_law16_lived_1, ([] : List Value), [ptr mb, ptr tb, ptr hb, ptr ab])).bind _) QL
    simp only [Option.bind_some, hbd, cond_t, List.nil_append, List.singleton_append]
    refine Ok.bind (anew_ok (w := i) hi4 (by simp; omega) (by simp; omega) (by omega) w0) ?_
    rintro _ h2 ⟨rfl, t', x', aa', hx', w2⟩
    simp only [asB_b, Option.bind_some, Bool.not_true, cond_f]
    refine Ok.le ?_ law16_lived_j23_le
    rw [show IntKind.wrap .i64 (((i : Nat) : Int) + 1) = ((i + 1 : Nat) : Int) by rw [wrap64 (by omega) (by omega)]; omega]
    let y' : TS := ⟨t', ⟨TM.new ((i : Int) + 1) 0, i, 0⟩, x'.b⟩
    have e4 : List.replicate (4 - i) (Value.pointer none) = .pointer none :: List.replicate (4 - (i + 1)) (.pointer none) := by
      rw [show 4 - i = (4 - (i + 1)) + 1 by omega, List.replicate_succ]
    have e1 : ((tl.map fun y => ptr y.t) ++ List.replicate (4 - i) (Value.pointer none)).set i (ptr t') = ((tl ++ [y']).map fun y => ptr y.t) ++ List.replicate (4 - (i + 1)) (.pointer none) := by
      have := set_app (tl.map fun y => ptr y.t) (List.replicate (4 - (i + 1)) (.pointer none)) (.pointer none) (ptr t')
      rw [List.length_map, htl] at this
      rw [e4, this, List.map_append]; simp [y']
    have e2 : ((tl.map fun y => ptr y.b) ++ List.replicate (4 - i) (Value.pointer none)).set i (ptr x'.b) = ((tl ++ [y']).map fun y => ptr y.b) ++ List.replicate (4 - (i + 1)) (.pointer none) := by
      have := set_app (tl.map fun y => ptr y.b) (List.replicate (4 - (i + 1)) (.pointer none)) (.pointer none) (ptr x'.b)
      rw [List.length_map, htl] at this
      rw [e4, this, List.map_append]; simp [y']
    rw [e1, e2] at w2
    have w3 := H.snoc_i (f := aTs p) (x := y') (w2.pm [0, 8, 1, 2, 3, 4, 5, 6, 7])
    refine ih (i + 1) h2 (tl ++ [y']) aa' opn (hp ++ [x']) (by omega) (by omega) (by simp; omega) (by simp; omega) ?_ ?_ ?_ (w3.pm [1, 2, 3, 4, 5, 6, 7, 0])
    · rw [List.map_append, hsl, List.range_succ, List.map_append]; rfl
    · rw [List.map_append, hH, List.replicate_succ']; simp [hx']
    · rw [List.map_append, List.map_append, hB]; rfl
theorem lived_ok (hA : (a1, ops.flatMap encOp) ∈ A) {h : AH} {F : List Asr} (w : H h (aRds A :: F)) : Ok (C k_law16_lived [.slice a1 ops.length c3] h) QL := by
  refine Ok.le ?_ law16_lived_le
  unfold F_law16_lived
  have w1 := w.push (.cells z6 false false 6)
  have w2 := w1.push (.cells z6 false false 6)
  generalize hh6 : ((h.push (.cells z6 false false 6)).push (.cells z6 false false 6)) = h6 at w2
  have hn : h6.n = h.n + 2 := by rw [← hh6]; rfl
  have hlb : (h.push (.cells z6 false false 6)).n = h.n + 1 := rfl
  rcases new_ok h6 6 with ⟨hbad, _⟩ | ⟨_, _, h7, e1, M1, f1, n1⟩
  · omega
  simp only [hh6, e1, Option.bind_some, asTu_t, hdO_c, asP_p, asI_i64, List.isEmpty_nil, cond_t, decide_true, Bool.not_true, cond_f]
  have w3 : H h7 (aMem (h6.n + 1) h6.n (List.replicate 6 ⟨0, 0, 0⟩) 0 :: _) := w2.fresh f1.n (fun b hb => f1.g b hb (by simp)) (fun b hb => by omega) M1.live fun h'' hg => M1.same2 hg
  obtain ⟨h8, s8, w4, n4⟩ := w3.var [.pointer none] [ptr (h6.n + 1)] 1 rfl
  simp only [s8, Option.bind_some]
  refine Ok.le ?_ law16_lived_j26_le
  have w5 := w4.push (.cells [.pointer none, .pointer none, .pointer none, .pointer none] false false 4)
  have w6 := w5.push (.cells [.pointer none, .pointer none, .pointer none, .pointer none] false false 4)
  have w7 := w6.push (.cells [.slice none 0 0] false false 1)
  have w8 := H.cls (L := []) (H.cls (L := []) (w7.owNil 1))
  refine init_loop (p := h6.n + 1) (q := h6.n) hA (F := F) 4 0 _ [] none 0 [] rfl (by omega) rfl rfl rfl rfl rfl ?_
  exact w8.pm [7, 6, 5, 4, 3, 2, 1, 0, 9, 8, 10]
end
end Ser
end Go.Lg.Try
