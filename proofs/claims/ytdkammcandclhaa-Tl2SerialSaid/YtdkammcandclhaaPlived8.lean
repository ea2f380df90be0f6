/- lived: beginning anew; the calls, one by one. -/
import Derived.Test.YtdkammcandclhaaPlived5
set_option linter.unusedVariables false
set_option linter.unusedSimpArgs false
namespace Go.Lg.Try
set_option linter.unusedVariables false
set_option linter.unusedSimpArgs false
open Go Go.Proofs
namespace Ser
abbrev F31 (mb tb hb ab : Nat) : Option (FuncId × List Value × List Value) := some (k_law16_lived_1, [], [ptr mb, ptr tb, ptr hb, ptr ab])
section
variable {h : AH} {p q mb tb hb ab rb lb w j t k l2 c3 : Nat} {m : TM} {tl : List TS} {cs : List Cel} {clk : Int} {aa a1 : Option Addr} {ac : Nat} {hp : List HP} {A : List (Option Addr × List Value)} {F : List Asr} {y : TS} {x : HP} {Q : Value → AH → Prop}
theorem an_arm (hw : w < 4) (hk : k < 300) (L : LI k cs clk tl hp) (w0 : H h (LT p q mb tb hb ab rb lb tl cs clk aa ac hp A ++ F)) {i : Int} (K : KK p q mb tb hb ab rb lb k l2 c3 a1 (F31 mb tb hb ab) A F Q) :
    Ok (law16_lived_j19 (some ⟨tb, 0, none⟩) (w : Nat) h i (k : Nat) (some ⟨hb, 0, none⟩) l2 a1 (F31 mb tb hb ab) (some ⟨ab, 0, none⟩) (some ⟨mb, 0, none⟩) (some ⟨lb, 0, none⟩) (some ⟨rb, 0, none⟩) c3 11 false) Q := by
  obtain ⟨y, x, E, hy, hx, hxb, I, so⟩ := L.at hw
  have hsl : (tl.map (·.s))[w]? = some y.s := by rw [List.getElem?_map, hy]; rfl
  have hHl : (hp.map (·.H))[y.s.j]? = some x.H := by rw [List.getElem?_map, hx]; rfl
  have hb4 : inB ((w : Nat) : Int) 4 = true := inB_t (by omega) (by omega)
  have htl : tl.length = 4 := by have := I.l; rwa [List.length_map] at this
  have hpl := L.h
  have wo := LT_open w0 hy hx
  obtain ⟨et, eb⟩ := ldT wo hy
  have est := MStatus wo
  have est : C k_tl2_Tx_int_Status [.pointer (some ⟨y.t, 0, none⟩)] h = _ := est
  have hbd : hasBody Try.prog k_law16_lived_1 = true := by kernel_rfl
  refine Ok.le ?_ law16_lived_j19_le
  rw [cond_f, dec_f (by decide), cond_f, dec_t rfl, cond_t]
  simp only [Option.bind_some, hb4, cond_t, Int.toNat_natCast, et, est, asI_u8]
  have out : ∀ h' cs' clk' tl' aa' ac' hp', LI (k + 1) cs' clk' tl' hp' → H h' (LT p q mb tb hb ab rb lb tl' cs' clk' aa' ac' hp' A ++ F) → Ok (law16_lived_j17 (some ⟨lb, 0, none⟩) (some ⟨rb, 0, none⟩) l2 a1 (some ⟨hb, 0, none⟩) (some ⟨tb, 0, none⟩) (F31 mb tb hb ab) (some ⟨ab, 0, none⟩) (some ⟨mb, 0, none⟩) c3 (k : Nat) false h') Q := by
    intro h' cs' clk' tl' aa' ac' hp' L' w'
    refine Ok.le ?_ law16_lived_j17_le
    rw [cond_f]
    exact K h' cs' clk' tl' aa' ac' hp' L' w'
  have go : y.s.m.st ≠ 2 → Ok ((C k_law16_lived_1 [.int .i64 (w : Nat), ptr mb, ptr tb, ptr hb, ptr ab] h).bind fun r141 => (asB r141.1).bind fun b142 => law16_lived_j17 (some ⟨lb, 0, none⟩) (some ⟨rb, 0, none⟩) l2 a1 (some ⟨hb, 0, none⟩) (some ⟨tb, 0, none⟩) (F31 mb tb hb ab) (some ⟨ab, 0, none⟩) (some ⟨mb, 0, none⟩) c3 (k : Nat) (!b142) r141.2) Q := by
    intro hst
    refine Ok.bind (anew_ok (w := w) hw (by rw [List.length_map]; exact htl) (by rw [List.length_map]; exact htl) (by omega) w0) ?_
    rintro _ h2 ⟨rfl, t', x', aa', hx', w2⟩
    simp only [asB_b, Option.bind_some, Bool.not_true]
    have I2 := I.anew hsl hHl so hst (nHeld hst)
    have hwl : w < tl.length := by omega
    have w3 : H h2 (Lay (tl.map (aTs p)) :: aTX p t' (TM.new ((w : Int) + 1) clk) :: aMem p q cs clk :: Cs mb [ptr p] 1 :: Cs tb ((tl.map fun y => ptr y.t).set w (ptr t')) 4 :: Cs hb ((tl.map fun y => ptr y.b).set w (ptr x'.b)) 4 :: Cs ab [.slice aa' (hp ++ [x']).length opn] 1 :: aOw 1 aa' (hp ++ [x']).length opn ((hp ++ [x']).flatMap encP1) :: Lay ((hp ++ [x']).map aHP) :: Cs rb z6 6 :: Cs lb z6 6 :: aRds A :: F) := w2.mv 8 rfl
    have w4 := (H.take_i (f := aTs p) hy w3).drop
    let y' : TS := ⟨t', ⟨TM.new ((w : Int) + 1) clk, (hp.map (·.H)).length, 0⟩, x'.b⟩
    have w5 := H.put_i (f := aTs p) y' hwl (w4.pm [1, 0, 2, 3, 4, 5, 6, 7, 8, 9, 10, 11])
    have e1 : ((tl.set w y').map fun y => ptr y.t) = (tl.map fun y => ptr y.t).set w (ptr t') := by rw [List.map_set]
    have e2 : ((tl.set w y').map fun y => ptr y.b) = (tl.map fun y => ptr y.b).set w (ptr x'.b) := by rw [List.map_set]
    have w6 : H h2 (LT p q mb tb hb ab rb lb (tl.set w y') cs clk aa' opn (hp ++ [x']) A ++ F) := by
      simp only [LT, e1, e2]
      exact w5.pm [1, 2, 3, 4, 5, 6, 7, 0, 8, 9, 10]
    refine out h2 cs clk _ aa' opn _ ⟨⟨E, by rw [List.map_set, List.map_append]; simp only [List.map_cons, List.map_nil, hx']; exact I2⟩, fun n z hz => ?_, by have := L.n; omega, by simp; omega, fun z hz => ?_⟩ w6
    · rw [get_set_iff hy] at hz
      by_cases e : w = n
      · rw [if_pos e] at hz
        obtain rfl := Option.some.inj hz
        exact ⟨x', by show (hp ++ [x'])[(hp.map (·.H)).length]? = _; rw [List.length_map]; simp, rfl⟩
      · rw [if_neg e] at hz
        obtain ⟨x0, h0, e0⟩ := L.b n z hz
        exact ⟨x0, by rw [List.getElem?_append_left (List.getElem?_eq_some_iff.mp h0).1]; exact h0, e0⟩
    · rcases List.mem_append.mp hz with hz | hz
      · have := L.r z hz; omega
      · obtain rfl : z = x' := by simpa using hz
        rw [hx']; simp
  by_cases c3' : y.s.m.st = 3
  · rw [dec_t c3', cond_t]
    show Ok ((some (k_law16_lived_1, ([] : List Value), [ptr mb, ptr tb, ptr hb, ptr ab])).bind _) Q
    simp only [Option.bind_some, hbd, cond_t, List.nil_append, List.singleton_append]
    exact go (by omega)
  · rw [dec_f c3', cond_f]
    by_cases c4 : y.s.m.st = 4
    · rw [dec_t c4, cond_t]
      show Ok ((some (k_law16_lived_1, ([] : List Value), [ptr mb, ptr tb, ptr hb, ptr ab])).bind _) Q
      simp only [Option.bind_some, hbd, cond_t, List.nil_append, List.singleton_append]
      exact go (by omega)
    · rw [dec_f c4, cond_f]
      exact out h cs clk tl aa ac hp ⟨L.I, L.b, by have := L.n; omega, by omega, fun z hz => by have := L.r z hz; omega⟩ w0
end
end Ser
end Go.Lg.Try

namespace Go.Lg.Try
set_option linter.unusedVariables false
set_option linter.unusedSimpArgs false
open Go Go.Proofs
namespace Ser
structure Op where
  who : Int
  kind : Int
  i : Int
  v : Int
def encOp (x : Op) : List Value := [.int .i64 x.who, .int .i64 x.kind, .int .i64 x.i, .int .i64 x.v]
theorem encOp_len (x : Op) : (encOp x).length = 4 := rfl
theorem op_at {h : AH} {a : Option Addr} {ops : List Op} (hr : Rd h a (ops.flatMap encOp)) {k : Nat} {x : Op} (hx : ops[k]? = some x) : ∃ ad, a = some ad ∧ h.ldI .i64 ad.block (ad.off + k * 4) = some x.who ∧ h.ldI .i64 ad.block (ad.off + k * 4 + 1) = some x.kind ∧ h.ldI .i64 ad.block (ad.off + k * 4 + 2) = some x.i ∧ h.ldI .i64 ad.block (ad.off + k * 4 + 3) = some x.v := by
  have hc : ∀ j, j < 4 → (ops.flatMap encOp)[k * 4 + j]? = (encOp x)[j]? := fun j hj => flat_get_some encOp_len hj hx
  rcases hr with e | ⟨ad, c, op, ro, e, ha, h1, h2, h3⟩
  · have := hc 0 (by decide); rw [e] at this; simp [encOp] at this
  · refine ⟨ad, ha, AH.ldI_of h1 (h3 _ _ (hc 0 (by decide))), ?_, ?_, ?_⟩
    · rw [Nat.add_assoc]; exact AH.ldI_of h1 (h3 _ _ (hc 1 (by decide)))
    · rw [Nat.add_assoc]; exact AH.ldI_of h1 (h3 _ _ (hc 2 (by decide)))
    · rw [Nat.add_assoc]; exact AH.ldI_of h1 (h3 _ _ (hc 3 (by decide)))
section
variable {p q mb tb hb ab rb lb c3 : Nat} {a1 : Option Addr} {A : List (Option Addr × List Value)} {Q : Value → AH → Prop}
theorem f20_arm {h : AH} {w k l2 : Nat} {tl : List TS} {cs : List Cel} {clk : Int} {aa : Option Addr} {ac : Nat} {hp : List HP} {F : List Asr} (hw : w < 4) (hk : k < 300) (L : LI k cs clk tl hp) (w0 : H h (LT p q mb tb hb ab rb lb tl cs clk aa ac hp A ++ F)) {i kd : Int} (K : KK p q mb tb hb ab rb lb k l2 c3 a1 (F31 mb tb hb ab) A F Q) :
    Ok (law16_lived_j20 (some ⟨hb, 0, none⟩) (w : Nat) i (some ⟨tb, 0, none⟩) l2 a1 (F31 mb tb hb ab) (some ⟨ab, 0, none⟩) (some ⟨mb, 0, none⟩) (some ⟨lb, 0, none⟩) (some ⟨rb, 0, none⟩) c3 (k : Nat) kd false h) Q := by
  refine Ok.le ?_ law16_lived_j20_le
  rw [cond_f]
  have J : ∀ b, Ok (law16_lived_j19 (some ⟨tb, 0, none⟩) (w : Nat) h i (k : Nat) (some ⟨hb, 0, none⟩) l2 a1 (F31 mb tb hb ab) (some ⟨ab, 0, none⟩) (some ⟨mb, 0, none⟩) (some ⟨lb, 0, none⟩) (some ⟨rb, 0, none⟩) c3 kd b) Q := by
    intro b
    cases b with
    | true => exact wr_arm hw hk L w0 K
    | false =>
      by_cases c10 : kd = 10
      · subst c10; exact ab_arm hw hk L w0 K
      · by_cases c11 : kd = 11
        · subst c11; exact an_arm hw hk L w0 K
        · exact st_arm hw hk L w0 c10 c11 K
  by_cases c2 : kd = 2
  · rw [dec_t c2, cond_t]; exact J _
  · rw [dec_f c2, cond_f]; exact J _
theorem lv_loop {ops : List Op} (hA : (a1, ops.flatMap encOp) ∈ A) (END : ∀ h cs clk tl aa ac hp N F, N ≤ 300 → LI N cs clk tl hp → H h (LT p q mb tb hb ab rb lb tl cs clk aa ac hp A ++ F) → Ok (law16_lived_j14 (some ⟨tb, 0, none⟩) (some ⟨ab, 0, none⟩) (some ⟨hb, 0, none⟩) (some ⟨mb, 0, none⟩) (some ⟨lb, 0, none⟩) (some ⟨rb, 0, none⟩) h) Q) :
    ∀ (n k : Nat) (h : AH) (cs : List Cel) (clk : Int) (tl : List TS) (aa : Option Addr) (ac : Nat) (hp : List HP) (F : List Asr), 300 - k = n → k ≤ 300 → LI k cs clk tl hp → H h (LT p q mb tb hb ab rb lb tl cs clk aa ac hp A ++ F) →
      Ok (law16_lived_L4 ops.length a1 (some ⟨hb, 0, none⟩) (some ⟨tb, 0, none⟩) (F31 mb tb hb ab) (some ⟨ab, 0, none⟩) (some ⟨mb, 0, none⟩) (some ⟨lb, 0, none⟩) (some ⟨rb, 0, none⟩) c3 (k : Nat) h) Q := by
  intro n
  induction n with
  | zero =>
    intro k h cs clk tl aa ac hp F hn hk L w0
    obtain rfl : k = 300 := by omega
    refine Ok.le ?_ law16_lived_L4_le
    by_cases c : ((300 : Nat) : Int) < ((ops.length : Nat) : Int)
    · rw [dec_t c, cond_t, dec_f (by omega), cond_f]; exact END _ _ _ _ _ _ _ _ _ hk L w0
    · rw [dec_f c, cond_f]; exact END _ _ _ _ _ _ _ _ _ hk L w0
  | succ n ih =>
    intro k h cs clk tl aa ac hp F hn hk L w0
    refine Ok.le ?_ law16_lived_L4_le
    by_cases c : ((k : Nat) : Int) < ((ops.length : Nat) : Int)
    · rw [dec_t c, cond_t, dec_t (by omega), cond_t]
      refine Ok.le ?_ law16_lived_j21_le
      obtain ⟨x, hx⟩ : ∃ x, ops[k]? = some x := ⟨_, List.getElem?_eq_getElem (by omega)⟩
      have hr : Rd h a1 (ops.flatMap encOp) := (w0.mv 10 rfl).rds (p := (a1, ops.flatMap encOp)) hA
      obtain ⟨ad, rfl, e1, e2, e3, e4⟩ := op_at hr hx
      obtain ⟨h2, s2, w2, n2⟩ := w0.var [.int .i64 0, .int .i64 0, .int .i64 0, .int .i64 0] (encOp x) 4 rfl
      have s2' : (h.push (.cells [.int .i64 0, .int .i64 0, .int .i64 0, .int .i64 0] false false 4)).st h.n 0 [.int .i64 x.who, .int .i64 x.kind, .int .i64 x.i, .int .i64 x.v] = some h2 := s2
      have l0 : h2.ldI .i64 h.n (0 + 0) = some x.who := AH.ldI_of (w2.g 0 rfl) rfl
      have l1 : h2.ldI .i64 h.n (0 + 1) = some x.kind := AH.ldI_of (w2.g 0 rfl) rfl
      have l2' : h2.ldI .i64 h.n (0 + 2) = some x.i := AH.ldI_of (w2.g 0 rfl) rfl
      obtain ⟨b0, b1⟩ := pickM_bd x.who 4 (by decide)
      obtain ⟨d0, d1⟩ := pickM_bd x.i 6 (by decide)
      simp only [Option.bind_some, inB_t (show (0 : Int) ≤ (k : Int) by omega) c, cond_t, Int.toNat_natCast, e1, e2, e3, e4, s2', l0, pick_eq x.who 4 (by decide) (by decide), asI_i64, l2', veqO_int, pick_eq x.i 6 (by decide) (by decide), l1]
      obtain ⟨w, hwp⟩ : ∃ w : Nat, pickM x.who 4 = (w : Int) := ⟨(pickM x.who 4).toNat, by omega⟩
      have hw : w < 4 := by omega
      rw [hwp]
      have w3 : H h2 (LT p q mb tb hb ab rb lb tl cs clk aa ac hp A ++ (Cs h.n (encOp x) 4 :: F)) := w2.pm [1, 2, 3, 4, 5, 6, 7, 8, 9, 10, 11, 0]
      have K : KK p q mb tb hb ab rb lb k ops.length c3 (some ad) (F31 mb tb hb ab) A (Cs h.n (encOp x) 4 :: F) Q := by
        intro h' cs' clk' tl' aa' ac' hp' L' w'
        refine Ok.le ?_ law16_lived_j15_le
        rw [show IntKind.wrap .i64 (((k : Nat) : Int) + 1) = ((k + 1 : Nat) : Int) by rw [wrap64 (by omega) (by omega)]; omega]
        exact ih (k + 1) h' cs' clk' tl' aa' ac' hp' _ (by omega) (by omega) L' w'
      have J : ∀ b, Ok (law16_lived_j20 (some ⟨hb, 0, none⟩) (w : Nat) (pickM x.i 6) (some ⟨tb, 0, none⟩) ops.length (some ad) (F31 mb tb hb ab) (some ⟨ab, 0, none⟩) (some ⟨mb, 0, none⟩) (some ⟨lb, 0, none⟩) (some ⟨rb, 0, none⟩) c3 (k : Nat) x.kind b h2) Q := by
        intro b
        cases b with
        | true => exact rd_arm hw (by omega) L w3 d0 d1 K
        | false => exact f20_arm hw (by omega) L w3 K
      by_cases q0 : x.kind = 0
      · rw [dec_t q0, cond_t]; exact J _
      · rw [dec_f q0, cond_f]
        by_cases q1 : x.kind = 1
        · rw [dec_t q1, cond_t]; exact J _
        · rw [dec_f q1, cond_f]
          by_cases q4 : x.kind = 4
          · rw [dec_t q4, cond_t]; exact J _
          · rw [dec_f q4, cond_f]
            by_cases q5 : x.kind = 5
            · rw [dec_t q5, cond_t]; exact J _
            · rw [dec_f q5, cond_f]; exact J _
    · rw [dec_f c, cond_f]; exact END _ _ _ _ _ _ _ _ _ hk L w0
end
end Ser
end Go.Lg.Try

namespace Go.Lg.Try
set_option linter.unusedVariables false
set_option linter.unusedSimpArgs false
open Go Go.Proofs
namespace Ser
def EndI (w : Nat) (tl : List TS) : Prop := ∀ (u : Nat) y, u < w → tl[u]? = some y → y.s.m.st ≠ 2
theorem EndI.set {w : Nat} {tl : List TS} (e : EndI w tl) (y : TS) : EndI w (tl.set w y) := fun u z hu hz => by
  rw [List.getElem?_set_ne (by omega)] at hz
  exact e u z hu hz
theorem EndI.next {w : Nat} {tl : List TS} (e : EndI w tl) (h : ∀ y, tl[w]? = some y → y.s.m.st ≠ 2) : EndI (w + 1) tl := fun u z hu hz => by
  by_cases c : u = w
  · subst c; exact h z hz
  · exact e u z (by omega) hz
section
variable {p q mb tb hb ab rb lb : Nat} {A : List (Option Addr × List Value)} {Q : Value → AH → Prop}
/-- twenty steps -/
theorem st_loop {w : Nat} (hw : w < 4) {aa : Option Addr} {ac : Nat} {F : List Asr} {M : Nat} (hM : M ≤ 400) (K : ∀ h cs clk tl hp N, N ≤ M → LI N cs clk tl hp → EndI (w + 1) tl → H h (LT p q mb tb hb ab rb lb tl cs clk aa ac hp A ++ F) → Ok (law16_lived_j7 (some ⟨tb, 0, none⟩) (some ⟨ab, 0, none⟩) (some ⟨hb, 0, none⟩) (some ⟨mb, 0, none⟩) (some ⟨lb, 0, none⟩) (some ⟨rb, 0, none⟩) (w : Nat) h) Q) :
    ∀ (n k N : Nat) (h : AH) (cs : List Cel) (clk : Int) (tl : List TS) (hp : List HP), 20 - k = n → k ≤ 20 → N + n ≤ M → LI N cs clk tl hp → EndI w tl → (∀ y, tl[w]? = some y → mu y.s.m ≤ n) → H h (LT p q mb tb hb ab rb lb tl cs clk aa ac hp A ++ F) →
      Ok (law16_lived_L3 (some ⟨tb, 0, none⟩) (w : Nat) (some ⟨hb, 0, none⟩) (some ⟨ab, 0, none⟩) (some ⟨mb, 0, none⟩) (some ⟨lb, 0, none⟩) (some ⟨rb, 0, none⟩) (k : Nat) h) Q := by
  intro n
  induction n with
  | zero =>
    intro k N h cs clk tl hp hn hk hN L E hmu w0
    obtain rfl : k = 20 := by omega
    refine Ok.le ?_ law16_lived_L3_le
    rw [dec_f (by omega), cond_f]
    refine K h cs clk tl hp N (by omega) L (E.next fun y hy => ?_) w0
    obtain ⟨y', x, E', hy', _, _, _, so⟩ := L.at hw
    rw [hy] at hy'
    obtain rfl := Option.some.inj hy'
    obtain ⟨N', tx⟩ := so.tx
    exact mu_zero tx (by have := hmu y hy; omega)
  | succ n ih =>
    intro k N h cs clk tl hp hn hk hN L E hmu w0
    refine Ok.le ?_ law16_lived_L3_le
    rw [dec_t (by omega), cond_t]
    refine Ok.le ?_ law16_lived_j10_le
    obtain ⟨y, x0, _, hy, _⟩ := L.at hw
    have hwl : w < tl.length := (List.getElem?_eq_some_iff.mp hy).1
    have hb4 : inB ((w : Nat) : Int) 4 = true := inB_t (by omega) (by omega)
    obtain ⟨x, hx, hxb, ok⟩ := step_do hw L hy w0
    have wo := LT_open w0 hy hx
    obtain ⟨et, eb⟩ := ldT wo hy
    simp only [Option.bind_some, hb4, cond_t, Int.toNat_natCast, et]
    refine Ok.bind ok ?_
    rintro _ h2 ⟨st, e, m', cs', clk', s', H', rfl, hmu2, hm, hj, hH', w2, LS⟩
    subst hm
    obtain ⟨et2, eb2⟩ := ldT w2 hy
    simp only [asTu_t, hdO_c, asI_i64, asI_u8, Option.bind_some, List.isEmpty_nil, cond_t]
    have next : ∀ h4 x', x'.b = x.b → x'.H = H' → H h4 (LT p q mb tb hb ab rb lb (tl.set w ⟨y.t, s', y.b⟩) cs' clk' aa ac (hp.set y.s.j x') A ++ F) → Ok (law16_lived_j8 (some ⟨tb, 0, none⟩) (w : Nat) (some ⟨hb, 0, none⟩) (some ⟨ab, 0, none⟩) (some ⟨mb, 0, none⟩) (some ⟨lb, 0, none⟩) (some ⟨rb, 0, none⟩) (k : Nat) h4) Q := by
      intro h4 x' hb' hH2 w4
      refine Ok.le ?_ law16_lived_j8_le
      rw [show IntKind.wrap .i64 (((k : Nat) : Int) + 1) = ((k + 1 : Nat) : Int) by rw [wrap64 (by omega) (by omega)]; omega]
      refine ih (k + 1) (N + 1) h4 cs' clk' _ _ (by omega) (by omega) (by omega) (LS x' hb' hH2) (E.set _) (fun z hz => ?_) w4
      rw [List.getElem?_set_self hwl] at hz
      obtain rfl := Option.some.inj hz
      have := hmu y hy
      show mu s'.m ≤ n
      omega
    have J : ∀ b, b = (decide (st = 3) && !x.H.done) → Ok (law16_lived_j9 (some ⟨hb, 0, none⟩) (w : Nat) (some ⟨tb, 0, none⟩) (some ⟨ab, 0, none⟩) (some ⟨mb, 0, none⟩) (some ⟨lb, 0, none⟩) (some ⟨rb, 0, none⟩) (k : Nat) b h2) Q := by
      intro b hbb
      refine Ok.le ?_ law16_lived_j9_le
      cases b with
      | true =>
        have hc : st = 3 ∧ x.H.done = false := by simpa using hbb.symm
        rw [cond_t]
        have hve := MVersion w2
        have hve : C k_tl2_Tx_int_Version [.pointer (some ⟨y.t, 0, none⟩)] h2 = _ := hve
        obtain ⟨h3, h4, s3, e3, s4, w4⟩ := done_up hy hx hxb (if s'.m.st = 3 then s'.m.ver else 0) w2
        simp only [Option.bind_some, hb4, cond_t, Int.toNat_natCast, et2, eb2, hve, asI_i64, veqO_ptr, s3, e3, s4]
        have hq : H' = { x.H with done := true, ver := if s'.m.st = 3 then s'.m.ver else 0 } := by rw [hH']; unfold doneH; rw [if_pos hc]
        exact next h4 { x with H := { x.H with done := true, ver := if s'.m.st = 3 then s'.m.ver else 0 } } rfl hq.symm (LT_close (s' := s') (x' := { x with H := { x.H with done := true, ver := if s'.m.st = 3 then s'.m.ver else 0 } }) hy hx rfl w4)
      | false =>
        rw [cond_f]
        have hq : H' = x.H := by
          rw [hH']; unfold doneH
          rw [if_neg]
          rintro ⟨h1, h2⟩
          rw [h1, h2] at hbb; exact absurd hbb (by decide)
        exact next h2 x rfl hq.symm (LT_close (s' := s') (x' := x) hy hx rfl w2)
    by_cases c : st = 3
    · rw [dec_t c, cond_t]
      have eD : h2.ldB x.b (0 + 4) = some x.H.done := AH.ldB_of ((LO_open w2).g 0 rfl) rfl
      rw [hxb] at eD
      simp only [Option.bind_some, hb4, cond_t, Int.toNat_natCast, eb2, eD]
      exact J _ (by rw [dec_t c, Bool.true_and])
    · rw [dec_f c, cond_f]
      exact J _ (by rw [dec_f c, Bool.false_and])
/-- the four, one by one -/
theorem en_loop {aa : Option Addr} {ac : Nat} {F : List Asr} (K : ∀ h cs clk tl hp N, N ≤ 400 → LI N cs clk tl hp → EndI 4 tl → H h (LT p q mb tb hb ab rb lb tl cs clk aa ac hp A ++ F) → Ok (law16_lived_j6 (some ⟨mb, 0, none⟩) (some ⟨lb, 0, none⟩) (some ⟨rb, 0, none⟩) (some ⟨ab, 0, none⟩) h) Q) :
    ∀ (n w N : Nat) (h : AH) (cs : List Cel) (clk : Int) (tl : List TS) (hp : List HP), 4 - w = n → w ≤ 4 → N + 20 * n ≤ 400 → LI N cs clk tl hp → EndI w tl → H h (LT p q mb tb hb ab rb lb tl cs clk aa ac hp A ++ F) →
      Ok (law16_lived_L2 (some ⟨tb, 0, none⟩) (some ⟨ab, 0, none⟩) (some ⟨hb, 0, none⟩) (some ⟨mb, 0, none⟩) (some ⟨lb, 0, none⟩) (some ⟨rb, 0, none⟩) (w : Nat) h) Q := by
  intro n
  induction n with
  | zero =>
    intro w N h cs clk tl hp hn hw hN L E w0
    obtain rfl : w = 4 := by omega
    refine Ok.le ?_ law16_lived_L2_le
    refine Ok.le ?_ law16_lived_j13_le
    rw [dec_f (by omega), cond_f]
    exact K h cs clk tl hp N (by omega) L E w0
  | succ n ih =>
    intro w N h cs clk tl hp hn hw hN L E w0
    have hw4 : w < 4 := by omega
    obtain ⟨y, x, E', hy, hx, hxb, I, so⟩ := L.at hw4
    have hwl : w < tl.length := (List.getElem?_eq_some_iff.mp hy).1
    have hsl : (tl.map (·.s))[w]? = some y.s := by rw [List.getElem?_map, hy]; rfl
    have hHl : (hp.map (·.H))[y.s.j]? = some x.H := by rw [List.getElem?_map, hx]; rfl
    have hb4 : inB ((w : Nat) : Int) 4 = true := inB_t (by omega) (by omega)
    have wo := LT_open w0 hy hx
    obtain ⟨et, eb⟩ := ldT wo hy
    obtain ⟨nw, nr⟩ := nk_of wo
    obtain ⟨N1, tx⟩ := so.tx
    have hcs := I.n
    have how := so.ow
    have hrl := L.r x (List.mem_of_getElem? hx)
    refine Ok.le ?_ law16_lived_L2_le
    refine Ok.le ?_ law16_lived_j13_le
    rw [dec_t (by omega), cond_t]
    refine Ok.le ?_ law16_lived_j12_le
    simp only [Option.bind_some, hb4, cond_t, Int.toNat_natCast, et]
    have I2 := I.abort hsl hHl so
    refine Ok.bind (MAbort wo (by omega) (by omega)) ?_
    rintro _ h2 ⟨rfl, w2⟩
    simp only [asI_i64, Option.bind_some]
    have w5 := LT_close (x' := x) (s' := { y.s with m := (y.s.m.abort cs).2.1 }) hy hx rfl w2
    have L2 := L.set (N' := N) (x' := x) (s' := { y.s with m := (y.s.m.abort cs).2.1 }) hy hx rfl rfl L.n (by omega) (by omega) (by rw [set_self hHl]; exact I2)
    have J7 : ∀ h' cs' clk' tl' hp' N', N' ≤ N + 20 → LI N' cs' clk' tl' hp' → EndI (w + 1) tl' → H h' (LT p q mb tb hb ab rb lb tl' cs' clk' aa ac hp' A ++ F) → Ok (law16_lived_j7 (some ⟨tb, 0, none⟩) (some ⟨ab, 0, none⟩) (some ⟨hb, 0, none⟩) (some ⟨mb, 0, none⟩) (some ⟨lb, 0, none⟩) (some ⟨rb, 0, none⟩) (w : Nat) h') Q := by
      intro h' cs' clk' tl' hp' N' hN' L' E' w'
      refine Ok.le ?_ law16_lived_j7_le
      rw [show IntKind.wrap .i64 (((w : Nat) : Int) + 1) = ((w + 1 : Nat) : Int) by rw [wrap64 (by omega) (by omega)]; omega]
      exact ih (w + 1) N' h' cs' clk' tl' hp' (by omega) (by omega) (by omega) L' E' w'
    by_cases c : (y.s.m.abort cs).1 = 0
    · rw [dec_t c, cond_t]
      refine J7 h2 _ clk _ _ N (by omega) L2 ((E.set _).next fun z hz => ?_) w5
      rw [List.getElem?_set_self hwl] at hz
      obtain rfl := Option.some.inj hz
      show (y.s.m.abort cs).2.1.st ≠ 2
      unfold TM.abort at c ⊢
      by_cases o : y.s.m.over
      · rw [if_pos o] at c; exact absurd (show (132 : Int) = 0 from c) (by decide)
      · rw [if_neg o]; show (4 : Int) ≠ 2; decide
    · rw [dec_f c, cond_f]
      refine Ok.le ?_ law16_lived_j11_le
      have hab : (y.s.m.abort cs).2.1 = y.s.m := by
        unfold TM.abort at c ⊢
        by_cases o : y.s.m.over
        · rw [if_pos o]
        · rw [if_neg o] at c; exact absurd rfl c
      refine st_loop hw4 (M := N + 20) (by omega) J7 20 0 N h2 _ clk _ _ rfl (by omega) (by omega) L2 (E.set _) (fun z hz => ?_) w5
      rw [List.getElem?_set_self hwl] at hz
      obtain rfl := Option.some.inj hz
      show mu (y.s.m.abort cs).2.1 ≤ 20
      rw [hab]
      exact mu_le tx nw nr
end
end Ser
end Go.Lg.Try
