/- lived: one of the four and its history are taken out, and put back. -/
import Derived.Test.YtdkammcandclhaaPlived2
import Derived.Test.YtdkammcandclhaaPkitPick
set_option linter.unusedVariables false
set_option linter.unusedSimpArgs false
namespace Go.Lg.Try
set_option linter.unusedVariables false
set_option linter.unusedSimpArgs false
open Go Go.Proofs
namespace Ser
/-- one of the four: the block of its transaction, what it is, the block of its history -/
structure TS where
  t : Nat
  s : Sl
  b : Nat
abbrev z6 : List Value := [.int .i64 0, .int .i64 0, .int .i64 0, .int .i64 0, .int .i64 0, .int .i64 0]
def aTs (p : Nat) (y : TS) : Asr := aTX p y.t y.s.m
abbrev LT (p q mb tb hb ab rb lb : Nat) (tl : List TS) (cs : List Cel) (clk : Int) (aa : Option Addr) (ac : Nat) (hp : List HP) (A : List (Option Addr × List Value)) : List Asr :=
  [aMem p q cs clk, Cs mb [ptr p] 1, Cs tb (tl.map fun y => ptr y.t) 4, Cs hb (tl.map fun y => ptr y.b) 4, Cs ab [.slice aa hp.length ac] 1, aOw 1 aa hp.length ac (hp.flatMap encP1), Lay (hp.map aHP), Lay (tl.map (aTs p)), Cs rb z6 6, Cs lb z6 6, aRds A]
abbrev LO (p q mb tb hb ab rb lb : Nat) (w j t : Nat) (m : TM) (x : HP) (tl : List TS) (cs : List Cel) (clk : Int) (aa : Option Addr) (ac : Nat) (hp : List HP) (A : List (Option Addr × List Value)) : List Asr :=
  [aTX p t m, aMem p q cs clk, aHP x, Cs mb [ptr p] 1, Cs tb (tl.map fun y => ptr y.t) 4, Cs hb (tl.map fun y => ptr y.b) 4, Cs ab [.slice aa hp.length ac] 1, aOw 1 aa hp.length ac (hp.flatMap encP1), Lay ((hp.eraseIdx j).map aHP), Lay ((tl.eraseIdx w).map (aTs p)), Cs rb z6 6, Cs lb z6 6, aRds A]
section
variable {h : AH} {p q mb tb hb ab rb lb w : Nat} {tl : List TS} {cs : List Cel} {clk : Int} {aa : Option Addr} {ac : Nat} {hp : List HP} {A : List (Option Addr × List Value)} {F : List Asr} {y : TS} {x x' : HP}
theorem LT_open (w0 : H h (LT p q mb tb hb ab rb lb tl cs clk aa ac hp A ++ F)) (hy : tl[w]? = some y) (hx : hp[y.s.j]? = some x) : H h (LO p q mb tb hb ab rb lb w y.s.j y.t y.s.m x tl cs clk aa ac hp A ++ F) := by
  have w1 : H h (Lay (hp.map aHP) :: aMem p q cs clk :: Cs mb [ptr p] 1 :: Cs tb (tl.map fun y => ptr y.t) 4 :: Cs hb (tl.map fun y => ptr y.b) 4 :: Cs ab [.slice aa hp.length ac] 1 :: aOw 1 aa hp.length ac (hp.flatMap encP1) :: Lay (tl.map (aTs p)) :: Cs rb z6 6 :: Cs lb z6 6 :: aRds A :: F) := w0.mv 6 rfl
  have w2 := H.take_i (f := aHP) hx w1
  have w3 : H h (Lay (tl.map (aTs p)) :: aHP x :: Lay ((hp.eraseIdx y.s.j).map aHP) :: aMem p q cs clk :: Cs mb [ptr p] 1 :: Cs tb (tl.map fun y => ptr y.t) 4 :: Cs hb (tl.map fun y => ptr y.b) 4 :: Cs ab [.slice aa hp.length ac] 1 :: aOw 1 aa hp.length ac (hp.flatMap encP1) :: Cs rb z6 6 :: Cs lb z6 6 :: aRds A :: F) := w2.mv 8 rfl
  have w4 := H.take_i (f := aTs p) hy w3
  exact w4.pm [0, 4, 2, 5, 6, 7, 8, 9, 3, 1, 10, 11, 12]
theorem set_flat {hp : List HP} {j : Nat} (hx : hp[j]? = some x) (hb : x'.b = x.b) : (hp.set j x').flatMap encP1 = hp.flatMap encP1 := by
  have e : ∀ l : List HP, l.flatMap encP1 = (l.map (·.b)).flatMap fun b => [ptr b] := fun l => by rw [List.flatMap_map]; rfl
  rw [e, e, List.map_set, set_self (by rw [List.getElem?_map, hx]; simp [hb])]
theorem LT_close {s' : Sl} {j : Nat} {cs' : List Cel} {clk' : Int} (hy : tl[w]? = some y) (hx : hp[j]? = some x) (hxb : x'.b = x.b) (w0 : H h (LO p q mb tb hb ab rb lb w j y.t s'.m x' tl cs' clk' aa ac hp A ++ F)) :
    H h (LT p q mb tb hb ab rb lb (tl.set w ⟨y.t, s', y.b⟩) cs' clk' aa ac (hp.set j x') A ++ F) := by
  have hwl : w < tl.length := (List.getElem?_eq_some_iff.mp hy).1
  have hjl : j < hp.length := (List.getElem?_eq_some_iff.mp hx).1
  have w1 := H.put_i (f := aTs p) ⟨y.t, s', y.b⟩ hwl (w0.pm [0, 9, 1, 2, 3, 4, 5, 6, 7, 8, 10, 11, 12])
  have w2 := H.put_i (f := aHP) x' hjl (w1.pm [2, 8, 0, 1, 3, 4, 5, 6, 7, 9, 10, 11])
  have e1 : ((tl.set w ⟨y.t, s', y.b⟩).map fun y => ptr y.t) = tl.map fun y => ptr y.t := by rw [List.map_set, set_self (by rw [List.getElem?_map, hy]; rfl)]
  have e2 : ((tl.set w ⟨y.t, s', y.b⟩).map fun y => ptr y.b) = tl.map fun y => ptr y.b := by rw [List.map_set, set_self (by rw [List.getElem?_map, hy]; rfl)]
  have e3 := set_flat (x' := x') hx hxb
  simp only [LT, e1, e2, e3, List.length_set]
  exact w2.pm [2, 3, 4, 5, 6, 7, 0, 1, 8, 9, 10]
/-- what holds at every call -/
structure LI (N : Nat) (cs : List Cel) (clk : Int) (tl : List TS) (hp : List HP) : Prop where
  I : ∃ E, Inv cs clk E (tl.map (·.s)) (hp.map (·.H))
  b : ∀ (w : Nat) y, tl[w]? = some y → ∃ x, hp[y.s.j]? = some x ∧ x.b = y.b
  n : clk ≤ N
  h : hp.length ≤ N + 4
  r : ∀ x ∈ hp, x.H.reads.length ≤ N
theorem LI.at {N : Nat} (L : LI N cs clk tl hp) {w : Nat} (hw : w < 4) : ∃ y x E, tl[w]? = some y ∧ hp[y.s.j]? = some x ∧ x.b = y.b ∧ Inv cs clk E (tl.map (·.s)) (hp.map (·.H)) ∧ SOK w cs clk E (tl.map (·.s)) y.s x.H := by
  obtain ⟨E, I⟩ := L.I
  have hl := I.l
  rw [List.length_map] at hl
  obtain ⟨y, hy⟩ : ∃ y, tl[w]? = some y := ⟨_, List.getElem?_eq_getElem (by omega)⟩
  obtain ⟨x, hx, hb⟩ := L.b w y hy
  obtain ⟨H, hH, so⟩ := I.s w y.s (by rw [List.getElem?_map, hy]; rfl)
  rw [List.getElem?_map, hx] at hH
  obtain rfl := Option.some.inj hH
  exact ⟨y, x, E, hy, hx, hb, I, so⟩
/-- one of the four and its history turn -/
theorem LI.set {N : Nat} (L : LI N cs clk tl hp) {w : Nat} (hy : tl[w]? = some y) (hx : hp[y.s.j]? = some x) (hb : x'.b = x.b) {s' : Sl} (hj : s'.j = y.s.j) {cs' : List Cel} {clk' : Int} {N' : Nat} (hN : clk' ≤ N') (hN2 : N ≤ N') (hr : x'.H.reads.length ≤ N') {E' : List Pb} (I' : Inv cs' clk' E' ((tl.map (·.s)).set w s') ((hp.map (·.H)).set y.s.j x'.H)) : LI N' cs' clk' (tl.set w ⟨y.t, s', y.b⟩) (hp.set y.s.j x') := by
  refine ⟨⟨E', by rw [List.map_set, List.map_set]; exact I'⟩, fun k z hz => ?_, hN, by rw [List.length_set]; have := L.h; omega, fun z hz => by
    rcases List.mem_or_eq_of_mem_set hz with hz | rfl
    · have := L.r z hz; omega
    · exact hr⟩
  have key : ∀ (j : Nat) (x0 : HP), hp[j]? = some x0 → ∃ x1, (hp.set y.s.j x')[j]? = some x1 ∧ x1.b = x0.b := by
    intro j x0 h0
    rw [get_set_iff hx]
    by_cases e : y.s.j = j
    · subst e
      rw [hx] at h0
      obtain rfl := Option.some.inj h0
      exact ⟨x', by rw [if_pos rfl], hb⟩
    · exact ⟨x0, by rw [if_neg e]; exact h0, rfl⟩
  rw [get_set_iff hy] at hz
  by_cases e : w = k
  · rw [if_pos e] at hz
    obtain rfl := Option.some.inj hz
    obtain ⟨x0, h0, e0⟩ := L.b w y hy
    obtain ⟨x1, h1, e1⟩ := key _ x0 h0
    exact ⟨x1, by show (hp.set y.s.j x')[s'.j]? = _; rw [hj]; exact h1, by rw [e1, e0]⟩
  · rw [if_neg e] at hz
    obtain ⟨x0, h0, e0⟩ := L.b k z hz
    obtain ⟨x1, h1, e1⟩ := key _ x0 h0
    exact ⟨x1, h1, by rw [e1, e0]⟩
end
end Ser
end Go.Lg.Try

namespace Go.Lg.Try
set_option linter.unusedVariables false
set_option linter.unusedSimpArgs false
open Go Go.Proofs
namespace Ser
section
variable {h : AH} {p q mb tb hb ab rb lb w j t k l2 c3 : Nat} {m : TM} {tl : List TS} {cs : List Cel} {clk : Int} {aa a1 : Option Addr} {ac : Nat} {hp : List HP} {A : List (Option Addr × List Value)} {F : List Asr} {y : TS} {x : HP} {f31 : Option (FuncId × List Value × List Value)} {Q : Value → AH → Prop}
abbrev LPx (p q mb tb hb ab rb lb w j t : Nat) (m : TM) (x : HP) (tl : List TS) (cs : List Cel) (clk : Int) (aa : Option Addr) (ac : Nat) (hp : List HP) (A : List (Option Addr × List Value)) : List Asr :=
  [Cs x.b (encHP x) 5, aOw 2 x.ra x.H.reads.length x.rc (x.H.reads.flatMap encG), aM x.rm x.H.writes, aTX p t m, aMem p q cs clk, Cs mb [ptr p] 1, Cs tb (tl.map fun y => ptr y.t) 4, Cs hb (tl.map fun y => ptr y.b) 4, Cs ab [.slice aa hp.length ac] 1, aOw 1 aa hp.length ac (hp.flatMap encP1), Lay ((hp.eraseIdx j).map aHP), Lay ((tl.eraseIdx w).map (aTs p)), Cs rb z6 6, Cs lb z6 6, aRds A]
theorem LO_open (w0 : H h (LO p q mb tb hb ab rb lb w j t m x tl cs clk aa ac hp A ++ F)) : H h (LPx p q mb tb hb ab rb lb w j t m x tl cs clk aa ac hp A ++ F) := by
  have w1 : H h (aHP x :: aTX p t m :: aMem p q cs clk :: Cs mb [ptr p] 1 :: Cs tb (tl.map fun y => ptr y.t) 4 :: Cs hb (tl.map fun y => ptr y.b) 4 :: Cs ab [.slice aa hp.length ac] 1 :: aOw 1 aa hp.length ac (hp.flatMap encP1) :: Lay ((hp.eraseIdx j).map aHP) :: Lay ((tl.eraseIdx w).map (aTs p)) :: Cs rb z6 6 :: Cs lb z6 6 :: aRds A :: F) := w0.mv 2 rfl
  exact H.opn_ (L := [Cs x.b (encHP x) 5, aOw 2 x.ra x.H.reads.length x.rc (x.H.reads.flatMap encG), aM x.rm x.H.writes]) w1
theorem LO_close (w0 : H h (LPx p q mb tb hb ab rb lb w j t m x tl cs clk aa ac hp A ++ F)) : H h (LO p q mb tb hb ab rb lb w j t m x tl cs clk aa ac hp A ++ F) := by
  have w1 := H.cls (L := [Cs x.b (encHP x) 5, aOw 2 x.ra x.H.reads.length x.rc (x.H.reads.flatMap encG), aM x.rm x.H.writes]) w0
  exact (show H h (aHP x :: _) from w1).pm [1, 2, 0]
/-- the addresses of one of the four -/
theorem ldT (w0 : H h (LO p q mb tb hb ab rb lb w j t m x tl cs clk aa ac hp A ++ F)) (hy : tl[w]? = some y) : h.ldP tb (0 + w * 1) = some (some ⟨y.t, 0, none⟩) ∧ h.ldP hb (0 + w * 1) = some (some ⟨y.b, 0, none⟩) := by
  refine ⟨AH.ldP_of (w0.g 4 rfl) ?_, AH.ldP_of (w0.g 5 rfl) ?_⟩
  · rw [Nat.zero_add, Nat.mul_one, List.getElem?_map, hy]; rfl
  · rw [Nat.zero_add, Nat.mul_one, List.getElem?_map, hy]; rfl
/-- the next call -/
abbrev KK (p q mb tb hb ab rb lb k l2 c3 : Nat) (a1 : Option Addr) (f31 : Option (FuncId × List Value × List Value)) (A : List (Option Addr × List Value)) (F : List Asr) (Q : Value → AH → Prop) : Prop :=
  ∀ h' cs' clk' tl' aa' ac' hp', LI (k + 1) cs' clk' tl' hp' → H h' (LT p q mb tb hb ab rb lb tl' cs' clk' aa' ac' hp' A ++ F) → Ok (law16_lived_j15 l2 a1 (some ⟨hb, 0, none⟩) (some ⟨tb, 0, none⟩) f31 (some ⟨ab, 0, none⟩) (some ⟨mb, 0, none⟩) (some ⟨lb, 0, none⟩) (some ⟨rb, 0, none⟩) c3 (k : Nat) h') Q
/-- a read -/
theorem rd_arm (hw : w < 4) (hk : k < 300) (L : LI k cs clk tl hp) (w0 : H h (LT p q mb tb hb ab rb lb tl cs clk aa ac hp A ++ F)) {i : Int} (i0 : 0 ≤ i) (i6 : i < 6) {kd : Int} (K : KK p q mb tb hb ab rb lb k l2 c3 a1 f31 A F Q) :
    Ok (law16_lived_j20 (some ⟨hb, 0, none⟩) (w : Nat) i (some ⟨tb, 0, none⟩) l2 a1 f31 (some ⟨ab, 0, none⟩) (some ⟨mb, 0, none⟩) (some ⟨lb, 0, none⟩) (some ⟨rb, 0, none⟩) c3 (k : Nat) kd true h) Q := by
  obtain ⟨y, x, E, hy, hx, hxb, I, so⟩ := L.at hw
  have hlen : hp.length ≤ 1000 := by have := L.h; omega
  have hsl : (tl.map (·.s))[w]? = some y.s := by rw [List.getElem?_map, hy]; rfl
  have hHl : (hp.map (·.H))[y.s.j]? = some x.H := by rw [List.getElem?_map, hx]; rfl
  have hb4 : inB ((w : Nat) : Int) 4 = true := inB_t (by omega) (by omega)
  have wo := LT_open w0 hy hx
  obtain ⟨et, eb⟩ := ldT wo hy
  have wp := LO_open wo
  have eM : h.ldM x.b (0 + 3) = some (some x.rm) := AH.ldM_of (wp.g 0 rfl) rfl
  rw [hxb] at eM
  obtain ⟨es, m1, m2, m3⟩ := (gm_at (wp.mv 2 rfl)).map
  refine Ok.le ?_ law16_lived_j20_le
  rw [cond_t]
  simp only [Option.bind_some, hb4, cond_t, Int.toNat_natCast, eb, eM, m1]
  rw [look_eq (by kernel_rfl) m3 i]
  simp only [Option.bind_some, asI_i64, et]
  obtain ⟨I2, hval⟩ := I.read hsl hHl so i0 i6
  have hcs := I.n
  have how := so.ow
  refine Ok.bind (MRead wo (by omega) (by omega) i) ?_
  rintro _ h2 ⟨rfl, w2⟩
  simp only [asTu_t, hdO_c, asI_i64, Option.bind_some, List.isEmpty_nil, cond_t]
  generalize hr : y.s.m.read cs i = r at w2 I2 hval
  obtain ⟨⟨v, e⟩, m', cs'⟩ := r
  simp only at w2 I2 hval
  have wp2 := LO_open w2
  have et2 := ldT w2 hy
  -- nothing more is kept
  have J0 : e = 0 → aok (alook x.H.writes i) = false → False ∨ True := fun _ _ => .inr trivial
  have keep : ¬(e = 0 ∧ aok (alook x.H.writes i) = false) → Ok (law16_lived_j15 l2 a1 (some ⟨hb, 0, none⟩) (some ⟨tb, 0, none⟩) f31 (some ⟨ab, 0, none⟩) (some ⟨mb, 0, none⟩) (some ⟨lb, 0, none⟩) (some ⟨rb, 0, none⟩) c3 (k : Nat) h2) Q := fun hn => by
    have e1 : rdH x.H i (v, e) = x.H := by unfold rdH; rw [if_neg hn]
    rw [e1] at I2
    have w3 := LT_close (x' := x) (s' := { y.s with m := m' }) hy hx rfl w2
    exact K h2 cs' clk _ aa ac _ (L.set (s' := { y.s with m := m' }) hy hx rfl rfl (by have := L.n; omega) (by omega) (by have := L.r x (List.mem_of_getElem? hx); omega) I2) w3
  have J16 : ∀ b, b = (decide (e = 0) && !aok (alook x.H.writes i)) → Ok (law16_lived_j16 (some ⟨hb, 0, none⟩) (w : Nat) i v l2 a1 (some ⟨tb, 0, none⟩) f31 (some ⟨ab, 0, none⟩) (some ⟨mb, 0, none⟩) (some ⟨lb, 0, none⟩) (some ⟨rb, 0, none⟩) c3 (k : Nat) e b h2) Q := by
    intro b hbb
    refine Ok.le ?_ law16_lived_j16_le
    cases b with
    | true =>
      rw [cond_t]
      have hc : e = 0 ∧ aok (alook x.H.writes i) = false := by simpa using hbb.symm
      have e1 : rdH x.H i (v, e) = { x.H with reads := x.H.reads ++ [(i, v)] } := by unfold rdH; rw [if_pos hc]
      rw [e1] at I2
      have eS : h2.ldS x.b (0 + 2) = some (x.ra, x.H.reads.length, x.rc) := AH.ldS_of (wp2.g 0 rfl) rfl
      have eS2 : (h2.push (.cells [.int .i64 i, .int .i64 v] false false 2)).ldS x.b (0 + 2) = some (x.ra, x.H.reads.length, x.rc) := AH.ldS_of ((wp2.push _).g 1 rfl) rfl
      have et3 : (h2.push (.cells [.int .i64 i, .int .i64 v] false false 2)).ldP hb (0 + w * 1) = some (some ⟨y.b, 0, none⟩) := AH.ldP_of ((w2.push _).g 6 rfl) (by rw [Nat.zero_add, Nat.mul_one, List.getElem?_map, hy]; rfl)
      rw [hxb] at eS eS2
      have hrl := L.r x (List.mem_of_getElem? hx)
      obtain ⟨a', h3, s3, w3, n3⟩ := (wp2.u1).app (by_ := 16) (c' := 1) (xs := encG (i, v)) rfl (by decide) (by omega) (by omega)
      have s3' : appE 2 16 (.slice x.ra x.H.reads.length x.rc) (.slice (some ⟨h2.n, 0, none⟩) 1 1) (h2.push (.cells [.int .i64 i, .int .i64 v] false false 2)) = _ := s3
      have et4 : h3.ldP hb (0 + w * 1) = some (some ⟨y.b, 0, none⟩) := AH.ldP_of (w3.g 7 rfl) (by rw [Nat.zero_add, Nat.mul_one, List.getElem?_map, hy]; rfl)
      obtain ⟨h4, s4, w4, n4⟩ := (w3.u1).st (o := 0 + 2) [.slice a' (x.H.reads.length + 1) opn] (by simp [encHP])
      rw [hxb] at s4
      simp only [Option.bind_some, hb4, cond_t, Int.toNat_natCast, et2.2, eS, eS2, et3, veqO_slice, veqO_ptr, s3', asS_s, et4, s4]
      let x' : HP := { x with ra := a', rc := opn, H := { x.H with reads := x.H.reads ++ [(i, v)] } }
      have el : (x.H.reads ++ [(i, v)]).length = x.H.reads.length + 1 := by simp
      have w5 : H h4 (LPx p q mb tb hb ab rb lb w y.s.j y.t m' x' tl cs' clk aa ac hp A ++ F) := by
        have e5 : encHP x' = [.int .i64 x.H.beg, .int .i64 x.H.ver, .slice a' (x.H.reads.length + 1) opn, .map (some x.rm), .bool x.H.done] := by
          show [Value.int .i64 x.H.beg, .int .i64 x.H.ver, .slice a' (x.H.reads ++ [(i, v)]).length opn, .map (some x.rm), .bool x.H.done] = _
          rw [el]
        have e6 : x'.H.reads.flatMap encG = x.H.reads.flatMap encG ++ encG (i, v) := by
          show (x.H.reads ++ [(i, v)]).flatMap encG = _
          rw [List.flatMap_append]; simp
        have e7 : x'.H.reads.length = x.H.reads.length + 1 := el
        simp only [LPx, e5, e6, e7]
        exact w4
      have w6 := LT_close (x' := x') (s' := { y.s with m := m' }) hy hx rfl (LO_close w5)
      exact K h4 cs' clk _ aa ac _ (L.set (x' := x') (s' := { y.s with m := m' }) hy hx rfl rfl (by have := L.n; omega) (by omega) (by show (x.H.reads ++ [(i, v)]).length ≤ _; omega) I2) w6
    | false =>
      rw [cond_f]
      have hn : ¬(e = 0 ∧ aok (alook x.H.writes i) = false) := by
        rintro ⟨h1, h2⟩
        rw [h1, h2] at hbb; exact absurd hbb (by decide)
      by_cases c0 : e = 0
      · rw [dec_t c0, cond_t]
        have hown : aok (alook x.H.writes i) = true := by
          cases hq : aok (alook x.H.writes i) with
          | true => rfl
          | false => exact absurd ⟨c0, hq⟩ hn
        have eM2 : h2.ldM x.b (0 + 3) = some (some x.rm) := AH.ldM_of (wp2.g 0 rfl) rfl
        rw [hxb] at eM2
        obtain ⟨es2, q1, q2, q3⟩ := (gm_at (wp2.mv 2 rfl)).map
        simp only [Option.bind_some, hb4, cond_t, Int.toNat_natCast, et2.2, eM2, q1]
        rw [look_eq (by kernel_rfl) q3 i]
        simp only [Option.bind_some, asI_i64]
        rw [dec_t (hval c0 hown), Bool.not_true, cond_f]
        exact keep hn
      · rw [dec_f c0, cond_f]
        exact keep hn
  by_cases c0 : e = 0
  · rw [dec_t c0, cond_t]
    exact J16 _ (by rw [dec_t c0, Bool.true_and])
  · rw [dec_f c0, cond_f]
    exact J16 _ (by rw [dec_f c0, Bool.false_and])
/-- a write -/
theorem wr_arm (hw : w < 4) (hk : k < 300) (L : LI k cs clk tl hp) (w0 : H h (LT p q mb tb hb ab rb lb tl cs clk aa ac hp A ++ F)) {i : Int} {kd : Int} (K : KK p q mb tb hb ab rb lb k l2 c3 a1 f31 A F Q) :
    Ok (law16_lived_j19 (some ⟨tb, 0, none⟩) (w : Nat) h i (k : Nat) (some ⟨hb, 0, none⟩) l2 a1 f31 (some ⟨ab, 0, none⟩) (some ⟨mb, 0, none⟩) (some ⟨lb, 0, none⟩) (some ⟨rb, 0, none⟩) c3 kd true) Q := by
  obtain ⟨y, x, E, hy, hx, hxb, I, so⟩ := L.at hw
  have hsl : (tl.map (·.s))[w]? = some y.s := by rw [List.getElem?_map, hy]; rfl
  have hHl : (hp.map (·.H))[y.s.j]? = some x.H := by rw [List.getElem?_map, hx]; rfl
  have hb4 : inB ((w : Nat) : Int) 4 = true := inB_t (by omega) (by omega)
  have hrl := L.r x (List.mem_of_getElem? hx)
  have wo := LT_open w0 hy hx
  obtain ⟨et, eb⟩ := ldT wo hy
  generalize hv : IntKind.wrap .i64 (IntKind.wrap .i64 (10 * ((k : Nat) : Int)) + ((w : Nat) : Int)) = v
  refine Ok.le ?_ law16_lived_j19_le
  rw [cond_t, hv]
  simp only [Option.bind_some, hb4, cond_t, Int.toNat_natCast, et]
  have I2 := I.write (i := i) (v := v) hsl hHl so
  have hcs := I.n
  refine Ok.bind (MWrite wo (by rw [so.em.2]; decide) i v) ?_
  rintro _ h2 ⟨rfl, w2⟩
  rw [hcs] at w2 ⊢
  simp only [asI_i64, Option.bind_some]
  generalize hr : y.s.m.write 6 i v = r at w2 I2
  obtain ⟨e, m'⟩ := r
  simp only at w2 I2
  have et2 := ldT w2 hy
  by_cases c0 : e = 0
  · rw [dec_t c0, cond_t]
    rw [if_pos c0] at I2
    have wp2 := LO_open w2
    have eM : h2.ldM x.b (0 + 3) = some (some x.rm) := AH.ldM_of (wp2.g 0 rfl) rfl
    rw [hxb] at eM
    obtain ⟨h3, s3, w3⟩ := gm_put (wp2.mv 2 rfl) i v
    simp only [Option.bind_some, hb4, cond_t, Int.toNat_natCast, et2.2, eM, s3]
    let x' : HP := { x with H := { x.H with writes := aputL x.H.writes i v } }
    have w4 : H h3 (LPx p q mb tb hb ab rb lb w y.s.j y.t m' x' tl cs clk aa ac hp A ++ F) := w3.pm [1, 2, 0]
    have w5 := LT_close (x' := x') (s' := { y.s with m := m' }) hy hx rfl (LO_close w4)
    exact K h3 cs clk _ aa ac _ (L.set (x' := x') (s' := { y.s with m := m' }) hy hx rfl rfl (by have := L.n; omega) (by omega) (by show x.H.reads.length ≤ _; omega) I2) w5
  · rw [dec_f c0, cond_f]
    rw [if_neg c0] at I2
    have w5 := LT_close (x' := x) (s' := { y.s with m := m' }) hy hx rfl w2
    exact K h2 cs clk _ aa ac _ (L.set (s' := { y.s with m := m' }) hy hx rfl rfl (by have := L.n; omega) (by omega) (by omega) I2) w5
end
end Ser
end Go.Lg.Try

namespace Go.Lg.Try
set_option linter.unusedVariables false
set_option linter.unusedSimpArgs false
open Go Go.Proofs
namespace Ser
theorem nk_of {h : AH} {p t : Nat} {m : TM} {F : List Asr} (w : H h (aTX p t m :: F)) : Nk m.σ.writes ∧ Nk m.σ.reads := by
  obtain ⟨s, la, ln, lc, w⟩ := TX_at w
  obtain ⟨A, qs⟩ := set_at w.u1
  exact ⟨qs.w.nk, qs.r.nk⟩
section
variable {h : AH} {p q mb tb hb ab rb lb w j t k l2 c3 : Nat} {m : TM} {tl : List TS} {cs : List Cel} {clk : Int} {aa a1 : Option Addr} {ac : Nat} {hp : List HP} {A : List (Option Addr × List Value)} {F : List Asr} {y : TS} {x : HP} {f31 : Option (FuncId × List Value × List Value)} {Q : Value → AH → Prop}
/-- an abort -/
theorem ab_arm (hw : w < 4) (hk : k < 300) (L : LI k cs clk tl hp) (w0 : H h (LT p q mb tb hb ab rb lb tl cs clk aa ac hp A ++ F)) {i : Int} (K : KK p q mb tb hb ab rb lb k l2 c3 a1 f31 A F Q) :
    Ok (law16_lived_j19 (some ⟨tb, 0, none⟩) (w : Nat) h i (k : Nat) (some ⟨hb, 0, none⟩) l2 a1 f31 (some ⟨ab, 0, none⟩) (some ⟨mb, 0, none⟩) (some ⟨lb, 0, none⟩) (some ⟨rb, 0, none⟩) c3 10 false) Q := by
  obtain ⟨y, x, E, hy, hx, hxb, I, so⟩ := L.at hw
  have hsl : (tl.map (·.s))[w]? = some y.s := by rw [List.getElem?_map, hy]; rfl
  have hHl : (hp.map (·.H))[y.s.j]? = some x.H := by rw [List.getElem?_map, hx]; rfl
  have hb4 : inB ((w : Nat) : Int) 4 = true := inB_t (by omega) (by omega)
  have hrl := L.r x (List.mem_of_getElem? hx)
  have wo := LT_open w0 hy hx
  obtain ⟨et, eb⟩ := ldT wo hy
  refine Ok.le ?_ law16_lived_j19_le
  rw [cond_f, dec_t rfl, cond_t]
  simp only [Option.bind_some, hb4, cond_t, Int.toNat_natCast, et]
  have I2 := I.abort hsl hHl so
  have hcs := I.n
  have how := so.ow
  refine Ok.bind (MAbort wo (by omega) (by omega)) ?_
  rintro _ h2 ⟨rfl, w2⟩
  simp only [asI_i64, Option.bind_some]
  have w5 := LT_close (x' := x) (s' := { y.s with m := (y.s.m.abort cs).2.1 }) hy hx rfl w2
  exact K h2 _ clk _ aa ac _ (L.set (s' := { y.s with m := (y.s.m.abort cs).2.1 }) hy hx rfl rfl (by have := L.n; omega) (by omega) (by omega) (by rw [set_self hHl]; exact I2)) w5
/-- a history is done -/
theorem done_up (hy : tl[w]? = some y) (hx : hp[y.s.j]? = some x) (hxb : x.b = y.b) (v : Int) (w2 : H h (LO p q mb tb hb ab rb lb w j t m x tl cs clk aa ac hp A ++ F)) : ∃ h3 h4, h.st y.b (0 + 4) [.bool true] = some h3 ∧ h3.ldP hb (0 + w * 1) = some (some ⟨y.b, 0, none⟩) ∧ h3.st y.b (0 + 1) [.int .i64 v] = some h4 ∧
    H h4 (LO p q mb tb hb ab rb lb w j t m { x with H := { x.H with done := true, ver := v } } tl cs clk aa ac hp A ++ F) := by
  have wp := LO_open w2
  obtain ⟨h3, s3, w3, n3⟩ := wp.st (o := 0 + 4) [.bool true] (by simp [encHP])
  obtain ⟨h4, s4, w4, n4⟩ := w3.st (o := 0 + 1) [.int .i64 v] (by simp [AH.setL_length, encHP])
  rw [hxb] at s3 s4
  refine ⟨h3, h4, s3, ?_, s4, LO_close (x := { x with H := { x.H with done := true, ver := v } }) w4⟩
  exact AH.ldP_of (w3.g 7 rfl) (by rw [Nat.zero_add, Nat.mul_one, List.getElem?_map, hy]; rfl)
/-- a step; what the law keeps of it -/
theorem step_do (hw : w < 4) (L : LI k cs clk tl hp) (hy : tl[w]? = some y) (w0 : H h (LT p q mb tb hb ab rb lb tl cs clk aa ac hp A ++ F)) : ∃ x, hp[y.s.j]? = some x ∧ x.b = y.b ∧
    Ok (C k_tl2_Tx_int_Step [ptr y.t] h) fun v h' => ∃ st e m' cs' clk' s' H' , v = .tuple #[.int .u8 st, .int .i64 e] ∧ mu m' ≤ mu y.s.m - 1 ∧ s'.m = m' ∧ s'.j = y.s.j ∧ H' = doneH x.H st m' ∧
      H h' (LO p q mb tb hb ab rb lb w y.s.j y.t m' x tl cs' clk' aa ac hp A ++ F) ∧ ∀ x', x'.b = x.b → x'.H = H' → LI (k + 1) cs' clk' (tl.set w ⟨y.t, s', y.b⟩) (hp.set y.s.j x') := by
  obtain ⟨y', x, E, hy', hx, hxb, I, so⟩ := L.at hw
  rw [hy] at hy'
  obtain rfl := Option.some.inj hy'
  refine ⟨x, hx, hxb, ?_⟩
  have hsl : (tl.map (·.s))[w]? = some y.s := by rw [List.getElem?_map, hy]; rfl
  have hHl : (hp.map (·.H))[y.s.j]? = some x.H := by rw [List.getElem?_map, hx]; rfl
  have hrl := L.r x (List.mem_of_getElem? hx)
  have wo := LT_open w0 hy hx
  obtain ⟨nw, nr⟩ := nk_of wo
  obtain ⟨N, tx⟩ := so.tx
  have h1 := tx.wlen nw
  have h2 := tx.rlen nr
  have hcs := I.n
  have how := so.ow
  refine Ok.mono (MStep wo (by omega) (by omega) tx.st tx.left_ne tx.wkw tx.wkr (by omega) (by omega)) ?_
  rintro v h' ⟨rfl, w2⟩
  obtain ⟨k', E', I2⟩ := I.step hsl hHl so
  refine ⟨_, _, _, _, _, ⟨(y.s.m.step cs clk).2.1, y.s.j, k'⟩, _, rfl, mu_step tx nw nr, rfl, rfl, rfl, w2, fun x' hb hH => ?_⟩
  refine L.set (s' := ⟨(y.s.m.step cs clk).2.1, y.s.j, k'⟩) hy hx hb rfl (by have := L.n; have := (step_clk (m := y.s.m) (cs := cs) (clk := clk)).2; omega) (by omega) ?_ (by rw [hH]; exact I2)
  rw [hH]
  have : ∀ st m', (doneH x.H st m').reads = x.H.reads := fun st m' => by unfold doneH; split <;> rfl
  rw [this]; omega
theorem st_arm (hw : w < 4) (hk : k < 300) (L : LI k cs clk tl hp) (w0 : H h (LT p q mb tb hb ab rb lb tl cs clk aa ac hp A ++ F)) {i kd : Int} (k10 : kd ≠ 10) (k11 : kd ≠ 11) (K : KK p q mb tb hb ab rb lb k l2 c3 a1 f31 A F Q) :
    Ok (law16_lived_j19 (some ⟨tb, 0, none⟩) (w : Nat) h i (k : Nat) (some ⟨hb, 0, none⟩) l2 a1 f31 (some ⟨ab, 0, none⟩) (some ⟨mb, 0, none⟩) (some ⟨lb, 0, none⟩) (some ⟨rb, 0, none⟩) c3 kd false) Q := by
  obtain ⟨y, x0, E, hy, hx0, _, _, _⟩ := L.at hw
  have hb4 : inB ((w : Nat) : Int) 4 = true := inB_t (by omega) (by omega)
  obtain ⟨x, hx, hxb, ok⟩ := step_do hw L hy w0
  have wo := LT_open w0 hy hx
  obtain ⟨et, eb⟩ := ldT wo hy
  refine Ok.le ?_ law16_lived_j19_le
  rw [cond_f, dec_f k10, cond_f, dec_f k11, cond_f]
  simp only [Option.bind_some, hb4, cond_t, Int.toNat_natCast, et]
  refine Ok.bind ok ?_
  rintro _ h2 ⟨st, e, m', cs', clk', s', H', rfl, _, hm, hj, hH', w2, LS⟩
  subst hm
  obtain ⟨et2, eb2⟩ := ldT w2 hy
  simp only [asTu_t, hdO_c, asI_i64, asI_u8, Option.bind_some, List.isEmpty_nil, cond_t]
  have J : ∀ b, b = (decide (st = 3) && !x.H.done) → Ok (law16_lived_j18 (some ⟨hb, 0, none⟩) (w : Nat) (some ⟨tb, 0, none⟩) l2 a1 f31 (some ⟨ab, 0, none⟩) (some ⟨mb, 0, none⟩) (some ⟨lb, 0, none⟩) (some ⟨rb, 0, none⟩) c3 (k : Nat) b h2) Q := by
    intro b hbb
    refine Ok.le ?_ law16_lived_j18_le
    cases b with
    | true =>
      have hc : st = 3 ∧ x.H.done = false := by simpa using hbb.symm
      rw [cond_t]
      have hve := MVersion w2
      have hve : C k_tl2_Tx_int_Version [.pointer (some ⟨y.t, 0, none⟩)] h2 = _ := hve
      obtain ⟨h3, h4, s3, e3, s4, w4⟩ := done_up hy hx hxb (if s'.m.st = 3 then s'.m.ver else 0) w2
      simp only [Option.bind_some, hb4, cond_t, Int.toNat_natCast, et2, eb2, hve, asI_i64, veqO_ptr, s3, e3, s4]
      have hq : H' = { x.H with done := true, ver := if s'.m.st = 3 then s'.m.ver else 0 } := by rw [hH']; unfold doneH; rw [if_pos hc]
      exact K h4 _ _ _ aa ac _ (LS { x with H := { x.H with done := true, ver := if s'.m.st = 3 then s'.m.ver else 0 } } rfl hq.symm) (LT_close (s' := s') (x' := { x with H := { x.H with done := true, ver := if s'.m.st = 3 then s'.m.ver else 0 } }) hy hx rfl w4)
    | false =>
      rw [cond_f]
      have hq : H' = x.H := by
        rw [hH']; unfold doneH
        rw [if_neg]
        rintro ⟨h1, h2⟩
        rw [h1, h2] at hbb; exact absurd hbb (by decide)
      exact K h2 _ _ _ aa ac _ (LS x rfl hq.symm) (LT_close (s' := s') (x' := x) hy hx rfl w2)
  by_cases c : st = 3
  · rw [dec_t c, cond_t]
    have eD : h2.ldB x.b (0 + 4) = some x.H.done := AH.ldB_of ((LO_open w2).g 0 rfl) rfl
    rw [hxb] at eD
    simp only [Option.bind_some, hb4, cond_t, Int.toNat_natCast, eb2, eD]
    exact J _ (by rw [dec_t c, Bool.true_and])
  · rw [dec_f c, cond_f]
    exact J _ (by rw [dec_f c, Bool.false_and])
end
end Ser
end Go.Lg.Try
