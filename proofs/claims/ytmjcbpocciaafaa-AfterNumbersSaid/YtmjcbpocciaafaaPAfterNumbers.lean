/- AfterNumbers: 1024 actions wait, or are due; no more until some are taken. -/
import Derived.Test.YtmjcbpocciaafaaPafterK
import Derived.Test.YtmjcbpocciaafaaFlaw19
import Derived.Test.YtmjcbpocciaafaaPok
namespace Go.Lg.Try
set_option linter.unusedVariables false
set_option linter.unusedSimpArgs false
open Go Go.Proofs
namespace Num
def Q : Value → AH → Prop := fun v _ => v = .bool true
def mkE (i : Nat) : En := ⟨0, 1 + ((i % 2 : Nat) : Int), (i : Nat)⟩
def ws (k : Nat) : List En := (List.range k).map mkE
theorem ws0 : ws 0 = [] := rfl
theorem ws_len (k : Nat) : (ws k).length = k := by simp [ws]
theorem ws_succ (k : Nat) : ws (k + 1) = ws k ++ [mkE k] := by simp [ws, List.range_succ]
def od (m : Nat) : List En := (List.range m).map fun j => ⟨0, 1, (2 * j : Nat)⟩
theorem od_len (m : Nat) : (od m).length = m := by simp [od]
theorem of_ws : ∀ m, ofO 1 (ws (2 * m)) = od m
  | 0 => rfl
  | m + 1 => by
    rw [show 2 * (m + 1) = 2 * m + 1 + 1 by omega, ws_succ, ws_succ]
    have h1 : mkE (2 * m) = ⟨0, 1, (2 * m : Nat)⟩ := by unfold mkE; rw [show 2 * m % 2 = 0 by omega]; rfl
    have h2 : mkE (2 * m + 1) = ⟨0, 2, (2 * m + 1 : Nat)⟩ := by unfold mkE; rw [show (2 * m + 1) % 2 = 1 by omega]; rfl
    have ih := of_ws m
    unfold ofO at ih ⊢
    rw [List.filter_append, List.filter_append, ih, h1, h2]
    simp [od, List.range_succ]
theorem not_ws : ∀ m, (notO 1 (ws (2 * m))).length = m
  | 0 => rfl
  | m + 1 => by
    rw [show 2 * (m + 1) = 2 * m + 1 + 1 by omega, ws_succ, ws_succ]
    have h1 : mkE (2 * m) = ⟨0, 1, (2 * m : Nat)⟩ := by unfold mkE; rw [show 2 * m % 2 = 0 by omega]; rfl
    have h2 : mkE (2 * m + 1) = ⟨0, 2, (2 * m + 1 : Nat)⟩ := by unfold mkE; rw [show (2 * m + 1) % 2 = 1 by omega]; rfl
    have ih := not_ws m
    unfold notO at ih ⊢
    rw [List.filter_append, List.filter_append, List.length_append, List.length_append, ih, h1, h2]
    simp
theorem tk_all {u : Int} : ∀ {l : List En}, (∀ x ∈ l, x.v ≤ u) → tkN u l = l.length
  | [], _ => rfl
  | x :: l, h => by
    unfold tkN
    rw [if_pos (h x (by simp)), tk_all fun y hy => h y (by simp [hy])]; rfl
abbrev du : List En := (od 512).map fun x => { x with v := 5 }
theorem du_len : du.length = 512 := by rw [List.length_map, od_len]
theorem du_v : ∀ x ∈ du, x.v = 5 := fun x hx => by
  obtain ⟨y, _, rfl⟩ := List.mem_map.mp hx
  rfl
theorem du_1 : du[1]? = some ⟨5, 1, 2⟩ := by
  rw [List.getElem?_map]
  have : (od 512)[1]? = some ⟨0, 1, 2⟩ := by
    unfold od
    rw [List.getElem?_map, List.getElem?_range (by decide)]; rfl
  rw [this]; rfl
attribute [local irreducible] ws od
theorem fin {q : Nat} {h : AH} (w : H h (aQu q (ws 1024) [] :: [])) : Ok (law19_AfterNumbers_j4 (some ⟨q, 0, none⟩) h) Q := by
  have l1 := ws_len 1024
  refine Ok.le ?_ law19_AfterNumbers_j4_le
  refine Ok.bind (later_ok (by omega) (by simp) 3 0 w) ?_
  rintro _ h1 ⟨rfl, w1⟩
  have e1 : laterM (ws 1024) [] 3 0 = (5, ws 1024) := by unfold laterM; rw [if_neg (by decide), if_pos (by rw [l1, List.length_nil]; exact Nat.le_refl _)]
  rw [e1] at w1 ⊢
  dsimp only at w1
  have eo : ofO 1 (ws 1024) = od 512 := of_ws 512
  have en : (notO 1 (ws 1024)).length = 512 := not_ws 512
  have hs : Srt ([] ++ (ofO 1 (ws 1024)).map fun x => ({ x with v := 5 } : En)) := by
    rw [eo, List.nil_append]
    intro i j x y _ hx hy
    rw [du_v x (List.mem_of_getElem? hx), du_v y (List.mem_of_getElem? hy)]; exact Int.le_refl _
  simp only [asI_i64, Option.bind_some]
  refine Ok.bind (commit_ok (o := 1) (v := 5) (by decide) (by decide) (by omega) (by simp) hs w1) ?_
  rintro _ h2 ⟨rfl, w2⟩
  rw [eo, List.nil_append] at w2
  rw [eo, od_len]
  simp only [asTu_t, hdO_c, asI_i64, Option.bind_some, List.isEmpty_nil, cond_t]
  refine Ok.le ?_ law19_AfterNumbers_j3_le
  have l2 := du_len
  change H h2 (aQu q (notO 1 (ws 1024)) du :: []) at w2
  refine Ok.bind (later_ok (by omega) (by omega) 3 0 w2) ?_
  rintro _ h3 ⟨rfl, w3⟩
  have e3 : laterM (notO 1 (ws 1024)) du 3 0 = (5, notO 1 (ws 1024)) := by unfold laterM; rw [if_neg (by decide), if_pos (by rw [en, l2]; exact Nat.le_refl _)]
  rw [e3] at w3 ⊢
  dsimp only at w3
  simp only [asI_i64, Option.bind_some]
  refine Ok.bind (take_ok (upto := 5) (by omega) (by omega) w3) ?_
  rintro _ h4 ⟨a, c, rfl, w4⟩
  have e4 : tkN 5 du = 512 := by rw [tk_all fun x hx => by rw [du_v x hx]; exact Int.le_refl _, l2]
  rw [e4, List.take_of_length_le (Nat.le_of_eq l2), List.drop_eq_nil_of_le (Nat.le_of_eq l2)] at w4
  rw [e4]
  simp only [asS_s, Option.bind_some]
  refine Ok.bind (later_ok (by omega) (by simp) 3 0 w4.u1) ?_
  rintro _ h5 ⟨rfl, w5⟩
  have e5 : laterM (notO 1 (ws 1024)) [] 3 0 = (0, notO 1 (ws 1024) ++ [⟨0, 3, 0⟩]) := by unfold laterM; rw [if_neg (by decide), if_neg (by rw [en]; simp)]
  rw [e5] at w5 ⊢
  dsimp only at w5
  have l5 : (notO 1 (ws 1024) ++ [⟨0, 3, 0⟩] : List En).length = 513 := by rw [List.length_append, en]; rfl
  simp only [asI_i64, Option.bind_some, len_ok w5, asTu_t, hdO_c, List.isEmpty_nil, cond_t, l5, List.length_nil]
  refine Ok.le ?_ law19_AfterNumbers_j2_le
  have hr : Rd h5 a (du.flatMap encN) := (w5.u1).rd
  have hc2 : (du.flatMap encN)[1 * 3 + 2]? = some (.int .i64 2) := by rw [flat_get_some encN_len (by decide) du_1]; rfl
  rcases hr with e | ⟨ad, cc, op, ro, e, ha, g1, g2, g3⟩
  · rw [e] at hc2; simp at hc2
  · subst ha
    have := g3 _ _ hc2
    have hi : inB (1 : Int) 512 = true := rfl
    have d1 : decide (((512 : Nat) : Int) = 512) = true := rfl
    have d2 : decide (((513 : Nat) : Int) = 513) = true := rfl
    have d3 : decide (((0 : Nat) : Int) = 0) = true := rfl
    simp only [decide_true, cond_t, d1, d2, d3, Option.bind_some, hi, AH.ldI_of (k := .i64) (o := ad.off + 1 * 3 + 2) g1 (by rw [Nat.add_assoc]; exact this)]
    simp only [C_closed (f := k_law19_awake) rfl h5, Option.bind_some, asB_b]
    refine Ok.le ?_ law19_AfterNumbers_j1_le
    exact Ok.some rfl
theorem loop {q : Nat} : ∀ (n k : Nat) (h : AH), 1024 - k = n → k ≤ 1024 → H h (aQu q (ws k) [] :: []) → Ok (law19_AfterNumbers_L1 (some ⟨q, 0, none⟩) (k : Nat) h) Q := by
  intro n
  induction n with
  | zero =>
    intro k h hn hk w
    obtain rfl : k = 1024 := by omega
    refine Ok.le ?_ law19_AfterNumbers_L1_le
    refine Ok.le ?_ law19_AfterNumbers_j9_le
    rw [dec_f (by decide), cond_f]
    exact fin w
  | succ n ih =>
    intro k h hn hk w
    have lk := ws_len k
    refine Ok.le ?_ law19_AfterNumbers_L1_le
    refine Ok.le ?_ law19_AfterNumbers_j9_le
    rw [dec_t (by omega), cond_t]
    refine Ok.le ?_ law19_AfterNumbers_j8_le
    have em : IntKind.wrap .i64 (1 + ((k : Nat) : Int).tmod 2) = 1 + ((k % 2 : Nat) : Int) := by
      have : ((k : Nat) : Int).tmod 2 = ((k % 2 : Nat) : Int) := by rw [Int.tmod_eq_emod_of_nonneg (by omega)]; omega
      rw [this, wrap64 (by omega) (by omega)]
    rw [em]
    refine Ok.bind (later_ok (by omega) (by simp) _ _ w) ?_
    rintro _ h1 ⟨rfl, w1⟩
    have e1 : laterM (ws k) [] (1 + ((k % 2 : Nat) : Int)) (k : Nat) = (0, ws (k + 1)) := by
      unfold laterM
      rw [if_neg (by omega), if_neg (by rw [lk]; simp; omega), ws_succ]; rfl
    rw [e1] at w1 ⊢
    dsimp only at w1
    simp only [asI_i64, Option.bind_some, decide_true, Bool.not_true]
    refine Ok.le ?_ law19_AfterNumbers_j7_le
    rw [cond_f]
    refine Ok.le ?_ law19_AfterNumbers_j5_le
    rw [wadd1 (by omega)]
    exact ih (k + 1) h1 (by omega) (by omega) w1
theorem main (h : AH) : Ok (C k_law19_AfterNumbers [] h) Q := by
  refine Ok.le ?_ law19_AfterNumbers_le
  unfold F_law19_AfterNumbers
  have w0 : H h [] := H.nil h
  have w1 := w0.push (.cells [.bool true, .slice none 0 0, .slice none 0 0] false false 3)
  have e : C k_after_New_int [] h = some (.pointer (some ⟨h.n, 0, none⟩), h.push (.cells [.bool true, .slice none 0 0, .slice none 0 0] false false 3)) := after_New_int_le _ rfl
  simp only [e, Option.bind_some, asP_p]
  generalize h.push (.cells [.bool true, .slice none 0 0, .slice none 0 0] false false 3) = h1 at w1 ⊢
  have w2 : H h1 (Qb h.n none ([] : List En).length 0 none ([] : List En).length 0 :: aOs none ([] : List En).length 0 (([] : List En).flatMap encN) :: aOs none ([] : List En).length 0 (([] : List En).flatMap encN) :: []) := (os_nil (os_nil w1)).pm [2, 0, 1]
  exact loop 1024 0 h1 rfl (by decide) (by rw [ws0]; exact qClose w2)
end Num
end Go.Lg.Try
