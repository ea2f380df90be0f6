/- A map from whole numbers to slices that are one's own. -/
import Derived.Test.YtmjcbpocciaafaaF0
import Derived.Test.YtmjcbpocciaafaaEv38
import Derived.Test.YtmjcbpocciaafaaPafterK
import Derived.Test.YtmjcbpocciaafaaFlaw19
set_option linter.unusedVariables false
set_option linter.unusedSimpArgs false
namespace Go.Lg.Try
set_option linter.unusedVariables false
set_option linter.unusedSimpArgs false
open Go Go.Proofs
namespace MapS
structure WE where
  k : Int
  a : Option Addr
  c : Nat
  l : List Int
def sl (x : WE) : Value := .slice x.a x.l.length x.c
def encW (x : WE) : Value × Value := (.int .i64 x.k, sl x)
def prS (e : MapEntry) : Value × Value := (e.key, e.val)
def findW (i : Int) : List WE → Option Nat
  | [] => none
  | x :: L => if x.k = i then some 0 else (findW i L).map (· + 1)
theorem keqB_t (i : Int) : keqB (.int .i64 i) (.int .i64 i) = true := by simp [keqB]
theorem keqB_f {i j : Int} (h : ¬ i = j) : keqB (.int .i64 i) (.int .i64 j) = false := by simp [keqB, h]
theorem afW_none {i : Int} : ∀ {es : List MapEntry} {L : List WE} (k : Nat), es.map prS = L.map encW → findW i L = none → afind (.int .i64 i) es k = none
  | [], _, _, _, _ => rfl
  | e :: es, [], _, h, _ => by simp at h
  | e :: es, x :: L, k, h, hf => by
    simp only [List.map_cons, List.cons.injEq, prS, encW, Prod.mk.injEq] at h
    unfold findW at hf
    split at hf
    · cases hf
    · rename_i hc
      simp only [afind, h.1.1, keqB_f (fun e => hc e.symm), cond_false]
      refine afW_none (k + 1) h.2 ?_
      cases hq : findW i L with
      | none => rfl
      | some j => rw [hq] at hf; cases hf
theorem afW_some {i : Int} : ∀ {es : List MapEntry} {L : List WE} (k : Nat) {j : Nat}, es.map prS = L.map encW → findW i L = some j → ∃ x, L[j]? = some x ∧ x.k = i ∧ afind (.int .i64 i) es k = some (k + j, sl x)
  | _, [], _, _, _, hf => by cases hf
  | [], x :: L, _, _, h, _ => by simp at h
  | e :: es, x :: L, k, j, h, hf => by
    simp only [List.map_cons, List.cons.injEq, prS, encW, Prod.mk.injEq] at h
    unfold findW at hf
    split at hf
    · rename_i hc
      obtain rfl := Option.some.inj hf
      refine ⟨x, rfl, hc, ?_⟩
      simp only [afind, h.1.1, hc, keqB_t, cond_true, h.1.2, Nat.add_zero]
    · rename_i hc
      cases hq : findW i L with
      | none => rw [hq] at hf; cases hf
      | some j' =>
        rw [hq] at hf
        obtain rfl : j' + 1 = j := Option.some.inj hf
        obtain ⟨y, h1, h2, h3⟩ := afW_some (k + 1) h.2 hq
        refine ⟨y, by simpa using h1, h2, ?_⟩
        simp only [afind, h.1.1, keqB_f (fun e => hc e.symm), cond_false, h3]
        congr 2; omega
theorem okW : ∀ {es : List MapEntry} {L : List WE}, es.map prS = L.map encW → keysOk (.int .i64) es = true
  | [], _, _ => rfl
  | e :: es, [], h => by simp at h
  | e :: es, x :: L, h => by
    simp only [List.map_cons, List.cons.injEq, prS, encW, Prod.mk.injEq] at h
    simp only [keysOk, List.all_cons, h.1.1, keyOk, Bool.and_eq_true]
    exact ⟨rfl, okW h.2⟩
def putW (i : Int) (y : WE) (L : List WE) : List WE := match findW i L with
  | some j => L.set j y
  | none => L ++ [y]
theorem putE_W {i : Int} {y : WE} (hy : y.k = i) {es : List MapEntry} {L : List WE} (h : es.map prS = L.map encW) (clk : Nat) : (putE (.int .i64 i) (sl y) es clk).1.map prS = (putW i y L).map encW := by
  unfold putE putW
  cases hf : findW i L with
  | none =>
    rw [afW_none 0 h hf]
    simp only [List.map_append, h, List.map_cons, List.map_nil, prS, encW, hy]
  | some j =>
    obtain ⟨x, h1, h2, h3⟩ := afW_some 0 h hf
    rw [h3]
    simp only [Nat.zero_add]
    apply List.ext_getElem?
    intro n
    have hn := congrArg (fun l => l[n]?) h
    simp only [List.getElem?_map] at hn
    rw [List.getElem?_map, List.getElem?_map, List.getElem?_modify, List.getElem?_set]
    by_cases hc : j = n
    · subst hc
      have hjl := (List.getElem?_eq_some_iff.mp h1).1
      rw [h1] at hn
      cases hq : es[j]? with
      | none => rw [hq] at hn; cases hn
      | some e => simp [hjl, prS, encW, hy]
    · simp only [hc, if_false]
      simpa using hn
/-- such a map, and its slices -/
def aMS (mb : Nat) (L : List WE) : Asr := fun m => ∃ es : List MapEntry, ∃ clk : Nat, es.map prS = L.map encW ∧ Lay [Pt mb (.map es clk), Lay (L.map fun x => aOw 1 x.a x.l.length x.c (x.l.flatMap encI))] m
section
variable {mb : Nat} {L : List WE} {F : List Asr} {h : AH}
theorem msOpen (hh : H h (aMS mb L :: F)) : ∃ es clk, es.map prS = L.map encW ∧ H h (Pt mb (.map es clk) :: Lay (L.map fun x => aOw 1 x.a x.l.length x.c (x.l.flatMap encI)) :: F) := by
  obtain ⟨es, hh⟩ := hh.ex
  obtain ⟨clk, hh⟩ := hh.ex
  obtain ⟨hm, hh⟩ := hh.pu
  exact ⟨es, clk, hm, hh.opn_⟩
theorem msClose {es : List MapEntry} {clk : Nat} (hm : es.map prS = L.map encW) (hh : H h (Pt mb (.map es clk) :: Lay (L.map fun x => aOw 1 x.a x.l.length x.c (x.l.flatMap encI)) :: F)) : H h (aMS mb L :: F) :=
  (H.cls (L := [Pt mb (.map es clk), Lay (L.map fun x => aOw 1 x.a x.l.length x.c (x.l.flatMap encI))]) hh).imp fun m hq => ⟨es, clk, hm, hq⟩
/-- what is under a key: the slice -/
def getW (i : Int) (L : List WE) : WE := match findW i L with
  | some j => (L[j]?).getD ⟨i, none, 0, []⟩
  | none => ⟨i, none, 0, []⟩
theorem look_ok {P : Program} {e : TypeId} (hz : zeroOf P e = some (.slice none 0 0)) (i : Int) {es : List MapEntry} (hm : es.map prS = L.map encW) : ∃ b, lookE P (.int .i64) e (.int .i64 i) es = some (sl (getW i L), b) := by
  unfold lookE getW
  rw [show keyOk (.int .i64) (.int .i64 i) = true from rfl, okW hm, Bool.and_self, cond_true]
  cases hf : findW i L with
  | none => rw [afW_none 0 hm hf]; exact ⟨false, by simp only [hz, Option.bind_some]; rfl⟩
  | some j =>
    obtain ⟨x, h1, h2, h3⟩ := afW_some 0 hm hf
    rw [h3]
    exact ⟨true, by simp only [h1, Option.getD_some]⟩
theorem aput_ok (i : Int) {y : WE} (hy : y.k = i) {es : List MapEntry} {clk : Nat} (hm : es.map prS = L.map encW) (hh : H h (Pt mb (.map es clk) :: F)) :
    ∃ h' es' clk', aput (.int .i64) (.map (some mb)) (.int .i64 i) (sl y) h = some h' ∧ es'.map prS = (putW i y L).map encW ∧ H h' (Pt mb (.map es' clk') :: F) := by
  refine ⟨h.set mb (some (.map (putE (.int .i64 i) (sl y) es clk).1 (putE (.int .i64 i) (sl y) es clk).2)), _, _, ?_, putE_W hy hm clk, hh.set _⟩
  unfold aput
  simp only [hh.get, show keyOk (.int .i64) (.int .i64 i) = true from rfl, okW hm, Bool.and_self, cond_true]
theorem mapOf_ok {es : List MapEntry} {clk : Nat} (hh : H h (Pt mb (.map es clk) :: F)) : mapOf h (.map (some mb)) = some es := by
  unfold mapOf
  simp only [hh.get]
end
theorem putW_cons (i : Int) (y x : WE) (L : List WE) : putW i y (x :: L) = if x.k = i then y :: L else x :: putW i y L := by
  unfold putW
  simp only [findW]
  by_cases h : x.k = i
  · simp only [if_pos h, List.set_cons_zero]
  · simp only [if_neg h]
    cases findW i L with
    | none => rfl
    | some j => rfl
theorem getW_cons (i : Int) (x : WE) (L : List WE) : getW i (x :: L) = if x.k = i then x else getW i L := by
  unfold getW
  simp only [findW]
  by_cases h : x.k = i
  · simp only [if_pos h, List.getElem?_cons_zero, Option.getD_some]
  · simp only [if_neg h]
    cases findW i L with
    | none => rfl
    | some j => simp only [Option.map_some, List.getElem?_cons_succ]
/-- what is under a key: the numbers -/
def lkW (L : List WE) (i : Int) : List Int := (getW i L).l
theorem lk_put {i : Int} {y : WE} (hy : y.k = i) : ∀ (L : List WE) (j : Int), lkW (putW i y L) j = if j = i then y.l else lkW L j
  | [], j => by
    unfold lkW putW
    simp only [findW, List.nil_append, getW_cons, hy]
    by_cases h : j = i
    · subst h; simp
    · rw [if_neg (fun e => h e.symm), if_neg h]
  | x :: L, j => by
    have ih := lk_put hy L j
    unfold lkW at ih ⊢
    rw [putW_cons, getW_cons]
    by_cases h : x.k = i
    · rw [if_pos h, getW_cons, hy]
      by_cases h2 : j = i
      · subst h2; simp
      · rw [if_neg (fun e => h2 e.symm), if_neg h2, if_neg (fun e => h2 (e.symm.trans h))]
    · rw [if_neg h, getW_cons]
      by_cases h2 : x.k = j
      · rw [if_pos h2, if_pos h2, if_neg (fun e => h (h2.trans e))]
      · rw [if_neg h2, if_neg h2]; exact ih
section
variable {mb : Nat} {L : List WE} {F : List Asr} {h : AH} {P : Program} {e : TypeId}
/-- one number more under a key -/
theorem addW (hz : zeroOf P e = some (.slice none 0 0)) (i v : Int) (hl : (lkW L i).length < 1000000) (hh : H h (aMS mb L :: F)) :
    ∃ es b a' h45 h47, mapOf h (.map (some mb)) = some es ∧ lookE P (.int .i64) e (.int .i64 i) es = some (sl (getW i L), b) ∧
      appE 1 8 (.slice (getW i L).a (getW i L).l.length (getW i L).c) (.slice (some ⟨h.n, 0, none⟩) 1 1) (h.push (.cells [.int .i64 v] false false 1)) = some (.slice a' ((getW i L).l.length + 1) opn, h45) ∧
      aput (.int .i64) (.map (some mb)) (.int .i64 i) (.slice a' ((getW i L).l.length + 1) opn) h45 = some h47 ∧ H h47 (aMS mb (putW i ⟨i, a', opn, (getW i L).l ++ [v]⟩ L) :: F) := by
  obtain ⟨es, clk, hm, w⟩ := msOpen hh
  obtain ⟨b, hlk⟩ := look_ok hz i hm
  have hlen : ∀ l : List Int, (l ++ [v]).length = l.length + 1 := fun l => by simp
  have hfl : ∀ l : List Int, (l ++ [v]).flatMap encI = l.flatMap encI ++ [.int .i64 v] := fun l => by simp [encI]
  have hll : (getW i L).l.length < 1000000 := hl
  have fin : ∀ (F' : List Asr), H h (aOw 1 (getW i L).a (getW i L).l.length (getW i L).c ((getW i L).l.flatMap encI) :: Pt mb (.map es clk) :: F') → ∃ a' h45 h47 es' clk',
      appE 1 8 (.slice (getW i L).a (getW i L).l.length (getW i L).c) (.slice (some ⟨h.n, 0, none⟩) 1 1) (h.push (.cells [.int .i64 v] false false 1)) = some (.slice a' ((getW i L).l.length + 1) opn, h45) ∧
      aput (.int .i64) (.map (some mb)) (.int .i64 i) (.slice a' ((getW i L).l.length + 1) opn) h45 = some h47 ∧ es'.map prS = (putW i ⟨i, a', opn, (getW i L).l ++ [v]⟩ L).map encW ∧ H h47 (Pt mb (.map es' clk') :: aOw 1 a' ((getW i L).l ++ [v]).length opn (((getW i L).l ++ [v]).flatMap encI) :: F') := fun F' w1 => by
    obtain ⟨a', h45, e45, w45, _⟩ := w1.app (by_ := 8) (xs := [.int .i64 v]) (c' := 1) rfl (by decide) (by omega) (by omega)
    obtain ⟨h47, es', clk', q1, q2, q3⟩ := aput_ok (L := L) i (y := ⟨i, a', opn, (getW i L).l ++ [v]⟩) rfl hm w45.u1
    refine ⟨a', h45, h47, es', clk', e45, ?_, q2, ?_⟩
    · rw [← q1]; show _ = aput _ _ _ (.slice a' ((getW i L).l ++ [v]).length opn) _; rw [hlen]
    · rw [hlen, hfl]; exact q3
  cases hf : findW i L with
  | none =>
    have hg : getW i L = ⟨i, none, 0, []⟩ := by unfold getW; rw [hf]
    have w2 : H h (aOw 1 (getW i L).a (getW i L).l.length (getW i L).c ((getW i L).l.flatMap encI) :: Pt mb (.map es clk) :: Lay (L.map fun x => aOw 1 x.a x.l.length x.c (x.l.flatMap encI)) :: F) := by
      rw [hg]; exact w.owNil 1
    obtain ⟨a', h45, h47, es', clk', q1, q2, q3, q4⟩ := fin _ w2
    refine ⟨es, b, a', h45, h47, mapOf_ok w, hlk, q1, q2, msClose (clk := clk') q3 ?_⟩
    have hp : putW i ⟨i, a', opn, (getW i L).l ++ [v]⟩ L = L ++ [⟨i, a', opn, (getW i L).l ++ [v]⟩] := by unfold putW; rw [hf]
    rw [hp]
    exact (H.snoc_i (f := fun x : WE => aOw 1 x.a x.l.length x.c (x.l.flatMap encI)) (x := ⟨i, a', opn, (getW i L).l ++ [v]⟩) (q4.pm [1, 2, 0])).u1
  | some j =>
    obtain ⟨x, h1, h2, _⟩ := afW_some 0 hm hf
    have hg : getW i L = x := by unfold getW; rw [hf]; simp only [h1, Option.getD_some]
    have w2 := H.take_i (f := fun x : WE => aOw 1 x.a x.l.length x.c (x.l.flatMap encI)) h1 w.u1
    have w3 : H h (aOw 1 (getW i L).a (getW i L).l.length (getW i L).c ((getW i L).l.flatMap encI) :: Pt mb (.map es clk) :: Lay ((L.eraseIdx j).map fun x => aOw 1 x.a x.l.length x.c (x.l.flatMap encI)) :: F) := by
      rw [hg]; exact w2.pm [0, 2, 1]
    obtain ⟨a', h45, h47, es', clk', q1, q2, q3, q4⟩ := fin _ w3
    refine ⟨es, b, a', h45, h47, mapOf_ok w, hlk, q1, q2, msClose (clk := clk') q3 ?_⟩
    have hp : putW i ⟨i, a', opn, (getW i L).l ++ [v]⟩ L = L.set j ⟨i, a', opn, (getW i L).l ++ [v]⟩ := by unfold putW; rw [hf]
    rw [hp]
    exact (H.put_i (f := fun x : WE => aOw 1 x.a x.l.length x.c (x.l.flatMap encI)) ⟨i, a', opn, (getW i L).l ++ [v]⟩ (List.getElem?_eq_some_iff.mp h1).1 (q4.pm [1, 2, 0])).u1
/-- nothing under a key -/
theorem nilW (i : Int) (hh : H h (aMS mb L :: F)) : ∃ h', aput (.int .i64) (.map (some mb)) (.int .i64 i) (.slice none 0 0) h = some h' ∧ H h' (aMS mb (putW i ⟨i, none, 0, []⟩ L) :: F) := by
  obtain ⟨es, clk, hm, w⟩ := msOpen hh
  obtain ⟨h', es', clk', q1, q2, q3⟩ := aput_ok (L := L) i (y := ⟨i, none, 0, []⟩) rfl hm w
  refine ⟨h', q1, msClose (clk := clk') q2 ?_⟩
  cases hf : findW i L with
  | none =>
    have hp : putW i ⟨i, none, 0, []⟩ L = L ++ [⟨i, none, 0, []⟩] := by unfold putW; rw [hf]
    rw [hp]
    exact (H.snoc_i (f := fun x : WE => aOw 1 x.a x.l.length x.c (x.l.flatMap encI)) (x := ⟨i, none, 0, []⟩) ((q3.owNil 1).pm [0, 2, 1])).u1
  | some j =>
    obtain ⟨x, h1, _, _⟩ := afW_some 0 hm hf
    have hp : putW i ⟨i, none, 0, []⟩ L = L.set j ⟨i, none, 0, []⟩ := by unfold putW; rw [hf]
    rw [hp]
    have w2 := (H.take_i (f := fun x : WE => aOw 1 x.a x.l.length x.c (x.l.flatMap encI)) h1 q3.u1).drop
    exact (H.put_i (f := fun x : WE => aOw 1 x.a x.l.length x.c (x.l.flatMap encI)) ⟨i, none, 0, []⟩ (List.getElem?_eq_some_iff.mp h1).1 (w2.owNil 1)).u1
/-- the slice under a key, to read -/
theorem rdW (hz : zeroOf P e = some (.slice none 0 0)) (i : Int) (hh : H h (aMS mb L :: F)) : ∃ es b, mapOf h (.map (some mb)) = some es ∧ lookE P (.int .i64) e (.int .i64 i) es = some (sl (getW i L), b) ∧ newCells h 1 (sl (getW i L)) = some ((lkW L i).length, (lkW L i).flatMap encI) := by
  obtain ⟨es, clk, hm, w⟩ := msOpen hh
  obtain ⟨b, hlk⟩ := look_ok hz i hm
  refine ⟨es, b, mapOf_ok w, hlk, ?_⟩
  unfold lkW
  cases hf : findW i L with
  | none =>
    have hg : getW i L = ⟨i, none, 0, []⟩ := by unfold getW; rw [hf]
    rw [hg]; rfl
  | some j =>
    obtain ⟨x, h1, _, _⟩ := afW_some 0 hm hf
    have hg : getW i L = x := by unfold getW; rw [hf]; simp only [h1, Option.getD_some]
    rw [hg]
    have ho : Ow h 1 x.a x.l.length x.c (x.l.flatMap encI) := (H.take_i (f := fun x : WE => aOw 1 x.a x.l.length x.c (x.l.flatMap encI)) h1 w.u1).ow
    unfold sl
    generalize hcs : x.l.flatMap encI = cs at ho
    generalize hn : x.l.length = n at ho
    generalize x.a = a at ho
    generalize x.c = c at ho
    cases ho with
    | nil => rfl
    | @mk b _ _ hb hl2 hlt =>
      have q : Nat.ble (0 + n * 1) cs.length = true := Nat.ble_eq_true_of_le (by omega)
      simp only [newCells, ldRow, hb, q, cond_true, Option.bind_some, List.drop_zero]
      rw [List.take_of_length_le (by omega)]
end
end MapS
end Go.Lg.Try

namespace Go.Lg.Try
set_option linter.unusedVariables false
set_option linter.unusedSimpArgs false
open Go Go.Proofs
namespace Order
theorem rdN {h : AH} {a : Option Addr} {l : List En} (hr : Rd h a (l.flatMap encN)) {k : Nat} {x : En} (hx : l[k]? = some x) : ∃ ad, a = some ad ∧ h.ldI .i64 ad.block (ad.off + k * 3) = some x.v ∧ h.ldI .i64 ad.block (ad.off + k * 3 + 1) = some x.o ∧ h.ldI .i64 ad.block (ad.off + k * 3 + 2) = some x.a := by
  have c0 : (l.flatMap encN)[k * 3 + 0]? = some (.int .i64 x.v) := by rw [flat_get_some encN_len (by decide) hx]; rfl
  have c1 : (l.flatMap encN)[k * 3 + 1]? = some (.int .i64 x.o) := by rw [flat_get_some encN_len (by decide) hx]; rfl
  have c2 : (l.flatMap encN)[k * 3 + 2]? = some (.int .i64 x.a) := by rw [flat_get_some encN_len (by decide) hx]; rfl
  rcases hr with e | ⟨ad, c, op, ro, e, ha, h1, h2, h3⟩
  · rw [e] at c0; simp at c0
  · refine ⟨ad, ha, AH.ldI_of h1 (h3 _ _ c0), AH.ldI_of h1 ?_, AH.ldI_of h1 ?_⟩
    · rw [Nat.add_assoc]; exact h3 _ _ c1
    · rw [Nat.add_assoc]; exact h3 _ _ c2
section
variable {w d : List En} {q qb gb : Nat} {got : List Int} {ga a : Option Addr} {gc c : Nat} {F : List Asr} {h : AH} {upto : Int}
def actsN (l : List En) : List Int := l.map (·.a)
abbrev GP (gb : Nat) (ga : Option Addr) (gc : Nat) (got : List Int) : List Asr := [Cs gb [.slice ga got.length gc] 1, aOw 1 ga got.length gc (got.flatMap encI)]
def aGot (gb : Nat) (got : List Int) : Asr := fun m => ∃ ga : Option Addr, ∃ gc : Nat, Lay (GP gb ga gc got) m
theorem gOpen (hh : H h (aGot gb got :: F)) : ∃ ga gc, H h (Cs gb [.slice ga got.length gc] 1 :: aOw 1 ga got.length gc (got.flatMap encI) :: F) := by
  obtain ⟨ga, hh⟩ := hh.ex
  obtain ⟨gc, hh⟩ := hh.ex
  exact ⟨ga, gc, hh.opn_⟩
theorem gClose (hh : H h (Cs gb [.slice ga got.length gc] 1 :: aOw 1 ga got.length gc (got.flatMap encI) :: F)) : H h (aGot gb got :: F) :=
  (H.cls (L := GP gb ga gc got) hh).imp fun m hm => ⟨ga, gc, hm⟩
theorem take_loop (hs : Srt d) (hd : d.length < 100000) (hv : ∀ x ∈ d, x.v ≤ upto) : ∀ (n k : Nat) (h : AH) (got : List Int) (last : Int), d.length - k = n → k ≤ d.length → got.length + n < 1000000 → (∀ j x, k ≤ j → d[j]? = some x → last ≤ x.v) →
    H h (aRd a (d.flatMap encN) :: aGot gb got :: F) → Ok (law19_AfterOrder_1_L1 upto (some ⟨gb, 0, none⟩) last a d.length c ((d.length : Nat) : Int) (k : Nat) h) fun v h' => v = .bool true ∧ H h' (aGot gb (got ++ actsN (d.drop k)) :: F) := by
  intro n
  induction n with
  | zero =>
    intro k h got last hn hk hg hl w0
    obtain rfl : k = d.length := by omega
    refine Ok.le ?_ law19_AfterOrder_1_L1_le
    refine Ok.le ?_ law19_AfterOrder_1_j5_le
    rw [dec_f (by omega), cond_f]
    refine Ok.le ?_ law19_AfterOrder_1_j1_le
    refine Ok.some ⟨rfl, ?_⟩
    rw [List.drop_length]
    show H h (aGot gb (got ++ []) :: F)
    rw [List.append_nil]
    exact w0.drop
  | succ n ih =>
    intro k h got last hn hk hg hl w0
    have hkd : k < d.length := by omega
    obtain ⟨x, hx⟩ : ∃ x, d[k]? = some x := ⟨_, List.getElem?_eq_getElem hkd⟩
    have hxv := hv x (List.mem_of_getElem? hx)
    refine Ok.le ?_ law19_AfterOrder_1_L1_le
    refine Ok.le ?_ law19_AfterOrder_1_j5_le
    rw [dec_t (by omega), cond_t]
    refine Ok.le ?_ law19_AfterOrder_1_j4_le
    have hi : inB ((k : Nat) : Int) d.length = true := inB_t (by omega) (by omega)
    obtain ⟨ad, ha, x1, x2, x3⟩ := rdN w0.rd hx
    subst ha
    obtain ⟨h22, s22, w22, n22⟩ := w0.var [.int .i64 0, .int .i64 0, .int .i64 0] [.int .i64 x.v, .int .i64 x.o, .int .i64 x.a] 3 rfl
    have g22 := w22.get
    simp only [Option.bind_some, hi, cond_t, Int.toNat_natCast, x1, x2, x3, s22, AH.ldI_of (k := .i64) (o := 0 + 0) g22 rfl]
    rw [dec_f (show ¬ x.v < last by have := hl k x (Nat.le_refl _) hx; omega), cond_f, dec_f (show ¬ upto < x.v by omega), cond_f]
    refine Ok.le ?_ law19_AfterOrder_1_j3_le
    obtain ⟨ga, gc, w23⟩ := gOpen (w22.u2)
    obtain ⟨a', h33, e33, w33, n33⟩ := (w23.u1).app (by_ := 8) (xs := [.int .i64 x.a]) (c' := 1) rfl (by decide) (by omega) (by omega)
    obtain ⟨h36, s36, w36, n36⟩ := (w33.u1).st1 (.slice a' (got.length + 1) opn)
    simp only [Option.bind_some, AH.ldI_of (k := .i64) (o := 0 + 0) (w23.g 2 rfl) rfl, AH.ldI_of (k := .i64) (o := 0 + 2) (w23.g 2 rfl) rfl, AH.ldS_of (o := 0) (w23.g 0 rfl) rfl, e33, asS_s, s36]
    refine Ok.le ?_ law19_AfterOrder_1_j2_le
    rw [wadd1 (by omega)]
    have hlen : (got ++ [x.a]).length = got.length + 1 := by simp
    have hfl : (got ++ [x.a]).flatMap encI = got.flatMap encI ++ [.int .i64 x.a] := by simp [encI]
    have w37 : H h36 (aGot gb (got ++ [x.a]) :: Cs h.n [.int .i64 x.v, .int .i64 x.o, .int .i64 x.a] 3 :: aRd (some ad) (d.flatMap encN) :: F) := gClose (ga := a') (gc := opn) (by rw [hlen, hfl]; exact w36)
    have key := ih (k + 1) h36 (got ++ [x.a]) x.v (by omega) (by omega) (by rw [hlen]; omega) (fun j y h1 h2 => hs k j x y (by omega) hx h2) ((w37.rm 1 rfl).u1)
    have ed : actsN (d.drop k) = x.a :: actsN (d.drop (k + 1)) := by
      unfold actsN
      rw [List.drop_eq_getElem_cons hkd, List.map_cons]
      congr 2
      exact (List.getElem?_eq_some_iff.mp hx).2
    rw [ed, List.append_cons]
    exact key
theorem takeAll (hs : Srt d) (hd : d.length < 100000) (hw : w.length < 100000) (hg : got.length < 100000) (hv0 : ∀ x ∈ d, 0 ≤ x.v) (hv : ∀ x ∈ d, x.v ≤ upto) (hh : H h (Cs qb [ptrN q] 1 :: aGot gb got :: aQu q w d :: F)) :
    Ok (C k_law19_AfterOrder_1 [.int .i64 upto, ptrN qb, ptrN gb] h) fun v h' => v = .bool true ∧ H h' (Cs qb [ptrN q] 1 :: aGot gb (got ++ actsN d) :: aQu q w [] :: F) := by
  refine Ok.le ?_ law19_AfterOrder_1_le
  unfold F_law19_AfterOrder_1
  simp only [Option.bind_some, AH.ldP_of (o := 0) hh.get rfl]
  refine Ok.bind (take_ok (upto := upto) (by omega) (by omega) (hh.u2)) ?_
  rintro _ h2 ⟨a, c, rfl, w2⟩
  have et : tkN upto d = d.length := by
    clear hh hs hd hv0 w2
    induction d with
    | nil => rfl
    | cons x l ih =>
      unfold tkN
      rw [if_pos (hv x (by simp)), ih fun y hy => hv y (by simp [hy])]; rfl
  rw [et, List.take_length, List.drop_length] at w2
  rw [et]
  simp only [asS_s, Option.bind_some]
  have w3 : H h2 (aRd a (d.flatMap encN) :: aGot gb got :: Cs qb [ptrN q] 1 :: aQu q w [] :: F) := w2.pm [0, 3, 2, 1]
  refine Ok.mono (take_loop hs hd hv d.length 0 h2 got 0 rfl (by omega) (by omega) (fun j x _ hx => hv0 x (List.mem_of_getElem? hx)) w3) ?_
  rintro _ h4 ⟨rfl, w4⟩
  exact ⟨rfl, w4.u1⟩
end
end Order
end Go.Lg.Try
