/- Transactions that interleave: what has been published, and what is read (a law on the model TM alone). -/
import Derived.Test.YtdkammcandclhaaPtxInv
set_option linter.unusedVariables false
set_option linter.unusedSimpArgs false
namespace Go.Lg.Try
set_option linter.unusedVariables false
set_option linter.unusedSimpArgs false
open Go Go.Proofs
namespace Ser
/-- a publishing: version, cell, value -/
structure Pb where
  v : Int
  i : Int
  x : Int
/-- the last one of cell i whose version is at most n -/
def lastE (E : List Pb) (i n : Int) : Int × Int := E.foldl (fun a e => if e.i = i ∧ e.v ≤ n then (e.v, e.x) else a) (0, 0)
theorem lastE_snoc (E : List Pb) (e : Pb) (i n : Int) : lastE (E ++ [e]) i n = if e.i = i ∧ e.v ≤ n then (e.v, e.x) else lastE E i n := by
  unfold lastE; rw [List.foldl_append]; rfl
theorem lastE_none {E : List Pb} {i n : Int} (h : ∀ e ∈ E, e.i = i → n < e.v) : lastE E i n = (0, 0) := by
  have key : ∀ (E : List Pb) (a : Int × Int), (∀ e ∈ E, e.i = i → n < e.v) → E.foldl (fun a e => if e.i = i ∧ e.v ≤ n then (e.v, e.x) else a) a = a := by
    intro E
    induction E with
    | nil => intro a _; rfl
    | cons e E ih =>
      intro a h
      rw [List.foldl_cons, if_neg (fun hc => by have := h e (by simp) hc.1; omega)]
      exact ih a fun e he => h e (List.mem_cons_of_mem _ he)
  exact key E (0, 0) h
/-- beyond all versions of a cell nothing changes -/
theorem lastE_same {E : List Pb} {i n k : Int} (hn : ∀ e ∈ E, e.i = i → e.v ≤ n ∨ k < e.v) (hk : n ≤ k) : lastE E i k = lastE E i n := by
  unfold lastE
  have key : ∀ (E : List Pb) (a : Int × Int), (∀ e ∈ E, e.i = i → e.v ≤ n ∨ k < e.v) → E.foldl (fun a e => if e.i = i ∧ e.v ≤ k then (e.v, e.x) else a) a = E.foldl (fun a e => if e.i = i ∧ e.v ≤ n then (e.v, e.x) else a) a := by
    intro E
    induction E with
    | nil => intro a _; rfl
    | cons e E ih =>
      intro a h
      rw [List.foldl_cons, List.foldl_cons]
      by_cases c : e.i = i
      · rcases h e (by simp) c with h1 | h1
        · rw [if_pos ⟨c, by omega⟩, if_pos ⟨c, h1⟩]; exact ih _ fun e he => h e (List.mem_cons_of_mem _ he)
        · rw [if_neg (fun hc => by omega), if_neg (fun hc => by omega)]; exact ih _ fun e he => h e (List.mem_cons_of_mem _ he)
      · rw [if_neg (fun hc => c hc.1), if_neg (fun hc => c hc.1)]; exact ih _ fun e he => h e (List.mem_cons_of_mem _ he)
  exact key E _ hn
/-- versions of a cell rise -/
def Rise (E : List Pb) : Prop := E.Pairwise fun a b => a.i = b.i → a.v < b.v
theorem Rise.snoc {E : List Pb} (r : Rise E) {e : Pb} (h : ∀ a ∈ E, a.i = e.i → a.v < e.v) : Rise (E ++ [e]) := by
  unfold Rise
  rw [List.pairwise_append]
  exact ⟨r, List.pairwise_singleton _ _, fun a ha b hb => by obtain rfl : b = e := by simpa using hb
                                                             exact h a ha⟩
theorem lastE_in : ∀ {E : List Pb} (r : Rise E) {e : Pb}, e ∈ E → lastE E e.i e.v = (e.v, e.x) := by
  intro E
  -- from the end
  have key : ∀ (L : List Pb), Rise L.reverse → ∀ e ∈ L, lastE L.reverse e.i e.v = (e.v, e.x) := by
    intro L
    induction L with
    | nil => intro _ e he; simp at he
    | cons a L ih =>
      intro r e he
      rw [List.reverse_cons] at r ⊢
      unfold Rise at r
      rw [List.pairwise_append] at r
      rw [lastE_snoc]
      rcases List.mem_cons.mp he with rfl | he
      · rw [if_pos ⟨rfl, Int.le_refl _⟩]
      · rw [if_neg (fun hc => by have := r.2.2 e (List.mem_reverse.mpr he) a (by simp) hc.1.symm; omega)]
        exact ih r.1 e he
  intro r e he
  have := key E.reverse (by rw [List.reverse_reverse]; exact r) e (List.mem_reverse.mpr he)
  rw [List.reverse_reverse] at this
  exact this
/-- a history -/
structure Hi where
  beg : Int
  ver : Int
  reads : List (Int × Int)
  writes : List (Int × Int)
  done : Bool
/-- one of the four: its transaction, the place of its history, how far its end is -/
structure Sl where
  m : TM
  j : Nat
  k : Nat
abbrev Sl.W (s : Sl) : List Int := sortI (s.m.σ.writes.map Prod.fst)
abbrev Sl.R (s : Sl) : List Int := sortI (s.m.σ.reads.map Prod.fst)
/-- how many of its cells are published -/
def Sl.pk (s : Sl) : Nat := s.k - (s.W.length + 1 + s.R.length)
/-- it has a version -/
def Clm (s : Sl) : Prop := s.m.st = 2 ∧ s.W ≠ [] ∧ s.W.length < s.k
/-- it has a version, and is to publish cell i -/
def Pend (s : Sl) (i : Int) : Prop := Clm s ∧ ∃ q, s.pk ≤ q ∧ s.W[q]? = some i
/-- it holds cell i -/
def Held (s : Sl) (i : Int) : Prop := s.m.st = 2 ∧ s.W ≠ [] ∧ ∃ q, s.pk ≤ q ∧ q < s.k ∧ s.W[q]? = some i
/-- cell i had value x (and version rv) behind version n, and that stays so -/
structure RdC (clk : Int) (E : List Pb) (sl : List Sl) (i n : Int) (a : Int × Int) : Prop where
  e : lastE E i n = a
  le : n ≤ clk
  s : ∀ s ∈ sl, Pend s i → n < s.m.ver
/-- what a call of one of the four does to all -/
structure Chg (clk : Int) (E : List Pb) (s : Sl) (clk' : Int) (E' : List Pb) (s' : Sl) : Prop where
  c : clk ≤ clk'
  e : E' = E ∨ ∃ b, E' = E ++ [b] ∧ Pend s b.i ∧ b.v = s.m.ver
  p : ∀ i, Pend s' i → (Pend s i ∧ s'.m.ver = s.m.ver) ∨ clk < s'.m.ver
theorem RdC.step {clk clk' : Int} {E E' : List Pb} {sl : List Sl} {w : Nat} {s s' : Sl} {i n : Int} {a : Int × Int} (r : RdC clk E sl i n a) (hs : sl[w]? = some s) (h : Chg clk E s clk' E' s') : RdC clk' E' (sl.set w s') i n a := by
  have hmem : s ∈ sl := List.mem_of_getElem? hs
  refine ⟨?_, Int.le_trans r.le h.c, fun z hz hp => ?_⟩
  · rcases h.e with e | ⟨b, e, hp, hv⟩
    · rw [e]; exact r.e
    · rw [e, lastE_snoc, if_neg ?_]
      · exact r.e
      · rintro ⟨h1, h2⟩
        have := r.s s hmem (by rw [← h1]; exact hp)
        omega
  · rcases List.mem_or_eq_of_mem_set hz with hz | rfl
    · exact r.s z hz hp
    · rcases h.p i hp with ⟨h1, h2⟩ | h1
      · rw [h2]; exact r.s s hmem h1
      · have := r.le; omega
/-- who has taken version v -/
def Claim (all : List Hi) (sl : List Sl) (j : Nat) (v : Int) : Prop := (∃ H, all[j]? = some H ∧ H.done = true ∧ H.writes ≠ [] ∧ H.ver = v) ∨ ∃ s ∈ sl, s.j = j ∧ Clm s ∧ s.m.ver = v
/-- what holds of a history -/
structure HOK (clk : Int) (E : List Pb) (sl : List Sl) (H : Hi) : Prop where
  o : ∀ z ∈ H.reads, ∃ rv, RdC clk E sl z.1 H.beg (rv, z.2)
  d0 : H.done = true → H.writes = [] → H.ver = H.beg
  d1 : H.done = true → H.writes ≠ [] → ∀ z ∈ H.reads, ∃ rv, RdC clk E sl z.1 (H.ver - 1) (rv, z.2)
  d2 : H.done = true → ∀ i x, alook H.writes i = some x → (⟨H.ver, i, x⟩ : Pb) ∈ E
  nk : Nk H.writes ∧ ∀ i ∈ H.writes.map Prod.fst, 0 ≤ i ∧ i < ((6 : Nat) : Int)
  b0 : 0 ≤ H.beg
  rk : ∀ z ∈ H.reads, 0 ≤ z.1 ∧ z.1 < 6
  b1 : H.beg ≤ clk
/-- what holds of one of the four -/
structure SOK (w : Nat) (cs : List Cel) (clk : Int) (E : List Pb) (sl : List Sl) (s : Sl) (H : Hi) : Prop where
  ow : s.m.owner = (w : Int) + 1
  tx : ∃ N, TInv 6 s.m N
  bg : H.beg = s.m.beg ∧ 0 ≤ s.m.beg ∧ s.m.beg ≤ clk
  wr : H.writes = s.m.σ.writes
  dn : H.done = true ↔ s.m.st = 3
  dv : s.m.st = 3 → H.ver = s.m.ver
  rd : ∀ z ∈ H.reads, ∃ rv, alook s.m.σ.reads z.1 = some rv ∧ RdC clk E sl z.1 s.m.beg (rv, z.2)
  pl : s.m.st = 2 → s.W ≠ [] → s.m.left = (planM s.W s.R).drop s.k ∧ s.k < (planM s.W s.R).length
  he : ∀ i, Held s i → 0 ≤ i ∧ i < 6 ∧ ∃ c, cs[i.toNat]? = some c ∧ c.own = s.m.owner ∧ (Clm s → c.ver < s.m.ver)
  cl : Clm s → 1 ≤ s.m.ver ∧ s.m.ver ≤ clk ∧ s.m.beg < s.m.ver
  ck : Clm s → ∀ (q : Nat) i, s.R[q]? = some i → s.W.length + 1 + q < s.k → ∀ z ∈ H.reads, z.1 = i → ∃ rv, RdC clk E sl i (s.m.ver - 1) (rv, z.2)
  pb : Clm s → ∀ (q : Nat) i, s.W[q]? = some i → q < s.pk → (⟨s.m.ver, i, aval (alook s.m.σ.writes i)⟩ : Pb) ∈ E
  pe : Clm s → ∀ e ∈ E, e.v = s.m.ver → ∃ q, q < s.pk ∧ s.W[q]? = some e.i
  td : Clm s → s.m.told = false → s.pk = 0
  nk : Nk s.m.σ.writes
  em : s.m.σ.marks = [] ∧ s.m.σ.past = []
/-- all of it -/
structure Inv (cs : List Cel) (clk : Int) (E : List Pb) (sl : List Sl) (all : List Hi) : Prop where
  n : cs.length = 6
  l : sl.length = 4
  c0 : 0 ≤ clk
  cel : ∀ (i : Nat) c, cs[i]? = some c → (c.ver, c.v) = lastE E i clk ∧ (∀ e ∈ E, e.i = i → e.v ≤ c.ver) ∧ 0 ≤ c.ver ∧ c.ver ≤ clk
  own : ∀ (i : Nat) c, cs[i]? = some c → c.own = 0 ∨ ∃ s ∈ sl, c.own = s.m.owner ∧ Held s i
  ri : Rise E
  ev : ∀ e ∈ E, 1 ≤ e.v ∧ e.v ≤ clk ∧ 0 ≤ e.i ∧ e.i < 6 ∧ ∃ j H, all[j]? = some H ∧ alook H.writes e.i = some e.x ∧ Claim all sl j e.v
  un : ∀ j j' v, Claim all sl j v → Claim all sl j' v → j = j'
  cm : ∀ j v, Claim all sl j v → 1 ≤ v ∧ v ≤ clk
  h : ∀ H ∈ all, HOK clk E sl H
  s : ∀ (w : Nat) s, sl[w]? = some s → ∃ H, all[s.j]? = some H ∧ SOK w cs clk E sl s H
  jj : ∀ (w w' : Nat) s s', sl[w]? = some s → sl[w']? = some s' → s.j = s'.j → w = w'
section
variable {cs cs' : List Cel} {clk clk' : Int} {E E' : List Pb} {sl : List Sl} {all : List Hi} {w : Nat} {s s' : Sl} {H H' : Hi}
/-- what others hold stays as it is -/
def CsFr (o : Int) (cs cs' : List Cel) : Prop := cs'.length = cs.length ∧ ∀ (i : Nat) c, cs[i]? = some c → c.own ≠ 0 → c.own ≠ o → cs'[i]? = some c
theorem CsFr.refl (o : Int) (cs : List Cel) : CsFr o cs cs := ⟨rfl, fun i c h _ _ => h⟩
theorem Chg.sub (h : Chg clk E s clk' E' s') : ∀ e ∈ E, e ∈ E' := by
  intro e he
  rcases h.e with h1 | ⟨b, h1, _⟩
  · rw [h1]; exact he
  · rw [h1]; exact List.mem_append_left _ he
theorem HOK.step (o : HOK clk E sl H) (hs : sl[w]? = some s) (h : Chg clk E s clk' E' s') : HOK clk' E' (sl.set w s') H :=
  ⟨fun z hz => by obtain ⟨rv, r⟩ := o.o z hz; exact ⟨rv, r.step hs h⟩, o.d0, fun h1 h2 z hz => by obtain ⟨rv, r⟩ := o.d1 h1 h2 z hz; exact ⟨rv, r.step hs h⟩, fun h1 i x hx => h.sub _ (o.d2 h1 i x hx), o.nk, o.b0, o.rk, Int.le_trans o.b1 h.c⟩
/-- the others -/
theorem SOK.step {w' : Nat} {z : Sl} (o : SOK w' cs clk E sl z H) (hw : w' ≠ w) (hs : sl[w]? = some s) (how : s.m.owner = (w : Int) + 1) (h : Chg clk E s clk' E' s') (hc : CsFr s.m.owner cs cs') (hv : Clm z → Clm s → s.m.ver ≠ z.m.ver) : SOK w' cs' clk' E' (sl.set w s') z H := by
  refine ⟨o.ow, o.tx, ⟨o.bg.1, o.bg.2.1, Int.le_trans o.bg.2.2 h.c⟩, o.wr, o.dn, o.dv, fun y hy => ?_, o.pl, fun i hi => ?_, fun c => ?_, fun c q i h1 h2 y hy e => ?_, fun c q i h1 h2 => h.sub _ (o.pb c q i h1 h2), fun c e he ev => ?_, o.td, o.nk, o.em⟩
  · obtain ⟨rv, h1, r⟩ := o.rd y hy; exact ⟨rv, h1, r.step hs h⟩
  · obtain ⟨a, b, c, h1, h2, h3⟩ := o.he i hi
    have := o.ow
    exact ⟨a, b, c, hc.2 _ _ h1 (by omega) (by omega), h2, h3⟩
  · obtain ⟨a, b, c⟩ := o.cl c; exact ⟨a, Int.le_trans b h.c, c⟩
  · obtain ⟨rv, r⟩ := o.ck c q i h1 h2 y hy e; exact ⟨rv, r.step hs h⟩
  · rcases h.e with h1 | ⟨b, h1, h2, h3⟩
    · rw [h1] at he; exact o.pe c e he ev
    · rw [h1] at he
      rcases List.mem_append.mp he with he | he
      · exact o.pe c e he ev
      · obtain rfl : e = b := by simpa using he
        exact absurd (h3.symm.trans ev) (hv c h2.1)
theorem get_set_iff {α : Type} {l : List α} {i j : Nat} {a b : α} (hi : l[i]? = some b) : (l.set i a)[j]? = if i = j then some a else l[j]? := by
  by_cases e : i = j
  · subst e; rw [if_pos rfl, List.getElem?_set_self (List.getElem?_eq_some_iff.mp hi).1]
  · rw [if_neg e, List.getElem?_set_ne e]
theorem Claim.other (I : Inv cs clk E sl all) (hs : sl[w]? = some s) (hH : all[s.j]? = some H) (hj : s'.j = s.j) {j : Nat} {v : Int} (hne : j ≠ s.j) : Claim (all.set s.j H') (sl.set w s') j v ↔ Claim all sl j v := by
  unfold Claim
  rw [get_set_iff hH, if_neg (Ne.symm hne)]
  refine or_congr Iff.rfl ⟨?_, ?_⟩
  · rintro ⟨z, hz, e, c⟩
    rcases List.mem_or_eq_of_mem_set hz with hz | rfl
    · exact ⟨z, hz, e, c⟩
    · exact absurd (e.symm.trans hj) hne
  · rintro ⟨z, hz, e, c⟩
    obtain ⟨k, hk⟩ := List.getElem?_of_mem hz
    have hkw : w ≠ k := by rintro rfl; rw [hs] at hk; obtain rfl := Option.some.inj hk; exact hne e.symm
    exact ⟨z, List.mem_of_getElem? (i := k) (by rw [get_set_iff hs, if_neg hkw]; exact hk), e, c⟩
/-- one of the four does something -/
theorem Inv.upd (I : Inv cs clk E sl all) (hs : sl[w]? = some s) (hH : all[s.j]? = some H) (so : SOK w cs clk E sl s H) (ch : Chg clk E s clk' E' s') (fr : CsFr s.m.owner cs cs') (hj : s'.j = s.j)
    (s1 : SOK w cs' clk' E' (sl.set w s') s' H') (h1 : HOK clk' E' (sl.set w s') H')
    (wr : H'.writes = H.writes ∨ ∀ v, ¬Claim all sl s.j v)
    (kp : ∀ e ∈ E, Claim all sl s.j e.v → Claim (all.set s.j H') (sl.set w s') s.j e.v)
    (nw : ∀ v, Claim (all.set s.j H') (sl.set w s') s.j v → Claim all sl s.j v ∨ (clk < v ∧ v ≤ clk'))
    (cel : ∀ (i : Nat) c, cs'[i]? = some c → (c.ver, c.v) = lastE E' i clk' ∧ (∀ e ∈ E', e.i = i → e.v ≤ c.ver) ∧ 0 ≤ c.ver ∧ c.ver ≤ clk')
    (own : ∀ (i : Nat) c, cs'[i]? = some c → c.own = 0 ∨ (c.own = s.m.owner ∧ Held s' i) ∨ (c.own ≠ s.m.owner ∧ cs[i]? = some c))
    (ri : Rise E') (ev : ∀ e ∈ E', e ∈ E ∨ (1 ≤ e.v ∧ e.v ≤ clk' ∧ 0 ≤ e.i ∧ e.i < 6 ∧ alook H'.writes e.i = some e.x ∧ Claim (all.set s.j H') (sl.set w s') s.j e.v)) :
    Inv cs' clk' E' (sl.set w s') (all.set s.j H') := by
  have hjl : s.j < all.length := (List.getElem?_eq_some_iff.mp hH).1
  have cl1 : ∀ j v, Claim (all.set s.j H') (sl.set w s') j v → Claim all sl j v ∨ (j = s.j ∧ clk < v ∧ v ≤ clk') := by
    intro j v hc
    by_cases e : j = s.j
    · subst e
      rcases nw v hc with h | h
      · exact .inl h
      · exact .inr ⟨rfl, h⟩
    · exact .inl ((Claim.other I hs hH hj e).mp hc)
  refine ⟨by rw [fr.1]; exact I.n, by rw [List.length_set]; exact I.l, Int.le_trans I.c0 ch.c, cel, ?_, ri, ?_, ?_, ?_, ?_, ?_, ?_⟩
  · intro i c hc
    rcases own i c hc with h | ⟨h, h2⟩ | ⟨h, h2⟩
    · exact .inl h
    · exact .inr ⟨s', List.mem_of_getElem? (i := w) (by rw [get_set_iff hs, if_pos rfl]), by rw [h, s1.ow, so.ow], h2⟩
    · rcases I.own i c h2 with h3 | ⟨z, hz, e, hh⟩
      · exact .inl h3
      · obtain ⟨k, hk⟩ := List.getElem?_of_mem hz
        have hkw : w ≠ k := by rintro rfl; rw [hs] at hk; obtain rfl := Option.some.inj hk; exact h e
        exact .inr ⟨z, List.mem_of_getElem? (i := k) (by rw [get_set_iff hs, if_neg hkw]; exact hk), e, hh⟩
  · intro e he
    rcases ev e he with h | ⟨a, b, c, d, x, y⟩
    · obtain ⟨a, b, c, d, j, G, hG, hx, hc⟩ := I.ev e h
      refine ⟨a, Int.le_trans b ch.c, c, d, j, ?_⟩
      by_cases ej : j = s.j
      · subst ej
        rw [hH] at hG
        obtain rfl := Option.some.inj hG
        refine ⟨H', by rw [List.getElem?_set_self hjl], ?_, kp e h hc⟩
        rcases wr with wr | wr
        · rw [wr]; exact hx
        · exact absurd hc (wr _)
      · exact ⟨G, by rw [List.getElem?_set_ne (Ne.symm ej)]; exact hG, hx, (Claim.other I hs hH hj ej).mpr hc⟩
    · exact ⟨a, b, c, d, s.j, H', by rw [List.getElem?_set_self hjl], x, y⟩
  · intro j j' v h2 h3
    rcases cl1 j v h2 with h2 | ⟨e2, h2, _⟩
    · rcases cl1 j' v h3 with h3 | ⟨e3, h3, _⟩
      · exact I.un j j' v h2 h3
      · have := (I.cm j v h2).2; omega
    · rcases cl1 j' v h3 with h3 | ⟨e3, h3, _⟩
      · have := (I.cm j' v h3).2; omega
      · rw [e2, e3]
  · intro j v h2
    rcases cl1 j v h2 with h2 | ⟨e2, h2, h3⟩
    · exact ⟨(I.cm j v h2).1, Int.le_trans (I.cm j v h2).2 ch.c⟩
    · have := I.c0; exact ⟨by omega, h3⟩
  · intro G hG
    rcases List.mem_or_eq_of_mem_set hG with hG | rfl
    · exact (I.h G hG).step hs ch
    · exact h1
  · intro k z hz
    rw [get_set_iff hs] at hz
    by_cases e : w = k
    · subst e
      rw [if_pos rfl] at hz
      obtain rfl := Option.some.inj hz
      exact ⟨H', by rw [hj, List.getElem?_set_self hjl], s1⟩
    · rw [if_neg e] at hz
      obtain ⟨G, hG, o⟩ := I.s k z hz
      have hjz : s.j ≠ z.j := fun e2 => e (I.jj w k s z hs hz e2)
      refine ⟨G, by rw [List.getElem?_set_ne hjz]; exact hG, o.step (Ne.symm e) hs so.ow ch fr ?_⟩
      intro c1 c2 ev
      exact hjz (I.un s.j z.j s.m.ver (.inr ⟨s, List.mem_of_getElem? hs, rfl, c2, rfl⟩) (.inr ⟨z, List.mem_of_getElem? hz, rfl, c1, ev.symm⟩))
  · intro k k' z z' hz hz' e
    have key : ∀ (k : Nat) (z : Sl), (sl.set w s')[k]? = some z → ∃ z0 : Sl, sl[k]? = some z0 ∧ z0.j = z.j := by
      intro k z hz
      rw [get_set_iff hs] at hz
      by_cases e : w = k
      · subst e
        rw [if_pos rfl] at hz
        obtain rfl := Option.some.inj hz
        exact ⟨s, hs, hj.symm⟩
      · rw [if_neg e] at hz; exact ⟨z, hz, rfl⟩
    obtain ⟨z0, h0, e0⟩ := key k z hz
    obtain ⟨z1, h1', e1⟩ := key k' z' hz'
    exact I.jj k k' z0 z1 h0 h1' (by rw [e0, e1, e])
theorem set_self {α : Type} {l : List α} {i : Nat} {a : α} (h : l[i]? = some a) : l.set i a = l := by
  apply List.ext_getElem?
  intro j
  rw [get_set_iff h]
  split
  · subst_vars; exact h.symm
  · rfl
theorem free_get (cs : List Cel) (o : Int) (i : Nat) : (freeM cs o)[i]? = (cs[i]?).map (free1 o) := by unfold freeM; rw [List.getElem?_map]
theorem Claim.me (I : Inv cs clk E sl all) (hs : sl[w]? = some s) (hH : all[s.j]? = some H) (hj : s'.j = s.j) {v : Int} : Claim (all.set s.j H') (sl.set w s') s.j v ↔ (H'.done = true ∧ H'.writes ≠ [] ∧ H'.ver = v) ∨ (Clm s' ∧ s'.m.ver = v) := by
  unfold Claim
  rw [get_set_iff hH, if_pos rfl]
  refine or_congr ⟨?_, ?_⟩ ⟨?_, ?_⟩
  · rintro ⟨G, e, h⟩; obtain rfl := Option.some.inj e; exact h
  · exact fun h => ⟨H', rfl, h⟩
  · rintro ⟨z, hz, e, h⟩
    obtain ⟨k, hk⟩ := List.getElem?_of_mem hz
    rw [get_set_iff hs] at hk
    by_cases ek : w = k
    · rw [if_pos ek] at hk; obtain rfl := Option.some.inj hk; exact h
    · rw [if_neg ek] at hk; exact absurd (I.jj w k s z hs hk e.symm) ek
  · exact fun h => ⟨s', List.mem_of_getElem? (i := w) (by rw [get_set_iff hs, if_pos rfl]), hj, h⟩
theorem Claim.me0 (I : Inv cs clk E sl all) (hs : sl[w]? = some s) (hH : all[s.j]? = some H) {v : Int} : Claim all sl s.j v ↔ (H.done = true ∧ H.writes ≠ [] ∧ H.ver = v) ∨ (Clm s ∧ s.m.ver = v) := by
  have := Claim.me (H' := H) (s' := s) (v := v) I hs hH rfl
  rwa [set_self hs, set_self hH] at this
theorem nClm {s : Sl} (h : s.m.st ≠ 2) : ¬Clm s := fun c => h c.1
theorem nPend {s : Sl} (h : s.m.st ≠ 2) (i : Int) : ¬Pend s i := fun c => h c.1.1
theorem nHeld {s : Sl} (h : s.m.st ≠ 2) (i : Int) : ¬Held s i := fun c => h c.1
theorem Pend.held {s : Sl} {i : Int} (p : Pend s i) : Held s i := by
  obtain ⟨c, q, h1, h2⟩ := p
  have := (List.getElem?_eq_some_iff.mp h2).1
  have := c.2.2
  exact ⟨c.1, c.2.1, q, h1, by omega, h2⟩
theorem Chg.quiet (h : s'.m.st ≠ 2) : Chg clk E s clk E s' := ⟨Int.le_refl _, .inl rfl, fun i hp => absurd hp (nPend h i)⟩
/-- one that has an end that has not published fails -/
theorem Inv.fail (I : Inv cs clk E sl all) (hs : sl[w]? = some s) (hH : all[s.j]? = some H) (so : SOK w cs clk E sl s H) (hst : s.m.st = 1 ∨ s.m.st = 2) (hE : Clm s → ∀ e ∈ E, e.v ≠ s.m.ver) :
    Inv (freeM cs s.m.owner) clk E (sl.set w { s with m := s.m.fail }) all := by
  have hnd : ¬H.done = true := fun h => by have := so.dn.mp h; omega
  have st4 : ({ s with m := s.m.fail } : Sl).m.st ≠ 2 := by show (4 : Int) ≠ 2; decide
  have ch : Chg clk E s clk E { s with m := s.m.fail } := Chg.quiet st4
  have := I.upd (H' := H) (s' := { s with m := s.m.fail }) (cs' := freeM cs s.m.owner) hs hH so ch ⟨free_len _ _, fun i c hc h0 h1 => by
      rw [free_get, hc]; show some (free1 _ c) = _; unfold free1; rw [if_neg h1]⟩ rfl
    ⟨so.ow, by obtain ⟨N, t⟩ := so.tx; exact ⟨N, t.fail⟩, so.bg, so.wr, ⟨fun h => absurd h hnd, fun h => by have : (4 : Int) = 3 := h; omega⟩, fun h => (by have : (4 : Int) = 3 := h; omega), fun z hz => (by
      obtain ⟨rv, h1, r⟩ := so.rd z hz; exact ⟨rv, h1, r.step hs ch⟩), fun h => absurd h st4, fun i h => absurd h (nHeld st4 i), fun h => absurd h (nClm st4), fun h => absurd h (nClm st4), fun h => absurd h (nClm st4), fun h => absurd h (nClm st4), fun h => absurd h (nClm st4), so.nk, so.em⟩
    ((I.h H (List.mem_of_getElem? hH)).step hs ch) (.inl rfl) ?_ ?_ ?_ ?_ I.ri (fun e he => .inl he)
  · rwa [set_self hH] at this
  · intro e he hc
    rcases (Claim.me0 I hs hH).mp hc with h | h
    · exact absurd h.1 hnd
    · exact absurd h.2.symm (hE h.1 e he)
  · intro v hc
    rcases (Claim.me (s' := { s with m := s.m.fail }) I hs hH rfl).mp hc with h | h
    · exact absurd h.1 hnd
    · exact absurd h.1 (nClm st4)
  · intro i c hc
    rw [free_get] at hc
    obtain ⟨c0, h0, rfl⟩ := Option.map_eq_some_iff.mp hc
    have := I.cel i c0 h0
    have e1 : (free1 s.m.owner c0).ver = c0.ver := by unfold free1; split <;> rfl
    have e2 : (free1 s.m.owner c0).v = c0.v := by unfold free1; split <;> rfl
    rw [e1, e2]; exact this
  · intro i c hc
    rw [free_get] at hc
    obtain ⟨c0, h0, rfl⟩ := Option.map_eq_some_iff.mp hc
    unfold free1
    by_cases e : c0.own = s.m.owner
    · rw [if_pos e]; exact .inl rfl
    · rw [if_neg e]; exact .inr (.inr ⟨e, h0⟩)
theorem load_in {cs : List Cel} {i : Int} (hn : cs.length = 6) (h0 : 0 ≤ i) (h1 : i < 6) : ∃ c, cs[i.toNat]? = some c ∧ loadM cs i = (c, 0) := by
  obtain ⟨c, hc⟩ : ∃ c, cs[i.toNat]? = some c := ⟨_, List.getElem?_eq_getElem (by omega)⟩
  refine ⟨c, hc, ?_⟩
  unfold loadM
  rw [if_neg (by omega), hc]
/-- a cell that nobody holds is as it was, and stays so -/
theorem Inv.seen (I : Inv cs clk E sl all) {i : Int} (h0 : 0 ≤ i) (h1 : i < 6) {c : Cel} (hc : cs[i.toNat]? = some c) (hown : c.own = 0) {n : Int} (hn : c.ver ≤ n) (hk : n ≤ clk) : RdC clk E sl i n (c.ver, c.v) := by
  obtain ⟨a, b, _, d⟩ := I.cel i.toNat c hc
  have ei : ((i.toNat : Nat) : Int) = i := by omega
  rw [ei] at a b
  refine ⟨?_, hk, fun z hz hp => ?_⟩
  · rw [a]
    exact (lastE_same (fun e he hi => .inl (Int.le_trans (b e he hi) hn)) hk).symm
  · obtain ⟨k, hk⟩ := List.getElem?_of_mem hz
    obtain ⟨G, hG, o⟩ := I.s k z hk
    obtain ⟨_, _, c', hc', h2, _⟩ := o.he i hp.held
    rw [hc] at hc'
    obtain rfl := Option.some.inj hc'
    have := o.ow
    omega
/-- one that is open turns its sets, its history with them -/
theorem Inv.open_ (I : Inv cs clk E sl all) (hs : sl[w]? = some s) (hH : all[s.j]? = some H) (so : SOK w cs clk E sl s H) (hst : s.m.st = 1) {σ' : St} {H' : Hi} (tx : ∃ N, TInv 6 { s.m with σ := σ' } N)
    (hb : H'.beg = H.beg) (hd : H'.done = H.done) (hw : H'.writes = σ'.writes) (rd : ∀ z ∈ H'.reads, ∃ rv, alook σ'.reads z.1 = some rv ∧ RdC clk E sl z.1 s.m.beg (rv, z.2)) (nk : Nk σ'.writes) (em : σ'.marks = [] ∧ σ'.past = []) :
    Inv cs clk E (sl.set w { s with m := { s.m with σ := σ' } }) (all.set s.j H') := by
  have hnd : ¬H.done = true := fun h => by have := so.dn.mp h; omega
  have hnd' : ¬H'.done = true := by rw [hd]; exact hnd
  have st1 : ({ s with m := { s.m with σ := σ' } } : Sl).m.st ≠ 2 := by show s.m.st ≠ 2; omega
  have ch : Chg clk E s clk E { s with m := { s.m with σ := σ' } } := Chg.quiet st1
  refine I.upd (H' := H') (s' := { s with m := { s.m with σ := σ' } }) (cs' := cs) hs hH so ch (CsFr.refl _ _) rfl
    ⟨so.ow, tx, ⟨by rw [hb]; exact so.bg.1, so.bg.2.1, so.bg.2.2⟩, hw, ⟨fun h => absurd h hnd', fun h => by have : s.m.st = 3 := h; omega⟩, fun h => (by have : s.m.st = 3 := h; omega), fun z hz => (by
      obtain ⟨rv, h1, r⟩ := rd z hz; exact ⟨rv, h1, r.step hs ch⟩), fun h => absurd h st1, fun i h => absurd h (nHeld st1 i), fun h => absurd h (nClm st1), fun h => absurd h (nClm st1), fun h => absurd h (nClm st1), fun h => absurd h (nClm st1), fun h => absurd h (nClm st1), nk, em⟩
    ⟨fun z hz => by obtain ⟨rv, h1, r⟩ := rd z hz; rw [hb, so.bg.1]; exact ⟨rv, r.step hs ch⟩, fun h => absurd h hnd', fun h => absurd h hnd', fun h => absurd h hnd', by rw [hw]; obtain ⟨N, t⟩ := tx; exact ⟨nk, t.kb.wk⟩, by rw [hb]; exact (I.h H (List.mem_of_getElem? hH)).b0, fun z hz => by obtain ⟨N, t⟩ := tx; obtain ⟨rv, h1, _⟩ := rd z hz; have := t.kb.rk z.1 (alook_mem.mp ⟨rv, h1⟩); omega, by rw [hb]; exact (I.h H (List.mem_of_getElem? hH)).b1⟩ (.inr fun v hc => ?_) ?_ ?_ I.cel (fun i c hc => ?_) I.ri (fun e he => .inl he)
  · rcases (Claim.me0 I hs hH).mp hc with h | h
    · exact hnd h.1
    · exact absurd h.1.1 (by omega)
  · intro e he hc
    rcases (Claim.me0 I hs hH).mp hc with h | h
    · exact absurd h.1 hnd
    · exact absurd h.1.1 (by omega)
  · intro v hc
    rcases (Claim.me (s' := { s with m := { s.m with σ := σ' } }) I hs hH rfl).mp hc with h | h
    · exact absurd h.1 hnd'
    · exact absurd h.1 (nClm st1)
  · by_cases h0 : c.own = 0
    · exact .inl h0
    · refine .inr (.inr ⟨fun e => ?_, hc⟩)
      rcases I.own i c hc with h | ⟨z, hz, e2, hh⟩
      · exact h0 h
      · obtain ⟨k, hk⟩ := List.getElem?_of_mem hz
        obtain ⟨G, hG, o⟩ := I.s k z hk
        have := o.ow
        have := so.ow
        obtain rfl : k = w := by omega
        rw [hs] at hk
        obtain rfl := Option.some.inj hk
        exact absurd hh (nHeld (by omega) _)
/-- what the law keeps of a read -/
def rdH (H : Hi) (i : Int) (r : Int × Int) : Hi := if r.2 = 0 ∧ aok (alook H.writes i) = false then { H with reads := H.reads ++ [(i, r.1)] } else H
theorem Inv.read (I : Inv cs clk E sl all) (hs : sl[w]? = some s) (hH : all[s.j]? = some H) (so : SOK w cs clk E sl s H) {i : Int} (h0 : 0 ≤ i) (h1 : i < 6) :
    Inv (s.m.read cs i).2.2 clk E (sl.set w { s with m := (s.m.read cs i).2.1 }) (all.set s.j (rdH H i (s.m.read cs i).1)) ∧ ((s.m.read cs i).1.2 = 0 → aok (alook H.writes i) = true → (s.m.read cs i).1.1 = aval (alook H.writes i)) := by
  obtain ⟨N, tx⟩ := so.tx
  have same : ∀ {r : Int × Int}, ¬(r.2 = 0 ∧ aok (alook H.writes i) = false) → Inv cs clk E (sl.set w { s with m := s.m }) (all.set s.j (rdH H i r)) := by
    intro r hr
    have e1 : rdH H i r = H := by unfold rdH; rw [if_neg hr]
    have e2 : ({ s with m := s.m } : Sl) = s := rfl
    rw [e1, e2, set_self hs, set_self hH]
    exact I
  have htx := tx.read I.n i
  unfold TM.read at htx ⊢
  by_cases c0 : openE s.m.st cs.length i ≠ 0
  · rw [if_pos c0]
    exact ⟨same (fun h => c0 h.1), fun h => absurd h c0⟩
  rw [if_neg c0] at htx ⊢
  have hst : s.m.st = 1 := (openE_in (Classical.not_not.mp c0)).1
  by_cases c1 : aok (alook s.m.σ.writes i) = true
  · rw [if_pos c1]
    refine ⟨same (fun h => ?_), fun _ _ => by rw [so.wr]⟩
    rw [so.wr, c1] at h
    exact absurd h.2 (by decide)
  rw [if_neg c1] at htx ⊢
  have hown : aok (alook H.writes i) = false := by rw [so.wr]; simpa using c1
  by_cases c2 : s.m.stale (loadM cs i).1 i = true
  · rw [if_pos c2]
    have e1 : rdH H i (0, 131) = H := by unfold rdH; rw [if_neg (by simp)]
    refine ⟨?_, fun h => absurd (show (131 : Int) = 0 from h) (by decide)⟩
    simp only
    rw [e1, set_self hH]
    exact I.fail hs hH so (.inl hst) (fun c => absurd c.1 (by omega))
  rw [if_neg c2] at htx ⊢
  obtain ⟨c, hc, hl⟩ := load_in I.n h0 h1
  have hs2 : ¬(c.own ≠ 0 ∨ s.m.beg < c.ver ∨ (aok (alook s.m.σ.reads i) = true ∧ aval (alook s.m.σ.reads i) ≠ c.ver)) := by
    rw [hl] at c2
    simpa [TM.stale] using c2
  have hco : c.own = 0 := Classical.not_not.mp fun h => hs2 (.inl h)
  have hcv : c.ver ≤ s.m.beg := by
    have : ¬s.m.beg < c.ver := fun h => hs2 (.inr (.inl h))
    omega
  by_cases c3 : (s.m.σ.read i (loadM cs i).1.ver).1 ≠ 0
  · rw [if_pos c3]
    have e3 : (s.m.σ.read i (loadM cs i).1.ver).2 = s.m.σ := by
      revert c3
      unfold St.read readM
      intro c3
      by_cases q1 : i < 0 ∨ 1024 ≤ i
      · rw [if_pos q1]
      rw [if_neg q1] at c3 ⊢
      by_cases q2 : (loadM cs i).1.ver < 0
      · rw [if_pos q2]
      rw [if_neg q2] at c3 ⊢
      cases hk : alook s.m.σ.reads i with
      | some v =>
        simp only
        by_cases q3 : v = (loadM cs i).1.ver
        · rw [if_pos q3]
        · rw [if_neg q3]
      | none =>
        rw [hk] at c3
        simp only at c3 ⊢
        by_cases q3 : s.m.σ.reads.length = 256
        · rw [if_pos q3]
        · rw [if_neg q3] at c3; exact absurd rfl c3
    rw [e3]
    exact ⟨same (fun h => c3 h.1), fun h => absurd h c3⟩
  · rw [if_neg c3] at htx ⊢
    have e1 : rdH H i ((loadM cs i).1.v, 0) = { H with reads := H.reads ++ [(i, (loadM cs i).1.v)] } := by unfold rdH; rw [if_pos ⟨rfl, hown⟩]
    refine ⟨?_, fun _ h => absurd h (by rw [hown]; decide)⟩
    simp only
    have htx' : TInv 6 { s.m with σ := (s.m.σ.read i c.ver).2 } (N + 2) := by rw [hl] at htx; exact htx
    rw [hl] at c3
    rw [e1, hl]
    refine I.open_ hs hH so hst ⟨_, htx'⟩ rfl rfl so.wr ?_ so.nk so.em
    have hrd : (∀ z v, alook s.m.σ.reads z = some v → alook (s.m.σ.read i c.ver).2.reads z = some v) ∧ alook (s.m.σ.read i c.ver).2.reads i = some c.ver := by
      have c3' : ¬((s.m.σ.read i c.ver).1 ≠ 0) := c3
      revert c3'
      unfold St.read readM
      intro c3'
      by_cases q1 : i < 0 ∨ 1024 ≤ i
      · omega
      rw [if_neg q1] at c3' ⊢
      by_cases q2 : c.ver < 0
      · rw [if_pos q2] at c3'; exact absurd (show (2 : Int) ≠ 0 by decide) c3'
      rw [if_neg q2] at c3' ⊢
      cases hk : alook s.m.σ.reads i with
      | some v =>
        rw [hk] at c3'
        simp only at c3' ⊢
        by_cases q3 : v = c.ver
        · rw [if_pos q3]; exact ⟨fun z v h => h, by show alook s.m.σ.reads i = _; rw [hk, q3]⟩
        · rw [if_neg q3] at c3'; exact absurd (show (131 : Int) ≠ 0 by decide) c3'
      | none =>
        rw [hk] at c3'
        simp only at c3' ⊢
        by_cases q3 : s.m.σ.reads.length = 256
        · rw [if_pos q3] at c3'; exact absurd (show (3 : Int) ≠ 0 by decide) c3'
        · rw [if_neg q3]
          refine ⟨fun z v h => ?_, ?_⟩
          · show alook (aputL s.m.σ.reads i c.ver) z = _
            rw [alook_put]
            split
            · subst_vars; rw [hk] at h; cases h
            · exact h
          · show alook (aputL s.m.σ.reads i c.ver) i = _
            rw [alook_put, if_pos rfl]
    intro z hz
    rcases List.mem_append.mp hz with hz | hz
    · obtain ⟨rv, e, r⟩ := so.rd z hz
      exact ⟨rv, hrd.1 _ _ e, r⟩
    · obtain rfl : z = (i, c.v) := by simpa using hz
      exact ⟨c.ver, hrd.2, I.seen h0 h1 hc hco hcv so.bg.2.2⟩
theorem Inv.write (I : Inv cs clk E sl all) (hs : sl[w]? = some s) (hH : all[s.j]? = some H) (so : SOK w cs clk E sl s H) {i v : Int} :
    Inv cs clk E (sl.set w { s with m := (s.m.write 6 i v).2 }) (all.set s.j (if (s.m.write 6 i v).1 = 0 then { H with writes := aputL H.writes i v } else H)) := by
  obtain ⟨N, tx⟩ := so.tx
  have htx := tx.write (cs := cs) I.n i v
  rw [I.n] at htx
  unfold TM.write at htx ⊢
  by_cases c0 : openE s.m.st 6 i = 0
  · rw [if_pos c0] at htx ⊢
    have hst : s.m.st = 1 := (openE_in c0).1
    simp only at htx ⊢
    by_cases c1 : (s.m.σ.write i v).1 = 0
    · rw [if_pos c1]
      have ew : (s.m.σ.write i v).2.writes = aputL s.m.σ.writes i v := by
        revert c1
        unfold St.write
        intro c1
        split at c1
        · exact absurd (show (2 : Int) = 0 from c1) (by decide)
        · split at c1
          · exact absurd (show (3 : Int) = 0 from c1) (by decide)
          · rw [if_neg ‹_›, if_neg ‹_›]
      refine I.open_ hs hH so hst ⟨_, htx⟩ rfl rfl ?_ ?_ (by rw [ew]; exact so.nk.put i v) (by
        have e1 := so.em.1
        have e2 := so.em.2
        unfold St.write
        repeat' split
        all_goals first | exact ⟨e1, e2⟩ | exact so.em | (exfalso; simp_all))
      · show aputL H.writes i v = _
        rw [so.wr, ew]
      · have : (s.m.σ.write i v).2.reads = s.m.σ.reads := by unfold St.write; repeat' split
                                                             all_goals rfl
        rw [this]; exact so.rd
    · rw [if_neg c1]
      have e3 : (s.m.σ.write i v).2 = s.m.σ := by
        revert c1
        unfold St.write
        intro c1
        split
        · rfl
        · split
          · rfl
          · rw [if_neg ‹_›, if_neg ‹_›] at c1; exact absurd rfl c1
      rw [e3, set_self hH]
      have : ({ s with m := { s.m with σ := s.m.σ } } : Sl) = s := rfl
      rw [this, set_self hs]
      exact I
  · rw [if_neg c0]
    simp only
    rw [if_neg c0, set_self hH]
    have : ({ s with m := s.m } : Sl) = s := rfl
    rw [this, set_self hs]
    exact I
theorem Inv.abort (I : Inv cs clk E sl all) (hs : sl[w]? = some s) (hH : all[s.j]? = some H) (so : SOK w cs clk E sl s H) : Inv (s.m.abort cs).2.2 clk E (sl.set w { s with m := (s.m.abort cs).2.1 }) all := by
  unfold TM.abort
  by_cases c : s.m.over
  · rw [if_pos c]
    have : ({ s with m := s.m } : Sl) = s := rfl
    simp only
    rw [this, set_self hs]
    exact I
  · rw [if_neg c]
    obtain ⟨N, tx⟩ := so.tx
    have hst := tx.st
    have c' : ¬(s.m.st = 3 ∨ s.m.st = 4 ∨ s.m.told = true) := c
    refine I.fail hs hH so (by omega) fun hc e he ev => ?_
    obtain ⟨q, h1, _⟩ := so.pe hc e he ev
    have := so.td hc (by cases h : s.m.told with
      | false => rfl
      | true => exact absurd (.inr (.inr h)) c')
    omega
theorem Inv.anew (I : Inv cs clk E sl all) (hs : sl[w]? = some s) (hH : all[s.j]? = some H) (so : SOK w cs clk E sl s H) (hst : s.m.st ≠ 2) (hown : ∀ i, ¬Held s i) : Inv cs clk E (sl.set w ⟨TM.new ((w : Int) + 1) clk, all.length, 0⟩) (all ++ [⟨clk, 0, [], [], false⟩]) := by
  generalize hs' : (⟨TM.new ((w : Int) + 1) clk, all.length, 0⟩ : Sl) = s'
  have st1 : s'.m.st ≠ 2 := by rw [← hs']; show (1 : Int) ≠ 2; decide
  have ch : Chg clk E s clk E s' := Chg.quiet st1
  have hlt : ∀ {j : Nat} {G : Hi}, all[j]? = some G → (all ++ [(⟨clk, 0, [], [], false⟩ : Hi)])[j]? = some G := fun h => by rw [List.getElem?_append_left (List.getElem?_eq_some_iff.mp h).1]; exact h
  have cl : ∀ j v, Claim (all ++ [⟨clk, 0, [], [], false⟩]) (sl.set w s') j v ↔ Claim all sl j v := by
    intro j v
    unfold Claim
    refine or_congr ⟨?_, ?_⟩ ⟨?_, ?_⟩
    · rintro ⟨G, h1, h2⟩
      by_cases e : j < all.length
      · rw [List.getElem?_append_left e] at h1; exact ⟨G, h1, h2⟩
      · rw [List.getElem?_append_right (by omega)] at h1
        have := List.mem_of_getElem? h1
        obtain rfl : G = _ := by simpa using this
        exact absurd h2.1 Bool.false_ne_true
    · rintro ⟨G, h1, h2⟩; exact ⟨G, hlt h1, h2⟩
    · rintro ⟨z, hz, e, h⟩
      rcases List.mem_or_eq_of_mem_set hz with hz | rfl
      · exact ⟨z, hz, e, h⟩
      · exact absurd h.1 (nClm st1)
    · rintro ⟨z, hz, e, h⟩
      obtain ⟨k, hk⟩ := List.getElem?_of_mem hz
      have hkw : w ≠ k := by rintro rfl; rw [hs] at hk; obtain rfl := Option.some.inj hk; exact nClm hst h.1
      exact ⟨z, List.mem_of_getElem? (i := k) (by rw [get_set_iff hs, if_neg hkw]; exact hk), e, h⟩
  have hjl : ∀ {z : Sl}, z ∈ sl → z.j < all.length := fun hz => by
    obtain ⟨k, hk⟩ := List.getElem?_of_mem hz
    obtain ⟨G, hG, _⟩ := I.s k _ hk
    exact (List.getElem?_eq_some_iff.mp hG).1
  refine ⟨I.n, by rw [List.length_set]; exact I.l, I.c0, I.cel, ?_, I.ri, ?_, ?_, ?_, ?_, ?_, ?_⟩
  · intro i c hc
    rcases I.own i c hc with h | ⟨z, hz, e, hh⟩
    · exact .inl h
    · obtain ⟨k, hk⟩ := List.getElem?_of_mem hz
      have hkw : w ≠ k := by rintro rfl; rw [hs] at hk; obtain rfl := Option.some.inj hk; exact hown _ hh
      exact .inr ⟨z, List.mem_of_getElem? (i := k) (by rw [get_set_iff hs, if_neg hkw]; exact hk), e, hh⟩
  · intro e he
    obtain ⟨a, b, c, d, j, G, hG, hx, hc⟩ := I.ev e he
    exact ⟨a, b, c, d, j, G, hlt hG, hx, (cl _ _).mpr hc⟩
  · exact fun j j' v h1 h2 => I.un j j' v ((cl _ _).mp h1) ((cl _ _).mp h2)
  · exact fun j v h1 => I.cm j v ((cl _ _).mp h1)
  · intro G hG
    rcases List.mem_append.mp hG with hG | hG
    · exact (I.h G hG).step hs ch
    · obtain rfl : G = _ := by simpa using hG
      exact ⟨fun z hz => (by simp at hz), fun h => absurd h Bool.false_ne_true, fun h => absurd h Bool.false_ne_true, fun h => absurd h Bool.false_ne_true, ⟨(by simp [Nk]), fun i h => (by simp at h)⟩, I.c0, fun z hz => (by simp at hz), Int.le_refl _⟩
  · intro k z hz
    rw [get_set_iff hs] at hz
    by_cases e : w = k
    · subst e
      rw [if_pos rfl] at hz
      obtain rfl := Option.some.inj hz
      refine ⟨⟨clk, 0, [], [], false⟩, by rw [← hs']; simp, ?_⟩
      subst hs'
      refine ⟨rfl, ⟨0, TInv.new (by omega)⟩, ⟨rfl, I.c0, Int.le_refl _⟩, rfl, ⟨fun h => absurd h Bool.false_ne_true, fun h => (by have : (1 : Int) = 3 := h; omega)⟩, fun h => (by have : (1 : Int) = 3 := h; omega), fun z hz => (by simp at hz), fun h => absurd h st1, fun i h => absurd h (nHeld st1 i), fun h => absurd h (nClm st1), fun h => absurd h (nClm st1), fun h => absurd h (nClm st1), fun h => absurd h (nClm st1), fun h => absurd h (nClm st1), (by simp [Nk, TM.new]), rfl, rfl⟩
    · rw [if_neg e] at hz
      obtain ⟨G, hG, o⟩ := I.s k z hz
      exact ⟨G, hlt hG, o.step (Ne.symm e) hs so.ow ch (CsFr.refl _ _) fun _ h => absurd h (nClm hst)⟩
  · intro k k' z z' hz hz' e
    rw [get_set_iff hs] at hz hz'
    by_cases e1 : w = k
    · by_cases e2 : w = k'
      · omega
      · rw [if_pos e1] at hz; rw [if_neg e2] at hz'
        obtain rfl := Option.some.inj hz
        have := hjl (List.mem_of_getElem? hz')
        have h3 : s'.j = all.length := by rw [← hs']
        omega
    · by_cases e2 : w = k'
      · rw [if_neg e1] at hz; rw [if_pos e2] at hz'
        obtain rfl := Option.some.inj hz'
        have := hjl (List.mem_of_getElem? hz)
        have h3 : s'.j = all.length := by rw [← hs']
        omega
      · rw [if_neg e1] at hz; rw [if_neg e2] at hz'
        exact I.jj k k' z z' hz hz' e
end
end Ser
end Go.Lg.Try

namespace Go.Lg.Try
set_option linter.unusedVariables false
set_option linter.unusedSimpArgs false
open Go Go.Proofs
namespace Ser
theorem plan_get {W R : List Int} (hW : W ≠ []) (k : Nat) : (planM W R)[k]? = if k < W.length then (W[k]?).map Stp.lock else if k = W.length then some .adv else if k < W.length + 1 + R.length then (R[k - W.length - 1]?).map Stp.chk else if k < W.length + 1 + R.length + W.length then some (Stp.pub (W.getD (k - W.length - 1 - R.length) 0) (k - W.length - 1 - R.length)) else none := by
  unfold planM
  rw [if_neg hW]
  by_cases c1 : k < W.length
  · rw [if_pos c1, List.getElem?_append_left (by simp; omega), List.getElem?_append_left (by simp; omega), List.getElem?_append_left (by simpa using c1), List.getElem?_map]
  rw [if_neg c1]
  by_cases c2 : k = W.length
  · rw [if_pos c2, List.getElem?_append_left (by simp; omega), List.getElem?_append_left (by simp; omega), List.getElem?_append_right (by simp; omega)]
    simp [c2]
  rw [if_neg c2]
  by_cases c3 : k < W.length + 1 + R.length
  · rw [if_pos c3, List.getElem?_append_left (by simp; omega), List.getElem?_append_right (by simp; omega)]
    simp only [List.length_append, List.length_map, List.length_singleton, List.getElem?_map, show k - (W.length + 1) = k - W.length - 1 by omega]
  rw [if_neg c3, List.getElem?_append_right (by simp; omega)]
  simp only [List.length_append, List.length_map, List.length_singleton, List.getElem?_map, show k - (W.length + 1 + R.length) = k - W.length - 1 - R.length by omega]
  by_cases c4 : k < W.length + 1 + R.length + W.length
  · rw [if_pos c4, List.getElem?_range (by omega)]; rfl
  · rw [if_neg c4, List.getElem?_eq_none (by simp; omega)]; rfl
theorem plan_len {W R : List Int} (hW : W ≠ []) : (planM W R).length = W.length + 1 + R.length + W.length := by
  unfold planM
  rw [if_neg hW]
  simp
  omega
theorem lastE_le {E : List Pb} {i n : Int} (h0 : 0 ≤ n) : (lastE E i n).1 ≤ n := by
  have key : ∀ (E : List Pb) (a : Int × Int), a.1 ≤ n → (E.foldl (fun a e => if e.i = i ∧ e.v ≤ n then (e.v, e.x) else a) a).1 ≤ n := by
    intro E
    induction E with
    | nil => intro a h; exact h
    | cons e E ih =>
      intro a h
      rw [List.foldl_cons]
      apply ih
      split
      · rename_i c; exact c.2
      · exact h
  exact key E (0, 0) h0
section
variable {cs cs' : List Cel} {clk clk' : Int} {E E' : List Pb} {sl : List Sl} {all : List Hi} {w : Nat} {s s' : Sl} {H H' : Hi}
theorem W_len (s : Sl) : s.W.length = s.m.σ.writes.length := by show (sortI _).length = _; rw [sortI_len, List.length_map]
theorem W_nd (so : SOK w cs clk E sl s H) : s.W.Nodup := (List.mergeSort_perm _ _).nodup_iff.mpr so.nk
theorem W_in {s : Sl} {q : Nat} {i : Int} (h : s.W[q]? = some i) : ∃ v, alook s.m.σ.writes i = some v := alook_mem.mpr (sortI_mem.mp (List.mem_of_getElem? h))
theorem W_rng (so : SOK w cs clk E sl s H) {q : Nat} {i : Int} (h : s.W[q]? = some i) : 0 ≤ i ∧ i < 6 := by
  obtain ⟨N, tx⟩ := so.tx
  have := tx.kb.wk i (sortI_mem.mp (List.mem_of_getElem? h))
  omega
theorem R_rng (so : SOK w cs clk E sl s H) {q : Nat} {i : Int} (h : s.R[q]? = some i) : 0 ≤ i ∧ i < 6 := by
  obtain ⟨N, tx⟩ := so.tx
  have := tx.kb.rk i (sortI_mem.mp (List.mem_of_getElem? h))
  omega
theorem W_inj (so : SOK w cs clk E sl s H) {q q' : Nat} {i : Int} (h : s.W[q]? = some i) (h' : s.W[q']? = some i) : q = q' :=
  (List.getElem?_inj (List.getElem?_eq_some_iff.mp h).1 (W_nd so)).mp (h.trans h'.symm)
theorem W_nil (so : SOK w cs clk E sl s H) : s.W = [] ↔ H.writes = [] := by
  rw [so.wr, ← List.length_eq_zero_iff, W_len, List.length_eq_zero_iff]
/-- whose cell is whose -/
theorem Inv.mine (I : Inv cs clk E sl all) (hs : sl[w]? = some s) (so : SOK w cs clk E sl s H) {i : Nat} {c : Cel} (hc : cs[i]? = some c) (ho : c.own = s.m.owner) : Held s i := by
  rcases I.own i c hc with h | ⟨z, hz, e, hh⟩
  · have := so.ow; omega
  · obtain ⟨k, hk⟩ := List.getElem?_of_mem hz
    obtain ⟨G, hG, o⟩ := I.s k z hk
    have := o.ow
    have := so.ow
    obtain rfl : k = w := by omega
    rw [hs] at hk
    obtain rfl := Option.some.inj hk
    exact hh
/-- the end begins -/
theorem Inv.plan (I : Inv cs clk E sl all) (hs : sl[w]? = some s) (hH : all[s.j]? = some H) (so : SOK w cs clk E sl s H) (hst : s.m.st = 1) : Inv cs clk E (sl.set w { s with m := s.m.plan, k := 0 }) all ∧ SOK w cs clk E (sl.set w { s with m := s.m.plan, k := 0 }) { s with m := s.m.plan, k := 0 } H := by
  have hnd : ¬H.done = true := fun h => by have := so.dn.mp h; omega
  generalize hs' : ({ s with m := s.m.plan, k := 0 } : Sl) = s'
  have hst' : s'.m.st = 2 := by rw [← hs']; rfl
  have hk : s'.k = 0 := by rw [← hs']
  have hj : s'.j = s.j := by rw [← hs']
  have hσ : s'.m.σ = s.m.σ := by rw [← hs']; rfl
  have hnc : ¬Clm s' := fun c => by have := c.2.2; omega
  have hnh : ∀ i, ¬Held s' i := fun i h => by obtain ⟨_, _, q, _, h2, _⟩ := h; omega
  have hnc0 : ¬Clm s := nClm (by omega)
  have ch : Chg clk E s clk E s' := ⟨Int.le_refl _, .inl rfl, fun i hp => absurd hp.1 hnc⟩
  have s1 : SOK w cs clk E (sl.set w s') s' H := by
    refine ⟨by rw [← hs']; exact so.ow, by obtain ⟨N, t⟩ := so.tx; exact ⟨N, by rw [← hs']; exact t.plan⟩, by rw [← hs']; exact so.bg, by rw [hσ]; exact so.wr, ⟨fun h => absurd h hnd, fun h => by omega⟩, fun h => by omega, fun z hz => ?_, fun _ hW => ?_, fun i h => absurd h (hnh i), fun h => absurd h hnc, fun h => absurd h hnc, fun h => absurd h hnc, fun h => absurd h hnc, fun h => absurd h hnc, by rw [hσ]; exact so.nk, by rw [hσ]; exact so.em⟩
    · obtain ⟨rv, h1, r⟩ := so.rd z hz
      rw [hσ, show s'.m.beg = s.m.beg by rw [← hs']; rfl]
      exact ⟨rv, h1, r.step hs ch⟩
    · rw [hk]
      refine ⟨by rw [← hs']; rfl, ?_⟩
      rw [plan_len hW]; omega
  have := I.upd (H' := H) (s' := s') (cs' := cs) hs hH so ch (CsFr.refl _ _) hj s1 ((I.h H (List.mem_of_getElem? hH)).step hs ch) (.inl rfl) (fun e he hc => by
      rcases (Claim.me0 I hs hH).mp hc with h | h
      · exact absurd h.1 hnd
      · exact absurd h.1 hnc0) (fun v hc => by
      rcases (Claim.me (s' := s') I hs hH hj).mp hc with h | h
      · exact absurd h.1 hnd
      · exact absurd h.1 hnc) I.cel (fun i c hc => by
      by_cases h0 : c.own = 0
      · exact .inl h0
      · refine .inr (.inr ⟨fun e => ?_, hc⟩)
        exact absurd (I.mine hs so hc e) (nHeld (by omega) _)) I.ri (fun e he => .inl he)
  rw [set_self hH] at this
  exact ⟨this, s1⟩
/-- one more cell is locked -/
theorem Inv.lock (I : Inv cs clk E sl all) (hs : sl[w]? = some s) (hH : all[s.j]? = some H) (so : SOK w cs clk E sl s H) (hst : s.m.st = 2) (hW : s.W ≠ []) (hk : s.k < s.W.length) {i : Int} (hi : s.W[s.k]? = some i) {c : Cel} (hc : cs[i.toNat]? = some c) (hco : c.own = 0 ∨ c.own = s.m.owner) :
    Inv (cs.set i.toNat { c with own := s.m.owner }) clk E (sl.set w { s with m := { s.m with left := (planM s.W s.R).drop (s.k + 1) }, k := s.k + 1 }) all := by
  have hnd : ¬H.done = true := fun h => by have := so.dn.mp h; omega
  obtain ⟨i0, i6⟩ := W_rng so hi
  have hil : i.toNat < cs.length := (List.getElem?_eq_some_iff.mp hc).1
  generalize hs' : ({ s with m := { s.m with left := (planM s.W s.R).drop (s.k + 1) }, k := s.k + 1 } : Sl) = s'
  have hst' : s'.m.st = 2 := by rw [← hs']; exact hst
  have hk' : s'.k = s.k + 1 := by rw [← hs']
  have hj : s'.j = s.j := by rw [← hs']
  have hσ : s'.m.σ = s.m.σ := by rw [← hs']
  have hW' : s'.W = s.W := by show sortI _ = _; rw [hσ]
  have hR' : s'.R = s.R := by show sortI _ = _; rw [hσ]
  have how : s'.m.owner = s.m.owner := by rw [← hs']
  have hnc : ¬Clm s' := fun c => by have := c.2.2; rw [hW'] at this; omega
  have hnc0 : ¬Clm s := fun c => by have := c.2.2; omega
  have ch : Chg clk E s clk E s' := ⟨Int.le_refl _, .inl rfl, fun i hp => absurd hp.1 hnc⟩
  have pk0 : s.pk = 0 := by unfold Sl.pk; omega
  have pk1 : s'.pk = 0 := by unfold Sl.pk; rw [hW', hR']; omega
  have hget : ∀ (j : Nat) d, (cs.set i.toNat { c with own := s.m.owner })[j]? = some d → (i.toNat = j ∧ d = { c with own := s.m.owner }) ∨ (i.toNat ≠ j ∧ cs[j]? = some d) := by
    intro j d h
    rw [get_set_iff hc] at h
    split at h
    · exact .inl ⟨‹_›, (Option.some.inj h).symm⟩
    · exact .inr ⟨‹_›, h⟩
  have s1 : SOK w (cs.set i.toNat { c with own := s.m.owner }) clk E (sl.set w s') s' H := by
    refine ⟨by rw [how]; exact so.ow, ?_, by rw [← hs']; exact so.bg, by rw [hσ]; exact so.wr, ⟨fun h => absurd h hnd, fun h => by omega⟩, fun h => by omega, fun z hz => ?_, fun _ _ => ?_, fun j h => ?_, fun h => absurd h hnc, fun h => absurd h hnc, fun h => absurd h hnc, fun h => absurd h hnc, fun h => absurd h hnc, by rw [hσ]; exact so.nk, by rw [hσ]; exact so.em⟩
    · obtain ⟨N, t⟩ := so.tx
      refine ⟨N, ?_⟩
      rw [← hs']
      refine ⟨t.ow, t.st, fun _ => ⟨s.k + 1, rfl, ?_⟩, t.wf, t.mo, t.kb⟩
      show (planM s.W s.R).drop (s.k + 1) ≠ []
      intro h
      have := congrArg List.length h
      rw [List.length_drop, plan_len hW] at this
      simp at this
      omega
    · obtain ⟨rv, h1, r⟩ := so.rd z hz
      rw [hσ, show s'.m.beg = s.m.beg by rw [← hs']]
      exact ⟨rv, h1, r.step hs ch⟩
    · rw [hW', hR', hk']
      refine ⟨by rw [← hs'], ?_⟩
      rw [plan_len hW]; omega
    · obtain ⟨_, _, q, h1, h2, h3⟩ := h
      rw [hW'] at h3
      obtain ⟨j0, j6⟩ := W_rng so h3
      refine ⟨j0, j6, ?_⟩
      by_cases e : i.toNat = j.toNat
      · exact ⟨{ c with own := s.m.owner }, by rw [get_set_iff hc, if_pos e], by rw [how], fun h => absurd h hnc⟩
      · have hq : q < s.k := by
          rw [hk'] at h2
          rcases Nat.lt_or_ge q s.k with h | h
          · exact h
          · obtain rfl : q = s.k := by omega
            rw [hi] at h3
            obtain rfl := Option.some.inj h3
            exact absurd rfl e
        obtain ⟨_, _, d, hd, h4, _⟩ := so.he j ⟨hst, hW, q, by omega, hq, h3⟩
        exact ⟨d, by rw [get_set_iff hc, if_neg e]; exact hd, by rw [how]; exact h4, fun h => absurd h hnc⟩
  have := I.upd (H' := H) (s' := s') (cs' := cs.set i.toNat { c with own := s.m.owner }) hs hH so ch ⟨by rw [List.length_set], fun j d hd h0 h1 => by
      rw [get_set_iff hc]
      split
      · subst_vars
        rw [hc] at hd
        obtain rfl := Option.some.inj hd
        rcases hco with h | h
        · exact absurd h h0
        · exact absurd h h1
      · exact hd⟩ hj s1 ((I.h H (List.mem_of_getElem? hH)).step hs ch) (.inl rfl) (fun e he hc => by
      rcases (Claim.me0 I hs hH).mp hc with h | h
      · exact absurd h.1 hnd
      · exact absurd h.1 hnc0) (fun v hc => by
      rcases (Claim.me (s' := s') I hs hH hj).mp hc with h | h
      · exact absurd h.1 hnd
      · exact absurd h.1 hnc) (fun j d hd => by
      rcases hget j d hd with ⟨e, rfl⟩ | ⟨_, h⟩
      · rw [← e]; exact I.cel i.toNat c hc
      · exact I.cel _ _ h) (fun j d hd => by
      rcases hget j d hd with ⟨e, rfl⟩ | ⟨_, h⟩
      · refine .inr (.inl ⟨rfl, hst', by rw [hW']; exact hW, s.k, by omega, by omega, ?_⟩)
        rw [hW', hi, ← e]
        congr 1; omega
      · by_cases eo : d.own = s.m.owner
        · obtain ⟨_, _, q, h1, h2, h3⟩ := I.mine hs so h eo
          exact .inr (.inl ⟨eo, hst', by rw [hW']; exact hW, q, by omega, by omega, by rw [hW']; exact h3⟩)
        · exact .inr (.inr ⟨eo, h⟩)) I.ri (fun e he => .inl he)
  rwa [set_self hH] at this
/-- a version is taken -/
theorem Inv.adv (I : Inv cs clk E sl all) (hs : sl[w]? = some s) (hH : all[s.j]? = some H) (so : SOK w cs clk E sl s H) (hst : s.m.st = 2) (hW : s.W ≠ []) (hk : s.k = s.W.length) :
    Inv cs (clk + 1) E (sl.set w { s with m := { s.m with ver := clk + 1, left := (planM s.W s.R).drop (s.k + 1) }, k := s.k + 1 }) all := by
  have hnd : ¬H.done = true := fun h => by have := so.dn.mp h; omega
  have hc0 := I.c0
  generalize hs' : ({ s with m := { s.m with ver := clk + 1, left := (planM s.W s.R).drop (s.k + 1) }, k := s.k + 1 } : Sl) = s'
  have hst' : s'.m.st = 2 := by rw [← hs']; exact hst
  have hk' : s'.k = s.k + 1 := by rw [← hs']
  have hv' : s'.m.ver = clk + 1 := by rw [← hs']
  have hj : s'.j = s.j := by rw [← hs']
  have hσ : s'.m.σ = s.m.σ := by rw [← hs']
  have hW' : s'.W = s.W := by show sortI _ = _; rw [hσ]
  have hR' : s'.R = s.R := by show sortI _ = _; rw [hσ]
  have how : s'.m.owner = s.m.owner := by rw [← hs']
  have hwl : 0 < s.W.length := List.length_pos_iff.mpr hW
  have hnc0 : ¬Clm s := fun c => by have := c.2.2; omega
  have pk0 : s.pk = 0 := by unfold Sl.pk; omega
  have pk1 : s'.pk = 0 := by unfold Sl.pk; rw [hW', hR']; omega
  have ch : Chg clk E s (clk + 1) E s' := ⟨by omega, .inl rfl, fun i hp => .inr (by omega)⟩
  have hev : ∀ e ∈ E, e.v ≤ clk := fun e he => (I.ev e he).2.1
  have hl : ∀ i, lastE E i (clk + 1) = lastE E i clk := fun i => lastE_same (fun e he _ => .inl (hev e he)) (by omega)
  have s1 : SOK w cs (clk + 1) E (sl.set w s') s' H := by
    refine ⟨by rw [how]; exact so.ow, ?_, ⟨by rw [← hs']; exact so.bg.1, by rw [← hs']; exact so.bg.2.1, by rw [← hs']; have := so.bg.2.2; show s.m.beg ≤ clk + 1; omega⟩, by rw [hσ]; exact so.wr, ⟨fun h => absurd h hnd, fun h => by omega⟩, fun h => by omega, fun z hz => ?_, fun _ _ => ?_, fun j h => ?_, fun _ => ⟨by omega, by omega, by rw [hv', show s'.m.beg = s.m.beg by rw [← hs']]; have := so.bg.2.2; omega⟩, fun _ q i h1 h2 => ?_, fun _ q i h1 h2 => by omega, fun _ e he ev => ?_, fun _ _ => pk1, by rw [hσ]; exact so.nk, by rw [hσ]; exact so.em⟩
    · obtain ⟨N, t⟩ := so.tx
      refine ⟨N, ?_⟩
      rw [← hs']
      refine ⟨t.ow, t.st, fun _ => ⟨s.k + 1, rfl, ?_⟩, t.wf, t.mo, t.kb⟩
      show (planM s.W s.R).drop (s.k + 1) ≠ []
      intro h
      have := congrArg List.length h
      rw [List.length_drop, plan_len hW] at this
      simp at this
      omega
    · obtain ⟨rv, h1, r⟩ := so.rd z hz
      rw [hσ, show s'.m.beg = s.m.beg by rw [← hs']]
      exact ⟨rv, h1, r.step hs ch⟩
    · rw [hW', hR', hk']
      refine ⟨by rw [← hs'], ?_⟩
      rw [plan_len hW]; omega
    · obtain ⟨_, _, q, h1, h2, h3⟩ := h
      rw [hW'] at h3
      have := (List.getElem?_eq_some_iff.mp h3).1
      obtain ⟨j0, j6, d, hd, h4, _⟩ := so.he j ⟨hst, hW, q, by omega, by omega, h3⟩
      refine ⟨j0, j6, d, hd, by rw [how]; exact h4, fun _ => ?_⟩
      have := (I.cel _ _ hd).2.2.2
      omega
    · rw [hW'] at h2; omega
    · have := hev e he; omega
  have := I.upd (H' := H) (s' := s') (cs' := cs) hs hH so ch (CsFr.refl _ _) hj s1 ((I.h H (List.mem_of_getElem? hH)).step hs ch) (.inl rfl) (fun e he hc => by
      rcases (Claim.me0 I hs hH).mp hc with h | h
      · exact absurd h.1 hnd
      · exact absurd h.1 hnc0) (fun v hc => by
      rcases (Claim.me (s' := s') I hs hH hj).mp hc with h | h
      · exact absurd h.1 hnd
      · exact .inr (by omega)) (fun j d hd => by
      obtain ⟨a, b, c, e⟩ := I.cel j d hd
      exact ⟨by rw [hl]; exact a, b, c, by omega⟩) (fun j d hd => by
      by_cases eo : d.own = s.m.owner
      · obtain ⟨_, _, q, h1, h2, h3⟩ := I.mine hs so hd eo
        exact .inr (.inl ⟨eo, hst', by rw [hW']; exact hW, q, by omega, by omega, by rw [hW']; exact h3⟩)
      · exact .inr (.inr ⟨eo, hd⟩)) I.ri (fun e he => .inl he)
  rwa [set_self hH] at this
/-- a cell that was read is as it was -/
theorem Inv.chk (I : Inv cs clk E sl all) (hs : sl[w]? = some s) (hH : all[s.j]? = some H) (so : SOK w cs clk E sl s H) (hst : s.m.st = 2) (hW : s.W ≠ []) (hk : s.W.length < s.k) (hk2 : s.k < s.W.length + 1 + s.R.length) {i : Int} (hi : s.R[s.k - s.W.length - 1]? = some i) {c : Cel} (hc : cs[i.toNat]? = some c) (hco : c.own = 0 ∨ c.own = s.m.owner) (hcv : c.ver = aval (alook s.m.σ.reads i)) :
    Inv cs clk E (sl.set w { s with m := { s.m with left := (planM s.W s.R).drop (s.k + 1) }, k := s.k + 1 }) all := by
  have hnd : ¬H.done = true := fun h => by have := so.dn.mp h; omega
  have hcl : Clm s := ⟨hst, hW, hk⟩
  obtain ⟨i0, i6⟩ := R_rng so hi
  generalize hs' : ({ s with m := { s.m with left := (planM s.W s.R).drop (s.k + 1) }, k := s.k + 1 } : Sl) = s'
  have hst' : s'.m.st = 2 := by rw [← hs']; exact hst
  have hk' : s'.k = s.k + 1 := by rw [← hs']
  have hv' : s'.m.ver = s.m.ver := by rw [← hs']
  have hj : s'.j = s.j := by rw [← hs']
  have hσ : s'.m.σ = s.m.σ := by rw [← hs']
  have hW' : s'.W = s.W := by show sortI _ = _; rw [hσ]
  have hR' : s'.R = s.R := by show sortI _ = _; rw [hσ]
  have how : s'.m.owner = s.m.owner := by rw [← hs']
  have hwl : 0 < s.W.length := List.length_pos_iff.mpr hW
  have pk0 : s.pk = 0 := by unfold Sl.pk; omega
  have pk1 : s'.pk = 0 := by unfold Sl.pk; rw [hW', hR']; omega
  have ch : Chg clk E s clk E s' := ⟨Int.le_refl _, .inl rfl, fun j hp => .inl ⟨⟨hcl, by obtain ⟨_, q, h1, h2⟩ := hp; rw [hW'] at h2; exact ⟨q, by omega, h2⟩⟩, hv'⟩⟩
  obtain ⟨v1, v2, v3⟩ := so.cl hcl
  have s1 : SOK w cs clk E (sl.set w s') s' H := by
    refine ⟨by rw [how]; exact so.ow, ?_, by rw [← hs']; exact so.bg, by rw [hσ]; exact so.wr, ⟨fun h => absurd h hnd, fun h => by omega⟩, fun h => by omega, fun z hz => ?_, fun _ _ => ?_, fun j h => ?_, fun _ => by rw [hv', show s'.m.beg = s.m.beg by rw [← hs']]; exact so.cl hcl, fun _ q j h1 h2 z hz ez => ?_, fun _ q i h1 h2 => by omega, fun _ e he ev => ?_, fun _ _ => pk1, by rw [hσ]; exact so.nk, by rw [hσ]; exact so.em⟩
    · obtain ⟨N, t⟩ := so.tx
      refine ⟨N, ?_⟩
      rw [← hs']
      refine ⟨t.ow, t.st, fun _ => ⟨s.k + 1, rfl, ?_⟩, t.wf, t.mo, t.kb⟩
      show (planM s.W s.R).drop (s.k + 1) ≠ []
      intro h
      have := congrArg List.length h
      rw [List.length_drop, plan_len hW] at this
      simp at this
      omega
    · obtain ⟨rv, h1, r⟩ := so.rd z hz
      rw [hσ, show s'.m.beg = s.m.beg by rw [← hs']]
      exact ⟨rv, h1, r.step hs ch⟩
    · rw [hW', hR', hk']
      refine ⟨by rw [← hs'], ?_⟩
      rw [plan_len hW]; omega
    · obtain ⟨_, _, q, h1, h2, h3⟩ := h
      rw [hW'] at h3
      have := (List.getElem?_eq_some_iff.mp h3).1
      obtain ⟨j0, j6, d, hd, h4, h5⟩ := so.he j ⟨hst, hW, q, by omega, by omega, h3⟩
      exact ⟨j0, j6, d, hd, by rw [how]; exact h4, fun _ => by rw [hv']; exact h5 hcl⟩
    · rw [hR'] at h1
      rw [hW'] at h2
      rw [hv']
      by_cases eq : q = s.k - s.W.length - 1
      · rw [eq, hi] at h1
        obtain rfl := Option.some.inj h1
        obtain ⟨rv, e1, r⟩ := so.rd z hz
        rw [ez] at e1 r
        have erv : c.ver = rv := by rw [hcv, e1]; rfl
        obtain ⟨a, b, _, _⟩ := I.cel i.toNat c hc
        have ei : ((i.toNat : Nat) : Int) = i := by omega
        rw [ei] at a b
        have hle : rv ≤ s.m.beg := by
          have := lastE_le (E := E) (i := i) so.bg.2.1
          rw [r.e] at this
          exact this
        have ea : lastE E i clk = lastE E i s.m.beg := lastE_same (fun e he hi => .inl (by have := b e he hi; omega)) so.bg.2.2
        have eb : lastE E i clk = lastE E i (s.m.ver - 1) := lastE_same (fun e he hi => .inl (by have := b e he hi; omega)) (by omega)
        refine ⟨rv, ⟨by rw [← eb, ea, r.e], by omega, fun y hy hp => ?_⟩⟩
        rcases List.mem_or_eq_of_mem_set hy with hy | rfl
        · obtain ⟨k, hk⟩ := List.getElem?_of_mem hy
          obtain ⟨G, hG, o⟩ := I.s k y hk
          obtain ⟨_, _, c', hc', h2, _⟩ := o.he i hp.held
          rw [hc] at hc'
          obtain rfl := Option.some.inj hc'
          have := o.ow
          have := so.ow
          have hkw : k = w := by omega
          rw [hkw, hs] at hk
          obtain rfl := Option.some.inj hk
          omega
        · omega
      · obtain ⟨rv, r⟩ := so.ck hcl q j h1 (by omega) z hz ez
        exact ⟨rv, r.step hs ch⟩
    · obtain ⟨q, h1, _⟩ := so.pe hcl e he (by omega)
      omega
  have := I.upd (H' := H) (s' := s') (cs' := cs) hs hH so ch (CsFr.refl _ _) hj s1 ((I.h H (List.mem_of_getElem? hH)).step hs ch) (.inl rfl) (fun e he hc => (Claim.me (s' := s') I hs hH hj).mpr (by
      rcases (Claim.me0 I hs hH).mp hc with h | h
      · exact .inl h
      · exact .inr ⟨⟨hst', by rw [hW']; exact hW, by rw [hW']; omega⟩, by rw [hv']; exact h.2⟩)) (fun v hc => by
      rcases (Claim.me (s' := s') I hs hH hj).mp hc with h | h
      · exact absurd h.1 hnd
      · exact .inl ((Claim.me0 I hs hH).mpr (.inr ⟨hcl, by rw [← hv']; exact h.2⟩))) I.cel (fun j d hd => by
      by_cases eo : d.own = s.m.owner
      · obtain ⟨_, _, q, h1, h2, h3⟩ := I.mine hs so hd eo
        exact .inr (.inl ⟨eo, hst', by rw [hW']; exact hW, q, by omega, by omega, by rw [hW']; exact h3⟩)
      · exact .inr (.inr ⟨eo, hd⟩)) I.ri (fun e he => .inl he)
  rwa [set_self hH] at this
/-- a cell is published; behind the last one it is done -/
theorem Inv.pub (I : Inv cs clk E sl all) (hs : sl[w]? = some s) (hH : all[s.j]? = some H) (so : SOK w cs clk E sl s H) (hst : s.m.st = 2) (hW : s.W ≠ []) (hk : s.W.length + 1 + s.R.length ≤ s.k) {i : Int} (hi : s.W[s.pk]? = some i) {c : Cel} (hc : cs[i.toNat]? = some c) (st' : Int) (hst2 : st' = if s.pk + 1 = s.W.length then 3 else 2) :
    Inv (cs.set i.toNat ⟨aval (alook s.m.σ.writes i), s.m.ver, 0⟩) clk (E ++ [⟨s.m.ver, i, aval (alook s.m.σ.writes i)⟩]) (sl.set w { s with m := { s.m with told := true, st := st', left := (planM s.W s.R).drop (s.k + 1) }, k := s.k + 1 }) (all.set s.j (if st' = 3 then { H with done := true, ver := s.m.ver } else H)) := by
  have hnd : ¬H.done = true := fun h => by have := so.dn.mp h; omega
  have hwl : 0 < s.W.length := List.length_pos_iff.mpr hW
  have hcl : Clm s := ⟨hst, hW, by omega⟩
  obtain ⟨i0, i6⟩ := W_rng so hi
  have hpl := (List.getElem?_eq_some_iff.mp hi).1
  have hheld : Held s i := ⟨hst, hW, s.pk, Nat.le_refl _, by omega, hi⟩
  obtain ⟨_, _, c', hc', hown, hlt⟩ := so.he i hheld
  rw [hc] at hc'
  obtain rfl := Option.some.inj hc'
  have hcv := hlt hcl
  obtain ⟨v1, v2, v3⟩ := so.cl hcl
  obtain ⟨x, hx⟩ := W_in hi
  have hxv : aval (alook s.m.σ.writes i) = x := by rw [hx]; rfl
  rw [hxv]
  generalize hs' : ({ s with m := { s.m with told := true, st := st', left := (planM s.W s.R).drop (s.k + 1) }, k := s.k + 1 } : Sl) = s'
  generalize hH' : (if st' = 3 then { H with done := true, ver := s.m.ver } else H) = H'
  have e1 : s'.m.st = st' := by rw [← hs']
  have hk' : s'.k = s.k + 1 := by rw [← hs']
  have hv' : s'.m.ver = s.m.ver := by rw [← hs']
  have hb' : s'.m.beg = s.m.beg := by rw [← hs']
  have hj : s'.j = s.j := by rw [← hs']
  have hσ : s'.m.σ = s.m.σ := by rw [← hs']
  have hW' : s'.W = s.W := by show sortI _ = _; rw [hσ]
  have hR' : s'.R = s.R := by show sortI _ = _; rw [hσ]
  have how : s'.m.owner = s.m.owner := by rw [← hs']
  have hpk : s'.pk = s.pk + 1 := by unfold Sl.pk; rw [hW', hR']; omega
  have hkp : s.k = s.W.length + 1 + s.R.length + s.pk := by unfold Sl.pk; omega
  have hHr : H'.reads = H.reads := by rw [← hH']; split <;> rfl
  have hHw : H'.writes = H.writes := by rw [← hH']; split <;> rfl
  have hHb : H'.beg = H.beg := by rw [← hH']; split <;> rfl
  have hst3 : st' = 3 ∨ st' = 2 := by rw [hst2]; split <;> simp
  have hHd : H'.done = true ↔ st' = 3 := by
    rw [← hH']
    split
    · rename_i e; simp [e]
    · rename_i e
      exact ⟨fun h => absurd h hnd, fun h => absurd h e⟩
  have hHv : st' = 3 → H'.ver = s.m.ver := fun e => by rw [← hH', if_pos e]
  have last : st' = 3 → s.pk + 1 = s.W.length := fun e => by
    rw [hst2] at e
    split at e
    · assumption
    · omega
  have mid : st' = 2 → s.pk + 1 < s.W.length := fun e => by
    rw [hst2] at e
    split at e
    · omega
    · omega
  have hcl' : Clm s' → st' = 2 := fun h => by rw [← e1]; exact h.1
  have ch : Chg clk E s clk (E ++ [⟨s.m.ver, i, x⟩]) s' := ⟨Int.le_refl _, .inr ⟨_, rfl, ⟨hcl, s.pk, Nat.le_refl _, hi⟩, rfl⟩, fun j hp => .inl ⟨⟨hcl, by
    obtain ⟨_, q, h1, h2⟩ := hp
    rw [hW'] at h2
    exact ⟨q, by omega, h2⟩⟩, hv'⟩⟩
  have hget : ∀ (j : Nat) d, (cs.set i.toNat (⟨x, s.m.ver, 0⟩ : Cel))[j]? = some d → (i.toNat = j ∧ d = ⟨x, s.m.ver, 0⟩) ∨ (i.toNat ≠ j ∧ cs[j]? = some d) := by
    intro j d h
    rw [get_set_iff hc] at h
    split at h
    · exact .inl ⟨‹_›, (Option.some.inj h).symm⟩
    · exact .inr ⟨‹_›, h⟩
  have held' : ∀ {j : Int}, Held s' j → Held s j ∧ i.toNat ≠ j.toNat := by
    rintro j ⟨_, _, q, h1, h2, h3⟩
    rw [hW'] at h3
    obtain ⟨j0, j6⟩ := W_rng so h3
    refine ⟨⟨hst, hW, q, by omega, by have := (List.getElem?_eq_some_iff.mp h3).1; omega, h3⟩, fun e => ?_⟩
    have : i = j := by omega
    subst this
    have := W_inj so hi h3
    omega
  have ci := I.cel i.toNat c hc
  have ei : ((i.toNat : Nat) : Int) = i := by omega
  rw [ei] at ci
  have rd1 : ∀ z ∈ H.reads, ∃ rv, alook s.m.σ.reads z.1 = some rv ∧ RdC clk (E ++ [⟨s.m.ver, i, x⟩]) (sl.set w s') z.1 s.m.beg (rv, z.2) := fun z hz => by
    obtain ⟨rv, h1, r⟩ := so.rd z hz
    exact ⟨rv, h1, r.step hs ch⟩
  have s1 : SOK w (cs.set i.toNat ⟨x, s.m.ver, 0⟩) clk (E ++ [⟨s.m.ver, i, x⟩]) (sl.set w s') s' H' := by
    refine ⟨by rw [how]; exact so.ow, ?_, by rw [hHb, hb']; exact so.bg, by rw [hHw, hσ]; exact so.wr, by rw [hHd, e1], fun h => by rw [hv']; exact hHv (by rw [← e1]; exact h), fun z hz => by rw [hσ, hb']; exact rd1 z (by rw [← hHr]; exact hz), fun h _ => ?_, fun j h => ?_, fun _ => by rw [hv', hb']; exact so.cl hcl, fun h q j h1 h2 z hz ez => ?_, fun h q j h1 h2 => ?_, fun _ e he ev => ?_, fun _ h => by rw [← hs'] at h; exact absurd h (by simp), by rw [hσ]; exact so.nk, by rw [hσ]; exact so.em⟩
    · obtain ⟨N, t⟩ := so.tx
      refine ⟨N, ?_⟩
      rw [← hs']
      refine ⟨t.ow, by show st' = 1 ∨ st' = 2 ∨ st' = 3 ∨ st' = 4; omega, fun h => ⟨s.k + 1, rfl, ?_⟩, t.wf, t.mo, t.kb⟩
      have h2 : st' = 2 := h
      have := mid h2
      show (planM s.W s.R).drop (s.k + 1) ≠ []
      intro h
      have := congrArg List.length h
      rw [List.length_drop, plan_len hW] at this
      simp at this
      omega
    · have := mid (by rw [← e1]; exact h)
      rw [hW', hR', hk']
      refine ⟨by rw [← hs'], ?_⟩
      rw [plan_len hW]; omega
    · obtain ⟨h1, hne⟩ := held' h
      obtain ⟨j0, j6, d, hd, h4, h5⟩ := so.he j h1
      exact ⟨j0, j6, d, by rw [get_set_iff hc, if_neg hne]; exact hd, by rw [how]; exact h4, fun _ => by rw [hv']; exact h5 hcl⟩
    · rw [hR'] at h1
      rw [hv']
      have := (List.getElem?_eq_some_iff.mp h1).1
      obtain ⟨rv, r⟩ := so.ck hcl q j h1 (by omega) z (by rw [← hHr]; exact hz) ez
      exact ⟨rv, r.step hs ch⟩
    · rw [hW'] at h1
      rw [hv', hσ]
      by_cases e : q = s.pk
      · rw [e, hi] at h1
        obtain rfl := Option.some.inj h1
        rw [hxv]
        exact List.mem_append_right _ (by simp)
      · exact List.mem_append_left _ (so.pb hcl q j h1 (by omega))
    · rw [hW']
      rcases List.mem_append.mp he with he | he
      · obtain ⟨q, h1, h2⟩ := so.pe hcl e he (by omega)
        exact ⟨q, by omega, h2⟩
      · obtain rfl : e = _ := by simpa using he
        exact ⟨s.pk, by omega, hi⟩
  have hok : HOK clk (E ++ [⟨s.m.ver, i, x⟩]) (sl.set w s') H' := by
    refine ⟨fun z hz => ?_, fun h h2 => ?_, fun h h2 z hz => ?_, fun h j y hy => ?_, by rw [hHw]; exact (I.h H (List.mem_of_getElem? hH)).nk, by rw [hHb]; exact (I.h H (List.mem_of_getElem? hH)).b0, by rw [hHr]; exact (I.h H (List.mem_of_getElem? hH)).rk, by rw [hHb]; exact (I.h H (List.mem_of_getElem? hH)).b1⟩
    · rw [hHr] at hz
      obtain ⟨rv, _, r⟩ := rd1 z hz
      rw [hHb, so.bg.1]
      exact ⟨rv, r⟩
    · rw [hHw] at h2
      exact absurd ((W_nil so).mpr h2) hW
    · rw [hHr] at hz
      rw [hHv (hHd.mp h)]
      obtain ⟨rv, h3, _⟩ := so.rd z hz
      have hin : z.1 ∈ s.R := sortI_mem.mpr (alook_mem.mp ⟨rv, h3⟩)
      obtain ⟨q, hq⟩ := List.getElem?_of_mem hin
      have := (List.getElem?_eq_some_iff.mp hq).1
      obtain ⟨rv, r⟩ := so.ck hcl q z.1 hq (by omega) z hz rfl
      exact ⟨rv, r.step hs ch⟩
    · rw [hHv (hHd.mp h)]
      rw [hHw, so.wr] at hy
      have hin : j ∈ s.W := sortI_mem.mpr (alook_mem.mp ⟨y, hy⟩)
      obtain ⟨q, hq⟩ := List.getElem?_of_mem hin
      have hql := (List.getElem?_eq_some_iff.mp hq).1
      have := last (hHd.mp h)
      by_cases e : q = s.pk
      · rw [e, hi] at hq
        obtain rfl := Option.some.inj hq
        rw [hx] at hy
        obtain rfl := Option.some.inj hy
        exact List.mem_append_right _ (by simp)
      · have := so.pb hcl q j hq (by omega)
        rw [hy] at this
        exact List.mem_append_left _ this
  have clm : ∀ v, Claim (all.set s.j H') (sl.set w s') s.j v ↔ v = s.m.ver := by
    intro v
    rw [Claim.me (s' := s') I hs hH hj]
    rcases hst3 with e | e
    · constructor
      · rintro (h | h)
        · rw [← h.2.2]; exact hHv e
        · rw [← h.2]; exact hv'
      · intro h
        exact .inl ⟨hHd.mpr e, by rw [hHw]; exact fun h2 => hW ((W_nil so).mpr h2), by rw [h]; exact hHv e⟩
    · constructor
      · rintro (h | h)
        · have := hHd.mp h.1; omega
        · rw [← h.2]; exact hv'
      · intro h
        exact .inr ⟨⟨by rw [e1]; exact e, by rw [hW']; exact hW, by rw [hW']; omega⟩, by rw [h]; exact hv'⟩
  exact I.upd (H' := H') (s' := s') (cs' := cs.set i.toNat ⟨x, s.m.ver, 0⟩) hs hH so ch ⟨by rw [List.length_set], fun j d hd h0 h1 => by
      rw [get_set_iff hc]
      split
      · subst_vars
        rw [hc] at hd
        obtain rfl := Option.some.inj hd
        exact absurd hown h1
      · exact hd⟩ hj s1 hok (.inl hHw) (fun e he hc => (clm _).mpr (by
      rcases (Claim.me0 I hs hH).mp hc with h | h
      · exact absurd h.1 hnd
      · exact h.2.symm)) (fun v hc => .inl ((Claim.me0 I hs hH).mpr (.inr ⟨hcl, ((clm v).mp hc).symm⟩))) (fun j d hd => by
      rcases hget j d hd with ⟨e, rfl⟩ | ⟨hne, h⟩
      · rw [← e, ei]
        refine ⟨by rw [lastE_snoc, if_pos ⟨rfl, v2⟩], fun e he hi => ?_, by show 0 ≤ s.m.ver; omega, v2⟩
        rcases List.mem_append.mp he with he | he
        · have := ci.2.1 e he hi
          show e.v ≤ s.m.ver
          omega
        · obtain rfl : e = _ := by simpa using he
          exact Int.le_refl _
      · obtain ⟨a, b, c1, c2⟩ := I.cel j d h
        have hij : ¬i = ((j : Nat) : Int) := fun e => hne (by omega)
        refine ⟨by rw [lastE_snoc, if_neg (fun h => hij h.1)]; exact a, fun e he hi => ?_, c1, c2⟩
        rcases List.mem_append.mp he with he | he
        · exact b e he hi
        · obtain rfl : e = _ := by simpa using he
          exact absurd hi hij) (fun j d hd => by
      rcases hget j d hd with ⟨e, rfl⟩ | ⟨hne, h⟩
      · exact .inl rfl
      · by_cases eo : d.own = s.m.owner
        · obtain ⟨_, _, q, h1, h2, h3⟩ := I.mine hs so h eo
          have hq : q ≠ s.pk := by
            rintro rfl
            rw [hi] at h3
            have := Option.some.inj h3
            omega
          have hql := (List.getElem?_eq_some_iff.mp h3).1
          rcases hst3 with e | e
          · have := last e; omega
          · exact .inr (.inl ⟨eo, by rw [e1]; exact e, by rw [hW']; exact hW, q, by omega, by omega, by rw [hW']; exact h3⟩)
        · exact .inr (.inr ⟨eo, h⟩)) (I.ri.snoc fun a ha hai => by
      have := ci.2.1 a ha hai
      show a.v < s.m.ver
      omega) (fun e he => by
      rcases List.mem_append.mp he with he | he
      · exact .inl he
      · obtain rfl : e = _ := by simpa using he
        exact .inr ⟨v1, v2, i0, i6, by rw [hHw, so.wr]; exact hx, (clm _).mpr rfl⟩)
/-- one without writes is done -/
theorem Inv.fin (I : Inv cs clk E sl all) (hs : sl[w]? = some s) (hH : all[s.j]? = some H) (so : SOK w cs clk E sl s H) (hst : s.m.st = 2) (hW : s.W = []) :
    Inv cs clk E (sl.set w { s with m := { s.m with ver := s.m.beg, st := 3, left := [] } }) (all.set s.j { H with done := true, ver := s.m.beg }) := by
  have hnd : ¬H.done = true := fun h => by have := so.dn.mp h; omega
  have hHw : H.writes = [] := (W_nil so).mp hW
  generalize hs' : ({ s with m := { s.m with ver := s.m.beg, st := 3, left := [] } } : Sl) = s'
  have e1 : s'.m.st = 3 := by rw [← hs']
  have st3 : s'.m.st ≠ 2 := by omega
  have hj : s'.j = s.j := by rw [← hs']
  have hσ : s'.m.σ = s.m.σ := by rw [← hs']
  have how : s'.m.owner = s.m.owner := by rw [← hs']
  have hb' : s'.m.beg = s.m.beg := by rw [← hs']
  have ch : Chg clk E s clk E s' := Chg.quiet st3
  have hnc0 : ¬Clm s := fun c => c.2.1 hW
  have rd1 : ∀ z ∈ H.reads, ∃ rv, alook s.m.σ.reads z.1 = some rv ∧ RdC clk E (sl.set w s') z.1 s.m.beg (rv, z.2) := fun z hz => by
    obtain ⟨rv, h1, r⟩ := so.rd z hz
    exact ⟨rv, h1, r.step hs ch⟩
  refine I.upd (H' := { H with done := true, ver := s.m.beg }) (s' := s') (cs' := cs) hs hH so ch (CsFr.refl _ _) hj
    ⟨by rw [how]; exact so.ow, ?_, by rw [hb']; exact so.bg, by rw [hσ]; exact so.wr, ⟨fun _ => e1, fun _ => rfl⟩, fun _ => (by rw [← hs']), fun z hz => (by rw [hσ, hb']; exact rd1 z hz), fun h => absurd h st3, fun i h => absurd h (nHeld st3 i), fun h => absurd h (nClm st3), fun h => absurd h (nClm st3), fun h => absurd h (nClm st3), fun h => absurd h (nClm st3), fun h => absurd h (nClm st3), by rw [hσ]; exact so.nk, by rw [hσ]; exact so.em⟩
    ⟨fun z hz => by obtain ⟨rv, _, r⟩ := rd1 z hz; exact ⟨rv, by show RdC clk E (sl.set w s') z.1 H.beg _; rw [so.bg.1]; exact r⟩, fun _ _ => so.bg.1.symm, fun _ h => absurd hHw h, fun _ j y hy => (by
      have h2 : alook H.writes j = some y := hy
      rw [hHw] at h2; cases h2), (I.h H (List.mem_of_getElem? hH)).nk, (I.h H (List.mem_of_getElem? hH)).b0, (I.h H (List.mem_of_getElem? hH)).rk, (I.h H (List.mem_of_getElem? hH)).b1⟩ (.inl rfl) (fun e he hc => by
      rcases (Claim.me0 I hs hH).mp hc with h | h
      · exact absurd h.1 hnd
      · exact absurd h.1 hnc0) (fun v hc => by
      rcases (Claim.me (s' := s') I hs hH hj).mp hc with h | h
      · exact absurd hHw h.2.1
      · exact absurd h.1 (nClm st3)) I.cel (fun j d hd => by
      by_cases eo : d.own = s.m.owner
      · exact absurd hW (I.mine hs so hd eo).2.1
      · exact .inr (.inr ⟨eo, hd⟩)) I.ri (fun e he => .inl he)
  obtain ⟨N, t⟩ := so.tx
  refine ⟨N, ?_⟩
  rw [← hs']
  exact ⟨t.ow, .inr (.inr (.inl rfl)), fun h => (by have : (3 : Int) = 2 := h; omega), t.wf, t.mo, t.kb⟩
end
end Ser
end Go.Lg.Try

namespace Go.Lg.Try
set_option linter.unusedVariables false
set_option linter.unusedSimpArgs false
open Go Go.Proofs
namespace Ser
/-- what the law keeps of a step -/
def doneH (H : Hi) (st : Int) (m' : TM) : Hi := if st = 3 ∧ H.done = false then { H with done := true, ver := if m'.st = 3 then m'.ver else 0 } else H
section
variable {cs : List Cel} {clk : Int} {E : List Pb} {sl : List Sl} {all : List Hi} {w : Nat} {s : Sl} {H : Hi}
theorem Inv.go (I : Inv cs clk E sl all) (hs : sl[w]? = some s) (hH : all[s.j]? = some H) (so : SOK w cs clk E sl s H) (hst : s.m.st = 2) :
    ∃ k' E', Inv (s.m.go cs clk).2.2.1 (s.m.go cs clk).2.2.2 E' (sl.set w ⟨(s.m.go cs clk).2.1, s.j, k'⟩) (all.set s.j (doneH H (s.m.go cs clk).1.1 (s.m.go cs clk).2.1)) := by
  have hnd : H.done = false := by
    cases h : H.done with
    | false => rfl
    | true => have := so.dn.mp h; omega
  obtain ⟨N, tx⟩ := so.tx
  have hno : ∀ (z : Int) (m' : TM), z ≠ 3 → doneH H z m' = H := fun z m' h => by unfold doneH; rw [if_neg (fun c => h c.1)]
  by_cases hW : s.W = []
  · have hl : s.m.left = [.fin] := by
      obtain ⟨k, h1, h2⟩ := tx.lf hst
      have h3 : (planM (sortI (s.m.σ.writes.map Prod.fst)) (sortI (s.m.σ.reads.map Prod.fst))) = [.fin] := by unfold planM; rw [if_pos hW]
      rw [h3] at h1
      cases k with
      | zero => exact h1
      | succ k => rw [h1] at h2; exact absurd (by simp) h2
    have hg : s.m.go cs clk = ((3, 0), { s.m with ver := s.m.beg, st := 3, left := [] }, cs, clk) := by
      unfold TM.go
      rw [hl]
      rfl
    rw [hg]
    refine ⟨s.k, E, ?_⟩
    have hd : doneH H 3 { s.m with ver := s.m.beg, st := 3, left := [] } = { H with done := true, ver := s.m.beg } := by unfold doneH; rw [if_pos ⟨rfl, hnd⟩]; rfl
    simp only
    rw [hd]
    exact I.fin hs hH so hst hW
  obtain ⟨hpl, hkl⟩ := so.pl hst hW
  have hwl : 0 < s.W.length := List.length_pos_iff.mpr hW
  rw [plan_len hW] at hkl
  have hcons : ∀ x, (planM s.W s.R)[s.k]? = some x → s.m.left = x :: (planM s.W s.R).drop (s.k + 1) := by
    intro x hx
    obtain ⟨h1, h2⟩ := List.getElem?_eq_some_iff.mp hx
    rw [hpl, List.drop_eq_getElem_cons h1, h2]
  have hg := plan_get (R := s.R) hW s.k
  have how : 1 ≤ s.m.owner := tx.ow
  by_cases c1 : s.k < s.W.length
  · rw [if_pos c1] at hg
    obtain ⟨i, hi⟩ : ∃ i, s.W[s.k]? = some i := ⟨_, List.getElem?_eq_getElem c1⟩
    rw [hi] at hg
    have hl := hcons _ hg
    obtain ⟨i0, i6⟩ := W_rng so hi
    obtain ⟨c, hc, _⟩ := load_in I.n i0 i6
    have hncl : ¬Clm s := fun h => by have := h.2.2; omega
    have hn := I.n
    by_cases co : c.own ≠ 0 ∧ c.own ≠ s.m.owner
    · have hlk : lockM cs i s.m.owner = (130, cs) := by unfold lockM; rw [if_neg (by omega), hc]; simp only; rw [if_pos co]
      have hgo : s.m.go cs clk = ((4, 130), s.m.fail, freeM cs s.m.owner, clk) := by
        unfold TM.go
        rw [hl]
        simp only [TM.eff, hlk]
        rfl
      rw [hgo]
      simp only
      rw [hno 4 _ (by decide), set_self hH]
      exact ⟨s.k, E, I.fail hs hH so (.inr hst) (fun h => absurd h hncl)⟩
    · have hlk : lockM cs i s.m.owner = (0, cs.set i.toNat { c with own := s.m.owner }) := by unfold lockM; rw [if_neg (by omega), hc]; simp only; rw [if_neg co]
      have hgo : s.m.go cs clk = ((s.m.st, 0), { s.m with left := (planM s.W s.R).drop (s.k + 1) }, cs.set i.toNat { c with own := s.m.owner }, clk) := by
        unfold TM.go
        rw [hl]
        simp only [TM.eff, hlk]
        rfl
      rw [hgo]
      simp only
      rw [hno _ _ (by omega), set_self hH]
      exact ⟨s.k + 1, E, I.lock hs hH so hst hW c1 hi hc (by
        by_cases h : c.own = 0
        · exact .inl h
        · exact .inr (Classical.not_not.mp fun h2 => co ⟨h, h2⟩))⟩
  rw [if_neg c1] at hg
  by_cases c2 : s.k = s.W.length
  · rw [if_pos c2] at hg
    have hl := hcons _ hg
    have hncl : ¬Clm s := fun h => by have := h.2.2; omega
    by_cases c : clk = 1099511627776
    · have ha : advM clk = (0, 133, clk) := by unfold advM; rw [if_pos c]
      have hgo : s.m.go cs clk = ((4, 133), s.m.fail, freeM cs s.m.owner, clk) := by
        unfold TM.go
        rw [hl]
        simp only [TM.eff, ha]
        rfl
      rw [hgo]
      simp only
      rw [hno 4 _ (by decide), set_self hH]
      exact ⟨s.k, E, I.fail hs hH so (.inr hst) (fun h => absurd h hncl)⟩
    · have ha : advM clk = (clk + 1, 0, clk + 1) := by unfold advM; rw [if_neg c]
      have hgo : s.m.go cs clk = ((s.m.st, 0), { s.m with ver := clk + 1, left := (planM s.W s.R).drop (s.k + 1) }, cs, clk + 1) := by
        unfold TM.go
        rw [hl]
        simp only [TM.eff, ha]
        rfl
      rw [hgo]
      simp only
      rw [hno _ _ (by omega), set_self hH]
      exact ⟨s.k + 1, E, I.adv hs hH so hst hW c2⟩
  rw [if_neg c2] at hg
  have hcl : Clm s := ⟨hst, hW, by omega⟩
  by_cases c3 : s.k < s.W.length + 1 + s.R.length
  · rw [if_pos c3] at hg
    obtain ⟨i, hi⟩ : ∃ i, s.R[s.k - s.W.length - 1]? = some i := ⟨_, List.getElem?_eq_getElem (by omega)⟩
    rw [hi] at hg
    have hl := hcons _ hg
    obtain ⟨i0, i6⟩ := R_rng so hi
    obtain ⟨c, hc, hld⟩ := load_in I.n i0 i6
    by_cases co : c.own ≠ 0 ∧ c.own ≠ s.m.owner ∨ c.ver ≠ aval (alook s.m.σ.reads i)
    · have hgo : s.m.go cs clk = ((4, 131), s.m.fail, freeM cs s.m.owner, clk) := by
        unfold TM.go
        rw [hl]
        simp only [TM.eff, hld]
        rw [if_pos co]
        rfl
      rw [hgo]
      simp only
      rw [hno 4 _ (by decide), set_self hH]
      exact ⟨s.k, E, I.fail hs hH so (.inr hst) (fun h e he ev => by
        obtain ⟨q, h1, _⟩ := so.pe h e he ev
        unfold Sl.pk at h1; omega)⟩
    · have hgo : s.m.go cs clk = ((s.m.st, 0), { s.m with left := (planM s.W s.R).drop (s.k + 1) }, cs, clk) := by
        unfold TM.go
        rw [hl]
        simp only [TM.eff, hld]
        rw [if_neg co]
        rfl
      rw [hgo]
      simp only
      rw [hno _ _ (by omega), set_self hH]
      exact ⟨s.k + 1, E, I.chk hs hH so hst hW (by omega) c3 hi hc (by
        by_cases h : c.own = 0
        · exact .inl h
        · exact .inr (Classical.not_not.mp fun h2 => co (.inl ⟨h, h2⟩))) (Classical.not_not.mp fun h => co (.inr h))⟩
  rw [if_neg c3, if_pos (by omega)] at hg
  have hpk : s.k - s.W.length - 1 - s.R.length = s.pk := by unfold Sl.pk; omega
  rw [hpk] at hg
  have hpl2 : s.pk < s.W.length := by unfold Sl.pk; omega
  obtain ⟨i, hi⟩ : ∃ i, s.W[s.pk]? = some i := ⟨_, List.getElem?_eq_getElem hpl2⟩
  rw [List.getD_eq_getElem?_getD, hi] at hg
  have hl := hcons _ hg
  obtain ⟨i0, i6⟩ := W_rng so hi
  obtain ⟨_, _, c, hc, hown, hlt⟩ := so.he i ⟨hst, hW, s.pk, Nat.le_refl _, by unfold Sl.pk; omega, hi⟩
  have hcv := hlt hcl
  obtain ⟨v1, v2, v3⟩ := so.cl hcl
  have hn := I.n
  have hpub : publishM cs clk i s.m.owner (aval (alook s.m.σ.writes i)) s.m.ver = (0, cs.set i.toNat ⟨aval (alook s.m.σ.writes i), s.m.ver, 0⟩) := by
    unfold publishM
    rw [if_neg (by omega), hc]
    simp only
    rw [if_neg (not_not_intro hown), if_neg (by omega)]
  have hwl2 := W_len s
  have hwb : s.m.σ.writes.length ≤ 6 := NkB so.nk tx.kb.wk
  have hwr : IntKind.wrap .i64 ((s.m.σ.writes.length : Int) - 1) = (s.m.σ.writes.length : Int) - 1 := wrap64 (by omega) (by omega)
  by_cases last : s.pk + 1 = s.W.length
  · have hgo : s.m.go cs clk = ((3, 0), { s.m with told := true, st := 3, left := (planM s.W s.R).drop (s.k + 1) }, cs.set i.toNat ⟨aval (alook s.m.σ.writes i), s.m.ver, 0⟩, clk) := by
      unfold TM.go
      rw [hl]
      simp only [TM.eff, Option.getD_some, hpub, hwr]
      rw [dec_t (by omega)]
      rfl
    rw [hgo]
    simp only
    have hd : doneH H 3 { s.m with told := true, st := 3, left := (planM s.W s.R).drop (s.k + 1) } = { H with done := true, ver := s.m.ver } := by unfold doneH; rw [if_pos ⟨rfl, hnd⟩]; rfl
    rw [hd]
    have := I.pub hs hH so hst hW (by omega) hi hc 3 (by rw [if_pos last])
    rw [if_pos rfl] at this
    exact ⟨s.k + 1, _, this⟩
  · have hgo : s.m.go cs clk = ((s.m.st, 0), { s.m with told := true, left := (planM s.W s.R).drop (s.k + 1) }, cs.set i.toNat ⟨aval (alook s.m.σ.writes i), s.m.ver, 0⟩, clk) := by
      unfold TM.go
      rw [hl]
      simp only [TM.eff, Option.getD_some, hpub, hwr]
      rw [dec_f (by omega)]
      rfl
    rw [hgo]
    simp only
    rw [hno _ _ (by omega)]
    have := I.pub hs hH so hst hW (by omega) hi hc 2 (by rw [if_neg last])
    rw [if_neg (by decide)] at this
    rw [← hst] at this
    exact ⟨s.k + 1, _, this⟩
theorem Inv.step (I : Inv cs clk E sl all) (hs : sl[w]? = some s) (hH : all[s.j]? = some H) (so : SOK w cs clk E sl s H) :
    ∃ k' E', Inv (s.m.step cs clk).2.2.1 (s.m.step cs clk).2.2.2 E' (sl.set w ⟨(s.m.step cs clk).2.1, s.j, k'⟩) (all.set s.j (doneH H (s.m.step cs clk).1.1 (s.m.step cs clk).2.1)) := by
  have hwl : w < sl.length := (List.getElem?_eq_some_iff.mp hs).1
  unfold TM.step
  by_cases c1 : s.m.st = 1
  · rw [if_pos c1]
    obtain ⟨I', so'⟩ := I.plan hs hH so c1
    obtain ⟨k', E', I2⟩ := I'.go (s := { s with m := s.m.plan, k := 0 }) (w := w) (H := H) (by rw [List.getElem?_set_self hwl]) hH so' rfl
    rw [List.set_set] at I2
    exact ⟨k', E', I2⟩
  rw [if_neg c1]
  by_cases c2 : s.m.st = 2
  · rw [if_pos c2]
    exact I.go hs hH so c2
  rw [if_neg c2]
  refine ⟨s.k, E, ?_⟩
  have hd : doneH H s.m.st s.m = H := by
    unfold doneH
    by_cases c3 : s.m.st = 3
    · rw [if_neg (fun h => by have := so.dn.mpr c3; rw [this] at h; exact absurd h.2 (by decide))]
    · rw [if_neg (fun h => c3 h.1)]
  simp only
  rw [hd, set_self hH, set_self hs]
  exact I
end
/-- the beginning: four that have just begun -/
def sl0 : List Sl := (List.range 4).map fun (w : Nat) => ⟨TM.new ((w : Int) + 1) 0, w, 0⟩
def all0 : List Hi := List.replicate 4 ⟨0, 0, [], [], false⟩
theorem Inv.init : Inv (List.replicate 6 ⟨0, 0, 0⟩) 0 [] sl0 all0 := by
  have hsl : ∀ (w : Nat) s, sl0[w]? = some s → w < 4 ∧ s = ⟨TM.new ((w : Int) + 1) 0, w, 0⟩ := by
    intro w s h
    unfold sl0 at h
    rw [List.getElem?_map] at h
    obtain ⟨v, hv, rfl⟩ := Option.map_eq_some_iff.mp h
    have hw : w < 4 := by have := (List.getElem?_eq_some_iff.mp hv).1; simpa using this
    rw [List.getElem?_range hw] at hv
    obtain rfl := Option.some.inj hv
    exact ⟨hw, rfl⟩
  have hmem : ∀ s ∈ sl0, s.m.st = 1 := by
    intro s h
    obtain ⟨w, hw⟩ := List.getElem?_of_mem h
    obtain ⟨_, rfl⟩ := hsl w s hw
    rfl
  have hcl : ∀ j v, ¬Claim all0 sl0 j v := by
    rintro j v (⟨H, h1, h2, _⟩ | ⟨s, hs, _, h, _⟩)
    · have := List.eq_of_mem_replicate (List.mem_of_getElem? h1)
      rw [this] at h2; exact absurd h2 Bool.false_ne_true
    · have := hmem s hs; exact absurd h.1 (by omega)
  refine ⟨rfl, by simp [sl0], by decide, ?_, ?_, .nil, fun e he => by simp at he, fun j j' v h => absurd h (hcl j v), fun j v h => absurd h (hcl j v), ?_, ?_, ?_⟩
  · intro i c h
    have := List.eq_of_mem_replicate (List.mem_of_getElem? h)
    subst this
    exact ⟨rfl, fun e he => by simp at he, by decide, by decide⟩
  · intro i c h
    have := List.eq_of_mem_replicate (List.mem_of_getElem? h)
    subst this
    exact .inl rfl
  · intro H hH
    have := List.eq_of_mem_replicate hH
    subst this
    exact ⟨fun z hz => (by simp at hz), fun h => absurd h Bool.false_ne_true, fun h => absurd h Bool.false_ne_true, fun h => absurd h Bool.false_ne_true, ⟨(by simp [Nk]), fun i h => (by simp at h)⟩, Int.le_refl _, fun z hz => (by simp at hz), Int.le_refl _⟩
  · intro w s h
    obtain ⟨hw, rfl⟩ := hsl w s h
    have n2 : (⟨TM.new ((w : Int) + 1) 0, w, 0⟩ : Sl).m.st ≠ 2 := by show (1 : Int) ≠ 2; decide
    refine ⟨⟨0, 0, [], [], false⟩, by unfold all0; rw [List.getElem?_replicate, if_pos hw], ?_⟩
    refine ⟨rfl, ⟨0, TInv.new (by omega)⟩, ⟨rfl, Int.le_refl _, Int.le_refl _⟩, rfl, ⟨fun h => absurd h Bool.false_ne_true, fun h => (by have : (1 : Int) = 3 := h; omega)⟩, fun h => (by have : (1 : Int) = 3 := h; omega), fun z hz => (by simp at hz), fun h => absurd h n2, fun i h => absurd h (nHeld n2 i), fun h => absurd h (nClm n2), fun h => absurd h (nClm n2), fun h => absurd h (nClm n2), fun h => absurd h (nClm n2), fun h => absurd h (nClm n2), (by simp [Nk, TM.new]), rfl, rfl⟩
  · intro w w' s s' h h' e
    obtain ⟨_, rfl⟩ := hsl w s h
    obtain ⟨_, rfl⟩ := hsl w' s' h'
    exact e
end Ser
end Go.Lg.Try

namespace Go.Lg.Try
set_option linter.unusedVariables false
set_option linter.unusedSimpArgs false
open Go Go.Proofs
namespace Ser
def wrAll (c : List Int) (l : List (Int × Int)) : List Int := l.foldl (fun c z => c.set z.1.toNat z.2) c
def cond (n : Int) (H : Hi) : Prop := H.done = true ∧ H.ver = n ∧ H.writes ≠ []
instance (n : Int) (H : Hi) : Decidable (cond n H) := inferInstanceAs (Decidable (_ ∧ _))
def roundM (n : Int) (all : List Hi) (c : List Int) : List Int := all.foldl (fun c H => if cond n H then wrAll c H.writes else c) c
/-- the law's `at` -/
def atM (all : List Hi) (n : Nat) : List Int := (List.range n).foldl (fun c (k : Nat) => roundM ((k : Int) + 1) all c) (List.replicate 6 0)
theorem wrAll_len : ∀ (l : List (Int × Int)) (c : List Int), (wrAll c l).length = c.length
  | [], _ => rfl
  | z :: l, c => by show (wrAll (c.set _ _) l).length = _; rw [wrAll_len l, List.length_set]
theorem wrAll_get : ∀ (l : List (Int × Int)) (c : List Int), Nk l → (∀ i ∈ l.map Prod.fst, 0 ≤ i ∧ i < ((6 : Nat) : Int)) → c.length = 6 → ∀ i : Nat, i < 6 → (wrAll c l)[i]? = match alook l i with
    | some x => some x
    | none => c[i]?
  | [], c, _, _, _, i, _ => rfl
  | z :: l, c, hn, hk, hc, i, hi => by
    unfold Nk at hn
    rw [List.map_cons, List.nodup_cons] at hn
    have hz := hk z.1 (by simp)
    show (wrAll (c.set z.1.toNat z.2) l)[i]? = _
    rw [wrAll_get l _ hn.2 (fun i hi => hk i (List.mem_cons_of_mem _ hi)) (by rw [List.length_set]; exact hc) i hi]
    rw [show alook (z :: l) (i : Int) = if z.1 = (i : Int) then some z.2 else alook l i from rfl]
    by_cases e : z.1 = (i : Int)
    · rw [if_pos e, alook_none (fun h => hn.1 (by rw [e]; exact h))]
      simp only
      rw [show z.1.toNat = i by omega, List.getElem?_set_self (by omega)]
    · rw [if_neg e]
      cases alook l i with
      | some x => rfl
      | none => simp only; rw [List.getElem?_set_ne (by omega)]
theorem round_len (n : Int) : ∀ (all : List Hi) (c : List Int), (roundM n all c).length = c.length
  | [], _ => rfl
  | H :: all, c => by
    show (roundM n all (if cond n H then wrAll c H.writes else c)).length = _
    rw [round_len n all]
    split
    · exact wrAll_len _ _
    · rfl
/-- nobody of the round writes the cell -/
theorem round_none {n : Int} {i : Nat} (hi : i < 6) : ∀ (all : List Hi) (c : List Int), (∀ H ∈ all, cond n H → Nk H.writes ∧ (∀ i ∈ H.writes.map Prod.fst, 0 ≤ i ∧ i < ((6 : Nat) : Int)) ∧ alook H.writes i = none) → c.length = 6 → (roundM n all c)[i]? = c[i]?
  | [], c, _, _ => rfl
  | H :: all, c, h, hc => by
    show (roundM n all (if cond n H then wrAll c H.writes else c))[i]? = _
    rw [round_none hi all _ (fun G hG => h G (List.mem_cons_of_mem _ hG)) (by split <;> first | (rw [wrAll_len]; exact hc) | exact hc)]
    split
    · rename_i hcd
      obtain ⟨h1, h2, h3⟩ := h H (by simp) hcd
      rw [wrAll_get _ _ h1 h2 hc i hi, h3]
    · rfl
/-- one of the round writes it -/
theorem round_one {n : Int} {i : Nat} {x : Int} (hi : i < 6) : ∀ (all : List Hi) (j : Nat) (H : Hi) (c : List Int), all[j]? = some H → cond n H → Nk H.writes → (∀ i ∈ H.writes.map Prod.fst, 0 ≤ i ∧ i < ((6 : Nat) : Int)) → alook H.writes i = some x → (∀ (j' : Nat) G, all[j']? = some G → cond n G → j' = j) → c.length = 6 → (roundM n all c)[i]? = some x
  | [], j, H, c, h, _, _, _, _, _, _ => by simp at h
  | G :: all, 0, H, c, h, hc, hn, hk, hx, hu, hl => by
    obtain rfl : G = H := by simpa using h
    show (roundM n all (if cond n G then wrAll c G.writes else c))[i]? = _
    rw [if_pos hc, round_none hi all _ (fun F hF hcd => by
      obtain ⟨j, hj⟩ := List.getElem?_of_mem hF
      have := hu (j + 1) F (by simpa using hj) hcd
      omega) (by rw [wrAll_len]; exact hl), wrAll_get _ _ hn hk hl i hi, hx]
  | G :: all, j + 1, H, c, h, hc, hn, hk, hx, hu, hl => by
    show (roundM n all (if cond n G then wrAll c G.writes else c))[i]? = _
    have : ¬cond n G := fun hcd => by have := hu 0 G (by simp) hcd; omega
    rw [if_neg this]
    exact round_one hi all j H c (by simpa using h) hc hn hk hx (fun j' F hF hcd => by
      have := hu (j' + 1) F (by simpa using hF) hcd
      omega) hl
section
variable {cs : List Cel} {clk : Int} {E : List Pb} {sl : List Sl} {all : List Hi}
theorem at_len (all : List Hi) (n : Nat) : (atM all n).length = 6 := by
  induction n with
  | zero => rfl
  | succ n ih =>
    unfold atM at ih ⊢
    rw [List.range_succ, List.foldl_append]
    show (roundM _ all _).length = 6
    rw [round_len]; exact ih
/-- what the committed ones leave is what was published -/
theorem at_eq (I : Inv cs clk E sl all) (hf : ∀ s ∈ sl, s.m.st ≠ 2) : ∀ (n : Nat) (i : Nat), i < 6 → (atM all n)[i]? = some (lastE E i n).2 := by
  intro n
  induction n with
  | zero =>
    intro i hi
    rw [lastE_none (fun e he _ => by have := (I.ev e he).1; omega)]
    show (List.replicate 6 (0 : Int))[i]? = _
    rw [List.getElem?_replicate, if_pos hi]
  | succ n ih =>
    intro i hi
    have e1 : atM all (n + 1) = roundM ((n : Int) + 1) all (atM all n) := by
      unfold atM
      rw [List.range_succ, List.foldl_append]; rfl
    have e2 : ((n + 1 : Nat) : Int) = (n : Int) + 1 := by omega
    rw [e1, e2]
    by_cases c : ∃ e ∈ E, e.i = (i : Int) ∧ e.v = (n : Int) + 1
    · obtain ⟨e, he, ei, ev⟩ := c
      have hl := lastE_in I.ri he
      rw [ei, ev] at hl
      rw [hl]
      obtain ⟨_, _, _, _, j, H, hH, hx, hc⟩ := I.ev e he
      have hd : cond ((n : Int) + 1) H := by
        rcases hc with ⟨G, hG, h1, h2, h3⟩ | ⟨s, hs, _, h, _⟩
        · rw [hH] at hG
          obtain rfl := Option.some.inj hG
          exact ⟨h1, by omega, h2⟩
        · exact absurd h.1 (hf s hs)
      have hnk := (I.h H (List.mem_of_getElem? hH)).nk
      rw [ei] at hx
      refine round_one hi all j H _ hH hd hnk.1 hnk.2 hx (fun j' G hG hcd => ?_) (at_len _ _)
      exact I.un j' j ((n : Int) + 1) (.inl ⟨G, hG, hcd.1, hcd.2.2, hcd.2.1⟩) (.inl ⟨H, hH, hd.1, hd.2.2, hd.2.1⟩)
    · have hl : lastE E i ((n : Int) + 1) = lastE E i n := lastE_same (fun e he hei => by
        by_cases h : e.v ≤ (n : Int)
        · exact .inl h
        · right
          have : e.v ≠ (n : Int) + 1 := fun h2 => c ⟨e, he, hei, h2⟩
          omega) (by omega)
      rw [hl, round_none hi all _ (fun H hH hcd => ?_) (at_len _ _)]
      · exact ih i hi
      · have o := I.h H hH
        refine ⟨o.nk.1, o.nk.2, ?_⟩
        cases hx : alook H.writes i with
        | none => rfl
        | some x =>
          have := o.d2 hcd.1 _ _ hx
          exact absurd ⟨_, this, rfl, hcd.2.1⟩ c
/-- Tl2Opaque -/
theorem opaque_ok (I : Inv cs clk E sl all) (hf : ∀ s ∈ sl, s.m.st ≠ 2) {H : Hi} (hH : H ∈ all) {z : Int × Int} (hz : z ∈ H.reads) : (atM all H.beg.toNat)[z.1.toNat]? = some z.2 := by
  have h0 := (I.h H hH).b0
  obtain ⟨z0, z6⟩ := (I.h H hH).rk z hz
  obtain ⟨rv, r⟩ := (I.h H hH).o z hz
  rw [at_eq I hf _ _ (by omega), show ((z.1.toNat : Nat) : Int) = z.1 by omega, show ((H.beg.toNat : Nat) : Int) = H.beg by omega, r.e]
/-- Tl2Serial: of one that is done -/
theorem serial_ok (I : Inv cs clk E sl all) (hf : ∀ s ∈ sl, s.m.st ≠ 2) {H : Hi} (hH : H ∈ all) (hd : H.done = true) {z : Int × Int} (hz : z ∈ H.reads) : (atM all ((if H.writes ≠ [] then H.ver - 1 else H.ver).toNat))[z.1.toNat]? = some z.2 := by
  have o := I.h H hH
  obtain ⟨z0, z6⟩ := o.rk z hz
  by_cases c : H.writes = []
  · rw [if_neg (not_not_intro c), o.d0 hd c]
    exact opaque_ok I hf hH hz
  · rw [if_pos c]
    obtain ⟨j, hj⟩ := List.getElem?_of_mem hH
    have := (I.cm j H.ver (.inl ⟨H, hj, hd, c, rfl⟩)).1
    obtain ⟨rv, r⟩ := o.d1 hd c z hz
    rw [at_eq I hf _ _ (by omega), show ((z.1.toNat : Nat) : Int) = z.1 by omega, show (((H.ver - 1).toNat : Nat) : Int) = H.ver - 1 by omega, r.e]
/-- the cells in the end -/
theorem last_ok (I : Inv cs clk E sl all) (hf : ∀ s ∈ sl, s.m.st ≠ 2) {n : Nat} (hn : ∀ H ∈ all, H.done = true → H.writes ≠ [] → H.ver ≤ n) {i : Nat} {c : Cel} (hc : cs[i]? = some c) : (atM all n)[i]? = some c.v := by
  have hi : i < 6 := by have := (List.getElem?_eq_some_iff.mp hc).1; rw [I.n] at this; exact this
  obtain ⟨a, b, c0, c1⟩ := I.cel i c hc
  have hev : ∀ e ∈ E, e.v ≤ n := fun e he => by
    obtain ⟨_, _, _, _, j, H, hH, _, hcl⟩ := I.ev e he
    rcases hcl with ⟨G, hG, h1, h2, h3⟩ | ⟨s, hs, _, h, _⟩
    · rw [← h3]; exact hn G (List.mem_of_getElem? hG) h1 h2
    · exact absurd h.1 (hf s hs)
  rw [at_eq I hf _ _ hi]
  have : lastE E i n = lastE E i clk := by
    by_cases h : (n : Int) ≤ clk
    · exact (lastE_same (fun e he _ => .inl (hev e he)) h).symm
    · exact lastE_same (fun e he _ => .inl (I.ev e he).2.1) (by omega)
  rw [this, ← a]
end
end Ser
end Go.Lg.Try

namespace Go.Lg.Try
set_option linter.unusedVariables false
set_option linter.unusedSimpArgs false
open Go Go.Proofs
namespace Ser
def mu (m : TM) : Nat := if m.st = 1 then 20 else if m.st = 2 then m.left.length else 0
section
variable {m : TM} {cs : List Cel} {clk : Int} {N : Nat}
theorem plan_le (tx : TInv 6 m N) (nw : Nk m.σ.writes) (nr : Nk m.σ.reads) : (planM (sortI (m.σ.writes.map Prod.fst)) (sortI (m.σ.reads.map Prod.fst))).length ≤ 19 := by
  have h1 := tx.wlen nw
  have h2 := tx.rlen nr
  by_cases c : sortI (m.σ.writes.map Prod.fst) = []
  · unfold planM; rw [if_pos c]; simp
  · rw [plan_len c, sortI_len, sortI_len, List.length_map, List.length_map]; omega
theorem mu_le (tx : TInv 6 m N) (nw : Nk m.σ.writes) (nr : Nk m.σ.reads) : mu m ≤ 20 := by
  unfold mu
  split
  · omega
  · split
    · obtain ⟨k, h, _⟩ := tx.lf ‹_›
      rw [h, List.length_drop]
      have := plan_le tx nw nr
      omega
    · omega
theorem mu_go (h : m.st = 2) (hl : m.left ≠ []) : mu (m.go cs clk).2.1 ≤ m.left.length - 1 := by
  unfold TM.go
  cases hs : m.left with
  | nil => exact absurd hs hl
  | cons x l =>
    simp only
    have k2 := (TInv.eff_keep m cs clk x).2.1
    split
    · unfold mu TM.fail
      rw [if_neg (by show ¬(4 : Int) = 1; decide), if_neg (by show ¬(4 : Int) = 2; decide)]; omega
    · split
      · unfold mu
        rw [if_neg (by show ¬(3 : Int) = 1; decide), if_neg (by show ¬(3 : Int) = 2; decide)]; omega
      · unfold mu
        rw [if_neg (by show ¬(m.eff cs clk x).2.1.st = 1; rw [k2]; omega), if_pos (by show (m.eff cs clk x).2.1.st = 2; rw [k2]; exact h)]
        show l.length ≤ _
        simp
theorem mu_step (tx : TInv 6 m N) (nw : Nk m.σ.writes) (nr : Nk m.σ.reads) : mu (m.step cs clk).2.1 ≤ mu m - 1 := by
  unfold TM.step
  by_cases c1 : m.st = 1
  · rw [if_pos c1]
    have := mu_go (m := m.plan) (cs := cs) (clk := clk) rfl (tx.plan.left_ne rfl)
    have h2 := plan_le tx nw nr
    have h3 : m.plan.left.length ≤ 19 := h2
    have h4 : mu m = 20 := if_pos c1
    omega
  rw [if_neg c1]
  by_cases c2 : m.st = 2
  · rw [if_pos c2]
    have := mu_go (cs := cs) (clk := clk) c2 (tx.left_ne c2)
    have h4 : mu m = m.left.length := by unfold mu; rw [if_neg c1, if_pos c2]
    omega
  rw [if_neg c2]
  have h4 : mu m = 0 := by unfold mu; rw [if_neg c1, if_neg c2]
  show mu m ≤ _
  omega
theorem step_clk : clk ≤ (m.step cs clk).2.2.2 ∧ (m.step cs clk).2.2.2 ≤ clk + 1 := by
  have ha : clk ≤ (advM clk).2.2 ∧ (advM clk).2.2 ≤ clk + 1 := by unfold advM; split <;> simp <;> omega
  have he : ∀ (m : TM) (x : Stp), clk ≤ (m.eff cs clk x).2.2.2 ∧ (m.eff cs clk x).2.2.2 ≤ clk + 1 := by
    intro m x
    cases x with
    | adv => exact ha
    | _ => exact ⟨Int.le_refl _, by show clk ≤ clk + 1; omega⟩
  have hg : ∀ m : TM, clk ≤ (m.go cs clk).2.2.2 ∧ (m.go cs clk).2.2.2 ≤ clk + 1 := by
    intro m
    unfold TM.go
    cases m.left with
    | nil => exact ⟨Int.le_refl _, by show clk ≤ clk + 1; omega⟩
    | cons x l =>
      simp only
      split
      · exact he m x
      · split
        · exact he m x
        · exact he m x
  unfold TM.step
  split
  · exact hg _
  · split
    · exact hg _
    · exact ⟨Int.le_refl _, by show clk ≤ clk + 1; omega⟩
theorem mu_zero (tx : TInv 6 m N) (h : mu m = 0) : m.st ≠ 2 := by
  intro h2
  unfold mu at h
  rw [if_neg (by omega), if_pos h2] at h
  exact tx.left_ne h2 (List.eq_nil_of_length_eq_zero h)
end
end Ser
end Go.Lg.Try
