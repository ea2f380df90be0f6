/- SetsTells: the sets do exactly what the document defines. -/
import Derived.Test.YtciiigaagggefaaPref15c
import Derived.Test.YtciiigaagggefaaPokS
namespace Go.Lg.Try
set_option linter.unusedVariables false
set_option linter.unusedSimpArgs false
open Go Go.Proofs
namespace Tells
def Q : Value → AH → Prop := fun v _ => v = .bool true
/-- the document's marks tell what taking back leaves -/
structure Sn (σ : St) (sn : List (List (Int × Int))) : Prop where
  l : sn.length = σ.marks.length
  j : ∀ (k : Nat) w, sn[k]? = some w → ∃ n, Jv σ k n w
namespace Sn
variable {σ : St} {sn : List (List (Int × Int))}
theorem new : Sn {} [] := ⟨rfl, fun _ _ h => by simp at h⟩
theorem read (m : Sn σ sn) (i v : Int) : Sn (σ.read i v).2 sn := ⟨m.l, fun k w h => by obtain ⟨n, j⟩ := m.j k w h; exact ⟨n, j.read i v⟩⟩
theorem write_marks (i v : Int) : (σ.write i v).2.marks = σ.marks := by
  unfold St.write
  split
  · rfl
  · split <;> rfl
theorem write (m : Sn σ sn) (i v : Int) : Sn (σ.write i v).2 sn := ⟨by rw [write_marks]; exact m.l, fun k w h => by obtain ⟨n, j⟩ := m.j k w h; exact ⟨n, j.write i v⟩⟩
theorem write_eq (i v : Int) : (σ.write i v).1 = (wrM σ.writes i v).1 ∧ (σ.write i v).2.writes = (wrM σ.writes i v).2 ∧ (σ.write i v).2.reads = σ.reads := by
  unfold St.write wrM
  split
  · exact ⟨rfl, rfl, rfl⟩
  · split <;> exact ⟨rfl, rfl, rfl⟩
theorem mark (m : Sn σ sn) (o : Mo σ) : Sn σ.mark.2 (if sn.length = 8 then sn else sn ++ [σ.writes]) := by
  by_cases c : sn.length = 8
  · rw [if_pos c]
    have : σ.mark.2 = σ := by unfold St.mark; rw [if_pos (by rw [← m.l]; exact c)]
    rw [this]; exact m
  · rw [if_neg c]
    have c' : ¬σ.marks.length = 8 := by rw [← m.l]; exact c
    refine ⟨?_, fun k w h => ?_⟩
    · unfold St.mark; rw [if_neg c']; simp [m.l]
    · by_cases hk : k < sn.length
      · rw [List.getElem?_append_left hk] at h
        obtain ⟨n, j⟩ := m.j k w h
        exact ⟨n, j.mark⟩
      · rw [List.getElem?_append_right (by omega)] at h
        have hk0 : k - sn.length = 0 := by
          by_cases e : k - sn.length = 0
          · exact e
          · rw [List.getElem?_eq_none (by simp; omega)] at h; simp at h
        rw [hk0] at h
        obtain rfl : σ.writes = w := by simpa using h
        have hk' : k = σ.marks.length := by have := m.l; omega
        rw [hk']
        exact ⟨_, Jv.start o c'⟩
theorem mark_eq : σ.mark.2.writes = σ.writes ∧ σ.mark.2.reads = σ.reads := by unfold St.mark; split <;> exact ⟨rfl, rfl⟩
theorem keep (m : Sn σ sn) : Sn σ.keep.2 (sn.take (sn.length - 1)) := by
  have hl := m.l
  by_cases c : σ.marks.length = 0
  · have : σ.keep.2 = σ := by unfold St.keep; rw [if_pos c]
    rw [this, List.take_of_length_le (by omega)]; exact m
  · refine ⟨?_, fun k w h => ?_⟩
    · unfold St.keep St.last; simp only [c, if_false, List.length_take]; omega
    · have hk : k < sn.length - 1 := by have := (List.getElem?_eq_some_iff.mp h).1; rw [List.length_take] at this; omega
      rw [List.getElem?_take_of_lt hk] at h
      obtain ⟨n, j⟩ := m.j k w h
      exact ⟨n, j.keep (by omega)⟩
theorem keep_eq : σ.keep.2.writes = σ.writes ∧ σ.keep.2.reads = σ.reads := by unfold St.keep St.last; split <;> exact ⟨rfl, rfl⟩
theorem undo (m : Sn σ sn) (o : Mo σ) : Sn σ.undo.2 (sn.take (sn.length - 1)) ∧ σ.undo.2.writes = (sn[sn.length - 1]?).getD σ.writes ∧ σ.undo.2.reads = σ.reads := by
  have hl := m.l
  by_cases c : σ.marks.length = 0
  · have : σ.undo.2 = σ := by unfold St.undo; rw [if_pos c]
    rw [this, List.take_of_length_le (by omega), List.getElem?_eq_none (by omega)]; exact ⟨m, rfl, rfl⟩
  · refine ⟨⟨?_, fun k w h => ?_⟩, ?_, ?_⟩
    · unfold St.undo St.last; simp only [c, if_false, List.length_take]; omega
    · have hk : k < sn.length - 1 := by have := (List.getElem?_eq_some_iff.mp h).1; rw [List.length_take] at this; omega
      rw [List.getElem?_take_of_lt hk] at h
      obtain ⟨n, j⟩ := m.j k w h
      exact ⟨n, j.undo (by omega) o.s⟩
    · obtain ⟨w, hw⟩ : ∃ w, sn[sn.length - 1]? = some w := ⟨_, List.getElem?_eq_getElem (by omega)⟩
      obtain ⟨n, j⟩ := m.j _ w hw
      have ha := j.at_
      rw [hl] at ha
      rw [hw, Option.getD_some, ← j.bk]
      unfold St.undo St.last
      simp only [c, if_false, ha, Option.getD_some, Int.toNat_natCast]
    · unfold St.undo St.last; simp only [c, if_false]
end Sn
/-- both sets, and what lies beside them -/
structure TI (h : AH) (s : Nat) (A : SA) (σ : St) (r : Nat) (B : RA) (R W : List (Int × Int)) (sn : List (List (Int × Int))) (K : List (Option Addr × List Value)) : Prop where
  S : SQ h s A σ
  R : RR h r B R W sn
  dis : ∀ b, own s A b → ¬ rown r B b
  k : ∀ p ∈ K, Rd h p.1 p.2 ∧ ∀ b, blk p.1 b → ¬ own s A b ∧ ¬ rown r B b ∧ b < h.n
namespace TI
variable {h h' : AH} {s : Nat} {A A' : SA} {σ σ' : St} {r : Nat} {B B' : RA} {R W R' W' : List (Int × Int)} {sn sn' : List (List (Int × Int))} {K : List (Option Addr × List Value)}
theorem same (t : TI h s A σ r B R W sn K) (hg : ∀ b, b < h.n → (own s A b ∨ rown r B b ∨ ∃ p ∈ K, blk p.1 b) → h'.get b = h.get b) (hn : h.n ≤ h'.n) : TI h' s A σ r B R W sn K :=
  ⟨t.S.same (fun b h1 h2 => hg b h1 (.inl h2)) hn, t.R.same (fun b h1 h2 => hg b h1 (.inr (.inl h2))) hn, t.dis, fun p hp => ⟨Rd.same (t.k p hp).1 (fun b h1 h2 => hg b h1 (.inr (.inr ⟨p, hp, h2⟩))) hn, fun b hb => ⟨((t.k p hp).2 b hb).1, ((t.k p hp).2 b hb).2.1, Nat.lt_of_lt_of_le ((t.k p hp).2 b hb).2.2 hn⟩⟩⟩
theorem fr (t : TI h s A σ r B R W sn K) (f : Fr [] h h') : TI h' s A σ r B R W sn K := t.same (fun b hb _ => f.g b hb (by simp)) f.n
theorem mvS (t : TI h s A σ r B R W sn K) (q : SQ h' s A' σ') (m : Mv s A A' h h') : TI h' s A' σ' r B R W sn K :=
  ⟨q, t.R.same (fun b h1 h2 => m.g b h1 fun h3 => t.dis b h3 h2) m.n, fun b h1 h2 => (m.o b h1).elim (fun h3 => t.dis b h3 h2) fun h3 => by have := t.R.own_lt h2; omega,
    fun p hp => ⟨Rd.same (t.k p hp).1 (fun b h1 h2 => m.g b h1 ((t.k p hp).2 b h2).1) m.n, fun b hb => ⟨fun ho => (m.o b ho).elim ((t.k p hp).2 b hb).1 fun h3 => by have := ((t.k p hp).2 b hb).2.2; omega, ((t.k p hp).2 b hb).2.1, Nat.lt_of_lt_of_le ((t.k p hp).2 b hb).2.2 m.n⟩⟩⟩
theorem mvR (t : TI h s A σ r B R W sn K) (q : RR h' r B' R' W' sn') (m : Mr r B B' h h') : TI h' s A σ r B' R' W' sn' K :=
  ⟨t.S.same (fun b h1 h2 => m.g b h1 fun h3 => t.dis b h2 h3) m.n, q, fun b h1 h2 => (m.o b h2).elim (fun h3 => t.dis b h1 h3) fun h3 => by have := t.S.lt b h1; omega,
    fun p hp => ⟨Rd.same (t.k p hp).1 (fun b h1 h2 => m.g b h1 ((t.k p hp).2 b h2).2.1) m.n, fun b hb => ⟨((t.k p hp).2 b hb).1, fun ho => (m.o b ho).elim ((t.k p hp).2 b hb).2.1 fun h3 => by have := ((t.k p hp).2 b hb).2.2; omega, Nat.lt_of_lt_of_le ((t.k p hp).2 b hb).2.2 m.n⟩⟩⟩
theorem add (t : TI h s A σ r B R W sn K) {p : Option Addr × List Value} (h1 : Rd h p.1 p.2) (h2 : ∀ b, blk p.1 b → ¬ own s A b ∧ ¬ rown r B b ∧ b < h.n) : TI h s A σ r B R W sn (p :: K) :=
  ⟨t.S, t.R, t.dis, fun q hq => by
    rcases List.mem_cons.mp hq with rfl | hq
    · exact ⟨h1, h2⟩
    · exact t.k q hq⟩
theorem sub (t : TI h s A σ r B R W sn K) {L : List (Option Addr × List Value)} (hl : ∀ p ∈ L, p ∈ K) : TI h s A σ r B R W sn L := ⟨t.S, t.R, t.dis, fun p hp => t.k p (hl p hp)⟩
end TI
theorem opld {h : AH} {q : Nat} {x : SOp} (hr : Rd h (some ⟨q, 0, none⟩) (encSOp x)) : h.ldI .i64 q (0 + 0) = some x.kind ∧ h.ldI .i64 q (0 + 1) = some x.i ∧ h.ldI .i64 q (0 + 2) = some x.v ∧ h.ldI .i64 q (0 + 3) = some x.ver := by
  obtain ⟨ad, ha, hrd⟩ := hr.some (by simp [encSOp])
  obtain rfl := Option.some.inj ha
  exact ⟨(hrd 0).1 _ _ rfl, (hrd 1).1 _ _ rfl, (hrd 2).1 _ _ rfl, (hrd 3).1 _ _ rfl⟩
section
variable {s r : Nat} {a1 : Option Addr} {l2 c3 : Nat} {ops : List SOp}
theorem ending {h : AH} {A : SA} {σ : St} {B : RA} {sn : List (List (Int × Int))} {N : Nat} (t : TI h s A σ r B σ.reads σ.writes sn [(a1, ops.flatMap encSOp)]) (w : Wf σ N) (hN : N < 900000) :
    Ok (law15_SetsTells_j1 (some ⟨s, 0, none⟩) h (some ⟨r, 0, none⟩)) Q := by
  have wz := w.sz
  refine Ok.le ?_ law15_SetsTells_j1_le
  refine Ok.bind (set_reads t.S (wk_of w.rk) (by omega)) ?_
  rintro _ h2 ⟨a2, c2, rfl, F2⟩
  simp only [asS_s, Option.bind_some]
  have t2 := t.fr F2.f
  refine Ok.bind (rreads t2.R (by omega)) ?_
  rintro _ h3 ⟨a3, c3, rfl, F3⟩
  simp only [asS_s, Option.bind_some]
  have t3 := t2.fr F3.f
  have ls := sortI_len (σ.reads.map Prod.fst)
  rw [List.length_map] at ls
  rw [sameInts_eq c2 c3 (F2.o.rd.fr F3.f (by simp)) F3.o.rd F2.e F3.e (by omega)]
  simp only [asB_b, Option.bind_some, decide_true, cond_t]
  refine Ok.bind (set_writes t3.S (wk_of w.wk) (by omega)) ?_
  rintro _ h4 ⟨a4, c4, rfl, F4⟩
  simp only [asS_s, Option.bind_some]
  have t4 := t3.fr F4.f
  refine Ok.bind (rwrites t4.R (by omega)) ?_
  rintro _ h5 ⟨a5, c5, rfl, F5⟩
  simp only [asS_s, Option.bind_some]
  have lw := sortI_len (σ.writes.map Prod.fst)
  rw [List.length_map] at lw
  rw [sameInts_eq c4 c5 (F4.o.rd.fr F5.f (by simp)) F5.o.rd F4.e F5.e (by omega)]
  simp only [asB_b, Option.bind_some, decide_true, cond_t, C_closed (f := k_law15_awake) rfl h5]
  exact Ok.some rfl
theorem ow_lt' {h : AH} {sz : Nat} {a : Option Addr} {n c : Nat} {cs : List Value} (ho : Ow h sz a n c cs) : ∀ b, blk a b → b < h.n := by
  cases ho with
  | nil => intro b hb; cases hb
  | mk hb hl hn => intro b hb; obtain rfl : _ = b := hb; exact hn
theorem ow_same {h h' : AH} {sz : Nat} {a : Option Addr} {n c : Nat} {cs : List Value} (ho : Ow h sz a n c cs) (hg : ∀ b, b < h.n → blk a b → h'.get b = h.get b) (hn : h.n ≤ h'.n) : Ow h' sz a n c cs := by
  cases ho with
  | nil => exact .nil
  | mk hb hl hlt => exact .mk (by rw [hg _ hlt rfl]; exact hb) hl (Nat.lt_of_lt_of_le hlt hn)
/-- a list of numbers is spoilt -/
theorem loop3 {p20 p9 p6 : Option Addr} {x10 x73 : Int} {a67 a70 : Option Addr} {l68 c69 l71 c72 : Nat} {a : Option Addr} {c : Nat} {h0 : AH} (m : Nat) (hm : m < 1000000)
    (K : ∀ h, h.n = h0.n → (∀ b, ¬ blk a b → h.get b = h0.get b) → Ok (law15_SetsTells_j5 p20 x10 p9 p6 a1 l2 c3 a67 l68 c69 a70 l71 c72 x73 h) Q) :
    ∀ (n k : Nat) (l : List Int) (h : AH), m - k = n → k ≤ m → l.length = m → Ow h 1 a m c (l.flatMap encI) → h.n = h0.n → (∀ b, ¬ blk a b → h.get b = h0.get b) →
    Ok (law15_SetsTells_L3 x73 a67 l68 c69 a70 l71 c72 p20 x10 p9 p6 a1 l2 c3 a m c ((m : Nat) : Int) k h) Q := by
  intro n
  induction n with
  | zero =>
    intro k l h hn hk hl ho h1 h2
    refine Ok.le ?_ law15_SetsTells_L3_le
    refine Ok.le ?_ law15_SetsTells_j8_le
    rw [dec_f (by omega), cond_f]
    exact K h h1 h2
  | succ n ih =>
    intro k l h hn hk hl ho h1 h2
    refine Ok.le ?_ law15_SetsTells_L3_le
    refine Ok.le ?_ law15_SetsTells_j8_le
    rw [dec_t (by omega), cond_t]
    refine Ok.le ?_ law15_SetsTells_j7_le
    obtain ⟨y, hy⟩ : ∃ y, l[k]? = some y := ⟨_, List.getElem?_eq_getElem (by omega)⟩
    obtain ⟨ad, rfl, _⟩ := rd_int ho.rd hy
    obtain ⟨b, rfl⟩ : ∃ b, ad = ⟨b, 0, none⟩ := by
      generalize l.flatMap encI = cs at ho
      cases ho; exact ⟨_, rfl⟩
    obtain ⟨h', e1, e2, e3, e4⟩ := Ow.st1 ho (k := k) (by omega) (-1)
    have hb : inB ((k : Nat) : Int) m = true := inB_t (by omega) (by omega)
    simp only [Option.bind_some, hb, cond_t, Int.toNat_natCast, e1]
    refine Ok.le ?_ law15_SetsTells_j6_le
    rw [show IntKind.wrap .i64 (((k : Nat) : Int) + 1) = ((k + 1 : Nat) : Int) by rw [wrap64 (by omega) (by omega)]; omega]
    exact ih (k + 1) _ h' (by omega) (by omega) (by rw [List.length_set]; exact hl) e2 (by omega) fun b' hb' => (e4 b' fun e => hb' e.symm).trans (h2 b' hb')
abbrev KK (a1 : Option Addr) (ops : List SOp) (q : Nat) (x : SOp) : List (Option Addr × List Value) := [(some ⟨q, 0, none⟩, encSOp x), (a1, ops.flatMap encSOp)]
/-- behind a call: what is told of one cell -/
theorem behind {h : AH} {A : SA} {σ : St} {B : RA} {sn : List (List (Int × Int))} {q : Nat} {x : SOp} {k : Nat} {v : Int} {N : Nat} (t : TI h s A σ r B σ.reads σ.writes sn (KK a1 ops q x)) (hsn : sn.length = σ.marks.length) (w : Wf σ N) (hN : N < 900000)
    (next : ∀ h', Fr [] h h' → Ok (law15_SetsTells_j2 l2 a1 (some ⟨s, 0, none⟩) c3 (some ⟨r, 0, none⟩) k h') Q) : Ok (law15_SetsTells_j4 (some ⟨q, 0, none⟩) (some ⟨s, 0, none⟩) (some ⟨r, 0, none⟩) l2 a1 c3 k v v h) Q := by
  have wz := w.sz
  refine Ok.le ?_ law15_SetsTells_j4_le
  obtain ⟨_, ki, _, _⟩ := opld (t.k (some ⟨q, 0, none⟩, encSOp x) (by simp)).1
  have e1 : (aok (alook σ.writes x.i) == aok (alook σ.writes x.i)) = true := by simp
  have e2 : (aok (alook σ.reads x.i) == aok (alook σ.reads x.i)) = true := by simp
  simp only [Option.bind_some, ki, set_value t.S, rvalue t.R x.i (by omega), set_seen t.S, rseen t.R x.i (by omega), asTu_t, hdO_c, asI_i64, asB_b, List.isEmpty_nil, cond_t, decide_true, Bool.not_true, cond_f, e1, e2, set_depth t.S, t.R.c2, veqO_slice, veqO_int, t.R.ml, hsn]
  refine Ok.le ?_ law15_SetsTells_j3_le
  rw [cond_f]
  exact next h (.refl _ _)
theorem loop1 (hl2 : l2 = ops.length) : ∀ (n k : Nat) {h : AH} {A : SA} {σ : St} {B : RA} {sn : List (List (Int × Int))} {N : Nat}, 600 - k = n → k ≤ 600 → TI h s A σ r B σ.reads σ.writes sn [(a1, ops.flatMap encSOp)] → Sn σ sn → Mo σ → Wf σ N → N + 2 * n < 800000 →
    Ok (law15_SetsTells_L1 l2 a1 (some ⟨s, 0, none⟩) c3 (some ⟨r, 0, none⟩) k h) Q := by
  intro n
  induction n with
  | zero =>
    intro k h A σ B sn N hn hk t hsn o w hN
    refine Ok.le ?_ law15_SetsTells_L1_le
    rw [dec_f (show ¬((k : Nat) : Int) < 600 by omega), cond_f]
    cases decide (((k : Nat) : Int) < ((l2 : Nat) : Int)) <;> exact ending t w (by omega)
  | succ n ih =>
    intro k h A σ B sn N hn hk t hsn o w hN
    have wz := w.sz
    have wm := w.ml
    have hsl := hsn.l
    refine Ok.le ?_ law15_SetsTells_L1_le
    by_cases c : k < ops.length
    · rw [dec_t (by omega), cond_t, dec_t (show ((k : Nat) : Int) < 600 by omega), cond_t]
      refine Ok.le ?_ law15_SetsTells_j13_le
      obtain ⟨x, hx⟩ : ∃ x, ops[k]? = some x := ⟨_, List.getElem?_eq_getElem c⟩
      obtain ⟨ad, ea, r0, r1, r2, r3⟩ := op_read (t.k (a1, ops.flatMap encSOp) (by simp)).1 hx
      simp only at ea
      obtain ⟨h15, g1, g2, g3, g4⟩ := push_st h [.int .i64 0, .int .i64 0, .int .i64 0, .int .i64 0] (encSOp x) 4 rfl
      have g1' : (h.push (.cells [.int .i64 0, .int .i64 0, .int .i64 0, .int .i64 0] false false 4)).st h.n 0 [.int .i64 x.kind, .int .i64 x.i, .int .i64 x.v, .int .i64 x.ver] = some h15 := g1
      have hb : inB ((k : Nat) : Int) l2 = true := inB_t (by omega) (by omega)
      rw [ea]
      simp only [Option.bind_some, hb, cond_t, Int.toNat_natCast, r0, r1, r2, r3, g1', AH.ldI_of (k := .i64) (o := 0 + 0) g2 rfl]
      rw [← ea]
      have t15 : TI h15 s A σ r B σ.reads σ.writes sn (KK a1 ops h.n x) := (t.fr g3).add (.inr ⟨_, _, _, _, _, rfl, g2, by show h.n < h15.n; omega, fun j v hj => by rw [Nat.zero_add]; exact hj⟩) fun b hb => by
        obtain rfl : h.n = b := hb
        exact ⟨fun ho => by have := t.S.lt _ ho; omega, fun ho => by have := t.R.own_lt ho; omega, by omega⟩
      have nxt : ∀ {h' : AH} {A' : SA} {σ' : St} {B' : RA} {sn' : List (List (Int × Int))} {v : Int}, TI h' s A' σ' r B' σ'.reads σ'.writes sn' (KK a1 ops h.n x) → Sn σ' sn' → Mo σ' → Wf σ' (N + 2) → Ok (law15_SetsTells_j4 (some ⟨h.n, 0, none⟩) (some ⟨s, 0, none⟩) (some ⟨r, 0, none⟩) l2 a1 c3 k v v h') Q := by
        intro h' A' σ' B' sn' v q1 q2 q3 q4
        refine behind q1 q2.l q4 (by omega) fun h2 f2 => ?_
        refine Ok.le ?_ law15_SetsTells_j2_le
        rw [show IntKind.wrap .i64 (((k : Nat) : Int) + 1) = ((k + 1 : Nat) : Int) by rw [wrap64 (by omega) (by omega)]; omega]
        exact ih (k + 1) (by omega) (by omega) ((q1.fr f2).sub fun p hp => by simp only [List.mem_cons] at hp ⊢; exact .inr hp) q2 q3 q4 (by omega)
      obtain ⟨ok0, ok1, ok2, ok3⟩ := opld (t15.k (some ⟨h.n, 0, none⟩, encSOp x) (by simp)).1
      have j11 : ¬(x.kind = 0 ∨ x.kind = 1) → ∀ b, (b = true ↔ x.kind = 2 ∨ x.kind = 3) → Ok (law15_SetsTells_j11 (some ⟨h.n, 0, none⟩) h15 (some ⟨s, 0, none⟩) (some ⟨r, 0, none⟩) l2 a1 c3 k x.kind b) Q := by
        intro h0 b hb
        refine Ok.le ?_ law15_SetsTells_j11_le
        cases b with
        | true =>
          simp only [cond_t, Option.bind_some, ok1, ok2]
          refine Ok.bind (set_write t15.S (by omega) x.i x.v) ?_
          rintro _ h2 ⟨rfl, A2, q1, q2⟩
          have t2 := t15.mvS q1 q2
          obtain ⟨_, k1, k2, _⟩ := opld (t2.k (some ⟨h.n, 0, none⟩, encSOp x) (by simp)).1
          simp only [asI_i64, Option.bind_some, k1, k2, veqO_int, cond_t]
          refine Ok.bind (rwrite t2.R x.i x.v (by omega)) ?_
          rintro _ h3 ⟨rfl, B3, q3, q4⟩
          have t3 := t2.mvR q3 q4
          obtain ⟨e1, e2, e3⟩ := Sn.write_eq (σ := σ) x.i x.v
          simp only [asI_i64, Option.bind_some]
          rw [e1]
          rw [← e2, ← e3] at t3
          exact nxt t3 (hsn.write _ _) (o.write _ _) (w.write _ _)
        | false =>
          rw [cond_f]
          by_cases c4 : x.kind = 4
          · rw [dec_t c4, cond_t]
            refine Ok.bind (set_mark t15.S wm) ?_
            rintro _ h2 ⟨rfl, A2, q1, q2⟩
            have t2 := t15.mvS q1 q2
            simp only [asI_i64, Option.bind_some]
            refine Ok.bind (rmark t2.R (by omega) (by omega)) ?_
            rintro _ h3 ⟨rfl, B3, q3, q4⟩
            have t3 := t2.mvR q3 q4
            simp only [asI_i64, Option.bind_some]
            obtain ⟨e2, e3⟩ := Sn.mark_eq (σ := σ)
            have e1 : σ.mark.1 = if sn.length = 8 then 3 else 0 := by rw [hsl]; unfold St.mark; split <;> rfl
            rw [e1]
            have h4 := hsn.mark o
            have e4 : TI h3 s A2 σ.mark.2 r B3 σ.mark.2.reads σ.mark.2.writes (if sn.length = 8 then sn else sn ++ [σ.writes]) (KK a1 ops h.n x) := by rw [e2, e3]; exact t3
            exact nxt e4 h4 o.mark w.mark
          · rw [dec_f c4, cond_f]
            by_cases c5 : x.kind = 5
            · rw [dec_t c5, cond_t]
              refine Ok.bind (set_keep t15.S wm) ?_
              rintro _ h2 ⟨rfl, A2, q1, q2⟩
              have t2 := t15.mvS q1 q2
              simp only [asI_i64, Option.bind_some]
              refine Ok.bind (rkeep t2.R (by omega)) ?_
              rintro _ h3 ⟨rfl, B3, q3, q4⟩
              have t3 := t2.mvR q3 q4
              simp only [asI_i64, Option.bind_some]
              obtain ⟨e2, e3⟩ := Sn.keep_eq (σ := σ)
              have e1 : σ.keep.1 = if sn.length = 0 then 136 else 0 := by rw [hsl]; unfold St.keep; split <;> rfl
              rw [e1]
              have e4 : TI h3 s A2 σ.keep.2 r B3 σ.keep.2.reads σ.keep.2.writes (sn.take (sn.length - 1)) (KK a1 ops h.n x) := by rw [e2, e3]; exact t3
              exact nxt e4 hsn.keep o.keep w.keep
            · rw [dec_f c5, cond_f]
              by_cases c6 : x.kind = 6
              · rw [dec_t c6, cond_t]
                refine Ok.bind (set_undo t15.S wm (by omega) w.m0) ?_
                rintro _ h2 ⟨rfl, A2, q1, q2⟩
                have t2 := t15.mvS q1 q2
                simp only [asI_i64, Option.bind_some]
                refine Ok.bind (rundo t2.R (by omega)) ?_
                rintro _ h3 ⟨rfl, B3, q3, q4⟩
                have t3 := t2.mvR q3 q4
                simp only [asI_i64, Option.bind_some]
                obtain ⟨h4, e2, e3⟩ := hsn.undo o
                have e1 : σ.undo.1 = if sn.length = 0 then 136 else 0 := by rw [hsl]; unfold St.undo; split <;> rfl
                rw [e1]
                have e4 : TI h3 s A2 σ.undo.2 r B3 σ.undo.2.reads σ.undo.2.writes (sn.take (sn.length - 1)) (KK a1 ops h.n x) := by rw [e2, e3]; exact t3
                exact nxt e4 h4 (o.undo w.m0) w.undo
              · rw [dec_f c6, cond_f]
                by_cases c7 : x.kind = 7
                · rw [dec_t c7, cond_t]
                  refine Ok.bind (set_reads t15.S (wk_of w.rk) (by omega)) ?_
                  rintro _ h2 ⟨a2, c2, rfl, F2⟩
                  simp only [asS_s, Option.bind_some]
                  have t2 := t15.fr F2.f
                  refine Ok.bind (set_writes t2.S (wk_of w.wk) (by omega)) ?_
                  rintro _ h3 ⟨a3, c3', rfl, F3⟩
                  simp only [asS_s, Option.bind_some]
                  have t3 := t2.fr F3.f
                  have ls := sortI_len (σ.reads.map Prod.fst)
                  have lw := sortI_len (σ.writes.map Prod.fst)
                  rw [List.length_map] at ls lw
                  -- what no owner has
                  have far : ∀ {g : AH}, TI g s A σ r B σ.reads σ.writes sn (KK a1 ops h.n x) → (∀ b, (own s A b ∨ rown r B b ∨ ∃ p ∈ KK a1 ops h.n x, blk p.1 b) → b < h15.n) := fun {g} _ b hb => by
                    rcases hb with hb | hb | ⟨p, hp, hb⟩
                    · exact t15.S.lt b hb
                    · exact t15.R.own_lt hb
                    · exact ((t15.k p hp).2 b hb).2.2
                  refine Ok.le ?_ law15_SetsTells_L2_le
                  refine Ok.le ?_ law15_SetsTells_j10_le
                  rw [dec_t (by decide), cond_t]
                  refine Ok.le ?_ law15_SetsTells_j9_le
                  have i0 : inB (0 : Int) 2 = true := rfl
                  have v0 : ([.slice a2 σ.reads.length c2, .slice a3 σ.writes.length c3'] : List Value)[(0 : Int).toNat * 1]? = some (.slice a2 σ.reads.length c2) := rfl
                  simp only [i0, cond_t, v0, Option.bind_some, asS_s]
                  have O2 : Ow h3 1 a2 σ.reads.length c2 ((sortI (σ.reads.map Prod.fst)).flatMap encI) := F2.o.fr F3.f (by simp)
                  refine loop3 (h0 := h3) σ.reads.length (by omega) ?_ _ 0 _ h3 rfl (by omega) ls O2 rfl fun _ _ => rfl
                  intro h4 n4 g4
                  have t4 : TI h4 s A σ r B σ.reads σ.writes sn (KK a1 ops h.n x) := t3.same (fun b _ hb => g4 b fun hb2 => by have := far t3 b hb; have := F2.b b hb2; omega) (by omega)
                  refine Ok.le ?_ law15_SetsTells_j5_le
                  refine Ok.le ?_ law15_SetsTells_L2_le
                  have w1 : IntKind.wrap .i64 ((0 : Int) + 1) = 1 := rfl
                  rw [w1]
                  refine Ok.le ?_ law15_SetsTells_j10_le
                  rw [dec_t (by decide), cond_t]
                  refine Ok.le ?_ law15_SetsTells_j9_le
                  have i1 : inB (1 : Int) 2 = true := rfl
                  have v1 : ([.slice a2 σ.reads.length c2, .slice a3 σ.writes.length c3'] : List Value)[(1 : Int).toNat * 1]? = some (.slice a3 σ.writes.length c3') := rfl
                  simp only [i1, cond_t, v1, Option.bind_some, asS_s]
                  have O3 : Ow h4 1 a3 σ.writes.length c3' ((sortI (σ.writes.map Prod.fst)).flatMap encI) := ow_same F3.o (fun b _ hb => g4 b fun hb2 => by have := F3.b b hb; have := ow_lt' F2.o b hb2; omega) (by omega)
                  refine loop3 (h0 := h4) σ.writes.length (by omega) ?_ _ 0 _ h4 rfl (by omega) lw O3 rfl fun _ _ => rfl
                  intro h5 n5 g5
                  have t5 : TI h5 s A σ r B σ.reads σ.writes sn (KK a1 ops h.n x) := t4.same (fun b _ hb => g5 b fun hb2 => by have := far t4 b hb; have := F3.b b hb2; have := F2.f.n; omega) (by omega)
                  refine Ok.le ?_ law15_SetsTells_j5_le
                  refine Ok.le ?_ law15_SetsTells_L2_le
                  have w2 : IntKind.wrap .i64 ((1 : Int) + 1) = 2 := rfl
                  rw [w2]
                  refine Ok.le ?_ law15_SetsTells_j10_le
                  rw [dec_f (by decide), cond_f]
                  exact nxt t5 hsn o (w.more (by omega))
                · rw [dec_f c7, cond_f]
                  exact nxt t15 hsn o (w.more (by omega))
      have j12 : ∀ b, (b = true ↔ x.kind = 0 ∨ x.kind = 1) → Ok (law15_SetsTells_j12 h15 (some ⟨s, 0, none⟩) (some ⟨r, 0, none⟩) l2 a1 c3 k x.kind (some ⟨h.n, 0, none⟩) b) Q := by
        intro b hb
        refine Ok.le ?_ law15_SetsTells_j12_le
        cases b with
        | true =>
          simp only [cond_t, Option.bind_some, ok1, ok3]
          refine Ok.bind (set_rd t15.S x.i x.ver) ?_
          rintro _ h2 ⟨rfl, q1, q2⟩
          have t2 := t15.mvS q1 q2
          obtain ⟨_, k1, _, k3⟩ := opld (t2.k (some ⟨h.n, 0, none⟩, encSOp x) (by simp)).1
          simp only [asI_i64, Option.bind_some, k1, k3, veqO_int, cond_t]
          refine Ok.bind (rread t2.R x.i x.ver (by omega)) ?_
          rintro _ h3 ⟨rfl, B3, q3, q4⟩
          have t3 := t2.mvR q3 q4
          simp only [asI_i64, Option.bind_some]
          exact nxt (σ' := (σ.read x.i x.ver).2) t3 (hsn.read _ _) (o.read _ _) (w.read _ _)
        | false =>
          have h1 : ¬(x.kind = 0 ∨ x.kind = 1) := fun e => by have := hb.mpr e; simp at this
          rw [cond_f]
          by_cases c2 : x.kind = 2
          · rw [dec_t c2, cond_t]; exact j11 h1 _ (by simp [c2])
          · rw [dec_f c2, cond_f]; exact j11 h1 _ (by simp [c2])
      by_cases c0 : x.kind = 0
      · rw [dec_t c0, cond_t]; exact j12 _ (by simp [c0])
      · rw [dec_f c0, cond_f]; exact j12 _ (by simp [c0])
    · rw [dec_f (by omega), cond_f]
      exact ending t w (by omega)
end
theorem main (h : AH) {a1 : Option Addr} {l2 c3 : Nat} {ops : List SOp} (hs1 : SlIn h encSOp (fun _ => True) a1 l2 c3 ops) : Ok (C k_law15_SetsTells [.slice a1 l2 c3] h) Q := by
  refine Ok.le ?_ law15_SetsTells_le
  unfold F_law15_SetsTells
  obtain ⟨h1, e1, s1, n1, f1⟩ := set_new h
  simp only [e1, Option.bind_some, asP_p, Option.isNone_some, cond_f]
  refine Ok.le ?_ law15_SetsTells_j14_le
  have f2 : Fr [] h1 (h1.push (.cells [.slice none 0 0, .slice none 0 0, .slice none 0 0] false false 3)) := Fr.push _ _ _
  have own1 : ∀ b, own (h.n + 2) ⟨h.n, h.n + 1, none, 0, 0, none, 0, 0⟩ b → h.n ≤ b ∧ b < h1.n := fun b hb => by
    rcases hb with hb | hb | hb | hb | hb
    · omega
    · simp only at hb; omega
    · simp only at hb; omega
    · exact hb.elim
    · exact hb.elim
  have rown1 : ∀ b, rown h1.n ⟨none, 0, 0, none, 0, 0, none, 0, 0, []⟩ b → b = h1.n := fun b hb => by
    obtain ⟨y, hy, hb⟩ := hb
    unfold RA.ls at hy
    simp only [List.map_nil, List.mem_cons, List.not_mem_nil, or_false] at hy
    rcases hy with rfl | rfl | rfl | rfl
    · exact hb.symm
    · exact hb.elim
    · exact hb.elim
    · exact hb.elim
  refine loop1 (s := h.n + 2) (r := h1.n) (ops := ops) hs1.len 600 0 (A := ⟨h.n, h.n + 1, none, 0, 0, none, 0, 0⟩) (σ := {}) (B := ⟨none, 0, 0, none, 0, 0, none, 0, 0, []⟩) (sn := []) (N := 0) rfl (by omega) ⟨s1.fr f2, ⟨AH.get_push_eq _ _, .nil, .s .nil, .nil, fun _ _ h => by simp at h, rfl, ?_, by show h1.n < h1.n + 1; omega⟩, fun b hb hb2 => by have := own1 b hb; have := rown1 b hb2; omega, fun p hp => ?_⟩ Sn.new Mo.new Wf.new (by decide)
  · show List.Pairwise dj [some ⟨h1.n, 0, none⟩, none, none, none]
    simp [dj, blk]
  · obtain rfl : p = (a1, ops.flatMap encSOp) := by simpa using hp
    refine ⟨(hs1.rd.fr f1 (by simp)).fr f2 (by simp), fun b hb => ?_⟩
    have := hs1.lt b hb
    exact ⟨fun ho => by have := own1 b ho; omega, fun ho => by have := rown1 b ho; omega, by show b < h1.n + 1; omega⟩
end Tells
end Go.Lg.Try
