/- WaitTells: parking, changes and forgetting do what the document defines. -/
import Derived.Test.YtodbjmagcelfjaaGreatPwaitL
import Derived.Test.YtodbjmagcelfjaaGreatPkitPick
import Derived.Test.YtodbjmagcelfjaaGreatFlaw18
namespace Go.Lg.Tryz
set_option linter.unusedVariables false
set_option linter.unusedSimpArgs false
open Go Go.Proofs
namespace Tells
def Q : Value → AH → Prop := fun v _ => v = .bool true
structure Op where
  kind : Int
  i : Int
  n : Int
def encOp (x : Op) : List Value := [.int .i64 x.kind, .int .i64 x.i, .int .i64 x.n]
theorem encOp_len (x : Op) : (encOp x).length = 3 := rfl
def goodOp (x : Op) : Prop := (Lit.int .i64 x.kind).wf = true ∧ (Lit.int .i64 x.i).wf = true ∧ (Lit.int .i64 x.n).wf = true
/-- the cells: nobody holds one -/
structure PB (B : Nat) (cs : List Cel) (clk : Int) : Prop where
  n : cs.length = B
  c : ∀ (i : Nat) c, cs[i]? = some c → c.own = 0 ∧ 0 ≤ c.ver ∧ c.ver ≤ clk
  p : 0 ≤ clk
theorem PB.new (B : Nat) : PB B (List.replicate B ⟨0, 0, 0⟩) 0 := ⟨List.length_replicate, fun i c h => by
  have := List.eq_of_mem_replicate (List.mem_of_getElem? h); subst this; exact ⟨rfl, by decide, by decide⟩, by decide⟩
theorem PB.free {B : Nat} {cs : List Cel} {clk : Int} (P : PB B cs clk) : freeM cs 1 = cs := by
  unfold freeM
  rw [List.map_congr_left (g := id), List.map_id]
  intro c hc
  obtain ⟨i, hi⟩ := List.getElem?_of_mem hc
  have := (P.c i c hi).1
  unfold free1
  rw [if_neg (by omega)]; rfl
theorem PB.read {B : Nat} {cs : List Cel} {clk : Int} (P : PB B cs clk) {m : TM} (ho : m.owner = 1) (i : Int) : (m.read cs i).2.2 = cs := by
  unfold TM.read
  repeat' split
  all_goals first | rfl | (rw [ho]; exact P.free)
theorem PB.abort {B : Nat} {cs : List Cel} {clk : Int} (P : PB B cs clk) {m : TM} (ho : m.owner = 1) : (m.abort cs).2.2 = cs := by
  unfold TM.abort
  split
  · rfl
  · rw [ho]; exact P.free
theorem ow_read (m : TM) (cs : List Cel) (i : Int) : (m.read cs i).2.1.owner = m.owner := by
  unfold TM.read
  repeat' split
  all_goals rfl
theorem PB.pub {B : Nat} {cs : List Cel} {clk : Int} (P : PB B cs clk) {c v : Int} (h0 : 0 ≤ c) (h1 : c < B) : ∃ cs1 cs2, lockM cs c 9 = (0, cs1) ∧ publishM cs1 (clk + 1) c 9 v (clk + 1) = (0, cs2) ∧ PB B cs2 (clk + 1) := by
  have hn := P.n
  have hc : c.toNat < cs.length := by omega
  obtain ⟨x, hx⟩ : ∃ x, cs[c.toNat]? = some x := ⟨_, List.getElem?_eq_getElem hc⟩
  obtain ⟨o1, o2, o3⟩ := P.c _ _ hx
  have hp := P.p
  refine ⟨cs.set c.toNat { x with own := 9 }, (cs.set c.toNat { x with own := 9 }).set c.toNat ⟨v, clk + 1, 0⟩, ?_, ?_, ?_⟩
  · unfold lockM
    rw [if_neg (by omega), hx]
    simp only
    rw [if_neg (by simp [o1])]
  · unfold publishM
    rw [if_neg (by rw [List.length_set]; omega), List.getElem?_set_self hc]
    simp only
    rw [if_neg (by simp), if_neg (by show ¬(clk + 1 ≤ x.ver ∨ clk + 1 < clk + 1); omega)]
  · rw [List.set_set]
    refine ⟨by rw [List.length_set]; exact hn, fun i y hy => ?_, by omega⟩
    by_cases e : c.toNat = i
    · subst e
      rw [List.getElem?_set_self hc] at hy
      obtain rfl := Option.some.inj hy
      exact ⟨rfl, (by show 0 ≤ clk + 1; omega), Int.le_refl _⟩
    · rw [List.getElem?_set_ne e] at hy
      obtain ⟨y1, y2, y3⟩ := P.c _ _ hy
      exact ⟨y1, y2, by omega⟩
structure WI (W : WL0) : Prop where
  l : W.length ≤ 64
  k : Wk (W.map Prod.fst)
theorem WI.sub {W W' : WL0} (i : WI W) (s : W'.Sublist W) : WI W' := ⟨Nat.le_trans s.length_le i.l, fun x hx => i.k x ((s.map _).subset hx)⟩
theorem WI.park {W : WL0} (i : WI W) {m : TM} {id : Int} (h : (Lit.int .i64 id).wf = true) : WI (parkM W m id).2 := by
  unfold parkM
  by_cases c1 : id < 1
  · rw [if_pos c1]; exact i
  rw [if_neg c1]
  by_cases c2 : (find id W).isSome = true
  · rw [if_pos c2]; exact i
  rw [if_neg c2]
  by_cases c3 : W.length = 64
  · rw [if_pos c3]; exact i
  rw [if_neg c3]
  refine ⟨by have := i.l; simp; omega, fun x hx => ?_⟩
  rw [List.map_append, List.mem_append] at hx
  rcases hx with hx | hx
  · exact i.k x hx
  · obtain rfl : x = id := by simpa using hx
    exact h
/-- what holds at every call -/
structure IV (k : Nat) (m : TM) (cs : List Cel) (clk : Int) (W L : WL0) : Prop where
  pb : PB 4 cs clk
  ck : clk ≤ k
  tx : ∃ N, TInv 4 m N
  ow : m.owner = 1
  rl : Rl W L
  wi : WI W
abbrev ST (p q p' q' w xw mb rb tb ub t r : Nat) (m : TM) (cs : List Cel) (clk : Int) (W L : WL0) (A : List (Option Addr × List Value)) : List Asr :=
  [aTX p t m, aMem p q cs clk, aRX p' r m, aMem p' q' cs clk, aW w p W, aWR xw p' L, Cs mb [ptr p] 1, Cs rb [ptr p'] 1, Cs tb [ptr t] 1, Cs ub [ptr r] 1, aRds A]
theorem nk_of {h : AH} {p t : Nat} {m : TM} {F : List Asr} (w : H h (aTX p t m :: F)) : Nk m.σ.writes ∧ Nk m.σ.reads := by
  obtain ⟨s, la, ln, lc, w⟩ := TX_at w
  obtain ⟨A, qs⟩ := set_at w.u1
  exact ⟨qs.w.nk, qs.r.nk⟩
section
variable {h h' : AH} {p q p' q' w xw mb rb tb ub t r ob : Nat} {m : TM} {cs : List Cel} {clk : Int} {W L : WL0} {A : List (Option Addr × List Value)} {F : List Asr} {k : Nat} {a1 : Option Addr} {l2 c3 : Nat} {o : Op}
/-- anew -/
theorem anew_ok (iv : IV k m cs clk W L) (w0 : H h (ST p q p' q' w xw mb rb tb ub t r m cs clk W L A ++ F)) : Ok (C k_law18_WaitTells_1 [ptr tb, ptr mb, ptr rb, ptr ub] h) fun v h' => v = .tuple #[] ∧ ∃ t' r', H h' (ST p q p' q' w xw mb rb tb ub t' r' (TM.new 1 clk) cs clk W L A ++ F) := by
  have hcs := iv.pb.n
  refine Ok.le ?_ law18_WaitTells_1_le
  unfold F_law18_WaitTells_1
  have e1 : h.ldP tb 0 = some (some ⟨t, 0, none⟩) := AH.ldP_of (w0.g 8 rfl) rfl
  simp only [Option.bind_some, e1]
  refine Ok.bind (MAbort w0 (by rw [iv.ow]; decide) (by omega)) ?_
  rintro _ h2 ⟨rfl, w2⟩
  rw [iv.pb.abort iv.ow] at w2
  have e2 : h2.ldP mb 0 = some (some ⟨p, 0, none⟩) := AH.ldP_of (w2.g 6 rfl) rfl
  simp only [asI_i64, Option.bind_some, e2]
  refine Ok.bind (MBegin w2.drop (o := 1) (by decide)) ?_
  rintro _ h3 ⟨t', rfl, w3⟩
  have w3' : H h3 (Cs tb [ptr t] 1 :: aTX p t' (TM.new 1 clk) :: aMem p q cs clk :: aRX p' r m :: aMem p' q' cs clk :: aW w p W :: aWR xw p' L :: Cs mb [ptr p] 1 :: Cs rb [ptr p'] 1 :: Cs ub [ptr r] 1 :: aRds A :: F) := w3.mv 8 rfl
  obtain ⟨h4, s4, w4, n4⟩ := w3'.st1 (ptr t')
  have e4 : h4.ldP rb 0 = some (some ⟨p', 0, none⟩) := AH.ldP_of (w4.g 8 rfl) rfl
  simp only [asTu_t, hdO_c, asP_p, asI_i64, Option.bind_some, List.isEmpty_nil, cond_t, s4, e4]
  refine Ok.bind (RNew ((w4.rm 3 rfl).mv 3 rfl) (o := 1) (by decide)) ?_
  rintro _ h5 ⟨r', rfl, w5⟩
  have w5' : H h5 (Cs ub [ptr r] 1 :: aRX p' r' (TM.new 1 clk) :: aMem p' q' cs clk :: Cs tb [ptr t'] 1 :: aTX p t' (TM.new 1 clk) :: aMem p q cs clk :: aW w p W :: aWR xw p' L :: Cs mb [ptr p] 1 :: Cs rb [ptr p'] 1 :: aRds A :: F) := w5.mv 9 rfl
  obtain ⟨h6, s6, w6, n6⟩ := w5'.st1 (ptr r')
  simp only [asTu_t, hdO_c, asP_p, asI_i64, Option.bind_some, List.isEmpty_nil, cond_t, s6]
  exact Ok.some ⟨rfl, t', r', w6.pm [4, 5, 1, 2, 6, 7, 8, 9, 3, 0, 10]⟩
theorem IV.new (iv : IV k m cs clk W L) : IV k (TM.new 1 clk) cs clk W L := ⟨iv.pb, iv.ck, ⟨0, TInv.new (by decide)⟩, rfl, iv.rl, iv.wi⟩
theorem IV.read (iv : IV k m cs clk W L) (i : Int) : IV k (m.read cs i).2.1 cs clk W L := by
  obtain ⟨N, t⟩ := iv.tx
  exact ⟨iv.pb, iv.ck, ⟨_, t.read iv.pb.n i⟩, by rw [ow_read]; exact iv.ow, iv.rl, iv.wi⟩
/-- behind a call: who is parked -/
theorem j3_ok (hk : k < 300) (iv : IV (k + 1) m cs clk W L) (w0 : H h (ST p q p' q' w xw mb rb tb ub t r m cs clk W L A ++ F))
    (K : ∀ h', H h' (ST p q p' q' w xw mb rb tb ub t r m cs clk W L A ++ F) → Ok (law18_WaitTells_L1 l2 a1 (some ⟨tb, 0, none⟩) (some ⟨ub, 0, none⟩) (some ⟨w, 0, none⟩) (some ⟨xw, 0, none⟩) (some ⟨mb, 0, none⟩) (some ⟨rb, 0, none⟩) c3 ((k + 1 : Nat) : Int) h') Q) :
    Ok (law18_WaitTells_j3 (some ⟨w, 0, none⟩) (some ⟨xw, 0, none⟩) l2 a1 (some ⟨tb, 0, none⟩) (some ⟨ub, 0, none⟩) (some ⟨mb, 0, none⟩) (some ⟨rb, 0, none⟩) c3 (k : Nat) h) Q := by
  have hl := iv.rl.len
  have hl2 := iv.wi.l
  refine Ok.le ?_ law18_WaitTells_j3_le
  refine Ok.bind (parked_ok (w0.mv 4 rfl) iv.wi.k (by omega)) ?_
  rintro _ h2 ⟨a, c, rfl, w2⟩
  rw [iv.rl.ids] at w2
  simp only [asS_s, Option.bind_some]
  refine Ok.bind (rparked_ok (w2.mv 6 rfl) (by omega)) ?_
  rintro _ h3 ⟨a', c', rfl, w3⟩
  have s1 := sameInts_eq (n1 := W.length) (n2 := L.length) c c' (w3.mv 2 rfl : H h3 (aOw 1 a W.length c _ :: _)).ow.rd w3.ow.rd (by rw [List.length_map, hl]) (by rw [List.length_map]) (by rw [List.length_map]; omega)
  simp only [asS_s, Option.bind_some, s1, decide_true, asB_b, Bool.not_true, cond_f]
  refine Ok.le ?_ law18_WaitTells_j2_le
  rw [show IntKind.wrap .i64 (((k : Nat) : Int) + 1) = ((k + 1 : Nat) : Int) by rw [wrap64 (by omega) (by omega)]; omega]
  refine K h3 ?_
  have w4 := w3.drop.rm 1 rfl
  exact w4.pm [2, 3, 4, 5, 1, 0, 6, 7, 8, 9, 10]
theorem IV.succ (iv : IV k m cs clk W L) : IV (k + 1) m cs clk W L := ⟨iv.pb, by have := iv.ck; omega, iv.tx, iv.ow, iv.rl, iv.wi⟩
abbrev J3 (p q p' q' w xw mb rb tb ub : Nat) (k l2 c3 : Nat) (a1 : Option Addr) (A : List (Option Addr × List Value)) (F : List Asr) : Prop :=
  ∀ h' t' r' m' cs' clk' W' L', IV (k + 1) m' cs' clk' W' L' → H h' (ST p q p' q' w xw mb rb tb ub t' r' m' cs' clk' W' L' A ++ F) →
    Ok (law18_WaitTells_j3 (some ⟨w, 0, none⟩) (some ⟨xw, 0, none⟩) l2 a1 (some ⟨tb, 0, none⟩) (some ⟨ub, 0, none⟩) (some ⟨mb, 0, none⟩) (some ⟨rb, 0, none⟩) c3 (k : Nat) h') Q
/-- the calls behind the first two kinds -/
theorem j5_ok (hk : k < 300) (ho : goodOp o) (iv : IV k m cs clk W L) (w0 : H h (ST p q p' q' w xw mb rb tb ub t r m cs clk W L A ++ (Cs ob (encOp o) 3 :: F))) (K : J3 p q p' q' w xw mb rb tb ub k l2 c3 a1 A (Cs ob (encOp o) 3 :: F)) (b : Bool) :
    Ok (law18_WaitTells_j5 (some ⟨ob, 0, none⟩) h (some ⟨mb, 0, none⟩) (some ⟨rb, 0, none⟩) (k : Nat) (some ⟨w, 0, none⟩) (some ⟨xw, 0, none⟩) l2 a1 (some ⟨tb, 0, none⟩) (some ⟨ub, 0, none⟩) c3 o.kind b) Q := by
  have hl := iv.rl.len
  have hl2 := iv.wi.l
  refine Ok.le ?_ law18_WaitTells_j5_le
  cases b with
  | true =>
    rw [cond_t]
    obtain ⟨b0, b1⟩ := pickM_bd o.i 4 (by decide)
    obtain ⟨cs1, cs2, l1, l2', P2⟩ := iv.pb.pub (v := (k : Int)) b0 b1
    have hp0 := iv.pb.p
    have hck := iv.ck
    have ea : advM clk = (clk + 1, 0, clk + 1) := by unfold advM; rw [if_neg (by omega)]
    have ep : ∀ {h : AH} {c1 c2 : List Cel} {k1 k2 : Int} {F : List Asr}, H h (aMem p q c1 k1 :: aMem p' q' c2 k2 :: Cs mb [ptr p] 1 :: Cs rb [ptr p'] 1 :: F) → h.ldP mb 0 = some (some ⟨p, 0, none⟩) ∧ h.ldP rb 0 = some (some ⟨p', 0, none⟩) := fun w => ⟨AH.ldP_of (w.g 2 rfl) rfl, AH.ldP_of (w.g 3 rfl) rfl⟩
    have w1 : H h (aMem p q cs clk :: aMem p' q' cs clk :: Cs mb [ptr p] 1 :: Cs rb [ptr p'] 1 :: aTX p t m :: aRX p' r m :: aW w p W :: aWR xw p' L :: Cs tb [ptr t] 1 :: Cs ub [ptr r] 1 :: aRds A :: Cs ob (encOp o) 3 :: F) := w0.pm [1, 3, 6, 7, 0, 2, 4, 5, 8, 9, 10, 11]
    have e1 : h.ldI .i64 ob (0 + 1) = some o.i := AH.ldI_of (w1.g 11 rfl) rfl
    simp only [Option.bind_some, e1, pick_eq o.i 4 (by decide) (by decide), asI_i64, (ep w1).1]
    refine Ok.bind (mem_run (cs' := cs) (clk' := clk + 1) (P := fun v => v = .tuple #[.int .i64 (clk + 1), .int .i64 0]) (S := [p]) (fun b hb => .inl (by simpa using hb)) w1 fun M => by
      have := adv_ok M
      rw [ea] at this
      exact this) ?_
    rintro _ h2 ⟨rfl, w2⟩
    simp only [asTu_t, hdO_c, asI_i64, Option.bind_some, List.isEmpty_nil, cond_t, (ep w2).2]
    refine Ok.bind (mem_run (cs' := cs) (clk' := clk + 1) (P := fun v => v = .tuple #[.int .i64 (clk + 1), .int .i64 0]) (S := [p']) (fun b hb => .inl (by simpa using hb)) w2.u1 fun M => by
      have := radv_ok M
      rw [ea] at this
      exact this) ?_
    rintro _ h3 ⟨rfl, w3⟩
    have w3 := w3.u1
    simp only [asTu_t, hdO_c, asI_i64, Option.bind_some, List.isEmpty_nil, cond_t, (ep w3).1]
    refine Ok.bind (mem_run (cs' := cs1) (clk' := clk + 1) (P := fun v => v = .int .i64 0) (S := [q]) (fun b hb => .inr (by simpa using hb)) w3 fun M => by
      have := lock_ok M (pickM o.i 4) 9
      rw [l1] at this
      exact this) ?_
    rintro _ h4 ⟨rfl, w4⟩
    simp only [asI_i64, Option.bind_some, (ep w4).2]
    refine Ok.bind (mem_run (cs' := cs1) (clk' := clk + 1) (P := fun v => v = .int .i64 0) (S := [q']) (fun b hb => .inr (by simpa using hb)) w4.u1 fun M => by
      have := rlock_ok M (pickM o.i 4) 9
      rw [l1] at this
      exact this) ?_
    rintro _ h5 ⟨rfl, w5⟩
    have w5 := w5.u1
    simp only [asI_i64, Option.bind_some, (ep w5).1]
    refine Ok.bind (mem_run (cs' := cs2) (clk' := clk + 1) (P := fun v => v = .int .i64 0) (S := [q]) (fun b hb => .inr (by simpa using hb)) w5 fun M => by
      have := publish_ok M (pickM o.i 4) 9 (k : Int) (clk + 1)
      rw [l2'] at this
      exact this) ?_
    rintro _ h6 ⟨rfl, w6⟩
    simp only [asI_i64, Option.bind_some, (ep w6).2, (ep w5).2, veqO_ptr, cond_t]
    refine Ok.bind (mem_run (cs' := cs2) (clk' := clk + 1) (P := fun v => v = .int .i64 0) (S := [q']) (fun b hb => .inr (by simpa using hb)) w6.u1 fun M => by
      have := rpublish_ok M (pickM o.i 4) 9 (k : Int) (clk + 1)
      rw [l2'] at this
      exact this) ?_
    rintro _ h7 ⟨rfl, w7⟩
    have w7 := w7.u1
    simp only [asI_i64, Option.bind_some, decide_true, Bool.not_true, cond_f]
    exact K h7 t r m cs2 (clk + 1) W L ⟨P2, by omega, iv.tx, iv.ow, iv.rl, iv.wi⟩ (w7.pm [4, 0, 5, 1, 6, 7, 2, 3, 8, 9, 10, 11])
  | false =>
    rw [cond_f]
    by_cases c5 : o.kind = 5
    · rw [dec_t c5, cond_t]
      refine Ok.bind (changed_ok (w0.pm [4, 1, 0, 2, 3, 5, 6, 7, 8, 9, 10, 11]) iv.wi.k (by omega)) ?_
      rintro _ h2 ⟨a, c, C1, hC, rfl, w2⟩
      rw [iv.rl.ids] at hC
      obtain ⟨eC, rl'⟩ := iv.rl.changed (cs := cs)
      simp only [asS_s, Option.bind_some]
      have w2' : H h2 (aWR xw p' L :: aMem p' q' cs clk :: aRd a (C1.flatMap encI) :: aW w p (delAll C1 W) :: aMem p q cs clk :: aTX p t m :: aRX p' r m :: Cs mb [ptr p] 1 :: Cs rb [ptr p'] 1 :: Cs tb [ptr t] 1 :: Cs ub [ptr r] 1 :: aRds A :: Cs ob (encOp o) 3 :: F) := w2.pm [6, 5, 0, 1, 2, 3, 4, 7, 8, 9, 10, 11, 12]
      refine Ok.bind (rchanged_ok w2' (by omega)) ?_
      rintro _ h3 ⟨a', c', rfl, w3⟩
      have hl3 : (L.filter fun x => x.2.any (badC cs)).length ≤ L.length := List.length_filter_le _ _
      have hC2 : C1 = (L.filter fun x => x.2.any (badC cs)).map Prod.fst := hC.trans eC
      have hr1 : Rd h3 a (C1.flatMap encI) := (w3.mv 3 rfl).rd
      have s1 := sameInts_eq c c' hr1 w3.ow.rd rfl (by rw [List.length_map]) (by rw [hC2, List.length_map]; omega)
      simp only [asS_s, Option.bind_some, s1, dec_t hC2, asB_b, Bool.not_true, cond_f]
      have hd : WI (delAll C1 W) := iv.wi.sub (by rw [delAll_eq _ iv.rl.nd]; exact List.filter_sublist)
      rw [← hC] at rl'
      have w4 := w3.drop.rm 2 rfl
      exact K h3 t r m cs clk _ _ ⟨iv.pb, by have := iv.ck; omega, iv.tx, iv.ow, rl', hd⟩ (w4.pm [4, 3, 5, 1, 2, 0, 6, 7, 8, 9, 10, 11])
    rw [dec_f c5, cond_f]
    by_cases c6 : o.kind = 6
    · rw [dec_t c6, cond_t]
      have e1 : h.ldI .i64 ob (0 + 2) = some o.n := AH.ldI_of (w0.g 11 rfl) rfl
      simp only [Option.bind_some, e1]
      refine Ok.bind (forget_ok (w0.mv 4 rfl) o.n) ?_
      rintro _ h2 ⟨rfl, w2⟩
      have e2 : h2.ldI .i64 ob (0 + 2) = some o.n := AH.ldI_of (w2.g 11 rfl) rfl
      simp only [asB_b, Option.bind_some, e2, veqO_int, cond_t]
      refine Ok.bind (rforget_ok (w2.mv 5 rfl) (by omega) o.n) ?_
      rintro _ h3 ⟨rfl, w3⟩
      obtain ⟨eF, rl'⟩ := iv.rl.forget o.n
      simp only [asB_b, Option.bind_some, eF, beq_self_eq_true, Bool.not_true, cond_f]
      have hd : WI (delW o.n W) := iv.wi.sub (by rw [delW_eq _ iv.rl.nd]; exact List.filter_sublist)
      exact K h3 t r m cs clk _ _ ⟨iv.pb, by have := iv.ck; omega, iv.tx, iv.ow, rl', hd⟩ (w3.pm [2, 3, 4, 5, 1, 0, 6, 7, 8, 9, 10, 11])
    rw [dec_f c6, cond_f]
    by_cases c7 : o.kind = 7
    · rw [dec_t c7, cond_t]
      refine Ok.bind (anew_ok iv w0) ?_
      rintro _ h2 ⟨rfl, t', r', w2⟩
      simp only [asTu_t, Option.bind_some, List.isEmpty_nil, cond_t]
      exact K h2 t' r' _ cs clk W L iv.new.succ w2
    rw [dec_f c7, cond_f]
    exact K h t r m cs clk W L iv.succ w0
theorem j6_ok (hk : k < 300) (ho : goodOp o) (iv : IV k m cs clk W L) (w0 : H h (ST p q p' q' w xw mb rb tb ub t r m cs clk W L A ++ (Cs ob (encOp o) 3 :: F))) (K : J3 p q p' q' w xw mb rb tb ub k l2 c3 a1 A (Cs ob (encOp o) 3 :: F)) (b : Bool) :
    Ok (law18_WaitTells_j6 (some ⟨tb, 0, none⟩) h (some ⟨ub, 0, none⟩) (some ⟨w, 0, none⟩) (some ⟨xw, 0, none⟩) l2 a1 (some ⟨mb, 0, none⟩) (some ⟨rb, 0, none⟩) c3 (k : Nat) o.kind (some ⟨ob, 0, none⟩) b) Q := by
  have hl := iv.rl.len
  have hl2 := iv.wi.l
  obtain ⟨N, inv⟩ := iv.tx
  obtain ⟨nw, nr⟩ := nk_of w0
  have hwl := inv.wlen nw
  have hrl := inv.rlen nr
  have hcs := iv.pb.n
  refine Ok.le ?_ law18_WaitTells_j6_le
  have et : h.ldP tb 0 = some (some ⟨t, 0, none⟩) := AH.ldP_of (w0.g 8 rfl) rfl
  have eu : h.ldP ub 0 = some (some ⟨r, 0, none⟩) := AH.ldP_of (w0.g 9 rfl) rfl
  cases b with
  | true =>
    rw [cond_t]
    have e1 : h.ldI .i64 ob (0 + 1) = some o.i := AH.ldI_of (w0.g 11 rfl) rfl
    simp only [Option.bind_some, et, e1]
    refine Ok.bind (MRead w0 (by rw [iv.ow]; decide) (by omega) o.i) ?_
    rintro _ h2 ⟨rfl, w2⟩
    rw [iv.pb.read iv.ow] at w2
    have eu2 : h2.ldP ub 0 = some (some ⟨r, 0, none⟩) := AH.ldP_of (w2.g 9 rfl) rfl
    have e2 : h2.ldI .i64 ob (0 + 1) = some o.i := AH.ldI_of (w2.g 11 rfl) rfl
    simp only [asTu_t, hdO_c, asI_i64, Option.bind_some, List.isEmpty_nil, cond_t, eu2, e2]
    refine Ok.bind (RRead (w2.pm [2, 3, 0, 1]) (by omega) (by omega) (by rw [iv.ow]; decide) (by omega) o.i) ?_
    rintro _ h3 ⟨rfl, w3⟩
    rw [iv.pb.read iv.ow] at w3
    simp only [asTu_t, hdO_c, asI_i64, Option.bind_some, List.isEmpty_nil, cond_t]
    exact K h3 t r _ cs clk W L (iv.read o.i).succ (w3.pm [2, 3, 0, 1])
  | false =>
    rw [cond_f]
    by_cases c2 : o.kind = 2
    · rw [dec_t c2, cond_t]
      have e1 : h.ldI .i64 ob (0 + 2) = some o.n := AH.ldI_of (w0.g 11 rfl) rfl
      simp only [Option.bind_some, et, e1]
      have hst := inv.st
      refine Ok.bind (park_ok (w0.pm [4, 0, 1, 2, 3]) (by omega) inv.wkr (by omega) o.n) ?_
      rintro _ h2 ⟨rfl, w2⟩
      have e2 : h2.ldI .i64 ob (0 + 2) = some o.n := AH.ldI_of (w2.g 11 rfl) rfl
      have eu2 : h2.ldP ub 0 = some (some ⟨r, 0, none⟩) := AH.ldP_of (w2.g 9 rfl) rfl
      simp only [asI_i64, Option.bind_some, e2, veqO_int, cond_t, eu, eu2, veqO_ptr]
      have w2' : H h2 (aWR xw p' L :: aRX p' r m :: aW w p (parkM W m o.n).2 :: aTX p t m :: aMem p q cs clk :: aMem p' q' cs clk :: Cs mb [ptr p] 1 :: Cs rb [ptr p'] 1 :: Cs tb [ptr t] 1 :: Cs ub [ptr r] 1 :: aRds A :: Cs ob (encOp o) 3 :: F) := w2.pm [5, 3, 0, 1, 2, 4, 6, 7, 8, 9, 10, 11]
      refine Ok.bind (rpark_ok w2' (by omega) (by omega) o.n) ?_
      rintro _ h3 ⟨rfl, L', d1, d2, w3⟩
      obtain ⟨p1, p2, p3⟩ := iv.rl.park (L' := L') nr o.n
      have rl' : Rl (parkM W m o.n).2 L' := by
        by_cases z : rcode L o.n = 0
        · exact p3 z (d2 z)
        · exact p2 z (d1 z)
      rw [p1]
      simp only [asI_i64, Option.bind_some, decide_true, Bool.not_true, cond_f]
      refine Ok.le ?_ law18_WaitTells_j4_le
      have iv2 : IV k m cs clk (parkM W m o.n).2 L' := ⟨iv.pb, iv.ck, iv.tx, iv.ow, rl', iv.wi.park ho.2.2⟩
      have w4 : H h3 (ST p q p' q' w xw mb rb tb ub t r m cs clk (parkM W m o.n).2 L' A ++ (Cs ob (encOp o) 3 :: F)) := w3.pm [3, 4, 1, 5, 2, 0, 6, 7, 8, 9, 10, 11]
      refine Ok.bind (anew_ok iv2 w4) ?_
      rintro _ h5 ⟨rfl, t', r', w5⟩
      simp only [asTu_t, Option.bind_some, List.isEmpty_nil, cond_t]
      exact K h5 t' r' _ cs clk _ L' iv2.new.succ w5
    rw [dec_f c2, cond_f]
    by_cases c3' : o.kind = 3
    · rw [dec_t c3', cond_t]; exact j5_ok hk ho iv w0 K _
    · rw [dec_f c3', cond_f]; exact j5_ok hk ho iv w0 K _
theorem op_at {h : AH} {a : Option Addr} {ops : List Op} (hr : Rd h a (ops.flatMap encOp)) {k : Nat} {x : Op} (hx : ops[k]? = some x) : ∃ ad, a = some ad ∧ h.ldI .i64 ad.block (ad.off + k * 3) = some x.kind ∧ h.ldI .i64 ad.block (ad.off + k * 3 + 1) = some x.i ∧ h.ldI .i64 ad.block (ad.off + k * 3 + 2) = some x.n := by
  obtain ⟨ad, rfl, hrd⟩ := hr.some (flat_ne encOp_len (by decide) hx)
  have c0 := flat_get_some encOp_len (j := 0) (by decide) hx
  have c1 := flat_get_some encOp_len (j := 1) (by decide) hx
  have c2 := flat_get_some encOp_len (j := 2) (by decide) hx
  have e0 := (hrd (k * 3 + 0)).1 .i64 x.kind c0
  have e1 := (hrd (k * 3 + 1)).1 .i64 x.i c1
  have e2 := (hrd (k * 3 + 2)).1 .i64 x.n c2
  exact ⟨ad, rfl, e0, by rw [Nat.add_assoc]; exact e1, by rw [Nat.add_assoc]; exact e2⟩
theorem loop {ops : List Op} (hg : ∀ x ∈ ops, goodOp x) (hA : (a1, ops.flatMap encOp) ∈ A) : ∀ (n k : Nat) (h : AH) (t r : Nat) (m : TM) (cs : List Cel) (clk : Int) (W L : WL0) (F : List Asr), 300 - k = n → k ≤ 300 → IV k m cs clk W L →
    H h (ST p q p' q' w xw mb rb tb ub t r m cs clk W L A ++ F) →
    Ok (law18_WaitTells_L1 ops.length a1 (some ⟨tb, 0, none⟩) (some ⟨ub, 0, none⟩) (some ⟨w, 0, none⟩) (some ⟨xw, 0, none⟩) (some ⟨mb, 0, none⟩) (some ⟨rb, 0, none⟩) c3 (k : Nat) h) Q := by
  have fin : ∀ h, Ok (law18_WaitTells_j1 h) Q := fun h => by
    refine Ok.le ?_ law18_WaitTells_j1_le
    simp only [C_closed (f := k_law18_awake) rfl h, Option.bind_some, asB_b]
    exact Ok.some rfl
  intro n
  induction n with
  | zero =>
    intro k h t r m cs clk W L F hn hk iv w0
    obtain rfl : k = 300 := by omega
    refine Ok.le ?_ law18_WaitTells_L1_le
    by_cases c : ((300 : Nat) : Int) < ((ops.length : Nat) : Int)
    · rw [dec_t c, cond_t, dec_f (by omega), cond_f]; exact fin h
    · rw [dec_f c, cond_f]; exact fin h
  | succ n ih =>
    intro k h t r m cs clk W L F hn hk iv w0
    refine Ok.le ?_ law18_WaitTells_L1_le
    by_cases c : ((k : Nat) : Int) < ((ops.length : Nat) : Int)
    · rw [dec_t c, cond_t, dec_t (by omega), cond_t]
      refine Ok.le ?_ law18_WaitTells_j7_le
      obtain ⟨x, hx⟩ : ∃ x, ops[k]? = some x := ⟨_, List.getElem?_eq_getElem (by omega)⟩
      have hr : Rd h a1 (ops.flatMap encOp) := (w0.mv 10 rfl).rds (p := (a1, ops.flatMap encOp)) hA
      obtain ⟨ad, rfl, e1, e2, e3⟩ := op_at hr hx
      obtain ⟨h2, s2, w2, n2⟩ := w0.var [.int .i64 0, .int .i64 0, .int .i64 0] (encOp x) 3 rfl
      have s2' : (h.push (.cells [.int .i64 0, .int .i64 0, .int .i64 0] false false 3)).st h.n 0 [.int .i64 x.kind, .int .i64 x.i, .int .i64 x.n] = some h2 := s2
      have e4 : h2.ldI .i64 h.n (0 + 0) = some x.kind := AH.ldI_of (w2.g 0 rfl) rfl
      simp only [Option.bind_some, inB_t (show (0 : Int) ≤ (k : Int) by omega) c, cond_t, Int.toNat_natCast, e1, e2, e3, s2', e4]
      have w3 : H h2 (ST p q p' q' w xw mb rb tb ub t r m cs clk W L A ++ (Cs h.n (encOp x) 3 :: F)) := w2.pm [1, 2, 3, 4, 5, 6, 7, 8, 9, 10, 11, 0]
      have hgx := hg x (List.mem_of_getElem? hx)
      have K : J3 p q p' q' w xw mb rb tb ub k ops.length c3 (some ad) A (Cs h.n (encOp x) 3 :: F) := fun h' t' r' m' cs' clk' W' L' iv' w' =>
        j3_ok (by omega) iv' w' fun h'' w'' => ih (k + 1) h'' t' r' m' cs' clk' W' L' _ (by omega) (by omega) iv' w''
      by_cases c0 : x.kind = 0
      · rw [dec_t c0, cond_t]; exact j6_ok (by omega) hgx iv w3 K _
      · rw [dec_f c0, cond_f]; exact j6_ok (by omega) hgx iv w3 K _
    · rw [dec_f c, cond_f]; exact fin h
end
theorem main (h : AH) {a1 : Option Addr} {l2 c3 : Nat} {ops : List Op} (hs : SlIn h encOp goodOp a1 l2 c3 ops) : Ok (C k_law18_WaitTells [.slice a1 l2 c3] h) Q := by
  have w : H h [aRds [(a1, ops.flatMap encOp)]] := H.args (by
    intro p hp
    simp only [List.mem_cons, List.not_mem_nil, or_false] at hp
    rcases hp with rfl
    exact hs.rd)
  obtain rfl := hs.len
  refine Ok.le ?_ law18_WaitTells_le
  unfold F_law18_WaitTells
  rcases new_ok h 4 with ⟨hbad, _⟩ | ⟨_, _, h1, e1, M1, f1, n1⟩
  · omega
  simp only [e1, Option.bind_some, asTu_t, hdO_c, asP_p, asI_i64, List.isEmpty_nil, cond_t]
  have wM : H h1 (aMem (h.n + 1) h.n (List.replicate 4 ⟨0, 0, 0⟩) 0 :: _) := w.fresh f1.n (fun b hb => f1.g b hb (by simp)) (fun b hb => by omega) M1.live fun h'' hg => M1.same2 hg
  obtain ⟨h2, s2, w2, n2⟩ := wM.var [.pointer none] [ptr (h.n + 1)] 1 rfl
  simp only [s2, Option.bind_some]
  rcases rnew_ok h2 4 with ⟨hbad, _⟩ | ⟨_, _, h3, e3, M3, f3, n3⟩
  · omega
  simp only [e3, Option.bind_some, asTu_t, hdO_c, asP_p, asI_i64, List.isEmpty_nil, cond_t]
  have w3 : H h3 (aMem (h2.n + 1) h2.n (List.replicate 4 ⟨0, 0, 0⟩) 0 :: _) := w2.fresh f3.n (fun b hb => f3.g b hb (by simp)) (fun b hb => by omega) M3.live fun h'' hg => M3.same2 hg
  obtain ⟨h4, s4, w4, n4⟩ := w3.var [.pointer none] [ptr (h2.n + 1)] 1 rfl
  simp only [s4, Option.bind_some, decide_true, Bool.not_true, cond_f]
  refine Ok.le ?_ law18_WaitTells_j9_le
  have e5 : h4.ldP h1.n 0 = some (some ⟨h.n + 1, 0, none⟩) := AH.ldP_of (w4.g 2 rfl) rfl
  simp only [e5, Option.bind_some]
  refine Ok.bind (new_W (w4.mv 3 rfl) (by decide)) ?_
  rintro _ h6 ⟨wa, rfl, w6⟩
  have e6 : h6.ldP h3.n 0 = some (some ⟨h2.n + 1, 0, none⟩) := AH.ldP_of (w6.g 2 rfl) rfl
  have w7 := w6.push (.cells [ptr (h2.n + 1), .slice none 0 0] false false 2)
  have e7 : (h6.push (.cells [ptr (h2.n + 1), .slice none 0 0] false false 2)).ldP h1.n 0 = some (some ⟨h.n + 1, 0, none⟩) := AH.ldP_of (w7.g 5 rfl) rfl
  simp only [asTu_t, hdO_c, asP_p, asI_i64, Option.bind_some, List.isEmpty_nil, cond_t, e6, e7]
  refine Ok.bind (MBegin (w7.mv 2 rfl) (o := 1) (by decide)) ?_
  rintro _ h8 ⟨t, rfl, w8⟩
  obtain ⟨h9, s9, w9, n9⟩ := w8.var [.pointer none] [ptr t] 1 rfl
  have e9 : h9.ldP h3.n 0 = some (some ⟨h2.n + 1, 0, none⟩) := AH.ldP_of (w9.g 5 rfl) rfl
  simp only [asTu_t, hdO_c, asP_p, asI_i64, Option.bind_some, List.isEmpty_nil, cond_t, s9, e9]
  refine Ok.bind (RNew (w9.mv 6 rfl) (o := 1) (by decide)) ?_
  rintro _ h10 ⟨r, rfl, w10⟩
  obtain ⟨h11, s11, w11, n11⟩ := w10.var [.pointer none] [ptr r] 1 rfl
  simp only [asTu_t, hdO_c, asP_p, asI_i64, Option.bind_some, List.isEmpty_nil, cond_t, s11, decide_true, Bool.not_true, cond_f]
  refine Ok.le ?_ law18_WaitTells_j8_le
  have w12 := w11.pm [6, 0, 1, 2, 3, 4, 5, 7, 8, 9, 10]
  have w13 := H.cls (L := []) (w12.owNil 2)
  have w14 : H h11 (aWR h6.n (h2.n + 1) [] :: _) := WR_mk (a := none) (c := 0) (wl := []) rfl (by simp) (w13.pm [2, 1, 0])
  have iv : IV 0 (TM.new 1 0) (List.replicate 4 ⟨0, 0, 0⟩) 0 [] [] := ⟨PB.new 4, Int.le_refl _, ⟨0, TInv.new (by decide)⟩, rfl, Rl.new, ⟨by simp, by intro x hx; simp at hx⟩⟩
  exact loop (A := [(a1, ops.flatMap encOp)]) hs.good (by simp) 300 0 h11 t r _ _ 0 [] [] [] rfl (by omega) iv (w14.pm [5, 6, 2, 3, 7, 0, 9, 8, 4, 1, 10])
end Tells
end Go.Lg.Tryz
