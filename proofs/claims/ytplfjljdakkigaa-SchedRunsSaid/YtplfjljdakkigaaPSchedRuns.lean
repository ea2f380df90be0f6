/- SchedRuns: the law's function answers true, over the abstract memory. -/
import Derived.Test.YtplfjljdakkigaaPrunsC
namespace Go.Lg.Try
set_option linter.unusedVariables false
set_option linter.unusedSimpArgs false
open Go Go.Proofs
namespace Rn
/-- where the world's tasks lie, in its own cell -/
theorem WR_setP {h : AH} {wb : Nat} {pa : Option Addr} {pn pc : Nat} {A : WA} {sts sns line : List Int} {told : List Bool} {woken : Bool} {now : Int} (hw : WR h wb pa pn pc A sts sns line told woken now) (pa' : Option Addr) (pn' pc' : Nat) :
    ∃ h', h.st wb (0 + 0) [.slice pa' pn' pc'] = some h' ∧ WR h' wb pa' pn' pc' A sts sns line told woken now ∧ h'.n = h.n ∧ ∀ b, b ≠ wb → h'.get b = h.get b := by
  have st : h.st wb (0 + 0) [.slice pa' pn' pc'] = some (h.set wb (some (.cells [.slice pa' pn' pc', .slice A.sa A.sn A.sc, .slice A.na A.nn A.nc, .slice A.la A.ln A.lc, .slice A.ta A.tn A.tc, .bool woken, .int .i64 now] false false 7))) := AH.st_of hw.g (by simp)
  have hg : ∀ b, b ≠ wb → (h.set wb (some (.cells [.slice pa' pn' pc', .slice A.sa A.sn A.sc, .slice A.na A.nn A.nc, .slice A.la A.ln A.lc, .slice A.ta A.tn A.tc, .bool woken, .int .i64 now] false false 7))).get b = h.get b := fun b hb => AH.get_set_ne _ hb
  exact ⟨_, st, ⟨AH.get_set_eq _ _ _, ow_same hw.so (fun b _ hb => hg b (fun e => hw.w1 (e ▸ hb))) (Nat.le_refl _), ow_same hw.no (fun b _ hb => hg b (fun e => hw.w2 (e ▸ hb))) (Nat.le_refl _), hw.lo.same (fun b _ hb => hg b (fun e => hw.w3 (e ▸ hb))) (Nat.le_refl _), ow_same hw.to (fun b _ hb => hg b (fun e => hw.w4 (e ▸ hb))) (Nat.le_refl _), hw.wn, hw.w1, hw.w2, hw.w3, hw.w4, hw.d1, hw.d2, hw.d3, hw.d4, hw.d5, hw.d6⟩, rfl, hg⟩
/-- one task more -/
theorem TI_add {h h1 : AH} {K F F2 : Nat → Prop} {s o1 o2 : Nat} {tl : List TK} {bs : List Bool} (hT1 : TI h h K F s o1 o2 tl bs) (ht1 : ∀ b, F b → b < h.n) {p : TK} (hpt : p.tb = h.n) (hx : Rd h p.a (p.l.flatMap encDo)) (hxk : ∀ b, blk p.a b → K b) (hxn : p.n = p.l.length)
    (mv : Moved F F2 (h.push (.cells (tkG s o1 o2 p) false false 5)) h1) : TI h h1 K F2 s o1 o2 (tl ++ [p]) bs := by
  have hf : Fr [] h (h.push (.cells (tkG s o1 o2 p) false false 5)) := Fr.push _ _ _
  have hpn : (h.push (.cells (tkG s o1 o2 p) false false 5)).n = h.n + 1 := rfl
  have hT2 : TI h h1 K F2 s o1 o2 tl bs := (hT1.fr hf).moved mv
  have hmn := mv.n
  have hnF : ¬ F h.n := fun hf' => by have := ht1 _ hf'; omega
  have hpg : h1.get h.n = some (.cells (tkG s o1 o2 p) false false 5) := by rw [mv.g h.n (by omega) hnF]; exact AH.get_push_eq _ _
  have hnF2 : ¬ F2 h.n := mv.keep (by omega) hnF
  refine ⟨hT2.n0, hT2.kb, hT2.Fb, ?_, hT2.bad, hT2.o1o, hT2.o2o, hT2.ne, fun q hq => ?_, fun q hq => ?_, ?_⟩
  · obtain ⟨ta, tn, tc, t1, t2, t3⟩ := hT2.told
    obtain ⟨ta', tn', tc', t1', t2', t3'⟩ := hT1.told
    have e : h1.get o1 = h.get o1 := by
      have := hT1.o1o.2.1
      rw [mv.g o1 (by omega) hT1.o1o.2.2, AH.get_push_ne _ (by omega)]
    rw [e, t1'] at t1
    simp only [Option.some.injEq, Blk.cells.injEq, List.cons.injEq, Value.slice.injEq, and_true] at t1
    obtain ⟨rfl, rfl, rfl⟩ := t1
    refine ⟨ta', tn', tc', by rw [e]; exact t1', t2, fun b hb => ?_⟩
    obtain ⟨k1, k2, k3, k4, k5, k6⟩ := t3 b hb
    refine ⟨k1, k2, k3, k4, k5, fun q hq => ?_⟩
    rcases List.mem_append.mp hq with hq | hq
    · exact k6 q hq
    · simp only [List.mem_cons, List.not_mem_nil, or_false] at hq
      subst hq
      have := (t3' b hb).2.1
      rw [hpt]; omega
  · rcases List.mem_append.mp hq with hq | hq
    · exact hT2.tk q hq
    · simp only [List.mem_cons, List.not_mem_nil, or_false] at hq
      subst hq
      rw [hpt]
      refine ⟨hpg, fun hk => ?_, by omega, hnF2, by have := hT1.o1o.2.1; omega, by have := hT1.o2o.2.1; omega⟩
      have := (hT1.kb _ hk).1
      omega
  · rcases List.mem_append.mp hq with hq | hq
    · exact hT2.ins q hq
    · simp only [List.mem_cons, List.not_mem_nil, or_false] at hq
      subst hq
      exact ⟨hx, hxk, hxn⟩
  · rw [List.map_append, List.nodup_append]
    refine ⟨hT2.nd, by simp, fun a ha b hb => ?_⟩
    obtain ⟨q, hq, rfl⟩ := List.mem_map.mp ha
    simp at hb
    have := (hT1.tk q hq).2.2.1
    omega
/-- more that is kept -/
theorem TI_more {h h' : AH} {K X F : Nat → Prop} {s o1 o2 : Nat} {tl : List TK} {bs : List Bool} (hT1 : TI h h K F s o1 o2 tl bs) (ht1 : ∀ b, F b → b < h.n) (hf : Fr [] h h') (hX : ∀ b, X b → h.n ≤ b ∧ b < h'.n) : TI h' h' (fun b => K b ∨ X b) F s o1 o2 tl bs := by
  have hT2 := hT1.fr hf
  have old : ∀ b, b < h.n → ¬ X b := fun b hb hx' => by have := (hX b hx').1; omega
  have hn := hf.n
  obtain ⟨ta, tn, tc, t1, t2, t3⟩ := hT1.told
  refine ⟨Nat.le_refl _, fun b hb => ⟨?_, rfl⟩, fun b hb hk => ?_, ⟨ta, tn, tc, ?_, ?_, fun b hb => ?_⟩, hT2.bad, ⟨fun hk => ?_, hT2.o1o.2⟩, ⟨fun hk => ?_, hT2.o2o.2⟩, hT2.ne, fun p hp => ?_, fun p hp => ?_, hT2.nd⟩
  · rcases hb with hb | hb
    · have := (hT1.kb b hb).1; omega
    · exact (hX b hb).2
  · rcases hk with hk | hk
    · exact hT1.Fb b hb hk
    · exact old b (ht1 b hb) hk
  · rw [hf.g o1 hT1.o1o.2.1 (by simp)]; exact t1
  · exact t2.fr hf (by simp)
  · obtain ⟨k1, k2, k3⟩ := t3 b hb
    exact ⟨fun hk => by rcases hk with hk | hk; exact k1 hk; exact old b k2 hk, by omega, k3⟩
  · rcases hk with hk | hk
    · exact hT1.o1o.1 hk
    · exact old _ hT1.o1o.2.1 hk
  · rcases hk with hk | hk
    · exact hT1.o2o.1 hk
    · exact old _ hT1.o2o.2.1 hk
  · obtain ⟨k1, k2, k3, k4⟩ := hT2.tk p hp
    obtain ⟨_, j2, j3, _⟩ := hT1.tk p hp
    exact ⟨k1, fun hk => by rcases hk with hk | hk; exact k2 hk; exact old _ j3 hk, k3, k4⟩
  · obtain ⟨k1, k2, k3⟩ := hT2.ins p hp
    exact ⟨rd_keep k1 (fun b hb => (hT2.kb b (k2 b hb)).2) hT2.n0, fun b hb => .inl (k2 b hb), k3⟩
theorem TI_iff {h h0 : AH} {K K' F : Nat → Prop} {s o1 o2 : Nat} {tl : List TK} {bs : List Bool} (hT : TI h0 h K F s o1 o2 tl bs) (hk : ∀ b, K b ↔ K' b) : TI h0 h K' F s o1 o2 tl bs := by
  have : K = K' := funext fun b => propext (hk b)
  rw [← this]; exact hT
def slOf (p : TK) : Value := .slice p.a p.n p.c
/-- while tasks are added -/
structure Ad (h : AH) (K : Nat → Prop) (s o1 o2 wb : Nat) (ts : List TD) (line : List Int) (tl : List TK) : Prop where
  ex : ∃ F G w w' pa pn pc, Sch h s F ts line 0 w ∧ (∀ b, F b → b < h.n) ∧ Wld h wb G pa pn pc (ts.map TD.st) (ts.map TD.n) line [] w' 0 ∧ (∀ b, G b → b < h.n) ∧ Ow h 1 pa pn pc (tl.map slOf) ∧ (∀ b, blk pa b → ¬ G b) ∧ (∀ b, K b → ¬ (G b ∨ blk pa b)) ∧
    TI h h (fun b => K b ∨ (G b ∨ blk pa b)) F s o1 o2 tl []
  ik : ∀ p ∈ tl, ∀ b, blk p.a b → K b
  good : Good ts line
  len : ts.length = tl.length
  one : ∀ x ∈ ts, x.st = 1
  le : ts.length ≤ 64
  tt : ts.map TD.t = tl.map tOf
  nn : ts.map TD.n = tl.map fun p => (p.at_ : Int)
  at_ : ∀ p ∈ tl, p.at_ = 0
  dos : ∀ p ∈ tl, ∀ d ∈ p.l, pickM d.tell 7 = d.tell
theorem Ad.fr {h h' : AH} {K : Nat → Prop} {s o1 o2 wb : Nat} {ts : List TD} {line : List Int} {tl : List TK} (hA : Ad h K s o1 o2 wb ts line tl) (hf : Fr [] h h') {X : Nat → Prop} (hX : ∀ b, X b → h.n ≤ b ∧ b < h'.n) : Ad h' (fun b => K b ∨ X b) s o1 o2 wb ts line tl := by
  obtain ⟨F, G, w, w', pa, pn, pc, h1, h2, h3, h4, h5, h6, h7, h8⟩ := hA.ex
  have hn := hf.n
  have hpl := ow_lt h5
  refine ⟨⟨F, G, w, w', pa, pn, pc, h1.fr hf, fun b hb => Nat.lt_of_lt_of_le (h2 b hb) hn, Wld_same h3 (fun b hb _ => hf.g b hb (by simp)) hn, fun b hb => Nat.lt_of_lt_of_le (h4 b hb) hn, h5.fr hf (by simp), h6, fun b hb hg => ?_, TI_iff (TI_more h8 h2 hf hX) fun b => ?_⟩, fun p hp b hb => .inl (hA.ik p hp b hb), hA.good, hA.len, hA.one, hA.le, hA.tt, hA.nn, hA.at_, hA.dos⟩
  · rcases hb with hb | hb
    · exact h7 b hb hg
    · have := (hX b hb).1
      rcases hg with hg | hg
      · have := h4 b hg; omega
      · have := hpl b hg; omega
  · constructor
    · rintro ((hb | hb) | hb)
      · exact .inl (.inl hb)
      · exact .inr hb
      · exact .inl (.inr hb)
    · rintro ((hb | hb) | hb)
      · exact .inl (.inl hb)
      · exact .inr hb
      · exact .inl (.inr hb)
theorem Ad.kl {h : AH} {K : Nat → Prop} {s o1 o2 wb : Nat} {ts : List TD} {line : List Int} {tl : List TK} (hA : Ad h K s o1 o2 wb ts line tl) : ∀ b, K b → b < h.n := by
  obtain ⟨F, G, w, w', pa, pn, pc, h1, h2, h3, h4, h5, h6, h7, h8⟩ := hA.ex
  exact fun b hb => (h8.kb b (.inl hb)).1
theorem openN_one {ts : List TD} (h : ∀ x ∈ ts, x.st = 1) : openN ts = ts.length := by
  unfold openN
  rw [List.filter_eq_self.mpr]
  intro x hx
  rw [h x hx]; rfl
theorem openS_one {ts : List TD} (h : ∀ x ∈ ts, x.st = 1) : openS (ts.map TD.st) (ts.map TD.st).length = ts.length := by
  unfold openS
  rw [List.take_length, List.filter_eq_self.mpr, List.length_map]
  intro x hx
  obtain ⟨y, hy, rfl⟩ := List.mem_map.mp hx
  rw [h y hy]; rfl
section
variable {h : AH} {K : Nat → Prop} {s o1 o2 wb : Nat} {ts : List TD} {line : List Int} {tl : List TK} {a16 : Option Addr} {n : Nat} {c18 : Nat} {a4 : Option Addr} {l5 c6 : Nat} {x23 : Int}
/-- a task is added, to both; K holds its steps -/
theorem j16_ok (hA : Ad h K s o1 o2 wb ts line tl) {M : Nat} {m : Nat} {l : List DoR} (hM : Rd h (some ⟨M, 0, none⟩) (l.flatMap encDo)) (hMK : K M) (hm : m = l.length) (hl : ∀ d ∈ l, pickM d.tell 7 = d.tell) {Q : Value → AH → Prop}
    (hnext : ∀ h' ts' line' tl', Ad h' K s o1 o2 wb ts' line' tl' → Kp K h h' → Ok (law13_SchedRuns_j13 n a16 (some ⟨s, 0, none⟩) (some ⟨o2, 0, none⟩) (some ⟨o1, 0, none⟩) (some ⟨wb, 0, none⟩) a4 l5 c6 c18 x23 h') Q) :
    Ok (law13_SchedRuns_j16 h (some ⟨s, 0, none⟩) (some ⟨M, 0, none⟩) m m (some ⟨o1, 0, none⟩) (some ⟨o2, 0, none⟩) (some ⟨wb, 0, none⟩) n a16 a4 l5 c6 c18 x23) Q := by
  obtain ⟨F, G, w, w', pa, pn, pc, h1, h2, h3, h4, h5, h6, h7, h8⟩ := hA.ex
  have hgl := hA.good.len
  have hle := hA.le
  have hlen := hA.len
  have hpl := ow_lt h5
  have hpn : pn = tl.length := by have := h5.len; rw [List.length_map] at this; omega
  let p : TK := ⟨h.n, some ⟨M, 0, none⟩, m, m, l, 0⟩
  have hf : Fr [] h (h.push (.cells (tkG s o1 o2 p) false false 5)) := Fr.push _ _ _
  have hpn1 : (h.push (.cells (tkG s o1 o2 p) false false 5)).n = h.n + 1 := rfl
  refine Ok.le ?_ law13_SchedRuns_j16_le
  refine Ok.bind (add_ok (h1.fr hf) (y_P_law13_task, .pointer (some ⟨h.n, 0, none⟩)) (by omega) (by omega)) ?_
  intro v g1 hv
  rw [openN_one hA.one] at hv
  by_cases c64 : 64 ≤ ts.length
  · rw [if_pos c64] at hv
    obtain ⟨rfl, hs1, hf1⟩ := hv
    have hff := hf.trans hf1
    have hA1 : Ad g1 (fun b => K b ∨ False) s o1 o2 wb ts line tl := hA.fr hff (fun b hb => hb.elim)
    have hKe : (fun b => K b ∨ False) = K := funext fun b => by simp
    rw [hKe] at hA1
    obtain ⟨F1, G1, w1, w1', pa1, pn1, pc1, _, _, k3, k4, k5, k6, k7, k8⟩ := hA1.ex
    simp only [asTu_t, hdO_c, asI_i64, Option.bind_some, List.isEmpty_nil, cond_t]
    refine Ok.bind (ref_add k3 (by rw [List.length_map]; omega) (by omega) (by rw [List.length_map]; omega)) ?_
    rintro v g2 (⟨_, rfl, rfl⟩ | ⟨hne, _, _⟩)
    · have z : (decide ((5 : Int) = 0)) = false := rfl
      simp only [asB_b, Option.bind_some, z, Bool.false_eq_true, beq_self_eq_true, Bool.not_true, Bool.not_false, cond_f, cond_t, decide_true]
      refine Ok.le ?_ law13_SchedRuns_j15_le
      rw [cond_f]
      refine Ok.le ?_ law13_SchedRuns_j14_le
      rw [cond_f]
      exact hnext _ _ _ _ hA1 ⟨hff.n, fun b hb => hff.g b (hA.kl b hb) (by simp)⟩
    · rw [openS_one hA.one] at hne; omega
  · rw [if_neg c64] at hv
    obtain ⟨rfl, F2, hs1, mv⟩ := hv
    have hT1 := TI_add h8 h2 (p := p) rfl hM (fun b hb => by obtain rfl : M = b := hb; exact .inl hMK) hm mv
    obtain ⟨F3, hs3, ht3, hsub3⟩ := hs1.tight
    have mv3 : Moved F F3 _ g1 := mv.sub hsub3
    have hT3 : TI h g1 (fun b => K b ∨ (G b ∨ blk pa b)) F3 s o1 o2 (tl ++ [p]) [] := hT1.keep (Nat.le_refl _) (fun _ _ _ => rfl) (fun b hb => .inl (hsub3 b hb))
    have hn1 : h.n < g1.n := by have := mv.n; omega
    have hW1 : Wld g1 wb G pa pn pc (ts.map TD.st) (ts.map TD.n) line [] w' 0 := Wld_same h3 (fun b hb hg => (hT3.kb b (.inr (.inl hg))).2) (by omega)
    have hik : ∀ q ∈ tl ++ [p], ∀ b, blk q.a b → K b := fun q hq b hb => by
      rcases List.mem_append.mp hq with hq | hq
      · exact hA.ik q hq b hb
      · simp only [List.mem_cons, List.not_mem_nil, or_false] at hq
        subst hq
        obtain rfl : M = b := hb; exact hMK
    have kp1 : Kp K h g1 := ⟨by omega, fun b hb => (hT3.kb b (.inl hb)).2⟩
    simp only [asTu_t, hdO_c, asI_i64, Option.bind_some, List.isEmpty_nil, cond_t]
    refine Ok.bind (ref_add hW1 (by rw [List.length_map]; omega) (by omega) (by rw [List.length_map]; omega)) ?_
    rintro v g2 (⟨he, _, _⟩ | ⟨_, rfl, G', hW2, mvW⟩)
    · rw [openS_one hA.one] at he; omega
    · obtain ⟨G2, hW2, hg2, hsubG⟩ := Wld_tight hW2
      have mvW2 : Moved G G2 g1 g2 := mvW.sub hsubG
      have hn2 := mvW2.n
      have hKG : ∀ b, K b → ¬ G b := fun b hb hg => h7 b hb (.inl hg)
      have mvU : Moved (fun b => G b ∨ blk pa b) (fun b => G2 b ∨ blk pa b) g1 g2 := ⟨mvW2.n, fun b hb hn => mvW2.g b hb (fun e => hn (.inl e)), fun b hb => by
        rcases hb with hb | hb
        · rcases mvW2.f b hb with e | e
          · exact .inl (.inl e)
          · exact .inr e
        · exact .inl (.inr hb)⟩
      have hT4 : TI g2 g2 (fun b => K b ∨ (G2 b ∨ blk pa b)) F3 s o1 o2 (tl ++ [p]) [] := TI_world (TI_rebase hT3) ht3 h7 hik mvU (fun b hb => by
        rcases hb with hb | hb
        · exact hg2 b hb
        · have := hpl b hb; omega)
      have hs4 : Sch g2 s F3 _ _ 0 w := hs3.away (fun b hb hf' => mvW2.g b hb (fun hg => hT3.Fb b hf' (.inr (.inl hg)))) mvW2.n
      have kp2 : Kp K g1 g2 := ⟨hn2, fun b hb => mvW2.g b (by have := hA.kl b hb; omega) (hKG b hb)⟩
      obtain ⟨t, A, hw2, hF2, ht2⟩ := hW2
      have hsl := hw2.slen
      rw [List.length_append, List.length_map] at hsl
      simp only [List.length_cons, List.length_nil, Nat.zero_add] at hsl
      have hx : ((A.sn : Nat) : Int) = (ts.length : Int) + 1 := by omega
      have z : (decide ((0 : Int) = 0)) = true := rfl
      simp only [asB_b, Option.bind_some, z, beq_self_eq_true, Bool.not_true, cond_f, cond_t, hw2.c1, hx, decide_true]
      refine Ok.le ?_ law13_SchedRuns_j15_le
      rw [cond_f]
      refine Ok.le ?_ law13_SchedRuns_j14_le
      have h5' : Ow g2 1 pa pn pc (tl.map slOf) := ow_same h5 (fun b hb hbl => by
        rw [mvW2.g b (by omega) (h6 b hbl)]
        exact (hT3.kb b (.inr (.inr hbl))).2) (by omega)
      obtain ⟨g3, u1, u2, u3, u4⟩ := (h5'.fr (Fr.push [] g2 (.cells [.slice (some ⟨M, 0, none⟩) m m] false false 1)) (by simp)).app (by_ := 24) (newCells_one (c := 1) (AH.get_push_eq g2 _) rfl) (by rfl) (by omega) (by omega) (by omega) (by omega)
      have hpn2 : (g2.push (.cells [.slice (some ⟨M, 0, none⟩) m m] false false 1)).n = g2.n + 1 := rfl
      have keep3 : ∀ b, b < g2.n → ¬ blk pa b → g3.get b = g2.get b := fun b hb hnb => by rw [u4 b (by omega) hnb, AH.get_push_ne _ (by omega)]
      have hw3 : WR g3 wb pa pn pc A _ _ _ _ _ _ := hw2.same (fun b hb hw => keep3 b hb (fun hbl => by
        have hgb := hF2 b hw
        rcases mvW2.f b hgb with e | e
        · exact h6 b hbl e
        · have := hpl b hbl; omega)) (by omega)
      obtain ⟨g4, v1, hw4, v3, v4⟩ := WR_setP hw3 (some ⟨(g2.push (.cells [.slice (some ⟨M, 0, none⟩) m m] false false 1)).n, 0, none⟩) (pn + 1) opn
      simp only [cond_t, Option.bind_some, hw2.c0, u1, asS_s, v1]
      have hwbG : G2 wb := hF2 wb (.inl rfl)
      have mv5 : Moved (fun b => G2 b ∨ blk pa b) (fun b => G2 b ∨ blk (some ⟨(g2.push (.cells [.slice (some ⟨M, 0, none⟩) m m] false false 1)).n, 0, none⟩) b) g2 g4 := ⟨by omega, fun b hb hn => by
        rw [v4 b (fun e => hn (.inl (e ▸ hwbG)))]; exact keep3 b hb (fun e => hn (.inr e)), fun b hb => by
        rcases hb with hb | hb
        · exact .inl (.inl hb)
        · obtain rfl : (g2.push (.cells [.slice (some ⟨M, 0, none⟩) m m] false false 1)).n = b := hb
          exact .inr (by omega)⟩
      have hKU : ∀ b, K b → ¬ (G2 b ∨ blk pa b) := fun b hb hg => by
        rcases hg with hg | hg
        · rcases mvW2.f b hg with e | e
          · exact hKG b hb e
          · have := hA.kl b hb; omega
        · exact h7 b hb (.inr hg)
      have hT5 := TI_world hT4 (fun b hb => Nat.lt_of_lt_of_le (ht3 b hb) mvW2.n) hKU hik mv5 (fun b hb => by
        rcases hb with hb | hb
        · have := hg2 b hb; omega
        · obtain rfl : (g2.push (.cells [.slice (some ⟨M, 0, none⟩) m m] false false 1)).n = b := hb
          omega)
      have hFl : ∀ b, F3 b → b < g2.n := fun b hb => Nat.lt_of_lt_of_le (ht3 b hb) mvW2.n
      have hs5 : Sch g4 s F3 _ _ 0 w := hs4.away (fun b hb hf' => mv5.g b hb (fun hg => hT4.Fb b hf' (.inr hg))) mv5.n
      have kp4 : Kp K g2 g4 := ⟨by omega, fun b hb => mv5.g b (by have := hA.kl b hb; omega) (hKU b hb)⟩
      refine hnext g4 (ts ++ [⟨some (y_P_law13_task, .pointer (some ⟨h.n, 0, none⟩)), 1, 0⟩]) (line ++ [(ts.length : Int) + 1]) (tl ++ [p]) ⟨⟨F3, G2, w, w', _, pn + 1, opn, hs5, fun b hb => by have := hFl b hb; omega, ⟨t, A, ?_, hF2, ht2⟩, fun b hb => by have := hg2 b hb; omega, ?_, fun b hb hg => ?_, fun b hb hg => ?_, hT5⟩, hik, hA.good.app _ rfl, by simp [hlen], fun y hy => ?_, by simp; omega, by rw [List.map_append, List.map_append, hA.tt]; rfl, by rw [List.map_append, List.map_append, hA.nn]; rfl, fun q hq => ?_, fun q hq => ?_⟩ (kp1.trans (kp2.trans kp4))
      · have := hw4
        rw [List.length_map] at this
        simpa using this
      · rw [List.map_append]
        exact ow_same u2 (fun b hb hbl => v4 b (fun e => by
          obtain rfl : (g2.push (.cells [.slice (some ⟨M, 0, none⟩) m m] false false 1)).n = b := hbl
          have := hg2 wb hwbG; omega)) (by omega)
      · obtain rfl : (g2.push (.cells [.slice (some ⟨M, 0, none⟩) m m] false false 1)).n = b := hb
        have := hg2 _ hg; omega
      · rcases hg with hg | hg
        · exact hKU b hb (.inl hg)
        · obtain rfl : (g2.push (.cells [.slice (some ⟨M, 0, none⟩) m m] false false 1)).n = b := hg
          have := hA.kl _ hb; omega
      · rcases List.mem_append.mp hy with hy | hy
        · exact hA.one y hy
        · simp at hy; subst hy; rfl
      · rcases List.mem_append.mp hq with hq | hq
        · exact hA.at_ q hq
        · simp only [List.mem_cons, List.not_mem_nil, or_false] at hq
          subst hq; rfl
      · rcases List.mem_append.mp hq with hq | hq
        · exact hA.dos q hq
        · simp only [List.mem_cons, List.not_mem_nil, or_false] at hq
          subst hq; exact hl
end
def WI (x : Int) : Prop := (Lit.int .i64 x).wf = true
section
variable {s o1 o2 wb : Nat} {a16 : Option Addr} {ls : List (Inn DoR)} {c18 : Nat} {a4 : Option Addr} {ps : List Int} {c6 : Nat}
theorem start_picks {h : AH} {K : Nat → Prop} {ts : List TD} {line : List Int} {tl : List TK} (hA : Ad h K s o1 o2 wb ts line tl) (hps : ∀ x ∈ ps, WI x) (hp : Rd h a4 (ps.flatMap encI)) (hpk : ∀ b, blk a4 b → K b) :
    Ok (law13_SchedRuns_j12 ps.length a4 (some ⟨s, 0, none⟩) (some ⟨wb, 0, none⟩) (some ⟨o2, 0, none⟩) (some ⟨o1, 0, none⟩) c6 h) Qt := by
  obtain ⟨F, G, w, w', pa, pn, pc, h1, h2, h3, h4, h5, h6, h7, h8⟩ := hA.ex
  refine Ok.le ?_ law13_SchedRuns_j12_le
  have hle := hA.le
  refine L3_ok (K := fun b => K b ∨ blk pa b) (pa := pa) (pn := pn) (pc := pc) (ps := ps) hps 300 0 h ts line tl [] rfl (by omega) ⟨⟨F, G, w, w', h1, h2, h3, h4, fun b hb hg => ?_, TI_iff h8 fun b => ?_, fun p hp b hb => .inl (hA.ik p hp b hb)⟩, hA.good, hA.len, by omega, hA.tt, hA.nn, fun p hp => by rw [hA.at_ p hp]; omega, by simp, h5.rd, fun b hb => .inr hb, by have := h5.len; rw [List.length_map] at this; omega, fun p hp => ?_, hp, fun b hb => .inl (hpk b hb)⟩ fun y hy => ?_
  · rcases hb with hb | hb
    · exact h7 b hb (.inl hg)
    · exact h6 b hb hg
  · constructor
    · rintro (hb | hb | hb)
      · exact .inl (.inl hb)
      · exact .inr hb
      · exact .inl (.inr hb)
    · rintro ((hb | hb) | hb)
      · exact .inl hb
      · exact .inr (.inr hb)
      · exact .inr (.inl hb)
  · obtain ⟨i1, i2, i3⟩ := h8.ins p hp
    exact ⟨i1, fun b hb => .inl (hA.ik p hp b hb), i3, hA.dos p hp⟩
  · obtain ⟨z, hz, rfl⟩ := List.mem_map.mp hy
    rw [hA.one z hz]; omega
theorem L4_ok (hps : ∀ x ∈ ps, WI x) (hn : ∀ x ∈ ls, x.n = x.l.length ∧ x.n * 24 ≤ 281474976710656) (hll : ls.length ≤ 70) : ∀ (d i : Nat) (h : AH) (K : Nat → Prop) (ts : List TD) (line : List Int) (tl : List TK), ls.length - i = d → i ≤ ls.length → Ad h K s o1 o2 wb ts line tl →
    Rd h a16 (ls.flatMap encInn) → (∀ b, blk a16 b → K b) → (∀ x ∈ ls, Rd h x.a (x.l.flatMap encDo) ∧ ∀ b, blk x.a b → K b) → Rd h a4 (ps.flatMap encI) → (∀ b, blk a4 b → K b) →
    Ok (law13_SchedRuns_L4 ls.length a16 (some ⟨s, 0, none⟩) (some ⟨o2, 0, none⟩) (some ⟨o1, 0, none⟩) (some ⟨wb, 0, none⟩) a4 ps.length c6 c18 (i : Int) h) Qt := by
  intro d
  induction d with
  | zero =>
    intro i h K ts line tl hd hi hA hr hrk hx hp hpk
    obtain rfl : i = ls.length := by omega
    refine Ok.le ?_ law13_SchedRuns_L4_le
    rw [dec_f (by omega), cond_f]
    exact start_picks hA hps hp hpk
  | succ d ih =>
    intro i h K ts line tl hd hi hA hr hrk hx hp hpk
    obtain ⟨x, hxi⟩ : ∃ x, ls[i]? = some x := ⟨_, List.getElem?_eq_getElem (by omega)⟩
    obtain ⟨x1, x2⟩ := hx x (List.mem_of_getElem? hxi)
    obtain ⟨n1, n2⟩ := hn x (List.mem_of_getElem? hxi)
    have hkl := hA.kl
    obtain ⟨ad, had, hrd⟩ := hr.some (by
      intro he
      have := congrArg List.length he
      rw [flat_len encInn_len] at this
      have h0 : ls.length * 1 = 0 := this
      omega)
    have e1 : h.ldS ad.block (ad.off + i * 1) = some (x.a, x.n, x.c) := by
      have := (hrd (i * 1 + 0)).2.2.2.2 x.a x.n x.c (by rw [flat_get_some encInn_len (by omega) hxi]; rfl)
      exact this
    refine Ok.le ?_ law13_SchedRuns_L4_le
    rw [dec_t (by omega), cond_t]
    refine Ok.le ?_ law13_SchedRuns_j20_le
    have b1 : decide ((0 : Int) ≤ ((x.n : Nat) : Int)) = true := decide_eq_true (by omega)
    have b2 : decide (((x.n : Nat) : Int) ≤ ((x.n : Nat) : Int)) = true := decide_eq_true (by omega)
    have b3 : decide (((x.n : Nat) : Int) * 24 ≤ 281474976710656) = true := decide_eq_true (by omega)
    have b4 : decide (((x.n : Nat) : Int) ≤ 281474976710656) = true := decide_eq_true (by omega)
    simp only [had, Option.bind_some, inB_t (show (0 : Int) ≤ (i : Int) by omega) (show (i : Int) < (ls.length : Nat) by omega), cond_t, Int.toNat_natCast, e1, b1, b2, b3, b4, Bool.and_self]
    have hM : (h.push (.cells (repL [.int .i64 0, .int .i64 0, .bool false] x.n) false false 3)).get h.n = some (.cells ((cpy x.l 0).flatMap encDo) false false 3) := by
      rw [AH.get_push_eq, repL_flat, n1]
      simp [cpy]
    rw [← had]
    refine copy_ok hxi hr (fun b hb => hkl b (hrk b hb)) x1 (fun b hb => hkl b (x2 b hb)) n1 (by omega) (fun g hgn hgs hgM => ?_) x.n 0 _ rfl (by omega) rfl (fun b hb => AH.get_push_ne _ (by omega)) hM
    have hf : Fr [] h g := ⟨by omega, fun b hb _ => hgs b hb⟩
    have hA1 := hA.fr hf (X := fun b => b = h.n) (fun b hb => by omega)
    have kp1 : Kp K h g := ⟨by omega, fun b hb => hgs b (hkl b hb)⟩
    refine j16_ok hA1 (M := h.n) (l := x.l.map pk) (.inr ⟨_, _, _, _, _, rfl, hgM, by show h.n < g.n; omega, fun k v hk => by simpa using hk⟩) (.inr rfl) (by rw [List.length_map]; exact n1) (fun d hd => ?_) fun h' ts' line' tl' hA2 kp2 => ?_
    · obtain ⟨e, _, rfl⟩ := List.mem_map.mp hd
      have := pickM_bd e.tell 7 (by omega)
      exact pickM_id _ 7 this.1 this.2
    · have kpx : Kp K g h' := ⟨kp2.1, fun b hb => kp2.2 b (.inl hb)⟩
      have kp := kp1.trans kpx
      refine Ok.le ?_ law13_SchedRuns_j13_le
      rw [wrap64 (by omega) (by omega)]
      exact ih (i + 1) h' _ ts' line' tl' (by omega) (by omega) hA2 (kp.rd hr hrk) (fun b hb => .inl (hrk b hb)) (fun y hy => ⟨kp.rd (hx y hy).1 (hx y hy).2, fun b hb => .inl ((hx y hy).2 b hb)⟩) (kp.rd hp hpk) (fun b hb => .inl (hpk b hb))
end
theorem main (h : AH) {a : Option Addr} {n c : Nat} {ls : List (Inn DoR)} (s1 : SlIn2 h encDo (fun _ => True) a n c ls) (rm : ∀ x ∈ ls, x.n * 24 ≤ 281474976710656) {a2 : Option Addr} {n2 c2 : Nat} {ps : List Int} (s2 : SlIn h encI WI a2 n2 c2 ps) : Ok (C k_law13_SchedRuns [.slice a n c, .slice a2 n2 c2] h) Qt := by
  refine Ok.le ?_ law13_SchedRuns_le
  obtain ⟨a', c', e1, e2, e3⟩ := cut70 s1
  have hn2 := s2.len
  subst hn2
  let h10 := h.push (.cells [.slice none 0 0, .slice none 0 0, .slice none 0 0, .slice none 0 0, .slice none 0 0, .bool false, .int .i64 0] false false 7)
  let h11 := h10.push (.cells [.slice none 0 0] false false 1)
  have hn10 : h10.n = h.n + 1 := rfl
  have hn11 : h11.n = h.n + 2 := rfl
  obtain ⟨h13, b1, b2, b3, b4⟩ := push_st h11 [.bool false] [.bool false] 1 rfl
  have f10 : Fr [] h h10 := Fr.push [] h _
  have f11 : Fr [] h10 h11 := Fr.push [] h10 _
  have f13 : Fr [] h h13 := (f10.trans f11).trans b3
  let h14 := h13.push (.cells [.bool true, .slice none 0 0, .slice none 0 0, .int .i64 0, .bool false] false false 5)
  have f14 : Fr [] h13 h14 := Fr.push [] h13 _
  have hn14 : h14.n = h13.n + 1 := rfl
  simp only [h10, h11] at b1
  simp only [F_law13_SchedRuns, e1, Option.bind_some, asS_s, b1, sched_New_le _ rfl, asP_p, Option.isNone_some, cond_f]
  refine Ok.le ?_ law13_SchedRuns_j21_le
  have gwb : h14.get h.n = some (.cells [.slice none 0 0, .slice none 0 0, .slice none 0 0, .slice none 0 0, .slice none 0 0, .bool false, .int .i64 0] false false 7) := by
    rw [f14.g h.n (by omega) (by simp), b3.g h.n (by omega) (by simp), f11.g h.n (by omega) (by simp)]
    exact AH.get_push_eq _ _
  have go1 : h14.get h10.n = some (.cells [.slice none 0 0] false false 1) := by
    rw [f14.g h10.n (by omega) (by simp), b3.g h10.n (by omega) (by simp)]
    exact AH.get_push_eq _ _
  have go2 : h14.get h11.n = some (.cells [.bool false] false false 1) := by
    rw [f14.g h11.n (by omega) (by simp)]; exact b2
  have hff : Fr [] h h14 := f13.trans f14
  have hA : Ad h14 (fun b => b < h.n) h13.n h10.n h11.n h.n [] [] [] := by
    refine ⟨⟨fun b => b = h13.n, fun b => b = h.n, false, false, none, 0, 0, new_sch h13, fun b hb => by omega, ⟨(none, 0, 0), ⟨none, 0, 0, none, 0, 0, none, 0, 0, none, 0, 0⟩, ⟨gwb, .nil, .nil, .ow .nil, .nil, by omega, fun e => e, fun e => e, fun e => e, fun e => e, fun b e => e.elim, fun b e => e.elim, fun b e => e.elim, fun b e => e.elim, fun b e => e.elim, fun b e => e.elim⟩, fun b hb => ?_, rfl⟩, fun b hb => by omega, .nil, fun b hb => hb.elim, fun b hb hg => ?_, ⟨Nat.le_refl _, fun b hb => ⟨?_, rfl⟩, fun b hb hk => ?_, ⟨none, 0, 0, go1, .nil, fun b hb => hb.elim⟩, go2, ⟨fun hk => ?_, by omega, by omega⟩, ⟨fun hk => ?_, by omega, by omega⟩, by omega, fun p hp => by simp at hp, fun p hp => by simp at hp, by simp⟩⟩, fun p hp => by simp at hp, ⟨List.nodup_nil, fun j hj => by simp at hj⟩, rfl, fun x hx => by simp at hx, by simp, rfl, rfl, fun p hp => by simp at hp, fun p hp => by simp at hp⟩
    · rcases hb with hb | hb | hb | hb | hb
      · exact hb
      · exact hb.elim
      · exact hb.elim
      · exact hb.elim
      · exact hb.elim
    · rcases hg with hg | hg
      · omega
      · exact hg.elim
    · rcases hb with hb | hb | hb
      · omega
      · omega
      · exact hb.elim
    · rcases hk with hk | hk | hk
      · omega
      · omega
      · exact hk.elim
    · rcases hk with hk | hk | hk
      · omega
      · omega
      · exact hk.elim
    · rcases hk with hk | hk | hk
      · omega
      · omega
      · exact hk.elim
  have hll : (ls.take 70).length ≤ 70 := by rw [List.length_take]; omega
  exact L4_ok s2.good (fun x hx => ⟨(s1.each x (List.mem_of_mem_take hx)).len, rm x (List.mem_of_mem_take hx)⟩) hll _ 0 h14 _ [] [] [] rfl (by omega) hA (e2.fr hff (by simp)) e3 (fun x hx => by
    have := s1.each x (List.mem_of_mem_take hx)
    exact ⟨this.rd.fr hff (by simp), this.lt⟩) (s2.rd.fr hff (by simp)) s2.lt
end Rn
end Go.Lg.Try
