/- A step of a law's task: what it does to the scheduler and to what is told. -/
import Derived.Test.YtplfjljdakkigaaFlaw13
import Derived.Test.YtplfjljdakkigaaPschedX
import Derived.Test.YtplfjljdakkigaaPkitPick
import Derived.Test.YtplfjljdakkigaaEv33
namespace Go.Lg.Try
set_option linter.unusedVariables false
set_option linter.unusedSimpArgs false
open Go Go.Proofs
structure DoR where
  tell : Int
  wake : Int
  inner : Bool
def encDo (d : DoR) : List Value := [.int .i64 d.tell, .int .i64 d.wake, .bool d.inner]
theorem encDo_len (d : DoR) : (encDo d).length = 3 := rfl
/-- a task: its block, its steps, how many it has had -/
structure TK where
  tb : Nat
  a : Option Addr
  n : Nat
  c : Nat
  l : List DoR
  at_ : Nat
def tkG (s o1 o2 : Nat) (p : TK) : List Value := [.pointer (some ⟨s, 0, none⟩), .slice p.a p.n p.c, .int .i64 p.at_, .pointer (some ⟨o1, 0, none⟩), .pointer (some ⟨o2, 0, none⟩)]
structure TI (h0 h : AH) (K F : Nat → Prop) (s o1 o2 : Nat) (tl : List TK) (bs : List Bool) : Prop where
  n0 : h0.n ≤ h.n
  kb : ∀ b, K b → b < h0.n ∧ h.get b = h0.get b
  Fb : ∀ b, F b → ¬ K b
  told : ∃ ta tn tc, h.get o1 = some (.cells [.slice ta tn tc] false false 1) ∧ Ow h 1 ta tn tc (bs.map Value.bool) ∧ ∀ b, blk ta b → ¬ K b ∧ b < h.n ∧ ¬ F b ∧ b ≠ o1 ∧ b ≠ o2 ∧ ∀ p ∈ tl, b ≠ p.tb
  bad : h.get o2 = some (.cells [.bool false] false false 1)
  o1o : ¬ K o1 ∧ o1 < h.n ∧ ¬ F o1
  o2o : ¬ K o2 ∧ o2 < h.n ∧ ¬ F o2
  ne : o1 ≠ o2
  tk : ∀ p ∈ tl, h.get p.tb = some (.cells (tkG s o1 o2 p) false false 5) ∧ ¬ K p.tb ∧ p.tb < h.n ∧ ¬ F p.tb ∧ p.tb ≠ o1 ∧ p.tb ≠ o2
  ins : ∀ p ∈ tl, Rd h0 p.a (p.l.flatMap encDo) ∧ (∀ b, blk p.a b → K b) ∧ p.n = p.l.length
  nd : (tl.map TK.tb).Nodup
def doOf (p : TK) : DoR := match p.l[p.at_]? with
  | some d => d
  | none => ⟨0, 0, false⟩
def aft (ts : List TD) (line : List Int) (id : Int) (w : Bool) (d : DoR) : List TD × List Int × Bool := if d.wake = 0 then (ts, line, w) else (wakeM ts line id w d.wake).2
def toldOf (ts : List TD) (line : List Int) (id : Int) (w : Bool) (d : DoR) : List Bool := if d.wake = 0 then [] else [(wakeM ts line id w d.wake).1]
/-- another state of the memory: the scheduler's and what is told may have turned, and the i-th task's block -/
theorem j1_ok {h : AH} {d0 : Nat} {d : DoR} (hg : h.get d0 = some (.cells (encDo d) false false 3)) : law13_task_Step_j1 (some ⟨d0, 0, none⟩) h = some (.int .u8 (pickM d.tell 7), h) := by
  refine law13_task_Step_j1_le _ ?_
  have e : h.ldI .i64 d0 (0 + 0) = some d.tell := AH.ldI_of hg rfl
  have hb := pickM_bd d.tell 7 (by omega)
  have hw : IntKind.wrap .u8 (pickM d.tell 7) = pickM d.tell 7 := IntWalk.u8_in _ ⟨hb.1, by omega⟩
  simp only [Option.bind_some, e, pick_eq d.tell 7 (by omega) (by omega), asI_i64, hw]
theorem rd_keep {h h' : AH} {a : Option Addr} {cs : List Value} (hr : Rd h a cs) (hg : ∀ b, blk a b → h'.get b = h.get b) (hn : h.n ≤ h'.n) : Rd h' a cs := by
  rcases hr with rfl | ⟨ad, c, op, ro, e, rfl, h1, h2, h3⟩
  · exact .inl rfl
  · exact .inr ⟨ad, c, op, ro, e, rfl, by rw [hg _ rfl]; exact h1, by omega, h3⟩
theorem ow_same {h h' : AH} {sz : Nat} {a : Option Addr} {n c : Nat} {cs : List Value} (ho : Ow h sz a n c cs) (hg : ∀ b, b < h.n → blk a b → h'.get b = h.get b) (hn : h.n ≤ h'.n) : Ow h' sz a n c cs := by
  cases ho with
  | nil => exact .nil
  | mk hb hl hlt => exact .mk (by rw [hg _ hlt rfl]; exact hb) hl (Nat.lt_of_lt_of_le hlt hn)
section
variable {h0 h h' : AH} {K F F' : Nat → Prop} {s o1 o2 : Nat} {tl : List TK} {bs : List Bool}
theorem TI.keep (hT : TI h0 h K F s o1 o2 tl bs) (hn : h.n ≤ h'.n) (hg : ∀ b, b < h.n → ¬ F b → h'.get b = h.get b) (hf : ∀ b, F' b → F b ∨ h.n ≤ b) : TI h0 h' K F' s o1 o2 tl bs := by
  have hn0 := hT.n0
  have nF : ∀ b, b < h.n → ¬ F b → ¬ F' b := fun b hb hn hf' => by rcases hf b hf' with e | e; exact hn e; omega
  obtain ⟨ta, tn, tc, t1, t2, t3⟩ := hT.told
  refine ⟨by omega, fun b hb => ?_, fun b hb => ?_, ⟨ta, tn, tc, ?_, ?_, fun b hb => ?_⟩, ?_, ⟨hT.o1o.1, by have := hT.o1o.2.1; omega, nF _ hT.o1o.2.1 hT.o1o.2.2⟩, ⟨hT.o2o.1, by have := hT.o2o.2.1; omega, nF _ hT.o2o.2.1 hT.o2o.2.2⟩, hT.ne, fun p hp => ?_, hT.ins, hT.nd⟩
  · obtain ⟨k1, k2⟩ := hT.kb b hb
    exact ⟨k1, by rw [hg b (by omega) (fun hf' => hT.Fb b hf' hb)]; exact k2⟩
  · rcases hf b hb with e | e
    · exact hT.Fb b e
    · exact fun hk => by have := (hT.kb b hk).1; omega
  · rw [hg o1 hT.o1o.2.1 hT.o1o.2.2]; exact t1
  · exact ow_same t2 (fun b hb hbl => hg b hb (t3 b hbl).2.2.1) hn
  · obtain ⟨k1, k2, k3, k4, k5, k6⟩ := t3 b hb
    exact ⟨k1, by omega, nF b k2 k3, k4, k5, k6⟩
  · rw [hg o2 hT.o2o.2.1 hT.o2o.2.2]; exact hT.bad
  · obtain ⟨k1, k2, k3, k4, k5, k6⟩ := hT.tk p hp
    exact ⟨by rw [hg p.tb k3 k4]; exact k1, k2, by omega, nF _ k3 k4, k5, k6⟩
theorem TI.fr (hT : TI h0 h K F s o1 o2 tl bs) (hf : Fr [] h h') : TI h0 h' K F s o1 o2 tl bs := hT.keep hf.n (fun b hb _ => hf.g b hb (by simp)) (fun b hb => .inl hb)
theorem TI.moved (hT : TI h0 h K F s o1 o2 tl bs) (mv : Moved F F' h h') : TI h0 h' K F' s o1 o2 tl bs := hT.keep mv.n mv.g mv.f
/-- one more word told -/
theorem TI.tell (hT : TI h0 h K F s o1 o2 tl bs) (hF : ∀ b, F b → b < h.n) (x : Bool) (hl : bs.length < 100000) {ta : Option Addr} {tn tc : Nat} (ht : h.get o1 = some (.cells [.slice ta tn tc] false false 1)) :
    ∃ ta' tn' tc' h3 h4, appE 1 1 (.slice ta tn tc) (.slice (some ⟨h.n, 0, none⟩) 1 1) (h.push (.cells [.bool x] false false 1)) = some (.slice ta' tn' tc', h3) ∧ h3.st o1 0 [.slice ta' tn' tc'] = some h4 ∧
      TI h0 h4 K F s o1 o2 tl (bs ++ [x]) ∧ h.n ≤ h4.n ∧ (∀ b, b < h.n → ¬ blk ta b → h3.get b = h.get b) ∧ (∀ b, b < h.n → ¬ blk ta b → b ≠ o1 → h4.get b = h.get b) := by
  obtain ⟨ta0, tn0, tc0, t1, t2, t3⟩ := hT.told
  rw [t1] at ht
  simp only [Option.some.injEq, Blk.cells.injEq, List.cons.injEq, Value.slice.injEq, and_true] at ht
  obtain ⟨rfl, rfl, rfl⟩ := ht
  have hlen : tn0 = bs.length := by have := t2.len; simp at this; omega
  have hf1 : Fr [] h (h.push (.cells [.bool x] false false 1)) := Fr.push _ _ _
  obtain ⟨h3, e1, e2, e3, e4⟩ := (t2.fr hf1 (by simp)).app (by_ := 1) (newCells_one (c := 1) (AH.get_push_eq h _) rfl) (by rfl) (by omega) (by omega) (by omega) (by omega)
  have hpn : (h.push (.cells [.bool x] false false 1)).n = h.n + 1 := rfl
  have hn0 := hT.n0
  have g3 : ∀ b, b < h.n → ¬ blk ta0 b → h3.get b = h.get b := fun b hb hnb => by rw [e4 b (by omega) hnb, AH.get_push_ne _ (by omega)]
  have hb1 : ¬ blk ta0 o1 := fun hb => (t3 _ hb).2.2.2.1 rfl
  have ho1 := hT.o1o.2.1
  have ho2 := hT.o2o.2.1
  have q3 : h3.get o1 = some (.cells [.slice ta0 tn0 tc0] false false 1) := by rw [g3 o1 ho1 hb1]; exact t1
  have st4 : h3.st o1 0 [.slice (some ⟨h.n + 1, 0, none⟩) (tn0 + 1) opn] = some (h3.set o1 (some (.cells [.slice (some ⟨h.n + 1, 0, none⟩) (tn0 + 1) opn] false false 1))) := AH.st_of q3 (by simp)
  refine ⟨_, _, _, h3, _, e1, st4, ?_, by rw [AH.n_set]; omega, g3, fun b hb hnb hne => by rw [AH.get_set_ne _ hne]; exact g3 b hb hnb⟩
  have g4 : ∀ b, b < h.n → ¬ blk ta0 b → b ≠ o1 → (h3.set o1 (some (.cells [.slice (some ⟨h.n + 1, 0, none⟩) (tn0 + 1) opn] false false 1))).get b = h.get b := fun b hb hnb hne => by rw [AH.get_set_ne _ hne]; exact g3 b hb hnb
  refine ⟨by rw [AH.n_set]; omega, fun b hb => ?_, hT.Fb, ⟨_, _, _, AH.get_set_eq _ _ _, ?_, fun b hb => ?_⟩, ?_, ⟨hT.o1o.1, by rw [AH.n_set]; omega, hT.o1o.2.2⟩, ⟨hT.o2o.1, by rw [AH.n_set]; omega, hT.o2o.2.2⟩, hT.ne, fun p hp => ?_, hT.ins, hT.nd⟩
  · obtain ⟨k1, k2⟩ := hT.kb b hb
    exact ⟨k1, by rw [g4 b (by omega) (fun hbl => (t3 b hbl).1 hb) (fun e => hT.o1o.1 (e ▸ hb))]; exact k2⟩
  · have : (bs ++ [x]).map Value.bool = bs.map Value.bool ++ [.bool x] := by simp
    rw [this]
    cases e2 with
    | mk hb hl hlt => exact .mk (by rw [AH.get_set_ne _ (by omega)]; exact hb) hl (by rw [AH.n_set]; omega)
  · obtain rfl : h.n + 1 = b := hb
    refine ⟨fun hk => by have := (hT.kb _ hk).1; omega, by rw [AH.n_set]; omega, fun hf => by have := hF _ hf; omega, by omega, by omega, fun p hp => by have := (hT.tk p hp).2.2.1; omega⟩
  · rw [g4 o2 ho2 (fun hb => (t3 _ hb).2.2.2.2.1 rfl) hT.ne.symm]; exact hT.bad
  · obtain ⟨k1, k2, k3, k4, k5, k6⟩ := hT.tk p hp
    exact ⟨by rw [g4 p.tb k3 (fun hb => (t3 _ hb).2.2.2.2.2 p hp rfl) k5]; exact k1, k2, by rw [AH.n_set]; omega, k4, k5, k6⟩
theorem j2_ok {ts : List TD} {line : List Int} {id : Int} {w : Bool} {d0 : Nat} {d : DoR} {p : TK} (hs : Sch h s F ts line id w) (hT : TI h0 h K F s o1 o2 tl bs) (hp : p ∈ tl) (hg : h.get d0 = some (.cells (encDo d) false false 3)) (hd : d0 < h.n ∧ ¬ F d0 ∧ d0 ≠ o1)
    (hdt : ∀ ta tn tc, h.get o1 = some (.cells [.slice ta tn tc] false false 1) → ¬ blk ta d0) (hb : ts.length < 1000) (hb2 : line.length < 1000) (hb3 : bs.length < 1000) :
    Ok (law13_task_Step_j2 (some ⟨d0, 0, none⟩) (some ⟨p.tb, 0, none⟩) h) fun v h2 => v = .int .u8 (pickM d.tell 7) ∧ ∃ F2, Sch h2 s F2 (aft ts line id w d).1 (aft ts line id w d).2.1 id (aft ts line id w d).2.2 ∧ TI h0 h2 K F2 s o1 o2 tl (bs ++ toldOf ts line id w d) := by
  refine Ok.le ?_ law13_task_Step_j2_le
  have e1 : h.ldI .i64 d0 (0 + 1) = some d.wake := AH.ldI_of hg rfl
  unfold aft toldOf
  simp only [Option.bind_some, e1]
  by_cases c : d.wake = 0
  · simp only [if_pos c, dec_t c, Bool.not_true, cond_f, List.append_nil]
    rw [j1_ok hg]
    exact Ok.some ⟨rfl, F, hs, hT⟩
  · simp only [if_neg c, dec_f c, Bool.not_false, cond_t]
    obtain ⟨ta, tn, tc, t1, t2, t3⟩ := hT.told
    obtain ⟨k1, k2, k3, k4, k5, k6⟩ := hT.tk p hp
    have rd : ∀ {hx : AH}, hx.get p.tb = some (.cells (tkG s o1 o2 p) false false 5) → hx.ldP p.tb (0 + 3) = some (some ⟨o1, 0, none⟩) ∧ hx.ldP p.tb (0 + 0) = some (some ⟨s, 0, none⟩) := fun hx => ⟨AH.ldP_of hx rfl, AH.ldP_of hx rfl⟩
    have rs : ∀ {hx : AH}, hx.get o1 = some (.cells [.slice ta tn tc] false false 1) → hx.ldS o1 0 = some (ta, tn, tc) := fun hx => AH.ldS_of hx rfl
    obtain ⟨r1, r2⟩ := rd k1
    simp only [r1, r2, rs t1, Option.bind_some]
    refine Ok.bind (wake_ok hs d.wake (by omega) (by omega)) ?_
    rintro _ h1 ⟨rfl, F1, hs1, mv⟩
    have hT1 := hT.moved mv
    obtain ⟨F2, hs2, ht2, hsub⟩ := hs1.tight
    have hT2 : TI h0 h1 K F2 s o1 o2 tl bs := hT1.keep (Nat.le_refl _) (fun _ _ _ => rfl) (fun b hb => .inl (hsub b hb))
    have q1 : h1.get p.tb = some (.cells (tkG s o1 o2 p) false false 5) := (hT2.tk p hp).1
    have q2 : h1.get o1 = some (.cells [.slice ta tn tc] false false 1) := by rw [mv.g o1 hT.o1o.2.1 hT.o1o.2.2]; exact t1
    obtain ⟨ta', tn', tc', h3, h4, u1, u2, u3, u4, u5, u6⟩ := hT2.tell ht2 (wakeM ts line id w d.wake).1 (by omega) q2
    have hmn := mv.n
    have ntb : ¬ blk ta p.tb := fun hb => (t3 _ hb).2.2.2.2.2 p hp rfl
    have p1 : (h1.push (.cells [.bool (wakeM ts line id w d.wake).1] false false 1)).get p.tb = some (.cells (tkG s o1 o2 p) false false 5) := by rw [AH.get_push_ne _ (by omega)]; exact q1
    have p2 : (h1.push (.cells [.bool (wakeM ts line id w d.wake).1] false false 1)).get o1 = some (.cells [.slice ta tn tc] false false 1) := by rw [AH.get_push_ne _ (by have := hT2.o1o.2.1; omega)]; exact q2
    have p3 : h3.get p.tb = some (.cells (tkG s o1 o2 p) false false 5) := by rw [u5 p.tb (by omega) ntb]; exact q1
    simp only [asB_b, Option.bind_some, rs q2, rs p2, (rd q1).1, (rd p1).1, (rd p3).1, veqO_slice, veqO_ptr, cond_t, u1, asS_s, u2]
    have hg4 : h4.get d0 = some (.cells (encDo d) false false 3) := by
      rw [u6 d0 (by omega) (hdt _ _ _ t1) hd.2.2, mv.g d0 hd.1 hd.2.1]; exact hg
    rw [j1_ok hg4]
    refine Ok.some ⟨rfl, F2, hs2.away (fun b hb hb2 => ?_) u4, u3⟩
    exact u6 b hb (fun hbl => by
      have := mv.keep (t3 b hbl).2.1 (t3 b hbl).2.2.1
      exact this (hsub b hb2)) (fun e => hT2.o1o.2.2 (e ▸ hb2))
end
def up (p : TK) : TK := { p with at_ := p.at_ + 1 }
theorem mem_set {tl : List TK} {i : Nat} {p q : TK} (hp : tl[i]? = some p) (nd : (tl.map TK.tb).Nodup) (hq : q ∈ tl.set i (up p)) : q = up p ∨ (q ∈ tl ∧ q.tb ≠ p.tb) := by
  obtain ⟨j, hj⟩ := List.getElem?_of_mem hq
  have hil : i < tl.length := (List.getElem?_eq_some_iff.mp hp).1
  by_cases e : i = j
  · subst e
    rw [List.getElem?_set_self hil] at hj
    exact .inl (Option.some.inj hj).symm
  · rw [List.getElem?_set_ne e] at hj
    refine .inr ⟨List.mem_of_getElem? hj, fun ep => ?_⟩
    have n1 : (tl.map TK.tb)[i]? = some p.tb := by simp [hp]
    have n2 : (tl.map TK.tb)[j]? = some p.tb := by simp [hj, ep]
    exact e ((List.getElem?_inj (by simpa using hil) nd).mp (n1.trans n2.symm))
section
variable {h0 h h' : AH} {K F F' : Nat → Prop} {s o1 o2 : Nat} {tl : List TK} {bs : List Bool}
theorem TI.setAt (hT : TI h0 h K F s o1 o2 tl bs) {i : Nat} {p : TK} (hp : tl[i]? = some p) : TI h0 (h.set p.tb (some (.cells (tkG s o1 o2 (up p)) false false 5))) K F s o1 o2 (tl.set i (up p)) bs := by
  have hpm : p ∈ tl := List.mem_of_getElem? hp
  obtain ⟨k1, k2, k3, k4, k5, k6⟩ := hT.tk p hpm
  obtain ⟨ta, tn, tc, t1, t2, t3⟩ := hT.told
  refine ⟨hT.n0, fun b hb => ?_, hT.Fb, ⟨ta, tn, tc, ?_, ?_, fun b hb => ?_⟩, ?_, hT.o1o, hT.o2o, hT.ne, fun q hq => ?_, fun q hq => ?_, ?_⟩
  · obtain ⟨c1, c2⟩ := hT.kb b hb
    have hne : b ≠ p.tb := fun e => k2 (e ▸ hb)
    exact ⟨c1, by rw [AH.get_set_ne _ hne]; exact c2⟩
  · rw [AH.get_set_ne _ k5.symm]; exact t1
  · exact ow_same t2 (fun b hb hbl => AH.get_set_ne _ ((t3 b hbl).2.2.2.2.2 p hpm)) (Nat.le_refl _)
  · obtain ⟨a1, a2, a3, a4, a5, a6⟩ := t3 b hb
    refine ⟨a1, a2, a3, a4, a5, fun q hq => ?_⟩
    rcases mem_set hp hT.nd hq with rfl | ⟨hq, _⟩
    · exact a6 p hpm
    · exact a6 q hq
  · rw [AH.get_set_ne _ k6.symm]; exact hT.bad
  · rcases mem_set hp hT.nd hq with rfl | ⟨hq, hne⟩
    · exact ⟨AH.get_set_eq _ _ _, k2, k3, k4, k5, k6⟩
    · rw [AH.get_set_ne _ hne]; exact hT.tk q hq
  · rcases mem_set hp hT.nd hq with rfl | ⟨hq, hne⟩
    · exact hT.ins p hpm
    · exact hT.ins q hq
  · have : (tl.set i (up p)).map TK.tb = tl.map TK.tb := by
      apply List.ext_getElem?
      intro k
      have hil : i < tl.length := (List.getElem?_eq_some_iff.mp hp).1
      by_cases e : i = k
      · subst e; rw [List.map_set, List.getElem?_set_self (by simpa using hil)]; simp [hp, up]
      · simp [List.getElem?_set_ne e]
    rw [this]; exact hT.nd
/-- a step of a task -/
theorem gstep {ts : List TD} {line : List Int} {id : Int} {w : Bool} {i : Nat} {p : TK} (hs : Sch h s F ts line id w) (hid : id ≠ 0) (hT : TI h0 h K F s o1 o2 tl bs) (hFl : ∀ b, F b → b < h.n) (hp : tl[i]? = some p) (hat : p.at_ < 100000) (hb : ts.length < 1000) (hb2 : line.length < 1000) (hb3 : bs.length < 1000) :
    Ok (C k_law13_task_Step [.pointer (some ⟨p.tb, 0, none⟩)] h) fun v h2 => v = .int .u8 (pickM (doOf p).tell 7) ∧ ∃ F2, Sch h2 s F2 (aft ts line id w (doOf p)).1 (aft ts line id w (doOf p)).2.1 id (aft ts line id w (doOf p)).2.2 ∧ TI h0 h2 K F2 s o1 o2 (tl.set i (up p)) (bs ++ toldOf ts line id w (doOf p)) := by
  have hpm : p ∈ tl := List.mem_of_getElem? hp
  have hup : up p ∈ tl.set i (up p) := List.mem_set (List.getElem?_eq_some_iff.mp hp).1 _
  refine Ok.le ?_ law13_task_Step_le
  obtain ⟨k1, k2, k3, k4, k5, k6⟩ := hT.tk p hpm
  have j3 : ∀ g : AH, Fr [] h g → h.n < g.n → g.get h.n = some (.cells (encDo (doOf p)) false false 3) → Ok (law13_task_Step_j3 (some ⟨p.tb, 0, none⟩) (some ⟨h.n, 0, none⟩) g) fun v h2 => v = .int .u8 (pickM (doOf p).tell 7) ∧ ∃ F2, Sch h2 s F2 (aft ts line id w (doOf p)).1 (aft ts line id w (doOf p)).2.1 id (aft ts line id w (doOf p)).2.2 ∧ TI h0 h2 K F2 s o1 o2 (tl.set i (up p)) (bs ++ toldOf ts line id w (doOf p)) := by
    intro g hf hgn hg
    refine Ok.le ?_ law13_task_Step_j3_le
    have hT1 := hT.fr hf
    have hs1 := hs.fr hf
    have q1 : g.get p.tb = some (.cells (tkG s o1 o2 p) false false 5) := (hT1.tk p hpm).1
    have e2 : g.ldI .i64 p.tb (0 + 2) = some (p.at_ : Int) := AH.ldI_of q1 rfl
    have st2 : g.st p.tb (0 + 2) [.int .i64 ((p.at_ : Int) + 1)] = some (g.set p.tb (some (.cells (tkG s o1 o2 (up p)) false false 5))) := AH.st_of q1 (by simp [tkG])
    have hne : h.n ≠ p.tb := by omega
    have hT2 := hT1.setAt hp
    have hs2 : Sch (g.set p.tb (some (.cells (tkG s o1 o2 (up p)) false false 5))) s F ts line id w := hs1.away (fun b hb hb2 => AH.get_set_ne _ (fun e => k4 (e ▸ hb2))) (Nat.le_refl _)
    have hg2 : (g.set p.tb (some (.cells (tkG s o1 o2 (up p)) false false 5))).get h.n = some (.cells (encDo (doOf p)) false false 3) := by rw [AH.get_set_ne _ hne]; exact hg
    have e3 : (g.set p.tb (some (.cells (tkG s o1 o2 (up p)) false false 5))).ldB h.n (0 + 2) = some (doOf p).inner := AH.ldB_of hg2 rfl
    have q2 : (g.set p.tb (some (.cells (tkG s o1 o2 (up p)) false false 5))).get p.tb = some (.cells (tkG s o1 o2 (up p)) false false 5) := AH.get_set_eq _ _ _
    have e4 : (g.set p.tb (some (.cells (tkG s o1 o2 (up p)) false false 5))).ldP p.tb (0 + 0) = some (some ⟨s, 0, none⟩) := AH.ldP_of q2 rfl
    have hdt : ∀ ta tn tc, (g.set p.tb (some (.cells (tkG s o1 o2 (up p)) false false 5))).get o1 = some (.cells [.slice ta tn tc] false false 1) → ¬ blk ta h.n := fun ta tn tc he => by
      rw [AH.get_set_ne _ k5.symm, hf.g o1 hT.o1o.2.1 (by simp)] at he
      obtain ⟨ta0, tn0, tc0, t1, t2, t3⟩ := hT.told
      rw [t1] at he
      simp only [Option.some.injEq, Blk.cells.injEq, List.cons.injEq, Value.slice.injEq, and_true] at he
      obtain ⟨rfl, rfl, rfl⟩ := he
      intro hbl
      have := (t3 _ hbl).2.1
      omega
    have fin := j2_ok (p := up p) hs2 hT2 hup hg2 ⟨hgn, fun hf' => by have := hFl _ hf'; omega, by have := hT.o1o.2.1; omega⟩ hdt hb hb2 hb3
    simp only [Option.bind_some, e2, wrap64 (show -9223372036854775808 ≤ (p.at_ : Int) + 1 by omega) (by omega), st2, e3]
    cases (doOf p).inner with
    | false => exact fin
    | true =>
      simp only [cond_t, e4, Option.bind_some, pick_idle hs2 0 (.inr hid), asTu_t, hdO_c, asI_i64, asI_u8, asB_b, List.isEmpty_nil, cond_f]
      exact fin
  obtain ⟨g1, s1, s2, s3, s4⟩ := push_st h [(.int .i64 0), (.int .i64 0), (.bool false)] [(.int .i64 0), (.int .i64 0), (.bool false)] 3 rfl
  have hT1 := hT.fr s3
  have q1 : g1.get p.tb = some (.cells (tkG s o1 o2 p) false false 5) := (hT1.tk p hpm).1
  have e1 : g1.ldI .i64 p.tb (0 + 2) = some (p.at_ : Int) := AH.ldI_of q1 rfl
  have e2 : g1.ldS p.tb (0 + 1) = some (p.a, p.n, p.c) := AH.ldS_of q1 rfl
  obtain ⟨i1, i2, i3⟩ := hT1.ins p hpm
  simp only [F_law13_task_Step, s1, Option.bind_some, e1, e2]
  by_cases c : (p.at_ : Int) < (p.n : Nat)
  · have hx : p.l[p.at_]? = some (doOf p) := by
      unfold doOf
      obtain ⟨d, hd⟩ : ∃ d, p.l[p.at_]? = some d := ⟨_, List.getElem?_eq_getElem (by omega)⟩
      rw [hd]
    obtain ⟨ad, had, hrd⟩ := (rd_keep i1 (fun b hb => (hT1.kb b (i2 b hb)).2) hT1.n0).some (by
      intro he
      have := congrArg List.length he
      rw [flat_len encDo_len] at this
      simp at this; omega)
    have d0 : g1.ldI .i64 ad.block (ad.off + p.at_ * 3) = some (doOf p).tell := by
      have := (hrd (p.at_ * 3 + 0)).1 .i64 (doOf p).tell (by rw [flat_get_some encDo_len (by omega) hx]; rfl)
      exact this
    have d1 : g1.ldI .i64 ad.block (ad.off + p.at_ * 3 + 1) = some (doOf p).wake := by
      have := (hrd (p.at_ * 3 + 1)).1 .i64 (doOf p).wake (by rw [flat_get_some encDo_len (by omega) hx]; rfl)
      rw [Nat.add_assoc]; exact this
    have d2 : g1.ldB ad.block (ad.off + p.at_ * 3 + 2) = some (doOf p).inner := by
      have := (hrd (p.at_ * 3 + 2)).2.1 (doOf p).inner (by rw [flat_get_some encDo_len (by omega) hx]; rfl)
      rw [Nat.add_assoc]; exact this
    have st2 : g1.st h.n 0 [.int .i64 (doOf p).tell, .int .i64 (doOf p).wake, .bool (doOf p).inner] = some (g1.set h.n (some (.cells (encDo (doOf p)) false false 3))) := AH.st_of s2 (by simp)
    simp only [dec_t c, cond_t, had, Option.bind_some, inB_t (show (0 : Int) ≤ (p.at_ : Int) by omega) c, Int.toNat_natCast, d0, d1, d2, st2]
    refine j3 _ ⟨by rw [AH.n_set]; omega, fun b hb _ => ?_⟩ (by rw [AH.n_set]; omega) (AH.get_set_eq _ _ _)
    rw [AH.get_set_ne _ (by omega)]; exact s3.g b hb (by simp)
  · have hx : doOf p = ⟨0, 0, false⟩ := by
      unfold doOf
      rw [List.getElem?_eq_none (by omega)]
    simp only [dec_f c, cond_f]
    exact j3 g1 s3 (by omega) (by rw [hx]; exact s2)
end
end Go.Lg.Try
