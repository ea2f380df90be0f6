/- The scheduler with the law's tasks, and the document's world, side by side in one memory. -/
import Derived.Test.YtplfjljdakkigaaPrefPick
namespace Go.Lg.Try
set_option linter.unusedVariables false
set_option linter.unusedSimpArgs false
open Go Go.Proofs
namespace Rn
/-! the two ways to say what a step does -/
theorem map_set_st (ts : List TD) (i : Nat) (y : Int) : (ts.modify i fun x => { x with st := y }).map TD.st = (ts.map TD.st).set i y := by
  apply List.ext_getElem?
  intro k
  rw [List.getElem?_map, List.getElem?_modify, List.getElem?_set]
  by_cases e : i = k
  · subst e
    rw [if_pos rfl]
    by_cases h : i < ts.length
    · rw [List.getElem?_eq_getElem h]; simp [h]
    · rw [List.getElem?_eq_none (by omega)]; simp [h]
  · rw [if_neg e, List.getElem?_map]
    cases ts[k]? <;> simp [e]
theorem map_set1 (ts : List TD) (i : Nat) {x : TD} (hx : ts[i]? = some x) (y : Int) : (ts.set i { x with st := y }).map TD.st = (ts.map TD.st).set i y := by
  rw [List.map_set]
theorem wake_eq (ts : List TD) (line : List Int) (now : Int) (w : Bool) (id : Int) : (wakeM ts line now w id).1 = (wakeW (ts.map TD.st) line now w id).1 ∧ (wakeM ts line now w id).2.1.map TD.st = (wakeW (ts.map TD.st) line now w id).2.1 ∧ (wakeM ts line now w id).2.2 = (wakeW (ts.map TD.st) line now w id).2.2 := by
  unfold wakeM wakeW
  rw [List.length_map]
  by_cases a : 1 ≤ id ∧ id ≤ (ts.length : Int)
  · rw [if_pos a, if_pos a]
    by_cases b : id = now
    · rw [if_pos b, if_pos b]; exact ⟨rfl, rfl, rfl⟩
    · rw [if_neg b, if_neg b, List.getElem?_map]
      cases hx : ts[(id - 1).toNat]? with
      | none => exact ⟨rfl, rfl, rfl⟩
      | some x =>
        simp only [Option.map_some]
        by_cases c : x.st = 2
        · rw [if_pos c, if_pos c]; exact ⟨rfl, map_set1 ts _ hx 1, rfl⟩
        · rw [if_neg c, if_neg c]; exact ⟨rfl, rfl, rfl⟩
  · rw [if_neg a, if_neg a]; exact ⟨rfl, rfl, rfl⟩
theorem fin_eq (ts : List TD) (line : List Int) (w : Bool) (id st : Int) : (finM ts line w id st).1 = (finW (ts.map TD.st) line w id st).1 ∧ (finM ts line w id st).2.1.map TD.st = (finW (ts.map TD.st) line w id st).2.1 ∧ (finM ts line w id st).2.2 = (finW (ts.map TD.st) line w id st).2.2 := by
  unfold finM finW
  by_cases a : st = 1 ∨ (st = 2 ∧ w = true)
  · rw [if_pos a, if_pos a]; exact ⟨rfl, map_set_st _ _ _, rfl⟩
  · rw [if_neg a, if_neg a]
    by_cases b : st = 2
    · rw [if_pos b, if_pos b]; exact ⟨rfl, map_set_st _ _ _, rfl⟩
    · rw [if_neg b, if_neg b]; exact ⟨rfl, map_set_st _ _ _, rfl⟩
theorem aft_eq (ts : List TD) (line : List Int) (id : Int) (d : DoR) : (aft ts line id false d).1.map TD.st = (aftW (ts.map TD.st) line id d).1 ∧ (aft ts line id false d).2 = (aftW (ts.map TD.st) line id d).2 ∧ toldOf ts line id false d = toldW (ts.map TD.st) line id d := by
  unfold aft aftW toldOf toldW
  by_cases a : d.wake = 0
  · rw [if_pos a, if_pos a, if_pos a, if_pos a]; exact ⟨rfl, rfl, rfl⟩
  · rw [if_neg a, if_neg a, if_neg a, if_neg a]
    obtain ⟨h1, h2, h3⟩ := wake_eq ts line id false d.wake
    exact ⟨h2, h3, by rw [h1]⟩
theorem wakeM0 (ts : List TD) (line : List Int) (w : Bool) (id : Int) : wakeM ts line 0 w id = ((wakeM ts line 0 false id).1, (wakeM ts line 0 false id).2.1, (wakeM ts line 0 false id).2.2.1, w) := by
  unfold wakeM
  by_cases a : 1 ≤ id ∧ id ≤ (ts.length : Int)
  · rw [if_pos a, if_pos a, if_neg (show ¬ id = 0 by omega), if_neg (show ¬ id = 0 by omega)]
    cases ts[(id - 1).toNat]? with
    | none => rfl
    | some x =>
      simp only
      by_cases c : x.st = 2
      · rw [if_pos c, if_pos c]
      · rw [if_neg c, if_neg c]
  · rw [if_neg a, if_neg a]
theorem wakeW0 (sts line : List Int) (w : Bool) (id : Int) : wakeW sts line 0 w id = ((wakeW sts line 0 false id).1, (wakeW sts line 0 false id).2.1, (wakeW sts line 0 false id).2.2.1, w) := by
  unfold wakeW
  by_cases a : 1 ≤ id ∧ id ≤ (sts.length : Int)
  · rw [if_pos a, if_pos a, if_neg (show ¬ id = 0 by omega), if_neg (show ¬ id = 0 by omega)]
    cases sts[(id - 1).toNat]? with
    | none => rfl
    | some x =>
      simp only
      by_cases c : x = 2
      · rw [if_pos c, if_pos c]
      · rw [if_neg c, if_neg c]
  · rw [if_neg a, if_neg a]
theorem good_wake {ts : List TD} {line : List Int} (hg : Good ts line) (j : Int) : Good (wakeM ts line 0 false j).2.1 (wakeM ts line 0 false j).2.2.1 := by
  unfold wakeM
  by_cases a : 1 ≤ j ∧ j ≤ ts.length
  · rw [if_pos a, if_neg (show ¬ j = 0 by omega)]
    cases hx : ts[(j - 1).toNat]? with
    | none => exact hg
    | some x =>
      simp only
      by_cases c : x.st = 2
      · rw [if_pos c]
        have hjl : j ∉ line := fun h => by
          obtain ⟨_, y, h1, h2⟩ := hg.2 j h
          rw [hx] at h1
          obtain rfl := Option.some.inj h1
          omega
        have hlt := (List.getElem?_eq_some_iff.mp hx).1
        exact good_push (hg.set hx (fun _ => rfl)) hjl a.1 ⟨_, List.getElem?_set_self hlt, rfl⟩
      · rw [if_neg c]; exact hg
  · rw [if_neg a]; exact hg
theorem tn_wake (ts : List TD) (line : List Int) (w : Bool) (j : Int) : tn (wakeM ts line 0 w j).2.1 = tn ts := by
  unfold wakeM
  split
  · split
    · rfl
    · split
      · rfl
      · rename_i x hx
        split
        · exact tn_set hx 1
        · rfl
  · rfl
/-! memory -/
section
variable {h h' : AH} {K F F' G G' : Nat → Prop} {s o1 o2 wb : Nat} {tl : List TK} {bs : List Bool} {h0 : AH}
theorem TI_rebase (hT : TI h0 h K F s o1 o2 tl bs) : TI h h K F s o1 o2 tl bs :=
  ⟨Nat.le_refl _, fun b hb => ⟨Nat.lt_of_lt_of_le (hT.kb b hb).1 hT.n0, rfl⟩, hT.Fb, hT.told, hT.bad, hT.o1o, hT.o2o, hT.ne, hT.tk, fun p hp => by
    obtain ⟨i1, i2, i3⟩ := hT.ins p hp
    exact ⟨rd_keep i1 (fun b hb => (hT.kb b (i2 b hb)).2) hT.n0, i2, i3⟩, hT.nd⟩
/-- the world's own blocks have turned -/
theorem TI_world (hT : TI h h (fun b => K b ∨ G b) F s o1 o2 tl bs) (hF : ∀ b, F b → b < h.n) (hKG : ∀ b, K b → ¬ G b) (hik : ∀ p ∈ tl, ∀ b, blk p.a b → K b) (mv : Moved G G' h h') (hG : ∀ b, G' b → b < h'.n) : TI h' h' (fun b => K b ∨ G' b) F s o1 o2 tl bs := by
  have same : ∀ b, b < h.n → ¬ G b → h'.get b = h.get b := mv.g
  have nk : ∀ b, b < h.n → ¬ (K b ∨ G b) → ¬ (K b ∨ G' b) := fun b hb hn hk => by
    rcases hk with hk | hk
    · exact hn (.inl hk)
    · exact mv.keep hb (fun e => hn (.inr e)) hk
  have hkl : ∀ b, K b → b < h.n := fun b hb => (hT.kb b (.inl hb)).1
  have hn := mv.n
  obtain ⟨ta, tn, tc, t1, t2, t3⟩ := hT.told
  have ng : ∀ b, ¬ (K b ∨ G b) → ¬ G b := fun b hb hg => hb (.inr hg)
  refine ⟨Nat.le_refl _, fun b hb => ⟨?_, rfl⟩, fun b hb => nk b (hF b hb) (hT.Fb b hb), ⟨ta, tn, tc, ?_, ?_, fun b hb => ?_⟩, ?_, ⟨nk _ hT.o1o.2.1 hT.o1o.1, by have := hT.o1o.2.1; omega, hT.o1o.2.2⟩, ⟨nk _ hT.o2o.2.1 hT.o2o.1, by have := hT.o2o.2.1; omega, hT.o2o.2.2⟩, hT.ne, fun p hp => ?_, fun p hp => ?_, hT.nd⟩
  · rcases hb with hb | hb
    · have := hkl b hb; omega
    · exact hG b hb
  · rw [same o1 hT.o1o.2.1 (ng _ hT.o1o.1)]; exact t1
  · exact ow_same t2 (fun b hb hbl => same b hb (ng _ (t3 b hbl).1)) hn
  · obtain ⟨k1, k2, k3⟩ := t3 b hb
    exact ⟨nk b k2 k1, by omega, k3⟩
  · rw [same o2 hT.o2o.2.1 (ng _ hT.o2o.1)]; exact hT.bad
  · obtain ⟨k1, k2, k3, k4⟩ := hT.tk p hp
    exact ⟨by rw [same _ k3 (ng _ k2)]; exact k1, nk _ k3 k2, by omega, k4⟩
  · obtain ⟨i1, i2, i3⟩ := hT.ins p hp
    exact ⟨rd_keep i1 (fun b hb => same b (hkl b (hik p hp b hb)) (hKG b (hik p hp b hb))) hn, fun b hb => .inl (hik p hp b hb), i3⟩
theorem Wld_tight {pa : Option Addr} {pn pc : Nat} {sts sns line : List Int} {told : List Bool} {woken : Bool} {now : Int} (hW : Wld h wb G pa pn pc sts sns line told woken now) : ∃ G0, Wld h wb G0 pa pn pc sts sns line told woken now ∧ (∀ b, G0 b → b < h.n) ∧ (∀ b, G0 b → G b) := by
  obtain ⟨t, A, hw, hF, ht⟩ := hW
  refine ⟨fun b => b = wb ∨ blk A.sa b ∨ blk A.na b ∨ blk A.la b ∨ blk A.ta b, ⟨t, A, hw, fun b hb => hb, ht⟩, fun b hb => ?_, hF⟩
  rcases hb with hb | hb | hb | hb | hb
  · rw [hb]; exact hw.wn
  · exact ow_lt hw.so b hb
  · exact ow_lt hw.no b hb
  · exact hw.lo.lt b hb
  · exact ow_lt hw.to b hb
theorem Wld_same {pa : Option Addr} {pn pc : Nat} {sts sns line : List Int} {told : List Bool} {woken : Bool} {now : Int} (hW : Wld h wb G pa pn pc sts sns line told woken now) (hg : ∀ b, b < h.n → G b → h'.get b = h.get b) (hn : h.n ≤ h'.n) : Wld h' wb G pa pn pc sts sns line told woken now := by
  obtain ⟨t, A, hw, hF, ht⟩ := hW
  exact ⟨t, A, hw.same (fun b hb h1 => hg b hb (hF b h1)) hn, hF, ht⟩
end
/-- all in one memory -/
def B (h : AH) (K : Nat → Prop) (s o1 o2 wb : Nat) (pa : Option Addr) (pn pc : Nat) (ts : List TD) (line : List Int) (tl : List TK) (bs : List Bool) (sts sns wl : List Int) (told : List Bool) : Prop :=
  ∃ F G w w', Sch h s F ts line 0 w ∧ (∀ b, F b → b < h.n) ∧ Wld h wb G pa pn pc sts sns wl told w' 0 ∧ (∀ b, G b → b < h.n) ∧ (∀ b, K b → ¬ G b) ∧ TI h h (fun b => K b ∨ G b) F s o1 o2 tl bs ∧ ∀ p ∈ tl, ∀ b, blk p.a b → K b
def Kp (K : Nat → Prop) (h h' : AH) : Prop := h.n ≤ h'.n ∧ ∀ b, K b → h'.get b = h.get b
theorem Kp.trans {K : Nat → Prop} {a b c : AH} (h : Kp K a b) (k : Kp K b c) : Kp K a c := ⟨Nat.le_trans h.1 k.1, fun x hx => (k.2 x hx).trans (h.2 x hx)⟩
theorem Kp.rd {K : Nat → Prop} {h h' : AH} (kp : Kp K h h') {a : Option Addr} {cs : List Value} (hr : Rd h a cs) (hk : ∀ b, blk a b → K b) : Rd h' a cs := rd_keep hr (fun b hb => kp.2 b (hk b hb)) kp.1
section
variable {tl0 : List TK} {h h' : AH} {K : Nat → Prop} {s o1 o2 wb : Nat} {pa : Option Addr} {pn pc : Nat} {ts : List TD} {line : List Int} {tl : List TK} {bs : List Bool} {sts sns wl : List Int} {told : List Bool}
theorem B.kl (hB : B h K s o1 o2 wb pa pn pc ts line tl bs sts sns wl told) : ∀ b, K b → b < h.n := by
  obtain ⟨F, G, w, w', h1, h2, h3, h4, h5, h6, h7⟩ := hB
  exact fun b hb => (h6.kb b (.inl hb)).1
theorem B.kp (hB : B h K s o1 o2 wb pa pn pc ts line tl bs sts sns wl told) (hf : Fr [] h h') : Kp K h h' := ⟨hf.n, fun b hb => hf.g b (hB.kl b hb) (by simp)⟩
theorem B.fr (hB : B h K s o1 o2 wb pa pn pc ts line tl bs sts sns wl told) (hf : Fr [] h h') : B h' K s o1 o2 wb pa pn pc ts line tl bs sts sns wl told := by
  obtain ⟨F, G, w, w', h1, h2, h3, h4, h5, h6, h7⟩ := hB
  exact ⟨F, G, w, w', h1.fr hf, fun b hb => Nat.lt_of_lt_of_le (h2 b hb) hf.n, Wld_same h3 (fun b hb _ => hf.g b hb (by simp)) hf.n, fun b hb => Nat.lt_of_lt_of_le (h4 b hb) hf.n, h5, TI_rebase (h6.fr hf), h7⟩
/-- behind something that the scheduler has done -/
theorem B.sch {G F' : Nat → Prop} {w' w1 : Bool} {ts' : List TD} {line' : List Int} {tl' : List TK} {bs' : List Bool} (h3 : Wld h wb G pa pn pc sts sns wl told w' 0) (h4 : ∀ b, G b → b < h.n) (h5 : ∀ b, K b → ¬ G b) (hs : Sch h' s F' ts' line' 0 w1) (hT : TI h h' (fun b => K b ∨ G b) F' s o1 o2 tl' bs') (hik : ∀ p ∈ tl', ∀ b, blk p.a b → K b) :
    B h' K s o1 o2 wb pa pn pc ts' line' tl' bs' sts sns wl told ∧ Kp K h h' := by
  obtain ⟨F1, hs1, ht1, hsub⟩ := hs.tight
  have hT1 : TI h h' (fun b => K b ∨ G b) F1 s o1 o2 tl' bs' := hT.keep (Nat.le_refl _) (fun _ _ _ => rfl) (fun b hb => .inl (hsub b hb))
  exact ⟨⟨F1, G, w1, w', hs1, ht1, Wld_same h3 (fun b hb hg => (hT.kb b (.inr hg)).2) hT.n0, fun b hb => Nat.lt_of_lt_of_le (h4 b hb) hT.n0, h5, TI_rebase hT1, hik⟩, hT.n0, fun b hb => (hT.kb b (.inl hb)).2⟩
/-- behind something that the document's world has done -/
theorem B.wld {F G G' : Nat → Prop} {w w1 : Bool} {sts' sns' wl' : List Int} {told' : List Bool} {pa' : Option Addr} {pn' pc' : Nat} (h1 : Sch h s F ts line 0 w) (h2 : ∀ b, F b → b < h.n) (h5 : ∀ b, K b → ¬ G b) (h6 : TI h h (fun b => K b ∨ G b) F s o1 o2 tl bs) (hik : ∀ p ∈ tl, ∀ b, blk p.a b → K b) (hW : Wld h' wb G' pa' pn' pc' sts' sns' wl' told' w1 0) (mv : Moved G G' h h') :
    B h' K s o1 o2 wb pa' pn' pc' ts line tl bs sts' sns' wl' told' ∧ Kp K h h' := by
  obtain ⟨G0, hW0, hg0, hsub⟩ := Wld_tight hW
  have mv0 : Moved G G0 h h' := mv.sub hsub
  have hT := TI_world h6 h2 h5 hik mv0 hg0
  refine ⟨⟨F, G0, w, w1, h1.away (fun b hb hf => mv.g b hb (fun hg => h6.Fb b hf (.inr hg))) mv.n, fun b hb => Nat.lt_of_lt_of_le (h2 b hb) mv.n, hW0, hg0, fun b hb hg => ?_, hT, hik⟩, mv.n, fun b hb => mv.g b (h6.kb b (.inl hb)).1 (h5 b hb)⟩
  exact mv0.keep (h6.kb b (.inl hb)).1 (h5 b hb) hg
theorem B.wakeS (hB : B h K s o1 o2 wb pa pn pc ts line tl bs sts sns wl told) (id : Int) (hb : ts.length < 1000) (hb2 : line.length < 1000) : Ok (C k_sched_Sched_Wake [.pointer (some ⟨s, 0, none⟩), .int .i64 id] h) fun v h' =>
    v = .bool (wakeM ts line 0 false id).1 ∧ B h' K s o1 o2 wb pa pn pc (wakeM ts line 0 false id).2.1 (wakeM ts line 0 false id).2.2.1 tl bs sts sns wl told ∧ Kp K h h' := by
  obtain ⟨F, G, w, w', h1, h2, h3, h4, h5, h6, h7⟩ := hB
  refine (wake_ok h1 id (by omega) (by omega)).mono ?_
  rintro v h1' ⟨rfl, F', hs', mv⟩
  rw [wakeM0] at hs' ⊢
  exact ⟨rfl, B.sch h3 h4 h5 hs' (h6.moved mv) h7⟩
theorem B.wakeW (hB : B h K s o1 o2 wb pa pn pc ts line tl bs sts sns wl told) (id : Int) (hb : sts.length < 1000) (hb2 : wl.length < 1000) : Ok (C k_ref13_World_Wake [.pointer (some ⟨wb, 0, none⟩), .int .i64 id] h) fun v h' =>
    v = .bool (Try.wakeW sts wl 0 false id).1 ∧ B h' K s o1 o2 wb pa pn pc ts line tl bs (Try.wakeW sts wl 0 false id).2.1 sns (Try.wakeW sts wl 0 false id).2.2.1 told ∧ Kp K h h' := by
  obtain ⟨F, G, w, w', h1, h2, ⟨t, h3⟩, h4, h5, h6, h7⟩ := hB
  refine (ref_wake h3 id (by omega) (by omega)).mono ?_
  rintro v h1' ⟨rfl, G', hW', mv⟩
  rw [wakeW0] at hW' ⊢
  exact ⟨rfl, B.wld h1 h2 h5 h6 h7 ⟨t, hW'⟩ mv⟩
def stepTs (ts : List TD) (id : Int) : List TD := ts.modify (id - 1).toNat fun x => { x with n := x.n + 1 }
/-- what a pick comes to -/
def picked (ts : List TD) (line : List Int) (k : Nat) (id : Int) (d : DoR) : Int × List TD × List Int :=
  finM (aft (stepTs ts id) (line.eraseIdx k) id false d).1 (aft (stepTs ts id) (line.eraseIdx k) id false d).2.1 (aft (stepTs ts id) (line.eraseIdx k) id false d).2.2 id (pickM d.tell 7)
def pickedW (sts line : List Int) (k : Nat) (id : Int) (d : DoR) : Int × List Int × List Int :=
  finW (aftW sts (line.eraseIdx k) id d).1 (aftW sts (line.eraseIdx k) id d).2.1 (aftW sts (line.eraseIdx k) id d).2.2 id d.tell
theorem stepTs_st (ts : List TD) (id : Int) : (stepTs ts id).map TD.st = ts.map TD.st := by
  unfold stepTs
  generalize (id - 1).toNat = i
  apply List.ext_getElem?
  intro k
  rw [List.getElem?_map, List.getElem?_modify, List.getElem?_map]
  cases ts[k]? with
  | none => simp
  | some x => by_cases e : i = k <;> simp [e]
theorem picked_eq (ts : List TD) (line : List Int) (k : Nat) (id : Int) {d : DoR} (hd : pickM d.tell 7 = d.tell) : (picked ts line k id d).1 = (pickedW (ts.map TD.st) line k id d).1 ∧ (picked ts line k id d).2.1.map TD.st = (pickedW (ts.map TD.st) line k id d).2.1 ∧ (picked ts line k id d).2.2 = (pickedW (ts.map TD.st) line k id d).2.2 := by
  unfold picked pickedW
  obtain ⟨a1, a2, _⟩ := aft_eq (stepTs ts id) (line.eraseIdx k) id d
  rw [stepTs_st] at a1 a2
  rw [hd, ← a1, ← a2]
  exact fin_eq _ _ _ _ _
theorem B.pickS (hB : B h K s o1 o2 wb pa pn pc ts line tl bs sts sns wl told) (hg : Good ts line) (hb : ts.length ≤ 100) {p : Int} (hp0 : 0 ≤ p) {k : Nat} (hk : (p % (line.length : Int)).toNat = k) {id : Int} (hid : line[k]? = some id) {q : TK} (hq : tl[(id - 1).toNat]? = some q) (htt : ts.map TD.t = tl.map tOf)
    (hn : ∀ x ∈ ts.map TD.n, 0 ≤ x ∧ x ≤ 400) (hat : q.at_ ≤ 400) (hbs : bs.length ≤ 400) :
    Ok (C k_sched_Sched_Pick [.pointer (some ⟨s, 0, none⟩), .int .u64 p] h) fun v h' => v = .tuple #[.int .i64 id, .int .u8 (picked ts line k id (doOf q)).1, .bool true] ∧
      B h' K s o1 o2 wb pa pn pc (picked ts line k id (doOf q)).2.1 (picked ts line k id (doOf q)).2.2 (tl.set (id - 1).toNat (up q)) (bs ++ toldOf (stepTs ts id) (line.eraseIdx k) id false (doOf q)) sts sns wl told ∧ Kp K h h' := by
  obtain ⟨F, G, w, w', h1, h2, h3, h4, h5, h6, h7⟩ := hB
  have hgl := hg.len
  have hkn : k < line.length := (List.getElem?_eq_some_iff.mp hid).1
  have hne : line ≠ [] := fun e => by rw [e] at hkn; simp at hkn
  obtain ⟨hid1, x, hx, hxs⟩ := hg.2 id (List.mem_of_getElem? hid)
  have hil : (id - 1).toNat < ts.length := (List.getElem?_eq_some_iff.mp hx).1
  have hxn := hn x.n (List.mem_map.mpr ⟨x, List.mem_of_getElem? hx, rfl⟩)
  have hqt : x.t = tOf q := by
    have e1 : (ts.map TD.t)[(id - 1).toNat]? = some x.t := by rw [List.getElem?_map, hx]; rfl
    rw [htt, List.getElem?_map, hq] at e1
    exact (Option.some.inj e1).symm
  have hst : ts.set (id - 1).toNat { x with n := x.n + 1 } = stepTs ts id := set_modify ts (id - 1).toNat (fun x => { x with n := x.n + 1 }) hx
  have hik2 : ∀ p ∈ tl.set (id - 1).toNat (up q), ∀ b, blk p.a b → K b := fun p hp b hb => by
    rcases List.mem_or_eq_of_mem_set hp with hp | rfl
    · exact h7 p hp b hb
    · exact h7 q (List.mem_of_getElem? hq) b hb
  refine (pick_go h1 hp0 hne (by omega) (by omega) (id := id) (by rw [hk]; exact hid) ⟨hid1, by omega⟩ hx ⟨hxn.1, by omega⟩
    (R := fun st F2 ts2 line2 w2 h2 => st = pickM (doOf q).tell 7 ∧ ts2 = (aft (stepTs ts id) (line.eraseIdx k) id false (doOf q)).1 ∧ line2 = (aft (stepTs ts id) (line.eraseIdx k) id false (doOf q)).2.1 ∧ w2 = (aft (stepTs ts id) (line.eraseIdx k) id false (doOf q)).2.2 ∧
      TI h h2 (fun b => K b ∨ G b) F2 s o1 o2 (tl.set (id - 1).toNat (up q)) (bs ++ toldOf (stepTs ts id) (line.eraseIdx k) id false (doOf q))) ?_).mono ?_
  · intro g F1 hs1 mv
    rw [hk, hst] at hs1
    refine ⟨k_law13_task_Step, [.pointer (some ⟨q.tb, 0, none⟩)], by rw [hqt]; exact task_m _, task_b, ?_⟩
    obtain ⟨F1t, hs1t, ht1, hsub⟩ := hs1.tight
    have hT1 : TI h g (fun b => K b ∨ G b) F1t s o1 o2 tl bs := (h6.moved mv).keep (Nat.le_refl _) (fun _ _ _ => rfl) (fun b hb => .inl (hsub b hb))
    have hel : (line.eraseIdx k).length ≤ line.length := by rw [List.length_eraseIdx]; split <;> omega
    refine (gstep hs1t (by omega) hT1 ht1 hq (by omega) (by simp [stepTs]; omega) (by omega) (by omega)).mono ?_
    rintro v g2 ⟨rfl, F2, u1, u2⟩
    have hal := aft_line (stepTs ts id) (line.eraseIdx k) id false (doOf q)
    refine ⟨_, F2, _, _, _, rfl, u1, ?_, by omega, rfl, rfl, rfl, rfl, u2⟩
    rw [tn_len (tn_aft _ _ _ _ _)]; simp [stepTs]
  · rintro v g ⟨st, F2, ts2, line2, w2, g2, ⟨rfl, rfl, rfl, rfl, hT2⟩, rfl, F', hs', mv⟩
    exact ⟨rfl, B.sch h3 h4 h5 hs' (hT2.moved mv) hik2⟩
theorem B.pickW (hB : B h K s o1 o2 wb pa pn pc ts line tl bs sts sns wl told) (hpa : Rd h pa (tl0.map fun p => Value.slice p.a p.n p.c)) (hpaK : ∀ b, blk pa b → K b) (hpn : pn = tl0.length) (hins : ∀ p ∈ tl0, Rd h p.a (p.l.flatMap encDo) ∧ (∀ b, blk p.a b → K b) ∧ p.n = p.l.length)
    {p : Int} (hp0 : 0 ≤ p) {k : Nat} (hk : (p % (wl.length : Int)).toNat = k) {id : Int} (hat : wl[k]? = some id) (hid : 1 ≤ id ∧ id ≤ sts.length) (hsn : sns.length = sts.length) {q : TK}
    (hq : tl0[(id - 1).toNat]? = some q) (hm : sns[(id - 1).toNat]? = some (q.at_ : Int)) (hmb : q.at_ < 1000) (hb : sts.length < 900) (hb2 : wl.length < 900) (hb3 : told.length < 1000) :
    Ok (C k_ref13_World_Pick [.pointer (some ⟨wb, 0, none⟩), .int .u64 p] h) fun v h' => v = .tuple #[.int .i64 id, .int .i64 (pickedW sts wl k id (doOf q)).1, .bool true] ∧
      B h' K s o1 o2 wb pa pn pc ts line tl bs (pickedW sts wl k id (doOf q)).2.1 (sns.set (id - 1).toNat ((q.at_ : Int) + 1)) (pickedW sts wl k id (doOf q)).2.2 (told ++ toldW sts (wl.eraseIdx k) id (doOf q)) ∧ Kp K h h' := by
  have hkl := hB.kl
  obtain ⟨F, G, w, w', h1, h2, h3, h4, h5, h6, h7⟩ := hB
  refine (ref_pick h3 (K := K) (fun b hb => ⟨hkl b hb, h5 b hb⟩) hpa hpaK hpn hins hp0 hk hat hid hsn hq hm (by omega) hb hb2 (by omega)).mono ?_
  rintro v g ⟨rfl, G', hW', mv⟩
  exact ⟨rfl, B.wld h1 h2 h5 h6 h7 hW' mv⟩
end
end Rn
end Go.Lg.Try
