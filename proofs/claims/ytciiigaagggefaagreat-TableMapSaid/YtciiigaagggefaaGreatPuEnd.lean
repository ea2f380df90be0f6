/- A transaction over entries comes to its end: the steps, one after the other. -/
import Derived.Test.YtciiigaagggefaaGreatPutlP
import Derived.Test.YtciiigaagggefaaGreatFlaw20
set_option linter.unusedVariables false
set_option linter.unusedSimpArgs false
namespace Go.Lg.Tryz
set_option linter.unusedVariables false
set_option linter.unusedSimpArgs false
open Go Go.Proofs
namespace Tab
/-- steps that all tell OK, of which the last one is the last -/
inductive Runs (σ : St) (n : Nat) : Txc → List Cel → Int → List Stp → List Cel → Int → Prop
  | last {X : Txc} {cs : List Cel} {clk : Int} {s : Stp} : Chk cs s → (stepEff X σ cs clk n s).1 = (true, 0) → Runs σ n X cs clk [s] (stepEff X σ cs clk n s).2.2.1 (stepEff X σ cs clk n s).2.2.2
  | step {X : Txc} {cs cs' : List Cel} {clk clk' : Int} {s : Stp} {ss : List Stp} : Chk cs s → (stepEff X σ cs clk n s).1 = (false, 0) → Runs σ n (stepEff X σ cs clk n s).2.1 (stepEff X σ cs clk n s).2.2.1 (stepEff X σ cs clk n s).2.2.2 ss cs' clk' → Runs σ n X cs clk (s :: ss) cs' clk'
theorem eff_mod (X : Txc) (σ : St) (cs : List Cel) (clk : Int) (n : Nat) (s : Stp) (la : Option Addr) (ln lc : Nat) (st : Int) : stepEff { X with la := la, ln := ln, lc := lc, st := st } σ cs clk n s = ((stepEff X σ cs clk n s).1, { (stepEff X σ cs clk n s).2.1 with la := la, ln := ln, lc := lc, st := st }, (stepEff X σ cs clk n s).2.2) := by cases s <;> rfl
theorem Runs.mod {σ : St} {n : Nat} {X : Txc} {cs cs' : List Cel} {clk clk' : Int} {ss : List Stp} (r : Runs σ n X cs clk ss cs' clk') : ∀ (la : Option Addr) (ln lc : Nat) (st : Int), Runs σ n { X with la := la, ln := ln, lc := lc, st := st } cs clk ss cs' clk' := by
  induction r with
  | @last X cs clk s h1 h2 =>
    intro la ln lc st
    have e := eff_mod X σ cs clk n s la ln lc st
    have := Runs.last (σ := σ) (n := n) (X := { X with la := la, ln := ln, lc := lc, st := st }) (clk := clk) h1 (by rw [e]; exact h2)
    rw [e] at this
    exact this
  | @step X cs cs' clk clk' s ss h1 h2 h3 ih =>
    intro la ln lc st
    have e := eff_mod X σ cs clk n s la ln lc st
    refine Runs.step h1 (by rw [e]; exact h2) ?_
    rw [e]
    exact ih la ln lc st
/-! what the steps of a commit come to -/
/-- cells of A are locked, those of B have their values -/
structure LK (σ : St) (clk : Int) (cs : List Cel) (A B : List Int) (cs2 : List Cel) : Prop where
  len : cs2.length = cs.length
  at_ : ∀ (j : Nat) c, cs[j]? = some c → cs2[j]? = some (if (j : Int) ∈ B then ⟨(Mg.alook σ.W (j : Int)).getD E0, clk + 1, 0⟩ else if (j : Int) ∈ A then { c with own := 1 } else c)
section
variable {σ : St} {clk : Int} {cs cs2 : List Cel} {A B : List Int} {n : Nat}
theorem LK.init (σ : St) (clk : Int) (cs : List Cel) : LK σ clk cs [] [] cs := ⟨rfl, fun j c h => by simpa using h⟩
theorem LK.set_at (L : LK σ clk cs A B cs2) {i : Nat} {c d : Cel} (hc : cs[i]? = some c) {A' B' : List Int} (hd : d = if (i : Int) ∈ B' then ⟨(Mg.alook σ.W (i : Int)).getD E0, clk + 1, 0⟩ else if (i : Int) ∈ A' then { c with own := 1 } else c)
    (h1 : ∀ j : Nat, j ≠ i → ((j : Int) ∈ A' ↔ (j : Int) ∈ A)) (h2 : ∀ j : Nat, j ≠ i → ((j : Int) ∈ B' ↔ (j : Int) ∈ B)) : LK σ clk cs A' B' (cs2.set i d) := by
  refine ⟨by rw [List.length_set]; exact L.len, fun j e he => ?_⟩
  by_cases hij : j = i
  · subst hij
    rw [hc] at he
    obtain rfl := Option.some.inj he
    have := (List.getElem?_eq_some_iff.mp hc).1
    rw [List.getElem?_set_self (by rw [L.len]; exact this), hd]
  · rw [List.getElem?_set_ne (Ne.symm hij), L.at_ j e he]
    simp only [h1 j hij, h2 j hij]
variable {X : Txc} {W R : List Int} {cs' : List Cel} {clk' : Int}
theorem lk_range {i : Int} (h0 : 0 ≤ i) (h1 : i < (cs.length : Int)) : ∃ (j : Nat) (c : Cel), i = j ∧ cs[j]? = some c :=
  ⟨i.toNat, cs[i.toNat]'(by omega), by omega, List.getElem?_eq_getElem _⟩
/-- publishing -/
theorem runs_pub (hown : X.owner = 1) (hver : X.ver = clk + 1) (hW : W.Nodup) (hr : ∀ i ∈ W, 0 ≤ i ∧ i < (cs.length : Int)) (ho : ∀ c ∈ cs, c.own = 0 ∧ 0 ≤ c.ver ∧ c.ver ≤ clk) (hlen : W.length ≤ 1000) :
    ∀ (m k : Nat) (X : Txc) (cs2 : List Cel), W.length - k = m → k < W.length → X.owner = 1 → X.ver = clk + 1 → LK σ clk cs W (W.take k) cs2 →
    ∃ cs3, LK σ clk cs W W cs3 ∧ Runs σ W.length X cs2 (clk + 1) ((List.range m).map fun j => Stp.pub (W.getD (k + j) 0) (k + j)) cs3 (clk + 1) := by
  intro m
  induction m with
  | zero => intro k X cs2 h1 h2; omega
  | succ m ih =>
    intro k X cs2 h1 h2 ho1 hv1 L
    obtain ⟨i, hi⟩ : ∃ i, W[k]? = some i := ⟨_, List.getElem?_eq_getElem h2⟩
    have hiW : i ∈ W := List.mem_of_getElem? hi
    obtain ⟨r1, r2⟩ := hr i hiW
    obtain ⟨j, c, rfl, hc⟩ := lk_range (cs := cs) r1 r2
    have hj := (List.getElem?_eq_some_iff.mp hc).1
    obtain ⟨o1, o2, o3⟩ := ho c (List.mem_of_getElem? hc)
    have hnb : (j : Int) ∉ W.take k := fun hm => by
      obtain ⟨a, ha, e⟩ := List.mem_iff_getElem.mp hm
      rw [List.length_take] at ha
      rw [List.getElem_take] at e
      have e2 := (List.getElem?_eq_some_iff.mp hi).2
      have := (List.getElem_inj hW).mp (e.trans e2.symm)
      omega
    have hc2 := L.at_ j c hc
    rw [if_neg hnb, if_pos hiW] at hc2
    have hpub : publishM cs2 (clk + 1) (j : Int) X.owner ((Mg.alook σ.W (j : Int)).getD E0) X.ver = (0, cs2.set j ⟨(Mg.alook σ.W (j : Int)).getD E0, clk + 1, 0⟩) := by
      unfold publishM
      rw [if_neg (by rw [L.len, ho1]; omega), Int.toNat_natCast, hc2]
      simp only [ho1, hv1]
      rw [if_neg (by simp), if_neg (by omega)]
    have htk : W.take (k + 1) = W.take k ++ [(j : Int)] := by rw [List.take_add_one, hi]; rfl
    have L2 : LK σ clk cs W (W.take (k + 1)) (cs2.set j ⟨(Mg.alook σ.W (j : Int)).getD E0, clk + 1, 0⟩) := L.set_at hc (by rw [htk, if_pos (by simp)]) (fun _ _ => Iff.rfl) fun a ha => by
      rw [htk, List.mem_append]
      simp only [List.mem_singleton]
      exact ⟨fun h => h.elim id fun h => absurd (by omega) ha, .inl⟩
    have hg : W.getD k 0 = (j : Int) := by rw [List.getD_eq_getElem?_getD, hi]; rfl
    have heff : ∀ b, (b = decide ((k : Int) = IntKind.wrap .i64 ((W.length : Int) - 1))) → stepEff X σ cs2 (clk + 1) W.length (.pub (j : Int) k) = ((b, 0), { X with told := true }, cs2.set j ⟨(Mg.alook σ.W (j : Int)).getD E0, clk + 1, 0⟩, clk + 1) := fun b hb => by
      show ((decide _, (0 : Int)), _, _, _) = _
      rw [hpub, ← hb]
    have hwr : IntKind.wrap .i64 ((W.length : Int) - 1) = (W.length : Int) - 1 := wrap64 (by omega) (by omega)
    rw [List.range_succ_eq_map, List.map_cons, List.map_map, Nat.add_zero, hg]
    by_cases hl : k + 1 = W.length
    · have hm : m = 0 := by omega
      subst hm
      have e := heff true (by rw [hwr]; exact (decide_eq_true (by omega)).symm)
      refine ⟨_, by rw [hl, List.take_length] at L2; exact L2, ?_⟩
      have := Runs.last (σ := σ) (n := W.length) (X := X) (cs := cs2) (clk := clk + 1) (s := .pub (j : Int) k) trivial (by rw [e])
      rw [e] at this
      exact this
    · have e := heff false (by rw [hwr]; exact (decide_eq_false (by omega)).symm)
      obtain ⟨cs3, L3, r3⟩ := ih (k + 1) { X with told := true } _ (by omega) (by omega) ho1 hv1 L2
      refine ⟨cs3, L3, Runs.step trivial (by rw [e]) ?_⟩
      rw [e]
      have : ((fun j => Stp.pub (W.getD (k + j) 0) (k + j)) ∘ Nat.succ) = fun j => Stp.pub (W.getD (k + 1 + j) 0) (k + 1 + j) := by
        funext a
        simp only [Function.comp, Nat.succ_eq_add_one]
        rw [show k + (a + 1) = k + 1 + a by omega]
      rw [this]
      exact r3
/-- the checks ahead of it -/
theorem runs_chk (ho : ∀ c ∈ cs, c.own = 0 ∧ 0 ≤ c.ver ∧ c.ver ≤ clk) (L : LK σ clk cs A [] cs2) {ss : List Stp} (hX : X.owner = 1) (r : Runs σ n X cs2 clk' ss cs' clk') : ∀ R : List Int, (∀ i ∈ R, 0 ≤ i ∧ i < (cs.length : Int)) → (∀ (i : Nat) c, (i : Int) ∈ R → cs[i]? = some c → (Mg.alook σ.R (i : Int)).getD 0 = c.ver) → Runs σ n X cs2 clk' (R.map .chk ++ ss) cs' clk'
  | [], _, _ => r
  | i :: R, h1, h2 => by
    obtain ⟨r1, r2⟩ := h1 i (by simp)
    obtain ⟨j, c, rfl, hc⟩ := lk_range (cs := cs) r1 r2
    obtain ⟨o1, _, _⟩ := ho c (List.mem_of_getElem? hc)
    have hc2 := L.at_ j c hc
    rw [if_neg (by simp)] at hc2
    have hv := h2 j c (by simp) hc
    have hlm : ∃ d, loadM cs2 (j : Int) = (d, 0) ∧ (d.own = 0 ∨ d.own = X.owner) ∧ d.ver = c.ver := by
      refine ⟨if (j : Int) ∈ A then { c with own := 1 } else c, ?_, ?_, ?_⟩
      · unfold loadM
        have := (List.getElem?_eq_some_iff.mp hc2).1
        rw [if_neg (by omega), Int.toNat_natCast, hc2]
      · split
        · right; exact hX.symm
        · left; exact o1
      · split <;> rfl
    obtain ⟨d, hd, hd2, hd3⟩ := hlm
    have e : stepEff X σ cs2 clk' n (.chk (j : Int)) = ((false, 0), X, cs2, clk') := by
      show ((false, if _ then (131 : Int) else 0), X, cs2, clk') = _
      rw [if_neg]
      rw [hd]
      simp only
      rw [hd3, hv]
      rintro (⟨q1, q2⟩ | q)
      · rcases hd2 with q | q
        · exact q1 q
        · exact q2 q
      · exact q rfl
    refine Runs.step ⟨j, _, rfl, hc2⟩ (by rw [e]) ?_
    rw [e]
    exact runs_chk ho L hX r R (fun a ha => h1 a (by simp [ha])) fun a b ha hb => h2 a b (by simp [ha]) hb
/-- the locks ahead of all -/
theorem runs_lock (ho : ∀ c ∈ cs, c.own = 0 ∧ 0 ≤ c.ver ∧ c.ver ≤ clk) (hr : ∀ i ∈ W, 0 ≤ i ∧ i < (cs.length : Int)) (hX : X.owner = 1) {ss : List Stp} (r : ∀ cs2, LK σ clk cs W [] cs2 → ∃ cs3, LK σ clk cs W W cs3 ∧ Runs σ n X cs2 clk ss cs3 clk') :
    ∀ (A Z : List Int) (cs2 : List Cel), A ++ Z = W → LK σ clk cs A [] cs2 → ∃ cs3, LK σ clk cs W W cs3 ∧ Runs σ n X cs2 clk (Z.map .lock ++ ss) cs3 clk'
  | A, [], cs2, e, L => by
    rw [List.append_nil] at e
    subst e
    exact r cs2 L
  | A, i :: Z, cs2, e, L => by
    obtain ⟨r1, r2⟩ := hr i (by rw [← e]; simp)
    obtain ⟨j, c, rfl, hc⟩ := lk_range (cs := cs) r1 r2
    obtain ⟨o1, _, _⟩ := ho c (List.mem_of_getElem? hc)
    have hc2 := L.at_ j c hc
    rw [if_neg (by simp)] at hc2
    have hlk : lockM cs2 (j : Int) X.owner = (0, cs2.set j { c with own := 1 }) := by
      have hl := (List.getElem?_eq_some_iff.mp hc2).1
      unfold lockM
      rw [if_neg (by rw [hX]; omega), Int.toNat_natCast, hc2]
      simp only [hX]
      split
      · rw [if_neg (by simp)]
      · rw [if_neg (by simp [o1])]
    have L2 : LK σ clk cs (A ++ [(j : Int)]) [] (cs2.set j { c with own := 1 }) := L.set_at hc (by rw [if_neg (by simp), if_pos (by simp)]) (fun a ha => by
      rw [List.mem_append]
      simp only [List.mem_singleton]
      exact ⟨fun h => h.elim id fun h => absurd (by omega) ha, .inl⟩) fun _ _ => Iff.rfl
    have e2 : stepEff X σ cs2 clk n (.lock (j : Int)) = ((false, 0), X, cs2.set j { c with own := 1 }, clk) := by
      show ((false, (lockM cs2 (j : Int) X.owner).1), X, (lockM cs2 (j : Int) X.owner).2, clk) = _
      rw [hlk]
    obtain ⟨cs3, L3, r3⟩ := runs_lock ho hr hX r (A ++ [(j : Int)]) Z _ (by rw [List.append_assoc]; exact e) L2
    refine ⟨cs3, L3, Runs.step trivial (by rw [e2]) ?_⟩
    rw [e2]
    exact r3
/-- a whole commit -/
theorem runs_all (hX : X.owner = 1) (ho : ∀ c ∈ cs, c.own = 0 ∧ 0 ≤ c.ver ∧ c.ver ≤ clk) (hclk : clk < 1000) (hW : W.Nodup) (hWl : W.length ≤ 1000) (hr : ∀ i ∈ W, 0 ≤ i ∧ i < (cs.length : Int)) (hR : ∀ i ∈ R, 0 ≤ i ∧ i < (cs.length : Int))
    (hv : ∀ (i : Nat) c, (i : Int) ∈ R → cs[i]? = some c → (Mg.alook σ.R (i : Int)).getD 0 = c.ver) : ∃ cs' clk', (clk' = clk ∨ clk' = clk + 1) ∧ LK σ clk cs W W cs' ∧ (W = [] ∨ clk' = clk + 1) ∧ Runs σ W.length X cs clk (planM W R) cs' clk' := by
  by_cases h0 : W = []
  · subst h0
    refine ⟨cs, clk, .inl rfl, LK.init σ clk cs, .inl rfl, ?_⟩
    have := Runs.last (σ := σ) (n := 0) (X := X) (cs := cs) (clk := clk) (s := .fin) trivial rfl
    exact this
  · have hpos : 0 < W.length := List.length_pos_iff.mpr h0
    unfold planM
    rw [if_neg h0]
    simp only [List.append_assoc]
    have hk : ∀ cs2, LK σ clk cs W [] cs2 → ∃ cs3, LK σ clk cs W W cs3 ∧ Runs σ W.length X cs2 clk ([Stp.adv] ++ (R.map .chk ++ (List.range W.length).map fun j => Stp.pub (W.getD j 0) j)) cs3 (clk + 1) := fun cs2 L => by
      have L0 : LK σ clk cs W (W.take 0) cs2 := L
      obtain ⟨cs3, L3, r3⟩ := runs_pub (σ := σ) (clk := clk) (X := { X with ver := clk + 1 }) hX rfl hW hr ho hWl W.length 0 { X with ver := clk + 1 } cs2 (by omega) hpos hX rfl L0
      have ea : (stepEff X σ cs2 clk W.length .adv) = ((false, 0), { X with ver := clk + 1 }, cs2, clk + 1) := by
        show ((false, (advM clk).2.1), { X with ver := (advM clk).1 }, cs2, (advM clk).2.2) = _
        unfold advM
        rw [if_neg (by omega)]
      refine ⟨cs3, L3, Runs.step trivial (by rw [ea]) ?_⟩
      rw [ea]
      have : (fun j => Stp.pub (W.getD (0 + j) 0) (0 + j)) = fun j => Stp.pub (W.getD j 0) j := by funext j; rw [Nat.zero_add]
      rw [this] at r3
      exact runs_chk ho L (by exact hX) r3 R hR hv
    obtain ⟨cs3, L3, r3⟩ := runs_lock (σ := σ) (n := W.length) (clk' := clk + 1) (X := X) ho hr hX hk [] W cs rfl (LK.init σ clk cs)
    exact ⟨cs3, clk + 1, .inr rfl, L3, .inr rfl, r3⟩
end
end Tab
end Go.Lg.Tryz

namespace Go.Lg.Tryz
set_option linter.unusedVariables false
set_option linter.unusedSimpArgs false
open Go Go.Proofs
namespace Tab
section
variable {h : AH} {t q : Nat} {σ : St} {F : List Asr} {x17 x36 x4 : Int} {q15 : Option Nat} {p9 a1 : Option Addr} {l2 c3 : Nat} {Q : Value → AH → Prop}
/-- one step of one that is ending -/
theorem step2 {X : Txc} {cs : List Cel} {clk : Int} {v : Value} {s : Stp} {l : List (Value × Stp)} {tb wb : Nat} {wa : Option Addr} {wn wc : Nat} (hst : X.st = 2) (w : H h (aT t X :: aSet X.s σ :: EndP t tb wb X ((v, s) :: l) wa wn wc ++ (aMem X.p q cs clk :: F))) (hk : Chk cs s) (he : (stepEff X σ cs clk wn s).1.2 = 0) {st : Int} (hst2 : st = if (stepEff X σ cs clk wn s).1.1 then 3 else X.st) :
    Ok (C k_tl2_Tx_table_Entry_Step [ptr t] h) fun x h' => ∃ la, x = .tuple #[.int .u8 st, .int .i64 0] ∧
       H h' (aT t { (stepEff X σ cs clk wn s).2.1 with la := la, ln := l.length, lc := opn, st := st } :: aSet X.s σ :: EndP t tb wb { (stepEff X σ cs clk wn s).2.1 with la := la, ln := l.length, lc := opn, st := st } l wa wn wc ++ (aMem X.p q (stepEff X σ cs clk wn s).2.2.1 (stepEff X σ cs clk wn s).2.2.2 :: F)) := by
  have wt : H h (aT t X :: _) := w
  refine Ok.le ?_ tl2_Tx_table_Entry_Step_le
  simp only [F_tl2_Tx_table_Entry_Step, txr wt, Option.bind_some, asB_b, Bool.not_true, cond_f]
  refine Ok.le ?_ tl2_Tx_table_Entry_Step_j4_le
  simp only [Option.bind_some, T4 wt, hst, dec_f (show ¬ (2 : Int) = 1 by decide), dec_f (show ¬ (2 : Int) = 3 by decide), dec_f (show ¬ (2 : Int) = 4 by decide), cond_f]
  refine Ok.le ?_ tl2_Tx_table_Entry_Step_j3_le
  rw [cond_f]
  exact step_on w hk he hst2
theorem done_go {X : Txc} {i : Nat} (hi : i < 300) (hst : X.st = 3) (w : H h (aT t X :: F)) (hfin : Ok (law20_TableMap_j3 p9 x4 a1 l2 c3 q15 x36 x17 h) Q) : Ok (law20_TableMap_L2 (some ⟨t, 0, none⟩) x17 x36 q15 p9 x4 a1 l2 c3 (i : Int) h) Q := by
  refine Ok.le ?_ law20_TableMap_L2_le
  rw [dec_t (by omega), cond_t]
  simp only [txStatus w, Option.bind_some, asI_u8', hst, decide_true, Bool.not_true]
  refine Ok.le ?_ law20_TableMap_j7_le
  rw [cond_f]
  exact hfin
theorem step_go {X : Txc} {i : Nat} {st : Int} (hi : i < 300) (hst : X.st ≠ 3) (w : H h (aT t X :: F)) {P : AH → Prop} (hs : Ok (C k_tl2_Tx_table_Entry_Step [ptr t] h) fun x h' => x = .tuple #[.int .u8 st, .int .i64 0] ∧ P h')
    (hn : ∀ h', P h' → Ok (law20_TableMap_L2 (some ⟨t, 0, none⟩) x17 x36 q15 p9 x4 a1 l2 c3 ((i + 1 : Nat) : Int) h') Q) : Ok (law20_TableMap_L2 (some ⟨t, 0, none⟩) x17 x36 q15 p9 x4 a1 l2 c3 (i : Int) h) Q := by
  refine Ok.le ?_ law20_TableMap_L2_le
  rw [dec_t (by omega), cond_t]
  simp only [txStatus w, Option.bind_some, asI_u8', dec_f hst, Bool.not_false]
  refine Ok.le ?_ law20_TableMap_j7_le
  rw [cond_t]
  refine Ok.le ?_ law20_TableMap_j6_le
  refine Ok.bind hs ?_
  rintro _ h' ⟨rfl, hp⟩
  simp only [asTu_t, hdO_c, asI_u8', asI_i64, Option.bind_some, List.isEmpty_nil, cond_t, decide_true, Bool.not_true, cond_f]
  refine Ok.le ?_ law20_TableMap_j4_le
  rw [show IntKind.wrap .i64 ((i : Int) + 1) = ((i + 1 : Nat) : Int) by rw [wrap64 (by omega) (by omega)]; omega]
  exact hn h' hp
theorem end_run {tb wb : Nat} {wa : Option Addr} {wn wc : Nat} : ∀ (ss : List Stp) (l : List (Value × Stp)) (X : Txc) (cs cs' : List Cel) (clk clk' : Int) (i : Nat) (h : AH), l.map Prod.snd = ss → Runs σ wn X cs clk ss cs' clk' → X.st = 2 → i + ss.length < 300 →
    H h (aT t X :: aSet X.s σ :: EndP t tb wb X l wa wn wc ++ (aMem X.p q cs clk :: F)) → (∀ h', H h' (aMem X.p q cs' clk' :: F) → Ok (law20_TableMap_j3 p9 x4 a1 l2 c3 q15 x36 x17 h') Q) →
    Ok (law20_TableMap_L2 (some ⟨t, 0, none⟩) x17 x36 q15 p9 x4 a1 l2 c3 (i : Int) h) Q
  | [], l, X, cs, cs', clk, clk', i, h, e, r, hst, hi, w, hfin => by cases r
  | s :: ss, [], X, cs, cs', clk, clk', i, h, e, r, hst, hi, w, hfin => by simp at e
  | s :: ss, (v, s') :: l, X, cs, cs', clk, clk', i, h, e, r, hst, hi, w, hfin => by
    simp only [List.map_cons, List.cons.injEq] at e
    obtain ⟨rfl, e⟩ := e
    simp only [List.length_cons] at hi
    obtain ⟨k1, k2, k3, k4, k5, k6, k7, k8⟩ := eff_keep X σ cs clk wn s'
    have wt : H h (aT t X :: _) := w
    cases r with
    | last hk he =>
      have he1 : (stepEff X σ cs clk wn s').1.1 = true := by rw [he]
      have he2 : (stepEff X σ cs clk wn s').1.2 = 0 := by rw [he]
      have hs := step2 hst w hk he2 (st := 3) (by rw [he1]; rfl)
      refine step_go (by omega) (by rw [hst]; decide) wt (st := 3) (P := fun h' => ∃ la, H h' (aT t { (stepEff X σ cs clk wn s').2.1 with la := la, ln := l.length, lc := opn, st := 3 } :: aSet X.s σ :: EndP t tb wb { (stepEff X σ cs clk wn s').2.1 with la := la, ln := l.length, lc := opn, st := 3 } l wa wn wc ++ (aMem X.p q (stepEff X σ cs clk wn s').2.2.1 (stepEff X σ cs clk wn s').2.2.2 :: F)))
        (hs.mono fun x h' hh => by obtain ⟨la, e1, e2⟩ := hh; exact ⟨e1, la, e2⟩) fun h' hp => ?_
      obtain ⟨la, w'⟩ := hp
      refine done_go (by omega) rfl w' (hfin h' ?_)
      exact (((((w'.rm 0 rfl).rm 0 rfl).rm 0 rfl).rm 0 rfl).rm 0 rfl).rm 0 rfl
    | step hk he r2 =>
      have he1 : (stepEff X σ cs clk wn s').1.1 = false := by rw [he]
      have he2 : (stepEff X σ cs clk wn s').1.2 = 0 := by rw [he]
      have hs := step2 hst w hk he2 (st := 2) (by rw [he1, hst]; rfl)
      refine step_go (by omega) (by rw [hst]; decide) wt (st := 2) (P := fun h' => ∃ la, H h' (aT t { (stepEff X σ cs clk wn s').2.1 with la := la, ln := l.length, lc := opn, st := 2 } :: aSet X.s σ :: EndP t tb wb { (stepEff X σ cs clk wn s').2.1 with la := la, ln := l.length, lc := opn, st := 2 } l wa wn wc ++ (aMem X.p q (stepEff X σ cs clk wn s').2.2.1 (stepEff X σ cs clk wn s').2.2.2 :: F)))
        (hs.mono fun x h' hh => by obtain ⟨la, e1, e2⟩ := hh; exact ⟨e1, la, e2⟩) fun h' hp => ?_
      obtain ⟨la, w'⟩ := hp
      refine end_run (tb := tb) (wb := wb) (wa := wa) (wn := wn) (wc := wc) ss l { (stepEff X σ cs clk wn s').2.1 with la := la, ln := l.length, lc := opn, st := 2 } _ cs' _ clk' (i + 1) h' e (r2.mod _ _ _ _) rfl (by omega) ?_ ?_
      · show H h' (aT t _ :: aSet (stepEff X σ cs clk wn s').2.1.s σ :: EndP t tb wb _ l wa wn wc ++ (aMem (stepEff X σ cs clk wn s').2.1.p q _ _ :: F))
        rw [k1, k2]
        exact w'
      · show ∀ h', H h' (aMem (stepEff X σ cs clk wn s').2.1.p q cs' clk' :: F) → _
        rw [k1]
        exact hfin
/-- a transaction that is open comes to its end -/
theorem open_run {μ : MD} {s : Nat} (w : H h (TP t μ s σ ++ F)) (hw : Wk (σ.W.map Prod.fst)) (hr : Wk (σ.R.map Prod.fst)) (hwl : σ.W.length ≤ 60) (hrl : σ.R.length ≤ 60) {cs' : List Cel} {clk' : Int}
    (r : Runs σ σ.W.length (X0 μ s) μ.cs μ.clk (planM (sortI (σ.W.map Prod.fst)) (sortI (σ.R.map Prod.fst))) cs' clk') (hfin : ∀ h', H h' (aMem μ.p μ.q cs' clk' :: F) → Ok (law20_TableMap_j3 p9 x4 a1 l2 c3 q15 x36 x17 h') Q) :
    Ok (law20_TableMap_L2 (some ⟨t, 0, none⟩) x17 x36 q15 p9 x4 a1 l2 c3 0 h) Q := by
  have wt : H h (aT t (X0 μ s) :: _) := w
  have hWl : (sortI (σ.W.map Prod.fst)).length = σ.W.length := by rw [sortI_len, List.length_map]
  have hRl : (sortI (σ.R.map Prod.fst)).length = σ.R.length := by rw [sortI_len, List.length_map]
  have hpl : (planM (sortI (σ.W.map Prod.fst)) (sortI (σ.R.map Prod.fst))).length ≤ 190 := by
    unfold planM
    split
    · simp
    · simp only [List.length_append, List.length_map, List.length_range, hWl, hRl, List.length_cons, List.length_nil]; omega
  -- the first step: the plan, and its first one
  obtain ⟨h1, e1, w1, _⟩ := T_st (k := 4) (v := .int .u8 2) wt { X0 μ s with st := 2 } (by decide) rfl
  have w1' : H h1 (aT t { X0 μ s with st := 2 } :: aSet s σ :: (aMem μ.p μ.q μ.cs μ.clk :: F)) := w1
  have hplan := txPlan (X := { X0 μ s with st := 2 }) w1' ⟨rfl, rfl, rfl⟩ hw hr (by omega) (by omega)
  have first : Ok (C k_tl2_Tx_table_Entry_Step [ptr t] h) fun x h' => ∃ st tb wb l la wa wc X cs clk, x = .tuple #[.int .u8 st, .int .i64 0] ∧
      ((st = 3 ∧ cs = cs' ∧ clk = clk' ∧ X.st = 3 ∧ X.p = μ.p ∧ H h' (aT t X :: aSet s σ :: EndP t tb wb X l wa σ.W.length wc ++ (aMem μ.p μ.q cs clk :: F))) ∨
       (st = 2 ∧ ∃ ss, l.map Prod.snd = ss ∧ ss.length ≤ 190 ∧ Runs σ σ.W.length X cs clk ss cs' clk' ∧ X.st = 2 ∧ X.p = μ.p ∧ X.s = s ∧ la = X.la ∧ H h' (aT t X :: aSet s σ :: EndP t tb wb X l wa σ.W.length wc ++ (aMem μ.p μ.q cs clk :: F)))) := by
    refine Ok.le ?_ tl2_Tx_table_Entry_Step_le
    simp only [F_tl2_Tx_table_Entry_Step, txr wt, Option.bind_some, asB_b, Bool.not_true, cond_f]
    refine Ok.le ?_ tl2_Tx_table_Entry_Step_j4_le
    have t4 : h.ldI .u8 t (0 + 4) = some 1 := T4 wt
    simp only [Option.bind_some, t4, decide_true, cond_t, e1]
    refine Ok.bind hplan ?_
    rintro _ h2 ⟨rfl, tb, wb, la, l, wa, wc, hl, w2⟩
    rw [show asTu (.tuple #[]) = some [] from rfl]
    simp only [Option.bind_some, List.isEmpty_nil, cond_t]
    cases l with
    | nil =>
      rw [← hl] at r
      cases r
    | cons p l =>
      obtain ⟨v, s'⟩ := p
      have hl' := hl
      rw [List.map_cons] at hl
      rw [← hl] at r
      have hln : l.length ≤ 190 := by
        have := congrArg List.length hl'
        simp at this
        omega
      have r' := r.mod la ((v, s') :: l).length opn 2
      have w2' : H h2 (aT t { X0 μ s with la := la, ln := ((v, s') :: l).length, lc := opn, st := 2 } :: aSet ({ X0 μ s with la := la, ln := ((v, s') :: l).length, lc := opn, st := 2 } : Txc).s σ :: EndP t tb wb { X0 μ s with la := la, ln := ((v, s') :: l).length, lc := opn, st := 2 } ((v, s') :: l) wa σ.W.length wc ++ (aMem ({ X0 μ s with la := la, ln := ((v, s') :: l).length, lc := opn, st := 2 } : Txc).p μ.q μ.cs μ.clk :: F)) := w2
      generalize hX : ({ X0 μ s with la := la, ln := ((v, s') :: l).length, lc := opn, st := 2 } : Txc) = X at r' w2'
      have hXs : X.s = s := by rw [← hX]
      have hXp : X.p = μ.p := by rw [← hX]
      have hXst : X.st = 2 := by rw [← hX]
      obtain ⟨k1, k2, k3, k4, k5, k6, k7, k8⟩ := eff_keep X σ μ.cs μ.clk σ.W.length s'
      simp only [List.map_cons] at r'
      generalize hss : l.map Prod.snd = ss at r'
      cases r' with
      | last hk he =>
        have he1 : (stepEff X σ μ.cs μ.clk σ.W.length s').1.1 = true := by rw [he]
        refine Ok.mono (step_on w2' hk (by rw [he]) (st := 3) (by rw [he1]; rfl)) ?_
        rintro x h' ⟨la2, rfl, w3⟩
        rw [hXs, hXp] at w3
        exact ⟨3, tb, wb, l, la2, wa, wc, _, _, _, rfl, .inl ⟨rfl, rfl, rfl, rfl, by show (stepEff X σ μ.cs μ.clk σ.W.length s').2.1.p = _; rw [k1, hXp], w3⟩⟩
      | step hk he r2 =>
        have he1 : (stepEff X σ μ.cs μ.clk σ.W.length s').1.1 = false := by rw [he]
        refine Ok.mono (step_on w2' hk (by rw [he]) (st := 2) (by rw [he1, hXst]; rfl)) ?_
        rintro x h' ⟨la2, rfl, w3⟩
        rw [hXs, hXp] at w3
        exact ⟨2, tb, wb, l, la2, wa, wc, _, _, _, rfl, .inr ⟨rfl, ss, hss, by rw [← hss, List.length_map]; exact hln, r2.mod la2 l.length opn 2, rfl, by show (stepEff X σ μ.cs μ.clk σ.W.length s').2.1.p = _; rw [k1, hXp], by show (stepEff X σ μ.cs μ.clk σ.W.length s').2.1.s = _; rw [k2, hXs], rfl, w3⟩⟩
  refine Ok.le ?_ law20_TableMap_L2_le
  rw [dec_t (by decide), cond_t]
  simp only [txStatus wt, Option.bind_some, asI_u8', dec_f (show ¬ (1 : Int) = 3 by decide), Bool.not_false]
  refine Ok.le ?_ law20_TableMap_j7_le
  rw [cond_t]
  refine Ok.le ?_ law20_TableMap_j6_le
  refine Ok.bind first ?_
  rintro _ h' ⟨st, tb, wb, l, la, wa, wc, X, cs, clk, rfl, hc⟩
  simp only [asTu_t, hdO_c, asI_u8', asI_i64, Option.bind_some, List.isEmpty_nil, cond_t, decide_true, Bool.not_true, cond_f]
  refine Ok.le ?_ law20_TableMap_j4_le
  rw [show IntKind.wrap .i64 ((0 : Int) + 1) = ((1 : Nat) : Int) by rw [wrap64 (by decide) (by decide)]; rfl]
  rcases hc with ⟨rfl, rfl, rfl, hst, hp, w3⟩ | ⟨rfl, ss, hss, hlen, r3, hst, hp, hs, _, w3⟩
  · exact done_go (by decide) hst w3 (hfin h' ((((((w3.rm 0 rfl).rm 0 rfl).rm 0 rfl).rm 0 rfl).rm 0 rfl).rm 0 rfl))
  · subst hs
    rw [← hp] at w3 hfin
    exact end_run ss l X cs cs' clk clk' 1 h' hss r3 hst (by omega) w3 hfin
end
end Tab
end Go.Lg.Tryz
