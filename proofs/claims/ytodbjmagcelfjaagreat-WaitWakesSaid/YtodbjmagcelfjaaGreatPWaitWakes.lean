/- WaitWakes: who waits is told just if something read is published. -/
import Derived.Test.YtodbjmagcelfjaaGreatPwait5
import Derived.Test.YtodbjmagcelfjaaGreatPtxInv
import Derived.Test.YtodbjmagcelfjaaGreatPkitPick
import Derived.Test.YtodbjmagcelfjaaGreatFlaw18
import Derived.Test.YtodbjmagcelfjaaGreatEv42
namespace Go.Lg.Tryz
set_option linter.unusedVariables false
set_option linter.unusedSimpArgs false
open Go Go.Proofs
def aMB (r : Nat) (l : List (Int × Int)) : Asr := Up (fun h => Mb.MI h r l) (fun b => b = r)
section
variable {h h' : AH} {r : Nat} {l : List (Int × Int)} {F : List Asr}
theorem mb_at (hh : H h (aMB r l :: F)) : Mb.MI h r l := hh.of_up
theorem MB.live (hm : Mb.MI h r l) : ∀ b, b = r → (h.get b).isSome = true ∧ b < h.n := fun b e => by
  subst e; obtain ⟨es, clk, h1, _⟩ := hm.ex; exact ⟨by rw [h1]; rfl, hm.lt⟩
theorem MB.same2 (hm : Mb.MI h r l) (hg : ∀ b, b = r → h'.get b = h.get b ∧ b < h'.n) : Mb.MI h' r l := by
  obtain ⟨es, clk, h1, h2⟩ := hm.ex
  exact ⟨⟨es, clk, by rw [(hg r rfl).1]; exact h1, h2⟩, hm.nk, (hg r rfl).2⟩
theorem mb_new (hh : H h F) : H (h.push (.map [] 0)) (aMB h.n [] :: F) :=
  hh.fresh (Nat.le_succ _) (fun b hb => AH.get_push_ne _ (by omega)) (fun b e => by omega) (MB.live (Mb.MI.new h)) fun h'' hg => MB.same2 (Mb.MI.new h) hg
theorem mb_put (hh : H h (aMB r l :: F)) (i : Int) : ∃ h', aput (.int .i64) (.map (some r)) (.int .i64 i) (.bool true) h = some h' ∧ H h' (aMB r (aputL l i 1) :: F) := by
  obtain ⟨h', e1, m1, n1, g1⟩ := (mb_at hh).put i 1
  exact ⟨h', e1, hh.run (by omega) (fun b hb hn => g1 b hn) (fun b hb => .inl hb) (MB.live m1) fun h'' hg => MB.same2 m1 hg⟩
end
namespace Wakes
def Q : Value → AH → Prop := fun v _ => v = .bool true
abbrev cs0 : List Cel := List.replicate 6 ⟨0, 0, 0⟩
theorem load0 {c : Int} (h0 : 0 ≤ c) (h1 : c < 6) : loadM cs0 c = (⟨0, 0, 0⟩, 0) := by
  unfold loadM
  rw [if_neg (by simp; omega), List.getElem?_replicate, if_pos (by omega)]
/-- what is read, and the law's map of it -/
structure RI (m : TM) (ins : List (Int × Int)) : Prop where
  st : m.st = 1
  ow : m.owner = 1
  bg : m.beg = 0
  wr : m.σ.writes = []
  k : ∀ i ∈ m.σ.reads.map Prod.fst, 0 ≤ i ∧ i < ((6 : Nat) : Int)
  v : ∀ i v, alook m.σ.reads i = some v → v = 0
  nk : Nk m.σ.reads
  e : ∀ i, alook ins i = (alook m.σ.reads i).map fun _ => (1 : Int)
theorem RI.len {m : TM} {ins : List (Int × Int)} (r : RI m ins) : m.σ.reads.length ≤ 6 := NkB r.nk r.k
theorem RI.wk {m : TM} {ins : List (Int × Int)} (r : RI m ins) : Wk (m.σ.reads.map Prod.fst) := wk_of fun x hx => by
  obtain ⟨h1, h2⟩ := r.k x hx
  omega
theorem RI.new : RI (TM.new 1 0) [] := ⟨rfl, rfl, rfl, rfl, fun i h => (by simp [TM.new] at h), fun i v h => (by cases h), (by simp [Nk, TM.new]), fun i => rfl⟩
theorem RI.read {m : TM} {ins : List (Int × Int)} (r : RI m ins) {c : Int} (h0 : 0 ≤ c) (h1 : c < 6) : ∃ m', m.read cs0 c = ((0, 0), m', cs0) ∧ RI m' (aputL ins c 1) := by
  have e1 : openE m.st cs0.length c = 0 := by
    simp only [openE, List.length_replicate]
    rw [if_neg (by simp [r.st]), if_neg (by omega)]
  have e2 : m.stale (loadM cs0 c).1 c = false := by
    rw [load0 h0 h1]
    unfold TM.stale
    cases hl : alook m.σ.reads c with
    | none => simp [r.bg, aok]
    | some v => simp [r.bg, aok, aval, r.v c v hl]
  have e3 : alook m.σ.writes c = none := by rw [r.wr]; rfl
  have hl := r.len
  unfold TM.read
  rw [if_neg (by rw [e1]; simp), e3, if_neg (by simp [aok]), if_neg (by simp [e2]), load0 h0 h1]
  cases hc : alook m.σ.reads c with
  | some v =>
    obtain rfl := r.v c v hc
    have e4 : m.σ.read c 0 = (0, m.σ) := by
      unfold St.read readM
      rw [if_neg (by omega), if_neg (by omega), hc]
      simp
    have e4' : m.σ.read c (⟨0, 0, 0⟩ : Cel).ver = (0, m.σ) := e4
    refine ⟨m, by simp only [e4']; rfl, r.st, r.ow, r.bg, r.wr, r.k, r.v, r.nk, fun i => ?_⟩
    rw [alook_put]
    split
    · subst_vars; rw [hc]; rfl
    · exact r.e i
  | none =>
    have e4 : m.σ.read c 0 = (0, { m.σ with reads := aputL m.σ.reads c 0 }) := by
      unfold St.read readM
      rw [if_neg (by omega), if_neg (by omega), hc]
      simp only
      rw [if_neg (by omega)]
    have e4' : m.σ.read c (⟨0, 0, 0⟩ : Cel).ver = (0, { m.σ with reads := aputL m.σ.reads c 0 }) := e4
    refine ⟨{ m with σ := { m.σ with reads := aputL m.σ.reads c 0 } }, by simp only [e4']; rfl, r.st, r.ow, r.bg, r.wr, ?_, ?_, r.nk.put c 0, ?_⟩
    · exact putB r.k ⟨h0, by omega⟩ 0
    · intro i v h
      simp only [alook_put] at h
      split at h
      · exact (Option.some.inj h).symm
      · exact r.v i v h
    · intro i
      simp only [alook_put]
      split
      · rfl
      · exact r.e i
/-- the cells while they are published -/
structure PI (cs : List Cel) (clk : Int) : Prop where
  n : cs.length = 6
  c : ∀ (i : Nat) c, cs[i]? = some c → c.own = 0 ∧ 0 ≤ c.ver ∧ c.ver ≤ clk
  p : 0 ≤ clk
theorem PI.new : PI cs0 0 := ⟨rfl, fun i c h => by
  have := List.eq_of_mem_replicate (List.mem_of_getElem? h); subst this; exact ⟨rfl, by decide, by decide⟩, by decide⟩
def hitB (R : List (Int × Int)) (cs : List Cel) : Bool := R.any fun x => decide ((loadM cs x.1).1.ver ≠ 0)
theorem PI.pub {cs : List Cel} {clk : Int} (P : PI cs clk) {c v : Int} (h0 : 0 ≤ c) (h1 : c < 6) : ∃ cs1 cs2, lockM cs c 9 = (0, cs1) ∧ publishM cs1 (clk + 1) c 9 v (clk + 1) = (0, cs2) ∧ PI cs2 (clk + 1) ∧
    ∀ R : List (Int × Int), (∀ i ∈ R.map Prod.fst, 0 ≤ i ∧ i < ((6 : Nat) : Int)) → hitB R cs2 = (hitB R cs || aok (alook R c)) := by
  have hn := P.n
  have hc : c.toNat < cs.length := by omega
  obtain ⟨x, hx⟩ : ∃ x, cs[c.toNat]? = some x := ⟨_, List.getElem?_eq_getElem hc⟩
  obtain ⟨o1, o2, o3⟩ := P.c _ _ hx
  have hp := P.p
  refine ⟨cs.set c.toNat { x with own := 9 }, (cs.set c.toNat { x with own := 9 }).set c.toNat ⟨v, clk + 1, 0⟩, ?_, ?_, ?_, ?_⟩
  · unfold lockM
    rw [if_neg (by omega), hx]
    simp only
    rw [if_neg (by simp [o1])]
  · unfold publishM
    rw [if_neg (by rw [List.length_set]; omega), List.getElem?_set_self hc]
    simp only
    rw [if_neg (by simp), if_neg (by show ¬(clk + 1 ≤ x.ver ∨ clk + 1 < clk + 1); omega)]
  · rw [List.set_set]
    refine ⟨by rw [List.length_set]; exact hn, fun i y hy => ?_, by omega⟩
    by_cases e : c.toNat = i
    · subst e
      rw [List.getElem?_set_self hc] at hy
      obtain rfl := Option.some.inj hy
      exact ⟨rfl, (by show 0 ≤ clk + 1; omega), Int.le_refl _⟩
    · rw [List.getElem?_set_ne e] at hy
      obtain ⟨y1, y2, y3⟩ := P.c _ _ hy
      exact ⟨y1, y2, by omega⟩
  · intro R hR
    rw [List.set_set]
    have hl : ∀ i, 0 ≤ i → i < 6 → (loadM (cs.set c.toNat ⟨v, clk + 1, 0⟩) i).1.ver = if i = c then clk + 1 else (loadM cs i).1.ver := by
      intro i i0 i1
      have e1 : loadM (cs.set c.toNat ⟨v, clk + 1, 0⟩) i = match (cs.set c.toNat ⟨v, clk + 1, 0⟩)[i.toNat]? with
          | none => (⟨0, 0, 0⟩, 2)
          | some c => (c, 0) := by unfold loadM; rw [if_neg (by rw [List.length_set]; omega)]; rfl
      have e2 : loadM cs i = match cs[i.toNat]? with
          | none => (⟨0, 0, 0⟩, 2)
          | some c => (c, 0) := by unfold loadM; rw [if_neg (by omega)]; rfl
      rw [e1, e2]
      by_cases e : i = c
      · rw [if_pos e, e, List.getElem?_set_self hc]
      · rw [if_neg e, List.getElem?_set_ne (by omega)]
    rw [Bool.eq_iff_iff, Bool.or_eq_true]
    unfold hitB
    rw [List.any_eq_true, List.any_eq_true]
    constructor
    · rintro ⟨y, hy, h2⟩
      obtain ⟨y0, y1⟩ := hR y.1 (List.mem_map_of_mem hy)
      rw [hl y.1 y0 (by omega)] at h2
      by_cases e : y.1 = c
      · right
        obtain ⟨w, hw⟩ := alook_mem.mpr (show c ∈ R.map Prod.fst by rw [← e]; exact List.mem_map_of_mem hy)
        rw [hw]; rfl
      · rw [if_neg e] at h2
        exact .inl ⟨y, hy, h2⟩
    · rintro (⟨y, hy, h2⟩ | h2)
      · refine ⟨y, hy, ?_⟩
        obtain ⟨y0, y1⟩ := hR y.1 (List.mem_map_of_mem hy)
        rw [hl y.1 y0 (by omega)]
        split
        · simp; omega
        · exact h2
      · obtain ⟨w, hw⟩ := Option.isSome_iff_exists.mp h2
        obtain ⟨y, hy, e⟩ := List.mem_map.mp (alook_mem.mp ⟨w, hw⟩)
        refine ⟨y, hy, ?_⟩
        obtain ⟨y0, y1⟩ := hR y.1 (List.mem_map_of_mem hy)
        rw [hl y.1 y0 (by omega), if_pos e]
        simp; omega
section
variable {p q mb hb ib r : Nat} {m : TM} {ins : List (Int × Int)} {A : List (Option Addr × List Value)} {F : List Asr}
theorem adv0 {clk : Int} (h0 : 0 ≤ clk) (h1 : clk < 1000) : advM clk = (clk + 1, 0, clk + 1) := by unfold advM; rw [if_neg (by omega)]
/-- behind the publishing of a cell: the variable hit -/
theorem j3_ok {h : AH} {a : Option Addr} {l c3 k : Nat} {x : Int} {cs cs' : List Cel} {clk : Int} {G : List Asr} (ri : RI m ins) (hit : hitB m.σ.reads cs' = (hitB m.σ.reads cs || aok (alook m.σ.reads x)))
    (w : H h (aMem p q cs' clk :: Cs mb [ptr p] 1 :: Cs hb [.bool (hitB m.σ.reads cs)] 1 :: Cs ib [.map (some r)] 1 :: aMB r ins :: G))
    {R : Value → AH → Prop} (K : ∀ h', H h' (aMem p q cs' clk :: Cs mb [ptr p] 1 :: Cs hb [.bool (hitB m.σ.reads cs')] 1 :: Cs ib [.map (some r)] 1 :: aMB r ins :: G) → Ok (law18_WaitWakes_1_j2 l a (some ⟨mb, 0, none⟩) (some ⟨hb, 0, none⟩) (some ⟨ib, 0, none⟩) c3 (k : Nat) h') R) :
    Ok (law18_WaitWakes_1_j3 (some ⟨hb, 0, none⟩) l a (some ⟨mb, 0, none⟩) (some ⟨ib, 0, none⟩) c3 (k : Nat) x h) R := by
  refine Ok.le ?_ law18_WaitWakes_1_j3_le
  have e1 : h.ldB hb 0 = some (hitB m.σ.reads cs) := AH.ldB_of (w.g 2 rfl) rfl
  have e2 : h.ldM ib 0 = some (some r) := AH.ldM_of (w.g 3 rfl) rfl
  simp only [Option.bind_some, e1]
  cases hc : hitB m.σ.reads cs with
  | true =>
    rw [cond_t]
    rw [hc] at w hit
    obtain ⟨h2, s2, w2, n2⟩ := (w.u2).st1 (.bool true)
    simp only [s2, Option.bind_some]
    refine K h2 ?_
    rw [hit, Bool.true_or]
    exact w2.d2
  | false =>
    rw [cond_f]
    rw [hc] at w hit
    obtain ⟨es, m1, m2, m3⟩ := (mb_at (w.mv 4 rfl)).map
    simp only [e2, Option.bind_some, m1]
    rw [Mb.look_eq (by kernel_rfl) m3 x]
    have hb2 : asB (Mb.valM (alook ins x)) = some (aok (alook m.σ.reads x)) := by
      rw [ri.e x]
      cases alook m.σ.reads x <;> rfl
    obtain ⟨h2, s2, w2, n2⟩ := (w.u2).st1 (.bool (aok (alook m.σ.reads x)))
    simp only [Option.bind_some, hb2, s2]
    refine K h2 ?_
    rw [hit, Bool.false_or]
    exact w2.d2
theorem pub_loop {a : Option Addr} {c3 : Nat} {L : List Int} (ri : RI m ins) (hA : (a, L.flatMap encI) ∈ A) (hL : L.length < 281474976710656) : ∀ (n k : Nat) (h : AH) (cs : List Cel) (clk : Int), 10 - k = n → k ≤ 10 → PI cs clk → clk + n ≤ 100 →
    H h (aMem p q cs clk :: Cs mb [ptr p] 1 :: Cs hb [.bool (hitB m.σ.reads cs)] 1 :: Cs ib [.map (some r)] 1 :: aMB r ins :: aRds A :: F) →
    Ok (law18_WaitWakes_1_L1 L.length a (some ⟨mb, 0, none⟩) (some ⟨hb, 0, none⟩) (some ⟨ib, 0, none⟩) c3 (k : Nat) h) fun v h' => v = .bool true ∧ ∃ cs' clk', PI cs' clk' ∧ clk' ≤ clk + n ∧ H h' (aMem p q cs' clk' :: Cs mb [ptr p] 1 :: Cs hb [.bool (hitB m.σ.reads cs')] 1 :: Cs ib [.map (some r)] 1 :: aMB r ins :: aRds A :: F) := by
  intro n
  induction n with
  | zero =>
    intro k h cs clk hn hk P hclk w
    obtain rfl : k = 10 := by omega
    refine Ok.le ?_ law18_WaitWakes_1_L1_le
    have : Ok (law18_WaitWakes_1_j1 h) fun v h' => v = .bool true ∧ ∃ cs' clk', PI cs' clk' ∧ clk' ≤ clk + (0 : Nat) ∧ H h' (aMem p q cs' clk' :: Cs mb [ptr p] 1 :: Cs hb [.bool (hitB m.σ.reads cs')] 1 :: Cs ib [.map (some r)] 1 :: aMB r ins :: aRds A :: F) := by
      refine Ok.le ?_ law18_WaitWakes_1_j1_le
      exact Ok.some ⟨rfl, cs, clk, P, by omega, w⟩
    by_cases c : ((10 : Nat) : Int) < ((L.length : Nat) : Int)
    · rw [dec_t c, cond_t, dec_f (by omega), cond_f]; exact this
    · rw [dec_f c, cond_f]; exact this
  | succ n ih =>
    intro k h cs clk hn hk P hclk w
    refine Ok.le ?_ law18_WaitWakes_1_L1_le
    by_cases c : ((k : Nat) : Int) < ((L.length : Nat) : Int)
    · rw [dec_t c, cond_t, dec_t (by omega), cond_t]
      refine Ok.le ?_ law18_WaitWakes_1_j4_le
      obtain ⟨x, hx⟩ : ∃ x, L[k]? = some x := ⟨_, List.getElem?_eq_getElem (by omega)⟩
      have hr : Rd h a (L.flatMap encI) := (w.mv 5 rfl).rds (p := (a, L.flatMap encI)) hA
      obtain ⟨ad, rfl, e1⟩ := rd_int hr hx
      obtain ⟨b0, b1⟩ := pickM_bd x 6 (by decide)
      obtain ⟨cs1, cs2, l1, l2, P2, hit⟩ := P.pub (v := (k : Int)) b0 b1
      have ep : h.ldP mb 0 = some (some ⟨p, 0, none⟩) := AH.ldP_of (w.g 1 rfl) rfl
      simp only [Option.bind_some, inB_t (show (0 : Int) ≤ (k : Int) by omega) c, cond_t, Int.toNat_natCast, e1, pick_eq x 6 (by decide) (by decide), asI_i64, ep]
      have hp0 := P.p
      refine Ok.bind (mem_run (cs' := cs) (clk' := clk + 1) (P := fun v => v = .tuple #[.int .i64 (clk + 1), .int .i64 0]) (S := [p]) (fun b hb => .inl (by simpa using hb)) w fun M => by
        have := adv_ok M
        rw [adv0 hp0 (by omega)] at this
        exact this) ?_
      rintro _ h2 ⟨rfl, w2⟩
      have ep2 : h2.ldP mb 0 = some (some ⟨p, 0, none⟩) := AH.ldP_of (w2.g 1 rfl) rfl
      simp only [asTu_t, hdO_c, asI_i64, Option.bind_some, List.isEmpty_nil, cond_t, ep2]
      refine Ok.bind (mem_run (cs' := cs1) (clk' := clk + 1) (P := fun v => v = .int .i64 0) (S := [q]) (fun b hb => .inr (by simpa using hb)) w2 fun M => by
        have := lock_ok M (pickM x 6) 9
        rw [l1] at this
        exact this) ?_
      rintro _ h3 ⟨rfl, w3⟩
      have ep3 : h3.ldP mb 0 = some (some ⟨p, 0, none⟩) := AH.ldP_of (w3.g 1 rfl) rfl
      simp only [asI_i64, Option.bind_some, ep3]
      refine Ok.bind (mem_run (cs' := cs2) (clk' := clk + 1) (P := fun v => v = .int .i64 0) (S := [q]) (fun b hb => .inr (by simpa using hb)) w3 fun M => by
        have := publish_ok M (pickM x 6) 9 (k : Int) (clk + 1)
        rw [l2] at this
        exact this) ?_
      rintro _ h4 ⟨rfl, w4⟩
      simp only [asI_i64, Option.bind_some, decide_true, Bool.not_true, cond_f]
      refine j3_ok ri (hit _ ri.k) w4 ?_
      intro h5 w5
      refine Ok.le ?_ law18_WaitWakes_1_j2_le
      rw [show IntKind.wrap .i64 (((k : Nat) : Int) + 1) = ((k + 1 : Nat) : Int) by rw [wrap64 (by omega) (by omega)]; omega]
      refine Ok.mono (ih (k + 1) h5 cs2 (clk + 1) (by omega) (by omega) P2 (by omega) w5) ?_
      rintro v h6 ⟨e, cs', clk', P', hc', w6⟩
      exact ⟨e, cs', clk', P', by omega, w6⟩
    · rw [dec_f c, cond_f]
      refine Ok.le ?_ law18_WaitWakes_1_j1_le
      exact Ok.some ⟨rfl, cs, clk, P, by omega, w⟩
theorem pub_ok {h : AH} {a : Option Addr} {c3 : Nat} {L : List Int} {cs : List Cel} {clk : Int} (ri : RI m ins) (hA : (a, L.flatMap encI) ∈ A) (hL : L.length < 281474976710656) (P : PI cs clk) (hc : clk ≤ 50)
    (w : H h (aMem p q cs clk :: Cs mb [ptr p] 1 :: Cs hb [.bool (hitB m.σ.reads cs)] 1 :: Cs ib [.map (some r)] 1 :: aMB r ins :: aRds A :: F)) :
    Ok (C k_law18_WaitWakes_1 [.slice a L.length c3, ptr mb, ptr hb, ptr ib] h) fun v h' => v = .bool true ∧ ∃ cs' clk', PI cs' clk' ∧ clk' ≤ clk + 10 ∧ H h' (aMem p q cs' clk' :: Cs mb [ptr p] 1 :: Cs hb [.bool (hitB m.σ.reads cs')] 1 :: Cs ib [.map (some r)] 1 :: aMB r ins :: aRds A :: F) := by
  refine Ok.le ?_ law18_WaitWakes_1_le
  unfold F_law18_WaitWakes_1
  exact pub_loop ri hA hL 10 0 h cs clk rfl (by omega) P (by omega) w
/-- who is told -/
theorem cells_any {cs : List Cel} (ri : RI m ins) : (cellsOf m).any (badC cs) = hitB m.σ.reads cs := by
  have key : ∀ (L : List Int) (acc : List (Int × Int)), (∀ x ∈ acc, x.2 = 0) → (∀ i ∈ L, alook m.σ.reads i = some 0) → (∀ x ∈ L.foldl (fun c i => aputL c i (aval (alook m.σ.reads i))) acc, x.2 = 0) ∧
      ∀ i, i ∈ (L.foldl (fun c i => aputL c i (aval (alook m.σ.reads i))) acc).map Prod.fst ↔ i ∈ acc.map Prod.fst ∨ i ∈ L := by
    intro L
    induction L with
    | nil => intro acc ha _; exact ⟨ha, fun i => by simp⟩
    | cons y L ih =>
      intro acc ha hL
      have e : aval (alook m.σ.reads y) = 0 := by rw [hL y (by simp)]; rfl
      have hput : ∀ (acc : List (Int × Int)), (∀ x ∈ acc, x.2 = 0) → ∀ x ∈ aputL acc y 0, x.2 = 0 := by
        intro acc
        induction acc with
        | nil => intro _ x hx; simp [aputL] at hx; subst hx; rfl
        | cons z acc ih2 =>
          intro ha x hx
          unfold aputL at hx
          split at hx
          · rcases List.mem_cons.mp hx with rfl | hx
            · rfl
            · exact ha x (List.mem_cons_of_mem _ hx)
          · rcases List.mem_cons.mp hx with rfl | hx
            · exact ha _ (by simp)
            · exact ih2 (fun x hx => ha x (List.mem_cons_of_mem _ hx)) x hx
      rw [List.foldl_cons, e]
      obtain ⟨i1, i2⟩ := ih (aputL acc y 0) (hput acc ha) (fun i hi => hL i (List.mem_cons_of_mem _ hi))
      refine ⟨i1, fun i => ?_⟩
      rw [i2 i, keys_put, List.mem_cons]
      split
      · constructor
        · rintro (h | h)
          · exact .inl h
          · exact .inr (.inr h)
        · rintro (h | rfl | h)
          · exact .inl h
          · left; assumption
          · exact .inr h
      · rw [List.mem_append, List.mem_singleton]
        constructor
        · rintro ((h | h) | h)
          · exact .inl h
          · exact .inr (.inl h)
          · exact .inr (.inr h)
        · rintro (h | h | h)
          · exact .inl (.inl h)
          · exact .inl (.inr h)
          · exact .inr h
  have hz : ∀ i ∈ sortI (m.σ.reads.map Prod.fst), alook m.σ.reads i = some 0 := by
    intro i hi
    obtain ⟨v, hv⟩ := alook_mem.mpr (sortI_mem.mp hi)
    rw [hv, ri.v i v hv]
  obtain ⟨k1, k2⟩ := key _ [] (by simp) hz
  rw [Bool.eq_iff_iff, List.any_eq_true]
  unfold hitB
  rw [List.any_eq_true]
  constructor
  · rintro ⟨x, hx, hb⟩
    have hx' : x.1 ∈ (cellsOf m).map Prod.fst := List.mem_map_of_mem hx
    have := (k2 x.1).mp hx'
    rcases this with h | h
    · simp at h
    · obtain ⟨y, hy, e⟩ := List.mem_map.mp (sortI_mem.mp h)
      refine ⟨y, hy, ?_⟩
      unfold badC at hb
      rw [k1 x hx] at hb
      rw [e]; exact hb
  · rintro ⟨y, hy, hb⟩
    have : y.1 ∈ (cellsOf m).map Prod.fst := (k2 y.1).mpr (.inr (sortI_mem.mpr (List.mem_map_of_mem hy)))
    obtain ⟨x, hx, e⟩ := List.mem_map.mp this
    refine ⟨x, hx, ?_⟩
    unfold badC
    rw [k1 x hx, e]; exact hb
theorem goes3 {cs : List Cel} (ri : RI m ins) : goesM [(3, cellsOf m)] cs 3 = hitB m.σ.reads cs := by
  unfold goesM find
  rw [if_pos rfl]
  exact cells_any ri
theorem hit0 : ∀ (R : List (Int × Int)), (∀ i ∈ R.map Prod.fst, 0 ≤ i ∧ i < ((6 : Nat) : Int)) → hitB R cs0 = false := by
  intro R hR
  unfold hitB
  rw [List.any_eq_false]
  intro x hx
  obtain ⟨h0, h1⟩ := hR x.1 (List.mem_map_of_mem hx)
  rw [load0 h0 (by omega)]
  simp
theorem ld1 {h : AH} {b : Nat} {x : Bool} {ro : Bool} {op : Bool} {e : Nat} (hg : h.get b = some (.cells [.bool x] op ro e)) : h.ldB b 0 = some x := AH.ldB_of hg rfl
def W3 (m : TM) (b : Bool) : List (Int × List (Int × Int)) := if b then [] else [(3, cellsOf m)]
theorem sort1 (W : List (Int × List (Int × Int))) (h : W.length ≤ 1) : sortI (W.map Prod.fst) = W.map Prod.fst := by
  match W, h with
  | [], _ => exact List.eq_nil_of_length_eq_zero (sortI_len _)
  | [x], _ => exact List.mergeSort_singleton _
theorem j1_ok {h : AH} {w t : Nat} {cs : List Cel} {clk : Int} {G : List Asr} {b : Bool} (hg : goesM [(3, cellsOf m)] cs 3 = b)
    (k : H h (aW w p (W3 m b) :: aMem p q cs clk :: Cs hb [.bool b] 1 :: G)) : Ok (law18_WaitWakes_j1 (some ⟨w, 0, none⟩) h (some ⟨hb, 0, none⟩)) Q := by
  refine Ok.le ?_ law18_WaitWakes_j1_le
  have hk : Wk ((W3 m b).map Prod.fst) := by
    apply wk_of
    cases b <;> simp [W3]
  have hl : (W3 m b).length ≤ 1 := by cases b <;> simp [W3]
  refine Ok.bind (changed_ok k hk (by omega)) ?_
  rintro _ h2 ⟨a, c, L, hL, rfl, w2⟩
  rw [sort1 _ hl] at hL
  have hL0 : L = [] := by
    rw [hL]
    cases b
    · show [(3 : Int)].filter (goesM [(3, cellsOf m)] cs) = []
      rw [List.filter_cons_of_neg (by rw [hg]; decide)]; rfl
    · rfl
  rw [hL0] at w2 ⊢
  have w3 : H h2 (aW w p (W3 m b) :: aRd a (([] : List Int).flatMap encI) :: aMem p q cs clk :: Cs hb [.bool b] 1 :: G) := w2.u1
  simp only [asS_s, Option.bind_some]
  rw [dec_t (by rfl), cond_t]
  refine Ok.bind (forget_ok w3 3) ?_
  rintro _ h4 ⟨rfl, w4⟩
  have e0 : h2.ldB hb 0 = some b := ld1 (w3.g 3 rfl)
  have e1 : h4.ldB hb 0 = some b := ld1 (w4.g 3 rfl)
  simp only [asB_b, Option.bind_some, e0, e1]
  have ef : (find 3 (W3 m b)).isSome = !b := by cases b <;> rfl
  rw [ef]
  have ev : veqO (some (.bool b)) (some (.bool b)) = true := by cases b <;> rfl
  rw [ev, cond_t, beq_self_eq_true, cond_t]
  simp only [C_closed (f := k_law18_awake) rfl h4, Option.bind_some, asB_b]
  exact Ok.some rfl
theorem j2_ok {h : AH} {w t : Nat} {cs : List Cel} {clk : Int} {G : List Asr} {b : Bool} (hg : goesM [(3, cellsOf m)] cs 3 = b)
    (k : H h (aW w p (W3 m b) :: aMem p q cs clk :: Cs hb [.bool b] 1 :: G)) : Ok (law18_WaitWakes_j2 (some ⟨w, 0, none⟩) (some ⟨hb, 0, none⟩) false h) Q := by
  refine Ok.le ?_ law18_WaitWakes_j2_le
  rw [cond_f]
  exact j1_ok (t := t) hg k
theorem j3_end {h : AH} {w t : Nat} {cs : List Cel} {clk : Int} {G : List Asr} {b : Bool} (hg : goesM [(3, cellsOf m)] cs 3 = b)
    (k : H h (aW w p [(3, cellsOf m)] :: aMem p q cs clk :: Cs hb [.bool b] 1 :: G)) : Ok (law18_WaitWakes_j3 (some ⟨w, 0, none⟩) (some ⟨hb, 0, none⟩) h) Q := by
  refine Ok.le ?_ law18_WaitWakes_j3_le
  refine Ok.bind (changed_ok k (wk_of (by simp)) (by simp)) ?_
  rintro _ h2 ⟨a, c, L, hL, rfl, w2⟩
  rw [sort1 _ (by simp)] at hL
  have e0 : h2.ldB hb 0 = some b := ld1 (w2.g 3 rfl)
  have hL0 : L = if b then [3] else [] := by
    rw [hL]
    cases b
    · show [(3 : Int)].filter (goesM [(3, cellsOf m)] cs) = []
      rw [List.filter_cons_of_neg (by rw [hg]; decide)]; rfl
    · show [(3 : Int)].filter (goesM [(3, cellsOf m)] cs) = [3]
      rw [List.filter_cons_of_pos hg]; rfl
  simp only [asS_s, Option.bind_some, e0]
  cases b with
  | false =>
    obtain rfl : L = [] := hL0
    have w3 : H h2 (aW w p (W3 m false) :: aMem p q cs clk :: Cs hb [.bool false] 1 :: G) := w2.drop
    rw [dec_f (by simp), beq_self_eq_true, Bool.not_true, cond_f, dec_f (by simp), cond_f, cond_f]
    exact j2_ok (t := t) hg w3
  | true =>
    obtain rfl : L = [3] := hL0
    have w3 : H h2 (aW w p (W3 m true) :: aMem p q cs clk :: Cs hb [.bool true] 1 :: G) := w2.drop
    obtain ⟨ad, rfl, e1⟩ := rd_int w2.rd (i := 0) (x := 3) rfl
    rw [dec_t (by simp), beq_self_eq_true, Bool.not_true, cond_f, dec_f (by simp), cond_f, cond_t]
    simp only [Option.bind_some, inB_t (show (0 : Int) ≤ 0 by omega) (show (0 : Int) < (([(3 : Int)].length : Nat) : Int) by simp), cond_t, e1, decide_true, Bool.not_true]
    exact j2_ok (t := t) hg w3
theorem j4_ok {h : AH} {w t : Nat} {a4 a7 : Option Addr} {c6 c9 : Nat} {L4 L7 : List Int} (ri : RI m ins) (h4 : (a4, L4.flatMap encI) ∈ A) (h7 : (a7, L7.flatMap encI) ∈ A) (hl4 : L4.length < 281474976710656) (hl7 : L7.length < 281474976710656)
    (k : H h (aTX p t m :: aMem p q cs0 0 :: aW w p [] :: Cs mb [ptr p] 1 :: Cs ib [.map (some r)] 1 :: aMB r ins :: aRds A :: F)) :
    Ok (law18_WaitWakes_j4 h a4 L4.length c6 (some ⟨mb, 0, none⟩) (some ⟨ib, 0, none⟩) (some ⟨w, 0, none⟩) (some ⟨t, 0, none⟩) a7 L7.length c9) Q := by
  refine Ok.le ?_ law18_WaitWakes_j4_le
  obtain ⟨h2, s2, k2, n2⟩ := k.var [.bool false] [.bool false] 1 rfl
  simp only [s2, Option.bind_some]
  have k3 : H h2 (aMem p q cs0 0 :: Cs mb [ptr p] 1 :: Cs h.n [.bool (hitB m.σ.reads cs0)] 1 :: Cs ib [.map (some r)] 1 :: aMB r ins :: aRds A :: aTX p t m :: aW w p [] :: F) := by
    rw [hit0 _ ri.k]
    exact k2.pm [2, 4, 0, 5, 6, 7, 1, 3]
  refine Ok.bind (pub_ok (c3 := c6) ri h4 hl4 PI.new (by decide) k3) ?_
  rintro _ h5 ⟨rfl, cs1, clk1, P1, hc1, k5⟩
  simp only [asB_b, Option.bind_some, Bool.not_true, cond_f]
  have k6 : H h5 (aW w p [] :: aTX p t m :: aMem p q cs1 clk1 :: Cs mb [ptr p] 1 :: Cs h.n [.bool (hitB m.σ.reads cs1)] 1 :: Cs ib [.map (some r)] 1 :: aMB r ins :: aRds A :: F) := k5.pm [7, 6, 0, 1, 2, 3, 4, 5]
  have hlen := ri.len
  refine Ok.bind (park_ok k6 (by rw [ri.st]; decide) ri.wk (by omega) 3) ?_
  rintro _ h70 ⟨rfl, k7⟩
  have ep : parkM [] m 3 = (0, [(3, cellsOf m)]) := rfl
  rw [ep] at k7 ⊢
  simp only [asI_i64, Option.bind_some, decide_true, Bool.not_true, cond_f]
  have k8 : H h70 (aMem p q cs1 clk1 :: Cs mb [ptr p] 1 :: Cs h.n [.bool (hitB m.σ.reads cs1)] 1 :: Cs ib [.map (some r)] 1 :: aMB r ins :: aRds A :: aW w p [(3, cellsOf m)] :: aTX p t m :: F) := k7.pm [2, 3, 4, 5, 6, 7, 0, 1]
  refine Ok.bind (pub_ok (c3 := c9) ri h7 hl7 P1 (by omega) k8) ?_
  rintro _ h9 ⟨rfl, cs2, clk2, P2, hc2, k9⟩
  simp only [asB_b, Option.bind_some, Bool.not_true, cond_f]
  exact j3_end (t := t) (goes3 ri) (k9.pm [6, 0, 2, 1, 3, 4, 5, 7])
theorem read_loop {w t : Nat} {a1 a4 a7 : Option Addr} {c3 c6 c9 : Nat} {L1 L4 L7 : List Int} (h1 : (a1, L1.flatMap encI) ∈ A) (h4 : (a4, L4.flatMap encI) ∈ A) (h7 : (a7, L7.flatMap encI) ∈ A) (hl1 : L1.length < 281474976710656) (hl4 : L4.length < 281474976710656) (hl7 : L7.length < 281474976710656) : ∀ (n k : Nat) (h : AH) (m : TM) (ins : List (Int × Int)), 20 - k = n → k ≤ 20 → RI m ins →
    H h (aTX p t m :: aMem p q cs0 0 :: aW w p [] :: Cs mb [ptr p] 1 :: Cs ib [.map (some r)] 1 :: aMB r ins :: aRds A :: F) →
    Ok (law18_WaitWakes_L1 L1.length a1 (some ⟨t, 0, none⟩) (some ⟨w, 0, none⟩) (some ⟨mb, 0, none⟩) a7 L7.length c9 a4 L4.length c6 c3 (some ⟨ib, 0, none⟩) (k : Nat) h) Q := by
  intro n
  induction n with
  | zero =>
    intro k h m ins hn hk ri w0
    obtain rfl : k = 20 := by omega
    refine Ok.le ?_ law18_WaitWakes_L1_le
    by_cases c : ((20 : Nat) : Int) < ((L1.length : Nat) : Int)
    · rw [dec_t c, cond_t, dec_f (by omega), cond_f]; exact j4_ok ri h4 h7 hl4 hl7 w0
    · rw [dec_f c, cond_f]; exact j4_ok ri h4 h7 hl4 hl7 w0
  | succ n ih =>
    intro k h m ins hn hk ri w0
    refine Ok.le ?_ law18_WaitWakes_L1_le
    by_cases c : ((k : Nat) : Int) < ((L1.length : Nat) : Int)
    · rw [dec_t c, cond_t, dec_t (by omega), cond_t]
      refine Ok.le ?_ law18_WaitWakes_j7_le
      obtain ⟨x, hx⟩ : ∃ x, L1[k]? = some x := ⟨_, List.getElem?_eq_getElem (by omega)⟩
      have hr : Rd h a1 (L1.flatMap encI) := (w0.mv 6 rfl).rds (p := (a1, L1.flatMap encI)) h1
      obtain ⟨ad, rfl, e1⟩ := rd_int hr hx
      obtain ⟨b0, b1⟩ := pickM_bd x 6 (by decide)
      simp only [Option.bind_some, inB_t (show (0 : Int) ≤ (k : Int) by omega) c, cond_t, Int.toNat_natCast, e1, pick_eq x 6 (by decide) (by decide), asI_i64]
      obtain ⟨m', er, ri'⟩ := ri.read b0 b1
      refine Ok.bind (MRead w0 (by rw [ri.ow]; decide) (by decide) (pickM x 6)) ?_
      rintro _ h2 ⟨rfl, w2⟩
      rw [er] at w2 ⊢
      simp only at w2
      simp only [asTu_t, hdO_c, asI_i64, Option.bind_some, List.isEmpty_nil, cond_t, decide_true, Bool.not_true, cond_f]
      refine Ok.le ?_ law18_WaitWakes_j6_le
      have e2 : h2.ldM ib 0 = some (some r) := AH.ldM_of (w2.g 4 rfl) rfl
      obtain ⟨h3, e3, w3⟩ := mb_put (w2.mv 5 rfl) (pickM x 6)
      simp only [Option.bind_some, e2, e3]
      refine Ok.le ?_ law18_WaitWakes_j5_le
      rw [show IntKind.wrap .i64 (((k : Nat) : Int) + 1) = ((k + 1 : Nat) : Int) by rw [wrap64 (by omega) (by omega)]; omega]
      exact ih (k + 1) h3 m' _ (by omega) (by omega) ri' (w3.pm [1, 2, 3, 4, 5, 0, 6])
    · rw [dec_f c, cond_f]; exact j4_ok ri h4 h7 hl4 hl7 w0
end
theorem main (h : AH) {a1 : Option Addr} {l2 c3 : Nat} {L1 : List Int} (hs1 : SlIn h encI (fun _ => True) a1 l2 c3 L1) {a4 : Option Addr} {l5 c6 : Nat} {L4 : List Int} (hs2 : SlIn h encI (fun _ => True) a4 l5 c6 L4) {a7 : Option Addr} {l8 c9 : Nat} {L7 : List Int} (hs3 : SlIn h encI (fun _ => True) a7 l8 c9 L7) :
    Ok (C k_law18_WaitWakes [.slice a1 l2 c3, .slice a4 l5 c6, .slice a7 l8 c9] h) Q := by
  have w : H h [aRds [(a1, L1.flatMap encI), (a4, L4.flatMap encI), (a7, L7.flatMap encI)]] := H.args (by
    intro p hp
    simp only [List.mem_cons, List.not_mem_nil, or_false] at hp
    rcases hp with rfl | rfl | rfl
    · exact hs1.rd
    · exact hs2.rd
    · exact hs3.rd)
  obtain rfl := hs1.len
  obtain rfl := hs2.len
  obtain rfl := hs3.len
  have b1 := hs1.cap
  have b2 := hs2.cap
  have b3 := hs3.cap
  have d1 := hs1.le
  have d2 := hs2.le
  have d3 := hs3.le
  refine Ok.le ?_ law18_WaitWakes_le
  unfold F_law18_WaitWakes
  rcases new_ok h 6 with ⟨hbad, _⟩ | ⟨_, _, h1, e1, M1, f1, n1⟩
  · omega
  simp only [e1, Option.bind_some, asTu_t, hdO_c, asP_p, asI_i64, List.isEmpty_nil, cond_t, decide_true, Bool.not_true, cond_f]
  have wM : H h1 (aMem (h.n + 1) h.n cs0 0 :: _) := w.fresh f1.n (fun b hb => f1.g b hb (by simp)) (fun b hb => by omega) M1.live fun h'' hg => M1.same2 hg
  obtain ⟨h2, s2, w2, n2⟩ := wM.var [.pointer none] [ptr (h.n + 1)] 1 rfl
  simp only [s2, Option.bind_some]
  refine Ok.le ?_ law18_WaitWakes_j9_le
  have e2 : h2.ldP h1.n 0 = some (some ⟨h.n + 1, 0, none⟩) := AH.ldP_of (w2.g 0 rfl) rfl
  simp only [e2, Option.bind_some]
  refine Ok.bind (new_W (w2.mv 1 rfl) (by decide)) ?_
  rintro _ h3 ⟨wa, rfl, w3⟩
  have e3 : h3.ldP h1.n 0 = some (some ⟨h.n + 1, 0, none⟩) := AH.ldP_of (w3.g 2 rfl) rfl
  simp only [asTu_t, hdO_c, asP_p, asI_i64, Option.bind_some, List.isEmpty_nil, cond_t, e3]
  refine Ok.bind (MBegin (w3.mv 1 rfl) (o := 1) (by decide)) ?_
  rintro _ h4 ⟨t, rfl, w4⟩
  simp only [asTu_t, hdO_c, asP_p, asI_i64, Option.bind_some, List.isEmpty_nil, cond_t, decide_true, Bool.not_true, cond_f]
  refine Ok.le ?_ law18_WaitWakes_j8_le
  have w5 := mb_new w4
  obtain ⟨h6, s6, w6, n6⟩ := w5.var [.map none] [.map (some h4.n)] 1 rfl
  simp only [s6, Option.bind_some]
  exact read_loop (A := [(a1, L1.flatMap encI), (a4, L4.flatMap encI), (a7, L7.flatMap encI)]) (h1 := by simp) (h4 := by simp) (h7 := by simp) (by omega) (by omega) (by omega) 20 0 h6 _ [] rfl (by omega) RI.new (w6.pm [2, 3, 4, 5, 0, 1, 6])
end Wakes
end Go.Lg.Tryz
